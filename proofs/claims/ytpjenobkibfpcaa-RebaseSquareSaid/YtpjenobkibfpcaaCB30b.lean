import Derived.Test.YtpjenobkibfpcaaCL30d
import Derived.Test.YtpjenobkibfpcaaCB30a
set_option linter.unusedSimpArgs false
set_option linter.unusedVariables false
namespace Go.AM.Ytpjenobkibfpcaa
open Go.AM Go.Proofs
noncomputable section
def ZkZ:ArgL (WEdit × Unit):=(.cons (aEl .wedit) .nil)
def ZeI(a:WEdit × Unit):Prop:=True
def ZhP(a:WEdit × Unit):V U:= .c (.bool (decide (WEdit.mask a.1=0)))
def Z2f:Fs U:=fs ZkZ (fun a=> [ZeI a]) ZhP
def ZkY:ArgL (Kid × Unit):=(.cons (aEl .kid) .nil)
def ZeG(a:Kid × Unit):Prop:=True
def ZhO(a:Kid × Unit):V U:= .c (.bool (decide (Edit.kind a.1.e=0)))
def Z2e:Fs U:=fs ZkY (fun a=> [ZeG a]) ZhO
def Zi0(a:Op × Unit):Prop:=True
def ZhM(a:Op × Unit):V U:= .c (.bool (!decide (OpOf.kind a.1=0)))
def Z6v:Fs U:=fs ZkS (fun a=> [Zi0 a]) ZhM
def ZkR:ArgL (List WEdit × Unit × Unit):=(.cons (aSl .wedit) (.cons (aFn 174) .nil))
def ZeB(a:List WEdit × Unit × Unit):Prop:=(a.1).length<=1000000000000
def Zel(a:List WEdit × Unit × Unit):V U:= .c (ci (YR (fun w:WEdit=> decide (WEdit.mask w=0)) a.1 0))
def Z6s:Fs U:=fs ZkR (fun a=> [ZeB a]) Zel
def Zhr:ArgL (List Kid × Unit × Unit):=(.cons (aSl .kid) (.cons (aFn 176) .nil))
def Zai(a:List Kid × Unit × Unit):Prop:=(a.1).length<=1000000000000
def Zaf(a:List Kid × Unit × Unit):V U:= .c (ci (YR (fun k:Kid=> decide (Edit.kind k.e=0)) a.1 0))
def Z3U:Fs U:=fs Zhr (fun a=> [Zai a]) Zaf
def ZkQ:ArgL (List Op × Unit × Unit):=(.cons (aSl .op) (.cons (aFn 182) .nil))
def ZeA(a:List Op × Unit × Unit):Prop:=(a.1).length<=1000000000000
def Zek(a:List Op × Unit × Unit):V U:= .c (ci (YR (fun o:Op=> !decide (OpOf.kind o=0)) a.1 0))
def Z6r:Fs U:=fs ZkQ (fun a=> [ZeA a]) Zek
def ZhN(a:List Op × Unit × Unit):V U:= .c (.bool ((a.1).any fun o=> !decide (OpOf.kind o=0)))
def Z6w:Fs U:=fs ZkQ (fun a=> [ZeA a]) ZhN
def Zeo(a:Int × Unit):V U:= .c (sU .op (JA a.1) (.own (.r 0 0)))
def Z6y:Fs U:=fs Zl9 (fun a=> [Zi2 a]) Zeo
def Zl4:ArgL (List WEdit × Unit):=(.cons (aSl .wedit) .nil)
def ZbF(a:List WEdit × Unit):Prop:=(a.1).length<=100000000000
def Zad(a:List WEdit × Unit):List WEdit:=a.1
def Za0:Fs U:=fsL Zl4 (fun a=> [ZbF a]) .wedit Zad
def Zl2:ArgL (List Kid × Unit):=(.cons (aSl .kid) .nil)
def ZbD(a:List Kid × Unit):Prop:=(a.1).length<=100000000000
def Zac(a:List Kid × Unit):List Kid:=a.1
def Z9X:Fs U:=fsL Zl2 (fun a=> [ZbD a]) .kid Zac
def Zat:ArgM (List WEdit × Unit × Unit):=(.lst (cWt .wedit (.e 0 0)) (.cons (aFn 174) .nil))
def Zeq(a:List WEdit × Unit × Unit):V U:= .c (sU .wedit ((a.1).filter fun w=> !decide (WEdit.mask w=0)) .unk)
def Za6(a:List WEdit × Unit × Unit):List (List (C U)):=[]
def Zaa(a:List WEdit × Unit × Unit):List (Tok × LC U):=[]
def Z6A:Fs U:=(ZcN Zat (fun a=> [ZeB a]) Zeq Za6 Zaa).passing [0]
def Zas:ArgM (List Kid × Unit × Unit):=(.lst (cWt .kid (.e 0 0)) (.cons (aFn 176) .nil))
def Zep(a:List Kid × Unit × Unit):V U:= .c (sU .kid ((a.1).filter fun k=> !decide (Edit.kind k.e=0)) .unk)
def Za5(a:List Kid × Unit × Unit):List (List (C U)):=[]
def Za9(a:List Kid × Unit × Unit):List (Tok × LC U):=[]
def Z6z:Fs U:=(ZcN Zas (fun a=> [Zai a]) Zep Za5 Za9).passing [0]
def Zau:ArgM ((Int × Int × List Int × List Tree × Int × List Int × List Tree × List WEdit × List Kid × Int × List Op × Unit) × Unit):=(.agg (.cons (Zfh .i64) (.cons (Zfh .i64) (.cons (cSl .u64) (.cons (cSl .tree) (.cons (Zfh .i64) (.cons (cSl .u64) (.cons (cSl .tree) (.cons (cWt .wedit (.e 0 7)) (.cons (cWt .kid (.e 0 8)) (.cons (Zfh .i64) (.cons (cSl .op) .nil))))))))))) .nil)
def ZbC(a:(Int × Int × List Int × List Tree × Int × List Int × List Tree × List WEdit × List Kid × Int × List Op × Unit) × Unit):Prop:=(a.1.2.2.2.2.2.2.2.1).length<=10000000000/\(a.1.2.2.2.2.2.2.2.2.1).length<=10000000000
def Zet(a:(Int × Int × List Int × List Tree × Int × List Int × List Tree × List WEdit × List Kid × Int × List Op × Unit) × Unit):V U:= .agg (enc .edit (Z2I (Edit.mk a.1.1 (Tree.mk a.1.2.1 a.1.2.2.1 a.1.2.2.2.1) (Tree.mk a.1.2.2.2.2.1 a.1.2.2.2.2.2.1 a.1.2.2.2.2.2.2.1) a.1.2.2.2.2.2.2.2.1 a.1.2.2.2.2.2.2.2.2.1 a.1.2.2.2.2.2.2.2.2.2.1 a.1.2.2.2.2.2.2.2.2.2.2.1)))
def Za8(a:(Int × Int × List Int × List Tree × Int × List Int × List Tree × List WEdit × List Kid × Int × List Op × Unit) × Unit):List (List (C U)):=[]
def Zab(a:(Int × Int × List Int × List Tree × Int × List Int × List Tree × List WEdit × List Kid × Int × List Op × Unit) × Unit):List (Tok × LC U):=[]
def Z9W:Fs U:=(ZcN Zau (fun a=> [ZbC a]) Zet Za8 Zab).passing [0]
def ZbB(a:Int × List Op × Unit):Prop:=(a.2.1).length<=1000000000000
def Zes(a:Int × List Op × Unit):V U:= .agg (enc .edit (Z0j a.1 a.2.1))
def Z9T:Fs U:=fs Zfk (fun a=> [ZbB a]) Zes
def Zfv:ArgM ((Bool × Bool × Unit) × Edit × Tree × Tree × Unit):=(.obj 0 (.cons Z1f (.cons Z1f .nil)) (.cons (aEl .edit) (.cons (aEl .tree) (.cons (aEl .tree) .nil))))
def Z8h(a:(Bool × Bool × Unit) × Edit × Tree × Tree × Unit):Prop:=(Z8 a.2.1<=20000000000/\Yl a.2.1/\∃ d,Z5 a.2.1 d=true)/\(Zi a.2.2.1+ctE a.2.1<=200000000000/\rng a.2.2.1)/\Zi a.2.2.2.1<=100000000000
def Zbs(a:(Bool × Bool × Unit) × Edit × Tree × Tree × Unit):V U:= .tup []
def Z6S(a:(Bool × Bool × Unit) × Edit × Tree × Tree × Unit):List (List (C U)):=[[.bool (a.1.1 || (JW a.2.1 a.2.2.1 a.2.2.2.1).c),.bool (a.1.2.1 || (JW a.2.1 a.2.2.1 a.2.2.2.1).a)]]
def Za2:Fs U:=fsX Zfv (fun a=> [Z8h a]) Zbs Z6S
def Zft:ArgM ((Unit × List Op × List Op × List Tree × List Tree × Unit) × (Bool × Bool × Unit) × Unit):=(.obj 0 (.cons (cXp 1) (.cons (Z39 .op 0 1) (.cons (Z39 .op 0 2) (.cons (Z39 .tree 0 3) (.cons (Z39 .tree 0 4) .nil))))) (.hid (.cons Z1f (.cons Z1f .nil)) .nil))
def ZeL(a:(Unit × List Op × List Op × List Tree × List Tree × Unit) × (Bool × Bool × Unit) × Unit):Prop:=((a.1.2.1).length<=10000000000/\(a.1.2.2.1).length<=10000000000)/\Z7 a.1.2.2.2.1<=100000000000/\Z7 a.1.2.2.2.2.1<=100000000000
def ZnL(a:(Unit × List Op × List Op × List Tree × List Tree × Unit) × (Bool × Bool × Unit) × Unit):V U:= .tup []
def Z6O(a:(Unit × List Op × List Op × List Tree × List Tree × Unit) × (Bool × Bool × Unit) × Unit):List (List (C U)):=[[.xp 1,sU .op (a.1.2.1++(Jb a.1.2.2.2.1 a.1.2.2.2.2.1).x) (.own (.x 0 1)),sU .op (a.1.2.2.1++(Jb a.1.2.2.2.1 a.1.2.2.2.2.1).y) (.own (.x 0 2)),sU .tree ([]:List Tree) (.own (.x 0 3)),sU .tree ([]:List Tree) (.own (.x 0 4))],[.bool (a.2.1.1 || (Jb a.1.2.2.2.1 a.1.2.2.2.2.1).c),.bool a.2.1.2.1]]
def Z9U:Fs U:=fsX Zft (fun a=> [ZeL a]) ZnL Z6O
abbrev Zzb(p:List Nat):=AW (Z6 Ziq) Try.f174 Zv4 p
theorem Zx5(w:WEdit)(Q:QT)(h:(Q .ret (L2 [pB 2 (w.mask==0)] []))):
  Zzb [] (L2 [(0,.agg (enc .wedit w))] []) Q:=
 Eq.mpr (by kernel_rfl) h
def ZsS(w:WEdit):Prop:=AW (Z6 Ziq) Try.f174 Zv4 [] (Zm (ZkZ.can (w,())) []) (EQ Try.f174 (ZhP (w,())) [])
theorem ZrD(hb:∀ (w:WEdit) (_:Unit),ZeI (w,())->ZsS w):CT 174 Z2f:=
 Z4 (l:=[]) Zn rfl trivial Zv4 Try.func174 rfl rfl 1 (fun _=> rfl) (by decide) (fun ⟨w,_⟩=> hb w ())
abbrev Zza(p:List Nat):=AW (Z6 Ziq) Try.f176 Zv4 p
theorem Zx3(k:Kid)(Q:QT)(h:(Q .ret (L2 [pB 2 (k.e.kind==0)] []))):
  Zza [] (L2 [(0,.agg (enc .kid k))] []) Q:=
 Eq.mpr (by kernel_rfl) h
def ZsQ(k:Kid):Prop:=AW (Z6 Ziq) Try.f176 Zv4 [] (Zm (ZkY.can (k,())) []) (EQ Try.f176 (ZhO (k,())) [])
theorem ZrB(hb:∀ (k:Kid) (_:Unit),ZeG (k,())->ZsQ k):CT 176 Z2e:=
 Z4 (l:=[]) Zn rfl trivial Zv4 Try.func176 rfl rfl 1 (fun _=> rfl) (by decide) (fun ⟨k,_⟩=> hb k ())
abbrev Zz4(p:List Nat):=AW (Z6 Ziq) Try.f182 Zv4 p
theorem ZwX(o:Op)(Q:QT)(h:(Q .ret (L2 [pB 2 (o.kind !=0)] []))):
  Zz4 [] (L2 [(0,.agg (enc .op o))] []) Q:=
 Eq.mpr (by kernel_rfl) h
def ZsK(o:Op):Prop:=AW (Z6 Ziq) Try.f182 Zv4 [] (Zm (ZkS.can (o,())) []) (EQ Try.f182 (ZhM (o,())) [])
theorem Zrv(hb:∀ (o:Op) (_:Unit),Zi0 (o,())->ZsK o):CT 182 Z6v:=
 Z4 (l:=[]) Zn rfl trivial Zv4 Try.func182 rfl rfl 1 (fun _=> rfl) (by decide) (fun ⟨o,_⟩=> hb o ())
def Zf3:List (FuncId × Fs U):=[(174,Z2f)]
def ZjY:Zf U:=lvl [([0,1],[]),([0,1,7,8],[]),([0,1,7,8,9],[]),([0,1,5,7,8],[]),([0,1,5,7,8,16],[]),([4],[]),([0,1,7,8],[]),([4],[])]
def Z57(l:List WEdit)(f:Unit)(x8:Int):LSt U:=(L2 [(0,.c (sU .wedit l .unk)),(1,.fn 174),pI 7 (l.length:Int),pI 8 x8] [])
abbrev ZwG(p:List Nat):=AW (Z6 Zf3) Try.f192 ZjY p
abbrev Zyd(p:List Nat):=SW (Z6 Zf3) Try.f192 ZjY p
theorem ZwS(l:List WEdit)(f:Unit)(Q:QT)(h:(Zo (ZwG [1,0,1,0,0]) (Z57 l f 0) (xB 0 (Zyd [1,1] Q)))):
  ZwG [] (L2 [(0,.c (sU .wedit l .unk)),(1,.fn 174)] []) Q:=
 Eq.mpr (by kernel_rfl) h
theorem Zn1(l:List WEdit)(f:Unit)(x8:Int)(N0:NT)(Q:QT)(h:let z2:=decide (x8 < (l.length:Int));let z1:=l.getD x8.toNat (WEdit.mk 0 0 0 0);let z0:=WEdit.mk (WEdit.at_ z1) (WEdit.mask z1) (WEdit.old z1) (WEdit.new z1);((z2=true->(((0:Int)<=x8/\x8 < (l.length:Int))/\(ZeI (z0,()))/\(((decide (WEdit.mask z0=0))=true->(Q .ret (L2 [pI 4 x8] [])))/\((decide (WEdit.mask z0=0))=false->(InR (x8+1))/\(N0 (Z57 l f (x8+1)))))))/\(z2=false->(Q .ret (L2 [pI 4 (-1)] []))))):
  ZwG [1,0,1,0,0] (Z57 l f x8) (xT N0 (xB 0 (Zyd [1,1] Q))):=
 Eq.mpr (by kernel_rfl) h
def ZsF(l:List WEdit)(f:Unit):Prop:=AW (Z6 Zf3) Try.f192 ZjY [] (Zm (ZkR.can (l,f,())) []) (EQ Try.f192 (Zel (l,f,())) [])
theorem Zrq(ZmD:CT 174 Z2f)(hb:∀ (l:List WEdit) (f:Unit) (_:Unit),ZeB (l,f,())->ZsF l f):CT 192 Z6s:=
 Z4 (l:=[(174,Z2f)]) Zn rfl (⟨ZmD,trivial⟩) ZjY Try.func192 rfl rfl 2 (fun _=> rfl) (by decide) (fun ⟨l,f,_⟩=> hb l f ())
def Zce:List (FuncId × Fs U):=[(176,Z2e)]
def Z3A(l:List Kid)(f:Unit)(x8:Int):LSt U:=(L2 [(0,.c (sU .kid l .unk)),(1,.fn 176),pI 7 (l.length:Int),pI 8 x8] [])
abbrev Zqq(p:List Nat):=AW (Z6 Zce) Try.f72 ZjY p
abbrev Zu2(p:List Nat):=SW (Z6 Zce) Try.f72 ZjY p
theorem Zue(l:List Kid)(f:Unit)(Q:QT)(h:(Zo (Zqq [1,0,1,0,0]) (Z3A l f 0) (xB 0 (Zu2 [1,1] Q)))):
  Zqq [] (L2 [(0,.c (sU .kid l .unk)),(1,.fn 176)] []) Q:=
 Eq.mpr (by kernel_rfl) h
theorem Zls(l:List Kid)(f:Unit)(x8:Int)(N0:NT)(Q:QT)(h:∀ y_1,y_1=(l.getD x8.toNat (KidOf.mk 0 Edit.nil))->∀ y_2,y_2=y_1->let z1:=decide (Edit.kind y_2.e=0);let z0:=decide (x8 < (l.length:Int));((z0=true->(((0:Int)<=x8/\x8 < (l.length:Int))/\(ZeG (y_2,()))/\((z1=true->(Q .ret (L2 [pI 4 x8] [])))/\(z1=false->(InR (x8+1))/\(N0 (Z3A l f (x8+1)))))))/\(z0=false->(Q .ret (L2 [pI 4 (-1)] []))))):
  Zqq [1,0,1,0,0] (Z3A l f x8) (xT N0 (xB 0 (Zu2 [1,1] Q))):=
 Eq.mpr (by kernel_rfl) (h _ rfl _ (Zgi _))
def Zqp(l:List Kid)(f:Unit):Prop:=AW (Z6 Zce) Try.f72 ZjY [] (Zm (Zhr.can (l,f,())) []) (EQ Try.f72 (Zaf (l,f,())) [])
theorem ZoC(ZmC:CT 176 Z2e)(hb:∀ (l:List Kid) (f:Unit) (_:Unit),Zai (l,f,())->Zqp l f):CT 72 Z3U:=
 Z4 (l:=[(176,Z2e)]) Zn rfl (⟨ZmC,trivial⟩) ZjY Try.func72 rfl rfl 2 (fun _=> rfl) (by decide) (fun ⟨l,f,_⟩=> hb l f ())
def Zf2:List (FuncId × Fs U):=[(182,Z6v)]
def Z56(l:List Op)(f:Unit)(x8:Int):LSt U:=(L2 [(0,.c (sU .op l .unk)),(1,.fn 182),pI 7 (l.length:Int),pI 8 x8] [])
abbrev ZwF(p:List Nat):=AW (Z6 Zf2) Try.f193 ZjY p
abbrev Zyc(p:List Nat):=SW (Z6 Zf2) Try.f193 ZjY p
theorem ZwR(l:List Op)(f:Unit)(Q:QT)(h:(Zo (ZwF [1,0,1,0,0]) (Z56 l f 0) (xB 0 (Zyc [1,1] Q)))):
  ZwF [] (L2 [(0,.c (sU .op l .unk)),(1,.fn 182)] []) Q:=
 Eq.mpr (by kernel_rfl) h
theorem Zn0(l:List Op)(f:Unit)(x8:Int)(N0:NT)(Q:QT)(h:∀ y_1,y_1=(l.getD x8.toNat Op.nil)->∀ y_2,y_2=y_1->let z0:=decide (x8 < (l.length:Int));((z0=true->(((0:Int)<=x8/\x8 < (l.length:Int))/\(Zi0 (y_2,()))/\(((!decide (OpOf.kind y_2=0))=true->(Q .ret (L2 [pI 4 x8] [])))/\((!decide (OpOf.kind y_2=0))=false->(InR (x8+1))/\(N0 (Z56 l f (x8+1)))))))/\(z0=false->(Q .ret (L2 [pI 4 (-1)] []))))):
  ZwF [1,0,1,0,0] (Z56 l f x8) (xT N0 (xB 0 (Zyc [1,1] Q))):=
 Eq.mpr (by kernel_rfl) (h _ rfl _ (YA _))
def ZsE(l:List Op)(f:Unit):Prop:=AW (Z6 Zf2) Try.f193 ZjY [] (Zm (ZkQ.can (l,f,())) []) (EQ Try.f193 (Zek (l,f,())) [])
theorem Zrp(Zvw:CT 182 Z6v)(hb:∀ (l:List Op) (f:Unit) (_:Unit),ZeA (l,f,())->ZsE l f):CT 193 Z6r:=
 Z4 (l:=[(182,Z6v)]) Zn rfl (⟨Zvw,trivial⟩) ZjY Try.func193 rfl rfl 2 (fun _=> rfl) (by decide) (fun ⟨l,f,_⟩=> hb l f ())
def Zkf:List (FuncId × Fs U):=[(193,Z6r)]
abbrev Zz5(p:List Nat):=AW (Z6 Zkf) Try.f181 Zv1 p
theorem ZwY(l:List Op)(f:Unit)(Q:QT)(h:((ZeA (l,(),()))/\(Q .ret (L2 [(4,.c (.bool (decide ((0:Int)<=(YR (fun o:Op=> !decide (OpOf.kind o=0)) l 0)))))] [])))):
  Zz5 [] (L2 [(0,.c (sU .op l .unk)),(1,.fn 182)] []) Q:=
 Eq.mpr (by kernel_rfl) h
def ZsL(l:List Op)(f:Unit):Prop:=AW (Z6 Zkf) Try.f181 Zv1 [] (Zm (ZkQ.can (l,f,())) []) (EQ Try.f181 (ZhN (l,f,())) [])
theorem Zrw(Zvs:CT 193 Z6r)(hb:∀ (l:List Op) (f:Unit) (_:Unit),ZeA (l,f,())->ZsL l f):CT 181 Z6w:=
 Z4 (l:=[(193,Z6r)]) Zn rfl (⟨Zvs,trivial⟩) Zv1 Try.func181 rfl rfl 2 (fun _=> rfl) (by decide) (fun ⟨l,f,_⟩=> hb l f ())
abbrev Zz9(p:List Nat):=AW (Z6 Ziq) Try.f177 Zp6 p
theorem Zx2(n:Int)(Q:QT)(h:(((n==0)=true->(Q .ret (L2 [(2,.c (.nils))] [])))/\((n==0)=false->(Q .ret (L2 [(2,.c (sU .op ([(OpOf.mk 0 n [] (Edit.mk 0 (Tree.mk 0 [] []) (Tree.mk 0 [] []) [] [] 0 []))]) .full))] []))))):
  Zz9 [] (L2 [pI 0 n] []) Q:=
 Eq.mpr (by kernel_rfl) h
def ZsP(n:Int):Prop:=AW (Z6 Ziq) Try.f177 Zp6 [] (Zm (Zl9.can (n,())) []) (EQ Try.f177 (Zeo (n,())) [])
theorem ZrA(hb:∀ (n:Int) (_:Unit),Zi2 (n,())->ZsP n):CT 177 Z6y:=
 Z4 (l:=[]) Zn rfl trivial Zp6 Try.func177 rfl rfl 1 (fun _=> rfl) (by decide) (fun ⟨n,_⟩=> hb n ())
def ZoY:Zf U:=fun i=> match i with
 | 0=> ([(0,[])],[])
 | 1=> ([(0,[]),(4,[])],[])
 | 2=> ([(2,[.wr .wedit])],[])
 | 3=> ([(2,[.wr .wedit])],[])
 | _=> ([],[])
abbrev Zzk(p:List Nat):=AW (Z24 Ziq) Try.f153 ZoY p
theorem Zxg(l:List WEdit)(Q:QT)(h:(((l=[])->(Q .ret (⟨[(2,.c (.mref (.e 2 0)))],[],[(.e 2 0,LC.mk (U:=U) .wedit [] 0)]⟩:LSt U)))/\(True->((([]:List WEdit).length+l.length)*32<=140737488355328)/\(Q .ret (⟨[(2,.c (.mref (.e 2 0)))],[],[(.e 2 0,LC.mk (U:=U) .wedit (([]:List WEdit)++l) (([]:List WEdit).length))]⟩:LSt U))))):
  Zzk [] (L2 [(0,.c (sU .wedit l .unk))] []) Q:=
 Eq.mpr (by kernel_rfl) h
def Zt3(l:List WEdit):Prop:=AW (Z24 Ziq) Try.f153 ZoY [] (Zm (Zl4.can (l,())) []) (Z05 cfg Try.f153.ntmps Try.f153.results.toList (.c (.mref (.r 0 0))) [] [(.r 0 0,LC.mk (U:=U) .wedit (Zad (l,())) 0)])
theorem ZrN(hb:∀ (l:List WEdit) (_:Unit),ZbF (l,())->Zt3 l):CT 153 Za0:=
 Z0v (l:=[]) Zn rfl trivial ZoY Try.func153 rfl rfl 1 (fun _=> rfl) (by decide) (fun ⟨l,_⟩=> hb l ())
def ZoV:Zf U:=fun i=> match i with
 | 0=> ([(0,[])],[])
 | 1=> ([(0,[]),(4,[])],[])
 | 2=> ([(2,[.wr .kid])],[])
 | 3=> ([(2,[.wr .kid])],[])
 | _=> ([],[])
abbrev Zzh(p:List Nat):=AW (Z24 Ziq) Try.f156 ZoV p
theorem Zxd(l:List Kid)(Q:QT)(h:(((l=[])->(Q .ret (⟨[(2,.c (.mref (.e 2 0)))],[],[(.e 2 0,LC.mk (U:=U) .kid [] 0)]⟩:LSt U)))/\(True->((([]:List Kid).length+l.length)*208<=140737488355328)/\(Q .ret (⟨[(2,.c (.mref (.e 2 0)))],[],[(.e 2 0,LC.mk (U:=U) .kid (([]:List Kid)++l) (([]:List Kid).length))]⟩:LSt U))))):
  Zzh [] (L2 [(0,.c (sU .kid l .unk))] []) Q:=
 Eq.mpr (by kernel_rfl) h
def Zt0(l:List Kid):Prop:=AW (Z24 Ziq) Try.f156 ZoV [] (Zm (Zl2.can (l,())) []) (Z05 cfg Try.f156.ntmps Try.f156.results.toList (.c (.mref (.r 0 0))) [] [(.r 0 0,LC.mk (U:=U) .kid (Zac (l,())) 0)])
theorem ZrK(hb:∀ (l:List Kid) (_:Unit),ZbD (l,())->Zt0 l):CT 156 Z9X:=
 Z0v (l:=[]) Zn rfl trivial ZoV Try.func156 rfl rfl 1 (fun _=> rfl) (by decide) (fun ⟨l,_⟩=> hb l ())
def Zf5:List (FuncId × Fs U):=[(174,Z2f),(192,Z6s.lend)]
def Zk0:Zf U:=fun i=> match i with
 | 0=> ([(0,[.wr .wedit]),(1,[])],[])
 | 1=> ([(0,[.wr .wedit]),(1,[]),(5,[])],[])
 | 2=> ([(0,[.wr .wedit]),(1,[]),(5,[]),(12,[])],[])
 | 3=> ([(4,[])],[])
 | 4=> ([(0,[.wr .wedit]),(1,[]),(5,[]),(6,[])],[])
 | 5=> ([(0,[.wr .wedit]),(1,[]),(5,[]),(6,[]),(19,[])],[])
 | 6=> ([(0,[.wr .wedit]),(1,[]),(5,[]),(6,[])],[])
 | 7=> ([(0,[.wr .wedit]),(1,[]),(5,[]),(6,[]),(7,[])],[(.loc 7,[])])
 | 8=> ([(0,[.wr .wedit]),(1,[]),(5,[]),(6,[]),(7,[]),(29,[])],[(.loc 7,[])])
 | 9=> ([(0,[.wr .wedit]),(1,[]),(5,[]),(6,[])],[])
 | 10=> ([(0,[.wr .wedit]),(1,[]),(5,[]),(6,[])],[])
 | 11=> ([(0,[.wr .wedit]),(5,[])],[])
 | 12=> ([(4,[])],[])
 | _=> ([],[])
def Z33(l:List WEdit)(f:Unit)(x5 x6:Int)(re_0_0:List WEdit):LSt U:=(⟨[(0,.c (.mref (.e 0 0))),(1,.fn 174),pI 5 x5,pI 6 x6],[],[(.e 0 0,LC.mk (U:=U) .wedit re_0_0 0)]⟩:LSt U)
abbrev ZwI(p:List Nat):=AW (Z6 Zf5) Try.f173 Zk0 p
abbrev Zyf(p:List Nat):=SW (Z6 Zf5) Try.f173 Zk0 p
theorem Zx6(l:List WEdit)(f:Unit)(Q:QT)(h:((ZeB (l,(),()))/\(((((YR (fun w:WEdit=> decide (WEdit.mask w=0)) l 0):Int)==(-1))=true->(Q .ret (L2 [(4,.c (sU .wedit l (.own (.e 4 0))))] [])))/\((((YR (fun w:WEdit=> decide (WEdit.mask w=0)) l 0):Int)==(-1))=false->(InR (((YR (fun w:WEdit=> decide (WEdit.mask w=0)) l 0):Int)+1))/\(Zo (ZwI [1,1,1,0,1,0,0]) (Z33 l f (YR (fun w:WEdit=> decide (WEdit.mask w=0)) l 0) (((YR (fun w:WEdit=> decide (WEdit.mask w=0)) l 0):Int)+1) l) (xB 0 (Zyf [1,1,1,1] Q))))))):
  ZwI [] (⟨[(0,.c (.mref (.e 0 0))),(1,.fn 174)],[],[(.e 0 0,LC.mk (U:=U) .wedit l 0)]⟩:LSt U) Q:=
 Eq.mpr (by kernel_rfl) h
theorem Zn3(l:List WEdit)(f:Unit)(x5 x6:Int)(re_0_0:List WEdit)(N0:NT)(Q:QT)(h:∀ y_1,y_1=(re_0_0.getD x6.toNat (WEdit.mk 0 0 0 0))->∀ y_2,y_2=y_1->let z1:= !(decide (WEdit.mask y_2=0));let z0:=decide (x6 < (re_0_0.length:Int));((z0=true->((0:Int)<=x6/\x6 < (re_0_0.length:Int))/\((ZeI (y_2,()))/\((z1=true->((0:Int)<=x5/\x5 < (re_0_0.length:Int))/\((0:Nat)<=x5.toNat)/\((InR (x5+1))/\((InR (x6+1))/\(N0 (Z33 l f (x5+1) (x6+1) (List.set re_0_0 x5.toNat y_2))))))/\(z1=false->(InR (x6+1))/\(N0 (Z33 l f x5 (x6+1) re_0_0))))))/\(z0=false->((0:Int)<=x5/\x5<=(re_0_0.length:Int))/\((0:Nat)<=x5.toNat)/\(((0:Int)<=x5/\x5<=((List.take x5.toNat re_0_0++List.replicate (re_0_0.length - Int.toNat x5) (WEdit.mk 0 0 0 0)).length:Int))/\(Q .ret (L2 [(4,.c (sU .wedit (List.take x5.toNat (List.take x5.toNat re_0_0++List.replicate (re_0_0.length - Int.toNat x5) (WEdit.mk 0 0 0 0))) .unk))] [])))))):
  ZwI [1,1,1,0,1,0,0] (Z33 l f x5 x6 re_0_0) (xT N0 (xB 0 (Zyf [1,1,1,1] Q))):=
 Eq.mpr (by kernel_rfl) (h _ rfl _ (Z1T _))
def ZsT(l:List WEdit)(f:Unit):Prop:=AW (Z6 Zf5) Try.f173 Zk0 [] (JQ (Zat.can (l,f,())) (Zat.canX (l,f,())) (Zat.canL (l,f,()))) (Z05 cfg Try.f173.ntmps Try.f173.results.toList (Zeq (l,f,())) (Za6 (l,f,())) (Zaa (l,f,())))
theorem ZrE(ZmD:CT 174 Z2f)(Zvt:CT 192 Z6s)(hb:∀ (l:List WEdit) (f:Unit) (_:Unit),ZeB (l,f,())->ZsT l f):CT 173 Z6A:=
 Contract.passing <| Yn (l:=[(174,Z2f),(192,Z6s.lend)]) Zn rfl (⟨ZmD,Zvt.lend,trivial⟩) Zk0 Try.func173 rfl rfl 2 (fun _=> rfl) (by decide) (fun ⟨l,f,_⟩=> hb l f ())
def Zf4:List (FuncId × Fs U):=[(176,Z2e),(72,Z3U.lend)]
def ZjZ:Zf U:=fun i=> match i with
 | 0=> ([(0,[.wr .kid]),(1,[])],[])
 | 1=> ([(0,[.wr .kid]),(1,[]),(5,[])],[])
 | 2=> ([(0,[.wr .kid]),(1,[]),(5,[]),(12,[])],[])
 | 3=> ([(4,[])],[])
 | 4=> ([(0,[.wr .kid]),(1,[]),(5,[]),(6,[])],[])
 | 5=> ([(0,[.wr .kid]),(1,[]),(5,[]),(6,[]),(19,[])],[])
 | 6=> ([(0,[.wr .kid]),(1,[]),(5,[]),(6,[])],[])
 | 7=> ([(0,[.wr .kid]),(1,[]),(5,[]),(6,[]),(7,[])],[(.loc 7,[])])
 | 8=> ([(0,[.wr .kid]),(1,[]),(5,[]),(6,[]),(7,[]),(29,[])],[(.loc 7,[])])
 | 9=> ([(0,[.wr .kid]),(1,[]),(5,[]),(6,[])],[])
 | 10=> ([(0,[.wr .kid]),(1,[]),(5,[]),(6,[])],[])
 | 11=> ([(0,[.wr .kid]),(5,[])],[])
 | 12=> ([(4,[])],[])
 | _=> ([],[])
def Z32(l:List Kid)(f:Unit)(x5 x6:Int)(re_0_0:List Kid):LSt U:=(⟨[(0,.c (.mref (.e 0 0))),(1,.fn 176),pI 5 x5,pI 6 x6],[],[(.e 0 0,LC.mk (U:=U) .kid re_0_0 0)]⟩:LSt U)
abbrev ZwH(p:List Nat):=AW (Z6 Zf4) Try.f175 ZjZ p
abbrev Zye(p:List Nat):=SW (Z6 Zf4) Try.f175 ZjZ p
theorem Zx4(l:List Kid)(f:Unit)(Q:QT)(h:((Zai (l,(),()))/\(((((YR (fun k:Kid=> decide (Edit.kind k.e=0)) l 0):Int)==(-1))=true->(Q .ret (L2 [(4,.c (sU .kid l (.own (.e 4 0))))] [])))/\((((YR (fun k:Kid=> decide (Edit.kind k.e=0)) l 0):Int)==(-1))=false->(InR (((YR (fun k:Kid=> decide (Edit.kind k.e=0)) l 0):Int)+1))/\(Zo (ZwH [1,1,1,0,1,0,0]) (Z32 l f (YR (fun k:Kid=> decide (Edit.kind k.e=0)) l 0) (((YR (fun k:Kid=> decide (Edit.kind k.e=0)) l 0):Int)+1) l) (xB 0 (Zye [1,1,1,1] Q))))))):
  ZwH [] (⟨[(0,.c (.mref (.e 0 0))),(1,.fn 176)],[],[(.e 0 0,LC.mk (U:=U) .kid l 0)]⟩:LSt U) Q:=
 Eq.mpr (by kernel_rfl) h
theorem Zn2(l:List Kid)(f:Unit)(x5 x6:Int)(re_0_0:List Kid)(N0:NT)(Q:QT)(h:∀ y_1,y_1=(re_0_0.getD x6.toNat (KidOf.mk 0 Edit.nil))->∀ y_2,y_2=y_1->let z1:= !(decide (Edit.kind y_2.e=0));let z0:=decide (x6 < (re_0_0.length:Int));((z0=true->((0:Int)<=x6/\x6 < (re_0_0.length:Int))/\((ZeG (y_2,()))/\((z1=true->((0:Int)<=x5/\x5 < (re_0_0.length:Int))/\((0:Nat)<=x5.toNat)/\((InR (x5+1))/\((InR (x6+1))/\(N0 (Z32 l f (x5+1) (x6+1) (List.set re_0_0 x5.toNat y_2))))))/\(z1=false->(InR (x6+1))/\(N0 (Z32 l f x5 (x6+1) re_0_0))))))/\(z0=false->((0:Int)<=x5/\x5<=(re_0_0.length:Int))/\((0:Nat)<=x5.toNat)/\(((0:Int)<=x5/\x5<=((List.take x5.toNat re_0_0++List.replicate (re_0_0.length - Int.toNat x5) (KidOf.mk 0 Edit.nil)).length:Int))/\(Q .ret (L2 [(4,.c (sU .kid (List.take x5.toNat (List.take x5.toNat re_0_0++List.replicate (re_0_0.length - Int.toNat x5) (KidOf.mk 0 Edit.nil))) .unk))] [])))))):
  ZwH [1,1,1,0,1,0,0] (Z32 l f x5 x6 re_0_0) (xT N0 (xB 0 (Zye [1,1,1,1] Q))):=
 Eq.mpr (by kernel_rfl) (h _ rfl _ (Zgi _))
def ZsR(l:List Kid)(f:Unit):Prop:=AW (Z6 Zf4) Try.f175 ZjZ [] (JQ (Zas.can (l,f,())) (Zas.canX (l,f,())) (Zas.canL (l,f,()))) (Z05 cfg Try.f175.ntmps Try.f175.results.toList (Zep (l,f,())) (Za5 (l,f,())) (Za9 (l,f,())))
theorem ZrC(ZmC:CT 176 Z2e)(ZpT:CT 72 Z3U)(hb:∀ (l:List Kid) (f:Unit) (_:Unit),Zai (l,f,())->ZsR l f):CT 175 Z6z:=
 Contract.passing <| Yn (l:=[(176,Z2e),(72,Z3U.lend)]) Zn rfl (⟨ZmC,ZpT.lend,trivial⟩) ZjZ Try.func175 rfl rfl 2 (fun _=> rfl) (by decide) (fun ⟨l,f,_⟩=> hb l f ())
def Zkr:List (FuncId × Fs U):=[(173,Z6A),(175,Z6z)]
def ZoU:Zf U:=fun i=> match i with
 | 0=> ([(1,[]),(2,[])],[(.loc 1,[.any,.any,.any,.any,.any,.any,.any,.wr .wedit,.wr .kid]),(.loc 2,[])])
 | 1=> ([(1,[]),(2,[])],[(.loc 1,[.any,.any,.any,.any,.any,.any,.any,.any,.wr .kid]),(.loc 2,[])])
 | 2=> ([(1,[]),(2,[])],[(.loc 1,[]),(.loc 2,[])])
 | 3=> ([(1,[]),(2,[]),(18,[])],[(.loc 1,[]),(.loc 2,[])])
 | 4=> ([(2,[])],[(.loc 2,[])])
 | 5=> ([(2,[])],[(.loc 2,[])])
 | _=> ([],[])
abbrev Zzg(p:List Nat):=AW (Z6 Zkr) Try.f157 ZoU p
theorem Zxc(ek eo:Int)(eow:List Int)(eok:List Tree)(en:Int)(enw:List Int)(enk:List Tree)(ew:List WEdit)(ec:List Kid)(li:Int)(eos:List Op)(Q:QT)(h:((ZeB (ew,(),()))/\((Zai (ec,(),()))/\((InR ((((ew.filter fun w=> !decide (WEdit.mask w=0)).length:Int):Int)+((ec.filter fun k=> !decide (Edit.kind k.e=0)).length:Int)))/\((((((((ew.filter fun w=> !decide (WEdit.mask w=0)).length:Int):Int)+((ec.filter fun k=> !decide (Edit.kind k.e=0)).length:Int)):Int)==0)=true->(Q .ret (L2 [pL 2] [(.loc 2,zc1)])))/\(((((((ew.filter fun w=> !decide (WEdit.mask w=0)).length:Int):Int)+((ec.filter fun k=> !decide (Edit.kind k.e=0)).length:Int)):Int)==0)=false->(Q .ret (L2 [pL 2] [(.loc 2,[ci ek,ci eo,sU .u64 eow .unk,sU .tree eok .unk,ci en,sU .u64 enw .unk,sU .tree enk .unk,sU .wedit (ew.filter fun w=> !decide (WEdit.mask w=0)) .unk,sU .kid (ec.filter fun k=> !decide (Edit.kind k.e=0)) .unk,ci li,sU .op eos .unk])])))))))):
  Zzg [] (⟨[(0,.agg [ci ek,ci eo,sU .u64 eow .unk,sU .tree eok .unk,ci en,sU .u64 enw .unk,sU .tree enk .unk,.mref (.e 0 7),.mref (.e 0 8),ci li,sU .op eos .unk])],[],[(.e 0 7,LC.mk (U:=U) .wedit ew 0),(.e 0 8,LC.mk (U:=U) .kid ec 0)]⟩:LSt U) Q:=
 Eq.mpr (by kernel_rfl) h
def ZsZ(ek eo:Int)(eow:List Int)(eok:List Tree)(en:Int)(enw:List Int)(enk:List Tree)(ew:List WEdit)(ec:List Kid)(li:Int)(eos:List Op):Prop:=AW (Z6 Zkr) Try.f157 ZoU [] (JQ (Zau.can ((ek,eo,eow,eok,en,enw,enk,ew,ec,li,eos,()),())) (Zau.canX ((ek,eo,eow,eok,en,enw,enk,ew,ec,li,eos,()),())) (Zau.canL ((ek,eo,eow,eok,en,enw,enk,ew,ec,li,eos,()),()))) (Z05 cfg Try.f157.ntmps Try.f157.results.toList (Zet ((ek,eo,eow,eok,en,enw,enk,ew,ec,li,eos,()),())) (Za8 ((ek,eo,eow,eok,en,enw,enk,ew,ec,li,eos,()),())) (Zab ((ek,eo,eow,eok,en,enw,enk,ew,ec,li,eos,()),())))
set_option maxHeartbeats 2000000 in
theorem ZrJ(ZvD:CT 173 Z6A)(ZvC:CT 175 Z6z)(hb:∀ (ek:Int) (eo:Int) (eow:List Int) (eok:List Tree) (en:Int) (enw:List Int) (enk:List Tree) (ew:List WEdit) (ec:List Kid) (li:Int) (eos:List Op) (_:Unit),ZbC ((ek,eo,eow,eok,en,enw,enk,ew,ec,li,eos,()),())->ZsZ ek eo eow eok en enw enk ew ec li eos):CT 157 Z9W:=
 Contract.passing <| Yn (l:=[(173,Z6A),(175,Z6z)]) Zn rfl (⟨ZvD,ZvC,trivial⟩) ZoU Try.func157 rfl rfl 1 (fun _=> rfl) (by decide) (fun ⟨⟨ek,eo,eow,eok,en,enw,enk,ew,ec,li,eos,_⟩,_⟩=> hb ek eo eow eok en enw enk ew ec li eos ())
def Zkn:List (FuncId × Fs U):=[(181,Z6w)]
def ZoQ:Zf U:=lvl [([0,1,4],[4]),([0,1,4,7],[4]),([4],[4]),([4],[4])]
abbrev Zzc(p:List Nat):=AW (Z6 Zkn) Try.f161 ZoQ p
theorem Zx8(list:Int)(l:List Op)(Q:QT)(h:((ZeA (l,(),()))/\(((!(l.any fun o=> !decide (OpOf.kind o=0)))=true->(Q .ret (L2 [pL 4] [(.loc 4,zc1)])))/\((!(l.any fun o=> !decide (OpOf.kind o=0)))=false->(Q .ret (L2 [pL 4] [(.loc 4,[ci 3,ci 0,.nils,.nils,ci 0,.nils,.nils,.nils,.nils,ci list,sU .op l .unk])])))))):
  Zzc [] (L2 [pI 0 list,(1,.c (sU .op l .unk))] []) Q:=
 Eq.mpr (by kernel_rfl) h
def ZsV(list:Int)(l:List Op):Prop:=AW (Z6 Zkn) Try.f161 ZoQ [] (Zm (Zfk.can (list,l,())) []) (EQ Try.f161 (Zes (list,l,())) [])
theorem ZrG(Zvx:CT 181 Z6w)(hb:∀ (list:Int) (l:List Op) (_:Unit),ZbB (list,l,())->ZsV list l):CT 161 Z9T:=
 Z4 (l:=[(181,Z6w)]) Zn rfl (⟨Zvx,trivial⟩) ZoQ Try.func161 rfl rfl 2 (fun _=> rfl) (by decide) (fun ⟨list,l,_⟩=> hb list l ())
def ZkC:List (FuncId × Fs U):=[(26,Z1L),(106,Jf)]
def Zp5:Zf U:=fun i=> match i with
 | 0=> ([(0,[]),(5,[]),(6,[]),(7,[])],[(.loc 5,[]),(.loc 6,[]),(.loc 7,[]),(.x 0,[])])
 | 1=> ([(0,[]),(7,[]),(8,[]),(9,[])],[(.loc 7,[]),(.loc 8,[]),(.x 0,[])])
 | 2=> ([(0,[]),(7,[]),(8,[]),(16,[])],[(.loc 7,[]),(.loc 8,[]),(.x 0,[])])
 | 3=> ([],[(.x 0,[])])
 | 4=> ([(0,[]),(22,[])],[(.x 0,[])])
 | 5=> ([],[(.x 0,[])])
 | _=> ([],[])
abbrev Zzp(p:List Nat):=AW (Z6 ZkC) Try.f112 Zp5 p
theorem Zxs(mc ma:Bool)(e:Edit)(o n:Tree)(Q:QT)(h:∀ y_1,y_1=e->∀ y_2,y_2=n->∀ y_3,y_3=o->∀ y_4,y_4=(JK ((doE false y_1 y_3).map Z2))->let z1:= !((doE false y_1 y_3).isSome);let z0:= !(ZT (Z2 y_4) (Z2 y_2));((Z2N (y_1,y_3,()))/\((z1=true->(Q .normal (L2 [] [(.x 0,[.bool mc,.bool true])])))/\(z1=false->(Z17 (y_4,y_2,()))/\((z0=true->(Q .normal (L2 [] [(.x 0,[.bool true,.bool ma])])))/\(z0=false->Q .normal (L2 [(0,.ptr (.x 0) 0),pB 22 z0] [(.x 0,[.bool mc,.bool ma])]))))))):
  Zzp [] (L2 [(0,.ptr (.x 0) 0),(1,.agg (enc .edit e)),(2,.agg (enc .tree o)),(3,.agg (enc .tree n))] [(.x 0,[.bool mc,.bool ma])]) Q:=
 Eq.mpr (by kernel_rfl) (h _ (Zd _) _ (Zc _) _ (Zc _) _ (Zc _))
def Ztf(mc ma:Bool)(e:Edit)(o n:Tree):Prop:=AW (Z6 ZkC) Try.f112 Zp5 [] (Zm (Zfv.can ((mc,ma,()),e,o,n,())) (Zfv.canX ((mc,ma,()),e,o,n,()))) (EQ Try.f112 (Zbs ((mc,ma,()),e,o,n,())) (Z6S ((mc,ma,()),e,o,n,())))
theorem ZrX(c26:CT 26 Z1L)(Z9O:CT 106 Jf)(hb:∀ (mc:Bool) (ma:Bool) (e:Edit) (o:Tree) (n:Tree) (_:Unit),Z8h ((mc,ma,()),e,o,n,())->Ztf mc ma e o n):CT 112 Za2:=
 Yf (l:=[(26,Z1L),(106,Jf)]) Zn rfl (⟨c26,Z9O,trivial⟩) Zp5 Try.func112 rfl rfl 4 (fun _=> rfl) (by decide) (fun ⟨⟨mc,ma,_⟩,e,o,n,_⟩=> hb mc ma e o n ())
def Zkp:List (FuncId × Fs U):=[(151,Z0f),(177,Z6y),(178,Z6x)]
def ZoS:Zf U:=fun i=> match i with
 | 0=> ([(0,[])],[(.x 0,[]),(.x 1,[])])
 | 1=> ([(0,[])],[(.x 0,[]),(.x 1,[])])
 | 2=> ([(0,[]),(42,[])],[(.x 0,[]),(.x 1,[])])
 | 3=> ([(0,[]),(66,[])],[(.x 0,[]),(.x 1,[])])
 | 4=> ([(0,[])],[(.x 0,[]),(.x 1,[])])
 | 5=> ([(0,[])],[(.x 0,[]),(.x 1,[])])
 | 6=> ([],[(.x 0,[]),(.x 1,[])])
 | _=> ([],[])
abbrev Zze(p:List Nat):=AW (Z6 Zkp) Try.f159 ZoS p
theorem Zxa(sm_:Unit)(sx sy:List Op)(si sh:List Tree)(mc ma:Bool)(Q:QT)(h:let z6:= !(eqX (Z3 si) (Z3 sh));let z5:=Zi2 ((si.length:Int),());let z4:=Zi2 ((sh.length:Int),());let z2:=JA (sh.length:Int);let z1:=JA (si.length:Int);let z0:=decide ((0:Int) < (si.length:Int));let z3:=bif z0 then (decide ((0:Int) < (sh.length:Int))) else false;(Tr (z0=true))/\(Tr (z0=true))/\(Tr (z0=true))/\(Tr (z0=true))/\(Tr (z0=true))/\(Tr (z0=true))/\((z3=true->(Z63 (si,sh,(),()))/\((z6=true->(z4/\((sx.length+z2.length)*240<=140737488355328)/\z5/\((sy.length+z1.length)*240<=140737488355328)/\(Q .normal (L2 [] [(.x 0,[.xp 1,sU .op (sx++z2) (.own (.x 0 1)),sU .op (sy++z1) (.own (.x 0 2)),.nils,.nils]),(.x 1,[.bool true,.bool ma])]))))/\(z6=false->z4/\((sx.length+z2.length)*240<=140737488355328)/\z5/\((sy.length+z1.length)*240<=140737488355328)/\(Q .normal (L2 [] [(.x 0,[.xp 1,sU .op (sx++z2) (.own (.x 0 1)),sU .op (sy++z1) (.own (.x 0 2)),.nils,.nils]),(.x 1,[.bool mc,.bool ma])])))))/\(z3=false->(ZeE (si,()))/\((sx.length+(Z2Z si).length)*240<=140737488355328)/\z4/\(((sx++(Z2Z si)).length+z2.length)*240<=140737488355328)/\(z5/\((sy.length+z1.length)*240<=140737488355328)/\(ZeE (sh,()))/\(((sy++z1).length+(Z2Z sh).length)*240<=140737488355328)/\(Q .normal (L2 [] [(.x 0,[.xp 1,sU .op ((sx++(Z2Z si))++z2) (.own (.x 0 1)),sU .op ((sy++z1)++(Z2Z sh)) (.own (.x 0 2)),.nils,.nils]),(.x 1,[.bool mc,.bool ma])])))))):
  Zze [] (L2 [(0,.ptr (.x 0) 0)] [(.x 0,[.xp 1,sU .op sx (.own (.x 0 1)),sU .op sy (.own (.x 0 2)),sU .tree si (.own (.x 0 3)),sU .tree sh (.own (.x 0 4))]),(.x 1,[.bool mc,.bool ma])]) Q:=
 Eq.mpr (by kernel_rfl) h
def ZsX(sm_:Unit)(sx sy:List Op)(si sh:List Tree)(mc ma:Bool):Prop:=AW (Z6 Zkp) Try.f159 ZoS [] (Zm (Zft.can ((sm_,sx,sy,si,sh,()),(mc,ma,()),())) (Zft.canX ((sm_,sx,sy,si,sh,()),(mc,ma,()),()))) (EQ Try.f159 (ZnL ((sm_,sx,sy,si,sh,()),(mc,ma,()),())) (Z6O ((sm_,sx,sy,si,sh,()),(mc,ma,()),())))
theorem ZrH(Zfi:CT 151 Z0f)(ZvB:CT 177 Z6y)(ZvA:CT 178 Z6x)(hb:∀ (sm_:Unit) (sx:List Op) (sy:List Op) (si:List Tree) (sh:List Tree) (mc:Bool) (ma:Bool) (_:Unit),ZeL ((sm_,sx,sy,si,sh,()),(mc,ma,()),())->ZsX sm_ sx sy si sh mc ma):CT 159 Z9U:=
 Yf (l:=[(151,Z0f),(177,Z6y),(178,Z6x)]) Zn rfl (⟨Zfi,ZvB,ZvA,trivial⟩) ZoS Try.func159 rfl rfl 1 (fun _=> rfl) (by decide) (fun ⟨⟨sm_,sx,sy,si,sh,_⟩,⟨mc,ma,_⟩,_⟩=> hb sm_ sx sy si sh mc ma ())
end
noncomputable section
def ZcB:ArgM ((Bool × Bool × Unit) × Edit × Edit × Unit):=(.obj 0 (.cons Z1f (.cons Z1f .nil)) (.cons (aEl .edit) (.cons (aEl .edit) .nil)))
def Zbw(a:(Bool × Bool × Unit) × Edit × Edit × Unit):Prop:=Z0d a.2.1/\Z0d a.2.2.1
def Zot(a:(Bool × Bool × Unit) × Edit × Edit × Unit):Nat:=8*(Z8 a.2.1+Z8 a.2.2.1)+1
def Zgd(a:(Bool × Bool × Unit) × Edit × Edit × Unit):V U:= .tup [(true,(enc .edit ((lbE a.2.1 a.2.2.1).x))),(true,(enc .edit ((lbE a.2.1 a.2.2.1).y)))]
def Zbm(a:(Bool × Bool × Unit) × Edit × Edit × Unit):List (List (C U)):=[[.bool (a.1.1 || (lbE a.2.1 a.2.2.1).c),.bool (a.1.2.1 || (lbE a.2.1 a.2.2.1).a)]]
def Z80:Fs U:=fsX ZcB (fun a=> [Zbw a]) Zgd Zbm
def ZbJ(a:(Bool × Bool × Unit) × Edit × Edit × Unit):Prop:=Z0d a.2.1/\Z0d a.2.2.1/\Edit.kind a.2.1=2/\Edit.kind a.2.2.1=2
def ZjR(a:(Bool × Bool × Unit) × Edit × Edit × Unit):Nat:=8*(Z8 a.2.1+Z8 a.2.2.1)
def Zbr(a:(Bool × Bool × Unit) × Edit × Edit × Unit):V U:= .tup [(true,(enc .edit ((Z3K lbE a.2.1 a.2.2.1).x))),(true,(enc .edit ((Z3K lbE a.2.1 a.2.2.1).y)))]
def Z6R(a:(Bool × Bool × Unit) × Edit × Edit × Unit):List (List (C U)):=[[.bool (a.1.1 || (Z3K lbE a.2.1 a.2.2.1).c),.bool (a.1.2.1 || (Z3K lbE a.2.1 a.2.2.1).a)]]
def Zj9:Fs U:=fsX ZcB (fun a=> [ZbJ a]) Zbr Z6R
def ZbI(a:(Bool × Bool × Unit) × Edit × Edit × Unit):Prop:=Z0d a.2.1/\Z0d a.2.2.1/\Edit.kind a.2.1=3/\Edit.kind a.2.2.1=3
def Zbq(a:(Bool × Bool × Unit) × Edit × Edit × Unit):V U:= .tup [(true,(enc .edit ((Z2v lbE a.2.1 a.2.2.1).x))),(true,(enc .edit ((Z2v lbE a.2.1 a.2.2.1).y)))]
def Z6Q(a:(Bool × Bool × Unit) × Edit × Edit × Unit):List (List (C U)):=[[.bool (a.1.1 || (Z2v lbE a.2.1 a.2.2.1).c),.bool (a.1.2.1 || (Z2v lbE a.2.1 a.2.2.1).a)]]
def Zj8:Fs U:=fsX ZcB (fun a=> [ZbI a]) Zbq Z6Q
def Z7U:ArgM ((Unit × List Op × List Op × List Tree × List Tree × Unit) × Op × Op × (Bool × Bool × Unit) × Unit):=(.obj 0 (.cons (cXp 1) (.cons (Z39 .op 0 1) (.cons (Z39 .op 0 2) (.cons (Z39 .tree 0 3) (.cons (Z39 .tree 0 4) .nil))))) (.cons (aEl .op) (.cons (aEl .op) (.hid (.cons Z1f (.cons Z1f .nil)) .nil))))
def Z8d(a:(Unit × List Op × List Op × List Tree × List Tree × Unit) × Op × Op × (Bool × Bool × Unit) × Unit):Prop:=(Ze7 a.2.1/\Ze7 a.2.2.1/\Z1 a.2.1=Z1 a.2.2.1/\OpOf.kind a.2.1≠2/\OpOf.kind a.2.2.1≠2)/\((a.1.2.1).length<=10000000000/\(a.1.2.2.1).length<=10000000000)
def ZjP(a:(Unit × List Op × List Op × List Tree × List Tree × Unit) × Op × Op × (Bool × Bool × Unit) × Unit):Nat:=8*(Zt a.2.1+Zt a.2.2.1)+2
def Zbo(a:(Unit × List Op × List Op × List Tree × List Tree × Unit) × Op × Op × (Bool × Bool × Unit) × Unit):V U:= .tup []
def Z6N(a:(Unit × List Op × List Op × List Tree × List Tree × Unit) × Op × Op × (Bool × Bool × Unit) × Unit):List (List (C U)):=[[.xp 1,sU .op (a.1.2.1++(Zz lbE a.2.1 a.2.2.1).x) (.own (.x 0 1)),sU .op (a.1.2.2.1++(Zz lbE a.2.1 a.2.2.1).y) (.own (.x 0 2)),sU .tree a.1.2.2.2.1 (.own (.x 0 3)),sU .tree a.1.2.2.2.2.1 (.own (.x 0 4))],[.bool (a.2.2.2.1.1 || (Zz lbE a.2.1 a.2.2.1).c),.bool (a.2.2.2.1.2.1 || (Zz lbE a.2.1 a.2.2.1).a)]]
def Zj7:Fs U:=fsX Z7U (fun a=> [Z8d a]) Zbo Z6N
def Z2x(N:Nat):List (FuncId × Fs U):=(77,fsX ZcB (fun a=> [Zbw a,Zot a < N]) Zgd Zbm) ::(114,fsX ZcB (fun a=> [ZbJ a,ZjR a < N]) Zbr Z6R) ::(115,fsX ZcB (fun a=> [ZbI a,ZjR a < N]) Zbq Z6Q) ::(160,fsX Z7U (fun a=> [Z8d a,ZjP a < N]) Zbo Z6N) ::[(106,Jf),(112,Za2),(113,Za1),(151,Z0f),(153,Za0),(154,Z9Z),(155,Z9Y),(156,Z9X),(157,Z9W),(158,Z9V),(159,Z9U),(161,Z9T),(179,Z9S),(180,Z9R)]
def ZuY:Zf U:=fun i=> match i with
 | 0=> ([(0,[]),(4,[]),(5,[]),(6,[]),(7,[])],[(.loc 4,[]),(.loc 5,[]),(.loc 6,[]),(.loc 7,[]),(.x 0,[])])
 | 1=> ([(0,[]),(4,[]),(5,[]),(6,[]),(7,[]),(8,[])],[(.loc 4,[]),(.loc 5,[]),(.loc 6,[]),(.loc 7,[]),(.x 0,[])])
 | 2=> ([(6,[]),(7,[])],[(.loc 6,[]),(.loc 7,[]),(.x 0,[])])
 | 3=> ([(0,[]),(4,[]),(5,[]),(6,[]),(7,[]),(19,[])],[(.loc 4,[]),(.loc 5,[]),(.loc 6,[]),(.loc 7,[]),(.x 0,[])])
 | 4=> ([(6,[]),(7,[])],[(.loc 6,[]),(.loc 7,[]),(.x 0,[])])
 | 5=> ([(6,[]),(7,[])],[(.loc 6,[]),(.loc 7,[]),(.x 0,[])])
 | 6=> ([(0,[]),(4,[]),(5,[]),(6,[]),(7,[]),(33,[])],[(.loc 4,[]),(.loc 5,[]),(.loc 6,[]),(.loc 7,[]),(.x 0,[])])
 | 7=> ([(6,[]),(7,[])],[(.loc 6,[]),(.loc 7,[]),(.x 0,[])])
 | 8=> ([(6,[]),(7,[])],[(.loc 6,[]),(.loc 7,[]),(.x 0,[])])
 | 9=> ([(0,[]),(4,[]),(5,[]),(6,[]),(7,[]),(47,[])],[(.loc 4,[]),(.loc 5,[]),(.loc 6,[]),(.loc 7,[]),(.x 0,[])])
 | 10=> ([(6,[]),(7,[])],[(.loc 6,[]),(.loc 7,[]),(.x 0,[])])
 | 11=> ([(6,[]),(7,[])],[(.loc 6,[]),(.loc 7,[]),(.x 0,[])])
 | 12=> ([(0,[]),(4,[]),(5,[]),(6,[]),(7,[]),(66,[])],[(.loc 4,[]),(.loc 5,[]),(.loc 6,[]),(.loc 7,[]),(.x 0,[])])
 | 13=> ([(6,[]),(7,[])],[(.loc 6,[]),(.loc 7,[]),(.x 0,[])])
 | 14=> ([(6,[]),(7,[])],[(.loc 6,[]),(.loc 7,[]),(.x 0,[])])
 | _=> ([],[])
abbrev A77(N:Nat)(p:List Nat):=AW (Z6 (Z2x N)) Try.f77 ZuY p
theorem Zyw(N:Nat)(mc ma:Bool)(p q:Edit)(Q:QT)(h:∀ y_1,y_1=p->∀ y_2,y_2=q->∀ y_3,y_3=(p.new)->∀ y_4,y_4=(q.new)->∀ y_5,y_5=(p.old)->∀ y_6,y_6=(q.old)->let z4:=Z2v lbE y_1 y_2;let z3:=Z3K lbE y_1 y_2;let z2:=bif (p.kind==0) then true else (q.kind==0);let z1:=enc .edit Edit.nil;let z0:=p.kind !=q.kind;let z5:=bif z0 then true else (p.list !=q.list);((Tr ((!(p.kind==0))=true))/\(Tr ((!(p.kind==0))=true))/\((p.kind==0)=false->(!(p.kind==0))=true)/\((z2=true->(Q .ret (L2 [pL 6,pL 7] [(.loc 6,(enc .edit p)),(.loc 7,(enc .edit q)),(.x 0,[.bool mc,.bool ma])])))/\(z2=false->(((p.kind==1)=true->(Z8h ((mc,ma,()),y_2,y_5,y_3,()))/\((Z8g ())/\(Q .ret (L2 [pL 6,pL 7] [(.loc 6,z1),(.loc 7,z1),(.x 0,[.bool (mc || (JW y_2 y_5 y_3).c),.bool (ma || (JW y_2 y_5 y_3).a)])]))))/\((p.kind==1)=false->(((q.kind==1)=true->(Z8h ((mc,ma,()),y_1,y_6,y_4,()))/\((Z8g ())/\(Q .ret (L2 [pL 6,pL 7] [(.loc 6,z1),(.loc 7,z1),(.x 0,[.bool (mc || (JW y_1 y_6 y_4).c),.bool (ma || (JW y_1 y_6 y_4).a)])]))))/\((q.kind==1)=false->(Tr ((!z0)=true))/\(Tr ((!z0)=true))/\(Tr ((!z0)=true))/\(Tr ((!z0)=true))/\(z0=false->(!z0)=true)/\((z5=true->((Z8g ())/\(Q .ret (L2 [pL 6,pL 7] [(.loc 6,z1),(.loc 7,z1),(.x 0,[.bool mc,.bool true])]))))/\(z5=false->(((p.kind==2)=true->(ZbJ ((mc,ma,()),y_1,y_2,()))/\(ZjR ((mc,ma,()),y_1,y_2,()) < N)/\(Q .ret (L2 [pL 6,pL 7] [(.loc 6,(enc .edit (z3.x))),(.loc 7,(enc .edit (z3.y))),(.x 0,[.bool (mc || z3.c),.bool (ma || z3.a)])])))/\((p.kind==2)=false->(ZbI ((mc,ma,()),y_1,y_2,()))/\(ZjR ((mc,ma,()),y_1,y_2,()) < N)/\(Q .ret (L2 [pL 6,pL 7] [(.loc 6,(enc .edit (z4.x))),(.loc 7,(enc .edit (z4.y))),(.x 0,[.bool (mc || z4.c),.bool (ma || z4.a)])])))))))))))))):
  A77 N [] (L2 [(0,.ptr (.x 0) 0),(1,.agg (enc .edit p)),(2,.agg (enc .edit q))] [(.x 0,[.bool mc,.bool ma])]) Q:=
 Eq.mpr (by kernel_rfl) (h _ (Zd _) _ (Zd _) _ (Zc _) _ (Zc _) _ (Zc _) _ (Zc _))
def Zwh(N:Nat)(mc ma:Bool)(p q:Edit):Prop:=AW (Z6 (Z2x N)) Try.f77 ZuY [] (Zm (ZcB.can ((mc,ma,()),p,q,())) (ZcB.canX ((mc,ma,()),p,q,()))) (EQ Try.f77 (Zgd ((mc,ma,()),p,q,())) (Zbm ((mc,ma,()),p,q,())))
abbrev Zyk:Prop:=∀ (N:Nat) (mc:Bool) (ma:Bool) (p:Edit) (q:Edit) (_:Unit),Zbw ((mc,ma,()),p,q,())->Zot ((mc,ma,()),p,q,()) < N+1->Zwh N mc ma p q
def Zf8(N:Nat):List (FuncId × Fs U):=Z2x N
def Zk3:Zf U:=fun i=> match i with
 | 0=> ([(0,[]),(4,[]),(5,[]),(6,[]),(7,[])],[(.loc 4,[]),(.loc 5,[]),(.loc 6,[]),(.loc 7,[]),(.x 0,[])])
 | 1=> ([(0,[]),(4,[]),(5,[]),(6,[]),(7,[]),(8,[]),(9,[])],[(.loc 4,[]),(.loc 5,[]),(.loc 6,[]),(.loc 7,[]),(.loc 8,[]),(.loc 9,[]),(.x 0,[])])
 | 2=> ([(0,[]),(4,[]),(5,[]),(6,[]),(7,[]),(8,[]),(9,[])],[(.loc 4,[]),(.loc 5,[]),(.loc 6,[]),(.loc 7,[]),(.loc 8,[.any,.any,.any,.any,.any,.any,.any,.wr .wedit]),(.loc 9,[.any,.any,.any,.any,.any,.any,.any,.wr .wedit]),(.x 0,[])])
 | 3=> ([(0,[]),(4,[]),(5,[]),(6,[]),(7,[]),(8,[]),(9,[]),(29,[]),(30,[]),(31,[])],[(.loc 4,[]),(.loc 5,[]),(.loc 6,[]),(.loc 7,[]),(.loc 8,[.any,.any,.any,.any,.any,.any,.any,.wr .wedit]),(.loc 9,[.any,.any,.any,.any,.any,.any,.any,.wr .wedit]),(.x 0,[])])
 | 4=> ([(0,[]),(4,[]),(5,[]),(6,[]),(7,[]),(8,[]),(9,[]),(29,[]),(30,[]),(31,[]),(32,[])],[(.loc 4,[]),(.loc 5,[]),(.loc 6,[]),(.loc 7,[]),(.loc 8,[.any,.any,.any,.any,.any,.any,.any,.wr .wedit]),(.loc 9,[.any,.any,.any,.any,.any,.any,.any,.wr .wedit]),(.x 0,[])])
 | 5=> ([(0,[]),(4,[]),(5,[]),(6,[]),(7,[]),(8,[]),(9,[]),(10,[]),(11,[]),(29,[]),(30,[]),(31,[])],[(.loc 4,[]),(.loc 5,[]),(.loc 6,[]),(.loc 7,[]),(.loc 8,[.any,.any,.any,.any,.any,.any,.any,.wr .wedit]),(.loc 9,[.any,.any,.any,.any,.any,.any,.any,.wr .wedit]),(.loc 11,[]),(.x 0,[])])
 | 6=> ([(0,[]),(4,[]),(5,[]),(6,[]),(7,[]),(8,[]),(9,[]),(10,[]),(11,[]),(29,[]),(30,[]),(31,[]),(37,[]),(38,[]),(39,[])],[(.loc 4,[]),(.loc 5,[]),(.loc 6,[]),(.loc 7,[]),(.loc 8,[.any,.any,.any,.any,.any,.any,.any,.wr .wedit]),(.loc 9,[.any,.any,.any,.any,.any,.any,.any,.wr .wedit]),(.loc 11,[]),(.x 0,[])])
 | 7=> ([(0,[]),(4,[]),(5,[]),(6,[]),(7,[]),(8,[]),(9,[]),(10,[]),(11,[]),(29,[]),(30,[]),(31,[]),(37,[]),(38,[]),(39,[]),(40,[])],[(.loc 4,[]),(.loc 5,[]),(.loc 6,[]),(.loc 7,[]),(.loc 8,[.any,.any,.any,.any,.any,.any,.any,.wr .wedit]),(.loc 9,[.any,.any,.any,.any,.any,.any,.any,.wr .wedit]),(.loc 11,[]),(.x 0,[])])
 | 8=> ([(0,[]),(4,[]),(5,[]),(6,[]),(7,[]),(8,[]),(9,[]),(10,[]),(11,[]),(12,[]),(13,[]),(29,[]),(30,[]),(31,[]),(37,[]),(38,[]),(39,[])],[(.loc 4,[]),(.loc 5,[]),(.loc 6,[]),(.loc 7,[]),(.loc 8,[.any,.any,.any,.any,.any,.any,.any,.wr .wedit]),(.loc 9,[.any,.any,.any,.any,.any,.any,.any,.wr .wedit]),(.loc 11,[]),(.loc 13,[]),(.x 0,[])])
 | 9=> ([(0,[]),(4,[]),(5,[]),(6,[]),(7,[]),(8,[]),(9,[]),(10,[]),(11,[]),(12,[]),(13,[]),(29,[]),(30,[]),(31,[]),(37,[]),(38,[]),(39,[]),(48,[])],[(.loc 4,[]),(.loc 5,[]),(.loc 6,[]),(.loc 7,[]),(.loc 8,[.any,.any,.any,.any,.any,.any,.any,.wr .wedit]),(.loc 9,[.any,.any,.any,.any,.any,.any,.any,.wr .wedit]),(.loc 11,[]),(.loc 13,[]),(.x 0,[])])
 | 10=> ([(0,[]),(4,[]),(5,[]),(6,[]),(7,[]),(8,[]),(9,[]),(10,[]),(11,[]),(12,[]),(13,[]),(29,[]),(30,[]),(31,[]),(37,[]),(38,[]),(39,[])],[(.loc 4,[]),(.loc 5,[]),(.loc 6,[]),(.loc 7,[]),(.loc 8,[.any,.any,.any,.any,.any,.any,.any,.wr .wedit]),(.loc 9,[.any,.any,.any,.any,.any,.any,.any,.wr .wedit]),(.loc 11,[]),(.loc 13,[]),(.x 0,[])])
 | 11=> ([(0,[]),(4,[]),(5,[]),(6,[]),(7,[]),(8,[]),(9,[]),(10,[]),(11,[]),(12,[]),(13,[]),(29,[]),(30,[]),(31,[]),(37,[]),(38,[]),(39,[])],[(.loc 4,[]),(.loc 5,[]),(.loc 6,[]),(.loc 7,[]),(.loc 8,[.any,.any,.any,.any,.any,.any,.any,.wr .wedit]),(.loc 9,[.any,.any,.any,.any,.any,.any,.any,.wr .wedit]),(.loc 11,[]),(.loc 13,[]),(.x 0,[])])
 | 12=> ([(0,[]),(4,[]),(5,[]),(6,[]),(7,[]),(8,[]),(9,[]),(10,[]),(11,[]),(12,[]),(13,[]),(29,[]),(30,[]),(31,[]),(37,[]),(38,[]),(39,[]),(48,[])],[(.loc 4,[]),(.loc 5,[]),(.loc 6,[]),(.loc 7,[]),(.loc 8,[.any,.any,.any,.any,.any,.any,.any,.wr .wedit]),(.loc 9,[.any,.any,.any,.any,.any,.any,.any,.wr .wedit]),(.loc 11,[]),(.loc 13,[]),(.x 0,[])])
 | 13=> ([(0,[]),(4,[]),(5,[]),(6,[]),(7,[]),(8,[]),(9,[]),(10,[]),(11,[]),(29,[]),(30,[]),(31,[]),(37,[]),(38,[]),(39,[])],[(.loc 4,[]),(.loc 5,[]),(.loc 6,[]),(.loc 7,[]),(.loc 8,[.any,.any,.any,.any,.any,.any,.any,.wr .wedit]),(.loc 9,[.any,.any,.any,.any,.any,.any,.any,.wr .wedit]),(.loc 11,[]),(.x 0,[])])
 | 14=> ([(0,[]),(4,[]),(5,[]),(6,[]),(7,[]),(8,[]),(9,[]),(29,[]),(30,[]),(31,[])],[(.loc 4,[]),(.loc 5,[]),(.loc 6,[]),(.loc 7,[]),(.loc 8,[.any,.any,.any,.any,.any,.any,.any,.wr .wedit]),(.loc 9,[.any,.any,.any,.any,.any,.any,.any,.wr .wedit]),(.x 0,[])])
 | 15=> ([(0,[]),(4,[]),(5,[]),(6,[]),(7,[]),(8,[]),(9,[])],[(.loc 4,[]),(.loc 5,[]),(.loc 6,[]),(.loc 7,[]),(.loc 8,[.any,.any,.any,.any,.any,.any,.any,.wr .wedit,.wr .kid]),(.loc 9,[.any,.any,.any,.any,.any,.any,.any,.wr .wedit,.wr .kid]),(.x 0,[])])
 | 16=> ([(0,[]),(5,[]),(6,[]),(7,[]),(8,[]),(9,[]),(88,[]),(89,[]),(90,[])],[(.loc 5,[]),(.loc 6,[]),(.loc 7,[]),(.loc 8,[.any,.any,.any,.any,.any,.any,.any,.wr .wedit,.wr .kid]),(.loc 9,[.any,.any,.any,.any,.any,.any,.any,.wr .wedit,.wr .kid]),(.x 0,[])])
 | 17=> ([(0,[]),(5,[]),(6,[]),(7,[]),(8,[]),(9,[]),(88,[]),(89,[]),(90,[]),(91,[])],[(.loc 5,[]),(.loc 6,[]),(.loc 7,[]),(.loc 8,[.any,.any,.any,.any,.any,.any,.any,.wr .wedit,.wr .kid]),(.loc 9,[.any,.any,.any,.any,.any,.any,.any,.wr .wedit,.wr .kid]),(.x 0,[])])
 | 18=> ([(0,[]),(5,[]),(6,[]),(7,[]),(8,[]),(9,[]),(14,[]),(15,[]),(88,[]),(89,[]),(90,[])],[(.loc 5,[]),(.loc 6,[]),(.loc 7,[]),(.loc 8,[.any,.any,.any,.any,.any,.any,.any,.wr .wedit,.wr .kid]),(.loc 9,[.any,.any,.any,.any,.any,.any,.any,.wr .wedit,.wr .kid]),(.loc 15,[]),(.x 0,[])])
 | 19=> ([(0,[]),(5,[]),(6,[]),(7,[]),(8,[]),(9,[]),(14,[]),(15,[]),(88,[]),(89,[]),(90,[]),(96,[]),(97,[]),(98,[])],[(.loc 5,[]),(.loc 6,[]),(.loc 7,[]),(.loc 8,[.any,.any,.any,.any,.any,.any,.any,.wr .wedit,.wr .kid]),(.loc 9,[.any,.any,.any,.any,.any,.any,.any,.wr .wedit,.wr .kid]),(.loc 15,[]),(.x 0,[])])
 | 20=> ([(0,[]),(5,[]),(6,[]),(7,[]),(8,[]),(9,[]),(14,[]),(15,[]),(88,[]),(89,[]),(90,[]),(96,[]),(97,[]),(98,[]),(99,[])],[(.loc 5,[]),(.loc 6,[]),(.loc 7,[]),(.loc 8,[.any,.any,.any,.any,.any,.any,.any,.wr .wedit,.wr .kid]),(.loc 9,[.any,.any,.any,.any,.any,.any,.any,.wr .wedit,.wr .kid]),(.loc 15,[]),(.x 0,[])])
 | 21=> ([(0,[]),(5,[]),(6,[]),(7,[]),(8,[]),(9,[]),(14,[]),(15,[]),(16,[]),(17,[]),(88,[]),(89,[]),(90,[]),(96,[]),(97,[]),(98,[])],[(.loc 5,[]),(.loc 6,[]),(.loc 7,[]),(.loc 8,[.any,.any,.any,.any,.any,.any,.any,.wr .wedit,.wr .kid]),(.loc 9,[.any,.any,.any,.any,.any,.any,.any,.wr .wedit,.wr .kid]),(.loc 15,[]),(.loc 17,[]),(.x 0,[])])
 | 22=> ([(0,[]),(5,[]),(6,[]),(7,[]),(8,[]),(9,[]),(14,[]),(15,[]),(16,[]),(17,[]),(88,[]),(89,[]),(90,[]),(96,[]),(97,[]),(98,[]),(107,[])],[(.loc 5,[]),(.loc 6,[]),(.loc 7,[]),(.loc 8,[.any,.any,.any,.any,.any,.any,.any,.wr .wedit,.wr .kid]),(.loc 9,[.any,.any,.any,.any,.any,.any,.any,.wr .wedit,.wr .kid]),(.loc 15,[]),(.loc 17,[]),(.x 0,[])])
 | 23=> ([(0,[]),(5,[]),(6,[]),(7,[]),(8,[]),(9,[]),(14,[]),(15,[]),(16,[]),(17,[]),(88,[]),(89,[]),(90,[]),(96,[]),(97,[]),(98,[]),(107,[])],[(.loc 5,[]),(.loc 6,[]),(.loc 7,[]),(.loc 8,[.any,.any,.any,.any,.any,.any,.any,.wr .wedit,.wr .kid]),(.loc 9,[.any,.any,.any,.any,.any,.any,.any,.wr .wedit,.wr .kid]),(.loc 15,[]),(.loc 17,[]),(.x 0,[])])
 | 24=> ([(0,[]),(5,[]),(6,[]),(7,[]),(8,[]),(9,[]),(14,[]),(15,[]),(88,[]),(89,[]),(90,[]),(96,[]),(97,[]),(98,[])],[(.loc 5,[]),(.loc 6,[]),(.loc 7,[]),(.loc 8,[.any,.any,.any,.any,.any,.any,.any,.wr .wedit,.wr .kid]),(.loc 9,[.any,.any,.any,.any,.any,.any,.any,.wr .wedit,.wr .kid]),(.loc 15,[]),(.x 0,[])])
 | 25=> ([(0,[]),(5,[]),(6,[]),(7,[]),(8,[]),(9,[]),(88,[]),(89,[]),(90,[])],[(.loc 5,[]),(.loc 6,[]),(.loc 7,[]),(.loc 8,[.any,.any,.any,.any,.any,.any,.any,.wr .wedit,.wr .kid]),(.loc 9,[.any,.any,.any,.any,.any,.any,.any,.wr .wedit,.wr .kid]),(.x 0,[])])
 | 26=> ([(6,[]),(7,[])],[(.loc 6,[]),(.loc 7,[]),(.x 0,[])])
 | _=> ([],[])
def Z5d(mc ma:Bool)(p q:Edit)(x31:Int)(mx0_0 mx0_1:Bool)(rl_8_7 rl_9_7:List WEdit):LSt U:=(⟨[(0,.ptr (.x 0) 0),pL 4,pL 5,pL 6,pL 7,pL 8,pL 9,(29,.c (sU .wedit p.words .unk)),pI 30 (p.words.length:Int),pI 31 x31],[(.loc 4,(enc .edit p)),(.loc 5,(enc .edit q)),(.loc 6,zc1),(.loc 7,zc1),(.loc 8,[ci 2,ci 0,.nils,.nils,ci 0,.nils,.nils,.mref (.l 8 7),.nils,ci 0,.nils]),(.loc 9,[ci 2,ci 0,.nils,.nils,ci 0,.nils,.nils,.mref (.l 9 7),.nils,ci 0,.nils]),(.x 0,[.bool mx0_0,.bool mx0_1])],[(.l 8 7,LC.mk (U:=U) .wedit rl_8_7 0),(.l 9 7,LC.mk (U:=U) .wedit rl_9_7 0)]⟩:LSt U)
def Z5c(mc ma:Bool)(p q:Edit)(x31 x39_a:Int)(mx0_0_a mx0_1_a:Bool)(rl_8_7_a rl_9_7_a:List WEdit):LSt U:=(⟨[(0,.ptr (.x 0) 0),pL 4,pL 5,pL 6,pL 7,pL 8,pL 9,pI 10 x31,pL 11,(29,.c (sU .wedit p.words .unk)),pI 30 (p.words.length:Int),pI 31 x31,(37,.c (sU .wedit q.words .unk)),pI 38 (q.words.length:Int),pI 39 x39_a],[(.loc 4,(enc .edit p)),(.loc 5,(enc .edit q)),(.loc 6,zc1),(.loc 7,zc1),(.loc 8,[ci 2,ci 0,.nils,.nils,ci 0,.nils,.nils,.mref (.l 8 7),.nils,ci 0,.nils]),(.loc 9,[ci 2,ci 0,.nils,.nils,ci 0,.nils,.nils,.mref (.l 9 7),.nils,ci 0,.nils]),(.loc 11,(enc .wedit (p.words.getD x31.toNat (WEdit.mk 0 0 0 0)))),(.x 0,[.bool mx0_0_a,.bool mx0_1_a])],[(.l 8 7,LC.mk (U:=U) .wedit rl_8_7_a 0),(.l 9 7,LC.mk (U:=U) .wedit rl_9_7_a 0)]⟩:LSt U)
def Z5b(mc ma:Bool)(p q:Edit)(rl_8_7 rl_9_7:List WEdit)(x90_b:Int)(mx0_0_b mx0_1_b:Bool)(rl_8_8_b rl_9_8_b:List Kid):LSt U:=(⟨[(0,.ptr (.x 0) 0),pL 5,pL 6,pL 7,pL 8,pL 9,(88,.c (sU .kid p.kids .unk)),pI 89 (p.kids.length:Int),pI 90 x90_b],[(.loc 5,(enc .edit q)),(.loc 6,zc1),(.loc 7,zc1),(.loc 8,[ci 2,ci 0,.nils,.nils,ci 0,.nils,.nils,.mref (.l 8 7),.mref (.l 8 8),ci 0,.nils]),(.loc 9,[ci 2,ci 0,.nils,.nils,ci 0,.nils,.nils,.mref (.l 9 7),.mref (.l 9 8),ci 0,.nils]),(.x 0,[.bool mx0_0_b,.bool mx0_1_b])],[(.l 8 7,LC.mk (U:=U) .wedit rl_8_7 0),(.l 8 8,LC.mk (U:=U) .kid rl_8_8_b 0),(.l 9 7,LC.mk (U:=U) .wedit rl_9_7 0),(.l 9 8,LC.mk (U:=U) .kid rl_9_8_b 0)]⟩:LSt U)
def Z8F(mc ma:Bool)(p q:Edit)(x31 x39_a:Int)(v48_c:V U)(mx0_0_c mx0_1_c:Bool)(rl_8_7_c rl_9_7_c:List WEdit):LSt U:=(⟨[(0,.ptr (.x 0) 0),pL 4,pL 5,pL 6,pL 7,pL 8,pL 9,pI 10 x31,pL 11,pI 12 x39_a,pL 13,(29,.c (sU .wedit p.words .unk)),pI 30 (p.words.length:Int),pI 31 x31,(37,.c (sU .wedit q.words .unk)),pI 38 (q.words.length:Int),pI 39 x39_a,(48,v48_c)],[(.loc 4,(enc .edit p)),(.loc 5,(enc .edit q)),(.loc 6,zc1),(.loc 7,zc1),(.loc 8,[ci 2,ci 0,.nils,.nils,ci 0,.nils,.nils,.mref (.l 8 7),.nils,ci 0,.nils]),(.loc 9,[ci 2,ci 0,.nils,.nils,ci 0,.nils,.nils,.mref (.l 9 7),.nils,ci 0,.nils]),(.loc 11,(enc .wedit (p.words.getD x31.toNat (WEdit.mk 0 0 0 0)))),(.loc 13,(enc .wedit (q.words.getD x39_a.toNat (WEdit.mk 0 0 0 0)))),(.x 0,[.bool mx0_0_c,.bool mx0_1_c])],[(.l 8 7,LC.mk (U:=U) .wedit rl_8_7_c 0),(.l 9 7,LC.mk (U:=U) .wedit rl_9_7_c 0)]⟩:LSt U)
def Z5a(mc ma:Bool)(p q:Edit)(rl_8_7 rl_9_7:List WEdit)(x90_b x98_d:Int)(mx0_0_d mx0_1_d:Bool)(rl_8_8_d rl_9_8_d:List Kid):LSt U:=(⟨[(0,.ptr (.x 0) 0),pL 5,pL 6,pL 7,pL 8,pL 9,pI 14 x90_b,pL 15,(88,.c (sU .kid p.kids .unk)),pI 89 (p.kids.length:Int),pI 90 x90_b,(96,.c (sU .kid q.kids .unk)),pI 97 (q.kids.length:Int),pI 98 x98_d],[(.loc 5,(enc .edit q)),(.loc 6,zc1),(.loc 7,zc1),(.loc 8,[ci 2,ci 0,.nils,.nils,ci 0,.nils,.nils,.mref (.l 8 7),.mref (.l 8 8),ci 0,.nils]),(.loc 9,[ci 2,ci 0,.nils,.nils,ci 0,.nils,.nils,.mref (.l 9 7),.mref (.l 9 8),ci 0,.nils]),(.loc 15,(enc .kid (p.kids.getD x90_b.toNat (KidOf.mk 0 Edit.nil)))),(.x 0,[.bool mx0_0_d,.bool mx0_1_d])],[(.l 8 7,LC.mk (U:=U) .wedit rl_8_7 0),(.l 8 8,LC.mk (U:=U) .kid rl_8_8_d 0),(.l 9 7,LC.mk (U:=U) .wedit rl_9_7 0),(.l 9 8,LC.mk (U:=U) .kid rl_9_8_d 0)]⟩:LSt U)
def Z8E(mc ma:Bool)(p q:Edit)(rl_8_7 rl_9_7:List WEdit)(x90_b x98_d:Int)(mx0_0_e mx0_1_e:Bool)(rl_8_8_e rl_9_8_e:List Kid):LSt U:=(⟨[(0,.ptr (.x 0) 0),pL 5,pL 6,pL 7,pL 8,pL 9,pI 14 x90_b,pL 15,pI 16 x98_d,pL 17,(88,.c (sU .kid p.kids .unk)),pI 89 (p.kids.length:Int),pI 90 x90_b,(96,.c (sU .kid q.kids .unk)),pI 97 (q.kids.length:Int),pI 98 x98_d,(107,.c (.bool (((KidOf.at_ (p.kids.getD x90_b.toNat (KidOf.mk 0 Edit.nil))):Int)==(KidOf.at_ (q.kids.getD x98_d.toNat (KidOf.mk 0 Edit.nil))))))],[(.loc 5,(enc .edit q)),(.loc 6,zc1),(.loc 7,zc1),(.loc 8,[ci 2,ci 0,.nils,.nils,ci 0,.nils,.nils,.mref (.l 8 7),.mref (.l 8 8),ci 0,.nils]),(.loc 9,[ci 2,ci 0,.nils,.nils,ci 0,.nils,.nils,.mref (.l 9 7),.mref (.l 9 8),ci 0,.nils]),(.loc 15,(enc .kid (p.kids.getD x90_b.toNat (KidOf.mk 0 Edit.nil)))),(.loc 17,(enc .kid (q.kids.getD x98_d.toNat (KidOf.mk 0 Edit.nil)))),(.x 0,[.bool mx0_0_e,.bool mx0_1_e])],[(.l 8 7,LC.mk (U:=U) .wedit rl_8_7 0),(.l 8 8,LC.mk (U:=U) .kid rl_8_8_e 0),(.l 9 7,LC.mk (U:=U) .wedit rl_9_7 0),(.l 9 8,LC.mk (U:=U) .kid rl_9_8_e 0)]⟩:LSt U)
abbrev Z6n(N:Nat)(p:List Nat):=AW (Z24 (Zf8 N)) Try.f114 Zk3 p
abbrev Z3d(N:Nat)(p:List Nat):=SW (Z24 (Zf8 N)) Try.f114 Zk3 p
theorem Zxq(N:Nat)(mc ma:Bool)(p q:Edit)(Q:QT)(h:((ZbF (p.words,()))/\(ZbF (q.words,()))/\(Zo (Z6n N [1,1,1,0,1,0,0]) (Z5d mc ma p q 0 mc ma p.words q.words) (xB 0 (Z3d N [1,1,1,1] Q))))):
  Z6n N [] (L2 [(0,.ptr (.x 0) 0),(1,.agg (enc .edit p)),(2,.agg (enc .edit q))] [(.x 0,[.bool mc,.bool ma])]) Q:=
 Eq.mpr (by kernel_rfl) h
theorem Znc(N:Nat)(mc ma:Bool)(p q:Edit)(x31:Int)(mx0_0 mx0_1:Bool)(rl_8_7 rl_9_7:List WEdit)(N0:NT)(Q:QT)(h:let z0:=decide (x31 < (p.words.length:Int));((z0=true->((0:Int)<=x31/\x31 < (p.words.length:Int))/\(Zo (Z6n N [1,1,1,0,1,0,0,1,1,0,0,1,1,0,0]) (Z5c mc ma p q x31 0 mx0_0 mx0_1 rl_8_7 rl_9_7) (xB 2 (xB 1 (Z3d N [1,1,1,0,1,0,0,1,1,1] (xT N0 (xB 0 (Z3d N [1,1,1,1] Q))))))))/\(z0=false->(ZbD (p.kids,()))/\(ZbD (q.kids,()))/\(Zo (Z6n N [1,1,1,1,1,0,1,0,0]) (Z5b mc ma p q rl_8_7 rl_9_7 0 mx0_0 mx0_1 p.kids q.kids) (xB 4 (Z3d N [1,1,1,1,1,1] Q)))))):
  Z6n N [1,1,1,0,1,0,0] (Z5d mc ma p q x31 mx0_0 mx0_1 rl_8_7 rl_9_7) (xT N0 (xB 0 (Z3d N [1,1,1,1] Q))):=
 Eq.mpr (by kernel_rfl) h
theorem Znb(N:Nat)(mc ma:Bool)(p q:Edit)(x31 x39_a:Int)(mx0_0_a mx0_1_a:Bool)(rl_8_7_a rl_9_7_a:List WEdit)(N1 N0:NT)(Q:QT)(h:∀ y_1,y_1=(p.words.getD x31.toNat (WEdit.mk 0 0 0 0))->∀ y_2,y_2=(q.words.getD x39_a.toNat (WEdit.mk 0 0 0 0))->∀ y_3,y_3=y_1->∀ y_4,y_4=y_2->∀ y_5,y_5=((ZdC y_3 (IntKind.wrap .u8 (BitVec.ofInt (IntKind.bits .u8) 255 ^^^ BitVec.ofInt (IntKind.bits .u8) y_2.mask).toNat)).1)->∀ y_6,y_6=((ZdC y_4 (IntKind.wrap .u8 (BitVec.ofInt (IntKind.bits .u8) 255 ^^^ BitVec.ofInt (IntKind.bits .u8) y_1.mask).toNat)).1)->let z3:=y_1.at_==y_2.at_;let z2:=decide (x39_a < (q.words.length:Int));let z1:=IntKind.bits .u8;let z0:=xT N1 (xB 2 (xB 1 (Z3d N [1,1,1,0,1,0,0,1,1,1] (xT N0 (xB 0 (Z3d N [1,1,1,1] Q))))));((z2=true->((0:Int)<=x39_a/\x39_a < (q.words.length:Int))/\((z3=true->(ZeM ((mx0_0_a,mx0_1_a,()),y_3,y_4,()))/\((ZbE (y_3,(IntKind.wrap .u8 (BitVec.ofInt z1 255 ^^^ BitVec.ofInt z1 y_2.mask).toNat),()))/\((0:Int)<=x31/\x31 < (rl_8_7_a.length:Int))/\((0:Nat)<=x31.toNat)/\((ZbE (y_4,(IntKind.wrap .u8 (BitVec.ofInt z1 255 ^^^ BitVec.ofInt z1 y_1.mask).toNat),()))/\((0:Int)<=x39_a/\x39_a < (rl_9_7_a.length:Int))/\((0:Nat)<=x39_a.toNat)/\(Z6n N [1,1,1,0,1,0,0,1,1,0,0,1,1,0,0,1,1,1] (Z8F mc ma p q x31 x39_a .junk (mx0_0_a || (!(Yj y_3 y_4) && JX y_3 y_4)) (mx0_1_a || Yj y_3 y_4) (List.set rl_8_7_a x31.toNat y_5) (List.set rl_9_7_a x39_a.toNat y_6)) z0))))/\(z3=false->Z6n N [1,1,1,0,1,0,0,1,1,0,0,1,1,0,0,1,1,1] (Z8F mc ma p q x31 x39_a (.c (.bool z3)) mx0_0_a mx0_1_a rl_8_7_a rl_9_7_a) z0)))/\(z2=false->(InR (x31+1))/\(N0 (Z5d mc ma p q (x31+1) mx0_0_a mx0_1_a rl_8_7_a rl_9_7_a))))):
  Z6n N [1,1,1,0,1,0,0,1,1,0,0,1,1,0,0] (Z5c mc ma p q x31 x39_a mx0_0_a mx0_1_a rl_8_7_a rl_9_7_a) (xT N1 (xB 2 (xB 1 (Z3d N [1,1,1,0,1,0,0,1,1,1] (xT N0 (xB 0 (Z3d N [1,1,1,1] Q))))))):=
 Eq.mpr (by kernel_rfl) (h _ rfl _ rfl _ (Z1T _) _ (Z1T _) _ (Z1T _) _ (Z1T _))
theorem Zna(N:Nat)(mc ma:Bool)(p q:Edit)(rl_8_7 rl_9_7:List WEdit)(x90_b:Int)(mx0_0_b mx0_1_b:Bool)(rl_8_8_b rl_9_8_b:List Kid)(N2:NT)(Q:QT)(h:∀ y_1,y_1=(Edit.mk 2 (Tree.mk 0 ([]:List Int) ([]:List Tree)) (Tree.mk 0 ([]:List Int) ([]:List Tree)) rl_8_7 rl_8_8_b 0 ([]:List Op))->∀ y_2,y_2=(Edit.mk 2 (Tree.mk 0 ([]:List Int) ([]:List Tree)) (Tree.mk 0 ([]:List Int) ([]:List Tree)) rl_9_7 rl_9_8_b 0 ([]:List Op))->let z0:=decide (x90_b < (p.kids.length:Int));((z0=true->((0:Int)<=x90_b/\x90_b < (p.kids.length:Int))/\(Zo (Z6n N [1,1,1,1,1,0,1,0,0,1,1,0,0,1,1,0,0]) (Z5a mc ma p q rl_8_7 rl_9_7 x90_b 0 mx0_0_b mx0_1_b rl_8_8_b rl_9_8_b) (xB 6 (xB 5 (Z3d N [1,1,1,1,1,0,1,0,0,1,1,1] (xT N2 (xB 4 (Z3d N [1,1,1,1,1,1] Q))))))))/\(z0=false->(ZbC ((2,0,([]:List Int),([]:List Tree),0,([]:List Int),([]:List Tree),rl_8_7,rl_8_8_b,0,([]:List Op),()),()))/\(ZbC ((2,0,([]:List Int),([]:List Tree),0,([]:List Int),([]:List Tree),rl_9_7,rl_9_8_b,0,([]:List Op),()),()))/\(Q .ret (L2 [pL 6,pL 7] [(.loc 6,(enc .edit (Z2I y_1))),(.loc 7,(enc .edit (Z2I y_2))),(.x 0,[.bool mx0_0_b,.bool mx0_1_b])]))))):
  Z6n N [1,1,1,1,1,0,1,0,0] (Z5b mc ma p q rl_8_7 rl_9_7 x90_b mx0_0_b mx0_1_b rl_8_8_b rl_9_8_b) (xT N2 (xB 4 (Z3d N [1,1,1,1,1,1] Q))):=
 Eq.mpr (by kernel_rfl) (h _ rfl _ rfl)
theorem ZfK(N:Nat)(mc ma:Bool)(p q:Edit)(x31 x39_a:Int)(v48_c:V U)(mx0_0_c mx0_1_c:Bool)(rl_8_7_c rl_9_7_c:List WEdit)(N1 N0:NT)(Q:QT)(h:(InR (x39_a+1))/\(N1 (Z5c mc ma p q x31 (x39_a+1) mx0_0_c mx0_1_c rl_8_7_c rl_9_7_c))):
  Z6n N [1,1,1,0,1,0,0,1,1,0,0,1,1,0,0,1,1,1] (Z8F mc ma p q x31 x39_a v48_c mx0_0_c mx0_1_c rl_8_7_c rl_9_7_c) (xT N1 (xB 2 (xB 1 (Z3d N [1,1,1,0,1,0,0,1,1,1] (xT N0 (xB 0 (Z3d N [1,1,1,1] Q))))))):=
 Eq.mpr (by kernel_rfl) h
theorem Zn9(N:Nat)(mc ma:Bool)(p q:Edit)(rl_8_7 rl_9_7:List WEdit)(x90_b x98_d:Int)(mx0_0_d mx0_1_d:Bool)(rl_8_8_d rl_9_8_d:List Kid)(N4 N2:NT)(Q:QT)(h:∀ y_1,y_1=(p.kids.getD x90_b.toNat (KidOf.mk 0 Edit.nil))->∀ y_2,y_2=(q.kids.getD x98_d.toNat (KidOf.mk 0 Edit.nil))->∀ y_3,y_3=(y_1.e)->∀ y_4,y_4=(y_2.e)->∀ y_5,y_5=((lbE y_3 y_4).x)->∀ y_6,y_6=((lbE y_3 y_4).y)->let z1:=decide (x98_d < (q.kids.length:Int));let z0:=xT N4 (xB 6 (xB 5 (Z3d N [1,1,1,1,1,0,1,0,0,1,1,1] (xT N2 (xB 4 (Z3d N [1,1,1,1,1,1] Q))))));((z1=true->((0:Int)<=x98_d/\x98_d < (q.kids.length:Int))/\(((y_1.at_==y_2.at_)=true->(Zbw ((mx0_0_d,mx0_1_d,()),y_3,y_4,()))/\(Zot ((mx0_0_d,mx0_1_d,()),y_3,y_4,()) < N)/\((0:Int)<=x90_b/\x90_b < (rl_8_8_d.length:Int))/\((0:Nat)<=x90_b.toNat)/\((0:Int)<=x98_d/\x98_d < (rl_9_8_d.length:Int))/\((0:Nat)<=x98_d.toNat)/\(Z6n N [1,1,1,1,1,0,1,0,0,1,1,0,0,1,1,0,0,1,1,1] (Z8E mc ma p q rl_8_7 rl_9_7 x90_b x98_d (mx0_0_d || (lbE y_3 y_4).c) (mx0_1_d || (lbE y_3 y_4).a) (List.set rl_8_8_d x90_b.toNat (KidOf.mk (KidOf.at_ (rl_8_8_d.getD x90_b.toNat (KidOf.mk 0 Edit.nil))) y_5)) (List.set rl_9_8_d x98_d.toNat (KidOf.mk (KidOf.at_ (rl_9_8_d.getD x98_d.toNat (KidOf.mk 0 Edit.nil))) y_6))) z0))/\((y_1.at_==y_2.at_)=false->Z6n N [1,1,1,1,1,0,1,0,0,1,1,0,0,1,1,0,0,1,1,1] (Z8E mc ma p q rl_8_7 rl_9_7 x90_b x98_d mx0_0_d mx0_1_d rl_8_8_d rl_9_8_d) z0)))/\(z1=false->(InR (x90_b+1))/\(N2 (Z5b mc ma p q rl_8_7 rl_9_7 (x90_b+1) mx0_0_d mx0_1_d rl_8_8_d rl_9_8_d))))):
  Z6n N [1,1,1,1,1,0,1,0,0,1,1,0,0,1,1,0,0] (Z5a mc ma p q rl_8_7 rl_9_7 x90_b x98_d mx0_0_d mx0_1_d rl_8_8_d rl_9_8_d) (xT N4 (xB 6 (xB 5 (Z3d N [1,1,1,1,1,0,1,0,0,1,1,1] (xT N2 (xB 4 (Z3d N [1,1,1,1,1,1] Q))))))):=
 Eq.mpr (by kernel_rfl) (h _ rfl _ rfl _ (Zd _) _ (Zd _) _ (Zd _) _ (Zd _))
theorem ZfJ(N:Nat)(mc ma:Bool)(p q:Edit)(rl_8_7 rl_9_7:List WEdit)(x90_b x98_d:Int)(mx0_0_e mx0_1_e:Bool)(rl_8_8_e rl_9_8_e:List Kid)(N4 N2:NT)(Q:QT)(h:(InR (x98_d+1))/\(N4 (Z5a mc ma p q rl_8_7 rl_9_7 x90_b (x98_d+1) mx0_0_e mx0_1_e rl_8_8_e rl_9_8_e))):
  Z6n N [1,1,1,1,1,0,1,0,0,1,1,0,0,1,1,0,0,1,1,1] (Z8E mc ma p q rl_8_7 rl_9_7 x90_b x98_d mx0_0_e mx0_1_e rl_8_8_e rl_9_8_e) (xT N4 (xB 6 (xB 5 (Z3d N [1,1,1,1,1,0,1,0,0,1,1,1] (xT N2 (xB 4 (Z3d N [1,1,1,1,1,1] Q))))))):=
 Eq.mpr (by kernel_rfl) h
def Ztd(N:Nat)(mc ma:Bool)(p q:Edit):Prop:=AW (Z24 (Zf8 N)) Try.f114 Zk3 [] (Zm (ZcB.can ((mc,ma,()),p,q,())) (ZcB.canX ((mc,ma,()),p,q,()))) (EQ Try.f114 (Zbr ((mc,ma,()),p,q,())) (Z6R ((mc,ma,()),p,q,())))
abbrev Zu7:Prop:=∀ (N:Nat) (mc:Bool) (ma:Bool) (p:Edit) (q:Edit) (_:Unit),ZbJ ((mc,ma,()),p,q,())->ZjR ((mc,ma,()),p,q,()) < N+1->Ztd N mc ma p q
def Zk2:Zf U:=fun i=> match i with
 | 0=> ([(0,[]),(4,[]),(5,[]),(6,[]),(7,[])],[(.loc 4,[]),(.loc 5,[]),(.loc 6,[]),(.loc 7,[]),(.x 0,[])])
 | 1=> ([(0,[]),(4,[]),(6,[]),(7,[]),(8,[]),(9,[])],[(.loc 4,[]),(.loc 6,[]),(.loc 7,[]),(.x 0,[])])
 | 2=> ([(0,[]),(4,[]),(6,[]),(7,[]),(8,[]),(22,[])],[(.loc 4,[]),(.loc 6,[]),(.loc 7,[]),(.x 0,[])])
 | 3=> ([(6,[]),(7,[])],[(.loc 6,[]),(.loc 7,[]),(.x 0,[])])
 | 4=> ([(6,[]),(7,[])],[(.loc 6,[]),(.loc 7,[]),(.x 0,[])])
 | 5=> ([(4,[]),(6,[]),(7,[]),(8,[]),(10,[])],[(.loc 4,[]),(.loc 6,[]),(.loc 7,[]),(.loc 31,[]),(.x 0,[])])
 | 6=> ([(4,[]),(6,[]),(7,[]),(10,[]),(32,[]),(33,[]),(34,[])],[(.loc 4,[]),(.loc 6,[]),(.loc 7,[]),(.loc 31,[.any,.own .op,.own .op,.own .tree,.own .tree]),(.x 0,[])])
 | 7=> ([(4,[]),(6,[]),(7,[]),(10,[]),(32,[]),(33,[]),(34,[]),(35,[])],[(.loc 4,[]),(.loc 6,[]),(.loc 7,[]),(.loc 31,[]),(.x 0,[])])
 | 8=> ([(4,[]),(6,[]),(7,[]),(10,[]),(12,[]),(32,[]),(33,[]),(34,[])],[(.loc 4,[]),(.loc 6,[]),(.loc 7,[]),(.loc 12,[]),(.loc 31,[]),(.x 0,[])])
 | 9=> ([(4,[]),(6,[]),(7,[]),(10,[]),(12,[]),(32,[]),(33,[]),(34,[]),(39,[])],[(.loc 4,[]),(.loc 6,[]),(.loc 7,[]),(.loc 12,[]),(.loc 31,[]),(.x 0,[])])
 | 10=> ([(4,[]),(6,[]),(7,[]),(10,[]),(12,[]),(32,[]),(33,[]),(34,[])],[(.loc 4,[]),(.loc 6,[]),(.loc 7,[]),(.loc 12,[]),(.loc 31,[]),(.x 0,[])])
 | 11=> ([(4,[]),(6,[]),(7,[]),(10,[]),(32,[]),(33,[]),(34,[])],[(.loc 4,[]),(.loc 6,[]),(.loc 7,[]),(.loc 31,[]),(.x 0,[])])
 | 12=> ([(4,[]),(6,[]),(7,[]),(10,[]),(12,[]),(32,[]),(33,[]),(34,[]),(39,[]),(48,[])],[(.loc 4,[]),(.loc 6,[]),(.loc 7,[]),(.loc 12,[]),(.loc 31,[]),(.x 0,[])])
 | 13=> ([(4,[]),(6,[]),(7,[]),(10,[]),(32,[]),(33,[]),(34,[])],[(.loc 4,[]),(.loc 6,[]),(.loc 7,[]),(.loc 31,[]),(.x 0,[])])
 | 14=> ([(4,[]),(6,[]),(7,[]),(10,[]),(12,[]),(32,[]),(33,[]),(34,[]),(61,[])],[(.loc 4,[]),(.loc 6,[]),(.loc 7,[]),(.loc 12,[]),(.loc 31,[]),(.x 0,[])])
 | 15=> ([(4,[]),(6,[]),(7,[]),(10,[]),(32,[]),(33,[]),(34,[])],[(.loc 4,[]),(.loc 6,[]),(.loc 7,[]),(.loc 31,[]),(.x 0,[])])
 | 16=> ([(4,[]),(6,[]),(7,[]),(10,[]),(32,[]),(33,[]),(34,[])],[(.loc 4,[]),(.loc 6,[]),(.loc 7,[]),(.loc 31,[.any,.own .op,.own .op,.own .tree,.own .tree]),(.x 0,[])])
 | 17=> ([(4,[]),(6,[]),(7,[]),(10,[])],[(.loc 4,[]),(.loc 6,[]),(.loc 7,[]),(.loc 31,[]),(.x 0,[])])
 | 18=> ([(6,[]),(7,[])],[(.loc 6,[]),(.loc 7,[]),(.x 0,[])])
 | _=> ([],[])
def Z1I(mc ma:Bool)(p q:Edit)(x34:Int)(mx0_0 mx0_1:Bool)(ml31_3 ml31_4:List Tree)(ml31_1 ml31_2:List Op):LSt U:=(L2 [pL 4,pL 6,pL 7,(10,.ptr (.loc 31) 0),(32,.c (sU .piece ((ZI 2 2 p.ops q.ops []).1) .unk)),pI 33 (((ZI 2 2 p.ops q.ops []).1).length:Int),pI 34 x34] [(.loc 4,(enc .edit p)),(.loc 6,zc1),(.loc 7,zc1),(.loc 31,[.xp 0,sU .op ml31_1 (.own (.l 31 1)),sU .op ml31_2 (.own (.l 31 2)),sU .tree ml31_3 (.own (.l 31 3)),sU .tree ml31_4 (.own (.l 31 4))]),(.x 0,[.bool mx0_0,.bool mx0_1])])
abbrev ZwL(N:Nat)(p:List Nat):=AW (Z6 (Zf8 N)) Try.f115 Zk2 p
abbrev Zyh(N:Nat)(p:List Nat):=SW (Z6 (Zf8 N)) Try.f115 Zk2 p
theorem Zxp(N:Nat)(mc ma:Bool)(p q:Edit)(Q:QT)(h:let z0:= !((ZI 2 2 p.ops q.ops []).2.1);((Zi1 (p.ops,q.ops,()))/\((z0=true->((Z8g ())/\(Q .ret (L2 [pL 6,pL 7] [(.loc 6,(enc .edit Edit.nil)),(.loc 7,(enc .edit Edit.nil)),(.x 0,[.bool mc,.bool true])]))))/\(z0=false->(Zo (ZwL N [1,1,1,1,0,1,0,0]) (Z1I mc ma p q 0 mc ma [] [] [] []) (xB 0 (Zyh N [1,1,1,1,1] Q))))))):
  ZwL N [] (L2 [(0,.ptr (.x 0) 0),(1,.agg (enc .edit p)),(2,.agg (enc .edit q))] [(.x 0,[.bool mc,.bool ma])]) Q:=
 Eq.mpr (by kernel_rfl) h
theorem Zn8(N:Nat)(mc ma:Bool)(p q:Edit)(x34:Int)(mx0_0 mx0_1:Bool)(ml31_3 ml31_4:List Tree)(ml31_1 ml31_2:List Op)(N0:NT)(Q:QT)(h:∀ y_1,y_1=(Edit.new (Z0j p.list (ml31_1++(Jb ml31_3 ml31_4).x)))->∀ y_2,y_2=(Edit.new (Z0j p.list (ml31_2++(Jb ml31_3 ml31_4).y)))->∀ y_3,y_3=(Edit.old (Z0j p.list (ml31_1++(Jb ml31_3 ml31_4).x)))->∀ y_4,y_4=(Edit.old (Z0j p.list (ml31_2++(Jb ml31_3 ml31_4).y)))->∀ y_5,y_5=(List.getD ((ZI 2 2 p.ops q.ops []).1) x34.toNat (Piece.mk 0 Op.nil Op.nil))->∀ y_6,y_6=(y_5.p)->∀ y_7,y_7=(y_5.q)->let z5:=Zz lbE y_6 y_7;let z4:=decide (x34 < (((ZI 2 2 p.ops q.ops []).1).length:Int));let z3:=ZeL (((),ml31_1,ml31_2,ml31_3,ml31_4,()),(mx0_0,mx0_1,()),());let z0:=Jb ml31_3 ml31_4;let z2:=Z0j p.list (ml31_2++z0.y);let z1:=Z0j p.list (ml31_1++z0.x);((z4=true->((0:Int)<=x34/\x34 < (((ZI 2 2 p.ops q.ops []).1).length:Int))/\(((y_5.of==1)=true->((ml31_3.length+y_5.p.l.length)*56<=140737488355328)/\((InR (x34+1))/\(N0 (Z1I mc ma p q (x34+1) mx0_0 mx0_1 (ml31_3++y_5.p.l) ml31_4 ml31_1 ml31_2))))/\((y_5.of==1)=false->(((y_5.of==2)=true->((ml31_4.length+y_5.q.l.length)*56<=140737488355328)/\((InR (x34+1))/\(N0 (Z1I mc ma p q (x34+1) mx0_0 mx0_1 ml31_3 (ml31_4++y_5.q.l) ml31_1 ml31_2))))/\((y_5.of==2)=false->z3/\((Z8d (((),(ml31_1++z0.x),(ml31_2++z0.y),([]:List Tree),([]:List Tree),()),y_6,y_7,((mx0_0 || z0.c),mx0_1,()),()))/\(ZjP (((),(ml31_1++z0.x),(ml31_2++z0.y),([]:List Tree),([]:List Tree),()),y_6,y_7,((mx0_0 || z0.c),mx0_1,()),()) < N)/\((InR (x34+1))/\(N0 (Z1I mc ma p q (x34+1) ((mx0_0 || z0.c) || z5.c) (mx0_1 || z5.a) ([]:List Tree) ([]:List Tree) ((ml31_1++z0.x)++z5.x) ((ml31_2++z0.y)++z5.y))))))))))/\(z4=false->z3/\((ZbB (p.list,(ml31_1++z0.x),()))/\(ZbB (p.list,(ml31_2++z0.y),()))/\(Q .ret (L2 [pL 6,pL 7] [(.loc 6,([ci (Edit.kind z1)]++enc .tree y_3++enc .tree y_1++[sU .wedit (Edit.words z1) .unk,sU .kid (Edit.kids z1) .unk,ci (Edit.list z1),sU .op (Edit.ops z1) .unk])),(.loc 7,([ci (Edit.kind z2)]++enc .tree y_4++enc .tree y_2++[sU .wedit (Edit.words z2) .unk,sU .kid (Edit.kids z2) .unk,ci (Edit.list z2),sU .op (Edit.ops z2) .unk])),(.x 0,[.bool (mx0_0 || z0.c),.bool mx0_1])])))))):
  ZwL N [1,1,1,1,0,1,0,0] (Z1I mc ma p q x34 mx0_0 mx0_1 ml31_3 ml31_4 ml31_1 ml31_2) (xT N0 (xB 0 (Zyh N [1,1,1,1,1] Q))):=
 Eq.mpr (by kernel_rfl) (h _ rfl _ rfl _ rfl _ rfl _ rfl _ (YA _) _ (YA _))
def Ztc(N:Nat)(mc ma:Bool)(p q:Edit):Prop:=AW (Z6 (Zf8 N)) Try.f115 Zk2 [] (Zm (ZcB.can ((mc,ma,()),p,q,())) (ZcB.canX ((mc,ma,()),p,q,()))) (EQ Try.f115 (Zbq ((mc,ma,()),p,q,())) (Z6Q ((mc,ma,()),p,q,())))
abbrev Zu6:Prop:=∀ (N:Nat) (mc:Bool) (ma:Bool) (p:Edit) (q:Edit) (_:Unit),ZbI ((mc,ma,()),p,q,())->ZjR ((mc,ma,()),p,q,()) < N+1->Ztc N mc ma p q
def ZoR:Zf U:=fun i=> match i with
 | 0=> ([(0,[]),(4,[]),(5,[])],[(.loc 4,[]),(.loc 5,[]),(.x 0,[]),(.x 1,[])])
 | 1=> ([(0,[]),(6,[]),(7,[])],[(.loc 6,[]),(.loc 7,[]),(.x 0,[]),(.x 1,[])])
 | 2=> ([],[(.x 0,[]),(.x 1,[])])
 | 3=> ([(0,[]),(4,[]),(5,[]),(42,[])],[(.loc 4,[]),(.loc 5,[]),(.x 0,[]),(.x 1,[])])
 | 4=> ([],[(.x 0,[]),(.x 1,[])])
 | 5=> ([(0,[]),(4,[]),(5,[]),(62,[])],[(.loc 4,[]),(.loc 5,[]),(.x 0,[]),(.x 1,[])])
 | 6=> ([],[(.x 0,[]),(.x 1,[])])
 | 7=> ([(0,[]),(4,[]),(5,[]),(82,[])],[(.loc 4,[]),(.loc 5,[]),(.x 0,[]),(.x 1,[])])
 | 8=> ([],[(.x 0,[]),(.x 1,[])])
 | 9=> ([(0,[]),(4,[]),(5,[]),(109,[])],[(.loc 4,[]),(.loc 5,[]),(.x 0,[]),(.x 1,[])])
 | 10=> ([],[(.x 0,[]),(.x 1,[])])
 | 11=> ([(0,[]),(4,[]),(5,[]),(133,[])],[(.loc 4,[]),(.loc 5,[]),(.x 0,[]),(.x 1,[])])
 | 12=> ([(0,[]),(147,[])],[(.x 0,[]),(.x 1,[])])
 | 13=> ([],[(.x 0,[]),(.x 1,[])])
 | 14=> ([(0,[]),(4,[]),(5,[]),(154,[])],[(.loc 4,[]),(.loc 5,[]),(.x 0,[]),(.x 1,[])])
 | 15=> ([],[(.x 0,[]),(.x 1,[])])
 | 16=> ([(0,[]),(4,[]),(5,[]),(166,[])],[(.loc 4,[]),(.loc 5,[]),(.x 0,[]),(.x 1,[])])
 | 17=> ([],[(.x 0,[]),(.x 1,[])])
 | _=> ([],[])
abbrev Zzd(N:Nat)(p:List Nat):=AW (Z6 (Zf8 N)) Try.f160 ZoR p
theorem Zx9(N:Nat)(sm_:Unit)(sx sy:List Op)(si sh:List Tree)(p q:Op)(mc ma:Bool)(Q:QT)(h:∀ y_1,y_1=p->∀ y_2,y_2=q->∀ y_3,y_3=(p.e)->∀ y_4,y_4=(q.e)->∀ y_5,y_5=(List.getD p.l (Int.toNat 0) Tree.nil)->∀ y_6,y_6=(List.getD q.l (Int.toNat 0) Tree.nil)->∀ y_7,y_7=(Edit.mk 0 (Tree.mk 0 [] []) (Tree.mk 0 [] []) [] [] 0 [])->∀ y_8,y_8=((lbE y_3 y_4).x)->∀ y_9,y_9=((lbE y_3 y_4).y)->∀ y_10,y_10=(Z3H y_8)->∀ y_11,y_11=(Z3H y_9)->let z3:=bif (p.kind==1) then (q.kind==1) else false;let z2:=bif (p.kind==1) then (q.kind==0) else false;let z1:=bif (p.kind==0) then (q.kind==1) else false;let z0:= !(eqX (Z3 p.l) (Z3 q.l));((Tr ((p.kind==0)=true))/\(Tr ((p.kind==0)=true))/\(Tr ((p.kind==0)=true))/\((z1=true->((sy.length+([(OpOf.mk 0 0 [] y_7)]).length)*240<=140737488355328)/\((0:Int)<=(sy.length:Int)/\(sy.length:Int) < ((sy++([(OpOf.mk 0 0 [] y_7)])).length:Int))/\(sy.length<=(Int.toNat (sy.length:Int)))/\(Q .normal (L2 [] [(.x 0,[.xp 1,sU .op sx (.own (.x 0 1)),sU .op (List.set (sy++([(OpOf.mk 0 0 [] y_7)])) (Int.toNat (sy.length:Int)) y_2) (.own (.x 0 2)),sU .tree si (.own (.x 0 3)),sU .tree sh (.own (.x 0 4))]),(.x 1,[.bool mc,.bool ma])])))/\(z1=false->(Tr ((p.kind==1)=true))/\(Tr ((p.kind==1)=true))/\(Tr ((p.kind==1)=true))/\((z2=true->((sx.length+([(OpOf.mk 0 0 [] y_7)]).length)*240<=140737488355328)/\((0:Int)<=(sx.length:Int)/\(sx.length:Int) < ((sx++([(OpOf.mk 0 0 [] y_7)])).length:Int))/\(sx.length<=(Int.toNat (sx.length:Int)))/\(Q .normal (L2 [] [(.x 0,[.xp 1,sU .op (List.set (sx++([(OpOf.mk 0 0 [] y_7)])) (Int.toNat (sx.length:Int)) y_1) (.own (.x 0 1)),sU .op sy (.own (.x 0 2)),sU .tree si (.own (.x 0 3)),sU .tree sh (.own (.x 0 4))]),(.x 1,[.bool mc,.bool ma])])))/\(z2=false->(((p.kind==0)=true->((sx.length+([(OpOf.mk 0 (if q.n < 1 then 1 else q.n) [] y_7)]).length)*240<=140737488355328)/\((sy.length+([y_2]).length)*240<=140737488355328)/\(Q .normal (L2 [] [(.x 0,[.xp 1,sU .op (sx++([(OpOf.mk 0 (if q.n < 1 then 1 else q.n) [] y_7)])) (.own (.x 0 1)),sU .op (sy++([y_2])) (.own (.x 0 2)),sU .tree si (.own (.x 0 3)),sU .tree sh (.own (.x 0 4))]),(.x 1,[.bool mc,.bool ma])])))/\((p.kind==0)=false->(((q.kind==0)=true->((sx.length+([y_1]).length)*240<=140737488355328)/\((sy.length+([(OpOf.mk 0 1 [] y_7)]).length)*240<=140737488355328)/\(Q .normal (L2 [] [(.x 0,[.xp 1,sU .op (sx++([y_1])) (.own (.x 0 1)),sU .op (sy++([(OpOf.mk 0 1 [] y_7)])) (.own (.x 0 2)),sU .tree si (.own (.x 0 3)),sU .tree sh (.own (.x 0 4))]),(.x 1,[.bool mc,.bool ma])])))/\((q.kind==0)=false->(Tr ((p.kind==1)=true))/\(Tr ((p.kind==1)=true))/\(Tr ((p.kind==1)=true))/\((z3=true->(Z63 (p.l,q.l,(),()))/\((z0=true->(Q .normal (L2 [] [(.x 0,[.xp 1,sU .op sx (.own (.x 0 1)),sU .op sy (.own (.x 0 2)),sU .tree si (.own (.x 0 3)),sU .tree sh (.own (.x 0 4))]),(.x 1,[.bool mc,.bool true])])))/\(z0=false->Q .normal (L2 [(0,.ptr (.x 0) 0),pB 147 z0] [(.x 0,[.xp 1,sU .op sx (.own (.x 0 1)),sU .op sy (.own (.x 0 2)),sU .tree si (.own (.x 0 3)),sU .tree sh (.own (.x 0 4))]),(.x 1,[.bool mc,.bool ma])]))))/\(z3=false->(((p.kind==1)=true->((0:Int)<=0/\0 < (p.l.length:Int))/\(ZbA (((),sx,sy,si,sh,()),y_4,y_5,(mc,ma,()),()))/\(Q .normal (L2 [] [(.x 0,[.xp 1,sU .op sx (.own (.x 0 1)),sU .op sy (.own (.x 0 2)),sU .tree si (.own (.x 0 3)),sU .tree sh (.own (.x 0 4))]),(.x 1,[.bool true,.bool (ma || !(doE false y_4 y_5).isSome)])])))/\((p.kind==1)=false->(((q.kind==1)=true->((0:Int)<=0/\0 < (q.l.length:Int))/\(ZbA (((),sx,sy,si,sh,()),y_3,y_6,(mc,ma,()),()))/\(Q .normal (L2 [] [(.x 0,[.xp 1,sU .op sx (.own (.x 0 1)),sU .op sy (.own (.x 0 2)),sU .tree si (.own (.x 0 3)),sU .tree sh (.own (.x 0 4))]),(.x 1,[.bool true,.bool (ma || !(doE false y_3 y_6).isSome)])])))/\((q.kind==1)=false->(Zbw ((mc,ma,()),y_3,y_4,()))/\(Zot ((mc,ma,()),y_3,y_4,()) < N)/\((ZeD (y_8,()))/\((sx.length+([y_10]).length)*240<=140737488355328)/\(ZeD (y_9,()))/\((sy.length+([y_11]).length)*240<=140737488355328)/\(Q .normal (L2 [] [(.x 0,[.xp 1,sU .op (sx++([y_10])) (.own (.x 0 1)),sU .op (sy++([y_11])) (.own (.x 0 2)),sU .tree si (.own (.x 0 3)),sU .tree sh (.own (.x 0 4))]),(.x 1,[.bool (mc || (lbE y_3 y_4).c),.bool (ma || (lbE y_3 y_4).a)])]))))))))))))))))))):
  Zzd N [] (L2 [(0,.ptr (.x 0) 0),(1,.agg (enc .op p)),(2,.agg (enc .op q))] [(.x 0,[.xp 1,sU .op sx (.own (.x 0 1)),sU .op sy (.own (.x 0 2)),sU .tree si (.own (.x 0 3)),sU .tree sh (.own (.x 0 4))]),(.x 1,[.bool mc,.bool ma])]) Q:=
 Eq.mpr (by kernel_rfl) (h _ (YA _) _ (YA _) _ (Zd _) _ (Zd _) _ (Zc _) _ (Zc _) _ rfl _ (Zd _) _ (Zd _) _ (YA _) _ (YA _))
def ZsW(N:Nat)(sm_:Unit)(sx sy:List Op)(si sh:List Tree)(p q:Op)(mc ma:Bool):Prop:=AW (Z6 (Zf8 N)) Try.f160 ZoR [] (Zm (Z7U.can ((sm_,sx,sy,si,sh,()),p,q,(mc,ma,()),())) (Z7U.canX ((sm_,sx,sy,si,sh,()),p,q,(mc,ma,()),()))) (EQ Try.f160 (Zbo ((sm_,sx,sy,si,sh,()),p,q,(mc,ma,()),())) (Z6N ((sm_,sx,sy,si,sh,()),p,q,(mc,ma,()),())))
abbrev Zu5:Prop:=∀ (N:Nat) (sm_:Unit) (sx:List Op) (sy:List Op) (si:List Tree) (sh:List Tree) (p:Op) (q:Op) (mc:Bool) (ma:Bool) (_:Unit),Z8d ((sm_,sx,sy,si,sh,()),p,q,(mc,ma,()),())->ZjP ((sm_,sx,sy,si,sh,()),p,q,(mc,ma,()),()) < N+1->ZsW N sm_ sx sy si sh p q mc ma
theorem Zrn(Z9O:CT 106 Jf)(ZvR:CT 112 Za2)(ZvQ:CT 113 Za1)(Zfi:CT 151 Z0f)(ZvL:CT 153 Za0)(ZvK:CT 154 Z9Z)(ZvJ:CT 155 Z9Y)(ZvI:CT 156 Z9X)(ZvH:CT 157 Z9W)(ZvG:CT 158 Z9V)(ZvF:CT 159 Z9U)(ZvE:CT 161 Z9T)(Zvz:CT 179 Z9S)(Zvy:CT 180 Z9R)(b77:Zyk)(ZvZ:Zu7)(ZvY:Zu6)(ZvX:Zu5):
  CT 77 Z80/\CT 114 Zj9/\CT 115 Zj8/\CT 160 Zj7:=by
 have h77 : ∃ fn, Try.prog.funcs[(77 : FuncId)]? = some fn ∧ fn.body.isSome = true ∧ (fn.name == "runtime.NumGoroutine") = false := ⟨Try.f77, Try.func77, rfl, rfl⟩
 have h114 : ∃ fn, Try.prog.funcs[(114 : FuncId)]? = some fn ∧ fn.body.isSome = true ∧ (fn.name == "runtime.NumGoroutine") = false := ⟨Try.f114, Try.func114, rfl, rfl⟩
 have h115 : ∃ fn, Try.prog.funcs[(115 : FuncId)]? = some fn ∧ fn.body.isSome = true ∧ (fn.name == "runtime.NumGoroutine") = false := ⟨Try.f115, Try.func115, rfl, rfl⟩
 have h160 : ∃ fn, Try.prog.funcs[(160 : FuncId)]? = some fn ∧ fn.body.isSome = true ∧ (fn.name == "runtime.NumGoroutine") = false := ⟨Try.f160, Try.func160, rfl, rfl⟩
 have key:∀ N,CT 77 (fsX ZcB (fun a=> [Zbw a,Zot a < N]) Zgd Zbm)/\CT 114 (fsX ZcB (fun a=> [ZbJ a,ZjR a < N]) Zbr Z6R)/\CT 115 (fsX ZcB (fun a=> [ZbI a,ZjR a < N]) Zbq Z6Q)/\CT 160 (fsX Z7U (fun a=> [Z8d a,ZjP a < N]) Zbo Z6N):=by
  intro N
  induction N with
  | zero=> exact ⟨Z7M h77,Z7M h114,Z7M h115,Z7M h160⟩
  | succ N ih=>
   have kn:=Z0R (l:=Z2x N) ⟨ih.1,ih.2.1,ih.2.2.1,ih.2.2.2,Z9O,ZvR,ZvQ,Zfi,ZvL,ZvK,ZvJ,ZvI,ZvH,ZvG,ZvF,ZvE,Zvz,Zvy,trivial⟩
   exact ⟨Z0u (Γ:=Z6 (Z2x N)) Zn rfl kn ZuY Try.func77 rfl rfl (fun a=> by show 3<=_;decide) (fun ⟨⟨mc,ma,_⟩,p,q,_⟩ h=> b77 N mc ma p q () h.1 h.2.1),
    Z0u (Γ:=Z24 (Z2x N)) Zn rfl kn Zk3 Try.func114 rfl rfl (fun a=> by show 3<=_;decide) (fun ⟨⟨mc,ma,_⟩,p,q,_⟩ h=> ZvZ N mc ma p q () h.1 h.2.1),
    Z0u (Γ:=Z6 (Z2x N)) Zn rfl kn Zk2 Try.func115 rfl rfl (fun a=> by show 3<=_;decide) (fun ⟨⟨mc,ma,_⟩,p,q,_⟩ h=> ZvY N mc ma p q () h.1 h.2.1),
    Z0u (Γ:=Z6 (Z2x N)) Zn rfl kn ZoR Try.func160 rfl rfl (fun a=> by show 3<=_;decide) (fun ⟨⟨sm_,sx,sy,si,sh,_⟩,p,q,⟨mc,ma,_⟩,_⟩ h=> ZvX N sm_ sx sy si sh p q mc ma () h.1 h.2.1)⟩
 exact ⟨Z7N h77 fun N=> (key N).1,Z7N h114 fun N=> (key N).2.1,Z7N h115 fun N=> (key N).2.2.1,Z7N h160 fun N=> (key N).2.2.2⟩
end
def at1(n:Int):Tree:= .mk 10 [n] []
theorem ZfR{o:Option Tree}(h:o.isSome=true):∃ v,o=some v:=by cases o with | none=> cases h | some v=> exact ⟨v,rfl⟩
theorem ZmD:Contract Try.prog cfg 174 Z2f:=by
 refine ZrD ?_
 intro w _ _
 refine Zx5 _ _ ?_
 simp only [ZhP]
 (repeat' (first | exact trivial | exact rfl | apply And.intro))
theorem ZmC:Contract Try.prog cfg 176 Z2e:=by
 refine ZrB ?_
 intro w _ _
 refine Zx3 _ _ ?_
 simp only [ZhO]
 (repeat' (first | exact trivial | exact rfl | apply And.intro))
theorem Zvw:Contract Try.prog cfg 182 Z6v:=by
 refine Zrv ?_
 intro w _ _
 refine ZwX _ _ ?_
 simp only [ZhM]
 (repeat' (first | exact trivial | exact rfl | apply And.intro))
theorem Z30{α:Type}(f:α->Bool):∀ (l:List α) (i:Int),(YR f l i= -1/\∀ a∈l,f a=false)\/(i<=YR f l i/\YR f l i < i+l.length/\(∀ a∈l.take (YR f l i - i).toNat,f a=false)/\∀ z,f (l.getD (YR f l i - i).toNat z)=true)
 | [],i=> .inl ⟨rfl,fun a h=> by cases h⟩
 | a ::r,i=> by
  by_cases h:f a=true
  ·rw [YR,if_pos h]
   refine .inr ⟨QX _,by simp only [Qb];omega,?_,fun z=> ?_⟩
   ·rw [show (i - i).toNat=0 by omega];simp
   ·rw [show (i - i).toNat=0 by omega];exact h
  ·rw [YR,if_neg h]
   rcases Z30 f r (i+1) with ⟨h1,h2⟩ | ⟨h1,h2,h3,h4⟩
   ·exact .inl ⟨h1,fun x hx=> by rcases Qd.1 hx with rfl | hx;simpa using h;exact h2 x hx⟩
   ·have e:(YR f r (i+1) - i).toNat=(YR f r (i+1) - (i+1)).toNat+1:=by omega
    rw [e]
    refine .inr ⟨by omega,by simp only [Qb];omega,fun x hx=> ?_,fun z=> by simpa using h4 z⟩
    rw [List.take_succ_cons] at hx
    rcases Qd.1 hx with rfl | hx
    ·simpa using h
    ·exact h3 x hx
theorem ZpB{α:Type}(f:α->Bool)(l:List α):decide (0<=YR f l 0)=l.any f:=by
 rcases Z30 f l 0 with ⟨h1,h2⟩ | ⟨h1,h2,_,h4⟩
 ·rw [h1,Xy.2 (fun x hx=> by rw [h2 x hx];decide)];try rfl
 ·rw [decide_eq_true h1,XC.2]
  cases l with
  | nil=> simp at h2;omega
  | cons a r=> exact ⟨_,Zk (by simp only [Qb] at h2 ⊢;omega) a,h4 a⟩
theorem Zvt:Contract Try.prog cfg 192 Z6s:=by
 refine Zrq ZmD ?_
 intro l f _ hp
 simp only [ZeB] at hp
 refine ZwS l f _ ?_
 refine Zb (ι:=Int) (fun i=> Z57 l f i) (fun i=> 0<=i/\i<=l.length/\YR (fun w:WEdit=> decide (WEdit.mask w=0)) (l.drop i.toNat) i=YR (fun w:WEdit=> decide (WEdit.mask w=0)) l 0) (fun i=> ((l.length:Int) - i).toNat) 0 rfl ⟨by omega,by omega,rfl⟩ ?_
 rintro i ⟨h1,h2,h3⟩
 refine Zn1 l f _ _ _ ?_
 (simp only [vcT,vcS])
 refine ⟨fun hi=> ⟨⟨h1,hi⟩,trivial,fun he=> ?_,fun he=> ⟨by unfold InR;omega,i+1,rfl,⟨by omega,by omega,?_⟩,by omega⟩⟩,fun hi=> ?_⟩
 ·rw [J1 h1 hi ⟨0,0,0,0⟩,YR,if_pos (decide_eq_true he)] at h3
  simp only [Zel,<-h3]
  (repeat' (first | exact trivial | exact rfl | apply And.intro))
 ·rw [J1 h1 hi ⟨0,0,0,0⟩,YR,if_neg (fun e=> he (of_decide_eq_true e))] at h3
  exact h3
 ·rw [Ql (by omega),YR] at h3
  simp only [Zel,<-h3]
  (repeat' (first | exact trivial | exact rfl | apply And.intro))
theorem ZpT:Contract Try.prog cfg 72 Z3U:=by
 refine ZoC ZmC ?_
 intro l f _ hp
 simp only [Zai] at hp
 refine Zue l f _ ?_
 refine Zb (ι:=Int) (fun i=> Z3A l f i) (fun i=> 0<=i/\i<=l.length/\YR (fun k:Kid=> decide (Edit.kind (KidOf.e k)=0)) (l.drop i.toNat) i=YR (fun k:Kid=> decide (Edit.kind (KidOf.e k)=0)) l 0) (fun i=> ((l.length:Int) - i).toNat) 0 rfl ⟨by omega,by omega,rfl⟩ ?_
 rintro i ⟨h1,h2,h3⟩
 refine Zls l f _ _ _ ?_
 intros
 (simp only [vcT,vcS])
 subst_vars
 refine ⟨fun hi=> ⟨⟨h1,hi⟩,trivial,fun he=> ?_,fun he=> ⟨by unfold InR;omega,i+1,rfl,⟨by omega,by omega,?_⟩,by omega⟩⟩,fun hi=> ?_⟩
 ·rw [J1 h1 hi ⟨0,Edit.nil⟩,YR,if_pos (decide_eq_true he)] at h3
  simp only [Zaf,<-h3]
  (repeat' (first | exact trivial | exact rfl | apply And.intro))
 ·rw [J1 h1 hi ⟨0,Edit.nil⟩,YR,if_neg (fun e=> he (of_decide_eq_true e))] at h3
  exact h3
 ·rw [Ql (by omega),YR] at h3
  simp only [Zaf,<-h3]
  (repeat' (first | exact trivial | exact rfl | apply And.intro))
theorem Zvs:Contract Try.prog cfg 193 Z6r:=by
 refine Zrp Zvw ?_
 intro l f _ hp
 simp only [ZeA] at hp
 refine ZwR l f _ ?_
 refine Zb (ι:=Int) (fun i=> Z56 l f i) (fun i=> 0<=i/\i<=l.length/\YR (fun o:Op=> !decide (OpOf.kind o=0)) (l.drop i.toNat) i=YR (fun o:Op=> !decide (OpOf.kind o=0)) l 0) (fun i=> ((l.length:Int) - i).toNat) 0 rfl ⟨by omega,by omega,rfl⟩ ?_
 rintro i ⟨h1,h2,h3⟩
 refine Zn0 l f _ _ _ ?_
 intros
 (simp only [vcT,vcS])
 subst_vars
 refine ⟨fun hi=> ⟨⟨h1,hi⟩,trivial,fun he=> ?_,fun he=> ⟨by unfold InR;omega,i+1,rfl,⟨by omega,by omega,?_⟩,by omega⟩⟩,fun hi=> ?_⟩
 ·rw [J1 h1 hi Op.nil,YR,if_pos (by simpa using he)] at h3
  simp only [Zek,<-h3]
  (repeat' (first | exact trivial | exact rfl | apply And.intro))
 ·rw [J1 h1 hi Op.nil,YR,if_neg (by simpa using he)] at h3
  exact h3
 ·rw [Ql (by omega),YR] at h3
  simp only [Zek,<-h3]
  (repeat' (first | exact trivial | exact rfl | apply And.intro))
theorem Zvx:Contract Try.prog cfg 181 Z6w:=by
 refine Zrw Zvs ?_
 intro l f _ hp
 simp only [ZeA] at hp
 refine ZwY l f _ ⟨hp,?_⟩
 simp only [ZhN]
 rw [ZpB]
 (repeat' (first | exact trivial | exact rfl | apply And.intro))
theorem ZvB:Contract Try.prog cfg 177 Z6y:=by
 refine ZrA ?_
 intro n _ _
 refine Zx2 _ _ ?_
 (simp only [vcT,vcS])
 refine ⟨fun h=> ?_,fun h=> ?_⟩
 ·simp only [Zeo,JA,if_pos h]
  (repeat' (first | exact trivial | exact rfl | apply And.intro))
 ·simp only [Zeo,JA,if_neg h]
  (repeat' (first | exact trivial | exact rfl | apply And.intro))
theorem ZvL:Contract Try.prog cfg 153 Za0:=by
 refine ZrN ?_
 intro l _ hp
 simp only [ZbF] at hp
 refine Zxg _ _ ⟨fun h=> ?_,fun _=> ⟨by simp only [Qg];omega,?_⟩⟩
 ·subst h
  simp only [Zad]
  (repeat' (first | exact trivial | exact rfl | apply And.intro))
 ·simp only [Zad]
  (repeat' (first | exact trivial | exact rfl | apply And.intro))
theorem ZvI:Contract Try.prog cfg 156 Z9X:=by
 refine ZrK ?_
 intro l _ hp
 simp only [ZbD] at hp
 refine Zxd _ _ ⟨fun h=> ?_,fun _=> ⟨by simp only [Qg];omega,?_⟩⟩
 ·subst h
  simp only [Zac]
  (repeat' (first | exact trivial | exact rfl | apply And.intro))
 ·simp only [Zac]
  (repeat' (first | exact trivial | exact rfl | apply And.intro))
structure DInv {α:Type} (g:α->Bool) (l L:List α) (i j:Int):Prop where
 i0:0<=i
 ij:i < j
 jl:j<=l.length
 len:L.length=l.length
 tk:L.take i.toNat=(l.take j.toNat).filter g
 dr:L.drop j.toNat=l.drop j.toNat
theorem DInv.one{α:Type}{f:α->Bool}{l:List α}{k:Int}(e:YR f l 0=k)(hk:k≠-1):DInv (fun a=> !f a) l l k (k+1):=by
 subst e
 rcases Z30 f l 0 with ⟨h1,_⟩ | ⟨h1,h2,h3,h4⟩
 ·exact absurd h1 hk
 ·rw [Int.sub_zero] at h3 h4
  refine ⟨h1,by omega,by omega,rfl,?_,rfl⟩
  cases l with
  | nil=> simp at h2;omega
  | cons a r=>
   rw [show (YR f (a ::r) 0+1).toNat=(YR f (a ::r) 0).toNat+1 by omega,Z7Z (by omega) a,Kk,XM,h4 a,Kg.2 (fun x hx=> by rw [h3 x hx];rfl)]
   simp
theorem DInv.get{α:Type}{g:α->Bool}{l L:List α}{i j:Int}(h:DInv g l L i j)(z:α):L.getD j.toNat z=l.getD j.toNat z:=by
 have:=congrArg (fun x=> x.getD 0 z) h.dr
 simpa [Qo] using this
theorem DInv.next{α:Type}{g:α->Bool}{l L:List α}{i j:Int}(h:DInv g l L i j)(hj:j < l.length)(z:α):
  (g (L.getD j.toNat z)=true->DInv g l (L.set i.toNat (L.getD j.toNat z)) (i+1) (j+1))/\(g (L.getD j.toNat z)=false->DInv g l L i (j+1)):=by
 obtain ⟨i0,ij,jl,len,tk,dr⟩:=h
 have e:=DInv.get ⟨i0,ij,jl,len,tk,dr⟩ z
 have t1:l.take (j+1).toNat=l.take j.toNat++[l.getD j.toNat z]:=by rw [show (j+1).toNat=j.toNat+1 by omega];exact Z7Z (by omega) z
 have d1:L.drop (j+1).toNat=l.drop (j+1).toNat:=by
  have:=congrArg (List.drop 1) dr
  rw [XK,XK] at this
  rw [show (j+1).toNat=j.toNat+1 by omega];exact this
 refine ⟨fun hg=> ⟨by omega,by omega,by omega,by rw [Kd];exact len,?_,?_⟩,fun hg=> ⟨i0,by omega,by omega,len,?_,d1⟩⟩
 ·have hlt:i.toNat < L.length:=by omega
  rw [show (i+1).toNat=i.toNat+1 by omega,Z7Z (by rw [Kd];exact hlt) z,t1,Kk,<-tk,List.take_set_of_le (by omega)]
  rw [e] at hg
  rw [XM,if_pos hg,e]
  simp [Qo,hlt]
 ·rw [List.drop_set,if_pos (by omega)]
  exact d1
 ·rw [t1,Kk,<-tk]
  rw [e] at hg
  rw [XM,hg]
  simp
theorem DInv.fin{α:Type}{g:α->Bool}{l L:List α}{i j:Int}(h:DInv g l L i j)(hj:¬j < l.length)(r:List α):List.take i.toNat (List.take i.toNat L++r)=l.filter g:=by
 have h1:=h.ij;have h2:=h.jl;have h3:=h.len;have h4:=h.i0
 rw [List.take_append_of_le_length (by rw [Qp];omega),List.take_take,Nat.min_self,h.tk,QQ (by omega)]
theorem ZvD:Contract Try.prog cfg 173 Z6A:=by
 refine ZrE ZmD Zvt ?_
 intro l f _ hp
 simp only [ZeB] at hp
 refine Zx6 l f _ ?_
 (simp only [vcT,vcS])
 refine ⟨hp,fun h=> ?_,fun h=> ?_⟩
 ·have e:l.filter (fun w=> !decide (WEdit.mask w=0))=l:=by
   rcases Z30 (fun w:WEdit=> decide (WEdit.mask w=0)) l 0 with ⟨_,h2⟩ | ⟨h1,_⟩
   ·exact Kg.2 fun x hx=> by rw [h2 x hx];try rfl
   ·omega
  simp only [Zeq,Za6,Zaa,e]
  (repeat' (first | exact trivial | exact rfl | apply And.intro))
 ·have D:=DInv.one (f:=fun w:WEdit=> decide (WEdit.mask w=0)) (l:=l) rfl h
  have:=D.jl;have:=D.i0
  refine ⟨by unfold InR;omega,?_⟩
  refine Zb (ι:=List WEdit × Int × Int) (fun s=> Z33 l f s.2.1 s.2.2 s.1) (fun s=> DInv (fun w:WEdit=> !decide (WEdit.mask w=0)) l s.1 s.2.1 s.2.2) (fun s=> ((l.length:Int) - s.2.2).toNat) (l,_,_) rfl D ?_
  rintro ⟨L,i,j⟩ D
  dsimp only at D
  have hl:=D.len;have h0:=D.i0;have h1:=D.ij;have h2:=D.jl
  refine Zn3 l f _ _ _ _ _ ?_
  intro y1 hy1 y2 hy2
  subst hy2
  (simp only [vcT,vcS])
  refine ⟨fun hj=> ?_,fun hj=> ?_⟩
  ·have hn:=D.next (by omega) ⟨0,0,0,0⟩
   rw [<-hy1] at hn
   refine ⟨⟨by omega,hj⟩,trivial,fun he=> ⟨⟨h0,by omega⟩,Xk _,by unfold InR;omega,by unfold InR;omega,(_,i+1,j+1),rfl,hn.1 (by simpa using he),by dsimp only;omega⟩,fun he=> ⟨by unfold InR;omega,(L,i,j+1),rfl,hn.2 (by simpa using he),by dsimp only;omega⟩⟩
  ·refine ⟨⟨h0,by omega⟩,Xk _,⟨h0,by simp only [Q9,Qp,Xb];omega⟩,?_⟩
   rw [D.fin (by omega)]
   simp only [Zeq,Za6,Zaa]
   (repeat' (first | exact trivial | exact rfl | apply And.intro))
theorem ZvC:Contract Try.prog cfg 175 Z6z:=by
 refine ZrC ZmC ZpT ?_
 intro l f _ hp
 simp only [Zai] at hp
 refine Zx4 l f _ ?_
 (simp only [vcT,vcS])
 refine ⟨hp,fun h=> ?_,fun h=> ?_⟩
 ·have e:l.filter (fun k=> !decide (Edit.kind (KidOf.e k)=0))=l:=by
   rcases Z30 (fun k:Kid=> decide (Edit.kind (KidOf.e k)=0)) l 0 with ⟨_,h2⟩ | ⟨h1,_⟩
   ·exact Kg.2 fun x hx=> by rw [h2 x hx];try rfl
   ·omega
  simp only [Zep,Za5,Za9,e]
  (repeat' (first | exact trivial | exact rfl | apply And.intro))
 ·have D:=DInv.one (f:=fun k:Kid=> decide (Edit.kind (KidOf.e k)=0)) (l:=l) rfl h
  have:=D.jl;have:=D.i0
  refine ⟨by unfold InR;omega,?_⟩
  refine Zb (ι:=List Kid × Int × Int) (fun s=> Z32 l f s.2.1 s.2.2 s.1) (fun s=> DInv (fun k:Kid=> !decide (Edit.kind (KidOf.e k)=0)) l s.1 s.2.1 s.2.2) (fun s=> ((l.length:Int) - s.2.2).toNat) (l,_,_) rfl D ?_
  rintro ⟨L,i,j⟩ D
  dsimp only at D
  have hl:=D.len;have h0:=D.i0;have h1:=D.ij;have h2:=D.jl
  refine Zn2 l f _ _ _ _ _ ?_
  intro y1 hy1 y2 hy2
  subst hy2
  (simp only [vcT,vcS])
  refine ⟨fun hj=> ?_,fun hj=> ?_⟩
  ·have hn:=D.next (by omega) ⟨0,Edit.nil⟩
   rw [<-hy1] at hn
   refine ⟨⟨by omega,hj⟩,trivial,fun he=> ⟨⟨h0,by omega⟩,Xk _,by unfold InR;omega,by unfold InR;omega,(_,i+1,j+1),rfl,hn.1 (by simpa using he),by dsimp only;omega⟩,fun he=> ⟨by unfold InR;omega,(L,i,j+1),rfl,hn.2 (by simpa using he),by dsimp only;omega⟩⟩
  ·refine ⟨⟨h0,by omega⟩,Xk _,⟨h0,by simp only [Q9,Qp,Xb];omega⟩,?_⟩
   rw [D.fin (by omega)]
   simp only [Zep,Za5,Za9]
   (repeat' (first | exact trivial | exact rfl | apply And.intro))
theorem ZvH:Contract Try.prog cfg 157 Z9W:=by
 refine ZrJ ZvD ZvC ?_
 intro ek eo eow eok en enw enk ew ec li eos _ hp
 simp only [ZbC] at hp
 have l1:((ew).filter fun w=> !decide (WEdit.mask w=0)).length<=ew.length:=K7 _ _
 have l2:((ec).filter fun k=> !decide (Edit.kind (KidOf.e k)=0)).length<=ec.length:=K7 _ _
 refine Zxc _ _ _ _ _ _ _ _ _ _ _ _ ?_
 (simp only [vcT,vcS])
 refine ⟨by show ew.length<=_;omega,by show ec.length<=_;omega,by unfold InR;omega,fun h=> ?_,fun h=> ?_⟩
 ·simp only [Zet,Za8,Zab]
  rw [show Z2I (Edit.mk ek (Tree.mk eo eow eok) (Tree.mk en enw enk) ew ec li eos)=Edit.nil from if_pos (show ((ew).filter fun w=> !decide (WEdit.mask w=0)).length+((ec).filter fun k=> !decide (Edit.kind (KidOf.e k)=0)).length=0 by omega)]
  (repeat' (first | exact trivial | exact rfl | apply And.intro))
 ·simp only [Zet,Za8,Zab]
  rw [show Z2I (Edit.mk ek (Tree.mk eo eow eok) (Tree.mk en enw enk) ew ec li eos)=Edit.mk ek (Tree.mk eo eow eok) (Tree.mk en enw enk) ((ew).filter fun w=> !decide (WEdit.mask w=0)) ((ec).filter fun k=> !decide (Edit.kind (KidOf.e k)=0)) li eos from if_neg (show ¬((ew).filter fun w=> !decide (WEdit.mask w=0)).length+((ec).filter fun k=> !decide (Edit.kind (KidOf.e k)=0)).length=0 by omega)]
  (repeat' (first | exact trivial | exact rfl | apply And.intro))
theorem ZvE:Contract Try.prog cfg 161 Z9T:=by
 refine ZrG Zvx ?_
 intro list l _ hp
 simp only [ZbB] at hp
 refine Zx8 _ _ _ ⟨hp,fun h=> ?_,fun h=> ?_⟩
 ·simp only [X5] at h
  simp only [Zes,Z0j]
  rw [if_neg (by rw [h];decide)]
  (repeat' (first | exact trivial | exact rfl | apply And.intro))
 ·simp only [Xw] at h
  simp only [Zes,Z0j]
  rw [if_pos h]
  (repeat' (first | exact trivial | exact rfl | apply And.intro))
theorem ZvR:Contract Try.prog cfg 112 Za2:=by
 refine ZrX c26 Z9O ?_
 intro mc ma e o n _ hp
 simp only [Z8h] at hp
 obtain ⟨he,ho,hn⟩:=hp
 refine Zxs _ _ _ _ _ _ ?_
 intro y1 h1 y2 h2 y3 h3 y4 h4
 subst h1 h2 h3
 (simp only [vcT,vcS])
 have ed:doB y1 y3=(y4,(doE false y1 y3).isSome):=by rw [h4];try rfl
 refine ⟨⟨he,ho⟩,fun h=> ?_,fun h=> ⟨⟨?_,by show Zi y2<=_;omega⟩,fun h2=> ?_,fun h2=> ?_⟩⟩
 ·simp only [Zbs,Z6S,JW,ed,h,XZ,XB,Qx,Xo]
  (repeat' (first | exact trivial | exact rfl | apply And.intro))
 ·show Zi y4<=_
  rw [h4]
  exact Z6e he.2.2 ho.1
 ·simp only [Zbs,Z6S,JW,ed,h,h2,QF,Xq,XB,Qx,Xo]
  (repeat' (first | exact trivial | exact rfl | apply And.intro))
 ·simp only [Zbs,Z6S,JW,ed,h,h2,QF,Xq,Qx]
  (repeat' (first | exact trivial | exact rfl | apply And.intro))
theorem Z7k(l:List Tree):(Z2Z l).length<=1:=by unfold Z2Z;split <;> simp
theorem ZvF:Contract Try.prog cfg 159 Z9U:=by
 refine ZrH Zfi ZvB ZvA ?_
 intro sm_ sx sy si sh mc ma _ hp
 simp only [ZeL] at hp
 obtain ⟨⟨h1,h2⟩,h3,h4⟩:=hp
 have k1:=Z54 si.length
 have k2:=Z54 sh.length
 have k3:=Z7k si
 have k4:=Z7k sh
 refine Zxa sm_ _ _ _ _ _ _ _ ?_
 (simp only [vcT,vcS])
 refine ⟨fun hb=> ⟨⟨by show Z7 si<=_;omega,by show Z7 sh<=_;omega⟩,fun he=> ?_,fun he=> ?_⟩,fun hb=> ?_⟩
 ·have e:Jb si sh=⟨JA sh.length,JA si.length,true,false⟩:=by
   rw [Jb,if_pos ⟨fun e=> by rw [e] at hb;simp at hb,fun e=> by rw [e] at hb;simp at hb⟩,Z6l,he];try rfl
  refine ⟨trivial,by omega,trivial,by omega,?_⟩
  simp only [Z6O,e,Xo]
  (repeat' (first | exact trivial | exact rfl | apply And.intro))
 ·have e:Jb si sh=⟨JA sh.length,JA si.length,false,false⟩:=by
   rw [Jb,if_pos ⟨fun e=> by rw [e] at hb;simp at hb,fun e=> by rw [e] at hb;simp at hb⟩,Z6l,he];try rfl
  refine ⟨trivial,by omega,trivial,by omega,?_⟩
  simp only [Z6O,e,Qx]
  (repeat' (first | exact trivial | exact rfl | apply And.intro))
 ·have e:Jb si sh=⟨Z2Z si++JA sh.length,JA si.length++Z2Z sh,false,false⟩:=by
   rw [Jb,if_neg]
   rintro ⟨a,b⟩
   have:=XD.2 a
   have:=XD.2 b
   omega
  refine ⟨trivial,by omega,trivial,by rw [Q9];omega,trivial,by omega,trivial,by rw [Q9];omega,?_⟩
  simp only [Z6O,e,Qx,<-Qa]
  (repeat' (first | exact trivial | exact rfl | apply And.intro))
end Go.AM.Ytpjenobkibfpcaa
