import Derived.Test.YtpjenobkibfpcaaGreatZCB30a
import Derived.Test.YtpjenobkibfpcaaGreatZKL22
import Derived.Test.YtpjenobkibfpcaaGreatZKG20c
set_option linter.unusedSimpArgs false
set_option linter.unusedVariables false
namespace Go.AM.YtpjenobkibfpcaaGreat
open Go.AM Go.Proofs
noncomputable section
def Zpa:ArgL (WEdit × Unit):=(.cons (aEl .wedit) .nil)
def ZhA(a:WEdit × Unit):Prop:=True
def Zlb(a:WEdit × Unit):V U:= .c (.bool (decide (WEdit.mask a.1=0)))
def Z2I:Fs U:=fs Zpa (fun a=> [ZhA a]) Zlb
def Zp9:ArgL (Kid × Unit):=(.cons (aEl .kid) .nil)
def Zhy(a:Kid × Unit):Prop:=True
def Zla(a:Kid × Unit):V U:= .c (.bool (decide (Edit.kind a.1.e=0)))
def Z2H:Fs U:=fs Zp9 (fun a=> [Zhy a]) Zla
def Zlo(a:Op × Unit):Prop:=True
def Zl8(a:Op × Unit):V U:= .c (.bool (!decide (OpOf.kind a.1=0)))
def Z8c:Fs U:=fs ZoX (fun a=> [Zlo a]) Zl8
def ZoY:ArgL (List WEdit × Unit × Unit):=(.cons (aSl .wedit) (.cons (aFn 190) .nil))
def Zho(a:List WEdit × Unit × Unit):Prop:=(a.1).length<=1000000000000
def Zh3(a:List WEdit × Unit × Unit):V U:= .c (ci (Jd (fun w:WEdit=> decide (WEdit.mask w=0)) a.1 0))
def Z87:Fs U:=fs ZoY (fun a=> [Zho a]) Zh3
def ZkE:ArgL (List Kid × Unit × Unit):=(.cons (aSl .kid) (.cons (aFn 192) .nil))
def Zch(a:List Kid × Unit × Unit):Prop:=(a.1).length<=1000000000000
def Zcd(a:List Kid × Unit × Unit):V U:= .c (ci (Jd (fun k:Kid=> decide (Edit.kind k.e=0)) a.1 0))
def Z4Q:Fs U:=fs ZkE (fun a=> [Zch a]) Zcd
def ZoW:ArgL (List Op × Unit × Unit):=(.cons (aSl .op) (.cons (aFn 199) .nil))
def Zhn(a:List Op × Unit × Unit):Prop:=(a.1).length<=1000000000000
def Zh2(a:List Op × Unit × Unit):V U:= .c (ci (Jd (fun o:Op=> !decide (OpOf.kind o=0)) a.1 0))
def Z84:Fs U:=fs ZoW (fun a=> [Zhn a]) Zh2
def Zl9(a:List Op × Unit × Unit):V U:= .c (.bool ((a.1).any fun o=> !decide (OpOf.kind o=0)))
def Z8d:Fs U:=fs ZoW (fun a=> [Zhn a]) Zl9
def Zh8(a:Int × Unit):V U:= .c (sU .op (JU a.1) (.own (.r 0 0)))
def Z8f:Fs U:=fs Zpu (fun a=> [Zlr a]) Zh8
def ZdY(a:List WEdit × Unit):Prop:=(a.1).length<=100000000000
def Zcc(a:List WEdit × Unit):List WEdit:=a.1
def ZbX:Fs U:=fsL Zpw (fun a=> [ZdY a]) .wedit Zcc
def Zpp:ArgL (List Kid × Unit):=(.cons (aSl .kid) .nil)
def ZdW(a:List Kid × Unit):Prop:=(a.1).length<=100000000000
def Zcb(a:List Kid × Unit):List Kid:=a.1
def ZbU:Fs U:=fsL Zpp (fun a=> [ZdW a]) .kid Zcb
def Zct:ArgM (List WEdit × Unit × Unit):=(.lst (cWt .wedit (.e 0 0)) (.cons (aFn 190) .nil))
def Zhb(a:List WEdit × Unit × Unit):V U:= .c (sU .wedit ((a.1).filter fun w=> !decide (WEdit.mask w=0)) .unk)
def Zc5(a:List WEdit × Unit × Unit):List (List (C U)):=[]
def Zc8(a:List WEdit × Unit × Unit):List (Tok × LC U):=[]
def Z8h:Fs U:=(Zfi Zct (fun a=> [Zho a]) Zhb Zc5 Zc8).passing [0]
def Zcs:ArgM (List Kid × Unit × Unit):=(.lst (cWt .kid (.e 0 0)) (.cons (aFn 192) .nil))
def Zha(a:List Kid × Unit × Unit):V U:= .c (sU .kid ((a.1).filter fun k=> !decide (Edit.kind k.e=0)) .unk)
def Zc4(a:List Kid × Unit × Unit):List (List (C U)):=[]
def Zc7(a:List Kid × Unit × Unit):List (Tok × LC U):=[]
def Z8g:Fs U:=(Zfi Zcs (fun a=> [Zch a]) Zha Zc4 Zc7).passing [0]
def Zcx:ArgM ((Int × Int × List Int × List Tree × Int × List Int × List Tree × List WEdit × List Kid × Int × List Op × Unit) × Unit):=(.agg (.cons (JN .i64) (.cons (JN .i64) (.cons (cSl .u64) (.cons (cSl .tree) (.cons (JN .i64) (.cons (cSl .u64) (.cons (cSl .tree) (.cons (cWt .wedit (.e 0 7)) (.cons (cWt .kid (.e 0 8)) (.cons (JN .i64) (.cons (cSl .op) .nil))))))))))) .nil)
def ZdV(a:(Int × Int × List Int × List Tree × Int × List Int × List Tree × List WEdit × List Kid × Int × List Op × Unit) × Unit):Prop:=(a.1.2.2.2.2.2.2.2.1).length<=10000000000/\(a.1.2.2.2.2.2.2.2.2.1).length<=10000000000
def Zhf(a:(Int × Int × List Int × List Tree × Int × List Int × List Tree × List WEdit × List Kid × Int × List Op × Unit) × Unit):V U:= .agg (enc .edit (Z3b (Edit.mk a.1.1 (Tree.mk a.1.2.1 a.1.2.2.1 a.1.2.2.2.1) (Tree.mk a.1.2.2.2.2.1 a.1.2.2.2.2.2.1 a.1.2.2.2.2.2.2.1) a.1.2.2.2.2.2.2.2.1 a.1.2.2.2.2.2.2.2.2.1 a.1.2.2.2.2.2.2.2.2.2.1 a.1.2.2.2.2.2.2.2.2.2.2.1)))
def Zc6(a:(Int × Int × List Int × List Tree × Int × List Int × List Tree × List WEdit × List Kid × Int × List Op × Unit) × Unit):List (List (C U)):=[]
def Zca(a:(Int × Int × List Int × List Tree × Int × List Int × List Tree × List WEdit × List Kid × Int × List Op × Unit) × Unit):List (Tok × LC U):=[]
def ZbT:Fs U:=(Zfi Zcx (fun a=> [ZdV a]) Zhf Zc6 Zca).passing [0]
def ZdU(a:Int × List Op × Unit):Prop:=(a.2.1).length<=1000000000000
def Zhe(a:Int × List Op × Unit):V U:= .agg (enc .edit (Z0y a.1 a.2.1))
def ZbQ:Fs U:=fs Zcy (fun a=> [ZdU a]) Zhe
def Ziz:ArgM ((Bool × Bool × Unit) × Edit × Tree × Tree × Unit):=(.obj 0 (.cons Z1E (.cons Z1E .nil)) (.cons (aEl .edit) (.cons (aEl .tree) (.cons (aEl .tree) .nil))))
def Za4(a:(Bool × Bool × Unit) × Edit × Tree × Tree × Unit):Prop:=(Za a.2.1<=20000000000/\Yp a.2.1/\∃ d,Z5 a.2.1 d=true)/\(Zj a.2.2.1+ctE a.2.1<=200000000000/\rng a.2.2.1)/\Zj a.2.2.2.1<=100000000000
def ZdD(a:(Bool × Bool × Unit) × Edit × Tree × Tree × Unit):V U:= .tup []
def Z8D(a:(Bool × Bool × Unit) × Edit × Tree × Tree × Unit):List (List (C U)):=[[.bool (a.1.1 || (Z09 a.2.1 a.2.2.1 a.2.2.2.1).c),.bool (a.1.2.1 || (Z09 a.2.1 a.2.2.1 a.2.2.2.1).a)]]
def ZbZ:Fs U:=fsX Ziz (fun a=> [Za4 a]) ZdD Z8D
def Ziv:ArgM ((Unit × List Op × List Op × List Tree × List Tree × Unit) × (Bool × Bool × Unit) × Unit):=(.obj 0 (.cons (cXp 1) (.cons (Z3F .op 0 1) (.cons (Z3F .op 0 2) (.cons (Z3F .tree 0 3) (.cons (Z3F .tree 0 4) .nil))))) (.hid (.cons Z1E (.cons Z1E .nil)) .nil))
def ZhE(a:(Unit × List Op × List Op × List Tree × List Tree × Unit) × (Bool × Bool × Unit) × Unit):Prop:=((a.1.2.1).length<=10000000000/\(a.1.2.2.1).length<=10000000000)/\Zd a.1.2.2.2.1<=100000000000/\Zd a.1.2.2.2.2.1<=100000000000
def ZsN(a:(Unit × List Op × List Op × List Tree × List Tree × Unit) × (Bool × Bool × Unit) × Unit):V U:= .tup []
def Z8z(a:(Unit × List Op × List Op × List Tree × List Tree × Unit) × (Bool × Bool × Unit) × Unit):List (List (C U)):=[[.xp 1,sU .op (a.1.2.1++(JL a.1.2.2.2.1 a.1.2.2.2.2.1).x) (.own (.x 0 1)),sU .op (a.1.2.2.1++(JL a.1.2.2.2.1 a.1.2.2.2.2.1).y) (.own (.x 0 2)),sU .tree ([]:List Tree) (.own (.x 0 3)),sU .tree ([]:List Tree) (.own (.x 0 4))],[.bool (a.2.1.1 || (JL a.1.2.2.2.1 a.1.2.2.2.2.1).c),.bool a.2.1.2.1]]
def ZbR:Fs U:=fsX Ziv (fun a=> [ZhE a]) ZsN Z8z
abbrev ZIe(p:List Nat):=AW (Z1 ZlW) Tryz.f190 ZCr p
theorem ZF3(w:WEdit)(Q:QT)(h:(Q .ret (L2 [pB 2 (w.mask==0)] []))):
  ZIe [] (L2 [(0,.agg (enc .wedit w))] []) Q:=
 Eq.mpr V4 h
def Zzs(w:WEdit):Prop:=AW (Z1 ZlW) Tryz.f190 ZCr [] (Zf (Zpa.can (w,())) []) (EQ Tryz.f190 (Zlb (w,())) [])
theorem ZxF(hb:∀ (w:WEdit) (_:Unit),ZhA (w,())->Zzs w):CT 190 Z2I:=
 Z0 (l:=[]) Zh rfl trivial ZCr Tryz.func190 rfl rfl 1 (fun _=> rfl) V3 (fun ⟨w,_⟩=> hb w ())
abbrev ZId(p:List Nat):=AW (Z1 ZlW) Tryz.f192 ZCr p
theorem ZF1(k:Kid)(Q:QT)(h:(Q .ret (L2 [pB 2 (k.e.kind==0)] []))):
  ZId [] (L2 [(0,.agg (enc .kid k))] []) Q:=
 Eq.mpr V4 h
def Zzq(k:Kid):Prop:=AW (Z1 ZlW) Tryz.f192 ZCr [] (Zf (Zp9.can (k,())) []) (EQ Tryz.f192 (Zla (k,())) [])
theorem ZxD(hb:∀ (k:Kid) (_:Unit),Zhy (k,())->Zzq k):CT 192 Z2H:=
 Z0 (l:=[]) Zh rfl trivial ZCr Tryz.func192 rfl rfl 1 (fun _=> rfl) V3 (fun ⟨k,_⟩=> hb k ())
abbrev ZI7(p:List Nat):=AW (Z1 ZlW) Tryz.f199 ZCr p
theorem ZEU(o:Op)(Q:QT)(h:(Q .ret (L2 [pB 2 (o.kind !=0)] []))):
  ZI7 [] (L2 [(0,.agg (enc .op o))] []) Q:=
 Eq.mpr V4 h
def Zzj(o:Op):Prop:=AW (Z1 ZlW) Tryz.f199 ZCr [] (Zf (ZoX.can (o,())) []) (EQ Tryz.f199 (Zl8 (o,())) [])
theorem Zxw(hb:∀ (o:Op) (_:Unit),Zlo (o,())->Zzj o):CT 199 Z8c:=
 Z0 (l:=[]) Zh rfl trivial ZCr Tryz.func199 rfl rfl 1 (fun _=> rfl) V3 (fun ⟨o,_⟩=> hb o ())
def ZhX:List (FuncId × Fs U):=[(190,Z2I)]
def ZnI:Zc U:=lvl [([0,1],[]),([0,1,7,8],[]),([0,1,7,8,9],[]),([0,1,5,7,8],[]),([0,1,5,7,8,16],[]),([4],[]),([0,1,7,8],[]),([4],[])]
def Z6h(l:List WEdit)(f:Unit)(d:Int):LSt U:=(L2 [(0,.c (sU .wedit l .unk)),(1,.fn 190),pI 7 (l.length:Int),pI 8 d] [])
abbrev ZEq(p:List Nat):=AW (Z1 ZhX) Tryz.f224 ZnI p
abbrev ZGE(p:List Nat):=SW (Z1 ZhX) Tryz.f224 ZnI p
theorem ZEM(l:List WEdit)(f:Unit)(Q:QT)(h:(Zp (ZEq [1,0,1,0,0]) (Z6h l f 0) (xB 0 (ZGE [1,1] Q)))):
  ZEq [] (L2 [(0,.c (sU .wedit l .unk)),(1,.fn 190)] []) Q:=
 Eq.mpr V4 h
theorem Zrr(l:List WEdit)(f:Unit)(d:Int)(N0:NT)(Q:QT)(h:let z0:=l.getD d.toNat (WEdit.mk 0 0 0 0);let z1:=WEdit.mk (WEdit.at_ z0) (WEdit.mask z0) (WEdit.old z0) (WEdit.new z0);(iB (decide (d < (l.length:Int))) ((((0:Int)<=d/\d < (l.length:Int))/\(ZhA (z1,()))/\(iB (decide (WEdit.mask z1=0)) ((Q .ret (L2 [pI 4 d] []))) ((InR (d+1))/\(N0 (Z6h l f (d+1))))))) ((Q .ret (L2 [pI 4 (-1)] []))))):
  ZEq [1,0,1,0,0] (Z6h l f d) (xT N0 (xB 0 (ZGE [1,1] Q))):=
 Eq.mpr V4 h
def Zzb(l:List WEdit)(f:Unit):Prop:=AW (Z1 ZhX) Tryz.f224 ZnI [] (Zf (ZoY.can (l,f,())) []) (EQ Tryz.f224 (Zh3 (l,f,())) [])
theorem Zxo(ZqZ:CT 190 Z2I)(hb:∀ (l:List WEdit) (f:Unit) (_:Unit),Zho (l,f,())->Zzb l f):CT 224 Z87:=
 Z0 (l:=[(190,Z2I)]) Zh rfl (⟨ZqZ,trivial⟩) ZnI Tryz.func224 rfl rfl 2 (fun _=> rfl) V3 (fun ⟨l,f,_⟩=> hb l f ())
def ZeF:List (FuncId × Fs U):=[(192,Z2H)]
def Z4d(l:List Kid)(f:Unit)(d:Int):LSt U:=(L2 [(0,.c (sU .kid l .unk)),(1,.fn 192),pI 7 (l.length:Int),pI 8 d] [])
abbrev Zwj(p:List Nat):=AW (Z1 ZeF) Tryz.f225 ZnI p
abbrev ZAR(p:List Nat):=SW (Z1 ZeF) Tryz.f225 ZnI p
theorem ZB7(l:List Kid)(f:Unit)(Q:QT)(h:(Zp (Zwj [1,0,1,0,0]) (Z4d l f 0) (xB 0 (ZAR [1,1] Q)))):
  Zwj [] (L2 [(0,.c (sU .kid l .unk)),(1,.fn 192)] []) Q:=
 Eq.mpr V4 h
theorem ZpN(l:List Kid)(f:Unit)(d:Int)(N0:NT)(Q:QT)(h:∀ u,u=(l.getD d.toNat (KidOf.mk 0 Edit.nil))->∀ s,s=u->(iB (decide (d < (l.length:Int))) ((((0:Int)<=d/\d < (l.length:Int))/\(Zhy (s,()))/\(iB (decide (Edit.kind s.e=0)) ((Q .ret (L2 [pI 4 d] []))) ((InR (d+1))/\(N0 (Z4d l f (d+1))))))) ((Q .ret (L2 [pI 4 (-1)] []))))):
  Zwj [1,0,1,0,0] (Z4d l f d) (xT N0 (xB 0 (ZAR [1,1] Q))):=
 Eq.mpr V4 (h _ rfl _ (Zjm _))
def Zwf(l:List Kid)(f:Unit):Prop:=AW (Z1 ZeF) Tryz.f225 ZnI [] (Zf (ZkE.can (l,f,())) []) (EQ Tryz.f225 (Zcd (l,f,())) [])
theorem ZtM(ZqY:CT 192 Z2H)(hb:∀ (l:List Kid) (f:Unit) (_:Unit),Zch (l,f,())->Zwf l f):CT 225 Z4Q:=
 Z0 (l:=[(192,Z2H)]) Zh rfl (⟨ZqY,trivial⟩) ZnI Tryz.func225 rfl rfl 2 (fun _=> rfl) V3 (fun ⟨l,f,_⟩=> hb l f ())
def ZhW:List (FuncId × Fs U):=[(199,Z8c)]
def Z6g(l:List Op)(f:Unit)(d:Int):LSt U:=(L2 [(0,.c (sU .op l .unk)),(1,.fn 199),pI 7 (l.length:Int),pI 8 d] [])
abbrev ZEp(p:List Nat):=AW (Z1 ZhW) Tryz.f230 ZnI p
abbrev ZGD(p:List Nat):=SW (Z1 ZhW) Tryz.f230 ZnI p
theorem ZEH(l:List Op)(f:Unit)(Q:QT)(h:(Zp (ZEp [1,0,1,0,0]) (Z6g l f 0) (xB 0 (ZGD [1,1] Q)))):
  ZEp [] (L2 [(0,.c (sU .op l .unk)),(1,.fn 199)] []) Q:=
 Eq.mpr V4 h
theorem Zrq(l:List Op)(f:Unit)(d:Int)(N0:NT)(Q:QT)(h:∀ u,u=(l.getD d.toNat Op.nil)->∀ s,s=u->(iB (decide (d < (l.length:Int))) ((((0:Int)<=d/\d < (l.length:Int))/\(Zlo (s,()))/\(iB (!decide (OpOf.kind s=0)) ((Q .ret (L2 [pI 4 d] []))) ((InR (d+1))/\(N0 (Z6g l f (d+1))))))) ((Q .ret (L2 [pI 4 (-1)] []))))):
  ZEp [1,0,1,0,0] (Z6g l f d) (xT N0 (xB 0 (ZGD [1,1] Q))):=
 Eq.mpr V4 (h _ rfl _ (YE _))
def Zz6(l:List Op)(f:Unit):Prop:=AW (Z1 ZhW) Tryz.f230 ZnI [] (Zf (ZoW.can (l,f,())) []) (EQ Tryz.f230 (Zh2 (l,f,())) [])
theorem Zxj(ZCZ:CT 199 Z8c)(hb:∀ (l:List Op) (f:Unit) (_:Unit),Zhn (l,f,())->Zz6 l f):CT 230 Z84:=
 Z0 (l:=[(199,Z8c)]) Zh rfl (⟨ZCZ,trivial⟩) ZnI Tryz.func230 rfl rfl 2 (fun _=> rfl) V3 (fun ⟨l,f,_⟩=> hb l f ())
def Zoc:List (FuncId × Fs U):=[(230,Z84)]
abbrev ZI8(p:List Nat):=AW (Z1 Zoc) Tryz.f198 ZuA p
theorem ZEV(l:List Op)(f:Unit)(Q:QT)(h:((Zhn (l,(),()))/\(Q .ret (L2 [(4,.c (.bool (decide ((0:Int)<=(Jd (fun o:Op=> !decide (OpOf.kind o=0)) l 0)))))] [])))):
  ZI8 [] (L2 [(0,.c (sU .op l .unk)),(1,.fn 199)] []) Q:=
 Eq.mpr V4 h
def Zzk(l:List Op)(f:Unit):Prop:=AW (Z1 Zoc) Tryz.f198 ZuA [] (Zf (ZoW.can (l,f,())) []) (EQ Tryz.f198 (Zl9 (l,f,())) [])
theorem Zxx(ZCP:CT 230 Z84)(hb:∀ (l:List Op) (f:Unit) (_:Unit),Zhn (l,f,())->Zzk l f):CT 198 Z8d:=
 Z0 (l:=[(230,Z84)]) Zh rfl (⟨ZCP,trivial⟩) ZuA Tryz.func198 rfl rfl 2 (fun _=> rfl) V3 (fun ⟨l,f,_⟩=> hb l f ())
abbrev ZIc(p:List Nat):=AW (Z1 ZlW) Tryz.f194 Zux p
theorem ZEZ(n:Int)(Q:QT)(h:(iB (n==0) ((Q .ret (L2 [(2,.c (.nils))] []))) ((Q .ret (L2 [(2,.c (sU .op ([(OpOf.mk 0 n [] (Edit.mk 0 (Tree.mk 0 [] []) (Tree.mk 0 [] []) [] [] 0 []))]) .full))] []))))):
  ZIc [] (L2 [pI 0 n] []) Q:=
 Eq.mpr V4 h
def Zzo(n:Int):Prop:=AW (Z1 ZlW) Tryz.f194 Zux [] (Zf (Zpu.can (n,())) []) (EQ Tryz.f194 (Zh8 (n,())) [])
theorem ZxB(hb:∀ (n:Int) (_:Unit),Zlr (n,())->Zzo n):CT 194 Z8f:=
 Z0 (l:=[]) Zh rfl trivial Zux Tryz.func194 rfl rfl 1 (fun _=> rfl) V3 (fun ⟨n,_⟩=> hb n ())
def Zur:Zc U:=lvk [([0],[]),([0,4],[]),([(2,[.wr .wedit])],[]),([(2,[.wr .wedit])],[])]
abbrev ZIr(p:List Nat):=AW (Z2z ZlW) Tryz.f138 Zur p
theorem ZFt(l:List WEdit)(Q:QT)(h:(((l=[])->(Q .ret (⟨[(2,.c (.mref (.e 2 0)))],[],[(.e 2 0,LC.mk (U:=U) .wedit [] 0)]⟩:LSt U)))/\(True->((([]:List WEdit).length+l.length)*32<=140737488355328)/\(Q .ret (⟨[(2,.c (.mref (.e 2 0)))],[],[(.e 2 0,LC.mk (U:=U) .wedit (([]:List WEdit)++l) (([]:List WEdit).length))]⟩:LSt U))))):
  ZIr [] (L2 [(0,.c (sU .wedit l .unk))] []) Q:=
 Eq.mpr V4 h
def ZzS(l:List WEdit):Prop:=AW (Z2z ZlW) Tryz.f138 Zur [] (Zf (Zpw.can (l,())) []) (Z0j cfg Tryz.f138.ntmps Tryz.f138.results.toList (.c (.mref (.r 0 0))) [] [(.r 0 0,LC.mk (U:=U) .wedit (Zcc (l,())) 0)])
theorem Zy3(hb:∀ (l:List WEdit) (_:Unit),ZdY (l,())->ZzS l):CT 138 ZbX:=
 Z0L (l:=[]) Zh rfl trivial Zur Tryz.func138 rfl rfl 1 (fun _=> rfl) V3 (fun ⟨l,_⟩=> hb l ())
def Zuo:Zc U:=lvk [([0],[]),([0,4],[]),([(2,[.wr .kid])],[]),([(2,[.wr .kid])],[])]
abbrev ZIo(p:List Nat):=AW (Z2z ZlW) Tryz.f141 Zuo p
theorem ZFq(l:List Kid)(Q:QT)(h:(((l=[])->(Q .ret (⟨[(2,.c (.mref (.e 2 0)))],[],[(.e 2 0,LC.mk (U:=U) .kid [] 0)]⟩:LSt U)))/\(True->((([]:List Kid).length+l.length)*208<=140737488355328)/\(Q .ret (⟨[(2,.c (.mref (.e 2 0)))],[],[(.e 2 0,LC.mk (U:=U) .kid (([]:List Kid)++l) (([]:List Kid).length))]⟩:LSt U))))):
  ZIo [] (L2 [(0,.c (sU .kid l .unk))] []) Q:=
 Eq.mpr V4 h
def ZzP(l:List Kid):Prop:=AW (Z2z ZlW) Tryz.f141 Zuo [] (Zf (Zpp.can (l,())) []) (Z0j cfg Tryz.f141.ntmps Tryz.f141.results.toList (.c (.mref (.r 0 0))) [] [(.r 0 0,LC.mk (U:=U) .kid (Zcb (l,())) 0)])
theorem Zy0(hb:∀ (l:List Kid) (_:Unit),ZdW (l,())->ZzP l):CT 141 ZbU:=
 Z0L (l:=[]) Zh rfl trivial Zuo Tryz.func141 rfl rfl 1 (fun _=> rfl) V3 (fun ⟨l,_⟩=> hb l ())
def ZhZ:List (FuncId × Fs U):=[(190,Z2I),(224,Z87.lend)]
def ZnK:Zc U:=lvk [([(0,[.wr .wedit]),1],[]),([(0,[.wr .wedit]),1,5],[]),([(0,[.wr .wedit]),1,5,12],[]),([4],[]),([(0,[.wr .wedit]),1,5,6],[]),([(0,[.wr .wedit]),1,5,6,19],[]),([(0,[.wr .wedit]),1,5,6],[]),([(0,[.wr .wedit]),1,5,6,7],[7]),([(0,[.wr .wedit]),1,5,6,7,29],[7]),([(0,[.wr .wedit]),1,5,6],[]),([(0,[.wr .wedit]),1,5,6],[]),([(0,[.wr .wedit]),5],[]),([4],[])]
def Z3x(l:List WEdit)(f:Unit)(h d:Int)(re_0_0:List WEdit):LSt U:=(⟨[(0,.c (.mref (.e 0 0))),(1,.fn 190),pI 5 h,pI 6 d],[],[(.e 0 0,LC.mk (U:=U) .wedit re_0_0 0)]⟩:LSt U)
abbrev ZEt(p:List Nat):=AW (Z1 ZhZ) Tryz.f189 ZnK p
abbrev ZGG(p:List Nat):=SW (Z1 ZhZ) Tryz.f189 ZnK p
theorem ZF4(l:List WEdit)(f:Unit)(Q:QT)(h:((Zho (l,(),()))/\(iB (((Jd (fun w:WEdit=> decide (WEdit.mask w=0)) l 0):Int)==(-1)) ((Q .ret (L2 [(4,.c (sU .wedit l (.own (.e 4 0))))] []))) ((InR (((Jd (fun w:WEdit=> decide (WEdit.mask w=0)) l 0):Int)+1))/\(Zp (ZEt [1,1,1,0,1,0,0]) (Z3x l f (Jd (fun w:WEdit=> decide (WEdit.mask w=0)) l 0) (((Jd (fun w:WEdit=> decide (WEdit.mask w=0)) l 0):Int)+1) l) (xB 0 (ZGG [1,1,1,1] Q))))))):
  ZEt [] (⟨[(0,.c (.mref (.e 0 0))),(1,.fn 190)],[],[(.e 0 0,LC.mk (U:=U) .wedit l 0)]⟩:LSt U) Q:=
 Eq.mpr V4 h
theorem Zrv(l:List WEdit)(f:Unit)(d s:Int)(re_0_0:List WEdit)(N0:NT)(Q:QT)(h:∀ aa,aa=(re_0_0.getD s.toNat (WEdit.mk 0 0 0 0))->∀ u,u=aa->(iB (decide (s < (re_0_0.length:Int))) (((0:Int)<=s/\s < (re_0_0.length:Int))/\((ZhA (u,()))/\(iB (!(decide (WEdit.mask u=0))) (((0:Int)<=d/\d < (re_0_0.length:Int))/\((0:Nat)<=d.toNat)/\((InR (d+1))/\((InR (s+1))/\(N0 (Z3x l f (d+1) (s+1) (List.set re_0_0 d.toNat u)))))) ((InR (s+1))/\(N0 (Z3x l f d (s+1) re_0_0)))))) (((0:Int)<=d/\d<=(re_0_0.length:Int))/\((0:Nat)<=d.toNat)/\(((0:Int)<=d/\d<=((List.take d.toNat re_0_0++List.replicate (re_0_0.length - Int.toNat d) (WEdit.mk 0 0 0 0)).length:Int))/\(Q .ret (L2 [(4,.c (sU .wedit (List.take d.toNat (List.take d.toNat re_0_0++List.replicate (re_0_0.length - Int.toNat d) (WEdit.mk 0 0 0 0))) .unk))] [])))))):
  ZEt [1,1,1,0,1,0,0] (Z3x l f d s re_0_0) (xT N0 (xB 0 (ZGG [1,1,1,1] Q))):=
 Eq.mpr V4 (h _ rfl _ (Z2l _))
def Zzt(l:List WEdit)(f:Unit):Prop:=AW (Z1 ZhZ) Tryz.f189 ZnK [] (JM (Zct.can (l,f,())) (Zct.canX (l,f,())) (Zct.canL (l,f,()))) (Z0j cfg Tryz.f189.ntmps Tryz.f189.results.toList (Zhb (l,f,())) (Zc5 (l,f,())) (Zc8 (l,f,())))
theorem ZxG(ZqZ:CT 190 Z2I)(ZCS:CT 224 Z87)(hb:∀ (l:List WEdit) (f:Unit) (_:Unit),Zho (l,f,())->Zzt l f):CT 189 Z8h:=
 Contract.passing <| YA (l:=[(190,Z2I),(224,Z87.lend)]) Zh rfl (⟨ZqZ,ZCS.lend,trivial⟩) ZnK Tryz.func189 rfl rfl 2 (fun _=> rfl) V3 (fun ⟨l,f,_⟩=> hb l f ())
def ZhY:List (FuncId × Fs U):=[(192,Z2H),(225,Z4Q.lend)]
def ZnJ:Zc U:=lvk [([(0,[.wr .kid]),1],[]),([(0,[.wr .kid]),1,5],[]),([(0,[.wr .kid]),1,5,12],[]),([4],[]),([(0,[.wr .kid]),1,5,6],[]),([(0,[.wr .kid]),1,5,6,19],[]),([(0,[.wr .kid]),1,5,6],[]),([(0,[.wr .kid]),1,5,6,7],[7]),([(0,[.wr .kid]),1,5,6,7,29],[7]),([(0,[.wr .kid]),1,5,6],[]),([(0,[.wr .kid]),1,5,6],[]),([(0,[.wr .kid]),5],[]),([4],[])]
def Z3w(l:List Kid)(f:Unit)(h d:Int)(re_0_0:List Kid):LSt U:=(⟨[(0,.c (.mref (.e 0 0))),(1,.fn 192),pI 5 h,pI 6 d],[],[(.e 0 0,LC.mk (U:=U) .kid re_0_0 0)]⟩:LSt U)
abbrev ZEs(p:List Nat):=AW (Z1 ZhY) Tryz.f191 ZnJ p
abbrev ZGF(p:List Nat):=SW (Z1 ZhY) Tryz.f191 ZnJ p
theorem ZF2(l:List Kid)(f:Unit)(Q:QT)(h:((Zch (l,(),()))/\(iB (((Jd (fun k:Kid=> decide (Edit.kind k.e=0)) l 0):Int)==(-1)) ((Q .ret (L2 [(4,.c (sU .kid l (.own (.e 4 0))))] []))) ((InR (((Jd (fun k:Kid=> decide (Edit.kind k.e=0)) l 0):Int)+1))/\(Zp (ZEs [1,1,1,0,1,0,0]) (Z3w l f (Jd (fun k:Kid=> decide (Edit.kind k.e=0)) l 0) (((Jd (fun k:Kid=> decide (Edit.kind k.e=0)) l 0):Int)+1) l) (xB 0 (ZGF [1,1,1,1] Q))))))):
  ZEs [] (⟨[(0,.c (.mref (.e 0 0))),(1,.fn 192)],[],[(.e 0 0,LC.mk (U:=U) .kid l 0)]⟩:LSt U) Q:=
 Eq.mpr V4 h
theorem Zru(l:List Kid)(f:Unit)(d s:Int)(re_0_0:List Kid)(N0:NT)(Q:QT)(h:∀ aa,aa=(re_0_0.getD s.toNat (KidOf.mk 0 Edit.nil))->∀ u,u=aa->(iB (decide (s < (re_0_0.length:Int))) (((0:Int)<=s/\s < (re_0_0.length:Int))/\((Zhy (u,()))/\(iB (!(decide (Edit.kind u.e=0))) (((0:Int)<=d/\d < (re_0_0.length:Int))/\((0:Nat)<=d.toNat)/\((InR (d+1))/\((InR (s+1))/\(N0 (Z3w l f (d+1) (s+1) (List.set re_0_0 d.toNat u)))))) ((InR (s+1))/\(N0 (Z3w l f d (s+1) re_0_0)))))) (((0:Int)<=d/\d<=(re_0_0.length:Int))/\((0:Nat)<=d.toNat)/\(((0:Int)<=d/\d<=((List.take d.toNat re_0_0++List.replicate (re_0_0.length - Int.toNat d) (KidOf.mk 0 Edit.nil)).length:Int))/\(Q .ret (L2 [(4,.c (sU .kid (List.take d.toNat (List.take d.toNat re_0_0++List.replicate (re_0_0.length - Int.toNat d) (KidOf.mk 0 Edit.nil))) .unk))] [])))))):
  ZEs [1,1,1,0,1,0,0] (Z3w l f d s re_0_0) (xT N0 (xB 0 (ZGF [1,1,1,1] Q))):=
 Eq.mpr V4 (h _ rfl _ (Zjm _))
def Zzr(l:List Kid)(f:Unit):Prop:=AW (Z1 ZhY) Tryz.f191 ZnJ [] (JM (Zcs.can (l,f,())) (Zcs.canX (l,f,())) (Zcs.canL (l,f,()))) (Z0j cfg Tryz.f191.ntmps Tryz.f191.results.toList (Zha (l,f,())) (Zc4 (l,f,())) (Zc7 (l,f,())))
theorem ZxE(ZqY:CT 192 Z2H)(ZvD:CT 225 Z4Q)(hb:∀ (l:List Kid) (f:Unit) (_:Unit),Zch (l,f,())->Zzr l f):CT 191 Z8g:=
 Contract.passing <| YA (l:=[(192,Z2H),(225,Z4Q.lend)]) Zh rfl (⟨ZqY,ZvD.lend,trivial⟩) ZnJ Tryz.func191 rfl rfl 2 (fun _=> rfl) V3 (fun ⟨l,f,_⟩=> hb l f ())
def Zox:List (FuncId × Fs U):=[(189,Z8h),(191,Z8g)]
def Zun:Zc U:=lvk [([1,2],[((.loc 1),(an 7 [.wr .wedit,.wr .kid])),2]),([1,2],[((.loc 1),(an 8 [.wr .kid])),2]),([1,2],[1,2]),([1,2,18],[1,2]),([2],[2]),([2],[2])]
abbrev ZIn(p:List Nat):=AW (Z1 Zox) Tryz.f142 Zun p
set_option maxHeartbeats 2000000 in
theorem ZFp(ek eo:Int)(eow:List Int)(eok:List Tree)(en:Int)(enw:List Int)(enk:List Tree)(ew:List WEdit)(ec:List Kid)(li:Int)(eos:List Op)(Q:QT)(h:((Zho (ew,(),()))/\((Zch (ec,(),()))/\((InR ((((ew.filter fun w=> !decide (WEdit.mask w=0)).length:Int):Int)+((ec.filter fun k=> !decide (Edit.kind k.e=0)).length:Int)))/\(iB ((((((ew.filter fun w=> !decide (WEdit.mask w=0)).length:Int):Int)+((ec.filter fun k=> !decide (Edit.kind k.e=0)).length:Int)):Int)==0) ((Q .ret (L2 [pL 2] [(.loc 2,zc1)]))) ((Q .ret (L2 [pL 2] [(.loc 2,[ci ek,ci eo,sU .u64 eow .unk,sU .tree eok .unk,ci en,sU .u64 enw .unk,sU .tree enk .unk,sU .wedit (ew.filter fun w=> !decide (WEdit.mask w=0)) .unk,sU .kid (ec.filter fun k=> !decide (Edit.kind k.e=0)) .unk,ci li,sU .op eos .unk])])))))))):
  ZIn [] (⟨[(0,.agg [ci ek,ci eo,sU .u64 eow .unk,sU .tree eok .unk,ci en,sU .u64 enw .unk,sU .tree enk .unk,.mref (.e 0 7),.mref (.e 0 8),ci li,sU .op eos .unk])],[],[(.e 0 7,LC.mk (U:=U) .wedit ew 0),(.e 0 8,LC.mk (U:=U) .kid ec 0)]⟩:LSt U) Q:=
 Eq.mpr V4 h
def ZzO(ek eo:Int)(eow:List Int)(eok:List Tree)(en:Int)(enw:List Int)(enk:List Tree)(ew:List WEdit)(ec:List Kid)(li:Int)(eos:List Op):Prop:=AW (Z1 Zox) Tryz.f142 Zun [] (JM (Zcx.can ((ek,eo,eow,eok,en,enw,enk,ew,ec,li,eos,()),())) (Zcx.canX ((ek,eo,eow,eok,en,enw,enk,ew,ec,li,eos,()),())) (Zcx.canL ((ek,eo,eow,eok,en,enw,enk,ew,ec,li,eos,()),()))) (Z0j cfg Tryz.f142.ntmps Tryz.f142.results.toList (Zhf ((ek,eo,eow,eok,en,enw,enk,ew,ec,li,eos,()),())) (Zc6 ((ek,eo,eow,eok,en,enw,enk,ew,ec,li,eos,()),())) (Zca ((ek,eo,eow,eok,en,enw,enk,ew,ec,li,eos,()),())))
set_option maxHeartbeats 2000000 in
theorem ZxZ(ZD6:CT 189 Z8h)(ZD5:CT 191 Z8g)(hb:∀ (ek:Int) (eo:Int) (aa:List Int) (s:List Tree) (en:Int) (d:List Int) (u:List Tree) (ew:List WEdit) (ec:List Kid) (li:Int) (h:List Op) (_:Unit),ZdV ((ek,eo,aa,s,en,d,u,ew,ec,li,h,()),())->ZzO ek eo aa s en d u ew ec li h):CT 142 ZbT:=
 Contract.passing <| YA (l:=[(189,Z8h),(191,Z8g)]) Zh rfl (⟨ZD6,ZD5,trivial⟩) Zun Tryz.func142 rfl rfl 1 (fun _=> rfl) V3 (fun ⟨⟨ek,eo,aa,s,en,d,u,ew,ec,li,h,_⟩,_⟩=> hb ek eo aa s en d u ew ec li h ())
def Zot:List (FuncId × Fs U):=[(198,Z8d)]
def Zuj:Zc U:=lvl [([0,1,4],[4]),([0,1,4,7],[4]),([4],[4]),([4],[4])]
abbrev ZIj(p:List Nat):=AW (Z1 Zot) Tryz.f146 Zuj p
theorem ZFl(list:Int)(l:List Op)(Q:QT)(h:((Zhn (l,(),()))/\(iB (!(l.any fun o=> !decide (OpOf.kind o=0))) ((Q .ret (L2 [pL 4] [(.loc 4,zc1)]))) ((Q .ret (L2 [pL 4] [(.loc 4,[ci 3,ci 0,.nils,.nils,ci 0,.nils,.nils,.nils,.nils,ci list,sU .op l .unk])])))))):
  ZIj [] (L2 [pI 0 list,(1,.c (sU .op l .unk))] []) Q:=
 Eq.mpr V4 h
def ZzK(list:Int)(l:List Op):Prop:=AW (Z1 Zot) Tryz.f146 Zuj [] (Zf (Zcy.can (list,l,())) []) (EQ Tryz.f146 (Zhe (list,l,())) [])
theorem ZxW(ZD0:CT 198 Z8d)(hb:∀ (list:Int) (l:List Op) (_:Unit),ZdU (list,l,())->ZzK list l):CT 146 ZbQ:=
 Z0 (l:=[(198,Z8d)]) Zh rfl (⟨ZD0,trivial⟩) Zuj Tryz.func146 rfl rfl 2 (fun _=> rfl) V3 (fun ⟨list,l,_⟩=> hb list l ())
def ZoJ:List (FuncId × Fs U):=[(25,Z0t),(114,Ju)]
def Zuz:Zc U:=lvk [([0,5,6,7],[5,6,7,((.x 0),[])]),([0,7,8,9],[7,8,((.x 0),[])]),([0,7,8,16],[7,8,((.x 0),[])]),([],[((.x 0),[])]),([0,22],[((.x 0),[])]),([],[((.x 0),[])])]
abbrev ZIx(p:List Nat):=AW (Z1 ZoJ) Tryz.f103 Zuz p
theorem ZFM(mc ma:Bool)(e:Edit)(o n:Tree)(Q:QT)(h:∀ s,s=e->∀ aa,aa=n->∀ d,d=o->∀ u,u=(Z1o ((doE false s d).map Z3))->let z0:= !(ZY (Z3 u) (Z3 aa));((Z3g (s,d,()))/\(iB (!((doE false s d).isSome)) ((Q .normal (L2 [] [(.x 0,[.bool mc,.bool true])]))) ((Z2o (u,aa,()))/\(iB z0 ((Q .normal (L2 [] [(.x 0,[.bool true,.bool ma])]))) (Q .normal (L2 [(0,.ptr (.x 0) 0),pB 22 z0] [(.x 0,[.bool mc,.bool ma])]))))))):
  ZIx [] (L2 [(0,.ptr (.x 0) 0),(1,.agg (enc .edit e)),(2,.agg (enc .tree o)),(3,.agg (enc .tree n))] [(.x 0,[.bool mc,.bool ma])]) Q:=
 Eq.mpr V4 (h _ (Z6 _) _ (Z7 _) _ (Z7 _) _ (Z7 _))
def ZAb(mc ma:Bool)(e:Edit)(o n:Tree):Prop:=AW (Z1 ZoJ) Tryz.f103 Zuz [] (Zf (Ziz.can ((mc,ma,()),e,o,n,())) (Ziz.canX ((mc,ma,()),e,o,n,()))) (EQ Tryz.f103 (ZdD ((mc,ma,()),e,o,n,())) (Z8D ((mc,ma,()),e,o,n,())))
theorem Zyf(c25:CT 25 Z0t)(ZbL:CT 114 Ju)(hb:∀ (d:Bool) (h:Bool) (e:Edit) (o:Tree) (n:Tree) (_:Unit),Za4 ((d,h,()),e,o,n,())->ZAb d h e o n):CT 103 ZbZ:=
 Zq (l:=[(25,Z0t),(114,Ju)]) Zh rfl (⟨c25,ZbL,trivial⟩) Zuz Tryz.func103 rfl rfl 4 (fun _=> rfl) V3 (fun ⟨⟨d,h,_⟩,e,o,n,_⟩=> hb d h e o n ())
def Zov:List (FuncId × Fs U):=[(177,Z0u),(194,Z8f),(195,Z8e)]
def Zul:Zc U:=lvk [([0],[((.x 0),[]),((.x 1),[])]),([0],[((.x 0),[]),((.x 1),[])]),([0,42],[((.x 0),[]),((.x 1),[])]),([0,66],[((.x 0),[]),((.x 1),[])]),([0],[((.x 0),[]),((.x 1),[])]),([0],[((.x 0),[]),((.x 1),[])]),([],[((.x 0),[]),((.x 1),[])])]
abbrev ZIl(p:List Nat):=AW (Z1 Zov) Tryz.f144 Zul p
theorem ZFn(sm_:Unit)(sx sy:List Op)(si sh:List Tree)(mc ma:Bool)(Q:QT)(h:let z4:=Zlr ((si.length:Int),());let z3:=Zlr ((sh.length:Int),());let z2:=JU (sh.length:Int);let z1:=JU (si.length:Int);let z0:=decide ((0:Int) < (si.length:Int));(Tt z0)/\(Tt z0)/\(Tt z0)/\(Tt z0)/\(Tt z0)/\(Tt z0)/\(iB (bif z0 then (decide ((0:Int) < (sh.length:Int))) else false) ((Z7w (si,sh,(),()))/\(iB (!(eqX (Z8 si) (Z8 sh))) ((z3/\((sx.length+z2.length)*240<=140737488355328)/\z4/\((sy.length+z1.length)*240<=140737488355328)/\(Q .normal (L2 [] [(.x 0,[.xp 1,sU .op (sx++z2) (.own (.x 0 1)),sU .op (sy++z1) (.own (.x 0 2)),.nils,.nils]),(.x 1,[.bool true,.bool ma])])))) (z3/\((sx.length+z2.length)*240<=140737488355328)/\z4/\((sy.length+z1.length)*240<=140737488355328)/\(Q .normal (L2 [] [(.x 0,[.xp 1,sU .op (sx++z2) (.own (.x 0 1)),sU .op (sy++z1) (.own (.x 0 2)),.nils,.nils]),(.x 1,[.bool mc,.bool ma])]))))) ((Zhv (si,()))/\((sx.length+(Z4c si).length)*240<=140737488355328)/\z3/\(((sx++(Z4c si)).length+z2.length)*240<=140737488355328)/\(z4/\((sy.length+z1.length)*240<=140737488355328)/\(Zhv (sh,()))/\(((sy++z1).length+(Z4c sh).length)*240<=140737488355328)/\(Q .normal (L2 [] [(.x 0,[.xp 1,sU .op ((sx++(Z4c si))++z2) (.own (.x 0 1)),sU .op ((sy++z1)++(Z4c sh)) (.own (.x 0 2)),.nils,.nils]),(.x 1,[.bool mc,.bool ma])])))))):
  ZIl [] (L2 [(0,.ptr (.x 0) 0)] [(.x 0,[.xp 1,sU .op sx (.own (.x 0 1)),sU .op sy (.own (.x 0 2)),sU .tree si (.own (.x 0 3)),sU .tree sh (.own (.x 0 4))]),(.x 1,[.bool mc,.bool ma])]) Q:=
 Eq.mpr V4 h
def ZzM(sm_:Unit)(sx sy:List Op)(si sh:List Tree)(mc ma:Bool):Prop:=AW (Z1 Zov) Tryz.f144 Zul [] (Zf (Ziv.can ((sm_,sx,sy,si,sh,()),(mc,ma,()),())) (Ziv.canX ((sm_,sx,sy,si,sh,()),(mc,ma,()),()))) (EQ Tryz.f144 (ZsN ((sm_,sx,sy,si,sh,()),(mc,ma,()),())) (Z8z ((sm_,sx,sy,si,sh,()),(mc,ma,()),())))
theorem ZxX(Zij:CT 177 Z0u)(ZD4:CT 194 Z8f)(ZD3:CT 195 Z8e)(hb:∀ (d:Unit) (h:List Op) (u:List Op) (si:List Tree) (s:List Tree) (mc:Bool) (ma:Bool) (_:Unit),ZhE ((d,h,u,si,s,()),(mc,ma,()),())->ZzM d h u si s mc ma):CT 144 ZbR:=
 Zq (l:=[(177,Z0u),(194,Z8f),(195,Z8e)]) Zh rfl (⟨Zij,ZD4,ZD3,trivial⟩) Zul Tryz.func144 rfl rfl 1 (fun _=> rfl) V3 (fun ⟨⟨d,h,u,si,s,_⟩,⟨mc,ma,_⟩,_⟩=> hb d h u si s mc ma ())
end
noncomputable section
def Zf6:ArgM ((Bool × Bool × Unit) × Edit × Edit × Unit):=(.obj 0 (.cons Z1E (.cons Z1E .nil)) (.cons (aEl .edit) (.cons (aEl .edit) .nil)))
def ZdH(a:(Bool × Bool × Unit) × Edit × Edit × Unit):Prop:=Jx a.2.1/\Jx a.2.2.1
def ZtE(a:(Bool × Bool × Unit) × Edit × Edit × Unit):Nat:=8*(Za a.2.1+Za a.2.2.1)+1
def Zjh(a:(Bool × Bool × Unit) × Edit × Edit × Unit):V U:= .tup [(true,(enc .edit ((lbE a.2.1 a.2.2.1).x))),(true,(enc .edit ((lbE a.2.1 a.2.2.1).y)))]
def Zdv(a:(Bool × Bool × Unit) × Edit × Edit × Unit):List (List (C U)):=[[.bool (a.1.1 || (lbE a.2.1 a.2.2.1).c),.bool (a.1.2.1 || (lbE a.2.1 a.2.2.1).a)]]
def Z9Q:Fs U:=fsX Zf6 (fun a=> [ZdH a]) Zjh Zdv
def Ze3(a:(Bool × Bool × Unit) × Edit × Edit × Unit):Prop:=Jx a.2.1/\Jx a.2.2.1/\Edit.kind a.2.1=2/\Edit.kind a.2.2.1=2
def ZnB(a:(Bool × Bool × Unit) × Edit × Edit × Unit):Nat:=8*(Za a.2.1+Za a.2.2.1)
def ZdC(a:(Bool × Bool × Unit) × Edit × Edit × Unit):V U:= .tup [(true,(enc .edit ((Z4x lbE a.2.1 a.2.2.1).x))),(true,(enc .edit ((Z4x lbE a.2.1 a.2.2.1).y)))]
def Z8C(a:(Bool × Bool × Unit) × Edit × Edit × Unit):List (List (C U)):=[[.bool (a.1.1 || (Z4x lbE a.2.1 a.2.2.1).c),.bool (a.1.2.1 || (Z4x lbE a.2.1 a.2.2.1).a)]]
def ZmR:Fs U:=fsX Zf6 (fun a=> [Ze3 a]) ZdC Z8C
def Ze2(a:(Bool × Bool × Unit) × Edit × Edit × Unit):Prop:=Jx a.2.1/\Jx a.2.2.1/\Edit.kind a.2.1=3/\Edit.kind a.2.2.1=3
def ZdB(a:(Bool × Bool × Unit) × Edit × Edit × Unit):V U:= .tup [(true,(enc .edit ((Z3o lbE a.2.1 a.2.2.1).x))),(true,(enc .edit ((Z3o lbE a.2.1 a.2.2.1).y)))]
def Z8B(a:(Bool × Bool × Unit) × Edit × Edit × Unit):List (List (C U)):=[[.bool (a.1.1 || (Z3o lbE a.2.1 a.2.2.1).c),.bool (a.1.2.1 || (Z3o lbE a.2.1 a.2.2.1).a)]]
def ZmQ:Fs U:=fsX Zf6 (fun a=> [Ze2 a]) ZdB Z8B
def Z9H:ArgM ((Unit × List Op × List Op × List Tree × List Tree × Unit) × Op × Op × (Bool × Bool × Unit) × Unit):=(.obj 0 (.cons (cXp 1) (.cons (Z3F .op 0 1) (.cons (Z3F .op 0 2) (.cons (Z3F .tree 0 3) (.cons (Z3F .tree 0 4) .nil))))) (.cons (aEl .op) (.cons (aEl .op) (.hid (.cons Z1E (.cons Z1E .nil)) .nil))))
def Za1(a:(Unit × List Op × List Op × List Tree × List Tree × Unit) × Op × Op × (Bool × Bool × Unit) × Unit):Prop:=(ZgN a.2.1/\ZgN a.2.2.1/\Z2 a.2.1=Z2 a.2.2.1/\OpOf.kind a.2.1≠2/\OpOf.kind a.2.2.1≠2)/\((a.1.2.1).length<=10000000000/\(a.1.2.2.1).length<=10000000000)
def Znz(a:(Unit × List Op × List Op × List Tree × List Tree × Unit) × Op × Op × (Bool × Bool × Unit) × Unit):Nat:=8*(Zy a.2.1+Zy a.2.2.1)+2
def Zdz(a:(Unit × List Op × List Op × List Tree × List Tree × Unit) × Op × Op × (Bool × Bool × Unit) × Unit):V U:= .tup []
def Z8y(a:(Unit × List Op × List Op × List Tree × List Tree × Unit) × Op × Op × (Bool × Bool × Unit) × Unit):List (List (C U)):=[[.xp 1,sU .op (a.1.2.1++(ZE lbE a.2.1 a.2.2.1).x) (.own (.x 0 1)),sU .op (a.1.2.2.1++(ZE lbE a.2.1 a.2.2.1).y) (.own (.x 0 2)),sU .tree a.1.2.2.2.1 (.own (.x 0 3)),sU .tree a.1.2.2.2.2.1 (.own (.x 0 4))],[.bool (a.2.2.2.1.1 || (ZE lbE a.2.1 a.2.2.1).c),.bool (a.2.2.2.1.2.1 || (ZE lbE a.2.1 a.2.2.1).a)]]
def ZmK:Fs U:=fsX Z9H (fun a=> [Za1 a]) Zdz Z8y
def Z34(N:Nat):List (FuncId × Fs U):=(66,fsX Zf6 (fun a=> [ZdH a,ZtE a < N]) Zjh Zdv) ::(105,fsX Zf6 (fun a=> [Ze3 a,ZnB a < N]) ZdC Z8C) ::(106,fsX Zf6 (fun a=> [Ze2 a,ZnB a < N]) ZdB Z8B) ::(145,fsX Z9H (fun a=> [Za1 a,Znz a < N]) Zdz Z8y) ::[(114,Ju),(103,ZbZ),(104,ZbY),(177,Z0u),(138,ZbX),(139,ZbW),(140,ZbV),(141,ZbU),(142,ZbT),(143,ZbS),(144,ZbR),(146,ZbQ),(196,ZbP),(197,ZbO)]
def ZCg:Zc U:=lvk [([0,4,5,6,7],[4,5,6,7,((.x 0),[])]),([0,4,5,6,7,8],[4,5,6,7,((.x 0),[])]),([6,7],[6,7,((.x 0),[])]),([0,4,5,6,7,19],[4,5,6,7,((.x 0),[])]),([6,7],[6,7,((.x 0),[])]),([6,7],[6,7,((.x 0),[])]),([0,4,5,6,7,33],[4,5,6,7,((.x 0),[])]),([6,7],[6,7,((.x 0),[])]),([6,7],[6,7,((.x 0),[])]),([0,4,5,6,7,47],[4,5,6,7,((.x 0),[])]),([6,7],[6,7,((.x 0),[])]),([6,7],[6,7,((.x 0),[])]),([0,4,5,6,7,66],[4,5,6,7,((.x 0),[])]),([6,7],[6,7,((.x 0),[])]),([6,7],[6,7,((.x 0),[])])]
abbrev A66(N:Nat)(p:List Nat):=AW (Z1 (Z34 N)) Tryz.f66 ZCg p
theorem ZHb(N:Nat)(mc ma:Bool)(p q:Edit)(Q:QT)(h:∀ s,s=p->∀ d,d=q->∀ ae,ae=(p.new)->∀ ab,ab=(q.new)->∀ aa,aa=(p.old)->∀ u,u=(q.old)->let z3:=Z3o lbE s d;let z2:=Z4x lbE s d;let z1:=enc .edit Edit.nil;let z0:=p.kind !=q.kind;((Tt (!(p.kind==0)))/\(Tt (!(p.kind==0)))/\((p.kind==0)=false->(!(p.kind==0))=true)/\(iB (bif (p.kind==0) then true else (q.kind==0)) ((Q .ret (L2 [pL 6,pL 7] [(.loc 6,(enc .edit p)),(.loc 7,(enc .edit q)),(.x 0,[.bool mc,.bool ma])]))) ((iB (p.kind==1) ((Za4 ((mc,ma,()),d,aa,ae,()))/\((Za3 ())/\(Q .ret (L2 [pL 6,pL 7] [(.loc 6,z1),(.loc 7,z1),(.x 0,[.bool (mc || (Z09 d aa ae).c),.bool (ma || (Z09 d aa ae).a)])])))) ((iB (q.kind==1) ((Za4 ((mc,ma,()),s,u,ab,()))/\((Za3 ())/\(Q .ret (L2 [pL 6,pL 7] [(.loc 6,z1),(.loc 7,z1),(.x 0,[.bool (mc || (Z09 s u ab).c),.bool (ma || (Z09 s u ab).a)])])))) ((Tt (!z0))/\(Tt (!z0))/\(Tt (!z0))/\(Tt (!z0))/\(z0=false->(!z0)=true)/\(iB (bif z0 then true else (p.list !=q.list)) (((Za3 ())/\(Q .ret (L2 [pL 6,pL 7] [(.loc 6,z1),(.loc 7,z1),(.x 0,[.bool mc,.bool true])])))) ((iB (p.kind==2) ((Ze3 ((mc,ma,()),s,d,()))/\(ZnB ((mc,ma,()),s,d,()) < N)/\(Q .ret (L2 [pL 6,pL 7] [(.loc 6,(enc .edit (z2.x))),(.loc 7,(enc .edit (z2.y))),(.x 0,[.bool (mc || z2.c),.bool (ma || z2.a)])]))) ((Ze2 ((mc,ma,()),s,d,()))/\(ZnB ((mc,ma,()),s,d,()) < N)/\(Q .ret (L2 [pL 6,pL 7] [(.loc 6,(enc .edit (z3.x))),(.loc 7,(enc .edit (z3.y))),(.x 0,[.bool (mc || z3.c),.bool (ma || z3.a)])])))))))))))))):
  A66 N [] (L2 [(0,.ptr (.x 0) 0),(1,.agg (enc .edit p)),(2,.agg (enc .edit q))] [(.x 0,[.bool mc,.bool ma])]) Q:=
 Eq.mpr V4 (h _ (Z6 _) _ (Z6 _) _ (Z7 _) _ (Z7 _) _ (Z7 _) _ (Z7 _))
def ZE4(N:Nat)(mc ma:Bool)(p q:Edit):Prop:=AW (Z1 (Z34 N)) Tryz.f66 ZCg [] (Zf (Zf6.can ((mc,ma,()),p,q,())) (Zf6.canX ((mc,ma,()),p,q,()))) (EQ Tryz.f66 (Zjh ((mc,ma,()),p,q,())) (Zdv ((mc,ma,()),p,q,())))
abbrev ZGR:Prop:=∀ (N:Nat) (mc:Bool) (ma:Bool) (p:Edit) (q:Edit) (_:Unit),ZdH ((mc,ma,()),p,q,())->ZtE ((mc,ma,()),p,q,()) < N+1->ZE4 N mc ma p q
def Zi9(N:Nat):List (FuncId × Fs U):=Z34 N
def ZnU:Zc U:=lvk [([0,4,5,6,7],[4,5,6,7,((.x 0),[])]),([0,4,5,6,7,8,9],[4,5,6,7,8,9,((.x 0),[])]),([0,4,5,6,7,8,9],[4,5,6,7,((.loc 8),(an 7 [.wr .wedit])),((.loc 9),(an 7 [.wr .wedit])),((.x 0),[])]),([0,4,5,6,7,8,9,29,30,31],[4,5,6,7,((.loc 8),(an 7 [.wr .wedit])),((.loc 9),(an 7 [.wr .wedit])),((.x 0),[])]),([0,4,5,6,7,8,9,29,30,31,32],[4,5,6,7,((.loc 8),(an 7 [.wr .wedit])),((.loc 9),(an 7 [.wr .wedit])),((.x 0),[])]),([0,4,5,6,7,8,9,10,11,29,30,31],[4,5,6,7,((.loc 8),(an 7 [.wr .wedit])),((.loc 9),(an 7 [.wr .wedit])),11,((.x 0),[])]),([0,4,5,6,7,8,9,10,11,29,30,31,37,38,39],[4,5,6,7,((.loc 8),(an 7 [.wr .wedit])),((.loc 9),(an 7 [.wr .wedit])),11,((.x 0),[])]),([0,4,5,6,7,8,9,10,11,29,30,31,37,38,39,40],[4,5,6,7,((.loc 8),(an 7 [.wr .wedit])),((.loc 9),(an 7 [.wr .wedit])),11,((.x 0),[])]),([0,4,5,6,7,8,9,10,11,12,13,29,30,31,37,38,39],[4,5,6,7,((.loc 8),(an 7 [.wr .wedit])),((.loc 9),(an 7 [.wr .wedit])),11,13,((.x 0),[])]),([0,4,5,6,7,8,9,10,11,12,13,29,30,31,37,38,39,48],[4,5,6,7,((.loc 8),(an 7 [.wr .wedit])),((.loc 9),(an 7 [.wr .wedit])),11,13,((.x 0),[])]),([0,4,5,6,7,8,9,10,11,12,13,29,30,31,37,38,39],[4,5,6,7,((.loc 8),(an 7 [.wr .wedit])),((.loc 9),(an 7 [.wr .wedit])),11,13,((.x 0),[])]),([0,4,5,6,7,8,9,10,11,12,13,29,30,31,37,38,39],[4,5,6,7,((.loc 8),(an 7 [.wr .wedit])),((.loc 9),(an 7 [.wr .wedit])),11,13,((.x 0),[])]),([0,4,5,6,7,8,9,10,11,12,13,29,30,31,37,38,39,48],[4,5,6,7,((.loc 8),(an 7 [.wr .wedit])),((.loc 9),(an 7 [.wr .wedit])),11,13,((.x 0),[])]),([0,4,5,6,7,8,9,10,11,29,30,31,37,38,39],[4,5,6,7,((.loc 8),(an 7 [.wr .wedit])),((.loc 9),(an 7 [.wr .wedit])),11,((.x 0),[])]),([0,4,5,6,7,8,9,29,30,31],[4,5,6,7,((.loc 8),(an 7 [.wr .wedit])),((.loc 9),(an 7 [.wr .wedit])),((.x 0),[])]),([0,4,5,6,7,8,9],[4,5,6,7,((.loc 8),(an 7 [.wr .wedit,.wr .kid])),((.loc 9),(an 7 [.wr .wedit,.wr .kid])),((.x 0),[])]),([0,5,6,7,8,9,88,89,90],[5,6,7,((.loc 8),(an 7 [.wr .wedit,.wr .kid])),((.loc 9),(an 7 [.wr .wedit,.wr .kid])),((.x 0),[])]),([0,5,6,7,8,9,88,89,90,91],[5,6,7,((.loc 8),(an 7 [.wr .wedit,.wr .kid])),((.loc 9),(an 7 [.wr .wedit,.wr .kid])),((.x 0),[])]),([0,5,6,7,8,9,14,15,88,89,90],[5,6,7,((.loc 8),(an 7 [.wr .wedit,.wr .kid])),((.loc 9),(an 7 [.wr .wedit,.wr .kid])),15,((.x 0),[])]),([0,5,6,7,8,9,14,15,88,89,90,96,97,98],[5,6,7,((.loc 8),(an 7 [.wr .wedit,.wr .kid])),((.loc 9),(an 7 [.wr .wedit,.wr .kid])),15,((.x 0),[])]),([0,5,6,7,8,9,14,15,88,89,90,96,97,98,99],[5,6,7,((.loc 8),(an 7 [.wr .wedit,.wr .kid])),((.loc 9),(an 7 [.wr .wedit,.wr .kid])),15,((.x 0),[])]),([0,5,6,7,8,9,14,15,16,17,88,89,90,96,97,98],[5,6,7,((.loc 8),(an 7 [.wr .wedit,.wr .kid])),((.loc 9),(an 7 [.wr .wedit,.wr .kid])),15,17,((.x 0),[])]),([0,5,6,7,8,9,14,15,16,17,88,89,90,96,97,98,107],[5,6,7,((.loc 8),(an 7 [.wr .wedit,.wr .kid])),((.loc 9),(an 7 [.wr .wedit,.wr .kid])),15,17,((.x 0),[])]),([0,5,6,7,8,9,14,15,16,17,88,89,90,96,97,98,107],[5,6,7,((.loc 8),(an 7 [.wr .wedit,.wr .kid])),((.loc 9),(an 7 [.wr .wedit,.wr .kid])),15,17,((.x 0),[])]),([0,5,6,7,8,9,14,15,88,89,90,96,97,98],[5,6,7,((.loc 8),(an 7 [.wr .wedit,.wr .kid])),((.loc 9),(an 7 [.wr .wedit,.wr .kid])),15,((.x 0),[])]),([0,5,6,7,8,9,88,89,90],[5,6,7,((.loc 8),(an 7 [.wr .wedit,.wr .kid])),((.loc 9),(an 7 [.wr .wedit,.wr .kid])),((.x 0),[])]),([6,7],[6,7,((.x 0),[])])]
def Z6A(mc ma:Bool)(p q:Edit)(s:Int)(mx0_0 mx0_1:Bool)(d h:List WEdit):LSt U:=(⟨[(0,.ptr (.x 0) 0),pL 4,pL 5,pL 6,pL 7,pL 8,pL 9,(29,.c (sU .wedit p.words .unk)),pI 30 (p.words.length:Int),pI 31 s],[(.loc 4,(enc .edit p)),(.loc 5,(enc .edit q)),(.loc 6,zc1),(.loc 7,zc1),(.loc 8,[ci 2,ci 0,.nils,.nils,ci 0,.nils,.nils,.mref (.l 8 7),.nils,ci 0,.nils]),(.loc 9,[ci 2,ci 0,.nils,.nils,ci 0,.nils,.nils,.mref (.l 9 7),.nils,ci 0,.nils]),(.x 0,[.bool mx0_0,.bool mx0_1])],[(.l 8 7,LC.mk (U:=U) .wedit d 0),(.l 9 7,LC.mk (U:=U) .wedit h 0)]⟩:LSt U)
def Z6z(mc ma:Bool)(p q:Edit)(u s:Int)(mx0_0_a mx0_1_a:Bool)(h d:List WEdit):LSt U:=(⟨[(0,.ptr (.x 0) 0),pL 4,pL 5,pL 6,pL 7,pL 8,pL 9,pI 10 u,pL 11,(29,.c (sU .wedit p.words .unk)),pI 30 (p.words.length:Int),pI 31 u,(37,.c (sU .wedit q.words .unk)),pI 38 (q.words.length:Int),pI 39 s],[(.loc 4,(enc .edit p)),(.loc 5,(enc .edit q)),(.loc 6,zc1),(.loc 7,zc1),(.loc 8,[ci 2,ci 0,.nils,.nils,ci 0,.nils,.nils,.mref (.l 8 7),.nils,ci 0,.nils]),(.loc 9,[ci 2,ci 0,.nils,.nils,ci 0,.nils,.nils,.mref (.l 9 7),.nils,ci 0,.nils]),(.loc 11,(enc .wedit (p.words.getD u.toNat (WEdit.mk 0 0 0 0)))),(.x 0,[.bool mx0_0_a,.bool mx0_1_a])],[(.l 8 7,LC.mk (U:=U) .wedit h 0),(.l 9 7,LC.mk (U:=U) .wedit d 0)]⟩:LSt U)
def Z6y(mc ma:Bool)(p q:Edit)(u s:List WEdit)(aa:Int)(mx0_0_b mx0_1_b:Bool)(h d:List Kid):LSt U:=(⟨[(0,.ptr (.x 0) 0),pL 5,pL 6,pL 7,pL 8,pL 9,(88,.c (sU .kid p.kids .unk)),pI 89 (p.kids.length:Int),pI 90 aa],[(.loc 5,(enc .edit q)),(.loc 6,zc1),(.loc 7,zc1),(.loc 8,[ci 2,ci 0,.nils,.nils,ci 0,.nils,.nils,.mref (.l 8 7),.mref (.l 8 8),ci 0,.nils]),(.loc 9,[ci 2,ci 0,.nils,.nils,ci 0,.nils,.nils,.mref (.l 9 7),.mref (.l 9 8),ci 0,.nils]),(.x 0,[.bool mx0_0_b,.bool mx0_1_b])],[(.l 8 7,LC.mk (U:=U) .wedit u 0),(.l 8 8,LC.mk (U:=U) .kid h 0),(.l 9 7,LC.mk (U:=U) .wedit s 0),(.l 9 8,LC.mk (U:=U) .kid d 0)]⟩:LSt U)
def Zav(mc ma:Bool)(p q:Edit)(aa d:Int)(u:V U)(mx0_0_c mx0_1_c:Bool)(s h:List WEdit):LSt U:=(⟨[(0,.ptr (.x 0) 0),pL 4,pL 5,pL 6,pL 7,pL 8,pL 9,pI 10 aa,pL 11,pI 12 d,pL 13,(29,.c (sU .wedit p.words .unk)),pI 30 (p.words.length:Int),pI 31 aa,(37,.c (sU .wedit q.words .unk)),pI 38 (q.words.length:Int),pI 39 d,(48,u)],[(.loc 4,(enc .edit p)),(.loc 5,(enc .edit q)),(.loc 6,zc1),(.loc 7,zc1),(.loc 8,[ci 2,ci 0,.nils,.nils,ci 0,.nils,.nils,.mref (.l 8 7),.nils,ci 0,.nils]),(.loc 9,[ci 2,ci 0,.nils,.nils,ci 0,.nils,.nils,.mref (.l 9 7),.nils,ci 0,.nils]),(.loc 11,(enc .wedit (p.words.getD aa.toNat (WEdit.mk 0 0 0 0)))),(.loc 13,(enc .wedit (q.words.getD d.toNat (WEdit.mk 0 0 0 0)))),(.x 0,[.bool mx0_0_c,.bool mx0_1_c])],[(.l 8 7,LC.mk (U:=U) .wedit s 0),(.l 9 7,LC.mk (U:=U) .wedit h 0)]⟩:LSt U)
def Z6x(mc ma:Bool)(p q:Edit)(aa u:List WEdit)(d ab:Int)(mx0_0_d mx0_1_d:Bool)(h s:List Kid):LSt U:=(⟨[(0,.ptr (.x 0) 0),pL 5,pL 6,pL 7,pL 8,pL 9,pI 14 d,pL 15,(88,.c (sU .kid p.kids .unk)),pI 89 (p.kids.length:Int),pI 90 d,(96,.c (sU .kid q.kids .unk)),pI 97 (q.kids.length:Int),pI 98 ab],[(.loc 5,(enc .edit q)),(.loc 6,zc1),(.loc 7,zc1),(.loc 8,[ci 2,ci 0,.nils,.nils,ci 0,.nils,.nils,.mref (.l 8 7),.mref (.l 8 8),ci 0,.nils]),(.loc 9,[ci 2,ci 0,.nils,.nils,ci 0,.nils,.nils,.mref (.l 9 7),.mref (.l 9 8),ci 0,.nils]),(.loc 15,(enc .kid (p.kids.getD d.toNat (KidOf.mk 0 Edit.nil)))),(.x 0,[.bool mx0_0_d,.bool mx0_1_d])],[(.l 8 7,LC.mk (U:=U) .wedit aa 0),(.l 8 8,LC.mk (U:=U) .kid h 0),(.l 9 7,LC.mk (U:=U) .wedit u 0),(.l 9 8,LC.mk (U:=U) .kid s 0)]⟩:LSt U)
def Zau(mc ma:Bool)(p q:Edit)(ab aa:List WEdit)(h d:Int)(mx0_0_e mx0_1_e:Bool)(u s:List Kid):LSt U:=(⟨[(0,.ptr (.x 0) 0),pL 5,pL 6,pL 7,pL 8,pL 9,pI 14 h,pL 15,pI 16 d,pL 17,(88,.c (sU .kid p.kids .unk)),pI 89 (p.kids.length:Int),pI 90 h,(96,.c (sU .kid q.kids .unk)),pI 97 (q.kids.length:Int),pI 98 d,(107,.c (.bool (((KidOf.at_ (p.kids.getD h.toNat (KidOf.mk 0 Edit.nil))):Int)==(KidOf.at_ (q.kids.getD d.toNat (KidOf.mk 0 Edit.nil))))))],[(.loc 5,(enc .edit q)),(.loc 6,zc1),(.loc 7,zc1),(.loc 8,[ci 2,ci 0,.nils,.nils,ci 0,.nils,.nils,.mref (.l 8 7),.mref (.l 8 8),ci 0,.nils]),(.loc 9,[ci 2,ci 0,.nils,.nils,ci 0,.nils,.nils,.mref (.l 9 7),.mref (.l 9 8),ci 0,.nils]),(.loc 15,(enc .kid (p.kids.getD h.toNat (KidOf.mk 0 Edit.nil)))),(.loc 17,(enc .kid (q.kids.getD d.toNat (KidOf.mk 0 Edit.nil)))),(.x 0,[.bool mx0_0_e,.bool mx0_1_e])],[(.l 8 7,LC.mk (U:=U) .wedit ab 0),(.l 8 8,LC.mk (U:=U) .kid u 0),(.l 9 7,LC.mk (U:=U) .wedit aa 0),(.l 9 8,LC.mk (U:=U) .kid s 0)]⟩:LSt U)
abbrev Z7T(N:Nat)(p:List Nat):=AW (Z2z (Zi9 N)) Tryz.f105 ZnU p
abbrev Z3L(N:Nat)(p:List Nat):=SW (Z2z (Zi9 N)) Tryz.f105 ZnU p
theorem ZFK(N:Nat)(mc ma:Bool)(p q:Edit)(Q:QT)(h:((ZdY (p.words,()))/\(ZdY (q.words,()))/\(Zp (Z7T N [1,1,1,0,1,0,0]) (Z6A mc ma p q 0 mc ma p.words q.words) (xB 0 (Z3L N [1,1,1,1] Q))))):
  Z7T N [] (L2 [(0,.ptr (.x 0) 0),(1,.agg (enc .edit p)),(2,.agg (enc .edit q))] [(.x 0,[.bool mc,.bool ma])]) Q:=
 Eq.mpr V4 h
theorem ZrX(N:Nat)(mc ma:Bool)(p q:Edit)(u:Int)(mx0_0 mx0_1:Bool)(d s:List WEdit)(N0:NT)(Q:QT)(h:(iB (decide (u < (p.words.length:Int))) (((0:Int)<=u/\u < (p.words.length:Int))/\(Zp (Z7T N [1,1,1,0,1,0,0,1,1,0,0,1,1,0,0]) (Z6z mc ma p q u 0 mx0_0 mx0_1 d s) (xB 2 (xB 1 (Z3L N [1,1,1,0,1,0,0,1,1,1] (xT N0 (xB 0 (Z3L N [1,1,1,1] Q)))))))) ((ZdW (p.kids,()))/\(ZdW (q.kids,()))/\(Zp (Z7T N [1,1,1,1,1,0,1,0,0]) (Z6y mc ma p q d s 0 mx0_0 mx0_1 p.kids q.kids) (xB 4 (Z3L N [1,1,1,1,1,1] Q)))))):
  Z7T N [1,1,1,0,1,0,0] (Z6A mc ma p q u mx0_0 mx0_1 d s) (xT N0 (xB 0 (Z3L N [1,1,1,1] Q))):=
 Eq.mpr V4 h
theorem ZrW(N:Nat)(mc ma:Bool)(p q:Edit)(aa d:Int)(mx0_0_a mx0_1_a:Bool)(u s:List WEdit)(N1 N0:NT)(Q:QT)(h:∀ ah,ah=(p.words.getD aa.toNat (WEdit.mk 0 0 0 0))->∀ af,af=(q.words.getD d.toNat (WEdit.mk 0 0 0 0))->∀ ae,ae=ah->∀ ab,ab=af->∀ aj,aj=((Zgd ae (IntKind.wrap .u8 (BitVec.ofInt (IntKind.bits .u8) 255 ^^^ BitVec.ofInt (IntKind.bits .u8) af.mask).toNat)).1)->∀ ai,ai=((Zgd ab (IntKind.wrap .u8 (BitVec.ofInt (IntKind.bits .u8) 255 ^^^ BitVec.ofInt (IntKind.bits .u8) ah.mask).toNat)).1)->let z1:=IntKind.bits .u8;let z0:=xT N1 (xB 2 (xB 1 (Z3L N [1,1,1,0,1,0,0,1,1,1] (xT N0 (xB 0 (Z3L N [1,1,1,1] Q))))));(iB (decide (d < (q.words.length:Int))) (((0:Int)<=d/\d < (q.words.length:Int))/\(iB (ah.at_==af.at_) ((ZhF ((mx0_0_a,mx0_1_a,()),ae,ab,()))/\((ZdX (ae,(IntKind.wrap .u8 (BitVec.ofInt z1 255 ^^^ BitVec.ofInt z1 af.mask).toNat),()))/\((0:Int)<=aa/\aa < (u.length:Int))/\((0:Nat)<=aa.toNat)/\((ZdX (ab,(IntKind.wrap .u8 (BitVec.ofInt z1 255 ^^^ BitVec.ofInt z1 ah.mask).toNat),()))/\((0:Int)<=d/\d < (s.length:Int))/\((0:Nat)<=d.toNat)/\(Z7T N [1,1,1,0,1,0,0,1,1,0,0,1,1,0,0,1,1,1] (Zav mc ma p q aa d .junk (mx0_0_a || (!(Yw ae ab) && Z0a ae ab)) (mx0_1_a || Yw ae ab) (List.set u aa.toNat aj) (List.set s d.toNat ai)) z0)))) (Z7T N [1,1,1,0,1,0,0,1,1,0,0,1,1,0,0,1,1,1] (Zav mc ma p q aa d (.c (.bool (ah.at_==af.at_))) mx0_0_a mx0_1_a u s) z0))) ((InR (aa+1))/\(N0 (Z6A mc ma p q (aa+1) mx0_0_a mx0_1_a u s))))):
  Z7T N [1,1,1,0,1,0,0,1,1,0,0,1,1,0,0] (Z6z mc ma p q aa d mx0_0_a mx0_1_a u s) (xT N1 (xB 2 (xB 1 (Z3L N [1,1,1,0,1,0,0,1,1,1] (xT N0 (xB 0 (Z3L N [1,1,1,1] Q))))))):=
 Eq.mpr V4 (h _ rfl _ rfl _ (Z2l _) _ (Z2l _) _ (Z2l _) _ (Z2l _))
theorem ZrV(N:Nat)(mc ma:Bool)(p q:Edit)(aa u:List WEdit)(ab:Int)(mx0_0_b mx0_1_b:Bool)(s d:List Kid)(N2:NT)(Q:QT)(h:∀ af,af=(Edit.mk 2 (Tree.mk 0 ([]:List Int) ([]:List Tree)) (Tree.mk 0 ([]:List Int) ([]:List Tree)) aa s 0 ([]:List Op))->∀ ae,ae=(Edit.mk 2 (Tree.mk 0 ([]:List Int) ([]:List Tree)) (Tree.mk 0 ([]:List Int) ([]:List Tree)) u d 0 ([]:List Op))->(iB (decide (ab < (p.kids.length:Int))) (((0:Int)<=ab/\ab < (p.kids.length:Int))/\(Zp (Z7T N [1,1,1,1,1,0,1,0,0,1,1,0,0,1,1,0,0]) (Z6x mc ma p q aa u ab 0 mx0_0_b mx0_1_b s d) (xB 6 (xB 5 (Z3L N [1,1,1,1,1,0,1,0,0,1,1,1] (xT N2 (xB 4 (Z3L N [1,1,1,1,1,1] Q)))))))) ((ZdV ((2,0,([]:List Int),([]:List Tree),0,([]:List Int),([]:List Tree),aa,s,0,([]:List Op),()),()))/\(ZdV ((2,0,([]:List Int),([]:List Tree),0,([]:List Int),([]:List Tree),u,d,0,([]:List Op),()),()))/\(Q .ret (L2 [pL 6,pL 7] [(.loc 6,(enc .edit (Z3b af))),(.loc 7,(enc .edit (Z3b ae))),(.x 0,[.bool mx0_0_b,.bool mx0_1_b])]))))):
  Z7T N [1,1,1,1,1,0,1,0,0] (Z6y mc ma p q aa u ab mx0_0_b mx0_1_b s d) (xT N2 (xB 4 (Z3L N [1,1,1,1,1,1] Q))):=
 Eq.mpr V4 (h _ rfl _ rfl)
theorem ZiO(N:Nat)(mc ma:Bool)(p q:Edit)(ab u:Int)(aa:V U)(mx0_0_c mx0_1_c:Bool)(s d:List WEdit)(N1 N0:NT)(Q:QT)(h:(InR (u+1))/\(N1 (Z6z mc ma p q ab (u+1) mx0_0_c mx0_1_c s d))):
  Z7T N [1,1,1,0,1,0,0,1,1,0,0,1,1,0,0,1,1,1] (Zav mc ma p q ab u aa mx0_0_c mx0_1_c s d) (xT N1 (xB 2 (xB 1 (Z3L N [1,1,1,0,1,0,0,1,1,1] (xT N0 (xB 0 (Z3L N [1,1,1,1] Q))))))):=
 Eq.mpr V4 h
theorem ZrU(N:Nat)(mc ma:Bool)(p q:Edit)(ae ab:List WEdit)(aa d:Int)(mx0_0_d mx0_1_d:Bool)(s u:List Kid)(N4 N2:NT)(Q:QT)(h:∀ aj,aj=(p.kids.getD aa.toNat (KidOf.mk 0 Edit.nil))->∀ ai,ai=(q.kids.getD d.toNat (KidOf.mk 0 Edit.nil))->∀ ah,ah=(aj.e)->∀ af,af=(ai.e)->∀ al,al=((lbE ah af).x)->∀ ak,ak=((lbE ah af).y)->let z0:=xT N4 (xB 6 (xB 5 (Z3L N [1,1,1,1,1,0,1,0,0,1,1,1] (xT N2 (xB 4 (Z3L N [1,1,1,1,1,1] Q))))));(iB (decide (d < (q.kids.length:Int))) (((0:Int)<=d/\d < (q.kids.length:Int))/\(iB (aj.at_==ai.at_) ((ZdH ((mx0_0_d,mx0_1_d,()),ah,af,()))/\(ZtE ((mx0_0_d,mx0_1_d,()),ah,af,()) < N)/\((0:Int)<=aa/\aa < (s.length:Int))/\((0:Nat)<=aa.toNat)/\((0:Int)<=d/\d < (u.length:Int))/\((0:Nat)<=d.toNat)/\(Z7T N [1,1,1,1,1,0,1,0,0,1,1,0,0,1,1,0,0,1,1,1] (Zau mc ma p q ae ab aa d (mx0_0_d || (lbE ah af).c) (mx0_1_d || (lbE ah af).a) (List.set s aa.toNat (KidOf.mk (KidOf.at_ (s.getD aa.toNat (KidOf.mk 0 Edit.nil))) al)) (List.set u d.toNat (KidOf.mk (KidOf.at_ (u.getD d.toNat (KidOf.mk 0 Edit.nil))) ak))) z0)) (Z7T N [1,1,1,1,1,0,1,0,0,1,1,0,0,1,1,0,0,1,1,1] (Zau mc ma p q ae ab aa d mx0_0_d mx0_1_d s u) z0))) ((InR (aa+1))/\(N2 (Z6y mc ma p q ae ab (aa+1) mx0_0_d mx0_1_d s u))))):
  Z7T N [1,1,1,1,1,0,1,0,0,1,1,0,0,1,1,0,0] (Z6x mc ma p q ae ab aa d mx0_0_d mx0_1_d s u) (xT N4 (xB 6 (xB 5 (Z3L N [1,1,1,1,1,0,1,0,0,1,1,1] (xT N2 (xB 4 (Z3L N [1,1,1,1,1,1] Q))))))):=
 Eq.mpr V4 (h _ rfl _ rfl _ (Z6 _) _ (Z6 _) _ (Z6 _) _ (Z6 _))
theorem ZiN(N:Nat)(mc ma:Bool)(p q:Edit)(ab aa:List WEdit)(ae u:Int)(mx0_0_e mx0_1_e:Bool)(s d:List Kid)(N4 N2:NT)(Q:QT)(h:(InR (u+1))/\(N4 (Z6x mc ma p q ab aa ae (u+1) mx0_0_e mx0_1_e s d))):
  Z7T N [1,1,1,1,1,0,1,0,0,1,1,0,0,1,1,0,0,1,1,1] (Zau mc ma p q ab aa ae u mx0_0_e mx0_1_e s d) (xT N4 (xB 6 (xB 5 (Z3L N [1,1,1,1,1,0,1,0,0,1,1,1] (xT N2 (xB 4 (Z3L N [1,1,1,1,1,1] Q))))))):=
 Eq.mpr V4 h
def ZA9(N:Nat)(mc ma:Bool)(p q:Edit):Prop:=AW (Z2z (Zi9 N)) Tryz.f105 ZnU [] (Zf (Zf6.can ((mc,ma,()),p,q,())) (Zf6.canX ((mc,ma,()),p,q,()))) (EQ Tryz.f105 (ZdC ((mc,ma,()),p,q,())) (Z8C ((mc,ma,()),p,q,())))
abbrev ZB2:Prop:=∀ (N:Nat) (mc:Bool) (ma:Bool) (p:Edit) (q:Edit) (_:Unit),Ze3 ((mc,ma,()),p,q,())->ZnB ((mc,ma,()),p,q,()) < N+1->ZA9 N mc ma p q
def ZnT:Zc U:=lvk [([0,4,5,6,7],[4,5,6,7,((.x 0),[])]),([0,4,6,7,8,9],[4,6,7,((.x 0),[])]),([0,4,6,7,8,22],[4,6,7,((.x 0),[])]),([6,7],[6,7,((.x 0),[])]),([6,7],[6,7,((.x 0),[])]),([4,6,7,8,10],[4,6,7,31,((.x 0),[])]),([4,6,7,10,32,33,34],[4,6,7,((.loc 31),[.any,.own .op,.own .op,.own .tree,.own .tree]),((.x 0),[])]),([4,6,7,10,32,33,34,35],[4,6,7,31,((.x 0),[])]),([4,6,7,10,12,32,33,34],[4,6,7,12,31,((.x 0),[])]),([4,6,7,10,12,32,33,34,39],[4,6,7,12,31,((.x 0),[])]),([4,6,7,10,12,32,33,34],[4,6,7,12,31,((.x 0),[])]),([4,6,7,10,32,33,34],[4,6,7,31,((.x 0),[])]),([4,6,7,10,12,32,33,34,39,48],[4,6,7,12,31,((.x 0),[])]),([4,6,7,10,32,33,34],[4,6,7,31,((.x 0),[])]),([4,6,7,10,12,32,33,34,61],[4,6,7,12,31,((.x 0),[])]),([4,6,7,10,32,33,34],[4,6,7,31,((.x 0),[])]),([4,6,7,10,32,33,34],[4,6,7,((.loc 31),[.any,.own .op,.own .op,.own .tree,.own .tree]),((.x 0),[])]),([4,6,7,10],[4,6,7,31,((.x 0),[])]),([6,7],[6,7,((.x 0),[])])]
def Z2c(mc ma:Bool)(p q:Edit)(aa:Int)(mx0_0 mx0_1:Bool)(h s:List Tree)(u d:List Op):LSt U:=(L2 [pL 4,pL 6,pL 7,(10,.ptr (.loc 31) 0),(32,.c (sU .piece ((ZM 2 2 p.ops q.ops []).1) .unk)),pI 33 (((ZM 2 2 p.ops q.ops []).1).length:Int),pI 34 aa] [(.loc 4,(enc .edit p)),(.loc 6,zc1),(.loc 7,zc1),(.loc 31,[.xp 0,sU .op u (.own (.l 31 1)),sU .op d (.own (.l 31 2)),sU .tree h (.own (.l 31 3)),sU .tree s (.own (.l 31 4))]),(.x 0,[.bool mx0_0,.bool mx0_1])])
abbrev ZEA(N:Nat)(p:List Nat):=AW (Z1 (Zi9 N)) Tryz.f106 ZnT p
abbrev ZGN(N:Nat)(p:List Nat):=SW (Z1 (Zi9 N)) Tryz.f106 ZnT p
theorem ZFJ(N:Nat)(mc ma:Bool)(p q:Edit)(Q:QT)(h:((Zlq (p.ops,q.ops,()))/\(iB (!((ZM 2 2 p.ops q.ops []).2.1)) (((Za3 ())/\(Q .ret (L2 [pL 6,pL 7] [(.loc 6,(enc .edit Edit.nil)),(.loc 7,(enc .edit Edit.nil)),(.x 0,[.bool mc,.bool true])])))) ((Zp (ZEA N [1,1,1,1,0,1,0,0]) (Z2c mc ma p q 0 mc ma [] [] [] []) (xB 0 (ZGN N [1,1,1,1,1] Q))))))):
  ZEA N [] (L2 [(0,.ptr (.x 0) 0),(1,.agg (enc .edit p)),(2,.agg (enc .edit q))] [(.x 0,[.bool mc,.bool ma])]) Q:=
 Eq.mpr V4 h
theorem ZrT(N:Nat)(mc ma:Bool)(p q:Edit)(ab:Int)(mx0_0 mx0_1:Bool)(u aa:List Tree)(s d:List Op)(N0:NT)(Q:QT)(h:∀ ak,ak=(Edit.new (Z0y p.list (s++(JL u aa).x)))->∀ ai,ai=(Edit.new (Z0y p.list (d++(JL u aa).y)))->∀ al,al=(Edit.old (Z0y p.list (s++(JL u aa).x)))->∀ aj,aj=(Edit.old (Z0y p.list (d++(JL u aa).y)))->∀ ae,ae=(List.getD ((ZM 2 2 p.ops q.ops []).1) ab.toNat (Piece.mk 0 Op.nil Op.nil))->∀ af,af=(ae.p)->∀ ah,ah=(ae.q)->let z4:=ZE lbE af ah;let z3:=ZhE (((),s,d,u,aa,()),(mx0_0,mx0_1,()),());let z0:=JL u aa;let z2:=Z0y p.list (d++z0.y);let z1:=Z0y p.list (s++z0.x);(iB (decide (ab < (((ZM 2 2 p.ops q.ops []).1).length:Int))) (((0:Int)<=ab/\ab < (((ZM 2 2 p.ops q.ops []).1).length:Int))/\(iB (ae.of==1) (((u.length+ae.p.l.length)*56<=140737488355328)/\((InR (ab+1))/\(N0 (Z2c mc ma p q (ab+1) mx0_0 mx0_1 (u++ae.p.l) aa s d)))) ((iB (ae.of==2) (((aa.length+ae.q.l.length)*56<=140737488355328)/\((InR (ab+1))/\(N0 (Z2c mc ma p q (ab+1) mx0_0 mx0_1 u (aa++ae.q.l) s d)))) (z3/\((Za1 (((),(s++z0.x),(d++z0.y),([]:List Tree),([]:List Tree),()),af,ah,((mx0_0 || z0.c),mx0_1,()),()))/\(Znz (((),(s++z0.x),(d++z0.y),([]:List Tree),([]:List Tree),()),af,ah,((mx0_0 || z0.c),mx0_1,()),()) < N)/\((InR (ab+1))/\(N0 (Z2c mc ma p q (ab+1) ((mx0_0 || z0.c) || z4.c) (mx0_1 || z4.a) ([]:List Tree) ([]:List Tree) ((s++z0.x)++z4.x) ((d++z0.y)++z4.y)))))))))) (z3/\((ZdU (p.list,(s++z0.x),()))/\(ZdU (p.list,(d++z0.y),()))/\(Q .ret (L2 [pL 6,pL 7] [(.loc 6,([ci (Edit.kind z1)]++enc .tree al++enc .tree ak++[sU .wedit (Edit.words z1) .unk,sU .kid (Edit.kids z1) .unk,ci (Edit.list z1),sU .op (Edit.ops z1) .unk])),(.loc 7,([ci (Edit.kind z2)]++enc .tree aj++enc .tree ai++[sU .wedit (Edit.words z2) .unk,sU .kid (Edit.kids z2) .unk,ci (Edit.list z2),sU .op (Edit.ops z2) .unk])),(.x 0,[.bool (mx0_0 || z0.c),.bool mx0_1])])))))):
  ZEA N [1,1,1,1,0,1,0,0] (Z2c mc ma p q ab mx0_0 mx0_1 u aa s d) (xT N0 (xB 0 (ZGN N [1,1,1,1,1] Q))):=
 Eq.mpr V4 (h _ rfl _ rfl _ rfl _ rfl _ rfl _ (YE _) _ (YE _))
def ZA8(N:Nat)(mc ma:Bool)(p q:Edit):Prop:=AW (Z1 (Zi9 N)) Tryz.f106 ZnT [] (Zf (Zf6.can ((mc,ma,()),p,q,())) (Zf6.canX ((mc,ma,()),p,q,()))) (EQ Tryz.f106 (ZdB ((mc,ma,()),p,q,())) (Z8B ((mc,ma,()),p,q,())))
abbrev ZB1:Prop:=∀ (N:Nat) (mc:Bool) (ma:Bool) (p:Edit) (q:Edit) (_:Unit),Ze2 ((mc,ma,()),p,q,())->ZnB ((mc,ma,()),p,q,()) < N+1->ZA8 N mc ma p q
def Zuk:Zc U:=lvk [([0,4,5],[4,5,((.x 0),[]),((.x 1),[])]),([0,6,7],[6,7,((.x 0),[]),((.x 1),[])]),([],[((.x 0),[]),((.x 1),[])]),([0,4,5,42],[4,5,((.x 0),[]),((.x 1),[])]),([],[((.x 0),[]),((.x 1),[])]),([0,4,5,62],[4,5,((.x 0),[]),((.x 1),[])]),([],[((.x 0),[]),((.x 1),[])]),([0,4,5,82],[4,5,((.x 0),[]),((.x 1),[])]),([],[((.x 0),[]),((.x 1),[])]),([0,4,5,109],[4,5,((.x 0),[]),((.x 1),[])]),([],[((.x 0),[]),((.x 1),[])]),([0,4,5,133],[4,5,((.x 0),[]),((.x 1),[])]),([0,147],[((.x 0),[]),((.x 1),[])]),([],[((.x 0),[]),((.x 1),[])]),([0,4,5,154],[4,5,((.x 0),[]),((.x 1),[])]),([],[((.x 0),[]),((.x 1),[])]),([0,4,5,166],[4,5,((.x 0),[]),((.x 1),[])]),([],[((.x 0),[]),((.x 1),[])])]
abbrev ZIk(N:Nat)(p:List Nat):=AW (Z1 (Zi9 N)) Tryz.f145 Zuk p
theorem ZFm(N:Nat)(sm_:Unit)(sx sy:List Op)(si sh:List Tree)(p q:Op)(mc ma:Bool)(Q:QT)(h:∀ af,af=p->∀ ae,ae=q->∀ u,u=(p.e)->∀ s,s=(q.e)->∀ ai,ai=(List.getD p.l (Int.toNat 0) Tree.nil)->∀ ah,ah=(List.getD q.l (Int.toNat 0) Tree.nil)->∀ d,d=(Edit.mk 0 (Tree.mk 0 [] []) (Tree.mk 0 [] []) [] [] 0 [])->∀ ak,ak=((lbE u s).x)->∀ aj,aj=((lbE u s).y)->∀ aa,aa=(Z4q ak)->∀ ab,ab=(Z4q aj)->let z0:= !(eqX (Z8 p.l) (Z8 q.l));((Tt (p.kind==0))/\(Tt (p.kind==0))/\(Tt (p.kind==0))/\(iB (bif (p.kind==0) then (q.kind==1) else false) (((sy.length+([(OpOf.mk 0 0 [] d)]).length)*240<=140737488355328)/\((0:Int)<=(sy.length:Int)/\(sy.length:Int) < ((sy++([(OpOf.mk 0 0 [] d)])).length:Int))/\(sy.length<=(Int.toNat (sy.length:Int)))/\(Q .normal (L2 [] [(.x 0,[.xp 1,sU .op sx (.own (.x 0 1)),sU .op (List.set (sy++([(OpOf.mk 0 0 [] d)])) (Int.toNat (sy.length:Int)) ae) (.own (.x 0 2)),sU .tree si (.own (.x 0 3)),sU .tree sh (.own (.x 0 4))]),(.x 1,[.bool mc,.bool ma])]))) ((Tt (p.kind==1))/\(Tt (p.kind==1))/\(Tt (p.kind==1))/\(iB (bif (p.kind==1) then (q.kind==0) else false) (((sx.length+([(OpOf.mk 0 0 [] d)]).length)*240<=140737488355328)/\((0:Int)<=(sx.length:Int)/\(sx.length:Int) < ((sx++([(OpOf.mk 0 0 [] d)])).length:Int))/\(sx.length<=(Int.toNat (sx.length:Int)))/\(Q .normal (L2 [] [(.x 0,[.xp 1,sU .op (List.set (sx++([(OpOf.mk 0 0 [] d)])) (Int.toNat (sx.length:Int)) af) (.own (.x 0 1)),sU .op sy (.own (.x 0 2)),sU .tree si (.own (.x 0 3)),sU .tree sh (.own (.x 0 4))]),(.x 1,[.bool mc,.bool ma])]))) ((iB (p.kind==0) (((sx.length+([(OpOf.mk 0 (if q.n < 1 then 1 else q.n) [] d)]).length)*240<=140737488355328)/\((sy.length+([ae]).length)*240<=140737488355328)/\(Q .normal (L2 [] [(.x 0,[.xp 1,sU .op (sx++([(OpOf.mk 0 (if q.n < 1 then 1 else q.n) [] d)])) (.own (.x 0 1)),sU .op (sy++([ae])) (.own (.x 0 2)),sU .tree si (.own (.x 0 3)),sU .tree sh (.own (.x 0 4))]),(.x 1,[.bool mc,.bool ma])]))) ((iB (q.kind==0) (((sx.length+([af]).length)*240<=140737488355328)/\((sy.length+([(OpOf.mk 0 1 [] d)]).length)*240<=140737488355328)/\(Q .normal (L2 [] [(.x 0,[.xp 1,sU .op (sx++([af])) (.own (.x 0 1)),sU .op (sy++([(OpOf.mk 0 1 [] d)])) (.own (.x 0 2)),sU .tree si (.own (.x 0 3)),sU .tree sh (.own (.x 0 4))]),(.x 1,[.bool mc,.bool ma])]))) ((Tt (p.kind==1))/\(Tt (p.kind==1))/\(Tt (p.kind==1))/\(iB (bif (p.kind==1) then (q.kind==1) else false) ((Z7w (p.l,q.l,(),()))/\(iB z0 ((Q .normal (L2 [] [(.x 0,[.xp 1,sU .op sx (.own (.x 0 1)),sU .op sy (.own (.x 0 2)),sU .tree si (.own (.x 0 3)),sU .tree sh (.own (.x 0 4))]),(.x 1,[.bool mc,.bool true])]))) (Q .normal (L2 [(0,.ptr (.x 0) 0),pB 147 z0] [(.x 0,[.xp 1,sU .op sx (.own (.x 0 1)),sU .op sy (.own (.x 0 2)),sU .tree si (.own (.x 0 3)),sU .tree sh (.own (.x 0 4))]),(.x 1,[.bool mc,.bool ma])])))) ((iB (p.kind==1) (((0:Int)<=0/\0 < (p.l.length:Int))/\(ZdO (((),sx,sy,si,sh,()),s,ai,(mc,ma,()),()))/\(Q .normal (L2 [] [(.x 0,[.xp 1,sU .op sx (.own (.x 0 1)),sU .op sy (.own (.x 0 2)),sU .tree si (.own (.x 0 3)),sU .tree sh (.own (.x 0 4))]),(.x 1,[.bool true,.bool (ma || !(doE false s ai).isSome)])]))) ((iB (q.kind==1) (((0:Int)<=0/\0 < (q.l.length:Int))/\(ZdO (((),sx,sy,si,sh,()),u,ah,(mc,ma,()),()))/\(Q .normal (L2 [] [(.x 0,[.xp 1,sU .op sx (.own (.x 0 1)),sU .op sy (.own (.x 0 2)),sU .tree si (.own (.x 0 3)),sU .tree sh (.own (.x 0 4))]),(.x 1,[.bool true,.bool (ma || !(doE false u ah).isSome)])]))) ((ZdH ((mc,ma,()),u,s,()))/\(ZtE ((mc,ma,()),u,s,()) < N)/\((Zhu (ak,()))/\((sx.length+([aa]).length)*240<=140737488355328)/\(Zhu (aj,()))/\((sy.length+([ab]).length)*240<=140737488355328)/\(Q .normal (L2 [] [(.x 0,[.xp 1,sU .op (sx++([aa])) (.own (.x 0 1)),sU .op (sy++([ab])) (.own (.x 0 2)),sU .tree si (.own (.x 0 3)),sU .tree sh (.own (.x 0 4))]),(.x 1,[.bool (mc || (lbE u s).c),.bool (ma || (lbE u s).a)])]))))))))))))))))))):
  ZIk N [] (L2 [(0,.ptr (.x 0) 0),(1,.agg (enc .op p)),(2,.agg (enc .op q))] [(.x 0,[.xp 1,sU .op sx (.own (.x 0 1)),sU .op sy (.own (.x 0 2)),sU .tree si (.own (.x 0 3)),sU .tree sh (.own (.x 0 4))]),(.x 1,[.bool mc,.bool ma])]) Q:=
 Eq.mpr V4 (h _ (YE _) _ (YE _) _ (Z6 _) _ (Z6 _) _ (Z7 _) _ (Z7 _) _ rfl _ (Z6 _) _ (Z6 _) _ (YE _) _ (YE _))
def ZzL(N:Nat)(sm_:Unit)(sx sy:List Op)(si sh:List Tree)(p q:Op)(mc ma:Bool):Prop:=AW (Z1 (Zi9 N)) Tryz.f145 Zuk [] (Zf (Z9H.can ((sm_,sx,sy,si,sh,()),p,q,(mc,ma,()),())) (Z9H.canX ((sm_,sx,sy,si,sh,()),p,q,(mc,ma,()),()))) (EQ Tryz.f145 (Zdz ((sm_,sx,sy,si,sh,()),p,q,(mc,ma,()),())) (Z8y ((sm_,sx,sy,si,sh,()),p,q,(mc,ma,()),())))
abbrev ZAV:Prop:=∀ (N:Nat) (sm_:Unit) (sx:List Op) (sy:List Op) (si:List Tree) (sh:List Tree) (p:Op) (q:Op) (mc:Bool) (ma:Bool) (_:Unit),Za1 ((sm_,sx,sy,si,sh,()),p,q,(mc,ma,()),())->Znz ((sm_,sx,sy,si,sh,()),p,q,(mc,ma,()),()) < N+1->ZzL N sm_ sx sy si sh p q mc ma
theorem Zxg(ZbL:CT 114 Ju)(ZDx:CT 103 ZbZ)(ZDw:CT 104 ZbY)(Zij:CT 177 Z0u)(ZDn:CT 138 ZbX)(ZDm:CT 139 ZbW)(ZDl:CT 140 ZbV)(ZDk:CT 141 ZbU)(ZDj:CT 142 ZbT)(ZDi:CT 143 ZbS)(ZDh:CT 144 ZbR)(ZDg:CT 146 ZbQ)(ZD2:CT 196 ZbP)(ZD1:CT 197 ZbO)(b66:ZGR)(ZDJ:ZB2)(ZDI:ZB1)(ZDD:ZAV):
  CT 66 Z9Q/\CT 105 ZmR/\CT 106 ZmQ/\CT 145 ZmK:=by
 have af:FK 66:=⟨Tryz.f66,Tryz.func66,rfl,rfl⟩
 have s:FK 105:=⟨Tryz.f105,Tryz.func105,rfl,rfl⟩
 have aa:FK 106:=⟨Tryz.f106,Tryz.func106,rfl,rfl⟩
 have u:FK 145:=⟨Tryz.f145,Tryz.func145,rfl,rfl⟩
 have d:∀ N,CT 66 (fsX Zf6 (fun a=> [ZdH a,ZtE a < N]) Zjh Zdv)/\CT 105 (fsX Zf6 (fun a=> [Ze3 a,ZnB a < N]) ZdC Z8C)/\CT 106 (fsX Zf6 (fun a=> [Ze2 a,ZnB a < N]) ZdB Z8B)/\CT 145 (fsX Z9H (fun a=> [Za1 a,Znz a < N]) Zdz Z8y):=by
  intro N
  induction N with
  | zero=> exact ⟨Z9v af,Z9v s,Z9v aa,Z9v u⟩
  | succ N ih=>
   have kn:=Jn (l:=Z34 N) ⟨ih.1,ih.2.1,ih.2.2.1,ih.2.2.2,ZbL,ZDx,ZDw,Zij,ZDn,ZDm,ZDl,ZDk,ZDj,ZDi,ZDh,ZDg,ZD2,ZD1,trivial⟩
   exact ⟨Z0K (Γ:=Z1 (Z34 N)) Zh rfl kn ZCg Tryz.func66 rfl rfl (fun a=> by show 3<=_;decide) (fun ⟨⟨mc,ma,_⟩,p,q,_⟩ h=> b66 N mc ma p q () h.1 h.2.1),
    Z0K (Γ:=Z2z (Z34 N)) Zh rfl kn ZnU Tryz.func105 rfl rfl (fun a=> by show 3<=_;decide) (fun ⟨⟨mc,ma,_⟩,p,q,_⟩ h=> ZDJ N mc ma p q () h.1 h.2.1),
    Z0K (Γ:=Z1 (Z34 N)) Zh rfl kn ZnT Tryz.func106 rfl rfl (fun a=> by show 3<=_;decide) (fun ⟨⟨mc,ma,_⟩,p,q,_⟩ h=> ZDI N mc ma p q () h.1 h.2.1),
    Z0K (Γ:=Z1 (Z34 N)) Zh rfl kn Zuk Tryz.func145 rfl rfl (fun a=> by show 3<=_;decide) (fun ⟨⟨ai,sx,sy,si,sh,_⟩,p,q,⟨mc,ma,_⟩,_⟩ h=> ZDD N ai sx sy si sh p q mc ma () h.1 h.2.1)⟩
 exact ⟨Z9w af fun N=> (d N).1,Z9w s fun N=> (d N).2.1,Z9w aa fun N=> (d N).2.2.1,Z9w u fun N=> (d N).2.2.2⟩
end
def at1(n:Int):Tree:= .mk 10 [n] []
theorem Zsd{o:Option Tree}(h:o.isSome=true):∃ v,o=some v:=by cases o with | none=> cases h | some v=> grind
theorem ZqZ:Contract Tryz.prog cfg 190 Z2I:=by
 refine ZxF ?_
 intro w _ _
 refine ZF3 _ _ ?_
 simp only [Zlb]
 exact V1
theorem ZqY:Contract Tryz.prog cfg 192 Z2H:=by
 refine ZxD ?_
 intro w _ _
 refine ZF1 _ _ ?_
 simp only [Zla]
 exact V1
theorem ZCZ:Contract Tryz.prog cfg 199 Z8c:=by
 refine Zxw ?_
 intro w _ _
 refine ZEU _ _ ?_
 simp only [Zl8]
 exact V1
theorem Z3u{α:Type}(f:α->Bool):∀ (l:List α) (i:Int),(Jd f l i= -1/\∀ a∈l,f a=false)\/(i<=Jd f l i/\Jd f l i < i+l.length/\(∀ a∈l.take (Jd f l i - i).toNat,f a=false)/\∀ z,f (l.getD (Jd f l i - i).toNat z)=true)
 | [],i=> .inl ⟨rfl,fun a h=> by cases h⟩
 | a ::r,i=> by
  by_cases h:f a=true
  .rw [Jd,if_pos h]
   grind
  .rw [Jd,if_neg h]
   rcases Z3u f r (i+1) with ⟨h1,h2⟩ | ⟨h1,h2,h3,h4⟩
   .grind
   .have e:(Jd f r (i+1) - i).toNat=(Jd f r (i+1) - (i+1)).toNat+1:=V0
    rw [e]
    refine .inr ⟨V0,by grind,fun x d=> ?_,fun z=> by simpa using h4 z⟩
    grind
theorem Zvc{α:Type}(f:α->Bool)(l:List α):decide (0<=Jd f l 0)=l.any f:=by
 rcases Z3u f l 0 with ⟨h1,h2⟩ | ⟨h1,h2,_,h4⟩
 .grind
 .rw [decide_eq_true h1,XZ.2]
  cases l with
  | nil=> grind
  | cons a r=> exact ⟨_,Zo V0 a,h4 a⟩
theorem ZCS:Contract Tryz.prog cfg 224 Z87:=by
 refine Zxo ZqZ ?_
 intro l f _ hp
 simp only [Zho] at hp
 refine ZEM l f _ ?_
 refine Ze (ι:=Int) (fun i=> Z6h l f i) (fun i=> 0<=i/\i<=l.length/\Jd (fun w:WEdit=> decide (WEdit.mask w=0)) (l.drop i.toNat) i=Jd (fun w:WEdit=> decide (WEdit.mask w=0)) l 0) (fun i=> ((l.length:Int) - i).toNat) 0 rfl ⟨V0,V0,rfl⟩ ?_
 rintro i ⟨s,h2,d⟩
 refine Zrr l f _ _ _ ?_
 (simp only [iB,vcT,vcS])
 refine ⟨fun h=> ⟨⟨s,h⟩,trivial,fun u=> ?_,fun u=> ⟨V2,i+1,rfl,⟨V0,V0,?_⟩,V0⟩⟩,fun h=> ?_⟩
 .rw [YJ s h ⟨0,0,0,0⟩,Jd,if_pos (decide_eq_true u)] at d
  simp only [Zh3,<-d]
  exact V1
 .rw [YJ s h ⟨0,0,0,0⟩,Jd,if_neg (fun e=> u (of_decide_eq_true e))] at d
  exact d
 .rw [Qd V0,Jd] at d
  simp only [Zh3,<-d]
  exact V1
theorem ZvD:Contract Tryz.prog cfg 225 Z4Q:=by
 refine ZtM ZqY ?_
 intro l f _ hp
 simp only [Zch] at hp
 refine ZB7 l f _ ?_
 refine Ze (ι:=Int) (fun i=> Z4d l f i) (fun i=> 0<=i/\i<=l.length/\Jd (fun k:Kid=> decide (Edit.kind (KidOf.e k)=0)) (l.drop i.toNat) i=Jd (fun k:Kid=> decide (Edit.kind (KidOf.e k)=0)) l 0) (fun i=> ((l.length:Int) - i).toNat) 0 rfl ⟨V0,V0,rfl⟩ ?_
 rintro i ⟨s,h2,d⟩
 refine ZpN l f _ _ _ ?_
 intro y1 e1 y2 e2
 (simp only [iB,vcT,vcS])
 subst_vars
 refine ⟨fun h=> ⟨⟨s,h⟩,trivial,fun u=> ?_,fun u=> ⟨V2,i+1,rfl,⟨V0,V0,?_⟩,V0⟩⟩,fun h=> ?_⟩
 .rw [YJ s h ⟨0,Edit.nil⟩,Jd,if_pos (decide_eq_true u)] at d
  simp only [Zcd,<-d]
  exact V1
 .rw [YJ s h ⟨0,Edit.nil⟩,Jd,if_neg (fun e=> u (of_decide_eq_true e))] at d
  exact d
 .rw [Qd V0,Jd] at d
  simp only [Zcd,<-d]
  exact V1
theorem ZCP:Contract Tryz.prog cfg 230 Z84:=by
 refine Zxj ZCZ ?_
 intro l f _ hp
 simp only [Zhn] at hp
 refine ZEH l f _ ?_
 refine Ze (ι:=Int) (fun i=> Z6g l f i) (fun i=> 0<=i/\i<=l.length/\Jd (fun o:Op=> !decide (OpOf.kind o=0)) (l.drop i.toNat) i=Jd (fun o:Op=> !decide (OpOf.kind o=0)) l 0) (fun i=> ((l.length:Int) - i).toNat) 0 rfl ⟨V0,V0,rfl⟩ ?_
 rintro i ⟨s,h2,d⟩
 refine Zrq l f _ _ _ ?_
 intro y1 e1 y2 e2
 (simp only [iB,vcT,vcS])
 subst_vars
 refine ⟨fun h=> ⟨⟨s,h⟩,trivial,fun u=> ?_,fun u=> ⟨V2,i+1,rfl,⟨V0,V0,?_⟩,V0⟩⟩,fun h=> ?_⟩
 .rw [YJ s h Op.nil,Jd,if_pos (by simpa using u)] at d
  simp only [Zh2,<-d]
  exact V1
 .rw [YJ s h Op.nil,Jd,if_neg (by simpa using u)] at d
  exact d
 .rw [Qd V0,Jd] at d
  simp only [Zh2,<-d]
  exact V1
theorem ZD0:Contract Tryz.prog cfg 198 Z8d:=by
 refine Zxx ZCP ?_
 intro l f _ d
 simp only [Zhn] at d
 refine ZEV l f _ ⟨d,?_⟩
 simp only [Zl9]
 rw [Zvc]
 exact V1
theorem ZD4:Contract Tryz.prog cfg 194 Z8f:=by
 refine ZxB ?_
 intro n _ _
 refine ZEZ _ _ ?_
 (simp only [iB,vcT,vcS])
 refine ⟨fun h=> ?_,fun h=> ?_⟩
 .simp only [Zh8,JU,if_pos h]
  exact V1
 .simp only [Zh8,JU,if_neg h]
  exact V1
theorem ZDn:Contract Tryz.prog cfg 138 ZbX:=by
 refine Zy3 ?_
 intro l _ d
 simp only [ZdY] at d
 refine ZFt _ _ ⟨fun h=> ?_,fun _=> ⟨by simp only [Qh];omega,?_⟩⟩
 .subst h
  simp only [Zcc]
  exact V1
 .simp only [Zcc]
  exact V1
theorem ZDk:Contract Tryz.prog cfg 141 ZbU:=by
 refine Zy0 ?_
 intro l _ d
 simp only [ZdW] at d
 refine ZFq _ _ ⟨fun h=> ?_,fun _=> ⟨by simp only [Qh];omega,?_⟩⟩
 .subst h
  simp only [Zcb]
  exact V1
 .simp only [Zcb]
  exact V1
structure DInv {α:Type} (g:α->Bool) (l L:List α) (i j:Int):Prop where
 i0:0<=i
 ij:i < j
 jl:j<=l.length
 len:L.length=l.length
 tk:L.take i.toNat=(l.take j.toNat).filter g
 dr:L.drop j.toNat=l.drop j.toNat
theorem DInv.one{α:Type}{f:α->Bool}{l:List α}{k:Int}(e:Jd f l 0=k)(hk:k≠-1):DInv (fun a=> !f a) l l k (k+1):=by
 subst e
 rcases Z3u f l 0 with ⟨h1,_⟩ | ⟨h1,h2,h3,h4⟩
 .omega
 .rw [Int.sub_zero] at h3 h4
  refine ⟨h1,V0,V0,rfl,?_,rfl⟩
  cases l with
  | nil=> grind
  | cons a r=>
   rw [show (Jd f (a ::r) 0+1).toNat=(Jd f (a ::r) 0).toNat+1 by omega,Z9N V0 a,List.filter_append,Kf,h4 a,List.filter_eq_self.2 (fun x d=> by grind)]
   simp
theorem DInv.get{α:Type}{g:α->Bool}{l L:List α}{i j:Int}(h:DInv g l L i j)(z:α):L.getD j.toNat z=l.getD j.toNat z:=by
 have:=congrArg (fun x=> x.getD 0 z) h.dr
 grind
theorem DInv.next{α:Type}{g:α->Bool}{l L:List α}{i j:Int}(h:DInv g l L i j)(hj:j < l.length)(z:α):
  (g (L.getD j.toNat z)=true->DInv g l (L.set i.toNat (L.getD j.toNat z)) (i+1) (j+1))/\(g (L.getD j.toNat z)=false->DInv g l L i (j+1)):=by
 obtain ⟨i0,ij,jl,len,tk,dr⟩:=h
 have e:=DInv.get ⟨i0,ij,jl,len,tk,dr⟩ z
 have s:l.take (j+1).toNat=l.take j.toNat++[l.getD j.toNat z]:=by rw [show (j+1).toNat=j.toNat+1 by omega];exact Z9N V0 z
 have d1:L.drop (j+1).toNat=l.drop (j+1).toNat:=by
  have:=congrArg (List.drop 1) dr
  rw [K7,K7] at this
  rw [show (j+1).toNat=j.toNat+1 by omega];exact this
 refine ⟨fun u=> ⟨V0,V0,V0,by grind,?_,?_⟩,fun u=> ⟨i0,V0,V0,len,?_,d1⟩⟩
 .have d:i.toNat < L.length:=V0
  rw [show (i+1).toNat=i.toNat+1 by omega,Z9N (by grind) z,s,List.filter_append,<-tk,List.take_set_of_le V0]
  grind
 .rw [List.drop_set,Yu]
  exact d1
 grind
theorem DInv.fin{α:Type}{g:α->Bool}{l L:List α}{i j:Int}(h:DInv g l L i j)(hj:¬j < l.length)(r:List α):List.take i.toNat (List.take i.toNat L++r)=l.filter g:=by
 have h1:=h.ij;have d:=h.jl;have u:=h.len;have s:=h.i0
 rw [List.take_append_of_le_length (by rw [Qr];omega),List.take_take,Nat.min_self,h.tk,QU V0]
theorem ZD6:Contract Tryz.prog cfg 189 Z8h:=by
 refine ZxG ZqZ ZCS ?_
 intro l f _ hp
 simp only [Zho] at hp
 refine ZF4 l f _ ?_
 (simp only [iB,vcT,vcS])
 refine ⟨hp,fun h=> ?_,fun h=> ?_⟩
 .have e:l.filter (fun w=> !decide (WEdit.mask w=0))=l:=by
   rcases Z3u (fun w:WEdit=> decide (WEdit.mask w=0)) l 0 with ⟨_,h2⟩ | ⟨h1,_⟩
   .simp_all
   .omega
  simp only [Zhb,Zc5,Zc8,e]
  exact V1
 .have D:=DInv.one (f:=fun w:WEdit=> decide (WEdit.mask w=0)) (l:=l) rfl h
  have:=D.jl;have:=D.i0
  refine ⟨V2,?_⟩
  refine Ze (ι:=List WEdit × Int × Int) (fun s=> Z3x l f s.2.1 s.2.2 s.1) (fun s=> DInv (fun w:WEdit=> !decide (WEdit.mask w=0)) l s.1 s.2.1 s.2.2) (fun s=> ((l.length:Int) - s.2.2).toNat) (l,_,_) rfl D ?_
  rintro ⟨L,i,j⟩ D
  dsimp only at D
  have hl:=D.len;have u:=D.i0;have h1:=D.ij;have h2:=D.jl
  refine Zrv l f _ _ _ _ _ ?_
  intro y1 aa y2 ab
  subst ab
  (simp only [iB,vcT,vcS])
  refine ⟨fun hj=> ?_,fun hj=> ?_⟩
  .have d:=D.next V0 ⟨0,0,0,0⟩
   rw [<-aa] at d
   refine ⟨⟨V0,hj⟩,trivial,fun he=> ⟨⟨u,V0⟩,QQ _,V2,V2,(_,i+1,j+1),rfl,d.1 (by simpa using he),V5⟩,fun he=> ⟨V2,(L,i,j+1),rfl,d.2 (by simpa using he),V5⟩⟩
  .refine ⟨⟨u,V0⟩,QQ _,⟨u,by simp only [Qb,Qr,Xe];omega⟩,?_⟩
   rw [D.fin V0]
   simp only [Zhb,Zc5,Zc8]
   exact V1
theorem ZD5:Contract Tryz.prog cfg 191 Z8g:=by
 refine ZxE ZqY ZvD ?_
 intro l f _ hp
 simp only [Zch] at hp
 refine ZF2 l f _ ?_
 (simp only [iB,vcT,vcS])
 refine ⟨hp,fun h=> ?_,fun h=> ?_⟩
 .have e:l.filter (fun k=> !decide (Edit.kind (KidOf.e k)=0))=l:=by
   rcases Z3u (fun k:Kid=> decide (Edit.kind (KidOf.e k)=0)) l 0 with ⟨_,h2⟩ | ⟨h1,_⟩
   .simp_all
   .omega
  simp only [Zha,Zc4,Zc7,e]
  exact V1
 .have D:=DInv.one (f:=fun k:Kid=> decide (Edit.kind (KidOf.e k)=0)) (l:=l) rfl h
  have:=D.jl;have:=D.i0
  refine ⟨V2,?_⟩
  refine Ze (ι:=List Kid × Int × Int) (fun s=> Z3w l f s.2.1 s.2.2 s.1) (fun s=> DInv (fun k:Kid=> !decide (Edit.kind (KidOf.e k)=0)) l s.1 s.2.1 s.2.2) (fun s=> ((l.length:Int) - s.2.2).toNat) (l,_,_) rfl D ?_
  rintro ⟨L,i,j⟩ D
  dsimp only at D
  have hl:=D.len;have u:=D.i0;have h1:=D.ij;have h2:=D.jl
  refine Zru l f _ _ _ _ _ ?_
  intro y1 aa y2 ab
  subst ab
  (simp only [iB,vcT,vcS])
  refine ⟨fun hj=> ?_,fun hj=> ?_⟩
  .have d:=D.next V0 ⟨0,Edit.nil⟩
   rw [<-aa] at d
   refine ⟨⟨V0,hj⟩,trivial,fun he=> ⟨⟨u,V0⟩,QQ _,V2,V2,(_,i+1,j+1),rfl,d.1 (by simpa using he),V5⟩,fun he=> ⟨V2,(L,i,j+1),rfl,d.2 (by simpa using he),V5⟩⟩
  .refine ⟨⟨u,V0⟩,QQ _,⟨u,by simp only [Qb,Qr,Xe];omega⟩,?_⟩
   rw [D.fin V0]
   simp only [Zha,Zc4,Zc7]
   exact V1
theorem ZBi{a b n m:Nat}(h1:a<=n)(h2:b<=m)(hn:n<=10000000000)(hm:m<=10000000000):InR ((a:Int)+(b:Int)):=V2
theorem ZFX{a b:Nat}(h:(a:Int)+(b:Int)=0):a+b=0:=V0
theorem ZFW{a b:Nat}(h:¬(a:Int)+(b:Int)=0):¬a+b=0:=V0
set_option maxHeartbeats 2000000 in
theorem ZDj:Contract Tryz.prog cfg 142 ZbT:=by
 refine ZxZ ZD6 ZD5 ?_
 intro ek eo ab u en d aa ew ec li s _ hp
 simp only [ZdV] at hp
 refine ZFp _ _ _ _ _ _ _ _ _ _ _ _ ?_
 (simp only [iB,vcT,vcS])
 refine ⟨by show ew.length<=_;omega,by show ec.length<=_;omega,ZBi (K1 _ _) (K1 _ _) hp.1 hp.2,fun h=> ?_,fun h=> ?_⟩
 .simp only [Zhf,Zc6,Zca]
  rw [show Z3b (Edit.mk ek (Tree.mk eo ab u) (Tree.mk en d aa) ew ec li s)=Edit.nil from if_pos (show (ew.filter fun w=> !decide (WEdit.mask w=0)).length+(ec.filter fun k=> !decide (Edit.kind (KidOf.e k)=0)).length=0 from ZFX h)]
  exact V1
 .simp only [Zhf,Zc6,Zca]
  rw [show Z3b (Edit.mk ek (Tree.mk eo ab u) (Tree.mk en d aa) ew ec li s)=Edit.mk ek (Tree.mk eo ab u) (Tree.mk en d aa) (ew.filter fun w=> !decide (WEdit.mask w=0)) (ec.filter fun k=> !decide (Edit.kind (KidOf.e k)=0)) li s from if_neg (show ¬(ew.filter fun w=> !decide (WEdit.mask w=0)).length+(ec.filter fun k=> !decide (Edit.kind (KidOf.e k)=0)).length=0 from ZFW h)]
  exact V1
theorem ZDg:Contract Tryz.prog cfg 146 ZbQ:=by
 refine ZxW ZD0 ?_
 intro list l _ d
 simp only [ZdU] at d
 refine ZFl _ _ _ ⟨d,fun h=> ?_,fun h=> ?_⟩
 .simp only [QN] at h
  simp only [Zhe,Z0y]
  rw [if_neg (by rw [h];decide)]
  exact V1
 .simp only [Xr] at h
  simp only [Zhe,Z0y]
  rw [if_pos h]
  exact V1
theorem ZDx:Contract Tryz.prog cfg 103 ZbZ:=by
 refine Zyf c25 ZbL ?_
 intro mc ma e o n _ hp
 simp only [Za4] at hp
 obtain ⟨he,ho,hn⟩:=hp
 refine ZFM _ _ _ _ _ _ ?_
 intro u h1 y2 d y3 h3 y4 h4
 subst h1 d h3
 (simp only [iB,vcT,vcS])
 have s:doB u y3=(y4,(doE false u y3).isSome):=by rw [h4];try rfl
 refine ⟨⟨he,ho⟩,fun h=> ?_,fun h=> ⟨⟨?_,by grind⟩,fun d=> ?_,fun d=> ?_⟩⟩
 .simp only [ZdD,Z8D,Z09,s,h,XP,Xx,Qx,Xg]
  exact V1
 .show Zj y4<=_
  rw [h4]
  exact ZlB he.2.2 ho.1
 .simp only [ZdD,Z8D,Z09,s,h,d,QB,Xu,Xx,Qx,Xg]
  exact V1
 .simp only [ZdD,Z8D,Z09,s,h,d,QB,Xu,Qx]
  exact V1
theorem Z99(l:List Tree):(Z4c l).length<=1:=by unfold Z4c;split <;> simp
theorem ZDh:Contract Tryz.prog cfg 144 ZbR:=by
 refine ZxX Zij ZD4 ZD3 ?_
 intro s sx sy h d mc ma _ hp
 simp only [ZhE] at hp
 obtain ⟨⟨h1,h2⟩,h3,h4⟩:=hp
 have k1:=Z6e h.length
 have k2:=Z6e d.length
 have k3:=Z99 h
 have k4:=Z99 d
 refine ZFn s _ _ _ _ _ _ _ ?_
 (simp only [iB,vcT,vcS])
 refine ⟨fun hb=> ⟨⟨by grind,by grind⟩,fun u=> ?_,fun u=> ?_⟩,fun hb=> ?_⟩
 .have e:JL h d=⟨JU d.length,JU h.length,true,false⟩:=by
   rw [JL,if_pos ⟨fun e=> by grind,fun e=> by grind⟩,Z7Q,u];try rfl
  refine ⟨trivial,V0,trivial,V0,?_⟩
  simp only [Z8z,e,Xg]
  exact V1
 .have e:JL h d=⟨JU d.length,JU h.length,false,false⟩:=by
   rw [JL,if_pos ⟨fun e=> by grind,fun e=> by grind⟩,Z7Q,u];try rfl
  refine ⟨trivial,V0,trivial,V0,?_⟩
  simp only [Z8z,e,Qx]
  exact V1
 .have e:JL h d=⟨Z4c h++JU d.length,JU h.length++Z4c d,false,false⟩:=by
   rw [JL,if_neg]
   rintro ⟨a,b⟩
   have:=XJ.2 a
   have:=XJ.2 b
   omega
  refine ⟨trivial,V0,trivial,by grind,trivial,V0,trivial,by grind,?_⟩
  simp only [Z8z,e,Qx,<-Qi]
  exact V1
theorem Zny(m:Int):0<=Z4z m/\Z4z m < 256:=by
 unfold Z4z
 have h:=(BitVec.ofInt (IntKind.bits .u8) 255 ^^^ BitVec.ofInt (IntKind.bits .u8) m).isLt
 have e:(2:Nat) ^ IntKind.bits .u8=256:=rfl
 rw [Z5C V0 V0]
 omega
theorem b66:ZGR:=by
 intro N mc ma p q _ hp hN
 obtain ⟨op,u⟩:=hp
 dsimp only at op u
 have ao:8*(Za p+Za q)+1 < N+1:=hN
 obtain ⟨dp,rp⟩:=op.2.2
 obtain ⟨dq,rq⟩:=u.2.2
 have d:=ZuN rp rq
 unfold Yo at d
 have lp:=Zgc p
 have lq:=Zgc q
 have gp:=Y0 op.2.1
 have gq:=Y0 u.2.1
 have cp:=Z5x p;have cq:=Z5x q;have ay:=op.1;have al:=u.1
 have fin:∀ {L:Lft} {s:LSt U},lbE p q=L->ZX cfg Tryz.f66.ntmps Tryz.f66.results.toList (.tup [(true,enc .edit L.x),(true,enc .edit L.y)]) [[.bool (mc || L.c),.bool (ma || L.a)]] .ret s->
   ZX cfg Tryz.f66.ntmps Tryz.f66.results.toList (Zjh ((mc,ma,()),p,q,())) (Zdv ((mc,ma,()),p,q,())) .ret s:=by
  intro L s h hs
  subst h
  exact hs
 have wh:∀ {e:Edit} {o n:Tree},Jx e->Zj o<=10000000000->rng o->Zj n<=10000000000->Za4 ((mc,ma,()),e,o,n,()):=by
  intro e o n he ho hr hn
  have:=Z10 he
  have:=he.1
  exact ⟨⟨V5,he.2⟩,⟨V5,hr⟩,V5⟩
 refine ZHb N mc ma p q _ ?_
 intro y1 h1 y2 h2 y3 h3 y4 h4 y5 h5 y6 h6
 replace h1:=h1.symm;replace h2:=h2.symm;replace h3:=h3.symm;replace h4:=h4.symm;replace h5:=h5.symm;replace h6:=h6.symm
 subst h1 h2 h3 h4 h5 h6
 (simp only [iB,vcT,vcS])
 refine ⟨fun h0=> ?_,fun h0=> ?_⟩
 .exact fin (by rw [d,if_pos h0]) (by simp only [Qx];(repeat' (first | exact trivial | exact rfl | apply And.intro)))
 rw [if_neg (by rintro (h | h);exact h0.1 h;exact h0.2 h)] at d
 refine ⟨fun p1=> ?_,fun p1=> ?_⟩
 .rw [if_pos p1] at d
  exact ⟨wh u V0 gp.1 V0,trivial,fin d V1⟩
 rw [if_neg p1] at d
 refine ⟨fun q1=> ?_,fun q1=> ?_⟩
 .rw [if_pos q1] at d
  exact ⟨wh op V0 gq.1 V0,trivial,fin d V1⟩
 rw [if_neg q1] at d
 refine ⟨fun hd=> ?_,fun hd=> ?_⟩
 .rw [Yu] at d
  exact ⟨trivial,fin d (by simp only [Qx,Xg];(repeat' (first | exact trivial | exact rfl | apply And.intro)))⟩
 rw [Jk] at d
 refine ⟨fun p2=> ?_,fun p2=> ?_⟩
 .rw [if_pos p2] at d
  exact ⟨⟨op,u,V5,V5⟩,by show 8*(Za p+Za q) < N;omega,fin d V1⟩
 .rw [if_neg p2] at d
  have kp:=(Zn rp).kind
  exact ⟨⟨op,u,V5,V5⟩,by show 8*(Za p+Za q) < N;omega,fin d V1⟩
theorem Zke(m h:List Tree):(JL m h).x.length<=2/\(JL m h).y.length<=2:=by
 unfold JL
 have:=Z6e m.length;have:=Z6e h.length;have:=Z99 m;have:=Z99 h
 grind
theorem Zls(f:Edit->Edit->Lft)(p q:Op):(ZE f p q).x.length<=1/\(ZE f p q).y.length<=1:=by
 unfold ZE
 grind
structure LInv (f:Edit->Edit->Lft) (mc ma:Bool) (ps:List Piece) (i:Int) (c a:Bool) (m h:List Tree) (x y:List Op):Prop where
 i0:0<=i
 il:i<=ps.length
 ec:(mc || (Z1n f ps [] []).c)=(c || (Z1n f (ps.drop i.toNat) m h).c)
 ea:(ma || (Z1n f ps [] []).a)=(a || (Z1n f (ps.drop i.toNat) m h).a)
 ex:(Z1n f ps [] []).x=x++(Z1n f (ps.drop i.toNat) m h).x
 ey:(Z1n f ps [] []).y=y++(Z1n f (ps.drop i.toNat) m h).y
 lx:(x.length:Int)<=3*i
 ly:(y.length:Int)<=3*i
 km:((Zd m:Nat):Int)+YS φC (Z6X (ps.drop i.toNat))<=YS φC (Z6X ps)
 kh:((Zd h:Nat):Int)+YS φC (Z6W (ps.drop i.toNat))<=YS φC (Z6W ps)
theorem cnn(o:Op):((Zd o.l:Nat):Int)<=φC o:=by unfold φC;have:=Zvu o.e;omega
theorem ZgI:∀ l:List Op,0<=YS φC l
 | []=> X7 _
 | o ::r=> by have:=ZgI r;have:=cnn o;simp only [YS];omega
theorem LInv.step{f:Edit->Edit->Lft}{mc ma:Bool}{ps:List Piece}{i:Int}{c a:Bool}{m h:List Tree}{x y:List Op}(H:LInv f mc ma ps i c a m h x y)(hi:i < ps.length)(z:Piece)(X:Piece)(hX:X=ps.getD i.toNat z):
  (X.of=1->LInv f mc ma ps (i+1) c a (m++X.p.l) h x y)/\(¬X.of=1->X.of=2->LInv f mc ma ps (i+1) c a m (h++X.q.l) x y)/\
  (¬X.of=1->¬X.of=2->LInv f mc ma ps (i+1) ((c || (JL m h).c) || (ZE f X.p X.q).c) (a || (ZE f X.p X.q).a) [] [] ((x++(JL m h).x)++(ZE f X.p X.q).x) ((y++(JL m h).y)++(ZE f X.p X.q).y)):=by
 have d:=YJ H.i0 hi z
 rw [<-hX] at d
 have h0:=H.i0
 obtain ⟨_,_,ec,ea,ex,ey,lx,ly,km,kh⟩:=H
 rw [d] at ec ea ex ey km kh
 simp only [Z1n] at ec ea ex ey
 simp only [Z6X,Z6W] at km kh
 have np:=cnn X.p;have nq:=cnn X.q
 refine ⟨fun e=> ?_,fun e1 e2=> ?_,fun e1 e2=> ?_⟩
 .rw [if_pos e] at ec ea ex ey
  rw [Jk,XF,YS] at km
  rw [if_pos e,QV] at kh
  exact ⟨V0,V0,ec,ea,ex,ey,V0,V0,by rw [YM];omega,kh⟩
 .rw [if_neg e1,if_pos e2] at ec ea ex ey
  rw [if_pos e2,QV] at km
  rw [if_neg e1,XF,YS] at kh
  exact ⟨V0,V0,ec,ea,ex,ey,V0,V0,km,by rw [YM];omega⟩
 .rw [if_neg e1,if_neg e2] at ec ea ex ey
  rw [if_neg e2,XF,YS] at km
  rw [if_neg e1,XF,YS] at kh
  simp only [PL.app] at ec ea ex ey
  obtain ⟨u,g2⟩:=Zke m h
  obtain ⟨g3,g4⟩:=Zls f X.p X.q
  have s:(JL m h).a=false:=by unfold JL;split <;> rfl
  rw [s,XX] at ea
  refine ⟨V0,V0,?_,?_,?_,?_,?_,?_,?_,?_⟩
  .grind
  .grind
  .grind
  .grind
  .grind
  .grind
  .simp only [Zd];omega
  .simp only [Zd];omega
theorem Zqc{p q:List Op}(hp:ZwQ p)(hq:ZwQ q){x:Piece}(h:POk2 p q x):(x.of≠2->ZgN x.p)/\(x.of≠1->ZgN x.q):=by
 refine ⟨fun e=> ?_,fun e=> ?_⟩
 .obtain ⟨a,b⟩:=h.pp e
  exact ⟨b,X5 (Zci a).1 hp.1,Zjw a b hp.2.1,Ze7 a hp.2.2⟩
 .obtain ⟨a,b⟩:=h.qq e
  exact ⟨b,X5 (Zci a).1 hq.1,Zjw a b hq.2.1,Ze7 a hq.2.2⟩
theorem ZDI:ZB1:=by
 intro N mc ma p q _ hp hN
 obtain ⟨op,oq,aj,al⟩:=hp
 dsimp only at op oq aj al
 have bc:8*(Za p+Za q) < N+1:=hN
 have ae:=Zng op
 have af:=Zng oq
 have kp:=ZAk ae
 have kq:=ZAk af
 have lp:=Zgc p
 have lq:=Zgc q
 obtain ⟨i1,_⟩:=ZfU _ p.ops q.ops [] (Qf _) kp.1 kq.1
 have fin:∀ {L:Lft} {s:LSt U},Z3o lbE p q=L->ZX cfg Tryz.f106.ntmps Tryz.f106.results.toList (.tup [(true,enc .edit L.x),(true,enc .edit L.y)]) [[.bool (mc || L.c),.bool (ma || L.a)]] .ret s->
   ZX cfg Tryz.f106.ntmps Tryz.f106.results.toList (ZdB ((mc,ma,()),p,q,())) (Z8B ((mc,ma,()),p,q,())) .ret s:=by
  intro L s h hs
  subst h
  exact hs
 refine ZFJ N mc ma p q _ ?_
 (simp only [iB,vcT,vcS])
 refine ⟨⟨kp,kq⟩,fun hb=> ⟨trivial,fin (by rw [Z3o,if_neg (by rw [hb];decide)]) (by simp only [Qx,Xg];(repeat' (first | exact trivial | exact rfl | apply And.intro)))⟩,fun hb=> ?_⟩
 obtain ⟨ps,e,ar,_,_⟩:=i1 hb
 obtain ⟨a2,e1,sp,sq,au⟩:=Ztl ZAP ZAP 2 _ p.ops q.ops [] (Qf _) kp.1 kq.1 hb
 rw [e,QV,QV] at e1
 subst e1
 rw [QV] at e
 have hL:Z3o lbE p q=⟨Z0y p.list (Z1n lbE ps [] []).x,Z0y p.list (Z1n lbE ps [] []).y,(Z1n lbE ps [] []).c,(Z1n lbE ps [] []).a⟩:=by rw [Z3o,if_pos hb,e]
 have c1:=ZkS p.ops;have c2:=ZkS q.ops;have c3:=ae.1;have c4:=af.1
 refine Ze (ι:=Int × Bool × Bool × List Tree × List Tree × List Op × List Op) (fun s=> Z2c mc ma p q s.1 s.2.1 s.2.2.1 s.2.2.2.1 s.2.2.2.2.1 s.2.2.2.2.2.1 s.2.2.2.2.2.2)
  (fun s=> LInv lbE mc ma ps s.1 s.2.1 s.2.2.1 s.2.2.2.1 s.2.2.2.2.1 s.2.2.2.2.2.1 s.2.2.2.2.2.2) (fun s=> ((ps.length:Int) - s.1).toNat) (0,mc,ma,[],[],[],[]) rfl
  ⟨by simp,by simp,by simp,by simp,by simp,by simp,by simp,by simp,by simp [Zd],by simp [Zd]⟩ ?_
 rintro ⟨i,c,a,m,h,x,y⟩ H
 dsimp only at H
 refine ZrT N mc ma p q _ _ _ _ _ _ _ _ _ ?_
 intro y1 h1 y2 h2 y3 h3 y4 h4 d h5 y6 h6 y7 h7
 rw [e] at h5 ⊢
 replace h6:=h6.symm;replace h7:=h7.symm
 have i0:=H.i0;have il:=H.il;have lx:=H.lx;have ly:=H.ly;have km:=H.km;have kh:=H.kh
 have n1:=ZgI (Z6X (ps.drop i.toNat));have n2:=ZgI (Z6W (ps.drop i.toNat))
 obtain ⟨g1,g2⟩:=Zke m h
 (simp only [iB,vcT,vcS])
 refine ⟨fun hi=> ?_,fun hi=> ?_⟩
 .obtain ⟨s1,s2,s3⟩:=H.step hi _ d h5
  have ai:d∈ps:=by rw [h5];exact Zo V0 _
  have u:=ar d ai
  obtain ⟨o1,o2⟩:=Zqc ae af u
  have bb:(Zd d.p.l:Int)<=9000000000:=by
   rcases u.of with h | h | h
   .have:=Z3m d.p;have:=(o1 V0).2.1;omega
   .have:=Z3m d.p;have:=(o1 V0).2.1;omega
   .rw [u.pn h];simp [Op.nil,Zd]
  have bg:(Zd d.q.l:Int)<=9000000000:=by
   rcases u.of with h | h | h
   .have:=Z3m d.q;have:=(o2 V0).2.1;omega
   .rw [u.qn h];simp [Op.nil,Zd]
   .have:=Z3m d.q;have:=(o2 V0).2.1;omega
  have q1:=Zs m;have q2:=Zs h;have q3:=Zs d.p.l;have q4:=Zs d.q.l
  refine ⟨⟨i0,hi⟩,fun f1=> ⟨V0,V2,(i+1,c,a,m++d.p.l,h,x,y),rfl,s1 f1,V5⟩,fun f1=> ⟨fun f2=> ⟨V0,V2,(i+1,c,a,m,h++d.q.l,x,y),rfl,s2 f1 f2,V5⟩,fun f2=> ?_⟩⟩
  have f0:d.of=0:=by rcases u.of with h | h | h <;> omega
  obtain ⟨b1,b2,b3⟩:=u.both f0
  have mp:=(Zci (u.pp f2).1).2
  have mq:=(Zci (u.qq f1).1).2
  rw [<-h6,<-h7]
  refine ⟨⟨⟨V5,V5⟩,V5,V5⟩,⟨⟨o1 f2,o2 f1,b3,b1,b2⟩,by simp only [List.length_append];omega,by simp only [List.length_append];omega⟩,by show 8*(Zy d.p+Zy d.q)+2 < N;omega,V2,
   (i+1,_,_,[],[],_,_),rfl,s3 f1 f2,V5⟩
 .have hd:ps.drop i.toNat=[]:=Qd V0
  have ec:=H.ec;have ea:=H.ea;have ex:=H.ex;have ey:=H.ey
  rw [hd] at ec ea ex ey
  simp only [Z1n] at ec ea ex ey
  have ga:(JL m h).a=false:=by unfold JL;split <;> rfl
  rw [ga,Qx] at ea
  refine ⟨⟨⟨V5,V5⟩,V5,V5⟩,by show (x++_).length<=_;rw [List.length_append];omega,by show (y++_).length<=_;rw [List.length_append];omega,fin hL ?_⟩
  dsimp only
  rw [ec,ea,ex,ey]
  subst h1 h2 h3 h4
  exact V1
theorem ZDD:ZAV:=by
 intro N aa sx sy si sh p q mc ma _ hp hN
 simp only [Za1] at hp
 obtain ⟨⟨⟨op,mp,gp,rp⟩,⟨oq,mq,gq,rq⟩,hl,p2,q2⟩,lx,ly⟩:=hp
 have a2:8*(Zy p+Zy q)+2 < N+1:=hN
 have ep:=Z2V p
 have eq:=Z2V q
 have ab:=Z1d gp
 have ah:=Z1d gq
 have ap:=Z3m p
 have aq:=Z3m q
 have kp:=J6 op
 have kq:=J6 oq
 have fin:∀ {L:PL} {s:LSt U},ZE lbE p q=L->ZX cfg Tryz.f145.ntmps Tryz.f145.results.toList (.tup []) [[.xp 1,.slice (U:=U) .op (sx++L.x) (.own (.x 0 1)),.slice (U:=U) .op (sy++L.y) (.own (.x 0 2)),.slice (U:=U) .tree si (.own (.x 0 3)),.slice (U:=U) .tree sh (.own (.x 0 4))],[.bool (mc || L.c),.bool (ma || L.a)]] .normal s->
   ZX cfg Tryz.f145.ntmps Tryz.f145.results.toList (Zdz ((aa,sx,sy,si,sh,()),p,q,(mc,ma,()),())) (Z8y ((aa,sx,sy,si,sh,()),p,q,(mc,ma,()),())) .normal s:=by
  intro L s h hs
  subst h
  exact hs
 have hc:=ZE.eq_1 lbE p q
 refine ZFm N aa sx sy si sh p q mc ma _ ?_
 intro d h1 y2 h2 y3 h3 y4 h4 y5 h5 y6 h6 y7 h7 y8 h8 y9 h9 bn a4 bp a5
 replace h3:=h3.symm;replace h4:=h4.symm
 subst h1 h2 h3 h4 h7 h8 h9 a4 a5
 simp only [Z1h]
 (simp only [iB,vcT,vcS])
 refine ⟨fun c1=> ?_,fun c1=> ?_⟩
 .rw [if_pos c1] at hc
  exact ⟨by grind,⟨V0,by grind⟩,V0,fin hc (by simp only [Qx,Qn];(repeat' (first | exact trivial | exact rfl | apply And.intro)))⟩
 rw [Jk] at hc
 refine ⟨fun c2=> ?_,fun c2=> ?_⟩
 .rw [if_pos c2] at hc
  exact ⟨by grind,⟨V0,by grind⟩,V0,fin hc (by simp only [Qx,Qn];(repeat' (first | exact trivial | exact rfl | apply And.intro)))⟩
 rw [Jk] at hc
 refine ⟨fun c3=> ?_,fun c3=> ?_⟩
 .rw [if_pos c3] at hc
  exact ⟨by grind,by grind,fin hc (by simp only [Qx];(repeat' (first | exact trivial | exact rfl | apply And.intro)))⟩
 rw [if_neg c3] at hc
 refine ⟨fun c4=> ?_,fun c4=> ?_⟩
 .rw [if_pos c4] at hc
  exact ⟨by grind,by grind,fin hc (by simp only [Qx];(repeat' (first | exact trivial | exact rfl | apply And.intro)))⟩
 rw [if_neg c4] at hc
 refine ⟨fun c5=> ⟨⟨by grind,by grind⟩,fun he=> ?_,fun he=> ?_⟩,fun c5=> ?_⟩
 .rw [if_pos c5,Z7Q,he] at hc
  exact fin hc (by simp only [Xx,Qx,Xg,Qn];(repeat' (first | exact trivial | exact rfl | apply And.intro)))
 .rw [if_pos c5,Z7Q,he] at hc
  exact fin hc (by simp only [Xu,Qx,Qn];(repeat' (first | exact trivial | exact rfl | apply And.intro)))
 rw [Jk] at hc
 refine ⟨fun c6=> ?_,fun c6=> ?_⟩
 .rw [if_pos c6] at hc
  have l1:=Z2q op (.inl c6)
  have l2:=Z0A (o:=y2) (by unfold kOk at kq;omega)
  have ae:0 < d.l.length:=V0
  have m3:y5∈d.l:=by rw [h5];exact Zo ae _
  have ay:=Jr m3
  have rk:Jx y2.e:=⟨V0,ah.2.2.2,rq (by unfold kOk at kq;omega)⟩
  have:=Z10 rk
  rw [show d.l.getD 0 Tree.nil=y5 from h5.symm] at hc
  exact ⟨⟨V0,V0⟩,⟨⟨by grind,rk.2⟩,by grind,YV ab.2.2.1 m3⟩,fin hc (by simp only [Xg,Qn];(repeat' (first | exact trivial | exact rfl | apply And.intro)))⟩
 rw [if_neg c6] at hc
 have u:d.kind=3:=by unfold kOk at kp;omega
 refine ⟨fun c7=> ?_,fun c7=> ?_⟩
 .rw [if_pos c7] at hc
  have l1:=Z2q oq (.inl c7)
  have l2:=Z0A (o:=d) u
  have ae:0 < y2.l.length:=V0
  have m3:y6∈y2.l:=by rw [h6];exact Zo ae _
  have ay:=Jr m3
  have rk:Jx d.e:=⟨V0,ab.2.2.2,rp u⟩
  have:=Z10 rk
  rw [show y2.l.getD 0 Tree.nil=y6 from h6.symm] at hc
  exact ⟨⟨V0,V0⟩,⟨⟨by grind,rk.2⟩,by grind,YV ah.2.2.1 m3⟩,fin hc (by simp only [Xg,Qn];(repeat' (first | exact trivial | exact rfl | apply And.intro)))⟩
 rw [if_neg c7] at hc
 have k1:Jx d.e:=⟨V0,ab.2.2.2,rp u⟩
 have k2:Jx y2.e:=⟨V0,ah.2.2.2,rq (by unfold kOk at kq;omega)⟩
 refine ⟨⟨k1,k2⟩,?_,trivial,by grind,trivial,by grind,fin hc V1⟩
 show 8*(Za d.e+Za y2.e)+1 < N
 rw [ZV,ZV] at a2
 omega
set_option maxHeartbeats 1000000 in
theorem ZDJ:ZB2:=by
 intro N u ma p q _ hp hN
 obtain ⟨op,oq,a0,av⟩:=hp
 dsimp only at op oq a0 av
 have bf:8*(Za p+Za q) < N+1:=hN
 have lp:=Zgc p
 have lq:=Zgc q
 have mp:=Z10 op
 have mq:=Z10 oq
 have wk:∀ {e:Edit},Jx e->∀ w∈e.words,wOk w:=by
  intro e h w hw
  obtain ⟨d,hr⟩:=h.2.2
  have a:=Z0k (Zn hr).words w hw
  exact ⟨(Y0 h.2.1).2.2.1 w hw,a.2.2.2.1,a.2.2.2.2⟩
 have kk:∀ {e:Edit},Jx e->∀ k∈e.kids,Jx k.e/\Za k.e < Za e:=by
  intro e h k hk
  obtain ⟨d,hr⟩:=h.2.2
  have c:=ZeW hk
  have:=Z5x e
  have:=h.1
  exact ⟨⟨V0,(Ys (Y0 h.2.1).2.2.2.1 hk).2,_,(Zv (Zn hr).kids k hk).2⟩,Yc hk⟩
 have bg:=Yz p.kids;have ba:=Yz q.kids
 have fin:∀ {L:Lft} {s:LSt U},Z4x lbE p q=L->ZX cfg Tryz.f105.ntmps Tryz.f105.results.toList (.tup [(true,enc .edit L.x),(true,enc .edit L.y)]) [[.bool (u || L.c),.bool (ma || L.a)]] .ret s->
   ZX cfg Tryz.f105.ntmps Tryz.f105.results.toList (ZdC ((u,ma,()),p,q,())) (Z8C ((u,ma,()),p,q,())) .ret s:=by
  intro L s h hs
  subst h
  exact hs
 refine ZFK N u ma p q _ ?_
 refine ⟨by show p.words.length<=_;omega,by show q.words.length<=_;omega,?_⟩
 let WI:=SInv WEdit.at_ Z0H Z0H (fun a b=> !Yw a b && Z0a a b) Yw u ma p.words q.words
 refine Ze (ι:=Int × Bool × Bool × List WEdit × List WEdit) (fun s=> Z6A u ma p q s.1 s.2.1 s.2.2.1 s.2.2.2.1 s.2.2.2.2)
  (fun s=> (0<=s.1/\s.1<=p.words.length)/\WI s.1.toNat 0 s.2.1 s.2.2.1 s.2.2.2.1 s.2.2.2.2) (fun s=> ((p.words.length:Int) - s.1).toNat) (0,u,ma,p.words,q.words) rfl ⟨⟨V0,V0⟩,SInv.init⟩ ?_
 rintro ⟨i,c,a,X,Y⟩ ⟨⟨i0,il⟩,H⟩
 dsimp only at i0 il H
 refine ZrX N u ma p q _ _ _ _ _ _ _ ?_
 dsimp only
 refine ⟨fun hi=> ?_,fun hi=> ?_⟩
 .replace hi:=of_decide_eq_true hi
  refine ⟨⟨i0,hi⟩,?_⟩
  refine Ze (ι:=Int × Bool × Bool × List WEdit × List WEdit) (fun s=> Z6z u ma p q i s.1 s.2.1 s.2.2.1 s.2.2.2.1 s.2.2.2.2)
   (fun s=> (0<=s.1/\s.1<=q.words.length)/\WI i.toNat s.1.toNat s.2.1 s.2.2.1 s.2.2.2.1 s.2.2.2.2) (fun s=> ((q.words.length:Int) - s.1).toNat) (0,c,a,X,Y) rfl ⟨⟨V0,V0⟩,H⟩ ?_
  clear H
  clear c a X Y
  rintro ⟨j,c,a,X,Y⟩ ⟨⟨j0,jl⟩,H⟩
  dsimp only at j0 jl H
  have lx:=H.lx
  have ly:=H.ly
  refine ZrW N u ma p q _ _ _ _ _ _ _ _ _ ?_
  intro y1 h1 y2 h2 y3 h3 y4 h4 y5 h5 y6 h6
  replace h3:=h3.symm;replace h4:=h4.symm
  subst h3 h4
  (simp only [iB,vcT,vcS])
  try dsimp only at*
  refine ⟨fun hj=> ⟨⟨j0,hj⟩,fun he=> ?_,fun he=> ?_⟩,fun hj=> ?_⟩
  .have st:=(H.step V0 V0 ⟨0,0,0,0⟩).1 (by grind)
   rw [<-h1,<-h2] at st
   have m1:y1∈p.words:=by rw [h1];exact Zo V0 _
   have m2:y2∈q.words:=by rw [h2];exact Zo V0 _
   subst h5 h6
   refine ⟨⟨wk op _ m1,wk oq _ m2⟩,⟨wk op _ m1,Zny _⟩,⟨i0,V0⟩,QQ _,⟨wk oq _ m2,Zny _⟩,⟨j0,V0⟩,QQ _,?_⟩
   refine ZiO N u ma p q _ _ _ _ _ _ _ _ _ _ ⟨V2,(j+1,_,_,_,_),rfl,⟨⟨V5,V5⟩,?_⟩,V5⟩
   rw [show (j+1).toNat=j.toNat+1 by omega]
   exact st
  .have st:=(H.step V0 V0 ⟨0,0,0,0⟩).2 (by grind)
   refine ZiO N u ma p q _ _ _ _ _ _ _ _ _ _ ⟨V2,(j+1,_,_,_,_),rfl,⟨⟨V5,V5⟩,?_⟩,V5⟩
   rw [show (j+1).toNat=j.toNat+1 by omega]
   exact st
  .refine ⟨V2,(i+1,_,_,_,_),rfl,⟨⟨V5,V5⟩,?_⟩,V5⟩
   rw [show (i+1).toNat=i.toNat+1 by omega]
   rw [show j.toNat=q.words.length by omega] at H
   exact H.next V0
 replace hi:=of_decide_eq_false hi
 rw [show i.toNat=p.words.length by omega] at H
 obtain ⟨ec,ea,eX,eY⟩:=H.fin
 refine ⟨by show p.kids.length<=_;omega,by show q.kids.length<=_;omega,?_⟩
 let KI:=SInv KidOf.at_ (fun a b:Kid=> ⟨a.at_,(lbE a.e b.e).x⟩) (fun b a:Kid=> ⟨b.at_,(lbE a.e b.e).y⟩) (fun a b=> (lbE a.e b.e).c) (fun a b=> (lbE a.e b.e).a) c a p.kids q.kids
 refine Ze (ι:=Int × Bool × Bool × List Kid × List Kid) (fun s=> Z6y u ma p q X Y s.1 s.2.1 s.2.2.1 s.2.2.2.1 s.2.2.2.2)
  (fun s=> (0<=s.1/\s.1<=p.kids.length)/\KI s.1.toNat 0 s.2.1 s.2.2.1 s.2.2.2.1 s.2.2.2.2) (fun s=> ((p.kids.length:Int) - s.1).toNat) (0,c,a,p.kids,q.kids) rfl ⟨⟨V0,V0⟩,SInv.init⟩ ?_
 clear H hi il i0
 rintro ⟨i,c1,a1,X1,Y1⟩ ⟨⟨i0,il⟩,H⟩
 dsimp only at i0 il H
 refine ZrV N u ma p q _ _ _ _ _ _ _ _ _ ?_
 intro z1 af z2 ae
 dsimp only at af ae ⊢
 refine ⟨fun hi=> ?_,fun hi=> ?_⟩
 .replace hi:=of_decide_eq_true hi
  refine ⟨⟨i0,hi⟩,?_⟩
  refine Ze (ι:=Int × Bool × Bool × List Kid × List Kid) (fun s=> Z6x u ma p q X Y i s.1 s.2.1 s.2.2.1 s.2.2.2.1 s.2.2.2.2)
   (fun s=> (0<=s.1/\s.1<=q.kids.length)/\KI i.toNat s.1.toNat s.2.1 s.2.2.1 s.2.2.2.1 s.2.2.2.2) (fun s=> ((q.kids.length:Int) - s.1).toNat) (0,c1,a1,X1,Y1) rfl ⟨⟨V0,V0⟩,H⟩ ?_
  clear H af ae
  clear c1 a1 X1 Y1
  rintro ⟨j,c1,a1,X1,Y1⟩ ⟨⟨j0,jl⟩,H⟩
  dsimp only at j0 jl H
  have lx:=H.lx
  have ly:=H.ly
  refine ZrU N u ma p q _ _ _ _ _ _ _ _ _ _ _ ?_
  intro y1 h1 y2 h2 y3 h3 y4 h4 y5 h5 y6 h6
  (simp only [iB,vcT,vcS])
  try dsimp only at*
  refine ⟨fun hj=> ⟨⟨j0,hj⟩,fun he=> ?_,fun he=> ?_⟩,fun hj=> ?_⟩
  .have st:=(H.step V0 V0 ⟨0,Edit.nil⟩).1 (by grind)
   have e1:=H.at_x (fun a b=> rfl) V0 ⟨0,Edit.nil⟩
   have e2:=H.at_y (fun a b=> rfl) V0 ⟨0,Edit.nil⟩
   rw [<-h1] at e1
   rw [<-h2] at e2
   rw [<-h1,<-h2] at st
   have m1:=kk op y1 (by grind)
   have m2:=kk oq y2 (by grind)
   subst h3 h4 h5 h6
   refine ⟨⟨m1.1,m2.1⟩,by show 8*(Za y1.e+Za y2.e)+1 < N;omega,⟨i0,V0⟩,QQ _,⟨j0,V0⟩,QQ _,?_⟩
   refine ZiN N u ma p q _ _ _ _ _ _ _ _ _ _ _ ⟨V2,(j+1,_,_,_,_),rfl,⟨⟨V5,V5⟩,?_⟩,V5⟩
   rw [show (j+1).toNat=j.toNat+1 by omega]
   grind
  .have st:=(H.step V0 V0 ⟨0,Edit.nil⟩).2 (by grind)
   refine ZiN N u ma p q _ _ _ _ _ _ _ _ _ _ _ ⟨V2,(j+1,_,_,_,_),rfl,⟨⟨V5,V5⟩,?_⟩,V5⟩
   rw [show (j+1).toNat=j.toNat+1 by omega]
   exact st
  .refine ⟨V2,(i+1,_,_,_,_),rfl,⟨⟨V5,V5⟩,?_⟩,V5⟩
   rw [show (i+1).toNat=i.toNat+1 by omega]
   rw [show j.toNat=q.kids.length by omega] at H
   exact H.next V0
 replace hi:=of_decide_eq_false hi
 rw [show i.toNat=p.kids.length by omega] at H
 have lx:=H.lx;have ly:=H.ly
 obtain ⟨a2,a3,a4,aw⟩:=H.fin
 have lX:X.length=p.words.length:=by rw [eX,Xj]
 have lY:Y.length=q.words.length:=by rw [eY,Xj]
 refine ⟨⟨by grind,by grind⟩,⟨by grind,by grind⟩,fin rfl ?_⟩
 have e1:(Z4x lbE p q).x=Z3b z1:=by rw [af,eX,a4];try rfl
 have e2:(Z4x lbE p q).y=Z3b z2:=by rw [ae,eY,aw];try rfl
 have e3:(u || (Z4x lbE p q).c)=c1:=by rw [a2,ec,XW];try rfl
 have e4:(ma || (Z4x lbE p q).a)=a1:=by rw [a3,ea,XW];try rfl
 rw [e1,e2,e3,e4]
 exact V1
theorem ZHB:Contract Tryz.prog cfg 66 Z9Q/\Contract Tryz.prog cfg 105 ZmR/\Contract Tryz.prog cfg 106 ZmQ/\Contract Tryz.prog cfg 145 ZmK:=
 Zxg ZbL ZDx ZDw Zij ZDn ZDm ZDl ZDk ZDj (ZDi ZvC) ZDh ZDg ZD2 ZD1 b66 ZDJ ZDI ZDD
theorem c66:Contract Tryz.prog cfg 66 Z9Q:=ZHB.1
noncomputable section
def Zw3:ArgL (Edit × Edit × Unit):=(.cons (aEl .edit) (.cons (aEl .edit) .nil))
def Ztg(a:Edit × Edit × Unit):Prop:=Zff a.1 a.2.1
def Znc(a:Edit × Edit × Unit):V U:= .tup [(true,(enc .edit ((lbN a.1 a.2.1).1))),(true,(enc .edit ((lbN a.1 a.2.1).2.1))),(false,[ci ((lbN a.1 a.2.1).2.2)])]
def Zdc:Fs U:=fs Zw3 (fun a=> [Ztg a]) Znc
def Zv8:List (FuncId × Fs U):=[(67,Z2e),(66,Z9Q)]
def ZCu:Zc U:=lvl [([2,3,4,5],[2,3,4,5]),([2,3,4,5,7],[2,3,4,5,11]),([4,5,7,8,9],[4,5,8,9,11]),([4,5,7,8,9,21],[4,5,8,9,11]),([4,5,6],[4,5]),([4,5,8,9,28],[4,5,8,9]),([4,5,6],[4,5]),([4,5,6],[4,5])]
abbrev A16(p:List Nat):=AW (Z1 Zv8) Tryz.f16 ZCu p
theorem ZHu(p q:Edit)(Q:QT)(h:∀ ae,ae=p->∀ aa,aa=q->∀ s,s=(Zi ae)->∀ d,d=(Zi aa)->∀ ab,ab=((lbE s d).x)->∀ u,u=((lbE s d).y)->((Z1C (ae,()))/\(Z1C (aa,()))/\(ZdH ((false,false,()),s,d,()))/\(iB (false || (lbE s d).a) ((Q .ret (L2 [pL 4,pL 5,pI 6 14] [(.loc 4,zc1),(.loc 5,zc1)]))) ((iB (false || (lbE s d).c) ((Q .ret (L2 [pL 4,pL 5,pI 6 13] [(.loc 4,zc1),(.loc 5,zc1)]))) ((Z1C (ab,()))/\(Z1C (u,()))/\(Q .ret (L2 [pL 4,pL 5,pI 6 0] [(.loc 4,(enc .edit (Zi ab))),(.loc 5,(enc .edit (Zi u)))])))))))):
  A16 [] (L2 [(0,.agg (enc .edit p)),(1,.agg (enc .edit q))] []) Q:=
 Eq.mpr V4 (h _ (Z6 _) _ (Z6 _) _ (Z6 _) _ (Z6 _) _ (Z6 _) _ (Z6 _))
def ZEn(p q:Edit):Prop:=AW (Z1 Zv8) Tryz.f16 ZCu [] (Zf (Zw3.can (p,q,())) []) (EQ Tryz.f16 (Znc (p,q,())) [])
theorem ZC7(c67:CT 67 Z2e)(c66:CT 66 Z9Q)(hb:∀ (p:Edit) (q:Edit) (_:Unit),Ztg (p,q,())->ZEn p q):CT 16 Zdc:=
 Z0 (l:=[(67,Z2e),(66,Z9Q)]) Zh rfl (⟨c67,c66,trivial⟩) ZCu Tryz.func16 rfl rfl 2 (fun _=> rfl) V3 (fun ⟨p,q,_⟩=> hb p q ())
end
theorem Z3h{e:Edit}(h:Jx e):Z1C (e,()):=by
 have:=Z10 h
 exact ⟨by grind,h.2.2⟩
set_option maxHeartbeats 1000000 in
theorem c16:Contract Tryz.prog cfg 16 Zdc:=by
 refine ZC7 Zmc.1 c66 ?_
 intro p q _ d
 have d:Zff p q:=d
 obtain ⟨⟨h1,h2⟩,h3,h4⟩:=Zhk d
 have fin:∀ {X Y:Edit} {n:Int} {s:LSt U},lbN p q=(X,Y,n)->ZX cfg Tryz.f16.ntmps Tryz.f16.results.toList (.tup [(true,enc .edit X),(true,enc .edit Y),(false,[.int .i64 n])]) [] .ret s->ZX cfg Tryz.f16.ntmps Tryz.f16.results.toList (Znc (p,q,())) [] .ret s:=by
  intro X Y n s h hs
  refine ZyC ?_ hs
  simp only [Znc]
  rw [h]
  try rfl
 have u:=lbN.eq_1 p q
 refine ZHu _ _ _ ?_
 intro y1 e1 y2 e2 y3 e3 y4 e4 y5 e5 y6 e6
 subst e1 e2
 rw [<-e3] at h1
 rw [<-e4] at h2
 rw [<-e3,<-e4] at h3 h4 u
 generalize hL:lbE y3 y4=L at h3 h4 u e5 e6 ⊢
 simp only [XX]
 refine ⟨Z3h d.1,Z3h d.2.1,⟨h1,h2⟩,fun ha=> fin (by rw [u,if_pos ha]) V1,fun ha=> ⟨fun hc=> fin (by rw [u,if_neg (by rw [ha];decide),if_pos hc]) V1,fun hc=> ⟨by rw [e5];exact Z3h h3,by rw [e6];exact Z3h h4,?_⟩⟩⟩
 exact fin (by rw [u,if_neg (by rw [ha];decide),if_neg (by rw [hc];decide),<-e5,<-e6]) V1
theorem ZhV{p q:Edit}(h:Zff p q):Jx (lbN p q).1/\Jx (lbN p q).2.1:=by
 obtain ⟨_,s,d⟩:=Zhk h
 unfold lbN
 split
 .exact ⟨Z2m,Z2m⟩
 .split
  .exact ⟨Z2m,Z2m⟩
  .exact ⟨Z1l s,Z1l d⟩
theorem ZeK{e:Edit}(h:Z0R e=true):Yn e=true:=by simp only [Z0R,Q4] at h;exact h.2
noncomputable section
def Z7c(e:Edit)(t:Tree):Prop:=(Za e<=20000000000/\Yp e/\∃ d,Z5 e d=true)/\Zj t+ctE e<=20000000000/\rng t
end
noncomputable section
structure HubT where
 now:Tree
 log:List Edit
structure DeskT where
 now:Tree
 version:Int
 pending:Edit
def ZN(e:Edit)(t:Tree):Tree × Int:=
 match doE false e t with
 | none=> (Tree.nil,13)
 | some u=> if Zb (Z3 u) 64=true then (Z3 u,0) else (Tree.nil,3)
def Z1z:List Edit->Edit->List Edit->Edit × List Edit × Int
 | [],e,out=> (Zi e,out,0)
 | x ::r,e,out=> if (lbN e x).2.2=0 then Z1z r (lbN e x).1 (out++[(lbN e x).2.1]) else (Edit.nil,[],(lbN e x).2.2)
def Zf2:List Edit->Edit->Prop
 | [],e=> Jx e
 | x ::r,e=> Zff e x/\((lbN e x).2.2=0->Zf2 r (lbN e x).1)
def Z1t(v:Int)(e:Edit)(h:HubT):Edit × List Edit × Int:=Z1z (h.log.drop v.toNat) e []
def Z4t:List Edit->Tree->Tree × Int
 | [],t=> (t,0)
 | m ::r,t=> if (ZN m t).2=0 then Z4t r (ZN m t).1 else ZN m t
def Zm8:List Edit->Tree->Prop
 | [],_=> True
 | m ::r,t=> Z7c m t/\((ZN m t).2=0->Zm8 r (ZN m t).1)
def ZaZ(v:Int)(e:Edit)(h:HubT):Bool:=decide (0<=v) && (decide (v<=h.log.length) && Z5 e 64)
def Zr(v:Int)(e:Edit)(h:HubT):HubT × Int × Int:=
 if ZaZ v e h=true then
  if (Z1t v e h).2.2=0 then
   if (ZN (Z1t v e h).1 h.now).2=0 then (⟨(ZN (Z1t v e h).1 h.now).1,h.log++[(Z1t v e h).1]⟩,(h.log.length:Int)+1,0)
   else (h,0,(ZN (Z1t v e h).1 h.now).2)
  else (h,0,(Z1t v e h).2.2)
 else (h,0,2)
def Z50(v:Int)(e:Edit)(h:HubT):Prop:=
 (Za e<=18000000000/\Yp e)/\(ZaZ v e h=true->Zf2 (h.log.drop v.toNat) e/\((Z1t v e h).2.2=0->Z7c (Z1t v e h).1 h.now))/\h.log.length<=1000000000
def ZfO(v:Int)(h:HubT):Bool:=decide (0<=v) && decide (v<=h.log.length)
def Z1B(v:Int)(h:HubT):List Edit × Int:=if ZfO v h=true then (h.log.drop v.toNat,0) else ([],2)
def Z1s(e:Edit)(d:DeskT):DeskT × Int:=
 if Z5 e 64=true then
  if (ZN e d.now).2=0 then
   if Z5 (Zi e) 64=true then (⟨(ZN e d.now).1,d.version,Zi e⟩,0) else (d,3)
  else (d,(ZN e d.now).2)
 else (d,2)
def Z0T(d:DeskT)(h:HubT):(DeskT × HubT) × Int:=
 if ZfO d.version h=true then
  if (Z1t d.version d.pending h).2.2=0 then
   if (Z4t (Z1t d.version d.pending h).2.1 d.now).2=0 then
    if (Z1t d.version d.pending h).1.kind=0 then ((⟨(Z4t (Z1t d.version d.pending h).2.1 d.now).1,d.version+((h.log.drop d.version.toNat).length:Int),(Z1t d.version d.pending h).1⟩,h),0)
    else if (Zr d.version d.pending h).2.2=0 then ((⟨(Z4t (Z1t d.version d.pending h).2.1 d.now).1,(Zr d.version d.pending h).2.1,Edit.nil⟩,(Zr d.version d.pending h).1),0)
    else ((d,(Zr d.version d.pending h).1),(Zr d.version d.pending h).2.2)
   else ((d,h),(Z4t (Z1t d.version d.pending h).2.1 d.now).2)
  else ((d,h),(Z1t d.version d.pending h).2.2)
 else ((d,h),2)
def ZgG(d:DeskT)(h:HubT):Prop:=
 (ZfO d.version h=true->Zf2 (h.log.drop d.version.toNat) d.pending/\((Z1t d.version d.pending h).2.2=0->Zm8 (Z1t d.version d.pending h).2.1 d.now))/\Z50 d.version d.pending h
def Z4S(a o n:Int):Edit:= .mk 2 Tree.nil Tree.nil [⟨a,1,o,n⟩] [] 0 []
end
noncomputable section
def ZvO:ArgL (List Edit × Unit):=(.cons (aSl .edit) .nil)
def Zjq(a:List Edit × Unit):Prop:=(a.1).length<=10000000000
def Zn9(a:List Edit × Unit):V U:= .c (sU .edit a.1 (.own (.r 0 0)))
def Z4H:Fs U:=fs ZvO (fun a=> [Zjq a]) Zn9
abbrev A84(p:List Nat):=AW (Z1 ZlW) Tryz.f84 Zux p
theorem ZH2(l:List Edit)(Q:QT)(h:(((l=[])->(Q .ret (L2 [(2,.c (.nils))] [])))/\(True->((([]:List Edit).length+l.length)*200<=140737488355328)/\(Q .ret (L2 [(2,.c (sU .edit (([]:List Edit)++l) (.own (.e 2 0))))] []))))):
  A84 [] (L2 [(0,.c (sU .edit l .unk))] []) Q:=
 Eq.mpr V4 h
def ZDV(l:List Edit):Prop:=AW (Z1 ZlW) Tryz.f84 Zux [] (Zf (ZvO.can (l,())) []) (EQ Tryz.f84 (Zn9 (l,())) [])
theorem ZBK(hb:∀ (l:List Edit) (_:Unit),Zjq (l,())->ZDV l):CT 84 Z4H:=
 Z0 (l:=[]) Zh rfl trivial Zux Tryz.func84 rfl rfl 1 (fun _=> rfl) V3 (fun ⟨l,_⟩=> hb l ())
end
structure St42 (s:Tree):Prop where
 r:Zb s 64=true
 g:rng s
 n:Z3 s=s
 m:Zj s<=10000000000
theorem St42.rt{s:Tree}(h:St42 s):RT_ s:=⟨⟨64,h.r⟩,h.g⟩
theorem Z1J{e:Edit}{s:Tree}(he:Jx e)(hs:St42 s):Z7c e s:=by
 have:=Z10 he
 have:=he.1
 have:=hs.m
 exact ⟨⟨V0,he.2⟩,V0,hs.g⟩
theorem c84:Contract Tryz.prog cfg 84 Z4H:=by
 refine ZBK ?_
 intro l _ d
 simp only [Zjq] at d
 refine ZH2 _ _ ⟨fun h=> ?_,fun _=> ⟨by simp only [Qh];omega,?_⟩⟩
 .subst h
  simp only [Zn9]
  exact V1
 .simp only [Zn9,QV]
  exact V1
noncomputable section
def ZfS(a:Tree × Unit):Prop:=(Zj a.1<=20000000000/\rng a.1)/\Zb a.1 64=true/\Tree.kind a.1≠10
def Zsu(a:Tree × Unit):List (C U):=(enc .tree (Z3 a.1)++[sU .edit ([]:List Edit) .unk])
def Z4K:Fs U:=fsN Zw0 (fun a=> [ZfS a]) Zsu
def Zmp:ArgM ((Int × List Int × List Tree × List Edit × Unit) × Unit):=(.obj 0 (.cons (JN .i64) (.cons (cSl .u64) (.cons (cSl .tree) (.cons (cSl .edit) .nil)))) .nil)
def ZfR(a:(Int × List Int × List Tree × List Edit × Unit) × Unit):Prop:=True
def Zss(a:(Int × List Int × List Tree × List Edit × Unit) × Unit):V U:= .tup [(true,(enc .tree (Tree.mk a.1.1 a.1.2.1 a.1.2.2.1))),(false,[ci ((a.1.2.2.2.1).length:Int)])]
def Zl3(a:(Int × List Int × List Tree × List Edit × Unit) × Unit):List (List (C U)):=[[ci a.1.1,sU .u64 a.1.2.1 .unk,sU .tree a.1.2.2.1 .unk,sU .edit a.1.2.2.2.1 .unk]]
def Z2f:Fs U:=fsX Zmp (fun a=> [ZfR a]) Zss Zl3
def Zjp(a:Edit × Tree × Unit):Prop:=Z7c a.1 a.2.1
def Zsk(a:Edit × Tree × Unit):V U:= .tup [(true,(enc .tree ((ZN a.1 a.2.1).1))),(false,[ci ((ZN a.1 a.2.1).2)])]
def Z2d:Fs U:=fs ZaF (fun a=> [Zjp a]) Zsk
def ZvM:ArgL (Edit × List Edit × Unit):=(.cons (aEl .edit) (.cons (aSl .edit) .nil))
def Znj(a:Edit × List Edit × Unit):Prop:=Zf2 a.2.1 a.1/\(a.2.1).length<=1000000000
def Zn7(a:Edit × List Edit × Unit):V U:= .tup [(true,(enc .edit ((Z1z a.2.1 a.1 []).1))),(false,[sU .edit ((Z1z a.2.1 a.1 []).2.1) (.own (.r 0 16))]),(false,[ci ((Z1z a.2.1 a.1 []).2.2)])]
def Z4G:Fs U:=fs ZvM (fun a=> [Znj a]) Zn7
def Zmm:ArgM ((Int × List Int × List Tree × List Edit × Unit) × Int × Unit):=(.obj 0 (.cons (JN .i64) (.cons (cSl .u64) (.cons (cSl .tree) (.cons (cSl .edit) .nil)))) (.cons (Yr .i64) .nil))
def Ztb(a:(Int × List Int × List Tree × List Edit × Unit) × Int × Unit):Prop:=(a.1.2.2.2.1).length<=1000000000
def Zsp(a:(Int × List Int × List Tree × List Edit × Unit) × Int × Unit):V U:= .tup [(false,[sU .edit ((Z1B a.2.1 (HubT.mk (Tree.mk a.1.1 a.1.2.1 a.1.2.2.1) a.1.2.2.2.1)).1) (.own (.r 0 0))]),(false,[ci ((Z1B a.2.1 (HubT.mk (Tree.mk a.1.1 a.1.2.1 a.1.2.2.1) a.1.2.2.2.1)).2)])]
def Z9T(a:(Int × List Int × List Tree × List Edit × Unit) × Int × Unit):List (List (C U)):=[[ci a.1.1,sU .u64 a.1.2.1 .unk,sU .tree a.1.2.2.1 .unk,sU .edit a.1.2.2.2.1 .unk]]
def Zd5:Fs U:=fsX Zmm (fun a=> [Ztb a]) Zsp Z9T
def Zmq:ArgM ((Int × List Int × List Tree × List Edit × Unit) × Int × Edit × Unit):=(.obj 0 (.cons (JN .i64) (.cons (cSl .u64) (.cons (cSl .tree) (.cons (cSl .edit) .nil)))) (.cons (Yr .i64) (.cons (aEl .edit) .nil)))
def Z8H(a:(Int × List Int × List Tree × List Edit × Unit) × Int × Edit × Unit):Prop:=Z50 a.2.1 a.2.2.1 (HubT.mk (Tree.mk a.1.1 a.1.2.1 a.1.2.2.1) a.1.2.2.2.1)
def Zst(a:(Int × List Int × List Tree × List Edit × Unit) × Int × Edit × Unit):V U:= .tup [(false,[ci ((Zr a.2.1 a.2.2.1 (HubT.mk (Tree.mk a.1.1 a.1.2.1 a.1.2.2.1) a.1.2.2.2.1)).2.1)]),(false,[ci ((Zr a.2.1 a.2.2.1 (HubT.mk (Tree.mk a.1.1 a.1.2.1 a.1.2.2.1) a.1.2.2.2.1)).2.2)])]
def Zl4(a:(Int × List Int × List Tree × List Edit × Unit) × Int × Edit × Unit):List (List (C U)):=[(enc .tree (HubT.now ((Zr a.2.1 a.2.2.1 (HubT.mk (Tree.mk a.1.1 a.1.2.1 a.1.2.2.1) a.1.2.2.2.1)).1))++[sU .edit (HubT.log ((Zr a.2.1 a.2.2.1 (HubT.mk (Tree.mk a.1.1 a.1.2.1 a.1.2.2.1) a.1.2.2.2.1)).1)) .unk])]
def Z4J:Fs U:=fsX Zmq (fun a=> [Z8H a]) Zst Zl4
def Zso(a:(Int × List Int × List Tree × List Edit × Unit) × Unit):List (C U):=([ci a.1.1,sU .u64 a.1.2.1 .unk,sU .tree a.1.2.2.1 .unk,ci ((a.1.2.2.2.1).length:Int),ci (Edit.kind (Edit.nil))]++enc .tree (Edit.old (Edit.nil))++enc .tree (Edit.new (Edit.nil))++[sU .wedit (Edit.words (Edit.nil)) .unk,sU .kid (Edit.kids (Edit.nil)) .unk,ci (Edit.list (Edit.nil)),sU .op (Edit.ops (Edit.nil)) .unk])
def Zd4:Fs U:=ZCG Zmp (fun a=> [ZfR a]) Zl3 Zso
def Zmn:ArgM ((Int × List Int × List Tree × Int × Int × Int × List Int × List Tree × Int × List Int × List Tree × List WEdit × List Kid × Int × List Op × Unit) × Unit):=(.obj 0 (.cons (JN .i64) (.cons (cSl .u64) (.cons (cSl .tree) (.cons (JN .i64) (.cons (JN .i64) (.cons (JN .i64) (.cons (cSl .u64) (.cons (cSl .tree) (.cons (JN .i64) (.cons (cSl .u64) (.cons (cSl .tree) (.cons (cSl .wedit) (.cons (cSl .kid) (.cons (JN .i64) (.cons (cSl .op) .nil))))))))))))))) .nil)
def Ztc(a:(Int × List Int × List Tree × Int × Int × Int × List Int × List Tree × Int × List Int × List Tree × List WEdit × List Kid × Int × List Op × Unit) × Unit):Prop:=True
def Zsq(a:(Int × List Int × List Tree × Int × Int × Int × List Int × List Tree × Int × List Int × List Tree × List WEdit × List Kid × Int × List Op × Unit) × Unit):V U:= .tup [(true,(enc .tree (Tree.mk a.1.1 a.1.2.1 a.1.2.2.1))),(false,[ci a.1.2.2.2.1]),(true,(enc .edit (Edit.mk a.1.2.2.2.2.1 (Tree.mk a.1.2.2.2.2.2.1 a.1.2.2.2.2.2.2.1 a.1.2.2.2.2.2.2.2.1) (Tree.mk a.1.2.2.2.2.2.2.2.2.1 a.1.2.2.2.2.2.2.2.2.2.1 a.1.2.2.2.2.2.2.2.2.2.2.1) a.1.2.2.2.2.2.2.2.2.2.2.2.1 a.1.2.2.2.2.2.2.2.2.2.2.2.2.1 a.1.2.2.2.2.2.2.2.2.2.2.2.2.2.1 a.1.2.2.2.2.2.2.2.2.2.2.2.2.2.2.1)))]
def Zl1(a:(Int × List Int × List Tree × Int × Int × Int × List Int × List Tree × Int × List Int × List Tree × List WEdit × List Kid × Int × List Op × Unit) × Unit):List (List (C U)):=[[ci a.1.1,sU .u64 a.1.2.1 .unk,sU .tree a.1.2.2.1 .unk,ci a.1.2.2.2.1,ci a.1.2.2.2.2.1,ci a.1.2.2.2.2.2.1,sU .u64 a.1.2.2.2.2.2.2.1 .unk,sU .tree a.1.2.2.2.2.2.2.2.1 .unk,ci a.1.2.2.2.2.2.2.2.2.1,sU .u64 a.1.2.2.2.2.2.2.2.2.2.1 .unk,sU .tree a.1.2.2.2.2.2.2.2.2.2.2.1 .unk,sU .wedit a.1.2.2.2.2.2.2.2.2.2.2.2.1 .unk,sU .kid a.1.2.2.2.2.2.2.2.2.2.2.2.2.1 .unk,ci a.1.2.2.2.2.2.2.2.2.2.2.2.2.2.1,sU .op a.1.2.2.2.2.2.2.2.2.2.2.2.2.2.2.1 .unk]]
def Zd6:Fs U:=fsX Zmn (fun a=> [Ztc a]) Zsq Zl1
def Zv1:List (FuncId × Fs U):=[(82,Z0s),(75,Js)]
def ZCn:Zc U:=lvl [([1],[1]),([1,10],[1]),([2],[]),([2],[14])]
abbrev A49(p:List Nat):=AW (Z1 Zv1) Tryz.f49 ZCn p
theorem ZHl(t:Tree)(Q:QT)(h:let z0:=Tree.mk t.kind t.words t.kids;let z1:= !(!(Zb z0 64));((ZfP (z0,()))/\(Tt z1)/\(Tt z1)/\((!(Zb z0 64))=false->z1=true)/\(iB (bif (!(Zb z0 64)) then true else (t.kind==10)) ((Q .ret (L2 [(2,.c (.nilp))] []))) ((Z1m (z0,()))/\(Q .ret (L2 [(2,.ptr (.loc 14) 0)] [(.loc 14,(enc .tree (Z3 z0)++[.nils]))])))))):
  A49 [] (L2 [(0,.agg (enc .tree t))] []) Q:=
 (Eq.mpr V4 h:)
abbrev ZEe(t:Tree):Prop:=AW (Z1 Zv1) Tryz.f49 ZCn [] (Zf (Zw0.can (t,())) []) (ZaG cfg Tryz.f49.ntmps Tryz.f49.results.toList [] (Zsu (t,())))
theorem ZBY(c82:CT 82 Z0s)(c75:CT 75 Js)(hb:∀ (t:Tree) (_:Unit),ZfS (t,())->ZEe t):CT 49 Z4K:=
 ZeY (l:=[(82,Z0s),(75,Js)]) Zh rfl (⟨c82,c75,trivial⟩) ZCn Tryz.func49 rfl rfl 1 (fun _=> rfl) V3 (fun ⟨t,_⟩=> hb t ())
def ZCl:Zc U:=lvk [([0,2],[2,((.x 0),[])]),([0,2,5],[2,((.x 0),[])]),([2,3],[2,((.x 0),[])]),([2,3],[2,((.x 0),[])])]
abbrev A51(p:List Nat):=AW (Z1 ZlW) Tryz.f51 ZCl p
theorem ZHj(hk:Int)(hw:List Int)(hc:List Tree)(hl:List Edit)(Q:QT)(h:(iB false ((Q .ret (L2 [pL 2,pI 3 0] [(.loc 2,[ci 0,.nils,.nils]),(.x 0,[ci hk,sU .u64 hw .unk,sU .tree hc .unk,sU .edit hl .unk])]))) ((Q .ret (L2 [pL 2,pI 3 (hl.length:Int)] [(.loc 2,[ci hk,sU .u64 hw .unk,sU .tree hc .unk]),(.x 0,[ci hk,sU .u64 hw .unk,sU .tree hc .unk,sU .edit hl .unk])]))))):
  A51 [] (L2 [(0,.ptr (.x 0) 0)] [(.x 0,[ci hk,sU .u64 hw .unk,sU .tree hc .unk,sU .edit hl .unk])]) Q:=
 (Eq.mpr V4 h:)
abbrev ZEc(hk:Int)(hw:List Int)(hc:List Tree)(hl:List Edit):Prop:=AW (Z1 ZlW) Tryz.f51 ZCl [] (Zf (Zmp.can ((hk,hw,hc,hl,()),())) (Zmp.canX ((hk,hw,hc,hl,()),()))) (EQ Tryz.f51 (Zss ((hk,hw,hc,hl,()),())) (Zl3 ((hk,hw,hc,hl,()),())))
theorem ZBW(hb:∀ (d:Int) (h:List Int) (hc:List Tree) (hl:List Edit) (_:Unit),ZfR ((d,h,hc,hl,()),())->ZEc d h hc hl):CT 51 Z2f:=
 Zq (l:=[]) Zh rfl trivial ZCl Tryz.func51 rfl rfl 1 (fun _=> rfl) V3 (fun ⟨⟨d,h,hc,hl,_⟩,_⟩=> hb d h hc hl ())
def ZuR:List (FuncId × Fs U):=[(25,Z0t),(82,Z0s)]
def ZCa:Zc U:=lvl [([2,3,4],[2,3,4]),([4,6,7],[4,6]),([4,6,14],[4,6]),([4,5],[4]),([4,6,18],[4,6]),([4,5],[4]),([4,5],[4])]
abbrev A94(p:List Nat):=AW (Z1 ZuR) Tryz.f94 ZCa p
theorem ZGY(e:Edit)(t:Tree)(Q:QT)(h:∀ d,d=e->∀ s,s=t->∀ u,u=(Z1o ((doE false d s).map Z3))->((Z3g (d,s,()))/\(iB (!((doE false d s).isSome)) ((Q .ret (L2 [pL 4,pI 5 13] [(.loc 4,[ci 0,.nils,.nils])]))) ((ZfP (u,()))/\(iB (!(Zb u 64)) ((Q .ret (L2 [pL 4,pI 5 3] [(.loc 4,[ci 0,.nils,.nils])]))) ((Q .ret (L2 [pL 4,pI 5 0] [(.loc 4,(enc .tree (Z1o ((doE false d s).map Z3))))])))))))):
  A94 [] (L2 [(0,.agg (enc .edit e)),(1,.agg (enc .tree t))] []) Q:=
 (Eq.mpr V4 (h _ (Z6 _) _ (Z7 _) _ (Z7 _)):)
abbrev ZDR(e:Edit)(t:Tree):Prop:=AW (Z1 ZuR) Tryz.f94 ZCa [] (Zf (ZaF.can (e,t,())) []) (EQ Tryz.f94 (Zsk (e,t,())) [])
theorem ZBG(c25:CT 25 Z0t)(c82:CT 82 Z0s)(hb:∀ (e:Edit) (t:Tree) (_:Unit),Zjp (e,t,())->ZDR e t):CT 94 Z2d:=
 Z0 (l:=[(25,Z0t),(82,Z0s)]) Zh rfl (⟨c25,c82,trivial⟩) ZCa Tryz.func94 rfl rfl 2 (fun _=> rfl) V3 (fun ⟨e,t,_⟩=> hb e t ())
def ZlS:List (FuncId × Fs U):=[(16,Zdc),(67,Z2e)]
def Zyi:Zc U:=lvk [([1,2,4],[2,4]),([1,2,4,7],[2,4]),([2,4,(7,[.own .edit]),13,14,15],[2,4]),([2,4,7,13,14,15,16],[2,4]),([2,4,7,9,13,14,15],[2,4,9]),([2,4,7,10,11,12,13,14,15],[2,4,10,11]),([2,4,7,10,11,12,13,14,15,27],[2,4,10,11]),([4,5,6],[4]),([2,4,7,13,14,15],[2,4]),([2,4,(7,[.own .edit]),13,14,15],[2,4]),([4,5,6],[4])]
def Z9a(e:Edit)(l:List Edit)(ak ai u:Int)(s:List Int)(ab:List Tree)(af:Int)(ah:List Int)(aj:List Tree)(h:List WEdit)(ae:List Kid)(aa:Int)(d:List Op)(x7:List Edit):LSt U:=(L2 [pL 2,pL 4,(7,.c (sU .edit x7 (.own (.e 7 0)))),(13,.c (sU .edit l .unk)),pI 14 (l.length:Int),pI 15 ak] [(.loc 2,[ci ai,ci u,sU .u64 s .unk,sU .tree ab .unk,ci af,sU .u64 ah .unk,sU .tree aj .unk,sU .wedit h .unk,sU .kid ae .unk,ci aa,sU .op d .unk]),(.loc 4,zc1)])
abbrev A93(p:List Nat):=AW (Z1 ZlS) Tryz.f93 Zyi p
abbrev S93(p:List Nat):=SW (Z1 ZlS) Tryz.f93 Zyi p
theorem ZGZ(e:Edit)(l:List Edit)(Q:QT)(h:(Zp (A93 [1,1,0,1,0,0]) (Z9a e l 0 e.kind e.old.kind e.old.words e.old.kids e.new.kind e.new.words e.new.kids e.words e.kids e.list e.ops []) (xB 0 (S93 [1,1,1] Q)))):
  A93 [] (L2 [(0,.agg (enc .edit e)),(1,.c (sU .edit l .unk))] []) Q:=
 (Eq.mpr V4 h:)
theorem Zwo(e:Edit)(l:List Edit)(u am af:Int)(ae:List Int)(ai:List Tree)(ak:Int)(al:List Int)(ao:List Tree)(ab:List WEdit)(aj:List Kid)(ah:Int)(aa:List Op)(x7:List Edit)(N0:NT)(Q:QT)(h:∀ ar,ar=(l.getD u.toNat Edit.nil)->∀ d,d=(Edit.mk am (Tree.mk af ae ai) (Tree.mk ak al ao) ab aj ah aa)->∀ s,s=ar->∀ aq,aq=((lbN d s).2.1)->let z1:=Edit.new ((lbN d s).1);let z0:=Edit.old ((lbN d s).1);(iB (decide (u < (l.length:Int))) (((0:Int)<=u/\u < (l.length:Int))/\((Ztg (d,s,()))/\(iB ((((lbN d s).2.2):Int) !=0) ((Q .ret (L2 [pL 4,(5,.c (.nils)),pI 6 ((lbN d s).2.2)] [(.loc 4,zc1)]))) (((x7.length+([aq]).length)*200<=140737488355328)/\((InR (u+1))/\(N0 (Z9a e l (u+1) (Edit.kind ((lbN d s).1)) (Tree.kind z0) (Tree.words z0) (Tree.kids z0) (Tree.kind z1) (Tree.words z1) (Tree.kids z1) (Edit.words ((lbN d s).1)) (Edit.kids ((lbN d s).1)) (Edit.list ((lbN d s).1)) (Edit.ops ((lbN d s).1)) (x7++([aq]))))))))) ((Z1C (d,()))/\(Q .ret (L2 [pL 4,(5,.c (sU .edit x7 (.own (.e 5 0)))),pI 6 0] [(.loc 4,(enc .edit (Zi d)))]))))):
  A93 [1,1,0,1,0,0] (Z9a e l u am af ae ai ak al ao ab aj ah aa x7) (xT N0 (xB 0 (S93 [1,1,1] Q))):=
 (Eq.mpr V4 (h _ rfl _ rfl _ (Z6 _) _ (Z6 _)):)
abbrev ZDS(e:Edit)(l:List Edit):Prop:=AW (Z1 ZlS) Tryz.f93 Zyi [] (Zf (ZvM.can (e,l,())) []) (EQ Tryz.f93 (Zn7 (e,l,())) [])
theorem ZBH(c16:CT 16 Zdc)(c67:CT 67 Z2e)(hb:∀ (e:Edit) (l:List Edit) (_:Unit),Znj (e,l,())->ZDS e l):CT 93 Z4G:=
 Z0 (l:=[(16,Zdc),(67,Z2e)]) Zh rfl (⟨c16,c67,trivial⟩) Zyi Tryz.func93 rfl rfl 2 (fun _=> rfl) V3 (fun ⟨e,l,_⟩=> hb e l ())
def ZuX:List (FuncId × Fs U):=[(84,Z4H)]
def ZCj:Zc U:=lvk [([0,1],[((.x 0),[])]),([0,1,6],[((.x 0),[])]),([4,5],[((.x 0),[])]),([0,1,9],[((.x 0),[])]),([4,5],[((.x 0),[])]),([4,5],[((.x 0),[])])]
abbrev A60(p:List Nat):=AW (Z1 ZuX) Tryz.f60 ZCj p
theorem ZHg(hk:Int)(hw:List Int)(hc:List Tree)(hl:List Edit)(v:Int)(Q:QT)(h:let z0:= !(decide (v < 0));(iB false ((Q .ret (L2 [(4,.c (.nils)),pI 5 1] [(.x 0,[ci hk,sU .u64 hw .unk,sU .tree hc .unk,sU .edit hl .unk])]))) ((Tt z0)/\(Tt z0)/\(Tt z0)/\(Tt z0)/\(Tt z0)/\(Tt z0)/\((decide (v < 0))=false->z0=true)/\(iB (bif (decide (v < 0)) then true else (decide (((hl.length:Int):Int) < v))) ((Q .ret (L2 [(4,.c (.nils)),pI 5 2] [(.x 0,[ci hk,sU .u64 hw .unk,sU .tree hc .unk,sU .edit hl .unk])]))) (((0:Int)<=v/\v<=(hl.length:Int))/\(Zjq ((List.drop v.toNat hl),()))/\(Q .ret (L2 [(4,.c (sU .edit (List.drop v.toNat hl) (.own (.e 4 0)))),pI 5 0] [(.x 0,[ci hk,sU .u64 hw .unk,sU .tree hc .unk,sU .edit hl .unk])]))))))):
  A60 [] (L2 [(0,.ptr (.x 0) 0),pI 1 v] [(.x 0,[ci hk,sU .u64 hw .unk,sU .tree hc .unk,sU .edit hl .unk])]) Q:=
 (Eq.mpr V4 h:)
abbrev ZE9(hk:Int)(hw:List Int)(hc:List Tree)(hl:List Edit)(v:Int):Prop:=AW (Z1 ZuX) Tryz.f60 ZCj [] (Zf (Zmm.can ((hk,hw,hc,hl,()),v,())) (Zmm.canX ((hk,hw,hc,hl,()),v,()))) (EQ Tryz.f60 (Zsp ((hk,hw,hc,hl,()),v,())) (Z9T ((hk,hw,hc,hl,()),v,())))
theorem ZBT(c84:CT 84 Z4H)(hb:∀ (d:Int) (h:List Int) (hc:List Tree) (hl:List Edit) (v:Int) (_:Unit),Ztb ((d,h,hc,hl,()),v,())->ZE9 d h hc hl v):CT 60 Zd5:=
 Zq (l:=[(84,Z4H)]) Zh rfl (⟨c84,trivial⟩) ZCj Tryz.func60 rfl rfl 2 (fun _=> rfl) V3 (fun ⟨⟨d,h,hc,hl,_⟩,v,_⟩=> hb d h hc hl v ())
def Zv0:List (FuncId × Fs U):=[(28,Z4L),(93,Z4G),(94,Z2d),(84,Z4H)]
def ZCm:Zc U:=lvk [([0,1,5],[5,((.x 0),[])]),([0,1,5,12],[5,((.x 0),[])]),([6,7],[((.x 0),[])]),([0,1,5,15],[5,((.x 0),[])]),([6,7],[((.x 0),[])]),([0,8,10],[8,((.x 0),[])]),([0,8,10,45],[8,((.x 0),[])]),([6,7],[((.x 0),[])]),([0,8,10,11],[8,11,((.x 0),[])]),([0,8,10,11,57],[8,11,((.x 0),[])]),([6,7],[((.x 0),[])]),([0],[((.x 0),[])]),([6,7],[((.x 0),[])])]
abbrev A50(p:List Nat):=AW (Z1 Zv0) Tryz.f50 ZCm p
theorem ZHk(hk:Int)(hw:List Int)(hc:List Tree)(hl:List Edit)(v:Int)(e:Edit)(Q:QT)(h:∀ d,d=e->∀ s,s=((Z1z (List.drop v.toNat hl) d []).1)->let z3:=List.drop v.toNat hl;let z2:=ZN s (Tree.mk hk hw hc);let z1:= !(decide (v < 0));let z0:=bif (decide (v < 0)) then true else (decide (((hl.length:Int):Int) < v));(iB false ((Q .ret (L2 [pI 6 0,pI 7 1] [(.x 0,[ci hk,sU .u64 hw .unk,sU .tree hc .unk,sU .edit hl .unk])]))) ((Tt z1)/\(Tt z1)/\(Tt z1)/\(Tt z1)/\(Tt z1)/\(Tt z1)/\((decide (v < 0))=false->z1=true)/\(Tt (!z0))/\((!z0)=true->ZfT (d,()))/\(Tt (!z0))/\(z0=false->(!z0)=true)/\(iB (bif z0 then true else (!(Z5 d 64))) ((Q .ret (L2 [pI 6 0,pI 7 2] [(.x 0,[ci hk,sU .u64 hw .unk,sU .tree hc .unk,sU .edit hl .unk])]))) (((0:Int)<=v/\v<=(hl.length:Int))/\(Znj (d,z3,()))/\(iB ((((Z1z z3 d []).2.2):Int) !=0) ((Q .ret (L2 [pI 6 0,pI 7 ((Z1z z3 d []).2.2)] [(.x 0,[ci hk,sU .u64 hw .unk,sU .tree hc .unk,sU .edit hl .unk])]))) ((Zjp (s,(Tree.mk hk hw hc),()))/\(iB (((z2.2):Int) !=0) ((Q .ret (L2 [pI 6 0,pI 7 (z2.2)] [(.x 0,[ci hk,sU .u64 hw .unk,sU .tree hc .unk,sU .edit hl .unk])]))) ((Zjq (hl,()))/\((hl.length+([s]).length)*200<=140737488355328)/\(Q .ret (L2 [pI 6 ((hl++([s])).length:Int),pI 7 0] [(.x 0,(enc .tree (z2.1)++[sU .edit (hl++([s])) (.own (.x 0 3))]))]))))))))))):
  A50 [] (L2 [(0,.ptr (.x 0) 0),pI 1 v,(2,.agg (enc .edit e))] [(.x 0,[ci hk,sU .u64 hw .unk,sU .tree hc .unk,sU .edit hl .unk])]) Q:=
 (Eq.mpr V4 (h _ (Z6 _) _ (Z6 _)):)
abbrev ZEd(hk:Int)(hw:List Int)(hc:List Tree)(hl:List Edit)(v:Int)(e:Edit):Prop:=AW (Z1 Zv0) Tryz.f50 ZCm [] (Zf (Zmq.can ((hk,hw,hc,hl,()),v,e,())) (Zmq.canX ((hk,hw,hc,hl,()),v,e,()))) (EQ Tryz.f50 (Zst ((hk,hw,hc,hl,()),v,e,())) (Zl4 ((hk,hw,hc,hl,()),v,e,())))
theorem ZBX(c28:CT 28 Z4L)(c93:CT 93 Z4G)(c94:CT 94 Z2d)(c84:CT 84 Z4H)(hb:∀ (d:Int) (h:List Int) (hc:List Tree) (hl:List Edit) (v:Int) (e:Edit) (_:Unit),Z8H ((d,h,hc,hl,()),v,e,())->ZEd d h hc hl v e):CT 50 Z4J:=
 Zq (l:=[(28,Z4L),(93,Z4G),(94,Z2d),(84,Z4H)]) Zh rfl (⟨c28,c93,c94,c84,trivial⟩) ZCm Tryz.func50 rfl rfl 3 (fun _=> rfl) V3 (fun ⟨⟨d,h,hc,hl,_⟩,v,e,_⟩=> hb d h hc hl v e ())
def ZuW:List (FuncId × Fs U):=[(51,Z2f)]
def ZCi:Zc U:=lvk [([0],[((.x 0),[])]),([0,6],[((.x 0),[])]),([2],[((.x 0),[])]),([3,4],[3,((.x 0),[])]),([2],[15,((.x 0),[])])]
abbrev A61(p:List Nat):=AW (Z1 ZuW) Tryz.f61 ZCi p
theorem ZHf(hk:Int)(hw:List Int)(hc:List Tree)(hl:List Edit)(Q:QT)(h:(iB false ((Q .ret (L2 [(2,.c (.nilp))] [(.x 0,[ci hk,sU .u64 hw .unk,sU .tree hc .unk,sU .edit hl .unk])]))) ((ZfR ((hk,hw,hc,hl,()),()))/\(Q .ret (L2 [(2,.ptr (.loc 15) 0)] [(.loc 15,(enc .tree (Tree.mk hk hw hc)++[ci (hl.length:Int),ci 0,ci 0,.nils,.nils,ci 0,.nils,.nils,.nils,.nils,ci 0,.nils])),(.x 0,[ci hk,sU .u64 hw .unk,sU .tree hc .unk,sU .edit hl .unk])]))))):
  A61 [] (L2 [(0,.ptr (.x 0) 0)] [(.x 0,[ci hk,sU .u64 hw .unk,sU .tree hc .unk,sU .edit hl .unk])]) Q:=
 (Eq.mpr V4 h:)
abbrev ZE8(hk:Int)(hw:List Int)(hc:List Tree)(hl:List Edit):Prop:=AW (Z1 ZuW) Tryz.f61 ZCi [] (Zf (Zmp.can ((hk,hw,hc,hl,()),())) (Zmp.canX ((hk,hw,hc,hl,()),()))) (ZaG cfg Tryz.f61.ntmps Tryz.f61.results.toList (Zl3 ((hk,hw,hc,hl,()),())) (Zso ((hk,hw,hc,hl,()),())))
theorem ZBS(c51:CT 51 Z2f)(hb:∀ (d:Int) (h:List Int) (hc:List Tree) (hl:List Edit) (_:Unit),ZfR ((d,h,hc,hl,()),())->ZE8 d h hc hl):CT 61 Zd4:=
 ZbJ (l:=[(51,Z2f)]) Zh rfl (⟨c51,trivial⟩) ZCi Tryz.func61 rfl rfl 1 (fun _=> rfl) V3 (fun ⟨⟨d,h,hc,hl,_⟩,_⟩=> hb d h hc hl ())
def ZCk:Zc U:=lvk [([0,2,4],[2,4,((.x 0),[])]),([0,2,4,6],[2,4,((.x 0),[])]),([2,3,4],[2,4,((.x 0),[])]),([2,3,4],[2,4,((.x 0),[])])]
abbrev A59(p:List Nat):=AW (Z1 ZlW) Tryz.f59 ZCk p
theorem ZHh(dk:Int)(dw:List Int)(dc:List Tree)(dv ek eo:Int)(eow:List Int)(eok:List Tree)(en:Int)(enw:List Int)(enk:List Tree)(ew:List WEdit)(ec:List Kid)(li:Int)(eos:List Op)(Q:QT)(h:(iB false ((Q .ret (L2 [pL 2,pI 3 0,pL 4] [(.loc 2,[ci 0,.nils,.nils]),(.loc 4,zc1),(.x 0,[ci dk,sU .u64 dw .unk,sU .tree dc .unk,ci dv,ci ek,ci eo,sU .u64 eow .unk,sU .tree eok .unk,ci en,sU .u64 enw .unk,sU .tree enk .unk,sU .wedit ew .unk,sU .kid ec .unk,ci li,sU .op eos .unk])]))) ((Q .ret (L2 [pL 2,pI 3 dv,pL 4] [(.loc 2,[ci dk,sU .u64 dw .unk,sU .tree dc .unk]),(.loc 4,[ci ek,ci eo,sU .u64 eow .unk,sU .tree eok .unk,ci en,sU .u64 enw .unk,sU .tree enk .unk,sU .wedit ew .unk,sU .kid ec .unk,ci li,sU .op eos .unk]),(.x 0,[ci dk,sU .u64 dw .unk,sU .tree dc .unk,ci dv,ci ek,ci eo,sU .u64 eow .unk,sU .tree eok .unk,ci en,sU .u64 enw .unk,sU .tree enk .unk,sU .wedit ew .unk,sU .kid ec .unk,ci li,sU .op eos .unk])]))))):
  A59 [] (L2 [(0,.ptr (.x 0) 0)] [(.x 0,[ci dk,sU .u64 dw .unk,sU .tree dc .unk,ci dv,ci ek,ci eo,sU .u64 eow .unk,sU .tree eok .unk,ci en,sU .u64 enw .unk,sU .tree enk .unk,sU .wedit ew .unk,sU .kid ec .unk,ci li,sU .op eos .unk])]) Q:=
 (Eq.mpr V4 h:)
abbrev ZEa(dk:Int)(dw:List Int)(dc:List Tree)(dv ek eo:Int)(eow:List Int)(eok:List Tree)(en:Int)(enw:List Int)(enk:List Tree)(ew:List WEdit)(ec:List Kid)(li:Int)(eos:List Op):Prop:=AW (Z1 ZlW) Tryz.f59 ZCk [] (Zf (Zmn.can ((dk,dw,dc,dv,ek,eo,eow,eok,en,enw,enk,ew,ec,li,eos,()),())) (Zmn.canX ((dk,dw,dc,dv,ek,eo,eow,eok,en,enw,enk,ew,ec,li,eos,()),()))) (EQ Tryz.f59 (Zsq ((dk,dw,dc,dv,ek,eo,eow,eok,en,enw,enk,ew,ec,li,eos,()),())) (Zl1 ((dk,dw,dc,dv,ek,eo,eow,eok,en,enw,enk,ew,ec,li,eos,()),())))
theorem ZBU(hb:∀ (dk:Int) (dw:List Int) (dc:List Tree) (dv:Int) (ek:Int) (eo:Int) (aa:List Int) (s:List Tree) (en:Int) (d:List Int) (u:List Tree) (ew:List WEdit) (ec:List Kid) (li:Int) (h:List Op) (_:Unit),Ztc ((dk,dw,dc,dv,ek,eo,aa,s,en,d,u,ew,ec,li,h,()),())->ZEa dk dw dc dv ek eo aa s en d u ew ec li h):CT 59 Zd6:=
 Zq (l:=[]) Zh rfl trivial ZCk Tryz.func59 rfl rfl 1 (fun _=> rfl) V3 (fun ⟨⟨dk,dw,dc,dv,ek,eo,aa,s,en,d,u,ew,ec,li,h,_⟩,_⟩=> hb dk dw dc dv ek eo aa s en d u ew ec li h ())
end
theorem Zgk{e:Edit}{s:Tree}(h:doE false e s=none):ZN e s=(Tree.nil,13):=by unfold ZN;rw [h]
theorem Z9z{e:Edit}{s u:Tree}(h:doE false e s=some u)(hr:Zb (Z3 u) 64=true):ZN e s=(Z3 u,0):=by
 unfold ZN
 rw [h]
 exact if_pos hr
theorem Zkn{e:Edit}{s u:Tree}(h:doE false e s=some u)(hr:¬Zb (Z3 u) 64=true):ZN e s=(Tree.nil,3):=by
 unfold ZN
 rw [h]
 exact if_neg hr
theorem Zvn{e:Edit}{s:Tree}(h:(ZN e s).2=0):∃ u,doE false e s=some u/\Zb (Z3 u) 64=true/\ZN e s=(Z3 u,0):=by
 cases hu:doE false e s with
 | none=> rw [Zgk hu] at h;cases h
 | some u=>
  by_cases hr:Zb (Z3 u) 64=true
  .exact ⟨u,rfl,hr,Z9z hu hr⟩
  .rw [Zkn hu hr] at h;cases h
theorem Zm7{e f:Edit}{s t u v:Tree}(h1:doE false e s=some u)(h2:doE false f t=some v)(h:Eqv u v):ZN e s=ZN f t:=by
 have h:Z3 u=Z3 v:=h
 unfold ZN
 rw [h1,h2]
 dsimp only
 rw [h]
theorem ZnY(p q:Edit):lbN p (Zi q)=lbN p q:=by unfold lbN;rw [Z3j]
theorem Z7r{p:Edit}{n:Tree}(rp:Z5 p 64=true):Zr 0 p ⟨n,[]⟩=if (ZN (Zi p) n).2=0 then (⟨(ZN (Zi p) n).1,[Zi p]⟩,1,0) else (⟨n,[]⟩,0,(ZN (Zi p) n).2):=by
 unfold Zr
 have e:Z1t 0 p ⟨n,[]⟩=(Zi p,[],0):=rfl
 rw [if_pos (by simp [ZaZ,rp]),e,if_pos rfl]
 try rfl
theorem Z4Z{q x:Edit}{w:Tree}(rq:Z5 q 64=true):Zr 0 q ⟨w,[x]⟩=if (lbN q x).2.2=0 then
  if (ZN (Zi (lbN q x).1) w).2=0 then (⟨(ZN (Zi (lbN q x).1) w).1,[x,Zi (lbN q x).1]⟩,2,0) else (⟨w,[x]⟩,0,(ZN (Zi (lbN q x).1) w).2) else (⟨w,[x]⟩,0,(lbN q x).2.2):=by
 unfold Zr
 have e:Z1t 0 q ⟨w,[x]⟩=if (lbN q x).2.2=0 then (Zi (lbN q x).1,[(lbN q x).2.1],0) else (Edit.nil,[],(lbN q x).2.2):=rfl
 rw [if_pos (by simp [ZaZ,rq]),e]
 by_cases h:(lbN q x).2.2=0
 .rw [if_pos h,if_pos h,if_pos rfl];try rfl
 .rw [if_neg h,if_neg h,if_neg h]
structure G43 (e:Edit):Prop where
 r:Z5 e 64=true
 g:Yp e
 l:Yn e=true
 m:Za e<=20000
theorem G43.re{e:Edit}(h:G43 e):Jx e:=⟨by have:=Z9C e;have:=h.m;omega,h.g,64,h.r⟩
theorem G43.rb{p q:Edit}(h:G43 p)(k:G43 q):Zff p q:=ZwZ h.r k.r h.g k.g h.l k.l h.m k.m
theorem ZBs{p q:Edit}(h:Zff p q):Zff p (Zi q):=by
 obtain ⟨s,h2,a,b,d,h4,u⟩:=h
 exact ⟨s,Z1l h2,a,b,d,by rw [Z3j];exact h4,by rw [Z3j];exact u⟩
theorem ZeM{p:Edit}{n:Tree}(P:G43 p)(hn:St42 n)(m:Zj n<=20000)(h:(ZN (Zi p) n).2=0):∃ u v,doE false (Zi p) n=some u/\doE false p n=some v/\Eqv u v/\ZN (Zi p) n=(Z3 u,0)/\St42 (Z3 u)/\Zj (Z3 u)<=9500000000:=by
 obtain ⟨u,s,h2,h3⟩:=Zvn h
 have rn:=Z1l P.re
 have k:=Z5a p 64 n P.r hn.rt
 rw [s] at k
 cases hv:doE false p n with
 | none=> rw [hv] at k;exact k.elim
 | some v=>
  rw [hv] at k
  obtain ⟨c,g,d,r⟩:=rn
  have m1:=Zcm false _ d _ _ r s
  have m2:=Yx u
  exact ⟨u,v,s,rfl,k,h3,⟨h2,Z1i _ (Zdn false _ _ _ g hn.g s),Yb u,V0⟩,V0⟩
theorem ZBc{p q:Edit}{n:Tree}(P:G43 p)(Q:G43 q)(hn:St42 n)(m:Zj n<=20000)(h1:(Zr 0 p ⟨n,[]⟩).2.2=0)(h2:(Zr 0 q ⟨n,[]⟩).2.2=0):
  (Zr 0 q (Zr 0 p ⟨n,[]⟩).1).2.2=(Zr 0 p (Zr 0 q ⟨n,[]⟩).1).2.2/\
  ((Zr 0 q (Zr 0 p ⟨n,[]⟩).1).2.2=0->(Zr 0 q (Zr 0 p ⟨n,[]⟩).1).1.now=(Zr 0 p (Zr 0 q ⟨n,[]⟩).1).1.now):=by
 have d:∀ {p:Edit},G43 p->(Zr 0 p ⟨n,[]⟩).2.2=0->(ZN (Zi p) n).2=0/\(Zr 0 p ⟨n,[]⟩).1=⟨(ZN (Zi p) n).1,[Zi p]⟩:=by
  intro p P h
  rw [Z7r P.r] at h ⊢
  by_cases k:(ZN (Zi p) n).2=0
  .rw [if_pos k];exact ⟨k,rfl⟩
  .rw [if_neg k] at h;exact absurd h k
 obtain ⟨p1,p2⟩:=d P h1
 obtain ⟨q1,q2⟩:=d Q h2
 obtain ⟨u,u0,u1,u2,u3,u4,u5,_⟩:=ZeM P hn m p1
 obtain ⟨v,v0,v1,v2,v3,v4,v5,_⟩:=ZeM Q hn m q1
 have eu:Z3 u=Z3 u0:=u3
 have s:Z3 v=Z3 v0:=v3
 rw [p2,q2,u4,v4,Z4Z Q.r,Z4Z P.r,ZnY,ZnY,ZuM Q.r P.r]
 dsimp only
 have rb:=Q.rb P
 rcases ZCz rb hn.rt v2 u2 with c | ⟨c,w1,w2,k1,k2,k3⟩
 .have c1:¬(lbN q p).2.2=0:=by rw [c];decide
  rw [if_neg c1,if_neg c1]
  exact ⟨rfl,fun h=> absurd h c1⟩
 .rw [if_pos c,if_pos c]
  obtain ⟨o1,o2⟩:=ZhV rb
  obtain ⟨_,gx,dx,rx⟩:=o1
  obtain ⟨_,gy,dy,ry⟩:=o2
  have e1:=Z5a _ dx _ rx u5.rt
  have e2:=Z5a _ dy _ ry v5.rt
  rw [eu,k2] at e1
  rw [s,k1] at e2
  rw [eu,s]
  cases z1:doE false (Zi (lbN q p).1) (Z3 u0) with
  | none=> rw [z1] at e1;exact e1.elim
  | some a=>
   cases z2:doE false (Zi (lbN q p).2.1) (Z3 v0) with
   | none=> rw [z2] at e2;exact e2.elim
   | some b=>
    rw [z1] at e1
    rw [z2] at e2
    have e1:Eqv a w2:=e1
    have e2:Eqv b w1:=e2
    have D:=Zm7 z1 z2 (e1.trans (k3.symm.trans e2.symm))
    rw [D]
    by_cases h:(ZN (Zi (lbN q p).2.1) (Z3 v0)).2=0
    .rw [if_pos h,if_pos h];exact ⟨rfl,fun _=> rfl⟩
    .rw [if_neg h,if_neg h];exact ⟨rfl,fun k=> absurd k h⟩
theorem ZeN{p:Edit}{n:Tree}(P:G43 p)(hn:St42 n)(m:Zj n<=20000):Z50 0 p ⟨n,[]⟩:=by
 have re:=P.re
 have d:=Z1l re
 have:=P.m
 exact ⟨⟨V0,P.g⟩,fun _=> ⟨re,fun _=> Z1J d hn⟩,QQ _⟩
theorem ZfA{p q:Edit}{n:Tree}(P:G43 p)(Q:G43 q)(hn:St42 n)(m:Zj n<=20000)(h:(Zr 0 p ⟨n,[]⟩).2.2=0):Z50 0 q (Zr 0 p ⟨n,[]⟩).1:=by
 rw [Z7r P.r] at h ⊢
 by_cases k:(ZN (Zi p) n).2=0
 .rw [if_pos k]
  obtain ⟨u,_,_,_,_,s,d,_⟩:=ZeM P hn m k
  have:=Q.m
  have rb:=ZBs (Q.rb P)
  have o:=(ZhV rb).1
  refine ⟨⟨V0,Q.g⟩,fun _=> ⟨⟨rb,fun _=> o⟩,fun _=> ?_⟩,show 1<=1000000000 by decide⟩
  have e:Z1t 0 q ⟨(ZN (Zi p) n).1,[Zi p]⟩=if (lbN q (Zi p)).2.2=0 then (Zi (lbN q (Zi p)).1,[(lbN q (Zi p)).2.1],0) else (Edit.nil,[],(lbN q (Zi p)).2.2):=rfl
  dsimp only
  rw [e,s]
  split
  .exact Z1J (Z1l o) d
  .exact Z1J Z2m d
 .rw [if_neg k] at h;exact absurd h k
end Go.AM.YtpjenobkibfpcaaGreat
