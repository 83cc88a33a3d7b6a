import Derived.Test.YtpjenobkibfpcaaGreatZKD24
import Derived.Test.YtpjenobkibfpcaaGreatZKRB07
set_option linter.unusedSimpArgs false
set_option linter.unusedVariables false
namespace Go.AM.YtpjenobkibfpcaaGreat
open Go.AM Go.Proofs
noncomputable section
def ZqV:ArgL (Op × Unit):=(.cons (aEl .op) .nil)
def Z5M(a:Op × Unit):Prop:=Zu a.1<=20000000000/\0<=OpOf.n a.1/\OpOf.n a.1<=1048576
def ZuK(a:Op × Unit):V U:= .c (ci (Z6 a.1))
def Z3p:Fs U:=fs ZqV (fun a=> [Z5M a]) ZuK
def ZjV:ArgM ((List Op × Int × Unit) × Unit):=(.obj 0 (.cons (cSl .op) (.cons (ZjN .i64) .nil)) .nil)
def Z3P(a:(List Op × Int × Unit) × Unit):Prop:=(a.1.1).length<=120000000000
def ZuJ(a:(List Op × Int × Unit) × Unit):V U:= .c (.bool (decide ((a.1.1).length=0)))
def ZoM(a:(List Op × Int × Unit) × Unit):List (List (C U)):=[[sU .op a.1.1 .unk,ci a.1.2.1]]
def Z3o:Fs U:=fsX ZjV (fun a=> [Z3P a]) ZuJ ZoM
def ZuL(a:(List Op × Int × Unit) × Unit):V U:= .c (.bool (sgl a.1.2.1 a.1.1))
def Z8O:Fs U:=fsX ZjV (fun a=> [Z3P a]) ZuL ZoM
def ZjW:ArgM ((List Op × Int × Unit) × Int × Unit):=(.obj 0 (.cons (cSl .op) (.cons (ZjN .i64) .nil)) (.cons (J9 .i64) .nil))
def Z8h(a:(List Op × Int × Unit) × Int × Unit):Prop:=Z9z a.1.1/\(a.1.1).length≠0/\1<=a.2.1/\a.2.1<=120000000000
def ZeJ(a:(List Op × Int × Unit) × Int × Unit):V U:= .agg (enc .op (Zs ((a.1.1).getD 0 Op.nil) a.2.1))
def Z9f(a:(List Op × Int × Unit) × Int × Unit):List (List (C U)):=[[sU .op (Zz a.1.1 a.2.1) .unk,ci a.1.2.1]]
def Z8N:Fs U:=fsX ZjW (fun a=> [Z8h a]) ZeJ Z9f
def ZjZ:ArgM ((List Op × Int × Unit) × (List Op × Int × Unit) × Unit):=(.obj 0 (.cons (cSl .op) (.cons (ZjN .i64) .nil)) (.obj 1 (.cons (cSl .op) (.cons (ZjN .i64) .nil)) .nil))
def ZiH(a:(List Op × Int × Unit) × (List Op × Int × Unit) × Unit):Prop:=Z9z a.1.1/\Z9z a.2.1.1
def Zig(a:(List Op × Int × Unit) × (List Op × Int × Unit) × Unit):V U:= .tup [(false,[sU .piece ((ZH a.1.2.1 a.2.1.2.1 a.1.1 a.2.1.1 []).1) .unk]),(false,[.bool ((ZH a.1.2.1 a.2.1.2.1 a.1.1 a.2.1.1 []).2.1)])]
def Zdg(a:(List Op × Int × Unit) × (List Op × Int × Unit) × Unit):List (List (C U)):=[[sU .op ((ZH a.1.2.1 a.2.1.2.1 a.1.1 a.2.1.1 []).2.2.1) .unk,ci a.1.2.1],[sU .op ((ZH a.1.2.1 a.2.1.2.1 a.1.1 a.2.1.1 []).2.2.2) .unk,ci a.2.1.2.1]]
def Z6v:Fs U:=fsX ZjZ (fun a=> [ZiH a]) Zig Zdg
def Zrv:ArgL (List Op × List Op × Unit):=(.cons (aSl .op) (.cons (aSl .op) .nil))
def Zna(a:List Op × List Op × Unit):Prop:=Z9z a.1/\Z9z a.2.1
def Zv3(a:List Op × List Op × Unit):V U:= .tup [(false,[sU .piece ((ZH 2 2 a.1 a.2.1 []).1) .unk]),(false,[.bool ((ZH 2 2 a.1 a.2.1 []).2.1)])]
def Zd5:Fs U:=fs Zrv (fun a=> [Zna a]) Zv3
def Zrn:ArgL (List Op × Int × Unit):=(.cons (aSl .op) (.cons (J9 .i64) .nil))
def Zfc(a:List Op × Int × Unit):Prop:=Z9z a.1/\Z1y a.1<=120000000000
def ZuW(a:List Op × Int × Unit):V U:= .c (sU .unit (Zr 0 a.2.1 a.1) .unk)
def ZcX:Fs U:=fs Zrn (fun a=> [Zfc a]) ZuW
def Zro:ArgL (List AUnit × List AUnit × Unit):=(.cons (aSl .unit) (.cons (aSl .unit) .nil))
def ZiN(a:List AUnit × List AUnit × Unit):Prop:=(a.1).length<=120000000000/\(a.2.1).length<=120000000000
def Zio(a:List AUnit × List AUnit × Unit):V U:= .tup [(false,[sU .pair ((ZB a.1 a.2.1 []).1) .unk]),(false,[.bool ((ZB a.1 a.2.1 []).2)])]
def ZcY:Fs U:=fs Zro (fun a=> [ZiN a]) Zio
def Zr1:ArgL (AUnit × Unit):=(.cons (aEl .unit) .nil)
def ZaQ(a:AUnit × Unit):Prop:=True
def ZeK(a:AUnit × Unit):V U:= .agg (enc .op (opU a.1))
def ZcP:Fs U:=fs Zr1 (fun a=> [ZaQ a]) ZeK
def Zxz:ArgL (List Tree × List Tree × Unit):=(.cons (aSl .tree) (.cons (aSl .tree) .nil))
def Zl6(a:List Tree × List Tree × Unit):Prop:=Z9 a.1<=20000000000
def ZC5(a:List Tree × List Tree × Unit):V U:= .c (.bool (eqX a.1 a.2.1))
def Zem:Fs U:=fs Zxz (fun a=> [Zl6 a]) ZC5
def Zoa:ArgL (Edit × Edit × Unit):=(.cons (aEl .edit) (.cons (aEl .edit) .nil))
def Z5l(a:Edit × Edit × Unit):Prop:=Z3 a.1<=20000000000
def Zlx(a:Edit × Edit × Unit):Nat:=Z3 a.1
def ZuS(a:Edit × Edit × Unit):V U:= .c (.bool (eqX a.1 a.2.1))
def Zes:Fs U:=fs Zoa (fun a=> [Z5l a]) ZuS
def Zw0:Zc U:=lvl [([1],[1]),([1,5],[1]),([2],[]),([2],[])]
abbrev ZJ8(p:List Nat):=AW (Z0 ZnJ) Tryz.f228 Zw0 p
theorem ZG6(o:Op)(Q:QT)(h:(iB (o.kind==3) ((Q .ret (L2 [pI 2 1] []))) ((InR (o.n+(o.l.length:Int)))/\(Q .ret (L2 [pI 2 (o.n+(o.l.length:Int))] []))))):
  ZJ8 [] (L2 [(0,.agg (enc .op o))] []) Q:=
 Eq.mpr V4 h
def ZAJ(o:Op):Prop:=AW (Z0 ZnJ) Tryz.f228 Zw0 [] (Zh (ZqV.can (o,())) []) (EQ Tryz.f228 (ZuK (o,())) [])
theorem ZyV(hb:∀ (o:Op) (_:Unit),Z5M (o,())->ZAJ o):CT 228 Z3p:=
 Z1 (l:=[]) Zi rfl trivial Zw0 Tryz.func228 rfl rfl 1 (fun _=> rfl) V1 (fun ⟨o,_⟩=> hb o ())
def ZvZ:Zc U:=lvk [([0],[((.x 0),[])]),([2],[((.x 0),[])])]
abbrev ZJ7(p:List Nat):=AW (Z0 ZnJ) Tryz.f229 ZvZ p
theorem ZG5(l:List Op)(alone:Int)(Q:QT)(h:(Q .ret (L2 [pB 2 (((l.length:Int):Int)==0)] [(.x 0,[sU .op l .unk,ci alone])]))):
  ZJ7 [] (L2 [(0,.ptr (.x 0) 0)] [(.x 0,[sU .op l .unk,ci alone])]) Q:=
 Eq.mpr V4 h
def ZAI(l:List Op)(alone:Int):Prop:=AW (Z0 ZnJ) Tryz.f229 ZvZ [] (Zh (ZjV.can ((l,alone,()),())) (ZjV.canX ((l,alone,()),()))) (EQ Tryz.f229 (ZuJ ((l,alone,()),())) (ZoM ((l,alone,()),())))
theorem ZyU(hb:∀ (l:List Op) (alone:Int) (_:Unit),Z3P ((l,alone,()),())->ZAI l alone):CT 229 Z3o:=
 YK (l:=[]) Zi rfl trivial ZvZ Tryz.func229 rfl rfl 1 (fun _=> rfl) V1 (fun ⟨⟨l,alone,_⟩,_⟩=> hb l alone ())
def ZpY:List (FuncId × Fs U):=[(229,Z3o)]
abbrev ZJa(p:List Nat):=AW (Z0 ZpY) Tryz.f226 ZvZ p
theorem ZG8(l:List Op)(alone:Int)(Q:QT)(h:let z0:= !(decide (l.length=0));((Z3P ((l,alone,()),()))/\(Tt z0)/\(Tt z0)/\(Tt z0)/\(Tt z0)/\(z0=true->(0:Int)<=0/\0 < (l.length:Int))/\(Tt z0)/\(Tt z0)/\(Tt z0)/\(Tt z0)/\(Tt z0)/\(Tt z0)/\(Tt z0)/\(Tt z0)/\(Q .ret (L2 [(2,.c (.bool (bif z0 then (((OpOf.kind (List.getD l (Int.toNat 0) Op.nil)):Int)==alone) else false)))] [(.x 0,[sU .op l .unk,ci alone])])))):
  ZJa [] (L2 [(0,.ptr (.x 0) 0)] [(.x 0,[sU .op l .unk,ci alone])]) Q:=
 Eq.mpr V4 h
def ZAL(l:List Op)(alone:Int):Prop:=AW (Z0 ZpY) Tryz.f226 ZvZ [] (Zh (ZjV.can ((l,alone,()),())) (ZjV.canX ((l,alone,()),()))) (EQ Tryz.f226 (ZuL ((l,alone,()),())) (ZoM ((l,alone,()),())))
theorem ZyX(ZsZ:CT 229 Z3o)(hb:∀ (l:List Op) (alone:Int) (_:Unit),Z3P ((l,alone,()),())->ZAL l alone):CT 226 Z8O:=
 YK (l:=[(229,Z3o)]) Zi rfl (⟨ZsZ,trivial⟩) ZvZ Tryz.func226 rfl rfl 1 (fun _=> rfl) V1 (fun ⟨⟨l,alone,_⟩,_⟩=> hb l alone ())
def ZpX:List (FuncId × Fs U):=[(228,Z3p)]
def Zw1:Zc U:=lvk [([0,1,4],[4,((.x 0),[])]),([0,1,4,5],[4,5,((.x 0),[])]),([0,1,4,5,17],[4,5,((.x 0),[])]),([4,5],[4,5,((.x 0),[])]),([4],[4,((.x 0),[])]),([0,1,4,5,6,7],[4,5,6,7,((.x 0),[])]),([0,1,4,5,6,7,31],[4,5,6,7,((.x 0),[])]),([0,4,6,7],[4,6,7,((.x 0),[])]),([0,4,6,7],[4,6,7,((.x 0),[])]),([4,6],[4,6,((.x 0),[])]),([4],[4,((.x 0),[])])]
abbrev ZJ9(p:List Nat):=AW (Z0 ZpX) Tryz.f227 Zw1 p
theorem ZG7(l:List Op)(alone n:Int)(Q:QT)(h:∀ y_1,y_1=(List.getD l (Int.toNat 0) Op.nil)->∀ y_2,y_2=y_1->∀ y_3,y_3=(y_1.e)->let z0:=List.drop (Int.toNat 1) l;(((0:Int)<=0/\0 < (l.length:Int))/\((Z5M (y_2,()))/\(iB (decide (((Z6 y_2):Int)<=n)) (((0:Int)<=1/\1<=(l.length:Int))/\(Q .ret (L2 [pL 4] [(.loc 4,(enc .op y_1)),(.x 0,[sU .op z0 .unk,ci alone])]))) ((iB (y_1.kind==0) ((InR (y_1.n - n))/\(((0:Int)<=1/\1<=(l.length:Int))/\((([(OpOf.mk y_1.kind (y_1.n - n) y_1.l y_3)]).length+z0.length)*240<=140737488355328)/\(Q .ret (L2 [pL 4] [(.loc 4,([ci y_1.kind,ci n,sU .tree y_1.l .unk]++enc .edit y_1.e)),(.x 0,[sU .op (([(OpOf.mk y_1.kind (y_1.n - n) y_1.l y_3)])++z0) (.own (.x 0 0)),ci alone])])))) (((0:Int)<=n/\n<=(y_1.l.length:Int))/\(n=n)/\((0:Int)<=n/\n<=(y_1.l.length:Int))/\(((0:Int)<=1/\1<=(l.length:Int))/\((([(OpOf.mk y_1.kind y_1.n (List.drop n.toNat y_1.l) y_3)]).length+z0.length)*240<=140737488355328)/\(Q .ret (L2 [pL 4] [(.loc 4,([ci y_1.kind,ci y_1.n,sU .tree (List.take n.toNat y_1.l) .full]++enc .edit y_1.e)),(.x 0,[sU .op (([(OpOf.mk y_1.kind y_1.n (List.drop n.toNat y_1.l) y_3)])++z0) (.own (.x 0 0)),ci alone])])))))))))):
  ZJ9 [] (L2 [(0,.ptr (.x 0) 0),pI 1 n] [(.x 0,[sU .op l .unk,ci alone])]) Q:=
 Eq.mpr V4 (h _ rfl _ (Yw _) _ (Z7 _))
def ZAK(l:List Op)(alone n:Int):Prop:=AW (Z0 ZpX) Tryz.f227 Zw1 [] (Zh (ZjW.can ((l,alone,()),n,())) (ZjW.canX ((l,alone,()),n,()))) (EQ Tryz.f227 (ZeJ ((l,alone,()),n,())) (Z9f ((l,alone,()),n,())))
theorem ZyW(Zt0:CT 228 Z3p)(hb:∀ (l:List Op) (alone:Int) (n:Int) (_:Unit),Z8h ((l,alone,()),n,())->ZAK l alone n):CT 227 Z8N:=
 YK (l:=[(228,Z3p)]) Zi rfl (⟨Zt0,trivial⟩) Zw1 Tryz.func227 rfl rfl 2 (fun _=> rfl) V1 (fun ⟨⟨l,alone,_⟩,n,_⟩=> hb l alone n ())
def Zq9:List (FuncId × Fs U):=[(226,Z8O),(227,Z8N),(228,Z3p),(229,Z3o)]
def Zwd:Zc U:=lvk [([0,1],[((.x 0),[]),((.x 1),[])]),([0,1,(6,[.own .piece])],[((.x 0),[]),((.x 1),[])]),([0,1,6,7],[((.x 0),[]),((.x 1),[])]),([0,1,(6,[.own .piece])],[((.x 0),[]),((.x 1),[])]),([0,1,6,33],[((.x 0),[]),((.x 1),[])]),([0,1,(6,[.own .piece])],[((.x 0),[]),((.x 1),[])]),([0,1,6,49],[((.x 0),[]),((.x 1),[])]),([0,1,(6,[.own .piece])],[((.x 0),[]),((.x 1),[])]),([0,1,6,65],[((.x 0),[]),((.x 1),[])]),([6,76],[((.x 0),[]),((.x 1),[])]),([4,5],[((.x 0),[]),((.x 1),[])]),([4,5],[((.x 0),[]),((.x 1),[])])]
def Z2M(pl:List Op)(pa:Int)(ql:List Op)(qa:Int)(mx0_0 mx1_0:List Op)(mx1_1:Int)(x6:List Piece):LSt U:=(L2 [(0,.ptr (.x 0) 0),(1,.ptr (.x 1) 0),(6,.c (sU .piece x6 (.own (.e 6 0))))] [(.x 0,[sU .op mx0_0 .unk,ci pa]),(.x 1,[sU .op mx1_0 .unk,ci mx1_1])])
abbrev ZFL(p:List Nat):=AW (Z0 Zq9) Tryz.f193 Zwd p
theorem ZGm(pl:List Op)(pa:Int)(ql:List Op)(qa:Int)(Q:QT)(h:(Zd (ZFL [1,1,0,0]) (Z2M pl pa ql qa pl ql qa []) (xB 0 Q))):
  ZFL [] (L2 [(0,.ptr (.x 0) 0),(1,.ptr (.x 1) 0)] [(.x 0,[sU .op pl .unk,ci pa]),(.x 1,[sU .op ql .unk,ci qa])]) Q:=
 Eq.mpr V4 h
theorem Ztz(pl:List Op)(pa:Int)(ql:List Op)(qa:Int)(mx0_0 mx1_0:List Op)(mx1_1:Int)(x6:List Piece)(N0:NT)(Q:QT)(h:∀ y_1,y_1=(List.getD mx0_0 (Int.toNat 0) Op.nil)->∀ y_2,y_2=(List.getD mx1_0 (Int.toNat 0) Op.nil)->∀ y_3,y_3=(Edit.mk 0 (Tree.mk 0 [] []) (Tree.mk 0 [] []) [] [] 0 [])->∀ y_4,y_4=(List.getD (bif (!(decide (mx0_0.length=0))) then mx1_0 else mx1_0) (Int.toNat 0) Op.nil)->∀ y_5,y_5=y_1->∀ y_6,y_6=y_2->∀ y_7,y_7=y_4->∀ y_8,y_8=(Zs (mx0_0.getD 0 Op.nil) (Z6 y_5))->∀ y_9,y_9=(Zs (mx1_0.getD 0 Op.nil) (Z6 y_6))->∀ y_10,y_10=(Zs (mx0_0.getD 0 Op.nil) (if ((Z6 y_7):Int) < (Z6 y_5) then (Z6 y_7) else (Z6 y_5)))->∀ y_11,y_11=(Zs ((bif (!(decide (mx0_0.length=0))) then mx1_0 else mx1_0).getD 0 Op.nil) (if ((Z6 y_7):Int) < (Z6 y_5) then (Z6 y_7) else (Z6 y_5)))->let z5:=Z3P ((mx0_0,pa,()),());let z4:=Piece.mk 2 (OpOf.mk 0 0 [] y_3) y_9;let z3:=Piece.mk 1 y_8 (OpOf.mk 0 0 [] y_3);let z0:=decide (mx0_0.length=0);let z2:=bif (!z0) then mx1_1 else mx1_1;let z1:=bif (!z0) then mx1_0 else mx1_0;(Z3P ((mx0_0,pa,()),()))/\(iB (sgl pa mx0_0) (((0:Int)<=0/\0 < (mx0_0.length:Int))/\(Z5M (y_5,()))/\(Z8h ((mx0_0,pa,()),(Z6 y_5),()))/\((x6.length+([z3]).length)*488<=140737488355328)/\(N0 (Z2M pl pa ql qa (Zz mx0_0 (Z6 y_5)) mx1_0 mx1_1 (x6++([z3]))))) ((Z3P ((mx1_0,mx1_1,()),()))/\(iB (sgl mx1_1 mx1_0) (((0:Int)<=0/\0 < (mx1_0.length:Int))/\(Z5M (y_6,()))/\(Z8h ((mx1_0,mx1_1,()),(Z6 y_6),()))/\((x6.length+([z4]).length)*488<=140737488355328)/\(N0 (Z2M pl pa ql qa mx0_0 (Zz mx1_0 (Z6 y_6)) mx1_1 (x6++([z4]))))) (z5/\(Tt (!z0))/\((!z0)=true->Z3P ((mx1_0,mx1_1,()),()))/\(z0=false->(!z0)=true)/\(iB (bif z0 then true else (decide (mx1_0.length=0))) (z5/\(Z3P ((z1,z2,()),()))/\(iB (z0 !=(decide (z1.length=0))) ((Q .ret (L2 [(4,.c (.nils)),pB 5 false] [(.x 0,[sU .op mx0_0 .unk,ci pa]),(.x 1,[sU .op z1 .unk,ci z2])]))) ((Q .ret (L2 [(4,.c (sU .piece x6 (.own (.e 4 0)))),pB 5 true] [(.x 0,[sU .op mx0_0 .unk,ci pa]),(.x 1,[sU .op z1 .unk,ci z2])]))))) (((0:Int)<=0/\0 < (mx0_0.length:Int))/\(Z5M (y_5,()))/\((0:Int)<=0/\0 < (z1.length:Int))/\(Z5M (y_7,()))/\((Z8h ((mx0_0,pa,()),(if ((Z6 y_7):Int) < (Z6 y_5) then (Z6 y_7) else (Z6 y_5)),()))/\(Z8h ((z1,z2,()),(if ((Z6 y_7):Int) < (Z6 y_5) then (Z6 y_7) else (Z6 y_5)),()))/\((x6.length+([(Piece.mk 0 y_10 y_11)]).length)*488<=140737488355328)/\(N0 (Z2M pl pa ql qa (Zz mx0_0 (if ((Z6 y_7):Int) < (Z6 y_5) then (Z6 y_7) else (Z6 y_5))) (Zz z1 (if ((Z6 y_7):Int) < (Z6 y_5) then (Z6 y_7) else (Z6 y_5))) z2 (x6++([(Piece.mk 0 y_10 y_11)])))))))))))):
  ZFL [1,1,0,0] (Z2M pl pa ql qa mx0_0 mx1_0 mx1_1 x6) (xT N0 (xB 0 Q)):=
 Eq.mpr V4 (h _ rfl _ rfl _ rfl _ rfl _ (Yw _) _ (Yw _) _ (Yw _) _ (Yw _) _ (Yw _) _ (Yw _) _ (Yw _))
def ZAZ(pl:List Op)(pa:Int)(ql:List Op)(qa:Int):Prop:=AW (Z0 Zq9) Tryz.f193 Zwd [] (Zh (ZjZ.can ((pl,pa,()),(ql,qa,()),())) (ZjZ.canX ((pl,pa,()),(ql,qa,()),()))) (EQ Tryz.f193 (Zig ((pl,pa,()),(ql,qa,()),())) (Zdg ((pl,pa,()),(ql,qa,()),())))
theorem Zzb(ZEe:CT 226 Z8O)(ZEd:CT 227 Z8N)(Zt0:CT 228 Z3p)(ZsZ:CT 229 Z3o)(hb:∀ (pl:List Op) (pa:Int) (ql:List Op) (qa:Int) (_:Unit),ZiH ((pl,pa,()),(ql,qa,()),())->ZAZ pl pa ql qa):CT 193 Z6v:=
 YK (l:=[(226,Z8O),(227,Z8N),(228,Z3p),(229,Z3o)]) Zi rfl (⟨ZEe,ZEd,Zt0,ZsZ,trivial⟩) Zwd Tryz.func193 rfl rfl 2 (fun _=> rfl) V1 (fun ⟨⟨pl,pa,_⟩,⟨ql,qa,_⟩,_⟩=> hb pl pa ql qa ())
def Zqq:List (FuncId × Fs U):=[(193,Z6v)]
def Zwu:Zc U:=lvl [([0,1],[]),([4,5],[])]
abbrev ZJy(p:List Nat):=AW (Z0 Zqq) Tryz.f143 Zwu p
theorem ZGW(p q:List Op)(Q:QT)(h:((ZiH ((p,2,()),(q,2,()),()))/\(Q .ret (L2 [(4,.c (sU .piece ((ZH 2 2 p q []).1) .unk)),pB 5 ((ZH 2 2 p q []).2.1)] [])))):
  ZJy [] (L2 [(0,.c (sU .op p .unk)),(1,.c (sU .op q .unk))] []) Q:=
 Eq.mpr V4 h
def ZBz(p q:List Op):Prop:=AW (Z0 Zqq) Tryz.f143 Zwu [] (Zh (Zrv.can (p,q,())) []) (EQ Tryz.f143 (Zv3 (p,q,())) [])
theorem ZzH(Zxm:CT 193 Z6v)(hb:∀ (p:List Op) (q:List Op) (_:Unit),Zna (p,q,())->ZBz p q):CT 143 Zd5:=
 Z1 (l:=[(193,Z6v)]) Zi rfl (⟨Zxm,trivial⟩) Zwu Tryz.func143 rfl rfl 2 (fun _=> rfl) V1 (fun ⟨p,q,_⟩=> hb p q ())
def ZpE:Zc U:=lvk [([0,1],[]),([0,1,5],[]),([0,1,(5,[.own .unit]),6],[]),([0,1,5,6,13],[]),([0,1,(5,[.own .unit]),6],[]),([0,1,5,6,7],[7]),([0,1,(5,[.own .unit]),6,7,8],[7]),([0,1,5,6,7,8,28],[7]),([0,1,(5,[.own .unit]),6,7,8],[7]),([0,1,5,6,7,8],[7]),([0,1,(5,[.own .unit]),6,7,9],[7]),([0,1,5,6,7,9,40],[7]),([0,1,(5,[.own .unit]),6,7,9],[7]),([0,1,5,6,7,9],[7]),([0,1,5,6,7,61],[7]),([0,1,5,6],[]),([4],[])]
def Z4y(l:List Op)(alone x6:Int)(x5:List AUnit):LSt U:=(L2 [(0,.c (sU .op l .unk)),pI 1 alone,(5,.c (sU .unit x5 (.own (.e 5 0)))),pI 6 x6] [])
def Z7c(l:List Op)(alone x6 x8_a:Int)(x5_a:List AUnit):LSt U:=(L2 [(0,.c (sU .op l .unk)),pI 1 alone,(5,.c (sU .unit x5_a (.own (.e 5 0)))),pI 6 x6,pL 7,pI 8 x8_a] [(.loc 7,(enc .op (l.getD x6.toNat Op.nil)))])
def Z7b(l:List Op)(alone x6 x9_b:Int)(x5_b:List AUnit):LSt U:=(L2 [(0,.c (sU .op l .unk)),pI 1 alone,(5,.c (sU .unit x5_b (.own (.e 5 0)))),pI 6 x6,pL 7,pI 9 x9_b] [(.loc 7,(enc .op (l.getD x6.toNat Op.nil)))])
abbrev Zoi(p:List Nat):=AW (Z0 ZnJ) Tryz.f157 ZpE p
abbrev Zaw(p:List Nat):=SW (Z0 ZnJ) Tryz.f157 ZpE p
theorem ZGJ(l:List Op)(alone:Int)(Q:QT)(h:(Zd (Zoi [1,1,0,1,0,0]) (Z4y l alone 0 []) (xB 0 (Zaw [1,1,1] Q)))):
  Zoi [] (L2 [(0,.c (sU .op l .unk)),pI 1 alone] []) Q:=
 Eq.mpr V4 h
theorem ZtR(l:List Op)(alone x6:Int)(x5:List AUnit)(N0:NT)(Q:QT)(h:(iB (decide (x6 < (l.length:Int))) (((0:Int)<=x6/\x6 < (l.length:Int))/\(Zd (Zoi [1,1,0,1,0,0,1,0,0,1,0,1,0,0]) (Z7c l alone x6 0 x5) (xB 2 (Zaw [1,1,0,1,0,0,1,0,0,1,1] (xB 1 (Zaw [1,1,0,1,0,0,1,1] (xT N0 (xB 0 (Zaw [1,1,1] Q))))))))) ((Q .ret (L2 [(4,.c (sU .unit x5 (.own (.e 4 0))))] []))))):
  Zoi [1,1,0,1,0,0] (Z4y l alone x6 x5) (xT N0 (xB 0 (Zaw [1,1,1] Q))):=
 Eq.mpr V4 h
theorem ZtQ(l:List Op)(alone x6 x8_a:Int)(x5_a:List AUnit)(N1 N0:NT)(Q:QT)(h:let z1:=AUnit.mk x6 0 (Tree.mk 0 [] []) (Edit.mk 0 (Tree.mk 0 [] []) (Tree.mk 0 [] []) [] [] 0 []) false;let z0:=decide (x8_a < (OpOf.n (l.getD x6.toNat Op.nil)));(Tt z0)/\(Tt z0)/\(Tt z0)/\(iB (bif z0 then (((OpOf.kind (l.getD x6.toNat Op.nil)):Int)==0) else false) (((x5_a.length+([z1]).length)*280<=140737488355328)/\((InR (x8_a+1))/\(N1 (Z7c l alone x6 (x8_a+1) (x5_a++([z1])))))) ((Zd (Zoi [1,1,0,1,0,0,1,0,0,1,1,0,1,0,0]) (Z7b l alone x6 0 x5_a) (xB 4 (Zaw [1,1,0,1,0,0,1,0,0,1,1,1] (xB 1 (Zaw [1,1,0,1,0,0,1,1] (xT N0 (xB 0 (Zaw [1,1,1] Q))))))))))):
  Zoi [1,1,0,1,0,0,1,0,0,1,0,1,0,0] (Z7c l alone x6 x8_a x5_a) (xT N1 (xB 2 (Zaw [1,1,0,1,0,0,1,0,0,1,1] (xB 1 (Zaw [1,1,0,1,0,0,1,1] (xT N0 (xB 0 (Zaw [1,1,1] Q)))))))):=
 Eq.mpr V4 h
theorem ZtP(l:List Op)(alone x6 x9_b:Int)(x5_b:List AUnit)(N2 N0:NT)(Q:QT)(h:∀ y_1,y_1=(l.getD x6.toNat Op.nil)->∀ y_2,y_2=(y_1.e)->∀ y_3,y_3=(y_1.l.getD x9_b.toNat Tree.nil)->let z1:=AUnit.mk x6 3 (Tree.mk 0 [] []) y_2 false;let z0:=AUnit.mk x6 y_1.kind y_3 (Edit.mk 0 (Tree.mk 0 [] []) (Tree.mk 0 [] []) [] [] 0 []) (y_1.kind==alone);(iB (decide (x9_b < (y_1.l.length:Int))) (((0:Int)<=x9_b/\x9_b < (y_1.l.length:Int))/\((x5_b.length+([z0]).length)*280<=140737488355328)/\((InR (x9_b+1))/\(N2 (Z7b l alone x6 (x9_b+1) (x5_b++([z0])))))) ((iB (y_1.kind==3) (((x5_b.length+([z1]).length)*280<=140737488355328)/\((InR (x6+1))/\(N0 (Z4y l alone (x6+1) (x5_b++([z1])))))) ((InR (x6+1))/\(N0 (Z4y l alone (x6+1) x5_b))))))):
  Zoi [1,1,0,1,0,0,1,0,0,1,1,0,1,0,0] (Z7b l alone x6 x9_b x5_b) (xT N2 (xB 4 (Zaw [1,1,0,1,0,0,1,0,0,1,1,1] (xB 1 (Zaw [1,1,0,1,0,0,1,1] (xT N0 (xB 0 (Zaw [1,1,1] Q)))))))):=
 Eq.mpr V4 (h _ rfl _ (Z7 _) _ (Za _))
def ZBm(l:List Op)(alone:Int):Prop:=AW (Z0 ZnJ) Tryz.f157 ZpE [] (Zh (Zrn.can (l,alone,())) []) (EQ Tryz.f157 (ZuW (l,alone,())) [])
theorem Zzv(hb:∀ (l:List Op) (alone:Int) (_:Unit),Zfc (l,alone,())->ZBm l alone):CT 157 ZcX:=
 Z1 (l:=[]) Zi rfl trivial ZpE Tryz.func157 rfl rfl 2 (fun _=> rfl) V1 (fun ⟨l,alone,_⟩=> hb l alone ())
def ZpF:Zc U:=lvk [([0,1],[]),([0,1,6],[]),([0,1,(6,[.own .pair]),7,8],[]),([0,1,6,7,8,18],[]),([0,1,6,7,8,29],[]),([0,1,6,7,8],[]),([0,1,(6,[.own .pair]),7,8],[]),([0,1,6,7,8,50],[]),([0,1,6,7,8],[]),([0,1,(6,[.own .pair]),7,8],[]),([0,1,6,7,8,70],[]),([4,5],[]),([0,1,6,7,8],[]),([0,1,6,7,8],[]),([0,1,(6,[.own .pair]),7,8],[]),([4,5],[])]
def Z2P(p q:List AUnit)(x7 x8:Int)(x6:List APair):LSt U:=(L2 [(0,.c (sU .unit p .unk)),(1,.c (sU .unit q .unk)),(6,.c (sU .pair x6 (.own (.e 6 0)))),pI 7 x7,pI 8 x8] [])
abbrev ZFU(p:List Nat):=AW (Z0 ZnJ) Tryz.f156 ZpF p
abbrev ZIg(p:List Nat):=SW (Z0 ZnJ) Tryz.f156 ZpF p
theorem ZGK(p q:List AUnit)(Q:QT)(h:(Zd (ZFU [1,1,1,0,0,0]) (Z2P p q 0 0 []) (xB 0 (ZIg [1,1,1,1] Q)))):
  ZFU [] (L2 [(0,.c (sU .unit p .unk)),(1,.c (sU .unit q .unk))] []) Q:=
 Eq.mpr V4 h
theorem ZtS(p q:List AUnit)(x7 x8:Int)(x6:List APair)(N0:NT)(Q:QT)(h:∀ y_1,y_1=(p.getD x7.toNat AUnit.nil)->∀ y_2,y_2=(q.getD x8.toNat AUnit.nil)->∀ y_3,y_3=(Edit.mk 0 (Tree.mk 0 [] []) (Tree.mk 0 [] []) [] [] 0 [])->∀ y_4,y_4=y_1->∀ y_5,y_5=y_2->let z3:=AUnit.mk 0 0 (Tree.mk 0 [] []) y_3 false;let z2:=decide (((p.length:Int):Int)<=x7);let z1:=decide (x8 < (q.length:Int));let z0:=decide (x7 < (p.length:Int));(Tt (!z0))/\(Tt (!z0))/\(Tt (!z0))/\(z0=false->(!z0)=true)/\(iB (bif z0 then true else z1) ((Tt z0)/\(Tt z0)/\(z0=true->(0:Int)<=x7/\x7 < (p.length:Int))/\(Tt z0)/\(Tt z0)/\(Tt z0)/\(iB (bif z0 then y_1.alone else false) (((0:Int)<=x7/\x7 < (p.length:Int))/\((x6.length+([(APair.mk 1 y_4 z3)]).length)*568<=140737488355328)/\((InR (x7+1))/\(N0 (Z2P p q (x7+1) x8 (x6++([(APair.mk 1 y_4 z3)])))))) ((Tt z1)/\(Tt z1)/\(z1=true->(0:Int)<=x8/\x8 < (q.length:Int))/\(Tt z1)/\(Tt z1)/\(Tt z1)/\(iB (bif z1 then y_2.alone else false) (((0:Int)<=x8/\x8 < (q.length:Int))/\((x6.length+([(APair.mk 2 z3 y_5)]).length)*568<=140737488355328)/\((InR (x8+1))/\(N0 (Z2P p q x7 (x8+1) (x6++([(APair.mk 2 z3 y_5)])))))) ((Tt (!z2))/\(Tt (!z2))/\(Tt (!z2))/\(z2=false->(!z2)=true)/\(iB (bif z2 then true else (decide (((q.length:Int):Int)<=x8))) ((Q .ret (L2 [(4,.c (.nils)),pB 5 false] []))) (((0:Int)<=x7/\x7 < (p.length:Int))/\((0:Int)<=x8/\x8 < (q.length:Int))/\((x6.length+([(APair.mk 0 y_4 y_5)]).length)*568<=140737488355328)/\((InR (x7+1))/\((InR (x8+1))/\(N0 (Z2P p q (x7+1) (x8+1) (x6++([(APair.mk 0 y_4 y_5)]))))))))))))) ((Q .ret (L2 [(4,.c (sU .pair x6 (.own (.e 4 0)))),pB 5 true] []))))):
  ZFU [1,1,1,0,0,0] (Z2P p q x7 x8 x6) (xT N0 (xB 0 (ZIg [1,1,1,1] Q))):=
 Eq.mpr V4 (h _ rfl _ rfl _ rfl _ (Z0N _) _ (Z0N _))
def ZBn(p q:List AUnit):Prop:=AW (Z0 ZnJ) Tryz.f156 ZpF [] (Zh (Zro.can (p,q,())) []) (EQ Tryz.f156 (Zio (p,q,())) [])
theorem Zzw(hb:∀ (p:List AUnit) (q:List AUnit) (_:Unit),ZiN (p,q,())->ZBn p q):CT 156 ZcY:=
 Z1 (l:=[]) Zi rfl trivial ZpF Tryz.func156 rfl rfl 2 (fun _=> rfl) V1 (fun ⟨p,q,_⟩=> hb p q ())
def Zw6:Zc U:=lvl [([1,2],[1,2]),([1,2,4],[1,2]),([1,2,4,5],[1,2]),([2],[2]),([1,2,8],[1,2]),([2],[2]),([2],[2])]
abbrev ZJe(p:List Nat):=AW (Z0 ZnJ) Tryz.f201 Zw6 p
theorem ZGe(u:AUnit)(Q:QT)(h:(iB (u.kind==0) ((Q .ret (L2 [pL 2] [(.loc 2,[ci 0,ci 1,.nils,ci 0,ci 0,.nils,.nils,ci 0,.nils,.nils,.nils,.nils,ci 0,.nils])]))) ((iB (u.kind==3) ((Q .ret (L2 [pL 2] [(.loc 2,([ci 3,ci 0,.nils]++enc .edit u.e))]))) ((Q .ret (L2 [pL 2] [(.loc 2,[ci u.kind,ci 0,sU .tree ([(Tree.mk u.t.kind u.t.words u.t.kids)]) .full,ci 0,ci 0,.nils,.nils,ci 0,.nils,.nils,.nils,.nils,ci 0,.nils])]))))))):
  ZJe [] (L2 [(0,.agg (enc .unit u))] []) Q:=
 Eq.mpr V4 h
def ZAR(u:AUnit):Prop:=AW (Z0 ZnJ) Tryz.f201 Zw6 [] (Zh (Zr1.can (u,())) []) (EQ Tryz.f201 (ZeK (u,())) [])
theorem Zz3(hb:∀ (u:AUnit) (_:Unit),ZaQ (u,())->ZAR u):CT 201 ZcP:=
 Z1 (l:=[]) Zi rfl trivial Zw6 Tryz.func201 rfl rfl 1 (fun _=> rfl) V1 (fun ⟨u,_⟩=> hb u ())
def ZnL:List (FuncId × Fs U):=[(26,Z2V)]
def ZA4:Zc U:=lvl [([0,1],[]),([0,1,10],[]),([4],[]),([0,1,5],[]),([0,1,5,14],[]),([0,1,5],[]),([0,1,5,26],[]),([4],[]),([4],[])]
def Za4(a b:List Tree)(x5:Int):LSt U:=(L2 [(0,.c (sU .tree a .unk)),(1,.c (sU .tree b .unk)),pI 5 x5] [])
abbrev A69(p:List Nat):=AW (Z0 ZnL) Tryz.f69 ZA4 p
abbrev S69(p:List Nat):=SW (Z0 ZnL) Tryz.f69 ZA4 p
theorem ZIE(a b:List Tree)(Q:QT)(h:(iB (((a.length:Int):Int) !=(b.length:Int)) ((Q .ret (L2 [pB 4 false] []))) ((Zd (A69 [1,1,0,1,0,0]) (Za4 a b 0) (xB 0 (S69 [1,1,1] Q)))))):
  A69 [] (L2 [(0,.c (sU .tree a .unk)),(1,.c (sU .tree b .unk))] []) Q:=
 Eq.mpr V4 h
theorem Zyf(a b:List Tree)(x5:Int)(N0:NT)(Q:QT)(h:let z3:=a.getD x5.toNat Tree.nil;let z2:=b.getD x5.toNat Tree.nil;let z1:=Tree.mk (Tree.kind z2) (Tree.words z2) (Tree.kids z2);let z0:=Tree.mk (Tree.kind z3) (Tree.words z3) (Tree.kids z3);(iB (decide (x5 < (a.length:Int))) (((0:Int)<=x5/\x5 < (a.length:Int))/\((0:Int)<=x5/\x5 < (b.length:Int))/\(Z3x (z0,z1,()))/\(iB (!(ZU z0 z1)) ((Q .ret (L2 [pB 4 false] []))) ((InR (x5+1))/\(N0 (Za4 a b (x5+1)))))) ((Q .ret (L2 [pB 4 true] []))))):
  A69 [1,1,0,1,0,0] (Za4 a b x5) (xT N0 (xB 0 (S69 [1,1,1] Q))):=
 Eq.mpr V4 h
def ZFr(a b:List Tree):Prop:=AW (Z0 ZnL) Tryz.f69 ZA4 [] (Zh (Zxz.can (a,b,())) []) (EQ Tryz.f69 (ZC5 (a,b,())) [])
theorem ZDE(c26:CT 26 Z2V)(hb:∀ (a:List Tree) (b:List Tree) (_:Unit),Zl6 (a,b,())->ZFr a b):CT 69 Zem:=
 Z1 (l:=[(26,Z2V)]) Zi rfl (⟨c26,trivial⟩) ZA4 Tryz.func69 rfl rfl 2 (fun _=> rfl) V1 (fun ⟨a,b,_⟩=> hb a b ())
def ZnR(N:Nat):List (FuncId × Fs U):=(18,fs Zoa (fun a=> [Z5l a,Zlx a < N]) ZuS) ::[(26,Z2V),(69,Zem)]
def ZAa:Zc U:=lvl [([2,3],[2,3]),([2,3,64],[2,3]),([4],[]),([2,3,5],[2,3]),([2,3,5,69],[2,3]),([2,3,5],[2,3]),([2,3,5,82],[2,3]),([4],[]),([2,3,6],[2,3]),([2,3,6,87],[2,3]),([2,3,6],[2,3]),([2,3,6,118],[2,3]),([4],[]),([2,3,7],[2,3]),([2,3,7,123],[2,3]),([2,3,7],[2,3]),([2,3,7,8,9],[2,3,8,9]),([2,3,7,163],[2,3]),([4],[]),([4],[])]
def Zae(a b:Edit)(x5:Int):LSt U:=(L2 [pL 2,pL 3,pI 5 x5] [(.loc 2,(enc .edit a)),(.loc 3,(enc .edit b))])
def Zad(a b:Edit)(x6_a:Int):LSt U:=(L2 [pL 2,pL 3,pI 6 x6_a] [(.loc 2,(enc .edit a)),(.loc 3,(enc .edit b))])
def Zac(a b:Edit)(x7_b:Int):LSt U:=(L2 [pL 2,pL 3,pI 7 x7_b] [(.loc 2,(enc .edit a)),(.loc 3,(enc .edit b))])
abbrev A18(N:Nat)(p:List Nat):=AW (Z0 (ZnR N)) Tryz.f18 ZAa p
abbrev S18(N:Nat)(p:List Nat):=SW (Z0 (ZnR N)) Tryz.f18 ZAa p
theorem ZIQ(N:Nat)(a b:Edit)(Q:QT)(h:∀ y_1,y_1=(a.new)->∀ y_2,y_2=(b.new)->∀ y_3,y_3=(a.old)->∀ y_4,y_4=(b.old)->let z5:=a.kind !=b.kind;let z3:=bif z5 then true else (a.list !=b.list);let z1:=bif z3 then true else (!(ZU y_3 y_4));let z4:=bif z1 then true else (!(ZU y_1 y_2));let z0:=bif z4 then true else (((a.words.length:Int):Int) !=(b.words.length:Int));let z2:=bif z0 then true else (((a.kids.length:Int):Int) !=(b.kids.length:Int));((Tt (!z5))/\(Tt (!z5))/\(Tt (!z5))/\(Tt (!z5))/\(z5=false->(!z5)=true)/\(Tt (!z3))/\(Tt (!z3))/\(Tt (!z3))/\(Tt (!z3))/\((!z3)=true->Z3x (y_3,y_4,()))/\(Tt (!z3))/\(z3=false->(!z3)=true)/\(Tt (!z1))/\(Tt (!z1))/\(Tt (!z1))/\(Tt (!z1))/\((!z1)=true->Z3x (y_1,y_2,()))/\(Tt (!z1))/\(z1=false->(!z1)=true)/\(Tt (!z4))/\(Tt (!z4))/\(Tt (!z4))/\(Tt (!z4))/\(Tt (!z4))/\(Tt (!z4))/\(z4=false->(!z4)=true)/\(Tt (!z0))/\(Tt (!z0))/\(Tt (!z0))/\(Tt (!z0))/\(Tt (!z0))/\(Tt (!z0))/\(z0=false->(!z0)=true)/\(Tt (!z2))/\(Tt (!z2))/\(Tt (!z2))/\(Tt (!z2))/\(Tt (!z2))/\(Tt (!z2))/\(z2=false->(!z2)=true)/\(iB (bif z2 then true else (((a.ops.length:Int):Int) !=(b.ops.length:Int))) ((Q .ret (L2 [pB 4 false] []))) ((Zd (A18 N [1,1,0,1,0,0]) (Zae a b 0) (xB 0 (S18 N [1,1,1] Q))))))):
  A18 N [] (L2 [(0,.agg (enc .edit a)),(1,.agg (enc .edit b))] []) Q:=
 Eq.mpr V4 (h _ (Za _) _ (Za _) _ (Za _) _ (Za _))
theorem Zys(N:Nat)(a b:Edit)(x5:Int)(N0:NT)(Q:QT)(h:let z1:=b.words.getD x5.toNat (WEdit.mk 0 0 0 0);let z0:=a.words.getD x5.toNat (WEdit.mk 0 0 0 0);(iB (decide (x5 < (a.words.length:Int))) (((0:Int)<=x5/\x5 < (a.words.length:Int))/\((0:Int)<=x5/\x5 < (b.words.length:Int))/\(iB (!((((WEdit.at_ z0):Int)==(WEdit.at_ z1)) && ((((WEdit.mask z0):Int)==(WEdit.mask z1)) && ((((WEdit.old z0):Int)==(WEdit.old z1)) && ((((WEdit.new z0):Int)==(WEdit.new z1)) && true))))) ((Q .ret (L2 [pB 4 false] []))) ((InR (x5+1))/\(N0 (Zae a b (x5+1)))))) ((Zd (A18 N [1,1,1,0,1,0,0]) (Zad a b 0) (xB 2 (S18 N [1,1,1,1] Q)))))):
  A18 N [1,1,0,1,0,0] (Zae a b x5) (xT N0 (xB 0 (S18 N [1,1,1] Q))):=
 Eq.mpr V4 h
theorem Zyr(N:Nat)(a b:Edit)(x6_a:Int)(N1:NT)(Q:QT)(h:∀ y_1,y_1=(a.kids.getD x6_a.toNat (KidOf.mk 0 Edit.nil))->∀ y_2,y_2=(b.kids.getD x6_a.toNat (KidOf.mk 0 Edit.nil))->∀ y_3,y_3=(y_1.e)->∀ y_4,y_4=(y_2.e)->let z1:=y_1.at_ !=y_2.at_;let z0:= !z1;(iB (decide (x6_a < (a.kids.length:Int))) (((0:Int)<=x6_a/\x6_a < (a.kids.length:Int))/\((0:Int)<=x6_a/\x6_a < (b.kids.length:Int))/\(Tt z0)/\(Tt z0)/\(Tt z0)/\(z0=true->(0:Int)<=x6_a/\x6_a < (a.kids.length:Int))/\(Tt z0)/\(Tt z0)/\(Tt z0)/\(Tt z0)/\(Tt z0)/\(z0=true->(0:Int)<=x6_a/\x6_a < (b.kids.length:Int))/\(Tt z0)/\(Tt z0)/\(Tt z0)/\(Tt z0)/\(z0=true->Z5l (y_3,y_4,()))/\(z0=true->Zlx (y_3,y_4,()) < N)/\(Tt z0)/\(z1=false->z0=true)/\(iB (bif z1 then true else (!(eqX y_3 y_4))) ((Q .ret (L2 [pB 4 false] []))) ((InR (x6_a+1))/\(N1 (Zad a b (x6_a+1)))))) ((Zd (A18 N [1,1,1,1,0,1,0,0]) (Zac a b 0) (xB 4 (S18 N [1,1,1,1,1] Q)))))):
  A18 N [1,1,1,0,1,0,0] (Zad a b x6_a) (xT N1 (xB 2 (S18 N [1,1,1,1] Q))):=
 Eq.mpr V4 (h _ rfl _ rfl _ (Z7 _) _ (Z7 _))
theorem Zyq(N:Nat)(a b:Edit)(x7_b:Int)(N2:NT)(Q:QT)(h:∀ y_1,y_1=(a.ops.getD x7_b.toNat Op.nil)->∀ y_2,y_2=(b.ops.getD x7_b.toNat Op.nil)->∀ y_3,y_3=(y_1.e)->∀ y_4,y_4=(y_2.e)->let z2:=y_1.kind !=y_2.kind;let z0:=bif z2 then true else (y_1.n !=y_2.n);let z1:=bif z0 then true else (!(eqX y_1.l y_2.l));(iB (decide (x7_b < (a.ops.length:Int))) (((0:Int)<=x7_b/\x7_b < (a.ops.length:Int))/\((0:Int)<=x7_b/\x7_b < (b.ops.length:Int))/\((Tt (!z2))/\(Tt (!z2))/\(Tt (!z2))/\(Tt (!z2))/\(z2=false->(!z2)=true)/\(Tt (!z0))/\(Tt (!z0))/\(Tt (!z0))/\(Tt (!z0))/\((!z0)=true->Zl6 (y_1.l,y_2.l,()))/\(Tt (!z0))/\(z0=false->(!z0)=true)/\(Tt (!z1))/\(Tt (!z1))/\(Tt (!z1))/\(Tt (!z1))/\((!z1)=true->Z5l (y_3,y_4,()))/\((!z1)=true->Zlx (y_3,y_4,()) < N)/\(Tt (!z1))/\(z1=false->(!z1)=true)/\(iB (bif z1 then true else (!(eqX y_3 y_4))) ((Q .ret (L2 [pB 4 false] []))) ((InR (x7_b+1))/\(N2 (Zac a b (x7_b+1))))))) ((Q .ret (L2 [pB 4 true] []))))):
  A18 N [1,1,1,1,0,1,0,0] (Zac a b x7_b) (xT N2 (xB 4 (S18 N [1,1,1,1,1] Q))):=
 Eq.mpr V4 (h _ rfl _ rfl _ (Z7 _) _ (Z7 _))
def ZFD(N:Nat)(a b:Edit):Prop:=AW (Z0 (ZnR N)) Tryz.f18 ZAa [] (Zh (Zoa.can (a,b,())) []) (EQ Tryz.f18 (ZuS (a,b,())) [])
theorem ZDL(c26:CT 26 Z2V)(c69:CT 69 Zem)(hb:∀ (N:Nat) (a:Edit) (b:Edit) (_:Unit),Z5l (a,b,())->Zlx (a,b,()) < N+1->ZFD N a b):CT 18 Zes:=
 YY (μ:=Zlx) (l:=[(26,Z2V),(69,Zem)]) Zi rfl (⟨c26,c69,trivial⟩) ZAa Tryz.func18 rfl rfl 2 (fun _=> rfl) V1 (fun N ⟨a,b,_⟩=> hb N a b ())
end
theorem Znf{o:Op}(h:Zu o<=20000000000):o.l.length<=20000000000:=by
 have:=Zq o.l
 rw [ZI] at h
 omega
theorem Z8p{o:Op}(h:ZC o):0<=o.n/\o.n<=1048576:=by
 unfold ZC at h
 omega
theorem Yr(o:Op):Z6 o=if o.kind=3 then 1 else o.n+o.l.length:=rfl
theorem Zt0:Contract Tryz.prog cfg 228 Z3p:=by
 refine ZyV ?_
 intro o _ hp
 simp only [Z5M] at hp
 have hl:=Znf hp.1
 refine ZG6 _ _ ?_;(try simp only [iB,vcT,forall_eq])
 (simp only [iB,vcS]);(try simp only [iB,vcT])
 exact ⟨fun hk=> Yd rfl (by rw [Yr,if_pos hk]),fun hk=> ⟨V3,Yd rfl (by rw [Yr,if_neg hk])⟩⟩
theorem ZsZ:Contract Tryz.prog cfg 229 Z3o:=by
 refine ZyU ?_
 intro l al _ hp
 refine ZG5 _ _ _ ?_;(try simp only [iB,vcT,forall_eq])
 have e:((l.length:Int)==0)=decide (l.length=0):=by rw [Qs];(simp only [iB,vcS]);omega
 rw [e]
 exact JP
theorem ZEe:Contract Tryz.prog cfg 226 Z8O:=by
 refine ZyX ZsZ ?_
 intro l al _ hp
 refine ZG8 _ _ _ ?_;(try simp only [iB,vcT,forall_eq])
 have e:(bif (!(decide (l.length=0))) then ((OpOf.kind (List.getD l (Int.toNat 0) Op.nil))==al) else false)=sgl al l:=by
  rw [Qs]
  simp only [sgl]
  (simp only [iB,vcS])
  try rfl
 rw [e]
 refine ⟨hp,fun h=> ⟨YS,?_⟩,JP⟩
 revert h
 (simp only [iB,vcS])
 omega
theorem ZEO(Zxm:Contract Tryz.prog cfg 193 Z6v):Contract Tryz.prog cfg 143 Zd5:=by
 refine ZzH Zxm ?_
 intro p q _ hp
 refine ZGW _ _ _ ?_;(try simp only [iB,vcT,forall_eq])
 refine ⟨hp,?_⟩
 exact JP
theorem ZEd:Contract Tryz.prog cfg 227 Z8N:=by
 refine ZyW Zt0 ?_
 intro l al n _ hp
 simp only [Z8h] at hp
 obtain ⟨⟨ho,hm⟩,hl,h1,h2⟩:=hp
 have hmem:=Ze (l:=l) (i:=0) YS Op.nil
 have hok:=ho _ hmem
 have hmo:=ZZ hmem
 have hlen:=Y0 l
 refine ZG7 _ _ _ _ ?_;(try simp only [iB,vcT])
 rintro y rfl _ rfl _ rfl
 have e0:(Int.toNat 0)=0:=rfl
 have e1:(Int.toNat 1)=1:=rfl
 simp only [e0,e1]
 have hT:∀ o r,Zs (l.getD 0 Op.nil) n=o->Zz l n=r->True:=fun _ _ _ _=> trivial
 have hon:=Z8p hok
 have hln:=Yr (l.getD 0 Op.nil)
 (simp only [iB,vcS])
 generalize hy:l.getD 0 Op.nil=y at*
 refine ⟨⟨YS,YS⟩,⟨V2,hon⟩,fun hc=> ⟨⟨YS,YS⟩,?_⟩,fun hc=> ⟨fun hk=> ⟨V3,⟨YS,YS⟩,by simp;omega,?_⟩,fun hk=> ?_⟩⟩
 .have t1:Zs y n=y:=by rw [Zs,if_pos hc]
  have t2:Zz l n=l.drop 1:=by rw [Zz,hy,if_pos hc]
  simp only [ZeJ,Z9f,hy,t1,t2]
  exact JP
 .have t1:Zs y n=⟨y.kind,n,y.l,y.e⟩:=by rw [Zs,if_neg hc,if_pos hk]
  have t2:Zz l n=⟨y.kind,y.n - n,y.l,y.e⟩ ::l.drop 1:=by rw [Zz,hy,if_neg hc,Jb,if_pos hk]
  simp only [ZeJ,Z9f,hy,t1,t2]
  exact JP
 .have t1:Zs y n=⟨y.kind,y.n,y.l.take n.toNat,y.e⟩:=by rw [Zs,if_neg hc,if_neg hk]
  have t2:Zz l n=⟨y.kind,y.n,y.l.drop n.toNat,y.e⟩ ::l.drop 1:=by rw [Zz,hy,if_neg hc,Jb,if_neg hk]
  simp only [ZeJ,Z9f,hy,t1,t2]
  unfold ZC at hok
  refine ⟨?_,?_,⟨YS,YS⟩,by simp;omega,?_⟩
  .split at hln <;> omega
  .split at hln <;> omega
  ·exact JP
theorem Z39(n:Nat):∀ (l:List Tree),Z9 (l.drop n)<=Z9 l:=by
 induction n with
 | zero=> intro l;simp
 | succ n ih=>
  intro l
  cases l with
  | nil=> simp
  | cons t r=> simp only [Qq,Z9];have:=ih r;omega
theorem ZfJ(n:Nat):∀ (l:List Tree),Z9 (l.take n)<=Z9 l:=by
 induction n with
 | zero=> intro l;simp [Z9]
 | succ n ih=>
  intro l
  cases l with
  | nil=> simp
  | cons t r=> simp only [List.take_succ_cons,Z9];have:=ih r;omega
theorem Zw{o:Op}(h:ZC o):1<=Z6 o:=by
 have:=Yr o
 unfold ZC at h
 have hl:o.l≠[]->0 < o.l.length:=Xt.2
 rcases h with ⟨h1,h2,h3,h4⟩ | ⟨h1,h2,h3,h4⟩ | ⟨h1,h2,h3⟩
 .rw [h2] at this;simp at this;split at this <;> omega
 .have:=hl h3;split at* <;> omega
 .rw [if_pos h1] at this;omega
theorem Z5T{o:Op}(h:ZC o)(hm:Zu o<=20000000000):Z6 o<=20000000000:=by
 have:=Yr o
 have:=Znf hm
 have:=Z8p h
 unfold ZC at h
 rcases h with ⟨h1,h2,h3,h4⟩ | ⟨h1,h2,h3,h4⟩ | ⟨h1,h2,h3⟩
 .simp [h2,h1] at*;omega
 .split at* <;> omega
 .split at* <;> omega
theorem Z3z(o:Op)(r:List Op):Zg (o ::r)=Zu o+Zg r:=rfl
theorem Z6O{l:List Op}(h:Z9z l):Z9z (l.drop 1):=by
 cases l with
 | nil=> exact h
 | cons o r=>
  obtain ⟨h1,h2⟩:=h
  rw [Z3z] at h2
  exact ⟨fun x hx=> h1 x (Q1 _ hx),by simp only [Qq,QH];omega⟩
theorem Zb5{l:List Op}(h:Z9z l)(hl:l.length≠0):ZC (l.getD 0 Op.nil)/\Zu (l.getD 0 Op.nil)<=20000000000/\Zu (l.getD 0 Op.nil)<=Zg l:=by
 have hm:=Ze (l:=l) (i:=0) YS Op.nil
 have:=ZZ hm
 exact ⟨h.1 _ hm,by have:=h.2;omega,this⟩
theorem Z6k{o:Op}{n:Int}(h:ZC o)(h1:1<=n)(h2:¬Z6 o<=n):ZC (Jb o n)/\Zu (Jb o n)<=Zu o:=by
 have hl:=Yr o
 unfold Jb
 unfold ZC at*
 by_cases hk:o.kind=0
 .rw [if_pos hk]
  refine ⟨Or.inl ?_,by simp only [ZI];omega⟩
  rcases h with h | h | h
  .obtain ⟨a,b,c,d⟩:=h
   rw [b,JL] at hl
   simp at hl
   exact ⟨a,b,V2,d⟩
  .omega
  .omega
 .rw [if_neg hk]
  have:=Z39 n.toNat o.l
  refine ⟨Or.inr ?_,by simp only [ZI];omega⟩
  rcases h with h | h | h
  .omega
  .obtain ⟨a,b,c,d⟩:=h
   rw [JL] at hl
   refine Or.inl ⟨a,b,?_,d⟩
   intro he
   have:=congrArg List.length he
   simp at this
   omega
  .rw [if_pos h.1] at hl;omega
theorem Zft{l:List Op}{n:Int}(h:Z9z l)(hl:l.length≠0)(h1:1<=n):Z9z (Zz l n):=by
 unfold Zz
 split
 .exact Z6O h
 .rename_i hc
  obtain ⟨a,b,c⟩:=Zb5 h hl
  obtain ⟨d,e⟩:=Z6k a h1 hc
  have hd:=Z6O h
  refine ⟨fun x hx=> ?_,?_⟩
  .rcases Qc.1 hx with rfl | hx
   .exact d
   .exact hd.1 _ hx
  .rw [Z3z]
   obtain _ | ⟨o,r⟩:=l
   .simp at hl
   .have:=h.2
    rw [Z3z] at this
    simp at*
    omega
theorem Z6p(l:List Op):Zz l (Z6 (l.getD 0 Op.nil))=l.drop 1:=by rw [Zz,if_pos (Qw _)]
theorem Z6q(o:Op):Zs o (Z6 o)=o:=by rw [Zs,if_pos (Qw _)]
theorem ZoJ{a:Int}{l:List Op}(h:sgl a l=true):l.length≠0:=(of_decide_eq_true h).1
theorem Zgx{α:Type}(b:Bool)(x:α):(bif b then x else x)=x:=by cases b <;> rfl
theorem Zxm:Contract Tryz.prog cfg 193 Z6v:=by
 refine Zzb ZEe ZEd Zt0 ZsZ ?_
 intro pl pa ql qa _ hp
 simp only [ZiH] at hp
 have hpl:=Y0 pl
 have hql:=Y0 ql
 have hP:=hp.1.2
 have hQ:=hp.2.2
 refine ZGm _ _ _ _ _ ?_;(try simp only [iB,vcT,forall_eq])
 refine Z5 (ι:=List Op × List Op × List Piece) (fun s=> Z2M pl pa ql qa s.1 s.2.1 qa s.2.2) (fun s=> Z9z s.1/\Z9z s.2.1/\s.2.2.length+s.1.length+s.2.1.length<=40000000000/\ZH pa qa s.1 s.2.1 s.2.2=ZH pa qa pl ql []) (fun s=> s.1.length+s.2.1.length) (pl,ql,[]) rfl ⟨hp.1,hp.2,by simp;omega,rfl⟩ ?_
 rintro ⟨p,q,out⟩ ⟨h1,h2,h3,h4⟩
 refine Ztz _ _ _ _ _ _ _ _ _ _ ?_;(try simp only [iB,vcT])
 have e0:(Int.toNat 0)=0:=rfl
 simp only [e0,Zgx]
 dsimp only at h1 h2 h3 h4
 rintro z1 hy1 z2 hy2 y3 hy3 z4 hy4 y1 rfl y2 rfl y4 rfl y8 hy8 y9 hy9 y10 hy10 y11 hy11
 have ey:y4=y2:=hy4.trans hy2.symm
 rw [ey] at hy10 hy11 ⊢
 have e3:(OpOf.mk 0 0 [] y3:Op)=Op.nil:=by rw [hy3];try rfl
 rw [<-hy1,Z6q] at hy8
 rw [<-hy2,Z6q] at hy9
 have hmin:∀ a b:Int,(if a < b then a else b)=min b a:=by intro a b;omega
 rw [<-hy1,hmin] at hy10
 rw [<-hy2,hmin] at hy11
 simp only [hmin,e3,hy8,hy9]
 (simp only [iB,vcS])
 have o1:p.length≠0->ZC y1/\Zu y1<=20000000000:=fun h=> by have:=Zb5 h1 h;rw [<-hy1] at this;exact ⟨this.1,this.2.1⟩
 have o2:q.length≠0->ZC y2/\Zu y2<=20000000000:=fun h=> by have:=Zb5 h2 h;rw [<-hy2] at this;exact ⟨this.1,this.2.1⟩
 have tp:Zz p (Z6 y1)=p.drop 1:=by rw [hy1];exact Z6p p
 have tq:Zz q (Z6 y2)=q.drop 1:=by rw [hy2];exact Z6p q
 have hm1:=Y0 p
 have hm2:=Y0 q
 have hm3:=h1.2
 have hm4:=h2.2
 rw [ZH] at h4
 rw [<-hy1,<-hy2] at h4
 refine ⟨by simp only [Z3P];omega,fun hs=> ?_,fun hs=> ?_⟩
 .have hl:=ZoJ hs
  obtain ⟨oa,ob⟩:=o1 hl
  have oc:=Zw oa
  have od:=Z5T oa ob
  rw [dif_pos hs] at h4
  refine ⟨⟨YS,YS⟩,⟨ob,Z8p oa⟩,⟨h1,hl,oc,V2⟩,by simp;omega,(p.drop 1,q,out++[⟨1,y1,Op.nil⟩]),by rw [tp],⟨Z6O h1,h2,by simp;omega,h4⟩,by simp;omega⟩
 .rw [dif_neg (by rw [hs];exact Xl)] at h4
  refine ⟨by simp only [Z3P];omega,fun hs2=> ?_,fun hs2=> ?_⟩
  .have hl:=ZoJ hs2
   obtain ⟨oa,ob⟩:=o2 hl
   have oc:=Zw oa
   have od:=Z5T oa ob
   rw [dif_pos hs2] at h4
   refine ⟨⟨YS,YS⟩,⟨ob,Z8p oa⟩,⟨h2,hl,oc,V2⟩,by simp;omega,(p,q.drop 1,out++[⟨2,Op.nil,y2⟩]),by rw [tq],⟨h1,Z6O h2,by simp;omega,h4⟩,by simp;omega⟩
  .rw [dif_neg (by rw [hs2];exact Xl)] at h4
   refine ⟨by simp only [Z3P];omega,fun _=> by simp only [Z3P];omega,fun h=> h,fun hd=> ⟨by simp only [Z3P];omega,by simp only [Z3P];omega,fun he=> ?_,fun he=> ?_⟩,fun hd=> ?_⟩
   .rw [dif_pos hd,if_neg he] at h4
    simp only [Zig,Zdg,<-h4]
    exact JP
   .rw [dif_pos hd,if_pos he] at h4
    simp only [Zig,Zdg,<-h4]
    exact JP
   .obtain ⟨oa,ob⟩:=o1 hd.1
    obtain ⟨oc,od⟩:=o2 hd.2
    have a1:=Zw oa
    have a2:=Z5T oa ob
    have a3:=Zw oc
    have a4:=Z5T oc od
    rw [dif_neg YS,<-hy10,<-hy11] at h4
    have c1:=Yf p (min (Z6 y1) (Z6 y2)) hd.1
    have c2:=Yf q (min (Z6 y1) (Z6 y2)) hd.2
    have c3:Z6 y1<=min (Z6 y1) (Z6 y2)->(Zz p (min (Z6 y1) (Z6 y2))).length < p.length:=fun h=> Ye p _ hd.1 (by rw [<-hy1];exact h)
    have c4:Z6 y2<=min (Z6 y1) (Z6 y2)->(Zz q (min (Z6 y1) (Z6 y2))).length < q.length:=fun h=> Ye q _ hd.2 (by rw [<-hy2];exact h)
    refine ⟨⟨YS,YS⟩,⟨ob,Z8p oa⟩,⟨YS,YS⟩,⟨od,Z8p oc⟩,⟨h1,hd.1,V2,V2⟩,⟨h2,hd.2,V2,V2⟩,by simp;omega,
     (Zz p (min (Z6 y1) (Z6 y2)),Zz q (min (Z6 y1) (Z6 y2)),out++[⟨0,y10,y11⟩]),rfl,⟨Zft h1 hd.1 YS,Zft h2 hd.2 YS,by simp;omega,h4⟩,V2⟩
theorem Z5t{o:Op}(h:ZC o)(i a:Int):((Yq i a o).length:Int)=Z6 o:=by
 have hl:=Yr o
 unfold ZC at h
 simp only [Yq,Q7,Qv]
 rcases h with ⟨h1,h2,h3,h4⟩ | ⟨h1,h2,h3,h4⟩ | ⟨h1,h2,h3⟩
 .rw [if_pos h1,JL,h2]
  rw [JL,h2] at hl
  simp at*
  omega
 .rw [JL,JL]
  rw [JL] at hl
  simp
  omega
 .rw [JL,if_pos h1,h3]
  rw [if_pos h1] at hl
  simp
  omega
theorem Z4K(a:Int):∀ (l:List Op) (i:Int),(∀ o∈l,ZC o)->((Zr i a l).length:Int)=Z1y l
 | [],_,_=> rfl
 | o ::r,i,h=> by
  have h1:=Z5t (h o (Q2 ..)) i a
  have h2:=Z4K a r (i+1) (fun x hx=> h x (Q1 _ hx))
  simp only [Zr,Q7,Z1y]
  omega
theorem ZEF:Contract Tryz.prog cfg 157 ZcX:=by
 refine Zzv ?_
 intro l al _ hp
 simp only [Zfc] at hp
 obtain ⟨⟨hok,hma⟩,hk⟩:=hp
 have hln:=Y0 l
 have htot:=Z4K al l 0 hok
 refine ZGJ _ _ _ ?_;(try simp only [iB,vcT,forall_eq])
 refine Z5 (ι:=Int × List AUnit) (fun s=> Z4y l al s.1 s.2) (fun s=> 0<=s.1/\s.1<=l.length/\s.2++Zr s.1 al (l.drop s.1.toNat)=Zr 0 al l) (fun s=> ((l.length:Int) - s.1).toNat) (0,[]) rfl ⟨by simp,by simp,by simp⟩ ?_
 rintro ⟨i,out⟩ ⟨h1,h2,h3⟩
 dsimp only at h1 h2 h3
 refine ZtR _ _ _ _ _ _ ?_;(try simp only [iB,vcT,forall_eq])
 (simp only [iB,vcS]);(try simp only [iB,vcT])
 refine ⟨fun hi=> ⟨⟨h1,hi⟩,?_⟩,fun hi=> ?_⟩
 .have hmem:=Ze (l:=l) (i:=i.toNat) YS Op.nil
  have ho:=hok _ hmem
  have hmo:=ZZ hmem
  rw [ZQ h1 hi Op.nil] at h3
  simp only [Zr] at h3
  have hlen:=congrArg List.length h3
  have hul:=Z5t ho i al
  generalize hy:l.getD i.toNat Op.nil=o at*
  have hon:=Z8p ho
  have hol:=Znf (o:=o) YS
  have hole:=Z5T ho YS
  simp only [Q7] at hlen
  let u:AUnit:=⟨i,0,Tree.nil,Edit.nil,false⟩
  let A:List AUnit:=if o.kind=0 then List.replicate o.n.toNat u else []
  have hA:A.length<=40000000000:=by simp only [A];split <;> simp;omega
  refine Z5 (ι:=Int) (fun k=> Z7c l al i k (out++List.replicate k.toNat u)) (fun k=> 0<=k/\k<=(if o.kind=0 then o.n else 0)) (fun k=> (o.n - k).toNat) 0 (by simp) ⟨YS,by split <;> omega⟩ ?_
  rintro k ⟨k1,k2⟩
  refine ZtQ _ _ _ _ _ _ _ _ ?_;(try simp only [iB,vcT,forall_eq])
  simp only [hy]
  (simp only [iB,vcS]);(try simp only [iB,vcT])
  refine ⟨fun hc=> ?_,fun hc=> ?_⟩
  .rw [if_pos hc.2] at k2
   refine ⟨by simp;omega,V3,k+1,?_,⟨YS,by rw [if_pos hc.2];omega⟩,YS⟩
   rw [show (k+1).toNat=k.toNat+1 by omega,List.replicate_succ',<-Qa]
   try rfl
  .have hkA:List.replicate k.toNat u=A:=by
    simp only [A]
    by_cases hk0:o.kind=0
    .rw [if_pos hk0] at k2 ⊢
     rw [show k=o.n by omega]
    .rw [if_neg hk0] at k2 ⊢
     rw [show k=0 by omega]
     try rfl
   rw [hkA]
   refine Z5 (ι:=Int) (fun j=> Z7b l al i j (out++(A++(o.l.take j.toNat).map (fun t=> (⟨i,o.kind,t,Edit.nil,decide (o.kind=al)⟩:AUnit))))) (fun j=> 0<=j/\j<=o.l.length) (fun j=> ((o.l.length:Int) - j).toNat) 0 (by simp) ⟨YS,YS⟩ ?_
   rintro j ⟨j1,j2⟩
   refine ZtP _ _ _ _ _ _ _ _ ?_;(try simp only [iB,vcT])
   rw [hy]
   rintro y1 hy1 y3 hy3 y5 hy5
   obtain rfl:=hy1.symm
   have hjl:(o.l.take j.toNat).length<=20000000000:=by simp;omega
   (simp only [iB,vcS])
   refine ⟨fun hc=> ⟨⟨j1,hc⟩,by simp;omega,V3,j+1,?_,⟨YS,YS⟩,YS⟩,fun hc=> ?_⟩
   .rw [show (j+1).toNat=j.toNat+1 by omega,QV YS,Xs,<-Qa,<-Qa,<-Qa]
    congr 2
    have e:o.l.getD j.toNat Tree.nil=o.l[j.toNat]:=by rw [Qg,Q0 YS];try rfl
    rw [hy5,e]
    have e2:(o.kind==al)=decide (o.kind=al):=by rw [Qs];(simp only [iB,vcS])
    rw [e2]
    try rfl
   .rw [Qu YS]
    have e4:∀ B:List AUnit,out++(A++(o.l.map (fun t=> (⟨i,o.kind,t,Edit.nil,decide (o.kind=al)⟩:AUnit))))++B=out++(A++(o.l.map (fun t=> (⟨i,o.kind,t,Edit.nil,decide (o.kind=al)⟩:AUnit))++B)):=by intro B;simp
    refine ⟨fun hq=> ⟨by simp;omega,V3,(i+1,out++Yq i al o),?_,⟨V2,V2,?_⟩,V2⟩,fun hq=> ⟨V3,(i+1,out++Yq i al o),?_,⟨V2,V2,?_⟩,V2⟩⟩
    .rw [e4]
     simp only [Yq]
     rw [if_pos hq,hy3]
     try rfl
    .rw [Qa];exact h3
    .simp only [Yq]
     rw [if_neg hq]
     simp only [Qo]
     try rfl
    .rw [Qa];exact h3
 .rw [Q9 YS] at h3
  simp only [Zr,Qo] at h3
  rw [h3]
  exact JP
theorem Z8w{α:Type}(l:List α)(i:Nat)(d:α):(l.drop i).getD 0 d=l.getD i d:=by
 simp [Qg]
theorem Zmf{l:List AUnit}{i:Int}(h0:0<=i):(alo (l.drop i.toNat)=true)↔(i < l.length/\(l.getD i.toNat AUnit.nil).alone=true):=by
 unfold alo
 rw [decide_eq_true_eq,Z8w,Qk]
 constructor
 .rintro ⟨a,b⟩;exact ⟨YS,b⟩
 .rintro ⟨a,b⟩;exact ⟨YS,b⟩
theorem Zg5{α:Type}(l:List α){i:Int}(h0:0<=i):(l.drop i.toNat).drop 1=l.drop (i+1).toNat:=by
 rw [Xo];congr 1;omega
theorem ZEG:Contract Tryz.prog cfg 156 ZcY:=by
 refine Zzw ?_
 intro p q _ hp
 simp only [ZiN] at hp
 refine ZGK _ _ _ ?_;(try simp only [iB,vcT])
 refine Z5 (ι:=Int × Int × List APair) (fun s=> Z2P p q s.1 s.2.1 s.2.2) (fun s=> (0<=s.1/\s.1<=p.length)/\(0<=s.2.1/\s.2.1<=q.length)/\s.2.2.length<=s.1+s.2.1/\ZB (p.drop s.1.toNat) (q.drop s.2.1.toNat) s.2.2=ZB p q []) (fun s=> ((p.length:Int) - s.1).toNat+((q.length:Int) - s.2.1).toNat) (0,0,[]) rfl ⟨by simp,by simp,by simp,by simp⟩ ?_
 rintro ⟨i,j,out⟩ ⟨⟨h1,h2⟩,⟨h3,h4⟩,h5,h6⟩
 dsimp only at h1 h2 h3 h4 h5 h6
 refine ZtS _ _ _ _ _ _ _ ?_;(try simp only [iB,vcT])
 rintro y1 hy1 y2 hy2 y3 hy3 y4 hy4 y5 hy5
 obtain rfl:=hy4.symm
 obtain rfl:=hy5.symm
 obtain ⟨y6,hy6⟩:∃ y,y=APair.mk 1 y1 (AUnit.mk 0 0 (Tree.mk 0 [] []) y3 false):=⟨_,rfl⟩
 obtain ⟨y7,hy7⟩:∃ y,y=APair.mk 2 (AUnit.mk 0 0 (Tree.mk 0 [] []) y3 false) y2:=⟨_,rfl⟩
 rw [<-hy6,<-hy7]
 have e1:y6=⟨1,y1,AUnit.nil⟩:=by rw [hy6,hy3];try rfl
 have e2:y7=⟨2,AUnit.nil,y2⟩:=by rw [hy7,hy3];try rfl
 rw [ZB,Z8w,Z8w,<-hy1,<-hy2,Zg5 _ h1,Zg5 _ h3] at h6
 have ap:=Zmf (l:=p) h1
 have aq:=Zmf (l:=q) h3
 rw [<-hy1] at ap
 rw [<-hy2] at aq
 (simp only [iB,vcS])
 try simp only [iB,vcT]
 refine ⟨fun hc=> ⟨fun _=> ⟨h1,YS⟩,fun ha=> ⟨⟨h1,ha.1⟩,by simp;omega,V3,(i+1,j,out++[y6]),rfl,⟨⟨YS,V2⟩,⟨h3,h4⟩,by simp;omega,?_⟩,V2⟩,fun ha=> ⟨fun _=> ⟨h3,YS⟩,fun hb=> ⟨⟨h3,hb.1⟩,by simp;omega,V3,(i,j+1,out++[y7]),rfl,⟨⟨h1,h2⟩,⟨V2,V2⟩,by simp;omega,?_⟩,V2⟩,fun hb=> ⟨fun he=> ?_,fun he=> ?_⟩⟩⟩,fun hc=> ?_⟩
 .rw [dif_pos (ap.2 ha),<-e1] at h6;exact h6
 .rw [dif_neg (fun h=> ?_),dif_pos (aq.2 hb),<-e2] at h6
  .exact h6
  .have:=ap.1 h;simp_all
 .rw [dif_neg (fun h=> ?_),dif_neg (fun h=> ?_),dif_pos (by simp only [Qk];omega),if_neg] at h6
  .simp only [Zio,<-h6]
   exact JP
  .simp only [Qk,decide_eq_decide];omega
  .have:=aq.1 h;simp_all
  .have:=ap.1 h;simp_all
 .rw [dif_neg (fun h=> ?_),dif_neg (fun h=> ?_),dif_neg (by simp only [Qk];omega)] at h6
  .refine ⟨⟨h1,YS⟩,⟨h3,YS⟩,by simp;omega,V3,V3,(i+1,j+1,out++[⟨0,y1,y2⟩]),rfl,⟨⟨V2,V2⟩,⟨V2,V2⟩,by simp;omega,h6⟩,V2⟩
  .have:=aq.1 h;simp_all
  .have:=ap.1 h;simp_all
 .rw [dif_neg (fun h=> ?_),dif_neg (fun h=> ?_),dif_pos (by simp only [Qk];omega),if_pos] at h6
  .simp only [Zio,<-h6]
   exact JP
  .simp only [Qk,decide_eq_decide];omega
  .have:=aq.1 h;omega
  .have:=ap.1 h;omega
theorem ZEk:Contract Tryz.prog cfg 201 ZcP:=by
 refine Zz3 ?_
 intro u _ hp
 refine ZGe _ _ ?_;(try simp only [iB,vcT,forall_eq])
 (simp only [iB,vcS]);(try simp only [iB,vcT])
 refine ⟨fun h=> ?_,fun h=> ⟨fun h2=> ?_,fun h2=> ?_⟩⟩
 .have e:opU u=⟨0,1,[],Edit.nil⟩:=by rw [opU,if_pos h]
  simp only [ZeK,e]
  exact JP
 .have e:opU u=⟨3,0,[],u.e⟩:=by rw [opU,if_neg h,if_pos h2]
  simp only [ZeK,e]
  exact JP
 .have e:opU u=⟨u.kind,0,[u.t],Edit.nil⟩:=by rw [opU,if_neg h,if_neg h2]
  try (simp only [Tree.eta,Edit.eta,Tree.kind_mk,Tree.words_mk,Tree.kids_mk])
  simp only [ZeK,e]
  exact JP
theorem Z3U{α:Type}{a b:α}(h:¬a=b):eqX a b=false:=by rw [<-XM,YO];exact h
theorem Z2p{α:Type}(d:α){a b:List α}(hl:a.length=b.length)(h:∀ i:Nat,i < a.length->a.getD i d=b.getD i d):a=b:=by
 apply KD hl
 intro i h1 h2
 have:=h i h1
 simpa [Qg,Q0 h1,Q0 h2] using this
theorem c69:Contract Tryz.prog cfg 69 Zem:=by
 refine ZDE c26 ?_
 intro a b _ hp
 simp only [Zl6] at hp
 refine ZIE _ _ _ ?_;(try simp only [iB,vcT,forall_eq])
 (simp only [iB,vcS]);(try simp only [iB,vcT])
 refine ⟨fun hc=> Zf rfl (Z3U (a:=a) (b:=b) (fun h=> hc (by rw [h]))).symm,fun hc=> ?_⟩
 have hl:a.length=b.length:=YS
 have hla:=Zq a
 refine Z5 (ι:=Int) (fun i=> Za4 a b i) (fun i=> 0<=i/\i<=a.length/\∀ j:Nat,(j:Int) < i->a.getD j Tree.nil=b.getD j Tree.nil) (fun i=> ((a.length:Int) - i).toNat) 0 rfl ⟨YS,YS,by intro j hj;omega⟩ ?_
 rintro i ⟨h1,h2,h3⟩
 refine Zyf _ _ _ _ _ ?_;(try simp only [iB,vcT,forall_eq])
 (simp only [iB,vcS]);(try simp only [iB,vcT])
 try (simp only [Tree.eta,Edit.eta,Tree.kind_mk,Tree.words_mk,Tree.kids_mk])
 refine ⟨fun hi=> ⟨⟨h1,hi⟩,⟨h1,YS⟩,?_,fun hq=> ?_,fun hq=> ⟨V3,i+1,rfl,⟨YS,YS,?_⟩,YS⟩⟩,fun hi=> ?_⟩
 .have:=YN (Ze (l:=a) (i:=i.toNat) YS Tree.nil)
  simp only [Z3x];omega
 .refine Zf rfl (Z3U (a:=a) (b:=b) (fun h=> ?_)).symm
  rw [h,J0] at hq
  exact hq rfl
 .intro j hj
  by_cases hj2:(j:Int) < i
  .exact h3 j hj2
  .rw [J4,show i.toNat=j by omega] at hq
   exact hq
 .refine Zf rfl (YO (a:=a) (b:=b).2 (Z2p Tree.nil hl (fun j hj=> h3 j YS))).symm
theorem Zxe{a b:Edit}(h1:a.kind=b.kind)(h2:a.old=b.old)(h3:a.new=b.new)(h4:a.words=b.words)(h5:a.kids=b.kids)(h6:a.list=b.list)(h7:a.ops=b.ops):a=b:=by
 cases a;cases b;simp_all
theorem ZAf{a b:Kid}(h1:a.at_=b.at_)(h2:a.e=b.e):a=b:=by cases a;cases b;simp_all
theorem ZDq{a b:Op}(h1:a.kind=b.kind)(h2:a.n=b.n)(h3:a.l=b.l)(h4:a.e=b.e):a=b:=by cases a;cases b;simp_all
theorem ZrX{a b:WEdit}(h1:a.at_=b.at_)(h2:a.mask=b.mask)(h3:a.old=b.old)(h4:a.new=b.new):a=b:=by cases a;cases b;simp_all
theorem c18:Contract Tryz.prog cfg 18 Zes:=by
 refine ZDL c26 c69 ?_
 intro N a b _ hp hN
 simp only [Z5l,Zlx] at hp hN
 have hme:=YC a
 have hkl:=YQ a.kids
 have hol:=Y0 a.ops
 have neq:∀ {P:Prop},(a=b->P)->¬P->eqX a b=false:=fun h1 h2=> Z3U (fun h=> h2 (h1 h))
 refine ZIQ N a b _ ?_;(try simp only [iB,vcT])
 rintro y1 rfl y2 rfl y3 rfl y4 rfl
 (simp only [iB,vcS]);(try simp only [iB,vcT])
 refine ⟨fun _=> ?_,fun _=> ?_,fun hc=> ?_,fun hc=> ?_⟩
 .simp only [Z3x];omega
 .simp only [Z3x];omega
 .refine Zf rfl (Z3U (a:=a) (b:=b) (fun h=> ?_)).symm
  rw [h] at hc
  simp only [J0] at hc
  simp at hc
 .simp only [J4,Classical.not_not] at hc
  obtain ⟨⟨⟨⟨⟨⟨h1,h2⟩,h3⟩,h4⟩,h5⟩,h6⟩,h7⟩:=hc
  refine Z5 (ι:=Int) (fun i=> Zae a b i) (fun i=> 0<=i/\i<=a.words.length/\∀ j:Nat,(j:Int) < i->a.words.getD j (WEdit.mk 0 0 0 0)=b.words.getD j (WEdit.mk 0 0 0 0)) (fun i=> ((a.words.length:Int) - i).toNat) 0 rfl ⟨YS,YS,by intro j hj;omega⟩ ?_
  rintro i ⟨g1,g2,g3⟩
  refine Zys _ _ _ _ _ _ ?_;(try simp only [iB,vcT,forall_eq])
  (simp only [iB,vcS]);(try simp only [iB,vcT])
  try simp only [and_true]
  refine ⟨fun hi=> ⟨⟨g1,hi⟩,⟨g1,YS⟩,fun hq=> ?_,fun hq=> ⟨V3,i+1,rfl,⟨YS,YS,?_⟩,YS⟩⟩,fun hi=> ?_⟩
  .refine Zf rfl (Z3U (a:=a) (b:=b) (fun h=> ?_)).symm
   rw [h] at hq
   simp at hq
  .intro j hj
   by_cases hj2:(j:Int) < i
   .exact g3 j hj2
   .rw [show i.toNat=j by omega] at hq
    exact ZrX hq.1 hq.2.1 hq.2.2.1 hq.2.2.2
  .have hw:a.words=b.words:=Z2p (WEdit.mk 0 0 0 0) YS (fun j hj=> g3 j YS)
   refine Z5 (ι:=Int) (fun i=> Zad a b i) (fun i=> 0<=i/\i<=a.kids.length/\∀ j:Nat,(j:Int) < i->a.kids.getD j (KidOf.mk 0 Edit.nil)=b.kids.getD j (KidOf.mk 0 Edit.nil)) (fun i=> ((a.kids.length:Int) - i).toNat) 0 rfl ⟨YS,YS,by intro j hj;omega⟩ ?_
   rintro i ⟨g1,g2,g3⟩
   refine Zyr _ _ _ _ _ _ ?_;(try simp only [iB,vcT])
   rintro y1 hy1 y2 hy2 y3 hy3 y4 hy4
   (simp only [iB,vcS]);(try simp only [iB,vcT])
   refine ⟨fun hi=> ⟨⟨g1,hi⟩,⟨g1,YS⟩,fun _=> ⟨g1,hi⟩,fun _=> ⟨g1,YS⟩,fun _=> ?_,fun _=> ?_,fun hq=> ?_,fun hq=> ⟨V3,i+1,rfl,⟨YS,YS,?_⟩,YS⟩⟩,fun hi=> ?_⟩
   .have:=Jn (Ze (l:=a.kids) (i:=i.toNat) YS (KidOf.mk 0 Edit.nil))
    rw [<-hy1,<-hy3] at this
    simp only [Z5l];omega
   .have:=Jn (Ze (l:=a.kids) (i:=i.toNat) YS (KidOf.mk 0 Edit.nil))
    rw [<-hy1,<-hy3] at this
    simp only [Zlx];omega
   .refine Zf rfl (Z3U (a:=a) (b:=b) (fun h=> ?_)).symm
    rw [h] at hy1
    rw [hy3,hy4,hy1,hy2,Zg2] at hq
    simp at hq
   .intro j hj
    by_cases hj2:(j:Int) < i
    .exact g3 j hj2
    .rw [YO,hy3,hy4,hy1,hy2,show i.toNat=j by omega] at hq
     exact ZAf (by simpa using hq.1) hq.2
   .have hk:a.kids=b.kids:=Z2p (KidOf.mk 0 Edit.nil) YS (fun j hj=> g3 j YS)
    refine Z5 (ι:=Int) (fun i=> Zac a b i) (fun i=> 0<=i/\i<=a.ops.length/\∀ j:Nat,(j:Int) < i->a.ops.getD j Op.nil=b.ops.getD j Op.nil) (fun i=> ((a.ops.length:Int) - i).toNat) 0 rfl ⟨YS,YS,by intro j hj;omega⟩ ?_
    rintro i ⟨g1,g2,g3⟩
    refine Zyq _ _ _ _ _ _ ?_;(try simp only [iB,vcT])
    rintro y1 hy1 y2 hy2 y3 hy3 y4 hy4
    (simp only [iB,vcS]);(try simp only [iB,vcT])
    refine ⟨fun hi=> ⟨⟨g1,hi⟩,⟨g1,YS⟩,fun _=> ?_,fun _=> ?_,fun _=> ?_,fun hq=> ?_,fun hq=> ⟨V3,i+1,rfl,⟨YS,YS,?_⟩,YS⟩⟩,fun hi=> ?_⟩
    .have:=ZZ (Ze (l:=a.ops) (i:=i.toNat) YS Op.nil)
     rw [<-hy1,ZI] at this
     simp only [Zl6];omega
    .have:=ZZ (Ze (l:=a.ops) (i:=i.toNat) YS Op.nil)
     rw [<-hy1,ZI,<-hy3] at this
     simp only [Z5l];omega
    .have:=ZZ (Ze (l:=a.ops) (i:=i.toNat) YS Op.nil)
     rw [<-hy1,ZI,<-hy3] at this
     simp only [Zlx];omega
    .refine Zf rfl (Z3U (a:=a) (b:=b) (fun h=> ?_)).symm
     rw [h] at hy1
     rw [hy3,hy4,hy1,hy2,Zg2,Zg2] at hq
     simp at hq
    .intro j hj
     by_cases hj2:(j:Int) < i
     .exact g3 j hj2
     .rw [YO,YO,hy3,hy4,hy1,hy2,show i.toNat=j by omega] at hq
      obtain ⟨⟨⟨q1,q2⟩,q3⟩,q4⟩:=hq
      exact ZDq (by simpa using q1) (by simpa using q2) q3 q4
    .have ho:a.ops=b.ops:=Z2p Op.nil YS (fun j hj=> g3 j YS)
     exact Zf rfl (YO (a:=a) (b:=b).2 (Zxe h1 h3 h4 hw hk h2 ho)).symm
theorem Ze0(a:Int)(o:Op):Zr 0 a [o]=Yq 0 a o:=by simp [Zr]
theorem Z3H{alone:Int}{x:Piece}{r:List Piece}{m:List APair}:Zgi alone (x ::r) m=∃ m1 m2,m=m1++m2/\m1≠[]/\((x.of=0\/x.of=1\/x.of=2)/\(x.of=2->x.p=Op.nil)/\(∀ y∈m1,y.of=x.of)/\(x.of≠2->ZC x.p/\Zu x.p<=18000000000/\Z6 x.p=m1.length/\Z7T x.p alone (m1.map APair.p))
   /\(x.of≠1->ZC x.q/\Zu x.q<=18000000000/\Z6 x.q=m1.length/\Z7T x.q 2 (m1.map APair.q)))/\Zgi alone r m2:=rfl
def vu(u:AUnit):Op × Bool:=(opU u,u.alone)
def vs(a:Int)(o:Op):List (Op × Bool):=(Yq 0 a o).map vu
def vsL(a:Int)(l:List Op):List (Op × Bool):=l.flatMap (vs a)
theorem Zy1(i a:Int)(o:Op):(Yq i a o).map vu=vs a o:=by
 simp only [vs,Yq,Xs,X5]
 congr 1
 .split <;> simp [vu,opU]
 .congr 1
  split <;> simp [vu,opU]
theorem Zay(a:Int):∀ (l:List Op) (i:Int),(Zr i a l).map vu=vsL a l
 | [],_=> rfl
 | o ::r,i=> by
  simp only [Zr,Xs,Zy1,Zay a r]
  try rfl
theorem Ztr{a:Int}{o:Op}(h:ZC o):((vs a o).length:Int)=Z6 o:=by
 rw [vs,Qv];exact Z5t h 0 a
theorem Zon{a:Int}{o:Op}(h:ZC o)(ha:a=1\/a=2):∀ x∈vs a o,x.2=decide (o.kind=a):=by
 intro x hx
 simp only [vs,QM] at hx
 obtain ⟨u,hu,rfl⟩:=hx
 simp only [Yq,Qh,QM] at hu
 rcases hu with hu | ⟨t,ht,rfl⟩ | hu
 .split at hu
  .rw [Xz hu]
   simp only [vu]
   rw [eq_comm,decide_eq_false_iff_not];omega
  .cases hu
 .try rfl
 .split at hu
  .rw [Qf.1 hu]
   simp only [vu]
   rw [eq_comm,decide_eq_false_iff_not];omega
  .cases hu
theorem Z8C{a n:Int}{o:Op}(h:ZC o)(h1:1<=n)(hn:¬Z6 o<=n):vs a o=vs a (Zs o n)++vs a (Jb o n)/\ZC (Zs o n)/\Z6 (Zs o n)=n/\Zu (Zs o n)<=Zu o:=by
 have hl:=Yr o
 rcases h with ⟨k0,k1,k2,k3⟩ | ⟨k0,k1,k2,k3⟩ | ⟨k0,k1,k2⟩
 .have e1:Zs o n=⟨o.kind,n,o.l,o.e⟩:=by rw [Zs,if_neg hn,if_pos k0]
  have e2:Jb o n=⟨o.kind,o.n - n,o.l,o.e⟩:=by rw [Jb,if_pos k0]
  rw [JL,k1] at hl
  simp only [Q8] at hl
  rw [e1,e2]
  refine ⟨?_,Or.inl ⟨k0,k1,V2,k3⟩,?_,by simp [ZI]⟩
  .simp only [vs,Yq,k0,k1]
   simp only [if_true,QU,Qr,Xs,List.map_replicate]
   rw [if_neg V1]
   simp only [QU,Qo]
   rw [List.replicate_append_replicate]
   congr 1
   omega
  .rw [Yr]
   dsimp only
   rw [JL,k1]
   simp
 .have e1:Zs o n=⟨o.kind,o.n,o.l.take n.toNat,o.e⟩:=by rw [Zs,if_neg hn,JL]
  have e2:Jb o n=⟨o.kind,o.n,o.l.drop n.toNat,o.e⟩:=by rw [Jb,JL]
  rw [JL] at hl
  have hm:=ZfJ n.toNat o.l
  rw [e1,e2]
  refine ⟨?_,Or.inr (Or.inl ⟨k0,k1,?_,k3⟩),?_,by simp only [ZI];omega⟩
  .simp only [vs,Yq]
   rw [JL,JL]
   simp only [Qr,Qo]
   rw [<-Xs,<-Xs,QS]
  .intro he
   have:=congrArg List.length he
   simp only [Qj,Q8] at this
   omega
  .rw [Yr]
   dsimp only
   rw [JL,Qj]
   omega
 .rw [if_pos k0] at hl
  omega
def okL(l:List Op):Prop:=∀ o∈l,ZC o/\Zu o<=18000000000
theorem Zlo{l:List Op}(h:okL l):okL (l.drop 1):=fun o ho=> h o (Xm ho)
theorem Z5W{l:List Op}(h:okL l)(hl:l.length≠0):ZC (l.getD 0 Op.nil)/\Zu (l.getD 0 Op.nil)<=18000000000:=h _ (Ze (l:=l) (i:=0) YS Op.nil)
theorem Z4N{a n:Int}{p:List Op}(h:okL p)(hl:p.length≠0)(h1:1<=n)(hn:n<=Z6 (p.getD 0 Op.nil)):
  vsL a p=vs a (Zs (p.getD 0 Op.nil) n)++vsL a (Zz p n)/\ZC (Zs (p.getD 0 Op.nil) n)/\Z6 (Zs (p.getD 0 Op.nil) n)=n/\Zu (Zs (p.getD 0 Op.nil) n)<=18000000000/\okL (Zz p n):=by
 obtain ⟨ha,hb⟩:=Z5W h hl
 obtain _ | ⟨o,r⟩:=p
 .simp at hl
 have e:(o ::r).getD 0 Op.nil=o:=rfl
 unfold Zz
 simp only [e] at ha hb hn ⊢
 by_cases hc:Z6 o<=n
 .have t:Zs o n=o:=by rw [Zs,if_pos hc]
  rw [if_pos hc,t]
  exact ⟨rfl,ha,YS,hb,Zlo h⟩
 .rw [if_neg hc]
  obtain ⟨g1,g2,g3,g4⟩:=Z8C (a:=a) ha h1 hc
  obtain ⟨b1,b2⟩:=Z6k ha h1 hc
  refine ⟨?_,g2,g3,YS,?_⟩
  .simp only [vsL,Xq,Qq,QH]
   rw [g1,Qa]
  .intro x hx
   rcases Qc.1 hx with rfl | hx
   .exact ⟨b1,YS⟩
   .exact Zlo h x hx
theorem Z1i(u:AUnit)(P:List AUnit):alo (u ::P)=u.alone:=by
 rw [Qs]
 unfold alo
 rw [decide_eq_true_eq]
 simp
theorem Zc3:∀ (A P Q:List AUnit) (out:List APair),(∀ u∈A,u.alone=true)->ZB (A++P) Q out=ZB P Q (out++A.map (fun u=> ⟨1,u,AUnit.nil⟩))
 | [],P,Q,out,_=> by simp
 | u ::A,P,Q,out,h=> by
  have hu:=h u (Q2 ..)
  rw [Qp,ZB,dif_pos (by rw [Z1i];exact hu)]
  have:=Zc3 A P Q (out++[⟨1,u,AUnit.nil⟩]) (fun x hx=> h x (Q1 _ hx))
  simp only [Qq,QH,Qn]
  rw [show (u ::(A++P)).getD 0 AUnit.nil=u from rfl,this,Qa]
  try rfl
theorem Z9v:∀ (B P Q:List AUnit) (out:List APair),alo P=false->(∀ u∈B,u.alone=true)->ZB P (B++Q) out=ZB P Q (out++B.map (fun u=> ⟨2,AUnit.nil,u⟩))
 | [],P,Q,out,_,_=> by simp
 | u ::B,P,Q,out,hp,h=> by
  have hu:=h u (Q2 ..)
  rw [Qp,ZB,dif_neg (by rw [hp];exact Xl),dif_pos (by rw [Z1i];exact hu)]
  have:=Z9v B P Q (out++[⟨2,AUnit.nil,u⟩]) hp (fun x hx=> h x (Q1 _ hx))
  simp only [Qq,QH,Qn]
  rw [show (u ::(B++Q)).getD 0 AUnit.nil=u from rfl,this,Qa]
  try rfl
theorem Zfr:∀ (A B P Q:List AUnit) (out:List APair),A.length=B.length->(∀ u∈A,u.alone=false)->(∀ u∈B,u.alone=false)->ZB (A++P) (B++Q) out=ZB P Q (out++List.zipWith (fun u w=> ⟨0,u,w⟩) A B)
 | [],[],P,Q,out,_,_,_=> by simp
 | [],_ ::_,_,_,_,h,_,_=> by simp at h
 | _ ::_,[],_,_,_,h,_,_=> by simp at h
 | u ::A,w ::B,P,Q,out,hl,ha,hb=> by
  have hu:=ha u (Q2 ..)
  have hw:=hb w (Q2 ..)
  rw [Qp,Qp,ZB,dif_neg (by rw [Z1i,hu];exact Xl),dif_neg (by rw [Z1i,hw];exact Xl),dif_neg (by simp)]
  have:=Zfr A B P Q (out++[⟨0,u,w⟩]) (by simpa using hl) (fun x hx=> ha x (List.mem_cons_of_mem _ hx)) (fun x hx=> hb x (List.mem_cons_of_mem _ hx))
  simp only [Qq,QH,List.zipWith_cons_cons]
  rw [show (u ::(A++P)).getD 0 AUnit.nil=u from rfl,show (w ::(B++Q)).getD 0 AUnit.nil=w from rfl,this,Qa]
  try rfl
theorem ZxI{a:Int}{p:List Op}{P:List AUnit}(h:okL p)(ha:a=1\/a=2)(e:P.map vu=vsL a p):alo P=sgl a p/\(P.length=0↔p.length=0):=by
 obtain _ | ⟨o,r⟩:=p
 .have:P=[]:=by simpa [vsL] using e
  rw [this]
  exact ⟨rfl,by simp⟩
 .have ho:=(h o (Q2 ..)).1
  have hl:=Ztr (a:=a) ho
  have hp:=Zw ho
  have hf:=Zon ho ha
  simp only [vsL,Xq] at e
  obtain _ | ⟨u,P⟩:=P
  .have:=congrArg List.length e
   simp at this
   omega
  .cases hv:vs a o with
   | nil=> rw [hv] at hl;simp at hl;omega
   | cons x xs=>
    rw [hv] at e hf
    have h1:vu u=x:=by simpa using (List.cons.inj e).1
    have h2:=hf x (Q2 ..)
    rw [<-h1] at h2
    refine ⟨?_,by simp⟩
    rw [Z1i,show u.alone=(vu u).2 from rfl,h2]
    simp [sgl]
theorem ZqL{a:Int}{o:Op}{A:List AUnit}(h:ZC o)(ha:a=1\/a=2)(e:A.map vu=vs a o):(∀ u∈A,u.alone=decide (o.kind=a))/\(A.length:Int)=Z6 o/\Z7T o a A:=by
 refine ⟨fun u hu=> ?_,?_,?_⟩
 .exact Zon h ha (vu u) (by rw [<-e];exact K1 hu)
 .rw [<-Ztr (a:=a) h,<-e,Qv]
 .have:=congrArg (List.map Prod.fst) e
  simp only [vs,X5] at this
  unfold Z7T
  rw [Ze0]
  exact this.symm
theorem YE{a:Int}{l:List Op}:sgl a l=true↔(l.length≠0/\(l.getD 0 Op.nil).kind=a):=by unfold sgl;exact decide_eq_true_iff
theorem Jk(o:Op)(n:Int):(Zs o n).kind=o.kind:=by
 unfold Zs;split
 .try rfl
 .split <;> rfl
theorem ZxY{A B:List AUnit}(h:A.length=B.length):(List.zipWith (fun u w=> (⟨0,u,w⟩:APair)) A B).map APair.p=A/\(List.zipWith (fun u w=> (⟨0,u,w⟩:APair)) A B).map APair.q=B:=by
 induction A generalizing B with
 | nil=> cases B with
  | nil=> exact ⟨rfl,rfl⟩
  | cons=> simp at h
 | cons u A ih=> cases B with
  | nil=> simp at h
  | cons w B=>
   have:=ih (B:=B) (by simpa using h)
   simp only [List.zipWith_cons_cons,Qn,this.1,this.2]
   exact ⟨trivial,trivial⟩
theorem ZCT{A B:List AUnit}:∀ y∈List.zipWith (fun u w=> (⟨0,u,w⟩:APair)) A B,y.of=0:=by
 induction A generalizing B with
 | nil=> intro y hy;simp at hy
 | cons u A ih=> cases B with
  | nil=> intro y hy;simp at hy
  | cons w B=>
   intro y hy
   rcases Qc.1 hy with rfl | hy
   .try rfl
   .exact ih y hy
theorem Zvw(a:Int)(ha:a=1\/a=2):∀ (k:Nat) (p q:List Op) (out:List Piece) (P Q:List AUnit) (outm:List APair),p.length+q.length<=k->okL p->okL q->P.map vu=vsL a p->Q.map vu=vsL 2 q->
  ∃ (ok:Bool) (l:List Piece) (m:List APair),(ZH a 2 p q out).1=(if ok=true then out++l else [])/\(ZH a 2 p q out).2.1=ok/\ZB P Q outm=(if ok=true then outm++m else [],ok)
   /\(ok=true->Zgi a l m/\l.length<=p.length+q.length/\m.length<=P.length+Q.length):=by
 intro k
 induction k with
 | zero=>
  intro p q out P Q outm hk hp hq eP eQ
  have h1:p=[]:=QZ.1 YS
  have h2:q=[]:=QZ.1 YS
  subst h1 h2
  have h3:P=[]:=by simpa [vsL] using eP
  have h4:Q=[]:=by simpa [vsL] using eQ
  subst h3 h4
  refine ⟨true,[],[],?_,?_,?_,fun _=> ⟨rfl,by simp,by simp⟩⟩
  .rw [ZH];simp [sgl]
  .rw [ZH];simp [sgl]
  .rw [ZB];simp [alo]
 | succ k ih=>
  intro p q out P Q outm hk hp hq eP eQ
  obtain ⟨aP,lP⟩:=ZxI hp ha eP
  obtain ⟨aQ,lQ⟩:=ZxI hq (Or.inr rfl) eQ
  rw [ZH]
  by_cases h1:sgl a p=true
  .rw [dif_pos h1]
   obtain ⟨hl,hkind⟩:=YE.1 h1
   obtain ⟨oa,ob⟩:=Z5W hp hl
   obtain ⟨s1,s2,s3,s4,s5⟩:=Z4N (a:=a) hp hl (Zw oa) (Qw _)
   rw [Z6p] at s1 s5
   rw [Z6q] at s1 s2 s3 s4
   rw [s1] at eP
   obtain ⟨A,P',rfl,eA,eP'⟩:=XT.1 eP
   obtain ⟨f1,f2,f3⟩:=ZqL oa ha eA
   rw [decide_eq_true hkind] at f1
   rw [Zc3 A P' Q outm f1]
   obtain ⟨ok,l,m,e1,e2,e3,e4⟩:=ih (p.drop 1) q (out++[⟨1,p.getD 0 Op.nil,Op.nil⟩]) P' Q (outm++A.map (fun u=> ⟨1,u,AUnit.nil⟩)) (by simp;omega) s5 hq eP' eQ
   refine ⟨ok,⟨1,p.getD 0 Op.nil,Op.nil⟩ ::l,A.map (fun u=> ⟨1,u,AUnit.nil⟩)++m,by rw [e1,Qa];rfl,e2,by rw [e3,Qa],fun hok=> ?_⟩
   obtain ⟨g1,g2,g3⟩:=e4 hok
   have hpos:=Zw oa
   refine ⟨?_,by simp only [Q6,Qk] at g2 ⊢;omega,by simp only [Q7,Qv] at g3 ⊢;omega⟩
   rw [Z3H]
   refine ⟨A.map (fun u=> ⟨1,u,AUnit.nil⟩),m,rfl,?_,⟨Or.inr (Or.inl rfl),fun h=> by simp at h,?_,fun _=> ⟨oa,ob,?_,?_⟩,fun h=> absurd rfl h⟩,g1⟩
   .intro he;have:=congrArg List.length he;simp only [Qv,Q8] at this;omega
   .intro y hy;obtain ⟨u,_,rfl⟩:=QM.1 hy;rfl
   .rw [Qv];exact f2.symm
   .rw [X5]
    have:(APair.p ∘ fun u=> (⟨1,u,AUnit.nil⟩:APair))=id:=rfl
    rw [this,KP];exact f3
  .rw [dif_neg h1]
   have nP:alo P=false:=by rw [aP];exact XM _▸h1
   by_cases h2:sgl 2 q=true
   .rw [dif_pos h2]
    obtain ⟨hl,hkind⟩:=YE.1 h2
    obtain ⟨oa,ob⟩:=Z5W hq hl
    obtain ⟨s1,s2,s3,s4,s5⟩:=Z4N (a:=2) hq hl (Zw oa) (Qw _)
    rw [Z6p] at s1 s5
    rw [Z6q] at s1 s2 s3 s4
    rw [s1] at eQ
    obtain ⟨B,Q',rfl,eB,eQ'⟩:=XT.1 eQ
    obtain ⟨f1,f2,f3⟩:=ZqL oa (Or.inr rfl) eB
    rw [decide_eq_true hkind] at f1
    rw [Z9v B P Q' outm nP f1]
    obtain ⟨ok,l,m,e1,e2,e3,e4⟩:=ih p (q.drop 1) (out++[⟨2,Op.nil,q.getD 0 Op.nil⟩]) P Q' (outm++B.map (fun u=> ⟨2,AUnit.nil,u⟩)) (by simp;omega) hp s5 eP eQ'
    refine ⟨ok,⟨2,Op.nil,q.getD 0 Op.nil⟩ ::l,B.map (fun u=> ⟨2,AUnit.nil,u⟩)++m,by rw [e1,Qa];rfl,e2,by rw [e3,Qa],fun hok=> ?_⟩
    obtain ⟨g1,g2,g3⟩:=e4 hok
    have hpos:=Zw oa
    refine ⟨?_,by simp only [Q6,Qk] at g2 ⊢;omega,by simp only [Q7,Qv] at g3 ⊢;omega⟩
    rw [Z3H]
    refine ⟨B.map (fun u=> ⟨2,AUnit.nil,u⟩),m,rfl,?_,⟨Or.inr (Or.inr rfl),fun _=> rfl,?_,fun h=> absurd rfl h,fun _=> ⟨oa,ob,?_,?_⟩⟩,g1⟩
    .intro he;have:=congrArg List.length he;simp only [Qv,Q8] at this;omega
    .intro y hy;obtain ⟨u,_,rfl⟩:=QM.1 hy;rfl
    .rw [Qv];exact f2.symm
    .rw [X5]
     have:(APair.q ∘ fun u=> (⟨2,AUnit.nil,u⟩:APair))=id:=rfl
     rw [this,KP];exact f3
   .rw [dif_neg h2]
    have nQ:alo Q=false:=by rw [aQ];exact XM _▸h2
    by_cases h3:p.length=0\/q.length=0
    .rw [dif_pos h3]
     have e0:ZB P Q outm=if decide (P.length=0)=decide (Q.length=0) then (outm,true) else ([],false):=by
      rw [ZB,dif_neg (by rw [nP];exact Xl),dif_neg (by rw [nQ];exact Xl),dif_pos (by rw [lP,lQ];exact h3)]
     have e5:decide (P.length=0)=decide (p.length=0):=decide_eq_decide.2 lP
     have e6:decide (Q.length=0)=decide (q.length=0):=decide_eq_decide.2 lQ
     rw [e5,e6] at e0
     by_cases h4:decide (p.length=0)=decide (q.length=0)
     .rw [if_pos h4] at e0 ⊢
      exact ⟨true,[],[],by simp,rfl,by rw [e0];simp,fun _=> ⟨rfl,by simp,by simp⟩⟩
     .rw [if_neg h4] at e0 ⊢
      exact ⟨false,[],[],rfl,rfl,e0,fun h=> by cases h⟩
    .rw [dif_neg h3]
     have l1:p.length≠0:=YS
     have l2:q.length≠0:=YS
     obtain ⟨oa,ob⟩:=Z5W hp l1
     obtain ⟨oc,od⟩:=Z5W hq l2
     have p1:=Zw oa
     have p2:=Zw oc
     generalize hn:min (Z6 (p.getD 0 Op.nil)) (Z6 (q.getD 0 Op.nil))=n
     obtain ⟨s1,s2,s3,s4,s5⟩:=Z4N (a:=a) (n:=n) hp l1 YS YS
     obtain ⟨t1,t2,t3,t4,t5⟩:=Z4N (a:=2) (n:=n) hq l2 YS YS
     have k1:(Zs (p.getD 0 Op.nil) n).kind≠a:=by
      rw [Jk];intro h;exact h1 (YE.2 ⟨l1,h⟩)
     have k2:(Zs (q.getD 0 Op.nil) n).kind≠2:=by
      rw [Jk];intro h;exact h2 (YE.2 ⟨l2,h⟩)
     have c1:=Yf p n l1
     have c2:=Yf q n l2
     have c3:Z6 (p.getD 0 Op.nil)<=n->(Zz p n).length < p.length:=fun h=> Ye p _ l1 h
     have c4:Z6 (q.getD 0 Op.nil)<=n->(Zz q n).length < q.length:=fun h=> Ye q _ l2 h
     rw [s1] at eP
     rw [t1] at eQ
     obtain ⟨A,P',rfl,eA,eP'⟩:=XT.1 eP
     obtain ⟨B,Q',rfl,eB,eQ'⟩:=XT.1 eQ
     obtain ⟨f1,f2,f3⟩:=ZqL s2 ha eA
     obtain ⟨g1,g2,g3⟩:=ZqL t2 (Or.inr rfl) eB
     rw [decide_eq_false k1] at f1
     rw [decide_eq_false k2] at g1
     have hAB:A.length=B.length:=YS
     rw [Zfr A B P' Q' outm hAB f1 g1]
     obtain ⟨ok,l,m,e1,e2,e3,e4⟩:=ih (Zz p n) (Zz q n) (out++[⟨0,Zs (p.getD 0 Op.nil) n,Zs (q.getD 0 Op.nil) n⟩]) P' Q' (outm++List.zipWith (fun u w=> ⟨0,u,w⟩) A B) YS s5 t5 eP' eQ'
     refine ⟨ok,⟨0,Zs (p.getD 0 Op.nil) n,Zs (q.getD 0 Op.nil) n⟩ ::l,List.zipWith (fun u w=> ⟨0,u,w⟩) A B++m,by rw [e1,Qa];rfl,e2,by rw [e3,Qa],fun hok=> ?_⟩
     obtain ⟨i1,i2,i3⟩:=e4 hok
     have hzl:(List.zipWith (fun u w=> (⟨0,u,w⟩:APair)) A B).length=A.length:=by rw [List.length_zipWith,hAB,Nat.min_self]
     obtain ⟨z1,z2⟩:=ZxY hAB
     refine ⟨?_,by simp only [Q6];omega,by simp only [Q7,hzl];omega⟩
     rw [Z3H]
     refine ⟨List.zipWith (fun u w=> ⟨0,u,w⟩) A B,m,rfl,?_,⟨Or.inl rfl,fun h=> by simp at h,ZCT,fun _=> ⟨s2,s4,?_,?_⟩,fun _=> ⟨t2,t4,?_,?_⟩⟩,i1⟩
     .intro he;have:=congrArg List.length he;rw [hzl,Q8] at this;omega
     .rw [hzl];exact f2.symm
     .rw [z1];exact f3
     .rw [hzl,hAB];exact g2.symm
     .rw [z2];exact g3
theorem Zls{t:Tree}(h:JU t=true):t=Tree.nil:=by
 obtain ⟨k,w,ks⟩:=t
 have:=of_decide_eq_true h
 simp at this
 obtain ⟨rfl,rfl,rfl⟩:=this
 try rfl
theorem ZgK{e:Edit}(h:Z27 e=true):e=Edit.nil:=by
 obtain ⟨h1,h2,h3,h4,h5,h6,h7⟩:=Zkw h
 obtain ⟨k,o,n,w,ks,l,os⟩:=e
 simp at h1 h2 h3 h4 h5 h6 h7
 subst h1 h4 h5 h6 h7
 rw [Zls h2,Zls h3]
 try rfl
theorem Z31{list:Int}{o:Op}{d:Int}(h:Zk list o d=true):ZC o:=by
 rw [Z4S] at h
 unfold ZC
 split at h
 .rename_i h0
  simp only [Q3,decide_eq_true_eq] at h
  exact Or.inl ⟨h0,QZ.1 h.1.2.2,⟨h.1.1,h.1.2.1⟩,ZgK h.2⟩
 .split at h
  .cases h
  .rename_i h0 h1
   split at h
   .simp only [Q3,decide_eq_true_eq] at h
    refine Or.inr (Or.inl ⟨YS,YS,?_,ZgK h.2⟩)
    exact Xt.1 h.1.2
   .simp only [Q3,decide_eq_true_eq] at h
    exact Or.inr (Or.inr ⟨YS,YS,QZ.1 h.1.1.1⟩)
end Go.AM.YtpjenobkibfpcaaGreat
namespace Go.AM
def Z3F(list:Int)(e:Edit):Bool:=decide (e.kind=0\/(list=9/\e.kind=2/\e.words.length=0/\e.kids.length=0))
def Z8(l:List Tree):List Tree:=l.map Z4
def YT(kind:Int):List Op->List Tree
 | []=> []
 | o ::r=> if o.kind=1\/o.kind=2 then (if o.kind=kind then Z8 o.l else [])++YT kind r else []
def ZN:List Op->Int
 | []=> 0
 | o ::r=> if o.kind=1\/o.kind=2 then 1+ZN r else 0
end Go.AM
namespace Go.AM
def Yj{α:Type}(z:α)(l:List α)(i:Nat)(x:α):List α:=(l++List.replicate (i+1 - l.length) z).set i x
def wsD(tw:List Int):List WEdit->List Int->Option (List Int)
 | [],out=> some out
 | w ::r,out=> if mix 0 (tw.getD w.at_.toNat 0) w.mask=w.old then wsD tw r (Yj 0 out w.at_.toNat (mix (tw.getD w.at_.toNat 0) w.new w.mask)) else none
noncomputable def Z5n(l rest:List Tree):Bool:=decide (l.length<=rest.length) && eqX (Z8 l) (Z8 (rest.take l.length))
def Z3l(r:Option (List Tree × List Tree)):Option (List Tree):=r.bind fun x=> if x.2.length=0 then some x.1 else none
def nrD(r:Bool)(t:Tree):Tree:=if r then Z4 t else t
mutual
noncomputable def doE(r:Bool):Edit->Tree->Option Tree
 | .mk k o n w ks l os,t=>
  (if k=0 then some t
  else if k=1 then (if ZU (Z4 o) (Z4 t)=true then some n else none)
  else if k=2 then (if t.kind=1 then (wsD t.words w t.words).bind fun a=> (Z5f r t.kids ks t.kids).map fun b=> .mk 1 a b else none)
  else if k=3 then (if t.kind=l then (Z3l (Z0Z r os t.kids [])).map fun b=> .mk l [] b else none)
  else none).map (nrD r)
noncomputable def Z5f(r:Bool)(tk:List Tree):List (KidOf Edit)->List Tree->Option (List Tree)
 | [],out=> some out
 | k ::s,out=> (Z5p r tk k).bind fun u=> Z5f r tk s (Yj Tree.nil out k.at_.toNat u)
noncomputable def Z5p(r:Bool)(tk:List Tree):KidOf Edit->Option Tree
 | ⟨a,e⟩=> doE r e (tk.getD a.toNat Tree.nil)
noncomputable def Z0Z(r:Bool):List (OpOf Edit)->List Tree->List Tree->Option (List Tree × List Tree)
 | [],rest,out=> some (out,rest)
 | o ::s,rest,out=> (ZjJ r o rest out).bind fun x=> Z0Z r s x.2 x.1
noncomputable def ZjJ(r:Bool):OpOf Edit->List Tree->List Tree->Option (List Tree × List Tree)
 | ⟨k,n,l,e⟩,rest,out=>
  if k=0 then (if n.toNat<=rest.length then some (out++rest.take n.toNat,rest.drop n.toNat) else none)
  else if k=1 then (if Z5n l rest=true then some (out,rest.drop l.length) else none)
  else if k=2 then some (out++l,rest)
  else if rest.length=0 then none else (doE r e (rest.getD 0 Tree.nil)).map fun u=> (out++[u],rest.drop 1)
end
theorem Z8y(r:Bool)(e:Edit)(t:Tree):doE r e t=(if e.kind=0 then some t
  else if e.kind=1 then (if ZU (Z4 e.old) (Z4 t)=true then some e.new else none)
  else if e.kind=2 then (if t.kind=1 then (wsD t.words e.words t.words).bind fun a=> (Z5f r t.kids e.kids t.kids).map fun b=> .mk 1 a b else none)
  else if e.kind=3 then (if t.kind=e.list then (Z3l (Z0Z r e.ops t.kids [])).map fun b=> .mk e.list [] b else none)
  else none).map (nrD r):=by cases e;rfl
noncomputable def Zn3(r:Bool)(e:Edit)(t:Tree):Option Tree:=
 if e.kind=0 then some t
 else if e.kind=1 then (if ZU (Z4 e.old) (Z4 t)=true then some e.new else none)
 else if e.kind=2 then (if t.kind=1 then (wsD t.words e.words t.words).bind fun a=> (Z5f r t.kids e.kids t.kids).map fun b=> .mk 1 a b else none)
 else if e.kind=3 then (if t.kind=e.list then (Z3l (Z0Z r e.ops t.kids [])).map fun b=> .mk e.list [] b else none)
 else none
theorem ZdE(r:Bool)(e:Edit)(t:Tree):doE r e t=(Zn3 r e t).map (nrD r):=Z8y r e t
theorem Zm2(r:Bool)(tk:List Tree)(k:Kid):Z5p r tk k=doE r k.e (tk.getD k.at_.toNat Tree.nil):=by cases k;rfl
theorem ZqO(r:Bool)(o:Op)(rest out:List Tree):ZjJ r o rest out=if o.kind=0 then (if o.n.toNat<=rest.length then some (out++rest.take o.n.toNat,rest.drop o.n.toNat) else none)
  else if o.kind=1 then (if Z5n o.l rest=true then some (out,rest.drop o.l.length) else none)
  else if o.kind=2 then some (out++o.l,rest)
  else if rest.length=0 then none else (doE r o.e (rest.getD 0 Tree.nil)).map fun u=> (out++[u],rest.drop 1):=by cases o;rfl
noncomputable def Z2U(r:Bool)(e:Edit)(t:Tree):Option Tree:=
 if t.kind=1 then (wsD t.words e.words t.words).bind fun a=> (Z5f r t.kids e.kids t.kids).map fun b=> .mk 1 a b else none
noncomputable def Z0o(r:Bool)(e:Edit)(t:Tree):Option (List Tree × List Tree):=if t.kind=e.list then Z0Z r e.ops t.kids [] else none
def Z0O(o:Option Tree):Tree:=o.getD Tree.nil
def Zjb(e:Edit)(o:Option (List Tree × List Tree)):Tree:=match o with | some x=> .mk e.list [] x.1 | none=> Tree.nil
noncomputable def ZcD(e:Edit)(t:Tree):Tree:=
 if e.kind=0 then t else if e.kind=1 then e.new else if e.kind=2 then Z0O (Z2U false e t) else if e.kind=3 then Zjb e (Z0o false e t) else Tree.nil
theorem Z6Q(o:Option Tree):o.map (nrD false)=o:=by cases o <;> rfl
theorem Zb3{e:Edit}{t u:Tree}(h:doE false e t=some u):ZcD e t=u:=by
 rw [Z8y,Z6Q] at h
 unfold ZcD
 split
 .rename_i h0;rw [if_pos h0] at h;exact Option.some.inj h
 .rename_i h0;rw [if_neg h0] at h
  split
  .rename_i h1;rw [if_pos h1] at h
   split at h
   .exact Option.some.inj h
   .cases h
  .rename_i h1;rw [if_neg h1] at h
   split
   .rename_i h2;rw [if_pos h2] at h
    unfold Z0O Z2U
    rw [h];try rfl
   .rename_i h2;rw [if_neg h2] at h
    split
    .rename_i h3;rw [if_pos h3] at h
     unfold Zjb Z0o
     split at h
     .rename_i h4;rw [if_pos h4]
      revert h
      cases Z0Z false e.ops t.kids [] with
      | none=> intro h;cases h
      | some x=>
       intro h
       simp only [Z3l,QD] at h
       split at h
       .exact Option.some.inj h
       .cases h
     .cases h
    .rename_i h3;rw [if_neg h3] at h;cases h
end Go.AM
namespace Go.AM
structure Wst where
 out:List Op
 gone:List Tree
 brought:List Tree
def Z0r(out:List Op)(g b:List Tree):List Op:=
 out++((if g.length=0 then [] else [⟨1,0,g,Edit.nil⟩])++(if b.length=0 then [] else [⟨2,0,b,Edit.nil⟩]))
def Jp:List Op->Int->List Op
 | [],n=> [⟨0,n,[],Edit.nil⟩]
 | [o],n=> if o.kind=0 then [⟨o.kind,o.n+n,o.l,o.e⟩] else [o,⟨0,n,[],Edit.nil⟩]
 | o ::p ::r,n=> o ::Jp (p ::r) n
def Z2(w:Wst):Wst:=⟨Z0r w.out w.gone w.brought,[],[]⟩
def ZM(w:Wst)(n:Int):Wst:=⟨Jp (Z2 w).out n,[],[]⟩
mutual
def Zn:Edit->Edit
 | .mk k o n w ks l os=>
  if k=1 then .mk k (Z4 o) (Z4 n) [] [] l []
  else if k=2 then .mk k Tree.nil Tree.nil w (Jz ks) l []
  else if k=3 then .mk k Tree.nil Tree.nil [] [] l (Z2 (Zt l os ⟨[],[],[]⟩)).out
  else .mk k Tree.nil Tree.nil [] [] l []
def Jz:List (KidOf Edit)->List (KidOf Edit)
 | []=> []
 | k ::r=> Z37 k ::Jz r
def Z37:KidOf Edit->KidOf Edit
 | ⟨a,e⟩=> ⟨a,Zn e⟩
def Zt(list:Int):List (OpOf Edit)->Wst->Wst
 | [],s=> s
 | o ::r,s=> Zt list r (Z01 list o s)
def Z01(list:Int):OpOf Edit->Wst->Wst
 | ⟨k,n,l,e⟩,s=>
  if k=0 then ZM s n
  else if k=1 then ⟨s.out,s.gone++Z8 l,s.brought⟩
  else if k=2 then ⟨s.out,s.gone,s.brought++Z8 l⟩
  else if k=3 then (if Z3F list (Zn e)=true then ZM s 1 else ⟨(Z2 s).out++[⟨3,0,[],Zn e⟩],[],[]⟩)
  else s
end
theorem Z54(e:Edit):Zn e=if e.kind=1 then .mk e.kind (Z4 e.old) (Z4 e.new) [] [] e.list []
  else if e.kind=2 then .mk e.kind Tree.nil Tree.nil e.words (Jz e.kids) e.list []
  else if e.kind=3 then .mk e.kind Tree.nil Tree.nil [] [] e.list (Z2 (Zt e.list e.ops ⟨[],[],[]⟩)).out
  else .mk e.kind Tree.nil Tree.nil [] [] e.list []:=by cases e;rfl
theorem Zb7(k:Kid):Z37 k=⟨k.at_,Zn k.e⟩:=by cases k;rfl
theorem YJ(list:Int)(o:Op)(s:Wst):Z01 list o s=if o.kind=0 then ZM s o.n
  else if o.kind=1 then ⟨s.out,s.gone++Z8 o.l,s.brought⟩
  else if o.kind=2 then ⟨s.out,s.gone,s.brought++Z8 o.l⟩
  else if o.kind=3 then (if Z3F list (Zn o.e)=true then ZM s 1 else ⟨(Z2 s).out++[⟨3,0,[],Zn o.e⟩],[],[]⟩)
  else s:=by cases o;rfl
theorem Zh1(list:Int):∀ (l:List Op) (s:Wst),Zt list l s=Zt list (l.drop (ZN l).toNat) ⟨s.out,s.gone++YT 1 l,s.brought++YT 2 l⟩
 | [],s=> by simp [Zt,YT,ZN]
 | o ::r,s=> by
  by_cases h:o.kind=1\/o.kind=2
  .have hg:0<=ZN r:=gapN_nonneg r
   rw [ZN,if_pos h,YT,YT,if_pos h,if_pos h,show (1+ZN r).toNat=(ZN r).toNat+1 by omega,Qq,Zt,YJ,Zh1 list r]
   rcases h with h | h
   .rw [JL,if_pos h,if_pos h,JL]
    simp
   .rw [JL,JL,if_pos h,JL,if_pos h]
    simp
  .rw [ZN,if_neg h,YT,YT,if_neg h,if_neg h]
   simp
where
 gapN_nonneg:∀ (l:List Op),0<=ZN l
  | []=> by simp [ZN]
  | o ::r=> by
   have:=gapN_nonneg r
   rw [ZN];split <;> omega
end Go.AM
namespace Go.AM.YtpjenobkibfpcaaGreat
open Go.AM Go.Proofs
theorem ZeB(a b:Tree):ZU a b=ZU b a:=by simp [ZU,eq_comm]
theorem Zs2(l:List Int):trim (trim l)=trim l:=by
 induction l with
 | nil=> rfl
 | cons x r ih=>
  rw [Z2y]
  split
  .try rfl
  .rename_i h
   rw [Z2y,ih,if_neg h]
theorem Zmx(l:List Tree):Yp (Yp l)=Yp l:=by
 induction l with
 | nil=> rfl
 | cons x r ih=>
  rw [JV]
  split
  .try rfl
  .rename_i h
   rw [JV,ih,if_neg h]
def Normed:List Tree->Prop
 | []=> True
 | t ::r=> Z4 t=t/\Normed r
theorem Normed.eq:∀ {l:List Tree},Normed l->Yk l=l
 | [],_=> rfl
 | t ::r,h=> by simp only [Yk,h.1,Normed.eq h.2]
theorem Normed.trim:∀ {l:List Tree},Normed l->Normed (Yp l)
 | [],_=> trivial
 | t ::r,h=> by
  rw [JV]
  split
  .trivial
  .exact ⟨h.1,Normed.trim h.2⟩
mutual
theorem Z38:∀ (t:Tree),Z4 (Z4 t)=Z4 t
 | .mk k w ks=> by
  have h:=Z9B ks
  by_cases h0:k=0
  .simp [Z4,h0,Tree.nil]
  .by_cases h1:k=1
   .subst h1
    simp only [Z4,if_neg h0,if_true,Zs2,h.trim.eq,Zmx]
   .simp only [Z4,if_neg h0,if_neg h1,h.eq]
theorem Z9B:∀ (ks:List Tree),Normed (Yk ks)
 | []=> trivial
 | t ::r=> ⟨Z38 t,Z9B r⟩
end
noncomputable section
noncomputable section
def Zrd:ArgL (List Tree × Unit):=(.cons (aSl .tree) .nil)
def ZaR(a:List Tree × Unit):Prop:=Z9 a.1<=20000000000
def ZuR(a:List Tree × Unit):V U:= .c (sU .tree (Z8 a.1) .unk)
def Z91:Fs U:=fs Zrd (fun a=> [ZaR a]) ZuR
def ZrC:ArgL (List Op × Int × Int × Unit):=(.cons (aSl .op) (.cons (J9 .i64) (.cons (J9 .i64) .nil)))
def Z50(a:List Op × Int × Int × Unit):Prop:=Zg a.1<=20000000000/\0<=a.2.1/\a.2.1<=(a.1).length
def ZmU(a:List Op × Int × Int × Unit):V U:= .tup [(false,[sU .tree (YT a.2.2.1 ((a.1).drop (a.2.1).toNat)) .unk]),(false,[ci (a.2.1+ZN ((a.1).drop (a.2.1).toNat))])]
def Z6z:Fs U:=fs ZrC (fun a=> [Z50 a]) ZmU
def Z1K:List (FuncId × Fs U):=[(41,Z0l)]
def Z9J:Zc U:=lvk [([0],[]),([0,3],[]),([0,(3,[.own .tree]),4],[]),([0,3,4,8],[]),([0,(3,[.own .tree]),4],[]),([0,3,4],[]),([2],[])]
def Z2N(l:List Tree)(x4:Int)(x3:List Tree):LSt U:=(L2 [(0,.c (sU .tree l .unk)),(3,.c (sU .tree x3 (.own (.e 3 0)))),pI 4 x4] [])
abbrev ZHY(l:List Tree)(Q:QT):=AW (Z0 Z1K) Tryz.f180 Z9J [] (L2 [(0,.c (sU .tree l .unk))] []) Q
abbrev Zmj:=awp cfg (Z0 Z1K) (Yn cfg (Z0 Z1K)) Tryz.f180.ntmps Z9J
abbrev Zky:=Zi0 cfg (Z0 Z1K) (Yn cfg (Z0 Z1K)) Tryz.f180.ntmps Z9J
theorem ZGw(l:List Tree)(Q:QT)(h:Zd (AW (Z0 Z1K) Tryz.f180 Z9J [1,1,0,1,0,0]) (Z2N l 0 []) (xB 0 (SW (Z0 Z1K) Tryz.f180 Z9J [1,1,1] Q))):
  ZHY l Q:=by
 have e_:(ZHY l Q)=(Zd (Zmj (cd Tryz.f180 [1,1,0,1,0,0])) (Z2N l 0 []) (xB 0 (Zky (cd Tryz.f180 [1,1,1]) Q))):=V4
 exact e_.mpr h
abbrev ZrO(l:List Tree)(x4:Int)(x3:List Tree)(N0:NT)(Q:QT):=AW (Z0 Z1K) Tryz.f180 Z9J [1,1,0,1,0,0] (Z2N l x4 x3) (xT N0 (xB 0 (SW (Z0 Z1K) Tryz.f180 Z9J [1,1,1] Q)))
theorem ZtI(l:List Tree)(x4:Int)(x3:List Tree)(N0:NT)(Q:QT)(h:((decide (x4 < (l.length:Int)))=true->((0:Int)<=x4/\x4 < (l.length:Int))/\(Jy ((Tree.mk (Tree.kind (l.getD x4.toNat Tree.nil)) (Tree.words (l.getD x4.toNat Tree.nil)) (Tree.kids (l.getD x4.toNat Tree.nil))),()))/\((x3.length+([(Tree.mk (Tree.kind (Z4 (Tree.mk (Tree.kind (l.getD x4.toNat Tree.nil)) (Tree.words (l.getD x4.toNat Tree.nil)) (Tree.kids (l.getD x4.toNat Tree.nil))))) (Tree.words (Z4 (Tree.mk (Tree.kind (l.getD x4.toNat Tree.nil)) (Tree.words (l.getD x4.toNat Tree.nil)) (Tree.kids (l.getD x4.toNat Tree.nil))))) (Tree.kids (Z4 (Tree.mk (Tree.kind (l.getD x4.toNat Tree.nil)) (Tree.words (l.getD x4.toNat Tree.nil)) (Tree.kids (l.getD x4.toNat Tree.nil))))))]).length)*56<=140737488355328)/\((InR (x4+1))/\(N0 (Z2N l (x4+1) (x3++([(Tree.mk (Tree.kind (Z4 (Tree.mk (Tree.kind (l.getD x4.toNat Tree.nil)) (Tree.words (l.getD x4.toNat Tree.nil)) (Tree.kids (l.getD x4.toNat Tree.nil))))) (Tree.words (Z4 (Tree.mk (Tree.kind (l.getD x4.toNat Tree.nil)) (Tree.words (l.getD x4.toNat Tree.nil)) (Tree.kids (l.getD x4.toNat Tree.nil))))) (Tree.kids (Z4 (Tree.mk (Tree.kind (l.getD x4.toNat Tree.nil)) (Tree.words (l.getD x4.toNat Tree.nil)) (Tree.kids (l.getD x4.toNat Tree.nil))))))]))))))/\((decide (x4 < (l.length:Int)))=false->Q .ret (L2 [(2,.c (sU .tree x3 (.own (.e 2 0))))] []))):
  ZrO l x4 x3 N0 Q:=by
 have e_:(ZrO l x4 x3 N0 Q)=(((decide ((x4:Int) < (l.length:Int)))=true->((0:Int)<=x4/\x4 < (l.length:Int))/\(Jy ((Tree.mk (Tree.kind (l.getD x4.toNat Tree.nil)) (Tree.words (l.getD x4.toNat Tree.nil)) (Tree.kids (l.getD x4.toNat Tree.nil))),()))/\((x3.length+([(Tree.mk (Tree.kind (Z4 (Tree.mk (Tree.kind (l.getD x4.toNat Tree.nil)) (Tree.words (l.getD x4.toNat Tree.nil)) (Tree.kids (l.getD x4.toNat Tree.nil))))) (Tree.words (Z4 (Tree.mk (Tree.kind (l.getD x4.toNat Tree.nil)) (Tree.words (l.getD x4.toNat Tree.nil)) (Tree.kids (l.getD x4.toNat Tree.nil))))) (Tree.kids (Z4 (Tree.mk (Tree.kind (l.getD x4.toNat Tree.nil)) (Tree.words (l.getD x4.toNat Tree.nil)) (Tree.kids (l.getD x4.toNat Tree.nil))))))]).length)*56<=140737488355328)/\((InR ((x4:Int)+1))/\(N0 (Z2N l ((x4:Int)+1) (x3++([(Tree.mk (Tree.kind (Z4 (Tree.mk (Tree.kind (l.getD x4.toNat Tree.nil)) (Tree.words (l.getD x4.toNat Tree.nil)) (Tree.kids (l.getD x4.toNat Tree.nil))))) (Tree.words (Z4 (Tree.mk (Tree.kind (l.getD x4.toNat Tree.nil)) (Tree.words (l.getD x4.toNat Tree.nil)) (Tree.kids (l.getD x4.toNat Tree.nil))))) (Tree.kids (Z4 (Tree.mk (Tree.kind (l.getD x4.toNat Tree.nil)) (Tree.words (l.getD x4.toNat Tree.nil)) (Tree.kids (l.getD x4.toNat Tree.nil))))))]))))))/\((decide ((x4:Int) < (l.length:Int)))=false->(Q .ret (L2 [(2,.c (sU .tree x3 (.own (.e 2 0))))] [])))):=V4
 exact e_.mpr ⟨fun c_1=> ⟨(h.1 c_1).1,(h.1 c_1).2.1,(h.1 c_1).2.2.1,⟨(h.1 c_1).2.2.2.1,(h.1 c_1).2.2.2.2⟩⟩,fun c_1=> (h.2 c_1)⟩
def ZB9(l:List Tree):Prop:=AW (Z0 Z1K) Tryz.f180 Z9J [] (Zh (Zrd.can (l,())) []) (EQ Tryz.f180 (ZuR (l,())) [])
theorem Zzj(c41:CT 41 Z0l)(hb:∀ (l:List Tree) (_:Unit),ZaR (l,())->ZB9 l):CT 180 Z91:=
 Z1 (l:=[(41,Z0l)]) Zi rfl (⟨c41,trivial⟩) Z9J Tryz.func180 rfl rfl 1 (fun _=> rfl) V1 (fun ⟨l,_⟩=> hb l ())
def Z1M:List (FuncId × Fs U):=[(180,Z91)]
def Z9L:Zc U:=lvk [([0,1,2],[]),([0,1,2,8],[]),([0,2,(8,[.own .tree]),9],[]),([0,2,8,9,30],[]),([0,2,8,9,37],[]),([0,2,8,9],[]),([0,2,(8,[.own .tree]),9],[]),([6,7],[])]
def Z0U(l:List Op)(from_ kind x9:Int)(x8:List Tree):LSt U:=(L2 [(0,.c (sU .op l .unk)),pI 2 kind,(8,.c (sU .tree x8 (.own (.e 8 0)))),pI 9 x9] [])
abbrev ZI4(l:List Op)(from_ kind:Int)(Q:QT):=AW (Z0 Z1M) Tryz.f127 Z9L [] (L2 [(0,.c (sU .op l .unk)),pI 1 from_,pI 2 kind] []) Q
abbrev Zml:=awp cfg (Z0 Z1M) (Yn cfg (Z0 Z1M)) Tryz.f127.ntmps Z9L
abbrev ZkA:=Zi0 cfg (Z0 Z1M) (Yn cfg (Z0 Z1M)) Tryz.f127.ntmps Z9L
theorem ZH6(l:List Op)(from_ kind:Int)(Q:QT)(h:Zd (AW (Z0 Z1M) Tryz.f127 Z9L [1,1,1,0,0,0]) (Z0U l from_ kind from_ []) (xB 0 (SW (Z0 Z1M) Tryz.f127 Z9L [1,1,1,1] Q))):
  ZI4 l from_ kind Q:=by
 have e_:(ZI4 l from_ kind Q)=(Zd (Zml (cd Tryz.f127 [1,1,1,0,0,0])) (Z0U l from_ kind from_ []) (xB 0 (ZkA (cd Tryz.f127 [1,1,1,1]) Q))):=V4
 exact e_.mpr h
abbrev ZrR(l:List Op)(from_ kind x9:Int)(x8:List Tree)(N0:NT)(Q:QT):=AW (Z0 Z1M) Tryz.f127 Z9L [1,1,1,0,0,0] (Z0U l from_ kind x9 x8) (xT N0 (xB 0 (SW (Z0 Z1M) Tryz.f127 Z9L [1,1,1,1] Q)))
theorem Zu1(l:List Op)(from_ kind x9:Int)(x8:List Tree)(N0:NT)(Q:QT)(h:∀ y_1,y_1=(l.getD x9.toNat Op.nil)->((decide (x9 < (l.length:Int)))=true->(0:Int)<=x9/\x9 < (l.length:Int))/\(((decide (x9 < (l.length:Int))) && (!(y_1.kind==1)))=true->(0:Int)<=x9/\x9 < (l.length:Int))/\(((bif (decide (x9 < (l.length:Int))) then (bif (y_1.kind==1) then true else (y_1.kind==2)) else false)=true->((0:Int)<=x9/\x9 < (l.length:Int))/\(((y_1.kind==kind)=true->((0:Int)<=x9/\x9 < (l.length:Int))/\(ZaR (y_1.l,()))/\((x8.length+(Z8 y_1.l).length)*56<=140737488355328)/\((InR (x9+1))/\(N0 (Z0U l from_ kind (x9+1) (x8++(Z8 y_1.l))))))/\((y_1.kind==kind)=false->(InR (x9+1))/\(N0 (Z0U l from_ kind (x9+1) x8)))))/\((bif (decide (x9 < (l.length:Int))) then (bif (y_1.kind==1) then true else (y_1.kind==2)) else false)=false->Q .ret (L2 [(6,.c (sU .tree x8 (.own (.e 6 0)))),pI 7 x9] [])))):
  ZrR l from_ kind x9 x8 N0 Q:=by
 have e_:(ZrR l from_ kind x9 x8 N0 Q)=(let y_1:=(l.getD x9.toNat Op.nil);let zz1:=(y_1.kind==1);let zz0:=(decide ((x9:Int) < (l.length:Int)));(Tr (zz0=true))/\(Tr (zz0=true))/\(zz0=true->(0:Int)<=x9/\x9 < (l.length:Int))/\(Tr (zz0=true))/\(Tr (zz0=true))/\(Tr (zz0=true))/\(Tr (zz0=true))/\(Tr ((zz0 && (!zz1))=true))/\(Tr ((zz0 && (!zz1))=true))/\((zz0 && (!zz1))=true->(0:Int)<=x9/\x9 < (l.length:Int))/\(Tr ((zz0 && (!zz1))=true))/\(Tr ((zz0 && (!zz1))=true))/\(Tr ((zz0 && (!zz1))=true))/\(zz0=true->(True->zz0=true))/\(zz0=true->(zz1=false->(zz0 && (!zz1))=true))/\(Tr (zz0=true))/\(((bif zz0 then (bif zz1 then true else (y_1.kind==2)) else false)=true->((0:Int)<=x9/\x9 < (l.length:Int))/\(((y_1.kind==kind)=true->((0:Int)<=x9/\x9 < (l.length:Int))/\(ZaR (y_1.l,()))/\((x8.length+(Z8 y_1.l).length)*56<=140737488355328)/\((InR ((x9:Int)+1))/\(N0 (Z0U l from_ kind ((x9:Int)+1) (x8++(Z8 y_1.l))))))/\((y_1.kind==kind)=false->(InR ((x9:Int)+1))/\(N0 (Z0U l from_ kind ((x9:Int)+1) x8)))))/\((bif zz0 then (bif zz1 then true else (y_1.kind==2)) else false)=false->(Q .ret (L2 [(6,.c (sU .tree x8 (.own (.e 6 0)))),pI 7 x9] []))))):=V4
 exact e_.mpr (by intro y_1;have hh:=h y_1 rfl;exact ⟨id,id,hh.1,id,id,id,id,id,id,hh.2.1,id,id,id,(by generalize (decide ((x9:Int) < (l.length:Int)))=b0;revert b0;decide),(by generalize ((y_1.kind:Int)==1)=b0;generalize (decide ((x9:Int) < (l.length:Int)))=b1;revert b0 b1;decide),(by generalize (decide ((x9:Int) < (l.length:Int)))=b0;revert b0;decide),⟨fun c_2=> ⟨(hh.2.2.1 c_2).1,⟨fun c_3=> ⟨((hh.2.2.1 c_2).2.1 c_3).1,((hh.2.2.1 c_2).2.1 c_3).2.1,((hh.2.2.1 c_2).2.1 c_3).2.2.1,⟨((hh.2.2.1 c_2).2.1 c_3).2.2.2.1,((hh.2.2.1 c_2).2.1 c_3).2.2.2.2⟩⟩,fun c_3=> ⟨((hh.2.2.1 c_2).2.2 c_3).1,((hh.2.2.1 c_2).2.2 c_3).2⟩⟩⟩,fun c_2=> (hh.2.2.2 c_2)⟩⟩)
def ZBJ(l:List Op)(from_ kind:Int):Prop:=AW (Z0 Z1M) Tryz.f127 Z9L [] (Zh (ZrC.can (l,from_,kind,())) []) (EQ Tryz.f127 (ZmU (l,from_,kind,())) [])
theorem ZzQ(ZEx:CT 180 Z91)(hb:∀ (l:List Op) (from_:Int) (kind:Int) (_:Unit),Z50 (l,from_,kind,())->ZBJ l from_ kind):CT 127 Z6z:=
 Z1 (l:=[(180,Z91)]) Zi rfl (⟨ZEx,trivial⟩) Z9L Tryz.func127 rfl rfl 3 (fun _=> rfl) V1 (fun ⟨l,from_,kind,_⟩=> hb l from_ kind ())
end
end
end Go.AM.YtpjenobkibfpcaaGreat
