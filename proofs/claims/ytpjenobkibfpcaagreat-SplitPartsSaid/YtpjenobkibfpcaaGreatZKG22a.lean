import Derived.Test.YtpjenobkibfpcaaGreatZKD24
import Derived.Test.YtpjenobkibfpcaaGreatZKD20
import Derived.Test.YtpjenobkibfpcaaGreatZKRB07
import Derived.Test.YtpjenobkibfpcaaGreatZKB07
set_option linter.unusedSimpArgs false
set_option linter.unusedVariables false
namespace Go.AM.YtpjenobkibfpcaaGreat
open Go.AM Go.Proofs
noncomputable section
def ZoS:ArgL (Op × Unit):=(.cons (aEl .op) .nil)
def Z65(a:Op × Unit):Prop:=Zw a.1≤20000000000∧0≤OpOf.n a.1∧OpOf.n a.1≤1048576
def Zss(a:Op × Unit):V U:= .c (ci (Z3 a.1))
def Z3A:Fs U:=fs ZoS (fun a=> [Z65 a]) Zss
def ZiB:ArgM ((List Op × Int × Unit) × Unit):=(.obj 0 (.cons (cSl .op) (.cons (Zaw .i64) .nil)) .nil)
def Z45(a:(List Op × Int × Unit) × Unit):Prop:=(a.1.1).length≤120000000000
def Zsr(a:(List Op × Int × Unit) × Unit):V U:= .c (.bool (decide ((a.1.1).length=0)))
def Zn8(a:(List Op × Int × Unit) × Unit):List (List (C U)):=[[sU .op a.1.1 .unk,ci a.1.2.1]]
def Z3z:Fs U:=fsX ZiB (fun a=> [Z45 a]) Zsr Zn8
def ZiD:ArgM ((List Op × Int × Unit) × Unit):=(.obj 0 (.cons (cSl .op) (.cons (Zaw .i64) .nil)) .nil)
def ZaO(a:(List Op × Int × Unit) × Unit):Prop:=(a.1.1).length≤120000000000
def Zst(a:(List Op × Int × Unit) × Unit):V U:= .c (.bool (sgl a.1.2.1 a.1.1))
def Zn9(a:(List Op × Int × Unit) × Unit):List (List (C U)):=[[sU .op a.1.1 .unk,ci a.1.2.1]]
def Z8L:Fs U:=fsX ZiD (fun a=> [ZaO a]) Zst Zn9
def ZiC:ArgM ((List Op × Int × Unit) × Int × Unit):=(.obj 0 (.cons (cSl .op) (.cons (Zaw .i64) .nil)) (.cons (YG .i64) .nil))
def Z8d(a:(List Op × Int × Unit) × Int × Unit):Prop:=Zbb a.1.1∧(a.1.1).length≠0∧1≤a.2.1∧a.2.1≤120000000000
def ZdU(a:(List Op × Int × Unit) × Int × Unit):V U:= .agg (enc .op (ZY ((a.1.1).getD 0 Op.nil) a.2.1))
def Z9l(a:(List Op × Int × Unit) × Int × Unit):List (List (C U)):=[[sU .op (Yi a.1.1 a.2.1) .unk,ci a.1.2.1]]
def Z8K:Fs U:=fsX ZiC (fun a=> [Z8d a]) ZdU Z9l
def ZiG:ArgM ((List Op × Int × Unit) × (List Op × Int × Unit) × Unit):=(.obj 0 (.cons (cSl .op) (.cons (Zaw .i64) .nil)) (.obj 1 (.cons (cSl .op) (.cons (Zaw .i64) .nil)) .nil))
def Zhz(a:(List Op × Int × Unit) × (List Op × Int × Unit) × Unit):Prop:=Zbb a.1.1∧Zbb a.2.1.1
def Zhn(a:(List Op × Int × Unit) × (List Op × Int × Unit) × Unit):V U:= .tup [(false,[sU .piece ((Yk a.1.2.1 a.2.1.2.1 a.1.1 a.2.1.1 []).1) .unk]),(false,[.bool ((Yk a.1.2.1 a.2.1.2.1 a.1.1 a.2.1.1 []).2.1)])]
def ZcM(a:(List Op × Int × Unit) × (List Op × Int × Unit) × Unit):List (List (C U)):=[[sU .op ((Yk a.1.2.1 a.2.1.2.1 a.1.1 a.2.1.1 []).2.2.1) .unk,ci a.1.2.1],[sU .op ((Yk a.1.2.1 a.2.1.2.1 a.1.1 a.2.1.1 []).2.2.2) .unk,ci a.2.1.2.1]]
def Z6I:Fs U:=fsX ZiG (fun a=> [Zhz a]) Zhn ZcM
def ZoY:ArgL (List Op × List Op × Unit):=(.cons (aSl .op) (.cons (aSl .op) .nil))
def ZlB(a:List Op × List Op × Unit):Prop:=Zbb a.1∧Zbb a.2.1
def ZsA(a:List Op × List Op × Unit):V U:= .tup [(false,[sU .piece ((Yk 1 2 a.1 a.2.1 []).1) .unk]),(false,[.bool ((Yk 1 2 a.1 a.2.1 []).2.1)])]
def Z2j:Fs U:=fs ZoY (fun a=> [ZlB a]) ZsA
def Zv3:ArgL (List Tree × List Tree × Unit):=(.cons (aSl .tree) (.cons (aSl .tree) .nil))
def ZjJ(a:List Tree × List Tree × Unit):Prop:=Zh a.1≤20000000000
def Zzo(a:List Tree × List Tree × Unit):V U:= .c (.bool (eqX a.1 a.2.1))
def Zds:Fs U:=fs Zv3 (fun a=> [ZjJ a]) Zzo
def Zmx:ArgL (Edit × Edit × Unit):=(.cons (aEl .edit) (.cons (aEl .edit) .nil))
def Z7L(a:Edit × Edit × Unit):Prop:=Z9 a.1≤20000000000
def Zk2(a:Edit × Edit × Unit):Nat:=Z9 a.1
def ZsH(a:Edit × Edit × Unit):V U:= .c (.bool (eqX a.1 a.2.1))
def ZdB:Fs U:=fs Zmx (fun a=> [Z7L a]) ZsH
def Zoa:List (FuncId × Fs U):=[]
def ZtG:Zj U:=lvl [([1],[1]),([1,5],[1]),([2],[]),([2],[])]
abbrev ZGf(p:List Nat):=AW (Z0 Zoa) Tryz.f228 ZtG p
theorem ZDh(o:Op)(Q:QT)(h:(((o.kind==3)=true→(Q .ret (L2 [(2,.c (ci 1))] [])))∧((o.kind==3)=false→(InR (o.n+(o.l.length:Int)))∧(Q .ret (L2 [(2,.c (ci (o.n+(o.l.length:Int))))] []))))):
  ZGf [] (L2 [(0,.agg (enc .op o))] []) Q:=
 Eq.mpr (by kernel_rfl) h
def Zyc(o:Op):Prop:=AW (Z0 Zoa) Tryz.f228 ZtG [] (Zl (ZoS.can (o,())) []) (EQ Tryz.f228 (Zss (o,())) [])
theorem Zww(hb:∀ (o:Op) (_:Unit),Z65 (o,())→Zyc o):CT 228 Z3A:=
 Z4 (l:=[]) Zo rfl trivial ZtG Tryz.func228 rfl rfl 1 (fun _=> rfl) (by decide) (fun ⟨o,_⟩=> hb o ())
def Zo9:List (FuncId × Fs U):=[]
def ZtF:Zj U:=fun i=> match i with
 | 0=> ([(0,[])],[(.x 0,[])])
 | 1=> ([(2,[])],[(.x 0,[])])
 | _=> ([],[])
abbrev ZGe(p:List Nat):=AW (Z0 Zo9) Tryz.f229 ZtF p
theorem ZDg(l:List Op)(alone:Int)(Q:QT)(h:(Q .ret (L2 [(2,.c (.bool (((l.length:Int):Int)==0)))] [(.x 0,[sU .op l .unk,ci alone])]))):
  ZGe [] (L2 [(0,.ptr (.x 0) 0)] [(.x 0,[sU .op l .unk,ci alone])]) Q:=
 Eq.mpr (by kernel_rfl) h
def Zyb(l:List Op)(alone:Int):Prop:=AW (Z0 Zo9) Tryz.f229 ZtF [] (Zl (ZiB.can ((l,alone,()),())) (ZiB.canX ((l,alone,()),()))) (EQ Tryz.f229 (Zsr ((l,alone,()),())) (Zn8 ((l,alone,()),())))
theorem Zwv(hb:∀ (l:List Op) (alone:Int) (_:Unit),Z45 ((l,alone,()),())→Zyb l alone):CT 229 Z3z:=
 YM (l:=[]) Zo rfl trivial ZtF Tryz.func229 rfl rfl 1 (fun _=> rfl) (by decide) (fun ⟨⟨l,alone,_⟩,_⟩=> hb l alone ())
def Zoc:List (FuncId × Fs U):=[(229,Z3z)]
def ZtI:Zj U:=fun i=> match i with
 | 0=> ([(0,[])],[(.x 0,[])])
 | 1=> ([(2,[])],[(.x 0,[])])
 | _=> ([],[])
abbrev ZGh(p:List Nat):=AW (Z0 Zoc) Tryz.f226 ZtI p
theorem ZDj(l:List Op)(alone:Int)(Q:QT)(h:let z0:= !(decide (l.length=0));((Z45 ((l,alone,()),()))∧(Tr (z0=true))∧(Tr (z0=true))∧(Tr (z0=true))∧(Tr (z0=true))∧(z0=true→(0:Int)≤0∧0 < (l.length:Int))∧(Tr (z0=true))∧(Tr (z0=true))∧(Tr (z0=true))∧(Tr (z0=true))∧(Tr (z0=true))∧(Tr (z0=true))∧(Tr (z0=true))∧(Tr (z0=true))∧(Q .ret (L2 [(2,.c (.bool (bif z0 then (((OpOf.kind (List.getD l (Int.toNat 0) Op.nil)):Int)==alone) else false)))] [(.x 0,[sU .op l .unk,ci alone])])))):
  ZGh [] (L2 [(0,.ptr (.x 0) 0)] [(.x 0,[sU .op l .unk,ci alone])]) Q:=
 Eq.mpr (by kernel_rfl) h
def Zye(l:List Op)(alone:Int):Prop:=AW (Z0 Zoc) Tryz.f226 ZtI [] (Zl (ZiD.can ((l,alone,()),())) (ZiD.canX ((l,alone,()),()))) (EQ Tryz.f226 (Zst ((l,alone,()),())) (Zn9 ((l,alone,()),())))
theorem Zwy(ZqS:CT 229 Z3z)(hb:∀ (l:List Op) (alone:Int) (_:Unit),ZaO ((l,alone,()),())→Zye l alone):CT 226 Z8L:=
 YM (l:=[(229,Z3z)]) Zo rfl (⟨ZqS,trivial⟩) ZtI Tryz.func226 rfl rfl 1 (fun _=> rfl) (by decide) (fun ⟨⟨l,alone,_⟩,_⟩=> hb l alone ())
def Zob:List (FuncId × Fs U):=[(228,Z3A)]
def ZtH:Zj U:=fun i=> match i with
 | 0=> ([(0,[]),(1,[]),(4,[])],[(.loc 4,[]),(.x 0,[])])
 | 1=> ([(0,[]),(1,[]),(4,[]),(5,[])],[(.loc 4,[]),(.loc 5,[]),(.x 0,[])])
 | 2=> ([(0,[]),(1,[]),(4,[]),(5,[]),(17,[])],[(.loc 4,[]),(.loc 5,[]),(.x 0,[])])
 | 3=> ([(4,[]),(5,[])],[(.loc 4,[]),(.loc 5,[]),(.x 0,[])])
 | 4=> ([(4,[])],[(.loc 4,[]),(.x 0,[])])
 | 5=> ([(0,[]),(1,[]),(4,[]),(5,[]),(6,[]),(7,[])],[(.loc 4,[]),(.loc 5,[]),(.loc 6,[]),(.loc 7,[]),(.x 0,[])])
 | 6=> ([(0,[]),(1,[]),(4,[]),(5,[]),(6,[]),(7,[]),(31,[])],[(.loc 4,[]),(.loc 5,[]),(.loc 6,[]),(.loc 7,[]),(.x 0,[])])
 | 7=> ([(0,[]),(4,[]),(6,[]),(7,[])],[(.loc 4,[]),(.loc 6,[]),(.loc 7,[]),(.x 0,[])])
 | 8=> ([(0,[]),(4,[]),(6,[]),(7,[])],[(.loc 4,[]),(.loc 6,[]),(.loc 7,[]),(.x 0,[])])
 | 9=> ([(4,[]),(6,[])],[(.loc 4,[]),(.loc 6,[]),(.x 0,[])])
 | 10=> ([(4,[])],[(.loc 4,[]),(.x 0,[])])
 | _=> ([],[])
abbrev ZGg(p:List Nat):=AW (Z0 Zob) Tryz.f227 ZtH p
theorem ZDi(l:List Op)(alone n:Int)(Q:QT)(h:∀ y_1,y_1=(List.getD l (Int.toNat 0) Op.nil)→∀ y_2,y_2=y_1→∀ y_3,y_3=(y_1.e)→let z1:=decide (((Z3 y_2):Int)≤n);let z0:=List.drop (Int.toNat 1) l;(((0:Int)≤0∧0 < (l.length:Int))∧((Z65 (y_2,()))∧((z1=true→((0:Int)≤1∧1≤(l.length:Int))∧(Q .ret (L2 [(4,.ptr (.loc 4) 0)] [(.loc 4,(enc .op y_1)),(.x 0,[sU .op z0 .unk,ci alone])])))∧(z1=false→(((y_1.kind==0)=true→(InR (y_1.n - n))∧(((0:Int)≤1∧1≤(l.length:Int))∧((([(OpOf.mk y_1.kind (y_1.n - n) y_1.l y_3)]).length+z0.length)*240≤140737488355328)∧(Q .ret (L2 [(4,.ptr (.loc 4) 0)] [(.loc 4,([ci y_1.kind,ci n,sU .tree y_1.l .unk]++enc .edit y_1.e)),(.x 0,[sU .op (([(OpOf.mk y_1.kind (y_1.n - n) y_1.l y_3)])++z0) (.own (.x 0 0)),ci alone])]))))∧((y_1.kind==0)=false→((0:Int)≤n∧n≤(y_1.l.length:Int))∧(n=n)∧((0:Int)≤n∧n≤(y_1.l.length:Int))∧(((0:Int)≤1∧1≤(l.length:Int))∧((([(OpOf.mk y_1.kind y_1.n (List.drop n.toNat y_1.l) y_3)]).length+z0.length)*240≤140737488355328)∧(Q .ret (L2 [(4,.ptr (.loc 4) 0)] [(.loc 4,([ci y_1.kind,ci y_1.n,sU .tree (List.take n.toNat y_1.l) .full]++enc .edit y_1.e)),(.x 0,[sU .op (([(OpOf.mk y_1.kind y_1.n (List.drop n.toNat y_1.l) y_3)])++z0) (.own (.x 0 0)),ci alone])])))))))))):
  ZGg [] (L2 [(0,.ptr (.x 0) 0),(1,.c (ci n))] [(.x 0,[sU .op l .unk,ci alone])]) Q:=
 Eq.mpr (by kernel_rfl) (h _ rfl _ (YX _) _ (Z6 _))
def Zyd(l:List Op)(alone n:Int):Prop:=AW (Z0 Zob) Tryz.f227 ZtH [] (Zl (ZiC.can ((l,alone,()),n,())) (ZiC.canX ((l,alone,()),n,()))) (EQ Tryz.f227 (ZdU ((l,alone,()),n,())) (Z9l ((l,alone,()),n,())))
theorem Zwx(ZqT:CT 228 Z3A)(hb:∀ (l:List Op) (alone:Int) (n:Int) (_:Unit),Z8d ((l,alone,()),n,())→Zyd l alone n):CT 227 Z8K:=
 YM (l:=[(228,Z3A)]) Zo rfl (⟨ZqT,trivial⟩) ZtH Tryz.func227 rfl rfl 2 (fun _=> rfl) (by decide) (fun ⟨⟨l,alone,_⟩,n,_⟩=> hb l alone n ())
def Zom:List (FuncId × Fs U):=[(226,Z8L),(227,Z8K),(228,Z3A),(229,Z3z)]
def ZtS:Zj U:=fun i=> match i with
 | 0=> ([(0,[]),(1,[])],[(.x 0,[]),(.x 1,[])])
 | 1=> ([(0,[]),(1,[]),(6,[.own .piece])],[(.x 0,[]),(.x 1,[])])
 | 2=> ([(0,[]),(1,[]),(6,[]),(7,[])],[(.x 0,[]),(.x 1,[])])
 | 3=> ([(0,[]),(1,[]),(6,[.own .piece])],[(.x 0,[]),(.x 1,[])])
 | 4=> ([(0,[]),(1,[]),(6,[]),(33,[])],[(.x 0,[]),(.x 1,[])])
 | 5=> ([(0,[]),(1,[]),(6,[.own .piece])],[(.x 0,[]),(.x 1,[])])
 | 6=> ([(0,[]),(1,[]),(6,[]),(49,[])],[(.x 0,[]),(.x 1,[])])
 | 7=> ([(0,[]),(1,[]),(6,[.own .piece])],[(.x 0,[]),(.x 1,[])])
 | 8=> ([(0,[]),(1,[]),(6,[]),(65,[])],[(.x 0,[]),(.x 1,[])])
 | 9=> ([(6,[]),(76,[])],[(.x 0,[]),(.x 1,[])])
 | 10=> ([(4,[]),(5,[])],[(.x 0,[]),(.x 1,[])])
 | 11=> ([(4,[]),(5,[])],[(.x 0,[]),(.x 1,[])])
 | _=> ([],[])
def Z2V(pl:List Op)(pa:Int)(ql:List Op)(qa:Int)(mx0_0 mx1_0:List Op)(mx1_1:Int)(x6:List Piece):LSt U:=(L2 [(0,.ptr (.x 0) 0),(1,.ptr (.x 1) 0),(6,.c (sU .piece x6 (.own (.e 6 0))))] [(.x 0,[sU .op mx0_0 .unk,ci pa]),(.x 1,[sU .op mx1_0 .unk,ci mx1_1])])
abbrev ZD1(p:List Nat):=AW (Z0 Zom) Tryz.f193 ZtS p
theorem ZDz(pl:List Op)(pa:Int)(ql:List Op)(qa:Int)(Q:QT)(h:(Zf (ZD1 [1,1,0,0]) (Z2V pl pa ql qa pl ql qa []) (xB 0 Q))):
  ZD1 [] (L2 [(0,.ptr (.x 0) 0),(1,.ptr (.x 1) 0)] [(.x 0,[sU .op pl .unk,ci pa]),(.x 1,[sU .op ql .unk,ci qa])]) Q:=
 Eq.mpr (by kernel_rfl) h
theorem Zro(pl:List Op)(pa:Int)(ql:List Op)(qa:Int)(mx0_0 mx1_0:List Op)(mx1_1:Int)(x6:List Piece)(N0:NT)(Q:QT)(h:∀ y_1,y_1=(List.getD mx0_0 (Int.toNat 0) Op.nil)→∀ y_2,y_2=(List.getD mx1_0 (Int.toNat 0) Op.nil)→∀ y_3,y_3=(Edit.mk 0 (Tree.mk 0 [] []) (Tree.mk 0 [] []) [] [] 0 [])→∀ y_4,y_4=(List.getD (bif (!(decide (mx0_0.length=0))) then mx1_0 else mx1_0) (Int.toNat 0) Op.nil)→∀ y_5,y_5=y_1→∀ y_6,y_6=y_2→∀ y_7,y_7=y_4→∀ y_8,y_8=(ZY (mx0_0.getD 0 Op.nil) (Z3 y_5))→∀ y_9,y_9=(ZY (mx1_0.getD 0 Op.nil) (Z3 y_6))→∀ y_10,y_10=(ZY (mx0_0.getD 0 Op.nil) (if ((Z3 y_7):Int) < (Z3 y_5) then (Z3 y_7) else (Z3 y_5)))→∀ y_11,y_11=(ZY ((bif (!(decide (mx0_0.length=0))) then mx1_0 else mx1_0).getD 0 Op.nil) (if ((Z3 y_7):Int) < (Z3 y_5) then (Z3 y_7) else (Z3 y_5)))→let z7:=Z45 ((mx0_0,pa,()),());let z5:=Piece.mk 2 (OpOf.mk 0 0 [] y_3) y_9;let z4:=Piece.mk 1 y_8 (OpOf.mk 0 0 [] y_3);let z0:=decide (mx0_0.length=0);let z3:=bif z0 then true else (decide (mx1_0.length=0));let z2:=bif (!z0) then mx1_1 else mx1_1;let z1:=bif (!z0) then mx1_0 else mx1_0;let z6:=z0 !=(decide (z1.length=0));(ZaO ((mx0_0,pa,()),()))∧(((sgl pa mx0_0)=true→((0:Int)≤0∧0 < (mx0_0.length:Int))∧(Z65 (y_5,()))∧(Z8d ((mx0_0,pa,()),(Z3 y_5),()))∧((x6.length+([z4]).length)*488≤140737488355328)∧(N0 (Z2V pl pa ql qa (Yi mx0_0 (Z3 y_5)) mx1_0 mx1_1 (x6++([z4])))))∧((sgl pa mx0_0)=false→(ZaO ((mx1_0,mx1_1,()),()))∧(((sgl mx1_1 mx1_0)=true→((0:Int)≤0∧0 < (mx1_0.length:Int))∧(Z65 (y_6,()))∧(Z8d ((mx1_0,mx1_1,()),(Z3 y_6),()))∧((x6.length+([z5]).length)*488≤140737488355328)∧(N0 (Z2V pl pa ql qa mx0_0 (Yi mx1_0 (Z3 y_6)) mx1_1 (x6++([z5])))))∧((sgl mx1_1 mx1_0)=false→z7∧(Tr ((!z0)=true))∧((!z0)=true→Z45 ((mx1_0,mx1_1,()),()))∧(z0=false→(!z0)=true)∧((z3=true→z7∧(Z45 ((z1,z2,()),()))∧((z6=true→(Q .ret (L2 [(4,.c (.nils)),(5,.c (.bool false))] [(.x 0,[sU .op mx0_0 .unk,ci pa]),(.x 1,[sU .op z1 .unk,ci z2])])))∧(z6=false→(Q .ret (L2 [(4,.c (sU .piece x6 (.own (.e 4 0)))),(5,.c (.bool true))] [(.x 0,[sU .op mx0_0 .unk,ci pa]),(.x 1,[sU .op z1 .unk,ci z2])])))))∧(z3=false→((0:Int)≤0∧0 < (mx0_0.length:Int))∧(Z65 (y_5,()))∧((0:Int)≤0∧0 < (z1.length:Int))∧(Z65 (y_7,()))∧((Z8d ((mx0_0,pa,()),(if ((Z3 y_7):Int) < (Z3 y_5) then (Z3 y_7) else (Z3 y_5)),()))∧(Z8d ((z1,z2,()),(if ((Z3 y_7):Int) < (Z3 y_5) then (Z3 y_7) else (Z3 y_5)),()))∧((x6.length+([(Piece.mk 0 y_10 y_11)]).length)*488≤140737488355328)∧(N0 (Z2V pl pa ql qa (Yi mx0_0 (if ((Z3 y_7):Int) < (Z3 y_5) then (Z3 y_7) else (Z3 y_5))) (Yi z1 (if ((Z3 y_7):Int) < (Z3 y_5) then (Z3 y_7) else (Z3 y_5))) z2 (x6++([(Piece.mk 0 y_10 y_11)])))))))))))):
  ZD1 [1,1,0,0] (Z2V pl pa ql qa mx0_0 mx1_0 mx1_1 x6) (xT N0 (xB 0 Q)):=
 Eq.mpr (by kernel_rfl) (h _ rfl _ rfl _ rfl _ rfl _ (YX _) _ (YX _) _ (YX _) _ (YX _) _ (YX _) _ (YX _) _ (YX _))
def Zyu(pl:List Op)(pa:Int)(ql:List Op)(qa:Int):Prop:=AW (Z0 Zom) Tryz.f193 ZtS [] (Zl (ZiG.can ((pl,pa,()),(ql,qa,()),())) (ZiG.canX ((pl,pa,()),(ql,qa,()),()))) (EQ Tryz.f193 (Zhn ((pl,pa,()),(ql,qa,()),())) (ZcM ((pl,pa,()),(ql,qa,()),())))
theorem ZwL(ZBw:CT 226 Z8L)(ZBv:CT 227 Z8K)(ZqT:CT 228 Z3A)(ZqS:CT 229 Z3z)(hb:∀ (pl:List Op) (pa:Int) (ql:List Op) (qa:Int) (_:Unit),Zhz ((pl,pa,()),(ql,qa,()),())→Zyu pl pa ql qa):CT 193 Z6I:=
 YM (l:=[(226,Z8L),(227,Z8K),(228,Z3A),(229,Z3z)]) Zo rfl (⟨ZBw,ZBv,ZqT,ZqS,trivial⟩) ZtS Tryz.func193 rfl rfl 2 (fun _=> rfl) (by decide) (fun ⟨⟨pl,pa,_⟩,⟨ql,qa,_⟩,_⟩=> hb pl pa ql qa ())
def Zoh:List (FuncId × Fs U):=[(193,Z6I)]
def ZtN:Zj U:=lvl [([0,1],[]),([4,5],[])]
abbrev ZGi(p:List Nat):=AW (Z0 Zoh) Tryz.f209 ZtN p
theorem ZDs(p q:List Op)(Q:QT)(h:((Zhz ((p,1,()),(q,2,()),()))∧(Q .ret (L2 [(4,.c (sU .piece ((Yk 1 2 p q []).1) .unk)),(5,.c (.bool ((Yk 1 2 p q []).2.1)))] [])))):
  ZGi [] (L2 [(0,.c (sU .op p .unk)),(1,.c (sU .op q .unk))] []) Q:=
 Eq.mpr (by kernel_rfl) h
def Zyn(p q:List Op):Prop:=AW (Z0 Zoh) Tryz.f209 ZtN [] (Zl (ZoY.can (p,q,())) []) (EQ Tryz.f209 (ZsA (p,q,())) [])
theorem ZwG(ZuN:CT 193 Z6I)(hb:∀ (p:List Op) (q:List Op) (_:Unit),ZlB (p,q,())→Zyn p q):CT 209 Z2j:=
 Z4 (l:=[(193,Z6I)]) Zo rfl (⟨ZuN,trivial⟩) ZtN Tryz.func209 rfl rfl 2 (fun _=> rfl) (by decide) (fun ⟨p,q,_⟩=> hb p q ())
def Zm6:List (FuncId × Fs U):=[(26,Z5P)]
def Zxt:Zj U:=lvl [([0,1],[]),([0,1,10],[]),([4],[]),([0,1,5],[]),([0,1,5,14],[]),([0,1,5],[]),([0,1,5,26],[]),([4],[]),([4],[])]
def Zad(a b:List Tree)(x5:Int):LSt U:=(L2 [(0,.c (sU .tree a .unk)),(1,.c (sU .tree b .unk)),(5,.c (ci x5))] [])
abbrev A69(p:List Nat):=AW (Z0 Zm6) Tryz.f69 Zxt p
abbrev S69(p:List Nat):=SW (Z0 Zm6) Tryz.f69 Zxt p
theorem ZFL(a b:List Tree)(Q:QT)(h:let z0:=((a.length:Int):Int) !=(b.length:Int);((z0=true→(Q .ret (L2 [(4,.c (.bool false))] [])))∧(z0=false→(Zf (A69 [1,1,0,1,0,0]) (Zad a b 0) (xB 0 (S69 [1,1,1] Q)))))):
  A69 [] (L2 [(0,.c (sU .tree a .unk)),(1,.c (sU .tree b .unk))] []) Q:=
 Eq.mpr (by kernel_rfl) h
theorem ZvO(a b:List Tree)(x5:Int)(N0:NT)(Q:QT)(h:let z5:=decide (x5 < (a.length:Int));let z4:=a.getD x5.toNat Tree.nil;let z3:=b.getD x5.toNat Tree.nil;let z2:=Tree.mk (Tree.kind z3) (Tree.words z3) (Tree.kids z3);let z1:=Tree.mk (Tree.kind z4) (Tree.words z4) (Tree.kids z4);let z0:= !(Jp z1 z2);((z5=true→((0:Int)≤x5∧x5 < (a.length:Int))∧((0:Int)≤x5∧x5 < (b.length:Int))∧(Z5E (z1,z2,()))∧((z0=true→(Q .ret (L2 [(4,.c (.bool false))] [])))∧(z0=false→(InR (x5+1))∧(N0 (Zad a b (x5+1))))))∧(z5=false→(Q .ret (L2 [(4,.c (.bool true))] []))))):
  A69 [1,1,0,1,0,0] (Zad a b x5) (xT N0 (xB 0 (S69 [1,1,1] Q))):=
 Eq.mpr (by kernel_rfl) h
def ZCF(a b:List Tree):Prop:=AW (Z0 Zm6) Tryz.f69 Zxt [] (Zl (Zv3.can (a,b,())) []) (EQ Tryz.f69 (Zzo (a,b,())) [])
theorem ZAP(c26:CT 26 Z5P)(hb:∀ (a:List Tree) (b:List Tree) (_:Unit),ZjJ (a,b,())→ZCF a b):CT 69 Zds:=
 Z4 (l:=[(26,Z5P)]) Zo rfl (⟨c26,trivial⟩) Zxt Tryz.func69 rfl rfl 2 (fun _=> rfl) (by decide) (fun ⟨a,b,_⟩=> hb a b ())
def Zmc(N:Nat):List (FuncId × Fs U):=(18,fs Zmx (fun a=> [Z7L a,Zk2 a < N]) ZsH) ::[(26,Z5P),(69,Zds)]
def Zxz:Zj U:=lvl [([2,3],[2,3]),([2,3,64],[2,3]),([4],[]),([2,3,5],[2,3]),([2,3,5,69],[2,3]),([2,3,5],[2,3]),([2,3,5,82],[2,3]),([4],[]),([2,3,6],[2,3]),([2,3,6,87],[2,3]),([2,3,6],[2,3]),([2,3,6,118],[2,3]),([4],[]),([2,3,7],[2,3]),([2,3,7,123],[2,3]),([2,3,7],[2,3]),([2,3,7,8,9],[2,3,8,9]),([2,3,7,163],[2,3]),([4],[]),([4],[])]
def Zan(a b:Edit)(x5:Int):LSt U:=(L2 [(2,.ptr (.loc 2) 0),(3,.ptr (.loc 3) 0),(5,.c (ci x5))] [(.loc 2,(enc .edit a)),(.loc 3,(enc .edit b))])
def Zam(a b:Edit)(x6_a:Int):LSt U:=(L2 [(2,.ptr (.loc 2) 0),(3,.ptr (.loc 3) 0),(6,.c (ci x6_a))] [(.loc 2,(enc .edit a)),(.loc 3,(enc .edit b))])
def Zal(a b:Edit)(x7_b:Int):LSt U:=(L2 [(2,.ptr (.loc 2) 0),(3,.ptr (.loc 3) 0),(7,.c (ci x7_b))] [(.loc 2,(enc .edit a)),(.loc 3,(enc .edit b))])
abbrev A18(N:Nat)(p:List Nat):=AW (Z0 (Zmc N)) Tryz.f18 Zxz p
abbrev S18(N:Nat)(p:List Nat):=SW (Z0 (Zmc N)) Tryz.f18 Zxz p
theorem ZG1(N:Nat)(a b:Edit)(Q:QT)(h:∀ y_1,y_1=(a.new)→∀ y_2,y_2=(b.new)→∀ y_3,y_3=(a.old)→∀ y_4,y_4=(b.old)→let z5:=a.kind !=b.kind;let z3:=bif z5 then true else (a.list !=b.list);let z1:=bif z3 then true else (!(Jp y_3 y_4));let z4:=bif z1 then true else (!(Jp y_1 y_2));let z0:=bif z4 then true else (((a.words.length:Int):Int) !=(b.words.length:Int));let z2:=bif z0 then true else (((a.kids.length:Int):Int) !=(b.kids.length:Int));let z6:=bif z2 then true else (((a.ops.length:Int):Int) !=(b.ops.length:Int));((Tr ((!z5)=true))∧(Tr ((!z5)=true))∧(Tr ((!z5)=true))∧(Tr ((!z5)=true))∧(z5=false→(!z5)=true)∧(Tr ((!z3)=true))∧(Tr ((!z3)=true))∧(Tr ((!z3)=true))∧(Tr ((!z3)=true))∧((!z3)=true→Z5E (y_3,y_4,()))∧(Tr ((!z3)=true))∧(z3=false→(!z3)=true)∧(Tr ((!z1)=true))∧(Tr ((!z1)=true))∧(Tr ((!z1)=true))∧(Tr ((!z1)=true))∧((!z1)=true→Z5E (y_1,y_2,()))∧(Tr ((!z1)=true))∧(z1=false→(!z1)=true)∧(Tr ((!z4)=true))∧(Tr ((!z4)=true))∧(Tr ((!z4)=true))∧(Tr ((!z4)=true))∧(Tr ((!z4)=true))∧(Tr ((!z4)=true))∧(z4=false→(!z4)=true)∧(Tr ((!z0)=true))∧(Tr ((!z0)=true))∧(Tr ((!z0)=true))∧(Tr ((!z0)=true))∧(Tr ((!z0)=true))∧(Tr ((!z0)=true))∧(z0=false→(!z0)=true)∧(Tr ((!z2)=true))∧(Tr ((!z2)=true))∧(Tr ((!z2)=true))∧(Tr ((!z2)=true))∧(Tr ((!z2)=true))∧(Tr ((!z2)=true))∧(z2=false→(!z2)=true)∧((z6=true→(Q .ret (L2 [(4,.c (.bool false))] [])))∧(z6=false→(Zf (A18 N [1,1,0,1,0,0]) (Zan a b 0) (xB 0 (S18 N [1,1,1] Q))))))):
  A18 N [] (L2 [(0,.agg (enc .edit a)),(1,.agg (enc .edit b))] []) Q:=
 Eq.mpr (by kernel_rfl) (h _ (Zm _) _ (Zm _) _ (Zm _) _ (Zm _))
theorem Zw4(N:Nat)(a b:Edit)(x5:Int)(N0:NT)(Q:QT)(h:let z3:=decide (x5 < (a.words.length:Int));let z2:=b.words.getD x5.toNat (WEdit.mk 0 0 0 0);let z1:=a.words.getD x5.toNat (WEdit.mk 0 0 0 0);let z0:= !((((WEdit.at_ z1):Int)==(WEdit.at_ z2)) && ((((WEdit.mask z1):Int)==(WEdit.mask z2)) && ((((WEdit.old z1):Int)==(WEdit.old z2)) && ((((WEdit.new z1):Int)==(WEdit.new z2)) && true))));((z3=true→((0:Int)≤x5∧x5 < (a.words.length:Int))∧((0:Int)≤x5∧x5 < (b.words.length:Int))∧((z0=true→(Q .ret (L2 [(4,.c (.bool false))] [])))∧(z0=false→(InR (x5+1))∧(N0 (Zan a b (x5+1))))))∧(z3=false→(Zf (A18 N [1,1,1,0,1,0,0]) (Zam a b 0) (xB 2 (S18 N [1,1,1,1] Q)))))):
  A18 N [1,1,0,1,0,0] (Zan a b x5) (xT N0 (xB 0 (S18 N [1,1,1] Q))):=
 Eq.mpr (by kernel_rfl) h
theorem Zw3(N:Nat)(a b:Edit)(x6_a:Int)(N1:NT)(Q:QT)(h:∀ y_1,y_1=(a.kids.getD x6_a.toNat (KidOf.mk 0 Edit.nil))→∀ y_2,y_2=(b.kids.getD x6_a.toNat (KidOf.mk 0 Edit.nil))→∀ y_3,y_3=(y_1.e)→∀ y_4,y_4=(y_2.e)→let z2:=decide (x6_a < (a.kids.length:Int));let z0:=y_1.at_ !=y_2.at_;let z1:=bif z0 then true else (!(eqX y_3 y_4));((z2=true→((0:Int)≤x6_a∧x6_a < (a.kids.length:Int))∧((0:Int)≤x6_a∧x6_a < (b.kids.length:Int))∧(Tr ((!z0)=true))∧(Tr ((!z0)=true))∧(Tr ((!z0)=true))∧((!z0)=true→(0:Int)≤x6_a∧x6_a < (a.kids.length:Int))∧(Tr ((!z0)=true))∧(Tr ((!z0)=true))∧(Tr ((!z0)=true))∧(Tr ((!z0)=true))∧(Tr ((!z0)=true))∧((!z0)=true→(0:Int)≤x6_a∧x6_a < (b.kids.length:Int))∧(Tr ((!z0)=true))∧(Tr ((!z0)=true))∧(Tr ((!z0)=true))∧(Tr ((!z0)=true))∧((!z0)=true→Z7L (y_3,y_4,()))∧((!z0)=true→Zk2 (y_3,y_4,()) < N)∧(Tr ((!z0)=true))∧(z0=false→(!z0)=true)∧((z1=true→(Q .ret (L2 [(4,.c (.bool false))] [])))∧(z1=false→(InR (x6_a+1))∧(N1 (Zam a b (x6_a+1))))))∧(z2=false→(Zf (A18 N [1,1,1,1,0,1,0,0]) (Zal a b 0) (xB 4 (S18 N [1,1,1,1,1] Q)))))):
  A18 N [1,1,1,0,1,0,0] (Zam a b x6_a) (xT N1 (xB 2 (S18 N [1,1,1,1] Q))):=
 Eq.mpr (by kernel_rfl) (h _ rfl _ rfl _ (Z6 _) _ (Z6 _))
theorem Zw2(N:Nat)(a b:Edit)(x7_b:Int)(N2:NT)(Q:QT)(h:∀ y_1,y_1=(a.ops.getD x7_b.toNat Op.nil)→∀ y_2,y_2=(b.ops.getD x7_b.toNat Op.nil)→∀ y_3,y_3=(y_1.e)→∀ y_4,y_4=(y_2.e)→let z4:=decide (x7_b < (a.ops.length:Int));let z2:=y_1.kind !=y_2.kind;let z0:=bif z2 then true else (y_1.n !=y_2.n);let z1:=bif z0 then true else (!(eqX y_1.l y_2.l));let z3:=bif z1 then true else (!(eqX y_3 y_4));((z4=true→((0:Int)≤x7_b∧x7_b < (a.ops.length:Int))∧((0:Int)≤x7_b∧x7_b < (b.ops.length:Int))∧((Tr ((!z2)=true))∧(Tr ((!z2)=true))∧(Tr ((!z2)=true))∧(Tr ((!z2)=true))∧(z2=false→(!z2)=true)∧(Tr ((!z0)=true))∧(Tr ((!z0)=true))∧(Tr ((!z0)=true))∧(Tr ((!z0)=true))∧((!z0)=true→ZjJ (y_1.l,y_2.l,()))∧(Tr ((!z0)=true))∧(z0=false→(!z0)=true)∧(Tr ((!z1)=true))∧(Tr ((!z1)=true))∧(Tr ((!z1)=true))∧(Tr ((!z1)=true))∧((!z1)=true→Z7L (y_3,y_4,()))∧((!z1)=true→Zk2 (y_3,y_4,()) < N)∧(Tr ((!z1)=true))∧(z1=false→(!z1)=true)∧((z3=true→(Q .ret (L2 [(4,.c (.bool false))] [])))∧(z3=false→(InR (x7_b+1))∧(N2 (Zal a b (x7_b+1)))))))∧(z4=false→(Q .ret (L2 [(4,.c (.bool true))] []))))):
  A18 N [1,1,1,1,0,1,0,0] (Zal a b x7_b) (xT N2 (xB 4 (S18 N [1,1,1,1,1] Q))):=
 Eq.mpr (by kernel_rfl) (h _ rfl _ rfl _ (Z6 _) _ (Z6 _))
def ZCV(N:Nat)(a b:Edit):Prop:=AW (Z0 (Zmc N)) Tryz.f18 Zxz [] (Zl (Zmx.can (a,b,())) []) (EQ Tryz.f18 (ZsH (a,b,())) [])
theorem ZB2(c26:CT 26 Z5P)(c69:CT 69 Zds)(hb:∀ (N:Nat) (a:Edit) (b:Edit) (_:Unit),Z7L (a,b,())→Zk2 (a,b,()) < N+1→ZCV N a b):CT 18 ZdB:=
 Yo (μ:=Zk2) (l:=[(26,Z5P),(69,Zds)]) Zo rfl (⟨c26,c69,trivial⟩) Zxz Tryz.func18 rfl rfl 2 (fun _=> rfl) (by decide) (fun N ⟨a,b,_⟩=> hb N a b ())
end
end Go.AM.YtpjenobkibfpcaaGreat
namespace Go.AM.YtpjenobkibfpcaaGreat
open Go.AM Go.Proofs
theorem Zgv:Z9 Edit.nil=3:=by simp [Edit.nil,Z9,Zq,Zg,Tree.nil,Zu,Zh]
theorem Ztj{o:Op}(h:Zw o≤20000000000):o.l.length≤20000000000:=by
 have:=ZA o.l
 rw [ZN] at h
 omega
theorem Zb7{o:Op}(h:J4 o):0≤o.n∧o.n≤1048576:=by
 unfold J4 at h
 omega
theorem YV(o:Op):Z3 o=if o.kind=3 then 1 else o.n+o.l.length:=rfl
theorem ZqT:Contract Tryz.prog cfg 228 Z3A:=by
 refine Zww ?_
 intro o _ hp
 simp only [Z65] at hp
 have hl:=Ztj hp.1
 refine ZDh _ _ ?_;(try simp only [vcT,forall_eq])
 (simp only [vcS]);(try simp only [vcT])
 exact ⟨fun hk=> YF rfl (by rw [YV,if_pos hk]),fun hk=> ⟨by unfold InR;omega,YF rfl (by rw [YV,if_neg hk])⟩⟩
theorem ZqS:Contract Tryz.prog cfg 229 Z3z:=by
 refine Zwv ?_
 intro l al _ hp
 refine ZDg _ _ _ ?_;(try simp only [vcT,forall_eq])
 have e:((l.length:Int)==0)=decide (l.length=0):=by rw [Bool.eq_iff_iff];(simp only [vcS]);omega
 rw [e]
 (repeat' (first | exact trivial | exact rfl | apply And.intro))
theorem ZBw:Contract Tryz.prog cfg 226 Z8L:=by
 refine Zwy ZqS ?_
 intro l al _ hp
 refine ZDj _ _ _ ?_;(try simp only [vcT,forall_eq])
 have e:(bif (!(decide (l.length=0))) then ((OpOf.kind (List.getD l (Int.toNat 0) Op.nil))==al) else false)=sgl al l:=by
  rw [Bool.eq_iff_iff]
  simp only [sgl]
  (simp only [vcS])
  try rfl
 rw [e]
 refine ⟨hp,fun h=> ⟨by omega,?_⟩,by (repeat' (first | exact trivial | exact rfl | apply And.intro))⟩
 revert h
 (simp only [vcS])
 omega
theorem ZBD(ZuN:Contract Tryz.prog cfg 193 Z6I):Contract Tryz.prog cfg 209 Z2j:=by
 refine ZwG ZuN ?_
 intro p q _ hp
 refine ZDs _ _ _ ?_;(try simp only [vcT,forall_eq])
 refine ⟨hp,?_⟩
 (repeat' (first | exact trivial | exact rfl | apply And.intro))
theorem ZBv:Contract Tryz.prog cfg 227 Z8K:=by
 refine Zwx ZqT ?_
 intro l al n _ hp
 simp only [Z8d] at hp
 obtain ⟨⟨ho,hm⟩,hl,h1,h2⟩:=hp
 have hmem:=Zi (l:=l) (i:=0) (by omega) Op.nil
 have hok:=ho _ hmem
 have hmo:=ZW hmem
 have hlen:=ZQ l
 refine ZDi _ _ _ _ ?_;(try simp only [vcT])
 rintro y rfl _ rfl _ rfl
 have e0:(Int.toNat 0)=0:=rfl
 have e1:(Int.toNat 1)=1:=rfl
 simp only [e0,e1]
 have hT:∀ o r,ZY (l.getD 0 Op.nil) n=o→Yi l n=r→True:=fun _ _ _ _=> trivial
 have hon:=Zb7 hok
 have hln:=YV (l.getD 0 Op.nil)
 (simp only [vcS])
 generalize hy:l.getD 0 Op.nil=y at*
 refine ⟨⟨by omega,by omega⟩,⟨by dsimp only;omega,hon⟩,fun hc=> ⟨⟨by omega,by omega⟩,?_⟩,fun hc=> ⟨fun hk=> ⟨by unfold InR;omega,⟨by omega,by omega⟩,by simp;omega,?_⟩,fun hk=> ?_⟩⟩
 ·have t1:ZY y n=y:=by rw [ZY,if_pos hc]
  have t2:Yi l n=l.drop 1:=by rw [Yi,hy,if_pos hc]
  simp only [ZdU,Z9l,hy,t1,t2]
  (repeat' (first | exact trivial | exact rfl | apply And.intro))
 ·have t1:ZY y n=⟨y.kind,n,y.l,y.e⟩:=by rw [ZY,if_neg hc,if_pos hk]
  have t2:Yi l n=⟨y.kind,y.n - n,y.l,y.e⟩ ::l.drop 1:=by rw [Yi,hy,if_neg hc,Z0e,if_pos hk]
  simp only [ZdU,Z9l,hy,t1,t2]
  (repeat' (first | exact trivial | exact rfl | apply And.intro))
 ·have t1:ZY y n=⟨y.kind,y.n,y.l.take n.toNat,y.e⟩:=by rw [ZY,if_neg hc,if_neg hk]
  have t2:Yi l n=⟨y.kind,y.n,y.l.drop n.toNat,y.e⟩ ::l.drop 1:=by rw [Yi,hy,if_neg hc,Z0e,if_neg hk]
  simp only [ZdU,Z9l,hy,t1,t2]
  unfold J4 at hok
  refine ⟨?_,?_,⟨by omega,by omega⟩,by simp;omega,?_⟩
  ·split at hln <;> omega
  ·split at hln <;> omega
  ·(repeat' (first | exact trivial | exact rfl | apply And.intro))
theorem Z3o(n:Nat):∀ (l:List Tree),Zh (l.drop n)≤Zh l:=by
 induction n with
 | zero=> intro l;simp
 | succ n ih=>
  intro l
  cases l with
  | nil=> simp
  | cons t r=> simp only [List.drop_succ_cons,Zh];have:=ih r;omega
theorem ZeK(n:Nat):∀ (l:List Tree),Zh (l.take n)≤Zh l:=by
 induction n with
 | zero=> intro l;simp [Zh]
 | succ n ih=>
  intro l
  cases l with
  | nil=> simp
  | cons t r=> simp only [List.take_succ_cons,Zh];have:=ih r;omega
theorem J5{o:Op}(h:J4 o):1≤Z3 o:=by
 have:=YV o
 unfold J4 at h
 have hl:o.l≠[]→0 < o.l.length:=List.length_pos_iff.2
 rcases h with ⟨h1,h2,h3,h4⟩ | ⟨h1,h2,h3,h4⟩ | ⟨h1,h2,h3⟩
 ·rw [h2] at this;simp at this;split at this <;> omega
 ·have:=hl h3;split at* <;> omega
 ·rw [if_pos h1] at this;omega
theorem Z9u{o:Op}(h:J4 o)(hm:Zw o≤20000000000):Z3 o≤20000000000:=by
 have:=YV o
 have:=Ztj hm
 have:=Zb7 h
 unfold J4 at h
 rcases h with ⟨h1,h2,h3,h4⟩ | ⟨h1,h2,h3,h4⟩ | ⟨h1,h2,h3⟩
 ·simp [h2,h1] at*;omega
 ·split at* <;> omega
 ·split at* <;> omega
theorem Z3P(o:Op)(r:List Op):Zg (o ::r)=Zw o+Zg r:=rfl
theorem Z75{l:List Op}(h:Zbb l):Zbb (l.drop 1):=by
 cases l with
 | nil=> exact h
 | cons o r=>
  obtain ⟨h1,h2⟩:=h
  rw [Z3P] at h2
  exact ⟨fun x hx=> h1 x (List.mem_cons_of_mem _ hx),by simp only [List.drop_succ_cons,List.drop_zero];omega⟩
theorem Zba{l:List Op}(h:Zbb l)(hl:l.length≠0):J4 (l.getD 0 Op.nil)∧Zw (l.getD 0 Op.nil)≤20000000000∧Zw (l.getD 0 Op.nil)≤Zg l:=by
 have hm:=Zi (l:=l) (i:=0) (by omega) Op.nil
 have:=ZW hm
 exact ⟨h.1 _ hm,by have:=h.2;omega,this⟩
theorem Zfe{o:Op}{n:Int}(h:J4 o)(h1:1≤n)(h2:¬Z3 o≤n):J4 (Z0e o n)∧Zw (Z0e o n)≤Zw o:=by
 have hl:=YV o
 unfold Z0e
 unfold J4 at*
 by_cases hk:o.kind=0
 ·rw [if_pos hk]
  refine ⟨Or.inl ?_,by simp only [ZN];omega⟩
  rcases h with h | h | h
  ·obtain ⟨a,b,c,d⟩:=h
   rw [b,if_neg (by omega)] at hl
   simp at hl
   exact ⟨a,b,by dsimp only;omega,d⟩
  ·omega
  ·omega
 ·rw [if_neg hk]
  have:=Z3o n.toNat o.l
  refine ⟨Or.inr ?_,by simp only [ZN];omega⟩
  rcases h with h | h | h
  ·omega
  ·obtain ⟨a,b,c,d⟩:=h
   rw [if_neg (by omega)] at hl
   refine Or.inl ⟨a,b,?_,d⟩
   intro he
   have:=congrArg List.length he
   simp at this
   omega
  ·rw [if_pos h.1] at hl;omega
theorem Zep{l:List Op}{n:Int}(h:Zbb l)(hl:l.length≠0)(h1:1≤n):Zbb (Yi l n):=by
 unfold Yi
 split
 ·exact Z75 h
 ·rename_i hc
  obtain ⟨a,b,c⟩:=Zba h hl
  obtain ⟨d,e⟩:=Zfe a h1 hc
  have hd:=Z75 h
  refine ⟨fun x hx=> ?_,?_⟩
  ·rcases List.mem_cons.1 hx with rfl | hx
   ·exact d
   ·exact hd.1 _ hx
  ·rw [Z3P]
   obtain _ | ⟨o,r⟩:=l
   ·simp at hl
   ·have:=h.2
    rw [Z3P] at this
    simp at*
    omega
theorem ZfO(l:List Op):Yi l (Z3 (l.getD 0 Op.nil))=l.drop 1:=by rw [Yi,if_pos (Int.le_refl _)]
theorem ZfP(o:Op):ZY o (Z3 o)=o:=by rw [ZY,if_pos (Int.le_refl _)]
theorem ZmZ{a:Int}{l:List Op}(h:sgl a l=true):l.length≠0:=(of_decide_eq_true h).1
theorem Zfz{α:Type}(b:Bool)(x:α):(bif b then x else x)=x:=by cases b <;> rfl
theorem ZuN:Contract Tryz.prog cfg 193 Z6I:=by
 refine ZwL ZBw ZBv ZqT ZqS ?_
 intro pl pa ql qa _ hp
 simp only [Zhz] at hp
 have hpl:=ZQ pl
 have hql:=ZQ ql
 have hP:=hp.1.2
 have hQ:=hp.2.2
 refine ZDz _ _ _ _ _ ?_;(try simp only [vcT,forall_eq])
 refine Za (ι:=List Op × List Op × List Piece) (fun s=> Z2V pl pa ql qa s.1 s.2.1 qa s.2.2) (fun s=> Zbb s.1∧Zbb s.2.1∧s.2.2.length+s.1.length+s.2.1.length≤40000000000∧Yk pa qa s.1 s.2.1 s.2.2=Yk pa qa pl ql []) (fun s=> s.1.length+s.2.1.length) (pl,ql,[]) rfl ⟨hp.1,hp.2,by simp;omega,rfl⟩ ?_
 rintro ⟨p,q,out⟩ ⟨h1,h2,h3,h4⟩
 refine Zro _ _ _ _ _ _ _ _ _ _ ?_;(try simp only [vcT])
 have e0:(Int.toNat 0)=0:=rfl
 simp only [e0,Zfz]
 dsimp only at h1 h2 h3 h4
 rintro z1 hy1 z2 hy2 y3 hy3 z4 hy4 y1 rfl y2 rfl y4 rfl y8 hy8 y9 hy9 y10 hy10 y11 hy11
 have ey:y4=y2:=hy4.trans hy2.symm
 rw [ey] at hy10 hy11 ⊢
 have e3:(OpOf.mk 0 0 [] y3:Op)=Op.nil:=by rw [hy3];try rfl
 rw [←hy1,ZfP] at hy8
 rw [←hy2,ZfP] at hy9
 have hmin:∀ a b:Int,(if a < b then a else b)=min b a:=by intro a b;omega
 rw [←hy1,hmin] at hy10
 rw [←hy2,hmin] at hy11
 simp only [hmin,e3,hy8,hy9]
 (simp only [vcS])
 have o1:p.length≠0→J4 y1∧Zw y1≤20000000000:=fun h=> by have:=Zba h1 h;rw [←hy1] at this;exact ⟨this.1,this.2.1⟩
 have o2:q.length≠0→J4 y2∧Zw y2≤20000000000:=fun h=> by have:=Zba h2 h;rw [←hy2] at this;exact ⟨this.1,this.2.1⟩
 have tp:Yi p (Z3 y1)=p.drop 1:=by rw [hy1];exact ZfO p
 have tq:Yi q (Z3 y2)=q.drop 1:=by rw [hy2];exact ZfO q
 have hm1:=ZQ p
 have hm2:=ZQ q
 have hm3:=h1.2
 have hm4:=h2.2
 rw [Yk] at h4
 rw [←hy1,←hy2] at h4
 refine ⟨by simp only [ZaO];omega,fun hs=> ?_,fun hs=> ?_⟩
 ·have hl:=ZmZ hs
  obtain ⟨oa,ob⟩:=o1 hl
  have oc:=J5 oa
  have od:=Z9u oa ob
  rw [dif_pos hs] at h4
  refine ⟨⟨by omega,by omega⟩,⟨ob,Zb7 oa⟩,⟨h1,hl,oc,by dsimp only;omega⟩,by simp;omega,(p.drop 1,q,out++[⟨1,y1,Op.nil⟩]),by rw [tp],⟨Z75 h1,h2,by simp;omega,h4⟩,by simp;omega⟩
 ·rw [dif_neg (by rw [hs];exact Bool.false_ne_true)] at h4
  refine ⟨by simp only [ZaO];omega,fun hs2=> ?_,fun hs2=> ?_⟩
  ·have hl:=ZmZ hs2
   obtain ⟨oa,ob⟩:=o2 hl
   have oc:=J5 oa
   have od:=Z9u oa ob
   rw [dif_pos hs2] at h4
   refine ⟨⟨by omega,by omega⟩,⟨ob,Zb7 oa⟩,⟨h2,hl,oc,by dsimp only;omega⟩,by simp;omega,(p,q.drop 1,out++[⟨2,Op.nil,y2⟩]),by rw [tq],⟨h1,Z75 h2,by simp;omega,h4⟩,by simp;omega⟩
  ·rw [dif_neg (by rw [hs2];exact Bool.false_ne_true)] at h4
   refine ⟨by simp only [Z45];omega,fun _=> by simp only [Z45];omega,fun h=> h,fun hd=> ⟨by simp only [Z45];omega,by simp only [Z45];omega,fun he=> ?_,fun he=> ?_⟩,fun hd=> ?_⟩
   ·rw [dif_pos hd,if_neg he] at h4
    simp only [Zhn,ZcM,←h4]
    (repeat' (first | exact trivial | exact rfl | apply And.intro))
   ·rw [dif_pos hd,if_pos he] at h4
    simp only [Zhn,ZcM,←h4]
    (repeat' (first | exact trivial | exact rfl | apply And.intro))
   ·obtain ⟨oa,ob⟩:=o1 hd.1
    obtain ⟨oc,od⟩:=o2 hd.2
    have a1:=J5 oa
    have a2:=Z9u oa ob
    have a3:=J5 oc
    have a4:=Z9u oc od
    rw [dif_neg (by omega),←hy10,←hy11] at h4
    have c1:=Jg p (min (Z3 y1) (Z3 y2)) hd.1
    have c2:=Jg q (min (Z3 y1) (Z3 y2)) hd.2
    have c3:Z3 y1≤min (Z3 y1) (Z3 y2)→(Yi p (min (Z3 y1) (Z3 y2))).length < p.length:=fun h=> Jf p _ hd.1 (by rw [←hy1];exact h)
    have c4:Z3 y2≤min (Z3 y1) (Z3 y2)→(Yi q (min (Z3 y1) (Z3 y2))).length < q.length:=fun h=> Jf q _ hd.2 (by rw [←hy2];exact h)
    refine ⟨⟨by omega,by omega⟩,⟨ob,Zb7 oa⟩,⟨by omega,by omega⟩,⟨od,Zb7 oc⟩,⟨h1,hd.1,by dsimp only;omega,by dsimp only;omega⟩,⟨h2,hd.2,by dsimp only;omega,by dsimp only;omega⟩,by simp;omega,
     (Yi p (min (Z3 y1) (Z3 y2)),Yi q (min (Z3 y1) (Z3 y2)),out++[⟨0,y10,y11⟩]),rfl,⟨Zep h1 hd.1 (by omega),Zep h2 hd.2 (by omega),by simp;omega,h4⟩,by dsimp only;omega⟩
end Go.AM.YtpjenobkibfpcaaGreat
namespace Go.AM.YtpjenobkibfpcaaGreat
open Go.AM Go.Proofs
theorem Z5u{α:Type}{a b:α}(h:¬a=b):eqX a b=false:=by rw [←Bool.not_eq_true,Z1a];exact h
theorem Z2u{α:Type}(d:α){a b:List α}(hl:a.length=b.length)(h:∀ i:Nat,i < a.length→a.getD i d=b.getD i d):a=b:=by
 apply List.ext_getElem hl
 intro i h1 h2
 have:=h i h1
 simpa [List.getD_eq_getElem?_getD,List.getElem?_eq_getElem h1,List.getElem?_eq_getElem h2] using this
theorem c69:Contract Tryz.prog cfg 69 Zds:=by
 refine ZAP c26 ?_
 intro a b _ hp
 simp only [ZjJ] at hp
 refine ZFL _ _ _ ?_;(try simp only [vcT,forall_eq])
 (simp only [vcS]);(try simp only [vcT])
 refine ⟨fun hc=> Z5 rfl (Z5u (a:=a) (b:=b) (fun h=> hc (by rw [h]))).symm,fun hc=> ?_⟩
 have hl:a.length=b.length:=by omega
 have hla:=ZA a
 refine Za (ι:=Int) (fun i=> Zad a b i) (fun i=> 0≤i∧i≤a.length∧∀ j:Nat,(j:Int) < i→a.getD j Tree.nil=b.getD j Tree.nil) (fun i=> ((a.length:Int) - i).toNat) 0 rfl ⟨by omega,by omega,by intro j hj;omega⟩ ?_
 rintro i ⟨h1,h2,h3⟩
 refine ZvO _ _ _ _ _ ?_;(try simp only [vcT,forall_eq])
 (simp only [vcS]);(try simp only [vcT])
 try (simp only [Tree.eta,Edit.eta,Tree.kind_mk,Tree.words_mk,Tree.kids_mk])
 refine ⟨fun hi=> ⟨⟨h1,hi⟩,⟨h1,by omega⟩,?_,fun hq=> ?_,fun hq=> ⟨by unfold InR;omega,i+1,rfl,⟨by omega,by omega,?_⟩,by omega⟩⟩,fun hi=> ?_⟩
 ·have:=YO (Zi (l:=a) (i:=i.toNat) (by omega) Tree.nil)
  simp only [Z5E];omega
 ·refine Z5 rfl (Z5u (a:=a) (b:=b) (fun h=> ?_)).symm
  rw [h,J2] at hq
  exact hq rfl
 ·intro j hj
  by_cases hj2:(j:Int) < i
  ·exact h3 j hj2
  ·rw [JB,show i.toNat=j by omega] at hq
   exact hq
 ·refine Z5 rfl (Z1a (a:=a) (b:=b).2 (Z2u Tree.nil hl (fun j hj=> h3 j (by omega)))).symm
theorem ZuE{a b:Edit}(h1:a.kind=b.kind)(h2:a.old=b.old)(h3:a.new=b.new)(h4:a.words=b.words)(h5:a.kids=b.kids)(h6:a.list=b.list)(h7:a.ops=b.ops):a=b:=by
 cases a;cases b;simp_all
theorem ZxC{a b:Kid}(h1:a.at_=b.at_)(h2:a.e=b.e):a=b:=by cases a;cases b;simp_all
theorem ZAw{a b:Op}(h1:a.kind=b.kind)(h2:a.n=b.n)(h3:a.l=b.l)(h4:a.e=b.e):a=b:=by cases a;cases b;simp_all
theorem ZpP{a b:WEdit}(h1:a.at_=b.at_)(h2:a.mask=b.mask)(h3:a.old=b.old)(h4:a.new=b.new):a=b:=by cases a;cases b;simp_all
theorem c18:Contract Tryz.prog cfg 18 ZdB:=by
 refine ZB2 c26 c69 ?_
 intro N a b _ hp hN
 simp only [Z7L,Zk2] at hp hN
 have hme:=Yg a
 have hkl:=Y2 a.kids
 have hol:=ZQ a.ops
 have neq:∀ {P:Prop},(a=b→P)→¬P→eqX a b=false:=fun h1 h2=> Z5u (fun h=> h2 (h1 h))
 refine ZG1 N a b _ ?_;(try simp only [vcT])
 rintro y1 rfl y2 rfl y3 rfl y4 rfl
 (simp only [vcS]);(try simp only [vcT])
 refine ⟨fun _=> ?_,fun _=> ?_,fun hc=> ?_,fun hc=> ?_⟩
 ·simp only [Z5E];omega
 ·simp only [Z5E];omega
 ·refine Z5 rfl (Z5u (a:=a) (b:=b) (fun h=> ?_)).symm
  rw [h] at hc
  simp only [J2] at hc
  simp at hc
 ·simp only [JB,Classical.not_not] at hc
  obtain ⟨⟨⟨⟨⟨⟨h1,h2⟩,h3⟩,h4⟩,h5⟩,h6⟩,h7⟩:=hc
  refine Za (ι:=Int) (fun i=> Zan a b i) (fun i=> 0≤i∧i≤a.words.length∧∀ j:Nat,(j:Int) < i→a.words.getD j (WEdit.mk 0 0 0 0)=b.words.getD j (WEdit.mk 0 0 0 0)) (fun i=> ((a.words.length:Int) - i).toNat) 0 rfl ⟨by omega,by omega,by intro j hj;omega⟩ ?_
  rintro i ⟨g1,g2,g3⟩
  refine Zw4 _ _ _ _ _ _ ?_;(try simp only [vcT,forall_eq])
  (simp only [vcS]);(try simp only [vcT])
  try simp only [and_true]
  refine ⟨fun hi=> ⟨⟨g1,hi⟩,⟨g1,by omega⟩,fun hq=> ?_,fun hq=> ⟨by unfold InR;omega,i+1,rfl,⟨by omega,by omega,?_⟩,by omega⟩⟩,fun hi=> ?_⟩
  ·refine Z5 rfl (Z5u (a:=a) (b:=b) (fun h=> ?_)).symm
   rw [h] at hq
   simp at hq
  ·intro j hj
   by_cases hj2:(j:Int) < i
   ·exact g3 j hj2
   ·rw [show i.toNat=j by omega] at hq
    exact ZpP hq.1 hq.2.1 hq.2.2.1 hq.2.2.2
  ·have hw:a.words=b.words:=Z2u (WEdit.mk 0 0 0 0) (by omega) (fun j hj=> g3 j (by omega))
   refine Za (ι:=Int) (fun i=> Zam a b i) (fun i=> 0≤i∧i≤a.kids.length∧∀ j:Nat,(j:Int) < i→a.kids.getD j (KidOf.mk 0 Edit.nil)=b.kids.getD j (KidOf.mk 0 Edit.nil)) (fun i=> ((a.kids.length:Int) - i).toNat) 0 rfl ⟨by omega,by omega,by intro j hj;omega⟩ ?_
   rintro i ⟨g1,g2,g3⟩
   refine Zw3 _ _ _ _ _ _ ?_;(try simp only [vcT])
   rintro y1 hy1 y2 hy2 y3 hy3 y4 hy4
   (simp only [vcS]);(try simp only [vcT])
   refine ⟨fun hi=> ⟨⟨g1,hi⟩,⟨g1,by omega⟩,fun _=> ⟨g1,hi⟩,fun _=> ⟨g1,by omega⟩,fun _=> ?_,fun _=> ?_,fun hq=> ?_,fun hq=> ⟨by unfold InR;omega,i+1,rfl,⟨by omega,by omega,?_⟩,by omega⟩⟩,fun hi=> ?_⟩
   ·have:=YQ (Zi (l:=a.kids) (i:=i.toNat) (by omega) (KidOf.mk 0 Edit.nil))
    rw [←hy1,←hy3] at this
    simp only [Z7L];omega
   ·have:=YQ (Zi (l:=a.kids) (i:=i.toNat) (by omega) (KidOf.mk 0 Edit.nil))
    rw [←hy1,←hy3] at this
    simp only [Zk2];omega
   ·refine Z5 rfl (Z5u (a:=a) (b:=b) (fun h=> ?_)).symm
    rw [h] at hy1
    rw [hy3,hy4,hy1,hy2,Zaq] at hq
    simp at hq
   ·intro j hj
    by_cases hj2:(j:Int) < i
    ·exact g3 j hj2
    ·rw [Z1a,hy3,hy4,hy1,hy2,show i.toNat=j by omega] at hq
     exact ZxC (by simpa using hq.1) hq.2
   ·have hk:a.kids=b.kids:=Z2u (KidOf.mk 0 Edit.nil) (by omega) (fun j hj=> g3 j (by omega))
    refine Za (ι:=Int) (fun i=> Zal a b i) (fun i=> 0≤i∧i≤a.ops.length∧∀ j:Nat,(j:Int) < i→a.ops.getD j Op.nil=b.ops.getD j Op.nil) (fun i=> ((a.ops.length:Int) - i).toNat) 0 rfl ⟨by omega,by omega,by intro j hj;omega⟩ ?_
    rintro i ⟨g1,g2,g3⟩
    refine Zw2 _ _ _ _ _ _ ?_;(try simp only [vcT])
    rintro y1 hy1 y2 hy2 y3 hy3 y4 hy4
    (simp only [vcS]);(try simp only [vcT])
    refine ⟨fun hi=> ⟨⟨g1,hi⟩,⟨g1,by omega⟩,fun _=> ?_,fun _=> ?_,fun _=> ?_,fun hq=> ?_,fun hq=> ⟨by unfold InR;omega,i+1,rfl,⟨by omega,by omega,?_⟩,by omega⟩⟩,fun hi=> ?_⟩
    ·have:=ZW (Zi (l:=a.ops) (i:=i.toNat) (by omega) Op.nil)
     rw [←hy1,ZN] at this
     simp only [ZjJ];omega
    ·have:=ZW (Zi (l:=a.ops) (i:=i.toNat) (by omega) Op.nil)
     rw [←hy1,ZN,←hy3] at this
     simp only [Z7L];omega
    ·have:=ZW (Zi (l:=a.ops) (i:=i.toNat) (by omega) Op.nil)
     rw [←hy1,ZN,←hy3] at this
     simp only [Zk2];omega
    ·refine Z5 rfl (Z5u (a:=a) (b:=b) (fun h=> ?_)).symm
     rw [h] at hy1
     rw [hy3,hy4,hy1,hy2,Zaq,Zaq] at hq
     simp at hq
    ·intro j hj
     by_cases hj2:(j:Int) < i
     ·exact g3 j hj2
     ·rw [Z1a,Z1a,hy3,hy4,hy1,hy2,show i.toNat=j by omega] at hq
      obtain ⟨⟨⟨q1,q2⟩,q3⟩,q4⟩:=hq
      exact ZAw (by simpa using q1) (by simpa using q2) q3 q4
    ·have ho:a.ops=b.ops:=Z2u Op.nil (by omega) (fun j hj=> g3 j (by omega))
     exact Z5 rfl (Z1a (a:=a) (b:=b).2 (ZuE h1 h3 h4 hw hk h2 ho)).symm
end Go.AM.YtpjenobkibfpcaaGreat
namespace Go.AM.YtpjenobkibfpcaaGreat
open Go.AM Go.Proofs
def vu(u:AUnit):Op × Bool:=(opU u,u.alone)
def vs(a:Int)(o:Op):List (Op × Bool):=(ZcI 0 a o).map vu
theorem Z8A{a n:Int}{o:Op}(h:J4 o)(h1:1≤n)(hn:¬Z3 o≤n):vs a o=vs a (ZY o n)++vs a (Z0e o n)∧J4 (ZY o n)∧Z3 (ZY o n)=n∧Zw (ZY o n)≤Zw o:=by
 have hl:=YV o
 rcases h with ⟨k0,k1,k2,k3⟩ | ⟨k0,k1,k2,k3⟩ | ⟨k0,k1,k2⟩
 ·have e1:ZY o n=⟨o.kind,n,o.l,o.e⟩:=by rw [ZY,if_neg hn,if_pos k0]
  have e2:Z0e o n=⟨o.kind,o.n - n,o.l,o.e⟩:=by rw [Z0e,if_pos k0]
  rw [if_neg (by omega),k1] at hl
  simp only [List.length_nil] at hl
  rw [e1,e2]
  refine ⟨?_,Or.inl ⟨k0,k1,by dsimp only;omega,k3⟩,?_,by simp [ZN]⟩
  ·simp only [vs,ZcI,k0,k1]
   simp only [if_true,List.map_nil,List.nil_append,List.map_append,List.map_replicate]
   rw [if_neg (by decide)]
   simp only [List.map_nil,List.append_nil]
   rw [List.replicate_append_replicate]
   congr 1
   omega
  ·rw [YV]
   dsimp only
   rw [if_neg (by omega),k1]
   simp
 ·have e1:ZY o n=⟨o.kind,o.n,o.l.take n.toNat,o.e⟩:=by rw [ZY,if_neg hn,if_neg (by omega)]
  have e2:Z0e o n=⟨o.kind,o.n,o.l.drop n.toNat,o.e⟩:=by rw [Z0e,if_neg (by omega)]
  rw [if_neg (by omega)] at hl
  have hm:=ZeK n.toNat o.l
  rw [e1,e2]
  refine ⟨?_,Or.inr (Or.inl ⟨k0,k1,?_,k3⟩),?_,by simp only [ZN];omega⟩
  ·simp only [vs,ZcI]
   rw [if_neg (by omega),if_neg (by omega)]
   simp only [List.nil_append,List.append_nil]
   rw [←List.map_append,←List.map_append,List.take_append_drop]
  ·intro he
   have:=congrArg List.length he
   simp only [List.length_take,List.length_nil] at this
   omega
  ·rw [YV]
   dsimp only
   rw [if_neg (by omega),List.length_take]
   omega
 ·rw [if_pos k0] at hl
  omega
theorem Z3D{a:Int}{l:List Op}:sgl a l=true↔(l.length≠0∧(l.getD 0 Op.nil).kind=a):=by unfold sgl;exact decide_eq_true_iff
theorem Z4X(o:Op)(n:Int):(ZY o n).kind=o.kind:=by
 unfold ZY;split
 ·try rfl
 ·split <;> rfl
end Go.AM.YtpjenobkibfpcaaGreat
namespace Go.AM.YtpjenobkibfpcaaGreat
open Go.AM Go.Proofs
theorem ZjW{t:Tree}(h:ZZ t=true):t=Tree.nil:=by
 obtain ⟨k,w,ks⟩:=t
 have:=of_decide_eq_true h
 simp at this
 obtain ⟨rfl,rfl,rfl⟩:=this
 try rfl
theorem ZfW{e:Edit}(h:Z1g e=true):e=Edit.nil:=by
 obtain ⟨h1,h2,h3,h4,h5,h6,h7⟩:=Zj8 h
 obtain ⟨k,o,n,w,ks,l,os⟩:=e
 simp at h1 h2 h3 h4 h5 h6 h7
 subst h1 h4 h5 h6 h7
 rw [ZjW h2,ZjW h3]
 try rfl
theorem Y9{list:Int}{o:Op}{d:Int}(h:Zc list o d=true):J4 o:=by
 rw [Jn] at h
 unfold J4
 split at h
 ·rename_i h0
  simp only [Bool.and_eq_true,decide_eq_true_eq] at h
  exact Or.inl ⟨h0,List.length_eq_zero_iff.1 h.1.2.2,⟨h.1.1,h.1.2.1⟩,ZfW h.2⟩
 ·split at h
  ·cases h
  ·rename_i h0 h1
   split at h
   ·simp only [Bool.and_eq_true,decide_eq_true_eq] at h
    refine Or.inr (Or.inl ⟨by omega,by omega,?_,ZfW h.2⟩)
    exact List.length_pos_iff.1 h.1.2
   ·simp only [Bool.and_eq_true,decide_eq_true_eq] at h
    exact Or.inr (Or.inr ⟨by omega,by omega,List.length_eq_zero_iff.1 h.1.1.1⟩)
end Go.AM.YtpjenobkibfpcaaGreat
namespace Go.AM
def Z0k(list:Int)(e:Edit):Bool:=decide (e.kind=0∨(list=9∧e.kind=2∧e.words.length=0∧e.kids.length=0))
def Zb(l:List Tree):List Tree:=l.map Zd
def YS(kind:Int):List Op→List Tree
 | []=> []
 | o ::r=> if o.kind=1∨o.kind=2 then (if o.kind=kind then Zb o.l else [])++YS kind r else []
def Y0:List Op→Int
 | []=> 0
 | o ::r=> if o.kind=1∨o.kind=2 then 1+Y0 r else 0
mutual
def Jc:Edit→Int
 | .mk _ _ _ w ks _ os=> 1+w.length+Z1O ks+JV os
def Z1O:List (KidOf Edit)→Int
 | []=> 0
 | k ::r=> Z6D k+Z1O r
def Z6D:KidOf Edit→Int
 | ⟨_,e⟩=> Jc e
def JV:List (OpOf Edit)→Int
 | []=> 0
 | o ::r=> Zav o+JV r
def Zav:OpOf Edit→Int
 | ⟨k,_,_,e⟩=> if k=3 then 1+Jc e else 1
end
def Z5K(w:WEdit):WEdit:=⟨w.at_,w.mask,w.new,w.old⟩
mutual
def ZS:Edit→Edit
 | .mk k o n w ks l os=> .mk k n o (w.map Z5K) (JZ ks) l (Jt os)
def JZ:List (KidOf Edit)→List (KidOf Edit)
 | []=> []
 | k ::r=> Z1D k ::JZ r
def Z1D:KidOf Edit→KidOf Edit
 | ⟨a,e⟩=> ⟨a,ZS e⟩
def Jt:List (OpOf Edit)→List (OpOf Edit)
 | []=> []
 | o ::r=> J8 o ::Jt r
def J8:OpOf Edit→OpOf Edit
 | ⟨k,n,l,e⟩=> if k=1 then ⟨2,n,l,e⟩ else if k=2 then ⟨1,n,l,e⟩ else if k=3 then ⟨k,n,l,ZS e⟩ else ⟨k,n,l,e⟩
end
end Go.AM
namespace Go.AM
structure Wst where
 out:List Op
 gone:List Tree
 brought:List Tree
def YD(out:List Op)(g b:List Tree):List Op:=
 out++((if g.length=0 then [] else [⟨1,0,g,Edit.nil⟩])++(if b.length=0 then [] else [⟨2,0,b,Edit.nil⟩]))
def Ye:List Op→Int→List Op
 | [],n=> [⟨0,n,[],Edit.nil⟩]
 | [o],n=> if o.kind=0 then [⟨o.kind,o.n+n,o.l,o.e⟩] else [o,⟨0,n,[],Edit.nil⟩]
 | o ::p ::r,n=> o ::Ye (p ::r) n
def Z1(w:Wst):Wst:=⟨YD w.out w.gone w.brought,[],[]⟩
def ZG(w:Wst)(n:Int):Wst:=⟨Ye (Z1 w).out n,[],[]⟩
mutual
def Zv:Edit→Edit
 | .mk k o n w ks l os=>
  if k=1 then .mk k (Zd o) (Zd n) [] [] l []
  else if k=2 then .mk k Tree.nil Tree.nil w (J3 ks) l []
  else if k=3 then .mk k Tree.nil Tree.nil [] [] l (Z1 (Zr l os ⟨[],[],[]⟩)).out
  else .mk k Tree.nil Tree.nil [] [] l []
def J3:List (KidOf Edit)→List (KidOf Edit)
 | []=> []
 | k ::r=> Z0F k ::J3 r
def Z0F:KidOf Edit→KidOf Edit
 | ⟨a,e⟩=> ⟨a,Zv e⟩
def Zr(list:Int):List (OpOf Edit)→Wst→Wst
 | [],s=> s
 | o ::r,s=> Zr list r (Z0r list o s)
def Z0r(list:Int):OpOf Edit→Wst→Wst
 | ⟨k,n,l,e⟩,s=>
  if k=0 then ZG s n
  else if k=1 then ⟨s.out,s.gone++Zb l,s.brought⟩
  else if k=2 then ⟨s.out,s.gone,s.brought++Zb l⟩
  else if k=3 then (if Z0k list (Zv e)=true then ZG s 1 else ⟨(Z1 s).out++[⟨3,0,[],Zv e⟩],[],[]⟩)
  else s
end
theorem Z2r(e:Edit):Zv e=if e.kind=1 then .mk e.kind (Zd e.old) (Zd e.new) [] [] e.list []
  else if e.kind=2 then .mk e.kind Tree.nil Tree.nil e.words (J3 e.kids) e.list []
  else if e.kind=3 then .mk e.kind Tree.nil Tree.nil [] [] e.list (Z1 (Zr e.list e.ops ⟨[],[],[]⟩)).out
  else .mk e.kind Tree.nil Tree.nil [] [] e.list []:=by cases e;rfl
theorem Z76(k:Kid):Z0F k=⟨k.at_,Zv k.e⟩:=by cases k;rfl
theorem YE(list:Int)(o:Op)(s:Wst):Z0r list o s=if o.kind=0 then ZG s o.n
  else if o.kind=1 then ⟨s.out,s.gone++Zb o.l,s.brought⟩
  else if o.kind=2 then ⟨s.out,s.gone,s.brought++Zb o.l⟩
  else if o.kind=3 then (if Z0k list (Zv o.e)=true then ZG s 1 else ⟨(Z1 s).out++[⟨3,0,[],Zv o.e⟩],[],[]⟩)
  else s:=by cases o;rfl
theorem Zgj(list:Int):∀ (l:List Op) (s:Wst),Zr list l s=Zr list (l.drop (Y0 l).toNat) ⟨s.out,s.gone++YS 1 l,s.brought++YS 2 l⟩
 | [],s=> by simp [Zr,YS,Y0]
 | o ::r,s=> by
  by_cases h:o.kind=1∨o.kind=2
  ·have hg:0≤Y0 r:=gapN_nonneg r
   rw [Y0,if_pos h,YS,YS,if_pos h,if_pos h,show (1+Y0 r).toNat=(Y0 r).toNat+1 by omega,List.drop_succ_cons,Zr,YE,Zgj list r]
   rcases h with h | h
   ·rw [if_neg (by omega),if_pos h,if_pos h,if_neg (by omega)]
    simp
   ·rw [if_neg (by omega),if_neg (by omega),if_pos h,if_neg (by omega),if_pos h]
    simp
  ·rw [Y0,if_neg h,YS,YS,if_neg h,if_neg h]
   simp
where
 gapN_nonneg:∀ (l:List Op),0≤Y0 l
  | []=> by simp [Y0]
  | o ::r=> by
   have:=gapN_nonneg r
   rw [Y0];split <;> omega
end Go.AM
namespace Go.AM
def Yj{α:Type}(z:α)(l:List α)(i:Nat)(x:α):List α:=(l++List.replicate (i+1 - l.length) z).set i x
def wsD(tw:List Int):List WEdit→List Int→Option (List Int)
 | [],out=> some out
 | w ::r,out=> if mix 0 (tw.getD w.at_.toNat 0) w.mask=w.old then wsD tw r (Yj 0 out w.at_.toNat (mix (tw.getD w.at_.toNat 0) w.new w.mask)) else none
noncomputable def Z5F(l rest:List Tree):Bool:=decide (l.length≤rest.length) && eqX (Zb l) (Zb (rest.take l.length))
def Z4f(r:Option (List Tree × List Tree)):Option (List Tree):=r.bind fun x=> if x.2.length=0 then some x.1 else none
def nrD(r:Bool)(t:Tree):Tree:=if r then Zd t else t
mutual
noncomputable def doE(r:Bool):Edit→Tree→Option Tree
 | .mk k o n w ks l os,t=>
  (if k=0 then some t
  else if k=1 then (if Jp (Zd o) (Zd t)=true then some n else none)
  else if k=2 then (if t.kind=1 then (wsD t.words w t.words).bind fun a=> (Z2c r t.kids ks t.kids).map fun b=> .mk 1 a b else none)
  else if k=3 then (if t.kind=l then (Z4f (J0 r os t.kids [])).map fun b=> .mk l [] b else none)
  else none).map (nrD r)
noncomputable def Z2c(r:Bool)(tk:List Tree):List (KidOf Edit)→List Tree→Option (List Tree)
 | [],out=> some out
 | k ::s,out=> (ZgH r tk k).bind fun u=> Z2c r tk s (Yj Tree.nil out k.at_.toNat u)
noncomputable def ZgH(r:Bool)(tk:List Tree):KidOf Edit→Option Tree
 | ⟨a,e⟩=> doE r e (tk.getD a.toNat Tree.nil)
noncomputable def J0(r:Bool):List (OpOf Edit)→List Tree→List Tree→Option (List Tree × List Tree)
 | [],rest,out=> some (out,rest)
 | o ::s,rest,out=> (Zmi r o rest out).bind fun x=> J0 r s x.2 x.1
noncomputable def Zmi(r:Bool):OpOf Edit→List Tree→List Tree→Option (List Tree × List Tree)
 | ⟨k,n,l,e⟩,rest,out=>
  if k=0 then (if n.toNat≤rest.length then some (out++rest.take n.toNat,rest.drop n.toNat) else none)
  else if k=1 then (if Z5F l rest=true then some (out,rest.drop l.length) else none)
  else if k=2 then some (out++l,rest)
  else if rest.length=0 then none else (doE r e (rest.getD 0 Tree.nil)).map fun u=> (out++[u],rest.drop 1)
end
theorem Z4g(r:Bool)(e:Edit)(t:Tree):doE r e t=(if e.kind=0 then some t
  else if e.kind=1 then (if Jp (Zd e.old) (Zd t)=true then some e.new else none)
  else if e.kind=2 then (if t.kind=1 then (wsD t.words e.words t.words).bind fun a=> (Z2c r t.kids e.kids t.kids).map fun b=> .mk 1 a b else none)
  else if e.kind=3 then (if t.kind=e.list then (Z4f (J0 r e.ops t.kids [])).map fun b=> .mk e.list [] b else none)
  else none).map (nrD r):=by cases e;rfl
noncomputable def ZAq(r:Bool)(e:Edit)(t:Tree):Option Tree:=
 if e.kind=0 then some t
 else if e.kind=1 then (if Jp (Zd e.old) (Zd t)=true then some e.new else none)
 else if e.kind=2 then (if t.kind=1 then (wsD t.words e.words t.words).bind fun a=> (Z2c r t.kids e.kids t.kids).map fun b=> .mk 1 a b else none)
 else if e.kind=3 then (if t.kind=e.list then (Z4f (J0 r e.ops t.kids [])).map fun b=> .mk e.list [] b else none)
 else none
theorem Zik(r:Bool)(e:Edit)(t:Tree):doE r e t=(ZAq r e t).map (nrD r):=Z4g r e t
theorem Zat(r:Bool)(tk:List Tree)(k:Kid):ZgH r tk k=doE r k.e (tk.getD k.at_.toNat Tree.nil):=by cases k;rfl
theorem Z0z(r:Bool)(o:Op)(rest out:List Tree):Zmi r o rest out=if o.kind=0 then (if o.n.toNat≤rest.length then some (out++rest.take o.n.toNat,rest.drop o.n.toNat) else none)
  else if o.kind=1 then (if Z5F o.l rest=true then some (out,rest.drop o.l.length) else none)
  else if o.kind=2 then some (out++o.l,rest)
  else if rest.length=0 then none else (doE r o.e (rest.getD 0 Tree.nil)).map fun u=> (out++[u],rest.drop 1):=by cases o;rfl
noncomputable def Zcx(r:Bool)(e:Edit)(t:Tree):Option Tree:=
 if t.kind=1 then (wsD t.words e.words t.words).bind fun a=> (Z2c r t.kids e.kids t.kids).map fun b=> .mk 1 a b else none
noncomputable def Z7G(r:Bool)(e:Edit)(t:Tree):Option (List Tree × List Tree):=if t.kind=e.list then J0 r e.ops t.kids [] else none
def Z3L(o:Option Tree):Tree:=o.getD Tree.nil
def Zud(e:Edit)(o:Option (List Tree × List Tree)):Tree:=match o with | some x=> .mk e.list [] x.1 | none=> Tree.nil
noncomputable def Zcz(e:Edit)(t:Tree):Tree:=
 if e.kind=0 then t else if e.kind=1 then e.new else if e.kind=2 then Z3L (Zcx false e t) else if e.kind=3 then Zud e (Z7G false e t) else Tree.nil
theorem Z0O(o:Option Tree):o.map (nrD false)=o:=by cases o <;> rfl
theorem Zb8{e:Edit}{t u:Tree}(h:doE false e t=some u):Zcz e t=u:=by
 rw [Z4g,Z0O] at h
 unfold Zcz
 split
 ·rename_i h0;rw [if_pos h0] at h;exact Option.some.inj h
 ·rename_i h0;rw [if_neg h0] at h
  split
  ·rename_i h1;rw [if_pos h1] at h
   split at h
   ·exact Option.some.inj h
   ·cases h
  ·rename_i h1;rw [if_neg h1] at h
   split
   ·rename_i h2;rw [if_pos h2] at h
    unfold Z3L Zcx
    rw [h];try rfl
   ·rename_i h2;rw [if_neg h2] at h
    split
    ·rename_i h3;rw [if_pos h3] at h
     unfold Zud Z7G
     split at h
     ·rename_i h4;rw [if_pos h4]
      revert h
      cases J0 false e.ops t.kids [] with
      | none=> intro h;cases h
      | some x=>
       intro h
       simp only [Z4f,Option.bind_some] at h
       split at h
       ·exact Option.some.inj h
       ·cases h
     ·cases h
    ·rename_i h3;rw [if_neg h3] at h;cases h
end Go.AM
namespace Go.AM
def Z1e(m:Nat):Nat→Nat
 | 0=> 0
 | i+1=> Z1e m i+if m / 2 ^ i % 2=1 then 255*2 ^ (8*i) else 0
def Zfm:Nat→Nat→Nat
 | 0,_=> 0
 | k+1,m=> (if m % 2=1 then 255 else 0)+256*Zfm k (m / 2)
def ZbZ:Nat→Nat→Nat→Nat
 | 0,_,_=> 0
 | k+1,a,m=> (if m % 2=1 then a % 256 else 0)+256*ZbZ k (a / 256) (m / 2)
def Zk4:Nat→Nat→Nat→Nat→Nat
 | 0,_,_,_=> 0
 | k+1,a,b,m=> (if m % 2=1 then b % 256 else a % 256)+256*Zk4 k (a / 256) (b / 256) (m / 2)
theorem Zr5(x y u v:Nat)(hu:u < 256)(hv:v < 256):(u+256*x) &&& (v+256*y)=(u &&& v)+256*(x &&& y):=by
 have h:u &&& v < 256:=Nat.and_lt_two_pow (n:=8) u hv
 apply Nat.eq_of_testBit_eq
 intro j
 rw [Nat.add_comm u,Nat.add_comm v,Nat.add_comm (u &&& v),Nat.testBit_and]
 rw [show (256:Nat)=2 ^ 8 from rfl,Nat.testBit_two_pow_mul_add _ hu,Nat.testBit_two_pow_mul_add _ hv,Nat.testBit_two_pow_mul_add _ h]
 split <;> rw [Nat.testBit_and]
theorem Zth(x y u v:Nat)(hu:u < 256)(hv:v < 256):(u+256*x) ||| (v+256*y)=(u ||| v)+256*(x ||| y):=by
 have h:u ||| v < 256:=Nat.or_lt_two_pow (n:=8) hu hv
 apply Nat.eq_of_testBit_eq
 intro j
 rw [Nat.add_comm u,Nat.add_comm v,Nat.add_comm (u ||| v),Nat.testBit_or]
 rw [show (256:Nat)=2 ^ 8 from rfl,Nat.testBit_two_pow_mul_add _ hu,Nat.testBit_two_pow_mul_add _ hv,Nat.testBit_two_pow_mul_add _ h]
 split <;> rw [Nat.testBit_or]
theorem Zfi:∀ (k a m:Nat),a &&& Zfm k m=ZbZ k a m
 | 0,a,m=> by simp [Zfm,ZbZ]
 | k+1,a,m=> by
  have e:a=a % 256+256*(a / 256):=by omega
  simp only [Zfm,ZbZ]
  rw [←Zfi k (a / 256) (m / 2)]
  have h:a &&& ((if m % 2=1 then 255 else 0)+256*Zfm k (m / 2))=(a % 256+256*(a / 256)) &&& ((if m % 2=1 then 255 else 0)+256*Zfm k (m / 2)):=by rw [←e]
  rw [h,Zr5 _ _ _ _ (by omega) (by split <;> omega)]
  congr 1
  split
  ·have:=Nat.and_two_pow_sub_one_eq_mod (a % 256) 8
   simp only [show (2:Nat) ^ 8 - 1=255 from rfl,show (2:Nat) ^ 8=256 from rfl,Nat.mod_mod] at this
   exact this
  ·simp
theorem Znz:∀ (k a b m n:Nat),(∀ i < k,m / 2 ^ i % 2+n / 2 ^ i % 2=1)→ZbZ k a n ||| ZbZ k b m=Zk4 k a b m
 | 0,a,b,m,n,_=> by simp [ZbZ,Zk4]
 | k+1,a,b,m,n,h=> by
  simp only [ZbZ,Zk4]
  have h0:=h 0 (by omega)
  simp only [Nat.pow_zero,Nat.div_one] at h0
  rw [Zth _ _ _ _ (by split <;> omega) (by split <;> omega),Znz k (a / 256) (b / 256) (m / 2) (n / 2) (fun i hi=> by
   have:=h (i+1) (by omega)
   rw [Nat.div_div_eq_div_mul,Nat.div_div_eq_div_mul]
   rw [Nat.pow_succ,Nat.mul_comm] at this
   exact this)]
  congr 1
  by_cases hm:m % 2=1
  ·rw [if_pos hm,if_pos hm,if_neg (by omega)];simp
  ·rw [if_neg hm,if_neg hm,if_pos (by omega)];simp
theorem ZmF:∀ m:Fin 256,Z1e m.1 8=Zfm 8 m.1:=by decide+kernel
theorem Zrh:∀ m:Fin 256,2 ^ 64 - 1 - Zfm 8 m.1=Zfm 8 (255 - m.1):=by decide+kernel
theorem ZuS:∀ m:Fin 256,∀ i:Fin 8,m.1 / 2 ^ i.1 % 2+(255 - m.1) / 2 ^ i.1 % 2=1:=by decide+kernel
theorem Zvs:∀ m:Fin 256,Zfm 8 m.1 < 2 ^ 64:=by decide+kernel
theorem Ztw(a b m:Nat)(hm:m < 256):(a &&& (2 ^ 64 - 1 - Z1e m 8)) ||| (b &&& Z1e m 8)=Zk4 8 a b m:=by
 have h1:=ZmF ⟨m,hm⟩
 have h2:=Zrh ⟨m,hm⟩
 simp only at h1 h2
 rw [h1,h2,Zfi,Zfi]
 exact Znz 8 a b m (255 - m) (fun i hi=> ZuS ⟨m,hm⟩ ⟨i,hi⟩)
def ofK:Nat→(Nat→Nat)→Nat
 | 0,_=> 0
 | k+1,f=> f 0+256*ofK k (fun i=> f (i+1))
theorem Zgh:∀ (k:Nat) {f g:Nat→Nat},(∀ i,f i=g i)→ofK k f=ofK k g
 | 0,_,_,_=> rfl
 | k+1,f,g,h=> by simp only [ofK,h 0,Zgh k (fun i=> h (i+1))]
theorem ZnF:∀ (k a b m:Nat),Zk4 k a b m=ofK k (fun i=> if m / 2 ^ i % 2=1 then b / 256 ^ i % 256 else a / 256 ^ i % 256)
 | 0,_,_,_=> rfl
 | k+1,a,b,m=> by
  simp only [Zk4,ofK,Nat.pow_zero,Nat.div_one]
  rw [ZnF k,Zgh k (g:=fun i=> if m / 2 ^ (i+1) % 2=1 then b / 256 ^ (i+1) % 256 else a / 256 ^ (i+1) % 256) (fun i=> ?_)]
  rw [Nat.div_div_eq_div_mul,Nat.div_div_eq_div_mul,Nat.div_div_eq_div_mul,Nat.pow_succ',Nat.pow_succ']
theorem Zty(a b m:Nat):((Zk4 8 a b m:Nat):Int)=mix a b m:=by
 have nm:∀ i:Nat,Z0j (m:Int) (i:Int)=decide (m / 2 ^ i % 2=1):=by
  intro i
  unfold Z0j
  rw [decide_eq_decide,Int.toNat_natCast]
  have:((m:Int) / 2 ^ i % 2:Int)=((m / 2 ^ i % 2:Nat):Int):=by rw [Int.natCast_emod,Int.natCast_ediv,Int.natCast_pow];try rfl
  rw [this];omega
 have by_:∀ (x i:Nat),Zn (x:Int) i=((x / 256 ^ i % 256:Nat):Int):=by
  intro x i
  unfold Zn
  rw [Int.natCast_emod,Int.natCast_ediv,Int.natCast_pow]
  try rfl
 have mx:∀ i:Nat,Ji (a:Int) (b:Int) (m:Int) i=((if m / 2 ^ i % 2=1 then b / 256 ^ i % 256 else a / 256 ^ i % 256:Nat):Int):=by
  intro i
  unfold Ji
  rw [nm,by_,by_]
  by_cases h:m / 2 ^ i % 2=1
  ·rw [decide_eq_true h,if_pos rfl,if_pos h]
  ·rw [decide_eq_false h,if_neg Bool.false_ne_true,if_neg h]
 rw [ZnF]
 generalize hf:(fun i=> if m / 2 ^ i % 2=1 then b / 256 ^ i % 256 else a / 256 ^ i % 256)=f
 have hx:∀ i,Ji (a:Int) (b:Int) (m:Int) i=(f i:Int):=by intro i;rw [mx,←hf]
 have e:ofK 8 f=f 0+256*(f 1+256*(f 2+256*(f 3+256*(f 4+256*(f 5+256*(f 6+256*(f 7+256*0))))))):=rfl
 rw [e]
 simp only [mix,of8,hx]
 omega
def YN(list:Int)(e:Edit):Bool:=
 if (2≤list∧list≤7)∨e.kind=0 then false else if list=8∨e.kind=2 then true else decide (e.kind=1∧e.old.kind=1∧e.new.kind=1)
end Go.AM
namespace Go.AM
def Zr6(a b:Int):Int:=IntKind.wrap .u8 (BitVec.ofInt (IntKind.bits .u8) a &&& BitVec.ofInt (IntKind.bits .u8) b).toNat
def orM(a b:Int):Int:=IntKind.wrap .u8 (BitVec.ofInt (IntKind.bits .u8) a ||| BitVec.ofInt (IntKind.bits .u8) b).toNat
def Zio(p q:WEdit):Bool:=decide (mix 0 p.new (Zr6 p.mask q.mask)=mix 0 q.old (Zr6 p.mask q.mask))
def JS(p q:WEdit):WEdit × Bool:=
 if Zio p q then (⟨p.at_,orM p.mask q.mask,mix q.old p.old p.mask,mix p.new q.new q.mask⟩,true) else (⟨0,0,0,0⟩,false)
def Zt{α:Type}(at_:α→Int)(one:α→α→α × Bool):List α→List α→Option (List α)
 | [],q=> some q
 | a ::p,[]=> some (a ::p)
 | a ::p,b ::q=>
  if at_ a < at_ b then (Zt at_ one p (b ::q)).map (a ::·)
  else if at_ b < at_ a then (Zt at_ one (a ::p) q).map (b ::·)
  else if (one a b).2 then (Zt at_ one p q).map ((one a b).1 ::·) else none
termination_by p q=> p.length+q.length
def ofO{α:Type}(o:Option (List α)):List α:=o.getD []
structure PRes where
 op:Op
 is:Bool
 ok:Bool
noncomputable def doB(e:Edit)(t:Tree):Tree × Bool:=(Z3L ((doE false e t).map Zd),(doE false e t).isSome)
noncomputable def ZBo(a b:List Tree):Bool:=eqX (Zb a) (Zb b)
noncomputable def Jl(f:Edit→Edit→Edit × Bool)(x:Piece):PRes:=
 if x.of=1∨(x.of=0∧x.q.kind=0) then ⟨x.p,true,true⟩
 else if x.of=2∨x.p.kind=0 then ⟨x.q,true,true⟩
 else if x.p.kind=2∧x.q.kind=1 then ⟨Op.nil,false,ZBo x.p.l (x.q.l.take x.p.l.length)⟩
 else if x.p.kind=2 then ⟨⟨2,0,[(doB x.q.e (x.p.l.getD 0 Tree.nil)).1],Edit.nil⟩,true,(doB x.q.e (x.p.l.getD 0 Tree.nil)).2⟩
 else if x.q.kind=1 then ⟨⟨1,0,[(doB (Zv (ZS x.p.e)) (x.q.l.getD 0 Tree.nil)).1],Edit.nil⟩,true,(doB (Zv (ZS x.p.e)) (x.q.l.getD 0 Tree.nil)).2⟩
 else ⟨⟨3,0,[],(f x.p.e x.q.e).1⟩,true,(f x.p.e x.q.e).2⟩
noncomputable def Z1b(f:Edit→Edit→Edit × Bool):List Piece→Option (List Op)
 | []=> some []
 | x ::r=> if (Jl f x).ok then (Z1b f r).map ((if (Jl f x).is then [(Jl f x).op] else [])++·) else none
noncomputable def Z2g(f:Edit→Edit→Edit × Bool)(p q:List Op):Option (List Op):=
 if (Yk 1 2 p q []).2.1 then Z1b f (Yk 1 2 p q []).1 else none
def Z24(f:Edit→Edit→Edit × Bool)(a b:Kid):Kid × Bool:=(⟨a.at_,(f a.e b.e).1⟩,(f a.e b.e).2)
noncomputable def JW(f:Edit→Edit→Edit × Bool)(p q:Edit):Edit × Bool:=
 if p.kind=0 then (q,true)
 else if q.kind=0 then (p,true)
 else if p.kind=1 then (.mk 1 p.old (doB q p.new).1 [] [] 0 [],(doB q p.new).2)
 else if q.kind=1 then (.mk 1 (doB (Zv (ZS p)) q.old).1 q.new [] [] 0 [],(doB (Zv (ZS p)) q.old).2)
 else if p.kind≠q.kind∨p.list≠q.list then (Edit.nil,false)
 else if p.kind=2 then
  if (Zt WEdit.at_ JS p.words q.words).isSome then
   (.mk 2 Tree.nil Tree.nil (ofO (Zt WEdit.at_ JS p.words q.words)) (ofO (Zt KidOf.at_ (Z24 f) p.kids q.kids)) 0 [],(Zt KidOf.at_ (Z24 f) p.kids q.kids).isSome)
  else (Edit.nil,false)
 else (.mk 3 Tree.nil Tree.nil [] [] p.list (ofO (Z2g f p.ops q.ops)),(Z2g f p.ops q.ops).isSome)
noncomputable def ZfA:Nat→Edit→Edit→Edit × Bool
 | 0,_,_=> (Edit.nil,false)
 | n+1,p,q=> JW (ZfA n) p q
noncomputable def Yt(p q:Edit):Edit × Bool:=ZfA (Z9 p+Z9 q) p q
def ZED(l:List WEdit)(at_:Int):Option WEdit:=l.find? (fun w=> decide (w.at_=at_))
def ZxH(l:List Kid)(at_:Int):Edit:=((l.find? (fun k=> decide (k.at_=at_))).map KidOf.e).getD Edit.nil
def Ztm:List Int→List Int→List Int
 | [],b=> b
 | a ::p,[]=> a ::p
 | a ::p,b ::q=> if a < b then a ::Ztm p (b ::q) else if b < a then b ::Ztm (a ::p) q else a ::Ztm p q
termination_by p q=> p.length+q.length
def Zjz(p q:List WEdit):List Int→Option (List WEdit)
 | []=> some []
 | n ::r=> match ZED p n,ZED q n with
  | some x,none=> (Zjz p q r).map (x ::·)
  | none,some y=> (Zjz p q r).map (y ::·)
  | some x,some y=> if (JS x y).2 then (Zjz p q r).map ((JS x y).1 ::·) else none
  | none,none=> (Zjz p q r).map ((⟨0,0,0,0⟩:WEdit) ::·)
noncomputable def Zzt(f:Edit→Edit→Edit × Bool)(p q:List Kid):List Int→Option (List Kid)
 | []=> some []
 | n ::r=> if (f (ZxH p n) (ZxH q n)).2 then (Zzt f p q r).map (⟨n,(f (ZxH p n) (ZxH q n)).1⟩ ::·) else none
noncomputable def ZEn(f:Edit→Edit→Edit × Bool)(p q:AUnit):List Op × Bool:=
 if q.kind=0 then ([opU p],true)
 else if p.kind=0 then ([opU q],true)
 else if p.kind=2∧q.kind=1 then ([],Jp (Zd p.t) (Zd q.t))
 else if p.kind=2 then ([⟨2,0,[Z3L (doE true q.e p.t)],Edit.nil⟩],(doE true q.e p.t).isSome)
 else if q.kind=1 then ([⟨1,0,[Z3L (doE true (Zv (ZS p.e)) q.t)],Edit.nil⟩],(doE true (Zv (ZS p.e)) q.t).isSome)
 else ([⟨3,0,[],(f p.e q.e).1⟩],(f p.e q.e).2)
noncomputable def Znk(f:Edit→Edit→Edit × Bool):List APair→Option (List Op)
 | []=> some []
 | x ::r=>
  if x.of=1 then (Znk f r).map (opU x.p ::·)
  else if x.of=2 then (Znk f r).map (opU x.q ::·)
  else if (ZEn f x.p x.q).2 then (Znk f r).map ((ZEn f x.p x.q).1++·) else none
noncomputable def ZEo(f:Edit→Edit→Edit × Bool)(p q:List Op):Option (List Op):=
 if (Zem (Zd8 0 1 p) (Zd8 0 2 q) []).2 then Znk f (Zem (Zd8 0 1 p) (Zd8 0 2 q) []).1 else none
noncomputable def Zwf(f:Edit→Edit→Edit × Bool)(p q:Edit):Edit × Bool:=
 if p.kind=0 then (q,true)
 else if q.kind=0 then (p,true)
 else if p.kind=1 then (.mk 1 p.old (Z3L (doE true q p.new)) [] [] 0 [],(doE true q p.new).isSome)
 else if q.kind=1 then (.mk 1 (Z3L (doE true (Zv (ZS p)) q.old)) q.new [] [] 0 [],(doE true (Zv (ZS p)) q.old).isSome)
 else if p.kind≠q.kind then (Edit.nil,false)
 else if p.kind=2 then
  match Zjz p.words q.words (Ztm (p.words.map WEdit.at_) (q.words.map WEdit.at_)),Zzt f p.kids q.kids (Ztm (p.kids.map KidOf.at_) (q.kids.map KidOf.at_)) with
  | some w,some k=> (.mk 2 Tree.nil Tree.nil w k 0 [],true)
  | _,_=> (Edit.nil,false)
 else if p.list≠q.list then (Edit.nil,false)
 else match ZEo f p.ops q.ops with
  | some l=> (.mk 3 Tree.nil Tree.nil [] [] p.list l,true)
  | none=> (Edit.nil,false)
noncomputable def ZEr:Nat→Edit→Edit→Edit × Bool
 | 0,_,_=> (Edit.nil,false)
 | n+1,p,q=> Zwf (ZEr n) p q
noncomputable def ZEs(p q:Edit):Edit × Bool:=ZEr (Z9 p+Z9 q) p q
def Z1f(e:Edit):Prop:=ctE e≤9000000000∧YI e∧∃ d,Z2 e d=true
def Zuw(k:Kid):Prop:=Z4P k≤9000000000∧Z1n k∧∃ d,Z2 k.e d=true
def Zcy(l:List Kid):Prop:=Z0L l≤9000000000∧Z0q l∧∀ k∈l,∃ d,Z2 k.e d=true
def Zq5(l:List Op):Prop:=J7 l≤9000000000∧Z02 l∧∀ o∈l,∃ list d,Zc list o d=true
def Zsb(o:Op):Prop:=J4 o∧Z3t o≤9000000000∧Yz o∧(o.kind=3→∃ d,Z2 o.e d=true)
structure PcOk (x:Piece):Prop where
 of:x.of=0∨x.of=1∨x.of=2
 pp:x.of≠2→Zsb x.p
 qq:x.of≠1→Zsb x.q
 both:x.of=0→x.p.kind≠1∧x.q.kind≠2∧Z3 x.p=Z3 x.q
end Go.AM
namespace Go.AM
instance:Inhabited PStep:=⟨⟨0,0⟩⟩
def ZT(n:Int):List Op:=if n=0 then [] else [⟨0,n,[],Edit.nil⟩]
def Zti(len at_:Int)(x:Edit):List Op:=(ZT at_++[⟨3,0,[],x⟩])++ZT (len - at_ - 1)
def ZzB(s:PStep)(t:Tree):Prop:=s.kind=0∧0≤s.at_∧(t.kind=1∧s.at_ < 65535∨(2≤t.kind∧t.kind≤9)∧s.at_ < t.kids.length)
instance (s:PStep) (t:Tree):Decidable (ZzB s t):=by unfold ZzB;infer_instance
end Go.AM
namespace Go.AM
noncomputable def Z2z(p q:Edit):Edit × Bool:=if (Yt p q).2=true then (Zv (Yt p q).1,true) else (Edit.nil,false)
noncomputable def ZEq(p q:Edit):Edit × Bool:=if (ZEs p q).2=true then (Zv (ZEs p q).1,true) else (Edit.nil,false)
end Go.AM
namespace Go.AM
def Jq(list ahead:Int)(o:Op)(behind:Int):Edit:= .mk 3 Tree.nil Tree.nil [] [] list ((ZT ahead++[o])++ZT behind)
def Js(w:WEdit):Edit:= .mk 2 Tree.nil Tree.nil [w] [] 0 []
def Z3w(a:Int)(x:Edit):Edit:= .mk 2 Tree.nil Tree.nil [] [⟨a,x⟩] 0 []
mutual
def Zk:Edit→List Edit
 | .mk k o n w ks l os=> if k=0 then [] else
  if (if k=2 then w.map Js++ZP ks else if k=3 then ZL l os 0 (Ym os 0) else []).length=0 then [.mk k o n w ks l os]
  else (if k=2 then w.map Js++ZP ks else if k=3 then ZL l os 0 (Ym os 0) else [])
def ZP:List (KidOf Edit)→List Edit
 | []=> []
 | k ::r=> Z6d k++ZP r
def Z6d:KidOf Edit→List Edit
 | ⟨a,e⟩=> (Zk e).map (Z3w a)
def ZL(l:Int):List (OpOf Edit)→Int→Int→List Edit
 | [],_,_=> []
 | o ::r,a,b=> Z9r l o a b++ZL l r (if o.kind=1 then a else a+Z3 o) (if o.kind=2 then b else b - Z3 o)
def Z9r(l:Int):OpOf Edit→Int→Int→List Edit
 | ⟨k,n,t,e⟩,a,b=> if k=0 then [] else if k=1 then [Jq l a ⟨k,n,t,e⟩ (b - t.length)] else if k=2 then [Jq l a ⟨k,n,t,e⟩ (b - 0)]
  else (Zk e).map fun x=> Jq l a ⟨3,0,[],x⟩ (b - 1)
end
def Y7(e:Edit):List Edit:=if e.kind=2 then e.words.map Js++ZP e.kids else if e.kind=3 then ZL e.list e.ops 0 (Ym e.ops 0) else []
theorem YC(e:Edit):Zk e=if e.kind=0 then [] else if (Y7 e).length=0 then [e] else Y7 e:=by cases e;rfl
theorem Z1Y(k:Kid):Z6d k=(Zk k.e).map (Z3w k.at_):=by cases k;rfl
theorem Z1o(l:Int)(o:Op)(a b:Int):Z9r l o a b=if o.kind=0 then [] else if o.kind=1 then [Jq l a o (b - o.l.length)] else if o.kind=2 then [Jq l a o (b - 0)]
  else (Zk o.e).map fun x=> Jq l a ⟨3,0,[],x⟩ (b - 1):=by cases o;rfl
noncomputable def Jh:List Edit→Tree→Option Tree
 | [],t=> some t
 | e ::r,t=> (doE false e t).bind (Jh r)
noncomputable def Z7T:List Edit→Edit→Edit × Bool
 | [],x=> (x,true)
 | e ::r,x=> if (Z2z x e).2=true then Z7T r (Z2z x e).1 else (Edit.nil,false)
noncomputable def Z4B(l:List Edit):Edit × Bool:=if (Z7T l Edit.nil).2=true then (Zv (Z7T l Edit.nil).1,true) else (Edit.nil,false)
def ctL:List Edit→Nat
 | []=> 0
 | e ::r=> ctE e+ctL r
end Go.AM
namespace Go.AM.YtpjenobkibfpcaaGreat
open Go.AM Go.Proofs
theorem ZpT(l:List Int):trim (trim l)=trim l:=by
 induction l with
 | nil=> rfl
 | cons x r ih=>
  rw [Z2I]
  split
  ·try rfl
  ·rename_i h
   rw [Z2I,ih,if_neg h]
theorem Zl2(l:List Tree):Yw (Yw l)=Yw l:=by
 induction l with
 | nil=> rfl
 | cons x r ih=>
  rw [Z00]
  split
  ·try rfl
  ·rename_i h
   rw [Z00,ih,if_neg h]
def Normed:List Tree→Prop
 | []=> True
 | t ::r=> Zd t=t∧Normed r
theorem Normed.eq:∀ {l:List Tree},Normed l→Ys l=l
 | [],_=> rfl
 | t ::r,h=> by simp only [Ys,h.1,Normed.eq h.2]
theorem Normed.trim:∀ {l:List Tree},Normed l→Normed (Yw l)
 | [],_=> trivial
 | t ::r,h=> by
  rw [Z00]
  split
  ·trivial
  ·exact ⟨h.1,Normed.trim h.2⟩
mutual
theorem Z5q:∀ (t:Tree),Zd (Zd t)=Zd t
 | .mk k w ks=> by
  have h:=Z9x ks
  by_cases h0:k=0
  ·simp [Zd,h0,Tree.nil]
  ·by_cases h1:k=1
   ·subst h1
    simp only [Zd,if_neg h0,if_true,ZpT,h.trim.eq,Zl2]
   ·simp only [Zd,if_neg h0,if_neg h1,h.eq]
theorem Z9x:∀ (ks:List Tree),Normed (Ys ks)
 | []=> trivial
 | t ::r=> ⟨Z5q t,Z9x r⟩
end
end Go.AM.YtpjenobkibfpcaaGreat
namespace Go.AM.YtpjenobkibfpcaaGreat
open Go.AM Go.Proofs
noncomputable section
abbrev JK(p:Prop):Prop:=p→p
noncomputable section
def Zp7:ArgL (List Tree × Unit):=(.cons (aSl .tree) .nil)
def ZaT(a:List Tree × Unit):Prop:=Zh a.1≤20000000000
def ZsG(a:List Tree × Unit):V U:= .c (sU .tree (Zb a.1) .unk)
def Z8X:Fs U:=fs Zp7 (fun a=> [ZaT a]) ZsG
def Zpl:ArgL (List Op × Int × Int × Unit):=(.cons (aSl .op) (.cons (YG .i64) (.cons (YG .i64) .nil)))
def Z5k(a:List Op × Int × Int × Unit):Prop:=Zg a.1≤20000000000∧0≤a.2.1∧a.2.1≤(a.1).length
def Zlq(a:List Op × Int × Int × Unit):V U:= .tup [(false,[sU .tree (YS a.2.2.1 ((a.1).drop (a.2.1).toNat)) .unk]),(false,[ci (a.2.1+Y0 ((a.1).drop (a.2.1).toNat))])]
def Z6O:Fs U:=fs Zpl (fun a=> [Z5k a]) Zlq
def Zd0:ArgL (Edit × Unit):=(.cons (aEl .edit) .nil)
def Z0Z(a:Edit × Unit):Prop:=Z9 a.1≤20000000000
def Z6h(a:Edit × Unit):Nat:=2*Z9 a.1
def ZdW(a:Edit × Unit):V U:= .agg (enc .edit (ZS a.1))
def Z92:Fs U:=fs Zd0 (fun a=> [Z0Z a]) ZdW
def ZcW:ArgL (Op × Unit):=(.cons (aEl .op) .nil)
def Z67(a:Op × Unit):Prop:=Zw a.1≤20000000000
def Zc4(a:Op × Unit):Nat:=2*Zw a.1+1
def Z60(a:Op × Unit):V U:= .agg (enc .op (J8 a.1))
def ZmM:Fs U:=fs ZcW (fun a=> [Z67 a]) Z60
def Z1H:List (FuncId × Fs U):=[(41,Z52)]
def Z9L:Zj U:=fun i=> match i with
 | 0=> ([(0,[])],[])
 | 1=> ([(0,[]),(3,[])],[])
 | 2=> ([(0,[]),(3,[.own .tree]),(4,[])],[])
 | 3=> ([(0,[]),(3,[]),(4,[]),(8,[])],[])
 | 4=> ([(0,[]),(3,[.own .tree]),(4,[])],[])
 | 5=> ([(0,[]),(3,[]),(4,[])],[])
 | 6=> ([(2,[])],[])
 | _=> ([],[])
def Z2W(l:List Tree)(x4:Int)(x3:List Tree):LSt U:=(L2 [(0,.c (sU .tree l .unk)),(3,.c (sU .tree x3 (.own (.e 3 0)))),(4,.c (ci x4))] [])
abbrev ZEV(l:List Tree)(Q:QT):=AW (Z0 Z1H) Tryz.f180 Z9L [] (L2 [(0,.c (sU .tree l .unk))] []) Q
abbrev ZkN:=awp cfg (Z0 Z1H) (ZB cfg (Z0 Z1H)) Tryz.f180.ntmps Z9L
abbrev Zjb:=Z5a cfg (Z0 Z1H) (ZB cfg (Z0 Z1H)) Tryz.f180.ntmps Z9L
theorem ZDF(l:List Tree)(Q:QT)(h:Zf (AW (Z0 Z1H) Tryz.f180 Z9L [1,1,0,1,0,0]) (Z2W l 0 []) (xB 0 (SW (Z0 Z1H) Tryz.f180 Z9L [1,1,1] Q))):
  ZEV l Q:=by
 have e_:(ZEV l Q)=(Zf (ZkN (cd Tryz.f180 [1,1,0,1,0,0])) (Z2W l 0 []) (xB 0 (Zjb (cd Tryz.f180 [1,1,1]) Q))):=by kernel_rfl
 exact e_.mpr h
abbrev ZpB(l:List Tree)(x4:Int)(x3:List Tree)(N0:NT)(Q:QT):=AW (Z0 Z1H) Tryz.f180 Z9L [1,1,0,1,0,0] (Z2W l x4 x3) (xT N0 (xB 0 (SW (Z0 Z1H) Tryz.f180 Z9L [1,1,1] Q)))
theorem Zrs(l:List Tree)(x4:Int)(x3:List Tree)(N0:NT)(Q:QT)(h:((decide (x4 < (l.length:Int)))=true→((0:Int)≤x4∧x4 < (l.length:Int))∧(Z3g ((Tree.mk (Tree.kind (l.getD x4.toNat Tree.nil)) (Tree.words (l.getD x4.toNat Tree.nil)) (Tree.kids (l.getD x4.toNat Tree.nil))),()))∧((x3.length+([(Tree.mk (Tree.kind (Zd (Tree.mk (Tree.kind (l.getD x4.toNat Tree.nil)) (Tree.words (l.getD x4.toNat Tree.nil)) (Tree.kids (l.getD x4.toNat Tree.nil))))) (Tree.words (Zd (Tree.mk (Tree.kind (l.getD x4.toNat Tree.nil)) (Tree.words (l.getD x4.toNat Tree.nil)) (Tree.kids (l.getD x4.toNat Tree.nil))))) (Tree.kids (Zd (Tree.mk (Tree.kind (l.getD x4.toNat Tree.nil)) (Tree.words (l.getD x4.toNat Tree.nil)) (Tree.kids (l.getD x4.toNat Tree.nil))))))]).length)*56≤140737488355328)∧((InR (x4+1))∧(N0 (Z2W l (x4+1) (x3++([(Tree.mk (Tree.kind (Zd (Tree.mk (Tree.kind (l.getD x4.toNat Tree.nil)) (Tree.words (l.getD x4.toNat Tree.nil)) (Tree.kids (l.getD x4.toNat Tree.nil))))) (Tree.words (Zd (Tree.mk (Tree.kind (l.getD x4.toNat Tree.nil)) (Tree.words (l.getD x4.toNat Tree.nil)) (Tree.kids (l.getD x4.toNat Tree.nil))))) (Tree.kids (Zd (Tree.mk (Tree.kind (l.getD x4.toNat Tree.nil)) (Tree.words (l.getD x4.toNat Tree.nil)) (Tree.kids (l.getD x4.toNat Tree.nil))))))]))))))∧((decide (x4 < (l.length:Int)))=false→Q .ret (L2 [(2,.c (sU .tree x3 (.own (.e 2 0))))] []))):
  ZpB l x4 x3 N0 Q:=by
 have e_:(ZpB l x4 x3 N0 Q)=(((decide ((x4:Int) < (l.length:Int)))=true→((0:Int)≤x4∧x4 < (l.length:Int))∧(Z3g ((Tree.mk (Tree.kind (l.getD x4.toNat Tree.nil)) (Tree.words (l.getD x4.toNat Tree.nil)) (Tree.kids (l.getD x4.toNat Tree.nil))),()))∧((x3.length+([(Tree.mk (Tree.kind (Zd (Tree.mk (Tree.kind (l.getD x4.toNat Tree.nil)) (Tree.words (l.getD x4.toNat Tree.nil)) (Tree.kids (l.getD x4.toNat Tree.nil))))) (Tree.words (Zd (Tree.mk (Tree.kind (l.getD x4.toNat Tree.nil)) (Tree.words (l.getD x4.toNat Tree.nil)) (Tree.kids (l.getD x4.toNat Tree.nil))))) (Tree.kids (Zd (Tree.mk (Tree.kind (l.getD x4.toNat Tree.nil)) (Tree.words (l.getD x4.toNat Tree.nil)) (Tree.kids (l.getD x4.toNat Tree.nil))))))]).length)*56≤140737488355328)∧((InR ((x4:Int)+1))∧(N0 (Z2W l ((x4:Int)+1) (x3++([(Tree.mk (Tree.kind (Zd (Tree.mk (Tree.kind (l.getD x4.toNat Tree.nil)) (Tree.words (l.getD x4.toNat Tree.nil)) (Tree.kids (l.getD x4.toNat Tree.nil))))) (Tree.words (Zd (Tree.mk (Tree.kind (l.getD x4.toNat Tree.nil)) (Tree.words (l.getD x4.toNat Tree.nil)) (Tree.kids (l.getD x4.toNat Tree.nil))))) (Tree.kids (Zd (Tree.mk (Tree.kind (l.getD x4.toNat Tree.nil)) (Tree.words (l.getD x4.toNat Tree.nil)) (Tree.kids (l.getD x4.toNat Tree.nil))))))]))))))∧((decide ((x4:Int) < (l.length:Int)))=false→(Q .ret (L2 [(2,.c (sU .tree x3 (.own (.e 2 0))))] [])))):=by kernel_rfl
 exact e_.mpr ⟨fun c_1=> ⟨(h.1 c_1).1,(h.1 c_1).2.1,(h.1 c_1).2.2.1,⟨(h.1 c_1).2.2.2.1,(h.1 c_1).2.2.2.2⟩⟩,fun c_1=> (h.2 c_1)⟩
def ZyA(l:List Tree):Prop:=AW (Z0 Z1H) Tryz.f180 Z9L [] (Zl (Zp7.can (l,())) []) (EQ Tryz.f180 (ZsG (l,())) [])
theorem ZwQ(c41:CT 41 Z52)(hb:∀ (l:List Tree) (_:Unit),ZaT (l,())→ZyA l):CT 180 Z8X:=
 Z4 (l:=[(41,Z52)]) Zo rfl (⟨c41,trivial⟩) Z9L Tryz.func180 rfl rfl 1 (fun _=> rfl) (by decide) (fun ⟨l,_⟩=> hb l ())
def Z1J:List (FuncId × Fs U):=[(180,Z8X)]
def Z9N:Zj U:=fun i=> match i with
 | 0=> ([(0,[]),(1,[]),(2,[])],[])
 | 1=> ([(0,[]),(1,[]),(2,[]),(8,[])],[])
 | 2=> ([(0,[]),(2,[]),(8,[.own .tree]),(9,[])],[])
 | 3=> ([(0,[]),(2,[]),(8,[]),(9,[]),(30,[])],[])
 | 4=> ([(0,[]),(2,[]),(8,[]),(9,[]),(37,[])],[])
 | 5=> ([(0,[]),(2,[]),(8,[]),(9,[])],[])
 | 6=> ([(0,[]),(2,[]),(8,[.own .tree]),(9,[])],[])
 | 7=> ([(6,[]),(7,[])],[])
 | _=> ([],[])
def Z0S(l:List Op)(from_ kind x9:Int)(x8:List Tree):LSt U:=(L2 [(0,.c (sU .op l .unk)),(2,.c (ci kind)),(8,.c (sU .tree x8 (.own (.e 8 0)))),(9,.c (ci x9))] [])
abbrev ZF5(l:List Op)(from_ kind:Int)(Q:QT):=AW (Z0 Z1J) Tryz.f127 Z9N [] (L2 [(0,.c (sU .op l .unk)),(1,.c (ci from_)),(2,.c (ci kind))] []) Q
abbrev ZkP:=awp cfg (Z0 Z1J) (ZB cfg (Z0 Z1J)) Tryz.f127.ntmps Z9N
abbrev Zjd:=Z5a cfg (Z0 Z1J) (ZB cfg (Z0 Z1J)) Tryz.f127.ntmps Z9N
theorem ZE2(l:List Op)(from_ kind:Int)(Q:QT)(h:Zf (AW (Z0 Z1J) Tryz.f127 Z9N [1,1,1,0,0,0]) (Z0S l from_ kind from_ []) (xB 0 (SW (Z0 Z1J) Tryz.f127 Z9N [1,1,1,1] Q))):
  ZF5 l from_ kind Q:=by
 have e_:(ZF5 l from_ kind Q)=(Zf (ZkP (cd Tryz.f127 [1,1,1,0,0,0])) (Z0S l from_ kind from_ []) (xB 0 (Zjd (cd Tryz.f127 [1,1,1,1]) Q))):=by kernel_rfl
 exact e_.mpr h
abbrev ZpI(l:List Op)(from_ kind x9:Int)(x8:List Tree)(N0:NT)(Q:QT):=AW (Z0 Z1J) Tryz.f127 Z9N [1,1,1,0,0,0] (Z0S l from_ kind x9 x8) (xT N0 (xB 0 (SW (Z0 Z1J) Tryz.f127 Z9N [1,1,1,1] Q)))
theorem ZrF(l:List Op)(from_ kind x9:Int)(x8:List Tree)(N0:NT)(Q:QT)(h:∀ y_1,y_1=(l.getD x9.toNat Op.nil)→((decide (x9 < (l.length:Int)))=true→(0:Int)≤x9∧x9 < (l.length:Int))∧(((decide (x9 < (l.length:Int))) && (!(y_1.kind==1)))=true→(0:Int)≤x9∧x9 < (l.length:Int))∧(((bif (decide (x9 < (l.length:Int))) then (bif (y_1.kind==1) then true else (y_1.kind==2)) else false)=true→((0:Int)≤x9∧x9 < (l.length:Int))∧(((y_1.kind==kind)=true→((0:Int)≤x9∧x9 < (l.length:Int))∧(ZaT (y_1.l,()))∧((x8.length+(Zb y_1.l).length)*56≤140737488355328)∧((InR (x9+1))∧(N0 (Z0S l from_ kind (x9+1) (x8++(Zb y_1.l))))))∧((y_1.kind==kind)=false→(InR (x9+1))∧(N0 (Z0S l from_ kind (x9+1) x8)))))∧((bif (decide (x9 < (l.length:Int))) then (bif (y_1.kind==1) then true else (y_1.kind==2)) else false)=false→Q .ret (L2 [(6,.c (sU .tree x8 (.own (.e 6 0)))),(7,.c (ci x9))] [])))):
  ZpI l from_ kind x9 x8 N0 Q:=by
 have e_:(ZpI l from_ kind x9 x8 N0 Q)=(let y_1:=(l.getD x9.toNat Op.nil);let zz1:=(y_1.kind==1);let zz0:=(decide ((x9:Int) < (l.length:Int)));(JK (zz0=true))∧(JK (zz0=true))∧(zz0=true→(0:Int)≤x9∧x9 < (l.length:Int))∧(JK (zz0=true))∧(JK (zz0=true))∧(JK (zz0=true))∧(JK (zz0=true))∧(JK ((zz0 && (!zz1))=true))∧(JK ((zz0 && (!zz1))=true))∧((zz0 && (!zz1))=true→(0:Int)≤x9∧x9 < (l.length:Int))∧(JK ((zz0 && (!zz1))=true))∧(JK ((zz0 && (!zz1))=true))∧(JK ((zz0 && (!zz1))=true))∧(zz0=true→(True→zz0=true))∧(zz0=true→(zz1=false→(zz0 && (!zz1))=true))∧(JK (zz0=true))∧(((bif zz0 then (bif zz1 then true else (y_1.kind==2)) else false)=true→((0:Int)≤x9∧x9 < (l.length:Int))∧(((y_1.kind==kind)=true→((0:Int)≤x9∧x9 < (l.length:Int))∧(ZaT (y_1.l,()))∧((x8.length+(Zb y_1.l).length)*56≤140737488355328)∧((InR ((x9:Int)+1))∧(N0 (Z0S l from_ kind ((x9:Int)+1) (x8++(Zb y_1.l))))))∧((y_1.kind==kind)=false→(InR ((x9:Int)+1))∧(N0 (Z0S l from_ kind ((x9:Int)+1) x8)))))∧((bif zz0 then (bif zz1 then true else (y_1.kind==2)) else false)=false→(Q .ret (L2 [(6,.c (sU .tree x8 (.own (.e 6 0)))),(7,.c (ci x9))] []))))):=by kernel_rfl
 exact e_.mpr (by intro y_1;have hh:=h y_1 rfl;exact ⟨id,id,hh.1,id,id,id,id,id,id,hh.2.1,id,id,id,(by generalize (decide ((x9:Int) < (l.length:Int)))=b0;revert b0;decide),(by generalize ((y_1.kind:Int)==1)=b0;generalize (decide ((x9:Int) < (l.length:Int)))=b1;revert b0 b1;decide),(by generalize (decide ((x9:Int) < (l.length:Int)))=b0;revert b0;decide),⟨fun c_2=> ⟨(hh.2.2.1 c_2).1,⟨fun c_3=> ⟨((hh.2.2.1 c_2).2.1 c_3).1,((hh.2.2.1 c_2).2.1 c_3).2.1,((hh.2.2.1 c_2).2.1 c_3).2.2.1,⟨((hh.2.2.1 c_2).2.1 c_3).2.2.2.1,((hh.2.2.1 c_2).2.1 c_3).2.2.2.2⟩⟩,fun c_3=> ⟨((hh.2.2.1 c_2).2.2 c_3).1,((hh.2.2.1 c_2).2.2 c_3).2⟩⟩⟩,fun c_2=> (hh.2.2.2 c_2)⟩⟩)
def ZyX(l:List Op)(from_ kind:Int):Prop:=AW (Z0 Z1J) Tryz.f127 Z9N [] (Zl (Zpl.can (l,from_,kind,())) []) (EQ Tryz.f127 (Zlq (l,from_,kind,())) [])
theorem Zx9(ZBM:CT 180 Z8X)(hb:∀ (l:List Op) (from_:Int) (kind:Int) (_:Unit),Z5k (l,from_,kind,())→ZyX l from_ kind):CT 127 Z6O:=
 Z4 (l:=[(180,Z8X)]) Zo rfl (⟨ZBM,trivial⟩) Z9N Tryz.func127 rfl rfl 3 (fun _=> rfl) (by decide) (fun ⟨l,from_,kind,_⟩=> hb l from_ kind ())
def Jd(N:Nat):List (FuncId × Fs U):=(131,fs Zd0 (fun a=> [Z0Z a,Z6h a < N]) ZdW) ::(182,fs ZcW (fun a=> [Z67 a,Zc4 a < N]) Z60) ::[]
def Z21:Zj U:=fun i=> match i with
 | 0=> ([(1,[]),(2,[])],[(.loc 1,[]),(.loc 2,[])])
 | 1=> ([(1,[]),(2,[]),(3,[])],[(.loc 1,[]),(.loc 2,[]),(.loc 3,[])])
 | 2=> ([(1,[]),(2,[]),(3,[]),(20,[]),(21,[]),(22,[])],[(.loc 1,[]),(.loc 2,[]),(.loc 3,[.any,.any,.any,.any,.any,.any,.any,.own .wedit])])
 | 3=> ([(1,[]),(2,[]),(3,[]),(20,[]),(21,[]),(22,[]),(23,[])],[(.loc 1,[]),(.loc 2,[]),(.loc 3,[])])
 | 4=> ([(1,[]),(2,[]),(3,[]),(5,[]),(20,[]),(21,[]),(22,[])],[(.loc 1,[]),(.loc 2,[]),(.loc 3,[]),(.loc 5,[])])
 | 5=> ([(1,[]),(2,[]),(3,[]),(20,[]),(21,[]),(22,[])],[(.loc 1,[]),(.loc 2,[]),(.loc 3,[])])
 | 6=> ([(1,[]),(2,[]),(3,[]),(20,[]),(21,[]),(22,[])],[(.loc 1,[]),(.loc 2,[]),(.loc 3,[.any,.any,.any,.any,.any,.any,.any,.own .wedit])])
 | 7=> ([(1,[]),(2,[]),(3,[]),(42,[]),(43,[]),(44,[])],[(.loc 1,[]),(.loc 2,[]),(.loc 3,[.any,.any,.any,.any,.any,.any,.any,.any,.own .kid])])
 | 8=> ([(1,[]),(2,[]),(3,[]),(42,[]),(43,[]),(44,[]),(45,[])],[(.loc 1,[]),(.loc 2,[]),(.loc 3,[])])
 | 9=> ([(1,[]),(2,[]),(3,[]),(7,[]),(42,[]),(43,[]),(44,[])],[(.loc 1,[]),(.loc 2,[]),(.loc 3,[]),(.loc 7,[])])
 | 10=> ([(1,[]),(2,[]),(3,[]),(42,[]),(43,[]),(44,[])],[(.loc 1,[]),(.loc 2,[]),(.loc 3,[])])
 | 11=> ([(1,[]),(2,[]),(3,[]),(42,[]),(43,[]),(44,[])],[(.loc 1,[]),(.loc 2,[]),(.loc 3,[.any,.any,.any,.any,.any,.any,.any,.any,.own .kid])])
 | 12=> ([(2,[]),(3,[]),(61,[]),(62,[]),(63,[])],[(.loc 2,[]),(.loc 3,[.any,.any,.any,.any,.any,.any,.any,.any,.any,.any,.own .op])])
 | 13=> ([(2,[]),(3,[]),(61,[]),(62,[]),(63,[]),(64,[])],[(.loc 2,[]),(.loc 3,[])])
 | 14=> ([(2,[]),(3,[]),(9,[]),(61,[]),(62,[]),(63,[])],[(.loc 2,[]),(.loc 3,[]),(.loc 9,[])])
 | 15=> ([(2,[]),(3,[]),(61,[]),(62,[]),(63,[])],[(.loc 2,[]),(.loc 3,[])])
 | 16=> ([(2,[]),(3,[]),(61,[]),(62,[]),(63,[])],[(.loc 2,[]),(.loc 3,[.any,.any,.any,.any,.any,.any,.any,.any,.any,.any,.own .op])])
 | 17=> ([(2,[])],[(.loc 2,[])])
 | _=> ([],[])
def Z31(e:Edit)(x22:Int)(ml3_7:List WEdit):LSt U:=(L2 [(1,.ptr (.loc 1) 0),(2,.ptr (.loc 2) 0),(3,.ptr (.loc 3) 0),(20,.c (sU .wedit e.words .unk)),(21,.c (ci (e.words.length:Int))),(22,.c (ci x22))] [(.loc 1,(enc .edit e)),(.loc 2,zc1),(.loc 3,([ci e.kind]++enc .tree e.new++enc .tree e.old++[sU .wedit ml3_7 (.own (.l 3 7)),.nils,ci e.list,.nils]))])
def Z30(e:Edit)(ml3_7:List WEdit)(x44_a:Int)(ml3_8_a:List Kid):LSt U:=(L2 [(1,.ptr (.loc 1) 0),(2,.ptr (.loc 2) 0),(3,.ptr (.loc 3) 0),(42,.c (sU .kid e.kids .unk)),(43,.c (ci (e.kids.length:Int))),(44,.c (ci x44_a))] [(.loc 1,(enc .edit e)),(.loc 2,zc1),(.loc 3,([ci e.kind]++enc .tree e.new++enc .tree e.old++[sU .wedit ml3_7 (.own (.l 3 7)),sU .kid ml3_8_a (.own (.l 3 8)),ci e.list,.nils]))])
def Z2Z(e:Edit)(ml3_7:List WEdit)(ml3_8_a:List Kid)(x63_b:Int)(ml3_10_b:List Op):LSt U:=(L2 [(2,.ptr (.loc 2) 0),(3,.ptr (.loc 3) 0),(61,.c (sU .op e.ops .unk)),(62,.c (ci (e.ops.length:Int))),(63,.c (ci x63_b))] [(.loc 2,zc1),(.loc 3,([ci e.kind]++enc .tree e.new++enc .tree e.old++[sU .wedit ml3_7 (.own (.l 3 7)),sU .kid ml3_8_a (.own (.l 3 8)),ci e.list,sU .op ml3_10_b (.own (.l 3 10))]))])
abbrev ZF4(N:Nat)(e:Edit)(Q:QT):=AW (Z0 (Jd N)) Tryz.f131 Z21 [] (L2 [(0,.agg (enc .edit e))] []) Q
abbrev Z6G(N:Nat):=awp cfg (Z0 (Jd N)) (ZB cfg (Z0 (Jd N))) Tryz.f131.ntmps Z21
abbrev Z5V(N:Nat):=Z5a cfg (Z0 (Jd N)) (ZB cfg (Z0 (Jd N))) Tryz.f131.ntmps Z21
theorem ZDZ(N:Nat)(e:Edit)(Q:QT)(h:Zf (AW (Z0 (Jd N)) Tryz.f131 Z21 [1,1,0,1,0,0]) (Z31 e 0 []) (xB 0 (SW (Z0 (Jd N)) Tryz.f131 Z21 [1,1,1] Q))):
  ZF4 N e Q:=by
 have e_:(ZF4 N e Q)=(Zf (Z6G N (cd Tryz.f131 [1,1,0,1,0,0])) (Z31 e 0 []) (xB 0 (Z5V N (cd Tryz.f131 [1,1,1]) Q))):=by kernel_rfl
 exact e_.mpr h
abbrev ZpH(N:Nat)(e:Edit)(x22:Int)(ml3_7:List WEdit)(N0:NT)(Q:QT):=AW (Z0 (Jd N)) Tryz.f131 Z21 [1,1,0,1,0,0] (Z31 e x22 ml3_7) (xT N0 (xB 0 (SW (Z0 (Jd N)) Tryz.f131 Z21 [1,1,1] Q)))
theorem ZrD(N:Nat)(e:Edit)(x22:Int)(ml3_7:List WEdit)(N0:NT)(Q:QT)(h:((decide (x22 < (e.words.length:Int)))=true→((0:Int)≤x22∧x22 < (e.words.length:Int))∧(((ml3_7.length+([(WEdit.mk (WEdit.at_ (e.words.getD x22.toNat (WEdit.mk 0 0 0 0))) (WEdit.mask (e.words.getD x22.toNat (WEdit.mk 0 0 0 0))) (WEdit.new (e.words.getD x22.toNat (WEdit.mk 0 0 0 0))) (WEdit.old (e.words.getD x22.toNat (WEdit.mk 0 0 0 0))))]).length)*32≤140737488355328)∧((InR (x22+1))∧(N0 (Z31 e (x22+1) (ml3_7++([(WEdit.mk (WEdit.at_ (e.words.getD x22.toNat (WEdit.mk 0 0 0 0))) (WEdit.mask (e.words.getD x22.toNat (WEdit.mk 0 0 0 0))) (WEdit.new (e.words.getD x22.toNat (WEdit.mk 0 0 0 0))) (WEdit.old (e.words.getD x22.toNat (WEdit.mk 0 0 0 0))))])))))))∧((decide (x22 < (e.words.length:Int)))=false→Zf (AW (Z0 (Jd N)) Tryz.f131 Z21 [1,1,1,0,1,0,0]) (Z30 e ml3_7 0 []) (xB 2 (SW (Z0 (Jd N)) Tryz.f131 Z21 [1,1,1,1] Q)))):
  ZpH N e x22 ml3_7 N0 Q:=by
 have e_:(ZpH N e x22 ml3_7 N0 Q)=(let zz0:=(decide ((x22:Int) < (e.words.length:Int)));((zz0=true→((0:Int)≤x22∧x22 < (e.words.length:Int))∧(((ml3_7.length+([(WEdit.mk (WEdit.at_ (e.words.getD x22.toNat (WEdit.mk 0 0 0 0))) (WEdit.mask (e.words.getD x22.toNat (WEdit.mk 0 0 0 0))) (WEdit.new (e.words.getD x22.toNat (WEdit.mk 0 0 0 0))) (WEdit.old (e.words.getD x22.toNat (WEdit.mk 0 0 0 0))))]).length)*32≤140737488355328)∧((InR ((x22:Int)+1))∧(N0 (Z31 e ((x22:Int)+1) (ml3_7++([(WEdit.mk (WEdit.at_ (e.words.getD x22.toNat (WEdit.mk 0 0 0 0))) (WEdit.mask (e.words.getD x22.toNat (WEdit.mk 0 0 0 0))) (WEdit.new (e.words.getD x22.toNat (WEdit.mk 0 0 0 0))) (WEdit.old (e.words.getD x22.toNat (WEdit.mk 0 0 0 0))))])))))))∧(zz0=false→(Zf (Z6G N (cd Tryz.f131 [1,1,1,0,1,0,0])) (Z30 e ml3_7 0 []) (xB 2 (Z5V N (cd Tryz.f131 [1,1,1,1]) Q)))))):=by kernel_rfl
 exact e_.mpr ⟨fun c_7=> ⟨(h.1 c_7).1,⟨(h.1 c_7).2.1,⟨(h.1 c_7).2.2.1,(h.1 c_7).2.2.2⟩⟩⟩,fun c_7=> (h.2 c_7)⟩
abbrev ZpG(N:Nat)(e:Edit)(ml3_7:List WEdit)(x44_a:Int)(ml3_8_a:List Kid)(N1:NT)(Q:QT):=AW (Z0 (Jd N)) Tryz.f131 Z21 [1,1,1,0,1,0,0] (Z30 e ml3_7 x44_a ml3_8_a) (xT N1 (xB 2 (SW (Z0 (Jd N)) Tryz.f131 Z21 [1,1,1,1] Q)))
theorem ZrC(N:Nat)(e:Edit)(ml3_7:List WEdit)(x44_a:Int)(ml3_8_a:List Kid)(N1:NT)(Q:QT)(h:∀ y_1,y_1=(e.kids.getD x44_a.toNat (KidOf.mk 0 Edit.nil))→∀ y_2,y_2=(y_1.e)→∀ y_3,y_3=(ZS y_2)→((decide (x44_a < (e.kids.length:Int)))=true→((0:Int)≤x44_a∧x44_a < (e.kids.length:Int))∧((Z0Z (y_2,()))∧(Z6h (y_2,()) < N)∧((ml3_8_a.length+([(KidOf.mk y_1.at_ y_3:Kid)]).length)*208≤140737488355328)∧((InR (x44_a+1))∧(N1 (Z30 e ml3_7 (x44_a+1) (ml3_8_a++([(KidOf.mk y_1.at_ y_3:Kid)])))))))∧((decide (x44_a < (e.kids.length:Int)))=false→Zf (AW (Z0 (Jd N)) Tryz.f131 Z21 [1,1,1,1,0,1,0,0]) (Z2Z e ml3_7 ml3_8_a 0 []) (xB 4 (SW (Z0 (Jd N)) Tryz.f131 Z21 [1,1,1,1,1] Q)))):
  ZpG N e ml3_7 x44_a ml3_8_a N1 Q:=by
 have e_:(ZpG N e ml3_7 x44_a ml3_8_a N1 Q)=(let y_1:=(e.kids.getD x44_a.toNat (KidOf.mk 0 Edit.nil));let y_2:=(Yv y_1.e);let y_3:=(Yv (ZS y_2));let zz0:=(decide ((x44_a:Int) < (e.kids.length:Int)));((zz0=true→((0:Int)≤x44_a∧x44_a < (e.kids.length:Int))∧((Z0Z (y_2,()))∧(Z6h (y_2,()) < N)∧((ml3_8_a.length+([(KidOf.mk y_1.at_ y_3:Kid)]).length)*208≤140737488355328)∧((InR ((x44_a:Int)+1))∧(N1 (Z30 e ml3_7 ((x44_a:Int)+1) (ml3_8_a++([(KidOf.mk y_1.at_ y_3:Kid)])))))))∧(zz0=false→(Zf (Z6G N (cd Tryz.f131 [1,1,1,1,0,1,0,0])) (Z2Z e ml3_7 ml3_8_a 0 []) (xB 4 (Z5V N (cd Tryz.f131 [1,1,1,1,1]) Q)))))):=by kernel_rfl
 exact e_.mpr (by intro y_1 y_2 y_3;have hh:=h y_1 rfl y_2 (Z6 _) y_3 (Z6 _);exact ⟨fun c_8=> ⟨(hh.1 c_8).1,⟨(hh.1 c_8).2.1,(hh.1 c_8).2.2.1,(hh.1 c_8).2.2.2.1,⟨(hh.1 c_8).2.2.2.2.1,(hh.1 c_8).2.2.2.2.2⟩⟩⟩,fun c_8=> (hh.2 c_8)⟩)
abbrev ZpF(N:Nat)(e:Edit)(ml3_7:List WEdit)(ml3_8_a:List Kid)(x63_b:Int)(ml3_10_b:List Op)(N2:NT)(Q:QT):=AW (Z0 (Jd N)) Tryz.f131 Z21 [1,1,1,1,0,1,0,0] (Z2Z e ml3_7 ml3_8_a x63_b ml3_10_b) (xT N2 (xB 4 (SW (Z0 (Jd N)) Tryz.f131 Z21 [1,1,1,1,1] Q)))
theorem ZrB(N:Nat)(e:Edit)(ml3_7:List WEdit)(ml3_8_a:List Kid)(x63_b:Int)(ml3_10_b:List Op)(N2:NT)(Q:QT)(h:∀ y_1,y_1=(e.ops.getD x63_b.toNat Op.nil)→∀ y_2,y_2=y_1→∀ y_3,y_3=(J8 y_2)→((decide (x63_b < (e.ops.length:Int)))=true→((0:Int)≤x63_b∧x63_b < (e.ops.length:Int))∧((Z67 (y_2,()))∧(Zc4 (y_2,()) < N)∧((ml3_10_b.length+([y_3]).length)*240≤140737488355328)∧((InR (x63_b+1))∧(N2 (Z2Z e ml3_7 ml3_8_a (x63_b+1) (ml3_10_b++([y_3])))))))∧((decide (x63_b < (e.ops.length:Int)))=false→Q .ret (L2 [(2,.ptr (.loc 2) 0)] [(.loc 2,([ci e.kind]++enc .tree e.new++enc .tree e.old++[sU .wedit ml3_7 (.own (.l 2 7)),sU .kid ml3_8_a (.own (.l 2 8)),ci e.list,sU .op ml3_10_b (.own (.l 2 10))]))]))):
  ZpF N e ml3_7 ml3_8_a x63_b ml3_10_b N2 Q:=by
 have e_:(ZpF N e ml3_7 ml3_8_a x63_b ml3_10_b N2 Q)=(let y_1:=(e.ops.getD x63_b.toNat Op.nil);let y_2:=(Zlz y_1);let y_3:=(Zlz (J8 y_2));let zz0:=(decide ((x63_b:Int) < (e.ops.length:Int)));((zz0=true→((0:Int)≤x63_b∧x63_b < (e.ops.length:Int))∧((Z67 (y_2,()))∧(Zc4 (y_2,()) < N)∧((ml3_10_b.length+([y_3]).length)*240≤140737488355328)∧((InR ((x63_b:Int)+1))∧(N2 (Z2Z e ml3_7 ml3_8_a ((x63_b:Int)+1) (ml3_10_b++([y_3])))))))∧(zz0=false→(Q .ret (L2 [(2,.ptr (.loc 2) 0)] [(.loc 2,([ci e.kind]++enc .tree e.new++enc .tree e.old++[sU .wedit ml3_7 (.own (.l 2 7)),sU .kid ml3_8_a (.own (.l 2 8)),ci e.list,sU .op ml3_10_b (.own (.l 2 10))]))]))))):=by kernel_rfl
 exact e_.mpr (by intro y_1 y_2 y_3;have hh:=h y_1 rfl y_2 (YX _) y_3 (YX _);exact ⟨fun c_9=> ⟨(hh.1 c_9).1,⟨(hh.1 c_9).2.1,(hh.1 c_9).2.2.1,(hh.1 c_9).2.2.2.1,⟨(hh.1 c_9).2.2.2.2.1,(hh.1 c_9).2.2.2.2.2⟩⟩⟩,fun c_9=> (hh.2 c_9)⟩)
def ZyU(N:Nat)(e:Edit):Prop:=AW (Z0 (Jd N)) Tryz.f131 Z21 [] (Zl (Zd0.can (e,())) []) (EQ Tryz.f131 (ZdW (e,())) [])
abbrev ZA2:Prop:=∀ (N:Nat) (e:Edit) (_:Unit),Z0Z (e,())→Z6h (e,()) < N+1→ZyU N e
def Zon(N:Nat):List (FuncId × Fs U):=(131,fs Zd0 (fun a=> [Z0Z a,Z6h a < N]) ZdW) ::(182,fs ZcW (fun a=> [Z67 a,Zc4 a < N]) Z60) ::[]
def ZtT:Zj U:=lvl [([1,2],[1,2]),([1,2,4],[1,2]),([1,2,4,5],[1,2]),([1,2],[1,2]),([1,2,4,8],[1,2]),([1,2],[1,2]),([1,2,11],[1,2]),([1,2],[1,2]),([2],[2])]
abbrev ZEU(N:Nat)(o:Op)(Q:QT):=AW (Z0 (Zon N)) Tryz.f182 ZtT [] (L2 [(0,.agg (enc .op o))] []) Q
theorem ZDD(N:Nat)(o:Op)(Q:QT)(h:∀ y_1,y_1=(o.e)→((o.kind==1)=true→Q .ret (L2 [(2,.ptr (.loc 2) 0)] [(.loc 2,([ci 2,ci o.n,sU .tree o.l .unk]++enc .edit o.e))]))∧((o.kind==1)=false→((o.kind==2)=true→Q .ret (L2 [(2,.ptr (.loc 2) 0)] [(.loc 2,([ci 1,ci o.n,sU .tree o.l .unk]++enc .edit o.e))]))∧((o.kind==2)=false→((o.kind==3)=true→(Z0Z (y_1,()))∧(Z6h (y_1,()) < N)∧(Q .ret (L2 [(2,.ptr (.loc 2) 0)] [(.loc 2,([ci o.kind,ci o.n,sU .tree o.l .unk]++enc .edit (ZS y_1)))])))∧((o.kind==3)=false→Q .ret (L2 [(2,.ptr (.loc 2) 0)] [(.loc 2,(enc .op o))]))))):
  ZEU N o Q:=by
 have e_:(ZEU N o Q)=(let y_1:=(Yv o.e);(((o.kind==1)=true→(Q .ret (L2 [(2,.ptr (.loc 2) 0)] [(.loc 2,([ci 2,ci o.n,sU .tree o.l .unk]++enc .edit o.e))])))∧((o.kind==1)=false→(((o.kind==2)=true→(Q .ret (L2 [(2,.ptr (.loc 2) 0)] [(.loc 2,([ci 1,ci o.n,sU .tree o.l .unk]++enc .edit o.e))])))∧((o.kind==2)=false→(((o.kind==3)=true→(Z0Z (y_1,()))∧(Z6h (y_1,()) < N)∧(Q .ret (L2 [(2,.ptr (.loc 2) 0)] [(.loc 2,([ci o.kind,ci o.n,sU .tree o.l .unk]++enc .edit (ZS y_1)))])))∧((o.kind==3)=false→(Q .ret (L2 [(2,.ptr (.loc 2) 0)] [(.loc 2,(enc .op o))]))))))))):=by kernel_rfl
 exact e_.mpr (by intro y_1;have hh:=h y_1 (Z6 _);exact ⟨fun c_10=> (hh.1 c_10),fun c_10=> ⟨fun c_11=> ((hh.2 c_10).1 c_11),fun c_11=> ⟨fun c_12=> ⟨(((hh.2 c_10).2 c_11).1 c_12).1,(((hh.2 c_10).2 c_11).1 c_12).2.1,(((hh.2 c_10).2 c_11).1 c_12).2.2⟩,fun c_12=> (((hh.2 c_10).2 c_11).2 c_12)⟩⟩⟩)
def Zyy(N:Nat)(o:Op):Prop:=AW (Z0 (Zon N)) Tryz.f182 ZtT [] (Zl (ZcW.can (o,())) []) (EQ Tryz.f182 (Z60 (o,())) [])
abbrev ZzY:Prop:=∀ (N:Nat) (o:Op) (_:Unit),Z67 (o,())→Zc4 (o,()) < N+1→Zyy N o
theorem Zkf(ha:ZA2)(hb:ZzY):CT 131 Z92∧CT 182 ZmM:=
 Z0t (μA:=Z6h) (μB:=Zc4) (l:=[]) Zo rfl trivial Z21 ZtT Tryz.func131 Tryz.func182 rfl rfl rfl rfl 1 1 (fun _=> rfl) (fun _=> rfl) (by decide) (by decide) (fun N ⟨e,_⟩=> ha N e ()) (fun N ⟨o,_⟩=> hb N o ())
end
end
end Go.AM.YtpjenobkibfpcaaGreat
