import Derived.Test.YtpjenobkibfpcaaKD24
import Derived.Test.YtpjenobkibfpcaaKRB07
import Derived.Test.YtpjenobkibfpcaaKD20
set_option linter.unusedSimpArgs false
set_option linter.unusedVariables false
namespace Go.AM.Ytpjenobkibfpcaa
open Go.AM Go.Proofs
noncomputable section
def ZkY:ArgL (Op × Unit):=(.cons (aEl .op) .nil)
def Z40(a:Op × Unit):Prop:=Zv a.1<=20000000000/\0<=OpOf.n a.1/\OpOf.n a.1<=1048576
def ZnM(a:Op × Unit):V U:= .c (ci (Z2 a.1))
def Z1W:Fs U:=fs ZkY (fun a=> [Z40 a]) ZnM
def Zft:ArgM ((List Op × Int × Unit) × Unit):=(.obj 0 (.cons (cSl .op) (.cons (Zfl .i64) .nil)) .nil)
def Z2i(a:(List Op × Int × Unit) × Unit):Prop:=(a.1.1).length<=120000000000
def ZnL(a:(List Op × Int × Unit) × Unit):V U:= .c (.bool (decide ((a.1.1).length=0)))
def Zjs(a:(List Op × Int × Unit) × Unit):List (List (C U)):=[[sU .op a.1.1 .unk,ci a.1.2.1]]
def Z1V:Fs U:=fsX Zft (fun a=> [Z2i a]) ZnL Zjs
def ZnO(a:(List Op × Int × Unit) × Unit):V U:= .c (.bool (sgl a.1.2.1 a.1.1))
def Z6d:Fs U:=fsX Zft (fun a=> [Z2i a]) ZnO Zjs
def Zfu:ArgM ((List Op × Int × Unit) × Int × Unit):=(.obj 0 (.cons (cSl .op) (.cons (Zfl .i64) .nil)) (.cons (Jd .i64) .nil))
def Z5M(a:(List Op × Int × Unit) × Int × Unit):Prop:=Z8l a.1.1/\(a.1.1).length≠0/\1<=a.2.1/\a.2.1<=120000000000
def Zbi(a:(List Op × Int × Unit) × Int × Unit):V U:= .agg (enc .op (Zq ((a.1.1).getD 0 Op.nil) a.2.1))
def Z6z(a:(List Op × Int × Unit) × Int × Unit):List (List (C U)):=[[sU .op (Zw a.1.1 a.2.1) .unk,ci a.1.2.1]]
def Z6c:Fs U:=fsX Zfu (fun a=> [Z5M a]) Zbi Z6z
def Zfx:ArgM ((List Op × Int × Unit) × (List Op × Int × Unit) × Unit):=(.obj 0 (.cons (cSl .op) (.cons (Zfl .i64) .nil)) (.obj 1 (.cons (cSl .op) (.cons (Zfl .i64) .nil)) .nil))
def ZeI(a:(List Op × Int × Unit) × (List Op × Int × Unit) × Unit):Prop:=Z8l a.1.1/\Z8l a.2.1.1
def Zeo(a:(List Op × Int × Unit) × (List Op × Int × Unit) × Unit):V U:= .tup [(false,[sU .piece ((ZK a.1.2.1 a.2.1.2.1 a.1.1 a.2.1.1 []).1) .unk]),(false,[.bool ((ZK a.1.2.1 a.2.1.2.1 a.1.1 a.2.1.1 []).2.1)])]
def Za5(a:(List Op × Int × Unit) × (List Op × Int × Unit) × Unit):List (List (C U)):=[[sU .op ((ZK a.1.2.1 a.2.1.2.1 a.1.1 a.2.1.1 []).2.2.1) .unk,ci a.1.2.1],[sU .op ((ZK a.1.2.1 a.2.1.2.1 a.1.1 a.2.1.1 []).2.2.2) .unk,ci a.2.1.2.1]]
def Z4x:Fs U:=fsX Zfx (fun a=> [ZeI a]) Zeo Za5
def Zl7:ArgL (List Op × List Op × Unit):=(.cons (aSl .op) (.cons (aSl .op) .nil))
def Zi2(a:List Op × List Op × Unit):Prop:=Z8l a.1/\Z8l a.2.1
def ZnR(a:List Op × List Op × Unit):V U:= .tup [(false,[sU .piece ((ZK 2 2 a.1 a.2.1 []).1) .unk]),(false,[.bool ((ZK 2 2 a.1 a.2.1 []).2.1)])]
def Z9U:Fs U:=fs Zl7 (fun a=> [Zi2 a]) ZnR
def Zqf:ArgL (List Tree × List Tree × Unit):=(.cons (aSl .tree) (.cons (aSl .tree) .nil))
def Zgp(a:List Tree × List Tree × Unit):Prop:=Z6 a.1<=20000000000
def ZtX(a:List Tree × List Tree × Unit):V U:= .c (.bool (eqX a.1 a.2.1))
def ZaV:Fs U:=fs Zqf (fun a=> [Zgp a]) ZtX
def Zj2:ArgL (Edit × Edit × Unit):=(.cons (aEl .edit) (.cons (aEl .edit) .nil))
def Z5u(a:Edit × Edit × Unit):Prop:=Z7 a.1<=20000000000
def ZgO(a:Edit × Edit × Unit):Nat:=Z7 a.1
def ZnN(a:Edit × Edit × Unit):V U:= .c (.bool (eqX a.1 a.2.1))
def Zb2:Fs U:=fs Zj2 (fun a=> [Z5u a]) ZnN
def ZoJ:Zf U:=lvl [([1],[1]),([1,5],[1]),([2],[]),([2],[])]
abbrev ZzJ(p:List Nat):=AW (Z1 Zix) Try.f190 ZoJ p
theorem Zxv(o:Op)(Q:QT)(h:(((o.kind==3)=true->(Q .ret (L2 [pI 2 1] [])))/\((o.kind==3)=false->(InR (o.n+(o.l.length:Int)))/\(Q .ret (L2 [pI 2 (o.n+(o.l.length:Int))] []))))):
  ZzJ [] (L2 [(0,.agg (enc .op o))] []) Q:=
 Eq.mpr (by kernel_rfl) h
def Zt5(o:Op):Prop:=AW (Z1 Zix) Try.f190 ZoJ [] (Zj (ZkY.can (o,())) []) (EQ Try.f190 (ZnM (o,())) [])
theorem ZrI(hb:∀ (o:Op) (_:Unit),Z40 (o,())->Zt5 o):CT 190 Z1W:=
 Z3 (l:=[]) Zl rfl trivial ZoJ Try.func190 rfl rfl 1 (fun _=> rfl) (by decide) (fun ⟨o,_⟩=> hb o ())
def ZoI:Zf U:=fun i=> match i with
 | 0=> ([(0,[])],[(.x 0,[])])
 | 1=> ([(2,[])],[(.x 0,[])])
 | _=> ([],[])
abbrev ZzI(p:List Nat):=AW (Z1 Zix) Try.f191 ZoI p
theorem Zxu(l:List Op)(alone:Int)(Q:QT)(h:(Q .ret (L2 [pB 2 (((l.length:Int):Int)==0)] [(.x 0,[sU .op l .unk,ci alone])]))):
  ZzI [] (L2 [(0,.ptr (.x 0) 0)] [(.x 0,[sU .op l .unk,ci alone])]) Q:=
 Eq.mpr (by kernel_rfl) h
def Zt4(l:List Op)(alone:Int):Prop:=AW (Z1 Zix) Try.f191 ZoI [] (Zj (Zft.can ((l,alone,()),())) (Zft.canX ((l,alone,()),()))) (EQ Try.f191 (ZnL ((l,alone,()),())) (Zjs ((l,alone,()),())))
theorem ZrH(hb:∀ (l:List Op) (alone:Int) (_:Unit),Z2i ((l,alone,()),())->Zt4 l alone):CT 191 Z1V:=
 Yb (l:=[]) Zl rfl trivial ZoI Try.func191 rfl rfl 1 (fun _=> rfl) (by decide) (fun ⟨⟨l,alone,_⟩,_⟩=> hb l alone ())
def Zkj:List (FuncId × Fs U):=[(191,Z1V)]
def ZoL:Zf U:=fun i=> match i with
 | 0=> ([(0,[])],[(.x 0,[])])
 | 1=> ([(2,[])],[(.x 0,[])])
 | _=> ([],[])
abbrev ZzL(p:List Nat):=AW (Z1 Zkj) Try.f188 ZoL p
theorem Zxx(l:List Op)(alone:Int)(Q:QT)(h:let z0:= !(decide (l.length=0));((Z2i ((l,alone,()),()))/\(Tr (z0=true))/\(Tr (z0=true))/\(Tr (z0=true))/\(Tr (z0=true))/\(z0=true->(0:Int)<=0/\0 < (l.length:Int))/\(Tr (z0=true))/\(Tr (z0=true))/\(Tr (z0=true))/\(Tr (z0=true))/\(Tr (z0=true))/\(Tr (z0=true))/\(Tr (z0=true))/\(Tr (z0=true))/\(Q .ret (L2 [(2,.c (.bool (bif z0 then (((OpOf.kind (List.getD l (Int.toNat 0) Op.nil)):Int)==alone) else false)))] [(.x 0,[sU .op l .unk,ci alone])])))):
  ZzL [] (L2 [(0,.ptr (.x 0) 0)] [(.x 0,[sU .op l .unk,ci alone])]) Q:=
 Eq.mpr (by kernel_rfl) h
def Zt7(l:List Op)(alone:Int):Prop:=AW (Z1 Zkj) Try.f188 ZoL [] (Zj (Zft.can ((l,alone,()),())) (Zft.canX ((l,alone,()),()))) (EQ Try.f188 (ZnO ((l,alone,()),())) (Zjs ((l,alone,()),())))
theorem ZrK(ZmD:CT 191 Z1V)(hb:∀ (l:List Op) (alone:Int) (_:Unit),Z2i ((l,alone,()),())->Zt7 l alone):CT 188 Z6d:=
 Yb (l:=[(191,Z1V)]) Zl rfl (⟨ZmD,trivial⟩) ZoL Try.func188 rfl rfl 1 (fun _=> rfl) (by decide) (fun ⟨⟨l,alone,_⟩,_⟩=> hb l alone ())
def Zki:List (FuncId × Fs U):=[(190,Z1W)]
def ZoK:Zf U:=fun i=> match i with
 | 0=> ([(0,[]),(1,[]),(4,[])],[(.loc 4,[]),(.x 0,[])])
 | 1=> ([(0,[]),(1,[]),(4,[]),(5,[])],[(.loc 4,[]),(.loc 5,[]),(.x 0,[])])
 | 2=> ([(0,[]),(1,[]),(4,[]),(5,[]),(17,[])],[(.loc 4,[]),(.loc 5,[]),(.x 0,[])])
 | 3=> ([(4,[]),(5,[])],[(.loc 4,[]),(.loc 5,[]),(.x 0,[])])
 | 4=> ([(4,[])],[(.loc 4,[]),(.x 0,[])])
 | 5=> ([(0,[]),(1,[]),(4,[]),(5,[]),(6,[]),(7,[])],[(.loc 4,[]),(.loc 5,[]),(.loc 6,[]),(.loc 7,[]),(.x 0,[])])
 | 6=> ([(0,[]),(1,[]),(4,[]),(5,[]),(6,[]),(7,[]),(31,[])],[(.loc 4,[]),(.loc 5,[]),(.loc 6,[]),(.loc 7,[]),(.x 0,[])])
 | 7=> ([(0,[]),(4,[]),(6,[]),(7,[])],[(.loc 4,[]),(.loc 6,[]),(.loc 7,[]),(.x 0,[])])
 | 8=> ([(0,[]),(4,[]),(6,[]),(7,[])],[(.loc 4,[]),(.loc 6,[]),(.loc 7,[]),(.x 0,[])])
 | 9=> ([(4,[]),(6,[])],[(.loc 4,[]),(.loc 6,[]),(.x 0,[])])
 | 10=> ([(4,[])],[(.loc 4,[]),(.x 0,[])])
 | _=> ([],[])
abbrev ZzK(p:List Nat):=AW (Z1 Zki) Try.f189 ZoK p
theorem Zxw(l:List Op)(alone n:Int)(Q:QT)(h:∀ y_1,y_1=(List.getD l (Int.toNat 0) Op.nil)->∀ y_2,y_2=y_1->∀ y_3,y_3=(y_1.e)->let z1:=decide (((Z2 y_2):Int)<=n);let z0:=List.drop (Int.toNat 1) l;(((0:Int)<=0/\0 < (l.length:Int))/\((Z40 (y_2,()))/\((z1=true->((0:Int)<=1/\1<=(l.length:Int))/\(Q .ret (L2 [pL 4] [(.loc 4,(enc .op y_1)),(.x 0,[sU .op z0 .unk,ci alone])])))/\(z1=false->(((y_1.kind==0)=true->(InR (y_1.n - n))/\(((0:Int)<=1/\1<=(l.length:Int))/\((([(OpOf.mk y_1.kind (y_1.n - n) y_1.l y_3)]).length+z0.length)*240<=140737488355328)/\(Q .ret (L2 [pL 4] [(.loc 4,([ci y_1.kind,ci n,sU .tree y_1.l .unk]++enc .edit y_1.e)),(.x 0,[sU .op (([(OpOf.mk y_1.kind (y_1.n - n) y_1.l y_3)])++z0) (.own (.x 0 0)),ci alone])]))))/\((y_1.kind==0)=false->((0:Int)<=n/\n<=(y_1.l.length:Int))/\(n=n)/\((0:Int)<=n/\n<=(y_1.l.length:Int))/\(((0:Int)<=1/\1<=(l.length:Int))/\((([(OpOf.mk y_1.kind y_1.n (List.drop n.toNat y_1.l) y_3)]).length+z0.length)*240<=140737488355328)/\(Q .ret (L2 [pL 4] [(.loc 4,([ci y_1.kind,ci y_1.n,sU .tree (List.take n.toNat y_1.l) .full]++enc .edit y_1.e)),(.x 0,[sU .op (([(OpOf.mk y_1.kind y_1.n (List.drop n.toNat y_1.l) y_3)])++z0) (.own (.x 0 0)),ci alone])])))))))))):
  ZzK [] (L2 [(0,.ptr (.x 0) 0),pI 1 n] [(.x 0,[sU .op l .unk,ci alone])]) Q:=
 Eq.mpr (by kernel_rfl) (h _ rfl _ (Yv _) _ (Za _))
def Zt6(l:List Op)(alone n:Int):Prop:=AW (Z1 Zki) Try.f189 ZoK [] (Zj (Zfu.can ((l,alone,()),n,())) (Zfu.canX ((l,alone,()),n,()))) (EQ Try.f189 (Zbi ((l,alone,()),n,())) (Z6z ((l,alone,()),n,())))
theorem ZrJ(ZmE:CT 190 Z1W)(hb:∀ (l:List Op) (alone:Int) (n:Int) (_:Unit),Z5M ((l,alone,()),n,())->Zt6 l alone n):CT 189 Z6c:=
 Yb (l:=[(190,Z1W)]) Zl rfl (⟨ZmE,trivial⟩) ZoK Try.func189 rfl rfl 2 (fun _=> rfl) (by decide) (fun ⟨⟨l,alone,_⟩,n,_⟩=> hb l alone n ())
def Zks:List (FuncId × Fs U):=[(188,Z6d),(189,Z6c),(190,Z1W),(191,Z1V)]
def ZoU:Zf U:=fun i=> match i with
 | 0=> ([(0,[]),(1,[])],[(.x 0,[]),(.x 1,[])])
 | 1=> ([(0,[]),(1,[]),(6,[.own .piece])],[(.x 0,[]),(.x 1,[])])
 | 2=> ([(0,[]),(1,[]),(6,[]),(7,[])],[(.x 0,[]),(.x 1,[])])
 | 3=> ([(0,[]),(1,[]),(6,[.own .piece])],[(.x 0,[]),(.x 1,[])])
 | 4=> ([(0,[]),(1,[]),(6,[]),(33,[])],[(.x 0,[]),(.x 1,[])])
 | 5=> ([(0,[]),(1,[]),(6,[.own .piece])],[(.x 0,[]),(.x 1,[])])
 | 6=> ([(0,[]),(1,[]),(6,[]),(49,[])],[(.x 0,[]),(.x 1,[])])
 | 7=> ([(0,[]),(1,[]),(6,[.own .piece])],[(.x 0,[]),(.x 1,[])])
 | 8=> ([(0,[]),(1,[]),(6,[]),(65,[])],[(.x 0,[]),(.x 1,[])])
 | 9=> ([(6,[]),(76,[])],[(.x 0,[]),(.x 1,[])])
 | 10=> ([(4,[]),(5,[])],[(.x 0,[]),(.x 1,[])])
 | 11=> ([(4,[]),(5,[])],[(.x 0,[]),(.x 1,[])])
 | _=> ([],[])
def Z1q(pl:List Op)(pa:Int)(ql:List Op)(qa:Int)(mx0_0 mx1_0:List Op)(mx1_1:Int)(x6:List Piece):LSt U:=(L2 [(0,.ptr (.x 0) 0),(1,.ptr (.x 1) 0),(6,.c (sU .piece x6 (.own (.e 6 0))))] [(.x 0,[sU .op mx0_0 .unk,ci pa]),(.x 1,[sU .op mx1_0 .unk,ci mx1_1])])
abbrev Zxk(p:List Nat):=AW (Z1 Zks) Try.f169 ZoU p
theorem ZxI(pl:List Op)(pa:Int)(ql:List Op)(qa:Int)(Q:QT)(h:(Zi (Zxk [1,1,0,0]) (Z1q pl pa ql qa pl ql qa []) (xB 0 Q))):
  Zxk [] (L2 [(0,.ptr (.x 0) 0),(1,.ptr (.x 1) 0)] [(.x 0,[sU .op pl .unk,ci pa]),(.x 1,[sU .op ql .unk,ci qa])]) Q:=
 Eq.mpr (by kernel_rfl) h
theorem Zn7(pl:List Op)(pa:Int)(ql:List Op)(qa:Int)(mx0_0 mx1_0:List Op)(mx1_1:Int)(x6:List Piece)(N0:NT)(Q:QT)(h:∀ y_1,y_1=(List.getD mx0_0 (Int.toNat 0) Op.nil)->∀ y_2,y_2=(List.getD mx1_0 (Int.toNat 0) Op.nil)->∀ y_3,y_3=(Edit.mk 0 (Tree.mk 0 [] []) (Tree.mk 0 [] []) [] [] 0 [])->∀ y_4,y_4=(List.getD (bif (!(decide (mx0_0.length=0))) then mx1_0 else mx1_0) (Int.toNat 0) Op.nil)->∀ y_5,y_5=y_1->∀ y_6,y_6=y_2->∀ y_7,y_7=y_4->∀ y_8,y_8=(Zq (mx0_0.getD 0 Op.nil) (Z2 y_5))->∀ y_9,y_9=(Zq (mx1_0.getD 0 Op.nil) (Z2 y_6))->∀ y_10,y_10=(Zq (mx0_0.getD 0 Op.nil) (if ((Z2 y_7):Int) < (Z2 y_5) then (Z2 y_7) else (Z2 y_5)))->∀ y_11,y_11=(Zq ((bif (!(decide (mx0_0.length=0))) then mx1_0 else mx1_0).getD 0 Op.nil) (if ((Z2 y_7):Int) < (Z2 y_5) then (Z2 y_7) else (Z2 y_5)))->let z7:=Z2i ((mx0_0,pa,()),());let z5:=Piece.mk 2 (OpOf.mk 0 0 [] y_3) y_9;let z4:=Piece.mk 1 y_8 (OpOf.mk 0 0 [] y_3);let z0:=decide (mx0_0.length=0);let z3:=bif z0 then true else (decide (mx1_0.length=0));let z2:=bif (!z0) then mx1_1 else mx1_1;let z1:=bif (!z0) then mx1_0 else mx1_0;let z6:=z0 !=(decide (z1.length=0));(Z2i ((mx0_0,pa,()),()))/\(((sgl pa mx0_0)=true->((0:Int)<=0/\0 < (mx0_0.length:Int))/\(Z40 (y_5,()))/\(Z5M ((mx0_0,pa,()),(Z2 y_5),()))/\((x6.length+([z4]).length)*488<=140737488355328)/\(N0 (Z1q pl pa ql qa (Zw mx0_0 (Z2 y_5)) mx1_0 mx1_1 (x6++([z4])))))/\((sgl pa mx0_0)=false->(Z2i ((mx1_0,mx1_1,()),()))/\(((sgl mx1_1 mx1_0)=true->((0:Int)<=0/\0 < (mx1_0.length:Int))/\(Z40 (y_6,()))/\(Z5M ((mx1_0,mx1_1,()),(Z2 y_6),()))/\((x6.length+([z5]).length)*488<=140737488355328)/\(N0 (Z1q pl pa ql qa mx0_0 (Zw mx1_0 (Z2 y_6)) mx1_1 (x6++([z5])))))/\((sgl mx1_1 mx1_0)=false->z7/\(Tr ((!z0)=true))/\((!z0)=true->Z2i ((mx1_0,mx1_1,()),()))/\(z0=false->(!z0)=true)/\((z3=true->z7/\(Z2i ((z1,z2,()),()))/\((z6=true->(Q .ret (L2 [(4,.c (.nils)),pB 5 false] [(.x 0,[sU .op mx0_0 .unk,ci pa]),(.x 1,[sU .op z1 .unk,ci z2])])))/\(z6=false->(Q .ret (L2 [(4,.c (sU .piece x6 (.own (.e 4 0)))),pB 5 true] [(.x 0,[sU .op mx0_0 .unk,ci pa]),(.x 1,[sU .op z1 .unk,ci z2])])))))/\(z3=false->((0:Int)<=0/\0 < (mx0_0.length:Int))/\(Z40 (y_5,()))/\((0:Int)<=0/\0 < (z1.length:Int))/\(Z40 (y_7,()))/\((Z5M ((mx0_0,pa,()),(if ((Z2 y_7):Int) < (Z2 y_5) then (Z2 y_7) else (Z2 y_5)),()))/\(Z5M ((z1,z2,()),(if ((Z2 y_7):Int) < (Z2 y_5) then (Z2 y_7) else (Z2 y_5)),()))/\((x6.length+([(Piece.mk 0 y_10 y_11)]).length)*488<=140737488355328)/\(N0 (Z1q pl pa ql qa (Zw mx0_0 (if ((Z2 y_7):Int) < (Z2 y_5) then (Z2 y_7) else (Z2 y_5))) (Zw z1 (if ((Z2 y_7):Int) < (Z2 y_5) then (Z2 y_7) else (Z2 y_5))) z2 (x6++([(Piece.mk 0 y_10 y_11)])))))))))))):
  Zxk [1,1,0,0] (Z1q pl pa ql qa mx0_0 mx1_0 mx1_1 x6) (xT N0 (xB 0 Q)):=
 Eq.mpr (by kernel_rfl) (h _ rfl _ rfl _ rfl _ rfl _ (Yv _) _ (Yv _) _ (Yv _) _ (Yv _) _ (Yv _) _ (Yv _) _ (Yv _))
def Zti(pl:List Op)(pa:Int)(ql:List Op)(qa:Int):Prop:=AW (Z1 Zks) Try.f169 ZoU [] (Zj (Zfx.can ((pl,pa,()),(ql,qa,()),())) (Zfx.canX ((pl,pa,()),(ql,qa,()),()))) (EQ Try.f169 (Zeo ((pl,pa,()),(ql,qa,()),())) (Za5 ((pl,pa,()),(ql,qa,()),())))
theorem ZrV(ZvZ:CT 188 Z6d)(ZvY:CT 189 Z6c)(ZmE:CT 190 Z1W)(ZmD:CT 191 Z1V)(hb:∀ (pl:List Op) (pa:Int) (ql:List Op) (qa:Int) (_:Unit),ZeI ((pl,pa,()),(ql,qa,()),())->Zti pl pa ql qa):CT 169 Z4x:=
 Yb (l:=[(188,Z6d),(189,Z6c),(190,Z1W),(191,Z1V)]) Zl rfl (⟨ZvZ,ZvY,ZmE,ZmD,trivial⟩) ZoU Try.func169 rfl rfl 2 (fun _=> rfl) (by decide) (fun ⟨⟨pl,pa,_⟩,⟨ql,qa,_⟩,_⟩=> hb pl pa ql qa ())
def Zkw:List (FuncId × Fs U):=[(169,Z4x)]
def ZoY:Zf U:=lvl [([0,1],[]),([4,5],[])]
abbrev ZzX(p:List Nat):=AW (Z1 Zkw) Try.f158 ZoY p
theorem ZxM(p q:List Op)(Q:QT)(h:((ZeI ((p,2,()),(q,2,()),()))/\(Q .ret (L2 [(4,.c (sU .piece ((ZK 2 2 p q []).1) .unk)),pB 5 ((ZK 2 2 p q []).2.1)] [])))):
  ZzX [] (L2 [(0,.c (sU .op p .unk)),(1,.c (sU .op q .unk))] []) Q:=
 Eq.mpr (by kernel_rfl) h
def Ztm(p q:List Op):Prop:=AW (Z1 Zkw) Try.f158 ZoY [] (Zj (Zl7.can (p,q,())) []) (EQ Try.f158 (ZnR (p,q,())) [])
theorem ZrY(ZpU:CT 169 Z4x)(hb:∀ (p:List Op) (q:List Op) (_:Unit),Zi2 (p,q,())->Ztm p q):CT 158 Z9U:=
 Z3 (l:=[(169,Z4x)]) Zl rfl (⟨ZpU,trivial⟩) ZoY Try.func158 rfl rfl 2 (fun _=> rfl) (by decide) (fun ⟨p,q,_⟩=> hb p q ())
def ZiE:List (FuncId × Fs U):=[(29,Z3O)]
def Zsw:Zf U:=lvl [([0,1],[]),([0,1,10],[]),([4],[]),([0,1,5],[]),([0,1,5,14],[]),([0,1,5],[]),([0,1,5,26],[]),([4],[]),([4],[])]
def Z7o(a b:List Tree)(x5:Int):LSt U:=(L2 [(0,.c (sU .tree a .unk)),(1,.c (sU .tree b .unk)),pI 5 x5] [])
abbrev A59(p:List Nat):=AW (Z1 ZiE) Try.f59 Zsw p
abbrev S59(p:List Nat):=SW (Z1 ZiE) Try.f59 Zsw p
theorem Zzn(a b:List Tree)(Q:QT)(h:let z0:=((a.length:Int):Int) !=(b.length:Int);((z0=true->(Q .ret (L2 [pB 4 false] [])))/\(z0=false->(Zi (A59 [1,1,0,1,0,0]) (Z7o a b 0) (xB 0 (S59 [1,1,1] Q)))))):
  A59 [] (L2 [(0,.c (sU .tree a .unk)),(1,.c (sU .tree b .unk))] []) Q:=
 Eq.mpr (by kernel_rfl) h
theorem Zr3(a b:List Tree)(x5:Int)(N0:NT)(Q:QT)(h:let z5:=decide (x5 < (a.length:Int));let z4:=a.getD x5.toNat Tree.nil;let z3:=b.getD x5.toNat Tree.nil;let z2:=Tree.mk (Tree.kind z3) (Tree.words z3) (Tree.kids z3);let z1:=Tree.mk (Tree.kind z4) (Tree.words z4) (Tree.kids z4);let z0:= !(ZZ z1 z2);((z5=true->((0:Int)<=x5/\x5 < (a.length:Int))/\((0:Int)<=x5/\x5 < (b.length:Int))/\(Z3D (z1,z2,()))/\((z0=true->(Q .ret (L2 [pB 4 false] [])))/\(z0=false->(InR (x5+1))/\(N0 (Z7o a b (x5+1))))))/\(z5=false->(Q .ret (L2 [pB 4 true] []))))):
  A59 [1,1,0,1,0,0] (Z7o a b x5) (xT N0 (xB 0 (S59 [1,1,1] Q))):=
 Eq.mpr (by kernel_rfl) h
def Zx0(a b:List Tree):Prop:=AW (Z1 ZiE) Try.f59 Zsw [] (Zj (Zqf.can (a,b,())) []) (EQ Try.f59 (ZtX (a,b,())) [])
theorem Zvm(c29:CT 29 Z3O)(hb:∀ (a:List Tree) (b:List Tree) (_:Unit),Zgp (a,b,())->Zx0 a b):CT 59 ZaV:=
 Z3 (l:=[(29,Z3O)]) Zl rfl (⟨c29,trivial⟩) Zsw Try.func59 rfl rfl 2 (fun _=> rfl) (by decide) (fun ⟨a,b,_⟩=> hb a b ())
def ZiK(N:Nat):List (FuncId × Fs U):=(19,fs Zj2 (fun a=> [Z5u a,ZgO a < N]) ZnN) ::[(29,Z3O),(59,ZaV)]
def ZsC:Zf U:=lvl [([2,3],[2,3]),([2,3,64],[2,3]),([4],[]),([2,3,5],[2,3]),([2,3,5,69],[2,3]),([2,3,5],[2,3]),([2,3,5,82],[2,3]),([4],[]),([2,3,6],[2,3]),([2,3,6,87],[2,3]),([2,3,6],[2,3]),([2,3,6,118],[2,3]),([4],[]),([2,3,7],[2,3]),([2,3,7,123],[2,3]),([2,3,7],[2,3]),([2,3,7,8,9],[2,3,8,9]),([2,3,7,163],[2,3]),([4],[]),([4],[])]
def Z7y(a b:Edit)(x5:Int):LSt U:=(L2 [pL 2,pL 3,pI 5 x5] [(.loc 2,(enc .edit a)),(.loc 3,(enc .edit b))])
def Z7x(a b:Edit)(x6_a:Int):LSt U:=(L2 [pL 2,pL 3,pI 6 x6_a] [(.loc 2,(enc .edit a)),(.loc 3,(enc .edit b))])
def Z7w(a b:Edit)(x7_b:Int):LSt U:=(L2 [pL 2,pL 3,pI 7 x7_b] [(.loc 2,(enc .edit a)),(.loc 3,(enc .edit b))])
abbrev A19(N:Nat)(p:List Nat):=AW (Z1 (ZiK N)) Try.f19 ZsC p
abbrev S19(N:Nat)(p:List Nat):=SW (Z1 (ZiK N)) Try.f19 ZsC p
theorem Zzz(N:Nat)(a b:Edit)(Q:QT)(h:∀ y_1,y_1=(a.new)->∀ y_2,y_2=(b.new)->∀ y_3,y_3=(a.old)->∀ y_4,y_4=(b.old)->let z5:=a.kind !=b.kind;let z3:=bif z5 then true else (a.list !=b.list);let z1:=bif z3 then true else (!(ZZ y_3 y_4));let z4:=bif z1 then true else (!(ZZ y_1 y_2));let z0:=bif z4 then true else (((a.words.length:Int):Int) !=(b.words.length:Int));let z2:=bif z0 then true else (((a.kids.length:Int):Int) !=(b.kids.length:Int));let z6:=bif z2 then true else (((a.ops.length:Int):Int) !=(b.ops.length:Int));((Tr ((!z5)=true))/\(Tr ((!z5)=true))/\(Tr ((!z5)=true))/\(Tr ((!z5)=true))/\(z5=false->(!z5)=true)/\(Tr ((!z3)=true))/\(Tr ((!z3)=true))/\(Tr ((!z3)=true))/\(Tr ((!z3)=true))/\((!z3)=true->Z3D (y_3,y_4,()))/\(Tr ((!z3)=true))/\(z3=false->(!z3)=true)/\(Tr ((!z1)=true))/\(Tr ((!z1)=true))/\(Tr ((!z1)=true))/\(Tr ((!z1)=true))/\((!z1)=true->Z3D (y_1,y_2,()))/\(Tr ((!z1)=true))/\(z1=false->(!z1)=true)/\(Tr ((!z4)=true))/\(Tr ((!z4)=true))/\(Tr ((!z4)=true))/\(Tr ((!z4)=true))/\(Tr ((!z4)=true))/\(Tr ((!z4)=true))/\(z4=false->(!z4)=true)/\(Tr ((!z0)=true))/\(Tr ((!z0)=true))/\(Tr ((!z0)=true))/\(Tr ((!z0)=true))/\(Tr ((!z0)=true))/\(Tr ((!z0)=true))/\(z0=false->(!z0)=true)/\(Tr ((!z2)=true))/\(Tr ((!z2)=true))/\(Tr ((!z2)=true))/\(Tr ((!z2)=true))/\(Tr ((!z2)=true))/\(Tr ((!z2)=true))/\(z2=false->(!z2)=true)/\((z6=true->(Q .ret (L2 [pB 4 false] [])))/\(z6=false->(Zi (A19 N [1,1,0,1,0,0]) (Z7y a b 0) (xB 0 (S19 N [1,1,1] Q))))))):
  A19 N [] (L2 [(0,.agg (enc .edit a)),(1,.agg (enc .edit b))] []) Q:=
 Eq.mpr (by kernel_rfl) (h _ (Zc _) _ (Zc _) _ (Zc _) _ (Zc _))
theorem Zrg(N:Nat)(a b:Edit)(x5:Int)(N0:NT)(Q:QT)(h:let z3:=decide (x5 < (a.words.length:Int));let z2:=b.words.getD x5.toNat (WEdit.mk 0 0 0 0);let z1:=a.words.getD x5.toNat (WEdit.mk 0 0 0 0);let z0:= !((((WEdit.at_ z1):Int)==(WEdit.at_ z2)) && ((((WEdit.mask z1):Int)==(WEdit.mask z2)) && ((((WEdit.old z1):Int)==(WEdit.old z2)) && ((((WEdit.new z1):Int)==(WEdit.new z2)) && true))));((z3=true->((0:Int)<=x5/\x5 < (a.words.length:Int))/\((0:Int)<=x5/\x5 < (b.words.length:Int))/\((z0=true->(Q .ret (L2 [pB 4 false] [])))/\(z0=false->(InR (x5+1))/\(N0 (Z7y a b (x5+1))))))/\(z3=false->(Zi (A19 N [1,1,1,0,1,0,0]) (Z7x a b 0) (xB 2 (S19 N [1,1,1,1] Q)))))):
  A19 N [1,1,0,1,0,0] (Z7y a b x5) (xT N0 (xB 0 (S19 N [1,1,1] Q))):=
 Eq.mpr (by kernel_rfl) h
theorem Zrf(N:Nat)(a b:Edit)(x6_a:Int)(N1:NT)(Q:QT)(h:∀ y_1,y_1=(a.kids.getD x6_a.toNat (KidOf.mk 0 Edit.nil))->∀ y_2,y_2=(b.kids.getD x6_a.toNat (KidOf.mk 0 Edit.nil))->∀ y_3,y_3=(y_1.e)->∀ y_4,y_4=(y_2.e)->let z2:=decide (x6_a < (a.kids.length:Int));let z0:=y_1.at_ !=y_2.at_;let z1:=bif z0 then true else (!(eqX y_3 y_4));((z2=true->((0:Int)<=x6_a/\x6_a < (a.kids.length:Int))/\((0:Int)<=x6_a/\x6_a < (b.kids.length:Int))/\(Tr ((!z0)=true))/\(Tr ((!z0)=true))/\(Tr ((!z0)=true))/\((!z0)=true->(0:Int)<=x6_a/\x6_a < (a.kids.length:Int))/\(Tr ((!z0)=true))/\(Tr ((!z0)=true))/\(Tr ((!z0)=true))/\(Tr ((!z0)=true))/\(Tr ((!z0)=true))/\((!z0)=true->(0:Int)<=x6_a/\x6_a < (b.kids.length:Int))/\(Tr ((!z0)=true))/\(Tr ((!z0)=true))/\(Tr ((!z0)=true))/\(Tr ((!z0)=true))/\((!z0)=true->Z5u (y_3,y_4,()))/\((!z0)=true->ZgO (y_3,y_4,()) < N)/\(Tr ((!z0)=true))/\(z0=false->(!z0)=true)/\((z1=true->(Q .ret (L2 [pB 4 false] [])))/\(z1=false->(InR (x6_a+1))/\(N1 (Z7x a b (x6_a+1))))))/\(z2=false->(Zi (A19 N [1,1,1,1,0,1,0,0]) (Z7w a b 0) (xB 4 (S19 N [1,1,1,1,1] Q)))))):
  A19 N [1,1,1,0,1,0,0] (Z7x a b x6_a) (xT N1 (xB 2 (S19 N [1,1,1,1] Q))):=
 Eq.mpr (by kernel_rfl) (h _ rfl _ rfl _ (Za _) _ (Za _))
theorem Zre(N:Nat)(a b:Edit)(x7_b:Int)(N2:NT)(Q:QT)(h:∀ y_1,y_1=(a.ops.getD x7_b.toNat Op.nil)->∀ y_2,y_2=(b.ops.getD x7_b.toNat Op.nil)->∀ y_3,y_3=(y_1.e)->∀ y_4,y_4=(y_2.e)->let z4:=decide (x7_b < (a.ops.length:Int));let z2:=y_1.kind !=y_2.kind;let z0:=bif z2 then true else (y_1.n !=y_2.n);let z1:=bif z0 then true else (!(eqX y_1.l y_2.l));let z3:=bif z1 then true else (!(eqX y_3 y_4));((z4=true->((0:Int)<=x7_b/\x7_b < (a.ops.length:Int))/\((0:Int)<=x7_b/\x7_b < (b.ops.length:Int))/\((Tr ((!z2)=true))/\(Tr ((!z2)=true))/\(Tr ((!z2)=true))/\(Tr ((!z2)=true))/\(z2=false->(!z2)=true)/\(Tr ((!z0)=true))/\(Tr ((!z0)=true))/\(Tr ((!z0)=true))/\(Tr ((!z0)=true))/\((!z0)=true->Zgp (y_1.l,y_2.l,()))/\(Tr ((!z0)=true))/\(z0=false->(!z0)=true)/\(Tr ((!z1)=true))/\(Tr ((!z1)=true))/\(Tr ((!z1)=true))/\(Tr ((!z1)=true))/\((!z1)=true->Z5u (y_3,y_4,()))/\((!z1)=true->ZgO (y_3,y_4,()) < N)/\(Tr ((!z1)=true))/\(z1=false->(!z1)=true)/\((z3=true->(Q .ret (L2 [pB 4 false] [])))/\(z3=false->(InR (x7_b+1))/\(N2 (Z7w a b (x7_b+1)))))))/\(z4=false->(Q .ret (L2 [pB 4 true] []))))):
  A19 N [1,1,1,1,0,1,0,0] (Z7w a b x7_b) (xT N2 (xB 4 (S19 N [1,1,1,1,1] Q))):=
 Eq.mpr (by kernel_rfl) (h _ rfl _ rfl _ (Za _) _ (Za _))
def Zxc(N:Nat)(a b:Edit):Prop:=AW (Z1 (ZiK N)) Try.f19 ZsC [] (Zj (Zj2.can (a,b,())) []) (EQ Try.f19 (ZnN (a,b,())) [])
theorem Zvv(c29:CT 29 Z3O)(c59:CT 59 ZaV)(hb:∀ (N:Nat) (a:Edit) (b:Edit) (_:Unit),Z5u (a,b,())->ZgO (a,b,()) < N+1->Zxc N a b):CT 19 Zb2:=
 Yl (μ:=ZgO) (l:=[(29,Z3O),(59,ZaV)]) Zl rfl (⟨c29,c59,trivial⟩) ZsC Try.func19 rfl rfl 2 (fun _=> rfl) (by decide) (fun N ⟨a,b,_⟩=> hb N a b ())
end
theorem Zop{o:Op}(h:Zv o<=20000000000):o.l.length<=20000000000:=by
 have:=Zs o.l
 rw [ZI] at h
 omega
theorem Z8h{o:Op}(h:ZT o):0<=o.n/\o.n<=1048576:=by
 unfold ZT at h
 omega
theorem Y9(o:Op):Z2 o=if o.kind=3 then 1 else o.n+o.l.length:=rfl
theorem ZmE:Contract Try.prog cfg 190 Z1W:=by
 refine ZrI ?_
 intro o _ hp
 simp only [Z40] at hp
 have hl:=Zop hp.1
 refine Zxv _ _ ?_;(try simp only [vcT,forall_eq])
 (simp only [vcS]);(try simp only [vcT])
 exact ⟨fun hk=> Yt rfl (by rw [Y9,if_pos hk]),fun hk=> ⟨by unfold InR;omega,Yt rfl (by rw [Y9,if_neg hk])⟩⟩
theorem ZmD:Contract Try.prog cfg 191 Z1V:=by
 refine ZrH ?_
 intro l al _ hp
 refine Zxu _ _ _ ?_;(try simp only [vcT,forall_eq])
 have e:((l.length:Int)==0)=decide (l.length=0):=by rw [Qx];(simp only [vcS]);omega
 rw [e]
 (repeat' (first | exact trivial | exact rfl | apply And.intro))
theorem ZvZ:Contract Try.prog cfg 188 Z6d:=by
 refine ZrK ZmD ?_
 intro l al _ hp
 refine Zxx _ _ _ ?_;(try simp only [vcT,forall_eq])
 have e:(bif (!(decide (l.length=0))) then ((OpOf.kind (List.getD l (Int.toNat 0) Op.nil))==al) else false)=sgl al l:=by
  rw [Qx]
  simp only [sgl]
  (simp only [vcS])
  try rfl
 rw [e]
 refine ⟨hp,fun h=> ⟨by omega,?_⟩,by (repeat' (first | exact trivial | exact rfl | apply And.intro))⟩
 revert h
 (simp only [vcS])
 omega
theorem Zwa(ZpU:Contract Try.prog cfg 169 Z4x):Contract Try.prog cfg 158 Z9U:=by
 refine ZrY ZpU ?_
 intro p q _ hp
 refine ZxM _ _ _ ?_;(try simp only [vcT,forall_eq])
 refine ⟨hp,?_⟩
 (repeat' (first | exact trivial | exact rfl | apply And.intro))
theorem ZvY:Contract Try.prog cfg 189 Z6c:=by
 refine ZrJ ZmE ?_
 intro l al n _ hp
 simp only [Z5M] at hp
 obtain ⟨⟨ho,hm⟩,hl,h1,h2⟩:=hp
 have hmem:=Zh (l:=l) (i:=0) (by omega) Op.nil
 have hok:=ho _ hmem
 have hmo:=ZU hmem
 have hlen:=ZV l
 refine Zxw _ _ _ _ ?_;(try simp only [vcT])
 rintro y rfl _ rfl _ rfl
 have e0:(Int.toNat 0)=0:=rfl
 have e1:(Int.toNat 1)=1:=rfl
 simp only [e0,e1]
 have hT:∀ o r,Zq (l.getD 0 Op.nil) n=o->Zw l n=r->True:=fun _ _ _ _=> trivial
 have hon:=Z8h hok
 have hln:=Y9 (l.getD 0 Op.nil)
 (simp only [vcS])
 generalize hy:l.getD 0 Op.nil=y at*
 refine ⟨⟨by omega,by omega⟩,⟨by dsimp only;omega,hon⟩,fun hc=> ⟨⟨by omega,by omega⟩,?_⟩,fun hc=> ⟨fun hk=> ⟨by unfold InR;omega,⟨by omega,by omega⟩,by simp;omega,?_⟩,fun hk=> ?_⟩⟩
 ·have t1:Zq y n=y:=by rw [Zq,if_pos hc]
  have t2:Zw l n=l.drop 1:=by rw [Zw,hy,if_pos hc]
  simp only [Zbi,Z6z,hy,t1,t2]
  (repeat' (first | exact trivial | exact rfl | apply And.intro))
 ·have t1:Zq y n=⟨y.kind,n,y.l,y.e⟩:=by rw [Zq,if_neg hc,if_pos hk]
  have t2:Zw l n=⟨y.kind,y.n - n,y.l,y.e⟩ ::l.drop 1:=by rw [Zw,hy,if_neg hc,Yx,if_pos hk]
  simp only [Zbi,Z6z,hy,t1,t2]
  (repeat' (first | exact trivial | exact rfl | apply And.intro))
 ·have t1:Zq y n=⟨y.kind,y.n,y.l.take n.toNat,y.e⟩:=by rw [Zq,if_neg hc,if_neg hk]
  have t2:Zw l n=⟨y.kind,y.n,y.l.drop n.toNat,y.e⟩ ::l.drop 1:=by rw [Zw,hy,if_neg hc,Yx,if_neg hk]
  simp only [Zbi,Z6z,hy,t1,t2]
  unfold ZT at hok
  refine ⟨?_,?_,⟨by omega,by omega⟩,by simp;omega,?_⟩
  ·split at hln <;> omega
  ·split at hln <;> omega
  ·(repeat' (first | exact trivial | exact rfl | apply And.intro))
theorem Z1I(n:Nat):∀ (l:List Tree),Z6 (l.drop n)<=Z6 l:=by
 induction n with
 | zero=> intro l;simp
 | succ n ih=>
  intro l
  cases l with
  | nil=> simp
  | cons t r=> simp only [Qq,Z6];have:=ih r;omega
theorem ZbZ(n:Nat):∀ (l:List Tree),Z6 (l.take n)<=Z6 l:=by
 induction n with
 | zero=> intro l;simp [Z6]
 | succ n ih=>
  intro l
  cases l with
  | nil=> simp
  | cons t r=> simp only [List.take_succ_cons,Z6];have:=ih r;omega
theorem ZA{o:Op}(h:ZT o):1<=Z2 o:=by
 have:=Y9 o
 unfold ZT at h
 have hl:o.l≠[]->0 < o.l.length:=Xy.2
 rcases h with ⟨h1,h2,h3,h4⟩ | ⟨h1,h2,h3,h4⟩ | ⟨h1,h2,h3⟩
 ·rw [h2] at this;simp at this;split at this <;> omega
 ·have:=hl h3;split at* <;> omega
 ·rw [if_pos h1] at this;omega
theorem Z6O{o:Op}(h:ZT o)(hm:Zv o<=20000000000):Z2 o<=20000000000:=by
 have:=Y9 o
 have:=Zop hm
 have:=Z8h h
 unfold ZT at h
 rcases h with ⟨h1,h2,h3,h4⟩ | ⟨h1,h2,h3,h4⟩ | ⟨h1,h2,h3⟩
 ·simp [h2,h1] at*;omega
 ·split at* <;> omega
 ·split at* <;> omega
theorem Z27(o:Op)(r:List Op):Zd (o ::r)=Zv o+Zd r:=rfl
theorem Z4N{l:List Op}(h:Z8l l):Z8l (l.drop 1):=by
 cases l with
 | nil=> exact h
 | cons o r=>
  obtain ⟨h1,h2⟩:=h
  rw [Z27] at h2
  exact ⟨fun x hx=> h1 x (Q4 _ hx),by simp only [Qq,QH];omega⟩
theorem Z8k{l:List Op}(h:Z8l l)(hl:l.length≠0):ZT (l.getD 0 Op.nil)/\Zv (l.getD 0 Op.nil)<=20000000000/\Zv (l.getD 0 Op.nil)<=Zd l:=by
 have hm:=Zh (l:=l) (i:=0) (by omega) Op.nil
 have:=ZU hm
 exact ⟨h.1 _ hm,by have:=h.2;omega,this⟩
theorem Z7J{o:Op}{n:Int}(h:ZT o)(h1:1<=n)(h2:¬Z2 o<=n):ZT (Yx o n)/\Zv (Yx o n)<=Zv o:=by
 have hl:=Y9 o
 unfold Yx
 unfold ZT at*
 by_cases hk:o.kind=0
 ·rw [if_pos hk]
  refine ⟨Or.inl ?_,by simp only [ZI];omega⟩
  rcases h with h | h | h
  ·obtain ⟨a,b,c,d⟩:=h
   rw [b,if_neg (by omega)] at hl
   simp at hl
   exact ⟨a,b,by dsimp only;omega,d⟩
  ·omega
  ·omega
 ·rw [if_neg hk]
  have:=Z1I n.toNat o.l
  refine ⟨Or.inr ?_,by simp only [ZI];omega⟩
  rcases h with h | h | h
  ·omega
  ·obtain ⟨a,b,c,d⟩:=h
   rw [if_neg (by omega)] at hl
   refine Or.inl ⟨a,b,?_,d⟩
   intro he
   have:=congrArg List.length he
   simp at this
   omega
  ·rw [if_pos h.1] at hl;omega
theorem ZbJ{l:List Op}{n:Int}(h:Z8l l)(hl:l.length≠0)(h1:1<=n):Z8l (Zw l n):=by
 unfold Zw
 split
 ·exact Z4N h
 ·rename_i hc
  obtain ⟨a,b,c⟩:=Z8k h hl
  obtain ⟨d,e⟩:=Z7J a h1 hc
  have hd:=Z4N h
  refine ⟨fun x hx=> ?_,?_⟩
  ·rcases Qc.1 hx with rfl | hx
   ·exact d
   ·exact hd.1 _ hx
  ·rw [Z27]
   obtain _ | ⟨o,r⟩:=l
   ·simp at hl
   ·have:=h.2
    rw [Z27] at this
    simp at*
    omega
theorem ZcV(l:List Op):Zw l (Z2 (l.getD 0 Op.nil))=l.drop 1:=by rw [Zw,if_pos (Xa _)]
theorem ZcW(o:Op):Zq o (Z2 o)=o:=by rw [Zq,if_pos (Xa _)]
theorem Zjo{a:Int}{l:List Op}(h:sgl a l=true):l.length≠0:=(of_decide_eq_true h).1
theorem ZcM{α:Type}(b:Bool)(x:α):(bif b then x else x)=x:=by cases b <;> rfl
theorem ZpU:Contract Try.prog cfg 169 Z4x:=by
 refine ZrV ZvZ ZvY ZmE ZmD ?_
 intro pl pa ql qa _ hp
 simp only [ZeI] at hp
 have hpl:=ZV pl
 have hql:=ZV ql
 have hP:=hp.1.2
 have hQ:=hp.2.2
 refine ZxI _ _ _ _ _ ?_;(try simp only [vcT,forall_eq])
 refine Z9 (ι:=List Op × List Op × List Piece) (fun s=> Z1q pl pa ql qa s.1 s.2.1 qa s.2.2) (fun s=> Z8l s.1/\Z8l s.2.1/\s.2.2.length+s.1.length+s.2.1.length<=40000000000/\ZK pa qa s.1 s.2.1 s.2.2=ZK pa qa pl ql []) (fun s=> s.1.length+s.2.1.length) (pl,ql,[]) rfl ⟨hp.1,hp.2,by simp;omega,rfl⟩ ?_
 rintro ⟨p,q,out⟩ ⟨h1,h2,h3,h4⟩
 refine Zn7 _ _ _ _ _ _ _ _ _ _ ?_;(try simp only [vcT])
 have e0:(Int.toNat 0)=0:=rfl
 simp only [e0,ZcM]
 dsimp only at h1 h2 h3 h4
 rintro z1 hy1 z2 hy2 y3 hy3 z4 hy4 y1 rfl y2 rfl y4 rfl y8 hy8 y9 hy9 y10 hy10 y11 hy11
 have ey:y4=y2:=hy4.trans hy2.symm
 rw [ey] at hy10 hy11 ⊢
 have e3:(OpOf.mk 0 0 [] y3:Op)=Op.nil:=by rw [hy3];try rfl
 rw [<-hy1,ZcW] at hy8
 rw [<-hy2,ZcW] at hy9
 have hmin:∀ a b:Int,(if a < b then a else b)=min b a:=by intro a b;omega
 rw [<-hy1,hmin] at hy10
 rw [<-hy2,hmin] at hy11
 simp only [hmin,e3,hy8,hy9]
 (simp only [vcS])
 have o1:p.length≠0->ZT y1/\Zv y1<=20000000000:=fun h=> by have:=Z8k h1 h;rw [<-hy1] at this;exact ⟨this.1,this.2.1⟩
 have o2:q.length≠0->ZT y2/\Zv y2<=20000000000:=fun h=> by have:=Z8k h2 h;rw [<-hy2] at this;exact ⟨this.1,this.2.1⟩
 have tp:Zw p (Z2 y1)=p.drop 1:=by rw [hy1];exact ZcV p
 have tq:Zw q (Z2 y2)=q.drop 1:=by rw [hy2];exact ZcV q
 have hm1:=ZV p
 have hm2:=ZV q
 have hm3:=h1.2
 have hm4:=h2.2
 rw [ZK] at h4
 rw [<-hy1,<-hy2] at h4
 refine ⟨by simp only [Z2i];omega,fun hs=> ?_,fun hs=> ?_⟩
 ·have hl:=Zjo hs
  obtain ⟨oa,ob⟩:=o1 hl
  have oc:=ZA oa
  have od:=Z6O oa ob
  rw [dif_pos hs] at h4
  refine ⟨⟨by omega,by omega⟩,⟨ob,Z8h oa⟩,⟨h1,hl,oc,by dsimp only;omega⟩,by simp;omega,(p.drop 1,q,out++[⟨1,y1,Op.nil⟩]),by rw [tp],⟨Z4N h1,h2,by simp;omega,h4⟩,by simp;omega⟩
 ·rw [dif_neg (by rw [hs];exact Kh)] at h4
  refine ⟨by simp only [Z2i];omega,fun hs2=> ?_,fun hs2=> ?_⟩
  ·have hl:=Zjo hs2
   obtain ⟨oa,ob⟩:=o2 hl
   have oc:=ZA oa
   have od:=Z6O oa ob
   rw [dif_pos hs2] at h4
   refine ⟨⟨by omega,by omega⟩,⟨ob,Z8h oa⟩,⟨h2,hl,oc,by dsimp only;omega⟩,by simp;omega,(p,q.drop 1,out++[⟨2,Op.nil,y2⟩]),by rw [tq],⟨h1,Z4N h2,by simp;omega,h4⟩,by simp;omega⟩
  ·rw [dif_neg (by rw [hs2];exact Kh)] at h4
   refine ⟨by simp only [Z2i];omega,fun _=> by simp only [Z2i];omega,fun h=> h,fun hd=> ⟨by simp only [Z2i];omega,by simp only [Z2i];omega,fun he=> ?_,fun he=> ?_⟩,fun hd=> ?_⟩
   ·rw [dif_pos hd,if_neg he] at h4
    simp only [Zeo,Za5,<-h4]
    (repeat' (first | exact trivial | exact rfl | apply And.intro))
   ·rw [dif_pos hd,if_pos he] at h4
    simp only [Zeo,Za5,<-h4]
    (repeat' (first | exact trivial | exact rfl | apply And.intro))
   ·obtain ⟨oa,ob⟩:=o1 hd.1
    obtain ⟨oc,od⟩:=o2 hd.2
    have a1:=ZA oa
    have a2:=Z6O oa ob
    have a3:=ZA oc
    have a4:=Z6O oc od
    rw [dif_neg (by omega),<-hy10,<-hy11] at h4
    have c1:=Y6 p (min (Z2 y1) (Z2 y2)) hd.1
    have c2:=Y6 q (min (Z2 y1) (Z2 y2)) hd.2
    have c3:Z2 y1<=min (Z2 y1) (Z2 y2)->(Zw p (min (Z2 y1) (Z2 y2))).length < p.length:=fun h=> Y5 p _ hd.1 (by rw [<-hy1];exact h)
    have c4:Z2 y2<=min (Z2 y1) (Z2 y2)->(Zw q (min (Z2 y1) (Z2 y2))).length < q.length:=fun h=> Y5 q _ hd.2 (by rw [<-hy2];exact h)
    refine ⟨⟨by omega,by omega⟩,⟨ob,Z8h oa⟩,⟨by omega,by omega⟩,⟨od,Z8h oc⟩,⟨h1,hd.1,by dsimp only;omega,by dsimp only;omega⟩,⟨h2,hd.2,by dsimp only;omega,by dsimp only;omega⟩,by simp;omega,
     (Zw p (min (Z2 y1) (Z2 y2)),Zw q (min (Z2 y1) (Z2 y2)),out++[⟨0,y10,y11⟩]),rfl,⟨ZbJ h1 hd.1 (by omega),ZbJ h2 hd.2 (by omega),by simp;omega,h4⟩,by dsimp only;omega⟩
theorem Z3w{α:Type}{a b:α}(h:¬a=b):eqX a b=false:=by rw [<-K0,JL];exact h
theorem Z19{α:Type}(d:α){a b:List α}(hl:a.length=b.length)(h:∀ i:Nat,i < a.length->a.getD i d=b.getD i d):a=b:=by
 apply Kl hl
 intro i h1 h2
 have:=h i h1
 simpa [Qm,Q0 h1,Q0 h2] using this
theorem c59:Contract Try.prog cfg 59 ZaV:=by
 refine Zvm c29 ?_
 intro a b _ hp
 simp only [Zgp] at hp
 refine Zzn _ _ _ ?_;(try simp only [vcT,forall_eq])
 (simp only [vcS]);(try simp only [vcT])
 refine ⟨fun hc=> Zb rfl (Z3w (a:=a) (b:=b) (fun h=> hc (by rw [h]))).symm,fun hc=> ?_⟩
 have hl:a.length=b.length:=by omega
 have hla:=Zs a
 refine Z9 (ι:=Int) (fun i=> Z7o a b i) (fun i=> 0<=i/\i<=a.length/\∀ j:Nat,(j:Int) < i->a.getD j Tree.nil=b.getD j Tree.nil) (fun i=> ((a.length:Int) - i).toNat) 0 rfl ⟨by omega,by omega,by intro j hj;omega⟩ ?_
 rintro i ⟨h1,h2,h3⟩
 refine Zr3 _ _ _ _ _ ?_;(try simp only [vcT,forall_eq])
 (simp only [vcS]);(try simp only [vcT])
 try (simp only [Tree.eta,Edit.eta,Tree.kind_mk,Tree.words_mk,Tree.kids_mk])
 refine ⟨fun hi=> ⟨⟨h1,hi⟩,⟨h1,by omega⟩,?_,fun hq=> ?_,fun hq=> ⟨by unfold InR;omega,i+1,rfl,⟨by omega,by omega,?_⟩,by omega⟩⟩,fun hi=> ?_⟩
 ·have:=YX (Zh (l:=a) (i:=i.toNat) (by omega) Tree.nil)
  simp only [Z3D];omega
 ·refine Zb rfl (Z3w (a:=a) (b:=b) (fun h=> ?_)).symm
  rw [h,YE] at hq
  exact hq rfl
 ·intro j hj
  by_cases hj2:(j:Int) < i
  ·exact h3 j hj2
  ·rw [Jk,show i.toNat=j by omega] at hq
   exact hq
 ·refine Zb rfl (JL (a:=a) (b:=b).2 (Z19 Tree.nil hl (fun j hj=> h3 j (by omega)))).symm
theorem ZpL{a b:Edit}(h1:a.kind=b.kind)(h2:a.old=b.old)(h3:a.new=b.new)(h4:a.words=b.words)(h5:a.kids=b.kids)(h6:a.list=b.list)(h7:a.ops=b.ops):a=b:=by
 cases a;cases b;simp_all
theorem ZsG{a b:Kid}(h1:a.at_=b.at_)(h2:a.e=b.e):a=b:=by cases a;cases b;simp_all
theorem Zv1{a b:Op}(h1:a.kind=b.kind)(h2:a.n=b.n)(h3:a.l=b.l)(h4:a.e=b.e):a=b:=by cases a;cases b;simp_all
theorem Zlz{a b:WEdit}(h1:a.at_=b.at_)(h2:a.mask=b.mask)(h3:a.old=b.old)(h4:a.new=b.new):a=b:=by cases a;cases b;simp_all
theorem c19:Contract Try.prog cfg 19 Zb2:=by
 refine Zvv c29 c59 ?_
 intro N a b _ hp hN
 simp only [Z5u,ZgO] at hp hN
 have hme:=YB a
 have hkl:=Ys a.kids
 have hol:=ZV a.ops
 have neq:∀ {P:Prop},(a=b->P)->¬P->eqX a b=false:=fun h1 h2=> Z3w (fun h=> h2 (h1 h))
 refine Zzz N a b _ ?_;(try simp only [vcT])
 rintro y1 rfl y2 rfl y3 rfl y4 rfl
 (simp only [vcS]);(try simp only [vcT])
 refine ⟨fun _=> ?_,fun _=> ?_,fun hc=> ?_,fun hc=> ?_⟩
 ·simp only [Z3D];omega
 ·simp only [Z3D];omega
 ·refine Zb rfl (Z3w (a:=a) (b:=b) (fun h=> ?_)).symm
  rw [h] at hc
  simp only [YE] at hc
  simp at hc
 ·simp only [Jk,Classical.not_not] at hc
  obtain ⟨⟨⟨⟨⟨⟨h1,h2⟩,h3⟩,h4⟩,h5⟩,h6⟩,h7⟩:=hc
  refine Z9 (ι:=Int) (fun i=> Z7y a b i) (fun i=> 0<=i/\i<=a.words.length/\∀ j:Nat,(j:Int) < i->a.words.getD j (WEdit.mk 0 0 0 0)=b.words.getD j (WEdit.mk 0 0 0 0)) (fun i=> ((a.words.length:Int) - i).toNat) 0 rfl ⟨by omega,by omega,by intro j hj;omega⟩ ?_
  rintro i ⟨g1,g2,g3⟩
  refine Zrg _ _ _ _ _ _ ?_;(try simp only [vcT,forall_eq])
  (simp only [vcS]);(try simp only [vcT])
  try simp only [and_true]
  refine ⟨fun hi=> ⟨⟨g1,hi⟩,⟨g1,by omega⟩,fun hq=> ?_,fun hq=> ⟨by unfold InR;omega,i+1,rfl,⟨by omega,by omega,?_⟩,by omega⟩⟩,fun hi=> ?_⟩
  ·refine Zb rfl (Z3w (a:=a) (b:=b) (fun h=> ?_)).symm
   rw [h] at hq
   simp at hq
  ·intro j hj
   by_cases hj2:(j:Int) < i
   ·exact g3 j hj2
   ·rw [show i.toNat=j by omega] at hq
    exact Zlz hq.1 hq.2.1 hq.2.2.1 hq.2.2.2
  ·have hw:a.words=b.words:=Z19 (WEdit.mk 0 0 0 0) (by omega) (fun j hj=> g3 j (by omega))
   refine Z9 (ι:=Int) (fun i=> Z7x a b i) (fun i=> 0<=i/\i<=a.kids.length/\∀ j:Nat,(j:Int) < i->a.kids.getD j (KidOf.mk 0 Edit.nil)=b.kids.getD j (KidOf.mk 0 Edit.nil)) (fun i=> ((a.kids.length:Int) - i).toNat) 0 rfl ⟨by omega,by omega,by intro j hj;omega⟩ ?_
   rintro i ⟨g1,g2,g3⟩
   refine Zrf _ _ _ _ _ _ ?_;(try simp only [vcT])
   rintro y1 hy1 y2 hy2 y3 hy3 y4 hy4
   (simp only [vcS]);(try simp only [vcT])
   refine ⟨fun hi=> ⟨⟨g1,hi⟩,⟨g1,by omega⟩,fun _=> ⟨g1,hi⟩,fun _=> ⟨g1,by omega⟩,fun _=> ?_,fun _=> ?_,fun hq=> ?_,fun hq=> ⟨by unfold InR;omega,i+1,rfl,⟨by omega,by omega,?_⟩,by omega⟩⟩,fun hi=> ?_⟩
   ·have:=J6 (Zh (l:=a.kids) (i:=i.toNat) (by omega) (KidOf.mk 0 Edit.nil))
    rw [<-hy1,<-hy3] at this
    simp only [Z5u];omega
   ·have:=J6 (Zh (l:=a.kids) (i:=i.toNat) (by omega) (KidOf.mk 0 Edit.nil))
    rw [<-hy1,<-hy3] at this
    simp only [ZgO];omega
   ·refine Zb rfl (Z3w (a:=a) (b:=b) (fun h=> ?_)).symm
    rw [h] at hy1
    rw [hy3,hy4,hy1,hy2,Zcj] at hq
    simp at hq
   ·intro j hj
    by_cases hj2:(j:Int) < i
    ·exact g3 j hj2
    ·rw [JL,hy3,hy4,hy1,hy2,show i.toNat=j by omega] at hq
     exact ZsG (by simpa using hq.1) hq.2
   ·have hk:a.kids=b.kids:=Z19 (KidOf.mk 0 Edit.nil) (by omega) (fun j hj=> g3 j (by omega))
    refine Z9 (ι:=Int) (fun i=> Z7w a b i) (fun i=> 0<=i/\i<=a.ops.length/\∀ j:Nat,(j:Int) < i->a.ops.getD j Op.nil=b.ops.getD j Op.nil) (fun i=> ((a.ops.length:Int) - i).toNat) 0 rfl ⟨by omega,by omega,by intro j hj;omega⟩ ?_
    rintro i ⟨g1,g2,g3⟩
    refine Zre _ _ _ _ _ _ ?_;(try simp only [vcT])
    rintro y1 hy1 y2 hy2 y3 hy3 y4 hy4
    (simp only [vcS]);(try simp only [vcT])
    refine ⟨fun hi=> ⟨⟨g1,hi⟩,⟨g1,by omega⟩,fun _=> ?_,fun _=> ?_,fun _=> ?_,fun hq=> ?_,fun hq=> ⟨by unfold InR;omega,i+1,rfl,⟨by omega,by omega,?_⟩,by omega⟩⟩,fun hi=> ?_⟩
    ·have:=ZU (Zh (l:=a.ops) (i:=i.toNat) (by omega) Op.nil)
     rw [<-hy1,ZI] at this
     simp only [Zgp];omega
    ·have:=ZU (Zh (l:=a.ops) (i:=i.toNat) (by omega) Op.nil)
     rw [<-hy1,ZI,<-hy3] at this
     simp only [Z5u];omega
    ·have:=ZU (Zh (l:=a.ops) (i:=i.toNat) (by omega) Op.nil)
     rw [<-hy1,ZI,<-hy3] at this
     simp only [ZgO];omega
    ·refine Zb rfl (Z3w (a:=a) (b:=b) (fun h=> ?_)).symm
     rw [h] at hy1
     rw [hy3,hy4,hy1,hy2,Zcj,Zcj] at hq
     simp at hq
    ·intro j hj
     by_cases hj2:(j:Int) < i
     ·exact g3 j hj2
     ·rw [JL,JL,hy3,hy4,hy1,hy2,show i.toNat=j by omega] at hq
      obtain ⟨⟨⟨q1,q2⟩,q3⟩,q4⟩:=hq
      exact Zv1 (by simpa using q1) (by simpa using q2) q3 q4
    ·have ho:a.ops=b.ops:=Z19 Op.nil (by omega) (fun j hj=> g3 j (by omega))
     exact Zb rfl (JL (a:=a) (b:=b).2 (ZpL h1 h3 h4 hw hk h2 ho)).symm
def vu(u:AUnit):Op × Bool:=(opU u,u.alone)
def vs(a:Int)(o:Op):List (Op × Bool):=(ZdW 0 a o).map vu
theorem Zaw{a n:Int}{o:Op}(h:ZT o)(h1:1<=n)(hn:¬Z2 o<=n):vs a o=vs a (Zq o n)++vs a (Yx o n)/\ZT (Zq o n)/\Z2 (Zq o n)=n/\Zv (Zq o n)<=Zv o:=by
 have hl:=Y9 o
 rcases h with ⟨k0,k1,k2,k3⟩ | ⟨k0,k1,k2,k3⟩ | ⟨k0,k1,k2⟩
 ·have e1:Zq o n=⟨o.kind,n,o.l,o.e⟩:=by rw [Zq,if_neg hn,if_pos k0]
  have e2:Yx o n=⟨o.kind,o.n - n,o.l,o.e⟩:=by rw [Yx,if_pos k0]
  rw [if_neg (by omega),k1] at hl
  simp only [Qb] at hl
  rw [e1,e2]
  refine ⟨?_,Or.inl ⟨k0,k1,by dsimp only;omega,k3⟩,?_,by simp [ZI]⟩
  ·simp only [vs,ZdW,k0,k1]
   simp only [if_true,K6,Qu,Kt,List.map_replicate]
   rw [if_neg (by decide)]
   simp only [K6,QG]
   rw [List.replicate_append_replicate]
   congr 1
   omega
  ·rw [Y9]
   dsimp only
   rw [if_neg (by omega),k1]
   simp
 ·have e1:Zq o n=⟨o.kind,o.n,o.l.take n.toNat,o.e⟩:=by rw [Zq,if_neg hn,if_neg (by omega)]
  have e2:Yx o n=⟨o.kind,o.n,o.l.drop n.toNat,o.e⟩:=by rw [Yx,if_neg (by omega)]
  rw [if_neg (by omega)] at hl
  have hm:=ZbZ n.toNat o.l
  rw [e1,e2]
  refine ⟨?_,Or.inr (Or.inl ⟨k0,k1,?_,k3⟩),?_,by simp only [ZI];omega⟩
  ·simp only [vs,ZdW]
   rw [if_neg (by omega),if_neg (by omega)]
   simp only [Qu,QG]
   rw [<-Kt,<-Kt,QJ]
  ·intro he
   have:=congrArg List.length he
   simp only [Qk,Qb] at this
   omega
  ·rw [Y9]
   dsimp only
   rw [if_neg (by omega),Qk]
   omega
 ·rw [if_pos k0] at hl
  omega
theorem YD{a:Int}{l:List Op}:sgl a l=true↔(l.length≠0/\(l.getD 0 Op.nil).kind=a):=by unfold sgl;exact decide_eq_true_iff
theorem Ji(o:Op)(n:Int):(Zq o n).kind=o.kind:=by
 unfold Zq;split
 ·try rfl
 ·split <;> rfl
theorem ZgI{t:Tree}(h:Jf t=true):t=Tree.nil:=by
 obtain ⟨k,w,ks⟩:=t
 have:=of_decide_eq_true h
 simp at this
 obtain ⟨rfl,rfl,rfl⟩:=this
 try rfl
theorem ZcY{e:Edit}(h:Z0V e=true):e=Edit.nil:=by
 obtain ⟨h1,h2,h3,h4,h5,h6,h7⟩:=Zg1 h
 obtain ⟨k,o,n,w,ks,l,os⟩:=e
 simp at h1 h2 h3 h4 h5 h6 h7
 subst h1 h4 h5 h6 h7
 rw [ZgI h2,ZgI h3]
 try rfl
theorem Zbd{list:Int}{o:Op}{d:Int}(h:Zg list o d=true):ZT o:=by
 rw [Z3d] at h
 unfold ZT
 split at h
 ·rename_i h0
  simp only [Q1,decide_eq_true_eq] at h
  exact Or.inl ⟨h0,QK.1 h.1.2.2,⟨h.1.1,h.1.2.1⟩,ZcY h.2⟩
 ·split at h
  ·cases h
  ·rename_i h0 h1
   split at h
   ·simp only [Q1,decide_eq_true_eq] at h
    refine Or.inr (Or.inl ⟨by omega,by omega,?_,ZcY h.2⟩)
    exact Xy.1 h.1.2
   ·simp only [Q1,decide_eq_true_eq] at h
    exact Or.inr (Or.inr ⟨by omega,by omega,QK.1 h.1.1.1⟩)
end Go.AM.Ytpjenobkibfpcaa
namespace Go.AM
def Z1O(list:Int)(e:Edit):Bool:=decide (e.kind=0\/(list=9/\e.kind=2/\e.words.length=0/\e.kids.length=0))
def Z5(l:List Tree):List Tree:=l.map Z4
def Yg(kind:Int):List Op->List Tree
 | []=> []
 | o ::r=> if o.kind=1\/o.kind=2 then (if o.kind=kind then Z5 o.l else [])++Yg kind r else []
def ZE:List Op->Int
 | []=> 0
 | o ::r=> if o.kind=1\/o.kind=2 then 1+ZE r else 0
end Go.AM
namespace Go.AM
def Jj{α:Type}(z:α)(l:List α)(i:Nat)(x:α):List α:=(l++List.replicate (i+1 - l.length) z).set i x
def wsD(tw:List Int):List WEdit->List Int->Option (List Int)
 | [],out=> some out
 | w ::r,out=> if mix 0 (tw.getD w.at_.toNat 0) w.mask=w.old then wsD tw r (Jj 0 out w.at_.toNat (mix (tw.getD w.at_.toNat 0) w.new w.mask)) else none
noncomputable def Z9w(l rest:List Tree):Bool:=decide (l.length<=rest.length) && eqX (Z5 l) (Z5 (rest.take l.length))
def Zcl(r:Option (List Tree × List Tree)):Option (List Tree):=r.bind fun x=> if x.2.length=0 then some x.1 else none
def nrD(r:Bool)(t:Tree):Tree:=if r then Z4 t else t
mutual
noncomputable def doE(r:Bool):Edit->Tree->Option Tree
 | .mk k o n w ks l os,t=>
  (if k=0 then some t
  else if k=1 then (if ZZ (Z4 o) (Z4 t)=true then some n else none)
  else if k=2 then (if t.kind=1 then (wsD t.words w t.words).bind fun a=> (Z9M r t.kids ks t.kids).map fun b=> .mk 1 a b else none)
  else if k=3 then (if t.kind=l then (Zcl (Z2U r os t.kids [])).map fun b=> .mk l [] b else none)
  else none).map (nrD r)
noncomputable def Z9M(r:Bool)(tk:List Tree):List (KidOf Edit)->List Tree->Option (List Tree)
 | [],out=> some out
 | k ::s,out=> (ZkS r tk k).bind fun u=> Z9M r tk s (Jj Tree.nil out k.at_.toNat u)
noncomputable def ZkS(r:Bool)(tk:List Tree):KidOf Edit->Option Tree
 | ⟨a,e⟩=> doE r e (tk.getD a.toNat Tree.nil)
noncomputable def Z2U(r:Bool):List (OpOf Edit)->List Tree->List Tree->Option (List Tree × List Tree)
 | [],rest,out=> some (out,rest)
 | o ::s,rest,out=> (ZpO r o rest out).bind fun x=> Z2U r s x.2 x.1
noncomputable def ZpO(r:Bool):OpOf Edit->List Tree->List Tree->Option (List Tree × List Tree)
 | ⟨k,n,l,e⟩,rest,out=>
  if k=0 then (if n.toNat<=rest.length then some (out++rest.take n.toNat,rest.drop n.toNat) else none)
  else if k=1 then (if Z9w l rest=true then some (out,rest.drop l.length) else none)
  else if k=2 then some (out++l,rest)
  else if rest.length=0 then none else (doE r e (rest.getD 0 Tree.nil)).map fun u=> (out++[u],rest.drop 1)
end
theorem Zfj(r:Bool)(e:Edit)(t:Tree):doE r e t=(if e.kind=0 then some t
  else if e.kind=1 then (if ZZ (Z4 e.old) (Z4 t)=true then some e.new else none)
  else if e.kind=2 then (if t.kind=1 then (wsD t.words e.words t.words).bind fun a=> (Z9M r t.kids e.kids t.kids).map fun b=> .mk 1 a b else none)
  else if e.kind=3 then (if t.kind=e.list then (Zcl (Z2U r e.ops t.kids [])).map fun b=> .mk e.list [] b else none)
  else none).map (nrD r):=by cases e;rfl
noncomputable def ZuS(r:Bool)(e:Edit)(t:Tree):Option Tree:=
 if e.kind=0 then some t
 else if e.kind=1 then (if ZZ (Z4 e.old) (Z4 t)=true then some e.new else none)
 else if e.kind=2 then (if t.kind=1 then (wsD t.words e.words t.words).bind fun a=> (Z9M r t.kids e.kids t.kids).map fun b=> .mk 1 a b else none)
 else if e.kind=3 then (if t.kind=e.list then (Zcl (Z2U r e.ops t.kids [])).map fun b=> .mk e.list [] b else none)
 else none
theorem Zfi(r:Bool)(e:Edit)(t:Tree):doE r e t=(ZuS r e t).map (nrD r):=Zfj r e t
theorem ZpP(r:Bool)(tk:List Tree)(k:Kid):ZkS r tk k=doE r k.e (tk.getD k.at_.toNat Tree.nil):=by cases k;rfl
theorem ZsO(r:Bool)(o:Op)(rest out:List Tree):ZpO r o rest out=if o.kind=0 then (if o.n.toNat<=rest.length then some (out++rest.take o.n.toNat,rest.drop o.n.toNat) else none)
  else if o.kind=1 then (if Z9w o.l rest=true then some (out,rest.drop o.l.length) else none)
  else if o.kind=2 then some (out++o.l,rest)
  else if rest.length=0 then none else (doE r o.e (rest.getD 0 Tree.nil)).map fun u=> (out++[u],rest.drop 1):=by cases o;rfl
noncomputable def Z9G(r:Bool)(e:Edit)(t:Tree):Option Tree:=
 if t.kind=1 then (wsD t.words e.words t.words).bind fun a=> (Z9M r t.kids e.kids t.kids).map fun b=> .mk 1 a b else none
noncomputable def Z5n(r:Bool)(e:Edit)(t:Tree):Option (List Tree × List Tree):=if t.kind=e.list then Z2U r e.ops t.kids [] else none
def Z3E(o:Option Tree):Tree:=o.getD Tree.nil
def Zpd(e:Edit)(o:Option (List Tree × List Tree)):Tree:=match o with | some x=> .mk e.list [] x.1 | none=> Tree.nil
noncomputable def Z9H(e:Edit)(t:Tree):Tree:=
 if e.kind=0 then t else if e.kind=1 then e.new else if e.kind=2 then Z3E (Z9G false e t) else if e.kind=3 then Zpd e (Z5n false e t) else Tree.nil
theorem Z8o(o:Option Tree):o.map (nrD false)=o:=by cases o <;> rfl
theorem Z8i{e:Edit}{t u:Tree}(h:doE false e t=some u):Z9H e t=u:=by
 rw [Zfj,Z8o] at h
 unfold Z9H
 split
 ·rename_i h0;rw [if_pos h0] at h;exact Option.some.inj h
 ·rename_i h0;rw [if_neg h0] at h
  split
  ·rename_i h1;rw [if_pos h1] at h
   split at h
   ·exact Option.some.inj h
   ·cases h
  ·rename_i h1;rw [if_neg h1] at h
   split
   ·rename_i h2;rw [if_pos h2] at h
    unfold Z3E Z9G
    rw [h];try rfl
   ·rename_i h2;rw [if_neg h2] at h
    split
    ·rename_i h3;rw [if_pos h3] at h
     unfold Zpd Z5n
     split at h
     ·rename_i h4;rw [if_pos h4]
      revert h
      cases Z2U false e.ops t.kids [] with
      | none=> intro h;cases h
      | some x=>
       intro h
       simp only [Zcl,X9] at h
       split at h
       ·exact Option.some.inj h
       ·cases h
     ·cases h
    ·rename_i h3;rw [if_neg h3] at h;cases h
end Go.AM
namespace Go.AM
structure Wst where
 out:List Op
 gone:List Tree
 brought:List Tree
def Jv(out:List Op)(g b:List Tree):List Op:=
 out++((if g.length=0 then [] else [⟨1,0,g,Edit.nil⟩])++(if b.length=0 then [] else [⟨2,0,b,Edit.nil⟩]))
def Yk:List Op->Int->List Op
 | [],n=> [⟨0,n,[],Edit.nil⟩]
 | [o],n=> if o.kind=0 then [⟨o.kind,o.n+n,o.l,o.e⟩] else [o,⟨0,n,[],Edit.nil⟩]
 | o ::p ::r,n=> o ::Yk (p ::r) n
def Z0(w:Wst):Wst:=⟨Jv w.out w.gone w.brought,[],[]⟩
def ZL(w:Wst)(n:Int):Wst:=⟨Yk (Z0 w).out n,[],[]⟩
mutual
def Zo:Edit->Edit
 | .mk k o n w ks l os=>
  if k=1 then .mk k (Z4 o) (Z4 n) [] [] l []
  else if k=2 then .mk k Tree.nil Tree.nil w (YW ks) l []
  else if k=3 then .mk k Tree.nil Tree.nil [] [] l (Z0 (Zn l os ⟨[],[],[]⟩)).out
  else .mk k Tree.nil Tree.nil [] [] l []
def YW:List (KidOf Edit)->List (KidOf Edit)
 | []=> []
 | k ::r=> Z0a k ::YW r
def Z0a:KidOf Edit->KidOf Edit
 | ⟨a,e⟩=> ⟨a,Zo e⟩
def Zn(list:Int):List (OpOf Edit)->Wst->Wst
 | [],s=> s
 | o ::r,s=> Zn list r (JY list o s)
def JY(list:Int):OpOf Edit->Wst->Wst
 | ⟨k,n,l,e⟩,s=>
  if k=0 then ZL s n
  else if k=1 then ⟨s.out,s.gone++Z5 l,s.brought⟩
  else if k=2 then ⟨s.out,s.gone,s.brought++Z5 l⟩
  else if k=3 then (if Z1O list (Zo e)=true then ZL s 1 else ⟨(Z0 s).out++[⟨3,0,[],Zo e⟩],[],[]⟩)
  else s
end
theorem Z3m(e:Edit):Zo e=if e.kind=1 then .mk e.kind (Z4 e.old) (Z4 e.new) [] [] e.list []
  else if e.kind=2 then .mk e.kind Tree.nil Tree.nil e.words (YW e.kids) e.list []
  else if e.kind=3 then .mk e.kind Tree.nil Tree.nil [] [] e.list (Z0 (Zn e.list e.ops ⟨[],[],[]⟩)).out
  else .mk e.kind Tree.nil Tree.nil [] [] e.list []:=by cases e;rfl
theorem Z8m(k:Kid):Z0a k=⟨k.at_,Zo k.e⟩:=by cases k;rfl
theorem YF(list:Int)(o:Op)(s:Wst):JY list o s=if o.kind=0 then ZL s o.n
  else if o.kind=1 then ⟨s.out,s.gone++Z5 o.l,s.brought⟩
  else if o.kind=2 then ⟨s.out,s.gone,s.brought++Z5 o.l⟩
  else if o.kind=3 then (if Z1O list (Zo o.e)=true then ZL s 1 else ⟨(Z0 s).out++[⟨3,0,[],Zo o.e⟩],[],[]⟩)
  else s:=by cases o;rfl
theorem Zdj(list:Int):∀ (l:List Op) (s:Wst),Zn list l s=Zn list (l.drop (ZE l).toNat) ⟨s.out,s.gone++Yg 1 l,s.brought++Yg 2 l⟩
 | [],s=> by simp [Zn,Yg,ZE]
 | o ::r,s=> by
  by_cases h:o.kind=1\/o.kind=2
  ·have hg:0<=ZE r:=gapN_nonneg r
   rw [ZE,if_pos h,Yg,Yg,if_pos h,if_pos h,show (1+ZE r).toNat=(ZE r).toNat+1 by omega,Qq,Zn,YF,Zdj list r]
   rcases h with h | h
   ·rw [if_neg (by omega),if_pos h,if_pos h,if_neg (by omega)]
    simp
   ·rw [if_neg (by omega),if_neg (by omega),if_pos h,if_neg (by omega),if_pos h]
    simp
  ·rw [ZE,if_neg h,Yg,Yg,if_neg h,if_neg h]
   simp
where
 gapN_nonneg:∀ (l:List Op),0<=ZE l
  | []=> by simp [ZE]
  | o ::r=> by
   have:=gapN_nonneg r
   rw [ZE];split <;> omega
end Go.AM
namespace Go.AM.Ytpjenobkibfpcaa
open Go.AM Go.Proofs
theorem Zba(a b:Tree):ZZ a b=ZZ b a:=by simp [ZZ,eq_comm]
theorem Zb9(a:Tree):ZZ a a=true:=by simp [ZZ]
theorem ZlE(l:List Int):trim (trim l)=trim l:=by
 induction l with
 | nil=> rfl
 | cons x r ih=>
  rw [Z1g]
  split
  ·try rfl
  ·rename_i h
   rw [Z1g,ih,if_neg h]
theorem ZhC(l:List Tree):ZX (ZX l)=ZX l:=by
 induction l with
 | nil=> rfl
 | cons x r ih=>
  rw [Jh]
  split
  ·try rfl
  ·rename_i h
   rw [Jh,ih,if_neg h]
def Normed:List Tree->Prop
 | []=> True
 | t ::r=> Z4 t=t/\Normed r
theorem Normed.eq:∀ {l:List Tree},Normed l->ZY l=l
 | [],_=> rfl
 | t ::r,h=> by simp only [ZY,h.1,Normed.eq h.2]
theorem Normed.trim:∀ {l:List Tree},Normed l->Normed (ZX l)
 | [],_=> trivial
 | t ::r,h=> by
  rw [Jh]
  split
  ·trivial
  ·exact ⟨h.1,Normed.trim h.2⟩
mutual
theorem JR:∀ (t:Tree),Z4 (Z4 t)=Z4 t
 | .mk k w ks=> by
  have h:=Z6Q ks
  by_cases h0:k=0
  ·simp [Z4,h0,Tree.nil]
  ·by_cases h1:k=1
   ·subst h1
    simp only [Z4,if_neg h0,if_true,ZlE,h.trim.eq,ZhC]
   ·simp only [Z4,if_neg h0,if_neg h1,h.eq]
theorem Z6Q:∀ (ks:List Tree),Normed (ZY ks)
 | []=> trivial
 | t ::r=> ⟨JR t,Z6Q r⟩
end
noncomputable section
noncomputable section
def Zlb:ArgL (List Tree × Unit):=(.cons (aSl .tree) .nil)
def Z8b(a:List Tree × Unit):Prop:=Z6 a.1<=20000000000
def ZnT(a:List Tree × Unit):V U:= .c (sU .tree (Z5 a.1) .unk)
def Z6k:Fs U:=fs Zlb (fun a=> [Z8b a]) ZnT
def Zli:ArgL (List Op × Int × Int × Unit):=(.cons (aSl .op) (.cons (Jd .i64) (.cons (Jd .i64) .nil)))
def Z3i(a:List Op × Int × Int × Unit):Prop:=Zd a.1<=20000000000/\0<=a.2.1/\a.2.1<=(a.1).length
def ZhU(a:List Op × Int × Int × Unit):V U:= .tup [(false,[sU .tree (Yg a.2.2.1 ((a.1).drop (a.2.1).toNat)) .unk]),(false,[ci (a.2.1+ZE ((a.1).drop (a.2.1).toNat))])]
def Z4A:Fs U:=fs Zli (fun a=> [Z3i a]) ZhU
def Z0z:List (FuncId × Fs U):=[(45,Z3b)]
def Z6W:Zf U:=fun i=> match i with
 | 0=> ([(0,[])],[])
 | 1=> ([(0,[]),(3,[])],[])
 | 2=> ([(0,[]),(3,[.own .tree]),(4,[])],[])
 | 3=> ([(0,[]),(3,[]),(4,[]),(8,[])],[])
 | 4=> ([(0,[]),(3,[.own .tree]),(4,[])],[])
 | 5=> ([(0,[]),(3,[]),(4,[])],[])
 | 6=> ([(2,[])],[])
 | _=> ([],[])
def Z1r(l:List Tree)(x4:Int)(x3:List Tree):LSt U:=(L2 [(0,.c (sU .tree l .unk)),(3,.c (sU .tree x3 (.own (.e 3 0)))),pI 4 x4] [])
abbrev ZyH(l:List Tree)(Q:QT):=AW (Z1 Z0z) Try.f152 Z6W [] (L2 [(0,.c (sU .tree l .unk))] []) Q
abbrev Zj5:=awp cfg (Z1 Z0z) (ZW cfg (Z1 Z0z)) Try.f152.ntmps Z6W
abbrev ZhG:=Ze9 cfg (Z1 Z0z) (ZW cfg (Z1 Z0z)) Try.f152.ntmps Z6W
theorem ZxS(l:List Tree)(Q:QT)(h:Zi (AW (Z1 Z0z) Try.f152 Z6W [1,1,0,1,0,0]) (Z1r l 0 []) (xB 0 (SW (Z1 Z0z) Try.f152 Z6W [1,1,1] Q))):
  ZyH l Q:=by
 have e_:(ZyH l Q)=(Zi (Zj5 (cd Try.f152 [1,1,0,1,0,0])) (Z1r l 0 []) (xB 0 (ZhG (cd Try.f152 [1,1,1]) Q))):=by kernel_rfl
 exact e_.mpr h
abbrev Zlr(l:List Tree)(x4:Int)(x3:List Tree)(N0:NT)(Q:QT):=AW (Z1 Z0z) Try.f152 Z6W [1,1,0,1,0,0] (Z1r l x4 x3) (xT N0 (xB 0 (SW (Z1 Z0z) Try.f152 Z6W [1,1,1] Q)))
theorem Zn8(l:List Tree)(x4:Int)(x3:List Tree)(N0:NT)(Q:QT)(h:((decide (x4 < (l.length:Int)))=true->((0:Int)<=x4/\x4 < (l.length:Int))/\(Z1F ((Tree.mk (Tree.kind (l.getD x4.toNat Tree.nil)) (Tree.words (l.getD x4.toNat Tree.nil)) (Tree.kids (l.getD x4.toNat Tree.nil))),()))/\((x3.length+([(Tree.mk (Tree.kind (Z4 (Tree.mk (Tree.kind (l.getD x4.toNat Tree.nil)) (Tree.words (l.getD x4.toNat Tree.nil)) (Tree.kids (l.getD x4.toNat Tree.nil))))) (Tree.words (Z4 (Tree.mk (Tree.kind (l.getD x4.toNat Tree.nil)) (Tree.words (l.getD x4.toNat Tree.nil)) (Tree.kids (l.getD x4.toNat Tree.nil))))) (Tree.kids (Z4 (Tree.mk (Tree.kind (l.getD x4.toNat Tree.nil)) (Tree.words (l.getD x4.toNat Tree.nil)) (Tree.kids (l.getD x4.toNat Tree.nil))))))]).length)*56<=140737488355328)/\((InR (x4+1))/\(N0 (Z1r l (x4+1) (x3++([(Tree.mk (Tree.kind (Z4 (Tree.mk (Tree.kind (l.getD x4.toNat Tree.nil)) (Tree.words (l.getD x4.toNat Tree.nil)) (Tree.kids (l.getD x4.toNat Tree.nil))))) (Tree.words (Z4 (Tree.mk (Tree.kind (l.getD x4.toNat Tree.nil)) (Tree.words (l.getD x4.toNat Tree.nil)) (Tree.kids (l.getD x4.toNat Tree.nil))))) (Tree.kids (Z4 (Tree.mk (Tree.kind (l.getD x4.toNat Tree.nil)) (Tree.words (l.getD x4.toNat Tree.nil)) (Tree.kids (l.getD x4.toNat Tree.nil))))))]))))))/\((decide (x4 < (l.length:Int)))=false->Q .ret (L2 [(2,.c (sU .tree x3 (.own (.e 2 0))))] []))):
  Zlr l x4 x3 N0 Q:=by
 have e_:(Zlr l x4 x3 N0 Q)=(((decide ((x4:Int) < (l.length:Int)))=true->((0:Int)<=x4/\x4 < (l.length:Int))/\(Z1F ((Tree.mk (Tree.kind (l.getD x4.toNat Tree.nil)) (Tree.words (l.getD x4.toNat Tree.nil)) (Tree.kids (l.getD x4.toNat Tree.nil))),()))/\((x3.length+([(Tree.mk (Tree.kind (Z4 (Tree.mk (Tree.kind (l.getD x4.toNat Tree.nil)) (Tree.words (l.getD x4.toNat Tree.nil)) (Tree.kids (l.getD x4.toNat Tree.nil))))) (Tree.words (Z4 (Tree.mk (Tree.kind (l.getD x4.toNat Tree.nil)) (Tree.words (l.getD x4.toNat Tree.nil)) (Tree.kids (l.getD x4.toNat Tree.nil))))) (Tree.kids (Z4 (Tree.mk (Tree.kind (l.getD x4.toNat Tree.nil)) (Tree.words (l.getD x4.toNat Tree.nil)) (Tree.kids (l.getD x4.toNat Tree.nil))))))]).length)*56<=140737488355328)/\((InR ((x4:Int)+1))/\(N0 (Z1r l ((x4:Int)+1) (x3++([(Tree.mk (Tree.kind (Z4 (Tree.mk (Tree.kind (l.getD x4.toNat Tree.nil)) (Tree.words (l.getD x4.toNat Tree.nil)) (Tree.kids (l.getD x4.toNat Tree.nil))))) (Tree.words (Z4 (Tree.mk (Tree.kind (l.getD x4.toNat Tree.nil)) (Tree.words (l.getD x4.toNat Tree.nil)) (Tree.kids (l.getD x4.toNat Tree.nil))))) (Tree.kids (Z4 (Tree.mk (Tree.kind (l.getD x4.toNat Tree.nil)) (Tree.words (l.getD x4.toNat Tree.nil)) (Tree.kids (l.getD x4.toNat Tree.nil))))))]))))))/\((decide ((x4:Int) < (l.length:Int)))=false->(Q .ret (L2 [(2,.c (sU .tree x3 (.own (.e 2 0))))] [])))):=by kernel_rfl
 exact e_.mpr ⟨fun c_1=> ⟨(h.1 c_1).1,(h.1 c_1).2.1,(h.1 c_1).2.2.1,⟨(h.1 c_1).2.2.2.1,(h.1 c_1).2.2.2.2⟩⟩,fun c_1=> (h.2 c_1)⟩
def Zts(l:List Tree):Prop:=AW (Z1 Z0z) Try.f152 Z6W [] (Zj (Zlb.can (l,())) []) (EQ Try.f152 (ZnT (l,())) [])
theorem Zs4(c45:CT 45 Z3b)(hb:∀ (l:List Tree) (_:Unit),Z8b (l,())->Zts l):CT 152 Z6k:=
 Z3 (l:=[(45,Z3b)]) Zl rfl (⟨c45,trivial⟩) Z6W Try.func152 rfl rfl 1 (fun _=> rfl) (by decide) (fun ⟨l,_⟩=> hb l ())
def Z0B:List (FuncId × Fs U):=[(152,Z6k)]
def Z6Y:Zf U:=fun i=> match i with
 | 0=> ([(0,[]),(1,[]),(2,[])],[])
 | 1=> ([(0,[]),(1,[]),(2,[]),(8,[])],[])
 | 2=> ([(0,[]),(2,[]),(8,[.own .tree]),(9,[])],[])
 | 3=> ([(0,[]),(2,[]),(8,[]),(9,[]),(30,[])],[])
 | 4=> ([(0,[]),(2,[]),(8,[]),(9,[]),(37,[])],[])
 | 5=> ([(0,[]),(2,[]),(8,[]),(9,[])],[])
 | 6=> ([(0,[]),(2,[]),(8,[.own .tree]),(9,[])],[])
 | 7=> ([(6,[]),(7,[])],[])
 | _=> ([],[])
def Z01(l:List Op)(from_ kind x9:Int)(x8:List Tree):LSt U:=(L2 [(0,.c (sU .op l .unk)),pI 2 kind,(8,.c (sU .tree x8 (.own (.e 8 0)))),pI 9 x9] [])
abbrev ZyM(l:List Op)(from_ kind:Int)(Q:QT):=AW (Z1 Z0B) Try.f110 Z6Y [] (L2 [(0,.c (sU .op l .unk)),pI 1 from_,pI 2 kind] []) Q
abbrev Zj7:=awp cfg (Z1 Z0B) (ZW cfg (Z1 Z0B)) Try.f110.ntmps Z6Y
abbrev ZhI:=Ze9 cfg (Z1 Z0B) (ZW cfg (Z1 Z0B)) Try.f110.ntmps Z6Y
theorem Zy5(l:List Op)(from_ kind:Int)(Q:QT)(h:Zi (AW (Z1 Z0B) Try.f110 Z6Y [1,1,1,0,0,0]) (Z01 l from_ kind from_ []) (xB 0 (SW (Z1 Z0B) Try.f110 Z6Y [1,1,1,1] Q))):
  ZyM l from_ kind Q:=by
 have e_:(ZyM l from_ kind Q)=(Zi (Zj7 (cd Try.f110 [1,1,1,0,0,0])) (Z01 l from_ kind from_ []) (xB 0 (ZhI (cd Try.f110 [1,1,1,1]) Q))):=by kernel_rfl
 exact e_.mpr h
abbrev Zlu(l:List Op)(from_ kind x9:Int)(x8:List Tree)(N0:NT)(Q:QT):=AW (Z1 Z0B) Try.f110 Z6Y [1,1,1,0,0,0] (Z01 l from_ kind x9 x8) (xT N0 (xB 0 (SW (Z1 Z0B) Try.f110 Z6Y [1,1,1,1] Q)))
theorem Znh(l:List Op)(from_ kind x9:Int)(x8:List Tree)(N0:NT)(Q:QT)(h:∀ y_1,y_1=(l.getD x9.toNat Op.nil)->((decide (x9 < (l.length:Int)))=true->(0:Int)<=x9/\x9 < (l.length:Int))/\(((decide (x9 < (l.length:Int))) && (!(y_1.kind==1)))=true->(0:Int)<=x9/\x9 < (l.length:Int))/\(((bif (decide (x9 < (l.length:Int))) then (bif (y_1.kind==1) then true else (y_1.kind==2)) else false)=true->((0:Int)<=x9/\x9 < (l.length:Int))/\(((y_1.kind==kind)=true->((0:Int)<=x9/\x9 < (l.length:Int))/\(Z8b (y_1.l,()))/\((x8.length+(Z5 y_1.l).length)*56<=140737488355328)/\((InR (x9+1))/\(N0 (Z01 l from_ kind (x9+1) (x8++(Z5 y_1.l))))))/\((y_1.kind==kind)=false->(InR (x9+1))/\(N0 (Z01 l from_ kind (x9+1) x8)))))/\((bif (decide (x9 < (l.length:Int))) then (bif (y_1.kind==1) then true else (y_1.kind==2)) else false)=false->Q .ret (L2 [(6,.c (sU .tree x8 (.own (.e 6 0)))),pI 7 x9] [])))):
  Zlu l from_ kind x9 x8 N0 Q:=by
 have e_:(Zlu l from_ kind x9 x8 N0 Q)=(let y_1:=(l.getD x9.toNat Op.nil);let zz1:=(y_1.kind==1);let zz0:=(decide ((x9:Int) < (l.length:Int)));(Tr (zz0=true))/\(Tr (zz0=true))/\(zz0=true->(0:Int)<=x9/\x9 < (l.length:Int))/\(Tr (zz0=true))/\(Tr (zz0=true))/\(Tr (zz0=true))/\(Tr (zz0=true))/\(Tr ((zz0 && (!zz1))=true))/\(Tr ((zz0 && (!zz1))=true))/\((zz0 && (!zz1))=true->(0:Int)<=x9/\x9 < (l.length:Int))/\(Tr ((zz0 && (!zz1))=true))/\(Tr ((zz0 && (!zz1))=true))/\(Tr ((zz0 && (!zz1))=true))/\(zz0=true->(True->zz0=true))/\(zz0=true->(zz1=false->(zz0 && (!zz1))=true))/\(Tr (zz0=true))/\(((bif zz0 then (bif zz1 then true else (y_1.kind==2)) else false)=true->((0:Int)<=x9/\x9 < (l.length:Int))/\(((y_1.kind==kind)=true->((0:Int)<=x9/\x9 < (l.length:Int))/\(Z8b (y_1.l,()))/\((x8.length+(Z5 y_1.l).length)*56<=140737488355328)/\((InR ((x9:Int)+1))/\(N0 (Z01 l from_ kind ((x9:Int)+1) (x8++(Z5 y_1.l))))))/\((y_1.kind==kind)=false->(InR ((x9:Int)+1))/\(N0 (Z01 l from_ kind ((x9:Int)+1) x8)))))/\((bif zz0 then (bif zz1 then true else (y_1.kind==2)) else false)=false->(Q .ret (L2 [(6,.c (sU .tree x8 (.own (.e 6 0)))),pI 7 x9] []))))):=by kernel_rfl
 exact e_.mpr (by intro y_1;have hh:=h y_1 rfl;exact ⟨id,id,hh.1,id,id,id,id,id,id,hh.2.1,id,id,id,(by generalize (decide ((x9:Int) < (l.length:Int)))=b0;revert b0;decide),(by generalize ((y_1.kind:Int)==1)=b0;generalize (decide ((x9:Int) < (l.length:Int)))=b1;revert b0 b1;decide),(by generalize (decide ((x9:Int) < (l.length:Int)))=b0;revert b0;decide),⟨fun c_2=> ⟨(hh.2.2.1 c_2).1,⟨fun c_3=> ⟨((hh.2.2.1 c_2).2.1 c_3).1,((hh.2.2.1 c_2).2.1 c_3).2.1,((hh.2.2.1 c_2).2.1 c_3).2.2.1,⟨((hh.2.2.1 c_2).2.1 c_3).2.2.2.1,((hh.2.2.1 c_2).2.1 c_3).2.2.2.2⟩⟩,fun c_3=> ⟨((hh.2.2.1 c_2).2.2 c_3).1,((hh.2.2.1 c_2).2.2 c_3).2⟩⟩⟩,fun c_2=> (hh.2.2.2 c_2)⟩⟩)
def ZtF(l:List Op)(from_ kind:Int):Prop:=AW (Z1 Z0B) Try.f110 Z6Y [] (Zj (Zli.can (l,from_,kind,())) []) (EQ Try.f110 (ZhU (l,from_,kind,())) [])
theorem Zsf(Zwg:CT 152 Z6k)(hb:∀ (l:List Op) (from_:Int) (kind:Int) (_:Unit),Z3i (l,from_,kind,())->ZtF l from_ kind):CT 110 Z4A:=
 Z3 (l:=[(152,Z6k)]) Zl rfl (⟨Zwg,trivial⟩) Z6Y Try.func110 rfl rfl 3 (fun _=> rfl) (by decide) (fun ⟨l,from_,kind,_⟩=> hb l from_ kind ())
end
end
theorem Zwg:Contract Try.prog cfg 152 Z6k:=by
 refine Zs4 c45 ?_
 intro l _ hp
 simp only [Z8b] at hp
 have hl:=Zs l
 refine ZxS _ _ ?_
 refine Z9 (ι:=Int × List Tree) (fun s=> Z1r l s.1 s.2) (fun s=> 0<=s.1/\s.1<=l.length/\s.2.length=s.1/\s.2++Z5 (l.drop s.1.toNat)=Z5 l) (fun s=> ((l.length:Int) - s.1).toNat) (0,[]) rfl ⟨by simp,by simp,by simp,by simp⟩ ?_
 rintro ⟨i,out⟩ ⟨h1,h2,h3,h4⟩
 dsimp only at h1 h2 h3 h4
 refine Zn8 _ _ _ _ _ ?_
 (simp only [vcS])
 (simp only [Tree.eta,Edit.eta,Tree.kind_mk,Tree.words_mk,Tree.kids_mk])
 refine ⟨fun hi=> ?_,fun hi=> ?_⟩
 ·have hm:=YX (Zh (l:=l) (i:=i.toNat) (by omega) Tree.nil)
  rw [Yn h1 hi Tree.nil] at h4
  simp only [Z5,QV] at h4
  refine ⟨⟨h1,hi⟩,by simp only [Z1F];omega,by simp;omega,by unfold InR;omega,(i+1,out++[Z4 (l.getD i.toNat Tree.nil)]),rfl,⟨by dsimp only;omega,by dsimp only;omega,by simp;omega,?_⟩,by dsimp only;omega⟩
  simp only [Qd,Qo,Qu]
  exact h4
 ·rw [Qg (by omega)] at h4
  simp only [Z5,K6,QG] at h4
  rw [h4]
  (repeat' (first | exact trivial | exact rfl | apply And.intro))
theorem ZdB{kind:Int}{l:List Op}{i:Int}(h0:0<=i)(h:i < l.length):Yg kind (l.drop i.toNat)=if (l.getD i.toNat Op.nil).kind=1\/(l.getD i.toNat Op.nil).kind=2 then (if (l.getD i.toNat Op.nil).kind=kind then Z5 (l.getD i.toNat Op.nil).l else [])++Yg kind (l.drop (i+1).toNat) else []:=by
 rw [Yn h0 h Op.nil,Yg]
theorem ZdD{l:List Op}{i:Int}(h0:0<=i)(h:i < l.length):ZE (l.drop i.toNat)=if (l.getD i.toNat Op.nil).kind=1\/(l.getD i.toNat Op.nil).kind=2 then 1+ZE (l.drop (i+1).toNat) else 0:=by
 rw [Yn h0 h Op.nil,ZE]
theorem ZgS(n:Nat):∀ (l:List Op),Zd (l.drop n)<=Zd l:=by
 induction n with
 | zero=> intro l;simp
 | succ n ih=>
  intro l
  cases l with
  | nil=> simp
  | cons t r=> simp only [Qq,Zd];have:=ih r;omega
theorem Zwn:Contract Try.prog cfg 110 Z4A:=by
 refine Zsf Zwg ?_
 intro l from_ kind _ hp
 simp only [Z3i] at hp
 obtain ⟨hm,hf0,hf1⟩:=hp
 have hl:=ZV l
 refine Zy5 _ _ _ _ ?_
 refine Z9 (ι:=Int × List Tree) (fun s=> Z01 l from_ kind s.1 s.2) (fun s=> from_<=s.1/\s.1<=l.length/\s.2.length+Zd (l.drop s.1.toNat)<=Zd l/\s.2++Yg kind (l.drop s.1.toNat)=Yg kind (l.drop from_.toNat)/\s.1+ZE (l.drop s.1.toNat)=from_+ZE (l.drop from_.toNat)) (fun s=> ((l.length:Int) - s.1).toNat) (from_,[]) rfl ⟨by simp,by simpa using hf1,by have:=ZgS from_.toNat l;simpa using this,by simp,rfl⟩ ?_
 rintro ⟨i,out⟩ ⟨h1,h2,h3,h4,h5⟩
 dsimp only at h1 h2 h3 h4 h5
 refine Znh _ _ _ _ _ _ _ ?_
 rintro y hy
 (simp only [vcS])
 refine ⟨fun hi=> ⟨by omega,hi⟩,fun hi=> ⟨by omega,hi.1⟩,fun hi=> ?_,fun hi=> ?_⟩
 ·obtain ⟨hi,hk⟩:=hi
  have hmem:=ZU (Zh (l:=l) (i:=i.toNat) (by omega) Op.nil)
  have hd:=congrArg Zd (Yn (show 0<=i by omega) hi Op.nil)
  rw [Z27] at hd
  rw [ZdB (by omega) hi] at h4
  rw [ZdD (by omega) hi] at h5
  rw [<-hy] at h4 h5 hmem hd
  rw [if_pos hk] at h4 h5
  rw [ZI] at hmem hd
  have hkl:=Zs y.l
  have hyl:(Z5 y.l).length=y.l.length:=by simp [Z5]
  refine ⟨⟨by omega,hi⟩,fun hq=> ⟨⟨by omega,hi⟩,by simp only [Z8b];omega,by rw [hyl];omega,by unfold InR;omega,(i+1,out++Z5 y.l),rfl,⟨by dsimp only;omega,by dsimp only;omega,by simp;omega,?_,by dsimp only;omega⟩,by dsimp only;omega⟩,fun hq=> ⟨by unfold InR;omega,(i+1,out),rfl,⟨by dsimp only;omega,by dsimp only;omega,by dsimp only;omega,?_,by dsimp only;omega⟩,by dsimp only;omega⟩⟩
  ·rw [if_pos hq,<-Qd] at h4;exact h4
  ·rw [if_neg hq,Qu] at h4;exact h4
 ·have e1:Yg kind (l.drop i.toNat)=[]/\ZE (l.drop i.toNat)=0:=by
   by_cases hc:i < l.length
   ·rw [ZdB (by omega) hc,ZdD (by omega) hc,<-hy,if_neg (by omega),if_neg (by omega)]
    exact ⟨rfl,rfl⟩
   ·rw [Qg (by omega)]
    exact ⟨rfl,rfl⟩
  rw [e1.1,QG] at h4
  rw [e1.2] at h5
  have e2:i=from_+ZE (l.drop from_.toNat):=by omega
  simp only [ZhU,<-h4,<-e2]
  (repeat' (first | exact trivial | exact rfl | apply And.intro))
theorem J4(list:Int):∀ (a b:List Op) (s:Wst),Zn list (a++b) s=Zn list b (Zn list a s)
 | [],b,s=> rfl
 | o ::r,b,s=> by simp only [Qo,Zn,J4 list r]
theorem Z9r:∀ (l:List Op) (m n:Int),Yk (Yk l m) n=Yk l (m+n)
 | [],m,n=> by simp [Yk]
 | [o],m,n=> by
  by_cases h:o.kind=0
  ·simp [Yk,h,Int.add_assoc]
  ·simp [Yk,h]
 | o ::p ::r,m,n=> by
  have ih:=Z9r (p ::r) m n
  cases hk:Yk (p ::r) m with
  | nil=> cases r <;> simp [Yk] at hk;split at hk <;> cases hk
  | cons x y=>
   rw [hk] at ih
   simp only [Yk]
   rw [hk]
   simp only [Yk]
   rw [ih]
theorem J1:∀ (l:List Op) (n:Int),Yk l n=l++[⟨0,n,[],Edit.nil⟩]\/∃ a o,l=a++[o]/\o.kind=0/\Yk l n=a++[⟨o.kind,o.n+n,o.l,o.e⟩]
 | [],n=> Or.inl rfl
 | [o],n=> by
  by_cases h:o.kind=0
  ·exact Or.inr ⟨[],o,rfl,h,by simp [Yk,h]⟩
  ·exact Or.inl (by simp [Yk,h])
 | o ::p ::r,n=> by
  rcases J1 (p ::r) n with h | ⟨a,q,h1,h2,h3⟩
  ·exact Or.inl (by simp only [Yk,h,Qo])
  ·exact Or.inr ⟨o ::a,q,by rw [h1];rfl,h2,by simp only [Yk,h3,Qo]⟩
def W0:Wst:=⟨[],[],[]⟩
def Stb(list:Int)(w:Wst):Prop:=Zn list w.out W0=⟨w.out,[],[]⟩/\Z5 w.gone=w.gone/\Z5 w.brought=w.brought
theorem Z7V{list:Int}{w:Wst}(h:Stb list w):Zn list (Z0 w).out W0=w:=by
 obtain ⟨h1,h2,h3⟩:=h
 obtain ⟨out,g,b⟩:=w
 simp only [Z0,Jv]
 rw [J4,h1,J4]
 simp only at h2 h3
 by_cases hg:g.length=0
 ·rw [if_pos hg]
  have:g=[]:=QK.1 hg
  subst this
  by_cases hb:b.length=0
  ·rw [if_pos hb]
   have:b=[]:=QK.1 hb
   subst this
   try rfl
  ·rw [if_neg hb]
   simp [Zn,YF,h3]
 ·rw [if_neg hg]
  by_cases hb:b.length=0
  ·rw [if_pos hb]
   have:b=[]:=QK.1 hb
   subst this
   simp [Zn,YF,h2]
  ·rw [if_neg hb]
   simp [Zn,YF,h2,h3]
theorem ZbM(list:Int)(o:Op)(s:Wst)(h:o.kind=0):Zn list [o] s=ZL s o.n:=by
 simp only [Zn,YF,h,if_true]
theorem ZfV{list:Int}{w:Wst}(h:Stb list w)(n:Int):Stb list (ZL w n):=by
 have hf:=Z7V h
 refine ⟨?_,rfl,rfl⟩
 show Zn list (Yk (Z0 w).out n) W0=⟨Yk (Z0 w).out n,[],[]⟩
 rcases J1 (Z0 w).out n with e | ⟨a,o,e1,e2,e3⟩
 ·rw [e,J4,hf,ZbM _ _ _ rfl]
  show (⟨Yk (Z0 w).out n,[],[]⟩:Wst)=_
  rw [e]
 ·rw [e1,J4,ZbM _ _ _ e2] at hf
  rw [e3,J4,ZbM list ⟨o.kind,o.n+n,o.l,o.e⟩ _ e2]
  have ho:Yk (Z0 (Zn list a W0)).out o.n=w.out/\w.gone=[]/\w.brought=[]:=by
   rw [<-hf];exact ⟨rfl,rfl,rfl⟩
  have hw:(Z0 w).out=w.out:=by simp [Z0,Jv,ho.2.1,ho.2.2]
  show (⟨Yk (Z0 (Zn list a W0)).out (o.n+n),[],[]⟩:Wst)=_
  rw [<-Z9r,ho.1,<-e3,hw]
theorem Z9b(l:List Tree):Z5 (Z5 l)=Z5 l:=by
 simp only [Z5,List.map_map]
 congr 1
 funext t
 exact JR t
theorem Z0x(a b:List Tree):Z5 (a++b)=Z5 a++Z5 b:=by simp [Z5]
theorem ZuL{list:Int}{w:Wst}{o:Op}(h:Stb list w)(hi:Zo (Zo o.e)=Zo o.e):Stb list (JY list o w):=by
 rw [YF]
 by_cases k0:o.kind=0
 ·rw [if_pos k0];exact ZfV h _
 ·rw [if_neg k0]
  by_cases k1:o.kind=1
  ·rw [if_pos k1]
   exact ⟨h.1,by simp only [Z0x,Z9b,h.2.1],h.2.2⟩
  ·rw [if_neg k1]
   by_cases k2:o.kind=2
   ·rw [if_pos k2]
    exact ⟨h.1,h.2.1,by simp only [Z0x,Z9b,h.2.2]⟩
   ·rw [if_neg k2]
    by_cases k3:o.kind=3
    ·rw [if_pos k3]
     by_cases hd:Z1O list (Zo o.e)=true
     ·rw [if_pos hd];exact ZfV h _
     ·rw [if_neg hd]
      refine ⟨?_,rfl,rfl⟩
      have hf:=Z7V h
      show Zn list ((Z0 w).out++[⟨3,0,[],Zo o.e⟩]) W0=_
      rw [J4,hf]
      simp only [Zn,YF]
      rw [if_neg (by decide),if_neg (by decide),if_neg (by decide),if_pos trivial,hi,if_neg hd]
    ·rw [if_neg k3];exact h
mutual
theorem Z8n:∀ (e:Edit),Zo (Zo e)=Zo e
 | .mk k o n w ks l os=> by
  have h1:=ZbO ks
  have h2:=Zdi l os W0 ⟨rfl,rfl,rfl⟩
  have h3:=Z7V h2
  rw [Zo]
  by_cases k1:k=1
  ·rw [if_pos k1,Zo,if_pos k1,JR,JR]
  ·rw [if_neg k1]
   by_cases k2:k=2
   ·rw [if_pos k2,Zo,if_neg k1,if_pos k2,h1]
   ·rw [if_neg k2]
    by_cases k3:k=3
    ·rw [if_pos k3,Zo,if_neg k1,if_neg k2,if_pos k3]
     show Edit.mk k Tree.nil Tree.nil [] [] l (Z0 (Zn l (Z0 (Zn l os W0)).out W0)).out=Edit.mk k Tree.nil Tree.nil [] [] l (Z0 (Zn l os W0)).out
     rw [h3]
    ·rw [if_neg k3,Zo,if_neg k1,if_neg k2,if_neg k3]
theorem ZbO:∀ (ks:List (KidOf Edit)),YW (YW ks)=YW ks
 | []=> rfl
 | k ::r=> by
  have h1:=ZgG k
  have h2:=ZbO r
  simp only [YW]
  rw [h1,h2]
theorem ZgG:∀ (k:KidOf Edit),Z0a (Z0a k)=Z0a k
 | ⟨a,e⟩=> by
  have h:=Z8n e
  simp only [Z0a]
  rw [h]
theorem Zdi(list:Int):∀ (os:List (OpOf Edit)) (w:Wst),Stb list w->Stb list (Zn list os w)
 | [],w,h=> h
 | o ::r,w,h=> by
  have h1:=Zm6 list o w h
  exact Zdi list r _ h1
theorem Zm6(list:Int):∀ (o:OpOf Edit) (w:Wst),Stb list w->Stb list (JY list o w)
 | ⟨k,n,l,e⟩,w,h=> ZuL (o:=⟨k,n,l,e⟩) h (Z8n e)
end
end Go.AM.Ytpjenobkibfpcaa
namespace Go.AM
theorem Z6R{t:Tree}(h:Jf t=true):t=Tree.nil:=by
 obtain ⟨k,w,ks⟩:=t
 simp only [Jf,decide_eq_true_eq] at h
 obtain ⟨h1,h2,h3⟩:=h
 have h1:k=0:=h1
 rw [h1,Q3 (l:=w) h2,Q3 (l:=ks) h3]
 try rfl
theorem Zg0{e:Edit}(h:Z0V e=true):e=Edit.nil:=by
 obtain ⟨k,o,n,w,ks,l,os⟩:=e
 simp only [Z0V,Q1,decide_eq_true_eq] at h
 obtain ⟨⟨⟨h1,h2⟩,h3⟩,h4,h5,h6,h7⟩:=h
 have h1:k=0:=h1
 have h7:l=0:=h7
 rw [h1,h7,Z6R (t:=o) h2,Z6R (t:=n) h3,Q3 (l:=w) h4,Q3 (l:=ks) h5,Q3 (l:=os) h6]
 try rfl
structure RightE (e:Edit) (d:Int):Prop where
 d0:d≠0
 kind:0<=e.kind/\e.kind<=3
 none:e.kind≠1->e.old=Tree.nil/\e.new=Tree.nil
 words0:e.kind≠2->e.words=[]/\e.kids=[]
 ops0:e.kind≠3->e.list=0/\e.ops=[]
 rep:e.kind=1->Zu e.old (dT d)=true/\Zu e.new (dT d)=true/\e.old.kind≠10/\e.new.kind≠10
 words:Yc (-1) e.words=true
 kids:ZB (-1) e.kids (d - 1)=true
 list:e.kind=3->2<=e.list/\e.list<=9
 ops:ZF e.list e.ops (d - 1)=true
 len:Z1b e.ops 0 < 1048576/\Z1a e.ops 0 < 1048576
theorem Zt{e:Edit}{d:Int}(h:Z8 e d=true):RightE e d:=by
 obtain ⟨k,o,n,w,ks,l,os⟩:=e
 rw [Z8] at h
 split at h
 ·cases h
 ·rename_i a
  split at h
  ·cases h
  ·rename_i b
   have b1:k≠1->o=Tree.nil/\n=Tree.nil:=by
    intro hk
    by_cases x:Jf o=true/\Jf n=true
    ·exact ⟨Z6R x.1,Z6R x.2⟩
    ·exact absurd (.inl ⟨hk,x⟩) b
   have b2:k≠2->w=[]/\ks=[]:=by
    intro hk
    by_cases x:w.length=0/\ks.length=0
    ·exact ⟨Q3 x.1,Q3 x.2⟩
    ·exact absurd (.inr (.inl ⟨hk,x⟩)) b
   have b3:k≠3->l=0/\os=[]:=by
    intro hk
    by_cases x:l≠0\/os.length≠0
    ·exact absurd (.inr (.inr ⟨hk,x⟩)) b
    ·exact ⟨by omega,Q3 (by omega)⟩
   split at h
   ·rename_i c
    simp only [Q1,decide_eq_true_eq] at h
    obtain ⟨⟨h1,h2⟩,h3,h4⟩:=h
    have c2:=b2 (by omega)
    have c3:=b3 (by omega)
    obtain ⟨rfl,rfl⟩:=c2
    obtain ⟨rfl,rfl⟩:=c3
    exact ⟨by omega,⟨by show 0<=k;omega,by show k<=3;omega⟩,b1,b2,b3,fun _=> ⟨h1,h2,h3,h4⟩,rfl,rfl,fun e=> by have e:k=3:=e;omega,rfl,by show Z1b [] 0 < _/\Z1a [] 0 < _;simp [Z1b,Z1a]⟩
   ·rename_i c
    simp only [Q1,decide_eq_true_eq] at h
    obtain ⟨⟨⟨⟨h1,h2⟩,h3⟩,h4⟩,h5⟩:=h
    exact ⟨by omega,⟨by show 0<=k;omega,by show k<=3;omega⟩,b1,b2,b3,fun e=> absurd e c,h1,h2,fun e=> by have e:k=3:=e;show 2<=l/\l<=9;omega,h4,h5⟩
theorem Zz:∀ {ks:List Kid} {last d:Int},ZB last ks d=true->∀ k∈ks,(last < k.at_/\k.at_<=65534/\k.e.kind≠0)/\Z8 k.e d=true
 | [],_,_,_,_,hk=> by cases hk
 | ⟨a,e⟩ ::r,last,d,h,k,hk=> by
  simp only [ZB,Jm,Q1,decide_eq_true_eq] at h
  obtain ⟨⟨h1,h2⟩,h3⟩:=h
  rcases Qc.1 hk with rfl | hk
  ·exact ⟨h1,h2⟩
  ·have:=Zz h3 k hk
   have h1:last < a/\a<=65534/\e.kind≠0:=h1
   have h4:a < k.at_:=this.1.1
   exact ⟨⟨by omega,this.1.2⟩,this.2⟩
theorem rightOs_mem{list:Int}:∀ {os:List Op} {d:Int},ZF list os d=true->∀ o∈os,Zg list o d=true
 | [],_,_,_,ho=> by cases ho
 | a ::r,d,h,o,ho=> by
  simp only [ZF,Q1] at h
  rcases Qc.1 ho with rfl | ho
  ·exact h.1
  ·exact rightOs_mem h.2 o ho
theorem JX:∀ {ws:List WEdit} {last:Int},Yc last ws=true->∀ w∈ws,last < w.at_/\w.at_<=65534/\w.mask≠0/\Yu w.old w.mask=true/\Yu w.new w.mask=true
 | [],_,_,_,hw=> by cases hw
 | a ::r,last,h,w,hw=> by
  simp only [Yc,Q1,decide_eq_true_eq] at h
  obtain ⟨⟨⟨h1,h2⟩,h3⟩,h4⟩:=h
  rcases Qc.1 hw with rfl | hw
  ·exact ⟨h1.1,h1.2.1,h1.2.2,h2,h3⟩
  ·have:=JX h4 w hw
   exact ⟨by omega,this.2⟩
inductive RightOp (list:Int) (d:Int):Op->Prop
 | keep (n:Int):1<=n->n<=1048576->RightOp list d ⟨0,n,[],Edit.nil⟩
 | gone (l:List Tree):Y7 (dT d) list l=true->0 < l.length->RightOp list d ⟨1,0,l,Edit.nil⟩
 | come (l:List Tree):Y7 (dT d) list l=true->0 < l.length->RightOp list d ⟨2,0,l,Edit.nil⟩
 | into (e:Edit):Z8 e d=true->e.kind≠0->7 < list->(list=8\/e.kind=2\/e.kind=1/\e.old.kind=1/\e.new.kind=1)->RightOp list d ⟨3,0,[],e⟩
theorem Jl{list:Int}{o:Op}{d:Int}(h:Zg list o d=true):RightOp list d o:=by
 obtain ⟨k,n,l,e⟩:=o
 rw [Zg] at h
 split at h
 ·rename_i hk
  simp only [Q1,decide_eq_true_eq] at h
  obtain ⟨⟨h1,h2,h3⟩,h4⟩:=h
  rw [hk,Zg0 h4,Q3 h3]
  exact .keep n h1 h2
 ·rename_i h0
  split at h
  ·cases h
  ·rename_i h1
   have hn:n=0:=by omega
   subst hn
   split at h
   ·rename_i h2
    simp only [Q1,decide_eq_true_eq] at h
    obtain ⟨⟨h3,h4⟩,h5⟩:=h
    rw [Zg0 h5]
    by_cases hk:k=1
    ·rw [hk];exact .gone l h3 h4
    ·rw [show k=2 by omega];exact .come l h3 h4
   ·rename_i h2
    simp only [Q1,decide_eq_true_eq] at h
    obtain ⟨⟨⟨h3,h4,h5⟩,h6⟩,h7⟩:=h
    rw [show k=3 by omega,Q3 h3]
    exact .into e h6 h4 h5 h7
theorem J2{l d:Int}{o:Op}(h:Zg l o d=true)(hk:o.kind=3):Z8 o.e d=true:=by
 have r:=Jl h
 cases r with
 | into e h1=> exact h1
 | keep | gone | come=> exact absurd hk (by simp)
end Go.AM
namespace Go.AM.Ytpjenobkibfpcaa
open Go.AM Go.Proofs
theorem ZcC{α:Type}(z:α)(l:List α)(i:Nat)(x:α):(Jj z l i x).length=max l.length (i+1):=by
 simp only [Jj,K7,Q6,X5];omega
theorem ZfY{α:Type}(z:α)(l:List α)(i:Nat)(x:α)(j:Nat):(Jj z l i x).getD j z=if j=i then x else l.getD j z:=by
 simp only [Jj,Qm,XV,Q6,X5]
 by_cases h:j=i
 ·subst h;rw [if_pos rfl,if_pos rfl,if_pos (by omega)];try rfl
 ·rw [if_neg (fun e=> h e.symm),if_neg h]
  by_cases hl:j < l.length
  ·rw [Ql hl]
  ·rw [Qn (by omega),Qz (l:=l) (by omega),List.getElem?_replicate]
   split <;> rfl
theorem Zm7{a b c d:List Tree}(h:Z5 a=Z5 b)(hx:Z5 c=Z5 d):Z5 (a++c)=Z5 (b++d):=by
 rw [Z0x,Z0x,h,hx]
theorem Zdk{a b:List Tree}(h:Z5 a=Z5 b):a.length=b.length:=by
 have:=congrArg List.length h
 simpa [Z5] using this
def EqvL(x y:List Tree):Prop:=Z5 x=Z5 y
theorem EqvL.take{x y:List Tree}(h:EqvL x y)(n:Nat):EqvL (x.take n) (y.take n):=by unfold EqvL Z5 at*;rw [List.map_take,List.map_take,h]
theorem EqvL.drop{x y:List Tree}(h:EqvL x y)(n:Nat):EqvL (x.drop n) (y.drop n):=by unfold EqvL Z5 at*;rw [List.map_drop,List.map_drop,h]
theorem ZgU{α β:Type}{f:α->β}(d:α){a b:List α}(hl:a.length=b.length)(h:∀ i:Nat,i < a.length->f (a.getD i d)=f (b.getD i d)):a.map f=b.map f:=by
 apply Kl (by simpa using hl)
 intro i h1 h2
 have h1':i < a.length:=by simpa using h1
 have h2':i < b.length:=by simpa using h2
 have:=h i h1'
 simpa [Qm,Q0 h1',Q0 h2'] using this
theorem Zhb{α β:Type}{f:α->β}{d:α}{a b:List α}(h:a.map f=b.map f)(i:Nat):f (a.getD i d)=f (b.getD i d):=by
 have e:=congrArg (fun l=> l[i]?.getD (f d)) h
 simp only [Qj] at e
 rw [Qm,Qm]
 cases h1:a[i]? <;> cases h2:b[i]? <;> simp_all
theorem Z2M(t:Tree):(Z4 t).kind=t.kind:=by
 obtain ⟨k,w,ks⟩:=t
 simp only [Z4]
 by_cases h0:k=0
 ·rw [if_pos h0,h0];try rfl
 ·rw [if_neg h0]
  by_cases h1:k=1
  ·rw [if_pos h1,h1];try rfl
  ·rw [if_neg h1];try rfl
theorem Zay:∀ (l:List Int),∃ r,l=trim l++r
 | []=> ⟨[],rfl⟩
 | x ::r=> by
  obtain ⟨s,hs⟩:=Zay r
  simp only [trim]
  split
  ·rename_i e
   split
   ·exact ⟨x ::r,rfl⟩
   ·exact ⟨r,rfl⟩
  ·rename_i y t e
   rw [e] at hs
   exact ⟨s,by rw [hs];rfl⟩
theorem Z7S:∀ (l:List Tree),∃ r,l=ZX l++r
 | []=> ⟨[],rfl⟩
 | x ::r=> by
  obtain ⟨s,hs⟩:=Z7S r
  simp only [ZX]
  split
  ·rename_i e
   split
   ·exact ⟨x ::r,rfl⟩
   ·exact ⟨r,rfl⟩
  ·rename_i y t e
   rw [e] at hs
   exact ⟨s,by rw [hs];rfl⟩
theorem Zbf{list d:Int}:∀ (a b:List Tree),YM list (a++b) d=true->YM list a d=true
 | [],_,_=> rfl
 | t ::r,b,h=> by
  simp only [Qo,YM,Q1] at h ⊢
  exact ⟨h.1,Zbf r b h.2⟩
theorem Z17:∀ (l:List Tree),(ZY l).length=l.length
 | []=> rfl
 | t ::r=> by simp only [ZY,Q9,Z17 r]
theorem Zmq{list:Int}{t:Tree}(h:Zff list t=true):Zff list (Z4 t)=true:=by
 unfold Zff at h ⊢
 rw [Z2M]
 split at h
 ·rename_i hl
  rw [if_pos hl]
  simp only [Q1,decide_eq_true_eq] at h ⊢
  obtain ⟨⟨h1,h2,h3⟩,h4⟩:=h
  obtain ⟨k,w,ks⟩:=t
  simp only [Tree.kind_mk,Tree.kids_mk,Tree.words_mk] at h1 h2 h3 h4
  have:ks=[]:=QK.1 h2
  subst this
  subst h1
  exact ⟨⟨rfl,rfl,h3⟩,h4⟩
 ·rename_i hl
  rw [if_neg hl]
  exact h
mutual
theorem Z3V:∀ (t:Tree) (d:Int),Zu t d=true->Zu (Z4 t) d=true
 | .mk k w ks,d,h=> by
  have ih:=fun (list:Int) (h:YM list ks (d - 1)=true)=> Z3X ks list (d - 1) h
  simp only [Zu] at h
  simp only [Z4]
  by_cases h0:k=0
  ·rw [if_pos h0];simp [Tree.nil,Zu]
  ·rw [if_neg h0] at h ⊢
   by_cases h10:k=10
   ·subst h10
    rw [if_pos rfl] at h
    rw [if_neg (by decide)]
    simp only [decide_eq_true_eq] at h
    simp only [Zu]
    rw [if_neg (by decide),if_pos trivial,Z17]
    simpa using h
   ·rw [if_neg h10] at h
    by_cases hd:d=0
    ·rw [if_pos hd] at h;cases h
    ·rw [if_neg hd] at h
     by_cases h1:k=1
     ·subst h1
      rw [if_pos rfl] at h
      rw [if_pos rfl]
      simp only [Q1,decide_eq_true_eq] at h
      simp only [Zu]
      rw [if_neg (by decide),if_neg (by decide),if_neg hd,if_pos trivial]
      simp only [Q1,decide_eq_true_eq]
      obtain ⟨r1,e1⟩:=Zay w
      obtain ⟨r2,e2⟩:=Z7S (ZY ks)
      have l1:=congrArg List.length e1
      have l2:=congrArg List.length e2
      rw [Z17] at l2
      simp only [Q6] at l1 l2
      refine ⟨⟨by omega,by omega⟩,?_⟩
      have:=ih 1 h.2
      rw [e2] at this
      exact Zbf _ _ this
     ·rw [if_neg h1] at h ⊢
      simp only [Q1,decide_eq_true_eq] at h
      simp only [Zu]
      rw [if_neg h0,if_neg h10,if_neg hd,if_neg h1,Z17]
      simp only [Q1,decide_eq_true_eq]
      exact ⟨h.1,ih k h.2⟩
theorem Z3X:∀ (l:List Tree) (list d:Int),YM list l d=true->YM list (ZY l) d=true
 | [],_,_,_=> rfl
 | t ::r,list,d,h=> by
  simp only [YM,Q1] at h
  have h1:=Z3V t d h.1.2
  have h2:=Z3X r list d h.2
  simp only [ZY,YM,Q1]
  exact ⟨⟨Zmq h.1.1,h1⟩,h2⟩
end
theorem Z8u:∀ (a b:List Tree),Z6 (a++b)=Z6 a+Z6 b
 | [],b=> by simp [Z6]
 | t ::r,b=> by simp only [Qo,Z6,Z8u r b];omega
theorem JT:∀ (a b:List Op),Zd (a++b)=Zd a+Zd b
 | [],b=> by simp [Zd]
 | t ::r,b=> by simp only [Qo,Zd,JT r b];omega
theorem Z4c:∀ (l:List Tree),Z6 (Z5 l)<=Z6 l
 | []=> by simp [Z5,Z6]
 | t ::r=> by
  have h:=Z4c r
  have h2:=Jo t
  simp only [Z5] at h
  simp only [Z5,QV,Z6]
  omega
theorem Z4R:Z7 Edit.nil=3:=by simp [Edit.nil,Tree.nil,Z7,Zm,Z6,ZR,Zd]
theorem Z1n:Zm Tree.nil=1:=by simp [Tree.nil,Zm,Z6]
theorem Z4Q(t:Tree):1<=Zm t:=by cases t;simp only [Zm];omega
theorem Z9i:∀ (e:Edit),3<=Z7 e
 | .mk k o n w ks l os=> by
  have h1:=Z4Q o
  have h2:=Z4Q n
  simp only [Z7];omega
def Z41(w:Wst):Nat:=Zd w.out+w.out.length+Z6 w.gone+Z6 w.brought+(if w.gone.length=0 then 0 else 4)+(if w.brought.length=0 then 0 else 4)
theorem JS(o:Op):Zd [o]=Zv o:=by simp [Zd]
theorem Z1o(k n:Int)(l:List Tree)(e:Edit):Zv (OpOf.mk k n l e)=Z6 l+Z7 e:=rfl
theorem Z8g(w:Wst):Zd (Z0 w).out+(Z0 w).out.length=Z41 w:=by
 simp only [Z0,Jv,Z41]
 rw [JT,JT,Q6,Q6]
 by_cases hg:w.gone.length=0
 ·have e:w.gone=[]:=QK.1 hg
  rw [if_pos hg,if_pos hg,e]
  by_cases hb:w.brought.length=0
  ·have e2:w.brought=[]:=QK.1 hb
   rw [if_pos hb,if_pos hb,e2];simp [Zd,Z6]
  ·rw [if_neg hb,if_neg hb,JS,Z1o,Z4R];simp [Zd,Z6];omega
 ·rw [if_neg hg,if_neg hg,JS,Z1o,Z4R]
  by_cases hb:w.brought.length=0
  ·have e2:w.brought=[]:=QK.1 hb
   rw [if_pos hb,if_pos hb,e2];simp [Zd,Z6];omega
  ·rw [if_neg hb,if_neg hb,JS,Z1o,Z4R];simp;omega
theorem Zgs(w:Wst)(n:Int):Z41 (ZL w n)<=Z41 w+4:=by
 have h:=Z8g w
 have e:Z41 (ZL w n)=Zd (Yk (Z0 w).out n)+(Yk (Z0 w).out n).length:=by simp [Z41,ZL,Z6]
 rw [e]
 rcases J1 (Z0 w).out n with e | ⟨a,o,e1,_,e3⟩
 ·rw [e,JT,Q6,JS,Z1o,Z4R];simp [Z6];omega
 ·rw [e3,JT,Q6,JS]
  rw [e1,JT,Q6,JS] at h
  obtain ⟨k,m,l,e⟩:=o
  simp only [Z1o] at h ⊢
  simp at h ⊢
  omega
theorem ZuW{list:Int}{w:Wst}{o:Op}(hi:Z7 (Zo o.e)<=Z7 o.e):Z41 (JY list o w)<=Z41 w+Zv o+1:=by
 have h3:=Z9i o.e
 have hm:Zv o=Z6 o.l+Z7 o.e:=by cases o;rfl
 have hn:=Z4c o.l
 have hl:(Z5 o.l).length=o.l.length:=by simp [Z5]
 rw [YF]
 split
 ·have:=Zgs w o.n;omega
 ·split
  ·simp only [Z41,Z8u,Q6,hl]
   split <;> split <;> split <;> omega
  ·split
   ·simp only [Z41,Z8u,Q6,hl]
    split <;> split <;> split <;> omega
   ·split
    ·split
     ·have:=Zgs w 1;omega
     ·have:=Z8g w
      have e:Z41 ⟨(Z0 w).out++[⟨3,0,[],Zo o.e⟩],[],[]⟩=Zd ((Z0 w).out++[(⟨3,0,[],Zo o.e⟩:Op)])+((Z0 w).out++[(⟨3,0,[],Zo o.e⟩:Op)]).length:=by simp [Z41,Z6]
      rw [e,JT,Q6,JS,Z1o]
      simp [Z6];omega
    ·omega
mutual
theorem Z1p:∀ (e:Edit),Z7 (Zo e)<=Z7 e
 | .mk k o n w ks l os=> by
  have h1:=ZbY ks
  have h2:=ZjO l os W0
  have h3:=Z8g (Zn l os W0)
  have e0:Z41 W0=0:=rfl
  have po:=Z4Q o
  have pn:=Z4Q n
  have mo:=Jo o
  have mn:=Jo n
  rw [Zo]
  split
  ·simp only [Z7,ZR,Zd,Qb];omega
  ·split
   ·simp only [Z7,ZR,Zd,Qb,Z1n];omega
   ·split
    ·simp only [Z7,ZR,Qb,Z1n]
     show 1+1+1+0+(Z0 (Zn l os W0)).out.length+0+Zd (Z0 (Zn l os W0)).out<=_
     omega
    ·simp only [Z7,ZR,Zd,Qb,Z1n];omega
theorem ZbY:∀ (ks:List (KidOf Edit)),ZR (YW ks)<=ZR ks
 | []=> Qf _
 | k ::r=> by
  have h1:=ZgT k
  have h2:=ZbY r
  simp only [YW,ZR];omega
theorem ZgT:∀ (k:KidOf Edit),JB (Z0a k)<=JB k
 | ⟨a,e⟩=> by
  have h:=Z1p e
  simp only [Z0a,JB];exact h
theorem ZjO(list:Int):∀ (os:List (OpOf Edit)) (w:Wst),Z41 (Zn list os w)<=Z41 w+Zd os+os.length
 | [],w=> by simp [Zn,Zd]
 | o ::r,w=> by
  have h1:=ZlX list o w
  have h2:=ZjO list r (JY list o w)
  simp only [Zn,Zd,Q9];omega
theorem ZlX(list:Int):∀ (o:OpOf Edit) (w:Wst),Z41 (JY list o w)<=Z41 w+Zv o+1
 | ⟨k,n,l,e⟩,_=> ZuW (o:=⟨k,n,l,e⟩) (Z1p e)
end
end Go.AM.Ytpjenobkibfpcaa
