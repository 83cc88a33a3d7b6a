import Derived.Test.YtpjenobkibfpcaaKD24
import Derived.Test.YtpjenobkibfpcaaKRB07
import Derived.Test.YtpjenobkibfpcaaKD20
set_option linter.unusedSimpArgs false
set_option linter.unusedVariables false
namespace Go.AM.Ytpjenobkibfpcaa
open Go.AM Go.Proofs
noncomputable section
def Zjw:ArgL (Op × Unit):=(.cons (aEl .op) .nil)
def Z3q(a:Op × Unit):Prop:=Zs a.1<=20000000000/\0<=OpOf.n a.1/\OpOf.n a.1<=1048576
def Zmd(a:Op × Unit):V U:= .c (ci (Z1 a.1))
def Z1w:Fs U:=fs Zjw (fun a=> [Z3q a]) Zmd
def Zej:ArgM ((List Op × Int × Unit) × Unit):=(.obj 0 (.cons (cSl .op) (.cons (Zed .i64) .nil)) .nil)
def Z1Q(a:(List Op × Int × Unit) × Unit):Prop:=(a.1.1).length<=120000000000
def Zmc(a:(List Op × Int × Unit) × Unit):V U:= .c (.bool (decide ((a.1.1).length=0)))
def Zi2(a:(List Op × Int × Unit) × Unit):List (List (C U)):=[[sU .op a.1.1 .unk,ci a.1.2.1]]
def Z1v:Fs U:=fsX Zej (fun a=> [Z1Q a]) Zmc Zi2
def Zmf(a:(List Op × Int × Unit) × Unit):V U:= .c (.bool (sgl a.1.2.1 a.1.1))
def Z5z:Fs U:=fsX Zej (fun a=> [Z1Q a]) Zmf Zi2
def Zek:ArgM ((List Op × Int × Unit) × Int × Unit):=(.obj 0 (.cons (cSl .op) (.cons (Zed .i64) .nil)) (.cons (Jv .i64) .nil))
def Z56(a:(List Op × Int × Unit) × Int × Unit):Prop:=Z7w a.1.1/\(a.1.1).length≠0/\1<=a.2.1/\a.2.1<=120000000000
def Zap(a:(List Op × Int × Unit) × Int × Unit):V U:= .agg (enc .op (Zp ((a.1.1).getD 0 Op.nil) a.2.1))
def Z5T(a:(List Op × Int × Unit) × Int × Unit):List (List (C U)):=[[sU .op (Zu a.1.1 a.2.1) .unk,ci a.1.2.1]]
def Z5y:Fs U:=fsX Zek (fun a=> [Z56 a]) Zap Z5T
def Zen:ArgM ((List Op × Int × Unit) × (List Op × Int × Unit) × Unit):=(.obj 0 (.cons (cSl .op) (.cons (Zed .i64) .nil)) (.obj 1 (.cons (cSl .op) (.cons (Zed .i64) .nil)) .nil))
def ZdB(a:(List Op × Int × Unit) × (List Op × Int × Unit) × Unit):Prop:=Z7w a.1.1/\Z7w a.2.1.1
def Zdh(a:(List Op × Int × Unit) × (List Op × Int × Unit) × Unit):V U:= .tup [(false,[sU .piece ((ZG a.1.2.1 a.2.1.2.1 a.1.1 a.2.1.1 []).1) .unk]),(false,[.bool ((ZG a.1.2.1 a.2.1.2.1 a.1.1 a.2.1.1 []).2.1)])]
def Z9f(a:(List Op × Int × Unit) × (List Op × Int × Unit) × Unit):List (List (C U)):=[[sU .op ((ZG a.1.2.1 a.2.1.2.1 a.1.1 a.2.1.1 []).2.2.1) .unk,ci a.1.2.1],[sU .op ((ZG a.1.2.1 a.2.1.2.1 a.1.1 a.2.1.1 []).2.2.2) .unk,ci a.2.1.2.1]]
def Z3W:Fs U:=fsX Zen (fun a=> [ZdB a]) Zdh Z9f
def ZjF:ArgL (List Op × List Op × Unit):=(.cons (aSl .op) (.cons (aSl .op) .nil))
def ZgJ(a:List Op × List Op × Unit):Prop:=Z7w a.1/\Z7w a.2.1
def Zmi(a:List Op × List Op × Unit):V U:= .tup [(false,[sU .piece ((ZG 2 2 a.1 a.2.1 []).1) .unk]),(false,[.bool ((ZG 2 2 a.1 a.2.1 []).2.1)])]
def Z94:Fs U:=fs ZjF (fun a=> [ZgJ a]) Zmi
def Zox:ArgL (List Tree × List Tree × Unit):=(.cons (aSl .tree) (.cons (aSl .tree) .nil))
def Zfb(a:List Tree × List Tree × Unit):Prop:=Z4 a.1<=20000000000
def ZrR(a:List Tree × List Tree × Unit):V U:= .c (.bool (eqX a.1 a.2.1))
def Za5:Fs U:=fs Zox (fun a=> [Zfb a]) ZrR
def ZhE:ArgL (Edit × Edit × Unit):=(.cons (aEl .edit) (.cons (aEl .edit) .nil))
def Z31(a:Edit × Edit × Unit):Prop:=Z5 a.1<=20000000000
def Zfy(a:Edit × Edit × Unit):Nat:=Z5 a.1
def Zme(a:Edit × Edit × Unit):V U:= .c (.bool (eqX a.1 a.2.1))
def Zab:Fs U:=fs ZhE (fun a=> [Z31 a]) Zme
def Zn8:Ze U:=lvl [([1],[1]),([1,5],[1]),([2],[]),([2],[])]
abbrev Zxl(p:List Nat):=AW (Z2 Zhc) Try.f190 Zn8 p
theorem Zve(o:Op)(Q:QT)(h:(((o.kind==3)=true->(Q .ret (L2 [pI 2 1] [])))/\((o.kind==3)=false->(InR (o.n+(o.l.length:Int)))/\(Q .ret (L2 [pI 2 (o.n+(o.l.length:Int))] []))))):
  Zxl [] (L2 [(0,.agg (enc .op o))] []) Q:=
 Eq.mpr (by kernel_rfl) h
def Zr1(o:Op):Prop:=AW (Z2 Zhc) Try.f190 Zn8 [] (Zk (Zjw.can (o,())) []) (EQ Try.f190 (Zmd (o,())) [])
theorem ZpL(hb:∀ (o:Op) (_:Unit),Z3q (o,())->Zr1 o):CT 190 Z1w:=
 Z3 (l:=[]) Zl rfl trivial Zn8 Try.func190 rfl rfl 1 (fun _=> rfl) (by decide) (fun ⟨o,_⟩=> hb o ())
def Zn7:Ze U:=fun i=> match i with
 | 0=> ([(0,[])],[(.x 0,[])])
 | 1=> ([(2,[])],[(.x 0,[])])
 | _=> ([],[])
abbrev Zxk(p:List Nat):=AW (Z2 Zhc) Try.f191 Zn7 p
theorem Zvd(l:List Op)(alone:Int)(Q:QT)(h:(Q .ret (L2 [pB 2 (((l.length:Int):Int)==0)] [(.x 0,[sU .op l .unk,ci alone])]))):
  Zxk [] (L2 [(0,.ptr (.x 0) 0)] [(.x 0,[sU .op l .unk,ci alone])]) Q:=
 Eq.mpr (by kernel_rfl) h
def Zr0(l:List Op)(alone:Int):Prop:=AW (Z2 Zhc) Try.f191 Zn7 [] (Zk (Zej.can ((l,alone,()),())) (Zej.canX ((l,alone,()),()))) (EQ Try.f191 (Zmc ((l,alone,()),())) (Zi2 ((l,alone,()),())))
theorem ZpK(hb:∀ (l:List Op) (alone:Int) (_:Unit),Z1Q ((l,alone,()),())->Zr0 l alone):CT 191 Z1v:=
 Y5 (l:=[]) Zl rfl trivial Zn7 Try.func191 rfl rfl 1 (fun _=> rfl) (by decide) (fun ⟨⟨l,alone,_⟩,_⟩=> hb l alone ())
def ZiS:List (FuncId × Fs U):=[(191,Z1v)]
def Zna:Ze U:=fun i=> match i with
 | 0=> ([(0,[])],[(.x 0,[])])
 | 1=> ([(2,[])],[(.x 0,[])])
 | _=> ([],[])
abbrev Zxn(p:List Nat):=AW (Z2 ZiS) Try.f188 Zna p
theorem Zvg(l:List Op)(alone:Int)(Q:QT)(h:let z0:= !(decide (l.length=0));((Z1Q ((l,alone,()),()))/\(Tr (z0=true))/\(Tr (z0=true))/\(Tr (z0=true))/\(Tr (z0=true))/\(z0=true->(0:Int)<=0/\0 < (l.length:Int))/\(Tr (z0=true))/\(Tr (z0=true))/\(Tr (z0=true))/\(Tr (z0=true))/\(Tr (z0=true))/\(Tr (z0=true))/\(Tr (z0=true))/\(Tr (z0=true))/\(Q .ret (L2 [(2,.c (.bool (bif z0 then (((OpOf.kind (List.getD l (Int.toNat 0) Op.nil)):Int)==alone) else false)))] [(.x 0,[sU .op l .unk,ci alone])])))):
  Zxn [] (L2 [(0,.ptr (.x 0) 0)] [(.x 0,[sU .op l .unk,ci alone])]) Q:=
 Eq.mpr (by kernel_rfl) h
def Zr3(l:List Op)(alone:Int):Prop:=AW (Z2 ZiS) Try.f188 Zna [] (Zk (Zej.can ((l,alone,()),())) (Zej.canX ((l,alone,()),()))) (EQ Try.f188 (Zmf ((l,alone,()),())) (Zi2 ((l,alone,()),())))
theorem ZpN(Zl8:CT 191 Z1v)(hb:∀ (l:List Op) (alone:Int) (_:Unit),Z1Q ((l,alone,()),())->Zr3 l alone):CT 188 Z5z:=
 Y5 (l:=[(191,Z1v)]) Zl rfl (⟨Zl8,trivial⟩) Zna Try.func188 rfl rfl 1 (fun _=> rfl) (by decide) (fun ⟨⟨l,alone,_⟩,_⟩=> hb l alone ())
def ZiR:List (FuncId × Fs U):=[(190,Z1w)]
def Zn9:Ze U:=fun i=> match i with
 | 0=> ([(0,[]),(1,[]),(4,[])],[(.loc 4,[]),(.x 0,[])])
 | 1=> ([(0,[]),(1,[]),(4,[]),(5,[])],[(.loc 4,[]),(.loc 5,[]),(.x 0,[])])
 | 2=> ([(0,[]),(1,[]),(4,[]),(5,[]),(17,[])],[(.loc 4,[]),(.loc 5,[]),(.x 0,[])])
 | 3=> ([(4,[]),(5,[])],[(.loc 4,[]),(.loc 5,[]),(.x 0,[])])
 | 4=> ([(4,[])],[(.loc 4,[]),(.x 0,[])])
 | 5=> ([(0,[]),(1,[]),(4,[]),(5,[]),(6,[]),(7,[])],[(.loc 4,[]),(.loc 5,[]),(.loc 6,[]),(.loc 7,[]),(.x 0,[])])
 | 6=> ([(0,[]),(1,[]),(4,[]),(5,[]),(6,[]),(7,[]),(31,[])],[(.loc 4,[]),(.loc 5,[]),(.loc 6,[]),(.loc 7,[]),(.x 0,[])])
 | 7=> ([(0,[]),(4,[]),(6,[]),(7,[])],[(.loc 4,[]),(.loc 6,[]),(.loc 7,[]),(.x 0,[])])
 | 8=> ([(0,[]),(4,[]),(6,[]),(7,[])],[(.loc 4,[]),(.loc 6,[]),(.loc 7,[]),(.x 0,[])])
 | 9=> ([(4,[]),(6,[])],[(.loc 4,[]),(.loc 6,[]),(.x 0,[])])
 | 10=> ([(4,[])],[(.loc 4,[]),(.x 0,[])])
 | _=> ([],[])
abbrev Zxm(p:List Nat):=AW (Z2 ZiR) Try.f189 Zn9 p
theorem Zvf(l:List Op)(alone n:Int)(Q:QT)(h:∀ y_1,y_1=(List.getD l (Int.toNat 0) Op.nil)->∀ y_2,y_2=y_1->∀ y_3,y_3=(y_1.e)->let z1:=decide (((Z1 y_2):Int)<=n);let z0:=List.drop (Int.toNat 1) l;(((0:Int)<=0/\0 < (l.length:Int))/\((Z3q (y_2,()))/\((z1=true->((0:Int)<=1/\1<=(l.length:Int))/\(Q .ret (L2 [pL 4] [(.loc 4,(enc .op y_1)),(.x 0,[sU .op z0 .unk,ci alone])])))/\(z1=false->(((y_1.kind==0)=true->(InR (y_1.n - n))/\(((0:Int)<=1/\1<=(l.length:Int))/\((([(OpOf.mk y_1.kind (y_1.n - n) y_1.l y_3)]).length+z0.length)*240<=140737488355328)/\(Q .ret (L2 [pL 4] [(.loc 4,([ci y_1.kind,ci n,sU .tree y_1.l .unk]++enc .edit y_1.e)),(.x 0,[sU .op (([(OpOf.mk y_1.kind (y_1.n - n) y_1.l y_3)])++z0) (.own (.x 0 0)),ci alone])]))))/\((y_1.kind==0)=false->((0:Int)<=n/\n<=(y_1.l.length:Int))/\(n=n)/\((0:Int)<=n/\n<=(y_1.l.length:Int))/\(((0:Int)<=1/\1<=(l.length:Int))/\((([(OpOf.mk y_1.kind y_1.n (List.drop n.toNat y_1.l) y_3)]).length+z0.length)*240<=140737488355328)/\(Q .ret (L2 [pL 4] [(.loc 4,([ci y_1.kind,ci y_1.n,sU .tree (List.take n.toNat y_1.l) .full]++enc .edit y_1.e)),(.x 0,[sU .op (([(OpOf.mk y_1.kind y_1.n (List.drop n.toNat y_1.l) y_3)])++z0) (.own (.x 0 0)),ci alone])])))))))))):
  Zxm [] (L2 [(0,.ptr (.x 0) 0),pI 1 n] [(.x 0,[sU .op l .unk,ci alone])]) Q:=
 Eq.mpr (by kernel_rfl) (h _ rfl _ (Yk _) _ (Z8 _))
def Zr2(l:List Op)(alone n:Int):Prop:=AW (Z2 ZiR) Try.f189 Zn9 [] (Zk (Zek.can ((l,alone,()),n,())) (Zek.canX ((l,alone,()),n,()))) (EQ Try.f189 (Zap ((l,alone,()),n,())) (Z5T ((l,alone,()),n,())))
theorem ZpM(Zl9:CT 190 Z1w)(hb:∀ (l:List Op) (alone:Int) (n:Int) (_:Unit),Z56 ((l,alone,()),n,())->Zr2 l alone n):CT 189 Z5y:=
 Y5 (l:=[(190,Z1w)]) Zl rfl (⟨Zl9,trivial⟩) Zn9 Try.func189 rfl rfl 2 (fun _=> rfl) (by decide) (fun ⟨⟨l,alone,_⟩,n,_⟩=> hb l alone n ())
def Zj1:List (FuncId × Fs U):=[(188,Z5z),(189,Z5y),(190,Z1w),(191,Z1v)]
def Znj:Ze U:=fun i=> match i with
 | 0=> ([(0,[]),(1,[])],[(.x 0,[]),(.x 1,[])])
 | 1=> ([(0,[]),(1,[]),(6,[.own .piece])],[(.x 0,[]),(.x 1,[])])
 | 2=> ([(0,[]),(1,[]),(6,[]),(7,[])],[(.x 0,[]),(.x 1,[])])
 | 3=> ([(0,[]),(1,[]),(6,[.own .piece])],[(.x 0,[]),(.x 1,[])])
 | 4=> ([(0,[]),(1,[]),(6,[]),(33,[])],[(.x 0,[]),(.x 1,[])])
 | 5=> ([(0,[]),(1,[]),(6,[.own .piece])],[(.x 0,[]),(.x 1,[])])
 | 6=> ([(0,[]),(1,[]),(6,[]),(49,[])],[(.x 0,[]),(.x 1,[])])
 | 7=> ([(0,[]),(1,[]),(6,[.own .piece])],[(.x 0,[]),(.x 1,[])])
 | 8=> ([(0,[]),(1,[]),(6,[]),(65,[])],[(.x 0,[]),(.x 1,[])])
 | 9=> ([(6,[]),(76,[])],[(.x 0,[]),(.x 1,[])])
 | 10=> ([(4,[]),(5,[])],[(.x 0,[]),(.x 1,[])])
 | 11=> ([(4,[]),(5,[])],[(.x 0,[]),(.x 1,[])])
 | _=> ([],[])
def Z12(pl:List Op)(pa:Int)(ql:List Op)(qa:Int)(mx0_0 mx1_0:List Op)(mx1_1:Int)(x6:List Piece):LSt U:=(L2 [(0,.ptr (.x 0) 0),(1,.ptr (.x 1) 0),(6,.c (sU .piece x6 (.own (.e 6 0))))] [(.x 0,[sU .op mx0_0 .unk,ci pa]),(.x 1,[sU .op mx1_0 .unk,ci mx1_1])])
abbrev Zv3(p:List Nat):=AW (Z2 Zj1) Try.f169 Znj p
theorem Zvr(pl:List Op)(pa:Int)(ql:List Op)(qa:Int)(Q:QT)(h:(Zm (Zv3 [1,1,0,0]) (Z12 pl pa ql qa pl ql qa []) (xB 0 Q))):
  Zv3 [] (L2 [(0,.ptr (.x 0) 0),(1,.ptr (.x 1) 0)] [(.x 0,[sU .op pl .unk,ci pa]),(.x 1,[sU .op ql .unk,ci qa])]) Q:=
 Eq.mpr (by kernel_rfl) h
theorem ZlB(pl:List Op)(pa:Int)(ql:List Op)(qa:Int)(mx0_0 mx1_0:List Op)(mx1_1:Int)(x6:List Piece)(N0:NT)(Q:QT)(h:∀ y_1,y_1=(List.getD mx0_0 (Int.toNat 0) Op.nil)->∀ y_2,y_2=(List.getD mx1_0 (Int.toNat 0) Op.nil)->∀ y_3,y_3=(Edit.mk 0 (Tree.mk 0 [] []) (Tree.mk 0 [] []) [] [] 0 [])->∀ y_4,y_4=(List.getD (bif (!(decide (mx0_0.length=0))) then mx1_0 else mx1_0) (Int.toNat 0) Op.nil)->∀ y_5,y_5=y_1->∀ y_6,y_6=y_2->∀ y_7,y_7=y_4->∀ y_8,y_8=(Zp (mx0_0.getD 0 Op.nil) (Z1 y_5))->∀ y_9,y_9=(Zp (mx1_0.getD 0 Op.nil) (Z1 y_6))->∀ y_10,y_10=(Zp (mx0_0.getD 0 Op.nil) (if ((Z1 y_7):Int) < (Z1 y_5) then (Z1 y_7) else (Z1 y_5)))->∀ y_11,y_11=(Zp ((bif (!(decide (mx0_0.length=0))) then mx1_0 else mx1_0).getD 0 Op.nil) (if ((Z1 y_7):Int) < (Z1 y_5) then (Z1 y_7) else (Z1 y_5)))->let z7:=Z1Q ((mx0_0,pa,()),());let z5:=Piece.mk 2 (OpOf.mk 0 0 [] y_3) y_9;let z4:=Piece.mk 1 y_8 (OpOf.mk 0 0 [] y_3);let z0:=decide (mx0_0.length=0);let z3:=bif z0 then true else (decide (mx1_0.length=0));let z2:=bif (!z0) then mx1_1 else mx1_1;let z1:=bif (!z0) then mx1_0 else mx1_0;let z6:=z0 !=(decide (z1.length=0));(Z1Q ((mx0_0,pa,()),()))/\(((sgl pa mx0_0)=true->((0:Int)<=0/\0 < (mx0_0.length:Int))/\(Z3q (y_5,()))/\(Z56 ((mx0_0,pa,()),(Z1 y_5),()))/\((x6.length+([z4]).length)*488<=140737488355328)/\(N0 (Z12 pl pa ql qa (Zu mx0_0 (Z1 y_5)) mx1_0 mx1_1 (x6++([z4])))))/\((sgl pa mx0_0)=false->(Z1Q ((mx1_0,mx1_1,()),()))/\(((sgl mx1_1 mx1_0)=true->((0:Int)<=0/\0 < (mx1_0.length:Int))/\(Z3q (y_6,()))/\(Z56 ((mx1_0,mx1_1,()),(Z1 y_6),()))/\((x6.length+([z5]).length)*488<=140737488355328)/\(N0 (Z12 pl pa ql qa mx0_0 (Zu mx1_0 (Z1 y_6)) mx1_1 (x6++([z5])))))/\((sgl mx1_1 mx1_0)=false->z7/\(Tr ((!z0)=true))/\((!z0)=true->Z1Q ((mx1_0,mx1_1,()),()))/\(z0=false->(!z0)=true)/\((z3=true->z7/\(Z1Q ((z1,z2,()),()))/\((z6=true->(Q .ret (L2 [(4,.c (.nils)),pB 5 false] [(.x 0,[sU .op mx0_0 .unk,ci pa]),(.x 1,[sU .op z1 .unk,ci z2])])))/\(z6=false->(Q .ret (L2 [(4,.c (sU .piece x6 (.own (.e 4 0)))),pB 5 true] [(.x 0,[sU .op mx0_0 .unk,ci pa]),(.x 1,[sU .op z1 .unk,ci z2])])))))/\(z3=false->((0:Int)<=0/\0 < (mx0_0.length:Int))/\(Z3q (y_5,()))/\((0:Int)<=0/\0 < (z1.length:Int))/\(Z3q (y_7,()))/\((Z56 ((mx0_0,pa,()),(if ((Z1 y_7):Int) < (Z1 y_5) then (Z1 y_7) else (Z1 y_5)),()))/\(Z56 ((z1,z2,()),(if ((Z1 y_7):Int) < (Z1 y_5) then (Z1 y_7) else (Z1 y_5)),()))/\((x6.length+([(Piece.mk 0 y_10 y_11)]).length)*488<=140737488355328)/\(N0 (Z12 pl pa ql qa (Zu mx0_0 (if ((Z1 y_7):Int) < (Z1 y_5) then (Z1 y_7) else (Z1 y_5))) (Zu z1 (if ((Z1 y_7):Int) < (Z1 y_5) then (Z1 y_7) else (Z1 y_5))) z2 (x6++([(Piece.mk 0 y_10 y_11)])))))))))))):
  Zv3 [1,1,0,0] (Z12 pl pa ql qa mx0_0 mx1_0 mx1_1 x6) (xT N0 (xB 0 Q)):=
 Eq.mpr (by kernel_rfl) (h _ rfl _ rfl _ rfl _ rfl _ (Yk _) _ (Yk _) _ (Yk _) _ (Yk _) _ (Yk _) _ (Yk _) _ (Yk _))
def Zre(pl:List Op)(pa:Int)(ql:List Op)(qa:Int):Prop:=AW (Z2 Zj1) Try.f169 Znj [] (Zk (Zen.can ((pl,pa,()),(ql,qa,()),())) (Zen.canX ((pl,pa,()),(ql,qa,()),()))) (EQ Try.f169 (Zdh ((pl,pa,()),(ql,qa,()),())) (Z9f ((pl,pa,()),(ql,qa,()),())))
theorem ZpY(ZtP:CT 188 Z5z)(ZtO:CT 189 Z5y)(Zl9:CT 190 Z1w)(Zl8:CT 191 Z1v)(hb:∀ (pl:List Op) (pa:Int) (ql:List Op) (qa:Int) (_:Unit),ZdB ((pl,pa,()),(ql,qa,()),())->Zre pl pa ql qa):CT 169 Z3W:=
 Y5 (l:=[(188,Z5z),(189,Z5y),(190,Z1w),(191,Z1v)]) Zl rfl (⟨ZtP,ZtO,Zl9,Zl8,trivial⟩) Znj Try.func169 rfl rfl 2 (fun _=> rfl) (by decide) (fun ⟨⟨pl,pa,_⟩,⟨ql,qa,_⟩,_⟩=> hb pl pa ql qa ())
def Zj5:List (FuncId × Fs U):=[(169,Z3W)]
def Znn:Ze U:=lvl [([0,1],[]),([4,5],[])]
abbrev Zxz(p:List Nat):=AW (Z2 Zj5) Try.f158 Znn p
theorem Zvv(p q:List Op)(Q:QT)(h:((ZdB ((p,2,()),(q,2,()),()))/\(Q .ret (L2 [(4,.c (sU .piece ((ZG 2 2 p q []).1) .unk)),pB 5 ((ZG 2 2 p q []).2.1)] [])))):
  Zxz [] (L2 [(0,.c (sU .op p .unk)),(1,.c (sU .op q .unk))] []) Q:=
 Eq.mpr (by kernel_rfl) h
def Zri(p q:List Op):Prop:=AW (Z2 Zj5) Try.f158 Znn [] (Zk (ZjF.can (p,q,())) []) (EQ Try.f158 (Zmi (p,q,())) [])
theorem Zq1(Zof:CT 169 Z3W)(hb:∀ (p:List Op) (q:List Op) (_:Unit),ZgJ (p,q,())->Zri p q):CT 158 Z94:=
 Z3 (l:=[(169,Z3W)]) Zl rfl (⟨Zof,trivial⟩) Znn Try.func158 rfl rfl 2 (fun _=> rfl) (by decide) (fun ⟨p,q,_⟩=> hb p q ())
def Zhj:List (FuncId × Fs U):=[(29,Z3d)]
def Zqw:Ze U:=lvl [([0,1],[]),([0,1,10],[]),([4],[]),([0,1,5],[]),([0,1,5,14],[]),([0,1,5],[]),([0,1,5,26],[]),([4],[]),([4],[])]
def Z6F(a b:List Tree)(x5:Int):LSt U:=(L2 [(0,.c (sU .tree a .unk)),(1,.c (sU .tree b .unk)),pI 5 x5] [])
abbrev A59(p:List Nat):=AW (Z2 Zhj) Try.f59 Zqw p
abbrev S59(p:List Nat):=SW (Z2 Zhj) Try.f59 Zqw p
theorem Zx2(a b:List Tree)(Q:QT)(h:let z0:=((a.length:Int):Int) !=(b.length:Int);((z0=true->(Q .ret (L2 [pB 4 false] [])))/\(z0=false->(Zm (A59 [1,1,0,1,0,0]) (Z6F a b 0) (xB 0 (S59 [1,1,1] Q)))))):
  A59 [] (L2 [(0,.c (sU .tree a .unk)),(1,.c (sU .tree b .unk))] []) Q:=
 Eq.mpr (by kernel_rfl) h
theorem Zpd(a b:List Tree)(x5:Int)(N0:NT)(Q:QT)(h:let z5:=decide (x5 < (a.length:Int));let z4:=a.getD x5.toNat Tree.nil;let z3:=b.getD x5.toNat Tree.nil;let z2:=Tree.mk (Tree.kind z3) (Tree.words z3) (Tree.kids z3);let z1:=Tree.mk (Tree.kind z4) (Tree.words z4) (Tree.kids z4);let z0:= !(Y3 z1 z2);((z5=true->((0:Int)<=x5/\x5 < (a.length:Int))/\((0:Int)<=x5/\x5 < (b.length:Int))/\(Z30 (z1,z2,()))/\((z0=true->(Q .ret (L2 [pB 4 false] [])))/\(z0=false->(InR (x5+1))/\(N0 (Z6F a b (x5+1))))))/\(z5=false->(Q .ret (L2 [pB 4 true] []))))):
  A59 [1,1,0,1,0,0] (Z6F a b x5) (xT N0 (xB 0 (S59 [1,1,1] Q))):=
 Eq.mpr (by kernel_rfl) h
def ZuM(a b:List Tree):Prop:=AW (Z2 Zhj) Try.f59 Zqw [] (Zk (Zox.can (a,b,())) []) (EQ Try.f59 (ZrR (a,b,())) [])
theorem Ztg(c29:CT 29 Z3d)(hb:∀ (a:List Tree) (b:List Tree) (_:Unit),Zfb (a,b,())->ZuM a b):CT 59 Za5:=
 Z3 (l:=[(29,Z3d)]) Zl rfl (⟨c29,trivial⟩) Zqw Try.func59 rfl rfl 2 (fun _=> rfl) (by decide) (fun ⟨a,b,_⟩=> hb a b ())
def Zho(N:Nat):List (FuncId × Fs U):=(19,fs ZhE (fun a=> [Z31 a,Zfy a < N]) Zme) ::[(29,Z3d),(59,Za5)]
def ZqB:Ze U:=lvl [([2,3],[2,3]),([2,3,64],[2,3]),([4],[]),([2,3,5],[2,3]),([2,3,5,69],[2,3]),([2,3,5],[2,3]),([2,3,5,82],[2,3]),([4],[]),([2,3,6],[2,3]),([2,3,6,87],[2,3]),([2,3,6],[2,3]),([2,3,6,118],[2,3]),([4],[]),([2,3,7],[2,3]),([2,3,7,123],[2,3]),([2,3,7],[2,3]),([2,3,7,8,9],[2,3,8,9]),([2,3,7,163],[2,3]),([4],[]),([4],[])]
def Z6P(a b:Edit)(x5:Int):LSt U:=(L2 [pL 2,pL 3,pI 5 x5] [(.loc 2,(enc .edit a)),(.loc 3,(enc .edit b))])
def Z6O(a b:Edit)(x6_a:Int):LSt U:=(L2 [pL 2,pL 3,pI 6 x6_a] [(.loc 2,(enc .edit a)),(.loc 3,(enc .edit b))])
def Z6N(a b:Edit)(x7_b:Int):LSt U:=(L2 [pL 2,pL 3,pI 7 x7_b] [(.loc 2,(enc .edit a)),(.loc 3,(enc .edit b))])
abbrev A19(N:Nat)(p:List Nat):=AW (Z2 (Zho N)) Try.f19 ZqB p
abbrev S19(N:Nat)(p:List Nat):=SW (Z2 (Zho N)) Try.f19 ZqB p
theorem Zxc(N:Nat)(a b:Edit)(Q:QT)(h:∀ y_1,y_1=(a.new)->∀ y_2,y_2=(b.new)->∀ y_3,y_3=(a.old)->∀ y_4,y_4=(b.old)->let z5:=a.kind !=b.kind;let z3:=bif z5 then true else (a.list !=b.list);let z1:=bif z3 then true else (!(Y3 y_3 y_4));let z4:=bif z1 then true else (!(Y3 y_1 y_2));let z0:=bif z4 then true else (((a.words.length:Int):Int) !=(b.words.length:Int));let z2:=bif z0 then true else (((a.kids.length:Int):Int) !=(b.kids.length:Int));let z6:=bif z2 then true else (((a.ops.length:Int):Int) !=(b.ops.length:Int));((Tr ((!z5)=true))/\(Tr ((!z5)=true))/\(Tr ((!z5)=true))/\(Tr ((!z5)=true))/\(z5=false->(!z5)=true)/\(Tr ((!z3)=true))/\(Tr ((!z3)=true))/\(Tr ((!z3)=true))/\(Tr ((!z3)=true))/\((!z3)=true->Z30 (y_3,y_4,()))/\(Tr ((!z3)=true))/\(z3=false->(!z3)=true)/\(Tr ((!z1)=true))/\(Tr ((!z1)=true))/\(Tr ((!z1)=true))/\(Tr ((!z1)=true))/\((!z1)=true->Z30 (y_1,y_2,()))/\(Tr ((!z1)=true))/\(z1=false->(!z1)=true)/\(Tr ((!z4)=true))/\(Tr ((!z4)=true))/\(Tr ((!z4)=true))/\(Tr ((!z4)=true))/\(Tr ((!z4)=true))/\(Tr ((!z4)=true))/\(z4=false->(!z4)=true)/\(Tr ((!z0)=true))/\(Tr ((!z0)=true))/\(Tr ((!z0)=true))/\(Tr ((!z0)=true))/\(Tr ((!z0)=true))/\(Tr ((!z0)=true))/\(z0=false->(!z0)=true)/\(Tr ((!z2)=true))/\(Tr ((!z2)=true))/\(Tr ((!z2)=true))/\(Tr ((!z2)=true))/\(Tr ((!z2)=true))/\(Tr ((!z2)=true))/\(z2=false->(!z2)=true)/\((z6=true->(Q .ret (L2 [pB 4 false] [])))/\(z6=false->(Zm (A19 N [1,1,0,1,0,0]) (Z6P a b 0) (xB 0 (S19 N [1,1,1] Q))))))):
  A19 N [] (L2 [(0,.agg (enc .edit a)),(1,.agg (enc .edit b))] []) Q:=
 Eq.mpr (by kernel_rfl) (h _ (Zd _) _ (Zd _) _ (Zd _) _ (Zd _))
theorem Zpo(N:Nat)(a b:Edit)(x5:Int)(N0:NT)(Q:QT)(h:let z3:=decide (x5 < (a.words.length:Int));let z2:=b.words.getD x5.toNat (WEdit.mk 0 0 0 0);let z1:=a.words.getD x5.toNat (WEdit.mk 0 0 0 0);let z0:= !((((WEdit.at_ z1):Int)==(WEdit.at_ z2)) && ((((WEdit.mask z1):Int)==(WEdit.mask z2)) && ((((WEdit.old z1):Int)==(WEdit.old z2)) && ((((WEdit.new z1):Int)==(WEdit.new z2)) && true))));((z3=true->((0:Int)<=x5/\x5 < (a.words.length:Int))/\((0:Int)<=x5/\x5 < (b.words.length:Int))/\((z0=true->(Q .ret (L2 [pB 4 false] [])))/\(z0=false->(InR (x5+1))/\(N0 (Z6P a b (x5+1))))))/\(z3=false->(Zm (A19 N [1,1,1,0,1,0,0]) (Z6O a b 0) (xB 2 (S19 N [1,1,1,1] Q)))))):
  A19 N [1,1,0,1,0,0] (Z6P a b x5) (xT N0 (xB 0 (S19 N [1,1,1] Q))):=
 Eq.mpr (by kernel_rfl) h
theorem Zpn(N:Nat)(a b:Edit)(x6_a:Int)(N1:NT)(Q:QT)(h:∀ y_1,y_1=(a.kids.getD x6_a.toNat (KidOf.mk 0 Edit.nil))->∀ y_2,y_2=(b.kids.getD x6_a.toNat (KidOf.mk 0 Edit.nil))->∀ y_3,y_3=(y_1.e)->∀ y_4,y_4=(y_2.e)->let z2:=decide (x6_a < (a.kids.length:Int));let z0:=y_1.at_ !=y_2.at_;let z1:=bif z0 then true else (!(eqX y_3 y_4));((z2=true->((0:Int)<=x6_a/\x6_a < (a.kids.length:Int))/\((0:Int)<=x6_a/\x6_a < (b.kids.length:Int))/\(Tr ((!z0)=true))/\(Tr ((!z0)=true))/\(Tr ((!z0)=true))/\((!z0)=true->(0:Int)<=x6_a/\x6_a < (a.kids.length:Int))/\(Tr ((!z0)=true))/\(Tr ((!z0)=true))/\(Tr ((!z0)=true))/\(Tr ((!z0)=true))/\(Tr ((!z0)=true))/\((!z0)=true->(0:Int)<=x6_a/\x6_a < (b.kids.length:Int))/\(Tr ((!z0)=true))/\(Tr ((!z0)=true))/\(Tr ((!z0)=true))/\(Tr ((!z0)=true))/\((!z0)=true->Z31 (y_3,y_4,()))/\((!z0)=true->Zfy (y_3,y_4,()) < N)/\(Tr ((!z0)=true))/\(z0=false->(!z0)=true)/\((z1=true->(Q .ret (L2 [pB 4 false] [])))/\(z1=false->(InR (x6_a+1))/\(N1 (Z6O a b (x6_a+1))))))/\(z2=false->(Zm (A19 N [1,1,1,1,0,1,0,0]) (Z6N a b 0) (xB 4 (S19 N [1,1,1,1,1] Q)))))):
  A19 N [1,1,1,0,1,0,0] (Z6O a b x6_a) (xT N1 (xB 2 (S19 N [1,1,1,1] Q))):=
 Eq.mpr (by kernel_rfl) (h _ rfl _ rfl _ (Z8 _) _ (Z8 _))
theorem Zpm(N:Nat)(a b:Edit)(x7_b:Int)(N2:NT)(Q:QT)(h:∀ y_1,y_1=(a.ops.getD x7_b.toNat Op.nil)->∀ y_2,y_2=(b.ops.getD x7_b.toNat Op.nil)->∀ y_3,y_3=(y_1.e)->∀ y_4,y_4=(y_2.e)->let z4:=decide (x7_b < (a.ops.length:Int));let z2:=y_1.kind !=y_2.kind;let z0:=bif z2 then true else (y_1.n !=y_2.n);let z1:=bif z0 then true else (!(eqX y_1.l y_2.l));let z3:=bif z1 then true else (!(eqX y_3 y_4));((z4=true->((0:Int)<=x7_b/\x7_b < (a.ops.length:Int))/\((0:Int)<=x7_b/\x7_b < (b.ops.length:Int))/\((Tr ((!z2)=true))/\(Tr ((!z2)=true))/\(Tr ((!z2)=true))/\(Tr ((!z2)=true))/\(z2=false->(!z2)=true)/\(Tr ((!z0)=true))/\(Tr ((!z0)=true))/\(Tr ((!z0)=true))/\(Tr ((!z0)=true))/\((!z0)=true->Zfb (y_1.l,y_2.l,()))/\(Tr ((!z0)=true))/\(z0=false->(!z0)=true)/\(Tr ((!z1)=true))/\(Tr ((!z1)=true))/\(Tr ((!z1)=true))/\(Tr ((!z1)=true))/\((!z1)=true->Z31 (y_3,y_4,()))/\((!z1)=true->Zfy (y_3,y_4,()) < N)/\(Tr ((!z1)=true))/\(z1=false->(!z1)=true)/\((z3=true->(Q .ret (L2 [pB 4 false] [])))/\(z3=false->(InR (x7_b+1))/\(N2 (Z6N a b (x7_b+1)))))))/\(z4=false->(Q .ret (L2 [pB 4 true] []))))):
  A19 N [1,1,1,1,0,1,0,0] (Z6N a b x7_b) (xT N2 (xB 4 (S19 N [1,1,1,1,1] Q))):=
 Eq.mpr (by kernel_rfl) (h _ rfl _ rfl _ (Z8 _) _ (Z8 _))
def ZuW(N:Nat)(a b:Edit):Prop:=AW (Z2 (Zho N)) Try.f19 ZqB [] (Zk (ZhE.can (a,b,())) []) (EQ Try.f19 (Zme (a,b,())) [])
theorem Zto(c29:CT 29 Z3d)(c59:CT 59 Za5)(hb:∀ (N:Nat) (a:Edit) (b:Edit) (_:Unit),Z31 (a,b,())->Zfy (a,b,()) < N+1->ZuW N a b):CT 19 Zab:=
 Yu (μ:=Zfy) (l:=[(29,Z3d),(59,Za5)]) Zl rfl (⟨c29,c59,trivial⟩) ZqB Try.func19 rfl rfl 2 (fun _=> rfl) (by decide) (fun N ⟨a,b,_⟩=> hb N a b ())
end
theorem ZmP{o:Op}(h:Zs o<=20000000000):o.l.length<=20000000000:=by
 have:=Zt o.l
 rw [ZK] at h
 omega
theorem Z7s{o:Op}(h:ZO o):0<=o.n/\o.n<=1048576:=by
 unfold ZO at h
 omega
theorem Y4(o:Op):Z1 o=if o.kind=3 then 1 else o.n+o.l.length:=rfl
theorem Zl9:Contract Try.prog cfg 190 Z1w:=by
 refine ZpL ?_
 intro o _ hp
 simp only [Z3q] at hp
 have hl:=ZmP hp.1
 refine Zve _ _ ?_;(try simp only [vcT,forall_eq])
 (simp only [vcS]);(try simp only [vcT])
 exact ⟨fun hk=> Yi rfl (by rw [Y4,if_pos hk]),fun hk=> ⟨by unfold InR;omega,Yi rfl (by rw [Y4,if_neg hk])⟩⟩
theorem Zl8:Contract Try.prog cfg 191 Z1v:=by
 refine ZpK ?_
 intro l al _ hp
 refine Zvd _ _ _ ?_;(try simp only [vcT,forall_eq])
 have e:((l.length:Int)==0)=decide (l.length=0):=by rw [Qx];(simp only [vcS]);omega
 rw [e]
 (repeat' (first | exact trivial | exact rfl | apply And.intro))
theorem ZtP:Contract Try.prog cfg 188 Z5z:=by
 refine ZpN Zl8 ?_
 intro l al _ hp
 refine Zvg _ _ _ ?_;(try simp only [vcT,forall_eq])
 have e:(bif (!(decide (l.length=0))) then ((OpOf.kind (List.getD l (Int.toNat 0) Op.nil))==al) else false)=sgl al l:=by
  rw [Qx]
  simp only [sgl]
  (simp only [vcS])
  try rfl
 rw [e]
 refine ⟨hp,fun h=> ⟨by omega,?_⟩,by (repeat' (first | exact trivial | exact rfl | apply And.intro))⟩
 revert h
 (simp only [vcS])
 omega
theorem Zu0(Zof:Contract Try.prog cfg 169 Z3W):Contract Try.prog cfg 158 Z94:=by
 refine Zq1 Zof ?_
 intro p q _ hp
 refine Zvv _ _ _ ?_;(try simp only [vcT,forall_eq])
 refine ⟨hp,?_⟩
 (repeat' (first | exact trivial | exact rfl | apply And.intro))
theorem ZtO:Contract Try.prog cfg 189 Z5y:=by
 refine ZpM Zl9 ?_
 intro l al n _ hp
 simp only [Z56] at hp
 obtain ⟨⟨ho,hm⟩,hl,h1,h2⟩:=hp
 have hmem:=Zh (l:=l) (i:=0) (by omega) Op.nil
 have hok:=ho _ hmem
 have hmo:=ZT hmem
 have hlen:=Y9 l
 refine Zvf _ _ _ _ ?_;(try simp only [vcT])
 rintro y rfl _ rfl _ rfl
 have e0:(Int.toNat 0)=0:=rfl
 have e1:(Int.toNat 1)=1:=rfl
 simp only [e0,e1]
 have hT:∀ o r,Zp (l.getD 0 Op.nil) n=o->Zu l n=r->True:=fun _ _ _ _=> trivial
 have hon:=Z7s hok
 have hln:=Y4 (l.getD 0 Op.nil)
 (simp only [vcS])
 generalize hy:l.getD 0 Op.nil=y at*
 refine ⟨⟨by omega,by omega⟩,⟨by dsimp only;omega,hon⟩,fun hc=> ⟨⟨by omega,by omega⟩,?_⟩,fun hc=> ⟨fun hk=> ⟨by unfold InR;omega,⟨by omega,by omega⟩,by simp;omega,?_⟩,fun hk=> ?_⟩⟩
 ·have t1:Zp y n=y:=by rw [Zp,if_pos hc]
  have t2:Zu l n=l.drop 1:=by rw [Zu,hy,if_pos hc]
  simp only [Zap,Z5T,hy,t1,t2]
  (repeat' (first | exact trivial | exact rfl | apply And.intro))
 ·have t1:Zp y n=⟨y.kind,n,y.l,y.e⟩:=by rw [Zp,if_neg hc,if_pos hk]
  have t2:Zu l n=⟨y.kind,y.n - n,y.l,y.e⟩ ::l.drop 1:=by rw [Zu,hy,if_neg hc,Ym,if_pos hk]
  simp only [Zap,Z5T,hy,t1,t2]
  (repeat' (first | exact trivial | exact rfl | apply And.intro))
 ·have t1:Zp y n=⟨y.kind,y.n,y.l.take n.toNat,y.e⟩:=by rw [Zp,if_neg hc,if_neg hk]
  have t2:Zu l n=⟨y.kind,y.n,y.l.drop n.toNat,y.e⟩ ::l.drop 1:=by rw [Zu,hy,if_neg hc,Ym,if_neg hk]
  simp only [Zap,Z5T,hy,t1,t2]
  unfold ZO at hok
  refine ⟨?_,?_,⟨by omega,by omega⟩,by simp;omega,?_⟩
  ·split at hln <;> omega
  ·split at hln <;> omega
  ·(repeat' (first | exact trivial | exact rfl | apply And.intro))
theorem Z1l(n:Nat):∀ (l:List Tree),Z4 (l.drop n)<=Z4 l:=by
 induction n with
 | zero=> intro l;simp
 | succ n ih=>
  intro l
  cases l with
  | nil=> simp
  | cons t r=> simp only [Qu,Z4];have:=ih r;omega
theorem Zb3(n:Nat):∀ (l:List Tree),Z4 (l.take n)<=Z4 l:=by
 induction n with
 | zero=> intro l;simp [Z4]
 | succ n ih=>
  intro l
  cases l with
  | nil=> simp
  | cons t r=> simp only [List.take_succ_cons,Z4];have:=ih r;omega
theorem Zw{o:Op}(h:ZO o):1<=Z1 o:=by
 have:=Y4 o
 unfold ZO at h
 have hl:o.l≠[]->0 < o.l.length:=Xt.2
 rcases h with ⟨h1,h2,h3,h4⟩ | ⟨h1,h2,h3,h4⟩ | ⟨h1,h2,h3⟩
 ·rw [h2] at this;simp at this;split at this <;> omega
 ·have:=hl h3;split at* <;> omega
 ·rw [if_pos h1] at this;omega
theorem Z66{o:Op}(h:ZO o)(hm:Zs o<=20000000000):Z1 o<=20000000000:=by
 have:=Y4 o
 have:=ZmP hm
 have:=Z7s h
 unfold ZO at h
 rcases h with ⟨h1,h2,h3,h4⟩ | ⟨h1,h2,h3,h4⟩ | ⟨h1,h2,h3⟩
 ·simp [h2,h1] at*;omega
 ·split at* <;> omega
 ·split at* <;> omega
theorem Z3C(o:Op)(r:List Op):Zg (o ::r)=Zs o+Zg r:=rfl
theorem Z4b{l:List Op}(h:Z7w l):Z7w (l.drop 1):=by
 cases l with
 | nil=> exact h
 | cons o r=>
  obtain ⟨h1,h2⟩:=h
  rw [Z3C] at h2
  exact ⟨fun x hx=> h1 x (Q4 _ hx),by simp only [Qu,QD];omega⟩
theorem Z7v{l:List Op}(h:Z7w l)(hl:l.length≠0):ZO (l.getD 0 Op.nil)/\Zs (l.getD 0 Op.nil)<=20000000000/\Zs (l.getD 0 Op.nil)<=Zg l:=by
 have hm:=Zh (l:=l) (i:=0) (by omega) Op.nil
 have:=ZT hm
 exact ⟨h.1 _ hm,by have:=h.2;omega,this⟩
theorem Z6Z{o:Op}{n:Int}(h:ZO o)(h1:1<=n)(h2:¬Z1 o<=n):ZO (Ym o n)/\Zs (Ym o n)<=Zs o:=by
 have hl:=Y4 o
 unfold Ym
 unfold ZO at*
 by_cases hk:o.kind=0
 ·rw [if_pos hk]
  refine ⟨Or.inl ?_,by simp only [ZK];omega⟩
  rcases h with h | h | h
  ·obtain ⟨a,b,c,d⟩:=h
   rw [b,if_neg (by omega)] at hl
   simp at hl
   exact ⟨a,b,by dsimp only;omega,d⟩
  ·omega
  ·omega
 ·rw [if_neg hk]
  have:=Z1l n.toNat o.l
  refine ⟨Or.inr ?_,by simp only [ZK];omega⟩
  rcases h with h | h | h
  ·omega
  ·obtain ⟨a,b,c,d⟩:=h
   rw [if_neg (by omega)] at hl
   refine Or.inl ⟨a,b,?_,d⟩
   intro he
   have:=congrArg List.length he
   simp at this
   omega
  ·rw [if_pos h.1] at hl;omega
theorem ZaQ{l:List Op}{n:Int}(h:Z7w l)(hl:l.length≠0)(h1:1<=n):Z7w (Zu l n):=by
 unfold Zu
 split
 ·exact Z4b h
 ·rename_i hc
  obtain ⟨a,b,c⟩:=Z7v h hl
  obtain ⟨d,e⟩:=Z6Z a h1 hc
  have hd:=Z4b h
  refine ⟨fun x hx=> ?_,?_⟩
  ·rcases Qc.1 hx with rfl | hx
   ·exact d
   ·exact hd.1 _ hx
  ·rw [Z3C]
   obtain _ | ⟨o,r⟩:=l
   ·simp at hl
   ·have:=h.2
    rw [Z3C] at this
    simp at*
    omega
theorem ZbW(l:List Op):Zu l (Z1 (l.getD 0 Op.nil))=l.drop 1:=by rw [Zu,if_pos (Xc _)]
theorem ZbX(o:Op):Zp o (Z1 o)=o:=by rw [Zp,if_pos (Xc _)]
theorem ZhY{a:Int}{l:List Op}(h:sgl a l=true):l.length≠0:=(of_decide_eq_true h).1
theorem ZbL{α:Type}(b:Bool)(x:α):(bif b then x else x)=x:=by cases b <;> rfl
theorem Zof:Contract Try.prog cfg 169 Z3W:=by
 refine ZpY ZtP ZtO Zl9 Zl8 ?_
 intro pl pa ql qa _ hp
 simp only [ZdB] at hp
 have hpl:=Y9 pl
 have hql:=Y9 ql
 have hP:=hp.1.2
 have hQ:=hp.2.2
 refine Zvr _ _ _ _ _ ?_;(try simp only [vcT,forall_eq])
 refine Za (ι:=List Op × List Op × List Piece) (fun s=> Z12 pl pa ql qa s.1 s.2.1 qa s.2.2) (fun s=> Z7w s.1/\Z7w s.2.1/\s.2.2.length+s.1.length+s.2.1.length<=40000000000/\ZG pa qa s.1 s.2.1 s.2.2=ZG pa qa pl ql []) (fun s=> s.1.length+s.2.1.length) (pl,ql,[]) rfl ⟨hp.1,hp.2,by simp;omega,rfl⟩ ?_
 rintro ⟨p,q,out⟩ ⟨h1,h2,h3,h4⟩
 refine ZlB _ _ _ _ _ _ _ _ _ _ ?_;(try simp only [vcT])
 have e0:(Int.toNat 0)=0:=rfl
 simp only [e0,ZbL]
 dsimp only at h1 h2 h3 h4
 rintro z1 hy1 z2 hy2 y3 hy3 z4 hy4 y1 rfl y2 rfl y4 rfl y8 hy8 y9 hy9 y10 hy10 y11 hy11
 have ey:y4=y2:=hy4.trans hy2.symm
 rw [ey] at hy10 hy11 ⊢
 have e3:(OpOf.mk 0 0 [] y3:Op)=Op.nil:=by rw [hy3];try rfl
 rw [<-hy1,ZbX] at hy8
 rw [<-hy2,ZbX] at hy9
 have hmin:∀ a b:Int,(if a < b then a else b)=min b a:=by intro a b;omega
 rw [<-hy1,hmin] at hy10
 rw [<-hy2,hmin] at hy11
 simp only [hmin,e3,hy8,hy9]
 (simp only [vcS])
 have o1:p.length≠0->ZO y1/\Zs y1<=20000000000:=fun h=> by have:=Z7v h1 h;rw [<-hy1] at this;exact ⟨this.1,this.2.1⟩
 have o2:q.length≠0->ZO y2/\Zs y2<=20000000000:=fun h=> by have:=Z7v h2 h;rw [<-hy2] at this;exact ⟨this.1,this.2.1⟩
 have tp:Zu p (Z1 y1)=p.drop 1:=by rw [hy1];exact ZbW p
 have tq:Zu q (Z1 y2)=q.drop 1:=by rw [hy2];exact ZbW q
 have hm1:=Y9 p
 have hm2:=Y9 q
 have hm3:=h1.2
 have hm4:=h2.2
 rw [ZG] at h4
 rw [<-hy1,<-hy2] at h4
 refine ⟨by simp only [Z1Q];omega,fun hs=> ?_,fun hs=> ?_⟩
 ·have hl:=ZhY hs
  obtain ⟨oa,ob⟩:=o1 hl
  have oc:=Zw oa
  have od:=Z66 oa ob
  rw [dif_pos hs] at h4
  refine ⟨⟨by omega,by omega⟩,⟨ob,Z7s oa⟩,⟨h1,hl,oc,by dsimp only;omega⟩,by simp;omega,(p.drop 1,q,out++[⟨1,y1,Op.nil⟩]),by rw [tp],⟨Z4b h1,h2,by simp;omega,h4⟩,by simp;omega⟩
 ·rw [dif_neg (by rw [hs];exact Kb)] at h4
  refine ⟨by simp only [Z1Q];omega,fun hs2=> ?_,fun hs2=> ?_⟩
  ·have hl:=ZhY hs2
   obtain ⟨oa,ob⟩:=o2 hl
   have oc:=Zw oa
   have od:=Z66 oa ob
   rw [dif_pos hs2] at h4
   refine ⟨⟨by omega,by omega⟩,⟨ob,Z7s oa⟩,⟨h2,hl,oc,by dsimp only;omega⟩,by simp;omega,(p,q.drop 1,out++[⟨2,Op.nil,y2⟩]),by rw [tq],⟨h1,Z4b h2,by simp;omega,h4⟩,by simp;omega⟩
  ·rw [dif_neg (by rw [hs2];exact Kb)] at h4
   refine ⟨by simp only [Z1Q];omega,fun _=> by simp only [Z1Q];omega,fun h=> h,fun hd=> ⟨by simp only [Z1Q];omega,by simp only [Z1Q];omega,fun he=> ?_,fun he=> ?_⟩,fun hd=> ?_⟩
   ·rw [dif_pos hd,if_neg he] at h4
    simp only [Zdh,Z9f,<-h4]
    (repeat' (first | exact trivial | exact rfl | apply And.intro))
   ·rw [dif_pos hd,if_pos he] at h4
    simp only [Zdh,Z9f,<-h4]
    (repeat' (first | exact trivial | exact rfl | apply And.intro))
   ·obtain ⟨oa,ob⟩:=o1 hd.1
    obtain ⟨oc,od⟩:=o2 hd.2
    have a1:=Zw oa
    have a2:=Z66 oa ob
    have a3:=Zw oc
    have a4:=Z66 oc od
    rw [dif_neg (by omega),<-hy10,<-hy11] at h4
    have c1:=ZY p (min (Z1 y1) (Z1 y2)) hd.1
    have c2:=ZY q (min (Z1 y1) (Z1 y2)) hd.2
    have c3:Z1 y1<=min (Z1 y1) (Z1 y2)->(Zu p (min (Z1 y1) (Z1 y2))).length < p.length:=fun h=> ZX p _ hd.1 (by rw [<-hy1];exact h)
    have c4:Z1 y2<=min (Z1 y1) (Z1 y2)->(Zu q (min (Z1 y1) (Z1 y2))).length < q.length:=fun h=> ZX q _ hd.2 (by rw [<-hy2];exact h)
    refine ⟨⟨by omega,by omega⟩,⟨ob,Z7s oa⟩,⟨by omega,by omega⟩,⟨od,Z7s oc⟩,⟨h1,hd.1,by dsimp only;omega,by dsimp only;omega⟩,⟨h2,hd.2,by dsimp only;omega,by dsimp only;omega⟩,by simp;omega,
     (Zu p (min (Z1 y1) (Z1 y2)),Zu q (min (Z1 y1) (Z1 y2)),out++[⟨0,y10,y11⟩]),rfl,⟨ZaQ h1 hd.1 (by omega),ZaQ h2 hd.2 (by omega),by simp;omega,h4⟩,by dsimp only;omega⟩
theorem Z2U{α:Type}{a b:α}(h:¬a=b):eqX a b=false:=by rw [<-Bool.not_eq_true,Jz];exact h
theorem Z0M{α:Type}(d:α){a b:List α}(hl:a.length=b.length)(h:∀ i:Nat,i < a.length->a.getD i d=b.getD i d):a=b:=by
 apply Kh hl
 intro i h1 h2
 have:=h i h1
 simpa [Qm,Q0 h1,Q0 h2] using this
theorem c59:Contract Try.prog cfg 59 Za5:=by
 refine Ztg c29 ?_
 intro a b _ hp
 simp only [Zfb] at hp
 refine Zx2 _ _ _ ?_;(try simp only [vcT,forall_eq])
 (simp only [vcS]);(try simp only [vcT])
 refine ⟨fun hc=> Zb rfl (Z2U (a:=a) (b:=b) (fun h=> hc (by rw [h]))).symm,fun hc=> ?_⟩
 have hl:a.length=b.length:=by omega
 have hla:=Zt a
 refine Za (ι:=Int) (fun i=> Z6F a b i) (fun i=> 0<=i/\i<=a.length/\∀ j:Nat,(j:Int) < i->a.getD j Tree.nil=b.getD j Tree.nil) (fun i=> ((a.length:Int) - i).toNat) 0 rfl ⟨by omega,by omega,by intro j hj;omega⟩ ?_
 rintro i ⟨h1,h2,h3⟩
 refine Zpd _ _ _ _ _ ?_;(try simp only [vcT,forall_eq])
 (simp only [vcS]);(try simp only [vcT])
 try (simp only [Tree.eta,Edit.eta,Tree.kind_mk,Tree.words_mk,Tree.kids_mk])
 refine ⟨fun hi=> ⟨⟨h1,hi⟩,⟨h1,by omega⟩,?_,fun hq=> ?_,fun hq=> ⟨by unfold InR;omega,i+1,rfl,⟨by omega,by omega,?_⟩,by omega⟩⟩,fun hi=> ?_⟩
 ·have:=YS (Zh (l:=a) (i:=i.toNat) (by omega) Tree.nil)
  simp only [Z30];omega
 ·refine Zb rfl (Z2U (a:=a) (b:=b) (fun h=> ?_)).symm
  rw [h,Yr] at hq
  exact hq rfl
 ·intro j hj
  by_cases hj2:(j:Int) < i
  ·exact h3 j hj2
  ·rw [J2,show i.toNat=j by omega] at hq
   exact hq
 ·refine Zb rfl (Jz (a:=a) (b:=b).2 (Z0M Tree.nil hl (fun j hj=> h3 j (by omega)))).symm
theorem Zo6{a b:Edit}(h1:a.kind=b.kind)(h2:a.old=b.old)(h3:a.new=b.new)(h4:a.words=b.words)(h5:a.kids=b.kids)(h6:a.list=b.list)(h7:a.ops=b.ops):a=b:=by
 cases a;cases b;simp_all
theorem ZqE{a b:Kid}(h1:a.at_=b.at_)(h2:a.e=b.e):a=b:=by cases a;cases b;simp_all
theorem ZsW{a b:Op}(h1:a.kind=b.kind)(h2:a.n=b.n)(h3:a.l=b.l)(h4:a.e=b.e):a=b:=by cases a;cases b;simp_all
theorem Zk4{a b:WEdit}(h1:a.at_=b.at_)(h2:a.mask=b.mask)(h3:a.old=b.old)(h4:a.new=b.new):a=b:=by cases a;cases b;simp_all
theorem c19:Contract Try.prog cfg 19 Zab:=by
 refine Zto c29 c59 ?_
 intro N a b _ hp hN
 simp only [Z31,Zfy] at hp hN
 have hme:=YI a
 have hkl:=YB a.kids
 have hol:=Y9 a.ops
 have neq:∀ {P:Prop},(a=b->P)->¬P->eqX a b=false:=fun h1 h2=> Z2U (fun h=> h2 (h1 h))
 refine Zxc N a b _ ?_;(try simp only [vcT])
 rintro y1 rfl y2 rfl y3 rfl y4 rfl
 (simp only [vcS]);(try simp only [vcT])
 refine ⟨fun _=> ?_,fun _=> ?_,fun hc=> ?_,fun hc=> ?_⟩
 ·simp only [Z30];omega
 ·simp only [Z30];omega
 ·refine Zb rfl (Z2U (a:=a) (b:=b) (fun h=> ?_)).symm
  rw [h] at hc
  simp only [Yr] at hc
  simp at hc
 ·simp only [J2,Classical.not_not] at hc
  obtain ⟨⟨⟨⟨⟨⟨h1,h2⟩,h3⟩,h4⟩,h5⟩,h6⟩,h7⟩:=hc
  refine Za (ι:=Int) (fun i=> Z6P a b i) (fun i=> 0<=i/\i<=a.words.length/\∀ j:Nat,(j:Int) < i->a.words.getD j (WEdit.mk 0 0 0 0)=b.words.getD j (WEdit.mk 0 0 0 0)) (fun i=> ((a.words.length:Int) - i).toNat) 0 rfl ⟨by omega,by omega,by intro j hj;omega⟩ ?_
  rintro i ⟨g1,g2,g3⟩
  refine Zpo _ _ _ _ _ _ ?_;(try simp only [vcT,forall_eq])
  (simp only [vcS]);(try simp only [vcT])
  try simp only [and_true]
  refine ⟨fun hi=> ⟨⟨g1,hi⟩,⟨g1,by omega⟩,fun hq=> ?_,fun hq=> ⟨by unfold InR;omega,i+1,rfl,⟨by omega,by omega,?_⟩,by omega⟩⟩,fun hi=> ?_⟩
  ·refine Zb rfl (Z2U (a:=a) (b:=b) (fun h=> ?_)).symm
   rw [h] at hq
   simp at hq
  ·intro j hj
   by_cases hj2:(j:Int) < i
   ·exact g3 j hj2
   ·rw [show i.toNat=j by omega] at hq
    exact Zk4 hq.1 hq.2.1 hq.2.2.1 hq.2.2.2
  ·have hw:a.words=b.words:=Z0M (WEdit.mk 0 0 0 0) (by omega) (fun j hj=> g3 j (by omega))
   refine Za (ι:=Int) (fun i=> Z6O a b i) (fun i=> 0<=i/\i<=a.kids.length/\∀ j:Nat,(j:Int) < i->a.kids.getD j (KidOf.mk 0 Edit.nil)=b.kids.getD j (KidOf.mk 0 Edit.nil)) (fun i=> ((a.kids.length:Int) - i).toNat) 0 rfl ⟨by omega,by omega,by intro j hj;omega⟩ ?_
   rintro i ⟨g1,g2,g3⟩
   refine Zpn _ _ _ _ _ _ ?_;(try simp only [vcT])
   rintro y1 hy1 y2 hy2 y3 hy3 y4 hy4
   (simp only [vcS]);(try simp only [vcT])
   refine ⟨fun hi=> ⟨⟨g1,hi⟩,⟨g1,by omega⟩,fun _=> ⟨g1,hi⟩,fun _=> ⟨g1,by omega⟩,fun _=> ?_,fun _=> ?_,fun hq=> ?_,fun hq=> ⟨by unfold InR;omega,i+1,rfl,⟨by omega,by omega,?_⟩,by omega⟩⟩,fun hi=> ?_⟩
   ·have:=Jc (Zh (l:=a.kids) (i:=i.toNat) (by omega) (KidOf.mk 0 Edit.nil))
    rw [<-hy1,<-hy3] at this
    simp only [Z31];omega
   ·have:=Jc (Zh (l:=a.kids) (i:=i.toNat) (by omega) (KidOf.mk 0 Edit.nil))
    rw [<-hy1,<-hy3] at this
    simp only [Zfy];omega
   ·refine Zb rfl (Z2U (a:=a) (b:=b) (fun h=> ?_)).symm
    rw [h] at hy1
    rw [hy3,hy4,hy1,hy2,Zbj] at hq
    simp at hq
   ·intro j hj
    by_cases hj2:(j:Int) < i
    ·exact g3 j hj2
    ·rw [Jz,hy3,hy4,hy1,hy2,show i.toNat=j by omega] at hq
     exact ZqE (by simpa using hq.1) hq.2
   ·have hk:a.kids=b.kids:=Z0M (KidOf.mk 0 Edit.nil) (by omega) (fun j hj=> g3 j (by omega))
    refine Za (ι:=Int) (fun i=> Z6N a b i) (fun i=> 0<=i/\i<=a.ops.length/\∀ j:Nat,(j:Int) < i->a.ops.getD j Op.nil=b.ops.getD j Op.nil) (fun i=> ((a.ops.length:Int) - i).toNat) 0 rfl ⟨by omega,by omega,by intro j hj;omega⟩ ?_
    rintro i ⟨g1,g2,g3⟩
    refine Zpm _ _ _ _ _ _ ?_;(try simp only [vcT])
    rintro y1 hy1 y2 hy2 y3 hy3 y4 hy4
    (simp only [vcS]);(try simp only [vcT])
    refine ⟨fun hi=> ⟨⟨g1,hi⟩,⟨g1,by omega⟩,fun _=> ?_,fun _=> ?_,fun _=> ?_,fun hq=> ?_,fun hq=> ⟨by unfold InR;omega,i+1,rfl,⟨by omega,by omega,?_⟩,by omega⟩⟩,fun hi=> ?_⟩
    ·have:=ZT (Zh (l:=a.ops) (i:=i.toNat) (by omega) Op.nil)
     rw [<-hy1,ZK] at this
     simp only [Zfb];omega
    ·have:=ZT (Zh (l:=a.ops) (i:=i.toNat) (by omega) Op.nil)
     rw [<-hy1,ZK,<-hy3] at this
     simp only [Z31];omega
    ·have:=ZT (Zh (l:=a.ops) (i:=i.toNat) (by omega) Op.nil)
     rw [<-hy1,ZK,<-hy3] at this
     simp only [Zfy];omega
    ·refine Zb rfl (Z2U (a:=a) (b:=b) (fun h=> ?_)).symm
     rw [h] at hy1
     rw [hy3,hy4,hy1,hy2,Zbj,Zbj] at hq
     simp at hq
    ·intro j hj
     by_cases hj2:(j:Int) < i
     ·exact g3 j hj2
     ·rw [Jz,Jz,hy3,hy4,hy1,hy2,show i.toNat=j by omega] at hq
      obtain ⟨⟨⟨q1,q2⟩,q3⟩,q4⟩:=hq
      exact ZsW (by simpa using q1) (by simpa using q2) q3 q4
    ·have ho:a.ops=b.ops:=Z0M Op.nil (by omega) (fun j hj=> g3 j (by omega))
     exact Zb rfl (Jz (a:=a) (b:=b).2 (Zo6 h1 h3 h4 hw hk h2 ho)).symm
def vu(u:AUnit):Op × Bool:=(opU u,u.alone)
def vs(a:Int)(o:Op):List (Op × Bool):=(ZcR 0 a o).map vu
theorem Z9G{a n:Int}{o:Op}(h:ZO o)(h1:1<=n)(hn:¬Z1 o<=n):vs a o=vs a (Zp o n)++vs a (Ym o n)/\ZO (Zp o n)/\Z1 (Zp o n)=n/\Zs (Zp o n)<=Zs o:=by
 have hl:=Y4 o
 rcases h with ⟨k0,k1,k2,k3⟩ | ⟨k0,k1,k2,k3⟩ | ⟨k0,k1,k2⟩
 ·have e1:Zp o n=⟨o.kind,n,o.l,o.e⟩:=by rw [Zp,if_neg hn,if_pos k0]
  have e2:Ym o n=⟨o.kind,o.n - n,o.l,o.e⟩:=by rw [Ym,if_pos k0]
  rw [if_neg (by omega),k1] at hl
  simp only [Qb] at hl
  rw [e1,e2]
  refine ⟨?_,Or.inl ⟨k0,k1,by dsimp only;omega,k3⟩,?_,by simp [ZK]⟩
  ·simp only [vs,ZcR,k0,k1]
   simp only [if_true,Kg,QH,Ko,List.map_replicate]
   rw [if_neg (by decide)]
   simp only [Kg,QN]
   rw [List.replicate_append_replicate]
   congr 1
   omega
  ·rw [Y4]
   dsimp only
   rw [if_neg (by omega),k1]
   simp
 ·have e1:Zp o n=⟨o.kind,o.n,o.l.take n.toNat,o.e⟩:=by rw [Zp,if_neg hn,if_neg (by omega)]
  have e2:Ym o n=⟨o.kind,o.n,o.l.drop n.toNat,o.e⟩:=by rw [Ym,if_neg (by omega)]
  rw [if_neg (by omega)] at hl
  have hm:=Zb3 n.toNat o.l
  rw [e1,e2]
  refine ⟨?_,Or.inr (Or.inl ⟨k0,k1,?_,k3⟩),?_,by simp only [ZK];omega⟩
  ·simp only [vs,ZcR]
   rw [if_neg (by omega),if_neg (by omega)]
   simp only [QH,QN]
   rw [<-Ko,<-Ko,QF]
  ·intro he
   have:=congrArg List.length he
   simp only [Qk,Qb] at this
   omega
  ·rw [Y4]
   dsimp only
   rw [if_neg (by omega),Qk]
   omega
 ·rw [if_pos k0] at hl
  omega
theorem Yq{a:Int}{l:List Op}:sgl a l=true↔(l.length≠0/\(l.getD 0 Op.nil).kind=a):=by unfold sgl;exact decide_eq_true_iff
theorem J0(o:Op)(n:Int):(Zp o n).kind=o.kind:=by
 unfold Zp;split
 ·try rfl
 ·split <;> rfl
theorem Zft{t:Tree}(h:YW t=true):t=Tree.nil:=by
 obtain ⟨k,w,ks⟩:=t
 have:=of_decide_eq_true h
 simp at this
 obtain ⟨rfl,rfl,rfl⟩:=this
 try rfl
theorem ZbZ{e:Edit}(h:Z0A e=true):e=Edit.nil:=by
 obtain ⟨h1,h2,h3,h4,h5,h6,h7⟩:=ZeP h
 obtain ⟨k,o,n,w,ks,l,os⟩:=e
 simp at h1 h2 h3 h4 h5 h6 h7
 subst h1 h4 h5 h6 h7
 rw [Zft h2,Zft h3]
 try rfl
theorem Zal{list:Int}{o:Op}{d:Int}(h:Zf list o d=true):ZO o:=by
 rw [Z2F] at h
 unfold ZO
 split at h
 ·rename_i h0
  simp only [Q1,decide_eq_true_eq] at h
  exact Or.inl ⟨h0,X5.1 h.1.2.2,⟨h.1.1,h.1.2.1⟩,ZbZ h.2⟩
 ·split at h
  ·cases h
  ·rename_i h0 h1
   split at h
   ·simp only [Q1,decide_eq_true_eq] at h
    refine Or.inr (Or.inl ⟨by omega,by omega,?_,ZbZ h.2⟩)
    exact Xt.1 h.1.2
   ·simp only [Q1,decide_eq_true_eq] at h
    exact Or.inr (Or.inr ⟨by omega,by omega,X5.1 h.1.1.1⟩)
end Go.AM.Ytpjenobkibfpcaa
namespace Go.AM
def Z8F(list:Int)(e:Edit):Bool:=decide (e.kind=0\/(list=9/\e.kind=2/\e.words.length=0/\e.kids.length=0))
def Z9(l:List Tree):List Tree:=l.map Z7
end Go.AM
namespace Go.AM
def J1{α:Type}(z:α)(l:List α)(i:Nat)(x:α):List α:=(l++List.replicate (i+1 - l.length) z).set i x
def wsD(tw:List Int):List WEdit->List Int->Option (List Int)
 | [],out=> some out
 | w ::r,out=> if mix 0 (tw.getD w.at_.toNat 0) w.mask=w.old then wsD tw r (J1 0 out w.at_.toNat (mix (tw.getD w.at_.toNat 0) w.new w.mask)) else none
noncomputable def Z8G(l rest:List Tree):Bool:=decide (l.length<=rest.length) && eqX (Z9 l) (Z9 (rest.take l.length))
def Zbk(r:Option (List Tree × List Tree)):Option (List Tree):=r.bind fun x=> if x.2.length=0 then some x.1 else none
def nrD(r:Bool)(t:Tree):Tree:=if r then Z7 t else t
mutual
noncomputable def doE(r:Bool):Edit->Tree->Option Tree
 | .mk k o n w ks l os,t=>
  (if k=0 then some t
  else if k=1 then (if Y3 (Z7 o) (Z7 t)=true then some n else none)
  else if k=2 then (if t.kind=1 then (wsD t.words w t.words).bind fun a=> (Z8W r t.kids ks t.kids).map fun b=> .mk 1 a b else none)
  else if k=3 then (if t.kind=l then (Zbk (Z2o r os t.kids [])).map fun b=> .mk l [] b else none)
  else none).map (nrD r)
noncomputable def Z8W(r:Bool)(tk:List Tree):List (KidOf Edit)->List Tree->Option (List Tree)
 | [],out=> some out
 | k ::s,out=> (Zjq r tk k).bind fun u=> Z8W r tk s (J1 Tree.nil out k.at_.toNat u)
noncomputable def Zjq(r:Bool)(tk:List Tree):KidOf Edit->Option Tree
 | ⟨a,e⟩=> doE r e (tk.getD a.toNat Tree.nil)
noncomputable def Z2o(r:Bool):List (OpOf Edit)->List Tree->List Tree->Option (List Tree × List Tree)
 | [],rest,out=> some (out,rest)
 | o ::s,rest,out=> (Zo9 r o rest out).bind fun x=> Z2o r s x.2 x.1
noncomputable def Zo9(r:Bool):OpOf Edit->List Tree->List Tree->Option (List Tree × List Tree)
 | ⟨k,n,l,e⟩,rest,out=>
  if k=0 then (if n.toNat<=rest.length then some (out++rest.take n.toNat,rest.drop n.toNat) else none)
  else if k=1 then (if Z8G l rest=true then some (out,rest.drop l.length) else none)
  else if k=2 then some (out++l,rest)
  else if rest.length=0 then none else (doE r e (rest.getD 0 Tree.nil)).map fun u=> (out++[u],rest.drop 1)
end
theorem Zeb(r:Bool)(e:Edit)(t:Tree):doE r e t=(if e.kind=0 then some t
  else if e.kind=1 then (if Y3 (Z7 e.old) (Z7 t)=true then some e.new else none)
  else if e.kind=2 then (if t.kind=1 then (wsD t.words e.words t.words).bind fun a=> (Z8W r t.kids e.kids t.kids).map fun b=> .mk 1 a b else none)
  else if e.kind=3 then (if t.kind=e.list then (Zbk (Z2o r e.ops t.kids [])).map fun b=> .mk e.list [] b else none)
  else none).map (nrD r):=by cases e;rfl
noncomputable def ZsK(r:Bool)(e:Edit)(t:Tree):Option Tree:=
 if e.kind=0 then some t
 else if e.kind=1 then (if Y3 (Z7 e.old) (Z7 t)=true then some e.new else none)
 else if e.kind=2 then (if t.kind=1 then (wsD t.words e.words t.words).bind fun a=> (Z8W r t.kids e.kids t.kids).map fun b=> .mk 1 a b else none)
 else if e.kind=3 then (if t.kind=e.list then (Zbk (Z2o r e.ops t.kids [])).map fun b=> .mk e.list [] b else none)
 else none
theorem Zea(r:Bool)(e:Edit)(t:Tree):doE r e t=(ZsK r e t).map (nrD r):=Zeb r e t
theorem Zoa(r:Bool)(tk:List Tree)(k:Kid):Zjq r tk k=doE r k.e (tk.getD k.at_.toNat Tree.nil):=by cases k;rfl
theorem ZqM(r:Bool)(o:Op)(rest out:List Tree):Zo9 r o rest out=if o.kind=0 then (if o.n.toNat<=rest.length then some (out++rest.take o.n.toNat,rest.drop o.n.toNat) else none)
  else if o.kind=1 then (if Z8G o.l rest=true then some (out,rest.drop o.l.length) else none)
  else if o.kind=2 then some (out++o.l,rest)
  else if rest.length=0 then none else (doE r o.e (rest.getD 0 Tree.nil)).map fun u=> (out++[u],rest.drop 1):=by cases o;rfl
noncomputable def Z8P(r:Bool)(e:Edit)(t:Tree):Option Tree:=
 if t.kind=1 then (wsD t.words e.words t.words).bind fun a=> (Z8W r t.kids e.kids t.kids).map fun b=> .mk 1 a b else none
noncomputable def Z4J(r:Bool)(e:Edit)(t:Tree):Option (List Tree × List Tree):=if t.kind=e.list then Z2o r e.ops t.kids [] else none
def Z32(o:Option Tree):Tree:=o.getD Tree.nil
def ZnC(e:Edit)(o:Option (List Tree × List Tree)):Tree:=match o with | some x=> .mk e.list [] x.1 | none=> Tree.nil
noncomputable def Z8R(e:Edit)(t:Tree):Tree:=
 if e.kind=0 then t else if e.kind=1 then e.new else if e.kind=2 then Z32 (Z8P false e t) else if e.kind=3 then ZnC e (Z4J false e t) else Tree.nil
theorem Z7x(o:Option Tree):o.map (nrD false)=o:=by cases o <;> rfl
theorem Z7t{e:Edit}{t u:Tree}(h:doE false e t=some u):Z8R e t=u:=by
 rw [Zeb,Z7x] at h
 unfold Z8R
 split
 ·rename_i h0;rw [if_pos h0] at h;exact Option.some.inj h
 ·rename_i h0;rw [if_neg h0] at h
  split
  ·rename_i h1;rw [if_pos h1] at h
   split at h
   ·exact Option.some.inj h
   ·cases h
  ·rename_i h1;rw [if_neg h1] at h
   split
   ·rename_i h2;rw [if_pos h2] at h
    unfold Z32 Z8P
    rw [h];try rfl
   ·rename_i h2;rw [if_neg h2] at h
    split
    ·rename_i h3;rw [if_pos h3] at h
     unfold ZnC Z4J
     split at h
     ·rename_i h4;rw [if_pos h4]
      revert h
      cases Z2o false e.ops t.kids [] with
      | none=> intro h;cases h
      | some x=>
       intro h
       simp only [Zbk,Xb] at h
       split at h
       ·exact Option.some.inj h
       ·cases h
     ·cases h
    ·rename_i h3;rw [if_neg h3] at h;cases h
end Go.AM
namespace Go.AM
structure Wst where
 out:List Op
 gone:List Tree
 brought:List Tree
def Z0e(out:List Op)(g b:List Tree):List Op:=
 out++((if g.length=0 then [] else [⟨1,0,g,Edit.nil⟩])++(if b.length=0 then [] else [⟨2,0,b,Edit.nil⟩]))
def Z0C:List Op->Int->List Op
 | [],n=> [⟨0,n,[],Edit.nil⟩]
 | [o],n=> if o.kind=0 then [⟨o.kind,o.n+n,o.l,o.e⟩] else [o,⟨0,n,[],Edit.nil⟩]
 | o ::p ::r,n=> o ::Z0C (p ::r) n
def Z0(w:Wst):Wst:=⟨Z0e w.out w.gone w.brought,[],[]⟩
def ZL(w:Wst)(n:Int):Wst:=⟨Z0C (Z0 w).out n,[],[]⟩
mutual
def ZE:Edit->Edit
 | .mk k o n w ks l os=>
  if k=1 then .mk k (Z7 o) (Z7 n) [] [] l []
  else if k=2 then .mk k Tree.nil Tree.nil w (JU ks) l []
  else if k=3 then .mk k Tree.nil Tree.nil [] [] l (Z0 (ZP l os ⟨[],[],[]⟩)).out
  else .mk k Tree.nil Tree.nil [] [] l []
def JU:List (KidOf Edit)->List (KidOf Edit)
 | []=> []
 | k ::r=> Z1R k ::JU r
def Z1R:KidOf Edit->KidOf Edit
 | ⟨a,e⟩=> ⟨a,ZE e⟩
def ZP(list:Int):List (OpOf Edit)->Wst->Wst
 | [],s=> s
 | o ::r,s=> ZP list r (Z05 list o s)
def Z05(list:Int):OpOf Edit->Wst->Wst
 | ⟨k,n,l,e⟩,s=>
  if k=0 then ZL s n
  else if k=1 then ⟨s.out,s.gone++Z9 l,s.brought⟩
  else if k=2 then ⟨s.out,s.gone,s.brought++Z9 l⟩
  else if k=3 then (if Z8F list (ZE e)=true then ZL s 1 else ⟨(Z0 s).out++[⟨3,0,[],ZE e⟩],[],[]⟩)
  else s
end
theorem Z4c(e:Edit):ZE e=if e.kind=1 then .mk e.kind (Z7 e.old) (Z7 e.new) [] [] e.list []
  else if e.kind=2 then .mk e.kind Tree.nil Tree.nil e.words (JU e.kids) e.list []
  else if e.kind=3 then .mk e.kind Tree.nil Tree.nil [] [] e.list (Z0 (ZP e.list e.ops ⟨[],[],[]⟩)).out
  else .mk e.kind Tree.nil Tree.nil [] [] e.list []:=by cases e;rfl
theorem Zcg(k:Kid):Z1R k=⟨k.at_,ZE k.e⟩:=by cases k;rfl
theorem Z2d(list:Int)(o:Op)(s:Wst):Z05 list o s=if o.kind=0 then ZL s o.n
  else if o.kind=1 then ⟨s.out,s.gone++Z9 o.l,s.brought⟩
  else if o.kind=2 then ⟨s.out,s.gone,s.brought++Z9 o.l⟩
  else if o.kind=3 then (if Z8F list (ZE o.e)=true then ZL s 1 else ⟨(Z0 s).out++[⟨3,0,[],ZE o.e⟩],[],[]⟩)
  else s:=by cases o;rfl
end Go.AM
namespace Go.AM.Ytpjenobkibfpcaa
open Go.AM Go.Proofs
theorem Zai(a b:Tree):Y3 a b=Y3 b a:=by simp [Y3,eq_comm]
theorem Zk9(l:List Int):trim (trim l)=trim l:=by
 induction l with
 | nil=> rfl
 | cons x r ih=>
  rw [Z0T]
  split
  ·try rfl
  ·rename_i h
   rw [Z0T,ih,if_neg h]
theorem Zgn(l:List Tree):ZQ (ZQ l)=ZQ l:=by
 induction l with
 | nil=> rfl
 | cons x r ih=>
  rw [YZ]
  split
  ·try rfl
  ·rename_i h
   rw [YZ,ih,if_neg h]
def Normed:List Tree->Prop
 | []=> True
 | t ::r=> Z7 t=t/\Normed r
theorem Normed.eq:∀ {l:List Tree},Normed l->ZW l=l
 | [],_=> rfl
 | t ::r,h=> by simp only [ZW,h.1,Normed.eq h.2]
theorem Normed.trim:∀ {l:List Tree},Normed l->Normed (ZQ l)
 | [],_=> trivial
 | t ::r,h=> by
  rw [YZ]
  split
  ·trivial
  ·exact ⟨h.1,Normed.trim h.2⟩
mutual
theorem Z5f:∀ (t:Tree),Z7 (Z7 t)=Z7 t
 | .mk k w ks=> by
  have h:=Z68 ks
  by_cases h0:k=0
  ·simp [Z7,h0,Tree.nil]
  ·by_cases h1:k=1
   ·subst h1
    simp only [Z7,if_neg h0,if_true,Zk9,h.trim.eq,Zgn]
   ·simp only [Z7,if_neg h0,if_neg h1,h.eq]
theorem Z68:∀ (ks:List Tree),Normed (ZW ks)
 | []=> trivial
 | t ::r=> ⟨Z5f t,Z68 r⟩
end
theorem Jg:∀ (l:List Op) (n:Int),Z0C l n=l++[⟨0,n,[],Edit.nil⟩]\/∃ a o,l=a++[o]/\o.kind=0/\Z0C l n=a++[⟨o.kind,o.n+n,o.l,o.e⟩]
 | [],n=> Or.inl rfl
 | [o],n=> by
  by_cases h:o.kind=0
  ·exact Or.inr ⟨[],o,rfl,h,by simp [Z0C,h]⟩
  ·exact Or.inl (by simp [Z0C,h])
 | o ::p ::r,n=> by
  rcases Jg (p ::r) n with h | ⟨a,q,h1,h2,h3⟩
  ·exact Or.inl (by simp only [Z0C,h,Qs])
  ·exact Or.inr ⟨o ::a,q,by rw [h1];rfl,h2,by simp only [Z0C,h3,Qs]⟩
def W0:Wst:=⟨[],[],[]⟩
theorem Z4P(a b:List Tree):Z9 (a++b)=Z9 a++Z9 b:=by simp [Z9]
end Go.AM.Ytpjenobkibfpcaa
namespace Go.AM
theorem Z69{t:Tree}(h:YW t=true):t=Tree.nil:=by
 obtain ⟨k,w,ks⟩:=t
 simp only [YW,decide_eq_true_eq] at h
 obtain ⟨h1,h2,h3⟩:=h
 have h1:k=0:=h1
 rw [h1,Q3 (l:=w) h2,Q3 (l:=ks) h3]
 try rfl
theorem ZeO{e:Edit}(h:Z0A e=true):e=Edit.nil:=by
 obtain ⟨k,o,n,w,ks,l,os⟩:=e
 simp only [Z0A,Q1,decide_eq_true_eq] at h
 obtain ⟨⟨⟨h1,h2⟩,h3⟩,h4,h5,h6,h7⟩:=h
 have h1:k=0:=h1
 have h7:l=0:=h7
 rw [h1,h7,Z69 (t:=o) h2,Z69 (t:=n) h3,Q3 (l:=w) h4,Q3 (l:=ks) h5,Q3 (l:=os) h6]
 try rfl
structure RightE (e:Edit) (d:Int):Prop where
 d0:d≠0
 kind:0<=e.kind/\e.kind<=3
 none:e.kind≠1->e.old=Tree.nil/\e.new=Tree.nil
 words0:e.kind≠2->e.words=[]/\e.kids=[]
 ops0:e.kind≠3->e.list=0/\e.ops=[]
 rep:e.kind=1->Zq e.old (dT d)=true/\Zq e.new (dT d)=true/\e.old.kind≠10/\e.new.kind≠10
 words:Y6 (-1) e.words=true
 kids:Zx (-1) e.kids (d - 1)=true
 list:e.kind=3->2<=e.list/\e.list<=9
 ops:ZA e.list e.ops (d - 1)=true
 len:Z0O e.ops 0 < 1048576/\Z0N e.ops 0 < 1048576
theorem Zr{e:Edit}{d:Int}(h:Z6 e d=true):RightE e d:=by
 obtain ⟨k,o,n,w,ks,l,os⟩:=e
 rw [Z6] at h
 split at h
 ·cases h
 ·rename_i a
  split at h
  ·cases h
  ·rename_i b
   have b1:k≠1->o=Tree.nil/\n=Tree.nil:=by
    intro hk
    by_cases x:YW o=true/\YW n=true
    ·exact ⟨Z69 x.1,Z69 x.2⟩
    ·exact absurd (.inl ⟨hk,x⟩) b
   have b2:k≠2->w=[]/\ks=[]:=by
    intro hk
    by_cases x:w.length=0/\ks.length=0
    ·exact ⟨Q3 x.1,Q3 x.2⟩
    ·exact absurd (.inr (.inl ⟨hk,x⟩)) b
   have b3:k≠3->l=0/\os=[]:=by
    intro hk
    by_cases x:l≠0\/os.length≠0
    ·exact absurd (.inr (.inr ⟨hk,x⟩)) b
    ·exact ⟨by omega,Q3 (by omega)⟩
   split at h
   ·rename_i c
    simp only [Q1,decide_eq_true_eq] at h
    obtain ⟨⟨h1,h2⟩,h3,h4⟩:=h
    have c2:=b2 (by omega)
    have c3:=b3 (by omega)
    obtain ⟨rfl,rfl⟩:=c2
    obtain ⟨rfl,rfl⟩:=c3
    exact ⟨by omega,⟨by show 0<=k;omega,by show k<=3;omega⟩,b1,b2,b3,fun _=> ⟨h1,h2,h3,h4⟩,rfl,rfl,fun e=> by have e:k=3:=e;omega,rfl,by show Z0O [] 0 < _/\Z0N [] 0 < _;simp [Z0O,Z0N]⟩
   ·rename_i c
    simp only [Q1,decide_eq_true_eq] at h
    obtain ⟨⟨⟨⟨h1,h2⟩,h3⟩,h4⟩,h5⟩:=h
    exact ⟨by omega,⟨by show 0<=k;omega,by show k<=3;omega⟩,b1,b2,b3,fun e=> absurd e c,h1,h2,fun e=> by have e:k=3:=e;show 2<=l/\l<=9;omega,h4,h5⟩
theorem ZD:∀ {ks:List Kid} {last d:Int},Zx last ks d=true->∀ k∈ks,(last < k.at_/\k.at_<=65534/\k.e.kind≠0)/\Z6 k.e d=true
 | [],_,_,_,_,hk=> by cases hk
 | ⟨a,e⟩ ::r,last,d,h,k,hk=> by
  simp only [Zx,J5,Q1,decide_eq_true_eq] at h
  obtain ⟨⟨h1,h2⟩,h3⟩:=h
  rcases Qc.1 hk with rfl | hk
  ·exact ⟨h1,h2⟩
  ·have:=ZD h3 k hk
   have h1:last < a/\a<=65534/\e.kind≠0:=h1
   have h4:a < k.at_:=this.1.1
   exact ⟨⟨by omega,this.1.2⟩,this.2⟩
theorem rightOs_mem{list:Int}:∀ {os:List Op} {d:Int},ZA list os d=true->∀ o∈os,Zf list o d=true
 | [],_,_,_,ho=> by cases ho
 | a ::r,d,h,o,ho=> by
  simp only [ZA,Q1] at h
  rcases Qc.1 ho with rfl | ho
  ·exact h.1
  ·exact rightOs_mem h.2 o ho
theorem JH:∀ {ws:List WEdit} {last:Int},Y6 last ws=true->∀ w∈ws,last < w.at_/\w.at_<=65534/\w.mask≠0/\Yj w.old w.mask=true/\Yj w.new w.mask=true
 | [],_,_,_,hw=> by cases hw
 | a ::r,last,h,w,hw=> by
  simp only [Y6,Q1,decide_eq_true_eq] at h
  obtain ⟨⟨⟨h1,h2⟩,h3⟩,h4⟩:=h
  rcases Qc.1 hw with rfl | hw
  ·exact ⟨h1.1,h1.2.1,h1.2.2,h2,h3⟩
  ·have:=JH h4 w hw
   exact ⟨by omega,this.2⟩
inductive RightOp (list:Int) (d:Int):Op->Prop
 | keep (n:Int):1<=n->n<=1048576->RightOp list d ⟨0,n,[],Edit.nil⟩
 | gone (l:List Tree):Y0 (dT d) list l=true->0 < l.length->RightOp list d ⟨1,0,l,Edit.nil⟩
 | come (l:List Tree):Y0 (dT d) list l=true->0 < l.length->RightOp list d ⟨2,0,l,Edit.nil⟩
 | into (e:Edit):Z6 e d=true->e.kind≠0->7 < list->(list=8\/e.kind=2\/e.kind=1/\e.old.kind=1/\e.new.kind=1)->RightOp list d ⟨3,0,[],e⟩
theorem J4{list:Int}{o:Op}{d:Int}(h:Zf list o d=true):RightOp list d o:=by
 obtain ⟨k,n,l,e⟩:=o
 rw [Zf] at h
 split at h
 ·rename_i hk
  simp only [Q1,decide_eq_true_eq] at h
  obtain ⟨⟨h1,h2,h3⟩,h4⟩:=h
  rw [hk,ZeO h4,Q3 h3]
  exact .keep n h1 h2
 ·rename_i h0
  split at h
  ·cases h
  ·rename_i h1
   have hn:n=0:=by omega
   subst hn
   split at h
   ·rename_i h2
    simp only [Q1,decide_eq_true_eq] at h
    obtain ⟨⟨h3,h4⟩,h5⟩:=h
    rw [ZeO h5]
    by_cases hk:k=1
    ·rw [hk];exact .gone l h3 h4
    ·rw [show k=2 by omega];exact .come l h3 h4
   ·rename_i h2
    simp only [Q1,decide_eq_true_eq] at h
    obtain ⟨⟨⟨h3,h4,h5⟩,h6⟩,h7⟩:=h
    rw [show k=3 by omega,Q3 h3]
    exact .into e h6 h4 h5 h7
theorem J3{l d:Int}{o:Op}(h:Zf l o d=true)(hk:o.kind=3):Z6 o.e d=true:=by
 have r:=J4 h
 cases r with
 | into e h1=> exact h1
 | keep | gone | come=> exact absurd hk (by simp)
end Go.AM
namespace Go.AM.Ytpjenobkibfpcaa
open Go.AM Go.Proofs
theorem ZbC{α:Type}(z:α)(l:List α)(i:Nat)(x:α):(J1 z l i x).length=max l.length (i+1):=by
 simp only [J1,K1,Q6,QZ];omega
theorem ZeN{α:Type}(z:α)(l:List α)(i:Nat)(x:α)(j:Nat):(J1 z l i x).getD j z=if j=i then x else l.getD j z:=by
 simp only [J1,Qm,XP,Q6,QZ]
 by_cases h:j=i
 ·subst h;rw [if_pos rfl,if_pos rfl,if_pos (by omega)];try rfl
 ·rw [if_neg (fun e=> h e.symm),if_neg h]
  by_cases hl:j < l.length
  ·rw [Ql hl]
  ·rw [Qn (by omega),Qw (l:=l) (by omega),List.getElem?_replicate]
   split <;> rfl
theorem ZkD{a b c d:List Tree}(h:Z9 a=Z9 b)(hx:Z9 c=Z9 d):Z9 (a++c)=Z9 (b++d):=by
 rw [Z4P,Z4P,h,hx]
theorem Zci{a b:List Tree}(h:Z9 a=Z9 b):a.length=b.length:=by
 have:=congrArg List.length h
 simpa [Z9] using this
def EqvL(x y:List Tree):Prop:=Z9 x=Z9 y
theorem EqvL.take{x y:List Tree}(h:EqvL x y)(n:Nat):EqvL (x.take n) (y.take n):=by unfold EqvL Z9 at*;rw [List.map_take,List.map_take,h]
theorem EqvL.drop{x y:List Tree}(h:EqvL x y)(n:Nat):EqvL (x.drop n) (y.drop n):=by unfold EqvL Z9 at*;rw [List.map_drop,List.map_drop,h]
theorem ZfD{α β:Type}{f:α->β}(d:α){a b:List α}(hl:a.length=b.length)(h:∀ i:Nat,i < a.length->f (a.getD i d)=f (b.getD i d)):a.map f=b.map f:=by
 apply Kh (by simpa using hl)
 intro i h1 h2
 have h1':i < a.length:=by simpa using h1
 have h2':i < b.length:=by simpa using h2
 have:=h i h1'
 simpa [Qm,Q0 h1',Q0 h2'] using this
theorem ZfX{α β:Type}{f:α->β}{d:α}{a b:List α}(h:a.map f=b.map f)(i:Nat):f (a.getD i d)=f (b.getD i d):=by
 have e:=congrArg (fun l=> l[i]?.getD (f d)) h
 simp only [Qh] at e
 rw [Qm,Qm]
 cases h1:a[i]? <;> cases h2:b[i]? <;> simp_all
theorem Z2i(t:Tree):(Z7 t).kind=t.kind:=by
 obtain ⟨k,w,ks⟩:=t
 simp only [Z7]
 by_cases h0:k=0
 ·rw [if_pos h0,h0];try rfl
 ·rw [if_neg h0]
  by_cases h1:k=1
  ·rw [if_pos h1,h1];try rfl
  ·rw [if_neg h1];try rfl
theorem Z9I:∀ (l:List Int),∃ r,l=trim l++r
 | []=> ⟨[],rfl⟩
 | x ::r=> by
  obtain ⟨s,hs⟩:=Z9I r
  simp only [trim]
  split
  ·rename_i e
   split
   ·exact ⟨x ::r,rfl⟩
   ·exact ⟨r,rfl⟩
  ·rename_i y t e
   rw [e] at hs
   exact ⟨s,by rw [hs];rfl⟩
theorem Z76:∀ (l:List Tree),∃ r,l=ZQ l++r
 | []=> ⟨[],rfl⟩
 | x ::r=> by
  obtain ⟨s,hs⟩:=Z76 r
  simp only [ZQ]
  split
  ·rename_i e
   split
   ·exact ⟨x ::r,rfl⟩
   ·exact ⟨r,rfl⟩
  ·rename_i y t e
   rw [e] at hs
   exact ⟨s,by rw [hs];rfl⟩
theorem Zan{list d:Int}:∀ (a b:List Tree),YA list (a++b) d=true->YA list a d=true
 | [],_,_=> rfl
 | t ::r,b,h=> by
  simp only [Qs,YA,Q1] at h ⊢
  exact ⟨h.1,Zan r b h.2⟩
theorem Z0L:∀ (l:List Tree),(ZW l).length=l.length
 | []=> rfl
 | t ::r=> by simp only [ZW,Q9,Z0L r]
theorem ZkV{list:Int}{t:Tree}(h:Ze6 list t=true):Ze6 list (Z7 t)=true:=by
 unfold Ze6 at h ⊢
 rw [Z2i]
 split at h
 ·rename_i hl
  rw [if_pos hl]
  simp only [Q1,decide_eq_true_eq] at h ⊢
  obtain ⟨⟨h1,h2,h3⟩,h4⟩:=h
  obtain ⟨k,w,ks⟩:=t
  simp only [Tree.kind_mk,Tree.kids_mk,Tree.words_mk] at h1 h2 h3 h4
  have:ks=[]:=X5.1 h2
  subst this
  subst h1
  exact ⟨⟨rfl,rfl,h3⟩,h4⟩
 ·rename_i hl
  rw [if_neg hl]
  exact h
mutual
theorem Z3k:∀ (t:Tree) (d:Int),Zq t d=true->Zq (Z7 t) d=true
 | .mk k w ks,d,h=> by
  have ih:=fun (list:Int) (h:YA list ks (d - 1)=true)=> Z3m ks list (d - 1) h
  simp only [Zq] at h
  simp only [Z7]
  by_cases h0:k=0
  ·rw [if_pos h0];simp [Tree.nil,Zq]
  ·rw [if_neg h0] at h ⊢
   by_cases h10:k=10
   ·subst h10
    rw [if_pos rfl] at h
    rw [if_neg (by decide)]
    simp only [decide_eq_true_eq] at h
    simp only [Zq]
    rw [if_neg (by decide),if_pos trivial,Z0L]
    simpa using h
   ·rw [if_neg h10] at h
    by_cases hd:d=0
    ·rw [if_pos hd] at h;cases h
    ·rw [if_neg hd] at h
     by_cases h1:k=1
     ·subst h1
      rw [if_pos rfl] at h
      rw [if_pos rfl]
      simp only [Q1,decide_eq_true_eq] at h
      simp only [Zq]
      rw [if_neg (by decide),if_neg (by decide),if_neg hd,if_pos trivial]
      simp only [Q1,decide_eq_true_eq]
      obtain ⟨r1,e1⟩:=Z9I w
      obtain ⟨r2,e2⟩:=Z76 (ZW ks)
      have l1:=congrArg List.length e1
      have l2:=congrArg List.length e2
      rw [Z0L] at l2
      simp only [Q6] at l1 l2
      refine ⟨⟨by omega,by omega⟩,?_⟩
      have:=ih 1 h.2
      rw [e2] at this
      exact Zan _ _ this
     ·rw [if_neg h1] at h ⊢
      simp only [Q1,decide_eq_true_eq] at h
      simp only [Zq]
      rw [if_neg h0,if_neg h10,if_neg hd,if_neg h1,Z0L]
      simp only [Q1,decide_eq_true_eq]
      exact ⟨h.1,ih k h.2⟩
theorem Z3m:∀ (l:List Tree) (list d:Int),YA list l d=true->YA list (ZW l) d=true
 | [],_,_,_=> rfl
 | t ::r,list,d,h=> by
  simp only [YA,Q1] at h
  have h1:=Z3k t d h.1.2
  have h2:=Z3m r list d h.2
  simp only [ZW,YA,Q1]
  exact ⟨⟨ZkV h.1.1,h1⟩,h2⟩
end
theorem Z7C:∀ (a b:List Tree),Z4 (a++b)=Z4 a+Z4 b
 | [],b=> by simp [Z4]
 | t ::r,b=> by simp only [Qs,Z4,Z7C r b];omega
theorem JE:∀ (a b:List Op),Zg (a++b)=Zg a+Zg b
 | [],b=> by simp [Zg]
 | t ::r,b=> by simp only [Qs,Zg,JE r b];omega
theorem Z3D:∀ (l:List Tree),Z4 (Z9 l)<=Z4 l
 | []=> by simp [Z9,Z4]
 | t ::r=> by
  have h:=Z3D r
  have h2:=J8 t
  simp only [Z9] at h
  simp only [Z9,QW,Z4]
  omega
theorem Z4g:Z5 Edit.nil=3:=by simp [Edit.nil,Tree.nil,Z5,Zj,Z4,ZN,Zg]
theorem Z10:Zj Tree.nil=1:=by simp [Tree.nil,Zj,Z4]
theorem Z4f(t:Tree):1<=Zj t:=by cases t;simp only [Zj];omega
theorem Z8s:∀ (e:Edit),3<=Z5 e
 | .mk k o n w ks l os=> by
  have h1:=Z4f o
  have h2:=Z4f n
  simp only [Z5];omega
def Z3r(w:Wst):Nat:=Zg w.out+w.out.length+Z4 w.gone+Z4 w.brought+(if w.gone.length=0 then 0 else 4)+(if w.brought.length=0 then 0 else 4)
theorem JD(o:Op):Zg [o]=Zs o:=by simp [Zg]
theorem Z11(k n:Int)(l:List Tree)(e:Edit):Zs (OpOf.mk k n l e)=Z4 l+Z5 e:=rfl
theorem Z7r(w:Wst):Zg (Z0 w).out+(Z0 w).out.length=Z3r w:=by
 simp only [Z0,Z0e,Z3r]
 rw [JE,JE,Q6,Q6]
 by_cases hg:w.gone.length=0
 ·have e:w.gone=[]:=X5.1 hg
  rw [if_pos hg,if_pos hg,e]
  by_cases hb:w.brought.length=0
  ·have e2:w.brought=[]:=X5.1 hb
   rw [if_pos hb,if_pos hb,e2];simp [Zg,Z4]
  ·rw [if_neg hb,if_neg hb,JD,Z11,Z4g];simp [Zg,Z4];omega
 ·rw [if_neg hg,if_neg hg,JD,Z11,Z4g]
  by_cases hb:w.brought.length=0
  ·have e2:w.brought=[]:=X5.1 hb
   rw [if_pos hb,if_pos hb,e2];simp [Zg,Z4];omega
  ·rw [if_neg hb,if_neg hb,JD,Z11,Z4g];simp;omega
theorem Zff(w:Wst)(n:Int):Z3r (ZL w n)<=Z3r w+4:=by
 have h:=Z7r w
 have e:Z3r (ZL w n)=Zg (Z0C (Z0 w).out n)+(Z0C (Z0 w).out n).length:=by simp [Z3r,ZL,Z4]
 rw [e]
 rcases Jg (Z0 w).out n with e | ⟨a,o,e1,_,e3⟩
 ·rw [e,JE,Q6,JD,Z11,Z4g];simp [Z4];omega
 ·rw [e3,JE,Q6,JD]
  rw [e1,JE,Q6,JD] at h
  obtain ⟨k,m,l,e⟩:=o
  simp only [Z11] at h ⊢
  simp at h ⊢
  omega
theorem ZsP{list:Int}{w:Wst}{o:Op}(hi:Z5 (ZE o.e)<=Z5 o.e):Z3r (Z05 list o w)<=Z3r w+Zs o+1:=by
 have h3:=Z8s o.e
 have hm:Zs o=Z4 o.l+Z5 o.e:=by cases o;rfl
 have hn:=Z3D o.l
 have hl:(Z9 o.l).length=o.l.length:=by simp [Z9]
 rw [Z2d]
 split
 ·have:=Zff w o.n;omega
 ·split
  ·simp only [Z3r,Z7C,Q6,hl]
   split <;> split <;> split <;> omega
  ·split
   ·simp only [Z3r,Z7C,Q6,hl]
    split <;> split <;> split <;> omega
   ·split
    ·split
     ·have:=Zff w 1;omega
     ·have:=Z7r w
      have e:Z3r ⟨(Z0 w).out++[⟨3,0,[],ZE o.e⟩],[],[]⟩=Zg ((Z0 w).out++[(⟨3,0,[],ZE o.e⟩:Op)])+((Z0 w).out++[(⟨3,0,[],ZE o.e⟩:Op)]).length:=by simp [Z3r,Z4]
      rw [e,JE,Q6,JD,Z11]
      simp [Z4];omega
    ·omega
mutual
theorem Z4h:∀ (e:Edit),Z5 (ZE e)<=Z5 e
 | .mk k o n w ks l os=> by
  have h1:=Zb2 ks
  have h2:=Zin l os W0
  have h3:=Z7r (ZP l os W0)
  have e0:Z3r W0=0:=rfl
  have po:=Z4f o
  have pn:=Z4f n
  have mo:=J8 o
  have mn:=J8 n
  rw [ZE]
  split
  ·simp only [Z5,ZN,Zg,Qb];omega
  ·split
   ·simp only [Z5,ZN,Zg,Qb,Z10];omega
   ·split
    ·simp only [Z5,ZN,Qb,Z10]
     show 1+1+1+0+(Z0 (ZP l os W0)).out.length+0+Zg (Z0 (ZP l os W0)).out<=_
     omega
    ·simp only [Z5,ZN,Zg,Qb,Z10];omega
theorem Zb2:∀ (ks:List (KidOf Edit)),ZN (JU ks)<=ZN ks
 | []=> Qd _
 | k ::r=> by
  have h1:=ZfC k
  have h2:=Zb2 r
  simp only [JU,ZN];omega
theorem ZfC:∀ (k:KidOf Edit),Jn (Z1R k)<=Jn k
 | ⟨a,e⟩=> by
  have h:=Z4h e
  simp only [Z1R,Jn];exact h
theorem Zin(list:Int):∀ (os:List (OpOf Edit)) (w:Wst),Z3r (ZP list os w)<=Z3r w+Zg os+os.length
 | [],w=> by simp [ZP,Zg]
 | o ::r,w=> by
  have h1:=Zkt list o w
  have h2:=Zin list r (Z05 list o w)
  simp only [ZP,Zg,Q9];omega
theorem Zkt(list:Int):∀ (o:OpOf Edit) (w:Wst),Z3r (Z05 list o w)<=Z3r w+Zs o+1
 | ⟨k,n,l,e⟩,_=> ZsP (o:=⟨k,n,l,e⟩) (Z4h e)
end
theorem Zch(e:Edit):(ZE e).kind=e.kind:=by
 rw [Z4c]
 split
 ·try rfl
 ·split
  ·try rfl
  ·split <;> rfl
theorem Zfs(e:Edit)(h:e.kind=1):(ZE e).old=Z7 e.old/\(ZE e).new=Z7 e.new:=by
 rw [Z4c,if_pos h]
 exact ⟨rfl,rfl⟩
theorem Zgu{D list:Int}{t:Tree}(hD:D≠0)(h:Zq (.mk list [] [t]) D=true):Zq (.mk list [] [Z7 t]) D=true:=by
 have key:=fun (k d:Int) (h:YA k [t] d=true)=> Z3m [t] k d h
 simp only [ZW] at key
 simp only [Zq] at h ⊢
 split at h
 ·simp at h
 ·rename_i h0
  rw [if_neg h0]
  split at h
  ·simp at h
  ·rename_i h1
   rw [if_neg h1]
   try rw [if_neg hD] at h
   try rw [if_neg hD]
   split at h
   ·rename_i h2
    rw [if_pos h2]
    simp only [Q1] at h ⊢
    exact ⟨h.1,key _ _ h.2⟩
   ·rename_i h2
    rw [if_neg h2]
    simp only [Q1] at h ⊢
    exact ⟨h.1,key _ _ h.2⟩
theorem Z1M{D list:Int}(hD:D≠0):∀ {l:List Tree},Y0 D list l=true->Y0 D list (Z9 l)=true
 | [],_=> rfl
 | t ::r,h=> by
  simp only [Y0,Q1] at h
  have h2:=Z1M hD h.2
  simp only [Z9] at h2
  simp only [Z9,QW,Y0,Q1]
  exact ⟨Zgu hD h.1,h2⟩
theorem Z38{D list:Int}:∀ {a b:List Tree},Y0 D list a=true->Y0 D list b=true->Y0 D list (a++b)=true
 | [],_,_,h=> h
 | t ::r,b,h,h2=> by
  simp only [Y0,Q1] at h
  simp only [Qs,Y0,Q1]
  exact ⟨h.1,Z38 h.2 h2⟩
def rOp(list:Int)(d:Int)(o:Op):Prop:=(o.kind=0->1<=o.n/\o.l.length=0/\Z0A o.e=true)/\(o.kind≠0->Zf list o d=true)
theorem Z7k{list d:Int}{o:Op}(h:Zf list o d=true):rOp list d o:=by
 refine ⟨fun hk=> ?_,fun _=> h⟩
 obtain ⟨k,n,l,e⟩:=o
 simp only at hk
 subst hk
 simp only [Zf,if_true,Q1,decide_eq_true_eq] at h
 exact ⟨h.1.1,h.1.2.2,h.2⟩
theorem ZsL{list d:Int}{o:Op}(h:rOp list d o)(hn:o.kind=0->o.n<=1048576):Zf list o d=true:=by
 by_cases hk:o.kind=0
 ·have h1:=h.1 hk
  have h2:=hn hk
  obtain ⟨k,n,l,e⟩:=o
  simp only at hk h1 h2
  subst hk
  simp only [Zf,if_true,Q1,decide_eq_true_eq]
  exact ⟨⟨h1.1,h2,h1.2.1⟩,h1.2.2⟩
 ·exact h.2 hk
theorem Z0q{list:Int}:∀ {os:List Op} {d:Int},ZA list os d=true↔∀ o∈os,Zf list o d=true
 | [],d=> by simp [ZA]
 | o ::r,d=> by
  simp only [ZA,Q1,Qc,forall_eq_or_imp]
  rw [Z0q (os:=r)]
theorem Z18:Z0A Edit.nil=true:=rfl
structure OkW (list d:Int) (w:Wst):Prop where
 out:∀ o∈w.out,rOp list d o
 gone:Y0 (dT d) list w.gone=true
 brought:Y0 (dT d) list w.brought=true
theorem Z7u{list d:Int}{w:Wst}(h:OkW list d w):OkW list d (Z0 w):=by
 refine ⟨?_,rfl,rfl⟩
 simp only [Z0,Z0e]
 intro o ho
 rcases Qf.1 ho with ho | ho
 ·exact h.out o ho
 rcases Qf.1 ho with ho | ho
 ·split at ho
  ·cases ho
  ·rename_i hl
   simp only [Qi] at ho
   subst ho
   refine ⟨fun hk=> (by cases hk),fun _=> ?_⟩
   simp only [Zf]
   rw [if_neg (by decide),if_neg (by decide),if_pos (by decide),h.gone,Z18]
   simp only [QX,Qz,decide_eq_true_eq]
   omega
 ·split at ho
  ·cases ho
  ·rename_i hl
   simp only [Qi] at ho
   subst ho
   refine ⟨fun hk=> (by cases hk),fun _=> ?_⟩
   simp only [Zf]
   rw [if_neg (by decide),if_neg (by decide),if_pos (by decide),h.brought,Z18]
   simp only [QX,Qz,decide_eq_true_eq]
   omega
theorem Zfr{list d:Int}{w:Wst}{n:Int}(h:OkW list d w)(hn:1<=n):OkW list d (ZL w n):=by
 have hf:=Z7u h
 refine ⟨?_,rfl,rfl⟩
 simp only [ZL]
 intro o ho
 rcases Jg (Z0 w).out n with e | ⟨a,q,e1,e2,e3⟩
 ·rw [e] at ho
  rcases Qf.1 ho with ho | ho
  ·exact hf.out o ho
  ·simp only [Qi] at ho
   subst ho
   exact ⟨fun _=> ⟨hn,rfl,Z18⟩,fun hk=> absurd rfl hk⟩
 ·rw [e3] at ho
  rcases Qf.1 ho with ho | ho
  ·exact hf.out o (by rw [e1];exact Qf.2 (Or.inl ho))
  ·simp only [Qi] at ho
   subst ho
   have hq:=(hf.out q (by rw [e1];simp)).1 e2
   exact ⟨fun _=> ⟨by simp only;omega,hq.2⟩,fun hk=> absurd e2 hk⟩
theorem ZsY{list d:Int}{w:Wst}{o:Op}(h:OkW list d w)(hr:Zf list o d=true)(hi:Z6 o.e d=true->Z6 (ZE o.e) d=true):OkW list d (Z05 list o w):=by
 obtain ⟨k,n,l,e⟩:=o
 have hr0:=hr
 rw [Zf] at hr
 rw [Z2d]
 simp only at hi ⊢
 split at hr
 ·rename_i hk
  rw [if_pos hk]
  simp only [Q1,decide_eq_true_eq] at hr
  exact Zfr h hr.1.1
 ·rename_i hk
  rw [if_neg hk]
  split at hr
  ·cases hr
  ·rename_i hn
   split at hr
   ·rename_i h3
    simp only [Q1,decide_eq_true_eq] at hr
    by_cases k1:k=1
    ·rw [if_pos k1]
     exact ⟨h.out,Z38 h.gone (Z1M (Zse d) hr.1.1),h.brought⟩
    ·rw [if_neg k1,if_pos (by omega)]
     exact ⟨h.out,h.gone,Z38 h.brought (Z1M (Zse d) hr.1.1)⟩
   ·rename_i h3
    rw [if_neg (by omega),if_neg (by omega),if_pos (by omega)]
    split
    ·exact Zfr h (by decide)
    ·have hf:=Z7u h
     refine ⟨?_,rfl,rfl⟩
     intro o ho
     rcases Qf.1 ho with ho | ho
     ·exact hf.out o ho
     ·simp only [Qi] at ho
      subst ho
      refine ⟨fun hk=> (by cases hk),fun _=> ?_⟩
      simp only [Q1,decide_eq_true_eq] at hr
      simp only [Zf]
      rw [if_neg (by decide),if_neg (by decide),if_neg (by decide),Zch,hi hr.1.2]
      simp only [QX,Q1,decide_eq_true_eq]
      refine ⟨⟨rfl,hr.1.1.2⟩,?_⟩
      rcases hr.2 with h | h | h
      ·exact Or.inl h
      ·exact Or.inr (Or.inl h)
      ·rw [(Zfs e h.1).1,(Zfs e h.1).2,Z2i,Z2i]
       exact Or.inr (Or.inr h)
def Yy:List Op->Int
 | []=> 0
 | o ::r=> (if o.kind=2 then 0 else Z1 o)+Yy r
def Y7:List Op->Int
 | []=> 0
 | o ::r=> (if o.kind=1 then 0 else Z1 o)+Y7 r
theorem Z20:∀ (a b:List Op),Yy (a++b)=Yy a+Yy b
 | [],b=> by simp [Yy]
 | o ::r,b=> by simp only [Qs,Yy,Z20 r b];omega
theorem Z1Z:∀ (a b:List Op),Y7 (a++b)=Y7 a+Y7 b
 | [],b=> by simp [Y7]
 | o ::r,b=> by simp only [Qs,Y7,Z1Z r b];omega
theorem JW:∀ (l:List Op) (n:Int),(∀ o∈l,0<=Z1 o)->0<=n->n<=1048576->Z0O l n=min (n+Yy l) 1048576/\0<=Yy l
 | [],n,_,h1,h2=> by simp only [Z0O,Yy];omega
 | o ::r,n,h,h1,h2=> by
  have ho:=h o (Q5 ..)
  simp only [Z0O,Yy]
  have hx:0<=(if o.kind=2 then n else n+Z1 o)/\(if o.kind=2 then n else n+Z1 o)=n+(if o.kind=2 then 0 else Z1 o):=by split <;> omega
  have hy:0<=(if o.kind=2 then 0 else Z1 o):=by split <;> omega
  rw [hx.2]
  rw [hx.2] at hx
  generalize (if o.kind=2 then 0 else Z1 o)=y at*
  obtain ⟨e1,e2⟩:=JW r (min (n+y) 1048576) (fun x hx=> h x (Q4 _ hx)) (by omega) (by omega)
  rw [e1]
  omega
theorem Z0s:∀ (l:List Op) (n:Int),(∀ o∈l,0<=Z1 o)->0<=n->n<=1048576->Z0N l n=min (n+Y7 l) 1048576/\0<=Y7 l
 | [],n,_,h1,h2=> by simp only [Z0N,Y7];omega
 | o ::r,n,h,h1,h2=> by
  have ho:=h o (Q5 ..)
  simp only [Z0N,Y7]
  have hx:0<=(if o.kind=1 then n else n+Z1 o)/\(if o.kind=1 then n else n+Z1 o)=n+(if o.kind=1 then 0 else Z1 o):=by split <;> omega
  have hy:0<=(if o.kind=1 then 0 else Z1 o):=by split <;> omega
  rw [hx.2]
  rw [hx.2] at hx
  generalize (if o.kind=1 then 0 else Z1 o)=y at*
  obtain ⟨e1,e2⟩:=Z0s r (min (n+y) 1048576) (fun x hx=> h x (Q4 _ hx)) (by omega) (by omega)
  rw [e1]
  omega
theorem Z0J{list d:Int}{o:Op}(h:rOp list d o):0<=Z1 o:=by
 unfold Z1
 split
 ·decide
 ·by_cases hk:o.kind=0
  ·have:=(h.1 hk).1;omega
  ·have hr:=h.2 hk
   obtain ⟨k,n,l,e⟩:=o
   simp only at hk ⊢
   rw [Zf,if_neg hk] at hr
   split at hr
   ·cases hr
   ·omega
theorem ZeK:∀ {l:List Op} {o:Op},(∀ o∈l,0<=Z1 o)->o∈l->o.kind≠2->Z1 o<=Yy l
 | a ::r,o,h,ho,hk=> by
  have hr:=(JW r 0 (fun x hx=> h x (Q4 _ hx)) (by decide) (by decide)).2
  have ha:=h a (Q5 ..)
  simp only [Yy]
  rcases Qc.1 ho with rfl | ho
  ·rw [if_neg hk];omega
  ·have:=ZeK (fun x hx=> h x (Q4 _ hx)) ho hk
   split <;> omega
def sA(w:Wst):Int:=Yy w.out+w.gone.length
def sB(w:Wst):Int:=Y7 w.out+w.brought.length
theorem Z3V(w:Wst):Yy (Z0 w).out=sA w/\Y7 (Z0 w).out=sB w:=by
 simp only [Z0,Z0e,sA,sB,Z20,Z1Z]
 constructor
 ·by_cases hg:w.gone.length=0
  ·rw [if_pos hg]
   by_cases hb:w.brought.length=0
   ·rw [if_pos hb];simp [Yy];omega
   ·rw [if_neg hb];simp [Yy];omega
  ·rw [if_neg hg]
   by_cases hb:w.brought.length=0
   ·rw [if_pos hb];simp [Yy,Z1]
   ·rw [if_neg hb];simp [Yy,Z1]
 ·by_cases hg:w.gone.length=0
  ·rw [if_pos hg]
   by_cases hb:w.brought.length=0
   ·rw [if_pos hb];simp [Y7];omega
   ·rw [if_neg hb];simp [Y7,Z1]
  ·rw [if_neg hg]
   by_cases hb:w.brought.length=0
   ·rw [if_pos hb];simp [Y7];omega
   ·rw [if_neg hb];simp [Y7,Z1]
theorem ZeJ(w:Wst)(n:Int):sA (ZL w n)=sA w+n/\sB (ZL w n)=sB w+n:=by
 have hf:=Z3V w
 simp only [ZL]
 have e1:∀ x,sA ⟨x,[],[]⟩=Yy x:=fun x=> by simp [sA]
 have e2:∀ x,sB ⟨x,[],[]⟩=Y7 x:=fun x=> by simp [sB]
 rw [e1,e2,<-hf.1,<-hf.2]
 rcases Jg (Z0 w).out n with e | ⟨a,q,e1,e2,e3⟩
 ·rw [e,Z20,Z1Z]
  simp [Yy,Y7,Z1]
 ·rw [e3,e1,Z20,Z1Z,Z20,Z1Z]
  simp only [Yy,Y7,Z1,e2]
  simp
  omega
theorem ZsB{list d:Int}{w:Wst}{o:Op}(hr:Zf list o d=true):sA (Z05 list o w)=sA w+(if o.kind=2 then 0 else Z1 o)/\sB (Z05 list o w)=sB w+(if o.kind=1 then 0 else Z1 o):=by
 have hl:∀ l,((Z9 l).length:Int)=l.length:=fun l=> by simp [Z9]
 obtain ⟨k,n,l,e⟩:=o
 rw [Zf] at hr
 rw [Z2d]
 simp only [Z1]
 split at hr
 ·rename_i hk
  subst hk
  rw [if_pos rfl]
  simp only [Q1,decide_eq_true_eq] at hr
  have:=ZeJ w n
  simp
  omega
 ·rename_i hk
  rw [if_neg hk]
  split at hr
  ·cases hr
  ·rename_i hn
   split at hr
   ·rename_i h3
    by_cases k1:k=1
    ·subst k1
     rw [if_pos rfl]
     simp only [sA,sB,Q6]
     simp [hl]
     omega
    ·have k2:k=2:=by omega
     subst k2
     rw [if_neg k1,if_pos rfl]
     simp only [sA,sB,Q6]
     simp [hl]
     omega
   ·rename_i h3
    have k3:k=3:=by omega
    subst k3
    rw [if_neg (by omega),if_neg (by omega),if_pos rfl]
    split
    ·have:=ZeJ w 1
     simp
     omega
    ·have:=Z3V w
     simp only [sA,sB,Z20,Z1Z,Yy,Y7,Z1] at this ⊢
     simp
     omega
mutual
theorem YO:∀ (e:Edit) (d:Int),Z6 e d=true->Z6 (ZE e) d=true
 | .mk k o n w ks l os,d,h=> by
  have h1:=Z8b ks
  have h2:=Zit l os
  have h4:=ZcS l os
  rw [Z6] at h
  split at h
  ·cases h
  ·rename_i a
   split at h
   ·cases h
   ·rename_i b
    have nn:YW Tree.nil=true:=rfl
    by_cases k1:k=1
    ·subst k1
     rw [if_pos rfl] at h
     have hl:l=0:=by
      apply XH
      intro hl
      exact b (.inr (.inr ⟨by decide,.inl hl⟩))
     simp only [Q1,decide_eq_true_eq] at h
     rw [ZE,if_pos rfl,Z6,if_neg a,if_neg (by simp [hl]),if_pos rfl]
     simp only [Q1,decide_eq_true_eq]
     rw [Z2i,Z2i]
     exact ⟨⟨Z3k _ _ h.1.1,Z3k _ _ h.1.2⟩,h.2⟩
    ·rw [if_neg k1] at h
     simp only [Q1,decide_eq_true_eq] at h
     obtain ⟨⟨⟨⟨x1,x2⟩,x3⟩,x4⟩,x5⟩:=h
     rw [ZE,if_neg k1]
     by_cases k2:k=2
     ·have hl:l=0:=by
       apply XH
       intro hl
       exact b (.inr (.inr ⟨by omega,.inl hl⟩))
      rw [if_pos k2,Z6,if_neg a,if_neg (by simp [nn,hl,k2]),if_neg k1]
      simp only [Q1,decide_eq_true_eq]
      exact ⟨⟨⟨⟨x1,h1 _ _ x2⟩,x3⟩,rfl⟩,by decide⟩
     ·rw [if_neg k2]
      by_cases k3:k=3
      ·rw [if_pos k3,Z6,if_neg a,if_neg (by simp [nn,k3]),if_neg k1]
       simp only [Q1,decide_eq_true_eq]
       have hall:=Z0q.1 x4
       obtain ⟨y1,y2⟩:=JW os 0 (fun o ho=> Z0J (Z7k (hall o ho))) (by decide) (by decide)
       obtain ⟨z1,z2⟩:=Z0s os 0 (fun o ho=> Z0J (Z7k (hall o ho))) (by decide) (by decide)
       have hw:=h2 (d - 1) W0 x4 ⟨fun o ho=> (by cases ho),rfl,rfl⟩
       have hs:=h4 (d - 1) W0 x4
       have hff:=Z7u hw
       have hsf:=Z3V (ZP l os W0)
       have e0:sA W0=0/\sB W0=0:=⟨rfl,rfl⟩
       have hA:=JW (Z0 (ZP l os W0)).out 0 (fun o ho=> Z0J (hff.out o ho)) (by decide) (by decide)
       have hB:=Z0s (Z0 (ZP l os W0)).out 0 (fun o ho=> Z0J (hff.out o ho)) (by decide) (by decide)
       refine ⟨⟨⟨⟨rfl,rfl⟩,x3⟩,Z0q.2 (fun o ho=> ZsL (hff.out o ho) (fun hk=> ?_))⟩,?_,?_⟩
       ·have hm:=ZeK (fun o ho=> Z0J (hff.out o ho)) ho (by omega)
        unfold Z1 at hm
        rw [if_neg (by omega)] at hm
        omega
       ·show Z0O (Z0 (ZP l os W0)).out 0 < 1048576
        omega
       ·show Z0N (Z0 (ZP l os W0)).out 0 < 1048576
        omega
      ·have hl:l=0:=by
        apply XH
        intro hl
        exact b (.inr (.inr ⟨k3,.inl hl⟩))
       rw [if_neg k3,Z6,if_neg a,if_neg (by simp [nn,hl]),if_neg k1]
       simp only [Q1,decide_eq_true_eq]
       exact ⟨⟨⟨⟨rfl,rfl⟩,x3⟩,rfl⟩,by decide⟩
theorem Z8b:∀ (ks:List (KidOf Edit)) (last d:Int),Zx last ks d=true->Zx last (JU ks) d=true
 | [],_,_,_=> rfl
 | k ::r,last,d,h=> by
  simp only [Zx,Q1] at h
  have h1:=Zd6 k last d h.1
  have h2:=Z8b r k.at_ d h.2
  simp only [JU,Zx,Q1]
  exact ⟨h1,by rw [Zcg];exact h2⟩
theorem Zd6:∀ (k:KidOf Edit) (last d:Int),J5 last k d=true->J5 last (Z1R k) d=true
 | ⟨a,e⟩,last,d,h=> by
  simp only [J5,Q1] at h
  have h1:=YO e d h.2
  simp only [Z1R,J5,Q1]
  rw [Zch]
  exact ⟨h.1,h1⟩
theorem Zit(list:Int):∀ (os:List (OpOf Edit)) (d:Int) (w:Wst),ZA list os d=true->OkW list d w->OkW list d (ZP list os w)
 | [],_,_,_,hw=> hw
 | o ::r,d,w,h,hw=> by
  simp only [ZA,Q1] at h
  have h1:=Zkz list o d w h.1 hw
  exact Zit list r d _ h.2 h1
theorem Zkz(list:Int):∀ (o:OpOf Edit) (d:Int) (w:Wst),Zf list o d=true->OkW list d w->OkW list d (Z05 list o w)
 | ⟨k,n,l,e⟩,d,w,h,hw=> ZsY (o:=⟨k,n,l,e⟩) hw h (fun he=> YO e d he)
theorem ZcS(list:Int):∀ (os:List (OpOf Edit)) (d:Int) (w:Wst),ZA list os d=true->sA (ZP list os w)=sA w+Yy os/\sB (ZP list os w)=sB w+Y7 os
 | [],_,_,_=> by simp [ZP,Yy,Y7]
 | o ::r,d,w,h=> by
  simp only [ZA,Q1] at h
  have h1:=ZsB (w:=w) h.1
  have h2:=ZcS list r d (Z05 list o w) h.2
  simp only [ZP,Yy,Y7]
  omega
end
theorem Z5Q:∀ {a b:List Tree},YG (a++b)↔YG a/\YG b
 | [],b=> by simp [YG]
 | t ::r,b=> by simp only [Qs,YG];rw [Z5Q (a:=r),and_assoc]
mutual
theorem Z5O:∀ (t:Tree),rng t->rng (Z7 t)
 | .mk k w ks,h=> by
  simp only [rng] at h
  obtain ⟨h1,h2,h3⟩:=h
  have h4:=Zc3 ks h3
  simp only [Z7]
  split
  ·simp only [Tree.nil,rng,YG]
   exact ⟨by decide,by simp,trivial⟩
  ·split
   ·obtain ⟨r1,e1⟩:=Z9I w
    obtain ⟨r2,e2⟩:=Z76 (ZW ks)
    simp only [rng]
    refine ⟨by decide,fun x hx=> h2 x (by rw [e1];exact Qf.2 (Or.inl hx)),?_⟩
    rw [e2] at h4
    exact (Z5Q.1 h4).1
   ·simp only [rng]
    exact ⟨h1,h2,h4⟩
theorem Zc3:∀ (l:List Tree),YG l->YG (ZW l)
 | [],_=> trivial
 | t ::r,h=> by
  simp only [YG] at h
  have h1:=Z5O t h.1
  have h2:=Zc3 r h.2
  simp only [ZW,YG]
  exact ⟨h1,h2⟩
end
theorem Z50:∀ {l:List Tree},YG l->YG (Z9 l)
 | [],_=> trivial
 | t ::r,h=> by
  simp only [YG] at h
  have h2:=Z50 h.2
  simp only [Z9] at h2
  simp only [Z9,QW,YG]
  exact ⟨Z5O t h.1,h2⟩
theorem Z0o:rng Tree.nil:=by
 simp only [Tree.nil,rng,YG]
 exact ⟨by decide,by simp,trivial⟩
structure RngW (w:Wst):Prop where
 out:∀ o∈w.out,YG o.l/\Yz o.e
 gone:YG w.gone
 brought:YG w.brought
theorem Z43:Yz Edit.nil:=by
 simp only [Edit.nil,Yz,Z25,Z1b]
 exact ⟨by unfold InR;omega,Z0o,Z0o,by simp,by unfold InR;omega,trivial,trivial⟩
theorem Z4Z{w:Wst}(h:RngW w):RngW (Z0 w):=by
 refine ⟨?_,trivial,trivial⟩
 simp only [Z0,Z0e]
 intro o ho
 rcases Qf.1 ho with ho | ho
 ·exact h.out o ho
 rcases Qf.1 ho with ho | ho
 ·split at ho
  ·cases ho
  ·simp only [Qi] at ho
   subst ho
   exact ⟨h.gone,Z43⟩
 ·split at ho
  ·cases ho
  ·simp only [Qi] at ho
   subst ho
   exact ⟨h.brought,Z43⟩
theorem Zc0{w:Wst}{n:Int}(h:RngW w):RngW (ZL w n):=by
 have hf:=Z4Z h
 refine ⟨?_,trivial,trivial⟩
 simp only [ZL]
 intro o ho
 rcases Jg (Z0 w).out n with e | ⟨a,q,e1,e2,e3⟩
 ·rw [e] at ho
  rcases Qf.1 ho with ho | ho
  ·exact hf.out o ho
  ·simp only [Qi] at ho
   subst ho
   exact ⟨trivial,Z43⟩
 ·rw [e3] at ho
  rcases Qf.1 ho with ho | ho
  ·exact hf.out o (by rw [e1];exact Qf.2 (Or.inl ho))
  ·simp only [Qi] at ho
   subst ho
   exact hf.out q (by rw [e1];simp)
theorem Zi1{list:Int}{w:Wst}{o:Op}(h:RngW w)(hl:YG o.l)(he:Yz (ZE o.e)):RngW (Z05 list o w):=by
 rw [Z2d]
 split
 ·exact Zc0 h
 ·split
  ·exact ⟨h.out,Z5Q.2 ⟨h.gone,Z50 hl⟩,h.brought⟩
  ·split
   ·exact ⟨h.out,h.gone,Z5Q.2 ⟨h.brought,Z50 hl⟩⟩
   ·split
    ·split
     ·exact Zc0 h
     ·refine ⟨?_,trivial,trivial⟩
      intro o ho
      rcases Qf.1 ho with ho | ho
      ·exact (Z4Z h).out o ho
      ·simp only [Qi] at ho
       subst ho
       exact ⟨trivial,he⟩
    ·exact h
theorem Z89:∀ {os:List Op},(∀ o∈os,Z1D o)->Z1b os
 | [],_=> trivial
 | o ::r,h=> by
  simp only [Z1b]
  exact ⟨h o (Q5 ..),Z89 (fun x hx=> h x (Q4 _ hx))⟩
theorem ZeV{list d:Int}{o:Op}(h:Zf list o d=true)(hl:YG o.l)(he:Yz o.e):Z1D o:=by
 have hn:=Z7f h
 obtain ⟨k,n,l,e⟩:=o
 simp only at hn hl he
 simp only [Z1D]
 refine ⟨?_,by unfold InR;omega,hl,he⟩
 rw [Zf] at h
 unfold InR
 split at h
 ·omega
 ·split at h
  ·cases h
  ·omega
mutual
theorem Z26:∀ (e:Edit) (d:Int),Z6 e d=true->Yz e->Yz (ZE e)
 | .mk k o n w ks l os,d,hr,h=> by
  have hin:=Z7g hr
  have hout:=Z7g (YO _ _ hr)
  simp only [Edit.kids_mk,Edit.ops_mk,Edit.list_mk] at hin
  simp only [Yz] at h
  obtain ⟨h1,h2,h3,h4,h5,h6,h7⟩:=h
  have i6:=Zc2 ks (d - 1) (fun k hk=> (hin.1 k hk).1) h6
  have i7:=Zc1 l os (d - 1) hin.2 h7 W0 ⟨fun o ho=> (by cases ho),trivial,trivial⟩
  rw [ZE] at hout ⊢
  by_cases k1:k=1
  ·rw [if_pos k1]
   simp only [Yz]
   exact ⟨h1,Z5O o h2,Z5O n h3,by simp,h5,trivial,trivial⟩
  ·rw [if_neg k1] at hout ⊢
   by_cases k2:k=2
   ·rw [if_pos k2]
    simp only [Yz]
    exact ⟨h1,Z0o,Z0o,h4,h5,i6,trivial⟩
   ·rw [if_neg k2] at hout ⊢
    by_cases k3:k=3
    ·rw [if_pos k3] at hout ⊢
     simp only [Yz]
     refine ⟨h1,Z0o,Z0o,by simp,h5,trivial,Z89 (fun q hq=> ?_)⟩
     have hx:=hout.2 q hq
     have hy:=(Z4Z i7).out q hq
     exact ZeV hx hy.1 hy.2
    ·rw [if_neg k3]
     simp only [Yz]
     exact ⟨h1,Z0o,Z0o,by simp,h5,trivial,trivial⟩
theorem Zc2:∀ (ks:List (KidOf Edit)) (d:Int),(∀ k∈ks,Z6 k.e d=true)->Z25 ks->Z25 (JU ks)
 | [],_,_,_=> trivial
 | k ::r,d,hr,h=> by
  simp only [Z25] at h
  have h1:=Zgt k d (hr k (Q5 ..)) h.1
  have h2:=Zc2 r d (fun x hx=> hr x (Q4 _ hx)) h.2
  simp only [JU,Z25]
  exact ⟨h1,h2⟩
theorem Zgt:∀ (k:KidOf Edit) (d:Int),Z6 k.e d=true->Z7e k->Z7e (Z1R k)
 | ⟨a,e⟩,d,hr,h=> by
  simp only [Z7e] at h
  have h2:=Z26 e d hr h.2
  simp only [Z1R,Z7e]
  exact ⟨h.1,h2⟩
theorem Zc1(list:Int):∀ (os:List (OpOf Edit)) (d:Int),(∀ o∈os,Zf list o d=true)->Z1b os->∀ (w:Wst),RngW w->RngW (ZP list os w)
 | [],_,_,_,w,hw=> hw
 | o ::r,d,hr,h,w,hw=> by
  simp only [Z1b] at h
  have h1:=Zkl list o d (hr o (Q5 ..)) h.1 w hw
  exact Zc1 list r d (fun x hx=> hr x (Q4 _ hx)) h.2 _ h1
theorem Zkl(list:Int):∀ (o:OpOf Edit) (d:Int),Zf list o d=true->Z1D o->∀ (w:Wst),RngW w->RngW (Z05 list o w)
 | ⟨k,n,l,e⟩,d,hr,h,w,hw=> by
  simp only [Z1D] at h
  by_cases k3:k=3
  ·have he:Z6 e d=true:=by
    rw [Zf,if_neg (by omega),] at hr
    split at hr
    ·cases hr
    ·rw [if_neg (by omega)] at hr
     simp only [Q1] at hr
     exact hr.1.2
   exact Zi1 (o:=⟨k,n,l,e⟩) hw h.2.2.1 (Z26 e d he h.2.2.2)
  ·have hs:Yz (ZE Edit.nil):=by
    show Yz (.mk 0 Tree.nil Tree.nil [] [] 0 [])
    exact Z43
   have e2:Z05 list ⟨k,n,l,e⟩ w=Z05 list ⟨k,n,l,Edit.nil⟩ w:=by
    simp only [Z05]
    rw [if_neg k3,if_neg k3]
   rw [e2]
   exact Zi1 (o:=⟨k,n,l,Edit.nil⟩) hw h.2.2.1 hs
end
end Go.AM.Ytpjenobkibfpcaa
