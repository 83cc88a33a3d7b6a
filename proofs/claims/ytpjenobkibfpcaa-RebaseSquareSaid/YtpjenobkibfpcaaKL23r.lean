import Derived.Test.YtpjenobkibfpcaaKD24
import Derived.Test.YtpjenobkibfpcaaKRB07
import Derived.Test.YtpjenobkibfpcaaKD20
set_option linter.unusedSimpArgs false
set_option linter.unusedVariables false
namespace Go.AM.Ytpjenobkibfpcaa
open Go.AM Go.Proofs
noncomputable section
def Zl1:ArgL (Op × Unit):=(.cons (aEl .op) .nil)
def Z4a(a:Op × Unit):Prop:=Zt a.1<=20000000000/\0<=OpOf.n a.1/\OpOf.n a.1<=1048576
def ZnT(a:Op × Unit):V U:= .c (ci (Z1 a.1))
def Z2e:Fs U:=fs Zl1 (fun a=> [Z4a a]) ZnT
def Zfv:ArgM ((List Op × Int × Unit) × Unit):=(.obj 0 (.cons (cSl .op) (.cons (Zfo .i64) .nil)) .nil)
def Z2v(a:(List Op × Int × Unit) × Unit):Prop:=(a.1.1).length<=120000000000
def ZnS(a:(List Op × Int × Unit) × Unit):V U:= .c (.bool (decide ((a.1.1).length=0)))
def Zjw(a:(List Op × Int × Unit) × Unit):List (List (C U)):=[[sU .op a.1.1 .unk,ci a.1.2.1]]
def Z2d:Fs U:=fsX Zfv (fun a=> [Z2v a]) ZnS Zjw
def ZnU(a:(List Op × Int × Unit) × Unit):V U:= .c (.bool (sgl a.1.2.1 a.1.1))
def Z6B:Fs U:=fsX Zfv (fun a=> [Z2v a]) ZnU Zjw
def Zfw:ArgM ((List Op × Int × Unit) × Int × Unit):=(.obj 0 (.cons (cSl .op) (.cons (Zfo .i64) .nil)) (.cons (JR .i64) .nil))
def Z6a(a:(List Op × Int × Unit) × Int × Unit):Prop:=Z8w a.1.1/\(a.1.1).length≠0/\1<=a.2.1/\a.2.1<=120000000000
def Zbv(a:(List Op × Int × Unit) × Int × Unit):V U:= .agg (enc .op (Zq ((a.1.1).getD 0 Op.nil) a.2.1))
def Z6S(a:(List Op × Int × Unit) × Int × Unit):List (List (C U)):=[[sU .op (Zw a.1.1 a.2.1) .unk,ci a.1.2.1]]
def Z6A:Fs U:=fsX Zfw (fun a=> [Z6a a]) Zbv Z6S
def Zfz:ArgM ((List Op × Int × Unit) × (List Op × Int × Unit) × Unit):=(.obj 0 (.cons (cSl .op) (.cons (Zfo .i64) .nil)) (.obj 1 (.cons (cSl .op) (.cons (Zfo .i64) .nil)) .nil))
def ZeS(a:(List Op × Int × Unit) × (List Op × Int × Unit) × Unit):Prop:=Z8w a.1.1/\Z8w a.2.1.1
def Zez(a:(List Op × Int × Unit) × (List Op × Int × Unit) × Unit):V U:= .tup [(false,[sU .piece ((ZJ a.1.2.1 a.2.1.2.1 a.1.1 a.2.1.1 []).1) .unk]),(false,[.bool ((ZJ a.1.2.1 a.2.1.2.1 a.1.1 a.2.1.1 []).2.1)])]
def Zaf(a:(List Op × Int × Unit) × (List Op × Int × Unit) × Unit):List (List (C U)):=[[sU .op ((ZJ a.1.2.1 a.2.1.2.1 a.1.1 a.2.1.1 []).2.2.1) .unk,ci a.1.2.1],[sU .op ((ZJ a.1.2.1 a.2.1.2.1 a.1.1 a.2.1.1 []).2.2.2) .unk,ci a.2.1.2.1]]
def Z4M:Fs U:=fsX Zfz (fun a=> [ZeS a]) Zez Zaf
def Zla:ArgL (List Op × List Op × Unit):=(.cons (aSl .op) (.cons (aSl .op) .nil))
def Zia(a:List Op × List Op × Unit):Prop:=Z8w a.1/\Z8w a.2.1
def ZnX(a:List Op × List Op × Unit):V U:= .tup [(false,[sU .piece ((ZJ 2 2 a.1 a.2.1 []).1) .unk]),(false,[.bool ((ZJ 2 2 a.1 a.2.1 []).2.1)])]
def Za3:Fs U:=fs Zla (fun a=> [Zia a]) ZnX
def ZoP:Zf U:=lvl [([1],[1]),([1,5],[1]),([2],[]),([2],[])]
abbrev Zzi(p:List Nat):=AW (Z6 Ziz) Try.f190 ZoP p
theorem Zx8(o:Op)(Q:QT)(h:(((o.kind==3)=true->(Q .ret (L2 [pI 2 1] [])))/\((o.kind==3)=false->(InR (o.n+(o.l.length:Int)))/\(Q .ret (L2 [pI 2 (o.n+(o.l.length:Int))] []))))):
  Zzi [] (L2 [(0,.agg (enc .op o))] []) Q:=
 Eq.mpr (by kernel_rfl) h
def ZsS(o:Op):Prop:=AW (Z6 Ziz) Try.f190 ZoP [] (Zm (Zl1.can (o,())) []) (EQ Try.f190 (ZnT (o,())) [])
theorem ZrD(hb:∀ (o:Op) (_:Unit),Z4a (o,())->ZsS o):CT 190 Z2e:=
 Z4 (l:=[]) Zn rfl trivial ZoP Try.func190 rfl rfl 1 (fun _=> rfl) (by decide) (fun ⟨o,_⟩=> hb o ())
def ZoO:Zf U:=fun i=> match i with
 | 0=> ([(0,[])],[(.x 0,[])])
 | 1=> ([(2,[])],[(.x 0,[])])
 | _=> ([],[])
abbrev Zzh(p:List Nat):=AW (Z6 Ziz) Try.f191 ZoO p
theorem Zx7(l:List Op)(alone:Int)(Q:QT)(h:(Q .ret (L2 [pB 2 (((l.length:Int):Int)==0)] [(.x 0,[sU .op l .unk,ci alone])]))):
  Zzh [] (L2 [(0,.ptr (.x 0) 0)] [(.x 0,[sU .op l .unk,ci alone])]) Q:=
 Eq.mpr (by kernel_rfl) h
def ZsR(l:List Op)(alone:Int):Prop:=AW (Z6 Ziz) Try.f191 ZoO [] (Zm (Zfv.can ((l,alone,()),())) (Zfv.canX ((l,alone,()),()))) (EQ Try.f191 (ZnS ((l,alone,()),())) (Zjw ((l,alone,()),())))
theorem ZrC(hb:∀ (l:List Op) (alone:Int) (_:Unit),Z2v ((l,alone,()),())->ZsR l alone):CT 191 Z2d:=
 Yf (l:=[]) Zn rfl trivial ZoO Try.func191 rfl rfl 1 (fun _=> rfl) (by decide) (fun ⟨⟨l,alone,_⟩,_⟩=> hb l alone ())
def Zkn:List (FuncId × Fs U):=[(191,Z2d)]
def ZoR:Zf U:=fun i=> match i with
 | 0=> ([(0,[])],[(.x 0,[])])
 | 1=> ([(2,[])],[(.x 0,[])])
 | _=> ([],[])
abbrev Zzk(p:List Nat):=AW (Z6 Zkn) Try.f188 ZoR p
theorem Zxa(l:List Op)(alone:Int)(Q:QT)(h:let z0:= !(decide (l.length=0));((Z2v ((l,alone,()),()))/\(Tr (z0=true))/\(Tr (z0=true))/\(Tr (z0=true))/\(Tr (z0=true))/\(z0=true->(0:Int)<=0/\0 < (l.length:Int))/\(Tr (z0=true))/\(Tr (z0=true))/\(Tr (z0=true))/\(Tr (z0=true))/\(Tr (z0=true))/\(Tr (z0=true))/\(Tr (z0=true))/\(Tr (z0=true))/\(Q .ret (L2 [(2,.c (.bool (bif z0 then (((OpOf.kind (List.getD l (Int.toNat 0) Op.nil)):Int)==alone) else false)))] [(.x 0,[sU .op l .unk,ci alone])])))):
  Zzk [] (L2 [(0,.ptr (.x 0) 0)] [(.x 0,[sU .op l .unk,ci alone])]) Q:=
 Eq.mpr (by kernel_rfl) h
def ZsU(l:List Op)(alone:Int):Prop:=AW (Z6 Zkn) Try.f188 ZoR [] (Zm (Zfv.can ((l,alone,()),())) (Zfv.canX ((l,alone,()),()))) (EQ Try.f188 (ZnU ((l,alone,()),())) (Zjw ((l,alone,()),())))
theorem ZrF(ZmK:CT 191 Z2d)(hb:∀ (l:List Op) (alone:Int) (_:Unit),Z2v ((l,alone,()),())->ZsU l alone):CT 188 Z6B:=
 Yf (l:=[(191,Z2d)]) Zn rfl (⟨ZmK,trivial⟩) ZoR Try.func188 rfl rfl 1 (fun _=> rfl) (by decide) (fun ⟨⟨l,alone,_⟩,_⟩=> hb l alone ())
def Zkm:List (FuncId × Fs U):=[(190,Z2e)]
def ZoQ:Zf U:=fun i=> match i with
 | 0=> ([(0,[]),(1,[]),(4,[])],[(.loc 4,[]),(.x 0,[])])
 | 1=> ([(0,[]),(1,[]),(4,[]),(5,[])],[(.loc 4,[]),(.loc 5,[]),(.x 0,[])])
 | 2=> ([(0,[]),(1,[]),(4,[]),(5,[]),(17,[])],[(.loc 4,[]),(.loc 5,[]),(.x 0,[])])
 | 3=> ([(4,[]),(5,[])],[(.loc 4,[]),(.loc 5,[]),(.x 0,[])])
 | 4=> ([(4,[])],[(.loc 4,[]),(.x 0,[])])
 | 5=> ([(0,[]),(1,[]),(4,[]),(5,[]),(6,[]),(7,[])],[(.loc 4,[]),(.loc 5,[]),(.loc 6,[]),(.loc 7,[]),(.x 0,[])])
 | 6=> ([(0,[]),(1,[]),(4,[]),(5,[]),(6,[]),(7,[]),(31,[])],[(.loc 4,[]),(.loc 5,[]),(.loc 6,[]),(.loc 7,[]),(.x 0,[])])
 | 7=> ([(0,[]),(4,[]),(6,[]),(7,[])],[(.loc 4,[]),(.loc 6,[]),(.loc 7,[]),(.x 0,[])])
 | 8=> ([(0,[]),(4,[]),(6,[]),(7,[])],[(.loc 4,[]),(.loc 6,[]),(.loc 7,[]),(.x 0,[])])
 | 9=> ([(4,[]),(6,[])],[(.loc 4,[]),(.loc 6,[]),(.x 0,[])])
 | 10=> ([(4,[])],[(.loc 4,[]),(.x 0,[])])
 | _=> ([],[])
abbrev Zzj(p:List Nat):=AW (Z6 Zkm) Try.f189 ZoQ p
theorem Zx9(l:List Op)(alone n:Int)(Q:QT)(h:∀ y_1,y_1=(List.getD l (Int.toNat 0) Op.nil)->∀ y_2,y_2=y_1->∀ y_3,y_3=(y_1.e)->let z1:=decide (((Z1 y_2):Int)<=n);let z0:=List.drop (Int.toNat 1) l;(((0:Int)<=0/\0 < (l.length:Int))/\((Z4a (y_2,()))/\((z1=true->((0:Int)<=1/\1<=(l.length:Int))/\(Q .ret (L2 [pL 4] [(.loc 4,(enc .op y_1)),(.x 0,[sU .op z0 .unk,ci alone])])))/\(z1=false->(((y_1.kind==0)=true->(InR (y_1.n - n))/\(((0:Int)<=1/\1<=(l.length:Int))/\((([(OpOf.mk y_1.kind (y_1.n - n) y_1.l y_3)]).length+z0.length)*240<=140737488355328)/\(Q .ret (L2 [pL 4] [(.loc 4,([ci y_1.kind,ci n,sU .tree y_1.l .unk]++enc .edit y_1.e)),(.x 0,[sU .op (([(OpOf.mk y_1.kind (y_1.n - n) y_1.l y_3)])++z0) (.own (.x 0 0)),ci alone])]))))/\((y_1.kind==0)=false->((0:Int)<=n/\n<=(y_1.l.length:Int))/\(n=n)/\((0:Int)<=n/\n<=(y_1.l.length:Int))/\(((0:Int)<=1/\1<=(l.length:Int))/\((([(OpOf.mk y_1.kind y_1.n (List.drop n.toNat y_1.l) y_3)]).length+z0.length)*240<=140737488355328)/\(Q .ret (L2 [pL 4] [(.loc 4,([ci y_1.kind,ci y_1.n,sU .tree (List.take n.toNat y_1.l) .full]++enc .edit y_1.e)),(.x 0,[sU .op (([(OpOf.mk y_1.kind y_1.n (List.drop n.toNat y_1.l) y_3)])++z0) (.own (.x 0 0)),ci alone])])))))))))):
  Zzj [] (L2 [(0,.ptr (.x 0) 0),pI 1 n] [(.x 0,[sU .op l .unk,ci alone])]) Q:=
 Eq.mpr (by kernel_rfl) (h _ rfl _ (YA _) _ (Zd _))
def ZsT(l:List Op)(alone n:Int):Prop:=AW (Z6 Zkm) Try.f189 ZoQ [] (Zm (Zfw.can ((l,alone,()),n,())) (Zfw.canX ((l,alone,()),n,()))) (EQ Try.f189 (Zbv ((l,alone,()),n,())) (Z6S ((l,alone,()),n,())))
theorem ZrE(ZmL:CT 190 Z2e)(hb:∀ (l:List Op) (alone:Int) (n:Int) (_:Unit),Z6a ((l,alone,()),n,())->ZsT l alone n):CT 189 Z6A:=
 Yf (l:=[(190,Z2e)]) Zn rfl (⟨ZmL,trivial⟩) ZoQ Try.func189 rfl rfl 2 (fun _=> rfl) (by decide) (fun ⟨⟨l,alone,_⟩,n,_⟩=> hb l alone n ())
def Zkw:List (FuncId × Fs U):=[(188,Z6B),(189,Z6A),(190,Z2e),(191,Z2d)]
def Zp0:Zf U:=fun i=> match i with
 | 0=> ([(0,[]),(1,[])],[(.x 0,[]),(.x 1,[])])
 | 1=> ([(0,[]),(1,[]),(6,[.own .piece])],[(.x 0,[]),(.x 1,[])])
 | 2=> ([(0,[]),(1,[]),(6,[]),(7,[])],[(.x 0,[]),(.x 1,[])])
 | 3=> ([(0,[]),(1,[]),(6,[.own .piece])],[(.x 0,[]),(.x 1,[])])
 | 4=> ([(0,[]),(1,[]),(6,[]),(33,[])],[(.x 0,[]),(.x 1,[])])
 | 5=> ([(0,[]),(1,[]),(6,[.own .piece])],[(.x 0,[]),(.x 1,[])])
 | 6=> ([(0,[]),(1,[]),(6,[]),(49,[])],[(.x 0,[]),(.x 1,[])])
 | 7=> ([(0,[]),(1,[]),(6,[.own .piece])],[(.x 0,[]),(.x 1,[])])
 | 8=> ([(0,[]),(1,[]),(6,[]),(65,[])],[(.x 0,[]),(.x 1,[])])
 | 9=> ([(6,[]),(76,[])],[(.x 0,[]),(.x 1,[])])
 | 10=> ([(4,[]),(5,[])],[(.x 0,[]),(.x 1,[])])
 | 11=> ([(4,[]),(5,[])],[(.x 0,[]),(.x 1,[])])
 | _=> ([],[])
def Z1I(pl:List Op)(pa:Int)(ql:List Op)(qa:Int)(mx0_0 mx1_0:List Op)(mx1_1:Int)(x6:List Piece):LSt U:=(L2 [(0,.ptr (.x 0) 0),(1,.ptr (.x 1) 0),(6,.c (sU .piece x6 (.own (.e 6 0))))] [(.x 0,[sU .op mx0_0 .unk,ci pa]),(.x 1,[sU .op mx1_0 .unk,ci mx1_1])])
abbrev ZwX(p:List Nat):=AW (Z6 Zkw) Try.f169 Zp0 p
theorem Zxl(pl:List Op)(pa:Int)(ql:List Op)(qa:Int)(Q:QT)(h:(Zo (ZwX [1,1,0,0]) (Z1I pl pa ql qa pl ql qa []) (xB 0 Q))):
  ZwX [] (L2 [(0,.ptr (.x 0) 0),(1,.ptr (.x 1) 0)] [(.x 0,[sU .op pl .unk,ci pa]),(.x 1,[sU .op ql .unk,ci qa])]) Q:=
 Eq.mpr (by kernel_rfl) h
theorem Znf(pl:List Op)(pa:Int)(ql:List Op)(qa:Int)(mx0_0 mx1_0:List Op)(mx1_1:Int)(x6:List Piece)(N0:NT)(Q:QT)(h:∀ y_1,y_1=(List.getD mx0_0 (Int.toNat 0) Op.nil)->∀ y_2,y_2=(List.getD mx1_0 (Int.toNat 0) Op.nil)->∀ y_3,y_3=(Edit.mk 0 (Tree.mk 0 [] []) (Tree.mk 0 [] []) [] [] 0 [])->∀ y_4,y_4=(List.getD (bif (!(decide (mx0_0.length=0))) then mx1_0 else mx1_0) (Int.toNat 0) Op.nil)->∀ y_5,y_5=y_1->∀ y_6,y_6=y_2->∀ y_7,y_7=y_4->∀ y_8,y_8=(Zq (mx0_0.getD 0 Op.nil) (Z1 y_5))->∀ y_9,y_9=(Zq (mx1_0.getD 0 Op.nil) (Z1 y_6))->∀ y_10,y_10=(Zq (mx0_0.getD 0 Op.nil) (if ((Z1 y_7):Int) < (Z1 y_5) then (Z1 y_7) else (Z1 y_5)))->∀ y_11,y_11=(Zq ((bif (!(decide (mx0_0.length=0))) then mx1_0 else mx1_0).getD 0 Op.nil) (if ((Z1 y_7):Int) < (Z1 y_5) then (Z1 y_7) else (Z1 y_5)))->let z7:=Z2v ((mx0_0,pa,()),());let z5:=Piece.mk 2 (OpOf.mk 0 0 [] y_3) y_9;let z4:=Piece.mk 1 y_8 (OpOf.mk 0 0 [] y_3);let z0:=decide (mx0_0.length=0);let z3:=bif z0 then true else (decide (mx1_0.length=0));let z2:=bif (!z0) then mx1_1 else mx1_1;let z1:=bif (!z0) then mx1_0 else mx1_0;let z6:=z0 !=(decide (z1.length=0));(Z2v ((mx0_0,pa,()),()))/\(((sgl pa mx0_0)=true->((0:Int)<=0/\0 < (mx0_0.length:Int))/\(Z4a (y_5,()))/\(Z6a ((mx0_0,pa,()),(Z1 y_5),()))/\((x6.length+([z4]).length)*488<=140737488355328)/\(N0 (Z1I pl pa ql qa (Zw mx0_0 (Z1 y_5)) mx1_0 mx1_1 (x6++([z4])))))/\((sgl pa mx0_0)=false->(Z2v ((mx1_0,mx1_1,()),()))/\(((sgl mx1_1 mx1_0)=true->((0:Int)<=0/\0 < (mx1_0.length:Int))/\(Z4a (y_6,()))/\(Z6a ((mx1_0,mx1_1,()),(Z1 y_6),()))/\((x6.length+([z5]).length)*488<=140737488355328)/\(N0 (Z1I pl pa ql qa mx0_0 (Zw mx1_0 (Z1 y_6)) mx1_1 (x6++([z5])))))/\((sgl mx1_1 mx1_0)=false->z7/\(Tr ((!z0)=true))/\((!z0)=true->Z2v ((mx1_0,mx1_1,()),()))/\(z0=false->(!z0)=true)/\((z3=true->z7/\(Z2v ((z1,z2,()),()))/\((z6=true->(Q .ret (L2 [(4,.c (.nils)),pB 5 false] [(.x 0,[sU .op mx0_0 .unk,ci pa]),(.x 1,[sU .op z1 .unk,ci z2])])))/\(z6=false->(Q .ret (L2 [(4,.c (sU .piece x6 (.own (.e 4 0)))),pB 5 true] [(.x 0,[sU .op mx0_0 .unk,ci pa]),(.x 1,[sU .op z1 .unk,ci z2])])))))/\(z3=false->((0:Int)<=0/\0 < (mx0_0.length:Int))/\(Z4a (y_5,()))/\((0:Int)<=0/\0 < (z1.length:Int))/\(Z4a (y_7,()))/\((Z6a ((mx0_0,pa,()),(if ((Z1 y_7):Int) < (Z1 y_5) then (Z1 y_7) else (Z1 y_5)),()))/\(Z6a ((z1,z2,()),(if ((Z1 y_7):Int) < (Z1 y_5) then (Z1 y_7) else (Z1 y_5)),()))/\((x6.length+([(Piece.mk 0 y_10 y_11)]).length)*488<=140737488355328)/\(N0 (Z1I pl pa ql qa (Zw mx0_0 (if ((Z1 y_7):Int) < (Z1 y_5) then (Z1 y_7) else (Z1 y_5))) (Zw z1 (if ((Z1 y_7):Int) < (Z1 y_5) then (Z1 y_7) else (Z1 y_5))) z2 (x6++([(Piece.mk 0 y_10 y_11)])))))))))))):
  ZwX [1,1,0,0] (Z1I pl pa ql qa mx0_0 mx1_0 mx1_1 x6) (xT N0 (xB 0 Q)):=
 Eq.mpr (by kernel_rfl) (h _ rfl _ rfl _ rfl _ rfl _ (YA _) _ (YA _) _ (YA _) _ (YA _) _ (YA _) _ (YA _) _ (YA _))
def Zt5(pl:List Op)(pa:Int)(ql:List Op)(qa:Int):Prop:=AW (Z6 Zkw) Try.f169 Zp0 [] (Zm (Zfz.can ((pl,pa,()),(ql,qa,()),())) (Zfz.canX ((pl,pa,()),(ql,qa,()),()))) (EQ Try.f169 (Zez ((pl,pa,()),(ql,qa,()),())) (Zaf ((pl,pa,()),(ql,qa,()),())))
theorem ZrQ(ZvJ:CT 188 Z6B)(ZvI:CT 189 Z6A)(ZmL:CT 190 Z2e)(ZmK:CT 191 Z2d)(hb:∀ (pl:List Op) (pa:Int) (ql:List Op) (qa:Int) (_:Unit),ZeS ((pl,pa,()),(ql,qa,()),())->Zt5 pl pa ql qa):CT 169 Z4M:=
 Yf (l:=[(188,Z6B),(189,Z6A),(190,Z2e),(191,Z2d)]) Zn rfl (⟨ZvJ,ZvI,ZmL,ZmK,trivial⟩) Zp0 Try.func169 rfl rfl 2 (fun _=> rfl) (by decide) (fun ⟨⟨pl,pa,_⟩,⟨ql,qa,_⟩,_⟩=> hb pl pa ql qa ())
def ZkA:List (FuncId × Fs U):=[(169,Z4M)]
def Zp4:Zf U:=lvl [([0,1],[]),([4,5],[])]
abbrev Zzw(p:List Nat):=AW (Z6 ZkA) Try.f158 Zp4 p
theorem Zxp(p q:List Op)(Q:QT)(h:((ZeS ((p,2,()),(q,2,()),()))/\(Q .ret (L2 [(4,.c (sU .piece ((ZJ 2 2 p q []).1) .unk)),pB 5 ((ZJ 2 2 p q []).2.1)] [])))):
  Zzw [] (L2 [(0,.c (sU .op p .unk)),(1,.c (sU .op q .unk))] []) Q:=
 Eq.mpr (by kernel_rfl) h
def Zt9(p q:List Op):Prop:=AW (Z6 ZkA) Try.f158 Zp4 [] (Zm (Zla.can (p,q,())) []) (EQ Try.f158 (ZnX (p,q,())) [])
theorem ZrT(Zq1:CT 169 Z4M)(hb:∀ (p:List Op) (q:List Op) (_:Unit),Zia (p,q,())->Zt9 p q):CT 158 Za3:=
 Z4 (l:=[(169,Z4M)]) Zn rfl (⟨Zq1,trivial⟩) Zp4 Try.func158 rfl rfl 2 (fun _=> rfl) (by decide) (fun ⟨p,q,_⟩=> hb p q ())
end
theorem Zou{o:Op}(h:Zt o<=20000000000):o.l.length<=20000000000:=by
 have:=Zv o.l
 rw [ZV] at h
 omega
theorem Z8s{o:Op}(h:ZM o):0<=o.n/\o.n<=1048576:=by
 unfold ZM at h
 omega
theorem Yd(o:Op):Z1 o=if o.kind=3 then 1 else o.n+o.l.length:=rfl
theorem ZmL:Contract Try.prog cfg 190 Z2e:=by
 refine ZrD ?_
 intro o _ hp
 simp only [Z4a] at hp
 have hl:=Zou hp.1
 refine Zx8 _ _ ?_;(try simp only [vcT,forall_eq])
 (simp only [vcS]);(try simp only [vcT])
 exact ⟨fun hk=> Yx rfl (by rw [Yd,if_pos hk]),fun hk=> ⟨by unfold InR;omega,Yx rfl (by rw [Yd,if_neg hk])⟩⟩
theorem ZmK:Contract Try.prog cfg 191 Z2d:=by
 refine ZrC ?_
 intro l al _ hp
 refine Zx7 _ _ _ ?_;(try simp only [vcT,forall_eq])
 have e:((l.length:Int)==0)=decide (l.length=0):=by rw [QD];(simp only [vcS]);omega
 rw [e]
 (repeat' (first | exact trivial | exact rfl | apply And.intro))
theorem ZvJ:Contract Try.prog cfg 188 Z6B:=by
 refine ZrF ZmK ?_
 intro l al _ hp
 refine Zxa _ _ _ ?_;(try simp only [vcT,forall_eq])
 have e:(bif (!(decide (l.length=0))) then ((OpOf.kind (List.getD l (Int.toNat 0) Op.nil))==al) else false)=sgl al l:=by
  rw [QD]
  simp only [sgl]
  (simp only [vcS])
  try rfl
 rw [e]
 refine ⟨hp,fun h=> ⟨by omega,?_⟩,by (repeat' (first | exact trivial | exact rfl | apply And.intro))⟩
 revert h
 (simp only [vcS])
 omega
theorem ZvU(Zq1:Contract Try.prog cfg 169 Z4M):Contract Try.prog cfg 158 Za3:=by
 refine ZrT Zq1 ?_
 intro p q _ hp
 refine Zxp _ _ _ ?_;(try simp only [vcT,forall_eq])
 refine ⟨hp,?_⟩
 (repeat' (first | exact trivial | exact rfl | apply And.intro))
theorem ZvI:Contract Try.prog cfg 189 Z6A:=by
 refine ZrE ZmL ?_
 intro l al n _ hp
 simp only [Z6a] at hp
 obtain ⟨⟨ho,hm⟩,hl,h1,h2⟩:=hp
 have hmem:=Zl (l:=l) (i:=0) (by omega) Op.nil
 have hok:=ho _ hmem
 have hmo:=YS hmem
 have hlen:=Yw l
 refine Zx9 _ _ _ _ ?_;(try simp only [vcT])
 rintro y rfl _ rfl _ rfl
 have e0:(Int.toNat 0)=0:=rfl
 have e1:(Int.toNat 1)=1:=rfl
 simp only [e0,e1]
 have hT:∀ o r,Zq (l.getD 0 Op.nil) n=o->Zw l n=r->True:=fun _ _ _ _=> trivial
 have hon:=Z8s hok
 have hln:=Yd (l.getD 0 Op.nil)
 (simp only [vcS])
 generalize hy:l.getD 0 Op.nil=y at*
 refine ⟨⟨by omega,by omega⟩,⟨by dsimp only;omega,hon⟩,fun hc=> ⟨⟨by omega,by omega⟩,?_⟩,fun hc=> ⟨fun hk=> ⟨by unfold InR;omega,⟨by omega,by omega⟩,by simp;omega,?_⟩,fun hk=> ?_⟩⟩
 ·have t1:Zq y n=y:=by rw [Zq,if_pos hc]
  have t2:Zw l n=l.drop 1:=by rw [Zw,hy,if_pos hc]
  simp only [Zbv,Z6S,hy,t1,t2]
  (repeat' (first | exact trivial | exact rfl | apply And.intro))
 ·have t1:Zq y n=⟨y.kind,n,y.l,y.e⟩:=by rw [Zq,if_neg hc,if_pos hk]
  have t2:Zw l n=⟨y.kind,y.n - n,y.l,y.e⟩ ::l.drop 1:=by rw [Zw,hy,if_neg hc,YC,if_pos hk]
  simp only [Zbv,Z6S,hy,t1,t2]
  (repeat' (first | exact trivial | exact rfl | apply And.intro))
 ·have t1:Zq y n=⟨y.kind,y.n,y.l.take n.toNat,y.e⟩:=by rw [Zq,if_neg hc,if_neg hk]
  have t2:Zw l n=⟨y.kind,y.n,y.l.drop n.toNat,y.e⟩ ::l.drop 1:=by rw [Zw,hy,if_neg hc,YC,if_neg hk]
  simp only [Zbv,Z6S,hy,t1,t2]
  unfold ZM at hok
  refine ⟨?_,?_,⟨by omega,by omega⟩,by simp;omega,?_⟩
  ·split at hln <;> omega
  ·split at hln <;> omega
  ·(repeat' (first | exact trivial | exact rfl | apply And.intro))
theorem Z22(n:Nat):∀ (l:List Tree),Z7 (l.drop n)<=Z7 l:=by
 induction n with
 | zero=> intro l;simp
 | succ n ih=>
  intro l
  cases l with
  | nil=> simp
  | cons t r=> simp only [Qz,Z7];have:=ih r;omega
theorem Zcf(n:Nat):∀ (l:List Tree),Z7 (l.take n)<=Z7 l:=by
 induction n with
 | zero=> intro l;simp [Z7]
 | succ n ih=>
  intro l
  cases l with
  | nil=> simp
  | cons t r=> simp only [List.take_succ_cons,Z7];have:=ih r;omega
theorem Zu{o:Op}(h:ZM o):1<=Z1 o:=by
 have:=Yd o
 unfold ZM at h
 have hl:o.l≠[]->0 < o.l.length:=XE.2
 rcases h with ⟨h1,h2,h3,h4⟩ | ⟨h1,h2,h3,h4⟩ | ⟨h1,h2,h3⟩
 ·rw [h2] at this;simp at this;split at this <;> omega
 ·have:=hl h3;split at* <;> omega
 ·rw [if_pos h1] at this;omega
theorem Z77{o:Op}(h:ZM o)(hm:Zt o<=20000000000):Z1 o<=20000000000:=by
 have:=Yd o
 have:=Zou hm
 have:=Z8s h
 unfold ZM at h
 rcases h with ⟨h1,h2,h3,h4⟩ | ⟨h1,h2,h3,h4⟩ | ⟨h1,h2,h3⟩
 ·simp [h2,h1] at*;omega
 ·split at* <;> omega
 ·split at* <;> omega
theorem Z4l(o:Op)(r:List Op):Zg (o ::r)=Zt o+Zg r:=rfl
theorem Z52{l:List Op}(h:Z8w l):Z8w (l.drop 1):=by
 cases l with
 | nil=> exact h
 | cons o r=>
  obtain ⟨h1,h2⟩:=h
  rw [Z4l] at h2
  exact ⟨fun x hx=> h1 x (Q5 _ hx),by simp only [Qz,QK];omega⟩
theorem Z8v{l:List Op}(h:Z8w l)(hl:l.length≠0):ZM (l.getD 0 Op.nil)/\Zt (l.getD 0 Op.nil)<=20000000000/\Zt (l.getD 0 Op.nil)<=Zg l:=by
 have hm:=Zl (l:=l) (i:=0) (by omega) Op.nil
 have:=YS hm
 exact ⟨h.1 _ hm,by have:=h.2;omega,this⟩
theorem Z81{o:Op}{n:Int}(h:ZM o)(h1:1<=n)(h2:¬Z1 o<=n):ZM (YC o n)/\Zt (YC o n)<=Zt o:=by
 have hl:=Yd o
 unfold YC
 unfold ZM at*
 by_cases hk:o.kind=0
 ·rw [if_pos hk]
  refine ⟨Or.inl ?_,by simp only [ZV];omega⟩
  rcases h with h | h | h
  ·obtain ⟨a,b,c,d⟩:=h
   rw [b,if_neg (by omega)] at hl
   simp at hl
   exact ⟨a,b,by dsimp only;omega,d⟩
  ·omega
  ·omega
 ·rw [if_neg hk]
  have:=Z22 n.toNat o.l
  refine ⟨Or.inr ?_,by simp only [ZV];omega⟩
  rcases h with h | h | h
  ·omega
  ·obtain ⟨a,b,c,d⟩:=h
   rw [if_neg (by omega)] at hl
   refine Or.inl ⟨a,b,?_,d⟩
   intro he
   have:=congrArg List.length he
   simp at this
   omega
  ·rw [if_pos h.1] at hl;omega
theorem ZbY{l:List Op}{n:Int}(h:Z8w l)(hl:l.length≠0)(h1:1<=n):Z8w (Zw l n):=by
 unfold Zw
 split
 ·exact Z52 h
 ·rename_i hc
  obtain ⟨a,b,c⟩:=Z8v h hl
  obtain ⟨d,e⟩:=Z81 a h1 hc
  have hd:=Z52 h
  refine ⟨fun x hx=> ?_,?_⟩
  ·rcases Qd.1 hx with rfl | hx
   ·exact d
   ·exact hd.1 _ hx
  ·rw [Z4l]
   obtain _ | ⟨o,r⟩:=l
   ·simp at hl
   ·have:=h.2
    rw [Z4l] at this
    simp at*
    omega
theorem Zdc(l:List Op):Zw l (Z1 (l.getD 0 Op.nil))=l.drop 1:=by rw [Zw,if_pos (X2 _)]
theorem Zdd(o:Op):Zq o (Z1 o)=o:=by rw [Zq,if_pos (X2 _)]
theorem Zjp{a:Int}{l:List Op}(h:sgl a l=true):l.length≠0:=(of_decide_eq_true h).1
theorem Zd2{α:Type}(b:Bool)(x:α):(bif b then x else x)=x:=by cases b <;> rfl
theorem Zq1:Contract Try.prog cfg 169 Z4M:=by
 refine ZrQ ZvJ ZvI ZmL ZmK ?_
 intro pl pa ql qa _ hp
 simp only [ZeS] at hp
 have hpl:=Yw pl
 have hql:=Yw ql
 have hP:=hp.1.2
 have hQ:=hp.2.2
 refine Zxl _ _ _ _ _ ?_;(try simp only [vcT,forall_eq])
 refine Zb (ι:=List Op × List Op × List Piece) (fun s=> Z1I pl pa ql qa s.1 s.2.1 qa s.2.2) (fun s=> Z8w s.1/\Z8w s.2.1/\s.2.2.length+s.1.length+s.2.1.length<=40000000000/\ZJ pa qa s.1 s.2.1 s.2.2=ZJ pa qa pl ql []) (fun s=> s.1.length+s.2.1.length) (pl,ql,[]) rfl ⟨hp.1,hp.2,by simp;omega,rfl⟩ ?_
 rintro ⟨p,q,out⟩ ⟨h1,h2,h3,h4⟩
 refine Znf _ _ _ _ _ _ _ _ _ _ ?_;(try simp only [vcT])
 have e0:(Int.toNat 0)=0:=rfl
 simp only [e0,Zd2]
 dsimp only at h1 h2 h3 h4
 rintro z1 hy1 z2 hy2 y3 hy3 z4 hy4 y1 rfl y2 rfl y4 rfl y8 hy8 y9 hy9 y10 hy10 y11 hy11
 have ey:y4=y2:=hy4.trans hy2.symm
 rw [ey] at hy10 hy11 ⊢
 have e3:(OpOf.mk 0 0 [] y3:Op)=Op.nil:=by rw [hy3];try rfl
 rw [<-hy1,Zdd] at hy8
 rw [<-hy2,Zdd] at hy9
 have hmin:∀ a b:Int,(if a < b then a else b)=min b a:=by intro a b;omega
 rw [<-hy1,hmin] at hy10
 rw [<-hy2,hmin] at hy11
 simp only [hmin,e3,hy8,hy9]
 (simp only [vcS])
 have o1:p.length≠0->ZM y1/\Zt y1<=20000000000:=fun h=> by have:=Z8v h1 h;rw [<-hy1] at this;exact ⟨this.1,this.2.1⟩
 have o2:q.length≠0->ZM y2/\Zt y2<=20000000000:=fun h=> by have:=Z8v h2 h;rw [<-hy2] at this;exact ⟨this.1,this.2.1⟩
 have tp:Zw p (Z1 y1)=p.drop 1:=by rw [hy1];exact Zdc p
 have tq:Zw q (Z1 y2)=q.drop 1:=by rw [hy2];exact Zdc q
 have hm1:=Yw p
 have hm2:=Yw q
 have hm3:=h1.2
 have hm4:=h2.2
 rw [ZJ] at h4
 rw [<-hy1,<-hy2] at h4
 refine ⟨by simp only [Z2v];omega,fun hs=> ?_,fun hs=> ?_⟩
 ·have hl:=Zjp hs
  obtain ⟨oa,ob⟩:=o1 hl
  have oc:=Zu oa
  have od:=Z77 oa ob
  rw [dif_pos hs] at h4
  refine ⟨⟨by omega,by omega⟩,⟨ob,Z8s oa⟩,⟨h1,hl,oc,by dsimp only;omega⟩,by simp;omega,(p.drop 1,q,out++[⟨1,y1,Op.nil⟩]),by rw [tp],⟨Z52 h1,h2,by simp;omega,h4⟩,by simp;omega⟩
 ·rw [dif_neg (by rw [hs];exact Km)] at h4
  refine ⟨by simp only [Z2v];omega,fun hs2=> ?_,fun hs2=> ?_⟩
  ·have hl:=Zjp hs2
   obtain ⟨oa,ob⟩:=o2 hl
   have oc:=Zu oa
   have od:=Z77 oa ob
   rw [dif_pos hs2] at h4
   refine ⟨⟨by omega,by omega⟩,⟨ob,Z8s oa⟩,⟨h2,hl,oc,by dsimp only;omega⟩,by simp;omega,(p,q.drop 1,out++[⟨2,Op.nil,y2⟩]),by rw [tq],⟨h1,Z52 h2,by simp;omega,h4⟩,by simp;omega⟩
  ·rw [dif_neg (by rw [hs2];exact Km)] at h4
   refine ⟨by simp only [Z2v];omega,fun _=> by simp only [Z2v];omega,fun h=> h,fun hd=> ⟨by simp only [Z2v];omega,by simp only [Z2v];omega,fun he=> ?_,fun he=> ?_⟩,fun hd=> ?_⟩
   ·rw [dif_pos hd,if_neg he] at h4
    simp only [Zez,Zaf,<-h4]
    (repeat' (first | exact trivial | exact rfl | apply And.intro))
   ·rw [dif_pos hd,if_pos he] at h4
    simp only [Zez,Zaf,<-h4]
    (repeat' (first | exact trivial | exact rfl | apply And.intro))
   ·obtain ⟨oa,ob⟩:=o1 hd.1
    obtain ⟨oc,od⟩:=o2 hd.2
    have a1:=Zu oa
    have a2:=Z77 oa ob
    have a3:=Zu oc
    have a4:=Z77 oc od
    rw [dif_neg (by omega),<-hy10,<-hy11] at h4
    have c1:=Y9 p (min (Z1 y1) (Z1 y2)) hd.1
    have c2:=Y9 q (min (Z1 y1) (Z1 y2)) hd.2
    have c3:Z1 y1<=min (Z1 y1) (Z1 y2)->(Zw p (min (Z1 y1) (Z1 y2))).length < p.length:=fun h=> Y8 p _ hd.1 (by rw [<-hy1];exact h)
    have c4:Z1 y2<=min (Z1 y1) (Z1 y2)->(Zw q (min (Z1 y1) (Z1 y2))).length < q.length:=fun h=> Y8 q _ hd.2 (by rw [<-hy2];exact h)
    refine ⟨⟨by omega,by omega⟩,⟨ob,Z8s oa⟩,⟨by omega,by omega⟩,⟨od,Z8s oc⟩,⟨h1,hd.1,by dsimp only;omega,by dsimp only;omega⟩,⟨h2,hd.2,by dsimp only;omega,by dsimp only;omega⟩,by simp;omega,
     (Zw p (min (Z1 y1) (Z1 y2)),Zw q (min (Z1 y1) (Z1 y2)),out++[⟨0,y10,y11⟩]),rfl,⟨ZbY h1 hd.1 (by omega),ZbY h2 hd.2 (by omega),by simp;omega,h4⟩,by dsimp only;omega⟩
theorem ZpR{α:Type}{a b:α}(h:¬a=b):eqX a b=false:=by rw [<-XO,Z0s];exact h
def vu(u:AUnit):Op × Bool:=(opU u,u.alone)
def vs(a:Int)(o:Op):List (Op × Bool):=(Ze8 0 a o).map vu
theorem ZaK{a n:Int}{o:Op}(h:ZM o)(h1:1<=n)(hn:¬Z1 o<=n):vs a o=vs a (Zq o n)++vs a (YC o n)/\ZM (Zq o n)/\Z1 (Zq o n)=n/\Zt (Zq o n)<=Zt o:=by
 have hl:=Yd o
 rcases h with ⟨k0,k1,k2,k3⟩ | ⟨k0,k1,k2,k3⟩ | ⟨k0,k1,k2⟩
 ·have e1:Zq o n=⟨o.kind,n,o.l,o.e⟩:=by rw [Zq,if_neg hn,if_pos k0]
  have e2:YC o n=⟨o.kind,o.n - n,o.l,o.e⟩:=by rw [YC,if_pos k0]
  rw [if_neg (by omega),k1] at hl
  simp only [Qg] at hl
  rw [e1,e2]
  refine ⟨?_,Or.inl ⟨k0,k1,by dsimp only;omega,k3⟩,?_,by simp [ZV]⟩
  ·simp only [vs,Ze8,k0,k1]
   simp only [if_true,Kr,QO,Kz,List.map_replicate]
   rw [if_neg (by decide)]
   simp only [Kr,Qr]
   rw [List.replicate_append_replicate]
   congr 1
   omega
  ·rw [Yd]
   dsimp only
   rw [if_neg (by omega),k1]
   simp
 ·have e1:Zq o n=⟨o.kind,o.n,o.l.take n.toNat,o.e⟩:=by rw [Zq,if_neg hn,if_neg (by omega)]
  have e2:YC o n=⟨o.kind,o.n,o.l.drop n.toNat,o.e⟩:=by rw [YC,if_neg (by omega)]
  rw [if_neg (by omega)] at hl
  have hm:=Zcf n.toNat o.l
  rw [e1,e2]
  refine ⟨?_,Or.inr (Or.inl ⟨k0,k1,?_,k3⟩),?_,by simp only [ZV];omega⟩
  ·simp only [vs,Ze8]
   rw [if_neg (by omega),if_neg (by omega)]
   simp only [QO,Qr]
   rw [<-Kz,<-Kz,QH]
  ·intro he
   have:=congrArg List.length he
   simp only [Qp,Qg] at this
   omega
  ·rw [Yd]
   dsimp only
   rw [if_neg (by omega),Qp]
   omega
 ·rw [if_pos k0] at hl
  omega
theorem YF{a:Int}{l:List Op}:sgl a l=true↔(l.length≠0/\(l.getD 0 Op.nil).kind=a):=by unfold sgl;exact decide_eq_true_iff
theorem Jo(o:Op)(n:Int):(Zq o n).kind=o.kind:=by
 unfold Zq;split
 ·try rfl
 ·split <;> rfl
theorem ZgM{t:Tree}(h:Ji t=true):t=Tree.nil:=by
 obtain ⟨k,w,ks⟩:=t
 have:=of_decide_eq_true h
 simp at this
 obtain ⟨rfl,rfl,rfl⟩:=this
 try rfl
theorem Zdf{e:Edit}(h:Z1b e=true):e=Edit.nil:=by
 obtain ⟨h1,h2,h3,h4,h5,h6,h7⟩:=Zg3 h
 obtain ⟨k,o,n,w,ks,l,os⟩:=e
 simp at h1 h2 h3 h4 h5 h6 h7
 subst h1 h4 h5 h6 h7
 rw [ZgM h2,ZgM h3]
 try rfl
theorem Zbq{list:Int}{o:Op}{d:Int}(h:Za list o d=true):ZM o:=by
 rw [Z3n] at h
 unfold ZM
 split at h
 ·rename_i h0
  simp only [Q0,decide_eq_true_eq] at h
  exact Or.inl ⟨h0,Xh.1 h.1.2.2,⟨h.1.1,h.1.2.1⟩,Zdf h.2⟩
 ·split at h
  ·cases h
  ·rename_i h0 h1
   split at h
   ·simp only [Q0,decide_eq_true_eq] at h
    refine Or.inr (Or.inl ⟨by omega,by omega,?_,Zdf h.2⟩)
    exact XE.1 h.1.2
   ·simp only [Q0,decide_eq_true_eq] at h
    exact Or.inr (Or.inr ⟨by omega,by omega,Xh.1 h.1.1.1⟩)
end Go.AM.Ytpjenobkibfpcaa
namespace Go.AM
def Z5R(list:Int)(e:Edit):Bool:=decide (e.kind=0\/(list=9/\e.kind=2/\e.words.length=0/\e.kids.length=0))
def Z3(l:List Tree):List Tree:=l.map Z2
end Go.AM
namespace Go.AM
def Yb{α:Type}(z:α)(l:List α)(i:Nat)(x:α):List α:=(l++List.replicate (i+1 - l.length) z).set i x
def wsD(tw:List Int):List WEdit->List Int->Option (List Int)
 | [],out=> some out
 | w ::r,out=> if mix 0 (tw.getD w.at_.toNat 0) w.mask=w.old then wsD tw r (Yb 0 out w.at_.toNat (mix (tw.getD w.at_.toNat 0) w.new w.mask)) else none
noncomputable def Jj(l rest:List Tree):Bool:=decide (l.length<=rest.length) && eqX (Z3 l) (Z3 (rest.take l.length))
def Z2B(r:Option (List Tree × List Tree)):Option (List Tree):=r.bind fun x=> if x.2.length=0 then some x.1 else none
def nrD(r:Bool)(t:Tree):Tree:=if r then Z2 t else t
mutual
noncomputable def doE(r:Bool):Edit->Tree->Option Tree
 | .mk k o n w ks l os,t=>
  (if k=0 then some t
  else if k=1 then (if ZT (Z2 o) (Z2 t)=true then some n else none)
  else if k=2 then (if t.kind=1 then (wsD t.words w t.words).bind fun a=> (Jl r t.kids ks t.kids).map fun b=> .mk 1 a b else none)
  else if k=3 then (if t.kind=l then (Z2B (ZG r os t.kids [])).map fun b=> .mk l [] b else none)
  else none).map (nrD r)
noncomputable def Jl(r:Bool)(tk:List Tree):List (KidOf Edit)->List Tree->Option (List Tree)
 | [],out=> some out
 | k ::s,out=> (Z28 r tk k).bind fun u=> Jl r tk s (Yb Tree.nil out k.at_.toNat u)
noncomputable def Z28(r:Bool)(tk:List Tree):KidOf Edit->Option Tree
 | ⟨a,e⟩=> doE r e (tk.getD a.toNat Tree.nil)
noncomputable def ZG(r:Bool):List (OpOf Edit)->List Tree->List Tree->Option (List Tree × List Tree)
 | [],rest,out=> some (out,rest)
 | o ::s,rest,out=> (Z3E r o rest out).bind fun x=> ZG r s x.2 x.1
noncomputable def Z3E(r:Bool):OpOf Edit->List Tree->List Tree->Option (List Tree × List Tree)
 | ⟨k,n,l,e⟩,rest,out=>
  if k=0 then (if n.toNat<=rest.length then some (out++rest.take n.toNat,rest.drop n.toNat) else none)
  else if k=1 then (if Jj l rest=true then some (out,rest.drop l.length) else none)
  else if k=2 then some (out++l,rest)
  else if rest.length=0 then none else (doE r e (rest.getD 0 Tree.nil)).map fun u=> (out++[u],rest.drop 1)
end
theorem Z0t(r:Bool)(e:Edit)(t:Tree):doE r e t=(if e.kind=0 then some t
  else if e.kind=1 then (if ZT (Z2 e.old) (Z2 t)=true then some e.new else none)
  else if e.kind=2 then (if t.kind=1 then (wsD t.words e.words t.words).bind fun a=> (Jl r t.kids e.kids t.kids).map fun b=> .mk 1 a b else none)
  else if e.kind=3 then (if t.kind=e.list then (Z2B (ZG r e.ops t.kids [])).map fun b=> .mk e.list [] b else none)
  else none).map (nrD r):=by cases e;rfl
noncomputable def Zi7(r:Bool)(e:Edit)(t:Tree):Option Tree:=
 if e.kind=0 then some t
 else if e.kind=1 then (if ZT (Z2 e.old) (Z2 t)=true then some e.new else none)
 else if e.kind=2 then (if t.kind=1 then (wsD t.words e.words t.words).bind fun a=> (Jl r t.kids e.kids t.kids).map fun b=> .mk 1 a b else none)
 else if e.kind=3 then (if t.kind=e.list then (Z2B (ZG r e.ops t.kids [])).map fun b=> .mk e.list [] b else none)
 else none
theorem Z7X(r:Bool)(e:Edit)(t:Tree):doE r e t=(Zi7 r e t).map (nrD r):=Z0t r e t
theorem ZcA(r:Bool)(tk:List Tree)(k:Kid):Z28 r tk k=doE r k.e (tk.getD k.at_.toNat Tree.nil):=by cases k;rfl
theorem Yi(r:Bool)(o:Op)(rest out:List Tree):Z3E r o rest out=if o.kind=0 then (if o.n.toNat<=rest.length then some (out++rest.take o.n.toNat,rest.drop o.n.toNat) else none)
  else if o.kind=1 then (if Jj o.l rest=true then some (out,rest.drop o.l.length) else none)
  else if o.kind=2 then some (out++o.l,rest)
  else if rest.length=0 then none else (doE r o.e (rest.getD 0 Tree.nil)).map fun u=> (out++[u],rest.drop 1):=by cases o;rfl
noncomputable def Z9P(r:Bool)(e:Edit)(t:Tree):Option Tree:=
 if t.kind=1 then (wsD t.words e.words t.words).bind fun a=> (Jl r t.kids e.kids t.kids).map fun b=> .mk 1 a b else none
noncomputable def Z5D(r:Bool)(e:Edit)(t:Tree):Option (List Tree × List Tree):=if t.kind=e.list then ZG r e.ops t.kids [] else none
def JM(o:Option Tree):Tree:=o.getD Tree.nil
def Zpj(e:Edit)(o:Option (List Tree × List Tree)):Tree:=match o with | some x=> .mk e.list [] x.1 | none=> Tree.nil
noncomputable def Z9R(e:Edit)(t:Tree):Tree:=
 if e.kind=0 then t else if e.kind=1 then e.new else if e.kind=2 then JM (Z9P false e t) else if e.kind=3 then Zpj e (Z5D false e t) else Tree.nil
theorem Yt(o:Option Tree):o.map (nrD false)=o:=by cases o <;> rfl
theorem Z8t{e:Edit}{t u:Tree}(h:doE false e t=some u):Z9R e t=u:=by
 rw [Z0t,Yt] at h
 unfold Z9R
 split
 ·rename_i h0;rw [if_pos h0] at h;exact Option.some.inj h
 ·rename_i h0;rw [if_neg h0] at h
  split
  ·rename_i h1;rw [if_pos h1] at h
   split at h
   ·exact Option.some.inj h
   ·cases h
  ·rename_i h1;rw [if_neg h1] at h
   split
   ·rename_i h2;rw [if_pos h2] at h
    unfold JM Z9P
    rw [h];try rfl
   ·rename_i h2;rw [if_neg h2] at h
    split
    ·rename_i h3;rw [if_pos h3] at h
     unfold Zpj Z5D
     split at h
     ·rename_i h4;rw [if_pos h4]
      revert h
      cases ZG false e.ops t.kids [] with
      | none=> intro h;cases h
      | some x=>
       intro h
       simp only [Z2B,Qm] at h
       split at h
       ·exact Option.some.inj h
       ·cases h
     ·cases h
    ·rename_i h3;rw [if_neg h3] at h;cases h
end Go.AM
namespace Go.AM
structure Wst where
 out:List Op
 gone:List Tree
 brought:List Tree
def JD(out:List Op)(g b:List Tree):List Op:=
 out++((if g.length=0 then [] else [⟨1,0,g,Edit.nil⟩])++(if b.length=0 then [] else [⟨2,0,b,Edit.nil⟩]))
def Z0C:List Op->Int->List Op
 | [],n=> [⟨0,n,[],Edit.nil⟩]
 | [o],n=> if o.kind=0 then [⟨o.kind,o.n+n,o.l,o.e⟩] else [o,⟨0,n,[],Edit.nil⟩]
 | o ::p ::r,n=> o ::Z0C (p ::r) n
def Z0(w:Wst):Wst:=⟨JD w.out w.gone w.brought,[],[]⟩
def ZH(w:Wst)(n:Int):Wst:=⟨Z0C (Z0 w).out n,[],[]⟩
mutual
def Zx:Edit->Edit
 | .mk k o n w ks l os=>
  if k=1 then .mk k (Z2 o) (Z2 n) [] [] l []
  else if k=2 then .mk k Tree.nil Tree.nil w (Jb ks) l []
  else if k=3 then .mk k Tree.nil Tree.nil [] [] l (Z0 (ZO l os ⟨[],[],[]⟩)).out
  else .mk k Tree.nil Tree.nil [] [] l []
def Jb:List (KidOf Edit)->List (KidOf Edit)
 | []=> []
 | k ::r=> Z0J k ::Jb r
def Z0J:KidOf Edit->KidOf Edit
 | ⟨a,e⟩=> ⟨a,Zx e⟩
def ZO(list:Int):List (OpOf Edit)->Wst->Wst
 | [],s=> s
 | o ::r,s=> ZO list r (Z09 list o s)
def Z09(list:Int):OpOf Edit->Wst->Wst
 | ⟨k,n,l,e⟩,s=>
  if k=0 then ZH s n
  else if k=1 then ⟨s.out,s.gone++Z3 l,s.brought⟩
  else if k=2 then ⟨s.out,s.gone,s.brought++Z3 l⟩
  else if k=3 then (if Z5R list (Zx e)=true then ZH s 1 else ⟨(Z0 s).out++[⟨3,0,[],Zx e⟩],[],[]⟩)
  else s
end
theorem Z3v(e:Edit):Zx e=if e.kind=1 then .mk e.kind (Z2 e.old) (Z2 e.new) [] [] e.list []
  else if e.kind=2 then .mk e.kind Tree.nil Tree.nil e.words (Jb e.kids) e.list []
  else if e.kind=3 then .mk e.kind Tree.nil Tree.nil [] [] e.list (Z0 (ZO e.list e.ops ⟨[],[],[]⟩)).out
  else .mk e.kind Tree.nil Tree.nil [] [] e.list []:=by cases e;rfl
theorem Zdx(k:Kid):Z0J k=⟨k.at_,Zx k.e⟩:=by cases k;rfl
theorem Z10(list:Int)(o:Op)(s:Wst):Z09 list o s=if o.kind=0 then ZH s o.n
  else if o.kind=1 then ⟨s.out,s.gone++Z3 o.l,s.brought⟩
  else if o.kind=2 then ⟨s.out,s.gone,s.brought++Z3 o.l⟩
  else if o.kind=3 then (if Z5R list (Zx o.e)=true then ZH s 1 else ⟨(Z0 s).out++[⟨3,0,[],Zx o.e⟩],[],[]⟩)
  else s:=by cases o;rfl
end Go.AM
namespace Go.AM.Ytpjenobkibfpcaa
open Go.AM Go.Proofs
theorem Zbm(a b:Tree):ZT a b=ZT b a:=by simp [ZT,eq_comm]
theorem ZlE(l:List Int):trim (trim l)=trim l:=by
 induction l with
 | nil=> rfl
 | cons x r ih=>
  rw [Z1x]
  split
  ·try rfl
  ·rename_i h
   rw [Z1x,ih,if_neg h]
theorem ZhK(l:List Tree):ZS (ZS l)=ZS l:=by
 induction l with
 | nil=> rfl
 | cons x r ih=>
  rw [Jn]
  split
  ·try rfl
  ·rename_i h
   rw [Jn,ih,if_neg h]
def Normed:List Tree->Prop
 | []=> True
 | t ::r=> Z2 t=t/\Normed r
theorem Normed.eq:∀ {l:List Tree},Normed l->ZX l=l
 | [],_=> rfl
 | t ::r,h=> by simp only [ZX,h.1,Normed.eq h.2]
theorem Normed.trim:∀ {l:List Tree},Normed l->Normed (ZS l)
 | [],_=> trivial
 | t ::r,h=> by
  rw [Jn]
  split
  ·trivial
  ·exact ⟨h.1,Normed.trim h.2⟩
mutual
theorem J6:∀ (t:Tree),Z2 (Z2 t)=Z2 t
 | .mk k w ks=> by
  have h:=Z79 ks
  by_cases h0:k=0
  ·simp [Z2,h0,Tree.nil]
  ·by_cases h1:k=1
   ·subst h1
    simp only [Z2,if_neg h0,if_true,ZlE,h.trim.eq,ZhK]
   ·simp only [Z2,if_neg h0,if_neg h1,h.eq]
theorem Z79:∀ (ks:List Tree),Normed (ZX ks)
 | []=> trivial
 | t ::r=> ⟨J6 t,Z79 r⟩
end
theorem YJ:∀ (l:List Op) (n:Int),Z0C l n=l++[⟨0,n,[],Edit.nil⟩]\/∃ a o,l=a++[o]/\o.kind=0/\Z0C l n=a++[⟨o.kind,o.n+n,o.l,o.e⟩]
 | [],n=> Or.inl rfl
 | [o],n=> by
  by_cases h:o.kind=0
  ·exact Or.inr ⟨[],o,rfl,h,by simp [Z0C,h]⟩
  ·exact Or.inl (by simp [Z0C,h])
 | o ::p ::r,n=> by
  rcases YJ (p ::r) n with h | ⟨a,q,h1,h2,h3⟩
  ·exact Or.inl (by simp only [Z0C,h,QA])
  ·exact Or.inr ⟨o ::a,q,by rw [h1];rfl,h2,by simp only [Z0C,h3,QA]⟩
def W0:Wst:=⟨[],[],[]⟩
theorem Z9m(l:List Tree):Z3 (Z3 l)=Z3 l:=by
 simp only [Z3,List.map_map]
 congr 1
 funext t
 exact J6 t
theorem YR(a b:List Tree):Z3 (a++b)=Z3 a++Z3 b:=by simp [Z3]
end Go.AM.Ytpjenobkibfpcaa
namespace Go.AM
theorem Z7b{t:Tree}(h:Ji t=true):t=Tree.nil:=by
 obtain ⟨k,w,ks⟩:=t
 simp only [Ji,decide_eq_true_eq] at h
 obtain ⟨h1,h2,h3⟩:=h
 have h1:k=0:=h1
 rw [h1,Q6 (l:=w) h2,Q6 (l:=ks) h3]
 try rfl
theorem Zg2{e:Edit}(h:Z1b e=true):e=Edit.nil:=by
 obtain ⟨k,o,n,w,ks,l,os⟩:=e
 simp only [Z1b,Q0,decide_eq_true_eq] at h
 obtain ⟨⟨⟨h1,h2⟩,h3⟩,h4,h5,h6,h7⟩:=h
 have h1:k=0:=h1
 have h7:l=0:=h7
 rw [h1,h7,Z7b (t:=o) h2,Z7b (t:=n) h3,Q6 (l:=w) h4,Q6 (l:=ks) h5,Q6 (l:=os) h6]
 try rfl
structure RightE (e:Edit) (d:Int):Prop where
 d0:d≠0
 kind:0<=e.kind/\e.kind<=3
 none:e.kind≠1->e.old=Tree.nil/\e.new=Tree.nil
 words0:e.kind≠2->e.words=[]/\e.kids=[]
 ops0:e.kind≠3->e.list=0/\e.ops=[]
 rep:e.kind=1->Zh e.old (dT d)=true/\Zh e.new (dT d)=true/\e.old.kind≠10/\e.new.kind≠10
 words:Yh (-1) e.words=true
 kids:ZB (-1) e.kids (d - 1)=true
 list:e.kind=3->2<=e.list/\e.list<=9
 ops:ZD e.list e.ops (d - 1)=true
 len:Z1s e.ops 0 < 1048576/\Z1r e.ops 0 < 1048576
theorem Zk{e:Edit}{d:Int}(h:Z5 e d=true):RightE e d:=by
 obtain ⟨k,o,n,w,ks,l,os⟩:=e
 rw [Z5] at h
 split at h
 ·cases h
 ·rename_i a
  split at h
  ·cases h
  ·rename_i b
   have b1:k≠1->o=Tree.nil/\n=Tree.nil:=by
    intro hk
    by_cases x:Ji o=true/\Ji n=true
    ·exact ⟨Z7b x.1,Z7b x.2⟩
    ·exact absurd (.inl ⟨hk,x⟩) b
   have b2:k≠2->w=[]/\ks=[]:=by
    intro hk
    by_cases x:w.length=0/\ks.length=0
    ·exact ⟨Q6 x.1,Q6 x.2⟩
    ·exact absurd (.inr (.inl ⟨hk,x⟩)) b
   have b3:k≠3->l=0/\os=[]:=by
    intro hk
    by_cases x:l≠0\/os.length≠0
    ·exact absurd (.inr (.inr ⟨hk,x⟩)) b
    ·exact ⟨by omega,Q6 (by omega)⟩
   split at h
   ·rename_i c
    simp only [Q0,decide_eq_true_eq] at h
    obtain ⟨⟨h1,h2⟩,h3,h4⟩:=h
    have c2:=b2 (by omega)
    have c3:=b3 (by omega)
    obtain ⟨rfl,rfl⟩:=c2
    obtain ⟨rfl,rfl⟩:=c3
    exact ⟨by omega,⟨by show 0<=k;omega,by show k<=3;omega⟩,b1,b2,b3,fun _=> ⟨h1,h2,h3,h4⟩,rfl,rfl,fun e=> by have e:k=3:=e;omega,rfl,by show Z1s [] 0 < _/\Z1r [] 0 < _;simp [Z1s,Z1r]⟩
   ·rename_i c
    simp only [Q0,decide_eq_true_eq] at h
    obtain ⟨⟨⟨⟨h1,h2⟩,h3⟩,h4⟩,h5⟩:=h
    exact ⟨by omega,⟨by show 0<=k;omega,by show k<=3;omega⟩,b1,b2,b3,fun e=> absurd e c,h1,h2,fun e=> by have e:k=3:=e;show 2<=l/\l<=9;omega,h4,h5⟩
theorem Zs:∀ {ks:List Kid} {last d:Int},ZB last ks d=true->∀ k∈ks,(last < k.at_/\k.at_<=65534/\k.e.kind≠0)/\Z5 k.e d=true
 | [],_,_,_,_,hk=> by cases hk
 | ⟨a,e⟩ ::r,last,d,h,k,hk=> by
  simp only [ZB,Jr,Q0,decide_eq_true_eq] at h
  obtain ⟨⟨h1,h2⟩,h3⟩:=h
  rcases Qd.1 hk with rfl | hk
  ·exact ⟨h1,h2⟩
  ·have:=Zs h3 k hk
   have h1:last < a/\a<=65534/\e.kind≠0:=h1
   have h4:a < k.at_:=this.1.1
   exact ⟨⟨by omega,this.1.2⟩,this.2⟩
theorem rightOs_mem{list:Int}:∀ {os:List Op} {d:Int},ZD list os d=true->∀ o∈os,Za list o d=true
 | [],_,_,_,ho=> by cases ho
 | a ::r,d,h,o,ho=> by
  simp only [ZD,Q0] at h
  rcases Qd.1 ho with rfl | ho
  ·exact h.1
  ·exact rightOs_mem h.2 o ho
theorem Z07:∀ {ws:List WEdit} {last:Int},Yh last ws=true->∀ w∈ws,last < w.at_/\w.at_<=65534/\w.mask≠0/\Yz w.old w.mask=true/\Yz w.new w.mask=true
 | [],_,_,_,hw=> by cases hw
 | a ::r,last,h,w,hw=> by
  simp only [Yh,Q0,decide_eq_true_eq] at h
  obtain ⟨⟨⟨h1,h2⟩,h3⟩,h4⟩:=h
  rcases Qd.1 hw with rfl | hw
  ·exact ⟨h1.1,h1.2.1,h1.2.2,h2,h3⟩
  ·have:=Z07 h4 w hw
   exact ⟨by omega,this.2⟩
inductive RightOp (list:Int) (d:Int):Op->Prop
 | keep (n:Int):1<=n->n<=1048576->RightOp list d ⟨0,n,[],Edit.nil⟩
 | gone (l:List Tree):Y3 (dT d) list l=true->0 < l.length->RightOp list d ⟨1,0,l,Edit.nil⟩
 | come (l:List Tree):Y3 (dT d) list l=true->0 < l.length->RightOp list d ⟨2,0,l,Edit.nil⟩
 | into (e:Edit):Z5 e d=true->e.kind≠0->7 < list->(list=8\/e.kind=2\/e.kind=1/\e.old.kind=1/\e.new.kind=1)->RightOp list d ⟨3,0,[],e⟩
theorem ZN{list:Int}{o:Op}{d:Int}(h:Za list o d=true):RightOp list d o:=by
 obtain ⟨k,n,l,e⟩:=o
 rw [Za] at h
 split at h
 ·rename_i hk
  simp only [Q0,decide_eq_true_eq] at h
  obtain ⟨⟨h1,h2,h3⟩,h4⟩:=h
  rw [hk,Zg2 h4,Q6 h3]
  exact .keep n h1 h2
 ·rename_i h0
  split at h
  ·cases h
  ·rename_i h1
   have hn:n=0:=by omega
   subst hn
   split at h
   ·rename_i h2
    simp only [Q0,decide_eq_true_eq] at h
    obtain ⟨⟨h3,h4⟩,h5⟩:=h
    rw [Zg2 h5]
    by_cases hk:k=1
    ·rw [hk];exact .gone l h3 h4
    ·rw [show k=2 by omega];exact .come l h3 h4
   ·rename_i h2
    simp only [Q0,decide_eq_true_eq] at h
    obtain ⟨⟨⟨h3,h4,h5⟩,h6⟩,h7⟩:=h
    rw [show k=3 by omega,Q6 h3]
    exact .into e h6 h4 h5 h7
theorem ZhT{e:Edit}{d:Int}(h:Z5 e d=true):(∀ k∈e.kids,∃ d,Z5 k.e d=true)/\(∀ o∈e.ops,∃ l d,Za l o d=true)/\(e.kind=3->2<=e.list/\e.list<=9):=by
 have r:=Zk h
 exact ⟨fun k hk=> ⟨_,(Zs r.kids k hk).2⟩,fun o ho=> ⟨_,_,rightOs_mem r.ops o ho⟩,r.list⟩
theorem YP{l d:Int}{o:Op}(h:Za l o d=true)(hk:o.kind=3):Z5 o.e d=true:=by
 have r:=ZN h
 cases r with
 | into e h1=> exact h1
 | keep | gone | come=> exact absurd hk (by simp)
end Go.AM
namespace Go.AM.Ytpjenobkibfpcaa
open Go.AM Go.Proofs
theorem Z5I{α:Type}(z:α)(l:List α)(i:Nat)(x:α):(Yb z l i x).length=max l.length (i+1):=by
 simp only [Yb,Ke,Q9,Xd];omega
theorem Jp{α:Type}(z:α)(l:List α)(i:Nat)(x:α)(j:Nat):(Yb z l i x).getD j z=if j=i then x else l.getD j z:=by
 simp only [Yb,Qo,K3,Q9,Xd]
 by_cases h:j=i
 ·subst h;rw [if_pos rfl,if_pos rfl,if_pos (by omega)];try rfl
 ·rw [if_neg (fun e=> h e.symm),if_neg h]
  by_cases hl:j < l.length
  ·rw [Qt hl]
  ·rw [Qv (by omega),Qu (l:=l) (by omega),List.getElem?_replicate]
   split <;> rfl
theorem ZhO{α β:Type}(f:α->β)(z:α)(l:List α)(i:Nat)(x:α):(Yb z l i x).map f=Yb (f z) (l.map f) i (f x):=by
 simp [Yb,List.map_set]
theorem Z2T:∀ l:List Tree,ZX l=Z3 l
 | []=> rfl
 | t ::r=> by simp [ZX,Z3,Z2T r]
theorem Zc5(l:List Tree)(i:Nat)(x:Tree):Z3 (Yb Tree.nil l i x)=Yb Tree.nil (Z3 l) i (Z2 x):=by
 rw [Z3,ZhO,Z8A];try rfl
theorem Zm9{a b:List Tree}{i:Nat}{x y:Tree}(h:Z3 a=Z3 b)(hx:Z2 x=Z2 y):Z3 (Yb Tree.nil a i x)=Z3 (Yb Tree.nil b i y):=by
 rw [Zc5,Zc5,h,hx]
theorem Z1E{a b c d:List Tree}(h:Z3 a=Z3 b)(hx:Z3 c=Z3 d):Z3 (a++c)=Z3 (b++d):=by
 rw [YR,YR,h,hx]
theorem Zc6(k:Int)(w:List Int){a b:List Tree}(h:Z3 a=Z3 b):Z2 (.mk k w a)=Z2 (.mk k w b):=by
 simp only [Z2,Z2T,h]
theorem Z2S{a b:List Tree}(h:Z3 a=Z3 b):a.length=b.length:=by
 have:=congrArg List.length h
 simpa [Z3] using this
theorem Z8z{a b:Tree}:Z3 [a]=Z3 [b]↔Z2 a=Z2 b:=by simp [Z3]
def OptR{α β:Type}(R:α->β->Prop):Option α->Option β->Prop
 | none,none=> True
 | some a,some b=> R a b
 | _,_=> False
theorem OptR.rfl'{α:Type}(a:Option α):OptR Eq a a:=by cases a;exact trivial;exact rfl
theorem OptR.bind{α β γ δ:Type}{R:α->β->Prop}{S:γ->δ->Prop}{a:Option α}{b:Option β}{f:α->Option γ}{g:β->Option δ}(h:OptR R a b)(hf:∀ x y,R x y->OptR S (f x) (g y)):OptR S (a.bind f) (b.bind g):=by
 cases a <;> cases b <;> first | exact trivial | exact h.elim | exact hf _ _ h
theorem OptR.map{α β γ δ:Type}{R:α->β->Prop}{S:γ->δ->Prop}{a:Option α}{b:Option β}{f:α->γ}{g:β->δ}(h:OptR R a b)(hf:∀ x y,R x y->S (f x) (g y)):OptR S (a.map f) (b.map g):=by
 cases a <;> cases b <;> first | exact trivial | exact h.elim | exact hf _ _ h
theorem OptR.ite{α β:Type}{R:α->β->Prop}{p q:Prop} [Decidable p] [Decidable q] {a c:Option α}{b d:Option β}(h:p↔q)(h1:p->OptR R a b)(h2:¬p->OptR R c d):OptR R (if p then a else c) (if q then b else d):=by
 by_cases hp:p
 ·rw [if_pos hp,if_pos (h.1 hp)];exact h1 hp
 ·rw [if_neg hp,if_neg (fun hq=> hp (h.2 hq))];exact h2 hp
theorem OptR.isSome{α β:Type}{R:α->β->Prop}{a:Option α}{b:Option β}(h:OptR R a b):a.isSome=b.isSome:=by
 cases a <;> cases b <;> first | rfl | exact h.elim
def Eqv(x y:Tree):Prop:=Z2 x=Z2 y
def EqvL(x y:List Tree):Prop:=Z3 x=Z3 y
theorem EqvL.take{x y:List Tree}(h:EqvL x y)(n:Nat):EqvL (x.take n) (y.take n):=by unfold EqvL Z3 at*;rw [List.map_take,List.map_take,h]
theorem EqvL.drop{x y:List Tree}(h:EqvL x y)(n:Nat):EqvL (x.drop n) (y.drop n):=by unfold EqvL Z3 at*;rw [List.map_drop,List.map_drop,h]
theorem EqvL.len{x y:List Tree}(h:EqvL x y):x.length=y.length:=Z2S h
theorem Zc4(l:List Tree)(i:Nat):(Z3 l).getD i Tree.nil=Z2 (l.getD i Tree.nil):=by rw [<-Z2T];exact Z01 l i
theorem EqvL.get{x y:List Tree}(h:EqvL x y)(i:Nat):Eqv (x.getD i Tree.nil) (y.getD i Tree.nil):=by
 unfold Eqv;rw [<-Zc4,<-Zc4,h]
theorem Zhj{a b:Option (List Tree × List Tree)}(h:OptR (fun x y=> EqvL x.1 y.1/\EqvL x.2 y.2) a b):OptR EqvL (Z2B a) (Z2B b):=by
 unfold Z2B
 refine h.bind fun x y hxy=> ?_
 exact OptR.ite (by rw [hxy.2.len]) (fun _=> hxy.1) (fun _=> trivial)
def Zqv(a b:List Int):Prop:=∀ i:Nat,a.getD i 0=b.getD i 0
def Zn3(a b:List Tree):Prop:=∀ i:Nat,Eqv (a.getD i Tree.nil) (b.getD i Tree.nil)
theorem Z6r{a b:Tree}(ha:a.kind=1)(hb:b.kind=1):Eqv a b↔Zqv a.words b.words/\Zn3 a.kids b.kids:=by
 unfold Eqv Zqv Zn3
 rw [Yq,ha,hb]
 simp [Eqv]
theorem Zhi{a b:Tree}(h0:a.kind≠0)(h1:a.kind≠1):Eqv a b↔a.kind=b.kind/\a.words=b.words/\EqvL a.kids b.kids:=by
 unfold Eqv EqvL
 rw [Yq,if_neg h1,<-Z2T,<-Z2T,Z7a]
 simp [h0,and_assoc]
theorem Eqv.kind{a b:Tree}(h:Eqv a b):a.kind=b.kind:=((Yq a b).1 h).1
theorem Zj5{tw tv:List Int}(h:Zqv tw tv):∀ (ws:List WEdit) (a b:List Int),Zqv a b->OptR Zqv (wsD tw ws a) (wsD tv ws b)
 | [],_,_,hab=> hab
 | w ::r,a,b,hab=> by
  rw [wsD,wsD,h w.at_.toNat]
  refine OptR.ite QN (fun _=> Zj5 h r _ _ fun i=> ?_) (fun _=> trivial)
  rw [Jp,Jp]
  split
  ·try rfl
  ·exact hab i
theorem Zmx(l:List Tree){a b:List Tree}(h:EqvL a b):Jj l a=Jj l b:=by
 unfold Jj
 rw [h.len,show Z3 (a.take l.length)=Z3 (b.take l.length) from h.take _]
mutual
theorem Z5q:∀ (e:Edit) (d:Int) (t s:Tree),Z5 e d=true->Eqv t s->OptR Eqv (doE false e t) (doE false e s)
 | .mk k o n w ks l os,d,t,s,hr,h=> by
  have h1:=Zhp ks t.kids s.kids
  have h2:=Zcz os t.kids s.kids [] []
  have hk:=h.kind
  have hrt:=ZhT hr
  rw [Z0t,Z0t,Yt,Yt]
  show OptR Eqv (if k=0 then _ else _) (if k=0 then _ else _)
  refine OptR.ite QN (fun _=> h) fun _=> OptR.ite QN (fun _=> ?_) fun _=> OptR.ite QN (fun k2=> ?_) fun _=> OptR.ite QN (fun k3=> ?_) (fun _=> trivial)
  ·rw [show Z2 t=Z2 s from h]
   exact OptR.ite QN (fun _=> rfl) (fun _=> trivial)
  ·refine OptR.ite (by rw [hk]) (fun ht=> ?_) (fun _=> trivial)
   have hs:s.kind=1:=by rw [<-hk];exact ht
   obtain ⟨hw,hks⟩:=(Z6r ht hs).1 h
   refine (Zj5 hw w t.words s.words hw).bind fun a b hab=> ?_
   refine (h1 hks hrt.1 t.kids s.kids hks).map fun x y hxy=> ?_
   exact (Z6r rfl rfl).2 ⟨hab,hxy⟩
  ·refine OptR.ite (by rw [hk]) (fun ht=> ?_) (fun _=> trivial)
   have hl:=hrt.2.2
   have hos:=hrt.2.1
   replace ht:t.kind=l:=ht
   replace hl:2<=l/\l<=9:=hl k3
   obtain ⟨_,_,hks⟩:=(Zhi (by omega) (by omega)).1 h
   exact (Zhj (h2 hks rfl hos)).map fun x y hxy=> Zc6 _ _ hxy
theorem Zhp:∀ (ks:List (KidOf Edit)) (tk sk:List Tree),Zn3 tk sk->(∀ k∈ks,∃ d,Z5 k.e d=true)->∀ a b,Zn3 a b->OptR Zn3 (Jl false tk ks a) (Jl false sk ks b)
 | [],_,_,_,_,_,_,hab=> hab
 | k ::r,tk,sk,h,hr,a,b,hab=> by
  rw [Jl,Jl]
  obtain ⟨d,hd⟩:=hr k Q7
  refine (ZmH k d tk sk h hd).bind fun x y hxy=> Zhp r tk sk h (fun q hq=> hr q (Q5 _ hq)) _ _ fun i=> ?_
  rw [Jp,Jp]
  split
  ·exact hxy
  ·exact hab i
theorem ZmH:∀ (k:KidOf Edit) (d:Int) (tk sk:List Tree),Zn3 tk sk->Z5 k.e d=true->OptR Eqv (Z28 false tk k) (Z28 false sk k)
 | ⟨a,e⟩,d,tk,sk,h,hr=> by rw [Z28,Z28];exact Z5q e d _ _ hr (h _)
theorem Zcz:∀ (os:List (OpOf Edit)) (rt rs a b:List Tree),EqvL rt rs->EqvL a b->(∀ o∈os,∃ l d,Za l o d=true)->OptR (fun x y=> EqvL x.1 y.1/\EqvL x.2 y.2) (ZG false os rt a) (ZG false os rs b)
 | [],_,_,_,_,h,hab,_=> ⟨hab,h⟩
 | o ::r,rt,rs,a,b,h,hab,hr=> by
  rw [ZG,ZG]
  refine (ZpV o rt rs a b h hab (hr o Q7)).bind fun x y hxy=> Zcz r _ _ _ _ hxy.2 hxy.1 (fun q hq=> hr q (Q5 _ hq))
theorem ZpV:∀ (o:OpOf Edit) (rt rs a b:List Tree),EqvL rt rs->EqvL a b->(∃ l d,Za l o d=true)->OptR (fun x y=> EqvL x.1 y.1/\EqvL x.2 y.2) (Z3E false o rt a) (Z3E false o rs b)
 | ⟨k,n,l,e⟩,rt,rs,a,b,h,hab,hr=> by
  obtain ⟨li,d,hr⟩:=hr
  have he:=fun h3=> Z5q e d (rt.getD 0 Tree.nil) (rs.getD 0 Tree.nil) (YP hr h3) (h.get 0)
  have hlen:=h.len
  rw [Z3E,Z3E]
  refine OptR.ite QN (fun _=> OptR.ite (by rw [hlen]) (fun _=> ⟨Z1E hab (h.take _),h.drop _⟩) (fun _=> trivial)) fun k0=> OptR.ite QN (fun _=> ?_) fun k1=> OptR.ite QN (fun _=> ⟨Z1E hab rfl,h⟩) fun k2=> OptR.ite (by rw [hlen]) (fun _=> trivial) fun _=> ?_
  ·rw [Zmx l h]
   exact OptR.ite QN (fun _=> ⟨hab,h.drop _⟩) (fun _=> trivial)
  ·have h03:k=0\/k=1\/k=2\/k=3:=by
    have r:=ZN hr
    generalize ho:OpOf.mk k n l e=o at r
    cases r <;> (injection ho with h1;subst h1;decide)
   exact (he (by show k=3;omega)).map fun x y h'=> ⟨Z1E hab (Z8z.2 h'),h.drop _⟩
end
theorem ZgV{α β:Type}{f:α->β}(d:α){a b:List α}(hl:a.length=b.length)(h:∀ i:Nat,i < a.length->f (a.getD i d)=f (b.getD i d)):a.map f=b.map f:=by
 apply List.ext_getElem (by simpa using hl)
 intro i h1 h2
 have h1':i < a.length:=by simpa using h1
 have h2':i < b.length:=by simpa using h2
 have:=h i h1'
 simpa [Qo,Q4 h1',Q4 h2'] using this
theorem Zhd{α β:Type}{f:α->β}{d:α}{a b:List α}(h:a.map f=b.map f)(i:Nat):f (a.getD i d)=f (b.getD i d):=by
 have e:=congrArg (fun l=> l[i]?.getD (f d)) h
 simp only [Ql] at e
 rw [Qo,Qo]
 cases h1:a[i]? <;> cases h2:b[i]? <;> simp_all
theorem Z2Y(t:Tree):(Z2 t).kind=t.kind:=by
 obtain ⟨k,w,ks⟩:=t
 simp only [Z2]
 by_cases h0:k=0
 ·rw [if_pos h0,h0];try rfl
 ·rw [if_neg h0]
  by_cases h1:k=1
  ·rw [if_pos h1,h1];try rfl
  ·rw [if_neg h1];try rfl
theorem ZaM:∀ (l:List Int),∃ r,l=trim l++r
 | []=> ⟨[],rfl⟩
 | x ::r=> by
  obtain ⟨s,hs⟩:=ZaM r
  simp only [trim]
  split
  ·rename_i e
   split
   ·exact ⟨x ::r,rfl⟩
   ·exact ⟨r,rfl⟩
  ·rename_i y t e
   rw [e] at hs
   exact ⟨s,by rw [hs];rfl⟩
theorem Z87:∀ (l:List Tree),∃ r,l=ZS l++r
 | []=> ⟨[],rfl⟩
 | x ::r=> by
  obtain ⟨s,hs⟩:=Z87 r
  simp only [ZS]
  split
  ·rename_i e
   split
   ·exact ⟨x ::r,rfl⟩
   ·exact ⟨r,rfl⟩
  ·rename_i y t e
   rw [e] at hs
   exact ⟨s,by rw [hs];rfl⟩
theorem Zbt{list d:Int}:∀ (a b:List Tree),ZZ list (a++b) d=true->ZZ list a d=true
 | [],_,_=> rfl
 | t ::r,b,h=> by
  simp only [QA,ZZ,Q0] at h ⊢
  exact ⟨h.1,Zbt r b h.2⟩
theorem Z1q:∀ (l:List Tree),(ZX l).length=l.length
 | []=> rfl
 | t ::r=> by simp only [ZX,Qb,Z1q r]
theorem Zmr{list:Int}{t:Tree}(h:Z3P list t=true):Z3P list (Z2 t)=true:=by
 unfold Z3P at h ⊢
 rw [Z2Y]
 split at h
 ·rename_i hl
  rw [if_pos hl]
  simp only [Q0,decide_eq_true_eq] at h ⊢
  obtain ⟨⟨h1,h2,h3⟩,h4⟩:=h
  obtain ⟨k,w,ks⟩:=t
  simp only [Tree.kind_mk,Tree.kids_mk,Tree.words_mk] at h1 h2 h3 h4
  have:ks=[]:=Xh.1 h2
  subst this
  subst h1
  exact ⟨⟨rfl,rfl,h3⟩,h4⟩
 ·rename_i hl
  rw [if_neg hl]
  exact h
mutual
theorem Z43:∀ (t:Tree) (d:Int),Zh t d=true->Zh (Z2 t) d=true
 | .mk k w ks,d,h=> by
  have ih:=fun (list:Int) (h:ZZ list ks (d - 1)=true)=> Z45 ks list (d - 1) h
  simp only [Zh] at h
  simp only [Z2]
  by_cases h0:k=0
  ·rw [if_pos h0];simp [Tree.nil,Zh]
  ·rw [if_neg h0] at h ⊢
   by_cases h10:k=10
   ·subst h10
    rw [if_pos rfl] at h
    rw [if_neg (by decide)]
    simp only [decide_eq_true_eq] at h
    simp only [Zh]
    rw [if_neg (by decide),if_pos trivial,Z1q]
    simpa using h
   ·rw [if_neg h10] at h
    by_cases hd:d=0
    ·rw [if_pos hd] at h;cases h
    ·rw [if_neg hd] at h
     by_cases h1:k=1
     ·subst h1
      rw [if_pos rfl] at h
      rw [if_pos rfl]
      simp only [Q0,decide_eq_true_eq] at h
      simp only [Zh]
      rw [if_neg (by decide),if_neg (by decide),if_neg hd,if_pos trivial]
      simp only [Q0,decide_eq_true_eq]
      obtain ⟨r1,e1⟩:=ZaM w
      obtain ⟨r2,e2⟩:=Z87 (ZX ks)
      have l1:=congrArg List.length e1
      have l2:=congrArg List.length e2
      rw [Z1q] at l2
      simp only [Q9] at l1 l2
      refine ⟨⟨by omega,by omega⟩,?_⟩
      have:=ih 1 h.2
      rw [e2] at this
      exact Zbt _ _ this
     ·rw [if_neg h1] at h ⊢
      simp only [Q0,decide_eq_true_eq] at h
      simp only [Zh]
      rw [if_neg h0,if_neg h10,if_neg hd,if_neg h1,Z1q]
      simp only [Q0,decide_eq_true_eq]
      exact ⟨h.1,ih k h.2⟩
theorem Z45:∀ (l:List Tree) (list d:Int),ZZ list l d=true->ZZ list (ZX l) d=true
 | [],_,_,_=> rfl
 | t ::r,list,d,h=> by
  simp only [ZZ,Q0] at h
  have h1:=Z43 t d h.1.2
  have h2:=Z45 r list d h.2
  simp only [ZX,ZZ,Q0]
  exact ⟨⟨Zmr h.1.1,h1⟩,h2⟩
end
theorem Z8F:∀ (a b:List Tree),Z7 (a++b)=Z7 a+Z7 b
 | [],b=> by simp [Z7]
 | t ::r,b=> by simp only [QA,Z7,Z8F r b];omega
theorem Z03:∀ (a b:List Op),Zg (a++b)=Zg a+Zg b
 | [],b=> by simp [Zg]
 | t ::r,b=> by simp only [QA,Zg,Z03 r b];omega
theorem Z4m:∀ (l:List Tree),Z7 (Z3 l)<=Z7 l
 | []=> by simp [Z3,Z7]
 | t ::r=> by
  have h:=Z4m r
  have h2:=Jv t
  simp only [Z3] at h
  simp only [Z3,Xb,Z7]
  omega
theorem Z56:Z8 Edit.nil=3:=by simp [Edit.nil,Tree.nil,Z8,Zi,Z7,ZQ,Zg]
theorem Z1G:Zi Tree.nil=1:=by simp [Tree.nil,Zi,Z7]
theorem Z55(t:Tree):1<=Zi t:=by cases t;simp only [Zi];omega
theorem Z9t:∀ (e:Edit),3<=Z8 e
 | .mk k o n w ks l os=> by
  have h1:=Z55 o
  have h2:=Z55 n
  simp only [Z8];omega
def Z4b(w:Wst):Nat:=Zg w.out+w.out.length+Z7 w.gone+Z7 w.brought+(if w.gone.length=0 then 0 else 4)+(if w.brought.length=0 then 0 else 4)
theorem Z02(o:Op):Zg [o]=Zt o:=by simp [Zg]
theorem Z1H(k n:Int)(l:List Tree)(e:Edit):Zt (OpOf.mk k n l e)=Z7 l+Z8 e:=rfl
theorem Z8r(w:Wst):Zg (Z0 w).out+(Z0 w).out.length=Z4b w:=by
 simp only [Z0,JD,Z4b]
 rw [Z03,Z03,Q9,Q9]
 by_cases hg:w.gone.length=0
 ·have e:w.gone=[]:=Xh.1 hg
  rw [if_pos hg,if_pos hg,e]
  by_cases hb:w.brought.length=0
  ·have e2:w.brought=[]:=Xh.1 hb
   rw [if_pos hb,if_pos hb,e2];simp [Zg,Z7]
  ·rw [if_neg hb,if_neg hb,Z02,Z1H,Z56];simp [Zg,Z7];omega
 ·rw [if_neg hg,if_neg hg,Z02,Z1H,Z56]
  by_cases hb:w.brought.length=0
  ·have e2:w.brought=[]:=Xh.1 hb
   rw [if_pos hb,if_pos hb,e2];simp [Zg,Z7];omega
  ·rw [if_neg hb,if_neg hb,Z02,Z1H,Z56];simp;omega
theorem Zgw(w:Wst)(n:Int):Z4b (ZH w n)<=Z4b w+4:=by
 have h:=Z8r w
 have e:Z4b (ZH w n)=Zg (Z0C (Z0 w).out n)+(Z0C (Z0 w).out n).length:=by simp [Z4b,ZH,Z7]
 rw [e]
 rcases YJ (Z0 w).out n with e | ⟨a,o,e1,_,e3⟩
 ·rw [e,Z03,Q9,Z02,Z1H,Z56];simp [Z7];omega
 ·rw [e3,Z03,Q9,Z02]
  rw [e1,Z03,Q9,Z02] at h
  obtain ⟨k,m,l,e⟩:=o
  simp only [Z1H] at h ⊢
  simp at h ⊢
  omega
theorem ZuI{list:Int}{w:Wst}{o:Op}(hi:Z8 (Zx o.e)<=Z8 o.e):Z4b (Z09 list o w)<=Z4b w+Zt o+1:=by
 have h3:=Z9t o.e
 have hm:Zt o=Z7 o.l+Z8 o.e:=by cases o;rfl
 have hn:=Z4m o.l
 have hl:(Z3 o.l).length=o.l.length:=by simp [Z3]
 rw [Z10]
 split
 ·have:=Zgw w o.n;omega
 ·split
  ·simp only [Z4b,Z8F,Q9,hl]
   split <;> split <;> split <;> omega
  ·split
   ·simp only [Z4b,Z8F,Q9,hl]
    split <;> split <;> split <;> omega
   ·split
    ·split
     ·have:=Zgw w 1;omega
     ·have:=Z8r w
      have e:Z4b ⟨(Z0 w).out++[⟨3,0,[],Zx o.e⟩],[],[]⟩=Zg ((Z0 w).out++[(⟨3,0,[],Zx o.e⟩:Op)])+((Z0 w).out++[(⟨3,0,[],Zx o.e⟩:Op)]).length:=by simp [Z4b,Z7]
      rw [e,Z03,Q9,Z02,Z1H]
      simp [Z7];omega
    ·omega
mutual
theorem Z57:∀ (e:Edit),Z8 (Zx e)<=Z8 e
 | .mk k o n w ks l os=> by
  have h1:=Zce ks
  have h2:=ZjR l os W0
  have h3:=Z8r (ZO l os W0)
  have e0:Z4b W0=0:=rfl
  have po:=Z55 o
  have pn:=Z55 n
  have mo:=Jv o
  have mn:=Jv n
  rw [Zx]
  split
  ·simp only [Z8,ZQ,Zg,Qg];omega
  ·split
   ·simp only [Z8,ZQ,Zg,Qg,Z1G];omega
   ·split
    ·simp only [Z8,ZQ,Qg,Z1G]
     show 1+1+1+0+(Z0 (ZO l os W0)).out.length+0+Zg (Z0 (ZO l os W0)).out<=_
     omega
    ·simp only [Z8,ZQ,Zg,Qg,Z1G];omega
theorem Zce:∀ (ks:List (KidOf Edit)),ZQ (Jb ks)<=ZQ ks
 | []=> Qh _
 | k ::r=> by
  have h1:=ZgU k
  have h2:=Zce r
  simp only [Jb,ZQ];omega
theorem ZgU:∀ (k:KidOf Edit),JI (Z0J k)<=JI k
 | ⟨a,e⟩=> by
  have h:=Z57 e
  simp only [Z0J,JI];exact h
theorem ZjR(list:Int):∀ (os:List (OpOf Edit)) (w:Wst),Z4b (ZO list os w)<=Z4b w+Zg os+os.length
 | [],w=> by simp [ZO,Zg]
 | o ::r,w=> by
  have h1:=Zm0 list o w
  have h2:=ZjR list r (Z09 list o w)
  simp only [ZO,Zg,Qb];omega
theorem Zm0(list:Int):∀ (o:OpOf Edit) (w:Wst),Z4b (Z09 list o w)<=Z4b w+Zt o+1
 | ⟨k,n,l,e⟩,_=> ZuI (o:=⟨k,n,l,e⟩) (Z57 e)
end
theorem Z8y(e:Edit):(Zx e).kind=e.kind:=by
 rw [Z3v]
 split
 ·try rfl
 ·split
  ·try rfl
  ·split <;> rfl
theorem ZgL(e:Edit)(h:e.kind=1):(Zx e).old=Z2 e.old/\(Zx e).new=Z2 e.new:=by
 rw [Z3v,if_pos h]
 exact ⟨rfl,rfl⟩
theorem ZhU{D list:Int}{t:Tree}(hD:D≠0)(h:Zh (.mk list [] [t]) D=true):Zh (.mk list [] [Z2 t]) D=true:=by
 have key:=fun (k d:Int) (h:ZZ k [t] d=true)=> Z45 [t] k d h
 simp only [ZX] at key
 simp only [Zh] at h ⊢
 split at h
 ·simp at h
 ·rename_i h0
  rw [if_neg h0]
  split at h
  ·simp at h
  ·rename_i h1
   rw [if_neg h1]
   try rw [if_neg hD] at h
   try rw [if_neg hD]
   split at h
   ·rename_i h2
    rw [if_pos h2]
    simp only [Q0] at h ⊢
    exact ⟨h.1,key _ _ h.2⟩
   ·rename_i h2
    rw [if_neg h2]
    simp only [Q0] at h ⊢
    exact ⟨h.1,key _ _ h.2⟩
theorem Z2s{D list:Int}(hD:D≠0):∀ {l:List Tree},Y3 D list l=true->Y3 D list (Z3 l)=true
 | [],_=> rfl
 | t ::r,h=> by
  simp only [Y3,Q0] at h
  have h2:=Z2s hD h.2
  simp only [Z3] at h2
  simp only [Z3,Xb,Y3,Q0]
  exact ⟨ZhU hD h.1,h2⟩
theorem Z3R{D list:Int}:∀ {a b:List Tree},Y3 D list a=true->Y3 D list b=true->Y3 D list (a++b)=true
 | [],_,_,h=> h
 | t ::r,b,h,h2=> by
  simp only [Y3,Q0] at h
  simp only [QA,Y3,Q0]
  exact ⟨h.1,Z3R h.2 h2⟩
def rOp(list:Int)(d:Int)(o:Op):Prop:=(o.kind=0->1<=o.n/\o.l.length=0/\Z1b o.e=true)/\(o.kind≠0->Za list o d=true)
theorem Z8k{list d:Int}{o:Op}(h:Za list o d=true):rOp list d o:=by
 refine ⟨fun hk=> ?_,fun _=> h⟩
 obtain ⟨k,n,l,e⟩:=o
 simp only at hk
 subst hk
 simp only [Za,if_true,Q0,decide_eq_true_eq] at h
 exact ⟨h.1.1,h.1.2.2,h.2⟩
theorem ZuE{list d:Int}{o:Op}(h:rOp list d o)(hn:o.kind=0->o.n<=1048576):Za list o d=true:=by
 by_cases hk:o.kind=0
 ·have h1:=h.1 hk
  have h2:=hn hk
  obtain ⟨k,n,l,e⟩:=o
  simp only at hk h1 h2
  subst hk
  simp only [Za,if_true,Q0,decide_eq_true_eq]
  exact ⟨⟨h1.1,h2,h1.2.1⟩,h1.2.2⟩
 ·exact h.2 hk
theorem Z0Z{list:Int}:∀ {os:List Op} {d:Int},ZD list os d=true↔∀ o∈os,Za list o d=true
 | [],d=> by simp [ZD]
 | o ::r,d=> by
  simp only [ZD,Q0,Qd,forall_eq_or_imp]
  rw [Z0Z (os:=r)]
theorem Z1R:Z1b Edit.nil=true:=rfl
structure OkW (list d:Int) (w:Wst):Prop where
 out:∀ o∈w.out,rOp list d o
 gone:Y3 (dT d) list w.gone=true
 brought:Y3 (dT d) list w.brought=true
theorem Z8u{list d:Int}{w:Wst}(h:OkW list d w):OkW list d (Z0 w):=by
 refine ⟨?_,rfl,rfl⟩
 simp only [Z0,JD]
 intro o ho
 rcases Qi.1 ho with ho | ho
 ·exact h.out o ho
 rcases Qi.1 ho with ho | ho
 ·split at ho
  ·cases ho
  ·rename_i hl
   simp only [Qj] at ho
   subst ho
   refine ⟨fun hk=> (by cases hk),fun _=> ?_⟩
   simp only [Za]
   rw [if_neg (by decide),if_neg (by decide),if_pos (by decide),h.gone,Z1R]
   simp only [Xc,QF,decide_eq_true_eq]
   omega
 ·split at ho
  ·cases ho
  ·rename_i hl
   simp only [Qj] at ho
   subst ho
   refine ⟨fun hk=> (by cases hk),fun _=> ?_⟩
   simp only [Za]
   rw [if_neg (by decide),if_neg (by decide),if_pos (by decide),h.brought,Z1R]
   simp only [Xc,QF,decide_eq_true_eq]
   omega
theorem ZgI{list d:Int}{w:Wst}{n:Int}(h:OkW list d w)(hn:1<=n):OkW list d (ZH w n):=by
 have hf:=Z8u h
 refine ⟨?_,rfl,rfl⟩
 simp only [ZH]
 intro o ho
 rcases YJ (Z0 w).out n with e | ⟨a,q,e1,e2,e3⟩
 ·rw [e] at ho
  rcases Qi.1 ho with ho | ho
  ·exact hf.out o ho
  ·simp only [Qj] at ho
   subst ho
   exact ⟨fun _=> ⟨hn,rfl,Z1R⟩,fun hk=> absurd rfl hk⟩
 ·rw [e3] at ho
  rcases Qi.1 ho with ho | ho
  ·exact hf.out o (by rw [e1];exact Qi.2 (Or.inl ho))
  ·simp only [Qj] at ho
   subst ho
   have hq:=(hf.out q (by rw [e1];simp)).1 e2
   exact ⟨fun _=> ⟨by simp only;omega,hq.2⟩,fun hk=> absurd e2 hk⟩
theorem ZuK{list d:Int}{w:Wst}{o:Op}(h:OkW list d w)(hr:Za list o d=true)(hi:Z5 o.e d=true->Z5 (Zx o.e) d=true):OkW list d (Z09 list o w):=by
 obtain ⟨k,n,l,e⟩:=o
 have hr0:=hr
 rw [Za] at hr
 rw [Z10]
 simp only at hi ⊢
 split at hr
 ·rename_i hk
  rw [if_pos hk]
  simp only [Q0,decide_eq_true_eq] at hr
  exact ZgI h hr.1.1
 ·rename_i hk
  rw [if_neg hk]
  split at hr
  ·cases hr
  ·rename_i hn
   split at hr
   ·rename_i h3
    simp only [Q0,decide_eq_true_eq] at hr
    by_cases k1:k=1
    ·rw [if_pos k1]
     exact ⟨h.out,Z3R h.gone (Z2s (Zu7 d) hr.1.1),h.brought⟩
    ·rw [if_neg k1,if_pos (by omega)]
     exact ⟨h.out,h.gone,Z3R h.brought (Z2s (Zu7 d) hr.1.1)⟩
   ·rename_i h3
    rw [if_neg (by omega),if_neg (by omega),if_pos (by omega)]
    split
    ·exact ZgI h (by decide)
    ·have hf:=Z8u h
     refine ⟨?_,rfl,rfl⟩
     intro o ho
     rcases Qi.1 ho with ho | ho
     ·exact hf.out o ho
     ·simp only [Qj] at ho
      subst ho
      refine ⟨fun hk=> (by cases hk),fun _=> ?_⟩
      simp only [Q0,decide_eq_true_eq] at hr
      simp only [Za]
      rw [if_neg (by decide),if_neg (by decide),if_neg (by decide),Z8y,hi hr.1.2]
      simp only [Xc,Q0,decide_eq_true_eq]
      refine ⟨⟨rfl,hr.1.1.2⟩,?_⟩
      rcases hr.2 with h | h | h
      ·exact Or.inl h
      ·exact Or.inr (Or.inl h)
      ·rw [(ZgL e h.1).1,(ZgL e h.1).2,Z2Y,Z2Y]
       exact Or.inr (Or.inr h)
def Yk:List Op->Int
 | []=> 0
 | o ::r=> (if o.kind=2 then 0 else Z1 o)+Yk r
def ZY:List Op->Int
 | []=> 0
 | o ::r=> (if o.kind=1 then 0 else Z1 o)+ZY r
theorem Z2G:∀ (a b:List Op),Yk (a++b)=Yk a+Yk b
 | [],b=> by simp [Yk]
 | o ::r,b=> by simp only [QA,Yk,Z2G r b];omega
theorem Z2F:∀ (a b:List Op),ZY (a++b)=ZY a+ZY b
 | [],b=> by simp [ZY]
 | o ::r,b=> by simp only [QA,ZY,Z2F r b];omega
theorem Z0p:∀ (l:List Op) (n:Int),(∀ o∈l,0<=Z1 o)->0<=n->n<=1048576->Z1s l n=min (n+Yk l) 1048576/\0<=Yk l
 | [],n,_,h1,h2=> by simp only [Z1s,Yk];omega
 | o ::r,n,h,h1,h2=> by
  have ho:=h o (Q7 ..)
  simp only [Z1s,Yk]
  have hx:0<=(if o.kind=2 then n else n+Z1 o)/\(if o.kind=2 then n else n+Z1 o)=n+(if o.kind=2 then 0 else Z1 o):=by split <;> omega
  have hy:0<=(if o.kind=2 then 0 else Z1 o):=by split <;> omega
  rw [hx.2]
  rw [hx.2] at hx
  generalize (if o.kind=2 then 0 else Z1 o)=y at*
  obtain ⟨e1,e2⟩:=Z0p r (min (n+y) 1048576) (fun x hx=> h x (Q5 _ hx)) (by omega) (by omega)
  rw [e1]
  omega
theorem Z0o:∀ (l:List Op) (n:Int),(∀ o∈l,0<=Z1 o)->0<=n->n<=1048576->Z1r l n=min (n+ZY l) 1048576/\0<=ZY l
 | [],n,_,h1,h2=> by simp only [Z1r,ZY];omega
 | o ::r,n,h,h1,h2=> by
  have ho:=h o (Q7 ..)
  simp only [Z1r,ZY]
  have hx:0<=(if o.kind=1 then n else n+Z1 o)/\(if o.kind=1 then n else n+Z1 o)=n+(if o.kind=1 then 0 else Z1 o):=by split <;> omega
  have hy:0<=(if o.kind=1 then 0 else Z1 o):=by split <;> omega
  rw [hx.2]
  rw [hx.2] at hx
  generalize (if o.kind=1 then 0 else Z1 o)=y at*
  obtain ⟨e1,e2⟩:=Z0o r (min (n+y) 1048576) (fun x hx=> h x (Q5 _ hx)) (by omega) (by omega)
  rw [e1]
  omega
theorem Z1o{list d:Int}{o:Op}(h:rOp list d o):0<=Z1 o:=by
 unfold Z1
 split
 ·decide
 ·by_cases hk:o.kind=0
  ·have:=(h.1 hk).1;omega
  ·have hr:=h.2 hk
   obtain ⟨k,n,l,e⟩:=o
   simp only at hk ⊢
   rw [Za,if_neg hk] at hr
   split at hr
   ·cases hr
   ·omega
theorem ZfX:∀ {l:List Op} {o:Op},(∀ o∈l,0<=Z1 o)->o∈l->o.kind≠2->Z1 o<=Yk l
 | a ::r,o,h,ho,hk=> by
  have hr:=(Z0p r 0 (fun x hx=> h x (Q5 _ hx)) (by decide) (by decide)).2
  have ha:=h a (Q7 ..)
  simp only [Yk]
  rcases Qd.1 ho with rfl | ho
  ·rw [if_neg hk];omega
  ·have:=ZfX (fun x hx=> h x (Q5 _ hx)) ho hk
   split <;> omega
def sA(w:Wst):Int:=Yk w.out+w.gone.length
def sB(w:Wst):Int:=ZY w.out+w.brought.length
theorem Z4L(w:Wst):Yk (Z0 w).out=sA w/\ZY (Z0 w).out=sB w:=by
 simp only [Z0,JD,sA,sB,Z2G,Z2F]
 constructor
 ·by_cases hg:w.gone.length=0
  ·rw [if_pos hg]
   by_cases hb:w.brought.length=0
   ·rw [if_pos hb];simp [Yk];omega
   ·rw [if_neg hb];simp [Yk];omega
  ·rw [if_neg hg]
   by_cases hb:w.brought.length=0
   ·rw [if_pos hb];simp [Yk,Z1]
   ·rw [if_neg hb];simp [Yk,Z1]
 ·by_cases hg:w.gone.length=0
  ·rw [if_pos hg]
   by_cases hb:w.brought.length=0
   ·rw [if_pos hb];simp [ZY];omega
   ·rw [if_neg hb];simp [ZY,Z1]
  ·rw [if_neg hg]
   by_cases hb:w.brought.length=0
   ·rw [if_pos hb];simp [ZY];omega
   ·rw [if_neg hb];simp [ZY,Z1]
theorem ZfW(w:Wst)(n:Int):sA (ZH w n)=sA w+n/\sB (ZH w n)=sB w+n:=by
 have hf:=Z4L w
 simp only [ZH]
 have e1:∀ x,sA ⟨x,[],[]⟩=Yk x:=fun x=> by simp [sA]
 have e2:∀ x,sB ⟨x,[],[]⟩=ZY x:=fun x=> by simp [sB]
 rw [e1,e2,<-hf.1,<-hf.2]
 rcases YJ (Z0 w).out n with e | ⟨a,q,e1,e2,e3⟩
 ·rw [e,Z2G,Z2F]
  simp [Yk,ZY,Z1]
 ·rw [e3,e1,Z2G,Z2F,Z2G,Z2F]
  simp only [Yk,ZY,Z1,e2]
  simp
  omega
theorem Zuu{list d:Int}{w:Wst}{o:Op}(hr:Za list o d=true):sA (Z09 list o w)=sA w+(if o.kind=2 then 0 else Z1 o)/\sB (Z09 list o w)=sB w+(if o.kind=1 then 0 else Z1 o):=by
 have hl:∀ l,((Z3 l).length:Int)=l.length:=fun l=> by simp [Z3]
 obtain ⟨k,n,l,e⟩:=o
 rw [Za] at hr
 rw [Z10]
 simp only [Z1]
 split at hr
 ·rename_i hk
  subst hk
  rw [if_pos rfl]
  simp only [Q0,decide_eq_true_eq] at hr
  have:=ZfW w n
  simp
  omega
 ·rename_i hk
  rw [if_neg hk]
  split at hr
  ·cases hr
  ·rename_i hn
   split at hr
   ·rename_i h3
    by_cases k1:k=1
    ·subst k1
     rw [if_pos rfl]
     simp only [sA,sB,Q9]
     simp [hl]
     omega
    ·have k2:k=2:=by omega
     subst k2
     rw [if_neg k1,if_pos rfl]
     simp only [sA,sB,Q9]
     simp [hl]
     omega
   ·rename_i h3
    have k3:k=3:=by omega
    subst k3
    rw [if_neg (by omega),if_neg (by omega),if_pos rfl]
    split
    ·have:=ZfW w 1
     simp
     omega
    ·have:=Z4L w
     simp only [sA,sB,Z2G,Z2F,Yk,ZY,Z1] at this ⊢
     simp
     omega
mutual
theorem Jt:∀ (e:Edit) (d:Int),Z5 e d=true->Z5 (Zx e) d=true
 | .mk k o n w ks l os,d,h=> by
  have h1:=Z9c ks
  have h2:=ZjX l os
  have h4:=Ze9 l os
  rw [Z5] at h
  split at h
  ·cases h
  ·rename_i a
   split at h
   ·cases h
   ·rename_i b
    have nn:Ji Tree.nil=true:=rfl
    by_cases k1:k=1
    ·subst k1
     rw [if_pos rfl] at h
     have hl:l=0:=by
      apply XU
      intro hl
      exact b (.inr (.inr ⟨by decide,.inl hl⟩))
     simp only [Q0,decide_eq_true_eq] at h
     rw [Zx,if_pos rfl,Z5,if_neg a,if_neg (by simp [hl]),if_pos rfl]
     simp only [Q0,decide_eq_true_eq]
     rw [Z2Y,Z2Y]
     exact ⟨⟨Z43 _ _ h.1.1,Z43 _ _ h.1.2⟩,h.2⟩
    ·rw [if_neg k1] at h
     simp only [Q0,decide_eq_true_eq] at h
     obtain ⟨⟨⟨⟨x1,x2⟩,x3⟩,x4⟩,x5⟩:=h
     rw [Zx,if_neg k1]
     by_cases k2:k=2
     ·have hl:l=0:=by
       apply XU
       intro hl
       exact b (.inr (.inr ⟨by omega,.inl hl⟩))
      rw [if_pos k2,Z5,if_neg a,if_neg (by simp [nn,hl,k2]),if_neg k1]
      simp only [Q0,decide_eq_true_eq]
      exact ⟨⟨⟨⟨x1,h1 _ _ x2⟩,x3⟩,rfl⟩,by decide⟩
     ·rw [if_neg k2]
      by_cases k3:k=3
      ·rw [if_pos k3,Z5,if_neg a,if_neg (by simp [nn,k3]),if_neg k1]
       simp only [Q0,decide_eq_true_eq]
       have hall:=Z0Z.1 x4
       obtain ⟨y1,y2⟩:=Z0p os 0 (fun o ho=> Z1o (Z8k (hall o ho))) (by decide) (by decide)
       obtain ⟨z1,z2⟩:=Z0o os 0 (fun o ho=> Z1o (Z8k (hall o ho))) (by decide) (by decide)
       have hw:=h2 (d - 1) W0 x4 ⟨fun o ho=> (by cases ho),rfl,rfl⟩
       have hs:=h4 (d - 1) W0 x4
       have hff:=Z8u hw
       have hsf:=Z4L (ZO l os W0)
       have e0:sA W0=0/\sB W0=0:=⟨rfl,rfl⟩
       have hA:=Z0p (Z0 (ZO l os W0)).out 0 (fun o ho=> Z1o (hff.out o ho)) (by decide) (by decide)
       have hB:=Z0o (Z0 (ZO l os W0)).out 0 (fun o ho=> Z1o (hff.out o ho)) (by decide) (by decide)
       refine ⟨⟨⟨⟨rfl,rfl⟩,x3⟩,Z0Z.2 (fun o ho=> ZuE (hff.out o ho) (fun hk=> ?_))⟩,?_,?_⟩
       ·have hm:=ZfX (fun o ho=> Z1o (hff.out o ho)) ho (by omega)
        unfold Z1 at hm
        rw [if_neg (by omega)] at hm
        omega
       ·show Z1s (Z0 (ZO l os W0)).out 0 < 1048576
        omega
       ·show Z1r (Z0 (ZO l os W0)).out 0 < 1048576
        omega
      ·have hl:l=0:=by
        apply XU
        intro hl
        exact b (.inr (.inr ⟨k3,.inl hl⟩))
       rw [if_neg k3,Z5,if_neg a,if_neg (by simp [nn,hl]),if_neg k1]
       simp only [Q0,decide_eq_true_eq]
       exact ⟨⟨⟨⟨rfl,rfl⟩,x3⟩,rfl⟩,by decide⟩
theorem Z9c:∀ (ks:List (KidOf Edit)) (last d:Int),ZB last ks d=true->ZB last (Jb ks) d=true
 | [],_,_,_=> rfl
 | k ::r,last,d,h=> by
  simp only [ZB,Q0] at h
  have h1:=Zeo k last d h.1
  have h2:=Z9c r k.at_ d h.2
  simp only [Jb,ZB,Q0]
  exact ⟨h1,by rw [Zdx];exact h2⟩
theorem Zeo:∀ (k:KidOf Edit) (last d:Int),Jr last k d=true->Jr last (Z0J k) d=true
 | ⟨a,e⟩,last,d,h=> by
  simp only [Jr,Q0] at h
  have h1:=Jt e d h.2
  simp only [Z0J,Jr,Q0]
  rw [Z8y]
  exact ⟨h.1,h1⟩
theorem ZjX(list:Int):∀ (os:List (OpOf Edit)) (d:Int) (w:Wst),ZD list os d=true->OkW list d w->OkW list d (ZO list os w)
 | [],_,_,_,hw=> hw
 | o ::r,d,w,h,hw=> by
  simp only [ZD,Q0] at h
  have h1:=Zm6 list o d w h.1 hw
  exact ZjX list r d _ h.2 h1
theorem Zm6(list:Int):∀ (o:OpOf Edit) (d:Int) (w:Wst),Za list o d=true->OkW list d w->OkW list d (Z09 list o w)
 | ⟨k,n,l,e⟩,d,w,h,hw=> ZuK (o:=⟨k,n,l,e⟩) hw h (fun he=> Jt e d he)
theorem Ze9(list:Int):∀ (os:List (OpOf Edit)) (d:Int) (w:Wst),ZD list os d=true->sA (ZO list os w)=sA w+Yk os/\sB (ZO list os w)=sB w+ZY os
 | [],_,_,_=> by simp [ZO,Yk,ZY]
 | o ::r,d,w,h=> by
  simp only [ZD,Q0] at h
  have h1:=Zuu (w:=w) h.1
  have h2:=Ze9 list r d (Z09 list o w) h.2
  simp only [ZO,Yk,ZY]
  omega
end
theorem Z41:∀ {a b:List Tree},ZU (a++b)↔ZU a/\ZU b
 | [],b=> by simp [ZU]
 | t ::r,b=> by simp only [QA,ZU];rw [Z41 (a:=r),and_assoc]
mutual
theorem Z2M:∀ (t:Tree),rng t->rng (Z2 t)
 | .mk k w ks,h=> by
  simp only [rng] at h
  obtain ⟨h1,h2,h3⟩:=h
  have h4:=Zdj ks h3
  simp only [Z2]
  split
  ·simp only [Tree.nil,rng,ZU]
   exact ⟨by decide,by simp,trivial⟩
  ·split
   ·obtain ⟨r1,e1⟩:=ZaM w
    obtain ⟨r2,e2⟩:=Z87 (ZX ks)
    simp only [rng]
    refine ⟨by decide,fun x hx=> h2 x (by rw [e1];exact Qi.2 (Or.inl hx)),?_⟩
    rw [e2] at h4
    exact (Z41.1 h4).1
   ·simp only [rng]
    exact ⟨h1,h2,h4⟩
theorem Zdj:∀ (l:List Tree),ZU l->ZU (ZX l)
 | [],_=> trivial
 | t ::r,h=> by
  simp only [ZU] at h
  have h1:=Z2M t h.1
  have h2:=Zdj r h.2
  simp only [ZX,ZU]
  exact ⟨h1,h2⟩
end
theorem Z63:∀ {l:List Tree},ZU l->ZU (Z3 l)
 | [],_=> trivial
 | t ::r,h=> by
  simp only [ZU] at h
  have h2:=Z63 h.2
  simp only [Z3] at h2
  simp only [Z3,Xb,ZU]
  exact ⟨Z2M t h.1,h2⟩
theorem Z0Y:rng Tree.nil:=by
 simp only [Tree.nil,rng,ZU]
 exact ⟨by decide,by simp,trivial⟩
structure RngW (w:Wst):Prop where
 out:∀ o∈w.out,ZU o.l/\Yl o.e
 gone:ZU w.gone
 brought:ZU w.brought
theorem Z4V:Yl Edit.nil:=by
 simp only [Edit.nil,Yl,Z2l,Z1c]
 exact ⟨by unfold InR;omega,Z0Y,Z0Y,by simp,by unfold InR;omega,trivial,trivial⟩
theorem Z61{w:Wst}(h:RngW w):RngW (Z0 w):=by
 refine ⟨?_,trivial,trivial⟩
 simp only [Z0,JD]
 intro o ho
 rcases Qi.1 ho with ho | ho
 ·exact h.out o ho
 rcases Qi.1 ho with ho | ho
 ·split at ho
  ·cases ho
  ·simp only [Qj] at ho
   subst ho
   exact ⟨h.gone,Z4V⟩
 ·split at ho
  ·cases ho
  ·simp only [Qj] at ho
   subst ho
   exact ⟨h.brought,Z4V⟩
theorem Zdg{w:Wst}{n:Int}(h:RngW w):RngW (ZH w n):=by
 have hf:=Z61 h
 refine ⟨?_,trivial,trivial⟩
 simp only [ZH]
 intro o ho
 rcases YJ (Z0 w).out n with e | ⟨a,q,e1,e2,e3⟩
 ·rw [e] at ho
  rcases Qi.1 ho with ho | ho
  ·exact hf.out o ho
  ·simp only [Qj] at ho
   subst ho
   exact ⟨trivial,Z4V⟩
 ·rw [e3] at ho
  rcases Qi.1 ho with ho | ho
  ·exact hf.out o (by rw [e1];exact Qi.2 (Or.inl ho))
  ·simp only [Qj] at ho
   subst ho
   exact hf.out q (by rw [e1];simp)
theorem Zjs{list:Int}{w:Wst}{o:Op}(h:RngW w)(hl:ZU o.l)(he:Yl (Zx o.e)):RngW (Z09 list o w):=by
 rw [Z10]
 split
 ·exact Zdg h
 ·split
  ·exact ⟨h.out,Z41.2 ⟨h.gone,Z63 hl⟩,h.brought⟩
  ·split
   ·exact ⟨h.out,h.gone,Z41.2 ⟨h.brought,Z63 hl⟩⟩
   ·split
    ·split
     ·exact Zdg h
     ·refine ⟨?_,trivial,trivial⟩
      intro o ho
      rcases Qi.1 ho with ho | ho
      ·exact (Z61 h).out o ho
      ·simp only [Qj] at ho
       subst ho
       exact ⟨trivial,he⟩
    ·exact h
theorem Z9a:∀ {os:List Op},(∀ o∈os,Z1d o)->Z1c os
 | [],_=> trivial
 | o ::r,h=> by
  simp only [Z1c]
  exact ⟨h o (Q7 ..),Z9a (fun x hx=> h x (Q5 _ hx))⟩
theorem Zge{list d:Int}{o:Op}(h:Za list o d=true)(hl:ZU o.l)(he:Yl o.e):Z1d o:=by
 have hn:=Z8f h
 obtain ⟨k,n,l,e⟩:=o
 simp only at hn hl he
 simp only [Z1d]
 refine ⟨?_,by unfold InR;omega,hl,he⟩
 rw [Za] at h
 unfold InR
 split at h
 ·omega
 ·split at h
  ·cases h
  ·omega
mutual
theorem Z2N:∀ (e:Edit) (d:Int),Z5 e d=true->Yl e->Yl (Zx e)
 | .mk k o n w ks l os,d,hr,h=> by
  have hin:=Z8g hr
  have hout:=Z8g (Jt _ _ hr)
  simp only [Edit.kids_mk,Edit.ops_mk,Edit.list_mk] at hin
  simp only [Yl] at h
  obtain ⟨h1,h2,h3,h4,h5,h6,h7⟩:=h
  have i6:=Zdi ks (d - 1) (fun k hk=> (hin.1 k hk).1) h6
  have i7:=Zdh l os (d - 1) hin.2 h7 W0 ⟨fun o ho=> (by cases ho),trivial,trivial⟩
  rw [Zx] at hout ⊢
  by_cases k1:k=1
  ·rw [if_pos k1]
   simp only [Yl]
   exact ⟨h1,Z2M o h2,Z2M n h3,by simp,h5,trivial,trivial⟩
  ·rw [if_neg k1] at hout ⊢
   by_cases k2:k=2
   ·rw [if_pos k2]
    simp only [Yl]
    exact ⟨h1,Z0Y,Z0Y,h4,h5,i6,trivial⟩
   ·rw [if_neg k2] at hout ⊢
    by_cases k3:k=3
    ·rw [if_pos k3] at hout ⊢
     simp only [Yl]
     refine ⟨h1,Z0Y,Z0Y,by simp,h5,trivial,Z9a (fun q hq=> ?_)⟩
     have hx:=hout.2 q hq
     have hy:=(Z61 i7).out q hq
     exact Zge hx hy.1 hy.2
    ·rw [if_neg k3]
     simp only [Yl]
     exact ⟨h1,Z0Y,Z0Y,by simp,h5,trivial,trivial⟩
theorem Zdi:∀ (ks:List (KidOf Edit)) (d:Int),(∀ k∈ks,Z5 k.e d=true)->Z2l ks->Z2l (Jb ks)
 | [],_,_,_=> trivial
 | k ::r,d,hr,h=> by
  simp only [Z2l] at h
  have h1:=ZhR k d (hr k (Q7 ..)) h.1
  have h2:=Zdi r d (fun x hx=> hr x (Q5 _ hx)) h.2
  simp only [Jb,Z2l]
  exact ⟨h1,h2⟩
theorem ZhR:∀ (k:KidOf Edit) (d:Int),Z5 k.e d=true->Z62 k->Z62 (Z0J k)
 | ⟨a,e⟩,d,hr,h=> by
  simp only [Z62] at h
  have h2:=Z2N e d hr h.2
  simp only [Z0J,Z62]
  exact ⟨h.1,h2⟩
theorem Zdh(list:Int):∀ (os:List (OpOf Edit)) (d:Int),(∀ o∈os,Za list o d=true)->Z1c os->∀ (w:Wst),RngW w->RngW (ZO list os w)
 | [],_,_,_,w,hw=> hw
 | o ::r,d,hr,h,w,hw=> by
  simp only [Z1c] at h
  have h1:=ZlR list o d (hr o (Q7 ..)) h.1 w hw
  exact Zdh list r d (fun x hx=> hr x (Q5 _ hx)) h.2 _ h1
theorem ZlR(list:Int):∀ (o:OpOf Edit) (d:Int),Za list o d=true->Z1d o->∀ (w:Wst),RngW w->RngW (Z09 list o w)
 | ⟨k,n,l,e⟩,d,hr,h,w,hw=> by
  simp only [Z1d] at h
  by_cases k3:k=3
  ·have he:Z5 e d=true:=by
    rw [Za,if_neg (by omega),] at hr
    split at hr
    ·cases hr
    ·rw [if_neg (by omega)] at hr
     simp only [Q0] at hr
     exact hr.1.2
   exact Zjs (o:=⟨k,n,l,e⟩) hw h.2.2.1 (Z2N e d he h.2.2.2)
  ·have hs:Yl (Zx Edit.nil):=by
    show Yl (.mk 0 Tree.nil Tree.nil [] [] 0 [])
    exact Z4V
   have e2:Z09 list ⟨k,n,l,e⟩ w=Z09 list ⟨k,n,l,Edit.nil⟩ w:=by
    simp only [Z09]
    rw [if_neg k3,if_neg k3]
   rw [e2]
   exact Zjs (o:=⟨k,n,l,Edit.nil⟩) hw h.2.2.1 hs
end
end Go.AM.Ytpjenobkibfpcaa
