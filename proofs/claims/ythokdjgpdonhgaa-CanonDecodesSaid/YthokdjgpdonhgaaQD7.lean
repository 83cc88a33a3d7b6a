import Derived.Test.YthokdjgpdonhgaaQB5
import Derived.Test.YthokdjgpdonhgaaRows
import Derived.Test.YthokdjgpdonhgaaBmX
import Derived.ProofKit
import Derived.Deep.CondSized
set_option linter.unusedSimpArgs false
set_option linter.unusedVariables false
namespace Go.AM.Ythokdjgpdonhgaa
open Go.AM Go.Proofs
noncomputable section
def ZeW:ArgL (Option Arena × Loc × Unit):=(.cons (aPo .arena) (.cons (aEl .loc) .nil))
def Zad(a:Option Arena × Loc × Unit):Prop:=okA a.1/\OkP (Loc.p a.2.1)/\(((Loc.p a.2.1).kind=1)\/((Loc.p a.2.1).kind=2))
def Zc8(a:Option Arena × Loc × Unit):V U:= .tup [(true,(enc .loc ((ZM (Z2 a.1) a.2.1).1))),(false,[ci ((ZM (Z2 a.1) a.2.1).2)])]
def Z0v:Fs U:=fs ZeW (fun a=> [Zad a]) Zc8
def Zjm:ArgL (Option Arena × Ptr × Int × Int × Unit):=(.cons (aPo .arena) (.cons (aEl .ptr) (.cons (Zr .i64) (.cons (Zr .i64) .nil))))
def ZdH(a:Option Arena × Ptr × Int × Int × Unit):Prop:=okA a.1/\OkP a.2.1/\0<=a.2.2.2.1/\a.2.2.2.1<=17592186044416
def ZgL(a:Option Arena × Ptr × Int × Int × Unit):V U:= .tup [(true,(enc .loc ((Yu (Z2 a.1) a.2.1 a.2.2.1 a.2.2.2.1).1))),(false,[ci ((Yu (Z2 a.1) a.2.1 a.2.2.1 a.2.2.2.1).2)])]
def Z6N:Fs U:=fs Zjm (fun a=> [ZdH a]) ZgL
def ZgK(a:Option Arena × Int × Int × Unit):V U:= .tup [(true,(enc .loc ((Ym (Z2 a.1) a.2.1 a.2.2.1).1))),(false,[ci ((Ym (Z2 a.1) a.2.1 a.2.2.1).2)])]
def Z6M:Fs U:=fs ZjE (fun a=> [Z7J a]) ZgK
def ZgQ(a:Option Arena × Int × Int × Unit):V U:= .tup [(true,(enc .loc ((Z5 (Z2 a.1) a.2.1 a.2.2.1).1))),(false,[ci ((Z5 (Z2 a.1) a.2.1 a.2.2.1).2)])]
def Z70:Fs U:=fs ZjE (fun a=> [Z7J a]) ZgQ
def Zjk:ArgL (List (List Int) × Int × Int × Unit):=(.cons (aSl .words) (.cons (Zr .i64) (.cons (Zr .i64) .nil)))
def Z92(a:List (List Int) × Int × Int × Unit):Prop:=ZX a.1
def ZmI(a:List (List Int) × Int × Int × Unit):V U:= .c (.bool (ZQ a.1 a.2.1 a.2.2.1 1))
def Z6L:Fs U:=fs Zjk (fun a=> [Z92 a]) ZmI
def ZdF(a:Ptr × Unit):Prop:=True
def ZmH(a:Ptr × Unit):V U:= .c (ci (ZR a.1))
def Z6K:Fs U:=fs ZeU (fun a=> [ZdF a]) ZmH
def Zji:ArgL (List (List Int) × Loc × Unit):=(.cons (aSl .words) (.cons (aEl .loc) .nil))
def ZdE(a:List (List Int) × Loc × Unit):Prop:=ZX a.1/\OkP (Loc.p a.2.1)/\(((Loc.p a.2.1).kind=1)\/((Loc.p a.2.1).kind=2))
def ZgJ(a:List (List Int) × Loc × Unit):V U:= .tup [(true,(enc .loc ((ZM a.1 a.2.1).1))),(false,[ci ((ZM a.1 a.2.1).2)])]
def Z6J:Fs U:=fs Zji (fun a=> [ZdE a]) ZgJ
def Z8U(a:List (List Int) × Int × Int × Unit):V U:= .tup [(true,(enc .loc ((Z5 a.1 a.2.1 a.2.2.1).1))),(false,[ci ((Z5 a.1 a.2.1 a.2.2.1).2)])]
def Z6Y:Fs U:=fs Zjk (fun a=> [Z92 a]) Z8U
def Zeq:List (FuncId × Fs U):=[(122,Z3H),(85,Z05)]
def Zi5:Z6 U:=lvl [([0,3,4],[3,4]),([0,3,4,6],[3,4]),([3,4,21],[3,4]),([4,5],[4]),([3,4],[3,4]),([4,5],[4])]
abbrev Zty(p:List Nat):=AW (Z1 Zeq) Try.f113 Zi5 p
theorem Zrh(a:Option Arena)(x:Loc)(Q:QT)(h:∀ y_1,y_1=(Loc.p x)->let z0:= !(ZQ (Z2 a) (Loc.segment x) (Loc.at_ x) (if ZF y_1 < 0 then 0 else ZF y_1));((Zac (y_1,()))/\((Zbg (a,(Loc.segment x),(Loc.at_ x),(if ZF y_1 < 0 then 0 else ZF y_1),()))/\((z0=true->(Q .ret (L2 [pL 4,pI 5 7] [(.loc 4,zc1)])))/\(z0=false->(Q .ret (L2 [pL 4,pI 5 0] [(.loc 4,[ci (Ptr.kind (Loc.p x)),ci 0,ci (Ptr.data (Loc.p x)),ci (Ptr.ptrs (Loc.p x)),ci (Ptr.code (Loc.p x)),ci (Ptr.count (Loc.p x)),ci (Ptr.segment (Loc.p x)),.bool (Ptr.double (Loc.p x)),ci (Loc.segment x),ci (Loc.at_ x)])]))))))):
  Zty [] (L2 [(0,.c (.po (U:=U) .arena a)),(1,.agg (enc .loc x))] []) Q:=
 Eq.mpr (by kernel_rfl) (h _ (JM _))
def Zmn(a:Option Arena)(x:Loc):Prop:=AW (Z1 Zeq) Try.f113 Zi5 [] (Zb (ZeW.can (a,x,())) []) (EQ Try.f113 (Zc8 (a,x,())) [])
theorem Zlo(Zpy:CT 122 Z3H)(c85:CT 85 Z05)(hb:∀ (a:Option Arena) (x:Loc) (_:Unit),Zad (a,x,())->Zmn a x):CT 113 Z0v:=
 Z0 (l:=[(122,Z3H),(85,Z05)]) Z9 rfl (⟨Zpy,c85,trivial⟩) Zi5 Try.func113 rfl rfl 2 (fun _=> rfl) (by decide) (fun ⟨a,x,_⟩=> hb a x ())
def Zis:List (FuncId × Fs U):=[(113,Z0v)]
def ZoM:Z6 U:=lvl [([0,2,3,5,8],[5,8]),([0,2,3,5,8,11],[5,8]),([0,2,3,5,8,11,12],[5,8]),([0,2,3,5,8,11,12],[5,8]),([8,9],[8]),([8,27],[8]),([8,9],[8]),([8,9],[8])]
abbrev A87(p:List Nat):=AW (Z1 Zis) Try.f87 ZoM p
theorem Zsj(a:Option Arena)(p:Ptr)(s at_:Int)(Q:QT)(h:∀ y_1,y_1=p->∀ y_2,y_2=(ZM (Z2 a) (Loc.mk y_1 s (((at_+1):Int)+(Ptr.off p))))->let z6:=InR (((at_+1):Int)+(Ptr.off p));let z5:=Q .ret (L2 [pL 8,pI 9 8] [(.loc 8,zc1)]);let z4:=Q .ret (L2 [pL 8,pI 9 9] [(.loc 8,zc1)]);let z3:=Zad (a,(Loc.mk y_1 s (((at_+1):Int)+(Ptr.off p))),());let z2:=((Ptr.kind p):Int)==4;let z1:=((Ptr.kind p):Int)==1;let z0:=Q .ret (L2 [pL 8,pI 9 (y_2.2)] [(.loc 8,(enc .ptr (Loc.p (y_2.1))++[ci (Loc.segment (y_2.1)),ci (Loc.at_ (y_2.1))]))]);((z1=true->(z1=true->(InR (at_+1))/\z6/\z3/\z0)/\(z1=false->((z2=true->z4)/\(z2=false->z5))))/\(z1=false->(((((Ptr.kind p):Int)==2)=true->(InR (at_+1))/\z6/\z3/\z0)/\((((Ptr.kind p):Int)==2)=false->((z2=true->z4)/\(z2=false->z5))))))):
  A87 [] (L2 [(0,.c (.po (U:=U) .arena a)),(1,.agg (enc .ptr p)),pI 2 s,pI 3 at_] []) Q:=
 Eq.mpr (by kernel_rfl) (h _ (JM _) _ rfl)
def Zq2(a:Option Arena)(p:Ptr)(s at_:Int):Prop:=AW (Z1 Zis) Try.f87 ZoM [] (Zb (Zjm.can (a,p,s,at_,())) []) (EQ Try.f87 (ZgL (a,p,s,at_,())) [])
theorem ZnM(Zg4:CT 113 Z0v)(hb:∀ (a:Option Arena) (p:Ptr) (s:Int) (at_:Int) (_:Unit),ZdH (a,p,s,at_,())->Zq2 a p s at_):CT 87 Z6N:=
 Z0 (l:=[(113,Z0v)]) Z9 rfl (⟨Zg4,trivial⟩) ZoM Try.func87 rfl rfl 4 (fun _=> rfl) (by decide) (fun ⟨a,p,s,at_,_⟩=> hb a p s at_ ())
def Zir:List (FuncId × Fs U):=[(114,Z3L),(86,Z1H),(113,Z0v)]
def ZoL:Z6 U:=lvl [([0,1,2,6],[6]),([0,6,8,9],[6]),([0,6,8,20],[6]),([6,7],[6]),([0,6,10,11],[6,10,11]),([0,6,10,11,30],[6,10,11]),([6,7],[6]),([0,6,10,11,39],[6,10,11]),([6,7],[6]),([0,6,10,11,44],[6,10,11]),([6,7],[6]),([6,7],[6])]
abbrev A88(p:List Nat):=AW (Z1 Zir) Try.f88 ZoL p
theorem Zsi(a:Option Arena)(s at_:Int)(Q:QT)(h:∀ y_1,y_1=(List.getD (if ZQ (Z2 a) s at_ 2 then Z1y (Z2 a) s at_ 2 else []) (Int.toNat 0) (0:Int))->∀ y_2,y_2=(List.getD (if ZQ (Z2 a) s at_ 2 then Z1y (Z2 a) s at_ 2 else []) (Int.toNat 1) (0:Int))->∀ y_3,y_3=(Z4 y_2)->∀ y_4,y_4=(ZM (Z2 a) (Loc.mk y_3 (Ptr.segment (Z4 y_1)) (Ptr.off (Z4 y_1))))->let z5:=Q .ret (L2 [pL 6,pI 7 8] [(.loc 6,zc1)]);let z2:=Ptr.kind (Z4 y_2);let z1:=((Ptr.kind (Z4 y_1)):Int) !=3;let z4:=bif z1 then true else (Ptr.double (Z4 y_1));let z0:=bif ((z2:Int) !=1) then ((z2:Int) !=2) else false;let z3:=bif z0 then true else (((Ptr.off (Z4 y_2)):Int) !=0);((Zbg (a,s,at_,2,()))/\(((!(ZQ (Z2 a) s at_ 2))=true->(Q .ret (L2 [pL 6,pI 7 7] [(.loc 6,zc1)])))/\((!(ZQ (Z2 a) s at_ 2))=false->((0:Int)<=0/\0 < ((if ZQ (Z2 a) s at_ 2 then Z1y (Z2 a) s at_ 2 else []).length:Int))/\(Z5F (y_1,()))/\((0:Int)<=1/\1 < ((if ZQ (Z2 a) s at_ 2 then Z1y (Z2 a) s at_ 2 else []).length:Int))/\(Z5F (y_2,()))/\((Tr ((!z1)=true))/\(z1=false->(!z1)=true)/\((z4=true->z5)/\(z4=false->((((z2:Int)==4)=true->(Q .ret (L2 [pL 6,pI 7 9] [(.loc 6,zc1)])))/\(((z2:Int)==4)=false->(Tr (((z2:Int) !=1)=true))/\(Tr (((z2:Int) !=1)=true))/\(Tr (((z2:Int) !=1)=true))/\(Tr ((!z0)=true))/\(Tr ((!z0)=true))/\(z0=false->(!z0)=true)/\((z3=true->z5)/\(z3=false->(Zad (a,(Loc.mk y_3 (Ptr.segment (Z4 y_1)) (Ptr.off (Z4 y_1))),()))/\(Q .ret (L2 [pL 6,pI 7 (y_4.2)] [(.loc 6,(enc .ptr (Loc.p (y_4.1))++[ci (Loc.segment (y_4.1)),ci (Loc.at_ (y_4.1))]))]))))))))))))):
  A88 [] (L2 [(0,.c (.po (U:=U) .arena a)),pI 1 s,pI 2 at_] []) Q:=
 Eq.mpr (by kernel_rfl) (h _ rfl _ rfl _ (JM _) _ rfl)
def Zq1(a:Option Arena)(s at_:Int):Prop:=AW (Z1 Zir) Try.f88 ZoL [] (Zb (ZjE.can (a,s,at_,())) []) (EQ Try.f88 (ZgK (a,s,at_,())) [])
theorem ZnL(ZpC:CT 114 Z3L)(c86:CT 86 Z1H)(Zg4:CT 113 Z0v)(hb:∀ (a:Option Arena) (s:Int) (at_:Int) (_:Unit),Z7J (a,s,at_,())->Zq1 a s at_):CT 88 Z6M:=
 Z0 (l:=[(114,Z3L),(86,Z1H),(113,Z0v)]) Z9 rfl (⟨ZpC,c86,Zg4,trivial⟩) ZoL Try.func88 rfl rfl 3 (fun _=> rfl) (by decide) (fun ⟨a,s,at_,_⟩=> hb a s at_ ())
def ZiE:List (FuncId × Fs U):=[(62,Jk),(86,Z1H),(87,Z6N),(88,Z6M)]
def ZoY:Z6 U:=lvl [([0,1,2,6],[6]),([0,1,2,6,8,9],[6]),([0,1,2,6,8,20],[6]),([6,7],[6]),([0,1,2,6,10],[6,10]),([0,1,2,6,10,24],[6,10]),([6,7],[6]),([0,1,2,6,10,29],[6,10]),([6,7],[6]),([0,6,10,40],[6,10]),([6,7],[6]),([0,6,9,10,11],[6,10]),([0,6,10,11,61],[6,10]),([6,7],[6]),([6,7],[6])]
abbrev A63(p:List Nat):=AW (Z1 ZiE) Try.f63 ZoY p
theorem ZsG(a:Option Arena)(s at_:Int)(Q:QT)(h:∀ y_1,y_1=(Z4 (if ZQ (Z2 a) s at_ 1 then ZA (Z2 a) s at_ else 0))->∀ y_2,y_2=y_1->∀ y_3,y_3=(Loc.p ((Ym (Z2 a) (Ptr.segment y_1) (Ptr.off y_1)).1))->∀ y_4,y_4=(Z4 (if ZQ (Z2 a) (Ptr.segment y_1) (Ptr.off y_1) 1 then ZA (Z2 a) (Ptr.segment y_1) (Ptr.off y_1) else 0))->∀ y_5,y_5=y_4->∀ y_6,y_6=(Loc.p ((Yu (Z2 a) y_5 (Ptr.segment y_1) (Ptr.off y_1)).1))->let z3:=Q .ret (L2 [pL 6,pI 7 7] [(.loc 6,zc1)]);let z2:= !(ZQ (Z2 a) (Ptr.segment y_1) (Ptr.off y_1) 1);let z1:=Ym (Z2 a) (Ptr.segment y_1) (Ptr.off y_1);let z0:=Yu (Z2 a) y_5 (Ptr.segment y_1) (Ptr.off y_1);((Z7J (a,s,at_,()))/\(((!(ZQ (Z2 a) s at_ 1))=true->z3)/\((!(ZQ (Z2 a) s at_ 1))=false->(Z5F ((if ZQ (Z2 a) s at_ 1 then ZA (Z2 a) s at_ else 0),()))/\(((((Ptr.kind y_1):Int)==0)=true->(Q .ret (L2 [pL 6,pI 7 0] [(.loc 6,zc1)])))/\((((Ptr.kind y_1):Int)==0)=false->(((((Ptr.kind y_1):Int) !=3)=true->(ZdH (a,y_2,s,at_,()))/\(Q .ret (L2 [pL 6,pI 7 ((Yu (Z2 a) y_2 s at_).2)] [(.loc 6,(enc .loc ((Yu (Z2 a) y_2 s at_).1)))])))/\((((Ptr.kind y_1):Int) !=3)=false->(((Ptr.double y_1)=true->(Z7J (a,(Ptr.segment y_1),(Ptr.off y_1),()))/\(Q .ret (L2 [pL 6,pI 7 (z1.2)] [(.loc 6,(enc .ptr y_3++[ci (Loc.segment (z1.1)),ci (Loc.at_ (z1.1))]))])))/\((Ptr.double y_1)=false->(Z7J (a,(Ptr.segment y_1),(Ptr.off y_1),()))/\((z2=true->z3)/\(z2=false->(Z5F ((if ZQ (Z2 a) (Ptr.segment y_1) (Ptr.off y_1) 1 then ZA (Z2 a) (Ptr.segment y_1) (Ptr.off y_1) else 0),()))/\(ZdH (a,y_5,(Ptr.segment y_1),(Ptr.off y_1),()))/\(Q .ret (L2 [pL 6,pI 7 (z0.2)] [(.loc 6,(enc .ptr y_6++[ci (Loc.segment (z0.1)),ci (Loc.at_ (z0.1))]))])))))))))))))):
  A63 [] (L2 [(0,.c (.po (U:=U) .arena a)),pI 1 s,pI 2 at_] []) Q:=
 Eq.mpr (by kernel_rfl) (h _ rfl _ (JM _) _ rfl _ rfl _ (JM _) _ rfl)
def Zqp(a:Option Arena)(s at_:Int):Prop:=AW (Z1 ZiE) Try.f63 ZoY [] (Zb (ZjE.can (a,s,at_,())) []) (EQ Try.f63 (ZgQ (a,s,at_,())) [])
theorem Zo6(c62:CT 62 Jk)(c86:CT 86 Z1H)(c87:CT 87 Z6N)(c88:CT 88 Z6M)(hb:∀ (a:Option Arena) (s:Int) (at_:Int) (_:Unit),Z7J (a,s,at_,())->Zqp a s at_):CT 63 Z70:=
 Z0 (l:=[(62,Jk),(86,Z1H),(87,Z6N),(88,Z6M)]) Z9 rfl (⟨c62,c86,c87,c88,trivial⟩) ZoY Try.func63 rfl rfl 3 (fun _=> rfl) (by decide) (fun ⟨a,s,at_,_⟩=> hb a s at_ ())
def ZoK:Z6 U:=lvl [([0,1,2],[]),([6],[])]
abbrev A89(p:List Nat):=AW (Z1 ZiK) Try.f89 ZoK p
theorem Zsh(l:List (List Int))(s at_:Int)(Q:QT)(h:let z2:=decide ((0:Int)<=s);let z1:=bif z2 then (decide (s < (l.length:Int))) else false;let z0:=bif z1 then (decide ((0:Int)<=at_)) else false;((Tr (z2=true))/\(Tr (z2=true))/\(Tr (z2=true))/\(Tr (z2=true))/\(Tr (z1=true))/\(Tr (z1=true))/\(Tr (z0=true))/\(Tr (z0=true))/\(z0=true->(0:Int)<=s/\s < (l.length:Int))/\(Tr (z0=true))/\(Tr (z0=true))/\(Tr (z0=true))/\(Tr (z0=true))/\(Tr (z0=true))/\(Q .ret (L2 [(6,.c (.bool (bif z0 then (decide (at_ < ((l.getD s.toNat ([]:List Int)).length:Int))) else false)))] [])))):
  A89 [] (L2 [(0,.c (sU .words l .unk)),pI 1 s,pI 2 at_] []) Q:=
 Eq.mpr (by kernel_rfl) h
def Zq0(l:List (List Int))(s at_:Int):Prop:=AW (Z1 ZiK) Try.f89 ZoK [] (Zb (Zjk.can (l,s,at_,())) []) (EQ Try.f89 (ZmI (l,s,at_,())) [])
theorem ZnK(hb:∀ (l:List (List Int)) (s:Int) (at_:Int) (_:Unit),Z92 (l,s,at_,())->Zq0 l s at_):CT 89 Z6L:=
 Z0 (l:=[]) Z9 rfl trivial ZoK Try.func89 rfl rfl 3 (fun _=> rfl) (by decide) (fun ⟨l,s,at_,_⟩=> hb l s at_ ())
def ZoJ:Z6 U:=lvl [([1],[1]),([1,5],[1]),([2],[]),([13],[]),([2],[]),([2],[])]
abbrev A90(p:List Nat):=AW (Z1 ZiK) Try.f90 ZoJ p
theorem Zsg(p:Ptr)(Q:QT)(h:let z0:=((Ptr.kind p):Int) !=1;let z1:=bif z0 then (((Ptr.kind p):Int) !=2) else false;(((((Ptr.kind p):Int)==4)=true->(Q .ret (L2 [pI 2 9] [])))/\((((Ptr.kind p):Int)==4)=false->(Tr (z0=true))/\(Tr (z0=true))/\(Tr (z0=true))/\((z1=true->(Q .ret (L2 [pI 2 8] [])))/\(z1=false->(Q .ret (L2 [pI 2 0] []))))))):
  A90 [] (L2 [(0,.agg (enc .ptr p))] []) Q:=
 Eq.mpr (by kernel_rfl) h
def ZpZ(p:Ptr):Prop:=AW (Z1 ZiK) Try.f90 ZoJ [] (Zb (ZeU.can (p,())) []) (EQ Try.f90 (ZmH (p,())) [])
theorem ZnJ(hb:∀ (p:Ptr) (_:Unit),ZdF (p,())->ZpZ p):CT 90 Z6K:=
 Z0 (l:=[]) Z9 rfl trivial ZoJ Try.func90 rfl rfl 1 (fun _=> rfl) (by decide) (fun ⟨p,_⟩=> hb p ())
def Zio:List (FuncId × Fs U):=[(115,Z3K)]
def ZoI:Z6 U:=lvl [([0,3,4],[3,4]),([0,3,4,6],[3,4]),([3,4,48],[3,4]),([4,5],[4]),([3,4],[3,4]),([4,5],[4])]
abbrev A91(p:List Nat):=AW (Z1 Zio) Try.f91 ZoI p
theorem Zsf(l:List (List Int))(x:Loc)(Q:QT)(h:∀ y_1,y_1=(Loc.p x)->∀ y_2,y_2=(List.getD l (Int.toNat (Loc.segment x)) ([]:List Int))->let z3:=decide (((Loc.segment x):Int) < 0);let z2:=bif z3 then true else (decide (((l.length:Int):Int)<=(Loc.segment x)));let z0:=bif z2 then true else (decide (((Loc.at_ x):Int) < 0));let z1:=bif z0 then true else (decide (((y_2.length:Int):Int) < (Loc.at_ x)));let z4:=bif z1 then true else (decide (((((y_2.length:Int):Int) - (Loc.at_ x)):Int) < (ZF y_1)));((Zac (y_1,()))/\((Tr ((!z3)=true))/\(Tr ((!z3)=true))/\(Tr ((!z3)=true))/\(Tr ((!z3)=true))/\(z3=false->(!z3)=true)/\(Tr ((!z2)=true))/\(Tr ((!z2)=true))/\(z2=false->(!z2)=true)/\(Tr ((!z0)=true))/\(Tr ((!z0)=true))/\(Tr ((!z0)=true))/\(Tr ((!z0)=true))/\((!z0)=true->(0:Int)<=(Loc.segment x)/\(Loc.segment x) < (l.length:Int))/\(Tr ((!z0)=true))/\(Tr ((!z0)=true))/\(Tr ((!z0)=true))/\(Tr ((!z0)=true))/\(z0=false->(!z0)=true)/\(Tr ((!z1)=true))/\(Tr ((!z1)=true))/\(Tr ((!z1)=true))/\((!z1)=true->(0:Int)<=(Loc.segment x)/\(Loc.segment x) < (l.length:Int))/\(Tr ((!z1)=true))/\(Tr ((!z1)=true))/\(Tr ((!z1)=true))/\(Tr ((!z1)=true))/\(Tr ((!z1)=true))/\((!z1)=true->InR (((y_2.length:Int):Int) - (Loc.at_ x)))/\(Tr ((!z1)=true))/\(Tr ((!z1)=true))/\(z1=false->(!z1)=true)/\((z4=true->(Q .ret (L2 [pL 4,pI 5 7] [(.loc 4,zc1)])))/\(z4=false->(Q .ret (L2 [pL 4,pI 5 0] [(.loc 4,[ci (Ptr.kind (Loc.p x)),ci 0,ci (Ptr.data (Loc.p x)),ci (Ptr.ptrs (Loc.p x)),ci (Ptr.code (Loc.p x)),ci (Ptr.count (Loc.p x)),ci (Ptr.segment (Loc.p x)),.bool (Ptr.double (Loc.p x)),ci (Loc.segment x),ci (Loc.at_ x)])]))))))):
  A91 [] (L2 [(0,.c (sU .words l .unk)),(1,.agg (enc .loc x))] []) Q:=
 Eq.mpr (by kernel_rfl) (h _ (JM _) _ rfl)
def ZpY(l:List (List Int))(x:Loc):Prop:=AW (Z1 Zio) Try.f91 ZoI [] (Zb (Zji.can (l,x,())) []) (EQ Try.f91 (ZgJ (l,x,())) [])
theorem ZnI(ZpB:CT 115 Z3K)(hb:∀ (l:List (List Int)) (x:Loc) (_:Unit),ZdE (l,x,())->ZpY l x):CT 91 Z6J:=
 Z0 (l:=[(115,Z3K)]) Z9 rfl (⟨ZpB,trivial⟩) ZoI Try.func91 rfl rfl 2 (fun _=> rfl) (by decide) (fun ⟨l,x,_⟩=> hb l x ())
def ZcF:List (FuncId × Fs U):=[(89,Z6L),(66,Z1H),(90,Z6K),(91,Z6J)]
def ZlM:Z6 U:=lvl [([0,1,2,6],[6]),([0,1,2,6,17],[6]),([6,7],[6]),([0,1,2,6,8],[6,8]),([0,1,2,6,8,29],[6,8]),([6,7],[6]),([0,1,2,6,8,37],[6,8]),([0,6,8,54],[6,8]),([6,7],[6]),([0,6,9,10],[6,9,10]),([0,6,9,10,83],[6,9,10]),([6,7],[6]),([0,6,9,10,11],[6,9,10]),([0,6,9,10,11,93],[6,9,10]),([0,6,9,10,11,93],[6,9,10]),([0,6,9,10,11,95],[6,9,10]),([6,7],[6]),([6,7],[6]),([0,1,2,6,8,110],[6,8]),([0,1,6,8],[6,8]),([0,1,2,6,8],[6,8]),([0,1,2,6,8,119],[6,8]),([6,7],[6]),([0,1,2,6,8,110],[6,8]),([0,1,2,6,8,12],[6,8]),([0,1,2,6,8,12,132],[6,8]),([6,7],[6]),([6,7],[6])]
def Z4t(l:List (List Int))(s at_ x11:Int):LSt U:=(L2 [(0,.c (sU .words l .unk)),pL 6,pL 9,pL 10,pI 11 x11,(93,.c (.bool (bif (((ZR (Ptr.mk (Ptr.kind (Z4 (List.getD (List.getD l (Int.toNat (Ptr.segment (Z4 (List.getD (l.getD s.toNat ([]:List Int)) at_.toNat (0:Int))))) ([]:List Int)) (Int.toNat (((Ptr.off (Z4 (List.getD (l.getD s.toNat ([]:List Int)) at_.toNat (0:Int)))):Int)+1)) (0:Int)))) (Ptr.off (Z4 (List.getD (List.getD l (Int.toNat (Ptr.segment (Z4 (List.getD (l.getD s.toNat ([]:List Int)) at_.toNat (0:Int))))) ([]:List Int)) (Int.toNat (((Ptr.off (Z4 (List.getD (l.getD s.toNat ([]:List Int)) at_.toNat (0:Int)))):Int)+1)) (0:Int)))) (Ptr.data (Z4 (List.getD (List.getD l (Int.toNat (Ptr.segment (Z4 (List.getD (l.getD s.toNat ([]:List Int)) at_.toNat (0:Int))))) ([]:List Int)) (Int.toNat (((Ptr.off (Z4 (List.getD (l.getD s.toNat ([]:List Int)) at_.toNat (0:Int)))):Int)+1)) (0:Int)))) (Ptr.ptrs (Z4 (List.getD (List.getD l (Int.toNat (Ptr.segment (Z4 (List.getD (l.getD s.toNat ([]:List Int)) at_.toNat (0:Int))))) ([]:List Int)) (Int.toNat (((Ptr.off (Z4 (List.getD (l.getD s.toNat ([]:List Int)) at_.toNat (0:Int)))):Int)+1)) (0:Int)))) (Ptr.code (Z4 (List.getD (List.getD l (Int.toNat (Ptr.segment (Z4 (List.getD (l.getD s.toNat ([]:List Int)) at_.toNat (0:Int))))) ([]:List Int)) (Int.toNat (((Ptr.off (Z4 (List.getD (l.getD s.toNat ([]:List Int)) at_.toNat (0:Int)))):Int)+1)) (0:Int)))) (Ptr.count (Z4 (List.getD (List.getD l (Int.toNat (Ptr.segment (Z4 (List.getD (l.getD s.toNat ([]:List Int)) at_.toNat (0:Int))))) ([]:List Int)) (Int.toNat (((Ptr.off (Z4 (List.getD (l.getD s.toNat ([]:List Int)) at_.toNat (0:Int)))):Int)+1)) (0:Int)))) (Ptr.segment (Z4 (List.getD (List.getD l (Int.toNat (Ptr.segment (Z4 (List.getD (l.getD s.toNat ([]:List Int)) at_.toNat (0:Int))))) ([]:List Int)) (Int.toNat (((Ptr.off (Z4 (List.getD (l.getD s.toNat ([]:List Int)) at_.toNat (0:Int)))):Int)+1)) (0:Int)))) (Ptr.double (Z4 (List.getD (List.getD l (Int.toNat (Ptr.segment (Z4 (List.getD (l.getD s.toNat ([]:List Int)) at_.toNat (0:Int))))) ([]:List Int)) (Int.toNat (((Ptr.off (Z4 (List.getD (l.getD s.toNat ([]:List Int)) at_.toNat (0:Int)))):Int)+1)) (0:Int)))))):Int)==0) then (((Ptr.off (Z4 (List.getD (List.getD l (Int.toNat (Ptr.segment (Z4 (List.getD (l.getD s.toNat ([]:List Int)) at_.toNat (0:Int))))) ([]:List Int)) (Int.toNat (((Ptr.off (Z4 (List.getD (l.getD s.toNat ([]:List Int)) at_.toNat (0:Int)))):Int)+1)) (0:Int)))):Int) !=0) else false)))] [(.loc 6,zc1),(.loc 9,(enc .ptr (Z4 (List.getD (List.getD l (Int.toNat (Ptr.segment (Z4 (List.getD (l.getD s.toNat ([]:List Int)) at_.toNat (0:Int))))) ([]:List Int)) (Int.toNat (Ptr.off (Z4 (List.getD (l.getD s.toNat ([]:List Int)) at_.toNat (0:Int))))) (0:Int))))),(.loc 10,(enc .ptr (Z4 (List.getD (List.getD l (Int.toNat (Ptr.segment (Z4 (List.getD (l.getD s.toNat ([]:List Int)) at_.toNat (0:Int))))) ([]:List Int)) (Int.toNat (((Ptr.off (Z4 (List.getD (l.getD s.toNat ([]:List Int)) at_.toNat (0:Int)))):Int)+1)) (0:Int)))))])
def Z4s(l:List (List Int))(s at_:Int)(v110_a:V U)(x1_a x2_a ml8_0_a ml8_1_a ml8_2_a ml8_3_a ml8_4_a ml8_5_a ml8_6_a:Int)(ml8_7_a:Bool):LSt U:=(L2 [(0,.c (sU .words l .unk)),pI 1 x1_a,pI 2 x2_a,pL 6,pL 8,(110,v110_a)] [(.loc 6,zc1),(.loc 8,[ci ml8_0_a,ci ml8_1_a,ci ml8_2_a,ci ml8_3_a,ci ml8_4_a,ci ml8_5_a,ci ml8_6_a,.bool ml8_7_a])])
abbrev A65(p:List Nat):=AW (Z1 ZcF) Try.f65 ZlM p
abbrev S65(p:List Nat):=SW (Z1 ZcF) Try.f65 ZlM p
theorem ZsE(l:List (List Int))(s at_:Int)(Q:QT)(h:∀ y_1,y_1=(l.getD s.toNat ([]:List Int))->∀ y_2,y_2=(y_1.getD at_.toNat (0:Int))->∀ y_3,y_3=(List.getD l (Int.toNat (Ptr.segment (Z4 y_2))) ([]:List Int))->∀ y_4,y_4=(List.getD y_3 (Int.toNat (Ptr.off (Z4 y_2))) (0:Int))->∀ y_5,y_5=(List.getD y_3 (Int.toNat (((Ptr.off (Z4 y_2)):Int)+1)) (0:Int))->∀ y_6,y_6=(Z4 y_5)->let z8:=Ptr.kind (Z4 y_2);let z6:=Q .ret (L2 [pL 6,pI 7 7] [(.loc 6,zc1)]);let z5:=((ZR y_6):Int)==0;let z7:=bif z5 then (((Ptr.off (Z4 y_5)):Int) !=0) else false;let z4:=((Ptr.kind (Z4 y_4)):Int) !=3;let z11:=bif z4 then true else (Ptr.double (Z4 y_4));let z3:=(z8:Int)==3;let z10:=bif z3 then (Ptr.double (Z4 y_2)) else false;let z2:=Ptr.off (Z4 y_2);let z1:=Ptr.segment (Z4 y_2);let z0:= !(ZQ l z1 z2 1);let z9:=bif z0 then true else (!(ZQ l z1 ((z2:Int)+1) 1));((Z92 (l,s,at_,()))/\(((!(ZQ l s at_ 1))=true->z6)/\((!(ZQ l s at_ 1))=false->((0:Int)<=s/\s < (l.length:Int))/\((0:Int)<=at_/\at_ < (y_1.length:Int))/\(Z5F (y_2,()))/\((((z8:Int)==0)=true->(Q .ret (L2 [pL 6,pI 7 0] [(.loc 6,zc1)])))/\(((z8:Int)==0)=false->(Tr (z3=true))/\(Tr (z3=true))/\((z10=true->(Z92 (l,z1,z2,()))/\(Tr ((!z0)=true))/\(Tr ((!z0)=true))/\(Tr ((!z0)=true))/\((!z0)=true->InR ((z2:Int)+1))/\(Tr ((!z0)=true))/\(Tr ((!z0)=true))/\(Tr ((!z0)=true))/\((!z0)=true->Z92 (l,z1,((z2:Int)+1),()))/\(Tr ((!z0)=true))/\(z0=false->(!z0)=true)/\((z9=true->z6)/\(z9=false->((0:Int)<=z1/\z1 < (l.length:Int))/\((0:Int)<=z2/\z2 < (y_3.length:Int))/\(Z5F (y_4,()))/\((0:Int)<=z1/\z1 < (l.length:Int))/\(InR ((z2:Int)+1))/\((0:Int)<=((z2:Int)+1)/\((z2:Int)+1) < (y_3.length:Int))/\(Z5F (y_5,()))/\((Tr ((!z4)=true))/\(z4=false->(!z4)=true)/\((z11=true->(Q .ret (L2 [pL 6,pI 7 8] [(.loc 6,zc1)])))/\(z11=false->(ZdF (y_6,()))/\((Tr (z5=true))/\(Tr (z5=true))/\(Tr (z5=true))/\((z7=true->(A65 [1,1,1,1,0,1,0,1,1,1,1,1] (Z4t l s at_ 8) (S65 [1,1,1,1,1] Q)))/\(z7=false->A65 [1,1,1,1,0,1,0,1,1,1,1,1] (Z4t l s at_ (ZR y_6)) (S65 [1,1,1,1,1] Q))))))))))/\(z10=false->((z3=true->((Z92 (l,z1,z2,()))/\((z0=true->z6)/\(z0=false->((0:Int)<=z1/\z1 < (l.length:Int))/\((0:Int)<=z2/\z2 < (y_3.length:Int))/\(Z5F (y_4,()))/\(A65 [1,1,1,1,1,1] (Z4s l s at_ .junk z1 z2 (Ptr.kind (Z4 y_4)) (Ptr.off (Z4 y_4)) (Ptr.data (Z4 y_4)) (Ptr.ptrs (Z4 y_4)) (Ptr.code (Z4 y_4)) (Ptr.count (Z4 y_4)) (Ptr.segment (Z4 y_4)) (Ptr.double (Z4 y_4))) Q)))))/\(z3=false->A65 [1,1,1,1,1,1] (Z4s l s at_ (.c (.bool z3)) s at_ z8 z2 (Ptr.data (Z4 y_2)) (Ptr.ptrs (Z4 y_2)) (Ptr.code (Z4 y_2)) (Ptr.count (Z4 y_2)) z1 (Ptr.double (Z4 y_2))) Q)))))))))):
  A65 [] (L2 [(0,.c (sU .words l .unk)),pI 1 s,pI 2 at_] []) Q:=
 Eq.mpr (by kernel_rfl) (h _ rfl _ rfl _ rfl _ rfl _ rfl _ (JM _))
theorem Zd7(l:List (List Int))(s at_ x11:Int)(Q:QT)(h:∀ y_1,y_1=(l.getD s.toNat ([]:List Int))->∀ y_2,y_2=(y_1.getD at_.toNat (0:Int))->∀ y_3,y_3=(List.getD l (Int.toNat (Ptr.segment (Z4 y_2))) ([]:List Int))->∀ y_4,y_4=(List.getD y_3 (Int.toNat (Ptr.off (Z4 y_2))) (0:Int))->∀ y_5,y_5=(List.getD y_3 (Int.toNat (((Ptr.off (Z4 y_2)):Int)+1)) (0:Int))->∀ y_6,y_6=(Z4 y_5)->∀ y_7,y_7=(ZM l (Loc.mk y_6 (Ptr.segment (Z4 y_4)) (Ptr.off (Z4 y_4))))->(((x11 !=0)=true->(Q .ret (L2 [pL 6,pI 7 x11] [(.loc 6,zc1)])))/\((x11 !=0)=false->(ZdE (l,(Loc.mk y_6 (Ptr.segment (Z4 y_4)) (Ptr.off (Z4 y_4))),()))/\(Q .ret (L2 [pL 6,pI 7 (y_7.2)] [(.loc 6,(enc .ptr (Loc.p (y_7.1))++[ci (Loc.segment (y_7.1)),ci (Loc.at_ (y_7.1))]))]))))):
  A65 [1,1,1,1,0,1,0,1,1,1,1,1] (Z4t l s at_ x11) (S65 [1,1,1,1,1] Q):=
 Eq.mpr (by kernel_rfl) (h _ rfl _ rfl _ rfl _ rfl _ rfl _ (JM _) _ rfl)
theorem ZkH(l:List (List Int))(s at_:Int)(v110_a:V U)(x1_a x2_a ml8_0_a ml8_1_a ml8_2_a ml8_3_a ml8_4_a ml8_5_a ml8_6_a:Int)(ml8_7_a:Bool)(Q:QT)(h:∀ y_1,y_1=(Ptr.mk ml8_0_a ml8_1_a ml8_2_a ml8_3_a ml8_4_a ml8_5_a ml8_6_a ml8_7_a)->∀ y_2,y_2=(ZM l (Loc.mk y_1 x1_a (((x2_a+1):Int)+ml8_1_a)))->(ZdF (y_1,()))/\(((((ZR y_1):Int) !=0)=true->(Q .ret (L2 [pL 6,pI 7 (ZR y_1)] [(.loc 6,zc1)])))/\((((ZR y_1):Int) !=0)=false->(InR (x2_a+1))/\(InR (((x2_a+1):Int)+ml8_1_a))/\(ZdE (l,(Loc.mk y_1 x1_a (((x2_a+1):Int)+ml8_1_a)),()))/\(Q .ret (L2 [pL 6,pI 7 (y_2.2)] [(.loc 6,(enc .ptr (Loc.p (y_2.1))++[ci (Loc.segment (y_2.1)),ci (Loc.at_ (y_2.1))]))]))))):
  A65 [1,1,1,1,1,1] (Z4s l s at_ v110_a x1_a x2_a ml8_0_a ml8_1_a ml8_2_a ml8_3_a ml8_4_a ml8_5_a ml8_6_a ml8_7_a) Q:=
 Eq.mpr (by kernel_rfl) (h _ rfl _ rfl)
def Zqn(l:List (List Int))(s at_:Int):Prop:=AW (Z1 ZcF) Try.f65 ZlM [] (Zb (Zjk.can (l,s,at_,())) []) (EQ Try.f65 (Z8U (l,s,at_,())) [])
theorem Zo4(c89:CT 89 Z6L)(c66:CT 66 Z1H)(c90:CT 90 Z6K)(c91:CT 91 Z6J)(hb:∀ (l:List (List Int)) (s:Int) (at_:Int) (_:Unit),Z92 (l,s,at_,())->Zqn l s at_):CT 65 Z6Y:=
 Z0 (l:=[(89,Z6L),(66,Z1H),(90,Z6K),(91,Z6J)]) Z9 rfl (⟨c89,c66,c90,c91,trivial⟩) ZlM Try.func65 rfl rfl 3 (fun _=> rfl) (by decide) (fun ⟨l,s,at_,_⟩=> hb l s at_ ())
end
abbrev tL(x:Loc × Int):V U:= .tup [(true,enc .loc x.1),(false,[.int .i64 x.2])]
theorem Z8F{p:Ptr}(h:OkP p)(hk:p.kind=1\/p.kind=2):0<=ZF p:=by
 have h1:=h.data
 have h2:=h.ptrs
 have h3:=h.code
 have h4:=h.count
 have hb:0<=Z0o p.code:=by unfold Z0o;(repeat' split) <;> omega
 have hm:=QE h4.1 hb
 unfold ZF
 repeat' split
 all_goals omega
theorem Zg4:Contract Try.prog cfg 113 Z0v:=by
 refine Zlo Zpy c85 ?_
 intro a x _ hp
 obtain ⟨ha,hx,hk⟩:=hp
 dsimp only at ha hx hk
 refine Zrh _ _ _ ?_
 rintro y hy
 dsimp only at hy
 subst hy
 (simp only [vcT,vcS])
 have hw:=Z8F hx hk
 rw [if_neg (show ¬ZF x.p < 0 by omega)]
 have hr:Zc8 (a,x,())=tL (ZM (Z2 a) x):=rfl
 rw [hr]
 refine ⟨hx,ha,fun h=> ?_,fun h=> ?_⟩
 ·rw [show ZM (Z2 a) x=(Jg,7) by unfold ZM;rw [h];rfl];(repeat' (first | exact trivial | exact rfl | apply And.intro))
 ·rw [show ZM (Z2 a) x=(⟨Zcl x.p,x.segment,x.at_⟩,0) by unfold ZM;rw [h];rfl];(repeat' (first | exact trivial | exact rfl | apply And.intro))
theorem Z9Q{p:Ptr}(h:p.kind=1\/p.kind=2):ZR p=0:=by unfold ZR;rw [if_neg (by omega),if_pos h]
theorem Zdk{p:Ptr}(h:p.kind=4):ZR p=9:=by unfold ZR;rw [if_pos h]
theorem Zdj{p:Ptr}(h1:¬p.kind=1)(h2:¬p.kind=2)(h4:¬p.kind=4):ZR p=8:=by unfold ZR;rw [if_neg h4,if_neg (by omega)]
theorem c87:Contract Try.prog cfg 87 Z6N:=by
 refine ZnM Zg4 ?_
 intro a p s x _ hp
 obtain ⟨ha,hx,h0,h1⟩:=hp
 dsimp only at ha hx h0 h1
 have ho:=hx.off
 refine Zsj _ _ _ _ _ ?_
 rintro y hy z hz
 dsimp only at hy hz
 replace hy:=hy.symm
 subst hy hz
 (simp only [vcT,vcS])
 have hr:ZgL (a,p,s,x,())=tL (Yu (Z2 a) p s x):=rfl
 rw [hr]
 have hok:p.kind=1\/p.kind=2->Yu (Z2 a) p s x=ZM (Z2 a) ⟨p,s,x+1+p.off⟩:=fun h=> by
  unfold Yu;rw [Z9Q h,if_pos rfl]
 have h4:p.kind=4->Yu (Z2 a) p s x=(Jg,9):=fun h=> by unfold Yu;rw [Zdk h,if_neg (by decide)]
 have h8:¬p.kind=1->¬p.kind=2->¬p.kind=4->Yu (Z2 a) p s x=(Jg,8):=fun a1 a2 a3=> by unfold Yu;rw [Zdj a1 a2 a3,if_neg (by decide)]
 refine ⟨fun k1=> ⟨fun _=> ⟨by ((unfold InR;omega)),by ((unfold InR;omega)),⟨ha,hx,.inl k1⟩,?_⟩,fun k2=> absurd k1 k2⟩,fun k1=> ⟨fun k2=> ⟨by ((unfold InR;omega)),by ((unfold InR;omega)),⟨ha,hx,.inr k2⟩,?_⟩,fun k2=> ⟨fun k4=> ?_,fun k4=> ?_⟩⟩⟩
 ·rw [hok (.inl k1)];(repeat' (first | exact trivial | exact rfl | apply And.intro))
 ·rw [hok (.inr k2)];(repeat' (first | exact trivial | exact rfl | apply And.intro))
 ·rw [h4 k4];(repeat' (first | exact trivial | exact rfl | apply And.intro))
 ·rw [h8 k1 k2 k4];(repeat' (first | exact trivial | exact rfl | apply And.intro))
theorem Z98{l:List (List Int)}{s x:Int}{n k:Nat}(hx:0<=x)(hk:k < n):(Z1y l s x (n:Int)).getD k 0=ZA l s (x+k):=by
 unfold Z1y ZA
 rw [Q7,Q7,Qk (by omega),Qe,show (x+(k:Int)).toNat=x.toNat+k by omega]
theorem ZfC{l:List (List Int)}{s x n:Int}(h:ZQ l s x n=true):((Z1y l s x n).length:Int)=n:=by
 have hh:=Zm.1 h
 unfold Z1y
 simp
 omega
theorem c88:Contract Try.prog cfg 88 Z6M:=by
 refine ZnL ZpC c86 Zg4 ?_
 intro a s x _ ha
 simp only [Z7J] at ha
 refine Zsi _ _ _ _ ?_
 rintro y1 h1 y2 h2 y3 h3 y4 h4
 dsimp only at h1 h2 h3 h4
 (simp only [vcT,vcS])
 have hr:ZgK (a,s,x,())=tL (Ym (Z2 a) s x):=rfl
 rw [hr]
 refine ⟨ha,fun h=> ?_,fun h=> ?_⟩
 ·rw [show Ym (Z2 a) s x=(Jg,7) by unfold Ym;rw [h];rfl];(repeat' (first | exact trivial | exact rfl | apply And.intro))
 ·have hh:=Zm.1 h
  have hl:=ZfC h
  rw [if_pos h] at h1 h2 ⊢
  have e1:y1=ZA (Z2 a) s x:=by rw [h1];have:=Z98 (l:=Z2 a) (s:=s) (x:=x) (n:=2) (k:=0) hh.2.2.1 (by decide);simpa using this
  have e2:y2=ZA (Z2 a) s (x+1):=by rw [h2];have:=Z98 (l:=Z2 a) (s:=s) (x:=x) (n:=2) (k:=1) hh.2.2.1 (by decide);simpa using this
  have w1:=ZP ha s x
  have w2:=ZP ha s (x+1)
  have o2:=Z0C w2.1 w2.2
  clear h1 h2
  subst e1 e2 h3 h4
  have hD:Ym (Z2 a) s x=if (Z4 (ZA (Z2 a) s x)).kind≠3\/(Z4 (ZA (Z2 a) s x)).double=true then (Jg,8)
    else if ZR (Z4 (ZA (Z2 a) s (x+1)))≠0 then (Jg,ZR (Z4 (ZA (Z2 a) s (x+1))))
    else if (Z4 (ZA (Z2 a) s (x+1))).off≠0 then (Jg,8)
    else ZM (Z2 a) ⟨Z4 (ZA (Z2 a) s (x+1)),(Z4 (ZA (Z2 a) s x)).segment,(Z4 (ZA (Z2 a) s x)).off⟩:=by unfold Ym;rw [h];try rfl
  rw [hD]
  refine ⟨by omega,w1,by omega,w2,fun k=> ?_,fun k=> ⟨fun k4=> ?_,fun k4=> ⟨fun k5=> ?_,fun k5=> ⟨⟨ha,o2,k5.1⟩,?_⟩⟩⟩⟩
  ·rw [if_pos k];(repeat' (first | exact trivial | exact rfl | apply And.intro))
  all_goals rw [if_neg (show ¬((Z4 (ZA (Z2 a) s x)).kind≠3\/(Z4 (ZA (Z2 a) s x)).double=true) by rw [k.1,k.2];simp)]
  ·rw [Zdk k4,if_pos (by decide)];(repeat' (first | exact trivial | exact rfl | apply And.intro))
  ·by_cases k6:(Z4 (ZA (Z2 a) s (x+1))).kind=1\/(Z4 (ZA (Z2 a) s (x+1))).kind=2
   ·rw [Z9Q k6,if_neg (by decide),if_pos (by omega)];(repeat' (first | exact trivial | exact rfl | apply And.intro))
   ·rw [Zdj (fun e=> k6 (.inl e)) (fun e=> k6 (.inr e)) k4,if_pos (by decide)];(repeat' (first | exact trivial | exact rfl | apply And.intro))
  ·rw [Z9Q k5.1,if_neg (by decide),if_neg (by omega)];(repeat' (first | exact trivial | exact rfl | apply And.intro))
theorem c63:Contract Try.prog cfg 63 Z70:=by
 refine Zo6 c62 c86 c87 c88 ?_
 intro a s x _ ha
 simp only [Z7J] at ha
 refine ZsG _ _ _ _ ?_
 rintro y1 h1 y2 h2 y3 h3 y4 h4 y5 h5 y6 h6
 dsimp only at h1 h2 h3 h4 h5 h6
 (simp only [vcT,vcS])
 have hr:ZgQ (a,s,x,())=tL (Z5 (Z2 a) s x):=rfl
 rw [hr]
 refine ⟨ha,fun h=> ?_,fun h=> ?_⟩
 ·rw [show Z5 (Z2 a) s x=(Jg,7) by unfold Z5;rw [h];rfl];(repeat' (first | exact trivial | exact rfl | apply And.intro))
 ·have hh:=Zm.1 h
  have hl:=(ZU ha s).1
  have hl2:=(ZU ha y1.segment).1
  have w1:=ZP ha s x
  rw [if_pos h] at h1 ⊢
  have o1:=Z0C w1.1 w1.2
  rw [<-h1] at o1
  have hD:Z5 (Z2 a) s x=if y1.kind=0 then (Jg,0) else if y1.kind≠3 then Yu (Z2 a) y1 s x else if y1.double=true then Ym (Z2 a) y1.segment y1.off
    else if ZQ (Z2 a) y1.segment y1.off 1 then Yu (Z2 a) (Z4 (ZA (Z2 a) y1.segment y1.off)) y1.segment y1.off else (Jg,7):=by unfold Z5;rw [h,h1];try rfl
  rw [hD]
  clear hD
  subst h2 h3 h5 h6
  refine ⟨w1,fun k0=> ?_,fun k0=> ⟨fun k3=> ⟨⟨ha,o1,hh.2.2.1,by dsimp only;omega⟩,?_⟩,fun k3=> ⟨fun kd=> ⟨ha,?_⟩,fun kd=> ⟨ha,fun kh=> ?_,fun kh=> ?_⟩⟩⟩⟩
  ·rw [if_pos k0];(repeat' (first | exact trivial | exact rfl | apply And.intro))
  ·rw [if_neg k0,if_pos k3];(repeat' (first | exact trivial | exact rfl | apply And.intro))
  ·rw [if_neg k0,if_neg (by omega),if_pos kd];(repeat' (first | exact trivial | exact rfl | apply And.intro))
  ·rw [if_neg k0,if_neg (by omega),if_neg (by rw [kd];decide),if_neg (by rw [kh];decide)];(repeat' (first | exact trivial | exact rfl | apply And.intro))
  ·have hh2:=Zm.1 kh
   have w2:=ZP ha y2.segment y2.off
   rw [if_pos kh] at h4 ⊢
   subst h4
   refine ⟨w2,⟨ha,Z0C w2.1 w2.2,hh2.2.2.1,by dsimp only;omega⟩,?_⟩
   rw [if_neg k0,if_neg (by omega),if_neg (by rw [kd];decide),if_pos kh];(repeat' (first | exact trivial | exact rfl | apply And.intro))
theorem c89:Contract Try.prog cfg 89 Z6L:=by
 refine ZnK ?_
 intro l s x _ hp
 refine Zsh _ _ _ _ ?_
 (simp only [vcT,vcS])
 refine ⟨fun h=> by omega,Zj rfl ?_⟩
 rw [Qv]
 show _↔ZQ l s x 1=true
 rw [Zm]
 (simp only [vcT,vcS])
 constructor
 ·rintro ⟨⟨⟨h0,h1⟩,h2⟩,h3⟩
  rw [Yn h0]
  omega
 ·rintro ⟨h0,h1,h2,h3,h4⟩
  rw [Yn h0] at h4
  omega
theorem c90:Contract Try.prog cfg 90 Z6K:=by
 refine ZnJ ?_
 intro p _ _
 refine Zsg _ _ ?_
 (simp only [vcT,vcS])
 refine ⟨fun h=> Z7 rfl ?_,fun h=> ⟨fun h2=> Z7 rfl ?_,fun h2=> Z7 rfl ?_⟩⟩
 all_goals
  show _=ZR p
  unfold ZR
 ·rw [if_pos h]
 ·rw [if_neg h,if_neg (by omega)]
 ·rw [if_neg h,if_pos h2]
theorem c91:Contract Try.prog cfg 91 Z6J:=by
 refine ZnI ZpB ?_
 intro l x _ hp
 obtain ⟨ha,hx,hk⟩:=hp
 dsimp only at ha hx hk
 refine Zsf _ _ _ ?_
 rintro y hy z hz
 dsimp only at hy hz
 subst hy
 (simp only [vcT,vcS])
 have hw:=Z8F hx hk
 have hr:ZgJ (l,x,())=tL (ZM l x):=rfl
 rw [hr]
 have hs:¬x.segment < 0->Yk l x.segment=z:=fun h=> by rw [Yn (by omega),hz]
 have hl:=(ZU ha x.segment).1
 refine ⟨hx,fun h=> by omega,fun h=> by omega,fun h=> by rw [hs h.1.1.1] at hl;((unfold InR;omega)),fun h=> ?_,fun h=> ?_⟩
 ·have hf:ZQ l x.segment x.at_ (ZF x.p)=false:=by
   cases e:ZQ l x.segment x.at_ (ZF x.p) with
   | false=> rfl
   | true=>
    have hh:=Zm.1 e
    rw [hs (by omega)] at hh
    omega
  rw [show ZM l x=(Jg,7) by unfold ZM;rw [hf];rfl];(repeat' (first | exact trivial | exact rfl | apply And.intro))
 ·have ht:ZQ l x.segment x.at_ (ZF x.p)=true:=by
   rw [Zm,hs (by omega)]
   omega
  rw [show ZM l x=(⟨Zcl x.p,x.segment,x.at_⟩,0) by unfold ZM;rw [ht];rfl];(repeat' (first | exact trivial | exact rfl | apply And.intro))
theorem Zni{l:List (List Int)}(hl:ZX l)(s x:Int)(v:V U){p:Ptr}(hp:OkP p)(s' x':Int)(h0:0<=x')(h1:x'<=17592186044416)(hf:Z5 l s x=Yu l p s' x'):
  A65 [1,1,1,1,1,1] (Z4s l s x v s' x' p.kind p.off p.data p.ptrs p.code p.count p.segment p.double) (Zx cfg Try.f65.ntmps Try.f65.results.toList (Z8U (l,s,x,())) []):=by
 have ho:=hp.off
 refine ZkH _ _ _ _ _ _ _ _ _ _ _ _ _ _ _ ?_
 rintro y1 h1 y2 h2
 subst h1 h2
 (simp only [vcT,vcS])
 have hr:Z8U (l,s,x,())=tL (Z5 l s x):=rfl
 rw [hr,hf]
 refine ⟨trivial,fun h=> ?_,fun h=> ⟨by ((unfold InR;omega)),by ((unfold InR;omega)),⟨hl,hp,Z0y h⟩,?_⟩⟩
 ·rw [show Yu l p s' x'=(Jg,ZR p) by unfold Yu;rw [if_neg h]];(repeat' (first | exact trivial | exact rfl | apply And.intro))
 ·rw [show Yu l p s' x'=ZM l ⟨p,s',x'+1+p.off⟩ by unfold Yu;rw [if_pos (show ZR p=0 from h)]];(repeat' (first | exact trivial | exact rfl | apply And.intro))
theorem c65:Contract Try.prog cfg 65 Z6Y:=by
 refine Zo4 c89 c66 c90 c91 ?_
 intro l s x _ hl
 simp only [Z92] at hl
 have hS:∀ {s x:Int},ZQ l s x 1=true->(0<=s/\s < (l.length:Int))/\(0<=x/\x < ((l.getD s.toNat []).length:Int))/\(l.getD s.toNat []).getD x.toNat 0=ZA l s x/\x+1<=17592186044416:=by
  intro s x h
  have hh:=Zm.1 h
  have hb:=(ZU hl s).1
  rw [Yn hh.1] at hh hb
  refine ⟨⟨hh.1,hh.2.1⟩,⟨hh.2.2.1,by omega⟩,by unfold ZA;rw [Yn hh.1],by omega⟩
 have hO:∀ s x,OkP (Z4 (ZA l s x)):=fun s x=> Z0C (ZP hl s x).1 (ZP hl s x).2
 refine ZsE _ _ _ _ ?_
 rintro y1 h1 y2 h2 y3 h3 y4 h4 y5 h5 y6 h6
 dsimp only at h1 h2 h3 h4 h5 h6
 (simp only [vcT,vcS])
 have hr:Z8U (l,s,x,())=tL (Z5 l s x):=rfl
 refine ⟨hl,fun h=> ?_,fun h=> ?_⟩
 ·rw [hr,show Z5 l s x=(Jg,7) by unfold Z5;rw [h];rfl];(repeat' (first | exact trivial | exact rfl | apply And.intro))
 obtain ⟨a1,a2,a3,a4⟩:=hS h
 rw [h1,a3] at h2
 subst h1
 have hD:Z5 l s x=if (Z4 y2).kind=0 then (Jg,0) else if (Z4 y2).kind≠3 then Yu l (Z4 y2) s x else if (Z4 y2).double=true then Ym l (Z4 y2).segment (Z4 y2).off
   else if ZQ l (Z4 y2).segment (Z4 y2).off 1 then Yu l (Z4 (ZA l (Z4 y2).segment (Z4 y2).off)) (Z4 y2).segment (Z4 y2).off else (Jg,7):=by unfold Z5;rw [h,<-h2];try rfl
 refine ⟨a1,a2,by rw [h2];exact ZP hl s x,fun k0=> ?_,fun k0=> ⟨fun k3=> ⟨hl,fun k=> by have:=hS k;((unfold InR;omega)),fun _=> hl,fun k=> ?_,fun k=> ?_⟩,fun k3=> ⟨fun k=> ⟨hl,fun kh=> ?_,fun kh=> ?_⟩,fun k=> ?_⟩⟩⟩
 ·rw [hr,hD,if_pos k0];(repeat' (first | exact trivial | exact rfl | apply And.intro))
 ·rw [hr,hD,if_neg k0,if_neg (by omega),if_pos k3.2,show Ym l (Z4 y2).segment (Z4 y2).off=(Jg,7) by
   unfold Ym
   rw [if_neg]
   intro hh
   have hh:=Zm.1 hh
   rcases k with k | k
   ·exact absurd k (by rw [Zm.2 ⟨hh.1,hh.2.1,hh.2.2.1,by decide,by omega⟩];decide)
   ·exact absurd k (by rw [Zm.2 ⟨hh.1,hh.2.1,by omega,by decide,by omega⟩];decide)]
  (repeat' (first | exact trivial | exact rfl | apply And.intro))
 ·obtain ⟨b1,b2,b3,b4⟩:=hS k.1
  obtain ⟨d1,d2,d3,d4⟩:=hS k.2
  have g1:=Zm.1 k.1
  have g2:=Zm.1 k.2
  subst h3
  rw [b3] at h4
  rw [d3] at h5
  have hD2:Z5 l s x=if (Z4 y4).kind≠3\/(Z4 y4).double=true then (Jg,8) else if ZR (Z4 y5)≠0 then (Jg,ZR (Z4 y5)) else if (Z4 y5).off≠0 then (Jg,8) else ZM l ⟨Z4 y5,(Z4 y4).segment,(Z4 y4).off⟩:=by
   rw [hD,if_neg k0,if_neg (by omega),if_pos k3.2,h4,h5]
   unfold Ym
   rw [if_pos (Zm.2 ⟨g1.1,g1.2.1,g1.2.2.1,by decide,by omega⟩)]
  have o4:OkP (Z4 y4):=by rw [h4];exact hO _ _
  have o5:OkP (Z4 y5):=by rw [h5];exact hO _ _
  have f4:=o4.segment
  have q0:∀ e:Int,e≠0->((Z4 y4).kind=3/\(Z4 y4).double=false)->Z5 l s x=(Jg,e)->A65 [1,1,1,1,0,1,0,1,1,1,1,1] (Z4t l s x e) (S65 [1,1,1,1,1] (Zx cfg Try.f65.ntmps Try.f65.results.toList (Z8U (l,s,x,())) [])):=by
   intro e he _ hf
   refine Zd7 _ _ _ _ _ ?_
   rintro z1 _ z2 _ z3 _ z4 _ z5 _ z6 _ z7 _
   (simp only [vcT,vcS])
   rw [hr,hf]
   refine ⟨fun _=> by (repeat' (first | exact trivial | exact rfl | apply And.intro)),fun k=> absurd k he⟩
  refine ⟨b1,b2,by rw [h4];exact ZP hl _ _,b1,by ((unfold InR;omega)),d2,by rw [h5];exact ZP hl _ _,fun q=> ?_,fun q=> ⟨trivial,fun r=> ?_,fun r=> ?_⟩⟩
  ·rw [hr,hD2,if_pos q];(repeat' (first | exact trivial | exact rfl | apply And.intro))
  ·refine q0 8 (by decide) q ?_
   rw [hD2,if_neg (by rw [q.1,q.2];simp),if_neg (by rw [<-h6];omega),if_pos r.2]
  ·by_cases hs:ZR y6=0
   ·rw [hs]
    refine Zd7 _ _ _ _ _ ?_
    rintro z1 w1 z2 w2 z3 w3 z4 w4 z5 w5 z6 w6 z7 w7
    have e2:z2=y2:=by rw [w2,w1,a3,h2]
    rw [e2] at w3
    have e4:z4=y4:=by rw [w4,w3,e2,b3,h4]
    have e5:z5=y5:=by rw [w5,w3,e2,d3,h5]
    rw [e5] at w6
    rw [e4,w6] at w7
    subst w6 w7
    (simp only [vcT,vcS])
    rw [hr,hD2,if_neg (by rw [q.1,q.2];simp),if_neg (by rw [<-h6];omega),if_neg (by omega)]
    refine ⟨fun k=> absurd trivial k,⟨hl,o5,?_⟩,?_⟩
    ·rw [h6] at hs;exact Z0y hs
    ·(repeat' (first | exact trivial | exact rfl | apply And.intro))
   ·refine q0 (ZR y6) hs q ?_
    rw [hD2,if_neg (by rw [q.1,q.2];simp),<-h6,if_pos hs]
 ·rw [hr,hD,if_neg k0,if_neg (by omega),if_neg (by rw [show (Z4 y2).double=false by rcases k3 with k3 | k3;exact absurd k k3;exact k3];decide),if_neg (by rw [kh];decide)];(repeat' (first | exact trivial | exact rfl | apply And.intro))
 ·obtain ⟨b1,b2,b3,b4⟩:=hS kh
  subst h3
  rw [b3] at h4
  refine ⟨b1,b2,by rw [h4];exact ZP hl _ _,?_⟩
  refine Zni hl s x _ (p:=Z4 y4) (by rw [h4];exact hO _ _) _ _ b2.1 (by omega) ?_
  rw [hD,if_neg k0,if_neg (by omega),if_neg (by rw [show (Z4 y2).double=false by rcases k3 with k3 | k3;exact absurd k k3;exact k3];decide),if_pos kh,<-h4]
 ·refine Zni hl s x _ (p:=Z4 y2) (by rw [h2];exact hO _ _) _ _ a2.1 (by omega) ?_
  rw [hD,if_neg k0,if_pos k]
noncomputable section
def ZjC:ArgL (Ref × Int × Unit):=(.cons (aEl .ref) (.cons (Zr .i64) .nil))
def Zhp(a:Ref × Int × Unit):Prop:=okA (Ref.a a.1)/\0<=a.2.1/\Ref.number a.1=0/\ZQ (Z2 (Ref.a a.1)) (Ref.segment a.1) (Ref.at_ a.1) (a.2.1+1)=true
def ZgP(a:Ref × Int × Unit):V U:= .tup [(true,(enc .ref (Y0 (Ref.a a.1) (Jw (Z2 (Ref.a a.1)) (Ref.segment a.1) (Ref.at_ a.1) a.2.1).1))),(false,[ci ((Jw (Z2 (Ref.a a.1)) (Ref.segment a.1) (Ref.at_ a.1) a.2.1).2)])]
def Z6Z:Fs U:=fs ZjC (fun a=> [Zhp a]) ZgP
def Zdy(a:Option Arena × Int × Int × Unit):V U:= .tup [(true,(enc .ref (Y0 a.1 (Zp (Z2 a.1) a.2.1 a.2.2.1).1))),(false,[ci ((Zp (Z2 a.1) a.2.1 a.2.2.1).2)])]
def Z1N:Fs U:=fs ZjE (fun a=> [Z7J a]) Zdy
def Zn5(a:Option Arena × Unit):V U:= .tup [(true,(enc .ref (Y0 a.1 (Zp (Z2 a.1) 0 0).1))),(false,[ci ((Zp (Z2 a.1) 0 0).2)])]
def Z1P:Fs U:=fs ZeX (fun a=> [Zae a]) Zn5
def Zk3:ArgL (Ref × Unit):=(.cons (aEl .ref) .nil)
def Z41(a:Ref × Unit):Prop:=True
def Zn4(a:Ref × Unit):V U:= .c (ci (Ref.kind a.1))
def Z0a:Fs U:=fs Zk3 (fun a=> [Z41 a]) Zn4
def ZmU(a:Ref × Unit):V U:= .c (ci (Jh a.1))
def Z08:Fs U:=fs Zk3 (fun a=> [Z41 a]) ZmU
def Zn3(a:Ref × Unit):V U:= .c (ci (Zw a.1))
def Jm:Fs U:=fs Zk3 (fun a=> [Z41 a]) Zn3
def Zhv(a:Ref × Int × Unit):Prop:=okR a.1
def Zn2(a:Ref × Int × Unit):V U:= .c (.int .u64 (Z1D a.1 a.2.1))
def Z7f:Fs U:=fs ZjC (fun a=> [Zhv a]) Zn2
def Zds(a:Ref × Unit):V U:= .tup [(false,[ci (if Ref.kind a.1=9 then Ref.data a.1 else 0)]),(false,[ci (if Ref.kind a.1=9 then Ref.kids a.1 else 0)])]
def Z6X:Fs U:=fs Zk3 (fun a=> [Z41 a]) Zds
def Zhq(a:Ref × Int × Unit):Prop:=okR a.1/\2<=Ref.kind a.1/\Ref.kind a.1<=7/\0<=a.2.1/\a.2.1 < Ref.count a.1
def ZgR(a:Ref × Int × Unit):V U:= .c (.int .u64 (YW (List.drop (Int.toNat (Ref.at_ a.1)) (Yk (Z2 (Ref.a a.1)) (Ref.segment a.1))) (Ref.kind a.1 - 2) a.2.1))
def Z71:Fs U:=fs ZjC (fun a=> [Zhq a]) ZgR
def ZgW(a:Ref × Int × Unit):V U:= .tup [(true,(enc .ref (Y0 (Ref.a a.1) (Zc (Z2 (Ref.a a.1)) (unX a.1) a.2.1).1))),(false,[ci ((Zc (Z2 (Ref.a a.1)) (unX a.1) a.2.1).2)])]
def Z1O:Fs U:=fs ZjC (fun a=> [Zhv a]) ZgW
def ZgV(a:List (List Int) × Int × Int × Unit):V U:= .tup [(true,(enc .xref ((Zp a.1 a.2.1 a.2.2.1).1))),(false,[ci ((Zp a.1 a.2.1 a.2.2.1).2)])]
def Z1M:Fs U:=fs Zjk (fun a=> [Z92 a]) ZgV
def ZjX:ArgL (XRef × Unit):=(.cons (aEl .xref) .nil)
def Zbn(a:XRef × Unit):Prop:=True
def Zn1(a:XRef × Unit):V U:= .c (ci (Zf a.1))
def Z18:Fs U:=fs ZjX (fun a=> [Zbn a]) Zn1
def Zjz:ArgL (XRef × List (List Int) × Unit):=(.cons (aEl .xref) (.cons (aSl .words) .nil))
def Zbj(a:XRef × List (List Int) × Unit):Prop:=ZX a.2.1/\OkX a.2.1 a.1
def ZgN(a:XRef × List (List Int) × Unit):V U:= .c (sU .u64 (Zg a.2.1 a.1) .unk)
def Z4T:Fs U:=fs Zjz (fun a=> [Zbj a]) ZgN
def ZjW:ArgL (XRef × List (List Int) × Int × Unit):=(.cons (aEl .xref) (.cons (aSl .words) (.cons (Zr .i64) .nil)))
def ZdT(a:XRef × List (List Int) × Int × Unit):Prop:=ZX a.2.1/\OkX a.2.1 a.1
def ZgU(a:XRef × List (List Int) × Int × Unit):V U:= .tup [(true,(enc .xref ((Zc a.2.1 a.1 a.2.2.1).1))),(false,[ci ((Zc a.2.1 a.1 a.2.2.1).2)])]
def Z4U:Fs U:=fs ZjW (fun a=> [ZdT a]) ZgU
def ZiD:List (FuncId × Fs U):=[(62,Jk),(86,Z1H)]
def ZoX:Z6 U:=lvl [([1,2,4],[2,4]),([1,2,4,6],[2,4]),([1,2,4,6,8],[2,4,8]),([2,4,8,44],[2,4,8]),([4,5],[4]),([2,4,8],[2,4,8]),([2,4],[2,4]),([4,5],[4])]
abbrev A64(p:List Nat):=AW (Z1 ZiD) Try.f64 ZoX p
theorem ZsF(r:Ref)(n:Int)(Q:QT)(h:∀ y_1,y_1=(Z4 (if ZQ (Z2 (Ref.a r)) (Ref.segment r) (Ref.at_ r) 1 then ZA (Z2 (Ref.a r)) (Ref.segment r) (Ref.at_ r) else 0))->let z1:=((if ZQ (Z2 (Ref.a r)) (Ref.segment r) (Ref.at_ r) 1 then ZA (Z2 (Ref.a r)) (Ref.segment r) (Ref.at_ r) else 0):Int) !=0;let z2:=bif z1 then (((Ptr.kind y_1):Int) !=1) else false;let z0:=bif z2 then true else (decide (((Ptr.off y_1):Int) < 0));let z3:=bif z0 then true else (decide (n < (((Ptr.off y_1):Int)*(((Ptr.data y_1):Int)+(Ptr.ptrs y_1)))));((Z7J ((Ref.a r),(Ref.segment r),(Ref.at_ r),()))/\((Z5F ((if ZQ (Z2 (Ref.a r)) (Ref.segment r) (Ref.at_ r) 1 then ZA (Z2 (Ref.a r)) (Ref.segment r) (Ref.at_ r) else 0),()))/\((Tr (z1=true))/\(Tr (z1=true))/\(Tr (z1=true))/\(Tr ((!z2)=true))/\(Tr ((!z2)=true))/\(z2=false->(!z2)=true)/\(Tr ((!z0)=true))/\(Tr ((!z0)=true))/\(Tr ((!z0)=true))/\(Tr ((!z0)=true))/\(Tr ((!z0)=true))/\((!z0)=true->InR (((Ptr.data y_1):Int)+(Ptr.ptrs y_1)))/\(Tr ((!z0)=true))/\(Tr ((!z0)=true))/\((!z0)=true->InR (((Ptr.off y_1):Int)*(((Ptr.data y_1):Int)+(Ptr.ptrs y_1))))/\(Tr ((!z0)=true))/\(Tr ((!z0)=true))/\(z0=false->(!z0)=true)/\((z3=true->(Q .ret (L2 [pL 4,pI 5 8] [(.loc 4,zc2)])))/\(z3=false->(InR (((Ref.at_ r):Int)+1))/\(Q .ret (L2 [pL 4,pI 5 0] [(.loc 4,[.po (U:=U) .arena (Ref.a r),ci 9,ci (Ref.segment r),ci (((Ref.at_ r):Int)+1),ci (Ptr.data y_1),ci (Ptr.ptrs y_1),ci (Ptr.off y_1),.int .u64 (Ref.number r)])])))))))):
  A64 [] (L2 [(0,.agg (enc .ref r)),pI 1 n] []) Q:=
 Eq.mpr (by kernel_rfl) (h _ rfl)
def Zqo(r:Ref)(n:Int):Prop:=AW (Z1 ZiD) Try.f64 ZoX [] (Zb (ZjC.can (r,n,())) []) (EQ Try.f64 (ZgP (r,n,())) [])
theorem Zo5(c62:CT 62 Jk)(c86:CT 86 Z1H)(hb:∀ (r:Ref) (n:Int) (_:Unit),Zhp (r,n,())->Zqo r n):CT 64 Z6Z:=
 Z0 (l:=[(62,Jk),(86,Z1H)]) Z9 rfl (⟨c62,c86,trivial⟩) ZoX Try.func64 rfl rfl 2 (fun _=> rfl) (by decide) (fun ⟨r,n,_⟩=> hb r n ())
def ZiY:List (FuncId × Fs U):=[(63,Z70),(64,Z6Z)]
def Zpi:Z6 U:=lvl [([0,1,2,6],[6]),([0,6,8,9],[6,8]),([0,6,8,9,25],[6,8]),([6,7],[6]),([6,8,10],[6,8,10]),([6,7],[6]),([6,8,10,41],[6,8,10]),([6,10],[6,10]),([6,8,10,55],[6,8,10]),([6,10],[6,10]),([6,8,10,69],[6,8,10]),([6,10],[6,10]),([6,7],[6])]
def Z2r(a:Option Arena)(s at_ ml10_1 ml10_4 ml10_5 ml10_6:Int):LSt U:=(L2 [pL 6,pL 10] [(.loc 6,zc2),(.loc 10,[.po (U:=U) .arena a,ci ml10_1,ci (Loc.segment ((Z5 (Z2 a) s at_).1)),ci (Loc.at_ ((Z5 (Z2 a) s at_).1)),ci ml10_4,ci ml10_5,ci ml10_6,.int .u64 0])])
abbrev A26(p:List Nat):=AW (Z1 ZiY) Try.f26 Zpi p
theorem Zt7(a:Option Arena)(s at_:Int)(Q:QT)(h:∀ y_1,y_1=(Ref.mk a 0 (Loc.segment ((Z5 (Z2 a) s at_).1)) (Loc.at_ ((Z5 (Z2 a) s at_).1)) 0 0 0 0)->∀ y_2,y_2=(Jw (Z2 (Ref.a y_1)) (Ref.segment y_1) (Ref.at_ y_1) (Ptr.count (Loc.p ((Z5 (Z2 a) s at_).1))))->let z3:=Z5 (Z2 a) s at_;let z1:=((z3.2):Int) !=0;let z0:=Loc.p (z3.1);let z4:=decide (((Ptr.code z0):Int) < 6);let z2:=bif z1 then true else (((Ptr.kind z0):Int)==0);((Z7J (a,s,at_,()))/\((Tr ((!z1)=true))/\(Tr ((!z1)=true))/\(Tr ((!z1)=true))/\(z1=false->(!z1)=true)/\((z2=true->(Q .ret (L2 [pL 6,pI 7 (z3.2)] [(.loc 6,zc2)])))/\(z2=false->(((((Ptr.kind z0):Int)==1)=true->(A26 [1,1,1,1,1] (Z2r a s at_ 1 (Ptr.data z0) (Ptr.ptrs z0) 0) Q))/\((((Ptr.kind z0):Int)==1)=false->((z4=true->(InR ((2:Int)+(Ptr.code z0)))/\(A26 [1,1,1,1,1] (Z2r a s at_ ((2:Int)+(Ptr.code z0)) 0 0 (Ptr.count z0)) Q))/\(z4=false->(((((Ptr.code z0):Int)==6)=true->(A26 [1,1,1,1,1] (Z2r a s at_ 8 0 0 (Ptr.count z0)) Q))/\((((Ptr.code z0):Int)==6)=false->(Zhp (y_1,(Ptr.count z0),()))/\(Q .ret (L2 [pL 6,pI 7 (y_2.2)] [(.loc 6,(enc .ref (Y0 (Ref.a y_1) y_2.1)))]))))))))))))):
  A26 [] (L2 [(0,.c (.po (U:=U) .arena a)),pI 1 s,pI 2 at_] []) Q:=
 Eq.mpr (by kernel_rfl) (h _ rfl _ rfl)
theorem ZkU(a:Option Arena)(s at_ ml10_1 ml10_4 ml10_5 ml10_6:Int)(Q:QT)(h:(Q .ret (L2 [pL 6,pI 7 0] [(.loc 6,[.po (U:=U) .arena a,ci ml10_1,ci (Loc.segment ((Z5 (Z2 a) s at_).1)),ci (Loc.at_ ((Z5 (Z2 a) s at_).1)),ci ml10_4,ci ml10_5,ci ml10_6,.int .u64 0])]))):
  A26 [1,1,1,1,1] (Z2r a s at_ ml10_1 ml10_4 ml10_5 ml10_6) Q:=
 Eq.mpr (by kernel_rfl) h
def ZqQ(a:Option Arena)(s at_:Int):Prop:=AW (Z1 ZiY) Try.f26 Zpi [] (Zb (ZjE.can (a,s,at_,())) []) (EQ Try.f26 (Zdy (a,s,at_,())) [])
theorem Zox(c63:CT 63 Z70)(c64:CT 64 Z6Z)(hb:∀ (a:Option Arena) (s:Int) (at_:Int) (_:Unit),Z7J (a,s,at_,())->ZqQ a s at_):CT 26 Z1N:=
 Z0 (l:=[(63,Z70),(64,Z6Z)]) Z9 rfl (⟨c63,c64,trivial⟩) Zpi Try.func26 rfl rfl 3 (fun _=> rfl) (by decide) (fun ⟨a,s,at_,_⟩=> hb a s at_ ())
def Zj3:List (FuncId × Fs U):=[(26,Z1N)]
def Zpn:Z6 U:=lvl [([0,2],[2]),([2,3],[2])]
abbrev A21(p:List Nat):=AW (Z1 Zj3) Try.f21 Zpn p
theorem Ztc(a:Option Arena)(Q:QT)(h:((Z7J (a,0,0,()))/\(Q .ret (L2 [pL 2,pI 3 ((Zp (Z2 a) 0 0).2)] [(.loc 2,(enc .ref (Y0 a (Zp (Z2 a) 0 0).1)))])))):
  A21 [] (L2 [(0,.c (.po (U:=U) .arena a))] []) Q:=
 Eq.mpr (by kernel_rfl) h
def ZqV(a:Option Arena):Prop:=AW (Z1 Zj3) Try.f21 Zpn [] (Zb (ZeX.can (a,())) []) (EQ Try.f21 (Zn5 (a,())) [])
theorem ZoC(c26:CT 26 Z1N)(hb:∀ (a:Option Arena) (_:Unit),Zae (a,())->ZqV a):CT 21 Z1P:=
 Z0 (l:=[(26,Z1N)]) Z9 rfl (⟨c26,trivial⟩) Zpn Try.func21 rfl rfl 1 (fun _=> rfl) (by decide) (fun ⟨a,_⟩=> hb a ())
def Zpm:Z6 U:=lvl [([1],[1]),([2],[])]
abbrev A22(p:List Nat):=AW (Z1 ZiK) Try.f22 Zpm p
theorem Ztb(r:Ref)(Q:QT)(h:(Q .ret (L2 [pI 2 (Ref.kind r)] []))):
  A22 [] (L2 [(0,.agg (enc .ref r))] []) Q:=
 Eq.mpr (by kernel_rfl) h
def ZqU(r:Ref):Prop:=AW (Z1 ZiK) Try.f22 Zpm [] (Zb (Zk3.can (r,())) []) (EQ Try.f22 (Zn4 (r,())) [])
theorem ZoB(hb:∀ (r:Ref) (_:Unit),Z41 (r,())->ZqU r):CT 22 Z0a:=
 Z0 (l:=[]) Z9 rfl trivial Zpm Try.func22 rfl rfl 1 (fun _=> rfl) (by decide) (fun ⟨r,_⟩=> hb r ())
def Zp2:Z6 U:=lvl [([1],[1]),([1,4],[1]),([1,4,5],[1]),([2],[]),([9],[]),([2],[]),([2],[])]
abbrev A59(p:List Nat):=AW (Z1 ZiK) Try.f59 Zp2 p
theorem ZsK(r:Ref)(Q:QT)(h:(((((Ref.kind r):Int)==1)=true->(Q .ret (L2 [pI 2 (Ref.data r)] [])))/\((((Ref.kind r):Int)==1)=false->(((((Ref.kind r):Int)==10)=true->(Q .ret (L2 [pI 2 1] [])))/\((((Ref.kind r):Int)==10)=false->(Q .ret (L2 [pI 2 0] []))))))):
  A59 [] (L2 [(0,.agg (enc .ref r))] []) Q:=
 Eq.mpr (by kernel_rfl) h
def Zqt(r:Ref):Prop:=AW (Z1 ZiK) Try.f59 Zp2 [] (Zb (Zk3.can (r,())) []) (EQ Try.f59 (ZmU (r,())) [])
theorem Zoa(hb:∀ (r:Ref) (_:Unit),Z41 (r,())->Zqt r):CT 59 Z08:=
 Z0 (l:=[]) Z9 rfl trivial Zp2 Try.func59 rfl rfl 1 (fun _=> rfl) (by decide) (fun ⟨r,_⟩=> hb r ())
def Zpl:Z6 U:=lvl [([1],[1]),([1,5],[1]),([2],[]),([2],[])]
abbrev A23(p:List Nat):=AW (Z1 ZiK) Try.f23 Zpl p
theorem Zta(r:Ref)(Q:QT)(h:(((((Ref.kind r):Int)==1)=true->(Q .ret (L2 [pI 2 (Ref.kids r)] [])))/\((((Ref.kind r):Int)==1)=false->(Q .ret (L2 [pI 2 (Ref.count r)] []))))):
  A23 [] (L2 [(0,.agg (enc .ref r))] []) Q:=
 Eq.mpr (by kernel_rfl) h
def ZqT(r:Ref):Prop:=AW (Z1 ZiK) Try.f23 Zpl [] (Zb (Zk3.can (r,())) []) (EQ Try.f23 (Zn3 (r,())) [])
theorem ZoA(hb:∀ (r:Ref) (_:Unit),Z41 (r,())->ZqT r):CT 23 Jm:=
 Z0 (l:=[]) Z9 rfl trivial Zpl Try.func23 rfl rfl 1 (fun _=> rfl) (by decide) (fun ⟨r,_⟩=> hb r ())
def ZiZ:List (FuncId × Fs U):=[(59,Z08),(62,Jk)]
def Zpj:Z6 U:=lvl [([1,2],[2]),([1,2,14],[2]),([4],[]),([1,2,17],[2]),([4],[]),([5],[]),([4],[])]
abbrev A25(p:List Nat):=AW (Z1 ZiZ) Try.f25 Zpj p
theorem Zt8(r:Ref)(i:Int)(Q:QT)(h:let z2:= !(decide (i < 0));let z0:=Ref.mk (Ref.a r) (Ref.kind r) (Ref.segment r) (Ref.at_ r) (Ref.data r) (Ref.kids r) (Ref.count r) (Ref.number r);let z1:=bif (decide (i < 0)) then true else (decide (((Jh z0):Int)<=i));((Tr (z2=true))/\(z2=true->Z41 (z0,()))/\(Tr (z2=true))/\(Tr (z2=true))/\((decide (i < 0))=false->z2=true)/\((z1=true->(Q .ret (L2 [(4,.c (.int .u64 0))] [])))/\(z1=false->(((((Ref.kind r):Int)==10)=true->(Q .ret (L2 [(4,.c (.int .u64 (Ref.number r)))] [])))/\((((Ref.kind r):Int)==10)=false->(InR (((Ref.at_ r):Int)+i))/\(Z7J ((Ref.a r),(Ref.segment r),(((Ref.at_ r):Int)+i),()))/\(Q .ret (L2 [(4,.c (.int .u64 (if ZQ (Z2 (Ref.a r)) (Ref.segment r) (((Ref.at_ r):Int)+i) 1 then ZA (Z2 (Ref.a r)) (Ref.segment r) (((Ref.at_ r):Int)+i) else 0)))] [])))))))):
  A25 [] (L2 [(0,.agg (enc .ref r)),pI 1 i] []) Q:=
 Eq.mpr (by kernel_rfl) h
def ZqR(r:Ref)(i:Int):Prop:=AW (Z1 ZiZ) Try.f25 Zpj [] (Zb (ZjC.can (r,i,())) []) (EQ Try.f25 (Zn2 (r,i,())) [])
theorem Zoy(c59:CT 59 Z08)(c62:CT 62 Jk)(hb:∀ (r:Ref) (i:Int) (_:Unit),Zhv (r,i,())->ZqR r i):CT 25 Z7f:=
 Z0 (l:=[(59,Z08),(62,Jk)]) Z9 rfl (⟨c59,c62,trivial⟩) Zpj Try.func25 rfl rfl 2 (fun _=> rfl) (by decide) (fun ⟨r,i,_⟩=> hb r i ())
def ZoU:Z6 U:=lvl [([1],[1]),([1,6],[1]),([2,3],[]),([2,3],[])]
abbrev A68(p:List Nat):=AW (Z1 ZiK) Try.f68 ZoU p
theorem ZsB(r:Ref)(Q:QT)(h:(((((Ref.kind r):Int) !=9)=true->(Q .ret (L2 [pI 2 0,pI 3 0] [])))/\((((Ref.kind r):Int) !=9)=false->(Q .ret (L2 [pI 2 (Ref.data r),pI 3 (Ref.kids r)] []))))):
  A68 [] (L2 [(0,.agg (enc .ref r))] []) Q:=
 Eq.mpr (by kernel_rfl) h
def Zqk(r:Ref):Prop:=AW (Z1 ZiK) Try.f68 ZoU [] (Zb (Zk3.can (r,())) []) (EQ Try.f68 (Zds (r,())) [])
theorem Zo1(hb:∀ (r:Ref) (_:Unit),Z41 (r,())->Zqk r):CT 68 Z6X:=
 Z0 (l:=[]) Z9 rfl trivial ZoU Try.func68 rfl rfl 1 (fun _=> rfl) (by decide) (fun ⟨r,_⟩=> hb r ())
def ZiG:List (FuncId × Fs U):=[(83,Yc),(62,Jk),(84,Z6W)]
def Zp0:Z6 U:=lvl [([1,2],[2]),([1,2,5],[2]),([1,2,5,6],[2]),([1,2,5,6,20],[2]),([4],[]),([1,2,5,8],[2]),([1,5,8,9],[]),([4],[])]
abbrev A61(p:List Nat):=AW (Z1 ZiG) Try.f61 Zp0 p
theorem ZsI(r:Ref)(i:Int)(Q:QT)(h:∀ y_1,y_1=(Int.tdiv 64 (if wd (((Ref.kind r):Int) - 2) < 0 then 0 else wd (((Ref.kind r):Int) - 2)))->let z2:=IntKind.wrap .i64 y_1;let z1:=((if wd (((Ref.kind r):Int) - 2) < 0 then 0 else wd (((Ref.kind r):Int) - 2)):Int)==0;let z0:=IntKind.wrap .i64 (Int.tdiv i z2);((InR (((Ref.kind r):Int) - 2))/\((Z5G ((((Ref.kind r):Int) - 2),()))/\((z1=true->(Q .ret (L2 [(4,.c (.int .u64 0))] [])))/\(z1=false->(((if wd (((Ref.kind r):Int) - 2) < 0 then 0 else wd (((Ref.kind r):Int) - 2)):Int)≠0)/\(((z2:Int)≠0)/\(InR (((Ref.at_ r):Int)+z0))/\(Z7J ((Ref.a r),(Ref.segment r),(((Ref.at_ r):Int)+z0),()))/\(((z2:Int)≠0)/\(ZdK (([if ZQ (Z2 (Ref.a r)) (Ref.segment r) (((Ref.at_ r):Int)+z0) 1 then ZA (Z2 (Ref.a r)) (Ref.segment r) (((Ref.at_ r):Int)+z0) else 0]),(((Ref.kind r):Int) - 2),(Int.tmod i z2),()))/\(Q .ret (L2 [(4,.c (.int .u64 (YW ([if ZQ (Z2 (Ref.a r)) (Ref.segment r) (((Ref.at_ r):Int)+z0) 1 then ZA (Z2 (Ref.a r)) (Ref.segment r) (((Ref.at_ r):Int)+z0) else 0]) (((Ref.kind r):Int) - 2) (Int.tmod i z2))))] []))))))))):
  A61 [] (L2 [(0,.agg (enc .ref r)),pI 1 i] []) Q:=
 Eq.mpr (by kernel_rfl) (h _ rfl)
def Zqr(r:Ref)(i:Int):Prop:=AW (Z1 ZiG) Try.f61 Zp0 [] (Zb (ZjC.can (r,i,())) []) (EQ Try.f61 (ZgR (r,i,())) [])
theorem Zo8(c83:CT 83 Yc)(c62:CT 62 Jk)(c84:CT 84 Z6W)(hb:∀ (r:Ref) (i:Int) (_:Unit),Zhq (r,i,())->Zqr r i):CT 61 Z71:=
 Z0 (l:=[(83,Yc),(62,Jk),(84,Z6W)]) Z9 rfl (⟨c83,c62,c84,trivial⟩) Zp0 Try.func61 rfl rfl 2 (fun _=> rfl) (by decide) (fun ⟨r,i,_⟩=> hb r i ())
def Zj0:List (FuncId × Fs U):=[(23,Jm),(26,Z1N),(61,Z71)]
def Zpk:Z6 U:=lvl [([1,2,4],[2,4]),([1,2,4,13],[2,4]),([4,5],[4]),([1,2,4,16],[2,4]),([1,2,4,16,17],[2,4]),([4,5],[4]),([1,2,4,16,33],[2,4]),([4,5],[4]),([1,2,4,46],[2,4]),([4,5],[4]),([4,5],[4])]
abbrev A24(p:List Nat):=AW (Z1 Zj0) Try.f24 Zpk p
theorem Zt9(r:Ref)(i:Int)(Q:QT)(h:∀ y_1,y_1=r->∀ y_2,y_2=(Zp (Z2 (Ref.a r)) (Ref.segment r) (((Ref.at_ r):Int)+i))->∀ y_3,y_3=(Zp (Z2 (Ref.a r)) (Ref.segment r) (((((Ref.at_ r):Int)+(Ref.data r)):Int)+i))->let z1:= !(decide (i < 0));let z0:=bif (decide (i < 0)) then true else (decide (((Zw y_1):Int)<=i));((Tr (z1=true))/\(z1=true->Z41 (y_1,()))/\(Tr (z1=true))/\(Tr (z1=true))/\((decide (i < 0))=false->z1=true)/\((z0=true->(Q .ret (L2 [pL 4,pI 5 0] [(.loc 4,zc2)])))/\(z0=false->(((((Ref.kind r):Int)==1)=true->(InR (((Ref.at_ r):Int)+(Ref.data r)))/\(InR (((((Ref.at_ r):Int)+(Ref.data r)):Int)+i))/\(Z7J ((Ref.a r),(Ref.segment r),(((((Ref.at_ r):Int)+(Ref.data r)):Int)+i),()))/\(Q .ret (L2 [pL 4,pI 5 (y_3.2)] [(.loc 4,(enc .ref (Y0 (Ref.a r) y_3.1)))])))/\((((Ref.kind r):Int)==1)=false->(((((Ref.kind r):Int)==8)=true->(InR (((Ref.at_ r):Int)+i))/\(Z7J ((Ref.a r),(Ref.segment r),(((Ref.at_ r):Int)+i),()))/\(Q .ret (L2 [pL 4,pI 5 (y_2.2)] [(.loc 4,(enc .ref (Y0 (Ref.a r) y_2.1)))])))/\((((Ref.kind r):Int)==8)=false->(((((Ref.kind r):Int)==9)=true->(InR (((Ref.data r):Int)+(Ref.kids r)))/\(InR (i*(((Ref.data r):Int)+(Ref.kids r))))/\(InR (((Ref.at_ r):Int)+(i*(((Ref.data r):Int)+(Ref.kids r)))))/\(Q .ret (L2 [pL 4,pI 5 0] [(.loc 4,[.po (U:=U) .arena (Ref.a r),ci 1,ci (Ref.segment r),ci (((Ref.at_ r):Int)+(i*(((Ref.data r):Int)+(Ref.kids r)))),ci (Ref.data r),ci (Ref.kids r),ci 0,.int .u64 0])])))/\((((Ref.kind r):Int)==9)=false->(Zhq (y_1,i,()))/\(Q .ret (L2 [pL 4,pI 5 0] [(.loc 4,[.po (U:=U) .arena (Ref.a r),ci 10,ci 0,ci 0,ci 0,ci 0,ci 0,.int .u64 (YW (List.drop (Int.toNat (Ref.at_ y_1)) (Yk (Z2 (Ref.a y_1)) (Ref.segment y_1))) (Ref.kind y_1 - 2) i)])])))))))))))):
  A24 [] (L2 [(0,.agg (enc .ref r)),pI 1 i] []) Q:=
 Eq.mpr (by kernel_rfl) (h _ (Yp _) _ rfl _ rfl)
def ZqS(r:Ref)(i:Int):Prop:=AW (Z1 Zj0) Try.f24 Zpk [] (Zb (ZjC.can (r,i,())) []) (EQ Try.f24 (ZgW (r,i,())) [])
theorem Zoz(c23:CT 23 Jm)(c26:CT 26 Z1N)(c61:CT 61 Z71)(hb:∀ (r:Ref) (i:Int) (_:Unit),Zhv (r,i,())->ZqS r i):CT 24 Z1O:=
 Z0 (l:=[(23,Jm),(26,Z1N),(61,Z71)]) Z9 rfl (⟨c23,c26,c61,trivial⟩) Zpk Try.func24 rfl rfl 2 (fun _=> rfl) (by decide) (fun ⟨r,i,_⟩=> hb r i ())
def ZiX:List (FuncId × Fs U):=[(65,Z6Y),(66,Z1H)]
def Zph:Z6 U:=lvl [([0,1,2,6],[6]),([0,6,8,9],[6,8]),([0,6,8,9,26],[6,8]),([6,7],[6]),([0,6,8,32],[6,8]),([6,7],[6]),([0,6,8,47],[6,8]),([6,7],[6]),([6,8,10],[6,8]),([6,8,10,11],[6,8,11]),([6,8,11,96],[6,8,11]),([6,7],[6]),([6,7],[6])]
abbrev A27(p:List Nat):=AW (Z1 ZiX) Try.f27 Zph p
theorem Zt6(l:List (List Int))(s at_:Int)(Q:QT)(h:∀ y_1,y_1=(List.getD l (Int.toNat (Loc.segment ((Z5 l s at_).1))) ([]:List Int))->∀ y_2,y_2=(List.getD y_1 (Int.toNat (Loc.at_ ((Z5 l s at_).1))) (0:Int))->let z9:=Ptr.off (Z4 y_2);let z8:=Ptr.ptrs (Z4 y_2);let z7:=Ptr.data (Z4 y_2);let z6:=Loc.segment ((Z5 l s at_).1);let z5:=Loc.at_ ((Z5 l s at_).1);let z3:=(((Z5 l s at_).2):Int) !=0;let z2:=bif (y_2 !=0) then (((Ptr.kind (Z4 y_2)):Int) !=1) else false;let z1:=Loc.p ((Z5 l s at_).1);let z11:=decide (((Ptr.code z1):Int) < 7);let z10:=bif z3 then true else (((Ptr.kind z1):Int)==0);let z0:=bif z2 then true else (decide ((z9:Int) < 0));let z4:=bif z0 then true else (decide (((Ptr.count z1):Int) < ((z9:Int)*((z7:Int)+z8))));((Z92 (l,s,at_,()))/\((Tr ((!z3)=true))/\(Tr ((!z3)=true))/\(Tr ((!z3)=true))/\(z3=false->(!z3)=true)/\((z10=true->(Q .ret (L2 [pL 6,pI 7 ((Z5 l s at_).2)] [(.loc 6,zc3)])))/\(z10=false->(((((Ptr.kind z1):Int)==1)=true->(Q .ret (L2 [pL 6,pI 7 0] [(.loc 6,[ci 1,ci z6,ci z5,ci (Ptr.data z1),ci (Ptr.ptrs z1),ci 0,.int .u64 0])])))/\((((Ptr.kind z1):Int)==1)=false->((z11=true->(InR ((2:Int)+(Ptr.code z1)))/\(Q .ret (L2 [pL 6,pI 7 0] [(.loc 6,[ci ((2:Int)+(Ptr.code z1)),ci z6,ci z5,ci 0,ci 0,ci (Ptr.count z1),.int .u64 0])])))/\(z11=false->((0:Int)<=z6/\z6 < (l.length:Int))/\((0:Int)<=z5/\z5 < (y_1.length:Int))/\((Z5F (y_2,()))/\((Tr ((y_2 !=0)=true))/\(Tr ((y_2 !=0)=true))/\(Tr ((y_2 !=0)=true))/\(Tr ((!z2)=true))/\(Tr ((!z2)=true))/\(z2=false->(!z2)=true)/\(Tr ((!z0)=true))/\(Tr ((!z0)=true))/\(Tr ((!z0)=true))/\(Tr ((!z0)=true))/\(Tr ((!z0)=true))/\((!z0)=true->InR ((z7:Int)+z8))/\(Tr ((!z0)=true))/\(Tr ((!z0)=true))/\((!z0)=true->InR ((z9:Int)*((z7:Int)+z8)))/\(Tr ((!z0)=true))/\(Tr ((!z0)=true))/\(Tr ((!z0)=true))/\(Tr ((!z0)=true))/\(z0=false->(!z0)=true)/\((z4=true->(Q .ret (L2 [pL 6,pI 7 8] [(.loc 6,zc3)])))/\(z4=false->(InR ((z5:Int)+1))/\(Q .ret (L2 [pL 6,pI 7 0] [(.loc 6,[ci 9,ci z6,ci ((z5:Int)+1),ci z7,ci z8,ci z9,.int .u64 0])]))))))))))))))):
  A27 [] (L2 [(0,.c (sU .words l .unk)),pI 1 s,pI 2 at_] []) Q:=
 Eq.mpr (by kernel_rfl) (h _ rfl _ rfl)
def ZqP(l:List (List Int))(s at_:Int):Prop:=AW (Z1 ZiX) Try.f27 Zph [] (Zb (Zjk.can (l,s,at_,())) []) (EQ Try.f27 (ZgV (l,s,at_,())) [])
theorem Zow(c65:CT 65 Z6Y)(c66:CT 66 Z1H)(hb:∀ (l:List (List Int)) (s:Int) (at_:Int) (_:Unit),Z92 (l,s,at_,())->ZqP l s at_):CT 27 Z1M:=
 Z0 (l:=[(65,Z6Y),(66,Z1H)]) Z9 rfl (⟨c65,c66,trivial⟩) Zph Try.func27 rfl rfl 3 (fun _=> rfl) (by decide) (fun ⟨l,s,at_,_⟩=> hb l s at_ ())
abbrev A29(p:List Nat):=AW (Z1 ZiK) Try.f29 Zpl p
theorem Zt5(x:XRef)(Q:QT)(h:(((((XRef.kind x):Int)==1)=true->(Q .ret (L2 [pI 2 (XRef.ptrs x)] [])))/\((((XRef.kind x):Int)==1)=false->(Q .ret (L2 [pI 2 (XRef.count x)] []))))):
  A29 [] (L2 [(0,.agg (enc .xref x))] []) Q:=
 Eq.mpr (by kernel_rfl) h
def ZqO(x:XRef):Prop:=AW (Z1 ZiK) Try.f29 Zpl [] (Zb (ZjX.can (x,())) []) (EQ Try.f29 (Zn1 (x,())) [])
theorem Zov(hb:∀ (x:XRef) (_:Unit),Zbn (x,())->ZqO x):CT 29 Z18:=
 Z0 (l:=[]) Z9 rfl trivial Zpl Try.func29 rfl rfl 1 (fun _=> rfl) (by decide) (fun ⟨x,_⟩=> hb x ())
def ZoV:Z6 U:=lvl [([1,2],[2]),([1,2,8],[2]),([4],[]),([1,2,14],[2]),([4],[]),([1,2,5],[2]),([4],[])]
abbrev A67(p:List Nat):=AW (Z1 ZiK) Try.f67 ZoV p
theorem ZsC(x:XRef)(l:List (List Int))(Q:QT)(h:let z1:=List.getD l (Int.toNat (XRef.s x)) ([]:List Int);let z0:=List.drop (Int.toNat (XRef.at_ x)) (List.take (Int.toNat (((XRef.at_ x):Int)+(XRef.data x))) z1);(((((XRef.kind x):Int)==10)=true->(Q .ret (L2 [(4,.c (sU .u64 ([XRef.n x]) .full))] [])))/\((((XRef.kind x):Int)==10)=false->(((((XRef.kind x):Int) !=1)=true->(Q .ret (L2 [(4,.c (.nils))] [])))/\((((XRef.kind x):Int) !=1)=false->(((0:Int)<=(XRef.s x)/\(XRef.s x) < (l.length:Int))/\(InR (((XRef.at_ x):Int)+(XRef.data x)))/\((0:Int)<=(XRef.at_ x)/\(XRef.at_ x)<=(((XRef.at_ x):Int)+(XRef.data x))/\(((XRef.at_ x):Int)+(XRef.data x))<=(z1.length:Int))/\((([]:List Int).length+z0.length)*8<=140737488355328)/\(Q .ret (L2 [(4,.c (sU .u64 (([]:List Int)++z0) (.own (.e 4 0))))] [])))))))):
  A67 [] (L2 [(0,.agg (enc .xref x)),(1,.c (sU .words l .unk))] []) Q:=
 Eq.mpr (by kernel_rfl) h
def Zql(x:XRef)(l:List (List Int)):Prop:=AW (Z1 ZiK) Try.f67 ZoV [] (Zb (Zjz.can (x,l,())) []) (EQ Try.f67 (ZgN (x,l,())) [])
theorem Zo2(hb:∀ (x:XRef) (l:List (List Int)) (_:Unit),Zbj (x,l,())->Zql x l):CT 67 Z4T:=
 Z0 (l:=[]) Z9 rfl trivial ZoV Try.func67 rfl rfl 2 (fun _=> rfl) (by decide) (fun ⟨x,l,_⟩=> hb x l ())
def ZiV:List (FuncId × Fs U):=[(29,Z18),(27,Z1M),(69,Z6W)]
def Zpf:Z6 U:=lvl [([1,2,3,6],[3,6]),([1,2,3,6,15],[3,6]),([6,7],[6]),([1,2,3,6,19],[3,6]),([6,7],[6]),([1,2,3,6,35],[3,6]),([6,7],[6]),([1,2,3,6,48],[3,6]),([6,7],[6]),([6,7],[6])]
abbrev A30(p:List Nat):=AW (Z1 ZiV) Try.f30 Zpf p
theorem Zt4(x:XRef)(l:List (List Int))(i:Int)(Q:QT)(h:∀ y_1,y_1=x->∀ y_2,y_2=(List.getD l (Int.toNat (XRef.s x)) ([]:List Int))->∀ y_3,y_3=(Zp l (XRef.s x) (((((XRef.at_ x):Int)+(XRef.data x)):Int)+i))->let z3:=List.drop (Int.toNat (XRef.at_ x)) y_2;let z2:=Zp l (XRef.s x) (((XRef.at_ x):Int)+i);let z1:= !(decide (i < 0));let z0:=bif (decide (i < 0)) then true else (decide (((Zf y_1):Int)<=i));((Tr (z1=true))/\(z1=true->Zbn (y_1,()))/\(Tr (z1=true))/\(Tr (z1=true))/\((decide (i < 0))=false->z1=true)/\((z0=true->(Q .ret (L2 [pL 6,pI 7 0] [(.loc 6,zc3)])))/\(z0=false->(((((XRef.kind x):Int)==1)=true->(InR (((XRef.at_ x):Int)+(XRef.data x)))/\(InR (((((XRef.at_ x):Int)+(XRef.data x)):Int)+i))/\(Z92 (l,(XRef.s x),(((((XRef.at_ x):Int)+(XRef.data x)):Int)+i),()))/\(Q .ret (L2 [pL 6,pI 7 (y_3.2)] [(.loc 6,[ci (XRef.kind (y_3.1)),ci (XRef.s (y_3.1)),ci (XRef.at_ (y_3.1)),ci (XRef.data (y_3.1)),ci (XRef.ptrs (y_3.1)),ci (XRef.count (y_3.1)),.int .u64 (XRef.n (y_3.1))])])))/\((((XRef.kind x):Int)==1)=false->(((((XRef.kind x):Int)==8)=true->(InR (((XRef.at_ x):Int)+i))/\(Z92 (l,(XRef.s x),(((XRef.at_ x):Int)+i),()))/\(Q .ret (L2 [pL 6,(7,.c (ci (z2.2)))] [(.loc 6,(enc .xref (z2.1)))])))/\((((XRef.kind x):Int)==8)=false->(((((XRef.kind x):Int)==9)=true->(InR (((XRef.data x):Int)+(XRef.ptrs x)))/\(InR (i*(((XRef.data x):Int)+(XRef.ptrs x))))/\(InR (((XRef.at_ x):Int)+(i*(((XRef.data x):Int)+(XRef.ptrs x)))))/\(Q .ret (L2 [pL 6,pI 7 0] [(.loc 6,[ci 1,ci (XRef.s x),ci (((XRef.at_ x):Int)+(i*(((XRef.data x):Int)+(XRef.ptrs x)))),ci (XRef.data x),ci (XRef.ptrs x),ci 0,.int .u64 0])])))/\((((XRef.kind x):Int)==9)=false->((0:Int)<=(XRef.s x)/\(XRef.s x) < (l.length:Int))/\((0:Int)<=(XRef.at_ x)/\(XRef.at_ x)<=(y_2.length:Int))/\(InR (((XRef.kind x):Int) - 2))/\(ZdK (z3,(((XRef.kind x):Int) - 2),i,()))/\(Q .ret (L2 [pL 6,pI 7 0] [(.loc 6,[ci 10,ci 0,ci 0,ci 0,ci 0,ci 0,.int .u64 (YW z3 (((XRef.kind x):Int) - 2) i)])])))))))))))):
  A30 [] (L2 [(0,.agg (enc .xref x)),(1,.c (sU .words l .unk)),pI 2 i] []) Q:=
 Eq.mpr (by kernel_rfl) (h _ (JA _) _ rfl _ rfl)
def ZqN(x:XRef)(l:List (List Int))(i:Int):Prop:=AW (Z1 ZiV) Try.f30 Zpf [] (Zb (ZjW.can (x,l,i,())) []) (EQ Try.f30 (ZgU (x,l,i,())) [])
theorem Zou(c29:CT 29 Z18)(c27:CT 27 Z1M)(c69:CT 69 Z6W)(hb:∀ (x:XRef) (l:List (List Int)) (i:Int) (_:Unit),ZdT (x,l,i,())->ZqN x l i):CT 30 Z4U:=
 Z0 (l:=[(29,Z18),(27,Z1M),(69,Z6W)]) Z9 rfl (⟨c29,c27,c69,trivial⟩) Zpf Try.func30 rfl rfl 3 (fun _=> rfl) (by decide) (fun ⟨x,l,i,_⟩=> hb x l i ())
end
abbrev tR(a:Option Arena)(x:XRef × Int):V U:= .tup [(true,enc .ref (Y0 a x.1)),(false,[.int .i64 x.2])]
abbrev tX(x:XRef × Int):V U:= .tup [(true,enc .xref x.1),(false,[.int .i64 x.2])]
theorem ZbK{p:Ptr}(h:OkP p)(h0:0<=p.off):0<=p.off*(p.data+p.ptrs)/\p.off*(p.data+p.ptrs)<=70368744177664:=by
 have h1:=h.data
 have h2:=h.ptrs
 have h3:=h.off
 have:=XW (QP h3.2) (show p.data+p.ptrs<=131072 by omega) (by omega) (by decide:(0:Int)<=536870912)
 exact ⟨QE h0 (by omega),by omega⟩
theorem c64:Contract Try.prog cfg 64 Z6Z:=by
 refine Zo5 c62 c86 ?_
 intro r n _ hp
 obtain ⟨ha,hn,hz,hh⟩:=hp
 dsimp only at ha hn hz hh
 refine ZsF _ _ _ ?_
 rintro y hy
 dsimp only at hy
 (simp only [vcT,vcS])
 have g:=Zm.1 hh
 have hl:=(ZU ha r.segment).1
 have h1:ZQ (Z2 r.a) r.segment r.at_ 1=true:=Zm.2 ⟨g.1,g.2.1,g.2.2.1,by decide,by omega⟩
 have hw:=ZP ha r.segment r.at_
 rw [if_pos h1] at hy ⊢
 have ho:=Z0C hw.1 hw.2
 rw [<-hy] at ho
 have hd:=ho.data
 have hq:=ho.ptrs
 have hr:ZgP (r,n,())=tR r.a (Jw (Z2 r.a) r.segment r.at_ n):=rfl
 rw [hr]
 refine ⟨ha,hw,fun h=> by ((unfold InR;omega)),fun h=> by have:=ZbK ho (by omega);((unfold InR;omega)),fun h=> ?_,fun h=> ⟨by ((unfold InR;omega)),?_⟩⟩
 ·rw [show Jw (Z2 r.a) r.segment r.at_ n=(xz,8) by unfold Jw;rw [<-hy,if_pos (by omega)]];(repeat' (first | exact trivial | exact rfl | apply And.intro))
 ·rw [show Jw (Z2 r.a) r.segment r.at_ n=(⟨9,r.segment,r.at_+1,y.data,y.ptrs,y.off,0⟩,0) by unfold Jw;rw [<-hy,if_neg (by omega)]]
  rw [hz];(repeat' (first | exact trivial | exact rfl | apply And.intro))
theorem c26:Contract Try.prog cfg 26 Z1N:=by
 refine Zox c63 c64 ?_
 intro a s x _ ha
 simp only [Z7J] at ha
 refine Zt7 _ _ _ _ ?_
 rintro y1 h1 y2 h2
 dsimp only at h1 h2
 have hf:=Z0e ha s x
 have hp:=hf.p
 have hk:=hf.kind
 have hc:=hp.code
 have hcn:=hp.count
 have hr:Zdy (a,s,x,())=tR a (Zp (Z2 a) s x):=rfl
 have cut:∀ k d p c:Int,k≠0->Zp (Z2 a) s x=(⟨k,(Z5 (Z2 a) s x).1.segment,(Z5 (Z2 a) s x).1.at_,d,p,c,0⟩,0)->A26 [1,1,1,1,1] (Z2r a s x k d p c) (Zx cfg Try.f26.ntmps Try.f26.results.toList (Zdy (a,s,x,())) []):=by
  intro k d p c hk0 he
  refine ZkU _ _ _ _ _ _ _ _ ?_
  rw [hr,he,show tR a (⟨k,(Z5 (Z2 a) s x).1.segment,(Z5 (Z2 a) s x).1.at_,d,p,c,0⟩,0)= .tup [(true,enc .ref ⟨a,k,(Z5 (Z2 a) s x).1.segment,(Z5 (Z2 a) s x).1.at_,d,p,c,0⟩),(false,[.int .i64 0])] by
   simp only [tR,Y0];rw [if_neg hk0]]
  (repeat' (first | exact trivial | exact rfl | apply And.intro))
 (simp only [vcT,vcS])
 refine ⟨ha,fun h=> ?_,fun h=> ⟨fun k1=> ?_,fun k1=> ⟨fun k6=> ⟨by ((unfold InR;omega)),?_⟩,fun k6=> ⟨fun k7=> ?_,fun k7=> ⟨?_,?_⟩⟩⟩⟩⟩
 ·rw [hr,show Zp (Z2 a) s x=(xz,(Z5 (Z2 a) s x).2) by unfold Zp;rw [if_pos h]];(repeat' (first | exact trivial | exact rfl | apply And.intro))
 ·refine cut _ _ _ _ (by decide) ?_
  unfold Zp;rw [if_neg (by omega),if_pos k1]
 ·refine cut _ _ _ _ (by omega) ?_
  unfold Zp;rw [if_neg (by omega),if_neg k1,if_pos (by omega)]
 ·refine cut _ _ _ _ (by decide) ?_
  unfold Zp;rw [if_neg (by omega),if_neg k1,if_pos (by omega),k7];try rfl
 ·subst h1
  refine ⟨ha,hcn.1,rfl,?_⟩
  have:=hf.lie (by omega)
  rw [show ZF (Z5 (Z2 a) s x).1.p=(Z5 (Z2 a) s x).1.p.count+1 by unfold ZF;rw [if_neg k1,if_pos (by omega),if_pos (by omega)]] at this
  exact this
 ·subst h1 h2
  rw [hr,show Zp (Z2 a) s x=Jw (Z2 a) (Z5 (Z2 a) s x).1.segment (Z5 (Z2 a) s x).1.at_ (Z5 (Z2 a) s x).1.p.count by unfold Zp;rw [if_neg (by omega),if_neg k1,if_neg (by omega)]]
  (repeat' (first | exact trivial | exact rfl | apply And.intro))
theorem c21:Contract Try.prog cfg 21 Z1P:=by
 refine ZoC c26 ?_
 intro a _ ha
 refine Ztc _ _ ?_
 refine ⟨ha,?_⟩
 (repeat' (first | exact trivial | exact rfl | apply And.intro))
theorem c22:Contract Try.prog cfg 22 Z0a:=by
 refine ZoB ?_
 intro r _ _
 refine Ztb _ _ ?_
 (repeat' (first | exact trivial | exact rfl | apply And.intro))
theorem c59:Contract Try.prog cfg 59 Z08:=by
 refine Zoa ?_
 intro r _ _
 refine ZsK _ _ ?_
 (simp only [vcT,vcS])
 refine ⟨fun h=> Z7 rfl ?_,fun h=> ⟨fun h2=> Z7 rfl ?_,fun h2=> Z7 rfl ?_⟩⟩
 all_goals
  show _=Jh r
  unfold Jh
 ·rw [if_pos h]
 ·rw [if_neg h,if_pos h2]
 ·rw [if_neg h,if_neg h2]
theorem c23:Contract Try.prog cfg 23 Jm:=by
 refine ZoA ?_
 intro r _ _
 refine Zta _ _ ?_
 (simp only [vcT,vcS])
 refine ⟨fun h=> Z7 rfl ?_,fun h=> Z7 rfl ?_⟩
 all_goals
  show _=Zw r
  unfold Zw
 ·rw [if_pos h]
 ·rw [if_neg h]
theorem c68:Contract Try.prog cfg 68 Z6X:=by
 refine Zo1 ?_
 intro r _ _
 refine ZsB _ _ ?_
 (simp only [vcT,vcS])
 refine ⟨fun h=> ?_,fun h=> ?_⟩
 ·refine ZG (r':= .tup [(false,[.int .i64 0]),(false,[.int .i64 0])]) ?_ (by (repeat' (first | exact trivial | exact rfl | apply And.intro)))
  simp only [Zds];rw [if_neg h,if_neg h]
 ·refine ZG (r':= .tup [(false,[.int .i64 r.data]),(false,[.int .i64 r.kids])]) ?_ (by (repeat' (first | exact trivial | exact rfl | apply And.intro)))
  simp only [Zds];rw [if_pos h,if_pos h]
theorem Zc0{l:List (List Int)}{x:XRef}{i:Int}(h1:x.kind=1)(ha:0<=x.at_)(h0:0<=i)(hi:i < x.data):(Zg l x).getD i.toNat 0=ZA l x.s (x.at_+i):=by
 unfold Zg ZA
 rw [if_neg (by omega),if_pos h1,Q7,Q7,Qk (by omega),Qe,show (x.at_+i).toNat=x.at_.toNat+i.toNat by omega]
theorem ZbZ{l:List (List Int)}{x:XRef}(h:OkX l x):((Zg l x).length:Int)=if x.kind=1 then x.data else if x.kind=10 then 1 else 0:=by
 unfold Zg
 by_cases h1:x.kind=1
 ·have hh:=Zm.1 (h.one h1)
  have hd:=h.data
  have hp:=h.ptrs
  rw [if_neg (by omega),if_pos h1,if_pos h1]
  simp
  omega
 ·by_cases h10:x.kind=10
  ·rw [if_pos h10,if_neg h1,if_pos h10];try rfl
  ·rw [if_neg h10,if_neg h1,if_neg h1,if_neg h10];try rfl
theorem c25:Contract Try.prog cfg 25 Z7f:=by
 refine Zoy c59 c62 ?_
 intro r i _ hp
 obtain ⟨ha,hx⟩:=hp
 dsimp only at ha hx
 refine Zt8 _ _ _ ?_
 (simp only [vcT,vcS])
 have hlen:=ZbZ hx
 have hlr:Jh r=((Zg (Z2 r.a) (unX r)).length:Int):=by rw [hlen];try rfl
 have hat:=hx.at_
 have hdt:=hx.data
 have hpt:=hx.ptrs
 simp only [unX] at hat hdt hpt
 refine ⟨fun _=> trivial,fun h=> Z7 rfl ?_,fun h=> ⟨fun k=> Z7 rfl ?_,fun k=> ?_⟩⟩
 ·show (0:Int)=Z1D r i
  change i < 0\/Jh r<=i at h
  unfold Z1D
  by_cases h0:i < 0
  ·rw [if_pos h0]
  ·rw [if_neg h0,Q7,Xj (by omega)];try rfl
 ·show r.number=Z1D r i
  change ¬i < 0/\¬Jh r<=i at h
  have h1:Jh r=1:=by unfold Jh;rw [if_neg (by omega),if_pos k]
  unfold Z1D Zg
  rw [if_neg h.1,if_pos (show (unX r).kind=10 from k),show i=0 by omega]
  try rfl
 ·change ¬i < 0/\¬Jh r<=i at h
  have k1:r.kind=1:=by
   cases Decidable.em (r.kind=1) with
   | inl e=> exact e
   | inr e=> exfalso;have:Jh r=0:=(by unfold Jh;rw [if_neg e,if_neg k]);omega
  have hl:Jh r=r.data:=by unfold Jh;rw [if_pos k1]
  have hh:=Zm.1 (hx.one k1)
  simp only [unX] at hh
  refine ⟨by ((unfold InR;omega)),ha,Z7 rfl ?_⟩
  show _=Z1D r i
  unfold Z1D
  rw [if_neg h.1,Zc0 (x:=unX r) k1 hh.2.2.1 (by omega) (by show i < r.data;omega),if_pos (Zm.2 ⟨hh.1,hh.2.1,by omega,by decide,by omega⟩)]
  try rfl
theorem Zkf{c:Int}(h0:0<=c)(h1:c<=5):wd c=Z0o c:=by
 have:c=0\/c=1\/c=2\/c=3\/c=4\/c=5:=by omega
 rcases this with rfl | rfl | rfl | rfl | rfl | rfl <;> decide
theorem Zj5{g:List Int}{a c i n w:Int}(hw:wd c=w)(hw':w=1\/w=8\/w=16\/w=32\/w=64)(ha:0<=a)(h0:0<=i)(hi:i < n)(hn:n < 536870912)(hl:a+(n*w+63) / 64<=(g.length:Int)):
  a+i / (64 / w) < (g.length:Int)/\0<=i / (64 / w)/\i / (64 / w)<=i/\YW [g.getD (a+i / (64 / w)).toNat 0] c (i % (64 / w))=YW (g.drop a.toNat) c i:=by
 have key:i*w / 64=i / (64 / w)/\i % (64 / w)*w / 64=0/\i % (64 / w)*w % 64=i*w % 64/\a+i / (64 / w) < (g.length:Int)/\0<=i / (64 / w)/\i / (64 / w)<=i/\0<=i % (64 / w)/\i % (64 / w)<=64:=by
  rcases hw' with e | e | e | e | e <;> subst e
  ·exact ⟨by omega,by omega,by omega,by omega,by omega,by omega,by omega,by omega⟩
  ·exact ⟨by omega,by omega,by omega,by omega,by omega,by omega,by omega,by omega⟩
  ·exact ⟨by omega,by omega,by omega,by omega,by omega,by omega,by omega,by omega⟩
  ·exact ⟨by omega,by omega,by omega,by omega,by omega,by omega,by omega,by omega⟩
  ·exact ⟨by omega,by omega,by omega,by omega,by omega,by omega,by omega,by omega⟩
 obtain ⟨e1,e2,e3,e4,e5,e6,e7,e8⟩:=key
 refine ⟨e4,e5,e6,?_⟩
 have hwp:1<=wd c:=by omega
 rw [Z6s hwp e7 (by omega),Z6s hwp h0 (by omega),hw,e1,e2,e3]
 have:Z04 [g.getD (a+i / (64 / w)).toNat 0] 0=Z04 (g.drop a.toNat) (i / (64 / w)):=by
  unfold Z04
  rw [if_neg (by simp),if_neg (by simp;omega)]
  rw [Q7 (l:=g.drop _),Qe,<-Q7,show a.toNat+(i / (64 / w)).toNat=(a+i / (64 / w)).toNat by omega]
  try rfl
 rw [this]
theorem c61:Contract Try.prog cfg 61 Z71:=by
 refine Zo8 c83 c62 c84 ?_
 intro r i _ hp
 obtain ⟨⟨ha,hx⟩,hk0,hk1,hi0,hi1⟩:=hp
 dsimp only at ha hx hk0 hk1 hi0 hi1
 refine ZsI _ _ _ ?_
 rintro y hy
 dsimp only at hy
 (simp only [vcT,vcS])
 have hc:=hx.count
 have hat:=hx.at_
 have hh:=Zm.1 (hx.list hk0 (by show r.kind<=8;omega))
 simp only [unX] at hc hat hh
 have hwb:=Zkf (c:=r.kind - 2) (by omega) (by omega)
 rw [<-hwb] at hh
 have hwc:=Ji (r.kind - 2)
 have hb0:0<=Z0o (r.kind - 2):=by unfold Z0o;(repeat' split) <;> omega
 rw [if_neg (show ¬wd (r.kind - 2) < 0 by omega)] at hy ⊢
 have hr:ZgR (r,i,())= .c (.int .u64 (YW ((Yk (Z2 r.a) r.segment).drop r.at_.toNat) (r.kind - 2) i)):=rfl
 refine ⟨by ((unfold InR;omega)),trivial,fun h=> Z7 rfl ?_,fun h=> ?_⟩
 ·show (0:Int)=YW _ (r.kind - 2) i
  unfold YW
  rw [if_pos (by omega)]
 ·generalize hwe:wd (r.kind - 2)=w at*
  have hw5:w=1\/w=8\/w=16\/w=32\/w=64:=by omega
  obtain ⟨q1,q2,q3,q4⟩:=Zj5 (g:=Yk (Z2 r.a) r.segment) (i:=i) hwe hw5 hat.1 hi0 hi1 hc.2 hh.2.2.2.2
  have hy':IntKind.wrap .i64 y=64 / w/\0 < 64 / w/\64 / w<=64:=by
   rw [hy]
   rcases hw5 with e | e | e | e | e <;> subst e <;> decide
  rw [hy'.1,Ql hi0,Qw hi0,Ya (n:=i / (64 / w)) (by omega) (by omega)]
  have h1:ZQ (Z2 r.a) r.segment (r.at_+i / (64 / w)) 1=true:=Zm.2 ⟨hh.1,hh.2.1,by omega,by decide,by omega⟩
  rw [if_pos h1]
  refine ⟨h,by omega,by ((unfold InR;omega)),ha,by omega,?_,Z7 rfl q4⟩
  intro z hz
  rw [Qp.1 hz]
  exact ZP ha _ _
theorem c24:Contract Try.prog cfg 24 Z1O:=by
 refine Zoz c23 c26 c61 ?_
 intro r i _ hp
 obtain ⟨ha,hx⟩:=hp
 dsimp only at ha hx
 refine Zt9 _ _ _ ?_
 rintro y1 h1 y2 h2 y3 h3
 dsimp only at h1 h2 h3
 replace h1:=h1.symm
 subst h1
 (simp only [vcT,vcS])
 have hr:ZgW (r,i,())=tR r.a (Zc (Z2 r.a) (unX r) i):=rfl
 rw [hr]
 have hk:=hx.kind
 have hat:=hx.at_
 have hd:=hx.data
 have hp:=hx.ptrs
 have hcn:=hx.count
 have hz:=hx.zero
 simp only [unX] at hk hat hd hp hcn hz
 have hkr:Zf (unX r)=Zw r:=rfl
 have hb:¬Zw r<=i->i < 536870912:=fun h=> by unfold Zw at h;split at h <;> omega
 refine ⟨fun _=> trivial,fun h=> ?_,fun h=> ⟨fun k1=> ⟨by ((unfold InR;omega)),by have:=hb h.2;((unfold InR;omega)),ha,?_⟩,fun k1=> ⟨fun k8=> ⟨by have:=hb h.2;((unfold InR;omega)),ha,?_⟩,fun k8=> ⟨fun k9=> ?_,fun k9=> ⟨⟨⟨ha,hx⟩,?_⟩,?_⟩⟩⟩⟩⟩
 ·rw [show Zc (Z2 r.a) (unX r) i=(xz,0) by unfold Zc;rw [if_pos (by rw [hkr];exact h)]];(repeat' (first | exact trivial | exact rfl | apply And.intro))
 ·subst h3
  rw [show Zc (Z2 r.a) (unX r) i=Zp (Z2 r.a) r.segment (r.at_+r.data+i) by unfold Zc;rw [if_neg (by rw [hkr];omega),if_pos (show (unX r).kind=1 from k1)];rfl];(repeat' (first | exact trivial | exact rfl | apply And.intro))
 ·subst h2
  rw [show Zc (Z2 r.a) (unX r) i=Zp (Z2 r.a) r.segment (r.at_+i) by unfold Zc;rw [if_neg (by rw [hkr];omega),if_neg (show ¬(unX r).kind=1 from k1),if_pos (show (unX r).kind=8 from k8)];rfl];(repeat' (first | exact trivial | exact rfl | apply And.intro))
 ·have hh:=Zm.1 (hx.nine k9)
  have hic:i < r.count:=by have:=h.2;unfold Zw at this;rw [if_neg k1] at this;omega
  have hl:=(ZU ha r.segment).1
  simp only [unX] at hh
  have e1:0<=i*(r.data+r.kids):=QE (by omega) (by omega)
  have e2:i*(r.data+r.kids)<=r.count*(r.data+r.kids):=QY (by omega) (by omega)
  refine ⟨by ((unfold InR;omega)),by ((unfold InR;omega)),by ((unfold InR;omega)),?_⟩
  rw [show Zc (Z2 r.a) (unX r) i=(⟨1,r.segment,r.at_+i*(r.data+r.kids),r.data,r.kids,0,0⟩,0) by
   unfold Zc;rw [if_neg (by rw [hkr];omega),if_neg (show ¬(unX r).kind=1 from k1),if_neg (show ¬(unX r).kind=8 from k8),if_pos (show (unX r).kind=9 from k9)];rfl]
  (repeat' (first | exact trivial | exact rfl | apply And.intro))
 ·have hic:i < r.count:=by have:=h.2;unfold Zw at this;rw [if_neg k1] at this;omega
  refine ⟨by show 2<=r.kind;omega,by show r.kind<=7;omega,by show 0<=i;omega,hic⟩
 ·rw [show Zc (Z2 r.a) (unX r) i=(⟨10,0,0,0,0,0,YW ((Yk (Z2 r.a) r.segment).drop r.at_.toNat) (r.kind - 2) i⟩,0) by
   unfold Zc;rw [if_neg (by rw [hkr];omega),if_neg (show ¬(unX r).kind=1 from k1),if_neg (show ¬(unX r).kind=8 from k8),if_neg (show ¬(unX r).kind=9 from k9)];rfl]
  (repeat' (first | exact trivial | exact rfl | apply And.intro))
theorem c27:Contract Try.prog cfg 27 Z1M:=by
 refine Zow c65 c66 ?_
 intro l s x _ hl
 simp only [Z92] at hl
 refine Zt6 _ _ _ _ ?_
 rintro y1 h1 y2 h2
 dsimp only at h1 h2
 have hf:=Z0e hl s x
 have hp:=hf.p
 have hk:=hf.kind
 have hc:=hp.code
 have hcn:=hp.count
 have hr:ZgV (l,s,x,())=tX (Zp l s x):=rfl
 rw [hr]
 (simp only [vcT,vcS])
 refine ⟨hl,fun h=> ?_,fun h=> ⟨fun k1=> ?_,fun k1=> ⟨fun k7=> ⟨by ((unfold InR;omega)),?_⟩,fun k7=> ?_⟩⟩⟩
 ·rw [show Zp l s x=(xz,(Z5 l s x).2) by unfold Zp;rw [if_pos h]];(repeat' (first | exact trivial | exact rfl | apply And.intro))
 ·rw [show Zp l s x=(⟨1,(Z5 l s x).1.segment,(Z5 l s x).1.at_,(Z5 l s x).1.p.data,(Z5 l s x).1.p.ptrs,0,0⟩,0) by unfold Zp;rw [if_neg (by omega),if_pos k1]];(repeat' (first | exact trivial | exact rfl | apply And.intro))
 ·rw [show Zp l s x=(⟨2+(Z5 l s x).1.p.code,(Z5 l s x).1.segment,(Z5 l s x).1.at_,0,0,(Z5 l s x).1.p.count,0⟩,0) by unfold Zp;rw [if_neg (by omega),if_neg k1,if_pos k7]];(repeat' (first | exact trivial | exact rfl | apply And.intro))
 ·have g:=hf.lie h.2
  rw [show ZF (Z5 l s x).1.p=(Z5 l s x).1.p.count+1 by unfold ZF;rw [if_neg k1,if_pos (by omega),if_pos (by omega)]] at g
  have g':=Zm.1 g
  have hlen:=(ZU hl (Z5 l s x).1.segment).1
  rw [Yn g'.1] at g' hlen
  have hy2:y2=ZA l (Z5 l s x).1.segment (Z5 l s x).1.at_:=by rw [h2,h1];unfold ZA;rw [Yn g'.1]
  have hw:=ZP hl (Z5 l s x).1.segment (Z5 l s x).1.at_
  have ho:=Z0C hw.1 hw.2
  rw [<-hy2] at hw ho
  have hd:=ho.data
  have hq:=ho.ptrs
  rw [show Zp l s x=Jw l (Z5 l s x).1.segment (Z5 l s x).1.at_ (Z5 l s x).1.p.count by unfold Zp;rw [if_neg (by omega),if_neg k1,if_neg k7]]
  refine ⟨by omega,by rw [h1];omega,hw,fun _=> by ((unfold InR;omega)),fun h=> by have:=ZbK ho (by omega);((unfold InR;omega)),fun q=> ?_,fun q=> ⟨by ((unfold InR;omega)),?_⟩⟩
  ·rw [show Jw l (Z5 l s x).1.segment (Z5 l s x).1.at_ (Z5 l s x).1.p.count=(xz,8) by unfold Jw;rw [<-hy2,if_pos (by omega)]];(repeat' (first | exact trivial | exact rfl | apply And.intro))
  ·rw [show Jw l (Z5 l s x).1.segment (Z5 l s x).1.at_ (Z5 l s x).1.p.count=(⟨9,(Z5 l s x).1.segment,(Z5 l s x).1.at_+1,(Z4 y2).data,(Z4 y2).ptrs,(Z4 y2).off,0⟩,0) by unfold Jw;rw [<-hy2,if_neg (by omega)]];(repeat' (first | exact trivial | exact rfl | apply And.intro))
theorem c29:Contract Try.prog cfg 29 Z18:=by
 refine Zov ?_
 intro x _ _
 refine Zt5 _ _ ?_
 (simp only [vcT,vcS])
 refine ⟨fun h=> Z7 rfl ?_,fun h=> Z7 rfl ?_⟩
 all_goals
  show _=Zf x
  unfold Zf
 ·rw [if_pos h]
 ·rw [if_neg h]
theorem c67:Contract Try.prog cfg 67 Z4T:=by
 refine Zo2 ?_
 intro x l _ hp
 obtain ⟨hl,hx⟩:=hp
 dsimp only at hl hx
 refine ZsC _ _ _ ?_
 (simp only [vcT,vcS])
 have hr:ZgN (x,l,())= .c (sl .u64 (Zg l x)):=rfl
 rw [hr]
 have hd:=hx.data
 have hp:=hx.ptrs
 refine ⟨fun h=> ?_,fun h=> ⟨fun k=> ?_,fun k=> ?_⟩⟩
 ·rw [show Zg l x=[x.n] by unfold Zg;rw [if_pos h]];(repeat' (first | exact trivial | exact rfl | apply And.intro))
 ·rw [show Zg l x=[] by unfold Zg;rw [if_neg h,if_neg k]];(repeat' (first | exact trivial | exact rfl | apply And.intro))
 ·have hh:=Zm.1 (hx.one k)
  have hlen:=(ZU hl x.s).1
  rw [Yn hh.1] at hh hlen
  refine ⟨by omega,by ((unfold InR;omega)),by omega,by simp;omega,?_⟩
  rw [show Zg l x=[]++List.drop x.at_.toNat (List.take (x.at_+x.data).toNat (l.getD x.s.toNat [])) by
   unfold Zg
   rw [if_neg h,if_pos k,Xh,List.drop_take,Yn hh.1,show (x.at_+x.data).toNat - x.at_.toNat=x.data.toNat by omega]]
  (repeat' (first | exact trivial | exact rfl | apply And.intro))
theorem c30:Contract Try.prog cfg 30 Z4U:=by
 refine Zou c29 c27 c69 ?_
 intro x l i _ hp
 obtain ⟨hl,hx⟩:=hp
 dsimp only at hl hx
 refine Zt4 _ _ _ _ ?_
 rintro y1 h1 y2 h2 y3 h3
 dsimp only at h1 h2 h3
 replace h1:=h1.symm
 subst h1
 (simp only [vcT,vcS])
 have hr:ZgU (x,l,i,())=tX (Zc l x i):=rfl
 rw [hr]
 have hk:=hx.kind
 have hat:=hx.at_
 have hd:=hx.data
 have hp:=hx.ptrs
 have hcn:=hx.count
 have hz:=hx.zero
 have hb:¬Zf x<=i->i < 536870912:=fun h=> by unfold Zf at h;split at h <;> omega
 refine ⟨fun _=> trivial,fun h=> ?_,fun h=> ⟨fun k1=> ⟨by ((unfold InR;omega)),by have:=hb h.2;((unfold InR;omega)),hl,?_⟩,fun k1=> ⟨fun k8=> ⟨by have:=hb h.2;((unfold InR;omega)),hl,?_⟩,fun k8=> ⟨fun k9=> ?_,fun k9=> ?_⟩⟩⟩⟩
 ·rw [show Zc l x i=(xz,0) by unfold Zc;rw [if_pos h]];(repeat' (first | exact trivial | exact rfl | apply And.intro))
 ·subst h3
  rw [show Zc l x i=Zp l x.s (x.at_+x.data+i) by unfold Zc;rw [if_neg (by omega),if_pos k1]];(repeat' (first | exact trivial | exact rfl | apply And.intro))
 ·rw [show Zc l x i=Zp l x.s (x.at_+i) by unfold Zc;rw [if_neg (by omega),if_neg k1,if_pos k8]];(repeat' (first | exact trivial | exact rfl | apply And.intro))
 ·have hh:=Zm.1 (hx.nine k9)
  have hic:i < x.count:=by have:=h.2;unfold Zf at this;rw [if_neg k1] at this;omega
  have hlen:=(ZU hl x.s).1
  have e1:0<=i*(x.data+x.ptrs):=QE (by omega) (by omega)
  have e2:i*(x.data+x.ptrs)<=x.count*(x.data+x.ptrs):=QY (by omega) (by omega)
  refine ⟨by ((unfold InR;omega)),by ((unfold InR;omega)),by ((unfold InR;omega)),?_⟩
  rw [show Zc l x i=(⟨1,x.s,x.at_+i*(x.data+x.ptrs),x.data,x.ptrs,0,0⟩,0) by unfold Zc;rw [if_neg (by omega),if_neg k1,if_neg k8,if_pos k9]]
  (repeat' (first | exact trivial | exact rfl | apply And.intro))
 ·have hic:i < x.count:=by have:=h.2;unfold Zf at this;rw [if_neg k1] at this;omega
  have hh:=Zm.1 (hx.list (by omega) (by omega))
  have hb0:0<=(x.count*Z0o (x.kind - 2)+63) / 64:=hh.2.2.2.1
  have hy2:y2=Yk l x.s:=by rw [Yn hh.1];exact h2
  have hW:=(ZU hl x.s).2
  rw [hy2]
  refine ⟨by omega,by omega,by ((unfold InR;omega)),fun z hz=> hW z (List.mem_of_mem_drop hz),?_⟩
  rw [show Zc l x i=(⟨10,0,0,0,0,0,YW ((Yk l x.s).drop x.at_.toNat) (x.kind - 2) i⟩,0) by unfold Zc;rw [if_neg (by omega),if_neg k1,if_neg k8,if_neg k9]]
  (repeat' (first | exact trivial | exact rfl | apply And.intro))
noncomputable section
def ZjS:ArgL (List Int × List Int × Unit):=(.cons (aSl .u64) (.cons (aSl .u64) .nil))
def Z5K(a:List Int × List Int × Unit):Prop:=a.1.length<=17592186044416
def ZmZ(a:List Int × List Int × Unit):V U:= .c (.bool (decide (a.1=a.2.1)))
def Z09:Fs U:=fs ZjS (fun a=> [Z5K a]) ZmZ
def ZlP:Z6 U:=lvl [([0,1],[]),([0,1,10],[]),([4],[]),([0,1,5],[]),([0,1,5,14],[]),([0,1,5],[]),([0,1,5,25],[]),([4],[]),([4],[])]
def Z4y(a b:List Int)(x5:Int):LSt U:=(L2 [(0,.c (sU .u64 a .unk)),(1,.c (sU .u64 b .unk)),pI 5 x5] [])
abbrev A37(p:List Nat):=AW (Z1 ZiK) Try.f37 ZlP p
abbrev S37(p:List Nat):=SW (Z1 ZiK) Try.f37 ZlP p
theorem Zt0(a b:List Int)(Q:QT)(h:let z0:=((a.length:Int):Int) !=(b.length:Int);((z0=true->(Q .ret (L2 [pB 4 false] [])))/\(z0=false->(Zk (A37 [1,1,0,1,0,0]) (Z4y a b 0) (xB 0 (S37 [1,1,1] Q)))))):
  A37 [] (L2 [(0,.c (sU .u64 a .unk)),(1,.c (sU .u64 b .unk))] []) Q:=
 Eq.mpr (by kernel_rfl) h
theorem ZkT(a b:List Int)(x5:Int)(N0:NT)(Q:QT)(h:let z1:=decide (x5 < (a.length:Int));let z0:=((a.getD x5.toNat (0:Int)):Int) !=(b.getD x5.toNat (0:Int));((z1=true->((0:Int)<=x5/\x5 < (a.length:Int))/\((0:Int)<=x5/\x5 < (b.length:Int))/\((z0=true->(Q .ret (L2 [pB 4 false] [])))/\(z0=false->(InR (x5+1))/\(N0 (Z4y a b (x5+1))))))/\(z1=false->(Q .ret (L2 [pB 4 true] []))))):
  A37 [1,1,0,1,0,0] (Z4y a b x5) (xT N0 (xB 0 (S37 [1,1,1] Q))):=
 Eq.mpr (by kernel_rfl) h
def ZqJ(a b:List Int):Prop:=AW (Z1 ZiK) Try.f37 ZlP [] (Zb (ZjS.can (a,b,())) []) (EQ Try.f37 (ZmZ (a,b,())) [])
theorem Zoq(hb:∀ (a:List Int) (b:List Int) (_:Unit),Z5K (a,b,())->ZqJ a b):CT 37 Z09:=
 Z0 (l:=[]) Z9 rfl trivial ZlP Try.func37 rfl rfl 2 (fun _=> rfl) (by decide) (fun ⟨a,b,_⟩=> hb a b ())
end
theorem ZcR{α:Type}{a b:List α}(d:α)(hl:a.length=b.length)(h:∀ j:Nat,j < a.length->a.getD j d=b.getD j d):a=b:=by
 refine List.ext_getElem hl fun j h1 h2=> ?_
 have:=h j h1
 rwa [Q7,Q7,Q0 h1,Q0 h2] at this
theorem c37:Contract Try.prog cfg 37 Z09:=by
 refine Zoq ?_
 intro a b _ hp
 simp only [Z5K] at hp
 refine Zt0 _ _ _ ?_
 (simp only [vcT,vcS])
 refine ⟨fun h=> Zj rfl (decide_eq_false fun e=> h (by rw [show a=b from e])).symm,fun h=> ?_⟩
 refine Za (ι:=Int) (fun i=> Z4y a b i) (fun i=> 0<=i/\i<=a.length/\∀ j:Nat,j < i.toNat->a.getD j 0=b.getD j 0) (fun i=> (a.length - i).toNat) 0 rfl ⟨by simp,by omega,fun j hj=> by simp at hj⟩ ?_
 rintro i ⟨h1,h2,h3⟩
 refine ZkT _ _ _ _ _ ?_
 (simp only [vcT,vcS])
 refine ⟨fun hi=> ⟨by omega,by omega,fun hn=> Zj rfl ?_,fun he=> ⟨by ((unfold InR;omega)),i+1,rfl,⟨by omega,by omega,fun j hj=> ?_⟩,by omega⟩⟩,fun hi=> Zj rfl ?_⟩
 ·exact (decide_eq_false fun e=> hn (by rw [show a=b from e])).symm
 ·by_cases e:j < i.toNat
  ·exact h3 j e
  ·rw [show j=i.toNat by omega];exact he
 ·exact (decide_eq_true (ZcR 0 (by omega) fun j hj=> h3 j (by omega))).symm
end Go.AM.Ythokdjgpdonhgaa
namespace Go.AM.Ythokdjgpdonhgaa
open Go.AM Go.Proofs Go.Proofs.Ythokdjgpdonhgaa Go.ChangeShapes Go.WideShapes Go.RowKit
theorem own:ownKnob Try.prog.godebug=none:=by kernel_rfl
theorem ZlS:laidOutB Try.prog=true:=by kernel_rfl
theorem Zff:TreeTypes cfg:=⟨rfl,rfl,⟨_,rfl⟩,⟨_,rfl⟩,⟨_,rfl,rfl⟩,⟨_,_,rfl,rfl⟩,⟨_,_,rfl,rfl,rfl⟩,⟨_,_,rfl,rfl,rfl⟩⟩
end Go.AM.Ythokdjgpdonhgaa
namespace Go.AM.Ythokdjgpdonhgaa
open Go.AM Go.Proofs Go.Proofs.Ythokdjgpdonhgaa Go.ChangeShapes Go.WideShapes Go.RowKit
theorem Zfs{H:Type}{henc:TypeId × Value->H}{w:World}{n:Nat}{cs:List Value}(h:Rdd henc Try.prog w n (cfg.elT .limits) cs):∃ e:Limits,RelS cfg w.cell? cs (cfg.enc .limits e)/\True:=by
 obtain ⟨m,rfl,hl,r0⟩:=Za3 Z9 (t:=cfg.elT .limits) (i:=0) (off:=0) (ft:=3) (ag:=false) (zs:=[.int .i64 0]) rfl rfl h
 obtain ⟨m',e',_,r1⟩:=Za3 Z9 (t:=cfg.elT .limits) (i:=1) (off:=1) (ft:=3) (ag:=false) (zs:=[.int .i64 0]) rfl rfl h
 cases e'
 obtain ⟨m',e',_,r2⟩:=Za3 Z9 (t:=cfg.elT .limits) (i:=2) (off:=2) (ft:=3) (ag:=false) (zs:=[.int .i64 0]) rfl rfl h
 cases e'
 obtain ⟨m',e',_,r3⟩:=Za3 Z9 (t:=cfg.elT .limits) (i:=3) (off:=3) (ft:=3) (ag:=false) (zs:=[.int .i64 0]) rfl rfl h
 cases e'
 have hl4:cs.length=4:=by rw [hl,Z62 Z9 (t:=cfg.elT .limits) (ag:=true) (zs:=[.int .i64 0,.int .i64 0,.int .i64 0,.int .i64 0]) rfl];try rfl
 obtain ⟨a,a1,_⟩:=Z7z Z9 (k:= .i64) (n0:=0) rfl r0
 obtain ⟨b,b1,_⟩:=Z7z Z9 (k:= .i64) (n0:=0) rfl r1
 obtain ⟨c,c1,_⟩:=Z7z Z9 (k:= .i64) (n0:=0) rfl r2
 obtain ⟨d,d1,_⟩:=Z7z Z9 (k:= .i64) (n0:=0) rfl r3
 exact ⟨⟨a,b,c,d⟩,a1.glue rfl (by simp;omega) (b1.glue rfl (by simp;omega) (c1.glue rfl (by simp;omega) (d1.glue rfl (by simp;omega) (RelS.done (n:=4) hl4)))),trivial⟩
theorem Zg9{H:Type}{henc:TypeId × Value->H}:Zkd henc Try.prog cfg (aEl .limits) 60 (fun _=> True):=Zm6 Z9 rfl ⟨_,_,rfl⟩ (fun _ n cs h=> Zfs h)
end Go.AM.Ythokdjgpdonhgaa
namespace Go.AM.Ythokdjgpdonhgaa
open Go.AM Go.Proofs Go.Proofs.Ythokdjgpdonhgaa Go.ChangeShapes Go.WideShapes Go.RowKit
theorem Zm4{H:Type}{henc:TypeId × Value->H}:Zkd henc Try.prog cfg (aSl .u64) 22 (fun l=> l.length*cfg.bytes .u64<=reachBytes/\∀ e∈l,0<=e/\e < 18446744073709551616):=
 Zm5 Z9 rfl (fun _ n cs h=> Znu Z9 Zff h)
end Go.AM.Ythokdjgpdonhgaa
namespace Go.AM.Ythokdjgpdonhgaa
open Go.AM Go.Proofs
def ZK(c n:Int):Int:=if wd c < 1\/n < 0\/1099511627776 < n then 0 else (n*wd c+63) / 64
def Z6b(c:Int)(l:List Int)(i n:Int):List Int:=
 if wd c < 1 then l else l.set (i*wd c / 64).toNat (l.getD (i*wd c / 64).toNat 0+n*2 ^ (i*wd c % 64).toNat)
def Z1x(c:Int):List Int->Int->List Int->List Int
 | l,_,[]=> l
 | l,i,n ::r=> Z1x c (Z6b c l i n) (i+1) r
def Z2T(c:Int)(ns:List Int):List Int:=Z1x c (List.replicate (ZK c ns.length).toNat 0) 0 ns
def Jf(c:Int)(ns:List Int):Bool:=decide (0<=wd c) && ns.all (J6 c)
def Z3W(c:Int)(ns:List Int):List Int:=if Jf c ns then Z2T c ns else []
theorem Z3X(c:Int):∀ (a b l:List Int) (i:Int),Z1x c l i (a++b)=Z1x c (Z1x c l i a) (i+a.length) b
 | [],b,l,i=> by simp [Z1x]
 | n ::r,b,l,i=> by
  simp only [QN,Z1x]
  rw [Z3X c r b _ (i+1)]
  congr 1
  simp
  omega
theorem Zhh(c:Int)(l:List Int)(i n:Int):(Z6b c l i n).length=l.length:=by
 unfold Z6b
 split <;> simp
theorem Z8Y(c:Int):∀ (a l:List Int) (i:Int),(Z1x c l i a).length=l.length
 | [],l,i=> rfl
 | n ::r,l,i=> by rw [Z1x,Z8Y c r,Zhh]
def Z1C(c:Int)(ns:List Int)(i:Int):List Int:=Z1x c (List.replicate (ZK c ns.length).toNat 0) 0 (ns.take i.toNat)
theorem Z52(c:Int)(ns:List Int):Z1C c ns 0=List.replicate (ZK c ns.length).toNat 0:=by simp [Z1C,Z1x]
theorem Z53(c:Int)(ns:List Int){i:Int}(h0:0<=i)(h:i < ns.length):Z1C c ns (i+1)=Z6b c (Z1C c ns i) i (ns.getD i.toNat 0):=by
 unfold Z1C
 have e:ns.take (i+1).toNat=ns.take i.toNat++[ns.getD i.toNat 0]:=by
  rw [show (i+1).toNat=i.toNat+1 by omega,Q7,Q0 (show i.toNat < ns.length by omega),QL]
  exact (XC (by omega)).symm
 rw [e,Z3X]
 simp only [Z1x,Qa]
 congr 1
 omega
theorem Z7E(c:Int)(ns:List Int):Z1C c ns ns.length=Z2T c ns:=by simp [Z1C,Z2T]
theorem Z1Z(c:Int)(ns:List Int)(i:Int):(Z1C c ns i).length=(ZK c ns.length).toNat:=by simp [Z1C,Z8Y]
theorem Zdm{c n i:Int}(hw:1<=wd c)(h0:0<=i)(h1:i < n)(h2:n<=1099511627776):i*wd c / 64 < ZK c n/\0<=i*wd c / 64:=by
 unfold ZK
 rw [if_neg (by omega)]
 rcases Z17 c with e | e | e | e | e | e
 ·omega
 all_goals (rw [e];omega)
def Z6z(c i:Int)(q:Nat):Nat:=min 64 (i*wd c - 64*q).toNat
def Zk9(c:Int)(l:List Int)(i:Int):Prop:=∀ q:Nat,0<=l.getD q 0/\l.getD q 0 < 2 ^ Z6z c i q
theorem Z9G{c i:Int}(hw:1<=wd c)(h0:0<=i)(h2:i<=1099511627776):Z6z c i (i*wd c / 64).toNat=(i*wd c % 64).toNat/\Z6z c (i+1) (i*wd c / 64).toNat=(i*wd c % 64).toNat+(wd c).toNat:=by
 unfold Z6z
 rcases Z17 c with e | e | e | e | e | e
 ·omega
 all_goals (rw [e];constructor <;> omega)
theorem Zfa(c i:Int)(q:Nat)(hw:1<=wd c):Z6z c i q<=Z6z c (i+1) q:=by
 unfold Z6z
 have:i*wd c<=(i+1)*wd c:=by rw [Kc];omega
 omega
theorem Z1g{a b:Nat}(h:a<=b):(2:Int) ^ a<=2 ^ b:=by
 have e:∀ k:Nat,(2:Int) ^ k=((2 ^ k:Nat):Int):=fun k=> by simp
 rw [e,e]
 exact Int.ofNat_le.2 (Xk (by decide) h)
theorem Za4{x n:Int}{a w:Nat}(hx:0<=x)(hx':x < 2 ^ a)(hn:0<=n)(hn':n < 2 ^ w):0<=x+n*2 ^ a/\x+n*2 ^ a < 2 ^ (a+w)/\0<=n*2 ^ a:=by
 have hp:=Y3 a
 have h1:0<=n*2 ^ a:=QE hn (QP hp)
 have h2:(n+1)*2 ^ a<=2 ^ w*2 ^ a:=QY (by omega) (QP hp)
 rw [Kc,Int.one_mul] at h2
 rw [Int.pow_add,Xo (2 ^ a)]
 omega
theorem Zav{c n:Int}(h:J6 c n=true):0<=wd c/\n < 2 ^ (wd c).toNat:=by
 unfold J6 at h
 exact of_decide_eq_true h
theorem Zfw{c:Int}{l:List Int}{i n:Int}(hw:1<=wd c)(h0:0<=i)(h2:i<=1099511627776)(hn:0<=n)(hf:J6 c n=true)(h:Zk9 c l i):Zk9 c (Z6b c l i n) (i+1):=by
 intro q
 unfold Z6b
 rw [if_neg (by omega)]
 have hu:=Z9G hw h0 h2
 rw [Q7,K3]
 by_cases hq:(i*wd c / 64).toNat=q
 ·subst hq
  rw [if_pos rfl]
  have hq:=h (i*wd c / 64).toNat
  rw [hu.1] at hq
  have:=Za4 hq.1 hq.2 hn (Zav hf).2
  by_cases hl:(i*wd c / 64).toNat < l.length
  ·rw [if_pos hl,hu.2]
   simp only [QL]
   omega
  ·rw [if_neg hl]
   simp only [Option.getD_none]
   exact ⟨by decide,Y3 _⟩
 ·rw [if_neg hq,<-Q7]
  have hm:=Z1g (Zfa c i q hw)
  have:=h q
  omega
theorem Zfv(c:Int)(k:Nat):Zk9 c (List.replicate k 0) 0:=by
 intro q
 have:(List.replicate k (0:Int)).getD q 0=0:=by
  rw [Q7,List.getElem?_replicate]
  split <;> rfl
 rw [this]
 exact ⟨by decide,Y3 _⟩
theorem ZfX{c:Int}{ns:List Int}(h:Jf c ns=true){i:Nat}(hi:i < ns.length):J6 c (ns.getD i 0)=true:=by
 unfold Jf at h
 rw [Q2,Qf] at h
 rw [Q7,Q0 hi]
 exact h.2 _ (Xd hi)
theorem Zhi{c:Int}{ns:List Int}(hw:1<=wd c)(hn:okW ns)(hl:(ns.length:Int)<=1099511627776):∀ (k:Nat),k<=ns.length->(∀ j,j < k->J6 c (ns.getD j 0)=true)->Zk9 c (Z1C c ns k) k:=by
 intro k
 induction k with
 | zero=> intro _ _;rw [show ((0:Nat):Int)=0 from rfl,Z52];exact Zfv c _
 | succ k ih=>
  intro hk hf
  rw [show ((k+1:Nat):Int)=(k:Int)+1 by omega,Z53 c ns (by omega) (by omega)]
  have:=hf k (by omega)
  exact Zfw hw (by omega) (by omega) (Yr hn _).1 (by simpa using this) (ih (by omega) fun j hj=> hf j (by omega))
theorem Z7D(c:Int)(ns:List Int):(Z2T c ns).length=(ZK c ns.length).toNat:=by rw [<-Z7E,Z1Z]
end Go.AM.Ythokdjgpdonhgaa
