import Derived.Test.YtpjenobkibfpcaaKD20
import Derived.Test.YtpjenobkibfpcaaKRB07
import Derived.Test.YtpjenobkibfpcaaCmZ
set_option linter.unusedSimpArgs false
set_option linter.unusedVariables false
namespace Go.AM.Ytpjenobkibfpcaa
open Go.AM Go.Proofs
noncomputable section
def Zqd:ArgL (Int × Unit):=(.cons (JR .u64) .nil)
def Zgs(a:Int × Unit):Prop:=0<=a.1/\a.1 < 18446744073709551616
def ZnO(a:Int × Unit):V U:= .agg [.int .u8 (Z9 a.1 0),.int .u8 (Z9 a.1 1),.int .u8 (Z9 a.1 2),.int .u8 (Z9 a.1 3),.int .u8 (Z9 a.1 4),.int .u8 (Z9 a.1 5),.int .u8 (Z9 a.1 6),.int .u8 (Z9 a.1 7)]
def Zb7:Fs U:=fs Zqd (fun a=> [Zgs a]) ZnO
def Zqc:ArgL (Int × Int × Unit):=(.cons (JR .u8) (.cons (JR .i64) .nil))
def ZjN(a:Int × Int × Unit):Prop:=(0<=a.1/\a.1 < 256)/\0<=a.2.1/\a.2.1<=8
def ZtF(a:Int × Int × Unit):V U:= .c (.bool (J1 a.1 a.2.1))
def Zb6:Fs U:=fs Zqc (fun a=> [ZjN a]) ZtF
def Zqb:ArgL (List Int × Int × Unit):=(.cons (aSl .u8) (.cons (JR .i64) .nil))
def Zog(a:List Int × Int × Unit):Prop:=a.2.1=0/\a.1.length=8/\∀ x∈a.1,0<=x/\x < 256
def ZtE(a:List Int × Int × Unit):V U:= .c (.int .u64 (of8 (fun i=> a.1.getD i 0)))
def Zb5:Fs U:=fs Zqb (fun a=> [Zog a]) ZtE
def Zln:ArgL (Int × Int × Int × Unit):=(.cons (JR .u64) (.cons (JR .u64) (.cons (JR .u8) .nil)))
def ZeV(a:Int × Int × Int × Unit):Prop:=(0<=a.1/\a.1 < 18446744073709551616)/\(0<=a.2.1/\a.2.1 < 18446744073709551616)/\(0<=a.2.2.1/\a.2.2.1 < 256)
def Zo5(a:Int × Int × Int × Unit):V U:= .c (.int .u64 (mix a.1 a.2.1 a.2.2.1))
def Z6M:Fs U:=fs Zln (fun a=> [ZeV a]) Zo5
def Z48(a:Tree × Unit):Prop:=Zi a.1<=20000000000
def ZtI(a:Tree × Unit):V U:= .c (.bool (Ji a.1))
def Z3l:Fs U:=fs Zqj (fun a=> [Z48 a]) ZtI
def Zqg:ArgL (Int × Int × Unit):=(.cons (JR .u64) (.cons (JR .u8) .nil))
def ZjO(a:Int × Int × Unit):Prop:=(0<=a.1/\a.1 < 18446744073709551616)/\(0<=a.2.1/\a.2.1 < 256)
def ZtH(a:Int × Int × Unit):V U:= .c (.bool (Yz a.1 a.2.1))
def Z8b:Fs U:=fs Zqg (fun a=> [ZjO a]) ZtH
def Zlm:ArgL (Edit × Unit):=(.cons (aEl .edit) .nil)
def Z6c(a:Edit × Unit):Prop:=Z8 a.1<=20000000000
def Zo4(a:Edit × Unit):V U:= .c (.bool (Z1b a.1))
def Z4P:Fs U:=fs Zlm (fun a=> [Z6c a]) Zo4
def Zgt(a:Edit × Unit):Prop:=Z8 a.1<=20000000000/\∀ o∈Edit.ops a.1,0<=o.n/\o.n<=1048576
def ZnP(a:Edit × Unit):V U:= .tup [(false,[ci (Z1s a.1.ops 0)]),(false,[ci (Z1r a.1.ops 0)])]
def Z3k:Fs U:=fs Zlm (fun a=> [Zgt a]) ZnP
def ZiV:ArgL (Edit × Int × Int × Unit):=(.cons (aEl .edit) (.cons (JR .i64) (.cons (JR .i64) .nil)))
def ZbD(a:Edit × Int × Int × Unit):Prop:=Z1P a.1/\0<=a.2.1/\a.2.1<=4611686018427387904/\-1<=a.2.2.1/\a.2.2.1<=4611686018427387904
def ZgP(a:Edit × Int × Int × Unit):Nat:=Z8 a.1
def ZjB(a:Edit × Int × Int × Unit):V U:= .c (ci (Z0q a.1 a.2.1 a.2.2.1))
def Zb2:Fs U:=fs ZiV (fun a=> [ZbD a]) ZjB
def Zoh(a:Edit × Unit):Prop:=Z1P a.1
def ZtJ(a:Edit × Unit):V U:= .c (.bool (decide (0<=Z0q a.1 80 3000)))
def Zba:Fs U:=fs Zlm (fun a=> [Zoh a]) ZtJ
def Zsl:Zf U:=lvl [([0,2],[2]),([0,2,3],[2,3]),([0,2,3,4],[2,3]),([0,2,3,4,7],[2,3]),([0,2,3,4],[2,3]),([0,2,3,4],[2,3]),([0,2,3,4],[2,3]),([2],[2])]
def Z4v(w x0 x4 ml3_0 ml3_1 ml3_2 ml3_3 ml3_4 ml3_5 ml3_6 ml3_7:Int):LSt U:=(L2 [(0,.c (.int .u64 x0)),pL 2,pL 3,pI 4 x4] [(.loc 2,zc0),(.loc 3,[.int .u8 ml3_0,.int .u8 ml3_1,.int .u8 ml3_2,.int .u8 ml3_3,.int .u8 ml3_4,.int .u8 ml3_5,.int .u8 ml3_6,.int .u8 ml3_7])])
abbrev A67(p:List Nat):=AW (Z6 Ziz) Try.f67 Zsl p
abbrev S67(p:List Nat):=SW (Z6 Ziz) Try.f67 Zsl p
theorem ZyT(w:Int)(Q:QT)(h:(Zo (A67 [1,1,0,1,0,0]) (Z4v w w 0 0 0 0 0 0 0 0 0) (xB 0 (S67 [1,1,1] Q)))):
  A67 [] (L2 [(0,.c (.int .u64 w))] []) Q:=
 Eq.mpr (by kernel_rfl) h
theorem ZqT(w x0 x4 ml3_0 ml3_1 ml3_2 ml3_3 ml3_4 ml3_5 ml3_6 ml3_7:Int)(N0:NT)(Q:QT)(h:let z0:=IntKind.wrap .u8 (Int.tmod x0 256);(((decide (x4 < 8))=true->((256:Int)≠0)/\((0:Int)<=x4/\x4 < ((8:Nat):Int))/\(((256:Int)≠0)/\((InR (x4+1))/\(N0 (Z4v w (IntKind.wrap .u64 (Int.tdiv x0 256)) (x4+1) (Z14 x4 0 z0 ml3_0) (Z14 x4 1 z0 ml3_1) (Z14 x4 2 z0 ml3_2) (Z14 x4 3 z0 ml3_3) (Z14 x4 4 z0 ml3_4) (Z14 x4 5 z0 ml3_5) (Z14 x4 6 z0 ml3_6) (Z14 x4 7 z0 ml3_7))))))/\((decide (x4 < 8))=false->(Q .ret (L2 [pL 2] [(.loc 2,[.int .u8 ml3_0,.int .u8 ml3_1,.int .u8 ml3_2,.int .u8 ml3_3,.int .u8 ml3_4,.int .u8 ml3_5,.int .u8 ml3_6,.int .u8 ml3_7])]))))):
  A67 [1,1,0,1,0,0] (Z4v w x0 x4 ml3_0 ml3_1 ml3_2 ml3_3 ml3_4 ml3_5 ml3_6 ml3_7) (xT N0 (xB 0 (S67 [1,1,1] Q))):=
 Eq.mpr (by kernel_rfl) h
def ZwB(w:Int):Prop:=AW (Z6 Ziz) Try.f67 Zsl [] (Zm (Zqd.can (w,())) []) (EQ Try.f67 (ZnO (w,())) [])
theorem ZuW(hb:∀ (w:Int) (_:Unit),Zgs (w,())->ZwB w):CT 67 Zb7:=
 Z4 (l:=[]) Zn rfl trivial Zsl Try.func67 rfl rfl 1 (fun _=> rfl) (by decide) (fun ⟨w,_⟩=> hb w ())
def Zsk:Zf U:=lvl [([0,1],[]),([0,1,5],[]),([0,1,5,8],[]),([0,1,5],[]),([0,1,5],[]),([4],[])]
def Z7C(m i x0 x5:Int):LSt U:=(L2 [(0,.c (.int .u8 x0)),pI 1 i,pI 5 x5] [])
abbrev A68(p:List Nat):=AW (Z6 Ziz) Try.f68 Zsk p
abbrev S68(p:List Nat):=SW (Z6 Ziz) Try.f68 Zsk p
theorem ZyS(m i:Int)(Q:QT)(h:(Zo (A68 [1,0,1,0,0]) (Z7C m i m 0) (xB 0 (S68 [1,1] Q)))):
  A68 [] (L2 [(0,.c (.int .u8 m)),pI 1 i] []) Q:=
 Eq.mpr (by kernel_rfl) h
theorem ZqS(m i x0 x5:Int)(N0:NT)(Q:QT)(h:(((decide (x5 < i))=true->((2:Int)≠0)/\((InR (x5+1))/\(N0 (Z7C m i (IntKind.wrap .u8 (Int.tdiv x0 2)) (x5+1)))))/\((decide (x5 < i))=false->((2:Int)≠0)/\(Q .ret (L2 [pB 4 (((Int.tmod x0 2):Int)==1)] []))))):
  A68 [1,0,1,0,0] (Z7C m i x0 x5) (xT N0 (xB 0 (S68 [1,1] Q))):=
 Eq.mpr (by kernel_rfl) h
def ZwA(m i:Int):Prop:=AW (Z6 Ziz) Try.f68 Zsk [] (Zm (Zqc.can (m,i,())) []) (EQ Try.f68 (ZtF (m,i,())) [])
theorem ZuV(hb:∀ (m:Int) (i:Int) (_:Unit),ZjN (m,i,())->ZwA m i):CT 68 Zb6:=
 Z4 (l:=[]) Zn rfl trivial Zsk Try.func68 rfl rfl 2 (fun _=> rfl) (by decide) (fun ⟨m,i,_⟩=> hb m i ())
def Zsj:Zf U:=lvl [([0,1],[]),([0,1,5],[]),([0,1,5,6],[]),([0,1,5,6,8],[]),([0,1,5,6],[]),([0,1,5,6],[]),([4],[])]
def Z7B(b:List Int)(from_ x5 x6:Int):LSt U:=(L2 [(0,.c (sU .u8 b .unk)),pI 1 from_,(5,.c (.int .u64 x5)),pI 6 x6] [])
abbrev A69(p:List Nat):=AW (Z6 Ziz) Try.f69 Zsj p
abbrev S69(p:List Nat):=SW (Z6 Ziz) Try.f69 Zsj p
theorem ZyR(b:List Int)(from_:Int)(Q:QT)(h:(Zo (A69 [1,1,0,1,0,0]) (Z7B b from_ 0 7) (xB 0 (S69 [1,1,1] Q)))):
  A69 [] (L2 [(0,.c (sU .u8 b .unk)),pI 1 from_] []) Q:=
 Eq.mpr (by kernel_rfl) h
theorem ZqR(b:List Int)(from_ x5 x6:Int)(N0:NT)(Q:QT)(h:(((decide ((0:Int)<=x6))=true->(InR (from_+x6))/\((0:Int)<=(from_+x6)/\(from_+x6) < (b.length:Int))/\((InR (x6 - 1))/\(N0 (Z7B b from_ (IntKind.wrap .u64 (((IntKind.wrap .u64 (x5*256)):Int)+(IntKind.wrap .u64 (List.getD b (Int.toNat (from_+x6)) (0:Int))))) (x6 - 1)))))/\((decide ((0:Int)<=x6))=false->(Q .ret (L2 [(4,.c (.int .u64 x5))] []))))):
  A69 [1,1,0,1,0,0] (Z7B b from_ x5 x6) (xT N0 (xB 0 (S69 [1,1,1] Q))):=
 Eq.mpr (by kernel_rfl) h
def Zwz(b:List Int)(from_:Int):Prop:=AW (Z6 Ziz) Try.f69 Zsj [] (Zm (Zqb.can (b,from_,())) []) (EQ Try.f69 (ZtE (b,from_,())) [])
theorem ZuU(hb:∀ (b:List Int) (from_:Int) (_:Unit),Zog (b,from_,())->Zwz b from_):CT 69 Zb5:=
 Z4 (l:=[]) Zn rfl trivial Zsj Try.func69 rfl rfl 2 (fun _=> rfl) (by decide) (fun ⟨b,from_,_⟩=> hb b from_ ())
def Zfk:List (FuncId × Fs U):=[(67,Zb7),(68,Zb6),(69,Zb5)]
def Zkh:Zf U:=lvl [([0,1,2],[]),([2,7,8],[7,8]),([2,7,8,9],[7,8]),([2,7,8,9,15],[7,8]),([2,7,8,9],[7,8]),([2,7,8,9,20],[7,8]),([2,7,8,9],[7,8]),([6],[])]
def Z1M(a b m x9 ml7_0 ml7_1 ml7_2 ml7_3 ml7_4 ml7_5 ml7_6 ml7_7:Int):LSt U:=(L2 [(2,.c (.int .u8 m)),pL 7,pL 8,pI 9 x9] [(.loc 7,[.int .u8 ml7_0,.int .u8 ml7_1,.int .u8 ml7_2,.int .u8 ml7_3,.int .u8 ml7_4,.int .u8 ml7_5,.int .u8 ml7_6,.int .u8 ml7_7]),(.loc 8,[.int .u8 (Z9 b 0),.int .u8 (Z9 b 1),.int .u8 (Z9 b 2),.int .u8 (Z9 b 3),.int .u8 (Z9 b 4),.int .u8 (Z9 b 5),.int .u8 (Z9 b 6),.int .u8 (Z9 b 7)])])
abbrev Zx0(p:List Nat):=AW (Z6 Zfk) Try.f103 Zkh p
abbrev Zyz(p:List Nat):=SW (Z6 Zfk) Try.f103 Zkh p
theorem ZxN(a b m:Int)(Q:QT)(h:((Zgs (a,()))/\(Zgs (b,()))/\(Zo (Zx0 [1,1,0,1,0,0]) (Z1M a b m 0 (Z9 a 0) (Z9 a 1) (Z9 a 2) (Z9 a 3) (Z9 a 4) (Z9 a 5) (Z9 a 6) (Z9 a 7)) (xB 0 (Zyz [1,1,1] Q))))):
  Zx0 [] (L2 [(0,.c (.int .u64 a)),(1,.c (.int .u64 b)),(2,.c (.int .u8 m))] []) Q:=
 Eq.mpr (by kernel_rfl) h
theorem Znx(a b m x9 ml7_0 ml7_1 ml7_2 ml7_3 ml7_4 ml7_5 ml7_6 ml7_7:Int)(N0:NT)(Q:QT)(h:let z0:=List.getD [Z9 b 0,Z9 b 1,Z9 b 2,Z9 b 3,Z9 b 4,Z9 b 5,Z9 b 6,Z9 b 7] x9.toNat 0;(((decide (x9 < 8))=true->(ZjN (m,x9,()))/\(((J1 m x9)=true->((0:Int)<=x9/\x9 < ((8:Nat):Int))/\((0:Int)<=x9/\x9 < ((8:Nat):Int))/\((InR (x9+1))/\(N0 (Z1M a b m (x9+1) (Z14 x9 0 z0 ml7_0) (Z14 x9 1 z0 ml7_1) (Z14 x9 2 z0 ml7_2) (Z14 x9 3 z0 ml7_3) (Z14 x9 4 z0 ml7_4) (Z14 x9 5 z0 ml7_5) (Z14 x9 6 z0 ml7_6) (Z14 x9 7 z0 ml7_7)))))/\((J1 m x9)=false->(InR (x9+1))/\(N0 (Z1M a b m (x9+1) ml7_0 ml7_1 ml7_2 ml7_3 ml7_4 ml7_5 ml7_6 ml7_7)))))/\((decide (x9 < 8))=false->(Zog (([ml7_0,ml7_1,ml7_2,ml7_3,ml7_4,ml7_5,ml7_6,ml7_7]),0,()))/\(Q .ret (L2 [(6,.c (.int .u64 (of8 (fun i=> ([ml7_0,ml7_1,ml7_2,ml7_3,ml7_4,ml7_5,ml7_6,ml7_7]).getD i 0))))] []))))):
  Zx0 [1,1,0,1,0,0] (Z1M a b m x9 ml7_0 ml7_1 ml7_2 ml7_3 ml7_4 ml7_5 ml7_6 ml7_7) (xT N0 (xB 0 (Zyz [1,1,1] Q))):=
 Eq.mpr (by kernel_rfl) h
def Ztx(a b m:Int):Prop:=AW (Z6 Zfk) Try.f103 Zkh [] (Zm (Zln.can (a,b,m,())) []) (EQ Try.f103 (Zo5 (a,b,m,())) [])
theorem Zsd(c67:CT 67 Zb7)(c68:CT 68 Zb6)(c69:CT 69 Zb5)(hb:∀ (a:Int) (b:Int) (m:Int) (_:Unit),ZeV (a,b,m,())->Ztx a b m):CT 103 Z6M:=
 Z4 (l:=[(67,Zb7),(68,Zb6),(69,Zb5)]) Zn rfl (⟨c67,c68,c69,trivial⟩) Zkh Try.func103 rfl rfl 3 (fun _=> rfl) (by decide) (fun ⟨a,b,m,_⟩=> hb a b m ())
abbrev A62(p:List Nat):=AW (Z6 Ziz) Try.f62 Zvi p
theorem ZyY(t:Tree)(Q:QT)(h:((Tr ((t.kind==0)=true))/\(Tr ((t.kind==0)=true))/\(Tr ((t.kind==0)=true))/\(Tr ((t.kind==0)=true))/\(Tr ((t.kind==0)=true))/\(Tr ((t.kind==0)=true))/\((t.kind==0)=true->InR (((t.words.length:Int):Int)+(t.kids.length:Int)))/\(Tr ((t.kind==0)=true))/\(Tr ((t.kind==0)=true))/\(Q .ret (L2 [(2,.c (.bool (bif (t.kind==0) then (((((t.words.length:Int):Int)+(t.kids.length:Int)):Int)==0) else false)))] [])))):
  A62 [] (L2 [(0,.agg (enc .tree t))] []) Q:=
 Eq.mpr (by kernel_rfl) h
def ZwG(t:Tree):Prop:=AW (Z6 Ziz) Try.f62 Zvi [] (Zm (Zqj.can (t,())) []) (EQ Try.f62 (ZtI (t,())) [])
theorem Zv0(hb:∀ (t:Tree) (_:Unit),Z48 (t,())->ZwG t):CT 62 Z3l:=
 Z4 (l:=[]) Zn rfl trivial Zvi Try.func62 rfl rfl 1 (fun _=> rfl) (by decide) (fun ⟨t,_⟩=> hb t ())
def ZpA:List (FuncId × Fs U):=[(103,Z6M)]
def Zvf:Zf U:=lvl [([0,1],[]),([4],[])]
abbrev A63(p:List Nat):=AW (Z6 ZpA) Try.f63 Zvf p
theorem ZyX(w m:Int)(Q:QT)(h:((ZeV (w,0,m,()))/\(Q .ret (L2 [pB 4 (((mix w 0 m):Int)==0)] [])))):
  A63 [] (L2 [(0,.c (.int .u64 w)),(1,.c (.int .u8 m))] []) Q:=
 Eq.mpr (by kernel_rfl) h
def ZwF(w m:Int):Prop:=AW (Z6 ZpA) Try.f63 Zvf [] (Zm (Zqg.can (w,m,())) []) (EQ Try.f63 (ZtH (w,m,())) [])
theorem ZuZ(Zw9:CT 103 Z6M)(hb:∀ (w:Int) (m:Int) (_:Unit),ZjO (w,m,())->ZwF w m):CT 63 Z8b:=
 Z4 (l:=[(103,Z6M)]) Zn rfl (⟨Zw9,trivial⟩) Zvf Try.func63 rfl rfl 2 (fun _=> rfl) (by decide) (fun ⟨w,m,_⟩=> hb w m ())
def ZkO:List (FuncId × Fs U):=[(62,Z3l)]
abbrev ZzI(p:List Nat):=AW (Z6 ZkO) Try.f104 Zvi p
theorem ZxM(e:Edit)(Q:QT)(h:∀ y_1,y_1=(e.new)->∀ y_2,y_2=(e.old)->let z2:=bif (e.kind==0) then (Ji y_2) else false;let z0:=bif z2 then (Ji y_1) else false;let z1:=bif z0 then (((((((e.words.length:Int):Int)+(e.kids.length:Int)):Int)+(e.ops.length:Int)):Int)==0) else false;((Tr ((e.kind==0)=true))/\(Tr ((e.kind==0)=true))/\((e.kind==0)=true->Z48 (y_2,()))/\(Tr ((e.kind==0)=true))/\(Tr (z2=true))/\(Tr (z2=true))/\(z2=true->Z48 (y_1,()))/\(Tr (z2=true))/\(Tr (z0=true))/\(Tr (z0=true))/\(Tr (z0=true))/\(Tr (z0=true))/\(Tr (z0=true))/\(Tr (z0=true))/\(z0=true->InR (((e.words.length:Int):Int)+(e.kids.length:Int)))/\(Tr (z0=true))/\(Tr (z0=true))/\(Tr (z0=true))/\(Tr (z0=true))/\(z0=true->InR (((((e.words.length:Int):Int)+(e.kids.length:Int)):Int)+(e.ops.length:Int)))/\(Tr (z0=true))/\(Tr (z0=true))/\(Tr (z1=true))/\(Tr (z1=true))/\(Tr (z1=true))/\(Q .ret (L2 [(2,.c (.bool (bif z1 then (e.list==0) else false)))] [])))):
  ZzI [] (L2 [(0,.agg (enc .edit e))] []) Q:=
 Eq.mpr (by kernel_rfl) (h _ (Zc _) _ (Zc _))
def Ztw(e:Edit):Prop:=AW (Z6 ZkO) Try.f104 Zvi [] (Zm (Zlm.can (e,())) []) (EQ Try.f104 (Zo4 (e,())) [])
theorem Zsc(c62:CT 62 Z3l)(hb:∀ (e:Edit) (_:Unit),Z6c (e,())->Ztw e):CT 104 Z4P:=
 Z4 (l:=[(62,Z3l)]) Zn rfl (⟨c62,trivial⟩) Zvi Try.func104 rfl rfl 1 (fun _=> rfl) (by decide) (fun ⟨e,_⟩=> hb e ())
def Zsm:Zf U:=lvl [([1],[1]),([1,4,5],[1]),([1,4,5,6],[1]),([1,4,5,6,13],[1]),([1,4,5,6],[1]),([1,4,5,6,7],[1,7]),([1,4,5,6,7,8],[1,7]),([1,4,5,6,7,8,29],[1,7]),([1,4,5,6,7,8,29],[1,7]),([1,4,5,6,7,8,32],[1,7]),([1,4,5,6,7,8,32],[1,7]),([1,4,5,6,8,38],[1]),([1,4,5,6,8,38],[1]),([1,4,5,6,43],[1]),([1,4,5,6,43],[1]),([1,4,5,6,45],[1]),([1,4,5,6],[1]),([2,3],[])]
def Z27(e:Edit)(x4 x5 x6:Int):LSt U:=(L2 [pL 1,pI 4 x4,pI 5 x5,pI 6 x6] [(.loc 1,(enc .edit e))])
def Z7G(e:Edit)(x4 x5 x6 x8_a:Int):LSt U:=(L2 [pL 1,pI 4 x4,pI 5 x5,pI 6 x6,pL 7,pI 8 x8_a,(29,.c (.bool (((OpOf.kind (e.ops.getD x6.toNat Op.nil)):Int)==3)))] [(.loc 1,(enc .edit e)),(.loc 7,(enc .op (e.ops.getD x6.toNat Op.nil)))])
def Z7F(e:Edit)(x5 x6 x8_a x4_b:Int):LSt U:=(L2 [pL 1,pI 4 x4_b,pI 5 x5,pI 6 x6,pL 7,pI 8 x8_a,(32,.c (.bool (((OpOf.kind (e.ops.getD x6.toNat Op.nil)):Int) !=2)))] [(.loc 1,(enc .edit e)),(.loc 7,(enc .op (e.ops.getD x6.toNat Op.nil)))])
def Z7E(e:Edit)(x6 x8_a x4_b x5_c:Int):LSt U:=(L2 [pL 1,pI 4 x4_b,pI 5 x5_c,pI 6 x6,pI 8 x8_a,(38,.c (.bool (((OpOf.kind (e.ops.getD x6.toNat Op.nil)):Int) !=1)))] [(.loc 1,(enc .edit e))])
def Z7D(e:Edit)(x6 x4_b x5_c x4_d:Int):LSt U:=(L2 [pL 1,pI 4 x4_d,pI 5 x5_c,pI 6 x6,pB 43 (decide ((1048576:Int) < x4_b))] [(.loc 1,(enc .edit e))])
abbrev A65(p:List Nat):=AW (Z6 Ziz) Try.f65 Zsm p
abbrev S65(p:List Nat):=SW (Z6 Ziz) Try.f65 Zsm p
theorem ZyV(e:Edit)(Q:QT)(h:(Zo (A65 [1,1,0,1,0,0]) (Z27 e 0 0 0) (xB 0 (S65 [1,1,1] Q)))):
  A65 [] (L2 [(0,.agg (enc .edit e))] []) Q:=
 Eq.mpr (by kernel_rfl) h
abbrev Zwi(e:Edit)(x4 x5 x6:Int)(N0:NT)(Q:QT):Prop:=A65 [1,1,0,1,0,0] (Z27 e x4 x5 x6) (xT N0 (xB 0 (S65 [1,1,1] Q)))
theorem ZqU(e:Edit)(x4 x5 x6:Int)(N0:NT)(Q:QT)(h:let z2:=decide (x6 < (e.ops.length:Int));let z1:=xB 1 (S65 [1,1,0,1,0,0,1,1] (xT N0 (xB 0 (S65 [1,1,1] Q))));let z0:=e.ops.getD x6.toNat Op.nil;((z2=true->((0:Int)<=x6/\x6 < (e.ops.length:Int))/\((InR (((OpOf.n z0):Int)+((OpOf.l z0).length:Int)))/\(((((OpOf.kind z0):Int)==3)=true->(A65 [1,1,0,1,0,0,1,0,0,1,1,1] (Z7G e x4 x5 x6 1) z1))/\((((OpOf.kind z0):Int)==3)=false->A65 [1,1,0,1,0,0,1,0,0,1,1,1] (Z7G e x4 x5 x6 (((OpOf.n z0):Int)+((OpOf.l z0).length:Int))) z1))))/\(z2=false->(Q .ret (L2 [pI 2 x4,pI 3 x5] []))))):
  A65 [1,1,0,1,0,0] (Z27 e x4 x5 x6) (xT N0 (xB 0 (S65 [1,1,1] Q))):=
 Eq.mpr (by kernel_rfl) h
abbrev Zwm(e:Edit)(x4 x5 x6 x8_a:Int)(N0:NT)(Q:QT):Prop:=A65 [1,1,0,1,0,0,1,0,0,1,1,1] (Z7G e x4 x5 x6 x8_a) (xB 1 (S65 [1,1,0,1,0,0,1,1] (xT N0 (xB 0 (S65 [1,1,1] Q)))))
theorem ZqY(e:Edit)(x4 x5 x6 x8_a:Int)(N0:NT)(Q:QT)(h:let z1:=((OpOf.kind (e.ops.getD x6.toNat Op.nil)):Int) !=2;let z0:=xB 1 (S65 [1,1,0,1,0,0,1,1] (xT N0 (xB 0 (S65 [1,1,1] Q))));((z1=true->(InR (x4+x8_a))/\(A65 [1,1,0,1,0,0,1,0,0,1,1,1,1] (Z7F e x5 x6 x8_a (x4+x8_a)) z0))/\(z1=false->A65 [1,1,0,1,0,0,1,0,0,1,1,1,1] (Z7F e x5 x6 x8_a x4) z0))):
  A65 [1,1,0,1,0,0,1,0,0,1,1,1] (Z7G e x4 x5 x6 x8_a) (xB 1 (S65 [1,1,0,1,0,0,1,1] (xT N0 (xB 0 (S65 [1,1,1] Q))))):=
 Eq.mpr (by kernel_rfl) h
abbrev Zwl(e:Edit)(x5 x6 x8_a x4_b:Int)(N0:NT)(Q:QT):Prop:=A65 [1,1,0,1,0,0,1,0,0,1,1,1,1] (Z7F e x5 x6 x8_a x4_b) (xB 1 (S65 [1,1,0,1,0,0,1,1] (xT N0 (xB 0 (S65 [1,1,1] Q)))))
theorem ZqX(e:Edit)(x5 x6 x8_a x4_b:Int)(N0:NT)(Q:QT)(h:let z1:=((OpOf.kind (e.ops.getD x6.toNat Op.nil)):Int) !=1;let z0:=xB 1 (S65 [1,1,0,1,0,0,1,1] (xT N0 (xB 0 (S65 [1,1,1] Q))));((z1=true->(InR (x5+x8_a))/\(A65 [1,1,0,1,0,0,1,0,0,1,1,1,1,1] (Z7E e x6 x8_a x4_b (x5+x8_a)) z0))/\(z1=false->A65 [1,1,0,1,0,0,1,0,0,1,1,1,1,1] (Z7E e x6 x8_a x4_b x5) z0))):
  A65 [1,1,0,1,0,0,1,0,0,1,1,1,1] (Z7F e x5 x6 x8_a x4_b) (xB 1 (S65 [1,1,0,1,0,0,1,1] (xT N0 (xB 0 (S65 [1,1,1] Q))))):=
 Eq.mpr (by kernel_rfl) h
abbrev Zwk(e:Edit)(x6 x8_a x4_b x5_c:Int)(N0:NT)(Q:QT):Prop:=A65 [1,1,0,1,0,0,1,0,0,1,1,1,1,1] (Z7E e x6 x8_a x4_b x5_c) (xB 1 (S65 [1,1,0,1,0,0,1,1] (xT N0 (xB 0 (S65 [1,1,1] Q)))))
theorem ZqW(e:Edit)(x6 x8_a x4_b x5_c:Int)(N0:NT)(Q:QT)(h:let z1:=decide ((1048576:Int) < x4_b);let z0:=xB 1 (S65 [1,1,0,1,0,0,1,1] (xT N0 (xB 0 (S65 [1,1,1] Q))));((z1=true->(A65 [1,1,0,1,0,0,1,0,0,1,1,1,1,1,1] (Z7D e x6 x4_b x5_c 1048576) z0))/\(z1=false->A65 [1,1,0,1,0,0,1,0,0,1,1,1,1,1,1] (Z7D e x6 x4_b x5_c x4_b) z0))):
  A65 [1,1,0,1,0,0,1,0,0,1,1,1,1,1] (Z7E e x6 x8_a x4_b x5_c) (xB 1 (S65 [1,1,0,1,0,0,1,1] (xT N0 (xB 0 (S65 [1,1,1] Q))))):=
 Eq.mpr (by kernel_rfl) h
abbrev Zwj(e:Edit)(x6 x4_b x5_c x4_d:Int)(N0:NT)(Q:QT):Prop:=A65 [1,1,0,1,0,0,1,0,0,1,1,1,1,1,1] (Z7D e x6 x4_b x5_c x4_d) (xB 1 (S65 [1,1,0,1,0,0,1,1] (xT N0 (xB 0 (S65 [1,1,1] Q)))))
theorem ZqV(e:Edit)(x6 x4_b x5_c x4_d:Int)(N0:NT)(Q:QT)(h:let z0:=decide ((1048576:Int) < x5_c);((z0=true->((InR (x6+1))/\(N0 (Z27 e x4_d 1048576 (x6+1)))))/\(z0=false->(InR (x6+1))/\(N0 (Z27 e x4_d x5_c (x6+1)))))):
  A65 [1,1,0,1,0,0,1,0,0,1,1,1,1,1,1] (Z7D e x6 x4_b x5_c x4_d) (xB 1 (S65 [1,1,0,1,0,0,1,1] (xT N0 (xB 0 (S65 [1,1,1] Q))))):=
 Eq.mpr (by kernel_rfl) h
def ZwD(e:Edit):Prop:=AW (Z6 Ziz) Try.f65 Zsm [] (Zm (Zlm.can (e,())) []) (EQ Try.f65 (ZnP (e,())) [])
theorem ZuY(hb:∀ (e:Edit) (_:Unit),Zgt (e,())->ZwD e):CT 65 Z3k:=
 Z4 (l:=[]) Zn rfl trivial Zsm Try.func65 rfl rfl 1 (fun _=> rfl) (by decide) (fun ⟨e,_⟩=> hb e ())
def Ziw(N:Nat):List (FuncId × Fs U):=(90,fs ZiV (fun a=> [ZbD a,ZgP a < N]) ZjB) ::[(78,Z3U)]
def Zse:Zf U:=lvl [([1,2,3],[3]),([1,2,3],[3]),([1,2,3,25],[3]),([6],[]),([1,2,3],[3]),([1,2,3,31],[3]),([1,2,3,31],[3]),([1,2,3,7],[3]),([1,2,3,7,44],[3]),([1,2,3,7],[3]),([1,2,3,7],[3]),([1,2,3,8],[3]),([1,2,3,8,65],[3]),([1,2,3,8],[3]),([1,2,3,8,9],[3]),([1,2,3,8,9,80],[3]),([1,2,3,8,9],[3]),([1,2,3,8,9],[3]),([1,2,3,8,95],[3]),([1,2,3,8],[3]),([6],[])]
def Z7u(e:Edit)(d n x2:Int):LSt U:=(L2 [pI 1 d,pI 2 x2,pL 3,(31,.c (.bool (decide ((0:Int)<=(Zz (Tree.mk e.old.kind e.old.words e.old.kids) 80 ((((((n:Int) - 1):Int) - (e.words.length:Int)):Int) - (e.ops.length:Int)))))))] [(.loc 3,(enc .edit e))])
def Z7t(e:Edit)(d n x2_a x7_a:Int):LSt U:=(L2 [pI 1 d,pI 2 x2_a,pL 3,pI 7 x7_a] [(.loc 3,(enc .edit e))])
def Z4u(e:Edit)(d n x2_b x8_b:Int):LSt U:=(L2 [pI 1 d,pI 2 x2_b,pL 3,pI 8 x8_b] [(.loc 3,(enc .edit e))])
def Z7s(e:Edit)(d n x8_b x2_c x9_c:Int):LSt U:=(L2 [pI 1 d,pI 2 x2_c,pL 3,pI 8 x8_b,pI 9 x9_c] [(.loc 3,(enc .edit e))])
abbrev A90(N:Nat)(p:List Nat):=AW (Z6 (Ziw N)) Try.f90 Zse p
abbrev S90(N:Nat)(p:List Nat):=SW (Z6 (Ziw N)) Try.f90 Zse p
theorem ZyK(N:Nat)(e:Edit)(d n:Int)(Q:QT)(h:∀ y_1,y_1=(e.new)->∀ y_2,y_2=(e.old)->∀ y_3,y_3=(Zz y_2 80 (((((n - 1):Int) - (e.words.length:Int)):Int) - (e.ops.length:Int)))->let z0:=bif (d==0) then true else (decide (((((((n - 1):Int) - (e.words.length:Int)):Int) - (e.ops.length:Int)):Int) < 0));((InR (n - 1))/\(InR (((n - 1):Int) - (e.words.length:Int)))/\(InR (((((n - 1):Int) - (e.words.length:Int)):Int) - (e.ops.length:Int)))/\((Tr ((!(d==0))=true))/\((d==0)=false->(!(d==0))=true)/\((z0=true->(Q .ret (L2 [pI 6 (-1)] [])))/\(z0=false->(Z71 (y_2,80,(((((n - 1):Int) - (e.words.length:Int)):Int) - (e.ops.length:Int)),()))/\(((decide ((0:Int)<=y_3))=true->(Z71 (y_1,80,y_3,()))/\(A90 N [1,1,1,1,1] (Z7u e d n (Zz y_1 80 y_3)) Q))/\((decide ((0:Int)<=y_3))=false->A90 N [1,1,1,1,1] (Z7u e d n y_3) Q))))))):
  A90 N [] (L2 [(0,.agg (enc .edit e)),pI 1 d,pI 2 n] []) Q:=
 Eq.mpr (by kernel_rfl) (h _ (Zc _) _ (Zc _) _ rfl)
abbrev Zwh(N:Nat)(e:Edit)(d n x2:Int)(Q:QT):Prop:=A90 N [1,1,1,1,1] (Z7u e d n x2) Q
theorem ZqK(N:Nat)(e:Edit)(d n x2:Int)(Q:QT)(h:(Zo (A90 N [1,1,1,1,1,0,1,0,0]) (Z7t e d n x2 0) (xB 0 (S90 N [1,1,1,1,1,1] Q)))):
  A90 N [1,1,1,1,1] (Z7u e d n x2) Q:=
 Eq.mpr (by kernel_rfl) h
theorem ZqJ(N:Nat)(e:Edit)(d n x2_a x7_a:Int)(N1:NT)(Q:QT)(h:∀ y_1,y_1=(e.kids.getD x7_a.toNat (KidOf.mk 0 Edit.nil))->∀ y_2,y_2=(y_1.e)->let z0:=decide (x7_a < (e.kids.length:Int));let z1:=bif z0 then (decide ((0:Int)<=x2_a)) else false;(Tr (z0=true))/\(Tr (z0=true))/\((z1=true->((0:Int)<=x7_a/\x7_a < (e.kids.length:Int))/\(InR (d - 1))/\(ZbD (y_2,(d - 1),x2_a,()))/\(ZgP (y_2,(d - 1),x2_a,()) < N)/\((InR (x7_a+1))/\(N1 (Z7t e d n (Z0q y_2 (d - 1) x2_a) (x7_a+1)))))/\(z1=false->(Zo (A90 N [1,1,1,1,1,1,0,1,0,0]) (Z4u e d n x2_a 0) (xB 2 (S90 N [1,1,1,1,1,1,1] Q)))))):
  A90 N [1,1,1,1,1,0,1,0,0] (Z7t e d n x2_a x7_a) (xT N1 (xB 0 (S90 N [1,1,1,1,1,1] Q))):=
 Eq.mpr (by kernel_rfl) (h _ rfl _ (Zd _))
theorem ZqI(N:Nat)(e:Edit)(d n x2_b x8_b:Int)(N2:NT)(Q:QT)(h:let z0:=decide (x8_b < (e.ops.length:Int));let z1:=bif z0 then (decide ((0:Int)<=x2_b)) else false;(Tr (z0=true))/\(Tr (z0=true))/\((z1=true->(Zo (A90 N [1,1,1,1,1,1,0,1,0,0,1,0,0,0,1,0,0]) (Z7s e d n x8_b x2_b 0) (xB 4 (S90 N [1,1,1,1,1,1,0,1,0,0,1,0,0,1] (xB 3 (S90 N [1,1,1,1,1,1,0,1,0,0,1,1] (xT N2 (xB 2 (S90 N [1,1,1,1,1,1,1] Q)))))))))/\(z1=false->(Q .ret (L2 [pI 6 x2_b] []))))):
  A90 N [1,1,1,1,1,1,0,1,0,0] (Z4u e d n x2_b x8_b) (xT N2 (xB 2 (S90 N [1,1,1,1,1,1,1] Q))):=
 Eq.mpr (by kernel_rfl) h
theorem ZqH(N:Nat)(e:Edit)(d n x8_b x2_c x9_c:Int)(N3 N2:NT)(Q:QT)(h:∀ y_1,y_1=(e.ops.getD x8_b.toNat Op.nil)->∀ y_2,y_2=(y_1.e)->∀ y_3,y_3=(y_1.l.getD x9_c.toNat Tree.nil)->let z1:=decide ((0:Int)<=x2_c);let z0:=decide (x9_c < (y_1.l.length:Int));((0:Int)<=x8_b/\x8_b < (e.ops.length:Int))/\(Tr (z0=true))/\(Tr (z0=true))/\(((bif z0 then z1 else false)=true->((0:Int)<=x8_b/\x8_b < (e.ops.length:Int))/\((0:Int)<=x9_c/\x9_c < (y_1.l.length:Int))/\(Z71 (y_3,80,x2_c,()))/\((InR (x9_c+1))/\(N3 (Z7s e d n x8_b (Zz y_3 80 x2_c) (x9_c+1)))))/\((bif z0 then z1 else false)=false->((z1=true->((0:Int)<=x8_b/\x8_b < (e.ops.length:Int))/\(InR (d - 1))/\(ZbD (y_2,(d - 1),x2_c,()))/\(ZgP (y_2,(d - 1),x2_c,()) < N)/\((InR (x8_b+1))/\(N2 (Z4u e d n (Z0q y_2 (d - 1) x2_c) (x8_b+1)))))/\(z1=false->(InR (x8_b+1))/\(N2 (Z4u e d n x2_c (x8_b+1)))))))):
  A90 N [1,1,1,1,1,1,0,1,0,0,1,0,0,0,1,0,0] (Z7s e d n x8_b x2_c x9_c) (xT N3 (xB 4 (S90 N [1,1,1,1,1,1,0,1,0,0,1,0,0,1] (xB 3 (S90 N [1,1,1,1,1,1,0,1,0,0,1,1] (xT N2 (xB 2 (S90 N [1,1,1,1,1,1,1] Q)))))))):=
 Eq.mpr (by kernel_rfl) (h _ rfl _ (Zd _) _ (Zc _))
def Zws(N:Nat)(e:Edit)(d n:Int):Prop:=AW (Z6 (Ziw N)) Try.f90 Zse [] (Zm (ZiV.can (e,d,n,())) []) (EQ Try.f90 (ZjB (e,d,n,())) [])
theorem ZuP(c78:CT 78 Z3U)(hb:∀ (N:Nat) (e:Edit) (d:Int) (n:Int) (_:Unit),ZbD (e,d,n,())->ZgP (e,d,n,()) < N+1->Zws N e d n):CT 90 Zb2:=
 Ja (μ:=ZgP) (l:=[(78,Z3U)]) Zn rfl (⟨c78,trivial⟩) Zse Try.func90 rfl rfl 3 (fun _=> rfl) (by decide) (fun N ⟨e,d,n,_⟩=> hb N e d n ())
def ZpC:List (FuncId × Fs U):=[(90,Zb2)]
abbrev A54(p:List Nat):=AW (Z6 ZpC) Try.f54 Zvi p
theorem Zz1(e:Edit)(Q:QT)(h:let z0:=Edit.mk e.kind (Tree.mk e.old.kind e.old.words e.old.kids) (Tree.mk e.new.kind e.new.words e.new.kids) e.words e.kids e.list e.ops;((ZbD (z0,80,3000,()))/\(Q .ret (L2 [(2,.c (.bool (decide ((0:Int)<=(Z0q z0 80 3000)))))] [])))):
  A54 [] (L2 [(0,.agg (enc .edit e))] []) Q:=
 Eq.mpr (by kernel_rfl) h
def ZwJ(e:Edit):Prop:=AW (Z6 ZpC) Try.f54 Zvi [] (Zm (Zlm.can (e,())) []) (EQ Try.f54 (ZtJ (e,())) [])
theorem Zv2(c90:CT 90 Zb2)(hb:∀ (e:Edit) (_:Unit),Zoh (e,())->ZwJ e):CT 54 Zba:=
 Z4 (l:=[(90,Zb2)]) Zn rfl (⟨c90,trivial⟩) Zvi Try.func54 rfl rfl 1 (fun _=> rfl) (by decide) (fun ⟨e,_⟩=> hb e ())
end
noncomputable section
def Zfu:ArgL (Edit × Int × Unit):=(.cons (aEl .edit) (.cons (JR .i64) .nil))
def Z9h(a:Edit × Int × Unit):Prop:=(Z8 a.1<=20000000000/\Yl a.1)/\0<=a.2.1/\a.2.1<=1000
def Zf2(a:Edit × Int × Unit):Nat:=2*Z8 a.1
def ZjF(a:Edit × Int × Unit):V U:= .c (.bool (Z5 a.1 a.2.1))
def Zbf:Fs U:=fs Zfu (fun a=> [Z9h a]) ZjF
def Zfs:ArgL (Int × Op × Int × Unit):=(.cons (JR .i64) (.cons (aEl .op) (.cons (JR .i64) .nil)))
def Zdt(a:Int × Op × Int × Unit):Prop:=(Zt a.2.1<=20000000000/\Z1d a.2.1/\InR a.1)/\0<=a.2.2.1/\a.2.2.1<=1000
def Zme(a:Int × Op × Int × Unit):Nat:=2*Zt a.2.1+1
def ZjC(a:Int × Op × Int × Unit):V U:= .c (.bool (Za a.1 a.2.1 a.2.2.1))
def ZnF:Fs U:=fs Zfs (fun a=> [Zdt a]) ZjC
def ZbF(a:Edit × Unit):Prop:=(Z8 a.1<=20000000000/\Yl a.1)/\∃ d,Z5 a.1 d=true
def ZgQ(a:Edit × Unit):Nat:=Z8 a.1
def ZnQ(a:Edit × Unit):V U:= .c (.bool (Y6 a.1))
def Zb9:Fs U:=fs Zlm (fun a=> [ZbF a]) ZnQ
def Zgv(a:Edit × Unit):Prop:=Z1P a.1/\Yl a.1
def ZtN(a:Edit × Unit):V U:= .c (.bool (Jk a.1))
def Zbg:Fs U:=fs Zlm (fun a=> [Zgv a]) ZtN
def ZiJ(N:Nat):List (FuncId × Fs U):=(23,fs Zfu (fun a=> [Z9h a,Zf2 a < N]) ZjF) ::(64,fs Zfs (fun a=> [Zdt a,Zme a < N]) ZjC) ::[(62,Z3l),(63,Z8b),(104,Z4P),(37,Z3m),(65,Z3k)]
def Zsr:Zf U:=lvl [([1,2],[2]),([1,2,24],[2]),([4],[]),([1,2,69],[2]),([4],[]),([1,2,72],[2]),([4],[]),([1,2,5],[2]),([1,2,5,6],[2]),([1,2,5,6,97],[2]),([1,2,5,6],[2]),([1,2,5,6,7],[2,7]),([1,2,6,7,134],[2,7]),([4],[]),([1,2,5,6],[2]),([1,2,5],[2]),([1,2,5,8],[2]),([1,2,5,8,141],[2]),([1,2,5,8],[2]),([1,2,5,8,9],[2,9]),([1,2,8,9,171],[2,9]),([4],[]),([1,2,5,8],[2]),([1,2,186],[2]),([4],[]),([1,2,10],[2]),([1,2,10,191],[2]),([1,2,10],[2]),([1,2,10,204],[2]),([4],[]),([11,12],[]),([4],[])]
def Z7O(e:Edit)(d x5 x6:Int):LSt U:=(L2 [pI 1 d,pL 2,pI 5 x5,pI 6 x6] [(.loc 2,(enc .edit e))])
def Z7N(e:Edit)(d x5_a x8_a:Int):LSt U:=(L2 [pI 1 d,pL 2,pI 5 x5_a,pI 8 x8_a] [(.loc 2,(enc .edit e))])
def Z7M(e:Edit)(d x10_b:Int):LSt U:=(L2 [pI 1 d,pL 2,pI 10 x10_b] [(.loc 2,(enc .edit e))])
abbrev A23(N:Nat)(p:List Nat):=AW (Z6 (ZiJ N)) Try.f23 Zsr p
abbrev S23(N:Nat)(p:List Nat):=SW (Z6 (ZiJ N)) Try.f23 Zsr p
theorem Zz9(N:Nat)(e:Edit)(d:Int)(Q:QT)(h:∀ y_1,y_1=(e.new)->∀ y_2,y_2=(e.old)->let z8:=(e.kind !=1) && (Ji y_2);let z3:=bif (d==0) then true else (decide (e.kind < 0));let z10:=bif z3 then true else (decide ((3:Int) < e.kind));let z2:=bif (Zh y_2 64) then (Zh y_1 64) else false;let z6:=bif z2 then (e.old.kind !=10) else false;let z1:=bif (e.kind !=1) then (!(bif (Ji y_2) then (Ji y_1) else false)) else false;let z5:=(!z1) && (e.kind !=2);let z0:=bif z1 then true else (bif (e.kind !=2) then (decide ((0:Int) < (((e.words.length:Int):Int)+(e.kids.length:Int)))) else false);let z7:=bif z0 then true else (bif (e.kind !=3) then (bif (e.list !=0) then true else (decide ((0:Int) < (e.ops.length:Int)))) else false);let z4:=(!z0) && (e.kind !=3);let z9:=z4 && (!(e.list !=0));((Tr ((!(d==0))=true))/\(Tr ((!(d==0))=true))/\((d==0)=false->(!(d==0))=true)/\(Tr ((!z3)=true))/\(Tr ((!z3)=true))/\(z3=false->(!z3)=true)/\((z10=true->(Q .ret (L2 [pB 4 false] [])))/\(z10=false->(Tr ((e.kind !=1)=true))/\(Tr ((e.kind !=1)=true))/\((e.kind !=1)=true->Z48 (y_2,()))/\(Tr ((e.kind !=1)=true))/\(Tr (z8=true))/\(Tr (z8=true))/\(z8=true->Z48 (y_1,()))/\((e.kind !=1)=true->(True->(e.kind !=1)=true))/\((e.kind !=1)=true->((Ji y_2)=true->z8=true))/\(Tr ((e.kind !=1)=true))/\(Tr ((e.kind !=1)=true))/\(Tr ((!z1)=true))/\(Tr ((!z1)=true))/\(Tr ((!z1)=true))/\(Tr (z5=true))/\(Tr (z5=true))/\(Tr (z5=true))/\(Tr (z5=true))/\(Tr (z5=true))/\(Tr (z5=true))/\(z5=true->InR (((e.words.length:Int):Int)+(e.kids.length:Int)))/\(Tr (z5=true))/\((!z1)=true->(True->(!z1)=true))/\((!z1)=true->((e.kind !=2)=true->z5=true))/\(z1=false->(!z1)=true)/\(Tr ((!z0)=true))/\(Tr ((!z0)=true))/\(Tr ((!z0)=true))/\(Tr (z4=true))/\(Tr (z4=true))/\(Tr (z4=true))/\(Tr (z9=true))/\(Tr (z9=true))/\(Tr (z9=true))/\(z4=true->(True->z4=true))/\(z4=true->((e.list !=0)=false->z9=true))/\((!z0)=true->(True->(!z0)=true))/\((!z0)=true->((e.kind !=3)=true->z4=true))/\(z0=false->(!z0)=true)/\((z7=true->(Q .ret (L2 [pB 4 false] [])))/\(z7=false->(((e.kind==1)=true->(Z49 (y_2,64,()))/\(Tr ((Zh y_2 64)=true))/\(Tr ((Zh y_2 64)=true))/\((Zh y_2 64)=true->Z49 (y_1,64,()))/\(Tr ((Zh y_2 64)=true))/\(Tr (z2=true))/\(Tr (z2=true))/\(Tr (z2=true))/\(Tr (z2=true))/\(Tr (z6=true))/\(Tr (z6=true))/\(Tr (z6=true))/\(Tr (z6=true))/\(Q .ret (L2 [(4,.c (.bool (bif z6 then (e.new.kind !=10) else false)))] [])))/\((e.kind==1)=false->(Zo (A23 N [1,1,1,1,1,0,1,0,0]) (Z7O e d (-1) 0) (xB 0 (S23 N [1,1,1,1,1,1] Q))))))))))):
  A23 N [] (L2 [(0,.agg (enc .edit e)),pI 1 d] []) Q:=
 Eq.mpr (by kernel_rfl) (h _ (Zc _) _ (Zc _))
theorem Zr7(N:Nat)(e:Edit)(d x5 x6:Int)(N0:NT)(Q:QT)(h:∀ y_1,y_1=(e.words.getD x6.toNat (WEdit.mk 0 0 0 0))->let z5:=decide (x6 < (e.words.length:Int));let z3:=decide (y_1.at_<=x5);let z2:=bif z3 then true else (decide ((65534:Int) < y_1.at_));let z0:=bif z2 then true else (y_1.mask==0);let z1:=bif z0 then true else (!(Yz y_1.old y_1.mask));let z4:=bif z1 then true else (!(Yz y_1.new y_1.mask));((z5=true->((0:Int)<=x6/\x6 < (e.words.length:Int))/\((Tr ((!z3)=true))/\(Tr ((!z3)=true))/\(z3=false->(!z3)=true)/\(Tr ((!z2)=true))/\(Tr ((!z2)=true))/\(z2=false->(!z2)=true)/\(Tr ((!z0)=true))/\(Tr ((!z0)=true))/\(Tr ((!z0)=true))/\(Tr ((!z0)=true))/\((!z0)=true->ZjO (y_1.old,y_1.mask,()))/\(Tr ((!z0)=true))/\(z0=false->(!z0)=true)/\(Tr ((!z1)=true))/\(Tr ((!z1)=true))/\(Tr ((!z1)=true))/\(Tr ((!z1)=true))/\((!z1)=true->ZjO (y_1.new,y_1.mask,()))/\(Tr ((!z1)=true))/\(z1=false->(!z1)=true)/\((z4=true->(Q .ret (L2 [pB 4 false] [])))/\(z4=false->((InR (x6+1))/\(N0 (Z7O e d y_1.at_ (x6+1))))))))/\(z5=false->(Zo (A23 N [1,1,1,1,1,1,1,0,1,0,0]) (Z7N e d (-1) 0) (xB 2 (S23 N [1,1,1,1,1,1,1,1] Q)))))):
  A23 N [1,1,1,1,1,0,1,0,0] (Z7O e d x5 x6) (xT N0 (xB 0 (S23 N [1,1,1,1,1,1] Q))):=
 Eq.mpr (by kernel_rfl) (h _ rfl)
theorem Zr6(N:Nat)(e:Edit)(d x5_a x8_a:Int)(N1:NT)(Q:QT)(h:∀ y_1,y_1=(e.kids.getD x8_a.toNat (KidOf.mk 0 Edit.nil))->∀ y_2,y_2=(y_1.e)->let z7:=decide (x8_a < (e.kids.length:Int));let z6:=decide (e.list < 2);let z4:=(e.kind==3) && (!z6);let z3:=decide (y_1.at_<=x5_a);let z2:=bif (e.kind==3) then (bif z6 then true else (decide ((9:Int) < e.list))) else false;let z1:=bif z3 then true else (decide ((65534:Int) < y_1.at_));let z0:=bif z1 then true else (y_1.e.kind==0);let z5:=bif z0 then true else (!(Z5 y_2 (d - 1)));((z7=true->((0:Int)<=x8_a/\x8_a < (e.kids.length:Int))/\((Tr ((!z3)=true))/\(Tr ((!z3)=true))/\(z3=false->(!z3)=true)/\(Tr ((!z1)=true))/\(Tr ((!z1)=true))/\(Tr ((!z1)=true))/\(z1=false->(!z1)=true)/\(Tr ((!z0)=true))/\(Tr ((!z0)=true))/\((!z0)=true->InR (d - 1))/\(Tr ((!z0)=true))/\(Tr ((!z0)=true))/\((!z0)=true->Z9h (y_2,(d - 1),()))/\((!z0)=true->Zf2 (y_2,(d - 1),()) < N)/\(Tr ((!z0)=true))/\(z0=false->(!z0)=true)/\((z5=true->(Q .ret (L2 [pB 4 false] [])))/\(z5=false->((InR (x8_a+1))/\(N1 (Z7N e d y_1.at_ (x8_a+1))))))))/\(z7=false->(Tr ((e.kind==3)=true))/\(Tr ((e.kind==3)=true))/\(Tr ((e.kind==3)=true))/\(Tr (z4=true))/\(Tr (z4=true))/\((e.kind==3)=true->(True->(e.kind==3)=true))/\((e.kind==3)=true->(z6=false->z4=true))/\(Tr ((e.kind==3)=true))/\((z2=true->(Q .ret (L2 [pB 4 false] [])))/\(z2=false->(Zo (A23 N [1,1,1,1,1,1,1,1,1,0,1,0,0]) (Z7M e d 0) (xB 4 (S23 N [1,1,1,1,1,1,1,1,1,1] Q)))))))):
  A23 N [1,1,1,1,1,1,1,0,1,0,0] (Z7N e d x5_a x8_a) (xT N1 (xB 2 (S23 N [1,1,1,1,1,1,1,1] Q))):=
 Eq.mpr (by kernel_rfl) (h _ rfl _ (Zd _))
theorem Zr5(N:Nat)(e:Edit)(d x10_b:Int)(N2:NT)(Q:QT)(h:∀ y_1,y_1=e->∀ y_2,y_2=(e.ops.getD x10_b.toNat Op.nil)->∀ y_3,y_3=y_2->let z2:= !(Za e.list y_3 (d - 1));let z1:=decide (x10_b < (e.ops.length:Int));let z0:=decide (((Z1s y_1.ops 0):Int) < 1048576);((z1=true->((0:Int)<=x10_b/\x10_b < (e.ops.length:Int))/\(InR (d - 1))/\(Zdt (e.list,y_3,(d - 1),()))/\(Zme (e.list,y_3,(d - 1),()) < N)/\((z2=true->(Q .ret (L2 [pB 4 false] [])))/\(z2=false->(InR (x10_b+1))/\(N2 (Z7M e d (x10_b+1))))))/\(z1=false->(Zgt (y_1,()))/\((Tr (z0=true))/\(Tr (z0=true))/\(Q .ret (L2 [(4,.c (.bool (bif z0 then (decide (((Z1r y_1.ops 0):Int) < 1048576)) else false)))] [])))))):
  A23 N [1,1,1,1,1,1,1,1,1,0,1,0,0] (Z7M e d x10_b) (xT N2 (xB 4 (S23 N [1,1,1,1,1,1,1,1,1,1] Q))):=
 Eq.mpr (by kernel_rfl) (h _ (Zd _) _ rfl _ (YA _))
def ZwR(N:Nat)(e:Edit)(d:Int):Prop:=AW (Z6 (ZiJ N)) Try.f23 Zsr [] (Zm (Zfu.can (e,d,())) []) (EQ Try.f23 (ZjF (e,d,())) [])
abbrev ZyF:Prop:=∀ (N:Nat) (e:Edit) (d:Int) (_:Unit),Z9h (e,d,())->Zf2 (e,d,()) < N+1->ZwR N e d
def Zsn:Zf U:=lvl [([0,2,4],[4]),([0,2,4,10],[4]),([6],[]),([0,2,4,42],[4]),([6],[]),([0,2,4,45],[4]),([0,4,7],[4]),([0,4,7,50],[4]),([0,4,7],[4]),([0,4,7,62],[4]),([6],[]),([6],[]),([0,4,92],[4]),([6],[]),([6],[])]
def Z7H(list:Int)(o:Op)(d x7:Int):LSt U:=(L2 [pI 0 list,pL 4,pI 7 x7] [(.loc 4,(enc .op o))])
abbrev A64(N:Nat)(p:List Nat):=AW (Z6 (ZiJ N)) Try.f64 Zsn p
abbrev S64(N:Nat)(p:List Nat):=SW (Z6 (ZiJ N)) Try.f64 Zsn p
theorem ZyW(N:Nat)(list:Int)(o:Op)(d:Int)(Q:QT)(h:∀ y_1,y_1=(o.e)->let z9:=decide ((1:Int)<=o.n);let z5:=bif (o.n !=0) then true else (decide (o.kind < 0));let z10:=bif z5 then true else (decide ((3:Int) < o.kind));let z4:=decide ((0:Int) < (o.l.length:Int));let z7:=bif z4 then true else (o.e.kind==0);let z3:=bif (o.e.kind==1) then (o.e.old.kind==1) else false;let z2:=bif z9 then (decide (o.n<=1048576)) else false;let z6:=bif z2 then (((o.l.length:Int):Int)==0) else false;let z1:=bif (list==8) then true else (o.e.kind==2);let z8:=(!z1) && (o.e.kind==1);let z0:=bif z7 then true else (decide (list<=7));let z11:=bif z0 then true else (!(Z5 y_1 d));(((o.kind==0)=true->(Tr (z9=true))/\(Tr (z9=true))/\(Tr (z9=true))/\(Tr (z2=true))/\(Tr (z2=true))/\(Tr (z2=true))/\(Tr (z2=true))/\(Tr (z6=true))/\(Tr (z6=true))/\(z6=true->Z6c (y_1,()))/\(Tr (z6=true))/\(Q .ret (L2 [(6,.c (.bool (bif z6 then (Z1b y_1) else false)))] [])))/\((o.kind==0)=false->(Tr ((!(o.n !=0))=true))/\(Tr ((!(o.n !=0))=true))/\((o.n !=0)=false->(!(o.n !=0))=true)/\(Tr ((!z5)=true))/\(Tr ((!z5)=true))/\(z5=false->(!z5)=true)/\((z10=true->(Q .ret (L2 [pB 6 false] [])))/\(z10=false->(((decide (o.kind < 3))=true->(Zo (A64 N [1,1,1,0,1,0,0,1,0,0]) (Z7H list o d 0) (xB 0 (S64 N [1,1,1,0,1,0,1] (S64 N [1,1,1,1] Q)))))/\((decide (o.kind < 3))=false->(Tr ((!z4)=true))/\(Tr ((!z4)=true))/\(Tr ((!z4)=true))/\(z4=false->(!z4)=true)/\(Tr ((!z7)=true))/\(z7=false->(!z7)=true)/\(Tr ((!z0)=true))/\(Tr ((!z0)=true))/\(Tr ((!z0)=true))/\((!z0)=true->Z9h (y_1,d,()))/\((!z0)=true->Zf2 (y_1,d,()) < N)/\(Tr ((!z0)=true))/\(z0=false->(!z0)=true)/\((z11=true->(Q .ret (L2 [pB 6 false] [])))/\(z11=false->(Tr ((!(list==8))=true))/\(Tr ((!(list==8))=true))/\(Tr ((!(list==8))=true))/\((list==8)=false->(!(list==8))=true)/\(Tr ((!z1)=true))/\(Tr ((!z1)=true))/\(Tr ((!z1)=true))/\(Tr ((!z1)=true))/\(Tr (z8=true))/\(Tr (z8=true))/\(Tr (z8=true))/\(Tr (z8=true))/\((!z1)=true->(True->(!z1)=true))/\((!z1)=true->((o.e.kind==1)=true->z8=true))/\(Tr ((!z1)=true))/\(Tr (((!z1) && z3)=true))/\(Tr (((!z1) && z3)=true))/\(Tr (((!z1) && z3)=true))/\(Tr (((!z1) && z3)=true))/\((!z1)=true->(True->(!z1)=true))/\((!z1)=true->(z3=true->((!z1) && z3)=true))/\(z1=false->(!z1)=true)/\(Q .ret (L2 [(6,.c (.bool (bif z1 then true else (bif z3 then (o.e.new.kind==1) else false))))] []))))))))))):
  A64 N [] (L2 [pI 0 list,(1,.agg (enc .op o)),pI 2 d] []) Q:=
 Eq.mpr (by kernel_rfl) (h _ (Zd _))
theorem ZqZ(N:Nat)(list:Int)(o:Op)(d x7:Int)(N0:NT)(Q:QT)(h:let z3:=decide (x7 < (o.l.length:Int));let z2:=Tree.mk list [] (List.drop x7.toNat (List.take (Int.toNat (x7+1)) o.l));let z1:=Edit.mk o.e.kind (Tree.mk o.e.old.kind o.e.old.words o.e.old.kids) (Tree.mk o.e.new.kind o.e.new.words o.e.new.kids) o.e.words o.e.kids o.e.list o.e.ops;let z0:=decide ((0:Int) < (o.l.length:Int));((z3=true->(InR (x7+1))/\((0:Int)<=x7/\x7<=(x7+1)/\(x7+1)<=(o.l.length:Int))/\(Z49 (z2,64,()))/\(((!(Zh z2 64))=true->(Q .ret (L2 [pB 6 false] [])))/\((!(Zh z2 64))=false->(InR (x7+1))/\(N0 (Z7H list o d (x7+1))))))/\(z3=false->(Tr (z0=true))/\(Tr (z0=true))/\(z0=true->Z6c (z1,()))/\(Tr (z0=true))/\(Q .ret (L2 [(6,.c (.bool (bif z0 then (Z1b z1) else false)))] []))))):
  A64 N [1,1,1,0,1,0,0,1,0,0] (Z7H list o d x7) (xT N0 (xB 0 (S64 N [1,1,1,0,1,0,1] (S64 N [1,1,1,1] Q)))):=
 Eq.mpr (by kernel_rfl) h
def ZwE(N:Nat)(list:Int)(o:Op)(d:Int):Prop:=AW (Z6 (ZiJ N)) Try.f64 Zsn [] (Zm (Zfs.can (list,o,d,())) []) (EQ Try.f64 (ZjC (list,o,d,())) [])
abbrev ZyD:Prop:=∀ (N:Nat) (list:Int) (o:Op) (d:Int) (_:Unit),Zdt (list,o,d,())->Zme (list,o,d,()) < N+1->ZwE N list o d
def ZiG(N:Nat):List (FuncId × Fs U):=(55,fs Zlm (fun a=> [ZbF a,ZgQ a < N]) ZnQ) ::[(65,Z3k)]
def Zso:Zf U:=lvl [([1],[1]),([1,3,4],[1]),([1,17],[1]),([2],[]),([1,5],[1]),([1,5,22],[1]),([1,5],[1]),([1,5,32],[1]),([2],[]),([1,6],[1]),([1,6,37],[1]),([1,6],[1]),([1,6,47],[1]),([2],[]),([2],[])]
def Z7J(e:Edit)(x5:Int):LSt U:=(L2 [pL 1,pI 5 x5] [(.loc 1,(enc .edit e))])
def Z7I(e:Edit)(x6_a:Int):LSt U:=(L2 [pL 1,pI 6 x6_a] [(.loc 1,(enc .edit e))])
abbrev A55(N:Nat)(p:List Nat):=AW (Z6 (ZiG N)) Try.f55 Zso p
abbrev S55(N:Nat)(p:List Nat):=SW (Z6 (ZiG N)) Try.f55 Zso p
theorem Zz0(N:Nat)(e:Edit)(Q:QT)(h:∀ y_1,y_1=e->let z0:=decide ((2000:Int) < (Z1s y_1.ops 0));let z1:=bif z0 then true else (decide ((2000:Int) < (Z1r y_1.ops 0)));((Zgt (y_1,()))/\((Tr ((!z0)=true))/\(z0=false->(!z0)=true)/\((z1=true->(Q .ret (L2 [pB 2 false] [])))/\(z1=false->(Zo (A55 N [1,1,1,0,1,0,0]) (Z7J e 0) (xB 0 (S55 N [1,1,1,1] Q)))))))):
  A55 N [] (L2 [(0,.agg (enc .edit e))] []) Q:=
 Eq.mpr (by kernel_rfl) (h _ (Zd _))
theorem Zr2(N:Nat)(e:Edit)(x5:Int)(N0:NT)(Q:QT)(h:∀ y_1,y_1=(e.kids.getD x5.toNat (KidOf.mk 0 Edit.nil))->∀ y_2,y_2=(y_1.e)->let z0:=decide (x5 < (e.kids.length:Int));((z0=true->((0:Int)<=x5/\x5 < (e.kids.length:Int))/\(ZbF (y_2,()))/\(ZgQ (y_2,()) < N)/\(((!(Y6 y_2))=true->(Q .ret (L2 [pB 2 false] [])))/\((!(Y6 y_2))=false->(InR (x5+1))/\(N0 (Z7J e (x5+1))))))/\(z0=false->(Zo (A55 N [1,1,1,1,0,1,0,0]) (Z7I e 0) (xB 2 (S55 N [1,1,1,1,1] Q)))))):
  A55 N [1,1,1,0,1,0,0] (Z7J e x5) (xT N0 (xB 0 (S55 N [1,1,1,1] Q))):=
 Eq.mpr (by kernel_rfl) (h _ rfl _ (Zd _))
theorem Zr1(N:Nat)(e:Edit)(x6_a:Int)(N1:NT)(Q:QT)(h:∀ y_1,y_1=(e.ops.getD x6_a.toNat Op.nil)->∀ y_2,y_2=(y_1.e)->let z0:=decide (x6_a < (e.ops.length:Int));((z0=true->((0:Int)<=x6_a/\x6_a < (e.ops.length:Int))/\(ZbF (y_2,()))/\(ZgQ (y_2,()) < N)/\(((!(Y6 y_2))=true->(Q .ret (L2 [pB 2 false] [])))/\((!(Y6 y_2))=false->(InR (x6_a+1))/\(N1 (Z7I e (x6_a+1))))))/\(z0=false->(Q .ret (L2 [pB 2 true] []))))):
  A55 N [1,1,1,1,0,1,0,0] (Z7I e x6_a) (xT N1 (xB 2 (S55 N [1,1,1,1,1] Q))):=
 Eq.mpr (by kernel_rfl) (h _ rfl _ (Zd _))
def ZwI(N:Nat)(e:Edit):Prop:=AW (Z6 (ZiG N)) Try.f55 Zso [] (Zm (Zlm.can (e,())) []) (EQ Try.f55 (ZnQ (e,())) [])
theorem Zv1(c65:CT 65 Z3k)(hb:∀ (N:Nat) (e:Edit) (_:Unit),ZbF (e,())->ZgQ (e,()) < N+1->ZwI N e):CT 55 Zb9:=
 Ja (μ:=ZgQ) (l:=[(65,Z3k)]) Zn rfl (⟨c65,trivial⟩) Zso Try.func55 rfl rfl 1 (fun _=> rfl) (by decide) (fun N ⟨e,_⟩=> hb N e ())
def ZpI:List (FuncId × Fs U):=[(54,Zba),(23,Zbf),(55,Zb9)]
abbrev A15(p:List Nat):=AW (Z6 ZpI) Try.f15 Zvi p
theorem Zza(e:Edit)(Q:QT)(h:∀ y_1,y_1=e->let z1:=decide (0<=Z0q y_1 80 3000);let z0:=bif z1 then (Z5 y_1 64) else false;((Zoh (y_1,()))/\(Tr (z1=true))/\(z1=true->Z9h (y_1,64,()))/\(Tr (z1=true))/\(Tr (z0=true))/\(z0=true->ZbF (y_1,()))/\(Tr (z0=true))/\(Q .ret (L2 [(2,.c (.bool (bif z0 then (Y6 y_1) else false)))] [])))):
  A15 [] (L2 [(0,.agg (enc .edit e))] []) Q:=
 Eq.mpr (by kernel_rfl) (h _ (Zd _))
def ZwS(e:Edit):Prop:=AW (Z6 ZpI) Try.f15 Zvi [] (Zm (Zlm.can (e,())) []) (EQ Try.f15 (ZtN (e,())) [])
theorem Zva(c54:CT 54 Zba)(c23:CT 23 Zbf)(c55:CT 55 Zb9)(hb:∀ (e:Edit) (_:Unit),Zgv (e,())->ZwS e):CT 15 Zbg:=
 Z4 (l:=[(54,Zba),(23,Zbf),(55,Zb9)]) Zn rfl (⟨c54,c23,c55,trivial⟩) Zvi Try.func15 rfl rfl 1 (fun _=> rfl) (by decide) (fun ⟨e,_⟩=> hb e ())
theorem Zml(c62:CT 62 Z3l)(c63:CT 63 Z8b)(Zw8:CT 104 Z4P)(c37:CT 37 Z3m)(c65:CT 65 Z3k)(ha:ZyF)(hb:ZyD):CT 23 Zbf/\CT 64 ZnF:=
 Z5T (μA:=Zf2) (μB:=Zme) (l:=[(62,Z3l),(63,Z8b),(104,Z4P),(37,Z3m),(65,Z3k)]) Zn rfl (⟨c62,c63,Zw8,c37,c65,trivial⟩) Zsr Zsn Try.func23 Try.func64 rfl rfl rfl rfl 2 3 (fun _=> rfl) (fun _=> rfl) (by decide) (by decide) (fun N ⟨e,d,_⟩=> ha N e d ()) (fun N ⟨list,o,d,_⟩=> hb N list o d ())
end
theorem Z3Q{n:Int}(h0:0<=n)(h1:n < 18446744073709551616):IntKind.wrap .u64 n=n:=by
 simp [IntKind.wrap,IntKind.signed,IntKind.bits];omega
theorem Z4H{n:Int}(h0:0<=n)(h1:n < 256):IntKind.wrap .u8 n=n:=by
 simp [IntKind.wrap,IntKind.signed,IntKind.bits];omega
theorem Zlq{i:Int}{j:Nat}{v:Int}{F G:Nat->Int}(hi:0<=i)(hv:v=F i.toNat):Z14 i j v (if (j:Int) < i then F j else G j)=if (j:Int) < i+1 then F j else G j:=by
 unfold Z14
 by_cases h:i=j
 ·subst h
  rw [if_pos rfl,if_pos (by omega),hv]
  simp
 ·rw [if_neg h]
  by_cases h2:(j:Int) < i
  ·rw [if_pos h2,if_pos (by omega)]
  ·rw [if_neg h2,if_neg (by omega)]
theorem Zsy{i:Int}{j:Nat}{F G:Nat->Int}(h:F i.toNat=G i.toNat)(hi:0<=i):(if (j:Int) < i then F j else G j)=if (j:Int) < i+1 then F j else G j:=by
 by_cases h2:(j:Int) < i
 ·rw [if_pos h2,if_pos (by omega)]
 ·by_cases h3:(j:Int)=i
  ·subst h3
   rw [if_neg h2,if_pos (by omega)]
   simpa using h.symm
  ·rw [if_neg h2,if_neg (by omega)]
theorem Z0w(w:Int)(i:Nat):0<=Z9 w i/\Z9 w i < 256:=by
 unfold Z9
 omega
theorem Z4D{w:Int}(h:0<=w)(i:Nat):0<=w / 256 ^ i:=KC h (XY (Kj (by omega)))
theorem ZcB{w:Int}(h:0<=w)(i:Nat):w / 256 ^ i<=w:=Kw _ h
theorem Zfn(w:Int)(i:Nat):w / 256 ^ i / 256=w / 256 ^ (i+1):=by
 rw [Int.ediv_ediv_of_nonneg (XY (Kj (by omega))),Kt]
theorem c67:Contract Try.prog cfg 67 Zb7:=by
 refine ZuW ?_
 intro w _ hp
 simp only [Zgs] at hp
 refine ZyT _ _ ?_;(try simp only [vcT,forall_eq])
 refine Zb (ι:=Int) (fun i=> Z4v w (w / 256 ^ i.toNat) i (if ((0:Nat):Int) < i then Z9 w 0 else 0) (if ((1:Nat):Int) < i then Z9 w 1 else 0) (if ((2:Nat):Int) < i then Z9 w 2 else 0) (if ((3:Nat):Int) < i then Z9 w 3 else 0)
  (if ((4:Nat):Int) < i then Z9 w 4 else 0) (if ((5:Nat):Int) < i then Z9 w 5 else 0) (if ((6:Nat):Int) < i then Z9 w 6 else 0) (if ((7:Nat):Int) < i then Z9 w 7 else 0)) (fun i=> 0<=i/\i<=8) (fun i=> (8 - i).toNat) 0 ?_ ⟨by omega,by omega⟩ ?_
 ·simp [Z4v]
 ·rintro i ⟨h1,h2⟩
  refine ZqT _ _ _ _ _ _ _ _ _ _ _ _ _ ?_;(try simp only [vcT,forall_eq])
  (simp only [vcS]);(try simp only [vcT])
  refine ⟨fun hc=> ⟨by omega,⟨h1,by omega⟩,by omega,by unfold InR;omega,i+1,?_,⟨by omega,by omega⟩,by omega⟩,fun hc=> ?_⟩
  ·have hd:=Z4D hp.1 i.toNat
   have hl:=ZcB hp.1 i.toNat
   have e1:IntKind.wrap .u64 (Int.tdiv (w / 256 ^ i.toNat) 256)=w / 256 ^ (i+1).toNat:=by
    rw [XP hd,Zfn,show i.toNat+1=(i+1).toNat by omega]
    exact Z3Q (Z4D hp.1 _) (Int.lt_of_le_of_lt (ZcB hp.1 _) hp.2)
   have e2:IntKind.wrap .u8 (Int.tmod (w / 256 ^ i.toNat) 256)=Z9 w i.toNat:=by
    rw [Int.tmod_eq_emod_of_nonneg hd]
    exact Z4H (Z0w w _).1 (Z0w w _).2
   rw [e1]
   have st:∀ j:Nat,Z14 i j (IntKind.wrap .u8 (Int.tmod (w / 256 ^ i.toNat) 256)) (if (j:Int) < i then Z9 w j else 0)=if (j:Int) < i+1 then Z9 w j else 0:=fun j=> Zlq (F:=Z9 w) (G:=fun _=> 0) h1 e2
   rw [st 0,st 1,st 2,st 3,st 4,st 5,st 6,st 7]
  ·have:i=8:=by omega
   subst this
   simp only [ZnO]
   exact ⟨⟨rfl,⟨⟨rfl,rfl⟩,⟨rfl,rfl⟩,⟨rfl,rfl⟩,⟨rfl,rfl⟩,⟨rfl,rfl⟩,⟨rfl,rfl⟩,⟨rfl,rfl⟩,⟨rfl,rfl⟩,trivial⟩,trivial⟩,trivial⟩
theorem c68:Contract Try.prog cfg 68 Zb6:=by
 refine ZuV ?_
 intro m i _ hp
 simp only [ZjN] at hp
 refine ZyS _ _ _ ?_;(try simp only [vcT,forall_eq])
 refine Zb (ι:=Int) (fun k=> Z7C m i (m / 2 ^ k.toNat) k) (fun k=> 0<=k/\k<=i) (fun k=> (i - k).toNat) 0 ?_ ⟨by omega,by omega⟩ ?_
 ·simp
 ·rintro k ⟨h1,h2⟩
  refine ZqS _ _ _ _ _ _ ?_;(try simp only [vcT,forall_eq])
  have hd:0<=m / 2 ^ k.toNat:=KC hp.1.1 (XY (Kj (by omega)))
  have hl:m / 2 ^ k.toNat<=m:=Kw _ hp.1.1
  (simp only [vcS])
  refine ⟨fun hc=> ⟨by omega,by unfold InR;omega,k+1,?_,⟨by omega,by omega⟩,by omega⟩,fun hc=> ⟨by omega,Ze rfl ?_⟩⟩
  ·have e:IntKind.wrap .u8 (Int.tdiv (m / 2 ^ k.toNat) 2)=m / 2 ^ (k+1).toNat:=by
    rw [XP hd,Int.ediv_ediv_of_nonneg (XY (Kj (by omega))),show (2:Int) ^ k.toNat*2=2 ^ (k+1).toNat by rw [<-Kt];congr 1;omega]
    refine Z4H (KC hp.1.1 (XY (Kj (by omega)))) (Int.lt_of_le_of_lt (Kw _ hp.1.1) hp.1.2)
   rw [e]
  ·have:k=i:=by omega
   subst this
   rw [Int.tmod_eq_emod_of_nonneg hd]
   try rfl
def Z9O(f:Nat->Int):Nat->Int
 | 0=> 0
 | k+1=> f (7 - k)+256*Z9O f k
theorem ZaQ{f:Nat->Int}(h:∀ i,0<=f i/\f i < 256):∀ k,0<=Z9O f k/\Z9O f k < 256 ^ k
 | 0=> by simp [Z9O]
 | k+1=> by
  have:=ZaQ h k
  have h2:=h (7 - k)
  simp only [Z9O,Kt]
  omega
theorem Zut(f:Nat->Int):Z9O f 8=of8 f:=by simp [Z9O,of8]
theorem c69:Contract Try.prog cfg 69 Zb5:=by
 refine ZuU ?_
 intro b z _ hp
 obtain ⟨rfl,hl,hb⟩:=hp
 dsimp only at hl hb
 refine ZyR _ _ _ ?_;(try simp only [vcT,forall_eq])
 have hf:∀ i,0<=b.getD i 0/\b.getD i 0 < 256:=by
  intro i
  by_cases hi:i < b.length
  ·have:b.getD i 0∈b:=by
    simp only [List.getD,Q4 hi,Xi]
    exact XM hi
   exact hb _ this
  ·rw [List.getD,Qu (by omega)];simp
 refine Zb (ι:=Int) (fun i=> Z7B b 0 (Z9O (fun i=> b.getD i 0) (7 - i).toNat) i) (fun i=> -1<=i/\i<=7) (fun i=> (i+1).toNat) 7 rfl ⟨by omega,by omega⟩ ?_
 rintro i ⟨h1,h2⟩
 refine ZqR _ _ _ _ _ _ ?_;(try simp only [vcT,forall_eq])
 (simp only [vcS]);(try simp only [vcT])
 have hr:=ZaQ (f:=fun i=> b.getD i 0) hf (7 - i).toNat
 refine ⟨fun hc=> ⟨by unfold InR;omega,by omega,by unfold InR;omega,i - 1,?_,⟨by omega,by omega⟩,by omega⟩,fun hc=> Yx rfl ?_⟩
 ·have hp7:(256:Int) ^ (7 - i).toNat<=256 ^ 7:=by
   have:(256:Int) ^ (7 - i).toNat=((256 ^ (7 - i).toNat:Nat):Int):=by simp
   rw [this]
   have h7:(256:Nat) ^ (7 - i).toNat<=256 ^ 7:=Nat.pow_le_pow_right (by omega) (by omega)
   have:((256:Nat) ^ 7:Nat)=72057594037927936:=by decide
   omega
  have e7:(256:Int) ^ 7=72057594037927936:=by decide
  have hfi:=hf i.toNat
  have e:Z9O (fun i=> b.getD i 0) (7 - (i - 1)).toNat=b.getD i.toNat 0+256*Z9O (fun i=> b.getD i 0) (7 - i).toNat:=by
   rw [show (7 - (i - 1)).toNat=(7 - i).toNat+1 by omega]
   simp only [Z9O]
   rw [show 7 - (7 - i).toNat=i.toNat by omega]
  rw [e,show (0+i).toNat=i.toNat by omega,Z3Q (n:=Z9O (fun i=> b.getD i 0) (7 - i).toNat*256) (by omega) (by omega),Z3Q (n:=b.getD i.toNat 0) (by omega) (by omega),Z3Q (by omega) (by omega)]
  congr 1
  omega
 ·have:i= -1:=by omega
  subst this
  exact Zut _
theorem Zyc(f:Nat->Int){i:Nat}(h:i < 8):List.getD [f 0,f 1,f 2,f 3,f 4,f 5,f 6,f 7] i 0=f i:=by
 match i,h with
 | 0,_=> rfl
 | 1,_=> rfl
 | 2,_=> rfl
 | 3,_=> rfl
 | 4,_=> rfl
 | 5,_=> rfl
 | 6,_=> rfl
 | 7,_=> rfl
theorem Z4i(a b m:Int)(i:Nat):0<=YU a b m i/\YU a b m i < 256:=by
 unfold YU
 split
 ·exact Z0w _ _
 ·exact Z0w _ _
theorem Zw9:Contract Try.prog cfg 103 Z6M:=by
 refine Zsd c67 c68 c69 ?_
 intro a b m _ hp
 simp only [ZeV] at hp
 refine ZxN _ _ _ _ ?_;(try simp only [vcT,forall_eq])
 refine ⟨hp.1,hp.2.1,?_⟩
 refine Zb (ι:=Int) (fun i=> Z1M a b m i (if ((0:Nat):Int) < i then YU a b m 0 else Z9 a 0) (if ((1:Nat):Int) < i then YU a b m 1 else Z9 a 1) (if ((2:Nat):Int) < i then YU a b m 2 else Z9 a 2) (if ((3:Nat):Int) < i then YU a b m 3 else Z9 a 3)
  (if ((4:Nat):Int) < i then YU a b m 4 else Z9 a 4) (if ((5:Nat):Int) < i then YU a b m 5 else Z9 a 5) (if ((6:Nat):Int) < i then YU a b m 6 else Z9 a 6) (if ((7:Nat):Int) < i then YU a b m 7 else Z9 a 7)) (fun i=> 0<=i/\i<=8) (fun i=> (8 - i).toNat) 0 ?_ ⟨by omega,by omega⟩ ?_
 ·simp [Z1M]
 ·rintro i ⟨h1,h2⟩
  refine Znx _ _ _ _ _ _ _ _ _ _ _ _ _ _ ?_;(try simp only [vcT,forall_eq])
  (simp only [vcS]);(try simp only [vcT])
  refine ⟨fun hc=> ⟨⟨hp.2.2,h1,by dsimp only;omega⟩,fun hn=> ⟨⟨h1,by omega⟩,⟨h1,by omega⟩,by unfold InR;omega,i+1,?_,⟨by omega,by omega⟩,by omega⟩,fun hn=> ⟨by unfold InR;omega,i+1,?_,⟨by omega,by omega⟩,by omega⟩⟩,fun hc=> ?_⟩
  ·rw [Zyc (Z9 b) (by omega)]
   have hv:Z9 b i.toNat=YU a b m i.toNat:=by
    unfold YU
    rw [show ((i.toNat:Nat):Int)=i by omega,hn]
    try rfl
   have st:∀ j:Nat,Z14 i j (Z9 b i.toNat) (if (j:Int) < i then YU a b m j else Z9 a j)=if (j:Int) < i+1 then YU a b m j else Z9 a j:=fun j=> Zlq (F:=YU a b m) (G:=Z9 a) h1 hv
   rw [st 0,st 1,st 2,st 3,st 4,st 5,st 6,st 7]
  ·have hv:YU a b m i.toNat=Z9 a i.toNat:=by
    unfold YU
    rw [show ((i.toNat:Nat):Int)=i by omega,hn]
    try rfl
   have st:∀ j:Nat,(if (j:Int) < i then YU a b m j else Z9 a j)=if (j:Int) < i+1 then YU a b m j else Z9 a j:=fun j=> Zsy (F:=YU a b m) (G:=Z9 a) hv h1
   rw [st 0,st 1,st 2,st 3,st 4,st 5,st 6,st 7]
  ·have:i=8:=by omega
   subst this
   refine ⟨⟨rfl,rfl,?_⟩,Yx rfl ?_⟩
   ·intro x hx
    simp at hx
    rcases hx with rfl | rfl | rfl | rfl | rfl | rfl | rfl | rfl <;> exact Z4i _ _ _ _
   ·try rfl
theorem ZmE{α:Type}{l:List α}{i:Nat}(h:i < l.length)(d:α):l.drop i=l.getD i d ::l.drop (i+1):=by
 rw [QQ h]
 simp [List.getD,h]
theorem J5{α:Type}{l:List α}{i:Int}(h0:0<=i)(h:i < l.length)(d:α):l.drop i.toNat=l.getD i.toNat d ::l.drop (i+1).toNat:=by
 rw [ZmE (by omega) d,show i.toNat+1=(i+1).toNat by omega]
theorem Zl{α:Type}{l:List α}{i:Nat}(h:i < l.length)(d:α):l.getD i d∈l:=by
 simp only [List.getD,Q4 h,Xi]
 exact XM h
theorem Jy(t:Tree):1<=Zi t:=by cases t;simp only [Zi];omega
theorem Z8G(e:Edit):1<=Z8 e:=by cases e;simp only [Z8];omega
theorem Z8E(k:Kid):JI k=Z8 k.e:=by cases k;rfl
theorem ZV(o:Op):Zt o=Z7 o.l+Z8 o.e:=by cases o;rfl
theorem JJ:∀ {ks:List Tree} {t:Tree},t∈ks->Zi t<=Z7 ks
 | x ::r,t,h=> by
  simp only [Z7]
  rcases Qd.1 h with rfl | h
  ·omega
  ·have:=JJ h;omega
theorem Z0M:∀ {ks:List Kid} {k:Kid},k∈ks->Z8 k.e<=ZQ ks
 | x ::r,k,h=> by
  simp only [ZQ,Z8E]
  rcases Qd.1 h with rfl | h
  ·omega
  ·have:=Z0M h;omega
theorem YS:∀ {os:List Op} {o:Op},o∈os->Zt o<=Zg os
 | x ::r,o,h=> by
  simp only [Zg]
  rcases Qd.1 h with rfl | h
  ·omega
  ·have:=YS h;omega
theorem J8:∀ (ks:List Kid),ks.length<=ZQ ks
 | []=> by simp [ZQ]
 | k ::r=> by
  have:=J8 r
  have:=Z8G k.e
  simp only [ZQ,Z8E,Qb]
  omega
theorem Yw:∀ (os:List Op),os.length<=Zg os
 | []=> by simp [Zg]
 | o ::r=> by
  have:=Yw r
  have:=Z8G o.e
  simp only [Zg,ZV,Qb]
  omega
theorem Zbi:∀ {ks:List Tree} {t:Tree},Z1O ks->t∈ks->Z1Q t
 | x ::r,t,hs,h=> by
  simp only [Z1O] at hs
  rcases Qd.1 h with rfl | h
  ·exact hs.1
  ·exact Zbi hs.2 h
theorem Z95:∀ {ks:List Kid} {k:Kid},Z4R ks->k∈ks->Z1P k.e
 | x ::r,k,hs,h=> by
  simp only [Z4R] at hs
  rcases Qd.1 h with rfl | h
  ·have:=hs.1;obtain ⟨a,e⟩:=k;exact this
  ·exact Z95 hs.2 h
theorem Z94:∀ {os:List Op} {o:Op},Z4Q os->o∈os->o.l.length<=17592186044416/\Z1O o.l/\Z1P o.e
 | x ::r,o,hs,h=> by
  simp only [Z4Q] at hs
  rcases Qd.1 h with rfl | h
  ·have:=hs.1;obtain ⟨a,b,c,e⟩:=o;exact this
  ·exact Z94 hs.2 h
theorem YY:∀ {ks:List Tree} {t:Tree},ZU ks->t∈ks->rng t
 | x ::r,t,hs,h=> by
  simp only [ZU] at hs
  rcases Qd.1 h with rfl | h
  ·exact hs.1
  ·exact YY hs.2 h
theorem Ys:∀ {ks:List Kid} {k:Kid},Z2l ks->k∈ks->InR k.at_/\Yl k.e
 | x ::r,k,hs,h=> by
  simp only [Z2l] at hs
  rcases Qd.1 h with rfl | h
  ·have:=hs.1;obtain ⟨a,e⟩:=k;exact this
  ·exact Ys hs.2 h
theorem Z1y:∀ {os:List Op} {o:Op},Z1c os->o∈os->Z1d o
 | x ::r,o,hs,h=> by
  simp only [Z1c] at hs
  rcases Qd.1 h with rfl | h
  ·exact hs.1
  ·exact Z1y hs.2 h
theorem Z1n{o:Op}(h:Z1d o):InR o.kind/\InR o.n/\ZU o.l/\Yl o.e:=by obtain ⟨a,b,c,e⟩:=o;exact h
theorem Zmo(k:Kid)(d n:Int):Z2p k d n=Z0q k.e d n:=by cases k;rfl
theorem Zpq(o:Op)(d n:Int):Z4s o d n=if Zr o.l 80 n < 0 then Zr o.l 80 n else Z0q o.e d (Zr o.l 80 n):=by cases o;rfl
theorem Z8c(t:Tree)(n:Int)(h: -1<=n): -1<=sh1 t n/\sh1 t n<=n:=by
 unfold sh1
 split
 ·omega
 ·have:=Yr t 80 n;omega
mutual
theorem Z12:∀ (e:Edit) (d n:Int),-1<=Z0q e d n/\Z0q e d n<=max n (-1)
 | .mk _ o nw w ks _ os,d,n=> by
  simp only [Z0q]
  split
  ·omega
  ·have h1:=Yr o 80 (n - 1 - w.length - os.length)
   have h2:=Z8c nw _ h1.1
   have h3:=Z1u ks (d - 1) _ h2.1
   have h4:=Z1t os (d - 1) _ h3.1
   omega
theorem Z1u:∀ (ks:List (KidOf Edit)) (d n:Int),-1<=n->-1<=Jz ks d n/\Jz ks d n<=n
 | [],d,n,h=> by simp only [Jz];omega
 | k ::r,d,n,h=> by
  simp only [Jz]
  split
  ·omega
  ·have h1:=Z5P k d n
   have h2:=Z1u r d _ h1.1
   omega
theorem Z5P:∀ (k:KidOf Edit) (d n:Int),-1<=Z2p k d n/\Z2p k d n<=max n (-1)
 | ⟨_,e⟩,d,n=> by
  simp only [Z2p]
  exact Z12 e d n
theorem Z1t:∀ (os:List (OpOf Edit)) (d n:Int),-1<=n->-1<=JQ os d n/\JQ os d n<=n
 | [],d,n,h=> by simp only [JQ];omega
 | o ::r,d,n,h=> by
  simp only [JQ]
  split
  ·omega
  ·have h1:=Z7l o d n h
   have h2:=Z1t r d _ h1.1
   omega
theorem Z7l:∀ (o:OpOf Edit) (d n:Int),-1<=n->-1<=Z4s o d n/\Z4s o d n<=n
 | ⟨_,_,l,e⟩,d,n,h=> by
  simp only [Z4s]
  have h1:=Z0h l 80 n h
  split
  ·omega
  ·have h2:=Z12 e d (Zr l 80 n)
   omega
end
theorem ZnH{t:Tree}{n:Int}(h:0<=sh1 t n):(Zi t:Int)+sh1 t n<=n:=by
 unfold sh1 at*
 split at h
 ·omega
 ·rename_i hn
  rw [if_neg hn]
  exact Z0g t 80 n h
mutual
theorem Z6p:∀ (e:Edit) (d n:Int),0<=Z0q e d n->(Z8 e:Int)+Z0q e d n<=n
 | .mk _ o nw w ks _ os,d,n,h=> by
  simp only [Z0q] at h ⊢
  split at h
  ·omega
  ·rename_i hc
   rw [if_neg hc]
   have r1:=Yr o 80 (n - 1 - w.length - os.length)
   have r2:=Z8c nw _ r1.1
   have r3:=Z1u ks (d - 1) _ r2.1
   have r4:=Z1t os (d - 1) _ r3.1
   have m4:=Z9y os (d - 1) _ h
   have m3:=Z9z ks (d - 1) (sh1 nw (Zz o 80 (n - 1 - w.length - os.length))) (by omega)
   have m2:=ZnH (t:=nw) (n:=Zz o 80 (n - 1 - w.length - os.length)) (by omega)
   have m1:=Z0g o 80 (n - 1 - w.length - os.length) (by omega)
   simp only [Z8]
   omega
theorem Z9z:∀ (ks:List (KidOf Edit)) (d n:Int),0<=Jz ks d n->(ZQ ks:Int)+Jz ks d n<=n
 | [],d,n,h=> by simp only [Jz,ZQ];omega
 | k ::r,d,n,h=> by
  simp only [Jz] at h ⊢
  split at h
  ·omega
  ·rename_i hc
   rw [if_neg hc]
   have r1:=Z5P k d n
   have r2:=Z1u r d _ r1.1
   have m2:=Z9z r d _ h
   have m1:=Zf8 k d n (by omega)
   simp only [ZQ]
   omega
theorem Zf8:∀ (k:KidOf Edit) (d n:Int),0<=Z2p k d n->(JI k:Int)+Z2p k d n<=n
 | ⟨_,e⟩,d,n,h=> by
  simp only [Z2p,JI] at h ⊢
  exact Z6p e d n h
theorem Z9y:∀ (os:List (OpOf Edit)) (d n:Int),0<=JQ os d n->(Zg os:Int)+JQ os d n<=n
 | [],d,n,h=> by simp only [JQ,Zg];omega
 | o ::r,d,n,h=> by
  simp only [JQ] at h ⊢
  split at h
  ·omega
  ·rename_i hc
   rw [if_neg hc]
   have r1:=Z7l o d n (by omega)
   have r2:=Z1t r d _ r1.1
   have m2:=Z9y r d _ h
   have m1:=Zh0 o d n (by omega)
   simp only [Zg]
   omega
theorem Zh0:∀ (o:OpOf Edit) (d n:Int),0<=Z4s o d n->(Zt o:Int)+Z4s o d n<=n
 | ⟨_,_,l,e⟩,d,n,h=> by
  simp only [Z4s,Zt] at h ⊢
  split at h
  ·omega
  ·rename_i hc
   rw [if_neg hc]
   have m2:=Z6p e d _ h
   have r2:=Z12 e d (Zr l 80 n)
   have m1:=Z2t l 80 n (by omega)
   omega
end
theorem Z8T{e:Edit}(h:0<=Z0q e 80 3000):Z8 e<=3000:=by
 have:=Z6p e 80 3000 h
 omega
theorem Zpp(t:Tree):t.words.length+t.kids.length < Zi t:=by
 obtain ⟨k,w,ks⟩:=t
 have:=Zv ks
 simp only [Zi,Tree.words_mk,Tree.kids_mk]
 omega
theorem Je(e:Edit):Zi e.old+Zi e.new+e.words.length+e.ops.length+ZQ e.kids+Zg e.ops < Z8 e:=by
 obtain ⟨k,o,n,w,ks,l,os⟩:=e
 simp only [Z8,Edit.old_mk,Edit.new_mk,Edit.words_mk,Edit.ops_mk,Edit.kids_mk]
 omega
theorem c62:Contract Try.prog cfg 62 Z3l:=by
 refine Zv0 ?_
 intro t _ hp
 simp only [Z48] at hp
 have:=Zpp t
 refine ZyY t _ ?_;(try simp only [vcT,forall_eq])
 refine ⟨fun _=> by unfold InR;omega,Ze rfl ?_⟩
 rw [QD]
 simp only [Ji]
 (simp only [vcS])
 omega
theorem c63:Contract Try.prog cfg 63 Z8b:=by
 refine ZuZ Zw9 ?_
 intro w m _ hp
 refine ZyX _ _ _ ?_;(try simp only [vcT,forall_eq])
 refine ⟨⟨hp.1,by dsimp only;omega,hp.2⟩,Ze rfl ?_⟩
 try rfl
theorem Zw8:Contract Try.prog cfg 104 Z4P:=by
 refine Zsc c62 ?_
 intro e _ hp
 simp only [Z6c] at hp
 have h1:=Je e
 have h2:=J8 e.kids
 refine ZxM e _ ?_;(try simp only [vcT,forall_eq])
 try (simp only [Tree.eta,Edit.eta,Tree.kind_mk,Tree.words_mk,Tree.kids_mk])
 refine ⟨fun _=> by simp only [Z48];omega,fun _=> by simp only [Z48];omega,fun _=> by unfold InR;omega,fun _=> by unfold InR;omega,Ze rfl ?_⟩
 rw [QD]
 simp only [Z1b]
 (simp only [vcS])
 constructor
 ·rintro ⟨⟨⟨⟨h3,h4⟩,h5⟩,h6⟩,h7⟩;exact ⟨⟨⟨h3,h4⟩,h5⟩,by omega⟩
 ·rintro ⟨⟨⟨h3,h4⟩,h5⟩,h6⟩;exact ⟨⟨⟨⟨h3,h4⟩,h5⟩,by omega⟩,by omega⟩
theorem Zvp (e:Edit) (x4 x5 i:Int) (N0:LSt U->Prop) (Q:AExit->LSt U->Prop) (h1:0<=x4/\x4<=1048576) (h2:0<=x5/\x5<=1048576) (hi:0<=i) (hlen:e.ops.length<=20000000000)
  (ho:∀ o∈e.ops,(0<=o.n/\o.n<=1048576)/\o.l.length<=20000000000)
  (h:i < e.ops.length->N0 (Z27 e (min (if (e.ops.getD i.toNat Op.nil).kind=2 then x4 else x4+Z1 (e.ops.getD i.toNat Op.nil)) 1048576) (min (if (e.ops.getD i.toNat Op.nil).kind=1 then x5 else x5+Z1 (e.ops.getD i.toNat Op.nil)) 1048576) (i+1)))
  (h':¬i < e.ops.length->Q .ret (⟨[(2,.c (.int .i64 x4)),(3,.c (.int .i64 x5))],[],[]⟩:LSt U)):Zwi e x4 x5 i N0 Q:=by
 refine ZqU _ _ _ _ _ _ ?_;(try simp only [vcT,forall_eq])
 (simp only [vcS]);(try simp only [vcT])
 refine ⟨fun hc=> ?_,h'⟩
 have hn:=h hc
 have hm:=ho _ (Zl (l:=e.ops) (i:=i.toNat) (by omega) Op.nil)
 have k1:∀ k,k=Z1 (e.ops.getD i.toNat Op.nil)->Zwm e x4 x5 i k N0 Q:=by
  intro k hk
  have hkr:0<=k/\k<=60000000000:=by
   rw [hk];unfold Z1;split <;> omega
  have k2:∀ y,y=(if (e.ops.getD i.toNat Op.nil).kind=2 then x4 else x4+k)->Zwl e x5 i k y N0 Q:=by
   intro y hy
   have hyr:0<=y/\y<=100000000000:=by rw [hy];split <;> omega
   have k3:∀ z,z=(if (e.ops.getD i.toNat Op.nil).kind=1 then x5 else x5+k)->Zwk e i k y z N0 Q:=by
    intro z hz
    have hzr:0<=z/\z<=100000000000:=by rw [hz];split <;> omega
    have k4:∀ u,u=min y 1048576->Zwj e i y z u N0 Q:=by
     intro u hu
     refine ZqV _ _ _ _ _ _ _ ?_;(try simp only [vcT,forall_eq])
     (simp only [vcS]);(try simp only [vcT])
     rw [<-hk,<-hy,<-hz,<-hu] at hn
     refine ⟨fun hq=> ⟨by unfold InR;omega,?_⟩,fun hq=> ⟨by unfold InR;omega,?_⟩⟩
     ·rw [show min z 1048576=1048576 by omega] at hn;exact hn
     ·rw [show min z 1048576=z by omega] at hn;exact hn
    refine ZqW _ _ _ _ _ _ _ ?_;(try simp only [vcT,forall_eq])
    (simp only [vcS]);(try simp only [vcT])
    exact ⟨fun hq=> k4 _ (by omega),fun hq=> k4 _ (by omega)⟩
   refine ZqX _ _ _ _ _ _ _ ?_;(try simp only [vcT,forall_eq])
   (simp only [vcS]);(try simp only [vcT])
   exact ⟨fun hq=> ⟨by unfold InR;omega,k3 _ (by rw [if_neg hq])⟩,fun hq=> k3 _ (by rw [if_pos hq])⟩
  refine ZqY _ _ _ _ _ _ _ ?_;(try simp only [vcT,forall_eq])
  (simp only [vcS]);(try simp only [vcT])
  exact ⟨fun hq=> ⟨by unfold InR;omega,k2 _ (by rw [if_neg hq])⟩,fun hq=> k2 _ (by rw [if_pos hq])⟩
 exact ⟨⟨hi,hc⟩,by unfold InR;omega,fun hq=> k1 _ (by unfold Z1;rw [if_pos hq]),fun hq=> k1 _ (by unfold Z1;rw [if_neg hq])⟩
theorem c65:Contract Try.prog cfg 65 Z3k:=by
 refine ZuY ?_
 intro e _ hp
 simp only [Zgt] at hp
 have h1:=Je e
 refine ZyV e _ ?_;(try simp only [vcT,forall_eq])
 refine Zb (ι:=Int × Int × Int) (fun p=> Z27 e p.1 p.2.1 p.2.2) (fun p=> 0<=p.2.2/\p.2.2<=e.ops.length/\(0<=p.1/\p.1<=1048576)/\(0<=p.2.1/\p.2.1<=1048576)/\Z1s (e.ops.drop p.2.2.toNat) p.1=Z1s e.ops 0/\Z1r (e.ops.drop p.2.2.toNat) p.2.1=Z1r e.ops 0) (fun p=> ((e.ops.length:Int) - p.2.2).toNat) (0,0,0) rfl ⟨by dsimp only;omega,by dsimp only;omega,by dsimp only;omega,by dsimp only;omega,by simp,by simp⟩ ?_
 rintro ⟨x4,x5,i⟩ ⟨h2,h3,h4,h5,h6,h7⟩
 dsimp only at*
 have ho:∀ o∈e.ops,(0<=o.n/\o.n<=1048576)/\o.l.length<=20000000000:=by
  intro o hm
  refine ⟨hp.2 o hm,?_⟩
  have a1:=YS hm
  have a2:=Zv o.l
  rw [ZV] at a1
  omega
 refine Zvp e x4 x5 i _ _ h4 h5 h2 (by omega) ho (fun hc=> ⟨(_,_,i+1),rfl,⟨by dsimp only;omega,by dsimp only;omega,?_,?_,?_,?_⟩,by dsimp only;omega⟩) (fun hc=> ?_)
 ·have hm:=ho _ (Zl (l:=e.ops) (i:=i.toNat) (by omega) Op.nil)
  dsimp only
  unfold Z1
  split <;> (try split) <;> omega
 ·have hm:=ho _ (Zl (l:=e.ops) (i:=i.toNat) (by omega) Op.nil)
  dsimp only
  unfold Z1
  split <;> (try split) <;> omega
 ·rw [J5 h2 hc Op.nil] at h6
  exact h6
 ·rw [J5 h2 hc Op.nil] at h7
  exact h7
 ·rw [Qn (by omega)] at h6 h7
  simp only [Z1s,Z1r] at h6 h7
  simp only [ZnP,<-h6,<-h7]
  exact ⟨⟨rfl,⟨⟨rfl,rfl⟩,trivial⟩,rfl,⟨⟨rfl,rfl⟩,trivial⟩,trivial⟩,trivial⟩
theorem Ziu{l:List Kid}{d n:Int}(h:n < 0):Jz l d n=n:=by cases l <;> simp [Jz,h]
theorem Zit{l:List Op}{d n:Int}(h:n < 0):JQ l d n=n:=by cases l <;> simp [JQ,h]
theorem Zeh{l:List Tree}{d n:Int}(h:n < 0):Zr l d n=n:=by cases l <;> simp [Zr,h]
theorem ZlJ{e:Edit}(h:Z1P e):Z1Q e.old/\Z1Q e.new/\e.words.length<=17592186044416/\e.kids.length<=17592186044416/\e.ops.length<=17592186044416/\Z4R e.kids/\Z4Q e.ops:=by
 obtain ⟨k,o,n,w,ks,l,os⟩:=e;exact h
theorem Zpr(e:Edit)(d n:Int):Z0q e d n=if d=0\/n - 1 - e.words.length - e.ops.length < 0 then -1 else JQ e.ops (d - 1) (Jz e.kids (d - 1) (sh1 e.new (Zz e.old 80 (n - 1 - e.words.length - e.ops.length)))):=by
 obtain ⟨k,o,nw,w,ks,l,os⟩:=e;rfl
theorem c90:Contract Try.prog cfg 90 Zb2:=by
 refine ZuP c78 ?_
 rintro N e d n _ hp hN
 simp only [ZbD,ZgP] at hp hN
 obtain ⟨hs,hd0,hd1,hn0,hn1⟩:=hp
 obtain ⟨so,sn,lw,lk,lo,sk,sos⟩:=ZlJ hs
 have hme:=Je e
 have hres:=Zpr e d n
 refine ZyK N e d n _ ?_;(try simp only [vcT,forall_eq])
 (simp only [vcS]);(try simp only [vcT])
 try (simp only [Tree.eta,Edit.eta,Tree.kind_mk,Tree.words_mk,Tree.kids_mk])
 refine ⟨by unfold InR;omega,by unfold InR;omega,by unfold InR;omega,fun hc=> Yx rfl (by rw [hres,if_pos hc]),fun hc=> ?_⟩
 rw [if_neg (by omega)] at hres
 have r1:=Yr e.old 80 (n - 1 - e.words.length - e.ops.length)
 have p68:∀ t m,Z1Q t->-1<=m->m<=4611686018427387904->Z71 (t,80,m,()):=fun t m h1 h2 h3=> ⟨h1,by dsimp only;omega,by dsimp only;omega,h2,h3⟩
 have k0:∀ x,x=sh1 e.new (Zz e.old 80 (n - 1 - e.words.length - e.ops.length))->Zwh N e d n x (YN cfg Try.f90.ntmps Try.f90.results.toList (ZjB (e,d,n,())) []):=by
  intro x hx
  have rx:=Z8c e.new _ r1.1
  rw [<-hx] at rx hres
  refine ZqK N e d n x _ ?_;(try simp only [vcT,forall_eq])
  refine Zb (ι:=Int × Int) (fun p=> Z7t e d n p.1 p.2) (fun p=> 0<=p.2/\p.2<=e.kids.length/\-1<=p.1/\p.1<=4611686018427387904/\Jz (e.kids.drop p.2.toNat) (d - 1) p.1=Jz e.kids (d - 1) x) (fun p=> ((e.kids.length:Int) - p.2).toNat) (x,0) rfl ⟨by dsimp only;omega,by dsimp only;omega,by dsimp only;omega,by dsimp only;omega,by simp⟩ ?_
  rintro ⟨y,i⟩ ⟨h1,h2,h3,h4,h5⟩
  dsimp only at*
  refine ZqJ N e d n y i _ _ ?_;(try simp only [vcT,forall_eq])
  (simp only [vcS]);(try simp only [vcT])
  try (simp only [Tree.eta,Edit.eta,Tree.kind_mk,Tree.words_mk,Tree.kids_mk])
  refine ⟨fun hi=> ?_,fun hi=> ?_⟩
  ·have hmem:=Zl (l:=e.kids) (i:=i.toNat) (by omega) (KidOf.mk 0 Edit.nil)
   have hsm:=Z95 sk hmem
   have hmm:=Z0M hmem
   rw [J5 h1 hi.1 (KidOf.mk 0 Edit.nil)] at h5
   simp only [Jz] at h5
   rw [if_neg (by omega),Zmo] at h5
   have rr:=Z12 (e.kids.getD i.toNat (KidOf.mk 0 Edit.nil)).e (d - 1) y
   exact ⟨⟨h1,hi.1⟩,by unfold InR;omega,⟨hsm,by dsimp only;omega,by dsimp only;omega,h3,h4⟩,by simp only [ZgP];omega,by unfold InR;omega,(_,i+1),rfl,⟨by dsimp only;omega,by dsimp only;omega,by dsimp only;omega,by dsimp only;omega,h5⟩,by dsimp only;omega⟩
  ·have hy:Jz e.kids (d - 1) x=y:=by
    rw [<-h5]
    by_cases hlt:i < e.kids.length
    ·exact Ziu (by omega)
    ·rw [Qn (by omega)];try rfl
   rw [hy] at hres
   refine Zb (ι:=Int × Int) (fun p=> Z4u e d n p.1 p.2) (fun p=> 0<=p.2/\p.2<=e.ops.length/\-1<=p.1/\p.1<=4611686018427387904/\JQ (e.ops.drop p.2.toNat) (d - 1) p.1=JQ e.ops (d - 1) y) (fun p=> ((e.ops.length:Int) - p.2).toNat) (y,0) rfl ⟨by dsimp only;omega,by dsimp only;omega,h3,h4,by simp⟩ ?_
   rintro ⟨z,j⟩ ⟨h6,h7,h8,h9,h10⟩
   dsimp only at*
   refine ZqI N e d n z j _ _ ?_;(try simp only [vcT,forall_eq])
   (simp only [vcS]);(try simp only [vcT])
   refine ⟨fun hj=> ?_,fun hj=> ?_⟩
   ·have hmem:=Zl (l:=e.ops) (i:=j.toNat) (by omega) Op.nil
    have hsm:=Z94 sos hmem
    have hmm:=YS hmem
    rw [ZV] at hmm
    rw [J5 h6 hj.1 Op.nil] at h10
    simp only [JQ] at h10
    rw [if_neg (by omega),Zpq] at h10
    refine Zb (ι:=Int × Int) (fun p=> Z7s e d n j p.1 p.2) (fun p=> 0<=p.2/\p.2<=(e.ops.getD j.toNat Op.nil).l.length/\-1<=p.1/\p.1<=4611686018427387904/\Zr ((e.ops.getD j.toNat Op.nil).l.drop p.2.toNat) 80 p.1=Zr (e.ops.getD j.toNat Op.nil).l 80 z) (fun p=> (((e.ops.getD j.toNat Op.nil).l.length:Int) - p.2).toNat) (z,0) rfl ⟨by dsimp only;omega,by dsimp only;omega,h8,h9,by simp⟩ ?_
    rintro ⟨u,k⟩ ⟨g1,g2,g3,g4,g5⟩
    dsimp only at*
    refine ZqH N e d n j u k _ _ _ ?_;(try simp only [vcT,forall_eq])
    (simp only [vcS]);(try simp only [vcT])
    try (simp only [Tree.eta,Edit.eta,Tree.kind_mk,Tree.words_mk,Tree.kids_mk])
    refine ⟨⟨h6,hj.1⟩,fun hk=> ?_,fun hk=> ?_⟩
    ·have hmt:=Zl (l:=(e.ops.getD j.toNat Op.nil).l) (i:=k.toNat) (by omega) Tree.nil
     rw [J5 g1 hk.1 Tree.nil] at g5
     simp only [Zr] at g5
     rw [if_neg (by omega)] at g5
     have rr:=Yr ((e.ops.getD j.toNat Op.nil).l.getD k.toNat Tree.nil) 80 u
     exact ⟨⟨h6,hj.1⟩,⟨g1,hk.1⟩,p68 _ _ (Zbi hsm.2.1 hmt) g3 g4,by unfold InR;omega,(_,k+1),rfl,⟨by dsimp only;omega,by dsimp only;omega,by dsimp only;omega,by dsimp only;omega,g5⟩,by dsimp only;omega⟩
    ·have hu:Zr (e.ops.getD j.toNat Op.nil).l 80 z=u:=by
      rw [<-g5]
      by_cases hlt:k < (e.ops.getD j.toNat Op.nil).l.length
      ·exact Zeh (by omega)
      ·rw [Qn (by omega)];try rfl
     rw [hu] at h10
     have rr:=Z12 (e.ops.getD j.toNat Op.nil).e (d - 1) u
     refine ⟨fun hq=> ⟨⟨h6,hj.1⟩,by unfold InR;omega,⟨hsm.2.2,by dsimp only;omega,by dsimp only;omega,g3,g4⟩,by simp only [ZgP];omega,by unfold InR;omega,(_,j+1),rfl,⟨by dsimp only;omega,by dsimp only;omega,by dsimp only;omega,by dsimp only;omega,?_⟩,by dsimp only;omega⟩,
      fun hq=> ⟨by unfold InR;omega,(_,j+1),rfl,⟨by dsimp only;omega,by dsimp only;omega,by dsimp only;omega,by dsimp only;omega,?_⟩,by dsimp only;omega⟩⟩
     ·rw [if_neg (by omega)] at h10;exact h10
     ·rw [if_pos (by omega)] at h10;exact h10
   ·refine Yx rfl ?_
    rw [hres,<-h10]
    by_cases hlt:j < e.ops.length
    ·exact (Zit (by omega)).symm
    ·rw [Qn (by omega)];try rfl
 refine ⟨p68 _ _ so (by omega) (by omega),fun hq=> ⟨p68 _ _ sn r1.1 (by omega),k0 _ ?_⟩,fun hq=> k0 _ ?_⟩
 ·unfold sh1;rw [if_neg (by omega)]
 ·unfold sh1;rw [if_pos (by omega)]
theorem c54:Contract Try.prog cfg 54 Zba:=by
 refine Zv2 c90 ?_
 intro e _ hp
 refine Zz1 e _ ?_;(try simp only [vcT,forall_eq])
 try (simp only [Tree.eta,Edit.eta,Tree.kind_mk,Tree.words_mk,Tree.kids_mk])
 exact ⟨⟨hp,by dsimp only;omega,by dsimp only;omega,by dsimp only;omega,by dsimp only;omega⟩,Ze rfl rfl⟩
theorem Z8h(e:Edit)(d:Int):Z5 e d=
  if d=0\/e.kind < 0\/3 < e.kind then false
  else if (e.kind≠1/\¬(Ji e.old=true/\Ji e.new=true))\/(e.kind≠2/\¬(e.words.length=0/\e.kids.length=0))\/(e.kind≠3/\(e.list≠0\/e.ops.length≠0)) then false
  else if e.kind=1 then Zh e.old (dT d) && Zh e.new (dT d) && decide (e.old.kind≠10/\e.new.kind≠10)
  else Yh (-1) e.words && ZB (-1) e.kids (d - 1) && decide (¬(e.kind=3/\(e.list < 2\/9 < e.list))) && ZD e.list e.ops (d - 1) && decide (Z1s e.ops 0 < 1048576/\Z1r e.ops 0 < 1048576):=by
 obtain ⟨k,o,nw,w,ks,l,os⟩:=e;rfl
theorem Z44(last:Int)(k:Kid)(d:Int):Jr last k d=(decide (last < k.at_/\k.at_<=65534/\k.e.kind≠0) && Z5 k.e d):=by cases k;rfl
theorem Z3n(list:Int)(o:Op)(d:Int):Za list o d=
  if o.kind=0 then decide (1<=o.n/\o.n<=1048576/\o.l.length=0) && Z1b o.e
  else if o.n≠0\/o.kind < 0\/3 < o.kind then false
  else if o.kind < 3 then Y3 (dT d) list o.l && decide (0 < o.l.length) && Z1b o.e
  else decide (o.l.length=0/\o.e.kind≠0/\7 < list) && Z5 o.e d && decide (list=8\/o.e.kind=2\/o.e.kind=1/\o.e.old.kind=1/\o.e.new.kind=1):=by
 cases o;rfl
theorem Z8f{list:Int}{o:Op}{d:Int}(h:Za list o d=true):0<=o.n/\o.n<=1048576:=by
 rw [Z3n] at h
 split at h
 ·simp only [Q0,decide_eq_true_eq] at h;omega
 ·split at h
  ·cases h
  ·rename_i h1;omega
theorem rightOs_mem{list d:Int}:∀ {os:List Op} {o:Op},ZD list os d=true->o∈os->Za list o d=true
 | x ::r,o,h,hm=> by
  simp only [ZD,Q0] at h
  rcases Qd.1 hm with rfl | hm
  ·exact h.1
  ·exact rightOs_mem h.2 hm
theorem Z9e{d:Int}:∀ {ks:List Kid} {last:Int} {k:Kid},ZB last ks d=true->k∈ks->Z5 k.e d=true/\k.e.kind≠0
 | x ::r,last,k,h,hm=> by
  simp only [ZB,Q0] at h
  rcases Qd.1 hm with rfl | hm
  ·have:=h.1;rw [Z44] at this;simp only [Q0,decide_eq_true_eq] at this;exact ⟨this.2,this.1.2.2⟩
  ·exact Z9e h.2 hm
theorem Z6Q{e:Edit}(h:Yl e):InR e.kind/\rng e.old/\rng e.new/\(∀ x∈e.words,ZcS x)/\InR e.list/\Z2l e.kids/\Z1c e.ops:=by
 obtain ⟨k,o,n,w,ks,l,os⟩:=e;exact h
theorem b23:ZyF:=by
 intro N e d _ hp hN
 simp only [Z9h,Zf2] at hp hN
 obtain ⟨⟨hm,hr⟩,hd0,hd1⟩:=hp
 obtain ⟨ik,ro,rn,rw',il,rk,ros⟩:=Z6Q hr
 have hme:=Je e
 have hkl:=J8 e.kids
 have hol:=Yw e.ops
 have hat:=Z8h e d
 rw [Zu6 hd0] at hat
 refine Zz9 N e d _ ?_;(try simp only [vcT,forall_eq])
 (simp only [vcS]);(try simp only [vcT]);(try simp only [vcU])
 try (simp only [Tree.eta,Edit.eta,Tree.kind_mk,Tree.words_mk,Tree.kids_mk])
 refine ⟨fun hc=> Ze rfl (by rw [hat,if_pos (by omega)]),fun hc=> ?_⟩
 rw [if_neg (by omega)] at hat
 refine ⟨fun _=> by simp only [Z48];omega,fun _=> by simp only [Z48];omega,fun _=> by unfold InR;omega,fun hf=> Ze rfl ?_,fun hf=> ⟨fun h1=> ⟨⟨by dsimp only;omega,ro,by dsimp only;omega,by dsimp only;omega⟩,fun _=> ⟨by dsimp only;omega,rn,by dsimp only;omega,by dsimp only;omega⟩,Ze rfl ?_⟩,fun h1=> ?_⟩⟩
 ·rw [hat,if_pos]
  rcases hf with (hf | hf) | hf
  ·left
   refine ⟨hf.1,fun h=> ?_⟩
   rcases hf.2 with h2 | h2
   ·rw [h.1] at h2;cases h2
   ·rw [h.2] at h2;cases h2
  ·right;left;omega
  ·right;right;omega
 ·rw [hat,if_neg,if_pos h1,QD]
  ·(simp only [vcS])
   constructor
   ·rintro ⟨⟨⟨h2,h3⟩,h4⟩,h5⟩;exact ⟨⟨h2,h3⟩,h4,h5⟩
   ·rintro ⟨⟨h2,h3⟩,h4,h5⟩;exact ⟨⟨⟨h2,h3⟩,h4⟩,h5⟩
  ·intro h
   rcases h with h | h | h
   ·exact h.1 h1
   ·omega
   ·omega
 ·rw [if_neg,if_neg h1] at hat
  ·refine Zb (ι:=Int × Int) (fun p=> Z7O e d p.1 p.2) (fun p=> 0<=p.2/\p.2<=e.words.length/\Yh p.1 (e.words.drop p.2.toNat)=Yh (-1) e.words) (fun p=> ((e.words.length:Int) - p.2).toNat) (-1,0) rfl ⟨by dsimp only;omega,by dsimp only;omega,by simp⟩ ?_
   rintro ⟨last,i⟩ ⟨h2,h3,h4⟩
   dsimp only at*
   refine Zr7 N e d last i _ _ ?_;(try simp only [vcT,forall_eq])
   (simp only [vcS]);(try simp only [vcT]);(try simp only [vcU])
   try (simp only [Tree.eta,Edit.eta,Tree.kind_mk,Tree.words_mk,Tree.kids_mk])
   refine ⟨fun hi=> ?_,fun hi=> ?_⟩
   ·have hmem:=Zl (l:=e.words) (i:=i.toNat) (by omega) (WEdit.mk 0 0 0 0)
    have hrw:=rw' _ hmem
    rw [J5 h2 hi (WEdit.mk 0 0 0 0)] at h4
    simp only [Yh] at h4
    generalize e.words.getD i.toNat (WEdit.mk 0 0 0 0)=w at*
    obtain ⟨_,hmk,hwo,hwn⟩:=hrw
    refine ⟨⟨h2,hi⟩,fun _=> ⟨hwo,hmk⟩,fun _=> ⟨hwn,hmk⟩,fun hq=> Ze rfl ?_,fun hq=> ⟨by unfold InR;omega,(_,i+1),rfl,⟨by dsimp only;omega,by dsimp only;omega,?_⟩,by dsimp only;omega⟩⟩
    ·rw [hat,<-h4]
     rcases hq with (hq | hq) | hq
     ·rw [decide_eq_false (by omega)];try rfl
     ·rw [hq];simp
     ·rw [hq];simp
    ·dsimp only
     rw [<-h4,decide_eq_true (by omega),hq.1.2,hq.2];try rfl
   ·have hw:Yh (-1) e.words=true:=by
     rw [<-h4,Qn (by omega)];try rfl
    rw [hw,QF] at hat
    refine Zb (ι:=Int × Int) (fun p=> Z7N e d p.1 p.2) (fun p=> 0<=p.2/\p.2<=e.kids.length/\ZB p.1 (e.kids.drop p.2.toNat) (d - 1)=ZB (-1) e.kids (d - 1)) (fun p=> ((e.kids.length:Int) - p.2).toNat) (-1,0) rfl ⟨by dsimp only;omega,by dsimp only;omega,by simp⟩ ?_
    rintro ⟨last,i⟩ ⟨h2,h3,h4⟩
    dsimp only at*
    refine Zr6 N e d last i _ _ ?_;(try simp only [vcT,forall_eq])
    (simp only [vcS]);(try simp only [vcT]);(try simp only [vcU])
    try (simp only [Tree.eta,Edit.eta,Tree.kind_mk,Tree.words_mk,Tree.kids_mk])
    refine ⟨fun hi=> ?_,fun hi=> ?_⟩
    ·have hmem:=Zl (l:=e.kids) (i:=i.toNat) (by omega) (KidOf.mk 0 Edit.nil)
     have hrw:=Ys rk hmem
     have hmm:=Z0M hmem
     rw [J5 h2 hi (KidOf.mk 0 Edit.nil)] at h4
     simp only [ZB,Z44] at h4
     generalize e.kids.getD i.toNat (KidOf.mk 0 Edit.nil)=w at*
     refine ⟨⟨h2,hi⟩,fun _=> by unfold InR;omega,fun _=> ⟨⟨by dsimp only;omega,hrw.2⟩,by dsimp only;omega,by dsimp only;omega⟩,fun _=> by simp only [Zf2];omega,fun hq=> Ze rfl ?_,fun hq=> ⟨by unfold InR;omega,(_,i+1),rfl,⟨by dsimp only;omega,by dsimp only;omega,?_⟩,by dsimp only;omega⟩⟩
     ·rw [hat,<-h4]
      rcases hq with hq | hq
      ·rw [decide_eq_false (by omega)];try rfl
      ·rw [hq];simp
     ·dsimp only
      rw [<-h4,decide_eq_true (by omega),hq.2];try rfl
    ·have hw:ZB (-1) e.kids (d - 1)=true:=by
      rw [<-h4,Qn (by omega)];try rfl
     rw [hw,QF] at hat
     refine ⟨fun hq=> Ze rfl (by rw [hat,decide_eq_false (by omega)];rfl),fun hq=> ?_⟩
     rw [decide_eq_true (by omega),QF] at hat
     refine Zb (ι:=Int) (fun p=> Z7M e d p) (fun p=> 0<=p/\p<=e.ops.length/\ZD e.list (e.ops.drop p.toNat) (d - 1)=ZD e.list e.ops (d - 1)) (fun p=> ((e.ops.length:Int) - p).toNat) 0 rfl ⟨by omega,by omega,by simp⟩ ?_
     rintro j ⟨h5,h6,h7⟩
     refine Zr5 N e d j _ _ ?_;(try simp only [vcT,forall_eq])
     (simp only [vcS]);(try simp only [vcT]);(try simp only [vcU])
     try (simp only [Tree.eta,Edit.eta,Tree.kind_mk,Tree.words_mk,Tree.kids_mk])
     refine ⟨fun hj=> ?_,fun hj=> ?_⟩
     ·have hmem:=Zl (l:=e.ops) (i:=j.toNat) (by omega) Op.nil
      have hro:=Z1y ros hmem
      have hmm:=YS hmem
      rw [J5 h5 hj Op.nil] at h7
      simp only [ZD] at h7
      generalize e.ops.getD j.toNat Op.nil=o at*
      refine ⟨⟨h5,hj⟩,by unfold InR;omega,⟨⟨by show Zt o<=20000000000;omega,hro,il⟩,by dsimp only;omega,by dsimp only;omega⟩,?_,fun hq=> Ze rfl ?_,fun hq=> ⟨by unfold InR;omega,j+1,rfl,⟨by omega,by omega,?_⟩,by omega⟩⟩
      ·show 2*Zt o+1 < N
       omega
      ·have hq':Za e.list o (d - 1)=false:=hq
       rw [hat,<-h7,hq'];try rfl
      ·have hq':Za e.list o (d - 1)=true:=hq
       rw [<-h7,hq'];try rfl
     ·have hw:ZD e.list e.ops (d - 1)=true:=by
       rw [<-h7,Qn (by omega)];try rfl
      rw [hw,QF] at hat
      refine ⟨⟨hm,fun o ho=> Z8f (rightOs_mem hw ho)⟩,Ze rfl ?_⟩
      rw [hat,QD]
      (simp only [vcS])
  ·intro h
   rcases h with h | h | h
   ·rcases hf.1.1 with h2 | h2
    ·exact h1 h2
    ·exact h.2 h2
   ·omega
   ·omega
theorem ZcZ{l:List Tree}{i:Int}(h0:0<=i)(h:i < l.length):List.drop i.toNat (l.take (i+1).toNat)=[l.getD i.toNat Tree.nil]:=by
 rw [List.drop_take,show (i+1).toNat - i.toNat=1 by omega,J5 h0 h Tree.nil]
 try rfl
theorem b64:ZyD:=by
 intro N list o d _ hp hN
 simp only [Zdt,Zme] at hp hN
 obtain ⟨⟨hm,hr,hil⟩,hd0,hd1⟩:=hp
 obtain ⟨ik,inn,rl,re⟩:=Z1n hr
 rw [ZV] at hm hN
 have hll:=Zv o.l
 have hep:=Z8G o.e
 have hat:=Z3n list o d
 rw [Zu6 hd0,Zd9] at hat
 refine ZyW N list o d _ ?_;(try simp only [vcT,forall_eq])
 (simp only [vcS]);(try simp only [vcT]);(try simp only [vcU])
 try (simp only [Tree.eta,Edit.eta,Tree.kind_mk,Tree.words_mk,Tree.kids_mk])
 refine ⟨fun h0=> ⟨fun _=> by simp only [Z6c];omega,Ze rfl ?_⟩,fun h0=> ⟨fun hc=> Ze rfl ?_,fun hc=> ⟨fun h3=> ?_,fun h3=> ⟨fun _=> ⟨⟨by dsimp only;omega,re⟩,hd0,hd1⟩,fun _=> by simp only [Zf2];omega,fun hq=> Ze rfl ?_,fun hq=> Ze rfl ?_⟩⟩⟩⟩
 ·rw [hat,if_pos h0,QD]
  (simp only [vcS])
  constructor
  ·rintro ⟨h1,h2⟩;exact ⟨by omega,h2⟩
  ·rintro ⟨h1,h2⟩;exact ⟨by omega,h2⟩
 ·rw [hat,if_neg h0,if_pos (by omega)]
 ·rw [if_neg h0,if_neg (by omega),if_pos h3] at hat
  refine Zb (ι:=Int) (fun p=> Z7H list o d p) (fun p=> 0<=p/\p<=o.l.length/\Z3g list (o.l.drop p.toNat)=Z3g list o.l) (fun p=> ((o.l.length:Int) - p).toNat) 0 rfl ⟨by omega,by omega,by simp⟩ ?_
  rintro i ⟨h4,h5,h6⟩
  refine ZqZ N list o d i _ _ ?_;(try simp only [vcT,forall_eq])
  (simp only [vcS]);(try simp only [vcT]);(try simp only [vcU])
  try (simp only [Tree.eta,Edit.eta,Tree.kind_mk,Tree.words_mk,Tree.kids_mk])
  refine ⟨fun hi=> ?_,fun hi=> ?_⟩
  ·have hmem:=Zl (l:=o.l) (i:=i.toNat) (by omega) Tree.nil
   have hrt:=YY rl hmem
   have hmt:=JJ hmem
   rw [ZcZ h4 hi]
   rw [J5 h4 hi Tree.nil] at h6
   simp only [Z3g] at h6
   generalize o.l.getD i.toNat Tree.nil=t at*
   refine ⟨by unfold InR;omega,by omega,⟨by simp only [Zi,Z7,List.length_nil];omega,⟨hil,fun x hx=> (by cases hx),hrt,trivial⟩,by dsimp only;omega,by dsimp only;omega⟩,fun hq=> Ze rfl ?_,fun hq=> ⟨by unfold InR;omega,i+1,rfl,⟨by omega,by omega,?_⟩,by omega⟩⟩
   ·rw [hat,<-h6,hq];try rfl
   ·rw [<-h6,hq];try rfl
  ·have hw:Z3g list o.l=true:=by
    rw [<-h6,Qn (by omega)];try rfl
   rw [hw,QF] at hat
   refine ⟨fun _=> by simp only [Z6c];omega,Ze rfl ?_⟩
   rw [hat,QD]
   (simp only [vcS])
   simp only [Int.natCast_pos]
 ·rw [hat,if_neg h0,if_neg (by omega),if_neg h3]
  rcases hq with hq | hq
  ·have:¬(o.l.length=0/\o.e.kind≠0/\7 < list):=by omega
   rw [decide_eq_false this];try rfl
  ·rw [hq];simp
 ·rw [hat,if_neg h0,if_neg (by omega),if_neg h3,hq.2]
  have:o.l.length=0/\o.e.kind≠0/\7 < list:=by omega
  rw [decide_eq_true this,QD]
  (simp only [vcS])
  simp only [true_and,Xc,decide_eq_true_eq,and_assoc,or_assoc]
theorem ZvF:Contract Try.prog cfg 23 Zbf/\Contract Try.prog cfg 64 ZnF:=Zml c62 c63 Zw8 c37 c65 b23 b64
theorem Z58(e:Edit):Y6 e=(decide (Z1s e.ops 0<=2000/\Z1r e.ops 0<=2000) && J9 e.kids && ZK e.ops):=by
 obtain ⟨k,o,nw,w,ks,l,os⟩:=e;rfl
theorem Z9x(k:Kid):ZgZ k=Y6 k.e:=by cases k;rfl
theorem Zck(o:Op):Z7k o=Y6 o.e:=by cases o;rfl
theorem Z8g{e:Edit}{d:Int}(h:Z5 e d=true):(∀ k∈e.kids,Z5 k.e (d - 1)=true/\k.e.kind≠0)/\∀ o∈e.ops,Za e.list o (d - 1)=true:=by
 rw [Z8h] at h
 split at h
 ·cases h
 ·split at h
  ·cases h
  ·rename_i h1 h2
   split at h
   ·rename_i h3
    have hk:e.kids=[]:=Q6 (by omega)
    have ho:e.ops=[]:=Q6 (by omega)
    rw [hk,ho]
    exact ⟨fun k hk=> (by cases hk),fun o ho=> (by cases ho)⟩
   ·simp only [Q0] at h
    exact ⟨fun k hk=> Z9e h.1.1.1.2 hk,fun o ho=> rightOs_mem h.1.2 ho⟩
theorem Zg3{e:Edit}(h:Z1b e=true):e.kind=0/\Ji e.old=true/\Ji e.new=true/\e.words=[]/\e.kids=[]/\e.ops=[]/\e.list=0:=by
 simp only [Z1b,Q0,decide_eq_true_eq] at h
 obtain ⟨⟨⟨h1,h2⟩,h3⟩,h4,h5,h6,h7⟩:=h
 exact ⟨h1,h2,h3,Q6 h4,Q6 h5,Q6 h6,h7⟩
theorem Z97{e:Edit}(h:Z1b e=true)(d:Int)(hd:d≠0):Z5 e d=true:=by
 obtain ⟨h1,h2,h3,h4,h5,h6,h7⟩:=Zg3 h
 rw [Z8h,h1,h2,h3,h4,h5,h6,h7,if_neg (by omega),if_neg (by simp),if_neg (by omega)]
 simp [Yh,ZB,ZD,Z1s,Z1r]
theorem ZcT{list:Int}{o:Op}{d:Int}(h:Za list o d=true):∃ d',Z5 o.e d'=true:=by
 rw [Z3n] at h
 split at h
 ·simp only [Q0] at h
  exact ⟨1,Z97 h.2 1 (by omega)⟩
 ·split at h
  ·cases h
  ·split at h
   ·simp only [Q0] at h
    exact ⟨1,Z97 h.2 1 (by omega)⟩
   ·simp only [Q0] at h
    exact ⟨d,h.1.2⟩
theorem c55:Contract Try.prog cfg 55 Zb9:=by
 refine Zv1 c65 ?_
 intro N e _ hp hN
 simp only [ZbF,ZgQ] at hp hN
 obtain ⟨⟨hm,hr⟩,dd,hrt⟩:=hp
 obtain ⟨ik,ro,rn,rw',il,rk,ros⟩:=Z6Q hr
 have hme:=Je e
 have hkl:=J8 e.kids
 have hol:=Yw e.ops
 have hat:=Z58 e
 obtain ⟨hrk,hro⟩:=Z8g hrt
 refine Zz0 N e _ ?_;(try simp only [vcT,forall_eq])
 (simp only [vcS]);(try simp only [vcT]);(try simp only [vcU])
 try (simp only [Tree.eta,Edit.eta,Tree.kind_mk,Tree.words_mk,Tree.kids_mk])
 refine ⟨⟨hm,fun o ho=> Z8f (hro o ho)⟩,fun hq=> Ze rfl (by rw [hat,decide_eq_false (by omega)];rfl),fun hq=> ?_⟩
 rw [decide_eq_true (by omega),QF] at hat
 refine Zb (ι:=Int) (fun p=> Z7J e p) (fun p=> 0<=p/\p<=e.kids.length/\J9 (e.kids.drop p.toNat)=J9 e.kids) (fun p=> ((e.kids.length:Int) - p).toNat) 0 rfl ⟨by omega,by omega,by simp⟩ ?_
 rintro i ⟨h4,h5,h6⟩
 refine Zr2 N e i _ _ ?_;(try simp only [vcT,forall_eq])
 (simp only [vcS]);(try simp only [vcT]);(try simp only [vcU])
 try (simp only [Tree.eta,Edit.eta,Tree.kind_mk,Tree.words_mk,Tree.kids_mk])
 refine ⟨fun hi=> ?_,fun hi=> ?_⟩
 ·have hmem:=Zl (l:=e.kids) (i:=i.toNat) (by omega) (KidOf.mk 0 Edit.nil)
  have hrr:=Ys rk hmem
  have hmm:=Z0M hmem
  have hri:=hrk _ hmem
  rw [J5 h4 hi (KidOf.mk 0 Edit.nil)] at h6
  simp only [J9,Z9x] at h6
  generalize e.kids.getD i.toNat (KidOf.mk 0 Edit.nil)=k at*
  refine ⟨⟨h4,hi⟩,⟨⟨by dsimp only;omega,hrr.2⟩,_,hri.1⟩,by simp only [ZgQ];omega,fun hq=> Ze rfl (by rw [hat,<-h6,hq];rfl),fun hq=> ⟨by unfold InR;omega,i+1,rfl,⟨by omega,by omega,by rw [<-h6,hq];rfl⟩,by omega⟩⟩
 ·have hw:J9 e.kids=true:=by
   rw [<-h6,Qn (by omega)];try rfl
  rw [hw,QF] at hat
  refine Zb (ι:=Int) (fun p=> Z7I e p) (fun p=> 0<=p/\p<=e.ops.length/\ZK (e.ops.drop p.toNat)=ZK e.ops) (fun p=> ((e.ops.length:Int) - p).toNat) 0 rfl ⟨by omega,by omega,by simp⟩ ?_
  rintro j ⟨g4,g5,g6⟩
  refine Zr1 N e j _ _ ?_;(try simp only [vcT,forall_eq])
  (simp only [vcS]);(try simp only [vcT]);(try simp only [vcU])
  try (simp only [Tree.eta,Edit.eta,Tree.kind_mk,Tree.words_mk,Tree.kids_mk])
  refine ⟨fun hi=> ?_,fun hi=> ?_⟩
  ·have hmem:=Zl (l:=e.ops) (i:=j.toNat) (by omega) Op.nil
   have hrr:=Z1n (Z1y ros hmem)
   have hmm:=YS hmem
   have hri:=ZcT (hro _ hmem)
   rw [ZV] at hmm
   rw [J5 g4 hi Op.nil] at g6
   simp only [ZK,Zck] at g6
   generalize e.ops.getD j.toNat Op.nil=o at*
   refine ⟨⟨g4,hi⟩,⟨⟨by dsimp only;omega,hrr.2.2.2⟩,hri⟩,by simp only [ZgQ];omega,fun hq=> Ze rfl (by rw [hat,<-g6,hq];rfl),fun hq=> ⟨by unfold InR;omega,j+1,rfl,⟨by omega,by omega,by rw [<-g6,hq];rfl⟩,by omega⟩⟩
  ·refine Ze rfl ?_
   rw [hat,<-g6,Qn (by omega)];try rfl
theorem c15:Contract Try.prog cfg 15 Zbg:=by
 refine Zva c54 ZvF.1 c55 ?_
 intro e _ hp
 simp only [Zgv] at hp
 refine Zza e _ ?_;(try simp only [vcT,forall_eq])
 try (simp only [Tree.eta,Edit.eta,Tree.kind_mk,Tree.words_mk,Tree.kids_mk])
 refine ⟨hp.1,fun hf=> ?_,fun hf=> ?_,Ze rfl ?_⟩
 ·have:=Z8T (by simpa using hf)
  exact ⟨⟨by dsimp only;omega,hp.2⟩,by dsimp only;omega,by dsimp only;omega⟩
 ·simp only [ZiS,decide_eq_true_eq] at hf
  have:=Z8T hf.1
  exact ⟨⟨by dsimp only;omega,hp.2⟩,64,hf.2⟩
 ·show _=Jk e
  simp only [Jk]
  rw [QD]
  (simp only [vcS])
end Go.AM.Ytpjenobkibfpcaa
namespace Go.AM
noncomputable def eqX{α:Type}(a b:α):Bool:=@decide (a=b) (Classical.propDecidable _)
theorem Z0s{α:Type}{a b:α}:eqX a b=true↔a=b:=by unfold eqX;exact @decide_eq_true_iff _ (Classical.propDecidable _)
@[simp] theorem Zyg {α:Type} (a:α):eqX a a=true:=Z0s.2 rfl
def Zq(o:Op)(n:Int):Op:=if Z1 o<=n then o else if o.kind=0 then ⟨o.kind,n,o.l,o.e⟩ else ⟨o.kind,o.n,o.l.take n.toNat,o.e⟩
def YC(o:Op)(n:Int):Op:=if o.kind=0 then ⟨o.kind,o.n - n,o.l,o.e⟩ else ⟨o.kind,o.n,o.l.drop n.toNat,o.e⟩
def Zw(l:List Op)(n:Int):List Op:=if Z1 (l.getD 0 Op.nil)<=n then l.drop 1 else YC (l.getD 0 Op.nil) n ::l.drop 1
def sgl(a:Int)(l:List Op):Bool:=decide (l.length≠0/\(l.getD 0 Op.nil).kind=a)
def ZM(o:Op):Prop:=
 (o.kind=0/\o.l=[]/\(1<=o.n/\o.n<=1048576)/\o.e=Edit.nil)\/((o.kind=1\/o.kind=2)/\o.n=0/\o.l≠[]/\o.e=Edit.nil)\/(o.kind=3/\o.n=0/\o.l=[])
def Z8w(l:List Op):Prop:=(∀ o∈l,ZM o)/\Zg l<=20000000000
theorem Y9(l:List Op)(n:Int)(h:l.length≠0):(Zw l n).length<=l.length:=by
 unfold Zw
 split <;> simp <;> omega
theorem Y8(l:List Op)(n:Int)(h:l.length≠0)(hn:Z1 (l.getD 0 Op.nil)<=n):(Zw l n).length < l.length:=by
 unfold Zw
 rw [if_pos hn]
 simp;omega
def ZJ(ap aq:Int)(p q:List Op)(out:List Piece):List Piece × Bool × List Op × List Op:=
 if h:sgl ap p=true then ZJ ap aq (p.drop 1) q (out++[⟨1,p.getD 0 Op.nil,Op.nil⟩])
 else if h2:sgl aq q=true then ZJ ap aq p (q.drop 1) (out++[⟨2,Op.nil,q.getD 0 Op.nil⟩])
 else if h3:p.length=0\/q.length=0 then
  if decide (p.length=0)=decide (q.length=0) then (out,true,p,q) else ([],false,p,q)
 else
  ZJ ap aq (Zw p (min (Z1 (p.getD 0 Op.nil)) (Z1 (q.getD 0 Op.nil)))) (Zw q (min (Z1 (p.getD 0 Op.nil)) (Z1 (q.getD 0 Op.nil))))
   (out++[⟨0,Zq (p.getD 0 Op.nil) (min (Z1 (p.getD 0 Op.nil)) (Z1 (q.getD 0 Op.nil))),Zq (q.getD 0 Op.nil) (min (Z1 (p.getD 0 Op.nil)) (Z1 (q.getD 0 Op.nil)))⟩])
termination_by p.length+q.length
decreasing_by
 ·have:=(of_decide_eq_true h).1;rw [X6];omega
 ·have:=(of_decide_eq_true h2).1;rw [X6];omega
 ·rcases Int.le_total (Z1 (p.getD 0 Op.nil)) (Z1 (q.getD 0 Op.nil)) with hm | hm
  ·have a:=Y8 p _ (by omega) (X2 (Z1 (p.getD 0 Op.nil)))
   have b:=Y9 q (Z1 (p.getD 0 Op.nil)) (by omega)
   rw [Int.min_eq_left hm];omega
  ·have a:=Y8 q _ (by omega) (X2 (Z1 (q.getD 0 Op.nil)))
   have b:=Y9 p (Z1 (q.getD 0 Op.nil)) (by omega)
   rw [Int.min_eq_right hm];omega
def Ze8(i alone:Int)(o:Op):List AUnit:=
 (if o.kind=0 then List.replicate o.n.toNat ⟨i,0,Tree.nil,Edit.nil,false⟩ else [])
  ++(o.l.map (fun t=> ⟨i,o.kind,t,Edit.nil,decide (o.kind=alone)⟩)
  ++(if o.kind=3 then [⟨i,3,Tree.nil,o.e,false⟩] else []))
def Z2A:List Op->Int
 | []=> 0
 | o ::r=> Z1 o+Z2A r
def opU(u:AUnit):Op:=if u.kind=0 then ⟨0,1,[],Edit.nil⟩ else if u.kind=3 then ⟨3,0,[],u.e⟩ else ⟨u.kind,0,[u.t],Edit.nil⟩
end Go.AM
