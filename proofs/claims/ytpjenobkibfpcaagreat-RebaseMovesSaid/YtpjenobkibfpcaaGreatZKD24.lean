import Derived.Test.YtpjenobkibfpcaaGreatZKD20
import Derived.Test.YtpjenobkibfpcaaGreatZKRB07
import Derived.Test.YtpjenobkibfpcaaGreatZmZ
set_option linter.unusedSimpArgs false
set_option linter.unusedVariables false
namespace Go.AM.YtpjenobkibfpcaaGreat
open Go.AM Go.Proofs
noncomputable section
def Zrc:ArgL (Int × Unit):=(.cons (J9 .u64) .nil)
def Zf7(a:Int × Unit):Prop:=0<=a.1/\a.1 < 18446744073709551616
def ZmQ(a:Int × Unit):V U:= .agg [.int .u8 (Zl a.1 0),.int .u8 (Zl a.1 1),.int .u8 (Zl a.1 2),.int .u8 (Zl a.1 3),.int .u8 (Zl a.1 4),.int .u8 (Zl a.1 5),.int .u8 (Zl a.1 6),.int .u8 (Zl a.1 7)]
def Z90:Fs U:=fs Zrc (fun a=> [Zf7 a]) ZmQ
def Zrb:ArgL (Int × Int × Unit):=(.cons (J9 .u8) (.cons (J9 .i64) .nil))
def ZiM(a:Int × Int × Unit):Prop:=(0<=a.1/\a.1 < 256)/\0<=a.2.1/\a.2.1<=8
def ZuQ(a:Int × Int × Unit):V U:= .c (.bool (Z5m a.1 a.2.1))
def Z8Z:Fs U:=fs Zrb (fun a=> [ZiM a]) ZuQ
def Zra:ArgL (List Int × Int × Unit):=(.cons (aSl .u8) (.cons (J9 .i64) .nil))
def Zn6(a:List Int × Int × Unit):Prop:=a.2.1=0/\a.1.length=8/\∀ x∈a.1,0<=x/\x < 256
def ZuP(a:List Int × Int × Unit):V U:= .c (.int .u64 (of8 (fun i=> a.1.getD i 0)))
def Z8Y:Fs U:=fs Zra (fun a=> [Zn6 a]) ZuP
def ZrA:ArgL (Int × Int × Int × Unit):=(.cons (J9 .u64) (.cons (J9 .u64) (.cons (J9 .u8) .nil)))
def Z13(a:Int × Int × Int × Unit):Prop:=(0<=a.1/\a.1 < 18446744073709551616)/\(0<=a.2.1/\a.2.1 < 18446744073709551616)/\(0<=a.2.2.1/\a.2.2.1 < 256)
def Zv6(a:Int × Int × Int × Unit):V U:= .c (.int .u64 (mix a.1 a.2.1 a.2.2.1))
def JQ:Fs U:=fs ZrA (fun a=> [Z13 a]) Zv6
def Z5L(a:Tree × Unit):Prop:=Zm a.1<=20000000000
def ZC3(a:Tree × Unit):V U:= .c (.bool (JU a.1))
def Z4P:Fs U:=fs Zo7 (fun a=> [Z5L a]) ZC3
def ZrH:ArgL (Int × Int × Unit):=(.cons (J9 .u64) (.cons (J9 .u8) .nil))
def ZiU(a:Int × Int × Unit):Prop:=(0<=a.1/\a.1 < 18446744073709551616)/\(0<=a.2.1/\a.2.1 < 256)
def Zva(a:Int × Int × Unit):V U:= .c (.bool (J7 a.1 a.2.1))
def Z6A:Fs U:=fs ZrH (fun a=> [ZiU a]) Zva
def Zrz:ArgL (Edit × Unit):=(.cons (aEl .edit) .nil)
def Z8j(a:Edit × Unit):Prop:=Z3 a.1<=20000000000
def Zv5(a:Edit × Unit):V U:= .c (.bool (Z27 a.1))
def Z6y:Fs U:=fs Zrz (fun a=> [Z8j a]) Zv5
def Zfn(a:Edit × Unit):Prop:=Z3 a.1<=20000000000/\∀ o∈Edit.ops a.1,0<=o.n/\o.n<=1048576
def ZmW(a:Edit × Unit):V U:= .tup [(false,[ci (Z2r a.1.ops 0)]),(false,[ci (Z2q a.1.ops 0)])]
def Z2k:Fs U:=fs Zrz (fun a=> [Zfn a]) ZmW
def Zo3:ArgL (Edit × Int × Int × Unit):=(.cons (aEl .edit) (.cons (J9 .i64) (.cons (J9 .i64) .nil)))
def ZeZ(a:Edit × Int × Int × Unit):Prop:=Z2W a.1/\0<=a.2.1/\a.2.1<=4611686018427387904/\-1<=a.2.2.1/\a.2.2.1<=4611686018427387904
def Zlu(a:Edit × Int × Int × Unit):Nat:=Z3 a.1
def ZoQ(a:Edit × Int × Int × Unit):V U:= .c (ci (Z1a a.1 a.2.1 a.2.2.1))
def Zeh:Fs U:=fs Zo3 (fun a=> [ZeZ a]) ZoQ
def Zvp(a:Edit × Unit):Prop:=Z2W a.1
def ZC6(a:Edit × Unit):V U:= .c (.bool (decide (0<=Z1a a.1 80 3000)))
def Zeq:Fs U:=fs Zrz (fun a=> [Zvp a]) ZC6
def Zpx:Zc U:=lvl [([0,2],[2]),([0,2,3],[2,3]),([0,2,3,4],[2,3]),([0,2,3,4,7],[2,3]),([0,2,3,4],[2,3]),([0,2,3,4],[2,3]),([0,2,3,4],[2,3]),([2],[2])]
def Z4v(w x0 x4 ml3_0 ml3_1 ml3_2 ml3_3 ml3_4 ml3_5 ml3_6 ml3_7:Int):LSt U:=(L2 [(0,.c (.int .u64 x0)),pL 2,pL 3,pI 4 x4] [(.loc 2,zc0),(.loc 3,[.int .u8 ml3_0,.int .u8 ml3_1,.int .u8 ml3_2,.int .u8 ml3_3,.int .u8 ml3_4,.int .u8 ml3_5,.int .u8 ml3_6,.int .u8 ml3_7])])
abbrev ZFQ(p:List Nat):=AW (Z0 ZnJ) Tryz.f186 Zpx p
abbrev ZIc(p:List Nat):=SW (Z0 ZnJ) Tryz.f186 Zpx p
theorem ZGt(w:Int)(Q:QT)(h:(Zd (ZFQ [1,1,0,1,0,0]) (Z4v w w 0 0 0 0 0 0 0 0 0) (xB 0 (ZIc [1,1,1] Q)))):
  ZFQ [] (L2 [(0,.c (.int .u64 w))] []) Q:=
 Eq.mpr V4 h
theorem ZtE(w x0 x4 ml3_0 ml3_1 ml3_2 ml3_3 ml3_4 ml3_5 ml3_6 ml3_7:Int)(N0:NT)(Q:QT)(h:let z0:=IntKind.wrap .u8 (Int.tmod x0 256);(iB (decide (x4 < 8)) (((256:Int)≠0)/\((0:Int)<=x4/\x4 < ((8:Nat):Int))/\(((256:Int)≠0)/\((InR (x4+1))/\(N0 (Z4v w (IntKind.wrap .u64 (Int.tdiv x0 256)) (x4+1) (Z20 x4 0 z0 ml3_0) (Z20 x4 1 z0 ml3_1) (Z20 x4 2 z0 ml3_2) (Z20 x4 3 z0 ml3_3) (Z20 x4 4 z0 ml3_4) (Z20 x4 5 z0 ml3_5) (Z20 x4 6 z0 ml3_6) (Z20 x4 7 z0 ml3_7)))))) ((Q .ret (L2 [pL 2] [(.loc 2,[.int .u8 ml3_0,.int .u8 ml3_1,.int .u8 ml3_2,.int .u8 ml3_3,.int .u8 ml3_4,.int .u8 ml3_5,.int .u8 ml3_6,.int .u8 ml3_7])]))))):
  ZFQ [1,1,0,1,0,0] (Z4v w x0 x4 ml3_0 ml3_1 ml3_2 ml3_3 ml3_4 ml3_5 ml3_6 ml3_7) (xT N0 (xB 0 (ZIc [1,1,1] Q))):=
 Eq.mpr V4 h
def ZB6(w:Int):Prop:=AW (Z0 ZnJ) Tryz.f186 Zpx [] (Zh (Zrc.can (w,())) []) (EQ Tryz.f186 (ZmQ (w,())) [])
theorem Zzi(hb:∀ (w:Int) (_:Unit),Zf7 (w,())->ZB6 w):CT 186 Z90:=
 Z1 (l:=[]) Zi rfl trivial Zpx Tryz.func186 rfl rfl 1 (fun _=> rfl) V1 (fun ⟨w,_⟩=> hb w ())
def Zpw:Zc U:=lvl [([0,1],[]),([0,1,5],[]),([0,1,5,8],[]),([0,1,5],[]),([0,1,5],[]),([4],[])]
def Z76(m i x0 x5:Int):LSt U:=(L2 [(0,.c (.int .u8 x0)),pI 1 i,pI 5 x5] [])
abbrev ZFP(p:List Nat):=AW (Z0 ZnJ) Tryz.f187 Zpw p
abbrev ZIb(p:List Nat):=SW (Z0 ZnJ) Tryz.f187 Zpw p
theorem ZGs(m i:Int)(Q:QT)(h:(Zd (ZFP [1,0,1,0,0]) (Z76 m i m 0) (xB 0 (ZIb [1,1] Q)))):
  ZFP [] (L2 [(0,.c (.int .u8 m)),pI 1 i] []) Q:=
 Eq.mpr V4 h
theorem ZtD(m i x0 x5:Int)(N0:NT)(Q:QT)(h:(iB (decide (x5 < i)) (((2:Int)≠0)/\((InR (x5+1))/\(N0 (Z76 m i (IntKind.wrap .u8 (Int.tdiv x0 2)) (x5+1))))) (((2:Int)≠0)/\(Q .ret (L2 [pB 4 (((Int.tmod x0 2):Int)==1)] []))))):
  ZFP [1,0,1,0,0] (Z76 m i x0 x5) (xT N0 (xB 0 (ZIb [1,1] Q))):=
 Eq.mpr V4 h
def ZB5(m i:Int):Prop:=AW (Z0 ZnJ) Tryz.f187 Zpw [] (Zh (Zrb.can (m,i,())) []) (EQ Tryz.f187 (ZuQ (m,i,())) [])
theorem Zzh(hb:∀ (m:Int) (i:Int) (_:Unit),ZiM (m,i,())->ZB5 m i):CT 187 Z8Z:=
 Z1 (l:=[]) Zi rfl trivial Zpw Tryz.func187 rfl rfl 2 (fun _=> rfl) V1 (fun ⟨m,i,_⟩=> hb m i ())
def Zpv:Zc U:=lvl [([0,1],[]),([0,1,5],[]),([0,1,5,6],[]),([0,1,5,6,8],[]),([0,1,5,6],[]),([0,1,5,6],[]),([4],[])]
def Z75(b:List Int)(from_ x5 x6:Int):LSt U:=(L2 [(0,.c (sU .u8 b .unk)),pI 1 from_,(5,.c (.int .u64 x5)),pI 6 x6] [])
abbrev ZFO(p:List Nat):=AW (Z0 ZnJ) Tryz.f188 Zpv p
abbrev ZIa(p:List Nat):=SW (Z0 ZnJ) Tryz.f188 Zpv p
theorem ZGr(b:List Int)(from_:Int)(Q:QT)(h:(Zd (ZFO [1,1,0,1,0,0]) (Z75 b from_ 0 7) (xB 0 (ZIa [1,1,1] Q)))):
  ZFO [] (L2 [(0,.c (sU .u8 b .unk)),pI 1 from_] []) Q:=
 Eq.mpr V4 h
theorem ZtC(b:List Int)(from_ x5 x6:Int)(N0:NT)(Q:QT)(h:(iB (decide ((0:Int)<=x6)) ((InR (from_+x6))/\((0:Int)<=(from_+x6)/\(from_+x6) < (b.length:Int))/\((InR (x6 - 1))/\(N0 (Z75 b from_ (IntKind.wrap .u64 (((IntKind.wrap .u64 (x5*256)):Int)+(IntKind.wrap .u64 (List.getD b (Int.toNat (from_+x6)) (0:Int))))) (x6 - 1))))) ((Q .ret (L2 [(4,.c (.int .u64 x5))] []))))):
  ZFO [1,1,0,1,0,0] (Z75 b from_ x5 x6) (xT N0 (xB 0 (ZIa [1,1,1] Q))):=
 Eq.mpr V4 h
def ZB4(b:List Int)(from_:Int):Prop:=AW (Z0 ZnJ) Tryz.f188 Zpv [] (Zh (Zra.can (b,from_,())) []) (EQ Tryz.f188 (ZuP (b,from_,())) [])
theorem Zzg(hb:∀ (b:List Int) (from_:Int) (_:Unit),Zn6 (b,from_,())->ZB4 b from_):CT 188 Z8Y:=
 Z1 (l:=[]) Zi rfl trivial Zpv Tryz.func188 rfl rfl 2 (fun _=> rfl) V1 (fun ⟨b,from_,_⟩=> hb b from_ ())
def Zjw:List (FuncId × Fs U):=[(186,Z90),(187,Z8Z),(188,Z8Y)]
def ZpJ:Zc U:=lvl [([0,1,2],[]),([2,7,8],[7,8]),([2,7,8,9],[7,8]),([2,7,8,9,15],[7,8]),([2,7,8,9],[7,8]),([2,7,8,9,20],[7,8]),([2,7,8,9],[7,8]),([6],[])]
def Z2Q(a b m x9 ml7_0 ml7_1 ml7_2 ml7_3 ml7_4 ml7_5 ml7_6 ml7_7:Int):LSt U:=(L2 [(2,.c (.int .u8 m)),pL 7,pL 8,pI 9 x9] [(.loc 7,[.int .u8 ml7_0,.int .u8 ml7_1,.int .u8 ml7_2,.int .u8 ml7_3,.int .u8 ml7_4,.int .u8 ml7_5,.int .u8 ml7_6,.int .u8 ml7_7]),(.loc 8,[.int .u8 (Zl b 0),.int .u8 (Zl b 1),.int .u8 (Zl b 2),.int .u8 (Zl b 3),.int .u8 (Zl b 4),.int .u8 (Zl b 5),.int .u8 (Zl b 6),.int .u8 (Zl b 7)])])
abbrev ZFX(p:List Nat):=AW (Z0 Zjw) Tryz.f136 ZpJ p
abbrev ZIj(p:List Nat):=SW (Z0 Zjw) Tryz.f136 ZpJ p
theorem ZH3(a b m:Int)(Q:QT)(h:((Zf7 (a,()))/\(Zf7 (b,()))/\(Zd (ZFX [1,1,0,1,0,0]) (Z2Q a b m 0 (Zl a 0) (Zl a 1) (Zl a 2) (Zl a 3) (Zl a 4) (Zl a 5) (Zl a 6) (Zl a 7)) (xB 0 (ZIj [1,1,1] Q))))):
  ZFX [] (L2 [(0,.c (.int .u64 a)),(1,.c (.int .u64 b)),(2,.c (.int .u8 m))] []) Q:=
 Eq.mpr V4 h
theorem Zu0(a b m x9 ml7_0 ml7_1 ml7_2 ml7_3 ml7_4 ml7_5 ml7_6 ml7_7:Int)(N0:NT)(Q:QT)(h:let z0:=List.getD [Zl b 0,Zl b 1,Zl b 2,Zl b 3,Zl b 4,Zl b 5,Zl b 6,Zl b 7] x9.toNat 0;(iB (decide (x9 < 8)) ((ZiM (m,x9,()))/\(iB (Z5m m x9) (((0:Int)<=x9/\x9 < ((8:Nat):Int))/\((0:Int)<=x9/\x9 < ((8:Nat):Int))/\((InR (x9+1))/\(N0 (Z2Q a b m (x9+1) (Z20 x9 0 z0 ml7_0) (Z20 x9 1 z0 ml7_1) (Z20 x9 2 z0 ml7_2) (Z20 x9 3 z0 ml7_3) (Z20 x9 4 z0 ml7_4) (Z20 x9 5 z0 ml7_5) (Z20 x9 6 z0 ml7_6) (Z20 x9 7 z0 ml7_7))))) ((InR (x9+1))/\(N0 (Z2Q a b m (x9+1) ml7_0 ml7_1 ml7_2 ml7_3 ml7_4 ml7_5 ml7_6 ml7_7))))) ((Zn6 (([ml7_0,ml7_1,ml7_2,ml7_3,ml7_4,ml7_5,ml7_6,ml7_7]),0,()))/\(Q .ret (L2 [(6,.c (.int .u64 (of8 (fun i=> ([ml7_0,ml7_1,ml7_2,ml7_3,ml7_4,ml7_5,ml7_6,ml7_7]).getD i 0))))] []))))):
  ZFX [1,1,0,1,0,0] (Z2Q a b m x9 ml7_0 ml7_1 ml7_2 ml7_3 ml7_4 ml7_5 ml7_6 ml7_7) (xT N0 (xB 0 (ZIj [1,1,1] Q))):=
 Eq.mpr V4 h
def ZBG(a b m:Int):Prop:=AW (Z0 Zjw) Tryz.f136 ZpJ [] (Zh (ZrA.can (a,b,m,())) []) (EQ Tryz.f136 (Zv6 (a,b,m,())) [])
theorem ZzO(ZEw:CT 186 Z90)(ZEv:CT 187 Z8Z)(ZEu:CT 188 Z8Y)(hb:∀ (a:Int) (b:Int) (m:Int) (_:Unit),Z13 (a,b,m,())->ZBG a b m):CT 136 JQ:=
 Z1 (l:=[(186,Z90),(187,Z8Z),(188,Z8Y)]) Zi rfl (⟨ZEw,ZEv,ZEu,trivial⟩) ZpJ Tryz.func136 rfl rfl 3 (fun _=> rfl) V1 (fun ⟨a,b,m,_⟩=> hb a b m ())
def ZDQ:Zc U:=lvl [([1],[1]),([2],[])]
abbrev A99(p:List Nat):=AW (Z0 ZnJ) Tryz.f99 ZDQ p
theorem ZIv(t:Tree)(Q:QT)(h:((Tt (t.kind==0))/\(Tt (t.kind==0))/\(Tt (t.kind==0))/\(Tt (t.kind==0))/\(Tt (t.kind==0))/\(Tt (t.kind==0))/\((t.kind==0)=true->InR (((t.words.length:Int):Int)+(t.kids.length:Int)))/\(Tt (t.kind==0))/\(Tt (t.kind==0))/\(Q .ret (L2 [(2,.c (.bool (bif (t.kind==0) then (((((t.words.length:Int):Int)+(t.kids.length:Int)):Int)==0) else false)))] [])))):
  A99 [] (L2 [(0,.agg (enc .tree t))] []) Q:=
 Eq.mpr V4 h
def ZFi(t:Tree):Prop:=AW (Z0 ZnJ) Tryz.f99 ZDQ [] (Zh (Zo7.can (t,())) []) (EQ Tryz.f99 (ZC3 (t,())) [])
theorem ZDx(hb:∀ (t:Tree) (_:Unit),Z5L (t,())->ZFi t):CT 99 Z4P:=
 Z1 (l:=[]) Zi rfl trivial ZDQ Tryz.func99 rfl rfl 1 (fun _=> rfl) V1 (fun ⟨t,_⟩=> hb t ())
def ZqC:List (FuncId × Fs U):=[(136,JQ)]
def ZwH:Zc U:=lvl [([0,1],[]),([4],[])]
abbrev ZJL(p:List Nat):=AW (Z0 ZqC) Tryz.f100 ZwH p
theorem ZHl(w m:Int)(Q:QT)(h:((Z13 (w,0,m,()))/\(Q .ret (L2 [pB 4 (((mix w 0 m):Int)==0)] [])))):
  ZJL [] (L2 [(0,.c (.int .u64 w)),(1,.c (.int .u8 m))] []) Q:=
 Eq.mpr V4 h
def ZBY(w m:Int):Prop:=AW (Z0 ZqC) Tryz.f100 ZwH [] (Zh (ZrH.can (w,m,())) []) (EQ Tryz.f100 (Zva (w,m,())) [])
theorem ZzX(ZcK:CT 136 JQ)(hb:∀ (w:Int) (m:Int) (_:Unit),ZiU (w,m,())->ZBY w m):CT 100 Z6A:=
 Z1 (l:=[(136,JQ)]) Zi rfl (⟨ZcK,trivial⟩) ZwH Tryz.func100 rfl rfl 2 (fun _=> rfl) V1 (fun ⟨w,m,_⟩=> hb w m ())
def Zqw:List (FuncId × Fs U):=[(99,Z4P)]
abbrev ZJE(p:List Nat):=AW (Z0 Zqw) Tryz.f137 ZDQ p
theorem ZH2(e:Edit)(Q:QT)(h:∀ y_1,y_1=(e.new)->∀ y_2,y_2=(e.old)->let z2:=bif (e.kind==0) then (JU y_2) else false;let z0:=bif z2 then (JU y_1) else false;let z1:=bif z0 then (((((((e.words.length:Int):Int)+(e.kids.length:Int)):Int)+(e.ops.length:Int)):Int)==0) else false;((Tt (e.kind==0))/\(Tt (e.kind==0))/\((e.kind==0)=true->Z5L (y_2,()))/\(Tt (e.kind==0))/\(Tt z2)/\(Tt z2)/\(z2=true->Z5L (y_1,()))/\(Tt z2)/\(Tt z0)/\(Tt z0)/\(Tt z0)/\(Tt z0)/\(Tt z0)/\(Tt z0)/\(z0=true->InR (((e.words.length:Int):Int)+(e.kids.length:Int)))/\(Tt z0)/\(Tt z0)/\(Tt z0)/\(Tt z0)/\(z0=true->InR (((((e.words.length:Int):Int)+(e.kids.length:Int)):Int)+(e.ops.length:Int)))/\(Tt z0)/\(Tt z0)/\(Tt z1)/\(Tt z1)/\(Tt z1)/\(Q .ret (L2 [(2,.c (.bool (bif z1 then (e.list==0) else false)))] [])))):
  ZJE [] (L2 [(0,.agg (enc .edit e))] []) Q:=
 Eq.mpr V4 (h _ (Za _) _ (Za _))
def ZBF(e:Edit):Prop:=AW (Z0 Zqw) Tryz.f137 ZDQ [] (Zh (Zrz.can (e,())) []) (EQ Tryz.f137 (Zv5 (e,())) [])
theorem ZzN(c99:CT 99 Z4P)(hb:∀ (e:Edit) (_:Unit),Z8j (e,())->ZBF e):CT 137 Z6y:=
 Z1 (l:=[(99,Z4P)]) Zi rfl (⟨c99,trivial⟩) ZDQ Tryz.func137 rfl rfl 1 (fun _=> rfl) V1 (fun ⟨e,_⟩=> hb e ())
def ZpR:Zc U:=lvl [([1],[1]),([1,4,5],[1]),([1,4,5,6],[1]),([1,4,5,6,13],[1]),([1,4,5,6],[1]),([1,4,5,6,7],[1,7]),([1,4,5,6,7,8],[1,7]),([1,4,5,6,7,8,29],[1,7]),([1,4,5,6,7,8,29],[1,7]),([1,4,5,6,7,8,32],[1,7]),([1,4,5,6,7,8,32],[1,7]),([1,4,5,6,8,38],[1]),([1,4,5,6,8,38],[1]),([1,4,5,6,43],[1]),([1,4,5,6,43],[1]),([1,4,5,6,45],[1]),([1,4,5,6],[1]),([2,3],[])]
def Z1E(e:Edit)(x4 x5 x6:Int):LSt U:=(L2 [pL 1,pI 4 x4,pI 5 x5,pI 6 x6] [(.loc 1,(enc .edit e))])
def Z7z(e:Edit)(x4 x5 x6 x8_a:Int):LSt U:=(L2 [pL 1,pI 4 x4,pI 5 x5,pI 6 x6,pL 7,pI 8 x8_a,(29,.c (.bool (((OpOf.kind (e.ops.getD x6.toNat Op.nil)):Int)==3)))] [(.loc 1,(enc .edit e)),(.loc 7,(enc .op (e.ops.getD x6.toNat Op.nil)))])
def Z7y(e:Edit)(x5 x6 x8_a x4_b:Int):LSt U:=(L2 [pL 1,pI 4 x4_b,pI 5 x5,pI 6 x6,pL 7,pI 8 x8_a,(32,.c (.bool (((OpOf.kind (e.ops.getD x6.toNat Op.nil)):Int) !=2)))] [(.loc 1,(enc .edit e)),(.loc 7,(enc .op (e.ops.getD x6.toNat Op.nil)))])
def Z7x(e:Edit)(x6 x8_a x4_b x5_c:Int):LSt U:=(L2 [pL 1,pI 4 x4_b,pI 5 x5_c,pI 6 x6,pI 8 x8_a,(38,.c (.bool (((OpOf.kind (e.ops.getD x6.toNat Op.nil)):Int) !=1)))] [(.loc 1,(enc .edit e))])
def Z7w(e:Edit)(x6 x4_b x5_c x4_d:Int):LSt U:=(L2 [pL 1,pI 4 x4_d,pI 5 x5_c,pI 6 x6,pB 43 (decide ((1048576:Int) < x4_b))] [(.loc 1,(enc .edit e))])
abbrev Z4I(p:List Nat):=AW (Z0 ZnJ) Tryz.f102 ZpR p
abbrev Z1I(p:List Nat):=SW (Z0 ZnJ) Tryz.f102 ZpR p
theorem ZHj(e:Edit)(Q:QT)(h:(Zd (Z4I [1,1,0,1,0,0]) (Z1E e 0 0 0) (xB 0 (Z1I [1,1,1] Q)))):
  Z4I [] (L2 [(0,.agg (enc .edit e))] []) Q:=
 Eq.mpr V4 h
abbrev ZAy(e:Edit)(x4 x5 x6:Int)(N0:NT)(Q:QT):Prop:=Z4I [1,1,0,1,0,0] (Z1E e x4 x5 x6) (xT N0 (xB 0 (Z1I [1,1,1] Q)))
theorem Zuk(e:Edit)(x4 x5 x6:Int)(N0:NT)(Q:QT)(h:let z1:=xB 1 (Z1I [1,1,0,1,0,0,1,1] (xT N0 (xB 0 (Z1I [1,1,1] Q))));let z0:=e.ops.getD x6.toNat Op.nil;(iB (decide (x6 < (e.ops.length:Int))) (((0:Int)<=x6/\x6 < (e.ops.length:Int))/\((InR (((OpOf.n z0):Int)+((OpOf.l z0).length:Int)))/\(iB (((OpOf.kind z0):Int)==3) ((Z4I [1,1,0,1,0,0,1,0,0,1,1,1] (Z7z e x4 x5 x6 1) z1)) (Z4I [1,1,0,1,0,0,1,0,0,1,1,1] (Z7z e x4 x5 x6 (((OpOf.n z0):Int)+((OpOf.l z0).length:Int))) z1)))) ((Q .ret (L2 [pI 2 x4,pI 3 x5] []))))):
  Z4I [1,1,0,1,0,0] (Z1E e x4 x5 x6) (xT N0 (xB 0 (Z1I [1,1,1] Q))):=
 Eq.mpr V4 h
abbrev ZAC(e:Edit)(x4 x5 x6 x8_a:Int)(N0:NT)(Q:QT):Prop:=Z4I [1,1,0,1,0,0,1,0,0,1,1,1] (Z7z e x4 x5 x6 x8_a) (xB 1 (Z1I [1,1,0,1,0,0,1,1] (xT N0 (xB 0 (Z1I [1,1,1] Q)))))
theorem Zuo(e:Edit)(x4 x5 x6 x8_a:Int)(N0:NT)(Q:QT)(h:let z0:=xB 1 (Z1I [1,1,0,1,0,0,1,1] (xT N0 (xB 0 (Z1I [1,1,1] Q))));(iB (((OpOf.kind (e.ops.getD x6.toNat Op.nil)):Int) !=2) ((InR (x4+x8_a))/\(Z4I [1,1,0,1,0,0,1,0,0,1,1,1,1] (Z7y e x5 x6 x8_a (x4+x8_a)) z0)) (Z4I [1,1,0,1,0,0,1,0,0,1,1,1,1] (Z7y e x5 x6 x8_a x4) z0))):
  Z4I [1,1,0,1,0,0,1,0,0,1,1,1] (Z7z e x4 x5 x6 x8_a) (xB 1 (Z1I [1,1,0,1,0,0,1,1] (xT N0 (xB 0 (Z1I [1,1,1] Q))))):=
 Eq.mpr V4 h
abbrev ZAB(e:Edit)(x5 x6 x8_a x4_b:Int)(N0:NT)(Q:QT):Prop:=Z4I [1,1,0,1,0,0,1,0,0,1,1,1,1] (Z7y e x5 x6 x8_a x4_b) (xB 1 (Z1I [1,1,0,1,0,0,1,1] (xT N0 (xB 0 (Z1I [1,1,1] Q)))))
theorem Zun(e:Edit)(x5 x6 x8_a x4_b:Int)(N0:NT)(Q:QT)(h:let z0:=xB 1 (Z1I [1,1,0,1,0,0,1,1] (xT N0 (xB 0 (Z1I [1,1,1] Q))));(iB (((OpOf.kind (e.ops.getD x6.toNat Op.nil)):Int) !=1) ((InR (x5+x8_a))/\(Z4I [1,1,0,1,0,0,1,0,0,1,1,1,1,1] (Z7x e x6 x8_a x4_b (x5+x8_a)) z0)) (Z4I [1,1,0,1,0,0,1,0,0,1,1,1,1,1] (Z7x e x6 x8_a x4_b x5) z0))):
  Z4I [1,1,0,1,0,0,1,0,0,1,1,1,1] (Z7y e x5 x6 x8_a x4_b) (xB 1 (Z1I [1,1,0,1,0,0,1,1] (xT N0 (xB 0 (Z1I [1,1,1] Q))))):=
 Eq.mpr V4 h
abbrev ZAA(e:Edit)(x6 x8_a x4_b x5_c:Int)(N0:NT)(Q:QT):Prop:=Z4I [1,1,0,1,0,0,1,0,0,1,1,1,1,1] (Z7x e x6 x8_a x4_b x5_c) (xB 1 (Z1I [1,1,0,1,0,0,1,1] (xT N0 (xB 0 (Z1I [1,1,1] Q)))))
theorem Zum(e:Edit)(x6 x8_a x4_b x5_c:Int)(N0:NT)(Q:QT)(h:let z0:=xB 1 (Z1I [1,1,0,1,0,0,1,1] (xT N0 (xB 0 (Z1I [1,1,1] Q))));(iB (decide ((1048576:Int) < x4_b)) ((Z4I [1,1,0,1,0,0,1,0,0,1,1,1,1,1,1] (Z7w e x6 x4_b x5_c 1048576) z0)) (Z4I [1,1,0,1,0,0,1,0,0,1,1,1,1,1,1] (Z7w e x6 x4_b x5_c x4_b) z0))):
  Z4I [1,1,0,1,0,0,1,0,0,1,1,1,1,1] (Z7x e x6 x8_a x4_b x5_c) (xB 1 (Z1I [1,1,0,1,0,0,1,1] (xT N0 (xB 0 (Z1I [1,1,1] Q))))):=
 Eq.mpr V4 h
abbrev ZAz(e:Edit)(x6 x4_b x5_c x4_d:Int)(N0:NT)(Q:QT):Prop:=Z4I [1,1,0,1,0,0,1,0,0,1,1,1,1,1,1] (Z7w e x6 x4_b x5_c x4_d) (xB 1 (Z1I [1,1,0,1,0,0,1,1] (xT N0 (xB 0 (Z1I [1,1,1] Q)))))
theorem Zul(e:Edit)(x6 x4_b x5_c x4_d:Int)(N0:NT)(Q:QT)(h:(iB (decide ((1048576:Int) < x5_c)) (((InR (x6+1))/\(N0 (Z1E e x4_d 1048576 (x6+1))))) ((InR (x6+1))/\(N0 (Z1E e x4_d x5_c (x6+1)))))):
  Z4I [1,1,0,1,0,0,1,0,0,1,1,1,1,1,1] (Z7w e x6 x4_b x5_c x4_d) (xB 1 (Z1I [1,1,0,1,0,0,1,1] (xT N0 (xB 0 (Z1I [1,1,1] Q))))):=
 Eq.mpr V4 h
def ZBW(e:Edit):Prop:=AW (Z0 ZnJ) Tryz.f102 ZpR [] (Zh (Zrz.can (e,())) []) (EQ Tryz.f102 (ZmW (e,())) [])
theorem ZzW(hb:∀ (e:Edit) (_:Unit),Zfn (e,())->ZBW e):CT 102 Z2k:=
 Z1 (l:=[]) Zi rfl trivial ZpR Tryz.func102 rfl rfl 1 (fun _=> rfl) V1 (fun ⟨e,_⟩=> hb e ())
def ZnF(N:Nat):List (FuncId × Fs U):=(91,fs Zo3 (fun a=> [ZeZ a,Zlu a < N]) ZoQ) ::[(80,Zek)]
def ZzY:Zc U:=lvl [([1,2,3],[3]),([1,2,3],[3]),([1,2,3,25],[3]),([6],[]),([1,2,3],[3]),([1,2,3,31],[3]),([1,2,3,31],[3]),([1,2,3,7],[3]),([1,2,3,7,44],[3]),([1,2,3,7],[3]),([1,2,3,7],[3]),([1,2,3,8],[3]),([1,2,3,8,65],[3]),([1,2,3,8],[3]),([1,2,3,8,9],[3]),([1,2,3,8,9,80],[3]),([1,2,3,8,9],[3]),([1,2,3,8,9],[3]),([1,2,3,8,95],[3]),([1,2,3,8],[3]),([6],[])]
def Z9W(e:Edit)(d n x2:Int):LSt U:=(L2 [pI 1 d,pI 2 x2,pL 3,(31,.c (.bool (decide ((0:Int)<=(ZW (Tree.mk e.old.kind e.old.words e.old.kids) 80 ((((((n:Int) - 1):Int) - (e.words.length:Int)):Int) - (e.ops.length:Int)))))))] [(.loc 3,(enc .edit e))])
def Z9V(e:Edit)(d n x2_a x7_a:Int):LSt U:=(L2 [pI 1 d,pI 2 x2_a,pL 3,pI 7 x7_a] [(.loc 3,(enc .edit e))])
def Z6b(e:Edit)(d n x2_b x8_b:Int):LSt U:=(L2 [pI 1 d,pI 2 x2_b,pL 3,pI 8 x8_b] [(.loc 3,(enc .edit e))])
def Z9U(e:Edit)(d n x8_b x2_c x9_c:Int):LSt U:=(L2 [pI 1 d,pI 2 x2_c,pL 3,pI 8 x8_b,pI 9 x9_c] [(.loc 3,(enc .edit e))])
abbrev A91(N:Nat)(p:List Nat):=AW (Z0 (ZnF N)) Tryz.f91 ZzY p
abbrev S91(N:Nat)(p:List Nat):=SW (Z0 (ZnF N)) Tryz.f91 ZzY p
theorem ZIw(N:Nat)(e:Edit)(d n:Int)(Q:QT)(h:∀ y_1,y_1=(e.new)->∀ y_2,y_2=(e.old)->∀ y_3,y_3=(ZW y_2 80 (((((n - 1):Int) - (e.words.length:Int)):Int) - (e.ops.length:Int)))->((InR (n - 1))/\(InR (((n - 1):Int) - (e.words.length:Int)))/\(InR (((((n - 1):Int) - (e.words.length:Int)):Int) - (e.ops.length:Int)))/\((Tt (!(d==0)))/\((d==0)=false->(!(d==0))=true)/\(iB (bif (d==0) then true else (decide (((((((n - 1):Int) - (e.words.length:Int)):Int) - (e.ops.length:Int)):Int) < 0))) ((Q .ret (L2 [pI 6 (-1)] []))) ((ZbY (y_2,80,(((((n - 1):Int) - (e.words.length:Int)):Int) - (e.ops.length:Int)),()))/\(iB (decide ((0:Int)<=y_3)) ((ZbY (y_1,80,y_3,()))/\(A91 N [1,1,1,1,1] (Z9W e d n (ZW y_1 80 y_3)) Q)) (A91 N [1,1,1,1,1] (Z9W e d n y_3) Q))))))):
  A91 N [] (L2 [(0,.agg (enc .edit e)),pI 1 d,pI 2 n] []) Q:=
 Eq.mpr V4 (h _ (Za _) _ (Za _) _ rfl)
abbrev ZFf(N:Nat)(e:Edit)(d n x2:Int)(Q:QT):Prop:=A91 N [1,1,1,1,1] (Z9W e d n x2) Q
theorem Zy5(N:Nat)(e:Edit)(d n x2:Int)(Q:QT)(h:(Zd (A91 N [1,1,1,1,1,0,1,0,0]) (Z9V e d n x2 0) (xB 0 (S91 N [1,1,1,1,1,1] Q)))):
  A91 N [1,1,1,1,1] (Z9W e d n x2) Q:=
 Eq.mpr V4 h
theorem Zy4(N:Nat)(e:Edit)(d n x2_a x7_a:Int)(N1:NT)(Q:QT)(h:∀ y_1,y_1=(e.kids.getD x7_a.toNat (KidOf.mk 0 Edit.nil))->∀ y_2,y_2=(y_1.e)->let z0:=decide (x7_a < (e.kids.length:Int));(Tt z0)/\(Tt z0)/\(iB (bif z0 then (decide ((0:Int)<=x2_a)) else false) (((0:Int)<=x7_a/\x7_a < (e.kids.length:Int))/\(InR (d - 1))/\(ZeZ (y_2,(d - 1),x2_a,()))/\(Zlu (y_2,(d - 1),x2_a,()) < N)/\((InR (x7_a+1))/\(N1 (Z9V e d n (Z1a y_2 (d - 1) x2_a) (x7_a+1))))) ((Zd (A91 N [1,1,1,1,1,1,0,1,0,0]) (Z6b e d n x2_a 0) (xB 2 (S91 N [1,1,1,1,1,1,1] Q)))))):
  A91 N [1,1,1,1,1,0,1,0,0] (Z9V e d n x2_a x7_a) (xT N1 (xB 0 (S91 N [1,1,1,1,1,1] Q))):=
 Eq.mpr V4 (h _ rfl _ (Z7 _))
theorem Zy3(N:Nat)(e:Edit)(d n x2_b x8_b:Int)(N2:NT)(Q:QT)(h:let z0:=decide (x8_b < (e.ops.length:Int));(Tt z0)/\(Tt z0)/\(iB (bif z0 then (decide ((0:Int)<=x2_b)) else false) ((Zd (A91 N [1,1,1,1,1,1,0,1,0,0,1,0,0,0,1,0,0]) (Z9U e d n x8_b x2_b 0) (xB 4 (S91 N [1,1,1,1,1,1,0,1,0,0,1,0,0,1] (xB 3 (S91 N [1,1,1,1,1,1,0,1,0,0,1,1] (xT N2 (xB 2 (S91 N [1,1,1,1,1,1,1] Q))))))))) ((Q .ret (L2 [pI 6 x2_b] []))))):
  A91 N [1,1,1,1,1,1,0,1,0,0] (Z6b e d n x2_b x8_b) (xT N2 (xB 2 (S91 N [1,1,1,1,1,1,1] Q))):=
 Eq.mpr V4 h
theorem Zy2(N:Nat)(e:Edit)(d n x8_b x2_c x9_c:Int)(N3 N2:NT)(Q:QT)(h:∀ y_1,y_1=(e.ops.getD x8_b.toNat Op.nil)->∀ y_2,y_2=(y_1.e)->∀ y_3,y_3=(y_1.l.getD x9_c.toNat Tree.nil)->let z0:=decide (x9_c < (y_1.l.length:Int));((0:Int)<=x8_b/\x8_b < (e.ops.length:Int))/\(Tt z0)/\(Tt z0)/\(iB (bif z0 then (decide ((0:Int)<=x2_c)) else false) (((0:Int)<=x8_b/\x8_b < (e.ops.length:Int))/\((0:Int)<=x9_c/\x9_c < (y_1.l.length:Int))/\(ZbY (y_3,80,x2_c,()))/\((InR (x9_c+1))/\(N3 (Z9U e d n x8_b (ZW y_3 80 x2_c) (x9_c+1))))) ((iB (decide ((0:Int)<=x2_c)) (((0:Int)<=x8_b/\x8_b < (e.ops.length:Int))/\(InR (d - 1))/\(ZeZ (y_2,(d - 1),x2_c,()))/\(Zlu (y_2,(d - 1),x2_c,()) < N)/\((InR (x8_b+1))/\(N2 (Z6b e d n (Z1a y_2 (d - 1) x2_c) (x8_b+1))))) ((InR (x8_b+1))/\(N2 (Z6b e d n x2_c (x8_b+1)))))))):
  A91 N [1,1,1,1,1,1,0,1,0,0,1,0,0,0,1,0,0] (Z9U e d n x8_b x2_c x9_c) (xT N3 (xB 4 (S91 N [1,1,1,1,1,1,0,1,0,0,1,0,0,1] (xB 3 (S91 N [1,1,1,1,1,1,0,1,0,0,1,1] (xT N2 (xB 2 (S91 N [1,1,1,1,1,1,1] Q)))))))):=
 Eq.mpr V4 (h _ rfl _ (Z7 _) _ (Za _))
def ZFj(N:Nat)(e:Edit)(d n:Int):Prop:=AW (Z0 (ZnF N)) Tryz.f91 ZzY [] (Zh (Zo3.can (e,d,n,())) []) (EQ Tryz.f91 (ZoQ (e,d,n,())) [])
theorem ZDy(c80:CT 80 Zek)(hb:∀ (N:Nat) (e:Edit) (d:Int) (n:Int) (_:Unit),ZeZ (e,d,n,())->Zlu (e,d,n,()) < N+1->ZFj N e d n):CT 91 Zeh:=
 YY (μ:=Zlu) (l:=[(80,Zek)]) Zi rfl (⟨c80,trivial⟩) ZzY Tryz.func91 rfl rfl 3 (fun _=> rfl) V1 (fun N ⟨e,d,n,_⟩=> hb N e d n ())
def ZwY:List (FuncId × Fs U):=[(91,Zeh)]
abbrev A45(p:List Nat):=AW (Z0 ZwY) Tryz.f45 ZDQ p
theorem ZIK(e:Edit)(Q:QT)(h:let z0:=Edit.mk e.kind (Tree.mk e.old.kind e.old.words e.old.kids) (Tree.mk e.new.kind e.new.words e.new.kids) e.words e.kids e.list e.ops;((ZeZ (z0,80,3000,()))/\(Q .ret (L2 [(2,.c (.bool (decide ((0:Int)<=(Z1a z0 80 3000)))))] [])))):
  A45 [] (L2 [(0,.agg (enc .edit e))] []) Q:=
 Eq.mpr V4 h
def ZFx(e:Edit):Prop:=AW (Z0 ZwY) Tryz.f45 ZDQ [] (Zh (Zrz.can (e,())) []) (EQ Tryz.f45 (ZC6 (e,())) [])
theorem ZDG(c91:CT 91 Zeh)(hb:∀ (e:Edit) (_:Unit),Zvp (e,())->ZFx e):CT 45 Zeq:=
 Z1 (l:=[(91,Zeh)]) Zi rfl (⟨c91,trivial⟩) ZDQ Tryz.func45 rfl rfl 1 (fun _=> rfl) V1 (fun ⟨e,_⟩=> hb e ())
end
noncomputable section
def ZjT:ArgL (Edit × Int × Unit):=(.cons (aEl .edit) (.cons (J9 .i64) .nil))
def Zc0(a:Edit × Int × Unit):Prop:=(Z3 a.1<=20000000000/\J8 a.1)/\0<=a.2.1/\a.2.1<=1000
def Zj7(a:Edit × Int × Unit):Nat:=2*Z3 a.1
def ZoR(a:Edit × Int × Unit):V U:= .c (.bool (Zb a.1 a.2.1))
def Zep:Fs U:=fs ZjT (fun a=> [Zc0 a]) ZoR
def ZdT:ArgL (Int × Op × Int × Unit):=(.cons (J9 .i64) (.cons (aEl .op) (.cons (J9 .i64) .nil)))
def Zb0(a:Int × Op × Int × Unit):Prop:=(Zu a.2.1<=20000000000/\Z28 a.2.1/\InR a.1)/\0<=a.2.2.1/\a.2.2.1<=1000
def Zh8(a:Int × Op × Int × Unit):Nat:=2*Zu a.2.1+1
def Zis(a:Int × Op × Int × Unit):V U:= .c (.bool (Zk a.1 a.2.1 a.2.2.1))
def ZoG:Fs U:=fs ZdT (fun a=> [Zb0 a]) Zis
def Zf2(a:Edit × Unit):Prop:=(Z3 a.1<=20000000000/\J8 a.1)/\∃ d,Zb a.1 d=true
def Zlw(a:Edit × Unit):Nat:=Z3 a.1
def ZuH(a:Edit × Unit):V U:= .c (.bool (YR a.1))
def Zeo:Fs U:=fs Zrz (fun a=> [Zf2 a]) ZuH
def Zl8(a:Edit × Unit):Prop:=Z2W a.1/\J8 a.1
def ZC8(a:Edit × Unit):V U:= .c (.bool (Z06 a.1))
def Zev:Fs U:=fs Zrz (fun a=> [Zl8 a]) ZC8
def ZnN(N:Nat):List (FuncId × Fs U):=(64,fs ZjT (fun a=> [Zc0 a,Zj7 a < N]) ZoR) ::(101,fs ZdT (fun a=> [Zb0 a,Zh8 a < N]) Zis) ::[(99,Z4P),(100,Z6A),(137,Z6y),(31,ZaF),(102,Z2k)]
def ZA6:Zc U:=lvl [([1,2],[2]),([1,2,24],[2]),([4],[]),([1,2,69],[2]),([4],[]),([1,2,72],[2]),([4],[]),([1,2,5],[2]),([1,2,5,6],[2]),([1,2,5,6,97],[2]),([1,2,5,6],[2]),([1,2,5,6,7],[2,7]),([1,2,6,7,134],[2,7]),([4],[]),([1,2,5,6],[2]),([1,2,5],[2]),([1,2,5,8],[2]),([1,2,5,8,141],[2]),([1,2,5,8],[2]),([1,2,5,8,9],[2,9]),([1,2,8,9,171],[2,9]),([4],[]),([1,2,5,8],[2]),([1,2,186],[2]),([4],[]),([1,2,10],[2]),([1,2,10,191],[2]),([1,2,10],[2]),([1,2,10,204],[2]),([4],[]),([11,12],[]),([4],[])]
def Za9(e:Edit)(d x5 x6:Int):LSt U:=(L2 [pI 1 d,pL 2,pI 5 x5,pI 6 x6] [(.loc 2,(enc .edit e))])
def Za8(e:Edit)(d x5_a x8_a:Int):LSt U:=(L2 [pI 1 d,pL 2,pI 5 x5_a,pI 8 x8_a] [(.loc 2,(enc .edit e))])
def Za7(e:Edit)(d x10_b:Int):LSt U:=(L2 [pI 1 d,pL 2,pI 10 x10_b] [(.loc 2,(enc .edit e))])
abbrev A64(N:Nat)(p:List Nat):=AW (Z0 (ZnN N)) Tryz.f64 ZA6 p
abbrev S64(N:Nat)(p:List Nat):=SW (Z0 (ZnN N)) Tryz.f64 ZA6 p
theorem ZIJ(N:Nat)(e:Edit)(d:Int)(Q:QT)(h:∀ y_1,y_1=(e.new)->∀ y_2,y_2=(e.old)->let z9:=(Q .ret (L2 [pB 4 false] []));let z7:=(e.kind !=1) && (JU y_2);let z4:=bif (d==0) then true else (decide (e.kind < 0));let z2:=bif (ZD y_2 64) then (ZD y_1 64) else false;let z6:=bif z2 then (e.old.kind !=10) else false;let z1:=bif (e.kind !=1) then (!(bif (JU y_2) then (JU y_1) else false)) else false;let z5:=(!z1) && (e.kind !=2);let z0:=bif z1 then true else (bif (e.kind !=2) then (decide ((0:Int) < (((e.words.length:Int):Int)+(e.kids.length:Int)))) else false);let z3:=(!z0) && (e.kind !=3);let z8:=z3 && (!(e.list !=0));((Tt (!(d==0)))/\(Tt (!(d==0)))/\((d==0)=false->(!(d==0))=true)/\(Tt (!z4))/\(Tt (!z4))/\(z4=false->(!z4)=true)/\(iB (bif z4 then true else (decide ((3:Int) < e.kind))) z9 ((Tt (e.kind !=1))/\(Tt (e.kind !=1))/\((e.kind !=1)=true->Z5L (y_2,()))/\(Tt (e.kind !=1))/\(Tt z7)/\(Tt z7)/\(z7=true->Z5L (y_1,()))/\((e.kind !=1)=true->(True->(e.kind !=1)=true))/\((e.kind !=1)=true->((JU y_2)=true->z7=true))/\(Tt (e.kind !=1))/\(Tt (e.kind !=1))/\(Tt (!z1))/\(Tt (!z1))/\(Tt (!z1))/\(Tt z5)/\(Tt z5)/\(Tt z5)/\(Tt z5)/\(Tt z5)/\(Tt z5)/\(z5=true->InR (((e.words.length:Int):Int)+(e.kids.length:Int)))/\(Tt z5)/\((!z1)=true->(True->(!z1)=true))/\((!z1)=true->((e.kind !=2)=true->z5=true))/\(z1=false->(!z1)=true)/\(Tt (!z0))/\(Tt (!z0))/\(Tt (!z0))/\(Tt z3)/\(Tt z3)/\(Tt z3)/\(Tt z8)/\(Tt z8)/\(Tt z8)/\(z3=true->(True->z3=true))/\(z3=true->((e.list !=0)=false->z8=true))/\((!z0)=true->(True->(!z0)=true))/\((!z0)=true->((e.kind !=3)=true->z3=true))/\(z0=false->(!z0)=true)/\(iB (bif z0 then true else (bif (e.kind !=3) then (bif (e.list !=0) then true else (decide ((0:Int) < (e.ops.length:Int)))) else false)) z9 ((iB (e.kind==1) ((Z9r (y_2,64,()))/\(Tt (ZD y_2 64))/\(Tt (ZD y_2 64))/\((ZD y_2 64)=true->Z9r (y_1,64,()))/\(Tt (ZD y_2 64))/\(Tt z2)/\(Tt z2)/\(Tt z2)/\(Tt z2)/\(Tt z6)/\(Tt z6)/\(Tt z6)/\(Tt z6)/\(Q .ret (L2 [(4,.c (.bool (bif z6 then (e.new.kind !=10) else false)))] []))) ((Zd (A64 N [1,1,1,1,1,0,1,0,0]) (Za9 e d (-1) 0) (xB 0 (S64 N [1,1,1,1,1,1] Q))))))))))):
  A64 N [] (L2 [(0,.agg (enc .edit e)),pI 1 d] []) Q:=
 Eq.mpr V4 (h _ (Za _) _ (Za _))
theorem Zyl(N:Nat)(e:Edit)(d x5 x6:Int)(N0:NT)(Q:QT)(h:∀ y_1,y_1=(e.words.getD x6.toNat (WEdit.mk 0 0 0 0))->let z3:=decide (y_1.at_<=x5);let z2:=bif z3 then true else (decide ((65534:Int) < y_1.at_));let z0:=bif z2 then true else (y_1.mask==0);let z1:=bif z0 then true else (!(J7 y_1.old y_1.mask));(iB (decide (x6 < (e.words.length:Int))) (((0:Int)<=x6/\x6 < (e.words.length:Int))/\((Tt (!z3))/\(Tt (!z3))/\(z3=false->(!z3)=true)/\(Tt (!z2))/\(Tt (!z2))/\(z2=false->(!z2)=true)/\(Tt (!z0))/\(Tt (!z0))/\(Tt (!z0))/\(Tt (!z0))/\((!z0)=true->ZiU (y_1.old,y_1.mask,()))/\(Tt (!z0))/\(z0=false->(!z0)=true)/\(Tt (!z1))/\(Tt (!z1))/\(Tt (!z1))/\(Tt (!z1))/\((!z1)=true->ZiU (y_1.new,y_1.mask,()))/\(Tt (!z1))/\(z1=false->(!z1)=true)/\(iB (bif z1 then true else (!(J7 y_1.new y_1.mask))) ((Q .ret (L2 [pB 4 false] []))) (((InR (x6+1))/\(N0 (Za9 e d y_1.at_ (x6+1)))))))) ((Zd (A64 N [1,1,1,1,1,1,1,0,1,0,0]) (Za8 e d (-1) 0) (xB 2 (S64 N [1,1,1,1,1,1,1,1] Q)))))):
  A64 N [1,1,1,1,1,0,1,0,0] (Za9 e d x5 x6) (xT N0 (xB 0 (S64 N [1,1,1,1,1,1] Q))):=
 Eq.mpr V4 (h _ rfl)
theorem Zyk(N:Nat)(e:Edit)(d x5_a x8_a:Int)(N1:NT)(Q:QT)(h:∀ y_1,y_1=(e.kids.getD x8_a.toNat (KidOf.mk 0 Edit.nil))->∀ y_2,y_2=(y_1.e)->let z5:=(Q .ret (L2 [pB 4 false] []));let z4:=decide (e.list < 2);let z3:=(e.kind==3) && (!z4);let z2:=decide (y_1.at_<=x5_a);let z0:=bif z2 then true else (decide ((65534:Int) < y_1.at_));let z1:=bif z0 then true else (y_1.e.kind==0);(iB (decide (x8_a < (e.kids.length:Int))) (((0:Int)<=x8_a/\x8_a < (e.kids.length:Int))/\((Tt (!z2))/\(Tt (!z2))/\(z2=false->(!z2)=true)/\(Tt (!z0))/\(Tt (!z0))/\(Tt (!z0))/\(z0=false->(!z0)=true)/\(Tt (!z1))/\(Tt (!z1))/\((!z1)=true->InR (d - 1))/\(Tt (!z1))/\(Tt (!z1))/\((!z1)=true->Zc0 (y_2,(d - 1),()))/\((!z1)=true->Zj7 (y_2,(d - 1),()) < N)/\(Tt (!z1))/\(z1=false->(!z1)=true)/\(iB (bif z1 then true else (!(Zb y_2 (d - 1)))) z5 (((InR (x8_a+1))/\(N1 (Za8 e d y_1.at_ (x8_a+1)))))))) ((Tt (e.kind==3))/\(Tt (e.kind==3))/\(Tt (e.kind==3))/\(Tt z3)/\(Tt z3)/\((e.kind==3)=true->(True->(e.kind==3)=true))/\((e.kind==3)=true->(z4=false->z3=true))/\(Tt (e.kind==3))/\(iB (bif (e.kind==3) then (bif z4 then true else (decide ((9:Int) < e.list))) else false) z5 ((Zd (A64 N [1,1,1,1,1,1,1,1,1,0,1,0,0]) (Za7 e d 0) (xB 4 (S64 N [1,1,1,1,1,1,1,1,1,1] Q)))))))):
  A64 N [1,1,1,1,1,1,1,0,1,0,0] (Za8 e d x5_a x8_a) (xT N1 (xB 2 (S64 N [1,1,1,1,1,1,1,1] Q))):=
 Eq.mpr V4 (h _ rfl _ (Z7 _))
theorem Zyj(N:Nat)(e:Edit)(d x10_b:Int)(N2:NT)(Q:QT)(h:∀ y_1,y_1=e->∀ y_2,y_2=(e.ops.getD x10_b.toNat Op.nil)->∀ y_3,y_3=y_2->let z0:=decide (((Z2r y_1.ops 0):Int) < 1048576);(iB (decide (x10_b < (e.ops.length:Int))) (((0:Int)<=x10_b/\x10_b < (e.ops.length:Int))/\(InR (d - 1))/\(Zb0 (e.list,y_3,(d - 1),()))/\(Zh8 (e.list,y_3,(d - 1),()) < N)/\(iB (!(Zk e.list y_3 (d - 1))) ((Q .ret (L2 [pB 4 false] []))) ((InR (x10_b+1))/\(N2 (Za7 e d (x10_b+1)))))) ((Zfn (y_1,()))/\((Tt z0)/\(Tt z0)/\(Q .ret (L2 [(4,.c (.bool (bif z0 then (decide (((Z2q y_1.ops 0):Int) < 1048576)) else false)))] [])))))):
  A64 N [1,1,1,1,1,1,1,1,1,0,1,0,0] (Za7 e d x10_b) (xT N2 (xB 4 (S64 N [1,1,1,1,1,1,1,1,1,1] Q))):=
 Eq.mpr V4 (h _ (Z7 _) _ rfl _ (Yw _))
def ZFw(N:Nat)(e:Edit)(d:Int):Prop:=AW (Z0 (ZnN N)) Tryz.f64 ZA6 [] (Zh (ZjT.can (e,d,())) []) (EQ Tryz.f64 (ZoR (e,d,())) [])
abbrev ZIr:Prop:=∀ (N:Nat) (e:Edit) (d:Int) (_:Unit),Zc0 (e,d,())->Zj7 (e,d,()) < N+1->ZFw N e d
def ZpS:Zc U:=lvl [([0,2,4],[4]),([0,2,4,10],[4]),([6],[]),([0,2,4,42],[4]),([6],[]),([0,2,4,45],[4]),([0,4,7],[4]),([0,4,7,50],[4]),([0,4,7],[4]),([0,4,7,62],[4]),([6],[]),([6],[]),([0,4,92],[4]),([6],[]),([6],[])]
def Z7A(list:Int)(o:Op)(d x7:Int):LSt U:=(L2 [pI 0 list,pL 4,pI 7 x7] [(.loc 4,(enc .op o))])
abbrev ZFZ(N:Nat)(p:List Nat):=AW (Z0 (ZnN N)) Tryz.f101 ZpS p
abbrev ZAF(N:Nat)(p:List Nat):=SW (Z0 (ZnN N)) Tryz.f101 ZpS p
theorem ZHk(N:Nat)(list:Int)(o:Op)(d:Int)(Q:QT)(h:∀ y_1,y_1=(o.e)->let z10:=(Q .ret (L2 [pB 6 false] []));let z9:=decide ((1:Int)<=o.n);let z6:=bif (o.n !=0) then true else (decide (o.kind < 0));let z4:=decide ((0:Int) < (o.l.length:Int));let z7:=bif z4 then true else (o.e.kind==0);let z3:=bif (o.e.kind==1) then (o.e.old.kind==1) else false;let z2:=bif z9 then (decide (o.n<=1048576)) else false;let z5:=bif z2 then (((o.l.length:Int):Int)==0) else false;let z1:=bif z7 then true else (decide (list<=7));let z0:=bif (list==8) then true else (o.e.kind==2);let z8:=(!z0) && (o.e.kind==1);(iB (o.kind==0) ((Tt z9)/\(Tt z9)/\(Tt z9)/\(Tt z2)/\(Tt z2)/\(Tt z2)/\(Tt z2)/\(Tt z5)/\(Tt z5)/\(z5=true->Z8j (y_1,()))/\(Tt z5)/\(Q .ret (L2 [(6,.c (.bool (bif z5 then (Z27 y_1) else false)))] []))) ((Tt (!(o.n !=0)))/\(Tt (!(o.n !=0)))/\((o.n !=0)=false->(!(o.n !=0))=true)/\(Tt (!z6))/\(Tt (!z6))/\(z6=false->(!z6)=true)/\(iB (bif z6 then true else (decide ((3:Int) < o.kind))) z10 ((iB (decide (o.kind < 3)) ((Zd (ZFZ N [1,1,1,0,1,0,0,1,0,0]) (Z7A list o d 0) (xB 0 (ZAF N [1,1,1,0,1,0,1] (ZAF N [1,1,1,1] Q))))) ((Tt (!z4))/\(Tt (!z4))/\(Tt (!z4))/\(z4=false->(!z4)=true)/\(Tt (!z7))/\(z7=false->(!z7)=true)/\(Tt (!z1))/\(Tt (!z1))/\(Tt (!z1))/\((!z1)=true->Zc0 (y_1,d,()))/\((!z1)=true->Zj7 (y_1,d,()) < N)/\(Tt (!z1))/\(z1=false->(!z1)=true)/\(iB (bif z1 then true else (!(Zb y_1 d))) z10 ((Tt (!(list==8)))/\(Tt (!(list==8)))/\(Tt (!(list==8)))/\((list==8)=false->(!(list==8))=true)/\(Tt (!z0))/\(Tt (!z0))/\(Tt (!z0))/\(Tt (!z0))/\(Tt z8)/\(Tt z8)/\(Tt z8)/\(Tt z8)/\((!z0)=true->(True->(!z0)=true))/\((!z0)=true->((o.e.kind==1)=true->z8=true))/\(Tt (!z0))/\(Tt ((!z0) && z3))/\(Tt ((!z0) && z3))/\(Tt ((!z0) && z3))/\(Tt ((!z0) && z3))/\((!z0)=true->(True->(!z0)=true))/\((!z0)=true->(z3=true->((!z0) && z3)=true))/\(z0=false->(!z0)=true)/\(Q .ret (L2 [(6,.c (.bool (bif z0 then true else (bif z3 then (o.e.new.kind==1) else false))))] []))))))))))):
  ZFZ N [] (L2 [pI 0 list,(1,.agg (enc .op o)),pI 2 d] []) Q:=
 Eq.mpr V4 (h _ (Z7 _))
theorem Zup(N:Nat)(list:Int)(o:Op)(d x7:Int)(N0:NT)(Q:QT)(h:let z2:=Tree.mk list [] (List.drop x7.toNat (List.take (Int.toNat (x7+1)) o.l));let z1:=Edit.mk o.e.kind (Tree.mk o.e.old.kind o.e.old.words o.e.old.kids) (Tree.mk o.e.new.kind o.e.new.words o.e.new.kids) o.e.words o.e.kids o.e.list o.e.ops;let z0:=decide ((0:Int) < (o.l.length:Int));(iB (decide (x7 < (o.l.length:Int))) ((InR (x7+1))/\((0:Int)<=x7/\x7<=(x7+1)/\(x7+1)<=(o.l.length:Int))/\(Z9r (z2,64,()))/\(iB (!(ZD z2 64)) ((Q .ret (L2 [pB 6 false] []))) ((InR (x7+1))/\(N0 (Z7A list o d (x7+1)))))) ((Tt z0)/\(Tt z0)/\(z0=true->Z8j (z1,()))/\(Tt z0)/\(Q .ret (L2 [(6,.c (.bool (bif z0 then (Z27 z1) else false)))] []))))):
  ZFZ N [1,1,1,0,1,0,0,1,0,0] (Z7A list o d x7) (xT N0 (xB 0 (ZAF N [1,1,1,0,1,0,1] (ZAF N [1,1,1,1] Q)))):=
 Eq.mpr V4 h
def ZBX(N:Nat)(list:Int)(o:Op)(d:Int):Prop:=AW (Z0 (ZnN N)) Tryz.f101 ZpS [] (Zh (ZdT.can (list,o,d,())) []) (EQ Tryz.f101 (Zis (list,o,d,())) [])
abbrev ZCS:Prop:=∀ (N:Nat) (list:Int) (o:Op) (d:Int) (_:Unit),Zb0 (list,o,d,())->Zh8 (list,o,d,()) < N+1->ZBX N list o d
def ZnM(N:Nat):List (FuncId × Fs U):=(65,fs Zrz (fun a=> [Zf2 a,Zlw a < N]) ZuH) ::[(102,Z2k)]
def ZA5:Zc U:=lvl [([1],[1]),([1,3,4],[1]),([1,17],[1]),([2],[]),([1,5],[1]),([1,5,22],[1]),([1,5],[1]),([1,5,32],[1]),([2],[]),([1,6],[1]),([1,6,37],[1]),([1,6],[1]),([1,6,47],[1]),([2],[]),([2],[])]
def Za6(e:Edit)(x5:Int):LSt U:=(L2 [pL 1,pI 5 x5] [(.loc 1,(enc .edit e))])
def Za5(e:Edit)(x6_a:Int):LSt U:=(L2 [pL 1,pI 6 x6_a] [(.loc 1,(enc .edit e))])
abbrev A65(N:Nat)(p:List Nat):=AW (Z0 (ZnM N)) Tryz.f65 ZA5 p
abbrev S65(N:Nat)(p:List Nat):=SW (Z0 (ZnM N)) Tryz.f65 ZA5 p
theorem ZII(N:Nat)(e:Edit)(Q:QT)(h:∀ y_1,y_1=e->let z0:=decide ((2000:Int) < (Z2r y_1.ops 0));((Zfn (y_1,()))/\((Tt (!z0))/\(z0=false->(!z0)=true)/\(iB (bif z0 then true else (decide ((2000:Int) < (Z2q y_1.ops 0)))) ((Q .ret (L2 [pB 2 false] []))) ((Zd (A65 N [1,1,1,0,1,0,0]) (Za6 e 0) (xB 0 (S65 N [1,1,1,1] Q)))))))):
  A65 N [] (L2 [(0,.agg (enc .edit e))] []) Q:=
 Eq.mpr V4 (h _ (Z7 _))
theorem Zyi(N:Nat)(e:Edit)(x5:Int)(N0:NT)(Q:QT)(h:∀ y_1,y_1=(e.kids.getD x5.toNat (KidOf.mk 0 Edit.nil))->∀ y_2,y_2=(y_1.e)->(iB (decide (x5 < (e.kids.length:Int))) (((0:Int)<=x5/\x5 < (e.kids.length:Int))/\(Zf2 (y_2,()))/\(Zlw (y_2,()) < N)/\(iB (!(YR y_2)) ((Q .ret (L2 [pB 2 false] []))) ((InR (x5+1))/\(N0 (Za6 e (x5+1)))))) ((Zd (A65 N [1,1,1,1,0,1,0,0]) (Za5 e 0) (xB 2 (S65 N [1,1,1,1,1] Q)))))):
  A65 N [1,1,1,0,1,0,0] (Za6 e x5) (xT N0 (xB 0 (S65 N [1,1,1,1] Q))):=
 Eq.mpr V4 (h _ rfl _ (Z7 _))
theorem Zyh(N:Nat)(e:Edit)(x6_a:Int)(N1:NT)(Q:QT)(h:∀ y_1,y_1=(e.ops.getD x6_a.toNat Op.nil)->∀ y_2,y_2=(y_1.e)->(iB (decide (x6_a < (e.ops.length:Int))) (((0:Int)<=x6_a/\x6_a < (e.ops.length:Int))/\(Zf2 (y_2,()))/\(Zlw (y_2,()) < N)/\(iB (!(YR y_2)) ((Q .ret (L2 [pB 2 false] []))) ((InR (x6_a+1))/\(N1 (Za5 e (x6_a+1)))))) ((Q .ret (L2 [pB 2 true] []))))):
  A65 N [1,1,1,1,0,1,0,0] (Za5 e x6_a) (xT N1 (xB 2 (S65 N [1,1,1,1,1] Q))):=
 Eq.mpr V4 (h _ rfl _ (Z7 _))
def ZFv(N:Nat)(e:Edit):Prop:=AW (Z0 (ZnM N)) Tryz.f65 ZA5 [] (Zh (Zrz.can (e,())) []) (EQ Tryz.f65 (ZuH (e,())) [])
theorem ZDF(Zt7:CT 102 Z2k)(hb:∀ (N:Nat) (e:Edit) (_:Unit),Zf2 (e,())->Zlw (e,()) < N+1->ZFv N e):CT 65 Zeo:=
 YY (μ:=Zlw) (l:=[(102,Z2k)]) Zi rfl (⟨Zt7,trivial⟩) ZA5 Tryz.func65 rfl rfl 1 (fun _=> rfl) V1 (fun N ⟨e,_⟩=> hb N e ())
def Zx3:List (FuncId × Fs U):=[(45,Zeq),(64,Zep),(65,Zeo)]
abbrev A14(p:List Nat):=AW (Z0 Zx3) Tryz.f14 ZDQ p
theorem ZIU(e:Edit)(Q:QT)(h:∀ y_1,y_1=e->let z1:=decide (0<=Z1a y_1 80 3000);let z0:=bif z1 then (Zb y_1 64) else false;((Zvp (y_1,()))/\(Tt z1)/\(z1=true->Zc0 (y_1,64,()))/\(Tt z1)/\(Tt z0)/\(z0=true->Zf2 (y_1,()))/\(Tt z0)/\(Q .ret (L2 [(2,.c (.bool (bif z0 then (YR y_1) else false)))] [])))):
  A14 [] (L2 [(0,.agg (enc .edit e))] []) Q:=
 Eq.mpr V4 (h _ (Z7 _))
def ZFH(e:Edit):Prop:=AW (Z0 Zx3) Tryz.f14 ZDQ [] (Zh (Zrz.can (e,())) []) (EQ Tryz.f14 (ZC8 (e,())) [])
theorem ZDP(c45:CT 45 Zeq)(c64:CT 64 Zep)(c65:CT 65 Zeo)(hb:∀ (e:Edit) (_:Unit),Zl8 (e,())->ZFH e):CT 14 Zev:=
 Z1 (l:=[(45,Zeq),(64,Zep),(65,Zeo)]) Zi rfl (⟨c45,c64,c65,trivial⟩) ZDQ Tryz.func14 rfl rfl 1 (fun _=> rfl) V1 (fun ⟨e,_⟩=> hb e ())
theorem ZsG(c99:CT 99 Z4P)(ZF1:CT 100 Z6A)(ZEU:CT 137 Z6y)(c31:CT 31 ZaF)(Zt7:CT 102 Z2k)(ha:ZIr)(hb:ZCS):CT 64 Zep/\CT 101 ZoG:=
 Z3V (μA:=Zj7) (μB:=Zh8) (l:=[(99,Z4P),(100,Z6A),(137,Z6y),(31,ZaF),(102,Z2k)]) Zi rfl (⟨c99,ZF1,ZEU,c31,Zt7,trivial⟩) ZA6 ZpS Tryz.func64 Tryz.func101 rfl rfl rfl rfl 2 3 (fun _=> rfl) (fun _=> rfl) V1 V1 (fun N ⟨e,d,_⟩=> ha N e d ()) (fun N ⟨list,o,d,_⟩=> hb N list o d ())
end
theorem Z5r{n:Int}(h0:0<=n)(h1:n < 18446744073709551616):IntKind.wrap .u64 n=n:=by
 simp [IntKind.wrap,IntKind.signed,IntKind.bits];omega
theorem Z3m{n:Int}(h0:0<=n)(h1:n < 256):IntKind.wrap .u8 n=n:=by
 simp [IntKind.wrap,IntKind.signed,IntKind.bits];omega
theorem ZrJ{i:Int}{j:Nat}{v:Int}{F G:Nat->Int}(hi:0<=i)(hv:v=F i.toNat):Z20 i j v (if (j:Int) < i then F j else G j)=if (j:Int) < i+1 then F j else G j:=by
 unfold Z20
 by_cases h:i=j
 .subst h
  rw [if_pos rfl,V0,hv]
  simp
 .rw [if_neg h]
  by_cases h2:(j:Int) < i
  .rw [if_pos h2,V0]
  .rw [if_neg h2,JL]
theorem ZAi{i:Int}{j:Nat}{F G:Nat->Int}(h:F i.toNat=G i.toNat)(hi:0<=i):(if (j:Int) < i then F j else G j)=if (j:Int) < i+1 then F j else G j:=by
 by_cases h2:(j:Int) < i
 .rw [if_pos h2,V0]
 .by_cases h3:(j:Int)=i
  .subst h3
   rw [if_neg h2,V0]
   simpa using h.symm
  .rw [if_neg h2,JL]
theorem Z1f(w:Int)(i:Nat):0<=Zl w i/\Zl w i < 256:=by
 unfold Zl
 omega
theorem Z6h{w:Int}(h:0<=w)(i:Nat):0<=w / 256 ^ i:=KN h (K7 (Kt YS))
theorem Zg6{w:Int}(h:0<=w)(i:Nat):w / 256 ^ i<=w:=KH _ h
theorem ZjL(w:Int)(i:Nat):w / 256 ^ i / 256=w / 256 ^ (i+1):=by
 rw [Int.ediv_ediv_of_nonneg (K7 (Kt YS)),KE]
theorem ZEw:Contract Tryz.prog cfg 186 Z90:=by
 refine Zzi ?_
 intro w _ hp
 simp only [Zf7] at hp
 refine ZGt _ _ ?_;(try simp only [iB,vcT,forall_eq])
 refine Z5 (ι:=Int) (fun i=> Z4v w (w / 256 ^ i.toNat) i (if ((0:Nat):Int) < i then Zl w 0 else 0) (if ((1:Nat):Int) < i then Zl w 1 else 0) (if ((2:Nat):Int) < i then Zl w 2 else 0) (if ((3:Nat):Int) < i then Zl w 3 else 0)
  (if ((4:Nat):Int) < i then Zl w 4 else 0) (if ((5:Nat):Int) < i then Zl w 5 else 0) (if ((6:Nat):Int) < i then Zl w 6 else 0) (if ((7:Nat):Int) < i then Zl w 7 else 0)) (fun i=> 0<=i/\i<=8) (fun i=> (8 - i).toNat) 0 ?_ ⟨YS,YS⟩ ?_
 .simp [Z4v]
 .rintro i ⟨h1,h2⟩
  refine ZtE _ _ _ _ _ _ _ _ _ _ _ _ _ ?_;(try simp only [iB,vcT,forall_eq])
  (simp only [iB,vcS]);(try simp only [iB,vcT])
  refine ⟨fun hc=> ⟨YS,⟨h1,YS⟩,YS,V3,i+1,?_,⟨YS,YS⟩,YS⟩,fun hc=> ?_⟩
  .have hd:=Z6h hp.1 i.toNat
   have hl:=Zg6 hp.1 i.toNat
   have e1:IntKind.wrap .u64 (Int.tdiv (w / 256 ^ i.toNat) 256)=w / 256 ^ (i+1).toNat:=by
    rw [K0 hd,ZjL,show i.toNat+1=(i+1).toNat by omega]
    exact Z5r (Z6h hp.1 _) (Int.lt_of_le_of_lt (Zg6 hp.1 _) hp.2)
   have e2:IntKind.wrap .u8 (Int.tmod (w / 256 ^ i.toNat) 256)=Zl w i.toNat:=by
    rw [Int.tmod_eq_emod_of_nonneg hd]
    exact Z3m (Z1f w _).1 (Z1f w _).2
   rw [e1]
   have st:∀ j:Nat,Z20 i j (IntKind.wrap .u8 (Int.tmod (w / 256 ^ i.toNat) 256)) (if (j:Int) < i then Zl w j else 0)=if (j:Int) < i+1 then Zl w j else 0:=fun j=> ZrJ (F:=Zl w) (G:=fun _=> 0) h1 e2
   rw [st 0,st 1,st 2,st 3,st 4,st 5,st 6,st 7]
  .have:i=8:=YS
   subst this
   simp only [ZmQ]
   exact ⟨⟨rfl,⟨⟨rfl,rfl⟩,⟨rfl,rfl⟩,⟨rfl,rfl⟩,⟨rfl,rfl⟩,⟨rfl,rfl⟩,⟨rfl,rfl⟩,⟨rfl,rfl⟩,⟨rfl,rfl⟩,trivial⟩,trivial⟩,trivial⟩
theorem ZEv:Contract Tryz.prog cfg 187 Z8Z:=by
 refine Zzh ?_
 intro m i _ hp
 simp only [ZiM] at hp
 refine ZGs _ _ _ ?_;(try simp only [iB,vcT,forall_eq])
 refine Z5 (ι:=Int) (fun k=> Z76 m i (m / 2 ^ k.toNat) k) (fun k=> 0<=k/\k<=i) (fun k=> (i - k).toNat) 0 ?_ ⟨YS,YS⟩ ?_
 .simp
 .rintro k ⟨h1,h2⟩
  refine ZtD _ _ _ _ _ _ ?_;(try simp only [iB,vcT,forall_eq])
  have hd:0<=m / 2 ^ k.toNat:=KN hp.1.1 (K7 (Kt YS))
  have hl:m / 2 ^ k.toNat<=m:=KH _ hp.1.1
  (simp only [iB,vcS])
  refine ⟨fun hc=> ⟨YS,V3,k+1,?_,⟨YS,YS⟩,YS⟩,fun hc=> ⟨YS,Zf rfl ?_⟩⟩
  .have e:IntKind.wrap .u8 (Int.tdiv (m / 2 ^ k.toNat) 2)=m / 2 ^ (k+1).toNat:=by
    rw [K0 hd,Int.ediv_ediv_of_nonneg (K7 (Kt YS)),show (2:Int) ^ k.toNat*2=2 ^ (k+1).toNat by rw [<-KE];congr 1;omega]
    refine Z3m (KN hp.1.1 (K7 (Kt YS))) (Int.lt_of_le_of_lt (KH _ hp.1.1) hp.1.2)
   rw [e]
  .have:k=i:=YS
   subst this
   rw [Int.tmod_eq_emod_of_nonneg hd]
   try rfl
def ZcC(f:Nat->Int):Nat->Int
 | 0=> 0
 | k+1=> f (7 - k)+256*ZcC f k
theorem Ze5{f:Nat->Int}(h:∀ i,0<=f i/\f i < 256):∀ k,0<=ZcC f k/\ZcC f k < 256 ^ k
 | 0=> by simp [ZcC]
 | k+1=> by
  have:=Ze5 h k
  have h2:=h (7 - k)
  simp only [ZcC,KE]
  omega
theorem ZD4(f:Nat->Int):ZcC f 8=of8 f:=by simp [ZcC,of8]
theorem ZEu:Contract Tryz.prog cfg 188 Z8Y:=by
 refine Zzg ?_
 intro b z _ hp
 obtain ⟨rfl,hl,hb⟩:=hp
 dsimp only at hl hb
 refine ZGr _ _ _ ?_;(try simp only [iB,vcT,forall_eq])
 have hf:∀ i,0<=b.getD i 0/\b.getD i 0 < 256:=by
  intro i
  by_cases hi:i < b.length
  .have:b.getD i 0∈b:=by
    simp only [List.getD,Q0 hi,Xa]
    exact Kf hi
   exact hb _ this
  .rw [List.getD,QA YS];simp
 refine Z5 (ι:=Int) (fun i=> Z75 b 0 (ZcC (fun i=> b.getD i 0) (7 - i).toNat) i) (fun i=> -1<=i/\i<=7) (fun i=> (i+1).toNat) 7 rfl ⟨YS,YS⟩ ?_
 rintro i ⟨h1,h2⟩
 refine ZtC _ _ _ _ _ _ ?_;(try simp only [iB,vcT,forall_eq])
 (simp only [iB,vcS]);(try simp only [iB,vcT])
 have hr:=Ze5 (f:=fun i=> b.getD i 0) hf (7 - i).toNat
 refine ⟨fun hc=> ⟨V3,YS,V3,i - 1,?_,⟨YS,YS⟩,YS⟩,fun hc=> Yd rfl ?_⟩
 .have hp7:(256:Int) ^ (7 - i).toNat<=256 ^ 7:=by
   have:(256:Int) ^ (7 - i).toNat=((256 ^ (7 - i).toNat:Nat):Int):=by simp
   rw [this]
   have h7:(256:Nat) ^ (7 - i).toNat<=256 ^ 7:=Nat.pow_le_pow_right YS YS
   have:((256:Nat) ^ 7:Nat)=72057594037927936:=V1
   omega
  have e7:(256:Int) ^ 7=72057594037927936:=V1
  have hfi:=hf i.toNat
  have e:ZcC (fun i=> b.getD i 0) (7 - (i - 1)).toNat=b.getD i.toNat 0+256*ZcC (fun i=> b.getD i 0) (7 - i).toNat:=by
   rw [show (7 - (i - 1)).toNat=(7 - i).toNat+1 by omega]
   simp only [ZcC]
   rw [show 7 - (7 - i).toNat=i.toNat by omega]
  rw [e,show (0+i).toNat=i.toNat by omega,Z5r (n:=ZcC (fun i=> b.getD i 0) (7 - i).toNat*256) YS YS,Z5r (n:=b.getD i.toNat 0) YS YS,Z5r YS YS]
  congr 1
  omega
 .have:i= -1:=YS
  subst this
  exact ZD4 _
theorem ZHM(f:Nat->Int){i:Nat}(h:i < 8):List.getD [f 0,f 1,f 2,f 3,f 4,f 5,f 6,f 7] i 0=f i:=by
 match i,h with
 | 0,_=> rfl
 | 1,_=> rfl
 | 2,_=> rfl
 | 3,_=> rfl
 | 4,_=> rfl
 | 5,_=> rfl
 | 6,_=> rfl
 | 7,_=> rfl
theorem Z5Y(a b m:Int)(i:Nat):0<=Jo a b m i/\Jo a b m i < 256:=by
 unfold Jo
 split
 .exact Z1f _ _
 .exact Z1f _ _
theorem ZcK:Contract Tryz.prog cfg 136 JQ:=by
 refine ZzO ZEw ZEv ZEu ?_
 intro a b m _ hp
 simp only [Z13] at hp
 refine ZH3 _ _ _ _ ?_;(try simp only [iB,vcT,forall_eq])
 refine ⟨hp.1,hp.2.1,?_⟩
 refine Z5 (ι:=Int) (fun i=> Z2Q a b m i (if ((0:Nat):Int) < i then Jo a b m 0 else Zl a 0) (if ((1:Nat):Int) < i then Jo a b m 1 else Zl a 1) (if ((2:Nat):Int) < i then Jo a b m 2 else Zl a 2) (if ((3:Nat):Int) < i then Jo a b m 3 else Zl a 3)
  (if ((4:Nat):Int) < i then Jo a b m 4 else Zl a 4) (if ((5:Nat):Int) < i then Jo a b m 5 else Zl a 5) (if ((6:Nat):Int) < i then Jo a b m 6 else Zl a 6) (if ((7:Nat):Int) < i then Jo a b m 7 else Zl a 7)) (fun i=> 0<=i/\i<=8) (fun i=> (8 - i).toNat) 0 ?_ ⟨YS,YS⟩ ?_
 .simp [Z2Q]
 .rintro i ⟨h1,h2⟩
  refine Zu0 _ _ _ _ _ _ _ _ _ _ _ _ _ _ ?_;(try simp only [iB,vcT,forall_eq])
  (simp only [iB,vcS]);(try simp only [iB,vcT])
  refine ⟨fun hc=> ⟨⟨hp.2.2,h1,V2⟩,fun hn=> ⟨⟨h1,YS⟩,⟨h1,YS⟩,V3,i+1,?_,⟨YS,YS⟩,YS⟩,fun hn=> ⟨V3,i+1,?_,⟨YS,YS⟩,YS⟩⟩,fun hc=> ?_⟩
  .rw [ZHM (Zl b) YS]
   have hv:Zl b i.toNat=Jo a b m i.toNat:=by
    unfold Jo
    rw [show ((i.toNat:Nat):Int)=i by omega,hn]
    try rfl
   have st:∀ j:Nat,Z20 i j (Zl b i.toNat) (if (j:Int) < i then Jo a b m j else Zl a j)=if (j:Int) < i+1 then Jo a b m j else Zl a j:=fun j=> ZrJ (F:=Jo a b m) (G:=Zl a) h1 hv
   rw [st 0,st 1,st 2,st 3,st 4,st 5,st 6,st 7]
  .have hv:Jo a b m i.toNat=Zl a i.toNat:=by
    unfold Jo
    rw [show ((i.toNat:Nat):Int)=i by omega,hn]
    try rfl
   have st:∀ j:Nat,(if (j:Int) < i then Jo a b m j else Zl a j)=if (j:Int) < i+1 then Jo a b m j else Zl a j:=fun j=> ZAi (F:=Jo a b m) (G:=Zl a) hv h1
   rw [st 0,st 1,st 2,st 3,st 4,st 5,st 6,st 7]
  .have:i=8:=YS
   subst this
   refine ⟨⟨rfl,rfl,?_⟩,Yd rfl ?_⟩
   .intro x hx
    simp at hx
    rcases hx with rfl | rfl | rfl | rfl | rfl | rfl | rfl | rfl <;> exact Z5Y _ _ _ _
   .try rfl
theorem ZsW{α:Type}{l:List α}{i:Nat}(h:i < l.length)(d:α):l.drop i=l.getD i d ::l.drop (i+1):=by
 rw [QL h]
 simp [List.getD,h]
theorem ZQ{α:Type}{l:List α}{i:Int}(h0:0<=i)(h:i < l.length)(d:α):l.drop i.toNat=l.getD i.toNat d ::l.drop (i+1).toNat:=by
 rw [ZsW YS d,show i.toNat+1=(i+1).toNat by omega]
theorem Ze{α:Type}{l:List α}{i:Nat}(h:i < l.length)(d:α):l.getD i d∈l:=by
 simp only [List.getD,Q0 h,Xa]
 exact Kf h
theorem Z04(t:Tree):1<=Zm t:=by cases t;simp only [Zm];omega
theorem Zbh(e:Edit):1<=Z3 e:=by cases e;simp only [Z3];omega
theorem Zbe(k:Kid):Z0f k=Z3 k.e:=by cases k;rfl
theorem ZI(o:Op):Zu o=Z9 o.l+Z3 o.e:=by cases o;rfl
theorem YN:∀ {ks:List Tree} {t:Tree},t∈ks->Zm t<=Z9 ks
 | x ::r,t,h=> by
  simp only [Z9]
  rcases Qc.1 h with rfl | h
  .omega
  .have:=YN h;omega
theorem Jn:∀ {ks:List Kid} {k:Kid},k∈ks->Z3 k.e<=Ya ks
 | x ::r,k,h=> by
  simp only [Ya,Zbe]
  rcases Qc.1 h with rfl | h
  .omega
  .have:=Jn h;omega
theorem ZZ:∀ {os:List Op} {o:Op},o∈os->Zu o<=Zg os
 | x ::r,o,h=> by
  simp only [Zg]
  rcases Qc.1 h with rfl | h
  .omega
  .have:=ZZ h;omega
theorem YQ:∀ (ks:List Kid),ks.length<=Ya ks
 | []=> by simp [Ya]
 | k ::r=> by
  have:=YQ r
  have:=Zbh k.e
  simp only [Ya,Zbe,Q6]
  omega
theorem Y0:∀ (os:List Op),os.length<=Zg os
 | []=> by simp [Zg]
 | o ::r=> by
  have:=Y0 r
  have:=Zbh o.e
  simp only [Zg,ZI,Q6]
  omega
theorem Zex:∀ {ks:List Tree} {t:Tree},Z3K ks->t∈ks->Z5C t
 | x ::r,t,hs,h=> by
  simp only [Z3K] at hs
  rcases Qc.1 h with rfl | h
  .exact hs.1
  .exact Zex hs.2 h
theorem ZbL:∀ {ks:List Kid} {k:Kid},Z6C ks->k∈ks->Z2W k.e
 | x ::r,k,hs,h=> by
  simp only [Z6C] at hs
  rcases Qc.1 h with rfl | h
  .have:=hs.1;obtain ⟨a,e⟩:=k;exact this
  .exact ZbL hs.2 h
theorem ZbK:∀ {os:List Op} {o:Op},Z6B os->o∈os->o.l.length<=17592186044416/\Z3K o.l/\Z2W o.e
 | x ::r,o,hs,h=> by
  simp only [Z6B] at hs
  rcases Qc.1 h with rfl | h
  .have:=hs.1;obtain ⟨a,b,c,e⟩:=o;exact this
  .exact ZbK hs.2 h
theorem JX:∀ {ks:List Tree} {t:Tree},Jt ks->t∈ks->rng t
 | x ::r,t,hs,h=> by
  simp only [Jt] at hs
  rcases Qc.1 h with rfl | h
  .exact hs.1
  .exact JX hs.2 h
theorem Yz:∀ {ks:List Kid} {k:Kid},Z48 ks->k∈ks->InR k.at_/\J8 k.e
 | x ::r,k,hs,h=> by
  simp only [Z48] at hs
  rcases Qc.1 h with rfl | h
  .have:=hs.1;obtain ⟨a,e⟩:=k;exact this
  .exact Yz hs.2 h
theorem Z0M:∀ {os:List Op} {o:Op},Z30 os->o∈os->Z28 o
 | x ::r,o,hs,h=> by
  simp only [Z30] at hs
  rcases Qc.1 h with rfl | h
  .exact hs.1
  .exact Z0M hs.2 h
theorem Z0y{o:Op}(h:Z28 o):InR o.kind/\InR o.n/\Jt o.l/\J8 o.e:=by obtain ⟨a,b,c,e⟩:=o;exact h
theorem ZsK(k:Kid)(d n:Int):Z3E k d n=Z1a k.e d n:=by cases k;rfl
theorem ZwQ(o:Op)(d n:Int):Z67 o d n=if Zx o.l 80 n < 0 then Zx o.l 80 n else Z1a o.e d (Zx o.l 80 n):=by cases o;rfl
theorem ZaG(t:Tree)(n:Int)(h: -1<=n): -1<=sh1 t n/\sh1 t n<=n:=by
 unfold sh1
 split
 .omega
 .have:=YZ t 80 n;omega
mutual
theorem Z1X:∀ (e:Edit) (d n:Int),-1<=Z1a e d n/\Z1a e d n<=max n (-1)
 | .mk _ o nw w ks _ os,d,n=> by
  simp only [Z1a]
  split
  .omega
  .have h1:=YZ o 80 (n - 1 - w.length - os.length)
   have h2:=ZaG nw _ h1.1
   have h3:=Z2t ks (d - 1) _ h2.1
   have h4:=Z2s os (d - 1) _ h3.1
   omega
theorem Z2t:∀ (ks:List (KidOf Edit)) (d n:Int),-1<=n->-1<=Yb ks d n/\Yb ks d n<=n
 | [],d,n,h=> by simp only [Yb];omega
 | k ::r,d,n,h=> by
  simp only [Yb]
  split
  .omega
  .have h1:=Z7Z k d n
   have h2:=Z2t r d _ h1.1
   omega
theorem Z7Z:∀ (k:KidOf Edit) (d n:Int),-1<=Z3E k d n/\Z3E k d n<=max n (-1)
 | ⟨_,e⟩,d,n=> by
  simp only [Z3E]
  exact Z1X e d n
theorem Z2s:∀ (os:List (OpOf Edit)) (d n:Int),-1<=n->-1<=Z0q os d n/\Z0q os d n<=n
 | [],d,n,h=> by simp only [Z0q];omega
 | o ::r,d,n,h=> by
  simp only [Z0q]
  split
  .omega
  .have h1:=Z9Q o d n h
   have h2:=Z2s r d _ h1.1
   omega
theorem Z9Q:∀ (o:OpOf Edit) (d n:Int),-1<=n->-1<=Z67 o d n/\Z67 o d n<=n
 | ⟨_,_,l,e⟩,d,n,h=> by
  simp only [Z67]
  have h1:=Z12 l 80 n h
  split
  .omega
  .have h2:=Z1X e d (Zx l 80 n)
   omega
end
theorem ZuC{t:Tree}{n:Int}(h:0<=sh1 t n):(Zm t:Int)+sh1 t n<=n:=by
 unfold sh1 at*
 split at h
 .omega
 .rename_i hn
  rw [if_neg hn]
  exact Z4Q t 80 n h
mutual
theorem Z8u:∀ (e:Edit) (d n:Int),0<=Z1a e d n->(Z3 e:Int)+Z1a e d n<=n
 | .mk _ o nw w ks _ os,d,n,h=> by
  simp only [Z1a] at h ⊢
  split at h
  .omega
  .rename_i hc
   rw [if_neg hc]
   have r1:=YZ o 80 (n - 1 - w.length - os.length)
   have r2:=ZaG nw _ r1.1
   have r3:=Z2t ks (d - 1) _ r2.1
   have r4:=Z2s os (d - 1) _ r3.1
   have m4:=Zck os (d - 1) _ h
   have m3:=Zcl ks (d - 1) (sh1 nw (ZW o 80 (n - 1 - w.length - os.length))) YS
   have m2:=ZuC (t:=nw) (n:=ZW o 80 (n - 1 - w.length - os.length)) YS
   have m1:=Z4Q o 80 (n - 1 - w.length - os.length) YS
   simp only [Z3]
   omega
theorem Zcl:∀ (ks:List (KidOf Edit)) (d n:Int),0<=Yb ks d n->(Ya ks:Int)+Yb ks d n<=n
 | [],d,n,h=> by simp only [Yb,Ya];omega
 | k ::r,d,n,h=> by
  simp only [Yb] at h ⊢
  split at h
  .omega
  .rename_i hc
   rw [if_neg hc]
   have r1:=Z7Z k d n
   have r2:=Z2t r d _ r1.1
   have m2:=Zcl r d _ h
   have m1:=Zjc k d n YS
   simp only [Ya]
   omega
theorem Zjc:∀ (k:KidOf Edit) (d n:Int),0<=Z3E k d n->(Z0f k:Int)+Z3E k d n<=n
 | ⟨_,e⟩,d,n,h=> by
  simp only [Z3E,Z0f] at h ⊢
  exact Z8u e d n h
theorem Zck:∀ (os:List (OpOf Edit)) (d n:Int),0<=Z0q os d n->(Zg os:Int)+Z0q os d n<=n
 | [],d,n,h=> by simp only [Z0q,Zg];omega
 | o ::r,d,n,h=> by
  simp only [Z0q] at h ⊢
  split at h
  .omega
  .rename_i hc
   rw [if_neg hc]
   have r1:=Z9Q o d n YS
   have r2:=Z2s r d _ r1.1
   have m2:=Zck r d _ h
   have m1:=ZlG o d n YS
   simp only [Zg]
   omega
theorem ZlG:∀ (o:OpOf Edit) (d n:Int),0<=Z67 o d n->(Zu o:Int)+Z67 o d n<=n
 | ⟨_,_,l,e⟩,d,n,h=> by
  simp only [Z67,Zu] at h ⊢
  split at h
  .omega
  .rename_i hc
   rw [if_neg hc]
   have m2:=Z8u e d _ h
   have r2:=Z1X e d (Zx l 80 n)
   have m1:=Z3L l 80 n YS
   omega
end
theorem Zbw{e:Edit}(h:0<=Z1a e 80 3000):Z3 e<=3000:=by
 have:=Z8u e 80 3000 h
 omega
theorem ZwP(t:Tree):t.words.length+t.kids.length < Zm t:=by
 obtain ⟨k,w,ks⟩:=t
 have:=Zq ks
 simp only [Zm,Tree.words_mk,Tree.kids_mk]
 omega
theorem YC(e:Edit):Zm e.old+Zm e.new+e.words.length+e.ops.length+Ya e.kids+Zg e.ops < Z3 e:=by
 obtain ⟨k,o,n,w,ks,l,os⟩:=e
 simp only [Z3,Edit.old_mk,Edit.new_mk,Edit.words_mk,Edit.ops_mk,Edit.kids_mk]
 omega
theorem c99:Contract Tryz.prog cfg 99 Z4P:=by
 refine ZDx ?_
 intro t _ hp
 simp only [Z5L] at hp
 have:=ZwP t
 refine ZIv t _ ?_;(try simp only [iB,vcT,forall_eq])
 refine ⟨fun _=> by unfold InR;omega,Zf rfl ?_⟩
 rw [Qs]
 simp only [JU]
 (simp only [iB,vcS])
 omega
theorem ZF1:Contract Tryz.prog cfg 100 Z6A:=by
 refine ZzX ZcK ?_
 intro w m _ hp
 refine ZHl _ _ _ ?_;(try simp only [iB,vcT,forall_eq])
 refine ⟨⟨hp.1,V2,hp.2⟩,Zf rfl ?_⟩
 try rfl
theorem ZEU:Contract Tryz.prog cfg 137 Z6y:=by
 refine ZzN c99 ?_
 intro e _ hp
 simp only [Z8j] at hp
 have h1:=YC e
 have h2:=YQ e.kids
 refine ZH2 e _ ?_;(try simp only [iB,vcT,forall_eq])
 try (simp only [Tree.eta,Edit.eta,Tree.kind_mk,Tree.words_mk,Tree.kids_mk])
 refine ⟨fun _=> by simp only [Z5L];omega,fun _=> by simp only [Z5L];omega,fun _=> by unfold InR;omega,fun _=> by unfold InR;omega,Zf rfl ?_⟩
 rw [Qs]
 simp only [Z27]
 (simp only [iB,vcS])
 constructor
 .rintro ⟨⟨⟨⟨h3,h4⟩,h5⟩,h6⟩,h7⟩;exact ⟨⟨⟨h3,h4⟩,h5⟩,YS⟩
 .rintro ⟨⟨⟨h3,h4⟩,h5⟩,h6⟩;exact ⟨⟨⟨⟨h3,h4⟩,h5⟩,YS⟩,YS⟩
theorem ZE0 (e:Edit) (x4 x5 i:Int) (N0:LSt U->Prop) (Q:AExit->LSt U->Prop) (h1:0<=x4/\x4<=1048576) (h2:0<=x5/\x5<=1048576) (hi:0<=i) (hlen:e.ops.length<=20000000000)
  (ho:∀ o∈e.ops,(0<=o.n/\o.n<=1048576)/\o.l.length<=20000000000)
  (h:i < e.ops.length->N0 (Z1E e (min (if (e.ops.getD i.toNat Op.nil).kind=2 then x4 else x4+Z6 (e.ops.getD i.toNat Op.nil)) 1048576) (min (if (e.ops.getD i.toNat Op.nil).kind=1 then x5 else x5+Z6 (e.ops.getD i.toNat Op.nil)) 1048576) (i+1)))
  (h':¬i < e.ops.length->Q .ret (⟨[(2,.c (.int .i64 x4)),(3,.c (.int .i64 x5))],[],[]⟩:LSt U)):ZAy e x4 x5 i N0 Q:=by
 refine Zuk _ _ _ _ _ _ ?_;(try simp only [iB,vcT,forall_eq])
 (simp only [iB,vcS]);(try simp only [iB,vcT])
 refine ⟨fun hc=> ?_,h'⟩
 have hn:=h hc
 have hm:=ho _ (Ze (l:=e.ops) (i:=i.toNat) YS Op.nil)
 have k1:∀ k,k=Z6 (e.ops.getD i.toNat Op.nil)->ZAC e x4 x5 i k N0 Q:=by
  intro k hk
  have hkr:0<=k/\k<=60000000000:=by
   rw [hk];unfold Z6;split <;> omega
  have k2:∀ y,y=(if (e.ops.getD i.toNat Op.nil).kind=2 then x4 else x4+k)->ZAB e x5 i k y N0 Q:=by
   intro y hy
   have hyr:0<=y/\y<=100000000000:=by rw [hy];split <;> omega
   have k3:∀ z,z=(if (e.ops.getD i.toNat Op.nil).kind=1 then x5 else x5+k)->ZAA e i k y z N0 Q:=by
    intro z hz
    have hzr:0<=z/\z<=100000000000:=by rw [hz];split <;> omega
    have k4:∀ u,u=min y 1048576->ZAz e i y z u N0 Q:=by
     intro u hu
     refine Zul _ _ _ _ _ _ _ ?_;(try simp only [iB,vcT,forall_eq])
     (simp only [iB,vcS]);(try simp only [iB,vcT])
     rw [<-hk,<-hy,<-hz,<-hu] at hn
     refine ⟨fun hq=> ⟨V3,?_⟩,fun hq=> ⟨V3,?_⟩⟩
     .rw [show min z 1048576=1048576 by omega] at hn;exact hn
     .rw [show min z 1048576=z by omega] at hn;exact hn
    refine Zum _ _ _ _ _ _ _ ?_;(try simp only [iB,vcT,forall_eq])
    (simp only [iB,vcS]);(try simp only [iB,vcT])
    exact ⟨fun hq=> k4 _ YS,fun hq=> k4 _ YS⟩
   refine Zun _ _ _ _ _ _ _ ?_;(try simp only [iB,vcT,forall_eq])
   (simp only [iB,vcS]);(try simp only [iB,vcT])
   exact ⟨fun hq=> ⟨V3,k3 _ (by rw [if_neg hq])⟩,fun hq=> k3 _ (by rw [if_pos hq])⟩
  refine Zuo _ _ _ _ _ _ _ ?_;(try simp only [iB,vcT,forall_eq])
  (simp only [iB,vcS]);(try simp only [iB,vcT])
  exact ⟨fun hq=> ⟨V3,k2 _ (by rw [if_neg hq])⟩,fun hq=> k2 _ (by rw [if_pos hq])⟩
 exact ⟨⟨hi,hc⟩,V3,fun hq=> k1 _ (by unfold Z6;rw [if_pos hq]),fun hq=> k1 _ (by unfold Z6;rw [if_neg hq])⟩
theorem Zt7:Contract Tryz.prog cfg 102 Z2k:=by
 refine ZzW ?_
 intro e _ hp
 simp only [Zfn] at hp
 have h1:=YC e
 refine ZHj e _ ?_;(try simp only [iB,vcT,forall_eq])
 refine Z5 (ι:=Int × Int × Int) (fun p=> Z1E e p.1 p.2.1 p.2.2) (fun p=> 0<=p.2.2/\p.2.2<=e.ops.length/\(0<=p.1/\p.1<=1048576)/\(0<=p.2.1/\p.2.1<=1048576)/\Z2r (e.ops.drop p.2.2.toNat) p.1=Z2r e.ops 0/\Z2q (e.ops.drop p.2.2.toNat) p.2.1=Z2q e.ops 0) (fun p=> ((e.ops.length:Int) - p.2.2).toNat) (0,0,0) rfl ⟨V2,V2,V2,V2,by simp,by simp⟩ ?_
 rintro ⟨x4,x5,i⟩ ⟨h2,h3,h4,h5,h6,h7⟩
 dsimp only at*
 have ho:∀ o∈e.ops,(0<=o.n/\o.n<=1048576)/\o.l.length<=20000000000:=by
  intro o hm
  refine ⟨hp.2 o hm,?_⟩
  have a1:=ZZ hm
  have a2:=Zq o.l
  rw [ZI] at a1
  omega
 refine ZE0 e x4 x5 i _ _ h4 h5 h2 YS ho (fun hc=> ⟨(_,_,i+1),rfl,⟨V2,V2,?_,?_,?_,?_⟩,V2⟩) (fun hc=> ?_)
 .have hm:=ho _ (Ze (l:=e.ops) (i:=i.toNat) YS Op.nil)
  dsimp only
  unfold Z6
  split <;> (try split) <;> omega
 .have hm:=ho _ (Ze (l:=e.ops) (i:=i.toNat) YS Op.nil)
  dsimp only
  unfold Z6
  split <;> (try split) <;> omega
 .rw [ZQ h2 hc Op.nil] at h6
  exact h6
 .rw [ZQ h2 hc Op.nil] at h7
  exact h7
 .rw [Q9 YS] at h6 h7
  simp only [Z2r,Z2q] at h6 h7
  simp only [ZmW,<-h6,<-h7]
  exact ⟨⟨rfl,⟨⟨rfl,rfl⟩,trivial⟩,rfl,⟨⟨rfl,rfl⟩,trivial⟩,trivial⟩,trivial⟩
theorem Znz{l:List Kid}{d n:Int}(h:n < 0):Yb l d n=n:=by cases l <;> simp [Yb,h]
theorem Zny{l:List Op}{d n:Int}(h:n < 0):Z0q l d n=n:=by cases l <;> simp [Z0q,h]
theorem ZhY{l:List Tree}{d n:Int}(h:n < 0):Zx l d n=n:=by cases l <;> simp [Zx,h]
theorem Zs7{e:Edit}(h:Z2W e):Z5C e.old/\Z5C e.new/\e.words.length<=17592186044416/\e.kids.length<=17592186044416/\e.ops.length<=17592186044416/\Z6C e.kids/\Z6B e.ops:=by
 obtain ⟨k,o,n,w,ks,l,os⟩:=e;exact h
theorem ZwR(e:Edit)(d n:Int):Z1a e d n=if d=0\/n - 1 - e.words.length - e.ops.length < 0 then -1 else Z0q e.ops (d - 1) (Yb e.kids (d - 1) (sh1 e.new (ZW e.old 80 (n - 1 - e.words.length - e.ops.length)))):=by
 obtain ⟨k,o,nw,w,ks,l,os⟩:=e;rfl
theorem c91:Contract Tryz.prog cfg 91 Zeh:=by
 refine ZDy c80 ?_
 rintro N e d n _ hp hN
 simp only [ZeZ,Zlu] at hp hN
 obtain ⟨hs,hd0,hd1,hn0,hn1⟩:=hp
 obtain ⟨so,sn,lw,lk,lo,sk,sos⟩:=Zs7 hs
 have hme:=YC e
 have hres:=ZwR e d n
 refine ZIw N e d n _ ?_;(try simp only [iB,vcT,forall_eq])
 (simp only [iB,vcS]);(try simp only [iB,vcT])
 try (simp only [Tree.eta,Edit.eta,Tree.kind_mk,Tree.words_mk,Tree.kids_mk])
 refine ⟨V3,V3,V3,fun hc=> Yd rfl (by rw [hres,if_pos hc]),fun hc=> ?_⟩
 rw [JL] at hres
 have r1:=YZ e.old 80 (n - 1 - e.words.length - e.ops.length)
 have p68:∀ t m,Z5C t->-1<=m->m<=4611686018427387904->ZbY (t,80,m,()):=fun t m h1 h2 h3=> ⟨h1,V2,V2,h2,h3⟩
 have k0:∀ x,x=sh1 e.new (ZW e.old 80 (n - 1 - e.words.length - e.ops.length))->ZFf N e d n x (Y3 cfg Tryz.f91.ntmps Tryz.f91.results.toList (ZoQ (e,d,n,())) []):=by
  intro x hx
  have rx:=ZaG e.new _ r1.1
  rw [<-hx] at rx hres
  refine Zy5 N e d n x _ ?_;(try simp only [iB,vcT,forall_eq])
  refine Z5 (ι:=Int × Int) (fun p=> Z9V e d n p.1 p.2) (fun p=> 0<=p.2/\p.2<=e.kids.length/\-1<=p.1/\p.1<=4611686018427387904/\Yb (e.kids.drop p.2.toNat) (d - 1) p.1=Yb e.kids (d - 1) x) (fun p=> ((e.kids.length:Int) - p.2).toNat) (x,0) rfl ⟨V2,V2,V2,V2,by simp⟩ ?_
  rintro ⟨y,i⟩ ⟨h1,h2,h3,h4,h5⟩
  dsimp only at*
  refine Zy4 N e d n y i _ _ ?_;(try simp only [iB,vcT,forall_eq])
  (simp only [iB,vcS]);(try simp only [iB,vcT])
  try (simp only [Tree.eta,Edit.eta,Tree.kind_mk,Tree.words_mk,Tree.kids_mk])
  refine ⟨fun hi=> ?_,fun hi=> ?_⟩
  .have hmem:=Ze (l:=e.kids) (i:=i.toNat) YS (KidOf.mk 0 Edit.nil)
   have hsm:=ZbL sk hmem
   have hmm:=Jn hmem
   rw [ZQ h1 hi.1 (KidOf.mk 0 Edit.nil)] at h5
   simp only [Yb] at h5
   rw [JL,ZsK] at h5
   have rr:=Z1X (e.kids.getD i.toNat (KidOf.mk 0 Edit.nil)).e (d - 1) y
   exact ⟨⟨h1,hi.1⟩,V3,⟨hsm,V2,V2,h3,h4⟩,by simp only [Zlu];omega,V3,(_,i+1),rfl,⟨V2,V2,V2,V2,h5⟩,V2⟩
  .have hy:Yb e.kids (d - 1) x=y:=by
    rw [<-h5]
    by_cases hlt:i < e.kids.length
    .exact Znz YS
    .rw [Q9 YS];try rfl
   rw [hy] at hres
   refine Z5 (ι:=Int × Int) (fun p=> Z6b e d n p.1 p.2) (fun p=> 0<=p.2/\p.2<=e.ops.length/\-1<=p.1/\p.1<=4611686018427387904/\Z0q (e.ops.drop p.2.toNat) (d - 1) p.1=Z0q e.ops (d - 1) y) (fun p=> ((e.ops.length:Int) - p.2).toNat) (y,0) rfl ⟨V2,V2,h3,h4,by simp⟩ ?_
   rintro ⟨z,j⟩ ⟨h6,h7,h8,h9,h10⟩
   dsimp only at*
   refine Zy3 N e d n z j _ _ ?_;(try simp only [iB,vcT,forall_eq])
   (simp only [iB,vcS]);(try simp only [iB,vcT])
   refine ⟨fun hj=> ?_,fun hj=> ?_⟩
   .have hmem:=Ze (l:=e.ops) (i:=j.toNat) YS Op.nil
    have hsm:=ZbK sos hmem
    have hmm:=ZZ hmem
    rw [ZI] at hmm
    rw [ZQ h6 hj.1 Op.nil] at h10
    simp only [Z0q] at h10
    rw [JL,ZwQ] at h10
    refine Z5 (ι:=Int × Int) (fun p=> Z9U e d n j p.1 p.2) (fun p=> 0<=p.2/\p.2<=(e.ops.getD j.toNat Op.nil).l.length/\-1<=p.1/\p.1<=4611686018427387904/\Zx ((e.ops.getD j.toNat Op.nil).l.drop p.2.toNat) 80 p.1=Zx (e.ops.getD j.toNat Op.nil).l 80 z) (fun p=> (((e.ops.getD j.toNat Op.nil).l.length:Int) - p.2).toNat) (z,0) rfl ⟨V2,V2,h8,h9,by simp⟩ ?_
    rintro ⟨u,k⟩ ⟨g1,g2,g3,g4,g5⟩
    dsimp only at*
    refine Zy2 N e d n j u k _ _ _ ?_;(try simp only [iB,vcT,forall_eq])
    (simp only [iB,vcS]);(try simp only [iB,vcT])
    try (simp only [Tree.eta,Edit.eta,Tree.kind_mk,Tree.words_mk,Tree.kids_mk])
    refine ⟨⟨h6,hj.1⟩,fun hk=> ?_,fun hk=> ?_⟩
    .have hmt:=Ze (l:=(e.ops.getD j.toNat Op.nil).l) (i:=k.toNat) YS Tree.nil
     rw [ZQ g1 hk.1 Tree.nil] at g5
     simp only [Zx] at g5
     rw [JL] at g5
     have rr:=YZ ((e.ops.getD j.toNat Op.nil).l.getD k.toNat Tree.nil) 80 u
     exact ⟨⟨h6,hj.1⟩,⟨g1,hk.1⟩,p68 _ _ (Zex hsm.2.1 hmt) g3 g4,V3,(_,k+1),rfl,⟨V2,V2,V2,V2,g5⟩,V2⟩
    .have hu:Zx (e.ops.getD j.toNat Op.nil).l 80 z=u:=by
      rw [<-g5]
      by_cases hlt:k < (e.ops.getD j.toNat Op.nil).l.length
      .exact ZhY YS
      .rw [Q9 YS];try rfl
     rw [hu] at h10
     have rr:=Z1X (e.ops.getD j.toNat Op.nil).e (d - 1) u
     refine ⟨fun hq=> ⟨⟨h6,hj.1⟩,V3,⟨hsm.2.2,V2,V2,g3,g4⟩,by simp only [Zlu];omega,V3,(_,j+1),rfl,⟨V2,V2,V2,V2,?_⟩,V2⟩,
      fun hq=> ⟨V3,(_,j+1),rfl,⟨V2,V2,V2,V2,?_⟩,V2⟩⟩
     .rw [JL] at h10;exact h10
     .rw [V0] at h10;exact h10
   .refine Yd rfl ?_
    rw [hres,<-h10]
    by_cases hlt:j < e.ops.length
    .exact (Zny YS).symm
    .rw [Q9 YS];try rfl
 refine ⟨p68 _ _ so YS YS,fun hq=> ⟨p68 _ _ sn r1.1 YS,k0 _ ?_⟩,fun hq=> k0 _ ?_⟩
 .unfold sh1;rw [JL]
 .unfold sh1;rw [V0]
theorem c45:Contract Tryz.prog cfg 45 Zeq:=by
 refine ZDG c91 ?_
 intro e _ hp
 refine ZIK e _ ?_;(try simp only [iB,vcT,forall_eq])
 try (simp only [Tree.eta,Edit.eta,Tree.kind_mk,Tree.words_mk,Tree.kids_mk])
 exact ⟨⟨hp,V2,V2,V2,V2⟩,Zf rfl rfl⟩
theorem ZaL(e:Edit)(d:Int):Zb e d=
  if d=0\/e.kind < 0\/3 < e.kind then false
  else if (e.kind≠1/\¬(JU e.old=true/\JU e.new=true))\/(e.kind≠2/\¬(e.words.length=0/\e.kids.length=0))\/(e.kind≠3/\(e.list≠0\/e.ops.length≠0)) then false
  else if e.kind=1 then ZD e.old (dT d) && ZD e.new (dT d) && decide (e.old.kind≠10/\e.new.kind≠10)
  else YM (-1) e.words && ZK (-1) e.kids (d - 1) && decide (¬(e.kind=3/\(e.list < 2\/9 < e.list))) && ZO e.list e.ops (d - 1) && decide (Z2r e.ops 0 < 1048576/\Z2q e.ops 0 < 1048576):=by
 obtain ⟨k,o,nw,w,ks,l,os⟩:=e;rfl
theorem Z5H(last:Int)(k:Kid)(d:Int):JY last k d=(decide (last < k.at_/\k.at_<=65534/\k.e.kind≠0) && Zb k.e d):=by cases k;rfl
theorem Z4S(list:Int)(o:Op)(d:Int):Zk list o d=
  if o.kind=0 then decide (1<=o.n/\o.n<=1048576/\o.l.length=0) && Z27 o.e
  else if o.n≠0\/o.kind < 0\/3 < o.kind then false
  else if o.kind < 3 then YG (dT d) list o.l && decide (0 < o.l.length) && Z27 o.e
  else decide (o.l.length=0/\o.e.kind≠0/\7 < list) && Zb o.e d && decide (list=8\/o.e.kind=2\/o.e.kind=1/\o.e.old.kind=1/\o.e.new.kind=1):=by
 cases o;rfl
theorem ZaJ{list:Int}{o:Op}{d:Int}(h:Zk list o d=true):0<=o.n/\o.n<=1048576:=by
 rw [Z4S] at h
 split at h
 .simp only [Q3,decide_eq_true_eq] at h;omega
 .split at h
  .cases h
  .rename_i h1;omega
theorem rightOs_mem{list d:Int}:∀ {os:List Op} {o:Op},ZO list os d=true->o∈os->Zk list o d=true
 | x ::r,o,h,hm=> by
  simp only [ZO,Q3] at h
  rcases Qc.1 hm with rfl | hm
  .exact h.1
  .exact rightOs_mem h.2 hm
theorem ZbT{d:Int}:∀ {ks:List Kid} {last:Int} {k:Kid},ZK last ks d=true->k∈ks->Zb k.e d=true/\k.e.kind≠0
 | x ::r,last,k,h,hm=> by
  simp only [ZK,Q3] at h
  rcases Qc.1 hm with rfl | hm
  .have:=h.1;rw [Z5H] at this;simp only [Q3,decide_eq_true_eq] at this;exact ⟨this.2,this.1.2.2⟩
  .exact ZbT h.2 hm
theorem Z4R{e:Edit}(h:J8 e):InR e.kind/\rng e.old/\rng e.new/\(∀ x∈e.words,Zi3 x)/\InR e.list/\Z48 e.kids/\Z30 e.ops:=by
 obtain ⟨k,o,n,w,ks,l,os⟩:=e;exact h
theorem b64:ZIr:=by
 intro N e d _ hp hN
 simp only [Zc0,Zj7] at hp hN
 obtain ⟨⟨hm,hr⟩,hd0,hd1⟩:=hp
 obtain ⟨ik,ro,rn,rw',il,rk,ros⟩:=Z4R hr
 have hme:=YC e
 have hkl:=YQ e.kids
 have hol:=Y0 e.ops
 have hat:=ZaL e d
 rw [ZCt hd0] at hat
 refine ZIJ N e d _ ?_;(try simp only [iB,vcT,forall_eq])
 (simp only [iB,vcS]);(try simp only [iB,vcT]);(try simp only [vcU])
 try (simp only [Tree.eta,Edit.eta,Tree.kind_mk,Tree.words_mk,Tree.kids_mk])
 refine ⟨fun hc=> Zf rfl (by rw [hat,V0]),fun hc=> ?_⟩
 rw [JL] at hat
 refine ⟨fun _=> by simp only [Z5L];omega,fun _=> by simp only [Z5L];omega,fun _=> by unfold InR;omega,fun hf=> Zf rfl ?_,fun hf=> ⟨fun h1=> ⟨⟨V2,ro,V2,V2⟩,fun _=> ⟨V2,rn,V2,V2⟩,Zf rfl ?_⟩,fun h1=> ?_⟩⟩
 .rw [hat,if_pos]
  rcases hf with (hf | hf) | hf
  .left
   refine ⟨hf.1,fun h=> ?_⟩
   rcases hf.2 with h2 | h2
   .rw [h.1] at h2;cases h2
   .rw [h.2] at h2;cases h2
  .right;left;omega
  .right;right;omega
 .rw [hat,if_neg,if_pos h1,Qs]
  ·(simp only [iB,vcS])
   constructor
   .rintro ⟨⟨⟨h2,h3⟩,h4⟩,h5⟩;exact ⟨⟨h2,h3⟩,h4,h5⟩
   .rintro ⟨⟨h2,h3⟩,h4,h5⟩;exact ⟨⟨⟨h2,h3⟩,h4⟩,h5⟩
  .intro h
   rcases h with h | h | h
   .exact h.1 h1
   .omega
   .omega
 .rw [if_neg,if_neg h1] at hat
  .refine Z5 (ι:=Int × Int) (fun p=> Za9 e d p.1 p.2) (fun p=> 0<=p.2/\p.2<=e.words.length/\YM p.1 (e.words.drop p.2.toNat)=YM (-1) e.words) (fun p=> ((e.words.length:Int) - p.2).toNat) (-1,0) rfl ⟨V2,V2,by simp⟩ ?_
   rintro ⟨last,i⟩ ⟨h2,h3,h4⟩
   dsimp only at*
   refine Zyl N e d last i _ _ ?_;(try simp only [iB,vcT,forall_eq])
   (simp only [iB,vcS]);(try simp only [iB,vcT]);(try simp only [vcU])
   try (simp only [Tree.eta,Edit.eta,Tree.kind_mk,Tree.words_mk,Tree.kids_mk])
   refine ⟨fun hi=> ?_,fun hi=> ?_⟩
   .have hmem:=Ze (l:=e.words) (i:=i.toNat) YS (WEdit.mk 0 0 0 0)
    have hrw:=rw' _ hmem
    rw [ZQ h2 hi (WEdit.mk 0 0 0 0)] at h4
    simp only [YM] at h4
    generalize e.words.getD i.toNat (WEdit.mk 0 0 0 0)=w at*
    obtain ⟨_,hmk,hwo,hwn⟩:=hrw
    refine ⟨⟨h2,hi⟩,fun _=> ⟨hwo,hmk⟩,fun _=> ⟨hwn,hmk⟩,fun hq=> Zf rfl ?_,fun hq=> ⟨V3,(_,i+1),rfl,⟨V2,V2,?_⟩,V2⟩⟩
    .rw [hat,<-h4]
     rcases hq with (hq | hq) | hq
     .rw [decide_eq_false YS];try rfl
     .rw [hq];simp
     .rw [hq];simp
    .dsimp only
     rw [<-h4,decide_eq_true YS,hq.1.2,hq.2];try rfl
   .have hw:YM (-1) e.words=true:=by
     rw [<-h4,Q9 YS];try rfl
    rw [hw,QG] at hat
    refine Z5 (ι:=Int × Int) (fun p=> Za8 e d p.1 p.2) (fun p=> 0<=p.2/\p.2<=e.kids.length/\ZK p.1 (e.kids.drop p.2.toNat) (d - 1)=ZK (-1) e.kids (d - 1)) (fun p=> ((e.kids.length:Int) - p.2).toNat) (-1,0) rfl ⟨V2,V2,by simp⟩ ?_
    rintro ⟨last,i⟩ ⟨h2,h3,h4⟩
    dsimp only at*
    refine Zyk N e d last i _ _ ?_;(try simp only [iB,vcT,forall_eq])
    (simp only [iB,vcS]);(try simp only [iB,vcT]);(try simp only [vcU])
    try (simp only [Tree.eta,Edit.eta,Tree.kind_mk,Tree.words_mk,Tree.kids_mk])
    refine ⟨fun hi=> ?_,fun hi=> ?_⟩
    .have hmem:=Ze (l:=e.kids) (i:=i.toNat) YS (KidOf.mk 0 Edit.nil)
     have hrw:=Yz rk hmem
     have hmm:=Jn hmem
     rw [ZQ h2 hi (KidOf.mk 0 Edit.nil)] at h4
     simp only [ZK,Z5H] at h4
     generalize e.kids.getD i.toNat (KidOf.mk 0 Edit.nil)=w at*
     refine ⟨⟨h2,hi⟩,fun _=> by unfold InR;omega,fun _=> ⟨⟨V2,hrw.2⟩,V2,V2⟩,fun _=> by simp only [Zj7];omega,fun hq=> Zf rfl ?_,fun hq=> ⟨V3,(_,i+1),rfl,⟨V2,V2,?_⟩,V2⟩⟩
     .rw [hat,<-h4]
      rcases hq with hq | hq
      .rw [decide_eq_false YS];try rfl
      .rw [hq];simp
     .dsimp only
      rw [<-h4,decide_eq_true YS,hq.2];try rfl
    .have hw:ZK (-1) e.kids (d - 1)=true:=by
      rw [<-h4,Q9 YS];try rfl
     rw [hw,QG] at hat
     refine ⟨fun hq=> Zf rfl (by rw [hat,decide_eq_false YS];rfl),fun hq=> ?_⟩
     rw [decide_eq_true YS,QG] at hat
     refine Z5 (ι:=Int) (fun p=> Za7 e d p) (fun p=> 0<=p/\p<=e.ops.length/\ZO e.list (e.ops.drop p.toNat) (d - 1)=ZO e.list e.ops (d - 1)) (fun p=> ((e.ops.length:Int) - p).toNat) 0 rfl ⟨YS,YS,by simp⟩ ?_
     rintro j ⟨h5,h6,h7⟩
     refine Zyj N e d j _ _ ?_;(try simp only [iB,vcT,forall_eq])
     (simp only [iB,vcS]);(try simp only [iB,vcT]);(try simp only [vcU])
     try (simp only [Tree.eta,Edit.eta,Tree.kind_mk,Tree.words_mk,Tree.kids_mk])
     refine ⟨fun hj=> ?_,fun hj=> ?_⟩
     .have hmem:=Ze (l:=e.ops) (i:=j.toNat) YS Op.nil
      have hro:=Z0M ros hmem
      have hmm:=ZZ hmem
      rw [ZQ h5 hj Op.nil] at h7
      simp only [ZO] at h7
      generalize e.ops.getD j.toNat Op.nil=o at*
      refine ⟨⟨h5,hj⟩,V3,⟨⟨by show Zu o<=20000000000;omega,hro,il⟩,V2,V2⟩,?_,fun hq=> Zf rfl ?_,fun hq=> ⟨V3,j+1,rfl,⟨YS,YS,?_⟩,YS⟩⟩
      .show 2*Zu o+1 < N
       omega
      .have hq':Zk e.list o (d - 1)=false:=hq
       rw [hat,<-h7,hq'];try rfl
      .have hq':Zk e.list o (d - 1)=true:=hq
       rw [<-h7,hq'];try rfl
     .have hw:ZO e.list e.ops (d - 1)=true:=by
       rw [<-h7,Q9 YS];try rfl
      rw [hw,QG] at hat
      refine ⟨⟨hm,fun o ho=> ZaJ (rightOs_mem hw ho)⟩,Zf rfl ?_⟩
      rw [hat,Qs]
      (simp only [iB,vcS])
  .intro h
   rcases h with h | h | h
   .rcases hf.1.1 with h2 | h2
    .exact h1 h2
    .exact h.2 h2
   .omega
   .omega
theorem Zgv{l:List Tree}{i:Int}(h0:0<=i)(h:i < l.length):List.drop i.toNat (l.take (i+1).toNat)=[l.getD i.toNat Tree.nil]:=by
 rw [List.drop_take,show (i+1).toNat - i.toNat=1 by omega,ZQ h0 h Tree.nil]
 try rfl
theorem ZJ5:ZCS:=by
 intro N list o d _ hp hN
 simp only [Zb0,Zh8] at hp hN
 obtain ⟨⟨hm,hr,hil⟩,hd0,hd1⟩:=hp
 obtain ⟨ik,inn,rl,re⟩:=Z0y hr
 rw [ZI] at hm hN
 have hll:=Zq o.l
 have hep:=Zbh o.e
 have hat:=Z4S list o d
 rw [ZCt hd0,ZgF] at hat
 refine ZHk N list o d _ ?_;(try simp only [iB,vcT,forall_eq])
 (simp only [iB,vcS]);(try simp only [iB,vcT]);(try simp only [vcU])
 try (simp only [Tree.eta,Edit.eta,Tree.kind_mk,Tree.words_mk,Tree.kids_mk])
 refine ⟨fun h0=> ⟨fun _=> by simp only [Z8j];omega,Zf rfl ?_⟩,fun h0=> ⟨fun hc=> Zf rfl ?_,fun hc=> ⟨fun h3=> ?_,fun h3=> ⟨fun _=> ⟨⟨V2,re⟩,hd0,hd1⟩,fun _=> by simp only [Zj7];omega,fun hq=> Zf rfl ?_,fun hq=> Zf rfl ?_⟩⟩⟩⟩
 .rw [hat,if_pos h0,Qs]
  (simp only [iB,vcS])
  constructor
  .rintro ⟨h1,h2⟩;exact ⟨YS,h2⟩
  .rintro ⟨h1,h2⟩;exact ⟨YS,h2⟩
 .rw [hat,if_neg h0,V0]
 .rw [if_neg h0,JL,if_pos h3] at hat
  refine Z5 (ι:=Int) (fun p=> Z7A list o d p) (fun p=> 0<=p/\p<=o.l.length/\Z4M list (o.l.drop p.toNat)=Z4M list o.l) (fun p=> ((o.l.length:Int) - p).toNat) 0 rfl ⟨YS,YS,by simp⟩ ?_
  rintro i ⟨h4,h5,h6⟩
  refine Zup N list o d i _ _ ?_;(try simp only [iB,vcT,forall_eq])
  (simp only [iB,vcS]);(try simp only [iB,vcT]);(try simp only [vcU])
  try (simp only [Tree.eta,Edit.eta,Tree.kind_mk,Tree.words_mk,Tree.kids_mk])
  refine ⟨fun hi=> ?_,fun hi=> ?_⟩
  .have hmem:=Ze (l:=o.l) (i:=i.toNat) YS Tree.nil
   have hrt:=JX rl hmem
   have hmt:=YN hmem
   rw [Zgv h4 hi]
   rw [ZQ h4 hi Tree.nil] at h6
   simp only [Z4M] at h6
   generalize o.l.getD i.toNat Tree.nil=t at*
   refine ⟨V3,YS,⟨by simp only [Zm,Z9,List.length_nil];omega,⟨hil,fun x hx=> (by cases hx),hrt,trivial⟩,V2,V2⟩,fun hq=> Zf rfl ?_,fun hq=> ⟨V3,i+1,rfl,⟨YS,YS,?_⟩,YS⟩⟩
   .rw [hat,<-h6,hq];try rfl
   .rw [<-h6,hq];try rfl
  .have hw:Z4M list o.l=true:=by
    rw [<-h6,Q9 YS];try rfl
   rw [hw,QG] at hat
   refine ⟨fun _=> by simp only [Z8j];omega,Zf rfl ?_⟩
   rw [hat,Qs]
   (simp only [iB,vcS])
   simp only [Int.natCast_pos]
 .rw [hat,if_neg h0,JL,if_neg h3]
  rcases hq with hq | hq
  .have:¬(o.l.length=0/\o.e.kind≠0/\7 < list):=YS
   rw [decide_eq_false this];try rfl
  .rw [hq];simp
 .rw [hat,if_neg h0,JL,if_neg h3,hq.2]
  have:o.l.length=0/\o.e.kind≠0/\7 < list:=YS
  rw [decide_eq_true this,Qs]
  (simp only [iB,vcS])
  simp only [true_and,Xe,decide_eq_true_eq,and_assoc,or_assoc]
theorem ZEa:Contract Tryz.prog cfg 64 Zep/\Contract Tryz.prog cfg 101 ZoG:=ZsG c99 ZF1 ZEU c31 Zt7 b64 ZJ5
theorem Z6W(e:Edit):YR e=(decide (Z2r e.ops 0<=2000/\Z2q e.ops 0<=2000) && JJ e.kids && ZX e.ops):=by
 obtain ⟨k,o,nw,w,ks,l,os⟩:=e;rfl
theorem Zcj(k:Kid):ZlF k=YR k.e:=by cases k;rfl
theorem ZfQ(o:Op):Z9P o=YR o.e:=by cases o;rfl
theorem ZaK{e:Edit}{d:Int}(h:Zb e d=true):(∀ k∈e.kids,Zb k.e (d - 1)=true/\k.e.kind≠0)/\∀ o∈e.ops,Zk e.list o (d - 1)=true:=by
 rw [ZaL] at h
 split at h
 .cases h
 .split at h
  .cases h
  .rename_i h1 h2
   split at h
   .rename_i h3
    have hk:e.kids=[]:=Q4 YS
    have ho:e.ops=[]:=Q4 YS
    rw [hk,ho]
    exact ⟨fun k hk=> (by cases hk),fun o ho=> (by cases ho)⟩
   .simp only [Q3] at h
    exact ⟨fun k hk=> ZbT h.1.1.1.2 hk,fun o ho=> rightOs_mem h.1.2 ho⟩
theorem Zkw{e:Edit}(h:Z27 e=true):e.kind=0/\JU e.old=true/\JU e.new=true/\e.words=[]/\e.kids=[]/\e.ops=[]/\e.list=0:=by
 simp only [Z27,Q3,decide_eq_true_eq] at h
 obtain ⟨⟨⟨h1,h2⟩,h3⟩,h4,h5,h6,h7⟩:=h
 exact ⟨h1,h2,h3,Q4 h4,Q4 h5,Q4 h6,h7⟩
theorem ZbN{e:Edit}(h:Z27 e=true)(d:Int)(hd:d≠0):Zb e d=true:=by
 obtain ⟨h1,h2,h3,h4,h5,h6,h7⟩:=Zkw h
 rw [ZaL,h1,h2,h3,h4,h5,h6,h7,JL,if_neg (by simp),JL]
 simp [YM,ZK,ZO,Z2r,Z2q]
theorem Zgp{list:Int}{o:Op}{d:Int}(h:Zk list o d=true):∃ d',Zb o.e d'=true:=by
 rw [Z4S] at h
 split at h
 .simp only [Q3] at h
  exact ⟨1,ZbN h.2 1 YS⟩
 .split at h
  .cases h
  .split at h
   .simp only [Q3] at h
    exact ⟨1,ZbN h.2 1 YS⟩
   .simp only [Q3] at h
    exact ⟨d,h.1.2⟩
theorem c65:Contract Tryz.prog cfg 65 Zeo:=by
 refine ZDF Zt7 ?_
 intro N e _ hp hN
 simp only [Zf2,Zlw] at hp hN
 obtain ⟨⟨hm,hr⟩,dd,hrt⟩:=hp
 obtain ⟨ik,ro,rn,rw',il,rk,ros⟩:=Z4R hr
 have hme:=YC e
 have hkl:=YQ e.kids
 have hol:=Y0 e.ops
 have hat:=Z6W e
 obtain ⟨hrk,hro⟩:=ZaK hrt
 refine ZII N e _ ?_;(try simp only [iB,vcT,forall_eq])
 (simp only [iB,vcS]);(try simp only [iB,vcT]);(try simp only [vcU])
 try (simp only [Tree.eta,Edit.eta,Tree.kind_mk,Tree.words_mk,Tree.kids_mk])
 refine ⟨⟨hm,fun o ho=> ZaJ (hro o ho)⟩,fun hq=> Zf rfl (by rw [hat,decide_eq_false YS];rfl),fun hq=> ?_⟩
 rw [decide_eq_true YS,QG] at hat
 refine Z5 (ι:=Int) (fun p=> Za6 e p) (fun p=> 0<=p/\p<=e.kids.length/\JJ (e.kids.drop p.toNat)=JJ e.kids) (fun p=> ((e.kids.length:Int) - p).toNat) 0 rfl ⟨YS,YS,by simp⟩ ?_
 rintro i ⟨h4,h5,h6⟩
 refine Zyi N e i _ _ ?_;(try simp only [iB,vcT,forall_eq])
 (simp only [iB,vcS]);(try simp only [iB,vcT]);(try simp only [vcU])
 try (simp only [Tree.eta,Edit.eta,Tree.kind_mk,Tree.words_mk,Tree.kids_mk])
 refine ⟨fun hi=> ?_,fun hi=> ?_⟩
 .have hmem:=Ze (l:=e.kids) (i:=i.toNat) YS (KidOf.mk 0 Edit.nil)
  have hrr:=Yz rk hmem
  have hmm:=Jn hmem
  have hri:=hrk _ hmem
  rw [ZQ h4 hi (KidOf.mk 0 Edit.nil)] at h6
  simp only [JJ,Zcj] at h6
  generalize e.kids.getD i.toNat (KidOf.mk 0 Edit.nil)=k at*
  refine ⟨⟨h4,hi⟩,⟨⟨V2,hrr.2⟩,_,hri.1⟩,by simp only [Zlw];omega,fun hq=> Zf rfl (by rw [hat,<-h6,hq];rfl),fun hq=> ⟨V3,i+1,rfl,⟨YS,YS,by rw [<-h6,hq];rfl⟩,YS⟩⟩
 .have hw:JJ e.kids=true:=by
   rw [<-h6,Q9 YS];try rfl
  rw [hw,QG] at hat
  refine Z5 (ι:=Int) (fun p=> Za5 e p) (fun p=> 0<=p/\p<=e.ops.length/\ZX (e.ops.drop p.toNat)=ZX e.ops) (fun p=> ((e.ops.length:Int) - p).toNat) 0 rfl ⟨YS,YS,by simp⟩ ?_
  rintro j ⟨g4,g5,g6⟩
  refine Zyh N e j _ _ ?_;(try simp only [iB,vcT,forall_eq])
  (simp only [iB,vcS]);(try simp only [iB,vcT]);(try simp only [vcU])
  try (simp only [Tree.eta,Edit.eta,Tree.kind_mk,Tree.words_mk,Tree.kids_mk])
  refine ⟨fun hi=> ?_,fun hi=> ?_⟩
  .have hmem:=Ze (l:=e.ops) (i:=j.toNat) YS Op.nil
   have hrr:=Z0y (Z0M ros hmem)
   have hmm:=ZZ hmem
   have hri:=Zgp (hro _ hmem)
   rw [ZI] at hmm
   rw [ZQ g4 hi Op.nil] at g6
   simp only [ZX,ZfQ] at g6
   generalize e.ops.getD j.toNat Op.nil=o at*
   refine ⟨⟨g4,hi⟩,⟨⟨V2,hrr.2.2.2⟩,hri⟩,by simp only [Zlw];omega,fun hq=> Zf rfl (by rw [hat,<-g6,hq];rfl),fun hq=> ⟨V3,j+1,rfl,⟨YS,YS,by rw [<-g6,hq];rfl⟩,YS⟩⟩
  .refine Zf rfl ?_
   rw [hat,<-g6,Q9 YS];try rfl
theorem c14:Contract Tryz.prog cfg 14 Zev:=by
 refine ZDP c45 ZEa.1 c65 ?_
 intro e _ hp
 simp only [Zl8] at hp
 refine ZIU e _ ?_;(try simp only [iB,vcT,forall_eq])
 try (simp only [Tree.eta,Edit.eta,Tree.kind_mk,Tree.words_mk,Tree.kids_mk])
 refine ⟨hp.1,fun hf=> ?_,fun hf=> ?_,Zf rfl ?_⟩
 .have:=Zbw (by simpa using hf)
  exact ⟨⟨V2,hp.2⟩,V2,V2⟩
 .simp only [Zxt,decide_eq_true_eq] at hf
  have:=Zbw hf.1
  exact ⟨⟨V2,hp.2⟩,64,hf.2⟩
 .show _=Z06 e
  simp only [Z06]
  rw [Qs]
  (simp only [iB,vcS])
end Go.AM.YtpjenobkibfpcaaGreat
namespace Go.AM
noncomputable def eqX{α:Type}(a b:α):Bool:=@decide (a=b) (Classical.propDecidable _)
theorem YO{α:Type}{a b:α}:eqX a b=true↔a=b:=by unfold eqX;exact @decide_eq_true_iff _ (Classical.propDecidable _)
@[simp] theorem Zg2 {α:Type} (a:α):eqX a a=true:=YO.2 rfl
def Zs(o:Op)(n:Int):Op:=if Z6 o<=n then o else if o.kind=0 then ⟨o.kind,n,o.l,o.e⟩ else ⟨o.kind,o.n,o.l.take n.toNat,o.e⟩
def Jb(o:Op)(n:Int):Op:=if o.kind=0 then ⟨o.kind,o.n - n,o.l,o.e⟩ else ⟨o.kind,o.n,o.l.drop n.toNat,o.e⟩
def Zz(l:List Op)(n:Int):List Op:=if Z6 (l.getD 0 Op.nil)<=n then l.drop 1 else Jb (l.getD 0 Op.nil) n ::l.drop 1
def sgl(a:Int)(l:List Op):Bool:=decide (l.length≠0/\(l.getD 0 Op.nil).kind=a)
def ZC(o:Op):Prop:=
 (o.kind=0/\o.l=[]/\(1<=o.n/\o.n<=1048576)/\o.e=Edit.nil)\/((o.kind=1\/o.kind=2)/\o.n=0/\o.l≠[]/\o.e=Edit.nil)\/(o.kind=3/\o.n=0/\o.l=[])
def Z9z(l:List Op):Prop:=(∀ o∈l,ZC o)/\Zg l<=20000000000
theorem Yf(l:List Op)(n:Int)(h:l.length≠0):(Zz l n).length<=l.length:=by
 unfold Zz
 split <;> simp <;> omega
theorem Ye(l:List Op)(n:Int)(h:l.length≠0)(hn:Z6 (l.getD 0 Op.nil)<=n):(Zz l n).length < l.length:=by
 unfold Zz
 rw [if_pos hn]
 simp;omega
def ZH(ap aq:Int)(p q:List Op)(out:List Piece):List Piece × Bool × List Op × List Op:=
 if h:sgl ap p=true then ZH ap aq (p.drop 1) q (out++[⟨1,p.getD 0 Op.nil,Op.nil⟩])
 else if h2:sgl aq q=true then ZH ap aq p (q.drop 1) (out++[⟨2,Op.nil,q.getD 0 Op.nil⟩])
 else if h3:p.length=0\/q.length=0 then
  if decide (p.length=0)=decide (q.length=0) then (out,true,p,q) else ([],false,p,q)
 else
  ZH ap aq (Zz p (min (Z6 (p.getD 0 Op.nil)) (Z6 (q.getD 0 Op.nil)))) (Zz q (min (Z6 (p.getD 0 Op.nil)) (Z6 (q.getD 0 Op.nil))))
   (out++[⟨0,Zs (p.getD 0 Op.nil) (min (Z6 (p.getD 0 Op.nil)) (Z6 (q.getD 0 Op.nil))),Zs (q.getD 0 Op.nil) (min (Z6 (p.getD 0 Op.nil)) (Z6 (q.getD 0 Op.nil)))⟩])
termination_by p.length+q.length
decreasing_by
 .have:=(of_decide_eq_true h).1;rw [Qk];omega
 .have:=(of_decide_eq_true h2).1;rw [Qk];omega
 .rcases Int.le_total (Z6 (p.getD 0 Op.nil)) (Z6 (q.getD 0 Op.nil)) with hm | hm
  .have a:=Ye p _ YS (Qw (Z6 (p.getD 0 Op.nil)))
   have b:=Yf q (Z6 (p.getD 0 Op.nil)) YS
   rw [Int.min_eq_left hm];omega
  .have a:=Ye q _ YS (Qw (Z6 (q.getD 0 Op.nil)))
   have b:=Yf p (Z6 (q.getD 0 Op.nil)) YS
   rw [Int.min_eq_right hm];omega
def Yq(i alone:Int)(o:Op):List AUnit:=
 (if o.kind=0 then List.replicate o.n.toNat ⟨i,0,Tree.nil,Edit.nil,false⟩ else [])
  ++(o.l.map (fun t=> ⟨i,o.kind,t,Edit.nil,decide (o.kind=alone)⟩)
  ++(if o.kind=3 then [⟨i,3,Tree.nil,o.e,false⟩] else []))
def Zr(i alone:Int):List Op->List AUnit
 | []=> []
 | o ::r=> Yq i alone o++Zr (i+1) alone r
def Z1y:List Op->Int
 | []=> 0
 | o ::r=> Z6 o+Z1y r
def alo(l:List AUnit):Bool:=decide (l.length≠0/\(l.getD 0 AUnit.nil).alone=true)
def ZB(p q:List AUnit)(out:List APair):List APair × Bool:=
 if h:alo p=true then ZB (p.drop 1) q (out++[⟨1,p.getD 0 AUnit.nil,AUnit.nil⟩])
 else if h2:alo q=true then ZB p (q.drop 1) (out++[⟨2,AUnit.nil,q.getD 0 AUnit.nil⟩])
 else if h3:p.length=0\/q.length=0 then
  if decide (p.length=0)=decide (q.length=0) then (out,true) else ([],false)
 else ZB (p.drop 1) (q.drop 1) (out++[⟨0,p.getD 0 AUnit.nil,q.getD 0 AUnit.nil⟩])
termination_by p.length+q.length
decreasing_by
 .have:=(of_decide_eq_true h).1;rw [Qk];omega
 .have:=(of_decide_eq_true h2).1;rw [Qk];omega
 .rw [Qk,Qk];omega
def opU(u:AUnit):Op:=if u.kind=0 then ⟨0,1,[],Edit.nil⟩ else if u.kind=3 then ⟨3,0,[],u.e⟩ else ⟨u.kind,0,[u.t],Edit.nil⟩
def Z7T(o:Op)(alone:Int)(l:List AUnit):Prop:=(Zr 0 alone [o]).map opU=l.map opU
def Zgi(alone:Int):List Piece->List APair->Prop
 | [],m=> m=[]
 | x ::r,m=> ∃ m1 m2,m=m1++m2/\m1≠[]/\((x.of=0\/x.of=1\/x.of=2)/\(x.of=2->x.p=Op.nil)/\(∀ y∈m1,y.of=x.of)/\(x.of≠2->ZC x.p/\Zu x.p<=18000000000/\Z6 x.p=m1.length/\Z7T x.p alone (m1.map APair.p))
   /\(x.of≠1->ZC x.q/\Zu x.q<=18000000000/\Z6 x.q=m1.length/\Z7T x.q 2 (m1.map APair.q)))/\Zgi alone r m2
end Go.AM
