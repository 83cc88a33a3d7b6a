import Derived.Test.YtpjenobkibfpcaaGreatZKRB07
set_option linter.unusedSimpArgs false
set_option linter.unusedVariables false
namespace Go.AM.YtpjenobkibfpcaaGreat
open Go.AM Go.Proofs
noncomputable section
def ZtN:ArgL (Int × Unit):=(.cons (Z0h .u64) .nil)
def Z6O(a:Int × Unit):Prop:=0<=a.1/\a.1 < 18446744073709551616
def Zpl(a:Int × Unit):V U:= .agg (zb8 Z4 a.1)
def Z4G:Fs U:=fs ZtN (fun a=> [Z6O a]) Zpl
def ZtM:ArgL (Int × Int × Unit):=(.cons (Z0h .u8) (.cons (Z0h .i64) .nil))
def ZdO(a:Int × Int × Unit):Prop:=(0<=a.1/\a.1 < 256)/\0<=a.2.1/\a.2.1<=8
def ZxU(a:Int × Int × Unit):V U:= .c (.bool (Zz a.1 a.2.1))
def Z4F:Fs U:=fs ZtM (fun a=> [ZdO a]) ZxU
def ZtL:ArgL (List Int × Int × Unit):=(.cons (aSl .u8) (.cons (Z0h .i64) .nil))
def Zht(a:List Int × Int × Unit):Prop:=a.2.1=0/\a.1.length=8/\∀ x∈a.1,0<=x/\x < 256
def ZxT(a:List Int × Int × Unit):V U:= .c (.int .u64 (of8 (fun i=> a.1.getD i 0)))
def Z4E:Fs U:=fs ZtL (fun a=> [Zht a]) ZxT
def Zu3:ArgL (Int × Int × Int × Unit):=(.cons (Z0h .u64) (.cons (Z0h .u64) (.cons (Z0h .u8) .nil)))
def Z7Q(a:Int × Int × Int × Unit):Prop:=(0<=a.1/\a.1 < 18446744073709551616)/\(0<=a.2.1/\a.2.1 < 18446744073709551616)/\(0<=a.2.2.1/\a.2.2.1 < 256)
def Zy6(a:Int × Int × Int × Unit):V U:= .c (.int .u64 (mix a.1 a.2.1 a.2.2.1))
def Z3k:Fs U:=fs Zu3 (fun a=> [Z7Q a]) Zy6
def Z7I(a:Tree × Unit):Prop:=Zq a.1<=20000000000
def ZES(a:Tree × Unit):V U:= .c (.bool (Z0r a.1))
def Z6m:Fs U:=fs ZAz (fun a=> [Z7I a]) ZES
def Zu9:ArgL (Int × Int × Unit):=(.cons (Z0h .u64) (.cons (Z0h .u8) .nil))
def Zlt(a:Int × Int × Unit):Prop:=(0<=a.1/\a.1 < 18446744073709551616)/\(0<=a.2.1/\a.2.1 < 256)
def Zy9(a:Int × Int × Unit):V U:= .c (.bool (Ya a.1 a.2.1))
def Z8M:Fs U:=fs Zu9 (fun a=> [Zlt a]) Zy9
def Zu2:ArgL (Edit × Unit):=(.cons (aEl .edit) .nil)
def ZaR(a:Edit × Unit):Prop:=Z0 a.1<=20000000000
def Zy5(a:Edit × Unit):V U:= .c (.bool (Z36 a.1))
def Z8I:Fs U:=fs Zu2 (fun a=> [ZaR a]) Zy5
def ZhB(a:Edit × Unit):Prop:=Z0 a.1<=20000000000/\∀ o∈Edit.ops a.1,0<=o.n/\o.n<=1048576
def Zpq(a:Edit × Unit):V U:= .tup [(false,[ci (Jp a.1.ops 0)]),(false,[ci (Z11 a.1.ops 0)])]
def Z3l:Fs U:=fs Zu2 (fun a=> [ZhB a]) Zpq
def ZqN:ArgL (Edit × Int × Int × Unit):=(.cons (aEl .edit) (.cons (Z0h .i64) (.cons (Z0h .i64) .nil)))
def Zhn(a:Edit × Int × Int × Unit):Prop:=Z2w a.1/\0<=a.2.1/\a.2.1<=4611686018427387904/\-1<=a.2.2.1/\a.2.2.1<=4611686018427387904
def ZnP(a:Edit × Int × Int × Unit):Nat:=Z0 a.1
def ZrO(a:Edit × Int × Int × Unit):V U:= .c (ci (Z2g a.1 a.2.1 a.2.2.1))
def ZgB:Fs U:=fs ZqN (fun a=> [Zhn a]) ZrO
def Zyo(a:Edit × Unit):Prop:=Z2w a.1
def ZEV(a:Edit × Unit):V U:= .c (.bool (decide (0<=Z2g a.1 80 3000)))
def ZgM:Fs U:=fs Zu2 (fun a=> [Zyo a]) ZEV
def Zss:Zj U:=lvl [([0,2],[2]),([0,2,3],[2,3]),([0,2,3,4],[2,3]),([0,2,3,4,7],[2,3]),([0,2,3,4],[2,3]),([0,2,3,4],[2,3]),([0,2,3,4],[2,3]),([2],[2])]
def Z5X(w x0 x4 s af ab ah ae aa d h:Int):LSt U:=(L2 [(0,.c (.int .u64 x0)),pL 2,pL 3,pI 4 x4] [(.loc 2,zc0),(.loc 3,(zi8 [s,af,ab,ah,ae,aa,d,h]))])
abbrev ZIF(p:List Nat):=AW (Z3 Zqg) Tryz.f186 Zss p
abbrev ZKu(p:List Nat):=SW (Z3 Zqg) Tryz.f186 Zss p
theorem ZJd(w:Int)(Q:QT)(h:(Zi (ZIF [1,1,0,1,0,0]) (Z5X w w 0 0 0 0 0 0 0 0 0) (xB 0 (ZKu [1,1,1] Q)))):
  ZIF [] (L2 [(0,.c (.int .u64 w))] []) Q:=
 Eq.mpr V6 h
theorem Zwr(w x0 x4 aa ah ae ai af ab d s:Int)(N0:NT)(Q:QT)(h:let z0:=IntKind.wrap .u8 (Int.tmod x0 256);(iB (decide (x4 < 8)) (((256:Int)≠0)/\((0:Int)<=x4/\x4 < ((8:Nat):Int))/\(((256:Int)≠0)/\((InR (x4+1))/\(N0 (Z5X w (IntKind.wrap .u64 (Int.tdiv x0 256)) (x4+1) (YK x4 0 z0 aa) (YK x4 1 z0 ah) (YK x4 2 z0 ae) (YK x4 3 z0 ai) (YK x4 4 z0 af) (YK x4 5 z0 ab) (YK x4 6 z0 d) (YK x4 7 z0 s)))))) ((Q .ret (L2 [pL 2] [(.loc 2,(zi8 [aa,ah,ae,ai,af,ab,d,s]))]))))):
  ZIF [1,1,0,1,0,0] (Z5X w x0 x4 aa ah ae ai af ab d s) (xT N0 (xB 0 (ZKu [1,1,1] Q))):=
 Eq.mpr V6 h
def ZE5(w:Int):Prop:=AW (Z3 Zqg) Tryz.f186 Zss [] (Zm (ZtN.can (w,())) []) (EQ Tryz.f186 (Zpl (w,())) [])
theorem ZC9(hb:∀ (w:Int) (_:Unit),Z6O (w,())->ZE5 w):CT 186 Z4G:=
 Z9 (l:=[]) Zo rfl trivial Zss Tryz.func186 rfl rfl 1 (fun _=> rfl) V3 (fun ⟨w,_⟩=> hb w ())
def Zsr:Zj U:=lvl [([0,1],[]),([0,1,5],[]),([0,1,5,8],[]),([0,1,5],[]),([0,1,5],[]),([4],[])]
def Z9n(m i x0 d:Int):LSt U:=(L2 [(0,.c (.int .u8 x0)),pI 1 i,pI 5 d] [])
abbrev ZIE(p:List Nat):=AW (Z3 Zqg) Tryz.f187 Zsr p
abbrev ZKt(p:List Nat):=SW (Z3 Zqg) Tryz.f187 Zsr p
theorem ZJc(m i:Int)(Q:QT)(h:(Zi (ZIE [1,0,1,0,0]) (Z9n m i m 0) (xB 0 (ZKt [1,1] Q)))):
  ZIE [] (L2 [(0,.c (.int .u8 m)),pI 1 i] []) Q:=
 Eq.mpr V6 h
theorem Zwq(m i x0 d:Int)(N0:NT)(Q:QT)(h:(iB (decide (d < i)) (((2:Int)≠0)/\((InR (d+1))/\(N0 (Z9n m i (IntKind.wrap .u8 (Int.tdiv x0 2)) (d+1))))) (((2:Int)≠0)/\(Q .ret (L2 [pB 4 (((Int.tmod x0 2):Int)==1)] []))))):
  ZIE [1,0,1,0,0] (Z9n m i x0 d) (xT N0 (xB 0 (ZKt [1,1] Q))):=
 Eq.mpr V6 h
def ZE4(m i:Int):Prop:=AW (Z3 Zqg) Tryz.f187 Zsr [] (Zm (ZtM.can (m,i,())) []) (EQ Tryz.f187 (ZxU (m,i,())) [])
theorem ZC8(hb:∀ (m:Int) (i:Int) (_:Unit),ZdO (m,i,())->ZE4 m i):CT 187 Z4F:=
 Z9 (l:=[]) Zo rfl trivial Zsr Tryz.func187 rfl rfl 2 (fun _=> rfl) V3 (fun ⟨m,i,_⟩=> hb m i ())
def Zsq:Zj U:=lvl [([0,1],[]),([0,1,5],[]),([0,1,5,6],[]),([0,1,5,6,8],[]),([0,1,5,6],[]),([0,1,5,6],[]),([4],[])]
def Z9m(b:List Int)(from_ h d:Int):LSt U:=(L2 [(0,.c (sU .u8 b .unk)),pI 1 from_,(5,.c (.int .u64 h)),pI 6 d] [])
abbrev ZID(p:List Nat):=AW (Z3 Zqg) Tryz.f188 Zsq p
abbrev ZKs(p:List Nat):=SW (Z3 Zqg) Tryz.f188 Zsq p
theorem ZJb(b:List Int)(from_:Int)(Q:QT)(h:(Zi (ZID [1,1,0,1,0,0]) (Z9m b from_ 0 7) (xB 0 (ZKs [1,1,1] Q)))):
  ZID [] (L2 [(0,.c (sU .u8 b .unk)),pI 1 from_] []) Q:=
 Eq.mpr V6 h
theorem Zwp(b:List Int)(from_ s d:Int)(N0:NT)(Q:QT)(h:(iB (decide ((0:Int)<=d)) ((InR (from_+d))/\((0:Int)<=(from_+d)/\(from_+d) < (b.length:Int))/\((InR (d - 1))/\(N0 (Z9m b from_ (IntKind.wrap .u64 (((IntKind.wrap .u64 (s*256)):Int)+(IntKind.wrap .u64 (List.getD b (Int.toNat (from_+d)) (0:Int))))) (d - 1))))) ((Q .ret (L2 [(4,.c (.int .u64 s))] []))))):
  ZID [1,1,0,1,0,0] (Z9m b from_ s d) (xT N0 (xB 0 (ZKs [1,1,1] Q))):=
 Eq.mpr V6 h
def ZE3(b:List Int)(from_:Int):Prop:=AW (Z3 Zqg) Tryz.f188 Zsq [] (Zm (ZtL.can (b,from_,())) []) (EQ Tryz.f188 (ZxT (b,from_,())) [])
theorem ZC7(hb:∀ (b:List Int) (d:Int) (_:Unit),Zht (b,d,())->ZE3 b d):CT 188 Z4E:=
 Z9 (l:=[]) Zo rfl trivial Zsq Tryz.func188 rfl rfl 2 (fun _=> rfl) V3 (fun ⟨b,d,_⟩=> hb b d ())
def ZlZ:List (FuncId × Fs U):=[(186,Z4G),(187,Z4F),(188,Z4E)]
def ZsC:Zj U:=lvl [([0,1,2],[]),([2,7,8],[7,8]),([2,7,8,9],[7,8]),([2,7,8,9,15],[7,8]),([2,7,8,9],[7,8]),([2,7,8,9,20],[7,8]),([2,7,8,9],[7,8]),([6],[])]
def Z3V(a b m x9 ab d af s ah ae h aa:Int):LSt U:=(L2 [(2,.c (.int .u8 m)),pL 7,pL 8,pI 9 x9] [(.loc 7,(zi8 [ab,d,af,s,ah,ae,h,aa])),(.loc 8,(zb8 Z4 b))])
abbrev ZIJ(p:List Nat):=AW (Z3 ZlZ) Tryz.f136 ZsC p
abbrev ZKy(p:List Nat):=SW (Z3 ZlZ) Tryz.f136 ZsC p
theorem ZJF(a b m:Int)(Q:QT)(h:((Z6O (a,()))/\(Z6O (b,()))/\(Zi (ZIJ [1,1,0,1,0,0]) (Z3V a b m 0 (Z4 a 0) (Z4 a 1) (Z4 a 2) (Z4 a 3) (Z4 a 4) (Z4 a 5) (Z4 a 6) (Z4 a 7)) (xB 0 (ZKy [1,1,1] Q))))):
  ZIJ [] (L2 [(0,.c (.int .u64 a)),(1,.c (.int .u64 b)),(2,.c (.int .u8 m))] []) Q:=
 Eq.mpr V6 h
theorem ZwU(a b m x9 ae d ah aa ai af s ab:Int)(N0:NT)(Q:QT)(h:let z0:=List.getD [Z4 b 0,Z4 b 1,Z4 b 2,Z4 b 3,Z4 b 4,Z4 b 5,Z4 b 6,Z4 b 7] x9.toNat 0;(iB (decide (x9 < 8)) ((ZdO (m,x9,()))/\(iB (Zz m x9) (((0:Int)<=x9/\x9 < ((8:Nat):Int))/\((0:Int)<=x9/\x9 < ((8:Nat):Int))/\((InR (x9+1))/\(N0 (Z3V a b m (x9+1) (YK x9 0 z0 ae) (YK x9 1 z0 d) (YK x9 2 z0 ah) (YK x9 3 z0 aa) (YK x9 4 z0 ai) (YK x9 5 z0 af) (YK x9 6 z0 s) (YK x9 7 z0 ab))))) ((InR (x9+1))/\(N0 (Z3V a b m (x9+1) ae d ah aa ai af s ab))))) ((Zht (([ae,d,ah,aa,ai,af,s,ab]),0,()))/\(Q .ret (L2 [(6,.c (.int .u64 (of8 (fun i=> ([ae,d,ah,aa,ai,af,s,ab]).getD i 0))))] []))))):
  ZIJ [1,1,0,1,0,0] (Z3V a b m x9 ae d ah aa ai af s ab) (xT N0 (xB 0 (ZKy [1,1,1] Q))):=
 Eq.mpr V6 h
def ZEx(a b m:Int):Prop:=AW (Z3 ZlZ) Tryz.f136 ZsC [] (Zm (Zu3.can (a,b,m,())) []) (EQ Tryz.f136 (Zy6 (a,b,m,())) [])
theorem ZCu(ZvI:CT 186 Z4G)(ZvH:CT 187 Z4F)(ZvG:CT 188 Z4E)(hb:∀ (a:Int) (b:Int) (m:Int) (_:Unit),Z7Q (a,b,m,())->ZEx a b m):CT 136 Z3k:=
 Z9 (l:=[(186,Z4G),(187,Z4F),(188,Z4E)]) Zo rfl (⟨ZvI,ZvH,ZvG,trivial⟩) ZsC Tryz.func136 rfl rfl 3 (fun _=> rfl) V3 (fun ⟨a,b,m,_⟩=> hb a b m ())
abbrev A99(p:List Nat):=AW (Z3 Zqg) Tryz.f99 ZGI p
theorem ZKH(t:Tree)(Q:QT)(h:((Tt (t.kind==0))/\(Tt (t.kind==0))/\(Tt (t.kind==0))/\(Tt (t.kind==0))/\(Tt (t.kind==0))/\(Tt (t.kind==0))/\((t.kind==0)=true->InR (((t.words.length:Int):Int)+(t.kids.length:Int)))/\(Tt (t.kind==0))/\(Tt (t.kind==0))/\(Q .ret (L2 [(2,.c (.bool (bif (t.kind==0) then (((((t.words.length:Int):Int)+(t.kids.length:Int)):Int)==0) else false)))] [])))):
  A99 [] (L2 [(0,.agg (enc .tree t))] []) Q:=
 Eq.mpr V6 h
def ZI0(t:Tree):Prop:=AW (Z3 Zqg) Tryz.f99 ZGI [] (Zm (ZAz.can (t,())) []) (EQ Tryz.f99 (ZES (t,())) [])
theorem ZGa(hb:∀ (t:Tree) (_:Unit),Z7I (t,())->ZI0 t):CT 99 Z6m:=
 Z9 (l:=[]) Zo rfl trivial ZGI Tryz.func99 rfl rfl 1 (fun _=> rfl) V3 (fun ⟨t,_⟩=> hb t ())
def Ztg:List (FuncId × Fs U):=[(136,Z3k)]
def Zzo:Zj U:=lvl [([0,1],[]),([4],[])]
abbrev ZM7(p:List Nat):=AW (Z3 Ztg) Tryz.f100 Zzo p
theorem ZJV(w m:Int)(Q:QT)(h:((Z7Q (w,0,m,()))/\(Q .ret (L2 [pB 4 (((mix w 0 m):Int)==0)] [])))):
  ZM7 [] (L2 [(0,.c (.int .u64 w)),(1,.c (.int .u8 m))] []) Q:=
 Eq.mpr V6 h
def ZEN(w m:Int):Prop:=AW (Z3 Ztg) Tryz.f100 Zzo [] (Zm (Zu9.can (w,m,())) []) (EQ Tryz.f100 (Zy9 (w,m,())) [])
theorem ZCB(ZvO:CT 136 Z3k)(hb:∀ (w:Int) (m:Int) (_:Unit),Zlt (w,m,())->ZEN w m):CT 100 Z8M:=
 Z9 (l:=[(136,Z3k)]) Zo rfl (⟨ZvO,trivial⟩) Zzo Tryz.func100 rfl rfl 2 (fun _=> rfl) V3 (fun ⟨w,m,_⟩=> hb w m ())
def Ztc:List (FuncId × Fs U):=[(99,Z6m)]
abbrev ZM1(p:List Nat):=AW (Z3 Ztc) Tryz.f137 ZGI p
theorem ZJE(e:Edit)(Q:QT)(h:∀ s,s=(e.new)->∀ d,d=(e.old)->let z2:=bif (e.kind==0) then (Z0r d) else false;let z0:=bif z2 then (Z0r s) else false;let z1:=bif z0 then (((((((e.words.length:Int):Int)+(e.kids.length:Int)):Int)+(e.ops.length:Int)):Int)==0) else false;((Tt (e.kind==0))/\(Tt (e.kind==0))/\((e.kind==0)=true->Z7I (d,()))/\(Tt (e.kind==0))/\(Tt z2)/\(Tt z2)/\(z2=true->Z7I (s,()))/\(Tt z2)/\(Tt z0)/\(Tt z0)/\(Tt z0)/\(Tt z0)/\(Tt z0)/\(Tt z0)/\(z0=true->InR (((e.words.length:Int):Int)+(e.kids.length:Int)))/\(Tt z0)/\(Tt z0)/\(Tt z0)/\(Tt z0)/\(z0=true->InR (((((e.words.length:Int):Int)+(e.kids.length:Int)):Int)+(e.ops.length:Int)))/\(Tt z0)/\(Tt z0)/\(Tt z1)/\(Tt z1)/\(Tt z1)/\(Q .ret (L2 [(2,.c (.bool (bif z1 then (e.list==0) else false)))] [])))):
  ZM1 [] (L2 [(0,.agg (enc .edit e))] []) Q:=
 Eq.mpr V6 (h _ (Zc _) _ (Zc _))
def ZEw(e:Edit):Prop:=AW (Z3 Ztc) Tryz.f137 ZGI [] (Zm (Zu2.can (e,())) []) (EQ Tryz.f137 (Zy5 (e,())) [])
theorem ZCt(c99:CT 99 Z6m)(hb:∀ (e:Edit) (_:Unit),ZaR (e,())->ZEw e):CT 137 Z8I:=
 Z9 (l:=[(99,Z6m)]) Zo rfl (⟨c99,trivial⟩) ZGI Tryz.func137 rfl rfl 1 (fun _=> rfl) V3 (fun ⟨e,_⟩=> hb e ())
def ZsH:Zj U:=lvl [([1],[1]),([1,4,5],[1]),([1,4,5,6],[1]),([1,4,5,6,13],[1]),([1,4,5,6],[1]),([1,4,5,6,7],[1,7]),([1,4,5,6,7,8],[1,7]),([1,4,5,6,7,8,29],[1,7]),([1,4,5,6,7,8,29],[1,7]),([1,4,5,6,7,8,32],[1,7]),([1,4,5,6,7,8,32],[1,7]),([1,4,5,6,8,38],[1]),([1,4,5,6,8,38],[1]),([1,4,5,6,43],[1]),([1,4,5,6,43],[1]),([1,4,5,6,45],[1]),([1,4,5,6],[1]),([2,3],[])]
def Z2K(e:Edit)(h s d:Int):LSt U:=(L2 [pL 1,pI 4 h,pI 5 s,pI 6 d] [(.loc 1,(enc .edit e))])
def Z9Q(e:Edit)(s x5 h d:Int):LSt U:=(L2 [pL 1,pI 4 s,pI 5 x5,pI 6 h,pL 7,pI 8 d,(29,.c (.bool (((OpOf.kind (e.ops.getD h.toNat Op.nil)):Int)==3)))] [(.loc 1,(enc .edit e)),(.loc 7,(enc .op (e.ops.getD h.toNat Op.nil)))])
def Z9P(e:Edit)(x5 s h d:Int):LSt U:=(L2 [pL 1,pI 4 d,pI 5 x5,pI 6 s,pL 7,pI 8 h,(32,.c (.bool (((OpOf.kind (e.ops.getD s.toNat Op.nil)):Int) !=2)))] [(.loc 1,(enc .edit e)),(.loc 7,(enc .op (e.ops.getD s.toNat Op.nil)))])
def Z9O(e:Edit)(x6 h d s:Int):LSt U:=(L2 [pL 1,pI 4 d,pI 5 s,pI 6 x6,pI 8 h,(38,.c (.bool (((OpOf.kind (e.ops.getD x6.toNat Op.nil)):Int) !=1)))] [(.loc 1,(enc .edit e))])
def Z9N(e:Edit)(x6 h s d:Int):LSt U:=(L2 [pL 1,pI 4 d,pI 5 s,pI 6 x6,pB 43 (decide ((1048576:Int) < h))] [(.loc 1,(enc .edit e))])
abbrev Z6f(p:List Nat):=AW (Z3 Zqg) Tryz.f102 ZsH p
abbrev Z2O(p:List Nat):=SW (Z3 Zqg) Tryz.f102 ZsH p
theorem ZJT(e:Edit)(Q:QT)(h:(Zi (Z6f [1,1,0,1,0,0]) (Z2K e 0 0 0) (xB 0 (Z2O [1,1,1] Q)))):
  Z6f [] (L2 [(0,.agg (enc .edit e))] []) Q:=
 Eq.mpr V6 h
abbrev ZDy(e:Edit)(h s d:Int)(N0:NT)(Q:QT):Prop:=Z6f [1,1,0,1,0,0] (Z2K e h s d) (xT N0 (xB 0 (Z2O [1,1,1] Q)))
theorem Zxa(e:Edit)(s x5 d:Int)(N0:NT)(Q:QT)(h:let z1:=xB 1 (Z2O [1,1,0,1,0,0,1,1] (xT N0 (xB 0 (Z2O [1,1,1] Q))));let z0:=e.ops.getD d.toNat Op.nil;(iB (decide (d < (e.ops.length:Int))) (((0:Int)<=d/\d < (e.ops.length:Int))/\((InR (((OpOf.n z0):Int)+((OpOf.l z0).length:Int)))/\(iB (((OpOf.kind z0):Int)==3) ((Z6f [1,1,0,1,0,0,1,0,0,1,1,1] (Z9Q e s x5 d 1) z1)) (Z6f [1,1,0,1,0,0,1,0,0,1,1,1] (Z9Q e s x5 d (((OpOf.n z0):Int)+((OpOf.l z0).length:Int))) z1)))) ((Q .ret (L2 [pI 2 s,pI 3 x5] []))))):
  Z6f [1,1,0,1,0,0] (Z2K e s x5 d) (xT N0 (xB 0 (Z2O [1,1,1] Q))):=
 Eq.mpr V6 h
abbrev ZDC(e:Edit)(s x5 h d:Int)(N0:NT)(Q:QT):Prop:=Z6f [1,1,0,1,0,0,1,0,0,1,1,1] (Z9Q e s x5 h d) (xB 1 (Z2O [1,1,0,1,0,0,1,1] (xT N0 (xB 0 (Z2O [1,1,1] Q)))))
theorem Zxe(e:Edit)(x4 x5 s d:Int)(N0:NT)(Q:QT)(h:let z0:=xB 1 (Z2O [1,1,0,1,0,0,1,1] (xT N0 (xB 0 (Z2O [1,1,1] Q))));(iB (((OpOf.kind (e.ops.getD s.toNat Op.nil)):Int) !=2) ((InR (x4+d))/\(Z6f [1,1,0,1,0,0,1,0,0,1,1,1,1] (Z9P e x5 s d (x4+d)) z0)) (Z6f [1,1,0,1,0,0,1,0,0,1,1,1,1] (Z9P e x5 s d x4) z0))):
  Z6f [1,1,0,1,0,0,1,0,0,1,1,1] (Z9Q e x4 x5 s d) (xB 1 (Z2O [1,1,0,1,0,0,1,1] (xT N0 (xB 0 (Z2O [1,1,1] Q))))):=
 Eq.mpr V6 h
abbrev ZDB(e:Edit)(x5 s h d:Int)(N0:NT)(Q:QT):Prop:=Z6f [1,1,0,1,0,0,1,0,0,1,1,1,1] (Z9P e x5 s h d) (xB 1 (Z2O [1,1,0,1,0,0,1,1] (xT N0 (xB 0 (Z2O [1,1,1] Q)))))
theorem Zxd(e:Edit)(x5 x6 d s:Int)(N0:NT)(Q:QT)(h:let z0:=xB 1 (Z2O [1,1,0,1,0,0,1,1] (xT N0 (xB 0 (Z2O [1,1,1] Q))));(iB (((OpOf.kind (e.ops.getD x6.toNat Op.nil)):Int) !=1) ((InR (x5+d))/\(Z6f [1,1,0,1,0,0,1,0,0,1,1,1,1,1] (Z9O e x6 d s (x5+d)) z0)) (Z6f [1,1,0,1,0,0,1,0,0,1,1,1,1,1] (Z9O e x6 d s x5) z0))):
  Z6f [1,1,0,1,0,0,1,0,0,1,1,1,1] (Z9P e x5 x6 d s) (xB 1 (Z2O [1,1,0,1,0,0,1,1] (xT N0 (xB 0 (Z2O [1,1,1] Q))))):=
 Eq.mpr V6 h
abbrev ZDA(e:Edit)(x6 h d s:Int)(N0:NT)(Q:QT):Prop:=Z6f [1,1,0,1,0,0,1,0,0,1,1,1,1,1] (Z9O e x6 h d s) (xB 1 (Z2O [1,1,0,1,0,0,1,1] (xT N0 (xB 0 (Z2O [1,1,1] Q)))))
theorem Zxc(e:Edit)(x6 aa d s:Int)(N0:NT)(Q:QT)(h:let z0:=xB 1 (Z2O [1,1,0,1,0,0,1,1] (xT N0 (xB 0 (Z2O [1,1,1] Q))));(iB (decide ((1048576:Int) < d)) ((Z6f [1,1,0,1,0,0,1,0,0,1,1,1,1,1,1] (Z9N e x6 d s 1048576) z0)) (Z6f [1,1,0,1,0,0,1,0,0,1,1,1,1,1,1] (Z9N e x6 d s d) z0))):
  Z6f [1,1,0,1,0,0,1,0,0,1,1,1,1,1] (Z9O e x6 aa d s) (xB 1 (Z2O [1,1,0,1,0,0,1,1] (xT N0 (xB 0 (Z2O [1,1,1] Q))))):=
 Eq.mpr V6 h
abbrev ZDz(e:Edit)(x6 h s d:Int)(N0:NT)(Q:QT):Prop:=Z6f [1,1,0,1,0,0,1,0,0,1,1,1,1,1,1] (Z9N e x6 h s d) (xB 1 (Z2O [1,1,0,1,0,0,1,1] (xT N0 (xB 0 (Z2O [1,1,1] Q)))))
theorem Zxb(e:Edit)(x6 ab s d:Int)(N0:NT)(Q:QT)(h:(iB (decide ((1048576:Int) < s)) (((InR (x6+1))/\(N0 (Z2K e d 1048576 (x6+1))))) ((InR (x6+1))/\(N0 (Z2K e d s (x6+1)))))):
  Z6f [1,1,0,1,0,0,1,0,0,1,1,1,1,1,1] (Z9N e x6 ab s d) (xB 1 (Z2O [1,1,0,1,0,0,1,1] (xT N0 (xB 0 (Z2O [1,1,1] Q))))):=
 Eq.mpr V6 h
def ZEL(e:Edit):Prop:=AW (Z3 Zqg) Tryz.f102 ZsH [] (Zm (Zu2.can (e,())) []) (EQ Tryz.f102 (Zpq (e,())) [])
theorem ZCA(hb:∀ (e:Edit) (_:Unit),ZhB (e,())->ZEL e):CT 102 Z3l:=
 Z9 (l:=[]) Zo rfl trivial ZsH Tryz.func102 rfl rfl 1 (fun _=> rfl) V3 (fun ⟨e,_⟩=> hb e ())
def Zqc(N:Nat):List (FuncId × Fs U):=(91,fs ZqN (fun a=> [Zhn a,ZnP a < N]) ZrO) ::[(80,Z7t)]
def ZCC:Zj U:=lvl [([1,2,3],[3]),([1,2,3],[3]),([1,2,3,25],[3]),([6],[]),([1,2,3],[3]),([1,2,3,31],[3]),([1,2,3,31],[3]),([1,2,3,7],[3]),([1,2,3,7,44],[3]),([1,2,3,7],[3]),([1,2,3,7],[3]),([1,2,3,8],[3]),([1,2,3,8,65],[3]),([1,2,3,8],[3]),([1,2,3,8,9],[3]),([1,2,3,8,9,80],[3]),([1,2,3,8,9],[3]),([1,2,3,8,9],[3]),([1,2,3,8,95],[3]),([1,2,3,8],[3]),([6],[])]
def ZcE(e:Edit)(d n h:Int):LSt U:=(L2 [pI 1 d,pI 2 h,pL 3,(31,.c (.bool (decide ((0:Int)<=(ZT (Tree.mk e.old.kind e.old.words e.old.kids) 80 ((((((n:Int) - 1):Int) - (e.words.length:Int)):Int) - (e.ops.length:Int)))))))] [(.loc 3,(enc .edit e))])
def ZcD(e:Edit)(d n h s:Int):LSt U:=(L2 [pI 1 d,pI 2 h,pL 3,pI 7 s] [(.loc 3,(enc .edit e))])
def Z8d(e:Edit)(d n s h:Int):LSt U:=(L2 [pI 1 d,pI 2 s,pL 3,pI 8 h] [(.loc 3,(enc .edit e))])
def ZcC(e:Edit)(d n h aa s:Int):LSt U:=(L2 [pI 1 d,pI 2 aa,pL 3,pI 8 h,pI 9 s] [(.loc 3,(enc .edit e))])
abbrev A91(N:Nat)(p:List Nat):=AW (Z3 (Zqc N)) Tryz.f91 ZCC p
abbrev S91(N:Nat)(p:List Nat):=SW (Z3 (Zqc N)) Tryz.f91 ZCC p
theorem ZKI(N:Nat)(e:Edit)(d n:Int)(Q:QT)(h:∀ ab,ab=(e.new)->∀ aa,aa=(e.old)->∀ s,s=(ZT aa 80 (((((n - 1):Int) - (e.words.length:Int)):Int) - (e.ops.length:Int)))->((InR (n - 1))/\(InR (((n - 1):Int) - (e.words.length:Int)))/\(InR (((((n - 1):Int) - (e.words.length:Int)):Int) - (e.ops.length:Int)))/\((Tt (!(d==0)))/\((d==0)=false->(!(d==0))=true)/\(iB (bif (d==0) then true else (decide (((((((n - 1):Int) - (e.words.length:Int)):Int) - (e.ops.length:Int)):Int) < 0))) ((Q .ret (L2 [pI 6 (-1)] []))) ((Zc0 (aa,80,(((((n - 1):Int) - (e.words.length:Int)):Int) - (e.ops.length:Int)),()))/\(iB (decide ((0:Int)<=s)) ((Zc0 (ab,80,s,()))/\(A91 N [1,1,1,1,1] (ZcE e d n (ZT ab 80 s)) Q)) (A91 N [1,1,1,1,1] (ZcE e d n s) Q))))))):
  A91 N [] (L2 [(0,.agg (enc .edit e)),pI 1 d,pI 2 n] []) Q:=
 Eq.mpr V6 (h _ (Zc _) _ (Zc _) _ rfl)
abbrev ZHR(N:Nat)(e:Edit)(d n h:Int)(Q:QT):Prop:=A91 N [1,1,1,1,1] (ZcE e d n h) Q
theorem ZB4(N:Nat)(e:Edit)(d n s:Int)(Q:QT)(h:(Zi (A91 N [1,1,1,1,1,0,1,0,0]) (ZcD e d n s 0) (xB 0 (S91 N [1,1,1,1,1,1] Q)))):
  A91 N [1,1,1,1,1] (ZcE e d n s) Q:=
 Eq.mpr V6 h
theorem ZB3(N:Nat)(e:Edit)(d n aa s:Int)(N1:NT)(Q:QT)(h:∀ ae,ae=(e.kids.getD s.toNat (KidOf.mk 0 Edit.nil))->∀ ab,ab=(ae.e)->let z0:=decide (s < (e.kids.length:Int));(Tt z0)/\(Tt z0)/\(iB (bif z0 then (decide ((0:Int)<=aa)) else false) (((0:Int)<=s/\s < (e.kids.length:Int))/\(InR (d - 1))/\(Zhn (ab,(d - 1),aa,()))/\(ZnP (ab,(d - 1),aa,()) < N)/\((InR (s+1))/\(N1 (ZcD e d n (Z2g ab (d - 1) aa) (s+1))))) ((Zi (A91 N [1,1,1,1,1,1,0,1,0,0]) (Z8d e d n aa 0) (xB 2 (S91 N [1,1,1,1,1,1,1] Q)))))):
  A91 N [1,1,1,1,1,0,1,0,0] (ZcD e d n aa s) (xT N1 (xB 0 (S91 N [1,1,1,1,1,1] Q))):=
 Eq.mpr V6 (h _ rfl _ (Z5 _))
theorem ZB2(N:Nat)(e:Edit)(d n s aa:Int)(N2:NT)(Q:QT)(h:let z0:=decide (aa < (e.ops.length:Int));(Tt z0)/\(Tt z0)/\(iB (bif z0 then (decide ((0:Int)<=s)) else false) ((Zi (A91 N [1,1,1,1,1,1,0,1,0,0,1,0,0,0,1,0,0]) (ZcC e d n aa s 0) (xB 4 (S91 N [1,1,1,1,1,1,0,1,0,0,1,0,0,1] (xB 3 (S91 N [1,1,1,1,1,1,0,1,0,0,1,1] (xT N2 (xB 2 (S91 N [1,1,1,1,1,1,1] Q))))))))) ((Q .ret (L2 [pI 6 s] []))))):
  A91 N [1,1,1,1,1,1,0,1,0,0] (Z8d e d n s aa) (xT N2 (xB 2 (S91 N [1,1,1,1,1,1,1] Q))):=
 Eq.mpr V6 h
theorem ZB1(N:Nat)(e:Edit)(d n s aa ab:Int)(N3 N2:NT)(Q:QT)(h:∀ ae,ae=(e.ops.getD s.toNat Op.nil)->∀ af,af=(ae.e)->∀ ah,ah=(ae.l.getD ab.toNat Tree.nil)->let z0:=decide (ab < (ae.l.length:Int));((0:Int)<=s/\s < (e.ops.length:Int))/\(Tt z0)/\(Tt z0)/\(iB (bif z0 then (decide ((0:Int)<=aa)) else false) (((0:Int)<=s/\s < (e.ops.length:Int))/\((0:Int)<=ab/\ab < (ae.l.length:Int))/\(Zc0 (ah,80,aa,()))/\((InR (ab+1))/\(N3 (ZcC e d n s (ZT ah 80 aa) (ab+1))))) ((iB (decide ((0:Int)<=aa)) (((0:Int)<=s/\s < (e.ops.length:Int))/\(InR (d - 1))/\(Zhn (af,(d - 1),aa,()))/\(ZnP (af,(d - 1),aa,()) < N)/\((InR (s+1))/\(N2 (Z8d e d n (Z2g af (d - 1) aa) (s+1))))) ((InR (s+1))/\(N2 (Z8d e d n aa (s+1)))))))):
  A91 N [1,1,1,1,1,1,0,1,0,0,1,0,0,0,1,0,0] (ZcC e d n s aa ab) (xT N3 (xB 4 (S91 N [1,1,1,1,1,1,0,1,0,0,1,0,0,1] (xB 3 (S91 N [1,1,1,1,1,1,0,1,0,0,1,1] (xT N2 (xB 2 (S91 N [1,1,1,1,1,1,1] Q)))))))):=
 Eq.mpr V6 (h _ rfl _ (Z5 _) _ (Zc _))
def ZI1(N:Nat)(e:Edit)(d n:Int):Prop:=AW (Z3 (Zqc N)) Tryz.f91 ZCC [] (Zm (ZqN.can (e,d,n,())) []) (EQ Tryz.f91 (ZrO (e,d,n,())) [])
theorem ZGb(c80:CT 80 Z7t)(hb:∀ (N:Nat) (e:Edit) (d:Int) (n:Int) (_:Unit),Zhn (e,d,n,())->ZnP (e,d,n,()) < N+1->ZI1 N e d n):CT 91 ZgB:=
 YX (μ:=ZnP) (l:=[(80,Z7t)]) Zo rfl (⟨c80,trivial⟩) ZCC Tryz.func91 rfl rfl 3 (fun _=> rfl) V3 (fun N ⟨e,d,n,_⟩=> hb N e d n ())
def ZzG:List (FuncId × Fs U):=[(91,ZgB)]
abbrev A45(p:List Nat):=AW (Z3 ZzG) Tryz.f45 ZGI p
theorem ZKZ(e:Edit)(Q:QT)(h:let z0:=Edit.mk e.kind (Tree.mk e.old.kind e.old.words e.old.kids) (Tree.mk e.new.kind e.new.words e.new.kids) e.words e.kids e.list e.ops;((Zhn (z0,80,3000,()))/\(Q .ret (L2 [(2,.c (.bool (decide ((0:Int)<=(Z2g z0 80 3000)))))] [])))):
  A45 [] (L2 [(0,.agg (enc .edit e))] []) Q:=
 Eq.mpr V6 h
def ZIi(e:Edit):Prop:=AW (Z3 ZzG) Tryz.f45 ZGI [] (Zm (Zu2.can (e,())) []) (EQ Tryz.f45 (ZEV (e,())) [])
theorem ZGn(c91:CT 91 ZgB)(hb:∀ (e:Edit) (_:Unit),Zyo (e,())->ZIi e):CT 45 ZgM:=
 Z9 (l:=[(91,ZgB)]) Zo rfl (⟨c91,trivial⟩) ZGI Tryz.func45 rfl rfl 1 (fun _=> rfl) V3 (fun ⟨e,_⟩=> hb e ())
end
noncomputable section
def Zmm:ArgL (Edit × Int × Unit):=(.cons (aEl .edit) (.cons (Z0h .i64) .nil))
def ZeZ(a:Edit × Int × Unit):Prop:=(Z0 a.1<=20000000000/\ZX a.1)/\0<=a.2.1/\a.2.1<=1000
def ZlA(a:Edit × Int × Unit):Nat:=2*Z0 a.1
def ZrR(a:Edit × Int × Unit):V U:= .c (.bool (Z1 a.1 a.2.1))
def ZgL:Fs U:=fs Zmm (fun a=> [ZeZ a]) ZrR
def Zgf:ArgL (Int × Op × Int × Unit):=(.cons (Z0h .i64) (.cons (aEl .op) (.cons (Z0h .i64) .nil)))
def ZdU(a:Int × Op × Int × Unit):Prop:=(Zs a.2.1<=20000000000/\YH a.2.1/\InR a.1)/\0<=a.2.2.1/\a.2.2.1<=1000
def ZjY(a:Int × Op × Int × Unit):Nat:=2*Zs a.2.1+1
def Zli(a:Int × Op × Int × Unit):V U:= .c (.bool (Za a.1 a.2.1 a.2.2.1))
def Zry:Fs U:=fs Zgf (fun a=> [ZdU a]) Zli
def Zhp(a:Edit × Unit):Prop:=(Z0 a.1<=20000000000/\ZX a.1)/\∃ d,Z1 a.1 d=true
def ZnQ(a:Edit × Unit):Nat:=Z0 a.1
def ZxH(a:Edit × Unit):V U:= .c (.bool (Jz a.1))
def ZgK:Fs U:=fs Zu2 (fun a=> [Zhp a]) ZxH
def ZjP(a:Edit × Unit):Prop:=Z2w a.1/\ZX a.1
def ZEZ(a:Edit × Unit):V U:= .c (.bool (Z0y a.1))
def ZgT:Fs U:=fs Zu2 (fun a=> [ZjP a]) ZEZ
def Zql(N:Nat):List (FuncId × Fs U):=(64,fs Zmm (fun a=> [ZeZ a,ZlA a < N]) ZrR) ::(101,fs Zgf (fun a=> [ZdU a,ZjY a < N]) Zli) ::[(99,Z6m),(100,Z8M),(137,Z8I),(31,Z6o),(102,Z3l)]
def ZCL:Zj U:=lvl [([1,2],[2]),([1,2,24],[2]),([4],[]),([1,2,69],[2]),([4],[]),([1,2,72],[2]),([4],[]),([1,2,5],[2]),([1,2,5,6],[2]),([1,2,5,6,97],[2]),([1,2,5,6],[2]),([1,2,5,6,7],[2,7]),([1,2,6,7,134],[2,7]),([4],[]),([1,2,5,6],[2]),([1,2,5],[2]),([1,2,5,8],[2]),([1,2,5,8,141],[2]),([1,2,5,8],[2]),([1,2,5,8,9],[2,9]),([1,2,8,9,171],[2,9]),([4],[]),([1,2,5,8],[2]),([1,2,186],[2]),([4],[]),([1,2,10],[2]),([1,2,10,191],[2]),([1,2,10],[2]),([1,2,10,204],[2]),([4],[]),([11,12],[]),([4],[])]
def ZcV(e:Edit)(d s h:Int):LSt U:=(L2 [pI 1 d,pL 2,pI 5 s,pI 6 h] [(.loc 2,(enc .edit e))])
def ZcU(e:Edit)(d s h:Int):LSt U:=(L2 [pI 1 d,pL 2,pI 5 s,pI 8 h] [(.loc 2,(enc .edit e))])
def ZcT(e:Edit)(d h:Int):LSt U:=(L2 [pI 1 d,pL 2,pI 10 h] [(.loc 2,(enc .edit e))])
abbrev A64(N:Nat)(p:List Nat):=AW (Z3 (Zql N)) Tryz.f64 ZCL p
abbrev S64(N:Nat)(p:List Nat):=SW (Z3 (Zql N)) Tryz.f64 ZCL p
theorem ZKY(N:Nat)(e:Edit)(d:Int)(Q:QT)(h:∀ aa,aa=(e.new)->∀ s,s=(e.old)->let z9:=(Q .ret (L2 [pB 4 false] []));let z7:=(e.kind !=1) && (Z0r s);let z4:=bif (d==0) then true else (decide (e.kind < 0));let z2:=bif (Zr s 64) then (Zr aa 64) else false;let z6:=bif z2 then (e.old.kind !=10) else false;let z1:=bif (e.kind !=1) then (!(bif (Z0r s) then (Z0r aa) else false)) else false;let z5:=(!z1) && (e.kind !=2);let z0:=bif z1 then true else (bif (e.kind !=2) then (decide ((0:Int) < (((e.words.length:Int):Int)+(e.kids.length:Int)))) else false);let z3:=(!z0) && (e.kind !=3);let z8:=z3 && (!(e.list !=0));((Tt (!(d==0)))/\(Tt (!(d==0)))/\((d==0)=false->(!(d==0))=true)/\(Tt (!z4))/\(Tt (!z4))/\(z4=false->(!z4)=true)/\(iB (bif z4 then true else (decide ((3:Int) < e.kind))) z9 ((Tt (e.kind !=1))/\(Tt (e.kind !=1))/\((e.kind !=1)=true->Z7I (s,()))/\(Tt (e.kind !=1))/\(Tt z7)/\(Tt z7)/\(z7=true->Z7I (aa,()))/\((e.kind !=1)=true->(True->(e.kind !=1)=true))/\((e.kind !=1)=true->((Z0r s)=true->z7=true))/\(Tt (e.kind !=1))/\(Tt (e.kind !=1))/\(Tt (!z1))/\(Tt (!z1))/\(Tt (!z1))/\(Tt z5)/\(Tt z5)/\(Tt z5)/\(Tt z5)/\(Tt z5)/\(Tt z5)/\(z5=true->InR (((e.words.length:Int):Int)+(e.kids.length:Int)))/\(Tt z5)/\((!z1)=true->(True->(!z1)=true))/\((!z1)=true->((e.kind !=2)=true->z5=true))/\(z1=false->(!z1)=true)/\(Tt (!z0))/\(Tt (!z0))/\(Tt (!z0))/\(Tt z3)/\(Tt z3)/\(Tt z3)/\(Tt z8)/\(Tt z8)/\(Tt z8)/\(z3=true->(True->z3=true))/\(z3=true->((e.list !=0)=false->z8=true))/\((!z0)=true->(True->(!z0)=true))/\((!z0)=true->((e.kind !=3)=true->z3=true))/\(z0=false->(!z0)=true)/\(iB (bif z0 then true else (bif (e.kind !=3) then (bif (e.list !=0) then true else (decide ((0:Int) < (e.ops.length:Int)))) else false)) z9 ((iB (e.kind==1) ((Z7J (s,64,()))/\(Tt (Zr s 64))/\(Tt (Zr s 64))/\((Zr s 64)=true->Z7J (aa,64,()))/\(Tt (Zr s 64))/\(Tt z2)/\(Tt z2)/\(Tt z2)/\(Tt z2)/\(Tt z6)/\(Tt z6)/\(Tt z6)/\(Tt z6)/\(Q .ret (L2 [(4,.c (.bool (bif z6 then (e.new.kind !=10) else false)))] []))) ((Zi (A64 N [1,1,1,1,1,0,1,0,0]) (ZcV e d (-1) 0) (xB 0 (S64 N [1,1,1,1,1,1] Q))))))))))):
  A64 N [] (L2 [(0,.agg (enc .edit e)),pI 1 d] []) Q:=
 Eq.mpr V6 (h _ (Zc _) _ (Zc _))
theorem ZBn(N:Nat)(e:Edit)(d x5 x6:Int)(N0:NT)(Q:QT)(h:∀ s,s=(e.words.getD x6.toNat (WEdit.mk 0 0 0 0))->let z3:=decide (s.at_<=x5);let z2:=bif z3 then true else (decide ((65534:Int) < s.at_));let z0:=bif z2 then true else (s.mask==0);let z1:=bif z0 then true else (!(Ya s.old s.mask));(iB (decide (x6 < (e.words.length:Int))) (((0:Int)<=x6/\x6 < (e.words.length:Int))/\((Tt (!z3))/\(Tt (!z3))/\(z3=false->(!z3)=true)/\(Tt (!z2))/\(Tt (!z2))/\(z2=false->(!z2)=true)/\(Tt (!z0))/\(Tt (!z0))/\(Tt (!z0))/\(Tt (!z0))/\((!z0)=true->Zlt (s.old,s.mask,()))/\(Tt (!z0))/\(z0=false->(!z0)=true)/\(Tt (!z1))/\(Tt (!z1))/\(Tt (!z1))/\(Tt (!z1))/\((!z1)=true->Zlt (s.new,s.mask,()))/\(Tt (!z1))/\(z1=false->(!z1)=true)/\(iB (bif z1 then true else (!(Ya s.new s.mask))) ((Q .ret (L2 [pB 4 false] []))) (((InR (x6+1))/\(N0 (ZcV e d s.at_ (x6+1)))))))) ((Zi (A64 N [1,1,1,1,1,1,1,0,1,0,0]) (ZcU e d (-1) 0) (xB 2 (S64 N [1,1,1,1,1,1,1,1] Q)))))):
  A64 N [1,1,1,1,1,0,1,0,0] (ZcV e d x5 x6) (xT N0 (xB 0 (S64 N [1,1,1,1,1,1] Q))):=
 Eq.mpr V6 (h _ rfl)
theorem ZBm(N:Nat)(e:Edit)(d ae s:Int)(N1:NT)(Q:QT)(h:∀ aa,aa=(e.kids.getD s.toNat (KidOf.mk 0 Edit.nil))->∀ ab,ab=(aa.e)->let z5:=(Q .ret (L2 [pB 4 false] []));let z4:=decide (e.list < 2);let z3:=(e.kind==3) && (!z4);let z2:=decide (aa.at_<=ae);let z0:=bif z2 then true else (decide ((65534:Int) < aa.at_));let z1:=bif z0 then true else (aa.e.kind==0);(iB (decide (s < (e.kids.length:Int))) (((0:Int)<=s/\s < (e.kids.length:Int))/\((Tt (!z2))/\(Tt (!z2))/\(z2=false->(!z2)=true)/\(Tt (!z0))/\(Tt (!z0))/\(Tt (!z0))/\(z0=false->(!z0)=true)/\(Tt (!z1))/\(Tt (!z1))/\((!z1)=true->InR (d - 1))/\(Tt (!z1))/\(Tt (!z1))/\((!z1)=true->ZeZ (ab,(d - 1),()))/\((!z1)=true->ZlA (ab,(d - 1),()) < N)/\(Tt (!z1))/\(z1=false->(!z1)=true)/\(iB (bif z1 then true else (!(Z1 ab (d - 1)))) z5 (((InR (s+1))/\(N1 (ZcU e d aa.at_ (s+1)))))))) ((Tt (e.kind==3))/\(Tt (e.kind==3))/\(Tt (e.kind==3))/\(Tt z3)/\(Tt z3)/\((e.kind==3)=true->(True->(e.kind==3)=true))/\((e.kind==3)=true->(z4=false->z3=true))/\(Tt (e.kind==3))/\(iB (bif (e.kind==3) then (bif z4 then true else (decide ((9:Int) < e.list))) else false) z5 ((Zi (A64 N [1,1,1,1,1,1,1,1,1,0,1,0,0]) (ZcT e d 0) (xB 4 (S64 N [1,1,1,1,1,1,1,1,1,1] Q)))))))):
  A64 N [1,1,1,1,1,1,1,0,1,0,0] (ZcU e d ae s) (xT N1 (xB 2 (S64 N [1,1,1,1,1,1,1,1] Q))):=
 Eq.mpr V6 (h _ rfl _ (Z5 _))
theorem ZBl(N:Nat)(e:Edit)(d s:Int)(N2:NT)(Q:QT)(h:∀ aa,aa=e->∀ ae,ae=(e.ops.getD s.toNat Op.nil)->∀ ab,ab=ae->let z0:=decide (((Jp aa.ops 0):Int) < 1048576);(iB (decide (s < (e.ops.length:Int))) (((0:Int)<=s/\s < (e.ops.length:Int))/\(InR (d - 1))/\(ZdU (e.list,ab,(d - 1),()))/\(ZjY (e.list,ab,(d - 1),()) < N)/\(iB (!(Za e.list ab (d - 1))) ((Q .ret (L2 [pB 4 false] []))) ((InR (s+1))/\(N2 (ZcT e d (s+1)))))) ((ZhB (aa,()))/\((Tt z0)/\(Tt z0)/\(Q .ret (L2 [(4,.c (.bool (bif z0 then (decide (((Z11 aa.ops 0):Int) < 1048576)) else false)))] [])))))):
  A64 N [1,1,1,1,1,1,1,1,1,0,1,0,0] (ZcT e d s) (xT N2 (xB 4 (S64 N [1,1,1,1,1,1,1,1,1,1] Q))):=
 Eq.mpr V6 (h _ (Z5 _) _ rfl _ (Jt _))
def ZIh(N:Nat)(e:Edit)(d:Int):Prop:=AW (Z3 (Zql N)) Tryz.f64 ZCL [] (Zm (Zmm.can (e,d,())) []) (EQ Tryz.f64 (ZrR (e,d,())) [])
abbrev ZKD:Prop:=∀ (N:Nat) (e:Edit) (d:Int) (_:Unit),ZeZ (e,d,())->ZlA (e,d,()) < N+1->ZIh N e d
def ZsI:Zj U:=lvl [([0,2,4],[4]),([0,2,4,10],[4]),([6],[]),([0,2,4,42],[4]),([6],[]),([0,2,4,45],[4]),([0,4,7],[4]),([0,4,7,50],[4]),([0,4,7],[4]),([0,4,7,62],[4]),([6],[]),([6],[]),([0,4,92],[4]),([6],[]),([6],[])]
def Z9R(list:Int)(o:Op)(d h:Int):LSt U:=(L2 [pI 0 list,pL 4,pI 7 h] [(.loc 4,(enc .op o))])
abbrev ZIK(N:Nat)(p:List Nat):=AW (Z3 (Zql N)) Tryz.f101 ZsI p
abbrev ZDF(N:Nat)(p:List Nat):=SW (Z3 (Zql N)) Tryz.f101 ZsI p
theorem ZJU(N:Nat)(list:Int)(o:Op)(d:Int)(Q:QT)(h:∀ s,s=(o.e)->let z10:=(Q .ret (L2 [pB 6 false] []));let z9:=decide ((1:Int)<=o.n);let z6:=bif (o.n !=0) then true else (decide (o.kind < 0));let z4:=decide ((0:Int) < (o.l.length:Int));let z7:=bif z4 then true else (o.e.kind==0);let z3:=bif (o.e.kind==1) then (o.e.old.kind==1) else false;let z2:=bif z9 then (decide (o.n<=1048576)) else false;let z5:=bif z2 then (((o.l.length:Int):Int)==0) else false;let z1:=bif z7 then true else (decide (list<=7));let z0:=bif (list==8) then true else (o.e.kind==2);let z8:=(!z0) && (o.e.kind==1);(iB (o.kind==0) ((Tt z9)/\(Tt z9)/\(Tt z9)/\(Tt z2)/\(Tt z2)/\(Tt z2)/\(Tt z2)/\(Tt z5)/\(Tt z5)/\(z5=true->ZaR (s,()))/\(Tt z5)/\(Q .ret (L2 [(6,.c (.bool (bif z5 then (Z36 s) else false)))] []))) ((Tt (!(o.n !=0)))/\(Tt (!(o.n !=0)))/\((o.n !=0)=false->(!(o.n !=0))=true)/\(Tt (!z6))/\(Tt (!z6))/\(z6=false->(!z6)=true)/\(iB (bif z6 then true else (decide ((3:Int) < o.kind))) z10 ((iB (decide (o.kind < 3)) ((Zi (ZIK N [1,1,1,0,1,0,0,1,0,0]) (Z9R list o d 0) (xB 0 (ZDF N [1,1,1,0,1,0,1] (ZDF N [1,1,1,1] Q))))) ((Tt (!z4))/\(Tt (!z4))/\(Tt (!z4))/\(z4=false->(!z4)=true)/\(Tt (!z7))/\(z7=false->(!z7)=true)/\(Tt (!z1))/\(Tt (!z1))/\(Tt (!z1))/\((!z1)=true->ZeZ (s,d,()))/\((!z1)=true->ZlA (s,d,()) < N)/\(Tt (!z1))/\(z1=false->(!z1)=true)/\(iB (bif z1 then true else (!(Z1 s d))) z10 ((Tt (!(list==8)))/\(Tt (!(list==8)))/\(Tt (!(list==8)))/\((list==8)=false->(!(list==8))=true)/\(Tt (!z0))/\(Tt (!z0))/\(Tt (!z0))/\(Tt (!z0))/\(Tt z8)/\(Tt z8)/\(Tt z8)/\(Tt z8)/\((!z0)=true->(True->(!z0)=true))/\((!z0)=true->((o.e.kind==1)=true->z8=true))/\(Tt (!z0))/\(Tt ((!z0) && z3))/\(Tt ((!z0) && z3))/\(Tt ((!z0) && z3))/\(Tt ((!z0) && z3))/\((!z0)=true->(True->(!z0)=true))/\((!z0)=true->(z3=true->((!z0) && z3)=true))/\(z0=false->(!z0)=true)/\(Q .ret (L2 [(6,.c (.bool (bif z0 then true else (bif z3 then (o.e.new.kind==1) else false))))] []))))))))))):
  ZIK N [] (L2 [pI 0 list,(1,.agg (enc .op o)),pI 2 d] []) Q:=
 Eq.mpr V6 (h _ (Z5 _))
theorem Zxf(N:Nat)(list:Int)(o:Op)(d s:Int)(N0:NT)(Q:QT)(h:let z2:=Tree.mk list [] (List.drop s.toNat (List.take (Int.toNat (s+1)) o.l));let z1:=Edit.mk o.e.kind (Tree.mk o.e.old.kind o.e.old.words o.e.old.kids) (Tree.mk o.e.new.kind o.e.new.words o.e.new.kids) o.e.words o.e.kids o.e.list o.e.ops;let z0:=decide ((0:Int) < (o.l.length:Int));(iB (decide (s < (o.l.length:Int))) ((InR (s+1))/\((0:Int)<=s/\s<=(s+1)/\(s+1)<=(o.l.length:Int))/\(Z7J (z2,64,()))/\(iB (!(Zr z2 64)) ((Q .ret (L2 [pB 6 false] []))) ((InR (s+1))/\(N0 (Z9R list o d (s+1)))))) ((Tt z0)/\(Tt z0)/\(z0=true->ZaR (z1,()))/\(Tt z0)/\(Q .ret (L2 [(6,.c (.bool (bif z0 then (Z36 z1) else false)))] []))))):
  ZIK N [1,1,1,0,1,0,0,1,0,0] (Z9R list o d s) (xT N0 (xB 0 (ZDF N [1,1,1,0,1,0,1] (ZDF N [1,1,1,1] Q)))):=
 Eq.mpr V6 h
def ZEM(N:Nat)(list:Int)(o:Op)(d:Int):Prop:=AW (Z3 (Zql N)) Tryz.f101 ZsI [] (Zm (Zgf.can (list,o,d,())) []) (EQ Tryz.f101 (Zli (list,o,d,())) [])
abbrev ZFK:Prop:=∀ (N:Nat) (list:Int) (o:Op) (d:Int) (_:Unit),ZdU (list,o,d,())->ZjY (list,o,d,()) < N+1->ZEM N list o d
def Zqk(N:Nat):List (FuncId × Fs U):=(65,fs Zu2 (fun a=> [Zhp a,ZnQ a < N]) ZxH) ::[(102,Z3l)]
def ZCK:Zj U:=lvl [([1],[1]),([1,3,4],[1]),([1,17],[1]),([2],[]),([1,5],[1]),([1,5,22],[1]),([1,5],[1]),([1,5,32],[1]),([2],[]),([1,6],[1]),([1,6,37],[1]),([1,6],[1]),([1,6,47],[1]),([2],[]),([2],[])]
def ZcS(e:Edit)(d:Int):LSt U:=(L2 [pL 1,pI 5 d] [(.loc 1,(enc .edit e))])
def ZcR(e:Edit)(d:Int):LSt U:=(L2 [pL 1,pI 6 d] [(.loc 1,(enc .edit e))])
abbrev A65(N:Nat)(p:List Nat):=AW (Z3 (Zqk N)) Tryz.f65 ZCK p
abbrev S65(N:Nat)(p:List Nat):=SW (Z3 (Zqk N)) Tryz.f65 ZCK p
theorem ZKX(N:Nat)(e:Edit)(Q:QT)(h:∀ d,d=e->let z0:=decide ((2000:Int) < (Jp d.ops 0));((ZhB (d,()))/\((Tt (!z0))/\(z0=false->(!z0)=true)/\(iB (bif z0 then true else (decide ((2000:Int) < (Z11 d.ops 0)))) ((Q .ret (L2 [pB 2 false] []))) ((Zi (A65 N [1,1,1,0,1,0,0]) (ZcS e 0) (xB 0 (S65 N [1,1,1,1] Q)))))))):
  A65 N [] (L2 [(0,.agg (enc .edit e))] []) Q:=
 Eq.mpr V6 (h _ (Z5 _))
theorem ZBk(N:Nat)(e:Edit)(s:Int)(N0:NT)(Q:QT)(h:∀ aa,aa=(e.kids.getD s.toNat (KidOf.mk 0 Edit.nil))->∀ d,d=(aa.e)->(iB (decide (s < (e.kids.length:Int))) (((0:Int)<=s/\s < (e.kids.length:Int))/\(Zhp (d,()))/\(ZnQ (d,()) < N)/\(iB (!(Jz d)) ((Q .ret (L2 [pB 2 false] []))) ((InR (s+1))/\(N0 (ZcS e (s+1)))))) ((Zi (A65 N [1,1,1,1,0,1,0,0]) (ZcR e 0) (xB 2 (S65 N [1,1,1,1,1] Q)))))):
  A65 N [1,1,1,0,1,0,0] (ZcS e s) (xT N0 (xB 0 (S65 N [1,1,1,1] Q))):=
 Eq.mpr V6 (h _ rfl _ (Z5 _))
theorem ZBj(N:Nat)(e:Edit)(d:Int)(N1:NT)(Q:QT)(h:∀ aa,aa=(e.ops.getD d.toNat Op.nil)->∀ s,s=(aa.e)->(iB (decide (d < (e.ops.length:Int))) (((0:Int)<=d/\d < (e.ops.length:Int))/\(Zhp (s,()))/\(ZnQ (s,()) < N)/\(iB (!(Jz s)) ((Q .ret (L2 [pB 2 false] []))) ((InR (d+1))/\(N1 (ZcR e (d+1)))))) ((Q .ret (L2 [pB 2 true] []))))):
  A65 N [1,1,1,1,0,1,0,0] (ZcR e d) (xT N1 (xB 2 (S65 N [1,1,1,1,1] Q))):=
 Eq.mpr V6 (h _ rfl _ (Z5 _))
def ZIg(N:Nat)(e:Edit):Prop:=AW (Z3 (Zqk N)) Tryz.f65 ZCK [] (Zm (Zu2.can (e,())) []) (EQ Tryz.f65 (ZxH (e,())) [])
theorem ZGm(ZvP:CT 102 Z3l)(hb:∀ (N:Nat) (e:Edit) (_:Unit),Zhp (e,())->ZnQ (e,()) < N+1->ZIg N e):CT 65 ZgK:=
 YX (μ:=ZnQ) (l:=[(102,Z3l)]) Zo rfl (⟨ZvP,trivial⟩) ZCK Tryz.func65 rfl rfl 1 (fun _=> rfl) V3 (fun N ⟨e,_⟩=> hb N e ())
def ZzN:List (FuncId × Fs U):=[(45,ZgM),(64,ZgL),(65,ZgK)]
abbrev A14(p:List Nat):=AW (Z3 ZzN) Tryz.f14 ZGI p
theorem ZLd(e:Edit)(Q:QT)(h:∀ d,d=e->let z1:=decide (0<=Z2g d 80 3000);let z0:=bif z1 then (Z1 d 64) else false;((Zyo (d,()))/\(Tt z1)/\(z1=true->ZeZ (d,64,()))/\(Tt z1)/\(Tt z0)/\(z0=true->Zhp (d,()))/\(Tt z0)/\(Q .ret (L2 [(2,.c (.bool (bif z0 then (Jz d) else false)))] [])))):
  A14 [] (L2 [(0,.agg (enc .edit e))] []) Q:=
 Eq.mpr V6 (h _ (Z5 _))
def ZIw(e:Edit):Prop:=AW (Z3 ZzN) Tryz.f14 ZGI [] (Zm (Zu2.can (e,())) []) (EQ Tryz.f14 (ZEZ (e,())) [])
theorem ZGA(c45:CT 45 ZgM)(c64:CT 64 ZgL)(c65:CT 65 ZgK)(hb:∀ (e:Edit) (_:Unit),ZjP (e,())->ZIw e):CT 14 ZgT:=
 Z9 (l:=[(45,ZgM),(64,ZgL),(65,ZgK)]) Zo rfl (⟨c45,c64,c65,trivial⟩) ZGI Tryz.func14 rfl rfl 1 (fun _=> rfl) V3 (fun ⟨e,_⟩=> hb e ())
theorem Zvb(c99:CT 99 Z6m)(ZHy:CT 100 Z8M)(ZHq:CT 137 Z8I)(c31:CT 31 Z6o)(ZvP:CT 102 Z3l)(ha:ZKD)(hb:ZFK):CT 64 ZgL/\CT 101 Zry:=
 Z1z (μA:=ZlA) (μB:=ZjY) (l:=[(99,Z6m),(100,Z8M),(137,Z8I),(31,Z6o),(102,Z3l)]) Zo rfl (⟨c99,ZHy,ZHq,c31,ZvP,trivial⟩) ZCL ZsI Tryz.func64 Tryz.func101 rfl rfl rfl rfl 2 3 (fun _=> rfl) (fun _=> rfl) V3 V3 (fun N ⟨e,d,_⟩=> ha N e d ()) (fun N ⟨list,o,d,_⟩=> hb N list o d ())
end
theorem Z7m{n:Int}(h0:0<=n)(h1:n < 18446744073709551616):IntKind.wrap .u64 n=n:=by
 simp [IntKind.wrap,IntKind.signed,IntKind.bits];omega
theorem Zbj{n:Int}(h0:0<=n)(h1:n < 256):IntKind.wrap .u8 n=n:=by
 simp [IntKind.wrap,IntKind.signed,IntKind.bits];omega
theorem Zmz{i:Int}{j:Nat}{v:Int}{F G:Nat->Int}(hi:0<=i)(hv:v=F i.toNat):YK i j v (if (j:Int) < i then F j else G j)=if (j:Int) < i+1 then F j else G j:=by
 unfold YK
 grind
theorem ZCY{i:Int}{j:Nat}{F G:Nat->Int}(h:F i.toNat=G i.toNat)(hi:0<=i):(if (j:Int) < i then F j else G j)=if (j:Int) < i+1 then F j else G j:=by
 grind
theorem Z1b(w:Int)(i:Nat):0<=Z4 w i/\Z4 w i < 256:=by
 unfold Z4
 omega
theorem Z8p{w:Int}(h:0<=w)(i:Nat):0<=w / 256 ^ i:=K7 h (XT (XX V1))
theorem Ziz{w:Int}(h:0<=w)(i:Nat):w / 256 ^ i<=w:=K5 _ h
theorem Zmc(w:Int)(i:Nat):w / 256 ^ i / 256=w / 256 ^ (i+1):=by
 rw [Int.ediv_ediv_of_nonneg (XT (XX V1)),K4]
theorem ZvI:Contract Tryz.prog cfg 186 Z4G:=by
 refine ZC9 ?_
 intro w _ d
 simp only [Z6O] at d
 refine ZJd _ _ ?_;(try simp only [iB,vcT,forall_eq])
 refine Z7 (ι:=Int) (fun i=> Z5X w (w / 256 ^ i.toNat) i (if ((0:Nat):Int) < i then Z4 w 0 else 0) (if ((1:Nat):Int) < i then Z4 w 1 else 0) (if ((2:Nat):Int) < i then Z4 w 2 else 0) (if ((3:Nat):Int) < i then Z4 w 3 else 0)
  (if ((4:Nat):Int) < i then Z4 w 4 else 0) (if ((5:Nat):Int) < i then Z4 w 5 else 0) (if ((6:Nat):Int) < i then Z4 w 6 else 0) (if ((7:Nat):Int) < i then Z4 w 7 else 0)) (fun i=> 0<=i/\i<=8) (fun i=> (8 - i).toNat) 0 ?_ ⟨V1,V1⟩ ?_
 .simp [Z5X]
 .rintro i ⟨s,h2⟩
  refine Zwr _ _ _ _ _ _ _ _ _ _ _ _ _ ?_;(try simp only [iB,vcT,forall_eq])
  (simp only [iB,vcS]);(try simp only [iB,vcT])
  refine ⟨fun hc=> ⟨V1,⟨s,V1⟩,V1,V5,i+1,?_,⟨V1,V1⟩,V1⟩,fun hc=> ?_⟩
  .have h:=Z8p d.1 i.toNat
   have hl:=Ziz d.1 i.toNat
   have e1:IntKind.wrap .u64 (Int.tdiv (w / 256 ^ i.toNat) 256)=w / 256 ^ (i+1).toNat:=by
    rw [XF h,Zmc,show i.toNat+1=(i+1).toNat by omega]
    exact Z7m (Z8p d.1 _) (Int.lt_of_le_of_lt (Ziz d.1 _) d.2)
   have e2:IntKind.wrap .u8 (Int.tmod (w / 256 ^ i.toNat) 256)=Z4 w i.toNat:=by
    rw [Int.tmod_eq_emod_of_nonneg h]
    exact Zbj (Z1b w _).1 (Z1b w _).2
   rw [e1]
   have st:∀ j:Nat,YK i j (IntKind.wrap .u8 (Int.tmod (w / 256 ^ i.toNat) 256)) (if (j:Int) < i then Z4 w j else 0)=if (j:Int) < i+1 then Z4 w j else 0:=fun j=> Zmz (F:=Z4 w) (G:=fun _=> 0) s e2
   grind
  .have:i=8:=V1
   subst this
   simp only [Zpl]
   exact ⟨⟨rfl,⟨⟨rfl,rfl⟩,⟨rfl,rfl⟩,⟨rfl,rfl⟩,⟨rfl,rfl⟩,⟨rfl,rfl⟩,⟨rfl,rfl⟩,⟨rfl,rfl⟩,⟨rfl,rfl⟩,trivial⟩,trivial⟩,trivial⟩
theorem ZvH:Contract Tryz.prog cfg 187 Z4F:=by
 refine ZC8 ?_
 intro m i _ d
 simp only [ZdO] at d
 refine ZJc _ _ _ ?_;(try simp only [iB,vcT,forall_eq])
 refine Z7 (ι:=Int) (fun k=> Z9n m i (m / 2 ^ k.toNat) k) (fun k=> 0<=k/\k<=i) (fun k=> (i - k).toNat) 0 ?_ ⟨V1,V1⟩ ?_
 .simp
 .rintro k ⟨h1,s⟩
  refine Zwq _ _ _ _ _ _ ?_;(try simp only [iB,vcT,forall_eq])
  have h:0<=m / 2 ^ k.toNat:=K7 d.1.1 (XT (XX V1))
  have hl:m / 2 ^ k.toNat<=m:=K5 _ d.1.1
  (simp only [iB,vcS])
  refine ⟨fun hc=> ⟨V1,V5,k+1,?_,⟨V1,V1⟩,V1⟩,fun hc=> ⟨V1,Zl rfl ?_⟩⟩
  .have e:IntKind.wrap .u8 (Int.tdiv (m / 2 ^ k.toNat) 2)=m / 2 ^ (k+1).toNat:=by
    rw [XF h,Int.ediv_ediv_of_nonneg (XT (XX V1)),show (2:Int) ^ k.toNat*2=2 ^ (k+1).toNat by rw [<-K4];congr 1;omega]
    refine Zbj (K7 d.1.1 (XT (XX V1))) (Int.lt_of_le_of_lt (K5 _ d.1.1) d.1.2)
   rw [e]
  .have:k=i:=V1
   subst this
   rw [Int.tmod_eq_emod_of_nonneg h]
   try rfl
def ZfI(f:Nat->Int):Nat->Int
 | 0=> 0
 | k+1=> f (7 - k)+256*ZfI f k
theorem Zgv{f:Nat->Int}(h:∀ i,0<=f i/\f i < 256):∀ k,0<=ZfI f k/\ZfI f k < 256 ^ k
 | 0=> by simp [ZfI]
 | k+1=> by
  have:=Zgv h k
  have d:=h (7 - k)
  simp only [ZfI,K4]
  omega
theorem ZFT(f:Nat->Int):ZfI f 8=of8 f:=by simp [ZfI,of8]
theorem ZvG:Contract Tryz.prog cfg 188 Z4E:=by
 refine ZC7 ?_
 intro b z _ d
 obtain ⟨rfl,hl,h⟩:=d
 dsimp only at hl h
 refine ZJb _ _ _ ?_;(try simp only [iB,vcT,forall_eq])
 have hf:∀ i,0<=b.getD i 0/\b.getD i 0 < 256:=by
  intro i
  by_cases hi:i < b.length
  .simp_all
  .grind
 refine Z7 (ι:=Int) (fun i=> Z9m b 0 (ZfI (fun i=> b.getD i 0) (7 - i).toNat) i) (fun i=> -1<=i/\i<=7) (fun i=> (i+1).toNat) 7 rfl ⟨V1,V1⟩ ?_
 rintro i ⟨h1,h2⟩
 refine Zwp _ _ _ _ _ _ ?_;(try simp only [iB,vcT,forall_eq])
 (simp only [iB,vcS]);(try simp only [iB,vcT])
 have hr:=Zgv (f:=fun i=> b.getD i 0) hf (7 - i).toNat
 refine ⟨fun hc=> ⟨V5,V1,V5,i - 1,?_,⟨V1,V1⟩,V1⟩,fun hc=> YW rfl ?_⟩
 .have aa:(256:Int) ^ (7 - i).toNat<=256 ^ 7:=by
   have:(256:Int) ^ (7 - i).toNat=((256 ^ (7 - i).toNat:Nat):Int):=by simp
   rw [this]
   have h7:(256:Nat) ^ (7 - i).toNat<=256 ^ 7:=Nat.pow_le_pow_right V1 V1
   have:((256:Nat) ^ 7:Nat)=72057594037927936:=V3
   omega
  have e7:(256:Int) ^ 7=72057594037927936:=V3
  have s:=hf i.toNat
  have e:ZfI (fun i=> b.getD i 0) (7 - (i - 1)).toNat=b.getD i.toNat 0+256*ZfI (fun i=> b.getD i 0) (7 - i).toNat:=by
   rw [show (7 - (i - 1)).toNat=(7 - i).toNat+1 by omega]
   simp only [ZfI]
   grind
  rw [e,show (0+i).toNat=i.toNat by omega,Z7m (n:=ZfI (fun i=> b.getD i 0) (7 - i).toNat*256) V1 V1,Z7m (n:=b.getD i.toNat 0) V1 V1,Z7m V1 V1]
  grind
 .have:i= -1:=V1
  subst this
  exact ZFT _
theorem Zti(f:Nat->Int){i:Nat}(h:i < 8):List.getD [f 0,f 1,f 2,f 3,f 4,f 5,f 6,f 7] i 0=f i:=by
 match i,h with
 | 0,_=> rfl
 | 1,_=> rfl
 | 2,_=> rfl
 | 3,_=> rfl
 | 4,_=> rfl
 | 5,_=> rfl
 | 6,_=> rfl
 | 7,_=> rfl
theorem Z80(a b m:Int)(i:Nat):0<=Jn a b m i/\Jn a b m i < 256:=by
 unfold Jn
 split
 .exact Z1b _ _
 .exact Z1b _ _
theorem ZvO:Contract Tryz.prog cfg 136 Z3k:=by
 refine ZCu ZvI ZvH ZvG ?_
 intro a b m _ d
 simp only [Z7Q] at d
 refine ZJF _ _ _ _ ?_;(try simp only [iB,vcT,forall_eq])
 refine ⟨d.1,d.2.1,?_⟩
 refine Z7 (ι:=Int) (fun i=> Z3V a b m i (if ((0:Nat):Int) < i then Jn a b m 0 else Z4 a 0) (if ((1:Nat):Int) < i then Jn a b m 1 else Z4 a 1) (if ((2:Nat):Int) < i then Jn a b m 2 else Z4 a 2) (if ((3:Nat):Int) < i then Jn a b m 3 else Z4 a 3)
  (if ((4:Nat):Int) < i then Jn a b m 4 else Z4 a 4) (if ((5:Nat):Int) < i then Jn a b m 5 else Z4 a 5) (if ((6:Nat):Int) < i then Jn a b m 6 else Z4 a 6) (if ((7:Nat):Int) < i then Jn a b m 7 else Z4 a 7)) (fun i=> 0<=i/\i<=8) (fun i=> (8 - i).toNat) 0 ?_ ⟨V1,V1⟩ ?_
 .simp [Z3V]
 .rintro i ⟨h,h2⟩
  refine ZwU _ _ _ _ _ _ _ _ _ _ _ _ _ _ ?_;(try simp only [iB,vcT,forall_eq])
  (simp only [iB,vcS]);(try simp only [iB,vcT])
  refine ⟨fun hc=> ⟨⟨d.2.2,h,V1⟩,fun s=> ⟨⟨h,V1⟩,⟨h,V1⟩,V5,i+1,?_,⟨V1,V1⟩,V1⟩,fun s=> ⟨V5,i+1,?_,⟨V1,V1⟩,V1⟩⟩,fun hc=> ?_⟩
  .rw [Zti (Z4 b) V1]
   have hv:Z4 b i.toNat=Jn a b m i.toNat:=by
    unfold Jn
    rw [show ((i.toNat:Nat):Int)=i by omega,s]
    try rfl
   have st:∀ j:Nat,YK i j (Z4 b i.toNat) (if (j:Int) < i then Jn a b m j else Z4 a j)=if (j:Int) < i+1 then Jn a b m j else Z4 a j:=fun j=> Zmz (F:=Jn a b m) (G:=Z4 a) h hv
   grind
  .have hv:Jn a b m i.toNat=Z4 a i.toNat:=by
    unfold Jn
    rw [show ((i.toNat:Nat):Int)=i by omega,s]
    try rfl
   grind
  .have:i=8:=V1
   subst this
   refine ⟨⟨rfl,rfl,?_⟩,YW rfl ?_⟩
   .intro x hx
    simp at hx
    rcases hx with rfl | rfl | rfl | rfl | rfl | rfl | rfl | rfl <;> exact Z80 _ _ _ _
   .try rfl
theorem Zvt{α:Type}{l:List α}{i:Nat}(h:i < l.length)(d:α):l.drop i=l.getD i d ::l.drop (i+1):=by
 simp_all
theorem ZS{α:Type}{l:List α}{i:Int}(h0:0<=i)(h:i < l.length)(d:α):l.drop i.toNat=l.getD i.toNat d ::l.drop (i+1).toNat:=by
 rw [Zvt V1 d,show i.toNat+1=(i+1).toNat by omega]
theorem Zh{α:Type}{l:List α}{i:Nat}(h:i < l.length)(d:α):l.getD i d∈l:=by
 grind
theorem Y9(t:Tree):1<=Zq t:=by cases t;simp only [Zq];omega
theorem Z95(e:Edit):1<=Z0 e:=by cases e;simp only [Z0];omega
theorem Z5Q(k:Kid):Yo k=Z0 k.e:=by cases k;rfl
theorem ZR(o:Op):Zs o=Ze o.l+Z0 o.e:=by cases o;rfl
theorem Jb:∀ {ks:List Tree} {t:Tree},t∈ks->Zq t<=Ze ks
 | x ::r,t,h=> by
  simp only [Ze]
  rcases Qa.1 h with rfl | h
  .omega
  .have:=Jb h;omega
theorem Ja:∀ {ks:List Kid} {k:Kid},k∈ks->Z0 k.e<=Zw ks
 | x ::r,k,h=> by
  simp only [Zw,Z5Q]
  rcases Qa.1 h with rfl | h
  .omega
  .have:=Ja h;omega
theorem ZW:∀ {os:List Op} {o:Op},o∈os->Zs o<=Zg os
 | x ::r,o,h=> by
  simp only [Zg]
  rcases Qa.1 h with rfl | h
  .omega
  .have:=ZW h;omega
theorem Ym:∀ (ks:List Kid),ks.length<=Zw ks
 | []=> by simp [Zw]
 | k ::r=> by
  have:=Ym r
  have:=Z95 k.e
  simp only [Zw,Z5Q,Q8]
  omega
theorem ZQ:∀ (os:List Op),os.length<=Zg os
 | []=> by simp [Zg]
 | o ::r=> by
  have:=ZQ r
  have:=Z95 o.e
  simp only [Zg,ZR,Q8]
  omega
theorem ZgV:∀ {ks:List Tree} {t:Tree},Z1H ks->t∈ks->Z0R t
 | x ::r,t,hs,h=> by
  simp only [Z1H] at hs
  rcases Qa.1 h with rfl | h
  .exact hs.1
  .exact ZgV hs.2 h
theorem ZeH:∀ {ks:List Kid} {k:Kid},Z6y ks->k∈ks->Z2w k.e
 | x ::r,k,hs,h=> by
  simp only [Z6y] at hs
  rcases Qa.1 h with rfl | h
  .have:=hs.1;obtain ⟨a,e⟩:=k;exact this
  .exact ZeH hs.2 h
theorem ZeG:∀ {os:List Op} {o:Op},Z6x os->o∈os->o.l.length<=17592186044416/\Z1H o.l/\Z2w o.e
 | x ::r,o,hs,h=> by
  simp only [Z6x] at hs
  rcases Qa.1 h with rfl | h
  .have:=hs.1;obtain ⟨a,b,c,e⟩:=o;exact this
  .exact ZeG hs.2 h
theorem Jl:∀ {ks:List Tree} {t:Tree},J6 ks->t∈ks->rng t
 | x ::r,t,hs,h=> by
  simp only [J6] at hs
  rcases Qa.1 h with rfl | h
  .exact hs.1
  .exact Jl hs.2 h
theorem YB:∀ {ks:List Kid} {k:Kid},Z1r ks->k∈ks->InR k.at_/\ZX k.e
 | x ::r,k,hs,h=> by
  simp only [Z1r] at hs
  rcases Qa.1 h with rfl | h
  .have:=hs.1;obtain ⟨a,e⟩:=k;exact this
  .exact YB hs.2 h
theorem JL:∀ {os:List Op} {o:Op},Z0D os->o∈os->YH o
 | x ::r,o,hs,h=> by
  simp only [Z0D] at hs
  rcases Qa.1 h with rfl | h
  .exact hs.1
  .exact JL hs.2 h
theorem Z0j{o:Op}(h:YH o):InR o.kind/\InR o.n/\J6 o.l/\ZX o.e:=by obtain ⟨a,b,c,e⟩:=o;exact h
theorem Zvf(k:Kid)(d n:Int):Z4Z k d n=Z2g k.e d n:=by cases k;rfl
theorem Zzw(o:Op)(d n:Int):Z87 o d n=if ZI o.l 80 n < 0 then ZI o.l 80 n else Z2g o.e d (ZI o.l 80 n):=by cases o;rfl
theorem Zdy(t:Tree)(n:Int)(h: -1<=n): -1<=sh1 t n/\sh1 t n<=n:=by
 unfold sh1
 split
 .omega
 .have:=JI t 80 n;omega
mutual
theorem Z2Z:∀ (e:Edit) (d n:Int),-1<=Z2g e d n/\Z2g e d n<=max n (-1)
 | .mk _ o nw w ks _ os,d,n=> by
  simp only [Z2g]
  split
  .omega
  .have h:=JI o 80 (n - 1 - w.length - os.length)
   have s:=Zdy nw _ h.1
   have h3:=Z3u ks (d - 1) _ s.1
   have h4:=Z3t os (d - 1) _ h3.1
   omega
theorem Z3u:∀ (ks:List (KidOf Edit)) (d n:Int),-1<=n->-1<=Z12 ks d n/\Z12 ks d n<=n
 | [],d,n,h=> by simp only [Z12];omega
 | k ::r,d,n,h=> by
  simp only [Z12]
  split
  .omega
  .have s:=Zah k d n
   have h2:=Z3u r d _ s.1
   omega
theorem Zah:∀ (k:KidOf Edit) (d n:Int),-1<=Z4Z k d n/\Z4Z k d n<=max n (-1)
 | ⟨_,e⟩,d,n=> by
  simp only [Z4Z]
  exact Z2Z e d n
theorem Z3t:∀ (os:List (OpOf Edit)) (d n:Int),-1<=n->-1<=Z1l os d n/\Z1l os d n<=n
 | [],d,n,h=> by simp only [Z1l];omega
 | o ::r,d,n,h=> by
  simp only [Z1l]
  split
  .omega
  .have s:=Zcz o d n h
   have h2:=Z3t r d _ s.1
   omega
theorem Zcz:∀ (o:OpOf Edit) (d n:Int),-1<=n->-1<=Z87 o d n/\Z87 o d n<=n
 | ⟨_,_,l,e⟩,d,n,h=> by
  simp only [Z87]
  have s:=Z28 l 80 n h
  split
  .omega
  .have h2:=Z2Z e d (ZI l 80 n)
   omega
end
theorem Zxv{t:Tree}{n:Int}(h:0<=sh1 t n):(Zq t:Int)+sh1 t n<=n:=by
 unfold sh1 at*
 split at h
 .omega
 .rename_i d
  rw [if_neg d]
  exact Z27 t 80 n h
mutual
theorem Zbb:∀ (e:Edit) (d n:Int),0<=Z2g e d n->(Z0 e:Int)+Z2g e d n<=n
 | .mk _ o nw w ks _ os,d,n,h=> by
  simp only [Z2g] at h ⊢
  split at h
  .omega
  .rename_i hc
   rw [if_neg hc]
   have r1:=JI o 80 (n - 1 - w.length - os.length)
   have r2:=Zdy nw _ r1.1
   have s:=Z3u ks (d - 1) _ r2.1
   have r4:=Z3t os (d - 1) _ s.1
   have m4:=Zfn os (d - 1) _ h
   have m3:=Zfo ks (d - 1) (sh1 nw (ZT o 80 (n - 1 - w.length - os.length))) V1
   have m2:=Zxv (t:=nw) (n:=ZT o 80 (n - 1 - w.length - os.length)) V1
   have m1:=Z27 o 80 (n - 1 - w.length - os.length) V1
   simp only [Z0]
   omega
theorem Zfo:∀ (ks:List (KidOf Edit)) (d n:Int),0<=Z12 ks d n->(Zw ks:Int)+Z12 ks d n<=n
 | [],d,n,h=> by simp only [Z12,Zw];omega
 | k ::r,d,n,h=> by
  simp only [Z12] at h ⊢
  split at h
  .omega
  .rename_i hc
   rw [if_neg hc]
   have s:=Zah k d n
   have r2:=Z3u r d _ s.1
   have m2:=Zfo r d _ h
   have m1:=ZlF k d n V1
   simp only [Zw]
   omega
theorem ZlF:∀ (k:KidOf Edit) (d n:Int),0<=Z4Z k d n->(Yo k:Int)+Z4Z k d n<=n
 | ⟨_,e⟩,d,n,h=> by
  simp only [Z4Z,Yo] at h ⊢
  exact Zbb e d n h
theorem Zfn:∀ (os:List (OpOf Edit)) (d n:Int),0<=Z1l os d n->(Zg os:Int)+Z1l os d n<=n
 | [],d,n,h=> by simp only [Z1l,Zg];omega
 | o ::r,d,n,h=> by
  simp only [Z1l] at h ⊢
  split at h
  .omega
  .rename_i hc
   rw [if_neg hc]
   have s:=Zcz o d n V1
   have r2:=Z3t r d _ s.1
   have m2:=Zfn r d _ h
   have m1:=Zoa o d n V1
   simp only [Zg]
   omega
theorem Zoa:∀ (o:OpOf Edit) (d n:Int),0<=Z87 o d n->(Zs o:Int)+Z87 o d n<=n
 | ⟨_,_,l,e⟩,d,n,h=> by
  simp only [Z87,Zs] at h ⊢
  split at h
  .omega
  .rename_i hc
   rw [if_neg hc]
   have s:=Zbb e d _ h
   have r2:=Z2Z e d (ZI l 80 n)
   have m1:=Z56 l 80 n V1
   omega
end
theorem Zep{e:Edit}(h:0<=Z2g e 80 3000):Z0 e<=3000:=by
 have:=Zbb e 80 3000 h
 omega
theorem Zzv(t:Tree):t.words.length+t.kids.length < Zq t:=by
 obtain ⟨k,w,ks⟩:=t
 have:=ZD ks
 simp only [Zq,Tree.words_mk,Tree.kids_mk]
 omega
theorem Yq(e:Edit):Zq e.old+Zq e.new+e.words.length+e.ops.length+Zw e.kids+Zg e.ops < Z0 e:=by
 obtain ⟨k,o,n,w,ks,l,os⟩:=e
 simp only [Z0,Edit.old_mk,Edit.new_mk,Edit.words_mk,Edit.ops_mk,Edit.kids_mk]
 omega
theorem c99:Contract Tryz.prog cfg 99 Z6m:=by
 refine ZGa ?_
 intro t _ d
 simp only [Z7I] at d
 have:=Zzv t
 refine ZKH t _ ?_;(try simp only [iB,vcT,forall_eq])
 refine ⟨fun _=> by unfold InR;omega,Zl rfl ?_⟩
 rw [QM]
 simp only [Z0r]
 grind
theorem ZHy:Contract Tryz.prog cfg 100 Z8M:=by
 refine ZCB ZvO ?_
 intro w m _ d
 refine ZJV _ _ _ ?_;(try simp only [iB,vcT,forall_eq])
 refine ⟨⟨d.1,by grind,d.2⟩,Zl rfl ?_⟩
 try rfl
theorem ZHq:Contract Tryz.prog cfg 137 Z8I:=by
 refine ZCt c99 ?_
 intro e _ d
 simp only [ZaR] at d
 have s:=Yq e
 have h:=Ym e.kids
 refine ZJE e _ ?_;(try simp only [iB,vcT,forall_eq])
 try (simp only [vE])
 refine ⟨fun _=> by simp only [Z7I];omega,fun _=> by simp only [Z7I];omega,fun _=> by unfold InR;omega,fun _=> by unfold InR;omega,Zl rfl ?_⟩
 rw [QM]
 simp only [Z36]
 grind
theorem ZGO (e:Edit) (x4 s i:Int) (N0:LSt U->Prop) (Q:AExit->LSt U->Prop) (h1:0<=x4/\x4<=1048576) (h2:0<=s/\s<=1048576) (hi:0<=i) (hlen:e.ops.length<=20000000000)
  (ho:∀ o∈e.ops,(0<=o.n/\o.n<=1048576)/\o.l.length<=20000000000)
  (h:i < e.ops.length->N0 (Z2K e (min (if (e.ops.getD i.toNat Op.nil).kind=2 then x4 else x4+Z2 (e.ops.getD i.toNat Op.nil)) 1048576) (min (if (e.ops.getD i.toNat Op.nil).kind=1 then s else s+Z2 (e.ops.getD i.toNat Op.nil)) 1048576) (i+1)))
  (h':¬i < e.ops.length->Q .ret (⟨[(2,.c (.int .i64 x4)),(3,.c (.int .i64 s))],[],[]⟩:LSt U)):ZDy e x4 s i N0 Q:=by
 refine Zxa _ _ _ _ _ _ ?_;(try simp only [iB,vcT,forall_eq])
 (simp only [iB,vcS]);(try simp only [iB,vcT])
 refine ⟨fun hc=> ?_,h'⟩
 have hn:=h hc
 have hm:=ho _ (Zh (l:=e.ops) (i:=i.toNat) V1 Op.nil)
 have k1:∀ k,k=Z2 (e.ops.getD i.toNat Op.nil)->ZDC e x4 s i k N0 Q:=by
  intro k hk
  have aq:0<=k/\k<=60000000000:=by
   rw [hk];unfold Z2;split <;> omega
  have k2:∀ y,y=(if (e.ops.getD i.toNat Op.nil).kind=2 then x4 else x4+k)->ZDB e s i k y N0 Q:=by
   intro y hy
   have ao:0<=y/\y<=100000000000:=by rw [hy];split <;> omega
   have k3:∀ z,z=(if (e.ops.getD i.toNat Op.nil).kind=1 then s else s+k)->ZDA e i k y z N0 Q:=by
    intro z hz
    have al:0<=z/\z<=100000000000:=by rw [hz];split <;> omega
    have k4:∀ u,u=min y 1048576->ZDz e i y z u N0 Q:=by
     intro u hu
     refine Zxb _ _ _ _ _ _ _ ?_;(try simp only [iB,vcT,forall_eq])
     (simp only [iB,vcS]);(try simp only [iB,vcT])
     rw [<-hk,<-hy,<-hz,<-hu] at hn
     refine ⟨fun d=> ⟨V5,?_⟩,fun d=> ⟨V5,?_⟩⟩
     .rw [show min z 1048576=1048576 by omega] at hn;exact hn
     .rw [show min z 1048576=z by omega] at hn;exact hn
    refine Zxc _ _ _ _ _ _ _ ?_;(try simp only [iB,vcT,forall_eq])
    (simp only [iB,vcS]);(try simp only [iB,vcT])
    exact ⟨fun d=> k4 _ V1,fun d=> k4 _ V1⟩
   refine Zxd _ _ _ _ _ _ _ ?_;(try simp only [iB,vcT,forall_eq])
   (simp only [iB,vcS]);(try simp only [iB,vcT])
   exact ⟨fun d=> ⟨V5,k3 _ (by rw [if_neg d])⟩,fun d=> k3 _ (by rw [if_pos d])⟩
  refine Zxe _ _ _ _ _ _ _ ?_;(try simp only [iB,vcT,forall_eq])
  (simp only [iB,vcS]);(try simp only [iB,vcT])
  exact ⟨fun d=> ⟨V5,k2 _ (by rw [if_neg d])⟩,fun d=> k2 _ (by rw [if_pos d])⟩
 exact ⟨⟨hi,hc⟩,V5,fun d=> k1 _ (by unfold Z2;rw [if_pos d]),fun d=> k1 _ (by unfold Z2;rw [if_neg d])⟩
theorem ZvP:Contract Tryz.prog cfg 102 Z3l:=by
 refine ZCA ?_
 intro e _ hp
 simp only [ZhB] at hp
 have h1:=Yq e
 refine ZJT e _ ?_;(try simp only [iB,vcT,forall_eq])
 refine Z7 (ι:=Int × Int × Int) (fun p=> Z2K e p.1 p.2.1 p.2.2) (fun p=> 0<=p.2.2/\p.2.2<=e.ops.length/\(0<=p.1/\p.1<=1048576)/\(0<=p.2.1/\p.2.1<=1048576)/\Jp (e.ops.drop p.2.2.toNat) p.1=Jp e.ops 0/\Z11 (e.ops.drop p.2.2.toNat) p.2.1=Z11 e.ops 0) (fun p=> ((e.ops.length:Int) - p.2.2).toNat) (0,0,0) rfl ⟨by grind,by grind,V1,by grind,by simp,by simp⟩ ?_
 rintro ⟨x4,x5,i⟩ ⟨h2,h3,h4,h5,d,h⟩
 dsimp only at*
 have ho:∀ o∈e.ops,(0<=o.n/\o.n<=1048576)/\o.l.length<=20000000000:=by
  intro o s
  refine ⟨hp.2 o s,?_⟩
  have a1:=ZW s
  have a2:=ZD o.l
  rw [ZR] at a1
  omega
 refine ZGO e x4 x5 i _ _ h4 h5 h2 V1 ho (fun hc=> ⟨(_,_,i+1),rfl,⟨by grind,by grind,?_,?_,?_,?_⟩,by grind⟩) (fun hc=> ?_)
 .have s:=ho _ (Zh (l:=e.ops) (i:=i.toNat) V1 Op.nil)
  dsimp only
  unfold Z2
  omega
 .have s:=ho _ (Zh (l:=e.ops) (i:=i.toNat) V1 Op.nil)
  dsimp only
  unfold Z2
  omega
 .rw [ZS h2 hc Op.nil] at d
  exact d
 .rw [ZS h2 hc Op.nil] at h
  exact h
 .rw [Q6 V1] at d h
  simp only [Jp,Z11] at d h
  simp only [Zpq,<-d,<-h]
  exact ⟨⟨rfl,⟨⟨rfl,rfl⟩,trivial⟩,rfl,⟨⟨rfl,rfl⟩,trivial⟩,trivial⟩,trivial⟩
theorem Zqa{l:List Kid}{d n:Int}(h:n < 0):Z12 l d n=n:=by cases l <;> simp [Z12,h]
theorem Zq9{l:List Op}{d n:Int}(h:n < 0):Z1l l d n=n:=by cases l <;> simp [Z1l,h]
theorem ZkS{l:List Tree}{d n:Int}(h:n < 0):ZI l d n=n:=by cases l <;> simp [ZI,h]
theorem Zuv{e:Edit}(h:Z2w e):Z0R e.old/\Z0R e.new/\e.words.length<=17592186044416/\e.kids.length<=17592186044416/\e.ops.length<=17592186044416/\Z6y e.kids/\Z6x e.ops:=by
 obtain ⟨k,o,n,w,ks,l,os⟩:=e;exact h
theorem Zzx(e:Edit)(d n:Int):Z2g e d n=if d=0\/n - 1 - e.words.length - e.ops.length < 0 then -1 else Z1l e.ops (d - 1) (Z12 e.kids (d - 1) (sh1 e.new (ZT e.old 80 (n - 1 - e.words.length - e.ops.length)))):=by
 obtain ⟨k,o,h,w,ks,l,os⟩:=e;rfl
theorem c91:Contract Tryz.prog cfg 91 ZgB:=by
 refine ZGb c80 ?_
 rintro N e d n _ hp hN
 simp only [Zhn,ZnP] at hp hN
 obtain ⟨hs,bc,a8,a7,bb⟩:=hp
 obtain ⟨so,sn,lw,lk,lo,sk,aq⟩:=Zuv hs
 have bi:=Yq e
 have s:=Zzx e d n
 refine ZKI N e d n _ ?_;(try simp only [iB,vcT,forall_eq])
 (simp only [iB,vcS]);(try simp only [iB,vcT])
 try (simp only [vE])
 refine ⟨V5,V5,V5,fun hc=> YW rfl (by rw [s,if_pos hc]),fun hc=> ?_⟩
 rw [Jv] at s
 have r1:=JI e.old 80 (n - 1 - e.words.length - e.ops.length)
 have ae:∀ t m,Z0R t->-1<=m->m<=4611686018427387904->Zc0 (t,80,m,()):=fun t m h1 h2 h3=> ⟨h1,V4,V4,h2,h3⟩
 have k0:∀ x,x=sh1 e.new (ZT e.old 80 (n - 1 - e.words.length - e.ops.length))->ZHR N e d n x (YZ cfg Tryz.f91.ntmps Tryz.f91.results.toList (ZrO (e,d,n,())) []):=by
  intro x hx
  have rx:=Zdy e.new _ r1.1
  rw [<-hx] at rx s
  refine ZB4 N e d n x _ ?_;(try simp only [iB,vcT,forall_eq])
  refine Z7 (ι:=Int × Int) (fun p=> ZcD e d n p.1 p.2) (fun p=> 0<=p.2/\p.2<=e.kids.length/\-1<=p.1/\p.1<=4611686018427387904/\Z12 (e.kids.drop p.2.toNat) (d - 1) p.1=Z12 e.kids (d - 1) x) (fun p=> ((e.kids.length:Int) - p.2).toNat) (x,0) rfl ⟨V4,V4,V4,V4,by simp⟩ ?_
  rintro ⟨y,i⟩ ⟨h1,h2,h3,h4,h5⟩
  dsimp only at*
  refine ZB3 N e d n y i _ _ ?_;(try simp only [iB,vcT,forall_eq])
  (simp only [iB,vcS]);(try simp only [iB,vcT])
  try (simp only [vE])
  refine ⟨fun hi=> ?_,fun hi=> ?_⟩
  .have aa:=Zh (l:=e.kids) (i:=i.toNat) V1 (KidOf.mk 0 Edit.nil)
   have ab:=ZeH sk aa
   have aj:=Ja aa
   rw [ZS h1 hi.1 (KidOf.mk 0 Edit.nil)] at h5
   simp only [Z12] at h5
   rw [Jv,Zvf] at h5
   have rr:=Z2Z (e.kids.getD i.toNat (KidOf.mk 0 Edit.nil)).e (d - 1) y
   exact ⟨⟨h1,hi.1⟩,V5,⟨ab,V4,V4,h3,h4⟩,by simp only [ZnP];omega,V5,(_,i+1),rfl,⟨V4,V4,V4,V4,h5⟩,V4⟩
  .have hy:Z12 e.kids (d - 1) x=y:=by
    rw [<-h5]
    by_cases hlt:i < e.kids.length
    .exact Zqa V1
    .rw [Q6 V1];try rfl
   rw [hy] at s
   refine Z7 (ι:=Int × Int) (fun p=> Z8d e d n p.1 p.2) (fun p=> 0<=p.2/\p.2<=e.ops.length/\-1<=p.1/\p.1<=4611686018427387904/\Z1l (e.ops.drop p.2.toNat) (d - 1) p.1=Z1l e.ops (d - 1) y) (fun p=> ((e.ops.length:Int) - p.2).toNat) (y,0) rfl ⟨V4,V4,h3,h4,by simp⟩ ?_
   rintro ⟨z,j⟩ ⟨h6,h7,h8,h9,h⟩
   dsimp only at*
   refine ZB2 N e d n z j _ _ ?_;(try simp only [iB,vcT,forall_eq])
   (simp only [iB,vcS]);(try simp only [iB,vcT])
   refine ⟨fun hj=> ?_,fun hj=> ?_⟩
   .have aa:=Zh (l:=e.ops) (i:=j.toNat) V1 Op.nil
    have ab:=ZeG aq aa
    have aj:=ZW aa
    rw [ZR] at aj
    rw [ZS h6 hj.1 Op.nil] at h
    simp only [Z1l] at h
    rw [Jv,Zzw] at h
    refine Z7 (ι:=Int × Int) (fun p=> ZcC e d n j p.1 p.2) (fun p=> 0<=p.2/\p.2<=(e.ops.getD j.toNat Op.nil).l.length/\-1<=p.1/\p.1<=4611686018427387904/\ZI ((e.ops.getD j.toNat Op.nil).l.drop p.2.toNat) 80 p.1=ZI (e.ops.getD j.toNat Op.nil).l 80 z) (fun p=> (((e.ops.getD j.toNat Op.nil).l.length:Int) - p.2).toNat) (z,0) rfl ⟨V4,V4,h8,h9,by simp⟩ ?_
    rintro ⟨u,k⟩ ⟨g1,g2,g3,g4,g5⟩
    dsimp only at*
    refine ZB1 N e d n j u k _ _ _ ?_;(try simp only [iB,vcT,forall_eq])
    (simp only [iB,vcS]);(try simp only [iB,vcT])
    try (simp only [vE])
    refine ⟨⟨h6,hj.1⟩,fun hk=> ?_,fun hk=> ?_⟩
    .have au:=Zh (l:=(e.ops.getD j.toNat Op.nil).l) (i:=k.toNat) V1 Tree.nil
     rw [ZS g1 hk.1 Tree.nil] at g5
     simp only [ZI] at g5
     rw [Jv] at g5
     have rr:=JI ((e.ops.getD j.toNat Op.nil).l.getD k.toNat Tree.nil) 80 u
     exact ⟨⟨h6,hj.1⟩,⟨g1,hk.1⟩,ae _ _ (ZgV ab.2.1 au) g3 g4,V5,(_,k+1),rfl,⟨V4,V4,V4,V4,g5⟩,V4⟩
    .have hu:ZI (e.ops.getD j.toNat Op.nil).l 80 z=u:=by
      rw [<-g5]
      by_cases hlt:k < (e.ops.getD j.toNat Op.nil).l.length
      .exact ZkS V1
      .rw [Q6 V1];try rfl
     rw [hu] at h
     have rr:=Z2Z (e.ops.getD j.toNat Op.nil).e (d - 1) u
     refine ⟨fun hq=> ⟨⟨h6,hj.1⟩,V5,⟨ab.2.2,V4,V4,g3,g4⟩,by simp only [ZnP];omega,V5,(_,j+1),rfl,⟨V4,V4,V4,V4,?_⟩,V4⟩,
      fun hq=> ⟨V5,(_,j+1),rfl,⟨V4,V4,V4,V4,?_⟩,V4⟩⟩
     .rw [Jv] at h;exact h
     .rw [V0] at h;exact h
   .refine YW rfl ?_
    rw [s,<-h]
    by_cases hlt:j < e.ops.length
    .exact (Zq9 V1).symm
    .rw [Q6 V1];try rfl
 refine ⟨ae _ _ so V1 V1,fun hq=> ⟨ae _ _ sn r1.1 V1,k0 _ ?_⟩,fun hq=> k0 _ ?_⟩
 .unfold sh1;rw [Jv]
 .unfold sh1;rw [V0]
theorem c45:Contract Tryz.prog cfg 45 ZgM:=by
 refine ZGn c91 ?_
 intro e _ d
 refine ZKZ e _ ?_;(try simp only [iB,vcT,forall_eq])
 try (simp only [vE])
 exact ⟨⟨d,by grind,by grind,by grind,by grind⟩,Zl rfl rfl⟩
theorem ZdC(e:Edit)(d:Int):Z1 e d=
  if d=0\/e.kind < 0\/3 < e.kind then false
  else if (e.kind≠1/\¬(Z0r e.old=true/\Z0r e.new=true))\/(e.kind≠2/\¬(e.words.length=0/\e.kids.length=0))\/(e.kind≠3/\(e.list≠0\/e.ops.length≠0)) then false
  else if e.kind=1 then Zr e.old (dT d) && Zr e.new (dT d) && decide (e.old.kind≠10/\e.new.kind≠10)
  else ZM (-1) e.words && ZC (-1) e.kids (d - 1) && decide (¬(e.kind=3/\(e.list < 2\/9 < e.list))) && ZA e.list e.ops (d - 1) && decide (Jp e.ops 0 < 1048576/\Z11 e.ops 0 < 1048576):=by
 obtain ⟨k,o,h,w,ks,l,os⟩:=e;rfl
theorem Z4P(last:Int)(k:Kid)(d:Int):JA last k d=(decide (last < k.at_/\k.at_<=65534/\k.e.kind≠0) && Z1 k.e d):=by cases k;rfl
theorem Z0e(list:Int)(o:Op)(d:Int):Za list o d=
  if o.kind=0 then decide (1<=o.n/\o.n<=1048576/\o.l.length=0) && Z36 o.e
  else if o.n≠0\/o.kind < 0\/3 < o.kind then false
  else if o.kind < 3 then J7 (dT d) list o.l && decide (0 < o.l.length) && Z36 o.e
  else decide (o.l.length=0/\o.e.kind≠0/\7 < list) && Z1 o.e d && decide (list=8\/o.e.kind=2\/o.e.kind=1/\o.e.old.kind=1/\o.e.new.kind=1):=by
 cases o;rfl
theorem Z5D{list:Int}{o:Op}{d:Int}(h:Za list o d=true):0<=o.n/\o.n<=1048576:=by
 rw [Z0e] at h
 grind
theorem rightOs_mem{list d:Int}:∀ {os:List Op} {o:Op},ZA list os d=true->o∈os->Za list o d=true
 | x ::r,o,h,hm=> by
  simp only [ZA,Q2] at h
  rcases Qa.1 hm with rfl | hm
  .exact h.1
  .exact rightOs_mem h.2 hm
theorem ZeQ{d:Int}:∀ {ks:List Kid} {last:Int} {k:Kid},ZC last ks d=true->k∈ks->Z1 k.e d=true/\k.e.kind≠0
 | x ::r,last,k,h,hm=> by
  simp only [ZC,Q2] at h
  rcases Qa.1 hm with rfl | hm
  .have:=h.1;rw [Z4P] at this;grind
  .exact ZeQ h.2 hm
theorem Z4M{e:Edit}(h:ZX e):InR e.kind/\rng e.old/\rng e.new/\(∀ x∈e.words,Z2a x)/\InR e.list/\Z1r e.kids/\Z0D e.ops:=by
 obtain ⟨k,o,n,w,ks,l,os⟩:=e;exact h
theorem b64:ZKD:=by
 intro N e d _ hp hN
 simp only [ZeZ,ZlA] at hp hN
 obtain ⟨⟨hm,hr⟩,a2,a9⟩:=hp
 obtain ⟨ik,ro,rn,aw,il,rk,av⟩:=Z4M hr
 have bf:=Yq e
 have a7:=Ym e.kids
 have bb:=ZQ e.ops
 have s:=ZdC e d
 rw [ZFh a2] at s
 refine ZKY N e d _ ?_;(try simp only [iB,vcT,forall_eq])
 (simp only [iB,vcS]);(try simp only [iB,vcT]);(try simp only [vcU])
 try (simp only [vE])
 refine ⟨fun hc=> Zl rfl (by rw [s,V0]),fun hc=> ?_⟩
 rw [Jv] at s
 refine ⟨fun _=> by simp only [Z7I];omega,fun _=> by simp only [Z7I];omega,fun _=> by unfold InR;omega,fun hf=> Zl rfl ?_,fun hf=> ⟨fun h1=> ⟨⟨V4,ro,V4,V4⟩,fun _=> ⟨V4,rn,V4,V4⟩,Zl rfl ?_⟩,fun h1=> ?_⟩⟩
 .rw [s,if_pos]
  rcases hf with (hf | hf) | hf
  .left
   refine ⟨hf.1,fun h=> ?_⟩
   rcases hf.2 with h2 | h2
   .rw [h.1] at h2;cases h2
   .rw [h.2] at h2;cases h2
  .right;left;omega
  .right;right;omega
 .rw [s,if_neg,if_pos h1,QM]
  ·(simp only [iB,vcS])
   constructor
   .rintro ⟨⟨⟨h2,h3⟩,h4⟩,h5⟩;exact ⟨⟨h2,h3⟩,h4,h5⟩
   .rintro ⟨⟨h2,h3⟩,h4,h5⟩;exact ⟨⟨⟨h2,h3⟩,h4⟩,h5⟩
  .intro h
   rcases h with h | h | h
   .exact h.1 h1
   .omega
   .omega
 .rw [if_neg,if_neg h1] at s
  .refine Z7 (ι:=Int × Int) (fun p=> ZcV e d p.1 p.2) (fun p=> 0<=p.2/\p.2<=e.words.length/\ZM p.1 (e.words.drop p.2.toNat)=ZM (-1) e.words) (fun p=> ((e.words.length:Int) - p.2).toNat) (-1,0) rfl ⟨V4,V4,by simp⟩ ?_
   rintro ⟨ah,i⟩ ⟨h2,h3,h4⟩
   dsimp only at*
   refine ZBn N e d ah i _ _ ?_;(try simp only [iB,vcT,forall_eq])
   (simp only [iB,vcS]);(try simp only [iB,vcT]);(try simp only [vcU])
   try (simp only [vE])
   refine ⟨fun hi=> ?_,fun hi=> ?_⟩
   .have aa:=Zh (l:=e.words) (i:=i.toNat) V1 (WEdit.mk 0 0 0 0)
    have ai:=aw _ aa
    rw [ZS h2 hi (WEdit.mk 0 0 0 0)] at h4
    simp only [ZM] at h4
    generalize e.words.getD i.toNat (WEdit.mk 0 0 0 0)=w at*
    obtain ⟨_,ar,ax,a1⟩:=ai
    refine ⟨⟨h2,hi⟩,fun _=> ⟨ax,ar⟩,fun _=> ⟨a1,ar⟩,fun hq=> Zl rfl ?_,fun hq=> ⟨V5,(_,i+1),rfl,⟨V4,V4,?_⟩,V4⟩⟩
    .rw [s,<-h4]
     rcases hq with (hq | hq) | hq
     .rw [decide_eq_false V1];try rfl
     .rw [hq];simp
     .rw [hq];simp
    .dsimp only
     rw [<-h4,decide_eq_true V1,hq.1.2,hq.2];try rfl
   .have hw:ZM (-1) e.words=true:=by
     rw [<-h4,Q6 V1];try rfl
    rw [hw,X2] at s
    refine Z7 (ι:=Int × Int) (fun p=> ZcU e d p.1 p.2) (fun p=> 0<=p.2/\p.2<=e.kids.length/\ZC p.1 (e.kids.drop p.2.toNat) (d - 1)=ZC (-1) e.kids (d - 1)) (fun p=> ((e.kids.length:Int) - p.2).toNat) (-1,0) rfl ⟨V4,V4,by simp⟩ ?_
    rintro ⟨ah,i⟩ ⟨h2,h3,h4⟩
    dsimp only at*
    refine ZBm N e d ah i _ _ ?_;(try simp only [iB,vcT,forall_eq])
    (simp only [iB,vcS]);(try simp only [iB,vcT]);(try simp only [vcU])
    try (simp only [vE])
    refine ⟨fun hi=> ?_,fun hi=> ?_⟩
    .have aa:=Zh (l:=e.kids) (i:=i.toNat) V1 (KidOf.mk 0 Edit.nil)
     have ai:=YB rk aa
     have a3:=Ja aa
     rw [ZS h2 hi (KidOf.mk 0 Edit.nil)] at h4
     simp only [ZC,Z4P] at h4
     generalize e.kids.getD i.toNat (KidOf.mk 0 Edit.nil)=w at*
     refine ⟨⟨h2,hi⟩,fun _=> by unfold InR;omega,fun _=> ⟨⟨V4,ai.2⟩,V4,V4⟩,fun _=> by simp only [ZlA];omega,fun hq=> Zl rfl ?_,fun hq=> ⟨V5,(_,i+1),rfl,⟨V4,V4,?_⟩,V4⟩⟩
     .rw [s,<-h4]
      rcases hq with hq | hq
      .rw [decide_eq_false V1];try rfl
      .rw [hq];simp
     .dsimp only
      rw [<-h4,decide_eq_true V1,hq.2];try rfl
    .have hw:ZC (-1) e.kids (d - 1)=true:=by
      rw [<-h4,Q6 V1];try rfl
     rw [hw,X2] at s
     refine ⟨fun hq=> Zl rfl (by rw [s,decide_eq_false V1];rfl),fun hq=> ?_⟩
     rw [decide_eq_true V1,X2] at s
     refine Z7 (ι:=Int) (fun p=> ZcT e d p) (fun p=> 0<=p/\p<=e.ops.length/\ZA e.list (e.ops.drop p.toNat) (d - 1)=ZA e.list e.ops (d - 1)) (fun p=> ((e.ops.length:Int) - p).toNat) 0 rfl ⟨V1,V1,by simp⟩ ?_
     rintro j ⟨h5,h6,h7⟩
     refine ZBl N e d j _ _ ?_;(try simp only [iB,vcT,forall_eq])
     (simp only [iB,vcS]);(try simp only [iB,vcT]);(try simp only [vcU])
     try (simp only [vE])
     refine ⟨fun hj=> ?_,fun hj=> ?_⟩
     .have aa:=Zh (l:=e.ops) (i:=j.toNat) V1 Op.nil
      have az:=JL av aa
      have a3:=ZW aa
      rw [ZS h5 hj Op.nil] at h7
      simp only [ZA] at h7
      generalize e.ops.getD j.toNat Op.nil=o at*
      refine ⟨⟨h5,hj⟩,V5,⟨⟨by show Zs o<=20000000000;omega,az,il⟩,V4,V4⟩,?_,fun hq=> Zl rfl ?_,fun hq=> ⟨V5,j+1,rfl,⟨V1,V1,?_⟩,V1⟩⟩
      .show 2*Zs o+1 < N
       omega
      .have aj:Za e.list o (d - 1)=false:=hq
       rw [s,<-h7,aj];try rfl
      .have aj:Za e.list o (d - 1)=true:=hq
       rw [<-h7,aj];try rfl
     .have hw:ZA e.list e.ops (d - 1)=true:=by
       rw [<-h7,Q6 V1];try rfl
      rw [hw,X2] at s
      refine ⟨⟨hm,fun o ho=> Z5D (rightOs_mem hw ho)⟩,Zl rfl ?_⟩
      rw [s,QM]
      (simp only [iB,vcS])
  .intro h
   rcases h with h | h | h
   .rcases hf.1.1 with h2 | h2
    .exact h1 h2
    .exact h.2 h2
   .omega
   .omega
theorem Zj4{l:List Tree}{i:Int}(h0:0<=i)(h:i < l.length):List.drop i.toNat (l.take (i+1).toNat)=[l.getD i.toNat Tree.nil]:=by
 rw [List.drop_take,show (i+1).toNat - i.toNat=1 by omega,ZS h0 h Tree.nil]
 try rfl
theorem ZLq:ZFK:=by
 intro N list o d _ hp hN
 simp only [ZdU,ZjY] at hp hN
 obtain ⟨⟨hm,hr,ai⟩,ae,ak⟩:=hp
 obtain ⟨ik,ax,rl,re⟩:=Z0j hr
 rw [ZR] at hm hN
 have aw:=ZD o.l
 have a4:=Z95 o.e
 have h:=Z0e list o d
 rw [ZFh ae,Zjk] at h
 refine ZJU N list o d _ ?_;(try simp only [iB,vcT,forall_eq])
 (simp only [iB,vcS]);(try simp only [iB,vcT]);(try simp only [vcU])
 try (simp only [vE])
 refine ⟨fun h0=> ⟨fun _=> by simp only [ZaR];omega,Zl rfl ?_⟩,fun h0=> ⟨fun hc=> Zl rfl ?_,fun hc=> ⟨fun h3=> ?_,fun h3=> ⟨fun _=> ⟨⟨V4,re⟩,ae,ak⟩,fun _=> by simp only [ZlA];omega,fun s=> Zl rfl ?_,fun s=> Zl rfl ?_⟩⟩⟩⟩
 .rw [h,if_pos h0,QM]
  (simp only [iB,vcS])
  constructor
  .rintro ⟨h1,h2⟩;exact ⟨V1,h2⟩
  .rintro ⟨h1,h2⟩;exact ⟨V1,h2⟩
 .rw [h,if_neg h0,V0]
 .rw [if_neg h0,Jv,if_pos h3] at h
  refine Z7 (ι:=Int) (fun p=> Z9R list o d p) (fun p=> 0<=p/\p<=o.l.length/\Z6k list (o.l.drop p.toNat)=Z6k list o.l) (fun p=> ((o.l.length:Int) - p).toNat) 0 rfl ⟨V1,V1,by simp⟩ ?_
  rintro i ⟨h4,h5,h6⟩
  refine Zxf N list o d i _ _ ?_;(try simp only [iB,vcT,forall_eq])
  (simp only [iB,vcS]);(try simp only [iB,vcT]);(try simp only [vcU])
  try (simp only [vE])
  refine ⟨fun hi=> ?_,fun hi=> ?_⟩
  .have aa:=Zh (l:=o.l) (i:=i.toNat) V1 Tree.nil
   have aj:=Jl rl aa
   have a2:=Jb aa
   rw [Zj4 h4 hi]
   rw [ZS h4 hi Tree.nil] at h6
   simp only [Z6k] at h6
   generalize o.l.getD i.toNat Tree.nil=t at*
   refine ⟨V5,V1,⟨by simp only [Zq,Ze,List.length_nil];omega,⟨ai,fun x hx=> (by cases hx),aj,trivial⟩,V4,V4⟩,fun s=> Zl rfl ?_,fun s=> ⟨V5,i+1,rfl,⟨V1,V1,?_⟩,V1⟩⟩
   .rw [h,<-h6,s];try rfl
   .rw [<-h6,s];try rfl
  .have hw:Z6k list o.l=true:=by
    rw [<-h6,Q6 V1];try rfl
   rw [hw,X2] at h
   refine ⟨fun _=> by simp only [ZaR];omega,Zl rfl ?_⟩
   rw [h,QM]
   (simp only [iB,vcS])
   simp only [Int.natCast_pos]
 .rw [h,if_neg h0,Jv,if_neg h3]
  rcases s with s | s
  .have:¬(o.l.length=0/\o.e.kind≠0/\7 < list):=V1
   rw [decide_eq_false this];try rfl
  .rw [s];simp
 .rw [h,if_neg h0,Jv,if_neg h3,s.2]
  have:o.l.length=0/\o.e.kind≠0/\7 < list:=V1
  rw [decide_eq_true this,QM]
  (simp only [iB,vcS])
  simp only [true_and,Xf,decide_eq_true_eq,and_assoc,or_assoc]
theorem ZGX:Contract Tryz.prog cfg 64 ZgL/\Contract Tryz.prog cfg 101 Zry:=Zvb c99 ZHy ZHq c31 ZvP b64 ZLq
theorem Z96(e:Edit):Jz e=(decide (Jp e.ops 0<=2000/\Z11 e.ops 0<=2000) && Z0C e.kids && Yp e.ops):=by
 obtain ⟨k,o,d,w,ks,l,os⟩:=e;rfl
theorem Zfm(k:Kid):Zo6 k=Jz k.e:=by cases k;rfl
theorem Zih(o:Op):Zg3 o=Jz o.e:=by cases o;rfl
theorem Z5E{e:Edit}{d:Int}(h:Z1 e d=true):(∀ k∈e.kids,Z1 k.e (d - 1)=true/\k.e.kind≠0)/\∀ o∈e.ops,Za e.list o (d - 1)=true:=by
 rw [ZdC] at h
 split at h
 .cases h
 .split at h
  .cases h
  .rename_i h1 h2
   split at h
   .grind
   .simp only [Q2] at h
    exact ⟨fun k s=> ZeQ h.1.1.1.2 s,fun o ho=> rightOs_mem h.1.2 ho⟩
theorem Zn5{e:Edit}(h:Z36 e=true):e.kind=0/\Z0r e.old=true/\Z0r e.new=true/\e.words=[]/\e.kids=[]/\e.ops=[]/\e.list=0:=by
 simp only [Z36,Q2,decide_eq_true_eq] at h
 grind
theorem Z7z{e:Edit}(h:Z36 e=true)(d:Int)(hd:d≠0):Z1 e d=true:=by
 obtain ⟨h1,s,h3,h4,h5,h6,h7⟩:=Zn5 h
 rw [ZdC,h1,s,h3,h4,h5,h6,h7,Jv,if_neg (by simp),Jv]
 try rfl
theorem ZiU{list:Int}{o:Op}{d:Int}(h:Za list o d=true):∃ d',Z1 o.e d'=true:=by
 rw [Z0e] at h
 split at h
 .simp only [Q2] at h
  exact ⟨1,Z7z h.2 1 V1⟩
 .split at h
  .cases h
  .split at h
   .simp only [Q2] at h
    exact ⟨1,Z7z h.2 1 V1⟩
   grind
theorem c65:Contract Tryz.prog cfg 65 ZgK:=by
 refine ZGm ZvP ?_
 intro N e _ hp hN
 simp only [Zhp,ZnQ] at hp hN
 obtain ⟨⟨hm,hr⟩,dd,ak⟩:=hp
 obtain ⟨ik,ro,rn,ay,il,rk,ai⟩:=Z4M hr
 have a4:=Yq e
 have aw:=Ym e.kids
 have a1:=ZQ e.ops
 have aa:=Z96 e
 obtain ⟨al,af⟩:=Z5E ak
 refine ZKX N e _ ?_;(try simp only [iB,vcT,forall_eq])
 (simp only [iB,vcS]);(try simp only [iB,vcT]);(try simp only [vcU])
 try (simp only [vE])
 refine ⟨⟨hm,fun o ho=> Z5D (af o ho)⟩,fun hq=> Zl rfl (by grind),fun hq=> ?_⟩
 rw [decide_eq_true V1,X2] at aa
 refine Z7 (ι:=Int) (fun p=> ZcS e p) (fun p=> 0<=p/\p<=e.kids.length/\Z0C (e.kids.drop p.toNat)=Z0C e.kids) (fun p=> ((e.kids.length:Int) - p).toNat) 0 rfl ⟨V1,V1,by simp⟩ ?_
 rintro i ⟨h4,h5,h6⟩
 refine ZBk N e i _ _ ?_;(try simp only [iB,vcT,forall_eq])
 (simp only [iB,vcS]);(try simp only [iB,vcT]);(try simp only [vcU])
 try (simp only [vE])
 refine ⟨fun hi=> ?_,fun hi=> ?_⟩
 .have d:=Zh (l:=e.kids) (i:=i.toNat) V1 (KidOf.mk 0 Edit.nil)
  have h:=YB rk d
  have ah:=Ja d
  have s:=al _ d
  rw [ZS h4 hi (KidOf.mk 0 Edit.nil)] at h6
  simp only [Z0C,Zfm] at h6
  generalize e.kids.getD i.toNat (KidOf.mk 0 Edit.nil)=k at*
  refine ⟨⟨h4,hi⟩,⟨⟨by grind,h.2⟩,_,s.1⟩,by simp only [ZnQ];omega,fun hq=> Zl rfl (by grind),fun hq=> ⟨V5,i+1,rfl,⟨V1,V1,by grind⟩,V1⟩⟩
 .have hw:Z0C e.kids=true:=by
   rw [<-h6,Q6 V1];try rfl
  rw [hw,X2] at aa
  refine Z7 (ι:=Int) (fun p=> ZcR e p) (fun p=> 0<=p/\p<=e.ops.length/\Yp (e.ops.drop p.toNat)=Yp e.ops) (fun p=> ((e.ops.length:Int) - p).toNat) 0 rfl ⟨V1,V1,by simp⟩ ?_
  rintro j ⟨g4,g5,g6⟩
  refine ZBj N e j _ _ ?_;(try simp only [iB,vcT,forall_eq])
  (simp only [iB,vcS]);(try simp only [iB,vcT]);(try simp only [vcU])
  try (simp only [vE])
  refine ⟨fun hi=> ?_,fun hi=> ?_⟩
  .have d:=Zh (l:=e.ops) (i:=j.toNat) V1 Op.nil
   have h:=Z0j (JL ai d)
   have ah:=ZW d
   have s:=ZiU (af _ d)
   rw [ZR] at ah
   rw [ZS g4 hi Op.nil] at g6
   simp only [Yp,Zih] at g6
   generalize e.ops.getD j.toNat Op.nil=o at*
   refine ⟨⟨g4,hi⟩,⟨⟨by grind,h.2.2.2⟩,s⟩,by simp only [ZnQ];omega,fun hq=> Zl rfl (by grind),fun hq=> ⟨V5,j+1,rfl,⟨V1,V1,by grind⟩,V1⟩⟩
  .refine Zl rfl ?_
   rw [aa,<-g6,Q6 V1];try rfl
theorem c14:Contract Tryz.prog cfg 14 ZgT:=by
 refine ZGA c45 ZGX.1 c65 ?_
 intro e _ d
 simp only [ZjP] at d
 refine ZLd e _ ?_;(try simp only [iB,vcT,forall_eq])
 try (simp only [vE])
 refine ⟨d.1,fun hf=> ?_,fun hf=> ?_,Zl rfl ?_⟩
 .have:=Zep (by simpa using hf)
  exact ⟨⟨by grind,d.2⟩,by grind,by grind⟩
 .simp only [ZAo,decide_eq_true_eq] at hf
  have:=Zep hf.1
  exact ⟨⟨by grind,d.2⟩,64,hf.2⟩
 .show _=Z0y e
  simp only [Z0y]
  grind
end Go.AM.YtpjenobkibfpcaaGreat
namespace Go.AM
noncomputable def eqX{α:Type}(a b:α):Bool:=@decide (a=b) (Classical.propDecidable _)
theorem Z07{α:Type}{a b:α}:eqX a b=true↔a=b:=by unfold eqX;grind
@[simp] theorem ZzY {α:Type} (a:α):eqX a a=true:=Z07.2 rfl
def ZK(o:Op)(n:Int):Op:=if Z2 o<=n then o else if o.kind=0 then ⟨o.kind,n,o.l,o.e⟩ else ⟨o.kind,o.n,o.l.take n.toNat,o.e⟩
def Z0M(o:Op)(n:Int):Op:=if o.kind=0 then ⟨o.kind,o.n - n,o.l,o.e⟩ else ⟨o.kind,o.n,o.l.drop n.toNat,o.e⟩
def Yd(l:List Op)(n:Int):List Op:=if Z2 (l.getD 0 Op.nil)<=n then l.drop 1 else Z0M (l.getD 0 Op.nil) n ::l.drop 1
def sgl(a:Int)(l:List Op):Bool:=decide (l.length≠0/\(l.getD 0 Op.nil).kind=a)
def ZZ(o:Op):Prop:=
 (o.kind=0/\o.l=[]/\(1<=o.n/\o.n<=1048576)/\o.e=Edit.nil)\/((o.kind=1\/o.kind=2)/\o.n=0/\o.l≠[]/\o.e=Edit.nil)\/(o.kind=3/\o.n=0/\o.l=[])
def Zce(l:List Op):Prop:=(∀ o∈l,ZZ o)/\Zg l<=20000000000
theorem Jg(l:List Op)(n:Int)(h:l.length≠0):(Yd l n).length<=l.length:=by
 unfold Yd
 grind
theorem Jf(l:List Op)(n:Int)(h:l.length≠0)(hn:Z2 (l.getD 0 Op.nil)<=n):(Yd l n).length < l.length:=by
 unfold Yd
 grind
def Y7(ap aq:Int)(p q:List Op)(out:List Piece):List Piece × Bool × List Op × List Op:=
 if h:sgl ap p=true then Y7 ap aq (p.drop 1) q (out++[⟨1,p.getD 0 Op.nil,Op.nil⟩])
 else if h2:sgl aq q=true then Y7 ap aq p (q.drop 1) (out++[⟨2,Op.nil,q.getD 0 Op.nil⟩])
 else if h3:p.length=0\/q.length=0 then
  if decide (p.length=0)=decide (q.length=0) then (out,true,p,q) else ([],false,p,q)
 else
  Y7 ap aq (Yd p (min (Z2 (p.getD 0 Op.nil)) (Z2 (q.getD 0 Op.nil)))) (Yd q (min (Z2 (p.getD 0 Op.nil)) (Z2 (q.getD 0 Op.nil))))
   (out++[⟨0,ZK (p.getD 0 Op.nil) (min (Z2 (p.getD 0 Op.nil)) (Z2 (q.getD 0 Op.nil))),ZK (q.getD 0 Op.nil) (min (Z2 (p.getD 0 Op.nil)) (Z2 (q.getD 0 Op.nil)))⟩])
termination_by p.length+q.length
decreasing_by
 .have:=(of_decide_eq_true h).1;grind
 .have:=(of_decide_eq_true h2).1;grind
 .rcases Int.le_total (Z2 (p.getD 0 Op.nil)) (Z2 (q.getD 0 Op.nil)) with hm | hm
  .have a:=Jf p _ V1 (QS (Z2 (p.getD 0 Op.nil)))
   have b:=Jg q (Z2 (p.getD 0 Op.nil)) V1
   grind
  .have a:=Jf q _ V1 (QS (Z2 (q.getD 0 Op.nil)))
   have b:=Jg p (Z2 (q.getD 0 Op.nil)) V1
   grind
def J5(i alone:Int)(o:Op):List AUnit:=
 (if o.kind=0 then List.replicate o.n.toNat ⟨i,0,Tree.nil,Edit.nil,false⟩ else [])
  ++(o.l.map (fun t=> ⟨i,o.kind,t,Edit.nil,decide (o.kind=alone)⟩)
  ++(if o.kind=3 then [⟨i,3,Tree.nil,o.e,false⟩] else []))
def ZO(i alone:Int):List Op->List AUnit
 | []=> []
 | o ::r=> J5 i alone o++ZO (i+1) alone r
def Z5l:List Op->Int
 | []=> 0
 | o ::r=> Z2 o+Z5l r
def alo(l:List AUnit):Bool:=decide (l.length≠0/\(l.getD 0 AUnit.nil).alone=true)
def Yg(p q:List AUnit)(out:List APair):List APair × Bool:=
 if h:alo p=true then Yg (p.drop 1) q (out++[⟨1,p.getD 0 AUnit.nil,AUnit.nil⟩])
 else if h2:alo q=true then Yg p (q.drop 1) (out++[⟨2,AUnit.nil,q.getD 0 AUnit.nil⟩])
 else if h3:p.length=0\/q.length=0 then
  if decide (p.length=0)=decide (q.length=0) then (out,true) else ([],false)
 else Yg (p.drop 1) (q.drop 1) (out++[⟨0,p.getD 0 AUnit.nil,q.getD 0 AUnit.nil⟩])
termination_by p.length+q.length
decreasing_by
 .have:=(of_decide_eq_true h).1;grind
 .have:=(of_decide_eq_true h2).1;grind
 grind
def opU(u:AUnit):Op:=if u.kind=0 then ⟨0,1,[],Edit.nil⟩ else if u.kind=3 then ⟨3,0,[],u.e⟩ else ⟨u.kind,0,[u.t],Edit.nil⟩
def Z7d(o:Op)(alone:Int)(l:List AUnit):Prop:=(ZO 0 alone [o]).map opU=l.map opU
def Zex(alone:Int):List Piece->List APair->Prop
 | [],m=> m=[]
 | x ::r,m=> ∃ m1 m2,m=m1++m2/\m1≠[]/\((x.of=0\/x.of=1\/x.of=2)/\(x.of=2->x.p=Op.nil)/\(∀ y∈m1,y.of=x.of)/\(x.of≠2->ZZ x.p/\Zs x.p<=18000000000/\Z2 x.p=m1.length/\Z7d x.p alone (m1.map APair.p))
   /\(x.of≠1->ZZ x.q/\Zs x.q<=18000000000/\Z2 x.q=m1.length/\Z7d x.q 2 (m1.map APair.q)))/\Zex alone r m2
end Go.AM
namespace Go.AM.YtpjenobkibfpcaaGreat
open Go.AM Go.Proofs
noncomputable section
def Ztx:ArgL (Op × Unit):=(.cons (aEl .op) .nil)
def Z7K(a:Op × Unit):Prop:=Zs a.1<=20000000000/\0<=OpOf.n a.1/\OpOf.n a.1<=1048576
def ZxL(a:Op × Unit):V U:= .c (ci (Z2 a.1))
def Z4D:Fs U:=fs Ztx (fun a=> [Z7K a]) ZxL
def Zmo:ArgM ((List Op × Int × Unit) × Unit):=(.obj 0 (.cons (cSl .op) (.cons (ZiJ .i64) .nil)) .nil)
def Z5b(a:(List Op × Int × Unit) × Unit):Prop:=(a.1.1).length<=120000000000
def ZxK(a:(List Op × Int × Unit) × Unit):V U:= .c (.bool (decide ((a.1.1).length=0)))
def ZrK(a:(List Op × Int × Unit) × Unit):List (List (C U)):=[[sU .op a.1.1 .unk,ci a.1.2.1]]
def Z4C:Fs U:=fsX Zmo (fun a=> [Z5b a]) ZxK ZrK
def ZxM(a:(List Op × Int × Unit) × Unit):V U:= .c (.bool (sgl a.1.2.1 a.1.1))
def Zbw:Fs U:=fsX Zmo (fun a=> [Z5b a]) ZxM ZrK
def Zmp:ArgM ((List Op × Int × Unit) × Int × Unit):=(.obj 0 (.cons (cSl .op) (.cons (ZiJ .i64) .nil)) (.cons (Z0h .i64) .nil))
def ZaO(a:(List Op × Int × Unit) × Int × Unit):Prop:=Zce a.1.1/\(a.1.1).length≠0/\1<=a.2.1/\a.2.1<=120000000000
def Zh9(a:(List Op × Int × Unit) × Int × Unit):V U:= .agg (enc .op (ZK ((a.1.1).getD 0 Op.nil) a.2.1))
def ZbW(a:(List Op × Int × Unit) × Int × Unit):List (List (C U)):=[[sU .op (Yd a.1.1 a.2.1) .unk,ci a.1.2.1]]
def Zbv:Fs U:=fsX Zmp (fun a=> [ZaO a]) Zh9 ZbW
def Zmr:ArgM ((List Op × Int × Unit) × (List Op × Int × Unit) × Unit):=(.obj 0 (.cons (cSl .op) (.cons (ZiJ .i64) .nil)) (.obj 1 (.cons (cSl .op) (.cons (ZiJ .i64) .nil)) .nil))
def Zlp(a:(List Op × Int × Unit) × (List Op × Int × Unit) × Unit):Prop:=Zce a.1.1/\Zce a.2.1.1
def Zlc(a:(List Op × Int × Unit) × (List Op × Int × Unit) × Unit):V U:= .tup [(false,[sU .piece ((Y7 a.1.2.1 a.2.1.2.1 a.1.1 a.2.1.1 []).1) .unk]),(false,[.bool ((Y7 a.1.2.1 a.2.1.2.1 a.1.1 a.2.1.1 []).2.1)])]
def ZfV(a:(List Op × Int × Unit) × (List Op × Int × Unit) × Unit):List (List (C U)):=[[sU .op ((Y7 a.1.2.1 a.2.1.2.1 a.1.1 a.2.1.1 []).2.2.1) .unk,ci a.1.2.1],[sU .op ((Y7 a.1.2.1 a.2.1.2.1 a.1.1 a.2.1.1 []).2.2.2) .unk,ci a.2.1.2.1]]
def Z8C:Fs U:=fsX Zmr (fun a=> [Zlp a]) Zlc ZfV
def ZtE:ArgL (List Op × List Op × Unit):=(.cons (aSl .op) (.cons (aSl .op) .nil))
def Zpz(a:List Op × List Op × Unit):Prop:=Zce a.1/\Zce a.2.1
def ZxQ(a:List Op × List Op × Unit):V U:= .tup [(false,[sU .piece ((Y7 1 2 a.1 a.2.1 []).1) .unk]),(false,[.bool ((Y7 1 2 a.1 a.2.1 []).2.1)])]
def Z3d:Fs U:=fs ZtE (fun a=> [Zpz a]) ZxQ
def ZtY:ArgL (List Op × Int × Unit):=(.cons (aSl .op) (.cons (Z0h .i64) .nil))
def Zhy(a:List Op × Int × Unit):Prop:=Zce a.1/\Z5l a.1<=120000000000
def Zy1(a:List Op × Int × Unit):V U:= .c (sU .unit (ZO 0 a.2.1 a.1) .unk)
def Z6t:Fs U:=fs ZtY (fun a=> [Zhy a]) Zy1
def ZtZ:ArgL (List AUnit × List AUnit × Unit):=(.cons (aSl .unit) (.cons (aSl .unit) .nil))
def Zls(a:List AUnit × List AUnit × Unit):Prop:=(a.1).length<=120000000000/\(a.2.1).length<=120000000000
def Zlh(a:List AUnit × List AUnit × Unit):V U:= .tup [(false,[sU .pair ((Yg a.1 a.2.1 []).1) .unk]),(false,[.bool ((Yg a.1 a.2.1 []).2)])]
def Z6u:Fs U:=fs ZtZ (fun a=> [Zls a]) Zlh
def ZtJ:ArgL (AUnit × Unit):=(.cons (aEl .unit) .nil)
def ZdN(a:AUnit × Unit):Prop:=True
def Zha(a:AUnit × Unit):V U:= .agg (enc .op (opU a.1))
def Z6s:Fs U:=fs ZtJ (fun a=> [ZdN a]) Zha
def ZAx:ArgL (List Tree × List Tree × Unit):=(.cons (aSl .tree) (.cons (aSl .tree) .nil))
def Znx(a:List Tree × List Tree × Unit):Prop:=Ze a.1<=20000000000
def ZEU(a:List Tree × List Tree × Unit):V U:= .c (.bool (eqX a.1 a.2.1))
def ZgJ:Fs U:=fs ZAx (fun a=> [Znx a]) ZEU
def ZqV:ArgL (Edit × Edit × Unit):=(.cons (aEl .edit) (.cons (aEl .edit) .nil))
def Zc2(a:Edit × Edit × Unit):Prop:=Z0 a.1<=20000000000
def ZnS(a:Edit × Edit × Unit):Nat:=Z0 a.1
def ZxW(a:Edit × Edit × Unit):V U:= .c (.bool (eqX a.1 a.2.1))
def ZgS:Fs U:=fs ZqV (fun a=> [Zc2 a]) ZxW
def ZyS:Zj U:=lvl [([1],[1]),([1,5],[1]),([2],[]),([2],[])]
abbrev ZLH(p:List Nat):=AW (Z3 Zqg) Tryz.f228 ZyS p
theorem ZIQ(o:Op)(Q:QT)(h:(iB (o.kind==3) ((Q .ret (L2 [pI 2 1] []))) ((InR (o.n+(o.l.length:Int)))/\(Q .ret (L2 [pI 2 (o.n+(o.l.length:Int))] []))))):
  ZLH [] (L2 [(0,.agg (enc .op o))] []) Q:=
 Eq.mpr V6 h
def ZDI(o:Op):Prop:=AW (Z3 Zqg) Tryz.f228 ZyS [] (Zm (Ztx.can (o,())) []) (EQ Tryz.f228 (ZxL (o,())) [])
theorem ZBQ(hb:∀ (o:Op) (_:Unit),Z7K (o,())->ZDI o):CT 228 Z4D:=
 Z9 (l:=[]) Zo rfl trivial ZyS Tryz.func228 rfl rfl 1 (fun _=> rfl) V3 (fun ⟨o,_⟩=> hb o ())
def ZyR:Zj U:=lvk [([0],[((.x 0),[])]),([2],[((.x 0),[])])]
abbrev ZLG(p:List Nat):=AW (Z3 Zqg) Tryz.f229 ZyR p
theorem ZIP(l:List Op)(alone:Int)(Q:QT)(h:(Q .ret (L2 [pB 2 (((l.length:Int):Int)==0)] [(.x 0,[sU .op l .unk,ci alone])]))):
  ZLG [] (L2 [(0,.ptr (.x 0) 0)] [(.x 0,[sU .op l .unk,ci alone])]) Q:=
 Eq.mpr V6 h
def ZDH(l:List Op)(alone:Int):Prop:=AW (Z3 Zqg) Tryz.f229 ZyR [] (Zm (Zmo.can ((l,alone,()),())) (Zmo.canX ((l,alone,()),()))) (EQ Tryz.f229 (ZxK ((l,alone,()),())) (ZrK ((l,alone,()),())))
theorem ZBP(hb:∀ (l:List Op) (alone:Int) (_:Unit),Z5b ((l,alone,()),())->ZDH l alone):CT 229 Z4C:=
 Z14 (l:=[]) Zo rfl trivial ZyR Tryz.func229 rfl rfl 1 (fun _=> rfl) V3 (fun ⟨⟨l,alone,_⟩,_⟩=> hb l alone ())
def ZsP:List (FuncId × Fs U):=[(229,Z4C)]
abbrev ZLJ(p:List Nat):=AW (Z3 ZsP) Tryz.f226 ZyR p
theorem ZIS(l:List Op)(alone:Int)(Q:QT)(h:let z0:= !(decide (l.length=0));((Z5b ((l,alone,()),()))/\(Tt z0)/\(Tt z0)/\(Tt z0)/\(Tt z0)/\(z0=true->(0:Int)<=0/\0 < (l.length:Int))/\(Tt z0)/\(Tt z0)/\(Tt z0)/\(Tt z0)/\(Tt z0)/\(Tt z0)/\(Tt z0)/\(Tt z0)/\(Q .ret (L2 [(2,.c (.bool (bif z0 then (((OpOf.kind (List.getD l (Int.toNat 0) Op.nil)):Int)==alone) else false)))] [(.x 0,[sU .op l .unk,ci alone])])))):
  ZLJ [] (L2 [(0,.ptr (.x 0) 0)] [(.x 0,[sU .op l .unk,ci alone])]) Q:=
 Eq.mpr V6 h
def ZDK(l:List Op)(alone:Int):Prop:=AW (Z3 ZsP) Tryz.f226 ZyR [] (Zm (Zmo.can ((l,alone,()),())) (Zmo.canX ((l,alone,()),()))) (EQ Tryz.f226 (ZxM ((l,alone,()),())) (ZrK ((l,alone,()),())))
theorem ZBS(ZvE:CT 229 Z4C)(hb:∀ (l:List Op) (alone:Int) (_:Unit),Z5b ((l,alone,()),())->ZDK l alone):CT 226 Zbw:=
 Z14 (l:=[(229,Z4C)]) Zo rfl (⟨ZvE,trivial⟩) ZyR Tryz.func226 rfl rfl 1 (fun _=> rfl) V3 (fun ⟨⟨l,alone,_⟩,_⟩=> hb l alone ())
def ZsO:List (FuncId × Fs U):=[(228,Z4D)]
def ZyT:Zj U:=lvk [([0,1,4],[4,((.x 0),[])]),([0,1,4,5],[4,5,((.x 0),[])]),([0,1,4,5,17],[4,5,((.x 0),[])]),([4,5],[4,5,((.x 0),[])]),([4],[4,((.x 0),[])]),([0,1,4,5,6,7],[4,5,6,7,((.x 0),[])]),([0,1,4,5,6,7,31],[4,5,6,7,((.x 0),[])]),([0,4,6,7],[4,6,7,((.x 0),[])]),([0,4,6,7],[4,6,7,((.x 0),[])]),([4,6],[4,6,((.x 0),[])]),([4],[4,((.x 0),[])])]
abbrev ZLI(p:List Nat):=AW (Z3 ZsO) Tryz.f227 ZyT p
theorem ZIR(l:List Op)(alone n:Int)(Q:QT)(h:∀ d,d=(List.getD l (Int.toNat 0) Op.nil)->∀ aa,aa=d->∀ s,s=(d.e)->let z0:=List.drop (Int.toNat 1) l;(((0:Int)<=0/\0 < (l.length:Int))/\((Z7K (aa,()))/\(iB (decide (((Z2 aa):Int)<=n)) (((0:Int)<=1/\1<=(l.length:Int))/\(Q .ret (L2 [pL 4] [(.loc 4,(enc .op d)),(.x 0,[sU .op z0 .unk,ci alone])]))) ((iB (d.kind==0) ((InR (d.n - n))/\(((0:Int)<=1/\1<=(l.length:Int))/\((([(OpOf.mk d.kind (d.n - n) d.l s)]).length+z0.length)*240<=140737488355328)/\(Q .ret (L2 [pL 4] [(.loc 4,([ci d.kind,ci n,sU .tree d.l .unk]++enc .edit d.e)),(.x 0,[sU .op (([(OpOf.mk d.kind (d.n - n) d.l s)])++z0) (.own (.x 0 0)),ci alone])])))) (((0:Int)<=n/\n<=(d.l.length:Int))/\(n=n)/\((0:Int)<=n/\n<=(d.l.length:Int))/\(((0:Int)<=1/\1<=(l.length:Int))/\((([(OpOf.mk d.kind d.n (List.drop n.toNat d.l) s)]).length+z0.length)*240<=140737488355328)/\(Q .ret (L2 [pL 4] [(.loc 4,([ci d.kind,ci d.n,sU .tree (List.take n.toNat d.l) .full]++enc .edit d.e)),(.x 0,[sU .op (([(OpOf.mk d.kind d.n (List.drop n.toNat d.l) s)])++z0) (.own (.x 0 0)),ci alone])])))))))))):
  ZLI [] (L2 [(0,.ptr (.x 0) 0),pI 1 n] [(.x 0,[sU .op l .unk,ci alone])]) Q:=
 Eq.mpr V6 (h _ rfl _ (Jt _) _ (Z5 _))
def ZDJ(l:List Op)(alone n:Int):Prop:=AW (Z3 ZsO) Tryz.f227 ZyT [] (Zm (Zmp.can ((l,alone,()),n,())) (Zmp.canX ((l,alone,()),n,()))) (EQ Tryz.f227 (Zh9 ((l,alone,()),n,())) (ZbW ((l,alone,()),n,())))
theorem ZBR(ZvF:CT 228 Z4D)(hb:∀ (l:List Op) (alone:Int) (n:Int) (_:Unit),ZaO ((l,alone,()),n,())->ZDJ l alone n):CT 227 Zbv:=
 Z14 (l:=[(228,Z4D)]) Zo rfl (⟨ZvF,trivial⟩) ZyT Tryz.func227 rfl rfl 2 (fun _=> rfl) V3 (fun ⟨⟨l,alone,_⟩,n,_⟩=> hb l alone n ())
def ZsZ:List (FuncId × Fs U):=[(226,Zbw),(227,Zbv),(228,Z4D),(229,Z4C)]
def Zz4:Zj U:=lvk [([0,1],[((.x 0),[]),((.x 1),[])]),([0,1,(6,[.own .piece])],[((.x 0),[]),((.x 1),[])]),([0,1,6,7],[((.x 0),[]),((.x 1),[])]),([0,1,(6,[.own .piece])],[((.x 0),[]),((.x 1),[])]),([0,1,6,33],[((.x 0),[]),((.x 1),[])]),([0,1,(6,[.own .piece])],[((.x 0),[]),((.x 1),[])]),([0,1,6,49],[((.x 0),[]),((.x 1),[])]),([0,1,(6,[.own .piece])],[((.x 0),[]),((.x 1),[])]),([0,1,6,65],[((.x 0),[]),((.x 1),[])]),([6,76],[((.x 0),[]),((.x 1),[])]),([4,5],[((.x 0),[]),((.x 1),[])]),([4,5],[((.x 0),[]),((.x 1),[])])]
def Z3S(pl:List Op)(pa:Int)(ql:List Op)(qa:Int)(mx0_0 mx1_0:List Op)(mx1_1:Int)(d:List Piece):LSt U:=(L2 [(0,.ptr (.x 0) 0),(1,.ptr (.x 1) 0),(6,.c (sU .piece d (.own (.e 6 0))))] [(.x 0,[sU .op mx0_0 .unk,ci pa]),(.x 1,[sU .op mx1_0 .unk,ci mx1_1])])
abbrev ZIC(p:List Nat):=AW (Z3 ZsZ) Tryz.f193 Zz4 p
theorem ZJa(pl:List Op)(pa:Int)(ql:List Op)(qa:Int)(Q:QT)(h:(Zi (ZIC [1,1,0,0]) (Z3S pl pa ql qa pl ql qa []) (xB 0 Q))):
  ZIC [] (L2 [(0,.ptr (.x 0) 0),(1,.ptr (.x 1) 0)] [(.x 0,[sU .op pl .unk,ci pa]),(.x 1,[sU .op ql .unk,ci qa])]) Q:=
 Eq.mpr V6 h
theorem Zwo(pl:List Op)(pa:Int)(ql:List Op)(qa:Int)(mx0_0 mx1_0:List Op)(mx1_1:Int)(x6:List Piece)(N0:NT)(Q:QT)(h:∀ aj,aj=(List.getD mx0_0 (Int.toNat 0) Op.nil)->∀ am,am=(List.getD mx1_0 (Int.toNat 0) Op.nil)->∀ ah,ah=(Edit.mk 0 (Tree.mk 0 [] []) (Tree.mk 0 [] []) [] [] 0 [])->∀ ak,ak=(List.getD (bif (!(decide (mx0_0.length=0))) then mx1_0 else mx1_0) (Int.toNat 0) Op.nil)->∀ d,d=aj->∀ aa,aa=am->∀ s,s=ak->∀ ai,ai=(ZK (mx0_0.getD 0 Op.nil) (Z2 d))->∀ al,al=(ZK (mx1_0.getD 0 Op.nil) (Z2 aa))->∀ ae,ae=(ZK (mx0_0.getD 0 Op.nil) (if ((Z2 s):Int) < (Z2 d) then (Z2 s) else (Z2 d)))->∀ ab,ab=(ZK ((bif (!(decide (mx0_0.length=0))) then mx1_0 else mx1_0).getD 0 Op.nil) (if ((Z2 s):Int) < (Z2 d) then (Z2 s) else (Z2 d)))->let z5:=Z5b ((mx0_0,pa,()),());let z4:=Piece.mk 2 (OpOf.mk 0 0 [] ah) al;let z3:=Piece.mk 1 ai (OpOf.mk 0 0 [] ah);let z0:=decide (mx0_0.length=0);let z2:=bif (!z0) then mx1_1 else mx1_1;let z1:=bif (!z0) then mx1_0 else mx1_0;(Z5b ((mx0_0,pa,()),()))/\(iB (sgl pa mx0_0) (((0:Int)<=0/\0 < (mx0_0.length:Int))/\(Z7K (d,()))/\(ZaO ((mx0_0,pa,()),(Z2 d),()))/\((x6.length+([z3]).length)*488<=140737488355328)/\(N0 (Z3S pl pa ql qa (Yd mx0_0 (Z2 d)) mx1_0 mx1_1 (x6++([z3]))))) ((Z5b ((mx1_0,mx1_1,()),()))/\(iB (sgl mx1_1 mx1_0) (((0:Int)<=0/\0 < (mx1_0.length:Int))/\(Z7K (aa,()))/\(ZaO ((mx1_0,mx1_1,()),(Z2 aa),()))/\((x6.length+([z4]).length)*488<=140737488355328)/\(N0 (Z3S pl pa ql qa mx0_0 (Yd mx1_0 (Z2 aa)) mx1_1 (x6++([z4]))))) (z5/\(Tt (!z0))/\((!z0)=true->Z5b ((mx1_0,mx1_1,()),()))/\(z0=false->(!z0)=true)/\(iB (bif z0 then true else (decide (mx1_0.length=0))) (z5/\(Z5b ((z1,z2,()),()))/\(iB (z0 !=(decide (z1.length=0))) ((Q .ret (L2 [(4,.c (.nils)),pB 5 false] [(.x 0,[sU .op mx0_0 .unk,ci pa]),(.x 1,[sU .op z1 .unk,ci z2])]))) ((Q .ret (L2 [(4,.c (sU .piece x6 (.own (.e 4 0)))),pB 5 true] [(.x 0,[sU .op mx0_0 .unk,ci pa]),(.x 1,[sU .op z1 .unk,ci z2])]))))) (((0:Int)<=0/\0 < (mx0_0.length:Int))/\(Z7K (d,()))/\((0:Int)<=0/\0 < (z1.length:Int))/\(Z7K (s,()))/\((ZaO ((mx0_0,pa,()),(if ((Z2 s):Int) < (Z2 d) then (Z2 s) else (Z2 d)),()))/\(ZaO ((z1,z2,()),(if ((Z2 s):Int) < (Z2 d) then (Z2 s) else (Z2 d)),()))/\((x6.length+([(Piece.mk 0 ae ab)]).length)*488<=140737488355328)/\(N0 (Z3S pl pa ql qa (Yd mx0_0 (if ((Z2 s):Int) < (Z2 d) then (Z2 s) else (Z2 d))) (Yd z1 (if ((Z2 s):Int) < (Z2 d) then (Z2 s) else (Z2 d))) z2 (x6++([(Piece.mk 0 ae ab)])))))))))))):
  ZIC [1,1,0,0] (Z3S pl pa ql qa mx0_0 mx1_0 mx1_1 x6) (xT N0 (xB 0 Q)):=
 Eq.mpr V6 (h _ rfl _ rfl _ rfl _ rfl _ (Jt _) _ (Jt _) _ (Jt _) _ (Jt _) _ (Jt _) _ (Jt _) _ (Jt _))
def ZE2(pl:List Op)(pa:Int)(ql:List Op)(qa:Int):Prop:=AW (Z3 ZsZ) Tryz.f193 Zz4 [] (Zm (Zmr.can ((pl,pa,()),(ql,qa,()),())) (Zmr.canX ((pl,pa,()),(ql,qa,()),()))) (EQ Tryz.f193 (Zlc ((pl,pa,()),(ql,qa,()),())) (ZfV ((pl,pa,()),(ql,qa,()),())))
theorem ZC6(ZGZ:CT 226 Zbw)(ZGY:CT 227 Zbv)(ZvF:CT 228 Z4D)(ZvE:CT 229 Z4C)(hb:∀ (h:List Op) (pa:Int) (s:List Op) (d:Int) (_:Unit),Zlp ((h,pa,()),(s,d,()),())->ZE2 h pa s d):CT 193 Z8C:=
 Z14 (l:=[(226,Zbw),(227,Zbv),(228,Z4D),(229,Z4C)]) Zo rfl (⟨ZGZ,ZGY,ZvF,ZvE,trivial⟩) Zz4 Tryz.func193 rfl rfl 2 (fun _=> rfl) V3 (fun ⟨⟨h,pa,_⟩,⟨s,d,_⟩,_⟩=> hb h pa s d ())
def ZsT:List (FuncId × Fs U):=[(193,Z8C)]
def ZyY:Zj U:=lvl [([0,1],[]),([4,5],[])]
abbrev ZLN(p:List Nat):=AW (Z3 ZsT) Tryz.f209 ZyY p
theorem ZJ1(p q:List Op)(Q:QT)(h:((Zlp ((p,1,()),(q,2,()),()))/\(Q .ret (L2 [(4,.c (sU .piece ((Y7 1 2 p q []).1) .unk)),pB 5 ((Y7 1 2 p q []).2.1)] [])))):
  ZLN [] (L2 [(0,.c (sU .op p .unk)),(1,.c (sU .op q .unk))] []) Q:=
 Eq.mpr V6 h
def ZDT(p q:List Op):Prop:=AW (Z3 ZsT) Tryz.f209 ZyY [] (Zm (ZtE.can (p,q,())) []) (EQ Tryz.f209 (ZxQ (p,q,())) [])
theorem ZBZ(ZAg:CT 193 Z8C)(hb:∀ (p:List Op) (q:List Op) (_:Unit),Zpz (p,q,())->ZDT p q):CT 209 Z3d:=
 Z9 (l:=[(193,Z8C)]) Zo rfl (⟨ZAg,trivial⟩) ZyY Tryz.func209 rfl rfl 2 (fun _=> rfl) V3 (fun ⟨p,q,_⟩=> hb p q ())
def Zsz:Zj U:=lvk [([0,1],[]),([0,1,5],[]),([0,1,(5,[.own .unit]),6],[]),([0,1,5,6,13],[]),([0,1,(5,[.own .unit]),6],[]),([0,1,5,6,7],[7]),([0,1,(5,[.own .unit]),6,7,8],[7]),([0,1,5,6,7,8,28],[7]),([0,1,(5,[.own .unit]),6,7,8],[7]),([0,1,5,6,7,8],[7]),([0,1,(5,[.own .unit]),6,7,9],[7]),([0,1,5,6,7,9,40],[7]),([0,1,(5,[.own .unit]),6,7,9],[7]),([0,1,5,6,7,9],[7]),([0,1,5,6,7,61],[7]),([0,1,5,6],[]),([4],[])]
def Z62(l:List Op)(alone d:Int)(h:List AUnit):LSt U:=(L2 [(0,.c (sU .op l .unk)),pI 1 alone,(5,.c (sU .unit h (.own (.e 5 0)))),pI 6 d] [])
def Z9v(l:List Op)(alone s d:Int)(h:List AUnit):LSt U:=(L2 [(0,.c (sU .op l .unk)),pI 1 alone,(5,.c (sU .unit h (.own (.e 5 0)))),pI 6 s,pL 7,pI 8 d] [(.loc 7,(enc .op (l.getD s.toNat Op.nil)))])
def Z9u(l:List Op)(alone s h:Int)(d:List AUnit):LSt U:=(L2 [(0,.c (sU .op l .unk)),pI 1 alone,(5,.c (sU .unit d (.own (.e 5 0)))),pI 6 s,pL 7,pI 9 h] [(.loc 7,(enc .op (l.getD s.toNat Op.nil)))])
abbrev Zr1(p:List Nat):=AW (Z3 Zqg) Tryz.f157 Zsz p
abbrev Zdk(p:List Nat):=SW (Z3 Zqg) Tryz.f157 Zsz p
theorem ZJx(l:List Op)(alone:Int)(Q:QT)(h:(Zi (Zr1 [1,1,0,1,0,0]) (Z62 l alone 0 []) (xB 0 (Zdk [1,1,1] Q)))):
  Zr1 [] (L2 [(0,.c (sU .op l .unk)),pI 1 alone] []) Q:=
 Eq.mpr V6 h
theorem ZwN(l:List Op)(alone d:Int)(s:List AUnit)(N0:NT)(Q:QT)(h:(iB (decide (d < (l.length:Int))) (((0:Int)<=d/\d < (l.length:Int))/\(Zi (Zr1 [1,1,0,1,0,0,1,0,0,1,0,1,0,0]) (Z9v l alone d 0 s) (xB 2 (Zdk [1,1,0,1,0,0,1,0,0,1,1] (xB 1 (Zdk [1,1,0,1,0,0,1,1] (xT N0 (xB 0 (Zdk [1,1,1] Q))))))))) ((Q .ret (L2 [(4,.c (sU .unit s (.own (.e 4 0))))] []))))):
  Zr1 [1,1,0,1,0,0] (Z62 l alone d s) (xT N0 (xB 0 (Zdk [1,1,1] Q))):=
 Eq.mpr V6 h
theorem ZwM(l:List Op)(alone x6 d:Int)(s:List AUnit)(N1 N0:NT)(Q:QT)(h:let z1:=AUnit.mk x6 0 (Tree.mk 0 [] []) (Edit.mk 0 (Tree.mk 0 [] []) (Tree.mk 0 [] []) [] [] 0 []) false;let z0:=decide (d < (OpOf.n (l.getD x6.toNat Op.nil)));(Tt z0)/\(Tt z0)/\(Tt z0)/\(iB (bif z0 then (((OpOf.kind (l.getD x6.toNat Op.nil)):Int)==0) else false) (((s.length+([z1]).length)*280<=140737488355328)/\((InR (d+1))/\(N1 (Z9v l alone x6 (d+1) (s++([z1])))))) ((Zi (Zr1 [1,1,0,1,0,0,1,0,0,1,1,0,1,0,0]) (Z9u l alone x6 0 s) (xB 4 (Zdk [1,1,0,1,0,0,1,0,0,1,1,1] (xB 1 (Zdk [1,1,0,1,0,0,1,1] (xT N0 (xB 0 (Zdk [1,1,1] Q))))))))))):
  Zr1 [1,1,0,1,0,0,1,0,0,1,0,1,0,0] (Z9v l alone x6 d s) (xT N1 (xB 2 (Zdk [1,1,0,1,0,0,1,0,0,1,1] (xB 1 (Zdk [1,1,0,1,0,0,1,1] (xT N0 (xB 0 (Zdk [1,1,1] Q)))))))):=
 Eq.mpr V6 h
theorem ZwL(l:List Op)(alone x6 d:Int)(s:List AUnit)(N2 N0:NT)(Q:QT)(h:∀ aa,aa=(l.getD x6.toNat Op.nil)->∀ af,af=(aa.e)->∀ ae,ae=(aa.l.getD d.toNat Tree.nil)->let z1:=AUnit.mk x6 3 (Tree.mk 0 [] []) af false;let z0:=AUnit.mk x6 aa.kind ae (Edit.mk 0 (Tree.mk 0 [] []) (Tree.mk 0 [] []) [] [] 0 []) (aa.kind==alone);(iB (decide (d < (aa.l.length:Int))) (((0:Int)<=d/\d < (aa.l.length:Int))/\((s.length+([z0]).length)*280<=140737488355328)/\((InR (d+1))/\(N2 (Z9u l alone x6 (d+1) (s++([z0])))))) ((iB (aa.kind==3) (((s.length+([z1]).length)*280<=140737488355328)/\((InR (x6+1))/\(N0 (Z62 l alone (x6+1) (s++([z1])))))) ((InR (x6+1))/\(N0 (Z62 l alone (x6+1) s))))))):
  Zr1 [1,1,0,1,0,0,1,0,0,1,1,0,1,0,0] (Z9u l alone x6 d s) (xT N2 (xB 4 (Zdk [1,1,0,1,0,0,1,0,0,1,1,1] (xB 1 (Zdk [1,1,0,1,0,0,1,1] (xT N0 (xB 0 (Zdk [1,1,1] Q)))))))):=
 Eq.mpr V6 (h _ rfl _ (Z5 _) _ (Zc _))
def ZEp(l:List Op)(alone:Int):Prop:=AW (Z3 Zqg) Tryz.f157 Zsz [] (Zm (ZtY.can (l,alone,())) []) (EQ Tryz.f157 (Zy1 (l,alone,())) [])
theorem ZCm(hb:∀ (l:List Op) (alone:Int) (_:Unit),Zhy (l,alone,())->ZEp l alone):CT 157 Z6t:=
 Z9 (l:=[]) Zo rfl trivial Zsz Tryz.func157 rfl rfl 2 (fun _=> rfl) V3 (fun ⟨l,alone,_⟩=> hb l alone ())
def ZsA:Zj U:=lvk [([0,1],[]),([0,1,6],[]),([0,1,(6,[.own .pair]),7,8],[]),([0,1,6,7,8,18],[]),([0,1,6,7,8,29],[]),([0,1,6,7,8],[]),([0,1,(6,[.own .pair]),7,8],[]),([0,1,6,7,8,50],[]),([0,1,6,7,8],[]),([0,1,(6,[.own .pair]),7,8],[]),([0,1,6,7,8,70],[]),([4,5],[]),([0,1,6,7,8],[]),([0,1,6,7,8],[]),([0,1,(6,[.own .pair]),7,8],[]),([4,5],[])]
def Z3U(p q:List AUnit)(s h:Int)(d:List APair):LSt U:=(L2 [(0,.c (sU .unit p .unk)),(1,.c (sU .unit q .unk)),(6,.c (sU .pair d (.own (.e 6 0)))),pI 7 s,pI 8 h] [])
abbrev ZII(p:List Nat):=AW (Z3 Zqg) Tryz.f156 ZsA p
abbrev ZKx(p:List Nat):=SW (Z3 Zqg) Tryz.f156 ZsA p
theorem ZJy(p q:List AUnit)(Q:QT)(h:(Zi (ZII [1,1,1,0,0,0]) (Z3U p q 0 0 []) (xB 0 (ZKx [1,1,1,1] Q)))):
  ZII [] (L2 [(0,.c (sU .unit p .unk)),(1,.c (sU .unit q .unk))] []) Q:=
 Eq.mpr V6 h
theorem ZwO(p q:List AUnit)(d s:Int)(x6:List APair)(N0:NT)(Q:QT)(h:∀ af,af=(p.getD d.toNat AUnit.nil)->∀ ah,ah=(q.getD s.toNat AUnit.nil)->∀ ai,ai=(Edit.mk 0 (Tree.mk 0 [] []) (Tree.mk 0 [] []) [] [] 0 [])->∀ aa,aa=af->∀ ab,ab=ah->let z3:=AUnit.mk 0 0 (Tree.mk 0 [] []) ai false;let z2:=decide (((p.length:Int):Int)<=d);let z1:=decide (s < (q.length:Int));let z0:=decide (d < (p.length:Int));(Tt (!z0))/\(Tt (!z0))/\(Tt (!z0))/\(z0=false->(!z0)=true)/\(iB (bif z0 then true else z1) ((Tt z0)/\(Tt z0)/\(z0=true->(0:Int)<=d/\d < (p.length:Int))/\(Tt z0)/\(Tt z0)/\(Tt z0)/\(iB (bif z0 then af.alone else false) (((0:Int)<=d/\d < (p.length:Int))/\((x6.length+([(APair.mk 1 aa z3)]).length)*568<=140737488355328)/\((InR (d+1))/\(N0 (Z3U p q (d+1) s (x6++([(APair.mk 1 aa z3)])))))) ((Tt z1)/\(Tt z1)/\(z1=true->(0:Int)<=s/\s < (q.length:Int))/\(Tt z1)/\(Tt z1)/\(Tt z1)/\(iB (bif z1 then ah.alone else false) (((0:Int)<=s/\s < (q.length:Int))/\((x6.length+([(APair.mk 2 z3 ab)]).length)*568<=140737488355328)/\((InR (s+1))/\(N0 (Z3U p q d (s+1) (x6++([(APair.mk 2 z3 ab)])))))) ((Tt (!z2))/\(Tt (!z2))/\(Tt (!z2))/\(z2=false->(!z2)=true)/\(iB (bif z2 then true else (decide (((q.length:Int):Int)<=s))) ((Q .ret (L2 [(4,.c (.nils)),pB 5 false] []))) (((0:Int)<=d/\d < (p.length:Int))/\((0:Int)<=s/\s < (q.length:Int))/\((x6.length+([(APair.mk 0 aa ab)]).length)*568<=140737488355328)/\((InR (d+1))/\((InR (s+1))/\(N0 (Z3U p q (d+1) (s+1) (x6++([(APair.mk 0 aa ab)]))))))))))))) ((Q .ret (L2 [(4,.c (sU .pair x6 (.own (.e 4 0)))),pB 5 true] []))))):
  ZII [1,1,1,0,0,0] (Z3U p q d s x6) (xT N0 (xB 0 (ZKx [1,1,1,1] Q))):=
 Eq.mpr V6 (h _ rfl _ rfl _ rfl _ (Z1T _) _ (Z1T _))
def ZEq(p q:List AUnit):Prop:=AW (Z3 Zqg) Tryz.f156 ZsA [] (Zm (ZtZ.can (p,q,())) []) (EQ Tryz.f156 (Zlh (p,q,())) [])
theorem ZCn(hb:∀ (p:List AUnit) (q:List AUnit) (_:Unit),Zls (p,q,())->ZEq p q):CT 156 Z6u:=
 Z9 (l:=[]) Zo rfl trivial ZsA Tryz.func156 rfl rfl 2 (fun _=> rfl) V3 (fun ⟨p,q,_⟩=> hb p q ())
def Zz3:Zj U:=lvl [([1,2],[1,2]),([1,2,4],[1,2]),([1,2,4,5],[1,2]),([2],[2]),([1,2,8],[1,2]),([2],[2]),([2],[2])]
abbrev ZLS(p:List Nat):=AW (Z3 Zqg) Tryz.f201 Zz3 p
theorem ZJ8(u:AUnit)(Q:QT)(h:(iB (u.kind==0) ((Q .ret (L2 [pL 2] [(.loc 2,[ci 0,ci 1,.nils,ci 0,ci 0,.nils,.nils,ci 0,.nils,.nils,.nils,.nils,ci 0,.nils])]))) ((iB (u.kind==3) ((Q .ret (L2 [pL 2] [(.loc 2,([ci 3,ci 0,.nils]++enc .edit u.e))]))) ((Q .ret (L2 [pL 2] [(.loc 2,[ci u.kind,ci 0,sU .tree ([(Tree.mk u.t.kind u.t.words u.t.kids)]) .full,ci 0,ci 0,.nils,.nils,ci 0,.nils,.nils,.nils,.nils,ci 0,.nils])]))))))):
  ZLS [] (L2 [(0,.agg (enc .unit u))] []) Q:=
 Eq.mpr V6 h
def ZE0(u:AUnit):Prop:=AW (Z3 Zqg) Tryz.f201 Zz3 [] (Zm (ZtJ.can (u,())) []) (EQ Tryz.f201 (Zha (u,())) [])
theorem ZC4(hb:∀ (u:AUnit) (_:Unit),ZdN (u,())->ZE0 u):CT 201 Z6s:=
 Z9 (l:=[]) Zo rfl trivial Zz3 Tryz.func201 rfl rfl 1 (fun _=> rfl) V3 (fun ⟨u,_⟩=> hb u ())
def Zqj:List (FuncId × Fs U):=[(26,Z25)]
def ZCJ:Zj U:=lvl [([0,1],[]),([0,1,10],[]),([4],[]),([0,1,5],[]),([0,1,5,14],[]),([0,1,5],[]),([0,1,5,26],[]),([4],[]),([4],[])]
def ZcP(a b:List Tree)(d:Int):LSt U:=(L2 [(0,.c (sU .tree a .unk)),(1,.c (sU .tree b .unk)),pI 5 d] [])
abbrev A69(p:List Nat):=AW (Z3 Zqj) Tryz.f69 ZCJ p
abbrev S69(p:List Nat):=SW (Z3 Zqj) Tryz.f69 ZCJ p
theorem ZKV(a b:List Tree)(Q:QT)(h:(iB (((a.length:Int):Int) !=(b.length:Int)) ((Q .ret (L2 [pB 4 false] []))) ((Zi (A69 [1,1,0,1,0,0]) (ZcP a b 0) (xB 0 (S69 [1,1,1] Q)))))):
  A69 [] (L2 [(0,.c (sU .tree a .unk)),(1,.c (sU .tree b .unk))] []) Q:=
 Eq.mpr V6 h
theorem ZBh(a b:List Tree)(d:Int)(N0:NT)(Q:QT)(h:let z3:=a.getD d.toNat Tree.nil;let z2:=b.getD d.toNat Tree.nil;let z1:=Tree.mk (Tree.kind z2) (Tree.words z2) (Tree.kids z2);let z0:=Tree.mk (Tree.kind z3) (Tree.words z3) (Tree.kids z3);(iB (decide (d < (a.length:Int))) (((0:Int)<=d/\d < (a.length:Int))/\((0:Int)<=d/\d < (b.length:Int))/\(Z4g (z0,z1,()))/\(iB (!(YM z0 z1)) ((Q .ret (L2 [pB 4 false] []))) ((InR (d+1))/\(N0 (ZcP a b (d+1)))))) ((Q .ret (L2 [pB 4 true] []))))):
  A69 [1,1,0,1,0,0] (ZcP a b d) (xT N0 (xB 0 (S69 [1,1,1] Q))):=
 Eq.mpr V6 h
def ZIe(a b:List Tree):Prop:=AW (Z3 Zqj) Tryz.f69 ZCJ [] (Zm (ZAx.can (a,b,())) []) (EQ Tryz.f69 (ZEU (a,b,())) [])
theorem ZGl(c26:CT 26 Z25)(hb:∀ (a:List Tree) (b:List Tree) (_:Unit),Znx (a,b,())->ZIe a b):CT 69 ZgJ:=
 Z9 (l:=[(26,Z25)]) Zo rfl (⟨c26,trivial⟩) ZCJ Tryz.func69 rfl rfl 2 (fun _=> rfl) V3 (fun ⟨a,b,_⟩=> hb a b ())
def Zqr(N:Nat):List (FuncId × Fs U):=(18,fs ZqV (fun a=> [Zc2 a,ZnS a < N]) ZxW) ::[(26,Z25),(69,ZgJ)]
def ZCR:Zj U:=lvl [([2,3],[2,3]),([2,3,64],[2,3]),([4],[]),([2,3,5],[2,3]),([2,3,5,69],[2,3]),([2,3,5],[2,3]),([2,3,5,82],[2,3]),([4],[]),([2,3,6],[2,3]),([2,3,6,87],[2,3]),([2,3,6],[2,3]),([2,3,6,118],[2,3]),([4],[]),([2,3,7],[2,3]),([2,3,7,123],[2,3]),([2,3,7],[2,3]),([2,3,7,8,9],[2,3,8,9]),([2,3,7,163],[2,3]),([4],[]),([4],[])]
def Zd4(a b:Edit)(d:Int):LSt U:=(L2 [pL 2,pL 3,pI 5 d] [(.loc 2,(enc .edit a)),(.loc 3,(enc .edit b))])
def Zd3(a b:Edit)(d:Int):LSt U:=(L2 [pL 2,pL 3,pI 6 d] [(.loc 2,(enc .edit a)),(.loc 3,(enc .edit b))])
def Zd2(a b:Edit)(d:Int):LSt U:=(L2 [pL 2,pL 3,pI 7 d] [(.loc 2,(enc .edit a)),(.loc 3,(enc .edit b))])
abbrev A18(N:Nat)(p:List Nat):=AW (Z3 (Zqr N)) Tryz.f18 ZCR p
abbrev S18(N:Nat)(p:List Nat):=SW (Z3 (Zqr N)) Tryz.f18 ZCR p
theorem ZLc(N:Nat)(a b:Edit)(Q:QT)(h:∀ aa,aa=(a.new)->∀ s,s=(b.new)->∀ ab,ab=(a.old)->∀ d,d=(b.old)->let z5:=a.kind !=b.kind;let z3:=bif z5 then true else (a.list !=b.list);let z1:=bif z3 then true else (!(YM ab d));let z4:=bif z1 then true else (!(YM aa s));let z0:=bif z4 then true else (((a.words.length:Int):Int) !=(b.words.length:Int));let z2:=bif z0 then true else (((a.kids.length:Int):Int) !=(b.kids.length:Int));((Tt (!z5))/\(Tt (!z5))/\(Tt (!z5))/\(Tt (!z5))/\(z5=false->(!z5)=true)/\(Tt (!z3))/\(Tt (!z3))/\(Tt (!z3))/\(Tt (!z3))/\((!z3)=true->Z4g (ab,d,()))/\(Tt (!z3))/\(z3=false->(!z3)=true)/\(Tt (!z1))/\(Tt (!z1))/\(Tt (!z1))/\(Tt (!z1))/\((!z1)=true->Z4g (aa,s,()))/\(Tt (!z1))/\(z1=false->(!z1)=true)/\(Tt (!z4))/\(Tt (!z4))/\(Tt (!z4))/\(Tt (!z4))/\(Tt (!z4))/\(Tt (!z4))/\(z4=false->(!z4)=true)/\(Tt (!z0))/\(Tt (!z0))/\(Tt (!z0))/\(Tt (!z0))/\(Tt (!z0))/\(Tt (!z0))/\(z0=false->(!z0)=true)/\(Tt (!z2))/\(Tt (!z2))/\(Tt (!z2))/\(Tt (!z2))/\(Tt (!z2))/\(Tt (!z2))/\(z2=false->(!z2)=true)/\(iB (bif z2 then true else (((a.ops.length:Int):Int) !=(b.ops.length:Int))) ((Q .ret (L2 [pB 4 false] []))) ((Zi (A18 N [1,1,0,1,0,0]) (Zd4 a b 0) (xB 0 (S18 N [1,1,1] Q))))))):
  A18 N [] (L2 [(0,.agg (enc .edit a)),(1,.agg (enc .edit b))] []) Q:=
 Eq.mpr V6 (h _ (Zc _) _ (Zc _) _ (Zc _) _ (Zc _))
theorem ZBy(N:Nat)(a b:Edit)(d:Int)(N0:NT)(Q:QT)(h:let z1:=b.words.getD d.toNat (WEdit.mk 0 0 0 0);let z0:=a.words.getD d.toNat (WEdit.mk 0 0 0 0);(iB (decide (d < (a.words.length:Int))) (((0:Int)<=d/\d < (a.words.length:Int))/\((0:Int)<=d/\d < (b.words.length:Int))/\(iB (!((((WEdit.at_ z0):Int)==(WEdit.at_ z1)) && ((((WEdit.mask z0):Int)==(WEdit.mask z1)) && ((((WEdit.old z0):Int)==(WEdit.old z1)) && ((((WEdit.new z0):Int)==(WEdit.new z1)) && true))))) ((Q .ret (L2 [pB 4 false] []))) ((InR (d+1))/\(N0 (Zd4 a b (d+1)))))) ((Zi (A18 N [1,1,1,0,1,0,0]) (Zd3 a b 0) (xB 2 (S18 N [1,1,1,1] Q)))))):
  A18 N [1,1,0,1,0,0] (Zd4 a b d) (xT N0 (xB 0 (S18 N [1,1,1] Q))):=
 Eq.mpr V6 h
theorem ZBx(N:Nat)(a b:Edit)(d:Int)(N1:NT)(Q:QT)(h:∀ ab,ab=(a.kids.getD d.toNat (KidOf.mk 0 Edit.nil))->∀ ae,ae=(b.kids.getD d.toNat (KidOf.mk 0 Edit.nil))->∀ s,s=(ab.e)->∀ aa,aa=(ae.e)->let z1:=ab.at_ !=ae.at_;let z0:= !z1;(iB (decide (d < (a.kids.length:Int))) (((0:Int)<=d/\d < (a.kids.length:Int))/\((0:Int)<=d/\d < (b.kids.length:Int))/\(Tt z0)/\(Tt z0)/\(Tt z0)/\(z0=true->(0:Int)<=d/\d < (a.kids.length:Int))/\(Tt z0)/\(Tt z0)/\(Tt z0)/\(Tt z0)/\(Tt z0)/\(z0=true->(0:Int)<=d/\d < (b.kids.length:Int))/\(Tt z0)/\(Tt z0)/\(Tt z0)/\(Tt z0)/\(z0=true->Zc2 (s,aa,()))/\(z0=true->ZnS (s,aa,()) < N)/\(Tt z0)/\(z1=false->z0=true)/\(iB (bif z1 then true else (!(eqX s aa))) ((Q .ret (L2 [pB 4 false] []))) ((InR (d+1))/\(N1 (Zd3 a b (d+1)))))) ((Zi (A18 N [1,1,1,1,0,1,0,0]) (Zd2 a b 0) (xB 4 (S18 N [1,1,1,1,1] Q)))))):
  A18 N [1,1,1,0,1,0,0] (Zd3 a b d) (xT N1 (xB 2 (S18 N [1,1,1,1] Q))):=
 Eq.mpr V6 (h _ rfl _ rfl _ (Z5 _) _ (Z5 _))
theorem ZBw(N:Nat)(a b:Edit)(d:Int)(N2:NT)(Q:QT)(h:∀ s,s=(a.ops.getD d.toNat Op.nil)->∀ aa,aa=(b.ops.getD d.toNat Op.nil)->∀ ab,ab=(s.e)->∀ ae,ae=(aa.e)->let z2:=s.kind !=aa.kind;let z0:=bif z2 then true else (s.n !=aa.n);let z1:=bif z0 then true else (!(eqX s.l aa.l));(iB (decide (d < (a.ops.length:Int))) (((0:Int)<=d/\d < (a.ops.length:Int))/\((0:Int)<=d/\d < (b.ops.length:Int))/\((Tt (!z2))/\(Tt (!z2))/\(Tt (!z2))/\(Tt (!z2))/\(z2=false->(!z2)=true)/\(Tt (!z0))/\(Tt (!z0))/\(Tt (!z0))/\(Tt (!z0))/\((!z0)=true->Znx (s.l,aa.l,()))/\(Tt (!z0))/\(z0=false->(!z0)=true)/\(Tt (!z1))/\(Tt (!z1))/\(Tt (!z1))/\(Tt (!z1))/\((!z1)=true->Zc2 (ab,ae,()))/\((!z1)=true->ZnS (ab,ae,()) < N)/\(Tt (!z1))/\(z1=false->(!z1)=true)/\(iB (bif z1 then true else (!(eqX ab ae))) ((Q .ret (L2 [pB 4 false] []))) ((InR (d+1))/\(N2 (Zd2 a b (d+1))))))) ((Q .ret (L2 [pB 4 true] []))))):
  A18 N [1,1,1,1,0,1,0,0] (Zd2 a b d) (xT N2 (xB 4 (S18 N [1,1,1,1,1] Q))):=
 Eq.mpr V6 (h _ rfl _ rfl _ (Z5 _) _ (Z5 _))
def ZIv(N:Nat)(a b:Edit):Prop:=AW (Z3 (Zqr N)) Tryz.f18 ZCR [] (Zm (ZqV.can (a,b,())) []) (EQ Tryz.f18 (ZxW (a,b,())) [])
theorem ZGz(c26:CT 26 Z25)(c69:CT 69 ZgJ)(hb:∀ (N:Nat) (a:Edit) (b:Edit) (_:Unit),Zc2 (a,b,())->ZnS (a,b,()) < N+1->ZIv N a b):CT 18 ZgS:=
 YX (μ:=ZnS) (l:=[(26,Z25),(69,ZgJ)]) Zo rfl (⟨c26,c69,trivial⟩) ZCR Tryz.func18 rfl rfl 2 (fun _=> rfl) V3 (fun N ⟨a,b,_⟩=> hb N a b ())
end
theorem Zk2:Z0 Edit.nil=3:=by rfl
theorem ZpM{o:Op}(h:Zs o<=20000000000):o.l.length<=20000000000:=by
 have:=ZD o.l
 rw [ZR] at h
 omega
theorem Zb3{o:Op}(h:ZZ o):0<=o.n/\o.n<=1048576:=by
 unfold ZZ at h
 omega
theorem Jm(o:Op):Z2 o=if o.kind=3 then 1 else o.n+o.l.length:=rfl
theorem ZvF:Contract Tryz.prog cfg 228 Z4D:=by
 refine ZBQ ?_
 intro o _ h
 simp only [Z7K] at h
 have hl:=ZpM h.1
 refine ZIQ _ _ ?_;(try simp only [iB,vcT,forall_eq])
 (simp only [iB,vcS]);(try simp only [iB,vcT])
 exact ⟨fun d=> YW rfl (by rw [Jm,if_pos d]),fun d=> ⟨V5,YW rfl (by rw [Jm,if_neg d])⟩⟩
theorem ZvE:Contract Tryz.prog cfg 229 Z4C:=by
 refine ZBP ?_
 intro l d _ h
 refine ZIP _ _ _ ?_;(try simp only [iB,vcT,forall_eq])
 have e:((l.length:Int)==0)=decide (l.length=0):=by rw [QM];(simp only [iB,vcS]);omega
 rw [e]
 exact V2
theorem ZGZ:Contract Tryz.prog cfg 226 Zbw:=by
 refine ZBS ZvE ?_
 intro l d _ s
 refine ZIS _ _ _ ?_;(try simp only [iB,vcT,forall_eq])
 have e:(bif (!(decide (l.length=0))) then ((OpOf.kind (List.getD l (Int.toNat 0) Op.nil))==d) else false)=sgl d l:=by
  rw [QM]
  simp only [sgl]
  (simp only [iB,vcS])
  try rfl
 rw [e]
 refine ⟨s,fun h=> ⟨V1,?_⟩,V2⟩
 grind
theorem ZH6(ZAg:Contract Tryz.prog cfg 193 Z8C):Contract Tryz.prog cfg 209 Z3d:=by
 refine ZBZ ZAg ?_
 intro p q _ d
 refine ZJ1 _ _ _ ?_;(try simp only [iB,vcT,forall_eq])
 refine ⟨d,?_⟩
 exact V2
theorem ZGY:Contract Tryz.prog cfg 227 Zbv:=by
 refine ZBR ZvF ?_
 intro l al n _ hp
 simp only [ZaO] at hp
 obtain ⟨⟨ho,hm⟩,hl,h1,h2⟩:=hp
 have d:=Zh (l:=l) (i:=0) V1 Op.nil
 have ab:=ho _ d
 have ai:=ZW d
 have ah:=ZQ l
 refine ZIR _ _ _ _ ?_;(try simp only [iB,vcT])
 rintro y rfl _ rfl _ rfl
 have e0:(Int.toNat 0)=0:=rfl
 have e1:(Int.toNat 1)=1:=rfl
 simp only [e0,e1]
 have hT:∀ o r,ZK (l.getD 0 Op.nil) n=o->Yd l n=r->True:=fun _ _ _ _=> trivial
 have ae:=Zb3 ab
 have ak:=Jm (l.getD 0 Op.nil)
 (simp only [iB,vcS])
 generalize hy:l.getD 0 Op.nil=y at*
 refine ⟨⟨V1,V1⟩,⟨by grind,ae⟩,fun hc=> ⟨⟨V1,V1⟩,?_⟩,fun hc=> ⟨fun h=> ⟨V5,⟨V1,V1⟩,by simp;omega,?_⟩,fun h=> ?_⟩⟩
 .have s:ZK y n=y:=by rw [ZK,if_pos hc]
  have t2:Yd l n=l.drop 1:=by rw [Yd,hy,if_pos hc]
  simp only [Zh9,ZbW,hy,s,t2]
  exact V2
 .have s:ZK y n=⟨y.kind,n,y.l,y.e⟩:=by rw [ZK,if_neg hc,if_pos h]
  have t2:Yd l n=⟨y.kind,y.n - n,y.l,y.e⟩ ::l.drop 1:=by rw [Yd,hy,if_neg hc,Z0M,if_pos h]
  simp only [Zh9,ZbW,hy,s,t2]
  exact V2
 .have s:ZK y n=⟨y.kind,y.n,y.l.take n.toNat,y.e⟩:=by rw [ZK,if_neg hc,if_neg h]
  have t2:Yd l n=⟨y.kind,y.n,y.l.drop n.toNat,y.e⟩ ::l.drop 1:=by rw [Yd,hy,if_neg hc,Z0M,if_neg h]
  simp only [Zh9,ZbW,hy,s,t2]
  unfold ZZ at ab
  refine ⟨?_,?_,⟨V1,V1⟩,by simp;omega,?_⟩
  .omega
  .omega
  ·exact V2
theorem Z4t(n:Nat):∀ (l:List Tree),Ze (l.drop n)<=Ze l:=by
 induction n with
 | zero=> intro l;simp
 | succ n ih=>
  intro l
  cases l with
  | nil=> simp
  | cons t r=> simp only [QC,Ze];grind
theorem Zi6(n:Nat):∀ (l:List Tree),Ze (l.take n)<=Ze l:=by
 induction n with
 | zero=> intro l;simp [Ze]
 | succ n ih=>
  intro l
  cases l with
  | nil=> simp
  | cons t r=> simp only [List.take_succ_cons,Ze];grind
theorem Yh{o:Op}(h:ZZ o):1<=Z2 o:=by
 have:=Jm o
 unfold ZZ at h
 have hl:o.l≠[]->0 < o.l.length:=List.length_pos_iff.2
 grind
theorem Z7V{o:Op}(h:ZZ o)(hm:Zs o<=20000000000):Z2 o<=20000000000:=by
 have:=Jm o
 have:=ZpM hm
 have:=Zb3 h
 unfold ZZ at h
 grind
theorem Z4V(o:Op)(r:List Op):Zg (o ::r)=Zs o+Zg r:=rfl
theorem Z8V{l:List Op}(h:Zce l):Zce (l.drop 1):=by
 cases l with
 | nil=> exact h
 | cons o r=>
  obtain ⟨d,h2⟩:=h
  rw [Z4V] at h2
  exact ⟨fun x s=> d x (Q0 _ s),by grind⟩
theorem Ze0{l:List Op}(h:Zce l)(hl:l.length≠0):ZZ (l.getD 0 Op.nil)/\Zs (l.getD 0 Op.nil)<=20000000000/\Zs (l.getD 0 Op.nil)<=Zg l:=by
 have d:=Zh (l:=l) (i:=0) V1 Op.nil
 have:=ZW d
 exact ⟨h.1 _ d,by have:=h.2;omega,this⟩
theorem Zdg{o:Op}{n:Int}(h:ZZ o)(h1:1<=n)(h2:¬Z2 o<=n):ZZ (Z0M o n)/\Zs (Z0M o n)<=Zs o:=by
 have hl:=Jm o
 unfold Z0M
 unfold ZZ at*
 by_cases hk:o.kind=0
 .rw [if_pos hk]
  refine ⟨Or.inl ?_,by simp only [ZR];omega⟩
  grind
 .rw [if_neg hk]
  have:=Z4t n.toNat o.l
  refine ⟨Or.inr ?_,by simp only [ZR];omega⟩
  rcases h with h | h | h
  .omega
  .obtain ⟨a,b,c,d⟩:=h
   rw [Jv] at hl
   refine Or.inl ⟨a,b,?_,d⟩
   intro s
   have:=congrArg List.length s
   grind
  omega
theorem ZhK{l:List Op}{n:Int}(h:Zce l)(hl:l.length≠0)(h1:1<=n):Zce (Yd l n):=by
 unfold Yd
 split
 .exact Z8V h
 .rename_i hc
  obtain ⟨a,b,c⟩:=Ze0 h hl
  obtain ⟨d,e⟩:=Zdg a h1 hc
  have hd:=Z8V h
  refine ⟨fun x s=> ?_,?_⟩
  .rcases Qa.1 s with rfl | s
   .exact d
   .exact hd.1 _ s
  .rw [Z4V]
   obtain _ | ⟨o,r⟩:=l
   .simp at hl
   .have:=h.2
    rw [Z4V] at this
    grind
theorem Z8w(l:List Op):Yd l (Z2 (l.getD 0 Op.nil))=l.drop 1:=by rw [Yd,if_pos (QS _)]
theorem Z8x(o:Op):ZK o (Z2 o)=o:=by rw [ZK,if_pos (QS _)]
theorem ZrB{a:Int}{l:List Op}(h:sgl a l=true):l.length≠0:=(of_decide_eq_true h).1
theorem Zj6{α:Type}(b:Bool)(x:α):(bif b then x else x)=x:=by grind
theorem ZAg:Contract Tryz.prog cfg 193 Z8C:=by
 refine ZC6 ZGZ ZGY ZvF ZvE ?_
 intro pl pa ql qa _ hp
 simp only [Zlp] at hp
 have bh:=ZQ pl
 have bj:=ZQ ql
 have hP:=hp.1.2
 have hQ:=hp.2.2
 refine ZJa _ _ _ _ _ ?_;(try simp only [iB,vcT,forall_eq])
 refine Z7 (ι:=List Op × List Op × List Piece) (fun s=> Z3S pl pa ql qa s.1 s.2.1 qa s.2.2) (fun s=> Zce s.1/\Zce s.2.1/\s.2.2.length+s.1.length+s.2.1.length<=40000000000/\Y7 pa qa s.1 s.2.1 s.2.2=Y7 pa qa pl ql []) (fun s=> s.1.length+s.2.1.length) (pl,ql,[]) rfl ⟨hp.1,hp.2,by simp;omega,rfl⟩ ?_
 rintro ⟨p,q,out⟩ ⟨h1,h2,h3,d⟩
 refine Zwo _ _ _ _ _ _ _ _ _ _ ?_;(try simp only [iB,vcT])
 have e0:(Int.toNat 0)=0:=rfl
 simp only [e0,Zj6]
 dsimp only at h1 h2 h3 d
 rintro z1 ak z2 ae y3 a9 z4 ba y1 rfl y2 rfl y4 rfl y8 av y9 aw a7 af bc aj
 have ey:y4=y2:=ba.trans ae.symm
 rw [ey] at af aj ⊢
 have e3:(OpOf.mk 0 0 [] y3:Op)=Op.nil:=by rw [a9];try rfl
 rw [<-ak,Z8x] at av
 rw [<-ae,Z8x] at aw
 have ah:∀ a b:Int,(if a < b then a else b)=min b a:=by intro a b;omega
 rw [<-ak,ah] at af
 rw [<-ae,ah] at aj
 simp only [ah,e3,av,aw]
 (simp only [iB,vcS])
 have o1:p.length≠0->ZZ y1/\Zs y1<=20000000000:=fun h=> by have:=Ze0 h1 h;grind
 have o2:q.length≠0->ZZ y2/\Zs y2<=20000000000:=fun h=> by have:=Ze0 h2 h;grind
 have tp:Yd p (Z2 y1)=p.drop 1:=by rw [ak];exact Z8w p
 have tq:Yd q (Z2 y2)=q.drop 1:=by rw [ae];exact Z8w q
 have bi:=ZQ p
 have be:=ZQ q
 have bl:=h1.2
 have bk:=h2.2
 rw [Y7] at d
 rw [<-ak,<-ae] at d
 refine ⟨by simp only [Z5b];omega,fun hs=> ?_,fun hs=> ?_⟩
 .have hl:=ZrB hs
  obtain ⟨oa,ob⟩:=o1 hl
  have oc:=Yh oa
  have od:=Z7V oa ob
  rw [dif_pos hs] at d
  refine ⟨⟨V1,V1⟩,⟨ob,Zb3 oa⟩,⟨h1,hl,oc,by grind⟩,by simp;omega,(p.drop 1,q,out++[⟨1,y1,Op.nil⟩]),by rw [tp],⟨Z8V h1,h2,by simp;omega,d⟩,by simp;omega⟩
 .rw [dif_neg (by grind)] at d
  refine ⟨by simp only [Z5b];omega,fun aq=> ?_,fun aq=> ?_⟩
  .have hl:=ZrB aq
   obtain ⟨oa,ob⟩:=o2 hl
   have oc:=Yh oa
   have od:=Z7V oa ob
   rw [dif_pos aq] at d
   refine ⟨⟨V1,V1⟩,⟨ob,Zb3 oa⟩,⟨h2,hl,oc,by grind⟩,by simp;omega,(p,q.drop 1,out++[⟨2,Op.nil,y2⟩]),by rw [tq],⟨h1,Z8V h2,by simp;omega,d⟩,by simp;omega⟩
  .rw [dif_neg (by grind)] at d
   refine ⟨by simp only [Z5b];omega,fun _=> by simp only [Z5b];omega,fun h=> h,fun hd=> ⟨by simp only [Z5b];omega,by simp only [Z5b];omega,fun he=> ?_,fun he=> ?_⟩,fun hd=> ?_⟩
   .rw [dif_pos hd,if_neg he] at d
    simp only [Zlc,ZfV,<-d]
    exact V2
   .rw [dif_pos hd,if_pos he] at d
    simp only [Zlc,ZfV,<-d]
    exact V2
   .obtain ⟨oa,ob⟩:=o1 hd.1
    obtain ⟨oc,od⟩:=o2 hd.2
    have a1:=Yh oa
    have a2:=Z7V oa ob
    have a3:=Yh oc
    have a4:=Z7V oc od
    rw [dif_neg V1,<-af,<-aj] at d
    have c1:=Jg p (min (Z2 y1) (Z2 y2)) hd.1
    have c2:=Jg q (min (Z2 y1) (Z2 y2)) hd.2
    have c3:Z2 y1<=min (Z2 y1) (Z2 y2)->(Yd p (min (Z2 y1) (Z2 y2))).length < p.length:=fun h=> Jf p _ hd.1 (by grind)
    have c4:Z2 y2<=min (Z2 y1) (Z2 y2)->(Yd q (min (Z2 y1) (Z2 y2))).length < q.length:=fun h=> Jf q _ hd.2 (by grind)
    refine ⟨⟨V1,V1⟩,⟨ob,Zb3 oa⟩,⟨V1,V1⟩,⟨od,Zb3 oc⟩,⟨h1,hd.1,by grind,by grind⟩,⟨h2,hd.2,by grind,by grind⟩,by simp;omega,
     (Yd p (min (Z2 y1) (Z2 y2)),Yd q (min (Z2 y1) (Z2 y2)),out++[⟨0,a7,bc⟩]),rfl,⟨ZhK h1 hd.1 V1,ZhK h2 hd.2 V1,by simp;omega,d⟩,by grind⟩
end Go.AM.YtpjenobkibfpcaaGreat
