import Derived.Test.YtpjenobkibfpcaaGreatZKD20
import Derived.Test.YtpjenobkibfpcaaGreatZKRB07
import Derived.Test.YtpjenobkibfpcaaGreatZmZ
set_option linter.unusedSimpArgs false
set_option linter.unusedVariables false
namespace Go.AM.YtpjenobkibfpcaaGreat
open Go.AM Go.Proofs
noncomputable section
def Zp5:ArgL (Int × Unit):=(.cons (YG .u64) .nil)
def Ze9(a:Int × Unit):Prop:=0≤a.1∧a.1 < 18446744073709551616
def Zln(a:Int × Unit):V U:= .agg [.int .u8 (Zn a.1 0),.int .u8 (Zn a.1 1),.int .u8 (Zn a.1 2),.int .u8 (Zn a.1 3),.int .u8 (Zn a.1 4),.int .u8 (Zn a.1 5),.int .u8 (Zn a.1 6),.int .u8 (Zn a.1 7)]
def Z8V:Fs U:=fs Zp5 (fun a=> [Ze9 a]) Zln
def Zp4:ArgL (Int × Int × Unit):=(.cons (YG .u8) (.cons (YG .i64) .nil))
def ZhA(a:Int × Int × Unit):Prop:=(0≤a.1∧a.1 < 256)∧0≤a.2.1∧a.2.1≤8
def ZsE(a:Int × Int × Unit):V U:= .c (.bool (Z0j a.1 a.2.1))
def Z8U:Fs U:=fs Zp4 (fun a=> [ZhA a]) ZsE
def Zp3:ArgL (List Int × Int × Unit):=(.cons (aSl .u8) (.cons (YG .i64) .nil))
def ZlE(a:List Int × Int × Unit):Prop:=a.2.1=0∧a.1.length=8∧∀ x∈a.1,0≤x∧x < 256
def ZsD(a:List Int × Int × Unit):V U:= .c (.int .u64 (of8 (fun i=> a.1.getD i 0)))
def Z8T:Fs U:=fs Zp3 (fun a=> [ZlE a]) ZsD
def Zpj:ArgL (Int × Int × Int × Unit):=(.cons (YG .u64) (.cons (YG .u64) (.cons (YG .u8) .nil)))
def ZhC(a:Int × Int × Int × Unit):Prop:=(0≤a.1∧a.1 < 18446744073709551616)∧(0≤a.2.1∧a.2.1 < 18446744073709551616)∧(0≤a.2.2.1∧a.2.2.1 < 256)
def ZsP(a:Int × Int × Int × Unit):V U:= .c (.int .u64 (mix a.1 a.2.1 a.2.2.1))
def Z91:Fs U:=fs Zpj (fun a=> [ZhC a]) ZsP
def ZuV:ArgL (Tree × Unit):=(.cons (aEl .tree) .nil)
def Z64(a:Tree × Unit):Prop:=Zu a.1≤20000000000
def Zzl(a:Tree × Unit):V U:= .c (.bool (ZZ a.1))
def Z50:Fs U:=fs ZuV (fun a=> [Z64 a]) Zzl
def Zpv:ArgL (Int × Int × Unit):=(.cons (YG .u64) (.cons (YG .u8) .nil))
def ZhE(a:Int × Int × Unit):Prop:=(0≤a.1∧a.1 < 18446744073709551616)∧(0≤a.2.1∧a.2.1 < 256)
def ZsW(a:Int × Int × Unit):V U:= .c (.bool (Yu a.1 a.2.1))
def Z6Q:Fs U:=fs Zpv (fun a=> [ZhE a]) ZsW
def Zpi:ArgL (Edit × Unit):=(.cons (aEl .edit) .nil)
def Z8f(a:Edit × Unit):Prop:=Z9 a.1≤20000000000
def ZsO(a:Edit × Unit):V U:= .c (.bool (Z1g a.1))
def Z6N:Fs U:=fs Zpi (fun a=> [Z8f a]) ZsO
def Zpu:ArgL (Edit × Unit):=(.cons (aEl .edit) .nil)
def Zei(a:Edit × Unit):Prop:=Z9 a.1≤20000000000∧∀ o∈Edit.ops a.1,0≤o.n∧o.n≤1048576
def Zlt(a:Edit × Unit):V U:= .tup [(false,[ci (Ym a.1.ops 0)]),(false,[ci (Jb a.1.ops 0)])]
def Z2p:Fs U:=fs Zpu (fun a=> [Zei a]) Zlt
def Zmo:ArgL (Edit × Int × Int × Unit):=(.cons (aEl .edit) (.cons (YG .i64) (.cons (YG .i64) .nil)))
def Ze3(a:Edit × Int × Int × Unit):Prop:=Z40 a.1∧0≤a.2.1∧a.2.1≤4611686018427387904∧-1≤a.2.2.1∧a.2.2.1≤4611686018427387904
def ZjY(a:Edit × Int × Int × Unit):Nat:=Z9 a.1
def Znc(a:Edit × Int × Int × Unit):V U:= .c (ci (Z17 a.1 a.2.1 a.2.2.1))
def Zdi:Fs U:=fs Zmo (fun a=> [Ze3 a]) Znc
def Zv4:ArgL (Edit × Unit):=(.cons (aEl .edit) .nil)
def Zta(a:Edit × Unit):Prop:=Z40 a.1
def Zzp(a:Edit × Unit):V U:= .c (.bool (decide (0≤Z17 a.1 80 3000)))
def Zdv:Fs U:=fs Zv4 (fun a=> [Zta a]) Zzp
def Zi0:List (FuncId × Fs U):=[]
def ZnR:Zj U:=lvl [([0,2],[2]),([0,2,3],[2,3]),([0,2,3,4],[2,3]),([0,2,3,4,7],[2,3]),([0,2,3,4],[2,3]),([0,2,3,4],[2,3]),([0,2,3,4],[2,3]),([2],[2])]
def Z4G(w x0 x4 ml3_0 ml3_1 ml3_2 ml3_3 ml3_4 ml3_5 ml3_6 ml3_7:Int):LSt U:=(L2 [(0,.c (.int .u64 x0)),(2,.ptr (.loc 2) 0),(3,.ptr (.loc 3) 0),(4,.c (ci x4))] [(.loc 2,zc0),(.loc 3,[.int .u8 ml3_0,.int .u8 ml3_1,.int .u8 ml3_2,.int .u8 ml3_3,.int .u8 ml3_4,.int .u8 ml3_5,.int .u8 ml3_6,.int .u8 ml3_7])])
abbrev ZD4(p:List Nat):=AW (Z0 Zi0) Tryz.f186 ZnR p
abbrev ZFg(p:List Nat):=SW (Z0 Zi0) Tryz.f186 ZnR p
theorem ZDC(w:Int)(Q:QT)(h:(Zf (ZD4 [1,1,0,1,0,0]) (Z4G w w 0 0 0 0 0 0 0 0 0) (xB 0 (ZFg [1,1,1] Q)))):
  ZD4 [] (L2 [(0,.c (.int .u64 w))] []) Q:=
 Eq.mpr (by kernel_rfl) h
theorem Zrr(w x0 x4 ml3_0 ml3_1 ml3_2 ml3_3 ml3_4 ml3_5 ml3_6 ml3_7:Int)(N0:NT)(Q:QT)(h:let z0:=IntKind.wrap .u8 (Int.tmod x0 256);(((decide (x4 < 8))=true→((256:Int)≠0)∧((0:Int)≤x4∧x4 < ((8:Nat):Int))∧(((256:Int)≠0)∧((InR (x4+1))∧(N0 (Z4G w (IntKind.wrap .u64 (Int.tdiv x0 256)) (x4+1) (Z26 x4 0 z0 ml3_0) (Z26 x4 1 z0 ml3_1) (Z26 x4 2 z0 ml3_2) (Z26 x4 3 z0 ml3_3) (Z26 x4 4 z0 ml3_4) (Z26 x4 5 z0 ml3_5) (Z26 x4 6 z0 ml3_6) (Z26 x4 7 z0 ml3_7))))))∧((decide (x4 < 8))=false→(Q .ret (L2 [(2,.ptr (.loc 2) 0)] [(.loc 2,[.int .u8 ml3_0,.int .u8 ml3_1,.int .u8 ml3_2,.int .u8 ml3_3,.int .u8 ml3_4,.int .u8 ml3_5,.int .u8 ml3_6,.int .u8 ml3_7])]))))):
  ZD4 [1,1,0,1,0,0] (Z4G w x0 x4 ml3_0 ml3_1 ml3_2 ml3_3 ml3_4 ml3_5 ml3_6 ml3_7) (xT N0 (xB 0 (ZFg [1,1,1] Q))):=
 Eq.mpr (by kernel_rfl) h
def Zyx(w:Int):Prop:=AW (Z0 Zi0) Tryz.f186 ZnR [] (Zl (Zp5.can (w,())) []) (EQ Tryz.f186 (Zln (w,())) [])
theorem ZwO(hb:∀ (w:Int) (_:Unit),Ze9 (w,())→Zyx w):CT 186 Z8V:=
 Z4 (l:=[]) Zo rfl trivial ZnR Tryz.func186 rfl rfl 1 (fun _=> rfl) (by decide) (fun ⟨w,_⟩=> hb w ())
def ZhZ:List (FuncId × Fs U):=[]
def ZnQ:Zj U:=lvl [([0,1],[]),([0,1,5],[]),([0,1,5,8],[]),([0,1,5],[]),([0,1,5],[]),([4],[])]
def Z7h(m i x0 x5:Int):LSt U:=(L2 [(0,.c (.int .u8 x0)),(1,.c (ci i)),(5,.c (ci x5))] [])
abbrev ZD3(p:List Nat):=AW (Z0 ZhZ) Tryz.f187 ZnQ p
abbrev ZFf(p:List Nat):=SW (Z0 ZhZ) Tryz.f187 ZnQ p
theorem ZDB(m i:Int)(Q:QT)(h:(Zf (ZD3 [1,0,1,0,0]) (Z7h m i m 0) (xB 0 (ZFf [1,1] Q)))):
  ZD3 [] (L2 [(0,.c (.int .u8 m)),(1,.c (ci i))] []) Q:=
 Eq.mpr (by kernel_rfl) h
theorem Zrq(m i x0 x5:Int)(N0:NT)(Q:QT)(h:(((decide (x5 < i))=true→((2:Int)≠0)∧((InR (x5+1))∧(N0 (Z7h m i (IntKind.wrap .u8 (Int.tdiv x0 2)) (x5+1)))))∧((decide (x5 < i))=false→((2:Int)≠0)∧(Q .ret (L2 [(4,.c (.bool (((Int.tmod x0 2):Int)==1)))] []))))):
  ZD3 [1,0,1,0,0] (Z7h m i x0 x5) (xT N0 (xB 0 (ZFf [1,1] Q))):=
 Eq.mpr (by kernel_rfl) h
def Zyw(m i:Int):Prop:=AW (Z0 ZhZ) Tryz.f187 ZnQ [] (Zl (Zp4.can (m,i,())) []) (EQ Tryz.f187 (ZsE (m,i,())) [])
theorem ZwN(hb:∀ (m:Int) (i:Int) (_:Unit),ZhA (m,i,())→Zyw m i):CT 187 Z8U:=
 Z4 (l:=[]) Zo rfl trivial ZnQ Tryz.func187 rfl rfl 2 (fun _=> rfl) (by decide) (fun ⟨m,i,_⟩=> hb m i ())
def ZhY:List (FuncId × Fs U):=[]
def ZnP:Zj U:=lvl [([0,1],[]),([0,1,5],[]),([0,1,5,6],[]),([0,1,5,6,8],[]),([0,1,5,6],[]),([0,1,5,6],[]),([4],[])]
def Z7g(b:List Int)(from_ x5 x6:Int):LSt U:=(L2 [(0,.c (sU .u8 b .unk)),(1,.c (ci from_)),(5,.c (.int .u64 x5)),(6,.c (ci x6))] [])
abbrev ZD2(p:List Nat):=AW (Z0 ZhY) Tryz.f188 ZnP p
abbrev ZFe(p:List Nat):=SW (Z0 ZhY) Tryz.f188 ZnP p
theorem ZDA(b:List Int)(from_:Int)(Q:QT)(h:(Zf (ZD2 [1,1,0,1,0,0]) (Z7g b from_ 0 7) (xB 0 (ZFe [1,1,1] Q)))):
  ZD2 [] (L2 [(0,.c (sU .u8 b .unk)),(1,.c (ci from_))] []) Q:=
 Eq.mpr (by kernel_rfl) h
theorem Zrp(b:List Int)(from_ x5 x6:Int)(N0:NT)(Q:QT)(h:(((decide ((0:Int)≤x6))=true→(InR (from_+x6))∧((0:Int)≤(from_+x6)∧(from_+x6) < (b.length:Int))∧((InR (x6 - 1))∧(N0 (Z7g b from_ (IntKind.wrap .u64 (((IntKind.wrap .u64 (x5*256)):Int)+(IntKind.wrap .u64 (List.getD b (Int.toNat (from_+x6)) (0:Int))))) (x6 - 1)))))∧((decide ((0:Int)≤x6))=false→(Q .ret (L2 [(4,.c (.int .u64 x5))] []))))):
  ZD2 [1,1,0,1,0,0] (Z7g b from_ x5 x6) (xT N0 (xB 0 (ZFe [1,1,1] Q))):=
 Eq.mpr (by kernel_rfl) h
def Zyv(b:List Int)(from_:Int):Prop:=AW (Z0 ZhY) Tryz.f188 ZnP [] (Zl (Zp3.can (b,from_,())) []) (EQ Tryz.f188 (ZsD (b,from_,())) [])
theorem ZwM(hb:∀ (b:List Int) (from_:Int) (_:Unit),ZlE (b,from_,())→Zyv b from_):CT 188 Z8T:=
 Z4 (l:=[]) Zo rfl trivial ZnP Tryz.func188 rfl rfl 2 (fun _=> rfl) (by decide) (fun ⟨b,from_,_⟩=> hb b from_ ())
def Zi4:List (FuncId × Fs U):=[(186,Z8V),(187,Z8U),(188,Z8T)]
def ZnV:Zj U:=lvl [([0,1,2],[]),([2,7,8],[7,8]),([2,7,8,9],[7,8]),([2,7,8,9,15],[7,8]),([2,7,8,9],[7,8]),([2,7,8,9,20],[7,8]),([2,7,8,9],[7,8]),([6],[])]
def Z2Y(a b m x9 ml7_0 ml7_1 ml7_2 ml7_3 ml7_4 ml7_5 ml7_6 ml7_7:Int):LSt U:=(L2 [(2,.c (.int .u8 m)),(7,.ptr (.loc 7) 0),(8,.ptr (.loc 8) 0),(9,.c (ci x9))] [(.loc 7,[.int .u8 ml7_0,.int .u8 ml7_1,.int .u8 ml7_2,.int .u8 ml7_3,.int .u8 ml7_4,.int .u8 ml7_5,.int .u8 ml7_6,.int .u8 ml7_7]),(.loc 8,[.int .u8 (Zn b 0),.int .u8 (Zn b 1),.int .u8 (Zn b 2),.int .u8 (Zn b 3),.int .u8 (Zn b 4),.int .u8 (Zn b 5),.int .u8 (Zn b 6),.int .u8 (Zn b 7)])])
abbrev ZD7(p:List Nat):=AW (Z0 Zi4) Tryz.f136 ZnV p
abbrev ZFj(p:List Nat):=SW (Z0 Zi4) Tryz.f136 ZnV p
theorem ZDY(a b m:Int)(Q:QT)(h:((Ze9 (a,()))∧(Ze9 (b,()))∧(Zf (ZD7 [1,1,0,1,0,0]) (Z2Y a b m 0 (Zn a 0) (Zn a 1) (Zn a 2) (Zn a 3) (Zn a 4) (Zn a 5) (Zn a 6) (Zn a 7)) (xB 0 (ZFj [1,1,1] Q))))):
  ZD7 [] (L2 [(0,.c (.int .u64 a)),(1,.c (.int .u64 b)),(2,.c (.int .u8 m))] []) Q:=
 Eq.mpr (by kernel_rfl) h
theorem ZrA(a b m x9 ml7_0 ml7_1 ml7_2 ml7_3 ml7_4 ml7_5 ml7_6 ml7_7:Int)(N0:NT)(Q:QT)(h:let z0:=List.getD [Zn b 0,Zn b 1,Zn b 2,Zn b 3,Zn b 4,Zn b 5,Zn b 6,Zn b 7] x9.toNat 0;(((decide (x9 < 8))=true→(ZhA (m,x9,()))∧(((Z0j m x9)=true→((0:Int)≤x9∧x9 < ((8:Nat):Int))∧((0:Int)≤x9∧x9 < ((8:Nat):Int))∧((InR (x9+1))∧(N0 (Z2Y a b m (x9+1) (Z26 x9 0 z0 ml7_0) (Z26 x9 1 z0 ml7_1) (Z26 x9 2 z0 ml7_2) (Z26 x9 3 z0 ml7_3) (Z26 x9 4 z0 ml7_4) (Z26 x9 5 z0 ml7_5) (Z26 x9 6 z0 ml7_6) (Z26 x9 7 z0 ml7_7)))))∧((Z0j m x9)=false→(InR (x9+1))∧(N0 (Z2Y a b m (x9+1) ml7_0 ml7_1 ml7_2 ml7_3 ml7_4 ml7_5 ml7_6 ml7_7)))))∧((decide (x9 < 8))=false→(ZlE (([ml7_0,ml7_1,ml7_2,ml7_3,ml7_4,ml7_5,ml7_6,ml7_7]),0,()))∧(Q .ret (L2 [(6,.c (.int .u64 (of8 (fun i=> ([ml7_0,ml7_1,ml7_2,ml7_3,ml7_4,ml7_5,ml7_6,ml7_7]).getD i 0))))] []))))):
  ZD7 [1,1,0,1,0,0] (Z2Y a b m x9 ml7_0 ml7_1 ml7_2 ml7_3 ml7_4 ml7_5 ml7_6 ml7_7) (xT N0 (xB 0 (ZFj [1,1,1] Q))):=
 Eq.mpr (by kernel_rfl) h
def ZyT(a b m:Int):Prop:=AW (Z0 Zi4) Tryz.f136 ZnV [] (Zl (Zpj.can (a,b,m,())) []) (EQ Tryz.f136 (ZsP (a,b,m,())) [])
theorem Zx6(ZBK:CT 186 Z8V)(ZBJ:CT 187 Z8U)(ZBI:CT 188 Z8T)(hb:∀ (a:Int) (b:Int) (m:Int) (_:Unit),ZhC (a,b,m,())→ZyT a b m):CT 136 Z91:=
 Z4 (l:=[(186,Z8V),(187,Z8U),(188,Z8T)]) Zo rfl (⟨ZBK,ZBJ,ZBI,trivial⟩) ZnV Tryz.func136 rfl rfl 3 (fun _=> rfl) (by decide) (fun ⟨a,b,m,_⟩=> hb a b m ())
def Zuk:List (FuncId × Fs U):=[]
def ZB4:Zj U:=lvl [([1],[1]),([2],[])]
abbrev A99(p:List Nat):=AW (Z0 Zuk) Tryz.f99 ZB4 p
theorem ZFv(t:Tree)(Q:QT)(h:((Tr ((t.kind==0)=true))∧(Tr ((t.kind==0)=true))∧(Tr ((t.kind==0)=true))∧(Tr ((t.kind==0)=true))∧(Tr ((t.kind==0)=true))∧(Tr ((t.kind==0)=true))∧((t.kind==0)=true→InR (((t.words.length:Int):Int)+(t.kids.length:Int)))∧(Tr ((t.kind==0)=true))∧(Tr ((t.kind==0)=true))∧(Q .ret (L2 [(2,.c (.bool (bif (t.kind==0) then (((((t.words.length:Int):Int)+(t.kids.length:Int)):Int)==0) else false)))] [])))):
  A99 [] (L2 [(0,.agg (enc .tree t))] []) Q:=
 Eq.mpr (by kernel_rfl) h
def ZCp(t:Tree):Prop:=AW (Z0 Zuk) Tryz.f99 ZB4 [] (Zl (ZuV.can (t,())) []) (EQ Tryz.f99 (Zzl (t,())) [])
theorem ZAD(hb:∀ (t:Tree) (_:Unit),Z64 (t,())→ZCp t):CT 99 Z50:=
 Z4 (l:=[]) Zo rfl trivial ZB4 Tryz.func99 rfl rfl 1 (fun _=> rfl) (by decide) (fun ⟨t,_⟩=> hb t ())
def ZoF:List (FuncId × Fs U):=[(136,Z91)]
def Zuc:Zj U:=lvl [([0,1],[]),([4],[])]
abbrev ZGx(p:List Nat):=AW (Z0 ZoF) Tryz.f100 Zuc p
theorem ZEl(w m:Int)(Q:QT)(h:((ZhC (w,0,m,()))∧(Q .ret (L2 [(4,.c (.bool (((mix w 0 m):Int)==0)))] [])))):
  ZGx [] (L2 [(0,.c (.int .u64 w)),(1,.c (.int .u8 m))] []) Q:=
 Eq.mpr (by kernel_rfl) h
def Zzg(w m:Int):Prop:=AW (Z0 ZoF) Tryz.f100 Zuc [] (Zl (Zpv.can (w,m,())) []) (EQ Tryz.f100 (ZsW (w,m,())) [])
theorem Zxk(ZBW:CT 136 Z91)(hb:∀ (w:Int) (m:Int) (_:Unit),ZhE (w,m,())→Zzg w m):CT 100 Z6Q:=
 Z4 (l:=[(136,Z91)]) Zo rfl (⟨ZBW,trivial⟩) Zuc Tryz.func100 rfl rfl 2 (fun _=> rfl) (by decide) (fun ⟨w,m,_⟩=> hb w m ())
def ZoA:List (FuncId × Fs U):=[(99,Z50)]
def Zu6:Zj U:=lvl [([1],[1]),([2],[])]
abbrev ZGu(p:List Nat):=AW (Z0 ZoA) Tryz.f137 Zu6 p
theorem ZDX(e:Edit)(Q:QT)(h:∀ y_1,y_1=(e.new)→∀ y_2,y_2=(e.old)→let z2:=bif (e.kind==0) then (ZZ y_2) else false;let z0:=bif z2 then (ZZ y_1) else false;let z1:=bif z0 then (((((((e.words.length:Int):Int)+(e.kids.length:Int)):Int)+(e.ops.length:Int)):Int)==0) else false;((Tr ((e.kind==0)=true))∧(Tr ((e.kind==0)=true))∧((e.kind==0)=true→Z64 (y_2,()))∧(Tr ((e.kind==0)=true))∧(Tr (z2=true))∧(Tr (z2=true))∧(z2=true→Z64 (y_1,()))∧(Tr (z2=true))∧(Tr (z0=true))∧(Tr (z0=true))∧(Tr (z0=true))∧(Tr (z0=true))∧(Tr (z0=true))∧(Tr (z0=true))∧(z0=true→InR (((e.words.length:Int):Int)+(e.kids.length:Int)))∧(Tr (z0=true))∧(Tr (z0=true))∧(Tr (z0=true))∧(Tr (z0=true))∧(z0=true→InR (((((e.words.length:Int):Int)+(e.kids.length:Int)):Int)+(e.ops.length:Int)))∧(Tr (z0=true))∧(Tr (z0=true))∧(Tr (z1=true))∧(Tr (z1=true))∧(Tr (z1=true))∧(Q .ret (L2 [(2,.c (.bool (bif z1 then (e.list==0) else false)))] [])))):
  ZGu [] (L2 [(0,.agg (enc .edit e))] []) Q:=
 Eq.mpr (by kernel_rfl) (h _ (Zm _) _ (Zm _))
def ZyS(e:Edit):Prop:=AW (Z0 ZoA) Tryz.f137 Zu6 [] (Zl (Zpi.can (e,())) []) (EQ Tryz.f137 (ZsO (e,())) [])
theorem Zx5(c99:CT 99 Z50)(hb:∀ (e:Edit) (_:Unit),Z8f (e,())→ZyS e):CT 137 Z6N:=
 Z4 (l:=[(99,Z50)]) Zo rfl (⟨c99,trivial⟩) Zu6 Tryz.func137 rfl rfl 1 (fun _=> rfl) (by decide) (fun ⟨e,_⟩=> hb e ())
def Zid:List (FuncId × Fs U):=[]
def Zo4:Zj U:=lvl [([1],[1]),([1,4,5],[1]),([1,4,5,6],[1]),([1,4,5,6,13],[1]),([1,4,5,6],[1]),([1,4,5,6,7],[1,7]),([1,4,5,6,7,8],[1,7]),([1,4,5,6,7,8,29],[1,7]),([1,4,5,6,7,8,29],[1,7]),([1,4,5,6,7,8,32],[1,7]),([1,4,5,6,7,8,32],[1,7]),([1,4,5,6,8,38],[1]),([1,4,5,6,8,38],[1]),([1,4,5,6,43],[1]),([1,4,5,6,43],[1]),([1,4,5,6,45],[1]),([1,4,5,6],[1]),([2,3],[])]
def Z1z(e:Edit)(x4 x5 x6:Int):LSt U:=(L2 [(1,.ptr (.loc 1) 0),(4,.c (ci x4)),(5,.c (ci x5)),(6,.c (ci x6))] [(.loc 1,(enc .edit e))])
def Z7x(e:Edit)(x4 x5 x6 x8_a:Int):LSt U:=(L2 [(1,.ptr (.loc 1) 0),(4,.c (ci x4)),(5,.c (ci x5)),(6,.c (ci x6)),(7,.ptr (.loc 7) 0),(8,.c (ci x8_a)),(29,.c (.bool (((OpOf.kind (e.ops.getD x6.toNat Op.nil)):Int)==3)))] [(.loc 1,(enc .edit e)),(.loc 7,(enc .op (e.ops.getD x6.toNat Op.nil)))])
def Z7w(e:Edit)(x5 x6 x8_a x4_b:Int):LSt U:=(L2 [(1,.ptr (.loc 1) 0),(4,.c (ci x4_b)),(5,.c (ci x5)),(6,.c (ci x6)),(7,.ptr (.loc 7) 0),(8,.c (ci x8_a)),(32,.c (.bool (((OpOf.kind (e.ops.getD x6.toNat Op.nil)):Int) !=2)))] [(.loc 1,(enc .edit e)),(.loc 7,(enc .op (e.ops.getD x6.toNat Op.nil)))])
def Z7v(e:Edit)(x6 x8_a x4_b x5_c:Int):LSt U:=(L2 [(1,.ptr (.loc 1) 0),(4,.c (ci x4_b)),(5,.c (ci x5_c)),(6,.c (ci x6)),(8,.c (ci x8_a)),(38,.c (.bool (((OpOf.kind (e.ops.getD x6.toNat Op.nil)):Int) !=1)))] [(.loc 1,(enc .edit e))])
def Z7u(e:Edit)(x6 x4_b x5_c x4_d:Int):LSt U:=(L2 [(1,.ptr (.loc 1) 0),(4,.c (ci x4_d)),(5,.c (ci x5_c)),(6,.c (ci x6)),(43,.c (.bool (decide ((1048576:Int) < x4_b))))] [(.loc 1,(enc .edit e))])
abbrev Z4U(p:List Nat):=AW (Z0 Zid) Tryz.f102 Zo4 p
abbrev Z1C(p:List Nat):=SW (Z0 Zid) Tryz.f102 Zo4 p
theorem ZEj(e:Edit)(Q:QT)(h:(Zf (Z4U [1,1,0,1,0,0]) (Z1z e 0 0 0) (xB 0 (Z1C [1,1,1] Q)))):
  Z4U [] (L2 [(0,.agg (enc .edit e))] []) Q:=
 Eq.mpr (by kernel_rfl) h
abbrev Zy0(e:Edit)(x4 x5 x6:Int)(N0:NT)(Q:QT):Prop:=Z4U [1,1,0,1,0,0] (Z1z e x4 x5 x6) (xT N0 (xB 0 (Z1C [1,1,1] Q)))
theorem ZrX(e:Edit)(x4 x5 x6:Int)(N0:NT)(Q:QT)(h:let z2:=decide (x6 < (e.ops.length:Int));let z1:=xB 1 (Z1C [1,1,0,1,0,0,1,1] (xT N0 (xB 0 (Z1C [1,1,1] Q))));let z0:=e.ops.getD x6.toNat Op.nil;((z2=true→((0:Int)≤x6∧x6 < (e.ops.length:Int))∧((InR (((OpOf.n z0):Int)+((OpOf.l z0).length:Int)))∧(((((OpOf.kind z0):Int)==3)=true→(Z4U [1,1,0,1,0,0,1,0,0,1,1,1] (Z7x e x4 x5 x6 1) z1))∧((((OpOf.kind z0):Int)==3)=false→Z4U [1,1,0,1,0,0,1,0,0,1,1,1] (Z7x e x4 x5 x6 (((OpOf.n z0):Int)+((OpOf.l z0).length:Int))) z1))))∧(z2=false→(Q .ret (L2 [(2,.c (ci x4)),(3,.c (ci x5))] []))))):
  Z4U [1,1,0,1,0,0] (Z1z e x4 x5 x6) (xT N0 (xB 0 (Z1C [1,1,1] Q))):=
 Eq.mpr (by kernel_rfl) h
abbrev Zy4(e:Edit)(x4 x5 x6 x8_a:Int)(N0:NT)(Q:QT):Prop:=Z4U [1,1,0,1,0,0,1,0,0,1,1,1] (Z7x e x4 x5 x6 x8_a) (xB 1 (Z1C [1,1,0,1,0,0,1,1] (xT N0 (xB 0 (Z1C [1,1,1] Q)))))
theorem Zs1(e:Edit)(x4 x5 x6 x8_a:Int)(N0:NT)(Q:QT)(h:let z1:=((OpOf.kind (e.ops.getD x6.toNat Op.nil)):Int) !=2;let z0:=xB 1 (Z1C [1,1,0,1,0,0,1,1] (xT N0 (xB 0 (Z1C [1,1,1] Q))));((z1=true→(InR (x4+x8_a))∧(Z4U [1,1,0,1,0,0,1,0,0,1,1,1,1] (Z7w e x5 x6 x8_a (x4+x8_a)) z0))∧(z1=false→Z4U [1,1,0,1,0,0,1,0,0,1,1,1,1] (Z7w e x5 x6 x8_a x4) z0))):
  Z4U [1,1,0,1,0,0,1,0,0,1,1,1] (Z7x e x4 x5 x6 x8_a) (xB 1 (Z1C [1,1,0,1,0,0,1,1] (xT N0 (xB 0 (Z1C [1,1,1] Q))))):=
 Eq.mpr (by kernel_rfl) h
abbrev Zy3(e:Edit)(x5 x6 x8_a x4_b:Int)(N0:NT)(Q:QT):Prop:=Z4U [1,1,0,1,0,0,1,0,0,1,1,1,1] (Z7w e x5 x6 x8_a x4_b) (xB 1 (Z1C [1,1,0,1,0,0,1,1] (xT N0 (xB 0 (Z1C [1,1,1] Q)))))
theorem Zs0(e:Edit)(x5 x6 x8_a x4_b:Int)(N0:NT)(Q:QT)(h:let z1:=((OpOf.kind (e.ops.getD x6.toNat Op.nil)):Int) !=1;let z0:=xB 1 (Z1C [1,1,0,1,0,0,1,1] (xT N0 (xB 0 (Z1C [1,1,1] Q))));((z1=true→(InR (x5+x8_a))∧(Z4U [1,1,0,1,0,0,1,0,0,1,1,1,1,1] (Z7v e x6 x8_a x4_b (x5+x8_a)) z0))∧(z1=false→Z4U [1,1,0,1,0,0,1,0,0,1,1,1,1,1] (Z7v e x6 x8_a x4_b x5) z0))):
  Z4U [1,1,0,1,0,0,1,0,0,1,1,1,1] (Z7w e x5 x6 x8_a x4_b) (xB 1 (Z1C [1,1,0,1,0,0,1,1] (xT N0 (xB 0 (Z1C [1,1,1] Q))))):=
 Eq.mpr (by kernel_rfl) h
abbrev Zy2(e:Edit)(x6 x8_a x4_b x5_c:Int)(N0:NT)(Q:QT):Prop:=Z4U [1,1,0,1,0,0,1,0,0,1,1,1,1,1] (Z7v e x6 x8_a x4_b x5_c) (xB 1 (Z1C [1,1,0,1,0,0,1,1] (xT N0 (xB 0 (Z1C [1,1,1] Q)))))
theorem ZrZ(e:Edit)(x6 x8_a x4_b x5_c:Int)(N0:NT)(Q:QT)(h:let z1:=decide ((1048576:Int) < x4_b);let z0:=xB 1 (Z1C [1,1,0,1,0,0,1,1] (xT N0 (xB 0 (Z1C [1,1,1] Q))));((z1=true→(Z4U [1,1,0,1,0,0,1,0,0,1,1,1,1,1,1] (Z7u e x6 x4_b x5_c 1048576) z0))∧(z1=false→Z4U [1,1,0,1,0,0,1,0,0,1,1,1,1,1,1] (Z7u e x6 x4_b x5_c x4_b) z0))):
  Z4U [1,1,0,1,0,0,1,0,0,1,1,1,1,1] (Z7v e x6 x8_a x4_b x5_c) (xB 1 (Z1C [1,1,0,1,0,0,1,1] (xT N0 (xB 0 (Z1C [1,1,1] Q))))):=
 Eq.mpr (by kernel_rfl) h
abbrev Zy1(e:Edit)(x6 x4_b x5_c x4_d:Int)(N0:NT)(Q:QT):Prop:=Z4U [1,1,0,1,0,0,1,0,0,1,1,1,1,1,1] (Z7u e x6 x4_b x5_c x4_d) (xB 1 (Z1C [1,1,0,1,0,0,1,1] (xT N0 (xB 0 (Z1C [1,1,1] Q)))))
theorem ZrY(e:Edit)(x6 x4_b x5_c x4_d:Int)(N0:NT)(Q:QT)(h:let z0:=decide ((1048576:Int) < x5_c);((z0=true→((InR (x6+1))∧(N0 (Z1z e x4_d 1048576 (x6+1)))))∧(z0=false→(InR (x6+1))∧(N0 (Z1z e x4_d x5_c (x6+1)))))):
  Z4U [1,1,0,1,0,0,1,0,0,1,1,1,1,1,1] (Z7u e x6 x4_b x5_c x4_d) (xB 1 (Z1C [1,1,0,1,0,0,1,1] (xT N0 (xB 0 (Z1C [1,1,1] Q))))):=
 Eq.mpr (by kernel_rfl) h
def Zze(e:Edit):Prop:=AW (Z0 Zid) Tryz.f102 Zo4 [] (Zl (Zpu.can (e,())) []) (EQ Tryz.f102 (Zlt (e,())) [])
theorem Zxj(hb:∀ (e:Edit) (_:Unit),Zei (e,())→Zze e):CT 102 Z2p:=
 Z4 (l:=[]) Zo rfl trivial Zo4 Tryz.func102 rfl rfl 1 (fun _=> rfl) (by decide) (fun ⟨e,_⟩=> hb e ())
def ZlY(N:Nat):List (FuncId × Fs U):=(91,fs Zmo (fun a=> [Ze3 a,ZjY a < N]) Znc) ::[(80,Zdl)]
def Zxl:Zj U:=lvl [([1,2,3],[3]),([1,2,3],[3]),([1,2,3,25],[3]),([6],[]),([1,2,3],[3]),([1,2,3,31],[3]),([1,2,3,31],[3]),([1,2,3,7],[3]),([1,2,3,7,44],[3]),([1,2,3,7],[3]),([1,2,3,7],[3]),([1,2,3,8],[3]),([1,2,3,8,65],[3]),([1,2,3,8],[3]),([1,2,3,8,9],[3]),([1,2,3,8,9,80],[3]),([1,2,3,8,9],[3]),([1,2,3,8,9],[3]),([1,2,3,8,95],[3]),([1,2,3,8],[3]),([6],[])]
def Za0(e:Edit)(d n x2:Int):LSt U:=(L2 [(1,.c (ci d)),(2,.c (ci x2)),(3,.ptr (.loc 3) 0),(31,.c (.bool (decide ((0:Int)≤(Y4 (Tree.mk e.old.kind e.old.words e.old.kids) 80 ((((((n:Int) - 1):Int) - (e.words.length:Int)):Int) - (e.ops.length:Int)))))))] [(.loc 3,(enc .edit e))])
def Z9Z(e:Edit)(d n x2_a x7_a:Int):LSt U:=(L2 [(1,.c (ci d)),(2,.c (ci x2_a)),(3,.ptr (.loc 3) 0),(7,.c (ci x7_a))] [(.loc 3,(enc .edit e))])
def Z6t(e:Edit)(d n x2_b x8_b:Int):LSt U:=(L2 [(1,.c (ci d)),(2,.c (ci x2_b)),(3,.ptr (.loc 3) 0),(8,.c (ci x8_b))] [(.loc 3,(enc .edit e))])
def Z9Y(e:Edit)(d n x8_b x2_c x9_c:Int):LSt U:=(L2 [(1,.c (ci d)),(2,.c (ci x2_c)),(3,.ptr (.loc 3) 0),(8,.c (ci x8_b)),(9,.c (ci x9_c))] [(.loc 3,(enc .edit e))])
abbrev A91(N:Nat)(p:List Nat):=AW (Z0 (ZlY N)) Tryz.f91 Zxl p
abbrev S91(N:Nat)(p:List Nat):=SW (Z0 (ZlY N)) Tryz.f91 Zxl p
theorem ZFw(N:Nat)(e:Edit)(d n:Int)(Q:QT)(h:∀ y_1,y_1=(e.new)→∀ y_2,y_2=(e.old)→∀ y_3,y_3=(Y4 y_2 80 (((((n - 1):Int) - (e.words.length:Int)):Int) - (e.ops.length:Int)))→let z0:=bif (d==0) then true else (decide (((((((n - 1):Int) - (e.words.length:Int)):Int) - (e.ops.length:Int)):Int) < 0));((InR (n - 1))∧(InR (((n - 1):Int) - (e.words.length:Int)))∧(InR (((((n - 1):Int) - (e.words.length:Int)):Int) - (e.ops.length:Int)))∧((Tr ((!(d==0))=true))∧((d==0)=false→(!(d==0))=true)∧((z0=true→(Q .ret (L2 [(6,.c (ci (-1)))] [])))∧(z0=false→(ZbS (y_2,80,(((((n - 1):Int) - (e.words.length:Int)):Int) - (e.ops.length:Int)),()))∧(((decide ((0:Int)≤y_3))=true→(ZbS (y_1,80,y_3,()))∧(A91 N [1,1,1,1,1] (Za0 e d n (Y4 y_1 80 y_3)) Q))∧((decide ((0:Int)≤y_3))=false→A91 N [1,1,1,1,1] (Za0 e d n y_3) Q))))))):
  A91 N [] (L2 [(0,.agg (enc .edit e)),(1,.c (ci d)),(2,.c (ci n))] []) Q:=
 Eq.mpr (by kernel_rfl) (h _ (Zm _) _ (Zm _) _ rfl)
abbrev ZCm(N:Nat)(e:Edit)(d n x2:Int)(Q:QT):Prop:=A91 N [1,1,1,1,1] (Za0 e d n x2) Q
theorem Zvw(N:Nat)(e:Edit)(d n x2:Int)(Q:QT)(h:(Zf (A91 N [1,1,1,1,1,0,1,0,0]) (Z9Z e d n x2 0) (xB 0 (S91 N [1,1,1,1,1,1] Q)))):
  A91 N [1,1,1,1,1] (Za0 e d n x2) Q:=
 Eq.mpr (by kernel_rfl) h
theorem Zvv(N:Nat)(e:Edit)(d n x2_a x7_a:Int)(N1:NT)(Q:QT)(h:∀ y_1,y_1=(e.kids.getD x7_a.toNat (KidOf.mk 0 Edit.nil))→∀ y_2,y_2=(y_1.e)→let z0:=decide (x7_a < (e.kids.length:Int));let z1:=bif z0 then (decide ((0:Int)≤x2_a)) else false;(Tr (z0=true))∧(Tr (z0=true))∧((z1=true→((0:Int)≤x7_a∧x7_a < (e.kids.length:Int))∧(InR (d - 1))∧(Ze3 (y_2,(d - 1),x2_a,()))∧(ZjY (y_2,(d - 1),x2_a,()) < N)∧((InR (x7_a+1))∧(N1 (Z9Z e d n (Z17 y_2 (d - 1) x2_a) (x7_a+1)))))∧(z1=false→(Zf (A91 N [1,1,1,1,1,1,0,1,0,0]) (Z6t e d n x2_a 0) (xB 2 (S91 N [1,1,1,1,1,1,1] Q)))))):
  A91 N [1,1,1,1,1,0,1,0,0] (Z9Z e d n x2_a x7_a) (xT N1 (xB 0 (S91 N [1,1,1,1,1,1] Q))):=
 Eq.mpr (by kernel_rfl) (h _ rfl _ (Z6 _))
theorem Zvu(N:Nat)(e:Edit)(d n x2_b x8_b:Int)(N2:NT)(Q:QT)(h:let z0:=decide (x8_b < (e.ops.length:Int));let z1:=bif z0 then (decide ((0:Int)≤x2_b)) else false;(Tr (z0=true))∧(Tr (z0=true))∧((z1=true→(Zf (A91 N [1,1,1,1,1,1,0,1,0,0,1,0,0,0,1,0,0]) (Z9Y e d n x8_b x2_b 0) (xB 4 (S91 N [1,1,1,1,1,1,0,1,0,0,1,0,0,1] (xB 3 (S91 N [1,1,1,1,1,1,0,1,0,0,1,1] (xT N2 (xB 2 (S91 N [1,1,1,1,1,1,1] Q)))))))))∧(z1=false→(Q .ret (L2 [(6,.c (ci x2_b))] []))))):
  A91 N [1,1,1,1,1,1,0,1,0,0] (Z6t e d n x2_b x8_b) (xT N2 (xB 2 (S91 N [1,1,1,1,1,1,1] Q))):=
 Eq.mpr (by kernel_rfl) h
theorem Zvt(N:Nat)(e:Edit)(d n x8_b x2_c x9_c:Int)(N3 N2:NT)(Q:QT)(h:∀ y_1,y_1=(e.ops.getD x8_b.toNat Op.nil)→∀ y_2,y_2=(y_1.e)→∀ y_3,y_3=(y_1.l.getD x9_c.toNat Tree.nil)→let z1:=decide ((0:Int)≤x2_c);let z0:=decide (x9_c < (y_1.l.length:Int));((0:Int)≤x8_b∧x8_b < (e.ops.length:Int))∧(Tr (z0=true))∧(Tr (z0=true))∧(((bif z0 then z1 else false)=true→((0:Int)≤x8_b∧x8_b < (e.ops.length:Int))∧((0:Int)≤x9_c∧x9_c < (y_1.l.length:Int))∧(ZbS (y_3,80,x2_c,()))∧((InR (x9_c+1))∧(N3 (Z9Y e d n x8_b (Y4 y_3 80 x2_c) (x9_c+1)))))∧((bif z0 then z1 else false)=false→((z1=true→((0:Int)≤x8_b∧x8_b < (e.ops.length:Int))∧(InR (d - 1))∧(Ze3 (y_2,(d - 1),x2_c,()))∧(ZjY (y_2,(d - 1),x2_c,()) < N)∧((InR (x8_b+1))∧(N2 (Z6t e d n (Z17 y_2 (d - 1) x2_c) (x8_b+1)))))∧(z1=false→(InR (x8_b+1))∧(N2 (Z6t e d n x2_c (x8_b+1)))))))):
  A91 N [1,1,1,1,1,1,0,1,0,0,1,0,0,0,1,0,0] (Z9Y e d n x8_b x2_c x9_c) (xT N3 (xB 4 (S91 N [1,1,1,1,1,1,0,1,0,0,1,0,0,1] (xB 3 (S91 N [1,1,1,1,1,1,0,1,0,0,1,1] (xT N2 (xB 2 (S91 N [1,1,1,1,1,1,1] Q)))))))):=
 Eq.mpr (by kernel_rfl) (h _ rfl _ (Z6 _) _ (Zm _))
def ZCq(N:Nat)(e:Edit)(d n:Int):Prop:=AW (Z0 (ZlY N)) Tryz.f91 Zxl [] (Zl (Zmo.can (e,d,n,())) []) (EQ Tryz.f91 (Znc (e,d,n,())) [])
theorem ZAE(c80:CT 80 Zdl)(hb:∀ (N:Nat) (e:Edit) (d:Int) (n:Int) (_:Unit),Ze3 (e,d,n,())→ZjY (e,d,n,()) < N+1→ZCq N e d n):CT 91 Zdi:=
 Yo (μ:=ZjY) (l:=[(80,Zdl)]) Zo rfl (⟨c80,trivial⟩) Zxl Tryz.func91 rfl rfl 3 (fun _=> rfl) (by decide) (fun N ⟨e,d,n,_⟩=> hb N e d n ())
def Zup:List (FuncId × Fs U):=[(91,Zdi)]
def ZBa:Zj U:=lvl [([1],[1]),([2],[])]
abbrev A45(p:List Nat):=AW (Z0 Zup) Tryz.f45 ZBa p
theorem ZFP(e:Edit)(Q:QT)(h:let z0:=Edit.mk e.kind (Tree.mk e.old.kind e.old.words e.old.kids) (Tree.mk e.new.kind e.new.words e.new.kids) e.words e.kids e.list e.ops;((Ze3 (z0,80,3000,()))∧(Q .ret (L2 [(2,.c (.bool (decide ((0:Int)≤(Z17 z0 80 3000)))))] [])))):
  A45 [] (L2 [(0,.agg (enc .edit e))] []) Q:=
 Eq.mpr (by kernel_rfl) h
def ZCJ(e:Edit):Prop:=AW (Z0 Zup) Tryz.f45 ZBa [] (Zl (Zv4.can (e,())) []) (EQ Tryz.f45 (Zzp (e,())) [])
theorem ZAR(c91:CT 91 Zdi)(hb:∀ (e:Edit) (_:Unit),Zta (e,())→ZCJ e):CT 45 Zdv:=
 Z4 (l:=[(91,Zdi)]) Zo rfl (⟨c91,trivial⟩) ZBa Tryz.func45 rfl rfl 1 (fun _=> rfl) (by decide) (fun ⟨e,_⟩=> hb e ())
end
end Go.AM.YtpjenobkibfpcaaGreat
namespace Go.AM.YtpjenobkibfpcaaGreat
open Go.AM Go.Proofs
noncomputable section
def Ziy:ArgL (Edit × Int × Unit):=(.cons (aEl .edit) (.cons (YG .i64) .nil))
def ZbW(a:Edit × Int × Unit):Prop:=(Z9 a.1≤20000000000∧YI a.1)∧0≤a.2.1∧a.2.1≤1000
def ZhN(a:Edit × Int × Unit):Nat:=2*Z9 a.1
def Zne(a:Edit × Int × Unit):V U:= .c (.bool (Z2 a.1 a.2.1))
def Zdu:Fs U:=fs Ziy (fun a=> [ZbW a]) Zne
def Zd3:ArgL (Int × Op × Int × Unit):=(.cons (YG .i64) (.cons (aEl .op) (.cons (YG .i64) .nil)))
def Zb2(a:Int × Op × Int × Unit):Prop:=(Zw a.2.1≤20000000000∧Yz a.2.1∧isI a.1)∧0≤a.2.2.1∧a.2.2.1≤1000
def Zgq(a:Int × Op × Int × Unit):Nat:=2*Zw a.2.1+1
def Zhs(a:Int × Op × Int × Unit):V U:= .c (.bool (Zc a.1 a.2.1 a.2.2.1))
def ZmW:Fs U:=fs Zd3 (fun a=> [Zb2 a]) Zhs
def Zms:ArgL (Edit × Unit):=(.cons (aEl .edit) .nil)
def Ze4(a:Edit × Unit):Prop:=(Z9 a.1≤20000000000∧YI a.1)∧∃ d,Z2 a.1 d=true
def Zk0(a:Edit × Unit):Nat:=Z9 a.1
def Zsn(a:Edit × Unit):V U:= .c (.bool (YL a.1))
def Zdt:Fs U:=fs Zms (fun a=> [Ze4 a]) Zsn
def Zvb:ArgL (Edit × Unit):=(.cons (aEl .edit) .nil)
def Znw(a:Edit × Unit):Prop:=Z40 a.1∧YI a.1
def Zzs(a:Edit × Unit):V U:= .c (.bool (Z0J a.1))
def ZdC:Fs U:=fs Zvb (fun a=> [Znw a]) Zzs
def Zm8(N:Nat):List (FuncId × Fs U):=(64,fs Ziy (fun a=> [ZbW a,ZhN a < N]) Zne) ::(101,fs Zd3 (fun a=> [Zb2 a,Zgq a < N]) Zhs) ::[(99,Z50),(100,Z6Q),(137,Z6N),(31,ZaH),(102,Z2p)]
def Zxv:Zj U:=lvl [([1,2],[2]),([1,2,24],[2]),([4],[]),([1,2,69],[2]),([4],[]),([1,2,72],[2]),([4],[]),([1,2,5],[2]),([1,2,5,6],[2]),([1,2,5,6,97],[2]),([1,2,5,6],[2]),([1,2,5,6,7],[2,7]),([1,2,6,7,134],[2,7]),([4],[]),([1,2,5,6],[2]),([1,2,5],[2]),([1,2,5,8],[2]),([1,2,5,8,141],[2]),([1,2,5,8],[2]),([1,2,5,8,9],[2,9]),([1,2,8,9,171],[2,9]),([4],[]),([1,2,5,8],[2]),([1,2,186],[2]),([4],[]),([1,2,10],[2]),([1,2,10,191],[2]),([1,2,10],[2]),([1,2,10,204],[2]),([4],[]),([11,12],[]),([4],[])]
def Zai(e:Edit)(d x5 x6:Int):LSt U:=(L2 [(1,.c (ci d)),(2,.ptr (.loc 2) 0),(5,.c (ci x5)),(6,.c (ci x6))] [(.loc 2,(enc .edit e))])
def Zah(e:Edit)(d x5_a x8_a:Int):LSt U:=(L2 [(1,.c (ci d)),(2,.ptr (.loc 2) 0),(5,.c (ci x5_a)),(8,.c (ci x8_a))] [(.loc 2,(enc .edit e))])
def Zag(e:Edit)(d x10_b:Int):LSt U:=(L2 [(1,.c (ci d)),(2,.ptr (.loc 2) 0),(10,.c (ci x10_b))] [(.loc 2,(enc .edit e))])
abbrev A64(N:Nat)(p:List Nat):=AW (Z0 (Zm8 N)) Tryz.f64 Zxv p
abbrev S64(N:Nat)(p:List Nat):=SW (Z0 (Zm8 N)) Tryz.f64 Zxv p
theorem ZFO(N:Nat)(e:Edit)(d:Int)(Q:QT)(h:∀ y_1,y_1=(e.new)→∀ y_2,y_2=(e.old)→let z11:=Q .ret (L2 [(4,.c (.bool false))] []);let z8:=(e.kind !=1) && (ZZ y_2);let z3:=bif (d==0) then true else (decide (e.kind < 0));let z10:=bif z3 then true else (decide ((3:Int) < e.kind));let z2:=bif (Ze y_2 64) then (Ze y_1 64) else false;let z6:=bif z2 then (e.old.kind !=10) else false;let z1:=bif (e.kind !=1) then (!(bif (ZZ y_2) then (ZZ y_1) else false)) else false;let z5:=(!z1) && (e.kind !=2);let z0:=bif z1 then true else (bif (e.kind !=2) then (decide ((0:Int) < (((e.words.length:Int):Int)+(e.kids.length:Int)))) else false);let z7:=bif z0 then true else (bif (e.kind !=3) then (bif (e.list !=0) then true else (decide ((0:Int) < (e.ops.length:Int)))) else false);let z4:=(!z0) && (e.kind !=3);let z9:=z4 && (!(e.list !=0));((Tr ((!(d==0))=true))∧(Tr ((!(d==0))=true))∧((d==0)=false→(!(d==0))=true)∧(Tr ((!z3)=true))∧(Tr ((!z3)=true))∧(z3=false→(!z3)=true)∧((z10=true→z11)∧(z10=false→(Tr ((e.kind !=1)=true))∧(Tr ((e.kind !=1)=true))∧((e.kind !=1)=true→Z64 (y_2,()))∧(Tr ((e.kind !=1)=true))∧(Tr (z8=true))∧(Tr (z8=true))∧(z8=true→Z64 (y_1,()))∧((e.kind !=1)=true→(True→(e.kind !=1)=true))∧((e.kind !=1)=true→((ZZ y_2)=true→z8=true))∧(Tr ((e.kind !=1)=true))∧(Tr ((e.kind !=1)=true))∧(Tr ((!z1)=true))∧(Tr ((!z1)=true))∧(Tr ((!z1)=true))∧(Tr (z5=true))∧(Tr (z5=true))∧(Tr (z5=true))∧(Tr (z5=true))∧(Tr (z5=true))∧(Tr (z5=true))∧(z5=true→InR (((e.words.length:Int):Int)+(e.kids.length:Int)))∧(Tr (z5=true))∧((!z1)=true→(True→(!z1)=true))∧((!z1)=true→((e.kind !=2)=true→z5=true))∧(z1=false→(!z1)=true)∧(Tr ((!z0)=true))∧(Tr ((!z0)=true))∧(Tr ((!z0)=true))∧(Tr (z4=true))∧(Tr (z4=true))∧(Tr (z4=true))∧(Tr (z9=true))∧(Tr (z9=true))∧(Tr (z9=true))∧(z4=true→(True→z4=true))∧(z4=true→((e.list !=0)=false→z9=true))∧((!z0)=true→(True→(!z0)=true))∧((!z0)=true→((e.kind !=3)=true→z4=true))∧(z0=false→(!z0)=true)∧((z7=true→z11)∧(z7=false→(((e.kind==1)=true→(Z7K (y_2,64,()))∧(Tr ((Ze y_2 64)=true))∧(Tr ((Ze y_2 64)=true))∧((Ze y_2 64)=true→Z7K (y_1,64,()))∧(Tr ((Ze y_2 64)=true))∧(Tr (z2=true))∧(Tr (z2=true))∧(Tr (z2=true))∧(Tr (z2=true))∧(Tr (z6=true))∧(Tr (z6=true))∧(Tr (z6=true))∧(Tr (z6=true))∧(Q .ret (L2 [(4,.c (.bool (bif z6 then (e.new.kind !=10) else false)))] [])))∧((e.kind==1)=false→(Zf (A64 N [1,1,1,1,1,0,1,0,0]) (Zai e d (-1) 0) (xB 0 (S64 N [1,1,1,1,1,1] Q))))))))))):
  A64 N [] (L2 [(0,.agg (enc .edit e)),(1,.c (ci d))] []) Q:=
 Eq.mpr (by kernel_rfl) (h _ (Zm _) _ (Zm _))
theorem ZvU(N:Nat)(e:Edit)(d x5 x6:Int)(N0:NT)(Q:QT)(h:∀ y_1,y_1=(e.words.getD x6.toNat (WEdit.mk 0 0 0 0))→let z5:=decide (x6 < (e.words.length:Int));let z3:=decide (y_1.at_≤x5);let z2:=bif z3 then true else (decide ((65534:Int) < y_1.at_));let z0:=bif z2 then true else (y_1.mask==0);let z1:=bif z0 then true else (!(Yu y_1.old y_1.mask));let z4:=bif z1 then true else (!(Yu y_1.new y_1.mask));((z5=true→((0:Int)≤x6∧x6 < (e.words.length:Int))∧((Tr ((!z3)=true))∧(Tr ((!z3)=true))∧(z3=false→(!z3)=true)∧(Tr ((!z2)=true))∧(Tr ((!z2)=true))∧(z2=false→(!z2)=true)∧(Tr ((!z0)=true))∧(Tr ((!z0)=true))∧(Tr ((!z0)=true))∧(Tr ((!z0)=true))∧((!z0)=true→ZhE (y_1.old,y_1.mask,()))∧(Tr ((!z0)=true))∧(z0=false→(!z0)=true)∧(Tr ((!z1)=true))∧(Tr ((!z1)=true))∧(Tr ((!z1)=true))∧(Tr ((!z1)=true))∧((!z1)=true→ZhE (y_1.new,y_1.mask,()))∧(Tr ((!z1)=true))∧(z1=false→(!z1)=true)∧((z4=true→(Q .ret (L2 [(4,.c (.bool false))] [])))∧(z4=false→((InR (x6+1))∧(N0 (Zai e d y_1.at_ (x6+1))))))))∧(z5=false→(Zf (A64 N [1,1,1,1,1,1,1,0,1,0,0]) (Zah e d (-1) 0) (xB 2 (S64 N [1,1,1,1,1,1,1,1] Q)))))):
  A64 N [1,1,1,1,1,0,1,0,0] (Zai e d x5 x6) (xT N0 (xB 0 (S64 N [1,1,1,1,1,1] Q))):=
 Eq.mpr (by kernel_rfl) (h _ rfl)
theorem ZvT(N:Nat)(e:Edit)(d x5_a x8_a:Int)(N1:NT)(Q:QT)(h:∀ y_1,y_1=(e.kids.getD x8_a.toNat (KidOf.mk 0 Edit.nil))→∀ y_2,y_2=(y_1.e)→let z8:=decide (x8_a < (e.kids.length:Int));let z7:=decide (e.list < 2);let z6:=Q .ret (L2 [(4,.c (.bool false))] []);let z4:=(e.kind==3) && (!z7);let z3:=decide (y_1.at_≤x5_a);let z2:=bif (e.kind==3) then (bif z7 then true else (decide ((9:Int) < e.list))) else false;let z1:=bif z3 then true else (decide ((65534:Int) < y_1.at_));let z0:=bif z1 then true else (y_1.e.kind==0);let z5:=bif z0 then true else (!(Z2 y_2 (d - 1)));((z8=true→((0:Int)≤x8_a∧x8_a < (e.kids.length:Int))∧((Tr ((!z3)=true))∧(Tr ((!z3)=true))∧(z3=false→(!z3)=true)∧(Tr ((!z1)=true))∧(Tr ((!z1)=true))∧(Tr ((!z1)=true))∧(z1=false→(!z1)=true)∧(Tr ((!z0)=true))∧(Tr ((!z0)=true))∧((!z0)=true→InR (d - 1))∧(Tr ((!z0)=true))∧(Tr ((!z0)=true))∧((!z0)=true→ZbW (y_2,(d - 1),()))∧((!z0)=true→ZhN (y_2,(d - 1),()) < N)∧(Tr ((!z0)=true))∧(z0=false→(!z0)=true)∧((z5=true→z6)∧(z5=false→((InR (x8_a+1))∧(N1 (Zah e d y_1.at_ (x8_a+1))))))))∧(z8=false→(Tr ((e.kind==3)=true))∧(Tr ((e.kind==3)=true))∧(Tr ((e.kind==3)=true))∧(Tr (z4=true))∧(Tr (z4=true))∧((e.kind==3)=true→(True→(e.kind==3)=true))∧((e.kind==3)=true→(z7=false→z4=true))∧(Tr ((e.kind==3)=true))∧((z2=true→z6)∧(z2=false→(Zf (A64 N [1,1,1,1,1,1,1,1,1,0,1,0,0]) (Zag e d 0) (xB 4 (S64 N [1,1,1,1,1,1,1,1,1,1] Q)))))))):
  A64 N [1,1,1,1,1,1,1,0,1,0,0] (Zah e d x5_a x8_a) (xT N1 (xB 2 (S64 N [1,1,1,1,1,1,1,1] Q))):=
 Eq.mpr (by kernel_rfl) (h _ rfl _ (Z6 _))
theorem ZvS(N:Nat)(e:Edit)(d x10_b:Int)(N2:NT)(Q:QT)(h:∀ y_1,y_1=e→∀ y_2,y_2=(e.ops.getD x10_b.toNat Op.nil)→∀ y_3,y_3=y_2→let z2:= !(Zc e.list y_3 (d - 1));let z1:=decide (x10_b < (e.ops.length:Int));let z0:=decide (((Ym y_1.ops 0):Int) < 1048576);((z1=true→((0:Int)≤x10_b∧x10_b < (e.ops.length:Int))∧(InR (d - 1))∧(Zb2 (e.list,y_3,(d - 1),()))∧(Zgq (e.list,y_3,(d - 1),()) < N)∧((z2=true→(Q .ret (L2 [(4,.c (.bool false))] [])))∧(z2=false→(InR (x10_b+1))∧(N2 (Zag e d (x10_b+1))))))∧(z1=false→(Zei (y_1,()))∧((Tr (z0=true))∧(Tr (z0=true))∧(Q .ret (L2 [(4,.c (.bool (bif z0 then (decide (((Jb y_1.ops 0):Int) < 1048576)) else false)))] [])))))):
  A64 N [1,1,1,1,1,1,1,1,1,0,1,0,0] (Zag e d x10_b) (xT N2 (xB 4 (S64 N [1,1,1,1,1,1,1,1,1,1] Q))):=
 Eq.mpr (by kernel_rfl) (h _ (Z6 _) _ rfl _ (YX _))
def ZCI(N:Nat)(e:Edit)(d:Int):Prop:=AW (Z0 (Zm8 N)) Tryz.f64 Zxv [] (Zl (Ziy.can (e,d,())) []) (EQ Tryz.f64 (Zne (e,d,())) [])
abbrev ZFr:Prop:=∀ (N:Nat) (e:Edit) (d:Int) (_:Unit),ZbW (e,d,())→ZhN (e,d,()) < N+1→ZCI N e d
def Zie(N:Nat):List (FuncId × Fs U):=(64,fs Ziy (fun a=> [ZbW a,ZhN a < N]) Zne) ::(101,fs Zd3 (fun a=> [Zb2 a,Zgq a < N]) Zhs) ::[(99,Z50),(100,Z6Q),(137,Z6N),(31,ZaH),(102,Z2p)]
def Zo5:Zj U:=lvl [([0,2,4],[4]),([0,2,4,10],[4]),([6],[]),([0,2,4,42],[4]),([6],[]),([0,2,4,45],[4]),([0,4,7],[4]),([0,4,7,50],[4]),([0,4,7],[4]),([0,4,7,62],[4]),([6],[]),([6],[]),([0,4,92],[4]),([6],[]),([6],[])]
def Z7y(list:Int)(o:Op)(d x7:Int):LSt U:=(L2 [(0,.c (ci list)),(4,.ptr (.loc 4) 0),(7,.c (ci x7))] [(.loc 4,(enc .op o))])
abbrev ZDa(N:Nat)(p:List Nat):=AW (Z0 (Zie N)) Tryz.f101 Zo5 p
abbrev Zy7(N:Nat)(p:List Nat):=SW (Z0 (Zie N)) Tryz.f101 Zo5 p
theorem ZEk(N:Nat)(list:Int)(o:Op)(d:Int)(Q:QT)(h:∀ y_1,y_1=(o.e)→let z12:=Q .ret (L2 [(6,.c (.bool false))] []);let z9:=decide ((1:Int)≤o.n);let z5:=bif (o.n !=0) then true else (decide (o.kind < 0));let z10:=bif z5 then true else (decide ((3:Int) < o.kind));let z4:=decide ((0:Int) < (o.l.length:Int));let z7:=bif z4 then true else (o.e.kind==0);let z3:=bif (o.e.kind==1) then (o.e.old.kind==1) else false;let z2:=bif z9 then (decide (o.n≤1048576)) else false;let z6:=bif z2 then (((o.l.length:Int):Int)==0) else false;let z1:=bif (list==8) then true else (o.e.kind==2);let z8:=(!z1) && (o.e.kind==1);let z0:=bif z7 then true else (decide (list≤7));let z11:=bif z0 then true else (!(Z2 y_1 d));(((o.kind==0)=true→(Tr (z9=true))∧(Tr (z9=true))∧(Tr (z9=true))∧(Tr (z2=true))∧(Tr (z2=true))∧(Tr (z2=true))∧(Tr (z2=true))∧(Tr (z6=true))∧(Tr (z6=true))∧(z6=true→Z8f (y_1,()))∧(Tr (z6=true))∧(Q .ret (L2 [(6,.c (.bool (bif z6 then (Z1g y_1) else false)))] [])))∧((o.kind==0)=false→(Tr ((!(o.n !=0))=true))∧(Tr ((!(o.n !=0))=true))∧((o.n !=0)=false→(!(o.n !=0))=true)∧(Tr ((!z5)=true))∧(Tr ((!z5)=true))∧(z5=false→(!z5)=true)∧((z10=true→z12)∧(z10=false→(((decide (o.kind < 3))=true→(Zf (ZDa N [1,1,1,0,1,0,0,1,0,0]) (Z7y list o d 0) (xB 0 (Zy7 N [1,1,1,0,1,0,1] (Zy7 N [1,1,1,1] Q)))))∧((decide (o.kind < 3))=false→(Tr ((!z4)=true))∧(Tr ((!z4)=true))∧(Tr ((!z4)=true))∧(z4=false→(!z4)=true)∧(Tr ((!z7)=true))∧(z7=false→(!z7)=true)∧(Tr ((!z0)=true))∧(Tr ((!z0)=true))∧(Tr ((!z0)=true))∧((!z0)=true→ZbW (y_1,d,()))∧((!z0)=true→ZhN (y_1,d,()) < N)∧(Tr ((!z0)=true))∧(z0=false→(!z0)=true)∧((z11=true→z12)∧(z11=false→(Tr ((!(list==8))=true))∧(Tr ((!(list==8))=true))∧(Tr ((!(list==8))=true))∧((list==8)=false→(!(list==8))=true)∧(Tr ((!z1)=true))∧(Tr ((!z1)=true))∧(Tr ((!z1)=true))∧(Tr ((!z1)=true))∧(Tr (z8=true))∧(Tr (z8=true))∧(Tr (z8=true))∧(Tr (z8=true))∧((!z1)=true→(True→(!z1)=true))∧((!z1)=true→((o.e.kind==1)=true→z8=true))∧(Tr ((!z1)=true))∧(Tr (((!z1) && z3)=true))∧(Tr (((!z1) && z3)=true))∧(Tr (((!z1) && z3)=true))∧(Tr (((!z1) && z3)=true))∧((!z1)=true→(True→(!z1)=true))∧((!z1)=true→(z3=true→((!z1) && z3)=true))∧(z1=false→(!z1)=true)∧(Q .ret (L2 [(6,.c (.bool (bif z1 then true else (bif z3 then (o.e.new.kind==1) else false))))] []))))))))))):
  ZDa N [] (L2 [(0,.c (ci list)),(1,.agg (enc .op o)),(2,.c (ci d))] []) Q:=
 Eq.mpr (by kernel_rfl) (h _ (Z6 _))
theorem Zs2(N:Nat)(list:Int)(o:Op)(d x7:Int)(N0:NT)(Q:QT)(h:let z3:=decide (x7 < (o.l.length:Int));let z2:=Tree.mk list [] (List.drop x7.toNat (List.take (Int.toNat (x7+1)) o.l));let z1:=Edit.mk o.e.kind (Tree.mk o.e.old.kind o.e.old.words o.e.old.kids) (Tree.mk o.e.new.kind o.e.new.words o.e.new.kids) o.e.words o.e.kids o.e.list o.e.ops;let z0:=decide ((0:Int) < (o.l.length:Int));((z3=true→(InR (x7+1))∧((0:Int)≤x7∧x7≤(x7+1)∧(x7+1)≤(o.l.length:Int))∧(Z7K (z2,64,()))∧(((!(Ze z2 64))=true→(Q .ret (L2 [(6,.c (.bool false))] [])))∧((!(Ze z2 64))=false→(InR (x7+1))∧(N0 (Z7y list o d (x7+1))))))∧(z3=false→(Tr (z0=true))∧(Tr (z0=true))∧(z0=true→Z8f (z1,()))∧(Tr (z0=true))∧(Q .ret (L2 [(6,.c (.bool (bif z0 then (Z1g z1) else false)))] []))))):
  ZDa N [1,1,1,0,1,0,0,1,0,0] (Z7y list o d x7) (xT N0 (xB 0 (Zy7 N [1,1,1,0,1,0,1] (Zy7 N [1,1,1,1] Q)))):=
 Eq.mpr (by kernel_rfl) h
def Zzf(N:Nat)(list:Int)(o:Op)(d:Int):Prop:=AW (Z0 (Zie N)) Tryz.f101 Zo5 [] (Zl (Zd3.can (list,o,d,())) []) (EQ Tryz.f101 (Zhs (list,o,d,())) [])
abbrev ZAa:Prop:=∀ (N:Nat) (list:Int) (o:Op) (d:Int) (_:Unit),Zb2 (list,o,d,())→Zgq (list,o,d,()) < N+1→Zzf N list o d
def Zm7(N:Nat):List (FuncId × Fs U):=(65,fs Zms (fun a=> [Ze4 a,Zk0 a < N]) Zsn) ::[(102,Z2p)]
def Zxu:Zj U:=lvl [([1],[1]),([1,3,4],[1]),([1,17],[1]),([2],[]),([1,5],[1]),([1,5,22],[1]),([1,5],[1]),([1,5,32],[1]),([2],[]),([1,6],[1]),([1,6,37],[1]),([1,6],[1]),([1,6,47],[1]),([2],[]),([2],[])]
def Zaf(e:Edit)(x5:Int):LSt U:=(L2 [(1,.ptr (.loc 1) 0),(5,.c (ci x5))] [(.loc 1,(enc .edit e))])
def Zae(e:Edit)(x6_a:Int):LSt U:=(L2 [(1,.ptr (.loc 1) 0),(6,.c (ci x6_a))] [(.loc 1,(enc .edit e))])
abbrev A65(N:Nat)(p:List Nat):=AW (Z0 (Zm7 N)) Tryz.f65 Zxu p
abbrev S65(N:Nat)(p:List Nat):=SW (Z0 (Zm7 N)) Tryz.f65 Zxu p
theorem ZFN(N:Nat)(e:Edit)(Q:QT)(h:∀ y_1,y_1=e→let z0:=decide ((2000:Int) < (Ym y_1.ops 0));let z1:=bif z0 then true else (decide ((2000:Int) < (Jb y_1.ops 0)));((Zei (y_1,()))∧((Tr ((!z0)=true))∧(z0=false→(!z0)=true)∧((z1=true→(Q .ret (L2 [(2,.c (.bool false))] [])))∧(z1=false→(Zf (A65 N [1,1,1,0,1,0,0]) (Zaf e 0) (xB 0 (S65 N [1,1,1,1] Q)))))))):
  A65 N [] (L2 [(0,.agg (enc .edit e))] []) Q:=
 Eq.mpr (by kernel_rfl) (h _ (Z6 _))
theorem ZvR(N:Nat)(e:Edit)(x5:Int)(N0:NT)(Q:QT)(h:∀ y_1,y_1=(e.kids.getD x5.toNat (KidOf.mk 0 Edit.nil))→∀ y_2,y_2=(y_1.e)→let z0:=decide (x5 < (e.kids.length:Int));((z0=true→((0:Int)≤x5∧x5 < (e.kids.length:Int))∧(Ze4 (y_2,()))∧(Zk0 (y_2,()) < N)∧(((!(YL y_2))=true→(Q .ret (L2 [(2,.c (.bool false))] [])))∧((!(YL y_2))=false→(InR (x5+1))∧(N0 (Zaf e (x5+1))))))∧(z0=false→(Zf (A65 N [1,1,1,1,0,1,0,0]) (Zae e 0) (xB 2 (S65 N [1,1,1,1,1] Q)))))):
  A65 N [1,1,1,0,1,0,0] (Zaf e x5) (xT N0 (xB 0 (S65 N [1,1,1,1] Q))):=
 Eq.mpr (by kernel_rfl) (h _ rfl _ (Z6 _))
theorem ZvQ(N:Nat)(e:Edit)(x6_a:Int)(N1:NT)(Q:QT)(h:∀ y_1,y_1=(e.ops.getD x6_a.toNat Op.nil)→∀ y_2,y_2=(y_1.e)→let z0:=decide (x6_a < (e.ops.length:Int));((z0=true→((0:Int)≤x6_a∧x6_a < (e.ops.length:Int))∧(Ze4 (y_2,()))∧(Zk0 (y_2,()) < N)∧(((!(YL y_2))=true→(Q .ret (L2 [(2,.c (.bool false))] [])))∧((!(YL y_2))=false→(InR (x6_a+1))∧(N1 (Zae e (x6_a+1))))))∧(z0=false→(Q .ret (L2 [(2,.c (.bool true))] []))))):
  A65 N [1,1,1,1,0,1,0,0] (Zae e x6_a) (xT N1 (xB 2 (S65 N [1,1,1,1,1] Q))):=
 Eq.mpr (by kernel_rfl) (h _ rfl _ (Z6 _))
def ZCH(N:Nat)(e:Edit):Prop:=AW (Z0 (Zm7 N)) Tryz.f65 Zxu [] (Zl (Zms.can (e,())) []) (EQ Tryz.f65 (Zsn (e,())) [])
theorem ZAQ(Zr0:CT 102 Z2p)(hb:∀ (N:Nat) (e:Edit) (_:Unit),Ze4 (e,())→Zk0 (e,()) < N+1→ZCH N e):CT 65 Zdt:=
 Yo (μ:=Zk0) (l:=[(102,Z2p)]) Zo rfl (⟨Zr0,trivial⟩) Zxu Tryz.func65 rfl rfl 1 (fun _=> rfl) (by decide) (fun N ⟨e,_⟩=> hb N e ())
def Zuv:List (FuncId × Fs U):=[(45,Zdv),(64,Zdu),(65,Zdt)]
def ZBg:Zj U:=lvl [([1],[1]),([2],[])]
abbrev A14(p:List Nat):=AW (Z0 Zuv) Tryz.f14 ZBg p
theorem ZG2(e:Edit)(Q:QT)(h:∀ y_1,y_1=e→let z1:=decide (0≤Z17 y_1 80 3000);let z0:=bif z1 then (Z2 y_1 64) else false;((Zta (y_1,()))∧(Tr (z1=true))∧(z1=true→ZbW (y_1,64,()))∧(Tr (z1=true))∧(Tr (z0=true))∧(z0=true→Ze4 (y_1,()))∧(Tr (z0=true))∧(Q .ret (L2 [(2,.c (.bool (bif z0 then (YL y_1) else false)))] [])))):
  A14 [] (L2 [(0,.agg (enc .edit e))] []) Q:=
 Eq.mpr (by kernel_rfl) (h _ (Z6 _))
def ZCW(e:Edit):Prop:=AW (Z0 Zuv) Tryz.f14 ZBg [] (Zl (Zvb.can (e,())) []) (EQ Tryz.f14 (Zzs (e,())) [])
theorem ZB3(c45:CT 45 Zdv)(c64:CT 64 Zdu)(c65:CT 65 Zdt)(hb:∀ (e:Edit) (_:Unit),Znw (e,())→ZCW e):CT 14 ZdC:=
 Z4 (l:=[(45,Zdv),(64,Zdu),(65,Zdt)]) Zo rfl (⟨c45,c64,c65,trivial⟩) ZBg Tryz.func14 rfl rfl 1 (fun _=> rfl) (by decide) (fun ⟨e,_⟩=> hb e ())
theorem ZqA(c99:CT 99 Z50)(ZC8:CT 100 Z6Q)(ZBV:CT 137 Z6N)(c31:CT 31 ZaH)(Zr0:CT 102 Z2p)(ha:ZFr)(hb:ZAa):CT 64 Zdu∧CT 101 ZmW:=
 Z0t (μA:=ZhN) (μB:=Zgq) (l:=[(99,Z50),(100,Z6Q),(137,Z6N),(31,ZaH),(102,Z2p)]) Zo rfl (⟨c99,ZC8,ZBV,c31,Zr0,trivial⟩) Zxv Zo5 Tryz.func64 Tryz.func101 rfl rfl rfl rfl 2 3 (fun _=> rfl) (fun _=> rfl) (by decide) (by decide) (fun N ⟨e,d,_⟩=> ha N e d ()) (fun N ⟨list,o,d,_⟩=> hb N list o d ())
end
end Go.AM.YtpjenobkibfpcaaGreat
namespace Go.AM.YtpjenobkibfpcaaGreat
open Go.AM Go.Proofs
theorem Z5J{n:Int}(h0:0≤n)(h1:n < 18446744073709551616):IntKind.wrap .u64 n=n:=by
 simp [IntKind.wrap,IntKind.signed,IntKind.bits];omega
theorem ZcH{n:Int}(h0:0≤n)(h1:n < 256):IntKind.wrap .u8 n=n:=by
 simp [IntKind.wrap,IntKind.signed,IntKind.bits];omega
theorem Zpw{i:Int}{j:Nat}{v:Int}{F G:Nat→Int}(hi:0≤i)(hv:v=F i.toNat):Z26 i j v (if (j:Int) < i then F j else G j)=if (j:Int) < i+1 then F j else G j:=by
 unfold Z26
 by_cases h:i=j
 ·subst h
  rw [if_pos rfl,if_pos (by omega),hv]
  simp
 ·rw [if_neg h]
  by_cases h2:(j:Int) < i
  ·rw [if_pos h2,if_pos (by omega)]
  ·rw [if_neg h2,if_neg (by omega)]
theorem ZxG{i:Int}{j:Nat}{F G:Nat→Int}(h:F i.toNat=G i.toNat)(hi:0≤i):(if (j:Int) < i then F j else G j)=if (j:Int) < i+1 then F j else G j:=by
 by_cases h2:(j:Int) < i
 ·rw [if_pos h2,if_pos (by omega)]
 ·by_cases h3:(j:Int)=i
  ·subst h3
   rw [if_neg h2,if_pos (by omega)]
   simpa using h.symm
  ·rw [if_neg h2,if_neg (by omega)]
theorem Z1c(w:Int)(i:Nat):0≤Zn w i∧Zn w i < 256:=by
 unfold Zn
 omega
theorem Z6A{w:Int}(h:0≤w)(i:Nat):0≤w / 256 ^ i:=Int.ediv_nonneg h (Int.le_of_lt (Int.pow_pos (by omega)))
theorem Zf4{w:Int}(h:0≤w)(i:Nat):w / 256 ^ i≤w:=Int.ediv_le_self _ h
theorem Zim(w:Int)(i:Nat):w / 256 ^ i / 256=w / 256 ^ (i+1):=by
 rw [Int.ediv_ediv_of_nonneg (Int.le_of_lt (Int.pow_pos (by omega))),Int.pow_succ]
theorem ZBK:Contract Tryz.prog cfg 186 Z8V:=by
 refine ZwO ?_
 intro w _ hp
 simp only [Ze9] at hp
 refine ZDC _ _ ?_;(try simp only [vcT,forall_eq])
 refine Za (ι:=Int) (fun i=> Z4G w (w / 256 ^ i.toNat) i (if ((0:Nat):Int) < i then Zn w 0 else 0) (if ((1:Nat):Int) < i then Zn w 1 else 0) (if ((2:Nat):Int) < i then Zn w 2 else 0) (if ((3:Nat):Int) < i then Zn w 3 else 0)
  (if ((4:Nat):Int) < i then Zn w 4 else 0) (if ((5:Nat):Int) < i then Zn w 5 else 0) (if ((6:Nat):Int) < i then Zn w 6 else 0) (if ((7:Nat):Int) < i then Zn w 7 else 0)) (fun i=> 0≤i∧i≤8) (fun i=> (8 - i).toNat) 0 ?_ ⟨by omega,by omega⟩ ?_
 ·simp [Z4G]
 ·rintro i ⟨h1,h2⟩
  refine Zrr _ _ _ _ _ _ _ _ _ _ _ _ _ ?_;(try simp only [vcT,forall_eq])
  (simp only [vcS]);(try simp only [vcT])
  refine ⟨fun hc=> ⟨by omega,⟨h1,by omega⟩,by omega,by unfold InR;omega,i+1,?_,⟨by omega,by omega⟩,by omega⟩,fun hc=> ?_⟩
  ·have hd:=Z6A hp.1 i.toNat
   have hl:=Zf4 hp.1 i.toNat
   have e1:IntKind.wrap .u64 (Int.tdiv (w / 256 ^ i.toNat) 256)=w / 256 ^ (i+1).toNat:=by
    rw [Int.tdiv_eq_ediv_of_nonneg hd,Zim,show i.toNat+1=(i+1).toNat by omega]
    exact Z5J (Z6A hp.1 _) (Int.lt_of_le_of_lt (Zf4 hp.1 _) hp.2)
   have e2:IntKind.wrap .u8 (Int.tmod (w / 256 ^ i.toNat) 256)=Zn w i.toNat:=by
    rw [Int.tmod_eq_emod_of_nonneg hd]
    exact ZcH (Z1c w _).1 (Z1c w _).2
   rw [e1]
   have st:∀ j:Nat,Z26 i j (IntKind.wrap .u8 (Int.tmod (w / 256 ^ i.toNat) 256)) (if (j:Int) < i then Zn w j else 0)=if (j:Int) < i+1 then Zn w j else 0:=fun j=> Zpw (F:=Zn w) (G:=fun _=> 0) h1 e2
   rw [st 0,st 1,st 2,st 3,st 4,st 5,st 6,st 7]
  ·have:i=8:=by omega
   subst this
   simp only [Zln]
   exact ⟨⟨rfl,⟨⟨rfl,rfl⟩,⟨rfl,rfl⟩,⟨rfl,rfl⟩,⟨rfl,rfl⟩,⟨rfl,rfl⟩,⟨rfl,rfl⟩,⟨rfl,rfl⟩,⟨rfl,rfl⟩,trivial⟩,trivial⟩,trivial⟩
theorem ZBJ:Contract Tryz.prog cfg 187 Z8U:=by
 refine ZwN ?_
 intro m i _ hp
 simp only [ZhA] at hp
 refine ZDB _ _ _ ?_;(try simp only [vcT,forall_eq])
 refine Za (ι:=Int) (fun k=> Z7h m i (m / 2 ^ k.toNat) k) (fun k=> 0≤k∧k≤i) (fun k=> (i - k).toNat) 0 ?_ ⟨by omega,by omega⟩ ?_
 ·simp
 ·rintro k ⟨h1,h2⟩
  refine Zrq _ _ _ _ _ _ ?_;(try simp only [vcT,forall_eq])
  have hd:0≤m / 2 ^ k.toNat:=Int.ediv_nonneg hp.1.1 (Int.le_of_lt (Int.pow_pos (by omega)))
  have hl:m / 2 ^ k.toNat≤m:=Int.ediv_le_self _ hp.1.1
  (simp only [vcS])
  refine ⟨fun hc=> ⟨by omega,by unfold InR;omega,k+1,?_,⟨by omega,by omega⟩,by omega⟩,fun hc=> ⟨by omega,Z5 rfl ?_⟩⟩
  ·have e:IntKind.wrap .u8 (Int.tdiv (m / 2 ^ k.toNat) 2)=m / 2 ^ (k+1).toNat:=by
    rw [Int.tdiv_eq_ediv_of_nonneg hd,Int.ediv_ediv_of_nonneg (Int.le_of_lt (Int.pow_pos (by omega))),show (2:Int) ^ k.toNat*2=2 ^ (k+1).toNat by rw [←Int.pow_succ];congr 1;omega]
    refine ZcH (Int.ediv_nonneg hp.1.1 (Int.le_of_lt (Int.pow_pos (by omega)))) (Int.lt_of_le_of_lt (Int.ediv_le_self _ hp.1.1) hp.1.2)
   rw [e]
  ·have:k=i:=by omega
   subst this
   rw [Int.tmod_eq_emod_of_nonneg hd]
   try rfl
def Zcw(f:Nat→Int):Nat→Int
 | 0=> 0
 | k+1=> f (7 - k)+256*Zcw f k
theorem Zdf{f:Nat→Int}(h:∀ i,0≤f i∧f i < 256):∀ k,0≤Zcw f k∧Zcw f k < 256 ^ k
 | 0=> by simp [Zcw]
 | k+1=> by
  have:=Zdf h k
  have h2:=h (7 - k)
  simp only [Zcw,Int.pow_succ]
  omega
theorem ZAi(f:Nat→Int):Zcw f 8=of8 f:=by simp [Zcw,of8]
theorem ZBI:Contract Tryz.prog cfg 188 Z8T:=by
 refine ZwM ?_
 intro b z _ hp
 obtain ⟨rfl,hl,hb⟩:=hp
 dsimp only at hl hb
 refine ZDA _ _ _ ?_;(try simp only [vcT,forall_eq])
 have hf:∀ i,0≤b.getD i 0∧b.getD i 0 < 256:=by
  intro i
  by_cases hi:i < b.length
  ·have:b.getD i 0∈b:=by
    simp only [List.getD,List.getElem?_eq_getElem hi,Option.getD_some]
    exact List.getElem_mem hi
   exact hb _ this
  ·rw [List.getD,List.getElem?_eq_none (by omega)];simp
 refine Za (ι:=Int) (fun i=> Z7g b 0 (Zcw (fun i=> b.getD i 0) (7 - i).toNat) i) (fun i=> -1≤i∧i≤7) (fun i=> (i+1).toNat) 7 rfl ⟨by omega,by omega⟩ ?_
 rintro i ⟨h1,h2⟩
 refine Zrp _ _ _ _ _ _ ?_;(try simp only [vcT,forall_eq])
 (simp only [vcS]);(try simp only [vcT])
 have hr:=Zdf (f:=fun i=> b.getD i 0) hf (7 - i).toNat
 refine ⟨fun hc=> ⟨by unfold InR;omega,by omega,by unfold InR;omega,i - 1,?_,⟨by omega,by omega⟩,by omega⟩,fun hc=> YF rfl ?_⟩
 ·have hp7:(256:Int) ^ (7 - i).toNat≤256 ^ 7:=by
   have:(256:Int) ^ (7 - i).toNat=((256 ^ (7 - i).toNat:Nat):Int):=by simp
   rw [this]
   have h7:(256:Nat) ^ (7 - i).toNat≤256 ^ 7:=Nat.pow_le_pow_right (by omega) (by omega)
   have:((256:Nat) ^ 7:Nat)=72057594037927936:=by decide
   omega
  have e7:(256:Int) ^ 7=72057594037927936:=by decide
  have hfi:=hf i.toNat
  have e:Zcw (fun i=> b.getD i 0) (7 - (i - 1)).toNat=b.getD i.toNat 0+256*Zcw (fun i=> b.getD i 0) (7 - i).toNat:=by
   rw [show (7 - (i - 1)).toNat=(7 - i).toNat+1 by omega]
   simp only [Zcw]
   rw [show 7 - (7 - i).toNat=i.toNat by omega]
  rw [e,show (0+i).toNat=i.toNat by omega,Z5J (n:=Zcw (fun i=> b.getD i 0) (7 - i).toNat*256) (by omega) (by omega),Z5J (n:=b.getD i.toNat 0) (by omega) (by omega),Z5J (by omega) (by omega)]
  congr 1
  omega
 ·have:i= -1:=by omega
  subst this
  exact ZAi _
theorem ZEE(f:Nat→Int){i:Nat}(h:i < 8):List.getD [f 0,f 1,f 2,f 3,f 4,f 5,f 6,f 7] i 0=f i:=by
 match i,h with
 | 0,_=> rfl
 | 1,_=> rfl
 | 2,_=> rfl
 | 3,_=> rfl
 | 4,_=> rfl
 | 5,_=> rfl
 | 6,_=> rfl
 | 7,_=> rfl
theorem Z6i(a b m:Int)(i:Nat):0≤Ji a b m i∧Ji a b m i < 256:=by
 unfold Ji
 split
 ·exact Z1c _ _
 ·exact Z1c _ _
theorem ZBW:Contract Tryz.prog cfg 136 Z91:=by
 refine Zx6 ZBK ZBJ ZBI ?_
 intro a b m _ hp
 simp only [ZhC] at hp
 refine ZDY _ _ _ _ ?_;(try simp only [vcT,forall_eq])
 refine ⟨hp.1,hp.2.1,?_⟩
 refine Za (ι:=Int) (fun i=> Z2Y a b m i (if ((0:Nat):Int) < i then Ji a b m 0 else Zn a 0) (if ((1:Nat):Int) < i then Ji a b m 1 else Zn a 1) (if ((2:Nat):Int) < i then Ji a b m 2 else Zn a 2) (if ((3:Nat):Int) < i then Ji a b m 3 else Zn a 3)
  (if ((4:Nat):Int) < i then Ji a b m 4 else Zn a 4) (if ((5:Nat):Int) < i then Ji a b m 5 else Zn a 5) (if ((6:Nat):Int) < i then Ji a b m 6 else Zn a 6) (if ((7:Nat):Int) < i then Ji a b m 7 else Zn a 7)) (fun i=> 0≤i∧i≤8) (fun i=> (8 - i).toNat) 0 ?_ ⟨by omega,by omega⟩ ?_
 ·simp [Z2Y]
 ·rintro i ⟨h1,h2⟩
  refine ZrA _ _ _ _ _ _ _ _ _ _ _ _ _ _ ?_;(try simp only [vcT,forall_eq])
  (simp only [vcS]);(try simp only [vcT])
  refine ⟨fun hc=> ⟨⟨hp.2.2,h1,by dsimp only;omega⟩,fun hn=> ⟨⟨h1,by omega⟩,⟨h1,by omega⟩,by unfold InR;omega,i+1,?_,⟨by omega,by omega⟩,by omega⟩,fun hn=> ⟨by unfold InR;omega,i+1,?_,⟨by omega,by omega⟩,by omega⟩⟩,fun hc=> ?_⟩
  ·rw [ZEE (Zn b) (by omega)]
   have hv:Zn b i.toNat=Ji a b m i.toNat:=by
    unfold Ji
    rw [show ((i.toNat:Nat):Int)=i by omega,hn]
    try rfl
   have st:∀ j:Nat,Z26 i j (Zn b i.toNat) (if (j:Int) < i then Ji a b m j else Zn a j)=if (j:Int) < i+1 then Ji a b m j else Zn a j:=fun j=> Zpw (F:=Ji a b m) (G:=Zn a) h1 hv
   rw [st 0,st 1,st 2,st 3,st 4,st 5,st 6,st 7]
  ·have hv:Ji a b m i.toNat=Zn a i.toNat:=by
    unfold Ji
    rw [show ((i.toNat:Nat):Int)=i by omega,hn]
    try rfl
   have st:∀ j:Nat,(if (j:Int) < i then Ji a b m j else Zn a j)=if (j:Int) < i+1 then Ji a b m j else Zn a j:=fun j=> ZxG (F:=Ji a b m) (G:=Zn a) hv h1
   rw [st 0,st 1,st 2,st 3,st 4,st 5,st 6,st 7]
  ·have:i=8:=by omega
   subst this
   refine ⟨⟨rfl,rfl,?_⟩,YF rfl ?_⟩
   ·intro x hx
    simp at hx
    rcases hx with rfl | rfl | rfl | rfl | rfl | rfl | rfl | rfl <;> exact Z6i _ _ _ _
   ·try rfl
end Go.AM.YtpjenobkibfpcaaGreat
namespace Go.AM.YtpjenobkibfpcaaGreat
open Go.AM Go.Proofs
theorem ZqM{α:Type}{l:List α}{i:Nat}(h:i < l.length)(d:α):l.drop i=l.getD i d ::l.drop (i+1):=by
 rw [List.drop_eq_getElem_cons h]
 simp [List.getD,h]
theorem Y3{α:Type}{l:List α}{i:Int}(h0:0≤i)(h:i < l.length)(d:α):l.drop i.toNat=l.getD i.toNat d ::l.drop (i+1).toNat:=by
 rw [ZqM (by omega) d,show i.toNat+1=(i+1).toNat by omega]
theorem Zi{α:Type}{l:List α}{i:Nat}(h:i < l.length)(d:α):l.getD i d∈l:=by
 simp only [List.getD,List.getElem?_eq_getElem h,Option.getD_some]
 exact List.getElem_mem h
theorem YA(t:Tree):1≤Zu t:=by cases t;simp only [Zu];omega
theorem Z4v(e:Edit):1≤Z9 e:=by cases e;simp only [Z9];omega
theorem Z4u(k:Kid):Yd k=Z9 k.e:=by cases k;rfl
theorem ZN(o:Op):Zw o=Zh o.l+Z9 o.e:=by cases o;rfl
theorem YO:∀ {ks:List Tree} {t:Tree},t∈ks→Zu t≤Zh ks
 | x ::r,t,h=> by
  simp only [Zh]
  rcases List.mem_cons.1 h with rfl | h
  ·omega
  ·have:=YO h;omega
theorem YQ:∀ {ks:List Kid} {k:Kid},k∈ks→Z9 k.e≤Zq ks
 | x ::r,k,h=> by
  simp only [Zq,Z4u]
  rcases List.mem_cons.1 h with rfl | h
  ·omega
  ·have:=YQ h;omega
theorem ZW:∀ {os:List Op} {o:Op},o∈os→Zw o≤Zg os
 | x ::r,o,h=> by
  simp only [Zg]
  rcases List.mem_cons.1 h with rfl | h
  ·omega
  ·have:=ZW h;omega
theorem Y2:∀ (ks:List Kid),ks.length≤Zq ks
 | []=> by simp [Zq]
 | k ::r=> by
  have:=Y2 r
  have:=Z4v k.e
  simp only [Zq,Z4u,List.length_cons]
  omega
theorem ZQ:∀ (os:List Op),os.length≤Zg os
 | []=> by simp [Zg]
 | o ::r=> by
  have:=ZQ r
  have:=Z4v o.e
  simp only [Zg,ZN,List.length_cons]
  omega
theorem ZdE:∀ {ks:List Tree} {t:Tree},Z3Z ks→t∈ks→Z5S t
 | x ::r,t,hs,h=> by
  simp only [Z3Z] at hs
  rcases List.mem_cons.1 h with rfl | h
  ·exact hs.1
  ·exact ZdE hs.2 h
theorem ZbE:∀ {ks:List Kid} {k:Kid},Z6S ks→k∈ks→Z40 k.e
 | x ::r,k,hs,h=> by
  simp only [Z6S] at hs
  rcases List.mem_cons.1 h with rfl | h
  ·have:=hs.1;obtain ⟨a,e⟩:=k;exact this
  ·exact ZbE hs.2 h
theorem ZbD:∀ {os:List Op} {o:Op},Z6R os→o∈os→o.l.length≤17592186044416∧Z3Z o.l∧Z40 o.e
 | x ::r,o,hs,h=> by
  simp only [Z6R] at hs
  rcases List.mem_cons.1 h with rfl | h
  ·have:=hs.1;obtain ⟨a,b,c,e⟩:=o;exact this
  ·exact ZbD hs.2 h
theorem JI:∀ {ks:List Tree} {t:Tree},Yq ks→t∈ks→rng t
 | x ::r,t,hs,h=> by
  simp only [Yq] at hs
  rcases List.mem_cons.1 h with rfl | h
  ·exact hs.1
  ·exact JI hs.2 h
theorem Ju:∀ {ks:List Kid} {k:Kid},Z0q ks→k∈ks→isI k.at_∧YI k.e
 | x ::r,k,hs,h=> by
  simp only [Z0q] at hs
  rcases List.mem_cons.1 h with rfl | h
  ·have:=hs.1;obtain ⟨a,e⟩:=k;exact this
  ·exact Ju hs.2 h
theorem Z0N:∀ {os:List Op} {o:Op},Z02 os→o∈os→Yz o
 | x ::r,o,hs,h=> by
  simp only [Z02] at hs
  rcases List.mem_cons.1 h with rfl | h
  ·exact hs.1
  ·exact Z0N hs.2 h
theorem Z0w{o:Op}(h:Yz o):isI o.kind∧isI o.n∧Yq o.l∧YI o.e:=by obtain ⟨a,b,c,e⟩:=o;exact h
theorem ZqE(k:Kid)(d n:Int):Z3U k d n=Z17 k.e d n:=by cases k;rfl
theorem Zuf(o:Op)(d n:Int):Z6o o d n=if ZD o.l 80 n < 0 then ZD o.l 80 n else Z17 o.e d (ZD o.l 80 n):=by cases o;rfl
theorem ZaI(t:Tree)(n:Int)(h: -1≤n): -1≤sh1 t n∧sh1 t n≤n:=by
 unfold sh1
 split
 ·omega
 ·have:=J1 t 80 n;omega
mutual
theorem Z22:∀ (e:Edit) (d n:Int),-1≤Z17 e d n∧Z17 e d n≤max n (-1)
 | .mk _ o nw w ks _ os,d,n=> by
  simp only [Z17]
  split
  ·omega
  ·have h1:=J1 o 80 (n - 1 - w.length - os.length)
   have h2:=ZaI nw _ h1.1
   have h3:=Z2w ks (d - 1) _ h2.1
   have h4:=Z2v os (d - 1) _ h3.1
   omega
theorem Z2w:∀ (ks:List (KidOf Edit)) (d n:Int),-1≤n→-1≤Z0b ks d n∧Z0b ks d n≤n
 | [],d,n,h=> by simp only [Z0b];omega
 | k ::r,d,n,h=> by
  simp only [Z0b]
  split
  ·omega
  ·have h1:=Z7S k d n
   have h2:=Z2w r d _ h1.1
   omega
theorem Z7S:∀ (k:KidOf Edit) (d n:Int),-1≤Z3U k d n∧Z3U k d n≤max n (-1)
 | ⟨_,e⟩,d,n=> by
  simp only [Z3U]
  exact Z22 e d n
theorem Z2v:∀ (os:List (OpOf Edit)) (d n:Int),-1≤n→-1≤Z0n os d n∧Z0n os d n≤n
 | [],d,n,h=> by simp only [Z0n];omega
 | o ::r,d,n,h=> by
  simp only [Z0n]
  split
  ·omega
  ·have h1:=Z9W o d n h
   have h2:=Z2v r d _ h1.1
   omega
theorem Z9W:∀ (o:OpOf Edit) (d n:Int),-1≤n→-1≤Z6o o d n∧Z6o o d n≤n
 | ⟨_,_,l,e⟩,d,n,h=> by
  simp only [Z6o]
  have h1:=Z0W l 80 n h
  split
  ·omega
  ·have h2:=Z22 e d (ZD l 80 n)
   omega
end
theorem Zsd{t:Tree}{n:Int}(h:0≤sh1 t n):(Zu t:Int)+sh1 t n≤n:=by
 unfold sh1 at*
 split at h
 ·omega
 ·rename_i hn
  rw [if_neg hn]
  exact Z59 t 80 n h
mutual
theorem Z8t:∀ (e:Edit) (d n:Int),0≤Z17 e d n→(Z9 e:Int)+Z17 e d n≤n
 | .mk _ o nw w ks _ os,d,n,h=> by
  simp only [Z17] at h ⊢
  split at h
  ·omega
  ·rename_i hc
   rw [if_neg hc]
   have r1:=J1 o 80 (n - 1 - w.length - os.length)
   have r2:=ZaI nw _ r1.1
   have r3:=Z2w ks (d - 1) _ r2.1
   have r4:=Z2v os (d - 1) _ r3.1
   have m4:=Zch os (d - 1) _ h
   have m3:=Zci ks (d - 1) (sh1 nw (Y4 o 80 (n - 1 - w.length - os.length))) (by omega)
   have m2:=Zsd (t:=nw) (n:=Y4 o 80 (n - 1 - w.length - os.length)) (by omega)
   have m1:=Z59 o 80 (n - 1 - w.length - os.length) (by omega)
   simp only [Z9]
   omega
theorem Zci:∀ (ks:List (KidOf Edit)) (d n:Int),0≤Z0b ks d n→(Zq ks:Int)+Z0b ks d n≤n
 | [],d,n,h=> by simp only [Z0b,Zq];omega
 | k ::r,d,n,h=> by
  simp only [Z0b] at h ⊢
  split at h
  ·omega
  ·rename_i hc
   rw [if_neg hc]
   have r1:=Z7S k d n
   have r2:=Z2w r d _ r1.1
   have m2:=Zci r d _ h
   have m1:=ZhR k d n (by omega)
   simp only [Zq]
   omega
theorem ZhR:∀ (k:KidOf Edit) (d n:Int),0≤Z3U k d n→(Yd k:Int)+Z3U k d n≤n
 | ⟨_,e⟩,d,n,h=> by
  simp only [Z3U,Yd] at h ⊢
  exact Z8t e d n h
theorem Zch:∀ (os:List (OpOf Edit)) (d n:Int),0≤Z0n os d n→(Zg os:Int)+Z0n os d n≤n
 | [],d,n,h=> by simp only [Z0n,Zg];omega
 | o ::r,d,n,h=> by
  simp only [Z0n] at h ⊢
  split at h
  ·omega
  ·rename_i hc
   rw [if_neg hc]
   have r1:=Z9W o d n (by omega)
   have r2:=Z2v r d _ r1.1
   have m2:=Zch r d _ h
   have m1:=Zkm o d n (by omega)
   simp only [Zg]
   omega
theorem Zkm:∀ (o:OpOf Edit) (d n:Int),0≤Z6o o d n→(Zw o:Int)+Z6o o d n≤n
 | ⟨_,_,l,e⟩,d,n,h=> by
  simp only [Z6o,Zw] at h ⊢
  split at h
  ·omega
  ·rename_i hc
   rw [if_neg hc]
   have m2:=Z8t e d _ h
   have r2:=Z22 e d (ZD l 80 n)
   have m1:=Z41 l 80 n (by omega)
   omega
end
theorem Zbq{e:Edit}(h:0≤Z17 e 80 3000):Z9 e≤3000:=by
 have:=Z8t e 80 3000 h
 omega
end Go.AM.YtpjenobkibfpcaaGreat
namespace Go.AM.YtpjenobkibfpcaaGreat
open Go.AM Go.Proofs
theorem Zki(t:Tree):t.words.length+t.kids.length < Zu t:=by
 obtain ⟨k,w,ks⟩:=t
 have:=ZA ks
 simp only [Zu,Tree.words_mk,Tree.kids_mk]
 omega
theorem Yg(e:Edit):Zu e.old+Zu e.new+e.words.length+e.ops.length+Zq e.kids+Zg e.ops < Z9 e:=by
 obtain ⟨k,o,n,w,ks,l,os⟩:=e
 simp only [Z9,Edit.old_mk,Edit.new_mk,Edit.words_mk,Edit.ops_mk,Edit.kids_mk]
 omega
theorem c99:Contract Tryz.prog cfg 99 Z50:=by
 refine ZAD ?_
 intro t _ hp
 simp only [Z64] at hp
 have:=Zki t
 refine ZFv t _ ?_;(try simp only [vcT,forall_eq])
 refine ⟨fun _=> by unfold InR;omega,Z5 rfl ?_⟩
 rw [Bool.eq_iff_iff]
 simp only [ZZ]
 (simp only [vcS])
 omega
theorem ZC8:Contract Tryz.prog cfg 100 Z6Q:=by
 refine Zxk ZBW ?_
 intro w m _ hp
 refine ZEl _ _ _ ?_;(try simp only [vcT,forall_eq])
 refine ⟨⟨hp.1,by dsimp only;omega,hp.2⟩,Z5 rfl ?_⟩
 try rfl
theorem ZBV:Contract Tryz.prog cfg 137 Z6N:=by
 refine Zx5 c99 ?_
 intro e _ hp
 simp only [Z8f] at hp
 have h1:=Yg e
 have h2:=Y2 e.kids
 refine ZDX e _ ?_;(try simp only [vcT,forall_eq])
 try (simp only [Tree.eta,Edit.eta,Tree.kind_mk,Tree.words_mk,Tree.kids_mk])
 refine ⟨fun _=> by simp only [Z64];omega,fun _=> by simp only [Z64];omega,fun _=> by unfold InR;omega,fun _=> by unfold InR;omega,Z5 rfl ?_⟩
 rw [Bool.eq_iff_iff]
 simp only [Z1g]
 (simp only [vcS])
 constructor
 ·rintro ⟨⟨⟨⟨h3,h4⟩,h5⟩,h6⟩,h7⟩;exact ⟨⟨⟨h3,h4⟩,h5⟩,by omega⟩
 ·rintro ⟨⟨⟨h3,h4⟩,h5⟩,h6⟩;exact ⟨⟨⟨⟨h3,h4⟩,h5⟩,by omega⟩,by omega⟩
theorem ZBh (e:Edit) (x4 x5 i:Int) (N0:LSt U→Prop) (Q:AExit→LSt U→Prop) (h1:0≤x4∧x4≤1048576) (h2:0≤x5∧x5≤1048576) (hi:0≤i) (hlen:e.ops.length≤20000000000)
  (ho:∀ o∈e.ops,(0≤o.n∧o.n≤1048576)∧o.l.length≤20000000000)
  (h:i < e.ops.length→N0 (Z1z e (min (if (e.ops.getD i.toNat Op.nil).kind=2 then x4 else x4+Z3 (e.ops.getD i.toNat Op.nil)) 1048576) (min (if (e.ops.getD i.toNat Op.nil).kind=1 then x5 else x5+Z3 (e.ops.getD i.toNat Op.nil)) 1048576) (i+1)))
  (h':¬i < e.ops.length→Q .ret (⟨[(2,.c (.int .i64 x4)),(3,.c (.int .i64 x5))],[],[]⟩:LSt U)):Zy0 e x4 x5 i N0 Q:=by
 refine ZrX _ _ _ _ _ _ ?_;(try simp only [vcT,forall_eq])
 (simp only [vcS]);(try simp only [vcT])
 refine ⟨fun hc=> ?_,h'⟩
 have hn:=h hc
 have hm:=ho _ (Zi (l:=e.ops) (i:=i.toNat) (by omega) Op.nil)
 have k1:∀ k,k=Z3 (e.ops.getD i.toNat Op.nil)→Zy4 e x4 x5 i k N0 Q:=by
  intro k hk
  have hkr:0≤k∧k≤60000000000:=by
   rw [hk];unfold Z3;split <;> omega
  have k2:∀ y,y=(if (e.ops.getD i.toNat Op.nil).kind=2 then x4 else x4+k)→Zy3 e x5 i k y N0 Q:=by
   intro y hy
   have hyr:0≤y∧y≤100000000000:=by rw [hy];split <;> omega
   have k3:∀ z,z=(if (e.ops.getD i.toNat Op.nil).kind=1 then x5 else x5+k)→Zy2 e i k y z N0 Q:=by
    intro z hz
    have hzr:0≤z∧z≤100000000000:=by rw [hz];split <;> omega
    have k4:∀ u,u=min y 1048576→Zy1 e i y z u N0 Q:=by
     intro u hu
     refine ZrY _ _ _ _ _ _ _ ?_;(try simp only [vcT,forall_eq])
     (simp only [vcS]);(try simp only [vcT])
     rw [←hk,←hy,←hz,←hu] at hn
     refine ⟨fun hq=> ⟨by unfold InR;omega,?_⟩,fun hq=> ⟨by unfold InR;omega,?_⟩⟩
     ·rw [show min z 1048576=1048576 by omega] at hn;exact hn
     ·rw [show min z 1048576=z by omega] at hn;exact hn
    refine ZrZ _ _ _ _ _ _ _ ?_;(try simp only [vcT,forall_eq])
    (simp only [vcS]);(try simp only [vcT])
    exact ⟨fun hq=> k4 _ (by omega),fun hq=> k4 _ (by omega)⟩
   refine Zs0 _ _ _ _ _ _ _ ?_;(try simp only [vcT,forall_eq])
   (simp only [vcS]);(try simp only [vcT])
   exact ⟨fun hq=> ⟨by unfold InR;omega,k3 _ (by rw [if_neg hq])⟩,fun hq=> k3 _ (by rw [if_pos hq])⟩
  refine Zs1 _ _ _ _ _ _ _ ?_;(try simp only [vcT,forall_eq])
  (simp only [vcS]);(try simp only [vcT])
  exact ⟨fun hq=> ⟨by unfold InR;omega,k2 _ (by rw [if_neg hq])⟩,fun hq=> k2 _ (by rw [if_pos hq])⟩
 exact ⟨⟨hi,hc⟩,by unfold InR;omega,fun hq=> k1 _ (by unfold Z3;rw [if_pos hq]),fun hq=> k1 _ (by unfold Z3;rw [if_neg hq])⟩
theorem Zr0:Contract Tryz.prog cfg 102 Z2p:=by
 refine Zxj ?_
 intro e _ hp
 simp only [Zei] at hp
 have h1:=Yg e
 refine ZEj e _ ?_;(try simp only [vcT,forall_eq])
 refine Za (ι:=Int × Int × Int) (fun p=> Z1z e p.1 p.2.1 p.2.2) (fun p=> 0≤p.2.2∧p.2.2≤e.ops.length∧(0≤p.1∧p.1≤1048576)∧(0≤p.2.1∧p.2.1≤1048576)∧Ym (e.ops.drop p.2.2.toNat) p.1=Ym e.ops 0∧Jb (e.ops.drop p.2.2.toNat) p.2.1=Jb e.ops 0) (fun p=> ((e.ops.length:Int) - p.2.2).toNat) (0,0,0) rfl ⟨by dsimp only;omega,by dsimp only;omega,by dsimp only;omega,by dsimp only;omega,by simp,by simp⟩ ?_
 rintro ⟨x4,x5,i⟩ ⟨h2,h3,h4,h5,h6,h7⟩
 dsimp only at*
 have ho:∀ o∈e.ops,(0≤o.n∧o.n≤1048576)∧o.l.length≤20000000000:=by
  intro o hm
  refine ⟨hp.2 o hm,?_⟩
  have a1:=ZW hm
  have a2:=ZA o.l
  rw [ZN] at a1
  omega
 refine ZBh e x4 x5 i _ _ h4 h5 h2 (by omega) ho (fun hc=> ⟨(_,_,i+1),rfl,⟨by dsimp only;omega,by dsimp only;omega,?_,?_,?_,?_⟩,by dsimp only;omega⟩) (fun hc=> ?_)
 ·have hm:=ho _ (Zi (l:=e.ops) (i:=i.toNat) (by omega) Op.nil)
  dsimp only
  unfold Z3
  split <;> (try split) <;> omega
 ·have hm:=ho _ (Zi (l:=e.ops) (i:=i.toNat) (by omega) Op.nil)
  dsimp only
  unfold Z3
  split <;> (try split) <;> omega
 ·rw [Y3 h2 hc Op.nil] at h6
  exact h6
 ·rw [Y3 h2 hc Op.nil] at h7
  exact h7
 ·rw [List.drop_of_length_le (by omega)] at h6 h7
  simp only [Ym,Jb] at h6 h7
  simp only [Zlt,←h6,←h7]
  exact ⟨⟨rfl,⟨⟨rfl,rfl⟩,trivial⟩,rfl,⟨⟨rfl,rfl⟩,trivial⟩,trivial⟩,trivial⟩
theorem ZlW{l:List Kid}{d n:Int}(h:n < 0):Z0b l d n=n:=by cases l <;> simp [Z0b,h]
theorem ZlV{l:List Op}{d n:Int}(h:n < 0):Z0n l d n=n:=by cases l <;> simp [Z0n,h]
theorem Zh6{l:List Tree}{d n:Int}(h:n < 0):ZD l d n=n:=by cases l <;> simp [ZD,h]
theorem Zq0{e:Edit}(h:Z40 e):Z5S e.old∧Z5S e.new∧e.words.length≤17592186044416∧e.kids.length≤17592186044416∧e.ops.length≤17592186044416∧Z6S e.kids∧Z6R e.ops:=by
 obtain ⟨k,o,n,w,ks,l,os⟩:=e;exact h
theorem Zug(e:Edit)(d n:Int):Z17 e d n=if d=0∨n - 1 - e.words.length - e.ops.length < 0 then -1 else Z0n e.ops (d - 1) (Z0b e.kids (d - 1) (sh1 e.new (Y4 e.old 80 (n - 1 - e.words.length - e.ops.length)))):=by
 obtain ⟨k,o,nw,w,ks,l,os⟩:=e;rfl
theorem c91:Contract Tryz.prog cfg 91 Zdi:=by
 refine ZAE c80 ?_
 rintro N e d n _ hp hN
 simp only [Ze3,ZjY] at hp hN
 obtain ⟨hs,hd0,hd1,hn0,hn1⟩:=hp
 obtain ⟨so,sn,lw,lk,lo,sk,sos⟩:=Zq0 hs
 have hme:=Yg e
 have hres:=Zug e d n
 refine ZFw N e d n _ ?_;(try simp only [vcT,forall_eq])
 (simp only [vcS]);(try simp only [vcT])
 try (simp only [Tree.eta,Edit.eta,Tree.kind_mk,Tree.words_mk,Tree.kids_mk])
 refine ⟨by unfold InR;omega,by unfold InR;omega,by unfold InR;omega,fun hc=> YF rfl (by rw [hres,if_pos hc]),fun hc=> ?_⟩
 rw [if_neg (by omega)] at hres
 have r1:=J1 e.old 80 (n - 1 - e.words.length - e.ops.length)
 have p68:∀ t m,Z5S t→-1≤m→m≤4611686018427387904→ZbS (t,80,m,()):=fun t m h1 h2 h3=> ⟨h1,by dsimp only;omega,by dsimp only;omega,h2,h3⟩
 have k0:∀ x,x=sh1 e.new (Y4 e.old 80 (n - 1 - e.words.length - e.ops.length))→ZCm N e d n x (Jx cfg Tryz.f91.ntmps Tryz.f91.results.toList (Znc (e,d,n,())) []):=by
  intro x hx
  have rx:=ZaI e.new _ r1.1
  rw [←hx] at rx hres
  refine Zvw N e d n x _ ?_;(try simp only [vcT,forall_eq])
  refine Za (ι:=Int × Int) (fun p=> Z9Z e d n p.1 p.2) (fun p=> 0≤p.2∧p.2≤e.kids.length∧-1≤p.1∧p.1≤4611686018427387904∧Z0b (e.kids.drop p.2.toNat) (d - 1) p.1=Z0b e.kids (d - 1) x) (fun p=> ((e.kids.length:Int) - p.2).toNat) (x,0) rfl ⟨by dsimp only;omega,by dsimp only;omega,by dsimp only;omega,by dsimp only;omega,by simp⟩ ?_
  rintro ⟨y,i⟩ ⟨h1,h2,h3,h4,h5⟩
  dsimp only at*
  refine Zvv N e d n y i _ _ ?_;(try simp only [vcT,forall_eq])
  (simp only [vcS]);(try simp only [vcT])
  try (simp only [Tree.eta,Edit.eta,Tree.kind_mk,Tree.words_mk,Tree.kids_mk])
  refine ⟨fun hi=> ?_,fun hi=> ?_⟩
  ·have hmem:=Zi (l:=e.kids) (i:=i.toNat) (by omega) (KidOf.mk 0 Edit.nil)
   have hsm:=ZbE sk hmem
   have hmm:=YQ hmem
   rw [Y3 h1 hi.1 (KidOf.mk 0 Edit.nil)] at h5
   simp only [Z0b] at h5
   rw [if_neg (by omega),ZqE] at h5
   have rr:=Z22 (e.kids.getD i.toNat (KidOf.mk 0 Edit.nil)).e (d - 1) y
   exact ⟨⟨h1,hi.1⟩,by unfold InR;omega,⟨hsm,by dsimp only;omega,by dsimp only;omega,h3,h4⟩,by simp only [ZjY];omega,by unfold InR;omega,(_,i+1),rfl,⟨by dsimp only;omega,by dsimp only;omega,by dsimp only;omega,by dsimp only;omega,h5⟩,by dsimp only;omega⟩
  ·have hy:Z0b e.kids (d - 1) x=y:=by
    rw [←h5]
    by_cases hlt:i < e.kids.length
    ·exact ZlW (by omega)
    ·rw [List.drop_of_length_le (by omega)];try rfl
   rw [hy] at hres
   refine Za (ι:=Int × Int) (fun p=> Z6t e d n p.1 p.2) (fun p=> 0≤p.2∧p.2≤e.ops.length∧-1≤p.1∧p.1≤4611686018427387904∧Z0n (e.ops.drop p.2.toNat) (d - 1) p.1=Z0n e.ops (d - 1) y) (fun p=> ((e.ops.length:Int) - p.2).toNat) (y,0) rfl ⟨by dsimp only;omega,by dsimp only;omega,h3,h4,by simp⟩ ?_
   rintro ⟨z,j⟩ ⟨h6,h7,h8,h9,h10⟩
   dsimp only at*
   refine Zvu N e d n z j _ _ ?_;(try simp only [vcT,forall_eq])
   (simp only [vcS]);(try simp only [vcT])
   refine ⟨fun hj=> ?_,fun hj=> ?_⟩
   ·have hmem:=Zi (l:=e.ops) (i:=j.toNat) (by omega) Op.nil
    have hsm:=ZbD sos hmem
    have hmm:=ZW hmem
    rw [ZN] at hmm
    rw [Y3 h6 hj.1 Op.nil] at h10
    simp only [Z0n] at h10
    rw [if_neg (by omega),Zuf] at h10
    refine Za (ι:=Int × Int) (fun p=> Z9Y e d n j p.1 p.2) (fun p=> 0≤p.2∧p.2≤(e.ops.getD j.toNat Op.nil).l.length∧-1≤p.1∧p.1≤4611686018427387904∧ZD ((e.ops.getD j.toNat Op.nil).l.drop p.2.toNat) 80 p.1=ZD (e.ops.getD j.toNat Op.nil).l 80 z) (fun p=> (((e.ops.getD j.toNat Op.nil).l.length:Int) - p.2).toNat) (z,0) rfl ⟨by dsimp only;omega,by dsimp only;omega,h8,h9,by simp⟩ ?_
    rintro ⟨u,k⟩ ⟨g1,g2,g3,g4,g5⟩
    dsimp only at*
    refine Zvt N e d n j u k _ _ _ ?_;(try simp only [vcT,forall_eq])
    (simp only [vcS]);(try simp only [vcT])
    try (simp only [Tree.eta,Edit.eta,Tree.kind_mk,Tree.words_mk,Tree.kids_mk])
    refine ⟨⟨h6,hj.1⟩,fun hk=> ?_,fun hk=> ?_⟩
    ·have hmt:=Zi (l:=(e.ops.getD j.toNat Op.nil).l) (i:=k.toNat) (by omega) Tree.nil
     rw [Y3 g1 hk.1 Tree.nil] at g5
     simp only [ZD] at g5
     rw [if_neg (by omega)] at g5
     have rr:=J1 ((e.ops.getD j.toNat Op.nil).l.getD k.toNat Tree.nil) 80 u
     exact ⟨⟨h6,hj.1⟩,⟨g1,hk.1⟩,p68 _ _ (ZdE hsm.2.1 hmt) g3 g4,by unfold InR;omega,(_,k+1),rfl,⟨by dsimp only;omega,by dsimp only;omega,by dsimp only;omega,by dsimp only;omega,g5⟩,by dsimp only;omega⟩
    ·have hu:ZD (e.ops.getD j.toNat Op.nil).l 80 z=u:=by
      rw [←g5]
      by_cases hlt:k < (e.ops.getD j.toNat Op.nil).l.length
      ·exact Zh6 (by omega)
      ·rw [List.drop_of_length_le (by omega)];try rfl
     rw [hu] at h10
     have rr:=Z22 (e.ops.getD j.toNat Op.nil).e (d - 1) u
     refine ⟨fun hq=> ⟨⟨h6,hj.1⟩,by unfold InR;omega,⟨hsm.2.2,by dsimp only;omega,by dsimp only;omega,g3,g4⟩,by simp only [ZjY];omega,by unfold InR;omega,(_,j+1),rfl,⟨by dsimp only;omega,by dsimp only;omega,by dsimp only;omega,by dsimp only;omega,?_⟩,by dsimp only;omega⟩,
      fun hq=> ⟨by unfold InR;omega,(_,j+1),rfl,⟨by dsimp only;omega,by dsimp only;omega,by dsimp only;omega,by dsimp only;omega,?_⟩,by dsimp only;omega⟩⟩
     ·rw [if_neg (by omega)] at h10;exact h10
     ·rw [if_pos (by omega)] at h10;exact h10
   ·refine YF rfl ?_
    rw [hres,←h10]
    by_cases hlt:j < e.ops.length
    ·exact (ZlV (by omega)).symm
    ·rw [List.drop_of_length_le (by omega)];try rfl
 refine ⟨p68 _ _ so (by omega) (by omega),fun hq=> ⟨p68 _ _ sn r1.1 (by omega),k0 _ ?_⟩,fun hq=> k0 _ ?_⟩
 ·unfold sh1;rw [if_neg (by omega)]
 ·unfold sh1;rw [if_pos (by omega)]
theorem c45:Contract Tryz.prog cfg 45 Zdv:=by
 refine ZAR c91 ?_
 intro e _ hp
 refine ZFP e _ ?_;(try simp only [vcT,forall_eq])
 try (simp only [Tree.eta,Edit.eta,Tree.kind_mk,Tree.words_mk,Tree.kids_mk])
 exact ⟨⟨hp,by dsimp only;omega,by dsimp only;omega,by dsimp only;omega,by dsimp only;omega⟩,Z5 rfl rfl⟩
end Go.AM.YtpjenobkibfpcaaGreat
namespace Go.AM.YtpjenobkibfpcaaGreat
open Go.AM Go.Proofs
theorem Z4o(e:Edit)(d:Int):Z2 e d=
  if d=0∨e.kind < 0∨3 < e.kind then false
  else if (e.kind≠1∧¬(ZZ e.old=true∧ZZ e.new=true))∨(e.kind≠2∧¬(e.words.length=0∧e.kids.length=0))∨(e.kind≠3∧(e.list≠0∨e.ops.length≠0)) then false
  else if e.kind=1 then Ze e.old (dT d) && Ze e.new (dT d) && decide (e.old.kind≠10∧e.new.kind≠10)
  else Zs (-1) e.words && Zx (-1) e.kids (d - 1) && decide (¬(e.kind=3∧(e.list < 2∨9 < e.list))) && Zp e.list e.ops (d - 1) && decide (Ym e.ops 0 < 1048576∧Jb e.ops 0 < 1048576):=by
 obtain ⟨k,o,nw,w,ks,l,os⟩:=e;rfl
theorem Z1W(last:Int)(k:Kid)(d:Int):YT last k d=(decide (last < k.at_∧k.at_≤65534∧k.e.kind≠0) && Z2 k.e d):=by cases k;rfl
theorem Jn(list:Int)(o:Op)(d:Int):Zc list o d=
  if o.kind=0 then decide (1≤o.n∧o.n≤1048576∧o.l.length=0) && Z1g o.e
  else if o.n≠0∨o.kind < 0∨3 < o.kind then false
  else if o.kind < 3 then YH (dT d) list o.l && decide (0 < o.l.length) && Z1g o.e
  else decide (o.l.length=0∧o.e.kind≠0∧7 < list) && Z2 o.e d && decide (list=8∨o.e.kind=2∨o.e.kind=1∧o.e.old.kind=1∧o.e.new.kind=1):=by
 cases o;rfl
theorem Z4n{list:Int}{o:Op}{d:Int}(h:Zc list o d=true):0≤o.n∧o.n≤1048576:=by
 rw [Jn] at h
 split at h
 ·simp only [Bool.and_eq_true,decide_eq_true_eq] at h;omega
 ·split at h
  ·cases h
  ·rename_i h1;omega
theorem rightOs_mem{list d:Int}:∀ {os:List Op} {o:Op},Zp list os d=true→o∈os→Zc list o d=true
 | x ::r,o,h,hm=> by
  simp only [Zp,Bool.and_eq_true] at h
  rcases List.mem_cons.1 hm with rfl | hm
  ·exact h.1
  ·exact rightOs_mem h.2 hm
theorem ZbN{d:Int}:∀ {ks:List Kid} {last:Int} {k:Kid},Zx last ks d=true→k∈ks→Z2 k.e d=true∧k.e.kind≠0
 | x ::r,last,k,h,hm=> by
  simp only [Zx,Bool.and_eq_true] at h
  rcases List.mem_cons.1 hm with rfl | hm
  ·have:=h.1;rw [Z1W] at this;simp only [Bool.and_eq_true,decide_eq_true_eq] at this;exact ⟨this.2,this.1.2.2⟩
  ·exact ZbN h.2 hm
theorem Z3I{e:Edit}(h:YI e):isI e.kind∧rng e.old∧rng e.new∧(∀ x∈e.words,Z39 x)∧isI e.list∧Z0q e.kids∧Z02 e.ops:=by
 obtain ⟨k,o,n,w,ks,l,os⟩:=e;exact h
theorem b64:ZFr:=by
 intro N e d _ hp hN
 simp only [ZbW,ZhN] at hp hN
 obtain ⟨⟨hm,hr⟩,hd0,hd1⟩:=hp
 obtain ⟨ik,ro,rn,rw',il,rk,ros⟩:=Z3I hr
 have hme:=Yg e
 have hkl:=Y2 e.kids
 have hol:=ZQ e.ops
 have hat:=Z4o e d
 rw [ZoL hd0] at hat
 refine ZFO N e d _ ?_;(try simp only [vcT,forall_eq])
 (simp only [vcS]);(try simp only [vcT]);(try simp only [vcU])
 try (simp only [Tree.eta,Edit.eta,Tree.kind_mk,Tree.words_mk,Tree.kids_mk])
 refine ⟨fun hc=> Z5 rfl (by rw [hat,if_pos (by omega)]),fun hc=> ?_⟩
 rw [if_neg (by omega)] at hat
 refine ⟨fun _=> by simp only [Z64];omega,fun _=> by simp only [Z64];omega,fun _=> by unfold InR;omega,fun hf=> Z5 rfl ?_,fun hf=> ⟨fun h1=> ⟨⟨by dsimp only;omega,ro,by dsimp only;omega,by dsimp only;omega⟩,fun _=> ⟨by dsimp only;omega,rn,by dsimp only;omega,by dsimp only;omega⟩,Z5 rfl ?_⟩,fun h1=> ?_⟩⟩
 ·rw [hat,if_pos]
  rcases hf with (hf | hf) | hf
  ·left
   refine ⟨hf.1,fun h=> ?_⟩
   rcases hf.2 with h2 | h2
   ·rw [h.1] at h2;cases h2
   ·rw [h.2] at h2;cases h2
  ·right;left;omega
  ·right;right;omega
 ·rw [hat,if_neg,if_pos h1,Bool.eq_iff_iff]
  ·(simp only [vcS])
   constructor
   ·rintro ⟨⟨⟨h2,h3⟩,h4⟩,h5⟩;exact ⟨⟨h2,h3⟩,h4,h5⟩
   ·rintro ⟨⟨h2,h3⟩,h4,h5⟩;exact ⟨⟨⟨h2,h3⟩,h4⟩,h5⟩
  ·intro h
   rcases h with h | h | h
   ·exact h.1 h1
   ·omega
   ·omega
 ·rw [if_neg,if_neg h1] at hat
  ·refine Za (ι:=Int × Int) (fun p=> Zai e d p.1 p.2) (fun p=> 0≤p.2∧p.2≤e.words.length∧Zs p.1 (e.words.drop p.2.toNat)=Zs (-1) e.words) (fun p=> ((e.words.length:Int) - p.2).toNat) (-1,0) rfl ⟨by dsimp only;omega,by dsimp only;omega,by simp⟩ ?_
   rintro ⟨last,i⟩ ⟨h2,h3,h4⟩
   dsimp only at*
   refine ZvU N e d last i _ _ ?_;(try simp only [vcT,forall_eq])
   (simp only [vcS]);(try simp only [vcT]);(try simp only [vcU])
   try (simp only [Tree.eta,Edit.eta,Tree.kind_mk,Tree.words_mk,Tree.kids_mk])
   refine ⟨fun hi=> ?_,fun hi=> ?_⟩
   ·have hmem:=Zi (l:=e.words) (i:=i.toNat) (by omega) (WEdit.mk 0 0 0 0)
    have hrw:=rw' _ hmem
    rw [Y3 h2 hi (WEdit.mk 0 0 0 0)] at h4
    simp only [Zs] at h4
    generalize e.words.getD i.toNat (WEdit.mk 0 0 0 0)=w at*
    obtain ⟨_,hmk,hwo,hwn⟩:=hrw
    refine ⟨⟨h2,hi⟩,fun _=> ⟨hwo,hmk⟩,fun _=> ⟨hwn,hmk⟩,fun hq=> Z5 rfl ?_,fun hq=> ⟨by unfold InR;omega,(_,i+1),rfl,⟨by dsimp only;omega,by dsimp only;omega,?_⟩,by dsimp only;omega⟩⟩
    ·rw [hat,←h4]
     rcases hq with (hq | hq) | hq
     ·rw [decide_eq_false (by omega)];try rfl
     ·rw [hq];simp
     ·rw [hq];simp
    ·dsimp only
     rw [←h4,decide_eq_true (by omega),hq.1.2,hq.2];try rfl
   ·have hw:Zs (-1) e.words=true:=by
     rw [←h4,List.drop_of_length_le (by omega)];try rfl
    rw [hw,Bool.true_and] at hat
    refine Za (ι:=Int × Int) (fun p=> Zah e d p.1 p.2) (fun p=> 0≤p.2∧p.2≤e.kids.length∧Zx p.1 (e.kids.drop p.2.toNat) (d - 1)=Zx (-1) e.kids (d - 1)) (fun p=> ((e.kids.length:Int) - p.2).toNat) (-1,0) rfl ⟨by dsimp only;omega,by dsimp only;omega,by simp⟩ ?_
    rintro ⟨last,i⟩ ⟨h2,h3,h4⟩
    dsimp only at*
    refine ZvT N e d last i _ _ ?_;(try simp only [vcT,forall_eq])
    (simp only [vcS]);(try simp only [vcT]);(try simp only [vcU])
    try (simp only [Tree.eta,Edit.eta,Tree.kind_mk,Tree.words_mk,Tree.kids_mk])
    refine ⟨fun hi=> ?_,fun hi=> ?_⟩
    ·have hmem:=Zi (l:=e.kids) (i:=i.toNat) (by omega) (KidOf.mk 0 Edit.nil)
     have hrw:=Ju rk hmem
     have hmm:=YQ hmem
     rw [Y3 h2 hi (KidOf.mk 0 Edit.nil)] at h4
     simp only [Zx,Z1W] at h4
     generalize e.kids.getD i.toNat (KidOf.mk 0 Edit.nil)=w at*
     refine ⟨⟨h2,hi⟩,fun _=> by unfold InR;omega,fun _=> ⟨⟨by dsimp only;omega,hrw.2⟩,by dsimp only;omega,by dsimp only;omega⟩,fun _=> by simp only [ZhN];omega,fun hq=> Z5 rfl ?_,fun hq=> ⟨by unfold InR;omega,(_,i+1),rfl,⟨by dsimp only;omega,by dsimp only;omega,?_⟩,by dsimp only;omega⟩⟩
     ·rw [hat,←h4]
      rcases hq with hq | hq
      ·rw [decide_eq_false (by omega)];try rfl
      ·rw [hq];simp
     ·dsimp only
      rw [←h4,decide_eq_true (by omega),hq.2];try rfl
    ·have hw:Zx (-1) e.kids (d - 1)=true:=by
      rw [←h4,List.drop_of_length_le (by omega)];try rfl
     rw [hw,Bool.true_and] at hat
     refine ⟨fun hq=> Z5 rfl (by rw [hat,decide_eq_false (by omega)];rfl),fun hq=> ?_⟩
     rw [decide_eq_true (by omega),Bool.true_and] at hat
     refine Za (ι:=Int) (fun p=> Zag e d p) (fun p=> 0≤p∧p≤e.ops.length∧Zp e.list (e.ops.drop p.toNat) (d - 1)=Zp e.list e.ops (d - 1)) (fun p=> ((e.ops.length:Int) - p).toNat) 0 rfl ⟨by omega,by omega,by simp⟩ ?_
     rintro j ⟨h5,h6,h7⟩
     refine ZvS N e d j _ _ ?_;(try simp only [vcT,forall_eq])
     (simp only [vcS]);(try simp only [vcT]);(try simp only [vcU])
     try (simp only [Tree.eta,Edit.eta,Tree.kind_mk,Tree.words_mk,Tree.kids_mk])
     refine ⟨fun hj=> ?_,fun hj=> ?_⟩
     ·have hmem:=Zi (l:=e.ops) (i:=j.toNat) (by omega) Op.nil
      have hro:=Z0N ros hmem
      have hmm:=ZW hmem
      rw [Y3 h5 hj Op.nil] at h7
      simp only [Zp] at h7
      generalize e.ops.getD j.toNat Op.nil=o at*
      refine ⟨⟨h5,hj⟩,by unfold InR;omega,⟨⟨by show Zw o≤20000000000;omega,hro,il⟩,by dsimp only;omega,by dsimp only;omega⟩,?_,fun hq=> Z5 rfl ?_,fun hq=> ⟨by unfold InR;omega,j+1,rfl,⟨by omega,by omega,?_⟩,by omega⟩⟩
      ·show 2*Zw o+1 < N
       omega
      ·have hq':Zc e.list o (d - 1)=false:=hq
       rw [hat,←h7,hq'];try rfl
      ·have hq':Zc e.list o (d - 1)=true:=hq
       rw [←h7,hq'];try rfl
     ·have hw:Zp e.list e.ops (d - 1)=true:=by
       rw [←h7,List.drop_of_length_le (by omega)];try rfl
      rw [hw,Bool.true_and] at hat
      refine ⟨⟨hm,fun o ho=> Z4n (rightOs_mem hw ho)⟩,Z5 rfl ?_⟩
      rw [hat,Bool.eq_iff_iff]
      (simp only [vcS])
  ·intro h
   rcases h with h | h | h
   ·rcases hf.1.1 with h2 | h2
    ·exact h1 h2
    ·exact h.2 h2
   ·omega
   ·omega
theorem Zfx{l:List Tree}{i:Int}(h0:0≤i)(h:i < l.length):List.drop i.toNat (l.take (i+1).toNat)=[l.getD i.toNat Tree.nil]:=by
 rw [List.drop_take,show (i+1).toNat - i.toNat=1 by omega,Y3 h0 h Tree.nil]
 try rfl
theorem ZGc:ZAa:=by
 intro N list o d _ hp hN
 simp only [Zb2,Zgq] at hp hN
 obtain ⟨⟨hm,hr,hil⟩,hd0,hd1⟩:=hp
 obtain ⟨ik,inn,rl,re⟩:=Z0w hr
 rw [ZN] at hm hN
 have hll:=ZA o.l
 have hep:=Z4v o.e
 have hat:=Jn list o d
 rw [ZoL hd0,ZaD] at hat
 refine ZEk N list o d _ ?_;(try simp only [vcT,forall_eq])
 (simp only [vcS]);(try simp only [vcT]);(try simp only [vcU])
 try (simp only [Tree.eta,Edit.eta,Tree.kind_mk,Tree.words_mk,Tree.kids_mk])
 refine ⟨fun h0=> ⟨fun _=> by simp only [Z8f];omega,Z5 rfl ?_⟩,fun h0=> ⟨fun hc=> Z5 rfl ?_,fun hc=> ⟨fun h3=> ?_,fun h3=> ⟨fun _=> ⟨⟨by dsimp only;omega,re⟩,hd0,hd1⟩,fun _=> by simp only [ZhN];omega,fun hq=> Z5 rfl ?_,fun hq=> Z5 rfl ?_⟩⟩⟩⟩
 ·rw [hat,if_pos h0,Bool.eq_iff_iff]
  (simp only [vcS])
  constructor
  ·rintro ⟨h1,h2⟩;exact ⟨by omega,h2⟩
  ·rintro ⟨h1,h2⟩;exact ⟨by omega,h2⟩
 ·rw [hat,if_neg h0,if_pos (by omega)]
 ·rw [if_neg h0,if_neg (by omega),if_pos h3] at hat
  refine Za (ι:=Int) (fun p=> Z7y list o d p) (fun p=> 0≤p∧p≤o.l.length∧JA list (o.l.drop p.toNat)=JA list o.l) (fun p=> ((o.l.length:Int) - p).toNat) 0 rfl ⟨by omega,by omega,by simp⟩ ?_
  rintro i ⟨h4,h5,h6⟩
  refine Zs2 N list o d i _ _ ?_;(try simp only [vcT,forall_eq])
  (simp only [vcS]);(try simp only [vcT]);(try simp only [vcU])
  try (simp only [Tree.eta,Edit.eta,Tree.kind_mk,Tree.words_mk,Tree.kids_mk])
  refine ⟨fun hi=> ?_,fun hi=> ?_⟩
  ·have hmem:=Zi (l:=o.l) (i:=i.toNat) (by omega) Tree.nil
   have hrt:=JI rl hmem
   have hmt:=YO hmem
   rw [Zfx h4 hi]
   rw [Y3 h4 hi Tree.nil] at h6
   simp only [JA] at h6
   generalize o.l.getD i.toNat Tree.nil=t at*
   refine ⟨by unfold InR;omega,by omega,⟨by simp only [Zu,Zh,List.length_nil];omega,⟨hil,fun x hx=> (by cases hx),hrt,trivial⟩,by dsimp only;omega,by dsimp only;omega⟩,fun hq=> Z5 rfl ?_,fun hq=> ⟨by unfold InR;omega,i+1,rfl,⟨by omega,by omega,?_⟩,by omega⟩⟩
   ·rw [hat,←h6,hq];try rfl
   ·rw [←h6,hq];try rfl
  ·have hw:JA list o.l=true:=by
    rw [←h6,List.drop_of_length_le (by omega)];try rfl
   rw [hw,Bool.true_and] at hat
   refine ⟨fun _=> by simp only [Z8f];omega,Z5 rfl ?_⟩
   rw [hat,Bool.eq_iff_iff]
   (simp only [vcS])
   simp only [Int.natCast_pos]
 ·rw [hat,if_neg h0,if_neg (by omega),if_neg h3]
  rcases hq with hq | hq
  ·have:¬(o.l.length=0∧o.e.kind≠0∧7 < list):=by omega
   rw [decide_eq_false this];try rfl
  ·rw [hq];simp
 ·rw [hat,if_neg h0,if_neg (by omega),if_neg h3,hq.2]
  have:o.l.length=0∧o.e.kind≠0∧7 < list:=by omega
  rw [decide_eq_true this,Bool.eq_iff_iff]
  (simp only [vcS])
  simp only [true_and,Bool.and_true,decide_eq_true_eq,and_assoc,or_assoc]
theorem ZBs:Contract Tryz.prog cfg 64 Zdu∧Contract Tryz.prog cfg 101 ZmW:=ZqA c99 ZC8 ZBV c31 Zr0 b64 ZGc
theorem Z2P(e:Edit):YL e=(decide (Ym e.ops 0≤2000∧Jb e.ops 0≤2000) && JF e.kids && Y5 e.ops):=by
 obtain ⟨k,o,nw,w,ks,l,os⟩:=e;rfl
theorem Zcg(k:Kid):Zkh k=YL k.e:=by cases k;rfl
theorem ZeR(o:Op):Z9U o=YL o.e:=by cases o;rfl
theorem Z6X{e:Edit}{d:Int}(h:Z2 e d=true):(∀ k∈e.kids,Z2 k.e (d - 1)=true∧k.e.kind≠0)∧∀ o∈e.ops,Zc e.list o (d - 1)=true:=by
 rw [Z4o] at h
 split at h
 ·cases h
 ·split at h
  ·cases h
  ·rename_i h1 h2
   split at h
   ·rename_i h3
    have hk:e.kids=[]:=List.eq_nil_of_length_eq_zero (by omega)
    have ho:e.ops=[]:=List.eq_nil_of_length_eq_zero (by omega)
    rw [hk,ho]
    exact ⟨fun k hk=> (by cases hk),fun o ho=> (by cases ho)⟩
   ·simp only [Bool.and_eq_true] at h
    exact ⟨fun k hk=> ZbN h.1.1.1.2 hk,fun o ho=> rightOs_mem h.1.2 ho⟩
theorem Zj8{e:Edit}(h:Z1g e=true):e.kind=0∧ZZ e.old=true∧ZZ e.new=true∧e.words=[]∧e.kids=[]∧e.ops=[]∧e.list=0:=by
 simp only [Z1g,Bool.and_eq_true,decide_eq_true_eq] at h
 obtain ⟨⟨⟨h1,h2⟩,h3⟩,h4,h5,h6,h7⟩:=h
 exact ⟨h1,h2,h3,List.eq_nil_of_length_eq_zero h4,List.eq_nil_of_length_eq_zero h5,List.eq_nil_of_length_eq_zero h6,h7⟩
theorem Z5U{e:Edit}(h:Z1g e=true)(d:Int)(hd:d≠0):Z2 e d=true:=by
 obtain ⟨h1,h2,h3,h4,h5,h6,h7⟩:=Zj8 h
 rw [Z4o,h1,h2,h3,h4,h5,h6,h7,if_neg (by omega),if_neg (by simp),if_neg (by omega)]
 simp [Zs,Zx,Zp,Ym,Jb]
theorem Zfp{list:Int}{o:Op}{d:Int}(h:Zc list o d=true):∃ d',Z2 o.e d'=true:=by
 rw [Jn] at h
 split at h
 ·simp only [Bool.and_eq_true] at h
  exact ⟨1,Z5U h.2 1 (by omega)⟩
 ·split at h
  ·cases h
  ·split at h
   ·simp only [Bool.and_eq_true] at h
    exact ⟨1,Z5U h.2 1 (by omega)⟩
   ·simp only [Bool.and_eq_true] at h
    exact ⟨d,h.1.2⟩
theorem c65:Contract Tryz.prog cfg 65 Zdt:=by
 refine ZAQ Zr0 ?_
 intro N e _ hp hN
 simp only [Ze4,Zk0] at hp hN
 obtain ⟨⟨hm,hr⟩,dd,hrt⟩:=hp
 obtain ⟨ik,ro,rn,rw',il,rk,ros⟩:=Z3I hr
 have hme:=Yg e
 have hkl:=Y2 e.kids
 have hol:=ZQ e.ops
 have hat:=Z2P e
 obtain ⟨hrk,hro⟩:=Z6X hrt
 refine ZFN N e _ ?_;(try simp only [vcT,forall_eq])
 (simp only [vcS]);(try simp only [vcT]);(try simp only [vcU])
 try (simp only [Tree.eta,Edit.eta,Tree.kind_mk,Tree.words_mk,Tree.kids_mk])
 refine ⟨⟨hm,fun o ho=> Z4n (hro o ho)⟩,fun hq=> Z5 rfl (by rw [hat,decide_eq_false (by omega)];rfl),fun hq=> ?_⟩
 rw [decide_eq_true (by omega),Bool.true_and] at hat
 refine Za (ι:=Int) (fun p=> Zaf e p) (fun p=> 0≤p∧p≤e.kids.length∧JF (e.kids.drop p.toNat)=JF e.kids) (fun p=> ((e.kids.length:Int) - p).toNat) 0 rfl ⟨by omega,by omega,by simp⟩ ?_
 rintro i ⟨h4,h5,h6⟩
 refine ZvR N e i _ _ ?_;(try simp only [vcT,forall_eq])
 (simp only [vcS]);(try simp only [vcT]);(try simp only [vcU])
 try (simp only [Tree.eta,Edit.eta,Tree.kind_mk,Tree.words_mk,Tree.kids_mk])
 refine ⟨fun hi=> ?_,fun hi=> ?_⟩
 ·have hmem:=Zi (l:=e.kids) (i:=i.toNat) (by omega) (KidOf.mk 0 Edit.nil)
  have hrr:=Ju rk hmem
  have hmm:=YQ hmem
  have hri:=hrk _ hmem
  rw [Y3 h4 hi (KidOf.mk 0 Edit.nil)] at h6
  simp only [JF,Zcg] at h6
  generalize e.kids.getD i.toNat (KidOf.mk 0 Edit.nil)=k at*
  refine ⟨⟨h4,hi⟩,⟨⟨by dsimp only;omega,hrr.2⟩,_,hri.1⟩,by simp only [Zk0];omega,fun hq=> Z5 rfl (by rw [hat,←h6,hq];rfl),fun hq=> ⟨by unfold InR;omega,i+1,rfl,⟨by omega,by omega,by rw [←h6,hq];rfl⟩,by omega⟩⟩
 ·have hw:JF e.kids=true:=by
   rw [←h6,List.drop_of_length_le (by omega)];try rfl
  rw [hw,Bool.true_and] at hat
  refine Za (ι:=Int) (fun p=> Zae e p) (fun p=> 0≤p∧p≤e.ops.length∧Y5 (e.ops.drop p.toNat)=Y5 e.ops) (fun p=> ((e.ops.length:Int) - p).toNat) 0 rfl ⟨by omega,by omega,by simp⟩ ?_
  rintro j ⟨g4,g5,g6⟩
  refine ZvQ N e j _ _ ?_;(try simp only [vcT,forall_eq])
  (simp only [vcS]);(try simp only [vcT]);(try simp only [vcU])
  try (simp only [Tree.eta,Edit.eta,Tree.kind_mk,Tree.words_mk,Tree.kids_mk])
  refine ⟨fun hi=> ?_,fun hi=> ?_⟩
  ·have hmem:=Zi (l:=e.ops) (i:=j.toNat) (by omega) Op.nil
   have hrr:=Z0w (Z0N ros hmem)
   have hmm:=ZW hmem
   have hri:=Zfp (hro _ hmem)
   rw [ZN] at hmm
   rw [Y3 g4 hi Op.nil] at g6
   simp only [Y5,ZeR] at g6
   generalize e.ops.getD j.toNat Op.nil=o at*
   refine ⟨⟨g4,hi⟩,⟨⟨by dsimp only;omega,hrr.2.2.2⟩,hri⟩,by simp only [Zk0];omega,fun hq=> Z5 rfl (by rw [hat,←g6,hq];rfl),fun hq=> ⟨by unfold InR;omega,j+1,rfl,⟨by omega,by omega,by rw [←g6,hq];rfl⟩,by omega⟩⟩
  ·refine Z5 rfl ?_
   rw [hat,←g6,List.drop_of_length_le (by omega)];try rfl
theorem c14:Contract Tryz.prog cfg 14 ZdC:=by
 refine ZB3 c45 ZBs.1 c65 ?_
 intro e _ hp
 simp only [Znw] at hp
 refine ZG2 e _ ?_;(try simp only [vcT,forall_eq])
 try (simp only [Tree.eta,Edit.eta,Tree.kind_mk,Tree.words_mk,Tree.kids_mk])
 refine ⟨hp.1,fun hf=> ?_,fun hf=> ?_,Z5 rfl ?_⟩
 ·have:=Zbq (by simpa using hf)
  exact ⟨⟨by dsimp only;omega,hp.2⟩,by dsimp only;omega,by dsimp only;omega⟩
 ·simp only [ZuU,decide_eq_true_eq] at hf
  have:=Zbq hf.1
  exact ⟨⟨by dsimp only;omega,hp.2⟩,64,hf.2⟩
 ·show _=Z0J e
  simp only [Z0J]
  rw [Bool.eq_iff_iff]
  (simp only [vcS])
end Go.AM.YtpjenobkibfpcaaGreat
namespace Go.AM
noncomputable def eqX{α:Type}(a b:α):Bool:=@decide (a=b) (Classical.propDecidable _)
theorem Z1a{α:Type}{a b:α}:eqX a b=true↔a=b:=by unfold eqX;exact @decide_eq_true_iff _ (Classical.propDecidable _)
@[simp] theorem Zaq {α:Type} (a:α):eqX a a=true:=Z1a.2 rfl
def ZY(o:Op)(n:Int):Op:=if Z3 o≤n then o else if o.kind=0 then ⟨o.kind,n,o.l,o.e⟩ else ⟨o.kind,o.n,o.l.take n.toNat,o.e⟩
def Z0e(o:Op)(n:Int):Op:=if o.kind=0 then ⟨o.kind,o.n - n,o.l,o.e⟩ else ⟨o.kind,o.n,o.l.drop n.toNat,o.e⟩
def Yi(l:List Op)(n:Int):List Op:=if Z3 (l.getD 0 Op.nil)≤n then l.drop 1 else Z0e (l.getD 0 Op.nil) n ::l.drop 1
def sgl(a:Int)(l:List Op):Bool:=decide (l.length≠0∧(l.getD 0 Op.nil).kind=a)
def J4(o:Op):Prop:=
 (o.kind=0∧o.l=[]∧(1≤o.n∧o.n≤1048576)∧o.e=Edit.nil)∨((o.kind=1∨o.kind=2)∧o.n=0∧o.l≠[]∧o.e=Edit.nil)∨(o.kind=3∧o.n=0∧o.l=[])
def Zbb(l:List Op):Prop:=(∀ o∈l,J4 o)∧Zg l≤20000000000
theorem Jg(l:List Op)(n:Int)(h:l.length≠0):(Yi l n).length≤l.length:=by
 unfold Yi
 split <;> simp <;> omega
theorem Jf(l:List Op)(n:Int)(h:l.length≠0)(hn:Z3 (l.getD 0 Op.nil)≤n):(Yi l n).length < l.length:=by
 unfold Yi
 rw [if_pos hn]
 simp;omega
def Yk(ap aq:Int)(p q:List Op)(out:List Piece):List Piece × Bool × List Op × List Op:=
 if h:sgl ap p=true then Yk ap aq (p.drop 1) q (out++[⟨1,p.getD 0 Op.nil,Op.nil⟩])
 else if h2:sgl aq q=true then Yk ap aq p (q.drop 1) (out++[⟨2,Op.nil,q.getD 0 Op.nil⟩])
 else if h3:p.length=0∨q.length=0 then
  if decide (p.length=0)=decide (q.length=0) then (out,true,p,q) else ([],false,p,q)
 else
  Yk ap aq (Yi p (min (Z3 (p.getD 0 Op.nil)) (Z3 (q.getD 0 Op.nil)))) (Yi q (min (Z3 (p.getD 0 Op.nil)) (Z3 (q.getD 0 Op.nil))))
   (out++[⟨0,ZY (p.getD 0 Op.nil) (min (Z3 (p.getD 0 Op.nil)) (Z3 (q.getD 0 Op.nil))),ZY (q.getD 0 Op.nil) (min (Z3 (p.getD 0 Op.nil)) (Z3 (q.getD 0 Op.nil)))⟩])
termination_by p.length+q.length
decreasing_by
 ·have:=(of_decide_eq_true h).1;rw [List.length_drop];omega
 ·have:=(of_decide_eq_true h2).1;rw [List.length_drop];omega
 ·rcases Int.le_total (Z3 (p.getD 0 Op.nil)) (Z3 (q.getD 0 Op.nil)) with hm | hm
  ·have a:=Jf p _ (by omega) (Int.le_refl (Z3 (p.getD 0 Op.nil)))
   have b:=Jg q (Z3 (p.getD 0 Op.nil)) (by omega)
   rw [Int.min_eq_left hm];omega
  ·have a:=Jf q _ (by omega) (Int.le_refl (Z3 (q.getD 0 Op.nil)))
   have b:=Jg p (Z3 (q.getD 0 Op.nil)) (by omega)
   rw [Int.min_eq_right hm];omega
def ZcI(i alone:Int)(o:Op):List AUnit:=
 (if o.kind=0 then List.replicate o.n.toNat ⟨i,0,Tree.nil,Edit.nil,false⟩ else [])
  ++(o.l.map (fun t=> ⟨i,o.kind,t,Edit.nil,decide (o.kind=alone)⟩)
  ++(if o.kind=3 then [⟨i,3,Tree.nil,o.e,false⟩] else []))
def Zd8(i alone:Int):List Op→List AUnit
 | []=> []
 | o ::r=> ZcI i alone o++Zd8 (i+1) alone r
def Z4e:List Op→Int
 | []=> 0
 | o ::r=> Z3 o+Z4e r
def alo(l:List AUnit):Bool:=decide (l.length≠0∧(l.getD 0 AUnit.nil).alone=true)
def Zem(p q:List AUnit)(out:List APair):List APair × Bool:=
 if h:alo p=true then Zem (p.drop 1) q (out++[⟨1,p.getD 0 AUnit.nil,AUnit.nil⟩])
 else if h2:alo q=true then Zem p (q.drop 1) (out++[⟨2,AUnit.nil,q.getD 0 AUnit.nil⟩])
 else if h3:p.length=0∨q.length=0 then
  if decide (p.length=0)=decide (q.length=0) then (out,true) else ([],false)
 else Zem (p.drop 1) (q.drop 1) (out++[⟨0,p.getD 0 AUnit.nil,q.getD 0 AUnit.nil⟩])
termination_by p.length+q.length
decreasing_by
 ·have:=(of_decide_eq_true h).1;rw [List.length_drop];omega
 ·have:=(of_decide_eq_true h2).1;rw [List.length_drop];omega
 ·rw [List.length_drop,List.length_drop];omega
def opU(u:AUnit):Op:=if u.kind=0 then ⟨0,1,[],Edit.nil⟩ else if u.kind=3 then ⟨3,0,[],u.e⟩ else ⟨u.kind,0,[u.t],Edit.nil⟩
end Go.AM
