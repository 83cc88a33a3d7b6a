import Derived.Test.YtpjenobkibfpcaaKD20
import Derived.Test.YtpjenobkibfpcaaKRB07
import Derived.Test.YtpjenobkibfpcaaCmZ
set_option linter.unusedSimpArgs false
set_option linter.unusedVariables false
namespace Go.AM.Ytpjenobkibfpcaa
open Go.AM Go.Proofs
noncomputable section
def ZnI:ArgL (Int × Unit):=(.cons (Yt .u64) .nil)
def Zek(a:Int × Unit):Prop:=0≤a.1∧a.1 < 18446744073709551616
def ZlC(a:Int × Unit):V U:= .agg [.int .u8 (Zn a.1 0),.int .u8 (Zn a.1 1),.int .u8 (Zn a.1 2),.int .u8 (Zn a.1 3),.int .u8 (Zn a.1 4),.int .u8 (Zn a.1 5),.int .u8 (Zn a.1 6),.int .u8 (Zn a.1 7)]
def Z9F:Fs U:=fs ZnI (fun a=> [Zek a]) ZlC
def ZnH:ArgL (Int × Int × Unit):=(.cons (Yt .u8) (.cons (Yt .i64) .nil))
def ZhR(a:Int × Int × Unit):Prop:=(0≤a.1∧a.1 < 256)∧0≤a.2.1∧a.2.1≤8
def Zra(a:Int × Int × Unit):V U:= .c (.bool (ZbV a.1 a.2.1))
def Z9E:Fs U:=fs ZnH (fun a=> [ZhR a]) Zra
def ZnG:ArgL (List Int × Int × Unit):=(.cons (aSl .u8) (.cons (Yt .i64) .nil))
def Zmc(a:List Int × Int × Unit):Prop:=a.2.1=0∧a.1.length=8∧∀ x∈a.1,0≤x∧x < 256
def Zr9(a:List Int × Int × Unit):V U:= .c (.int .u64 (of8 (fun i=> a.1.getD i 0)))
def Z9D:Fs U:=fs ZnG (fun a=> [Zmc a]) Zr9
def Zja:ArgL (Int × Int × Int × Unit):=(.cons (Yt .u64) (.cons (Yt .u64) (.cons (Yt .u8) .nil)))
def ZcT(a:Int × Int × Int × Unit):Prop:=(0≤a.1∧a.1 < 18446744073709551616)∧(0≤a.2.1∧a.2.1 < 18446744073709551616)∧(0≤a.2.2.1∧a.2.2.1 < 256)
def ZlY(a:Int × Int × Int × Unit):V U:= .c (.int .u64 (mix a.1 a.2.1 a.2.2.1))
def Z67:Fs U:=fs Zja (fun a=> [ZcT a]) ZlY
def ZnM:ArgL (Tree × Unit):=(.cons (aEl .tree) .nil)
def Z3T(a:Tree × Unit):Prop:=Zj a.1≤20000000000
def Zrd(a:Tree × Unit):V U:= .c (.bool (ZM a.1))
def Z2S:Fs U:=fs ZnM (fun a=> [Z3T a]) Zrd
def ZnL:ArgL (Int × Int × Unit):=(.cons (Yt .u64) (.cons (Yt .u8) .nil))
def ZhS(a:Int × Int × Unit):Prop:=(0≤a.1∧a.1 < 18446744073709551616)∧(0≤a.2.1∧a.2.1 < 256)
def Zrc(a:Int × Int × Unit):V U:= .c (.bool (Z0g a.1 a.2.1))
def Z7n:Fs U:=fs ZnL (fun a=> [ZhS a]) Zrc
def Zj9:ArgL (Edit × Unit):=(.cons (aEl .edit) .nil)
def Z5y(a:Edit × Unit):Prop:=Zg a.1≤20000000000
def ZlX(a:Edit × Unit):V U:= .c (.bool (JZ a.1))
def Z4w:Fs U:=fs Zj9 (fun a=> [Z5y a]) ZlX
def ZnK:ArgL (Edit × Unit):=(.cons (aEl .edit) .nil)
def Zel(a:Edit × Unit):Prop:=Zg a.1≤20000000000∧∀ o∈Edit.ops a.1,0≤o.n∧o.n≤1048576
def ZlD(a:Edit × Unit):V U:= .tup [(false,[ci (JX a.1.ops 0)]),(false,[ci (JW a.1.ops 0)])]
def Z2R:Fs U:=fs ZnK (fun a=> [Zel a]) ZlD
def ZgT:ArgL (Edit × Int × Int × Unit):=(.cons (aEl .edit) (.cons (Yt .i64) (.cons (Yt .i64) .nil)))
def Zac(a:Edit × Int × Int × Unit):Prop:=Z26 a.1∧0≤a.2.1∧a.2.1≤4611686018427387904∧-1≤a.2.2.1∧a.2.2.1≤4611686018427387904
def ZeF(a:Edit × Int × Int × Unit):Nat:=Zg a.1
def ZhE(a:Edit × Int × Int × Unit):V U:= .c (ci (JP a.1 a.2.1 a.2.2.1))
def Z9v:Fs U:=fs ZgT (fun a=> [Zac a]) ZhE
def ZnO:ArgL (Edit × Unit):=(.cons (aEl .edit) .nil)
def Zmd(a:Edit × Unit):Prop:=Z26 a.1
def Zrf(a:Edit × Unit):V U:= .c (.bool (decide (0≤JP a.1 80 3000)))
def Z9J:Fs U:=fs ZnO (fun a=> [Zmd a]) Zrf
def Zgx:List (FuncId × Fs U):=[]
def ZpU:Zi U:=lvl [([0,2],[2]),([0,2,3],[2,3]),([0,2,3,4],[2,3]),([0,2,3,4,7],[2,3]),([0,2,3,4],[2,3]),([0,2,3,4],[2,3]),([0,2,3,4],[2,3]),([2],[2])]
def Z4d(w x0 x4 ml3_0 ml3_1 ml3_2 ml3_3 ml3_4 ml3_5 ml3_6 ml3_7:Int):LSt U:=(L2 [(0,.c (.int .u64 x0)),(2,.ptr (.loc 2) 0),(3,.ptr (.loc 3) 0),(4,.c (ci x4))] [(.loc 2,zc0),(.loc 3,[.int .u8 ml3_0,.int .u8 ml3_1,.int .u8 ml3_2,.int .u8 ml3_3,.int .u8 ml3_4,.int .u8 ml3_5,.int .u8 ml3_6,.int .u8 ml3_7])])
abbrev A67(p:List Nat):=AW (Z0 Zgx) Try.f67 ZpU p
abbrev S67(p:List Nat):=SW (Z0 Zgx) Try.f67 ZpU p
theorem Zwy(w:Int)(Q:QT)(h:(Zh (A67 [1,1,0,1,0,0]) (Z4d w w 0 0 0 0 0 0 0 0 0) (xB 0 (S67 [1,1,1] Q)))):
  A67 [] (L2 [(0,.c (.int .u64 w))] []) Q:=
 Eq.mpr (by kernel_rfl) h
theorem Zox(w x0 x4 ml3_0 ml3_1 ml3_2 ml3_3 ml3_4 ml3_5 ml3_6 ml3_7:Int)(N0:NT)(Q:QT)(h:let z0:=IntKind.wrap .u8 (Int.tmod x0 256);(((decide (x4 < 8))=true→((256:Int)≠0)∧((0:Int)≤x4∧x4 < ((8:Nat):Int))∧(((256:Int)≠0)∧((InR (x4+1))∧(N0 (Z4d w (IntKind.wrap .u64 (Int.tdiv x0 256)) (x4+1) (Z0B x4 0 z0 ml3_0) (Z0B x4 1 z0 ml3_1) (Z0B x4 2 z0 ml3_2) (Z0B x4 3 z0 ml3_3) (Z0B x4 4 z0 ml3_4) (Z0B x4 5 z0 ml3_5) (Z0B x4 6 z0 ml3_6) (Z0B x4 7 z0 ml3_7))))))∧((decide (x4 < 8))=false→(Q .ret (L2 [(2,.ptr (.loc 2) 0)] [(.loc 2,[.int .u8 ml3_0,.int .u8 ml3_1,.int .u8 ml3_2,.int .u8 ml3_3,.int .u8 ml3_4,.int .u8 ml3_5,.int .u8 ml3_6,.int .u8 ml3_7])]))))):
  A67 [1,1,0,1,0,0] (Z4d w x0 x4 ml3_0 ml3_1 ml3_2 ml3_3 ml3_4 ml3_5 ml3_6 ml3_7) (xT N0 (xB 0 (S67 [1,1,1] Q))):=
 Eq.mpr (by kernel_rfl) h
def Zui(w:Int):Prop:=AW (Z0 Zgx) Try.f67 ZpU [] (Zm (ZnI.can (w,())) []) (EQ Try.f67 (ZlC (w,())) [])
theorem Zsu(hb:∀ (w:Int) (_:Unit),Zek (w,())→Zui w):CT 67 Z9F:=
 Z3 (l:=[]) Zk rfl trivial ZpU Try.func67 rfl rfl 1 (fun _=> rfl) (by decide) (fun ⟨w,_⟩=> hb w ())
def Zgw:List (FuncId × Fs U):=[]
def ZpT:Zi U:=lvl [([0,1],[]),([0,1,5],[]),([0,1,5,8],[]),([0,1,5],[]),([0,1,5],[]),([4],[])]
def Z6Q(m i x0 x5:Int):LSt U:=(L2 [(0,.c (.int .u8 x0)),(1,.c (ci i)),(5,.c (ci x5))] [])
abbrev A68(p:List Nat):=AW (Z0 Zgw) Try.f68 ZpT p
abbrev S68(p:List Nat):=SW (Z0 Zgw) Try.f68 ZpT p
theorem Zwx(m i:Int)(Q:QT)(h:(Zh (A68 [1,0,1,0,0]) (Z6Q m i m 0) (xB 0 (S68 [1,1] Q)))):
  A68 [] (L2 [(0,.c (.int .u8 m)),(1,.c (ci i))] []) Q:=
 Eq.mpr (by kernel_rfl) h
theorem Zow(m i x0 x5:Int)(N0:NT)(Q:QT)(h:(((decide (x5 < i))=true→((2:Int)≠0)∧((InR (x5+1))∧(N0 (Z6Q m i (IntKind.wrap .u8 (Int.tdiv x0 2)) (x5+1)))))∧((decide (x5 < i))=false→((2:Int)≠0)∧(Q .ret (L2 [(4,.c (.bool (((Int.tmod x0 2):Int)==1)))] []))))):
  A68 [1,0,1,0,0] (Z6Q m i x0 x5) (xT N0 (xB 0 (S68 [1,1] Q))):=
 Eq.mpr (by kernel_rfl) h
def Zuh(m i:Int):Prop:=AW (Z0 Zgw) Try.f68 ZpT [] (Zm (ZnH.can (m,i,())) []) (EQ Try.f68 (Zra (m,i,())) [])
theorem Zst(hb:∀ (m:Int) (i:Int) (_:Unit),ZhR (m,i,())→Zuh m i):CT 68 Z9E:=
 Z3 (l:=[]) Zk rfl trivial ZpT Try.func68 rfl rfl 2 (fun _=> rfl) (by decide) (fun ⟨m,i,_⟩=> hb m i ())
def Zgv:List (FuncId × Fs U):=[]
def ZpS:Zi U:=lvl [([0,1],[]),([0,1,5],[]),([0,1,5,6],[]),([0,1,5,6,8],[]),([0,1,5,6],[]),([0,1,5,6],[]),([4],[])]
def Z6P(b:List Int)(from_ x5 x6:Int):LSt U:=(L2 [(0,.c (sU .u8 b .unk)),(1,.c (ci from_)),(5,.c (.int .u64 x5)),(6,.c (ci x6))] [])
abbrev A69(p:List Nat):=AW (Z0 Zgv) Try.f69 ZpS p
abbrev S69(p:List Nat):=SW (Z0 Zgv) Try.f69 ZpS p
theorem Zww(b:List Int)(from_:Int)(Q:QT)(h:(Zh (A69 [1,1,0,1,0,0]) (Z6P b from_ 0 7) (xB 0 (S69 [1,1,1] Q)))):
  A69 [] (L2 [(0,.c (sU .u8 b .unk)),(1,.c (ci from_))] []) Q:=
 Eq.mpr (by kernel_rfl) h
theorem Zov(b:List Int)(from_ x5 x6:Int)(N0:NT)(Q:QT)(h:(((decide ((0:Int)≤x6))=true→(InR (from_+x6))∧((0:Int)≤(from_+x6)∧(from_+x6) < (b.length:Int))∧((InR (x6 - 1))∧(N0 (Z6P b from_ (IntKind.wrap .u64 (((IntKind.wrap .u64 (x5*256)):Int)+(IntKind.wrap .u64 (List.getD b (Int.toNat (from_+x6)) (0:Int))))) (x6 - 1)))))∧((decide ((0:Int)≤x6))=false→(Q .ret (L2 [(4,.c (.int .u64 x5))] []))))):
  A69 [1,1,0,1,0,0] (Z6P b from_ x5 x6) (xT N0 (xB 0 (S69 [1,1,1] Q))):=
 Eq.mpr (by kernel_rfl) h
def Zug(b:List Int)(from_:Int):Prop:=AW (Z0 Zgv) Try.f69 ZpS [] (Zm (ZnG.can (b,from_,())) []) (EQ Try.f69 (Zr9 (b,from_,())) [])
theorem Zss(hb:∀ (b:List Int) (from_:Int) (_:Unit),Zmc (b,from_,())→Zug b from_):CT 69 Z9D:=
 Z3 (l:=[]) Zk rfl trivial ZpS Try.func69 rfl rfl 2 (fun _=> rfl) (by decide) (fun ⟨b,from_,_⟩=> hb b from_ ())
def Zdc:List (FuncId × Fs U):=[(67,Z9F),(68,Z9E),(69,Z9D)]
def Zih:Zi U:=lvl [([0,1,2],[]),([2,7,8],[7,8]),([2,7,8,9],[7,8]),([2,7,8,9,15],[7,8]),([2,7,8,9],[7,8]),([2,7,8,9,20],[7,8]),([2,7,8,9],[7,8]),([6],[])]
def Z1i(a b m x9 ml7_0 ml7_1 ml7_2 ml7_3 ml7_4 ml7_5 ml7_6 ml7_7:Int):LSt U:=(L2 [(2,.c (.int .u8 m)),(7,.ptr (.loc 7) 0),(8,.ptr (.loc 8) 0),(9,.c (ci x9))] [(.loc 7,[.int .u8 ml7_0,.int .u8 ml7_1,.int .u8 ml7_2,.int .u8 ml7_3,.int .u8 ml7_4,.int .u8 ml7_5,.int .u8 ml7_6,.int .u8 ml7_7]),(.loc 8,[.int .u8 (Zn b 0),.int .u8 (Zn b 1),.int .u8 (Zn b 2),.int .u8 (Zn b 3),.int .u8 (Zn b 4),.int .u8 (Zn b 5),.int .u8 (Zn b 6),.int .u8 (Zn b 7)])])
abbrev ZuL(p:List Nat):=AW (Z0 Zdc) Try.f103 Zih p
abbrev Zw4(p:List Nat):=SW (Z0 Zdc) Try.f103 Zih p
theorem Zvm(a b m:Int)(Q:QT)(h:((Zek (a,()))∧(Zek (b,()))∧(Zh (ZuL [1,1,0,1,0,0]) (Z1i a b m 0 (Zn a 0) (Zn a 1) (Zn a 2) (Zn a 3) (Zn a 4) (Zn a 5) (Zn a 6) (Zn a 7)) (xB 0 (Zw4 [1,1,1] Q))))):
  ZuL [] (L2 [(0,.c (.int .u64 a)),(1,.c (.int .u64 b)),(2,.c (.int .u8 m))] []) Q:=
 Eq.mpr (by kernel_rfl) h
theorem Zli(a b m x9 ml7_0 ml7_1 ml7_2 ml7_3 ml7_4 ml7_5 ml7_6 ml7_7:Int)(N0:NT)(Q:QT)(h:let z0:=List.getD [Zn b 0,Zn b 1,Zn b 2,Zn b 3,Zn b 4,Zn b 5,Zn b 6,Zn b 7] x9.toNat 0;(((decide (x9 < 8))=true→(ZhR (m,x9,()))∧(((ZbV m x9)=true→((0:Int)≤x9∧x9 < ((8:Nat):Int))∧((0:Int)≤x9∧x9 < ((8:Nat):Int))∧((InR (x9+1))∧(N0 (Z1i a b m (x9+1) (Z0B x9 0 z0 ml7_0) (Z0B x9 1 z0 ml7_1) (Z0B x9 2 z0 ml7_2) (Z0B x9 3 z0 ml7_3) (Z0B x9 4 z0 ml7_4) (Z0B x9 5 z0 ml7_5) (Z0B x9 6 z0 ml7_6) (Z0B x9 7 z0 ml7_7)))))∧((ZbV m x9)=false→(InR (x9+1))∧(N0 (Z1i a b m (x9+1) ml7_0 ml7_1 ml7_2 ml7_3 ml7_4 ml7_5 ml7_6 ml7_7)))))∧((decide (x9 < 8))=false→(Zmc (([ml7_0,ml7_1,ml7_2,ml7_3,ml7_4,ml7_5,ml7_6,ml7_7]),0,()))∧(Q .ret (L2 [(6,.c (.int .u64 (of8 (fun i=> ([ml7_0,ml7_1,ml7_2,ml7_3,ml7_4,ml7_5,ml7_6,ml7_7]).getD i 0))))] []))))):
  ZuL [1,1,0,1,0,0] (Z1i a b m x9 ml7_0 ml7_1 ml7_2 ml7_3 ml7_4 ml7_5 ml7_6 ml7_7) (xT N0 (xB 0 (Zw4 [1,1,1] Q))):=
 Eq.mpr (by kernel_rfl) h
def Zr3(a b m:Int):Prop:=AW (Z0 Zdc) Try.f103 Zih [] (Zm (Zja.can (a,b,m,())) []) (EQ Try.f103 (ZlY (a,b,m,())) [])
theorem ZpI(c67:CT 67 Z9F)(c68:CT 68 Z9E)(c69:CT 69 Z9D)(hb:∀ (a:Int) (b:Int) (m:Int) (_:Unit),ZcT (a,b,m,())→Zr3 a b m):CT 103 Z67:=
 Z3 (l:=[(67,Z9F),(68,Z9E),(69,Z9D)]) Zk rfl (⟨c67,c68,c69,trivial⟩) Zih Try.func103 rfl rfl 3 (fun _=> rfl) (by decide) (fun ⟨a,b,m,_⟩=> hb a b m ())
def ZmZ:List (FuncId × Fs U):=[]
def ZsZ:Zi U:=lvl [([1],[1]),([2],[])]
abbrev A62(p:List Nat):=AW (Z0 ZmZ) Try.f62 ZsZ p
theorem ZwD(t:Tree)(Q:QT)(h:((Tr ((t.kind==0)=true))∧(Tr ((t.kind==0)=true))∧(Tr ((t.kind==0)=true))∧(Tr ((t.kind==0)=true))∧(Tr ((t.kind==0)=true))∧(Tr ((t.kind==0)=true))∧((t.kind==0)=true→InR (((t.words.length:Int):Int)+(t.kids.length:Int)))∧(Tr ((t.kind==0)=true))∧(Tr ((t.kind==0)=true))∧(Q .ret (L2 [(2,.c (.bool (bif (t.kind==0) then (((((t.words.length:Int):Int)+(t.kids.length:Int)):Int)==0) else false)))] [])))):
  A62 [] (L2 [(0,.agg (enc .tree t))] []) Q:=
 Eq.mpr (by kernel_rfl) h
def Zun(t:Tree):Prop:=AW (Z0 ZmZ) Try.f62 ZsZ [] (Zm (ZnM.can (t,())) []) (EQ Try.f62 (Zrd (t,())) [])
theorem Zsy(hb:∀ (t:Tree) (_:Unit),Z3T (t,())→Zun t):CT 62 Z2S:=
 Z3 (l:=[]) Zk rfl trivial ZsZ Try.func62 rfl rfl 1 (fun _=> rfl) (by decide) (fun ⟨t,_⟩=> hb t ())
def ZmY:List (FuncId × Fs U):=[(103,Z67)]
def ZsY:Zi U:=lvl [([0,1],[]),([4],[])]
abbrev A63(p:List Nat):=AW (Z0 ZmY) Try.f63 ZsY p
theorem ZwC(w m:Int)(Q:QT)(h:((ZcT (w,0,m,()))∧(Q .ret (L2 [(4,.c (.bool (((mix w 0 m):Int)==0)))] [])))):
  A63 [] (L2 [(0,.c (.int .u64 w)),(1,.c (.int .u8 m))] []) Q:=
 Eq.mpr (by kernel_rfl) h
def Zum(w m:Int):Prop:=AW (Z0 ZmY) Try.f63 ZsY [] (Zm (ZnL.can (w,m,())) []) (EQ Try.f63 (Zrc (w,m,())) [])
theorem Zsx(ZtH:CT 103 Z67)(hb:∀ (w:Int) (m:Int) (_:Unit),ZhS (w,m,())→Zum w m):CT 63 Z7n:=
 Z3 (l:=[(103,Z67)]) Zk rfl (⟨ZtH,trivial⟩) ZsY Try.func63 rfl rfl 2 (fun _=> rfl) (by decide) (fun ⟨w,m,_⟩=> hb w m ())
def Ziz:List (FuncId × Fs U):=[(62,Z2S)]
def ZmL:Zi U:=lvl [([1],[1]),([2],[])]
abbrev Zxc(p:List Nat):=AW (Z0 Ziz) Try.f104 ZmL p
theorem Zvl(e:Edit)(Q:QT)(h:∀ y_1,y_1=(e.new)→∀ y_2,y_2=(e.old)→let z2:=bif (e.kind==0) then (ZM y_2) else false;let z0:=bif z2 then (ZM y_1) else false;let z1:=bif z0 then (((((((e.words.length:Int):Int)+(e.kids.length:Int)):Int)+(e.ops.length:Int)):Int)==0) else false;((Tr ((e.kind==0)=true))∧(Tr ((e.kind==0)=true))∧((e.kind==0)=true→Z3T (y_2,()))∧(Tr ((e.kind==0)=true))∧(Tr (z2=true))∧(Tr (z2=true))∧(z2=true→Z3T (y_1,()))∧(Tr (z2=true))∧(Tr (z0=true))∧(Tr (z0=true))∧(Tr (z0=true))∧(Tr (z0=true))∧(Tr (z0=true))∧(Tr (z0=true))∧(z0=true→InR (((e.words.length:Int):Int)+(e.kids.length:Int)))∧(Tr (z0=true))∧(Tr (z0=true))∧(Tr (z0=true))∧(Tr (z0=true))∧(z0=true→InR (((((e.words.length:Int):Int)+(e.kids.length:Int)):Int)+(e.ops.length:Int)))∧(Tr (z0=true))∧(Tr (z0=true))∧(Tr (z1=true))∧(Tr (z1=true))∧(Tr (z1=true))∧(Q .ret (L2 [(2,.c (.bool (bif z1 then (e.list==0) else false)))] [])))):
  Zxc [] (L2 [(0,.agg (enc .edit e))] []) Q:=
 Eq.mpr (by kernel_rfl) (h _ (Zc _) _ (Zc _))
def Zr2(e:Edit):Prop:=AW (Z0 Ziz) Try.f104 ZmL [] (Zm (Zj9.can (e,())) []) (EQ Try.f104 (ZlX (e,())) [])
theorem ZpH(c62:CT 62 Z2S)(hb:∀ (e:Edit) (_:Unit),Z5y (e,())→Zr2 e):CT 104 Z4w:=
 Z3 (l:=[(62,Z2S)]) Zk rfl (⟨c62,trivial⟩) ZmL Try.func104 rfl rfl 1 (fun _=> rfl) (by decide) (fun ⟨e,_⟩=> hb e ())
def Zgy:List (FuncId × Fs U):=[]
def ZpV:Zi U:=lvl [([1],[1]),([1,4,5],[1]),([1,4,5,6],[1]),([1,4,5,6,13],[1]),([1,4,5,6],[1]),([1,4,5,6,7],[1,7]),([1,4,5,6,7,8],[1,7]),([1,4,5,6,7,8,29],[1,7]),([1,4,5,6,7,8,29],[1,7]),([1,4,5,6,7,8,32],[1,7]),([1,4,5,6,7,8,32],[1,7]),([1,4,5,6,8,38],[1]),([1,4,5,6,8,38],[1]),([1,4,5,6,43],[1]),([1,4,5,6,43],[1]),([1,4,5,6,45],[1]),([1,4,5,6],[1]),([2,3],[])]
def Z1G(e:Edit)(x4 x5 x6:Int):LSt U:=(L2 [(1,.ptr (.loc 1) 0),(4,.c (ci x4)),(5,.c (ci x5)),(6,.c (ci x6))] [(.loc 1,(enc .edit e))])
def Z6U(e:Edit)(x4 x5 x6 x8_a:Int):LSt U:=(L2 [(1,.ptr (.loc 1) 0),(4,.c (ci x4)),(5,.c (ci x5)),(6,.c (ci x6)),(7,.ptr (.loc 7) 0),(8,.c (ci x8_a)),(29,.c (.bool (((OpOf.kind (e.ops.getD x6.toNat Op.nil)):Int)==3)))] [(.loc 1,(enc .edit e)),(.loc 7,(enc .op (e.ops.getD x6.toNat Op.nil)))])
def Z6T(e:Edit)(x5 x6 x8_a x4_b:Int):LSt U:=(L2 [(1,.ptr (.loc 1) 0),(4,.c (ci x4_b)),(5,.c (ci x5)),(6,.c (ci x6)),(7,.ptr (.loc 7) 0),(8,.c (ci x8_a)),(32,.c (.bool (((OpOf.kind (e.ops.getD x6.toNat Op.nil)):Int) !=2)))] [(.loc 1,(enc .edit e)),(.loc 7,(enc .op (e.ops.getD x6.toNat Op.nil)))])
def Z6S(e:Edit)(x6 x8_a x4_b x5_c:Int):LSt U:=(L2 [(1,.ptr (.loc 1) 0),(4,.c (ci x4_b)),(5,.c (ci x5_c)),(6,.c (ci x6)),(8,.c (ci x8_a)),(38,.c (.bool (((OpOf.kind (e.ops.getD x6.toNat Op.nil)):Int) !=1)))] [(.loc 1,(enc .edit e))])
def Z6R(e:Edit)(x6 x4_b x5_c x4_d:Int):LSt U:=(L2 [(1,.ptr (.loc 1) 0),(4,.c (ci x4_d)),(5,.c (ci x5_c)),(6,.c (ci x6)),(43,.c (.bool (decide ((1048576:Int) < x4_b))))] [(.loc 1,(enc .edit e))])
abbrev A65(p:List Nat):=AW (Z0 Zgy) Try.f65 ZpV p
abbrev S65(p:List Nat):=SW (Z0 Zgy) Try.f65 ZpV p
theorem ZwA(e:Edit)(Q:QT)(h:(Zh (A65 [1,1,0,1,0,0]) (Z1G e 0 0 0) (xB 0 (S65 [1,1,1] Q)))):
  A65 [] (L2 [(0,.agg (enc .edit e))] []) Q:=
 Eq.mpr (by kernel_rfl) h
abbrev ZtR(e:Edit)(x4 x5 x6:Int)(N0:NT)(Q:QT):Prop:=A65 [1,1,0,1,0,0] (Z1G e x4 x5 x6) (xT N0 (xB 0 (S65 [1,1,1] Q)))
theorem Zoy(e:Edit)(x4 x5 x6:Int)(N0:NT)(Q:QT)(h:let z2:=decide (x6 < (e.ops.length:Int));let z1:=xB 1 (S65 [1,1,0,1,0,0,1,1] (xT N0 (xB 0 (S65 [1,1,1] Q))));let z0:=e.ops.getD x6.toNat Op.nil;((z2=true→((0:Int)≤x6∧x6 < (e.ops.length:Int))∧((InR (((OpOf.n z0):Int)+((OpOf.l z0).length:Int)))∧(((((OpOf.kind z0):Int)==3)=true→(A65 [1,1,0,1,0,0,1,0,0,1,1,1] (Z6U e x4 x5 x6 1) z1))∧((((OpOf.kind z0):Int)==3)=false→A65 [1,1,0,1,0,0,1,0,0,1,1,1] (Z6U e x4 x5 x6 (((OpOf.n z0):Int)+((OpOf.l z0).length:Int))) z1))))∧(z2=false→(Q .ret (L2 [(2,.c (ci x4)),(3,.c (ci x5))] []))))):
  A65 [1,1,0,1,0,0] (Z1G e x4 x5 x6) (xT N0 (xB 0 (S65 [1,1,1] Q))):=
 Eq.mpr (by kernel_rfl) h
abbrev ZtV(e:Edit)(x4 x5 x6 x8_a:Int)(N0:NT)(Q:QT):Prop:=A65 [1,1,0,1,0,0,1,0,0,1,1,1] (Z6U e x4 x5 x6 x8_a) (xB 1 (S65 [1,1,0,1,0,0,1,1] (xT N0 (xB 0 (S65 [1,1,1] Q)))))
theorem ZoC(e:Edit)(x4 x5 x6 x8_a:Int)(N0:NT)(Q:QT)(h:let z1:=((OpOf.kind (e.ops.getD x6.toNat Op.nil)):Int) !=2;let z0:=xB 1 (S65 [1,1,0,1,0,0,1,1] (xT N0 (xB 0 (S65 [1,1,1] Q))));((z1=true→(InR (x4+x8_a))∧(A65 [1,1,0,1,0,0,1,0,0,1,1,1,1] (Z6T e x5 x6 x8_a (x4+x8_a)) z0))∧(z1=false→A65 [1,1,0,1,0,0,1,0,0,1,1,1,1] (Z6T e x5 x6 x8_a x4) z0))):
  A65 [1,1,0,1,0,0,1,0,0,1,1,1] (Z6U e x4 x5 x6 x8_a) (xB 1 (S65 [1,1,0,1,0,0,1,1] (xT N0 (xB 0 (S65 [1,1,1] Q))))):=
 Eq.mpr (by kernel_rfl) h
abbrev ZtU(e:Edit)(x5 x6 x8_a x4_b:Int)(N0:NT)(Q:QT):Prop:=A65 [1,1,0,1,0,0,1,0,0,1,1,1,1] (Z6T e x5 x6 x8_a x4_b) (xB 1 (S65 [1,1,0,1,0,0,1,1] (xT N0 (xB 0 (S65 [1,1,1] Q)))))
theorem ZoB(e:Edit)(x5 x6 x8_a x4_b:Int)(N0:NT)(Q:QT)(h:let z1:=((OpOf.kind (e.ops.getD x6.toNat Op.nil)):Int) !=1;let z0:=xB 1 (S65 [1,1,0,1,0,0,1,1] (xT N0 (xB 0 (S65 [1,1,1] Q))));((z1=true→(InR (x5+x8_a))∧(A65 [1,1,0,1,0,0,1,0,0,1,1,1,1,1] (Z6S e x6 x8_a x4_b (x5+x8_a)) z0))∧(z1=false→A65 [1,1,0,1,0,0,1,0,0,1,1,1,1,1] (Z6S e x6 x8_a x4_b x5) z0))):
  A65 [1,1,0,1,0,0,1,0,0,1,1,1,1] (Z6T e x5 x6 x8_a x4_b) (xB 1 (S65 [1,1,0,1,0,0,1,1] (xT N0 (xB 0 (S65 [1,1,1] Q))))):=
 Eq.mpr (by kernel_rfl) h
abbrev ZtT(e:Edit)(x6 x8_a x4_b x5_c:Int)(N0:NT)(Q:QT):Prop:=A65 [1,1,0,1,0,0,1,0,0,1,1,1,1,1] (Z6S e x6 x8_a x4_b x5_c) (xB 1 (S65 [1,1,0,1,0,0,1,1] (xT N0 (xB 0 (S65 [1,1,1] Q)))))
theorem ZoA(e:Edit)(x6 x8_a x4_b x5_c:Int)(N0:NT)(Q:QT)(h:let z1:=decide ((1048576:Int) < x4_b);let z0:=xB 1 (S65 [1,1,0,1,0,0,1,1] (xT N0 (xB 0 (S65 [1,1,1] Q))));((z1=true→(A65 [1,1,0,1,0,0,1,0,0,1,1,1,1,1,1] (Z6R e x6 x4_b x5_c 1048576) z0))∧(z1=false→A65 [1,1,0,1,0,0,1,0,0,1,1,1,1,1,1] (Z6R e x6 x4_b x5_c x4_b) z0))):
  A65 [1,1,0,1,0,0,1,0,0,1,1,1,1,1] (Z6S e x6 x8_a x4_b x5_c) (xB 1 (S65 [1,1,0,1,0,0,1,1] (xT N0 (xB 0 (S65 [1,1,1] Q))))):=
 Eq.mpr (by kernel_rfl) h
abbrev ZtS(e:Edit)(x6 x4_b x5_c x4_d:Int)(N0:NT)(Q:QT):Prop:=A65 [1,1,0,1,0,0,1,0,0,1,1,1,1,1,1] (Z6R e x6 x4_b x5_c x4_d) (xB 1 (S65 [1,1,0,1,0,0,1,1] (xT N0 (xB 0 (S65 [1,1,1] Q)))))
theorem Zoz(e:Edit)(x6 x4_b x5_c x4_d:Int)(N0:NT)(Q:QT)(h:let z0:=decide ((1048576:Int) < x5_c);((z0=true→((InR (x6+1))∧(N0 (Z1G e x4_d 1048576 (x6+1)))))∧(z0=false→(InR (x6+1))∧(N0 (Z1G e x4_d x5_c (x6+1)))))):
  A65 [1,1,0,1,0,0,1,0,0,1,1,1,1,1,1] (Z6R e x6 x4_b x5_c x4_d) (xB 1 (S65 [1,1,0,1,0,0,1,1] (xT N0 (xB 0 (S65 [1,1,1] Q))))):=
 Eq.mpr (by kernel_rfl) h
def Zuk(e:Edit):Prop:=AW (Z0 Zgy) Try.f65 ZpV [] (Zm (ZnK.can (e,())) []) (EQ Try.f65 (ZlD (e,())) [])
theorem Zsw(hb:∀ (e:Edit) (_:Unit),Zel (e,())→Zuk e):CT 65 Z2R:=
 Z3 (l:=[]) Zk rfl trivial ZpV Try.func65 rfl rfl 1 (fun _=> rfl) (by decide) (fun ⟨e,_⟩=> hb e ())
def Zgn(N:Nat):List (FuncId × Fs U):=(90,fs ZgT (fun a=> [Zac a,ZeF a < N]) ZhE) ::[(78,Z3A)]
def ZpK:Zi U:=lvl [([1,2,3],[3]),([1,2,3],[3]),([1,2,3,25],[3]),([6],[]),([1,2,3],[3]),([1,2,3,31],[3]),([1,2,3,31],[3]),([1,2,3,7],[3]),([1,2,3,7,44],[3]),([1,2,3,7],[3]),([1,2,3,7],[3]),([1,2,3,8],[3]),([1,2,3,8,65],[3]),([1,2,3,8],[3]),([1,2,3,8,9],[3]),([1,2,3,8,9,80],[3]),([1,2,3,8,9],[3]),([1,2,3,8,9],[3]),([1,2,3,8,95],[3]),([1,2,3,8],[3]),([6],[])]
def Z6H(e:Edit)(d n x2:Int):LSt U:=(L2 [(1,.c (ci d)),(2,.c (ci x2)),(3,.ptr (.loc 3) 0),(31,.c (.bool (decide ((0:Int)≤(ZA (Tree.mk e.old.kind e.old.words e.old.kids) 80 ((((((n:Int) - 1):Int) - (e.words.length:Int)):Int) - (e.ops.length:Int)))))))] [(.loc 3,(enc .edit e))])
def Z6G(e:Edit)(d n x2_a x7_a:Int):LSt U:=(L2 [(1,.c (ci d)),(2,.c (ci x2_a)),(3,.ptr (.loc 3) 0),(7,.c (ci x7_a))] [(.loc 3,(enc .edit e))])
def Z4c(e:Edit)(d n x2_b x8_b:Int):LSt U:=(L2 [(1,.c (ci d)),(2,.c (ci x2_b)),(3,.ptr (.loc 3) 0),(8,.c (ci x8_b))] [(.loc 3,(enc .edit e))])
def Z6F(e:Edit)(d n x8_b x2_c x9_c:Int):LSt U:=(L2 [(1,.c (ci d)),(2,.c (ci x2_c)),(3,.ptr (.loc 3) 0),(8,.c (ci x8_b)),(9,.c (ci x9_c))] [(.loc 3,(enc .edit e))])
abbrev A90(N:Nat)(p:List Nat):=AW (Z0 (Zgn N)) Try.f90 ZpK p
abbrev S90(N:Nat)(p:List Nat):=SW (Z0 (Zgn N)) Try.f90 ZpK p
theorem Zwj(N:Nat)(e:Edit)(d n:Int)(Q:QT)(h:∀ y_1,y_1=(e.new)→∀ y_2,y_2=(e.old)→∀ y_3,y_3=(ZA y_2 80 (((((n - 1):Int) - (e.words.length:Int)):Int) - (e.ops.length:Int)))→let z0:=bif (d==0) then true else (decide (((((((n - 1):Int) - (e.words.length:Int)):Int) - (e.ops.length:Int)):Int) < 0));((InR (n - 1))∧(InR (((n - 1):Int) - (e.words.length:Int)))∧(InR (((((n - 1):Int) - (e.words.length:Int)):Int) - (e.ops.length:Int)))∧((Tr ((!(d==0))=true))∧((d==0)=false→(!(d==0))=true)∧((z0=true→(Q .ret (L2 [(6,.c (ci (-1)))] [])))∧(z0=false→(Z6e (y_2,80,(((((n - 1):Int) - (e.words.length:Int)):Int) - (e.ops.length:Int)),()))∧(((decide ((0:Int)≤y_3))=true→(Z6e (y_1,80,y_3,()))∧(A90 N [1,1,1,1,1] (Z6H e d n (ZA y_1 80 y_3)) Q))∧((decide ((0:Int)≤y_3))=false→A90 N [1,1,1,1,1] (Z6H e d n y_3) Q))))))):
  A90 N [] (L2 [(0,.agg (enc .edit e)),(1,.c (ci d)),(2,.c (ci n))] []) Q:=
 Eq.mpr (by kernel_rfl) (h _ (Zc _) _ (Zc _) _ rfl)
abbrev ZtQ(N:Nat)(e:Edit)(d n x2:Int)(Q:QT):Prop:=A90 N [1,1,1,1,1] (Z6H e d n x2) Q
theorem Zoj(N:Nat)(e:Edit)(d n x2:Int)(Q:QT)(h:(Zh (A90 N [1,1,1,1,1,0,1,0,0]) (Z6G e d n x2 0) (xB 0 (S90 N [1,1,1,1,1,1] Q)))):
  A90 N [1,1,1,1,1] (Z6H e d n x2) Q:=
 Eq.mpr (by kernel_rfl) h
theorem Zoi(N:Nat)(e:Edit)(d n x2_a x7_a:Int)(N1:NT)(Q:QT)(h:∀ y_1,y_1=(e.kids.getD x7_a.toNat (KidOf.mk 0 Edit.nil))→∀ y_2,y_2=(y_1.e)→let z0:=decide (x7_a < (e.kids.length:Int));let z1:=bif z0 then (decide ((0:Int)≤x2_a)) else false;(Tr (z0=true))∧(Tr (z0=true))∧((z1=true→((0:Int)≤x7_a∧x7_a < (e.kids.length:Int))∧(InR (d - 1))∧(Zac (y_2,(d - 1),x2_a,()))∧(ZeF (y_2,(d - 1),x2_a,()) < N)∧((InR (x7_a+1))∧(N1 (Z6G e d n (JP y_2 (d - 1) x2_a) (x7_a+1)))))∧(z1=false→(Zh (A90 N [1,1,1,1,1,1,0,1,0,0]) (Z4c e d n x2_a 0) (xB 2 (S90 N [1,1,1,1,1,1,1] Q)))))):
  A90 N [1,1,1,1,1,0,1,0,0] (Z6G e d n x2_a x7_a) (xT N1 (xB 0 (S90 N [1,1,1,1,1,1] Q))):=
 Eq.mpr (by kernel_rfl) (h _ rfl _ (Ze _))
theorem Zoh(N:Nat)(e:Edit)(d n x2_b x8_b:Int)(N2:NT)(Q:QT)(h:let z0:=decide (x8_b < (e.ops.length:Int));let z1:=bif z0 then (decide ((0:Int)≤x2_b)) else false;(Tr (z0=true))∧(Tr (z0=true))∧((z1=true→(Zh (A90 N [1,1,1,1,1,1,0,1,0,0,1,0,0,0,1,0,0]) (Z6F e d n x8_b x2_b 0) (xB 4 (S90 N [1,1,1,1,1,1,0,1,0,0,1,0,0,1] (xB 3 (S90 N [1,1,1,1,1,1,0,1,0,0,1,1] (xT N2 (xB 2 (S90 N [1,1,1,1,1,1,1] Q)))))))))∧(z1=false→(Q .ret (L2 [(6,.c (ci x2_b))] []))))):
  A90 N [1,1,1,1,1,1,0,1,0,0] (Z4c e d n x2_b x8_b) (xT N2 (xB 2 (S90 N [1,1,1,1,1,1,1] Q))):=
 Eq.mpr (by kernel_rfl) h
theorem Zog(N:Nat)(e:Edit)(d n x8_b x2_c x9_c:Int)(N3 N2:NT)(Q:QT)(h:∀ y_1,y_1=(e.ops.getD x8_b.toNat Op.nil)→∀ y_2,y_2=(y_1.e)→∀ y_3,y_3=(y_1.l.getD x9_c.toNat Tree.nil)→let z1:=decide ((0:Int)≤x2_c);let z0:=decide (x9_c < (y_1.l.length:Int));((0:Int)≤x8_b∧x8_b < (e.ops.length:Int))∧(Tr (z0=true))∧(Tr (z0=true))∧(((bif z0 then z1 else false)=true→((0:Int)≤x8_b∧x8_b < (e.ops.length:Int))∧((0:Int)≤x9_c∧x9_c < (y_1.l.length:Int))∧(Z6e (y_3,80,x2_c,()))∧((InR (x9_c+1))∧(N3 (Z6F e d n x8_b (ZA y_3 80 x2_c) (x9_c+1)))))∧((bif z0 then z1 else false)=false→((z1=true→((0:Int)≤x8_b∧x8_b < (e.ops.length:Int))∧(InR (d - 1))∧(Zac (y_2,(d - 1),x2_c,()))∧(ZeF (y_2,(d - 1),x2_c,()) < N)∧((InR (x8_b+1))∧(N2 (Z4c e d n (JP y_2 (d - 1) x2_c) (x8_b+1)))))∧(z1=false→(InR (x8_b+1))∧(N2 (Z4c e d n x2_c (x8_b+1)))))))):
  A90 N [1,1,1,1,1,1,0,1,0,0,1,0,0,0,1,0,0] (Z6F e d n x8_b x2_c x9_c) (xT N3 (xB 4 (S90 N [1,1,1,1,1,1,0,1,0,0,1,0,0,1] (xB 3 (S90 N [1,1,1,1,1,1,0,1,0,0,1,1] (xT N2 (xB 2 (S90 N [1,1,1,1,1,1,1] Q)))))))):=
 Eq.mpr (by kernel_rfl) (h _ rfl _ (Ze _) _ (Zc _))
def Zu3(N:Nat)(e:Edit)(d n:Int):Prop:=AW (Z0 (Zgn N)) Try.f90 ZpK [] (Zm (ZgT.can (e,d,n,())) []) (EQ Try.f90 (ZhE (e,d,n,())) [])
theorem Zsi(c78:CT 78 Z3A)(hb:∀ (N:Nat) (e:Edit) (d:Int) (n:Int) (_:Unit),Zac (e,d,n,())→ZeF (e,d,n,()) < N+1→Zu3 N e d n):CT 90 Z9v:=
 ZS (μ:=ZeF) (l:=[(78,Z3A)]) Zk rfl (⟨c78,trivial⟩) ZpK Try.func90 rfl rfl 3 (fun _=> rfl) (by decide) (fun N ⟨e,d,n,_⟩=> hb N e d n ())
def Zn1:List (FuncId × Fs U):=[(90,Z9v)]
def Zt1:Zi U:=lvl [([1],[1]),([2],[])]
abbrev A54(p:List Nat):=AW (Z0 Zn1) Try.f54 Zt1 p
theorem ZwI(e:Edit)(Q:QT)(h:let z0:=Edit.mk e.kind (Tree.mk e.old.kind e.old.words e.old.kids) (Tree.mk e.new.kind e.new.words e.new.kids) e.words e.kids e.list e.ops;((Zac (z0,80,3000,()))∧(Q .ret (L2 [(2,.c (.bool (decide ((0:Int)≤(JP z0 80 3000)))))] [])))):
  A54 [] (L2 [(0,.agg (enc .edit e))] []) Q:=
 Eq.mpr (by kernel_rfl) h
def Zus(e:Edit):Prop:=AW (Z0 Zn1) Try.f54 Zt1 [] (Zm (ZnO.can (e,())) []) (EQ Try.f54 (Zrf (e,())) [])
theorem ZsC(c90:CT 90 Z9v)(hb:∀ (e:Edit) (_:Unit),Zmd (e,())→Zus e):CT 54 Z9J:=
 Z3 (l:=[(90,Z9v)]) Zk rfl (⟨c90,trivial⟩) Zt1 Try.func54 rfl rfl 1 (fun _=> rfl) (by decide) (fun ⟨e,_⟩=> hb e ())
end
end Go.AM.Ytpjenobkibfpcaa
namespace Go.AM.Ytpjenobkibfpcaa
open Go.AM Go.Proofs
noncomputable section
def Zdr:ArgL (Edit × Int × Unit):=(.cons (aEl .edit) (.cons (Yt .i64) .nil))
def Z8r(a:Edit × Int × Unit):Prop:=(Zg a.1≤20000000000∧Y1 a.1)∧0≤a.2.1∧a.2.1≤1000
def ZcZ(a:Edit × Int × Unit):Nat:=2*Zg a.1
def ZhJ(a:Edit × Int × Unit):V U:= .c (.bool (Z4 a.1 a.2.1))
def Z9R:Fs U:=fs Zdr (fun a=> [Z8r a]) ZhJ
def Zdo:ArgL (Int × Op × Int × Unit):=(.cons (Yt .i64) (.cons (aEl .op) (.cons (Yt .i64) .nil)))
def ZbP(a:Int × Op × Int × Unit):Prop:=(ZX a.2.1≤20000000000∧Z00 a.2.1∧isI a.1)∧0≤a.2.2.1∧a.2.2.1≤1000
def Zk0(a:Int × Op × Int × Unit):Nat:=2*ZX a.2.1+1
def ZhG(a:Int × Op × Int × Unit):V U:= .c (.bool (Zf a.1 a.2.1 a.2.2.1))
def Zlp:Fs U:=fs Zdo (fun a=> [ZbP a]) ZhG
def ZgZ:ArgL (Edit × Unit):=(.cons (aEl .edit) .nil)
def Zad(a:Edit × Unit):Prop:=(Zg a.1≤20000000000∧Y1 a.1)∧∃ d,Z4 a.1 d=true
def ZeI(a:Edit × Unit):Nat:=Zg a.1
def ZlE(a:Edit × Unit):V U:= .c (.bool (JO a.1))
def Z9I:Fs U:=fs ZgZ (fun a=> [Zad a]) ZlE
def ZnX:ArgL (Edit × Unit):=(.cons (aEl .edit) .nil)
def ZhY(a:Edit × Unit):Prop:=Z26 a.1∧Y1 a.1
def Zrj(a:Edit × Unit):V U:= .c (.bool (JY a.1))
def Z9U:Fs U:=fs ZnX (fun a=> [ZhY a]) Zrj
def ZgI(N:Nat):List (FuncId × Fs U):=(23,fs Zdr (fun a=> [Z8r a,ZcZ a < N]) ZhJ) ::(64,fs Zdo (fun a=> [ZbP a,Zk0 a < N]) ZhG) ::[(62,Z2S),(63,Z7n),(104,Z4w),(37,Z2T),(65,Z2R)]
def Zq5:Zi U:=lvl [([1,2],[2]),([1,2,24],[2]),([4],[]),([1,2,69],[2]),([4],[]),([1,2,72],[2]),([4],[]),([1,2,5],[2]),([1,2,5,6],[2]),([1,2,5,6,97],[2]),([1,2,5,6],[2]),([1,2,5,6,7],[2,7]),([1,2,6,7,134],[2,7]),([4],[]),([1,2,5,6],[2]),([1,2,5],[2]),([1,2,5,8],[2]),([1,2,5,8,141],[2]),([1,2,5,8],[2]),([1,2,5,8,9],[2,9]),([1,2,8,9,171],[2,9]),([4],[]),([1,2,5,8],[2]),([1,2,186],[2]),([4],[]),([1,2,10],[2]),([1,2,10,191],[2]),([1,2,10],[2]),([1,2,10,204],[2]),([4],[]),([11,12],[]),([4],[])]
def Z74(e:Edit)(d x5 x6:Int):LSt U:=(L2 [(1,.c (ci d)),(2,.ptr (.loc 2) 0),(5,.c (ci x5)),(6,.c (ci x6))] [(.loc 2,(enc .edit e))])
def Z73(e:Edit)(d x5_a x8_a:Int):LSt U:=(L2 [(1,.c (ci d)),(2,.ptr (.loc 2) 0),(5,.c (ci x5_a)),(8,.c (ci x8_a))] [(.loc 2,(enc .edit e))])
def Z72(e:Edit)(d x10_b:Int):LSt U:=(L2 [(1,.c (ci d)),(2,.ptr (.loc 2) 0),(10,.c (ci x10_b))] [(.loc 2,(enc .edit e))])
abbrev A23(N:Nat)(p:List Nat):=AW (Z0 (ZgI N)) Try.f23 Zq5 p
abbrev S23(N:Nat)(p:List Nat):=SW (Z0 (ZgI N)) Try.f23 Zq5 p
theorem ZwU(N:Nat)(e:Edit)(d:Int)(Q:QT)(h:∀ y_1,y_1=(e.new)→∀ y_2,y_2=(e.old)→let z11:=Q .ret (L2 [(4,.c (.bool false))] []);let z8:=(e.kind !=1) && (ZM y_2);let z3:=bif (d==0) then true else (decide (e.kind < 0));let z10:=bif z3 then true else (decide ((3:Int) < e.kind));let z2:=bif (Z9 y_2 64) then (Z9 y_1 64) else false;let z6:=bif z2 then (e.old.kind !=10) else false;let z1:=bif (e.kind !=1) then (!(bif (ZM y_2) then (ZM y_1) else false)) else false;let z5:=(!z1) && (e.kind !=2);let z0:=bif z1 then true else (bif (e.kind !=2) then (decide ((0:Int) < (((e.words.length:Int):Int)+(e.kids.length:Int)))) else false);let z7:=bif z0 then true else (bif (e.kind !=3) then (bif (e.list !=0) then true else (decide ((0:Int) < (e.ops.length:Int)))) else false);let z4:=(!z0) && (e.kind !=3);let z9:=z4 && (!(e.list !=0));((Tr ((!(d==0))=true))∧(Tr ((!(d==0))=true))∧((d==0)=false→(!(d==0))=true)∧(Tr ((!z3)=true))∧(Tr ((!z3)=true))∧(z3=false→(!z3)=true)∧((z10=true→z11)∧(z10=false→(Tr ((e.kind !=1)=true))∧(Tr ((e.kind !=1)=true))∧((e.kind !=1)=true→Z3T (y_2,()))∧(Tr ((e.kind !=1)=true))∧(Tr (z8=true))∧(Tr (z8=true))∧(z8=true→Z3T (y_1,()))∧((e.kind !=1)=true→(True→(e.kind !=1)=true))∧((e.kind !=1)=true→((ZM y_2)=true→z8=true))∧(Tr ((e.kind !=1)=true))∧(Tr ((e.kind !=1)=true))∧(Tr ((!z1)=true))∧(Tr ((!z1)=true))∧(Tr ((!z1)=true))∧(Tr (z5=true))∧(Tr (z5=true))∧(Tr (z5=true))∧(Tr (z5=true))∧(Tr (z5=true))∧(Tr (z5=true))∧(z5=true→InR (((e.words.length:Int):Int)+(e.kids.length:Int)))∧(Tr (z5=true))∧((!z1)=true→(True→(!z1)=true))∧((!z1)=true→((e.kind !=2)=true→z5=true))∧(z1=false→(!z1)=true)∧(Tr ((!z0)=true))∧(Tr ((!z0)=true))∧(Tr ((!z0)=true))∧(Tr (z4=true))∧(Tr (z4=true))∧(Tr (z4=true))∧(Tr (z9=true))∧(Tr (z9=true))∧(Tr (z9=true))∧(z4=true→(True→z4=true))∧(z4=true→((e.list !=0)=false→z9=true))∧((!z0)=true→(True→(!z0)=true))∧((!z0)=true→((e.kind !=3)=true→z4=true))∧(z0=false→(!z0)=true)∧((z7=true→z11)∧(z7=false→(((e.kind==1)=true→(Z3n (y_2,64,()))∧(Tr ((Z9 y_2 64)=true))∧(Tr ((Z9 y_2 64)=true))∧((Z9 y_2 64)=true→Z3n (y_1,64,()))∧(Tr ((Z9 y_2 64)=true))∧(Tr (z2=true))∧(Tr (z2=true))∧(Tr (z2=true))∧(Tr (z2=true))∧(Tr (z6=true))∧(Tr (z6=true))∧(Tr (z6=true))∧(Tr (z6=true))∧(Q .ret (L2 [(4,.c (.bool (bif z6 then (e.new.kind !=10) else false)))] [])))∧((e.kind==1)=false→(Zh (A23 N [1,1,1,1,1,0,1,0,0]) (Z74 e d (-1) 0) (xB 0 (S23 N [1,1,1,1,1,1] Q))))))))))):
  A23 N [] (L2 [(0,.agg (enc .edit e)),(1,.c (ci d))] []) Q:=
 Eq.mpr (by kernel_rfl) (h _ (Zc _) _ (Zc _))
theorem ZoR(N:Nat)(e:Edit)(d x5 x6:Int)(N0:NT)(Q:QT)(h:∀ y_1,y_1=(e.words.getD x6.toNat (WEdit.mk 0 0 0 0))→let z5:=decide (x6 < (e.words.length:Int));let z3:=decide (y_1.at_≤x5);let z2:=bif z3 then true else (decide ((65534:Int) < y_1.at_));let z0:=bif z2 then true else (y_1.mask==0);let z1:=bif z0 then true else (!(Z0g y_1.old y_1.mask));let z4:=bif z1 then true else (!(Z0g y_1.new y_1.mask));((z5=true→((0:Int)≤x6∧x6 < (e.words.length:Int))∧((Tr ((!z3)=true))∧(Tr ((!z3)=true))∧(z3=false→(!z3)=true)∧(Tr ((!z2)=true))∧(Tr ((!z2)=true))∧(z2=false→(!z2)=true)∧(Tr ((!z0)=true))∧(Tr ((!z0)=true))∧(Tr ((!z0)=true))∧(Tr ((!z0)=true))∧((!z0)=true→ZhS (y_1.old,y_1.mask,()))∧(Tr ((!z0)=true))∧(z0=false→(!z0)=true)∧(Tr ((!z1)=true))∧(Tr ((!z1)=true))∧(Tr ((!z1)=true))∧(Tr ((!z1)=true))∧((!z1)=true→ZhS (y_1.new,y_1.mask,()))∧(Tr ((!z1)=true))∧(z1=false→(!z1)=true)∧((z4=true→(Q .ret (L2 [(4,.c (.bool false))] [])))∧(z4=false→((InR (x6+1))∧(N0 (Z74 e d y_1.at_ (x6+1))))))))∧(z5=false→(Zh (A23 N [1,1,1,1,1,1,1,0,1,0,0]) (Z73 e d (-1) 0) (xB 2 (S23 N [1,1,1,1,1,1,1,1] Q)))))):
  A23 N [1,1,1,1,1,0,1,0,0] (Z74 e d x5 x6) (xT N0 (xB 0 (S23 N [1,1,1,1,1,1] Q))):=
 Eq.mpr (by kernel_rfl) (h _ rfl)
theorem ZoQ(N:Nat)(e:Edit)(d x5_a x8_a:Int)(N1:NT)(Q:QT)(h:∀ y_1,y_1=(e.kids.getD x8_a.toNat (KidOf.mk 0 Edit.nil))→∀ y_2,y_2=(y_1.e)→let z8:=decide (x8_a < (e.kids.length:Int));let z7:=decide (e.list < 2);let z6:=Q .ret (L2 [(4,.c (.bool false))] []);let z4:=(e.kind==3) && (!z7);let z3:=decide (y_1.at_≤x5_a);let z2:=bif (e.kind==3) then (bif z7 then true else (decide ((9:Int) < e.list))) else false;let z1:=bif z3 then true else (decide ((65534:Int) < y_1.at_));let z0:=bif z1 then true else (y_1.e.kind==0);let z5:=bif z0 then true else (!(Z4 y_2 (d - 1)));((z8=true→((0:Int)≤x8_a∧x8_a < (e.kids.length:Int))∧((Tr ((!z3)=true))∧(Tr ((!z3)=true))∧(z3=false→(!z3)=true)∧(Tr ((!z1)=true))∧(Tr ((!z1)=true))∧(Tr ((!z1)=true))∧(z1=false→(!z1)=true)∧(Tr ((!z0)=true))∧(Tr ((!z0)=true))∧((!z0)=true→InR (d - 1))∧(Tr ((!z0)=true))∧(Tr ((!z0)=true))∧((!z0)=true→Z8r (y_2,(d - 1),()))∧((!z0)=true→ZcZ (y_2,(d - 1),()) < N)∧(Tr ((!z0)=true))∧(z0=false→(!z0)=true)∧((z5=true→z6)∧(z5=false→((InR (x8_a+1))∧(N1 (Z73 e d y_1.at_ (x8_a+1))))))))∧(z8=false→(Tr ((e.kind==3)=true))∧(Tr ((e.kind==3)=true))∧(Tr ((e.kind==3)=true))∧(Tr (z4=true))∧(Tr (z4=true))∧((e.kind==3)=true→(True→(e.kind==3)=true))∧((e.kind==3)=true→(z7=false→z4=true))∧(Tr ((e.kind==3)=true))∧((z2=true→z6)∧(z2=false→(Zh (A23 N [1,1,1,1,1,1,1,1,1,0,1,0,0]) (Z72 e d 0) (xB 4 (S23 N [1,1,1,1,1,1,1,1,1,1] Q)))))))):
  A23 N [1,1,1,1,1,1,1,0,1,0,0] (Z73 e d x5_a x8_a) (xT N1 (xB 2 (S23 N [1,1,1,1,1,1,1,1] Q))):=
 Eq.mpr (by kernel_rfl) (h _ rfl _ (Ze _))
theorem ZoP(N:Nat)(e:Edit)(d x10_b:Int)(N2:NT)(Q:QT)(h:∀ y_1,y_1=e→∀ y_2,y_2=(e.ops.getD x10_b.toNat Op.nil)→∀ y_3,y_3=y_2→let z2:= !(Zf e.list y_3 (d - 1));let z1:=decide (x10_b < (e.ops.length:Int));let z0:=decide (((JX y_1.ops 0):Int) < 1048576);((z1=true→((0:Int)≤x10_b∧x10_b < (e.ops.length:Int))∧(InR (d - 1))∧(ZbP (e.list,y_3,(d - 1),()))∧(Zk0 (e.list,y_3,(d - 1),()) < N)∧((z2=true→(Q .ret (L2 [(4,.c (.bool false))] [])))∧(z2=false→(InR (x10_b+1))∧(N2 (Z72 e d (x10_b+1))))))∧(z1=false→(Zel (y_1,()))∧((Tr (z0=true))∧(Tr (z0=true))∧(Q .ret (L2 [(4,.c (.bool (bif z0 then (decide (((JW y_1.ops 0):Int) < 1048576)) else false)))] [])))))):
  A23 N [1,1,1,1,1,1,1,1,1,0,1,0,0] (Z72 e d x10_b) (xT N2 (xB 4 (S23 N [1,1,1,1,1,1,1,1,1,1] Q))):=
 Eq.mpr (by kernel_rfl) (h _ (Ze _) _ rfl _ (Z9b _))
def ZuE(N:Nat)(e:Edit)(d:Int):Prop:=AW (Z0 (ZgI N)) Try.f23 Zq5 [] (Zm (Zdr.can (e,d,())) []) (EQ Try.f23 (ZhJ (e,d,())) [])
abbrev Zwc:Prop:=∀ (N:Nat) (e:Edit) (d:Int) (_:Unit),Z8r (e,d,())→ZcZ (e,d,()) < N+1→ZuE N e d
def Zgz(N:Nat):List (FuncId × Fs U):=(23,fs Zdr (fun a=> [Z8r a,ZcZ a < N]) ZhJ) ::(64,fs Zdo (fun a=> [ZbP a,Zk0 a < N]) ZhG) ::[(62,Z2S),(63,Z7n),(104,Z4w),(37,Z2T),(65,Z2R)]
def ZpW:Zi U:=lvl [([0,2,4],[4]),([0,2,4,10],[4]),([6],[]),([0,2,4,42],[4]),([6],[]),([0,2,4,45],[4]),([0,4,7],[4]),([0,4,7,50],[4]),([0,4,7],[4]),([0,4,7,62],[4]),([6],[]),([6],[]),([0,4,92],[4]),([6],[]),([6],[])]
def Z6V(list:Int)(o:Op)(d x7:Int):LSt U:=(L2 [(0,.c (ci list)),(4,.ptr (.loc 4) 0),(7,.c (ci x7))] [(.loc 4,(enc .op o))])
abbrev A64(N:Nat)(p:List Nat):=AW (Z0 (Zgz N)) Try.f64 ZpW p
abbrev S64(N:Nat)(p:List Nat):=SW (Z0 (Zgz N)) Try.f64 ZpW p
theorem ZwB(N:Nat)(list:Int)(o:Op)(d:Int)(Q:QT)(h:∀ y_1,y_1=(o.e)→let z12:=Q .ret (L2 [(6,.c (.bool false))] []);let z9:=decide ((1:Int)≤o.n);let z5:=bif (o.n !=0) then true else (decide (o.kind < 0));let z10:=bif z5 then true else (decide ((3:Int) < o.kind));let z4:=decide ((0:Int) < (o.l.length:Int));let z7:=bif z4 then true else (o.e.kind==0);let z3:=bif (o.e.kind==1) then (o.e.old.kind==1) else false;let z2:=bif z9 then (decide (o.n≤1048576)) else false;let z6:=bif z2 then (((o.l.length:Int):Int)==0) else false;let z1:=bif (list==8) then true else (o.e.kind==2);let z8:=(!z1) && (o.e.kind==1);let z0:=bif z7 then true else (decide (list≤7));let z11:=bif z0 then true else (!(Z4 y_1 d));(((o.kind==0)=true→(Tr (z9=true))∧(Tr (z9=true))∧(Tr (z9=true))∧(Tr (z2=true))∧(Tr (z2=true))∧(Tr (z2=true))∧(Tr (z2=true))∧(Tr (z6=true))∧(Tr (z6=true))∧(z6=true→Z5y (y_1,()))∧(Tr (z6=true))∧(Q .ret (L2 [(6,.c (.bool (bif z6 then (JZ y_1) else false)))] [])))∧((o.kind==0)=false→(Tr ((!(o.n !=0))=true))∧(Tr ((!(o.n !=0))=true))∧((o.n !=0)=false→(!(o.n !=0))=true)∧(Tr ((!z5)=true))∧(Tr ((!z5)=true))∧(z5=false→(!z5)=true)∧((z10=true→z12)∧(z10=false→(((decide (o.kind < 3))=true→(Zh (A64 N [1,1,1,0,1,0,0,1,0,0]) (Z6V list o d 0) (xB 0 (S64 N [1,1,1,0,1,0,1] (S64 N [1,1,1,1] Q)))))∧((decide (o.kind < 3))=false→(Tr ((!z4)=true))∧(Tr ((!z4)=true))∧(Tr ((!z4)=true))∧(z4=false→(!z4)=true)∧(Tr ((!z7)=true))∧(z7=false→(!z7)=true)∧(Tr ((!z0)=true))∧(Tr ((!z0)=true))∧(Tr ((!z0)=true))∧((!z0)=true→Z8r (y_1,d,()))∧((!z0)=true→ZcZ (y_1,d,()) < N)∧(Tr ((!z0)=true))∧(z0=false→(!z0)=true)∧((z11=true→z12)∧(z11=false→(Tr ((!(list==8))=true))∧(Tr ((!(list==8))=true))∧(Tr ((!(list==8))=true))∧((list==8)=false→(!(list==8))=true)∧(Tr ((!z1)=true))∧(Tr ((!z1)=true))∧(Tr ((!z1)=true))∧(Tr ((!z1)=true))∧(Tr (z8=true))∧(Tr (z8=true))∧(Tr (z8=true))∧(Tr (z8=true))∧((!z1)=true→(True→(!z1)=true))∧((!z1)=true→((o.e.kind==1)=true→z8=true))∧(Tr ((!z1)=true))∧(Tr (((!z1) && z3)=true))∧(Tr (((!z1) && z3)=true))∧(Tr (((!z1) && z3)=true))∧(Tr (((!z1) && z3)=true))∧((!z1)=true→(True→(!z1)=true))∧((!z1)=true→(z3=true→((!z1) && z3)=true))∧(z1=false→(!z1)=true)∧(Q .ret (L2 [(6,.c (.bool (bif z1 then true else (bif z3 then (o.e.new.kind==1) else false))))] []))))))))))):
  A64 N [] (L2 [(0,.c (ci list)),(1,.agg (enc .op o)),(2,.c (ci d))] []) Q:=
 Eq.mpr (by kernel_rfl) (h _ (Ze _))
theorem ZoD(N:Nat)(list:Int)(o:Op)(d x7:Int)(N0:NT)(Q:QT)(h:let z3:=decide (x7 < (o.l.length:Int));let z2:=Tree.mk list [] (List.drop x7.toNat (List.take (Int.toNat (x7+1)) o.l));let z1:=Edit.mk o.e.kind (Tree.mk o.e.old.kind o.e.old.words o.e.old.kids) (Tree.mk o.e.new.kind o.e.new.words o.e.new.kids) o.e.words o.e.kids o.e.list o.e.ops;let z0:=decide ((0:Int) < (o.l.length:Int));((z3=true→(InR (x7+1))∧((0:Int)≤x7∧x7≤(x7+1)∧(x7+1)≤(o.l.length:Int))∧(Z3n (z2,64,()))∧(((!(Z9 z2 64))=true→(Q .ret (L2 [(6,.c (.bool false))] [])))∧((!(Z9 z2 64))=false→(InR (x7+1))∧(N0 (Z6V list o d (x7+1))))))∧(z3=false→(Tr (z0=true))∧(Tr (z0=true))∧(z0=true→Z5y (z1,()))∧(Tr (z0=true))∧(Q .ret (L2 [(6,.c (.bool (bif z0 then (JZ z1) else false)))] []))))):
  A64 N [1,1,1,0,1,0,0,1,0,0] (Z6V list o d x7) (xT N0 (xB 0 (S64 N [1,1,1,0,1,0,1] (S64 N [1,1,1,1] Q)))):=
 Eq.mpr (by kernel_rfl) h
def Zul(N:Nat)(list:Int)(o:Op)(d:Int):Prop:=AW (Z0 (Zgz N)) Try.f64 ZpW [] (Zm (Zdo.can (list,o,d,())) []) (EQ Try.f64 (ZhG (list,o,d,())) [])
abbrev Zw9:Prop:=∀ (N:Nat) (list:Int) (o:Op) (d:Int) (_:Unit),ZbP (list,o,d,())→Zk0 (list,o,d,()) < N+1→Zul N list o d
def ZgB(N:Nat):List (FuncId × Fs U):=(55,fs ZgZ (fun a=> [Zad a,ZeI a < N]) ZlE) ::[(65,Z2R)]
def ZpY:Zi U:=lvl [([1],[1]),([1,3,4],[1]),([1,17],[1]),([2],[]),([1,5],[1]),([1,5,22],[1]),([1,5],[1]),([1,5,32],[1]),([2],[]),([1,6],[1]),([1,6,37],[1]),([1,6],[1]),([1,6,47],[1]),([2],[]),([2],[])]
def Z6Y(e:Edit)(x5:Int):LSt U:=(L2 [(1,.ptr (.loc 1) 0),(5,.c (ci x5))] [(.loc 1,(enc .edit e))])
def Z6X(e:Edit)(x6_a:Int):LSt U:=(L2 [(1,.ptr (.loc 1) 0),(6,.c (ci x6_a))] [(.loc 1,(enc .edit e))])
abbrev A55(N:Nat)(p:List Nat):=AW (Z0 (ZgB N)) Try.f55 ZpY p
abbrev S55(N:Nat)(p:List Nat):=SW (Z0 (ZgB N)) Try.f55 ZpY p
theorem ZwH(N:Nat)(e:Edit)(Q:QT)(h:∀ y_1,y_1=e→let z0:=decide ((2000:Int) < (JX y_1.ops 0));let z1:=bif z0 then true else (decide ((2000:Int) < (JW y_1.ops 0)));((Zel (y_1,()))∧((Tr ((!z0)=true))∧(z0=false→(!z0)=true)∧((z1=true→(Q .ret (L2 [(2,.c (.bool false))] [])))∧(z1=false→(Zh (A55 N [1,1,1,0,1,0,0]) (Z6Y e 0) (xB 0 (S55 N [1,1,1,1] Q)))))))):
  A55 N [] (L2 [(0,.agg (enc .edit e))] []) Q:=
 Eq.mpr (by kernel_rfl) (h _ (Ze _))
theorem ZoH(N:Nat)(e:Edit)(x5:Int)(N0:NT)(Q:QT)(h:∀ y_1,y_1=(e.kids.getD x5.toNat (KidOf.mk 0 Edit.nil))→∀ y_2,y_2=(y_1.e)→let z0:=decide (x5 < (e.kids.length:Int));((z0=true→((0:Int)≤x5∧x5 < (e.kids.length:Int))∧(Zad (y_2,()))∧(ZeI (y_2,()) < N)∧(((!(JO y_2))=true→(Q .ret (L2 [(2,.c (.bool false))] [])))∧((!(JO y_2))=false→(InR (x5+1))∧(N0 (Z6Y e (x5+1))))))∧(z0=false→(Zh (A55 N [1,1,1,1,0,1,0,0]) (Z6X e 0) (xB 2 (S55 N [1,1,1,1,1] Q)))))):
  A55 N [1,1,1,0,1,0,0] (Z6Y e x5) (xT N0 (xB 0 (S55 N [1,1,1,1] Q))):=
 Eq.mpr (by kernel_rfl) (h _ rfl _ (Ze _))
theorem ZoG(N:Nat)(e:Edit)(x6_a:Int)(N1:NT)(Q:QT)(h:∀ y_1,y_1=(e.ops.getD x6_a.toNat Op.nil)→∀ y_2,y_2=(y_1.e)→let z0:=decide (x6_a < (e.ops.length:Int));((z0=true→((0:Int)≤x6_a∧x6_a < (e.ops.length:Int))∧(Zad (y_2,()))∧(ZeI (y_2,()) < N)∧(((!(JO y_2))=true→(Q .ret (L2 [(2,.c (.bool false))] [])))∧((!(JO y_2))=false→(InR (x6_a+1))∧(N1 (Z6X e (x6_a+1))))))∧(z0=false→(Q .ret (L2 [(2,.c (.bool true))] []))))):
  A55 N [1,1,1,1,0,1,0,0] (Z6X e x6_a) (xT N1 (xB 2 (S55 N [1,1,1,1,1] Q))):=
 Eq.mpr (by kernel_rfl) (h _ rfl _ (Ze _))
def Zur(N:Nat)(e:Edit):Prop:=AW (Z0 (ZgB N)) Try.f55 ZpY [] (Zm (ZgZ.can (e,())) []) (EQ Try.f55 (ZlE (e,())) [])
theorem ZsB(c65:CT 65 Z2R)(hb:∀ (N:Nat) (e:Edit) (_:Unit),Zad (e,())→ZeI (e,()) < N+1→Zur N e):CT 55 Z9I:=
 ZS (μ:=ZeI) (l:=[(65,Z2R)]) Zk rfl (⟨c65,trivial⟩) ZpY Try.func55 rfl rfl 1 (fun _=> rfl) (by decide) (fun N ⟨e,_⟩=> hb N e ())
def Zn7:List (FuncId × Fs U):=[(54,Z9J),(23,Z9R),(55,Z9I)]
def Zt7:Zi U:=lvl [([1],[1]),([2],[])]
abbrev A15(p:List Nat):=AW (Z0 Zn7) Try.f15 Zt7 p
theorem ZwY(e:Edit)(Q:QT)(h:∀ y_1,y_1=e→let z1:=decide (0≤JP y_1 80 3000);let z0:=bif z1 then (Z4 y_1 64) else false;((Zmd (y_1,()))∧(Tr (z1=true))∧(z1=true→Z8r (y_1,64,()))∧(Tr (z1=true))∧(Tr (z0=true))∧(z0=true→Zad (y_1,()))∧(Tr (z0=true))∧(Q .ret (L2 [(2,.c (.bool (bif z0 then (JO y_1) else false)))] [])))):
  A15 [] (L2 [(0,.agg (enc .edit e))] []) Q:=
 Eq.mpr (by kernel_rfl) (h _ (Ze _))
def ZuI(e:Edit):Prop:=AW (Z0 Zn7) Try.f15 Zt7 [] (Zm (ZnX.can (e,())) []) (EQ Try.f15 (Zrj (e,())) [])
theorem ZsQ(c54:CT 54 Z9J)(c23:CT 23 Z9R)(c55:CT 55 Z9I)(hb:∀ (e:Edit) (_:Unit),ZhY (e,())→ZuI e):CT 15 Z9U:=
 Z3 (l:=[(54,Z9J),(23,Z9R),(55,Z9I)]) Zk rfl (⟨c54,c23,c55,trivial⟩) Zt7 Try.func15 rfl rfl 1 (fun _=> rfl) (by decide) (fun ⟨e,_⟩=> hb e ())
theorem Zk8(c62:CT 62 Z2S)(c63:CT 63 Z7n)(ZtG:CT 104 Z4w)(c37:CT 37 Z2T)(c65:CT 65 Z2R)(ha:Zwc)(hb:Zw9):CT 23 Z9R∧CT 64 Zlp:=
 Z2e (μA:=ZcZ) (μB:=Zk0) (l:=[(62,Z2S),(63,Z7n),(104,Z4w),(37,Z2T),(65,Z2R)]) Zk rfl (⟨c62,c63,ZtG,c37,c65,trivial⟩) Zq5 ZpW Try.func23 Try.func64 rfl rfl rfl rfl 2 3 (fun _=> rfl) (fun _=> rfl) (by decide) (by decide) (fun N ⟨e,d,_⟩=> ha N e d ()) (fun N ⟨list,o,d,_⟩=> hb N list o d ())
end
end Go.AM.Ytpjenobkibfpcaa
namespace Go.AM.Ytpjenobkibfpcaa
open Go.AM Go.Proofs
theorem Z3s{n:Int}(h0:0≤n)(h1:n < 18446744073709551616):IntKind.wrap .u64 n=n:=by
 simp [IntKind.wrap,IntKind.signed,IntKind.bits];omega
theorem Zhg{n:Int}(h0:0≤n)(h1:n < 256):IntKind.wrap .u8 n=n:=by
 simp [IntKind.wrap,IntKind.signed,IntKind.bits];omega
theorem Zjc{i:Int}{j:Nat}{v:Int}{F G:Nat→Int}(hi:0≤i)(hv:v=F i.toNat):Z0B i j v (if (j:Int) < i then F j else G j)=if (j:Int) < i+1 then F j else G j:=by
 unfold Z0B
 by_cases h:i=j
 ·subst h
  rw [if_pos rfl,if_pos (by omega),hv]
  simp
 ·rw [if_neg h]
  by_cases h2:(j:Int) < i
  ·rw [if_pos h2,if_pos (by omega)]
  ·rw [if_neg h2,if_neg (by omega)]
theorem Zqd{i:Int}{j:Nat}{F G:Nat→Int}(h:F i.toNat=G i.toNat)(hi:0≤i):(if (j:Int) < i then F j else G j)=if (j:Int) < i+1 then F j else G j:=by
 by_cases h2:(j:Int) < i
 ·rw [if_pos h2,if_pos (by omega)]
 ·by_cases h3:(j:Int)=i
  ·subst h3
   rw [if_neg h2,if_pos (by omega)]
   simpa using h.symm
  ·rw [if_neg h2,if_neg (by omega)]
theorem Z0Z(w:Int)(i:Nat):0≤Zn w i∧Zn w i < 256:=by
 unfold Zn
 omega
theorem Z4m{w:Int}(h:0≤w)(i:Nat):0≤w / 256 ^ i:=Int.ediv_nonneg h (Int.le_of_lt (Int.pow_pos (by omega)))
theorem Zb4{w:Int}(h:0≤w)(i:Nat):w / 256 ^ i≤w:=Int.ediv_le_self _ h
theorem Zdg(w:Int)(i:Nat):w / 256 ^ i / 256=w / 256 ^ (i+1):=by
 rw [Int.ediv_ediv_of_nonneg (Int.le_of_lt (Int.pow_pos (by omega))),Int.pow_succ]
theorem c67:Contract Try.prog cfg 67 Z9F:=by
 refine Zsu ?_
 intro w _ hp
 simp only [Zek] at hp
 refine Zwy _ _ ?_;(try simp only [vcT,forall_eq])
 refine Za (ι:=Int) (fun i=> Z4d w (w / 256 ^ i.toNat) i (if ((0:Nat):Int) < i then Zn w 0 else 0) (if ((1:Nat):Int) < i then Zn w 1 else 0) (if ((2:Nat):Int) < i then Zn w 2 else 0) (if ((3:Nat):Int) < i then Zn w 3 else 0)
  (if ((4:Nat):Int) < i then Zn w 4 else 0) (if ((5:Nat):Int) < i then Zn w 5 else 0) (if ((6:Nat):Int) < i then Zn w 6 else 0) (if ((7:Nat):Int) < i then Zn w 7 else 0)) (fun i=> 0≤i∧i≤8) (fun i=> (8 - i).toNat) 0 ?_ ⟨by omega,by omega⟩ ?_
 ·simp [Z4d]
 ·rintro i ⟨h1,h2⟩
  refine Zox _ _ _ _ _ _ _ _ _ _ _ _ _ ?_;(try simp only [vcT,forall_eq])
  (simp only [vcS]);(try simp only [vcT])
  refine ⟨fun hc=> ⟨by omega,⟨h1,by omega⟩,by omega,by unfold InR;omega,i+1,?_,⟨by omega,by omega⟩,by omega⟩,fun hc=> ?_⟩
  ·have hd:=Z4m hp.1 i.toNat
   have hl:=Zb4 hp.1 i.toNat
   have e1:IntKind.wrap .u64 (Int.tdiv (w / 256 ^ i.toNat) 256)=w / 256 ^ (i+1).toNat:=by
    rw [Int.tdiv_eq_ediv_of_nonneg hd,Zdg,show i.toNat+1=(i+1).toNat by omega]
    exact Z3s (Z4m hp.1 _) (Int.lt_of_le_of_lt (Zb4 hp.1 _) hp.2)
   have e2:IntKind.wrap .u8 (Int.tmod (w / 256 ^ i.toNat) 256)=Zn w i.toNat:=by
    rw [Int.tmod_eq_emod_of_nonneg hd]
    exact Zhg (Z0Z w _).1 (Z0Z w _).2
   rw [e1]
   have st:∀ j:Nat,Z0B i j (IntKind.wrap .u8 (Int.tmod (w / 256 ^ i.toNat) 256)) (if (j:Int) < i then Zn w j else 0)=if (j:Int) < i+1 then Zn w j else 0:=fun j=> Zjc (F:=Zn w) (G:=fun _=> 0) h1 e2
   rw [st 0,st 1,st 2,st 3,st 4,st 5,st 6,st 7]
  ·have:i=8:=by omega
   subst this
   simp only [ZlC]
   exact ⟨⟨rfl,⟨⟨rfl,rfl⟩,⟨rfl,rfl⟩,⟨rfl,rfl⟩,⟨rfl,rfl⟩,⟨rfl,rfl⟩,⟨rfl,rfl⟩,⟨rfl,rfl⟩,⟨rfl,rfl⟩,trivial⟩,trivial⟩,trivial⟩
theorem c68:Contract Try.prog cfg 68 Z9E:=by
 refine Zst ?_
 intro m i _ hp
 simp only [ZhR] at hp
 refine Zwx _ _ _ ?_;(try simp only [vcT,forall_eq])
 refine Za (ι:=Int) (fun k=> Z6Q m i (m / 2 ^ k.toNat) k) (fun k=> 0≤k∧k≤i) (fun k=> (i - k).toNat) 0 ?_ ⟨by omega,by omega⟩ ?_
 ·simp
 ·rintro k ⟨h1,h2⟩
  refine Zow _ _ _ _ _ _ ?_;(try simp only [vcT,forall_eq])
  have hd:0≤m / 2 ^ k.toNat:=Int.ediv_nonneg hp.1.1 (Int.le_of_lt (Int.pow_pos (by omega)))
  have hl:m / 2 ^ k.toNat≤m:=Int.ediv_le_self _ hp.1.1
  (simp only [vcS])
  refine ⟨fun hc=> ⟨by omega,by unfold InR;omega,k+1,?_,⟨by omega,by omega⟩,by omega⟩,fun hc=> ⟨by omega,Z2 rfl ?_⟩⟩
  ·have e:IntKind.wrap .u8 (Int.tdiv (m / 2 ^ k.toNat) 2)=m / 2 ^ (k+1).toNat:=by
    rw [Int.tdiv_eq_ediv_of_nonneg hd,Int.ediv_ediv_of_nonneg (Int.le_of_lt (Int.pow_pos (by omega))),show (2:Int) ^ k.toNat*2=2 ^ (k+1).toNat by rw [←Int.pow_succ];congr 1;omega]
    refine Zhg (Int.ediv_nonneg hp.1.1 (Int.le_of_lt (Int.pow_pos (by omega)))) (Int.lt_of_le_of_lt (Int.ediv_le_self _ hp.1.1) hp.1.2)
   rw [e]
  ·have:k=i:=by omega
   subst this
   rw [Int.tmod_eq_emod_of_nonneg hd]
   try rfl
def Z8X(f:Nat→Int):Nat→Int
 | 0=> 0
 | k+1=> f (7 - k)+256*Z8X f k
theorem Z9s{f:Nat→Int}(h:∀ i,0≤f i∧f i < 256):∀ k,0≤Z8X f k∧Z8X f k < 256 ^ k
 | 0=> by simp [Z8X]
 | k+1=> by
  have:=Z9s h k
  have h2:=h (7 - k)
  simp only [Z8X,Int.pow_succ]
  omega
theorem ZrS(f:Nat→Int):Z8X f 8=of8 f:=by simp [Z8X,of8]
theorem c69:Contract Try.prog cfg 69 Z9D:=by
 refine Zss ?_
 intro b z _ hp
 obtain ⟨rfl,hl,hb⟩:=hp
 dsimp only at hl hb
 refine Zww _ _ _ ?_;(try simp only [vcT,forall_eq])
 have hf:∀ i,0≤b.getD i 0∧b.getD i 0 < 256:=by
  intro i
  by_cases hi:i < b.length
  ·have:b.getD i 0∈b:=by
    simp only [List.getD,List.getElem?_eq_getElem hi,Option.getD_some]
    exact List.getElem_mem hi
   exact hb _ this
  ·rw [List.getD,List.getElem?_eq_none (by omega)];simp
 refine Za (ι:=Int) (fun i=> Z6P b 0 (Z8X (fun i=> b.getD i 0) (7 - i).toNat) i) (fun i=> -1≤i∧i≤7) (fun i=> (i+1).toNat) 7 rfl ⟨by omega,by omega⟩ ?_
 rintro i ⟨h1,h2⟩
 refine Zov _ _ _ _ _ _ ?_;(try simp only [vcT,forall_eq])
 (simp only [vcS]);(try simp only [vcT])
 have hr:=Z9s (f:=fun i=> b.getD i 0) hf (7 - i).toNat
 refine ⟨fun hc=> ⟨by unfold InR;omega,by omega,by unfold InR;omega,i - 1,?_,⟨by omega,by omega⟩,by omega⟩,fun hc=> YH rfl ?_⟩
 ·have hp7:(256:Int) ^ (7 - i).toNat≤256 ^ 7:=by
   have:(256:Int) ^ (7 - i).toNat=((256 ^ (7 - i).toNat:Nat):Int):=by simp
   rw [this]
   have h7:(256:Nat) ^ (7 - i).toNat≤256 ^ 7:=Nat.pow_le_pow_right (by omega) (by omega)
   have:((256:Nat) ^ 7:Nat)=72057594037927936:=by decide
   omega
  have e7:(256:Int) ^ 7=72057594037927936:=by decide
  have hfi:=hf i.toNat
  have e:Z8X (fun i=> b.getD i 0) (7 - (i - 1)).toNat=b.getD i.toNat 0+256*Z8X (fun i=> b.getD i 0) (7 - i).toNat:=by
   rw [show (7 - (i - 1)).toNat=(7 - i).toNat+1 by omega]
   simp only [Z8X]
   rw [show 7 - (7 - i).toNat=i.toNat by omega]
  rw [e,show (0+i).toNat=i.toNat by omega,Z3s (n:=Z8X (fun i=> b.getD i 0) (7 - i).toNat*256) (by omega) (by omega),Z3s (n:=b.getD i.toNat 0) (by omega) (by omega),Z3s (by omega) (by omega)]
  congr 1
  omega
 ·have:i= -1:=by omega
  subst this
  exact ZrS _
theorem Zvz(f:Nat→Int){i:Nat}(h:i < 8):List.getD [f 0,f 1,f 2,f 3,f 4,f 5,f 6,f 7] i 0=f i:=by
 match i,h with
 | 0,_=> rfl
 | 1,_=> rfl
 | 2,_=> rfl
 | 3,_=> rfl
 | 4,_=> rfl
 | 5,_=> rfl
 | 6,_=> rfl
 | 7,_=> rfl
theorem Z8A(a b m:Int)(i:Nat):0≤YS a b m i∧YS a b m i < 256:=by
 unfold YS
 split
 ·exact Z0Z _ _
 ·exact Z0Z _ _
theorem ZtH:Contract Try.prog cfg 103 Z67:=by
 refine ZpI c67 c68 c69 ?_
 intro a b m _ hp
 simp only [ZcT] at hp
 refine Zvm _ _ _ _ ?_;(try simp only [vcT,forall_eq])
 refine ⟨hp.1,hp.2.1,?_⟩
 refine Za (ι:=Int) (fun i=> Z1i a b m i (if ((0:Nat):Int) < i then YS a b m 0 else Zn a 0) (if ((1:Nat):Int) < i then YS a b m 1 else Zn a 1) (if ((2:Nat):Int) < i then YS a b m 2 else Zn a 2) (if ((3:Nat):Int) < i then YS a b m 3 else Zn a 3)
  (if ((4:Nat):Int) < i then YS a b m 4 else Zn a 4) (if ((5:Nat):Int) < i then YS a b m 5 else Zn a 5) (if ((6:Nat):Int) < i then YS a b m 6 else Zn a 6) (if ((7:Nat):Int) < i then YS a b m 7 else Zn a 7)) (fun i=> 0≤i∧i≤8) (fun i=> (8 - i).toNat) 0 ?_ ⟨by omega,by omega⟩ ?_
 ·simp [Z1i]
 ·rintro i ⟨h1,h2⟩
  refine Zli _ _ _ _ _ _ _ _ _ _ _ _ _ _ ?_;(try simp only [vcT,forall_eq])
  (simp only [vcS]);(try simp only [vcT])
  refine ⟨fun hc=> ⟨⟨hp.2.2,h1,by dsimp only;omega⟩,fun hn=> ⟨⟨h1,by omega⟩,⟨h1,by omega⟩,by unfold InR;omega,i+1,?_,⟨by omega,by omega⟩,by omega⟩,fun hn=> ⟨by unfold InR;omega,i+1,?_,⟨by omega,by omega⟩,by omega⟩⟩,fun hc=> ?_⟩
  ·rw [Zvz (Zn b) (by omega)]
   have hv:Zn b i.toNat=YS a b m i.toNat:=by
    unfold YS
    rw [show ((i.toNat:Nat):Int)=i by omega,hn]
    try rfl
   have st:∀ j:Nat,Z0B i j (Zn b i.toNat) (if (j:Int) < i then YS a b m j else Zn a j)=if (j:Int) < i+1 then YS a b m j else Zn a j:=fun j=> Zjc (F:=YS a b m) (G:=Zn a) h1 hv
   rw [st 0,st 1,st 2,st 3,st 4,st 5,st 6,st 7]
  ·have hv:YS a b m i.toNat=Zn a i.toNat:=by
    unfold YS
    rw [show ((i.toNat:Nat):Int)=i by omega,hn]
    try rfl
   have st:∀ j:Nat,(if (j:Int) < i then YS a b m j else Zn a j)=if (j:Int) < i+1 then YS a b m j else Zn a j:=fun j=> Zqd (F:=YS a b m) (G:=Zn a) hv h1
   rw [st 0,st 1,st 2,st 3,st 4,st 5,st 6,st 7]
  ·have:i=8:=by omega
   subst this
   refine ⟨⟨rfl,rfl,?_⟩,YH rfl ?_⟩
   ·intro x hx
    simp at hx
    rcases hx with rfl | rfl | rfl | rfl | rfl | rfl | rfl | rfl <;> exact Z8A _ _ _ _
   ·try rfl
end Go.AM.Ytpjenobkibfpcaa
namespace Go.AM.Ytpjenobkibfpcaa
open Go.AM Go.Proofs
theorem Zkp{α:Type}{l:List α}{i:Nat}(h:i < l.length)(d:α):l.drop i=l.getD i d ::l.drop (i+1):=by
 rw [List.drop_eq_getElem_cons h]
 simp [List.getD,h]
theorem ZR{α:Type}{l:List α}{i:Int}(h0:0≤i)(h:i < l.length)(d:α):l.drop i.toNat=l.getD i.toNat d ::l.drop (i+1).toNat:=by
 rw [Zkp (by omega) d,show i.toNat+1=(i+1).toNat by omega]
theorem Zl{α:Type}{l:List α}{i:Nat}(h:i < l.length)(d:α):l.getD i d∈l:=by
 simp only [List.getD,List.getElem?_eq_getElem h,Option.getD_some]
 exact List.getElem_mem h
theorem Z1C(t:Tree):1≤Zj t:=by cases t;simp only [Zj];omega
theorem Z1a(e:Edit):1≤Zg e:=by cases e;simp only [Zg];omega
theorem Z7P(k:Kid):JL k=Zg k.e:=by cases k;rfl
theorem Yg(o:Op):ZX o=Zb o.l+Zg o.e:=by cases o;rfl
theorem YG:∀ {ks:List Tree} {t:Tree},t∈ks→Zj t≤Zb ks
 | x ::r,t,h=> by
  simp only [Zb]
  rcases List.mem_cons.1 h with rfl | h
  ·omega
  ·have:=YG h;omega
theorem YC:∀ {ks:List Kid} {k:Kid},k∈ks→Zg k.e≤ZN ks
 | x ::r,k,h=> by
  simp only [ZN,Z7P]
  rcases List.mem_cons.1 h with rfl | h
  ·omega
  ·have:=YC h;omega
theorem Y2:∀ {os:List Op} {o:Op},o∈os→ZX o≤Zd os
 | x ::r,o,h=> by
  simp only [Zd]
  rcases List.mem_cons.1 h with rfl | h
  ·omega
  ·have:=Y2 h;omega
theorem Y4:∀ (ks:List Kid),ks.length≤ZN ks
 | []=> by simp [ZN]
 | k ::r=> by
  have:=Y4 r
  have:=Z1a k.e
  simp only [ZN,Z7P,List.length_cons]
  omega
theorem Y3:∀ (os:List Op),os.length≤Zd os
 | []=> by simp [Zd]
 | o ::r=> by
  have:=Y3 r
  have:=Z1a o.e
  simp only [Zd,Yg,List.length_cons]
  omega
theorem Z9X:∀ {ks:List Tree} {t:Tree},Z1m ks→t∈ks→Z1n t
 | x ::r,t,hs,h=> by
  simp only [Z1m] at hs
  rcases List.mem_cons.1 h with rfl | h
  ·exact hs.1
  ·exact Z9X hs.2 h
theorem Z8d:∀ {ks:List Kid} {k:Kid},Z4y ks→k∈ks→Z26 k.e
 | x ::r,k,hs,h=> by
  simp only [Z4y] at hs
  rcases List.mem_cons.1 h with rfl | h
  ·have:=hs.1;obtain ⟨a,e⟩:=k;exact this
  ·exact Z8d hs.2 h
theorem Z8c:∀ {os:List Op} {o:Op},Z4x os→o∈os→o.l.length≤17592186044416∧Z1m o.l∧Z26 o.e
 | x ::r,o,hs,h=> by
  simp only [Z4x] at hs
  rcases List.mem_cons.1 h with rfl | h
  ·have:=hs.1;obtain ⟨a,b,c,e⟩:=o;exact this
  ·exact Z8c hs.2 h
theorem JI:∀ {ks:List Tree} {t:Tree},ZW ks→t∈ks→rng t
 | x ::r,t,hs,h=> by
  simp only [ZW] at hs
  rcases List.mem_cons.1 h with rfl | h
  ·exact hs.1
  ·exact JI hs.2 h
theorem Z14:∀ {ks:List Kid} {k:Kid},Z1T ks→k∈ks→isI k.at_∧Y1 k.e
 | x ::r,k,hs,h=> by
  simp only [Z1T] at hs
  rcases List.mem_cons.1 h with rfl | h
  ·have:=hs.1;obtain ⟨a,e⟩:=k;exact this
  ·exact Z14 hs.2 h
theorem Z13:∀ {os:List Op} {o:Op},Z1S os→o∈os→Z00 o
 | x ::r,o,hs,h=> by
  simp only [Z1S] at hs
  rcases List.mem_cons.1 h with rfl | h
  ·exact hs.1
  ·exact Z13 hs.2 h
theorem Z98{o:Op}(h:Z00 o):isI o.kind∧isI o.n∧ZW o.l∧Y1 o.e:=by obtain ⟨a,b,c,e⟩:=o;exact h
theorem Zkb(k:Kid)(d n:Int):Z21 k d n=JP k.e d n:=by cases k;rfl
theorem ZmO(o:Op)(d n:Int):Z48 o d n=if Zt o.l 80 n < 0 then Zt o.l 80 n else JP o.e d (Zt o.l 80 n):=by cases o;rfl
theorem Z7o(t:Tree)(n:Int)(h: -1≤n): -1≤sh1 t n∧sh1 t n≤n:=by
 unfold sh1
 split
 ·omega
 ·have:=Yu t 80 n;omega
mutual
theorem Z0x:∀ (e:Edit) (d n:Int),-1≤JP e d n∧JP e d n≤max n (-1)
 | .mk _ o nw w ks _ os,d,n=> by
  simp only [JP]
  split
  ·omega
  ·have h1:=Yu o 80 (n - 1 - w.length - os.length)
   have h2:=Z7o nw _ h1.1
   have h3:=Z0V ks (d - 1) _ h2.1
   have h4:=Z0U os (d - 1) _ h3.1
   omega
theorem Z0V:∀ (ks:List (KidOf Edit)) (d n:Int),-1≤n→-1≤J7 ks d n∧J7 ks d n≤n
 | [],d,n,h=> by simp only [J7];omega
 | k ::r,d,n,h=> by
  simp only [J7]
  split
  ·omega
  ·have h1:=Z5h k d n
   have h2:=Z0V r d _ h1.1
   omega
theorem Z5h:∀ (k:KidOf Edit) (d n:Int),-1≤Z21 k d n∧Z21 k d n≤max n (-1)
 | ⟨_,e⟩,d,n=> by
  simp only [Z21]
  exact Z0x e d n
theorem Z0U:∀ (os:List (OpOf Edit)) (d n:Int),-1≤n→-1≤Jk os d n∧Jk os d n≤n
 | [],d,n,h=> by simp only [Jk];omega
 | o ::r,d,n,h=> by
  simp only [Jk]
  split
  ·omega
  ·have h1:=Z6D o d n h
   have h2:=Z0U r d _ h1.1
   omega
theorem Z6D:∀ (o:OpOf Edit) (d n:Int),-1≤n→-1≤Z48 o d n∧Z48 o d n≤n
 | ⟨_,_,l,e⟩,d,n,h=> by
  simp only [Z48]
  have h1:=JH l 80 n h
  split
  ·omega
  ·have h2:=Z0x e d (Zt l 80 n)
   omega
end
theorem Zlr{t:Tree}{n:Int}(h:0≤sh1 t n):(Zj t:Int)+sh1 t n≤n:=by
 unfold sh1 at*
 split at h
 ·omega
 ·rename_i hn
  rw [if_neg hn]
  exact JG t 80 n h
mutual
theorem Z5L:∀ (e:Edit) (d n:Int),0≤JP e d n→(Zg e:Int)+JP e d n≤n
 | .mk _ o nw w ks _ os,d,n,h=> by
  simp only [JP] at h ⊢
  split at h
  ·omega
  ·rename_i hc
   rw [if_neg hc]
   have r1:=Yu o 80 (n - 1 - w.length - os.length)
   have r2:=Z7o nw _ r1.1
   have r3:=Z0V ks (d - 1) _ r2.1
   have r4:=Z0U os (d - 1) _ r3.1
   have m4:=Z8J os (d - 1) _ h
   have m3:=Z8K ks (d - 1) (sh1 nw (ZA o 80 (n - 1 - w.length - os.length))) (by omega)
   have m2:=Zlr (t:=nw) (n:=ZA o 80 (n - 1 - w.length - os.length)) (by omega)
   have m1:=JG o 80 (n - 1 - w.length - os.length) (by omega)
   simp only [Zg]
   omega
theorem Z8K:∀ (ks:List (KidOf Edit)) (d n:Int),0≤J7 ks d n→(ZN ks:Int)+J7 ks d n≤n
 | [],d,n,h=> by simp only [J7,ZN];omega
 | k ::r,d,n,h=> by
  simp only [J7] at h ⊢
  split at h
  ·omega
  ·rename_i hc
   rw [if_neg hc]
   have r1:=Z5h k d n
   have r2:=Z0V r d _ r1.1
   have m2:=Z8K r d _ h
   have m1:=Zd2 k d n (by omega)
   simp only [ZN]
   omega
theorem Zd2:∀ (k:KidOf Edit) (d n:Int),0≤Z21 k d n→(JL k:Int)+Z21 k d n≤n
 | ⟨_,e⟩,d,n,h=> by
  simp only [Z21,JL] at h ⊢
  exact Z5L e d n h
theorem Z8J:∀ (os:List (OpOf Edit)) (d n:Int),0≤Jk os d n→(Zd os:Int)+Jk os d n≤n
 | [],d,n,h=> by simp only [Jk,Zd];omega
 | o ::r,d,n,h=> by
  simp only [Jk] at h ⊢
  split at h
  ·omega
  ·rename_i hc
   rw [if_neg hc]
   have r1:=Z6D o d n (by omega)
   have r2:=Z0U r d _ r1.1
   have m2:=Z8J r d _ h
   have m1:=ZeY o d n (by omega)
   simp only [Zd]
   omega
theorem ZeY:∀ (o:OpOf Edit) (d n:Int),0≤Z48 o d n→(ZX o:Int)+Z48 o d n≤n
 | ⟨_,_,l,e⟩,d,n,h=> by
  simp only [Z48,ZX] at h ⊢
  split at h
  ·omega
  ·rename_i hc
   rw [if_neg hc]
   have m2:=Z5L e d _ h
   have r2:=Z0x e d (Zt l 80 n)
   have m1:=Z27 l 80 n (by omega)
   omega
end
theorem Z82{e:Edit}(h:0≤JP e 80 3000):Zg e≤3000:=by
 have:=Z5L e 80 3000 h
 omega
end Go.AM.Ytpjenobkibfpcaa
namespace Go.AM.Ytpjenobkibfpcaa
open Go.AM Go.Proofs
theorem ZeV(t:Tree):t.words.length+t.kids.length < Zj t:=by
 obtain ⟨k,w,ks⟩:=t
 have:=Zs ks
 simp only [Zj,Tree.words_mk,Tree.kids_mk]
 omega
theorem Y6(e:Edit):Zj e.old+Zj e.new+e.words.length+e.ops.length+ZN e.kids+Zd e.ops < Zg e:=by
 obtain ⟨k,o,n,w,ks,l,os⟩:=e
 simp only [Zg,Edit.old_mk,Edit.new_mk,Edit.words_mk,Edit.ops_mk,Edit.kids_mk]
 omega
theorem c62:Contract Try.prog cfg 62 Z2S:=by
 refine Zsy ?_
 intro t _ hp
 simp only [Z3T] at hp
 have:=ZeV t
 refine ZwD t _ ?_;(try simp only [vcT,forall_eq])
 refine ⟨fun _=> by unfold InR;omega,Z2 rfl ?_⟩
 rw [Bool.eq_iff_iff]
 simp only [ZM]
 (simp only [vcS])
 omega
theorem c63:Contract Try.prog cfg 63 Z7n:=by
 refine Zsx ZtH ?_
 intro w m _ hp
 refine ZwC _ _ _ ?_;(try simp only [vcT,forall_eq])
 refine ⟨⟨hp.1,by dsimp only;omega,hp.2⟩,Z2 rfl ?_⟩
 try rfl
theorem ZtG:Contract Try.prog cfg 104 Z4w:=by
 refine ZpH c62 ?_
 intro e _ hp
 simp only [Z5y] at hp
 have h1:=Y6 e
 have h2:=Y4 e.kids
 refine Zvl e _ ?_;(try simp only [vcT,forall_eq])
 try (simp only [Tree.eta,Edit.eta,Tree.kind_mk,Tree.words_mk,Tree.kids_mk])
 refine ⟨fun _=> by simp only [Z3T];omega,fun _=> by simp only [Z3T];omega,fun _=> by unfold InR;omega,fun _=> by unfold InR;omega,Z2 rfl ?_⟩
 rw [Bool.eq_iff_iff]
 simp only [JZ]
 (simp only [vcS])
 constructor
 ·rintro ⟨⟨⟨⟨h3,h4⟩,h5⟩,h6⟩,h7⟩;exact ⟨⟨⟨h3,h4⟩,h5⟩,by omega⟩
 ·rintro ⟨⟨⟨h3,h4⟩,h5⟩,h6⟩;exact ⟨⟨⟨⟨h3,h4⟩,h5⟩,by omega⟩,by omega⟩
theorem Zt9 (e:Edit) (x4 x5 i:Int) (N0:LSt U→Prop) (Q:AExit→LSt U→Prop) (h1:0≤x4∧x4≤1048576) (h2:0≤x5∧x5≤1048576) (hi:0≤i) (hlen:e.ops.length≤20000000000)
  (ho:∀ o∈e.ops,(0≤o.n∧o.n≤1048576)∧o.l.length≤20000000000)
  (h:i < e.ops.length→N0 (Z1G e (min (if (e.ops.getD i.toNat Op.nil).kind=2 then x4 else x4+Zr (e.ops.getD i.toNat Op.nil)) 1048576) (min (if (e.ops.getD i.toNat Op.nil).kind=1 then x5 else x5+Zr (e.ops.getD i.toNat Op.nil)) 1048576) (i+1)))
  (h':¬i < e.ops.length→Q .ret (⟨[(2,.c (.int .i64 x4)),(3,.c (.int .i64 x5))],[],[]⟩:LSt U)):ZtR e x4 x5 i N0 Q:=by
 refine Zoy _ _ _ _ _ _ ?_;(try simp only [vcT,forall_eq])
 (simp only [vcS]);(try simp only [vcT])
 refine ⟨fun hc=> ?_,h'⟩
 have hn:=h hc
 have hm:=ho _ (Zl (l:=e.ops) (i:=i.toNat) (by omega) Op.nil)
 have k1:∀ k,k=Zr (e.ops.getD i.toNat Op.nil)→ZtV e x4 x5 i k N0 Q:=by
  intro k hk
  have hkr:0≤k∧k≤60000000000:=by
   rw [hk];unfold Zr;split <;> omega
  have k2:∀ y,y=(if (e.ops.getD i.toNat Op.nil).kind=2 then x4 else x4+k)→ZtU e x5 i k y N0 Q:=by
   intro y hy
   have hyr:0≤y∧y≤100000000000:=by rw [hy];split <;> omega
   have k3:∀ z,z=(if (e.ops.getD i.toNat Op.nil).kind=1 then x5 else x5+k)→ZtT e i k y z N0 Q:=by
    intro z hz
    have hzr:0≤z∧z≤100000000000:=by rw [hz];split <;> omega
    have k4:∀ u,u=min y 1048576→ZtS e i y z u N0 Q:=by
     intro u hu
     refine Zoz _ _ _ _ _ _ _ ?_;(try simp only [vcT,forall_eq])
     (simp only [vcS]);(try simp only [vcT])
     rw [←hk,←hy,←hz,←hu] at hn
     refine ⟨fun hq=> ⟨by unfold InR;omega,?_⟩,fun hq=> ⟨by unfold InR;omega,?_⟩⟩
     ·rw [show min z 1048576=1048576 by omega] at hn;exact hn
     ·rw [show min z 1048576=z by omega] at hn;exact hn
    refine ZoA _ _ _ _ _ _ _ ?_;(try simp only [vcT,forall_eq])
    (simp only [vcS]);(try simp only [vcT])
    exact ⟨fun hq=> k4 _ (by omega),fun hq=> k4 _ (by omega)⟩
   refine ZoB _ _ _ _ _ _ _ ?_;(try simp only [vcT,forall_eq])
   (simp only [vcS]);(try simp only [vcT])
   exact ⟨fun hq=> ⟨by unfold InR;omega,k3 _ (by rw [if_neg hq])⟩,fun hq=> k3 _ (by rw [if_pos hq])⟩
  refine ZoC _ _ _ _ _ _ _ ?_;(try simp only [vcT,forall_eq])
  (simp only [vcS]);(try simp only [vcT])
  exact ⟨fun hq=> ⟨by unfold InR;omega,k2 _ (by rw [if_neg hq])⟩,fun hq=> k2 _ (by rw [if_pos hq])⟩
 exact ⟨⟨hi,hc⟩,by unfold InR;omega,fun hq=> k1 _ (by unfold Zr;rw [if_pos hq]),fun hq=> k1 _ (by unfold Zr;rw [if_neg hq])⟩
theorem c65:Contract Try.prog cfg 65 Z2R:=by
 refine Zsw ?_
 intro e _ hp
 simp only [Zel] at hp
 have h1:=Y6 e
 refine ZwA e _ ?_;(try simp only [vcT,forall_eq])
 refine Za (ι:=Int × Int × Int) (fun p=> Z1G e p.1 p.2.1 p.2.2) (fun p=> 0≤p.2.2∧p.2.2≤e.ops.length∧(0≤p.1∧p.1≤1048576)∧(0≤p.2.1∧p.2.1≤1048576)∧JX (e.ops.drop p.2.2.toNat) p.1=JX e.ops 0∧JW (e.ops.drop p.2.2.toNat) p.2.1=JW e.ops 0) (fun p=> ((e.ops.length:Int) - p.2.2).toNat) (0,0,0) rfl ⟨by dsimp only;omega,by dsimp only;omega,by dsimp only;omega,by dsimp only;omega,by simp,by simp⟩ ?_
 rintro ⟨x4,x5,i⟩ ⟨h2,h3,h4,h5,h6,h7⟩
 dsimp only at*
 have ho:∀ o∈e.ops,(0≤o.n∧o.n≤1048576)∧o.l.length≤20000000000:=by
  intro o hm
  refine ⟨hp.2 o hm,?_⟩
  have a1:=Y2 hm
  have a2:=Zs o.l
  rw [Yg] at a1
  omega
 refine Zt9 e x4 x5 i _ _ h4 h5 h2 (by omega) ho (fun hc=> ⟨(_,_,i+1),rfl,⟨by dsimp only;omega,by dsimp only;omega,?_,?_,?_,?_⟩,by dsimp only;omega⟩) (fun hc=> ?_)
 ·have hm:=ho _ (Zl (l:=e.ops) (i:=i.toNat) (by omega) Op.nil)
  dsimp only
  unfold Zr
  split <;> (try split) <;> omega
 ·have hm:=ho _ (Zl (l:=e.ops) (i:=i.toNat) (by omega) Op.nil)
  dsimp only
  unfold Zr
  split <;> (try split) <;> omega
 ·rw [ZR h2 hc Op.nil] at h6
  exact h6
 ·rw [ZR h2 hc Op.nil] at h7
  exact h7
 ·rw [List.drop_of_length_le (by omega)] at h6 h7
  simp only [JX,JW] at h6 h7
  simp only [ZlD,←h6,←h7]
  exact ⟨⟨rfl,⟨⟨rfl,rfl⟩,trivial⟩,rfl,⟨⟨rfl,rfl⟩,trivial⟩,trivial⟩,trivial⟩
theorem Zgk{l:List Kid}{d n:Int}(h:n < 0):J7 l d n=n:=by cases l <;> simp [J7,h]
theorem Zgj{l:List Op}{d n:Int}(h:n < 0):Jk l d n=n:=by cases l <;> simp [Jk,h]
theorem Zcy{l:List Tree}{d n:Int}(h:n < 0):Zt l d n=n:=by cases l <;> simp [Zt,h]
theorem ZjA{e:Edit}(h:Z26 e):Z1n e.old∧Z1n e.new∧e.words.length≤17592186044416∧e.kids.length≤17592186044416∧e.ops.length≤17592186044416∧Z4y e.kids∧Z4x e.ops:=by
 obtain ⟨k,o,n,w,ks,l,os⟩:=e;exact h
theorem ZmP(e:Edit)(d n:Int):JP e d n=if d=0∨n - 1 - e.words.length - e.ops.length < 0 then -1 else Jk e.ops (d - 1) (J7 e.kids (d - 1) (sh1 e.new (ZA e.old 80 (n - 1 - e.words.length - e.ops.length)))):=by
 obtain ⟨k,o,nw,w,ks,l,os⟩:=e;rfl
theorem c90:Contract Try.prog cfg 90 Z9v:=by
 refine Zsi c78 ?_
 rintro N e d n _ hp hN
 simp only [Zac,ZeF] at hp hN
 obtain ⟨hs,hd0,hd1,hn0,hn1⟩:=hp
 obtain ⟨so,sn,lw,lk,lo,sk,sos⟩:=ZjA hs
 have hme:=Y6 e
 have hres:=ZmP e d n
 refine Zwj N e d n _ ?_;(try simp only [vcT,forall_eq])
 (simp only [vcS]);(try simp only [vcT])
 try (simp only [Tree.eta,Edit.eta,Tree.kind_mk,Tree.words_mk,Tree.kids_mk])
 refine ⟨by unfold InR;omega,by unfold InR;omega,by unfold InR;omega,fun hc=> YH rfl (by rw [hres,if_pos hc]),fun hc=> ?_⟩
 rw [if_neg (by omega)] at hres
 have r1:=Yu e.old 80 (n - 1 - e.words.length - e.ops.length)
 have p68:∀ t m,Z1n t→-1≤m→m≤4611686018427387904→Z6e (t,80,m,()):=fun t m h1 h2 h3=> ⟨h1,by dsimp only;omega,by dsimp only;omega,h2,h3⟩
 have k0:∀ x,x=sh1 e.new (ZA e.old 80 (n - 1 - e.words.length - e.ops.length))→ZtQ N e d n x (Jg cfg Try.f90.ntmps Try.f90.results.toList (ZhE (e,d,n,())) []):=by
  intro x hx
  have rx:=Z7o e.new _ r1.1
  rw [←hx] at rx hres
  refine Zoj N e d n x _ ?_;(try simp only [vcT,forall_eq])
  refine Za (ι:=Int × Int) (fun p=> Z6G e d n p.1 p.2) (fun p=> 0≤p.2∧p.2≤e.kids.length∧-1≤p.1∧p.1≤4611686018427387904∧J7 (e.kids.drop p.2.toNat) (d - 1) p.1=J7 e.kids (d - 1) x) (fun p=> ((e.kids.length:Int) - p.2).toNat) (x,0) rfl ⟨by dsimp only;omega,by dsimp only;omega,by dsimp only;omega,by dsimp only;omega,by simp⟩ ?_
  rintro ⟨y,i⟩ ⟨h1,h2,h3,h4,h5⟩
  dsimp only at*
  refine Zoi N e d n y i _ _ ?_;(try simp only [vcT,forall_eq])
  (simp only [vcS]);(try simp only [vcT])
  try (simp only [Tree.eta,Edit.eta,Tree.kind_mk,Tree.words_mk,Tree.kids_mk])
  refine ⟨fun hi=> ?_,fun hi=> ?_⟩
  ·have hmem:=Zl (l:=e.kids) (i:=i.toNat) (by omega) (KidOf.mk 0 Edit.nil)
   have hsm:=Z8d sk hmem
   have hmm:=YC hmem
   rw [ZR h1 hi.1 (KidOf.mk 0 Edit.nil)] at h5
   simp only [J7] at h5
   rw [if_neg (by omega),Zkb] at h5
   have rr:=Z0x (e.kids.getD i.toNat (KidOf.mk 0 Edit.nil)).e (d - 1) y
   exact ⟨⟨h1,hi.1⟩,by unfold InR;omega,⟨hsm,by dsimp only;omega,by dsimp only;omega,h3,h4⟩,by simp only [ZeF];omega,by unfold InR;omega,(_,i+1),rfl,⟨by dsimp only;omega,by dsimp only;omega,by dsimp only;omega,by dsimp only;omega,h5⟩,by dsimp only;omega⟩
  ·have hy:J7 e.kids (d - 1) x=y:=by
    rw [←h5]
    by_cases hlt:i < e.kids.length
    ·exact Zgk (by omega)
    ·rw [List.drop_of_length_le (by omega)];try rfl
   rw [hy] at hres
   refine Za (ι:=Int × Int) (fun p=> Z4c e d n p.1 p.2) (fun p=> 0≤p.2∧p.2≤e.ops.length∧-1≤p.1∧p.1≤4611686018427387904∧Jk (e.ops.drop p.2.toNat) (d - 1) p.1=Jk e.ops (d - 1) y) (fun p=> ((e.ops.length:Int) - p.2).toNat) (y,0) rfl ⟨by dsimp only;omega,by dsimp only;omega,h3,h4,by simp⟩ ?_
   rintro ⟨z,j⟩ ⟨h6,h7,h8,h9,h10⟩
   dsimp only at*
   refine Zoh N e d n z j _ _ ?_;(try simp only [vcT,forall_eq])
   (simp only [vcS]);(try simp only [vcT])
   refine ⟨fun hj=> ?_,fun hj=> ?_⟩
   ·have hmem:=Zl (l:=e.ops) (i:=j.toNat) (by omega) Op.nil
    have hsm:=Z8c sos hmem
    have hmm:=Y2 hmem
    rw [Yg] at hmm
    rw [ZR h6 hj.1 Op.nil] at h10
    simp only [Jk] at h10
    rw [if_neg (by omega),ZmO] at h10
    refine Za (ι:=Int × Int) (fun p=> Z6F e d n j p.1 p.2) (fun p=> 0≤p.2∧p.2≤(e.ops.getD j.toNat Op.nil).l.length∧-1≤p.1∧p.1≤4611686018427387904∧Zt ((e.ops.getD j.toNat Op.nil).l.drop p.2.toNat) 80 p.1=Zt (e.ops.getD j.toNat Op.nil).l 80 z) (fun p=> (((e.ops.getD j.toNat Op.nil).l.length:Int) - p.2).toNat) (z,0) rfl ⟨by dsimp only;omega,by dsimp only;omega,h8,h9,by simp⟩ ?_
    rintro ⟨u,k⟩ ⟨g1,g2,g3,g4,g5⟩
    dsimp only at*
    refine Zog N e d n j u k _ _ _ ?_;(try simp only [vcT,forall_eq])
    (simp only [vcS]);(try simp only [vcT])
    try (simp only [Tree.eta,Edit.eta,Tree.kind_mk,Tree.words_mk,Tree.kids_mk])
    refine ⟨⟨h6,hj.1⟩,fun hk=> ?_,fun hk=> ?_⟩
    ·have hmt:=Zl (l:=(e.ops.getD j.toNat Op.nil).l) (i:=k.toNat) (by omega) Tree.nil
     rw [ZR g1 hk.1 Tree.nil] at g5
     simp only [Zt] at g5
     rw [if_neg (by omega)] at g5
     have rr:=Yu ((e.ops.getD j.toNat Op.nil).l.getD k.toNat Tree.nil) 80 u
     exact ⟨⟨h6,hj.1⟩,⟨g1,hk.1⟩,p68 _ _ (Z9X hsm.2.1 hmt) g3 g4,by unfold InR;omega,(_,k+1),rfl,⟨by dsimp only;omega,by dsimp only;omega,by dsimp only;omega,by dsimp only;omega,g5⟩,by dsimp only;omega⟩
    ·have hu:Zt (e.ops.getD j.toNat Op.nil).l 80 z=u:=by
      rw [←g5]
      by_cases hlt:k < (e.ops.getD j.toNat Op.nil).l.length
      ·exact Zcy (by omega)
      ·rw [List.drop_of_length_le (by omega)];try rfl
     rw [hu] at h10
     have rr:=Z0x (e.ops.getD j.toNat Op.nil).e (d - 1) u
     refine ⟨fun hq=> ⟨⟨h6,hj.1⟩,by unfold InR;omega,⟨hsm.2.2,by dsimp only;omega,by dsimp only;omega,g3,g4⟩,by simp only [ZeF];omega,by unfold InR;omega,(_,j+1),rfl,⟨by dsimp only;omega,by dsimp only;omega,by dsimp only;omega,by dsimp only;omega,?_⟩,by dsimp only;omega⟩,
      fun hq=> ⟨by unfold InR;omega,(_,j+1),rfl,⟨by dsimp only;omega,by dsimp only;omega,by dsimp only;omega,by dsimp only;omega,?_⟩,by dsimp only;omega⟩⟩
     ·rw [if_neg (by omega)] at h10;exact h10
     ·rw [if_pos (by omega)] at h10;exact h10
   ·refine YH rfl ?_
    rw [hres,←h10]
    by_cases hlt:j < e.ops.length
    ·exact (Zgj (by omega)).symm
    ·rw [List.drop_of_length_le (by omega)];try rfl
 refine ⟨p68 _ _ so (by omega) (by omega),fun hq=> ⟨p68 _ _ sn r1.1 (by omega),k0 _ ?_⟩,fun hq=> k0 _ ?_⟩
 ·unfold sh1;rw [if_neg (by omega)]
 ·unfold sh1;rw [if_pos (by omega)]
theorem c54:Contract Try.prog cfg 54 Z9J:=by
 refine ZsC c90 ?_
 intro e _ hp
 refine ZwI e _ ?_;(try simp only [vcT,forall_eq])
 try (simp only [Tree.eta,Edit.eta,Tree.kind_mk,Tree.words_mk,Tree.kids_mk])
 exact ⟨⟨hp,by dsimp only;omega,by dsimp only;omega,by dsimp only;omega,by dsimp only;omega⟩,Z2 rfl rfl⟩
end Go.AM.Ytpjenobkibfpcaa
namespace Go.AM.Ytpjenobkibfpcaa
open Go.AM Go.Proofs
theorem Z2n(e:Edit)(d:Int):Z4 e d=
  if d=0∨e.kind < 0∨3 < e.kind then false
  else if (e.kind≠1∧¬(ZM e.old=true∧ZM e.new=true))∨(e.kind≠2∧¬(e.words.length=0∧e.kids.length=0))∨(e.kind≠3∧(e.list≠0∨e.ops.length≠0)) then false
  else if e.kind=1 then Z9 e.old (dT d) && Z9 e.new (dT d) && decide (e.old.kind≠10∧e.new.kind≠10)
  else Zu (-1) e.words && ZE (-1) e.kids (d - 1) && decide (¬(e.kind=3∧(e.list < 2∨9 < e.list))) && ZB e.list e.ops (d - 1) && decide (JX e.ops 0 < 1048576∧JW e.ops 0 < 1048576):=by
 obtain ⟨k,o,nw,w,ks,l,os⟩:=e;rfl
theorem Z3M(last:Int)(k:Kid)(d:Int):Z0s last k d=(decide (last < k.at_∧k.at_≤65534∧k.e.kind≠0) && Z4 k.e d):=by cases k;rfl
theorem Js(list:Int)(o:Op)(d:Int):Zf list o d=
  if o.kind=0 then decide (1≤o.n∧o.n≤1048576∧o.l.length=0) && JZ o.e
  else if o.n≠0∨o.kind < 0∨3 < o.kind then false
  else if o.kind < 3 then YB (dT d) list o.l && decide (0 < o.l.length) && JZ o.e
  else decide (o.l.length=0∧o.e.kind≠0∧7 < list) && Z4 o.e d && decide (list=8∨o.e.kind=2∨o.e.kind=1∧o.e.old.kind=1∧o.e.new.kind=1):=by
 cases o;rfl
theorem Z4C{list:Int}{o:Op}{d:Int}(h:Zf list o d=true):0≤o.n∧o.n≤1048576:=by
 rw [Js] at h
 split at h
 ·simp only [Bool.and_eq_true,decide_eq_true_eq] at h;omega
 ·split at h
  ·cases h
  ·rename_i h1;omega
theorem rightOs_mem{list d:Int}:∀ {os:List Op} {o:Op},ZB list os d=true→o∈os→Zf list o d=true
 | x ::r,o,h,hm=> by
  simp only [ZB,Bool.and_eq_true] at h
  rcases List.mem_cons.1 hm with rfl | hm
  ·exact h.1
  ·exact rightOs_mem h.2 hm
theorem Z8i{d:Int}:∀ {ks:List Kid} {last:Int} {k:Kid},ZE last ks d=true→k∈ks→Z4 k.e d=true∧k.e.kind≠0
 | x ::r,last,k,h,hm=> by
  simp only [ZE,Bool.and_eq_true] at h
  rcases List.mem_cons.1 hm with rfl | hm
  ·have:=h.1;rw [Z3M] at this;simp only [Bool.and_eq_true,decide_eq_true_eq] at this;exact ⟨this.2,this.1.2.2⟩
  ·exact Z8i h.2 hm
theorem Z0O{e:Edit}(h:Y1 e):isI e.kind∧rng e.old∧rng e.new∧(∀ x∈e.words,Zly x)∧isI e.list∧Z1T e.kids∧Z1S e.ops:=by
 obtain ⟨k,o,n,w,ks,l,os⟩:=e;exact h
theorem b23:Zwc:=by
 intro N e d _ hp hN
 simp only [Z8r,ZcZ] at hp hN
 obtain ⟨⟨hm,hr⟩,hd0,hd1⟩:=hp
 obtain ⟨ik,ro,rn,rw',il,rk,ros⟩:=Z0O hr
 have hme:=Y6 e
 have hkl:=Y4 e.kids
 have hol:=Y3 e.ops
 have hat:=Z2n e d
 rw [ZiK hd0] at hat
 refine ZwU N e d _ ?_;(try simp only [vcT,forall_eq])
 (simp only [vcS]);(try simp only [vcT]);(try simp only [vcU])
 try (simp only [Tree.eta,Edit.eta,Tree.kind_mk,Tree.words_mk,Tree.kids_mk])
 refine ⟨fun hc=> Z2 rfl (by rw [hat,if_pos (by omega)]),fun hc=> ?_⟩
 rw [if_neg (by omega)] at hat
 refine ⟨fun _=> by simp only [Z3T];omega,fun _=> by simp only [Z3T];omega,fun _=> by unfold InR;omega,fun hf=> Z2 rfl ?_,fun hf=> ⟨fun h1=> ⟨⟨by dsimp only;omega,ro,by dsimp only;omega,by dsimp only;omega⟩,fun _=> ⟨by dsimp only;omega,rn,by dsimp only;omega,by dsimp only;omega⟩,Z2 rfl ?_⟩,fun h1=> ?_⟩⟩
 ·rw [hat,if_pos]
  rcases hf with (hf | hf) | hf
  ·left
   refine ⟨hf.1,fun h=> ?_⟩
   rcases hf.2 with h2 | h2
   ·rw [h.1] at h2;cases h2
   ·rw [h.2] at h2;cases h2
  ·right;left;omega
  ·right;right;omega
 ·rw [hat,if_neg,if_pos h1,Bool.eq_iff_iff]
  ·(simp only [vcS])
   constructor
   ·rintro ⟨⟨⟨h2,h3⟩,h4⟩,h5⟩;exact ⟨⟨h2,h3⟩,h4,h5⟩
   ·rintro ⟨⟨h2,h3⟩,h4,h5⟩;exact ⟨⟨⟨h2,h3⟩,h4⟩,h5⟩
  ·intro h
   rcases h with h | h | h
   ·exact h.1 h1
   ·omega
   ·omega
 ·rw [if_neg,if_neg h1] at hat
  ·refine Za (ι:=Int × Int) (fun p=> Z74 e d p.1 p.2) (fun p=> 0≤p.2∧p.2≤e.words.length∧Zu p.1 (e.words.drop p.2.toNat)=Zu (-1) e.words) (fun p=> ((e.words.length:Int) - p.2).toNat) (-1,0) rfl ⟨by dsimp only;omega,by dsimp only;omega,by simp⟩ ?_
   rintro ⟨last,i⟩ ⟨h2,h3,h4⟩
   dsimp only at*
   refine ZoR N e d last i _ _ ?_;(try simp only [vcT,forall_eq])
   (simp only [vcS]);(try simp only [vcT]);(try simp only [vcU])
   try (simp only [Tree.eta,Edit.eta,Tree.kind_mk,Tree.words_mk,Tree.kids_mk])
   refine ⟨fun hi=> ?_,fun hi=> ?_⟩
   ·have hmem:=Zl (l:=e.words) (i:=i.toNat) (by omega) (WEdit.mk 0 0 0 0)
    have hrw:=rw' _ hmem
    rw [ZR h2 hi (WEdit.mk 0 0 0 0)] at h4
    simp only [Zu] at h4
    generalize e.words.getD i.toNat (WEdit.mk 0 0 0 0)=w at*
    obtain ⟨_,hmk,hwo,hwn⟩:=hrw
    refine ⟨⟨h2,hi⟩,fun _=> ⟨hwo,hmk⟩,fun _=> ⟨hwn,hmk⟩,fun hq=> Z2 rfl ?_,fun hq=> ⟨by unfold InR;omega,(_,i+1),rfl,⟨by dsimp only;omega,by dsimp only;omega,?_⟩,by dsimp only;omega⟩⟩
    ·rw [hat,←h4]
     rcases hq with (hq | hq) | hq
     ·rw [decide_eq_false (by omega)];try rfl
     ·rw [hq];simp
     ·rw [hq];simp
    ·dsimp only
     rw [←h4,decide_eq_true (by omega),hq.1.2,hq.2];try rfl
   ·have hw:Zu (-1) e.words=true:=by
     rw [←h4,List.drop_of_length_le (by omega)];try rfl
    rw [hw,Bool.true_and] at hat
    refine Za (ι:=Int × Int) (fun p=> Z73 e d p.1 p.2) (fun p=> 0≤p.2∧p.2≤e.kids.length∧ZE p.1 (e.kids.drop p.2.toNat) (d - 1)=ZE (-1) e.kids (d - 1)) (fun p=> ((e.kids.length:Int) - p.2).toNat) (-1,0) rfl ⟨by dsimp only;omega,by dsimp only;omega,by simp⟩ ?_
    rintro ⟨last,i⟩ ⟨h2,h3,h4⟩
    dsimp only at*
    refine ZoQ N e d last i _ _ ?_;(try simp only [vcT,forall_eq])
    (simp only [vcS]);(try simp only [vcT]);(try simp only [vcU])
    try (simp only [Tree.eta,Edit.eta,Tree.kind_mk,Tree.words_mk,Tree.kids_mk])
    refine ⟨fun hi=> ?_,fun hi=> ?_⟩
    ·have hmem:=Zl (l:=e.kids) (i:=i.toNat) (by omega) (KidOf.mk 0 Edit.nil)
     have hrw:=Z14 rk hmem
     have hmm:=YC hmem
     rw [ZR h2 hi (KidOf.mk 0 Edit.nil)] at h4
     simp only [ZE,Z3M] at h4
     generalize e.kids.getD i.toNat (KidOf.mk 0 Edit.nil)=w at*
     refine ⟨⟨h2,hi⟩,fun _=> by unfold InR;omega,fun _=> ⟨⟨by dsimp only;omega,hrw.2⟩,by dsimp only;omega,by dsimp only;omega⟩,fun _=> by simp only [ZcZ];omega,fun hq=> Z2 rfl ?_,fun hq=> ⟨by unfold InR;omega,(_,i+1),rfl,⟨by dsimp only;omega,by dsimp only;omega,?_⟩,by dsimp only;omega⟩⟩
     ·rw [hat,←h4]
      rcases hq with hq | hq
      ·rw [decide_eq_false (by omega)];try rfl
      ·rw [hq];simp
     ·dsimp only
      rw [←h4,decide_eq_true (by omega),hq.2];try rfl
    ·have hw:ZE (-1) e.kids (d - 1)=true:=by
      rw [←h4,List.drop_of_length_le (by omega)];try rfl
     rw [hw,Bool.true_and] at hat
     refine ⟨fun hq=> Z2 rfl (by rw [hat,decide_eq_false (by omega)];rfl),fun hq=> ?_⟩
     rw [decide_eq_true (by omega),Bool.true_and] at hat
     refine Za (ι:=Int) (fun p=> Z72 e d p) (fun p=> 0≤p∧p≤e.ops.length∧ZB e.list (e.ops.drop p.toNat) (d - 1)=ZB e.list e.ops (d - 1)) (fun p=> ((e.ops.length:Int) - p).toNat) 0 rfl ⟨by omega,by omega,by simp⟩ ?_
     rintro j ⟨h5,h6,h7⟩
     refine ZoP N e d j _ _ ?_;(try simp only [vcT,forall_eq])
     (simp only [vcS]);(try simp only [vcT]);(try simp only [vcU])
     try (simp only [Tree.eta,Edit.eta,Tree.kind_mk,Tree.words_mk,Tree.kids_mk])
     refine ⟨fun hj=> ?_,fun hj=> ?_⟩
     ·have hmem:=Zl (l:=e.ops) (i:=j.toNat) (by omega) Op.nil
      have hro:=Z13 ros hmem
      have hmm:=Y2 hmem
      rw [ZR h5 hj Op.nil] at h7
      simp only [ZB] at h7
      generalize e.ops.getD j.toNat Op.nil=o at*
      refine ⟨⟨h5,hj⟩,by unfold InR;omega,⟨⟨by show ZX o≤20000000000;omega,hro,il⟩,by dsimp only;omega,by dsimp only;omega⟩,?_,fun hq=> Z2 rfl ?_,fun hq=> ⟨by unfold InR;omega,j+1,rfl,⟨by omega,by omega,?_⟩,by omega⟩⟩
      ·show 2*ZX o+1 < N
       omega
      ·have hq':Zf e.list o (d - 1)=false:=hq
       rw [hat,←h7,hq'];try rfl
      ·have hq':Zf e.list o (d - 1)=true:=hq
       rw [←h7,hq'];try rfl
     ·have hw:ZB e.list e.ops (d - 1)=true:=by
       rw [←h7,List.drop_of_length_le (by omega)];try rfl
      rw [hw,Bool.true_and] at hat
      refine ⟨⟨hm,fun o ho=> Z4C (rightOs_mem hw ho)⟩,Z2 rfl ?_⟩
      rw [hat,Bool.eq_iff_iff]
      (simp only [vcS])
  ·intro h
   rcases h with h | h | h
   ·rcases hf.1.1 with h2 | h2
    ·exact h1 h2
    ·exact h.2 h2
   ·omega
   ·omega
theorem Zbp{l:List Tree}{i:Int}(h0:0≤i)(h:i < l.length):List.drop i.toNat (l.take (i+1).toNat)=[l.getD i.toNat Tree.nil]:=by
 rw [List.drop_take,show (i+1).toNat - i.toNat=1 by omega,ZR h0 h Tree.nil]
 try rfl
theorem b64:Zw9:=by
 intro N list o d _ hp hN
 simp only [ZbP,Zk0] at hp hN
 obtain ⟨⟨hm,hr,hil⟩,hd0,hd1⟩:=hp
 obtain ⟨ik,inn,rl,re⟩:=Z98 hr
 rw [Yg] at hm hN
 have hll:=Zs o.l
 have hep:=Z1a o.e
 have hat:=Js list o d
 rw [ZiK hd0,Z7i] at hat
 refine ZwB N list o d _ ?_;(try simp only [vcT,forall_eq])
 (simp only [vcS]);(try simp only [vcT]);(try simp only [vcU])
 try (simp only [Tree.eta,Edit.eta,Tree.kind_mk,Tree.words_mk,Tree.kids_mk])
 refine ⟨fun h0=> ⟨fun _=> by simp only [Z5y];omega,Z2 rfl ?_⟩,fun h0=> ⟨fun hc=> Z2 rfl ?_,fun hc=> ⟨fun h3=> ?_,fun h3=> ⟨fun _=> ⟨⟨by dsimp only;omega,re⟩,hd0,hd1⟩,fun _=> by simp only [ZcZ];omega,fun hq=> Z2 rfl ?_,fun hq=> Z2 rfl ?_⟩⟩⟩⟩
 ·rw [hat,if_pos h0,Bool.eq_iff_iff]
  (simp only [vcS])
  constructor
  ·rintro ⟨h1,h2⟩;exact ⟨by omega,h2⟩
  ·rintro ⟨h1,h2⟩;exact ⟨by omega,h2⟩
 ·rw [hat,if_neg h0,if_pos (by omega)]
 ·rw [if_neg h0,if_neg (by omega),if_pos h3] at hat
  refine Za (ι:=Int) (fun p=> Z6V list o d p) (fun p=> 0≤p∧p≤o.l.length∧YN list (o.l.drop p.toNat)=YN list o.l) (fun p=> ((o.l.length:Int) - p).toNat) 0 rfl ⟨by omega,by omega,by simp⟩ ?_
  rintro i ⟨h4,h5,h6⟩
  refine ZoD N list o d i _ _ ?_;(try simp only [vcT,forall_eq])
  (simp only [vcS]);(try simp only [vcT]);(try simp only [vcU])
  try (simp only [Tree.eta,Edit.eta,Tree.kind_mk,Tree.words_mk,Tree.kids_mk])
  refine ⟨fun hi=> ?_,fun hi=> ?_⟩
  ·have hmem:=Zl (l:=o.l) (i:=i.toNat) (by omega) Tree.nil
   have hrt:=JI rl hmem
   have hmt:=YG hmem
   rw [Zbp h4 hi]
   rw [ZR h4 hi Tree.nil] at h6
   simp only [YN] at h6
   generalize o.l.getD i.toNat Tree.nil=t at*
   refine ⟨by unfold InR;omega,by omega,⟨by simp only [Zj,Zb,List.length_nil];omega,⟨hil,fun x hx=> (by cases hx),hrt,trivial⟩,by dsimp only;omega,by dsimp only;omega⟩,fun hq=> Z2 rfl ?_,fun hq=> ⟨by unfold InR;omega,i+1,rfl,⟨by omega,by omega,?_⟩,by omega⟩⟩
   ·rw [hat,←h6,hq];try rfl
   ·rw [←h6,hq];try rfl
  ·have hw:YN list o.l=true:=by
    rw [←h6,List.drop_of_length_le (by omega)];try rfl
   rw [hw,Bool.true_and] at hat
   refine ⟨fun _=> by simp only [Z5y];omega,Z2 rfl ?_⟩
   rw [hat,Bool.eq_iff_iff]
   (simp only [vcS])
   simp only [Int.natCast_pos]
 ·rw [hat,if_neg h0,if_neg (by omega),if_neg h3]
  rcases hq with hq | hq
  ·have:¬(o.l.length=0∧o.e.kind≠0∧7 < list):=by omega
   rw [decide_eq_false this];try rfl
  ·rw [hq];simp
 ·rw [hat,if_neg h0,if_neg (by omega),if_neg h3,hq.2]
  have:o.l.length=0∧o.e.kind≠0∧7 < list:=by omega
  rw [decide_eq_true this,Bool.eq_iff_iff]
  (simp only [vcS])
  simp only [true_and,Bool.and_true,decide_eq_true_eq,and_assoc,or_assoc]
theorem Zti:Contract Try.prog cfg 23 Z9R∧Contract Try.prog cfg 64 Zlp:=Zk8 c62 c63 ZtG c37 c65 b23 b64
theorem Zc4(e:Edit):JO e=(decide (JX e.ops 0≤2000∧JW e.ops 0≤2000) && Z0T e.kids && Z20 e.ops):=by
 obtain ⟨k,o,nw,w,ks,l,os⟩:=e;rfl
theorem Z8I(k:Kid):ZeU k=JO k.e:=by cases k;rfl
theorem ZaO(o:Op):Zik o=JO o.e:=by cases o;rfl
theorem Z2m{e:Edit}{d:Int}(h:Z4 e d=true):(∀ k∈e.kids,Z4 k.e (d - 1)=true∧k.e.kind≠0)∧∀ o∈e.ops,Zf e.list o (d - 1)=true:=by
 rw [Z2n] at h
 split at h
 ·cases h
 ·split at h
  ·cases h
  ·rename_i h1 h2
   split at h
   ·rename_i h3
    have hk:e.kids=[]:=List.eq_nil_of_length_eq_zero (by omega)
    have ho:e.ops=[]:=List.eq_nil_of_length_eq_zero (by omega)
    rw [hk,ho]
    exact ⟨fun k hk=> (by cases hk),fun o ho=> (by cases ho)⟩
   ·simp only [Bool.and_eq_true] at h
    exact ⟨fun k hk=> Z8i h.1.1.1.2 hk,fun o ho=> rightOs_mem h.1.2 ho⟩
theorem ZdV{e:Edit}(h:JZ e=true):e.kind=0∧ZM e.old=true∧ZM e.new=true∧e.words=[]∧e.kids=[]∧e.ops=[]∧e.list=0:=by
 simp only [JZ,Bool.and_eq_true,decide_eq_true_eq] at h
 obtain ⟨⟨⟨h1,h2⟩,h3⟩,h4,h5,h6,h7⟩:=h
 exact ⟨h1,h2,h3,List.eq_nil_of_length_eq_zero h4,List.eq_nil_of_length_eq_zero h5,List.eq_nil_of_length_eq_zero h6,h7⟩
theorem Z1Q{e:Edit}(h:JZ e=true)(d:Int)(hd:d≠0):Z4 e d=true:=by
 obtain ⟨h1,h2,h3,h4,h5,h6,h7⟩:=ZdV h
 rw [Z2n,h1,h2,h3,h4,h5,h6,h7,if_neg (by omega),if_neg (by simp),if_neg (by omega)]
 simp [Zu,ZE,ZB,JX,JW]
theorem Zbj{list:Int}{o:Op}{d:Int}(h:Zf list o d=true):∃ d',Z4 o.e d'=true:=by
 rw [Js] at h
 split at h
 ·simp only [Bool.and_eq_true] at h
  exact ⟨1,Z1Q h.2 1 (by omega)⟩
 ·split at h
  ·cases h
  ·split at h
   ·simp only [Bool.and_eq_true] at h
    exact ⟨1,Z1Q h.2 1 (by omega)⟩
   ·simp only [Bool.and_eq_true] at h
    exact ⟨d,h.1.2⟩
theorem c55:Contract Try.prog cfg 55 Z9I:=by
 refine ZsB c65 ?_
 intro N e _ hp hN
 simp only [Zad,ZeI] at hp hN
 obtain ⟨⟨hm,hr⟩,dd,hrt⟩:=hp
 obtain ⟨ik,ro,rn,rw',il,rk,ros⟩:=Z0O hr
 have hme:=Y6 e
 have hkl:=Y4 e.kids
 have hol:=Y3 e.ops
 have hat:=Zc4 e
 obtain ⟨hrk,hro⟩:=Z2m hrt
 refine ZwH N e _ ?_;(try simp only [vcT,forall_eq])
 (simp only [vcS]);(try simp only [vcT]);(try simp only [vcU])
 try (simp only [Tree.eta,Edit.eta,Tree.kind_mk,Tree.words_mk,Tree.kids_mk])
 refine ⟨⟨hm,fun o ho=> Z4C (hro o ho)⟩,fun hq=> Z2 rfl (by rw [hat,decide_eq_false (by omega)];rfl),fun hq=> ?_⟩
 rw [decide_eq_true (by omega),Bool.true_and] at hat
 refine Za (ι:=Int) (fun p=> Z6Y e p) (fun p=> 0≤p∧p≤e.kids.length∧Z0T (e.kids.drop p.toNat)=Z0T e.kids) (fun p=> ((e.kids.length:Int) - p).toNat) 0 rfl ⟨by omega,by omega,by simp⟩ ?_
 rintro i ⟨h4,h5,h6⟩
 refine ZoH N e i _ _ ?_;(try simp only [vcT,forall_eq])
 (simp only [vcS]);(try simp only [vcT]);(try simp only [vcU])
 try (simp only [Tree.eta,Edit.eta,Tree.kind_mk,Tree.words_mk,Tree.kids_mk])
 refine ⟨fun hi=> ?_,fun hi=> ?_⟩
 ·have hmem:=Zl (l:=e.kids) (i:=i.toNat) (by omega) (KidOf.mk 0 Edit.nil)
  have hrr:=Z14 rk hmem
  have hmm:=YC hmem
  have hri:=hrk _ hmem
  rw [ZR h4 hi (KidOf.mk 0 Edit.nil)] at h6
  simp only [Z0T,Z8I] at h6
  generalize e.kids.getD i.toNat (KidOf.mk 0 Edit.nil)=k at*
  refine ⟨⟨h4,hi⟩,⟨⟨by dsimp only;omega,hrr.2⟩,_,hri.1⟩,by simp only [ZeI];omega,fun hq=> Z2 rfl (by rw [hat,←h6,hq];rfl),fun hq=> ⟨by unfold InR;omega,i+1,rfl,⟨by omega,by omega,by rw [←h6,hq];rfl⟩,by omega⟩⟩
 ·have hw:Z0T e.kids=true:=by
   rw [←h6,List.drop_of_length_le (by omega)];try rfl
  rw [hw,Bool.true_and] at hat
  refine Za (ι:=Int) (fun p=> Z6X e p) (fun p=> 0≤p∧p≤e.ops.length∧Z20 (e.ops.drop p.toNat)=Z20 e.ops) (fun p=> ((e.ops.length:Int) - p).toNat) 0 rfl ⟨by omega,by omega,by simp⟩ ?_
  rintro j ⟨g4,g5,g6⟩
  refine ZoG N e j _ _ ?_;(try simp only [vcT,forall_eq])
  (simp only [vcS]);(try simp only [vcT]);(try simp only [vcU])
  try (simp only [Tree.eta,Edit.eta,Tree.kind_mk,Tree.words_mk,Tree.kids_mk])
  refine ⟨fun hi=> ?_,fun hi=> ?_⟩
  ·have hmem:=Zl (l:=e.ops) (i:=j.toNat) (by omega) Op.nil
   have hrr:=Z98 (Z13 ros hmem)
   have hmm:=Y2 hmem
   have hri:=Zbj (hro _ hmem)
   rw [Yg] at hmm
   rw [ZR g4 hi Op.nil] at g6
   simp only [Z20,ZaO] at g6
   generalize e.ops.getD j.toNat Op.nil=o at*
   refine ⟨⟨g4,hi⟩,⟨⟨by dsimp only;omega,hrr.2.2.2⟩,hri⟩,by simp only [ZeI];omega,fun hq=> Z2 rfl (by rw [hat,←g6,hq];rfl),fun hq=> ⟨by unfold InR;omega,j+1,rfl,⟨by omega,by omega,by rw [←g6,hq];rfl⟩,by omega⟩⟩
  ·refine Z2 rfl ?_
   rw [hat,←g6,List.drop_of_length_le (by omega)];try rfl
theorem c15:Contract Try.prog cfg 15 Z9U:=by
 refine ZsQ c54 Zti.1 c55 ?_
 intro e _ hp
 simp only [ZhY] at hp
 refine ZwY e _ ?_;(try simp only [vcT,forall_eq])
 try (simp only [Tree.eta,Edit.eta,Tree.kind_mk,Tree.words_mk,Tree.kids_mk])
 refine ⟨hp.1,fun hf=> ?_,fun hf=> ?_,Z2 rfl ?_⟩
 ·have:=Z82 (by simpa using hf)
  exact ⟨⟨by dsimp only;omega,hp.2⟩,by dsimp only;omega,by dsimp only;omega⟩
 ·simp only [ZgR,decide_eq_true_eq] at hf
  have:=Z82 hf.1
  exact ⟨⟨by dsimp only;omega,hp.2⟩,64,hf.2⟩
 ·show _=JY e
  simp only [JY]
  rw [Bool.eq_iff_iff]
  (simp only [vcS])
end Go.AM.Ytpjenobkibfpcaa
namespace Go.AM
noncomputable def eqX{α:Type}(a b:α):Bool:=@decide (a=b) (Classical.propDecidable _)
theorem Z0p{α:Type}{a b:α}:eqX a b=true↔a=b:=by unfold eqX;exact @decide_eq_true_iff _ (Classical.propDecidable _)
@[simp] theorem Z2H {α:Type} (a:α):eqX a a=true:=Z0p.2 rfl
def Z7C(o:Op):Prop:=
 (o.kind=0∧o.l=[]∧(1≤o.n∧o.n≤1048576)∧o.e=Edit.nil)∨((o.kind=1∨o.kind=2)∧o.n=0∧o.l≠[]∧o.e=Edit.nil)∨(o.kind=3∧o.n=0∧o.l=[])
def Zx1(l:List Op):Prop:=(∀ o∈l,Z7C o)∧Zd l≤20000000000
def Z2d:List Op→Int
 | []=> 0
 | o ::r=> Zr o+Z2d r
end Go.AM
