import Derived.Test.YtpjenobkibfpcaaKD20
import Derived.Test.YtpjenobkibfpcaaKRB07
import Derived.Test.YtpjenobkibfpcaaCmZ
set_option linter.unusedSimpArgs false
set_option linter.unusedVariables false
namespace Go.AM.Ytpjenobkibfpcaa
open Go.AM Go.Proofs
noncomputable section
def ZnK:ArgL (Int × Unit):=(.cons (Yt .u64) .nil)
def Zen(a:Int × Unit):Prop:=0≤a.1∧a.1 < 18446744073709551616
def ZlF(a:Int × Unit):V U:= .agg [.int .u8 (Zn a.1 0),.int .u8 (Zn a.1 1),.int .u8 (Zn a.1 2),.int .u8 (Zn a.1 3),.int .u8 (Zn a.1 4),.int .u8 (Zn a.1 5),.int .u8 (Zn a.1 6),.int .u8 (Zn a.1 7)]
def Z9K:Fs U:=fs ZnK (fun a=> [Zen a]) ZlF
def ZnJ:ArgL (Int × Int × Unit):=(.cons (Yt .u8) (.cons (Yt .i64) .nil))
def ZhV(a:Int × Int × Unit):Prop:=(0≤a.1∧a.1 < 256)∧0≤a.2.1∧a.2.1≤8
def Zrc(a:Int × Int × Unit):V U:= .c (.bool (ZbZ a.1 a.2.1))
def Z9J:Fs U:=fs ZnJ (fun a=> [ZhV a]) Zrc
def ZnI:ArgL (List Int × Int × Unit):=(.cons (aSl .u8) (.cons (Yt .i64) .nil))
def Zmf(a:List Int × Int × Unit):Prop:=a.2.1=0∧a.1.length=8∧∀ x∈a.1,0≤x∧x < 256
def Zrb(a:List Int × Int × Unit):V U:= .c (.int .u64 (of8 (fun i=> a.1.getD i 0)))
def Z9I:Fs U:=fs ZnI (fun a=> [Zmf a]) Zrb
def Zje:ArgL (Int × Int × Int × Unit):=(.cons (Yt .u64) (.cons (Yt .u64) (.cons (Yt .u8) .nil)))
def ZcX(a:Int × Int × Int × Unit):Prop:=(0≤a.1∧a.1 < 18446744073709551616)∧(0≤a.2.1∧a.2.1 < 18446744073709551616)∧(0≤a.2.2.1∧a.2.2.1 < 256)
def Zm1(a:Int × Int × Int × Unit):V U:= .c (.int .u64 (mix a.1 a.2.1 a.2.2.1))
def Z6c:Fs U:=fs Zje (fun a=> [ZcX a]) Zm1
def ZnO:ArgL (Tree × Unit):=(.cons (aEl .tree) .nil)
def Z3V(a:Tree × Unit):Prop:=Zj a.1≤20000000000
def Zrf(a:Tree × Unit):V U:= .c (.bool (ZM a.1))
def Z2V:Fs U:=fs ZnO (fun a=> [Z3V a]) Zrf
def ZnN:ArgL (Int × Int × Unit):=(.cons (Yt .u64) (.cons (Yt .u8) .nil))
def ZhW(a:Int × Int × Unit):Prop:=(0≤a.1∧a.1 < 18446744073709551616)∧(0≤a.2.1∧a.2.1 < 256)
def Zre(a:Int × Int × Unit):V U:= .c (.bool (Z0g a.1 a.2.1))
def Z7s:Fs U:=fs ZnN (fun a=> [ZhW a]) Zre
def Zjd:ArgL (Edit × Unit):=(.cons (aEl .edit) .nil)
def Z5C(a:Edit × Unit):Prop:=Zg a.1≤20000000000
def Zm0(a:Edit × Unit):V U:= .c (.bool (Z00 a.1))
def Z4y:Fs U:=fs Zjd (fun a=> [Z5C a]) Zm0
def ZnM:ArgL (Edit × Unit):=(.cons (aEl .edit) .nil)
def Zeo(a:Edit × Unit):Prop:=Zg a.1≤20000000000∧∀ o∈Edit.ops a.1,0≤o.n∧o.n≤1048576
def ZlG(a:Edit × Unit):V U:= .tup [(false,[ci (JY a.1.ops 0)]),(false,[ci (JX a.1.ops 0)])]
def Z2U:Fs U:=fs ZnM (fun a=> [Zeo a]) ZlG
def ZgX:ArgL (Edit × Int × Int × Unit):=(.cons (aEl .edit) (.cons (Yt .i64) (.cons (Yt .i64) .nil)))
def Zah(a:Edit × Int × Int × Unit):Prop:=Z27 a.1∧0≤a.2.1∧a.2.1≤4611686018427387904∧-1≤a.2.2.1∧a.2.2.1≤4611686018427387904
def ZeI(a:Edit × Int × Int × Unit):Nat:=Zg a.1
def ZhI(a:Edit × Int × Int × Unit):V U:= .c (ci (JR a.1 a.2.1 a.2.2.1))
def Z9A:Fs U:=fs ZgX (fun a=> [Zah a]) ZhI
def ZnQ:ArgL (Edit × Unit):=(.cons (aEl .edit) .nil)
def Zmg(a:Edit × Unit):Prop:=Z27 a.1
def Zrh(a:Edit × Unit):V U:= .c (.bool (decide (0≤JR a.1 80 3000)))
def Z9O:Fs U:=fs ZnQ (fun a=> [Zmg a]) Zrh
def ZgB:List (FuncId × Fs U):=[]
def ZpW:Zi U:=lvl [([0,2],[2]),([0,2,3],[2,3]),([0,2,3,4],[2,3]),([0,2,3,4,7],[2,3]),([0,2,3,4],[2,3]),([0,2,3,4],[2,3]),([0,2,3,4],[2,3]),([2],[2])]
def Z4g(w x0 x4 ml3_0 ml3_1 ml3_2 ml3_3 ml3_4 ml3_5 ml3_6 ml3_7:Int):LSt U:=(L2 [(0,.c (.int .u64 x0)),(2,.ptr (.loc 2) 0),(3,.ptr (.loc 3) 0),(4,.c (ci x4))] [(.loc 2,zc0),(.loc 3,[.int .u8 ml3_0,.int .u8 ml3_1,.int .u8 ml3_2,.int .u8 ml3_3,.int .u8 ml3_4,.int .u8 ml3_5,.int .u8 ml3_6,.int .u8 ml3_7])])
abbrev A67(p:List Nat):=AW (Z0 ZgB) Try.f67 ZpW p
abbrev S67(p:List Nat):=SW (Z0 ZgB) Try.f67 ZpW p
theorem ZwA(w:Int)(Q:QT)(h:(Zh (A67 [1,1,0,1,0,0]) (Z4g w w 0 0 0 0 0 0 0 0 0) (xB 0 (S67 [1,1,1] Q)))):
  A67 [] (L2 [(0,.c (.int .u64 w))] []) Q:=
 Eq.mpr (by kernel_rfl) h
theorem Zoz(w x0 x4 ml3_0 ml3_1 ml3_2 ml3_3 ml3_4 ml3_5 ml3_6 ml3_7:Int)(N0:NT)(Q:QT)(h:let z0:=IntKind.wrap .u8 (Int.tmod x0 256);(((decide (x4 < 8))=true→((256:Int)≠0)∧((0:Int)≤x4∧x4 < ((8:Nat):Int))∧(((256:Int)≠0)∧((InR (x4+1))∧(N0 (Z4g w (IntKind.wrap .u64 (Int.tdiv x0 256)) (x4+1) (Z0C x4 0 z0 ml3_0) (Z0C x4 1 z0 ml3_1) (Z0C x4 2 z0 ml3_2) (Z0C x4 3 z0 ml3_3) (Z0C x4 4 z0 ml3_4) (Z0C x4 5 z0 ml3_5) (Z0C x4 6 z0 ml3_6) (Z0C x4 7 z0 ml3_7))))))∧((decide (x4 < 8))=false→(Q .ret (L2 [(2,.ptr (.loc 2) 0)] [(.loc 2,[.int .u8 ml3_0,.int .u8 ml3_1,.int .u8 ml3_2,.int .u8 ml3_3,.int .u8 ml3_4,.int .u8 ml3_5,.int .u8 ml3_6,.int .u8 ml3_7])]))))):
  A67 [1,1,0,1,0,0] (Z4g w x0 x4 ml3_0 ml3_1 ml3_2 ml3_3 ml3_4 ml3_5 ml3_6 ml3_7) (xT N0 (xB 0 (S67 [1,1,1] Q))):=
 Eq.mpr (by kernel_rfl) h
def Zuk(w:Int):Prop:=AW (Z0 ZgB) Try.f67 ZpW [] (Zm (ZnK.can (w,())) []) (EQ Try.f67 (ZlF (w,())) [])
theorem Zsw(hb:∀ (w:Int) (_:Unit),Zen (w,())→Zuk w):CT 67 Z9K:=
 Z3 (l:=[]) Zk rfl trivial ZpW Try.func67 rfl rfl 1 (fun _=> rfl) (by decide) (fun ⟨w,_⟩=> hb w ())
def ZgA:List (FuncId × Fs U):=[]
def ZpV:Zi U:=lvl [([0,1],[]),([0,1,5],[]),([0,1,5,8],[]),([0,1,5],[]),([0,1,5],[]),([4],[])]
def Z6V(m i x0 x5:Int):LSt U:=(L2 [(0,.c (.int .u8 x0)),(1,.c (ci i)),(5,.c (ci x5))] [])
abbrev A68(p:List Nat):=AW (Z0 ZgA) Try.f68 ZpV p
abbrev S68(p:List Nat):=SW (Z0 ZgA) Try.f68 ZpV p
theorem Zwz(m i:Int)(Q:QT)(h:(Zh (A68 [1,0,1,0,0]) (Z6V m i m 0) (xB 0 (S68 [1,1] Q)))):
  A68 [] (L2 [(0,.c (.int .u8 m)),(1,.c (ci i))] []) Q:=
 Eq.mpr (by kernel_rfl) h
theorem Zoy(m i x0 x5:Int)(N0:NT)(Q:QT)(h:(((decide (x5 < i))=true→((2:Int)≠0)∧((InR (x5+1))∧(N0 (Z6V m i (IntKind.wrap .u8 (Int.tdiv x0 2)) (x5+1)))))∧((decide (x5 < i))=false→((2:Int)≠0)∧(Q .ret (L2 [(4,.c (.bool (((Int.tmod x0 2):Int)==1)))] []))))):
  A68 [1,0,1,0,0] (Z6V m i x0 x5) (xT N0 (xB 0 (S68 [1,1] Q))):=
 Eq.mpr (by kernel_rfl) h
def Zuj(m i:Int):Prop:=AW (Z0 ZgA) Try.f68 ZpV [] (Zm (ZnJ.can (m,i,())) []) (EQ Try.f68 (Zrc (m,i,())) [])
theorem Zsv(hb:∀ (m:Int) (i:Int) (_:Unit),ZhV (m,i,())→Zuj m i):CT 68 Z9J:=
 Z3 (l:=[]) Zk rfl trivial ZpV Try.func68 rfl rfl 2 (fun _=> rfl) (by decide) (fun ⟨m,i,_⟩=> hb m i ())
def Zgz:List (FuncId × Fs U):=[]
def ZpU:Zi U:=lvl [([0,1],[]),([0,1,5],[]),([0,1,5,6],[]),([0,1,5,6,8],[]),([0,1,5,6],[]),([0,1,5,6],[]),([4],[])]
def Z6U(b:List Int)(from_ x5 x6:Int):LSt U:=(L2 [(0,.c (sU .u8 b .unk)),(1,.c (ci from_)),(5,.c (.int .u64 x5)),(6,.c (ci x6))] [])
abbrev A69(p:List Nat):=AW (Z0 Zgz) Try.f69 ZpU p
abbrev S69(p:List Nat):=SW (Z0 Zgz) Try.f69 ZpU p
theorem Zwy(b:List Int)(from_:Int)(Q:QT)(h:(Zh (A69 [1,1,0,1,0,0]) (Z6U b from_ 0 7) (xB 0 (S69 [1,1,1] Q)))):
  A69 [] (L2 [(0,.c (sU .u8 b .unk)),(1,.c (ci from_))] []) Q:=
 Eq.mpr (by kernel_rfl) h
theorem Zox(b:List Int)(from_ x5 x6:Int)(N0:NT)(Q:QT)(h:(((decide ((0:Int)≤x6))=true→(InR (from_+x6))∧((0:Int)≤(from_+x6)∧(from_+x6) < (b.length:Int))∧((InR (x6 - 1))∧(N0 (Z6U b from_ (IntKind.wrap .u64 (((IntKind.wrap .u64 (x5*256)):Int)+(IntKind.wrap .u64 (List.getD b (Int.toNat (from_+x6)) (0:Int))))) (x6 - 1)))))∧((decide ((0:Int)≤x6))=false→(Q .ret (L2 [(4,.c (.int .u64 x5))] []))))):
  A69 [1,1,0,1,0,0] (Z6U b from_ x5 x6) (xT N0 (xB 0 (S69 [1,1,1] Q))):=
 Eq.mpr (by kernel_rfl) h
def Zui(b:List Int)(from_:Int):Prop:=AW (Z0 Zgz) Try.f69 ZpU [] (Zm (ZnI.can (b,from_,())) []) (EQ Try.f69 (Zrb (b,from_,())) [])
theorem Zsu(hb:∀ (b:List Int) (from_:Int) (_:Unit),Zmf (b,from_,())→Zui b from_):CT 69 Z9I:=
 Z3 (l:=[]) Zk rfl trivial ZpU Try.func69 rfl rfl 2 (fun _=> rfl) (by decide) (fun ⟨b,from_,_⟩=> hb b from_ ())
def Zdg:List (FuncId × Fs U):=[(67,Z9K),(68,Z9J),(69,Z9I)]
def Zil:Zi U:=lvl [([0,1,2],[]),([2,7,8],[7,8]),([2,7,8,9],[7,8]),([2,7,8,9,15],[7,8]),([2,7,8,9],[7,8]),([2,7,8,9,20],[7,8]),([2,7,8,9],[7,8]),([6],[])]
def Z1j(a b m x9 ml7_0 ml7_1 ml7_2 ml7_3 ml7_4 ml7_5 ml7_6 ml7_7:Int):LSt U:=(L2 [(2,.c (.int .u8 m)),(7,.ptr (.loc 7) 0),(8,.ptr (.loc 8) 0),(9,.c (ci x9))] [(.loc 7,[.int .u8 ml7_0,.int .u8 ml7_1,.int .u8 ml7_2,.int .u8 ml7_3,.int .u8 ml7_4,.int .u8 ml7_5,.int .u8 ml7_6,.int .u8 ml7_7]),(.loc 8,[.int .u8 (Zn b 0),.int .u8 (Zn b 1),.int .u8 (Zn b 2),.int .u8 (Zn b 3),.int .u8 (Zn b 4),.int .u8 (Zn b 5),.int .u8 (Zn b 6),.int .u8 (Zn b 7)])])
abbrev ZuN(p:List Nat):=AW (Z0 Zdg) Try.f103 Zil p
abbrev Zw6(p:List Nat):=SW (Z0 Zdg) Try.f103 Zil p
theorem Zvo(a b m:Int)(Q:QT)(h:((Zen (a,()))∧(Zen (b,()))∧(Zh (ZuN [1,1,0,1,0,0]) (Z1j a b m 0 (Zn a 0) (Zn a 1) (Zn a 2) (Zn a 3) (Zn a 4) (Zn a 5) (Zn a 6) (Zn a 7)) (xB 0 (Zw6 [1,1,1] Q))))):
  ZuN [] (L2 [(0,.c (.int .u64 a)),(1,.c (.int .u64 b)),(2,.c (.int .u8 m))] []) Q:=
 Eq.mpr (by kernel_rfl) h
theorem Zll(a b m x9 ml7_0 ml7_1 ml7_2 ml7_3 ml7_4 ml7_5 ml7_6 ml7_7:Int)(N0:NT)(Q:QT)(h:let z0:=List.getD [Zn b 0,Zn b 1,Zn b 2,Zn b 3,Zn b 4,Zn b 5,Zn b 6,Zn b 7] x9.toNat 0;(((decide (x9 < 8))=true→(ZhV (m,x9,()))∧(((ZbZ m x9)=true→((0:Int)≤x9∧x9 < ((8:Nat):Int))∧((0:Int)≤x9∧x9 < ((8:Nat):Int))∧((InR (x9+1))∧(N0 (Z1j a b m (x9+1) (Z0C x9 0 z0 ml7_0) (Z0C x9 1 z0 ml7_1) (Z0C x9 2 z0 ml7_2) (Z0C x9 3 z0 ml7_3) (Z0C x9 4 z0 ml7_4) (Z0C x9 5 z0 ml7_5) (Z0C x9 6 z0 ml7_6) (Z0C x9 7 z0 ml7_7)))))∧((ZbZ m x9)=false→(InR (x9+1))∧(N0 (Z1j a b m (x9+1) ml7_0 ml7_1 ml7_2 ml7_3 ml7_4 ml7_5 ml7_6 ml7_7)))))∧((decide (x9 < 8))=false→(Zmf (([ml7_0,ml7_1,ml7_2,ml7_3,ml7_4,ml7_5,ml7_6,ml7_7]),0,()))∧(Q .ret (L2 [(6,.c (.int .u64 (of8 (fun i=> ([ml7_0,ml7_1,ml7_2,ml7_3,ml7_4,ml7_5,ml7_6,ml7_7]).getD i 0))))] []))))):
  ZuN [1,1,0,1,0,0] (Z1j a b m x9 ml7_0 ml7_1 ml7_2 ml7_3 ml7_4 ml7_5 ml7_6 ml7_7) (xT N0 (xB 0 (Zw6 [1,1,1] Q))):=
 Eq.mpr (by kernel_rfl) h
def Zr5(a b m:Int):Prop:=AW (Z0 Zdg) Try.f103 Zil [] (Zm (Zje.can (a,b,m,())) []) (EQ Try.f103 (Zm1 (a,b,m,())) [])
theorem ZpK(c67:CT 67 Z9K)(c68:CT 68 Z9J)(c69:CT 69 Z9I)(hb:∀ (a:Int) (b:Int) (m:Int) (_:Unit),ZcX (a,b,m,())→Zr5 a b m):CT 103 Z6c:=
 Z3 (l:=[(67,Z9K),(68,Z9J),(69,Z9I)]) Zk rfl (⟨c67,c68,c69,trivial⟩) Zil Try.func103 rfl rfl 3 (fun _=> rfl) (by decide) (fun ⟨a,b,m,_⟩=> hb a b m ())
def Zn2:List (FuncId × Fs U):=[]
def Zt1:Zi U:=lvl [([1],[1]),([2],[])]
abbrev A62(p:List Nat):=AW (Z0 Zn2) Try.f62 Zt1 p
theorem ZwF(t:Tree)(Q:QT)(h:((Tr ((t.kind==0)=true))∧(Tr ((t.kind==0)=true))∧(Tr ((t.kind==0)=true))∧(Tr ((t.kind==0)=true))∧(Tr ((t.kind==0)=true))∧(Tr ((t.kind==0)=true))∧((t.kind==0)=true→InR (((t.words.length:Int):Int)+(t.kids.length:Int)))∧(Tr ((t.kind==0)=true))∧(Tr ((t.kind==0)=true))∧(Q .ret (L2 [(2,.c (.bool (bif (t.kind==0) then (((((t.words.length:Int):Int)+(t.kids.length:Int)):Int)==0) else false)))] [])))):
  A62 [] (L2 [(0,.agg (enc .tree t))] []) Q:=
 Eq.mpr (by kernel_rfl) h
def Zup(t:Tree):Prop:=AW (Z0 Zn2) Try.f62 Zt1 [] (Zm (ZnO.can (t,())) []) (EQ Try.f62 (Zrf (t,())) [])
theorem ZsA(hb:∀ (t:Tree) (_:Unit),Z3V (t,())→Zup t):CT 62 Z2V:=
 Z3 (l:=[]) Zk rfl trivial Zt1 Try.func62 rfl rfl 1 (fun _=> rfl) (by decide) (fun ⟨t,_⟩=> hb t ())
def Zn1:List (FuncId × Fs U):=[(103,Z6c)]
def Zt0:Zi U:=lvl [([0,1],[]),([4],[])]
abbrev A63(p:List Nat):=AW (Z0 Zn1) Try.f63 Zt0 p
theorem ZwE(w m:Int)(Q:QT)(h:((ZcX (w,0,m,()))∧(Q .ret (L2 [(4,.c (.bool (((mix w 0 m):Int)==0)))] [])))):
  A63 [] (L2 [(0,.c (.int .u64 w)),(1,.c (.int .u8 m))] []) Q:=
 Eq.mpr (by kernel_rfl) h
def Zuo(w m:Int):Prop:=AW (Z0 Zn1) Try.f63 Zt0 [] (Zm (ZnN.can (w,m,())) []) (EQ Try.f63 (Zre (w,m,())) [])
theorem Zsz(ZtJ:CT 103 Z6c)(hb:∀ (w:Int) (m:Int) (_:Unit),ZhW (w,m,())→Zuo w m):CT 63 Z7s:=
 Z3 (l:=[(103,Z6c)]) Zk rfl (⟨ZtJ,trivial⟩) Zt0 Try.func63 rfl rfl 2 (fun _=> rfl) (by decide) (fun ⟨w,m,_⟩=> hb w m ())
def ZiD:List (FuncId × Fs U):=[(62,Z2V)]
def ZmO:Zi U:=lvl [([1],[1]),([2],[])]
abbrev Zxe(p:List Nat):=AW (Z0 ZiD) Try.f104 ZmO p
theorem Zvn(e:Edit)(Q:QT)(h:∀ y_1,y_1=(e.new)→∀ y_2,y_2=(e.old)→let z2:=bif (e.kind==0) then (ZM y_2) else false;let z0:=bif z2 then (ZM y_1) else false;let z1:=bif z0 then (((((((e.words.length:Int):Int)+(e.kids.length:Int)):Int)+(e.ops.length:Int)):Int)==0) else false;((Tr ((e.kind==0)=true))∧(Tr ((e.kind==0)=true))∧((e.kind==0)=true→Z3V (y_2,()))∧(Tr ((e.kind==0)=true))∧(Tr (z2=true))∧(Tr (z2=true))∧(z2=true→Z3V (y_1,()))∧(Tr (z2=true))∧(Tr (z0=true))∧(Tr (z0=true))∧(Tr (z0=true))∧(Tr (z0=true))∧(Tr (z0=true))∧(Tr (z0=true))∧(z0=true→InR (((e.words.length:Int):Int)+(e.kids.length:Int)))∧(Tr (z0=true))∧(Tr (z0=true))∧(Tr (z0=true))∧(Tr (z0=true))∧(z0=true→InR (((((e.words.length:Int):Int)+(e.kids.length:Int)):Int)+(e.ops.length:Int)))∧(Tr (z0=true))∧(Tr (z0=true))∧(Tr (z1=true))∧(Tr (z1=true))∧(Tr (z1=true))∧(Q .ret (L2 [(2,.c (.bool (bif z1 then (e.list==0) else false)))] [])))):
  Zxe [] (L2 [(0,.agg (enc .edit e))] []) Q:=
 Eq.mpr (by kernel_rfl) (h _ (Zc _) _ (Zc _))
def Zr4(e:Edit):Prop:=AW (Z0 ZiD) Try.f104 ZmO [] (Zm (Zjd.can (e,())) []) (EQ Try.f104 (Zm0 (e,())) [])
theorem ZpJ(c62:CT 62 Z2V)(hb:∀ (e:Edit) (_:Unit),Z5C (e,())→Zr4 e):CT 104 Z4y:=
 Z3 (l:=[(62,Z2V)]) Zk rfl (⟨c62,trivial⟩) ZmO Try.func104 rfl rfl 1 (fun _=> rfl) (by decide) (fun ⟨e,_⟩=> hb e ())
def ZgC:List (FuncId × Fs U):=[]
def ZpX:Zi U:=lvl [([1],[1]),([1,4,5],[1]),([1,4,5,6],[1]),([1,4,5,6,13],[1]),([1,4,5,6],[1]),([1,4,5,6,7],[1,7]),([1,4,5,6,7,8],[1,7]),([1,4,5,6,7,8,29],[1,7]),([1,4,5,6,7,8,29],[1,7]),([1,4,5,6,7,8,32],[1,7]),([1,4,5,6,7,8,32],[1,7]),([1,4,5,6,8,38],[1]),([1,4,5,6,8,38],[1]),([1,4,5,6,43],[1]),([1,4,5,6,43],[1]),([1,4,5,6,45],[1]),([1,4,5,6],[1]),([2,3],[])]
def Z1G(e:Edit)(x4 x5 x6:Int):LSt U:=(L2 [(1,.ptr (.loc 1) 0),(4,.c (ci x4)),(5,.c (ci x5)),(6,.c (ci x6))] [(.loc 1,(enc .edit e))])
def Z6Z(e:Edit)(x4 x5 x6 x8_a:Int):LSt U:=(L2 [(1,.ptr (.loc 1) 0),(4,.c (ci x4)),(5,.c (ci x5)),(6,.c (ci x6)),(7,.ptr (.loc 7) 0),(8,.c (ci x8_a)),(29,.c (.bool (((OpOf.kind (e.ops.getD x6.toNat Op.nil)):Int)==3)))] [(.loc 1,(enc .edit e)),(.loc 7,(enc .op (e.ops.getD x6.toNat Op.nil)))])
def Z6Y(e:Edit)(x5 x6 x8_a x4_b:Int):LSt U:=(L2 [(1,.ptr (.loc 1) 0),(4,.c (ci x4_b)),(5,.c (ci x5)),(6,.c (ci x6)),(7,.ptr (.loc 7) 0),(8,.c (ci x8_a)),(32,.c (.bool (((OpOf.kind (e.ops.getD x6.toNat Op.nil)):Int) !=2)))] [(.loc 1,(enc .edit e)),(.loc 7,(enc .op (e.ops.getD x6.toNat Op.nil)))])
def Z6X(e:Edit)(x6 x8_a x4_b x5_c:Int):LSt U:=(L2 [(1,.ptr (.loc 1) 0),(4,.c (ci x4_b)),(5,.c (ci x5_c)),(6,.c (ci x6)),(8,.c (ci x8_a)),(38,.c (.bool (((OpOf.kind (e.ops.getD x6.toNat Op.nil)):Int) !=1)))] [(.loc 1,(enc .edit e))])
def Z6W(e:Edit)(x6 x4_b x5_c x4_d:Int):LSt U:=(L2 [(1,.ptr (.loc 1) 0),(4,.c (ci x4_d)),(5,.c (ci x5_c)),(6,.c (ci x6)),(43,.c (.bool (decide ((1048576:Int) < x4_b))))] [(.loc 1,(enc .edit e))])
abbrev A65(p:List Nat):=AW (Z0 ZgC) Try.f65 ZpX p
abbrev S65(p:List Nat):=SW (Z0 ZgC) Try.f65 ZpX p
theorem ZwC(e:Edit)(Q:QT)(h:(Zh (A65 [1,1,0,1,0,0]) (Z1G e 0 0 0) (xB 0 (S65 [1,1,1] Q)))):
  A65 [] (L2 [(0,.agg (enc .edit e))] []) Q:=
 Eq.mpr (by kernel_rfl) h
abbrev ZtT(e:Edit)(x4 x5 x6:Int)(N0:NT)(Q:QT):Prop:=A65 [1,1,0,1,0,0] (Z1G e x4 x5 x6) (xT N0 (xB 0 (S65 [1,1,1] Q)))
theorem ZoA(e:Edit)(x4 x5 x6:Int)(N0:NT)(Q:QT)(h:let z2:=decide (x6 < (e.ops.length:Int));let z1:=xB 1 (S65 [1,1,0,1,0,0,1,1] (xT N0 (xB 0 (S65 [1,1,1] Q))));let z0:=e.ops.getD x6.toNat Op.nil;((z2=true→((0:Int)≤x6∧x6 < (e.ops.length:Int))∧((InR (((OpOf.n z0):Int)+((OpOf.l z0).length:Int)))∧(((((OpOf.kind z0):Int)==3)=true→(A65 [1,1,0,1,0,0,1,0,0,1,1,1] (Z6Z e x4 x5 x6 1) z1))∧((((OpOf.kind z0):Int)==3)=false→A65 [1,1,0,1,0,0,1,0,0,1,1,1] (Z6Z e x4 x5 x6 (((OpOf.n z0):Int)+((OpOf.l z0).length:Int))) z1))))∧(z2=false→(Q .ret (L2 [(2,.c (ci x4)),(3,.c (ci x5))] []))))):
  A65 [1,1,0,1,0,0] (Z1G e x4 x5 x6) (xT N0 (xB 0 (S65 [1,1,1] Q))):=
 Eq.mpr (by kernel_rfl) h
abbrev ZtX(e:Edit)(x4 x5 x6 x8_a:Int)(N0:NT)(Q:QT):Prop:=A65 [1,1,0,1,0,0,1,0,0,1,1,1] (Z6Z e x4 x5 x6 x8_a) (xB 1 (S65 [1,1,0,1,0,0,1,1] (xT N0 (xB 0 (S65 [1,1,1] Q)))))
theorem ZoE(e:Edit)(x4 x5 x6 x8_a:Int)(N0:NT)(Q:QT)(h:let z1:=((OpOf.kind (e.ops.getD x6.toNat Op.nil)):Int) !=2;let z0:=xB 1 (S65 [1,1,0,1,0,0,1,1] (xT N0 (xB 0 (S65 [1,1,1] Q))));((z1=true→(InR (x4+x8_a))∧(A65 [1,1,0,1,0,0,1,0,0,1,1,1,1] (Z6Y e x5 x6 x8_a (x4+x8_a)) z0))∧(z1=false→A65 [1,1,0,1,0,0,1,0,0,1,1,1,1] (Z6Y e x5 x6 x8_a x4) z0))):
  A65 [1,1,0,1,0,0,1,0,0,1,1,1] (Z6Z e x4 x5 x6 x8_a) (xB 1 (S65 [1,1,0,1,0,0,1,1] (xT N0 (xB 0 (S65 [1,1,1] Q))))):=
 Eq.mpr (by kernel_rfl) h
abbrev ZtW(e:Edit)(x5 x6 x8_a x4_b:Int)(N0:NT)(Q:QT):Prop:=A65 [1,1,0,1,0,0,1,0,0,1,1,1,1] (Z6Y e x5 x6 x8_a x4_b) (xB 1 (S65 [1,1,0,1,0,0,1,1] (xT N0 (xB 0 (S65 [1,1,1] Q)))))
theorem ZoD(e:Edit)(x5 x6 x8_a x4_b:Int)(N0:NT)(Q:QT)(h:let z1:=((OpOf.kind (e.ops.getD x6.toNat Op.nil)):Int) !=1;let z0:=xB 1 (S65 [1,1,0,1,0,0,1,1] (xT N0 (xB 0 (S65 [1,1,1] Q))));((z1=true→(InR (x5+x8_a))∧(A65 [1,1,0,1,0,0,1,0,0,1,1,1,1,1] (Z6X e x6 x8_a x4_b (x5+x8_a)) z0))∧(z1=false→A65 [1,1,0,1,0,0,1,0,0,1,1,1,1,1] (Z6X e x6 x8_a x4_b x5) z0))):
  A65 [1,1,0,1,0,0,1,0,0,1,1,1,1] (Z6Y e x5 x6 x8_a x4_b) (xB 1 (S65 [1,1,0,1,0,0,1,1] (xT N0 (xB 0 (S65 [1,1,1] Q))))):=
 Eq.mpr (by kernel_rfl) h
abbrev ZtV(e:Edit)(x6 x8_a x4_b x5_c:Int)(N0:NT)(Q:QT):Prop:=A65 [1,1,0,1,0,0,1,0,0,1,1,1,1,1] (Z6X e x6 x8_a x4_b x5_c) (xB 1 (S65 [1,1,0,1,0,0,1,1] (xT N0 (xB 0 (S65 [1,1,1] Q)))))
theorem ZoC(e:Edit)(x6 x8_a x4_b x5_c:Int)(N0:NT)(Q:QT)(h:let z1:=decide ((1048576:Int) < x4_b);let z0:=xB 1 (S65 [1,1,0,1,0,0,1,1] (xT N0 (xB 0 (S65 [1,1,1] Q))));((z1=true→(A65 [1,1,0,1,0,0,1,0,0,1,1,1,1,1,1] (Z6W e x6 x4_b x5_c 1048576) z0))∧(z1=false→A65 [1,1,0,1,0,0,1,0,0,1,1,1,1,1,1] (Z6W e x6 x4_b x5_c x4_b) z0))):
  A65 [1,1,0,1,0,0,1,0,0,1,1,1,1,1] (Z6X e x6 x8_a x4_b x5_c) (xB 1 (S65 [1,1,0,1,0,0,1,1] (xT N0 (xB 0 (S65 [1,1,1] Q))))):=
 Eq.mpr (by kernel_rfl) h
abbrev ZtU(e:Edit)(x6 x4_b x5_c x4_d:Int)(N0:NT)(Q:QT):Prop:=A65 [1,1,0,1,0,0,1,0,0,1,1,1,1,1,1] (Z6W e x6 x4_b x5_c x4_d) (xB 1 (S65 [1,1,0,1,0,0,1,1] (xT N0 (xB 0 (S65 [1,1,1] Q)))))
theorem ZoB(e:Edit)(x6 x4_b x5_c x4_d:Int)(N0:NT)(Q:QT)(h:let z0:=decide ((1048576:Int) < x5_c);((z0=true→((InR (x6+1))∧(N0 (Z1G e x4_d 1048576 (x6+1)))))∧(z0=false→(InR (x6+1))∧(N0 (Z1G e x4_d x5_c (x6+1)))))):
  A65 [1,1,0,1,0,0,1,0,0,1,1,1,1,1,1] (Z6W e x6 x4_b x5_c x4_d) (xB 1 (S65 [1,1,0,1,0,0,1,1] (xT N0 (xB 0 (S65 [1,1,1] Q))))):=
 Eq.mpr (by kernel_rfl) h
def Zum(e:Edit):Prop:=AW (Z0 ZgC) Try.f65 ZpX [] (Zm (ZnM.can (e,())) []) (EQ Try.f65 (ZlG (e,())) [])
theorem Zsy(hb:∀ (e:Edit) (_:Unit),Zeo (e,())→Zum e):CT 65 Z2U:=
 Z3 (l:=[]) Zk rfl trivial ZpX Try.func65 rfl rfl 1 (fun _=> rfl) (by decide) (fun ⟨e,_⟩=> hb e ())
def Zgr(N:Nat):List (FuncId × Fs U):=(90,fs ZgX (fun a=> [Zah a,ZeI a < N]) ZhI) ::[(78,Z3D)]
def ZpM:Zi U:=lvl [([1,2,3],[3]),([1,2,3],[3]),([1,2,3,25],[3]),([6],[]),([1,2,3],[3]),([1,2,3,31],[3]),([1,2,3,31],[3]),([1,2,3,7],[3]),([1,2,3,7,44],[3]),([1,2,3,7],[3]),([1,2,3,7],[3]),([1,2,3,8],[3]),([1,2,3,8,65],[3]),([1,2,3,8],[3]),([1,2,3,8,9],[3]),([1,2,3,8,9,80],[3]),([1,2,3,8,9],[3]),([1,2,3,8,9],[3]),([1,2,3,8,95],[3]),([1,2,3,8],[3]),([6],[])]
def Z6M(e:Edit)(d n x2:Int):LSt U:=(L2 [(1,.c (ci d)),(2,.c (ci x2)),(3,.ptr (.loc 3) 0),(31,.c (.bool (decide ((0:Int)≤(ZA (Tree.mk e.old.kind e.old.words e.old.kids) 80 ((((((n:Int) - 1):Int) - (e.words.length:Int)):Int) - (e.ops.length:Int)))))))] [(.loc 3,(enc .edit e))])
def Z6L(e:Edit)(d n x2_a x7_a:Int):LSt U:=(L2 [(1,.c (ci d)),(2,.c (ci x2_a)),(3,.ptr (.loc 3) 0),(7,.c (ci x7_a))] [(.loc 3,(enc .edit e))])
def Z4f(e:Edit)(d n x2_b x8_b:Int):LSt U:=(L2 [(1,.c (ci d)),(2,.c (ci x2_b)),(3,.ptr (.loc 3) 0),(8,.c (ci x8_b))] [(.loc 3,(enc .edit e))])
def Z6K(e:Edit)(d n x8_b x2_c x9_c:Int):LSt U:=(L2 [(1,.c (ci d)),(2,.c (ci x2_c)),(3,.ptr (.loc 3) 0),(8,.c (ci x8_b)),(9,.c (ci x9_c))] [(.loc 3,(enc .edit e))])
abbrev A90(N:Nat)(p:List Nat):=AW (Z0 (Zgr N)) Try.f90 ZpM p
abbrev S90(N:Nat)(p:List Nat):=SW (Z0 (Zgr N)) Try.f90 ZpM p
theorem Zwl(N:Nat)(e:Edit)(d n:Int)(Q:QT)(h:∀ y_1,y_1=(e.new)→∀ y_2,y_2=(e.old)→∀ y_3,y_3=(ZA y_2 80 (((((n - 1):Int) - (e.words.length:Int)):Int) - (e.ops.length:Int)))→let z0:=bif (d==0) then true else (decide (((((((n - 1):Int) - (e.words.length:Int)):Int) - (e.ops.length:Int)):Int) < 0));((InR (n - 1))∧(InR (((n - 1):Int) - (e.words.length:Int)))∧(InR (((((n - 1):Int) - (e.words.length:Int)):Int) - (e.ops.length:Int)))∧((Tr ((!(d==0))=true))∧((d==0)=false→(!(d==0))=true)∧((z0=true→(Q .ret (L2 [(6,.c (ci (-1)))] [])))∧(z0=false→(Z6j (y_2,80,(((((n - 1):Int) - (e.words.length:Int)):Int) - (e.ops.length:Int)),()))∧(((decide ((0:Int)≤y_3))=true→(Z6j (y_1,80,y_3,()))∧(A90 N [1,1,1,1,1] (Z6M e d n (ZA y_1 80 y_3)) Q))∧((decide ((0:Int)≤y_3))=false→A90 N [1,1,1,1,1] (Z6M e d n y_3) Q))))))):
  A90 N [] (L2 [(0,.agg (enc .edit e)),(1,.c (ci d)),(2,.c (ci n))] []) Q:=
 Eq.mpr (by kernel_rfl) (h _ (Zc _) _ (Zc _) _ rfl)
abbrev ZtS(N:Nat)(e:Edit)(d n x2:Int)(Q:QT):Prop:=A90 N [1,1,1,1,1] (Z6M e d n x2) Q
theorem Zol(N:Nat)(e:Edit)(d n x2:Int)(Q:QT)(h:(Zh (A90 N [1,1,1,1,1,0,1,0,0]) (Z6L e d n x2 0) (xB 0 (S90 N [1,1,1,1,1,1] Q)))):
  A90 N [1,1,1,1,1] (Z6M e d n x2) Q:=
 Eq.mpr (by kernel_rfl) h
theorem Zok(N:Nat)(e:Edit)(d n x2_a x7_a:Int)(N1:NT)(Q:QT)(h:∀ y_1,y_1=(e.kids.getD x7_a.toNat (KidOf.mk 0 Edit.nil))→∀ y_2,y_2=(y_1.e)→let z0:=decide (x7_a < (e.kids.length:Int));let z1:=bif z0 then (decide ((0:Int)≤x2_a)) else false;(Tr (z0=true))∧(Tr (z0=true))∧((z1=true→((0:Int)≤x7_a∧x7_a < (e.kids.length:Int))∧(InR (d - 1))∧(Zah (y_2,(d - 1),x2_a,()))∧(ZeI (y_2,(d - 1),x2_a,()) < N)∧((InR (x7_a+1))∧(N1 (Z6L e d n (JR y_2 (d - 1) x2_a) (x7_a+1)))))∧(z1=false→(Zh (A90 N [1,1,1,1,1,1,0,1,0,0]) (Z4f e d n x2_a 0) (xB 2 (S90 N [1,1,1,1,1,1,1] Q)))))):
  A90 N [1,1,1,1,1,0,1,0,0] (Z6L e d n x2_a x7_a) (xT N1 (xB 0 (S90 N [1,1,1,1,1,1] Q))):=
 Eq.mpr (by kernel_rfl) (h _ rfl _ (Ze _))
theorem Zoj(N:Nat)(e:Edit)(d n x2_b x8_b:Int)(N2:NT)(Q:QT)(h:let z0:=decide (x8_b < (e.ops.length:Int));let z1:=bif z0 then (decide ((0:Int)≤x2_b)) else false;(Tr (z0=true))∧(Tr (z0=true))∧((z1=true→(Zh (A90 N [1,1,1,1,1,1,0,1,0,0,1,0,0,0,1,0,0]) (Z6K e d n x8_b x2_b 0) (xB 4 (S90 N [1,1,1,1,1,1,0,1,0,0,1,0,0,1] (xB 3 (S90 N [1,1,1,1,1,1,0,1,0,0,1,1] (xT N2 (xB 2 (S90 N [1,1,1,1,1,1,1] Q)))))))))∧(z1=false→(Q .ret (L2 [(6,.c (ci x2_b))] []))))):
  A90 N [1,1,1,1,1,1,0,1,0,0] (Z4f e d n x2_b x8_b) (xT N2 (xB 2 (S90 N [1,1,1,1,1,1,1] Q))):=
 Eq.mpr (by kernel_rfl) h
theorem Zoi(N:Nat)(e:Edit)(d n x8_b x2_c x9_c:Int)(N3 N2:NT)(Q:QT)(h:∀ y_1,y_1=(e.ops.getD x8_b.toNat Op.nil)→∀ y_2,y_2=(y_1.e)→∀ y_3,y_3=(y_1.l.getD x9_c.toNat Tree.nil)→let z1:=decide ((0:Int)≤x2_c);let z0:=decide (x9_c < (y_1.l.length:Int));((0:Int)≤x8_b∧x8_b < (e.ops.length:Int))∧(Tr (z0=true))∧(Tr (z0=true))∧(((bif z0 then z1 else false)=true→((0:Int)≤x8_b∧x8_b < (e.ops.length:Int))∧((0:Int)≤x9_c∧x9_c < (y_1.l.length:Int))∧(Z6j (y_3,80,x2_c,()))∧((InR (x9_c+1))∧(N3 (Z6K e d n x8_b (ZA y_3 80 x2_c) (x9_c+1)))))∧((bif z0 then z1 else false)=false→((z1=true→((0:Int)≤x8_b∧x8_b < (e.ops.length:Int))∧(InR (d - 1))∧(Zah (y_2,(d - 1),x2_c,()))∧(ZeI (y_2,(d - 1),x2_c,()) < N)∧((InR (x8_b+1))∧(N2 (Z4f e d n (JR y_2 (d - 1) x2_c) (x8_b+1)))))∧(z1=false→(InR (x8_b+1))∧(N2 (Z4f e d n x2_c (x8_b+1)))))))):
  A90 N [1,1,1,1,1,1,0,1,0,0,1,0,0,0,1,0,0] (Z6K e d n x8_b x2_c x9_c) (xT N3 (xB 4 (S90 N [1,1,1,1,1,1,0,1,0,0,1,0,0,1] (xB 3 (S90 N [1,1,1,1,1,1,0,1,0,0,1,1] (xT N2 (xB 2 (S90 N [1,1,1,1,1,1,1] Q)))))))):=
 Eq.mpr (by kernel_rfl) (h _ rfl _ (Ze _) _ (Zc _))
def Zu5(N:Nat)(e:Edit)(d n:Int):Prop:=AW (Z0 (Zgr N)) Try.f90 ZpM [] (Zm (ZgX.can (e,d,n,())) []) (EQ Try.f90 (ZhI (e,d,n,())) [])
theorem Zsk(c78:CT 78 Z3D)(hb:∀ (N:Nat) (e:Edit) (d:Int) (n:Int) (_:Unit),Zah (e,d,n,())→ZeI (e,d,n,()) < N+1→Zu5 N e d n):CT 90 Z9A:=
 ZS (μ:=ZeI) (l:=[(78,Z3D)]) Zk rfl (⟨c78,trivial⟩) ZpM Try.func90 rfl rfl 3 (fun _=> rfl) (by decide) (fun N ⟨e,d,n,_⟩=> hb N e d n ())
def Zn4:List (FuncId × Fs U):=[(90,Z9A)]
def Zt3:Zi U:=lvl [([1],[1]),([2],[])]
abbrev A54(p:List Nat):=AW (Z0 Zn4) Try.f54 Zt3 p
theorem ZwK(e:Edit)(Q:QT)(h:let z0:=Edit.mk e.kind (Tree.mk e.old.kind e.old.words e.old.kids) (Tree.mk e.new.kind e.new.words e.new.kids) e.words e.kids e.list e.ops;((Zah (z0,80,3000,()))∧(Q .ret (L2 [(2,.c (.bool (decide ((0:Int)≤(JR z0 80 3000)))))] [])))):
  A54 [] (L2 [(0,.agg (enc .edit e))] []) Q:=
 Eq.mpr (by kernel_rfl) h
def Zuu(e:Edit):Prop:=AW (Z0 Zn4) Try.f54 Zt3 [] (Zm (ZnQ.can (e,())) []) (EQ Try.f54 (Zrh (e,())) [])
theorem ZsE(c90:CT 90 Z9A)(hb:∀ (e:Edit) (_:Unit),Zmg (e,())→Zuu e):CT 54 Z9O:=
 Z3 (l:=[(90,Z9A)]) Zk rfl (⟨c90,trivial⟩) Zt3 Try.func54 rfl rfl 1 (fun _=> rfl) (by decide) (fun ⟨e,_⟩=> hb e ())
end
end Go.AM.Ytpjenobkibfpcaa
namespace Go.AM.Ytpjenobkibfpcaa
open Go.AM Go.Proofs
noncomputable section
def Zdu:ArgL (Edit × Int × Unit):=(.cons (aEl .edit) (.cons (Yt .i64) .nil))
def Z8w(a:Edit × Int × Unit):Prop:=(Zg a.1≤20000000000∧Y1 a.1)∧0≤a.2.1∧a.2.1≤1000
def Zd3(a:Edit × Int × Unit):Nat:=2*Zg a.1
def ZhN(a:Edit × Int × Unit):V U:= .c (.bool (Z4 a.1 a.2.1))
def Z9W:Fs U:=fs Zdu (fun a=> [Z8w a]) ZhN
def Zdr:ArgL (Int × Op × Int × Unit):=(.cons (Yt .i64) (.cons (aEl .op) (.cons (Yt .i64) .nil)))
def ZbT(a:Int × Op × Int × Unit):Prop:=(ZX a.2.1≤20000000000∧Z01 a.2.1∧isI a.1)∧0≤a.2.2.1∧a.2.2.1≤1000
def Zk4(a:Int × Op × Int × Unit):Nat:=2*ZX a.2.1+1
def ZhK(a:Int × Op × Int × Unit):V U:= .c (.bool (Zf a.1 a.2.1 a.2.2.1))
def Zls:Fs U:=fs Zdr (fun a=> [ZbT a]) ZhK
def Zh3:ArgL (Edit × Unit):=(.cons (aEl .edit) .nil)
def Zai(a:Edit × Unit):Prop:=(Zg a.1≤20000000000∧Y1 a.1)∧∃ d,Z4 a.1 d=true
def ZeL(a:Edit × Unit):Nat:=Zg a.1
def ZlH(a:Edit × Unit):V U:= .c (.bool (JQ a.1))
def Z9N:Fs U:=fs Zh3 (fun a=> [Zai a]) ZlH
def ZnZ:ArgL (Edit × Unit):=(.cons (aEl .edit) .nil)
def Zi2(a:Edit × Unit):Prop:=Z27 a.1∧Y1 a.1
def Zrl(a:Edit × Unit):V U:= .c (.bool (JZ a.1))
def Z9Z:Fs U:=fs ZnZ (fun a=> [Zi2 a]) Zrl
def ZgM(N:Nat):List (FuncId × Fs U):=(23,fs Zdu (fun a=> [Z8w a,Zd3 a < N]) ZhN) ::(64,fs Zdr (fun a=> [ZbT a,Zk4 a < N]) ZhK) ::[(62,Z2V),(63,Z7s),(104,Z4y),(37,Z2W),(65,Z2U)]
def Zq7:Zi U:=lvl [([1,2],[2]),([1,2,24],[2]),([4],[]),([1,2,69],[2]),([4],[]),([1,2,72],[2]),([4],[]),([1,2,5],[2]),([1,2,5,6],[2]),([1,2,5,6,97],[2]),([1,2,5,6],[2]),([1,2,5,6,7],[2,7]),([1,2,6,7,134],[2,7]),([4],[]),([1,2,5,6],[2]),([1,2,5],[2]),([1,2,5,8],[2]),([1,2,5,8,141],[2]),([1,2,5,8],[2]),([1,2,5,8,9],[2,9]),([1,2,8,9,171],[2,9]),([4],[]),([1,2,5,8],[2]),([1,2,186],[2]),([4],[]),([1,2,10],[2]),([1,2,10,191],[2]),([1,2,10],[2]),([1,2,10,204],[2]),([4],[]),([11,12],[]),([4],[])]
def Z79(e:Edit)(d x5 x6:Int):LSt U:=(L2 [(1,.c (ci d)),(2,.ptr (.loc 2) 0),(5,.c (ci x5)),(6,.c (ci x6))] [(.loc 2,(enc .edit e))])
def Z78(e:Edit)(d x5_a x8_a:Int):LSt U:=(L2 [(1,.c (ci d)),(2,.ptr (.loc 2) 0),(5,.c (ci x5_a)),(8,.c (ci x8_a))] [(.loc 2,(enc .edit e))])
def Z77(e:Edit)(d x10_b:Int):LSt U:=(L2 [(1,.c (ci d)),(2,.ptr (.loc 2) 0),(10,.c (ci x10_b))] [(.loc 2,(enc .edit e))])
abbrev A23(N:Nat)(p:List Nat):=AW (Z0 (ZgM N)) Try.f23 Zq7 p
abbrev S23(N:Nat)(p:List Nat):=SW (Z0 (ZgM N)) Try.f23 Zq7 p
theorem ZwW(N:Nat)(e:Edit)(d:Int)(Q:QT)(h:∀ y_1,y_1=(e.new)→∀ y_2,y_2=(e.old)→let z11:=Q .ret (L2 [(4,.c (.bool false))] []);let z8:=(e.kind !=1) && (ZM y_2);let z3:=bif (d==0) then true else (decide (e.kind < 0));let z10:=bif z3 then true else (decide ((3:Int) < e.kind));let z2:=bif (Z9 y_2 64) then (Z9 y_1 64) else false;let z6:=bif z2 then (e.old.kind !=10) else false;let z1:=bif (e.kind !=1) then (!(bif (ZM y_2) then (ZM y_1) else false)) else false;let z5:=(!z1) && (e.kind !=2);let z0:=bif z1 then true else (bif (e.kind !=2) then (decide ((0:Int) < (((e.words.length:Int):Int)+(e.kids.length:Int)))) else false);let z7:=bif z0 then true else (bif (e.kind !=3) then (bif (e.list !=0) then true else (decide ((0:Int) < (e.ops.length:Int)))) else false);let z4:=(!z0) && (e.kind !=3);let z9:=z4 && (!(e.list !=0));((Tr ((!(d==0))=true))∧(Tr ((!(d==0))=true))∧((d==0)=false→(!(d==0))=true)∧(Tr ((!z3)=true))∧(Tr ((!z3)=true))∧(z3=false→(!z3)=true)∧((z10=true→z11)∧(z10=false→(Tr ((e.kind !=1)=true))∧(Tr ((e.kind !=1)=true))∧((e.kind !=1)=true→Z3V (y_2,()))∧(Tr ((e.kind !=1)=true))∧(Tr (z8=true))∧(Tr (z8=true))∧(z8=true→Z3V (y_1,()))∧((e.kind !=1)=true→(True→(e.kind !=1)=true))∧((e.kind !=1)=true→((ZM y_2)=true→z8=true))∧(Tr ((e.kind !=1)=true))∧(Tr ((e.kind !=1)=true))∧(Tr ((!z1)=true))∧(Tr ((!z1)=true))∧(Tr ((!z1)=true))∧(Tr (z5=true))∧(Tr (z5=true))∧(Tr (z5=true))∧(Tr (z5=true))∧(Tr (z5=true))∧(Tr (z5=true))∧(z5=true→InR (((e.words.length:Int):Int)+(e.kids.length:Int)))∧(Tr (z5=true))∧((!z1)=true→(True→(!z1)=true))∧((!z1)=true→((e.kind !=2)=true→z5=true))∧(z1=false→(!z1)=true)∧(Tr ((!z0)=true))∧(Tr ((!z0)=true))∧(Tr ((!z0)=true))∧(Tr (z4=true))∧(Tr (z4=true))∧(Tr (z4=true))∧(Tr (z9=true))∧(Tr (z9=true))∧(Tr (z9=true))∧(z4=true→(True→z4=true))∧(z4=true→((e.list !=0)=false→z9=true))∧((!z0)=true→(True→(!z0)=true))∧((!z0)=true→((e.kind !=3)=true→z4=true))∧(z0=false→(!z0)=true)∧((z7=true→z11)∧(z7=false→(((e.kind==1)=true→(Z3q (y_2,64,()))∧(Tr ((Z9 y_2 64)=true))∧(Tr ((Z9 y_2 64)=true))∧((Z9 y_2 64)=true→Z3q (y_1,64,()))∧(Tr ((Z9 y_2 64)=true))∧(Tr (z2=true))∧(Tr (z2=true))∧(Tr (z2=true))∧(Tr (z2=true))∧(Tr (z6=true))∧(Tr (z6=true))∧(Tr (z6=true))∧(Tr (z6=true))∧(Q .ret (L2 [(4,.c (.bool (bif z6 then (e.new.kind !=10) else false)))] [])))∧((e.kind==1)=false→(Zh (A23 N [1,1,1,1,1,0,1,0,0]) (Z79 e d (-1) 0) (xB 0 (S23 N [1,1,1,1,1,1] Q))))))))))):
  A23 N [] (L2 [(0,.agg (enc .edit e)),(1,.c (ci d))] []) Q:=
 Eq.mpr (by kernel_rfl) (h _ (Zc _) _ (Zc _))
theorem ZoT(N:Nat)(e:Edit)(d x5 x6:Int)(N0:NT)(Q:QT)(h:∀ y_1,y_1=(e.words.getD x6.toNat (WEdit.mk 0 0 0 0))→let z5:=decide (x6 < (e.words.length:Int));let z3:=decide (y_1.at_≤x5);let z2:=bif z3 then true else (decide ((65534:Int) < y_1.at_));let z0:=bif z2 then true else (y_1.mask==0);let z1:=bif z0 then true else (!(Z0g y_1.old y_1.mask));let z4:=bif z1 then true else (!(Z0g y_1.new y_1.mask));((z5=true→((0:Int)≤x6∧x6 < (e.words.length:Int))∧((Tr ((!z3)=true))∧(Tr ((!z3)=true))∧(z3=false→(!z3)=true)∧(Tr ((!z2)=true))∧(Tr ((!z2)=true))∧(z2=false→(!z2)=true)∧(Tr ((!z0)=true))∧(Tr ((!z0)=true))∧(Tr ((!z0)=true))∧(Tr ((!z0)=true))∧((!z0)=true→ZhW (y_1.old,y_1.mask,()))∧(Tr ((!z0)=true))∧(z0=false→(!z0)=true)∧(Tr ((!z1)=true))∧(Tr ((!z1)=true))∧(Tr ((!z1)=true))∧(Tr ((!z1)=true))∧((!z1)=true→ZhW (y_1.new,y_1.mask,()))∧(Tr ((!z1)=true))∧(z1=false→(!z1)=true)∧((z4=true→(Q .ret (L2 [(4,.c (.bool false))] [])))∧(z4=false→((InR (x6+1))∧(N0 (Z79 e d y_1.at_ (x6+1))))))))∧(z5=false→(Zh (A23 N [1,1,1,1,1,1,1,0,1,0,0]) (Z78 e d (-1) 0) (xB 2 (S23 N [1,1,1,1,1,1,1,1] Q)))))):
  A23 N [1,1,1,1,1,0,1,0,0] (Z79 e d x5 x6) (xT N0 (xB 0 (S23 N [1,1,1,1,1,1] Q))):=
 Eq.mpr (by kernel_rfl) (h _ rfl)
theorem ZoS(N:Nat)(e:Edit)(d x5_a x8_a:Int)(N1:NT)(Q:QT)(h:∀ y_1,y_1=(e.kids.getD x8_a.toNat (KidOf.mk 0 Edit.nil))→∀ y_2,y_2=(y_1.e)→let z8:=decide (x8_a < (e.kids.length:Int));let z7:=decide (e.list < 2);let z6:=Q .ret (L2 [(4,.c (.bool false))] []);let z4:=(e.kind==3) && (!z7);let z3:=decide (y_1.at_≤x5_a);let z2:=bif (e.kind==3) then (bif z7 then true else (decide ((9:Int) < e.list))) else false;let z1:=bif z3 then true else (decide ((65534:Int) < y_1.at_));let z0:=bif z1 then true else (y_1.e.kind==0);let z5:=bif z0 then true else (!(Z4 y_2 (d - 1)));((z8=true→((0:Int)≤x8_a∧x8_a < (e.kids.length:Int))∧((Tr ((!z3)=true))∧(Tr ((!z3)=true))∧(z3=false→(!z3)=true)∧(Tr ((!z1)=true))∧(Tr ((!z1)=true))∧(Tr ((!z1)=true))∧(z1=false→(!z1)=true)∧(Tr ((!z0)=true))∧(Tr ((!z0)=true))∧((!z0)=true→InR (d - 1))∧(Tr ((!z0)=true))∧(Tr ((!z0)=true))∧((!z0)=true→Z8w (y_2,(d - 1),()))∧((!z0)=true→Zd3 (y_2,(d - 1),()) < N)∧(Tr ((!z0)=true))∧(z0=false→(!z0)=true)∧((z5=true→z6)∧(z5=false→((InR (x8_a+1))∧(N1 (Z78 e d y_1.at_ (x8_a+1))))))))∧(z8=false→(Tr ((e.kind==3)=true))∧(Tr ((e.kind==3)=true))∧(Tr ((e.kind==3)=true))∧(Tr (z4=true))∧(Tr (z4=true))∧((e.kind==3)=true→(True→(e.kind==3)=true))∧((e.kind==3)=true→(z7=false→z4=true))∧(Tr ((e.kind==3)=true))∧((z2=true→z6)∧(z2=false→(Zh (A23 N [1,1,1,1,1,1,1,1,1,0,1,0,0]) (Z77 e d 0) (xB 4 (S23 N [1,1,1,1,1,1,1,1,1,1] Q)))))))):
  A23 N [1,1,1,1,1,1,1,0,1,0,0] (Z78 e d x5_a x8_a) (xT N1 (xB 2 (S23 N [1,1,1,1,1,1,1,1] Q))):=
 Eq.mpr (by kernel_rfl) (h _ rfl _ (Ze _))
theorem ZoR(N:Nat)(e:Edit)(d x10_b:Int)(N2:NT)(Q:QT)(h:∀ y_1,y_1=e→∀ y_2,y_2=(e.ops.getD x10_b.toNat Op.nil)→∀ y_3,y_3=y_2→let z2:= !(Zf e.list y_3 (d - 1));let z1:=decide (x10_b < (e.ops.length:Int));let z0:=decide (((JY y_1.ops 0):Int) < 1048576);((z1=true→((0:Int)≤x10_b∧x10_b < (e.ops.length:Int))∧(InR (d - 1))∧(ZbT (e.list,y_3,(d - 1),()))∧(Zk4 (e.list,y_3,(d - 1),()) < N)∧((z2=true→(Q .ret (L2 [(4,.c (.bool false))] [])))∧(z2=false→(InR (x10_b+1))∧(N2 (Z77 e d (x10_b+1))))))∧(z1=false→(Zeo (y_1,()))∧((Tr (z0=true))∧(Tr (z0=true))∧(Q .ret (L2 [(4,.c (.bool (bif z0 then (decide (((JX y_1.ops 0):Int) < 1048576)) else false)))] [])))))):
  A23 N [1,1,1,1,1,1,1,1,1,0,1,0,0] (Z77 e d x10_b) (xT N2 (xB 4 (S23 N [1,1,1,1,1,1,1,1,1,1] Q))):=
 Eq.mpr (by kernel_rfl) (h _ (Ze _) _ rfl _ (Z9f _))
def ZuG(N:Nat)(e:Edit)(d:Int):Prop:=AW (Z0 (ZgM N)) Try.f23 Zq7 [] (Zm (Zdu.can (e,d,())) []) (EQ Try.f23 (ZhN (e,d,())) [])
abbrev Zwe:Prop:=∀ (N:Nat) (e:Edit) (d:Int) (_:Unit),Z8w (e,d,())→Zd3 (e,d,()) < N+1→ZuG N e d
def ZgD(N:Nat):List (FuncId × Fs U):=(23,fs Zdu (fun a=> [Z8w a,Zd3 a < N]) ZhN) ::(64,fs Zdr (fun a=> [ZbT a,Zk4 a < N]) ZhK) ::[(62,Z2V),(63,Z7s),(104,Z4y),(37,Z2W),(65,Z2U)]
def ZpY:Zi U:=lvl [([0,2,4],[4]),([0,2,4,10],[4]),([6],[]),([0,2,4,42],[4]),([6],[]),([0,2,4,45],[4]),([0,4,7],[4]),([0,4,7,50],[4]),([0,4,7],[4]),([0,4,7,62],[4]),([6],[]),([6],[]),([0,4,92],[4]),([6],[]),([6],[])]
def Z70(list:Int)(o:Op)(d x7:Int):LSt U:=(L2 [(0,.c (ci list)),(4,.ptr (.loc 4) 0),(7,.c (ci x7))] [(.loc 4,(enc .op o))])
abbrev A64(N:Nat)(p:List Nat):=AW (Z0 (ZgD N)) Try.f64 ZpY p
abbrev S64(N:Nat)(p:List Nat):=SW (Z0 (ZgD N)) Try.f64 ZpY p
theorem ZwD(N:Nat)(list:Int)(o:Op)(d:Int)(Q:QT)(h:∀ y_1,y_1=(o.e)→let z12:=Q .ret (L2 [(6,.c (.bool false))] []);let z9:=decide ((1:Int)≤o.n);let z5:=bif (o.n !=0) then true else (decide (o.kind < 0));let z10:=bif z5 then true else (decide ((3:Int) < o.kind));let z4:=decide ((0:Int) < (o.l.length:Int));let z7:=bif z4 then true else (o.e.kind==0);let z3:=bif (o.e.kind==1) then (o.e.old.kind==1) else false;let z2:=bif z9 then (decide (o.n≤1048576)) else false;let z6:=bif z2 then (((o.l.length:Int):Int)==0) else false;let z1:=bif (list==8) then true else (o.e.kind==2);let z8:=(!z1) && (o.e.kind==1);let z0:=bif z7 then true else (decide (list≤7));let z11:=bif z0 then true else (!(Z4 y_1 d));(((o.kind==0)=true→(Tr (z9=true))∧(Tr (z9=true))∧(Tr (z9=true))∧(Tr (z2=true))∧(Tr (z2=true))∧(Tr (z2=true))∧(Tr (z2=true))∧(Tr (z6=true))∧(Tr (z6=true))∧(z6=true→Z5C (y_1,()))∧(Tr (z6=true))∧(Q .ret (L2 [(6,.c (.bool (bif z6 then (Z00 y_1) else false)))] [])))∧((o.kind==0)=false→(Tr ((!(o.n !=0))=true))∧(Tr ((!(o.n !=0))=true))∧((o.n !=0)=false→(!(o.n !=0))=true)∧(Tr ((!z5)=true))∧(Tr ((!z5)=true))∧(z5=false→(!z5)=true)∧((z10=true→z12)∧(z10=false→(((decide (o.kind < 3))=true→(Zh (A64 N [1,1,1,0,1,0,0,1,0,0]) (Z70 list o d 0) (xB 0 (S64 N [1,1,1,0,1,0,1] (S64 N [1,1,1,1] Q)))))∧((decide (o.kind < 3))=false→(Tr ((!z4)=true))∧(Tr ((!z4)=true))∧(Tr ((!z4)=true))∧(z4=false→(!z4)=true)∧(Tr ((!z7)=true))∧(z7=false→(!z7)=true)∧(Tr ((!z0)=true))∧(Tr ((!z0)=true))∧(Tr ((!z0)=true))∧((!z0)=true→Z8w (y_1,d,()))∧((!z0)=true→Zd3 (y_1,d,()) < N)∧(Tr ((!z0)=true))∧(z0=false→(!z0)=true)∧((z11=true→z12)∧(z11=false→(Tr ((!(list==8))=true))∧(Tr ((!(list==8))=true))∧(Tr ((!(list==8))=true))∧((list==8)=false→(!(list==8))=true)∧(Tr ((!z1)=true))∧(Tr ((!z1)=true))∧(Tr ((!z1)=true))∧(Tr ((!z1)=true))∧(Tr (z8=true))∧(Tr (z8=true))∧(Tr (z8=true))∧(Tr (z8=true))∧((!z1)=true→(True→(!z1)=true))∧((!z1)=true→((o.e.kind==1)=true→z8=true))∧(Tr ((!z1)=true))∧(Tr (((!z1) && z3)=true))∧(Tr (((!z1) && z3)=true))∧(Tr (((!z1) && z3)=true))∧(Tr (((!z1) && z3)=true))∧((!z1)=true→(True→(!z1)=true))∧((!z1)=true→(z3=true→((!z1) && z3)=true))∧(z1=false→(!z1)=true)∧(Q .ret (L2 [(6,.c (.bool (bif z1 then true else (bif z3 then (o.e.new.kind==1) else false))))] []))))))))))):
  A64 N [] (L2 [(0,.c (ci list)),(1,.agg (enc .op o)),(2,.c (ci d))] []) Q:=
 Eq.mpr (by kernel_rfl) (h _ (Ze _))
theorem ZoF(N:Nat)(list:Int)(o:Op)(d x7:Int)(N0:NT)(Q:QT)(h:let z3:=decide (x7 < (o.l.length:Int));let z2:=Tree.mk list [] (List.drop x7.toNat (List.take (Int.toNat (x7+1)) o.l));let z1:=Edit.mk o.e.kind (Tree.mk o.e.old.kind o.e.old.words o.e.old.kids) (Tree.mk o.e.new.kind o.e.new.words o.e.new.kids) o.e.words o.e.kids o.e.list o.e.ops;let z0:=decide ((0:Int) < (o.l.length:Int));((z3=true→(InR (x7+1))∧((0:Int)≤x7∧x7≤(x7+1)∧(x7+1)≤(o.l.length:Int))∧(Z3q (z2,64,()))∧(((!(Z9 z2 64))=true→(Q .ret (L2 [(6,.c (.bool false))] [])))∧((!(Z9 z2 64))=false→(InR (x7+1))∧(N0 (Z70 list o d (x7+1))))))∧(z3=false→(Tr (z0=true))∧(Tr (z0=true))∧(z0=true→Z5C (z1,()))∧(Tr (z0=true))∧(Q .ret (L2 [(6,.c (.bool (bif z0 then (Z00 z1) else false)))] []))))):
  A64 N [1,1,1,0,1,0,0,1,0,0] (Z70 list o d x7) (xT N0 (xB 0 (S64 N [1,1,1,0,1,0,1] (S64 N [1,1,1,1] Q)))):=
 Eq.mpr (by kernel_rfl) h
def Zun(N:Nat)(list:Int)(o:Op)(d:Int):Prop:=AW (Z0 (ZgD N)) Try.f64 ZpY [] (Zm (Zdr.can (list,o,d,())) []) (EQ Try.f64 (ZhK (list,o,d,())) [])
abbrev Zwb:Prop:=∀ (N:Nat) (list:Int) (o:Op) (d:Int) (_:Unit),ZbT (list,o,d,())→Zk4 (list,o,d,()) < N+1→Zun N list o d
def ZgF(N:Nat):List (FuncId × Fs U):=(55,fs Zh3 (fun a=> [Zai a,ZeL a < N]) ZlH) ::[(65,Z2U)]
def Zq0:Zi U:=lvl [([1],[1]),([1,3,4],[1]),([1,17],[1]),([2],[]),([1,5],[1]),([1,5,22],[1]),([1,5],[1]),([1,5,32],[1]),([2],[]),([1,6],[1]),([1,6,37],[1]),([1,6],[1]),([1,6,47],[1]),([2],[]),([2],[])]
def Z73(e:Edit)(x5:Int):LSt U:=(L2 [(1,.ptr (.loc 1) 0),(5,.c (ci x5))] [(.loc 1,(enc .edit e))])
def Z72(e:Edit)(x6_a:Int):LSt U:=(L2 [(1,.ptr (.loc 1) 0),(6,.c (ci x6_a))] [(.loc 1,(enc .edit e))])
abbrev A55(N:Nat)(p:List Nat):=AW (Z0 (ZgF N)) Try.f55 Zq0 p
abbrev S55(N:Nat)(p:List Nat):=SW (Z0 (ZgF N)) Try.f55 Zq0 p
theorem ZwJ(N:Nat)(e:Edit)(Q:QT)(h:∀ y_1,y_1=e→let z0:=decide ((2000:Int) < (JY y_1.ops 0));let z1:=bif z0 then true else (decide ((2000:Int) < (JX y_1.ops 0)));((Zeo (y_1,()))∧((Tr ((!z0)=true))∧(z0=false→(!z0)=true)∧((z1=true→(Q .ret (L2 [(2,.c (.bool false))] [])))∧(z1=false→(Zh (A55 N [1,1,1,0,1,0,0]) (Z73 e 0) (xB 0 (S55 N [1,1,1,1] Q)))))))):
  A55 N [] (L2 [(0,.agg (enc .edit e))] []) Q:=
 Eq.mpr (by kernel_rfl) (h _ (Ze _))
theorem ZoJ(N:Nat)(e:Edit)(x5:Int)(N0:NT)(Q:QT)(h:∀ y_1,y_1=(e.kids.getD x5.toNat (KidOf.mk 0 Edit.nil))→∀ y_2,y_2=(y_1.e)→let z0:=decide (x5 < (e.kids.length:Int));((z0=true→((0:Int)≤x5∧x5 < (e.kids.length:Int))∧(Zai (y_2,()))∧(ZeL (y_2,()) < N)∧(((!(JQ y_2))=true→(Q .ret (L2 [(2,.c (.bool false))] [])))∧((!(JQ y_2))=false→(InR (x5+1))∧(N0 (Z73 e (x5+1))))))∧(z0=false→(Zh (A55 N [1,1,1,1,0,1,0,0]) (Z72 e 0) (xB 2 (S55 N [1,1,1,1,1] Q)))))):
  A55 N [1,1,1,0,1,0,0] (Z73 e x5) (xT N0 (xB 0 (S55 N [1,1,1,1] Q))):=
 Eq.mpr (by kernel_rfl) (h _ rfl _ (Ze _))
theorem ZoI(N:Nat)(e:Edit)(x6_a:Int)(N1:NT)(Q:QT)(h:∀ y_1,y_1=(e.ops.getD x6_a.toNat Op.nil)→∀ y_2,y_2=(y_1.e)→let z0:=decide (x6_a < (e.ops.length:Int));((z0=true→((0:Int)≤x6_a∧x6_a < (e.ops.length:Int))∧(Zai (y_2,()))∧(ZeL (y_2,()) < N)∧(((!(JQ y_2))=true→(Q .ret (L2 [(2,.c (.bool false))] [])))∧((!(JQ y_2))=false→(InR (x6_a+1))∧(N1 (Z72 e (x6_a+1))))))∧(z0=false→(Q .ret (L2 [(2,.c (.bool true))] []))))):
  A55 N [1,1,1,1,0,1,0,0] (Z72 e x6_a) (xT N1 (xB 2 (S55 N [1,1,1,1,1] Q))):=
 Eq.mpr (by kernel_rfl) (h _ rfl _ (Ze _))
def Zut(N:Nat)(e:Edit):Prop:=AW (Z0 (ZgF N)) Try.f55 Zq0 [] (Zm (Zh3.can (e,())) []) (EQ Try.f55 (ZlH (e,())) [])
theorem ZsD(c65:CT 65 Z2U)(hb:∀ (N:Nat) (e:Edit) (_:Unit),Zai (e,())→ZeL (e,()) < N+1→Zut N e):CT 55 Z9N:=
 ZS (μ:=ZeL) (l:=[(65,Z2U)]) Zk rfl (⟨c65,trivial⟩) Zq0 Try.func55 rfl rfl 1 (fun _=> rfl) (by decide) (fun N ⟨e,_⟩=> hb N e ())
def Zna:List (FuncId × Fs U):=[(54,Z9O),(23,Z9W),(55,Z9N)]
def Zt9:Zi U:=lvl [([1],[1]),([2],[])]
abbrev A15(p:List Nat):=AW (Z0 Zna) Try.f15 Zt9 p
theorem Zx0(e:Edit)(Q:QT)(h:∀ y_1,y_1=e→let z1:=decide (0≤JR y_1 80 3000);let z0:=bif z1 then (Z4 y_1 64) else false;((Zmg (y_1,()))∧(Tr (z1=true))∧(z1=true→Z8w (y_1,64,()))∧(Tr (z1=true))∧(Tr (z0=true))∧(z0=true→Zai (y_1,()))∧(Tr (z0=true))∧(Q .ret (L2 [(2,.c (.bool (bif z0 then (JQ y_1) else false)))] [])))):
  A15 [] (L2 [(0,.agg (enc .edit e))] []) Q:=
 Eq.mpr (by kernel_rfl) (h _ (Ze _))
def ZuK(e:Edit):Prop:=AW (Z0 Zna) Try.f15 Zt9 [] (Zm (ZnZ.can (e,())) []) (EQ Try.f15 (Zrl (e,())) [])
theorem ZsS(c54:CT 54 Z9O)(c23:CT 23 Z9W)(c55:CT 55 Z9N)(hb:∀ (e:Edit) (_:Unit),Zi2 (e,())→ZuK e):CT 15 Z9Z:=
 Z3 (l:=[(54,Z9O),(23,Z9W),(55,Z9N)]) Zk rfl (⟨c54,c23,c55,trivial⟩) Zt9 Try.func15 rfl rfl 1 (fun _=> rfl) (by decide) (fun ⟨e,_⟩=> hb e ())
theorem Zkc(c62:CT 62 Z2V)(c63:CT 63 Z7s)(ZtI:CT 104 Z4y)(c37:CT 37 Z2W)(c65:CT 65 Z2U)(ha:Zwe)(hb:Zwb):CT 23 Z9W∧CT 64 Zls:=
 Z2f (μA:=Zd3) (μB:=Zk4) (l:=[(62,Z2V),(63,Z7s),(104,Z4y),(37,Z2W),(65,Z2U)]) Zk rfl (⟨c62,c63,ZtI,c37,c65,trivial⟩) Zq7 ZpY Try.func23 Try.func64 rfl rfl rfl rfl 2 3 (fun _=> rfl) (fun _=> rfl) (by decide) (by decide) (fun N ⟨e,d,_⟩=> ha N e d ()) (fun N ⟨list,o,d,_⟩=> hb N list o d ())
end
end Go.AM.Ytpjenobkibfpcaa
namespace Go.AM.Ytpjenobkibfpcaa
open Go.AM Go.Proofs
theorem Z3v{n:Int}(h0:0≤n)(h1:n < 18446744073709551616):IntKind.wrap .u64 n=n:=by
 simp [IntKind.wrap,IntKind.signed,IntKind.bits];omega
theorem Zhk{n:Int}(h0:0≤n)(h1:n < 256):IntKind.wrap .u8 n=n:=by
 simp [IntKind.wrap,IntKind.signed,IntKind.bits];omega
theorem Zjg{i:Int}{j:Nat}{v:Int}{F G:Nat→Int}(hi:0≤i)(hv:v=F i.toNat):Z0C i j v (if (j:Int) < i then F j else G j)=if (j:Int) < i+1 then F j else G j:=by
 unfold Z0C
 by_cases h:i=j
 ·subst h
  rw [if_pos rfl,if_pos (by omega),hv]
  simp
 ·rw [if_neg h]
  by_cases h2:(j:Int) < i
  ·rw [if_pos h2,if_pos (by omega)]
  ·rw [if_neg h2,if_neg (by omega)]
theorem Zqf{i:Int}{j:Nat}{F G:Nat→Int}(h:F i.toNat=G i.toNat)(hi:0≤i):(if (j:Int) < i then F j else G j)=if (j:Int) < i+1 then F j else G j:=by
 by_cases h2:(j:Int) < i
 ·rw [if_pos h2,if_pos (by omega)]
 ·by_cases h3:(j:Int)=i
  ·subst h3
   rw [if_neg h2,if_pos (by omega)]
   simpa using h.symm
  ·rw [if_neg h2,if_neg (by omega)]
theorem Z10(w:Int)(i:Nat):0≤Zn w i∧Zn w i < 256:=by
 unfold Zn
 omega
theorem Z4p{w:Int}(h:0≤w)(i:Nat):0≤w / 256 ^ i:=Int.ediv_nonneg h (Int.le_of_lt (Int.pow_pos (by omega)))
theorem Zb8{w:Int}(h:0≤w)(i:Nat):w / 256 ^ i≤w:=Int.ediv_le_self _ h
theorem Zdk(w:Int)(i:Nat):w / 256 ^ i / 256=w / 256 ^ (i+1):=by
 rw [Int.ediv_ediv_of_nonneg (Int.le_of_lt (Int.pow_pos (by omega))),Int.pow_succ]
theorem c67:Contract Try.prog cfg 67 Z9K:=by
 refine Zsw ?_
 intro w _ hp
 simp only [Zen] at hp
 refine ZwA _ _ ?_;(try simp only [vcT,forall_eq])
 refine Za (ι:=Int) (fun i=> Z4g w (w / 256 ^ i.toNat) i (if ((0:Nat):Int) < i then Zn w 0 else 0) (if ((1:Nat):Int) < i then Zn w 1 else 0) (if ((2:Nat):Int) < i then Zn w 2 else 0) (if ((3:Nat):Int) < i then Zn w 3 else 0)
  (if ((4:Nat):Int) < i then Zn w 4 else 0) (if ((5:Nat):Int) < i then Zn w 5 else 0) (if ((6:Nat):Int) < i then Zn w 6 else 0) (if ((7:Nat):Int) < i then Zn w 7 else 0)) (fun i=> 0≤i∧i≤8) (fun i=> (8 - i).toNat) 0 ?_ ⟨by omega,by omega⟩ ?_
 ·simp [Z4g]
 ·rintro i ⟨h1,h2⟩
  refine Zoz _ _ _ _ _ _ _ _ _ _ _ _ _ ?_;(try simp only [vcT,forall_eq])
  (simp only [vcS]);(try simp only [vcT])
  refine ⟨fun hc=> ⟨by omega,⟨h1,by omega⟩,by omega,by unfold InR;omega,i+1,?_,⟨by omega,by omega⟩,by omega⟩,fun hc=> ?_⟩
  ·have hd:=Z4p hp.1 i.toNat
   have hl:=Zb8 hp.1 i.toNat
   have e1:IntKind.wrap .u64 (Int.tdiv (w / 256 ^ i.toNat) 256)=w / 256 ^ (i+1).toNat:=by
    rw [Int.tdiv_eq_ediv_of_nonneg hd,Zdk,show i.toNat+1=(i+1).toNat by omega]
    exact Z3v (Z4p hp.1 _) (Int.lt_of_le_of_lt (Zb8 hp.1 _) hp.2)
   have e2:IntKind.wrap .u8 (Int.tmod (w / 256 ^ i.toNat) 256)=Zn w i.toNat:=by
    rw [Int.tmod_eq_emod_of_nonneg hd]
    exact Zhk (Z10 w _).1 (Z10 w _).2
   rw [e1]
   have st:∀ j:Nat,Z0C i j (IntKind.wrap .u8 (Int.tmod (w / 256 ^ i.toNat) 256)) (if (j:Int) < i then Zn w j else 0)=if (j:Int) < i+1 then Zn w j else 0:=fun j=> Zjg (F:=Zn w) (G:=fun _=> 0) h1 e2
   rw [st 0,st 1,st 2,st 3,st 4,st 5,st 6,st 7]
  ·have:i=8:=by omega
   subst this
   simp only [ZlF]
   exact ⟨⟨rfl,⟨⟨rfl,rfl⟩,⟨rfl,rfl⟩,⟨rfl,rfl⟩,⟨rfl,rfl⟩,⟨rfl,rfl⟩,⟨rfl,rfl⟩,⟨rfl,rfl⟩,⟨rfl,rfl⟩,trivial⟩,trivial⟩,trivial⟩
theorem c68:Contract Try.prog cfg 68 Z9J:=by
 refine Zsv ?_
 intro m i _ hp
 simp only [ZhV] at hp
 refine Zwz _ _ _ ?_;(try simp only [vcT,forall_eq])
 refine Za (ι:=Int) (fun k=> Z6V m i (m / 2 ^ k.toNat) k) (fun k=> 0≤k∧k≤i) (fun k=> (i - k).toNat) 0 ?_ ⟨by omega,by omega⟩ ?_
 ·simp
 ·rintro k ⟨h1,h2⟩
  refine Zoy _ _ _ _ _ _ ?_;(try simp only [vcT,forall_eq])
  have hd:0≤m / 2 ^ k.toNat:=Int.ediv_nonneg hp.1.1 (Int.le_of_lt (Int.pow_pos (by omega)))
  have hl:m / 2 ^ k.toNat≤m:=Int.ediv_le_self _ hp.1.1
  (simp only [vcS])
  refine ⟨fun hc=> ⟨by omega,by unfold InR;omega,k+1,?_,⟨by omega,by omega⟩,by omega⟩,fun hc=> ⟨by omega,Z2 rfl ?_⟩⟩
  ·have e:IntKind.wrap .u8 (Int.tdiv (m / 2 ^ k.toNat) 2)=m / 2 ^ (k+1).toNat:=by
    rw [Int.tdiv_eq_ediv_of_nonneg hd,Int.ediv_ediv_of_nonneg (Int.le_of_lt (Int.pow_pos (by omega))),show (2:Int) ^ k.toNat*2=2 ^ (k+1).toNat by rw [←Int.pow_succ];congr 1;omega]
    refine Zhk (Int.ediv_nonneg hp.1.1 (Int.le_of_lt (Int.pow_pos (by omega)))) (Int.lt_of_le_of_lt (Int.ediv_le_self _ hp.1.1) hp.1.2)
   rw [e]
  ·have:k=i:=by omega
   subst this
   rw [Int.tmod_eq_emod_of_nonneg hd]
   try rfl
def Z91(f:Nat→Int):Nat→Int
 | 0=> 0
 | k+1=> f (7 - k)+256*Z91 f k
theorem Z9x{f:Nat→Int}(h:∀ i,0≤f i∧f i < 256):∀ k,0≤Z91 f k∧Z91 f k < 256 ^ k
 | 0=> by simp [Z91]
 | k+1=> by
  have:=Z9x h k
  have h2:=h (7 - k)
  simp only [Z91,Int.pow_succ]
  omega
theorem ZrU(f:Nat→Int):Z91 f 8=of8 f:=by simp [Z91,of8]
theorem c69:Contract Try.prog cfg 69 Z9I:=by
 refine Zsu ?_
 intro b z _ hp
 obtain ⟨rfl,hl,hb⟩:=hp
 dsimp only at hl hb
 refine Zwy _ _ _ ?_;(try simp only [vcT,forall_eq])
 have hf:∀ i,0≤b.getD i 0∧b.getD i 0 < 256:=by
  intro i
  by_cases hi:i < b.length
  ·have:b.getD i 0∈b:=by
    simp only [List.getD,List.getElem?_eq_getElem hi,Option.getD_some]
    exact List.getElem_mem hi
   exact hb _ this
  ·rw [List.getD,List.getElem?_eq_none (by omega)];simp
 refine Za (ι:=Int) (fun i=> Z6U b 0 (Z91 (fun i=> b.getD i 0) (7 - i).toNat) i) (fun i=> -1≤i∧i≤7) (fun i=> (i+1).toNat) 7 rfl ⟨by omega,by omega⟩ ?_
 rintro i ⟨h1,h2⟩
 refine Zox _ _ _ _ _ _ ?_;(try simp only [vcT,forall_eq])
 (simp only [vcS]);(try simp only [vcT])
 have hr:=Z9x (f:=fun i=> b.getD i 0) hf (7 - i).toNat
 refine ⟨fun hc=> ⟨by unfold InR;omega,by omega,by unfold InR;omega,i - 1,?_,⟨by omega,by omega⟩,by omega⟩,fun hc=> YH rfl ?_⟩
 ·have hp7:(256:Int) ^ (7 - i).toNat≤256 ^ 7:=by
   have:(256:Int) ^ (7 - i).toNat=((256 ^ (7 - i).toNat:Nat):Int):=by simp
   rw [this]
   have h7:(256:Nat) ^ (7 - i).toNat≤256 ^ 7:=Nat.pow_le_pow_right (by omega) (by omega)
   have:((256:Nat) ^ 7:Nat)=72057594037927936:=by decide
   omega
  have e7:(256:Int) ^ 7=72057594037927936:=by decide
  have hfi:=hf i.toNat
  have e:Z91 (fun i=> b.getD i 0) (7 - (i - 1)).toNat=b.getD i.toNat 0+256*Z91 (fun i=> b.getD i 0) (7 - i).toNat:=by
   rw [show (7 - (i - 1)).toNat=(7 - i).toNat+1 by omega]
   simp only [Z91]
   rw [show 7 - (7 - i).toNat=i.toNat by omega]
  rw [e,show (0+i).toNat=i.toNat by omega,Z3v (n:=Z91 (fun i=> b.getD i 0) (7 - i).toNat*256) (by omega) (by omega),Z3v (n:=b.getD i.toNat 0) (by omega) (by omega),Z3v (by omega) (by omega)]
  congr 1
  omega
 ·have:i= -1:=by omega
  subst this
  exact ZrU _
theorem ZvB(f:Nat→Int){i:Nat}(h:i < 8):List.getD [f 0,f 1,f 2,f 3,f 4,f 5,f 6,f 7] i 0=f i:=by
 match i,h with
 | 0,_=> rfl
 | 1,_=> rfl
 | 2,_=> rfl
 | 3,_=> rfl
 | 4,_=> rfl
 | 5,_=> rfl
 | 6,_=> rfl
 | 7,_=> rfl
theorem Z8F(a b m:Int)(i:Nat):0≤YS a b m i∧YS a b m i < 256:=by
 unfold YS
 split
 ·exact Z10 _ _
 ·exact Z10 _ _
theorem ZtJ:Contract Try.prog cfg 103 Z6c:=by
 refine ZpK c67 c68 c69 ?_
 intro a b m _ hp
 simp only [ZcX] at hp
 refine Zvo _ _ _ _ ?_;(try simp only [vcT,forall_eq])
 refine ⟨hp.1,hp.2.1,?_⟩
 refine Za (ι:=Int) (fun i=> Z1j a b m i (if ((0:Nat):Int) < i then YS a b m 0 else Zn a 0) (if ((1:Nat):Int) < i then YS a b m 1 else Zn a 1) (if ((2:Nat):Int) < i then YS a b m 2 else Zn a 2) (if ((3:Nat):Int) < i then YS a b m 3 else Zn a 3)
  (if ((4:Nat):Int) < i then YS a b m 4 else Zn a 4) (if ((5:Nat):Int) < i then YS a b m 5 else Zn a 5) (if ((6:Nat):Int) < i then YS a b m 6 else Zn a 6) (if ((7:Nat):Int) < i then YS a b m 7 else Zn a 7)) (fun i=> 0≤i∧i≤8) (fun i=> (8 - i).toNat) 0 ?_ ⟨by omega,by omega⟩ ?_
 ·simp [Z1j]
 ·rintro i ⟨h1,h2⟩
  refine Zll _ _ _ _ _ _ _ _ _ _ _ _ _ _ ?_;(try simp only [vcT,forall_eq])
  (simp only [vcS]);(try simp only [vcT])
  refine ⟨fun hc=> ⟨⟨hp.2.2,h1,by dsimp only;omega⟩,fun hn=> ⟨⟨h1,by omega⟩,⟨h1,by omega⟩,by unfold InR;omega,i+1,?_,⟨by omega,by omega⟩,by omega⟩,fun hn=> ⟨by unfold InR;omega,i+1,?_,⟨by omega,by omega⟩,by omega⟩⟩,fun hc=> ?_⟩
  ·rw [ZvB (Zn b) (by omega)]
   have hv:Zn b i.toNat=YS a b m i.toNat:=by
    unfold YS
    rw [show ((i.toNat:Nat):Int)=i by omega,hn]
    try rfl
   have st:∀ j:Nat,Z0C i j (Zn b i.toNat) (if (j:Int) < i then YS a b m j else Zn a j)=if (j:Int) < i+1 then YS a b m j else Zn a j:=fun j=> Zjg (F:=YS a b m) (G:=Zn a) h1 hv
   rw [st 0,st 1,st 2,st 3,st 4,st 5,st 6,st 7]
  ·have hv:YS a b m i.toNat=Zn a i.toNat:=by
    unfold YS
    rw [show ((i.toNat:Nat):Int)=i by omega,hn]
    try rfl
   have st:∀ j:Nat,(if (j:Int) < i then YS a b m j else Zn a j)=if (j:Int) < i+1 then YS a b m j else Zn a j:=fun j=> Zqf (F:=YS a b m) (G:=Zn a) hv h1
   rw [st 0,st 1,st 2,st 3,st 4,st 5,st 6,st 7]
  ·have:i=8:=by omega
   subst this
   refine ⟨⟨rfl,rfl,?_⟩,YH rfl ?_⟩
   ·intro x hx
    simp at hx
    rcases hx with rfl | rfl | rfl | rfl | rfl | rfl | rfl | rfl <;> exact Z8F _ _ _ _
   ·try rfl
end Go.AM.Ytpjenobkibfpcaa
namespace Go.AM.Ytpjenobkibfpcaa
open Go.AM Go.Proofs
theorem Zkt{α:Type}{l:List α}{i:Nat}(h:i < l.length)(d:α):l.drop i=l.getD i d ::l.drop (i+1):=by
 rw [List.drop_eq_getElem_cons h]
 simp [List.getD,h]
theorem ZR{α:Type}{l:List α}{i:Int}(h0:0≤i)(h:i < l.length)(d:α):l.drop i.toNat=l.getD i.toNat d ::l.drop (i+1).toNat:=by
 rw [Zkt (by omega) d,show i.toNat+1=(i+1).toNat by omega]
theorem Zl{α:Type}{l:List α}{i:Nat}(h:i < l.length)(d:α):l.getD i d∈l:=by
 simp only [List.getD,List.getElem?_eq_getElem h,Option.getD_some]
 exact List.getElem_mem h
theorem Z1C(t:Tree):1≤Zj t:=by cases t;simp only [Zj];omega
theorem Z1b(e:Edit):1≤Zg e:=by cases e;simp only [Zg];omega
theorem Z7U(k:Kid):JN k=Zg k.e:=by cases k;rfl
theorem Yg(o:Op):ZX o=Zb o.l+Zg o.e:=by cases o;rfl
theorem YG:∀ {ks:List Tree} {t:Tree},t∈ks→Zj t≤Zb ks
 | x ::r,t,h=> by
  simp only [Zb]
  rcases List.mem_cons.1 h with rfl | h
  ·omega
  ·have:=YG h;omega
theorem YC:∀ {ks:List Kid} {k:Kid},k∈ks→Zg k.e≤ZN ks
 | x ::r,k,h=> by
  simp only [ZN,Z7U]
  rcases List.mem_cons.1 h with rfl | h
  ·omega
  ·have:=YC h;omega
theorem Y2:∀ {os:List Op} {o:Op},o∈os→ZX o≤Zd os
 | x ::r,o,h=> by
  simp only [Zd]
  rcases List.mem_cons.1 h with rfl | h
  ·omega
  ·have:=Y2 h;omega
theorem Y4:∀ (ks:List Kid),ks.length≤ZN ks
 | []=> by simp [ZN]
 | k ::r=> by
  have:=Y4 r
  have:=Z1b k.e
  simp only [ZN,Z7U,List.length_cons]
  omega
theorem Y3:∀ (os:List Op),os.length≤Zd os
 | []=> by simp [Zd]
 | o ::r=> by
  have:=Y3 r
  have:=Z1b o.e
  simp only [Zd,Yg,List.length_cons]
  omega
theorem Za2:∀ {ks:List Tree} {t:Tree},Z1m ks→t∈ks→Z1n t
 | x ::r,t,hs,h=> by
  simp only [Z1m] at hs
  rcases List.mem_cons.1 h with rfl | h
  ·exact hs.1
  ·exact Za2 hs.2 h
theorem Z8i:∀ {ks:List Kid} {k:Kid},Z4A ks→k∈ks→Z27 k.e
 | x ::r,k,hs,h=> by
  simp only [Z4A] at hs
  rcases List.mem_cons.1 h with rfl | h
  ·have:=hs.1;obtain ⟨a,e⟩:=k;exact this
  ·exact Z8i hs.2 h
theorem Z8h:∀ {os:List Op} {o:Op},Z4z os→o∈os→o.l.length≤17592186044416∧Z1m o.l∧Z27 o.e
 | x ::r,o,hs,h=> by
  simp only [Z4z] at hs
  rcases List.mem_cons.1 h with rfl | h
  ·have:=hs.1;obtain ⟨a,b,c,e⟩:=o;exact this
  ·exact Z8h hs.2 h
theorem JJ:∀ {ks:List Tree} {t:Tree},ZW ks→t∈ks→rng t
 | x ::r,t,hs,h=> by
  simp only [ZW] at hs
  rcases List.mem_cons.1 h with rfl | h
  ·exact hs.1
  ·exact JJ hs.2 h
theorem Z15:∀ {ks:List Kid} {k:Kid},Z1U ks→k∈ks→isI k.at_∧Y1 k.e
 | x ::r,k,hs,h=> by
  simp only [Z1U] at hs
  rcases List.mem_cons.1 h with rfl | h
  ·have:=hs.1;obtain ⟨a,e⟩:=k;exact this
  ·exact Z15 hs.2 h
theorem Z14:∀ {os:List Op} {o:Op},Z1T os→o∈os→Z01 o
 | x ::r,o,hs,h=> by
  simp only [Z1T] at hs
  rcases List.mem_cons.1 h with rfl | h
  ·exact hs.1
  ·exact Z14 hs.2 h
theorem Z9c{o:Op}(h:Z01 o):isI o.kind∧isI o.n∧ZW o.l∧Y1 o.e:=by obtain ⟨a,b,c,e⟩:=o;exact h
theorem Zkf(k:Kid)(d n:Int):Z22 k d n=JR k.e d n:=by cases k;rfl
theorem ZmR(o:Op)(d n:Int):Z4a o d n=if Zt o.l 80 n < 0 then Zt o.l 80 n else JR o.e d (Zt o.l 80 n):=by cases o;rfl
theorem Z7t(t:Tree)(n:Int)(h: -1≤n): -1≤sh1 t n∧sh1 t n≤n:=by
 unfold sh1
 split
 ·omega
 ·have:=Yu t 80 n;omega
mutual
theorem Z0y:∀ (e:Edit) (d n:Int),-1≤JR e d n∧JR e d n≤max n (-1)
 | .mk _ o nw w ks _ os,d,n=> by
  simp only [JR]
  split
  ·omega
  ·have h1:=Yu o 80 (n - 1 - w.length - os.length)
   have h2:=Z7t nw _ h1.1
   have h3:=Z0W ks (d - 1) _ h2.1
   have h4:=Z0V os (d - 1) _ h3.1
   omega
theorem Z0W:∀ (ks:List (KidOf Edit)) (d n:Int),-1≤n→-1≤J7 ks d n∧J7 ks d n≤n
 | [],d,n,h=> by simp only [J7];omega
 | k ::r,d,n,h=> by
  simp only [J7]
  split
  ·omega
  ·have h1:=Z5j k d n
   have h2:=Z0W r d _ h1.1
   omega
theorem Z5j:∀ (k:KidOf Edit) (d n:Int),-1≤Z22 k d n∧Z22 k d n≤max n (-1)
 | ⟨_,e⟩,d,n=> by
  simp only [Z22]
  exact Z0y e d n
theorem Z0V:∀ (os:List (OpOf Edit)) (d n:Int),-1≤n→-1≤Jk os d n∧Jk os d n≤n
 | [],d,n,h=> by simp only [Jk];omega
 | o ::r,d,n,h=> by
  simp only [Jk]
  split
  ·omega
  ·have h1:=Z6I o d n h
   have h2:=Z0V r d _ h1.1
   omega
theorem Z6I:∀ (o:OpOf Edit) (d n:Int),-1≤n→-1≤Z4a o d n∧Z4a o d n≤n
 | ⟨_,_,l,e⟩,d,n,h=> by
  simp only [Z4a]
  have h1:=JI l 80 n h
  split
  ·omega
  ·have h2:=Z0y e d (Zt l 80 n)
   omega
end
theorem Zlu{t:Tree}{n:Int}(h:0≤sh1 t n):(Zj t:Int)+sh1 t n≤n:=by
 unfold sh1 at*
 split at h
 ·omega
 ·rename_i hn
  rw [if_neg hn]
  exact JH t 80 n h
mutual
theorem Z5P:∀ (e:Edit) (d n:Int),0≤JR e d n→(Zg e:Int)+JR e d n≤n
 | .mk _ o nw w ks _ os,d,n,h=> by
  simp only [JR] at h ⊢
  split at h
  ·omega
  ·rename_i hc
   rw [if_neg hc]
   have r1:=Yu o 80 (n - 1 - w.length - os.length)
   have r2:=Z7t nw _ r1.1
   have r3:=Z0W ks (d - 1) _ r2.1
   have r4:=Z0V os (d - 1) _ r3.1
   have m4:=Z8O os (d - 1) _ h
   have m3:=Z8P ks (d - 1) (sh1 nw (ZA o 80 (n - 1 - w.length - os.length))) (by omega)
   have m2:=Zlu (t:=nw) (n:=ZA o 80 (n - 1 - w.length - os.length)) (by omega)
   have m1:=JH o 80 (n - 1 - w.length - os.length) (by omega)
   simp only [Zg]
   omega
theorem Z8P:∀ (ks:List (KidOf Edit)) (d n:Int),0≤J7 ks d n→(ZN ks:Int)+J7 ks d n≤n
 | [],d,n,h=> by simp only [J7,ZN];omega
 | k ::r,d,n,h=> by
  simp only [J7] at h ⊢
  split at h
  ·omega
  ·rename_i hc
   rw [if_neg hc]
   have r1:=Z5j k d n
   have r2:=Z0W r d _ r1.1
   have m2:=Z8P r d _ h
   have m1:=Zd6 k d n (by omega)
   simp only [ZN]
   omega
theorem Zd6:∀ (k:KidOf Edit) (d n:Int),0≤Z22 k d n→(JN k:Int)+Z22 k d n≤n
 | ⟨_,e⟩,d,n,h=> by
  simp only [Z22,JN] at h ⊢
  exact Z5P e d n h
theorem Z8O:∀ (os:List (OpOf Edit)) (d n:Int),0≤Jk os d n→(Zd os:Int)+Jk os d n≤n
 | [],d,n,h=> by simp only [Jk,Zd];omega
 | o ::r,d,n,h=> by
  simp only [Jk] at h ⊢
  split at h
  ·omega
  ·rename_i hc
   rw [if_neg hc]
   have r1:=Z6I o d n (by omega)
   have r2:=Z0V r d _ r1.1
   have m2:=Z8O r d _ h
   have m1:=Zf1 o d n (by omega)
   simp only [Zd]
   omega
theorem Zf1:∀ (o:OpOf Edit) (d n:Int),0≤Z4a o d n→(ZX o:Int)+Z4a o d n≤n
 | ⟨_,_,l,e⟩,d,n,h=> by
  simp only [Z4a,ZX] at h ⊢
  split at h
  ·omega
  ·rename_i hc
   rw [if_neg hc]
   have m2:=Z5P e d _ h
   have r2:=Z0y e d (Zt l 80 n)
   have m1:=Z28 l 80 n (by omega)
   omega
end
theorem Z87{e:Edit}(h:0≤JR e 80 3000):Zg e≤3000:=by
 have:=Z5P e 80 3000 h
 omega
end Go.AM.Ytpjenobkibfpcaa
namespace Go.AM.Ytpjenobkibfpcaa
open Go.AM Go.Proofs
theorem ZeY(t:Tree):t.words.length+t.kids.length < Zj t:=by
 obtain ⟨k,w,ks⟩:=t
 have:=Zs ks
 simp only [Zj,Tree.words_mk,Tree.kids_mk]
 omega
theorem Y6(e:Edit):Zj e.old+Zj e.new+e.words.length+e.ops.length+ZN e.kids+Zd e.ops < Zg e:=by
 obtain ⟨k,o,n,w,ks,l,os⟩:=e
 simp only [Zg,Edit.old_mk,Edit.new_mk,Edit.words_mk,Edit.ops_mk,Edit.kids_mk]
 omega
theorem c62:Contract Try.prog cfg 62 Z2V:=by
 refine ZsA ?_
 intro t _ hp
 simp only [Z3V] at hp
 have:=ZeY t
 refine ZwF t _ ?_;(try simp only [vcT,forall_eq])
 refine ⟨fun _=> by unfold InR;omega,Z2 rfl ?_⟩
 rw [Bool.eq_iff_iff]
 simp only [ZM]
 (simp only [vcS])
 omega
theorem c63:Contract Try.prog cfg 63 Z7s:=by
 refine Zsz ZtJ ?_
 intro w m _ hp
 refine ZwE _ _ _ ?_;(try simp only [vcT,forall_eq])
 refine ⟨⟨hp.1,by dsimp only;omega,hp.2⟩,Z2 rfl ?_⟩
 try rfl
theorem ZtI:Contract Try.prog cfg 104 Z4y:=by
 refine ZpJ c62 ?_
 intro e _ hp
 simp only [Z5C] at hp
 have h1:=Y6 e
 have h2:=Y4 e.kids
 refine Zvn e _ ?_;(try simp only [vcT,forall_eq])
 try (simp only [Tree.eta,Edit.eta,Tree.kind_mk,Tree.words_mk,Tree.kids_mk])
 refine ⟨fun _=> by simp only [Z3V];omega,fun _=> by simp only [Z3V];omega,fun _=> by unfold InR;omega,fun _=> by unfold InR;omega,Z2 rfl ?_⟩
 rw [Bool.eq_iff_iff]
 simp only [Z00]
 (simp only [vcS])
 constructor
 ·rintro ⟨⟨⟨⟨h3,h4⟩,h5⟩,h6⟩,h7⟩;exact ⟨⟨⟨h3,h4⟩,h5⟩,by omega⟩
 ·rintro ⟨⟨⟨h3,h4⟩,h5⟩,h6⟩;exact ⟨⟨⟨⟨h3,h4⟩,h5⟩,by omega⟩,by omega⟩
theorem Ztb (e:Edit) (x4 x5 i:Int) (N0:LSt U→Prop) (Q:AExit→LSt U→Prop) (h1:0≤x4∧x4≤1048576) (h2:0≤x5∧x5≤1048576) (hi:0≤i) (hlen:e.ops.length≤20000000000)
  (ho:∀ o∈e.ops,(0≤o.n∧o.n≤1048576)∧o.l.length≤20000000000)
  (h:i < e.ops.length→N0 (Z1G e (min (if (e.ops.getD i.toNat Op.nil).kind=2 then x4 else x4+Zr (e.ops.getD i.toNat Op.nil)) 1048576) (min (if (e.ops.getD i.toNat Op.nil).kind=1 then x5 else x5+Zr (e.ops.getD i.toNat Op.nil)) 1048576) (i+1)))
  (h':¬i < e.ops.length→Q .ret (⟨[(2,.c (.int .i64 x4)),(3,.c (.int .i64 x5))],[],[]⟩:LSt U)):ZtT e x4 x5 i N0 Q:=by
 refine ZoA _ _ _ _ _ _ ?_;(try simp only [vcT,forall_eq])
 (simp only [vcS]);(try simp only [vcT])
 refine ⟨fun hc=> ?_,h'⟩
 have hn:=h hc
 have hm:=ho _ (Zl (l:=e.ops) (i:=i.toNat) (by omega) Op.nil)
 have k1:∀ k,k=Zr (e.ops.getD i.toNat Op.nil)→ZtX e x4 x5 i k N0 Q:=by
  intro k hk
  have hkr:0≤k∧k≤60000000000:=by
   rw [hk];unfold Zr;split <;> omega
  have k2:∀ y,y=(if (e.ops.getD i.toNat Op.nil).kind=2 then x4 else x4+k)→ZtW e x5 i k y N0 Q:=by
   intro y hy
   have hyr:0≤y∧y≤100000000000:=by rw [hy];split <;> omega
   have k3:∀ z,z=(if (e.ops.getD i.toNat Op.nil).kind=1 then x5 else x5+k)→ZtV e i k y z N0 Q:=by
    intro z hz
    have hzr:0≤z∧z≤100000000000:=by rw [hz];split <;> omega
    have k4:∀ u,u=min y 1048576→ZtU e i y z u N0 Q:=by
     intro u hu
     refine ZoB _ _ _ _ _ _ _ ?_;(try simp only [vcT,forall_eq])
     (simp only [vcS]);(try simp only [vcT])
     rw [←hk,←hy,←hz,←hu] at hn
     refine ⟨fun hq=> ⟨by unfold InR;omega,?_⟩,fun hq=> ⟨by unfold InR;omega,?_⟩⟩
     ·rw [show min z 1048576=1048576 by omega] at hn;exact hn
     ·rw [show min z 1048576=z by omega] at hn;exact hn
    refine ZoC _ _ _ _ _ _ _ ?_;(try simp only [vcT,forall_eq])
    (simp only [vcS]);(try simp only [vcT])
    exact ⟨fun hq=> k4 _ (by omega),fun hq=> k4 _ (by omega)⟩
   refine ZoD _ _ _ _ _ _ _ ?_;(try simp only [vcT,forall_eq])
   (simp only [vcS]);(try simp only [vcT])
   exact ⟨fun hq=> ⟨by unfold InR;omega,k3 _ (by rw [if_neg hq])⟩,fun hq=> k3 _ (by rw [if_pos hq])⟩
  refine ZoE _ _ _ _ _ _ _ ?_;(try simp only [vcT,forall_eq])
  (simp only [vcS]);(try simp only [vcT])
  exact ⟨fun hq=> ⟨by unfold InR;omega,k2 _ (by rw [if_neg hq])⟩,fun hq=> k2 _ (by rw [if_pos hq])⟩
 exact ⟨⟨hi,hc⟩,by unfold InR;omega,fun hq=> k1 _ (by unfold Zr;rw [if_pos hq]),fun hq=> k1 _ (by unfold Zr;rw [if_neg hq])⟩
theorem c65:Contract Try.prog cfg 65 Z2U:=by
 refine Zsy ?_
 intro e _ hp
 simp only [Zeo] at hp
 have h1:=Y6 e
 refine ZwC e _ ?_;(try simp only [vcT,forall_eq])
 refine Za (ι:=Int × Int × Int) (fun p=> Z1G e p.1 p.2.1 p.2.2) (fun p=> 0≤p.2.2∧p.2.2≤e.ops.length∧(0≤p.1∧p.1≤1048576)∧(0≤p.2.1∧p.2.1≤1048576)∧JY (e.ops.drop p.2.2.toNat) p.1=JY e.ops 0∧JX (e.ops.drop p.2.2.toNat) p.2.1=JX e.ops 0) (fun p=> ((e.ops.length:Int) - p.2.2).toNat) (0,0,0) rfl ⟨by dsimp only;omega,by dsimp only;omega,by dsimp only;omega,by dsimp only;omega,by simp,by simp⟩ ?_
 rintro ⟨x4,x5,i⟩ ⟨h2,h3,h4,h5,h6,h7⟩
 dsimp only at*
 have ho:∀ o∈e.ops,(0≤o.n∧o.n≤1048576)∧o.l.length≤20000000000:=by
  intro o hm
  refine ⟨hp.2 o hm,?_⟩
  have a1:=Y2 hm
  have a2:=Zs o.l
  rw [Yg] at a1
  omega
 refine Ztb e x4 x5 i _ _ h4 h5 h2 (by omega) ho (fun hc=> ⟨(_,_,i+1),rfl,⟨by dsimp only;omega,by dsimp only;omega,?_,?_,?_,?_⟩,by dsimp only;omega⟩) (fun hc=> ?_)
 ·have hm:=ho _ (Zl (l:=e.ops) (i:=i.toNat) (by omega) Op.nil)
  dsimp only
  unfold Zr
  split <;> (try split) <;> omega
 ·have hm:=ho _ (Zl (l:=e.ops) (i:=i.toNat) (by omega) Op.nil)
  dsimp only
  unfold Zr
  split <;> (try split) <;> omega
 ·rw [ZR h2 hc Op.nil] at h6
  exact h6
 ·rw [ZR h2 hc Op.nil] at h7
  exact h7
 ·rw [List.drop_of_length_le (by omega)] at h6 h7
  simp only [JY,JX] at h6 h7
  simp only [ZlG,←h6,←h7]
  exact ⟨⟨rfl,⟨⟨rfl,rfl⟩,trivial⟩,rfl,⟨⟨rfl,rfl⟩,trivial⟩,trivial⟩,trivial⟩
theorem Zgo{l:List Kid}{d n:Int}(h:n < 0):J7 l d n=n:=by cases l <;> simp [J7,h]
theorem Zgn{l:List Op}{d n:Int}(h:n < 0):Jk l d n=n:=by cases l <;> simp [Jk,h]
theorem ZcC{l:List Tree}{d n:Int}(h:n < 0):Zt l d n=n:=by cases l <;> simp [Zt,h]
theorem ZjE{e:Edit}(h:Z27 e):Z1n e.old∧Z1n e.new∧e.words.length≤17592186044416∧e.kids.length≤17592186044416∧e.ops.length≤17592186044416∧Z4A e.kids∧Z4z e.ops:=by
 obtain ⟨k,o,n,w,ks,l,os⟩:=e;exact h
theorem ZmS(e:Edit)(d n:Int):JR e d n=if d=0∨n - 1 - e.words.length - e.ops.length < 0 then -1 else Jk e.ops (d - 1) (J7 e.kids (d - 1) (sh1 e.new (ZA e.old 80 (n - 1 - e.words.length - e.ops.length)))):=by
 obtain ⟨k,o,nw,w,ks,l,os⟩:=e;rfl
theorem c90:Contract Try.prog cfg 90 Z9A:=by
 refine Zsk c78 ?_
 rintro N e d n _ hp hN
 simp only [Zah,ZeI] at hp hN
 obtain ⟨hs,hd0,hd1,hn0,hn1⟩:=hp
 obtain ⟨so,sn,lw,lk,lo,sk,sos⟩:=ZjE hs
 have hme:=Y6 e
 have hres:=ZmS e d n
 refine Zwl N e d n _ ?_;(try simp only [vcT,forall_eq])
 (simp only [vcS]);(try simp only [vcT])
 try (simp only [Tree.eta,Edit.eta,Tree.kind_mk,Tree.words_mk,Tree.kids_mk])
 refine ⟨by unfold InR;omega,by unfold InR;omega,by unfold InR;omega,fun hc=> YH rfl (by rw [hres,if_pos hc]),fun hc=> ?_⟩
 rw [if_neg (by omega)] at hres
 have r1:=Yu e.old 80 (n - 1 - e.words.length - e.ops.length)
 have p68:∀ t m,Z1n t→-1≤m→m≤4611686018427387904→Z6j (t,80,m,()):=fun t m h1 h2 h3=> ⟨h1,by dsimp only;omega,by dsimp only;omega,h2,h3⟩
 have k0:∀ x,x=sh1 e.new (ZA e.old 80 (n - 1 - e.words.length - e.ops.length))→ZtS N e d n x (Jg cfg Try.f90.ntmps Try.f90.results.toList (ZhI (e,d,n,())) []):=by
  intro x hx
  have rx:=Z7t e.new _ r1.1
  rw [←hx] at rx hres
  refine Zol N e d n x _ ?_;(try simp only [vcT,forall_eq])
  refine Za (ι:=Int × Int) (fun p=> Z6L e d n p.1 p.2) (fun p=> 0≤p.2∧p.2≤e.kids.length∧-1≤p.1∧p.1≤4611686018427387904∧J7 (e.kids.drop p.2.toNat) (d - 1) p.1=J7 e.kids (d - 1) x) (fun p=> ((e.kids.length:Int) - p.2).toNat) (x,0) rfl ⟨by dsimp only;omega,by dsimp only;omega,by dsimp only;omega,by dsimp only;omega,by simp⟩ ?_
  rintro ⟨y,i⟩ ⟨h1,h2,h3,h4,h5⟩
  dsimp only at*
  refine Zok N e d n y i _ _ ?_;(try simp only [vcT,forall_eq])
  (simp only [vcS]);(try simp only [vcT])
  try (simp only [Tree.eta,Edit.eta,Tree.kind_mk,Tree.words_mk,Tree.kids_mk])
  refine ⟨fun hi=> ?_,fun hi=> ?_⟩
  ·have hmem:=Zl (l:=e.kids) (i:=i.toNat) (by omega) (KidOf.mk 0 Edit.nil)
   have hsm:=Z8i sk hmem
   have hmm:=YC hmem
   rw [ZR h1 hi.1 (KidOf.mk 0 Edit.nil)] at h5
   simp only [J7] at h5
   rw [if_neg (by omega),Zkf] at h5
   have rr:=Z0y (e.kids.getD i.toNat (KidOf.mk 0 Edit.nil)).e (d - 1) y
   exact ⟨⟨h1,hi.1⟩,by unfold InR;omega,⟨hsm,by dsimp only;omega,by dsimp only;omega,h3,h4⟩,by simp only [ZeI];omega,by unfold InR;omega,(_,i+1),rfl,⟨by dsimp only;omega,by dsimp only;omega,by dsimp only;omega,by dsimp only;omega,h5⟩,by dsimp only;omega⟩
  ·have hy:J7 e.kids (d - 1) x=y:=by
    rw [←h5]
    by_cases hlt:i < e.kids.length
    ·exact Zgo (by omega)
    ·rw [List.drop_of_length_le (by omega)];try rfl
   rw [hy] at hres
   refine Za (ι:=Int × Int) (fun p=> Z4f e d n p.1 p.2) (fun p=> 0≤p.2∧p.2≤e.ops.length∧-1≤p.1∧p.1≤4611686018427387904∧Jk (e.ops.drop p.2.toNat) (d - 1) p.1=Jk e.ops (d - 1) y) (fun p=> ((e.ops.length:Int) - p.2).toNat) (y,0) rfl ⟨by dsimp only;omega,by dsimp only;omega,h3,h4,by simp⟩ ?_
   rintro ⟨z,j⟩ ⟨h6,h7,h8,h9,h10⟩
   dsimp only at*
   refine Zoj N e d n z j _ _ ?_;(try simp only [vcT,forall_eq])
   (simp only [vcS]);(try simp only [vcT])
   refine ⟨fun hj=> ?_,fun hj=> ?_⟩
   ·have hmem:=Zl (l:=e.ops) (i:=j.toNat) (by omega) Op.nil
    have hsm:=Z8h sos hmem
    have hmm:=Y2 hmem
    rw [Yg] at hmm
    rw [ZR h6 hj.1 Op.nil] at h10
    simp only [Jk] at h10
    rw [if_neg (by omega),ZmR] at h10
    refine Za (ι:=Int × Int) (fun p=> Z6K e d n j p.1 p.2) (fun p=> 0≤p.2∧p.2≤(e.ops.getD j.toNat Op.nil).l.length∧-1≤p.1∧p.1≤4611686018427387904∧Zt ((e.ops.getD j.toNat Op.nil).l.drop p.2.toNat) 80 p.1=Zt (e.ops.getD j.toNat Op.nil).l 80 z) (fun p=> (((e.ops.getD j.toNat Op.nil).l.length:Int) - p.2).toNat) (z,0) rfl ⟨by dsimp only;omega,by dsimp only;omega,h8,h9,by simp⟩ ?_
    rintro ⟨u,k⟩ ⟨g1,g2,g3,g4,g5⟩
    dsimp only at*
    refine Zoi N e d n j u k _ _ _ ?_;(try simp only [vcT,forall_eq])
    (simp only [vcS]);(try simp only [vcT])
    try (simp only [Tree.eta,Edit.eta,Tree.kind_mk,Tree.words_mk,Tree.kids_mk])
    refine ⟨⟨h6,hj.1⟩,fun hk=> ?_,fun hk=> ?_⟩
    ·have hmt:=Zl (l:=(e.ops.getD j.toNat Op.nil).l) (i:=k.toNat) (by omega) Tree.nil
     rw [ZR g1 hk.1 Tree.nil] at g5
     simp only [Zt] at g5
     rw [if_neg (by omega)] at g5
     have rr:=Yu ((e.ops.getD j.toNat Op.nil).l.getD k.toNat Tree.nil) 80 u
     exact ⟨⟨h6,hj.1⟩,⟨g1,hk.1⟩,p68 _ _ (Za2 hsm.2.1 hmt) g3 g4,by unfold InR;omega,(_,k+1),rfl,⟨by dsimp only;omega,by dsimp only;omega,by dsimp only;omega,by dsimp only;omega,g5⟩,by dsimp only;omega⟩
    ·have hu:Zt (e.ops.getD j.toNat Op.nil).l 80 z=u:=by
      rw [←g5]
      by_cases hlt:k < (e.ops.getD j.toNat Op.nil).l.length
      ·exact ZcC (by omega)
      ·rw [List.drop_of_length_le (by omega)];try rfl
     rw [hu] at h10
     have rr:=Z0y (e.ops.getD j.toNat Op.nil).e (d - 1) u
     refine ⟨fun hq=> ⟨⟨h6,hj.1⟩,by unfold InR;omega,⟨hsm.2.2,by dsimp only;omega,by dsimp only;omega,g3,g4⟩,by simp only [ZeI];omega,by unfold InR;omega,(_,j+1),rfl,⟨by dsimp only;omega,by dsimp only;omega,by dsimp only;omega,by dsimp only;omega,?_⟩,by dsimp only;omega⟩,
      fun hq=> ⟨by unfold InR;omega,(_,j+1),rfl,⟨by dsimp only;omega,by dsimp only;omega,by dsimp only;omega,by dsimp only;omega,?_⟩,by dsimp only;omega⟩⟩
     ·rw [if_neg (by omega)] at h10;exact h10
     ·rw [if_pos (by omega)] at h10;exact h10
   ·refine YH rfl ?_
    rw [hres,←h10]
    by_cases hlt:j < e.ops.length
    ·exact (Zgn (by omega)).symm
    ·rw [List.drop_of_length_le (by omega)];try rfl
 refine ⟨p68 _ _ so (by omega) (by omega),fun hq=> ⟨p68 _ _ sn r1.1 (by omega),k0 _ ?_⟩,fun hq=> k0 _ ?_⟩
 ·unfold sh1;rw [if_neg (by omega)]
 ·unfold sh1;rw [if_pos (by omega)]
theorem c54:Contract Try.prog cfg 54 Z9O:=by
 refine ZsE c90 ?_
 intro e _ hp
 refine ZwK e _ ?_;(try simp only [vcT,forall_eq])
 try (simp only [Tree.eta,Edit.eta,Tree.kind_mk,Tree.words_mk,Tree.kids_mk])
 exact ⟨⟨hp,by dsimp only;omega,by dsimp only;omega,by dsimp only;omega,by dsimp only;omega⟩,Z2 rfl rfl⟩
end Go.AM.Ytpjenobkibfpcaa
namespace Go.AM.Ytpjenobkibfpcaa
open Go.AM Go.Proofs
theorem Z2o(e:Edit)(d:Int):Z4 e d=
  if d=0∨e.kind < 0∨3 < e.kind then false
  else if (e.kind≠1∧¬(ZM e.old=true∧ZM e.new=true))∨(e.kind≠2∧¬(e.words.length=0∧e.kids.length=0))∨(e.kind≠3∧(e.list≠0∨e.ops.length≠0)) then false
  else if e.kind=1 then Z9 e.old (dT d) && Z9 e.new (dT d) && decide (e.old.kind≠10∧e.new.kind≠10)
  else Zu (-1) e.words && ZE (-1) e.kids (d - 1) && decide (¬(e.kind=3∧(e.list < 2∨9 < e.list))) && ZB e.list e.ops (d - 1) && decide (JY e.ops 0 < 1048576∧JX e.ops 0 < 1048576):=by
 obtain ⟨k,o,nw,w,ks,l,os⟩:=e;rfl
theorem Z3O(last:Int)(k:Kid)(d:Int):Z0t last k d=(decide (last < k.at_∧k.at_≤65534∧k.e.kind≠0) && Z4 k.e d):=by cases k;rfl
theorem Jt(list:Int)(o:Op)(d:Int):Zf list o d=
  if o.kind=0 then decide (1≤o.n∧o.n≤1048576∧o.l.length=0) && Z00 o.e
  else if o.n≠0∨o.kind < 0∨3 < o.kind then false
  else if o.kind < 3 then YB (dT d) list o.l && decide (0 < o.l.length) && Z00 o.e
  else decide (o.l.length=0∧o.e.kind≠0∧7 < list) && Z4 o.e d && decide (list=8∨o.e.kind=2∨o.e.kind=1∧o.e.old.kind=1∧o.e.new.kind=1):=by
 cases o;rfl
theorem Z4E{list:Int}{o:Op}{d:Int}(h:Zf list o d=true):0≤o.n∧o.n≤1048576:=by
 rw [Jt] at h
 split at h
 ·simp only [Bool.and_eq_true,decide_eq_true_eq] at h;omega
 ·split at h
  ·cases h
  ·rename_i h1;omega
theorem rightOs_mem{list d:Int}:∀ {os:List Op} {o:Op},ZB list os d=true→o∈os→Zf list o d=true
 | x ::r,o,h,hm=> by
  simp only [ZB,Bool.and_eq_true] at h
  rcases List.mem_cons.1 hm with rfl | hm
  ·exact h.1
  ·exact rightOs_mem h.2 hm
theorem Z8n{d:Int}:∀ {ks:List Kid} {last:Int} {k:Kid},ZE last ks d=true→k∈ks→Z4 k.e d=true∧k.e.kind≠0
 | x ::r,last,k,h,hm=> by
  simp only [ZE,Bool.and_eq_true] at h
  rcases List.mem_cons.1 hm with rfl | hm
  ·have:=h.1;rw [Z3O] at this;simp only [Bool.and_eq_true,decide_eq_true_eq] at this;exact ⟨this.2,this.1.2.2⟩
  ·exact Z8n h.2 hm
theorem Z0P{e:Edit}(h:Y1 e):isI e.kind∧rng e.old∧rng e.new∧(∀ x∈e.words,ZlB x)∧isI e.list∧Z1U e.kids∧Z1T e.ops:=by
 obtain ⟨k,o,n,w,ks,l,os⟩:=e;exact h
theorem b23:Zwe:=by
 intro N e d _ hp hN
 simp only [Z8w,Zd3] at hp hN
 obtain ⟨⟨hm,hr⟩,hd0,hd1⟩:=hp
 obtain ⟨ik,ro,rn,rw',il,rk,ros⟩:=Z0P hr
 have hme:=Y6 e
 have hkl:=Y4 e.kids
 have hol:=Y3 e.ops
 have hat:=Z2o e d
 rw [ZiO hd0] at hat
 refine ZwW N e d _ ?_;(try simp only [vcT,forall_eq])
 (simp only [vcS]);(try simp only [vcT]);(try simp only [vcU])
 try (simp only [Tree.eta,Edit.eta,Tree.kind_mk,Tree.words_mk,Tree.kids_mk])
 refine ⟨fun hc=> Z2 rfl (by rw [hat,if_pos (by omega)]),fun hc=> ?_⟩
 rw [if_neg (by omega)] at hat
 refine ⟨fun _=> by simp only [Z3V];omega,fun _=> by simp only [Z3V];omega,fun _=> by unfold InR;omega,fun hf=> Z2 rfl ?_,fun hf=> ⟨fun h1=> ⟨⟨by dsimp only;omega,ro,by dsimp only;omega,by dsimp only;omega⟩,fun _=> ⟨by dsimp only;omega,rn,by dsimp only;omega,by dsimp only;omega⟩,Z2 rfl ?_⟩,fun h1=> ?_⟩⟩
 ·rw [hat,if_pos]
  rcases hf with (hf | hf) | hf
  ·left
   refine ⟨hf.1,fun h=> ?_⟩
   rcases hf.2 with h2 | h2
   ·rw [h.1] at h2;cases h2
   ·rw [h.2] at h2;cases h2
  ·right;left;omega
  ·right;right;omega
 ·rw [hat,if_neg,if_pos h1,Bool.eq_iff_iff]
  ·(simp only [vcS])
   constructor
   ·rintro ⟨⟨⟨h2,h3⟩,h4⟩,h5⟩;exact ⟨⟨h2,h3⟩,h4,h5⟩
   ·rintro ⟨⟨h2,h3⟩,h4,h5⟩;exact ⟨⟨⟨h2,h3⟩,h4⟩,h5⟩
  ·intro h
   rcases h with h | h | h
   ·exact h.1 h1
   ·omega
   ·omega
 ·rw [if_neg,if_neg h1] at hat
  ·refine Za (ι:=Int × Int) (fun p=> Z79 e d p.1 p.2) (fun p=> 0≤p.2∧p.2≤e.words.length∧Zu p.1 (e.words.drop p.2.toNat)=Zu (-1) e.words) (fun p=> ((e.words.length:Int) - p.2).toNat) (-1,0) rfl ⟨by dsimp only;omega,by dsimp only;omega,by simp⟩ ?_
   rintro ⟨last,i⟩ ⟨h2,h3,h4⟩
   dsimp only at*
   refine ZoT N e d last i _ _ ?_;(try simp only [vcT,forall_eq])
   (simp only [vcS]);(try simp only [vcT]);(try simp only [vcU])
   try (simp only [Tree.eta,Edit.eta,Tree.kind_mk,Tree.words_mk,Tree.kids_mk])
   refine ⟨fun hi=> ?_,fun hi=> ?_⟩
   ·have hmem:=Zl (l:=e.words) (i:=i.toNat) (by omega) (WEdit.mk 0 0 0 0)
    have hrw:=rw' _ hmem
    rw [ZR h2 hi (WEdit.mk 0 0 0 0)] at h4
    simp only [Zu] at h4
    generalize e.words.getD i.toNat (WEdit.mk 0 0 0 0)=w at*
    obtain ⟨_,hmk,hwo,hwn⟩:=hrw
    refine ⟨⟨h2,hi⟩,fun _=> ⟨hwo,hmk⟩,fun _=> ⟨hwn,hmk⟩,fun hq=> Z2 rfl ?_,fun hq=> ⟨by unfold InR;omega,(_,i+1),rfl,⟨by dsimp only;omega,by dsimp only;omega,?_⟩,by dsimp only;omega⟩⟩
    ·rw [hat,←h4]
     rcases hq with (hq | hq) | hq
     ·rw [decide_eq_false (by omega)];try rfl
     ·rw [hq];simp
     ·rw [hq];simp
    ·dsimp only
     rw [←h4,decide_eq_true (by omega),hq.1.2,hq.2];try rfl
   ·have hw:Zu (-1) e.words=true:=by
     rw [←h4,List.drop_of_length_le (by omega)];try rfl
    rw [hw,Bool.true_and] at hat
    refine Za (ι:=Int × Int) (fun p=> Z78 e d p.1 p.2) (fun p=> 0≤p.2∧p.2≤e.kids.length∧ZE p.1 (e.kids.drop p.2.toNat) (d - 1)=ZE (-1) e.kids (d - 1)) (fun p=> ((e.kids.length:Int) - p.2).toNat) (-1,0) rfl ⟨by dsimp only;omega,by dsimp only;omega,by simp⟩ ?_
    rintro ⟨last,i⟩ ⟨h2,h3,h4⟩
    dsimp only at*
    refine ZoS N e d last i _ _ ?_;(try simp only [vcT,forall_eq])
    (simp only [vcS]);(try simp only [vcT]);(try simp only [vcU])
    try (simp only [Tree.eta,Edit.eta,Tree.kind_mk,Tree.words_mk,Tree.kids_mk])
    refine ⟨fun hi=> ?_,fun hi=> ?_⟩
    ·have hmem:=Zl (l:=e.kids) (i:=i.toNat) (by omega) (KidOf.mk 0 Edit.nil)
     have hrw:=Z15 rk hmem
     have hmm:=YC hmem
     rw [ZR h2 hi (KidOf.mk 0 Edit.nil)] at h4
     simp only [ZE,Z3O] at h4
     generalize e.kids.getD i.toNat (KidOf.mk 0 Edit.nil)=w at*
     refine ⟨⟨h2,hi⟩,fun _=> by unfold InR;omega,fun _=> ⟨⟨by dsimp only;omega,hrw.2⟩,by dsimp only;omega,by dsimp only;omega⟩,fun _=> by simp only [Zd3];omega,fun hq=> Z2 rfl ?_,fun hq=> ⟨by unfold InR;omega,(_,i+1),rfl,⟨by dsimp only;omega,by dsimp only;omega,?_⟩,by dsimp only;omega⟩⟩
     ·rw [hat,←h4]
      rcases hq with hq | hq
      ·rw [decide_eq_false (by omega)];try rfl
      ·rw [hq];simp
     ·dsimp only
      rw [←h4,decide_eq_true (by omega),hq.2];try rfl
    ·have hw:ZE (-1) e.kids (d - 1)=true:=by
      rw [←h4,List.drop_of_length_le (by omega)];try rfl
     rw [hw,Bool.true_and] at hat
     refine ⟨fun hq=> Z2 rfl (by rw [hat,decide_eq_false (by omega)];rfl),fun hq=> ?_⟩
     rw [decide_eq_true (by omega),Bool.true_and] at hat
     refine Za (ι:=Int) (fun p=> Z77 e d p) (fun p=> 0≤p∧p≤e.ops.length∧ZB e.list (e.ops.drop p.toNat) (d - 1)=ZB e.list e.ops (d - 1)) (fun p=> ((e.ops.length:Int) - p).toNat) 0 rfl ⟨by omega,by omega,by simp⟩ ?_
     rintro j ⟨h5,h6,h7⟩
     refine ZoR N e d j _ _ ?_;(try simp only [vcT,forall_eq])
     (simp only [vcS]);(try simp only [vcT]);(try simp only [vcU])
     try (simp only [Tree.eta,Edit.eta,Tree.kind_mk,Tree.words_mk,Tree.kids_mk])
     refine ⟨fun hj=> ?_,fun hj=> ?_⟩
     ·have hmem:=Zl (l:=e.ops) (i:=j.toNat) (by omega) Op.nil
      have hro:=Z14 ros hmem
      have hmm:=Y2 hmem
      rw [ZR h5 hj Op.nil] at h7
      simp only [ZB] at h7
      generalize e.ops.getD j.toNat Op.nil=o at*
      refine ⟨⟨h5,hj⟩,by unfold InR;omega,⟨⟨by show ZX o≤20000000000;omega,hro,il⟩,by dsimp only;omega,by dsimp only;omega⟩,?_,fun hq=> Z2 rfl ?_,fun hq=> ⟨by unfold InR;omega,j+1,rfl,⟨by omega,by omega,?_⟩,by omega⟩⟩
      ·show 2*ZX o+1 < N
       omega
      ·have hq':Zf e.list o (d - 1)=false:=hq
       rw [hat,←h7,hq'];try rfl
      ·have hq':Zf e.list o (d - 1)=true:=hq
       rw [←h7,hq'];try rfl
     ·have hw:ZB e.list e.ops (d - 1)=true:=by
       rw [←h7,List.drop_of_length_le (by omega)];try rfl
      rw [hw,Bool.true_and] at hat
      refine ⟨⟨hm,fun o ho=> Z4E (rightOs_mem hw ho)⟩,Z2 rfl ?_⟩
      rw [hat,Bool.eq_iff_iff]
      (simp only [vcS])
  ·intro h
   rcases h with h | h | h
   ·rcases hf.1.1 with h2 | h2
    ·exact h1 h2
    ·exact h.2 h2
   ·omega
   ·omega
theorem Zbs{l:List Tree}{i:Int}(h0:0≤i)(h:i < l.length):List.drop i.toNat (l.take (i+1).toNat)=[l.getD i.toNat Tree.nil]:=by
 rw [List.drop_take,show (i+1).toNat - i.toNat=1 by omega,ZR h0 h Tree.nil]
 try rfl
theorem b64:Zwb:=by
 intro N list o d _ hp hN
 simp only [ZbT,Zk4] at hp hN
 obtain ⟨⟨hm,hr,hil⟩,hd0,hd1⟩:=hp
 obtain ⟨ik,inn,rl,re⟩:=Z9c hr
 rw [Yg] at hm hN
 have hll:=Zs o.l
 have hep:=Z1b o.e
 have hat:=Jt list o d
 rw [ZiO hd0,Z7n] at hat
 refine ZwD N list o d _ ?_;(try simp only [vcT,forall_eq])
 (simp only [vcS]);(try simp only [vcT]);(try simp only [vcU])
 try (simp only [Tree.eta,Edit.eta,Tree.kind_mk,Tree.words_mk,Tree.kids_mk])
 refine ⟨fun h0=> ⟨fun _=> by simp only [Z5C];omega,Z2 rfl ?_⟩,fun h0=> ⟨fun hc=> Z2 rfl ?_,fun hc=> ⟨fun h3=> ?_,fun h3=> ⟨fun _=> ⟨⟨by dsimp only;omega,re⟩,hd0,hd1⟩,fun _=> by simp only [Zd3];omega,fun hq=> Z2 rfl ?_,fun hq=> Z2 rfl ?_⟩⟩⟩⟩
 ·rw [hat,if_pos h0,Bool.eq_iff_iff]
  (simp only [vcS])
  constructor
  ·rintro ⟨h1,h2⟩;exact ⟨by omega,h2⟩
  ·rintro ⟨h1,h2⟩;exact ⟨by omega,h2⟩
 ·rw [hat,if_neg h0,if_pos (by omega)]
 ·rw [if_neg h0,if_neg (by omega),if_pos h3] at hat
  refine Za (ι:=Int) (fun p=> Z70 list o d p) (fun p=> 0≤p∧p≤o.l.length∧YN list (o.l.drop p.toNat)=YN list o.l) (fun p=> ((o.l.length:Int) - p).toNat) 0 rfl ⟨by omega,by omega,by simp⟩ ?_
  rintro i ⟨h4,h5,h6⟩
  refine ZoF N list o d i _ _ ?_;(try simp only [vcT,forall_eq])
  (simp only [vcS]);(try simp only [vcT]);(try simp only [vcU])
  try (simp only [Tree.eta,Edit.eta,Tree.kind_mk,Tree.words_mk,Tree.kids_mk])
  refine ⟨fun hi=> ?_,fun hi=> ?_⟩
  ·have hmem:=Zl (l:=o.l) (i:=i.toNat) (by omega) Tree.nil
   have hrt:=JJ rl hmem
   have hmt:=YG hmem
   rw [Zbs h4 hi]
   rw [ZR h4 hi Tree.nil] at h6
   simp only [YN] at h6
   generalize o.l.getD i.toNat Tree.nil=t at*
   refine ⟨by unfold InR;omega,by omega,⟨by simp only [Zj,Zb,List.length_nil];omega,⟨hil,fun x hx=> (by cases hx),hrt,trivial⟩,by dsimp only;omega,by dsimp only;omega⟩,fun hq=> Z2 rfl ?_,fun hq=> ⟨by unfold InR;omega,i+1,rfl,⟨by omega,by omega,?_⟩,by omega⟩⟩
   ·rw [hat,←h6,hq];try rfl
   ·rw [←h6,hq];try rfl
  ·have hw:YN list o.l=true:=by
    rw [←h6,List.drop_of_length_le (by omega)];try rfl
   rw [hw,Bool.true_and] at hat
   refine ⟨fun _=> by simp only [Z5C];omega,Z2 rfl ?_⟩
   rw [hat,Bool.eq_iff_iff]
   (simp only [vcS])
   simp only [Int.natCast_pos]
 ·rw [hat,if_neg h0,if_neg (by omega),if_neg h3]
  rcases hq with hq | hq
  ·have:¬(o.l.length=0∧o.e.kind≠0∧7 < list):=by omega
   rw [decide_eq_false this];try rfl
  ·rw [hq];simp
 ·rw [hat,if_neg h0,if_neg (by omega),if_neg h3,hq.2]
  have:o.l.length=0∧o.e.kind≠0∧7 < list:=by omega
  rw [decide_eq_true this,Bool.eq_iff_iff]
  (simp only [vcS])
  simp only [true_and,Bool.and_true,decide_eq_true_eq,and_assoc,or_assoc]
theorem Ztk:Contract Try.prog cfg 23 Z9W∧Contract Try.prog cfg 64 Zls:=Zkc c62 c63 ZtI c37 c65 b23 b64
theorem Zc8(e:Edit):JQ e=(decide (JY e.ops 0≤2000∧JX e.ops 0≤2000) && Z0U e.kids && Z21 e.ops):=by
 obtain ⟨k,o,nw,w,ks,l,os⟩:=e;rfl
theorem Z8N(k:Kid):ZeX k=JQ k.e:=by cases k;rfl
theorem ZaT(o:Op):Zio o=JQ o.e:=by cases o;rfl
theorem Z2n{e:Edit}{d:Int}(h:Z4 e d=true):(∀ k∈e.kids,Z4 k.e (d - 1)=true∧k.e.kind≠0)∧∀ o∈e.ops,Zf e.list o (d - 1)=true:=by
 rw [Z2o] at h
 split at h
 ·cases h
 ·split at h
  ·cases h
  ·rename_i h1 h2
   split at h
   ·rename_i h3
    have hk:e.kids=[]:=List.eq_nil_of_length_eq_zero (by omega)
    have ho:e.ops=[]:=List.eq_nil_of_length_eq_zero (by omega)
    rw [hk,ho]
    exact ⟨fun k hk=> (by cases hk),fun o ho=> (by cases ho)⟩
   ·simp only [Bool.and_eq_true] at h
    exact ⟨fun k hk=> Z8n h.1.1.1.2 hk,fun o ho=> rightOs_mem h.1.2 ho⟩
theorem ZdY{e:Edit}(h:Z00 e=true):e.kind=0∧ZM e.old=true∧ZM e.new=true∧e.words=[]∧e.kids=[]∧e.ops=[]∧e.list=0:=by
 simp only [Z00,Bool.and_eq_true,decide_eq_true_eq] at h
 obtain ⟨⟨⟨h1,h2⟩,h3⟩,h4,h5,h6,h7⟩:=h
 exact ⟨h1,h2,h3,List.eq_nil_of_length_eq_zero h4,List.eq_nil_of_length_eq_zero h5,List.eq_nil_of_length_eq_zero h6,h7⟩
theorem Z1Q{e:Edit}(h:Z00 e=true)(d:Int)(hd:d≠0):Z4 e d=true:=by
 obtain ⟨h1,h2,h3,h4,h5,h6,h7⟩:=ZdY h
 rw [Z2o,h1,h2,h3,h4,h5,h6,h7,if_neg (by omega),if_neg (by simp),if_neg (by omega)]
 simp [Zu,ZE,ZB,JY,JX]
theorem Zbn{list:Int}{o:Op}{d:Int}(h:Zf list o d=true):∃ d',Z4 o.e d'=true:=by
 rw [Jt] at h
 split at h
 ·simp only [Bool.and_eq_true] at h
  exact ⟨1,Z1Q h.2 1 (by omega)⟩
 ·split at h
  ·cases h
  ·split at h
   ·simp only [Bool.and_eq_true] at h
    exact ⟨1,Z1Q h.2 1 (by omega)⟩
   ·simp only [Bool.and_eq_true] at h
    exact ⟨d,h.1.2⟩
theorem c55:Contract Try.prog cfg 55 Z9N:=by
 refine ZsD c65 ?_
 intro N e _ hp hN
 simp only [Zai,ZeL] at hp hN
 obtain ⟨⟨hm,hr⟩,dd,hrt⟩:=hp
 obtain ⟨ik,ro,rn,rw',il,rk,ros⟩:=Z0P hr
 have hme:=Y6 e
 have hkl:=Y4 e.kids
 have hol:=Y3 e.ops
 have hat:=Zc8 e
 obtain ⟨hrk,hro⟩:=Z2n hrt
 refine ZwJ N e _ ?_;(try simp only [vcT,forall_eq])
 (simp only [vcS]);(try simp only [vcT]);(try simp only [vcU])
 try (simp only [Tree.eta,Edit.eta,Tree.kind_mk,Tree.words_mk,Tree.kids_mk])
 refine ⟨⟨hm,fun o ho=> Z4E (hro o ho)⟩,fun hq=> Z2 rfl (by rw [hat,decide_eq_false (by omega)];rfl),fun hq=> ?_⟩
 rw [decide_eq_true (by omega),Bool.true_and] at hat
 refine Za (ι:=Int) (fun p=> Z73 e p) (fun p=> 0≤p∧p≤e.kids.length∧Z0U (e.kids.drop p.toNat)=Z0U e.kids) (fun p=> ((e.kids.length:Int) - p).toNat) 0 rfl ⟨by omega,by omega,by simp⟩ ?_
 rintro i ⟨h4,h5,h6⟩
 refine ZoJ N e i _ _ ?_;(try simp only [vcT,forall_eq])
 (simp only [vcS]);(try simp only [vcT]);(try simp only [vcU])
 try (simp only [Tree.eta,Edit.eta,Tree.kind_mk,Tree.words_mk,Tree.kids_mk])
 refine ⟨fun hi=> ?_,fun hi=> ?_⟩
 ·have hmem:=Zl (l:=e.kids) (i:=i.toNat) (by omega) (KidOf.mk 0 Edit.nil)
  have hrr:=Z15 rk hmem
  have hmm:=YC hmem
  have hri:=hrk _ hmem
  rw [ZR h4 hi (KidOf.mk 0 Edit.nil)] at h6
  simp only [Z0U,Z8N] at h6
  generalize e.kids.getD i.toNat (KidOf.mk 0 Edit.nil)=k at*
  refine ⟨⟨h4,hi⟩,⟨⟨by dsimp only;omega,hrr.2⟩,_,hri.1⟩,by simp only [ZeL];omega,fun hq=> Z2 rfl (by rw [hat,←h6,hq];rfl),fun hq=> ⟨by unfold InR;omega,i+1,rfl,⟨by omega,by omega,by rw [←h6,hq];rfl⟩,by omega⟩⟩
 ·have hw:Z0U e.kids=true:=by
   rw [←h6,List.drop_of_length_le (by omega)];try rfl
  rw [hw,Bool.true_and] at hat
  refine Za (ι:=Int) (fun p=> Z72 e p) (fun p=> 0≤p∧p≤e.ops.length∧Z21 (e.ops.drop p.toNat)=Z21 e.ops) (fun p=> ((e.ops.length:Int) - p).toNat) 0 rfl ⟨by omega,by omega,by simp⟩ ?_
  rintro j ⟨g4,g5,g6⟩
  refine ZoI N e j _ _ ?_;(try simp only [vcT,forall_eq])
  (simp only [vcS]);(try simp only [vcT]);(try simp only [vcU])
  try (simp only [Tree.eta,Edit.eta,Tree.kind_mk,Tree.words_mk,Tree.kids_mk])
  refine ⟨fun hi=> ?_,fun hi=> ?_⟩
  ·have hmem:=Zl (l:=e.ops) (i:=j.toNat) (by omega) Op.nil
   have hrr:=Z9c (Z14 ros hmem)
   have hmm:=Y2 hmem
   have hri:=Zbn (hro _ hmem)
   rw [Yg] at hmm
   rw [ZR g4 hi Op.nil] at g6
   simp only [Z21,ZaT] at g6
   generalize e.ops.getD j.toNat Op.nil=o at*
   refine ⟨⟨g4,hi⟩,⟨⟨by dsimp only;omega,hrr.2.2.2⟩,hri⟩,by simp only [ZeL];omega,fun hq=> Z2 rfl (by rw [hat,←g6,hq];rfl),fun hq=> ⟨by unfold InR;omega,j+1,rfl,⟨by omega,by omega,by rw [←g6,hq];rfl⟩,by omega⟩⟩
  ·refine Z2 rfl ?_
   rw [hat,←g6,List.drop_of_length_le (by omega)];try rfl
theorem c15:Contract Try.prog cfg 15 Z9Z:=by
 refine ZsS c54 Ztk.1 c55 ?_
 intro e _ hp
 simp only [Zi2] at hp
 refine Zx0 e _ ?_;(try simp only [vcT,forall_eq])
 try (simp only [Tree.eta,Edit.eta,Tree.kind_mk,Tree.words_mk,Tree.kids_mk])
 refine ⟨hp.1,fun hf=> ?_,fun hf=> ?_,Z2 rfl ?_⟩
 ·have:=Z87 (by simpa using hf)
  exact ⟨⟨by dsimp only;omega,hp.2⟩,by dsimp only;omega,by dsimp only;omega⟩
 ·simp only [ZgV,decide_eq_true_eq] at hf
  have:=Z87 hf.1
  exact ⟨⟨by dsimp only;omega,hp.2⟩,64,hf.2⟩
 ·show _=JZ e
  simp only [JZ]
  rw [Bool.eq_iff_iff]
  (simp only [vcS])
end Go.AM.Ytpjenobkibfpcaa
namespace Go.AM
noncomputable def eqX{α:Type}(a b:α):Bool:=@decide (a=b) (Classical.propDecidable _)
theorem Z0p{α:Type}{a b:α}:eqX a b=true↔a=b:=by unfold eqX;exact @decide_eq_true_iff _ (Classical.propDecidable _)
@[simp] theorem Z2I {α:Type} (a:α):eqX a a=true:=Z0p.2 rfl
def Z7H(o:Op):Prop:=
 (o.kind=0∧o.l=[]∧(1≤o.n∧o.n≤1048576)∧o.e=Edit.nil)∨((o.kind=1∨o.kind=2)∧o.n=0∧o.l≠[]∧o.e=Edit.nil)∨(o.kind=3∧o.n=0∧o.l=[])
def Zx3(l:List Op):Prop:=(∀ o∈l,Z7H o)∧Zd l≤20000000000
def Z2e:List Op→Int
 | []=> 0
 | o ::r=> Zr o+Z2e r
end Go.AM
