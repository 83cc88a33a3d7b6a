import Derived.Test.YtpjenobkibfpcaaKD20
import Derived.Test.YtpjenobkibfpcaaKRB07
import Derived.Test.YtpjenobkibfpcaaCmZ
set_option linter.unusedSimpArgs false
set_option linter.unusedVariables false
namespace Go.AM.Ytpjenobkibfpcaa
open Go.AM Go.Proofs
noncomputable section
def ZlK:ArgL (Int × Unit):=(.cons (Yk .u64) .nil)
def Zd3(a:Int × Unit):Prop:=0≤a.1∧a.1 < 18446744073709551616
def ZjG(a:Int × Unit):V U:= .agg [.int .u8 (Zi a.1 0),.int .u8 (Zi a.1 1),.int .u8 (Zi a.1 2),.int .u8 (Zi a.1 3),.int .u8 (Zi a.1 4),.int .u8 (Zi a.1 5),.int .u8 (Zi a.1 6),.int .u8 (Zi a.1 7)]
def Z8L:Fs U:=fs ZlK (fun a=> [Zd3 a]) ZjG
def ZlJ:ArgL (Int × Int × Unit):=(.cons (Yk .u8) (.cons (Yk .i64) .nil))
def Zgf(a:Int × Int × Unit):Prop:=(0≤a.1∧a.1 < 256)∧0≤a.2.1∧a.2.1≤8
def ZoN(a:Int × Int × Unit):V U:= .c (.bool (ZaQ a.1 a.2.1))
def Z8K:Fs U:=fs ZlJ (fun a=> [Zgf a]) ZoN
def ZlI:ArgL (List Int × Int × Unit):=(.cons (aSl .u8) (.cons (Yk .i64) .nil))
def Zkf(a:List Int × Int × Unit):Prop:=a.2.1=0∧a.1.length=8∧∀ x∈a.1,0≤x∧x < 256
def ZoM(a:List Int × Int × Unit):V U:= .c (.int .u64 (of8 (fun i=> a.1.getD i 0)))
def Z8J:Fs U:=fs ZlI (fun a=> [Zkf a]) ZoM
def Zhr:ArgL (Int × Int × Int × Unit):=(.cons (Yk .u64) (.cons (Yk .u64) (.cons (Yk .u8) .nil)))
def ZbJ(a:Int × Int × Int × Unit):Prop:=(0≤a.1∧a.1 < 18446744073709551616)∧(0≤a.2.1∧a.2.1 < 18446744073709551616)∧(0≤a.2.2.1∧a.2.2.1 < 256)
def Zk1(a:Int × Int × Int × Unit):V U:= .c (.int .u64 (mix a.1 a.2.1 a.2.2.1))
def Z5n:Fs U:=fs Zhr (fun a=> [ZbJ a]) Zk1
def ZlO:ArgL (Tree × Unit):=(.cons (aEl .tree) .nil)
def Z3f(a:Tree × Unit):Prop:=Zg a.1≤20000000000
def ZoQ(a:Tree × Unit):V U:= .c (.bool (ZH a.1))
def Z2o:Fs U:=fs ZlO (fun a=> [Z3f a]) ZoQ
def ZlN:ArgL (Int × Int × Unit):=(.cons (Yk .u64) (.cons (Yk .u8) .nil))
def Zgg(a:Int × Int × Unit):Prop:=(0≤a.1∧a.1 < 18446744073709551616)∧(0≤a.2.1∧a.2.1 < 256)
def ZoP(a:Int × Int × Unit):V U:= .c (.bool (JY a.1 a.2.1))
def Z6w:Fs U:=fs ZlN (fun a=> [Zgg a]) ZoP
def Zhq:ArgL (Edit × Unit):=(.cons (aEl .edit) .nil)
def Z4Q(a:Edit × Unit):Prop:=Ze a.1≤20000000000
def Zk0(a:Edit × Unit):V U:= .c (.bool (JH a.1))
def Z3L:Fs U:=fs Zhq (fun a=> [Z4Q a]) Zk0
def ZlM:ArgL (Edit × Unit):=(.cons (aEl .edit) .nil)
def Zd4(a:Edit × Unit):Prop:=Ze a.1≤20000000000∧∀ o∈Edit.ops a.1,0≤o.n∧o.n≤1048576
def ZjH(a:Edit × Unit):V U:= .tup [(false,[ci (JG a.1.ops 0)]),(false,[ci (JF a.1.ops 0)])]
def Z2n:Fs U:=fs ZlM (fun a=> [Zd4 a]) ZjH
def Zfn:ArgL (Edit × Int × Int × Unit):=(.cons (aEl .edit) (.cons (Yk .i64) (.cons (Yk .i64) .nil)))
def Z9f(a:Edit × Int × Int × Unit):Prop:=Z1J a.1∧0≤a.2.1∧a.2.1≤4611686018427387904∧-1≤a.2.2.1∧a.2.2.1≤4611686018427387904
def Zdn(a:Edit × Int × Int × Unit):Nat:=Ze a.1
def Zg4(a:Edit × Int × Int × Unit):V U:= .c (ci (Jw a.1 a.2.1 a.2.2.1))
def Z8B:Fs U:=fs Zfn (fun a=> [Z9f a]) Zg4
def ZlP:ArgL (Edit × Unit):=(.cons (aEl .edit) .nil)
def Zkg(a:Edit × Unit):Prop:=Z1J a.1
def ZoR(a:Edit × Unit):V U:= .c (.bool (decide (0≤Jw a.1 80 3000)))
def Z8O:Fs U:=fs ZlP (fun a=> [Zkg a]) ZoR
def Zf6:List (FuncId × Fs U):=[]
def ZnF:Zh U:=lvl [([0,2],[2]),([0,2,3],[2,3]),([0,2,3,4],[2,3]),([0,2,3,4,7],[2,3]),([0,2,3,4],[2,3]),([0,2,3,4],[2,3]),([0,2,3,4],[2,3]),([2],[2])]
def Z3v(w x0 x4 ml3_0 ml3_1 ml3_2 ml3_3 ml3_4 ml3_5 ml3_6 ml3_7:Int):LSt U:=(L2 [(0,.c (.int .u64 x0)),(2,.ptr (.loc 2) 0),(3,.ptr (.loc 3) 0),(4,.c (ci x4))] [(.loc 2,zc0),(.loc 3,[.int .u8 ml3_0,.int .u8 ml3_1,.int .u8 ml3_2,.int .u8 ml3_3,.int .u8 ml3_4,.int .u8 ml3_5,.int .u8 ml3_6,.int .u8 ml3_7])])
abbrev A67(p:List Nat):=AW (Z0 Zf6) Try.f67 ZnF p
abbrev S67(p:List Nat):=SW (Z0 Zf6) Try.f67 ZnF p
theorem ZtK(w:Int)(Q:QT)(h:(Zj (A67 [1,1,0,1,0,0]) (Z3v w w 0 0 0 0 0 0 0 0 0) (xB 0 (S67 [1,1,1] Q)))):
  A67 [] (L2 [(0,.c (.int .u64 w))] []) Q:=
 Eq.mpr (by kernel_rfl) h
theorem Zms(w x0 x4 ml3_0 ml3_1 ml3_2 ml3_3 ml3_4 ml3_5 ml3_6 ml3_7:Int)(N0:NT)(Q:QT)(h:let z0:=IntKind.wrap .u8 (Int.tmod x0 256);(((decide (x4 < 8))=true→((256:Int)≠0)∧((0:Int)≤x4∧x4 < ((8:Nat):Int))∧(((256:Int)≠0)∧((InR (x4+1))∧(N0 (Z3v w (IntKind.wrap .u64 (Int.tdiv x0 256)) (x4+1) (Z0k x4 0 z0 ml3_0) (Z0k x4 1 z0 ml3_1) (Z0k x4 2 z0 ml3_2) (Z0k x4 3 z0 ml3_3) (Z0k x4 4 z0 ml3_4) (Z0k x4 5 z0 ml3_5) (Z0k x4 6 z0 ml3_6) (Z0k x4 7 z0 ml3_7))))))∧((decide (x4 < 8))=false→(Q .ret (L2 [(2,.ptr (.loc 2) 0)] [(.loc 2,[.int .u8 ml3_0,.int .u8 ml3_1,.int .u8 ml3_2,.int .u8 ml3_3,.int .u8 ml3_4,.int .u8 ml3_5,.int .u8 ml3_6,.int .u8 ml3_7])]))))):
  A67 [1,1,0,1,0,0] (Z3v w x0 x4 ml3_0 ml3_1 ml3_2 ml3_3 ml3_4 ml3_5 ml3_6 ml3_7) (xT N0 (xB 0 (S67 [1,1,1] Q))):=
 Eq.mpr (by kernel_rfl) h
def ZrH(w:Int):Prop:=AW (Z0 Zf6) Try.f67 ZnF [] (Zl (ZlK.can (w,())) []) (EQ Try.f67 (ZjG (w,())) [])
theorem Zq1(hb:∀ (w:Int) (_:Unit),Zd3 (w,())→ZrH w):CT 67 Z8L:=
 Z4 (l:=[]) Zk rfl trivial ZnF Try.func67 rfl rfl 1 (fun _=> rfl) (by decide) (fun ⟨w,_⟩=> hb w ())
def Zf5:List (FuncId × Fs U):=[]
def ZnE:Zh U:=lvl [([0,1],[]),([0,1,5],[]),([0,1,5,8],[]),([0,1,5],[]),([0,1,5],[]),([4],[])]
def Z62(m i x0 x5:Int):LSt U:=(L2 [(0,.c (.int .u8 x0)),(1,.c (ci i)),(5,.c (ci x5))] [])
abbrev A68(p:List Nat):=AW (Z0 Zf5) Try.f68 ZnE p
abbrev S68(p:List Nat):=SW (Z0 Zf5) Try.f68 ZnE p
theorem ZtJ(m i:Int)(Q:QT)(h:(Zj (A68 [1,0,1,0,0]) (Z62 m i m 0) (xB 0 (S68 [1,1] Q)))):
  A68 [] (L2 [(0,.c (.int .u8 m)),(1,.c (ci i))] []) Q:=
 Eq.mpr (by kernel_rfl) h
theorem Zmr(m i x0 x5:Int)(N0:NT)(Q:QT)(h:(((decide (x5 < i))=true→((2:Int)≠0)∧((InR (x5+1))∧(N0 (Z62 m i (IntKind.wrap .u8 (Int.tdiv x0 2)) (x5+1)))))∧((decide (x5 < i))=false→((2:Int)≠0)∧(Q .ret (L2 [(4,.c (.bool (((Int.tmod x0 2):Int)==1)))] []))))):
  A68 [1,0,1,0,0] (Z62 m i x0 x5) (xT N0 (xB 0 (S68 [1,1] Q))):=
 Eq.mpr (by kernel_rfl) h
def ZrG(m i:Int):Prop:=AW (Z0 Zf5) Try.f68 ZnE [] (Zl (ZlJ.can (m,i,())) []) (EQ Try.f68 (ZoN (m,i,())) [])
theorem Zq0(hb:∀ (m:Int) (i:Int) (_:Unit),Zgf (m,i,())→ZrG m i):CT 68 Z8K:=
 Z4 (l:=[]) Zk rfl trivial ZnE Try.func68 rfl rfl 2 (fun _=> rfl) (by decide) (fun ⟨m,i,_⟩=> hb m i ())
def Zf4:List (FuncId × Fs U):=[]
def ZnD:Zh U:=lvl [([0,1],[]),([0,1,5],[]),([0,1,5,6],[]),([0,1,5,6,8],[]),([0,1,5,6],[]),([0,1,5,6],[]),([4],[])]
def Z61(b:List Int)(from_ x5 x6:Int):LSt U:=(L2 [(0,.c (sU .u8 b .unk)),(1,.c (ci from_)),(5,.c (.int .u64 x5)),(6,.c (ci x6))] [])
abbrev A69(p:List Nat):=AW (Z0 Zf4) Try.f69 ZnD p
abbrev S69(p:List Nat):=SW (Z0 Zf4) Try.f69 ZnD p
theorem ZtI(b:List Int)(from_:Int)(Q:QT)(h:(Zj (A69 [1,1,0,1,0,0]) (Z61 b from_ 0 7) (xB 0 (S69 [1,1,1] Q)))):
  A69 [] (L2 [(0,.c (sU .u8 b .unk)),(1,.c (ci from_))] []) Q:=
 Eq.mpr (by kernel_rfl) h
theorem Zmq(b:List Int)(from_ x5 x6:Int)(N0:NT)(Q:QT)(h:(((decide ((0:Int)≤x6))=true→(InR (from_+x6))∧((0:Int)≤(from_+x6)∧(from_+x6) < (b.length:Int))∧((InR (x6 - 1))∧(N0 (Z61 b from_ (IntKind.wrap .u64 (((IntKind.wrap .u64 (x5*256)):Int)+(IntKind.wrap .u64 (List.getD b (Int.toNat (from_+x6)) (0:Int))))) (x6 - 1)))))∧((decide ((0:Int)≤x6))=false→(Q .ret (L2 [(4,.c (.int .u64 x5))] []))))):
  A69 [1,1,0,1,0,0] (Z61 b from_ x5 x6) (xT N0 (xB 0 (S69 [1,1,1] Q))):=
 Eq.mpr (by kernel_rfl) h
def ZrF(b:List Int)(from_:Int):Prop:=AW (Z0 Zf4) Try.f69 ZnD [] (Zl (ZlI.can (b,from_,())) []) (EQ Try.f69 (ZoM (b,from_,())) [])
theorem ZpZ(hb:∀ (b:List Int) (from_:Int) (_:Unit),Zkf (b,from_,())→ZrF b from_):CT 69 Z8J:=
 Z4 (l:=[]) Zk rfl trivial ZnD Try.func69 rfl rfl 2 (fun _=> rfl) (by decide) (fun ⟨b,from_,_⟩=> hb b from_ ())
def Zc1:List (FuncId × Fs U):=[(67,Z8L),(68,Z8K),(69,Z8J)]
def ZgD:Zh U:=lvl [([0,1,2],[]),([2,7,8],[7,8]),([2,7,8,9],[7,8]),([2,7,8,9,15],[7,8]),([2,7,8,9],[7,8]),([2,7,8,9,20],[7,8]),([2,7,8,9],[7,8]),([6],[])]
def Z0V(a b m x9 ml7_0 ml7_1 ml7_2 ml7_3 ml7_4 ml7_5 ml7_6 ml7_7:Int):LSt U:=(L2 [(2,.c (.int .u8 m)),(7,.ptr (.loc 7) 0),(8,.ptr (.loc 8) 0),(9,.c (ci x9))] [(.loc 7,[.int .u8 ml7_0,.int .u8 ml7_1,.int .u8 ml7_2,.int .u8 ml7_3,.int .u8 ml7_4,.int .u8 ml7_5,.int .u8 ml7_6,.int .u8 ml7_7]),(.loc 8,[.int .u8 (Zi b 0),.int .u8 (Zi b 1),.int .u8 (Zi b 2),.int .u8 (Zi b 3),.int .u8 (Zi b 4),.int .u8 (Zi b 5),.int .u8 (Zi b 6),.int .u8 (Zi b 7)])])
abbrev Zs5(p:List Nat):=AW (Z0 Zc1) Try.f103 ZgD p
abbrev Ztj(p:List Nat):=SW (Z0 Zc1) Try.f103 ZgD p
theorem ZsE(a b m:Int)(Q:QT)(h:((Zd3 (a,()))∧(Zd3 (b,()))∧(Zj (Zs5 [1,1,0,1,0,0]) (Z0V a b m 0 (Zi a 0) (Zi a 1) (Zi a 2) (Zi a 3) (Zi a 4) (Zi a 5) (Zi a 6) (Zi a 7)) (xB 0 (Ztj [1,1,1] Q))))):
  Zs5 [] (L2 [(0,.c (.int .u64 a)),(1,.c (.int .u64 b)),(2,.c (.int .u8 m))] []) Q:=
 Eq.mpr (by kernel_rfl) h
theorem Zjp(a b m x9 ml7_0 ml7_1 ml7_2 ml7_3 ml7_4 ml7_5 ml7_6 ml7_7:Int)(N0:NT)(Q:QT)(h:let z0:=List.getD [Zi b 0,Zi b 1,Zi b 2,Zi b 3,Zi b 4,Zi b 5,Zi b 6,Zi b 7] x9.toNat 0;(((decide (x9 < 8))=true→(Zgf (m,x9,()))∧(((ZaQ m x9)=true→((0:Int)≤x9∧x9 < ((8:Nat):Int))∧((0:Int)≤x9∧x9 < ((8:Nat):Int))∧((InR (x9+1))∧(N0 (Z0V a b m (x9+1) (Z0k x9 0 z0 ml7_0) (Z0k x9 1 z0 ml7_1) (Z0k x9 2 z0 ml7_2) (Z0k x9 3 z0 ml7_3) (Z0k x9 4 z0 ml7_4) (Z0k x9 5 z0 ml7_5) (Z0k x9 6 z0 ml7_6) (Z0k x9 7 z0 ml7_7)))))∧((ZaQ m x9)=false→(InR (x9+1))∧(N0 (Z0V a b m (x9+1) ml7_0 ml7_1 ml7_2 ml7_3 ml7_4 ml7_5 ml7_6 ml7_7)))))∧((decide (x9 < 8))=false→(Zkf (([ml7_0,ml7_1,ml7_2,ml7_3,ml7_4,ml7_5,ml7_6,ml7_7]),0,()))∧(Q .ret (L2 [(6,.c (.int .u64 (of8 (fun i=> ([ml7_0,ml7_1,ml7_2,ml7_3,ml7_4,ml7_5,ml7_6,ml7_7]).getD i 0))))] []))))):
  Zs5 [1,1,0,1,0,0] (Z0V a b m x9 ml7_0 ml7_1 ml7_2 ml7_3 ml7_4 ml7_5 ml7_6 ml7_7) (xT N0 (xB 0 (Ztj [1,1,1] Q))):=
 Eq.mpr (by kernel_rfl) h
def ZoG(a b m:Int):Prop:=AW (Z0 Zc1) Try.f103 ZgD [] (Zl (Zhr.can (a,b,m,())) []) (EQ Try.f103 (Zk1 (a,b,m,())) [])
theorem Znt(c67:CT 67 Z8L)(c68:CT 68 Z8K)(c69:CT 69 Z8J)(hb:∀ (a:Int) (b:Int) (m:Int) (_:Unit),ZbJ (a,b,m,())→ZoG a b m):CT 103 Z5n:=
 Z4 (l:=[(67,Z8L),(68,Z8K),(69,Z8J)]) Zk rfl (⟨c67,c68,c69,trivial⟩) ZgD Try.func103 rfl rfl 3 (fun _=> rfl) (by decide) (fun ⟨a,b,m,_⟩=> hb a b m ())
def Zl3:List (FuncId × Fs U):=[]
def Zqs:Zh U:=lvl [([1],[1]),([2],[])]
abbrev A62(p:List Nat):=AW (Z0 Zl3) Try.f62 Zqs p
theorem ZtP(t:Tree)(Q:QT)(h:((Tr ((t.kind==0)=true))∧(Tr ((t.kind==0)=true))∧(Tr ((t.kind==0)=true))∧(Tr ((t.kind==0)=true))∧(Tr ((t.kind==0)=true))∧(Tr ((t.kind==0)=true))∧((t.kind==0)=true→InR (((t.words.length:Int):Int)+(t.kids.length:Int)))∧(Tr ((t.kind==0)=true))∧(Tr ((t.kind==0)=true))∧(Q .ret (L2 [(2,.c (.bool (bif (t.kind==0) then (((((t.words.length:Int):Int)+(t.kids.length:Int)):Int)==0) else false)))] [])))):
  A62 [] (L2 [(0,.agg (enc .tree t))] []) Q:=
 Eq.mpr (by kernel_rfl) h
def ZrM(t:Tree):Prop:=AW (Z0 Zl3) Try.f62 Zqs [] (Zl (ZlO.can (t,())) []) (EQ Try.f62 (ZoQ (t,())) [])
theorem Zq5(hb:∀ (t:Tree) (_:Unit),Z3f (t,())→ZrM t):CT 62 Z2o:=
 Z4 (l:=[]) Zk rfl trivial Zqs Try.func62 rfl rfl 1 (fun _=> rfl) (by decide) (fun ⟨t,_⟩=> hb t ())
def Zl2:List (FuncId × Fs U):=[(103,Z5n)]
def Zqr:Zh U:=lvl [([0,1],[]),([4],[])]
abbrev A63(p:List Nat):=AW (Z0 Zl2) Try.f63 Zqr p
theorem ZtO(w m:Int)(Q:QT)(h:((ZbJ (w,0,m,()))∧(Q .ret (L2 [(4,.c (.bool (((mix w 0 m):Int)==0)))] [])))):
  A63 [] (L2 [(0,.c (.int .u64 w)),(1,.c (.int .u8 m))] []) Q:=
 Eq.mpr (by kernel_rfl) h
def ZrL(w m:Int):Prop:=AW (Z0 Zl2) Try.f63 Zqr [] (Zl (ZlN.can (w,m,())) []) (EQ Try.f63 (ZoP (w,m,())) [])
theorem Zq4(Zr7:CT 103 Z5n)(hb:∀ (w:Int) (m:Int) (_:Unit),Zgg (w,m,())→ZrL w m):CT 63 Z6w:=
 Z4 (l:=[(103,Z5n)]) Zk rfl (⟨Zr7,trivial⟩) Zqr Try.func63 rfl rfl 2 (fun _=> rfl) (by decide) (fun ⟨w,m,_⟩=> hb w m ())
def ZgV:List (FuncId × Fs U):=[(62,Z2o)]
def ZkQ:Zh U:=lvl [([1],[1]),([2],[])]
abbrev Zuj(p:List Nat):=AW (Z0 ZgV) Try.f104 ZkQ p
theorem ZsD(e:Edit)(Q:QT)(h:∀ y_1,y_1=(e.new)→∀ y_2,y_2=(e.old)→let z2:=bif (e.kind==0) then (ZH y_2) else false;let z0:=bif z2 then (ZH y_1) else false;let z1:=bif z0 then (((((((e.words.length:Int):Int)+(e.kids.length:Int)):Int)+(e.ops.length:Int)):Int)==0) else false;((Tr ((e.kind==0)=true))∧(Tr ((e.kind==0)=true))∧((e.kind==0)=true→Z3f (y_2,()))∧(Tr ((e.kind==0)=true))∧(Tr (z2=true))∧(Tr (z2=true))∧(z2=true→Z3f (y_1,()))∧(Tr (z2=true))∧(Tr (z0=true))∧(Tr (z0=true))∧(Tr (z0=true))∧(Tr (z0=true))∧(Tr (z0=true))∧(Tr (z0=true))∧(z0=true→InR (((e.words.length:Int):Int)+(e.kids.length:Int)))∧(Tr (z0=true))∧(Tr (z0=true))∧(Tr (z0=true))∧(Tr (z0=true))∧(z0=true→InR (((((e.words.length:Int):Int)+(e.kids.length:Int)):Int)+(e.ops.length:Int)))∧(Tr (z0=true))∧(Tr (z0=true))∧(Tr (z1=true))∧(Tr (z1=true))∧(Tr (z1=true))∧(Q .ret (L2 [(2,.c (.bool (bif z1 then (e.list==0) else false)))] [])))):
  Zuj [] (L2 [(0,.agg (enc .edit e))] []) Q:=
 Eq.mpr (by kernel_rfl) (h _ (Zb _) _ (Zb _))
def ZoF(e:Edit):Prop:=AW (Z0 ZgV) Try.f104 ZkQ [] (Zl (Zhq.can (e,())) []) (EQ Try.f104 (Zk0 (e,())) [])
theorem Zns(c62:CT 62 Z2o)(hb:∀ (e:Edit) (_:Unit),Z4Q (e,())→ZoF e):CT 104 Z3L:=
 Z4 (l:=[(62,Z2o)]) Zk rfl (⟨c62,trivial⟩) ZkQ Try.func104 rfl rfl 1 (fun _=> rfl) (by decide) (fun ⟨e,_⟩=> hb e ())
def Zf7:List (FuncId × Fs U):=[]
def ZnG:Zh U:=lvl [([1],[1]),([1,4,5],[1]),([1,4,5,6],[1]),([1,4,5,6,13],[1]),([1,4,5,6],[1]),([1,4,5,6,7],[1,7]),([1,4,5,6,7,8],[1,7]),([1,4,5,6,7,8,29],[1,7]),([1,4,5,6,7,8,29],[1,7]),([1,4,5,6,7,8,32],[1,7]),([1,4,5,6,7,8,32],[1,7]),([1,4,5,6,8,38],[1]),([1,4,5,6,8,38],[1]),([1,4,5,6,43],[1]),([1,4,5,6,43],[1]),([1,4,5,6,45],[1]),([1,4,5,6],[1]),([2,3],[])]
def Z1k(e:Edit)(x4 x5 x6:Int):LSt U:=(L2 [(1,.ptr (.loc 1) 0),(4,.c (ci x4)),(5,.c (ci x5)),(6,.c (ci x6))] [(.loc 1,(enc .edit e))])
def Z66(e:Edit)(x4 x5 x6 x8_a:Int):LSt U:=(L2 [(1,.ptr (.loc 1) 0),(4,.c (ci x4)),(5,.c (ci x5)),(6,.c (ci x6)),(7,.ptr (.loc 7) 0),(8,.c (ci x8_a)),(29,.c (.bool (((OpOf.kind (e.ops.getD x6.toNat Op.nil)):Int)==3)))] [(.loc 1,(enc .edit e)),(.loc 7,(enc .op (e.ops.getD x6.toNat Op.nil)))])
def Z65(e:Edit)(x5 x6 x8_a x4_b:Int):LSt U:=(L2 [(1,.ptr (.loc 1) 0),(4,.c (ci x4_b)),(5,.c (ci x5)),(6,.c (ci x6)),(7,.ptr (.loc 7) 0),(8,.c (ci x8_a)),(32,.c (.bool (((OpOf.kind (e.ops.getD x6.toNat Op.nil)):Int) !=2)))] [(.loc 1,(enc .edit e)),(.loc 7,(enc .op (e.ops.getD x6.toNat Op.nil)))])
def Z64(e:Edit)(x6 x8_a x4_b x5_c:Int):LSt U:=(L2 [(1,.ptr (.loc 1) 0),(4,.c (ci x4_b)),(5,.c (ci x5_c)),(6,.c (ci x6)),(8,.c (ci x8_a)),(38,.c (.bool (((OpOf.kind (e.ops.getD x6.toNat Op.nil)):Int) !=1)))] [(.loc 1,(enc .edit e))])
def Z63(e:Edit)(x6 x4_b x5_c x4_d:Int):LSt U:=(L2 [(1,.ptr (.loc 1) 0),(4,.c (ci x4_d)),(5,.c (ci x5_c)),(6,.c (ci x6)),(43,.c (.bool (decide ((1048576:Int) < x4_b))))] [(.loc 1,(enc .edit e))])
abbrev A65(p:List Nat):=AW (Z0 Zf7) Try.f65 ZnG p
abbrev S65(p:List Nat):=SW (Z0 Zf7) Try.f65 ZnG p
theorem ZtM(e:Edit)(Q:QT)(h:(Zj (A65 [1,1,0,1,0,0]) (Z1k e 0 0 0) (xB 0 (S65 [1,1,1] Q)))):
  A65 [] (L2 [(0,.agg (enc .edit e))] []) Q:=
 Eq.mpr (by kernel_rfl) h
abbrev Zrh(e:Edit)(x4 x5 x6:Int)(N0:NT)(Q:QT):Prop:=A65 [1,1,0,1,0,0] (Z1k e x4 x5 x6) (xT N0 (xB 0 (S65 [1,1,1] Q)))
theorem Zmt(e:Edit)(x4 x5 x6:Int)(N0:NT)(Q:QT)(h:let z2:=decide (x6 < (e.ops.length:Int));let z1:=xB 1 (S65 [1,1,0,1,0,0,1,1] (xT N0 (xB 0 (S65 [1,1,1] Q))));let z0:=e.ops.getD x6.toNat Op.nil;((z2=true→((0:Int)≤x6∧x6 < (e.ops.length:Int))∧((InR (((OpOf.n z0):Int)+((OpOf.l z0).length:Int)))∧(((((OpOf.kind z0):Int)==3)=true→(A65 [1,1,0,1,0,0,1,0,0,1,1,1] (Z66 e x4 x5 x6 1) z1))∧((((OpOf.kind z0):Int)==3)=false→A65 [1,1,0,1,0,0,1,0,0,1,1,1] (Z66 e x4 x5 x6 (((OpOf.n z0):Int)+((OpOf.l z0).length:Int))) z1))))∧(z2=false→(Q .ret (L2 [(2,.c (ci x4)),(3,.c (ci x5))] []))))):
  A65 [1,1,0,1,0,0] (Z1k e x4 x5 x6) (xT N0 (xB 0 (S65 [1,1,1] Q))):=
 Eq.mpr (by kernel_rfl) h
abbrev Zrl(e:Edit)(x4 x5 x6 x8_a:Int)(N0:NT)(Q:QT):Prop:=A65 [1,1,0,1,0,0,1,0,0,1,1,1] (Z66 e x4 x5 x6 x8_a) (xB 1 (S65 [1,1,0,1,0,0,1,1] (xT N0 (xB 0 (S65 [1,1,1] Q)))))
theorem Zmx(e:Edit)(x4 x5 x6 x8_a:Int)(N0:NT)(Q:QT)(h:let z1:=((OpOf.kind (e.ops.getD x6.toNat Op.nil)):Int) !=2;let z0:=xB 1 (S65 [1,1,0,1,0,0,1,1] (xT N0 (xB 0 (S65 [1,1,1] Q))));((z1=true→(InR (x4+x8_a))∧(A65 [1,1,0,1,0,0,1,0,0,1,1,1,1] (Z65 e x5 x6 x8_a (x4+x8_a)) z0))∧(z1=false→A65 [1,1,0,1,0,0,1,0,0,1,1,1,1] (Z65 e x5 x6 x8_a x4) z0))):
  A65 [1,1,0,1,0,0,1,0,0,1,1,1] (Z66 e x4 x5 x6 x8_a) (xB 1 (S65 [1,1,0,1,0,0,1,1] (xT N0 (xB 0 (S65 [1,1,1] Q))))):=
 Eq.mpr (by kernel_rfl) h
abbrev Zrk(e:Edit)(x5 x6 x8_a x4_b:Int)(N0:NT)(Q:QT):Prop:=A65 [1,1,0,1,0,0,1,0,0,1,1,1,1] (Z65 e x5 x6 x8_a x4_b) (xB 1 (S65 [1,1,0,1,0,0,1,1] (xT N0 (xB 0 (S65 [1,1,1] Q)))))
theorem Zmw(e:Edit)(x5 x6 x8_a x4_b:Int)(N0:NT)(Q:QT)(h:let z1:=((OpOf.kind (e.ops.getD x6.toNat Op.nil)):Int) !=1;let z0:=xB 1 (S65 [1,1,0,1,0,0,1,1] (xT N0 (xB 0 (S65 [1,1,1] Q))));((z1=true→(InR (x5+x8_a))∧(A65 [1,1,0,1,0,0,1,0,0,1,1,1,1,1] (Z64 e x6 x8_a x4_b (x5+x8_a)) z0))∧(z1=false→A65 [1,1,0,1,0,0,1,0,0,1,1,1,1,1] (Z64 e x6 x8_a x4_b x5) z0))):
  A65 [1,1,0,1,0,0,1,0,0,1,1,1,1] (Z65 e x5 x6 x8_a x4_b) (xB 1 (S65 [1,1,0,1,0,0,1,1] (xT N0 (xB 0 (S65 [1,1,1] Q))))):=
 Eq.mpr (by kernel_rfl) h
abbrev Zrj(e:Edit)(x6 x8_a x4_b x5_c:Int)(N0:NT)(Q:QT):Prop:=A65 [1,1,0,1,0,0,1,0,0,1,1,1,1,1] (Z64 e x6 x8_a x4_b x5_c) (xB 1 (S65 [1,1,0,1,0,0,1,1] (xT N0 (xB 0 (S65 [1,1,1] Q)))))
theorem Zmv(e:Edit)(x6 x8_a x4_b x5_c:Int)(N0:NT)(Q:QT)(h:let z1:=decide ((1048576:Int) < x4_b);let z0:=xB 1 (S65 [1,1,0,1,0,0,1,1] (xT N0 (xB 0 (S65 [1,1,1] Q))));((z1=true→(A65 [1,1,0,1,0,0,1,0,0,1,1,1,1,1,1] (Z63 e x6 x4_b x5_c 1048576) z0))∧(z1=false→A65 [1,1,0,1,0,0,1,0,0,1,1,1,1,1,1] (Z63 e x6 x4_b x5_c x4_b) z0))):
  A65 [1,1,0,1,0,0,1,0,0,1,1,1,1,1] (Z64 e x6 x8_a x4_b x5_c) (xB 1 (S65 [1,1,0,1,0,0,1,1] (xT N0 (xB 0 (S65 [1,1,1] Q))))):=
 Eq.mpr (by kernel_rfl) h
abbrev Zri(e:Edit)(x6 x4_b x5_c x4_d:Int)(N0:NT)(Q:QT):Prop:=A65 [1,1,0,1,0,0,1,0,0,1,1,1,1,1,1] (Z63 e x6 x4_b x5_c x4_d) (xB 1 (S65 [1,1,0,1,0,0,1,1] (xT N0 (xB 0 (S65 [1,1,1] Q)))))
theorem Zmu(e:Edit)(x6 x4_b x5_c x4_d:Int)(N0:NT)(Q:QT)(h:let z0:=decide ((1048576:Int) < x5_c);((z0=true→((InR (x6+1))∧(N0 (Z1k e x4_d 1048576 (x6+1)))))∧(z0=false→(InR (x6+1))∧(N0 (Z1k e x4_d x5_c (x6+1)))))):
  A65 [1,1,0,1,0,0,1,0,0,1,1,1,1,1,1] (Z63 e x6 x4_b x5_c x4_d) (xB 1 (S65 [1,1,0,1,0,0,1,1] (xT N0 (xB 0 (S65 [1,1,1] Q))))):=
 Eq.mpr (by kernel_rfl) h
def ZrJ(e:Edit):Prop:=AW (Z0 Zf7) Try.f65 ZnG [] (Zl (ZlM.can (e,())) []) (EQ Try.f65 (ZjH (e,())) [])
theorem Zq3(hb:∀ (e:Edit) (_:Unit),Zd4 (e,())→ZrJ e):CT 65 Z2n:=
 Z4 (l:=[]) Zk rfl trivial ZnG Try.func65 rfl rfl 1 (fun _=> rfl) (by decide) (fun ⟨e,_⟩=> hb e ())
def ZeW(N:Nat):List (FuncId × Fs U):=(90,fs Zfn (fun a=> [Z9f a,Zdn a < N]) Zg4) ::[(78,Z30)]
def Znv:Zh U:=lvl [([1,2,3],[3]),([1,2,3],[3]),([1,2,3,25],[3]),([6],[]),([1,2,3],[3]),([1,2,3,31],[3]),([1,2,3,31],[3]),([1,2,3,7],[3]),([1,2,3,7,44],[3]),([1,2,3,7],[3]),([1,2,3,7],[3]),([1,2,3,8],[3]),([1,2,3,8,65],[3]),([1,2,3,8],[3]),([1,2,3,8,9],[3]),([1,2,3,8,9,80],[3]),([1,2,3,8,9],[3]),([1,2,3,8,9],[3]),([1,2,3,8,95],[3]),([1,2,3,8],[3]),([6],[])]
def Z5T(e:Edit)(d n x2:Int):LSt U:=(L2 [(1,.c (ci d)),(2,.c (ci x2)),(3,.ptr (.loc 3) 0),(31,.c (.bool (decide ((0:Int)≤(Zw (Tree.mk e.old.kind e.old.words e.old.kids) 80 ((((((n:Int) - 1):Int) - (e.words.length:Int)):Int) - (e.ops.length:Int)))))))] [(.loc 3,(enc .edit e))])
def Z5S(e:Edit)(d n x2_a x7_a:Int):LSt U:=(L2 [(1,.c (ci d)),(2,.c (ci x2_a)),(3,.ptr (.loc 3) 0),(7,.c (ci x7_a))] [(.loc 3,(enc .edit e))])
def Z3u(e:Edit)(d n x2_b x8_b:Int):LSt U:=(L2 [(1,.c (ci d)),(2,.c (ci x2_b)),(3,.ptr (.loc 3) 0),(8,.c (ci x8_b))] [(.loc 3,(enc .edit e))])
def Z5R(e:Edit)(d n x8_b x2_c x9_c:Int):LSt U:=(L2 [(1,.c (ci d)),(2,.c (ci x2_c)),(3,.ptr (.loc 3) 0),(8,.c (ci x8_b)),(9,.c (ci x9_c))] [(.loc 3,(enc .edit e))])
abbrev A90(N:Nat)(p:List Nat):=AW (Z0 (ZeW N)) Try.f90 Znv p
abbrev S90(N:Nat)(p:List Nat):=SW (Z0 (ZeW N)) Try.f90 Znv p
theorem Ztw(N:Nat)(e:Edit)(d n:Int)(Q:QT)(h:∀ y_1,y_1=(e.new)→∀ y_2,y_2=(e.old)→∀ y_3,y_3=(Zw y_2 80 (((((n - 1):Int) - (e.words.length:Int)):Int) - (e.ops.length:Int)))→let z0:=bif (d==0) then true else (decide (((((((n - 1):Int) - (e.words.length:Int)):Int) - (e.ops.length:Int)):Int) < 0));((InR (n - 1))∧(InR (((n - 1):Int) - (e.words.length:Int)))∧(InR (((((n - 1):Int) - (e.words.length:Int)):Int) - (e.ops.length:Int)))∧((Tr ((!(d==0))=true))∧((d==0)=false→(!(d==0))=true)∧((z0=true→(Q .ret (L2 [(6,.c (ci (-1)))] [])))∧(z0=false→(Z5s (y_2,80,(((((n - 1):Int) - (e.words.length:Int)):Int) - (e.ops.length:Int)),()))∧(((decide ((0:Int)≤y_3))=true→(Z5s (y_1,80,y_3,()))∧(A90 N [1,1,1,1,1] (Z5T e d n (Zw y_1 80 y_3)) Q))∧((decide ((0:Int)≤y_3))=false→A90 N [1,1,1,1,1] (Z5T e d n y_3) Q))))))):
  A90 N [] (L2 [(0,.agg (enc .edit e)),(1,.c (ci d)),(2,.c (ci n))] []) Q:=
 Eq.mpr (by kernel_rfl) (h _ (Zb _) _ (Zb _) _ rfl)
abbrev Zrg(N:Nat)(e:Edit)(d n x2:Int)(Q:QT):Prop:=A90 N [1,1,1,1,1] (Z5T e d n x2) Q
theorem Zmg(N:Nat)(e:Edit)(d n x2:Int)(Q:QT)(h:(Zj (A90 N [1,1,1,1,1,0,1,0,0]) (Z5S e d n x2 0) (xB 0 (S90 N [1,1,1,1,1,1] Q)))):
  A90 N [1,1,1,1,1] (Z5T e d n x2) Q:=
 Eq.mpr (by kernel_rfl) h
theorem Zmf(N:Nat)(e:Edit)(d n x2_a x7_a:Int)(N1:NT)(Q:QT)(h:∀ y_1,y_1=(e.kids.getD x7_a.toNat (KidOf.mk 0 Edit.nil))→∀ y_2,y_2=(y_1.e)→let z0:=decide (x7_a < (e.kids.length:Int));let z1:=bif z0 then (decide ((0:Int)≤x2_a)) else false;(Tr (z0=true))∧(Tr (z0=true))∧((z1=true→((0:Int)≤x7_a∧x7_a < (e.kids.length:Int))∧(InR (d - 1))∧(Z9f (y_2,(d - 1),x2_a,()))∧(Zdn (y_2,(d - 1),x2_a,()) < N)∧((InR (x7_a+1))∧(N1 (Z5S e d n (Jw y_2 (d - 1) x2_a) (x7_a+1)))))∧(z1=false→(Zj (A90 N [1,1,1,1,1,1,0,1,0,0]) (Z3u e d n x2_a 0) (xB 2 (S90 N [1,1,1,1,1,1,1] Q)))))):
  A90 N [1,1,1,1,1,0,1,0,0] (Z5S e d n x2_a x7_a) (xT N1 (xB 0 (S90 N [1,1,1,1,1,1] Q))):=
 Eq.mpr (by kernel_rfl) (h _ rfl _ (Zm _))
theorem Zme(N:Nat)(e:Edit)(d n x2_b x8_b:Int)(N2:NT)(Q:QT)(h:let z0:=decide (x8_b < (e.ops.length:Int));let z1:=bif z0 then (decide ((0:Int)≤x2_b)) else false;(Tr (z0=true))∧(Tr (z0=true))∧((z1=true→(Zj (A90 N [1,1,1,1,1,1,0,1,0,0,1,0,0,0,1,0,0]) (Z5R e d n x8_b x2_b 0) (xB 4 (S90 N [1,1,1,1,1,1,0,1,0,0,1,0,0,1] (xB 3 (S90 N [1,1,1,1,1,1,0,1,0,0,1,1] (xT N2 (xB 2 (S90 N [1,1,1,1,1,1,1] Q)))))))))∧(z1=false→(Q .ret (L2 [(6,.c (ci x2_b))] []))))):
  A90 N [1,1,1,1,1,1,0,1,0,0] (Z3u e d n x2_b x8_b) (xT N2 (xB 2 (S90 N [1,1,1,1,1,1,1] Q))):=
 Eq.mpr (by kernel_rfl) h
theorem Zmd(N:Nat)(e:Edit)(d n x8_b x2_c x9_c:Int)(N3 N2:NT)(Q:QT)(h:∀ y_1,y_1=(e.ops.getD x8_b.toNat Op.nil)→∀ y_2,y_2=(y_1.e)→∀ y_3,y_3=(y_1.l.getD x9_c.toNat Tree.nil)→let z1:=decide ((0:Int)≤x2_c);let z0:=decide (x9_c < (y_1.l.length:Int));((0:Int)≤x8_b∧x8_b < (e.ops.length:Int))∧(Tr (z0=true))∧(Tr (z0=true))∧(((bif z0 then z1 else false)=true→((0:Int)≤x8_b∧x8_b < (e.ops.length:Int))∧((0:Int)≤x9_c∧x9_c < (y_1.l.length:Int))∧(Z5s (y_3,80,x2_c,()))∧((InR (x9_c+1))∧(N3 (Z5R e d n x8_b (Zw y_3 80 x2_c) (x9_c+1)))))∧((bif z0 then z1 else false)=false→((z1=true→((0:Int)≤x8_b∧x8_b < (e.ops.length:Int))∧(InR (d - 1))∧(Z9f (y_2,(d - 1),x2_c,()))∧(Zdn (y_2,(d - 1),x2_c,()) < N)∧((InR (x8_b+1))∧(N2 (Z3u e d n (Jw y_2 (d - 1) x2_c) (x8_b+1)))))∧(z1=false→(InR (x8_b+1))∧(N2 (Z3u e d n x2_c (x8_b+1)))))))):
  A90 N [1,1,1,1,1,1,0,1,0,0,1,0,0,0,1,0,0] (Z5R e d n x8_b x2_c x9_c) (xT N3 (xB 4 (S90 N [1,1,1,1,1,1,0,1,0,0,1,0,0,1] (xB 3 (S90 N [1,1,1,1,1,1,0,1,0,0,1,1] (xT N2 (xB 2 (S90 N [1,1,1,1,1,1,1] Q)))))))):=
 Eq.mpr (by kernel_rfl) (h _ rfl _ (Zm _) _ (Zb _))
def Zrt(N:Nat)(e:Edit)(d n:Int):Prop:=AW (Z0 (ZeW N)) Try.f90 Znv [] (Zl (Zfn.can (e,d,n,())) []) (EQ Try.f90 (Zg4 (e,d,n,())) [])
theorem ZpP(c78:CT 78 Z30)(hb:∀ (N:Nat) (e:Edit) (d:Int) (n:Int) (_:Unit),Z9f (e,d,n,())→Zdn (e,d,n,()) < N+1→Zrt N e d n):CT 90 Z8B:=
 ZT (μ:=Zdn) (l:=[(78,Z30)]) Zk rfl (⟨c78,trivial⟩) Znv Try.func90 rfl rfl 3 (fun _=> rfl) (by decide) (fun N ⟨e,d,n,_⟩=> hb N e d n ())
def Zl5:List (FuncId × Fs U):=[(90,Z8B)]
def Zqu:Zh U:=lvl [([1],[1]),([2],[])]
abbrev A54(p:List Nat):=AW (Z0 Zl5) Try.f54 Zqu p
theorem ZtT(e:Edit)(Q:QT)(h:let z0:=Edit.mk e.kind (Tree.mk e.old.kind e.old.words e.old.kids) (Tree.mk e.new.kind e.new.words e.new.kids) e.words e.kids e.list e.ops;((Z9f (z0,80,3000,()))∧(Q .ret (L2 [(2,.c (.bool (decide ((0:Int)≤(Jw z0 80 3000)))))] [])))):
  A54 [] (L2 [(0,.agg (enc .edit e))] []) Q:=
 Eq.mpr (by kernel_rfl) h
def ZrQ(e:Edit):Prop:=AW (Z0 Zl5) Try.f54 Zqu [] (Zl (ZlP.can (e,())) []) (EQ Try.f54 (ZoR (e,())) [])
theorem Zq8(c90:CT 90 Z8B)(hb:∀ (e:Edit) (_:Unit),Zkg (e,())→ZrQ e):CT 54 Z8O:=
 Z4 (l:=[(90,Z8B)]) Zk rfl (⟨c90,trivial⟩) Zqu Try.func54 rfl rfl 1 (fun _=> rfl) (by decide) (fun ⟨e,_⟩=> hb e ())
end
end Go.AM.Ytpjenobkibfpcaa
namespace Go.AM.Ytpjenobkibfpcaa
open Go.AM Go.Proofs
noncomputable section
def Zci:ArgL (Edit × Int × Unit):=(.cons (aEl .edit) (.cons (Yk .i64) .nil))
def Z7y(a:Edit × Int × Unit):Prop:=(Ze a.1≤20000000000∧ZL a.1)∧0≤a.2.1∧a.2.1≤1000
def ZbO(a:Edit × Int × Unit):Nat:=2*Ze a.1
def Zg8(a:Edit × Int × Unit):V U:= .c (.bool (Z3 a.1 a.2.1))
def Z8V:Fs U:=fs Zci (fun a=> [Z7y a]) Zg8
def Zcg:ArgL (Int × Op × Int × Unit):=(.cons (Yk .i64) (.cons (aEl .op) (.cons (Yk .i64) .nil)))
def ZaL(a:Int × Op × Int × Unit):Prop:=(ZW a.2.1≤20000000000∧JI a.2.1∧isI a.1)∧0≤a.2.2.1∧a.2.2.1≤1000
def Zic(a:Int × Op × Int × Unit):Nat:=2*ZW a.2.1+1
def Zg6(a:Int × Op × Int × Unit):V U:= .c (.bool (Zd a.1 a.2.1 a.2.2.1))
def Zjv:Fs U:=fs Zcg (fun a=> [ZaL a]) Zg6
def Zft:ArgL (Edit × Unit):=(.cons (aEl .edit) .nil)
def Z9g(a:Edit × Unit):Prop:=(Ze a.1≤20000000000∧ZL a.1)∧∃ d,Z3 a.1 d=true
def Zdp(a:Edit × Unit):Nat:=Ze a.1
def ZjJ(a:Edit × Unit):V U:= .c (.bool (Jv a.1))
def Z8N:Fs U:=fs Zft (fun a=> [Z9g a]) ZjJ
def ZlW:ArgL (Edit × Unit):=(.cons (aEl .edit) .nil)
def Zgk(a:Edit × Unit):Prop:=Z1J a.1∧ZL a.1
def ZoV(a:Edit × Unit):V U:= .c (.bool (Jz a.1))
def Z8Y:Fs U:=fs ZlW (fun a=> [Zgk a]) ZoV
def Zfe(N:Nat):List (FuncId × Fs U):=(23,fs Zci (fun a=> [Z7y a,ZbO a < N]) Zg8) ::(64,fs Zcg (fun a=> [ZaL a,Zic a < N]) Zg6) ::[(62,Z2o),(63,Z6w),(104,Z3L),(37,Z2p),(65,Z2n)]
def ZnN:Zh U:=lvl [([1,2],[2]),([1,2,24],[2]),([4],[]),([1,2,69],[2]),([4],[]),([1,2,72],[2]),([4],[]),([1,2,5],[2]),([1,2,5,6],[2]),([1,2,5,6,97],[2]),([1,2,5,6],[2]),([1,2,5,6,7],[2,7]),([1,2,6,7,134],[2,7]),([4],[]),([1,2,5,6],[2]),([1,2,5],[2]),([1,2,5,8],[2]),([1,2,5,8,141],[2]),([1,2,5,8],[2]),([1,2,5,8,9],[2,9]),([1,2,8,9,171],[2,9]),([4],[]),([1,2,5,8],[2]),([1,2,186],[2]),([4],[]),([1,2,10],[2]),([1,2,10,191],[2]),([1,2,10],[2]),([1,2,10,204],[2]),([4],[]),([11,12],[]),([4],[])]
def Z6d(e:Edit)(d x5 x6:Int):LSt U:=(L2 [(1,.c (ci d)),(2,.ptr (.loc 2) 0),(5,.c (ci x5)),(6,.c (ci x6))] [(.loc 2,(enc .edit e))])
def Z6c(e:Edit)(d x5_a x8_a:Int):LSt U:=(L2 [(1,.c (ci d)),(2,.ptr (.loc 2) 0),(5,.c (ci x5_a)),(8,.c (ci x8_a))] [(.loc 2,(enc .edit e))])
def Z6b(e:Edit)(d x10_b:Int):LSt U:=(L2 [(1,.c (ci d)),(2,.ptr (.loc 2) 0),(10,.c (ci x10_b))] [(.loc 2,(enc .edit e))])
abbrev A23(N:Nat)(p:List Nat):=AW (Z0 (Zfe N)) Try.f23 ZnN p
abbrev S23(N:Nat)(p:List Nat):=SW (Z0 (Zfe N)) Try.f23 ZnN p
theorem Zu2(N:Nat)(e:Edit)(d:Int)(Q:QT)(h:∀ y_1,y_1=(e.new)→∀ y_2,y_2=(e.old)→let z11:=Q .ret (L2 [(4,.c (.bool false))] []);let z8:=(e.kind !=1) && (ZH y_2);let z3:=bif (d==0) then true else (decide (e.kind < 0));let z10:=bif z3 then true else (decide ((3:Int) < e.kind));let z2:=bif (Z9 y_2 64) then (Z9 y_1 64) else false;let z6:=bif z2 then (e.old.kind !=10) else false;let z1:=bif (e.kind !=1) then (!(bif (ZH y_2) then (ZH y_1) else false)) else false;let z5:=(!z1) && (e.kind !=2);let z0:=bif z1 then true else (bif (e.kind !=2) then (decide ((0:Int) < (((e.words.length:Int):Int)+(e.kids.length:Int)))) else false);let z7:=bif z0 then true else (bif (e.kind !=3) then (bif (e.list !=0) then true else (decide ((0:Int) < (e.ops.length:Int)))) else false);let z4:=(!z0) && (e.kind !=3);let z9:=z4 && (!(e.list !=0));((Tr ((!(d==0))=true))∧(Tr ((!(d==0))=true))∧((d==0)=false→(!(d==0))=true)∧(Tr ((!z3)=true))∧(Tr ((!z3)=true))∧(z3=false→(!z3)=true)∧((z10=true→z11)∧(z10=false→(Tr ((e.kind !=1)=true))∧(Tr ((e.kind !=1)=true))∧((e.kind !=1)=true→Z3f (y_2,()))∧(Tr ((e.kind !=1)=true))∧(Tr (z8=true))∧(Tr (z8=true))∧(z8=true→Z3f (y_1,()))∧((e.kind !=1)=true→(True→(e.kind !=1)=true))∧((e.kind !=1)=true→((ZH y_2)=true→z8=true))∧(Tr ((e.kind !=1)=true))∧(Tr ((e.kind !=1)=true))∧(Tr ((!z1)=true))∧(Tr ((!z1)=true))∧(Tr ((!z1)=true))∧(Tr (z5=true))∧(Tr (z5=true))∧(Tr (z5=true))∧(Tr (z5=true))∧(Tr (z5=true))∧(Tr (z5=true))∧(z5=true→InR (((e.words.length:Int):Int)+(e.kids.length:Int)))∧(Tr (z5=true))∧((!z1)=true→(True→(!z1)=true))∧((!z1)=true→((e.kind !=2)=true→z5=true))∧(z1=false→(!z1)=true)∧(Tr ((!z0)=true))∧(Tr ((!z0)=true))∧(Tr ((!z0)=true))∧(Tr (z4=true))∧(Tr (z4=true))∧(Tr (z4=true))∧(Tr (z9=true))∧(Tr (z9=true))∧(Tr (z9=true))∧(z4=true→(True→z4=true))∧(z4=true→((e.list !=0)=false→z9=true))∧((!z0)=true→(True→(!z0)=true))∧((!z0)=true→((e.kind !=3)=true→z4=true))∧(z0=false→(!z0)=true)∧((z7=true→z11)∧(z7=false→(((e.kind==1)=true→(Z2Q (y_2,64,()))∧(Tr ((Z9 y_2 64)=true))∧(Tr ((Z9 y_2 64)=true))∧((Z9 y_2 64)=true→Z2Q (y_1,64,()))∧(Tr ((Z9 y_2 64)=true))∧(Tr (z2=true))∧(Tr (z2=true))∧(Tr (z2=true))∧(Tr (z2=true))∧(Tr (z6=true))∧(Tr (z6=true))∧(Tr (z6=true))∧(Tr (z6=true))∧(Q .ret (L2 [(4,.c (.bool (bif z6 then (e.new.kind !=10) else false)))] [])))∧((e.kind==1)=false→(Zj (A23 N [1,1,1,1,1,0,1,0,0]) (Z6d e d (-1) 0) (xB 0 (S23 N [1,1,1,1,1,1] Q))))))))))):
  A23 N [] (L2 [(0,.agg (enc .edit e)),(1,.c (ci d))] []) Q:=
 Eq.mpr (by kernel_rfl) (h _ (Zb _) _ (Zb _))
theorem ZmI(N:Nat)(e:Edit)(d x5 x6:Int)(N0:NT)(Q:QT)(h:∀ y_1,y_1=(e.words.getD x6.toNat (WEdit.mk 0 0 0 0))→let z5:=decide (x6 < (e.words.length:Int));let z3:=decide (y_1.at_≤x5);let z2:=bif z3 then true else (decide ((65534:Int) < y_1.at_));let z0:=bif z2 then true else (y_1.mask==0);let z1:=bif z0 then true else (!(JY y_1.old y_1.mask));let z4:=bif z1 then true else (!(JY y_1.new y_1.mask));((z5=true→((0:Int)≤x6∧x6 < (e.words.length:Int))∧((Tr ((!z3)=true))∧(Tr ((!z3)=true))∧(z3=false→(!z3)=true)∧(Tr ((!z2)=true))∧(Tr ((!z2)=true))∧(z2=false→(!z2)=true)∧(Tr ((!z0)=true))∧(Tr ((!z0)=true))∧(Tr ((!z0)=true))∧(Tr ((!z0)=true))∧((!z0)=true→Zgg (y_1.old,y_1.mask,()))∧(Tr ((!z0)=true))∧(z0=false→(!z0)=true)∧(Tr ((!z1)=true))∧(Tr ((!z1)=true))∧(Tr ((!z1)=true))∧(Tr ((!z1)=true))∧((!z1)=true→Zgg (y_1.new,y_1.mask,()))∧(Tr ((!z1)=true))∧(z1=false→(!z1)=true)∧((z4=true→(Q .ret (L2 [(4,.c (.bool false))] [])))∧(z4=false→((InR (x6+1))∧(N0 (Z6d e d y_1.at_ (x6+1))))))))∧(z5=false→(Zj (A23 N [1,1,1,1,1,1,1,0,1,0,0]) (Z6c e d (-1) 0) (xB 2 (S23 N [1,1,1,1,1,1,1,1] Q)))))):
  A23 N [1,1,1,1,1,0,1,0,0] (Z6d e d x5 x6) (xT N0 (xB 0 (S23 N [1,1,1,1,1,1] Q))):=
 Eq.mpr (by kernel_rfl) (h _ rfl)
theorem ZmH(N:Nat)(e:Edit)(d x5_a x8_a:Int)(N1:NT)(Q:QT)(h:∀ y_1,y_1=(e.kids.getD x8_a.toNat (KidOf.mk 0 Edit.nil))→∀ y_2,y_2=(y_1.e)→let z8:=decide (x8_a < (e.kids.length:Int));let z7:=decide (e.list < 2);let z6:=Q .ret (L2 [(4,.c (.bool false))] []);let z4:=(e.kind==3) && (!z7);let z3:=decide (y_1.at_≤x5_a);let z2:=bif (e.kind==3) then (bif z7 then true else (decide ((9:Int) < e.list))) else false;let z1:=bif z3 then true else (decide ((65534:Int) < y_1.at_));let z0:=bif z1 then true else (y_1.e.kind==0);let z5:=bif z0 then true else (!(Z3 y_2 (d - 1)));((z8=true→((0:Int)≤x8_a∧x8_a < (e.kids.length:Int))∧((Tr ((!z3)=true))∧(Tr ((!z3)=true))∧(z3=false→(!z3)=true)∧(Tr ((!z1)=true))∧(Tr ((!z1)=true))∧(Tr ((!z1)=true))∧(z1=false→(!z1)=true)∧(Tr ((!z0)=true))∧(Tr ((!z0)=true))∧((!z0)=true→InR (d - 1))∧(Tr ((!z0)=true))∧(Tr ((!z0)=true))∧((!z0)=true→Z7y (y_2,(d - 1),()))∧((!z0)=true→ZbO (y_2,(d - 1),()) < N)∧(Tr ((!z0)=true))∧(z0=false→(!z0)=true)∧((z5=true→z6)∧(z5=false→((InR (x8_a+1))∧(N1 (Z6c e d y_1.at_ (x8_a+1))))))))∧(z8=false→(Tr ((e.kind==3)=true))∧(Tr ((e.kind==3)=true))∧(Tr ((e.kind==3)=true))∧(Tr (z4=true))∧(Tr (z4=true))∧((e.kind==3)=true→(True→(e.kind==3)=true))∧((e.kind==3)=true→(z7=false→z4=true))∧(Tr ((e.kind==3)=true))∧((z2=true→z6)∧(z2=false→(Zj (A23 N [1,1,1,1,1,1,1,1,1,0,1,0,0]) (Z6b e d 0) (xB 4 (S23 N [1,1,1,1,1,1,1,1,1,1] Q)))))))):
  A23 N [1,1,1,1,1,1,1,0,1,0,0] (Z6c e d x5_a x8_a) (xT N1 (xB 2 (S23 N [1,1,1,1,1,1,1,1] Q))):=
 Eq.mpr (by kernel_rfl) (h _ rfl _ (Zm _))
theorem ZmG(N:Nat)(e:Edit)(d x10_b:Int)(N2:NT)(Q:QT)(h:∀ y_1,y_1=e→∀ y_2,y_2=(e.ops.getD x10_b.toNat Op.nil)→∀ y_3,y_3=y_2→let z2:= !(Zd e.list y_3 (d - 1));let z1:=decide (x10_b < (e.ops.length:Int));let z0:=decide (((JG y_1.ops 0):Int) < 1048576);((z1=true→((0:Int)≤x10_b∧x10_b < (e.ops.length:Int))∧(InR (d - 1))∧(ZaL (e.list,y_3,(d - 1),()))∧(Zic (e.list,y_3,(d - 1),()) < N)∧((z2=true→(Q .ret (L2 [(4,.c (.bool false))] [])))∧(z2=false→(InR (x10_b+1))∧(N2 (Z6b e d (x10_b+1))))))∧(z1=false→(Zd4 (y_1,()))∧((Tr (z0=true))∧(Tr (z0=true))∧(Q .ret (L2 [(4,.c (.bool (bif z0 then (decide (((JF y_1.ops 0):Int) < 1048576)) else false)))] [])))))):
  A23 N [1,1,1,1,1,1,1,1,1,0,1,0,0] (Z6b e d x10_b) (xT N2 (xB 4 (S23 N [1,1,1,1,1,1,1,1,1,1] Q))):=
 Eq.mpr (by kernel_rfl) (h _ (Zm _) _ rfl _ (Z8i _))
def ZrZ(N:Nat)(e:Edit)(d:Int):Prop:=AW (Z0 (Zfe N)) Try.f23 ZnN [] (Zl (Zci.can (e,d,())) []) (EQ Try.f23 (Zg8 (e,d,())) [])
abbrev Ztp:Prop:=∀ (N:Nat) (e:Edit) (d:Int) (_:Unit),Z7y (e,d,())→ZbO (e,d,()) < N+1→ZrZ N e d
def Zf8(N:Nat):List (FuncId × Fs U):=(23,fs Zci (fun a=> [Z7y a,ZbO a < N]) Zg8) ::(64,fs Zcg (fun a=> [ZaL a,Zic a < N]) Zg6) ::[(62,Z2o),(63,Z6w),(104,Z3L),(37,Z2p),(65,Z2n)]
def ZnH:Zh U:=lvl [([0,2,4],[4]),([0,2,4,10],[4]),([6],[]),([0,2,4,42],[4]),([6],[]),([0,2,4,45],[4]),([0,4,7],[4]),([0,4,7,50],[4]),([0,4,7],[4]),([0,4,7,62],[4]),([6],[]),([6],[]),([0,4,92],[4]),([6],[]),([6],[])]
def Z67(list:Int)(o:Op)(d x7:Int):LSt U:=(L2 [(0,.c (ci list)),(4,.ptr (.loc 4) 0),(7,.c (ci x7))] [(.loc 4,(enc .op o))])
abbrev A64(N:Nat)(p:List Nat):=AW (Z0 (Zf8 N)) Try.f64 ZnH p
abbrev S64(N:Nat)(p:List Nat):=SW (Z0 (Zf8 N)) Try.f64 ZnH p
theorem ZtN(N:Nat)(list:Int)(o:Op)(d:Int)(Q:QT)(h:∀ y_1,y_1=(o.e)→let z12:=Q .ret (L2 [(6,.c (.bool false))] []);let z9:=decide ((1:Int)≤o.n);let z5:=bif (o.n !=0) then true else (decide (o.kind < 0));let z10:=bif z5 then true else (decide ((3:Int) < o.kind));let z4:=decide ((0:Int) < (o.l.length:Int));let z7:=bif z4 then true else (o.e.kind==0);let z3:=bif (o.e.kind==1) then (o.e.old.kind==1) else false;let z2:=bif z9 then (decide (o.n≤1048576)) else false;let z6:=bif z2 then (((o.l.length:Int):Int)==0) else false;let z1:=bif (list==8) then true else (o.e.kind==2);let z8:=(!z1) && (o.e.kind==1);let z0:=bif z7 then true else (decide (list≤7));let z11:=bif z0 then true else (!(Z3 y_1 d));(((o.kind==0)=true→(Tr (z9=true))∧(Tr (z9=true))∧(Tr (z9=true))∧(Tr (z2=true))∧(Tr (z2=true))∧(Tr (z2=true))∧(Tr (z2=true))∧(Tr (z6=true))∧(Tr (z6=true))∧(z6=true→Z4Q (y_1,()))∧(Tr (z6=true))∧(Q .ret (L2 [(6,.c (.bool (bif z6 then (JH y_1) else false)))] [])))∧((o.kind==0)=false→(Tr ((!(o.n !=0))=true))∧(Tr ((!(o.n !=0))=true))∧((o.n !=0)=false→(!(o.n !=0))=true)∧(Tr ((!z5)=true))∧(Tr ((!z5)=true))∧(z5=false→(!z5)=true)∧((z10=true→z12)∧(z10=false→(((decide (o.kind < 3))=true→(Zj (A64 N [1,1,1,0,1,0,0,1,0,0]) (Z67 list o d 0) (xB 0 (S64 N [1,1,1,0,1,0,1] (S64 N [1,1,1,1] Q)))))∧((decide (o.kind < 3))=false→(Tr ((!z4)=true))∧(Tr ((!z4)=true))∧(Tr ((!z4)=true))∧(z4=false→(!z4)=true)∧(Tr ((!z7)=true))∧(z7=false→(!z7)=true)∧(Tr ((!z0)=true))∧(Tr ((!z0)=true))∧(Tr ((!z0)=true))∧((!z0)=true→Z7y (y_1,d,()))∧((!z0)=true→ZbO (y_1,d,()) < N)∧(Tr ((!z0)=true))∧(z0=false→(!z0)=true)∧((z11=true→z12)∧(z11=false→(Tr ((!(list==8))=true))∧(Tr ((!(list==8))=true))∧(Tr ((!(list==8))=true))∧((list==8)=false→(!(list==8))=true)∧(Tr ((!z1)=true))∧(Tr ((!z1)=true))∧(Tr ((!z1)=true))∧(Tr ((!z1)=true))∧(Tr (z8=true))∧(Tr (z8=true))∧(Tr (z8=true))∧(Tr (z8=true))∧((!z1)=true→(True→(!z1)=true))∧((!z1)=true→((o.e.kind==1)=true→z8=true))∧(Tr ((!z1)=true))∧(Tr (((!z1) && z3)=true))∧(Tr (((!z1) && z3)=true))∧(Tr (((!z1) && z3)=true))∧(Tr (((!z1) && z3)=true))∧((!z1)=true→(True→(!z1)=true))∧((!z1)=true→(z3=true→((!z1) && z3)=true))∧(z1=false→(!z1)=true)∧(Q .ret (L2 [(6,.c (.bool (bif z1 then true else (bif z3 then (o.e.new.kind==1) else false))))] []))))))))))):
  A64 N [] (L2 [(0,.c (ci list)),(1,.agg (enc .op o)),(2,.c (ci d))] []) Q:=
 Eq.mpr (by kernel_rfl) (h _ (Zm _))
theorem Zmy(N:Nat)(list:Int)(o:Op)(d x7:Int)(N0:NT)(Q:QT)(h:let z3:=decide (x7 < (o.l.length:Int));let z2:=Tree.mk list [] (List.drop x7.toNat (List.take (Int.toNat (x7+1)) o.l));let z1:=Edit.mk o.e.kind (Tree.mk o.e.old.kind o.e.old.words o.e.old.kids) (Tree.mk o.e.new.kind o.e.new.words o.e.new.kids) o.e.words o.e.kids o.e.list o.e.ops;let z0:=decide ((0:Int) < (o.l.length:Int));((z3=true→(InR (x7+1))∧((0:Int)≤x7∧x7≤(x7+1)∧(x7+1)≤(o.l.length:Int))∧(Z2Q (z2,64,()))∧(((!(Z9 z2 64))=true→(Q .ret (L2 [(6,.c (.bool false))] [])))∧((!(Z9 z2 64))=false→(InR (x7+1))∧(N0 (Z67 list o d (x7+1))))))∧(z3=false→(Tr (z0=true))∧(Tr (z0=true))∧(z0=true→Z4Q (z1,()))∧(Tr (z0=true))∧(Q .ret (L2 [(6,.c (.bool (bif z0 then (JH z1) else false)))] []))))):
  A64 N [1,1,1,0,1,0,0,1,0,0] (Z67 list o d x7) (xT N0 (xB 0 (S64 N [1,1,1,0,1,0,1] (S64 N [1,1,1,1] Q)))):=
 Eq.mpr (by kernel_rfl) h
def ZrK(N:Nat)(list:Int)(o:Op)(d:Int):Prop:=AW (Z0 (Zf8 N)) Try.f64 ZnH [] (Zl (Zcg.can (list,o,d,())) []) (EQ Try.f64 (Zg6 (list,o,d,())) [])
abbrev Ztn:Prop:=∀ (N:Nat) (list:Int) (o:Op) (d:Int) (_:Unit),ZaL (list,o,d,())→Zic (list,o,d,()) < N+1→ZrK N list o d
def Zf9(N:Nat):List (FuncId × Fs U):=(55,fs Zft (fun a=> [Z9g a,Zdp a < N]) ZjJ) ::[(65,Z2n)]
def ZnI:Zh U:=lvl [([1],[1]),([1,3,4],[1]),([1,17],[1]),([2],[]),([1,5],[1]),([1,5,22],[1]),([1,5],[1]),([1,5,32],[1]),([2],[]),([1,6],[1]),([1,6,37],[1]),([1,6],[1]),([1,6,47],[1]),([2],[]),([2],[])]
def Z69(e:Edit)(x5:Int):LSt U:=(L2 [(1,.ptr (.loc 1) 0),(5,.c (ci x5))] [(.loc 1,(enc .edit e))])
def Z68(e:Edit)(x6_a:Int):LSt U:=(L2 [(1,.ptr (.loc 1) 0),(6,.c (ci x6_a))] [(.loc 1,(enc .edit e))])
abbrev A55(N:Nat)(p:List Nat):=AW (Z0 (Zf9 N)) Try.f55 ZnI p
abbrev S55(N:Nat)(p:List Nat):=SW (Z0 (Zf9 N)) Try.f55 ZnI p
theorem ZtS(N:Nat)(e:Edit)(Q:QT)(h:∀ y_1,y_1=e→let z0:=decide ((2000:Int) < (JG y_1.ops 0));let z1:=bif z0 then true else (decide ((2000:Int) < (JF y_1.ops 0)));((Zd4 (y_1,()))∧((Tr ((!z0)=true))∧(z0=false→(!z0)=true)∧((z1=true→(Q .ret (L2 [(2,.c (.bool false))] [])))∧(z1=false→(Zj (A55 N [1,1,1,0,1,0,0]) (Z69 e 0) (xB 0 (S55 N [1,1,1,1] Q)))))))):
  A55 N [] (L2 [(0,.agg (enc .edit e))] []) Q:=
 Eq.mpr (by kernel_rfl) (h _ (Zm _))
theorem ZmB(N:Nat)(e:Edit)(x5:Int)(N0:NT)(Q:QT)(h:∀ y_1,y_1=(e.kids.getD x5.toNat (KidOf.mk 0 Edit.nil))→∀ y_2,y_2=(y_1.e)→let z0:=decide (x5 < (e.kids.length:Int));((z0=true→((0:Int)≤x5∧x5 < (e.kids.length:Int))∧(Z9g (y_2,()))∧(Zdp (y_2,()) < N)∧(((!(Jv y_2))=true→(Q .ret (L2 [(2,.c (.bool false))] [])))∧((!(Jv y_2))=false→(InR (x5+1))∧(N0 (Z69 e (x5+1))))))∧(z0=false→(Zj (A55 N [1,1,1,1,0,1,0,0]) (Z68 e 0) (xB 2 (S55 N [1,1,1,1,1] Q)))))):
  A55 N [1,1,1,0,1,0,0] (Z69 e x5) (xT N0 (xB 0 (S55 N [1,1,1,1] Q))):=
 Eq.mpr (by kernel_rfl) (h _ rfl _ (Zm _))
theorem ZmA(N:Nat)(e:Edit)(x6_a:Int)(N1:NT)(Q:QT)(h:∀ y_1,y_1=(e.ops.getD x6_a.toNat Op.nil)→∀ y_2,y_2=(y_1.e)→let z0:=decide (x6_a < (e.ops.length:Int));((z0=true→((0:Int)≤x6_a∧x6_a < (e.ops.length:Int))∧(Z9g (y_2,()))∧(Zdp (y_2,()) < N)∧(((!(Jv y_2))=true→(Q .ret (L2 [(2,.c (.bool false))] [])))∧((!(Jv y_2))=false→(InR (x6_a+1))∧(N1 (Z68 e (x6_a+1))))))∧(z0=false→(Q .ret (L2 [(2,.c (.bool true))] []))))):
  A55 N [1,1,1,1,0,1,0,0] (Z68 e x6_a) (xT N1 (xB 2 (S55 N [1,1,1,1,1] Q))):=
 Eq.mpr (by kernel_rfl) (h _ rfl _ (Zm _))
def ZrP(N:Nat)(e:Edit):Prop:=AW (Z0 (Zf9 N)) Try.f55 ZnI [] (Zl (Zft.can (e,())) []) (EQ Try.f55 (ZjJ (e,())) [])
theorem Zq7(c65:CT 65 Z2n)(hb:∀ (N:Nat) (e:Edit) (_:Unit),Z9g (e,())→Zdp (e,()) < N+1→ZrP N e):CT 55 Z8N:=
 ZT (μ:=Zdp) (l:=[(65,Z2n)]) Zk rfl (⟨c65,trivial⟩) ZnI Try.func55 rfl rfl 1 (fun _=> rfl) (by decide) (fun N ⟨e,_⟩=> hb N e ())
def Zlb:List (FuncId × Fs U):=[(54,Z8O),(23,Z8V),(55,Z8N)]
def ZqA:Zh U:=lvl [([1],[1]),([2],[])]
abbrev A15(p:List Nat):=AW (Z0 Zlb) Try.f15 ZqA p
theorem Zu5(e:Edit)(Q:QT)(h:∀ y_1,y_1=e→let z1:=decide (0≤Jw y_1 80 3000);let z0:=bif z1 then (Z3 y_1 64) else false;((Zkg (y_1,()))∧(Tr (z1=true))∧(z1=true→Z7y (y_1,64,()))∧(Tr (z1=true))∧(Tr (z0=true))∧(z0=true→Z9g (y_1,()))∧(Tr (z0=true))∧(Q .ret (L2 [(2,.c (.bool (bif z0 then (Jv y_1) else false)))] [])))):
  A15 [] (L2 [(0,.agg (enc .edit e))] []) Q:=
 Eq.mpr (by kernel_rfl) (h _ (Zm _))
def Zs2(e:Edit):Prop:=AW (Z0 Zlb) Try.f15 ZqA [] (Zl (ZlW.can (e,())) []) (EQ Try.f15 (ZoV (e,())) [])
theorem Zqj(c54:CT 54 Z8O)(c23:CT 23 Z8V)(c55:CT 55 Z8N)(hb:∀ (e:Edit) (_:Unit),Zgk (e,())→Zs2 e):CT 15 Z8Y:=
 Z4 (l:=[(54,Z8O),(23,Z8V),(55,Z8N)]) Zk rfl (⟨c54,c23,c55,trivial⟩) ZqA Try.func15 rfl rfl 1 (fun _=> rfl) (by decide) (fun ⟨e,_⟩=> hb e ())
theorem Zik(c62:CT 62 Z2o)(c63:CT 63 Z6w)(Zr6:CT 104 Z3L)(c37:CT 37 Z2p)(c65:CT 65 Z2n)(ha:Ztp)(hb:Ztn):CT 23 Z8V∧CT 64 Zjv:=
 Z4x (μA:=ZbO) (μB:=Zic) (l:=[(62,Z2o),(63,Z6w),(104,Z3L),(37,Z2p),(65,Z2n)]) Zk rfl (⟨c62,c63,Zr6,c37,c65,trivial⟩) ZnN ZnH Try.func23 Try.func64 rfl rfl rfl rfl 2 3 (fun _=> rfl) (fun _=> rfl) (by decide) (by decide) (fun N ⟨e,d,_⟩=> ha N e d ()) (fun N ⟨list,o,d,_⟩=> hb N list o d ())
end
end Go.AM.Ytpjenobkibfpcaa
namespace Go.AM.Ytpjenobkibfpcaa
open Go.AM Go.Proofs
theorem Z2V{n:Int}(h0:0≤n)(h1:n < 18446744073709551616):IntKind.wrap .u64 n=n:=by
 simp [IntKind.wrap,IntKind.signed,IntKind.bits];omega
theorem ZfG{n:Int}(h0:0≤n)(h1:n < 256):IntKind.wrap .u8 n=n:=by
 simp [IntKind.wrap,IntKind.signed,IntKind.bits];omega
theorem Zht{i:Int}{j:Nat}{v:Int}{F G:Nat→Int}(hi:0≤i)(hv:v=F i.toNat):Z0k i j v (if (j:Int) < i then F j else G j)=if (j:Int) < i+1 then F j else G j:=by
 unfold Z0k
 by_cases h:i=j
 ·subst h
  rw [if_pos rfl,if_pos (by omega),hv]
  simp
 ·rw [if_neg h]
  by_cases h2:(j:Int) < i
  ·rw [if_pos h2,if_pos (by omega)]
  ·rw [if_neg h2,if_neg (by omega)]
theorem ZnT{i:Int}{j:Nat}{F G:Nat→Int}(h:F i.toNat=G i.toNat)(hi:0≤i):(if (j:Int) < i then F j else G j)=if (j:Int) < i+1 then F j else G j:=by
 by_cases h2:(j:Int) < i
 ·rw [if_pos h2,if_pos (by omega)]
 ·by_cases h3:(j:Int)=i
  ·subst h3
   rw [if_neg h2,if_pos (by omega)]
   simpa using h.symm
  ·rw [if_neg h2,if_neg (by omega)]
theorem Z0D(w:Int)(i:Nat):0≤Zi w i∧Zi w i < 256:=by
 unfold Zi
 omega
theorem Z3E{w:Int}(h:0≤w)(i:Nat):0≤w / 256 ^ i:=Int.ediv_nonneg h (Int.le_of_lt (Int.pow_pos (by omega)))
theorem Za0{w:Int}(h:0≤w)(i:Nat):w / 256 ^ i≤w:=Int.ediv_le_self _ h
theorem Zca(w:Int)(i:Nat):w / 256 ^ i / 256=w / 256 ^ (i+1):=by
 rw [Int.ediv_ediv_of_nonneg (Int.le_of_lt (Int.pow_pos (by omega))),Int.pow_succ]
theorem c67:Contract Try.prog cfg 67 Z8L:=by
 refine Zq1 ?_
 intro w _ hp
 simp only [Zd3] at hp
 refine ZtK _ _ ?_;(try simp only [vcT,forall_eq])
 refine Zc (ι:=Int) (fun i=> Z3v w (w / 256 ^ i.toNat) i (if ((0:Nat):Int) < i then Zi w 0 else 0) (if ((1:Nat):Int) < i then Zi w 1 else 0) (if ((2:Nat):Int) < i then Zi w 2 else 0) (if ((3:Nat):Int) < i then Zi w 3 else 0)
  (if ((4:Nat):Int) < i then Zi w 4 else 0) (if ((5:Nat):Int) < i then Zi w 5 else 0) (if ((6:Nat):Int) < i then Zi w 6 else 0) (if ((7:Nat):Int) < i then Zi w 7 else 0)) (fun i=> 0≤i∧i≤8) (fun i=> (8 - i).toNat) 0 ?_ ⟨by omega,by omega⟩ ?_
 ·simp [Z3v]
 ·rintro i ⟨h1,h2⟩
  refine Zms _ _ _ _ _ _ _ _ _ _ _ _ _ ?_;(try simp only [vcT,forall_eq])
  (simp only [vcS]);(try simp only [vcT])
  refine ⟨fun hc=> ⟨by omega,⟨h1,by omega⟩,by omega,by unfold InR;omega,i+1,?_,⟨by omega,by omega⟩,by omega⟩,fun hc=> ?_⟩
  ·have hd:=Z3E hp.1 i.toNat
   have hl:=Za0 hp.1 i.toNat
   have e1:IntKind.wrap .u64 (Int.tdiv (w / 256 ^ i.toNat) 256)=w / 256 ^ (i+1).toNat:=by
    rw [Int.tdiv_eq_ediv_of_nonneg hd,Zca,show i.toNat+1=(i+1).toNat by omega]
    exact Z2V (Z3E hp.1 _) (Int.lt_of_le_of_lt (Za0 hp.1 _) hp.2)
   have e2:IntKind.wrap .u8 (Int.tmod (w / 256 ^ i.toNat) 256)=Zi w i.toNat:=by
    rw [Int.tmod_eq_emod_of_nonneg hd]
    exact ZfG (Z0D w _).1 (Z0D w _).2
   rw [e1]
   have st:∀ j:Nat,Z0k i j (IntKind.wrap .u8 (Int.tmod (w / 256 ^ i.toNat) 256)) (if (j:Int) < i then Zi w j else 0)=if (j:Int) < i+1 then Zi w j else 0:=fun j=> Zht (F:=Zi w) (G:=fun _=> 0) h1 e2
   rw [st 0,st 1,st 2,st 3,st 4,st 5,st 6,st 7]
  ·have:i=8:=by omega
   subst this
   simp only [ZjG]
   exact ⟨⟨rfl,⟨⟨rfl,rfl⟩,⟨rfl,rfl⟩,⟨rfl,rfl⟩,⟨rfl,rfl⟩,⟨rfl,rfl⟩,⟨rfl,rfl⟩,⟨rfl,rfl⟩,⟨rfl,rfl⟩,trivial⟩,trivial⟩,trivial⟩
theorem c68:Contract Try.prog cfg 68 Z8K:=by
 refine Zq0 ?_
 intro m i _ hp
 simp only [Zgf] at hp
 refine ZtJ _ _ _ ?_;(try simp only [vcT,forall_eq])
 refine Zc (ι:=Int) (fun k=> Z62 m i (m / 2 ^ k.toNat) k) (fun k=> 0≤k∧k≤i) (fun k=> (i - k).toNat) 0 ?_ ⟨by omega,by omega⟩ ?_
 ·simp
 ·rintro k ⟨h1,h2⟩
  refine Zmr _ _ _ _ _ _ ?_;(try simp only [vcT,forall_eq])
  have hd:0≤m / 2 ^ k.toNat:=Int.ediv_nonneg hp.1.1 (Int.le_of_lt (Int.pow_pos (by omega)))
  have hl:m / 2 ^ k.toNat≤m:=Int.ediv_le_self _ hp.1.1
  (simp only [vcS])
  refine ⟨fun hc=> ⟨by omega,by unfold InR;omega,k+1,?_,⟨by omega,by omega⟩,by omega⟩,fun hc=> ⟨by omega,Z2 rfl ?_⟩⟩
  ·have e:IntKind.wrap .u8 (Int.tdiv (m / 2 ^ k.toNat) 2)=m / 2 ^ (k+1).toNat:=by
    rw [Int.tdiv_eq_ediv_of_nonneg hd,Int.ediv_ediv_of_nonneg (Int.le_of_lt (Int.pow_pos (by omega))),show (2:Int) ^ k.toNat*2=2 ^ (k+1).toNat by rw [←Int.pow_succ];congr 1;omega]
    refine ZfG (Int.ediv_nonneg hp.1.1 (Int.le_of_lt (Int.pow_pos (by omega)))) (Int.lt_of_le_of_lt (Int.ediv_le_self _ hp.1.1) hp.1.2)
   rw [e]
  ·have:k=i:=by omega
   subst this
   rw [Int.tmod_eq_emod_of_nonneg hd]
   try rfl
def Z84(f:Nat→Int):Nat→Int
 | 0=> 0
 | k+1=> f (7 - k)+256*Z84 f k
theorem Z8y{f:Nat→Int}(h:∀ i,0≤f i∧f i < 256):∀ k,0≤Z84 f k∧Z84 f k < 256 ^ k
 | 0=> by simp [Z84]
 | k+1=> by
  have:=Z8y h k
  have h2:=h (7 - k)
  simp only [Z84,Int.pow_succ]
  omega
theorem Zps(f:Nat→Int):Z84 f 8=of8 f:=by simp [Z84,of8]
theorem c69:Contract Try.prog cfg 69 Z8J:=by
 refine ZpZ ?_
 intro b z _ hp
 obtain ⟨rfl,hl,hb⟩:=hp
 dsimp only at hl hb
 refine ZtI _ _ _ ?_;(try simp only [vcT,forall_eq])
 have hf:∀ i,0≤b.getD i 0∧b.getD i 0 < 256:=by
  intro i
  by_cases hi:i < b.length
  ·have:b.getD i 0∈b:=by
    simp only [List.getD,List.getElem?_eq_getElem hi,Option.getD_some]
    exact List.getElem_mem hi
   exact hb _ this
  ·rw [List.getD,List.getElem?_eq_none (by omega)];simp
 refine Zc (ι:=Int) (fun i=> Z61 b 0 (Z84 (fun i=> b.getD i 0) (7 - i).toNat) i) (fun i=> -1≤i∧i≤7) (fun i=> (i+1).toNat) 7 rfl ⟨by omega,by omega⟩ ?_
 rintro i ⟨h1,h2⟩
 refine Zmq _ _ _ _ _ _ ?_;(try simp only [vcT,forall_eq])
 (simp only [vcS]);(try simp only [vcT])
 have hr:=Z8y (f:=fun i=> b.getD i 0) hf (7 - i).toNat
 refine ⟨fun hc=> ⟨by unfold InR;omega,by omega,by unfold InR;omega,i - 1,?_,⟨by omega,by omega⟩,by omega⟩,fun hc=> Ys rfl ?_⟩
 ·have hp7:(256:Int) ^ (7 - i).toNat≤256 ^ 7:=by
   have:(256:Int) ^ (7 - i).toNat=((256 ^ (7 - i).toNat:Nat):Int):=by simp
   rw [this]
   have h7:(256:Nat) ^ (7 - i).toNat≤256 ^ 7:=Nat.pow_le_pow_right (by omega) (by omega)
   have:((256:Nat) ^ 7:Nat)=72057594037927936:=by decide
   omega
  have e7:(256:Int) ^ 7=72057594037927936:=by decide
  have hfi:=hf i.toNat
  have e:Z84 (fun i=> b.getD i 0) (7 - (i - 1)).toNat=b.getD i.toNat 0+256*Z84 (fun i=> b.getD i 0) (7 - i).toNat:=by
   rw [show (7 - (i - 1)).toNat=(7 - i).toNat+1 by omega]
   simp only [Z84]
   rw [show 7 - (7 - i).toNat=i.toNat by omega]
  rw [e,show (0+i).toNat=i.toNat by omega,Z2V (n:=Z84 (fun i=> b.getD i 0) (7 - i).toNat*256) (by omega) (by omega),Z2V (n:=b.getD i.toNat 0) (by omega) (by omega),Z2V (by omega) (by omega)]
  congr 1
  omega
 ·have:i= -1:=by omega
  subst this
  exact Zps _
theorem ZsR(f:Nat→Int){i:Nat}(h:i < 8):List.getD [f 0,f 1,f 2,f 3,f 4,f 5,f 6,f 7] i 0=f i:=by
 match i,h with
 | 0,_=> rfl
 | 1,_=> rfl
 | 2,_=> rfl
 | 3,_=> rfl
 | 4,_=> rfl
 | 5,_=> rfl
 | 6,_=> rfl
 | 7,_=> rfl
theorem Z7I(a b m:Int)(i:Nat):0≤YB a b m i∧YB a b m i < 256:=by
 unfold YB
 split
 ·exact Z0D _ _
 ·exact Z0D _ _
theorem Zr7:Contract Try.prog cfg 103 Z5n:=by
 refine Znt c67 c68 c69 ?_
 intro a b m _ hp
 simp only [ZbJ] at hp
 refine ZsE _ _ _ _ ?_;(try simp only [vcT,forall_eq])
 refine ⟨hp.1,hp.2.1,?_⟩
 refine Zc (ι:=Int) (fun i=> Z0V a b m i (if ((0:Nat):Int) < i then YB a b m 0 else Zi a 0) (if ((1:Nat):Int) < i then YB a b m 1 else Zi a 1) (if ((2:Nat):Int) < i then YB a b m 2 else Zi a 2) (if ((3:Nat):Int) < i then YB a b m 3 else Zi a 3)
  (if ((4:Nat):Int) < i then YB a b m 4 else Zi a 4) (if ((5:Nat):Int) < i then YB a b m 5 else Zi a 5) (if ((6:Nat):Int) < i then YB a b m 6 else Zi a 6) (if ((7:Nat):Int) < i then YB a b m 7 else Zi a 7)) (fun i=> 0≤i∧i≤8) (fun i=> (8 - i).toNat) 0 ?_ ⟨by omega,by omega⟩ ?_
 ·simp [Z0V]
 ·rintro i ⟨h1,h2⟩
  refine Zjp _ _ _ _ _ _ _ _ _ _ _ _ _ _ ?_;(try simp only [vcT,forall_eq])
  (simp only [vcS]);(try simp only [vcT])
  refine ⟨fun hc=> ⟨⟨hp.2.2,h1,by dsimp only;omega⟩,fun hn=> ⟨⟨h1,by omega⟩,⟨h1,by omega⟩,by unfold InR;omega,i+1,?_,⟨by omega,by omega⟩,by omega⟩,fun hn=> ⟨by unfold InR;omega,i+1,?_,⟨by omega,by omega⟩,by omega⟩⟩,fun hc=> ?_⟩
  ·rw [ZsR (Zi b) (by omega)]
   have hv:Zi b i.toNat=YB a b m i.toNat:=by
    unfold YB
    rw [show ((i.toNat:Nat):Int)=i by omega,hn]
    try rfl
   have st:∀ j:Nat,Z0k i j (Zi b i.toNat) (if (j:Int) < i then YB a b m j else Zi a j)=if (j:Int) < i+1 then YB a b m j else Zi a j:=fun j=> Zht (F:=YB a b m) (G:=Zi a) h1 hv
   rw [st 0,st 1,st 2,st 3,st 4,st 5,st 6,st 7]
  ·have hv:YB a b m i.toNat=Zi a i.toNat:=by
    unfold YB
    rw [show ((i.toNat:Nat):Int)=i by omega,hn]
    try rfl
   have st:∀ j:Nat,(if (j:Int) < i then YB a b m j else Zi a j)=if (j:Int) < i+1 then YB a b m j else Zi a j:=fun j=> ZnT (F:=YB a b m) (G:=Zi a) hv h1
   rw [st 0,st 1,st 2,st 3,st 4,st 5,st 6,st 7]
  ·have:i=8:=by omega
   subst this
   refine ⟨⟨rfl,rfl,?_⟩,Ys rfl ?_⟩
   ·intro x hx
    simp at hx
    rcases hx with rfl | rfl | rfl | rfl | rfl | rfl | rfl | rfl <;> exact Z7I _ _ _ _
   ·try rfl
end Go.AM.Ytpjenobkibfpcaa
namespace Go.AM.Ytpjenobkibfpcaa
open Go.AM Go.Proofs
theorem Ziz{α:Type}{l:List α}{i:Nat}(h:i < l.length)(d:α):l.drop i=l.getD i d ::l.drop (i+1):=by
 rw [List.drop_eq_getElem_cons h]
 simp [List.getD,h]
theorem Yn{α:Type}{l:List α}{i:Int}(h0:0≤i)(h:i < l.length)(d:α):l.drop i.toNat=l.getD i.toNat d ::l.drop (i+1).toNat:=by
 rw [Ziz (by omega) d,show i.toNat+1=(i+1).toNat by omega]
theorem Zp{α:Type}{l:List α}{i:Nat}(h:i < l.length)(d:α):l.getD i d∈l:=by
 simp only [List.getD,List.getElem?_eq_getElem h,Option.getD_some]
 exact List.getElem_mem h
theorem Z1g(t:Tree):1≤Zg t:=by cases t;simp only [Zg];omega
theorem Z0O(e:Edit):1≤Ze e:=by cases e;simp only [Ze];omega
theorem Z6U(k:Kid):Js k=Ze k.e:=by cases k;rfl
theorem YC(o:Op):ZW o=Za o.l+Ze o.e:=by cases o;rfl
theorem YX:∀ {ks:List Tree} {t:Tree},t∈ks→Zg t≤Za ks
 | x ::r,t,h=> by
  simp only [Za]
  rcases List.mem_cons.1 h with rfl | h
  ·omega
  ·have:=YX h;omega
theorem Jg:∀ {ks:List Kid} {k:Kid},k∈ks→Ze k.e≤ZK ks
 | x ::r,k,h=> by
  simp only [ZK,Z6U]
  rcases List.mem_cons.1 h with rfl | h
  ·omega
  ·have:=Jg h;omega
theorem Yy:∀ {os:List Op} {o:Op},o∈os→ZW o≤Zf os
 | x ::r,o,h=> by
  simp only [Zf]
  rcases List.mem_cons.1 h with rfl | h
  ·omega
  ·have:=Yy h;omega
theorem Yg:∀ (ks:List Kid),ks.length≤ZK ks
 | []=> by simp [ZK]
 | k ::r=> by
  have:=Yg r
  have:=Z0O k.e
  simp only [ZK,Z6U,List.length_cons]
  omega
theorem Yq:∀ (os:List Op),os.length≤Zf os
 | []=> by simp [Zf]
 | o ::r=> by
  have:=Yq r
  have:=Z0O o.e
  simp only [Zf,YC,List.length_cons]
  omega
theorem Z91:∀ {ks:List Tree} {t:Tree},Z0X ks→t∈ks→Z0Y t
 | x ::r,t,hs,h=> by
  simp only [Z0X] at hs
  rcases List.mem_cons.1 h with rfl | h
  ·exact hs.1
  ·exact Z91 hs.2 h
theorem Z7l:∀ {ks:List Kid} {k:Kid},Z3N ks→k∈ks→Z1J k.e
 | x ::r,k,hs,h=> by
  simp only [Z3N] at hs
  rcases List.mem_cons.1 h with rfl | h
  ·have:=hs.1;obtain ⟨a,e⟩:=k;exact this
  ·exact Z7l hs.2 h
theorem Z7k:∀ {os:List Op} {o:Op},Z3M os→o∈os→o.l.length≤17592186044416∧Z0X o.l∧Z1J o.e
 | x ::r,o,hs,h=> by
  simp only [Z3M] at hs
  rcases List.mem_cons.1 h with rfl | h
  ·have:=hs.1;obtain ⟨a,b,c,e⟩:=o;exact this
  ·exact Z7k hs.2 h
theorem Jp:∀ {ks:List Tree} {t:Tree},ZO ks→t∈ks→rng t
 | x ::r,t,hs,h=> by
  simp only [ZO] at hs
  rcases List.mem_cons.1 h with rfl | h
  ·exact hs.1
  ·exact Jp hs.2 h
theorem Z0I:∀ {ks:List Kid} {k:Kid},Z1x ks→k∈ks→isI k.at_∧ZL k.e
 | x ::r,k,hs,h=> by
  simp only [Z1x] at hs
  rcases List.mem_cons.1 h with rfl | h
  ·have:=hs.1;obtain ⟨a,e⟩:=k;exact this
  ·exact Z0I hs.2 h
theorem Z0H:∀ {os:List Op} {o:Op},Z1w os→o∈os→JI o
 | x ::r,o,hs,h=> by
  simp only [Z1w] at hs
  rcases List.mem_cons.1 h with rfl | h
  ·exact hs.1
  ·exact Z0H hs.2 h
theorem Z8f{o:Op}(h:JI o):isI o.kind∧isI o.n∧ZO o.l∧ZL o.e:=by obtain ⟨a,b,c,e⟩:=o;exact h
theorem Zin(k:Kid)(d n:Int):Z1E k d n=Jw k.e d n:=by cases k;rfl
theorem ZkT(o:Op)(d n:Int):Z3t o d n=if Zq o.l 80 n < 0 then Zq o.l 80 n else Jw o.e d (Zq o.l 80 n):=by cases o;rfl
theorem Z6x(t:Tree)(n:Int)(h: -1≤n): -1≤sh1 t n∧sh1 t n≤n:=by
 unfold sh1
 split
 ·omega
 ·have:=Yd t 80 n;omega
mutual
theorem Z0g:∀ (e:Edit) (d n:Int),-1≤Jw e d n∧Jw e d n≤max n (-1)
 | .mk _ o nw w ks _ os,d,n=> by
  simp only [Jw]
  split
  ·omega
  ·have h1:=Yd o 80 (n - 1 - w.length - os.length)
   have h2:=Z6x nw _ h1.1
   have h3:=Z0z ks (d - 1) _ h2.1
   have h4:=Z0y os (d - 1) _ h3.1
   omega
theorem Z0z:∀ (ks:List (KidOf Edit)) (d n:Int),-1≤n→-1≤YR ks d n∧YR ks d n≤n
 | [],d,n,h=> by simp only [YR];omega
 | k ::r,d,n,h=> by
  simp only [YR]
  split
  ·omega
  ·have h1:=Z4v k d n
   have h2:=Z0z r d _ h1.1
   omega
theorem Z4v:∀ (k:KidOf Edit) (d n:Int),-1≤Z1E k d n∧Z1E k d n≤max n (-1)
 | ⟨_,e⟩,d,n=> by
  simp only [Z1E]
  exact Z0g e d n
theorem Z0y:∀ (os:List (OpOf Edit)) (d n:Int),-1≤n→-1≤J2 os d n∧J2 os d n≤n
 | [],d,n,h=> by simp only [J2];omega
 | o ::r,d,n,h=> by
  simp only [J2]
  split
  ·omega
  ·have h1:=Z5O o d n h
   have h2:=Z0y r d _ h1.1
   omega
theorem Z5O:∀ (o:OpOf Edit) (d n:Int),-1≤n→-1≤Z3t o d n∧Z3t o d n≤n
 | ⟨_,_,l,e⟩,d,n,h=> by
  simp only [Z3t]
  have h1:=Jo l 80 n h
  split
  ·omega
  ·have h2:=Z0g e d (Zq l 80 n)
   omega
end
theorem Zjx{t:Tree}{n:Int}(h:0≤sh1 t n):(Zg t:Int)+sh1 t n≤n:=by
 unfold sh1 at*
 split at h
 ·omega
 ·rename_i hn
  rw [if_neg hn]
  exact Jn t 80 n h
mutual
theorem Z52:∀ (e:Edit) (d n:Int),0≤Jw e d n→(Ze e:Int)+Jw e d n≤n
 | .mk _ o nw w ks _ os,d,n,h=> by
  simp only [Jw] at h ⊢
  split at h
  ·omega
  ·rename_i hc
   rw [if_neg hc]
   have r1:=Yd o 80 (n - 1 - w.length - os.length)
   have r2:=Z6x nw _ r1.1
   have r3:=Z0z ks (d - 1) _ r2.1
   have r4:=Z0y os (d - 1) _ r3.1
   have m4:=Z7R os (d - 1) _ h
   have m3:=Z7S ks (d - 1) (sh1 nw (Zw o 80 (n - 1 - w.length - os.length))) (by omega)
   have m2:=Zjx (t:=nw) (n:=Zw o 80 (n - 1 - w.length - os.length)) (by omega)
   have m1:=Jn o 80 (n - 1 - w.length - os.length) (by omega)
   simp only [Ze]
   omega
theorem Z7S:∀ (ks:List (KidOf Edit)) (d n:Int),0≤YR ks d n→(ZK ks:Int)+YR ks d n≤n
 | [],d,n,h=> by simp only [YR,ZK];omega
 | k ::r,d,n,h=> by
  simp only [YR] at h ⊢
  split at h
  ·omega
  ·rename_i hc
   rw [if_neg hc]
   have r1:=Z4v k d n
   have r2:=Z0z r d _ r1.1
   have m2:=Z7S r d _ h
   have m1:=ZbR k d n (by omega)
   simp only [ZK]
   omega
theorem ZbR:∀ (k:KidOf Edit) (d n:Int),0≤Z1E k d n→(Js k:Int)+Z1E k d n≤n
 | ⟨_,e⟩,d,n,h=> by
  simp only [Z1E,Js] at h ⊢
  exact Z52 e d n h
theorem Z7R:∀ (os:List (OpOf Edit)) (d n:Int),0≤J2 os d n→(Zf os:Int)+J2 os d n≤n
 | [],d,n,h=> by simp only [J2,Zf];omega
 | o ::r,d,n,h=> by
  simp only [J2] at h ⊢
  split at h
  ·omega
  ·rename_i hc
   rw [if_neg hc]
   have r1:=Z5O o d n (by omega)
   have r2:=Z0y r d _ r1.1
   have m2:=Z7R r d _ h
   have m1:=ZdC o d n (by omega)
   simp only [Zf]
   omega
theorem ZdC:∀ (o:OpOf Edit) (d n:Int),0≤Z3t o d n→(ZW o:Int)+Z3t o d n≤n
 | ⟨_,_,l,e⟩,d,n,h=> by
  simp only [Z3t,ZW] at h ⊢
  split at h
  ·omega
  ·rename_i hc
   rw [if_neg hc]
   have m2:=Z52 e d _ h
   have r2:=Z0g e d (Zq l 80 n)
   have m1:=Z1K l 80 n (by omega)
   omega
end
theorem Z7a{e:Edit}(h:0≤Jw e 80 3000):Ze e≤3000:=by
 have:=Z52 e 80 3000 h
 omega
end Go.AM.Ytpjenobkibfpcaa
namespace Go.AM.Ytpjenobkibfpcaa
open Go.AM Go.Proofs
theorem Zdz(t:Tree):t.words.length+t.kids.length < Zg t:=by
 obtain ⟨k,w,ks⟩:=t
 have:=Zr ks
 simp only [Zg,Tree.words_mk,Tree.kids_mk]
 omega
theorem Y5(e:Edit):Zg e.old+Zg e.new+e.words.length+e.ops.length+ZK e.kids+Zf e.ops < Ze e:=by
 obtain ⟨k,o,n,w,ks,l,os⟩:=e
 simp only [Ze,Edit.old_mk,Edit.new_mk,Edit.words_mk,Edit.ops_mk,Edit.kids_mk]
 omega
theorem c62:Contract Try.prog cfg 62 Z2o:=by
 refine Zq5 ?_
 intro t _ hp
 simp only [Z3f] at hp
 have:=Zdz t
 refine ZtP t _ ?_;(try simp only [vcT,forall_eq])
 refine ⟨fun _=> by unfold InR;omega,Z2 rfl ?_⟩
 rw [Bool.eq_iff_iff]
 simp only [ZH]
 (simp only [vcS])
 omega
theorem c63:Contract Try.prog cfg 63 Z6w:=by
 refine Zq4 Zr7 ?_
 intro w m _ hp
 refine ZtO _ _ _ ?_;(try simp only [vcT,forall_eq])
 refine ⟨⟨hp.1,by dsimp only;omega,hp.2⟩,Z2 rfl ?_⟩
 try rfl
theorem Zr6:Contract Try.prog cfg 104 Z3L:=by
 refine Zns c62 ?_
 intro e _ hp
 simp only [Z4Q] at hp
 have h1:=Y5 e
 have h2:=Yg e.kids
 refine ZsD e _ ?_;(try simp only [vcT,forall_eq])
 try (simp only [Tree.eta,Edit.eta,Tree.kind_mk,Tree.words_mk,Tree.kids_mk])
 refine ⟨fun _=> by simp only [Z3f];omega,fun _=> by simp only [Z3f];omega,fun _=> by unfold InR;omega,fun _=> by unfold InR;omega,Z2 rfl ?_⟩
 rw [Bool.eq_iff_iff]
 simp only [JH]
 (simp only [vcS])
 constructor
 ·rintro ⟨⟨⟨⟨h3,h4⟩,h5⟩,h6⟩,h7⟩;exact ⟨⟨⟨h3,h4⟩,h5⟩,by omega⟩
 ·rintro ⟨⟨⟨h3,h4⟩,h5⟩,h6⟩;exact ⟨⟨⟨⟨h3,h4⟩,h5⟩,by omega⟩,by omega⟩
theorem ZqC (e:Edit) (x4 x5 i:Int) (N0:LSt U→Prop) (Q:AExit→LSt U→Prop) (h1:0≤x4∧x4≤1048576) (h2:0≤x5∧x5≤1048576) (hi:0≤i) (hlen:e.ops.length≤20000000000)
  (ho:∀ o∈e.ops,(0≤o.n∧o.n≤1048576)∧o.l.length≤20000000000)
  (h:i < e.ops.length→N0 (Z1k e (min (if (e.ops.getD i.toNat Op.nil).kind=2 then x4 else x4+Zn (e.ops.getD i.toNat Op.nil)) 1048576) (min (if (e.ops.getD i.toNat Op.nil).kind=1 then x5 else x5+Zn (e.ops.getD i.toNat Op.nil)) 1048576) (i+1)))
  (h':¬i < e.ops.length→Q .ret (⟨[(2,.c (.int .i64 x4)),(3,.c (.int .i64 x5))],[],[]⟩:LSt U)):Zrh e x4 x5 i N0 Q:=by
 refine Zmt _ _ _ _ _ _ ?_;(try simp only [vcT,forall_eq])
 (simp only [vcS]);(try simp only [vcT])
 refine ⟨fun hc=> ?_,h'⟩
 have hn:=h hc
 have hm:=ho _ (Zp (l:=e.ops) (i:=i.toNat) (by omega) Op.nil)
 have k1:∀ k,k=Zn (e.ops.getD i.toNat Op.nil)→Zrl e x4 x5 i k N0 Q:=by
  intro k hk
  have hkr:0≤k∧k≤60000000000:=by
   rw [hk];unfold Zn;split <;> omega
  have k2:∀ y,y=(if (e.ops.getD i.toNat Op.nil).kind=2 then x4 else x4+k)→Zrk e x5 i k y N0 Q:=by
   intro y hy
   have hyr:0≤y∧y≤100000000000:=by rw [hy];split <;> omega
   have k3:∀ z,z=(if (e.ops.getD i.toNat Op.nil).kind=1 then x5 else x5+k)→Zrj e i k y z N0 Q:=by
    intro z hz
    have hzr:0≤z∧z≤100000000000:=by rw [hz];split <;> omega
    have k4:∀ u,u=min y 1048576→Zri e i y z u N0 Q:=by
     intro u hu
     refine Zmu _ _ _ _ _ _ _ ?_;(try simp only [vcT,forall_eq])
     (simp only [vcS]);(try simp only [vcT])
     rw [←hk,←hy,←hz,←hu] at hn
     refine ⟨fun hq=> ⟨by unfold InR;omega,?_⟩,fun hq=> ⟨by unfold InR;omega,?_⟩⟩
     ·rw [show min z 1048576=1048576 by omega] at hn;exact hn
     ·rw [show min z 1048576=z by omega] at hn;exact hn
    refine Zmv _ _ _ _ _ _ _ ?_;(try simp only [vcT,forall_eq])
    (simp only [vcS]);(try simp only [vcT])
    exact ⟨fun hq=> k4 _ (by omega),fun hq=> k4 _ (by omega)⟩
   refine Zmw _ _ _ _ _ _ _ ?_;(try simp only [vcT,forall_eq])
   (simp only [vcS]);(try simp only [vcT])
   exact ⟨fun hq=> ⟨by unfold InR;omega,k3 _ (by rw [if_neg hq])⟩,fun hq=> k3 _ (by rw [if_pos hq])⟩
  refine Zmx _ _ _ _ _ _ _ ?_;(try simp only [vcT,forall_eq])
  (simp only [vcS]);(try simp only [vcT])
  exact ⟨fun hq=> ⟨by unfold InR;omega,k2 _ (by rw [if_neg hq])⟩,fun hq=> k2 _ (by rw [if_pos hq])⟩
 exact ⟨⟨hi,hc⟩,by unfold InR;omega,fun hq=> k1 _ (by unfold Zn;rw [if_pos hq]),fun hq=> k1 _ (by unfold Zn;rw [if_neg hq])⟩
theorem c65:Contract Try.prog cfg 65 Z2n:=by
 refine Zq3 ?_
 intro e _ hp
 simp only [Zd4] at hp
 have h1:=Y5 e
 refine ZtM e _ ?_;(try simp only [vcT,forall_eq])
 refine Zc (ι:=Int × Int × Int) (fun p=> Z1k e p.1 p.2.1 p.2.2) (fun p=> 0≤p.2.2∧p.2.2≤e.ops.length∧(0≤p.1∧p.1≤1048576)∧(0≤p.2.1∧p.2.1≤1048576)∧JG (e.ops.drop p.2.2.toNat) p.1=JG e.ops 0∧JF (e.ops.drop p.2.2.toNat) p.2.1=JF e.ops 0) (fun p=> ((e.ops.length:Int) - p.2.2).toNat) (0,0,0) rfl ⟨by dsimp only;omega,by dsimp only;omega,by dsimp only;omega,by dsimp only;omega,by simp,by simp⟩ ?_
 rintro ⟨x4,x5,i⟩ ⟨h2,h3,h4,h5,h6,h7⟩
 dsimp only at*
 have ho:∀ o∈e.ops,(0≤o.n∧o.n≤1048576)∧o.l.length≤20000000000:=by
  intro o hm
  refine ⟨hp.2 o hm,?_⟩
  have a1:=Yy hm
  have a2:=Zr o.l
  rw [YC] at a1
  omega
 refine ZqC e x4 x5 i _ _ h4 h5 h2 (by omega) ho (fun hc=> ⟨(_,_,i+1),rfl,⟨by dsimp only;omega,by dsimp only;omega,?_,?_,?_,?_⟩,by dsimp only;omega⟩) (fun hc=> ?_)
 ·have hm:=ho _ (Zp (l:=e.ops) (i:=i.toNat) (by omega) Op.nil)
  dsimp only
  unfold Zn
  split <;> (try split) <;> omega
 ·have hm:=ho _ (Zp (l:=e.ops) (i:=i.toNat) (by omega) Op.nil)
  dsimp only
  unfold Zn
  split <;> (try split) <;> omega
 ·rw [Yn h2 hc Op.nil] at h6
  exact h6
 ·rw [Yn h2 hc Op.nil] at h7
  exact h7
 ·rw [List.drop_of_length_le (by omega)] at h6 h7
  simp only [JG,JF] at h6 h7
  simp only [ZjH,←h6,←h7]
  exact ⟨⟨rfl,⟨⟨rfl,rfl⟩,trivial⟩,rfl,⟨⟨rfl,rfl⟩,trivial⟩,trivial⟩,trivial⟩
theorem ZeT{l:List Kid}{d n:Int}(h:n < 0):YR l d n=n:=by cases l <;> simp [YR,h]
theorem ZeS{l:List Op}{d n:Int}(h:n < 0):J2 l d n=n:=by cases l <;> simp [J2,h]
theorem Zbn{l:List Tree}{d n:Int}(h:n < 0):Zq l d n=n:=by cases l <;> simp [Zq,h]
theorem ZhO{e:Edit}(h:Z1J e):Z0Y e.old∧Z0Y e.new∧e.words.length≤17592186044416∧e.kids.length≤17592186044416∧e.ops.length≤17592186044416∧Z3N e.kids∧Z3M e.ops:=by
 obtain ⟨k,o,n,w,ks,l,os⟩:=e;exact h
theorem ZkU(e:Edit)(d n:Int):Jw e d n=if d=0∨n - 1 - e.words.length - e.ops.length < 0 then -1 else J2 e.ops (d - 1) (YR e.kids (d - 1) (sh1 e.new (Zw e.old 80 (n - 1 - e.words.length - e.ops.length)))):=by
 obtain ⟨k,o,nw,w,ks,l,os⟩:=e;rfl
theorem c90:Contract Try.prog cfg 90 Z8B:=by
 refine ZpP c78 ?_
 rintro N e d n _ hp hN
 simp only [Z9f,Zdn] at hp hN
 obtain ⟨hs,hd0,hd1,hn0,hn1⟩:=hp
 obtain ⟨so,sn,lw,lk,lo,sk,sos⟩:=ZhO hs
 have hme:=Y5 e
 have hres:=ZkU e d n
 refine Ztw N e d n _ ?_;(try simp only [vcT,forall_eq])
 (simp only [vcS]);(try simp only [vcT])
 try (simp only [Tree.eta,Edit.eta,Tree.kind_mk,Tree.words_mk,Tree.kids_mk])
 refine ⟨by unfold InR;omega,by unfold InR;omega,by unfold InR;omega,fun hc=> Ys rfl (by rw [hres,if_pos hc]),fun hc=> ?_⟩
 rw [if_neg (by omega)] at hres
 have r1:=Yd e.old 80 (n - 1 - e.words.length - e.ops.length)
 have p68:∀ t m,Z0Y t→-1≤m→m≤4611686018427387904→Z5s (t,80,m,()):=fun t m h1 h2 h3=> ⟨h1,by dsimp only;omega,by dsimp only;omega,h2,h3⟩
 have k0:∀ x,x=sh1 e.new (Zw e.old 80 (n - 1 - e.words.length - e.ops.length))→Zrg N e d n x (J6 cfg Try.f90.ntmps Try.f90.results.toList (Zg4 (e,d,n,())) []):=by
  intro x hx
  have rx:=Z6x e.new _ r1.1
  rw [←hx] at rx hres
  refine Zmg N e d n x _ ?_;(try simp only [vcT,forall_eq])
  refine Zc (ι:=Int × Int) (fun p=> Z5S e d n p.1 p.2) (fun p=> 0≤p.2∧p.2≤e.kids.length∧-1≤p.1∧p.1≤4611686018427387904∧YR (e.kids.drop p.2.toNat) (d - 1) p.1=YR e.kids (d - 1) x) (fun p=> ((e.kids.length:Int) - p.2).toNat) (x,0) rfl ⟨by dsimp only;omega,by dsimp only;omega,by dsimp only;omega,by dsimp only;omega,by simp⟩ ?_
  rintro ⟨y,i⟩ ⟨h1,h2,h3,h4,h5⟩
  dsimp only at*
  refine Zmf N e d n y i _ _ ?_;(try simp only [vcT,forall_eq])
  (simp only [vcS]);(try simp only [vcT])
  try (simp only [Tree.eta,Edit.eta,Tree.kind_mk,Tree.words_mk,Tree.kids_mk])
  refine ⟨fun hi=> ?_,fun hi=> ?_⟩
  ·have hmem:=Zp (l:=e.kids) (i:=i.toNat) (by omega) (KidOf.mk 0 Edit.nil)
   have hsm:=Z7l sk hmem
   have hmm:=Jg hmem
   rw [Yn h1 hi.1 (KidOf.mk 0 Edit.nil)] at h5
   simp only [YR] at h5
   rw [if_neg (by omega),Zin] at h5
   have rr:=Z0g (e.kids.getD i.toNat (KidOf.mk 0 Edit.nil)).e (d - 1) y
   exact ⟨⟨h1,hi.1⟩,by unfold InR;omega,⟨hsm,by dsimp only;omega,by dsimp only;omega,h3,h4⟩,by simp only [Zdn];omega,by unfold InR;omega,(_,i+1),rfl,⟨by dsimp only;omega,by dsimp only;omega,by dsimp only;omega,by dsimp only;omega,h5⟩,by dsimp only;omega⟩
  ·have hy:YR e.kids (d - 1) x=y:=by
    rw [←h5]
    by_cases hlt:i < e.kids.length
    ·exact ZeT (by omega)
    ·rw [List.drop_of_length_le (by omega)];try rfl
   rw [hy] at hres
   refine Zc (ι:=Int × Int) (fun p=> Z3u e d n p.1 p.2) (fun p=> 0≤p.2∧p.2≤e.ops.length∧-1≤p.1∧p.1≤4611686018427387904∧J2 (e.ops.drop p.2.toNat) (d - 1) p.1=J2 e.ops (d - 1) y) (fun p=> ((e.ops.length:Int) - p.2).toNat) (y,0) rfl ⟨by dsimp only;omega,by dsimp only;omega,h3,h4,by simp⟩ ?_
   rintro ⟨z,j⟩ ⟨h6,h7,h8,h9,h10⟩
   dsimp only at*
   refine Zme N e d n z j _ _ ?_;(try simp only [vcT,forall_eq])
   (simp only [vcS]);(try simp only [vcT])
   refine ⟨fun hj=> ?_,fun hj=> ?_⟩
   ·have hmem:=Zp (l:=e.ops) (i:=j.toNat) (by omega) Op.nil
    have hsm:=Z7k sos hmem
    have hmm:=Yy hmem
    rw [YC] at hmm
    rw [Yn h6 hj.1 Op.nil] at h10
    simp only [J2] at h10
    rw [if_neg (by omega),ZkT] at h10
    refine Zc (ι:=Int × Int) (fun p=> Z5R e d n j p.1 p.2) (fun p=> 0≤p.2∧p.2≤(e.ops.getD j.toNat Op.nil).l.length∧-1≤p.1∧p.1≤4611686018427387904∧Zq ((e.ops.getD j.toNat Op.nil).l.drop p.2.toNat) 80 p.1=Zq (e.ops.getD j.toNat Op.nil).l 80 z) (fun p=> (((e.ops.getD j.toNat Op.nil).l.length:Int) - p.2).toNat) (z,0) rfl ⟨by dsimp only;omega,by dsimp only;omega,h8,h9,by simp⟩ ?_
    rintro ⟨u,k⟩ ⟨g1,g2,g3,g4,g5⟩
    dsimp only at*
    refine Zmd N e d n j u k _ _ _ ?_;(try simp only [vcT,forall_eq])
    (simp only [vcS]);(try simp only [vcT])
    try (simp only [Tree.eta,Edit.eta,Tree.kind_mk,Tree.words_mk,Tree.kids_mk])
    refine ⟨⟨h6,hj.1⟩,fun hk=> ?_,fun hk=> ?_⟩
    ·have hmt:=Zp (l:=(e.ops.getD j.toNat Op.nil).l) (i:=k.toNat) (by omega) Tree.nil
     rw [Yn g1 hk.1 Tree.nil] at g5
     simp only [Zq] at g5
     rw [if_neg (by omega)] at g5
     have rr:=Yd ((e.ops.getD j.toNat Op.nil).l.getD k.toNat Tree.nil) 80 u
     exact ⟨⟨h6,hj.1⟩,⟨g1,hk.1⟩,p68 _ _ (Z91 hsm.2.1 hmt) g3 g4,by unfold InR;omega,(_,k+1),rfl,⟨by dsimp only;omega,by dsimp only;omega,by dsimp only;omega,by dsimp only;omega,g5⟩,by dsimp only;omega⟩
    ·have hu:Zq (e.ops.getD j.toNat Op.nil).l 80 z=u:=by
      rw [←g5]
      by_cases hlt:k < (e.ops.getD j.toNat Op.nil).l.length
      ·exact Zbn (by omega)
      ·rw [List.drop_of_length_le (by omega)];try rfl
     rw [hu] at h10
     have rr:=Z0g (e.ops.getD j.toNat Op.nil).e (d - 1) u
     refine ⟨fun hq=> ⟨⟨h6,hj.1⟩,by unfold InR;omega,⟨hsm.2.2,by dsimp only;omega,by dsimp only;omega,g3,g4⟩,by simp only [Zdn];omega,by unfold InR;omega,(_,j+1),rfl,⟨by dsimp only;omega,by dsimp only;omega,by dsimp only;omega,by dsimp only;omega,?_⟩,by dsimp only;omega⟩,
      fun hq=> ⟨by unfold InR;omega,(_,j+1),rfl,⟨by dsimp only;omega,by dsimp only;omega,by dsimp only;omega,by dsimp only;omega,?_⟩,by dsimp only;omega⟩⟩
     ·rw [if_neg (by omega)] at h10;exact h10
     ·rw [if_pos (by omega)] at h10;exact h10
   ·refine Ys rfl ?_
    rw [hres,←h10]
    by_cases hlt:j < e.ops.length
    ·exact (ZeS (by omega)).symm
    ·rw [List.drop_of_length_le (by omega)];try rfl
 refine ⟨p68 _ _ so (by omega) (by omega),fun hq=> ⟨p68 _ _ sn r1.1 (by omega),k0 _ ?_⟩,fun hq=> k0 _ ?_⟩
 ·unfold sh1;rw [if_neg (by omega)]
 ·unfold sh1;rw [if_pos (by omega)]
theorem c54:Contract Try.prog cfg 54 Z8O:=by
 refine Zq8 c90 ?_
 intro e _ hp
 refine ZtT e _ ?_;(try simp only [vcT,forall_eq])
 try (simp only [Tree.eta,Edit.eta,Tree.kind_mk,Tree.words_mk,Tree.kids_mk])
 exact ⟨⟨hp,by dsimp only;omega,by dsimp only;omega,by dsimp only;omega,by dsimp only;omega⟩,Z2 rfl rfl⟩
end Go.AM.Ytpjenobkibfpcaa
namespace Go.AM.Ytpjenobkibfpcaa
open Go.AM Go.Proofs
theorem Z1Y(e:Edit)(d:Int):Z3 e d=
  if d=0∨e.kind < 0∨3 < e.kind then false
  else if (e.kind≠1∧¬(ZH e.old=true∧ZH e.new=true))∨(e.kind≠2∧¬(e.words.length=0∧e.kids.length=0))∨(e.kind≠3∧(e.list≠0∨e.ops.length≠0)) then false
  else if e.kind=1 then Z9 e.old (dT d) && Z9 e.new (dT d) && decide (e.old.kind≠10∧e.new.kind≠10)
  else Zs (-1) e.words && Zv (-1) e.kids (d - 1) && decide (¬(e.kind=3∧(e.list < 2∨9 < e.list))) && Zx e.list e.ops (d - 1) && decide (JG e.ops 0 < 1048576∧JF e.ops 0 < 1048576):=by
 obtain ⟨k,o,nw,w,ks,l,os⟩:=e;rfl
theorem Z09(last:Int)(k:Kid)(d:Int):Z0a last k d=(decide (last < k.at_∧k.at_≤65534∧k.e.kind≠0) && Z3 k.e d):=by cases k;rfl
theorem YM(list:Int)(o:Op)(d:Int):Zd list o d=
  if o.kind=0 then decide (1≤o.n∧o.n≤1048576∧o.l.length=0) && JH o.e
  else if o.n≠0∨o.kind < 0∨3 < o.kind then false
  else if o.kind < 3 then Yo (dT d) list o.l && decide (0 < o.l.length) && JH o.e
  else decide (o.l.length=0∧o.e.kind≠0∧7 < list) && Z3 o.e d && decide (list=8∨o.e.kind=2∨o.e.kind=1∧o.e.old.kind=1∧o.e.new.kind=1):=by
 cases o;rfl
theorem Z3R{list:Int}{o:Op}{d:Int}(h:Zd list o d=true):0≤o.n∧o.n≤1048576:=by
 rw [YM] at h
 split at h
 ·simp only [Bool.and_eq_true,decide_eq_true_eq] at h;omega
 ·split at h
  ·cases h
  ·rename_i h1;omega
theorem rightOs_mem{list d:Int}:∀ {os:List Op} {o:Op},Zx list os d=true→o∈os→Zd list o d=true
 | x ::r,o,h,hm=> by
  simp only [Zx,Bool.and_eq_true] at h
  rcases List.mem_cons.1 hm with rfl | hm
  ·exact h.1
  ·exact rightOs_mem h.2 hm
theorem Z7q{d:Int}:∀ {ks:List Kid} {last:Int} {k:Kid},Zv last ks d=true→k∈ks→Z3 k.e d=true∧k.e.kind≠0
 | x ::r,last,k,h,hm=> by
  simp only [Zv,Bool.and_eq_true] at h
  rcases List.mem_cons.1 hm with rfl | hm
  ·have:=h.1;rw [Z09] at this;simp only [Bool.and_eq_true,decide_eq_true_eq] at this;exact ⟨this.2,this.1.2.2⟩
  ·exact Z7q h.2 hm
theorem Z0u{e:Edit}(h:ZL e):isI e.kind∧rng e.old∧rng e.new∧(∀ x∈e.words,ZjC x)∧isI e.list∧Z1x e.kids∧Z1w e.ops:=by
 obtain ⟨k,o,n,w,ks,l,os⟩:=e;exact h
theorem b23:Ztp:=by
 intro N e d _ hp hN
 simp only [Z7y,ZbO] at hp hN
 obtain ⟨⟨hm,hr⟩,hd0,hd1⟩:=hp
 obtain ⟨ik,ro,rn,rw',il,rk,ros⟩:=Z0u hr
 have hme:=Y5 e
 have hkl:=Yg e.kids
 have hol:=Yq e.ops
 have hat:=Z1Y e d
 rw [Zh3 hd0] at hat
 refine Zu2 N e d _ ?_;(try simp only [vcT,forall_eq])
 (simp only [vcS]);(try simp only [vcT]);(try simp only [vcU])
 try (simp only [Tree.eta,Edit.eta,Tree.kind_mk,Tree.words_mk,Tree.kids_mk])
 refine ⟨fun hc=> Z2 rfl (by rw [hat,if_pos (by omega)]),fun hc=> ?_⟩
 rw [if_neg (by omega)] at hat
 refine ⟨fun _=> by simp only [Z3f];omega,fun _=> by simp only [Z3f];omega,fun _=> by unfold InR;omega,fun hf=> Z2 rfl ?_,fun hf=> ⟨fun h1=> ⟨⟨by dsimp only;omega,ro,by dsimp only;omega,by dsimp only;omega⟩,fun _=> ⟨by dsimp only;omega,rn,by dsimp only;omega,by dsimp only;omega⟩,Z2 rfl ?_⟩,fun h1=> ?_⟩⟩
 ·rw [hat,if_pos]
  rcases hf with (hf | hf) | hf
  ·left
   refine ⟨hf.1,fun h=> ?_⟩
   rcases hf.2 with h2 | h2
   ·rw [h.1] at h2;cases h2
   ·rw [h.2] at h2;cases h2
  ·right;left;omega
  ·right;right;omega
 ·rw [hat,if_neg,if_pos h1,Bool.eq_iff_iff]
  ·(simp only [vcS])
   constructor
   ·rintro ⟨⟨⟨h2,h3⟩,h4⟩,h5⟩;exact ⟨⟨h2,h3⟩,h4,h5⟩
   ·rintro ⟨⟨h2,h3⟩,h4,h5⟩;exact ⟨⟨⟨h2,h3⟩,h4⟩,h5⟩
  ·intro h
   rcases h with h | h | h
   ·exact h.1 h1
   ·omega
   ·omega
 ·rw [if_neg,if_neg h1] at hat
  ·refine Zc (ι:=Int × Int) (fun p=> Z6d e d p.1 p.2) (fun p=> 0≤p.2∧p.2≤e.words.length∧Zs p.1 (e.words.drop p.2.toNat)=Zs (-1) e.words) (fun p=> ((e.words.length:Int) - p.2).toNat) (-1,0) rfl ⟨by dsimp only;omega,by dsimp only;omega,by simp⟩ ?_
   rintro ⟨last,i⟩ ⟨h2,h3,h4⟩
   dsimp only at*
   refine ZmI N e d last i _ _ ?_;(try simp only [vcT,forall_eq])
   (simp only [vcS]);(try simp only [vcT]);(try simp only [vcU])
   try (simp only [Tree.eta,Edit.eta,Tree.kind_mk,Tree.words_mk,Tree.kids_mk])
   refine ⟨fun hi=> ?_,fun hi=> ?_⟩
   ·have hmem:=Zp (l:=e.words) (i:=i.toNat) (by omega) (WEdit.mk 0 0 0 0)
    have hrw:=rw' _ hmem
    rw [Yn h2 hi (WEdit.mk 0 0 0 0)] at h4
    simp only [Zs] at h4
    generalize e.words.getD i.toNat (WEdit.mk 0 0 0 0)=w at*
    obtain ⟨_,hmk,hwo,hwn⟩:=hrw
    refine ⟨⟨h2,hi⟩,fun _=> ⟨hwo,hmk⟩,fun _=> ⟨hwn,hmk⟩,fun hq=> Z2 rfl ?_,fun hq=> ⟨by unfold InR;omega,(_,i+1),rfl,⟨by dsimp only;omega,by dsimp only;omega,?_⟩,by dsimp only;omega⟩⟩
    ·rw [hat,←h4]
     rcases hq with (hq | hq) | hq
     ·rw [decide_eq_false (by omega)];try rfl
     ·rw [hq];simp
     ·rw [hq];simp
    ·dsimp only
     rw [←h4,decide_eq_true (by omega),hq.1.2,hq.2];try rfl
   ·have hw:Zs (-1) e.words=true:=by
     rw [←h4,List.drop_of_length_le (by omega)];try rfl
    rw [hw,Bool.true_and] at hat
    refine Zc (ι:=Int × Int) (fun p=> Z6c e d p.1 p.2) (fun p=> 0≤p.2∧p.2≤e.kids.length∧Zv p.1 (e.kids.drop p.2.toNat) (d - 1)=Zv (-1) e.kids (d - 1)) (fun p=> ((e.kids.length:Int) - p.2).toNat) (-1,0) rfl ⟨by dsimp only;omega,by dsimp only;omega,by simp⟩ ?_
    rintro ⟨last,i⟩ ⟨h2,h3,h4⟩
    dsimp only at*
    refine ZmH N e d last i _ _ ?_;(try simp only [vcT,forall_eq])
    (simp only [vcS]);(try simp only [vcT]);(try simp only [vcU])
    try (simp only [Tree.eta,Edit.eta,Tree.kind_mk,Tree.words_mk,Tree.kids_mk])
    refine ⟨fun hi=> ?_,fun hi=> ?_⟩
    ·have hmem:=Zp (l:=e.kids) (i:=i.toNat) (by omega) (KidOf.mk 0 Edit.nil)
     have hrw:=Z0I rk hmem
     have hmm:=Jg hmem
     rw [Yn h2 hi (KidOf.mk 0 Edit.nil)] at h4
     simp only [Zv,Z09] at h4
     generalize e.kids.getD i.toNat (KidOf.mk 0 Edit.nil)=w at*
     refine ⟨⟨h2,hi⟩,fun _=> by unfold InR;omega,fun _=> ⟨⟨by dsimp only;omega,hrw.2⟩,by dsimp only;omega,by dsimp only;omega⟩,fun _=> by simp only [ZbO];omega,fun hq=> Z2 rfl ?_,fun hq=> ⟨by unfold InR;omega,(_,i+1),rfl,⟨by dsimp only;omega,by dsimp only;omega,?_⟩,by dsimp only;omega⟩⟩
     ·rw [hat,←h4]
      rcases hq with hq | hq
      ·rw [decide_eq_false (by omega)];try rfl
      ·rw [hq];simp
     ·dsimp only
      rw [←h4,decide_eq_true (by omega),hq.2];try rfl
    ·have hw:Zv (-1) e.kids (d - 1)=true:=by
      rw [←h4,List.drop_of_length_le (by omega)];try rfl
     rw [hw,Bool.true_and] at hat
     refine ⟨fun hq=> Z2 rfl (by rw [hat,decide_eq_false (by omega)];rfl),fun hq=> ?_⟩
     rw [decide_eq_true (by omega),Bool.true_and] at hat
     refine Zc (ι:=Int) (fun p=> Z6b e d p) (fun p=> 0≤p∧p≤e.ops.length∧Zx e.list (e.ops.drop p.toNat) (d - 1)=Zx e.list e.ops (d - 1)) (fun p=> ((e.ops.length:Int) - p).toNat) 0 rfl ⟨by omega,by omega,by simp⟩ ?_
     rintro j ⟨h5,h6,h7⟩
     refine ZmG N e d j _ _ ?_;(try simp only [vcT,forall_eq])
     (simp only [vcS]);(try simp only [vcT]);(try simp only [vcU])
     try (simp only [Tree.eta,Edit.eta,Tree.kind_mk,Tree.words_mk,Tree.kids_mk])
     refine ⟨fun hj=> ?_,fun hj=> ?_⟩
     ·have hmem:=Zp (l:=e.ops) (i:=j.toNat) (by omega) Op.nil
      have hro:=Z0H ros hmem
      have hmm:=Yy hmem
      rw [Yn h5 hj Op.nil] at h7
      simp only [Zx] at h7
      generalize e.ops.getD j.toNat Op.nil=o at*
      refine ⟨⟨h5,hj⟩,by unfold InR;omega,⟨⟨by show ZW o≤20000000000;omega,hro,il⟩,by dsimp only;omega,by dsimp only;omega⟩,?_,fun hq=> Z2 rfl ?_,fun hq=> ⟨by unfold InR;omega,j+1,rfl,⟨by omega,by omega,?_⟩,by omega⟩⟩
      ·show 2*ZW o+1 < N
       omega
      ·have hq':Zd e.list o (d - 1)=false:=hq
       rw [hat,←h7,hq'];try rfl
      ·have hq':Zd e.list o (d - 1)=true:=hq
       rw [←h7,hq'];try rfl
     ·have hw:Zx e.list e.ops (d - 1)=true:=by
       rw [←h7,List.drop_of_length_le (by omega)];try rfl
      rw [hw,Bool.true_and] at hat
      refine ⟨⟨hm,fun o ho=> Z3R (rightOs_mem hw ho)⟩,Z2 rfl ?_⟩
      rw [hat,Bool.eq_iff_iff]
      (simp only [vcS])
  ·intro h
   rcases h with h | h | h
   ·rcases hf.1.1 with h2 | h2
    ·exact h1 h2
    ·exact h.2 h2
   ·omega
   ·omega
theorem Zal{l:List Tree}{i:Int}(h0:0≤i)(h:i < l.length):List.drop i.toNat (l.take (i+1).toNat)=[l.getD i.toNat Tree.nil]:=by
 rw [List.drop_take,show (i+1).toNat - i.toNat=1 by omega,Yn h0 h Tree.nil]
 try rfl
theorem b64:Ztn:=by
 intro N list o d _ hp hN
 simp only [ZaL,Zic] at hp hN
 obtain ⟨⟨hm,hr,hil⟩,hd0,hd1⟩:=hp
 obtain ⟨ik,inn,rl,re⟩:=Z8f hr
 rw [YC] at hm hN
 have hll:=Zr o.l
 have hep:=Z0O o.e
 have hat:=YM list o d
 rw [Zh3 hd0,Z6s] at hat
 refine ZtN N list o d _ ?_;(try simp only [vcT,forall_eq])
 (simp only [vcS]);(try simp only [vcT]);(try simp only [vcU])
 try (simp only [Tree.eta,Edit.eta,Tree.kind_mk,Tree.words_mk,Tree.kids_mk])
 refine ⟨fun h0=> ⟨fun _=> by simp only [Z4Q];omega,Z2 rfl ?_⟩,fun h0=> ⟨fun hc=> Z2 rfl ?_,fun hc=> ⟨fun h3=> ?_,fun h3=> ⟨fun _=> ⟨⟨by dsimp only;omega,re⟩,hd0,hd1⟩,fun _=> by simp only [ZbO];omega,fun hq=> Z2 rfl ?_,fun hq=> Z2 rfl ?_⟩⟩⟩⟩
 ·rw [hat,if_pos h0,Bool.eq_iff_iff]
  (simp only [vcS])
  constructor
  ·rintro ⟨h1,h2⟩;exact ⟨by omega,h2⟩
  ·rintro ⟨h1,h2⟩;exact ⟨by omega,h2⟩
 ·rw [hat,if_neg h0,if_pos (by omega)]
 ·rw [if_neg h0,if_neg (by omega),if_pos h3] at hat
  refine Zc (ι:=Int) (fun p=> Z67 list o d p) (fun p=> 0≤p∧p≤o.l.length∧Yw list (o.l.drop p.toNat)=Yw list o.l) (fun p=> ((o.l.length:Int) - p).toNat) 0 rfl ⟨by omega,by omega,by simp⟩ ?_
  rintro i ⟨h4,h5,h6⟩
  refine Zmy N list o d i _ _ ?_;(try simp only [vcT,forall_eq])
  (simp only [vcS]);(try simp only [vcT]);(try simp only [vcU])
  try (simp only [Tree.eta,Edit.eta,Tree.kind_mk,Tree.words_mk,Tree.kids_mk])
  refine ⟨fun hi=> ?_,fun hi=> ?_⟩
  ·have hmem:=Zp (l:=o.l) (i:=i.toNat) (by omega) Tree.nil
   have hrt:=Jp rl hmem
   have hmt:=YX hmem
   rw [Zal h4 hi]
   rw [Yn h4 hi Tree.nil] at h6
   simp only [Yw] at h6
   generalize o.l.getD i.toNat Tree.nil=t at*
   refine ⟨by unfold InR;omega,by omega,⟨by simp only [Zg,Za,List.length_nil];omega,⟨hil,fun x hx=> (by cases hx),hrt,trivial⟩,by dsimp only;omega,by dsimp only;omega⟩,fun hq=> Z2 rfl ?_,fun hq=> ⟨by unfold InR;omega,i+1,rfl,⟨by omega,by omega,?_⟩,by omega⟩⟩
   ·rw [hat,←h6,hq];try rfl
   ·rw [←h6,hq];try rfl
  ·have hw:Yw list o.l=true:=by
    rw [←h6,List.drop_of_length_le (by omega)];try rfl
   rw [hw,Bool.true_and] at hat
   refine ⟨fun _=> by simp only [Z4Q];omega,Z2 rfl ?_⟩
   rw [hat,Bool.eq_iff_iff]
   (simp only [vcS])
   simp only [Int.natCast_pos]
 ·rw [hat,if_neg h0,if_neg (by omega),if_neg h3]
  rcases hq with hq | hq
  ·have:¬(o.l.length=0∧o.e.kind≠0∧7 < list):=by omega
   rw [decide_eq_false this];try rfl
  ·rw [hq];simp
 ·rw [hat,if_neg h0,if_neg (by omega),if_neg h3,hq.2]
  have:o.l.length=0∧o.e.kind≠0∧7 < list:=by omega
  rw [decide_eq_true this,Bool.eq_iff_iff]
  (simp only [vcS])
  simp only [true_and,Bool.and_true,decide_eq_true_eq,and_assoc,or_assoc]
theorem ZqK:Contract Try.prog cfg 23 Z8V∧Contract Try.prog cfg 64 Zjv:=Zik c62 c63 Zr6 c37 c65 b23 b64
theorem ZaY(e:Edit):Jv e=(decide (JG e.ops 0≤2000∧JF e.ops 0≤2000) && Z0x e.kids && Z1D e.ops):=by
 obtain ⟨k,o,nw,w,ks,l,os⟩:=e;rfl
theorem Z7Q(k:Kid):Zdy k=Jv k.e:=by cases k;rfl
theorem Z9N(o:Op):ZgG o=Jv o.e:=by cases o;rfl
theorem Z1X{e:Edit}{d:Int}(h:Z3 e d=true):(∀ k∈e.kids,Z3 k.e (d - 1)=true∧k.e.kind≠0)∧∀ o∈e.ops,Zd e.list o (d - 1)=true:=by
 rw [Z1Y] at h
 split at h
 ·cases h
 ·split at h
  ·cases h
  ·rename_i h1 h2
   split at h
   ·rename_i h3
    have hk:e.kids=[]:=List.eq_nil_of_length_eq_zero (by omega)
    have ho:e.ops=[]:=List.eq_nil_of_length_eq_zero (by omega)
    rw [hk,ho]
    exact ⟨fun k hk=> (by cases hk),fun o ho=> (by cases ho)⟩
   ·simp only [Bool.and_eq_true] at h
    exact ⟨fun k hk=> Z7q h.1.1.1.2 hk,fun o ho=> rightOs_mem h.1.2 ho⟩
theorem ZcH{e:Edit}(h:JH e=true):e.kind=0∧ZH e.old=true∧ZH e.new=true∧e.words=[]∧e.kids=[]∧e.ops=[]∧e.list=0:=by
 simp only [JH,Bool.and_eq_true,decide_eq_true_eq] at h
 obtain ⟨⟨⟨h1,h2⟩,h3⟩,h4,h5,h6,h7⟩:=h
 exact ⟨h1,h2,h3,List.eq_nil_of_length_eq_zero h4,List.eq_nil_of_length_eq_zero h5,List.eq_nil_of_length_eq_zero h6,h7⟩
theorem Z1u{e:Edit}(h:JH e=true)(d:Int)(hd:d≠0):Z3 e d=true:=by
 obtain ⟨h1,h2,h3,h4,h5,h6,h7⟩:=ZcH h
 rw [Z1Y,h1,h2,h3,h4,h5,h6,h7,if_neg (by omega),if_neg (by simp),if_neg (by omega)]
 simp [Zs,Zv,Zx,JG,JF]
theorem Zag{list:Int}{o:Op}{d:Int}(h:Zd list o d=true):∃ d',Z3 o.e d'=true:=by
 rw [YM] at h
 split at h
 ·simp only [Bool.and_eq_true] at h
  exact ⟨1,Z1u h.2 1 (by omega)⟩
 ·split at h
  ·cases h
  ·split at h
   ·simp only [Bool.and_eq_true] at h
    exact ⟨1,Z1u h.2 1 (by omega)⟩
   ·simp only [Bool.and_eq_true] at h
    exact ⟨d,h.1.2⟩
theorem c55:Contract Try.prog cfg 55 Z8N:=by
 refine Zq7 c65 ?_
 intro N e _ hp hN
 simp only [Z9g,Zdp] at hp hN
 obtain ⟨⟨hm,hr⟩,dd,hrt⟩:=hp
 obtain ⟨ik,ro,rn,rw',il,rk,ros⟩:=Z0u hr
 have hme:=Y5 e
 have hkl:=Yg e.kids
 have hol:=Yq e.ops
 have hat:=ZaY e
 obtain ⟨hrk,hro⟩:=Z1X hrt
 refine ZtS N e _ ?_;(try simp only [vcT,forall_eq])
 (simp only [vcS]);(try simp only [vcT]);(try simp only [vcU])
 try (simp only [Tree.eta,Edit.eta,Tree.kind_mk,Tree.words_mk,Tree.kids_mk])
 refine ⟨⟨hm,fun o ho=> Z3R (hro o ho)⟩,fun hq=> Z2 rfl (by rw [hat,decide_eq_false (by omega)];rfl),fun hq=> ?_⟩
 rw [decide_eq_true (by omega),Bool.true_and] at hat
 refine Zc (ι:=Int) (fun p=> Z69 e p) (fun p=> 0≤p∧p≤e.kids.length∧Z0x (e.kids.drop p.toNat)=Z0x e.kids) (fun p=> ((e.kids.length:Int) - p).toNat) 0 rfl ⟨by omega,by omega,by simp⟩ ?_
 rintro i ⟨h4,h5,h6⟩
 refine ZmB N e i _ _ ?_;(try simp only [vcT,forall_eq])
 (simp only [vcS]);(try simp only [vcT]);(try simp only [vcU])
 try (simp only [Tree.eta,Edit.eta,Tree.kind_mk,Tree.words_mk,Tree.kids_mk])
 refine ⟨fun hi=> ?_,fun hi=> ?_⟩
 ·have hmem:=Zp (l:=e.kids) (i:=i.toNat) (by omega) (KidOf.mk 0 Edit.nil)
  have hrr:=Z0I rk hmem
  have hmm:=Jg hmem
  have hri:=hrk _ hmem
  rw [Yn h4 hi (KidOf.mk 0 Edit.nil)] at h6
  simp only [Z0x,Z7Q] at h6
  generalize e.kids.getD i.toNat (KidOf.mk 0 Edit.nil)=k at*
  refine ⟨⟨h4,hi⟩,⟨⟨by dsimp only;omega,hrr.2⟩,_,hri.1⟩,by simp only [Zdp];omega,fun hq=> Z2 rfl (by rw [hat,←h6,hq];rfl),fun hq=> ⟨by unfold InR;omega,i+1,rfl,⟨by omega,by omega,by rw [←h6,hq];rfl⟩,by omega⟩⟩
 ·have hw:Z0x e.kids=true:=by
   rw [←h6,List.drop_of_length_le (by omega)];try rfl
  rw [hw,Bool.true_and] at hat
  refine Zc (ι:=Int) (fun p=> Z68 e p) (fun p=> 0≤p∧p≤e.ops.length∧Z1D (e.ops.drop p.toNat)=Z1D e.ops) (fun p=> ((e.ops.length:Int) - p).toNat) 0 rfl ⟨by omega,by omega,by simp⟩ ?_
  rintro j ⟨g4,g5,g6⟩
  refine ZmA N e j _ _ ?_;(try simp only [vcT,forall_eq])
  (simp only [vcS]);(try simp only [vcT]);(try simp only [vcU])
  try (simp only [Tree.eta,Edit.eta,Tree.kind_mk,Tree.words_mk,Tree.kids_mk])
  refine ⟨fun hi=> ?_,fun hi=> ?_⟩
  ·have hmem:=Zp (l:=e.ops) (i:=j.toNat) (by omega) Op.nil
   have hrr:=Z8f (Z0H ros hmem)
   have hmm:=Yy hmem
   have hri:=Zag (hro _ hmem)
   rw [YC] at hmm
   rw [Yn g4 hi Op.nil] at g6
   simp only [Z1D,Z9N] at g6
   generalize e.ops.getD j.toNat Op.nil=o at*
   refine ⟨⟨g4,hi⟩,⟨⟨by dsimp only;omega,hrr.2.2.2⟩,hri⟩,by simp only [Zdp];omega,fun hq=> Z2 rfl (by rw [hat,←g6,hq];rfl),fun hq=> ⟨by unfold InR;omega,j+1,rfl,⟨by omega,by omega,by rw [←g6,hq];rfl⟩,by omega⟩⟩
  ·refine Z2 rfl ?_
   rw [hat,←g6,List.drop_of_length_le (by omega)];try rfl
theorem c15:Contract Try.prog cfg 15 Z8Y:=by
 refine Zqj c54 ZqK.1 c55 ?_
 intro e _ hp
 simp only [Zgk] at hp
 refine Zu5 e _ ?_;(try simp only [vcT,forall_eq])
 try (simp only [Tree.eta,Edit.eta,Tree.kind_mk,Tree.words_mk,Tree.kids_mk])
 refine ⟨hp.1,fun hf=> ?_,fun hf=> ?_,Z2 rfl ?_⟩
 ·have:=Z7a (by simpa using hf)
  exact ⟨⟨by dsimp only;omega,hp.2⟩,by dsimp only;omega,by dsimp only;omega⟩
 ·simp only [Zfl,decide_eq_true_eq] at hf
  have:=Z7a hf.1
  exact ⟨⟨by dsimp only;omega,hp.2⟩,64,hf.2⟩
 ·show _=Jz e
  simp only [Jz]
  rw [Bool.eq_iff_iff]
  (simp only [vcS])
end Go.AM.Ytpjenobkibfpcaa
namespace Go.AM
noncomputable def eqX{α:Type}(a b:α):Bool:=@decide (a=b) (Classical.propDecidable _)
theorem Z6i{α:Type}{a b:α}:eqX a b=true↔a=b:=by unfold eqX;exact @decide_eq_true_iff _ (Classical.propDecidable _)
@[simp] theorem ZsV {α:Type} (a:α):eqX a a=true:=Z6i.2 rfl
def Z4i(o:Op):Prop:=
 (o.kind=0∧o.l=[]∧(1≤o.n∧o.n≤1048576)∧o.e=Edit.nil)∨((o.kind=1∨o.kind=2)∧o.n=0∧o.l≠[]∧o.e=Edit.nil)∨(o.kind=3∧o.n=0∧o.l=[])
def Zu8(l:List Op):Prop:=(∀ o∈l,Z4i o)∧Zf l≤20000000000
def Z1Q:List Op→Int
 | []=> 0
 | o ::r=> Zn o+Z1Q r
end Go.AM
namespace Go.AM.Ytpjenobkibfpcaa
open Go.AM Go.Proofs
theorem JS:Ze Edit.nil=3:=by simp [Edit.nil,Ze,ZK,Zf,Tree.nil,Zg,Za]
theorem ZpF{o:Op}(h:Z4i o):0≤o.n∧o.n≤1048576:=by
 unfold Z4i at h
 omega
theorem Z5w(o:Op):Zn o=if o.kind=3 then 1 else o.n+o.l.length:=rfl
theorem Z2G(n:Nat):∀ (l:List Tree),Za (l.drop n)≤Za l:=by
 induction n with
 | zero=> intro l;simp
 | succ n ih=>
  intro l
  cases l with
  | nil=> simp
  | cons t r=> simp only [List.drop_succ_cons,Za];have:=ih r;omega
theorem ZeM(n:Nat):∀ (l:List Tree),Za (l.take n)≤Za l:=by
 induction n with
 | zero=> intro l;simp [Za]
 | succ n ih=>
  intro l
  cases l with
  | nil=> simp
  | cons t r=> simp only [List.take_succ_cons,Za];have:=ih r;omega
theorem Z6K{o:Op}(h:Z4i o):1≤Zn o:=by
 have:=Z5w o
 unfold Z4i at h
 have hl:o.l≠[]→0 < o.l.length:=List.length_pos_iff.2
 rcases h with ⟨h1,h2,h3,h4⟩ | ⟨h1,h2,h3,h4⟩ | ⟨h1,h2,h3⟩
 ·rw [h2] at this;simp at this;split at this <;> omega
 ·have:=hl h3;split at* <;> omega
 ·rw [if_pos h1] at this;omega
end Go.AM.Ytpjenobkibfpcaa
namespace Go.AM.Ytpjenobkibfpcaa
open Go.AM Go.Proofs
theorem Zlm{α:Type}{a b:α}(h:¬a=b):eqX a b=false:=by rw [←Bool.not_eq_true,Z6i];exact h
end Go.AM.Ytpjenobkibfpcaa
namespace Go.AM.Ytpjenobkibfpcaa
open Go.AM Go.Proofs
theorem Zdk{t:Tree}(h:ZH t=true):t=Tree.nil:=by
 obtain ⟨k,w,ks⟩:=t
 have:=of_decide_eq_true h
 simp at this
 obtain ⟨rfl,rfl,rfl⟩:=this
 try rfl
theorem Zau{e:Edit}(h:JH e=true):e=Edit.nil:=by
 obtain ⟨h1,h2,h3,h4,h5,h6,h7⟩:=ZcH h
 obtain ⟨k,o,n,w,ks,l,os⟩:=e
 simp at h1 h2 h3 h4 h5 h6 h7
 subst h1 h4 h5 h6 h7
 rw [Zdk h2,Zdk h3]
 try rfl
theorem Zer{list:Int}{o:Op}{d:Int}(h:Zd list o d=true):Z4i o:=by
 rw [YM] at h
 unfold Z4i
 split at h
 ·rename_i h0
  simp only [Bool.and_eq_true,decide_eq_true_eq] at h
  exact Or.inl ⟨h0,List.length_eq_zero_iff.1 h.1.2.2,⟨h.1.1,h.1.2.1⟩,Zau h.2⟩
 ·split at h
  ·cases h
  ·rename_i h0 h1
   split at h
   ·simp only [Bool.and_eq_true,decide_eq_true_eq] at h
    refine Or.inr (Or.inl ⟨by omega,by omega,?_,Zau h.2⟩)
    exact List.length_pos_iff.1 h.1.2
   ·simp only [Bool.and_eq_true,decide_eq_true_eq] at h
    exact Or.inr (Or.inr ⟨by omega,by omega,List.length_eq_zero_iff.1 h.1.1.1⟩)
end Go.AM.Ytpjenobkibfpcaa
namespace Go.AM
def Z4w(list:Int)(e:Edit):Bool:=decide (e.kind=0∨(list=9∧e.kind=2∧e.words.length=0∧e.kids.length=0))
def Z8(l:List Tree):List Tree:=l.map Z5
end Go.AM
