import Derived.Test.YtpjenobkibfpcaaKD20
import Derived.Test.YtpjenobkibfpcaaKRB07
import Derived.Test.YtpjenobkibfpcaaCmZ
set_option linter.unusedSimpArgs false
set_option linter.unusedVariables false
namespace Go.AM.Ytpjenobkibfpcaa
open Go.AM Go.Proofs
noncomputable section
def Zos:ArgL (Int × Unit):=(.cons (Jv .u64) .nil)
def Zf9(a:Int × Unit):Prop:=0<=a.1/\a.1 < 18446744073709551616
def Zm8(a:Int × Unit):V U:= .agg [.int .u8 (Zc a.1 0),.int .u8 (Zc a.1 1),.int .u8 (Zc a.1 2),.int .u8 (Zc a.1 3),.int .u8 (Zc a.1 4),.int .u8 (Zc a.1 5),.int .u8 (Zc a.1 6),.int .u8 (Zc a.1 7)]
def Za4:Fs U:=fs Zos (fun a=> [Zf9 a]) Zm8
def Zor:ArgL (Int × Int × Unit):=(.cons (Jv .u8) (.cons (Jv .i64) .nil))
def Zik(a:Int × Int × Unit):Prop:=(0<=a.1/\a.1 < 256)/\0<=a.2.1/\a.2.1<=8
def ZrN(a:Int × Int × Unit):V U:= .c (.bool (Z2e a.1 a.2.1))
def Za3:Fs U:=fs Zor (fun a=> [Zik a]) ZrN
def Zoq:ArgL (List Int × Int × Unit):=(.cons (aSl .u8) (.cons (Jv .i64) .nil))
def ZmC(a:List Int × Int × Unit):Prop:=a.2.1=0/\a.1.length=8/\∀ x∈a.1,0<=x/\x < 256
def ZrM(a:List Int × Int × Unit):V U:= .c (.int .u64 (of8 (fun i=> a.1.getD i 0)))
def Za2:Fs U:=fs Zoq (fun a=> [ZmC a]) ZrM
def ZjS:ArgL (Int × Int × Int × Unit):=(.cons (Jv .u64) (.cons (Jv .u64) (.cons (Jv .u8) .nil)))
def ZdE(a:Int × Int × Int × Unit):Prop:=(0<=a.1/\a.1 < 18446744073709551616)/\(0<=a.2.1/\a.2.1 < 18446744073709551616)/\(0<=a.2.2.1/\a.2.2.1 < 256)
def Zmq(a:Int × Int × Int × Unit):V U:= .c (.int .u64 (mix a.1 a.2.1 a.2.2.1))
def Z5K:Fs U:=fs ZjS (fun a=> [ZdE a]) Zmq
def Z3p(a:Tree × Unit):Prop:=Zj a.1<=20000000000
def ZrQ(a:Tree × Unit):V U:= .c (.bool (YW a.1))
def Z2D:Fs U:=fs ZhA (fun a=> [Z3p a]) ZrQ
def Zov:ArgL (Int × Int × Unit):=(.cons (Jv .u64) (.cons (Jv .u8) .nil))
def Zil(a:Int × Int × Unit):Prop:=(0<=a.1/\a.1 < 18446744073709551616)/\(0<=a.2.1/\a.2.1 < 256)
def ZrP(a:Int × Int × Unit):V U:= .c (.bool (Yj a.1 a.2.1))
def Z7a:Fs U:=fs Zov (fun a=> [Zil a]) ZrP
def ZjR:ArgL (Edit × Unit):=(.cons (aEl .edit) .nil)
def Z58(a:Edit × Unit):Prop:=Z5 a.1<=20000000000
def Zmp(a:Edit × Unit):V U:= .c (.bool (Z0A a.1))
def Z3Z:Fs U:=fs ZjR (fun a=> [Z58 a]) Zmp
def Zfa(a:Edit × Unit):Prop:=Z5 a.1<=20000000000/\∀ o∈Edit.ops a.1,0<=o.n/\o.n<=1048576
def Zm9(a:Edit × Unit):V U:= .tup [(false,[ci (Z0O a.1.ops 0)]),(false,[ci (Z0N a.1.ops 0)])]
def Z2C:Fs U:=fs ZjR (fun a=> [Zfa a]) Zm9
def Zhy:ArgL (Edit × Int × Int × Unit):=(.cons (aEl .edit) (.cons (Jv .i64) (.cons (Jv .i64) .nil)))
def Zax(a:Edit × Int × Int × Unit):Prop:=Z17 a.1/\0<=a.2.1/\a.2.1<=4611686018427387904/\-1<=a.2.2.1/\a.2.2.1<=4611686018427387904
def Zfw(a:Edit × Int × Int × Unit):Nat:=Z5 a.1
def Zi7(a:Edit × Int × Int × Unit):V U:= .c (ci (JX a.1 a.2.1 a.2.2.1))
def Z9Y:Fs U:=fs Zhy (fun a=> [Zax a]) Zi7
def ZmD(a:Edit × Unit):Prop:=Z17 a.1
def ZrS(a:Edit × Unit):V U:= .c (.bool (decide (0<=JX a.1 80 3000)))
def Za8:Fs U:=fs ZjR (fun a=> [ZmD a]) ZrS
def Zqt:Ze U:=lvl [([0,2],[2]),([0,2,3],[2,3]),([0,2,3,4],[2,3]),([0,2,3,4,7],[2,3]),([0,2,3,4],[2,3]),([0,2,3,4],[2,3]),([0,2,3,4],[2,3]),([2],[2])]
def Z3M(w x0 x4 ml3_0 ml3_1 ml3_2 ml3_3 ml3_4 ml3_5 ml3_6 ml3_7:Int):LSt U:=(L2 [(0,.c (.int .u64 x0)),pL 2,pL 3,pI 4 x4] [(.loc 2,zc0),(.loc 3,[.int .u8 ml3_0,.int .u8 ml3_1,.int .u8 ml3_2,.int .u8 ml3_3,.int .u8 ml3_4,.int .u8 ml3_5,.int .u8 ml3_6,.int .u8 ml3_7])])
abbrev A67(p:List Nat):=AW (Z2 Zhc) Try.f67 Zqt p
abbrev S67(p:List Nat):=SW (Z2 Zhc) Try.f67 Zqt p
theorem ZwW(w:Int)(Q:QT)(h:(Zm (A67 [1,1,0,1,0,0]) (Z3M w w 0 0 0 0 0 0 0 0 0) (xB 0 (S67 [1,1,1] Q)))):
  A67 [] (L2 [(0,.c (.int .u64 w))] []) Q:=
 Eq.mpr (by kernel_rfl) h
theorem Zp6(w x0 x4 ml3_0 ml3_1 ml3_2 ml3_3 ml3_4 ml3_5 ml3_6 ml3_7:Int)(N0:NT)(Q:QT)(h:let z0:=IntKind.wrap .u8 (Int.tmod x0 256);(((decide (x4 < 8))=true->((256:Int)≠0)/\((0:Int)<=x4/\x4 < ((8:Nat):Int))/\(((256:Int)≠0)/\((InR (x4+1))/\(N0 (Z3M w (IntKind.wrap .u64 (Int.tdiv x0 256)) (x4+1) (Z0u x4 0 z0 ml3_0) (Z0u x4 1 z0 ml3_1) (Z0u x4 2 z0 ml3_2) (Z0u x4 3 z0 ml3_3) (Z0u x4 4 z0 ml3_4) (Z0u x4 5 z0 ml3_5) (Z0u x4 6 z0 ml3_6) (Z0u x4 7 z0 ml3_7))))))/\((decide (x4 < 8))=false->(Q .ret (L2 [pL 2] [(.loc 2,[.int .u8 ml3_0,.int .u8 ml3_1,.int .u8 ml3_2,.int .u8 ml3_3,.int .u8 ml3_4,.int .u8 ml3_5,.int .u8 ml3_6,.int .u8 ml3_7])]))))):
  A67 [1,1,0,1,0,0] (Z3M w x0 x4 ml3_0 ml3_1 ml3_2 ml3_3 ml3_4 ml3_5 ml3_6 ml3_7) (xT N0 (xB 0 (S67 [1,1,1] Q))):=
 Eq.mpr (by kernel_rfl) h
def ZuG(w:Int):Prop:=AW (Z2 Zhc) Try.f67 Zqt [] (Zk (Zos.can (w,())) []) (EQ Try.f67 (Zm8 (w,())) [])
theorem Ztb(hb:∀ (w:Int) (_:Unit),Zf9 (w,())->ZuG w):CT 67 Za4:=
 Z3 (l:=[]) Zl rfl trivial Zqt Try.func67 rfl rfl 1 (fun _=> rfl) (by decide) (fun ⟨w,_⟩=> hb w ())
def Zqs:Ze U:=lvl [([0,1],[]),([0,1,5],[]),([0,1,5,8],[]),([0,1,5],[]),([0,1,5],[]),([4],[])]
def Z6z(m i x0 x5:Int):LSt U:=(L2 [(0,.c (.int .u8 x0)),pI 1 i,pI 5 x5] [])
abbrev A68(p:List Nat):=AW (Z2 Zhc) Try.f68 Zqs p
abbrev S68(p:List Nat):=SW (Z2 Zhc) Try.f68 Zqs p
theorem ZwV(m i:Int)(Q:QT)(h:(Zm (A68 [1,0,1,0,0]) (Z6z m i m 0) (xB 0 (S68 [1,1] Q)))):
  A68 [] (L2 [(0,.c (.int .u8 m)),pI 1 i] []) Q:=
 Eq.mpr (by kernel_rfl) h
theorem Zp5(m i x0 x5:Int)(N0:NT)(Q:QT)(h:(((decide (x5 < i))=true->((2:Int)≠0)/\((InR (x5+1))/\(N0 (Z6z m i (IntKind.wrap .u8 (Int.tdiv x0 2)) (x5+1)))))/\((decide (x5 < i))=false->((2:Int)≠0)/\(Q .ret (L2 [pB 4 (((Int.tmod x0 2):Int)==1)] []))))):
  A68 [1,0,1,0,0] (Z6z m i x0 x5) (xT N0 (xB 0 (S68 [1,1] Q))):=
 Eq.mpr (by kernel_rfl) h
def ZuF(m i:Int):Prop:=AW (Z2 Zhc) Try.f68 Zqs [] (Zk (Zor.can (m,i,())) []) (EQ Try.f68 (ZrN (m,i,())) [])
theorem Zta(hb:∀ (m:Int) (i:Int) (_:Unit),Zik (m,i,())->ZuF m i):CT 68 Za3:=
 Z3 (l:=[]) Zl rfl trivial Zqs Try.func68 rfl rfl 2 (fun _=> rfl) (by decide) (fun ⟨m,i,_⟩=> hb m i ())
def Zqr:Ze U:=lvl [([0,1],[]),([0,1,5],[]),([0,1,5,6],[]),([0,1,5,6,8],[]),([0,1,5,6],[]),([0,1,5,6],[]),([4],[])]
def Z6y(b:List Int)(from_ x5 x6:Int):LSt U:=(L2 [(0,.c (sU .u8 b .unk)),pI 1 from_,(5,.c (.int .u64 x5)),pI 6 x6] [])
abbrev A69(p:List Nat):=AW (Z2 Zhc) Try.f69 Zqr p
abbrev S69(p:List Nat):=SW (Z2 Zhc) Try.f69 Zqr p
theorem ZwU(b:List Int)(from_:Int)(Q:QT)(h:(Zm (A69 [1,1,0,1,0,0]) (Z6y b from_ 0 7) (xB 0 (S69 [1,1,1] Q)))):
  A69 [] (L2 [(0,.c (sU .u8 b .unk)),pI 1 from_] []) Q:=
 Eq.mpr (by kernel_rfl) h
theorem Zp4(b:List Int)(from_ x5 x6:Int)(N0:NT)(Q:QT)(h:(((decide ((0:Int)<=x6))=true->(InR (from_+x6))/\((0:Int)<=(from_+x6)/\(from_+x6) < (b.length:Int))/\((InR (x6 - 1))/\(N0 (Z6y b from_ (IntKind.wrap .u64 (((IntKind.wrap .u64 (x5*256)):Int)+(IntKind.wrap .u64 (List.getD b (Int.toNat (from_+x6)) (0:Int))))) (x6 - 1)))))/\((decide ((0:Int)<=x6))=false->(Q .ret (L2 [(4,.c (.int .u64 x5))] []))))):
  A69 [1,1,0,1,0,0] (Z6y b from_ x5 x6) (xT N0 (xB 0 (S69 [1,1,1] Q))):=
 Eq.mpr (by kernel_rfl) h
def ZuE(b:List Int)(from_:Int):Prop:=AW (Z2 Zhc) Try.f69 Zqr [] (Zk (Zoq.can (b,from_,())) []) (EQ Try.f69 (ZrM (b,from_,())) [])
theorem Zt9(hb:∀ (b:List Int) (from_:Int) (_:Unit),ZmC (b,from_,())->ZuE b from_):CT 69 Za2:=
 Z3 (l:=[]) Zl rfl trivial Zqr Try.func69 rfl rfl 2 (fun _=> rfl) (by decide) (fun ⟨b,from_,_⟩=> hb b from_ ())
def Ze5:List (FuncId × Fs U):=[(67,Za4),(68,Za3),(69,Za2)]
def ZiM:Ze U:=lvl [([0,1,2],[]),([2,7,8],[7,8]),([2,7,8,9],[7,8]),([2,7,8,9,15],[7,8]),([2,7,8,9],[7,8]),([2,7,8,9,20],[7,8]),([2,7,8,9],[7,8]),([6],[])]
def Z16(a b m x9 ml7_0 ml7_1 ml7_2 ml7_3 ml7_4 ml7_5 ml7_6 ml7_7:Int):LSt U:=(L2 [(2,.c (.int .u8 m)),pL 7,pL 8,pI 9 x9] [(.loc 7,[.int .u8 ml7_0,.int .u8 ml7_1,.int .u8 ml7_2,.int .u8 ml7_3,.int .u8 ml7_4,.int .u8 ml7_5,.int .u8 ml7_6,.int .u8 ml7_7]),(.loc 8,[.int .u8 (Zc b 0),.int .u8 (Zc b 1),.int .u8 (Zc b 2),.int .u8 (Zc b 3),.int .u8 (Zc b 4),.int .u8 (Zc b 5),.int .u8 (Zc b 6),.int .u8 (Zc b 7)])])
abbrev Zv6(p:List Nat):=AW (Z2 Ze5) Try.f103 ZiM p
abbrev ZwC(p:List Nat):=SW (Z2 Ze5) Try.f103 ZiM p
theorem ZvT(a b m:Int)(Q:QT)(h:((Zf9 (a,()))/\(Zf9 (b,()))/\(Zm (Zv6 [1,1,0,1,0,0]) (Z16 a b m 0 (Zc a 0) (Zc a 1) (Zc a 2) (Zc a 3) (Zc a 4) (Zc a 5) (Zc a 6) (Zc a 7)) (xB 0 (ZwC [1,1,1] Q))))):
  Zv6 [] (L2 [(0,.c (.int .u64 a)),(1,.c (.int .u64 b)),(2,.c (.int .u8 m))] []) Q:=
 Eq.mpr (by kernel_rfl) h
theorem ZlT(a b m x9 ml7_0 ml7_1 ml7_2 ml7_3 ml7_4 ml7_5 ml7_6 ml7_7:Int)(N0:NT)(Q:QT)(h:let z0:=List.getD [Zc b 0,Zc b 1,Zc b 2,Zc b 3,Zc b 4,Zc b 5,Zc b 6,Zc b 7] x9.toNat 0;(((decide (x9 < 8))=true->(Zik (m,x9,()))/\(((Z2e m x9)=true->((0:Int)<=x9/\x9 < ((8:Nat):Int))/\((0:Int)<=x9/\x9 < ((8:Nat):Int))/\((InR (x9+1))/\(N0 (Z16 a b m (x9+1) (Z0u x9 0 z0 ml7_0) (Z0u x9 1 z0 ml7_1) (Z0u x9 2 z0 ml7_2) (Z0u x9 3 z0 ml7_3) (Z0u x9 4 z0 ml7_4) (Z0u x9 5 z0 ml7_5) (Z0u x9 6 z0 ml7_6) (Z0u x9 7 z0 ml7_7)))))/\((Z2e m x9)=false->(InR (x9+1))/\(N0 (Z16 a b m (x9+1) ml7_0 ml7_1 ml7_2 ml7_3 ml7_4 ml7_5 ml7_6 ml7_7)))))/\((decide (x9 < 8))=false->(ZmC (([ml7_0,ml7_1,ml7_2,ml7_3,ml7_4,ml7_5,ml7_6,ml7_7]),0,()))/\(Q .ret (L2 [(6,.c (.int .u64 (of8 (fun i=> ([ml7_0,ml7_1,ml7_2,ml7_3,ml7_4,ml7_5,ml7_6,ml7_7]).getD i 0))))] []))))):
  Zv6 [1,1,0,1,0,0] (Z16 a b m x9 ml7_0 ml7_1 ml7_2 ml7_3 ml7_4 ml7_5 ml7_6 ml7_7) (xT N0 (xB 0 (ZwC [1,1,1] Q))):=
 Eq.mpr (by kernel_rfl) h
def ZrG(a b m:Int):Prop:=AW (Z2 Ze5) Try.f103 ZiM [] (Zk (ZjS.can (a,b,m,())) []) (EQ Try.f103 (Zmq (a,b,m,())) [])
theorem Zql(c67:CT 67 Za4)(c68:CT 68 Za3)(c69:CT 69 Za2)(hb:∀ (a:Int) (b:Int) (m:Int) (_:Unit),ZdE (a,b,m,())->ZrG a b m):CT 103 Z5K:=
 Z3 (l:=[(67,Za4),(68,Za3),(69,Za2)]) Zl rfl (⟨c67,c68,c69,trivial⟩) ZiM Try.func103 rfl rfl 3 (fun _=> rfl) (by decide) (fun ⟨a,b,m,_⟩=> hb a b m ())
def Ztv:Ze U:=lvl [([1],[1]),([2],[])]
abbrev A62(p:List Nat):=AW (Z2 Zhc) Try.f62 Ztv p
theorem Zx1(t:Tree)(Q:QT)(h:((Tr ((t.kind==0)=true))/\(Tr ((t.kind==0)=true))/\(Tr ((t.kind==0)=true))/\(Tr ((t.kind==0)=true))/\(Tr ((t.kind==0)=true))/\(Tr ((t.kind==0)=true))/\((t.kind==0)=true->InR (((t.words.length:Int):Int)+(t.kids.length:Int)))/\(Tr ((t.kind==0)=true))/\(Tr ((t.kind==0)=true))/\(Q .ret (L2 [(2,.c (.bool (bif (t.kind==0) then (((((t.words.length:Int):Int)+(t.kids.length:Int)):Int)==0) else false)))] [])))):
  A62 [] (L2 [(0,.agg (enc .tree t))] []) Q:=
 Eq.mpr (by kernel_rfl) h
def ZuL(t:Tree):Prop:=AW (Z2 Zhc) Try.f62 Ztv [] (Zk (ZhA.can (t,())) []) (EQ Try.f62 (ZrQ (t,())) [])
theorem Ztf(hb:∀ (t:Tree) (_:Unit),Z3p (t,())->ZuL t):CT 62 Z2D:=
 Z3 (l:=[]) Zl rfl trivial Ztv Try.func62 rfl rfl 1 (fun _=> rfl) (by decide) (fun ⟨t,_⟩=> hb t ())
def ZnS:List (FuncId × Fs U):=[(103,Z5K)]
def Ztu:Ze U:=lvl [([0,1],[]),([4],[])]
abbrev A63(p:List Nat):=AW (Z2 ZnS) Try.f63 Ztu p
theorem Zx0(w m:Int)(Q:QT)(h:((ZdE (w,0,m,()))/\(Q .ret (L2 [pB 4 (((mix w 0 m):Int)==0)] [])))):
  A63 [] (L2 [(0,.c (.int .u64 w)),(1,.c (.int .u8 m))] []) Q:=
 Eq.mpr (by kernel_rfl) h
def ZuK(w m:Int):Prop:=AW (Z2 ZnS) Try.f63 Ztu [] (Zk (Zov.can (w,m,())) []) (EQ Try.f63 (ZrP (w,m,())) [])
theorem Zte(Zuf:CT 103 Z5K)(hb:∀ (w:Int) (m:Int) (_:Unit),Zil (w,m,())->ZuK w m):CT 63 Z7a:=
 Z3 (l:=[(103,Z5K)]) Zl rfl (⟨Zuf,trivial⟩) Ztu Try.func63 rfl rfl 2 (fun _=> rfl) (by decide) (fun ⟨w,m,_⟩=> hb w m ())
def Zjj:List (FuncId × Fs U):=[(62,Z2D)]
abbrev ZxL(p:List Nat):=AW (Z2 Zjj) Try.f104 Ztv p
theorem ZvS(e:Edit)(Q:QT)(h:∀ y_1,y_1=(e.new)->∀ y_2,y_2=(e.old)->let z2:=bif (e.kind==0) then (YW y_2) else false;let z0:=bif z2 then (YW y_1) else false;let z1:=bif z0 then (((((((e.words.length:Int):Int)+(e.kids.length:Int)):Int)+(e.ops.length:Int)):Int)==0) else false;((Tr ((e.kind==0)=true))/\(Tr ((e.kind==0)=true))/\((e.kind==0)=true->Z3p (y_2,()))/\(Tr ((e.kind==0)=true))/\(Tr (z2=true))/\(Tr (z2=true))/\(z2=true->Z3p (y_1,()))/\(Tr (z2=true))/\(Tr (z0=true))/\(Tr (z0=true))/\(Tr (z0=true))/\(Tr (z0=true))/\(Tr (z0=true))/\(Tr (z0=true))/\(z0=true->InR (((e.words.length:Int):Int)+(e.kids.length:Int)))/\(Tr (z0=true))/\(Tr (z0=true))/\(Tr (z0=true))/\(Tr (z0=true))/\(z0=true->InR (((((e.words.length:Int):Int)+(e.kids.length:Int)):Int)+(e.ops.length:Int)))/\(Tr (z0=true))/\(Tr (z0=true))/\(Tr (z1=true))/\(Tr (z1=true))/\(Tr (z1=true))/\(Q .ret (L2 [(2,.c (.bool (bif z1 then (e.list==0) else false)))] [])))):
  ZxL [] (L2 [(0,.agg (enc .edit e))] []) Q:=
 Eq.mpr (by kernel_rfl) (h _ (Zd _) _ (Zd _))
def ZrF(e:Edit):Prop:=AW (Z2 Zjj) Try.f104 Ztv [] (Zk (ZjR.can (e,())) []) (EQ Try.f104 (Zmp (e,())) [])
theorem Zqk(c62:CT 62 Z2D)(hb:∀ (e:Edit) (_:Unit),Z58 (e,())->ZrF e):CT 104 Z3Z:=
 Z3 (l:=[(62,Z2D)]) Zl rfl (⟨c62,trivial⟩) Ztv Try.func104 rfl rfl 1 (fun _=> rfl) (by decide) (fun ⟨e,_⟩=> hb e ())
def Zqu:Ze U:=lvl [([1],[1]),([1,4,5],[1]),([1,4,5,6],[1]),([1,4,5,6,13],[1]),([1,4,5,6],[1]),([1,4,5,6,7],[1,7]),([1,4,5,6,7,8],[1,7]),([1,4,5,6,7,8,29],[1,7]),([1,4,5,6,7,8,29],[1,7]),([1,4,5,6,7,8,32],[1,7]),([1,4,5,6,7,8,32],[1,7]),([1,4,5,6,8,38],[1]),([1,4,5,6,8,38],[1]),([1,4,5,6,43],[1]),([1,4,5,6,43],[1]),([1,4,5,6,45],[1]),([1,4,5,6],[1]),([2,3],[])]
def Z1p(e:Edit)(x4 x5 x6:Int):LSt U:=(L2 [pL 1,pI 4 x4,pI 5 x5,pI 6 x6] [(.loc 1,(enc .edit e))])
def Z6D(e:Edit)(x4 x5 x6 x8_a:Int):LSt U:=(L2 [pL 1,pI 4 x4,pI 5 x5,pI 6 x6,pL 7,pI 8 x8_a,(29,.c (.bool (((OpOf.kind (e.ops.getD x6.toNat Op.nil)):Int)==3)))] [(.loc 1,(enc .edit e)),(.loc 7,(enc .op (e.ops.getD x6.toNat Op.nil)))])
def Z6C(e:Edit)(x5 x6 x8_a x4_b:Int):LSt U:=(L2 [pL 1,pI 4 x4_b,pI 5 x5,pI 6 x6,pL 7,pI 8 x8_a,(32,.c (.bool (((OpOf.kind (e.ops.getD x6.toNat Op.nil)):Int) !=2)))] [(.loc 1,(enc .edit e)),(.loc 7,(enc .op (e.ops.getD x6.toNat Op.nil)))])
def Z6B(e:Edit)(x6 x8_a x4_b x5_c:Int):LSt U:=(L2 [pL 1,pI 4 x4_b,pI 5 x5_c,pI 6 x6,pI 8 x8_a,(38,.c (.bool (((OpOf.kind (e.ops.getD x6.toNat Op.nil)):Int) !=1)))] [(.loc 1,(enc .edit e))])
def Z6A(e:Edit)(x6 x4_b x5_c x4_d:Int):LSt U:=(L2 [pL 1,pI 4 x4_d,pI 5 x5_c,pI 6 x6,pB 43 (decide ((1048576:Int) < x4_b))] [(.loc 1,(enc .edit e))])
abbrev A65(p:List Nat):=AW (Z2 Zhc) Try.f65 Zqu p
abbrev S65(p:List Nat):=SW (Z2 Zhc) Try.f65 Zqu p
theorem ZwY(e:Edit)(Q:QT)(h:(Zm (A65 [1,1,0,1,0,0]) (Z1p e 0 0 0) (xB 0 (S65 [1,1,1] Q)))):
  A65 [] (L2 [(0,.agg (enc .edit e))] []) Q:=
 Eq.mpr (by kernel_rfl) h
abbrev Zuo(e:Edit)(x4 x5 x6:Int)(N0:NT)(Q:QT):Prop:=A65 [1,1,0,1,0,0] (Z1p e x4 x5 x6) (xT N0 (xB 0 (S65 [1,1,1] Q)))
theorem Zp7(e:Edit)(x4 x5 x6:Int)(N0:NT)(Q:QT)(h:let z2:=decide (x6 < (e.ops.length:Int));let z1:=xB 1 (S65 [1,1,0,1,0,0,1,1] (xT N0 (xB 0 (S65 [1,1,1] Q))));let z0:=e.ops.getD x6.toNat Op.nil;((z2=true->((0:Int)<=x6/\x6 < (e.ops.length:Int))/\((InR (((OpOf.n z0):Int)+((OpOf.l z0).length:Int)))/\(((((OpOf.kind z0):Int)==3)=true->(A65 [1,1,0,1,0,0,1,0,0,1,1,1] (Z6D e x4 x5 x6 1) z1))/\((((OpOf.kind z0):Int)==3)=false->A65 [1,1,0,1,0,0,1,0,0,1,1,1] (Z6D e x4 x5 x6 (((OpOf.n z0):Int)+((OpOf.l z0).length:Int))) z1))))/\(z2=false->(Q .ret (L2 [pI 2 x4,pI 3 x5] []))))):
  A65 [1,1,0,1,0,0] (Z1p e x4 x5 x6) (xT N0 (xB 0 (S65 [1,1,1] Q))):=
 Eq.mpr (by kernel_rfl) h
abbrev Zus(e:Edit)(x4 x5 x6 x8_a:Int)(N0:NT)(Q:QT):Prop:=A65 [1,1,0,1,0,0,1,0,0,1,1,1] (Z6D e x4 x5 x6 x8_a) (xB 1 (S65 [1,1,0,1,0,0,1,1] (xT N0 (xB 0 (S65 [1,1,1] Q)))))
theorem Zpb(e:Edit)(x4 x5 x6 x8_a:Int)(N0:NT)(Q:QT)(h:let z1:=((OpOf.kind (e.ops.getD x6.toNat Op.nil)):Int) !=2;let z0:=xB 1 (S65 [1,1,0,1,0,0,1,1] (xT N0 (xB 0 (S65 [1,1,1] Q))));((z1=true->(InR (x4+x8_a))/\(A65 [1,1,0,1,0,0,1,0,0,1,1,1,1] (Z6C e x5 x6 x8_a (x4+x8_a)) z0))/\(z1=false->A65 [1,1,0,1,0,0,1,0,0,1,1,1,1] (Z6C e x5 x6 x8_a x4) z0))):
  A65 [1,1,0,1,0,0,1,0,0,1,1,1] (Z6D e x4 x5 x6 x8_a) (xB 1 (S65 [1,1,0,1,0,0,1,1] (xT N0 (xB 0 (S65 [1,1,1] Q))))):=
 Eq.mpr (by kernel_rfl) h
abbrev Zur(e:Edit)(x5 x6 x8_a x4_b:Int)(N0:NT)(Q:QT):Prop:=A65 [1,1,0,1,0,0,1,0,0,1,1,1,1] (Z6C e x5 x6 x8_a x4_b) (xB 1 (S65 [1,1,0,1,0,0,1,1] (xT N0 (xB 0 (S65 [1,1,1] Q)))))
theorem Zpa(e:Edit)(x5 x6 x8_a x4_b:Int)(N0:NT)(Q:QT)(h:let z1:=((OpOf.kind (e.ops.getD x6.toNat Op.nil)):Int) !=1;let z0:=xB 1 (S65 [1,1,0,1,0,0,1,1] (xT N0 (xB 0 (S65 [1,1,1] Q))));((z1=true->(InR (x5+x8_a))/\(A65 [1,1,0,1,0,0,1,0,0,1,1,1,1,1] (Z6B e x6 x8_a x4_b (x5+x8_a)) z0))/\(z1=false->A65 [1,1,0,1,0,0,1,0,0,1,1,1,1,1] (Z6B e x6 x8_a x4_b x5) z0))):
  A65 [1,1,0,1,0,0,1,0,0,1,1,1,1] (Z6C e x5 x6 x8_a x4_b) (xB 1 (S65 [1,1,0,1,0,0,1,1] (xT N0 (xB 0 (S65 [1,1,1] Q))))):=
 Eq.mpr (by kernel_rfl) h
abbrev Zuq(e:Edit)(x6 x8_a x4_b x5_c:Int)(N0:NT)(Q:QT):Prop:=A65 [1,1,0,1,0,0,1,0,0,1,1,1,1,1] (Z6B e x6 x8_a x4_b x5_c) (xB 1 (S65 [1,1,0,1,0,0,1,1] (xT N0 (xB 0 (S65 [1,1,1] Q)))))
theorem Zp9(e:Edit)(x6 x8_a x4_b x5_c:Int)(N0:NT)(Q:QT)(h:let z1:=decide ((1048576:Int) < x4_b);let z0:=xB 1 (S65 [1,1,0,1,0,0,1,1] (xT N0 (xB 0 (S65 [1,1,1] Q))));((z1=true->(A65 [1,1,0,1,0,0,1,0,0,1,1,1,1,1,1] (Z6A e x6 x4_b x5_c 1048576) z0))/\(z1=false->A65 [1,1,0,1,0,0,1,0,0,1,1,1,1,1,1] (Z6A e x6 x4_b x5_c x4_b) z0))):
  A65 [1,1,0,1,0,0,1,0,0,1,1,1,1,1] (Z6B e x6 x8_a x4_b x5_c) (xB 1 (S65 [1,1,0,1,0,0,1,1] (xT N0 (xB 0 (S65 [1,1,1] Q))))):=
 Eq.mpr (by kernel_rfl) h
abbrev Zup(e:Edit)(x6 x4_b x5_c x4_d:Int)(N0:NT)(Q:QT):Prop:=A65 [1,1,0,1,0,0,1,0,0,1,1,1,1,1,1] (Z6A e x6 x4_b x5_c x4_d) (xB 1 (S65 [1,1,0,1,0,0,1,1] (xT N0 (xB 0 (S65 [1,1,1] Q)))))
theorem Zp8(e:Edit)(x6 x4_b x5_c x4_d:Int)(N0:NT)(Q:QT)(h:let z0:=decide ((1048576:Int) < x5_c);((z0=true->((InR (x6+1))/\(N0 (Z1p e x4_d 1048576 (x6+1)))))/\(z0=false->(InR (x6+1))/\(N0 (Z1p e x4_d x5_c (x6+1)))))):
  A65 [1,1,0,1,0,0,1,0,0,1,1,1,1,1,1] (Z6A e x6 x4_b x5_c x4_d) (xB 1 (S65 [1,1,0,1,0,0,1,1] (xT N0 (xB 0 (S65 [1,1,1] Q))))):=
 Eq.mpr (by kernel_rfl) h
def ZuI(e:Edit):Prop:=AW (Z2 Zhc) Try.f65 Zqu [] (Zk (ZjR.can (e,())) []) (EQ Try.f65 (Zm9 (e,())) [])
theorem Ztd(hb:∀ (e:Edit) (_:Unit),Zfa (e,())->ZuI e):CT 65 Z2C:=
 Z3 (l:=[]) Zl rfl trivial Zqu Try.func65 rfl rfl 1 (fun _=> rfl) (by decide) (fun ⟨e,_⟩=> hb e ())
def Zh9(N:Nat):List (FuncId × Fs U):=(90,fs Zhy (fun a=> [Zax a,Zfw a < N]) Zi7) ::[(78,Za0)]
def Zqm:Ze U:=lvl [([1,2,3],[3]),([1,2,3],[3]),([1,2,3,25],[3]),([6],[]),([1,2,3],[3]),([1,2,3,31],[3]),([1,2,3,31],[3]),([1,2,3,7],[3]),([1,2,3,7,44],[3]),([1,2,3,7],[3]),([1,2,3,7],[3]),([1,2,3,8],[3]),([1,2,3,8,65],[3]),([1,2,3,8],[3]),([1,2,3,8,9],[3]),([1,2,3,8,9,80],[3]),([1,2,3,8,9],[3]),([1,2,3,8,9],[3]),([1,2,3,8,95],[3]),([1,2,3,8],[3]),([6],[])]
def Z6r(e:Edit)(d n x2:Int):LSt U:=(L2 [pI 1 d,pI 2 x2,pL 3,(31,.c (.bool (decide ((0:Int)<=(ZH (Tree.mk e.old.kind e.old.words e.old.kids) 80 ((((((n:Int) - 1):Int) - (e.words.length:Int)):Int) - (e.ops.length:Int)))))))] [(.loc 3,(enc .edit e))])
def Z6q(e:Edit)(d n x2_a x7_a:Int):LSt U:=(L2 [pI 1 d,pI 2 x2_a,pL 3,pI 7 x7_a] [(.loc 3,(enc .edit e))])
def Z3L(e:Edit)(d n x2_b x8_b:Int):LSt U:=(L2 [pI 1 d,pI 2 x2_b,pL 3,pI 8 x8_b] [(.loc 3,(enc .edit e))])
def Z6p(e:Edit)(d n x8_b x2_c x9_c:Int):LSt U:=(L2 [pI 1 d,pI 2 x2_c,pL 3,pI 8 x8_b,pI 9 x9_c] [(.loc 3,(enc .edit e))])
abbrev A90(N:Nat)(p:List Nat):=AW (Z2 (Zh9 N)) Try.f90 Zqm p
abbrev S90(N:Nat)(p:List Nat):=SW (Z2 (Zh9 N)) Try.f90 Zqm p
theorem ZwN(N:Nat)(e:Edit)(d n:Int)(Q:QT)(h:∀ y_1,y_1=(e.new)->∀ y_2,y_2=(e.old)->∀ y_3,y_3=(ZH y_2 80 (((((n - 1):Int) - (e.words.length:Int)):Int) - (e.ops.length:Int)))->let z0:=bif (d==0) then true else (decide (((((((n - 1):Int) - (e.words.length:Int)):Int) - (e.ops.length:Int)):Int) < 0));((InR (n - 1))/\(InR (((n - 1):Int) - (e.words.length:Int)))/\(InR (((((n - 1):Int) - (e.words.length:Int)):Int) - (e.ops.length:Int)))/\((Tr ((!(d==0))=true))/\((d==0)=false->(!(d==0))=true)/\((z0=true->(Q .ret (L2 [pI 6 (-1)] [])))/\(z0=false->(Z8g (y_2,80,(((((n - 1):Int) - (e.words.length:Int)):Int) - (e.ops.length:Int)),()))/\(((decide ((0:Int)<=y_3))=true->(Z8g (y_1,80,y_3,()))/\(A90 N [1,1,1,1,1] (Z6r e d n (ZH y_1 80 y_3)) Q))/\((decide ((0:Int)<=y_3))=false->A90 N [1,1,1,1,1] (Z6r e d n y_3) Q))))))):
  A90 N [] (L2 [(0,.agg (enc .edit e)),pI 1 d,pI 2 n] []) Q:=
 Eq.mpr (by kernel_rfl) (h _ (Zd _) _ (Zd _) _ rfl)
abbrev Zun(N:Nat)(e:Edit)(d n x2:Int)(Q:QT):Prop:=A90 N [1,1,1,1,1] (Z6r e d n x2) Q
theorem ZoX(N:Nat)(e:Edit)(d n x2:Int)(Q:QT)(h:(Zm (A90 N [1,1,1,1,1,0,1,0,0]) (Z6q e d n x2 0) (xB 0 (S90 N [1,1,1,1,1,1] Q)))):
  A90 N [1,1,1,1,1] (Z6r e d n x2) Q:=
 Eq.mpr (by kernel_rfl) h
theorem ZoW(N:Nat)(e:Edit)(d n x2_a x7_a:Int)(N1:NT)(Q:QT)(h:∀ y_1,y_1=(e.kids.getD x7_a.toNat (KidOf.mk 0 Edit.nil))->∀ y_2,y_2=(y_1.e)->let z0:=decide (x7_a < (e.kids.length:Int));let z1:=bif z0 then (decide ((0:Int)<=x2_a)) else false;(Tr (z0=true))/\(Tr (z0=true))/\((z1=true->((0:Int)<=x7_a/\x7_a < (e.kids.length:Int))/\(InR (d - 1))/\(Zax (y_2,(d - 1),x2_a,()))/\(Zfw (y_2,(d - 1),x2_a,()) < N)/\((InR (x7_a+1))/\(N1 (Z6q e d n (JX y_2 (d - 1) x2_a) (x7_a+1)))))/\(z1=false->(Zm (A90 N [1,1,1,1,1,1,0,1,0,0]) (Z3L e d n x2_a 0) (xB 2 (S90 N [1,1,1,1,1,1,1] Q)))))):
  A90 N [1,1,1,1,1,0,1,0,0] (Z6q e d n x2_a x7_a) (xT N1 (xB 0 (S90 N [1,1,1,1,1,1] Q))):=
 Eq.mpr (by kernel_rfl) (h _ rfl _ (Z8 _))
theorem ZoV(N:Nat)(e:Edit)(d n x2_b x8_b:Int)(N2:NT)(Q:QT)(h:let z0:=decide (x8_b < (e.ops.length:Int));let z1:=bif z0 then (decide ((0:Int)<=x2_b)) else false;(Tr (z0=true))/\(Tr (z0=true))/\((z1=true->(Zm (A90 N [1,1,1,1,1,1,0,1,0,0,1,0,0,0,1,0,0]) (Z6p e d n x8_b x2_b 0) (xB 4 (S90 N [1,1,1,1,1,1,0,1,0,0,1,0,0,1] (xB 3 (S90 N [1,1,1,1,1,1,0,1,0,0,1,1] (xT N2 (xB 2 (S90 N [1,1,1,1,1,1,1] Q)))))))))/\(z1=false->(Q .ret (L2 [pI 6 x2_b] []))))):
  A90 N [1,1,1,1,1,1,0,1,0,0] (Z3L e d n x2_b x8_b) (xT N2 (xB 2 (S90 N [1,1,1,1,1,1,1] Q))):=
 Eq.mpr (by kernel_rfl) h
theorem ZoU(N:Nat)(e:Edit)(d n x8_b x2_c x9_c:Int)(N3 N2:NT)(Q:QT)(h:∀ y_1,y_1=(e.ops.getD x8_b.toNat Op.nil)->∀ y_2,y_2=(y_1.e)->∀ y_3,y_3=(y_1.l.getD x9_c.toNat Tree.nil)->let z1:=decide ((0:Int)<=x2_c);let z0:=decide (x9_c < (y_1.l.length:Int));((0:Int)<=x8_b/\x8_b < (e.ops.length:Int))/\(Tr (z0=true))/\(Tr (z0=true))/\(((bif z0 then z1 else false)=true->((0:Int)<=x8_b/\x8_b < (e.ops.length:Int))/\((0:Int)<=x9_c/\x9_c < (y_1.l.length:Int))/\(Z8g (y_3,80,x2_c,()))/\((InR (x9_c+1))/\(N3 (Z6p e d n x8_b (ZH y_3 80 x2_c) (x9_c+1)))))/\((bif z0 then z1 else false)=false->((z1=true->((0:Int)<=x8_b/\x8_b < (e.ops.length:Int))/\(InR (d - 1))/\(Zax (y_2,(d - 1),x2_c,()))/\(Zfw (y_2,(d - 1),x2_c,()) < N)/\((InR (x8_b+1))/\(N2 (Z3L e d n (JX y_2 (d - 1) x2_c) (x8_b+1)))))/\(z1=false->(InR (x8_b+1))/\(N2 (Z3L e d n x2_c (x8_b+1)))))))):
  A90 N [1,1,1,1,1,1,0,1,0,0,1,0,0,0,1,0,0] (Z6p e d n x8_b x2_c x9_c) (xT N3 (xB 4 (S90 N [1,1,1,1,1,1,0,1,0,0,1,0,0,1] (xB 3 (S90 N [1,1,1,1,1,1,0,1,0,0,1,1] (xT N2 (xB 2 (S90 N [1,1,1,1,1,1,1] Q)))))))):=
 Eq.mpr (by kernel_rfl) (h _ rfl _ (Z8 _) _ (Zd _))
def Zux(N:Nat)(e:Edit)(d n:Int):Prop:=AW (Z2 (Zh9 N)) Try.f90 Zqm [] (Zk (Zhy.can (e,d,n,())) []) (EQ Try.f90 (Zi7 (e,d,n,())) [])
theorem Zt4(c78:CT 78 Za0)(hb:∀ (N:Nat) (e:Edit) (d:Int) (n:Int) (_:Unit),Zax (e,d,n,())->Zfw (e,d,n,()) < N+1->Zux N e d n):CT 90 Z9Y:=
 Yu (μ:=Zfw) (l:=[(78,Za0)]) Zl rfl (⟨c78,trivial⟩) Zqm Try.func90 rfl rfl 3 (fun _=> rfl) (by decide) (fun N ⟨e,d,n,_⟩=> hb N e d n ())
def ZnU:List (FuncId × Fs U):=[(90,Z9Y)]
abbrev A54(p:List Nat):=AW (Z2 ZnU) Try.f54 Ztv p
theorem Zx5(e:Edit)(Q:QT)(h:let z0:=Edit.mk e.kind (Tree.mk e.old.kind e.old.words e.old.kids) (Tree.mk e.new.kind e.new.words e.new.kids) e.words e.kids e.list e.ops;((Zax (z0,80,3000,()))/\(Q .ret (L2 [(2,.c (.bool (decide ((0:Int)<=(JX z0 80 3000)))))] [])))):
  A54 [] (L2 [(0,.agg (enc .edit e))] []) Q:=
 Eq.mpr (by kernel_rfl) h
def ZuP(e:Edit):Prop:=AW (Z2 ZnU) Try.f54 Ztv [] (Zk (ZjR.can (e,())) []) (EQ Try.f54 (ZrS (e,())) [])
theorem Zti(c90:CT 90 Z9Y)(hb:∀ (e:Edit) (_:Unit),ZmD (e,())->ZuP e):CT 54 Za8:=
 Z3 (l:=[(90,Z9Y)]) Zl rfl (⟨c90,trivial⟩) Ztv Try.func54 rfl rfl 1 (fun _=> rfl) (by decide) (fun ⟨e,_⟩=> hb e ())
end
noncomputable section
def Zei:ArgL (Edit × Int × Unit):=(.cons (aEl .edit) (.cons (Jv .i64) .nil))
def Z8h(a:Edit × Int × Unit):Prop:=(Z5 a.1<=20000000000/\Yz a.1)/\0<=a.2.1/\a.2.1<=1000
def ZdP(a:Edit × Int × Unit):Nat:=2*Z5 a.1
def Zib(a:Edit × Int × Unit):V U:= .c (.bool (Z6 a.1 a.2.1))
def Zaa:Fs U:=fs Zei (fun a=> [Z8h a]) Zib
def Zeg:ArgL (Int × Op × Int × Unit):=(.cons (Jv .i64) (.cons (aEl .op) (.cons (Jv .i64) .nil)))
def Zcd(a:Int × Op × Int × Unit):Prop:=(Zs a.2.1<=20000000000/\Z1D a.2.1/\InR a.1)/\0<=a.2.2.1/\a.2.2.1<=1000
def ZkI(a:Int × Op × Int × Unit):Nat:=2*Zs a.2.1+1
def Zi8(a:Int × Op × Int × Unit):V U:= .c (.bool (Zf a.1 a.2.1 a.2.2.1))
def Zm1:Fs U:=fs Zeg (fun a=> [Zcd a]) Zi8
def Zaz(a:Edit × Unit):Prop:=(Z5 a.1<=20000000000/\Yz a.1)/\∃ d,Z6 a.1 d=true
def Zfx(a:Edit × Unit):Nat:=Z5 a.1
def Zma(a:Edit × Unit):V U:= .c (.bool (ZU a.1))
def Za7:Fs U:=fs ZjR (fun a=> [Zaz a]) Zma
def Zfe(a:Edit × Unit):Prop:=Z17 a.1/\Yz a.1
def ZrU(a:Edit × Unit):V U:= .c (.bool (Jt a.1))
def Zac:Fs U:=fs ZjR (fun a=> [Zfe a]) ZrU
def Zhn(N:Nat):List (FuncId × Fs U):=(23,fs Zei (fun a=> [Z8h a,ZdP a < N]) Zib) ::(64,fs Zeg (fun a=> [Zcd a,ZkI a < N]) Zi8) ::[(62,Z2D),(63,Z7a),(104,Z3Z),(37,Z7b),(65,Z2C)]
def ZqA:Ze U:=lvl [([1,2],[2]),([1,2,24],[2]),([4],[]),([1,2,69],[2]),([4],[]),([1,2,72],[2]),([4],[]),([1,2,5],[2]),([1,2,5,6],[2]),([1,2,5,6,97],[2]),([1,2,5,6],[2]),([1,2,5,6,7],[2,7]),([1,2,6,7,134],[2,7]),([4],[]),([1,2,5,6],[2]),([1,2,5],[2]),([1,2,5,8],[2]),([1,2,5,8,141],[2]),([1,2,5,8],[2]),([1,2,5,8,9],[2,9]),([1,2,8,9,171],[2,9]),([4],[]),([1,2,5,8],[2]),([1,2,186],[2]),([4],[]),([1,2,10],[2]),([1,2,10,191],[2]),([1,2,10],[2]),([1,2,10,204],[2]),([4],[]),([11,12],[]),([4],[])]
def Z6M(e:Edit)(d x5 x6:Int):LSt U:=(L2 [pI 1 d,pL 2,pI 5 x5,pI 6 x6] [(.loc 2,(enc .edit e))])
def Z6L(e:Edit)(d x5_a x8_a:Int):LSt U:=(L2 [pI 1 d,pL 2,pI 5 x5_a,pI 8 x8_a] [(.loc 2,(enc .edit e))])
def Z6K(e:Edit)(d x10_b:Int):LSt U:=(L2 [pI 1 d,pL 2,pI 10 x10_b] [(.loc 2,(enc .edit e))])
abbrev A23(N:Nat)(p:List Nat):=AW (Z2 (Zhn N)) Try.f23 ZqA p
abbrev S23(N:Nat)(p:List Nat):=SW (Z2 (Zhn N)) Try.f23 ZqA p
theorem Zxb(N:Nat)(e:Edit)(d:Int)(Q:QT)(h:∀ y_1,y_1=(e.new)->∀ y_2,y_2=(e.old)->let z8:=(e.kind !=1) && (YW y_2);let z3:=bif (d==0) then true else (decide (e.kind < 0));let z10:=bif z3 then true else (decide ((3:Int) < e.kind));let z2:=bif (Zq y_2 64) then (Zq y_1 64) else false;let z6:=bif z2 then (e.old.kind !=10) else false;let z1:=bif (e.kind !=1) then (!(bif (YW y_2) then (YW y_1) else false)) else false;let z5:=(!z1) && (e.kind !=2);let z0:=bif z1 then true else (bif (e.kind !=2) then (decide ((0:Int) < (((e.words.length:Int):Int)+(e.kids.length:Int)))) else false);let z7:=bif z0 then true else (bif (e.kind !=3) then (bif (e.list !=0) then true else (decide ((0:Int) < (e.ops.length:Int)))) else false);let z4:=(!z0) && (e.kind !=3);let z9:=z4 && (!(e.list !=0));((Tr ((!(d==0))=true))/\(Tr ((!(d==0))=true))/\((d==0)=false->(!(d==0))=true)/\(Tr ((!z3)=true))/\(Tr ((!z3)=true))/\(z3=false->(!z3)=true)/\((z10=true->(Q .ret (L2 [pB 4 false] [])))/\(z10=false->(Tr ((e.kind !=1)=true))/\(Tr ((e.kind !=1)=true))/\((e.kind !=1)=true->Z3p (y_2,()))/\(Tr ((e.kind !=1)=true))/\(Tr (z8=true))/\(Tr (z8=true))/\(z8=true->Z3p (y_1,()))/\((e.kind !=1)=true->(True->(e.kind !=1)=true))/\((e.kind !=1)=true->((YW y_2)=true->z8=true))/\(Tr ((e.kind !=1)=true))/\(Tr ((e.kind !=1)=true))/\(Tr ((!z1)=true))/\(Tr ((!z1)=true))/\(Tr ((!z1)=true))/\(Tr (z5=true))/\(Tr (z5=true))/\(Tr (z5=true))/\(Tr (z5=true))/\(Tr (z5=true))/\(Tr (z5=true))/\(z5=true->InR (((e.words.length:Int):Int)+(e.kids.length:Int)))/\(Tr (z5=true))/\((!z1)=true->(True->(!z1)=true))/\((!z1)=true->((e.kind !=2)=true->z5=true))/\(z1=false->(!z1)=true)/\(Tr ((!z0)=true))/\(Tr ((!z0)=true))/\(Tr ((!z0)=true))/\(Tr (z4=true))/\(Tr (z4=true))/\(Tr (z4=true))/\(Tr (z9=true))/\(Tr (z9=true))/\(Tr (z9=true))/\(z4=true->(True->z4=true))/\(z4=true->((e.list !=0)=false->z9=true))/\((!z0)=true->(True->(!z0)=true))/\((!z0)=true->((e.kind !=3)=true->z4=true))/\(z0=false->(!z0)=true)/\((z7=true->(Q .ret (L2 [pB 4 false] [])))/\(z7=false->(((e.kind==1)=true->(Z63 (y_2,64,()))/\(Tr ((Zq y_2 64)=true))/\(Tr ((Zq y_2 64)=true))/\((Zq y_2 64)=true->Z63 (y_1,64,()))/\(Tr ((Zq y_2 64)=true))/\(Tr (z2=true))/\(Tr (z2=true))/\(Tr (z2=true))/\(Tr (z2=true))/\(Tr (z6=true))/\(Tr (z6=true))/\(Tr (z6=true))/\(Tr (z6=true))/\(Q .ret (L2 [(4,.c (.bool (bif z6 then (e.new.kind !=10) else false)))] [])))/\((e.kind==1)=false->(Zm (A23 N [1,1,1,1,1,0,1,0,0]) (Z6M e d (-1) 0) (xB 0 (S23 N [1,1,1,1,1,1] Q))))))))))):
  A23 N [] (L2 [(0,.agg (enc .edit e)),pI 1 d] []) Q:=
 Eq.mpr (by kernel_rfl) (h _ (Zd _) _ (Zd _))
theorem Zpl(N:Nat)(e:Edit)(d x5 x6:Int)(N0:NT)(Q:QT)(h:∀ y_1,y_1=(e.words.getD x6.toNat (WEdit.mk 0 0 0 0))->let z5:=decide (x6 < (e.words.length:Int));let z3:=decide (y_1.at_<=x5);let z2:=bif z3 then true else (decide ((65534:Int) < y_1.at_));let z0:=bif z2 then true else (y_1.mask==0);let z1:=bif z0 then true else (!(Yj y_1.old y_1.mask));let z4:=bif z1 then true else (!(Yj y_1.new y_1.mask));((z5=true->((0:Int)<=x6/\x6 < (e.words.length:Int))/\((Tr ((!z3)=true))/\(Tr ((!z3)=true))/\(z3=false->(!z3)=true)/\(Tr ((!z2)=true))/\(Tr ((!z2)=true))/\(z2=false->(!z2)=true)/\(Tr ((!z0)=true))/\(Tr ((!z0)=true))/\(Tr ((!z0)=true))/\(Tr ((!z0)=true))/\((!z0)=true->Zil (y_1.old,y_1.mask,()))/\(Tr ((!z0)=true))/\(z0=false->(!z0)=true)/\(Tr ((!z1)=true))/\(Tr ((!z1)=true))/\(Tr ((!z1)=true))/\(Tr ((!z1)=true))/\((!z1)=true->Zil (y_1.new,y_1.mask,()))/\(Tr ((!z1)=true))/\(z1=false->(!z1)=true)/\((z4=true->(Q .ret (L2 [pB 4 false] [])))/\(z4=false->((InR (x6+1))/\(N0 (Z6M e d y_1.at_ (x6+1))))))))/\(z5=false->(Zm (A23 N [1,1,1,1,1,1,1,0,1,0,0]) (Z6L e d (-1) 0) (xB 2 (S23 N [1,1,1,1,1,1,1,1] Q)))))):
  A23 N [1,1,1,1,1,0,1,0,0] (Z6M e d x5 x6) (xT N0 (xB 0 (S23 N [1,1,1,1,1,1] Q))):=
 Eq.mpr (by kernel_rfl) (h _ rfl)
theorem Zpk(N:Nat)(e:Edit)(d x5_a x8_a:Int)(N1:NT)(Q:QT)(h:∀ y_1,y_1=(e.kids.getD x8_a.toNat (KidOf.mk 0 Edit.nil))->∀ y_2,y_2=(y_1.e)->let z7:=decide (x8_a < (e.kids.length:Int));let z6:=decide (e.list < 2);let z4:=(e.kind==3) && (!z6);let z3:=decide (y_1.at_<=x5_a);let z2:=bif (e.kind==3) then (bif z6 then true else (decide ((9:Int) < e.list))) else false;let z1:=bif z3 then true else (decide ((65534:Int) < y_1.at_));let z0:=bif z1 then true else (y_1.e.kind==0);let z5:=bif z0 then true else (!(Z6 y_2 (d - 1)));((z7=true->((0:Int)<=x8_a/\x8_a < (e.kids.length:Int))/\((Tr ((!z3)=true))/\(Tr ((!z3)=true))/\(z3=false->(!z3)=true)/\(Tr ((!z1)=true))/\(Tr ((!z1)=true))/\(Tr ((!z1)=true))/\(z1=false->(!z1)=true)/\(Tr ((!z0)=true))/\(Tr ((!z0)=true))/\((!z0)=true->InR (d - 1))/\(Tr ((!z0)=true))/\(Tr ((!z0)=true))/\((!z0)=true->Z8h (y_2,(d - 1),()))/\((!z0)=true->ZdP (y_2,(d - 1),()) < N)/\(Tr ((!z0)=true))/\(z0=false->(!z0)=true)/\((z5=true->(Q .ret (L2 [pB 4 false] [])))/\(z5=false->((InR (x8_a+1))/\(N1 (Z6L e d y_1.at_ (x8_a+1))))))))/\(z7=false->(Tr ((e.kind==3)=true))/\(Tr ((e.kind==3)=true))/\(Tr ((e.kind==3)=true))/\(Tr (z4=true))/\(Tr (z4=true))/\((e.kind==3)=true->(True->(e.kind==3)=true))/\((e.kind==3)=true->(z6=false->z4=true))/\(Tr ((e.kind==3)=true))/\((z2=true->(Q .ret (L2 [pB 4 false] [])))/\(z2=false->(Zm (A23 N [1,1,1,1,1,1,1,1,1,0,1,0,0]) (Z6K e d 0) (xB 4 (S23 N [1,1,1,1,1,1,1,1,1,1] Q)))))))):
  A23 N [1,1,1,1,1,1,1,0,1,0,0] (Z6L e d x5_a x8_a) (xT N1 (xB 2 (S23 N [1,1,1,1,1,1,1,1] Q))):=
 Eq.mpr (by kernel_rfl) (h _ rfl _ (Z8 _))
theorem Zpj(N:Nat)(e:Edit)(d x10_b:Int)(N2:NT)(Q:QT)(h:∀ y_1,y_1=e->∀ y_2,y_2=(e.ops.getD x10_b.toNat Op.nil)->∀ y_3,y_3=y_2->let z2:= !(Zf e.list y_3 (d - 1));let z1:=decide (x10_b < (e.ops.length:Int));let z0:=decide (((Z0O y_1.ops 0):Int) < 1048576);((z1=true->((0:Int)<=x10_b/\x10_b < (e.ops.length:Int))/\(InR (d - 1))/\(Zcd (e.list,y_3,(d - 1),()))/\(ZkI (e.list,y_3,(d - 1),()) < N)/\((z2=true->(Q .ret (L2 [pB 4 false] [])))/\(z2=false->(InR (x10_b+1))/\(N2 (Z6K e d (x10_b+1))))))/\(z1=false->(Zfa (y_1,()))/\((Tr (z0=true))/\(Tr (z0=true))/\(Q .ret (L2 [(4,.c (.bool (bif z0 then (decide (((Z0N y_1.ops 0):Int) < 1048576)) else false)))] [])))))):
  A23 N [1,1,1,1,1,1,1,1,1,0,1,0,0] (Z6K e d x10_b) (xT N2 (xB 4 (S23 N [1,1,1,1,1,1,1,1,1,1] Q))):=
 Eq.mpr (by kernel_rfl) (h _ (Z8 _) _ rfl _ (Yk _))
def ZuV(N:Nat)(e:Edit)(d:Int):Prop:=AW (Z2 (Zhn N)) Try.f23 ZqA [] (Zk (Zei.can (e,d,())) []) (EQ Try.f23 (Zib (e,d,())) [])
abbrev ZwI:Prop:=∀ (N:Nat) (e:Edit) (d:Int) (_:Unit),Z8h (e,d,())->ZdP (e,d,()) < N+1->ZuV N e d
def Zqv:Ze U:=lvl [([0,2,4],[4]),([0,2,4,10],[4]),([6],[]),([0,2,4,42],[4]),([6],[]),([0,2,4,45],[4]),([0,4,7],[4]),([0,4,7,50],[4]),([0,4,7],[4]),([0,4,7,62],[4]),([6],[]),([6],[]),([0,4,92],[4]),([6],[]),([6],[])]
def Z6E(list:Int)(o:Op)(d x7:Int):LSt U:=(L2 [pI 0 list,pL 4,pI 7 x7] [(.loc 4,(enc .op o))])
abbrev A64(N:Nat)(p:List Nat):=AW (Z2 (Zhn N)) Try.f64 Zqv p
abbrev S64(N:Nat)(p:List Nat):=SW (Z2 (Zhn N)) Try.f64 Zqv p
theorem ZwZ(N:Nat)(list:Int)(o:Op)(d:Int)(Q:QT)(h:∀ y_1,y_1=(o.e)->let z9:=decide ((1:Int)<=o.n);let z5:=bif (o.n !=0) then true else (decide (o.kind < 0));let z10:=bif z5 then true else (decide ((3:Int) < o.kind));let z4:=decide ((0:Int) < (o.l.length:Int));let z7:=bif z4 then true else (o.e.kind==0);let z3:=bif (o.e.kind==1) then (o.e.old.kind==1) else false;let z2:=bif z9 then (decide (o.n<=1048576)) else false;let z6:=bif z2 then (((o.l.length:Int):Int)==0) else false;let z1:=bif (list==8) then true else (o.e.kind==2);let z8:=(!z1) && (o.e.kind==1);let z0:=bif z7 then true else (decide (list<=7));let z11:=bif z0 then true else (!(Z6 y_1 d));(((o.kind==0)=true->(Tr (z9=true))/\(Tr (z9=true))/\(Tr (z9=true))/\(Tr (z2=true))/\(Tr (z2=true))/\(Tr (z2=true))/\(Tr (z2=true))/\(Tr (z6=true))/\(Tr (z6=true))/\(z6=true->Z58 (y_1,()))/\(Tr (z6=true))/\(Q .ret (L2 [(6,.c (.bool (bif z6 then (Z0A y_1) else false)))] [])))/\((o.kind==0)=false->(Tr ((!(o.n !=0))=true))/\(Tr ((!(o.n !=0))=true))/\((o.n !=0)=false->(!(o.n !=0))=true)/\(Tr ((!z5)=true))/\(Tr ((!z5)=true))/\(z5=false->(!z5)=true)/\((z10=true->(Q .ret (L2 [pB 6 false] [])))/\(z10=false->(((decide (o.kind < 3))=true->(Zm (A64 N [1,1,1,0,1,0,0,1,0,0]) (Z6E list o d 0) (xB 0 (S64 N [1,1,1,0,1,0,1] (S64 N [1,1,1,1] Q)))))/\((decide (o.kind < 3))=false->(Tr ((!z4)=true))/\(Tr ((!z4)=true))/\(Tr ((!z4)=true))/\(z4=false->(!z4)=true)/\(Tr ((!z7)=true))/\(z7=false->(!z7)=true)/\(Tr ((!z0)=true))/\(Tr ((!z0)=true))/\(Tr ((!z0)=true))/\((!z0)=true->Z8h (y_1,d,()))/\((!z0)=true->ZdP (y_1,d,()) < N)/\(Tr ((!z0)=true))/\(z0=false->(!z0)=true)/\((z11=true->(Q .ret (L2 [pB 6 false] [])))/\(z11=false->(Tr ((!(list==8))=true))/\(Tr ((!(list==8))=true))/\(Tr ((!(list==8))=true))/\((list==8)=false->(!(list==8))=true)/\(Tr ((!z1)=true))/\(Tr ((!z1)=true))/\(Tr ((!z1)=true))/\(Tr ((!z1)=true))/\(Tr (z8=true))/\(Tr (z8=true))/\(Tr (z8=true))/\(Tr (z8=true))/\((!z1)=true->(True->(!z1)=true))/\((!z1)=true->((o.e.kind==1)=true->z8=true))/\(Tr ((!z1)=true))/\(Tr (((!z1) && z3)=true))/\(Tr (((!z1) && z3)=true))/\(Tr (((!z1) && z3)=true))/\(Tr (((!z1) && z3)=true))/\((!z1)=true->(True->(!z1)=true))/\((!z1)=true->(z3=true->((!z1) && z3)=true))/\(z1=false->(!z1)=true)/\(Q .ret (L2 [(6,.c (.bool (bif z1 then true else (bif z3 then (o.e.new.kind==1) else false))))] []))))))))))):
  A64 N [] (L2 [pI 0 list,(1,.agg (enc .op o)),pI 2 d] []) Q:=
 Eq.mpr (by kernel_rfl) (h _ (Z8 _))
theorem Zpc(N:Nat)(list:Int)(o:Op)(d x7:Int)(N0:NT)(Q:QT)(h:let z3:=decide (x7 < (o.l.length:Int));let z2:=Tree.mk list [] (List.drop x7.toNat (List.take (Int.toNat (x7+1)) o.l));let z1:=Edit.mk o.e.kind (Tree.mk o.e.old.kind o.e.old.words o.e.old.kids) (Tree.mk o.e.new.kind o.e.new.words o.e.new.kids) o.e.words o.e.kids o.e.list o.e.ops;let z0:=decide ((0:Int) < (o.l.length:Int));((z3=true->(InR (x7+1))/\((0:Int)<=x7/\x7<=(x7+1)/\(x7+1)<=(o.l.length:Int))/\(Z63 (z2,64,()))/\(((!(Zq z2 64))=true->(Q .ret (L2 [pB 6 false] [])))/\((!(Zq z2 64))=false->(InR (x7+1))/\(N0 (Z6E list o d (x7+1))))))/\(z3=false->(Tr (z0=true))/\(Tr (z0=true))/\(z0=true->Z58 (z1,()))/\(Tr (z0=true))/\(Q .ret (L2 [(6,.c (.bool (bif z0 then (Z0A z1) else false)))] []))))):
  A64 N [1,1,1,0,1,0,0,1,0,0] (Z6E list o d x7) (xT N0 (xB 0 (S64 N [1,1,1,0,1,0,1] (S64 N [1,1,1,1] Q)))):=
 Eq.mpr (by kernel_rfl) h
def ZuJ(N:Nat)(list:Int)(o:Op)(d:Int):Prop:=AW (Z2 (Zhn N)) Try.f64 Zqv [] (Zk (Zeg.can (list,o,d,())) []) (EQ Try.f64 (Zi8 (list,o,d,())) [])
abbrev ZwG:Prop:=∀ (N:Nat) (list:Int) (o:Op) (d:Int) (_:Unit),Zcd (list,o,d,())->ZkI (list,o,d,()) < N+1->ZuJ N list o d
def Zhk(N:Nat):List (FuncId × Fs U):=(55,fs ZjR (fun a=> [Zaz a,Zfx a < N]) Zma) ::[(65,Z2C)]
def Zqx:Ze U:=lvl [([1],[1]),([1,3,4],[1]),([1,17],[1]),([2],[]),([1,5],[1]),([1,5,22],[1]),([1,5],[1]),([1,5,32],[1]),([2],[]),([1,6],[1]),([1,6,37],[1]),([1,6],[1]),([1,6,47],[1]),([2],[]),([2],[])]
def Z6H(e:Edit)(x5:Int):LSt U:=(L2 [pL 1,pI 5 x5] [(.loc 1,(enc .edit e))])
def Z6G(e:Edit)(x6_a:Int):LSt U:=(L2 [pL 1,pI 6 x6_a] [(.loc 1,(enc .edit e))])
abbrev A55(N:Nat)(p:List Nat):=AW (Z2 (Zhk N)) Try.f55 Zqx p
abbrev S55(N:Nat)(p:List Nat):=SW (Z2 (Zhk N)) Try.f55 Zqx p
theorem Zx4(N:Nat)(e:Edit)(Q:QT)(h:∀ y_1,y_1=e->let z0:=decide ((2000:Int) < (Z0O y_1.ops 0));let z1:=bif z0 then true else (decide ((2000:Int) < (Z0N y_1.ops 0)));((Zfa (y_1,()))/\((Tr ((!z0)=true))/\(z0=false->(!z0)=true)/\((z1=true->(Q .ret (L2 [pB 2 false] [])))/\(z1=false->(Zm (A55 N [1,1,1,0,1,0,0]) (Z6H e 0) (xB 0 (S55 N [1,1,1,1] Q)))))))):
  A55 N [] (L2 [(0,.agg (enc .edit e))] []) Q:=
 Eq.mpr (by kernel_rfl) (h _ (Z8 _))
theorem Zpg(N:Nat)(e:Edit)(x5:Int)(N0:NT)(Q:QT)(h:∀ y_1,y_1=(e.kids.getD x5.toNat (KidOf.mk 0 Edit.nil))->∀ y_2,y_2=(y_1.e)->let z0:=decide (x5 < (e.kids.length:Int));((z0=true->((0:Int)<=x5/\x5 < (e.kids.length:Int))/\(Zaz (y_2,()))/\(Zfx (y_2,()) < N)/\(((!(ZU y_2))=true->(Q .ret (L2 [pB 2 false] [])))/\((!(ZU y_2))=false->(InR (x5+1))/\(N0 (Z6H e (x5+1))))))/\(z0=false->(Zm (A55 N [1,1,1,1,0,1,0,0]) (Z6G e 0) (xB 2 (S55 N [1,1,1,1,1] Q)))))):
  A55 N [1,1,1,0,1,0,0] (Z6H e x5) (xT N0 (xB 0 (S55 N [1,1,1,1] Q))):=
 Eq.mpr (by kernel_rfl) (h _ rfl _ (Z8 _))
theorem Zpf(N:Nat)(e:Edit)(x6_a:Int)(N1:NT)(Q:QT)(h:∀ y_1,y_1=(e.ops.getD x6_a.toNat Op.nil)->∀ y_2,y_2=(y_1.e)->let z0:=decide (x6_a < (e.ops.length:Int));((z0=true->((0:Int)<=x6_a/\x6_a < (e.ops.length:Int))/\(Zaz (y_2,()))/\(Zfx (y_2,()) < N)/\(((!(ZU y_2))=true->(Q .ret (L2 [pB 2 false] [])))/\((!(ZU y_2))=false->(InR (x6_a+1))/\(N1 (Z6G e (x6_a+1))))))/\(z0=false->(Q .ret (L2 [pB 2 true] []))))):
  A55 N [1,1,1,1,0,1,0,0] (Z6G e x6_a) (xT N1 (xB 2 (S55 N [1,1,1,1,1] Q))):=
 Eq.mpr (by kernel_rfl) (h _ rfl _ (Z8 _))
def ZuO(N:Nat)(e:Edit):Prop:=AW (Z2 (Zhk N)) Try.f55 Zqx [] (Zk (ZjR.can (e,())) []) (EQ Try.f55 (Zma (e,())) [])
theorem Zth(c65:CT 65 Z2C)(hb:∀ (N:Nat) (e:Edit) (_:Unit),Zaz (e,())->Zfx (e,()) < N+1->ZuO N e):CT 55 Za7:=
 Yu (μ:=Zfx) (l:=[(65,Z2C)]) Zl rfl (⟨c65,trivial⟩) Zqx Try.func55 rfl rfl 1 (fun _=> rfl) (by decide) (fun N ⟨e,_⟩=> hb N e ())
def ZnY:List (FuncId × Fs U):=[(54,Za8),(23,Zaa),(55,Za7)]
abbrev A15(p:List Nat):=AW (Z2 ZnY) Try.f15 Ztv p
theorem Zxd(e:Edit)(Q:QT)(h:∀ y_1,y_1=e->let z1:=decide (0<=JX y_1 80 3000);let z0:=bif z1 then (Z6 y_1 64) else false;((ZmD (y_1,()))/\(Tr (z1=true))/\(z1=true->Z8h (y_1,64,()))/\(Tr (z1=true))/\(Tr (z0=true))/\(z0=true->Zaz (y_1,()))/\(Tr (z0=true))/\(Q .ret (L2 [(2,.c (.bool (bif z0 then (ZU y_1) else false)))] [])))):
  A15 [] (L2 [(0,.agg (enc .edit e))] []) Q:=
 Eq.mpr (by kernel_rfl) (h _ (Z8 _))
def ZuX(e:Edit):Prop:=AW (Z2 ZnY) Try.f15 Ztv [] (Zk (ZjR.can (e,())) []) (EQ Try.f15 (ZrU (e,())) [])
theorem Ztp(c54:CT 54 Za8)(c23:CT 23 Zaa)(c55:CT 55 Za7)(hb:∀ (e:Edit) (_:Unit),Zfe (e,())->ZuX e):CT 15 Zac:=
 Z3 (l:=[(54,Za8),(23,Zaa),(55,Za7)]) Zl rfl (⟨c54,c23,c55,trivial⟩) Ztv Try.func15 rfl rfl 1 (fun _=> rfl) (by decide) (fun ⟨e,_⟩=> hb e ())
theorem ZkP(c62:CT 62 Z2D)(c63:CT 63 Z7a)(Zue:CT 104 Z3Z)(c37:CT 37 Z7b)(c65:CT 65 Z2C)(ha:ZwI)(hb:ZwG):CT 23 Zaa/\CT 64 Zm1:=
 Z4U (μA:=ZdP) (μB:=ZkI) (l:=[(62,Z2D),(63,Z7a),(104,Z3Z),(37,Z7b),(65,Z2C)]) Zl rfl (⟨c62,c63,Zue,c37,c65,trivial⟩) ZqA Zqv Try.func23 Try.func64 rfl rfl rfl rfl 2 3 (fun _=> rfl) (fun _=> rfl) (by decide) (by decide) (fun N ⟨e,d,_⟩=> ha N e d ()) (fun N ⟨list,o,d,_⟩=> hb N list o d ())
end
theorem Z37{n:Int}(h0:0<=n)(h1:n < 18446744073709551616):IntKind.wrap .u64 n=n:=by
 simp [IntKind.wrap,IntKind.signed,IntKind.bits];omega
theorem Z5q{n:Int}(h0:0<=n)(h1:n < 256):IntKind.wrap .u8 n=n:=by
 simp [IntKind.wrap,IntKind.signed,IntKind.bits];omega
theorem ZjU{i:Int}{j:Nat}{v:Int}{F G:Nat->Int}(hi:0<=i)(hv:v=F i.toNat):Z0u i j v (if (j:Int) < i then F j else G j)=if (j:Int) < i+1 then F j else G j:=by
 unfold Z0u
 by_cases h:i=j
 ·subst h
  rw [if_pos rfl,if_pos (by omega),hv]
  simp
 ·rw [if_neg h]
  by_cases h2:(j:Int) < i
  ·rw [if_pos h2,if_pos (by omega)]
  ·rw [if_neg h2,if_neg (by omega)]
theorem ZqH{i:Int}{j:Nat}{F G:Nat->Int}(h:F i.toNat=G i.toNat)(hi:0<=i):(if (j:Int) < i then F j else G j)=if (j:Int) < i+1 then F j else G j:=by
 by_cases h2:(j:Int) < i
 ·rw [if_pos h2,if_pos (by omega)]
 ·by_cases h3:(j:Int)=i
  ·subst h3
   rw [if_neg h2,if_pos (by omega)]
   simpa using h.symm
  ·rw [if_neg h2,if_neg (by omega)]
theorem Z00(w:Int)(i:Nat):0<=Zc w i/\Zc w i < 256:=by
 unfold Zc
 omega
theorem Z3R{w:Int}(h:0<=w)(i:Nat):0<=w / 256 ^ i:=Kq h (XL (K7 (by omega)))
theorem Zbl{w:Int}(h:0<=w)(i:Nat):w / 256 ^ i<=w:=Kl _ h
theorem Zec(w:Int)(i:Nat):w / 256 ^ i / 256=w / 256 ^ (i+1):=by
 rw [Int.ediv_ediv_of_nonneg (XL (K7 (by omega))),Ki]
theorem c67:Contract Try.prog cfg 67 Za4:=by
 refine Ztb ?_
 intro w _ hp
 simp only [Zf9] at hp
 refine ZwW _ _ ?_;(try simp only [vcT,forall_eq])
 refine Za (ι:=Int) (fun i=> Z3M w (w / 256 ^ i.toNat) i (if ((0:Nat):Int) < i then Zc w 0 else 0) (if ((1:Nat):Int) < i then Zc w 1 else 0) (if ((2:Nat):Int) < i then Zc w 2 else 0) (if ((3:Nat):Int) < i then Zc w 3 else 0)
  (if ((4:Nat):Int) < i then Zc w 4 else 0) (if ((5:Nat):Int) < i then Zc w 5 else 0) (if ((6:Nat):Int) < i then Zc w 6 else 0) (if ((7:Nat):Int) < i then Zc w 7 else 0)) (fun i=> 0<=i/\i<=8) (fun i=> (8 - i).toNat) 0 ?_ ⟨by omega,by omega⟩ ?_
 ·simp [Z3M]
 ·rintro i ⟨h1,h2⟩
  refine Zp6 _ _ _ _ _ _ _ _ _ _ _ _ _ ?_;(try simp only [vcT,forall_eq])
  (simp only [vcS]);(try simp only [vcT])
  refine ⟨fun hc=> ⟨by omega,⟨h1,by omega⟩,by omega,by unfold InR;omega,i+1,?_,⟨by omega,by omega⟩,by omega⟩,fun hc=> ?_⟩
  ·have hd:=Z3R hp.1 i.toNat
   have hl:=Zbl hp.1 i.toNat
   have e1:IntKind.wrap .u64 (Int.tdiv (w / 256 ^ i.toNat) 256)=w / 256 ^ (i+1).toNat:=by
    rw [XC hd,Zec,show i.toNat+1=(i+1).toNat by omega]
    exact Z37 (Z3R hp.1 _) (Int.lt_of_le_of_lt (Zbl hp.1 _) hp.2)
   have e2:IntKind.wrap .u8 (Int.tmod (w / 256 ^ i.toNat) 256)=Zc w i.toNat:=by
    rw [Int.tmod_eq_emod_of_nonneg hd]
    exact Z5q (Z00 w _).1 (Z00 w _).2
   rw [e1]
   have st:∀ j:Nat,Z0u i j (IntKind.wrap .u8 (Int.tmod (w / 256 ^ i.toNat) 256)) (if (j:Int) < i then Zc w j else 0)=if (j:Int) < i+1 then Zc w j else 0:=fun j=> ZjU (F:=Zc w) (G:=fun _=> 0) h1 e2
   rw [st 0,st 1,st 2,st 3,st 4,st 5,st 6,st 7]
  ·have:i=8:=by omega
   subst this
   simp only [Zm8]
   exact ⟨⟨rfl,⟨⟨rfl,rfl⟩,⟨rfl,rfl⟩,⟨rfl,rfl⟩,⟨rfl,rfl⟩,⟨rfl,rfl⟩,⟨rfl,rfl⟩,⟨rfl,rfl⟩,⟨rfl,rfl⟩,trivial⟩,trivial⟩,trivial⟩
theorem c68:Contract Try.prog cfg 68 Za3:=by
 refine Zta ?_
 intro m i _ hp
 simp only [Zik] at hp
 refine ZwV _ _ _ ?_;(try simp only [vcT,forall_eq])
 refine Za (ι:=Int) (fun k=> Z6z m i (m / 2 ^ k.toNat) k) (fun k=> 0<=k/\k<=i) (fun k=> (i - k).toNat) 0 ?_ ⟨by omega,by omega⟩ ?_
 ·simp
 ·rintro k ⟨h1,h2⟩
  refine Zp5 _ _ _ _ _ _ ?_;(try simp only [vcT,forall_eq])
  have hd:0<=m / 2 ^ k.toNat:=Kq hp.1.1 (XL (K7 (by omega)))
  have hl:m / 2 ^ k.toNat<=m:=Kl _ hp.1.1
  (simp only [vcS])
  refine ⟨fun hc=> ⟨by omega,by unfold InR;omega,k+1,?_,⟨by omega,by omega⟩,by omega⟩,fun hc=> ⟨by omega,Zb rfl ?_⟩⟩
  ·have e:IntKind.wrap .u8 (Int.tdiv (m / 2 ^ k.toNat) 2)=m / 2 ^ (k+1).toNat:=by
    rw [XC hd,Int.ediv_ediv_of_nonneg (XL (K7 (by omega))),show (2:Int) ^ k.toNat*2=2 ^ (k+1).toNat by rw [<-Ki];congr 1;omega]
    refine Z5q (Kq hp.1.1 (XL (K7 (by omega)))) (Int.lt_of_le_of_lt (Kl _ hp.1.1) hp.1.2)
   rw [e]
  ·have:k=i:=by omega
   subst this
   rw [Int.tmod_eq_emod_of_nonneg hd]
   try rfl
def Z8O(f:Nat->Int):Nat->Int
 | 0=> 0
 | k+1=> f (7 - k)+256*Z8O f k
theorem Z9M{f:Nat->Int}(h:∀ i,0<=f i/\f i < 256):∀ k,0<=Z8O f k/\Z8O f k < 256 ^ k
 | 0=> by simp [Z8O]
 | k+1=> by
  have:=Z9M h k
  have h2:=h (7 - k)
  simp only [Z8O,Ki]
  omega
theorem ZsA(f:Nat->Int):Z8O f 8=of8 f:=by simp [Z8O,of8]
theorem c69:Contract Try.prog cfg 69 Za2:=by
 refine Zt9 ?_
 intro b z _ hp
 obtain ⟨rfl,hl,hb⟩:=hp
 dsimp only at hl hb
 refine ZwU _ _ _ ?_;(try simp only [vcT,forall_eq])
 have hf:∀ i,0<=b.getD i 0/\b.getD i 0 < 256:=by
  intro i
  by_cases hi:i < b.length
  ·have:b.getD i 0∈b:=by
    simp only [List.getD,Q0 hi,X6]
    exact XU hi
   exact hb _ this
  ·rw [List.getD,Qw (by omega)];simp
 refine Za (ι:=Int) (fun i=> Z6y b 0 (Z8O (fun i=> b.getD i 0) (7 - i).toNat) i) (fun i=> -1<=i/\i<=7) (fun i=> (i+1).toNat) 7 rfl ⟨by omega,by omega⟩ ?_
 rintro i ⟨h1,h2⟩
 refine Zp4 _ _ _ _ _ _ ?_;(try simp only [vcT,forall_eq])
 (simp only [vcS]);(try simp only [vcT])
 have hr:=Z9M (f:=fun i=> b.getD i 0) hf (7 - i).toNat
 refine ⟨fun hc=> ⟨by unfold InR;omega,by omega,by unfold InR;omega,i - 1,?_,⟨by omega,by omega⟩,by omega⟩,fun hc=> Yi rfl ?_⟩
 ·have hp7:(256:Int) ^ (7 - i).toNat<=256 ^ 7:=by
   have:(256:Int) ^ (7 - i).toNat=((256 ^ (7 - i).toNat:Nat):Int):=by simp
   rw [this]
   have h7:(256:Nat) ^ (7 - i).toNat<=256 ^ 7:=Nat.pow_le_pow_right (by omega) (by omega)
   have:((256:Nat) ^ 7:Nat)=72057594037927936:=by decide
   omega
  have e7:(256:Int) ^ 7=72057594037927936:=by decide
  have hfi:=hf i.toNat
  have e:Z8O (fun i=> b.getD i 0) (7 - (i - 1)).toNat=b.getD i.toNat 0+256*Z8O (fun i=> b.getD i 0) (7 - i).toNat:=by
   rw [show (7 - (i - 1)).toNat=(7 - i).toNat+1 by omega]
   simp only [Z8O]
   rw [show 7 - (7 - i).toNat=i.toNat by omega]
  rw [e,show (0+i).toNat=i.toNat by omega,Z37 (n:=Z8O (fun i=> b.getD i 0) (7 - i).toNat*256) (by omega) (by omega),Z37 (n:=b.getD i.toNat 0) (by omega) (by omega),Z37 (by omega) (by omega)]
  congr 1
  omega
 ·have:i= -1:=by omega
  subst this
  exact ZsA _
theorem Zwh(f:Nat->Int){i:Nat}(h:i < 8):List.getD [f 0,f 1,f 2,f 3,f 4,f 5,f 6,f 7] i 0=f i:=by
 match i,h with
 | 0,_=> rfl
 | 1,_=> rfl
 | 2,_=> rfl
 | 3,_=> rfl
 | 4,_=> rfl
 | 5,_=> rfl
 | 6,_=> rfl
 | 7,_=> rfl
theorem Z3z(a b m:Int)(i:Nat):0<=YD a b m i/\YD a b m i < 256:=by
 unfold YD
 split
 ·exact Z00 _ _
 ·exact Z00 _ _
theorem Zuf:Contract Try.prog cfg 103 Z5K:=by
 refine Zql c67 c68 c69 ?_
 intro a b m _ hp
 simp only [ZdE] at hp
 refine ZvT _ _ _ _ ?_;(try simp only [vcT,forall_eq])
 refine ⟨hp.1,hp.2.1,?_⟩
 refine Za (ι:=Int) (fun i=> Z16 a b m i (if ((0:Nat):Int) < i then YD a b m 0 else Zc a 0) (if ((1:Nat):Int) < i then YD a b m 1 else Zc a 1) (if ((2:Nat):Int) < i then YD a b m 2 else Zc a 2) (if ((3:Nat):Int) < i then YD a b m 3 else Zc a 3)
  (if ((4:Nat):Int) < i then YD a b m 4 else Zc a 4) (if ((5:Nat):Int) < i then YD a b m 5 else Zc a 5) (if ((6:Nat):Int) < i then YD a b m 6 else Zc a 6) (if ((7:Nat):Int) < i then YD a b m 7 else Zc a 7)) (fun i=> 0<=i/\i<=8) (fun i=> (8 - i).toNat) 0 ?_ ⟨by omega,by omega⟩ ?_
 ·simp [Z16]
 ·rintro i ⟨h1,h2⟩
  refine ZlT _ _ _ _ _ _ _ _ _ _ _ _ _ _ ?_;(try simp only [vcT,forall_eq])
  (simp only [vcS]);(try simp only [vcT])
  refine ⟨fun hc=> ⟨⟨hp.2.2,h1,by dsimp only;omega⟩,fun hn=> ⟨⟨h1,by omega⟩,⟨h1,by omega⟩,by unfold InR;omega,i+1,?_,⟨by omega,by omega⟩,by omega⟩,fun hn=> ⟨by unfold InR;omega,i+1,?_,⟨by omega,by omega⟩,by omega⟩⟩,fun hc=> ?_⟩
  ·rw [Zwh (Zc b) (by omega)]
   have hv:Zc b i.toNat=YD a b m i.toNat:=by
    unfold YD
    rw [show ((i.toNat:Nat):Int)=i by omega,hn]
    try rfl
   have st:∀ j:Nat,Z0u i j (Zc b i.toNat) (if (j:Int) < i then YD a b m j else Zc a j)=if (j:Int) < i+1 then YD a b m j else Zc a j:=fun j=> ZjU (F:=YD a b m) (G:=Zc a) h1 hv
   rw [st 0,st 1,st 2,st 3,st 4,st 5,st 6,st 7]
  ·have hv:YD a b m i.toNat=Zc a i.toNat:=by
    unfold YD
    rw [show ((i.toNat:Nat):Int)=i by omega,hn]
    try rfl
   have st:∀ j:Nat,(if (j:Int) < i then YD a b m j else Zc a j)=if (j:Int) < i+1 then YD a b m j else Zc a j:=fun j=> ZqH (F:=YD a b m) (G:=Zc a) hv h1
   rw [st 0,st 1,st 2,st 3,st 4,st 5,st 6,st 7]
  ·have:i=8:=by omega
   subst this
   refine ⟨⟨rfl,rfl,?_⟩,Yi rfl ?_⟩
   ·intro x hx
    simp at hx
    rcases hx with rfl | rfl | rfl | rfl | rfl | rfl | rfl | rfl <;> exact Z3z _ _ _ _
   ·try rfl
theorem Zl4{α:Type}{l:List α}{i:Nat}(h:i < l.length)(d:α):l.drop i=l.getD i d ::l.drop (i+1):=by
 rw [QI h]
 simp [List.getD,h]
theorem YL{α:Type}{l:List α}{i:Int}(h0:0<=i)(h:i < l.length)(d:α):l.drop i.toNat=l.getD i.toNat d ::l.drop (i+1).toNat:=by
 rw [Zl4 (by omega) d,show i.toNat+1=(i+1).toNat by omega]
theorem Zh{α:Type}{l:List α}{i:Nat}(h:i < l.length)(d:α):l.getD i d∈l:=by
 simp only [List.getD,Q0 h,X6]
 exact XU h
theorem Jb(t:Tree):1<=Zj t:=by cases t;simp only [Zj];omega
theorem Z7D(e:Edit):1<=Z5 e:=by cases e;simp only [Z5];omega
theorem Z7B(k:Kid):Jn k=Z5 k.e:=by cases k;rfl
theorem ZK(o:Op):Zs o=Z4 o.l+Z5 o.e:=by cases o;rfl
theorem YS:∀ {ks:List Tree} {t:Tree},t∈ks->Zj t<=Z4 ks
 | x ::r,t,h=> by
  simp only [Z4]
  rcases Qc.1 h with rfl | h
  ·omega
  ·have:=YS h;omega
theorem Jc:∀ {ks:List Kid} {k:Kid},k∈ks->Z5 k.e<=ZN ks
 | x ::r,k,h=> by
  simp only [ZN,Z7B]
  rcases Qc.1 h with rfl | h
  ·omega
  ·have:=Jc h;omega
theorem ZT:∀ {os:List Op} {o:Op},o∈os->Zs o<=Zg os
 | x ::r,o,h=> by
  simp only [Zg]
  rcases Qc.1 h with rfl | h
  ·omega
  ·have:=ZT h;omega
theorem YB:∀ (ks:List Kid),ks.length<=ZN ks
 | []=> by simp [ZN]
 | k ::r=> by
  have:=YB r
  have:=Z7D k.e
  simp only [ZN,Z7B,Q9]
  omega
theorem Y9:∀ (os:List Op),os.length<=Zg os
 | []=> by simp [Zg]
 | o ::r=> by
  have:=Y9 r
  have:=Z7D o.e
  simp only [Zg,ZK,Q9]
  omega
theorem Zae:∀ {ks:List Tree} {t:Tree},Z1N ks->t∈ks->Z3h t
 | x ::r,t,hs,h=> by
  simp only [Z1N] at hs
  rcases Qc.1 h with rfl | h
  ·exact hs.1
  ·exact Zae hs.2 h
theorem Z85:∀ {ks:List Kid} {k:Kid},Z41 ks->k∈ks->Z17 k.e
 | x ::r,k,hs,h=> by
  simp only [Z41] at hs
  rcases Qc.1 h with rfl | h
  ·have:=hs.1;obtain ⟨a,e⟩:=k;exact this
  ·exact Z85 hs.2 h
theorem Z84:∀ {os:List Op} {o:Op},Z40 os->o∈os->o.l.length<=17592186044416/\Z1N o.l/\Z17 o.e
 | x ::r,o,hs,h=> by
  simp only [Z40] at hs
  rcases Qc.1 h with rfl | h
  ·have:=hs.1;obtain ⟨a,b,c,e⟩:=o;exact this
  ·exact Z84 hs.2 h
theorem Z0p:∀ {ks:List Tree} {t:Tree},YG ks->t∈ks->rng t
 | x ::r,t,hs,h=> by
  simp only [YG] at hs
  rcases Qc.1 h with rfl | h
  ·exact hs.1
  ·exact Z0p hs.2 h
theorem YF:∀ {ks:List Kid} {k:Kid},Z25 ks->k∈ks->InR k.at_/\Yz k.e
 | x ::r,k,hs,h=> by
  simp only [Z25] at hs
  rcases Qc.1 h with rfl | h
  ·have:=hs.1;obtain ⟨a,e⟩:=k;exact this
  ·exact YF hs.2 h
theorem Z0U:∀ {os:List Op} {o:Op},Z1b os->o∈os->Z1D o
 | x ::r,o,hs,h=> by
  simp only [Z1b] at hs
  rcases Qc.1 h with rfl | h
  ·exact hs.1
  ·exact Z0U hs.2 h
theorem Z0I{o:Op}(h:Z1D o):InR o.kind/\InR o.n/\YG o.l/\Yz o.e:=by obtain ⟨a,b,c,e⟩:=o;exact h
theorem ZkS(k:Kid)(d n:Int):Z1J k d n=JX k.e d n:=by cases k;rfl
theorem ZnJ(o:Op)(d n:Int):Z3H o d n=if Zo o.l 80 n < 0 then Zo o.l 80 n else JX o.e d (Zo o.l 80 n):=by cases o;rfl
theorem Z7c(t:Tree)(n:Int)(h: -1<=n): -1<=sh1 t n/\sh1 t n<=n:=by
 unfold sh1
 split
 ·omega
 ·have:=Ye t 80 n;omega
mutual
theorem Z0t:∀ (e:Edit) (d n:Int),-1<=JX e d n/\JX e d n<=max n (-1)
 | .mk _ o nw w ks _ os,d,n=> by
  simp only [JX]
  split
  ·omega
  ·have h1:=Ye o 80 (n - 1 - w.length - os.length)
   have h2:=Z7c nw _ h1.1
   have h3:=Z0Q ks (d - 1) _ h2.1
   have h4:=Z0P os (d - 1) _ h3.1
   omega
theorem Z0Q:∀ (ks:List (KidOf Edit)) (d n:Int),-1<=n->-1<=Je ks d n/\Je ks d n<=n
 | [],d,n,h=> by simp only [Je];omega
 | k ::r,d,n,h=> by
  simp only [Je]
  split
  ·omega
  ·have h1:=Z4R k d n
   have h2:=Z0Q r d _ h1.1
   omega
theorem Z4R:∀ (k:KidOf Edit) (d n:Int),-1<=Z1J k d n/\Z1J k d n<=max n (-1)
 | ⟨_,e⟩,d,n=> by
  simp only [Z1J]
  exact Z0t e d n
theorem Z0P:∀ (os:List (OpOf Edit)) (d n:Int),-1<=n->-1<=Js os d n/\Js os d n<=n
 | [],d,n,h=> by simp only [Js];omega
 | o ::r,d,n,h=> by
  simp only [Js]
  split
  ·omega
  ·have h1:=Z6k o d n h
   have h2:=Z0P r d _ h1.1
   omega
theorem Z6k:∀ (o:OpOf Edit) (d n:Int),-1<=n->-1<=Z3H o d n/\Z3H o d n<=n
 | ⟨_,_,l,e⟩,d,n,h=> by
  simp only [Z3H]
  have h1:=JQ l 80 n h
  split
  ·omega
  ·have h2:=Z0t e d (Zo l 80 n)
   omega
end
theorem Zm3{t:Tree}{n:Int}(h:0<=sh1 t n):(Zj t:Int)+sh1 t n<=n:=by
 unfold sh1 at*
 split at h
 ·omega
 ·rename_i hn
  rw [if_neg hn]
  exact Z2E t 80 n h
mutual
theorem Z5k:∀ (e:Edit) (d n:Int),0<=JX e d n->(Z5 e:Int)+JX e d n<=n
 | .mk _ o nw w ks _ os,d,n,h=> by
  simp only [JX] at h ⊢
  split at h
  ·omega
  ·rename_i hc
   rw [if_neg hc]
   have r1:=Ye o 80 (n - 1 - w.length - os.length)
   have r2:=Z7c nw _ r1.1
   have r3:=Z0Q ks (d - 1) _ r2.1
   have r4:=Z0P os (d - 1) _ r3.1
   have m4:=Z8x os (d - 1) _ h
   have m3:=Z8y ks (d - 1) (sh1 nw (ZH o 80 (n - 1 - w.length - os.length))) (by omega)
   have m2:=Zm3 (t:=nw) (n:=ZH o 80 (n - 1 - w.length - os.length)) (by omega)
   have m1:=Z2E o 80 (n - 1 - w.length - os.length) (by omega)
   simp only [Z5]
   omega
theorem Z8y:∀ (ks:List (KidOf Edit)) (d n:Int),0<=Je ks d n->(ZN ks:Int)+Je ks d n<=n
 | [],d,n,h=> by simp only [Je,ZN];omega
 | k ::r,d,n,h=> by
  simp only [Je] at h ⊢
  split at h
  ·omega
  ·rename_i hc
   rw [if_neg hc]
   have r1:=Z4R k d n
   have r2:=Z0Q r d _ r1.1
   have m2:=Z8y r d _ h
   have m1:=ZdU k d n (by omega)
   simp only [ZN]
   omega
theorem ZdU:∀ (k:KidOf Edit) (d n:Int),0<=Z1J k d n->(Jn k:Int)+Z1J k d n<=n
 | ⟨_,e⟩,d,n,h=> by
  simp only [Z1J,Jn] at h ⊢
  exact Z5k e d n h
theorem Z8x:∀ (os:List (OpOf Edit)) (d n:Int),0<=Js os d n->(Zg os:Int)+Js os d n<=n
 | [],d,n,h=> by simp only [Js,Zg];omega
 | o ::r,d,n,h=> by
  simp only [Js] at h ⊢
  split at h
  ·omega
  ·rename_i hc
   rw [if_neg hc]
   have r1:=Z6k o d n (by omega)
   have r2:=Z0P r d _ r1.1
   have m2:=Z8x r d _ h
   have m1:=ZfI o d n (by omega)
   simp only [Zg]
   omega
theorem ZfI:∀ (o:OpOf Edit) (d n:Int),0<=Z3H o d n->(Zs o:Int)+Z3H o d n<=n
 | ⟨_,_,l,e⟩,d,n,h=> by
  simp only [Z3H,Zs] at h ⊢
  split at h
  ·omega
  ·rename_i hc
   rw [if_neg hc]
   have m2:=Z5k e d _ h
   have r2:=Z0t e d (Zo l 80 n)
   have m1:=Z1O l 80 n (by omega)
   omega
end
theorem Z7R{e:Edit}(h:0<=JX e 80 3000):Z5 e<=3000:=by
 have:=Z5k e 80 3000 h
 omega
theorem ZnI(t:Tree):t.words.length+t.kids.length < Zj t:=by
 obtain ⟨k,w,ks⟩:=t
 have:=Zt ks
 simp only [Zj,Tree.words_mk,Tree.kids_mk]
 omega
theorem YI(e:Edit):Zj e.old+Zj e.new+e.words.length+e.ops.length+ZN e.kids+Zg e.ops < Z5 e:=by
 obtain ⟨k,o,n,w,ks,l,os⟩:=e
 simp only [Z5,Edit.old_mk,Edit.new_mk,Edit.words_mk,Edit.ops_mk,Edit.kids_mk]
 omega
theorem c62:Contract Try.prog cfg 62 Z2D:=by
 refine Ztf ?_
 intro t _ hp
 simp only [Z3p] at hp
 have:=ZnI t
 refine Zx1 t _ ?_;(try simp only [vcT,forall_eq])
 refine ⟨fun _=> by unfold InR;omega,Zb rfl ?_⟩
 rw [Qx]
 simp only [YW]
 (simp only [vcS])
 omega
theorem c63:Contract Try.prog cfg 63 Z7a:=by
 refine Zte Zuf ?_
 intro w m _ hp
 refine Zx0 _ _ _ ?_;(try simp only [vcT,forall_eq])
 refine ⟨⟨hp.1,by dsimp only;omega,hp.2⟩,Zb rfl ?_⟩
 try rfl
theorem Zue:Contract Try.prog cfg 104 Z3Z:=by
 refine Zqk c62 ?_
 intro e _ hp
 simp only [Z58] at hp
 have h1:=YI e
 have h2:=YB e.kids
 refine ZvS e _ ?_;(try simp only [vcT,forall_eq])
 try (simp only [Tree.eta,Edit.eta,Tree.kind_mk,Tree.words_mk,Tree.kids_mk])
 refine ⟨fun _=> by simp only [Z3p];omega,fun _=> by simp only [Z3p];omega,fun _=> by unfold InR;omega,fun _=> by unfold InR;omega,Zb rfl ?_⟩
 rw [Qx]
 simp only [Z0A]
 (simp only [vcS])
 constructor
 ·rintro ⟨⟨⟨⟨h3,h4⟩,h5⟩,h6⟩,h7⟩;exact ⟨⟨⟨h3,h4⟩,h5⟩,by omega⟩
 ·rintro ⟨⟨⟨h3,h4⟩,h5⟩,h6⟩;exact ⟨⟨⟨⟨h3,h4⟩,h5⟩,by omega⟩,by omega⟩
theorem ZtB (e:Edit) (x4 x5 i:Int) (N0:LSt U->Prop) (Q:AExit->LSt U->Prop) (h1:0<=x4/\x4<=1048576) (h2:0<=x5/\x5<=1048576) (hi:0<=i) (hlen:e.ops.length<=20000000000)
  (ho:∀ o∈e.ops,(0<=o.n/\o.n<=1048576)/\o.l.length<=20000000000)
  (h:i < e.ops.length->N0 (Z1p e (min (if (e.ops.getD i.toNat Op.nil).kind=2 then x4 else x4+Z1 (e.ops.getD i.toNat Op.nil)) 1048576) (min (if (e.ops.getD i.toNat Op.nil).kind=1 then x5 else x5+Z1 (e.ops.getD i.toNat Op.nil)) 1048576) (i+1)))
  (h':¬i < e.ops.length->Q .ret (⟨[(2,.c (.int .i64 x4)),(3,.c (.int .i64 x5))],[],[]⟩:LSt U)):Zuo e x4 x5 i N0 Q:=by
 refine Zp7 _ _ _ _ _ _ ?_;(try simp only [vcT,forall_eq])
 (simp only [vcS]);(try simp only [vcT])
 refine ⟨fun hc=> ?_,h'⟩
 have hn:=h hc
 have hm:=ho _ (Zh (l:=e.ops) (i:=i.toNat) (by omega) Op.nil)
 have k1:∀ k,k=Z1 (e.ops.getD i.toNat Op.nil)->Zus e x4 x5 i k N0 Q:=by
  intro k hk
  have hkr:0<=k/\k<=60000000000:=by
   rw [hk];unfold Z1;split <;> omega
  have k2:∀ y,y=(if (e.ops.getD i.toNat Op.nil).kind=2 then x4 else x4+k)->Zur e x5 i k y N0 Q:=by
   intro y hy
   have hyr:0<=y/\y<=100000000000:=by rw [hy];split <;> omega
   have k3:∀ z,z=(if (e.ops.getD i.toNat Op.nil).kind=1 then x5 else x5+k)->Zuq e i k y z N0 Q:=by
    intro z hz
    have hzr:0<=z/\z<=100000000000:=by rw [hz];split <;> omega
    have k4:∀ u,u=min y 1048576->Zup e i y z u N0 Q:=by
     intro u hu
     refine Zp8 _ _ _ _ _ _ _ ?_;(try simp only [vcT,forall_eq])
     (simp only [vcS]);(try simp only [vcT])
     rw [<-hk,<-hy,<-hz,<-hu] at hn
     refine ⟨fun hq=> ⟨by unfold InR;omega,?_⟩,fun hq=> ⟨by unfold InR;omega,?_⟩⟩
     ·rw [show min z 1048576=1048576 by omega] at hn;exact hn
     ·rw [show min z 1048576=z by omega] at hn;exact hn
    refine Zp9 _ _ _ _ _ _ _ ?_;(try simp only [vcT,forall_eq])
    (simp only [vcS]);(try simp only [vcT])
    exact ⟨fun hq=> k4 _ (by omega),fun hq=> k4 _ (by omega)⟩
   refine Zpa _ _ _ _ _ _ _ ?_;(try simp only [vcT,forall_eq])
   (simp only [vcS]);(try simp only [vcT])
   exact ⟨fun hq=> ⟨by unfold InR;omega,k3 _ (by rw [if_neg hq])⟩,fun hq=> k3 _ (by rw [if_pos hq])⟩
  refine Zpb _ _ _ _ _ _ _ ?_;(try simp only [vcT,forall_eq])
  (simp only [vcS]);(try simp only [vcT])
  exact ⟨fun hq=> ⟨by unfold InR;omega,k2 _ (by rw [if_neg hq])⟩,fun hq=> k2 _ (by rw [if_pos hq])⟩
 exact ⟨⟨hi,hc⟩,by unfold InR;omega,fun hq=> k1 _ (by unfold Z1;rw [if_pos hq]),fun hq=> k1 _ (by unfold Z1;rw [if_neg hq])⟩
theorem c65:Contract Try.prog cfg 65 Z2C:=by
 refine Ztd ?_
 intro e _ hp
 simp only [Zfa] at hp
 have h1:=YI e
 refine ZwY e _ ?_;(try simp only [vcT,forall_eq])
 refine Za (ι:=Int × Int × Int) (fun p=> Z1p e p.1 p.2.1 p.2.2) (fun p=> 0<=p.2.2/\p.2.2<=e.ops.length/\(0<=p.1/\p.1<=1048576)/\(0<=p.2.1/\p.2.1<=1048576)/\Z0O (e.ops.drop p.2.2.toNat) p.1=Z0O e.ops 0/\Z0N (e.ops.drop p.2.2.toNat) p.2.1=Z0N e.ops 0) (fun p=> ((e.ops.length:Int) - p.2.2).toNat) (0,0,0) rfl ⟨by dsimp only;omega,by dsimp only;omega,by dsimp only;omega,by dsimp only;omega,by simp,by simp⟩ ?_
 rintro ⟨x4,x5,i⟩ ⟨h2,h3,h4,h5,h6,h7⟩
 dsimp only at*
 have ho:∀ o∈e.ops,(0<=o.n/\o.n<=1048576)/\o.l.length<=20000000000:=by
  intro o hm
  refine ⟨hp.2 o hm,?_⟩
  have a1:=ZT hm
  have a2:=Zt o.l
  rw [ZK] at a1
  omega
 refine ZtB e x4 x5 i _ _ h4 h5 h2 (by omega) ho (fun hc=> ⟨(_,_,i+1),rfl,⟨by dsimp only;omega,by dsimp only;omega,?_,?_,?_,?_⟩,by dsimp only;omega⟩) (fun hc=> ?_)
 ·have hm:=ho _ (Zh (l:=e.ops) (i:=i.toNat) (by omega) Op.nil)
  dsimp only
  unfold Z1
  split <;> (try split) <;> omega
 ·have hm:=ho _ (Zh (l:=e.ops) (i:=i.toNat) (by omega) Op.nil)
  dsimp only
  unfold Z1
  split <;> (try split) <;> omega
 ·rw [YL h2 hc Op.nil] at h6
  exact h6
 ·rw [YL h2 hc Op.nil] at h7
  exact h7
 ·rw [Qj (by omega)] at h6 h7
  simp only [Z0O,Z0N] at h6 h7
  simp only [Zm9,<-h6,<-h7]
  exact ⟨⟨rfl,⟨⟨rfl,rfl⟩,trivial⟩,rfl,⟨⟨rfl,rfl⟩,trivial⟩,trivial⟩,trivial⟩
theorem Zh6{l:List Kid}{d n:Int}(h:n < 0):Je l d n=n:=by cases l <;> simp [Je,h]
theorem Zh5{l:List Op}{d n:Int}(h:n < 0):Js l d n=n:=by cases l <;> simp [Js,h]
theorem Zd0{l:List Tree}{d n:Int}(h:n < 0):Zo l d n=n:=by cases l <;> simp [Zo,h]
theorem Zkf{e:Edit}(h:Z17 e):Z3h e.old/\Z3h e.new/\e.words.length<=17592186044416/\e.kids.length<=17592186044416/\e.ops.length<=17592186044416/\Z41 e.kids/\Z40 e.ops:=by
 obtain ⟨k,o,n,w,ks,l,os⟩:=e;exact h
theorem ZnK(e:Edit)(d n:Int):JX e d n=if d=0\/n - 1 - e.words.length - e.ops.length < 0 then -1 else Js e.ops (d - 1) (Je e.kids (d - 1) (sh1 e.new (ZH e.old 80 (n - 1 - e.words.length - e.ops.length)))):=by
 obtain ⟨k,o,nw,w,ks,l,os⟩:=e;rfl
theorem c90:Contract Try.prog cfg 90 Z9Y:=by
 refine Zt4 c78 ?_
 rintro N e d n _ hp hN
 simp only [Zax,Zfw] at hp hN
 obtain ⟨hs,hd0,hd1,hn0,hn1⟩:=hp
 obtain ⟨so,sn,lw,lk,lo,sk,sos⟩:=Zkf hs
 have hme:=YI e
 have hres:=ZnK e d n
 refine ZwN N e d n _ ?_;(try simp only [vcT,forall_eq])
 (simp only [vcS]);(try simp only [vcT])
 try (simp only [Tree.eta,Edit.eta,Tree.kind_mk,Tree.words_mk,Tree.kids_mk])
 refine ⟨by unfold InR;omega,by unfold InR;omega,by unfold InR;omega,fun hc=> Yi rfl (by rw [hres,if_pos hc]),fun hc=> ?_⟩
 rw [if_neg (by omega)] at hres
 have r1:=Ye e.old 80 (n - 1 - e.words.length - e.ops.length)
 have p68:∀ t m,Z3h t->-1<=m->m<=4611686018427387904->Z8g (t,80,m,()):=fun t m h1 h2 h3=> ⟨h1,by dsimp only;omega,by dsimp only;omega,h2,h3⟩
 have k0:∀ x,x=sh1 e.new (ZH e.old 80 (n - 1 - e.words.length - e.ops.length))->Zun N e d n x (Yw cfg Try.f90.ntmps Try.f90.results.toList (Zi7 (e,d,n,())) []):=by
  intro x hx
  have rx:=Z7c e.new _ r1.1
  rw [<-hx] at rx hres
  refine ZoX N e d n x _ ?_;(try simp only [vcT,forall_eq])
  refine Za (ι:=Int × Int) (fun p=> Z6q e d n p.1 p.2) (fun p=> 0<=p.2/\p.2<=e.kids.length/\-1<=p.1/\p.1<=4611686018427387904/\Je (e.kids.drop p.2.toNat) (d - 1) p.1=Je e.kids (d - 1) x) (fun p=> ((e.kids.length:Int) - p.2).toNat) (x,0) rfl ⟨by dsimp only;omega,by dsimp only;omega,by dsimp only;omega,by dsimp only;omega,by simp⟩ ?_
  rintro ⟨y,i⟩ ⟨h1,h2,h3,h4,h5⟩
  dsimp only at*
  refine ZoW N e d n y i _ _ ?_;(try simp only [vcT,forall_eq])
  (simp only [vcS]);(try simp only [vcT])
  try (simp only [Tree.eta,Edit.eta,Tree.kind_mk,Tree.words_mk,Tree.kids_mk])
  refine ⟨fun hi=> ?_,fun hi=> ?_⟩
  ·have hmem:=Zh (l:=e.kids) (i:=i.toNat) (by omega) (KidOf.mk 0 Edit.nil)
   have hsm:=Z85 sk hmem
   have hmm:=Jc hmem
   rw [YL h1 hi.1 (KidOf.mk 0 Edit.nil)] at h5
   simp only [Je] at h5
   rw [if_neg (by omega),ZkS] at h5
   have rr:=Z0t (e.kids.getD i.toNat (KidOf.mk 0 Edit.nil)).e (d - 1) y
   exact ⟨⟨h1,hi.1⟩,by unfold InR;omega,⟨hsm,by dsimp only;omega,by dsimp only;omega,h3,h4⟩,by simp only [Zfw];omega,by unfold InR;omega,(_,i+1),rfl,⟨by dsimp only;omega,by dsimp only;omega,by dsimp only;omega,by dsimp only;omega,h5⟩,by dsimp only;omega⟩
  ·have hy:Je e.kids (d - 1) x=y:=by
    rw [<-h5]
    by_cases hlt:i < e.kids.length
    ·exact Zh6 (by omega)
    ·rw [Qj (by omega)];try rfl
   rw [hy] at hres
   refine Za (ι:=Int × Int) (fun p=> Z3L e d n p.1 p.2) (fun p=> 0<=p.2/\p.2<=e.ops.length/\-1<=p.1/\p.1<=4611686018427387904/\Js (e.ops.drop p.2.toNat) (d - 1) p.1=Js e.ops (d - 1) y) (fun p=> ((e.ops.length:Int) - p.2).toNat) (y,0) rfl ⟨by dsimp only;omega,by dsimp only;omega,h3,h4,by simp⟩ ?_
   rintro ⟨z,j⟩ ⟨h6,h7,h8,h9,h10⟩
   dsimp only at*
   refine ZoV N e d n z j _ _ ?_;(try simp only [vcT,forall_eq])
   (simp only [vcS]);(try simp only [vcT])
   refine ⟨fun hj=> ?_,fun hj=> ?_⟩
   ·have hmem:=Zh (l:=e.ops) (i:=j.toNat) (by omega) Op.nil
    have hsm:=Z84 sos hmem
    have hmm:=ZT hmem
    rw [ZK] at hmm
    rw [YL h6 hj.1 Op.nil] at h10
    simp only [Js] at h10
    rw [if_neg (by omega),ZnJ] at h10
    refine Za (ι:=Int × Int) (fun p=> Z6p e d n j p.1 p.2) (fun p=> 0<=p.2/\p.2<=(e.ops.getD j.toNat Op.nil).l.length/\-1<=p.1/\p.1<=4611686018427387904/\Zo ((e.ops.getD j.toNat Op.nil).l.drop p.2.toNat) 80 p.1=Zo (e.ops.getD j.toNat Op.nil).l 80 z) (fun p=> (((e.ops.getD j.toNat Op.nil).l.length:Int) - p.2).toNat) (z,0) rfl ⟨by dsimp only;omega,by dsimp only;omega,h8,h9,by simp⟩ ?_
    rintro ⟨u,k⟩ ⟨g1,g2,g3,g4,g5⟩
    dsimp only at*
    refine ZoU N e d n j u k _ _ _ ?_;(try simp only [vcT,forall_eq])
    (simp only [vcS]);(try simp only [vcT])
    try (simp only [Tree.eta,Edit.eta,Tree.kind_mk,Tree.words_mk,Tree.kids_mk])
    refine ⟨⟨h6,hj.1⟩,fun hk=> ?_,fun hk=> ?_⟩
    ·have hmt:=Zh (l:=(e.ops.getD j.toNat Op.nil).l) (i:=k.toNat) (by omega) Tree.nil
     rw [YL g1 hk.1 Tree.nil] at g5
     simp only [Zo] at g5
     rw [if_neg (by omega)] at g5
     have rr:=Ye ((e.ops.getD j.toNat Op.nil).l.getD k.toNat Tree.nil) 80 u
     exact ⟨⟨h6,hj.1⟩,⟨g1,hk.1⟩,p68 _ _ (Zae hsm.2.1 hmt) g3 g4,by unfold InR;omega,(_,k+1),rfl,⟨by dsimp only;omega,by dsimp only;omega,by dsimp only;omega,by dsimp only;omega,g5⟩,by dsimp only;omega⟩
    ·have hu:Zo (e.ops.getD j.toNat Op.nil).l 80 z=u:=by
      rw [<-g5]
      by_cases hlt:k < (e.ops.getD j.toNat Op.nil).l.length
      ·exact Zd0 (by omega)
      ·rw [Qj (by omega)];try rfl
     rw [hu] at h10
     have rr:=Z0t (e.ops.getD j.toNat Op.nil).e (d - 1) u
     refine ⟨fun hq=> ⟨⟨h6,hj.1⟩,by unfold InR;omega,⟨hsm.2.2,by dsimp only;omega,by dsimp only;omega,g3,g4⟩,by simp only [Zfw];omega,by unfold InR;omega,(_,j+1),rfl,⟨by dsimp only;omega,by dsimp only;omega,by dsimp only;omega,by dsimp only;omega,?_⟩,by dsimp only;omega⟩,
      fun hq=> ⟨by unfold InR;omega,(_,j+1),rfl,⟨by dsimp only;omega,by dsimp only;omega,by dsimp only;omega,by dsimp only;omega,?_⟩,by dsimp only;omega⟩⟩
     ·rw [if_neg (by omega)] at h10;exact h10
     ·rw [if_pos (by omega)] at h10;exact h10
   ·refine Yi rfl ?_
    rw [hres,<-h10]
    by_cases hlt:j < e.ops.length
    ·exact (Zh5 (by omega)).symm
    ·rw [Qj (by omega)];try rfl
 refine ⟨p68 _ _ so (by omega) (by omega),fun hq=> ⟨p68 _ _ sn r1.1 (by omega),k0 _ ?_⟩,fun hq=> k0 _ ?_⟩
 ·unfold sh1;rw [if_neg (by omega)]
 ·unfold sh1;rw [if_pos (by omega)]
theorem c54:Contract Try.prog cfg 54 Za8:=by
 refine Zti c90 ?_
 intro e _ hp
 refine Zx5 e _ ?_;(try simp only [vcT,forall_eq])
 try (simp only [Tree.eta,Edit.eta,Tree.kind_mk,Tree.words_mk,Tree.kids_mk])
 exact ⟨⟨hp,by dsimp only;omega,by dsimp only;omega,by dsimp only;omega,by dsimp only;omega⟩,Zb rfl rfl⟩
theorem Z7h(e:Edit)(d:Int):Z6 e d=
  if d=0\/e.kind < 0\/3 < e.kind then false
  else if (e.kind≠1/\¬(YW e.old=true/\YW e.new=true))\/(e.kind≠2/\¬(e.words.length=0/\e.kids.length=0))\/(e.kind≠3/\(e.list≠0\/e.ops.length≠0)) then false
  else if e.kind=1 then Zq e.old (dT d) && Zq e.new (dT d) && decide (e.old.kind≠10/\e.new.kind≠10)
  else Y6 (-1) e.words && Zx (-1) e.kids (d - 1) && decide (¬(e.kind=3/\(e.list < 2\/9 < e.list))) && ZA e.list e.ops (d - 1) && decide (Z0O e.ops 0 < 1048576/\Z0N e.ops 0 < 1048576):=by
 obtain ⟨k,o,nw,w,ks,l,os⟩:=e;rfl
theorem Z3l(last:Int)(k:Kid)(d:Int):J5 last k d=(decide (last < k.at_/\k.at_<=65534/\k.e.kind≠0) && Z6 k.e d):=by cases k;rfl
theorem Z2F(list:Int)(o:Op)(d:Int):Zf list o d=
  if o.kind=0 then decide (1<=o.n/\o.n<=1048576/\o.l.length=0) && Z0A o.e
  else if o.n≠0\/o.kind < 0\/3 < o.kind then false
  else if o.kind < 3 then Y0 (dT d) list o.l && decide (0 < o.l.length) && Z0A o.e
  else decide (o.l.length=0/\o.e.kind≠0/\7 < list) && Z6 o.e d && decide (list=8\/o.e.kind=2\/o.e.kind=1/\o.e.old.kind=1/\o.e.new.kind=1):=by
 cases o;rfl
theorem Z7f{list:Int}{o:Op}{d:Int}(h:Zf list o d=true):0<=o.n/\o.n<=1048576:=by
 rw [Z2F] at h
 split at h
 ·simp only [Q1,decide_eq_true_eq] at h;omega
 ·split at h
  ·cases h
  ·rename_i h1;omega
theorem rightOs_mem{list d:Int}:∀ {os:List Op} {o:Op},ZA list os d=true->o∈os->Zf list o d=true
 | x ::r,o,h,hm=> by
  simp only [ZA,Q1] at h
  rcases Qc.1 hm with rfl | hm
  ·exact h.1
  ·exact rightOs_mem h.2 hm
theorem Z8d{d:Int}:∀ {ks:List Kid} {last:Int} {k:Kid},Zx last ks d=true->k∈ks->Z6 k.e d=true/\k.e.kind≠0
 | x ::r,last,k,h,hm=> by
  simp only [Zx,Q1] at h
  rcases Qc.1 hm with rfl | hm
  ·have:=h.1;rw [Z3l] at this;simp only [Q1,decide_eq_true_eq] at this;exact ⟨this.2,this.1.2.2⟩
  ·exact Z8d h.2 hm
theorem Z5R{e:Edit}(h:Yz e):InR e.kind/\rng e.old/\rng e.new/\(∀ x∈e.words,ZeQ x)/\InR e.list/\Z25 e.kids/\Z1b e.ops:=by
 obtain ⟨k,o,n,w,ks,l,os⟩:=e;exact h
theorem b23:ZwI:=by
 intro N e d _ hp hN
 simp only [Z8h,ZdP] at hp hN
 obtain ⟨⟨hm,hr⟩,hd0,hd1⟩:=hp
 obtain ⟨ik,ro,rn,rw',il,rk,ros⟩:=Z5R hr
 have hme:=YI e
 have hkl:=YB e.kids
 have hol:=Y9 e.ops
 have hat:=Z7h e d
 rw [Zsd hd0] at hat
 refine Zxb N e d _ ?_;(try simp only [vcT,forall_eq])
 (simp only [vcS]);(try simp only [vcT]);(try simp only [vcU])
 try (simp only [Tree.eta,Edit.eta,Tree.kind_mk,Tree.words_mk,Tree.kids_mk])
 refine ⟨fun hc=> Zb rfl (by rw [hat,if_pos (by omega)]),fun hc=> ?_⟩
 rw [if_neg (by omega)] at hat
 refine ⟨fun _=> by simp only [Z3p];omega,fun _=> by simp only [Z3p];omega,fun _=> by unfold InR;omega,fun hf=> Zb rfl ?_,fun hf=> ⟨fun h1=> ⟨⟨by dsimp only;omega,ro,by dsimp only;omega,by dsimp only;omega⟩,fun _=> ⟨by dsimp only;omega,rn,by dsimp only;omega,by dsimp only;omega⟩,Zb rfl ?_⟩,fun h1=> ?_⟩⟩
 ·rw [hat,if_pos]
  rcases hf with (hf | hf) | hf
  ·left
   refine ⟨hf.1,fun h=> ?_⟩
   rcases hf.2 with h2 | h2
   ·rw [h.1] at h2;cases h2
   ·rw [h.2] at h2;cases h2
  ·right;left;omega
  ·right;right;omega
 ·rw [hat,if_neg,if_pos h1,Qx]
  ·(simp only [vcS])
   constructor
   ·rintro ⟨⟨⟨h2,h3⟩,h4⟩,h5⟩;exact ⟨⟨h2,h3⟩,h4,h5⟩
   ·rintro ⟨⟨h2,h3⟩,h4,h5⟩;exact ⟨⟨⟨h2,h3⟩,h4⟩,h5⟩
  ·intro h
   rcases h with h | h | h
   ·exact h.1 h1
   ·omega
   ·omega
 ·rw [if_neg,if_neg h1] at hat
  ·refine Za (ι:=Int × Int) (fun p=> Z6M e d p.1 p.2) (fun p=> 0<=p.2/\p.2<=e.words.length/\Y6 p.1 (e.words.drop p.2.toNat)=Y6 (-1) e.words) (fun p=> ((e.words.length:Int) - p.2).toNat) (-1,0) rfl ⟨by dsimp only;omega,by dsimp only;omega,by simp⟩ ?_
   rintro ⟨last,i⟩ ⟨h2,h3,h4⟩
   dsimp only at*
   refine Zpl N e d last i _ _ ?_;(try simp only [vcT,forall_eq])
   (simp only [vcS]);(try simp only [vcT]);(try simp only [vcU])
   try (simp only [Tree.eta,Edit.eta,Tree.kind_mk,Tree.words_mk,Tree.kids_mk])
   refine ⟨fun hi=> ?_,fun hi=> ?_⟩
   ·have hmem:=Zh (l:=e.words) (i:=i.toNat) (by omega) (WEdit.mk 0 0 0 0)
    have hrw:=rw' _ hmem
    rw [YL h2 hi (WEdit.mk 0 0 0 0)] at h4
    simp only [Y6] at h4
    generalize e.words.getD i.toNat (WEdit.mk 0 0 0 0)=w at*
    obtain ⟨_,hmk,hwo,hwn⟩:=hrw
    refine ⟨⟨h2,hi⟩,fun _=> ⟨hwo,hmk⟩,fun _=> ⟨hwn,hmk⟩,fun hq=> Zb rfl ?_,fun hq=> ⟨by unfold InR;omega,(_,i+1),rfl,⟨by dsimp only;omega,by dsimp only;omega,?_⟩,by dsimp only;omega⟩⟩
    ·rw [hat,<-h4]
     rcases hq with (hq | hq) | hq
     ·rw [decide_eq_false (by omega)];try rfl
     ·rw [hq];simp
     ·rw [hq];simp
    ·dsimp only
     rw [<-h4,decide_eq_true (by omega),hq.1.2,hq.2];try rfl
   ·have hw:Y6 (-1) e.words=true:=by
     rw [<-h4,Qj (by omega)];try rfl
    rw [hw,Qz] at hat
    refine Za (ι:=Int × Int) (fun p=> Z6L e d p.1 p.2) (fun p=> 0<=p.2/\p.2<=e.kids.length/\Zx p.1 (e.kids.drop p.2.toNat) (d - 1)=Zx (-1) e.kids (d - 1)) (fun p=> ((e.kids.length:Int) - p.2).toNat) (-1,0) rfl ⟨by dsimp only;omega,by dsimp only;omega,by simp⟩ ?_
    rintro ⟨last,i⟩ ⟨h2,h3,h4⟩
    dsimp only at*
    refine Zpk N e d last i _ _ ?_;(try simp only [vcT,forall_eq])
    (simp only [vcS]);(try simp only [vcT]);(try simp only [vcU])
    try (simp only [Tree.eta,Edit.eta,Tree.kind_mk,Tree.words_mk,Tree.kids_mk])
    refine ⟨fun hi=> ?_,fun hi=> ?_⟩
    ·have hmem:=Zh (l:=e.kids) (i:=i.toNat) (by omega) (KidOf.mk 0 Edit.nil)
     have hrw:=YF rk hmem
     have hmm:=Jc hmem
     rw [YL h2 hi (KidOf.mk 0 Edit.nil)] at h4
     simp only [Zx,Z3l] at h4
     generalize e.kids.getD i.toNat (KidOf.mk 0 Edit.nil)=w at*
     refine ⟨⟨h2,hi⟩,fun _=> by unfold InR;omega,fun _=> ⟨⟨by dsimp only;omega,hrw.2⟩,by dsimp only;omega,by dsimp only;omega⟩,fun _=> by simp only [ZdP];omega,fun hq=> Zb rfl ?_,fun hq=> ⟨by unfold InR;omega,(_,i+1),rfl,⟨by dsimp only;omega,by dsimp only;omega,?_⟩,by dsimp only;omega⟩⟩
     ·rw [hat,<-h4]
      rcases hq with hq | hq
      ·rw [decide_eq_false (by omega)];try rfl
      ·rw [hq];simp
     ·dsimp only
      rw [<-h4,decide_eq_true (by omega),hq.2];try rfl
    ·have hw:Zx (-1) e.kids (d - 1)=true:=by
      rw [<-h4,Qj (by omega)];try rfl
     rw [hw,Qz] at hat
     refine ⟨fun hq=> Zb rfl (by rw [hat,decide_eq_false (by omega)];rfl),fun hq=> ?_⟩
     rw [decide_eq_true (by omega),Qz] at hat
     refine Za (ι:=Int) (fun p=> Z6K e d p) (fun p=> 0<=p/\p<=e.ops.length/\ZA e.list (e.ops.drop p.toNat) (d - 1)=ZA e.list e.ops (d - 1)) (fun p=> ((e.ops.length:Int) - p).toNat) 0 rfl ⟨by omega,by omega,by simp⟩ ?_
     rintro j ⟨h5,h6,h7⟩
     refine Zpj N e d j _ _ ?_;(try simp only [vcT,forall_eq])
     (simp only [vcS]);(try simp only [vcT]);(try simp only [vcU])
     try (simp only [Tree.eta,Edit.eta,Tree.kind_mk,Tree.words_mk,Tree.kids_mk])
     refine ⟨fun hj=> ?_,fun hj=> ?_⟩
     ·have hmem:=Zh (l:=e.ops) (i:=j.toNat) (by omega) Op.nil
      have hro:=Z0U ros hmem
      have hmm:=ZT hmem
      rw [YL h5 hj Op.nil] at h7
      simp only [ZA] at h7
      generalize e.ops.getD j.toNat Op.nil=o at*
      refine ⟨⟨h5,hj⟩,by unfold InR;omega,⟨⟨by show Zs o<=20000000000;omega,hro,il⟩,by dsimp only;omega,by dsimp only;omega⟩,?_,fun hq=> Zb rfl ?_,fun hq=> ⟨by unfold InR;omega,j+1,rfl,⟨by omega,by omega,?_⟩,by omega⟩⟩
      ·show 2*Zs o+1 < N
       omega
      ·have hq':Zf e.list o (d - 1)=false:=hq
       rw [hat,<-h7,hq'];try rfl
      ·have hq':Zf e.list o (d - 1)=true:=hq
       rw [<-h7,hq'];try rfl
     ·have hw:ZA e.list e.ops (d - 1)=true:=by
       rw [<-h7,Qj (by omega)];try rfl
      rw [hw,Qz] at hat
      refine ⟨⟨hm,fun o ho=> Z7f (rightOs_mem hw ho)⟩,Zb rfl ?_⟩
      rw [hat,Qx]
      (simp only [vcS])
  ·intro h
   rcases h with h | h | h
   ·rcases hf.1.1 with h2 | h2
    ·exact h1 h2
    ·exact h.2 h2
   ·omega
   ·omega
theorem ZbJ{l:List Tree}{i:Int}(h0:0<=i)(h:i < l.length):List.drop i.toNat (l.take (i+1).toNat)=[l.getD i.toNat Tree.nil]:=by
 rw [List.drop_take,show (i+1).toNat - i.toNat=1 by omega,YL h0 h Tree.nil]
 try rfl
theorem b64:ZwG:=by
 intro N list o d _ hp hN
 simp only [Zcd,ZkI] at hp hN
 obtain ⟨⟨hm,hr,hil⟩,hd0,hd1⟩:=hp
 obtain ⟨ik,inn,rl,re⟩:=Z0I hr
 rw [ZK] at hm hN
 have hll:=Zt o.l
 have hep:=Z7D o.e
 have hat:=Z2F list o d
 rw [Zsd hd0,ZbT] at hat
 refine ZwZ N list o d _ ?_;(try simp only [vcT,forall_eq])
 (simp only [vcS]);(try simp only [vcT]);(try simp only [vcU])
 try (simp only [Tree.eta,Edit.eta,Tree.kind_mk,Tree.words_mk,Tree.kids_mk])
 refine ⟨fun h0=> ⟨fun _=> by simp only [Z58];omega,Zb rfl ?_⟩,fun h0=> ⟨fun hc=> Zb rfl ?_,fun hc=> ⟨fun h3=> ?_,fun h3=> ⟨fun _=> ⟨⟨by dsimp only;omega,re⟩,hd0,hd1⟩,fun _=> by simp only [ZdP];omega,fun hq=> Zb rfl ?_,fun hq=> Zb rfl ?_⟩⟩⟩⟩
 ·rw [hat,if_pos h0,Qx]
  (simp only [vcS])
  constructor
  ·rintro ⟨h1,h2⟩;exact ⟨by omega,h2⟩
  ·rintro ⟨h1,h2⟩;exact ⟨by omega,h2⟩
 ·rw [hat,if_neg h0,if_pos (by omega)]
 ·rw [if_neg h0,if_neg (by omega),if_pos h3] at hat
  refine Za (ι:=Int) (fun p=> Z6E list o d p) (fun p=> 0<=p/\p<=o.l.length/\Z2y list (o.l.drop p.toNat)=Z2y list o.l) (fun p=> ((o.l.length:Int) - p).toNat) 0 rfl ⟨by omega,by omega,by simp⟩ ?_
  rintro i ⟨h4,h5,h6⟩
  refine Zpc N list o d i _ _ ?_;(try simp only [vcT,forall_eq])
  (simp only [vcS]);(try simp only [vcT]);(try simp only [vcU])
  try (simp only [Tree.eta,Edit.eta,Tree.kind_mk,Tree.words_mk,Tree.kids_mk])
  refine ⟨fun hi=> ?_,fun hi=> ?_⟩
  ·have hmem:=Zh (l:=o.l) (i:=i.toNat) (by omega) Tree.nil
   have hrt:=Z0p rl hmem
   have hmt:=YS hmem
   rw [ZbJ h4 hi]
   rw [YL h4 hi Tree.nil] at h6
   simp only [Z2y] at h6
   generalize o.l.getD i.toNat Tree.nil=t at*
   refine ⟨by unfold InR;omega,by omega,⟨by simp only [Zj,Z4,List.length_nil];omega,⟨hil,fun x hx=> (by cases hx),hrt,trivial⟩,by dsimp only;omega,by dsimp only;omega⟩,fun hq=> Zb rfl ?_,fun hq=> ⟨by unfold InR;omega,i+1,rfl,⟨by omega,by omega,?_⟩,by omega⟩⟩
   ·rw [hat,<-h6,hq];try rfl
   ·rw [<-h6,hq];try rfl
  ·have hw:Z2y list o.l=true:=by
    rw [<-h6,Qj (by omega)];try rfl
   rw [hw,Qz] at hat
   refine ⟨fun _=> by simp only [Z58];omega,Zb rfl ?_⟩
   rw [hat,Qx]
   (simp only [vcS])
   simp only [Int.natCast_pos]
 ·rw [hat,if_neg h0,if_neg (by omega),if_neg h3]
  rcases hq with hq | hq
  ·have:¬(o.l.length=0/\o.e.kind≠0/\7 < list):=by omega
   rw [decide_eq_false this];try rfl
  ·rw [hq];simp
 ·rw [hat,if_neg h0,if_neg (by omega),if_neg h3,hq.2]
  have:o.l.length=0/\o.e.kind≠0/\7 < list:=by omega
  rw [decide_eq_true this,Qx]
  (simp only [vcS])
  simp only [true_and,QX,decide_eq_true_eq,and_assoc,or_assoc]
theorem ZtL:Contract Try.prog cfg 23 Zaa/\Contract Try.prog cfg 64 Zm1:=ZkP c62 c63 Zue c37 c65 b23 b64
theorem Z4i(e:Edit):ZU e=(decide (Z0O e.ops 0<=2000/\Z0N e.ops 0<=2000) && YQ e.kids && ZI e.ops):=by
 obtain ⟨k,o,nw,w,ks,l,os⟩:=e;rfl
theorem Z8w(k:Kid):ZfH k=ZU k.e:=by cases k;rfl
theorem Zb9(o:Op):Z6j o=ZU o.e:=by cases o;rfl
theorem Z7g{e:Edit}{d:Int}(h:Z6 e d=true):(∀ k∈e.kids,Z6 k.e (d - 1)=true/\k.e.kind≠0)/\∀ o∈e.ops,Zf e.list o (d - 1)=true:=by
 rw [Z7h] at h
 split at h
 ·cases h
 ·split at h
  ·cases h
  ·rename_i h1 h2
   split at h
   ·rename_i h3
    have hk:e.kids=[]:=Q3 (by omega)
    have ho:e.ops=[]:=Q3 (by omega)
    rw [hk,ho]
    exact ⟨fun k hk=> (by cases hk),fun o ho=> (by cases ho)⟩
   ·simp only [Q1] at h
    exact ⟨fun k hk=> Z8d h.1.1.1.2 hk,fun o ho=> rightOs_mem h.1.2 ho⟩
theorem ZeP{e:Edit}(h:Z0A e=true):e.kind=0/\YW e.old=true/\YW e.new=true/\e.words=[]/\e.kids=[]/\e.ops=[]/\e.list=0:=by
 simp only [Z0A,Q1,decide_eq_true_eq] at h
 obtain ⟨⟨⟨h1,h2⟩,h3⟩,h4,h5,h6,h7⟩:=h
 exact ⟨h1,h2,h3,Q3 h4,Q3 h5,Q3 h6,h7⟩
theorem Z87{e:Edit}(h:Z0A e=true)(d:Int)(hd:d≠0):Z6 e d=true:=by
 obtain ⟨h1,h2,h3,h4,h5,h6,h7⟩:=ZeP h
 rw [Z7h,h1,h2,h3,h4,h5,h6,h7,if_neg (by omega),if_neg (by simp),if_neg (by omega)]
 simp [Y6,Zx,ZA,Z0O,Z0N]
theorem ZbD{list:Int}{o:Op}{d:Int}(h:Zf list o d=true):∃ d',Z6 o.e d'=true:=by
 rw [Z2F] at h
 split at h
 ·simp only [Q1] at h
  exact ⟨1,Z87 h.2 1 (by omega)⟩
 ·split at h
  ·cases h
  ·split at h
   ·simp only [Q1] at h
    exact ⟨1,Z87 h.2 1 (by omega)⟩
   ·simp only [Q1] at h
    exact ⟨d,h.1.2⟩
theorem c55:Contract Try.prog cfg 55 Za7:=by
 refine Zth c65 ?_
 intro N e _ hp hN
 simp only [Zaz,Zfx] at hp hN
 obtain ⟨⟨hm,hr⟩,dd,hrt⟩:=hp
 obtain ⟨ik,ro,rn,rw',il,rk,ros⟩:=Z5R hr
 have hme:=YI e
 have hkl:=YB e.kids
 have hol:=Y9 e.ops
 have hat:=Z4i e
 obtain ⟨hrk,hro⟩:=Z7g hrt
 refine Zx4 N e _ ?_;(try simp only [vcT,forall_eq])
 (simp only [vcS]);(try simp only [vcT]);(try simp only [vcU])
 try (simp only [Tree.eta,Edit.eta,Tree.kind_mk,Tree.words_mk,Tree.kids_mk])
 refine ⟨⟨hm,fun o ho=> Z7f (hro o ho)⟩,fun hq=> Zb rfl (by rw [hat,decide_eq_false (by omega)];rfl),fun hq=> ?_⟩
 rw [decide_eq_true (by omega),Qz] at hat
 refine Za (ι:=Int) (fun p=> Z6H e p) (fun p=> 0<=p/\p<=e.kids.length/\YQ (e.kids.drop p.toNat)=YQ e.kids) (fun p=> ((e.kids.length:Int) - p).toNat) 0 rfl ⟨by omega,by omega,by simp⟩ ?_
 rintro i ⟨h4,h5,h6⟩
 refine Zpg N e i _ _ ?_;(try simp only [vcT,forall_eq])
 (simp only [vcS]);(try simp only [vcT]);(try simp only [vcU])
 try (simp only [Tree.eta,Edit.eta,Tree.kind_mk,Tree.words_mk,Tree.kids_mk])
 refine ⟨fun hi=> ?_,fun hi=> ?_⟩
 ·have hmem:=Zh (l:=e.kids) (i:=i.toNat) (by omega) (KidOf.mk 0 Edit.nil)
  have hrr:=YF rk hmem
  have hmm:=Jc hmem
  have hri:=hrk _ hmem
  rw [YL h4 hi (KidOf.mk 0 Edit.nil)] at h6
  simp only [YQ,Z8w] at h6
  generalize e.kids.getD i.toNat (KidOf.mk 0 Edit.nil)=k at*
  refine ⟨⟨h4,hi⟩,⟨⟨by dsimp only;omega,hrr.2⟩,_,hri.1⟩,by simp only [Zfx];omega,fun hq=> Zb rfl (by rw [hat,<-h6,hq];rfl),fun hq=> ⟨by unfold InR;omega,i+1,rfl,⟨by omega,by omega,by rw [<-h6,hq];rfl⟩,by omega⟩⟩
 ·have hw:YQ e.kids=true:=by
   rw [<-h6,Qj (by omega)];try rfl
  rw [hw,Qz] at hat
  refine Za (ι:=Int) (fun p=> Z6G e p) (fun p=> 0<=p/\p<=e.ops.length/\ZI (e.ops.drop p.toNat)=ZI e.ops) (fun p=> ((e.ops.length:Int) - p).toNat) 0 rfl ⟨by omega,by omega,by simp⟩ ?_
  rintro j ⟨g4,g5,g6⟩
  refine Zpf N e j _ _ ?_;(try simp only [vcT,forall_eq])
  (simp only [vcS]);(try simp only [vcT]);(try simp only [vcU])
  try (simp only [Tree.eta,Edit.eta,Tree.kind_mk,Tree.words_mk,Tree.kids_mk])
  refine ⟨fun hi=> ?_,fun hi=> ?_⟩
  ·have hmem:=Zh (l:=e.ops) (i:=j.toNat) (by omega) Op.nil
   have hrr:=Z0I (Z0U ros hmem)
   have hmm:=ZT hmem
   have hri:=ZbD (hro _ hmem)
   rw [ZK] at hmm
   rw [YL g4 hi Op.nil] at g6
   simp only [ZI,Zb9] at g6
   generalize e.ops.getD j.toNat Op.nil=o at*
   refine ⟨⟨g4,hi⟩,⟨⟨by dsimp only;omega,hrr.2.2.2⟩,hri⟩,by simp only [Zfx];omega,fun hq=> Zb rfl (by rw [hat,<-g6,hq];rfl),fun hq=> ⟨by unfold InR;omega,j+1,rfl,⟨by omega,by omega,by rw [<-g6,hq];rfl⟩,by omega⟩⟩
  ·refine Zb rfl ?_
   rw [hat,<-g6,Qj (by omega)];try rfl
theorem c15:Contract Try.prog cfg 15 Zac:=by
 refine Ztp c54 ZtL.1 c55 ?_
 intro e _ hp
 simp only [Zfe] at hp
 refine Zxd e _ ?_;(try simp only [vcT,forall_eq])
 try (simp only [Tree.eta,Edit.eta,Tree.kind_mk,Tree.words_mk,Tree.kids_mk])
 refine ⟨hp.1,fun hf=> ?_,fun hf=> ?_,Zb rfl ?_⟩
 ·have:=Z7R (by simpa using hf)
  exact ⟨⟨by dsimp only;omega,hp.2⟩,by dsimp only;omega,by dsimp only;omega⟩
 ·simp only [Zol,decide_eq_true_eq] at hf
  have:=Z7R hf.1
  exact ⟨⟨by dsimp only;omega,hp.2⟩,64,hf.2⟩
 ·show _=Jt e
  simp only [Jt]
  rw [Qx]
  (simp only [vcS])
end Go.AM.Ytpjenobkibfpcaa
namespace Go.AM
noncomputable def eqX{α:Type}(a b:α):Bool:=@decide (a=b) (Classical.propDecidable _)
theorem Jz{α:Type}{a b:α}:eqX a b=true↔a=b:=by unfold eqX;exact @decide_eq_true_iff _ (Classical.propDecidable _)
@[simp] theorem Zbj {α:Type} (a:α):eqX a a=true:=Jz.2 rfl
def Zp(o:Op)(n:Int):Op:=if Z1 o<=n then o else if o.kind=0 then ⟨o.kind,n,o.l,o.e⟩ else ⟨o.kind,o.n,o.l.take n.toNat,o.e⟩
def Ym(o:Op)(n:Int):Op:=if o.kind=0 then ⟨o.kind,o.n - n,o.l,o.e⟩ else ⟨o.kind,o.n,o.l.drop n.toNat,o.e⟩
def Zu(l:List Op)(n:Int):List Op:=if Z1 (l.getD 0 Op.nil)<=n then l.drop 1 else Ym (l.getD 0 Op.nil) n ::l.drop 1
def sgl(a:Int)(l:List Op):Bool:=decide (l.length≠0/\(l.getD 0 Op.nil).kind=a)
def ZO(o:Op):Prop:=
 (o.kind=0/\o.l=[]/\(1<=o.n/\o.n<=1048576)/\o.e=Edit.nil)\/((o.kind=1\/o.kind=2)/\o.n=0/\o.l≠[]/\o.e=Edit.nil)\/(o.kind=3/\o.n=0/\o.l=[])
def Z7w(l:List Op):Prop:=(∀ o∈l,ZO o)/\Zg l<=20000000000
theorem ZY(l:List Op)(n:Int)(h:l.length≠0):(Zu l n).length<=l.length:=by
 unfold Zu
 split <;> simp <;> omega
theorem ZX(l:List Op)(n:Int)(h:l.length≠0)(hn:Z1 (l.getD 0 Op.nil)<=n):(Zu l n).length < l.length:=by
 unfold Zu
 rw [if_pos hn]
 simp;omega
def ZG(ap aq:Int)(p q:List Op)(out:List Piece):List Piece × Bool × List Op × List Op:=
 if h:sgl ap p=true then ZG ap aq (p.drop 1) q (out++[⟨1,p.getD 0 Op.nil,Op.nil⟩])
 else if h2:sgl aq q=true then ZG ap aq p (q.drop 1) (out++[⟨2,Op.nil,q.getD 0 Op.nil⟩])
 else if h3:p.length=0\/q.length=0 then
  if decide (p.length=0)=decide (q.length=0) then (out,true,p,q) else ([],false,p,q)
 else
  ZG ap aq (Zu p (min (Z1 (p.getD 0 Op.nil)) (Z1 (q.getD 0 Op.nil)))) (Zu q (min (Z1 (p.getD 0 Op.nil)) (Z1 (q.getD 0 Op.nil))))
   (out++[⟨0,Zp (p.getD 0 Op.nil) (min (Z1 (p.getD 0 Op.nil)) (Z1 (q.getD 0 Op.nil))),Zp (q.getD 0 Op.nil) (min (Z1 (p.getD 0 Op.nil)) (Z1 (q.getD 0 Op.nil)))⟩])
termination_by p.length+q.length
decreasing_by
 ·have:=(of_decide_eq_true h).1;rw [X7];omega
 ·have:=(of_decide_eq_true h2).1;rw [X7];omega
 ·rcases Int.le_total (Z1 (p.getD 0 Op.nil)) (Z1 (q.getD 0 Op.nil)) with hm | hm
  ·have a:=ZX p _ (by omega) (Xc (Z1 (p.getD 0 Op.nil)))
   have b:=ZY q (Z1 (p.getD 0 Op.nil)) (by omega)
   rw [Int.min_eq_left hm];omega
  ·have a:=ZX q _ (by omega) (Xc (Z1 (q.getD 0 Op.nil)))
   have b:=ZY p (Z1 (q.getD 0 Op.nil)) (by omega)
   rw [Int.min_eq_right hm];omega
def ZcR(i alone:Int)(o:Op):List AUnit:=
 (if o.kind=0 then List.replicate o.n.toNat ⟨i,0,Tree.nil,Edit.nil,false⟩ else [])
  ++(o.l.map (fun t=> ⟨i,o.kind,t,Edit.nil,decide (o.kind=alone)⟩)
  ++(if o.kind=3 then [⟨i,3,Tree.nil,o.e,false⟩] else []))
def Z1V:List Op->Int
 | []=> 0
 | o ::r=> Z1 o+Z1V r
def opU(u:AUnit):Op:=if u.kind=0 then ⟨0,1,[],Edit.nil⟩ else if u.kind=3 then ⟨3,0,[],u.e⟩ else ⟨u.kind,0,[u.t],Edit.nil⟩
end Go.AM
