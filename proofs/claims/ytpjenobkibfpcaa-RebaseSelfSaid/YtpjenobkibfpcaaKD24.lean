import Derived.Test.YtpjenobkibfpcaaKD20
import Derived.Test.YtpjenobkibfpcaaKRB07
import Derived.Test.YtpjenobkibfpcaaCmZ
set_option linter.unusedSimpArgs false
set_option linter.unusedVariables false
namespace Go.AM.Ytpjenobkibfpcaa
open Go.AM Go.Proofs
noncomputable section
def Zqa:ArgL (Int × Unit):=(.cons (Jd .u64) .nil)
def Zgn(a:Int × Unit):Prop:=0<=a.1/\a.1 < 18446744073709551616
def ZnH(a:Int × Unit):V U:= .agg [.int .u8 (Ze a.1 0),.int .u8 (Ze a.1 1),.int .u8 (Ze a.1 2),.int .u8 (Ze a.1 3),.int .u8 (Ze a.1 4),.int .u8 (Ze a.1 5),.int .u8 (Ze a.1 6),.int .u8 (Ze a.1 7)]
def ZaU:Fs U:=fs Zqa (fun a=> [Zgn a]) ZnH
def Zq9:ArgL (Int × Int × Unit):=(.cons (Jd .u8) (.cons (Jd .i64) .nil))
def ZjK(a:Int × Int × Unit):Prop:=(0<=a.1/\a.1 < 256)/\0<=a.2.1/\a.2.1<=8
def ZtT(a:Int × Int × Unit):V U:= .c (.bool (Z2I a.1 a.2.1))
def ZaT:Fs U:=fs Zq9 (fun a=> [ZjK a]) ZtT
def Zq8:ArgL (List Int × Int × Unit):=(.cons (aSl .u8) (.cons (Jd .i64) .nil))
def Zoc(a:List Int × Int × Unit):Prop:=a.2.1=0/\a.1.length=8/\∀ x∈a.1,0<=x/\x < 256
def ZtS(a:List Int × Int × Unit):V U:= .c (.int .u64 (of8 (fun i=> a.1.getD i 0)))
def ZaS:Fs U:=fs Zq8 (fun a=> [Zoc a]) ZtS
def Zlm:ArgL (Int × Int × Int × Unit):=(.cons (Jd .u64) (.cons (Jd .u64) (.cons (Jd .u8) .nil)))
def ZeL(a:Int × Int × Int × Unit):Prop:=(0<=a.1/\a.1 < 18446744073709551616)/\(0<=a.2.1/\a.2.1 < 18446744073709551616)/\(0<=a.2.2.1/\a.2.2.1 < 256)
def Zo0(a:Int × Int × Int × Unit):V U:= .c (.int .u64 (mix a.1 a.2.1 a.2.2.1))
def Z6p:Fs U:=fs Zlm (fun a=> [ZeL a]) Zo0
def Z3Z(a:Tree × Unit):Prop:=Zm a.1<=20000000000
def ZtW(a:Tree × Unit):V U:= .c (.bool (Jf a.1))
def Z3a:Fs U:=fs ZiZ (fun a=> [Z3Z a]) ZtW
def Zqd:ArgL (Int × Int × Unit):=(.cons (Jd .u64) (.cons (Jd .u8) .nil))
def ZjL(a:Int × Int × Unit):Prop:=(0<=a.1/\a.1 < 18446744073709551616)/\(0<=a.2.1/\a.2.1 < 256)
def ZtV(a:Int × Int × Unit):V U:= .c (.bool (Yu a.1 a.2.1))
def Z7Y:Fs U:=fs Zqd (fun a=> [ZjL a]) ZtV
def Zll:ArgL (Edit × Unit):=(.cons (aEl .edit) .nil)
def Z5O(a:Edit × Unit):Prop:=Z7 a.1<=20000000000
def ZnZ(a:Edit × Unit):V U:= .c (.bool (Z0V a.1))
def Z4B:Fs U:=fs Zll (fun a=> [Z5O a]) ZnZ
def Zgo(a:Edit × Unit):Prop:=Z7 a.1<=20000000000/\∀ o∈Edit.ops a.1,0<=o.n/\o.n<=1048576
def ZnI(a:Edit × Unit):V U:= .tup [(false,[ci (Z1b a.1.ops 0)]),(false,[ci (Z1a a.1.ops 0)])]
def Z39:Fs U:=fs Zll (fun a=> [Zgo a]) ZnI
def ZiV:ArgL (Edit × Int × Int × Unit):=(.cons (aEl .edit) (.cons (Jd .i64) (.cons (Jd .i64) .nil)))
def Zbq(a:Edit × Int × Int × Unit):Prop:=Z2f a.1/\0<=a.2.1/\a.2.1<=4611686018427387904/\-1<=a.2.2.1/\a.2.2.1<=4611686018427387904
def ZgL(a:Edit × Int × Int × Unit):Nat:=Z7 a.1
def Zjx(a:Edit × Int × Int × Unit):V U:= .c (ci (Z0d a.1 a.2.1 a.2.2.1))
def ZaN:Fs U:=fs ZiV (fun a=> [Zbq a]) Zjx
def Zod(a:Edit × Unit):Prop:=Z2f a.1
def ZtY(a:Edit × Unit):V U:= .c (.bool (decide (0<=Z0d a.1 80 3000)))
def ZaY:Fs U:=fs Zll (fun a=> [Zod a]) ZtY
def Zst:Zf U:=lvl [([0,2],[2]),([0,2,3],[2,3]),([0,2,3,4],[2,3]),([0,2,3,4,7],[2,3]),([0,2,3,4],[2,3]),([0,2,3,4],[2,3]),([0,2,3,4],[2,3]),([2],[2])]
def Z4l(w x0 x4 ml3_0 ml3_1 ml3_2 ml3_3 ml3_4 ml3_5 ml3_6 ml3_7:Int):LSt U:=(L2 [(0,.c (.int .u64 x0)),pL 2,pL 3,pI 4 x4] [(.loc 2,zc0),(.loc 3,[.int .u8 ml3_0,.int .u8 ml3_1,.int .u8 ml3_2,.int .u8 ml3_3,.int .u8 ml3_4,.int .u8 ml3_5,.int .u8 ml3_6,.int .u8 ml3_7])])
abbrev A67(p:List Nat):=AW (Z1 Zix) Try.f67 Zst p
abbrev S67(p:List Nat):=SW (Z1 Zix) Try.f67 Zst p
theorem Zzh(w:Int)(Q:QT)(h:(Zi (A67 [1,1,0,1,0,0]) (Z4l w w 0 0 0 0 0 0 0 0 0) (xB 0 (S67 [1,1,1] Q)))):
  A67 [] (L2 [(0,.c (.int .u64 w))] []) Q:=
 Eq.mpr (by kernel_rfl) h
theorem ZqW(w x0 x4 ml3_0 ml3_1 ml3_2 ml3_3 ml3_4 ml3_5 ml3_6 ml3_7:Int)(N0:NT)(Q:QT)(h:let z0:=IntKind.wrap .u8 (Int.tmod x0 256);(((decide (x4 < 8))=true->((256:Int)≠0)/\((0:Int)<=x4/\x4 < ((8:Nat):Int))/\(((256:Int)≠0)/\((InR (x4+1))/\(N0 (Z4l w (IntKind.wrap .u64 (Int.tdiv x0 256)) (x4+1) (Z0O x4 0 z0 ml3_0) (Z0O x4 1 z0 ml3_1) (Z0O x4 2 z0 ml3_2) (Z0O x4 3 z0 ml3_3) (Z0O x4 4 z0 ml3_4) (Z0O x4 5 z0 ml3_5) (Z0O x4 6 z0 ml3_6) (Z0O x4 7 z0 ml3_7))))))/\((decide (x4 < 8))=false->(Q .ret (L2 [pL 2] [(.loc 2,[.int .u8 ml3_0,.int .u8 ml3_1,.int .u8 ml3_2,.int .u8 ml3_3,.int .u8 ml3_4,.int .u8 ml3_5,.int .u8 ml3_6,.int .u8 ml3_7])]))))):
  A67 [1,1,0,1,0,0] (Z4l w x0 x4 ml3_0 ml3_1 ml3_2 ml3_3 ml3_4 ml3_5 ml3_6 ml3_7) (xT N0 (xB 0 (S67 [1,1,1] Q))):=
 Eq.mpr (by kernel_rfl) h
def ZwU(w:Int):Prop:=AW (Z1 Zix) Try.f67 Zst [] (Zj (Zqa.can (w,())) []) (EQ Try.f67 (ZnH (w,())) [])
theorem Zvh(hb:∀ (w:Int) (_:Unit),Zgn (w,())->ZwU w):CT 67 ZaU:=
 Z3 (l:=[]) Zl rfl trivial Zst Try.func67 rfl rfl 1 (fun _=> rfl) (by decide) (fun ⟨w,_⟩=> hb w ())
def Zss:Zf U:=lvl [([0,1],[]),([0,1,5],[]),([0,1,5,8],[]),([0,1,5],[]),([0,1,5],[]),([4],[])]
def Z7i(m i x0 x5:Int):LSt U:=(L2 [(0,.c (.int .u8 x0)),pI 1 i,pI 5 x5] [])
abbrev A68(p:List Nat):=AW (Z1 Zix) Try.f68 Zss p
abbrev S68(p:List Nat):=SW (Z1 Zix) Try.f68 Zss p
theorem Zzg(m i:Int)(Q:QT)(h:(Zi (A68 [1,0,1,0,0]) (Z7i m i m 0) (xB 0 (S68 [1,1] Q)))):
  A68 [] (L2 [(0,.c (.int .u8 m)),pI 1 i] []) Q:=
 Eq.mpr (by kernel_rfl) h
theorem ZqV(m i x0 x5:Int)(N0:NT)(Q:QT)(h:(((decide (x5 < i))=true->((2:Int)≠0)/\((InR (x5+1))/\(N0 (Z7i m i (IntKind.wrap .u8 (Int.tdiv x0 2)) (x5+1)))))/\((decide (x5 < i))=false->((2:Int)≠0)/\(Q .ret (L2 [pB 4 (((Int.tmod x0 2):Int)==1)] []))))):
  A68 [1,0,1,0,0] (Z7i m i x0 x5) (xT N0 (xB 0 (S68 [1,1] Q))):=
 Eq.mpr (by kernel_rfl) h
def ZwT(m i:Int):Prop:=AW (Z1 Zix) Try.f68 Zss [] (Zj (Zq9.can (m,i,())) []) (EQ Try.f68 (ZtT (m,i,())) [])
theorem Zvg(hb:∀ (m:Int) (i:Int) (_:Unit),ZjK (m,i,())->ZwT m i):CT 68 ZaT:=
 Z3 (l:=[]) Zl rfl trivial Zss Try.func68 rfl rfl 2 (fun _=> rfl) (by decide) (fun ⟨m,i,_⟩=> hb m i ())
def Zsr:Zf U:=lvl [([0,1],[]),([0,1,5],[]),([0,1,5,6],[]),([0,1,5,6,8],[]),([0,1,5,6],[]),([0,1,5,6],[]),([4],[])]
def Z7h(b:List Int)(from_ x5 x6:Int):LSt U:=(L2 [(0,.c (sU .u8 b .unk)),pI 1 from_,(5,.c (.int .u64 x5)),pI 6 x6] [])
abbrev A69(p:List Nat):=AW (Z1 Zix) Try.f69 Zsr p
abbrev S69(p:List Nat):=SW (Z1 Zix) Try.f69 Zsr p
theorem Zzf(b:List Int)(from_:Int)(Q:QT)(h:(Zi (A69 [1,1,0,1,0,0]) (Z7h b from_ 0 7) (xB 0 (S69 [1,1,1] Q)))):
  A69 [] (L2 [(0,.c (sU .u8 b .unk)),pI 1 from_] []) Q:=
 Eq.mpr (by kernel_rfl) h
theorem ZqU(b:List Int)(from_ x5 x6:Int)(N0:NT)(Q:QT)(h:(((decide ((0:Int)<=x6))=true->(InR (from_+x6))/\((0:Int)<=(from_+x6)/\(from_+x6) < (b.length:Int))/\((InR (x6 - 1))/\(N0 (Z7h b from_ (IntKind.wrap .u64 (((IntKind.wrap .u64 (x5*256)):Int)+(IntKind.wrap .u64 (List.getD b (Int.toNat (from_+x6)) (0:Int))))) (x6 - 1)))))/\((decide ((0:Int)<=x6))=false->(Q .ret (L2 [(4,.c (.int .u64 x5))] []))))):
  A69 [1,1,0,1,0,0] (Z7h b from_ x5 x6) (xT N0 (xB 0 (S69 [1,1,1] Q))):=
 Eq.mpr (by kernel_rfl) h
def ZwS(b:List Int)(from_:Int):Prop:=AW (Z1 Zix) Try.f69 Zsr [] (Zj (Zq8.can (b,from_,())) []) (EQ Try.f69 (ZtS (b,from_,())) [])
theorem Zvf(hb:∀ (b:List Int) (from_:Int) (_:Unit),Zoc (b,from_,())->ZwS b from_):CT 69 ZaS:=
 Z3 (l:=[]) Zl rfl trivial Zsr Try.func69 rfl rfl 2 (fun _=> rfl) (by decide) (fun ⟨b,from_,_⟩=> hb b from_ ())
def Zfe:List (FuncId × Fs U):=[(67,ZaU),(68,ZaT),(69,ZaS)]
def Zkd:Zf U:=lvl [([0,1,2],[]),([2,7,8],[7,8]),([2,7,8,9],[7,8]),([2,7,8,9,15],[7,8]),([2,7,8,9],[7,8]),([2,7,8,9,20],[7,8]),([2,7,8,9],[7,8]),([6],[])]
def Z1v(a b m x9 ml7_0 ml7_1 ml7_2 ml7_3 ml7_4 ml7_5 ml7_6 ml7_7:Int):LSt U:=(L2 [(2,.c (.int .u8 m)),pL 7,pL 8,pI 9 x9] [(.loc 7,[.int .u8 ml7_0,.int .u8 ml7_1,.int .u8 ml7_2,.int .u8 ml7_3,.int .u8 ml7_4,.int .u8 ml7_5,.int .u8 ml7_6,.int .u8 ml7_7]),(.loc 8,[.int .u8 (Ze b 0),.int .u8 (Ze b 1),.int .u8 (Ze b 2),.int .u8 (Ze b 3),.int .u8 (Ze b 4),.int .u8 (Ze b 5),.int .u8 (Ze b 6),.int .u8 (Ze b 7)])])
abbrev Zxn(p:List Nat):=AW (Z1 Zfe) Try.f103 Zkd p
abbrev ZyU(p:List Nat):=SW (Z1 Zfe) Try.f103 Zkd p
theorem Zyc(a b m:Int)(Q:QT)(h:((Zgn (a,()))/\(Zgn (b,()))/\(Zi (Zxn [1,1,0,1,0,0]) (Z1v a b m 0 (Ze a 0) (Ze a 1) (Ze a 2) (Ze a 3) (Ze a 4) (Ze a 5) (Ze a 6) (Ze a 7)) (xB 0 (ZyU [1,1,1] Q))))):
  Zxn [] (L2 [(0,.c (.int .u64 a)),(1,.c (.int .u64 b)),(2,.c (.int .u8 m))] []) Q:=
 Eq.mpr (by kernel_rfl) h
theorem Znr(a b m x9 ml7_0 ml7_1 ml7_2 ml7_3 ml7_4 ml7_5 ml7_6 ml7_7:Int)(N0:NT)(Q:QT)(h:let z0:=List.getD [Ze b 0,Ze b 1,Ze b 2,Ze b 3,Ze b 4,Ze b 5,Ze b 6,Ze b 7] x9.toNat 0;(((decide (x9 < 8))=true->(ZjK (m,x9,()))/\(((Z2I m x9)=true->((0:Int)<=x9/\x9 < ((8:Nat):Int))/\((0:Int)<=x9/\x9 < ((8:Nat):Int))/\((InR (x9+1))/\(N0 (Z1v a b m (x9+1) (Z0O x9 0 z0 ml7_0) (Z0O x9 1 z0 ml7_1) (Z0O x9 2 z0 ml7_2) (Z0O x9 3 z0 ml7_3) (Z0O x9 4 z0 ml7_4) (Z0O x9 5 z0 ml7_5) (Z0O x9 6 z0 ml7_6) (Z0O x9 7 z0 ml7_7)))))/\((Z2I m x9)=false->(InR (x9+1))/\(N0 (Z1v a b m (x9+1) ml7_0 ml7_1 ml7_2 ml7_3 ml7_4 ml7_5 ml7_6 ml7_7)))))/\((decide (x9 < 8))=false->(Zoc (([ml7_0,ml7_1,ml7_2,ml7_3,ml7_4,ml7_5,ml7_6,ml7_7]),0,()))/\(Q .ret (L2 [(6,.c (.int .u64 (of8 (fun i=> ([ml7_0,ml7_1,ml7_2,ml7_3,ml7_4,ml7_5,ml7_6,ml7_7]).getD i 0))))] []))))):
  Zxn [1,1,0,1,0,0] (Z1v a b m x9 ml7_0 ml7_1 ml7_2 ml7_3 ml7_4 ml7_5 ml7_6 ml7_7) (xT N0 (xB 0 (ZyU [1,1,1] Q))):=
 Eq.mpr (by kernel_rfl) h
def ZtM(a b m:Int):Prop:=AW (Z1 Zfe) Try.f103 Zkd [] (Zj (Zlm.can (a,b,m,())) []) (EQ Try.f103 (Zo0 (a,b,m,())) [])
theorem Zsk(c67:CT 67 ZaU)(c68:CT 68 ZaT)(c69:CT 69 ZaS)(hb:∀ (a:Int) (b:Int) (m:Int) (_:Unit),ZeL (a,b,m,())->ZtM a b m):CT 103 Z6p:=
 Z3 (l:=[(67,ZaU),(68,ZaT),(69,ZaS)]) Zl rfl (⟨c67,c68,c69,trivial⟩) Zkd Try.func103 rfl rfl 3 (fun _=> rfl) (by decide) (fun ⟨a,b,m,_⟩=> hb a b m ())
def ZvD:Zf U:=lvl [([1],[1]),([2],[])]
abbrev A62(p:List Nat):=AW (Z1 Zix) Try.f62 ZvD p
theorem Zzm(t:Tree)(Q:QT)(h:((Tr ((t.kind==0)=true))/\(Tr ((t.kind==0)=true))/\(Tr ((t.kind==0)=true))/\(Tr ((t.kind==0)=true))/\(Tr ((t.kind==0)=true))/\(Tr ((t.kind==0)=true))/\((t.kind==0)=true->InR (((t.words.length:Int):Int)+(t.kids.length:Int)))/\(Tr ((t.kind==0)=true))/\(Tr ((t.kind==0)=true))/\(Q .ret (L2 [(2,.c (.bool (bif (t.kind==0) then (((((t.words.length:Int):Int)+(t.kids.length:Int)):Int)==0) else false)))] [])))):
  A62 [] (L2 [(0,.agg (enc .tree t))] []) Q:=
 Eq.mpr (by kernel_rfl) h
def ZwZ(t:Tree):Prop:=AW (Z1 Zix) Try.f62 ZvD [] (Zj (ZiZ.can (t,())) []) (EQ Try.f62 (ZtW (t,())) [])
theorem Zvl(hb:∀ (t:Tree) (_:Unit),Z3Z (t,())->ZwZ t):CT 62 Z3a:=
 Z3 (l:=[]) Zl rfl trivial ZvD Try.func62 rfl rfl 1 (fun _=> rfl) (by decide) (fun ⟨t,_⟩=> hb t ())
def Zpv:List (FuncId × Fs U):=[(103,Z6p)]
def ZvC:Zf U:=lvl [([0,1],[]),([4],[])]
abbrev A63(p:List Nat):=AW (Z1 Zpv) Try.f63 ZvC p
theorem Zzl(w m:Int)(Q:QT)(h:((ZeL (w,0,m,()))/\(Q .ret (L2 [pB 4 (((mix w 0 m):Int)==0)] [])))):
  A63 [] (L2 [(0,.c (.int .u64 w)),(1,.c (.int .u8 m))] []) Q:=
 Eq.mpr (by kernel_rfl) h
def ZwY(w m:Int):Prop:=AW (Z1 Zpv) Try.f63 ZvC [] (Zj (Zqd.can (w,m,())) []) (EQ Try.f63 (ZtV (w,m,())) [])
theorem Zvk(Zwr:CT 103 Z6p)(hb:∀ (w:Int) (m:Int) (_:Unit),ZjL (w,m,())->ZwY w m):CT 63 Z7Y:=
 Z3 (l:=[(103,Z6p)]) Zl rfl (⟨Zwr,trivial⟩) ZvC Try.func63 rfl rfl 2 (fun _=> rfl) (by decide) (fun ⟨w,m,_⟩=> hb w m ())
def ZkK:List (FuncId × Fs U):=[(62,Z3a)]
abbrev ZA9(p:List Nat):=AW (Z1 ZkK) Try.f104 ZvD p
theorem Zyb(e:Edit)(Q:QT)(h:∀ y_1,y_1=(e.new)->∀ y_2,y_2=(e.old)->let z2:=bif (e.kind==0) then (Jf y_2) else false;let z0:=bif z2 then (Jf y_1) else false;let z1:=bif z0 then (((((((e.words.length:Int):Int)+(e.kids.length:Int)):Int)+(e.ops.length:Int)):Int)==0) else false;((Tr ((e.kind==0)=true))/\(Tr ((e.kind==0)=true))/\((e.kind==0)=true->Z3Z (y_2,()))/\(Tr ((e.kind==0)=true))/\(Tr (z2=true))/\(Tr (z2=true))/\(z2=true->Z3Z (y_1,()))/\(Tr (z2=true))/\(Tr (z0=true))/\(Tr (z0=true))/\(Tr (z0=true))/\(Tr (z0=true))/\(Tr (z0=true))/\(Tr (z0=true))/\(z0=true->InR (((e.words.length:Int):Int)+(e.kids.length:Int)))/\(Tr (z0=true))/\(Tr (z0=true))/\(Tr (z0=true))/\(Tr (z0=true))/\(z0=true->InR (((((e.words.length:Int):Int)+(e.kids.length:Int)):Int)+(e.ops.length:Int)))/\(Tr (z0=true))/\(Tr (z0=true))/\(Tr (z1=true))/\(Tr (z1=true))/\(Tr (z1=true))/\(Q .ret (L2 [(2,.c (.bool (bif z1 then (e.list==0) else false)))] [])))):
  ZA9 [] (L2 [(0,.agg (enc .edit e))] []) Q:=
 Eq.mpr (by kernel_rfl) (h _ (Zc _) _ (Zc _))
def ZtL(e:Edit):Prop:=AW (Z1 ZkK) Try.f104 ZvD [] (Zj (Zll.can (e,())) []) (EQ Try.f104 (ZnZ (e,())) [])
theorem Zsj(c62:CT 62 Z3a)(hb:∀ (e:Edit) (_:Unit),Z5O (e,())->ZtL e):CT 104 Z4B:=
 Z3 (l:=[(62,Z3a)]) Zl rfl (⟨c62,trivial⟩) ZvD Try.func104 rfl rfl 1 (fun _=> rfl) (by decide) (fun ⟨e,_⟩=> hb e ())
def Zsu:Zf U:=lvl [([1],[1]),([1,4,5],[1]),([1,4,5,6],[1]),([1,4,5,6,13],[1]),([1,4,5,6],[1]),([1,4,5,6,7],[1,7]),([1,4,5,6,7,8],[1,7]),([1,4,5,6,7,8,29],[1,7]),([1,4,5,6,7,8,29],[1,7]),([1,4,5,6,7,8,32],[1,7]),([1,4,5,6,7,8,32],[1,7]),([1,4,5,6,8,38],[1]),([1,4,5,6,8,38],[1]),([1,4,5,6,43],[1]),([1,4,5,6,43],[1]),([1,4,5,6,45],[1]),([1,4,5,6],[1]),([2,3],[])]
def Z1P(e:Edit)(x4 x5 x6:Int):LSt U:=(L2 [pL 1,pI 4 x4,pI 5 x5,pI 6 x6] [(.loc 1,(enc .edit e))])
def Z7m(e:Edit)(x4 x5 x6 x8_a:Int):LSt U:=(L2 [pL 1,pI 4 x4,pI 5 x5,pI 6 x6,pL 7,pI 8 x8_a,(29,.c (.bool (((OpOf.kind (e.ops.getD x6.toNat Op.nil)):Int)==3)))] [(.loc 1,(enc .edit e)),(.loc 7,(enc .op (e.ops.getD x6.toNat Op.nil)))])
def Z7l(e:Edit)(x5 x6 x8_a x4_b:Int):LSt U:=(L2 [pL 1,pI 4 x4_b,pI 5 x5,pI 6 x6,pL 7,pI 8 x8_a,(32,.c (.bool (((OpOf.kind (e.ops.getD x6.toNat Op.nil)):Int) !=2)))] [(.loc 1,(enc .edit e)),(.loc 7,(enc .op (e.ops.getD x6.toNat Op.nil)))])
def Z7k(e:Edit)(x6 x8_a x4_b x5_c:Int):LSt U:=(L2 [pL 1,pI 4 x4_b,pI 5 x5_c,pI 6 x6,pI 8 x8_a,(38,.c (.bool (((OpOf.kind (e.ops.getD x6.toNat Op.nil)):Int) !=1)))] [(.loc 1,(enc .edit e))])
def Z7j(e:Edit)(x6 x4_b x5_c x4_d:Int):LSt U:=(L2 [pL 1,pI 4 x4_d,pI 5 x5_c,pI 6 x6,pB 43 (decide ((1048576:Int) < x4_b))] [(.loc 1,(enc .edit e))])
abbrev A65(p:List Nat):=AW (Z1 Zix) Try.f65 Zsu p
abbrev S65(p:List Nat):=SW (Z1 Zix) Try.f65 Zsu p
theorem Zzj(e:Edit)(Q:QT)(h:(Zi (A65 [1,1,0,1,0,0]) (Z1P e 0 0 0) (xB 0 (S65 [1,1,1] Q)))):
  A65 [] (L2 [(0,.agg (enc .edit e))] []) Q:=
 Eq.mpr (by kernel_rfl) h
abbrev ZwA(e:Edit)(x4 x5 x6:Int)(N0:NT)(Q:QT):Prop:=A65 [1,1,0,1,0,0] (Z1P e x4 x5 x6) (xT N0 (xB 0 (S65 [1,1,1] Q)))
theorem ZqX(e:Edit)(x4 x5 x6:Int)(N0:NT)(Q:QT)(h:let z2:=decide (x6 < (e.ops.length:Int));let z1:=xB 1 (S65 [1,1,0,1,0,0,1,1] (xT N0 (xB 0 (S65 [1,1,1] Q))));let z0:=e.ops.getD x6.toNat Op.nil;((z2=true->((0:Int)<=x6/\x6 < (e.ops.length:Int))/\((InR (((OpOf.n z0):Int)+((OpOf.l z0).length:Int)))/\(((((OpOf.kind z0):Int)==3)=true->(A65 [1,1,0,1,0,0,1,0,0,1,1,1] (Z7m e x4 x5 x6 1) z1))/\((((OpOf.kind z0):Int)==3)=false->A65 [1,1,0,1,0,0,1,0,0,1,1,1] (Z7m e x4 x5 x6 (((OpOf.n z0):Int)+((OpOf.l z0).length:Int))) z1))))/\(z2=false->(Q .ret (L2 [pI 2 x4,pI 3 x5] []))))):
  A65 [1,1,0,1,0,0] (Z1P e x4 x5 x6) (xT N0 (xB 0 (S65 [1,1,1] Q))):=
 Eq.mpr (by kernel_rfl) h
abbrev ZwE(e:Edit)(x4 x5 x6 x8_a:Int)(N0:NT)(Q:QT):Prop:=A65 [1,1,0,1,0,0,1,0,0,1,1,1] (Z7m e x4 x5 x6 x8_a) (xB 1 (S65 [1,1,0,1,0,0,1,1] (xT N0 (xB 0 (S65 [1,1,1] Q)))))
theorem Zr1(e:Edit)(x4 x5 x6 x8_a:Int)(N0:NT)(Q:QT)(h:let z1:=((OpOf.kind (e.ops.getD x6.toNat Op.nil)):Int) !=2;let z0:=xB 1 (S65 [1,1,0,1,0,0,1,1] (xT N0 (xB 0 (S65 [1,1,1] Q))));((z1=true->(InR (x4+x8_a))/\(A65 [1,1,0,1,0,0,1,0,0,1,1,1,1] (Z7l e x5 x6 x8_a (x4+x8_a)) z0))/\(z1=false->A65 [1,1,0,1,0,0,1,0,0,1,1,1,1] (Z7l e x5 x6 x8_a x4) z0))):
  A65 [1,1,0,1,0,0,1,0,0,1,1,1] (Z7m e x4 x5 x6 x8_a) (xB 1 (S65 [1,1,0,1,0,0,1,1] (xT N0 (xB 0 (S65 [1,1,1] Q))))):=
 Eq.mpr (by kernel_rfl) h
abbrev ZwD(e:Edit)(x5 x6 x8_a x4_b:Int)(N0:NT)(Q:QT):Prop:=A65 [1,1,0,1,0,0,1,0,0,1,1,1,1] (Z7l e x5 x6 x8_a x4_b) (xB 1 (S65 [1,1,0,1,0,0,1,1] (xT N0 (xB 0 (S65 [1,1,1] Q)))))
theorem Zr0(e:Edit)(x5 x6 x8_a x4_b:Int)(N0:NT)(Q:QT)(h:let z1:=((OpOf.kind (e.ops.getD x6.toNat Op.nil)):Int) !=1;let z0:=xB 1 (S65 [1,1,0,1,0,0,1,1] (xT N0 (xB 0 (S65 [1,1,1] Q))));((z1=true->(InR (x5+x8_a))/\(A65 [1,1,0,1,0,0,1,0,0,1,1,1,1,1] (Z7k e x6 x8_a x4_b (x5+x8_a)) z0))/\(z1=false->A65 [1,1,0,1,0,0,1,0,0,1,1,1,1,1] (Z7k e x6 x8_a x4_b x5) z0))):
  A65 [1,1,0,1,0,0,1,0,0,1,1,1,1] (Z7l e x5 x6 x8_a x4_b) (xB 1 (S65 [1,1,0,1,0,0,1,1] (xT N0 (xB 0 (S65 [1,1,1] Q))))):=
 Eq.mpr (by kernel_rfl) h
abbrev ZwC(e:Edit)(x6 x8_a x4_b x5_c:Int)(N0:NT)(Q:QT):Prop:=A65 [1,1,0,1,0,0,1,0,0,1,1,1,1,1] (Z7k e x6 x8_a x4_b x5_c) (xB 1 (S65 [1,1,0,1,0,0,1,1] (xT N0 (xB 0 (S65 [1,1,1] Q)))))
theorem ZqZ(e:Edit)(x6 x8_a x4_b x5_c:Int)(N0:NT)(Q:QT)(h:let z1:=decide ((1048576:Int) < x4_b);let z0:=xB 1 (S65 [1,1,0,1,0,0,1,1] (xT N0 (xB 0 (S65 [1,1,1] Q))));((z1=true->(A65 [1,1,0,1,0,0,1,0,0,1,1,1,1,1,1] (Z7j e x6 x4_b x5_c 1048576) z0))/\(z1=false->A65 [1,1,0,1,0,0,1,0,0,1,1,1,1,1,1] (Z7j e x6 x4_b x5_c x4_b) z0))):
  A65 [1,1,0,1,0,0,1,0,0,1,1,1,1,1] (Z7k e x6 x8_a x4_b x5_c) (xB 1 (S65 [1,1,0,1,0,0,1,1] (xT N0 (xB 0 (S65 [1,1,1] Q))))):=
 Eq.mpr (by kernel_rfl) h
abbrev ZwB(e:Edit)(x6 x4_b x5_c x4_d:Int)(N0:NT)(Q:QT):Prop:=A65 [1,1,0,1,0,0,1,0,0,1,1,1,1,1,1] (Z7j e x6 x4_b x5_c x4_d) (xB 1 (S65 [1,1,0,1,0,0,1,1] (xT N0 (xB 0 (S65 [1,1,1] Q)))))
theorem ZqY(e:Edit)(x6 x4_b x5_c x4_d:Int)(N0:NT)(Q:QT)(h:let z0:=decide ((1048576:Int) < x5_c);((z0=true->((InR (x6+1))/\(N0 (Z1P e x4_d 1048576 (x6+1)))))/\(z0=false->(InR (x6+1))/\(N0 (Z1P e x4_d x5_c (x6+1)))))):
  A65 [1,1,0,1,0,0,1,0,0,1,1,1,1,1,1] (Z7j e x6 x4_b x5_c x4_d) (xB 1 (S65 [1,1,0,1,0,0,1,1] (xT N0 (xB 0 (S65 [1,1,1] Q))))):=
 Eq.mpr (by kernel_rfl) h
def ZwW(e:Edit):Prop:=AW (Z1 Zix) Try.f65 Zsu [] (Zj (Zll.can (e,())) []) (EQ Try.f65 (ZnI (e,())) [])
theorem Zvj(hb:∀ (e:Edit) (_:Unit),Zgo (e,())->ZwW e):CT 65 Z39:=
 Z3 (l:=[]) Zl rfl trivial Zsu Try.func65 rfl rfl 1 (fun _=> rfl) (by decide) (fun ⟨e,_⟩=> hb e ())
def Zit(N:Nat):List (FuncId × Fs U):=(90,fs ZiV (fun a=> [Zbq a,ZgL a < N]) Zjx) ::[(78,ZaQ)]
def Zsl:Zf U:=lvl [([1,2,3],[3]),([1,2,3],[3]),([1,2,3,25],[3]),([6],[]),([1,2,3],[3]),([1,2,3,31],[3]),([1,2,3,31],[3]),([1,2,3,7],[3]),([1,2,3,7,44],[3]),([1,2,3,7],[3]),([1,2,3,7],[3]),([1,2,3,8],[3]),([1,2,3,8,65],[3]),([1,2,3,8],[3]),([1,2,3,8,9],[3]),([1,2,3,8,9,80],[3]),([1,2,3,8,9],[3]),([1,2,3,8,9],[3]),([1,2,3,8,95],[3]),([1,2,3,8],[3]),([6],[])]
def Z79(e:Edit)(d n x2:Int):LSt U:=(L2 [pI 1 d,pI 2 x2,pL 3,(31,.c (.bool (decide ((0:Int)<=(ZM (Tree.mk e.old.kind e.old.words e.old.kids) 80 ((((((n:Int) - 1):Int) - (e.words.length:Int)):Int) - (e.ops.length:Int)))))))] [(.loc 3,(enc .edit e))])
def Z78(e:Edit)(d n x2_a x7_a:Int):LSt U:=(L2 [pI 1 d,pI 2 x2_a,pL 3,pI 7 x7_a] [(.loc 3,(enc .edit e))])
def Z4k(e:Edit)(d n x2_b x8_b:Int):LSt U:=(L2 [pI 1 d,pI 2 x2_b,pL 3,pI 8 x8_b] [(.loc 3,(enc .edit e))])
def Z77(e:Edit)(d n x8_b x2_c x9_c:Int):LSt U:=(L2 [pI 1 d,pI 2 x2_c,pL 3,pI 8 x8_b,pI 9 x9_c] [(.loc 3,(enc .edit e))])
abbrev A90(N:Nat)(p:List Nat):=AW (Z1 (Zit N)) Try.f90 Zsl p
abbrev S90(N:Nat)(p:List Nat):=SW (Z1 (Zit N)) Try.f90 Zsl p
theorem Zz6(N:Nat)(e:Edit)(d n:Int)(Q:QT)(h:∀ y_1,y_1=(e.new)->∀ y_2,y_2=(e.old)->∀ y_3,y_3=(ZM y_2 80 (((((n - 1):Int) - (e.words.length:Int)):Int) - (e.ops.length:Int)))->let z0:=bif (d==0) then true else (decide (((((((n - 1):Int) - (e.words.length:Int)):Int) - (e.ops.length:Int)):Int) < 0));((InR (n - 1))/\(InR (((n - 1):Int) - (e.words.length:Int)))/\(InR (((((n - 1):Int) - (e.words.length:Int)):Int) - (e.ops.length:Int)))/\((Tr ((!(d==0))=true))/\((d==0)=false->(!(d==0))=true)/\((z0=true->(Q .ret (L2 [pI 6 (-1)] [])))/\(z0=false->(Z94 (y_2,80,(((((n - 1):Int) - (e.words.length:Int)):Int) - (e.ops.length:Int)),()))/\(((decide ((0:Int)<=y_3))=true->(Z94 (y_1,80,y_3,()))/\(A90 N [1,1,1,1,1] (Z79 e d n (ZM y_1 80 y_3)) Q))/\((decide ((0:Int)<=y_3))=false->A90 N [1,1,1,1,1] (Z79 e d n y_3) Q))))))):
  A90 N [] (L2 [(0,.agg (enc .edit e)),pI 1 d,pI 2 n] []) Q:=
 Eq.mpr (by kernel_rfl) (h _ (Zc _) _ (Zc _) _ rfl)
abbrev Zwz(N:Nat)(e:Edit)(d n x2:Int)(Q:QT):Prop:=A90 N [1,1,1,1,1] (Z79 e d n x2) Q
theorem ZqK(N:Nat)(e:Edit)(d n x2:Int)(Q:QT)(h:(Zi (A90 N [1,1,1,1,1,0,1,0,0]) (Z78 e d n x2 0) (xB 0 (S90 N [1,1,1,1,1,1] Q)))):
  A90 N [1,1,1,1,1] (Z79 e d n x2) Q:=
 Eq.mpr (by kernel_rfl) h
theorem ZqJ(N:Nat)(e:Edit)(d n x2_a x7_a:Int)(N1:NT)(Q:QT)(h:∀ y_1,y_1=(e.kids.getD x7_a.toNat (KidOf.mk 0 Edit.nil))->∀ y_2,y_2=(y_1.e)->let z0:=decide (x7_a < (e.kids.length:Int));let z1:=bif z0 then (decide ((0:Int)<=x2_a)) else false;(Tr (z0=true))/\(Tr (z0=true))/\((z1=true->((0:Int)<=x7_a/\x7_a < (e.kids.length:Int))/\(InR (d - 1))/\(Zbq (y_2,(d - 1),x2_a,()))/\(ZgL (y_2,(d - 1),x2_a,()) < N)/\((InR (x7_a+1))/\(N1 (Z78 e d n (Z0d y_2 (d - 1) x2_a) (x7_a+1)))))/\(z1=false->(Zi (A90 N [1,1,1,1,1,1,0,1,0,0]) (Z4k e d n x2_a 0) (xB 2 (S90 N [1,1,1,1,1,1,1] Q)))))):
  A90 N [1,1,1,1,1,0,1,0,0] (Z78 e d n x2_a x7_a) (xT N1 (xB 0 (S90 N [1,1,1,1,1,1] Q))):=
 Eq.mpr (by kernel_rfl) (h _ rfl _ (Za _))
theorem ZqI(N:Nat)(e:Edit)(d n x2_b x8_b:Int)(N2:NT)(Q:QT)(h:let z0:=decide (x8_b < (e.ops.length:Int));let z1:=bif z0 then (decide ((0:Int)<=x2_b)) else false;(Tr (z0=true))/\(Tr (z0=true))/\((z1=true->(Zi (A90 N [1,1,1,1,1,1,0,1,0,0,1,0,0,0,1,0,0]) (Z77 e d n x8_b x2_b 0) (xB 4 (S90 N [1,1,1,1,1,1,0,1,0,0,1,0,0,1] (xB 3 (S90 N [1,1,1,1,1,1,0,1,0,0,1,1] (xT N2 (xB 2 (S90 N [1,1,1,1,1,1,1] Q)))))))))/\(z1=false->(Q .ret (L2 [pI 6 x2_b] []))))):
  A90 N [1,1,1,1,1,1,0,1,0,0] (Z4k e d n x2_b x8_b) (xT N2 (xB 2 (S90 N [1,1,1,1,1,1,1] Q))):=
 Eq.mpr (by kernel_rfl) h
theorem ZqH(N:Nat)(e:Edit)(d n x8_b x2_c x9_c:Int)(N3 N2:NT)(Q:QT)(h:∀ y_1,y_1=(e.ops.getD x8_b.toNat Op.nil)->∀ y_2,y_2=(y_1.e)->∀ y_3,y_3=(y_1.l.getD x9_c.toNat Tree.nil)->let z1:=decide ((0:Int)<=x2_c);let z0:=decide (x9_c < (y_1.l.length:Int));((0:Int)<=x8_b/\x8_b < (e.ops.length:Int))/\(Tr (z0=true))/\(Tr (z0=true))/\(((bif z0 then z1 else false)=true->((0:Int)<=x8_b/\x8_b < (e.ops.length:Int))/\((0:Int)<=x9_c/\x9_c < (y_1.l.length:Int))/\(Z94 (y_3,80,x2_c,()))/\((InR (x9_c+1))/\(N3 (Z77 e d n x8_b (ZM y_3 80 x2_c) (x9_c+1)))))/\((bif z0 then z1 else false)=false->((z1=true->((0:Int)<=x8_b/\x8_b < (e.ops.length:Int))/\(InR (d - 1))/\(Zbq (y_2,(d - 1),x2_c,()))/\(ZgL (y_2,(d - 1),x2_c,()) < N)/\((InR (x8_b+1))/\(N2 (Z4k e d n (Z0d y_2 (d - 1) x2_c) (x8_b+1)))))/\(z1=false->(InR (x8_b+1))/\(N2 (Z4k e d n x2_c (x8_b+1)))))))):
  A90 N [1,1,1,1,1,1,0,1,0,0,1,0,0,0,1,0,0] (Z77 e d n x8_b x2_c x9_c) (xT N3 (xB 4 (S90 N [1,1,1,1,1,1,0,1,0,0,1,0,0,1] (xB 3 (S90 N [1,1,1,1,1,1,0,1,0,0,1,1] (xT N2 (xB 2 (S90 N [1,1,1,1,1,1,1] Q)))))))):=
 Eq.mpr (by kernel_rfl) (h _ rfl _ (Za _) _ (Zc _))
def ZwJ(N:Nat)(e:Edit)(d n:Int):Prop:=AW (Z1 (Zit N)) Try.f90 Zsl [] (Zj (ZiV.can (e,d,n,())) []) (EQ Try.f90 (Zjx (e,d,n,())) [])
theorem Zv9(c78:CT 78 ZaQ)(hb:∀ (N:Nat) (e:Edit) (d:Int) (n:Int) (_:Unit),Zbq (e,d,n,())->ZgL (e,d,n,()) < N+1->ZwJ N e d n):CT 90 ZaN:=
 Yl (μ:=ZgL) (l:=[(78,ZaQ)]) Zl rfl (⟨c78,trivial⟩) Zsl Try.func90 rfl rfl 3 (fun _=> rfl) (by decide) (fun N ⟨e,d,n,_⟩=> hb N e d n ())
def Zpx:List (FuncId × Fs U):=[(90,ZaN)]
abbrev A54(p:List Nat):=AW (Z1 Zpx) Try.f54 ZvD p
theorem Zzq(e:Edit)(Q:QT)(h:let z0:=Edit.mk e.kind (Tree.mk e.old.kind e.old.words e.old.kids) (Tree.mk e.new.kind e.new.words e.new.kids) e.words e.kids e.list e.ops;((Zbq (z0,80,3000,()))/\(Q .ret (L2 [(2,.c (.bool (decide ((0:Int)<=(Z0d z0 80 3000)))))] [])))):
  A54 [] (L2 [(0,.agg (enc .edit e))] []) Q:=
 Eq.mpr (by kernel_rfl) h
def Zx3(e:Edit):Prop:=AW (Z1 Zpx) Try.f54 ZvD [] (Zj (Zll.can (e,())) []) (EQ Try.f54 (ZtY (e,())) [])
theorem Zvo(c90:CT 90 ZaN)(hb:∀ (e:Edit) (_:Unit),Zod (e,())->Zx3 e):CT 54 ZaY:=
 Z3 (l:=[(90,ZaN)]) Zl rfl (⟨c90,trivial⟩) ZvD Try.func54 rfl rfl 1 (fun _=> rfl) (by decide) (fun ⟨e,_⟩=> hb e ())
end
noncomputable section
def Zfs:ArgL (Edit × Int × Unit):=(.cons (aEl .edit) (.cons (Jd .i64) .nil))
def Z96(a:Edit × Int × Unit):Prop:=(Z7 a.1<=20000000000/\YQ a.1)/\0<=a.2.1/\a.2.1<=1000
def ZeX(a:Edit × Int × Unit):Nat:=2*Z7 a.1
def ZjB(a:Edit × Int × Unit):V U:= .c (.bool (Z8 a.1 a.2.1))
def Zb1:Fs U:=fs Zfs (fun a=> [Z96 a]) ZjB
def Zfp:ArgL (Int × Op × Int × Unit):=(.cons (Jd .i64) (.cons (aEl .op) (.cons (Jd .i64) .nil)))
def Zdf(a:Int × Op × Int × Unit):Prop:=(Zv a.2.1<=20000000000/\Z23 a.2.1/\InR a.1)/\0<=a.2.2.1/\a.2.2.1<=1000
def Zmc(a:Int × Op × Int × Unit):Nat:=2*Zv a.2.1+1
def Zjy(a:Int × Op × Int × Unit):V U:= .c (.bool (Zg a.1 a.2.1 a.2.2.1))
def ZnA:Fs U:=fs Zfp (fun a=> [Zdf a]) Zjy
def Zbs(a:Edit × Unit):Prop:=(Z7 a.1<=20000000000/\YQ a.1)/\∃ d,Z8 a.1 d=true
def ZgN(a:Edit × Unit):Nat:=Z7 a.1
def ZnJ(a:Edit × Unit):V U:= .c (.bool (Y3 a.1))
def ZaX:Fs U:=fs Zll (fun a=> [Zbs a]) ZnJ
def ZjN(a:Edit × Unit):Prop:=Z2f a.1/\YQ a.1
def Zu0(a:Edit × Unit):V U:= .c (.bool (Z0f a.1))
def Zb3:Fs U:=fs Zll (fun a=> [ZjN a]) Zu0
def ZiJ(N:Nat):List (FuncId × Fs U):=(23,fs Zfs (fun a=> [Z96 a,ZeX a < N]) ZjB) ::(64,fs Zfp (fun a=> [Zdf a,Zmc a < N]) Zjy) ::[(62,Z3a),(63,Z7Y),(104,Z4B),(37,Z7Z),(65,Z39)]
def ZsB:Zf U:=lvl [([1,2],[2]),([1,2,24],[2]),([4],[]),([1,2,69],[2]),([4],[]),([1,2,72],[2]),([4],[]),([1,2,5],[2]),([1,2,5,6],[2]),([1,2,5,6,97],[2]),([1,2,5,6],[2]),([1,2,5,6,7],[2,7]),([1,2,6,7,134],[2,7]),([4],[]),([1,2,5,6],[2]),([1,2,5],[2]),([1,2,5,8],[2]),([1,2,5,8,141],[2]),([1,2,5,8],[2]),([1,2,5,8,9],[2,9]),([1,2,8,9,171],[2,9]),([4],[]),([1,2,5,8],[2]),([1,2,186],[2]),([4],[]),([1,2,10],[2]),([1,2,10,191],[2]),([1,2,10],[2]),([1,2,10,204],[2]),([4],[]),([11,12],[]),([4],[])]
def Z7v(e:Edit)(d x5 x6:Int):LSt U:=(L2 [pI 1 d,pL 2,pI 5 x5,pI 6 x6] [(.loc 2,(enc .edit e))])
def Z7u(e:Edit)(d x5_a x8_a:Int):LSt U:=(L2 [pI 1 d,pL 2,pI 5 x5_a,pI 8 x8_a] [(.loc 2,(enc .edit e))])
def Z7t(e:Edit)(d x10_b:Int):LSt U:=(L2 [pI 1 d,pL 2,pI 10 x10_b] [(.loc 2,(enc .edit e))])
abbrev A23(N:Nat)(p:List Nat):=AW (Z1 (ZiJ N)) Try.f23 ZsB p
abbrev S23(N:Nat)(p:List Nat):=SW (Z1 (ZiJ N)) Try.f23 ZsB p
theorem Zzy(N:Nat)(e:Edit)(d:Int)(Q:QT)(h:∀ y_1,y_1=(e.new)->∀ y_2,y_2=(e.old)->let z8:=(e.kind !=1) && (Jf y_2);let z3:=bif (d==0) then true else (decide (e.kind < 0));let z10:=bif z3 then true else (decide ((3:Int) < e.kind));let z2:=bif (Zu y_2 64) then (Zu y_1 64) else false;let z6:=bif z2 then (e.old.kind !=10) else false;let z1:=bif (e.kind !=1) then (!(bif (Jf y_2) then (Jf y_1) else false)) else false;let z5:=(!z1) && (e.kind !=2);let z0:=bif z1 then true else (bif (e.kind !=2) then (decide ((0:Int) < (((e.words.length:Int):Int)+(e.kids.length:Int)))) else false);let z7:=bif z0 then true else (bif (e.kind !=3) then (bif (e.list !=0) then true else (decide ((0:Int) < (e.ops.length:Int)))) else false);let z4:=(!z0) && (e.kind !=3);let z9:=z4 && (!(e.list !=0));((Tr ((!(d==0))=true))/\(Tr ((!(d==0))=true))/\((d==0)=false->(!(d==0))=true)/\(Tr ((!z3)=true))/\(Tr ((!z3)=true))/\(z3=false->(!z3)=true)/\((z10=true->(Q .ret (L2 [pB 4 false] [])))/\(z10=false->(Tr ((e.kind !=1)=true))/\(Tr ((e.kind !=1)=true))/\((e.kind !=1)=true->Z3Z (y_2,()))/\(Tr ((e.kind !=1)=true))/\(Tr (z8=true))/\(Tr (z8=true))/\(z8=true->Z3Z (y_1,()))/\((e.kind !=1)=true->(True->(e.kind !=1)=true))/\((e.kind !=1)=true->((Jf y_2)=true->z8=true))/\(Tr ((e.kind !=1)=true))/\(Tr ((e.kind !=1)=true))/\(Tr ((!z1)=true))/\(Tr ((!z1)=true))/\(Tr ((!z1)=true))/\(Tr (z5=true))/\(Tr (z5=true))/\(Tr (z5=true))/\(Tr (z5=true))/\(Tr (z5=true))/\(Tr (z5=true))/\(z5=true->InR (((e.words.length:Int):Int)+(e.kids.length:Int)))/\(Tr (z5=true))/\((!z1)=true->(True->(!z1)=true))/\((!z1)=true->((e.kind !=2)=true->z5=true))/\(z1=false->(!z1)=true)/\(Tr ((!z0)=true))/\(Tr ((!z0)=true))/\(Tr ((!z0)=true))/\(Tr (z4=true))/\(Tr (z4=true))/\(Tr (z4=true))/\(Tr (z9=true))/\(Tr (z9=true))/\(Tr (z9=true))/\(z4=true->(True->z4=true))/\(z4=true->((e.list !=0)=false->z9=true))/\((!z0)=true->(True->(!z0)=true))/\((!z0)=true->((e.kind !=3)=true->z4=true))/\(z0=false->(!z0)=true)/\((z7=true->(Q .ret (L2 [pB 4 false] [])))/\(z7=false->(((e.kind==1)=true->(Z6J (y_2,64,()))/\(Tr ((Zu y_2 64)=true))/\(Tr ((Zu y_2 64)=true))/\((Zu y_2 64)=true->Z6J (y_1,64,()))/\(Tr ((Zu y_2 64)=true))/\(Tr (z2=true))/\(Tr (z2=true))/\(Tr (z2=true))/\(Tr (z2=true))/\(Tr (z6=true))/\(Tr (z6=true))/\(Tr (z6=true))/\(Tr (z6=true))/\(Q .ret (L2 [(4,.c (.bool (bif z6 then (e.new.kind !=10) else false)))] [])))/\((e.kind==1)=false->(Zi (A23 N [1,1,1,1,1,0,1,0,0]) (Z7v e d (-1) 0) (xB 0 (S23 N [1,1,1,1,1,1] Q))))))))))):
  A23 N [] (L2 [(0,.agg (enc .edit e)),pI 1 d] []) Q:=
 Eq.mpr (by kernel_rfl) (h _ (Zc _) _ (Zc _))
theorem Zrd(N:Nat)(e:Edit)(d x5 x6:Int)(N0:NT)(Q:QT)(h:∀ y_1,y_1=(e.words.getD x6.toNat (WEdit.mk 0 0 0 0))->let z5:=decide (x6 < (e.words.length:Int));let z3:=decide (y_1.at_<=x5);let z2:=bif z3 then true else (decide ((65534:Int) < y_1.at_));let z0:=bif z2 then true else (y_1.mask==0);let z1:=bif z0 then true else (!(Yu y_1.old y_1.mask));let z4:=bif z1 then true else (!(Yu y_1.new y_1.mask));((z5=true->((0:Int)<=x6/\x6 < (e.words.length:Int))/\((Tr ((!z3)=true))/\(Tr ((!z3)=true))/\(z3=false->(!z3)=true)/\(Tr ((!z2)=true))/\(Tr ((!z2)=true))/\(z2=false->(!z2)=true)/\(Tr ((!z0)=true))/\(Tr ((!z0)=true))/\(Tr ((!z0)=true))/\(Tr ((!z0)=true))/\((!z0)=true->ZjL (y_1.old,y_1.mask,()))/\(Tr ((!z0)=true))/\(z0=false->(!z0)=true)/\(Tr ((!z1)=true))/\(Tr ((!z1)=true))/\(Tr ((!z1)=true))/\(Tr ((!z1)=true))/\((!z1)=true->ZjL (y_1.new,y_1.mask,()))/\(Tr ((!z1)=true))/\(z1=false->(!z1)=true)/\((z4=true->(Q .ret (L2 [pB 4 false] [])))/\(z4=false->((InR (x6+1))/\(N0 (Z7v e d y_1.at_ (x6+1))))))))/\(z5=false->(Zi (A23 N [1,1,1,1,1,1,1,0,1,0,0]) (Z7u e d (-1) 0) (xB 2 (S23 N [1,1,1,1,1,1,1,1] Q)))))):
  A23 N [1,1,1,1,1,0,1,0,0] (Z7v e d x5 x6) (xT N0 (xB 0 (S23 N [1,1,1,1,1,1] Q))):=
 Eq.mpr (by kernel_rfl) (h _ rfl)
theorem Zrc(N:Nat)(e:Edit)(d x5_a x8_a:Int)(N1:NT)(Q:QT)(h:∀ y_1,y_1=(e.kids.getD x8_a.toNat (KidOf.mk 0 Edit.nil))->∀ y_2,y_2=(y_1.e)->let z7:=decide (x8_a < (e.kids.length:Int));let z6:=decide (e.list < 2);let z4:=(e.kind==3) && (!z6);let z3:=decide (y_1.at_<=x5_a);let z2:=bif (e.kind==3) then (bif z6 then true else (decide ((9:Int) < e.list))) else false;let z1:=bif z3 then true else (decide ((65534:Int) < y_1.at_));let z0:=bif z1 then true else (y_1.e.kind==0);let z5:=bif z0 then true else (!(Z8 y_2 (d - 1)));((z7=true->((0:Int)<=x8_a/\x8_a < (e.kids.length:Int))/\((Tr ((!z3)=true))/\(Tr ((!z3)=true))/\(z3=false->(!z3)=true)/\(Tr ((!z1)=true))/\(Tr ((!z1)=true))/\(Tr ((!z1)=true))/\(z1=false->(!z1)=true)/\(Tr ((!z0)=true))/\(Tr ((!z0)=true))/\((!z0)=true->InR (d - 1))/\(Tr ((!z0)=true))/\(Tr ((!z0)=true))/\((!z0)=true->Z96 (y_2,(d - 1),()))/\((!z0)=true->ZeX (y_2,(d - 1),()) < N)/\(Tr ((!z0)=true))/\(z0=false->(!z0)=true)/\((z5=true->(Q .ret (L2 [pB 4 false] [])))/\(z5=false->((InR (x8_a+1))/\(N1 (Z7u e d y_1.at_ (x8_a+1))))))))/\(z7=false->(Tr ((e.kind==3)=true))/\(Tr ((e.kind==3)=true))/\(Tr ((e.kind==3)=true))/\(Tr (z4=true))/\(Tr (z4=true))/\((e.kind==3)=true->(True->(e.kind==3)=true))/\((e.kind==3)=true->(z6=false->z4=true))/\(Tr ((e.kind==3)=true))/\((z2=true->(Q .ret (L2 [pB 4 false] [])))/\(z2=false->(Zi (A23 N [1,1,1,1,1,1,1,1,1,0,1,0,0]) (Z7t e d 0) (xB 4 (S23 N [1,1,1,1,1,1,1,1,1,1] Q)))))))):
  A23 N [1,1,1,1,1,1,1,0,1,0,0] (Z7u e d x5_a x8_a) (xT N1 (xB 2 (S23 N [1,1,1,1,1,1,1,1] Q))):=
 Eq.mpr (by kernel_rfl) (h _ rfl _ (Za _))
theorem Zrb(N:Nat)(e:Edit)(d x10_b:Int)(N2:NT)(Q:QT)(h:∀ y_1,y_1=e->∀ y_2,y_2=(e.ops.getD x10_b.toNat Op.nil)->∀ y_3,y_3=y_2->let z2:= !(Zg e.list y_3 (d - 1));let z1:=decide (x10_b < (e.ops.length:Int));let z0:=decide (((Z1b y_1.ops 0):Int) < 1048576);((z1=true->((0:Int)<=x10_b/\x10_b < (e.ops.length:Int))/\(InR (d - 1))/\(Zdf (e.list,y_3,(d - 1),()))/\(Zmc (e.list,y_3,(d - 1),()) < N)/\((z2=true->(Q .ret (L2 [pB 4 false] [])))/\(z2=false->(InR (x10_b+1))/\(N2 (Z7t e d (x10_b+1))))))/\(z1=false->(Zgo (y_1,()))/\((Tr (z0=true))/\(Tr (z0=true))/\(Q .ret (L2 [(4,.c (.bool (bif z0 then (decide (((Z1a y_1.ops 0):Int) < 1048576)) else false)))] [])))))):
  A23 N [1,1,1,1,1,1,1,1,1,0,1,0,0] (Z7t e d x10_b) (xT N2 (xB 4 (S23 N [1,1,1,1,1,1,1,1,1,1] Q))):=
 Eq.mpr (by kernel_rfl) (h _ (Za _) _ rfl _ (Yv _))
def Zxb(N:Nat)(e:Edit)(d:Int):Prop:=AW (Z1 (ZiJ N)) Try.f23 ZsB [] (Zj (Zfs.can (e,d,())) []) (EQ Try.f23 (ZjB (e,d,())) [])
abbrev Zz2:Prop:=∀ (N:Nat) (e:Edit) (d:Int) (_:Unit),Z96 (e,d,())->ZeX (e,d,()) < N+1->Zxb N e d
def Zsv:Zf U:=lvl [([0,2,4],[4]),([0,2,4,10],[4]),([6],[]),([0,2,4,42],[4]),([6],[]),([0,2,4,45],[4]),([0,4,7],[4]),([0,4,7,50],[4]),([0,4,7],[4]),([0,4,7,62],[4]),([6],[]),([6],[]),([0,4,92],[4]),([6],[]),([6],[])]
def Z7n(list:Int)(o:Op)(d x7:Int):LSt U:=(L2 [pI 0 list,pL 4,pI 7 x7] [(.loc 4,(enc .op o))])
abbrev A64(N:Nat)(p:List Nat):=AW (Z1 (ZiJ N)) Try.f64 Zsv p
abbrev S64(N:Nat)(p:List Nat):=SW (Z1 (ZiJ N)) Try.f64 Zsv p
theorem Zzk(N:Nat)(list:Int)(o:Op)(d:Int)(Q:QT)(h:∀ y_1,y_1=(o.e)->let z9:=decide ((1:Int)<=o.n);let z5:=bif (o.n !=0) then true else (decide (o.kind < 0));let z10:=bif z5 then true else (decide ((3:Int) < o.kind));let z4:=decide ((0:Int) < (o.l.length:Int));let z7:=bif z4 then true else (o.e.kind==0);let z3:=bif (o.e.kind==1) then (o.e.old.kind==1) else false;let z2:=bif z9 then (decide (o.n<=1048576)) else false;let z6:=bif z2 then (((o.l.length:Int):Int)==0) else false;let z1:=bif (list==8) then true else (o.e.kind==2);let z8:=(!z1) && (o.e.kind==1);let z0:=bif z7 then true else (decide (list<=7));let z11:=bif z0 then true else (!(Z8 y_1 d));(((o.kind==0)=true->(Tr (z9=true))/\(Tr (z9=true))/\(Tr (z9=true))/\(Tr (z2=true))/\(Tr (z2=true))/\(Tr (z2=true))/\(Tr (z2=true))/\(Tr (z6=true))/\(Tr (z6=true))/\(z6=true->Z5O (y_1,()))/\(Tr (z6=true))/\(Q .ret (L2 [(6,.c (.bool (bif z6 then (Z0V y_1) else false)))] [])))/\((o.kind==0)=false->(Tr ((!(o.n !=0))=true))/\(Tr ((!(o.n !=0))=true))/\((o.n !=0)=false->(!(o.n !=0))=true)/\(Tr ((!z5)=true))/\(Tr ((!z5)=true))/\(z5=false->(!z5)=true)/\((z10=true->(Q .ret (L2 [pB 6 false] [])))/\(z10=false->(((decide (o.kind < 3))=true->(Zi (A64 N [1,1,1,0,1,0,0,1,0,0]) (Z7n list o d 0) (xB 0 (S64 N [1,1,1,0,1,0,1] (S64 N [1,1,1,1] Q)))))/\((decide (o.kind < 3))=false->(Tr ((!z4)=true))/\(Tr ((!z4)=true))/\(Tr ((!z4)=true))/\(z4=false->(!z4)=true)/\(Tr ((!z7)=true))/\(z7=false->(!z7)=true)/\(Tr ((!z0)=true))/\(Tr ((!z0)=true))/\(Tr ((!z0)=true))/\((!z0)=true->Z96 (y_1,d,()))/\((!z0)=true->ZeX (y_1,d,()) < N)/\(Tr ((!z0)=true))/\(z0=false->(!z0)=true)/\((z11=true->(Q .ret (L2 [pB 6 false] [])))/\(z11=false->(Tr ((!(list==8))=true))/\(Tr ((!(list==8))=true))/\(Tr ((!(list==8))=true))/\((list==8)=false->(!(list==8))=true)/\(Tr ((!z1)=true))/\(Tr ((!z1)=true))/\(Tr ((!z1)=true))/\(Tr ((!z1)=true))/\(Tr (z8=true))/\(Tr (z8=true))/\(Tr (z8=true))/\(Tr (z8=true))/\((!z1)=true->(True->(!z1)=true))/\((!z1)=true->((o.e.kind==1)=true->z8=true))/\(Tr ((!z1)=true))/\(Tr (((!z1) && z3)=true))/\(Tr (((!z1) && z3)=true))/\(Tr (((!z1) && z3)=true))/\(Tr (((!z1) && z3)=true))/\((!z1)=true->(True->(!z1)=true))/\((!z1)=true->(z3=true->((!z1) && z3)=true))/\(z1=false->(!z1)=true)/\(Q .ret (L2 [(6,.c (.bool (bif z1 then true else (bif z3 then (o.e.new.kind==1) else false))))] []))))))))))):
  A64 N [] (L2 [pI 0 list,(1,.agg (enc .op o)),pI 2 d] []) Q:=
 Eq.mpr (by kernel_rfl) (h _ (Za _))
theorem Zr2(N:Nat)(list:Int)(o:Op)(d x7:Int)(N0:NT)(Q:QT)(h:let z3:=decide (x7 < (o.l.length:Int));let z2:=Tree.mk list [] (List.drop x7.toNat (List.take (Int.toNat (x7+1)) o.l));let z1:=Edit.mk o.e.kind (Tree.mk o.e.old.kind o.e.old.words o.e.old.kids) (Tree.mk o.e.new.kind o.e.new.words o.e.new.kids) o.e.words o.e.kids o.e.list o.e.ops;let z0:=decide ((0:Int) < (o.l.length:Int));((z3=true->(InR (x7+1))/\((0:Int)<=x7/\x7<=(x7+1)/\(x7+1)<=(o.l.length:Int))/\(Z6J (z2,64,()))/\(((!(Zu z2 64))=true->(Q .ret (L2 [pB 6 false] [])))/\((!(Zu z2 64))=false->(InR (x7+1))/\(N0 (Z7n list o d (x7+1))))))/\(z3=false->(Tr (z0=true))/\(Tr (z0=true))/\(z0=true->Z5O (z1,()))/\(Tr (z0=true))/\(Q .ret (L2 [(6,.c (.bool (bif z0 then (Z0V z1) else false)))] []))))):
  A64 N [1,1,1,0,1,0,0,1,0,0] (Z7n list o d x7) (xT N0 (xB 0 (S64 N [1,1,1,0,1,0,1] (S64 N [1,1,1,1] Q)))):=
 Eq.mpr (by kernel_rfl) h
def ZwX(N:Nat)(list:Int)(o:Op)(d:Int):Prop:=AW (Z1 (ZiJ N)) Try.f64 Zsv [] (Zj (Zfp.can (list,o,d,())) []) (EQ Try.f64 (Zjy (list,o,d,())) [])
abbrev ZyZ:Prop:=∀ (N:Nat) (list:Int) (o:Op) (d:Int) (_:Unit),Zdf (list,o,d,())->Zmc (list,o,d,()) < N+1->ZwX N list o d
def ZiF(N:Nat):List (FuncId × Fs U):=(55,fs Zll (fun a=> [Zbs a,ZgN a < N]) ZnJ) ::[(65,Z39)]
def Zsx:Zf U:=lvl [([1],[1]),([1,3,4],[1]),([1,17],[1]),([2],[]),([1,5],[1]),([1,5,22],[1]),([1,5],[1]),([1,5,32],[1]),([2],[]),([1,6],[1]),([1,6,37],[1]),([1,6],[1]),([1,6,47],[1]),([2],[]),([2],[])]
def Z7q(e:Edit)(x5:Int):LSt U:=(L2 [pL 1,pI 5 x5] [(.loc 1,(enc .edit e))])
def Z7p(e:Edit)(x6_a:Int):LSt U:=(L2 [pL 1,pI 6 x6_a] [(.loc 1,(enc .edit e))])
abbrev A55(N:Nat)(p:List Nat):=AW (Z1 (ZiF N)) Try.f55 Zsx p
abbrev S55(N:Nat)(p:List Nat):=SW (Z1 (ZiF N)) Try.f55 Zsx p
theorem Zzp(N:Nat)(e:Edit)(Q:QT)(h:∀ y_1,y_1=e->let z0:=decide ((2000:Int) < (Z1b y_1.ops 0));let z1:=bif z0 then true else (decide ((2000:Int) < (Z1a y_1.ops 0)));((Zgo (y_1,()))/\((Tr ((!z0)=true))/\(z0=false->(!z0)=true)/\((z1=true->(Q .ret (L2 [pB 2 false] [])))/\(z1=false->(Zi (A55 N [1,1,1,0,1,0,0]) (Z7q e 0) (xB 0 (S55 N [1,1,1,1] Q)))))))):
  A55 N [] (L2 [(0,.agg (enc .edit e))] []) Q:=
 Eq.mpr (by kernel_rfl) (h _ (Za _))
theorem Zr6(N:Nat)(e:Edit)(x5:Int)(N0:NT)(Q:QT)(h:∀ y_1,y_1=(e.kids.getD x5.toNat (KidOf.mk 0 Edit.nil))->∀ y_2,y_2=(y_1.e)->let z0:=decide (x5 < (e.kids.length:Int));((z0=true->((0:Int)<=x5/\x5 < (e.kids.length:Int))/\(Zbs (y_2,()))/\(ZgN (y_2,()) < N)/\(((!(Y3 y_2))=true->(Q .ret (L2 [pB 2 false] [])))/\((!(Y3 y_2))=false->(InR (x5+1))/\(N0 (Z7q e (x5+1))))))/\(z0=false->(Zi (A55 N [1,1,1,1,0,1,0,0]) (Z7p e 0) (xB 2 (S55 N [1,1,1,1,1] Q)))))):
  A55 N [1,1,1,0,1,0,0] (Z7q e x5) (xT N0 (xB 0 (S55 N [1,1,1,1] Q))):=
 Eq.mpr (by kernel_rfl) (h _ rfl _ (Za _))
theorem Zr5(N:Nat)(e:Edit)(x6_a:Int)(N1:NT)(Q:QT)(h:∀ y_1,y_1=(e.ops.getD x6_a.toNat Op.nil)->∀ y_2,y_2=(y_1.e)->let z0:=decide (x6_a < (e.ops.length:Int));((z0=true->((0:Int)<=x6_a/\x6_a < (e.ops.length:Int))/\(Zbs (y_2,()))/\(ZgN (y_2,()) < N)/\(((!(Y3 y_2))=true->(Q .ret (L2 [pB 2 false] [])))/\((!(Y3 y_2))=false->(InR (x6_a+1))/\(N1 (Z7p e (x6_a+1))))))/\(z0=false->(Q .ret (L2 [pB 2 true] []))))):
  A55 N [1,1,1,1,0,1,0,0] (Z7p e x6_a) (xT N1 (xB 2 (S55 N [1,1,1,1,1] Q))):=
 Eq.mpr (by kernel_rfl) (h _ rfl _ (Za _))
def Zx2(N:Nat)(e:Edit):Prop:=AW (Z1 (ZiF N)) Try.f55 Zsx [] (Zj (Zll.can (e,())) []) (EQ Try.f55 (ZnJ (e,())) [])
theorem Zvn(c65:CT 65 Z39)(hb:∀ (N:Nat) (e:Edit) (_:Unit),Zbs (e,())->ZgN (e,()) < N+1->Zx2 N e):CT 55 ZaX:=
 Yl (μ:=ZgN) (l:=[(65,Z39)]) Zl rfl (⟨c65,trivial⟩) Zsx Try.func55 rfl rfl 1 (fun _=> rfl) (by decide) (fun N ⟨e,_⟩=> hb N e ())
def ZpB:List (FuncId × Fs U):=[(54,ZaY),(23,Zb1),(55,ZaX)]
abbrev A15(p:List Nat):=AW (Z1 ZpB) Try.f15 ZvD p
theorem ZzA(e:Edit)(Q:QT)(h:∀ y_1,y_1=e->let z1:=decide (0<=Z0d y_1 80 3000);let z0:=bif z1 then (Z8 y_1 64) else false;((Zod (y_1,()))/\(Tr (z1=true))/\(z1=true->Z96 (y_1,64,()))/\(Tr (z1=true))/\(Tr (z0=true))/\(z0=true->Zbs (y_1,()))/\(Tr (z0=true))/\(Q .ret (L2 [(2,.c (.bool (bif z0 then (Y3 y_1) else false)))] [])))):
  A15 [] (L2 [(0,.agg (enc .edit e))] []) Q:=
 Eq.mpr (by kernel_rfl) (h _ (Za _))
def Zxd(e:Edit):Prop:=AW (Z1 ZpB) Try.f15 ZvD [] (Zj (Zll.can (e,())) []) (EQ Try.f15 (Zu0 (e,())) [])
theorem Zvw(c54:CT 54 ZaY)(c23:CT 23 Zb1)(c55:CT 55 ZaX)(hb:∀ (e:Edit) (_:Unit),ZjN (e,())->Zxd e):CT 15 Zb3:=
 Z3 (l:=[(54,ZaY),(23,Zb1),(55,ZaX)]) Zl rfl (⟨c54,c23,c55,trivial⟩) ZvD Try.func15 rfl rfl 1 (fun _=> rfl) (by decide) (fun ⟨e,_⟩=> hb e ())
theorem Zml(c62:CT 62 Z3a)(c63:CT 63 Z7Y)(Zwq:CT 104 Z4B)(c37:CT 37 Z7Z)(c65:CT 65 Z39)(ha:Zz2)(hb:ZyZ):CT 23 Zb1/\CT 64 ZnA:=
 Z2o (μA:=ZeX) (μB:=Zmc) (l:=[(62,Z3a),(63,Z7Y),(104,Z4B),(37,Z7Z),(65,Z39)]) Zl rfl (⟨c62,c63,Zwq,c37,c65,trivial⟩) ZsB Zsv Try.func23 Try.func64 rfl rfl rfl rfl 2 3 (fun _=> rfl) (fun _=> rfl) (by decide) (by decide) (fun N ⟨e,d,_⟩=> ha N e d ()) (fun N ⟨list,o,d,_⟩=> hb N list o d ())
end
theorem Z3I{n:Int}(h0:0<=n)(h1:n < 18446744073709551616):IntKind.wrap .u64 n=n:=by
 simp [IntKind.wrap,IntKind.signed,IntKind.bits];omega
theorem Z4u{n:Int}(h0:0<=n)(h1:n < 256):IntKind.wrap .u8 n=n:=by
 simp [IntKind.wrap,IntKind.signed,IntKind.bits];omega
theorem Zln{i:Int}{j:Nat}{v:Int}{F G:Nat->Int}(hi:0<=i)(hv:v=F i.toNat):Z0O i j v (if (j:Int) < i then F j else G j)=if (j:Int) < i+1 then F j else G j:=by
 unfold Z0O
 by_cases h:i=j
 ·subst h
  rw [if_pos rfl,if_pos (by omega),hv]
  simp
 ·rw [if_neg h]
  by_cases h2:(j:Int) < i
  ·rw [if_pos h2,if_pos (by omega)]
  ·rw [if_neg h2,if_neg (by omega)]
theorem ZsJ{i:Int}{j:Nat}{F G:Nat->Int}(h:F i.toNat=G i.toNat)(hi:0<=i):(if (j:Int) < i then F j else G j)=if (j:Int) < i+1 then F j else G j:=by
 by_cases h2:(j:Int) < i
 ·rw [if_pos h2,if_pos (by omega)]
 ·by_cases h3:(j:Int)=i
  ·subst h3
   rw [if_neg h2,if_pos (by omega)]
   simpa using h.symm
  ·rw [if_neg h2,if_neg (by omega)]
theorem Z0i(w:Int)(i:Nat):0<=Ze w i/\Ze w i < 256:=by
 unfold Ze
 omega
theorem Z4r{w:Int}(h:0<=w)(i:Nat):0<=w / 256 ^ i:=Kv h (XP (Kd (by omega)))
theorem Zcm{w:Int}(h:0<=w)(i:Nat):w / 256 ^ i<=w:=Kp _ h
theorem Zfk(w:Int)(i:Nat):w / 256 ^ i / 256=w / 256 ^ (i+1):=by
 rw [Int.ediv_ediv_of_nonneg (XP (Kd (by omega))),Km]
theorem c67:Contract Try.prog cfg 67 ZaU:=by
 refine Zvh ?_
 intro w _ hp
 simp only [Zgn] at hp
 refine Zzh _ _ ?_;(try simp only [vcT,forall_eq])
 refine Z9 (ι:=Int) (fun i=> Z4l w (w / 256 ^ i.toNat) i (if ((0:Nat):Int) < i then Ze w 0 else 0) (if ((1:Nat):Int) < i then Ze w 1 else 0) (if ((2:Nat):Int) < i then Ze w 2 else 0) (if ((3:Nat):Int) < i then Ze w 3 else 0)
  (if ((4:Nat):Int) < i then Ze w 4 else 0) (if ((5:Nat):Int) < i then Ze w 5 else 0) (if ((6:Nat):Int) < i then Ze w 6 else 0) (if ((7:Nat):Int) < i then Ze w 7 else 0)) (fun i=> 0<=i/\i<=8) (fun i=> (8 - i).toNat) 0 ?_ ⟨by omega,by omega⟩ ?_
 ·simp [Z4l]
 ·rintro i ⟨h1,h2⟩
  refine ZqW _ _ _ _ _ _ _ _ _ _ _ _ _ ?_;(try simp only [vcT,forall_eq])
  (simp only [vcS]);(try simp only [vcT])
  refine ⟨fun hc=> ⟨by omega,⟨h1,by omega⟩,by omega,by unfold InR;omega,i+1,?_,⟨by omega,by omega⟩,by omega⟩,fun hc=> ?_⟩
  ·have hd:=Z4r hp.1 i.toNat
   have hl:=Zcm hp.1 i.toNat
   have e1:IntKind.wrap .u64 (Int.tdiv (w / 256 ^ i.toNat) 256)=w / 256 ^ (i+1).toNat:=by
    rw [XF hd,Zfk,show i.toNat+1=(i+1).toNat by omega]
    exact Z3I (Z4r hp.1 _) (Int.lt_of_le_of_lt (Zcm hp.1 _) hp.2)
   have e2:IntKind.wrap .u8 (Int.tmod (w / 256 ^ i.toNat) 256)=Ze w i.toNat:=by
    rw [Int.tmod_eq_emod_of_nonneg hd]
    exact Z4u (Z0i w _).1 (Z0i w _).2
   rw [e1]
   have st:∀ j:Nat,Z0O i j (IntKind.wrap .u8 (Int.tmod (w / 256 ^ i.toNat) 256)) (if (j:Int) < i then Ze w j else 0)=if (j:Int) < i+1 then Ze w j else 0:=fun j=> Zln (F:=Ze w) (G:=fun _=> 0) h1 e2
   rw [st 0,st 1,st 2,st 3,st 4,st 5,st 6,st 7]
  ·have:i=8:=by omega
   subst this
   simp only [ZnH]
   exact ⟨⟨rfl,⟨⟨rfl,rfl⟩,⟨rfl,rfl⟩,⟨rfl,rfl⟩,⟨rfl,rfl⟩,⟨rfl,rfl⟩,⟨rfl,rfl⟩,⟨rfl,rfl⟩,⟨rfl,rfl⟩,trivial⟩,trivial⟩,trivial⟩
theorem c68:Contract Try.prog cfg 68 ZaT:=by
 refine Zvg ?_
 intro m i _ hp
 simp only [ZjK] at hp
 refine Zzg _ _ _ ?_;(try simp only [vcT,forall_eq])
 refine Z9 (ι:=Int) (fun k=> Z7i m i (m / 2 ^ k.toNat) k) (fun k=> 0<=k/\k<=i) (fun k=> (i - k).toNat) 0 ?_ ⟨by omega,by omega⟩ ?_
 ·simp
 ·rintro k ⟨h1,h2⟩
  refine ZqV _ _ _ _ _ _ ?_;(try simp only [vcT,forall_eq])
  have hd:0<=m / 2 ^ k.toNat:=Kv hp.1.1 (XP (Kd (by omega)))
  have hl:m / 2 ^ k.toNat<=m:=Kp _ hp.1.1
  (simp only [vcS])
  refine ⟨fun hc=> ⟨by omega,by unfold InR;omega,k+1,?_,⟨by omega,by omega⟩,by omega⟩,fun hc=> ⟨by omega,Zb rfl ?_⟩⟩
  ·have e:IntKind.wrap .u8 (Int.tdiv (m / 2 ^ k.toNat) 2)=m / 2 ^ (k+1).toNat:=by
    rw [XF hd,Int.ediv_ediv_of_nonneg (XP (Kd (by omega))),show (2:Int) ^ k.toNat*2=2 ^ (k+1).toNat by rw [<-Km];congr 1;omega]
    refine Z4u (Kv hp.1.1 (XP (Kd (by omega)))) (Int.lt_of_le_of_lt (Kp _ hp.1.1) hp.1.2)
   rw [e]
  ·have:k=i:=by omega
   subst this
   rw [Int.tmod_eq_emod_of_nonneg hd]
   try rfl
def Z9F(f:Nat->Int):Nat->Int
 | 0=> 0
 | k+1=> f (7 - k)+256*Z9F f k
theorem ZaC{f:Nat->Int}(h:∀ i,0<=f i/\f i < 256):∀ k,0<=Z9F f k/\Z9F f k < 256 ^ k
 | 0=> by simp [Z9F]
 | k+1=> by
  have:=ZaC h k
  have h2:=h (7 - k)
  simp only [Z9F,Km]
  omega
theorem ZuH(f:Nat->Int):Z9F f 8=of8 f:=by simp [Z9F,of8]
theorem c69:Contract Try.prog cfg 69 ZaS:=by
 refine Zvf ?_
 intro b z _ hp
 obtain ⟨rfl,hl,hb⟩:=hp
 dsimp only at hl hb
 refine Zzf _ _ _ ?_;(try simp only [vcT,forall_eq])
 have hf:∀ i,0<=b.getD i 0/\b.getD i 0 < 256:=by
  intro i
  by_cases hi:i < b.length
  ·have:b.getD i 0∈b:=by
    simp only [List.getD,Q0 hi,X8]
    exact XZ hi
   exact hb _ this
  ·rw [List.getD,Qz (by omega)];simp
 refine Z9 (ι:=Int) (fun i=> Z7h b 0 (Z9F (fun i=> b.getD i 0) (7 - i).toNat) i) (fun i=> -1<=i/\i<=7) (fun i=> (i+1).toNat) 7 rfl ⟨by omega,by omega⟩ ?_
 rintro i ⟨h1,h2⟩
 refine ZqU _ _ _ _ _ _ ?_;(try simp only [vcT,forall_eq])
 (simp only [vcS]);(try simp only [vcT])
 have hr:=ZaC (f:=fun i=> b.getD i 0) hf (7 - i).toNat
 refine ⟨fun hc=> ⟨by unfold InR;omega,by omega,by unfold InR;omega,i - 1,?_,⟨by omega,by omega⟩,by omega⟩,fun hc=> Yt rfl ?_⟩
 ·have hp7:(256:Int) ^ (7 - i).toNat<=256 ^ 7:=by
   have:(256:Int) ^ (7 - i).toNat=((256 ^ (7 - i).toNat:Nat):Int):=by simp
   rw [this]
   have h7:(256:Nat) ^ (7 - i).toNat<=256 ^ 7:=Nat.pow_le_pow_right (by omega) (by omega)
   have:((256:Nat) ^ 7:Nat)=72057594037927936:=by decide
   omega
  have e7:(256:Int) ^ 7=72057594037927936:=by decide
  have hfi:=hf i.toNat
  have e:Z9F (fun i=> b.getD i 0) (7 - (i - 1)).toNat=b.getD i.toNat 0+256*Z9F (fun i=> b.getD i 0) (7 - i).toNat:=by
   rw [show (7 - (i - 1)).toNat=(7 - i).toNat+1 by omega]
   simp only [Z9F]
   rw [show 7 - (7 - i).toNat=i.toNat by omega]
  rw [e,show (0+i).toNat=i.toNat by omega,Z3I (n:=Z9F (fun i=> b.getD i 0) (7 - i).toNat*256) (by omega) (by omega),Z3I (n:=b.getD i.toNat 0) (by omega) (by omega),Z3I (by omega) (by omega)]
  congr 1
  omega
 ·have:i= -1:=by omega
  subst this
  exact ZuH _
theorem Zyy(f:Nat->Int){i:Nat}(h:i < 8):List.getD [f 0,f 1,f 2,f 3,f 4,f 5,f 6,f 7] i 0=f i:=by
 match i,h with
 | 0,_=> rfl
 | 1,_=> rfl
 | 2,_=> rfl
 | 3,_=> rfl
 | 4,_=> rfl
 | 5,_=> rfl
 | 6,_=> rfl
 | 7,_=> rfl
theorem Z49(a b m:Int)(i:Nat):0<=YP a b m i/\YP a b m i < 256:=by
 unfold YP
 split
 ·exact Z0i _ _
 ·exact Z0i _ _
theorem Zwr:Contract Try.prog cfg 103 Z6p:=by
 refine Zsk c67 c68 c69 ?_
 intro a b m _ hp
 simp only [ZeL] at hp
 refine Zyc _ _ _ _ ?_;(try simp only [vcT,forall_eq])
 refine ⟨hp.1,hp.2.1,?_⟩
 refine Z9 (ι:=Int) (fun i=> Z1v a b m i (if ((0:Nat):Int) < i then YP a b m 0 else Ze a 0) (if ((1:Nat):Int) < i then YP a b m 1 else Ze a 1) (if ((2:Nat):Int) < i then YP a b m 2 else Ze a 2) (if ((3:Nat):Int) < i then YP a b m 3 else Ze a 3)
  (if ((4:Nat):Int) < i then YP a b m 4 else Ze a 4) (if ((5:Nat):Int) < i then YP a b m 5 else Ze a 5) (if ((6:Nat):Int) < i then YP a b m 6 else Ze a 6) (if ((7:Nat):Int) < i then YP a b m 7 else Ze a 7)) (fun i=> 0<=i/\i<=8) (fun i=> (8 - i).toNat) 0 ?_ ⟨by omega,by omega⟩ ?_
 ·simp [Z1v]
 ·rintro i ⟨h1,h2⟩
  refine Znr _ _ _ _ _ _ _ _ _ _ _ _ _ _ ?_;(try simp only [vcT,forall_eq])
  (simp only [vcS]);(try simp only [vcT])
  refine ⟨fun hc=> ⟨⟨hp.2.2,h1,by dsimp only;omega⟩,fun hn=> ⟨⟨h1,by omega⟩,⟨h1,by omega⟩,by unfold InR;omega,i+1,?_,⟨by omega,by omega⟩,by omega⟩,fun hn=> ⟨by unfold InR;omega,i+1,?_,⟨by omega,by omega⟩,by omega⟩⟩,fun hc=> ?_⟩
  ·rw [Zyy (Ze b) (by omega)]
   have hv:Ze b i.toNat=YP a b m i.toNat:=by
    unfold YP
    rw [show ((i.toNat:Nat):Int)=i by omega,hn]
    try rfl
   have st:∀ j:Nat,Z0O i j (Ze b i.toNat) (if (j:Int) < i then YP a b m j else Ze a j)=if (j:Int) < i+1 then YP a b m j else Ze a j:=fun j=> Zln (F:=YP a b m) (G:=Ze a) h1 hv
   rw [st 0,st 1,st 2,st 3,st 4,st 5,st 6,st 7]
  ·have hv:YP a b m i.toNat=Ze a i.toNat:=by
    unfold YP
    rw [show ((i.toNat:Nat):Int)=i by omega,hn]
    try rfl
   have st:∀ j:Nat,(if (j:Int) < i then YP a b m j else Ze a j)=if (j:Int) < i+1 then YP a b m j else Ze a j:=fun j=> ZsJ (F:=YP a b m) (G:=Ze a) hv h1
   rw [st 0,st 1,st 2,st 3,st 4,st 5,st 6,st 7]
  ·have:i=8:=by omega
   subst this
   refine ⟨⟨rfl,rfl,?_⟩,Yt rfl ?_⟩
   ·intro x hx
    simp at hx
    rcases hx with rfl | rfl | rfl | rfl | rfl | rfl | rfl | rfl <;> exact Z49 _ _ _ _
   ·try rfl
theorem Zmz{α:Type}{l:List α}{i:Nat}(h:i < l.length)(d:α):l.drop i=l.getD i d ::l.drop (i+1):=by
 rw [QL h]
 simp [List.getD,h]
theorem Yn{α:Type}{l:List α}{i:Int}(h0:0<=i)(h:i < l.length)(d:α):l.drop i.toNat=l.getD i.toNat d ::l.drop (i+1).toNat:=by
 rw [Zmz (by omega) d,show i.toNat+1=(i+1).toNat by omega]
theorem Zh{α:Type}{l:List α}{i:Nat}(h:i < l.length)(d:α):l.getD i d∈l:=by
 simp only [List.getD,Q0 h,X8]
 exact XZ h
theorem Jr(t:Tree):1<=Zm t:=by cases t;simp only [Zm];omega
theorem Z8v(e:Edit):1<=Z7 e:=by cases e;simp only [Z7];omega
theorem Z8t(k:Kid):JB k=Z7 k.e:=by cases k;rfl
theorem ZI(o:Op):Zv o=Z6 o.l+Z7 o.e:=by cases o;rfl
theorem YX:∀ {ks:List Tree} {t:Tree},t∈ks->Zm t<=Z6 ks
 | x ::r,t,h=> by
  simp only [Z6]
  rcases Qc.1 h with rfl | h
  ·omega
  ·have:=YX h;omega
theorem J6:∀ {ks:List Kid} {k:Kid},k∈ks->Z7 k.e<=ZR ks
 | x ::r,k,h=> by
  simp only [ZR,Z8t]
  rcases Qc.1 h with rfl | h
  ·omega
  ·have:=J6 h;omega
theorem ZU:∀ {os:List Op} {o:Op},o∈os->Zv o<=Zd os
 | x ::r,o,h=> by
  simp only [Zd]
  rcases Qc.1 h with rfl | h
  ·omega
  ·have:=ZU h;omega
theorem Ys:∀ (ks:List Kid),ks.length<=ZR ks
 | []=> by simp [ZR]
 | k ::r=> by
  have:=Ys r
  have:=Z8v k.e
  simp only [ZR,Z8t,Q9]
  omega
theorem ZV:∀ (os:List Op),os.length<=Zd os
 | []=> by simp [Zd]
 | o ::r=> by
  have:=ZV r
  have:=Z8v o.e
  simp only [Zd,ZI,Q9]
  omega
theorem Zb5:∀ {ks:List Tree} {t:Tree},Z2e ks->t∈ks->Z3S t
 | x ::r,t,hs,h=> by
  simp only [Z2e] at hs
  rcases Qc.1 h with rfl | h
  ·exact hs.1
  ·exact Zb5 hs.2 h
theorem Z8S:∀ {ks:List Kid} {k:Kid},Z4D ks->k∈ks->Z2f k.e
 | x ::r,k,hs,h=> by
  simp only [Z4D] at hs
  rcases Qc.1 h with rfl | h
  ·have:=hs.1;obtain ⟨a,e⟩:=k;exact this
  ·exact Z8S hs.2 h
theorem Z8R:∀ {os:List Op} {o:Op},Z4C os->o∈os->o.l.length<=17592186044416/\Z2e o.l/\Z2f o.e
 | x ::r,o,hs,h=> by
  simp only [Z4C] at hs
  rcases Qc.1 h with rfl | h
  ·have:=hs.1;obtain ⟨a,b,c,e⟩:=o;exact this
  ·exact Z8R hs.2 h
theorem Z0I:∀ {ks:List Tree} {t:Tree},YU ks->t∈ks->rng t
 | x ::r,t,hs,h=> by
  simp only [YU] at hs
  rcases Qc.1 h with rfl | h
  ·exact hs.1
  ·exact Z0I hs.2 h
theorem YT:∀ {ks:List Kid} {k:Kid},Z2z ks->k∈ks->InR k.at_/\YQ k.e
 | x ::r,k,hs,h=> by
  simp only [Z2z] at hs
  rcases Qc.1 h with rfl | h
  ·have:=hs.1;obtain ⟨a,e⟩:=k;exact this
  ·exact YT hs.2 h
theorem Z1h:∀ {os:List Op} {o:Op},Z1z os->o∈os->Z23 o
 | x ::r,o,hs,h=> by
  simp only [Z1z] at hs
  rcases Qc.1 h with rfl | h
  ·exact hs.1
  ·exact Z1h hs.2 h
theorem Z14{o:Op}(h:Z23 o):InR o.kind/\InR o.n/\YU o.l/\YQ o.e:=by obtain ⟨a,b,c,e⟩:=o;exact h
theorem Zmo(k:Kid)(d n:Int):Z2a k d n=Z0d k.e d n:=by cases k;rfl
theorem Zpk(o:Op)(d n:Int):Z4h o d n=if Zr o.l 80 n < 0 then Zr o.l 80 n else Z0d o.e d (Zr o.l 80 n):=by cases o;rfl
theorem Z80(t:Tree)(n:Int)(h: -1<=n): -1<=sh1 t n/\sh1 t n<=n:=by
 unfold sh1
 split
 ·omega
 ·have:=Ym t 80 n;omega
mutual
theorem Z0N:∀ (e:Edit) (d n:Int),-1<=Z0d e d n/\Z0d e d n<=max n (-1)
 | .mk _ o nw w ks _ os,d,n=> by
  simp only [Z0d]
  split
  ·omega
  ·have h1:=Ym o 80 (n - 1 - w.length - os.length)
   have h2:=Z80 nw _ h1.1
   have h3:=Z1d ks (d - 1) _ h2.1
   have h4:=Z1c os (d - 1) _ h3.1
   omega
theorem Z1d:∀ (ks:List (KidOf Edit)) (d n:Int),-1<=n->-1<=Js ks d n/\Js ks d n<=n
 | [],d,n,h=> by simp only [Js];omega
 | k ::r,d,n,h=> by
  simp only [Js]
  split
  ·omega
  ·have h1:=Z5w k d n
   have h2:=Z1d r d _ h1.1
   omega
theorem Z5w:∀ (k:KidOf Edit) (d n:Int),-1<=Z2a k d n/\Z2a k d n<=max n (-1)
 | ⟨_,e⟩,d,n=> by
  simp only [Z2a]
  exact Z0N e d n
theorem Z1c:∀ (os:List (OpOf Edit)) (d n:Int),-1<=n->-1<=JH os d n/\JH os d n<=n
 | [],d,n,h=> by simp only [JH];omega
 | o ::r,d,n,h=> by
  simp only [JH]
  split
  ·omega
  ·have h1:=Z73 o d n h
   have h2:=Z1c r d _ h1.1
   omega
theorem Z73:∀ (o:OpOf Edit) (d n:Int),-1<=n->-1<=Z4h o d n/\Z4h o d n<=n
 | ⟨_,_,l,e⟩,d,n,h=> by
  simp only [Z4h]
  have h1:=Z08 l 80 n h
  split
  ·omega
  ·have h2:=Z0N e d (Zr l 80 n)
   omega
end
theorem ZnC{t:Tree}{n:Int}(h:0<=sh1 t n):(Zm t:Int)+sh1 t n<=n:=by
 unfold sh1 at*
 split at h
 ·omega
 ·rename_i hn
  rw [if_neg hn]
  exact Z3c t 80 n h
mutual
theorem Z5Z:∀ (e:Edit) (d n:Int),0<=Z0d e d n->(Z7 e:Int)+Z0d e d n<=n
 | .mk _ o nw w ks _ os,d,n,h=> by
  simp only [Z0d] at h ⊢
  split at h
  ·omega
  ·rename_i hc
   rw [if_neg hc]
   have r1:=Ym o 80 (n - 1 - w.length - os.length)
   have r2:=Z80 nw _ r1.1
   have r3:=Z1d ks (d - 1) _ r2.1
   have r4:=Z1c os (d - 1) _ r3.1
   have m4:=Z9n os (d - 1) _ h
   have m3:=Z9o ks (d - 1) (sh1 nw (ZM o 80 (n - 1 - w.length - os.length))) (by omega)
   have m2:=ZnC (t:=nw) (n:=ZM o 80 (n - 1 - w.length - os.length)) (by omega)
   have m1:=Z3c o 80 (n - 1 - w.length - os.length) (by omega)
   simp only [Z7]
   omega
theorem Z9o:∀ (ks:List (KidOf Edit)) (d n:Int),0<=Js ks d n->(ZR ks:Int)+Js ks d n<=n
 | [],d,n,h=> by simp only [Js,ZR];omega
 | k ::r,d,n,h=> by
  simp only [Js] at h ⊢
  split at h
  ·omega
  ·rename_i hc
   rw [if_neg hc]
   have r1:=Z5w k d n
   have r2:=Z1d r d _ r1.1
   have m2:=Z9o r d _ h
   have m1:=Zf2 k d n (by omega)
   simp only [ZR]
   omega
theorem Zf2:∀ (k:KidOf Edit) (d n:Int),0<=Z2a k d n->(JB k:Int)+Z2a k d n<=n
 | ⟨_,e⟩,d,n,h=> by
  simp only [Z2a,JB] at h ⊢
  exact Z5Z e d n h
theorem Z9n:∀ (os:List (OpOf Edit)) (d n:Int),0<=JH os d n->(Zd os:Int)+JH os d n<=n
 | [],d,n,h=> by simp only [JH,Zd];omega
 | o ::r,d,n,h=> by
  simp only [JH] at h ⊢
  split at h
  ·omega
  ·rename_i hc
   rw [if_neg hc]
   have r1:=Z73 o d n (by omega)
   have r2:=Z1c r d _ r1.1
   have m2:=Z9n r d _ h
   have m1:=ZgZ o d n (by omega)
   simp only [Zd]
   omega
theorem ZgZ:∀ (o:OpOf Edit) (d n:Int),0<=Z4h o d n->(Zv o:Int)+Z4h o d n<=n
 | ⟨_,_,l,e⟩,d,n,h=> by
  simp only [Z4h,Zv] at h ⊢
  split at h
  ·omega
  ·rename_i hc
   rw [if_neg hc]
   have m2:=Z5Z e d _ h
   have r2:=Z0N e d (Zr l 80 n)
   have m1:=Z2g l 80 n (by omega)
   omega
end
theorem Z8G{e:Edit}(h:0<=Z0d e 80 3000):Z7 e<=3000:=by
 have:=Z5Z e 80 3000 h
 omega
theorem Zpj(t:Tree):t.words.length+t.kids.length < Zm t:=by
 obtain ⟨k,w,ks⟩:=t
 have:=Zs ks
 simp only [Zm,Tree.words_mk,Tree.kids_mk]
 omega
theorem YB(e:Edit):Zm e.old+Zm e.new+e.words.length+e.ops.length+ZR e.kids+Zd e.ops < Z7 e:=by
 obtain ⟨k,o,n,w,ks,l,os⟩:=e
 simp only [Z7,Edit.old_mk,Edit.new_mk,Edit.words_mk,Edit.ops_mk,Edit.kids_mk]
 omega
theorem c62:Contract Try.prog cfg 62 Z3a:=by
 refine Zvl ?_
 intro t _ hp
 simp only [Z3Z] at hp
 have:=Zpj t
 refine Zzm t _ ?_;(try simp only [vcT,forall_eq])
 refine ⟨fun _=> by unfold InR;omega,Zb rfl ?_⟩
 rw [Qx]
 simp only [Jf]
 (simp only [vcS])
 omega
theorem c63:Contract Try.prog cfg 63 Z7Y:=by
 refine Zvk Zwr ?_
 intro w m _ hp
 refine Zzl _ _ _ ?_;(try simp only [vcT,forall_eq])
 refine ⟨⟨hp.1,by dsimp only;omega,hp.2⟩,Zb rfl ?_⟩
 try rfl
theorem Zwq:Contract Try.prog cfg 104 Z4B:=by
 refine Zsj c62 ?_
 intro e _ hp
 simp only [Z5O] at hp
 have h1:=YB e
 have h2:=Ys e.kids
 refine Zyb e _ ?_;(try simp only [vcT,forall_eq])
 try (simp only [Tree.eta,Edit.eta,Tree.kind_mk,Tree.words_mk,Tree.kids_mk])
 refine ⟨fun _=> by simp only [Z3Z];omega,fun _=> by simp only [Z3Z];omega,fun _=> by unfold InR;omega,fun _=> by unfold InR;omega,Zb rfl ?_⟩
 rw [Qx]
 simp only [Z0V]
 (simp only [vcS])
 constructor
 ·rintro ⟨⟨⟨⟨h3,h4⟩,h5⟩,h6⟩,h7⟩;exact ⟨⟨⟨h3,h4⟩,h5⟩,by omega⟩
 ·rintro ⟨⟨⟨h3,h4⟩,h5⟩,h6⟩;exact ⟨⟨⟨⟨h3,h4⟩,h5⟩,by omega⟩,by omega⟩
theorem ZvK (e:Edit) (x4 x5 i:Int) (N0:LSt U->Prop) (Q:AExit->LSt U->Prop) (h1:0<=x4/\x4<=1048576) (h2:0<=x5/\x5<=1048576) (hi:0<=i) (hlen:e.ops.length<=20000000000)
  (ho:∀ o∈e.ops,(0<=o.n/\o.n<=1048576)/\o.l.length<=20000000000)
  (h:i < e.ops.length->N0 (Z1P e (min (if (e.ops.getD i.toNat Op.nil).kind=2 then x4 else x4+Z2 (e.ops.getD i.toNat Op.nil)) 1048576) (min (if (e.ops.getD i.toNat Op.nil).kind=1 then x5 else x5+Z2 (e.ops.getD i.toNat Op.nil)) 1048576) (i+1)))
  (h':¬i < e.ops.length->Q .ret (⟨[(2,.c (.int .i64 x4)),(3,.c (.int .i64 x5))],[],[]⟩:LSt U)):ZwA e x4 x5 i N0 Q:=by
 refine ZqX _ _ _ _ _ _ ?_;(try simp only [vcT,forall_eq])
 (simp only [vcS]);(try simp only [vcT])
 refine ⟨fun hc=> ?_,h'⟩
 have hn:=h hc
 have hm:=ho _ (Zh (l:=e.ops) (i:=i.toNat) (by omega) Op.nil)
 have k1:∀ k,k=Z2 (e.ops.getD i.toNat Op.nil)->ZwE e x4 x5 i k N0 Q:=by
  intro k hk
  have hkr:0<=k/\k<=60000000000:=by
   rw [hk];unfold Z2;split <;> omega
  have k2:∀ y,y=(if (e.ops.getD i.toNat Op.nil).kind=2 then x4 else x4+k)->ZwD e x5 i k y N0 Q:=by
   intro y hy
   have hyr:0<=y/\y<=100000000000:=by rw [hy];split <;> omega
   have k3:∀ z,z=(if (e.ops.getD i.toNat Op.nil).kind=1 then x5 else x5+k)->ZwC e i k y z N0 Q:=by
    intro z hz
    have hzr:0<=z/\z<=100000000000:=by rw [hz];split <;> omega
    have k4:∀ u,u=min y 1048576->ZwB e i y z u N0 Q:=by
     intro u hu
     refine ZqY _ _ _ _ _ _ _ ?_;(try simp only [vcT,forall_eq])
     (simp only [vcS]);(try simp only [vcT])
     rw [<-hk,<-hy,<-hz,<-hu] at hn
     refine ⟨fun hq=> ⟨by unfold InR;omega,?_⟩,fun hq=> ⟨by unfold InR;omega,?_⟩⟩
     ·rw [show min z 1048576=1048576 by omega] at hn;exact hn
     ·rw [show min z 1048576=z by omega] at hn;exact hn
    refine ZqZ _ _ _ _ _ _ _ ?_;(try simp only [vcT,forall_eq])
    (simp only [vcS]);(try simp only [vcT])
    exact ⟨fun hq=> k4 _ (by omega),fun hq=> k4 _ (by omega)⟩
   refine Zr0 _ _ _ _ _ _ _ ?_;(try simp only [vcT,forall_eq])
   (simp only [vcS]);(try simp only [vcT])
   exact ⟨fun hq=> ⟨by unfold InR;omega,k3 _ (by rw [if_neg hq])⟩,fun hq=> k3 _ (by rw [if_pos hq])⟩
  refine Zr1 _ _ _ _ _ _ _ ?_;(try simp only [vcT,forall_eq])
  (simp only [vcS]);(try simp only [vcT])
  exact ⟨fun hq=> ⟨by unfold InR;omega,k2 _ (by rw [if_neg hq])⟩,fun hq=> k2 _ (by rw [if_pos hq])⟩
 exact ⟨⟨hi,hc⟩,by unfold InR;omega,fun hq=> k1 _ (by unfold Z2;rw [if_pos hq]),fun hq=> k1 _ (by unfold Z2;rw [if_neg hq])⟩
theorem c65:Contract Try.prog cfg 65 Z39:=by
 refine Zvj ?_
 intro e _ hp
 simp only [Zgo] at hp
 have h1:=YB e
 refine Zzj e _ ?_;(try simp only [vcT,forall_eq])
 refine Z9 (ι:=Int × Int × Int) (fun p=> Z1P e p.1 p.2.1 p.2.2) (fun p=> 0<=p.2.2/\p.2.2<=e.ops.length/\(0<=p.1/\p.1<=1048576)/\(0<=p.2.1/\p.2.1<=1048576)/\Z1b (e.ops.drop p.2.2.toNat) p.1=Z1b e.ops 0/\Z1a (e.ops.drop p.2.2.toNat) p.2.1=Z1a e.ops 0) (fun p=> ((e.ops.length:Int) - p.2.2).toNat) (0,0,0) rfl ⟨by dsimp only;omega,by dsimp only;omega,by dsimp only;omega,by dsimp only;omega,by simp,by simp⟩ ?_
 rintro ⟨x4,x5,i⟩ ⟨h2,h3,h4,h5,h6,h7⟩
 dsimp only at*
 have ho:∀ o∈e.ops,(0<=o.n/\o.n<=1048576)/\o.l.length<=20000000000:=by
  intro o hm
  refine ⟨hp.2 o hm,?_⟩
  have a1:=ZU hm
  have a2:=Zs o.l
  rw [ZI] at a1
  omega
 refine ZvK e x4 x5 i _ _ h4 h5 h2 (by omega) ho (fun hc=> ⟨(_,_,i+1),rfl,⟨by dsimp only;omega,by dsimp only;omega,?_,?_,?_,?_⟩,by dsimp only;omega⟩) (fun hc=> ?_)
 ·have hm:=ho _ (Zh (l:=e.ops) (i:=i.toNat) (by omega) Op.nil)
  dsimp only
  unfold Z2
  split <;> (try split) <;> omega
 ·have hm:=ho _ (Zh (l:=e.ops) (i:=i.toNat) (by omega) Op.nil)
  dsimp only
  unfold Z2
  split <;> (try split) <;> omega
 ·rw [Yn h2 hc Op.nil] at h6
  exact h6
 ·rw [Yn h2 hc Op.nil] at h7
  exact h7
 ·rw [Qg (by omega)] at h6 h7
  simp only [Z1b,Z1a] at h6 h7
  simp only [ZnI,<-h6,<-h7]
  exact ⟨⟨rfl,⟨⟨rfl,rfl⟩,trivial⟩,rfl,⟨⟨rfl,rfl⟩,trivial⟩,trivial⟩,trivial⟩
theorem Zir{l:List Kid}{d n:Int}(h:n < 0):Js l d n=n:=by cases l <;> simp [Js,h]
theorem Ziq{l:List Op}{d n:Int}(h:n < 0):JH l d n=n:=by cases l <;> simp [JH,h]
theorem Ze7{l:List Tree}{d n:Int}(h:n < 0):Zr l d n=n:=by cases l <;> simp [Zr,h]
theorem ZlJ{e:Edit}(h:Z2f e):Z3S e.old/\Z3S e.new/\e.words.length<=17592186044416/\e.kids.length<=17592186044416/\e.ops.length<=17592186044416/\Z4D e.kids/\Z4C e.ops:=by
 obtain ⟨k,o,n,w,ks,l,os⟩:=e;exact h
theorem Zpl(e:Edit)(d n:Int):Z0d e d n=if d=0\/n - 1 - e.words.length - e.ops.length < 0 then -1 else JH e.ops (d - 1) (Js e.kids (d - 1) (sh1 e.new (ZM e.old 80 (n - 1 - e.words.length - e.ops.length)))):=by
 obtain ⟨k,o,nw,w,ks,l,os⟩:=e;rfl
theorem c90:Contract Try.prog cfg 90 ZaN:=by
 refine Zv9 c78 ?_
 rintro N e d n _ hp hN
 simp only [Zbq,ZgL] at hp hN
 obtain ⟨hs,hd0,hd1,hn0,hn1⟩:=hp
 obtain ⟨so,sn,lw,lk,lo,sk,sos⟩:=ZlJ hs
 have hme:=YB e
 have hres:=Zpl e d n
 refine Zz6 N e d n _ ?_;(try simp only [vcT,forall_eq])
 (simp only [vcS]);(try simp only [vcT])
 try (simp only [Tree.eta,Edit.eta,Tree.kind_mk,Tree.words_mk,Tree.kids_mk])
 refine ⟨by unfold InR;omega,by unfold InR;omega,by unfold InR;omega,fun hc=> Yt rfl (by rw [hres,if_pos hc]),fun hc=> ?_⟩
 rw [if_neg (by omega)] at hres
 have r1:=Ym e.old 80 (n - 1 - e.words.length - e.ops.length)
 have p68:∀ t m,Z3S t->-1<=m->m<=4611686018427387904->Z94 (t,80,m,()):=fun t m h1 h2 h3=> ⟨h1,by dsimp only;omega,by dsimp only;omega,h2,h3⟩
 have k0:∀ x,x=sh1 e.new (ZM e.old 80 (n - 1 - e.words.length - e.ops.length))->Zwz N e d n x (Yy cfg Try.f90.ntmps Try.f90.results.toList (Zjx (e,d,n,())) []):=by
  intro x hx
  have rx:=Z80 e.new _ r1.1
  rw [<-hx] at rx hres
  refine ZqK N e d n x _ ?_;(try simp only [vcT,forall_eq])
  refine Z9 (ι:=Int × Int) (fun p=> Z78 e d n p.1 p.2) (fun p=> 0<=p.2/\p.2<=e.kids.length/\-1<=p.1/\p.1<=4611686018427387904/\Js (e.kids.drop p.2.toNat) (d - 1) p.1=Js e.kids (d - 1) x) (fun p=> ((e.kids.length:Int) - p.2).toNat) (x,0) rfl ⟨by dsimp only;omega,by dsimp only;omega,by dsimp only;omega,by dsimp only;omega,by simp⟩ ?_
  rintro ⟨y,i⟩ ⟨h1,h2,h3,h4,h5⟩
  dsimp only at*
  refine ZqJ N e d n y i _ _ ?_;(try simp only [vcT,forall_eq])
  (simp only [vcS]);(try simp only [vcT])
  try (simp only [Tree.eta,Edit.eta,Tree.kind_mk,Tree.words_mk,Tree.kids_mk])
  refine ⟨fun hi=> ?_,fun hi=> ?_⟩
  ·have hmem:=Zh (l:=e.kids) (i:=i.toNat) (by omega) (KidOf.mk 0 Edit.nil)
   have hsm:=Z8S sk hmem
   have hmm:=J6 hmem
   rw [Yn h1 hi.1 (KidOf.mk 0 Edit.nil)] at h5
   simp only [Js] at h5
   rw [if_neg (by omega),Zmo] at h5
   have rr:=Z0N (e.kids.getD i.toNat (KidOf.mk 0 Edit.nil)).e (d - 1) y
   exact ⟨⟨h1,hi.1⟩,by unfold InR;omega,⟨hsm,by dsimp only;omega,by dsimp only;omega,h3,h4⟩,by simp only [ZgL];omega,by unfold InR;omega,(_,i+1),rfl,⟨by dsimp only;omega,by dsimp only;omega,by dsimp only;omega,by dsimp only;omega,h5⟩,by dsimp only;omega⟩
  ·have hy:Js e.kids (d - 1) x=y:=by
    rw [<-h5]
    by_cases hlt:i < e.kids.length
    ·exact Zir (by omega)
    ·rw [Qg (by omega)];try rfl
   rw [hy] at hres
   refine Z9 (ι:=Int × Int) (fun p=> Z4k e d n p.1 p.2) (fun p=> 0<=p.2/\p.2<=e.ops.length/\-1<=p.1/\p.1<=4611686018427387904/\JH (e.ops.drop p.2.toNat) (d - 1) p.1=JH e.ops (d - 1) y) (fun p=> ((e.ops.length:Int) - p.2).toNat) (y,0) rfl ⟨by dsimp only;omega,by dsimp only;omega,h3,h4,by simp⟩ ?_
   rintro ⟨z,j⟩ ⟨h6,h7,h8,h9,h10⟩
   dsimp only at*
   refine ZqI N e d n z j _ _ ?_;(try simp only [vcT,forall_eq])
   (simp only [vcS]);(try simp only [vcT])
   refine ⟨fun hj=> ?_,fun hj=> ?_⟩
   ·have hmem:=Zh (l:=e.ops) (i:=j.toNat) (by omega) Op.nil
    have hsm:=Z8R sos hmem
    have hmm:=ZU hmem
    rw [ZI] at hmm
    rw [Yn h6 hj.1 Op.nil] at h10
    simp only [JH] at h10
    rw [if_neg (by omega),Zpk] at h10
    refine Z9 (ι:=Int × Int) (fun p=> Z77 e d n j p.1 p.2) (fun p=> 0<=p.2/\p.2<=(e.ops.getD j.toNat Op.nil).l.length/\-1<=p.1/\p.1<=4611686018427387904/\Zr ((e.ops.getD j.toNat Op.nil).l.drop p.2.toNat) 80 p.1=Zr (e.ops.getD j.toNat Op.nil).l 80 z) (fun p=> (((e.ops.getD j.toNat Op.nil).l.length:Int) - p.2).toNat) (z,0) rfl ⟨by dsimp only;omega,by dsimp only;omega,h8,h9,by simp⟩ ?_
    rintro ⟨u,k⟩ ⟨g1,g2,g3,g4,g5⟩
    dsimp only at*
    refine ZqH N e d n j u k _ _ _ ?_;(try simp only [vcT,forall_eq])
    (simp only [vcS]);(try simp only [vcT])
    try (simp only [Tree.eta,Edit.eta,Tree.kind_mk,Tree.words_mk,Tree.kids_mk])
    refine ⟨⟨h6,hj.1⟩,fun hk=> ?_,fun hk=> ?_⟩
    ·have hmt:=Zh (l:=(e.ops.getD j.toNat Op.nil).l) (i:=k.toNat) (by omega) Tree.nil
     rw [Yn g1 hk.1 Tree.nil] at g5
     simp only [Zr] at g5
     rw [if_neg (by omega)] at g5
     have rr:=Ym ((e.ops.getD j.toNat Op.nil).l.getD k.toNat Tree.nil) 80 u
     exact ⟨⟨h6,hj.1⟩,⟨g1,hk.1⟩,p68 _ _ (Zb5 hsm.2.1 hmt) g3 g4,by unfold InR;omega,(_,k+1),rfl,⟨by dsimp only;omega,by dsimp only;omega,by dsimp only;omega,by dsimp only;omega,g5⟩,by dsimp only;omega⟩
    ·have hu:Zr (e.ops.getD j.toNat Op.nil).l 80 z=u:=by
      rw [<-g5]
      by_cases hlt:k < (e.ops.getD j.toNat Op.nil).l.length
      ·exact Ze7 (by omega)
      ·rw [Qg (by omega)];try rfl
     rw [hu] at h10
     have rr:=Z0N (e.ops.getD j.toNat Op.nil).e (d - 1) u
     refine ⟨fun hq=> ⟨⟨h6,hj.1⟩,by unfold InR;omega,⟨hsm.2.2,by dsimp only;omega,by dsimp only;omega,g3,g4⟩,by simp only [ZgL];omega,by unfold InR;omega,(_,j+1),rfl,⟨by dsimp only;omega,by dsimp only;omega,by dsimp only;omega,by dsimp only;omega,?_⟩,by dsimp only;omega⟩,
      fun hq=> ⟨by unfold InR;omega,(_,j+1),rfl,⟨by dsimp only;omega,by dsimp only;omega,by dsimp only;omega,by dsimp only;omega,?_⟩,by dsimp only;omega⟩⟩
     ·rw [if_neg (by omega)] at h10;exact h10
     ·rw [if_pos (by omega)] at h10;exact h10
   ·refine Yt rfl ?_
    rw [hres,<-h10]
    by_cases hlt:j < e.ops.length
    ·exact (Ziq (by omega)).symm
    ·rw [Qg (by omega)];try rfl
 refine ⟨p68 _ _ so (by omega) (by omega),fun hq=> ⟨p68 _ _ sn r1.1 (by omega),k0 _ ?_⟩,fun hq=> k0 _ ?_⟩
 ·unfold sh1;rw [if_neg (by omega)]
 ·unfold sh1;rw [if_pos (by omega)]
theorem c54:Contract Try.prog cfg 54 ZaY:=by
 refine Zvo c90 ?_
 intro e _ hp
 refine Zzq e _ ?_;(try simp only [vcT,forall_eq])
 try (simp only [Tree.eta,Edit.eta,Tree.kind_mk,Tree.words_mk,Tree.kids_mk])
 exact ⟨⟨hp,by dsimp only;omega,by dsimp only;omega,by dsimp only;omega,by dsimp only;omega⟩,Zb rfl rfl⟩
theorem Z85(e:Edit)(d:Int):Z8 e d=
  if d=0\/e.kind < 0\/3 < e.kind then false
  else if (e.kind≠1/\¬(Jf e.old=true/\Jf e.new=true))\/(e.kind≠2/\¬(e.words.length=0/\e.kids.length=0))\/(e.kind≠3/\(e.list≠0\/e.ops.length≠0)) then false
  else if e.kind=1 then Zu e.old (dT d) && Zu e.new (dT d) && decide (e.old.kind≠10/\e.new.kind≠10)
  else Yc (-1) e.words && ZB (-1) e.kids (d - 1) && decide (¬(e.kind=3/\(e.list < 2\/9 < e.list))) && ZF e.list e.ops (d - 1) && decide (Z1b e.ops 0 < 1048576/\Z1a e.ops 0 < 1048576):=by
 obtain ⟨k,o,nw,w,ks,l,os⟩:=e;rfl
theorem Z3W(last:Int)(k:Kid)(d:Int):Jm last k d=(decide (last < k.at_/\k.at_<=65534/\k.e.kind≠0) && Z8 k.e d):=by cases k;rfl
theorem Z3d(list:Int)(o:Op)(d:Int):Zg list o d=
  if o.kind=0 then decide (1<=o.n/\o.n<=1048576/\o.l.length=0) && Z0V o.e
  else if o.n≠0\/o.kind < 0\/3 < o.kind then false
  else if o.kind < 3 then Y7 (dT d) list o.l && decide (0 < o.l.length) && Z0V o.e
  else decide (o.l.length=0/\o.e.kind≠0/\7 < list) && Z8 o.e d && decide (list=8\/o.e.kind=2\/o.e.kind=1/\o.e.old.kind=1/\o.e.new.kind=1):=by
 cases o;rfl
theorem Z83{list:Int}{o:Op}{d:Int}(h:Zg list o d=true):0<=o.n/\o.n<=1048576:=by
 rw [Z3d] at h
 split at h
 ·simp only [Q1,decide_eq_true_eq] at h;omega
 ·split at h
  ·cases h
  ·rename_i h1;omega
theorem rightOs_mem{list d:Int}:∀ {os:List Op} {o:Op},ZF list os d=true->o∈os->Zg list o d=true
 | x ::r,o,h,hm=> by
  simp only [ZF,Q1] at h
  rcases Qc.1 hm with rfl | hm
  ·exact h.1
  ·exact rightOs_mem h.2 hm
theorem Z90{d:Int}:∀ {ks:List Kid} {last:Int} {k:Kid},ZB last ks d=true->k∈ks->Z8 k.e d=true/\k.e.kind≠0
 | x ::r,last,k,h,hm=> by
  simp only [ZB,Q1] at h
  rcases Qc.1 hm with rfl | hm
  ·have:=h.1;rw [Z3W] at this;simp only [Q1,decide_eq_true_eq] at this;exact ⟨this.2,this.1.2.2⟩
  ·exact Z90 h.2 hm
theorem Z6v{e:Edit}(h:YQ e):InR e.kind/\rng e.old/\rng e.new/\(∀ x∈e.words,Zg2 x)/\InR e.list/\Z2z e.kids/\Z1z e.ops:=by
 obtain ⟨k,o,n,w,ks,l,os⟩:=e;exact h
theorem b23:Zz2:=by
 intro N e d _ hp hN
 simp only [Z96,ZeX] at hp hN
 obtain ⟨⟨hm,hr⟩,hd0,hd1⟩:=hp
 obtain ⟨ik,ro,rn,rw',il,rk,ros⟩:=Z6v hr
 have hme:=YB e
 have hkl:=Ys e.kids
 have hol:=ZV e.ops
 have hat:=Z85 e d
 rw [Zuj hd0] at hat
 refine Zzy N e d _ ?_;(try simp only [vcT,forall_eq])
 (simp only [vcS]);(try simp only [vcT]);(try simp only [vcU])
 try (simp only [Tree.eta,Edit.eta,Tree.kind_mk,Tree.words_mk,Tree.kids_mk])
 refine ⟨fun hc=> Zb rfl (by rw [hat,if_pos (by omega)]),fun hc=> ?_⟩
 rw [if_neg (by omega)] at hat
 refine ⟨fun _=> by simp only [Z3Z];omega,fun _=> by simp only [Z3Z];omega,fun _=> by unfold InR;omega,fun hf=> Zb rfl ?_,fun hf=> ⟨fun h1=> ⟨⟨by dsimp only;omega,ro,by dsimp only;omega,by dsimp only;omega⟩,fun _=> ⟨by dsimp only;omega,rn,by dsimp only;omega,by dsimp only;omega⟩,Zb rfl ?_⟩,fun h1=> ?_⟩⟩
 ·rw [hat,if_pos]
  rcases hf with (hf | hf) | hf
  ·left
   refine ⟨hf.1,fun h=> ?_⟩
   rcases hf.2 with h2 | h2
   ·rw [h.1] at h2;cases h2
   ·rw [h.2] at h2;cases h2
  ·right;left;omega
  ·right;right;omega
 ·rw [hat,if_neg,if_pos h1,Qx]
  ·(simp only [vcS])
   constructor
   ·rintro ⟨⟨⟨h2,h3⟩,h4⟩,h5⟩;exact ⟨⟨h2,h3⟩,h4,h5⟩
   ·rintro ⟨⟨h2,h3⟩,h4,h5⟩;exact ⟨⟨⟨h2,h3⟩,h4⟩,h5⟩
  ·intro h
   rcases h with h | h | h
   ·exact h.1 h1
   ·omega
   ·omega
 ·rw [if_neg,if_neg h1] at hat
  ·refine Z9 (ι:=Int × Int) (fun p=> Z7v e d p.1 p.2) (fun p=> 0<=p.2/\p.2<=e.words.length/\Yc p.1 (e.words.drop p.2.toNat)=Yc (-1) e.words) (fun p=> ((e.words.length:Int) - p.2).toNat) (-1,0) rfl ⟨by dsimp only;omega,by dsimp only;omega,by simp⟩ ?_
   rintro ⟨last,i⟩ ⟨h2,h3,h4⟩
   dsimp only at*
   refine Zrd N e d last i _ _ ?_;(try simp only [vcT,forall_eq])
   (simp only [vcS]);(try simp only [vcT]);(try simp only [vcU])
   try (simp only [Tree.eta,Edit.eta,Tree.kind_mk,Tree.words_mk,Tree.kids_mk])
   refine ⟨fun hi=> ?_,fun hi=> ?_⟩
   ·have hmem:=Zh (l:=e.words) (i:=i.toNat) (by omega) (WEdit.mk 0 0 0 0)
    have hrw:=rw' _ hmem
    rw [Yn h2 hi (WEdit.mk 0 0 0 0)] at h4
    simp only [Yc] at h4
    generalize e.words.getD i.toNat (WEdit.mk 0 0 0 0)=w at*
    obtain ⟨_,hmk,hwo,hwn⟩:=hrw
    refine ⟨⟨h2,hi⟩,fun _=> ⟨hwo,hmk⟩,fun _=> ⟨hwn,hmk⟩,fun hq=> Zb rfl ?_,fun hq=> ⟨by unfold InR;omega,(_,i+1),rfl,⟨by dsimp only;omega,by dsimp only;omega,?_⟩,by dsimp only;omega⟩⟩
    ·rw [hat,<-h4]
     rcases hq with (hq | hq) | hq
     ·rw [decide_eq_false (by omega)];try rfl
     ·rw [hq];simp
     ·rw [hq];simp
    ·dsimp only
     rw [<-h4,decide_eq_true (by omega),hq.1.2,hq.2];try rfl
   ·have hw:Yc (-1) e.words=true:=by
     rw [<-h4,Qg (by omega)];try rfl
    rw [hw,QB] at hat
    refine Z9 (ι:=Int × Int) (fun p=> Z7u e d p.1 p.2) (fun p=> 0<=p.2/\p.2<=e.kids.length/\ZB p.1 (e.kids.drop p.2.toNat) (d - 1)=ZB (-1) e.kids (d - 1)) (fun p=> ((e.kids.length:Int) - p.2).toNat) (-1,0) rfl ⟨by dsimp only;omega,by dsimp only;omega,by simp⟩ ?_
    rintro ⟨last,i⟩ ⟨h2,h3,h4⟩
    dsimp only at*
    refine Zrc N e d last i _ _ ?_;(try simp only [vcT,forall_eq])
    (simp only [vcS]);(try simp only [vcT]);(try simp only [vcU])
    try (simp only [Tree.eta,Edit.eta,Tree.kind_mk,Tree.words_mk,Tree.kids_mk])
    refine ⟨fun hi=> ?_,fun hi=> ?_⟩
    ·have hmem:=Zh (l:=e.kids) (i:=i.toNat) (by omega) (KidOf.mk 0 Edit.nil)
     have hrw:=YT rk hmem
     have hmm:=J6 hmem
     rw [Yn h2 hi (KidOf.mk 0 Edit.nil)] at h4
     simp only [ZB,Z3W] at h4
     generalize e.kids.getD i.toNat (KidOf.mk 0 Edit.nil)=w at*
     refine ⟨⟨h2,hi⟩,fun _=> by unfold InR;omega,fun _=> ⟨⟨by dsimp only;omega,hrw.2⟩,by dsimp only;omega,by dsimp only;omega⟩,fun _=> by simp only [ZeX];omega,fun hq=> Zb rfl ?_,fun hq=> ⟨by unfold InR;omega,(_,i+1),rfl,⟨by dsimp only;omega,by dsimp only;omega,?_⟩,by dsimp only;omega⟩⟩
     ·rw [hat,<-h4]
      rcases hq with hq | hq
      ·rw [decide_eq_false (by omega)];try rfl
      ·rw [hq];simp
     ·dsimp only
      rw [<-h4,decide_eq_true (by omega),hq.2];try rfl
    ·have hw:ZB (-1) e.kids (d - 1)=true:=by
      rw [<-h4,Qg (by omega)];try rfl
     rw [hw,QB] at hat
     refine ⟨fun hq=> Zb rfl (by rw [hat,decide_eq_false (by omega)];rfl),fun hq=> ?_⟩
     rw [decide_eq_true (by omega),QB] at hat
     refine Z9 (ι:=Int) (fun p=> Z7t e d p) (fun p=> 0<=p/\p<=e.ops.length/\ZF e.list (e.ops.drop p.toNat) (d - 1)=ZF e.list e.ops (d - 1)) (fun p=> ((e.ops.length:Int) - p).toNat) 0 rfl ⟨by omega,by omega,by simp⟩ ?_
     rintro j ⟨h5,h6,h7⟩
     refine Zrb N e d j _ _ ?_;(try simp only [vcT,forall_eq])
     (simp only [vcS]);(try simp only [vcT]);(try simp only [vcU])
     try (simp only [Tree.eta,Edit.eta,Tree.kind_mk,Tree.words_mk,Tree.kids_mk])
     refine ⟨fun hj=> ?_,fun hj=> ?_⟩
     ·have hmem:=Zh (l:=e.ops) (i:=j.toNat) (by omega) Op.nil
      have hro:=Z1h ros hmem
      have hmm:=ZU hmem
      rw [Yn h5 hj Op.nil] at h7
      simp only [ZF] at h7
      generalize e.ops.getD j.toNat Op.nil=o at*
      refine ⟨⟨h5,hj⟩,by unfold InR;omega,⟨⟨by show Zv o<=20000000000;omega,hro,il⟩,by dsimp only;omega,by dsimp only;omega⟩,?_,fun hq=> Zb rfl ?_,fun hq=> ⟨by unfold InR;omega,j+1,rfl,⟨by omega,by omega,?_⟩,by omega⟩⟩
      ·show 2*Zv o+1 < N
       omega
      ·have hq':Zg e.list o (d - 1)=false:=hq
       rw [hat,<-h7,hq'];try rfl
      ·have hq':Zg e.list o (d - 1)=true:=hq
       rw [<-h7,hq'];try rfl
     ·have hw:ZF e.list e.ops (d - 1)=true:=by
       rw [<-h7,Qg (by omega)];try rfl
      rw [hw,QB] at hat
      refine ⟨⟨hm,fun o ho=> Z83 (rightOs_mem hw ho)⟩,Zb rfl ?_⟩
      rw [hat,Qx]
      (simp only [vcS])
  ·intro h
   rcases h with h | h | h
   ·rcases hf.1.1 with h2 | h2
    ·exact h1 h2
    ·exact h.2 h2
   ·omega
   ·omega
theorem ZcK{l:List Tree}{i:Int}(h0:0<=i)(h:i < l.length):List.drop i.toNat (l.take (i+1).toNat)=[l.getD i.toNat Tree.nil]:=by
 rw [List.drop_take,show (i+1).toNat - i.toNat=1 by omega,Yn h0 h Tree.nil]
 try rfl
theorem b64:ZyZ:=by
 intro N list o d _ hp hN
 simp only [Zdf,Zmc] at hp hN
 obtain ⟨⟨hm,hr,hil⟩,hd0,hd1⟩:=hp
 obtain ⟨ik,inn,rl,re⟩:=Z14 hr
 rw [ZI] at hm hN
 have hll:=Zs o.l
 have hep:=Z8v o.e
 have hat:=Z3d list o d
 rw [Zuj hd0,ZcS] at hat
 refine Zzk N list o d _ ?_;(try simp only [vcT,forall_eq])
 (simp only [vcS]);(try simp only [vcT]);(try simp only [vcU])
 try (simp only [Tree.eta,Edit.eta,Tree.kind_mk,Tree.words_mk,Tree.kids_mk])
 refine ⟨fun h0=> ⟨fun _=> by simp only [Z5O];omega,Zb rfl ?_⟩,fun h0=> ⟨fun hc=> Zb rfl ?_,fun hc=> ⟨fun h3=> ?_,fun h3=> ⟨fun _=> ⟨⟨by dsimp only;omega,re⟩,hd0,hd1⟩,fun _=> by simp only [ZeX];omega,fun hq=> Zb rfl ?_,fun hq=> Zb rfl ?_⟩⟩⟩⟩
 ·rw [hat,if_pos h0,Qx]
  (simp only [vcS])
  constructor
  ·rintro ⟨h1,h2⟩;exact ⟨by omega,h2⟩
  ·rintro ⟨h1,h2⟩;exact ⟨by omega,h2⟩
 ·rw [hat,if_neg h0,if_pos (by omega)]
 ·rw [if_neg h0,if_neg (by omega),if_pos h3] at hat
  refine Z9 (ι:=Int) (fun p=> Z7n list o d p) (fun p=> 0<=p/\p<=o.l.length/\Z35 list (o.l.drop p.toNat)=Z35 list o.l) (fun p=> ((o.l.length:Int) - p).toNat) 0 rfl ⟨by omega,by omega,by simp⟩ ?_
  rintro i ⟨h4,h5,h6⟩
  refine Zr2 N list o d i _ _ ?_;(try simp only [vcT,forall_eq])
  (simp only [vcS]);(try simp only [vcT]);(try simp only [vcU])
  try (simp only [Tree.eta,Edit.eta,Tree.kind_mk,Tree.words_mk,Tree.kids_mk])
  refine ⟨fun hi=> ?_,fun hi=> ?_⟩
  ·have hmem:=Zh (l:=o.l) (i:=i.toNat) (by omega) Tree.nil
   have hrt:=Z0I rl hmem
   have hmt:=YX hmem
   rw [ZcK h4 hi]
   rw [Yn h4 hi Tree.nil] at h6
   simp only [Z35] at h6
   generalize o.l.getD i.toNat Tree.nil=t at*
   refine ⟨by unfold InR;omega,by omega,⟨by simp only [Zm,Z6,List.length_nil];omega,⟨hil,fun x hx=> (by cases hx),hrt,trivial⟩,by dsimp only;omega,by dsimp only;omega⟩,fun hq=> Zb rfl ?_,fun hq=> ⟨by unfold InR;omega,i+1,rfl,⟨by omega,by omega,?_⟩,by omega⟩⟩
   ·rw [hat,<-h6,hq];try rfl
   ·rw [<-h6,hq];try rfl
  ·have hw:Z35 list o.l=true:=by
    rw [<-h6,Qg (by omega)];try rfl
   rw [hw,QB] at hat
   refine ⟨fun _=> by simp only [Z5O];omega,Zb rfl ?_⟩
   rw [hat,Qx]
   (simp only [vcS])
   simp only [Int.natCast_pos]
 ·rw [hat,if_neg h0,if_neg (by omega),if_neg h3]
  rcases hq with hq | hq
  ·have:¬(o.l.length=0/\o.e.kind≠0/\7 < list):=by omega
   rw [decide_eq_false this];try rfl
  ·rw [hq];simp
 ·rw [hat,if_neg h0,if_neg (by omega),if_neg h3,hq.2]
  have:o.l.length=0/\o.e.kind≠0/\7 < list:=by omega
  rw [decide_eq_true this,Qx]
  (simp only [vcS])
  simp only [true_and,X3,decide_eq_true_eq,and_assoc,or_assoc]
theorem ZvV:Contract Try.prog cfg 23 Zb1/\Contract Try.prog cfg 64 ZnA:=Zml c62 c63 Zwq c37 c65 b23 b64
theorem Z4S(e:Edit):Y3 e=(decide (Z1b e.ops 0<=2000/\Z1a e.ops 0<=2000) && J7 e.kids && ZN e.ops):=by
 obtain ⟨k,o,nw,w,ks,l,os⟩:=e;rfl
theorem Z9m(k:Kid):ZgY k=Y3 k.e:=by cases k;rfl
theorem Zc6(o:Op):Z72 o=Y3 o.e:=by cases o;rfl
theorem Z84{e:Edit}{d:Int}(h:Z8 e d=true):(∀ k∈e.kids,Z8 k.e (d - 1)=true/\k.e.kind≠0)/\∀ o∈e.ops,Zg e.list o (d - 1)=true:=by
 rw [Z85] at h
 split at h
 ·cases h
 ·split at h
  ·cases h
  ·rename_i h1 h2
   split at h
   ·rename_i h3
    have hk:e.kids=[]:=Q3 (by omega)
    have ho:e.ops=[]:=Q3 (by omega)
    rw [hk,ho]
    exact ⟨fun k hk=> (by cases hk),fun o ho=> (by cases ho)⟩
   ·simp only [Q1] at h
    exact ⟨fun k hk=> Z90 h.1.1.1.2 hk,fun o ho=> rightOs_mem h.1.2 ho⟩
theorem Zg1{e:Edit}(h:Z0V e=true):e.kind=0/\Jf e.old=true/\Jf e.new=true/\e.words=[]/\e.kids=[]/\e.ops=[]/\e.list=0:=by
 simp only [Z0V,Q1,decide_eq_true_eq] at h
 obtain ⟨⟨⟨h1,h2⟩,h3⟩,h4,h5,h6,h7⟩:=h
 exact ⟨h1,h2,h3,Q3 h4,Q3 h5,Q3 h6,h7⟩
theorem Z8U{e:Edit}(h:Z0V e=true)(d:Int)(hd:d≠0):Z8 e d=true:=by
 obtain ⟨h1,h2,h3,h4,h5,h6,h7⟩:=Zg1 h
 rw [Z85,h1,h2,h3,h4,h5,h6,h7,if_neg (by omega),if_neg (by simp),if_neg (by omega)]
 simp [Yc,ZB,ZF,Z1b,Z1a]
theorem ZcD{list:Int}{o:Op}{d:Int}(h:Zg list o d=true):∃ d',Z8 o.e d'=true:=by
 rw [Z3d] at h
 split at h
 ·simp only [Q1] at h
  exact ⟨1,Z8U h.2 1 (by omega)⟩
 ·split at h
  ·cases h
  ·split at h
   ·simp only [Q1] at h
    exact ⟨1,Z8U h.2 1 (by omega)⟩
   ·simp only [Q1] at h
    exact ⟨d,h.1.2⟩
theorem c55:Contract Try.prog cfg 55 ZaX:=by
 refine Zvn c65 ?_
 intro N e _ hp hN
 simp only [Zbs,ZgN] at hp hN
 obtain ⟨⟨hm,hr⟩,dd,hrt⟩:=hp
 obtain ⟨ik,ro,rn,rw',il,rk,ros⟩:=Z6v hr
 have hme:=YB e
 have hkl:=Ys e.kids
 have hol:=ZV e.ops
 have hat:=Z4S e
 obtain ⟨hrk,hro⟩:=Z84 hrt
 refine Zzp N e _ ?_;(try simp only [vcT,forall_eq])
 (simp only [vcS]);(try simp only [vcT]);(try simp only [vcU])
 try (simp only [Tree.eta,Edit.eta,Tree.kind_mk,Tree.words_mk,Tree.kids_mk])
 refine ⟨⟨hm,fun o ho=> Z83 (hro o ho)⟩,fun hq=> Zb rfl (by rw [hat,decide_eq_false (by omega)];rfl),fun hq=> ?_⟩
 rw [decide_eq_true (by omega),QB] at hat
 refine Z9 (ι:=Int) (fun p=> Z7q e p) (fun p=> 0<=p/\p<=e.kids.length/\J7 (e.kids.drop p.toNat)=J7 e.kids) (fun p=> ((e.kids.length:Int) - p).toNat) 0 rfl ⟨by omega,by omega,by simp⟩ ?_
 rintro i ⟨h4,h5,h6⟩
 refine Zr6 N e i _ _ ?_;(try simp only [vcT,forall_eq])
 (simp only [vcS]);(try simp only [vcT]);(try simp only [vcU])
 try (simp only [Tree.eta,Edit.eta,Tree.kind_mk,Tree.words_mk,Tree.kids_mk])
 refine ⟨fun hi=> ?_,fun hi=> ?_⟩
 ·have hmem:=Zh (l:=e.kids) (i:=i.toNat) (by omega) (KidOf.mk 0 Edit.nil)
  have hrr:=YT rk hmem
  have hmm:=J6 hmem
  have hri:=hrk _ hmem
  rw [Yn h4 hi (KidOf.mk 0 Edit.nil)] at h6
  simp only [J7,Z9m] at h6
  generalize e.kids.getD i.toNat (KidOf.mk 0 Edit.nil)=k at*
  refine ⟨⟨h4,hi⟩,⟨⟨by dsimp only;omega,hrr.2⟩,_,hri.1⟩,by simp only [ZgN];omega,fun hq=> Zb rfl (by rw [hat,<-h6,hq];rfl),fun hq=> ⟨by unfold InR;omega,i+1,rfl,⟨by omega,by omega,by rw [<-h6,hq];rfl⟩,by omega⟩⟩
 ·have hw:J7 e.kids=true:=by
   rw [<-h6,Qg (by omega)];try rfl
  rw [hw,QB] at hat
  refine Z9 (ι:=Int) (fun p=> Z7p e p) (fun p=> 0<=p/\p<=e.ops.length/\ZN (e.ops.drop p.toNat)=ZN e.ops) (fun p=> ((e.ops.length:Int) - p).toNat) 0 rfl ⟨by omega,by omega,by simp⟩ ?_
  rintro j ⟨g4,g5,g6⟩
  refine Zr5 N e j _ _ ?_;(try simp only [vcT,forall_eq])
  (simp only [vcS]);(try simp only [vcT]);(try simp only [vcU])
  try (simp only [Tree.eta,Edit.eta,Tree.kind_mk,Tree.words_mk,Tree.kids_mk])
  refine ⟨fun hi=> ?_,fun hi=> ?_⟩
  ·have hmem:=Zh (l:=e.ops) (i:=j.toNat) (by omega) Op.nil
   have hrr:=Z14 (Z1h ros hmem)
   have hmm:=ZU hmem
   have hri:=ZcD (hro _ hmem)
   rw [ZI] at hmm
   rw [Yn g4 hi Op.nil] at g6
   simp only [ZN,Zc6] at g6
   generalize e.ops.getD j.toNat Op.nil=o at*
   refine ⟨⟨g4,hi⟩,⟨⟨by dsimp only;omega,hrr.2.2.2⟩,hri⟩,by simp only [ZgN];omega,fun hq=> Zb rfl (by rw [hat,<-g6,hq];rfl),fun hq=> ⟨by unfold InR;omega,j+1,rfl,⟨by omega,by omega,by rw [<-g6,hq];rfl⟩,by omega⟩⟩
  ·refine Zb rfl ?_
   rw [hat,<-g6,Qg (by omega)];try rfl
theorem c15:Contract Try.prog cfg 15 Zb3:=by
 refine Zvw c54 ZvV.1 c55 ?_
 intro e _ hp
 simp only [ZjN] at hp
 refine ZzA e _ ?_;(try simp only [vcT,forall_eq])
 try (simp only [Tree.eta,Edit.eta,Tree.kind_mk,Tree.words_mk,Tree.kids_mk])
 refine ⟨hp.1,fun hf=> ?_,fun hf=> ?_,Zb rfl ?_⟩
 ·have:=Z8G (by simpa using hf)
  exact ⟨⟨by dsimp only;omega,hp.2⟩,by dsimp only;omega,by dsimp only;omega⟩
 ·simp only [Zq1,decide_eq_true_eq] at hf
  have:=Z8G hf.1
  exact ⟨⟨by dsimp only;omega,hp.2⟩,64,hf.2⟩
 ·show _=Z0f e
  simp only [Z0f]
  rw [Qx]
  (simp only [vcS])
end Go.AM.Ytpjenobkibfpcaa
namespace Go.AM
noncomputable def eqX{α:Type}(a b:α):Bool:=@decide (a=b) (Classical.propDecidable _)
theorem JL{α:Type}{a b:α}:eqX a b=true↔a=b:=by unfold eqX;exact @decide_eq_true_iff _ (Classical.propDecidable _)
@[simp] theorem Zcj {α:Type} (a:α):eqX a a=true:=JL.2 rfl
def Zq(o:Op)(n:Int):Op:=if Z2 o<=n then o else if o.kind=0 then ⟨o.kind,n,o.l,o.e⟩ else ⟨o.kind,o.n,o.l.take n.toNat,o.e⟩
def Yx(o:Op)(n:Int):Op:=if o.kind=0 then ⟨o.kind,o.n - n,o.l,o.e⟩ else ⟨o.kind,o.n,o.l.drop n.toNat,o.e⟩
def Zw(l:List Op)(n:Int):List Op:=if Z2 (l.getD 0 Op.nil)<=n then l.drop 1 else Yx (l.getD 0 Op.nil) n ::l.drop 1
def sgl(a:Int)(l:List Op):Bool:=decide (l.length≠0/\(l.getD 0 Op.nil).kind=a)
def ZT(o:Op):Prop:=
 (o.kind=0/\o.l=[]/\(1<=o.n/\o.n<=1048576)/\o.e=Edit.nil)\/((o.kind=1\/o.kind=2)/\o.n=0/\o.l≠[]/\o.e=Edit.nil)\/(o.kind=3/\o.n=0/\o.l=[])
def Z8l(l:List Op):Prop:=(∀ o∈l,ZT o)/\Zd l<=20000000000
theorem Y6(l:List Op)(n:Int)(h:l.length≠0):(Zw l n).length<=l.length:=by
 unfold Zw
 split <;> simp <;> omega
theorem Y5(l:List Op)(n:Int)(h:l.length≠0)(hn:Z2 (l.getD 0 Op.nil)<=n):(Zw l n).length < l.length:=by
 unfold Zw
 rw [if_pos hn]
 simp;omega
def ZK(ap aq:Int)(p q:List Op)(out:List Piece):List Piece × Bool × List Op × List Op:=
 if h:sgl ap p=true then ZK ap aq (p.drop 1) q (out++[⟨1,p.getD 0 Op.nil,Op.nil⟩])
 else if h2:sgl aq q=true then ZK ap aq p (q.drop 1) (out++[⟨2,Op.nil,q.getD 0 Op.nil⟩])
 else if h3:p.length=0\/q.length=0 then
  if decide (p.length=0)=decide (q.length=0) then (out,true,p,q) else ([],false,p,q)
 else
  ZK ap aq (Zw p (min (Z2 (p.getD 0 Op.nil)) (Z2 (q.getD 0 Op.nil)))) (Zw q (min (Z2 (p.getD 0 Op.nil)) (Z2 (q.getD 0 Op.nil))))
   (out++[⟨0,Zq (p.getD 0 Op.nil) (min (Z2 (p.getD 0 Op.nil)) (Z2 (q.getD 0 Op.nil))),Zq (q.getD 0 Op.nil) (min (Z2 (p.getD 0 Op.nil)) (Z2 (q.getD 0 Op.nil)))⟩])
termination_by p.length+q.length
decreasing_by
 ·have:=(of_decide_eq_true h).1;rw [QZ];omega
 ·have:=(of_decide_eq_true h2).1;rw [QZ];omega
 ·rcases Int.le_total (Z2 (p.getD 0 Op.nil)) (Z2 (q.getD 0 Op.nil)) with hm | hm
  ·have a:=Y5 p _ (by omega) (Xa (Z2 (p.getD 0 Op.nil)))
   have b:=Y6 q (Z2 (p.getD 0 Op.nil)) (by omega)
   rw [Int.min_eq_left hm];omega
  ·have a:=Y5 q _ (by omega) (Xa (Z2 (q.getD 0 Op.nil)))
   have b:=Y6 p (Z2 (q.getD 0 Op.nil)) (by omega)
   rw [Int.min_eq_right hm];omega
def ZdW(i alone:Int)(o:Op):List AUnit:=
 (if o.kind=0 then List.replicate o.n.toNat ⟨i,0,Tree.nil,Edit.nil,false⟩ else [])
  ++(o.l.map (fun t=> ⟨i,o.kind,t,Edit.nil,decide (o.kind=alone)⟩)
  ++(if o.kind=3 then [⟨i,3,Tree.nil,o.e,false⟩] else []))
def Z2m:List Op->Int
 | []=> 0
 | o ::r=> Z2 o+Z2m r
def opU(u:AUnit):Op:=if u.kind=0 then ⟨0,1,[],Edit.nil⟩ else if u.kind=3 then ⟨3,0,[],u.e⟩ else ⟨u.kind,0,[u.t],Edit.nil⟩
end Go.AM
