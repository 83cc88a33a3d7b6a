import Derived.Test.YtfapacabjkhepaaGreatWKRB07
set_option linter.unusedSimpArgs false
set_option linter.unusedVariables false
namespace Go.AM.YtfapacabjkhepaaGreat
open Go.AM Go.Proofs
noncomputable section
def Zpr:ArgL (Int × Unit):=(.cons (Yc .u64) .nil)
def Zef(a:Int × Unit):Prop:=0<=a.1/\a.1 < 18446744073709551616
def Zla(a:Int × Unit):V U:= .agg (zb8 Zu a.1)
def Z8r:Fs U:=fs Zpr (fun a=> [Zef a]) Zla
def Zpq:ArgL (Int × Int × Unit):=(.cons (Yc .u8) (.cons (Yc .i64) .nil))
def ZhA(a:Int × Int × Unit):Prop:=(0<=a.1/\a.1 < 256)/\0<=a.2.1/\a.2.1<=8
def Zsv(a:Int × Int × Unit):V U:= .c (.bool (Z0j a.1 a.2.1))
def Z8q:Fs U:=fs Zpq (fun a=> [ZhA a]) Zsv
def Zpp:ArgL (List Int × Int × Unit):=(.cons (aSl .u8) (.cons (Yc .i64) .nil))
def Zls(a:List Int × Int × Unit):Prop:=a.2.1=0/\a.1.length=8/\∀ x∈a.1,0<=x/\x < 256
def Zsu(a:List Int × Int × Unit):V U:= .c (.int .u64 (of8 (fun i=> a.1.getD i 0)))
def Z8p:Fs U:=fs Zpp (fun a=> [Zls a]) Zsu
def Zvd:ArgL (Int × Int × Int × Unit):=(.cons (Yc .u64) (.cons (Yc .u64) (.cons (Yc .u8) .nil)))
def ZbG(a:Int × Int × Int × Unit):Prop:=(0<=a.1/\a.1 < 18446744073709551616)/\(0<=a.2.1/\a.2.1 < 18446744073709551616)/\(0<=a.2.2.1/\a.2.2.1 < 256)
def ZA8(a:Int × Int × Int × Unit):V U:= .c (.int .u64 (mix a.1 a.2.1 a.2.2.1))
def Z4m:Fs U:=fs Zvd (fun a=> [ZbG a]) ZA8
def Z5g(a:Tree × Unit):Prop:=Zh a.1<=20000000000
def ZAe(a:Tree × Unit):V U:= .c (.bool (Ys a.1))
def Z4o:Fs U:=fs ZvE (fun a=> [Z5g a]) ZAe
def Zvp:ArgL (Int × Int × Unit):=(.cons (Yc .u64) (.cons (Yc .u8) .nil))
def ZnV(a:Int × Int × Unit):Prop:=(0<=a.1/\a.1 < 18446744073709551616)/\(0<=a.2.1/\a.2.1 < 256)
def ZAd(a:Int × Int × Unit):V U:= .c (.bool (Yg a.1 a.2.1))
def Zaz:Fs U:=fs Zvp (fun a=> [ZnV a]) ZAd
def Zvc:ArgL (Edit × Unit):=(.cons (aEl .edit) .nil)
def Ze0(a:Edit × Unit):Prop:=Zd a.1<=20000000000
def ZA7(a:Edit × Unit):V U:= .c (.bool (Z14 a.1))
def Zax:Fs U:=fs Zvc (fun a=> [Ze0 a]) ZA7
def Zjv(a:Edit × Unit):Prop:=Zd a.1<=20000000000/\∀ o∈Edit.ops a.1,0<=o.n/\o.n<=1048576
def Zs3(a:Edit × Unit):V U:= .tup [(false,[ci (Z13 a.1.ops 0)]),(false,[ci (Z12 a.1.ops 0)])]
def Z4n:Fs U:=fs Zvc (fun a=> [Zjv a]) Zs3
def ZmL:ArgL (Edit × Int × Int × Unit):=(.cons (aEl .edit) (.cons (Yc .i64) (.cons (Yc .i64) .nil)))
def Ze3(a:Edit × Int × Int × Unit):Prop:=Z3p a.1/\0<=a.2.1/\a.2.1<=4611686018427387904/\-1<=a.2.2.1/\a.2.2.1<=4611686018427387904
def ZjU(a:Edit × Int × Int × Unit):Nat:=Zd a.1
def ZnB(a:Edit × Int × Int × Unit):V U:= .c (ci (Z0H a.1 a.2.1 a.2.2.1))
def Zdk:Fs U:=fs ZmL (fun a=> [Ze3 a]) ZnB
def ZsV(a:Edit × Unit):Prop:=Z3p a.1
def ZAj(a:Edit × Unit):V U:= .c (.bool (decide (0<=Z0H a.1 80 3000)))
def Zdr:Fs U:=fs Zvc (fun a=> [ZsV a]) ZAj
def Zof:Zg U:=lvl [([0,2],[2]),([0,2,3],[2,3]),([0,2,3,4],[2,3]),([0,2,3,4,7],[2,3]),([0,2,3,4],[2,3]),([0,2,3,4],[2,3]),([0,2,3,4],[2,3]),([2],[2])]
def Z47(w x0 x4 d aa ae af h ab u s:Int):LSt U:=(L2 [(0,.c (.int .u64 x0)),pL 2,pL 3,pI 4 x4] [(.loc 2,zc0),(.loc 3,(zi8 [d,aa,ae,af,h,ab,u,s]))])
abbrev ZFu(p:List Nat):=AW (Z2 Zmg) Tryz.f131 Zof p
abbrev ZH6(p:List Nat):=SW (Z2 Zmg) Tryz.f131 Zof p
theorem ZG3(w:Int)(Q:QT)(h:(Zl (ZFu [1,1,0,1,0,0]) (Z47 w w 0 0 0 0 0 0 0 0 0) (xB 0 (ZH6 [1,1,1] Q)))):
  ZFu [] (L2 [(0,.c (.int .u64 w))] []) Q:=
 Eq.mpr V5 h
theorem ZrB(w x0 x4 d ab af ah s ae aa u:Int)(N0:NT)(Q:QT)(h:let z0:=IntKind.wrap .u8 (Int.tmod x0 256);(iB (decide (x4 < 8)) (((256:Int)≠0)/\((0:Int)<=x4/\x4 < ((8:Nat):Int))/\(((256:Int)≠0)/\((InR (x4+1))/\(N0 (Z47 w (IntKind.wrap .u64 (Int.tdiv x0 256)) (x4+1) (Z1E x4 0 z0 d) (Z1E x4 1 z0 ab) (Z1E x4 2 z0 af) (Z1E x4 3 z0 ah) (Z1E x4 4 z0 s) (Z1E x4 5 z0 ae) (Z1E x4 6 z0 aa) (Z1E x4 7 z0 u)))))) ((Q .ret (L2 [pL 2] [(.loc 2,(zi8 [d,ab,af,ah,s,ae,aa,u]))]))))):
  ZFu [1,1,0,1,0,0] (Z47 w x0 x4 d ab af ah s ae aa u) (xT N0 (xB 0 (ZH6 [1,1,1] Q))):=
 Eq.mpr V5 h
def ZzI(w:Int):Prop:=AW (Z2 Zmg) Tryz.f131 Zof [] (Zi (Zpr.can (w,())) []) (EQ Tryz.f131 (Zla (w,())) [])
theorem ZxW(hb:∀ (w:Int) (_:Unit),Zef (w,())->ZzI w):CT 131 Z8r:=
 Z1 (l:=[]) Zk rfl trivial Zof Tryz.func131 rfl rfl 1 (fun _=> rfl) V2 (fun ⟨w,_⟩=> hb w ())
def Zoe:Zg U:=lvl [([0,1],[]),([0,1,5],[]),([0,1,5,8],[]),([0,1,5],[]),([0,1,5],[]),([4],[])]
def Z6G(m i x0 d:Int):LSt U:=(L2 [(0,.c (.int .u8 x0)),pI 1 i,pI 5 d] [])
abbrev ZFt(p:List Nat):=AW (Z2 Zmg) Tryz.f132 Zoe p
abbrev ZH5(p:List Nat):=SW (Z2 Zmg) Tryz.f132 Zoe p
theorem ZG2(m i:Int)(Q:QT)(h:(Zl (ZFt [1,0,1,0,0]) (Z6G m i m 0) (xB 0 (ZH5 [1,1] Q)))):
  ZFt [] (L2 [(0,.c (.int .u8 m)),pI 1 i] []) Q:=
 Eq.mpr V5 h
theorem ZrA(m i x0 d:Int)(N0:NT)(Q:QT)(h:(iB (decide (d < i)) (((2:Int)≠0)/\((InR (d+1))/\(N0 (Z6G m i (IntKind.wrap .u8 (Int.tdiv x0 2)) (d+1))))) (((2:Int)≠0)/\(Q .ret (L2 [pB 4 (((Int.tmod x0 2):Int)==1)] []))))):
  ZFt [1,0,1,0,0] (Z6G m i x0 d) (xT N0 (xB 0 (ZH5 [1,1] Q))):=
 Eq.mpr V5 h
def ZzH(m i:Int):Prop:=AW (Z2 Zmg) Tryz.f132 Zoe [] (Zi (Zpq.can (m,i,())) []) (EQ Tryz.f132 (Zsv (m,i,())) [])
theorem ZxV(hb:∀ (m:Int) (i:Int) (_:Unit),ZhA (m,i,())->ZzH m i):CT 132 Z8q:=
 Z1 (l:=[]) Zk rfl trivial Zoe Tryz.func132 rfl rfl 2 (fun _=> rfl) V2 (fun ⟨m,i,_⟩=> hb m i ())
def Zod:Zg U:=lvl [([0,1],[]),([0,1,5],[]),([0,1,5,6],[]),([0,1,5,6,8],[]),([0,1,5,6],[]),([0,1,5,6],[]),([4],[])]
def Z6F(b:List Int)(from_ h d:Int):LSt U:=(L2 [(0,.c (sU .u8 b .unk)),pI 1 from_,(5,.c (.int .u64 h)),pI 6 d] [])
abbrev ZFs(p:List Nat):=AW (Z2 Zmg) Tryz.f133 Zod p
abbrev ZH4(p:List Nat):=SW (Z2 Zmg) Tryz.f133 Zod p
theorem ZG1(b:List Int)(from_:Int)(Q:QT)(h:(Zl (ZFs [1,1,0,1,0,0]) (Z6F b from_ 0 7) (xB 0 (ZH4 [1,1,1] Q)))):
  ZFs [] (L2 [(0,.c (sU .u8 b .unk)),pI 1 from_] []) Q:=
 Eq.mpr V5 h
theorem Zrz(b:List Int)(from_ s d:Int)(N0:NT)(Q:QT)(h:(iB (decide ((0:Int)<=d)) ((InR (from_+d))/\((0:Int)<=(from_+d)/\(from_+d) < (b.length:Int))/\((InR (d - 1))/\(N0 (Z6F b from_ (IntKind.wrap .u64 (((IntKind.wrap .u64 (s*256)):Int)+(IntKind.wrap .u64 (List.getD b (Int.toNat (from_+d)) (0:Int))))) (d - 1))))) ((Q .ret (L2 [(4,.c (.int .u64 s))] []))))):
  ZFs [1,1,0,1,0,0] (Z6F b from_ s d) (xT N0 (xB 0 (ZH4 [1,1,1] Q))):=
 Eq.mpr V5 h
def ZzG(b:List Int)(from_:Int):Prop:=AW (Z2 Zmg) Tryz.f133 Zod [] (Zi (Zpp.can (b,from_,())) []) (EQ Tryz.f133 (Zsu (b,from_,())) [])
theorem ZxU(hb:∀ (b:List Int) (d:Int) (_:Unit),Zls (b,d,())->ZzG b d):CT 133 Z8p:=
 Z1 (l:=[]) Zk rfl trivial Zod Tryz.func133 rfl rfl 2 (fun _=> rfl) V2 (fun ⟨b,d,_⟩=> hb b d ())
def ZlX:List (FuncId × Fs U):=[(131,Z8r),(132,Z8q),(133,Z8p)]
def Zy7:Zg U:=lvl [([0,1,2],[]),([2,7,8],[7,8]),([2,7,8,9],[7,8]),([2,7,8,9,15],[7,8]),([2,7,8,9],[7,8]),([2,7,8,9,20],[7,8]),([2,7,8,9],[7,8]),([6],[])]
def Z42(a b m x9 af ab d s ae u aa h:Int):LSt U:=(L2 [(2,.c (.int .u8 m)),pL 7,pL 8,pI 9 x9] [(.loc 7,(zi8 [af,ab,d,s,ae,u,aa,h])),(.loc 8,(zb8 Zu b))])
abbrev A91(p:List Nat):=AW (Z2 ZlX) Tryz.f91 Zy7 p
abbrev S91(p:List Nat):=SW (Z2 ZlX) Tryz.f91 Zy7 p
theorem ZHC(a b m:Int)(Q:QT)(h:((Zef (a,()))/\(Zef (b,()))/\(Zl (A91 [1,1,0,1,0,0]) (Z42 a b m 0 (Zu a 0) (Zu a 1) (Zu a 2) (Zu a 3) (Zu a 4) (Zu a 5) (Zu a 6) (Zu a 7)) (xB 0 (S91 [1,1,1] Q))))):
  A91 [] (L2 [(0,.c (.int .u64 a)),(1,.c (.int .u64 b)),(2,.c (.int .u8 m))] []) Q:=
 Eq.mpr V5 h
theorem Zw4(a b m x9 ah ae d u af aa ab s:Int)(N0:NT)(Q:QT)(h:let z0:=List.getD [Zu b 0,Zu b 1,Zu b 2,Zu b 3,Zu b 4,Zu b 5,Zu b 6,Zu b 7] x9.toNat 0;(iB (decide (x9 < 8)) ((ZhA (m,x9,()))/\(iB (Z0j m x9) (((0:Int)<=x9/\x9 < ((8:Nat):Int))/\((0:Int)<=x9/\x9 < ((8:Nat):Int))/\((InR (x9+1))/\(N0 (Z42 a b m (x9+1) (Z1E x9 0 z0 ah) (Z1E x9 1 z0 ae) (Z1E x9 2 z0 d) (Z1E x9 3 z0 u) (Z1E x9 4 z0 af) (Z1E x9 5 z0 aa) (Z1E x9 6 z0 ab) (Z1E x9 7 z0 s))))) ((InR (x9+1))/\(N0 (Z42 a b m (x9+1) ah ae d u af aa ab s))))) ((Zls (([ah,ae,d,u,af,aa,ab,s]),0,()))/\(Q .ret (L2 [(6,.c (.int .u64 (of8 (fun i=> ([ah,ae,d,u,af,aa,ab,s]).getD i 0))))] []))))):
  A91 [1,1,0,1,0,0] (Z42 a b m x9 ah ae d u af aa ab s) (xT N0 (xB 0 (S91 [1,1,1] Q))):=
 Eq.mpr V5 h
def ZEm(a b m:Int):Prop:=AW (Z2 ZlX) Tryz.f91 Zy7 [] (Zi (Zvd.can (a,b,m,())) []) (EQ Tryz.f91 (ZA8 (a,b,m,())) [])
theorem ZBK(ZDy:CT 131 Z8r)(ZDx:CT 132 Z8q)(ZDw:CT 133 Z8p)(hb:∀ (a:Int) (b:Int) (m:Int) (_:Unit),ZbG (a,b,m,())->ZEm a b m):CT 91 Z4m:=
 Z1 (l:=[(131,Z8r),(132,Z8q),(133,Z8p)]) Zk rfl (⟨ZDy,ZDx,ZDw,trivial⟩) Zy7 Tryz.func91 rfl rfl 3 (fun _=> rfl) V2 (fun ⟨a,b,m,_⟩=> hb a b m ())
abbrev A57(p:List Nat):=AW (Z2 Zmg) Tryz.f57 ZCY p
theorem ZI1(t:Tree)(Q:QT)(h:((Tt (t.kind==0))/\(Tt (t.kind==0))/\(Tt (t.kind==0))/\(Tt (t.kind==0))/\(Tt (t.kind==0))/\(Tt (t.kind==0))/\((t.kind==0)=true->InR (((t.words.length:Int):Int)+(t.kids.length:Int)))/\(Tt (t.kind==0))/\(Tt (t.kind==0))/\(Q .ret (L2 [(2,.c (.bool (bif (t.kind==0) then (((((t.words.length:Int):Int)+(t.kids.length:Int)):Int)==0) else false)))] [])))):
  A57 [] (L2 [(0,.agg (enc .tree t))] []) Q:=
 Eq.mpr V5 h
def ZEL(t:Tree):Prop:=AW (Z2 Zmg) Tryz.f57 ZCY [] (Zi (ZvE.can (t,())) []) (EQ Tryz.f57 (ZAe (t,())) [])
theorem ZBZ(hb:∀ (t:Tree) (_:Unit),Z5g (t,())->ZEL t):CT 57 Z4o:=
 Z1 (l:=[]) Zk rfl trivial ZCY Tryz.func57 rfl rfl 1 (fun _=> rfl) V2 (fun ⟨t,_⟩=> hb t ())
def Zun:List (FuncId × Fs U):=[(91,Z4m)]
def ZCM:Zg U:=lvl [([0,1],[]),([4],[])]
abbrev A58(p:List Nat):=AW (Z2 Zun) Tryz.f58 ZCM p
theorem ZI0(w m:Int)(Q:QT)(h:((ZbG (w,0,m,()))/\(Q .ret (L2 [pB 4 (((mix w 0 m):Int)==0)] [])))):
  A58 [] (L2 [(0,.c (.int .u64 w)),(1,.c (.int .u8 m))] []) Q:=
 Eq.mpr V5 h
def ZEK(w m:Int):Prop:=AW (Z2 Zun) Tryz.f58 ZCM [] (Zi (Zvp.can (w,m,())) []) (EQ Tryz.f58 (ZAd (w,m,())) [])
theorem ZBY(c91:CT 91 Z4m)(hb:∀ (w:Int) (m:Int) (_:Unit),ZnV (w,m,())->ZEK w m):CT 58 Zaz:=
 Z1 (l:=[(91,Z4m)]) Zk rfl (⟨c91,trivial⟩) ZCM Tryz.func58 rfl rfl 2 (fun _=> rfl) V2 (fun ⟨w,m,_⟩=> hb w m ())
def Zub:List (FuncId × Fs U):=[(57,Z4o)]
abbrev A92(p:List Nat):=AW (Z2 Zub) Tryz.f92 ZCY p
theorem ZHB(e:Edit)(Q:QT)(h:∀ s,s=(e.new)->∀ d,d=(e.old)->let z2:=bif (e.kind==0) then (Ys d) else false;let z0:=bif z2 then (Ys s) else false;let z1:=bif z0 then (((((((e.words.length:Int):Int)+(e.kids.length:Int)):Int)+(e.ops.length:Int)):Int)==0) else false;((Tt (e.kind==0))/\(Tt (e.kind==0))/\((e.kind==0)=true->Z5g (d,()))/\(Tt (e.kind==0))/\(Tt z2)/\(Tt z2)/\(z2=true->Z5g (s,()))/\(Tt z2)/\(Tt z0)/\(Tt z0)/\(Tt z0)/\(Tt z0)/\(Tt z0)/\(Tt z0)/\(z0=true->InR (((e.words.length:Int):Int)+(e.kids.length:Int)))/\(Tt z0)/\(Tt z0)/\(Tt z0)/\(Tt z0)/\(z0=true->InR (((((e.words.length:Int):Int)+(e.kids.length:Int)):Int)+(e.ops.length:Int)))/\(Tt z0)/\(Tt z0)/\(Tt z1)/\(Tt z1)/\(Tt z1)/\(Q .ret (L2 [(2,.c (.bool (bif z1 then (e.list==0) else false)))] [])))):
  A92 [] (L2 [(0,.agg (enc .edit e))] []) Q:=
 Eq.mpr V5 (h _ (Z0 _) _ (Z0 _))
def ZEl(e:Edit):Prop:=AW (Z2 Zub) Tryz.f92 ZCY [] (Zi (Zvc.can (e,())) []) (EQ Tryz.f92 (ZA7 (e,())) [])
theorem ZBJ(c57:CT 57 Z4o)(hb:∀ (e:Edit) (_:Unit),Ze0 (e,())->ZEl e):CT 92 Zax:=
 Z1 (l:=[(57,Z4o)]) Zk rfl (⟨c57,trivial⟩) ZCY Tryz.func92 rfl rfl 1 (fun _=> rfl) V2 (fun ⟨e,_⟩=> hb e ())
def Zye:Zg U:=lvl [([1],[1]),([1,4,5],[1]),([1,4,5,6],[1]),([1,4,5,6,13],[1]),([1,4,5,6],[1]),([1,4,5,6,7],[1,7]),([1,4,5,6,7,8],[1,7]),([1,4,5,6,7,8,29],[1,7]),([1,4,5,6,7,8,29],[1,7]),([1,4,5,6,7,8,32],[1,7]),([1,4,5,6,7,8,32],[1,7]),([1,4,5,6,8,38],[1]),([1,4,5,6,8,38],[1]),([1,4,5,6,43],[1]),([1,4,5,6,43],[1]),([1,4,5,6,45],[1]),([1,4,5,6],[1]),([2,3],[])]
def Z2O(e:Edit)(s h d:Int):LSt U:=(L2 [pL 1,pI 4 s,pI 5 h,pI 6 d] [(.loc 1,(enc .edit e))])
def Z9B(e:Edit)(u s h d:Int):LSt U:=(L2 [pL 1,pI 4 u,pI 5 s,pI 6 h,pL 7,pI 8 d,(29,.c (.bool (((OpOf.kind (e.ops.getD h.toNat Op.nil)):Int)==3)))] [(.loc 1,(enc .edit e)),(.loc 7,(enc .op (e.ops.getD h.toNat Op.nil)))])
def Z9A(e:Edit)(u s h d:Int):LSt U:=(L2 [pL 1,pI 4 d,pI 5 u,pI 6 s,pL 7,pI 8 h,(32,.c (.bool (((OpOf.kind (e.ops.getD s.toNat Op.nil)):Int) !=2)))] [(.loc 1,(enc .edit e)),(.loc 7,(enc .op (e.ops.getD s.toNat Op.nil)))])
def Z9z(e:Edit)(u s h d:Int):LSt U:=(L2 [pL 1,pI 4 h,pI 5 d,pI 6 u,pI 8 s,(38,.c (.bool (((OpOf.kind (e.ops.getD u.toNat Op.nil)):Int) !=1)))] [(.loc 1,(enc .edit e))])
def Z9y(e:Edit)(u s h d:Int):LSt U:=(L2 [pL 1,pI 4 d,pI 5 h,pI 6 u,pB 43 (decide ((1048576:Int) < s))] [(.loc 1,(enc .edit e))])
abbrev A60(p:List Nat):=AW (Z2 Zmg) Tryz.f60 Zye p
abbrev S60(p:List Nat):=SW (Z2 Zmg) Tryz.f60 Zye p
theorem ZHY(e:Edit)(Q:QT)(h:(Zl (A60 [1,1,0,1,0,0]) (Z2O e 0 0 0) (xB 0 (S60 [1,1,1] Q)))):
  A60 [] (L2 [(0,.agg (enc .edit e))] []) Q:=
 Eq.mpr V5 h
abbrev ZE3(e:Edit)(s h d:Int)(N0:NT)(Q:QT):Prop:=A60 [1,1,0,1,0,0] (Z2O e s h d) (xT N0 (xB 0 (S60 [1,1,1] Q)))
theorem Zwp(e:Edit)(u s d:Int)(N0:NT)(Q:QT)(h:let z1:=xB 1 (S60 [1,1,0,1,0,0,1,1] (xT N0 (xB 0 (S60 [1,1,1] Q))));let z0:=e.ops.getD d.toNat Op.nil;(iB (decide (d < (e.ops.length:Int))) (((0:Int)<=d/\d < (e.ops.length:Int))/\((InR (((OpOf.n z0):Int)+((OpOf.l z0).length:Int)))/\(iB (((OpOf.kind z0):Int)==3) ((A60 [1,1,0,1,0,0,1,0,0,1,1,1] (Z9B e u s d 1) z1)) (A60 [1,1,0,1,0,0,1,0,0,1,1,1] (Z9B e u s d (((OpOf.n z0):Int)+((OpOf.l z0).length:Int))) z1)))) ((Q .ret (L2 [pI 2 u,pI 3 s] []))))):
  A60 [1,1,0,1,0,0] (Z2O e u s d) (xT N0 (xB 0 (S60 [1,1,1] Q))):=
 Eq.mpr V5 h
abbrev ZE7(e:Edit)(u s h d:Int)(N0:NT)(Q:QT):Prop:=A60 [1,1,0,1,0,0,1,0,0,1,1,1] (Z9B e u s h d) (xB 1 (S60 [1,1,0,1,0,0,1,1] (xT N0 (xB 0 (S60 [1,1,1] Q)))))
theorem Zwt(e:Edit)(u x5 s d:Int)(N0:NT)(Q:QT)(h:let z0:=xB 1 (S60 [1,1,0,1,0,0,1,1] (xT N0 (xB 0 (S60 [1,1,1] Q))));(iB (((OpOf.kind (e.ops.getD s.toNat Op.nil)):Int) !=2) ((InR (u+d))/\(A60 [1,1,0,1,0,0,1,0,0,1,1,1,1] (Z9A e x5 s d (u+d)) z0)) (A60 [1,1,0,1,0,0,1,0,0,1,1,1,1] (Z9A e x5 s d u) z0))):
  A60 [1,1,0,1,0,0,1,0,0,1,1,1] (Z9B e u x5 s d) (xB 1 (S60 [1,1,0,1,0,0,1,1] (xT N0 (xB 0 (S60 [1,1,1] Q))))):=
 Eq.mpr V5 h
abbrev ZE6(e:Edit)(u s h d:Int)(N0:NT)(Q:QT):Prop:=A60 [1,1,0,1,0,0,1,0,0,1,1,1,1] (Z9A e u s h d) (xB 1 (S60 [1,1,0,1,0,0,1,1] (xT N0 (xB 0 (S60 [1,1,1] Q)))))
theorem Zws(e:Edit)(x5 u d s:Int)(N0:NT)(Q:QT)(h:let z0:=xB 1 (S60 [1,1,0,1,0,0,1,1] (xT N0 (xB 0 (S60 [1,1,1] Q))));(iB (((OpOf.kind (e.ops.getD u.toNat Op.nil)):Int) !=1) ((InR (x5+d))/\(A60 [1,1,0,1,0,0,1,0,0,1,1,1,1,1] (Z9z e u d s (x5+d)) z0)) (A60 [1,1,0,1,0,0,1,0,0,1,1,1,1,1] (Z9z e u d s x5) z0))):
  A60 [1,1,0,1,0,0,1,0,0,1,1,1,1] (Z9A e x5 u d s) (xB 1 (S60 [1,1,0,1,0,0,1,1] (xT N0 (xB 0 (S60 [1,1,1] Q))))):=
 Eq.mpr V5 h
abbrev ZE5(e:Edit)(u s h d:Int)(N0:NT)(Q:QT):Prop:=A60 [1,1,0,1,0,0,1,0,0,1,1,1,1,1] (Z9z e u s h d) (xB 1 (S60 [1,1,0,1,0,0,1,1] (xT N0 (xB 0 (S60 [1,1,1] Q)))))
theorem Zwr(e:Edit)(x6 u d s:Int)(N0:NT)(Q:QT)(h:let z0:=xB 1 (S60 [1,1,0,1,0,0,1,1] (xT N0 (xB 0 (S60 [1,1,1] Q))));(iB (decide ((1048576:Int) < d)) ((A60 [1,1,0,1,0,0,1,0,0,1,1,1,1,1,1] (Z9y e x6 d s 1048576) z0)) (A60 [1,1,0,1,0,0,1,0,0,1,1,1,1,1,1] (Z9y e x6 d s d) z0))):
  A60 [1,1,0,1,0,0,1,0,0,1,1,1,1,1] (Z9z e x6 u d s) (xB 1 (S60 [1,1,0,1,0,0,1,1] (xT N0 (xB 0 (S60 [1,1,1] Q))))):=
 Eq.mpr V5 h
abbrev ZE4(e:Edit)(u s h d:Int)(N0:NT)(Q:QT):Prop:=A60 [1,1,0,1,0,0,1,0,0,1,1,1,1,1,1] (Z9y e u s h d) (xB 1 (S60 [1,1,0,1,0,0,1,1] (xT N0 (xB 0 (S60 [1,1,1] Q)))))
theorem Zwq(e:Edit)(u aa s d:Int)(N0:NT)(Q:QT)(h:(iB (decide ((1048576:Int) < s)) (((InR (u+1))/\(N0 (Z2O e d 1048576 (u+1))))) ((InR (u+1))/\(N0 (Z2O e d s (u+1)))))):
  A60 [1,1,0,1,0,0,1,0,0,1,1,1,1,1,1] (Z9y e u aa s d) (xB 1 (S60 [1,1,0,1,0,0,1,1] (xT N0 (xB 0 (S60 [1,1,1] Q))))):=
 Eq.mpr V5 h
def ZEI(e:Edit):Prop:=AW (Z2 Zmg) Tryz.f60 Zye [] (Zi (Zvc.can (e,())) []) (EQ Tryz.f60 (Zs3 (e,())) [])
theorem ZBX(hb:∀ (e:Edit) (_:Unit),Zjv (e,())->ZEI e):CT 60 Z4n:=
 Z1 (l:=[]) Zk rfl trivial Zye Tryz.func60 rfl rfl 1 (fun _=> rfl) V2 (fun ⟨e,_⟩=> hb e ())
def Zm5(N:Nat):List (FuncId × Fs U):=(56,fs ZmL (fun a=> [Ze3 a,ZjU a < N]) ZnB) ::[(50,Z4X)]
def Zyg:Zg U:=lvl [([1,2,3],[3]),([1,2,3],[3]),([1,2,3,25],[3]),([6],[]),([1,2,3],[3]),([1,2,3,31],[3]),([1,2,3,31],[3]),([1,2,3,7],[3]),([1,2,3,7,44],[3]),([1,2,3,7],[3]),([1,2,3,7],[3]),([1,2,3,8],[3]),([1,2,3,8,65],[3]),([1,2,3,8],[3]),([1,2,3,8,9],[3]),([1,2,3,8,9,80],[3]),([1,2,3,8,9],[3]),([1,2,3,8,9],[3]),([1,2,3,8,95],[3]),([1,2,3,8],[3]),([6],[])]
def Z9F(e:Edit)(d n h:Int):LSt U:=(L2 [pI 1 d,pI 2 h,pL 3,(31,.c (.bool (decide ((0:Int)<=(ZD (Tree.mk e.old.kind e.old.words e.old.kids) 80 ((((((n:Int) - 1):Int) - (e.words.length:Int)):Int) - (e.ops.length:Int)))))))] [(.loc 3,(enc .edit e))])
def Z9E(e:Edit)(d n s h:Int):LSt U:=(L2 [pI 1 d,pI 2 s,pL 3,pI 7 h] [(.loc 3,(enc .edit e))])
def Z5G(e:Edit)(d n h s:Int):LSt U:=(L2 [pI 1 d,pI 2 h,pL 3,pI 8 s] [(.loc 3,(enc .edit e))])
def Z9D(e:Edit)(d n u s h:Int):LSt U:=(L2 [pI 1 d,pI 2 s,pL 3,pI 8 u,pI 9 h] [(.loc 3,(enc .edit e))])
abbrev A56(N:Nat)(p:List Nat):=AW (Z2 (Zm5 N)) Tryz.f56 Zyg p
abbrev S56(N:Nat)(p:List Nat):=SW (Z2 (Zm5 N)) Tryz.f56 Zyg p
theorem ZI2(N:Nat)(e:Edit)(d n:Int)(Q:QT)(h:∀ aa,aa=(e.new)->∀ u,u=(e.old)->∀ s,s=(ZD u 80 (((((n - 1):Int) - (e.words.length:Int)):Int) - (e.ops.length:Int)))->((InR (n - 1))/\(InR (((n - 1):Int) - (e.words.length:Int)))/\(InR (((((n - 1):Int) - (e.words.length:Int)):Int) - (e.ops.length:Int)))/\((Tt (!(d==0)))/\((d==0)=false->(!(d==0))=true)/\(iB (bif (d==0) then true else (decide (((((((n - 1):Int) - (e.words.length:Int)):Int) - (e.ops.length:Int)):Int) < 0))) ((Q .ret (L2 [pI 6 (-1)] []))) ((Z8O (u,80,(((((n - 1):Int) - (e.words.length:Int)):Int) - (e.ops.length:Int)),()))/\(iB (decide ((0:Int)<=s)) ((Z8O (aa,80,s,()))/\(A56 N [1,1,1,1,1] (Z9F e d n (ZD aa 80 s)) Q)) (A56 N [1,1,1,1,1] (Z9F e d n s) Q))))))):
  A56 N [] (L2 [(0,.agg (enc .edit e)),pI 1 d,pI 2 n] []) Q:=
 Eq.mpr V5 (h _ (Z0 _) _ (Z0 _) _ rfl)
abbrev ZE8(N:Nat)(e:Edit)(d n h:Int)(Q:QT):Prop:=A56 N [1,1,1,1,1] (Z9F e d n h) Q
theorem Zwy(N:Nat)(e:Edit)(d n s:Int)(Q:QT)(h:(Zl (A56 N [1,1,1,1,1,0,1,0,0]) (Z9E e d n s 0) (xB 0 (S56 N [1,1,1,1,1,1] Q)))):
  A56 N [1,1,1,1,1] (Z9F e d n s) Q:=
 Eq.mpr V5 h
theorem Zwx(N:Nat)(e:Edit)(d n u s:Int)(N1:NT)(Q:QT)(h:∀ ab,ab=(e.kids.getD s.toNat (KidOf.mk 0 Edit.nil))->∀ aa,aa=(ab.e)->let z0:=decide (s < (e.kids.length:Int));(Tt z0)/\(Tt z0)/\(iB (bif z0 then (decide ((0:Int)<=u)) else false) (((0:Int)<=s/\s < (e.kids.length:Int))/\(InR (d - 1))/\(Ze3 (aa,(d - 1),u,()))/\(ZjU (aa,(d - 1),u,()) < N)/\((InR (s+1))/\(N1 (Z9E e d n (Z0H aa (d - 1) u) (s+1))))) ((Zl (A56 N [1,1,1,1,1,1,0,1,0,0]) (Z5G e d n u 0) (xB 2 (S56 N [1,1,1,1,1,1,1] Q)))))):
  A56 N [1,1,1,1,1,0,1,0,0] (Z9E e d n u s) (xT N1 (xB 0 (S56 N [1,1,1,1,1,1] Q))):=
 Eq.mpr V5 (h _ rfl _ (Z8 _))
theorem Zww(N:Nat)(e:Edit)(d n s u:Int)(N2:NT)(Q:QT)(h:let z0:=decide (u < (e.ops.length:Int));(Tt z0)/\(Tt z0)/\(iB (bif z0 then (decide ((0:Int)<=s)) else false) ((Zl (A56 N [1,1,1,1,1,1,0,1,0,0,1,0,0,0,1,0,0]) (Z9D e d n u s 0) (xB 4 (S56 N [1,1,1,1,1,1,0,1,0,0,1,0,0,1] (xB 3 (S56 N [1,1,1,1,1,1,0,1,0,0,1,1] (xT N2 (xB 2 (S56 N [1,1,1,1,1,1,1] Q))))))))) ((Q .ret (L2 [pI 6 s] []))))):
  A56 N [1,1,1,1,1,1,0,1,0,0] (Z5G e d n s u) (xT N2 (xB 2 (S56 N [1,1,1,1,1,1,1] Q))):=
 Eq.mpr V5 h
theorem Zwv(N:Nat)(e:Edit)(d n s u aa:Int)(N3 N2:NT)(Q:QT)(h:∀ ab,ab=(e.ops.getD s.toNat Op.nil)->∀ ae,ae=(ab.e)->∀ af,af=(ab.l.getD aa.toNat Tree.nil)->let z0:=decide (aa < (ab.l.length:Int));((0:Int)<=s/\s < (e.ops.length:Int))/\(Tt z0)/\(Tt z0)/\(iB (bif z0 then (decide ((0:Int)<=u)) else false) (((0:Int)<=s/\s < (e.ops.length:Int))/\((0:Int)<=aa/\aa < (ab.l.length:Int))/\(Z8O (af,80,u,()))/\((InR (aa+1))/\(N3 (Z9D e d n s (ZD af 80 u) (aa+1))))) ((iB (decide ((0:Int)<=u)) (((0:Int)<=s/\s < (e.ops.length:Int))/\(InR (d - 1))/\(Ze3 (ae,(d - 1),u,()))/\(ZjU (ae,(d - 1),u,()) < N)/\((InR (s+1))/\(N2 (Z5G e d n (Z0H ae (d - 1) u) (s+1))))) ((InR (s+1))/\(N2 (Z5G e d n u (s+1)))))))):
  A56 N [1,1,1,1,1,1,0,1,0,0,1,0,0,0,1,0,0] (Z9D e d n s u aa) (xT N3 (xB 4 (S56 N [1,1,1,1,1,1,0,1,0,0,1,0,0,1] (xB 3 (S56 N [1,1,1,1,1,1,0,1,0,0,1,1] (xT N2 (xB 2 (S56 N [1,1,1,1,1,1,1] Q)))))))):=
 Eq.mpr V5 (h _ rfl _ (Z8 _) _ (Z0 _))
def ZEM(N:Nat)(e:Edit)(d n:Int):Prop:=AW (Z2 (Zm5 N)) Tryz.f56 Zyg [] (Zi (ZmL.can (e,d,n,())) []) (EQ Tryz.f56 (ZnB (e,d,n,())) [])
theorem ZC0(c50:CT 50 Z4X)(hb:∀ (N:Nat) (e:Edit) (d:Int) (n:Int) (_:Unit),Ze3 (e,d,n,())->ZjU (e,d,n,()) < N+1->ZEM N e d n):CT 56 Zdk:=
 Y8 (μ:=ZjU) (l:=[(50,Z4X)]) Zk rfl (⟨c50,trivial⟩) Zyg Tryz.func56 rfl rfl 3 (fun _=> rfl) V2 (fun N ⟨e,d,n,_⟩=> hb N e d n ())
def Zuw:List (FuncId × Fs U):=[(56,Zdk)]
abbrev A27(p:List Nat):=AW (Z2 Zuw) Tryz.f27 ZCY p
theorem ZIo(e:Edit)(Q:QT)(h:let z0:=Edit.mk e.kind (Tree.mk e.old.kind e.old.words e.old.kids) (Tree.mk e.new.kind e.new.words e.new.kids) e.words e.kids e.list e.ops;((Ze3 (z0,80,3000,()))/\(Q .ret (L2 [(2,.c (.bool (decide ((0:Int)<=(Z0H z0 80 3000)))))] [])))):
  A27 [] (L2 [(0,.agg (enc .edit e))] []) Q:=
 Eq.mpr V5 h
def ZF8(e:Edit):Prop:=AW (Z2 Zuw) Tryz.f27 ZCY [] (Zi (Zvc.can (e,())) []) (EQ Tryz.f27 (ZAj (e,())) [])
theorem ZCh(c56:CT 56 Zdk)(hb:∀ (e:Edit) (_:Unit),ZsV (e,())->ZF8 e):CT 27 Zdr:=
 Z1 (l:=[(56,Zdk)]) Zk rfl (⟨c56,trivial⟩) ZCY Tryz.func27 rfl rfl 1 (fun _=> rfl) V2 (fun ⟨e,_⟩=> hb e ())
end
noncomputable section
def Zim:ArgL (Edit × Int × Unit):=(.cons (aEl .edit) (.cons (Yc .i64) .nil))
def Z7c(a:Edit × Int × Unit):Prop:=(Zd a.1<=20000000000/\Y0 a.1)/\0<=a.2.1/\a.2.1<=1000
def ZhM(a:Edit × Int × Unit):Nat:=2*Zd a.1
def ZnG(a:Edit × Int × Unit):V U:= .c (.bool (Z6 a.1 a.2.1))
def Z2s:Fs U:=fs Zim (fun a=> [Z7c a]) ZnG
def Zij:ArgL (Int × Op × Int × Unit):=(.cons (Yc .i64) (.cons (aEl .op) (.cons (Yc .i64) .nil)))
def Zgg(a:Int × Op × Int × Unit):Prop:=(Zx a.2.1<=20000000000/\YF a.2.1/\InR a.1)/\0<=a.2.2.1/\a.2.2.1<=1000
def Zqk(a:Int × Op × Int × Unit):Nat:=2*Zx a.2.1+1
def ZnA(a:Int × Op × Int × Unit):V U:= .c (.bool (Zf a.1 a.2.1 a.2.2.1))
def ZrU:Fs U:=fs Zij (fun a=> [Zgg a]) ZnA
def Ze5(a:Edit × Unit):Prop:=(Zd a.1<=20000000000/\Y0 a.1)/\∃ d,Z6 a.1 d=true
def ZjW(a:Edit × Unit):Nat:=Zd a.1
def Zs7(a:Edit × Unit):V U:= .c (.bool (Z2J a.1))
def Zdq:Fs U:=fs Zvc (fun a=> [Ze5 a]) Zs7
def Zmf(N:Nat):List (FuncId × Fs U):=(28,fs Zim (fun a=> [Z7c a,ZhM a < N]) ZnG) ::(59,fs Zij (fun a=> [Zgg a,Zqk a < N]) ZnA) ::[(57,Z4o),(58,Zaz),(92,Zax),(20,Zdj),(60,Z4n)]
def Zyr:Zg U:=lvl [([1,2],[2]),([1,2,24],[2]),([4],[]),([1,2,69],[2]),([4],[]),([1,2,72],[2]),([4],[]),([1,2,5],[2]),([1,2,5,6],[2]),([1,2,5,6,97],[2]),([1,2,5,6],[2]),([1,2,5,6,7],[2,7]),([1,2,6,7,134],[2,7]),([4],[]),([1,2,5,6],[2]),([1,2,5],[2]),([1,2,5,8],[2]),([1,2,5,8,141],[2]),([1,2,5,8],[2]),([1,2,5,8,9],[2,9]),([1,2,8,9,171],[2,9]),([4],[]),([1,2,5,8],[2]),([1,2,186],[2]),([4],[]),([1,2,10],[2]),([1,2,10,191],[2]),([1,2,10],[2]),([1,2,10,204],[2]),([4],[]),([11,12],[]),([4],[])]
def Za2(e:Edit)(d s h:Int):LSt U:=(L2 [pI 1 d,pL 2,pI 5 s,pI 6 h] [(.loc 2,(enc .edit e))])
def Za1(e:Edit)(d h s:Int):LSt U:=(L2 [pI 1 d,pL 2,pI 5 h,pI 8 s] [(.loc 2,(enc .edit e))])
def Za0(e:Edit)(d h:Int):LSt U:=(L2 [pI 1 d,pL 2,pI 10 h] [(.loc 2,(enc .edit e))])
abbrev A28(N:Nat)(p:List Nat):=AW (Z2 (Zmf N)) Tryz.f28 Zyr p
abbrev S28(N:Nat)(p:List Nat):=SW (Z2 (Zmf N)) Tryz.f28 Zyr p
theorem ZIn(N:Nat)(e:Edit)(d:Int)(Q:QT)(h:∀ u,u=(e.new)->∀ s,s=(e.old)->let z9:=(Q .ret (L2 [pB 4 false] []));let z7:=(e.kind !=1) && (Ys s);let z4:=bif (d==0) then true else (decide (e.kind < 0));let z2:=bif (Za s 64) then (Za u 64) else false;let z6:=bif z2 then (e.old.kind !=10) else false;let z1:=bif (e.kind !=1) then (!(bif (Ys s) then (Ys u) else false)) else false;let z5:=(!z1) && (e.kind !=2);let z0:=bif z1 then true else (bif (e.kind !=2) then (decide ((0:Int) < (((e.words.length:Int):Int)+(e.kids.length:Int)))) else false);let z3:=(!z0) && (e.kind !=3);let z8:=z3 && (!(e.list !=0));((Tt (!(d==0)))/\(Tt (!(d==0)))/\((d==0)=false->(!(d==0))=true)/\(Tt (!z4))/\(Tt (!z4))/\(z4=false->(!z4)=true)/\(iB (bif z4 then true else (decide ((3:Int) < e.kind))) z9 ((Tt (e.kind !=1))/\(Tt (e.kind !=1))/\((e.kind !=1)=true->Z5g (s,()))/\(Tt (e.kind !=1))/\(Tt z7)/\(Tt z7)/\(z7=true->Z5g (u,()))/\((e.kind !=1)=true->(True->(e.kind !=1)=true))/\((e.kind !=1)=true->((Ys s)=true->z7=true))/\(Tt (e.kind !=1))/\(Tt (e.kind !=1))/\(Tt (!z1))/\(Tt (!z1))/\(Tt (!z1))/\(Tt z5)/\(Tt z5)/\(Tt z5)/\(Tt z5)/\(Tt z5)/\(Tt z5)/\(z5=true->InR (((e.words.length:Int):Int)+(e.kids.length:Int)))/\(Tt z5)/\((!z1)=true->(True->(!z1)=true))/\((!z1)=true->((e.kind !=2)=true->z5=true))/\(z1=false->(!z1)=true)/\(Tt (!z0))/\(Tt (!z0))/\(Tt (!z0))/\(Tt z3)/\(Tt z3)/\(Tt z3)/\(Tt z8)/\(Tt z8)/\(Tt z8)/\(z3=true->(True->z3=true))/\(z3=true->((e.list !=0)=false->z8=true))/\((!z0)=true->(True->(!z0)=true))/\((!z0)=true->((e.kind !=3)=true->z3=true))/\(z0=false->(!z0)=true)/\(iB (bif z0 then true else (bif (e.kind !=3) then (bif (e.list !=0) then true else (decide ((0:Int) < (e.ops.length:Int)))) else false)) z9 ((iB (e.kind==1) ((ZbI (s,64,()))/\(Tt (Za s 64))/\(Tt (Za s 64))/\((Za s 64)=true->ZbI (u,64,()))/\(Tt (Za s 64))/\(Tt z2)/\(Tt z2)/\(Tt z2)/\(Tt z2)/\(Tt z6)/\(Tt z6)/\(Tt z6)/\(Tt z6)/\(Q .ret (L2 [(4,.c (.bool (bif z6 then (e.new.kind !=10) else false)))] []))) ((Zl (A28 N [1,1,1,1,1,0,1,0,0]) (Za2 e d (-1) 0) (xB 0 (S28 N [1,1,1,1,1,1] Q))))))))))):
  A28 N [] (L2 [(0,.agg (enc .edit e)),pI 1 d] []) Q:=
 Eq.mpr V5 (h _ (Z0 _) _ (Z0 _))
theorem ZwW(N:Nat)(e:Edit)(d x5 u:Int)(N0:NT)(Q:QT)(h:∀ s,s=(e.words.getD u.toNat (WEdit.mk 0 0 0 0))->let z3:=decide (s.at_<=x5);let z2:=bif z3 then true else (decide ((65534:Int) < s.at_));let z0:=bif z2 then true else (s.mask==0);let z1:=bif z0 then true else (!(Yg s.old s.mask));(iB (decide (u < (e.words.length:Int))) (((0:Int)<=u/\u < (e.words.length:Int))/\((Tt (!z3))/\(Tt (!z3))/\(z3=false->(!z3)=true)/\(Tt (!z2))/\(Tt (!z2))/\(z2=false->(!z2)=true)/\(Tt (!z0))/\(Tt (!z0))/\(Tt (!z0))/\(Tt (!z0))/\((!z0)=true->ZnV (s.old,s.mask,()))/\(Tt (!z0))/\(z0=false->(!z0)=true)/\(Tt (!z1))/\(Tt (!z1))/\(Tt (!z1))/\(Tt (!z1))/\((!z1)=true->ZnV (s.new,s.mask,()))/\(Tt (!z1))/\(z1=false->(!z1)=true)/\(iB (bif z1 then true else (!(Yg s.new s.mask))) ((Q .ret (L2 [pB 4 false] []))) (((InR (u+1))/\(N0 (Za2 e d s.at_ (u+1)))))))) ((Zl (A28 N [1,1,1,1,1,1,1,0,1,0,0]) (Za1 e d (-1) 0) (xB 2 (S28 N [1,1,1,1,1,1,1,1] Q)))))):
  A28 N [1,1,1,1,1,0,1,0,0] (Za2 e d x5 u) (xT N0 (xB 0 (S28 N [1,1,1,1,1,1] Q))):=
 Eq.mpr V5 (h _ rfl)
theorem ZwV(N:Nat)(e:Edit)(d ab s:Int)(N1:NT)(Q:QT)(h:∀ u,u=(e.kids.getD s.toNat (KidOf.mk 0 Edit.nil))->∀ aa,aa=(u.e)->let z5:=(Q .ret (L2 [pB 4 false] []));let z4:=decide (e.list < 2);let z3:=(e.kind==3) && (!z4);let z2:=decide (u.at_<=ab);let z0:=bif z2 then true else (decide ((65534:Int) < u.at_));let z1:=bif z0 then true else (u.e.kind==0);(iB (decide (s < (e.kids.length:Int))) (((0:Int)<=s/\s < (e.kids.length:Int))/\((Tt (!z2))/\(Tt (!z2))/\(z2=false->(!z2)=true)/\(Tt (!z0))/\(Tt (!z0))/\(Tt (!z0))/\(z0=false->(!z0)=true)/\(Tt (!z1))/\(Tt (!z1))/\((!z1)=true->InR (d - 1))/\(Tt (!z1))/\(Tt (!z1))/\((!z1)=true->Z7c (aa,(d - 1),()))/\((!z1)=true->ZhM (aa,(d - 1),()) < N)/\(Tt (!z1))/\(z1=false->(!z1)=true)/\(iB (bif z1 then true else (!(Z6 aa (d - 1)))) z5 (((InR (s+1))/\(N1 (Za1 e d u.at_ (s+1)))))))) ((Tt (e.kind==3))/\(Tt (e.kind==3))/\(Tt (e.kind==3))/\(Tt z3)/\(Tt z3)/\((e.kind==3)=true->(True->(e.kind==3)=true))/\((e.kind==3)=true->(z4=false->z3=true))/\(Tt (e.kind==3))/\(iB (bif (e.kind==3) then (bif z4 then true else (decide ((9:Int) < e.list))) else false) z5 ((Zl (A28 N [1,1,1,1,1,1,1,1,1,0,1,0,0]) (Za0 e d 0) (xB 4 (S28 N [1,1,1,1,1,1,1,1,1,1] Q)))))))):
  A28 N [1,1,1,1,1,1,1,0,1,0,0] (Za1 e d ab s) (xT N1 (xB 2 (S28 N [1,1,1,1,1,1,1,1] Q))):=
 Eq.mpr V5 (h _ rfl _ (Z8 _))
theorem ZwU(N:Nat)(e:Edit)(d s:Int)(N2:NT)(Q:QT)(h:∀ u,u=e->∀ ab,ab=(e.ops.getD s.toNat Op.nil)->∀ aa,aa=ab->let z0:=decide (((Z13 u.ops 0):Int) < 1048576);(iB (decide (s < (e.ops.length:Int))) (((0:Int)<=s/\s < (e.ops.length:Int))/\(InR (d - 1))/\(Zgg (e.list,aa,(d - 1),()))/\(Zqk (e.list,aa,(d - 1),()) < N)/\(iB (!(Zf e.list aa (d - 1))) ((Q .ret (L2 [pB 4 false] []))) ((InR (s+1))/\(N2 (Za0 e d (s+1)))))) ((Zjv (u,()))/\((Tt z0)/\(Tt z0)/\(Q .ret (L2 [(4,.c (.bool (bif z0 then (decide (((Z12 u.ops 0):Int) < 1048576)) else false)))] [])))))):
  A28 N [1,1,1,1,1,1,1,1,1,0,1,0,0] (Za0 e d s) (xT N2 (xB 4 (S28 N [1,1,1,1,1,1,1,1,1,1] Q))):=
 Eq.mpr V5 (h _ (Z8 _) _ rfl _ (J5 _))
def ZF7(N:Nat)(e:Edit)(d:Int):Prop:=AW (Z2 (Zmf N)) Tryz.f28 Zyr [] (Zi (Zim.can (e,d,())) []) (EQ Tryz.f28 (ZnG (e,d,())) [])
abbrev ZHn:Prop:=∀ (N:Nat) (e:Edit) (d:Int) (_:Unit),Z7c (e,d,())->ZhM (e,d,()) < N+1->ZF7 N e d
def Zyf:Zg U:=lvl [([0,2,4],[4]),([0,2,4,10],[4]),([6],[]),([0,2,4,42],[4]),([6],[]),([0,2,4,45],[4]),([0,4,7],[4]),([0,4,7,50],[4]),([0,4,7],[4]),([0,4,7,62],[4]),([6],[]),([6],[]),([0,4,92],[4]),([6],[]),([6],[])]
def Z9C(list:Int)(o:Op)(d h:Int):LSt U:=(L2 [pI 0 list,pL 4,pI 7 h] [(.loc 4,(enc .op o))])
abbrev A59(N:Nat)(p:List Nat):=AW (Z2 (Zmf N)) Tryz.f59 Zyf p
abbrev S59(N:Nat)(p:List Nat):=SW (Z2 (Zmf N)) Tryz.f59 Zyf p
theorem ZHZ(N:Nat)(list:Int)(o:Op)(d:Int)(Q:QT)(h:∀ s,s=(o.e)->let z10:=(Q .ret (L2 [pB 6 false] []));let z9:=decide ((1:Int)<=o.n);let z6:=bif (o.n !=0) then true else (decide (o.kind < 0));let z4:=decide ((0:Int) < (o.l.length:Int));let z7:=bif z4 then true else (o.e.kind==0);let z3:=bif (o.e.kind==1) then (o.e.old.kind==1) else false;let z2:=bif z9 then (decide (o.n<=1048576)) else false;let z5:=bif z2 then (((o.l.length:Int):Int)==0) else false;let z1:=bif z7 then true else (decide (list<=7));let z0:=bif (list==8) then true else (o.e.kind==2);let z8:=(!z0) && (o.e.kind==1);(iB (o.kind==0) ((Tt z9)/\(Tt z9)/\(Tt z9)/\(Tt z2)/\(Tt z2)/\(Tt z2)/\(Tt z2)/\(Tt z5)/\(Tt z5)/\(z5=true->Ze0 (s,()))/\(Tt z5)/\(Q .ret (L2 [(6,.c (.bool (bif z5 then (Z14 s) else false)))] []))) ((Tt (!(o.n !=0)))/\(Tt (!(o.n !=0)))/\((o.n !=0)=false->(!(o.n !=0))=true)/\(Tt (!z6))/\(Tt (!z6))/\(z6=false->(!z6)=true)/\(iB (bif z6 then true else (decide ((3:Int) < o.kind))) z10 ((iB (decide (o.kind < 3)) ((Zl (A59 N [1,1,1,0,1,0,0,1,0,0]) (Z9C list o d 0) (xB 0 (S59 N [1,1,1,0,1,0,1] (S59 N [1,1,1,1] Q))))) ((Tt (!z4))/\(Tt (!z4))/\(Tt (!z4))/\(z4=false->(!z4)=true)/\(Tt (!z7))/\(z7=false->(!z7)=true)/\(Tt (!z1))/\(Tt (!z1))/\(Tt (!z1))/\((!z1)=true->Z7c (s,d,()))/\((!z1)=true->ZhM (s,d,()) < N)/\(Tt (!z1))/\(z1=false->(!z1)=true)/\(iB (bif z1 then true else (!(Z6 s d))) z10 ((Tt (!(list==8)))/\(Tt (!(list==8)))/\(Tt (!(list==8)))/\((list==8)=false->(!(list==8))=true)/\(Tt (!z0))/\(Tt (!z0))/\(Tt (!z0))/\(Tt (!z0))/\(Tt z8)/\(Tt z8)/\(Tt z8)/\(Tt z8)/\((!z0)=true->(True->(!z0)=true))/\((!z0)=true->((o.e.kind==1)=true->z8=true))/\(Tt (!z0))/\(Tt ((!z0) && z3))/\(Tt ((!z0) && z3))/\(Tt ((!z0) && z3))/\(Tt ((!z0) && z3))/\((!z0)=true->(True->(!z0)=true))/\((!z0)=true->(z3=true->((!z0) && z3)=true))/\(z0=false->(!z0)=true)/\(Q .ret (L2 [(6,.c (.bool (bif z0 then true else (bif z3 then (o.e.new.kind==1) else false))))] []))))))))))):
  A59 N [] (L2 [pI 0 list,(1,.agg (enc .op o)),pI 2 d] []) Q:=
 Eq.mpr V5 (h _ (Z8 _))
theorem Zwu(N:Nat)(list:Int)(o:Op)(d s:Int)(N0:NT)(Q:QT)(h:let z2:=Tree.mk list [] (List.drop s.toNat (List.take (Int.toNat (s+1)) o.l));let z1:=Edit.mk o.e.kind (Tree.mk o.e.old.kind o.e.old.words o.e.old.kids) (Tree.mk o.e.new.kind o.e.new.words o.e.new.kids) o.e.words o.e.kids o.e.list o.e.ops;let z0:=decide ((0:Int) < (o.l.length:Int));(iB (decide (s < (o.l.length:Int))) ((InR (s+1))/\((0:Int)<=s/\s<=(s+1)/\(s+1)<=(o.l.length:Int))/\(ZbI (z2,64,()))/\(iB (!(Za z2 64)) ((Q .ret (L2 [pB 6 false] []))) ((InR (s+1))/\(N0 (Z9C list o d (s+1)))))) ((Tt z0)/\(Tt z0)/\(z0=true->Ze0 (z1,()))/\(Tt z0)/\(Q .ret (L2 [(6,.c (.bool (bif z0 then (Z14 z1) else false)))] []))))):
  A59 N [1,1,1,0,1,0,0,1,0,0] (Z9C list o d s) (xT N0 (xB 0 (S59 N [1,1,1,0,1,0,1] (S59 N [1,1,1,1] Q)))):=
 Eq.mpr V5 h
def ZEJ(N:Nat)(list:Int)(o:Op)(d:Int):Prop:=AW (Z2 (Zmf N)) Tryz.f59 Zyf [] (Zi (Zij.can (list,o,d,())) []) (EQ Tryz.f59 (ZnA (list,o,d,())) [])
abbrev ZHi:Prop:=∀ (N:Nat) (list:Int) (o:Op) (d:Int) (_:Unit),Zgg (list,o,d,())->Zqk (list,o,d,()) < N+1->ZEJ N list o d
def Zme(N:Nat):List (FuncId × Fs U):=(29,fs Zvc (fun a=> [Ze5 a,ZjW a < N]) Zs7) ::[(60,Z4n)]
def Zyq:Zg U:=lvl [([1],[1]),([1,3,4],[1]),([1,17],[1]),([2],[]),([1,5],[1]),([1,5,22],[1]),([1,5],[1]),([1,5,32],[1]),([2],[]),([1,6],[1]),([1,6,37],[1]),([1,6],[1]),([1,6,47],[1]),([2],[]),([2],[])]
def Z9Z(e:Edit)(d:Int):LSt U:=(L2 [pL 1,pI 5 d] [(.loc 1,(enc .edit e))])
def Z9Y(e:Edit)(d:Int):LSt U:=(L2 [pL 1,pI 6 d] [(.loc 1,(enc .edit e))])
abbrev A29(N:Nat)(p:List Nat):=AW (Z2 (Zme N)) Tryz.f29 Zyq p
abbrev S29(N:Nat)(p:List Nat):=SW (Z2 (Zme N)) Tryz.f29 Zyq p
theorem ZIm(N:Nat)(e:Edit)(Q:QT)(h:∀ d,d=e->let z0:=decide ((2000:Int) < (Z13 d.ops 0));((Zjv (d,()))/\((Tt (!z0))/\(z0=false->(!z0)=true)/\(iB (bif z0 then true else (decide ((2000:Int) < (Z12 d.ops 0)))) ((Q .ret (L2 [pB 2 false] []))) ((Zl (A29 N [1,1,1,0,1,0,0]) (Z9Z e 0) (xB 0 (S29 N [1,1,1,1] Q)))))))):
  A29 N [] (L2 [(0,.agg (enc .edit e))] []) Q:=
 Eq.mpr V5 (h _ (Z8 _))
theorem ZwT(N:Nat)(e:Edit)(s:Int)(N0:NT)(Q:QT)(h:∀ u,u=(e.kids.getD s.toNat (KidOf.mk 0 Edit.nil))->∀ d,d=(u.e)->(iB (decide (s < (e.kids.length:Int))) (((0:Int)<=s/\s < (e.kids.length:Int))/\(Ze5 (d,()))/\(ZjW (d,()) < N)/\(iB (!(Z2J d)) ((Q .ret (L2 [pB 2 false] []))) ((InR (s+1))/\(N0 (Z9Z e (s+1)))))) ((Zl (A29 N [1,1,1,1,0,1,0,0]) (Z9Y e 0) (xB 2 (S29 N [1,1,1,1,1] Q)))))):
  A29 N [1,1,1,0,1,0,0] (Z9Z e s) (xT N0 (xB 0 (S29 N [1,1,1,1] Q))):=
 Eq.mpr V5 (h _ rfl _ (Z8 _))
theorem ZwS(N:Nat)(e:Edit)(d:Int)(N1:NT)(Q:QT)(h:∀ u,u=(e.ops.getD d.toNat Op.nil)->∀ s,s=(u.e)->(iB (decide (d < (e.ops.length:Int))) (((0:Int)<=d/\d < (e.ops.length:Int))/\(Ze5 (s,()))/\(ZjW (s,()) < N)/\(iB (!(Z2J s)) ((Q .ret (L2 [pB 2 false] []))) ((InR (d+1))/\(N1 (Z9Y e (d+1)))))) ((Q .ret (L2 [pB 2 true] []))))):
  A29 N [1,1,1,1,0,1,0,0] (Z9Y e d) (xT N1 (xB 2 (S29 N [1,1,1,1,1] Q))):=
 Eq.mpr V5 (h _ rfl _ (Z8 _))
def ZF6(N:Nat)(e:Edit):Prop:=AW (Z2 (Zme N)) Tryz.f29 Zyq [] (Zi (Zvc.can (e,())) []) (EQ Tryz.f29 (Zs7 (e,())) [])
theorem ZCg(c60:CT 60 Z4n)(hb:∀ (N:Nat) (e:Edit) (_:Unit),Ze5 (e,())->ZjW (e,()) < N+1->ZF6 N e):CT 29 Zdq:=
 Y8 (μ:=ZjW) (l:=[(60,Z4n)]) Zk rfl (⟨c60,trivial⟩) Zyq Tryz.func29 rfl rfl 1 (fun _=> rfl) V2 (fun N ⟨e,_⟩=> hb N e ())
theorem Zqz(c57:CT 57 Z4o)(c58:CT 58 Zaz)(c92:CT 92 Zax)(c20:CT 20 Zdj)(c60:CT 60 Z4n)(ha:ZHn)(hb:ZHi):CT 28 Z2s/\CT 59 ZrU:=
 JA (μA:=ZhM) (μB:=Zqk) (l:=[(57,Z4o),(58,Zaz),(92,Zax),(20,Zdj),(60,Z4n)]) Zk rfl (⟨c57,c58,c92,c20,c60,trivial⟩) Zyr Zyf Tryz.func28 Tryz.func59 rfl rfl rfl rfl 2 3 (fun _=> rfl) (fun _=> rfl) V2 V2 (fun N ⟨e,d,_⟩=> ha N e d ()) (fun N ⟨list,o,d,_⟩=> hb N list o d ())
end
theorem Ju{n:Int}(h0:0<=n)(h1:n < 18446744073709551616):IntKind.wrap .u64 n=n:=by
 simp [IntKind.wrap,IntKind.signed,IntKind.bits];omega
theorem Zcr{n:Int}(h0:0<=n)(h1:n < 256):IntKind.wrap .u8 n=n:=by
 simp [IntKind.wrap,IntKind.signed,IntKind.bits];omega
theorem ZpA{i:Int}{j:Nat}{v:Int}{F G:Nat->Int}(hi:0<=i)(hv:v=F i.toNat):Z1E i j v (if (j:Int) < i then F j else G j)=if (j:Int) < i+1 then F j else G j:=by
 unfold Z1E
 grind
theorem Z0Z(w:Int)(i:Nat):0<=Zu w i/\Zu w i < 256:=by
 unfold Zu
 omega
theorem Z5R{w:Int}(h:0<=w)(i:Nat):0<=w / 256 ^ i:=K7 h (XR (XB V0))
theorem Zf7{w:Int}(h:0<=w)(i:Nat):w / 256 ^ i<=w:=K2 _ h
theorem Zi9(w:Int)(i:Nat):w / 256 ^ i / 256=w / 256 ^ (i+1):=by
 rw [Int.ediv_ediv_of_nonneg (XR (XB V0)),Int.pow_succ]
theorem ZDy:Contract Tryz.prog cfg 131 Z8r:=by
 refine ZxW ?_
 intro w _ d
 simp only [Zef] at d
 refine ZG3 _ _ ?_;(try simp only [iB,vcT,forall_eq])
 refine Z4 (ι:=Int) (fun i=> Z47 w (w / 256 ^ i.toNat) i (if ((0:Nat):Int) < i then Zu w 0 else 0) (if ((1:Nat):Int) < i then Zu w 1 else 0) (if ((2:Nat):Int) < i then Zu w 2 else 0) (if ((3:Nat):Int) < i then Zu w 3 else 0)
  (if ((4:Nat):Int) < i then Zu w 4 else 0) (if ((5:Nat):Int) < i then Zu w 5 else 0) (if ((6:Nat):Int) < i then Zu w 6 else 0) (if ((7:Nat):Int) < i then Zu w 7 else 0)) (fun i=> 0<=i/\i<=8) (fun i=> (8 - i).toNat) 0 ?_ ⟨V0,V0⟩ ?_
 .simp [Z47]
 .rintro i ⟨s,u⟩
  refine ZrB _ _ _ _ _ _ _ _ _ _ _ _ _ ?_;(try simp only [iB,vcT,forall_eq])
  (simp only [iB,vcS]);(try simp only [iB,vcT])
  refine ⟨fun hc=> ⟨V0,⟨s,V0⟩,V0,V4,i+1,?_,⟨V0,V0⟩,V0⟩,fun hc=> ?_⟩
  .have h:=Z5R d.1 i.toNat
   have hl:=Zf7 d.1 i.toNat
   have e1:IntKind.wrap .u64 (Int.tdiv (w / 256 ^ i.toNat) 256)=w / 256 ^ (i+1).toNat:=by
    rw [Xn h,Zi9,show i.toNat+1=(i+1).toNat by omega]
    exact Ju (Z5R d.1 _) (Int.lt_of_le_of_lt (Zf7 d.1 _) d.2)
   have e2:IntKind.wrap .u8 (Int.tmod (w / 256 ^ i.toNat) 256)=Zu w i.toNat:=by
    rw [XA h]
    exact Zcr (Z0Z w _).1 (Z0Z w _).2
   rw [e1]
   have st:∀ j:Nat,Z1E i j (IntKind.wrap .u8 (Int.tmod (w / 256 ^ i.toNat) 256)) (if (j:Int) < i then Zu w j else 0)=if (j:Int) < i+1 then Zu w j else 0:=fun j=> ZpA (F:=Zu w) (G:=fun _=> 0) s e2
   grind
  .have:i=8:=V0
   subst this
   simp only [Zla]
   exact ⟨⟨rfl,⟨⟨rfl,rfl⟩,⟨rfl,rfl⟩,⟨rfl,rfl⟩,⟨rfl,rfl⟩,⟨rfl,rfl⟩,⟨rfl,rfl⟩,⟨rfl,rfl⟩,⟨rfl,rfl⟩,trivial⟩,trivial⟩,trivial⟩
theorem ZDx:Contract Tryz.prog cfg 132 Z8q:=by
 refine ZxV ?_
 intro m i _ d
 simp only [ZhA] at d
 refine ZG2 _ _ _ ?_;(try simp only [iB,vcT,forall_eq])
 refine Z4 (ι:=Int) (fun k=> Z6G m i (m / 2 ^ k.toNat) k) (fun k=> 0<=k/\k<=i) (fun k=> (i - k).toNat) 0 ?_ ⟨V0,V0⟩ ?_
 .simp
 .rintro k ⟨u,s⟩
  refine ZrA _ _ _ _ _ _ ?_;(try simp only [iB,vcT,forall_eq])
  have h:0<=m / 2 ^ k.toNat:=K7 d.1.1 (XR (XB V0))
  have hl:m / 2 ^ k.toNat<=m:=K2 _ d.1.1
  (simp only [iB,vcS])
  refine ⟨fun hc=> ⟨V0,V4,k+1,?_,⟨V0,V0⟩,V0⟩,fun hc=> ⟨V0,Z5 rfl ?_⟩⟩
  .have e:IntKind.wrap .u8 (Int.tdiv (m / 2 ^ k.toNat) 2)=m / 2 ^ (k+1).toNat:=by
    rw [Xn h,Int.ediv_ediv_of_nonneg (XR (XB V0)),show (2:Int) ^ k.toNat*2=2 ^ (k+1).toNat by rw [<-Int.pow_succ];congr 1;omega]
    refine Zcr (K7 d.1.1 (XR (XB V0))) (Int.lt_of_le_of_lt (K2 _ d.1.1) d.1.2)
   rw [e]
  .have:k=i:=V0
   subst this
   rw [XA h]
   try rfl
def Zcj(f:Nat->Int):Nat->Int
 | 0=> 0
 | k+1=> f (7 - k)+256*Zcj f k
theorem Zd0{f:Nat->Int}(h:∀ i,0<=f i/\f i < 256):∀ k,0<=Zcj f k/\Zcj f k < 256 ^ k
 | 0=> by simp [Zcj]
 | k+1=> by
  have:=Zd0 h k
  have d:=h (7 - k)
  simp only [Zcj,Int.pow_succ]
  omega
theorem ZBc(f:Nat->Int):Zcj f 8=of8 f:=by simp [Zcj,of8]
theorem ZDw:Contract Tryz.prog cfg 133 Z8p:=by
 refine ZxU ?_
 intro b z _ h
 obtain ⟨rfl,hl,d⟩:=h
 dsimp only at hl d
 refine ZG1 _ _ _ ?_;(try simp only [iB,vcT,forall_eq])
 have hf:∀ i,0<=b.getD i 0/\b.getD i 0 < 256:=by
  intro i
  by_cases hi:i < b.length
  .simp_all
  .grind
 refine Z4 (ι:=Int) (fun i=> Z6F b 0 (Zcj (fun i=> b.getD i 0) (7 - i).toNat) i) (fun i=> -1<=i/\i<=7) (fun i=> (i+1).toNat) 7 rfl ⟨V0,V0⟩ ?_
 rintro i ⟨h1,h2⟩
 refine Zrz _ _ _ _ _ _ ?_;(try simp only [iB,vcT,forall_eq])
 (simp only [iB,vcS]);(try simp only [iB,vcT])
 have hr:=Zd0 (f:=fun i=> b.getD i 0) hf (7 - i).toNat
 refine ⟨fun hc=> ⟨V4,V0,V4,i - 1,?_,⟨V0,V0⟩,V0⟩,fun hc=> Y3 rfl ?_⟩
 .have s:(256:Int) ^ (7 - i).toNat<=256 ^ 7:=by
   have:(256:Int) ^ (7 - i).toNat=((256 ^ (7 - i).toNat:Nat):Int):=by simp
   rw [this]
   have h7:(256:Nat) ^ (7 - i).toNat<=256 ^ 7:=XM V0 V0
   have:((256:Nat) ^ 7:Nat)=72057594037927936:=V2
   omega
  have e7:(256:Int) ^ 7=72057594037927936:=V2
  have u:=hf i.toNat
  have e:Zcj (fun i=> b.getD i 0) (7 - (i - 1)).toNat=b.getD i.toNat 0+256*Zcj (fun i=> b.getD i 0) (7 - i).toNat:=by
   rw [show (7 - (i - 1)).toNat=(7 - i).toNat+1 by omega]
   simp only [Zcj]
   grind
  rw [e,show (0+i).toNat=i.toNat by omega,Ju (n:=Zcj (fun i=> b.getD i 0) (7 - i).toNat*256) V0 V0,Ju (n:=b.getD i.toNat 0) V0 V0,Ju V0 V0]
  grind
 .have:i= -1:=V0
  subst this
  exact ZBc _
theorem ZGO(f:Nat->Int){i:Nat}(h:i < 8):List.getD [f 0,f 1,f 2,f 3,f 4,f 5,f 6,f 7] i 0=f i:=by
 match i,h with
 | 0,_=> rfl
 | 1,_=> rfl
 | 2,_=> rfl
 | 3,_=> rfl
 | 4,_=> rfl
 | 5,_=> rfl
 | 6,_=> rfl
 | 7,_=> rfl
theorem Z5s(a b m:Int)(i:Nat):0<=Jo a b m i/\Jo a b m i < 256:=by
 unfold Jo
 split
 .exact Z0Z _ _
 .exact Z0Z _ _
theorem c91:Contract Tryz.prog cfg 91 Z4m:=by
 refine ZBK ZDy ZDx ZDw ?_
 intro a b m _ h
 simp only [ZbG] at h
 refine ZHC _ _ _ _ ?_;(try simp only [iB,vcT,forall_eq])
 refine ⟨h.1,h.2.1,?_⟩
 refine Z4 (ι:=Int) (fun i=> Z42 a b m i (if ((0:Nat):Int) < i then Jo a b m 0 else Zu a 0) (if ((1:Nat):Int) < i then Jo a b m 1 else Zu a 1) (if ((2:Nat):Int) < i then Jo a b m 2 else Zu a 2) (if ((3:Nat):Int) < i then Jo a b m 3 else Zu a 3)
  (if ((4:Nat):Int) < i then Jo a b m 4 else Zu a 4) (if ((5:Nat):Int) < i then Jo a b m 5 else Zu a 5) (if ((6:Nat):Int) < i then Jo a b m 6 else Zu a 6) (if ((7:Nat):Int) < i then Jo a b m 7 else Zu a 7)) (fun i=> 0<=i/\i<=8) (fun i=> (8 - i).toNat) 0 ?_ ⟨V0,V0⟩ ?_
 .simp [Z42]
 .rintro i ⟨d,h2⟩
  refine Zw4 _ _ _ _ _ _ _ _ _ _ _ _ _ _ ?_;(try simp only [iB,vcT,forall_eq])
  (simp only [iB,vcS]);(try simp only [iB,vcT])
  refine ⟨fun hc=> ⟨⟨h.2.2,d,V0⟩,fun s=> ⟨⟨d,V0⟩,⟨d,V0⟩,V4,i+1,?_,⟨V0,V0⟩,V0⟩,fun s=> ⟨V4,i+1,?_,⟨V0,V0⟩,V0⟩⟩,fun hc=> ?_⟩
  .rw [ZGO (Zu b) V0]
   have hv:Zu b i.toNat=Jo a b m i.toNat:=by
    unfold Jo
    rw [show ((i.toNat:Nat):Int)=i by omega,s]
    try rfl
   have st:∀ j:Nat,Z1E i j (Zu b i.toNat) (if (j:Int) < i then Jo a b m j else Zu a j)=if (j:Int) < i+1 then Jo a b m j else Zu a j:=fun j=> ZpA (F:=Jo a b m) (G:=Zu a) d hv
   grind
  .have hv:Jo a b m i.toNat=Zu a i.toNat:=by
    unfold Jo
    rw [show ((i.toNat:Nat):Int)=i by omega,s]
    try rfl
   grind
  .have:i=8:=V0
   subst this
   refine ⟨⟨rfl,rfl,?_⟩,Y3 rfl ?_⟩
   .intro x u
    simp at u
    rcases u with rfl | rfl | rfl | rfl | rfl | rfl | rfl | rfl <;> exact Z5s _ _ _ _
   .try rfl
theorem ZqP{α:Type}{l:List α}{i:Nat}(h:i < l.length)(d:α):l.drop i=l.getD i d ::l.drop (i+1):=by
 simp_all
theorem Y1{α:Type}{l:List α}{i:Int}(h0:0<=i)(h:i < l.length)(d:α):l.drop i.toNat=l.getD i.toNat d ::l.drop (i+1).toNat:=by
 rw [ZqP V0 d,show i.toNat+1=(i+1).toNat by omega]
theorem Zb{α:Type}{l:List α}{i:Nat}(h:i < l.length)(d:α):l.getD i d∈l:=by
 grind
theorem ZQ(t:Tree):1<=Zh t:=by cases t;simp only [Zh];omega
theorem Z3V(e:Edit):1<=Zd e:=by cases e;simp only [Zd];omega
theorem Z6t(k:Kid):Ym k=Zd k.e:=by cases k;rfl
theorem ZG(o:Op):Zx o=Ze o.l+Zd o.e:=by cases o;rfl
theorem Y2:∀ {ks:List Tree} {t:Tree},t∈ks->Zh t<=Ze ks
 | x ::r,t,h=> by
  simp only [Ze]
  rcases Q7.1 h with rfl | h
  .omega
  .have:=Y2 h;omega
theorem YE:∀ {ks:List Kid} {k:Kid},k∈ks->Zd k.e<=Zp ks
 | x ::r,k,h=> by
  simp only [Zp,Z6t]
  rcases Q7.1 h with rfl | h
  .omega
  .have:=YE h;omega
theorem ZL:∀ {os:List Op} {o:Op},o∈os->Zx o<=Zj os
 | x ::r,o,h=> by
  simp only [Zj]
  rcases Q7.1 h with rfl | h
  .omega
  .have:=ZL h;omega
theorem ZW:∀ (ks:List Kid),ks.length<=Zp ks
 | []=> by simp [Zp]
 | k ::r=> by
  have:=ZW r
  have:=Z3V k.e
  simp only [Zp,Z6t,Qe]
  omega
theorem ZM:∀ (os:List Op),os.length<=Zj os
 | []=> by simp [Zj]
 | o ::r=> by
  have:=ZM r
  have:=Z3V o.e
  simp only [Zj,ZG,Qe]
  omega
theorem ZdA:∀ {ks:List Tree} {t:Tree},Z3o ks->t∈ks->Z2t t
 | x ::r,t,hs,h=> by
  simp only [Z3o] at hs
  rcases Q7.1 h with rfl | h
  .exact hs.1
  .exact ZdA hs.2 h
theorem Zbt:∀ {ks:List Kid} {k:Kid},Z66 ks->k∈ks->Z3p k.e
 | x ::r,k,hs,h=> by
  simp only [Z66] at hs
  rcases Q7.1 h with rfl | h
  .have:=hs.1;obtain ⟨a,e⟩:=k;exact this
  .exact Zbt hs.2 h
theorem Zbs:∀ {os:List Op} {o:Op},Z65 os->o∈os->o.l.length<=17592186044416/\Z3o o.l/\Z3p o.e
 | x ::r,o,hs,h=> by
  simp only [Z65] at hs
  rcases Q7.1 h with rfl | h
  .have:=hs.1;obtain ⟨a,b,c,e⟩:=o;exact this
  .exact Zbs hs.2 h
theorem Jh:∀ {ks:List Tree} {t:Tree},Ya ks->t∈ks->rng t
 | x ::r,t,hs,h=> by
  simp only [Ya] at hs
  rcases Q7.1 h with rfl | h
  .exact hs.1
  .exact Jh hs.2 h
theorem Yq:∀ {ks:List Kid} {k:Kid},Z0N ks->k∈ks->InR k.at_/\Y0 k.e
 | x ::r,k,hs,h=> by
  simp only [Z0N] at hs
  rcases Q7.1 h with rfl | h
  .have:=hs.1;obtain ⟨a,e⟩:=k;exact this
  .exact Yq hs.2 h
theorem J0:∀ {os:List Op} {o:Op},Z05 os->o∈os->YF o
 | x ::r,o,hs,h=> by
  simp only [Z05] at hs
  rcases Q7.1 h with rfl | h
  .exact hs.1
  .exact J0 hs.2 h
theorem J4{o:Op}(h:YF o):InR o.kind/\InR o.n/\Ya o.l/\Y0 o.e:=by obtain ⟨a,b,c,e⟩:=o;exact h
theorem ZqE(k:Kid)(d n:Int):Z3f k d n=Z0H k.e d n:=by cases k;rfl
theorem Zu2(o:Op)(d n:Int):Z5y o d n=if ZB o.l 80 n < 0 then ZB o.l 80 n else Z0H o.e d (ZB o.l 80 n):=by cases o;rfl
theorem ZaB(t:Tree)(n:Int)(h: -1<=n): -1<=sh1 t n/\sh1 t n<=n:=by
 unfold sh1
 split
 .omega
 .have:=YK t 80 n;omega
mutual
theorem Z1B:∀ (e:Edit) (d n:Int),-1<=Z0H e d n/\Z0H e d n<=max n (-1)
 | .mk _ o nw w ks _ os,d,n=> by
  simp only [Z0H]
  split
  .omega
  .have h:=YK o 80 (n - 1 - w.length - os.length)
   have u:=ZaB nw _ h.1
   have s:=Z23 ks (d - 1) _ u.1
   have h4:=Z22 os (d - 1) _ s.1
   omega
theorem Z23:∀ (ks:List (KidOf Edit)) (d n:Int),-1<=n->-1<=JS ks d n/\JS ks d n<=n
 | [],d,n,h=> by simp only [JS];omega
 | k ::r,d,n,h=> by
  simp only [JS]
  split
  .omega
  .have s:=Z7g k d n
   have u:=Z23 r d _ s.1
   omega
theorem Z7g:∀ (k:KidOf Edit) (d n:Int),-1<=Z3f k d n/\Z3f k d n<=max n (-1)
 | ⟨_,e⟩,d,n=> by
  simp only [Z3f]
  exact Z1B e d n
theorem Z22:∀ (os:List (OpOf Edit)) (d n:Int),-1<=n->-1<=Z0f os d n/\Z0f os d n<=n
 | [],d,n,h=> by simp only [Z0f];omega
 | o ::r,d,n,h=> by
  simp only [Z0f]
  split
  .omega
  .have s:=Z9j o d n h
   have u:=Z22 r d _ s.1
   omega
theorem Z9j:∀ (o:OpOf Edit) (d n:Int),-1<=n->-1<=Z5y o d n/\Z5y o d n<=n
 | ⟨_,_,l,e⟩,d,n,h=> by
  simp only [Z5y]
  have s:=Z0L l 80 n h
  split
  .omega
  .have u:=Z1B e d (ZB l 80 n)
   omega
end
theorem ZrX{t:Tree}{n:Int}(h:0<=sh1 t n):(Zh t:Int)+sh1 t n<=n:=by
 unfold sh1 at*
 split at h
 .omega
 .rename_i d
  rw [if_neg d]
  exact Z0K t 80 n h
mutual
theorem Z7Y:∀ (e:Edit) (d n:Int),0<=Z0H e d n->(Zd e:Int)+Z0H e d n<=n
 | .mk _ o nw w ks _ os,d,n,h=> by
  simp only [Z0H] at h ⊢
  split at h
  .omega
  .rename_i hc
   rw [if_neg hc]
   have u:=YK o 80 (n - 1 - w.length - os.length)
   have r2:=ZaB nw _ u.1
   have s:=Z23 ks (d - 1) _ r2.1
   have r4:=Z22 os (d - 1) _ s.1
   have m4:=Zc1 os (d - 1) _ h
   have m3:=Zc2 ks (d - 1) (sh1 nw (ZD o 80 (n - 1 - w.length - os.length))) V0
   have m2:=ZrX (t:=nw) (n:=ZD o 80 (n - 1 - w.length - os.length)) V0
   have m1:=Z0K o 80 (n - 1 - w.length - os.length) V0
   simp only [Zd]
   omega
theorem Zc2:∀ (ks:List (KidOf Edit)) (d n:Int),0<=JS ks d n->(Zp ks:Int)+JS ks d n<=n
 | [],d,n,h=> by simp only [JS,Zp];omega
 | k ::r,d,n,h=> by
  simp only [JS] at h ⊢
  split at h
  .omega
  .rename_i hc
   rw [if_neg hc]
   have s:=Z7g k d n
   have u:=Z23 r d _ s.1
   have m2:=Zc2 r d _ h
   have m1:=ZhR k d n V0
   simp only [Zp]
   omega
theorem ZhR:∀ (k:KidOf Edit) (d n:Int),0<=Z3f k d n->(Ym k:Int)+Z3f k d n<=n
 | ⟨_,e⟩,d,n,h=> by
  simp only [Z3f,Ym] at h ⊢
  exact Z7Y e d n h
theorem Zc1:∀ (os:List (OpOf Edit)) (d n:Int),0<=Z0f os d n->(Zj os:Int)+Z0f os d n<=n
 | [],d,n,h=> by simp only [Z0f,Zj];omega
 | o ::r,d,n,h=> by
  simp only [Z0f] at h ⊢
  split at h
  .omega
  .rename_i hc
   rw [if_neg hc]
   have s:=Z9j o d n V0
   have u:=Z22 r d _ s.1
   have m2:=Zc1 r d _ h
   have m1:=Zke o d n V0
   simp only [Zj]
   omega
theorem Zke:∀ (o:OpOf Edit) (d n:Int),0<=Z5y o d n->(Zx o:Int)+Z5y o d n<=n
 | ⟨_,_,l,e⟩,d,n,h=> by
  simp only [Z5y,Zx] at h ⊢
  split at h
  .omega
  .rename_i hc
   rw [if_neg hc]
   have s:=Z7Y e d _ h
   have u:=Z1B e d (ZB l 80 n)
   have m1:=Z3q l 80 n V0
   omega
end
theorem Zbc{e:Edit}(h:0<=Z0H e 80 3000):Zd e<=3000:=by
 have:=Z7Y e 80 3000 h
 omega
theorem Zkb(t:Tree):t.words.length+t.kids.length < Zh t:=by
 obtain ⟨k,w,ks⟩:=t
 have:=Zs ks
 simp only [Zh,Tree.words_mk,Tree.kids_mk]
 omega
theorem ZY(e:Edit):Zh e.old+Zh e.new+e.words.length+e.ops.length+Zp e.kids+Zj e.ops < Zd e:=by
 obtain ⟨k,o,n,w,ks,l,os⟩:=e
 simp only [Zd,Edit.old_mk,Edit.new_mk,Edit.words_mk,Edit.ops_mk,Edit.kids_mk]
 omega
theorem c57:Contract Tryz.prog cfg 57 Z4o:=by
 refine ZBZ ?_
 intro t _ d
 simp only [Z5g] at d
 have:=Zkb t
 refine ZI1 t _ ?_;(try simp only [iB,vcT,forall_eq])
 refine ⟨fun _=> by unfold InR;omega,Z5 rfl ?_⟩
 rw [Qn]
 simp only [Ys]
 grind
theorem c58:Contract Tryz.prog cfg 58 Zaz:=by
 refine ZBY c91 ?_
 intro w m _ d
 refine ZI0 _ _ _ ?_;(try simp only [iB,vcT,forall_eq])
 refine ⟨⟨d.1,by grind,d.2⟩,Z5 rfl ?_⟩
 try rfl
theorem c92:Contract Tryz.prog cfg 92 Zax:=by
 refine ZBJ c57 ?_
 intro e _ d
 simp only [Ze0] at d
 have h:=ZY e
 have s:=ZW e.kids
 refine ZHB e _ ?_;(try simp only [iB,vcT,forall_eq])
 try (simp only [vE])
 refine ⟨fun _=> by simp only [Z5g];omega,fun _=> by simp only [Z5g];omega,fun _=> by unfold InR;omega,fun _=> by unfold InR;omega,Z5 rfl ?_⟩
 rw [Qn]
 simp only [Z14]
 grind
theorem ZD1 (e:Edit) (x4 s i:Int) (N0:LSt U->Prop) (Q:AExit->LSt U->Prop) (h1:0<=x4/\x4<=1048576) (h2:0<=s/\s<=1048576) (hi:0<=i) (hlen:e.ops.length<=20000000000)
  (ho:∀ o∈e.ops,(0<=o.n/\o.n<=1048576)/\o.l.length<=20000000000)
  (h:i < e.ops.length->N0 (Z2O e (min (if (e.ops.getD i.toNat Op.nil).kind=2 then x4 else x4+Z7 (e.ops.getD i.toNat Op.nil)) 1048576) (min (if (e.ops.getD i.toNat Op.nil).kind=1 then s else s+Z7 (e.ops.getD i.toNat Op.nil)) 1048576) (i+1)))
  (h':¬i < e.ops.length->Q .ret (⟨[(2,.c (.int .i64 x4)),(3,.c (.int .i64 s))],[],[]⟩:LSt U)):ZE3 e x4 s i N0 Q:=by
 refine Zwp _ _ _ _ _ _ ?_;(try simp only [iB,vcT,forall_eq])
 (simp only [iB,vcS]);(try simp only [iB,vcT])
 refine ⟨fun hc=> ?_,h'⟩
 have hn:=h hc
 have hm:=ho _ (Zb (l:=e.ops) (i:=i.toNat) V0 Op.nil)
 have k1:∀ k,k=Z7 (e.ops.getD i.toNat Op.nil)->ZE7 e x4 s i k N0 Q:=by
  intro k hk
  have al:0<=k/\k<=60000000000:=by
   rw [hk];unfold Z7;split <;> omega
  have k2:∀ y,y=(if (e.ops.getD i.toNat Op.nil).kind=2 then x4 else x4+k)->ZE6 e s i k y N0 Q:=by
   intro y hy
   have ao:0<=y/\y<=100000000000:=by rw [hy];split <;> omega
   have k3:∀ z,z=(if (e.ops.getD i.toNat Op.nil).kind=1 then s else s+k)->ZE5 e i k y z N0 Q:=by
    intro z hz
    have am:0<=z/\z<=100000000000:=by rw [hz];split <;> omega
    have k4:∀ u,u=min y 1048576->ZE4 e i y z u N0 Q:=by
     intro u hu
     refine Zwq _ _ _ _ _ _ _ ?_;(try simp only [iB,vcT,forall_eq])
     (simp only [iB,vcS]);(try simp only [iB,vcT])
     rw [<-hk,<-hy,<-hz,<-hu] at hn
     refine ⟨fun d=> ⟨V4,?_⟩,fun d=> ⟨V4,?_⟩⟩
     .rw [show min z 1048576=1048576 by omega] at hn;exact hn
     .rw [show min z 1048576=z by omega] at hn;exact hn
    refine Zwr _ _ _ _ _ _ _ ?_;(try simp only [iB,vcT,forall_eq])
    (simp only [iB,vcS]);(try simp only [iB,vcT])
    exact ⟨fun d=> k4 _ V0,fun d=> k4 _ V0⟩
   refine Zws _ _ _ _ _ _ _ ?_;(try simp only [iB,vcT,forall_eq])
   (simp only [iB,vcS]);(try simp only [iB,vcT])
   exact ⟨fun d=> ⟨V4,k3 _ (by rw [if_neg d])⟩,fun d=> k3 _ (by rw [if_pos d])⟩
  refine Zwt _ _ _ _ _ _ _ ?_;(try simp only [iB,vcT,forall_eq])
  (simp only [iB,vcS]);(try simp only [iB,vcT])
  exact ⟨fun d=> ⟨V4,k2 _ (by rw [if_neg d])⟩,fun d=> k2 _ (by rw [if_pos d])⟩
 exact ⟨⟨hi,hc⟩,V4,fun d=> k1 _ (by unfold Z7;rw [if_pos d]),fun d=> k1 _ (by unfold Z7;rw [if_neg d])⟩
theorem c60:Contract Tryz.prog cfg 60 Z4n:=by
 refine ZBX ?_
 intro e _ hp
 simp only [Zjv] at hp
 have h1:=ZY e
 refine ZHY e _ ?_;(try simp only [iB,vcT,forall_eq])
 refine Z4 (ι:=Int × Int × Int) (fun p=> Z2O e p.1 p.2.1 p.2.2) (fun p=> 0<=p.2.2/\p.2.2<=e.ops.length/\(0<=p.1/\p.1<=1048576)/\(0<=p.2.1/\p.2.1<=1048576)/\Z13 (e.ops.drop p.2.2.toNat) p.1=Z13 e.ops 0/\Z12 (e.ops.drop p.2.2.toNat) p.2.1=Z12 e.ops 0) (fun p=> ((e.ops.length:Int) - p.2.2).toNat) (0,0,0) rfl ⟨by grind,by grind,V0,by grind,by simp,by simp⟩ ?_
 rintro ⟨x4,x5,i⟩ ⟨u,h3,h4,h5,d,h⟩
 dsimp only at*
 have ho:∀ o∈e.ops,(0<=o.n/\o.n<=1048576)/\o.l.length<=20000000000:=by
  intro o s
  refine ⟨hp.2 o s,?_⟩
  have a1:=ZL s
  have a2:=Zs o.l
  rw [ZG] at a1
  omega
 refine ZD1 e x4 x5 i _ _ h4 h5 u V0 ho (fun hc=> ⟨(_,_,i+1),rfl,⟨by grind,by grind,?_,?_,?_,?_⟩,by grind⟩) (fun hc=> ?_)
 .have s:=ho _ (Zb (l:=e.ops) (i:=i.toNat) V0 Op.nil)
  dsimp only
  unfold Z7
  omega
 .have s:=ho _ (Zb (l:=e.ops) (i:=i.toNat) V0 Op.nil)
  dsimp only
  unfold Z7
  omega
 .rw [Y1 u hc Op.nil] at d
  exact d
 .rw [Y1 u hc Op.nil] at h
  exact h
 .rw [Q6 V0] at d h
  simp only [Z13,Z12] at d h
  simp only [Zs3,<-d,<-h]
  exact ⟨⟨rfl,⟨⟨rfl,rfl⟩,trivial⟩,rfl,⟨⟨rfl,rfl⟩,trivial⟩,trivial⟩,trivial⟩
theorem ZlV{l:List Kid}{d n:Int}(h:n < 0):JS l d n=n:=by cases l <;> simp [JS,h]
theorem ZlU{l:List Op}{d n:Int}(h:n < 0):Z0f l d n=n:=by cases l <;> simp [Z0f,h]
theorem Zha{l:List Tree}{d n:Int}(h:n < 0):ZB l d n=n:=by cases l <;> simp [ZB,h]
theorem ZpP{e:Edit}(h:Z3p e):Z2t e.old/\Z2t e.new/\e.words.length<=17592186044416/\e.kids.length<=17592186044416/\e.ops.length<=17592186044416/\Z66 e.kids/\Z65 e.ops:=by
 obtain ⟨k,o,n,w,ks,l,os⟩:=e;exact h
theorem Zu3(e:Edit)(d n:Int):Z0H e d n=if d=0\/n - 1 - e.words.length - e.ops.length < 0 then -1 else Z0f e.ops (d - 1) (JS e.kids (d - 1) (sh1 e.new (ZD e.old 80 (n - 1 - e.words.length - e.ops.length)))):=by
 obtain ⟨k,o,h,w,ks,l,os⟩:=e;rfl
theorem c56:Contract Tryz.prog cfg 56 Zdk:=by
 refine ZC0 c50 ?_
 rintro N e d n _ hp hN
 simp only [Ze3,ZjU] at hp hN
 obtain ⟨hs,a6,bg,a7,bf⟩:=hp
 obtain ⟨so,sn,lw,lk,lo,sk,ao⟩:=ZpP hs
 have be:=ZY e
 have s:=Zu3 e d n
 refine ZI2 N e d n _ ?_;(try simp only [iB,vcT,forall_eq])
 (simp only [iB,vcS]);(try simp only [iB,vcT])
 try (simp only [vE])
 refine ⟨V4,V4,V4,fun hc=> Y3 rfl (by rw [s,if_pos hc]),fun hc=> ?_⟩
 rw [JC] at s
 have r1:=YK e.old 80 (n - 1 - e.words.length - e.ops.length)
 have ae:∀ t m,Z2t t->-1<=m->m<=4611686018427387904->Z8O (t,80,m,()):=fun t m h1 h2 h3=> ⟨h1,V3,V3,h2,h3⟩
 have k0:∀ x,x=sh1 e.new (ZD e.old 80 (n - 1 - e.words.length - e.ops.length))->ZE8 N e d n x (ZF cfg Tryz.f56.ntmps Tryz.f56.results.toList (ZnB (e,d,n,())) []):=by
  intro x hx
  have rx:=ZaB e.new _ r1.1
  rw [<-hx] at rx s
  refine Zwy N e d n x _ ?_;(try simp only [iB,vcT,forall_eq])
  refine Z4 (ι:=Int × Int) (fun p=> Z9E e d n p.1 p.2) (fun p=> 0<=p.2/\p.2<=e.kids.length/\-1<=p.1/\p.1<=4611686018427387904/\JS (e.kids.drop p.2.toNat) (d - 1) p.1=JS e.kids (d - 1) x) (fun p=> ((e.kids.length:Int) - p.2).toNat) (x,0) rfl ⟨V3,V3,V3,V3,by simp⟩ ?_
  rintro ⟨y,i⟩ ⟨h1,h2,h3,h4,h5⟩
  dsimp only at*
  refine Zwx N e d n y i _ _ ?_;(try simp only [iB,vcT,forall_eq])
  (simp only [iB,vcS]);(try simp only [iB,vcT])
  try (simp only [vE])
  refine ⟨fun hi=> ?_,fun hi=> ?_⟩
  .have aa:=Zb (l:=e.kids) (i:=i.toNat) V0 (KidOf.mk 0 Edit.nil)
   have ab:=Zbt sk aa
   have af:=YE aa
   rw [Y1 h1 hi.1 (KidOf.mk 0 Edit.nil)] at h5
   simp only [JS] at h5
   rw [JC,ZqE] at h5
   have rr:=Z1B (e.kids.getD i.toNat (KidOf.mk 0 Edit.nil)).e (d - 1) y
   exact ⟨⟨h1,hi.1⟩,V4,⟨ab,V3,V3,h3,h4⟩,by simp only [ZjU];omega,V4,(_,i+1),rfl,⟨V3,V3,V3,V3,h5⟩,V3⟩
  .have hy:JS e.kids (d - 1) x=y:=by
    rw [<-h5]
    by_cases hlt:i < e.kids.length
    .exact ZlV V0
    .rw [Q6 V0];try rfl
   rw [hy] at s
   refine Z4 (ι:=Int × Int) (fun p=> Z5G e d n p.1 p.2) (fun p=> 0<=p.2/\p.2<=e.ops.length/\-1<=p.1/\p.1<=4611686018427387904/\Z0f (e.ops.drop p.2.toNat) (d - 1) p.1=Z0f e.ops (d - 1) y) (fun p=> ((e.ops.length:Int) - p.2).toNat) (y,0) rfl ⟨V3,V3,h3,h4,by simp⟩ ?_
   rintro ⟨z,j⟩ ⟨h6,h7,h8,h9,h⟩
   dsimp only at*
   refine Zww N e d n z j _ _ ?_;(try simp only [iB,vcT,forall_eq])
   (simp only [iB,vcS]);(try simp only [iB,vcT])
   refine ⟨fun hj=> ?_,fun hj=> ?_⟩
   .have aa:=Zb (l:=e.ops) (i:=j.toNat) V0 Op.nil
    have ab:=Zbs ao aa
    have af:=ZL aa
    rw [ZG] at af
    rw [Y1 h6 hj.1 Op.nil] at h
    simp only [Z0f] at h
    rw [JC,Zu2] at h
    refine Z4 (ι:=Int × Int) (fun p=> Z9D e d n j p.1 p.2) (fun p=> 0<=p.2/\p.2<=(e.ops.getD j.toNat Op.nil).l.length/\-1<=p.1/\p.1<=4611686018427387904/\ZB ((e.ops.getD j.toNat Op.nil).l.drop p.2.toNat) 80 p.1=ZB (e.ops.getD j.toNat Op.nil).l 80 z) (fun p=> (((e.ops.getD j.toNat Op.nil).l.length:Int) - p.2).toNat) (z,0) rfl ⟨V3,V3,h8,h9,by simp⟩ ?_
    rintro ⟨u,k⟩ ⟨g1,g2,g3,g4,g5⟩
    dsimp only at*
    refine Zwv N e d n j u k _ _ _ ?_;(try simp only [iB,vcT,forall_eq])
    (simp only [iB,vcS]);(try simp only [iB,vcT])
    try (simp only [vE])
    refine ⟨⟨h6,hj.1⟩,fun hk=> ?_,fun hk=> ?_⟩
    .have ar:=Zb (l:=(e.ops.getD j.toNat Op.nil).l) (i:=k.toNat) V0 Tree.nil
     rw [Y1 g1 hk.1 Tree.nil] at g5
     simp only [ZB] at g5
     rw [JC] at g5
     have rr:=YK ((e.ops.getD j.toNat Op.nil).l.getD k.toNat Tree.nil) 80 u
     exact ⟨⟨h6,hj.1⟩,⟨g1,hk.1⟩,ae _ _ (ZdA ab.2.1 ar) g3 g4,V4,(_,k+1),rfl,⟨V3,V3,V3,V3,g5⟩,V3⟩
    .have hu:ZB (e.ops.getD j.toNat Op.nil).l 80 z=u:=by
      rw [<-g5]
      by_cases hlt:k < (e.ops.getD j.toNat Op.nil).l.length
      .exact Zha V0
      .rw [Q6 V0];try rfl
     rw [hu] at h
     have rr:=Z1B (e.ops.getD j.toNat Op.nil).e (d - 1) u
     refine ⟨fun hq=> ⟨⟨h6,hj.1⟩,V4,⟨ab.2.2,V3,V3,g3,g4⟩,by simp only [ZjU];omega,V4,(_,j+1),rfl,⟨V3,V3,V3,V3,?_⟩,V3⟩,
      fun hq=> ⟨V4,(_,j+1),rfl,⟨V3,V3,V3,V3,?_⟩,V3⟩⟩
     .rw [JC] at h;exact h
     .rw [YC] at h;exact h
   .refine Y3 rfl ?_
    rw [s,<-h]
    by_cases hlt:j < e.ops.length
    .exact (ZlU V0).symm
    .rw [Q6 V0];try rfl
 refine ⟨ae _ _ so V0 V0,fun hq=> ⟨ae _ _ sn r1.1 V0,k0 _ ?_⟩,fun hq=> k0 _ ?_⟩
 .unfold sh1;rw [JC]
 .unfold sh1;rw [YC]
theorem c27:Contract Tryz.prog cfg 27 Zdr:=by
 refine ZCh c56 ?_
 intro e _ d
 refine ZIo e _ ?_;(try simp only [iB,vcT,forall_eq])
 try (simp only [vE])
 exact ⟨⟨d,by grind,by grind,by grind,by grind⟩,Z5 rfl rfl⟩
theorem Z3M(e:Edit)(d:Int):Z6 e d=
  if d=0\/e.kind < 0\/3 < e.kind then false
  else if (e.kind≠1/\¬(Ys e.old=true/\Ys e.new=true))\/(e.kind≠2/\¬(e.words.length=0/\e.kids.length=0))\/(e.kind≠3/\(e.list≠0\/e.ops.length≠0)) then false
  else if e.kind=1 then Za e.old (dT d) && Za e.new (dT d) && decide (e.old.kind≠10/\e.new.kind≠10)
  else ZN (-1) e.words && Zz (-1) e.kids (d - 1) && decide (¬(e.kind=3/\(e.list < 2\/9 < e.list))) && Zy e.list e.ops (d - 1) && decide (Z13 e.ops 0 < 1048576/\Z12 e.ops 0 < 1048576):=by
 obtain ⟨k,o,h,w,ks,l,os⟩:=e;rfl
theorem Z37(last:Int)(k:Kid)(d:Int):YM last k d=(decide (last < k.at_/\k.at_<=65534/\k.e.kind≠0) && Z6 k.e d):=by cases k;rfl
theorem Js(list:Int)(o:Op)(d:Int):Zf list o d=
  if o.kind=0 then decide (1<=o.n/\o.n<=1048576/\o.l.length=0) && Z14 o.e
  else if o.n≠0\/o.kind < 0\/3 < o.kind then false
  else if o.kind < 3 then Yp (dT d) list o.l && decide (0 < o.l.length) && Z14 o.e
  else decide (o.l.length=0/\o.e.kind≠0/\7 < list) && Z6 o.e d && decide (list=8\/o.e.kind=2\/o.e.kind=1/\o.e.old.kind=1/\o.e.new.kind=1):=by
 cases o;rfl
theorem Z6a{list:Int}{o:Op}{d:Int}(h:Zf list o d=true):0<=o.n/\o.n<=1048576:=by
 rw [Js] at h
 grind
theorem rightOs_mem{list d:Int}:∀ {os:List Op} {o:Op},Zy list os d=true->o∈os->Zf list o d=true
 | x ::r,o,h,hm=> by
  simp only [Zy,Q0] at h
  rcases Q7.1 hm with rfl | hm
  .exact h.1
  .exact rightOs_mem h.2 hm
theorem ZbB{d:Int}:∀ {ks:List Kid} {last:Int} {k:Kid},Zz last ks d=true->k∈ks->Z6 k.e d=true/\k.e.kind≠0
 | x ::r,last,k,h,hm=> by
  simp only [Zz,Q0] at h
  rcases Q7.1 hm with rfl | hm
  .have:=h.1;rw [Z37] at this;grind
  .exact ZbB h.2 hm
theorem Z1Y{e:Edit}(h:Y0 e):InR e.kind/\rng e.old/\rng e.new/\(∀ x∈e.words,Z2T x)/\InR e.list/\Z0N e.kids/\Z05 e.ops:=by
 obtain ⟨k,o,n,w,ks,l,os⟩:=e;exact h
theorem b28:ZHn:=by
 intro N e d _ hp hN
 simp only [Z7c,ZhM] at hp hN
 obtain ⟨⟨hm,hr⟩,av,bc⟩:=hp
 obtain ⟨ik,ro,rn,a1,il,rk,aw⟩:=Z1Y hr
 have bb:=ZY e
 have a5:=ZW e.kids
 have a9:=ZM e.ops
 have s:=Z3M e d
 rw [ZoY av] at s
 refine ZIn N e d _ ?_;(try simp only [iB,vcT,forall_eq])
 (simp only [iB,vcS]);(try simp only [iB,vcT]);(try simp only [vcU])
 try (simp only [vE])
 refine ⟨fun hc=> Z5 rfl (by rw [s,YC]),fun hc=> ?_⟩
 rw [JC] at s
 refine ⟨fun _=> by simp only [Z5g];omega,fun _=> by simp only [Z5g];omega,fun _=> by unfold InR;omega,fun hf=> Z5 rfl ?_,fun hf=> ⟨fun h1=> ⟨⟨V3,ro,V3,V3⟩,fun _=> ⟨V3,rn,V3,V3⟩,Z5 rfl ?_⟩,fun h1=> ?_⟩⟩
 .rw [s,if_pos]
  rcases hf with (hf | hf) | hf
  .left
   refine ⟨hf.1,fun h=> ?_⟩
   rcases hf.2 with h2 | h2
   .rw [h.1] at h2;cases h2
   .rw [h.2] at h2;cases h2
  .right;left;omega
  .right;right;omega
 .rw [s,if_neg,if_pos h1,Qn]
  ·(simp only [iB,vcS])
   constructor
   .rintro ⟨⟨⟨h2,h3⟩,h4⟩,h5⟩;exact ⟨⟨h2,h3⟩,h4,h5⟩
   .rintro ⟨⟨h2,h3⟩,h4,h5⟩;exact ⟨⟨⟨h2,h3⟩,h4⟩,h5⟩
  .intro h
   rcases h with h | h | h
   .exact h.1 h1
   .omega
   .omega
 .rw [if_neg,if_neg h1] at s
  .refine Z4 (ι:=Int × Int) (fun p=> Za2 e d p.1 p.2) (fun p=> 0<=p.2/\p.2<=e.words.length/\ZN p.1 (e.words.drop p.2.toNat)=ZN (-1) e.words) (fun p=> ((e.words.length:Int) - p.2).toNat) (-1,0) rfl ⟨V3,V3,by simp⟩ ?_
   rintro ⟨af,i⟩ ⟨h2,h3,h4⟩
   dsimp only at*
   refine ZwW N e d af i _ _ ?_;(try simp only [iB,vcT,forall_eq])
   (simp only [iB,vcS]);(try simp only [iB,vcT]);(try simp only [vcU])
   try (simp only [vE])
   refine ⟨fun hi=> ?_,fun hi=> ?_⟩
   .have u:=Zb (l:=e.words) (i:=i.toNat) V0 (WEdit.mk 0 0 0 0)
    have aj:=a1 _ u
    rw [Y1 h2 hi (WEdit.mk 0 0 0 0)] at h4
    simp only [ZN] at h4
    generalize e.words.getD i.toNat (WEdit.mk 0 0 0 0)=w at*
    obtain ⟨_,am,az,a2⟩:=aj
    refine ⟨⟨h2,hi⟩,fun _=> ⟨az,am⟩,fun _=> ⟨a2,am⟩,fun hq=> Z5 rfl ?_,fun hq=> ⟨V4,(_,i+1),rfl,⟨V3,V3,?_⟩,V3⟩⟩
    .rw [s,<-h4]
     rcases hq with (hq | hq) | hq
     .rw [decide_eq_false V0];try rfl
     .rw [hq];simp
     .rw [hq];simp
    .dsimp only
     rw [<-h4,decide_eq_true V0,hq.1.2,hq.2];try rfl
   .have hw:ZN (-1) e.words=true:=by
     rw [<-h4,Q6 V0];try rfl
    rw [hw,QK] at s
    refine Z4 (ι:=Int × Int) (fun p=> Za1 e d p.1 p.2) (fun p=> 0<=p.2/\p.2<=e.kids.length/\Zz p.1 (e.kids.drop p.2.toNat) (d - 1)=Zz (-1) e.kids (d - 1)) (fun p=> ((e.kids.length:Int) - p.2).toNat) (-1,0) rfl ⟨V3,V3,by simp⟩ ?_
    rintro ⟨af,i⟩ ⟨h2,h3,h4⟩
    dsimp only at*
    refine ZwV N e d af i _ _ ?_;(try simp only [iB,vcT,forall_eq])
    (simp only [iB,vcS]);(try simp only [iB,vcT]);(try simp only [vcU])
    try (simp only [vE])
    refine ⟨fun hi=> ?_,fun hi=> ?_⟩
    .have u:=Zb (l:=e.kids) (i:=i.toNat) V0 (KidOf.mk 0 Edit.nil)
     have aj:=Yq rk u
     have ax:=YE u
     rw [Y1 h2 hi (KidOf.mk 0 Edit.nil)] at h4
     simp only [Zz,Z37] at h4
     generalize e.kids.getD i.toNat (KidOf.mk 0 Edit.nil)=w at*
     refine ⟨⟨h2,hi⟩,fun _=> by unfold InR;omega,fun _=> ⟨⟨V3,aj.2⟩,V3,V3⟩,fun _=> by simp only [ZhM];omega,fun hq=> Z5 rfl ?_,fun hq=> ⟨V4,(_,i+1),rfl,⟨V3,V3,?_⟩,V3⟩⟩
     .rw [s,<-h4]
      rcases hq with hq | hq
      .rw [decide_eq_false V0];try rfl
      .rw [hq];simp
     .dsimp only
      rw [<-h4,decide_eq_true V0,hq.2];try rfl
    .have hw:Zz (-1) e.kids (d - 1)=true:=by
      rw [<-h4,Q6 V0];try rfl
     rw [hw,QK] at s
     refine ⟨fun hq=> Z5 rfl (by rw [s,decide_eq_false V0];rfl),fun hq=> ?_⟩
     rw [decide_eq_true V0,QK] at s
     refine Z4 (ι:=Int) (fun p=> Za0 e d p) (fun p=> 0<=p/\p<=e.ops.length/\Zy e.list (e.ops.drop p.toNat) (d - 1)=Zy e.list e.ops (d - 1)) (fun p=> ((e.ops.length:Int) - p).toNat) 0 rfl ⟨V0,V0,by simp⟩ ?_
     rintro j ⟨h5,h6,h7⟩
     refine ZwU N e d j _ _ ?_;(try simp only [iB,vcT,forall_eq])
     (simp only [iB,vcS]);(try simp only [iB,vcT]);(try simp only [vcU])
     try (simp only [vE])
     refine ⟨fun hj=> ?_,fun hj=> ?_⟩
     .have u:=Zb (l:=e.ops) (i:=j.toNat) V0 Op.nil
      have au:=J0 aw u
      have ax:=ZL u
      rw [Y1 h5 hj Op.nil] at h7
      simp only [Zy] at h7
      generalize e.ops.getD j.toNat Op.nil=o at*
      refine ⟨⟨h5,hj⟩,V4,⟨⟨by show Zx o<=20000000000;omega,au,il⟩,V3,V3⟩,?_,fun hq=> Z5 rfl ?_,fun hq=> ⟨V4,j+1,rfl,⟨V0,V0,?_⟩,V0⟩⟩
      .show 2*Zx o+1 < N
       omega
      .have ai:Zf e.list o (d - 1)=false:=hq
       rw [s,<-h7,ai];try rfl
      .have ai:Zf e.list o (d - 1)=true:=hq
       rw [<-h7,ai];try rfl
     .have hw:Zy e.list e.ops (d - 1)=true:=by
       rw [<-h7,Q6 V0];try rfl
      rw [hw,QK] at s
      refine ⟨⟨hm,fun o ho=> Z6a (rightOs_mem hw ho)⟩,Z5 rfl ?_⟩
      rw [s,Qn]
      (simp only [iB,vcS])
  .intro h
   rcases h with h | h | h
   .rcases hf.1.1 with h2 | h2
    .exact h1 h2
    .exact h.2 h2
   .omega
   .omega
theorem ZfE{l:List Tree}{i:Int}(h0:0<=i)(h:i < l.length):List.drop i.toNat (l.take (i+1).toNat)=[l.getD i.toNat Tree.nil]:=by
 rw [List.drop_take,show (i+1).toNat - i.toNat=1 by omega,Y1 h0 h Tree.nil]
 try rfl
theorem b59:ZHi:=by
 intro N list o d _ hp hN
 simp only [Zgg,Zqk] at hp hN
 obtain ⟨⟨hm,hr,aj⟩,ab,al⟩:=hp
 obtain ⟨ik,a2,rl,re⟩:=J4 hr
 rw [ZG] at hm hN
 have av:=Zs o.l
 have a4:=Z3V o.e
 have h:=Js list o d
 rw [ZoY ab,Zat] at h
 refine ZHZ N list o d _ ?_;(try simp only [iB,vcT,forall_eq])
 (simp only [iB,vcS]);(try simp only [iB,vcT]);(try simp only [vcU])
 try (simp only [vE])
 refine ⟨fun h0=> ⟨fun _=> by simp only [Ze0];omega,Z5 rfl ?_⟩,fun h0=> ⟨fun hc=> Z5 rfl ?_,fun hc=> ⟨fun h3=> ?_,fun h3=> ⟨fun _=> ⟨⟨V3,re⟩,ab,al⟩,fun _=> by simp only [ZhM];omega,fun s=> Z5 rfl ?_,fun s=> Z5 rfl ?_⟩⟩⟩⟩
 .rw [h,if_pos h0,Qn]
  (simp only [iB,vcS])
  constructor
  .rintro ⟨h1,h2⟩;exact ⟨V0,h2⟩
  .rintro ⟨h1,h2⟩;exact ⟨V0,h2⟩
 .rw [h,if_neg h0,YC]
 .rw [if_neg h0,JC,if_pos h3] at h
  refine Z4 (ι:=Int) (fun p=> Z9C list o d p) (fun p=> 0<=p/\p<=o.l.length/\JE list (o.l.drop p.toNat)=JE list o.l) (fun p=> ((o.l.length:Int) - p).toNat) 0 rfl ⟨V0,V0,by simp⟩ ?_
  rintro i ⟨h4,h5,h6⟩
  refine Zwu N list o d i _ _ ?_;(try simp only [iB,vcT,forall_eq])
  (simp only [iB,vcS]);(try simp only [iB,vcT]);(try simp only [vcU])
  try (simp only [vE])
  refine ⟨fun hi=> ?_,fun hi=> ?_⟩
  .have u:=Zb (l:=o.l) (i:=i.toNat) V0 Tree.nil
   have ak:=Jh rl u
   have az:=Y2 u
   rw [ZfE h4 hi]
   rw [Y1 h4 hi Tree.nil] at h6
   simp only [JE] at h6
   generalize o.l.getD i.toNat Tree.nil=t at*
   refine ⟨V4,V0,⟨by simp only [Zh,Ze,List.length_nil];omega,⟨aj,fun x hx=> (by cases hx),ak,trivial⟩,V3,V3⟩,fun s=> Z5 rfl ?_,fun s=> ⟨V4,i+1,rfl,⟨V0,V0,?_⟩,V0⟩⟩
   .rw [h,<-h6,s];try rfl
   .rw [<-h6,s];try rfl
  .have hw:JE list o.l=true:=by
    rw [<-h6,Q6 V0];try rfl
   rw [hw,QK] at h
   refine ⟨fun _=> by simp only [Ze0];omega,Z5 rfl ?_⟩
   rw [h,Qn]
   (simp only [iB,vcS])
   simp only [Int.natCast_pos]
 .rw [h,if_neg h0,JC,if_neg h3]
  rcases s with s | s
  .have:¬(o.l.length=0/\o.e.kind≠0/\7 < list):=V0
   rw [decide_eq_false this];try rfl
  .rw [s];simp
 .rw [h,if_neg h0,JC,if_neg h3,s.2]
  have:o.l.length=0/\o.e.kind≠0/\7 < list:=V0
  rw [decide_eq_true this,Qn]
  (simp only [iB,vcS])
  simp only [true_and,XK,decide_eq_true_eq,and_assoc,or_assoc]
theorem ZmB:Contract Tryz.prog cfg 28 Z2s/\Contract Tryz.prog cfg 59 ZrU:=Zqz c57 c58 c92 c20 c60 b28 b59
theorem ZqC(e:Edit):Z2J e=(decide (Z13 e.ops 0<=2000/\Z12 e.ops 0<=2000) && Z4B e.kids && Z6v e.ops):=by
 obtain ⟨k,o,d,w,ks,l,os⟩:=e;rfl
theorem Zk9(k:Kid):Zka k=Z2J k.e:=by cases k;rfl
theorem ZlP(o:Op):Zoj o=Z2J o.e:=by cases o;rfl
theorem ZaD{e:Edit}{d:Int}(h:Z6 e d=true):(∀ k∈e.kids,Z6 k.e (d - 1)=true/\k.e.kind≠0)/\∀ o∈e.ops,Zf e.list o (d - 1)=true:=by
 rw [Z3M] at h
 split at h
 .cases h
 .split at h
  .cases h
  .rename_i h1 h2
   split at h
   .grind
   .simp only [Q0] at h
    exact ⟨fun k s=> ZbB h.1.1.1.2 s,fun o u=> rightOs_mem h.1.2 u⟩
theorem ZiT{e:Edit}(h:Z14 e=true):e.kind=0/\Ys e.old=true/\Ys e.new=true/\e.words=[]/\e.kids=[]/\e.ops=[]/\e.list=0:=by
 simp only [Z14,Q0,decide_eq_true_eq] at h
 grind
theorem Zbv{e:Edit}(h:Z14 e=true)(d:Int)(hd:d≠0):Z6 e d=true:=by
 obtain ⟨h1,u,h3,h4,s,h6,h7⟩:=ZiT h
 rw [Z3M,h1,u,h3,h4,s,h6,h7,JC,if_neg (by simp),JC]
 try rfl
theorem Zfs{list:Int}{o:Op}{d:Int}(h:Zf list o d=true):∃ d',Z6 o.e d'=true:=by
 rw [Js] at h
 split at h
 .simp only [Q0] at h
  exact ⟨1,Zbv h.2 1 V0⟩
 .split at h
  .cases h
  .split at h
   .simp only [Q0] at h
    exact ⟨1,Zbv h.2 1 V0⟩
   grind
theorem c29:Contract Tryz.prog cfg 29 Zdq:=by
 refine ZCg c60 ?_
 intro N e _ hp hN
 simp only [Ze5,ZjW] at hp hN
 obtain ⟨⟨hm,hr⟩,dd,aj⟩:=hp
 obtain ⟨ik,ro,rn,a1,il,rk,ah⟩:=Z1Y hr
 have az:=ZY e
 have au:=ZW e.kids
 have ax:=ZM e.ops
 have h:=ZqC e
 obtain ⟨ai,ab⟩:=ZaD aj
 refine ZIm N e _ ?_;(try simp only [iB,vcT,forall_eq])
 (simp only [iB,vcS]);(try simp only [iB,vcT]);(try simp only [vcU])
 try (simp only [vE])
 refine ⟨⟨hm,fun o ho=> Z6a (ab o ho)⟩,fun hq=> Z5 rfl (by grind),fun hq=> ?_⟩
 rw [decide_eq_true V0,QK] at h
 refine Z4 (ι:=Int) (fun p=> Z9Z e p) (fun p=> 0<=p/\p<=e.kids.length/\Z4B (e.kids.drop p.toNat)=Z4B e.kids) (fun p=> ((e.kids.length:Int) - p).toNat) 0 rfl ⟨V0,V0,by simp⟩ ?_
 rintro i ⟨h4,h5,h6⟩
 refine ZwT N e i _ _ ?_;(try simp only [iB,vcT,forall_eq])
 (simp only [iB,vcS]);(try simp only [iB,vcT]);(try simp only [vcU])
 try (simp only [vE])
 refine ⟨fun hi=> ?_,fun hi=> ?_⟩
 .have d:=Zb (l:=e.kids) (i:=i.toNat) V0 (KidOf.mk 0 Edit.nil)
  have s:=Yq rk d
  have ae:=YE d
  have u:=ai _ d
  rw [Y1 h4 hi (KidOf.mk 0 Edit.nil)] at h6
  simp only [Z4B,Zk9] at h6
  generalize e.kids.getD i.toNat (KidOf.mk 0 Edit.nil)=k at*
  refine ⟨⟨h4,hi⟩,⟨⟨by grind,s.2⟩,_,u.1⟩,by simp only [ZjW];omega,fun hq=> Z5 rfl (by grind),fun hq=> ⟨V4,i+1,rfl,⟨V0,V0,by grind⟩,V0⟩⟩
 .have hw:Z4B e.kids=true:=by
   rw [<-h6,Q6 V0];try rfl
  rw [hw,QK] at h
  refine Z4 (ι:=Int) (fun p=> Z9Y e p) (fun p=> 0<=p/\p<=e.ops.length/\Z6v (e.ops.drop p.toNat)=Z6v e.ops) (fun p=> ((e.ops.length:Int) - p).toNat) 0 rfl ⟨V0,V0,by simp⟩ ?_
  rintro j ⟨g4,g5,g6⟩
  refine ZwS N e j _ _ ?_;(try simp only [iB,vcT,forall_eq])
  (simp only [iB,vcS]);(try simp only [iB,vcT]);(try simp only [vcU])
  try (simp only [vE])
  refine ⟨fun hi=> ?_,fun hi=> ?_⟩
  .have d:=Zb (l:=e.ops) (i:=j.toNat) V0 Op.nil
   have s:=J4 (J0 ah d)
   have ae:=ZL d
   have u:=Zfs (ab _ d)
   rw [ZG] at ae
   rw [Y1 g4 hi Op.nil] at g6
   simp only [Z6v,ZlP] at g6
   generalize e.ops.getD j.toNat Op.nil=o at*
   refine ⟨⟨g4,hi⟩,⟨⟨by grind,s.2.2.2⟩,u⟩,by simp only [ZjW];omega,fun hq=> Z5 rfl (by grind),fun hq=> ⟨V4,j+1,rfl,⟨V0,V0,by grind⟩,V0⟩⟩
  .refine Z5 rfl ?_
   rw [h,<-g6,Q6 V0];try rfl
end Go.AM.YtfapacabjkhepaaGreat
namespace Go.AM
noncomputable def eqX{α:Type}(a b:α):Bool:=@decide (a=b) (Classical.propDecidable _)
theorem Z0r{α:Type}{a b:α}:eqX a b=true↔a=b:=by unfold eqX;grind
@[simp] theorem ZuN {α:Type} (a:α):eqX a a=true:=Z0r.2 rfl
def ZV(o:Op)(n:Int):Op:=if Z7 o<=n then o else if o.kind=0 then ⟨o.kind,n,o.l,o.e⟩ else ⟨o.kind,o.n,o.l.take n.toNat,o.e⟩
def JY(o:Op)(n:Int):Op:=if o.kind=0 then ⟨o.kind,o.n - n,o.l,o.e⟩ else ⟨o.kind,o.n,o.l.drop n.toNat,o.e⟩
def Y9(l:List Op)(n:Int):List Op:=if Z7 (l.getD 0 Op.nil)<=n then l.drop 1 else JY (l.getD 0 Op.nil) n ::l.drop 1
def sgl(a:Int)(l:List Op):Bool:=decide (l.length≠0/\(l.getD 0 Op.nil).kind=a)
def YT(o:Op):Prop:=
 (o.kind=0/\o.l=[]/\(1<=o.n/\o.n<=1048576)/\o.e=Edit.nil)\/((o.kind=1\/o.kind=2)/\o.n=0/\o.l≠[]/\o.e=Edit.nil)\/(o.kind=3/\o.n=0/\o.l=[])
def ZaP(l:List Op):Prop:=(∀ o∈l,YT o)/\Zj l<=20000000000
theorem J3(l:List Op)(n:Int)(h:l.length≠0):(Y9 l n).length<=l.length:=by
 unfold Y9
 grind
theorem J2(l:List Op)(n:Int)(h:l.length≠0)(hn:Z7 (l.getD 0 Op.nil)<=n):(Y9 l n).length < l.length:=by
 unfold Y9
 grind
def Yo(ap aq:Int)(p q:List Op)(out:List Piece):List Piece × Bool × List Op × List Op:=
 if h:sgl ap p=true then Yo ap aq (p.drop 1) q (out++[⟨1,p.getD 0 Op.nil,Op.nil⟩])
 else if h2:sgl aq q=true then Yo ap aq p (q.drop 1) (out++[⟨2,Op.nil,q.getD 0 Op.nil⟩])
 else if h3:p.length=0\/q.length=0 then
  if decide (p.length=0)=decide (q.length=0) then (out,true,p,q) else ([],false,p,q)
 else
  Yo ap aq (Y9 p (min (Z7 (p.getD 0 Op.nil)) (Z7 (q.getD 0 Op.nil)))) (Y9 q (min (Z7 (p.getD 0 Op.nil)) (Z7 (q.getD 0 Op.nil))))
   (out++[⟨0,ZV (p.getD 0 Op.nil) (min (Z7 (p.getD 0 Op.nil)) (Z7 (q.getD 0 Op.nil))),ZV (q.getD 0 Op.nil) (min (Z7 (p.getD 0 Op.nil)) (Z7 (q.getD 0 Op.nil)))⟩])
termination_by p.length+q.length
decreasing_by
 .have:=(of_decide_eq_true h).1;grind
 .have:=(of_decide_eq_true h2).1;grind
 .rcases Int.le_total (Z7 (p.getD 0 Op.nil)) (Z7 (q.getD 0 Op.nil)) with hm | hm
  .have a:=J2 p _ V0 (Xq (Z7 (p.getD 0 Op.nil)))
   have b:=J3 q (Z7 (p.getD 0 Op.nil)) V0
   grind
  .have a:=J2 q _ V0 (Xq (Z7 (q.getD 0 Op.nil)))
   have b:=J3 p (Z7 (q.getD 0 Op.nil)) V0
   grind
def Zcu(i alone:Int)(o:Op):List AUnit:=
 (if o.kind=0 then List.replicate o.n.toNat ⟨i,0,Tree.nil,Edit.nil,false⟩ else [])
  ++(o.l.map (fun t=> ⟨i,o.kind,t,Edit.nil,decide (o.kind=alone)⟩)
  ++(if o.kind=3 then [⟨i,3,Tree.nil,o.e,false⟩] else []))
def ZcT(i alone:Int):List Op->List AUnit
 | []=> []
 | o ::r=> Zcu i alone o++ZcT (i+1) alone r
def alo(l:List AUnit):Bool:=decide (l.length≠0/\(l.getD 0 AUnit.nil).alone=true)
def Zem(p q:List AUnit)(out:List APair):List APair × Bool:=
 if h:alo p=true then Zem (p.drop 1) q (out++[⟨1,p.getD 0 AUnit.nil,AUnit.nil⟩])
 else if h2:alo q=true then Zem p (q.drop 1) (out++[⟨2,AUnit.nil,q.getD 0 AUnit.nil⟩])
 else if h3:p.length=0\/q.length=0 then
  if decide (p.length=0)=decide (q.length=0) then (out,true) else ([],false)
 else Zem (p.drop 1) (q.drop 1) (out++[⟨0,p.getD 0 AUnit.nil,q.getD 0 AUnit.nil⟩])
termination_by p.length+q.length
decreasing_by
 .have:=(of_decide_eq_true h).1;grind
 .have:=(of_decide_eq_true h2).1;grind
 grind
def opU(u:AUnit):Op:=if u.kind=0 then ⟨0,1,[],Edit.nil⟩ else if u.kind=3 then ⟨3,0,[],u.e⟩ else ⟨u.kind,0,[u.t],Edit.nil⟩
end Go.AM
namespace Go.AM.YtfapacabjkhepaaGreat
open Go.AM Go.Proofs
noncomputable section
def Zp7:ArgL (Op × Unit):=(.cons (aEl .op) .nil)
def Z5i(a:Op × Unit):Prop:=Zx a.1<=20000000000/\0<=OpOf.n a.1/\OpOf.n a.1<=1048576
def Zsa(a:Op × Unit):V U:= .c (ci (Z7 a.1))
def Z2Z:Fs U:=fs Zp7 (fun a=> [Z5i a]) Zsa
def Zin:ArgM ((List Op × Int × Unit) × Unit):=(.obj 0 (.cons (cSl .op) (.cons (ZkG .i64) .nil)) .nil)
def Z3t(a:(List Op × Int × Unit) × Unit):Prop:=(a.1.1).length<=120000000000
def Zs9(a:(List Op × Int × Unit) × Unit):V U:= .c (.bool (decide ((a.1.1).length=0)))
def Znp(a:(List Op × Int × Unit) × Unit):List (List (C U)):=[[sU .op a.1.1 .unk,ci a.1.2.1]]
def Z2Y:Fs U:=fsX Zin (fun a=> [Z3t a]) Zs9 Znp
def Zsb(a:(List Op × Int × Unit) × Unit):V U:= .c (.bool (sgl a.1.2.1 a.1.1))
def Z8d:Fs U:=fsX Zin (fun a=> [Z3t a]) Zsb Znp
def Zio:ArgM ((List Op × Int × Unit) × Int × Unit):=(.obj 0 (.cons (cSl .op) (.cons (ZkG .i64) .nil)) (.cons (Yc .i64) .nil))
def Z7F(a:(List Op × Int × Unit) × Int × Unit):Prop:=ZaP a.1.1/\(a.1.1).length≠0/\1<=a.2.1/\a.2.1<=120000000000
def ZdR(a:(List Op × Int × Unit) × Int × Unit):V U:= .agg (enc .op (ZV ((a.1.1).getD 0 Op.nil) a.2.1))
def Z8F(a:(List Op × Int × Unit) × Int × Unit):List (List (C U)):=[[sU .op (Y9 a.1.1 a.2.1) .unk,ci a.1.2.1]]
def Z8c:Fs U:=fsX Zio (fun a=> [Z7F a]) ZdR Z8F
def Ziq:ArgM ((List Op × Int × Unit) × (List Op × Int × Unit) × Unit):=(.obj 0 (.cons (cSl .op) (.cons (ZkG .i64) .nil)) (.obj 1 (.cons (cSl .op) (.cons (ZkG .i64) .nil)) .nil))
def Zhy(a:(List Op × Int × Unit) × (List Op × Int × Unit) × Unit):Prop:=ZaP a.1.1/\ZaP a.2.1.1
def Zho(a:(List Op × Int × Unit) × (List Op × Int × Unit) × Unit):V U:= .tup [(false,[sU .piece ((Yo a.1.2.1 a.2.1.2.1 a.1.1 a.2.1.1 []).1) .unk]),(false,[.bool ((Yo a.1.2.1 a.2.1.2.1 a.1.1 a.2.1.1 []).2.1)])]
def Zcy(a:(List Op × Int × Unit) × (List Op × Int × Unit) × Unit):List (List (C U)):=[[sU .op ((Yo a.1.2.1 a.2.1.2.1 a.1.1 a.2.1.1 []).2.2.1) .unk,ci a.1.2.1],[sU .op ((Yo a.1.2.1 a.2.1.2.1 a.1.1 a.2.1.1 []).2.2.2) .unk,ci a.2.1.2.1]]
def Z5X:Fs U:=fsX Ziq (fun a=> [Zhy a]) Zho Zcy
def Zp8:ArgL (List Op × List Op × Unit):=(.cons (aSl .op) (.cons (aSl .op) .nil))
def Zlm(a:List Op × List Op × Unit):Prop:=ZaP a.1/\ZaP a.2.1
def Zsf(a:List Op × List Op × Unit):V U:= .tup [(false,[sU .piece ((Yo 1 2 a.1 a.2.1 []).1) .unk]),(false,[.bool ((Yo 1 2 a.1 a.2.1 []).2.1)])]
def Z1T:Fs U:=fs Zp8 (fun a=> [Zlm a]) Zsf
def Zvv:ArgL (List Tree × List Tree × Unit):=(.cons (aSl .tree) (.cons (aSl .tree) .nil))
def Zjw(a:List Tree × List Tree × Unit):Prop:=Ze a.1<=20000000000
def ZAg(a:List Tree × List Tree × Unit):V U:= .c (.bool (eqX a.1 a.2.1))
def Zdo:Fs U:=fs Zvv (fun a=> [Zjw a]) ZAg
def ZmU:ArgL (Edit × Edit × Unit):=(.cons (aEl .edit) (.cons (aEl .edit) .nil))
def Z8P(a:Edit × Edit × Unit):Prop:=Zd a.1<=20000000000
def ZjX(a:Edit × Edit × Unit):Nat:=Zd a.1
def Zsm(a:Edit × Edit × Unit):V U:= .c (.bool (eqX a.1 a.2.1))
def Zdw:Fs U:=fs ZmU (fun a=> [Z8P a]) Zsm
def Ztq:Zg U:=lvl [([1],[1]),([1,5],[1]),([2],[]),([2],[])]
abbrev ZJ5(p:List Nat):=AW (Z2 Zmg) Tryz.f196 Ztq p
theorem ZFx(o:Op)(Q:QT)(h:(iB (o.kind==3) ((Q .ret (L2 [pI 2 1] []))) ((InR (o.n+(o.l.length:Int)))/\(Q .ret (L2 [pI 2 (o.n+(o.l.length:Int))] []))))):
  ZJ5 [] (L2 [(0,.agg (enc .op o))] []) Q:=
 Eq.mpr V5 h
def Zzc(o:Op):Prop:=AW (Z2 Zmg) Tryz.f196 Ztq [] (Zi (Zp7.can (o,())) []) (EQ Tryz.f196 (Zsa (o,())) [])
theorem Zxw(hb:∀ (o:Op) (_:Unit),Z5i (o,())->Zzc o):CT 196 Z2Z:=
 Z1 (l:=[]) Zk rfl trivial Ztq Tryz.func196 rfl rfl 1 (fun _=> rfl) V2 (fun ⟨o,_⟩=> hb o ())
def Ztp:Zg U:=lvk [([0],[((.x 0),[])]),([2],[((.x 0),[])])]
abbrev ZJ4(p:List Nat):=AW (Z2 Zmg) Tryz.f197 Ztp p
theorem ZFw(l:List Op)(alone:Int)(Q:QT)(h:(Q .ret (L2 [pB 2 (((l.length:Int):Int)==0)] [(.x 0,[sU .op l .unk,ci alone])]))):
  ZJ4 [] (L2 [(0,.ptr (.x 0) 0)] [(.x 0,[sU .op l .unk,ci alone])]) Q:=
 Eq.mpr V5 h
def Zzb(l:List Op)(alone:Int):Prop:=AW (Z2 Zmg) Tryz.f197 Ztp [] (Zi (Zin.can ((l,alone,()),())) (Zin.canX ((l,alone,()),()))) (EQ Tryz.f197 (Zs9 ((l,alone,()),())) (Znp ((l,alone,()),())))
theorem Zxv(hb:∀ (l:List Op) (alone:Int) (_:Unit),Z3t ((l,alone,()),())->Zzb l alone):CT 197 Z2Y:=
 YP (l:=[]) Zk rfl trivial Ztp Tryz.func197 rfl rfl 1 (fun _=> rfl) V2 (fun ⟨⟨l,alone,_⟩,_⟩=> hb l alone ())
def Zoo:List (FuncId × Fs U):=[(197,Z2Y)]
abbrev ZJ7(p:List Nat):=AW (Z2 Zoo) Tryz.f194 Ztp p
theorem ZFz(l:List Op)(alone:Int)(Q:QT)(h:let z0:= !(decide (l.length=0));((Z3t ((l,alone,()),()))/\(Tt z0)/\(Tt z0)/\(Tt z0)/\(Tt z0)/\(z0=true->(0:Int)<=0/\0 < (l.length:Int))/\(Tt z0)/\(Tt z0)/\(Tt z0)/\(Tt z0)/\(Tt z0)/\(Tt z0)/\(Tt z0)/\(Tt z0)/\(Q .ret (L2 [(2,.c (.bool (bif z0 then (((OpOf.kind (List.getD l (Int.toNat 0) Op.nil)):Int)==alone) else false)))] [(.x 0,[sU .op l .unk,ci alone])])))):
  ZJ7 [] (L2 [(0,.ptr (.x 0) 0)] [(.x 0,[sU .op l .unk,ci alone])]) Q:=
 Eq.mpr V5 h
def Zze(l:List Op)(alone:Int):Prop:=AW (Z2 Zoo) Tryz.f194 Ztp [] (Zi (Zin.can ((l,alone,()),())) (Zin.canX ((l,alone,()),()))) (EQ Tryz.f194 (Zsb ((l,alone,()),())) (Znp ((l,alone,()),())))
theorem Zxy(ZqV:CT 197 Z2Y)(hb:∀ (l:List Op) (alone:Int) (_:Unit),Z3t ((l,alone,()),())->Zze l alone):CT 194 Z8d:=
 YP (l:=[(197,Z2Y)]) Zk rfl (⟨ZqV,trivial⟩) Ztp Tryz.func194 rfl rfl 1 (fun _=> rfl) V2 (fun ⟨⟨l,alone,_⟩,_⟩=> hb l alone ())
def Zon:List (FuncId × Fs U):=[(196,Z2Z)]
def Ztr:Zg U:=lvk [([0,1,4],[4,((.x 0),[])]),([0,1,4,5],[4,5,((.x 0),[])]),([0,1,4,5,17],[4,5,((.x 0),[])]),([4,5],[4,5,((.x 0),[])]),([4],[4,((.x 0),[])]),([0,1,4,5,6,7],[4,5,6,7,((.x 0),[])]),([0,1,4,5,6,7,31],[4,5,6,7,((.x 0),[])]),([0,4,6,7],[4,6,7,((.x 0),[])]),([0,4,6,7],[4,6,7,((.x 0),[])]),([4,6],[4,6,((.x 0),[])]),([4],[4,((.x 0),[])])]
abbrev ZJ6(p:List Nat):=AW (Z2 Zon) Tryz.f195 Ztr p
theorem ZFy(l:List Op)(alone n:Int)(Q:QT)(h:∀ d,d=(List.getD l (Int.toNat 0) Op.nil)->∀ u,u=d->∀ s,s=(d.e)->let z0:=List.drop (Int.toNat 1) l;(((0:Int)<=0/\0 < (l.length:Int))/\((Z5i (u,()))/\(iB (decide (((Z7 u):Int)<=n)) (((0:Int)<=1/\1<=(l.length:Int))/\(Q .ret (L2 [pL 4] [(.loc 4,(enc .op d)),(.x 0,[sU .op z0 .unk,ci alone])]))) ((iB (d.kind==0) ((InR (d.n - n))/\(((0:Int)<=1/\1<=(l.length:Int))/\((([(OpOf.mk d.kind (d.n - n) d.l s)]).length+z0.length)*240<=140737488355328)/\(Q .ret (L2 [pL 4] [(.loc 4,([ci d.kind,ci n,sU .tree d.l .unk]++enc .edit d.e)),(.x 0,[sU .op (([(OpOf.mk d.kind (d.n - n) d.l s)])++z0) (.own (.x 0 0)),ci alone])])))) (((0:Int)<=n/\n<=(d.l.length:Int))/\(n=n)/\((0:Int)<=n/\n<=(d.l.length:Int))/\(((0:Int)<=1/\1<=(l.length:Int))/\((([(OpOf.mk d.kind d.n (List.drop n.toNat d.l) s)]).length+z0.length)*240<=140737488355328)/\(Q .ret (L2 [pL 4] [(.loc 4,([ci d.kind,ci d.n,sU .tree (List.take n.toNat d.l) .full]++enc .edit d.e)),(.x 0,[sU .op (([(OpOf.mk d.kind d.n (List.drop n.toNat d.l) s)])++z0) (.own (.x 0 0)),ci alone])])))))))))):
  ZJ6 [] (L2 [(0,.ptr (.x 0) 0),pI 1 n] [(.x 0,[sU .op l .unk,ci alone])]) Q:=
 Eq.mpr V5 (h _ rfl _ (J5 _) _ (Z8 _))
def Zzd(l:List Op)(alone n:Int):Prop:=AW (Z2 Zon) Tryz.f195 Ztr [] (Zi (Zio.can ((l,alone,()),n,())) (Zio.canX ((l,alone,()),n,()))) (EQ Tryz.f195 (ZdR ((l,alone,()),n,())) (Z8F ((l,alone,()),n,())))
theorem Zxx(ZqW:CT 196 Z2Z)(hb:∀ (l:List Op) (alone:Int) (n:Int) (_:Unit),Z7F ((l,alone,()),n,())->Zzd l alone n):CT 195 Z8c:=
 YP (l:=[(196,Z2Z)]) Zk rfl (⟨ZqW,trivial⟩) Ztr Tryz.func195 rfl rfl 2 (fun _=> rfl) V2 (fun ⟨⟨l,alone,_⟩,n,_⟩=> hb l alone n ())
def Zop:List (FuncId × Fs U):=[(194,Z8d),(195,Z8c),(196,Z2Z),(197,Z2Y)]
def Ztt:Zg U:=lvk [([0,1],[((.x 0),[]),((.x 1),[])]),([0,1,(6,[.own .piece])],[((.x 0),[]),((.x 1),[])]),([0,1,6,7],[((.x 0),[]),((.x 1),[])]),([0,1,(6,[.own .piece])],[((.x 0),[]),((.x 1),[])]),([0,1,6,33],[((.x 0),[]),((.x 1),[])]),([0,1,(6,[.own .piece])],[((.x 0),[]),((.x 1),[])]),([0,1,6,49],[((.x 0),[]),((.x 1),[])]),([0,1,(6,[.own .piece])],[((.x 0),[]),((.x 1),[])]),([0,1,6,65],[((.x 0),[]),((.x 1),[])]),([6,76],[((.x 0),[]),((.x 1),[])]),([4,5],[((.x 0),[]),((.x 1),[])]),([4,5],[((.x 0),[]),((.x 1),[])])]
def Z2k(pl:List Op)(pa:Int)(ql:List Op)(qa:Int)(mx0_0 mx1_0:List Op)(mx1_1:Int)(d:List Piece):LSt U:=(L2 [(0,.ptr (.x 0) 0),(1,.ptr (.x 1) 0),(6,.c (sU .piece d (.own (.e 6 0))))] [(.x 0,[sU .op mx0_0 .unk,ci pa]),(.x 1,[sU .op mx1_0 .unk,ci mx1_1])])
abbrev ZFn(p:List Nat):=AW (Z2 Zop) Tryz.f187 Ztt p
theorem ZFA(pl:List Op)(pa:Int)(ql:List Op)(qa:Int)(Q:QT)(h:(Zl (ZFn [1,1,0,0]) (Z2k pl pa ql qa pl ql qa []) (xB 0 Q))):
  ZFn [] (L2 [(0,.ptr (.x 0) 0),(1,.ptr (.x 1) 0)] [(.x 0,[sU .op pl .unk,ci pa]),(.x 1,[sU .op ql .unk,ci qa])]) Q:=
 Eq.mpr V5 h
theorem Zrn(pl:List Op)(pa:Int)(ql:List Op)(qa:Int)(mx0_0 mx1_0:List Op)(mx1_1:Int)(x6:List Piece)(N0:NT)(Q:QT)(h:∀ ak,ak=(List.getD mx0_0 (Int.toNat 0) Op.nil)->∀ aj,aj=(List.getD mx1_0 (Int.toNat 0) Op.nil)->∀ af,af=(Edit.mk 0 (Tree.mk 0 [] []) (Tree.mk 0 [] []) [] [] 0 [])->∀ al,al=(List.getD (bif (!(decide (mx0_0.length=0))) then mx1_0 else mx1_0) (Int.toNat 0) Op.nil)->∀ d,d=ak->∀ ab,ab=aj->∀ s,s=al->∀ ah,ah=(ZV (mx0_0.getD 0 Op.nil) (Z7 d))->∀ ai,ai=(ZV (mx1_0.getD 0 Op.nil) (Z7 ab))->∀ u,u=(ZV (mx0_0.getD 0 Op.nil) (if ((Z7 s):Int) < (Z7 d) then (Z7 s) else (Z7 d)))->∀ aa,aa=(ZV ((bif (!(decide (mx0_0.length=0))) then mx1_0 else mx1_0).getD 0 Op.nil) (if ((Z7 s):Int) < (Z7 d) then (Z7 s) else (Z7 d)))->let z5:=Z3t ((mx0_0,pa,()),());let z4:=Piece.mk 2 (OpOf.mk 0 0 [] af) ai;let z3:=Piece.mk 1 ah (OpOf.mk 0 0 [] af);let z0:=decide (mx0_0.length=0);let z2:=bif (!z0) then mx1_1 else mx1_1;let z1:=bif (!z0) then mx1_0 else mx1_0;(Z3t ((mx0_0,pa,()),()))/\(iB (sgl pa mx0_0) (((0:Int)<=0/\0 < (mx0_0.length:Int))/\(Z5i (d,()))/\(Z7F ((mx0_0,pa,()),(Z7 d),()))/\((x6.length+([z3]).length)*488<=140737488355328)/\(N0 (Z2k pl pa ql qa (Y9 mx0_0 (Z7 d)) mx1_0 mx1_1 (x6++([z3]))))) ((Z3t ((mx1_0,mx1_1,()),()))/\(iB (sgl mx1_1 mx1_0) (((0:Int)<=0/\0 < (mx1_0.length:Int))/\(Z5i (ab,()))/\(Z7F ((mx1_0,mx1_1,()),(Z7 ab),()))/\((x6.length+([z4]).length)*488<=140737488355328)/\(N0 (Z2k pl pa ql qa mx0_0 (Y9 mx1_0 (Z7 ab)) mx1_1 (x6++([z4]))))) (z5/\(Tt (!z0))/\((!z0)=true->Z3t ((mx1_0,mx1_1,()),()))/\(z0=false->(!z0)=true)/\(iB (bif z0 then true else (decide (mx1_0.length=0))) (z5/\(Z3t ((z1,z2,()),()))/\(iB (z0 !=(decide (z1.length=0))) ((Q .ret (L2 [(4,.c (.nils)),pB 5 false] [(.x 0,[sU .op mx0_0 .unk,ci pa]),(.x 1,[sU .op z1 .unk,ci z2])]))) ((Q .ret (L2 [(4,.c (sU .piece x6 (.own (.e 4 0)))),pB 5 true] [(.x 0,[sU .op mx0_0 .unk,ci pa]),(.x 1,[sU .op z1 .unk,ci z2])]))))) (((0:Int)<=0/\0 < (mx0_0.length:Int))/\(Z5i (d,()))/\((0:Int)<=0/\0 < (z1.length:Int))/\(Z5i (s,()))/\((Z7F ((mx0_0,pa,()),(if ((Z7 s):Int) < (Z7 d) then (Z7 s) else (Z7 d)),()))/\(Z7F ((z1,z2,()),(if ((Z7 s):Int) < (Z7 d) then (Z7 s) else (Z7 d)),()))/\((x6.length+([(Piece.mk 0 u aa)]).length)*488<=140737488355328)/\(N0 (Z2k pl pa ql qa (Y9 mx0_0 (if ((Z7 s):Int) < (Z7 d) then (Z7 s) else (Z7 d))) (Y9 z1 (if ((Z7 s):Int) < (Z7 d) then (Z7 s) else (Z7 d))) z2 (x6++([(Piece.mk 0 u aa)])))))))))))):
  ZFn [1,1,0,0] (Z2k pl pa ql qa mx0_0 mx1_0 mx1_1 x6) (xT N0 (xB 0 Q)):=
 Eq.mpr V5 (h _ rfl _ rfl _ rfl _ rfl _ (J5 _) _ (J5 _) _ (J5 _) _ (J5 _) _ (J5 _) _ (J5 _) _ (J5 _))
def Zzf(pl:List Op)(pa:Int)(ql:List Op)(qa:Int):Prop:=AW (Z2 Zop) Tryz.f187 Ztt [] (Zi (Ziq.can ((pl,pa,()),(ql,qa,()),())) (Ziq.canX ((pl,pa,()),(ql,qa,()),()))) (EQ Tryz.f187 (Zho ((pl,pa,()),(ql,qa,()),())) (Zcy ((pl,pa,()),(ql,qa,()),())))
theorem Zxz(ZDc:CT 194 Z8d)(ZDb:CT 195 Z8c)(ZqW:CT 196 Z2Z)(ZqV:CT 197 Z2Y)(hb:∀ (h:List Op) (u:Int) (d:List Op) (s:Int) (_:Unit),Zhy ((h,u,()),(d,s,()),())->Zzf h u d s):CT 187 Z5X:=
 YP (l:=[(194,Z8d),(195,Z8c),(196,Z2Z),(197,Z2Y)]) Zk rfl (⟨ZDc,ZDb,ZqW,ZqV,trivial⟩) Ztt Tryz.func187 rfl rfl 2 (fun _=> rfl) V2 (fun ⟨⟨h,u,_⟩,⟨d,s,_⟩,_⟩=> hb h u d s ())
def Zoq:List (FuncId × Fs U):=[(187,Z5X)]
def Ztu:Zg U:=lvl [([0,1],[]),([4,5],[])]
abbrev ZJ8(p:List Nat):=AW (Z2 Zoq) Tryz.f168 Ztu p
theorem ZFD(p q:List Op)(Q:QT)(h:((Zhy ((p,1,()),(q,2,()),()))/\(Q .ret (L2 [(4,.c (sU .piece ((Yo 1 2 p q []).1) .unk)),pB 5 ((Yo 1 2 p q []).2.1)] [])))):
  ZJ8 [] (L2 [(0,.c (sU .op p .unk)),(1,.c (sU .op q .unk))] []) Q:=
 Eq.mpr V5 h
def Zzi(p q:List Op):Prop:=AW (Z2 Zoq) Tryz.f168 Ztu [] (Zi (Zp8.can (p,q,())) []) (EQ Tryz.f168 (Zsf (p,q,())) [])
theorem ZxB(Zv0:CT 187 Z5X)(hb:∀ (p:List Op) (q:List Op) (_:Unit),Zlm (p,q,())->Zzi p q):CT 168 Z1T:=
 Z1 (l:=[(187,Z5X)]) Zk rfl (⟨Zv0,trivial⟩) Ztu Tryz.func168 rfl rfl 2 (fun _=> rfl) V2 (fun ⟨p,q,_⟩=> hb p q ())
def Zma:List (FuncId × Fs U):=[(11,JL)]
def Zym:Zg U:=lvl [([0,1],[]),([0,1,10],[]),([4],[]),([0,1,5],[]),([0,1,5,14],[]),([0,1,5],[]),([0,1,5,26],[]),([4],[]),([4],[])]
def Z9T(a b:List Tree)(d:Int):LSt U:=(L2 [(0,.c (sU .tree a .unk)),(1,.c (sU .tree b .unk)),pI 5 d] [])
abbrev A40(p:List Nat):=AW (Z2 Zma) Tryz.f40 Zym p
abbrev S40(p:List Nat):=SW (Z2 Zma) Tryz.f40 Zym p
theorem ZId(a b:List Tree)(Q:QT)(h:(iB (((a.length:Int):Int) !=(b.length:Int)) ((Q .ret (L2 [pB 4 false] []))) ((Zl (A40 [1,1,0,1,0,0]) (Z9T a b 0) (xB 0 (S40 [1,1,1] Q)))))):
  A40 [] (L2 [(0,.c (sU .tree a .unk)),(1,.c (sU .tree b .unk))] []) Q:=
 Eq.mpr V5 h
theorem ZwM(a b:List Tree)(d:Int)(N0:NT)(Q:QT)(h:let z3:=a.getD d.toNat Tree.nil;let z2:=b.getD d.toNat Tree.nil;let z1:=Tree.mk (Tree.kind z2) (Tree.words z2) (Tree.kids z2);let z0:=Tree.mk (Tree.kind z3) (Tree.words z3) (Tree.kids z3);(iB (decide (d < (a.length:Int))) (((0:Int)<=d/\d < (a.length:Int))/\((0:Int)<=d/\d < (b.length:Int))/\(Z1y (z0,z1,()))/\(iB (!(Yd z0 z1)) ((Q .ret (L2 [pB 4 false] []))) ((InR (d+1))/\(N0 (Z9T a b (d+1)))))) ((Q .ret (L2 [pB 4 true] []))))):
  A40 [1,1,0,1,0,0] (Z9T a b d) (xT N0 (xB 0 (S40 [1,1,1] Q))):=
 Eq.mpr V5 h
def ZEX(a b:List Tree):Prop:=AW (Z2 Zma) Tryz.f40 Zym [] (Zi (Zvv.can (a,b,())) []) (EQ Tryz.f40 (ZAg (a,b,())) [])
theorem ZC8(c11:CT 11 JL)(hb:∀ (a:List Tree) (b:List Tree) (_:Unit),Zjw (a,b,())->ZEX a b):CT 40 Zdo:=
 Z1 (l:=[(11,JL)]) Zk rfl (⟨c11,trivial⟩) Zym Tryz.func40 rfl rfl 2 (fun _=> rfl) V2 (fun ⟨a,b,_⟩=> hb a b ())
def Zmn(N:Nat):List (FuncId × Fs U):=(15,fs ZmU (fun a=> [Z8P a,ZjX a < N]) Zsm) ::[(11,JL),(40,Zdo)]
def Zyz:Zg U:=lvl [([2,3],[2,3]),([2,3,64],[2,3]),([4],[]),([2,3,5],[2,3]),([2,3,5,69],[2,3]),([2,3,5],[2,3]),([2,3,5,82],[2,3]),([4],[]),([2,3,6],[2,3]),([2,3,6,87],[2,3]),([2,3,6],[2,3]),([2,3,6,118],[2,3]),([4],[]),([2,3,7],[2,3]),([2,3,7,123],[2,3]),([2,3,7],[2,3]),([2,3,7,8,9],[2,3,8,9]),([2,3,7,163],[2,3]),([4],[]),([4],[])]
def Zac(a b:Edit)(d:Int):LSt U:=(L2 [pL 2,pL 3,pI 5 d] [(.loc 2,(enc .edit a)),(.loc 3,(enc .edit b))])
def Zab(a b:Edit)(d:Int):LSt U:=(L2 [pL 2,pL 3,pI 6 d] [(.loc 2,(enc .edit a)),(.loc 3,(enc .edit b))])
def Zaa(a b:Edit)(d:Int):LSt U:=(L2 [pL 2,pL 3,pI 7 d] [(.loc 2,(enc .edit a)),(.loc 3,(enc .edit b))])
abbrev A15(N:Nat)(p:List Nat):=AW (Z2 (Zmn N)) Tryz.f15 Zyz p
abbrev S15(N:Nat)(p:List Nat):=SW (Z2 (Zmn N)) Tryz.f15 Zyz p
theorem ZIy(N:Nat)(a b:Edit)(Q:QT)(h:∀ u,u=(a.new)->∀ d,d=(b.new)->∀ aa,aa=(a.old)->∀ s,s=(b.old)->let z5:=a.kind !=b.kind;let z3:=bif z5 then true else (a.list !=b.list);let z1:=bif z3 then true else (!(Yd aa s));let z4:=bif z1 then true else (!(Yd u d));let z0:=bif z4 then true else (((a.words.length:Int):Int) !=(b.words.length:Int));let z2:=bif z0 then true else (((a.kids.length:Int):Int) !=(b.kids.length:Int));((Tt (!z5))/\(Tt (!z5))/\(Tt (!z5))/\(Tt (!z5))/\(z5=false->(!z5)=true)/\(Tt (!z3))/\(Tt (!z3))/\(Tt (!z3))/\(Tt (!z3))/\((!z3)=true->Z1y (aa,s,()))/\(Tt (!z3))/\(z3=false->(!z3)=true)/\(Tt (!z1))/\(Tt (!z1))/\(Tt (!z1))/\(Tt (!z1))/\((!z1)=true->Z1y (u,d,()))/\(Tt (!z1))/\(z1=false->(!z1)=true)/\(Tt (!z4))/\(Tt (!z4))/\(Tt (!z4))/\(Tt (!z4))/\(Tt (!z4))/\(Tt (!z4))/\(z4=false->(!z4)=true)/\(Tt (!z0))/\(Tt (!z0))/\(Tt (!z0))/\(Tt (!z0))/\(Tt (!z0))/\(Tt (!z0))/\(z0=false->(!z0)=true)/\(Tt (!z2))/\(Tt (!z2))/\(Tt (!z2))/\(Tt (!z2))/\(Tt (!z2))/\(Tt (!z2))/\(z2=false->(!z2)=true)/\(iB (bif z2 then true else (((a.ops.length:Int):Int) !=(b.ops.length:Int))) ((Q .ret (L2 [pB 4 false] []))) ((Zl (A15 N [1,1,0,1,0,0]) (Zac a b 0) (xB 0 (S15 N [1,1,1] Q))))))):
  A15 N [] (L2 [(0,.agg (enc .edit a)),(1,.agg (enc .edit b))] []) Q:=
 Eq.mpr V5 (h _ (Z0 _) _ (Z0 _) _ (Z0 _) _ (Z0 _))
theorem Zx6(N:Nat)(a b:Edit)(d:Int)(N0:NT)(Q:QT)(h:let z1:=b.words.getD d.toNat (WEdit.mk 0 0 0 0);let z0:=a.words.getD d.toNat (WEdit.mk 0 0 0 0);(iB (decide (d < (a.words.length:Int))) (((0:Int)<=d/\d < (a.words.length:Int))/\((0:Int)<=d/\d < (b.words.length:Int))/\(iB (!((((WEdit.at_ z0):Int)==(WEdit.at_ z1)) && ((((WEdit.mask z0):Int)==(WEdit.mask z1)) && ((((WEdit.old z0):Int)==(WEdit.old z1)) && ((((WEdit.new z0):Int)==(WEdit.new z1)) && true))))) ((Q .ret (L2 [pB 4 false] []))) ((InR (d+1))/\(N0 (Zac a b (d+1)))))) ((Zl (A15 N [1,1,1,0,1,0,0]) (Zab a b 0) (xB 2 (S15 N [1,1,1,1] Q)))))):
  A15 N [1,1,0,1,0,0] (Zac a b d) (xT N0 (xB 0 (S15 N [1,1,1] Q))):=
 Eq.mpr V5 h
theorem Zx5(N:Nat)(a b:Edit)(d:Int)(N1:NT)(Q:QT)(h:∀ ab,ab=(a.kids.getD d.toNat (KidOf.mk 0 Edit.nil))->∀ aa,aa=(b.kids.getD d.toNat (KidOf.mk 0 Edit.nil))->∀ s,s=(ab.e)->∀ u,u=(aa.e)->let z1:=ab.at_ !=aa.at_;let z0:= !z1;(iB (decide (d < (a.kids.length:Int))) (((0:Int)<=d/\d < (a.kids.length:Int))/\((0:Int)<=d/\d < (b.kids.length:Int))/\(Tt z0)/\(Tt z0)/\(Tt z0)/\(z0=true->(0:Int)<=d/\d < (a.kids.length:Int))/\(Tt z0)/\(Tt z0)/\(Tt z0)/\(Tt z0)/\(Tt z0)/\(z0=true->(0:Int)<=d/\d < (b.kids.length:Int))/\(Tt z0)/\(Tt z0)/\(Tt z0)/\(Tt z0)/\(z0=true->Z8P (s,u,()))/\(z0=true->ZjX (s,u,()) < N)/\(Tt z0)/\(z1=false->z0=true)/\(iB (bif z1 then true else (!(eqX s u))) ((Q .ret (L2 [pB 4 false] []))) ((InR (d+1))/\(N1 (Zab a b (d+1)))))) ((Zl (A15 N [1,1,1,1,0,1,0,0]) (Zaa a b 0) (xB 4 (S15 N [1,1,1,1,1] Q)))))):
  A15 N [1,1,1,0,1,0,0] (Zab a b d) (xT N1 (xB 2 (S15 N [1,1,1,1] Q))):=
 Eq.mpr V5 (h _ rfl _ rfl _ (Z8 _) _ (Z8 _))
theorem Zx4(N:Nat)(a b:Edit)(d:Int)(N2:NT)(Q:QT)(h:∀ u,u=(a.ops.getD d.toNat Op.nil)->∀ s,s=(b.ops.getD d.toNat Op.nil)->∀ aa,aa=(u.e)->∀ ab,ab=(s.e)->let z2:=u.kind !=s.kind;let z0:=bif z2 then true else (u.n !=s.n);let z1:=bif z0 then true else (!(eqX u.l s.l));(iB (decide (d < (a.ops.length:Int))) (((0:Int)<=d/\d < (a.ops.length:Int))/\((0:Int)<=d/\d < (b.ops.length:Int))/\((Tt (!z2))/\(Tt (!z2))/\(Tt (!z2))/\(Tt (!z2))/\(z2=false->(!z2)=true)/\(Tt (!z0))/\(Tt (!z0))/\(Tt (!z0))/\(Tt (!z0))/\((!z0)=true->Zjw (u.l,s.l,()))/\(Tt (!z0))/\(z0=false->(!z0)=true)/\(Tt (!z1))/\(Tt (!z1))/\(Tt (!z1))/\(Tt (!z1))/\((!z1)=true->Z8P (aa,ab,()))/\((!z1)=true->ZjX (aa,ab,()) < N)/\(Tt (!z1))/\(z1=false->(!z1)=true)/\(iB (bif z1 then true else (!(eqX aa ab))) ((Q .ret (L2 [pB 4 false] []))) ((InR (d+1))/\(N2 (Zaa a b (d+1))))))) ((Q .ret (L2 [pB 4 true] []))))):
  A15 N [1,1,1,1,0,1,0,0] (Zaa a b d) (xT N2 (xB 4 (S15 N [1,1,1,1,1] Q))):=
 Eq.mpr V5 (h _ rfl _ rfl _ (Z8 _) _ (Z8 _))
def ZFi(N:Nat)(a b:Edit):Prop:=AW (Z2 (Zmn N)) Tryz.f15 Zyz [] (Zi (ZmU.can (a,b,())) []) (EQ Tryz.f15 (Zsm (a,b,())) [])
theorem ZCr(c11:CT 11 JL)(c40:CT 40 Zdo)(hb:∀ (N:Nat) (a:Edit) (b:Edit) (_:Unit),Z8P (a,b,())->ZjX (a,b,()) < N+1->ZFi N a b):CT 15 Zdw:=
 Y8 (μ:=ZjX) (l:=[(11,JL),(40,Zdo)]) Zk rfl (⟨c11,c40,trivial⟩) Zyz Tryz.func15 rfl rfl 2 (fun _=> rfl) V2 (fun N ⟨a,b,_⟩=> hb N a b ())
end
theorem Zt5{o:Op}(h:Zx o<=20000000000):o.l.length<=20000000000:=by
 have:=Zs o.l
 rw [ZG] at h
 omega
theorem ZaL{o:Op}(h:YT o):0<=o.n/\o.n<=1048576:=by
 unfold YT at h
 omega
theorem YN(o:Op):Z7 o=if o.kind=3 then 1 else o.n+o.l.length:=rfl
theorem ZqW:Contract Tryz.prog cfg 196 Z2Z:=by
 refine Zxw ?_
 intro o _ h
 simp only [Z5i] at h
 have hl:=Zt5 h.1
 refine ZFx _ _ ?_;(try simp only [iB,vcT,forall_eq])
 (simp only [iB,vcS]);(try simp only [iB,vcT])
 exact ⟨fun d=> Y3 rfl (by rw [YN,if_pos d]),fun d=> ⟨V4,Y3 rfl (by rw [YN,if_neg d])⟩⟩
theorem ZqV:Contract Tryz.prog cfg 197 Z2Y:=by
 refine Zxv ?_
 intro l d _ h
 refine ZFw _ _ _ ?_;(try simp only [iB,vcT,forall_eq])
 have e:((l.length:Int)==0)=decide (l.length=0):=by rw [Qn];(simp only [iB,vcS]);omega
 rw [e]
 exact V1
theorem ZDc:Contract Tryz.prog cfg 194 Z8d:=by
 refine Zxy ZqV ?_
 intro l d _ s
 refine ZFz _ _ _ ?_;(try simp only [iB,vcT,forall_eq])
 have e:(bif (!(decide (l.length=0))) then ((OpOf.kind (List.getD l (Int.toNat 0) Op.nil))==d) else false)=sgl d l:=by
  rw [Qn]
  simp only [sgl]
  (simp only [iB,vcS])
  try rfl
 rw [e]
 refine ⟨s,fun h=> ⟨V0,?_⟩,V1⟩
 grind
theorem ZDe(Zv0:Contract Tryz.prog cfg 187 Z5X):Contract Tryz.prog cfg 168 Z1T:=by
 refine ZxB Zv0 ?_
 intro p q _ d
 refine ZFD _ _ _ ?_;(try simp only [iB,vcT,forall_eq])
 refine ⟨d,?_⟩
 exact V1
theorem ZDb:Contract Tryz.prog cfg 195 Z8c:=by
 refine Zxx ZqW ?_
 intro l al n _ hp
 simp only [Z7F] at hp
 obtain ⟨⟨ho,hm⟩,hl,h1,h2⟩:=hp
 have d:=Zb (l:=l) (i:=0) V0 Op.nil
 have s:=ho _ d
 have ah:=ZL d
 have af:=ZM l
 refine ZFy _ _ _ _ ?_;(try simp only [iB,vcT])
 rintro y rfl _ rfl _ rfl
 have e0:(Int.toNat 0)=0:=rfl
 have e1:(Int.toNat 1)=1:=rfl
 simp only [e0,e1]
 have hT:∀ o r,ZV (l.getD 0 Op.nil) n=o->Y9 l n=r->True:=fun _ _ _ _=> trivial
 have ab:=ZaL s
 have aj:=YN (l.getD 0 Op.nil)
 (simp only [iB,vcS])
 generalize hy:l.getD 0 Op.nil=y at*
 refine ⟨⟨V0,V0⟩,⟨by grind,ab⟩,fun hc=> ⟨⟨V0,V0⟩,?_⟩,fun hc=> ⟨fun h=> ⟨V4,⟨V0,V0⟩,by simp;omega,?_⟩,fun h=> ?_⟩⟩
 .have t1:ZV y n=y:=by rw [ZV,if_pos hc]
  have u:Y9 l n=l.drop 1:=by rw [Y9,hy,if_pos hc]
  simp only [ZdR,Z8F,hy,t1,u]
  exact V1
 .have t1:ZV y n=⟨y.kind,n,y.l,y.e⟩:=by rw [ZV,if_neg hc,if_pos h]
  have u:Y9 l n=⟨y.kind,y.n - n,y.l,y.e⟩ ::l.drop 1:=by rw [Y9,hy,if_neg hc,JY,if_pos h]
  simp only [ZdR,Z8F,hy,t1,u]
  exact V1
 .have t1:ZV y n=⟨y.kind,y.n,y.l.take n.toNat,y.e⟩:=by rw [ZV,if_neg hc,if_neg h]
  have u:Y9 l n=⟨y.kind,y.n,y.l.drop n.toNat,y.e⟩ ::l.drop 1:=by rw [Y9,hy,if_neg hc,JY,if_neg h]
  simp only [ZdR,Z8F,hy,t1,u]
  unfold YT at s
  refine ⟨?_,?_,⟨V0,V0⟩,by simp;omega,?_⟩
  .omega
  .omega
  ·exact V1
theorem Z2G(n:Nat):∀ (l:List Tree),Ze (l.drop n)<=Ze l:=by
 induction n with
 | zero=> intro l;simp
 | succ n ih=>
  intro l
  cases l with
  | nil=> simp
  | cons t r=> simp only [QJ,Ze];grind
theorem ZeI(n:Nat):∀ (l:List Tree),Ze (l.take n)<=Ze l:=by
 induction n with
 | zero=> intro l;simp [Ze]
 | succ n ih=>
  intro l
  cases l with
  | nil=> simp
  | cons t r=> simp only [List.take_succ_cons,Ze];grind
theorem Ji{o:Op}(h:YT o):1<=Z7 o:=by
 have:=YN o
 unfold YT at h
 have hl:o.l≠[]->0 < o.l.length:=List.length_pos_iff.2
 grind
theorem Z8V{o:Op}(h:YT o)(hm:Zx o<=20000000000):Z7 o<=20000000000:=by
 have:=YN o
 have:=Zt5 hm
 have:=ZaL h
 unfold YT at h
 grind
theorem Z3d(o:Op)(r:List Op):Zj (o ::r)=Zx o+Zj r:=rfl
theorem Z6h{l:List Op}(h:ZaP l):ZaP (l.drop 1):=by
 cases l with
 | nil=> exact h
 | cons o r=>
  obtain ⟨s,u⟩:=h
  rw [Z3d] at u
  exact ⟨fun x d=> s x (Q1 _ d),by grind⟩
theorem ZaO{l:List Op}(h:ZaP l)(hl:l.length≠0):YT (l.getD 0 Op.nil)/\Zx (l.getD 0 Op.nil)<=20000000000/\Zx (l.getD 0 Op.nil)<=Zj l:=by
 have d:=Zb (l:=l) (i:=0) V0 Op.nil
 have:=ZL d
 exact ⟨h.1 _ d,by have:=h.2;omega,this⟩
theorem Zfi{o:Op}{n:Int}(h:YT o)(h1:1<=n)(h2:¬Z7 o<=n):YT (JY o n)/\Zx (JY o n)<=Zx o:=by
 have hl:=YN o
 unfold JY
 unfold YT at*
 by_cases hk:o.kind=0
 .rw [if_pos hk]
  refine ⟨Or.inl ?_,by simp only [ZG];omega⟩
  grind
 .rw [if_neg hk]
  have:=Z2G n.toNat o.l
  refine ⟨Or.inr ?_,by simp only [ZG];omega⟩
  rcases h with h | h | h
  .omega
  .obtain ⟨a,b,c,d⟩:=h
   rw [JC] at hl
   refine Or.inl ⟨a,b,?_,d⟩
   intro s
   have:=congrArg List.length s
   grind
  omega
theorem Zep{l:List Op}{n:Int}(h:ZaP l)(hl:l.length≠0)(h1:1<=n):ZaP (Y9 l n):=by
 unfold Y9
 split
 .exact Z6h h
 .rename_i hc
  obtain ⟨a,b,c⟩:=ZaO h hl
  obtain ⟨d,e⟩:=Zfi a h1 hc
  have u:=Z6h h
  refine ⟨fun x s=> ?_,?_⟩
  .rcases Q7.1 s with rfl | s
   .exact d
   .exact u.1 _ s
  .rw [Z3d]
   obtain _ | ⟨o,r⟩:=l
   .simp at hl
   .have:=h.2
    rw [Z3d] at this
    grind
theorem ZfT(l:List Op):Y9 l (Z7 (l.getD 0 Op.nil))=l.drop 1:=by rw [Y9,if_pos (Xq _)]
theorem ZfU(o:Op):ZV o (Z7 o)=o:=by rw [ZV,if_pos (Xq _)]
theorem Zni{a:Int}{l:List Op}(h:sgl a l=true):l.length≠0:=(of_decide_eq_true h).1
theorem ZfG{α:Type}(b:Bool)(x:α):(bif b then x else x)=x:=by grind
theorem Zv0:Contract Tryz.prog cfg 187 Z5X:=by
 refine Zxz ZDc ZDb ZqW ZqV ?_
 intro pl pa ql qa _ hp
 simp only [Zhy] at hp
 have bj:=ZM pl
 have bg:=ZM ql
 have hP:=hp.1.2
 have hQ:=hp.2.2
 refine ZFA _ _ _ _ _ ?_;(try simp only [iB,vcT,forall_eq])
 refine Z4 (ι:=List Op × List Op × List Piece) (fun s=> Z2k pl pa ql qa s.1 s.2.1 qa s.2.2) (fun s=> ZaP s.1/\ZaP s.2.1/\s.2.2.length+s.1.length+s.2.1.length<=40000000000/\Yo pa qa s.1 s.2.1 s.2.2=Yo pa qa pl ql []) (fun s=> s.1.length+s.2.1.length) (pl,ql,[]) rfl ⟨hp.1,hp.2,by simp;omega,rfl⟩ ?_
 rintro ⟨p,q,out⟩ ⟨h1,h2,h3,d⟩
 refine Zrn _ _ _ _ _ _ _ _ _ _ ?_;(try simp only [iB,vcT])
 have e0:(Int.toNat 0)=0:=rfl
 simp only [e0,ZfG]
 dsimp only at h1 h2 h3 d
 rintro z1 aj z2 af y3 ba z4 a5 u rfl y2 rfl y4 rfl y8 av y9 au a8 ae a7 ah
 have ey:y4=y2:=a5.trans af.symm
 rw [ey] at ae ah ⊢
 have e3:(OpOf.mk 0 0 [] y3:Op)=Op.nil:=by rw [ba];try rfl
 rw [<-aj,ZfU] at av
 rw [<-af,ZfU] at au
 have ab:∀ a b:Int,(if a < b then a else b)=min b a:=by intro a b;omega
 rw [<-aj,ab] at ae
 rw [<-af,ab] at ah
 simp only [ab,e3,av,au]
 (simp only [iB,vcS])
 have o1:p.length≠0->YT u/\Zx u<=20000000000:=fun h=> by have:=ZaO h1 h;grind
 have o2:q.length≠0->YT y2/\Zx y2<=20000000000:=fun h=> by have:=ZaO h2 h;grind
 have tp:Y9 p (Z7 u)=p.drop 1:=by rw [aj];exact ZfT p
 have tq:Y9 q (Z7 y2)=q.drop 1:=by rw [af];exact ZfT q
 have bm:=ZM p
 have bi:=ZM q
 have bh:=h1.2
 have bf:=h2.2
 rw [Yo] at d
 rw [<-aj,<-af] at d
 refine ⟨by simp only [Z3t];omega,fun hs=> ?_,fun hs=> ?_⟩
 .have hl:=Zni hs
  obtain ⟨oa,ob⟩:=o1 hl
  have oc:=Ji oa
  have od:=Z8V oa ob
  rw [dif_pos hs] at d
  refine ⟨⟨V0,V0⟩,⟨ob,ZaL oa⟩,⟨h1,hl,oc,by grind⟩,by simp;omega,(p.drop 1,q,out++[⟨1,u,Op.nil⟩]),by rw [tp],⟨Z6h h1,h2,by simp;omega,d⟩,by simp;omega⟩
 .rw [dif_neg (by grind)] at d
  refine ⟨by simp only [Z3t];omega,fun ao=> ?_,fun ao=> ?_⟩
  .have hl:=Zni ao
   obtain ⟨oa,ob⟩:=o2 hl
   have oc:=Ji oa
   have od:=Z8V oa ob
   rw [dif_pos ao] at d
   refine ⟨⟨V0,V0⟩,⟨ob,ZaL oa⟩,⟨h2,hl,oc,by grind⟩,by simp;omega,(p,q.drop 1,out++[⟨2,Op.nil,y2⟩]),by rw [tq],⟨h1,Z6h h2,by simp;omega,d⟩,by simp;omega⟩
  .rw [dif_neg (by grind)] at d
   refine ⟨by simp only [Z3t];omega,fun _=> by simp only [Z3t];omega,fun h=> h,fun hd=> ⟨by simp only [Z3t];omega,by simp only [Z3t];omega,fun he=> ?_,fun he=> ?_⟩,fun hd=> ?_⟩
   .rw [dif_pos hd,if_neg he] at d
    simp only [Zho,Zcy,<-d]
    exact V1
   .rw [dif_pos hd,if_pos he] at d
    simp only [Zho,Zcy,<-d]
    exact V1
   .obtain ⟨oa,ob⟩:=o1 hd.1
    obtain ⟨oc,od⟩:=o2 hd.2
    have a1:=Ji oa
    have a2:=Z8V oa ob
    have a3:=Ji oc
    have a4:=Z8V oc od
    rw [dif_neg V0,<-ae,<-ah] at d
    have c1:=J3 p (min (Z7 u) (Z7 y2)) hd.1
    have c2:=J3 q (min (Z7 u) (Z7 y2)) hd.2
    have c3:Z7 u<=min (Z7 u) (Z7 y2)->(Y9 p (min (Z7 u) (Z7 y2))).length < p.length:=fun h=> J2 p _ hd.1 (by grind)
    have c4:Z7 y2<=min (Z7 u) (Z7 y2)->(Y9 q (min (Z7 u) (Z7 y2))).length < q.length:=fun h=> J2 q _ hd.2 (by grind)
    refine ⟨⟨V0,V0⟩,⟨ob,ZaL oa⟩,⟨V0,V0⟩,⟨od,ZaL oc⟩,⟨h1,hd.1,by grind,by grind⟩,⟨h2,hd.2,by grind,by grind⟩,by simp;omega,
     (Y9 p (min (Z7 u) (Z7 y2)),Y9 q (min (Z7 u) (Z7 y2)),out++[⟨0,a8,a7⟩]),rfl,⟨Zep h1 hd.1 V0,Zep h2 hd.2 V0,by simp;omega,d⟩,by grind⟩
theorem Z3A{α:Type}{a b:α}(h:¬a=b):eqX a b=false:=by rw [<-K3,Z0r];exact h
theorem Z21{α:Type}(d:α){a b:List α}(hl:a.length=b.length)(h:∀ i:Nat,i < a.length->a.getD i d=b.getD i d):a=b:=by
 apply K1 hl
 grind
theorem c40:Contract Tryz.prog cfg 40 Zdo:=by
 refine ZC8 c11 ?_
 intro a b _ hp
 simp only [Zjw] at hp
 refine ZId _ _ _ ?_;(try simp only [iB,vcT,forall_eq])
 (simp only [iB,vcS]);(try simp only [iB,vcT])
 refine ⟨fun hc=> Z5 rfl (Z3A (a:=a) (b:=b) (fun h=> hc (by rw [h]))).symm,fun hc=> ?_⟩
 have hl:a.length=b.length:=V0
 have af:=Zs a
 refine Z4 (ι:=Int) (fun i=> Z9T a b i) (fun i=> 0<=i/\i<=a.length/\∀ j:Nat,(j:Int) < i->a.getD j Tree.nil=b.getD j Tree.nil) (fun i=> ((a.length:Int) - i).toNat) 0 rfl ⟨V0,V0,V0⟩ ?_
 rintro i ⟨h1,h2,u⟩
 refine ZwM _ _ _ _ _ ?_;(try simp only [iB,vcT,forall_eq])
 (simp only [iB,vcS]);(try simp only [iB,vcT])
 try (simp only [vE])
 refine ⟨fun s=> ⟨⟨h1,s⟩,⟨h1,V0⟩,?_,fun d=> ?_,fun d=> ⟨V4,i+1,rfl,⟨V0,V0,?_⟩,V0⟩⟩,fun s=> ?_⟩
 .have:=Y2 (Zb (l:=a) (i:=i.toNat) V0 Tree.nil)
  simp only [Z1y];omega
 .refine Z5 rfl (Z3A (a:=a) (b:=b) (fun h=> ?_)).symm
  rw [h,Yy] at d
  exact d rfl
 .intro j hj
  by_cases hj2:(j:Int) < i
  .exact u j hj2
  .rw [Yh,show i.toNat=j by omega] at d
   exact d
 .refine Z5 rfl (Z0r (a:=a) (b:=b).2 (Z21 Tree.nil hl (fun j hj=> u j V0))).symm
theorem ZuO{a b:Edit}(h1:a.kind=b.kind)(h2:a.old=b.old)(h3:a.new=b.new)(h4:a.words=b.words)(h5:a.kids=b.kids)(h6:a.list=b.list)(h7:a.ops=b.ops):a=b:=by
 cases a;cases b;simp_all
theorem ZyF{a b:Kid}(h1:a.at_=b.at_)(h2:a.e=b.e):a=b:=by cases a;cases b;simp_all
theorem ZBy{a b:Op}(h1:a.kind=b.kind)(h2:a.n=b.n)(h3:a.l=b.l)(h4:a.e=b.e):a=b:=by cases a;cases b;simp_all
theorem ZpI{a b:WEdit}(h1:a.at_=b.at_)(h2:a.mask=b.mask)(h3:a.old=b.old)(h4:a.new=b.new):a=b:=by cases a;cases b;simp_all
theorem c15:Contract Tryz.prog cfg 15 Zdw:=by
 refine ZCr c11 c40 ?_
 intro N a b _ hp hN
 simp only [Z8P,ZjX] at hp hN
 have a6:=ZY a
 have aw:=ZW a.kids
 have a2:=ZM a.ops
 have a1:∀ {P:Prop},(a=b->P)->¬P->eqX a b=false:=fun h1 h2=> Z3A (fun h=> h2 (h1 h))
 refine ZIy N a b _ ?_;(try simp only [iB,vcT])
 rintro y1 rfl y2 rfl y3 rfl y4 rfl
 (simp only [iB,vcS]);(try simp only [iB,vcT])
 refine ⟨fun _=> ?_,fun _=> ?_,fun hc=> ?_,fun hc=> ?_⟩
 .simp only [Z1y];omega
 .simp only [Z1y];omega
 .refine Z5 rfl (Z3A (a:=a) (b:=b) (fun h=> ?_)).symm
  rw [h] at hc
  simp only [Yy] at hc
  simp at hc
 .simp only [Yh,Classical.not_not] at hc
  obtain ⟨⟨⟨⟨⟨⟨h1,h2⟩,h3⟩,h4⟩,h5⟩,h6⟩,h7⟩:=hc
  refine Z4 (ι:=Int) (fun i=> Zac a b i) (fun i=> 0<=i/\i<=a.words.length/\∀ j:Nat,(j:Int) < i->a.words.getD j (WEdit.mk 0 0 0 0)=b.words.getD j (WEdit.mk 0 0 0 0)) (fun i=> ((a.words.length:Int) - i).toNat) 0 rfl ⟨V0,V0,V0⟩ ?_
  rintro i ⟨g1,g2,g3⟩
  refine Zx6 _ _ _ _ _ _ ?_;(try simp only [iB,vcT,forall_eq])
  (simp only [iB,vcS]);(try simp only [iB,vcT])
  try simp only [and_true]
  refine ⟨fun hi=> ⟨⟨g1,hi⟩,⟨g1,V0⟩,fun u=> ?_,fun u=> ⟨V4,i+1,rfl,⟨V0,V0,?_⟩,V0⟩⟩,fun hi=> ?_⟩
  .refine Z5 rfl (Z3A (a:=a) (b:=b) (fun h=> ?_)).symm
   grind
  .intro j hj
   by_cases hj2:(j:Int) < i
   .exact g3 j hj2
   .rw [show i.toNat=j by omega] at u
    exact ZpI u.1 u.2.1 u.2.2.1 u.2.2.2
  .have hw:a.words=b.words:=Z21 (WEdit.mk 0 0 0 0) V0 (fun j hj=> g3 j V0)
   refine Z4 (ι:=Int) (fun i=> Zab a b i) (fun i=> 0<=i/\i<=a.kids.length/\∀ j:Nat,(j:Int) < i->a.kids.getD j (KidOf.mk 0 Edit.nil)=b.kids.getD j (KidOf.mk 0 Edit.nil)) (fun i=> ((a.kids.length:Int) - i).toNat) 0 rfl ⟨V0,V0,V0⟩ ?_
   rintro i ⟨g1,g2,g3⟩
   refine Zx5 _ _ _ _ _ _ ?_;(try simp only [iB,vcT])
   rintro y1 d y2 ah y3 s y4 af
   (simp only [iB,vcS]);(try simp only [iB,vcT])
   refine ⟨fun hi=> ⟨⟨g1,hi⟩,⟨g1,V0⟩,fun _=> ⟨g1,hi⟩,fun _=> ⟨g1,V0⟩,fun _=> ?_,fun _=> ?_,fun u=> ?_,fun u=> ⟨V4,i+1,rfl,⟨V0,V0,?_⟩,V0⟩⟩,fun hi=> ?_⟩
   .have:=YE (Zb (l:=a.kids) (i:=i.toNat) V0 (KidOf.mk 0 Edit.nil))
    rw [<-d,<-s] at this
    simp only [Z8P];omega
   .have:=YE (Zb (l:=a.kids) (i:=i.toNat) V0 (KidOf.mk 0 Edit.nil))
    rw [<-d,<-s] at this
    simp only [ZjX];omega
   .refine Z5 rfl (Z3A (a:=a) (b:=b) (fun h=> ?_)).symm
    simp_all
   .intro j hj
    by_cases hj2:(j:Int) < i
    .exact g3 j hj2
    .rw [Z0r,s,af,d,ah,show i.toNat=j by omega] at u
     exact ZyF V0 u.2
   .have hk:a.kids=b.kids:=Z21 (KidOf.mk 0 Edit.nil) V0 (fun j hj=> g3 j V0)
    refine Z4 (ι:=Int) (fun i=> Zaa a b i) (fun i=> 0<=i/\i<=a.ops.length/\∀ j:Nat,(j:Int) < i->a.ops.getD j Op.nil=b.ops.getD j Op.nil) (fun i=> ((a.ops.length:Int) - i).toNat) 0 rfl ⟨V0,V0,V0⟩ ?_
    rintro i ⟨g1,g2,g3⟩
    refine Zx4 _ _ _ _ _ _ ?_;(try simp only [iB,vcT])
    rintro y1 d y2 ah y3 s y4 af
    (simp only [iB,vcS]);(try simp only [iB,vcT])
    refine ⟨fun hi=> ⟨⟨g1,hi⟩,⟨g1,V0⟩,fun _=> ?_,fun _=> ?_,fun _=> ?_,fun u=> ?_,fun u=> ⟨V4,i+1,rfl,⟨V0,V0,?_⟩,V0⟩⟩,fun hi=> ?_⟩
    .have:=ZL (Zb (l:=a.ops) (i:=i.toNat) V0 Op.nil)
     rw [<-d,ZG] at this
     simp only [Zjw];omega
    .have:=ZL (Zb (l:=a.ops) (i:=i.toNat) V0 Op.nil)
     rw [<-d,ZG,<-s] at this
     simp only [Z8P];omega
    .have:=ZL (Zb (l:=a.ops) (i:=i.toNat) V0 Op.nil)
     rw [<-d,ZG,<-s] at this
     simp only [ZjX];omega
    .refine Z5 rfl (Z3A (a:=a) (b:=b) (fun h=> ?_)).symm
     simp_all
    .intro j hj
     by_cases hj2:(j:Int) < i
     .exact g3 j hj2
     .rw [Z0r,Z0r,s,af,d,ah,show i.toNat=j by omega] at u
      obtain ⟨⟨⟨q1,q2⟩,q3⟩,q4⟩:=u
      exact ZBy (by simpa using q1) (by simpa using q2) q3 q4
    .have ho:a.ops=b.ops:=Z21 Op.nil V0 (fun j hj=> g3 j V0)
     exact Z5 rfl (Z0r (a:=a) (b:=b).2 (ZuO h1 h3 h4 hw hk h2 ho)).symm
def vu(u:AUnit):Op × Bool:=(opU u,u.alone)
def vs(a:Int)(o:Op):List (Op × Bool):=(Zcu 0 a o).map vu
theorem Z87{a n:Int}{o:Op}(h:YT o)(h1:1<=n)(hn:¬Z7 o<=n):vs a o=vs a (ZV o n)++vs a (JY o n)/\YT (ZV o n)/\Z7 (ZV o n)=n/\Zx (ZV o n)<=Zx o:=by
 have hl:=YN o
 rcases h with ⟨k0,k1,k2,k3⟩ | ⟨k0,k1,k2,k3⟩ | ⟨k0,k1,k2⟩
 .have e1:ZV o n=⟨o.kind,n,o.l,o.e⟩:=by rw [ZV,if_neg hn,if_pos k0]
  have e2:JY o n=⟨o.kind,o.n - n,o.l,o.e⟩:=by rw [JY,if_pos k0]
  rw [JC,k1] at hl
  simp only [Qj] at hl
  rw [e1,e2]
  refine ⟨?_,Or.inl ⟨k0,k1,by grind,k3⟩,?_,by simp [ZG]⟩
  .simp only [vs,Zcu,k0,k1]
   simp only [if_true,Xe,QI,List.map_append,List.map_replicate]
   rw [if_neg V2]
   simp only [Xe,Qr]
   rw [List.replicate_append_replicate]
   grind
  .rw [YN]
   grind
 .have e1:ZV o n=⟨o.kind,o.n,o.l.take n.toNat,o.e⟩:=by rw [ZV,if_neg hn,JC]
  have e2:JY o n=⟨o.kind,o.n,o.l.drop n.toNat,o.e⟩:=by rw [JY,JC]
  rw [JC] at hl
  have s:=ZeI n.toNat o.l
  rw [e1,e2]
  refine ⟨?_,Or.inr (Or.inl ⟨k0,k1,?_,k3⟩),?_,by simp only [ZG];omega⟩
  .simp only [vs,Zcu]
   rw [JC,JC]
   simp_all
  .intro d
   have:=congrArg List.length d
   grind
  .rw [YN]
   grind
 omega
theorem Z32{a:Int}{l:List Op}:sgl a l=true↔(l.length≠0/\(l.getD 0 Op.nil).kind=a):=by unfold sgl;grind
theorem Z4l(o:Op)(n:Int):(ZV o n).kind=o.kind:=by
 unfold ZV;grind
theorem ZjO{t:Tree}(h:Ys t=true):t=Tree.nil:=by
 obtain ⟨k,w,ks⟩:=t
 have:=of_decide_eq_true h
 simp at this
 obtain ⟨rfl,rfl,rfl⟩:=this
 try rfl
theorem ZfW{e:Edit}(h:Z14 e=true):e=Edit.nil:=by
 obtain ⟨h1,s,h3,u,d,h6,h7⟩:=ZiT h
 obtain ⟨k,o,n,w,ks,l,os⟩:=e
 simp at h1 s h3 u d h6 h7
 subst h1 u d h6 h7
 rw [ZjO s,ZjO h3]
 try rfl
theorem Z7x{list:Int}{o:Op}{d:Int}(h:Zf list o d=true):YT o:=by
 rw [Js] at h
 unfold YT
 split at h
 .rename_i s
  simp only [Q0,decide_eq_true_eq] at h
  exact Or.inl ⟨s,Qs.1 h.1.2.2,⟨h.1.1,h.1.2.1⟩,ZfW h.2⟩
 .split at h
  .cases h
  .rename_i s u
   split at h
   .simp only [Q0,decide_eq_true_eq] at h
    refine Or.inr (Or.inl ⟨V0,V0,?_,ZfW h.2⟩)
    grind
   grind
end Go.AM.YtfapacabjkhepaaGreat
namespace Go.AM
def Z5D(list:Int)(e:Edit):Bool:=decide (e.kind=0\/(list=9/\e.kind=2/\e.words.length=0/\e.kids.length=0))
def Z9(l:List Tree):List Tree:=l.map Z3
def Z0V(kind:Int):List Op->List Tree
 | []=> []
 | o ::r=> if o.kind=1\/o.kind=2 then (if o.kind=kind then Z9 o.l else [])++Z0V kind r else []
def YJ:List Op->Int
 | []=> 0
 | o ::r=> if o.kind=1\/o.kind=2 then 1+YJ r else 0
def Z4T(w:WEdit):WEdit:=⟨w.at_,w.mask,w.new,w.old⟩
mutual
def ZO:Edit->Edit
 | .mk k o n w ks l os=> .mk k n o (w.map Z4T) (Z09 ks) l (Jq os)
def Z09:List (KidOf Edit)->List (KidOf Edit)
 | []=> []
 | k ::r=> Z1S k ::Z09 r
def Z1S:KidOf Edit->KidOf Edit
 | ⟨a,e⟩=> ⟨a,ZO e⟩
def Jq:List (OpOf Edit)->List (OpOf Edit)
 | []=> []
 | o ::r=> YV o ::Jq r
def YV:OpOf Edit->OpOf Edit
 | ⟨k,n,l,e⟩=> if k=1 then ⟨2,n,l,e⟩ else if k=2 then ⟨1,n,l,e⟩ else if k=3 then ⟨k,n,l,ZO e⟩ else ⟨k,n,l,e⟩
end
structure Wst where
 out:List Op
 gone:List Tree
 brought:List Tree
def Jk(out:List Op)(g b:List Tree):List Op:=
 out++((if g.length=0 then [] else [⟨1,0,g,Edit.nil⟩])++(if b.length=0 then [] else [⟨2,0,b,Edit.nil⟩]))
def YA:List Op->Int->List Op
 | [],n=> [⟨0,n,[],Edit.nil⟩]
 | [o],n=> if o.kind=0 then [⟨o.kind,o.n+n,o.l,o.e⟩] else [o,⟨0,n,[],Edit.nil⟩]
 | o ::p ::r,n=> o ::YA (p ::r) n
def Zc(w:Wst):Wst:=⟨Jk w.out w.gone w.brought,[],[]⟩
def Y7(w:Wst)(n:Int):Wst:=⟨YA (Zc w).out n,[],[]⟩
mutual
def Zq:Edit->Edit
 | .mk k o n w ks l os=>
  if k=1 then .mk k (Z3 o) (Z3 n) [] [] l []
  else if k=2 then .mk k Tree.nil Tree.nil w (Jd ks) l []
  else if k=3 then .mk k Tree.nil Tree.nil [] [] l (Zc (Zv l os ⟨[],[],[]⟩)).out
  else .mk k Tree.nil Tree.nil [] [] l []
def Jd:List (KidOf Edit)->List (KidOf Edit)
 | []=> []
 | k ::r=> Z0d k ::Jd r
def Z0d:KidOf Edit->KidOf Edit
 | ⟨a,e⟩=> ⟨a,Zq e⟩
def Zv(list:Int):List (OpOf Edit)->Wst->Wst
 | [],s=> s
 | o ::r,s=> Zv list r (Z06 list o s)
def Z06(list:Int):OpOf Edit->Wst->Wst
 | ⟨k,n,l,e⟩,s=>
  if k=0 then Y7 s n
  else if k=1 then ⟨s.out,s.gone++Z9 l,s.brought⟩
  else if k=2 then ⟨s.out,s.gone,s.brought++Z9 l⟩
  else if k=3 then (if Z5D list (Zq e)=true then Y7 s 1 else ⟨(Zc s).out++[⟨3,0,[],Zq e⟩],[],[]⟩)
  else s
end
theorem Z6k(e:Edit):Zq e=if e.kind=1 then .mk e.kind (Z3 e.old) (Z3 e.new) [] [] e.list []
  else if e.kind=2 then .mk e.kind Tree.nil Tree.nil e.words (Jd e.kids) e.list []
  else if e.kind=3 then .mk e.kind Tree.nil Tree.nil [] [] e.list (Zc (Zv e.list e.ops ⟨[],[],[]⟩)).out
  else .mk e.kind Tree.nil Tree.nil [] [] e.list []:=by cases e;rfl
theorem ZaQ(k:Kid):Z0d k=⟨k.at_,Zq k.e⟩:=by cases k;rfl
theorem YO(list:Int)(o:Op)(s:Wst):Z06 list o s=if o.kind=0 then Y7 s o.n
  else if o.kind=1 then ⟨s.out,s.gone++Z9 o.l,s.brought⟩
  else if o.kind=2 then ⟨s.out,s.gone,s.brought++Z9 o.l⟩
  else if o.kind=3 then (if Z5D list (Zq o.e)=true then Y7 s 1 else ⟨(Zc s).out++[⟨3,0,[],Zq o.e⟩],[],[]⟩)
  else s:=by cases o;rfl
theorem Zgn(list:Int):∀ (l:List Op) (s:Wst),Zv list l s=Zv list (l.drop (YJ l).toNat) ⟨s.out,s.gone++Z0V 1 l,s.brought++Z0V 2 l⟩
 | [],s=> by simp [Zv,Z0V,YJ]
 | o ::r,s=> by
  by_cases h:o.kind=1\/o.kind=2
  .have d:0<=YJ r:=gapN_nonneg r
   rw [YJ,if_pos h,Z0V,Z0V,if_pos h,if_pos h,show (1+YJ r).toNat=(YJ r).toNat+1 by omega,QJ,Zv,YO,Zgn list r]
   grind
  .rw [YJ,if_neg h,Z0V,Z0V,if_neg h,if_neg h]
   simp
where
 gapN_nonneg:∀ (l:List Op),0<=YJ l
  | []=> by simp [YJ]
  | o ::r=> by
   have:=gapN_nonneg r
   rw [YJ];omega
def Y4{α:Type}(z:α)(l:List α)(i:Nat)(x:α):List α:=(l++List.replicate (i+1 - l.length) z).set i x
def wsD(tw:List Int):List WEdit->List Int->Option (List Int)
 | [],out=> some out
 | w ::r,out=> if mix 0 (tw.getD w.at_.toNat 0) w.mask=w.old then wsD tw r (Y4 0 out w.at_.toNat (mix (tw.getD w.at_.toNat 0) w.new w.mask)) else none
noncomputable def Je(l rest:List Tree):Bool:=decide (l.length<=rest.length) && eqX (Z9 l) (Z9 (rest.take l.length))
def Z25(r:Option (List Tree × List Tree)):Option (List Tree):=r.bind fun x=> if x.2.length=0 then some x.1 else none
def nrD(r:Bool)(t:Tree):Tree:=if r then Z3 t else t
mutual
noncomputable def doE(r:Bool):Edit->Tree->Option Tree
 | .mk k o n w ks l os,t=>
  (if k=0 then some t
  else if k=1 then (if Yd (Z3 o) (Z3 t)=true then some n else none)
  else if k=2 then (if t.kind=1 then (wsD t.words w t.words).bind fun a=> (JV r t.kids ks t.kids).map fun b=> .mk 1 a b else none)
  else if k=3 then (if t.kind=l then (Z25 (ZR r os t.kids [])).map fun b=> .mk l [] b else none)
  else none).map (nrD r)
noncomputable def JV(r:Bool)(tk:List Tree):List (KidOf Edit)->List Tree->Option (List Tree)
 | [],out=> some out
 | k ::s,out=> (Z08 r tk k).bind fun u=> JV r tk s (Y4 Tree.nil out k.at_.toNat u)
noncomputable def Z08(r:Bool)(tk:List Tree):KidOf Edit->Option Tree
 | ⟨a,e⟩=> doE r e (tk.getD a.toNat Tree.nil)
noncomputable def ZR(r:Bool):List (OpOf Edit)->List Tree->List Tree->Option (List Tree × List Tree)
 | [],rest,out=> some (out,rest)
 | o ::s,rest,out=> (Z2P r o rest out).bind fun x=> ZR r s x.2 x.1
noncomputable def Z2P(r:Bool):OpOf Edit->List Tree->List Tree->Option (List Tree × List Tree)
 | ⟨k,n,l,e⟩,rest,out=>
  if k=0 then (if n.toNat<=rest.length then some (out++rest.take n.toNat,rest.drop n.toNat) else none)
  else if k=1 then (if Je l rest=true then some (out,rest.drop l.length) else none)
  else if k=2 then some (out++l,rest)
  else if rest.length=0 then none else (doE r e (rest.getD 0 Tree.nil)).map fun u=> (out++[u],rest.drop 1)
end
theorem Z0X(r:Bool)(e:Edit)(t:Tree):doE r e t=(if e.kind=0 then some t
  else if e.kind=1 then (if Yd (Z3 e.old) (Z3 t)=true then some e.new else none)
  else if e.kind=2 then (if t.kind=1 then (wsD t.words e.words t.words).bind fun a=> (JV r t.kids e.kids t.kids).map fun b=> .mk 1 a b else none)
  else if e.kind=3 then (if t.kind=e.list then (Z25 (ZR r e.ops t.kids [])).map fun b=> .mk e.list [] b else none)
  else none).map (nrD r):=by cases e;rfl
noncomputable def Zfw(r:Bool)(e:Edit)(t:Tree):Option Tree:=
 if e.kind=0 then some t
 else if e.kind=1 then (if Yd (Z3 e.old) (Z3 t)=true then some e.new else none)
 else if e.kind=2 then (if t.kind=1 then (wsD t.words e.words t.words).bind fun a=> (JV r t.kids e.kids t.kids).map fun b=> .mk 1 a b else none)
 else if e.kind=3 then (if t.kind=e.list then (Z25 (ZR r e.ops t.kids [])).map fun b=> .mk e.list [] b else none)
 else none
theorem Z6P(r:Bool)(e:Edit)(t:Tree):doE r e t=(Zfw r e t).map (nrD r):=Z0X r e t
theorem Zf6(r:Bool)(tk:List Tree)(k:Kid):Z08 r tk k=doE r k.e (tk.getD k.at_.toNat Tree.nil):=by cases k;rfl
theorem Yu(r:Bool)(o:Op)(rest out:List Tree):Z2P r o rest out=if o.kind=0 then (if o.n.toNat<=rest.length then some (out++rest.take o.n.toNat,rest.drop o.n.toNat) else none)
  else if o.kind=1 then (if Je o.l rest=true then some (out,rest.drop o.l.length) else none)
  else if o.kind=2 then some (out++o.l,rest)
  else if rest.length=0 then none else (doE r o.e (rest.getD 0 Tree.nil)).map fun u=> (out++[u],rest.drop 1):=by cases o;rfl
noncomputable def Z2q(r:Bool)(e:Edit)(t:Tree):Option Tree:=
 if t.kind=1 then (wsD t.words e.words t.words).bind fun a=> (JV r t.kids e.kids t.kids).map fun b=> .mk 1 a b else none
noncomputable def Z0m(r:Bool)(e:Edit)(t:Tree):Option (List Tree × List Tree):=if t.kind=e.list then ZR r e.ops t.kids [] else none
def Jn(o:Option Tree):Tree:=o.getD Tree.nil
def ZhQ(e:Edit)(o:Option (List Tree × List Tree)):Tree:=match o with | some x=> .mk e.list [] x.1 | none=> Tree.nil
noncomputable def Zcl(e:Edit)(t:Tree):Tree:=
 if e.kind=0 then t else if e.kind=1 then e.new else if e.kind=2 then Jn (Z2q false e t) else if e.kind=3 then ZhQ e (Z0m false e t) else Tree.nil
theorem Jj(o:Option Tree):o.map (nrD false)=o:=by cases o <;> rfl
theorem ZaM{e:Edit}{t u:Tree}(h:doE false e t=some u):Zcl e t=u:=by
 rw [Z0X,Jj] at h
 unfold Zcl
 split
 .grind
 .rename_i h0;rw [if_neg h0] at h
  split
  .grind
  .rename_i h1;rw [if_neg h1] at h
   split
   .rename_i d;rw [if_pos d] at h
    unfold Jn Z2q
    rw [h];try rfl
   .rename_i d;rw [if_neg d] at h
    split
    .rename_i h3;rw [if_pos h3] at h
     unfold ZhQ Z0m
     split at h
     .rename_i s;rw [if_pos s]
      revert h
      cases ZR false e.ops t.kids [] with
      | none=> intro h;cases h
      | some x=>
       intro h
       simp only [Z25,Qg] at h
       grind
     .cases h
    grind
def Z11(m:Nat):Nat->Nat
 | 0=> 0
 | i+1=> Z11 m i+if m / 2 ^ i % 2=1 then 255*2 ^ (8*i) else 0
def Zfq:Nat->Nat->Nat
 | 0,_=> 0
 | k+1,m=> (if m % 2=1 then 255 else 0)+256*Zfq k (m / 2)
def ZbL:Nat->Nat->Nat->Nat
 | 0,_,_=> 0
 | k+1,a,m=> (if m % 2=1 then a % 256 else 0)+256*ZbL k (a / 256) (m / 2)
def ZjZ:Nat->Nat->Nat->Nat->Nat
 | 0,_,_,_=> 0
 | k+1,a,b,m=> (if m % 2=1 then b % 256 else a % 256)+256*ZjZ k (a / 256) (b / 256) (m / 2)
theorem Zr4(x y u v:Nat)(hu:u < 256)(hv:v < 256):(u+256*x) &&& (v+256*y)=(u &&& v)+256*(x &&& y):=by
 have h:u &&& v < 256:=Nat.and_lt_two_pow (n:=8) u hv
 apply Nat.eq_of_testBit_eq
 intro j
 rw [Xw u,Xw v,Xw (u &&& v),Nat.testBit_and]
 rw [show (256:Nat)=2 ^ 8 from rfl,X6 _ hu,X6 _ hv,X6 _ h]
 grind
theorem Zt4(x y u v:Nat)(hu:u < 256)(hv:v < 256):(u+256*x) ||| (v+256*y)=(u ||| v)+256*(x ||| y):=by
 have h:u ||| v < 256:=Nat.or_lt_two_pow (n:=8) hu hv
 apply Nat.eq_of_testBit_eq
 intro j
 rw [Xw u,Xw v,Xw (u ||| v),Nat.testBit_or]
 rw [show (256:Nat)=2 ^ 8 from rfl,X6 _ hu,X6 _ hv,X6 _ h]
 grind
theorem Zfn:∀ (k a m:Nat),a &&& Zfq k m=ZbL k a m
 | 0,a,m=> by simp [Zfq,ZbL]
 | k+1,a,m=> by
  have e:a=a % 256+256*(a / 256):=V0
  simp only [Zfq,ZbL]
  rw [<-Zfn k (a / 256) (m / 2)]
  have h:a &&& ((if m % 2=1 then 255 else 0)+256*Zfq k (m / 2))=(a % 256+256*(a / 256)) &&& ((if m % 2=1 then 255 else 0)+256*Zfq k (m / 2)):=by rw [<-e]
  rw [h,Zr4 _ _ _ _ V0 (by grind)]
  congr 1
  split
  .have:=XO (a % 256) 8
   grind
  .simp
theorem Zo2:∀ (k a b m n:Nat),(∀ i < k,m / 2 ^ i % 2+n / 2 ^ i % 2=1)->ZbL k a n ||| ZbL k b m=ZjZ k a b m
 | 0,a,b,m,n,_=> by simp [ZbL,ZjZ]
 | k+1,a,b,m,n,h=> by
  simp only [ZbL,ZjZ]
  have d:=h 0 V0
  simp only [Nat.pow_zero,Nat.div_one] at d
  rw [Zt4 _ _ _ _ (by grind) (by grind),Zo2 k (a / 256) (b / 256) (m / 2) (n / 2) (fun i s=> by
   have:=h (i+1) V0
   rw [Xh,Xh]
   grind)]
  grind
theorem Zn0:∀ m:Fin 256,Z11 m.1 8=Zfq 8 m.1:=by decide+kernel
theorem Zrl:∀ m:Fin 256,2 ^ 64 - 1 - Zfq 8 m.1=Zfq 8 (255 - m.1):=by decide+kernel
theorem Zv5:∀ m:Fin 256,∀ i:Fin 8,m.1 / 2 ^ i.1 % 2+(255 - m.1) / 2 ^ i.1 % 2=1:=by decide+kernel
theorem Zw0:∀ m:Fin 256,Zfq 8 m.1 < 2 ^ 64:=by decide+kernel
theorem Ztg(a b m:Nat)(hm:m < 256):(a &&& (2 ^ 64 - 1 - Z11 m 8)) ||| (b &&& Z11 m 8)=ZjZ 8 a b m:=by
 have d:=Zn0 ⟨m,hm⟩
 have h:=Zrl ⟨m,hm⟩
 simp only at d h
 rw [d,h,Zfn,Zfn]
 exact Zo2 8 a b m (255 - m) (fun i s=> Zv5 ⟨m,hm⟩ ⟨i,s⟩)
def ofK:Nat->(Nat->Nat)->Nat
 | 0,_=> 0
 | k+1,f=> f 0+256*ofK k (fun i=> f (i+1))
theorem Zgl:∀ (k:Nat) {f g:Nat->Nat},(∀ i,f i=g i)->ofK k f=ofK k g
 | 0,_,_,_=> rfl
 | k+1,f,g,h=> by simp only [ofK,h 0,Zgl k (fun i=> h (i+1))]
theorem Zo6:∀ (k a b m:Nat),ZjZ k a b m=ofK k (fun i=> if m / 2 ^ i % 2=1 then b / 256 ^ i % 256 else a / 256 ^ i % 256)
 | 0,_,_,_=> rfl
 | k+1,a,b,m=> by
  simp only [ZjZ,ofK,Nat.pow_zero,Nat.div_one]
  rw [Zo6 k,Zgl k (g:=fun i=> if m / 2 ^ (i+1) % 2=1 then b / 256 ^ (i+1) % 256 else a / 256 ^ (i+1) % 256) (fun i=> ?_)]
  rw [Xh,Xh,Xh,Nat.pow_succ',Nat.pow_succ']
theorem Zti(a b m:Nat):((ZjZ 8 a b m:Nat):Int)=mix a b m:=by
 have nm:∀ i:Nat,Z0j (m:Int) (i:Int)=decide (m / 2 ^ i % 2=1):=by
  intro i
  unfold Z0j
  rw [decide_eq_decide,QR]
  have:((m:Int) / 2 ^ i % 2:Int)=((m / 2 ^ i % 2:Nat):Int):=by rw [Int.natCast_emod,Int.natCast_ediv,XD];try rfl
  rw [this];omega
 have d:∀ (x i:Nat),Zu (x:Int) i=((x / 256 ^ i % 256:Nat):Int):=by
  intro x i
  unfold Zu
  rw [Int.natCast_emod,Int.natCast_ediv,XD]
  try rfl
 have u:∀ i:Nat,Jo (a:Int) (b:Int) (m:Int) i=((if m / 2 ^ i % 2=1 then b / 256 ^ i % 256 else a / 256 ^ i % 256:Nat):Int):=by
  intro i
  unfold Jo
  rw [nm,d,d]
  by_cases h:m / 2 ^ i % 2=1
  .grind
  .grind
 rw [Zo6]
 generalize hf:(fun i=> if m / 2 ^ i % 2=1 then b / 256 ^ i % 256 else a / 256 ^ i % 256)=f
 have s:∀ i,Jo (a:Int) (b:Int) (m:Int) i=(f i:Int):=by intro i;rw [u,<-hf]
 have e:ofK 8 f=f 0+256*(f 1+256*(f 2+256*(f 3+256*(f 4+256*(f 5+256*(f 6+256*(f 7+256*0))))))):=rfl
 rw [e]
 simp only [mix,of8,s]
 omega
def Z1q(list:Int)(e:Edit):Bool:=
 if (2<=list/\list<=7)\/e.kind=0 then false else if list=8\/e.kind=2 then true else decide (e.kind=1/\e.old.kind=1/\e.new.kind=1)
end Go.AM
