import Derived.Test.YtpjenobkibfpcaaKB07
set_option linter.unusedSimpArgs false
set_option linter.unusedVariables false
namespace Go.AM.Ytpjenobkibfpcaa
open Go.AM Go.Proofs
noncomputable section
abbrev Z7(p:Prop):Prop:=p→p
noncomputable section
def Zj9:ArgL (Int × Unit):=(.cons (Yt .i64) .nil)
def ZcW(a:Int × Unit):Prop:=True
def ZlX(a:Int × Unit):V U:= .c (ci (wd a.1))
def Z69:Fs U:=fs Zj9 (fun a=> [ZcW a]) ZlX
def ZnF:ArgL (Int × Int × Unit):=(.cons (Yt .i64) (.cons (Yt .u64) .nil))
def Zel(a:Int × Int × Unit):Prop:=0≤a.2.1∧a.2.1 < 18446744073709551616
def Zra(a:Int × Int × Unit):V U:= .c (.bool (Z99 a.1 a.2.1))
def Z9D:Fs U:=fs ZnF (fun a=> [Zel a]) Zra
def ZiT:ArgL (Int × Unit):=(.cons (Yt .i64) .nil)
def ZcU(a:Int × Unit):Prop:=True
def ZfV(a:Int × Unit):V U:= .tup [(false,[ci (if wd a.1 < 0 then 0 else wd a.1)]),(false,[.bool (decide (0≤wd a.1))])]
def Z60:Fs U:=fs ZiT (fun a=> [ZcU a]) ZfV
def ZiW:ArgL (Int × Int × Unit):=(.cons (Yt .i64) (.cons (Yt .u64) .nil))
def Zal(a:Int × Int × Unit):Prop:=0≤a.2.1∧a.2.1 < 18446744073709551616
def ZlM(a:Int × Int × Unit):V U:= .c (.bool (Z99 a.1 a.2.1))
def Z63:Fs U:=fs ZiW (fun a=> [Zal a]) ZlM
def ZnB:ArgL (Int × Unit):=(.cons (Yt .i64) .nil)
def Z8s(a:Int × Unit):Prop:=True
def Zr8(a:Int × Unit):V U:= .c (.bool (decide (2≤a.1∧a.1≤9)))
def Z04:Fs U:=fs ZnB (fun a=> [Z8s a]) Zr8
def Zj8:ArgL (Int × Unit):=(.cons (Yt .i64) .nil)
def Z7F(a:Int × Unit):Prop:=True
def ZlW(a:Int × Unit):V U:= .c (.bool (decide (2≤a.1∧a.1≤7)))
def Z1N:Fs U:=fs Zj8 (fun a=> [Z7F a]) ZlW
def ZiZ:ArgL (Int × Tree × Unit):=(.cons (Yt .i64) (.cons (aEl .tree) .nil))
def Zam(a:Int × Tree × Unit):Prop:=rng a.2.1
def ZlP(a:Int × Tree × Unit):V U:= .c (.bool (Jz a.1 a.2.1))
def Z65:Fs U:=fs ZiZ (fun a=> [Zam a]) ZlP
def Zdy:ArgL (Tree × Int × Unit):=(.cons (aEl .tree) (.cons (Yt .i64) .nil))
def Z2a(a:Tree × Int × Unit):Prop:=Zj a.1≤20000000000∧rng a.1∧0≤a.2.1∧a.2.1≤1000
def Z5i(a:Tree × Int × Unit):Nat:=Zj a.1
def ZcQ(a:Tree × Int × Unit):V U:= .c (.bool (Z9 a.1 a.2.1))
def Z68:Fs U:=fs Zdy (fun a=> [Z2a a]) ZcQ
def ZnE:ArgL (Tree × Unit):=(.cons (aEl .tree) .nil)
def Zek(a:Tree × Unit):Prop:=Zj a.1≤20000000000∧rng a.1
def Zr9(a:Tree × Unit):V U:= .c (.bool (Z9 a.1 64))
def Z3C:Fs U:=fs ZnE (fun a=> [Zek a]) Zr9
def Zh5:ArgL (Tree × Int × Unit):=(.cons (aEl .tree) (.cons (Yt .i64) .nil))
def Z3q(a:Tree × Int × Unit):Prop:=Zj a.1≤20000000000∧rng a.1∧0≤a.2.1∧a.2.1≤1000
def ZeM(a:Tree × Int × Unit):Nat:=Zj a.1
def ZlI(a:Tree × Int × Unit):V U:= .c (.bool (Z9 a.1 a.2.1))
def Z2W:Fs U:=fs Zh5 (fun a=> [Z3q a]) ZlI
def Zdc:List (FuncId × Fs U):=[]
def Zih:Zi U:=lvl [([0],[]),([3],[]),([3,4],[]),([2],[]),([3,6],[]),([2],[]),([3,8],[]),([2],[]),([3,10],[]),([2],[]),([3,12],[]),([2],[]),([14],[]),([2],[]),([2],[])]
theorem Zvg(c:Int)(Q:QT)(h:((c==0)=true→Q .ret (L2 [(2,.c (ci 0))] []))∧((c==0)=false→((c==1)=true→Q .ret (L2 [(2,.c (ci 1))] []))∧((c==1)=false→((c==2)=true→Q .ret (L2 [(2,.c (ci 8))] []))∧((c==2)=false→((c==3)=true→Q .ret (L2 [(2,.c (ci 16))] []))∧((c==3)=false→((c==4)=true→Q .ret (L2 [(2,.c (ci 32))] []))∧((c==4)=false→((c==5)=true→Q .ret (L2 [(2,.c (ci 64))] []))∧((c==5)=false→Q .ret (L2 [(2,.c (ci (-1)))] [])))))))):
  AW (Z0 Zdc) Try.f116 Zih [] (L2 [(0,.c (ci c))] []) Q:=by
 have e:(AW (Z0 Zdc) Try.f116 Zih [] (L2 [(0,.c (ci c))] []) Q)=((((c:Int)==0)=true→(Q .ret (L2 [(2,.c (ci 0))] [])))∧(((c:Int)==0)=false→((((c:Int)==1)=true→(Q .ret (L2 [(2,.c (ci 1))] [])))∧(((c:Int)==1)=false→((((c:Int)==2)=true→(Q .ret (L2 [(2,.c (ci 8))] [])))∧(((c:Int)==2)=false→((((c:Int)==3)=true→(Q .ret (L2 [(2,.c (ci 16))] [])))∧(((c:Int)==3)=false→((((c:Int)==4)=true→(Q .ret (L2 [(2,.c (ci 32))] [])))∧(((c:Int)==4)=false→((((c:Int)==5)=true→(Q .ret (L2 [(2,.c (ci 64))] [])))∧(((c:Int)==5)=false→(Q .ret (L2 [(2,.c (ci (-1)))] [])))))))))))))):=by kernel_rfl
 exact e.mpr ⟨fun c_1=> (h.1 c_1),fun c_1=> ⟨fun c_2=> ((h.2 c_1).1 c_2),fun c_2=> ⟨fun c_3=> (((h.2 c_1).2 c_2).1 c_3),fun c_3=> ⟨fun c_4=> ((((h.2 c_1).2 c_2).2 c_3).1 c_4),fun c_4=> ⟨fun c_5=> (((((h.2 c_1).2 c_2).2 c_3).2 c_4).1 c_5),fun c_5=> ⟨fun c_6=> ((((((h.2 c_1).2 c_2).2 c_3).2 c_4).2 c_5).1 c_6),fun c_6=> ((((((h.2 c_1).2 c_2).2 c_3).2 c_4).2 c_5).2 c_6)⟩⟩⟩⟩⟩⟩
def ZqX(c:Int):Prop:=AW (Z0 Zdc) Try.f116 Zih [] (Zm (Zj9.can (c,())) []) (EQ Try.f116 (ZlX (c,())) [])
theorem ZpE(hb:∀ (c:Int) (_:Unit),ZcW (c,())→ZqX c):CT 116 Z69:=
 Z3 (l:=[]) Zk rfl trivial Zih Try.func116 rfl rfl 1 (fun _=> rfl) (by decide) (fun ⟨c,_⟩=> hb c ())
def Z0a:List (FuncId × Fs U):=[(116,Z69)]
def Z95:Zi U:=lvl [([0,1],[]),([1,5],[]),([1,5,10],[]),([4],[]),([1,5,6],[]),([1,5,6,13],[]),([1,5,6],[]),([1,5,6],[]),([4],[])]
def Z1F(c n x1 x6:Int):LSt U:=(L2 [(1,.c (.int .u64 x1)),(5,.c (ci (wd c))),(6,.c (ci x6))] [])
abbrev ZkL:=awp cfg (Z0 Z0a) (Zx cfg (Z0 Z0a)) Try.f79.ntmps Z95
abbrev ZjJ:=Z3K cfg (Z0 Z0a) (Zx cfg (Z0 Z0a)) Try.f79.ntmps Z95
theorem Zwp(c n:Int)(Q:QT)(h:(ZcW (c,()))∧(((decide (((wd c):Int) < 0))=true→Q .ret (L2 [(4,.c (.bool false))] []))∧((decide (((wd c):Int) < 0))=false→Zh (AW (Z0 Z0a) Try.f79 Z95 [1,1,1,0,1,0,0]) (Z1F c n n 0) (xB 0 (SW (Z0 Z0a) Try.f79 Z95 [1,1,1,1] Q))))):
  AW (Z0 Z0a) Try.f79 Z95 [] (L2 [(0,.c (ci c)),(1,.c (.int .u64 n))] []) Q:=by
 have e:(AW (Z0 Z0a) Try.f79 Z95 [] (L2 [(0,.c (ci c)),(1,.c (.int .u64 n))] []) Q)=((ZcW (c,()))∧(((decide (((wd c):Int) < 0))=true→(Q .ret (L2 [(4,.c (.bool false))] [])))∧((decide (((wd c):Int) < 0))=false→(Zh (ZkL (cd Try.f79 [1,1,1,0,1,0,0])) (Z1F c n n 0) (xB 0 (ZjJ (cd Try.f79 [1,1,1,1]) Q)))))):=by kernel_rfl
 exact e.mpr ⟨h.1,⟨fun c_7=> (h.2.1 c_7),fun c_7=> (h.2.2 c_7)⟩⟩
theorem Zon(c n x1 x6:Int)(N0:NT)(Q:QT)(h:((decide (x6 < (wd c)))=true→((2:Int)≠0)∧((InR (x6+1))∧(N0 (Z1F c n (IntKind.wrap .u64 (Int.tdiv x1 2)) (x6+1)))))∧((decide (x6 < (wd c)))=false→Q .ret (L2 [(4,.c (.bool (x1==0)))] []))):
  AW (Z0 Z0a) Try.f79 Z95 [1,1,1,0,1,0,0] (Z1F c n x1 x6) (xT N0 (xB 0 (SW (Z0 Z0a) Try.f79 Z95 [1,1,1,1] Q))):=by
 have e:(AW (Z0 Z0a) Try.f79 Z95 [1,1,1,0,1,0,0] (Z1F c n x1 x6) (xT N0 (xB 0 (SW (Z0 Z0a) Try.f79 Z95 [1,1,1,1] Q))))=(((decide ((x6:Int) < (wd c)))=true→((2:Int)≠0)∧((InR ((x6:Int)+1))∧(N0 (Z1F c n (IntKind.wrap .u64 (Int.tdiv x1 2)) ((x6:Int)+1)))))∧((decide ((x6:Int) < (wd c)))=false→(Q .ret (L2 [(4,.c (.bool ((x1:Int)==0)))] [])))):=by kernel_rfl
 exact e.mpr ⟨fun c_8=> ⟨(h.1 c_8).1,⟨(h.1 c_8).2.1,(h.1 c_8).2.2⟩⟩,fun c_8=> (h.2 c_8)⟩
def Zu9(c n:Int):Prop:=AW (Z0 Z0a) Try.f79 Z95 [] (Zm (ZnF.can (c,n,())) []) (EQ Try.f79 (Zra (c,n,())) [])
theorem Zsn(ZtE:CT 116 Z69)(hb:∀ (c:Int) (n:Int) (_:Unit),Zel (c,n,())→Zu9 c n):CT 79 Z9D:=
 Z3 (l:=[(116,Z69)]) Zk rfl (⟨ZtE,trivial⟩) Z95 Try.func79 rfl rfl 2 (fun _=> rfl) (by decide) (fun ⟨c,n,_⟩=> hb c n ())
def Zd7:List (FuncId × Fs U):=[]
def Zic:Zi U:=lvl [([0],[]),([0,4],[4]),([0,4,11],[4]),([2,3],[]),([2,3],[])]
theorem ZuR(c:Int)(Q:QT)(h:((bif (decide (c < 0)) then true else (decide ((6:Int)≤c)))=true→Q .ret (L2 [(2,.c (ci 0)),(3,.c (.bool false))] []))∧((bif (decide (c < 0)) then true else (decide ((6:Int)≤c)))=false→((0:Int)≤c∧c < ((6:Nat):Int))∧(Q .ret (L2 [(2,.c (ci (List.getD [0,1,8,16,32,64] c.toNat 0))),(3,.c (.bool true))] [])))):
  AW (Z0 Zd7) Try.f194 Zic [] (L2 [(0,.c (ci c))] []) Q:=by
 have e:(AW (Z0 Zd7) Try.f194 Zic [] (L2 [(0,.c (ci c))] []) Q)=(let zz0:=(decide ((c:Int) < 0));((Z7 ((!zz0)=true))∧(zz0=false→(!zz0)=true)∧(((bif zz0 then true else (decide ((6:Int)≤c)))=true→(Q .ret (L2 [(2,.c (ci 0)),(3,.c (.bool false))] [])))∧((bif zz0 then true else (decide ((6:Int)≤c)))=false→((0:Int)≤c∧c < ((6:Nat):Int))∧(Q .ret (L2 [(2,.c (ci (List.getD [0,1,8,16,32,64] c.toNat 0))),(3,.c (.bool true))] [])))))):=by kernel_rfl
 exact e.mpr ⟨id,(by generalize (decide ((c:Int) < 0))=b0;revert b0;decide),⟨fun c_9=> (h.1 c_9),fun c_9=> ⟨(h.2 c_9).1,(h.2 c_9).2⟩⟩⟩
def Zqy(c:Int):Prop:=AW (Z0 Zd7) Try.f194 Zic [] (Zm (ZiT.can (c,())) []) (EQ Try.f194 (ZfV (c,())) [])
theorem Zpi(hb:∀ (c:Int) (_:Unit),ZcU (c,())→Zqy c):CT 194 Z60:=
 Z3 (l:=[]) Zk rfl trivial Zic Try.func194 rfl rfl 1 (fun _=> rfl) (by decide) (fun ⟨c,_⟩=> hb c ())
def Zd8:List (FuncId × Fs U):=[(194,Z60)]
def Zid:Zi U:=lvl [([0,1],[]),([1,5,6],[]),([4],[])]
theorem ZuW(c n:Int)(Q:QT)(h:(ZcU (c,()))∧((((decide (0≤wd c)) && (!(((if wd c < 0 then 0 else wd c):Int)==64)))=true→(0:Int)≤(if wd c < 0 then 0 else wd c))∧(Q .ret (L2 [(4,.c (.bool (bif (decide (0≤wd c)) then (bif (((if wd c < 0 then 0 else wd c):Int)==64) then true else (((Int.fdiv n (2 ^ (min (Int.toNat (if wd c < 0 then 0 else wd c)) (IntKind.bits .u64)))):Int)==0)) else false)))] [])))):
  AW (Z0 Zd8) Try.f183 Zid [] (L2 [(0,.c (ci c)),(1,.c (.int .u64 n))] []) Q:=by
 have e:(AW (Z0 Zd8) Try.f183 Zid [] (L2 [(0,.c (ci c)),(1,.c (.int .u64 n))] []) Q)=(let zz0:=(((if wd c < 0 then 0 else wd c):Int)==64);((ZcU (c,()))∧((Z7 ((decide (0≤wd c))=true))∧(Z7 ((decide (0≤wd c))=true))∧(Z7 (((decide (0≤wd c)) && (!zz0))=true))∧(Z7 (((decide (0≤wd c)) && (!zz0))=true))∧(((decide (0≤wd c)) && (!zz0))=true→(0:Int)≤(if wd c < 0 then 0 else wd c))∧(Z7 (((decide (0≤wd c)) && (!zz0))=true))∧((decide (0≤wd c))=true→(True→(decide (0≤wd c))=true))∧((decide (0≤wd c))=true→(zz0=false→((decide (0≤wd c)) && (!zz0))=true))∧(Z7 ((decide (0≤wd c))=true))∧(Q .ret (L2 [(4,.c (.bool (bif (decide (0≤wd c)) then (bif zz0 then true else (((Int.fdiv n (2 ^ (min (Int.toNat (if wd c < 0 then 0 else wd c)) (IntKind.bits .u64)))):Int)==0)) else false)))] []))))):=by kernel_rfl
 exact e.mpr ⟨h.1,⟨id,id,id,id,h.2.1,id,(by generalize (decide (0≤wd c))=b0;revert b0;decide),(by generalize (((if wd c < 0 then 0 else wd c):Int)==64)=b0;generalize (decide (0≤wd c))=b1;revert b0 b1;decide),(by generalize (decide (0≤wd c))=b0;revert b0;decide),h.2.2⟩⟩
def ZqD(c n:Int):Prop:=AW (Z0 Zd8) Try.f183 Zid [] (Zm (ZiW.can (c,n,())) []) (EQ Try.f183 (ZlM (c,n,())) [])
theorem Zpn(Ztm:CT 194 Z60)(hb:∀ (c:Int) (n:Int) (_:Unit),Zal (c,n,())→ZqD c n):CT 183 Z63:=
 Z3 (l:=[(194,Z60)]) Zk rfl (⟨Ztm,trivial⟩) Zid Try.func183 rfl rfl 2 (fun _=> rfl) (by decide) (fun ⟨c,n,_⟩=> hb c n ())
def Zgq:List (FuncId × Fs U):=[]
def ZpL:Zi U:=lvl [([0],[]),([2],[])]
theorem Zwj(k:Int)(Q:QT)(h:Q .ret (L2 [(2,.c (.bool (bif (decide ((2:Int)≤k)) then (decide (k≤9)) else false)))] [])):
  AW (Z0 Zgq) Try.f92 ZpL [] (L2 [(0,.c (ci k))] []) Q:=by
 have e:(AW (Z0 Zgq) Try.f92 ZpL [] (L2 [(0,.c (ci k))] []) Q)=((Z7 ((decide ((2:Int)≤k))=true))∧(Z7 ((decide ((2:Int)≤k))=true))∧(Q .ret (L2 [(2,.c (.bool (bif (decide ((2:Int)≤k)) then (decide ((k:Int)≤9)) else false)))] []))):=by kernel_rfl
 exact e.mpr ⟨id,(by generalize (decide ((2:Int)≤k))=b0;revert b0;decide),h⟩
def Zu3(k:Int):Prop:=AW (Z0 Zgq) Try.f92 ZpL [] (Zm (ZnB.can (k,())) []) (EQ Try.f92 (Zr8 (k,())) [])
theorem Zsi(hb:∀ (k:Int) (_:Unit),Z8s (k,())→Zu3 k):CT 92 Z04:=
 Z3 (l:=[]) Zk rfl trivial ZpL Try.func92 rfl rfl 1 (fun _=> rfl) (by decide) (fun ⟨k,_⟩=> hb k ())
def Zdb:List (FuncId × Fs U):=[]
def Zig:Zi U:=lvl [([0],[]),([2],[])]
theorem Zve(k:Int)(Q:QT)(h:Q .ret (L2 [(2,.c (.bool (bif (decide ((2:Int)≤k)) then (decide (k≤7)) else false)))] [])):
  AW (Z0 Zdb) Try.f120 Zig [] (L2 [(0,.c (ci k))] []) Q:=by
 have e:(AW (Z0 Zdb) Try.f120 Zig [] (L2 [(0,.c (ci k))] []) Q)=((Z7 ((decide ((2:Int)≤k))=true))∧(Z7 ((decide ((2:Int)≤k))=true))∧(Q .ret (L2 [(2,.c (.bool (bif (decide ((2:Int)≤k)) then (decide ((k:Int)≤7)) else false)))] []))):=by kernel_rfl
 exact e.mpr ⟨id,(by generalize (decide ((2:Int)≤k))=b0;revert b0;decide),h⟩
def ZqV(k:Int):Prop:=AW (Z0 Zdb) Try.f120 Zig [] (Zm (Zj8.can (k,())) []) (EQ Try.f120 (ZlW (k,())) [])
theorem ZpC(hb:∀ (k:Int) (_:Unit),Z7F (k,())→ZqV k):CT 120 Z1N:=
 Z3 (l:=[]) Zk rfl trivial Zig Try.func120 rfl rfl 1 (fun _=> rfl) (by decide) (fun ⟨k,_⟩=> hb k ())
def Zd9:List (FuncId × Fs U):=[(120,Z1N),(183,Z63)]
def Zie:Zi U:=lvl [([0,3],[3]),([0,3,5],[3]),([4],[]),([3,32],[3]),([4],[]),([4],[])]
theorem Zv0(l:Int)(t:Tree)(Q:QT)(h:(Z7F (l,()))∧(((decide (2≤l∧l≤7))=true→((bif (bif (t.kind==10) then (((t.kids.length:Int):Int)==0) else false) then (((t.words.length:Int):Int)==1) else false)=true→InR (l - 2))∧((bif (bif (t.kind==10) then (((t.kids.length:Int):Int)==0) else false) then (((t.words.length:Int):Int)==1) else false)=true→(0:Int)≤0∧0 < (t.words.length:Int))∧((bif (bif (t.kind==10) then (((t.kids.length:Int):Int)==0) else false) then (((t.words.length:Int):Int)==1) else false)=true→Zal ((l - 2),(List.getD t.words (Int.toNat 0) (0:Int)),()))∧(Q .ret (L2 [(4,.c (.bool (bif (bif (bif (t.kind==10) then (((t.kids.length:Int):Int)==0) else false) then (((t.words.length:Int):Int)==1) else false) then (Z99 (l - 2) (List.getD t.words (Int.toNat 0) (0:Int))) else false)))] [])))∧((decide (2≤l∧l≤7))=false→((l==9)=true→Q .ret (L2 [(4,.c (.bool (t.kind==1)))] []))∧((l==9)=false→Q .ret (L2 [(4,.c (.bool (t.kind !=10)))] []))))):
  AW (Z0 Zd9) Try.f162 Zie [] (L2 [(0,.c (ci l)),(1,.agg (enc .tree t))] []) Q:=by
 have e:(AW (Z0 Zd9) Try.f162 Zie [] (L2 [(0,.c (ci l)),(1,.agg (enc .tree t))] []) Q)=(let zz1:=(bif (t.kind==10) then ((t.kids.length:Int)==0) else false);let zz0:=(bif zz1 then ((t.words.length:Int)==1) else false);((Z7F (l,()))∧(((decide (2≤l∧l≤7))=true→(Z7 ((t.kind==10)=true))∧(Z7 ((t.kind==10)=true))∧(Z7 ((t.kind==10)=true))∧(Z7 ((t.kind==10)=true))∧(Z7 (zz1=true))∧(Z7 (zz1=true))∧(Z7 (zz1=true))∧(Z7 (zz1=true))∧(Z7 (zz0=true))∧(zz0=true→InR ((l:Int) - 2))∧(Z7 (zz0=true))∧(Z7 (zz0=true))∧(zz0=true→(0:Int)≤0∧0 < (t.words.length:Int))∧(Z7 (zz0=true))∧(Z7 (zz0=true))∧(Z7 (zz0=true))∧(zz0=true→Zal (((l:Int) - 2),(List.getD t.words (Int.toNat 0) (0:Int)),()))∧(Z7 (zz0=true))∧(Q .ret (L2 [(4,.c (.bool (bif zz0 then (Z99 ((l:Int) - 2) (List.getD t.words (Int.toNat 0) (0:Int))) else false)))] [])))∧((decide (2≤l∧l≤7))=false→((((l:Int)==9)=true→(Q .ret (L2 [(4,.c (.bool (t.kind==1)))] [])))∧(((l:Int)==9)=false→(Q .ret (L2 [(4,.c (.bool (t.kind !=10)))] [])))))))):=by kernel_rfl
 exact e.mpr ⟨h.1,⟨fun c_10=> ⟨id,id,id,(by generalize ((t.kind:Int)==10)=b0;revert b0;decide),id,id,id,(by generalize (((t.kids.length:Int):Int)==0)=b0;generalize ((t.kind:Int)==10)=b1;revert b0 b1;decide),id,(h.2.1 c_10).1,id,id,(h.2.1 c_10).2.1,id,id,id,(h.2.1 c_10).2.2.1,(by generalize (((t.words.length:Int):Int)==1)=b0;generalize (((t.kids.length:Int):Int)==0)=b1;generalize ((t.kind:Int)==10)=b2;revert b0 b1 b2;decide),(h.2.1 c_10).2.2.2⟩,fun c_10=> ⟨fun c_11=> ((h.2.2 c_10).1 c_11),fun c_11=> ((h.2.2 c_10).2 c_11)⟩⟩⟩
def ZqH(l:Int)(t:Tree):Prop:=AW (Z0 Zd9) Try.f162 Zie [] (Zm (ZiZ.can (l,t,())) []) (EQ Try.f162 (ZlP (l,t,())) [])
theorem Zpq(ZkB:CT 120 Z1N)(Ztr:CT 183 Z63)(hb:∀ (l:Int) (t:Tree) (_:Unit),Zam (l,t,())→ZqH l t):CT 162 Z65:=
 Z3 (l:=[(120,Z1N),(183,Z63)]) Zk rfl (⟨ZkB,Ztr,trivial⟩) Zie Try.func162 rfl rfl 2 (fun _=> rfl) (by decide) (fun ⟨l,t,_⟩=> hb l t ())
def Ys(N:Nat):List (FuncId × Fs U):=(117,fs Zdy (fun a=> [Z2a a,Z5i a < N]) ZcQ) ::[(92,Z04),(162,Z65)]
def Z0I:Zi U:=lvl [([1,2],[2]),([1,2,8],[2]),([4],[]),([1,2,22],[2]),([4],[]),([1,2,36],[2]),([4],[]),([1,2,39],[2]),([1,2,52],[2]),([4],[]),([1,2,53],[2]),([4],[]),([1,2,71,72,73],[2]),([1,2,71,72,73,74],[2]),([1,2,6,71,72,73],[2,6]),([1,2,6,7,71,72,73],[2,6]),([1,2,6,7,71,72,73,82],[2,6]),([1,2,6,7,71,72,73],[2,6]),([1,2,71,72,73,95],[2]),([4],[]),([1,2,71,72,73],[2]),([4],[])]
def Yy(t:Tree)(d x73:Int):LSt U:=(L2 [(1,.c (ci d)),(2,.ptr (.loc 2) 0),(71,.c (sU .tree t.kids .unk)),(72,.c (ci (t.kids.length:Int))),(73,.c (ci x73))] [(.loc 2,(enc .tree t))])
abbrev Zbi(N:Nat):=awp cfg (Z0 (Ys N)) (Zx cfg (Z0 (Ys N))) Try.f117.ntmps Z0I
abbrev Za6(N:Nat):=Z3K cfg (Z0 (Ys N)) (Zx cfg (Z0 (Ys N))) Try.f117.ntmps Z0I
theorem Zvf(N:Nat)(t:Tree)(d:Int)(Q:QT)(h:((t.kind==0)=true→Q .ret (L2 [(4,.c (.bool (bif (((t.words.length:Int):Int)==0) then (((t.kids.length:Int):Int)==0) else false)))] []))∧((t.kind==0)=false→((t.kind==10)=true→Q .ret (L2 [(4,.c (.bool (bif (((t.words.length:Int):Int)==1) then (((t.kids.length:Int):Int)==0) else false)))] []))∧((t.kind==10)=false→((d==0)=true→Q .ret (L2 [(4,.c (.bool false))] []))∧((d==0)=false→((t.kind==1)=true→((bif (decide ((65536:Int)≤(t.words.length:Int))) then true else (decide ((65536:Int)≤(t.kids.length:Int))))=true→Q .ret (L2 [(4,.c (.bool false))] []))∧((bif (decide ((65536:Int)≤(t.words.length:Int))) then true else (decide ((65536:Int)≤(t.kids.length:Int))))=false→Zh (AW (Z0 (Ys N)) Try.f117 Z0I [1,1,0,1,0,0]) (Yy t d 0) (xB 1 (SW (Z0 (Ys N)) Try.f117 Z0I [1,1,1] Q))))∧((t.kind==1)=false→(Z8s (t.kind,()))∧(((bif (bif (!(decide (2≤t.kind∧t.kind≤9))) then true else (decide ((0:Int) < (t.words.length:Int)))) then true else (decide ((1048576:Int)≤(t.kids.length:Int))))=true→Q .ret (L2 [(4,.c (.bool false))] []))∧((bif (bif (!(decide (2≤t.kind∧t.kind≤9))) then true else (decide ((0:Int) < (t.words.length:Int)))) then true else (decide ((1048576:Int)≤(t.kids.length:Int))))=false→Zh (AW (Z0 (Ys N)) Try.f117 Z0I [1,1,0,1,0,0]) (Yy t d 0) (xB 1 (SW (Z0 (Ys N)) Try.f117 Z0I [1,1,1] Q))))))))):
  AW (Z0 (Ys N)) Try.f117 Z0I [] (L2 [(0,.agg (enc .tree t)),(1,.c (ci d))] []) Q:=by
 have e:(AW (Z0 (Ys N)) Try.f117 Z0I [] (L2 [(0,.agg (enc .tree t)),(1,.c (ci d))] []) Q)=(let zz6:=(decide ((65536:Int)≤(t.kids.length:Int)));let zz5:=(decide ((1048576:Int)≤(t.kids.length:Int)));let zz4:=((t.words.length:Int)==1);let zz3:=((t.words.length:Int)==0);let zz2:=(!(decide (2≤t.kind∧t.kind≤9)));let zz1:=(decide ((65536:Int)≤(t.words.length:Int)));let zz0:=(bif zz2 then true else (decide ((0:Int) < (t.words.length:Int))));(((t.kind==0)=true→(Z7 (zz3=true))∧(Z7 (zz3=true))∧(Z7 (zz3=true))∧(Z7 (zz3=true))∧(Q .ret (L2 [(4,.c (.bool (bif zz3 then ((t.kids.length:Int)==0) else false)))] [])))∧((t.kind==0)=false→(((t.kind==10)=true→(Z7 (zz4=true))∧(Z7 (zz4=true))∧(Z7 (zz4=true))∧(Z7 (zz4=true))∧(Q .ret (L2 [(4,.c (.bool (bif zz4 then ((t.kids.length:Int)==0) else false)))] [])))∧((t.kind==10)=false→((((d:Int)==0)=true→(Q .ret (L2 [(4,.c (.bool false))] [])))∧(((d:Int)==0)=false→(((t.kind==1)=true→(Z7 ((!zz1)=true))∧(Z7 ((!zz1)=true))∧(Z7 ((!zz1)=true))∧(zz1=false→(!zz1)=true)∧(((bif zz1 then true else zz6)=true→(Q .ret (L2 [(4,.c (.bool false))] [])))∧((bif zz1 then true else zz6)=false→(Zh (Zbi N (cd Try.f117 [1,1,0,1,0,0])) (Yy t d 0) (xB 1 (Za6 N (cd Try.f117 [1,1,1]) Q))))))∧((t.kind==1)=false→(Z8s (t.kind,()))∧(Z7 ((!zz2)=true))∧(Z7 ((!zz2)=true))∧(Z7 ((!zz2)=true))∧(zz2=false→(!zz2)=true)∧(Z7 ((!zz0)=true))∧(Z7 ((!zz0)=true))∧(Z7 ((!zz0)=true))∧(zz0=false→(!zz0)=true)∧(((bif zz0 then true else zz5)=true→(Q .ret (L2 [(4,.c (.bool false))] [])))∧((bif zz0 then true else zz5)=false→(Zh (Zbi N (cd Try.f117 [1,1,0,1,0,0])) (Yy t d 0) (xB 1 (Za6 N (cd Try.f117 [1,1,1]) Q)))))))))))))):=by kernel_rfl
 exact e.mpr ⟨fun c_12=> ⟨id,id,id,(by generalize (((t.words.length:Int):Int)==0)=b0;revert b0;decide),(h.1 c_12)⟩,fun c_12=> ⟨fun c_13=> ⟨id,id,id,(by generalize (((t.words.length:Int):Int)==1)=b0;revert b0;decide),((h.2 c_12).1 c_13)⟩,fun c_13=> ⟨fun c_14=> (((h.2 c_12).2 c_13).1 c_14),fun c_14=> ⟨fun c_15=> ⟨id,id,id,(by generalize (decide ((65536:Int)≤(t.words.length:Int)))=b0;revert b0;decide),⟨fun c_16=> (((((h.2 c_12).2 c_13).2 c_14).1 c_15).1 c_16),fun c_16=> (((((h.2 c_12).2 c_13).2 c_14).1 c_15).2 c_16)⟩⟩,fun c_15=> ⟨((((h.2 c_12).2 c_13).2 c_14).2 c_15).1,id,id,id,(by generalize (decide (2≤t.kind∧t.kind≤9))=b0;revert b0;decide),id,id,id,(by generalize (decide ((0:Int) < (t.words.length:Int)))=b0;generalize (decide (2≤t.kind∧t.kind≤9))=b1;revert b0 b1;decide),⟨fun c_17=> (((((h.2 c_12).2 c_13).2 c_14).2 c_15).2.1 c_17),fun c_17=> (((((h.2 c_12).2 c_13).2 c_14).2 c_15).2.2 c_17)⟩⟩⟩⟩⟩⟩
theorem Zla(N:Nat)(t:Tree)(d x73:Int)(N0:NT)(Q:QT)(h:((decide (x73 < (t.kids.length:Int)))=true→((0:Int)≤x73∧x73 < (t.kids.length:Int))∧(((t.kind !=1)=true→(Zam (t.kind,(Tree.mk (Tree.kind (t.kids.getD x73.toNat Tree.nil)) (Tree.words (t.kids.getD x73.toNat Tree.nil)) (Tree.kids (t.kids.getD x73.toNat Tree.nil))),()))∧(((!(!(Jz t.kind (Tree.mk (Tree.kind (t.kids.getD x73.toNat Tree.nil)) (Tree.words (t.kids.getD x73.toNat Tree.nil)) (Tree.kids (t.kids.getD x73.toNat Tree.nil))))))=true→InR (d - 1))∧((!(!(Jz t.kind (Tree.mk (Tree.kind (t.kids.getD x73.toNat Tree.nil)) (Tree.words (t.kids.getD x73.toNat Tree.nil)) (Tree.kids (t.kids.getD x73.toNat Tree.nil))))))=true→Z2a ((Tree.mk (Tree.kind (t.kids.getD x73.toNat Tree.nil)) (Tree.words (t.kids.getD x73.toNat Tree.nil)) (Tree.kids (t.kids.getD x73.toNat Tree.nil))),(d - 1),()))∧((!(!(Jz t.kind (Tree.mk (Tree.kind (t.kids.getD x73.toNat Tree.nil)) (Tree.words (t.kids.getD x73.toNat Tree.nil)) (Tree.kids (t.kids.getD x73.toNat Tree.nil))))))=true→Z5i ((Tree.mk (Tree.kind (t.kids.getD x73.toNat Tree.nil)) (Tree.words (t.kids.getD x73.toNat Tree.nil)) (Tree.kids (t.kids.getD x73.toNat Tree.nil))),(d - 1),()) < N)∧(((bif (!(Jz t.kind (Tree.mk (Tree.kind (t.kids.getD x73.toNat Tree.nil)) (Tree.words (t.kids.getD x73.toNat Tree.nil)) (Tree.kids (t.kids.getD x73.toNat Tree.nil))))) then true else (!(Z9 (Tree.mk (Tree.kind (t.kids.getD x73.toNat Tree.nil)) (Tree.words (t.kids.getD x73.toNat Tree.nil)) (Tree.kids (t.kids.getD x73.toNat Tree.nil))) (d - 1))))=true→Q .ret (L2 [(4,.c (.bool false))] []))∧((bif (!(Jz t.kind (Tree.mk (Tree.kind (t.kids.getD x73.toNat Tree.nil)) (Tree.words (t.kids.getD x73.toNat Tree.nil)) (Tree.kids (t.kids.getD x73.toNat Tree.nil))))) then true else (!(Z9 (Tree.mk (Tree.kind (t.kids.getD x73.toNat Tree.nil)) (Tree.words (t.kids.getD x73.toNat Tree.nil)) (Tree.kids (t.kids.getD x73.toNat Tree.nil))) (d - 1))))=false→(InR (x73+1))∧(N0 (Yy t d (x73+1)))))))∧((t.kind !=1)=false→((!(!(((Tree.kind (t.kids.getD x73.toNat Tree.nil)):Int) !=10)))=true→InR (d - 1))∧((!(!(((Tree.kind (t.kids.getD x73.toNat Tree.nil)):Int) !=10)))=true→Z2a ((Tree.mk (Tree.kind (t.kids.getD x73.toNat Tree.nil)) (Tree.words (t.kids.getD x73.toNat Tree.nil)) (Tree.kids (t.kids.getD x73.toNat Tree.nil))),(d - 1),()))∧((!(!(((Tree.kind (t.kids.getD x73.toNat Tree.nil)):Int) !=10)))=true→Z5i ((Tree.mk (Tree.kind (t.kids.getD x73.toNat Tree.nil)) (Tree.words (t.kids.getD x73.toNat Tree.nil)) (Tree.kids (t.kids.getD x73.toNat Tree.nil))),(d - 1),()) < N)∧(((bif (!(((Tree.kind (t.kids.getD x73.toNat Tree.nil)):Int) !=10)) then true else (!(Z9 (Tree.mk (Tree.kind (t.kids.getD x73.toNat Tree.nil)) (Tree.words (t.kids.getD x73.toNat Tree.nil)) (Tree.kids (t.kids.getD x73.toNat Tree.nil))) (d - 1))))=true→Q .ret (L2 [(4,.c (.bool false))] []))∧((bif (!(((Tree.kind (t.kids.getD x73.toNat Tree.nil)):Int) !=10)) then true else (!(Z9 (Tree.mk (Tree.kind (t.kids.getD x73.toNat Tree.nil)) (Tree.words (t.kids.getD x73.toNat Tree.nil)) (Tree.kids (t.kids.getD x73.toNat Tree.nil))) (d - 1))))=false→(InR (x73+1))∧(N0 (Yy t d (x73+1))))))))∧((decide (x73 < (t.kids.length:Int)))=false→Q .ret (L2 [(4,.c (.bool true))] []))):
  AW (Z0 (Ys N)) Try.f117 Z0I [1,1,0,1,0,0] (Yy t d x73) (xT N0 (xB 1 (SW (Z0 (Ys N)) Try.f117 Z0I [1,1,1] Q))):=by
 have e:(AW (Z0 (Ys N)) Try.f117 Z0I [1,1,0,1,0,0] (Yy t d x73) (xT N0 (xB 1 (SW (Z0 (Ys N)) Try.f117 Z0I [1,1,1] Q))))=(let zz2:=(!(Z9 (Tree.mk (Tree.kind (t.kids.getD x73.toNat Tree.nil)) (Tree.words (t.kids.getD x73.toNat Tree.nil)) (Tree.kids (t.kids.getD x73.toNat Tree.nil))) ((d:Int) - 1)));let zz1:=(!(((Tree.kind (t.kids.getD x73.toNat Tree.nil)):Int) !=10));let zz0:=(!(Jz t.kind (Tree.mk (Tree.kind (t.kids.getD x73.toNat Tree.nil)) (Tree.words (t.kids.getD x73.toNat Tree.nil)) (Tree.kids (t.kids.getD x73.toNat Tree.nil)))));(((decide ((x73:Int) < (t.kids.length:Int)))=true→((0:Int)≤x73∧x73 < (t.kids.length:Int))∧(((t.kind !=1)=true→(Zam (t.kind,(Tree.mk (Tree.kind (t.kids.getD x73.toNat Tree.nil)) (Tree.words (t.kids.getD x73.toNat Tree.nil)) (Tree.kids (t.kids.getD x73.toNat Tree.nil))),()))∧((Z7 ((!zz0)=true))∧((!zz0)=true→InR ((d:Int) - 1))∧(Z7 ((!zz0)=true))∧(Z7 ((!zz0)=true))∧((!zz0)=true→Z2a ((Tree.mk (Tree.kind (t.kids.getD x73.toNat Tree.nil)) (Tree.words (t.kids.getD x73.toNat Tree.nil)) (Tree.kids (t.kids.getD x73.toNat Tree.nil))),((d:Int) - 1),()))∧((!zz0)=true→Z5i ((Tree.mk (Tree.kind (t.kids.getD x73.toNat Tree.nil)) (Tree.words (t.kids.getD x73.toNat Tree.nil)) (Tree.kids (t.kids.getD x73.toNat Tree.nil))),((d:Int) - 1),()) < N)∧(Z7 ((!zz0)=true))∧(zz0=false→(!zz0)=true)∧(((bif zz0 then true else zz2)=true→(Q .ret (L2 [(4,.c (.bool false))] [])))∧((bif zz0 then true else zz2)=false→(InR ((x73:Int)+1))∧(N0 (Yy t d ((x73:Int)+1)))))))∧((t.kind !=1)=false→(Z7 ((!zz1)=true))∧((!zz1)=true→InR ((d:Int) - 1))∧(Z7 ((!zz1)=true))∧(Z7 ((!zz1)=true))∧((!zz1)=true→Z2a ((Tree.mk (Tree.kind (t.kids.getD x73.toNat Tree.nil)) (Tree.words (t.kids.getD x73.toNat Tree.nil)) (Tree.kids (t.kids.getD x73.toNat Tree.nil))),((d:Int) - 1),()))∧((!zz1)=true→Z5i ((Tree.mk (Tree.kind (t.kids.getD x73.toNat Tree.nil)) (Tree.words (t.kids.getD x73.toNat Tree.nil)) (Tree.kids (t.kids.getD x73.toNat Tree.nil))),((d:Int) - 1),()) < N)∧(Z7 ((!zz1)=true))∧(zz1=false→(!zz1)=true)∧(((bif zz1 then true else zz2)=true→(Q .ret (L2 [(4,.c (.bool false))] [])))∧((bif zz1 then true else zz2)=false→(InR ((x73:Int)+1))∧(N0 (Yy t d ((x73:Int)+1))))))))∧((decide ((x73:Int) < (t.kids.length:Int)))=false→(Q .ret (L2 [(4,.c (.bool true))] []))))):=by kernel_rfl
 exact e.mpr ⟨fun c_18=> ⟨(h.1 c_18).1,⟨fun c_19=> ⟨((h.1 c_18).2.1 c_19).1,⟨id,((h.1 c_18).2.1 c_19).2.1,id,id,((h.1 c_18).2.1 c_19).2.2.1,((h.1 c_18).2.1 c_19).2.2.2.1,id,(by generalize (Jz t.kind (Tree.mk (Tree.kind (t.kids.getD x73.toNat Tree.nil)) (Tree.words (t.kids.getD x73.toNat Tree.nil)) (Tree.kids (t.kids.getD x73.toNat Tree.nil))))=b0;revert b0;decide),⟨fun c_20=> (((h.1 c_18).2.1 c_19).2.2.2.2.1 c_20),fun c_20=> ⟨(((h.1 c_18).2.1 c_19).2.2.2.2.2 c_20).1,(((h.1 c_18).2.1 c_19).2.2.2.2.2 c_20).2⟩⟩⟩⟩,fun c_19=> ⟨id,((h.1 c_18).2.2 c_19).1,id,id,((h.1 c_18).2.2 c_19).2.1,((h.1 c_18).2.2 c_19).2.2.1,id,(by generalize (((Tree.kind (t.kids.getD x73.toNat Tree.nil)):Int) !=10)=b0;revert b0;decide),⟨fun c_21=> (((h.1 c_18).2.2 c_19).2.2.2.1 c_21),fun c_21=> ⟨(((h.1 c_18).2.2 c_19).2.2.2.2 c_21).1,(((h.1 c_18).2.2 c_19).2.2.2.2 c_21).2⟩⟩⟩⟩⟩,fun c_18=> (h.2 c_18)⟩
def ZqW(N:Nat)(t:Tree)(d:Int):Prop:=AW (Z0 (Ys N)) Try.f117 Z0I [] (Zm (Zdy.can (t,d,())) []) (EQ Try.f117 (ZcQ (t,d,())) [])
theorem ZpD(c92:CT 92 Z04)(Ztu:CT 162 Z65)(hb:∀ (N:Nat) (t:Tree) (d:Int) (_:Unit),Z2a (t,d,())→Z5i (t,d,()) < N+1→ZqW N t d):CT 117 Z68:=
 ZS (μ:=Z5i) (l:=[(92,Z04),(162,Z65)]) Zk rfl (⟨c92,Ztu,trivial⟩) Z0I Try.func117 rfl rfl 2 (fun _=> rfl) (by decide) (fun N ⟨t,d,_⟩=> hb N t d ())
def Zgt:List (FuncId × Fs U):=[(117,Z68)]
def ZpO:Zi U:=lvl [([1],[1]),([2],[])]
theorem Zwo(t:Tree)(Q:QT)(h:(Z2a ((Tree.mk t.kind t.words t.kids),64,()))∧(Q .ret (L2 [(2,.c (.bool (Z9 (Tree.mk t.kind t.words t.kids) 64)))] []))):
  AW (Z0 Zgt) Try.f80 ZpO [] (L2 [(0,.agg (enc .tree t))] []) Q:=by
 have e:(AW (Z0 Zgt) Try.f80 ZpO [] (L2 [(0,.agg (enc .tree t))] []) Q)=(type_of% h):=by kernel_rfl
 exact e.mpr ⟨h.1,h.2⟩
def Zu8(t:Tree):Prop:=AW (Z0 Zgt) Try.f80 ZpO [] (Zm (ZnE.can (t,())) []) (EQ Try.f80 (Zr9 (t,())) [])
theorem Zsm(ZtD:CT 117 Z68)(hb:∀ (t:Tree) (_:Unit),Zek (t,())→Zu8 t):CT 80 Z3C:=
 Z3 (l:=[(117,Z68)]) Zk rfl (⟨ZtD,trivial⟩) ZpO Try.func80 rfl rfl 1 (fun _=> rfl) (by decide) (fun ⟨t,_⟩=> hb t ())
def Z0b(N:Nat):List (FuncId × Fs U):=(37,fs Zh5 (fun a=> [Z3q a,ZeM a < N]) ZlI) ::[(79,Z9D)]
def Z96:Zi U:=lvl [([1,2],[2]),([1,2,10],[2]),([4],[]),([1,2,23],[2]),([4],[]),([1,2,68],[2]),([4],[]),([1,2,77],[2]),([4],[]),([1,2,5],[2]),([1,2,5,82],[2]),([1,2,5],[2]),([1,2,5,6],[2,6]),([1,2,5,6,94],[2,6]),([4],[]),([1,2,5,6,7],[2,6]),([1,2,5,131],[2]),([4],[]),([4],[])]
def Z1H(t:Tree)(d x5:Int):LSt U:=(L2 [(1,.c (ci d)),(2,.ptr (.loc 2) 0),(5,.c (ci x5))] [(.loc 2,(enc .tree t))])
abbrev ZkN(N:Nat):=awp cfg (Z0 (Z0b N)) (Zx cfg (Z0 (Z0b N))) Try.f37.ntmps Z96
abbrev ZjL(N:Nat):=Z3K cfg (Z0 (Z0b N)) (Zx cfg (Z0 (Z0b N))) Try.f37.ntmps Z96
theorem ZwN(N:Nat)(t:Tree)(d:Int)(Q:QT)(h:((t.kind==0)=true→Q .ret (L2 [(4,.c (.bool (bif (((t.words.length:Int):Int)==0) then (((t.kids.length:Int):Int)==0) else false)))] []))∧((t.kind==0)=false→((t.kind==10)=true→Q .ret (L2 [(4,.c (.bool (bif (((t.words.length:Int):Int)==1) then (((t.kids.length:Int):Int)==0) else false)))] []))∧((t.kind==10)=false→((bif (bif (bif (bif (bif (decide (t.kind < 0)) then true else (decide ((10:Int) < t.kind))) then true else (d==0)) then true else (decide ((65536:Int)≤(t.words.length:Int)))) then true else (bif (t.kind==1) then (decide ((65536:Int)≤(t.kids.length:Int))) else false)) then true else (decide ((1048576:Int)≤(t.kids.length:Int))))=true→Q .ret (L2 [(4,.c (.bool false))] []))∧((bif (bif (bif (bif (bif (decide (t.kind < 0)) then true else (decide ((10:Int) < t.kind))) then true else (d==0)) then true else (decide ((65536:Int)≤(t.words.length:Int)))) then true else (bif (t.kind==1) then (decide ((65536:Int)≤(t.kids.length:Int))) else false)) then true else (decide ((1048576:Int)≤(t.kids.length:Int))))=false→((bif (decide ((1:Int) < t.kind)) then (decide ((0:Int) < (t.words.length:Int))) else false)=true→Q .ret (L2 [(4,.c (.bool false))] []))∧((bif (decide ((1:Int) < t.kind)) then (decide ((0:Int) < (t.words.length:Int))) else false)=false→Zh (AW (Z0 (Z0b N)) Try.f37 Z96 [1,1,1,1,1,0,1,0,0]) (Z1H t d 0) (xB 0 (SW (Z0 (Z0b N)) Try.f37 Z96 [1,1,1,1,1,1] Q))))))):
  AW (Z0 (Z0b N)) Try.f37 Z96 [] (L2 [(0,.agg (enc .tree t)),(1,.c (ci d))] []) Q:=by
 have e:(AW (Z0 (Z0b N)) Try.f37 Z96 [] (L2 [(0,.agg (enc .tree t)),(1,.c (ci d))] []) Q)=(let zz7:=(decide ((1048576:Int)≤(t.kids.length:Int)));let zz6:=(decide (t.kind < 0));let zz5:=((t.words.length:Int)==1);let zz4:=((t.words.length:Int)==0);let zz3:=(decide ((1:Int) < t.kind));let zz2:=(bif (t.kind==1) then (decide ((65536:Int)≤(t.kids.length:Int))) else false);let zz1:=(bif zz6 then true else (decide ((10:Int) < t.kind)));let zz0:=(bif (bif zz1 then true else ((d:Int)==0)) then true else (decide ((65536:Int)≤(t.words.length:Int))));(((t.kind==0)=true→(Z7 (zz4=true))∧(Z7 (zz4=true))∧(Z7 (zz4=true))∧(Z7 (zz4=true))∧(Q .ret (L2 [(4,.c (.bool (bif zz4 then ((t.kids.length:Int)==0) else false)))] [])))∧((t.kind==0)=false→(((t.kind==10)=true→(Z7 (zz5=true))∧(Z7 (zz5=true))∧(Z7 (zz5=true))∧(Z7 (zz5=true))∧(Q .ret (L2 [(4,.c (.bool (bif zz5 then ((t.kids.length:Int)==0) else false)))] [])))∧((t.kind==10)=false→(Z7 ((!zz6)=true))∧(Z7 ((!zz6)=true))∧(zz6=false→(!zz6)=true)∧(Z7 ((!zz1)=true))∧(zz1=false→(!zz1)=true)∧(Z7 ((!(bif zz1 then true else ((d:Int)==0)))=true))∧(Z7 ((!(bif zz1 then true else ((d:Int)==0)))=true))∧(Z7 ((!(bif zz1 then true else ((d:Int)==0)))=true))∧((bif zz1 then true else ((d:Int)==0))=false→(!(bif zz1 then true else ((d:Int)==0)))=true)∧(Z7 ((!zz0)=true))∧(Z7 ((!zz0)=true))∧(Z7 ((!zz0)=true))∧(Z7 (((!zz0) && (t.kind==1))=true))∧(Z7 (((!zz0) && (t.kind==1))=true))∧(Z7 (((!zz0) && (t.kind==1))=true))∧((!zz0)=true→(True→(!zz0)=true))∧((!zz0)=true→((t.kind==1)=true→((!zz0) && (t.kind==1))=true))∧(zz0=false→(!zz0)=true)∧(Z7 ((!(bif zz0 then true else zz2))=true))∧(Z7 ((!(bif zz0 then true else zz2))=true))∧(Z7 ((!(bif zz0 then true else zz2))=true))∧((bif zz0 then true else zz2)=false→(!(bif zz0 then true else zz2))=true)∧(((bif (bif zz0 then true else zz2) then true else zz7)=true→(Q .ret (L2 [(4,.c (.bool false))] [])))∧((bif (bif zz0 then true else zz2) then true else zz7)=false→(Z7 (zz3=true))∧(Z7 (zz3=true))∧(Z7 (zz3=true))∧(Z7 (zz3=true))∧(((bif zz3 then (decide ((0:Int) < (t.words.length:Int))) else false)=true→(Q .ret (L2 [(4,.c (.bool false))] [])))∧((bif zz3 then (decide ((0:Int) < (t.words.length:Int))) else false)=false→(Zh (ZkN N (cd Try.f37 [1,1,1,1,1,0,1,0,0])) (Z1H t d 0) (xB 0 (ZjL N (cd Try.f37 [1,1,1,1,1,1]) Q)))))))))))):=by kernel_rfl
 exact e.mpr ⟨fun c_22=> ⟨id,id,id,(by generalize (((t.words.length:Int):Int)==0)=b0;revert b0;decide),(h.1 c_22)⟩,fun c_22=> ⟨fun c_23=> ⟨id,id,id,(by generalize (((t.words.length:Int):Int)==1)=b0;revert b0;decide),((h.2 c_22).1 c_23)⟩,fun c_23=> ⟨id,id,(by generalize (decide ((t.kind:Int) < 0))=b0;revert b0;decide),id,(by generalize (decide ((10:Int) < t.kind))=b0;generalize (decide ((t.kind:Int) < 0))=b1;revert b0 b1;decide),id,id,id,(by generalize (decide ((10:Int) < t.kind))=b0;generalize (decide ((t.kind:Int) < 0))=b1;generalize ((d:Int)==0)=b2;revert b0 b1 b2;decide),id,id,id,id,id,id,(by generalize (decide ((65536:Int)≤(t.words.length:Int)))=b0;generalize (decide ((10:Int) < t.kind))=b1;generalize (decide ((t.kind:Int) < 0))=b2;generalize ((d:Int)==0)=b3;revert b0 b1 b2 b3;decide),(by generalize (decide ((65536:Int)≤(t.words.length:Int)))=b0;generalize (decide ((10:Int) < t.kind))=b1;generalize (decide ((t.kind:Int) < 0))=b2;generalize ((t.kind:Int)==1)=b3;generalize ((d:Int)==0)=b4;revert b0 b1 b2 b3 b4;decide),(by generalize (decide ((65536:Int)≤(t.words.length:Int)))=b0;generalize (decide ((10:Int) < t.kind))=b1;generalize (decide ((t.kind:Int) < 0))=b2;generalize ((d:Int)==0)=b3;revert b0 b1 b2 b3;decide),id,id,id,(by generalize (decide ((65536:Int)≤(t.words.length:Int)))=b0;generalize (decide ((65536:Int)≤(t.kids.length:Int)))=b1;generalize (decide ((10:Int) < t.kind))=b2;generalize (decide ((t.kind:Int) < 0))=b3;generalize ((t.kind:Int)==1)=b4;generalize ((d:Int)==0)=b5;revert b0 b1 b2 b3 b4 b5;decide),⟨fun c_24=> (((h.2 c_22).2 c_23).1 c_24),fun c_24=> ⟨id,id,id,(by generalize (decide ((1:Int) < t.kind))=b0;revert b0;decide),⟨fun c_25=> ((((h.2 c_22).2 c_23).2 c_24).1 c_25),fun c_25=> ((((h.2 c_22).2 c_23).2 c_24).2 c_25)⟩⟩⟩⟩⟩⟩
theorem ZoL(N:Nat)(t:Tree)(d x5:Int)(N0:NT)(Q:QT)(h:((decide (x5 < (t.kids.length:Int)))=true→((0:Int)≤x5∧x5 < (t.kids.length:Int))∧((InR (d - 1))∧(Z3q ((Tree.mk (Tree.kind (t.kids.getD x5.toNat Tree.nil)) (Tree.words (t.kids.getD x5.toNat Tree.nil)) (Tree.kids (t.kids.getD x5.toNat Tree.nil))),(d - 1),()))∧(ZeM ((Tree.mk (Tree.kind (t.kids.getD x5.toNat Tree.nil)) (Tree.words (t.kids.getD x5.toNat Tree.nil)) (Tree.kids (t.kids.getD x5.toNat Tree.nil))),(d - 1),()) < N)∧(((!(Z9 (Tree.mk (Tree.kind (t.kids.getD x5.toNat Tree.nil)) (Tree.words (t.kids.getD x5.toNat Tree.nil)) (Tree.kids (t.kids.getD x5.toNat Tree.nil))) (d - 1)))=true→Q .ret (L2 [(4,.c (.bool false))] []))∧((!(Z9 (Tree.mk (Tree.kind (t.kids.getD x5.toNat Tree.nil)) (Tree.words (t.kids.getD x5.toNat Tree.nil)) (Tree.kids (t.kids.getD x5.toNat Tree.nil))) (d - 1)))=false→(((!(bif ((bif (decide ((2:Int)≤t.kind)) then (decide (t.kind≤7)) else false) !=(((Tree.kind (t.kids.getD x5.toNat Tree.nil)):Int)==10)) then true else (bif (t.kind==9) then (((Tree.kind (t.kids.getD x5.toNat Tree.nil)):Int) !=1) else false))) && (bif (decide ((2:Int)≤t.kind)) then (decide (t.kind≤7)) else false))=true→InR (t.kind - 2))∧(((!(bif ((bif (decide ((2:Int)≤t.kind)) then (decide (t.kind≤7)) else false) !=(((Tree.kind (t.kids.getD x5.toNat Tree.nil)):Int)==10)) then true else (bif (t.kind==9) then (((Tree.kind (t.kids.getD x5.toNat Tree.nil)):Int) !=1) else false))) && (bif (decide ((2:Int)≤t.kind)) then (decide (t.kind≤7)) else false))=true→(0:Int)≤0∧0 < ((Tree.words (t.kids.getD x5.toNat Tree.nil)).length:Int))∧(((!(bif ((bif (decide ((2:Int)≤t.kind)) then (decide (t.kind≤7)) else false) !=(((Tree.kind (t.kids.getD x5.toNat Tree.nil)):Int)==10)) then true else (bif (t.kind==9) then (((Tree.kind (t.kids.getD x5.toNat Tree.nil)):Int) !=1) else false))) && (bif (decide ((2:Int)≤t.kind)) then (decide (t.kind≤7)) else false))=true→Zel ((t.kind - 2),(List.getD (Tree.words (t.kids.getD x5.toNat Tree.nil)) (Int.toNat 0) (0:Int)),()))∧(((bif (bif ((bif (decide ((2:Int)≤t.kind)) then (decide (t.kind≤7)) else false) !=(((Tree.kind (t.kids.getD x5.toNat Tree.nil)):Int)==10)) then true else (bif (t.kind==9) then (((Tree.kind (t.kids.getD x5.toNat Tree.nil)):Int) !=1) else false)) then true else (bif (bif (decide ((2:Int)≤t.kind)) then (decide (t.kind≤7)) else false) then (!(Z99 (t.kind - 2) (List.getD (Tree.words (t.kids.getD x5.toNat Tree.nil)) (Int.toNat 0) (0:Int)))) else false))=true→Q .ret (L2 [(4,.c (.bool false))] []))∧((bif (bif ((bif (decide ((2:Int)≤t.kind)) then (decide (t.kind≤7)) else false) !=(((Tree.kind (t.kids.getD x5.toNat Tree.nil)):Int)==10)) then true else (bif (t.kind==9) then (((Tree.kind (t.kids.getD x5.toNat Tree.nil)):Int) !=1) else false)) then true else (bif (bif (decide ((2:Int)≤t.kind)) then (decide (t.kind≤7)) else false) then (!(Z99 (t.kind - 2) (List.getD (Tree.words (t.kids.getD x5.toNat Tree.nil)) (Int.toNat 0) (0:Int)))) else false))=false→(InR (x5+1))∧(N0 (Z1H t d (x5+1)))))))))∧((decide (x5 < (t.kids.length:Int)))=false→Q .ret (L2 [(4,.c (.bool true))] []))):
  AW (Z0 (Z0b N)) Try.f37 Z96 [1,1,1,1,1,0,1,0,0] (Z1H t d x5) (xT N0 (xB 0 (SW (Z0 (Z0b N)) Try.f37 Z96 [1,1,1,1,1,1] Q))):=by
 have e:(AW (Z0 (Z0b N)) Try.f37 Z96 [1,1,1,1,1,0,1,0,0] (Z1H t d x5) (xT N0 (xB 0 (SW (Z0 (Z0b N)) Try.f37 Z96 [1,1,1,1,1,1] Q))))=(let zz5:=(decide ((2:Int)≤t.kind));let zz4:=(!(Z99 (t.kind - 2) (List.getD (Tree.words (t.kids.getD x5.toNat Tree.nil)) (Int.toNat 0) (0:Int))));let zz3:=(!(Z9 (Tree.mk (Tree.kind (t.kids.getD x5.toNat Tree.nil)) (Tree.words (t.kids.getD x5.toNat Tree.nil)) (Tree.kids (t.kids.getD x5.toNat Tree.nil))) ((d:Int) - 1)));let zz2:=(((Tree.kind (t.kids.getD x5.toNat Tree.nil)):Int)==10);let zz1:=(bif zz5 then (decide (t.kind≤7)) else false);let zz0:=(bif (zz1 !=zz2) then true else (bif (t.kind==9) then (((Tree.kind (t.kids.getD x5.toNat Tree.nil)):Int) !=1) else false));(((decide ((x5:Int) < (t.kids.length:Int)))=true→((0:Int)≤x5∧x5 < (t.kids.length:Int))∧((InR ((d:Int) - 1))∧(Z3q ((Tree.mk (Tree.kind (t.kids.getD x5.toNat Tree.nil)) (Tree.words (t.kids.getD x5.toNat Tree.nil)) (Tree.kids (t.kids.getD x5.toNat Tree.nil))),((d:Int) - 1),()))∧(ZeM ((Tree.mk (Tree.kind (t.kids.getD x5.toNat Tree.nil)) (Tree.words (t.kids.getD x5.toNat Tree.nil)) (Tree.kids (t.kids.getD x5.toNat Tree.nil))),((d:Int) - 1),()) < N)∧((zz3=true→(Q .ret (L2 [(4,.c (.bool false))] [])))∧(zz3=false→(Z7 (zz5=true))∧(Z7 (zz5=true))∧(Z7 (zz5=true))∧((Z7 ((!(zz1 !=zz2))=true))∧(Z7 ((!(zz1 !=zz2))=true))∧(Z7 ((!(zz1 !=zz2))=true))∧(Z7 (((!(zz1 !=zz2)) && (t.kind==9))=true))∧(Z7 (((!(zz1 !=zz2)) && (t.kind==9))=true))∧((!(zz1 !=zz2))=true→(True→(!(zz1 !=zz2))=true))∧((!(zz1 !=zz2))=true→((t.kind==9)=true→((!(zz1 !=zz2)) && (t.kind==9))=true))∧((zz1 !=zz2)=false→(!(zz1 !=zz2))=true)∧(Z7 ((!zz0)=true))∧(Z7 (((!zz0) && zz1)=true))∧(Z7 (((!zz0) && zz1)=true))∧(((!zz0) && zz1)=true→InR (t.kind - 2))∧(Z7 (((!zz0) && zz1)=true))∧(Z7 (((!zz0) && zz1)=true))∧(((!zz0) && zz1)=true→(0:Int)≤0∧0 < ((Tree.words (t.kids.getD x5.toNat Tree.nil)).length:Int))∧(Z7 (((!zz0) && zz1)=true))∧(Z7 (((!zz0) && zz1)=true))∧(Z7 (((!zz0) && zz1)=true))∧(((!zz0) && zz1)=true→Zel ((t.kind - 2),(List.getD (Tree.words (t.kids.getD x5.toNat Tree.nil)) (Int.toNat 0) (0:Int)),()))∧(Z7 (((!zz0) && zz1)=true))∧((!zz0)=true→(True→(!zz0)=true))∧((!zz0)=true→(zz1=true→((!zz0) && zz1)=true))∧(zz0=false→(!zz0)=true)∧(((bif zz0 then true else (bif zz1 then zz4 else false))=true→(Q .ret (L2 [(4,.c (.bool false))] [])))∧((bif zz0 then true else (bif zz1 then zz4 else false))=false→(InR ((x5:Int)+1))∧(N0 (Z1H t d ((x5:Int)+1))))))))))∧((decide ((x5:Int) < (t.kids.length:Int)))=false→(Q .ret (L2 [(4,.c (.bool true))] []))))):=by kernel_rfl
 exact e.mpr ⟨fun c_26=> ⟨(h.1 c_26).1,⟨(h.1 c_26).2.1,(h.1 c_26).2.2.1,(h.1 c_26).2.2.2.1,⟨fun c_27=> ((h.1 c_26).2.2.2.2.1 c_27),fun c_27=> ⟨id,id,(by generalize (decide ((2:Int)≤t.kind))=b0;revert b0;decide),⟨id,id,id,id,id,(by generalize ((bif (decide ((2:Int)≤t.kind)) then (decide ((t.kind:Int)≤7)) else false) !=(((Tree.kind (t.kids.getD x5.toNat Tree.nil)):Int)==10))=b0;revert b0;decide),(by generalize ((bif (decide ((2:Int)≤t.kind)) then (decide ((t.kind:Int)≤7)) else false) !=(((Tree.kind (t.kids.getD x5.toNat Tree.nil)):Int)==10))=b0;generalize ((t.kind:Int)==9)=b1;revert b0 b1;decide),(by generalize ((bif (decide ((2:Int)≤t.kind)) then (decide ((t.kind:Int)≤7)) else false) !=(((Tree.kind (t.kids.getD x5.toNat Tree.nil)):Int)==10))=b0;revert b0;decide),id,id,id,((h.1 c_26).2.2.2.2.2 c_27).1,id,id,((h.1 c_26).2.2.2.2.2 c_27).2.1,id,id,id,((h.1 c_26).2.2.2.2.2 c_27).2.2.1,id,(by generalize ((bif (decide ((2:Int)≤t.kind)) then (decide ((t.kind:Int)≤7)) else false) !=(((Tree.kind (t.kids.getD x5.toNat Tree.nil)):Int)==10))=b0;generalize (((Tree.kind (t.kids.getD x5.toNat Tree.nil)):Int) !=1)=b1;generalize ((t.kind:Int)==9)=b2;revert b0 b1 b2;decide),(by generalize ((bif (decide ((2:Int)≤t.kind)) then (decide ((t.kind:Int)≤7)) else false) !=(((Tree.kind (t.kids.getD x5.toNat Tree.nil)):Int)==10))=b0;generalize (((Tree.kind (t.kids.getD x5.toNat Tree.nil)):Int) !=1)=b1;generalize (decide ((2:Int)≤t.kind))=b2;generalize (decide ((t.kind:Int)≤7))=b3;generalize ((t.kind:Int)==9)=b4;revert b0 b1 b2 b3 b4;decide),(by generalize ((bif (decide ((2:Int)≤t.kind)) then (decide ((t.kind:Int)≤7)) else false) !=(((Tree.kind (t.kids.getD x5.toNat Tree.nil)):Int)==10))=b0;generalize (((Tree.kind (t.kids.getD x5.toNat Tree.nil)):Int) !=1)=b1;generalize ((t.kind:Int)==9)=b2;revert b0 b1 b2;decide),⟨fun c_28=> (((h.1 c_26).2.2.2.2.2 c_27).2.2.2.1 c_28),fun c_28=> ⟨(((h.1 c_26).2.2.2.2.2 c_27).2.2.2.2 c_28).1,(((h.1 c_26).2.2.2.2.2 c_27).2.2.2.2 c_28).2⟩⟩⟩⟩⟩⟩⟩,fun c_26=> (h.2 c_26)⟩
def Zux(N:Nat)(t:Tree)(d:Int):Prop:=AW (Z0 (Z0b N)) Try.f37 Z96 [] (Zm (Zh5.can (t,d,())) []) (EQ Try.f37 (ZlI (t,d,())) [])
theorem ZsH(c79:CT 79 Z9D)(hb:∀ (N:Nat) (t:Tree) (d:Int) (_:Unit),Z3q (t,d,())→ZeM (t,d,()) < N+1→Zux N t d):CT 37 Z2W:=
 ZS (μ:=ZeM) (l:=[(79,Z9D)]) Zk rfl (⟨c79,trivial⟩) Z96 Try.func37 rfl rfl 2 (fun _=> rfl) (by decide) (fun N ⟨t,d,_⟩=> hb N t d ())
end
end
end Go.AM.Ytpjenobkibfpcaa
namespace Go.AM.Ytpjenobkibfpcaa
open Go.AM Go.Proofs
theorem Z2S:∀ (l:List Int),trim l=[]↔∀ i:Nat,l.getD i 0=0
 | []=> by simp [trim]
 | x ::r=> by
  have ih:=Z2S r
  constructor
  ·intro h i
   simp only [trim] at h
   split at h
   ·rename_i hr
    split at h
    ·cases i with
     | zero=> simpa
     | succ i=> simpa using (ih.1 hr) i
    ·cases h
   ·cases h
  ·intro h
   have h0:=h 0
   have hr:trim r=[]:=ih.2 fun i=> by simpa using h (i+1)
   simp only [trim,hr]
   simp at h0
   simp [h0]
theorem Z13(x:Int)(r:List Int):trim (x ::r)=if trim r=[]∧x=0 then [] else x ::trim r:=by
 simp only [trim]
 split
 ·rename_i h
  simp only [h]
  split <;> simp_all
 ·rename_i h
  simp [h]
theorem Z8e:∀ (a b:List Int),trim a=trim b↔∀ i:Nat,a.getD i 0=b.getD i 0
 | [],b=> by
  rw [show trim []=[] from rfl,eq_comm,Z2S]
  simp [eq_comm]
 | x ::r,[]=> by
  rw [show trim []=[] from rfl,Z2S]
  simp
 | x ::r,y ::s=> by
  have ih:=Z8e r s
  constructor
  ·intro h i
   have key:x=y∧trim r=trim s:=by
    rw [Z13,Z13] at h
    split at h <;> split at h <;> simp_all
   cases i with
   | zero=> simpa using key.1
   | succ i=> simpa using ih.1 key.2 i
  ·intro h
   have h0:x=y:=by simpa using h 0
   have hr:trim r=trim s:=ih.2 fun i=> by simpa using h (i+1)
   rw [Z13,Z13,h0,hr]
def Zqw(l:List Tree):Prop:=∀ x∈l,x.kind=0→x=Tree.nil
theorem YY(x:Tree)(r:List Tree):ZY (x ::r)=if ZY r=[]∧x.kind=0 then [] else x ::ZY r:=by
 simp only [ZY]
 split
 ·rename_i h
  simp only [h]
  split <;> simp_all
 ·rename_i h
  simp [h]
theorem Z25:∀ (l:List Tree),Zqw l→(ZY l=[]↔∀ i:Nat,l.getD i Tree.nil=Tree.nil)
 | [],_=> by simp [ZY]
 | x ::r,hn=> by
  have ih:=Z25 r (fun y hy=> hn y (List.mem_cons_of_mem _ hy))
  have hx:=hn x (List.mem_cons_self ..)
  rw [YY]
  constructor
  ·intro h i
   split at h
   ·rename_i hc
    cases i with
    | zero=> simpa using hx hc.2
    | succ i=> simpa using (ih.1 hc.1) i
   ·cases h
  ·intro h
   have h0:x=Tree.nil:=by simpa using h 0
   have hr:ZY r=[]:=ih.2 fun i=> by simpa using h (i+1)
   rw [if_pos ⟨hr,by rw [h0];rfl⟩]
theorem Z5W:∀ (a b:List Tree),Zqw a→Zqw b→(ZY a=ZY b↔∀ i:Nat,a.getD i Tree.nil=b.getD i Tree.nil)
 | [],b,_,hb=> by
  rw [show ZY []=[] from rfl,eq_comm,Z25 b hb]
  simp [eq_comm]
 | x ::r,[],ha,_=> by
  rw [show ZY []=[] from rfl,Z25 _ ha]
  simp
 | x ::r,y ::s,ha,hb=> by
  have ih:=Z5W r s (fun y hy=> ha y (List.mem_cons_of_mem _ hy)) (fun y hy=> hb y (List.mem_cons_of_mem _ hy))
  have hx:=ha x (List.mem_cons_self ..)
  have hy:=hb y (List.mem_cons_self ..)
  constructor
  ·intro h i
   have key:x=y∧ZY r=ZY s:=by
    rw [YY,YY] at h
    split at h <;> split at h
    ·rename_i h1 h2
     exact ⟨(hx h1.2).trans (hy h2.2).symm,h1.1.trans h2.1.symm⟩
    ·cases h
    ·cases h
    ·simpa using h
   cases i with
   | zero=> simpa using key.1
   | succ i=> simpa using ih.1 key.2 i
  ·intro h
   have h0:x=y:=by simpa using h 0
   have hr:ZY r=ZY s:=ih.2 fun i=> by simpa using h (i+1)
   rw [YY,YY,h0,hr]
theorem Z7P:Z6 Tree.nil=Tree.nil:=by simp [Tree.nil,Z6]
theorem Z5J(t:Tree):(Z6 t).kind=t.kind:=by
 obtain ⟨k,w,ks⟩:=t
 simp only [Z6]
 split
 ·rename_i h;simp [h,Tree.nil]
 ·split
  ·rename_i h;simp [h]
  ·try rfl
theorem Z5L:∀ (l:List Tree),Zqw (ZV l)
 | []=> by intro x hx;simp [ZV] at hx
 | t ::r=> by
  intro x hx hk
  simp only [ZV,List.mem_cons] at hx
  rcases hx with rfl | hx
  ·rw [Z5J] at hk
   obtain ⟨k,w,ks⟩:=t
   simp only [Tree.kind_mk] at hk
   simp [Z6,hk]
  ·exact Z5L r x hx hk
theorem Jw:∀ (l:List Tree) (i:Nat),(ZV l).getD i Tree.nil=Z6 (l.getD i Tree.nil)
 | [],i=> by simp [ZV,Z7P]
 | t ::r,0=> by simp [ZV]
 | t ::r,i+1=> by simpa [ZV] using Jw r i
theorem Z6s(a b:List Tree):ZV a=ZV b↔a.length=b.length∧∀ i:Nat,Z6 (a.getD i Tree.nil)=Z6 (b.getD i Tree.nil):=by
 constructor
 ·intro h
  refine ⟨by rw [←Z08 a,h,Z08],fun i=> ?_⟩
  rw [←Jw,h,Jw]
 ·rintro ⟨hl,h⟩
  apply List.ext_getElem (by rw [Z08,Z08,hl])
  intro i h1 h2
  have:=h i
  rw [←Jw,←Jw] at this
  simpa [List.getD,h1,h2] using this
theorem Yd(a b:Tree):Z6 a=Z6 b↔a.kind=b.kind∧(a.kind=0∨(if a.kind=1 then (∀ i:Nat,a.words.getD i 0=b.words.getD i 0) else a.words=b.words∧a.kids.length=b.kids.length)∧∀ i:Nat,Z6 (a.kids.getD i Tree.nil)=Z6 (b.kids.getD i Tree.nil)):=by
 obtain ⟨k,w,ks⟩:=a
 obtain ⟨k',w',ks'⟩:=b
 show _↔k=k'∧(k=0∨(if k=1 then (∀ i:Nat,w.getD i 0=w'.getD i 0) else w=w'∧ks.length=ks'.length)∧∀ i:Nat,Z6 (ks.getD i Tree.nil)=Z6 (ks'.getD i Tree.nil))
 by_cases hk:k=k'
 ·subst hk
  simp only [true_and]
  by_cases h0:k=0
  ·simp [Z6,h0]
  ·by_cases h1:k=1
   ·subst h1
    simp only [Z6,if_neg h0,if_true,Tree.mk.injEq,true_and,Z8e,Z5W _ _ (Z5L _) (Z5L _),Jw]
    simp
   ·simp only [Z6,if_neg h0,if_neg h1,Tree.mk.injEq,true_and,Z6s]
    constructor
    ·rintro ⟨h2,h3,h4⟩;exact .inr ⟨⟨h2,h3⟩,h4⟩
    ·rintro (h | ⟨⟨h2,h3⟩,h4⟩)
     ·exact absurd h h0
     ·exact ⟨h2,h3,h4⟩
 ·simp only [hk,false_and,iff_false]
  intro h
  have:=congrArg Tree.kind h
  rw [Z5J,Z5J] at this
  exact hk this
end Go.AM.Ytpjenobkibfpcaa
namespace Go.AM.Ytpjenobkibfpcaa
open Go.AM Go.Proofs
theorem ZdO{a b:Tree}(h:Z6 a=Z6 b)(h0:a.kind≠0)(i:Nat):a.words.getD i 0=b.words.getD i 0:=by
 obtain ⟨_,h2⟩:=(Yd a b).1 h
 rcases h2 with h2 | ⟨h2,_⟩
 ·exact absurd h2 h0
 ·split at h2
  ·exact h2 i
  ·rw [h2.1]
theorem ZgO{a b:Tree}(h:Z6 a=Z6 b)(h0:a.kind≠0)(i:Nat):Z6 (a.kids.getD i Tree.nil)=Z6 (b.kids.getD i Tree.nil):=by
 obtain ⟨_,h2⟩:=(Yd a b).1 h
 rcases h2 with h2 | ⟨_,h2⟩
 ·exact absurd h2 h0
 ·exact h2 i
theorem ZaV(t:Tree)(i:Int):Zj (YI t i)≤Zj t∧(i < t.kids.length→0≤i→Zj (YI t i) < Zj t):=by
 obtain ⟨k,w,ks⟩:=t
 unfold YI
 have h1:Zj Tree.nil=1:=by simp [Tree.nil,Zj,Zb]
 split
 ·simp only [h1,Zj];omega
 ·simp only [Tree.kids_mk]
  by_cases hi:i.toNat < ks.length
  ·have:=Jd hi
   simp only [Zj];omega
  ·rw [List.getD,List.getElem?_eq_none (by omega)]
   simp only [Option.getD_none,h1,Zj];omega
theorem ZkC:Contract Try.prog cfg 106 Z0O:=by
 refine ZpH Zty Zkz c91 ?_
 rintro N a b _ hp hN
 have la:a.words.length+a.kids.length < Zj a:=by obtain ⟨k,w,ks⟩:=a;have:=Zs ks;simp only [Zj,Tree.words_mk,Tree.kids_mk];omega
 have lb:b.words.length+b.kids.length < Zj b:=by obtain ⟨k,w,ks⟩:=b;have:=Zs ks;simp only [Zj,Tree.words_mk,Tree.kids_mk];omega
 simp only [Z1y,Zc1] at hp hN
 have no:¬Z6 a=Z6 b→Jg cfg Try.f106.ntmps Try.f106.results.toList (Z5z (a,b,())) [] .ret (⟨[(4,.c (.bool false))],[],[]⟩:LSt U):=by
  intro h
  have e:Yv (Z6 a) (Z6 b)=false:=Yz.2 h
  simp only [Z5z,e]
  exact ⟨⟨rfl,⟨rfl,trivial⟩,trivial⟩,trivial⟩
 refine Zvl N _ _ _ ?_;(try simp only [vcT,forall_eq])
 (simp only [vcS]);(try simp only [vcT])
 refine ⟨fun hc=> ?_,fun hc=> ?_⟩
 ·have e:Yv (Z6 a) (Z6 b)=(a.kind==b.kind):=by
   by_cases hk:a.kind=b.kind
   ·have h0:a.kind=0:=by rcases hc with h | h;exact absurd hk h;exact h
    rw [J0.2 ((Yd a b).2 ⟨hk,.inl h0⟩)]
    simp [hk]
   ·rw [Yz.2 (fun h=> hk ((Yd a b).1 h).1)]
    simp [hk]
  simp only [Z5z,e]
  exact ⟨⟨rfl,⟨rfl,trivial⟩,trivial⟩,trivial⟩
 ·refine ⟨fun _=> by simp only [Zaq];omega,fun h h'=> ⟨h,h'⟩,fun hd=> no ?_,fun hd=> ?_⟩
  ·intro h
   obtain ⟨_,h2⟩:=(Yd a b).1 h
   rcases h2 with h2 | ⟨h2,_⟩
   ·exact hc.2 h2
   ·rw [if_neg hd.1] at h2
    rcases hd.2 with h3 | h3
    ·exact h3 (by omega)
    ·exact h3 h2.1
  ·refine Za (ι:=Int) (fun p=> Z4Z a b p) (fun p=> 0≤p∧p≤2000000000000∧∀ j:Nat,j < p.toNat→a.words.getD j 0=b.words.getD j 0) (fun p=> (2000000000000 - p).toNat) 0 rfl ⟨by omega,by omega,fun j hj=> by simp at hj⟩ ?_
   rintro i ⟨h1,h2,h3⟩
   refine Zlj N _ _ _ _ _ ?_;(try simp only [vcT,forall_eq])
   (simp only [vcS]);(try simp only [vcT])
   have wa:∀ t:Tree,YX t i=t.words.getD i.toNat 0:=fun t=> by unfold YX;rw [if_neg (by omega)]
   refine ⟨fun hi=> ⟨trivial,trivial,fun hn=> no fun h=> hn ?_,fun he=> ⟨?_,?_⟩⟩,fun hi=> ?_⟩
   ·rw [wa,wa]
    exact ZdO h hc.2 _
   ·unfold InR;split at hi <;> omega
   ·refine ⟨i+1,rfl,⟨by omega,by split at hi <;> omega,fun j hj=> ?_⟩,by split at hi <;> omega⟩
    by_cases hj':j < i.toNat
    ·exact h3 j hj'
    ·have:j=i.toNat:=by omega
     rw [this,←wa,←wa]
     exact he
   ·have hw:∀ j:Nat,a.words.getD j 0=b.words.getD j 0:=fun j=> by
     by_cases hj:j < i.toNat
     ·exact h3 j hj
     ·split at hi <;> rw [List.getD,List.getD,List.getElem?_eq_none (by omega),List.getElem?_eq_none (by omega)]
    refine Za (ι:=Int) (fun p=> Z4Y a b p) (fun p=> 0≤p∧p≤2000000000000∧∀ j:Nat,j < p.toNat→Z6 (a.kids.getD j Tree.nil)=Z6 (b.kids.getD j Tree.nil)) (fun p=> (2000000000000 - p).toNat) 0 rfl ⟨by omega,by omega,fun j hj=> by simp at hj⟩ ?_
    rintro q ⟨h5,h6,h7⟩
    refine Zli N _ _ _ _ _ ?_;(try simp only [vcT,forall_eq])
    (simp only [vcS]);(try simp only [vcT])
    have ka:∀ t:Tree,YI t q=t.kids.getD q.toNat Tree.nil:=fun t=> by unfold YI;rw [if_neg (by omega)]
    have ma:=ZaV a q
    have mb:=ZaV b q
    try (simp only [Tree.eta,Edit.eta,Tree.kind_mk,Tree.words_mk,Tree.kids_mk])
    refine ⟨fun hq=> ⟨trivial,trivial,?_,?_,fun hn=> no fun h=> ?_,fun he=> ⟨?_,?_⟩⟩,fun hq=> ?_⟩
    ·simp only [Z1y];omega
    ·simp only [Zc1];split at hq <;> omega
    ·rw [Yz] at hn
     apply hn
     rw [ka,ka]
     exact ZgO h hc.2 _
    ·unfold InR;split at hq <;> omega
    ·refine ⟨q+1,rfl,⟨by omega,by split at hq <;> omega,fun j hj=> ?_⟩,by split at hq <;> omega⟩
     by_cases hj':j < q.toNat
     ·exact h7 j hj'
     ·have:j=q.toNat:=by omega
      rw [this,←ka,←ka]
      exact J0.1 he
    ·have hk:∀ j:Nat,Z6 (a.kids.getD j Tree.nil)=Z6 (b.kids.getD j Tree.nil):=fun j=> by
      by_cases hj:j < q.toNat
      ·exact h7 j hj
      ·split at hq <;> rw [List.getD,List.getD,List.getElem?_eq_none (by omega),List.getElem?_eq_none (by omega)]
     have e:Yv (Z6 a) (Z6 b)=true:=by
      rw [J0,Yd]
      refine ⟨hc.1,.inr ⟨?_,hk⟩⟩
      split
      ·exact hw
      ·rename_i h1
       rcases hd with hd | hd
       ·exact absurd hd h1
       ·exact ⟨hd.2,by have:=hd.1;omega⟩
     simp only [Z5z,e]
     exact ⟨⟨rfl,⟨rfl,trivial⟩,trivial⟩,trivial⟩
end Go.AM.Ytpjenobkibfpcaa
namespace Go.AM.Ytpjenobkibfpcaa
open Go.AM Go.Proofs
mutual
theorem JH:∀ (t:Tree) (d l:Int),0≤ZA t d l→(Zj t:Int)+ZA t d l≤l
 | .mk _ w ks,d,l,h=> by
  simp only [ZA] at h ⊢
  split at h
  ·omega
  ·rename_i hc
   rw [if_neg hc]
   have:=Z28 ks (d - 1) (l - 1 - w.length) h
   simp only [Zj]
   omega
theorem Z28:∀ (ks:List Tree) (d l:Int),0≤Zt ks d l→(Zb ks:Int)+Zt ks d l≤l
 | [],d,l,h=> by simp [Zt,Zb]
 | t ::r,d,l,h=> by
  simp only [Zt] at h ⊢
  split at h
  ·omega
  ·rename_i hc
   rw [if_neg hc]
   have h1:=Z28 r d (ZA t d l) h
   have h3:=(JI r d (ZA t d l) (Yu t d l).1).2
   have h2:=JH t d l (by omega)
   simp only [Zb]
   omega
end
end Go.AM.Ytpjenobkibfpcaa
namespace Go.AM.Ytpjenobkibfpcaa
open Go.AM Go.Proofs
theorem Z2{n k:Nat}{rs:List ResultVar}{b b':Bool}(hr:rs=[ResultVar.tmp k])(h:b=b'):Jg cfg n rs (.c (.bool b')) [] .ret (⟨[(k,.c (.bool b))],[],[]⟩:LSt U):=by
 subst hr h
 have hk:Nat.beq k k=true:=Nat.beq_refl k
 simp [Jg,Zu0,Zcs,Zcr,Z5w,Z7w,LSt.toF,Zbq,hk,Zat,Z29,Yp,Jh,leR,leL,leC,ZkP]
theorem YH{n k:Nat}{rs:List ResultVar}{K:IntKind}{b b':Int}(hr:rs=[ResultVar.tmp k])(h:b=b'):Jg cfg n rs (.c (.int K b')) [] .ret (⟨[(k,.c (.int K b))],[],[]⟩:LSt U):=by
 subst hr h
 have hk:Nat.beq k k=true:=Nat.beq_refl k
 simp [Jg,Zu0,Zcs,Zcr,Z5w,Z7w,LSt.toF,Zbq,hk,Zat,Z29,Yp,Jh,leR,leL,leC,ZkP]
theorem ZtE:Contract Try.prog cfg 116 Z69:=by
 refine ZpE ?_
 intro c _ _
 refine Zvg _ _ ?_
 (simp only [vcS])
 refine ⟨fun h=> YH rfl ?_,fun h=> ⟨fun h=> YH rfl ?_,fun h=> ⟨fun h=> YH rfl ?_,fun h=> ⟨fun h=> YH rfl ?_,fun h=> ⟨fun h=> YH rfl ?_,fun h=> ⟨fun h=> YH rfl ?_,fun h=> YH rfl ?_⟩⟩⟩⟩⟩⟩ <;> simp only [wd] <;> simp [*]
theorem ZkY(c:Int): -1≤wd c∧wd c≤64:=by
 unfold wd
 repeat' split
 all_goals omega
theorem Zfx(n:Int)(h0:0≤n)(h1:n < 18446744073709551616):IntKind.wrap .u64 (Int.tdiv n 2)=n / 2:=by
 rw [Int.tdiv_eq_ediv_of_nonneg h0]
 simp [IntKind.wrap,IntKind.signed,IntKind.bits]
 omega
theorem Zmh{w:Nat}{n m:Int}(h:0≤n):(n / 2 < 2 ^ w)↔n < 2 ^ (w+1):=by
 have:(2:Int) ^ (w+1)=2 ^ w*2:=by rw [Int.pow_succ]
 omega
theorem c79:Contract Try.prog cfg 79 Z9D:=by
 refine Zsn ZtE ?_
 intro c n _ hp
 simp only [Zel] at hp
 have hw:=ZkY c
 refine Zwp _ _ _ ?_
 (simp only [vcS])
 refine ⟨trivial,fun h=> Z2 rfl ?_,fun h=> ?_⟩
 ·simp only [Z99]
  simp
  omega
 ·refine Za (ι:=Int × Int) (fun p=> Z1F c n p.1 p.2) (fun p=> 0≤p.2∧p.2≤wd c∧0≤p.1∧p.1 < 18446744073709551616∧(n < 2 ^ (wd c).toNat↔p.1 < 2 ^ (wd c - p.2).toNat)) (fun p=> (wd c - p.2).toNat) (n,0) rfl ⟨by dsimp only;omega,by dsimp only;omega,by dsimp only;omega,by dsimp only;omega,by simp⟩ ?_
  rintro ⟨m,i⟩ ⟨h1,h2,h3,h4,h5⟩
  dsimp only at*
  refine Zon _ _ _ _ _ _ ?_
  (simp only [vcS])
  refine ⟨fun hc=> ⟨by omega,by unfold InR;omega,(IntKind.wrap .u64 (Int.tdiv m 2),i+1),rfl,?_,by dsimp only;omega⟩,fun hc=> Z2 rfl ?_⟩
  ·rw [Zfx m h3 h4]
   refine ⟨by dsimp only;omega,by dsimp only;omega,by dsimp only;omega,by dsimp only;omega,?_⟩
   dsimp only
   rw [h5,show (wd c - i).toNat=(wd c - (i+1)).toNat+1 by omega]
   exact (Zmh (m:=0) h3).symm
  ·have e:(wd c - i).toNat=0:=by omega
   rw [e] at h5
   simp only [Z99]
   rw [Bool.eq_iff_iff]
   simp
   omega
theorem Ztm:Contract Try.prog cfg 194 Z60:=by
 refine Zpi ?_
 intro c _ _
 refine ZuR _ _ ?_
 (simp only [vcS])
 have hw:=ZkY c
 refine ⟨fun h=> ?_,fun h=> ⟨by omega,?_⟩⟩
 ·have e:wd c= -1:=by unfold wd;(repeat' split) <;> omega
  simp only [ZfV,e]
  exact ⟨⟨rfl,⟨⟨rfl,rfl⟩,trivial⟩,rfl,⟨rfl,trivial⟩,trivial⟩,trivial⟩
 ·have hc:c=0∨c=1∨c=2∨c=3∨c=4∨c=5:=by omega
  rcases hc with rfl | rfl | rfl | rfl | rfl | rfl <;> exact ⟨⟨rfl,⟨⟨rfl,rfl⟩,trivial⟩,rfl,⟨rfl,trivial⟩,trivial⟩,trivial⟩
theorem Znj(n:Int)(w:Nat)(h:0≤n):(Int.fdiv n (2 ^ w)=0)↔n < 2 ^ w:=by
 have hp:(0:Int) < 2 ^ w:=Int.pow_pos (by omega)
 rw [Int.fdiv_eq_ediv_of_nonneg _ (by omega)]
 constructor
 ·intro h1
  have:=Int.lt_ediv_add_one_mul_self n hp
  rw [h1] at this
  simpa using this
 ·intro h1
  exact Int.ediv_eq_zero_of_lt h h1
theorem Ztr:Contract Try.prog cfg 183 Z63:=by
 refine Zpn Ztm ?_
 intro c n _ hp
 simp only [Zal] at hp
 have hw:=ZkY c
 refine ZuW _ _ _ ?_
 refine ⟨trivial,fun h=> by split <;> omega,Z2 rfl ?_⟩
 simp only [Z99]
 by_cases h0:0≤wd c
 ·rw [if_neg (by omega)]
  simp only [h0,decide_true,cond_true,true_and]
  by_cases h64:wd c=64
  ·simp [h64]
   omega
  ·have:((wd c)==64)=false:=by simpa using h64
   rw [this,cond_false,Bool.eq_iff_iff]
   have hm:min (wd c).toNat (IntKind.bits .u64)=(wd c).toNat:=by
    show min (wd c).toNat 64=_
    omega
   rw [hm]
   simp only [beq_iff_eq,decide_eq_true_eq]
   exact Znj n _ hp.1
 ·simp [h0]
theorem c92:Contract Try.prog cfg 92 Z04:=by
 refine Zsi ?_
 intro c _ _
 refine Zwj _ _ ?_
 refine Z2 rfl ?_
 rw [Bool.eq_iff_iff]
 (simp only [vcS])
theorem ZkB:Contract Try.prog cfg 120 Z1N:=by
 refine ZpC ?_
 intro c _ _
 refine Zve _ _ ?_
 refine Z2 rfl ?_
 rw [Bool.eq_iff_iff]
 (simp only [vcS])
theorem Ze0{t:Tree}(h:rng t){i:Nat}(hi:i < t.words.length):0≤t.words.getD i 0∧t.words.getD i 0 < 18446744073709551616:=by
 obtain ⟨k,w,ks⟩:=t
 simp only [rng] at h
 simp only [Tree.words_mk] at*
 have hg:w.getD i 0∈w:=by
  simp only [List.getD,List.getElem?_eq_getElem hi,Option.getD_some]
  exact List.getElem_mem hi
 exact h.2.1 _ hg
theorem Ztu:Contract Try.prog cfg 162 Z65:=by
 refine Zpq ZkB Ztr ?_
 intro l t _ hp
 simp only [Zam] at hp
 refine Zv0 _ _ _ ?_
 (simp only [vcS])
 refine ⟨trivial,fun hd=> ⟨fun _=> by unfold InR;omega,fun h=> by omega,fun h=> Ze0 hp (by omega),Z2 rfl ?_⟩,fun hd=> ⟨fun h=> Z2 rfl ?_,fun h=> Z2 rfl ?_⟩⟩
 ·simp only [Jz,if_pos hd,Int.toNat_zero]
  rw [Bool.eq_iff_iff]
  (simp only [vcS])
  constructor <;> (rintro ⟨h1,h2⟩;exact ⟨by omega,h2⟩)
 ·simp only [Jz,if_neg hd,if_pos h]
  rw [Bool.eq_iff_iff]
  (simp only [vcS])
 ·simp only [Jz,if_neg hd,if_neg h]
  rw [Bool.eq_iff_iff]
  (simp only [vcS])
theorem Z8o{l:Int}{ks:List Tree}{i:Int}{d:Int}(h0:0≤i)(h:i < ks.length):
  ZT l (ks.drop i.toNat) d=((Jz l (ks.getD i.toNat Tree.nil) && Z9 (ks.getD i.toNat Tree.nil) d) && ZT l (ks.drop (i+1).toNat) d):=by
 have e:(i+1).toNat=i.toNat+1:=by omega
 rw [List.drop_eq_getElem_cons (by omega),e]
 simp only [ZT,List.getD,List.getElem?_eq_getElem (show i.toNat < ks.length by omega),Option.getD_some]
theorem Za7:∀ {ks:List Tree} {i:Nat},ZW ks→i < ks.length→rng (ks.getD i Tree.nil)
 | t ::_,0,h,_=> by simp only [ZW] at h;exact h.1
 | _ ::r,i+1,h,hi=> by simp only [ZW] at h;exact Za7 (ks:=r) (i:=i) h.2 (by simpa using hi)
theorem Zf6(t:Tree):Jz 1 t=decide (t.kind≠10):=by simp [Jz]
theorem ZtD:Contract Try.prog cfg 117 Z68:=by
 refine ZpD c92 Ztu ?_
 rintro N ⟨k,ws,ks⟩ d _ hp hN
 simp only [Z2a,Z5i,Zj,rng] at hp hN
 have key:∀ b,d≠0→Z9 (.mk k ws ks) d=(b && ZT k ks (d - 1))→b=true→
   Zh (awp cfg (Z0 (Ys N)) (Zx cfg (Z0 (Ys N))) Try.f117.ntmps Z0I (cd Try.f117 [1,1,0,1,0,0])) (Yy (.mk k ws ks) d 0) (AExit.inBlock 1 (Z3K cfg (Z0 (Ys N)) (Zx cfg (Z0 (Ys N))) Try.f117.ntmps Z0I (cd Try.f117 [1,1,1]) (Jg cfg Try.f117.ntmps Try.f117.results.toList (ZcQ (.mk k ws ks,d,())) []))):=by
  intro b hd0 hb hbt
  subst hbt
  rw [Bool.true_and] at hb
  refine Za (ι:=Int) (fun p=> Yy (.mk k ws ks) d p) (fun p=> 0≤p∧p≤ks.length∧Z9 (.mk k ws ks) d=ZT k (ks.drop p.toNat) (d - 1)) (fun p=> ((ks.length:Int) - p).toNat) 0 rfl ⟨by omega,by omega,by simpa using hb⟩ ?_
  rintro i ⟨h1,h2,h3⟩
  refine Zla N _ _ _ _ _ ?_
  (simp only [vcS])
  (simp only [Tree.eta,Edit.eta,Tree.kind_mk,Tree.words_mk,Tree.kids_mk])
  refine ⟨fun hi=> ⟨⟨by omega,hi⟩,?_⟩,fun hi=> ?_⟩
  ·have hd:=Z8o (l:=k) (d:=d - 1) h1 hi
   have hm:=Jd (ks:=ks) (i:=i.toNat) (by omega)
   have hr:=Za7 (i:=i.toNat) hp.2.1.2.2 (by omega)
   rw [hd] at h3
   have hlen:=Zs ks
   generalize ks.getD i.toNat Tree.nil=y at*
   have hpre:Z2a (y,d - 1,()):=⟨by dsimp only;omega,hr,by dsimp only;omega,by dsimp only;omega⟩
   have hmu:Z5i (y,d - 1,()) < N:=by simp only [Z5i];omega
   have hin:InR (d - 1):=by unfold InR;omega
   refine ⟨fun hk=> ⟨hr,fun _=> hin,fun _=> hpre,fun _=> hmu,fun hc=> Z2 rfl ?_,fun hc=> ⟨by unfold InR;omega,i+1,rfl,⟨by omega,by omega,?_⟩,by omega⟩⟩,fun hk=> ⟨fun _=> hin,fun _=> hpre,fun _=> hmu,fun hc=> Z2 rfl ?_,fun hc=> ⟨by unfold InR;omega,i+1,rfl,⟨by omega,by omega,?_⟩,by omega⟩⟩⟩
   ·rw [h3]
    rcases hc with hc | hc <;> simp [hc]
   ·rw [h3,hc.1,hc.2];try rfl
   ·subst hk
    rw [h3,Zf6]
    rcases hc with hc | hc <;> simp [hc]
   ·subst hk
    rw [h3,Zf6,hc.2]
    simp [hc.1]
  ·rw [List.drop_eq_nil_of_le (by omega)] at h3
   simp only [ZT] at h3
   exact Z2 rfl h3.symm
 refine Zvf N _ _ _ ?_
 (simp only [vcS])
 (simp only [Tree.eta,Edit.eta,Tree.kind_mk,Tree.words_mk,Tree.kids_mk])
 have hk0:∀ h0:k=0,Z9 (.mk k ws ks) d=decide (ws.length=0∧ks.length=0):=fun h0=> by simp only [Z9,if_pos h0]
 have hk10:∀ (_:¬k=0) (h10:k=10),Z9 (.mk k ws ks) d=decide (ws.length=1∧ks.length=0):=fun h0 h10=> by simp only [Z9,if_neg h0,if_pos h10]
 refine ⟨fun h0=> Z2 rfl ?_,fun h0=> ⟨fun h10=> Z2 rfl ?_,fun h10=> ⟨fun hd=> Z2 rfl ?_,fun hd=> ⟨fun h1=> ⟨fun hc=> Z2 rfl ?_,fun hc=> key true hd ?_ rfl⟩,fun h1=> ⟨trivial,fun hc=> Z2 rfl ?_,fun hc=> key true hd ?_ rfl⟩⟩⟩⟩⟩
 ·rw [hk0 h0,Bool.eq_iff_iff];(simp only [vcS]);omega
 ·rw [hk10 h0 h10,Bool.eq_iff_iff];(simp only [vcS]);omega
 ·simp only [Z9,if_neg h0,if_neg h10,if_pos hd]
 ·simp only [Z9,if_neg h0,if_neg h10,if_neg hd,if_pos h1]
  rw [decide_eq_false (by omega)];try rfl
 ·simp only [Z9,if_neg h0,if_neg h10,if_neg hd,if_pos h1]
  rw [decide_eq_true (by omega),h1]
 ·simp only [Z9,if_neg h0,if_neg h10,if_neg hd,if_neg h1]
  rw [decide_eq_false (by omega)];try rfl
 ·simp only [Z9,if_neg h0,if_neg h10,if_neg hd,if_neg h1]
  rw [decide_eq_true (by omega)]
theorem c80:Contract Try.prog cfg 80 Z3C:=by
 refine Zsm ZtD ?_
 intro t _ hp
 refine Zwo _ _ ?_
 (simp only [Tree.eta,Edit.eta,Tree.kind_mk,Tree.words_mk,Tree.kids_mk])
 exact ⟨⟨hp.1,hp.2,by dsimp only;omega,by dsimp only;omega⟩,Z2 rfl rfl⟩
theorem Ze4{y:Tree}{d:Int}(h:Z9 y d=true)(hk:y.kind=10):y.words.length=1∧y.kids.length=0:=by
 obtain ⟨k,w,ks⟩:=y
 simp only [Tree.kind_mk] at hk
 subst hk
 simpa [Z9] using h
theorem c37:Contract Try.prog cfg 37 Z2W:=by
 refine ZsH c79 ?_
 rintro N ⟨k,ws,ks⟩ d _ hp hN
 simp only [Z3q,ZeM,Zj,rng] at hp hN
 refine ZwN N _ _ _ ?_
 (simp only [vcS])
 (simp only [Tree.eta,Edit.eta,Tree.kind_mk,Tree.words_mk,Tree.kids_mk])
 refine ⟨fun h0=> Z2 rfl ?_,fun h0=> ⟨fun h10=> Z2 rfl ?_,fun h10=> ⟨fun hc=> Z2 rfl ?_,fun hc=> ⟨fun hw=> Z2 rfl ?_,fun hw=> ?_⟩⟩⟩⟩
 ·simp only [Z9,if_pos h0]
  rw [Bool.eq_iff_iff];(simp only [vcS]);omega
 ·simp only [Z9,if_neg h0,if_pos h10]
  rw [Bool.eq_iff_iff];(simp only [vcS]);omega
 ·simp only [Z9,if_neg h0,if_neg h10]
  split
  ·try rfl
  ·split
   ·rw [decide_eq_false (by omega)];try rfl
   ·have:¬(2≤k∧k≤9∧ws.length=0∧ks.length < 1048576):=by omega
    rw [decide_eq_false this];try rfl
 ·simp only [Z9,if_neg h0,if_neg h10]
  rw [if_neg (by omega),if_neg (by omega)]
  have:¬(2≤k∧k≤9∧ws.length=0∧ks.length < 1048576):=by omega
  rw [decide_eq_false this];try rfl
 ·have hb:Z9 (.mk k ws ks) d=ZT k ks (d - 1):=by
   simp only [Z9,if_neg h0,if_neg h10]
   rw [if_neg (by omega)]
   split
   ·rename_i h1
    rw [decide_eq_true (by omega),h1];try rfl
   ·have:2≤k∧k≤9∧ws.length=0∧ks.length < 1048576:=by omega
    rw [decide_eq_true this];try rfl
  refine Za (ι:=Int) (fun p=> Z1H (.mk k ws ks) d p) (fun p=> 0≤p∧p≤ks.length∧Z9 (.mk k ws ks) d=ZT k (ks.drop p.toNat) (d - 1)) (fun p=> ((ks.length:Int) - p).toNat) 0 rfl ⟨by omega,by omega,by simpa using hb⟩ ?_
  rintro i ⟨h1,h2,h3⟩
  refine ZoL N _ _ _ _ _ ?_
  (simp only [vcS])
  (simp only [Tree.eta,Edit.eta,Tree.kind_mk,Tree.words_mk,Tree.kids_mk])
  refine ⟨fun hi=> ?_,fun hi=> ?_⟩
  ·have hd:=Z8o (l:=k) (d:=d - 1) h1 hi
   have hm:=Jd (ks:=ks) (i:=i.toNat) (by omega)
   have hr:=Za7 (i:=i.toNat) hp.2.1.2.2 (by omega)
   rw [hd] at h3
   have hlen:=Zs ks
   generalize ks.getD i.toNat Tree.nil=y at*
   have hpre:Z3q (y,d - 1,()):=⟨by dsimp only;omega,hr,by dsimp only;omega,by dsimp only;omega⟩
   have hmu:ZeM (y,d - 1,()) < N:=by simp only [ZeM];omega
   have hin:InR (d - 1):=by unfold InR;omega
   refine ⟨⟨h1,hi⟩,hin,hpre,hmu,fun hf=> Z2 rfl ?_,fun hf=> ?_⟩
   ·rw [h3,hf];simp
   ·have hdata:((bif decide (2≤k) then decide (k≤7) else false)=(y.kind==10))↔((2≤k∧k≤7)↔y.kind=10):=by
     rw [Bool.eq_iff_iff];(simp only [vcS])
    have hat:=Ze4 hf
    have hkb:Jz k y=true↔(((2≤k∧k≤7)↔y.kind=10)∧(¬k=9∨y.kind=1))∧((¬2≤k∨¬k≤7)∨Z99 (k - 2) (y.words.getD 0 0)=true):=by
     unfold Jz
     by_cases hk:2≤k∧k≤7
     ·rw [if_pos hk]
      (simp only [vcS])
      constructor
      ·rintro ⟨h4,h5⟩;exact ⟨⟨by omega,by omega⟩,.inr h5⟩
      ·rintro ⟨⟨h4,_⟩,h5⟩
       have:=hat (by omega)
       exact ⟨by omega,by rcases h5 with h5 | h5;omega;exact h5⟩
     ·rw [if_neg hk]
      by_cases h9:k=9
      ·rw [if_pos h9]
       (simp only [vcS])
       constructor
       ·intro h4;exact ⟨⟨by omega,by omega⟩,.inl (by omega)⟩
       ·rintro ⟨⟨_,h4⟩,_⟩;omega
      ·rw [if_neg h9]
       (simp only [vcS])
       constructor
       ·intro h4;exact ⟨⟨by omega,by omega⟩,.inl (by omega)⟩
       ·rintro ⟨⟨h4,_⟩,_⟩;omega
    have hone:∀ (h4:(((bif decide (2≤k) then decide (k≤7) else false)=(y.kind==10)∧(¬k=9∨y.kind=1))∧2≤k∧k≤7)),y.words.length=1:=fun h4=> (hat ((hdata.1 h4.1.1).1 h4.2)).1
    simp only [Int.toNat_zero]
    refine ⟨fun h4=> by unfold InR;omega,fun h4=> by have:=hone h4;omega,fun h4=> Ze0 hr (by have:=hone h4;omega),fun h4=> Z2 rfl ?_,fun h4=> ⟨by unfold InR;omega,i+1,rfl,⟨by omega,by omega,?_⟩,by omega⟩⟩
    ·have hno:Jz k y=false:=by
      cases hkk:Jz k y with
      | false=> rfl
      | true=>
       exfalso
       obtain ⟨h5,h6⟩:=hkb.1 hkk
       rcases h4 with h4 | ⟨h4,h7⟩
       ·rcases h4 with h4 | h4
        ·exact h4 (hdata.2 h5.1)
        ·omega
       ·rcases h6 with h6 | h6
        ·omega
        ·rw [h7] at h6;cases h6
     rw [h3,hno];try rfl
    ·rw [h3,hkb.2 ⟨⟨hdata.1 h4.1.1,h4.1.2⟩,h4.2⟩,hf];try rfl
  ·rw [List.drop_eq_nil_of_le (by omega)] at h3
   simp only [ZT] at h3
   exact Z2 rfl h3.symm
theorem Zcg{t:Tree}(h:0≤ZA t 80 3000):Zj t≤20000000000:=by
 have:=JH t 80 3000 h
 omega
end Go.AM.Ytpjenobkibfpcaa
