import Derived.Test.YtpjenobkibfpcaaGreatZKB07
set_option linter.unusedSimpArgs false
set_option linter.unusedVariables false
namespace Go.AM.YtpjenobkibfpcaaGreat
open Go.AM Go.Proofs
noncomputable section
abbrev Z7(p:Prop):Prop:=p→p
noncomputable section
def Zpk:ArgL (Int × Unit):=(.cons (YG .i64) .nil)
def ZhD(a:Int × Unit):Prop:=True
def ZsQ(a:Int × Unit):V U:= .c (ci (wd a.1))
def Z94:Fs U:=fs Zpk (fun a=> [ZhD a]) ZsQ
def ZuZ:ArgL (Int × Int × Unit):=(.cons (YG .i64) (.cons (YG .u64) .nil))
def ZjI(a:Int × Int × Unit):Prop:=0≤a.2.1∧a.2.1 < 18446744073709551616
def Zzn(a:Int × Int × Unit):V U:= .c (.bool (ZcF a.1 a.2.1))
def Zdk:Fs U:=fs ZuZ (fun a=> [ZjI a]) Zzn
def ZoR:ArgL (Int × Unit):=(.cons (YG .i64) .nil)
def Zhx(a:Int × Unit):Prop:=True
def Zlk(a:Int × Unit):V U:= .tup [(false,[ci (if wd a.1 < 0 then 0 else wd a.1)]),(false,[.bool (decide (0≤wd a.1))])]
def Z8I:Fs U:=fs ZoR (fun a=> [Zhx a]) Zlk
def ZoT:ArgL (Int × Int × Unit):=(.cons (YG .i64) (.cons (YG .u64) .nil))
def Ze6(a:Int × Int × Unit):Prop:=0≤a.2.1∧a.2.1 < 18446744073709551616
def Zsu(a:Int × Int × Unit):V U:= .c (.bool (ZcF a.1 a.2.1))
def Z8M:Fs U:=fs ZoT (fun a=> [Ze6 a]) Zsu
def Zpm:ArgL (Int × Unit):=(.cons (YG .i64) .nil)
def ZaY(a:Int × Unit):Prop:=True
def ZsR(a:Int × Unit):V U:= .c (.bool (decide (2≤a.1∧a.1≤9)))
def Z1E:Fs U:=fs Zpm (fun a=> [ZaY a]) ZsR
def ZoU:ArgL (Int × Unit):=(.cons (YG .i64) .nil)
def ZaP(a:Int × Unit):Prop:=True
def Zsv(a:Int × Unit):V U:= .c (.bool (decide (2≤a.1∧a.1≤7)))
def Z3B:Fs U:=fs ZoU (fun a=> [ZaP a]) Zsv
def Zp6:ArgL (Int × Tree × Unit):=(.cons (YG .i64) (.cons (aEl .tree) .nil))
def Zea(a:Int × Tree × Unit):Prop:=rng a.2.1
def ZsF(a:Int × Tree × Unit):V U:= .c (.bool (JR a.1 a.2.1))
def Z8W:Fs U:=fs Zp6 (fun a=> [Zea a]) ZsF
def ZiI:ArgL (Tree × Int × Unit):=(.cons (aEl .tree) (.cons (YG .i64) .nil))
def Z4b(a:Tree × Int × Unit):Prop:=Zu a.1≤20000000000∧rng a.1∧0≤a.2.1∧a.2.1≤1000
def Z7O(a:Tree × Int × Unit):Nat:=Zu a.1
def Zhr(a:Tree × Int × Unit):V U:= .c (.bool (Ze a.1 a.2.1))
def Z93:Fs U:=fs ZiI (fun a=> [Z4b a]) Zhr
def ZuY:ArgL (Tree × Unit):=(.cons (aEl .tree) .nil)
def ZjH(a:Tree × Unit):Prop:=Zu a.1≤20000000000∧rng a.1
def Zzm(a:Tree × Unit):V U:= .c (.bool (Ze a.1 64))
def Z5N:Fs U:=fs ZuY (fun a=> [ZjH a]) Zzm
def Zmu:ArgL (Tree × Int × Unit):=(.cons (aEl .tree) (.cons (YG .i64) .nil))
def Z7K(a:Tree × Int × Unit):Prop:=Zu a.1≤20000000000∧rng a.1∧0≤a.2.1∧a.2.1≤1000
def Zk1(a:Tree × Int × Unit):Nat:=Zu a.1
def Zso(a:Tree × Int × Unit):V U:= .c (.bool (Ze a.1 a.2.1))
def ZaH:Fs U:=fs Zmu (fun a=> [Z7K a]) Zso
def Zi5:List (FuncId × Fs U):=[]
def ZnW:Zj U:=lvl [([0],[]),([3],[]),([3,4],[]),([2],[]),([3,6],[]),([2],[]),([3,8],[]),([2],[]),([3,10],[]),([2],[]),([3,12],[]),([2],[]),([14],[]),([2],[]),([2],[])]
theorem ZE1(c:Int)(Q:QT)(h:((c==0)=true→Q .ret (L2 [(2,.c (ci 0))] []))∧((c==0)=false→((c==1)=true→Q .ret (L2 [(2,.c (ci 1))] []))∧((c==1)=false→((c==2)=true→Q .ret (L2 [(2,.c (ci 8))] []))∧((c==2)=false→((c==3)=true→Q .ret (L2 [(2,.c (ci 16))] []))∧((c==3)=false→((c==4)=true→Q .ret (L2 [(2,.c (ci 32))] []))∧((c==4)=false→((c==5)=true→Q .ret (L2 [(2,.c (ci 64))] []))∧((c==5)=false→Q .ret (L2 [(2,.c (ci (-1)))] [])))))))):
  AW (Z0 Zi5) Tryz.f129 ZnW [] (L2 [(0,.c (ci c))] []) Q:=by
 have e:(AW (Z0 Zi5) Tryz.f129 ZnW [] (L2 [(0,.c (ci c))] []) Q)=((((c:Int)==0)=true→(Q .ret (L2 [(2,.c (ci 0))] [])))∧(((c:Int)==0)=false→((((c:Int)==1)=true→(Q .ret (L2 [(2,.c (ci 1))] [])))∧(((c:Int)==1)=false→((((c:Int)==2)=true→(Q .ret (L2 [(2,.c (ci 8))] [])))∧(((c:Int)==2)=false→((((c:Int)==3)=true→(Q .ret (L2 [(2,.c (ci 16))] [])))∧(((c:Int)==3)=false→((((c:Int)==4)=true→(Q .ret (L2 [(2,.c (ci 32))] [])))∧(((c:Int)==4)=false→((((c:Int)==5)=true→(Q .ret (L2 [(2,.c (ci 64))] [])))∧(((c:Int)==5)=false→(Q .ret (L2 [(2,.c (ci (-1)))] [])))))))))))))):=by kernel_rfl
 exact e.mpr ⟨fun c_1=> (h.1 c_1),fun c_1=> ⟨fun c_2=> ((h.2 c_1).1 c_2),fun c_2=> ⟨fun c_3=> (((h.2 c_1).2 c_2).1 c_3),fun c_3=> ⟨fun c_4=> ((((h.2 c_1).2 c_2).2 c_3).1 c_4),fun c_4=> ⟨fun c_5=> (((((h.2 c_1).2 c_2).2 c_3).2 c_4).1 c_5),fun c_5=> ⟨fun c_6=> ((((((h.2 c_1).2 c_2).2 c_3).2 c_4).2 c_5).1 c_6),fun c_6=> ((((((h.2 c_1).2 c_2).2 c_3).2 c_4).2 c_5).2 c_6)⟩⟩⟩⟩⟩⟩
def ZyW(c:Int):Prop:=AW (Z0 Zi5) Tryz.f129 ZnW [] (Zl (Zpk.can (c,())) []) (EQ Tryz.f129 (ZsQ (c,())) [])
theorem Zx8(hb:∀ (c:Int) (_:Unit),ZhD (c,())→ZyW c):CT 129 Z94:=
 Z4 (l:=[]) Zo rfl trivial ZnW Tryz.func129 rfl rfl 1 (fun _=> rfl) (by decide) (fun ⟨c,_⟩=> hb c ())
def Z1u:List (FuncId × Fs U):=[(129,Z94)]
def ZcB:Zj U:=lvl [([0,1],[]),([1,5],[]),([1,5,10],[]),([4],[]),([1,5,6],[]),([1,5,6,13],[]),([1,5,6],[]),([1,5,6],[]),([4],[])]
def Z3r(c n x1 x6:Int):LSt U:=(L2 [(1,.c (.int .u64 x1)),(5,.c (ci (wd c))),(6,.c (ci x6))] [])
abbrev ZmA:=awp cfg (Z0 Z1u) (ZB cfg (Z0 Z1u)) Tryz.f81.ntmps ZcB
abbrev Zl9:=Z5a cfg (Z0 Z1u) (ZB cfg (Z0 Z1u)) Tryz.f81.ntmps ZcB
theorem ZFA(c n:Int)(Q:QT)(h:(ZhD (c,()))∧(((decide (((wd c):Int) < 0))=true→Q .ret (L2 [(4,.c (.bool false))] []))∧((decide (((wd c):Int) < 0))=false→Zf (AW (Z0 Z1u) Tryz.f81 ZcB [1,1,1,0,1,0,0]) (Z3r c n n 0) (xB 0 (SW (Z0 Z1u) Tryz.f81 ZcB [1,1,1,1] Q))))):
  AW (Z0 Z1u) Tryz.f81 ZcB [] (L2 [(0,.c (ci c)),(1,.c (.int .u64 n))] []) Q:=by
 have e:(AW (Z0 Z1u) Tryz.f81 ZcB [] (L2 [(0,.c (ci c)),(1,.c (.int .u64 n))] []) Q)=((ZhD (c,()))∧(((decide (((wd c):Int) < 0))=true→(Q .ret (L2 [(4,.c (.bool false))] [])))∧((decide (((wd c):Int) < 0))=false→(Zf (ZmA (cd Tryz.f81 [1,1,1,0,1,0,0])) (Z3r c n n 0) (xB 0 (Zl9 (cd Tryz.f81 [1,1,1,1]) Q)))))):=by kernel_rfl
 exact e.mpr ⟨h.1,⟨fun c_7=> (h.2.1 c_7),fun c_7=> (h.2.2 c_7)⟩⟩
theorem Zvy(c n x1 x6:Int)(N0:NT)(Q:QT)(h:((decide (x6 < (wd c)))=true→((2:Int)≠0)∧((InR (x6+1))∧(N0 (Z3r c n (IntKind.wrap .u64 (Int.tdiv x1 2)) (x6+1)))))∧((decide (x6 < (wd c)))=false→Q .ret (L2 [(4,.c (.bool (x1==0)))] []))):
  AW (Z0 Z1u) Tryz.f81 ZcB [1,1,1,0,1,0,0] (Z3r c n x1 x6) (xT N0 (xB 0 (SW (Z0 Z1u) Tryz.f81 ZcB [1,1,1,1] Q))):=by
 have e:(AW (Z0 Z1u) Tryz.f81 ZcB [1,1,1,0,1,0,0] (Z3r c n x1 x6) (xT N0 (xB 0 (SW (Z0 Z1u) Tryz.f81 ZcB [1,1,1,1] Q))))=(((decide ((x6:Int) < (wd c)))=true→((2:Int)≠0)∧((InR ((x6:Int)+1))∧(N0 (Z3r c n (IntKind.wrap .u64 (Int.tdiv x1 2)) ((x6:Int)+1)))))∧((decide ((x6:Int) < (wd c)))=false→(Q .ret (L2 [(4,.c (.bool ((x1:Int)==0)))] [])))):=by kernel_rfl
 exact e.mpr ⟨fun c_8=> ⟨(h.1 c_8).1,⟨(h.1 c_8).2.1,(h.1 c_8).2.2⟩⟩,fun c_8=> (h.2 c_8)⟩
def ZCu(c n:Int):Prop:=AW (Z0 Z1u) Tryz.f81 ZcB [] (Zl (ZuZ.can (c,n,())) []) (EQ Tryz.f81 (Zzn (c,n,())) [])
theorem ZAI(ZBY:CT 129 Z94)(hb:∀ (c:Int) (n:Int) (_:Unit),ZjI (c,n,())→ZCu c n):CT 81 Zdk:=
 Z4 (l:=[(129,Z94)]) Zo rfl (⟨ZBY,trivial⟩) ZcB Tryz.func81 rfl rfl 2 (fun _=> rfl) (by decide) (fun ⟨c,n,_⟩=> hb c n ())
def ZhS:List (FuncId × Fs U):=[]
def ZnJ:Zj U:=lvl [([0],[]),([0,4],[4]),([0,4,11],[4]),([2,3],[]),([2,3],[])]
theorem ZDe(c:Int)(Q:QT)(h:((bif (decide (c < 0)) then true else (decide ((6:Int)≤c)))=true→Q .ret (L2 [(2,.c (ci 0)),(3,.c (.bool false))] []))∧((bif (decide (c < 0)) then true else (decide ((6:Int)≤c)))=false→((0:Int)≤c∧c < ((6:Nat):Int))∧(Q .ret (L2 [(2,.c (ci (List.getD [0,1,8,16,32,64] c.toNat 0))),(3,.c (.bool true))] [])))):
  AW (Z0 ZhS) Tryz.f232 ZnJ [] (L2 [(0,.c (ci c))] []) Q:=by
 have e:(AW (Z0 ZhS) Tryz.f232 ZnJ [] (L2 [(0,.c (ci c))] []) Q)=(let zz0:=(decide ((c:Int) < 0));((Z7 ((!zz0)=true))∧(zz0=false→(!zz0)=true)∧(((bif zz0 then true else (decide ((6:Int)≤c)))=true→(Q .ret (L2 [(2,.c (ci 0)),(3,.c (.bool false))] [])))∧((bif zz0 then true else (decide ((6:Int)≤c)))=false→((0:Int)≤c∧c < ((6:Nat):Int))∧(Q .ret (L2 [(2,.c (ci (List.getD [0,1,8,16,32,64] c.toNat 0))),(3,.c (.bool true))] [])))))):=by kernel_rfl
 exact e.mpr ⟨id,(by generalize (decide ((c:Int) < 0))=b0;revert b0;decide),⟨fun c_9=> (h.1 c_9),fun c_9=> ⟨(h.2 c_9).1,(h.2 c_9).2⟩⟩⟩
def Zy9(c:Int):Prop:=AW (Z0 ZhS) Tryz.f232 ZnJ [] (Zl (ZoR.can (c,())) []) (EQ Tryz.f232 (Zlk (c,())) [])
theorem Zwt(hb:∀ (c:Int) (_:Unit),Zhx (c,())→Zy9 c):CT 232 Z8I:=
 Z4 (l:=[]) Zo rfl trivial ZnJ Tryz.func232 rfl rfl 1 (fun _=> rfl) (by decide) (fun ⟨c,_⟩=> hb c ())
def ZhT:List (FuncId × Fs U):=[(232,Z8I)]
def ZnK:Zj U:=lvl [([0,1],[]),([1,5,6],[]),([4],[])]
theorem ZDk(c n:Int)(Q:QT)(h:(Zhx (c,()))∧((((decide (0≤wd c)) && (!(((if wd c < 0 then 0 else wd c):Int)==64)))=true→(0:Int)≤(if wd c < 0 then 0 else wd c))∧(Q .ret (L2 [(4,.c (.bool (bif (decide (0≤wd c)) then (bif (((if wd c < 0 then 0 else wd c):Int)==64) then true else (((Int.fdiv n (2 ^ (min (Int.toNat (if wd c < 0 then 0 else wd c)) (IntKind.bits .u64)))):Int)==0)) else false)))] [])))):
  AW (Z0 ZhT) Tryz.f221 ZnK [] (L2 [(0,.c (ci c)),(1,.c (.int .u64 n))] []) Q:=by
 have e:(AW (Z0 ZhT) Tryz.f221 ZnK [] (L2 [(0,.c (ci c)),(1,.c (.int .u64 n))] []) Q)=(let zz0:=(((if wd c < 0 then 0 else wd c):Int)==64);((Zhx (c,()))∧((Z7 ((decide (0≤wd c))=true))∧(Z7 ((decide (0≤wd c))=true))∧(Z7 (((decide (0≤wd c)) && (!zz0))=true))∧(Z7 (((decide (0≤wd c)) && (!zz0))=true))∧(((decide (0≤wd c)) && (!zz0))=true→(0:Int)≤(if wd c < 0 then 0 else wd c))∧(Z7 (((decide (0≤wd c)) && (!zz0))=true))∧((decide (0≤wd c))=true→(True→(decide (0≤wd c))=true))∧((decide (0≤wd c))=true→(zz0=false→((decide (0≤wd c)) && (!zz0))=true))∧(Z7 ((decide (0≤wd c))=true))∧(Q .ret (L2 [(4,.c (.bool (bif (decide (0≤wd c)) then (bif zz0 then true else (((Int.fdiv n (2 ^ (min (Int.toNat (if wd c < 0 then 0 else wd c)) (IntKind.bits .u64)))):Int)==0)) else false)))] []))))):=by kernel_rfl
 exact e.mpr ⟨h.1,⟨id,id,id,id,h.2.1,id,(by generalize (decide (0≤wd c))=b0;revert b0;decide),(by generalize (((if wd c < 0 then 0 else wd c):Int)==64)=b0;generalize (decide (0≤wd c))=b1;revert b0 b1;decide),(by generalize (decide (0≤wd c))=b0;revert b0;decide),h.2.2⟩⟩
def Zyf(c n:Int):Prop:=AW (Z0 ZhT) Tryz.f221 ZnK [] (Zl (ZoT.can (c,n,())) []) (EQ Tryz.f221 (Zsu (c,n,())) [])
theorem Zwz(ZBt:CT 232 Z8I)(hb:∀ (c:Int) (n:Int) (_:Unit),Ze6 (c,n,())→Zyf c n):CT 221 Z8M:=
 Z4 (l:=[(232,Z8I)]) Zo rfl (⟨ZBt,trivial⟩) ZnK Tryz.func221 rfl rfl 2 (fun _=> rfl) (by decide) (fun ⟨c,n,_⟩=> hb c n ())
def Zi6:List (FuncId × Fs U):=[]
def ZnX:Zj U:=lvl [([0],[]),([2],[])]
theorem ZE4(k:Int)(Q:QT)(h:Q .ret (L2 [(2,.c (.bool (bif (decide ((2:Int)≤k)) then (decide (k≤9)) else false)))] [])):
  AW (Z0 Zi6) Tryz.f125 ZnX [] (L2 [(0,.c (ci k))] []) Q:=by
 have e:(AW (Z0 Zi6) Tryz.f125 ZnX [] (L2 [(0,.c (ci k))] []) Q)=((Z7 ((decide ((2:Int)≤k))=true))∧(Z7 ((decide ((2:Int)≤k))=true))∧(Q .ret (L2 [(2,.c (.bool (bif (decide ((2:Int)≤k)) then (decide ((k:Int)≤9)) else false)))] []))):=by kernel_rfl
 exact e.mpr ⟨id,(by generalize (decide ((2:Int)≤k))=b0;revert b0;decide),h⟩
def ZyZ(k:Int):Prop:=AW (Z0 Zi6) Tryz.f125 ZnX [] (Zl (Zpm.can (k,())) []) (EQ Tryz.f125 (ZsR (k,())) [])
theorem Zxa(hb:∀ (k:Int) (_:Unit),ZaY (k,())→ZyZ k):CT 125 Z1E:=
 Z4 (l:=[]) Zo rfl trivial ZnX Tryz.func125 rfl rfl 1 (fun _=> rfl) (by decide) (fun ⟨k,_⟩=> hb k ())
def ZhU:List (FuncId × Fs U):=[]
def ZnL:Zj U:=lvl [([0],[]),([2],[])]
theorem ZDl(k:Int)(Q:QT)(h:Q .ret (L2 [(2,.c (.bool (bif (decide ((2:Int)≤k)) then (decide (k≤7)) else false)))] [])):
  AW (Z0 ZhU) Tryz.f220 ZnL [] (L2 [(0,.c (ci k))] []) Q:=by
 have e:(AW (Z0 ZhU) Tryz.f220 ZnL [] (L2 [(0,.c (ci k))] []) Q)=((Z7 ((decide ((2:Int)≤k))=true))∧(Z7 ((decide ((2:Int)≤k))=true))∧(Q .ret (L2 [(2,.c (.bool (bif (decide ((2:Int)≤k)) then (decide ((k:Int)≤7)) else false)))] []))):=by kernel_rfl
 exact e.mpr ⟨id,(by generalize (decide ((2:Int)≤k))=b0;revert b0;decide),h⟩
def Zyg(k:Int):Prop:=AW (Z0 ZhU) Tryz.f220 ZnL [] (Zl (ZoU.can (k,())) []) (EQ Tryz.f220 (Zsv (k,())) [])
theorem ZwA(hb:∀ (k:Int) (_:Unit),ZaP (k,())→Zyg k):CT 220 Z3B:=
 Z4 (l:=[]) Zo rfl trivial ZnL Tryz.func220 rfl rfl 1 (fun _=> rfl) (by decide) (fun ⟨k,_⟩=> hb k ())
def Zi1:List (FuncId × Fs U):=[(220,Z3B),(221,Z8M)]
def ZnS:Zj U:=lvl [([0,3],[3]),([0,3,5],[3]),([4],[]),([3,32],[3]),([4],[]),([4],[])]
theorem ZDE(l:Int)(t:Tree)(Q:QT)(h:(ZaP (l,()))∧(((decide (2≤l∧l≤7))=true→((bif (bif (t.kind==10) then (((t.kids.length:Int):Int)==0) else false) then (((t.words.length:Int):Int)==1) else false)=true→InR (l - 2))∧((bif (bif (t.kind==10) then (((t.kids.length:Int):Int)==0) else false) then (((t.words.length:Int):Int)==1) else false)=true→(0:Int)≤0∧0 < (t.words.length:Int))∧((bif (bif (t.kind==10) then (((t.kids.length:Int):Int)==0) else false) then (((t.words.length:Int):Int)==1) else false)=true→Ze6 ((l - 2),(List.getD t.words (Int.toNat 0) (0:Int)),()))∧(Q .ret (L2 [(4,.c (.bool (bif (bif (bif (t.kind==10) then (((t.kids.length:Int):Int)==0) else false) then (((t.words.length:Int):Int)==1) else false) then (ZcF (l - 2) (List.getD t.words (Int.toNat 0) (0:Int))) else false)))] [])))∧((decide (2≤l∧l≤7))=false→((l==9)=true→Q .ret (L2 [(4,.c (.bool (t.kind==1)))] []))∧((l==9)=false→Q .ret (L2 [(4,.c (.bool (t.kind !=10)))] []))))):
  AW (Z0 Zi1) Tryz.f181 ZnS [] (L2 [(0,.c (ci l)),(1,.agg (enc .tree t))] []) Q:=by
 have e:(AW (Z0 Zi1) Tryz.f181 ZnS [] (L2 [(0,.c (ci l)),(1,.agg (enc .tree t))] []) Q)=(let zz1:=(bif (t.kind==10) then ((t.kids.length:Int)==0) else false);let zz0:=(bif zz1 then ((t.words.length:Int)==1) else false);((ZaP (l,()))∧(((decide (2≤l∧l≤7))=true→(Z7 ((t.kind==10)=true))∧(Z7 ((t.kind==10)=true))∧(Z7 ((t.kind==10)=true))∧(Z7 ((t.kind==10)=true))∧(Z7 (zz1=true))∧(Z7 (zz1=true))∧(Z7 (zz1=true))∧(Z7 (zz1=true))∧(Z7 (zz0=true))∧(zz0=true→InR ((l:Int) - 2))∧(Z7 (zz0=true))∧(Z7 (zz0=true))∧(zz0=true→(0:Int)≤0∧0 < (t.words.length:Int))∧(Z7 (zz0=true))∧(Z7 (zz0=true))∧(Z7 (zz0=true))∧(zz0=true→Ze6 (((l:Int) - 2),(List.getD t.words (Int.toNat 0) (0:Int)),()))∧(Z7 (zz0=true))∧(Q .ret (L2 [(4,.c (.bool (bif zz0 then (ZcF ((l:Int) - 2) (List.getD t.words (Int.toNat 0) (0:Int))) else false)))] [])))∧((decide (2≤l∧l≤7))=false→((((l:Int)==9)=true→(Q .ret (L2 [(4,.c (.bool (t.kind==1)))] [])))∧(((l:Int)==9)=false→(Q .ret (L2 [(4,.c (.bool (t.kind !=10)))] [])))))))):=by kernel_rfl
 exact e.mpr ⟨h.1,⟨fun c_10=> ⟨id,id,id,(by generalize ((t.kind:Int)==10)=b0;revert b0;decide),id,id,id,(by generalize (((t.kids.length:Int):Int)==0)=b0;generalize ((t.kind:Int)==10)=b1;revert b0 b1;decide),id,(h.2.1 c_10).1,id,id,(h.2.1 c_10).2.1,id,id,id,(h.2.1 c_10).2.2.1,(by generalize (((t.words.length:Int):Int)==1)=b0;generalize (((t.kids.length:Int):Int)==0)=b1;generalize ((t.kind:Int)==10)=b2;revert b0 b1 b2;decide),(h.2.1 c_10).2.2.2⟩,fun c_10=> ⟨fun c_11=> ((h.2.2 c_10).1 c_11),fun c_11=> ((h.2.2 c_10).2 c_11)⟩⟩⟩
def Zyz(l:Int)(t:Tree):Prop:=AW (Z0 Zi1) Tryz.f181 ZnS [] (Zl (Zp6.can (l,t,())) []) (EQ Tryz.f181 (ZsF (l,t,())) [])
theorem ZwP(ZqU:CT 220 Z3B)(ZBx:CT 221 Z8M)(hb:∀ (l:Int) (t:Tree) (_:Unit),Zea (l,t,())→Zyz l t):CT 181 Z8W:=
 Z4 (l:=[(220,Z3B),(221,Z8M)]) Zo rfl (⟨ZqU,ZBx,trivial⟩) ZnS Tryz.func181 rfl rfl 2 (fun _=> rfl) (by decide) (fun ⟨l,t,_⟩=> hb l t ())
def YZ(N:Nat):List (FuncId × Fs U):=(130,fs ZiI (fun a=> [Z4b a,Z7O a < N]) Zhr) ::[(125,Z1E),(181,Z8W)]
def Z2d:Zj U:=lvl [([1,2],[2]),([1,2,8],[2]),([4],[]),([1,2,22],[2]),([4],[]),([1,2,36],[2]),([4],[]),([1,2,39],[2]),([1,2,52],[2]),([4],[]),([1,2,53],[2]),([4],[]),([1,2,71,72,73],[2]),([1,2,71,72,73,74],[2]),([1,2,6,71,72,73],[2,6]),([1,2,6,7,71,72,73],[2,6]),([1,2,6,7,71,72,73,82],[2,6]),([1,2,6,7,71,72,73],[2,6]),([1,2,71,72,73,95],[2]),([4],[]),([1,2,71,72,73],[2]),([4],[])]
def Je(t:Tree)(d x73:Int):LSt U:=(L2 [(1,.c (ci d)),(2,.ptr (.loc 2) 0),(71,.c (sU .tree t.kids .unk)),(72,.c (ci (t.kids.length:Int))),(73,.c (ci x73))] [(.loc 2,(enc .tree t))])
abbrev Zcv(N:Nat):=awp cfg (Z0 (YZ N)) (ZB cfg (Z0 (YZ N))) Tryz.f130.ntmps Z2d
abbrev ZbG(N:Nat):=Z5a cfg (Z0 (YZ N)) (ZB cfg (Z0 (YZ N))) Tryz.f130.ntmps Z2d
theorem ZE0(N:Nat)(t:Tree)(d:Int)(Q:QT)(h:((t.kind==0)=true→Q .ret (L2 [(4,.c (.bool (bif (((t.words.length:Int):Int)==0) then (((t.kids.length:Int):Int)==0) else false)))] []))∧((t.kind==0)=false→((t.kind==10)=true→Q .ret (L2 [(4,.c (.bool (bif (((t.words.length:Int):Int)==1) then (((t.kids.length:Int):Int)==0) else false)))] []))∧((t.kind==10)=false→((d==0)=true→Q .ret (L2 [(4,.c (.bool false))] []))∧((d==0)=false→((t.kind==1)=true→((bif (decide ((65536:Int)≤(t.words.length:Int))) then true else (decide ((65536:Int)≤(t.kids.length:Int))))=true→Q .ret (L2 [(4,.c (.bool false))] []))∧((bif (decide ((65536:Int)≤(t.words.length:Int))) then true else (decide ((65536:Int)≤(t.kids.length:Int))))=false→Zf (AW (Z0 (YZ N)) Tryz.f130 Z2d [1,1,0,1,0,0]) (Je t d 0) (xB 1 (SW (Z0 (YZ N)) Tryz.f130 Z2d [1,1,1] Q))))∧((t.kind==1)=false→(ZaY (t.kind,()))∧(((bif (bif (!(decide (2≤t.kind∧t.kind≤9))) then true else (decide ((0:Int) < (t.words.length:Int)))) then true else (decide ((1048576:Int)≤(t.kids.length:Int))))=true→Q .ret (L2 [(4,.c (.bool false))] []))∧((bif (bif (!(decide (2≤t.kind∧t.kind≤9))) then true else (decide ((0:Int) < (t.words.length:Int)))) then true else (decide ((1048576:Int)≤(t.kids.length:Int))))=false→Zf (AW (Z0 (YZ N)) Tryz.f130 Z2d [1,1,0,1,0,0]) (Je t d 0) (xB 1 (SW (Z0 (YZ N)) Tryz.f130 Z2d [1,1,1] Q))))))))):
  AW (Z0 (YZ N)) Tryz.f130 Z2d [] (L2 [(0,.agg (enc .tree t)),(1,.c (ci d))] []) Q:=by
 have e:(AW (Z0 (YZ N)) Tryz.f130 Z2d [] (L2 [(0,.agg (enc .tree t)),(1,.c (ci d))] []) Q)=(let zz6:=(decide ((65536:Int)≤(t.kids.length:Int)));let zz5:=(decide ((1048576:Int)≤(t.kids.length:Int)));let zz4:=((t.words.length:Int)==1);let zz3:=((t.words.length:Int)==0);let zz2:=(!(decide (2≤t.kind∧t.kind≤9)));let zz1:=(decide ((65536:Int)≤(t.words.length:Int)));let zz0:=(bif zz2 then true else (decide ((0:Int) < (t.words.length:Int))));(((t.kind==0)=true→(Z7 (zz3=true))∧(Z7 (zz3=true))∧(Z7 (zz3=true))∧(Z7 (zz3=true))∧(Q .ret (L2 [(4,.c (.bool (bif zz3 then ((t.kids.length:Int)==0) else false)))] [])))∧((t.kind==0)=false→(((t.kind==10)=true→(Z7 (zz4=true))∧(Z7 (zz4=true))∧(Z7 (zz4=true))∧(Z7 (zz4=true))∧(Q .ret (L2 [(4,.c (.bool (bif zz4 then ((t.kids.length:Int)==0) else false)))] [])))∧((t.kind==10)=false→((((d:Int)==0)=true→(Q .ret (L2 [(4,.c (.bool false))] [])))∧(((d:Int)==0)=false→(((t.kind==1)=true→(Z7 ((!zz1)=true))∧(Z7 ((!zz1)=true))∧(Z7 ((!zz1)=true))∧(zz1=false→(!zz1)=true)∧(((bif zz1 then true else zz6)=true→(Q .ret (L2 [(4,.c (.bool false))] [])))∧((bif zz1 then true else zz6)=false→(Zf (Zcv N (cd Tryz.f130 [1,1,0,1,0,0])) (Je t d 0) (xB 1 (ZbG N (cd Tryz.f130 [1,1,1]) Q))))))∧((t.kind==1)=false→(ZaY (t.kind,()))∧(Z7 ((!zz2)=true))∧(Z7 ((!zz2)=true))∧(Z7 ((!zz2)=true))∧(zz2=false→(!zz2)=true)∧(Z7 ((!zz0)=true))∧(Z7 ((!zz0)=true))∧(Z7 ((!zz0)=true))∧(zz0=false→(!zz0)=true)∧(((bif zz0 then true else zz5)=true→(Q .ret (L2 [(4,.c (.bool false))] [])))∧((bif zz0 then true else zz5)=false→(Zf (Zcv N (cd Tryz.f130 [1,1,0,1,0,0])) (Je t d 0) (xB 1 (ZbG N (cd Tryz.f130 [1,1,1]) Q)))))))))))))):=by kernel_rfl
 exact e.mpr ⟨fun c_12=> ⟨id,id,id,(by generalize (((t.words.length:Int):Int)==0)=b0;revert b0;decide),(h.1 c_12)⟩,fun c_12=> ⟨fun c_13=> ⟨id,id,id,(by generalize (((t.words.length:Int):Int)==1)=b0;revert b0;decide),((h.2 c_12).1 c_13)⟩,fun c_13=> ⟨fun c_14=> (((h.2 c_12).2 c_13).1 c_14),fun c_14=> ⟨fun c_15=> ⟨id,id,id,(by generalize (decide ((65536:Int)≤(t.words.length:Int)))=b0;revert b0;decide),⟨fun c_16=> (((((h.2 c_12).2 c_13).2 c_14).1 c_15).1 c_16),fun c_16=> (((((h.2 c_12).2 c_13).2 c_14).1 c_15).2 c_16)⟩⟩,fun c_15=> ⟨((((h.2 c_12).2 c_13).2 c_14).2 c_15).1,id,id,id,(by generalize (decide (2≤t.kind∧t.kind≤9))=b0;revert b0;decide),id,id,id,(by generalize (decide ((0:Int) < (t.words.length:Int)))=b0;generalize (decide (2≤t.kind∧t.kind≤9))=b1;revert b0 b1;decide),⟨fun c_17=> (((((h.2 c_12).2 c_13).2 c_14).2 c_15).2.1 c_17),fun c_17=> (((((h.2 c_12).2 c_13).2 c_14).2 c_15).2.2 c_17)⟩⟩⟩⟩⟩⟩
theorem ZrE(N:Nat)(t:Tree)(d x73:Int)(N0:NT)(Q:QT)(h:((decide (x73 < (t.kids.length:Int)))=true→((0:Int)≤x73∧x73 < (t.kids.length:Int))∧(((t.kind !=1)=true→(Zea (t.kind,(Tree.mk (Tree.kind (t.kids.getD x73.toNat Tree.nil)) (Tree.words (t.kids.getD x73.toNat Tree.nil)) (Tree.kids (t.kids.getD x73.toNat Tree.nil))),()))∧(((!(!(JR t.kind (Tree.mk (Tree.kind (t.kids.getD x73.toNat Tree.nil)) (Tree.words (t.kids.getD x73.toNat Tree.nil)) (Tree.kids (t.kids.getD x73.toNat Tree.nil))))))=true→InR (d - 1))∧((!(!(JR t.kind (Tree.mk (Tree.kind (t.kids.getD x73.toNat Tree.nil)) (Tree.words (t.kids.getD x73.toNat Tree.nil)) (Tree.kids (t.kids.getD x73.toNat Tree.nil))))))=true→Z4b ((Tree.mk (Tree.kind (t.kids.getD x73.toNat Tree.nil)) (Tree.words (t.kids.getD x73.toNat Tree.nil)) (Tree.kids (t.kids.getD x73.toNat Tree.nil))),(d - 1),()))∧((!(!(JR t.kind (Tree.mk (Tree.kind (t.kids.getD x73.toNat Tree.nil)) (Tree.words (t.kids.getD x73.toNat Tree.nil)) (Tree.kids (t.kids.getD x73.toNat Tree.nil))))))=true→Z7O ((Tree.mk (Tree.kind (t.kids.getD x73.toNat Tree.nil)) (Tree.words (t.kids.getD x73.toNat Tree.nil)) (Tree.kids (t.kids.getD x73.toNat Tree.nil))),(d - 1),()) < N)∧(((bif (!(JR t.kind (Tree.mk (Tree.kind (t.kids.getD x73.toNat Tree.nil)) (Tree.words (t.kids.getD x73.toNat Tree.nil)) (Tree.kids (t.kids.getD x73.toNat Tree.nil))))) then true else (!(Ze (Tree.mk (Tree.kind (t.kids.getD x73.toNat Tree.nil)) (Tree.words (t.kids.getD x73.toNat Tree.nil)) (Tree.kids (t.kids.getD x73.toNat Tree.nil))) (d - 1))))=true→Q .ret (L2 [(4,.c (.bool false))] []))∧((bif (!(JR t.kind (Tree.mk (Tree.kind (t.kids.getD x73.toNat Tree.nil)) (Tree.words (t.kids.getD x73.toNat Tree.nil)) (Tree.kids (t.kids.getD x73.toNat Tree.nil))))) then true else (!(Ze (Tree.mk (Tree.kind (t.kids.getD x73.toNat Tree.nil)) (Tree.words (t.kids.getD x73.toNat Tree.nil)) (Tree.kids (t.kids.getD x73.toNat Tree.nil))) (d - 1))))=false→(InR (x73+1))∧(N0 (Je t d (x73+1)))))))∧((t.kind !=1)=false→((!(!(((Tree.kind (t.kids.getD x73.toNat Tree.nil)):Int) !=10)))=true→InR (d - 1))∧((!(!(((Tree.kind (t.kids.getD x73.toNat Tree.nil)):Int) !=10)))=true→Z4b ((Tree.mk (Tree.kind (t.kids.getD x73.toNat Tree.nil)) (Tree.words (t.kids.getD x73.toNat Tree.nil)) (Tree.kids (t.kids.getD x73.toNat Tree.nil))),(d - 1),()))∧((!(!(((Tree.kind (t.kids.getD x73.toNat Tree.nil)):Int) !=10)))=true→Z7O ((Tree.mk (Tree.kind (t.kids.getD x73.toNat Tree.nil)) (Tree.words (t.kids.getD x73.toNat Tree.nil)) (Tree.kids (t.kids.getD x73.toNat Tree.nil))),(d - 1),()) < N)∧(((bif (!(((Tree.kind (t.kids.getD x73.toNat Tree.nil)):Int) !=10)) then true else (!(Ze (Tree.mk (Tree.kind (t.kids.getD x73.toNat Tree.nil)) (Tree.words (t.kids.getD x73.toNat Tree.nil)) (Tree.kids (t.kids.getD x73.toNat Tree.nil))) (d - 1))))=true→Q .ret (L2 [(4,.c (.bool false))] []))∧((bif (!(((Tree.kind (t.kids.getD x73.toNat Tree.nil)):Int) !=10)) then true else (!(Ze (Tree.mk (Tree.kind (t.kids.getD x73.toNat Tree.nil)) (Tree.words (t.kids.getD x73.toNat Tree.nil)) (Tree.kids (t.kids.getD x73.toNat Tree.nil))) (d - 1))))=false→(InR (x73+1))∧(N0 (Je t d (x73+1))))))))∧((decide (x73 < (t.kids.length:Int)))=false→Q .ret (L2 [(4,.c (.bool true))] []))):
  AW (Z0 (YZ N)) Tryz.f130 Z2d [1,1,0,1,0,0] (Je t d x73) (xT N0 (xB 1 (SW (Z0 (YZ N)) Tryz.f130 Z2d [1,1,1] Q))):=by
 have e:(AW (Z0 (YZ N)) Tryz.f130 Z2d [1,1,0,1,0,0] (Je t d x73) (xT N0 (xB 1 (SW (Z0 (YZ N)) Tryz.f130 Z2d [1,1,1] Q))))=(let zz2:=(!(Ze (Tree.mk (Tree.kind (t.kids.getD x73.toNat Tree.nil)) (Tree.words (t.kids.getD x73.toNat Tree.nil)) (Tree.kids (t.kids.getD x73.toNat Tree.nil))) ((d:Int) - 1)));let zz1:=(!(((Tree.kind (t.kids.getD x73.toNat Tree.nil)):Int) !=10));let zz0:=(!(JR t.kind (Tree.mk (Tree.kind (t.kids.getD x73.toNat Tree.nil)) (Tree.words (t.kids.getD x73.toNat Tree.nil)) (Tree.kids (t.kids.getD x73.toNat Tree.nil)))));(((decide ((x73:Int) < (t.kids.length:Int)))=true→((0:Int)≤x73∧x73 < (t.kids.length:Int))∧(((t.kind !=1)=true→(Zea (t.kind,(Tree.mk (Tree.kind (t.kids.getD x73.toNat Tree.nil)) (Tree.words (t.kids.getD x73.toNat Tree.nil)) (Tree.kids (t.kids.getD x73.toNat Tree.nil))),()))∧((Z7 ((!zz0)=true))∧((!zz0)=true→InR ((d:Int) - 1))∧(Z7 ((!zz0)=true))∧(Z7 ((!zz0)=true))∧((!zz0)=true→Z4b ((Tree.mk (Tree.kind (t.kids.getD x73.toNat Tree.nil)) (Tree.words (t.kids.getD x73.toNat Tree.nil)) (Tree.kids (t.kids.getD x73.toNat Tree.nil))),((d:Int) - 1),()))∧((!zz0)=true→Z7O ((Tree.mk (Tree.kind (t.kids.getD x73.toNat Tree.nil)) (Tree.words (t.kids.getD x73.toNat Tree.nil)) (Tree.kids (t.kids.getD x73.toNat Tree.nil))),((d:Int) - 1),()) < N)∧(Z7 ((!zz0)=true))∧(zz0=false→(!zz0)=true)∧(((bif zz0 then true else zz2)=true→(Q .ret (L2 [(4,.c (.bool false))] [])))∧((bif zz0 then true else zz2)=false→(InR ((x73:Int)+1))∧(N0 (Je t d ((x73:Int)+1)))))))∧((t.kind !=1)=false→(Z7 ((!zz1)=true))∧((!zz1)=true→InR ((d:Int) - 1))∧(Z7 ((!zz1)=true))∧(Z7 ((!zz1)=true))∧((!zz1)=true→Z4b ((Tree.mk (Tree.kind (t.kids.getD x73.toNat Tree.nil)) (Tree.words (t.kids.getD x73.toNat Tree.nil)) (Tree.kids (t.kids.getD x73.toNat Tree.nil))),((d:Int) - 1),()))∧((!zz1)=true→Z7O ((Tree.mk (Tree.kind (t.kids.getD x73.toNat Tree.nil)) (Tree.words (t.kids.getD x73.toNat Tree.nil)) (Tree.kids (t.kids.getD x73.toNat Tree.nil))),((d:Int) - 1),()) < N)∧(Z7 ((!zz1)=true))∧(zz1=false→(!zz1)=true)∧(((bif zz1 then true else zz2)=true→(Q .ret (L2 [(4,.c (.bool false))] [])))∧((bif zz1 then true else zz2)=false→(InR ((x73:Int)+1))∧(N0 (Je t d ((x73:Int)+1))))))))∧((decide ((x73:Int) < (t.kids.length:Int)))=false→(Q .ret (L2 [(4,.c (.bool true))] []))))):=by kernel_rfl
 exact e.mpr ⟨fun c_18=> ⟨(h.1 c_18).1,⟨fun c_19=> ⟨((h.1 c_18).2.1 c_19).1,⟨id,((h.1 c_18).2.1 c_19).2.1,id,id,((h.1 c_18).2.1 c_19).2.2.1,((h.1 c_18).2.1 c_19).2.2.2.1,id,(by generalize (JR t.kind (Tree.mk (Tree.kind (t.kids.getD x73.toNat Tree.nil)) (Tree.words (t.kids.getD x73.toNat Tree.nil)) (Tree.kids (t.kids.getD x73.toNat Tree.nil))))=b0;revert b0;decide),⟨fun c_20=> (((h.1 c_18).2.1 c_19).2.2.2.2.1 c_20),fun c_20=> ⟨(((h.1 c_18).2.1 c_19).2.2.2.2.2 c_20).1,(((h.1 c_18).2.1 c_19).2.2.2.2.2 c_20).2⟩⟩⟩⟩,fun c_19=> ⟨id,((h.1 c_18).2.2 c_19).1,id,id,((h.1 c_18).2.2 c_19).2.1,((h.1 c_18).2.2 c_19).2.2.1,id,(by generalize (((Tree.kind (t.kids.getD x73.toNat Tree.nil)):Int) !=10)=b0;revert b0;decide),⟨fun c_21=> (((h.1 c_18).2.2 c_19).2.2.2.1 c_21),fun c_21=> ⟨(((h.1 c_18).2.2 c_19).2.2.2.2 c_21).1,(((h.1 c_18).2.2 c_19).2.2.2.2 c_21).2⟩⟩⟩⟩⟩,fun c_18=> (h.2 c_18)⟩
def ZyV(N:Nat)(t:Tree)(d:Int):Prop:=AW (Z0 (YZ N)) Tryz.f130 Z2d [] (Zl (ZiI.can (t,d,())) []) (EQ Tryz.f130 (Zhr (t,d,())) [])
theorem Zx7(ZqZ:CT 125 Z1E)(ZBL:CT 181 Z8W)(hb:∀ (N:Nat) (t:Tree) (d:Int) (_:Unit),Z4b (t,d,())→Z7O (t,d,()) < N+1→ZyV N t d):CT 130 Z93:=
 Yo (μ:=Z7O) (l:=[(125,Z1E),(181,Z8W)]) Zo rfl (⟨ZqZ,ZBL,trivial⟩) Z2d Tryz.func130 rfl rfl 2 (fun _=> rfl) (by decide) (fun N ⟨t,d,_⟩=> hb N t d ())
def Zm0:List (FuncId × Fs U):=[(130,Z93)]
def Zxn:Zj U:=lvl [([1],[1]),([2],[])]
theorem ZFz(t:Tree)(Q:QT)(h:(Z4b ((Tree.mk t.kind t.words t.kids),64,()))∧(Q .ret (L2 [(2,.c (.bool (Ze (Tree.mk t.kind t.words t.kids) 64)))] []))):
  AW (Z0 Zm0) Tryz.f82 Zxn [] (L2 [(0,.agg (enc .tree t))] []) Q:=by
 have e:(AW (Z0 Zm0) Tryz.f82 Zxn [] (L2 [(0,.agg (enc .tree t))] []) Q)=(type_of% h):=by kernel_rfl
 exact e.mpr ⟨h.1,h.2⟩
def ZCt(t:Tree):Prop:=AW (Z0 Zm0) Tryz.f82 Zxn [] (Zl (ZuY.can (t,())) []) (EQ Tryz.f82 (Zzm (t,())) [])
theorem ZAH(ZBX:CT 130 Z93)(hb:∀ (t:Tree) (_:Unit),ZjH (t,())→ZCt t):CT 82 Z5N:=
 Z4 (l:=[(130,Z93)]) Zo rfl (⟨ZBX,trivial⟩) Zxn Tryz.func82 rfl rfl 1 (fun _=> rfl) (by decide) (fun ⟨t,_⟩=> hb t ())
def Z1v(N:Nat):List (FuncId × Fs U):=(31,fs Zmu (fun a=> [Z7K a,Zk1 a < N]) Zso) ::[(81,Zdk)]
def ZcC:Zj U:=lvl [([1,2],[2]),([1,2,10],[2]),([4],[]),([1,2,23],[2]),([4],[]),([1,2,68],[2]),([4],[]),([1,2,77],[2]),([4],[]),([1,2,5],[2]),([1,2,5,82],[2]),([1,2,5],[2]),([1,2,5,6],[2,6]),([1,2,5,6,94],[2,6]),([4],[]),([1,2,5,6,7],[2,6]),([1,2,5,131],[2]),([4],[]),([4],[])]
def Z3s(t:Tree)(d x5:Int):LSt U:=(L2 [(1,.c (ci d)),(2,.ptr (.loc 2) 0),(5,.c (ci x5))] [(.loc 2,(enc .tree t))])
abbrev ZmC(N:Nat):=awp cfg (Z0 (Z1v N)) (ZB cfg (Z0 (Z1v N))) Tryz.f31.ntmps ZcC
abbrev Zlb(N:Nat):=Z5a cfg (Z0 (Z1v N)) (ZB cfg (Z0 (Z1v N))) Tryz.f31.ntmps ZcC
theorem ZFR(N:Nat)(t:Tree)(d:Int)(Q:QT)(h:((t.kind==0)=true→Q .ret (L2 [(4,.c (.bool (bif (((t.words.length:Int):Int)==0) then (((t.kids.length:Int):Int)==0) else false)))] []))∧((t.kind==0)=false→((t.kind==10)=true→Q .ret (L2 [(4,.c (.bool (bif (((t.words.length:Int):Int)==1) then (((t.kids.length:Int):Int)==0) else false)))] []))∧((t.kind==10)=false→((bif (bif (bif (bif (bif (decide (t.kind < 0)) then true else (decide ((10:Int) < t.kind))) then true else (d==0)) then true else (decide ((65536:Int)≤(t.words.length:Int)))) then true else (bif (t.kind==1) then (decide ((65536:Int)≤(t.kids.length:Int))) else false)) then true else (decide ((1048576:Int)≤(t.kids.length:Int))))=true→Q .ret (L2 [(4,.c (.bool false))] []))∧((bif (bif (bif (bif (bif (decide (t.kind < 0)) then true else (decide ((10:Int) < t.kind))) then true else (d==0)) then true else (decide ((65536:Int)≤(t.words.length:Int)))) then true else (bif (t.kind==1) then (decide ((65536:Int)≤(t.kids.length:Int))) else false)) then true else (decide ((1048576:Int)≤(t.kids.length:Int))))=false→((bif (decide ((1:Int) < t.kind)) then (decide ((0:Int) < (t.words.length:Int))) else false)=true→Q .ret (L2 [(4,.c (.bool false))] []))∧((bif (decide ((1:Int) < t.kind)) then (decide ((0:Int) < (t.words.length:Int))) else false)=false→Zf (AW (Z0 (Z1v N)) Tryz.f31 ZcC [1,1,1,1,1,0,1,0,0]) (Z3s t d 0) (xB 0 (SW (Z0 (Z1v N)) Tryz.f31 ZcC [1,1,1,1,1,1] Q))))))):
  AW (Z0 (Z1v N)) Tryz.f31 ZcC [] (L2 [(0,.agg (enc .tree t)),(1,.c (ci d))] []) Q:=by
 have e:(AW (Z0 (Z1v N)) Tryz.f31 ZcC [] (L2 [(0,.agg (enc .tree t)),(1,.c (ci d))] []) Q)=(let zz7:=(decide ((1048576:Int)≤(t.kids.length:Int)));let zz6:=(decide (t.kind < 0));let zz5:=((t.words.length:Int)==1);let zz4:=((t.words.length:Int)==0);let zz3:=(decide ((1:Int) < t.kind));let zz2:=(bif (t.kind==1) then (decide ((65536:Int)≤(t.kids.length:Int))) else false);let zz1:=(bif zz6 then true else (decide ((10:Int) < t.kind)));let zz0:=(bif (bif zz1 then true else ((d:Int)==0)) then true else (decide ((65536:Int)≤(t.words.length:Int))));(((t.kind==0)=true→(Z7 (zz4=true))∧(Z7 (zz4=true))∧(Z7 (zz4=true))∧(Z7 (zz4=true))∧(Q .ret (L2 [(4,.c (.bool (bif zz4 then ((t.kids.length:Int)==0) else false)))] [])))∧((t.kind==0)=false→(((t.kind==10)=true→(Z7 (zz5=true))∧(Z7 (zz5=true))∧(Z7 (zz5=true))∧(Z7 (zz5=true))∧(Q .ret (L2 [(4,.c (.bool (bif zz5 then ((t.kids.length:Int)==0) else false)))] [])))∧((t.kind==10)=false→(Z7 ((!zz6)=true))∧(Z7 ((!zz6)=true))∧(zz6=false→(!zz6)=true)∧(Z7 ((!zz1)=true))∧(zz1=false→(!zz1)=true)∧(Z7 ((!(bif zz1 then true else ((d:Int)==0)))=true))∧(Z7 ((!(bif zz1 then true else ((d:Int)==0)))=true))∧(Z7 ((!(bif zz1 then true else ((d:Int)==0)))=true))∧((bif zz1 then true else ((d:Int)==0))=false→(!(bif zz1 then true else ((d:Int)==0)))=true)∧(Z7 ((!zz0)=true))∧(Z7 ((!zz0)=true))∧(Z7 ((!zz0)=true))∧(Z7 (((!zz0) && (t.kind==1))=true))∧(Z7 (((!zz0) && (t.kind==1))=true))∧(Z7 (((!zz0) && (t.kind==1))=true))∧((!zz0)=true→(True→(!zz0)=true))∧((!zz0)=true→((t.kind==1)=true→((!zz0) && (t.kind==1))=true))∧(zz0=false→(!zz0)=true)∧(Z7 ((!(bif zz0 then true else zz2))=true))∧(Z7 ((!(bif zz0 then true else zz2))=true))∧(Z7 ((!(bif zz0 then true else zz2))=true))∧((bif zz0 then true else zz2)=false→(!(bif zz0 then true else zz2))=true)∧(((bif (bif zz0 then true else zz2) then true else zz7)=true→(Q .ret (L2 [(4,.c (.bool false))] [])))∧((bif (bif zz0 then true else zz2) then true else zz7)=false→(Z7 (zz3=true))∧(Z7 (zz3=true))∧(Z7 (zz3=true))∧(Z7 (zz3=true))∧(((bif zz3 then (decide ((0:Int) < (t.words.length:Int))) else false)=true→(Q .ret (L2 [(4,.c (.bool false))] [])))∧((bif zz3 then (decide ((0:Int) < (t.words.length:Int))) else false)=false→(Zf (ZmC N (cd Tryz.f31 [1,1,1,1,1,0,1,0,0])) (Z3s t d 0) (xB 0 (Zlb N (cd Tryz.f31 [1,1,1,1,1,1]) Q)))))))))))):=by kernel_rfl
 exact e.mpr ⟨fun c_22=> ⟨id,id,id,(by generalize (((t.words.length:Int):Int)==0)=b0;revert b0;decide),(h.1 c_22)⟩,fun c_22=> ⟨fun c_23=> ⟨id,id,id,(by generalize (((t.words.length:Int):Int)==1)=b0;revert b0;decide),((h.2 c_22).1 c_23)⟩,fun c_23=> ⟨id,id,(by generalize (decide ((t.kind:Int) < 0))=b0;revert b0;decide),id,(by generalize (decide ((10:Int) < t.kind))=b0;generalize (decide ((t.kind:Int) < 0))=b1;revert b0 b1;decide),id,id,id,(by generalize (decide ((10:Int) < t.kind))=b0;generalize (decide ((t.kind:Int) < 0))=b1;generalize ((d:Int)==0)=b2;revert b0 b1 b2;decide),id,id,id,id,id,id,(by generalize (decide ((65536:Int)≤(t.words.length:Int)))=b0;generalize (decide ((10:Int) < t.kind))=b1;generalize (decide ((t.kind:Int) < 0))=b2;generalize ((d:Int)==0)=b3;revert b0 b1 b2 b3;decide),(by generalize (decide ((65536:Int)≤(t.words.length:Int)))=b0;generalize (decide ((10:Int) < t.kind))=b1;generalize (decide ((t.kind:Int) < 0))=b2;generalize ((t.kind:Int)==1)=b3;generalize ((d:Int)==0)=b4;revert b0 b1 b2 b3 b4;decide),(by generalize (decide ((65536:Int)≤(t.words.length:Int)))=b0;generalize (decide ((10:Int) < t.kind))=b1;generalize (decide ((t.kind:Int) < 0))=b2;generalize ((d:Int)==0)=b3;revert b0 b1 b2 b3;decide),id,id,id,(by generalize (decide ((65536:Int)≤(t.words.length:Int)))=b0;generalize (decide ((65536:Int)≤(t.kids.length:Int)))=b1;generalize (decide ((10:Int) < t.kind))=b2;generalize (decide ((t.kind:Int) < 0))=b3;generalize ((t.kind:Int)==1)=b4;generalize ((d:Int)==0)=b5;revert b0 b1 b2 b3 b4 b5;decide),⟨fun c_24=> (((h.2 c_22).2 c_23).1 c_24),fun c_24=> ⟨id,id,id,(by generalize (decide ((1:Int) < t.kind))=b0;revert b0;decide),⟨fun c_25=> ((((h.2 c_22).2 c_23).2 c_24).1 c_25),fun c_25=> ((((h.2 c_22).2 c_23).2 c_24).2 c_25)⟩⟩⟩⟩⟩⟩
theorem ZvW(N:Nat)(t:Tree)(d x5:Int)(N0:NT)(Q:QT)(h:((decide (x5 < (t.kids.length:Int)))=true→((0:Int)≤x5∧x5 < (t.kids.length:Int))∧((InR (d - 1))∧(Z7K ((Tree.mk (Tree.kind (t.kids.getD x5.toNat Tree.nil)) (Tree.words (t.kids.getD x5.toNat Tree.nil)) (Tree.kids (t.kids.getD x5.toNat Tree.nil))),(d - 1),()))∧(Zk1 ((Tree.mk (Tree.kind (t.kids.getD x5.toNat Tree.nil)) (Tree.words (t.kids.getD x5.toNat Tree.nil)) (Tree.kids (t.kids.getD x5.toNat Tree.nil))),(d - 1),()) < N)∧(((!(Ze (Tree.mk (Tree.kind (t.kids.getD x5.toNat Tree.nil)) (Tree.words (t.kids.getD x5.toNat Tree.nil)) (Tree.kids (t.kids.getD x5.toNat Tree.nil))) (d - 1)))=true→Q .ret (L2 [(4,.c (.bool false))] []))∧((!(Ze (Tree.mk (Tree.kind (t.kids.getD x5.toNat Tree.nil)) (Tree.words (t.kids.getD x5.toNat Tree.nil)) (Tree.kids (t.kids.getD x5.toNat Tree.nil))) (d - 1)))=false→(((!(bif ((bif (decide ((2:Int)≤t.kind)) then (decide (t.kind≤7)) else false) !=(((Tree.kind (t.kids.getD x5.toNat Tree.nil)):Int)==10)) then true else (bif (t.kind==9) then (((Tree.kind (t.kids.getD x5.toNat Tree.nil)):Int) !=1) else false))) && (bif (decide ((2:Int)≤t.kind)) then (decide (t.kind≤7)) else false))=true→InR (t.kind - 2))∧(((!(bif ((bif (decide ((2:Int)≤t.kind)) then (decide (t.kind≤7)) else false) !=(((Tree.kind (t.kids.getD x5.toNat Tree.nil)):Int)==10)) then true else (bif (t.kind==9) then (((Tree.kind (t.kids.getD x5.toNat Tree.nil)):Int) !=1) else false))) && (bif (decide ((2:Int)≤t.kind)) then (decide (t.kind≤7)) else false))=true→(0:Int)≤0∧0 < ((Tree.words (t.kids.getD x5.toNat Tree.nil)).length:Int))∧(((!(bif ((bif (decide ((2:Int)≤t.kind)) then (decide (t.kind≤7)) else false) !=(((Tree.kind (t.kids.getD x5.toNat Tree.nil)):Int)==10)) then true else (bif (t.kind==9) then (((Tree.kind (t.kids.getD x5.toNat Tree.nil)):Int) !=1) else false))) && (bif (decide ((2:Int)≤t.kind)) then (decide (t.kind≤7)) else false))=true→ZjI ((t.kind - 2),(List.getD (Tree.words (t.kids.getD x5.toNat Tree.nil)) (Int.toNat 0) (0:Int)),()))∧(((bif (bif ((bif (decide ((2:Int)≤t.kind)) then (decide (t.kind≤7)) else false) !=(((Tree.kind (t.kids.getD x5.toNat Tree.nil)):Int)==10)) then true else (bif (t.kind==9) then (((Tree.kind (t.kids.getD x5.toNat Tree.nil)):Int) !=1) else false)) then true else (bif (bif (decide ((2:Int)≤t.kind)) then (decide (t.kind≤7)) else false) then (!(ZcF (t.kind - 2) (List.getD (Tree.words (t.kids.getD x5.toNat Tree.nil)) (Int.toNat 0) (0:Int)))) else false))=true→Q .ret (L2 [(4,.c (.bool false))] []))∧((bif (bif ((bif (decide ((2:Int)≤t.kind)) then (decide (t.kind≤7)) else false) !=(((Tree.kind (t.kids.getD x5.toNat Tree.nil)):Int)==10)) then true else (bif (t.kind==9) then (((Tree.kind (t.kids.getD x5.toNat Tree.nil)):Int) !=1) else false)) then true else (bif (bif (decide ((2:Int)≤t.kind)) then (decide (t.kind≤7)) else false) then (!(ZcF (t.kind - 2) (List.getD (Tree.words (t.kids.getD x5.toNat Tree.nil)) (Int.toNat 0) (0:Int)))) else false))=false→(InR (x5+1))∧(N0 (Z3s t d (x5+1)))))))))∧((decide (x5 < (t.kids.length:Int)))=false→Q .ret (L2 [(4,.c (.bool true))] []))):
  AW (Z0 (Z1v N)) Tryz.f31 ZcC [1,1,1,1,1,0,1,0,0] (Z3s t d x5) (xT N0 (xB 0 (SW (Z0 (Z1v N)) Tryz.f31 ZcC [1,1,1,1,1,1] Q))):=by
 have e:(AW (Z0 (Z1v N)) Tryz.f31 ZcC [1,1,1,1,1,0,1,0,0] (Z3s t d x5) (xT N0 (xB 0 (SW (Z0 (Z1v N)) Tryz.f31 ZcC [1,1,1,1,1,1] Q))))=(let zz5:=(decide ((2:Int)≤t.kind));let zz4:=(!(ZcF (t.kind - 2) (List.getD (Tree.words (t.kids.getD x5.toNat Tree.nil)) (Int.toNat 0) (0:Int))));let zz3:=(!(Ze (Tree.mk (Tree.kind (t.kids.getD x5.toNat Tree.nil)) (Tree.words (t.kids.getD x5.toNat Tree.nil)) (Tree.kids (t.kids.getD x5.toNat Tree.nil))) ((d:Int) - 1)));let zz2:=(((Tree.kind (t.kids.getD x5.toNat Tree.nil)):Int)==10);let zz1:=(bif zz5 then (decide (t.kind≤7)) else false);let zz0:=(bif (zz1 !=zz2) then true else (bif (t.kind==9) then (((Tree.kind (t.kids.getD x5.toNat Tree.nil)):Int) !=1) else false));(((decide ((x5:Int) < (t.kids.length:Int)))=true→((0:Int)≤x5∧x5 < (t.kids.length:Int))∧((InR ((d:Int) - 1))∧(Z7K ((Tree.mk (Tree.kind (t.kids.getD x5.toNat Tree.nil)) (Tree.words (t.kids.getD x5.toNat Tree.nil)) (Tree.kids (t.kids.getD x5.toNat Tree.nil))),((d:Int) - 1),()))∧(Zk1 ((Tree.mk (Tree.kind (t.kids.getD x5.toNat Tree.nil)) (Tree.words (t.kids.getD x5.toNat Tree.nil)) (Tree.kids (t.kids.getD x5.toNat Tree.nil))),((d:Int) - 1),()) < N)∧((zz3=true→(Q .ret (L2 [(4,.c (.bool false))] [])))∧(zz3=false→(Z7 (zz5=true))∧(Z7 (zz5=true))∧(Z7 (zz5=true))∧((Z7 ((!(zz1 !=zz2))=true))∧(Z7 ((!(zz1 !=zz2))=true))∧(Z7 ((!(zz1 !=zz2))=true))∧(Z7 (((!(zz1 !=zz2)) && (t.kind==9))=true))∧(Z7 (((!(zz1 !=zz2)) && (t.kind==9))=true))∧((!(zz1 !=zz2))=true→(True→(!(zz1 !=zz2))=true))∧((!(zz1 !=zz2))=true→((t.kind==9)=true→((!(zz1 !=zz2)) && (t.kind==9))=true))∧((zz1 !=zz2)=false→(!(zz1 !=zz2))=true)∧(Z7 ((!zz0)=true))∧(Z7 (((!zz0) && zz1)=true))∧(Z7 (((!zz0) && zz1)=true))∧(((!zz0) && zz1)=true→InR (t.kind - 2))∧(Z7 (((!zz0) && zz1)=true))∧(Z7 (((!zz0) && zz1)=true))∧(((!zz0) && zz1)=true→(0:Int)≤0∧0 < ((Tree.words (t.kids.getD x5.toNat Tree.nil)).length:Int))∧(Z7 (((!zz0) && zz1)=true))∧(Z7 (((!zz0) && zz1)=true))∧(Z7 (((!zz0) && zz1)=true))∧(((!zz0) && zz1)=true→ZjI ((t.kind - 2),(List.getD (Tree.words (t.kids.getD x5.toNat Tree.nil)) (Int.toNat 0) (0:Int)),()))∧(Z7 (((!zz0) && zz1)=true))∧((!zz0)=true→(True→(!zz0)=true))∧((!zz0)=true→(zz1=true→((!zz0) && zz1)=true))∧(zz0=false→(!zz0)=true)∧(((bif zz0 then true else (bif zz1 then zz4 else false))=true→(Q .ret (L2 [(4,.c (.bool false))] [])))∧((bif zz0 then true else (bif zz1 then zz4 else false))=false→(InR ((x5:Int)+1))∧(N0 (Z3s t d ((x5:Int)+1))))))))))∧((decide ((x5:Int) < (t.kids.length:Int)))=false→(Q .ret (L2 [(4,.c (.bool true))] []))))):=by kernel_rfl
 exact e.mpr ⟨fun c_26=> ⟨(h.1 c_26).1,⟨(h.1 c_26).2.1,(h.1 c_26).2.2.1,(h.1 c_26).2.2.2.1,⟨fun c_27=> ((h.1 c_26).2.2.2.2.1 c_27),fun c_27=> ⟨id,id,(by generalize (decide ((2:Int)≤t.kind))=b0;revert b0;decide),⟨id,id,id,id,id,(by generalize ((bif (decide ((2:Int)≤t.kind)) then (decide ((t.kind:Int)≤7)) else false) !=(((Tree.kind (t.kids.getD x5.toNat Tree.nil)):Int)==10))=b0;revert b0;decide),(by generalize ((bif (decide ((2:Int)≤t.kind)) then (decide ((t.kind:Int)≤7)) else false) !=(((Tree.kind (t.kids.getD x5.toNat Tree.nil)):Int)==10))=b0;generalize ((t.kind:Int)==9)=b1;revert b0 b1;decide),(by generalize ((bif (decide ((2:Int)≤t.kind)) then (decide ((t.kind:Int)≤7)) else false) !=(((Tree.kind (t.kids.getD x5.toNat Tree.nil)):Int)==10))=b0;revert b0;decide),id,id,id,((h.1 c_26).2.2.2.2.2 c_27).1,id,id,((h.1 c_26).2.2.2.2.2 c_27).2.1,id,id,id,((h.1 c_26).2.2.2.2.2 c_27).2.2.1,id,(by generalize ((bif (decide ((2:Int)≤t.kind)) then (decide ((t.kind:Int)≤7)) else false) !=(((Tree.kind (t.kids.getD x5.toNat Tree.nil)):Int)==10))=b0;generalize (((Tree.kind (t.kids.getD x5.toNat Tree.nil)):Int) !=1)=b1;generalize ((t.kind:Int)==9)=b2;revert b0 b1 b2;decide),(by generalize ((bif (decide ((2:Int)≤t.kind)) then (decide ((t.kind:Int)≤7)) else false) !=(((Tree.kind (t.kids.getD x5.toNat Tree.nil)):Int)==10))=b0;generalize (((Tree.kind (t.kids.getD x5.toNat Tree.nil)):Int) !=1)=b1;generalize (decide ((2:Int)≤t.kind))=b2;generalize (decide ((t.kind:Int)≤7))=b3;generalize ((t.kind:Int)==9)=b4;revert b0 b1 b2 b3 b4;decide),(by generalize ((bif (decide ((2:Int)≤t.kind)) then (decide ((t.kind:Int)≤7)) else false) !=(((Tree.kind (t.kids.getD x5.toNat Tree.nil)):Int)==10))=b0;generalize (((Tree.kind (t.kids.getD x5.toNat Tree.nil)):Int) !=1)=b1;generalize ((t.kind:Int)==9)=b2;revert b0 b1 b2;decide),⟨fun c_28=> (((h.1 c_26).2.2.2.2.2 c_27).2.2.2.1 c_28),fun c_28=> ⟨(((h.1 c_26).2.2.2.2.2 c_27).2.2.2.2 c_28).1,(((h.1 c_26).2.2.2.2.2 c_27).2.2.2.2 c_28).2⟩⟩⟩⟩⟩⟩⟩,fun c_26=> (h.2 c_26)⟩
def ZCL(N:Nat)(t:Tree)(d:Int):Prop:=AW (Z0 (Z1v N)) Tryz.f31 ZcC [] (Zl (Zmu.can (t,d,())) []) (EQ Tryz.f31 (Zso (t,d,())) [])
theorem ZAT(c81:CT 81 Zdk)(hb:∀ (N:Nat) (t:Tree) (d:Int) (_:Unit),Z7K (t,d,())→Zk1 (t,d,()) < N+1→ZCL N t d):CT 31 ZaH:=
 Yo (μ:=Zk1) (l:=[(81,Zdk)]) Zo rfl (⟨c81,trivial⟩) ZcC Tryz.func31 rfl rfl 2 (fun _=> rfl) (by decide) (fun N ⟨t,d,_⟩=> hb N t d ())
end
end
end Go.AM.YtpjenobkibfpcaaGreat
namespace Go.AM.YtpjenobkibfpcaaGreat
open Go.AM Go.Proofs
theorem Z4W:∀ (l:List Int),trim l=[]↔∀ i:Nat,l.getD i 0=0
 | []=> by simp [trim]
 | x ::r=> by
  have ih:=Z4W r
  constructor
  ·intro h i
   simp only [trim] at h
   split at h
   ·rename_i hr
    split at h
    ·cases i with
     | zero=> simpa
     | succ i=> simpa using (ih.1 hr) i
    ·cases h
   ·cases h
  ·intro h
   have h0:=h 0
   have hr:trim r=[]:=ih.2 fun i=> by simpa using h (i+1)
   simp only [trim,hr]
   simp at h0
   simp [h0]
theorem Z2I(x:Int)(r:List Int):trim (x ::r)=if trim r=[]∧x=0 then [] else x ::trim r:=by
 simp only [trim]
 split
 ·rename_i h
  simp only [h]
  split <;> simp_all
 ·rename_i h
  simp [h]
theorem ZbB:∀ (a b:List Int),trim a=trim b↔∀ i:Nat,a.getD i 0=b.getD i 0
 | [],b=> by
  rw [show trim []=[] from rfl,eq_comm,Z4W]
  simp [eq_comm]
 | x ::r,[]=> by
  rw [show trim []=[] from rfl,Z4W]
  simp
 | x ::r,y ::s=> by
  have ih:=ZbB r s
  constructor
  ·intro h i
   have key:x=y∧trim r=trim s:=by
    rw [Z2I,Z2I] at h
    split at h <;> split at h <;> simp_all
   cases i with
   | zero=> simpa using key.1
   | succ i=> simpa using ih.1 key.2 i
  ·intro h
   have h0:x=y:=by simpa using h 0
   have hr:trim r=trim s:=ih.2 fun i=> by simpa using h (i+1)
   rw [Z2I,Z2I,h0,hr]
def Zy8(l:List Tree):Prop:=∀ x∈l,x.kind=0→x=Tree.nil
theorem Z00(x:Tree)(r:List Tree):Yw (x ::r)=if Yw r=[]∧x.kind=0 then [] else x ::Yw r:=by
 simp only [Yw]
 split
 ·rename_i h
  simp only [h]
  split <;> simp_all
 ·rename_i h
  simp [h]
theorem Z3X:∀ (l:List Tree),Zy8 l→(Yw l=[]↔∀ i:Nat,l.getD i Tree.nil=Tree.nil)
 | [],_=> by simp [Yw]
 | x ::r,hn=> by
  have ih:=Z3X r (fun y hy=> hn y (List.mem_cons_of_mem _ hy))
  have hx:=hn x (List.mem_cons_self ..)
  rw [Z00]
  constructor
  ·intro h i
   split at h
   ·rename_i hc
    cases i with
    | zero=> simpa using hx hc.2
    | succ i=> simpa using (ih.1 hc.1) i
   ·cases h
  ·intro h
   have h0:x=Tree.nil:=by simpa using h 0
   have hr:Yw r=[]:=ih.2 fun i=> by simpa using h (i+1)
   rw [if_pos ⟨hr,by rw [h0];rfl⟩]
theorem Z8C:∀ (a b:List Tree),Zy8 a→Zy8 b→(Yw a=Yw b↔∀ i:Nat,a.getD i Tree.nil=b.getD i Tree.nil)
 | [],b,_,hb=> by
  rw [show Yw []=[] from rfl,eq_comm,Z3X b hb]
  simp [eq_comm]
 | x ::r,[],ha,_=> by
  rw [show Yw []=[] from rfl,Z3X _ ha]
  simp
 | x ::r,y ::s,ha,hb=> by
  have ih:=Z8C r s (fun y hy=> ha y (List.mem_cons_of_mem _ hy)) (fun y hy=> hb y (List.mem_cons_of_mem _ hy))
  have hx:=ha x (List.mem_cons_self ..)
  have hy:=hb y (List.mem_cons_self ..)
  constructor
  ·intro h i
   have key:x=y∧Yw r=Yw s:=by
    rw [Z00,Z00] at h
    split at h <;> split at h
    ·rename_i h1 h2
     exact ⟨(hx h1.2).trans (hy h2.2).symm,h1.1.trans h2.1.symm⟩
    ·cases h
    ·cases h
    ·simpa using h
   cases i with
   | zero=> simpa using key.1
   | succ i=> simpa using ih.1 key.2 i
  ·intro h
   have h0:x=y:=by simpa using h 0
   have hr:Yw r=Yw s:=ih.2 fun i=> by simpa using h (i+1)
   rw [Z00,Z00,h0,hr]
theorem Zgl:Zd Tree.nil=Tree.nil:=by simp [Tree.nil,Zd]
theorem Z8m(t:Tree):(Zd t).kind=t.kind:=by
 obtain ⟨k,w,ks⟩:=t
 simp only [Zd]
 split
 ·rename_i h;simp [h,Tree.nil]
 ·split
  ·rename_i h;simp [h]
  ·try rfl
theorem Z8o:∀ (l:List Tree),Zy8 (Ys l)
 | []=> by intro x hx;simp [Ys] at hx
 | t ::r=> by
  intro x hx hk
  simp only [Ys,List.mem_cons] at hx
  rcases hx with rfl | hx
  ·rw [Z8m] at hk
   obtain ⟨k,w,ks⟩:=t
   simp only [Tree.kind_mk] at hk
   simp [Zd,hk]
  ·exact Z8o r x hx hk
theorem Z1t:∀ (l:List Tree) (i:Nat),(Ys l).getD i Tree.nil=Zd (l.getD i Tree.nil)
 | [],i=> by simp [Ys,Zgl]
 | t ::r,0=> by simp [Ys]
 | t ::r,i+1=> by simpa [Ys] using Z1t r i
theorem ZhJ(a b:List Tree):Ys a=Ys b↔a.length=b.length∧∀ i:Nat,Zd (a.getD i Tree.nil)=Zd (b.getD i Tree.nil):=by
 constructor
 ·intro h
  refine ⟨by rw [←Z1s a,h,Z1s],fun i=> ?_⟩
  rw [←Z1t,h,Z1t]
 ·rintro ⟨hl,h⟩
  apply List.ext_getElem (by rw [Z1s,Z1s,hl])
  intro i h1 h2
  have:=h i
  rw [←Z1t,←Z1t] at this
  simpa [List.getD,h1,h2] using this
theorem Z0f(a b:Tree):Zd a=Zd b↔a.kind=b.kind∧(a.kind=0∨(if a.kind=1 then (∀ i:Nat,a.words.getD i 0=b.words.getD i 0) else a.words=b.words∧a.kids.length=b.kids.length)∧∀ i:Nat,Zd (a.kids.getD i Tree.nil)=Zd (b.kids.getD i Tree.nil)):=by
 obtain ⟨k,w,ks⟩:=a
 obtain ⟨k',w',ks'⟩:=b
 show _↔k=k'∧(k=0∨(if k=1 then (∀ i:Nat,w.getD i 0=w'.getD i 0) else w=w'∧ks.length=ks'.length)∧∀ i:Nat,Zd (ks.getD i Tree.nil)=Zd (ks'.getD i Tree.nil))
 by_cases hk:k=k'
 ·subst hk
  simp only [true_and]
  by_cases h0:k=0
  ·simp [Zd,h0]
  ·by_cases h1:k=1
   ·subst h1
    simp only [Zd,if_neg h0,if_true,Tree.mk.injEq,true_and,ZbB,Z8C _ _ (Z8o _) (Z8o _),Z1t]
    simp
   ·simp only [Zd,if_neg h0,if_neg h1,Tree.mk.injEq,true_and,ZhJ]
    constructor
    ·rintro ⟨h2,h3,h4⟩;exact .inr ⟨⟨h2,h3⟩,h4⟩
    ·rintro (h | ⟨⟨h2,h3⟩,h4⟩)
     ·exact absurd h h0
     ·exact ⟨h2,h3,h4⟩
 ·simp only [hk,false_and,iff_false]
  intro h
  have:=congrArg Tree.kind h
  rw [Z8m,Z8m] at this
  exact hk this
end Go.AM.YtpjenobkibfpcaaGreat
namespace Go.AM.YtpjenobkibfpcaaGreat
open Go.AM Go.Proofs
theorem ZiU{a b:Tree}(h:Zd a=Zd b)(h0:a.kind≠0)(i:Nat):a.words.getD i 0=b.words.getD i 0:=by
 obtain ⟨_,h2⟩:=(Z0f a b).1 h
 rcases h2 with h2 | ⟨h2,_⟩
 ·exact absurd h2 h0
 ·split at h2
  ·exact h2 i
  ·rw [h2.1]
theorem Zmd{a b:Tree}(h:Zd a=Zd b)(h0:a.kind≠0)(i:Nat):Zd (a.kids.getD i Tree.nil)=Zd (b.kids.getD i Tree.nil):=by
 obtain ⟨_,h2⟩:=(Z0f a b).1 h
 rcases h2 with h2 | ⟨_,h2⟩
 ·exact absurd h2 h0
 ·exact h2 i
theorem ZeX(t:Tree)(i:Int):Zu (Z0c t i)≤Zu t∧(i < t.kids.length→0≤i→Zu (Z0c t i) < Zu t):=by
 obtain ⟨k,w,ks⟩:=t
 unfold Z0c
 have h1:Zu Tree.nil=1:=by simp [Tree.nil,Zu,Zh]
 split
 ·simp only [h1,Zu];omega
 ·simp only [Tree.kids_mk]
  by_cases hi:i.toNat < ks.length
  ·have:=Z0h hi
   simp only [Zu];omega
  ·rw [List.getD,List.getElem?_eq_none (by omega)]
   simp only [Option.getD_none,h1,Zu];omega
theorem Zit:Contract Tryz.prog cfg 114 Jr:=by
 refine Zxi ZBQ ZqW ZqV ?_
 rintro N a b _ hp hN
 have la:a.words.length+a.kids.length < Zu a:=by obtain ⟨k,w,ks⟩:=a;have:=ZA ks;simp only [Zu,Tree.words_mk,Tree.kids_mk];omega
 have lb:b.words.length+b.kids.length < Zu b:=by obtain ⟨k,w,ks⟩:=b;have:=ZA ks;simp only [Zu,Tree.words_mk,Tree.kids_mk];omega
 simp only [Z29,Zgp] at hp hN
 have no:¬Zd a=Zd b→Jx cfg Tryz.f114.ntmps Tryz.f114.results.toList (Z88 (a,b,())) [] .ret (⟨[(4,.c (.bool false))],[],[]⟩:LSt U):=by
  intro h
  have e:Jp (Zd a) (Zd b)=false:=J2.2 h
  simp only [Z88,e]
  exact ⟨⟨rfl,⟨rfl,trivial⟩,trivial⟩,trivial⟩
 refine ZEf N _ _ _ ?_;(try simp only [vcT,forall_eq])
 (simp only [vcS]);(try simp only [vcT])
 refine ⟨fun hc=> ?_,fun hc=> ?_⟩
 ·have e:Jp (Zd a) (Zd b)=(a.kind==b.kind):=by
   by_cases hk:a.kind=b.kind
   ·have h0:a.kind=0:=by rcases hc with h | h;exact absurd hk h;exact h
    rw [JB.2 ((Z0f a b).2 ⟨hk,.inl h0⟩)]
    simp [hk]
   ·rw [J2.2 (fun h=> hk ((Z0f a b).1 h).1)]
    simp [hk]
  simp only [Z88,e]
  exact ⟨⟨rfl,⟨rfl,trivial⟩,trivial⟩,trivial⟩
 ·refine ⟨fun _=> by simp only [Zed];omega,fun h h'=> ⟨h,h'⟩,fun hd=> no ?_,fun hd=> ?_⟩
  ·intro h
   obtain ⟨_,h2⟩:=(Z0f a b).1 h
   rcases h2 with h2 | ⟨h2,_⟩
   ·exact hc.2 h2
   ·rw [if_neg hd.1] at h2
    rcases hd.2 with h3 | h3
    ·exact h3 (by omega)
    ·exact h3 h2.1
  ·refine Za (ι:=Int) (fun p=> Z7r a b p) (fun p=> 0≤p∧p≤2000000000000∧∀ j:Nat,j < p.toNat→a.words.getD j 0=b.words.getD j 0) (fun p=> (2000000000000 - p).toNat) 0 rfl ⟨by omega,by omega,fun j hj=> by simp at hj⟩ ?_
   rintro i ⟨h1,h2,h3⟩
   refine ZrT N _ _ _ _ _ ?_;(try simp only [vcT,forall_eq])
   (simp only [vcS]);(try simp only [vcT])
   have wa:∀ t:Tree,JY t i=t.words.getD i.toNat 0:=fun t=> by unfold JY;rw [if_neg (by omega)]
   refine ⟨fun hi=> ⟨trivial,trivial,fun hn=> no fun h=> hn ?_,fun he=> ⟨?_,?_⟩⟩,fun hi=> ?_⟩
   ·rw [wa,wa]
    exact ZiU h hc.2 _
   ·unfold InR;split at hi <;> omega
   ·refine ⟨i+1,rfl,⟨by omega,by split at hi <;> omega,fun j hj=> ?_⟩,by split at hi <;> omega⟩
    by_cases hj':j < i.toNat
    ·exact h3 j hj'
    ·have:j=i.toNat:=by omega
     rw [this,←wa,←wa]
     exact he
   ·have hw:∀ j:Nat,a.words.getD j 0=b.words.getD j 0:=fun j=> by
     by_cases hj:j < i.toNat
     ·exact h3 j hj
     ·split at hi <;> rw [List.getD,List.getD,List.getElem?_eq_none (by omega),List.getElem?_eq_none (by omega)]
    refine Za (ι:=Int) (fun p=> Z7q a b p) (fun p=> 0≤p∧p≤2000000000000∧∀ j:Nat,j < p.toNat→Zd (a.kids.getD j Tree.nil)=Zd (b.kids.getD j Tree.nil)) (fun p=> (2000000000000 - p).toNat) 0 rfl ⟨by omega,by omega,fun j hj=> by simp at hj⟩ ?_
    rintro q ⟨h5,h6,h7⟩
    refine ZrS N _ _ _ _ _ ?_;(try simp only [vcT,forall_eq])
    (simp only [vcS]);(try simp only [vcT])
    have ka:∀ t:Tree,Z0c t q=t.kids.getD q.toNat Tree.nil:=fun t=> by unfold Z0c;rw [if_neg (by omega)]
    have ma:=ZeX a q
    have mb:=ZeX b q
    try (simp only [Tree.eta,Edit.eta,Tree.kind_mk,Tree.words_mk,Tree.kids_mk])
    refine ⟨fun hq=> ⟨trivial,trivial,?_,?_,fun hn=> no fun h=> ?_,fun he=> ⟨?_,?_⟩⟩,fun hq=> ?_⟩
    ·simp only [Z29];omega
    ·simp only [Zgp];split at hq <;> omega
    ·rw [J2] at hn
     apply hn
     rw [ka,ka]
     exact Zmd h hc.2 _
    ·unfold InR;split at hq <;> omega
    ·refine ⟨q+1,rfl,⟨by omega,by split at hq <;> omega,fun j hj=> ?_⟩,by split at hq <;> omega⟩
     by_cases hj':j < q.toNat
     ·exact h7 j hj'
     ·have:j=q.toNat:=by omega
      rw [this,←ka,←ka]
      exact JB.1 he
    ·have hk:∀ j:Nat,Zd (a.kids.getD j Tree.nil)=Zd (b.kids.getD j Tree.nil):=fun j=> by
      by_cases hj:j < q.toNat
      ·exact h7 j hj
      ·split at hq <;> rw [List.getD,List.getD,List.getElem?_eq_none (by omega),List.getElem?_eq_none (by omega)]
     have e:Jp (Zd a) (Zd b)=true:=by
      rw [JB,Z0f]
      refine ⟨hc.1,.inr ⟨?_,hk⟩⟩
      split
      ·exact hw
      ·rename_i h1
       rcases hd with hd | hd
       ·exact absurd hd h1
       ·exact ⟨hd.2,by have:=hd.1;omega⟩
     simp only [Z88,e]
     exact ⟨⟨rfl,⟨rfl,trivial⟩,trivial⟩,trivial⟩
end Go.AM.YtpjenobkibfpcaaGreat
namespace Go.AM.YtpjenobkibfpcaaGreat
open Go.AM Go.Proofs
mutual
theorem Z59:∀ (t:Tree) (d l:Int),0≤Y4 t d l→(Zu t:Int)+Y4 t d l≤l
 | .mk _ w ks,d,l,h=> by
  simp only [Y4] at h ⊢
  split at h
  ·omega
  ·rename_i hc
   rw [if_neg hc]
   have:=Z41 ks (d - 1) (l - 1 - w.length) h
   simp only [Zu]
   omega
theorem Z41:∀ (ks:List Tree) (d l:Int),0≤ZD ks d l→(Zh ks:Int)+ZD ks d l≤l
 | [],d,l,h=> by simp [ZD,Zh]
 | t ::r,d,l,h=> by
  simp only [ZD] at h ⊢
  split at h
  ·omega
  ·rename_i hc
   rw [if_neg hc]
   have h1:=Z41 r d (Y4 t d l) h
   have h3:=(Z0W r d (Y4 t d l) (J1 t d l).1).2
   have h2:=Z59 t d l (by omega)
   simp only [Zh]
   omega
end
end Go.AM.YtpjenobkibfpcaaGreat
namespace Go.AM.YtpjenobkibfpcaaGreat
open Go.AM Go.Proofs
theorem Z5{n k:Nat}{rs:List ResultVar}{b b':Bool}(hr:rs=[ResultVar.tmp k])(h:b=b'):Jx cfg n rs (.c (.bool b')) [] .ret (⟨[(k,.c (.bool b))],[],[]⟩:LSt U):=by
 subst hr h
 have hk:Nat.beq k k=true:=Nat.beq_refl k
 simp [Jx,ZCo,ZgV,ZgU,Z85,ZaL,LSt.toF,Zfv,hk,Zek,Z43,YU,Z0l,leR,leL,leC,Zr9]
theorem YF{n k:Nat}{rs:List ResultVar}{K:IntKind}{b b':Int}(hr:rs=[ResultVar.tmp k])(h:b=b'):Jx cfg n rs (.c (.int K b')) [] .ret (⟨[(k,.c (.int K b))],[],[]⟩:LSt U):=by
 subst hr h
 have hk:Nat.beq k k=true:=Nat.beq_refl k
 simp [Jx,ZCo,ZgV,ZgU,Z85,ZaL,LSt.toF,Zfv,hk,Zek,Z43,YU,Z0l,leR,leL,leC,Zr9]
theorem ZBY:Contract Tryz.prog cfg 129 Z94:=by
 refine Zx8 ?_
 intro c _ _
 refine ZE1 _ _ ?_
 (simp only [vcS])
 refine ⟨fun h=> YF rfl ?_,fun h=> ⟨fun h=> YF rfl ?_,fun h=> ⟨fun h=> YF rfl ?_,fun h=> ⟨fun h=> YF rfl ?_,fun h=> ⟨fun h=> YF rfl ?_,fun h=> ⟨fun h=> YF rfl ?_,fun h=> YF rfl ?_⟩⟩⟩⟩⟩⟩ <;> simp only [wd] <;> simp [*]
theorem Zri(c:Int): -1≤wd c∧wd c≤64:=by
 unfold wd
 repeat' split
 all_goals omega
theorem ZkX(n:Int)(h0:0≤n)(h1:n < 18446744073709551616):IntKind.wrap .u64 (Int.tdiv n 2)=n / 2:=by
 rw [Int.tdiv_eq_ediv_of_nonneg h0]
 simp [IntKind.wrap,IntKind.signed,IntKind.bits]
 omega
theorem Ztb{w:Nat}{n m:Int}(h:0≤n):(n / 2 < 2 ^ w)↔n < 2 ^ (w+1):=by
 have:(2:Int) ^ (w+1)=2 ^ w*2:=by rw [Int.pow_succ]
 omega
theorem c81:Contract Tryz.prog cfg 81 Zdk:=by
 refine ZAI ZBY ?_
 intro c n _ hp
 simp only [ZjI] at hp
 have hw:=Zri c
 refine ZFA _ _ _ ?_
 (simp only [vcS])
 refine ⟨trivial,fun h=> Z5 rfl ?_,fun h=> ?_⟩
 ·simp only [ZcF]
  simp
  omega
 ·refine Za (ι:=Int × Int) (fun p=> Z3r c n p.1 p.2) (fun p=> 0≤p.2∧p.2≤wd c∧0≤p.1∧p.1 < 18446744073709551616∧(n < 2 ^ (wd c).toNat↔p.1 < 2 ^ (wd c - p.2).toNat)) (fun p=> (wd c - p.2).toNat) (n,0) rfl ⟨by dsimp only;omega,by dsimp only;omega,by dsimp only;omega,by dsimp only;omega,by simp⟩ ?_
  rintro ⟨m,i⟩ ⟨h1,h2,h3,h4,h5⟩
  dsimp only at*
  refine Zvy _ _ _ _ _ _ ?_
  (simp only [vcS])
  refine ⟨fun hc=> ⟨by omega,by unfold InR;omega,(IntKind.wrap .u64 (Int.tdiv m 2),i+1),rfl,?_,by dsimp only;omega⟩,fun hc=> Z5 rfl ?_⟩
  ·rw [ZkX m h3 h4]
   refine ⟨by dsimp only;omega,by dsimp only;omega,by dsimp only;omega,by dsimp only;omega,?_⟩
   dsimp only
   rw [h5,show (wd c - i).toNat=(wd c - (i+1)).toNat+1 by omega]
   exact (Ztb (m:=0) h3).symm
  ·have e:(wd c - i).toNat=0:=by omega
   rw [e] at h5
   simp only [ZcF]
   rw [Bool.eq_iff_iff]
   simp
   omega
theorem ZBt:Contract Tryz.prog cfg 232 Z8I:=by
 refine Zwt ?_
 intro c _ _
 refine ZDe _ _ ?_
 (simp only [vcS])
 have hw:=Zri c
 refine ⟨fun h=> ?_,fun h=> ⟨by omega,?_⟩⟩
 ·have e:wd c= -1:=by unfold wd;(repeat' split) <;> omega
  simp only [Zlk,e]
  exact ⟨⟨rfl,⟨⟨rfl,rfl⟩,trivial⟩,rfl,⟨rfl,trivial⟩,trivial⟩,trivial⟩
 ·have hc:c=0∨c=1∨c=2∨c=3∨c=4∨c=5:=by omega
  rcases hc with rfl | rfl | rfl | rfl | rfl | rfl <;> exact ⟨⟨rfl,⟨⟨rfl,rfl⟩,trivial⟩,rfl,⟨rfl,trivial⟩,trivial⟩,trivial⟩
theorem ZuC(n:Int)(w:Nat)(h:0≤n):(Int.fdiv n (2 ^ w)=0)↔n < 2 ^ w:=by
 have hp:(0:Int) < 2 ^ w:=Int.pow_pos (by omega)
 rw [Int.fdiv_eq_ediv_of_nonneg _ (by omega)]
 constructor
 ·intro h1
  have:=Int.lt_ediv_add_one_mul_self n hp
  rw [h1] at this
  simpa using this
 ·intro h1
  exact Int.ediv_eq_zero_of_lt h h1
theorem ZBx:Contract Tryz.prog cfg 221 Z8M:=by
 refine Zwz ZBt ?_
 intro c n _ hp
 simp only [Ze6] at hp
 have hw:=Zri c
 refine ZDk _ _ _ ?_
 refine ⟨trivial,fun h=> by split <;> omega,Z5 rfl ?_⟩
 simp only [ZcF]
 by_cases h0:0≤wd c
 ·rw [if_neg (by omega)]
  simp only [h0,decide_true,cond_true,true_and]
  by_cases h64:wd c=64
  ·simp [h64]
   omega
  ·have:((wd c)==64)=false:=by simpa using h64
   rw [this,cond_false,Bool.eq_iff_iff]
   have hm:min (wd c).toNat (IntKind.bits .u64)=(wd c).toNat:=by
    show min (wd c).toNat 64=_
    omega
   rw [hm]
   simp only [beq_iff_eq,decide_eq_true_eq]
   exact ZuC n _ hp.1
 ·simp [h0]
theorem ZqZ:Contract Tryz.prog cfg 125 Z1E:=by
 refine Zxa ?_
 intro c _ _
 refine ZE4 _ _ ?_
 refine Z5 rfl ?_
 rw [Bool.eq_iff_iff]
 (simp only [vcS])
theorem ZqU:Contract Tryz.prog cfg 220 Z3B:=by
 refine ZwA ?_
 intro c _ _
 refine ZDl _ _ ?_
 refine Z5 rfl ?_
 rw [Bool.eq_iff_iff]
 (simp only [vcS])
theorem Zjk{t:Tree}(h:rng t){i:Nat}(hi:i < t.words.length):0≤t.words.getD i 0∧t.words.getD i 0 < 18446744073709551616:=by
 obtain ⟨k,w,ks⟩:=t
 simp only [rng] at h
 simp only [Tree.words_mk] at*
 have hg:w.getD i 0∈w:=by
  simp only [List.getD,List.getElem?_eq_getElem hi,Option.getD_some]
  exact List.getElem_mem hi
 exact h.2.1 _ hg
theorem ZBL:Contract Tryz.prog cfg 181 Z8W:=by
 refine ZwP ZqU ZBx ?_
 intro l t _ hp
 simp only [Zea] at hp
 refine ZDE _ _ _ ?_
 (simp only [vcS])
 refine ⟨trivial,fun hd=> ⟨fun _=> by unfold InR;omega,fun h=> by omega,fun h=> Zjk hp (by omega),Z5 rfl ?_⟩,fun hd=> ⟨fun h=> Z5 rfl ?_,fun h=> Z5 rfl ?_⟩⟩
 ·simp only [JR,if_pos hd,Int.toNat_zero]
  rw [Bool.eq_iff_iff]
  (simp only [vcS])
  constructor <;> (rintro ⟨h1,h2⟩;exact ⟨by omega,h2⟩)
 ·simp only [JR,if_neg hd,if_pos h]
  rw [Bool.eq_iff_iff]
  (simp only [vcS])
 ·simp only [JR,if_neg hd,if_neg h]
  rw [Bool.eq_iff_iff]
  (simp only [vcS])
theorem ZbO{l:Int}{ks:List Tree}{i:Int}{d:Int}(h0:0≤i)(h:i < ks.length):
  YJ l (ks.drop i.toNat) d=((JR l (ks.getD i.toNat Tree.nil) && Ze (ks.getD i.toNat Tree.nil) d) && YJ l (ks.drop (i+1).toNat) d):=by
 have e:(i+1).toNat=i.toNat+1:=by omega
 rw [List.drop_eq_getElem_cons (by omega),e]
 simp only [YJ,List.getD,List.getElem?_eq_getElem (show i.toNat < ks.length by omega),Option.getD_some]
theorem ZdN:∀ {ks:List Tree} {i:Nat},Yq ks→i < ks.length→rng (ks.getD i Tree.nil)
 | t ::_,0,h,_=> by simp only [Yq] at h;exact h.1
 | _ ::r,i+1,h,hi=> by simp only [Yq] at h;exact ZdN (ks:=r) (i:=i) h.2 (by simpa using hi)
theorem Zkr(t:Tree):JR 1 t=decide (t.kind≠10):=by simp [JR]
theorem ZBX:Contract Tryz.prog cfg 130 Z93:=by
 refine Zx7 ZqZ ZBL ?_
 rintro N ⟨k,ws,ks⟩ d _ hp hN
 simp only [Z4b,Z7O,Zu,rng] at hp hN
 have key:∀ b,d≠0→Ze (.mk k ws ks) d=(b && YJ k ks (d - 1))→b=true→
   Zf (awp cfg (Z0 (YZ N)) (ZB cfg (Z0 (YZ N))) Tryz.f130.ntmps Z2d (cd Tryz.f130 [1,1,0,1,0,0])) (Je (.mk k ws ks) d 0) (AExit.inBlock 1 (Z5a cfg (Z0 (YZ N)) (ZB cfg (Z0 (YZ N))) Tryz.f130.ntmps Z2d (cd Tryz.f130 [1,1,1]) (Jx cfg Tryz.f130.ntmps Tryz.f130.results.toList (Zhr (.mk k ws ks,d,())) []))):=by
  intro b hd0 hb hbt
  subst hbt
  rw [Bool.true_and] at hb
  refine Za (ι:=Int) (fun p=> Je (.mk k ws ks) d p) (fun p=> 0≤p∧p≤ks.length∧Ze (.mk k ws ks) d=YJ k (ks.drop p.toNat) (d - 1)) (fun p=> ((ks.length:Int) - p).toNat) 0 rfl ⟨by omega,by omega,by simpa using hb⟩ ?_
  rintro i ⟨h1,h2,h3⟩
  refine ZrE N _ _ _ _ _ ?_
  (simp only [vcS])
  (simp only [Tree.eta,Edit.eta,Tree.kind_mk,Tree.words_mk,Tree.kids_mk])
  refine ⟨fun hi=> ⟨⟨by omega,hi⟩,?_⟩,fun hi=> ?_⟩
  ·have hd:=ZbO (l:=k) (d:=d - 1) h1 hi
   have hm:=Z0h (ks:=ks) (i:=i.toNat) (by omega)
   have hr:=ZdN (i:=i.toNat) hp.2.1.2.2 (by omega)
   rw [hd] at h3
   have hlen:=ZA ks
   generalize ks.getD i.toNat Tree.nil=y at*
   have hpre:Z4b (y,d - 1,()):=⟨by dsimp only;omega,hr,by dsimp only;omega,by dsimp only;omega⟩
   have hmu:Z7O (y,d - 1,()) < N:=by simp only [Z7O];omega
   have hin:InR (d - 1):=by unfold InR;omega
   refine ⟨fun hk=> ⟨hr,fun _=> hin,fun _=> hpre,fun _=> hmu,fun hc=> Z5 rfl ?_,fun hc=> ⟨by unfold InR;omega,i+1,rfl,⟨by omega,by omega,?_⟩,by omega⟩⟩,fun hk=> ⟨fun _=> hin,fun _=> hpre,fun _=> hmu,fun hc=> Z5 rfl ?_,fun hc=> ⟨by unfold InR;omega,i+1,rfl,⟨by omega,by omega,?_⟩,by omega⟩⟩⟩
   ·rw [h3]
    rcases hc with hc | hc <;> simp [hc]
   ·rw [h3,hc.1,hc.2];try rfl
   ·subst hk
    rw [h3,Zkr]
    rcases hc with hc | hc <;> simp [hc]
   ·subst hk
    rw [h3,Zkr,hc.2]
    simp [hc.1]
  ·rw [List.drop_eq_nil_of_le (by omega)] at h3
   simp only [YJ] at h3
   exact Z5 rfl h3.symm
 refine ZE0 N _ _ _ ?_
 (simp only [vcS])
 (simp only [Tree.eta,Edit.eta,Tree.kind_mk,Tree.words_mk,Tree.kids_mk])
 have hk0:∀ h0:k=0,Ze (.mk k ws ks) d=decide (ws.length=0∧ks.length=0):=fun h0=> by simp only [Ze,if_pos h0]
 have hk10:∀ (_:¬k=0) (h10:k=10),Ze (.mk k ws ks) d=decide (ws.length=1∧ks.length=0):=fun h0 h10=> by simp only [Ze,if_neg h0,if_pos h10]
 refine ⟨fun h0=> Z5 rfl ?_,fun h0=> ⟨fun h10=> Z5 rfl ?_,fun h10=> ⟨fun hd=> Z5 rfl ?_,fun hd=> ⟨fun h1=> ⟨fun hc=> Z5 rfl ?_,fun hc=> key true hd ?_ rfl⟩,fun h1=> ⟨trivial,fun hc=> Z5 rfl ?_,fun hc=> key true hd ?_ rfl⟩⟩⟩⟩⟩
 ·rw [hk0 h0,Bool.eq_iff_iff];(simp only [vcS]);omega
 ·rw [hk10 h0 h10,Bool.eq_iff_iff];(simp only [vcS]);omega
 ·simp only [Ze,if_neg h0,if_neg h10,if_pos hd]
 ·simp only [Ze,if_neg h0,if_neg h10,if_neg hd,if_pos h1]
  rw [decide_eq_false (by omega)];try rfl
 ·simp only [Ze,if_neg h0,if_neg h10,if_neg hd,if_pos h1]
  rw [decide_eq_true (by omega),h1]
 ·simp only [Ze,if_neg h0,if_neg h10,if_neg hd,if_neg h1]
  rw [decide_eq_false (by omega)];try rfl
 ·simp only [Ze,if_neg h0,if_neg h10,if_neg hd,if_neg h1]
  rw [decide_eq_true (by omega)]
theorem c82:Contract Tryz.prog cfg 82 Z5N:=by
 refine ZAH ZBX ?_
 intro t _ hp
 refine ZFz _ _ ?_
 (simp only [Tree.eta,Edit.eta,Tree.kind_mk,Tree.words_mk,Tree.kids_mk])
 exact ⟨⟨hp.1,hp.2,by dsimp only;omega,by dsimp only;omega⟩,Z5 rfl rfl⟩
theorem Zjr{y:Tree}{d:Int}(h:Ze y d=true)(hk:y.kind=10):y.words.length=1∧y.kids.length=0:=by
 obtain ⟨k,w,ks⟩:=y
 simp only [Tree.kind_mk] at hk
 subst hk
 simpa [Ze] using h
theorem c31:Contract Tryz.prog cfg 31 ZaH:=by
 refine ZAT c81 ?_
 rintro N ⟨k,ws,ks⟩ d _ hp hN
 simp only [Z7K,Zk1,Zu,rng] at hp hN
 refine ZFR N _ _ _ ?_
 (simp only [vcS])
 (simp only [Tree.eta,Edit.eta,Tree.kind_mk,Tree.words_mk,Tree.kids_mk])
 refine ⟨fun h0=> Z5 rfl ?_,fun h0=> ⟨fun h10=> Z5 rfl ?_,fun h10=> ⟨fun hc=> Z5 rfl ?_,fun hc=> ⟨fun hw=> Z5 rfl ?_,fun hw=> ?_⟩⟩⟩⟩
 ·simp only [Ze,if_pos h0]
  rw [Bool.eq_iff_iff];(simp only [vcS]);omega
 ·simp only [Ze,if_neg h0,if_pos h10]
  rw [Bool.eq_iff_iff];(simp only [vcS]);omega
 ·simp only [Ze,if_neg h0,if_neg h10]
  split
  ·try rfl
  ·split
   ·rw [decide_eq_false (by omega)];try rfl
   ·have:¬(2≤k∧k≤9∧ws.length=0∧ks.length < 1048576):=by omega
    rw [decide_eq_false this];try rfl
 ·simp only [Ze,if_neg h0,if_neg h10]
  rw [if_neg (by omega),if_neg (by omega)]
  have:¬(2≤k∧k≤9∧ws.length=0∧ks.length < 1048576):=by omega
  rw [decide_eq_false this];try rfl
 ·have hb:Ze (.mk k ws ks) d=YJ k ks (d - 1):=by
   simp only [Ze,if_neg h0,if_neg h10]
   rw [if_neg (by omega)]
   split
   ·rename_i h1
    rw [decide_eq_true (by omega),h1];try rfl
   ·have:2≤k∧k≤9∧ws.length=0∧ks.length < 1048576:=by omega
    rw [decide_eq_true this];try rfl
  refine Za (ι:=Int) (fun p=> Z3s (.mk k ws ks) d p) (fun p=> 0≤p∧p≤ks.length∧Ze (.mk k ws ks) d=YJ k (ks.drop p.toNat) (d - 1)) (fun p=> ((ks.length:Int) - p).toNat) 0 rfl ⟨by omega,by omega,by simpa using hb⟩ ?_
  rintro i ⟨h1,h2,h3⟩
  refine ZvW N _ _ _ _ _ ?_
  (simp only [vcS])
  (simp only [Tree.eta,Edit.eta,Tree.kind_mk,Tree.words_mk,Tree.kids_mk])
  refine ⟨fun hi=> ?_,fun hi=> ?_⟩
  ·have hd:=ZbO (l:=k) (d:=d - 1) h1 hi
   have hm:=Z0h (ks:=ks) (i:=i.toNat) (by omega)
   have hr:=ZdN (i:=i.toNat) hp.2.1.2.2 (by omega)
   rw [hd] at h3
   have hlen:=ZA ks
   generalize ks.getD i.toNat Tree.nil=y at*
   have hpre:Z7K (y,d - 1,()):=⟨by dsimp only;omega,hr,by dsimp only;omega,by dsimp only;omega⟩
   have hmu:Zk1 (y,d - 1,()) < N:=by simp only [Zk1];omega
   have hin:InR (d - 1):=by unfold InR;omega
   refine ⟨⟨h1,hi⟩,hin,hpre,hmu,fun hf=> Z5 rfl ?_,fun hf=> ?_⟩
   ·rw [h3,hf];simp
   ·have hdata:((bif decide (2≤k) then decide (k≤7) else false)=(y.kind==10))↔((2≤k∧k≤7)↔y.kind=10):=by
     rw [Bool.eq_iff_iff];(simp only [vcS])
    have hat:=Zjr hf
    have hkb:JR k y=true↔(((2≤k∧k≤7)↔y.kind=10)∧(¬k=9∨y.kind=1))∧((¬2≤k∨¬k≤7)∨ZcF (k - 2) (y.words.getD 0 0)=true):=by
     unfold JR
     by_cases hk:2≤k∧k≤7
     ·rw [if_pos hk]
      (simp only [vcS])
      constructor
      ·rintro ⟨h4,h5⟩;exact ⟨⟨by omega,by omega⟩,.inr h5⟩
      ·rintro ⟨⟨h4,_⟩,h5⟩
       have:=hat (by omega)
       exact ⟨by omega,by rcases h5 with h5 | h5;omega;exact h5⟩
     ·rw [if_neg hk]
      by_cases h9:k=9
      ·rw [if_pos h9]
       (simp only [vcS])
       constructor
       ·intro h4;exact ⟨⟨by omega,by omega⟩,.inl (by omega)⟩
       ·rintro ⟨⟨_,h4⟩,_⟩;omega
      ·rw [if_neg h9]
       (simp only [vcS])
       constructor
       ·intro h4;exact ⟨⟨by omega,by omega⟩,.inl (by omega)⟩
       ·rintro ⟨⟨h4,_⟩,_⟩;omega
    have hone:∀ (h4:(((bif decide (2≤k) then decide (k≤7) else false)=(y.kind==10)∧(¬k=9∨y.kind=1))∧2≤k∧k≤7)),y.words.length=1:=fun h4=> (hat ((hdata.1 h4.1.1).1 h4.2)).1
    simp only [Int.toNat_zero]
    refine ⟨fun h4=> by unfold InR;omega,fun h4=> by have:=hone h4;omega,fun h4=> Zjk hr (by have:=hone h4;omega),fun h4=> Z5 rfl ?_,fun h4=> ⟨by unfold InR;omega,i+1,rfl,⟨by omega,by omega,?_⟩,by omega⟩⟩
    ·have hno:JR k y=false:=by
      cases hkk:JR k y with
      | false=> rfl
      | true=>
       exfalso
       obtain ⟨h5,h6⟩:=hkb.1 hkk
       rcases h4 with h4 | ⟨h4,h7⟩
       ·rcases h4 with h4 | h4
        ·exact h4 (hdata.2 h5.1)
        ·omega
       ·rcases h6 with h6 | h6
        ·omega
        ·rw [h7] at h6;cases h6
     rw [h3,hno];try rfl
    ·rw [h3,hkb.2 ⟨⟨hdata.1 h4.1.1,h4.1.2⟩,h4.2⟩,hf];try rfl
  ·rw [List.drop_eq_nil_of_le (by omega)] at h3
   simp only [YJ] at h3
   exact Z5 rfl h3.symm
end Go.AM.YtpjenobkibfpcaaGreat
