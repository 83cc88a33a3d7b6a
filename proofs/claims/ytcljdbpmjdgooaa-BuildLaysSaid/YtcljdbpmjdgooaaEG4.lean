import Derived.Test.YtcljdbpmjdgooaaEmY
import Derived.Test.YtcljdbpmjdgooaaEB1
import Derived.Test.YtcljdbpmjdgooaaEQBo
set_option linter.unusedSimpArgs false
set_option linter.unusedVariables false
namespace Go.AM.Ytcljdbpmjdgooaa
open Go.AM Go.Proofs
noncomputable section
noncomputable section
def Z9i:ArgM ((Arena × Unit) × Int × Unit):=(.agg (.cons cAr .nil) (.cons (Zv .i64) .nil))
def Z1j(a:(Arena × Unit) × Int × Unit):Prop:=OkAr a.1.1
def ZiE(a:(Arena × Unit) × Int × Unit):V U:= .tup [(true,(enc .spot (Spot.mk (if Z0 a.1.1 a.2.1 then giveS a.1.1 a.2.1 else 0) (if Z0 a.1.1 a.2.1 then giveT a.1.1 a.2.1 else 0)))),(false,[.bool (Z0 a.1.1 a.2.1)])]
def Ze1(a:(Arena × Unit) × Int × Unit):List (List (C U)):=[]
def Ze8(a:(Arena × Unit) × Int × Unit):List (Tok × LC U):=[(.A,LC.mk (U:=U) .arena [Z5 a.1.1 a.2.1] 0)]
def Jk:Fs U:=(Ys Z9i (fun a=> [Z1j a]) ZiE Ze1 Ze8).passing [0]
def Zga:ArgL (Spot × Int × Unit):=(.cons (aEl .spot) (.cons (Zv .i64) .nil))
def Z1i(a:Spot × Int × Unit):Prop:=InR (Spot.at_ a.1+a.2.1)
def Ziz(a:Spot × Int × Unit):V U:= .agg (enc .spot (Spot.mk (Spot.segment a.1) (Spot.at_ a.1+a.2.1)))
def Z2V:Fs U:=fs Zga (fun a=> [Z1i a]) Ziz
def Z9d:ArgM ((Arena × Unit) × Spot × List Int × Unit):=(.agg (.cons cAr .nil) (.cons (aEl .spot) (.cons (aSl .u64) .nil)))
def Jb(a:(Arena × Unit) × Spot × List Int × Unit):Prop:=(OkAr a.1.1/\okW a.2.2.1)/\Y2 a.1.1.segs (Spot.segment a.2.1) (Spot.at_ a.2.1) a.2.2.1.length=true
def ZiA(a:(Arena × Unit) × Spot × List Int × Unit):V U:= .c (.bool true)
def ZdY(a:(Arena × Unit) × Spot × List Int × Unit):List (List (C U)):=[]
def Ze6(a:(Arena × Unit) × Spot × List Int × Unit):List (Tok × LC U):=[(.A,LC.mk (U:=U) .arena [Zk a.2.2.1 a.1.1 (Spot.segment a.2.1) (Spot.at_ a.2.1)] 0)]
def YO:Fs U:=(Ys Z9d (fun a=> [Jb a]) ZiA ZdY Ze6).passing [0]
def Z5A(a:Ptr × Unit):Prop:=∃ (o s:Int) (d:Bool),a.1=Ptr.mk 3 o 0 0 0 0 s d/\(0<=o/\o < 536870912)/\0<=s/\s < 4294967296
def Z8x(a:Ptr × Unit):V U:= .tup [(false,[.int .u64 (J8 (Ptr.double a.1) (Ptr.segment a.1) (Ptr.off a.1))]),(false,[.bool true])]
def Z1D:Fs U:=fs Zg1 (fun a=> [Z5A a]) Z8x
def Z95:ArgM ((Arena × Unit) × Spot × Spot × Bool × Unit):=(.agg (.cons cAr .nil) (.cons (aEl .spot) (.cons (aEl .spot) (.cons ZmA .nil))))
def Z4S(a:(Arena × Unit) × Spot × Spot × Bool × Unit):Prop:=(OkAr a.1.1/\Y2 a.1.1.segs (Spot.segment a.2.1) (Spot.at_ a.2.1) 1=true)/\(0<=Spot.at_ a.2.2.1/\Spot.at_ a.2.2.1 < 536870912)/\0<=Spot.segment a.2.2.1/\Spot.segment a.2.2.1 < 4294967296
def Zip(a:(Arena × Unit) × Spot × Spot × Bool × Unit):V U:= .c (.bool true)
def ZdS(a:(Arena × Unit) × Spot × Spot × Bool × Unit):List (List (C U)):=[]
def Ze3(a:(Arena × Unit) × Spot × Spot × Bool × Unit):List (Tok × LC U):=[(.A,LC.mk (U:=U) .arena [ZD a.1.1 (Spot.segment a.2.1) (Spot.at_ a.2.1) (J8 a.2.2.2.1 (Spot.segment a.2.2.1) (Spot.at_ a.2.2.1))] 0)]
def Z5V:Fs U:=(Ys Z95 (fun a=> [Z4S a]) Zip ZdS Ze3).passing [0]
def Z97:ArgM ((Arena × Unit) × Spot × Spot × Ptr × Unit):=(.agg (.cons cAr .nil) (.cons (aEl .spot) (.cons (aEl .spot) (.cons (aEl .ptr) .nil))))
def Z7E(a:(Arena × Unit) × Spot × Spot × Ptr × Unit):Prop:=(OkAr a.1.1/\Y2 a.1.1.segs (Spot.segment a.2.1) (Spot.at_ a.2.1) 1=true)/\(0<=Spot.at_ a.2.2.1/\Spot.at_ a.2.2.1<=131072)/\Z4Z a.2.2.2.1
def Zeb(a:(Arena × Unit) × Spot × Spot × Ptr × Unit):V U:= .c (.bool true)
def ZaI(a:(Arena × Unit) × Spot × Spot × Ptr × Unit):List (List (C U)):=[]
def ZaK(a:(Arena × Unit) × Spot × Spot × Ptr × Unit):List (Tok × LC U):=[(.A,LC.mk (U:=U) .arena [ZD a.1.1 (Spot.segment a.2.1) (Spot.at_ a.2.1) (pwA (Spot.at_ a.2.1) (Spot.at_ a.2.2.1) (kdP a.2.2.2.1) (upP a.2.2.2.1))] 0)]
def Z5X:Fs U:=(Ys Z97 (fun a=> [Z7E a]) Zeb ZaI ZaK).passing [0]
def Z3s(a:(Arena × Unit) × Spot × Spot × Ptr × Unit):Prop:=(OkAr a.1.1/\Y2 a.1.1.segs (Spot.segment a.2.1) (Spot.at_ a.2.1) 1=true)/\(0<=Spot.at_ a.2.2.1/\Spot.at_ a.2.2.1<=131072)/\Z4Z a.2.2.2.1/\0<=Spot.segment a.2.2.1/\Spot.segment a.2.2.1 < a.1.1.segs.length
def ZbQ(a:(Arena × Unit) × Spot × Spot × Ptr × Unit):V U:= .c (.bool ((Zu a.1.1 (Spot.segment a.2.1) (Spot.at_ a.2.1) (Spot.segment a.2.2.1) (Spot.at_ a.2.2.1) (kdP a.2.2.2.1) (upP a.2.2.2.1)).2))
def Z8w(a:(Arena × Unit) × Spot × Spot × Ptr × Unit):List (Tok × LC U):=[(.A,LC.mk (U:=U) .arena [(Zu a.1.1 (Spot.segment a.2.1) (Spot.at_ a.2.1) (Spot.segment a.2.2.1) (Spot.at_ a.2.2.1) (kdP a.2.2.2.1) (upP a.2.2.2.1)).1] 0)]
def Z2W:Fs U:=(Ys Z97 (fun a=> [Z3s a]) ZbQ ZaI Z8w).passing [0]
def Zfy:List (FuncId × Fs U):=[(40,Z62)]
def ZkL:Zc U:=fun i=> match i with
 | 0=> ([(0,[.ar]),(1,[]),(2,[]),(4,[])],[(.loc 2,[.ar]),(.loc 4,[])])
 | 1=> ([(0,[.ar]),(4,[]),(6,[]),(7,[]),(8,[])],[(.loc 4,[])])
 | 2=> ([(0,[.ar]),(4,[]),(5,[])],[(.loc 4,[])])
 | _=> ([],[])
abbrev W22(a:Arena)(n:Int)(Q:QT):=AW (Z1 Zfy) Try.f22 ZkL [] (⟨[(0,.agg [.mref (.A)]),pI 1 n],[],[(.A,LC.mk (U:=U) .arena ([a]) 0)]⟩:LSt U) Q
theorem ZnB(a:Arena)(n:Int)(Q:QT)(h:(Zc6 (a,n,()))/\(Q .ret (⟨[(0,.agg [.mref (.A)]),pL 4,pB 5 (Z0 a n)],[(.loc 4,[ci (if Z0 a n then giveS a n else 0),ci (if Z0 a n then giveT a n else 0)])],[(.A,LC.mk (U:=U) .arena ([Z5 a n]) 0)]⟩:LSt U))):
  W22 a n Q:=by
 have e_:(W22 a n Q)=((Zc6 (a,n,()))/\(Q .ret (⟨[(0,.agg [.mref (.A)]),pL 4,pB 5 (Z0 a n)],[(.loc 4,[ci (if Z0 a n then giveS a n else 0),ci (if Z0 a n then giveT a n else 0)])],[(.A,LC.mk (U:=U) .arena ([Z5 a n]) 0)]⟩:LSt U))):=by kernel_rfl
 exact e_.mpr ⟨h.1,h.2⟩
abbrev ZlR(a:Arena)(n:Int):Prop:=AW (Z1 Zfy) Try.f22 ZkL [] (ZI (Z9i.can ((a,()),n,())) (Z9i.canX ((a,()),n,())) (Z9i.canL ((a,()),n,()))) (ZK cfg Try.f22.ntmps Try.f22.results.toList (ZiE ((a,()),n,())) (Ze1 ((a,()),n,())) (Ze8 ((a,()),n,())))
theorem Zkb(c40:CT 40 Z62)(hb:∀ (a:Arena) (n:Int) (_:Unit),Z1j ((a,()),n,())->ZlR a n):CT 22 Jk:=
 Contract.passing <| Ze (l:=[(40,Z62)]) Zf rfl (⟨c40,trivial⟩) ZkL Try.func22 rfl rfl 2 (fun _=> rfl) (by decide) (fun ⟨⟨a,_⟩,n,_⟩=> hb a n ())
def ZkF:Zc U:=lvl [([1,2,4],[2,4]),([4],[4])]
abbrev W46(s:Spot)(n:Int)(Q:QT):=AW (Z1 Zff) Try.f46 ZkF [] (L2 [(0,.agg (enc .spot s)),pI 1 n] []) Q
theorem Znj(s:Spot)(n:Int)(Q:QT)(h:(InR (((Spot.at_ s):Int)+n))/\(Q .ret (L2 [pL 4] [(.loc 4,[ci (Spot.segment s),ci (((Spot.at_ s):Int)+n)])]))):
  W46 s n Q:=by
 have e_:(W46 s n Q)=(type_of% h):=by kernel_rfl
 exact e_.mpr ⟨h.1,h.2⟩
abbrev Zlz(s:Spot)(n:Int):Prop:=AW (Z1 Zff) Try.f46 ZkF [] (Zs (Zga.can (s,n,())) []) (EQ Try.f46 (Ziz (s,n,())) [])
theorem ZjX(hb:∀ (s:Spot) (n:Int) (_:Unit),Z1i (s,n,())->Zlz s n):CT 46 Z2V:=
 Z3 (l:=[]) Zf rfl trivial ZkF Try.func46 rfl rfl 2 (fun _=> rfl) (by decide) (fun ⟨s,n,_⟩=> hb s n ())
def Z0x:List (FuncId × Fs U):=[(79,Z5U)]
def Z8L:Zc U:=fun i=> match i with
 | 0=> ([(0,[.ar]),(2,[]),(3,[]),(4,[])],[(.loc 3,[.ar]),(.loc 4,[])])
 | 1=> ([(0,[.ar]),(3,[]),(4,[]),(9,[]),(10,[]),(11,[])],[(.loc 3,[.ar]),(.loc 4,[])])
 | 2=> ([(0,[.ar]),(3,[]),(4,[]),(9,[]),(10,[]),(11,[]),(12,[])],[(.loc 3,[.ar]),(.loc 4,[])])
 | 3=> ([(0,[.ar]),(3,[]),(4,[]),(7,[]),(8,[]),(9,[]),(10,[]),(11,[])],[(.loc 3,[.ar]),(.loc 4,[])])
 | 4=> ([(0,[.ar]),(3,[]),(4,[]),(9,[]),(10,[]),(11,[]),(26,[])],[(.loc 3,[.ar]),(.loc 4,[])])
 | 5=> ([(0,[.ar]),(6,[])],[])
 | 6=> ([(0,[.ar]),(3,[]),(4,[]),(9,[]),(10,[]),(11,[])],[(.loc 3,[.ar]),(.loc 4,[])])
 | 7=> ([(0,[.ar]),(6,[])],[])
 | _=> ([],[])
def Z0K(a:Arena)(s:Spot)(l:List Int)(x11:Int)(rA:Arena):LSt U:=(⟨[(0,.agg [.mref (.A)]),pL 3,pL 4,(9,.c (sU .u64 l .unk)),pI 10 (l.length:Int),pI 11 x11],[(.loc 3,[.mref (.A)]),(.loc 4,(enc .spot s))],[(.A,LC.mk (U:=U) .arena ([rA]) 0)]⟩:LSt U)
abbrev W44(a:Arena)(s:Spot)(l:List Int)(Q:QT):=AW (Z1 Z0x) Try.f44 Z8L [] (⟨[(0,.agg [.mref (.A)]),(1,.agg (enc .spot s)),(2,.c (sU .u64 l .unk))],[],[(.A,LC.mk (U:=U) .arena ([a]) 0)]⟩:LSt U) Q
abbrev Zi4:=awp cfg (Z1 Z0x) (ZA cfg (Z1 Z0x)) Try.f44.ntmps Z8L
abbrev Zhg:=Z6h cfg (Z1 Z0x) (ZA cfg (Z1 Z0x)) Try.f44.ntmps Z8L
theorem Znl(a:Arena)(s:Spot)(l:List Int)(Q:QT)(h:Zo (AW (Z1 Z0x) Try.f44 Z8L [1,0,1,0,0]) (Z0K a s l 0 a) (xB 0 (SW (Z1 Z0x) Try.f44 Z8L [1,1] Q))):
  W44 a s l Q:=by
 have e_:(W44 a s l Q)=(Zo (Zi4 (cd Try.f44 [1,0,1,0,0])) (Z0K a s l 0 a) (xB 0 (Zhg (cd Try.f44 [1,1]) Q))):=by kernel_rfl
 exact e_.mpr h
abbrev Zgv(a:Arena)(s:Spot)(l:List Int)(x11:Int)(rA:Arena)(N0:NT)(Q:QT):=AW (Z1 Z0x) Try.f44 Z8L [1,0,1,0,0] (Z0K a s l x11 rA) (xT N0 (xB 0 (SW (Z1 Z0x) Try.f44 Z8L [1,1] Q)))
theorem ZgQ(a:Arena)(s:Spot)(l:List Int)(x11:Int)(rA:Arena)(N0:NT)(Q:QT)(h:((decide (x11 < (l.length:Int)))=true->((0:Int)<=x11/\x11 < (l.length:Int))/\((InR (((Spot.at_ s):Int)+x11))/\(ZbZ (rA,(Spot.segment s),(((Spot.at_ s):Int)+x11),(l.getD x11.toNat (0:Int)),()))/\(((!(Y2 rA.segs (Spot.segment s) (((Spot.at_ s):Int)+x11) 1))=true->Q .ret (⟨[(0,.agg [.mref (.A)]),pB 6 false],[],[(.A,LC.mk (U:=U) .arena ([ZD rA (Spot.segment s) (((Spot.at_ s):Int)+x11) (l.getD x11.toNat (0:Int))]) 0)]⟩:LSt U))/\((!(Y2 rA.segs (Spot.segment s) (((Spot.at_ s):Int)+x11) 1))=false->(InR (x11+1))/\(N0 (Z0K a s l (x11+1) (ZD rA (Spot.segment s) (((Spot.at_ s):Int)+x11) (l.getD x11.toNat (0:Int)))))))))/\((decide (x11 < (l.length:Int)))=false->Q .ret (⟨[(0,.agg [.mref (.A)]),pB 6 true],[],[(.A,LC.mk (U:=U) .arena ([rA]) 0)]⟩:LSt U))):
  Zgv a s l x11 rA N0 Q:=by
 have e_:(Zgv a s l x11 rA N0 Q)=(let zz0:=(!(Y2 rA.segs (Spot.segment s) (((Spot.at_ s):Int)+x11) 1));(((decide ((x11:Int) < (l.length:Int)))=true->((0:Int)<=x11/\x11 < (l.length:Int))/\((InR (((Spot.at_ s):Int)+x11))/\(ZbZ (rA,(Spot.segment s),(((Spot.at_ s):Int)+x11),(l.getD x11.toNat (0:Int)),()))/\((zz0=true->(Q .ret (⟨[(0,.agg [.mref (.A)]),pB 6 false],[],[(.A,LC.mk (U:=U) .arena ([ZD rA (Spot.segment s) (((Spot.at_ s):Int)+x11) (l.getD x11.toNat (0:Int))]) 0)]⟩:LSt U)))/\(zz0=false->(InR ((x11:Int)+1))/\(N0 (Z0K a s l ((x11:Int)+1) (ZD rA (Spot.segment s) (((Spot.at_ s):Int)+x11) (l.getD x11.toNat (0:Int)))))))))/\((decide ((x11:Int) < (l.length:Int)))=false->(Q .ret (⟨[(0,.agg [.mref (.A)]),pB 6 true],[],[(.A,LC.mk (U:=U) .arena ([rA]) 0)]⟩:LSt U))))):=by kernel_rfl
 exact e_.mpr ⟨fun c_1=> ⟨(h.1 c_1).1,⟨(h.1 c_1).2.1,(h.1 c_1).2.2.1,⟨fun c_2=> ((h.1 c_1).2.2.2.1 c_2),fun c_2=> ⟨((h.1 c_1).2.2.2.2 c_2).1,((h.1 c_1).2.2.2.2 c_2).2⟩⟩⟩⟩,fun c_1=> (h.2 c_1)⟩
abbrev ZlB(a:Arena)(s:Spot)(l:List Int):Prop:=AW (Z1 Z0x) Try.f44 Z8L [] (ZI (Z9d.can ((a,()),s,l,())) (Z9d.canX ((a,()),s,l,())) (Z9d.canL ((a,()),s,l,()))) (ZK cfg Try.f44.ntmps Try.f44.results.toList (ZiA ((a,()),s,l,())) (ZdY ((a,()),s,l,())) (Ze6 ((a,()),s,l,())))
theorem ZjY(c79:CT 79 Z5U)(hb:∀ (a:Arena) (s:Spot) (l:List Int) (_:Unit),Jb ((a,()),s,l,())->ZlB a s l):CT 44 YO:=
 Contract.passing <| Ze (l:=[(79,Z5U)]) Zf rfl (⟨c79,trivial⟩) Z8L Try.func44 rfl rfl 3 (fun _=> rfl) (by decide) (fun ⟨⟨a,_⟩,s,l,_⟩=> hb a s l ())
abbrev Zj5(p:Ptr)(Q:QT):=AW (Z1 Zfk) Try.f75 Zky [] (L2 [(0,.agg (enc .ptr p))] []) Q
abbrev Z0o:=awp cfg (Z1 Zfk) (ZA cfg (Z1 Zfk)) Try.f75.ntmps Zky
theorem Zje(p:Ptr)(Q:QT)(h:∀ y_1,y_1=(IntKind.wrap .u64 (((IntKind.wrap .u64 (Ptr.off p)):Int)*2 ^ (min (Int.toNat 3) (IntKind.bits .u64))))->∀ y_2,y_2=(IntKind.wrap .u64 (((IntKind.wrap .u64 (Ptr.segment p)):Int)*2 ^ (min (Int.toNat 32) (IntKind.bits .u64))))->∀ y_3,y_3=(.bool (bif (bif (decide (-536870912<=(Ptr.off p)/\(Ptr.off p) < 536870912)) then (decide (0<=(Ptr.data p)/\(Ptr.data p)<=65535)) else false) then (decide (0<=(Ptr.ptrs p)/\(Ptr.ptrs p)<=65535)) else false))->∀ y_4,y_4=(.bool (bif (bif (decide (-536870912<=(Ptr.off p)/\(Ptr.off p) < 536870912)) then (decide (0<=(Ptr.code p)/\(Ptr.code p)<=7)) else false) then (decide (0<=(Ptr.count p)/\(Ptr.count p)<=536870911)) else false))->∀ y_5,y_5=(IntKind.wrap .u64 (BitVec.ofInt (IntKind.bits .u64) y_1 ||| BitVec.ofInt (IntKind.bits .u64) 2).toNat)->∀ y_6,y_6=(IntKind.wrap .u64 (BitVec.ofInt (IntKind.bits .u64) y_5 ||| BitVec.ofInt (IntKind.bits .u64) y_2).toNat)->((((Ptr.kind p):Int)==1)=true->(Z6w ((Ptr.off p),()))/\((decide (-536870912<=(Ptr.off p)/\(Ptr.off p) < 536870912))=true->J2 ((Ptr.data p),65535,()))/\((bif (decide (-536870912<=(Ptr.off p)/\(Ptr.off p) < 536870912)) then (decide (0<=(Ptr.data p)/\(Ptr.data p)<=65535)) else false)=true->J2 ((Ptr.ptrs p),65535,()))/\(((bif (bif (decide (-536870912<=(Ptr.off p)/\(Ptr.off p) < 536870912)) then (decide (0<=(Ptr.data p)/\(Ptr.data p)<=65535)) else false) then (decide (0<=(Ptr.ptrs p)/\(Ptr.ptrs p)<=65535)) else false)=true->(Z1P ((Ptr.off p),0,()))/\((0:Int)<=32)/\((0:Int)<=48)/\(AW (Z1 Zfk) Try.f75 Zky [1,1,1] (YT p (IntKind.wrap .u64 (BitVec.ofInt (IntKind.bits .u64) (IntKind.wrap .u64 (BitVec.ofInt (IntKind.bits .u64) (4*((Ptr.off p) % 1073741824)+0) ||| BitVec.ofInt (IntKind.bits .u64) (IntKind.wrap .u64 (((IntKind.wrap .u64 (Ptr.data p)):Int)*2 ^ (min (Int.toNat 32) (IntKind.bits .u64))))).toNat) ||| BitVec.ofInt (IntKind.bits .u64) (IntKind.wrap .u64 (((IntKind.wrap .u64 (Ptr.ptrs p)):Int)*2 ^ (min (Int.toNat 48) (IntKind.bits .u64))))).toNat) (.c y_3) .junk .junk .junk .junk) Q))/\((bif (bif (decide (-536870912<=(Ptr.off p)/\(Ptr.off p) < 536870912)) then (decide (0<=(Ptr.data p)/\(Ptr.data p)<=65535)) else false) then (decide (0<=(Ptr.ptrs p)/\(Ptr.ptrs p)<=65535)) else false)=false->AW (Z1 Zfk) Try.f75 Zky [1,1,1] (YT p 0 (.c y_3) .junk .junk .junk .junk) Q)))/\((((Ptr.kind p):Int)==1)=false->((((Ptr.kind p):Int)==2)=true->(Z6w ((Ptr.off p),()))/\((decide (-536870912<=(Ptr.off p)/\(Ptr.off p) < 536870912))=true->J2 ((Ptr.code p),7,()))/\((bif (decide (-536870912<=(Ptr.off p)/\(Ptr.off p) < 536870912)) then (decide (0<=(Ptr.code p)/\(Ptr.code p)<=7)) else false)=true->J2 ((Ptr.count p),536870911,()))/\(((bif (bif (decide (-536870912<=(Ptr.off p)/\(Ptr.off p) < 536870912)) then (decide (0<=(Ptr.code p)/\(Ptr.code p)<=7)) else false) then (decide (0<=(Ptr.count p)/\(Ptr.count p)<=536870911)) else false)=true->(Z1P ((Ptr.off p),1,()))/\((0:Int)<=32)/\((0:Int)<=35)/\(AW (Z1 Zfk) Try.f75 Zky [1,1,1] (YT p (IntKind.wrap .u64 (BitVec.ofInt (IntKind.bits .u64) (IntKind.wrap .u64 (BitVec.ofInt (IntKind.bits .u64) (4*((Ptr.off p) % 1073741824)+1) ||| BitVec.ofInt (IntKind.bits .u64) (IntKind.wrap .u64 (((IntKind.wrap .u64 (Ptr.code p)):Int)*2 ^ (min (Int.toNat 32) (IntKind.bits .u64))))).toNat) ||| BitVec.ofInt (IntKind.bits .u64) (IntKind.wrap .u64 (((IntKind.wrap .u64 (Ptr.count p)):Int)*2 ^ (min (Int.toNat 35) (IntKind.bits .u64))))).toNat) .junk (.c y_4) .junk .junk .junk) Q))/\((bif (bif (decide (-536870912<=(Ptr.off p)/\(Ptr.off p) < 536870912)) then (decide (0<=(Ptr.code p)/\(Ptr.code p)<=7)) else false) then (decide (0<=(Ptr.count p)/\(Ptr.count p)<=536870911)) else false)=false->AW (Z1 Zfk) Try.f75 Zky [1,1,1] (YT p 0 .junk (.c y_4) .junk .junk .junk) Q)))/\((((Ptr.kind p):Int)==2)=false->((((Ptr.kind p):Int)==3)=true->(J2 ((Ptr.off p),536870911,()))/\((decide (0<=(Ptr.off p)/\(Ptr.off p)<=536870911))=true->J2 ((Ptr.segment p),4294967295,()))/\(((bif (decide (0<=(Ptr.off p)/\(Ptr.off p)<=536870911)) then (decide (0<=(Ptr.segment p)/\(Ptr.segment p)<=4294967295)) else false)=true->((0:Int)<=3)/\((0:Int)<=32)/\(((Ptr.double p)=true->AW (Z1 Zfk) Try.f75 Zky [1,1,1] (YT p (IntKind.wrap .u64 (BitVec.ofInt (IntKind.bits .u64) y_6 ||| BitVec.ofInt (IntKind.bits .u64) 4).toNat) .junk .junk (.c (.bool (Ptr.double p))) .junk .junk) Q)/\((Ptr.double p)=false->AW (Z1 Zfk) Try.f75 Zky [1,1,1] (YT p y_6 .junk .junk (.c (.bool (Ptr.double p))) .junk .junk) Q)))/\((bif (decide (0<=(Ptr.off p)/\(Ptr.off p)<=536870911)) then (decide (0<=(Ptr.segment p)/\(Ptr.segment p)<=4294967295)) else false)=false->AW (Z1 Zfk) Try.f75 Zky [1,1,1] (YT p 0 .junk .junk .junk (.c (.bool (bif (decide (0<=(Ptr.off p)/\(Ptr.off p)<=536870911)) then (decide (0<=(Ptr.segment p)/\(Ptr.segment p)<=4294967295)) else false))) (.c (.bool (((Ptr.kind p):Int)==3)))) Q)))/\((((Ptr.kind p):Int)==3)=false->AW (Z1 Zfk) Try.f75 Zky [1,1,1] (YT p 0 .junk .junk .junk .junk (.c (.bool (((Ptr.kind p):Int)==3)))) Q)))):
  Zj5 p Q:=by
 have e_:(Zj5 p Q)=(let y_1:=(IntKind.wrap .u64 (((IntKind.wrap .u64 (Ptr.off p)):Int)*2 ^ (min (Int.toNat 3) (IntKind.bits .u64))));let y_2:=(IntKind.wrap .u64 (((IntKind.wrap .u64 (Ptr.segment p)):Int)*2 ^ (min (Int.toNat 32) (IntKind.bits .u64))));let y_3:=(.bool (bif (bif (decide (-536870912<=(Ptr.off p)/\(Ptr.off p) < 536870912)) then (decide (0<=(Ptr.data p)/\(Ptr.data p)<=65535)) else false) then (decide (0<=(Ptr.ptrs p)/\(Ptr.ptrs p)<=65535)) else false));let y_4:=(.bool (bif (bif (decide (-536870912<=(Ptr.off p)/\(Ptr.off p) < 536870912)) then (decide (0<=(Ptr.code p)/\(Ptr.code p)<=7)) else false) then (decide (0<=(Ptr.count p)/\(Ptr.count p)<=536870911)) else false));let y_5:=(IntKind.wrap .u64 (BitVec.ofInt (IntKind.bits .u64) y_1 ||| BitVec.ofInt (IntKind.bits .u64) 2).toNat);let y_6:=(IntKind.wrap .u64 (BitVec.ofInt (IntKind.bits .u64) y_5 ||| BitVec.ofInt (IntKind.bits .u64) y_2).toNat);let zz6:=(decide (0<=(Ptr.count p)/\(Ptr.count p)<=536870911));let zz5:=(((Ptr.kind p):Int)==3);let zz4:=(decide (0<=(Ptr.segment p)/\(Ptr.segment p)<=4294967295));let zz3:=(decide (0<=(Ptr.code p)/\(Ptr.code p)<=7));let zz2:=(decide (0<=(Ptr.data p)/\(Ptr.data p)<=65535));let zz1:=(decide (0<=(Ptr.off p)/\(Ptr.off p)<=536870911));let zz0:=(decide (-536870912<=(Ptr.off p)/\(Ptr.off p) < 536870912));(((((Ptr.kind p):Int)==1)=true->(Z6w ((Ptr.off p),()))/\(Tr (zz0=true))/\(Tr (zz0=true))/\(zz0=true->J2 ((Ptr.data p),65535,()))/\(Tr (zz0=true))/\(Tr ((bif zz0 then zz2 else false)=true))/\(Tr ((bif zz0 then zz2 else false)=true))/\((bif zz0 then zz2 else false)=true->J2 ((Ptr.ptrs p),65535,()))/\(Tr ((bif zz0 then zz2 else false)=true))/\(((bif (bif zz0 then zz2 else false) then (decide (0<=(Ptr.ptrs p)/\(Ptr.ptrs p)<=65535)) else false)=true->(Z1P ((Ptr.off p),0,()))/\((0:Int)<=32)/\((0:Int)<=48)/\(Z0o (cd Try.f75 [1,1,1]) (YT p (IntKind.wrap .u64 (BitVec.ofInt (IntKind.bits .u64) (IntKind.wrap .u64 (BitVec.ofInt (IntKind.bits .u64) (4*((Ptr.off p) % 1073741824)+0) ||| BitVec.ofInt (IntKind.bits .u64) (IntKind.wrap .u64 (((IntKind.wrap .u64 (Ptr.data p)):Int)*2 ^ (min (Int.toNat 32) (IntKind.bits .u64))))).toNat) ||| BitVec.ofInt (IntKind.bits .u64) (IntKind.wrap .u64 (((IntKind.wrap .u64 (Ptr.ptrs p)):Int)*2 ^ (min (Int.toNat 48) (IntKind.bits .u64))))).toNat) (.c y_3) .junk .junk .junk .junk) Q))/\((bif (bif zz0 then zz2 else false) then (decide (0<=(Ptr.ptrs p)/\(Ptr.ptrs p)<=65535)) else false)=false->Z0o (cd Try.f75 [1,1,1]) (YT p 0 (.c y_3) .junk .junk .junk .junk) Q)))/\((((Ptr.kind p):Int)==1)=false->(((((Ptr.kind p):Int)==2)=true->(Z6w ((Ptr.off p),()))/\(Tr (zz0=true))/\(Tr (zz0=true))/\(zz0=true->J2 ((Ptr.code p),7,()))/\(Tr (zz0=true))/\(Tr ((bif zz0 then zz3 else false)=true))/\(Tr ((bif zz0 then zz3 else false)=true))/\((bif zz0 then zz3 else false)=true->J2 ((Ptr.count p),536870911,()))/\(Tr ((bif zz0 then zz3 else false)=true))/\(((bif (bif zz0 then zz3 else false) then zz6 else false)=true->(Z1P ((Ptr.off p),1,()))/\((0:Int)<=32)/\((0:Int)<=35)/\(Z0o (cd Try.f75 [1,1,1]) (YT p (IntKind.wrap .u64 (BitVec.ofInt (IntKind.bits .u64) (IntKind.wrap .u64 (BitVec.ofInt (IntKind.bits .u64) (4*((Ptr.off p) % 1073741824)+1) ||| BitVec.ofInt (IntKind.bits .u64) (IntKind.wrap .u64 (((IntKind.wrap .u64 (Ptr.code p)):Int)*2 ^ (min (Int.toNat 32) (IntKind.bits .u64))))).toNat) ||| BitVec.ofInt (IntKind.bits .u64) (IntKind.wrap .u64 (((IntKind.wrap .u64 (Ptr.count p)):Int)*2 ^ (min (Int.toNat 35) (IntKind.bits .u64))))).toNat) .junk (.c y_4) .junk .junk .junk) Q))/\((bif (bif zz0 then zz3 else false) then zz6 else false)=false->Z0o (cd Try.f75 [1,1,1]) (YT p 0 .junk (.c y_4) .junk .junk .junk) Q)))/\((((Ptr.kind p):Int)==2)=false->((zz5=true->(J2 ((Ptr.off p),536870911,()))/\(Tr (zz1=true))/\(Tr (zz1=true))/\(zz1=true->J2 ((Ptr.segment p),4294967295,()))/\(Tr (zz1=true))/\(((bif zz1 then zz4 else false)=true->((0:Int)<=3)/\((0:Int)<=32)/\(((Ptr.double p)=true->(Z0o (cd Try.f75 [1,1,1]) (YT p (IntKind.wrap .u64 (BitVec.ofInt (IntKind.bits .u64) y_6 ||| BitVec.ofInt (IntKind.bits .u64) 4).toNat) .junk .junk (.c (.bool (Ptr.double p))) .junk .junk) Q))/\((Ptr.double p)=false->Z0o (cd Try.f75 [1,1,1]) (YT p y_6 .junk .junk (.c (.bool (Ptr.double p))) .junk .junk) Q)))/\((bif zz1 then zz4 else false)=false->Z0o (cd Try.f75 [1,1,1]) (YT p 0 .junk .junk .junk (.c (.bool (bif zz1 then zz4 else false))) (.c (.bool zz5))) Q)))/\(zz5=false->Z0o (cd Try.f75 [1,1,1]) (YT p 0 .junk .junk .junk .junk (.c (.bool zz5))) Q))))))):=by kernel_rfl
 exact e_.mpr (by intro y_1 y_2 y_3 y_4 y_5 y_6;have hh:=h y_1 rfl y_2 rfl y_3 rfl y_4 rfl y_5 rfl y_6 rfl;exact ⟨fun c_3=> ⟨(hh.1 c_3).1,id,id,(hh.1 c_3).2.1,(by generalize (decide (-536870912<=(Ptr.off p)/\(Ptr.off p) < 536870912))=b0;revert b0;decide),id,id,(hh.1 c_3).2.2.1,(by generalize (decide (-536870912<=(Ptr.off p)/\(Ptr.off p) < 536870912))=b0;generalize (decide (0<=(Ptr.data p)/\(Ptr.data p)<=65535))=b1;revert b0 b1;decide),⟨fun c_4=> ⟨((hh.1 c_3).2.2.2.1 c_4).1,((hh.1 c_3).2.2.2.1 c_4).2.1,((hh.1 c_3).2.2.2.1 c_4).2.2.1,((hh.1 c_3).2.2.2.1 c_4).2.2.2⟩,fun c_4=> ((hh.1 c_3).2.2.2.2 c_4)⟩⟩,fun c_3=> ⟨fun c_5=> ⟨((hh.2 c_3).1 c_5).1,id,id,((hh.2 c_3).1 c_5).2.1,(by generalize (decide (-536870912<=(Ptr.off p)/\(Ptr.off p) < 536870912))=b0;revert b0;decide),id,id,((hh.2 c_3).1 c_5).2.2.1,(by generalize (decide (-536870912<=(Ptr.off p)/\(Ptr.off p) < 536870912))=b0;generalize (decide (0<=(Ptr.code p)/\(Ptr.code p)<=7))=b1;revert b0 b1;decide),⟨fun c_6=> ⟨(((hh.2 c_3).1 c_5).2.2.2.1 c_6).1,(((hh.2 c_3).1 c_5).2.2.2.1 c_6).2.1,(((hh.2 c_3).1 c_5).2.2.2.1 c_6).2.2.1,(((hh.2 c_3).1 c_5).2.2.2.1 c_6).2.2.2⟩,fun c_6=> (((hh.2 c_3).1 c_5).2.2.2.2 c_6)⟩⟩,fun c_5=> ⟨fun c_7=> ⟨(((hh.2 c_3).2 c_5).1 c_7).1,id,id,(((hh.2 c_3).2 c_5).1 c_7).2.1,(by generalize (decide (0<=(Ptr.off p)/\(Ptr.off p)<=536870911))=b0;revert b0;decide),⟨fun c_8=> ⟨((((hh.2 c_3).2 c_5).1 c_7).2.2.1 c_8).1,((((hh.2 c_3).2 c_5).1 c_7).2.2.1 c_8).2.1,⟨fun c_9=> (((((hh.2 c_3).2 c_5).1 c_7).2.2.1 c_8).2.2.1 c_9),fun c_9=> (((((hh.2 c_3).2 c_5).1 c_7).2.2.1 c_8).2.2.2 c_9)⟩⟩,fun c_8=> ((((hh.2 c_3).2 c_5).1 c_7).2.2.2 c_8)⟩⟩,fun c_7=> (((hh.2 c_3).2 c_5).2 c_7)⟩⟩⟩)
abbrev Zaw(p:Ptr)(x4:Int)(v21 v49 v84 v72 v63:V U)(Q:QT):=AW (Z1 Zfk) Try.f75 Zky [1,1,1] (YT p x4 v21 v49 v84 v72 v63) Q
theorem ZcJ(p:Ptr)(x4:Int)(v21 v49 v84 v72 v63:V U)(Q:QT)(h:(Z4e (x4,()))/\(Q .ret (L2 [(2,.c (.int .u64 x4)),(3,.c (.bool (bif ((((Ptr.kind (Zh x4)):Int)==(Ptr.kind p)) && ((((Ptr.off (Zh x4)):Int)==(Ptr.off p)) && ((((Ptr.data (Zh x4)):Int)==(Ptr.data p)) && ((((Ptr.ptrs (Zh x4)):Int)==(Ptr.ptrs p)) && ((((Ptr.code (Zh x4)):Int)==(Ptr.code p)) && ((((Ptr.count (Zh x4)):Int)==(Ptr.count p)) && ((((Ptr.segment (Zh x4)):Int)==(Ptr.segment p)) && (((Ptr.double (Zh x4))==(Ptr.double p)) && true)))))))) then (((Ptr.kind p):Int) !=4) else false)))] []))):
  Zaw p x4 v21 v49 v84 v72 v63 Q:=by
 have e_:(Zaw p x4 v21 v49 v84 v72 v63 Q)=(let zz7:=((Ptr.double (Zh x4))==(Ptr.double p));let zz6:=(((Ptr.off (Zh x4)):Int)==(Ptr.off p));let zz5:=(((Ptr.code (Zh x4)):Int)==(Ptr.code p));let zz4:=(((Ptr.ptrs (Zh x4)):Int)==(Ptr.ptrs p));let zz3:=(((Ptr.data (Zh x4)):Int)==(Ptr.data p));let zz2:=(((Ptr.kind (Zh x4)):Int)==(Ptr.kind p));let zz1:=(((Ptr.count (Zh x4)):Int)==(Ptr.count p));let zz0:=(((Ptr.segment (Zh x4)):Int)==(Ptr.segment p));(Z4e (x4,()))/\(Tr ((zz2 && (zz6 && (zz3 && (zz4 && (zz5 && (zz1 && (zz0 && (zz7 && true))))))))=true))/\(Tr ((zz2 && (zz6 && (zz3 && (zz4 && (zz5 && (zz1 && (zz0 && (zz7 && true))))))))=true))/\(Tr ((zz2 && (zz6 && (zz3 && (zz4 && (zz5 && (zz1 && (zz0 && (zz7 && true))))))))=true))/\(Q .ret (L2 [(2,.c (.int .u64 x4)),(3,.c (.bool (bif (zz2 && (zz6 && (zz3 && (zz4 && (zz5 && (zz1 && (zz0 && (zz7 && true)))))))) then (((Ptr.kind p):Int) !=4) else false)))] []))):=by kernel_rfl
 exact e_.mpr ⟨h.1,id,id,(by generalize (((Ptr.segment (Zh x4)):Int)==(Ptr.segment p))=b0;generalize (((Ptr.count (Zh x4)):Int)==(Ptr.count p))=b1;generalize (((Ptr.ptrs (Zh x4)):Int)==(Ptr.ptrs p))=b2;generalize (((Ptr.kind (Zh x4)):Int)==(Ptr.kind p))=b3;generalize (((Ptr.code (Zh x4)):Int)==(Ptr.code p))=b4;generalize (((Ptr.data (Zh x4)):Int)==(Ptr.data p))=b5;generalize (((Ptr.off (Zh x4)):Int)==(Ptr.off p))=b6;generalize ((Ptr.double (Zh x4))==(Ptr.double p))=b7;revert b0 b1 b2 b3 b4 b5 b6 b7;decide),h.2⟩
abbrev ZgE(p:Ptr):Prop:=AW (Z1 Zfk) Try.f75 Zky [] (Zs (Zg1.can (p,())) []) (EQ Try.f75 (Z8x (p,())) [])
theorem ZeQ(c98:CT 98 Z1t)(c99:CT 99 Z1s)(Zdm:CT 100 Z0e)(Zdl:CT 101 Z0d)(hb:∀ (p:Ptr) (_:Unit),Z5A (p,())->ZgE p):CT 75 Z1D:=
 Z3 (l:=[(98,Z1t),(99,Z1s),(100,Z0e),(101,Z0d)]) Zf rfl (⟨c98,c99,Zdm,Zdl,trivial⟩) Zky Try.func75 rfl rfl 1 (fun _=> rfl) (by decide) (fun ⟨p,_⟩=> hb p ())
def Zfh:List (FuncId × Fs U):=[(75,Z1D),(44,YO)]
def Zkv:Zc U:=fun i=> match i with
 | 0=> ([(0,[.ar]),(3,[]),(4,[]),(5,[]),(6,[])],[(.loc 4,[.ar]),(.loc 5,[]),(.loc 6,[])])
 | 1=> ([(0,[.ar]),(4,[]),(5,[]),(9,[]),(10,[])],[(.loc 4,[.ar]),(.loc 5,[])])
 | 2=> ([(0,[.ar]),(8,[])],[])
 | _=> ([],[])
abbrev W78(a:Arena)(fr to:Spot)(double:Bool)(Q:QT):=AW (Z1 Zfh) Try.f78 Zkv [] (⟨[(0,.agg [.mref (.A)]),(1,.agg (enc .spot fr)),(2,.agg (enc .spot to)),pB 3 double],[],[(.A,LC.mk (U:=U) .arena ([a]) 0)]⟩:LSt U) Q
theorem Zn0(a:Arena)(fr to:Spot)(double:Bool)(Q:QT)(h:(Z5A ((Ptr.mk 3 (Spot.at_ to) 0 0 0 0 (Spot.segment to) double),()))/\((true=true->Jb ((a,()),(Spot.mk (Spot.segment fr) (Spot.at_ fr)),([J8 (Ptr.double (Ptr.mk 3 (Spot.at_ to) 0 0 0 0 (Spot.segment to) double)) (Ptr.segment (Ptr.mk 3 (Spot.at_ to) 0 0 0 0 (Spot.segment to) double)) (Ptr.off (Ptr.mk 3 (Spot.at_ to) 0 0 0 0 (Spot.segment to) double))]),()))/\(Q .ret (⟨[(0,.agg [.mref (.A)]),pB 8 true],[],[(.A,LC.mk (U:=U) .arena ([bif true then (Zk ([J8 (Ptr.double (Ptr.mk 3 (Spot.at_ to) 0 0 0 0 (Spot.segment to) double)) (Ptr.segment (Ptr.mk 3 (Spot.at_ to) 0 0 0 0 (Spot.segment to) double)) (Ptr.off (Ptr.mk 3 (Spot.at_ to) 0 0 0 0 (Spot.segment to) double))]) a (Spot.segment (Spot.mk (Spot.segment fr) (Spot.at_ fr))) (Spot.at_ (Spot.mk (Spot.segment fr) (Spot.at_ fr)))) else a]) 0)]⟩:LSt U)))):
  W78 a fr to double Q:=by
 have e_:(W78 a fr to double Q)=((Z5A ((Ptr.mk 3 (Spot.at_ to) 0 0 0 0 (Spot.segment to) double),()))/\((true=true->true=true)/\(true=true->true=true)/\(true=true->true=true)/\(true=true->true=true)/\(true=true->Jb ((a,()),(Spot.mk (Spot.segment fr) (Spot.at_ fr)),([J8 (Ptr.double (Ptr.mk 3 (Spot.at_ to) 0 0 0 0 (Spot.segment to) double)) (Ptr.segment (Ptr.mk 3 (Spot.at_ to) 0 0 0 0 (Spot.segment to) double)) (Ptr.off (Ptr.mk 3 (Spot.at_ to) 0 0 0 0 (Spot.segment to) double))]),()))/\(true=true->true=true)/\(Q .ret (⟨[(0,.agg [.mref (.A)]),pB 8 true],[],[(.A,LC.mk (U:=U) .arena ([bif true then (Zk ([J8 (Ptr.double (Ptr.mk 3 (Spot.at_ to) 0 0 0 0 (Spot.segment to) double)) (Ptr.segment (Ptr.mk 3 (Spot.at_ to) 0 0 0 0 (Spot.segment to) double)) (Ptr.off (Ptr.mk 3 (Spot.at_ to) 0 0 0 0 (Spot.segment to) double))]) a (Spot.segment (Spot.mk (Spot.segment fr) (Spot.at_ fr))) (Spot.at_ (Spot.mk (Spot.segment fr) (Spot.at_ fr)))) else a]) 0)]⟩:LSt U)))):=by kernel_rfl
 exact e_.mpr ⟨h.1,⟨id,id,id,id,h.2.1,(by decide),h.2.2⟩⟩
abbrev Zlg(a:Arena)(fr to:Spot)(double:Bool):Prop:=AW (Z1 Zfh) Try.f78 Zkv [] (ZI (Z95.can ((a,()),fr,to,double,())) (Z95.canX ((a,()),fr,to,double,())) (Z95.canL ((a,()),fr,to,double,()))) (ZK cfg Try.f78.ntmps Try.f78.results.toList (Zip ((a,()),fr,to,double,())) (ZdS ((a,()),fr,to,double,())) (Ze3 ((a,()),fr,to,double,())))
theorem ZjF(ZfM:CT 75 Z1D)(c44:CT 44 YO)(hb:∀ (a:Arena) (fr:Spot) (to:Spot) (double:Bool) (_:Unit),Z4S ((a,()),fr,to,double,())->Zlg a fr to double):CT 78 Z5V:=
 Contract.passing <| Ze (l:=[(75,Z1D),(44,YO)]) Zf rfl (⟨ZfM,c44,trivial⟩) Zkv Try.func78 rfl rfl 4 (fun _=> rfl) (by decide) (fun ⟨⟨a,_⟩,fr,to,double,_⟩=> hb a fr to double ())
def Zfj:List (FuncId × Fs U):=[(75,Z0q),(44,YO)]
def Zkx:Zc U:=fun i=> match i with
 | 0=> ([(0,[.ar]),(4,[]),(5,[]),(6,[]),(7,[])],[(.loc 4,[.ar]),(.loc 5,[]),(.loc 6,[]),(.loc 7,[])])
 | 1=> ([(0,[.ar]),(4,[]),(5,[]),(7,[])],[(.loc 4,[.ar]),(.loc 5,[]),(.loc 7,[])])
 | 2=> ([(0,[.ar]),(4,[]),(5,[]),(7,[]),(28,[])],[(.loc 4,[.ar]),(.loc 5,[]),(.loc 7,[])])
 | 3=> ([(0,[.ar]),(4,[]),(5,[]),(7,[])],[(.loc 4,[.ar]),(.loc 5,[]),(.loc 7,[])])
 | 4=> ([(0,[.ar]),(4,[]),(5,[]),(9,[]),(10,[])],[(.loc 4,[.ar]),(.loc 5,[])])
 | 5=> ([(0,[.ar]),(8,[])],[])
 | _=> ([],[])
abbrev W76(a:Arena)(fr to:Spot)(p:Ptr)(Q:QT):=AW (Z1 Zfj) Try.f76 Zkx [] (⟨[(0,.agg [.mref (.A)]),(1,.agg (enc .spot fr)),(2,.agg (enc .spot to)),(3,.agg (enc .ptr p))],[],[(.A,LC.mk (U:=U) .arena ([a]) 0)]⟩:LSt U) Q
theorem Zn2(a:Arena)(fr to:Spot)(p:Ptr)(Q:QT)(h:∀ y_1,y_1=fr->∀ y_2,y_2=(Ptr.mk (Ptr.kind p) (-1) (Ptr.data p) (Ptr.ptrs p) (Ptr.code p) (Ptr.count p) (Ptr.segment p) (Ptr.double p))->∀ y_3,y_3=(Ptr.mk (Ptr.kind p) (((((Spot.at_ to):Int) - (Spot.at_ fr)):Int) - 1) (Ptr.data p) (Ptr.ptrs p) (Ptr.code p) (Ptr.count p) (Ptr.segment p) (Ptr.double p))->(InR (((Spot.at_ to):Int) - (Spot.at_ fr)))/\(InR (((((Spot.at_ to):Int) - (Spot.at_ fr)):Int) - 1))/\(((((Ptr.kind p):Int)==1)=true->InR (((Ptr.data p):Int)+(Ptr.ptrs p)))/\(((bif (((Ptr.kind p):Int)==1) then (((((Ptr.data p):Int)+(Ptr.ptrs p)):Int)==0) else false)=true->(Z0E (y_2,()))/\(((eqP (Zh (Zt y_2)) y_2 && !decide (Ptr.kind y_2=4))=true->Jb ((a,()),y_1,([Zt y_2]),()))/\(Q .ret (⟨[(0,.agg [.mref (.A)]),(8,.c (.bool (bif (eqP (Zh (Zt y_2)) y_2 && !decide (Ptr.kind y_2=4)) then true else false)))],[],[(.A,LC.mk (U:=U) .arena ([bif (eqP (Zh (Zt y_2)) y_2 && !decide (Ptr.kind y_2=4)) then (Zk ([Zt y_2]) a (Spot.segment y_1) (Spot.at_ y_1)) else a]) 0)]⟩:LSt U))))/\((bif (((Ptr.kind p):Int)==1) then (((((Ptr.data p):Int)+(Ptr.ptrs p)):Int)==0) else false)=false->(Z0E (y_3,()))/\(((eqP (Zh (Zt y_3)) y_3 && !decide (Ptr.kind y_3=4))=true->Jb ((a,()),y_1,([Zt y_3]),()))/\(Q .ret (⟨[(0,.agg [.mref (.A)]),(8,.c (.bool (bif (eqP (Zh (Zt y_3)) y_3 && !decide (Ptr.kind y_3=4)) then true else false)))],[],[(.A,LC.mk (U:=U) .arena ([bif (eqP (Zh (Zt y_3)) y_3 && !decide (Ptr.kind y_3=4)) then (Zk ([Zt y_3]) a (Spot.segment y_1) (Spot.at_ y_1)) else a]) 0)]⟩:LSt U))))))):
  W76 a fr to p Q:=by
 have e_:(W76 a fr to p Q)=(let y_1:=(Yt fr);let y_2:=(Ptr.mk (Ptr.kind p) (-1) (Ptr.data p) (Ptr.ptrs p) (Ptr.code p) (Ptr.count p) (Ptr.segment p) (Ptr.double p));let y_3:=(Ptr.mk (Ptr.kind p) (((((Spot.at_ to):Int) - (Spot.at_ fr)):Int) - 1) (Ptr.data p) (Ptr.ptrs p) (Ptr.code p) (Ptr.count p) (Ptr.segment p) (Ptr.double p));let zz0:=(((Ptr.kind p):Int)==1);((InR (((Spot.at_ to):Int) - (Spot.at_ fr)))/\(InR (((((Spot.at_ to):Int) - (Spot.at_ fr)):Int) - 1))/\((Tr (zz0=true))/\(Tr (zz0=true))/\(Tr (zz0=true))/\(Tr (zz0=true))/\(zz0=true->InR (((Ptr.data p):Int)+(Ptr.ptrs p)))/\(Tr (zz0=true))/\(Tr (zz0=true))/\(((bif zz0 then (((((Ptr.data p):Int)+(Ptr.ptrs p)):Int)==0) else false)=true->((Z0E (y_2,()))/\((Tr ((eqP (Zh (Zt y_2)) y_2 && !decide (Ptr.kind y_2=4))=true))/\(Tr ((eqP (Zh (Zt y_2)) y_2 && !decide (Ptr.kind y_2=4))=true))/\(Tr ((eqP (Zh (Zt y_2)) y_2 && !decide (Ptr.kind y_2=4))=true))/\(Tr ((eqP (Zh (Zt y_2)) y_2 && !decide (Ptr.kind y_2=4))=true))/\((eqP (Zh (Zt y_2)) y_2 && !decide (Ptr.kind y_2=4))=true->Jb ((a,()),y_1,([Zt y_2]),()))/\(Tr ((eqP (Zh (Zt y_2)) y_2 && !decide (Ptr.kind y_2=4))=true))/\(Q .ret (⟨[(0,.agg [.mref (.A)]),(8,.c (.bool (bif (eqP (Zh (Zt y_2)) y_2 && !decide (Ptr.kind y_2=4)) then true else false)))],[],[(.A,LC.mk (U:=U) .arena ([bif (eqP (Zh (Zt y_2)) y_2 && !decide (Ptr.kind y_2=4)) then (Zk ([Zt y_2]) a (Spot.segment y_1) (Spot.at_ y_1)) else a]) 0)]⟩:LSt U)))))/\((bif zz0 then (((((Ptr.data p):Int)+(Ptr.ptrs p)):Int)==0) else false)=false->(Z0E (y_3,()))/\((Tr ((eqP (Zh (Zt y_3)) y_3 && !decide (Ptr.kind y_3=4))=true))/\(Tr ((eqP (Zh (Zt y_3)) y_3 && !decide (Ptr.kind y_3=4))=true))/\(Tr ((eqP (Zh (Zt y_3)) y_3 && !decide (Ptr.kind y_3=4))=true))/\(Tr ((eqP (Zh (Zt y_3)) y_3 && !decide (Ptr.kind y_3=4))=true))/\((eqP (Zh (Zt y_3)) y_3 && !decide (Ptr.kind y_3=4))=true->Jb ((a,()),y_1,([Zt y_3]),()))/\(Tr ((eqP (Zh (Zt y_3)) y_3 && !decide (Ptr.kind y_3=4))=true))/\(Q .ret (⟨[(0,.agg [.mref (.A)]),(8,.c (.bool (bif (eqP (Zh (Zt y_3)) y_3 && !decide (Ptr.kind y_3=4)) then true else false)))],[],[(.A,LC.mk (U:=U) .arena ([bif (eqP (Zh (Zt y_3)) y_3 && !decide (Ptr.kind y_3=4)) then (Zk ([Zt y_3]) a (Spot.segment y_1) (Spot.at_ y_1)) else a]) 0)]⟩:LSt U)))))))):=by kernel_rfl
 exact e_.mpr (by intro y_1 y_2 y_3;have hh:=h y_1 (ZH _) y_2 rfl y_3 rfl;exact ⟨hh.1,hh.2.1,⟨id,id,id,id,hh.2.2.1,id,(by generalize (((Ptr.kind p):Int)==1)=b0;revert b0;decide),⟨fun c_10=> ⟨(hh.2.2.2.1 c_10).1,⟨id,id,id,id,(hh.2.2.2.1 c_10).2.1,(by generalize (eqP (Zh (Zt y_2)) y_2)=b0;generalize (decide (Ptr.kind y_2=4))=b1;revert b0 b1;decide),(hh.2.2.2.1 c_10).2.2⟩⟩,fun c_10=> ⟨(hh.2.2.2.2 c_10).1,⟨id,id,id,id,(hh.2.2.2.2 c_10).2.1,(by generalize (eqP (Zh (Zt y_3)) y_3)=b0;generalize (decide (Ptr.kind y_3=4))=b1;revert b0 b1;decide),(hh.2.2.2.2 c_10).2.2⟩⟩⟩⟩⟩)
abbrev Zli(a:Arena)(fr to:Spot)(p:Ptr):Prop:=AW (Z1 Zfj) Try.f76 Zkx [] (ZI (Z97.can ((a,()),fr,to,p,())) (Z97.canX ((a,()),fr,to,p,())) (Z97.canL ((a,()),fr,to,p,()))) (ZK cfg Try.f76.ntmps Try.f76.results.toList (Zeb ((a,()),fr,to,p,())) (ZaI ((a,()),fr,to,p,())) (ZaK ((a,()),fr,to,p,())))
theorem ZjH(c75:CT 75 Z0q)(c44:CT 44 YO)(hb:∀ (a:Arena) (fr:Spot) (to:Spot) (p:Ptr) (_:Unit),Z7E ((a,()),fr,to,p,())->Zli a fr to p):CT 76 Z5X:=
 Contract.passing <| Ze (l:=[(75,Z0q),(44,YO)]) Zf rfl (⟨c75,c44,trivial⟩) Zkx Try.func76 rfl rfl 4 (fun _=> rfl) (by decide) (fun ⟨⟨a,_⟩,fr,to,p,_⟩=> hb a fr to p ())
def Zft:List (FuncId × Fs U):=[(76,Z5X),(77,Z5W),(78,Z5V),(22,Jk),(75,Z0q),(46,Z2V),(44,YO)]
def ZkG:Zc U:=fun i=> match i with
 | 0=> ([(0,[.ar]),(4,[]),(5,[]),(6,[]),(7,[])],[(.loc 4,[.ar]),(.loc 5,[]),(.loc 6,[]),(.loc 7,[])])
 | 1=> ([(0,[.ar]),(4,[]),(5,[]),(6,[]),(7,[]),(33,[])],[(.loc 4,[.ar]),(.loc 5,[]),(.loc 6,[]),(.loc 7,[])])
 | 2=> ([(0,[.ar]),(8,[])],[])
 | 3=> ([(0,[.ar]),(4,[]),(5,[]),(6,[]),(7,[]),(9,[]),(10,[])],[(.loc 4,[.ar]),(.loc 5,[]),(.loc 6,[]),(.loc 7,[])])
 | 4=> ([(0,[.ar]),(4,[]),(5,[]),(6,[]),(7,[]),(9,[]),(47,[])],[(.loc 4,[.ar]),(.loc 5,[]),(.loc 6,[]),(.loc 7,[])])
 | 5=> ([(0,[.ar]),(4,[]),(5,[]),(6,[]),(7,[]),(11,[])],[(.loc 4,[.ar]),(.loc 5,[]),(.loc 6,[]),(.loc 7,[]),(.loc 11,[])])
 | 6=> ([(0,[.ar]),(8,[])],[])
 | 7=> ([(0,[.ar]),(4,[]),(5,[]),(6,[]),(7,[]),(12,[]),(13,[])],[(.loc 4,[.ar]),(.loc 5,[]),(.loc 6,[]),(.loc 7,[]),(.loc 12,[])])
 | 8=> ([(0,[.ar]),(4,[]),(5,[]),(6,[]),(7,[]),(12,[]),(13,[])],[(.loc 4,[.ar]),(.loc 5,[]),(.loc 6,[]),(.loc 7,[]),(.loc 12,[])])
 | 9=> ([(0,[.ar]),(4,[]),(5,[]),(6,[]),(12,[]),(13,[]),(14,[]),(15,[])],[(.loc 4,[.ar]),(.loc 5,[]),(.loc 6,[]),(.loc 12,[])])
 | 10=> ([(0,[.ar]),(8,[])],[])
 | _=> ([],[])
abbrev W43(a:Arena)(fr to:Spot)(p:Ptr)(Q:QT):=AW (Z1 Zft) Try.f43 ZkG [] (⟨[(0,.agg [.mref (.A)]),(1,.agg (enc .spot fr)),(2,.agg (enc .spot to)),(3,.agg (enc .ptr p))],[],[(.A,LC.mk (U:=U) .arena ([a]) 0)]⟩:LSt U) Q
theorem Znm(a:Arena)(fr to:Spot)(p:Ptr)(Q:QT)(h:∀ y_1,y_1=p->∀ y_2,y_2=fr->∀ y_3,y_3=to->∀ y_4,y_4=(Ptr.mk (Ptr.kind p) 0 (Ptr.data p) (Ptr.ptrs p) (Ptr.code p) (Ptr.count p) (Ptr.segment p) (Ptr.double p))->∀ y_5,y_5=(Spot.mk (Spot.segment to) (if Yj a (Spot.segment to) 1 then ((Za a.segs (Spot.segment to)).length:Int) else 0))->∀ y_6,y_6=(Spot.mk (if Z0 (inA a (Spot.segment to) 1) 2 then giveS (inA a (Spot.segment to) 1) 2 else 0) (if Z0 (inA a (Spot.segment to) 1) 2 then giveT (inA a (Spot.segment to) 1) 2 else 0))->∀ y_7,y_7=y_6->∀ y_8,y_8=(ZD (inA a (Spot.segment to) 1) (Spot.segment y_2) (Spot.at_ y_2) (J8 false (Spot.segment y_5) (Spot.at_ y_5)))->∀ y_9,y_9=(Spot.mk (Spot.segment y_7) (Spot.at_ y_7+1))->∀ y_10,y_10=(ZD (Z5 (inA a (Spot.segment to) 1) 2) (Spot.segment y_2) (Spot.at_ y_2) (J8 true (Spot.segment y_7) (Spot.at_ y_7)))->∀ y_11,y_11=(ZD (bif (bif (Z0 (inA a (Spot.segment to) 1) 2) then (eqP (Zh (Zt y_4)) y_4 && !decide (Ptr.kind y_4=4)) else false) then y_10 else (Z5 (inA a (Spot.segment to) 1) 2)) (Spot.segment y_7) (Spot.at_ y_7) (J8 false (Spot.segment y_3) (Spot.at_ y_3)))->(((!(((Spot.segment fr):Int)==(Spot.segment to))) && (((Ptr.kind p):Int)==1))=true->InR (((Ptr.data p):Int)+(Ptr.ptrs p)))/\(((bif (((Spot.segment fr):Int)==(Spot.segment to)) then true else (bif (((Ptr.kind p):Int)==1) then (((((Ptr.data p):Int)+(Ptr.ptrs p)):Int)==0) else false))=true->(Z7E ((a,()),y_2,y_3,y_1,()))/\(Q .ret (⟨[(0,.agg [.mref (.A)]),pB 8 true],[],[(.A,LC.mk (U:=U) .arena ([ZD a (Spot.segment y_2) (Spot.at_ y_2) (pwA (Spot.at_ y_2) (Spot.at_ y_3) (kdP y_1) (upP y_1))]) 0)]⟩:LSt U)))/\((bif (((Spot.segment fr):Int)==(Spot.segment to)) then true else (bif (((Ptr.kind p):Int)==1) then (((((Ptr.data p):Int)+(Ptr.ptrs p)):Int)==0) else false))=false->(Zc0 (a,(Spot.segment to),1,()))/\(((Yj a (Spot.segment to) 1)=true->(Z4S (((inA a (Spot.segment to) 1),()),y_2,y_5,false,()))/\(true=true->Z7E ((y_8,()),y_5,y_3,y_1,()))/\(Q .ret (⟨[(0,.agg [.mref (.A)]),pB 8 true],[],[(.A,LC.mk (U:=U) .arena ([bif true then (ZD y_8 (Spot.segment y_5) (Spot.at_ y_5) (pwA (Spot.at_ y_5) (Spot.at_ y_3) (kdP y_1) (upP y_1))) else y_8]) 0)]⟩:LSt U)))/\((Yj a (Spot.segment to) 1)=false->(Z1j (((inA a (Spot.segment to) 1),()),2,()))/\((Z0E (y_4,()))/\(((bif (Z0 (inA a (Spot.segment to) 1) 2) then (eqP (Zh (Zt y_4)) y_4 && !decide (Ptr.kind y_4=4)) else false)=true->Z4S (((Z5 (inA a (Spot.segment to) 1) 2),()),y_2,y_7,true,()))/\((bif (bif (Z0 (inA a (Spot.segment to) 1) 2) then (eqP (Zh (Zt y_4)) y_4 && !decide (Ptr.kind y_4=4)) else false) then true else false)=true->Z4S (((bif (bif (Z0 (inA a (Spot.segment to) 1) 2) then (eqP (Zh (Zt y_4)) y_4 && !decide (Ptr.kind y_4=4)) else false) then y_10 else (Z5 (inA a (Spot.segment to) 1) 2)),()),y_7,y_3,false,()))/\((bif (bif (bif (Z0 (inA a (Spot.segment to) 1) 2) then (eqP (Zh (Zt y_4)) y_4 && !decide (Ptr.kind y_4=4)) else false) then true else false) then true else false)=true->Z1i (y_7,1,()))/\((bif (bif (bif (Z0 (inA a (Spot.segment to) 1) 2) then (eqP (Zh (Zt y_4)) y_4 && !decide (Ptr.kind y_4=4)) else false) then true else false) then true else false)=true->Jb (((bif (bif (bif (Z0 (inA a (Spot.segment to) 1) 2) then (eqP (Zh (Zt y_4)) y_4 && !decide (Ptr.kind y_4=4)) else false) then true else false) then y_11 else (bif (bif (Z0 (inA a (Spot.segment to) 1) 2) then (eqP (Zh (Zt y_4)) y_4 && !decide (Ptr.kind y_4=4)) else false) then y_10 else (Z5 (inA a (Spot.segment to) 1) 2))),()),y_9,([Zt y_4]),()))/\(Q .ret (⟨[(0,.agg [.mref (.A)]),(8,.c (.bool (bif (bif (bif (bif (Z0 (inA a (Spot.segment to) 1) 2) then (eqP (Zh (Zt y_4)) y_4 && !decide (Ptr.kind y_4=4)) else false) then true else false) then true else false) then true else false)))],[],[(.A,LC.mk (U:=U) .arena ([bif (bif (bif (bif (Z0 (inA a (Spot.segment to) 1) 2) then (eqP (Zh (Zt y_4)) y_4 && !decide (Ptr.kind y_4=4)) else false) then true else false) then true else false) then (Zk ([Zt y_4]) (bif (bif (bif (Z0 (inA a (Spot.segment to) 1) 2) then (eqP (Zh (Zt y_4)) y_4 && !decide (Ptr.kind y_4=4)) else false) then true else false) then y_11 else (bif (bif (Z0 (inA a (Spot.segment to) 1) 2) then (eqP (Zh (Zt y_4)) y_4 && !decide (Ptr.kind y_4=4)) else false) then y_10 else (Z5 (inA a (Spot.segment to) 1) 2))) (Spot.segment y_9) (Spot.at_ y_9)) else (bif (bif (bif (Z0 (inA a (Spot.segment to) 1) 2) then (eqP (Zh (Zt y_4)) y_4 && !decide (Ptr.kind y_4=4)) else false) then true else false) then y_11 else (bif (bif (Z0 (inA a (Spot.segment to) 1) 2) then (eqP (Zh (Zt y_4)) y_4 && !decide (Ptr.kind y_4=4)) else false) then y_10 else (Z5 (inA a (Spot.segment to) 1) 2)))]) 0)]⟩:LSt U))))))))):
  W43 a fr to p Q:=by
 have e_:(W43 a fr to p Q)=(let y_1:=(Zel p);let y_2:=(Yt fr);let y_3:=(Yt to);let y_4:=(Ptr.mk (Ptr.kind p) 0 (Ptr.data p) (Ptr.ptrs p) (Ptr.code p) (Ptr.count p) (Ptr.segment p) (Ptr.double p));let y_5:=(Spot.mk (Spot.segment to) (if Yj a (Spot.segment to) 1 then ((Za a.segs (Spot.segment to)).length:Int) else 0));let y_6:=(Spot.mk (if Z0 (inA a (Spot.segment to) 1) 2 then giveS (inA a (Spot.segment to) 1) 2 else 0) (if Z0 (inA a (Spot.segment to) 1) 2 then giveT (inA a (Spot.segment to) 1) 2 else 0));let y_7:=(Yt y_6);let y_8:=(ZD (inA a (Spot.segment to) 1) (Spot.segment y_2) (Spot.at_ y_2) (J8 false (Spot.segment y_5) (Spot.at_ y_5)));let y_9:=(Yt (Spot.mk (Spot.segment y_7) (Spot.at_ y_7+1)));let y_10:=(ZD (Z5 (inA a (Spot.segment to) 1) 2) (Spot.segment y_2) (Spot.at_ y_2) (J8 true (Spot.segment y_7) (Spot.at_ y_7)));let y_11:=(ZD (bif (bif (Z0 (inA a (Spot.segment to) 1) 2) then (eqP (Zh (Zt y_4)) y_4 && !decide (Ptr.kind y_4=4)) else false) then y_10 else (Z5 (inA a (Spot.segment to) 1) 2)) (Spot.segment y_7) (Spot.at_ y_7) (J8 false (Spot.segment y_3) (Spot.at_ y_3)));let zz2:=(((Ptr.kind p):Int)==1);let zz1:=(((Spot.segment fr):Int)==(Spot.segment to));let zz0:=(bif (Z0 (inA a (Spot.segment to) 1) 2) then (eqP (Zh (Zt y_4)) y_4 && !decide (Ptr.kind y_4=4)) else false);((Tr ((!zz1)=true))/\(Tr ((!zz1)=true))/\(Tr ((!zz1)=true))/\(Tr (((!zz1) && zz2)=true))/\(Tr (((!zz1) && zz2)=true))/\(Tr (((!zz1) && zz2)=true))/\(Tr (((!zz1) && zz2)=true))/\(((!zz1) && zz2)=true->InR (((Ptr.data p):Int)+(Ptr.ptrs p)))/\(Tr (((!zz1) && zz2)=true))/\((!zz1)=true->(True->(!zz1)=true))/\((!zz1)=true->(zz2=true->((!zz1) && zz2)=true))/\(zz1=false->(!zz1)=true)/\(((bif zz1 then true else (bif zz2 then (((((Ptr.data p):Int)+(Ptr.ptrs p)):Int)==0) else false))=true->(Z7E ((a,()),y_2,y_3,y_1,()))/\(Q .ret (⟨[(0,.agg [.mref (.A)]),pB 8 true],[],[(.A,LC.mk (U:=U) .arena ([ZD a (Spot.segment y_2) (Spot.at_ y_2) (pwA (Spot.at_ y_2) (Spot.at_ y_3) (kdP y_1) (upP y_1))]) 0)]⟩:LSt U)))/\((bif zz1 then true else (bif zz2 then (((((Ptr.data p):Int)+(Ptr.ptrs p)):Int)==0) else false))=false->(Zc0 (a,(Spot.segment to),1,()))/\(((Yj a (Spot.segment to) 1)=true->((Z4S (((inA a (Spot.segment to) 1),()),y_2,y_5,false,()))/\(true=true->true=true)/\(true=true->true=true)/\(true=true->true=true)/\(true=true->true=true)/\(true=true->Z7E ((y_8,()),y_5,y_3,y_1,()))/\(true=true->true=true)/\(Q .ret (⟨[(0,.agg [.mref (.A)]),pB 8 true],[],[(.A,LC.mk (U:=U) .arena ([bif true then (ZD y_8 (Spot.segment y_5) (Spot.at_ y_5) (pwA (Spot.at_ y_5) (Spot.at_ y_3) (kdP y_1) (upP y_1))) else y_8]) 0)]⟩:LSt U))))/\((Yj a (Spot.segment to) 1)=false->(Z1j (((inA a (Spot.segment to) 1),()),2,()))/\((Z0E (y_4,()))/\((Tr ((Z0 (inA a (Spot.segment to) 1) 2)=true))/\(Tr (zz0=true))/\(Tr (zz0=true))/\(Tr (zz0=true))/\(zz0=true->Z4S (((Z5 (inA a (Spot.segment to) 1) 2),()),y_2,y_7,true,()))/\(Tr (zz0=true))/\(Tr ((bif zz0 then true else false)=true))/\(Tr ((bif zz0 then true else false)=true))/\(Tr ((bif zz0 then true else false)=true))/\((bif zz0 then true else false)=true->Z4S (((bif zz0 then y_10 else (Z5 (inA a (Spot.segment to) 1) 2)),()),y_7,y_3,false,()))/\(Tr ((bif zz0 then true else false)=true))/\(Tr ((bif (bif zz0 then true else false) then true else false)=true))/\((bif (bif zz0 then true else false) then true else false)=true->Z1i (y_7,1,()))/\(Tr ((bif (bif zz0 then true else false) then true else false)=true))/\(Tr ((bif (bif zz0 then true else false) then true else false)=true))/\(Tr ((bif (bif zz0 then true else false) then true else false)=true))/\(Tr ((bif (bif zz0 then true else false) then true else false)=true))/\((bif (bif zz0 then true else false) then true else false)=true->Jb (((bif (bif zz0 then true else false) then y_11 else (bif zz0 then y_10 else (Z5 (inA a (Spot.segment to) 1) 2))),()),y_9,([Zt y_4]),()))/\(Tr ((bif (bif zz0 then true else false) then true else false)=true))/\(Q .ret (⟨[(0,.agg [.mref (.A)]),pB 8 (bif (bif (bif zz0 then true else false) then true else false) then true else false)],[],[(.A,LC.mk (U:=U) .arena ([bif (bif (bif zz0 then true else false) then true else false) then (Zk ([Zt y_4]) (bif (bif zz0 then true else false) then y_11 else (bif zz0 then y_10 else (Z5 (inA a (Spot.segment to) 1) 2))) (Spot.segment y_9) (Spot.at_ y_9)) else (bif (bif zz0 then true else false) then y_11 else (bif zz0 then y_10 else (Z5 (inA a (Spot.segment to) 1) 2)))]) 0)]⟩:LSt U)))))))))):=by kernel_rfl
 exact e_.mpr (by intro y_1 y_2 y_3 y_4 y_5 y_6 y_7 y_8 y_9 y_10 y_11;have hh:=h y_1 (Zek _) y_2 (ZH _) y_3 (ZH _) y_4 rfl y_5 rfl y_6 rfl y_7 (ZH _) y_8 rfl y_9 (ZH _) y_10 rfl y_11 rfl;exact ⟨id,id,id,id,id,id,id,hh.1,id,(by generalize (((Spot.segment fr):Int)==(Spot.segment to))=b0;revert b0;decide),(by generalize (((Spot.segment fr):Int)==(Spot.segment to))=b0;generalize (((Ptr.kind p):Int)==1)=b1;revert b0 b1;decide),(by generalize (((Spot.segment fr):Int)==(Spot.segment to))=b0;revert b0;decide),⟨fun c_11=> ⟨(hh.2.1 c_11).1,(hh.2.1 c_11).2⟩,fun c_11=> ⟨(hh.2.2 c_11).1,⟨fun c_12=> ⟨((hh.2.2 c_11).2.1 c_12).1,id,id,id,id,((hh.2.2 c_11).2.1 c_12).2.1,(by decide),((hh.2.2 c_11).2.1 c_12).2.2⟩,fun c_12=> ⟨((hh.2.2 c_11).2.2 c_12).1,⟨((hh.2.2 c_11).2.2 c_12).2.1,⟨(by generalize (Z0 (inA a (Spot.segment to) 1) 2)=b0;revert b0;decide),id,id,id,((hh.2.2 c_11).2.2 c_12).2.2.1,(by generalize (eqP (Zh (Zt y_4)) y_4)=b0;generalize (decide (Ptr.kind y_4=4))=b1;generalize (Z0 (inA a (Spot.segment to) 1) 2)=b2;revert b0 b1 b2;decide),id,id,id,((hh.2.2 c_11).2.2 c_12).2.2.2.1,(by generalize (eqP (Zh (Zt y_4)) y_4)=b0;generalize (decide (Ptr.kind y_4=4))=b1;generalize (Z0 (inA a (Spot.segment to) 1) 2)=b2;revert b0 b1 b2;decide),id,((hh.2.2 c_11).2.2 c_12).2.2.2.2.1,id,id,id,id,((hh.2.2 c_11).2.2 c_12).2.2.2.2.2.1,(by generalize (eqP (Zh (Zt y_4)) y_4)=b0;generalize (decide (Ptr.kind y_4=4))=b1;generalize (Z0 (inA a (Spot.segment to) 1) 2)=b2;revert b0 b1 b2;decide),((hh.2.2 c_11).2.2 c_12).2.2.2.2.2.2⟩⟩⟩⟩⟩⟩⟩)
abbrev ZlC(a:Arena)(fr to:Spot)(p:Ptr):Prop:=AW (Z1 Zft) Try.f43 ZkG [] (ZI (Z97.can ((a,()),fr,to,p,())) (Z97.canX ((a,()),fr,to,p,())) (Z97.canL ((a,()),fr,to,p,()))) (ZK cfg Try.f43.ntmps Try.f43.results.toList (ZbQ ((a,()),fr,to,p,())) (ZaI ((a,()),fr,to,p,())) (Z8w ((a,()),fr,to,p,())))
theorem ZjZ(c76:CT 76 Z5X)(c77:CT 77 Z5W)(c78:CT 78 Z5V)(c22:CT 22 Jk)(c75:CT 75 Z0q)(c46:CT 46 Z2V)(c44:CT 44 YO)(hb:∀ (a:Arena) (fr:Spot) (to:Spot) (p:Ptr) (_:Unit),Z3s ((a,()),fr,to,p,())->ZlC a fr to p):CT 43 Z2W:=
 Contract.passing <| Ze (l:=[(76,Z5X),(77,Z5W),(78,Z5V),(22,Jk),(75,Z0q),(46,Z2V),(44,YO)]) Zf rfl (⟨c76,c77,c78,c22,c75,c46,c44,trivial⟩) ZkG Try.func43 rfl rfl 4 (fun _=> rfl) (by decide) (fun ⟨⟨a,_⟩,fr,to,p,_⟩=> hb a fr to p ())
end
end
noncomputable section
noncomputable section
def Z4R(a:Option Arena × Int × Unit):Prop:=(∃ y,a.1=some y/\OkAr y)
def Zin(a:Option Arena × Int × Unit):V U:= .c (ci (ZQ (arO a.1) a.2.1))
def Z1x:Fs U:=fs ZfS (fun a=> [Z4R a]) Zin
def ZbK(a:Arena × Int × Int × Unit):V U:= .c (ci (if Yj a.1 a.2.1 a.2.2.1 then ((Za a.1.segs a.2.1).length:Int) else -1))
def Z5S:Fs U:=(Ys Z98 (fun a=> [Zc0 a]) ZbK ZdU Z8u).passing [0]
def Z9H(a:Arena × Int × Unit):V U:= .tup [(false,[ci (if Z0 a.1 a.2.1 then giveS a.1 a.2.1 else -1)]),(false,[ci (if Z0 a.1 a.2.1 then giveT a.1 a.2.1 else -1)])]
def Z61:Fs U:=(Ys Z9g (fun a=> [Zc6 a]) Z9H Ze0 Z6s).passing [0]
def Zks:Zc U:=lvl [([0,1],[]),([0,1,15],[]),([4],[]),([4],[])]
abbrev W81(a:Option Arena)(s:Int)(Q:QT):=AW (Z1 Zff) Try.f81 Zks [] (L2 [(0,.c (.po (U:=U) .arena a)),pI 1 s] []) Q
theorem ZmX(a:Option Arena)(s:Int)(Q:QT)(h:((!(decide (s < 0)))=true->Option.isSome a=true)/\((!(decide (s < 0)))=true->Option.isSome a=true)/\(((bif (decide (s < 0)) then true else (decide ((((Arena.segs (Option.getD a (Arena.mk [] 0 0 0))).length:Int):Int)<=s)))=true->Q .ret (L2 [pI 4 (-1)] []))/\((bif (decide (s < 0)) then true else (decide ((((Arena.segs (Option.getD a (Arena.mk [] 0 0 0))).length:Int):Int)<=s)))=false->(Option.isSome a=true)/\(Option.isSome a=true)/\((0:Int)<=s/\s < ((Arena.segs (Option.getD a (Arena.mk [] 0 0 0))).length:Int))/\(Q .ret (L2 [(4,.c (ci ((List.getD (Arena.segs (Option.getD a (Arena.mk [] 0 0 0))) s.toNat ([]:List Int)).length:Int)))] []))))):
  W81 a s Q:=by
 have e_:(W81 a s Q)=(let zz1:=(decide ((((Arena.segs (Option.getD a (Arena.mk [] 0 0 0))).length:Int):Int)<=s));let zz0:=(decide ((s:Int) < 0));((Tr ((!zz0)=true))/\((!zz0)=true->Option.isSome a=true)/\(Tr ((!zz0)=true))/\((!zz0)=true->Option.isSome a=true)/\(Tr ((!zz0)=true))/\(Tr ((!zz0)=true))/\(Tr ((!zz0)=true))/\(Tr ((!zz0)=true))/\(zz0=false->(!zz0)=true)/\(((bif zz0 then true else zz1)=true->(Q .ret (L2 [pI 4 (-1)] [])))/\((bif zz0 then true else zz1)=false->(Option.isSome a=true)/\(Option.isSome a=true)/\((0:Int)<=s/\s < ((Arena.segs (Option.getD a (Arena.mk [] 0 0 0))).length:Int))/\(Q .ret (L2 [(4,.c (ci ((List.getD (Arena.segs (Option.getD a (Arena.mk [] 0 0 0))) s.toNat ([]:List Int)).length:Int)))] [])))))):=by kernel_rfl
 exact e_.mpr ⟨id,h.1,id,h.2.1,id,id,id,id,(by generalize (decide ((s:Int) < 0))=b0;revert b0;decide),⟨fun c_1=> (h.2.2.1 c_1),fun c_1=> ⟨(h.2.2.2 c_1).1,(h.2.2.2 c_1).2.1,(h.2.2.2 c_1).2.2.1,(h.2.2.2 c_1).2.2.2⟩⟩⟩
abbrev Zld(a:Option Arena)(s:Int):Prop:=AW (Z1 Zff) Try.f81 Zks [] (Zs (ZfS.can (a,s,())) []) (EQ Try.f81 (Zin (a,s,())) [])
theorem ZjC(hb:∀ (a:Option Arena) (s:Int) (_:Unit),Z4R (a,s,())->Zld a s):CT 81 Z1x:=
 Z3 (l:=[]) Zf rfl trivial Zks Try.func81 rfl rfl 2 (fun _=> rfl) (by decide) (fun ⟨a,s,_⟩=> hb a s ())
def Z8J:Zc U:=fun i=> match i with
 | 0=> ([(0,[.ar]),(1,[]),(2,[])],[])
 | 1=> ([(0,[.ar]),(1,[]),(2,[]),(7,[])],[])
 | 2=> ([(0,[.ar]),(1,[]),(2,[]),(7,[]),(8,[])],[])
 | 3=> ([(0,[.ar]),(1,[]),(2,[]),(7,[]),(8,[]),(19,[])],[])
 | 4=> ([(0,[.ar]),(1,[]),(2,[]),(7,[]),(8,[])],[])
 | 5=> ([(0,[.ar]),(1,[]),(2,[]),(7,[]),(8,[])],[])
 | 6=> ([(0,[.ar]),(7,[])],[])
 | 7=> ([(0,[.ar]),(6,[])],[])
 | _=> ([],[])
def Z0I(a:Arena)(s n x8:Int)(rA:Arena):LSt U:=(⟨[(0,.c (.mref (.A))),pI 1 s,pI 2 n,pI 7 ((List.getD (Arena.segs a) s.toNat []).length:Int),pI 8 x8],[],[(.A,LC.mk (U:=U) .arena ([rA]) 0)]⟩:LSt U)
abbrev W82(a:Arena)(s n:Int)(Q:QT):=AW (Z1 Zff) Try.f82 Z8J [] (⟨[(0,.c (.mref (.A))),pI 1 s,pI 2 n],[],[(.A,LC.mk (U:=U) .arena ([a]) 0)]⟩:LSt U) Q
abbrev Zi1:=awp cfg (Z1 Zff) (ZA cfg (Z1 Zff)) Try.f82.ntmps Z8J
abbrev Zhe:=Z6h cfg (Z1 Zff) (ZA cfg (Z1 Zff)) Try.f82.ntmps Z8J
theorem ZmW(a:Arena)(s n:Int)(Q:QT)(h:((0:Int)<=s/\s < ((Arena.segs a).length:Int))/\(Zo (AW (Z1 Zff) Try.f82 Z8J [1,1,0,1,0,0]) (Z0I a s n 0 a) (xB 0 (SW (Z1 Zff) Try.f82 Z8J [1,1,1] Q)))):
  W82 a s n Q:=by
 have e_:(W82 a s n Q)=(((0:Int)<=s/\s < ((Arena.segs a).length:Int))/\(Zo (Zi1 (cd Try.f82 [1,1,0,1,0,0])) (Z0I a s n 0 a) (xB 0 (Zhe (cd Try.f82 [1,1,1]) Q)))):=by kernel_rfl
 exact e_.mpr ⟨h.1,h.2⟩
abbrev Zgr(a:Arena)(s n x8:Int)(rA:Arena)(N0:NT)(Q:QT):=AW (Z1 Zff) Try.f82 Z8J [1,1,0,1,0,0] (Z0I a s n x8 rA) (xT N0 (xB 0 (SW (Z1 Zff) Try.f82 Z8J [1,1,1] Q)))
theorem ZgH(a:Arena)(s n x8:Int)(rA:Arena)(N0:NT)(Q:QT)(h:((decide (x8 < n))=true->((0:Int)<=s/\s < ((Arena.segs rA).length:Int))/\(((List.getD (Arena.segs rA) s.toNat []).length+([0]).length)*8<=140737488355328)/\((0:Int)<=s/\s < ((Arena.segs rA).length:Int))/\(s.toNat=s.toNat)/\((InR (x8+1))/\(N0 (Z0I a s n (x8+1) (Arena.mk (List.set (Arena.segs rA) s.toNat ((List.getD (Arena.segs rA) s.toNat [])++([0]))) (Arena.size rA) (Arena.most rA) (Arena.used rA))))))/\((decide (x8 < n))=false->(InR (((Arena.used rA):Int)+n))/\(Q .ret (⟨[(0,.c (.mref (.A))),pI 6 ((List.getD (Arena.segs a) s.toNat []).length:Int)],[],[(.A,LC.mk (U:=U) .arena ([Arena.mk (Arena.segs rA) (Arena.size rA) (Arena.most rA) (((Arena.used rA):Int)+n)]) 0)]⟩:LSt U)))):
  Zgr a s n x8 rA N0 Q:=by
 have e_:(Zgr a s n x8 rA N0 Q)=(((decide ((x8:Int) < n))=true->((0:Int)<=s/\s < ((Arena.segs rA).length:Int))/\(((List.getD (Arena.segs rA) s.toNat []).length+([0]).length)*8<=140737488355328)/\((0:Int)<=s/\s < ((Arena.segs rA).length:Int))/\(s.toNat=s.toNat)/\((InR ((x8:Int)+1))/\(N0 (Z0I a s n ((x8:Int)+1) (Arena.mk (List.set (Arena.segs rA) s.toNat ((List.getD (Arena.segs rA) s.toNat [])++([0]))) (Arena.size rA) (Arena.most rA) (Arena.used rA))))))/\((decide ((x8:Int) < n))=false->(InR (((Arena.used rA):Int)+n))/\(Q .ret (⟨[(0,.c (.mref (.A))),pI 6 ((List.getD (Arena.segs a) s.toNat []).length:Int)],[],[(.A,LC.mk (U:=U) .arena ([Arena.mk (Arena.segs rA) (Arena.size rA) (Arena.most rA) (((Arena.used rA):Int)+n)]) 0)]⟩:LSt U)))):=by kernel_rfl
 exact e_.mpr ⟨fun c_2=> ⟨(h.1 c_2).1,(h.1 c_2).2.1,(h.1 c_2).2.2.1,(h.1 c_2).2.2.2.1,⟨(h.1 c_2).2.2.2.2.1,(h.1 c_2).2.2.2.2.2⟩⟩,fun c_2=> ⟨(h.2 c_2).1,(h.2 c_2).2⟩⟩
abbrev Zlc(a:Arena)(s n:Int):Prop:=AW (Z1 Zff) Try.f82 Z8J [] (ZI (Z98.can (a,s,n,())) (Z98.canX (a,s,n,())) (Z98.canL (a,s,n,()))) (ZK cfg Try.f82.ntmps Try.f82.results.toList (Zir (a,s,n,())) (ZdU (a,s,n,())) (Ze4 (a,s,n,())))
theorem ZjB(hb:∀ (a:Arena) (s:Int) (n:Int) (_:Unit),Z4T (a,s,n,())->Zlc a s n):CT 82 Z1y:=
 Contract.passing <| Ze (l:=[]) Zf rfl trivial Z8J Try.func82 rfl rfl 3 (fun _=> rfl) (by decide) (fun ⟨a,s,n,_⟩=> hb a s n ())
def Zfc:List (FuncId × Fs U):=[(81,Z1x.lend),(82,Z1y)]
def Zkq:Zc U:=fun i=> match i with
 | 0=> ([(0,[.ar]),(1,[]),(2,[])],[])
 | 1=> ([(0,[.ar]),(1,[]),(2,[]),(39,[])],[])
 | 2=> ([(0,[.ar]),(6,[])],[])
 | 3=> ([(0,[.ar]),(6,[])],[])
 | _=> ([],[])
abbrev W84(a:Arena)(s n:Int)(Q:QT):=AW (Z1 Zfc) Try.f84 Zkq [] (⟨[(0,.c (.mref (.A))),pI 1 s,pI 2 n],[],[(.A,LC.mk (U:=U) .arena ([a]) 0)]⟩:LSt U) Q
theorem ZmU(a:Arena)(s n:Int)(Q:QT)(h:(Z4R ((some a),s,()))/\((!(bif (decide (((ZQ (arO (some a)) s):Int) < 0)) then true else (decide (n < 0))))=true->InR (((Arena.most a):Int) - (Arena.used a)))/\((!(bif (bif (decide (((ZQ (arO (some a)) s):Int) < 0)) then true else (decide (n < 0))) then true else (decide (((((Arena.most a):Int) - (Arena.used a)):Int) < n))))=true->Z4R ((some a),s,()))/\((!(bif (bif (decide (((ZQ (arO (some a)) s):Int) < 0)) then true else (decide (n < 0))) then true else (decide (((((Arena.most a):Int) - (Arena.used a)):Int) < n))))=true->InR (((Arena.size a):Int) - (ZQ (arO (some a)) s)))/\(((bif (bif (bif (decide (((ZQ (arO (some a)) s):Int) < 0)) then true else (decide (n < 0))) then true else (decide (((((Arena.most a):Int) - (Arena.used a)):Int) < n))) then true else (decide (((((Arena.size a):Int) - (ZQ (arO (some a)) s)):Int) < n)))=true->Q .ret (⟨[(0,.c (.mref (.A))),pI 6 (-1)],[],[(.A,LC.mk (U:=U) .arena ([a]) 0)]⟩:LSt U))/\((bif (bif (bif (decide (((ZQ (arO (some a)) s):Int) < 0)) then true else (decide (n < 0))) then true else (decide (((((Arena.most a):Int) - (Arena.used a)):Int) < n))) then true else (decide (((((Arena.size a):Int) - (ZQ (arO (some a)) s)):Int) < n)))=false->(Z4T (a,s,n,()))/\(Q .ret (⟨[(0,.c (.mref (.A))),pI 6 ((Za a.segs s).length:Int)],[],[(.A,LC.mk (U:=U) .arena ([Yp a s n]) 0)]⟩:LSt U))))):
  W84 a s n Q:=by
 have e_:(W84 a s n Q)=(let zz3:=(decide (((((Arena.size a):Int) - (ZQ (arO (some a)) s)):Int) < n));let zz2:=(decide (((ZQ (arO (some a)) s):Int) < 0));let zz1:=(bif zz2 then true else (decide ((n:Int) < 0)));let zz0:=(bif zz1 then true else (decide (((((Arena.most a):Int) - (Arena.used a)):Int) < n)));((Z4R ((some a),s,()))/\(Tr ((!zz2)=true))/\(zz2=false->(!zz2)=true)/\(Tr ((!zz1)=true))/\(Tr ((!zz1)=true))/\(Tr ((!zz1)=true))/\(Tr ((!zz1)=true))/\(Tr ((!zz1)=true))/\(Tr ((!zz1)=true))/\(Tr ((!zz1)=true))/\(Tr ((!zz1)=true))/\((!zz1)=true->InR (((Arena.most a):Int) - (Arena.used a)))/\(Tr ((!zz1)=true))/\(Tr ((!zz1)=true))/\(zz1=false->(!zz1)=true)/\(Tr ((!zz0)=true))/\(Tr ((!zz0)=true))/\(Tr ((!zz0)=true))/\(Tr ((!zz0)=true))/\(Tr ((!zz0)=true))/\((!zz0)=true->Z4R ((some a),s,()))/\(Tr ((!zz0)=true))/\(Tr ((!zz0)=true))/\((!zz0)=true->InR (((Arena.size a):Int) - (ZQ (arO (some a)) s)))/\(Tr ((!zz0)=true))/\(Tr ((!zz0)=true))/\(zz0=false->(!zz0)=true)/\(((bif zz0 then true else zz3)=true->(Q .ret (⟨[(0,.c (.mref (.A))),pI 6 (-1)],[],[(.A,LC.mk (U:=U) .arena ([a]) 0)]⟩:LSt U)))/\((bif zz0 then true else zz3)=false->(Z4T (a,s,n,()))/\(Q .ret (⟨[(0,.c (.mref (.A))),pI 6 ((Za a.segs s).length:Int)],[],[(.A,LC.mk (U:=U) .arena ([Yp a s n]) 0)]⟩:LSt U)))))):=by kernel_rfl
 exact e_.mpr ⟨h.1,id,(by generalize (decide (((ZQ (arO (some a)) s):Int) < 0))=b0;revert b0;decide),id,id,id,id,id,id,id,id,h.2.1,id,id,(by generalize (decide (((ZQ (arO (some a)) s):Int) < 0))=b0;generalize (decide ((n:Int) < 0))=b1;revert b0 b1;decide),id,id,id,id,id,h.2.2.1,id,id,h.2.2.2.1,id,id,(by generalize (decide (((((Arena.most a):Int) - (Arena.used a)):Int) < n))=b0;generalize (decide (((ZQ (arO (some a)) s):Int) < 0))=b1;generalize (decide ((n:Int) < 0))=b2;revert b0 b1 b2;decide),⟨fun c_3=> (h.2.2.2.2.1 c_3),fun c_3=> ⟨(h.2.2.2.2.2 c_3).1,(h.2.2.2.2.2 c_3).2⟩⟩⟩
abbrev Zla(a:Arena)(s n:Int):Prop:=AW (Z1 Zfc) Try.f84 Zkq [] (ZI (Z98.can (a,s,n,())) (Z98.canX (a,s,n,())) (Z98.canL (a,s,n,()))) (ZK cfg Try.f84.ntmps Try.f84.results.toList (ZbK (a,s,n,())) (ZdU (a,s,n,())) (Z8u (a,s,n,())))
theorem Zjz(c81:CT 81 Z1x)(c82:CT 82 Z1y)(hb:∀ (a:Arena) (s:Int) (n:Int) (_:Unit),Zc0 (a,s,n,())->Zla a s n):CT 84 Z5S:=
 Contract.passing <| Ze (l:=[(81,Z1x.lend),(82,Z1y)]) Zf rfl (⟨c81.lend,c82,trivial⟩) Zkq Try.func84 rfl rfl 3 (fun _=> rfl) (by decide) (fun ⟨a,s,n,_⟩=> hb a s n ())
def ZkE:Zc U:=fun i=> match i with
 | 0=> ([(0,[.ar]),(1,[])],[])
 | 1=> ([(0,[.ar]),(1,[]),(21,[])],[])
 | 2=> ([(0,[.ar]),(4,[]),(5,[])],[])
 | 3=> ([(0,[.ar]),(1,[]),(6,[])],[])
 | 4=> ([(0,[.ar]),(1,[]),(6,[]),(45,[])],[])
 | 5=> ([(0,[.ar]),(1,[]),(6,[])],[])
 | 6=> ([(0,[.ar]),(1,[]),(6,[])],[])
 | 7=> ([(0,[.ar]),(4,[]),(5,[])],[])
 | _=> ([],[])
abbrev W48(a:Arena)(n:Int)(Q:QT):=AW (Z1 Zfc) Try.f48 ZkE [] (⟨[(0,.c (.mref (.A))),pI 1 n],[],[(.A,LC.mk (U:=U) .arena ([a]) 0)]⟩:LSt U) Q
theorem Znh(a:Arena)(n:Int)(Q:QT)(h:∀ y_1,y_1=(InR ((((((Arena.segs a).length:Int):Int)+1):Int) - 1))->∀ y_2,y_2=(ZQ (arO (some a)) ((((Arena.segs a).length:Int):Int) - 1))->∀ y_3,y_3=(Arena.mk ((Arena.segs a)++List.replicate 1 []) (Arena.size a) (Arena.most a) (Arena.used a))->((!(decide (n < 0)))=true->InR (((Arena.most a):Int) - (Arena.used a)))/\(((bif (decide (n < 0)) then true else (decide (((((Arena.most a):Int) - (Arena.used a)):Int) < n)))=true->Q .ret (⟨[(0,.c (.mref (.A))),pI 4 (-1),pI 5 (-1)],[],[(.A,LC.mk (U:=U) .arena ([a]) 0)]⟩:LSt U))/\((bif (decide (n < 0)) then true else (decide (((((Arena.most a):Int) - (Arena.used a)):Int) < n)))=false->((!((((Arena.segs a).length:Int):Int)==0))=true->InR ((((Arena.segs a).length:Int):Int) - 1))/\((!((((Arena.segs a).length:Int):Int)==0))=true->Z4R ((some a),((((Arena.segs a).length:Int):Int) - 1),()))/\((!((((Arena.segs a).length:Int):Int)==0))=true->InR (((Arena.size a):Int) - y_2))/\(((bif ((((Arena.segs a).length:Int):Int)==0) then true else (bif (decide (((((Arena.size a):Int) - y_2):Int) < n)) then (decide ((((Arena.segs a).length:Int):Int) < 16)) else false))=true->(((Arena.segs a).length+1)*24<=140737488355328)/\((InR ((((Arena.segs a).length:Int):Int)+1))/\(y_1/\y_1/\(Z4T (y_3,((((((Arena.segs a).length:Int):Int)+1):Int) - 1),n,()))/\(Q .ret (⟨[(0,.c (.mref (.A))),(4,.c (ci ((((((Arena.segs a).length:Int):Int)+1):Int) - 1))),(5,.c (ci ((Za y_3.segs ((((((Arena.segs a).length:Int):Int)+1):Int) - 1)).length:Int)))],[],[(.A,LC.mk (U:=U) .arena ([Yp y_3 ((((((Arena.segs a).length:Int):Int)+1):Int) - 1) n]) 0)]⟩:LSt U)))))/\((bif ((((Arena.segs a).length:Int):Int)==0) then true else (bif (decide (((((Arena.size a):Int) - y_2):Int) < n)) then (decide ((((Arena.segs a).length:Int):Int) < 16)) else false))=false->(InR ((((Arena.segs a).length:Int):Int) - 1))/\(InR ((((Arena.segs a).length:Int):Int) - 1))/\(Z4T (a,((((Arena.segs a).length:Int):Int) - 1),n,()))/\(Q .ret (⟨[(0,.c (.mref (.A))),(4,.c (ci ((((Arena.segs a).length:Int):Int) - 1))),(5,.c (ci ((Za a.segs ((((Arena.segs a).length:Int):Int) - 1)).length:Int)))],[],[(.A,LC.mk (U:=U) .arena ([Yp a ((((Arena.segs a).length:Int):Int) - 1) n]) 0)]⟩:LSt U))))))):
  W48 a n Q:=by
 have e_:(W48 a n Q)=(let y_1:=(InR (((((Arena.segs a).length:Int)+1):Int) - 1));let y_2:=(ZQ (arO (some a)) (((Arena.segs a).length:Int) - 1));let y_3:=(Arena.mk ((Arena.segs a)++List.replicate 1 []) (Arena.size a) (Arena.most a) (Arena.used a));let zz3:=(decide (((((Arena.most a):Int) - (Arena.used a)):Int) < n));let zz2:=(decide (((((Arena.size a):Int) - y_2):Int) < n));let zz1:=(decide ((n:Int) < 0));let zz0:=(((Arena.segs a).length:Int)==0);((Tr ((!zz1)=true))/\(Tr ((!zz1)=true))/\(Tr ((!zz1)=true))/\(Tr ((!zz1)=true))/\(Tr ((!zz1)=true))/\(Tr ((!zz1)=true))/\(Tr ((!zz1)=true))/\(Tr ((!zz1)=true))/\((!zz1)=true->InR (((Arena.most a):Int) - (Arena.used a)))/\(Tr ((!zz1)=true))/\(Tr ((!zz1)=true))/\(zz1=false->(!zz1)=true)/\(((bif zz1 then true else zz3)=true->(Q .ret (⟨[(0,.c (.mref (.A))),pI 4 (-1),pI 5 (-1)],[],[(.A,LC.mk (U:=U) .arena ([a]) 0)]⟩:LSt U)))/\((bif zz1 then true else zz3)=false->((Tr ((!zz0)=true))/\(Tr ((!zz0)=true))/\(Tr ((!zz0)=true))/\(Tr ((!zz0)=true))/\((!zz0)=true->InR (((Arena.segs a).length:Int) - 1))/\(Tr ((!zz0)=true))/\(Tr ((!zz0)=true))/\((!zz0)=true->Z4R ((some a),(((Arena.segs a).length:Int) - 1),()))/\(Tr ((!zz0)=true))/\(Tr ((!zz0)=true))/\((!zz0)=true->InR (((Arena.size a):Int) - y_2))/\(Tr ((!zz0)=true))/\(Tr ((!zz0)=true))/\(Tr ((!zz0)=true))/\(Tr (((!zz0) && zz2)=true))/\((!zz0)=true->(True->(!zz0)=true))/\((!zz0)=true->(zz2=true->((!zz0) && zz2)=true))/\(zz0=false->(!zz0)=true)/\(((bif zz0 then true else (bif zz2 then (decide (((Arena.segs a).length:Int) < 16)) else false))=true->(((Arena.segs a).length+1)*24<=140737488355328)/\((InR (((Arena.segs a).length:Int)+1))/\(y_1/\y_1/\(Z4T (y_3,(((((Arena.segs a).length:Int)+1):Int) - 1),n,()))/\(Q .ret (⟨[(0,.c (.mref (.A))),(4,.c (ci (((((Arena.segs a).length:Int)+1):Int) - 1))),(5,.c (ci ((Za y_3.segs (((((Arena.segs a).length:Int)+1):Int) - 1)).length:Int)))],[],[(.A,LC.mk (U:=U) .arena ([Yp y_3 (((((Arena.segs a).length:Int)+1):Int) - 1) n]) 0)]⟩:LSt U)))))/\((bif zz0 then true else (bif zz2 then (decide (((Arena.segs a).length:Int) < 16)) else false))=false->(InR (((Arena.segs a).length:Int) - 1))/\(InR (((Arena.segs a).length:Int) - 1))/\(Z4T (a,(((Arena.segs a).length:Int) - 1),n,()))/\(Q .ret (⟨[(0,.c (.mref (.A))),pI 4 (((Arena.segs a).length:Int) - 1),(5,.c (ci ((Za a.segs (((Arena.segs a).length:Int) - 1)).length:Int)))],[],[(.A,LC.mk (U:=U) .arena ([Yp a (((Arena.segs a).length:Int) - 1) n]) 0)]⟩:LSt U))))))))):=by kernel_rfl
 exact e_.mpr (by intro y_1 y_2 y_3;have hh:=h y_1 rfl y_2 rfl y_3 rfl;exact ⟨id,id,id,id,id,id,id,id,hh.1,id,id,(by generalize (decide ((n:Int) < 0))=b0;revert b0;decide),⟨fun c_4=> (hh.2.1 c_4),fun c_4=> ⟨id,id,id,id,(hh.2.2 c_4).1,id,id,(hh.2.2 c_4).2.1,id,id,(hh.2.2 c_4).2.2.1,id,id,id,id,(by generalize ((((Arena.segs a).length:Int):Int)==0)=b0;revert b0;decide),(by generalize (decide (((((Arena.size a):Int) - y_2):Int) < n))=b0;generalize ((((Arena.segs a).length:Int):Int)==0)=b1;revert b0 b1;decide),(by generalize ((((Arena.segs a).length:Int):Int)==0)=b0;revert b0;decide),⟨fun c_5=> ⟨((hh.2.2 c_4).2.2.2.1 c_5).1,⟨((hh.2.2 c_4).2.2.2.1 c_5).2.1,⟨((hh.2.2 c_4).2.2.2.1 c_5).2.2.1,((hh.2.2 c_4).2.2.2.1 c_5).2.2.2.1,((hh.2.2 c_4).2.2.2.1 c_5).2.2.2.2.1,((hh.2.2 c_4).2.2.2.1 c_5).2.2.2.2.2⟩⟩⟩,fun c_5=> ⟨((hh.2.2 c_4).2.2.2.2 c_5).1,((hh.2.2 c_4).2.2.2.2 c_5).2.1,((hh.2.2 c_4).2.2.2.2 c_5).2.2.1,((hh.2.2 c_4).2.2.2.2 c_5).2.2.2⟩⟩⟩⟩⟩)
abbrev Zlx(a:Arena)(n:Int):Prop:=AW (Z1 Zfc) Try.f48 ZkE [] (ZI (Z9g.can (a,n,())) (Z9g.canX (a,n,())) (Z9g.canL (a,n,()))) (ZK cfg Try.f48.ntmps Try.f48.results.toList (Z9H (a,n,())) (Ze0 (a,n,())) (Z6s (a,n,())))
theorem ZjV(c81:CT 81 Z1x)(c82:CT 82 Z1y)(hb:∀ (a:Arena) (n:Int) (_:Unit),Zc6 (a,n,())->Zlx a n):CT 48 Z61:=
 Contract.passing <| Ze (l:=[(81,Z1x.lend),(82,Z1y)]) Zf rfl (⟨c81.lend,c82,trivial⟩) ZkE Try.func48 rfl rfl 2 (fun _=> rfl) (by decide) (fun ⟨a,n,_⟩=> hb a n ())
end
end
theorem Yz:∀ (l:List Int) {a:Arena} (s i:Int),OkAr a->okW l->OkAr (Zk l a s i)
 | [],_,_,_,h,_=> h
 | w ::r,a,s,i,h,hw=> Yz r s (i+1) (h.put s i (hw w (Qz ..))) fun x hx=> hw x (Qk _ hx)
theorem Jr:∀ (l:List Int) (a:Arena) (s i:Int),Gr a (Zk l a s i)
 | [],a,_,_=> .refl a
 | w ::r,a,s,i=> (Yd a s i w).trans (Jr r _ s (i+1))
theorem Z4c{a to k up:Int}(hk:0<=k/\k < 4)(hu:0<=up/\up < 4294967296):0<=Z0b a to k up/\Z0b a to k up < 18446744073709551616:=by
 have h0:=XE (to - a - 1) (show (1073741824:Int)≠0 by decide)
 have h1:=Xo (to - a - 1) (show (0:Int) < 1073741824 by decide)
 unfold Z0b
 omega
theorem Z6v{a to k up:Int}(hk:0<=k/\k < 4)(hu:0<=up/\up < 4294967296):0<=pwA a to k up/\pwA a to k up < 18446744073709551616:=by
 unfold pwA
 split
 .decide
 .exact Z4c hk hu
theorem Yq{d:Bool}{s i:Int}(hs:0<=s/\s < 4294967296)(hi:0<=i/\i < 536870912):0<=J8 d s i/\J8 d s i < 18446744073709551616:=by
 unfold J8
 split <;> omega
theorem OkAr.endA{a:Arena}(h:OkAr a)(s:Int):0<=endA a s/\endA a s<=131072:=by
 have:=h.len s
 have:=h.used
 unfold Ytcljdbpmjdgooaa.endA
 omega
theorem OkAr.giveT{a:Arena}(h:OkAr a)(n:Int):0<=giveT a n/\giveT a n<=131072:=(h.opens n).endA _
theorem OkAr.giveS{a:Arena}(h:OkAr a)(n:Int):0<=giveS a n/\giveS a n < 16:=by
 have:=Z2d a n
 have:=(h.opens n).few
 omega
theorem ZaV{a:Arena}(h:OkAr a)(s i:Int){s' i' k up:Int}(hs:0<=s'/\s' < a.segs.length)(hi:0<=i'/\i'<=131072)(hk:0<=k/\k < 4)(hu:0<=up/\up < 4294967296):OkAr (Zu a s i s' i' k up).1/\Gr a (Zu a s i s' i' k up).1:=by
 have hf:=h.few
 unfold Zu
 split
 .exact ⟨h.put _ _ (Z6v hk hu),Yd _ _ _ _⟩
 .split
  .have he:=h.endA s'
   exact ⟨((h.inn s' 1).put _ _ (Yq ⟨by omega,by omega⟩ ⟨by omega,by omega⟩)).put _ _ (Z6v hk hu),((Zco a s' 1).trans (Yd _ _ _ _)).trans (Yd _ _ _ _)⟩
  .split
   .have e1:=h.giveS 2
    have e2:=h.giveT 2
    exact ⟨(((h.give 2).put _ _ (Yq ⟨by omega,by omega⟩ ⟨by omega,by omega⟩)).put _ _ (Yq ⟨by omega,by omega⟩ ⟨by omega,by omega⟩)).put _ _ ⟨by omega,by omega⟩,(((JK a 2).trans (Yd _ _ _ _)).trans (Yd _ _ _ _)).trans (Yd _ _ _ _)⟩
   .exact ⟨h,.refl a⟩
theorem Z4q{a:Arena}{n:Int}(h:Z0 a n=true):0<=giveS a n/\giveS a n < ((Z5 a n).segs.length:Int):=by
 have hs:=Z2d a n
 unfold Z5
 rw [if_pos h]
 show _/\_ < (((Yl a n).segs.set _ _).length:Int)
 rw [QI]
 exact hs
theorem Y0{a:Arena}(h:OkAr a)(s i n:Int){k up:Int}(hk:0<=k/\k < 4)(hu:Z0 a n=true->0<=up/\up < 4294967296):OkAr (ZW a s i n k up).1/\Gr a (ZW a s i n k up).1:=by
 unfold ZW
 split
 .rename_i hg
  have e1:=Z4q hg
  have e2:=h.giveT n
  obtain ⟨h1,h2⟩:=ZaV (h.give n) s i e1 e2 hk (hu hg)
  exact ⟨h1,(JK a n).trans h2⟩
 .exact ⟨h,.refl a⟩
theorem Z4D{a:Arena}{b:Arena × Bool}{f:Arena->Arena × Bool}(hb:OkAr b.1/\Gr a b.1)(hf:b.2=true->OkAr (f b.1).1/\Gr b.1 (f b.1).1):OkAr (YG b f).1/\Gr a (YG b f).1:=by
 unfold YG
 cases h:b.2 with
 | false=> exact hb
 | true=> exact ⟨(hf h).1,hb.2.trans (hf h).2⟩
theorem Zdo{a:Arena}{s i n k up:Int}(h:(ZW a s i n k up).2=true):Z0 a n=true/\Gr (Z5 a n) (ZW a s i n k up).1:=by
 unfold ZW at h ⊢
 split
 .rename_i hg
  refine ⟨hg,?_⟩
  unfold Zu
  split
  .exact Yd _ _ _ _
  .split
   .exact ((Zco _ _ 1).trans (Yd _ _ _ _)).trans (Yd _ _ _ _)
   .split
    .exact (((JK _ 2).trans (Yd _ _ _ _)).trans (Yd _ _ _ _)).trans (Yd _ _ _ _)
    .exact .refl _
 .rename_i hg
  rw [if_neg hg] at h
  cases h
theorem Z1f{a:Arena}(h:OkAr a){n:Int}(hg:Z0 a n=true):0<=n/\n<=131072:=by
 have hh:0<=n/\n<=a.most - a.used:=of_decide_eq_true hg
 have:=h.used
 omega
theorem Z3B{a:Arena}{s:Int}(h0:0<=s)(h:s < a.segs.length):ZQ a s=((Za a.segs s).length:Int):=by
 unfold ZQ
 rw [if_neg (by omega)]
theorem Z7T{a:Arena}{s:Int}(h:s < 0\/(a.segs.length:Int)<=s):ZQ a s= -1:=by
 unfold ZQ
 rw [if_pos h]
theorem c81:Contract Try.prog cfg 81 Z1x:=by
 refine ZjC ?_
 intro a s _ hp
 obtain ⟨y,hy0,hy⟩:=hp
 dsimp only at hy0
 subst hy0
 refine ZmX (some y) s _ ⟨fun _=> rfl,fun _=> rfl,fun hb=> ?_,fun hb=> ?_⟩
 .have hb:s < 0\/(y.segs.length:Int)<=s:=by
   rcases Decidable.em (s < 0) with h | h
   .exact .inl h
   .rw [decide_eq_false h] at hb
    exact .inr (of_decide_eq_true hb)
  refine ZJ (b:= -1) rfl ?_
  exact (Z7T hb).symm
 .have hs:¬s < 0:=by
   intro h
   rw [decide_eq_true h] at hb
   cases hb
  rw [decide_eq_false hs] at hb
  have hb:¬(y.segs.length:Int)<=s:=of_decide_eq_false hb
  have h1:(0:Int)<=s/\s < ((Arena.segs y).length:Int):=by omega
  refine ⟨rfl,rfl,h1,ZJ rfl ?_⟩
  show _=ZQ y s
  rw [Z3B h1.1 h1.2,ZP h1.1]
  try rfl
theorem c82:Contract Try.prog cfg 82 Z1y:=by
 refine ZjB ?_
 intro a s n _ hp
 obtain ⟨h,⟨h1,h2⟩,h3,h4⟩:=hp
 dsimp only at h h1 h2 h3 h4
 have hu:=h.used
 have hl:=h.len s
 refine ZmW a s n _ ⟨⟨h1,h2⟩,?_⟩
 refine Zj (ι:=Int × Arena) (fun p=> Z0I a s n p.1 p.2) (fun p=> 0<=p.1/\p.1<=n/\p.2=Arena.mk (a.segs.set s.toNat (Za a.segs s++List.replicate p.1.toNat 0)) a.size a.most a.used) (fun p=> (n - p.1).toNat) (0,a) rfl ⟨XY _,h3,?_⟩ ?_
 .have:a.segs.set s.toNat (Za a.segs s++[])=a.segs:=by
   rw [XC,ZP h1,Q6,Q0 (show s.toNat < a.segs.length by omega),QE]
   exact List.set_getElem_self _
  show a=Arena.mk (a.segs.set s.toNat (Za a.segs s++[])) a.size a.most a.used
  rw [this]
 rintro ⟨i,r⟩ ⟨g1,g2,g3⟩
 dsimp only at g1 g2 g3
 have hr:Za r.segs s=Za a.segs s++List.replicate i.toNat 0:=by
  rw [g3]
  show Za (a.segs.set _ _) s=_
  rw [Z0C h1 h2,if_pos rfl]
 have hrl:r.segs.length=a.segs.length:=by rw [g3];exact QI
 have hru:r.used=a.used/\r.size=a.size/\r.most=a.most:=by rw [g3];exact ⟨rfl,rfl,rfl⟩
 refine ZgH a s n i r _ _ ⟨fun hb=> ?_,fun hb=> ?_⟩
 .have hb:i < n:=of_decide_eq_true hb
  refine ⟨⟨h1,by omega⟩,?_,⟨h1,by omega⟩,rfl,by ((unfold InR;omega)),(i+1,_),rfl,⟨by dsimp only;omega,by dsimp only;omega,?_⟩,by dsimp only;omega⟩
  .rw [<-ZP h1,hr,Qa,Qs,Xa]
   omega
  .dsimp only
   rw [<-ZP h1,hr,hru.1,hru.2.1,hru.2.2]
   congr 1
   rw [g3]
   show (a.segs.set _ _).set _ _=_
   rw [List.set_set,show (i+1).toNat=i.toNat+1 by omega,QN]
   congr 2
   rw [List.replicate_succ']
 .have hb:¬i < n:=of_decide_eq_false hb
  have e:i=n:=by omega
  subst e
  refine ⟨by ((unfold InR;omega)),?_⟩
  have e:Yp a s i=Arena.mk r.segs r.size r.most (r.used+i):=by
   rw [g3]
   try rfl
  rw [<-e,<-ZP h1]
  (repeat' (first | exact trivial | exact rfl | apply And.intro))
theorem c84:Contract Try.prog cfg 84 Z5S:=by
 refine Zjz c81 c82 ?_
 intro a s n _ h
 have h:OkAr a:=h
 have hy:∃ y,some a=some y/\OkAr y:=⟨a,rfl,h⟩
 have hu:=h.used
 have hz:=h.size
 have hl:=h.len s
 have hL: -1<=ZQ a s/\ZQ a s<=131072:=by
  unfold ZQ
  split <;> omega
 refine ZmU a s n _ ⟨hy,fun _=> by ((unfold InR;omega)),fun _=> hy,fun hb=> ?_,fun hb=> ?_,fun hb=> ?_⟩
 .have hb:(!(bif (bif (decide (((ZQ a s):Int) < 0)) then true else (decide ((n:Int) < 0))) then true else (decide (((((Arena.most a):Int) - (Arena.used a)):Int) < n))))=true:=hb
  have:0<=ZQ a s:=by
   rcases Decidable.em (ZQ a s < 0) with h | h
   .rw [decide_eq_true h] at hb;cases hb
   .omega
  show InR (a.size - ZQ a s)
  ((unfold InR;omega))
 .have hk:Yj a s n=false:=by
   cases hk:Yj a s n with
   | false=> rfl
   | true=>
    unfold Yj JD at hk
    rw [Q2,decide_eq_true_eq,decide_eq_true_eq] at hk
    obtain ⟨⟨k1,k2,k3,k4⟩,k5⟩:=hk
    have e:=Z3B k1 k2
    rw [show ZQ (arO (some a)) s=ZQ a s from rfl,e,decide_eq_false (show ¬((Za a.segs s).length:Int) < 0 by omega),decide_eq_false (show ¬n < 0 by omega),decide_eq_false (show ¬a.most - a.used < n by omega),decide_eq_false (show ¬a.size - ((Za a.segs s).length:Int) < n by omega)] at hb
    cases hb
  simp only [Z8u,ZbK,inA,hk,Qd,if_false]
  (repeat' (first | exact trivial | exact rfl | apply And.intro))
 .have hb:(bif (bif (bif (decide (((ZQ a s):Int) < 0)) then true else (decide ((n:Int) < 0))) then true else (decide (((((Arena.most a):Int) - (Arena.used a)):Int) < n))) then true else (decide (((((Arena.size a):Int) - (ZQ a s)):Int) < n)))=false:=hb
  cases c1:decide (ZQ a s < 0) <;> cases c3:decide ((n:Int) < 0) <;> cases c4:decide ((a.most - a.used:Int) < n) <;> cases c5:decide (a.size - ZQ a s < n) <;> rw [c1] at hb <;> rw [c3] at hb <;> rw [c4] at hb <;> rw [c5] at hb <;> try (cases hb;done)
  rw [decide_eq_false_iff_not] at c1 c3 c4 c5
  have hs:0<=s/\s < a.segs.length:=by
   rcases Decidable.em (s < 0\/(a.segs.length:Int)<=s) with h | h
   .rw [Z7T h] at c1;omega
   .omega
  rw [Z3B hs.1 hs.2] at c5
  have hk:Yj a s n=true:=by
   unfold Yj JD
   rw [Q2,decide_eq_true_eq,decide_eq_true_eq]
   exact ⟨⟨by omega,by omega,by omega,by omega⟩,by omega⟩
  refine ⟨⟨h,⟨by dsimp only;omega,by dsimp only;omega⟩,by dsimp only;omega,by dsimp only;omega⟩,?_⟩
  simp only [Z8u,ZbK,inA,hk,if_true]
  (repeat' (first | exact trivial | exact rfl | apply And.intro))
theorem c48:Contract Try.prog cfg 48 Z61:=by
 refine ZjV c81 c82 ?_
 intro a n _ h
 have h:OkAr a:=h
 have hy:∃ y,some a=some y/\OkAr y:=⟨a,rfl,h⟩
 have hf:=h.few
 have hu:=h.used
 have hz:=h.size
 refine Znh a n _ ?_
 intro y1 hy1 y2 hy2 y3 hy3
 have hy2:y2=ZQ a ((a.segs.length:Int) - 1):=hy2
 have hL:a.segs.length≠0->y2=((Za a.segs ((a.segs.length:Int) - 1)).length:Int):=fun hn=> by rw [hy2,Z3B (by omega) (by omega)]
 have hl:=h.len ((a.segs.length:Int) - 1)
 have hy1:y1:=by rw [hy1];((unfold InR;omega))
 refine ⟨fun _=> by ((unfold InR;omega)),fun hb=> ?_,fun hb=> ?_⟩
 .have hk:Z0 a n=false:=by
   cases hk:Z0 a n with
   | false=> rfl
   | true=>
    have hk:0<=n/\n<=a.most - a.used:=of_decide_eq_true hk
    rw [decide_eq_false (show ¬n < 0 by omega),decide_eq_false (show ¬a.most - a.used < n by omega)] at hb
    cases hb
  simp only [Z6s,Z9H,Z5,hk,Qd,if_false]
  (repeat' (first | exact trivial | exact rfl | apply And.intro))
 .cases c1:decide ((n:Int) < 0) <;> cases c2:decide ((a.most - a.used:Int) < n) <;> rw [c1] at hb <;> rw [c2] at hb <;> try (cases hb;done)
  rw [decide_eq_false_iff_not] at c1 c2
  have hk:Z0 a n=true:=decide_eq_true ⟨by omega,by omega⟩
  have hne:(!((((Arena.segs a).length:Int):Int)==0))=true->a.segs.length≠0:=by
   intro q q2
   rw [q2] at q
   cases q
  refine ⟨fun _=> by ((unfold InR;omega)),fun _=> hy,fun q=> by rw [hL (hne q)];((unfold InR;omega)),fun hd=> ?_,fun hd=> ?_⟩
  .have ho:Yl a n=y3:=by
    unfold Yl JD
    rw [hy3,if_pos]
    .try rfl
    .cases c3:((((Arena.segs a).length:Int):Int)==0) with
     | true=> left;have:=eq_of_beq c3;omega
     | false=>
      rw [c3] at hd
      have hn:a.segs.length≠0:=fun q=> by rw [q] at c3;cases c3
      cases c4:decide ((((((Arena.size a):Int) - y2):Int)) < n) with
      | false=> rw [c4] at hd;cases hd
      | true=>
       rw [c4] at hd
       have:(a.segs.length:Int) < 16:=of_decide_eq_true hd
       rw [decide_eq_true_eq,hL hn] at c4
       right
       exact ⟨decide_eq_false (by omega),by omega⟩
   have hl3:y3.segs.length=a.segs.length+1:=by rw [hy3];simp
   have hS:giveS a n=((((((Arena.segs a).length:Int):Int)+1):Int) - 1):=by
    unfold giveS
    rw [ho,hl3]
    omega
   have hA:Z5 a n=Yp y3 ((((((Arena.segs a).length:Int):Int)+1):Int) - 1) n:=by
    unfold Z5
    rw [if_pos hk,ho,hS]
   have hu3:=Z16 a n
   rw [ho] at hu3
   refine ⟨by omega,by ((unfold InR;omega)),hy1,hy1,⟨by rw [<-ho];exact h.opens n,⟨by dsimp only;omega,by dsimp only;omega⟩,by dsimp only;omega,by dsimp only;omega⟩,?_⟩
   simp only [Z6s,Z9H,hk,if_true]
   rw [<-hA,<-hS]
   rw [show ((Za y3.segs (giveS a n)).length:Int)=giveT a n by unfold giveT;rw [ho]]
   (repeat' (first | exact trivial | exact rfl | apply And.intro))
  .have hn:a.segs.length≠0:=by
    intro q
    rw [q] at hd
    cases hd
   have ho:Yl a n=a:=by
    unfold Yl JD
    rw [if_neg]
    rintro (hc | ⟨hc,hc2⟩)
    .exact hn hc
    .rw [decide_eq_false_iff_not] at hc
     have c3:((((Arena.segs a).length:Int):Int)==0)=false:=by
      cases q:((((Arena.segs a).length:Int):Int)==0) with
      | false=> rfl
      | true=> have:=eq_of_beq q;omega
     rw [c3,decide_eq_true (show a.size - y2 < n by rw [hL hn];omega),decide_eq_true (show (a.segs.length:Int) < 16 by omega)] at hd
     cases hd
   have hS:giveS a n=((((Arena.segs a).length:Int):Int) - 1):=by
    unfold giveS
    rw [ho]
   have hA:Z5 a n=Yp a ((((Arena.segs a).length:Int):Int) - 1) n:=by
    unfold Z5
    rw [if_pos hk,ho,hS]
   refine ⟨by ((unfold InR;omega)),by ((unfold InR;omega)),⟨h,⟨by dsimp only;omega,by dsimp only;omega⟩,by dsimp only;omega,by dsimp only;omega⟩,?_⟩
   simp only [Z6s,Z9H,hk,if_true]
   rw [<-hA,<-hS]
   rw [show ((Za a.segs (giveS a n)).length:Int)=giveT a n by unfold giveT;rw [ho]]
   (repeat' (first | exact trivial | exact rfl | apply And.intro))
theorem c22:Contract Try.prog cfg 22 Jk:=by
 refine Zkb c40 ?_
 intro a n _ h
 refine ZnB a n _ ⟨h,?_⟩
 (repeat' (first | exact trivial | exact rfl | apply And.intro))
theorem c46:Contract Try.prog cfg 46 Z2V:=by
 refine ZjX ?_
 intro s n _ h
 refine Znj s n _ ⟨h,?_⟩
 (repeat' (first | exact trivial | exact rfl | apply And.intro))
theorem Z48:∀ (x y:List Int) (a:Arena) (s i:Int),Zk (x++y) a s i=Zk y (Zk x a s i) s (i+x.length)
 | [],y,a,s,i=> by simp [Zk]
 | w ::r,y,a,s,i=> by
  rw [Xi,Zk,Zk,Z48 r y]
  congr 1
  rw [Qv]
  omega
theorem c44:Contract Try.prog cfg 44 YO:=by
 refine ZjY c79 ?_
 intro a s l _ hp
 obtain ⟨⟨h,hw⟩,hh⟩:=hp
 dsimp only at h hw hh
 have hb:=Zb.1 hh
 have hu:=h.used
 have hl:=h.len (Spot.segment s)
 refine Znl a s l _ ?_
 refine Zj (ι:=Int × Arena) (fun p=> Z0K a s l p.1 p.2) (fun p=> (0<=p.1/\p.1<=l.length)/\p.2=Zk (l.take p.1.toNat) a s.segment s.at_) (fun p=> ((l.length:Int) - p.1).toNat) (0,a) rfl ⟨⟨by dsimp only;omega,by dsimp only;omega⟩,rfl⟩ ?_
 rintro ⟨i,r⟩ ⟨⟨g1,g2⟩,g3⟩
 dsimp only at g1 g2 g3
 have hr:OkAr r:=by rw [g3];exact Yz _ _ _ h fun x hx=> hw x (XR hx)
 have hg:Gr a r:=by rw [g3];exact Jr _ _ _ _
 refine ZgQ a s l i r _ _ ⟨fun hb1=> ?_,fun hb1=> ?_⟩
 .have hi:i < l.length:=of_decide_eq_true hb1
  have hw':=J3 hw i.toNat
  have h1:Y2 r.segs s.segment (s.at_+i) 1=true:=hg.has (Zb.2 ⟨hb.1,hb.2.1,by omega,by omega,by omega⟩)
  refine ⟨⟨g1,hi⟩,by ((unfold InR;omega)),⟨hr,hw'⟩,fun hc=> ?_,fun _=> ⟨by ((unfold InR;omega)),(i+1,ZD r s.segment (s.at_+i) (l.getD i.toNat 0)),rfl,⟨⟨by dsimp only;omega,by dsimp only;omega⟩,?_⟩,by dsimp only;omega⟩⟩
  .rw [h1] at hc
   cases hc
  .dsimp only
   have e:l.take (i+1).toNat=l.take i.toNat++[l.getD i.toNat 0]:=by
    rw [show (i+1).toNat=i.toNat+1 by omega,Q6,Q0 (show i.toNat < l.length by omega),QE]
    exact (Xg (by omega)).symm
   rw [e,Z48,<-g3,Qc,QU (by omega),Zk,Zk,XV g1]
 .have hi:¬i < l.length:=of_decide_eq_false hb1
  have e:i=l.length:=by omega
  subst e
  rw [Qe,Xf] at g3
  subst g3
  (repeat' (first | exact trivial | exact rfl | apply And.intro))
theorem ZhS{d:Bool}{s o:Int}(hs:0<=s/\s < 4294967296)(ho:0<=o/\o < 536870912):Zh (J8 d s o)=⟨3,o,0,0,0,0,s,d⟩:=by
 unfold J8 Zh
 cases d with
 | true=>
  rw [if_pos rfl,if_neg (by omega),if_neg (by omega),if_neg (by omega),if_pos (by omega)]
  congr 1
  .omega
  .omega
  .exact decide_eq_true (by omega)
 | false=>
  simp only [Qd,if_false]
  rw [if_neg (by omega),if_neg (by omega),if_neg (by omega),if_pos (by omega)]
  congr 1
  .omega
  .omega
  .exact decide_eq_false (by omega)
theorem ZaU{x y:Nat}(hx:x < 18446744073709551616)(hy:y < 18446744073709551616):IntKind.wrap .u64 (BitVec.ofInt (IntKind.bits .u64) (x:Int) ||| BitVec.ofInt (IntKind.bits .u64) (y:Int)).toNat=((x ||| y:Nat):Int):=by
 have e:∀ z:Nat,z < 18446744073709551616->(BitVec.ofInt (IntKind.bits .u64) (z:Int)).toNat=z:=by
  intro z z1
  simp [IntKind.bits]
  omega
 rw [K5,e x hx,e y hy]
 have:(x ||| y) < 2 ^ 64:=Nat.or_lt_two_pow hx hy
 exact Z8 (by omega) (by omega)
theorem Zcd{o:Int}(h0:0<=o)(h1:o < 536870912):IntKind.wrap .u64 (BitVec.ofInt (IntKind.bits .u64) (8*o) ||| BitVec.ofInt (IntKind.bits .u64) 2).toNat=2+8*o:=by
 obtain ⟨n,rfl⟩:=Qf h0
 have h:=ZaU (x:=8*n) (y:=2) (by omega) (by decide)
 rw [show ((8*n:Nat):Int)=8*(n:Int) by omega,show ((2:Nat):Int)=2 from rfl] at h
 rw [h]
 have:=QJ (i:=3) (b:=2) (by decide) n
 rw [show (2:Nat) ^ 3=8 from rfl] at this
 rw [<-this]
 omega
theorem Z7N{x s:Int}(h0:0<=x)(h1:x < 4294967296)(hs:0<=s/\s < 4294967296):IntKind.wrap .u64 (BitVec.ofInt (IntKind.bits .u64) x ||| BitVec.ofInt (IntKind.bits .u64) (4294967296*s)).toNat=x+4294967296*s:=by
 obtain ⟨n,rfl⟩:=Qf h0
 obtain ⟨m,rfl⟩:=Qf hs.1
 have h:=ZaU (x:=n) (y:=4294967296*m) (by omega) (by omega)
 rw [show ((4294967296*m:Nat):Int)=4294967296*(m:Int) by omega] at h
 rw [h,Nat.or_comm]
 have:=QJ (i:=32) (b:=n) (by omega) m
 rw [show (2:Nat) ^ 32=4294967296 from rfl] at this
 rw [<-this]
 omega
theorem Zhn{o s:Int}(h0:0<=o/\o < 536870912)(hs:0<=s/\s < 4294967296):IntKind.wrap .u64 (BitVec.ofInt (IntKind.bits .u64) (2+8*o+4294967296*s) ||| BitVec.ofInt (IntKind.bits .u64) 4).toNat=6+8*o+4294967296*s:=by
 obtain ⟨n,rfl⟩:=Qf h0.1
 obtain ⟨m,rfl⟩:=Qf hs.1
 have h:=ZaU (x:=2+8*n+4294967296*m) (y:=4) (by omega) (by decide)
 rw [show ((2+8*n+4294967296*m:Nat):Int)=2+8*(n:Int)+4294967296*(m:Int) by omega,show ((4:Nat):Int)=4 from rfl] at h
 rw [h]
 have e:2+8*n+4294967296*m=2 ^ 3*(n+536870912*m)+2:=by omega
 have e1:=QJ (i:=3) (b:=2) (by decide) (n+536870912*m)
 have e2:=QJ (i:=3) (b:=6) (by decide) (n+536870912*m)
 have:(2+8*n+4294967296*m) ||| 4=2 ^ 3*(n+536870912*m)+6:=by
  rw [e,e1,e2,Nat.or_assoc]
  try rfl
 rw [this]
 omega
theorem ZfM:Contract Try.prog cfg 75 Z1D:=by
 refine ZeQ c98 c99 Zdm Zdl ?_
 intro p _ hp
 obtain ⟨o,s,d,e,ho,hs⟩:=hp
 dsimp only at e
 subst e
 have fin:∀ {x:Int} {v1 v2 v3 v4 v5:V U},x=J8 d s o->awp cfg (Z1 Zfk) (ZA cfg (Z1 Zfk)) Try.f75.ntmps Zky (cd Try.f75 [1,1,1]) (YT (Ptr.mk 3 o 0 0 0 0 s d) x v1 v2 v3 v4 v5) (YN cfg Try.f75.ntmps Try.f75.results.toList (Z8x (Ptr.mk 3 o 0 0 0 0 s d,())) []):=by
  intro x v1 v2 v3 v4 v5 hx
  refine ZcJ _ _ _ _ _ _ _ _ ?_
  have hr:=Yq (d:=d) hs ho
  refine ⟨by subst hx;exact hr,?_⟩
  subst hx
  rw [ZhS hs ho]
  refine YE (r':= .tup [(false,[.int .u64 (J8 d s o)]),(false,[.bool true])]) rfl ?_
  simp only [beq_self_eq_true,Bool.and_self,cond_true]
  (repeat' (first | exact trivial | exact rfl | apply And.intro))
 have e3:min (Int.toNat 3) (IntKind.bits .u64)=3:=rfl
 have e32:min (Int.toNat 32) (IntKind.bits .u64)=32:=rfl
 have q3:(2:Int) ^ 3=8:=rfl
 have q32:(2:Int) ^ 32=4294967296:=rfl
 have q2:(2:Int) ^ 2=4:=rfl
 have q1:(2:Int) ^ 1=2:=rfl
 refine Zje (Ptr.mk 3 o 0 0 0 0 s d) _ ?_
 intro y1 hy1 y2 hy2 y3 _ y4 _ y5 hy5 y6 hy6
 have hy1:y1=8*o:=by
  rw [hy1,Z7n 3 e3 (by dsimp only;omega) (by dsimp only;omega) (by dsimp only;omega)]
  dsimp only
  omega
 have hy2:y2=4294967296*s:=by
  rw [hy2,Z7n 32 e32 (by dsimp only;omega) (by dsimp only;omega) (by dsimp only;omega)]
  dsimp only
  omega
 refine ⟨fun h=> by simp at h,fun _=> ⟨fun h=> by simp at h,fun _=> ⟨fun _=> ⟨trivial,fun _=> trivial,fun _=> ⟨by decide,by decide,fun hd=> fin ?_,fun hd=> fin ?_⟩,fun hc=> ?_⟩,fun h=> by simp at h⟩⟩⟩
 .rw [hy6,hy5,hy1,hy2]
  show _=2+(if d=true then 4 else 0)+8*o+4294967296*s
  have hd:d=true:=hd
  rw [Zcd (by omega) (by omega),Z7N (by omega) (by omega) hs]
  rw [hd,if_pos rfl,Zhn (by omega) (by omega)]
  omega
 .rw [hy6,hy5,hy1,hy2]
  show _=2+(if d=true then 4 else 0)+8*o+4294967296*s
  have hd:d=false:=hd
  rw [Zcd (by omega) (by omega),Z7N (by omega) (by omega) hs]
  rw [hd,if_neg (by decide)]
  omega
 .rw [decide_eq_true (show 0<=o/\o<=536870911 by omega),decide_eq_true (show 0<=s/\s<=4294967295 by omega)] at hc
  cases hc
theorem c78:Contract Try.prog cfg 78 Z5V:=by
 refine ZjF ZfM c44 ?_
 intro a fr to d _ hp
 obtain ⟨⟨h,hf⟩,ho,hs⟩:=hp
 dsimp only at h hf ho hs
 have hr:=Yq (d:=d) hs ho
 refine Zn0 a fr to d _ ⟨⟨_,_,_,rfl,ho,hs⟩,fun _=> ⟨⟨h,fun x hx=> ?_⟩,hf⟩,?_⟩
 .rw [QD.1 hx]
  exact hr
 ·(repeat' (first | exact trivial | exact rfl | apply And.intro))
theorem Zct{p:Ptr}(h:Z4Z p){o:Int}(ho: -536870912<=o/\o < 536870912)(hz:¬(o=0/\kdP p=0/\upP p=0)){q:Ptr}(hq:q=Ptr.mk p.kind o p.data p.ptrs p.code p.count p.segment p.double):
  (eqP (Zh (Zt q)) q && !decide (q.kind=4))=true/\Zt q=4*(o % 1073741824)+kdP p+4294967296*upP p:=by
 subst hq
 obtain ⟨k,o0,d,q,c,n,s,b⟩:=p
 obtain ⟨h,hs,hb⟩:=h
 dsimp only at h hs hb
 subst hs hb
 rcases h with ⟨rfl,hd,hp,rfl,rfl⟩ | ⟨rfl,rfl,rfl,hc,hn⟩
 .have ek:kdP ⟨1,o0,d,q,0,0,0,false⟩=0:=rfl
  have eu:upP ⟨1,o0,d,q,0,0,0,false⟩=d+65536*q:=rfl
  rw [ek,eu] at hz ⊢
  have e:Zt ⟨1,o,d,q,0,0,0,false⟩=4*(o % 1073741824)+0+4294967296*(d+65536*q):=by
   unfold Zt
   dsimp only
   rw [if_pos rfl,if_pos ⟨ho,⟨by omega,by omega⟩,by omega,by omega⟩]
   omega
  refine ⟨?_,e⟩
  rw [e,Zbj ho hd hp (by omega),Zah]
  try rfl
 .have ek:kdP ⟨2,o0,0,0,c,n,0,false⟩=1:=rfl
  have eu:upP ⟨2,o0,0,0,c,n,0,false⟩=c+8*n:=rfl
  rw [ek,eu] at hz ⊢
  have e:Zt ⟨2,o,0,0,c,n,0,false⟩=4*(o % 1073741824)+1+4294967296*(c+8*n):=by
   unfold Zt
   dsimp only
   rw [if_neg (by decide),if_pos rfl,if_pos ⟨ho,⟨by omega,by omega⟩,by omega,by omega⟩]
  refine ⟨?_,e⟩
  rw [e,ZfL ho hc hn,Zah]
  try rfl
theorem Z8E{p:Ptr}(h:Z4Z p):(p.kind=1\/p.kind=2)/\(0<=kdP p/\kdP p < 4)/\(0<=upP p/\upP p < 4294967296)/\((kdP p=0/\upP p=0)↔(p.kind=1/\p.data+p.ptrs=0)):=by
 obtain ⟨k,o0,d,q,c,n,s,b⟩:=p
 obtain ⟨h,hs,hb⟩:=h
 dsimp only at h hs hb
 subst hs hb
 rcases h with ⟨rfl,hd,hp,rfl,rfl⟩ | ⟨rfl,rfl,rfl,hc,hn⟩
 .have ek:kdP ⟨1,o0,d,q,0,0,0,false⟩=0:=rfl
  have eu:upP ⟨1,o0,d,q,0,0,0,false⟩=d+65536*q:=rfl
  rw [ek,eu]
  dsimp only
  omega
 .have ek:kdP ⟨2,o0,0,0,c,n,0,false⟩=1:=rfl
  have eu:upP ⟨2,o0,0,0,c,n,0,false⟩=c+8*n:=rfl
  rw [ek,eu]
  dsimp only
  omega
theorem c76:Contract Try.prog cfg 76 Z5X:=by
 refine ZjH c75 c44 ?_
 intro a fr to p _ hp
 obtain ⟨⟨h,hf⟩,ht,hpn⟩:=hp
 dsimp only at h hf ht hpn
 obtain ⟨hk,r1,r2,r3⟩:=Z8E hpn
 have hh:=Zb.1 hf
 have hu:=h.used
 have hl:=h.len fr.segment
 have key:∀ {q:Ptr} {o:Int},(-536870912<=o/\o < 536870912)->¬(o=0/\kdP p=0/\upP p=0)->q=Ptr.mk p.kind o p.data p.ptrs p.code p.count p.segment p.double->pwA fr.at_ to.at_ (kdP p) (upP p)=4*(o % 1073741824)+kdP p+4294967296*upP p->
   (Z0E (q,()))/\(((eqP (Zh (Zt q)) q && !decide (Ptr.kind q=4))=true->Jb ((a,()),fr,([Zt q]),()))/\(ZK cfg Try.f76.ntmps Try.f76.results.toList (Zeb ((a,()),fr,to,p,())) (ZaI ((a,()),fr,to,p,())) (ZaK ((a,()),fr,to,p,())) .ret (⟨[(0,.agg [.mref (.A)]),(8,.c (.bool (bif (eqP (Zh (Zt q)) q && !decide (Ptr.kind q=4)) then true else false)))],[],[(.A,LC.mk (U:=U) .arena ([bif (eqP (Zh (Zt q)) q && !decide (Ptr.kind q=4)) then (Zk ([Zt q]) a (Spot.segment fr) (Spot.at_ fr)) else a]) 0)]⟩:LSt U))):=by
  intro q o ho hz hq hw
  obtain ⟨e1,e2⟩:=Zct hpn ho hz hq
  have hrw:=Z6v (a:=fr.at_) (to:=to.at_) r1 r2
  rw [e1,e2,<-hw]
  refine ⟨?_,fun _=> ⟨⟨h,fun x hx=> ?_⟩,hf⟩,?_⟩
  .show q.kind=1\/q.kind=2
   rw [hq]
   exact hk
  .rw [QD.1 hx]
   exact hrw
  ·(repeat' (first | exact trivial | exact rfl | apply And.intro))
 refine Zn2 a fr to p _ ?_
 rintro y1 rfl y2 hy2 y3 hy3
 refine ⟨by ((unfold InR;omega)),by ((unfold InR;omega)),fun _=> ?_,fun hb=> ?_,fun hb=> ?_⟩
 .rcases hpn.1 with g | g <;> ((unfold InR;omega))
 .have hb:p.kind=1/\p.data+p.ptrs=0:=by
   cases c1:((Ptr.kind p:Int)==1) with
   | false=> rw [c1] at hb;cases hb
   | true=> rw [c1] at hb;exact ⟨eq_of_beq c1,eq_of_beq hb⟩
  obtain ⟨z1,z2⟩:=r3.2 hb
  refine key (o:= -1) ⟨by decide,by decide⟩ (by omega) hy2 ?_
  unfold pwA
  rw [if_pos ⟨z1,z2⟩,z1,z2]
  decide
 .have hb:¬(p.kind=1/\p.data+p.ptrs=0):=by
   rintro ⟨q1,q2⟩
   simp [q1,q2] at hb
  have hz:¬(kdP p=0/\upP p=0):=fun q=> hb (r3.1 q)
  refine key (o:=to.at_ - y1.at_ - 1) ⟨by omega,by omega⟩ (fun q=> hz q.2) hy3 ?_
  unfold pwA
  rw [if_neg hz]
  try rfl
set_option maxHeartbeats 1000000 in
theorem c43:Contract Try.prog cfg 43 Z2W:=by
 refine ZjZ c76 c77 c78 c22 c75 c46 c44 ?_
 intro a fr to p _ hp
 obtain ⟨⟨h,hf⟩,ht,hpn,hs⟩:=hp
 dsimp only at h hf ht hpn hs
 obtain ⟨hk,r1,r2,r3⟩:=Z8E hpn
 have hfew:=h.few
 have hresT:∀ {c:Arena × Bool} {b:Bool} {r:Arena},Zu a fr.segment fr.at_ to.segment to.at_ (kdP p) (upP p)=c->c=(r,b)->
   ZK cfg Try.f43.ntmps Try.f43.results.toList (ZbQ ((a,()),fr,to,p,())) (ZaI ((a,()),fr,to,p,())) (Z8w ((a,()),fr,to,p,())) .ret (⟨[(0,.agg [.mref (.A)]),(8,.c (.bool b))],[],[(.A,LC.mk (U:=U) .arena ([r]) 0)]⟩:LSt U):=by
  intro c b r h1 h2
  have e:Zu a fr.segment fr.at_ to.segment to.at_ (kdP p) (upP p)=(r,b):=h1.trans h2
  simp only [ZbQ,Z8w,e]
  (repeat' (first | exact trivial | exact rfl | apply And.intro))
 refine Znm a fr to p _ ?_
 rintro y1 rfl y2 rfl y3 rfl y4 hy4 y5 hy5 y6 hy6 y7 rfl y8 hy8 y9 hy9 y10 hy10 y11 hy11
 refine ⟨fun _=> ?_,fun hb=> ?_,fun hb=> ?_⟩
 .rcases hpn.1 with g | g <;> ((unfold InR;omega))
 .have hb:y2.segment=y3.segment\/(kdP y1=0/\upP y1=0):=by
   rw [r3]
   cases c0:((Spot.segment y2:Int)==Spot.segment y3) with
   | true=> exact .inl (eq_of_beq c0)
   | false=>
    rw [c0] at hb
    cases c1:((Ptr.kind y1:Int)==1) with
    | false=> rw [c1] at hb;cases hb
    | true=> rw [c1] at hb;exact .inr ⟨eq_of_beq c1,eq_of_beq hb⟩
  refine ⟨⟨⟨h,hf⟩,ht,hpn⟩,hresT rfl ?_⟩
  unfold Zu
  rw [if_pos hb]
 .have hb:¬(y2.segment=y3.segment\/(kdP y1=0/\upP y1=0)):=by
   rw [r3]
   rintro (q | ⟨q1,q2⟩)
   .simp [q] at hb
   .simp [q1,q2] at hb
  have hz:¬((0:Int)=0/\kdP y1=0/\upP y1=0):=fun q=> hb (.inr q.2)
  refine ⟨h,fun hi=> ?_,fun hi=> ?_⟩
  .have hin:=ZfC hi
   have hi1:Y2 (inA a y3.segment 1).segs y2.segment y2.at_ 1=true:=(Zco a y3.segment 1).has hf
   have he:=h.endA y3.segment
   have h5:y5=Spot.mk y3.segment (endA a y3.segment):=by rw [hy5,if_pos hi];try rfl
   have g8:Gr (inA a y3.segment 1) y8:=by rw [hy8];exact Yd _ _ _ _
   have o8:OkAr y8:=by
    rw [hy8,h5]
    exact (h.inn _ _).put _ _ (Yq ⟨by dsimp only;omega,by dsimp only;omega⟩ ⟨by dsimp only;omega,by dsimp only;omega⟩)
   rw [h5] at hy8 ⊢
   refine ⟨⟨⟨h.inn _ _,hi1⟩,⟨by dsimp only;omega,by dsimp only;omega⟩,by dsimp only;omega,by dsimp only;omega⟩,fun _=> ⟨⟨o8,g8.has hin⟩,ht,hpn⟩,hresT rfl ?_⟩
   unfold Zu
   rw [if_neg hb,if_pos hi,hy8]
   try rfl
  .have ea:inA a y3.segment 1=a:=by unfold inA;rw [if_neg (by rw [hi];decide)]
   obtain ⟨e1,e2⟩:=Zct hpn (o:=0) ⟨by decide,by decide⟩ hz hy4
   have e2:Zt y4=kdP y1+4294967296*upP y1:=by rw [e2];omega
   rw [ea] at hy6 hy8 hy10 hy11 ⊢
   rw [e1,e2]
   rw [e1] at hy11
   have hg2:=h.giveS 2
   have ht2:=h.giveT 2
   refine ⟨h,by show y4.kind=1\/y4.kind=2;rw [hy4];exact hk,?_⟩
   cases hg:Z0 a 2 with
   | false=>
    refine ⟨fun q=> (by cases q),fun q=> (by cases q),fun q=> (by cases q),fun q=> (by cases q),hresT rfl ?_⟩
    unfold Zu
    rw [if_neg hb,if_neg (by rw [hi];decide),if_neg (by rw [hg];decide)]
    have:Z5 a 2=a:=by unfold Z5;rw [if_neg (by rw [hg];decide)]
    rw [this]
    try rfl
   | true=>
    have e7:y7=Spot.mk (giveS a 2) (giveT a 2):=by rw [hy6,if_pos hg,if_pos hg]
    have hgh:=Z2c hg
    have hgs:=Z4q hg
    have hgh':=Zb.1 hgh
    have gg:=JK a 2
    rw [hg] at hy11
    simp only [cond_true] at hy11 ⊢
    have o10:OkAr y10:=by
     rw [hy10,e7]
     exact (h.give 2).put _ _ (Yq ⟨by dsimp only;omega,by dsimp only;omega⟩ ⟨by dsimp only;omega,by dsimp only;omega⟩)
    have g10:Gr (Z5 a 2) y10:=by rw [hy10];exact Yd _ _ _ _
    have w11:=Yq (d:=false) (s:=y3.segment) (i:=y3.at_) ⟨by omega,by omega⟩ ⟨by omega,by omega⟩
    have o11:OkAr y11:=by rw [hy11];exact o10.put _ _ w11
    have g11:Gr y10 y11:=by rw [hy11];exact Yd _ _ _ _
    rw [e7] at hy9 hy10 hy11 ⊢
    have k1:Y2 y10.segs (giveS a 2) (giveT a 2) 1=true:=g10.has (Zb.2 ⟨hgh'.1,hgh'.2.1,hgh'.2.2.1,by decide,by omega⟩)
    have k2:Y2 y11.segs (giveS a 2) (giveT a 2+1) 1=true:=(g10.trans g11).has (Zb.2 ⟨hgh'.1,hgh'.2.1,by omega,by decide,by omega⟩)
    refine ⟨fun _=> ⟨⟨h.give 2,gg.has hf⟩,⟨by dsimp only;omega,by dsimp only;omega⟩,by dsimp only;omega,by dsimp only;omega⟩,fun _=> ⟨⟨o10,k1⟩,⟨by dsimp only;omega,by dsimp only;omega⟩,by dsimp only;omega,by dsimp only;omega⟩,fun _=> ?_,fun _=> ⟨⟨o11,fun x hx=> ?_⟩,?_⟩,hresT rfl ?_⟩
    .show InR (giveT a 2+1)
     ((unfold InR;omega))
    .rw [QD.1 hx]
     omega
    .rw [hy9]
     exact k2
    .unfold Zu
     rw [if_neg hb,if_neg (by rw [hi];decide),if_pos hg,hy11,hy10,hy9]
     try rfl
noncomputable section
noncomputable section
def Z9f:ArgM ((Arena × Unit) × Spot × Tree × Unit):=(.agg (.cons cAr .nil) (.cons (aEl .spot) (.cons (aEl .tree) .nil)))
def Zc5(a:(Arena × Unit) × Spot × Tree × Unit):Prop:=((OkAr a.1.1/\Y2 a.1.1.segs (Spot.segment a.2.1) (Spot.at_ a.2.1) 1=true)/\(ZE a.2.2.1<=1000000/\rng a.2.2.1)/\Tree.kind a.2.2.1≠10/\∃ d,Z6 a.2.2.1 d=true)/\2<=Tree.kind a.2.2.1/\Tree.kind a.2.2.1<=7
def Z9I(a:(Arena × Unit) × Spot × Tree × Unit):V U:= .c (.bool ((Zx a.2.2.1 a.1.1 (Spot.segment a.2.1) (Spot.at_ a.2.1)).2))
def ZdZ(a:(Arena × Unit) × Spot × Tree × Unit):List (List (C U)):=[]
def Z6r(a:(Arena × Unit) × Spot × Tree × Unit):List (Tok × LC U):=[(.A,LC.mk (U:=U) .arena [(Zx a.2.2.1 a.1.1 (Spot.segment a.2.1) (Spot.at_ a.2.1)).1] 0)]
def Z8k:Fs U:=(Ys Z9f (fun a=> [Zc5 a]) Z9I ZdZ Z6r).passing [0]
def Z4X(a:(Arena × Unit) × Spot × Tree × Unit):Prop:=(OkAr a.1.1/\Y2 a.1.1.segs (Spot.segment a.2.1) (Spot.at_ a.2.1) 1=true)/\(ZE a.2.2.1<=1000000/\rng a.2.2.1)/\Tree.kind a.2.2.1≠10/\∃ d,Z6 a.2.2.1 d=true
def ZeN(a:(Arena × Unit) × Spot × Tree × Unit):Nat:=4*ZE a.2.2.1+3
def Z41:Fs U:=(Ys Z9f (fun a=> [Z4X a]) Z9I ZdZ Z6r).passing [0]
def Z3r(a:(Arena × Unit) × Spot × Tree × Unit):Prop:=(OkAr a.1.1/\Y2 a.1.1.segs (Spot.segment a.2.1) (Spot.at_ a.2.1) a.2.2.1.kids.length=true)/\(ZE a.2.2.1<=1000000/\rng a.2.2.1)/\∀ k∈Tree.kids a.2.2.1,Tree.kind k≠10/\∃ d,Z6 k d=true
def ZaZ(a:(Arena × Unit) × Spot × Tree × Unit):Nat:=4*ZE a.2.2.1+1
def Z7v(a:(Arena × Unit) × Spot × Tree × Unit):V U:= .c (.bool ((ZL a.2.2.1.kids a.1.1 (Spot.segment a.2.1) (Spot.at_ a.2.1)).2))
def Z47(a:(Arena × Unit) × Spot × Tree × Unit):List (Tok × LC U):=[(.A,LC.mk (U:=U) .arena [(ZL a.2.2.1.kids a.1.1 (Spot.segment a.2.1) (Spot.at_ a.2.1)).1] 0)]
def ZdK:Fs U:=(Ys Z9f (fun a=> [Z3r a]) Z7v ZdZ Z47).passing [0]
def Z7J(a:(Arena × Unit) × Spot × Tree × Unit):Prop:=(OkAr a.1.1/\Y2 a.1.1.segs (Spot.segment a.2.1) (Spot.at_ a.2.1) 1=true)/\(ZE a.2.2.1<=1000000/\rng a.2.2.1)/\Tree.kind a.2.2.1≠10/\∃ d,Z6 a.2.2.1 d=true/\Tree.kind a.2.2.1=9
def ZeL(a:(Arena × Unit) × Spot × Tree × Unit):Nat:=4*ZE a.2.2.1+2
def ZdL:Fs U:=(Ys Z9f (fun a=> [Z7J a]) Z9I ZdZ Z6r).passing [0]
def Z0y:List (FuncId × Fs U):=[(59,Z60),(60,Z3h),(22,Jk),(43,Z2W),(44,YO)]
def Z8M:Zc U:=fun i=> match i with
 | 0=> ([(0,[.ar]),(3,[]),(4,[]),(5,[])],[(.loc 3,[.ar]),(.loc 4,[]),(.loc 5,[])])
 | 1=> ([(0,[.ar]),(3,[]),(4,[]),(5,[]),(7,[])],[(.loc 3,[.ar]),(.loc 4,[]),(.loc 5,[])])
 | 2=> ([(0,[.ar]),(3,[]),(4,[]),(5,[]),(7,[.own .u64]),(15,[]),(16,[]),(17,[])],[(.loc 3,[.ar]),(.loc 4,[]),(.loc 5,[])])
 | 3=> ([(0,[.ar]),(3,[]),(4,[]),(5,[]),(7,[]),(15,[]),(16,[]),(17,[]),(18,[])],[(.loc 3,[.ar]),(.loc 4,[]),(.loc 5,[])])
 | 4=> ([(0,[.ar]),(3,[]),(4,[]),(5,[]),(7,[]),(9,[]),(15,[]),(16,[]),(17,[])],[(.loc 3,[.ar]),(.loc 4,[]),(.loc 5,[]),(.loc 9,[])])
 | 5=> ([(0,[.ar]),(3,[]),(4,[]),(5,[]),(7,[]),(15,[]),(16,[]),(17,[])],[(.loc 3,[.ar]),(.loc 4,[]),(.loc 5,[])])
 | 6=> ([(0,[.ar]),(3,[]),(4,[]),(5,[]),(7,[.own .u64]),(15,[]),(16,[]),(17,[])],[(.loc 3,[.ar]),(.loc 4,[]),(.loc 5,[])])
 | 7=> ([(0,[.ar]),(3,[]),(4,[]),(5,[]),(7,[]),(10,[]),(11,[])],[(.loc 3,[.ar]),(.loc 4,[]),(.loc 5,[])])
 | 8=> ([(0,[.ar]),(3,[]),(4,[]),(5,[]),(7,[]),(10,[]),(11,[]),(12,[]),(13,[])],[(.loc 3,[.ar]),(.loc 4,[]),(.loc 5,[]),(.loc 12,[])])
 | 9=> ([(0,[.ar]),(6,[])],[])
 | _=> ([],[])
def Z0L(a:Arena)(fr:Spot)(t:Tree)(x17:Int)(x7:List Int):LSt U:=(⟨[(0,.agg [.mref (.A)]),pL 3,pL 4,pL 5,(7,.c (sU .u64 x7 (.own (.e 7 0)))),(15,.c (sU .tree t.kids .unk)),pI 16 (t.kids.length:Int),pI 17 x17],[(.loc 3,[.mref (.A)]),(.loc 4,(enc .spot fr)),(.loc 5,(enc .tree t))],[(.A,LC.mk (U:=U) .arena ([a]) 0)]⟩:LSt U)
abbrev W42(a:Arena)(fr:Spot)(t:Tree)(Q:QT):=AW (Z1 Z0y) Try.f42 Z8M [] (⟨[(0,.agg [.mref (.A)]),(1,.agg (enc .spot fr)),(2,.agg (enc .tree t))],[],[(.A,LC.mk (U:=U) .arena ([a]) 0)]⟩:LSt U) Q
abbrev Zi5:=awp cfg (Z1 Z0y) (ZA cfg (Z1 Z0y)) Try.f42.ntmps Z8M
abbrev Zhh:=Z6h cfg (Z1 Z0y) (ZA cfg (Z1 Z0y)) Try.f42.ntmps Z8M
theorem Znn(a:Arena)(fr:Spot)(t:Tree)(Q:QT)(h:Zo (AW (Z1 Z0y) Try.f42 Z8M [1,1,0,1,0,0]) (Z0L a fr t 0 []) (xB 0 (SW (Z1 Z0y) Try.f42 Z8M [1,1,1] Q))):
  W42 a fr t Q:=by
 have e_:(W42 a fr t Q)=(Zo (Zi5 (cd Try.f42 [1,1,0,1,0,0])) (Z0L a fr t 0 []) (xB 0 (Zhh (cd Try.f42 [1,1,1]) Q))):=by kernel_rfl
 exact e_.mpr h
abbrev Zgw(a:Arena)(fr:Spot)(t:Tree)(x17:Int)(x7:List Int)(N0:NT)(Q:QT):=AW (Z1 Z0y) Try.f42 Z8M [1,1,0,1,0,0] (Z0L a fr t x17 x7) (xT N0 (xB 0 (SW (Z1 Z0y) Try.f42 Z8M [1,1,1] Q)))
theorem ZgR(a:Arena)(fr:Spot)(t:Tree)(x17:Int)(x7:List Int)(N0:NT)(Q:QT)(h:∀ y_1,y_1=fr->∀ y_2,y_2=(t.kids.getD x17.toNat Tree.nil)->∀ y_3,y_3=(Z5 a ((J0 (t.kind - 2) x7).length:Int))->∀ y_4,y_4=(Z0 a ((J0 (t.kind - 2) x7).length:Int))->∀ y_5,y_5=(Ptr.mk 2 0 0 0 (t.kind - 2) (x7.length:Int) 0 false)->∀ y_6,y_6=(Spot.mk (if Z0 a ((J0 (t.kind - 2) x7).length:Int) then giveS a ((J0 (t.kind - 2) x7).length:Int) else 0) (if Z0 a ((J0 (t.kind - 2) x7).length:Int) then giveT a ((J0 (t.kind - 2) x7).length:Int) else 0))->∀ y_7,y_7=y_6->∀ y_8,y_8=y_2->∀ y_9,y_9=(Zu y_3 (Spot.segment y_1) (Spot.at_ y_1) (Spot.segment y_7) (Spot.at_ y_7) (kdP y_5) (upP y_5))->((decide (x17 < (t.kids.length:Int)))=true->((0:Int)<=x17/\x17 < (t.kids.length:Int))/\((Zc2 (y_8,0,()))/\((x7.length+([Z11 y_8 0]).length)*8<=140737488355328)/\((InR (x17+1))/\(N0 (Z0L a fr t (x17+1) (x7++([Z11 y_8 0])))))))/\((decide (x17 < (t.kids.length:Int)))=false->(InR (t.kind - 2))/\(Z8C ((t.kind - 2),x7,()))/\((Z1j ((a,()),((J0 (t.kind - 2) x7).length:Int),()))/\((y_4=true->InR (t.kind - 2))/\(y_4=true->Z3s ((y_3,()),y_1,y_7,y_5,()))/\((bif y_4 then (y_9.2) else false)=true->Jb (((bif y_4 then (y_9.1) else y_3),()),y_7,(J0 (t.kind - 2) x7),()))/\(Q .ret (⟨[(0,.agg [.mref (.A)]),pB 6 (bif (bif y_4 then (y_9.2) else false) then true else false)],[],[(.A,LC.mk (U:=U) .arena ([bif (bif y_4 then (y_9.2) else false) then (Zk (J0 (t.kind - 2) x7) (bif y_4 then (y_9.1) else y_3) (Spot.segment y_7) (Spot.at_ y_7)) else (bif y_4 then (y_9.1) else y_3)]) 0)]⟩:LSt U)))))):
  Zgw a fr t x17 x7 N0 Q:=by
 have e_:(Zgw a fr t x17 x7 N0 Q)=(let y_1:=(Yt fr);let y_2:=(t.kids.getD x17.toNat Tree.nil);let y_3:=(Z5 a ((J0 (t.kind - 2) x7).length:Int));let y_4:=(Z0 a ((J0 (t.kind - 2) x7).length:Int));let y_5:=(Ptr.mk 2 0 0 0 (t.kind - 2) (x7.length:Int) 0 false);let y_6:=(Spot.mk (if Z0 a ((J0 (t.kind - 2) x7).length:Int) then giveS a ((J0 (t.kind - 2) x7).length:Int) else 0) (if Z0 a ((J0 (t.kind - 2) x7).length:Int) then giveT a ((J0 (t.kind - 2) x7).length:Int) else 0));let y_7:=(Yt y_6);let y_8:=(YY y_2);let y_9:=(Zu y_3 (Spot.segment y_1) (Spot.at_ y_1) (Spot.segment y_7) (Spot.at_ y_7) (kdP y_5) (upP y_5));let zz1:=(bif y_4 then (y_9.1) else y_3);let zz0:=(bif y_4 then (y_9.2) else false);(((decide ((x17:Int) < (t.kids.length:Int)))=true->((0:Int)<=x17/\x17 < (t.kids.length:Int))/\((Zc2 (y_8,0,()))/\((x7.length+([Z11 y_8 0]).length)*8<=140737488355328)/\((InR ((x17:Int)+1))/\(N0 (Z0L a fr t ((x17:Int)+1) (x7++([Z11 y_8 0])))))))/\((decide ((x17:Int) < (t.kids.length:Int)))=false->(InR (t.kind - 2))/\(Z8C ((t.kind - 2),x7,()))/\((Z1j ((a,()),((J0 (t.kind - 2) x7).length:Int),()))/\((true=true->true=true)/\(y_4=true->y_4=true)/\(y_4=true->y_4=true)/\(y_4=true->InR (t.kind - 2))/\(y_4=true->y_4=true)/\(y_4=true->y_4=true)/\(y_4=true->y_4=true)/\(y_4=true->y_4=true)/\(y_4=true->y_4=true)/\(y_4=true->y_4=true)/\(y_4=true->y_4=true)/\(y_4=true->Z3s ((y_3,()),y_1,y_7,y_5,()))/\(y_4=true->y_4=true)/\(Tr (zz0=true))/\(Tr (zz0=true))/\(Tr (zz0=true))/\(zz0=true->Jb ((zz1,()),y_7,(J0 (t.kind - 2) x7),()))/\(Tr (zz0=true))/\(Q .ret (⟨[(0,.agg [.mref (.A)]),pB 6 (bif zz0 then true else false)],[],[(.A,LC.mk (U:=U) .arena ([bif zz0 then (Zk (J0 (t.kind - 2) x7) zz1 (Spot.segment y_7) (Spot.at_ y_7)) else zz1]) 0)]⟩:LSt U))))))):=by kernel_rfl
 exact e_.mpr (by intro y_1 y_2 y_3 y_4 y_5 y_6 y_7 y_8 y_9;have hh:=h y_1 (ZH _) y_2 rfl y_3 rfl y_4 rfl y_5 rfl y_6 rfl y_7 (ZH _) y_8 (ZX _) y_9 rfl;exact ⟨fun c_1=> ⟨(hh.1 c_1).1,⟨(hh.1 c_1).2.1,(hh.1 c_1).2.2.1,⟨(hh.1 c_1).2.2.2.1,(hh.1 c_1).2.2.2.2⟩⟩⟩,fun c_1=> ⟨(hh.2 c_1).1,(hh.2 c_1).2.1,⟨(hh.2 c_1).2.2.1,⟨(by decide),id,id,(hh.2 c_1).2.2.2.1,id,id,id,id,id,id,id,(hh.2 c_1).2.2.2.2.1,(by generalize y_4=b0;revert b0;decide),id,id,id,(hh.2 c_1).2.2.2.2.2.1,(by generalize (y_9.2)=b0;generalize y_4=b1;revert b0 b1;decide),(hh.2 c_1).2.2.2.2.2.2⟩⟩⟩⟩)
abbrev ZlD(a:Arena)(fr:Spot)(t:Tree):Prop:=AW (Z1 Z0y) Try.f42 Z8M [] (ZI (Z9f.can ((a,()),fr,t,())) (Z9f.canX ((a,()),fr,t,())) (Z9f.canL ((a,()),fr,t,()))) (ZK cfg Try.f42.ntmps Try.f42.results.toList (Z9I ((a,()),fr,t,())) (ZdZ ((a,()),fr,t,())) (Z6r ((a,()),fr,t,())))
theorem Zk0(c59:CT 59 Z60)(ZfN:CT 60 Z3h)(c22:CT 22 Jk)(c43:CT 43 Z2W)(c44:CT 44 YO)(hb:∀ (a:Arena) (fr:Spot) (t:Tree) (_:Unit),Zc5 ((a,()),fr,t,())->ZlD a fr t):CT 42 Z8k:=
 Contract.passing <| Ze (l:=[(59,Z60),(60,Z3h),(22,Jk),(43,Z2W),(44,YO)]) Zf rfl (⟨c59,ZfN,c22,c43,c44,trivial⟩) Z8M Try.func42 rfl rfl 3 (fun _=> rfl) (by decide) (fun ⟨⟨a,_⟩,fr,t,_⟩=> hb a fr t ())
def Jn(N:Nat):List (FuncId × Fs U):=(23,(Ys Z9f (fun a=> [Z4X a,ZeN a < N]) Z9I ZdZ Z6r).passing [0]) ::(45,(Ys Z9f (fun a=> [Z3r a,ZaZ a < N]) Z7v ZdZ Z47).passing [0]) ::(41,(Ys Z9f (fun a=> [Z7J a,ZeL a < N]) Z9I ZdZ Z6r).passing [0]) ::[(22,Jk),(43,Z2W),(44,YO),(46,Z2V),(42,Z8k),(74,Z8l),(75,Z0q)]
def Zb0:Zc U:=fun i=> match i with
 | 0=> ([(0,[.ar]),(3,[]),(4,[]),(5,[])],[(.loc 3,[.ar]),(.loc 4,[]),(.loc 5,[])])
 | 1=> ([(0,[.ar]),(3,[]),(4,[]),(5,[]),(7,[])],[(.loc 3,[.ar]),(.loc 4,[]),(.loc 5,[]),(.loc 7,[])])
 | 2=> ([(0,[.ar]),(3,[]),(4,[]),(5,[]),(7,[]),(8,[])],[(.loc 3,[.ar]),(.loc 4,[]),(.loc 5,[]),(.loc 7,[])])
 | 3=> ([(0,[.ar]),(6,[])],[])
 | 4=> ([(0,[.ar]),(3,[]),(4,[]),(5,[]),(7,[]),(8,[]),(22,[])],[(.loc 3,[.ar]),(.loc 4,[]),(.loc 5,[]),(.loc 7,[])])
 | 5=> ([(0,[.ar]),(6,[])],[])
 | 6=> ([(0,[.ar]),(3,[]),(4,[]),(5,[]),(7,[]),(8,[]),(26,[])],[(.loc 3,[.ar]),(.loc 4,[]),(.loc 5,[]),(.loc 7,[])])
 | 7=> ([(0,[.ar]),(3,[]),(4,[]),(5,[]),(7,[]),(8,[])],[(.loc 3,[.ar]),(.loc 4,[]),(.loc 5,[]),(.loc 7,[])])
 | 8=> ([(0,[.ar]),(3,[]),(4,[]),(5,[]),(7,[]),(8,[])],[(.loc 3,[.ar]),(.loc 4,[]),(.loc 5,[]),(.loc 7,[])])
 | 9=> ([(0,[.ar]),(3,[]),(4,[]),(5,[]),(7,[]),(8,[]),(42,[])],[(.loc 3,[.ar]),(.loc 4,[]),(.loc 5,[]),(.loc 7,[])])
 | 10=> ([(0,[.ar]),(3,[]),(4,[]),(5,[]),(7,[]),(8,[])],[(.loc 3,[.ar]),(.loc 4,[]),(.loc 5,[]),(.loc 7,[])])
 | 11=> ([(0,[.ar]),(3,[]),(4,[]),(5,[]),(47,[])],[(.loc 3,[.ar]),(.loc 4,[]),(.loc 5,[])])
 | 12=> ([(0,[.ar]),(6,[])],[])
 | 13=> ([(0,[.ar]),(3,[]),(4,[]),(5,[]),(7,[]),(9,[]),(10,[])],[(.loc 3,[.ar]),(.loc 4,[]),(.loc 5,[]),(.loc 7,[]),(.loc 9,[])])
 | 14=> ([(0,[.ar]),(6,[])],[])
 | _=> ([],[])
def Z29(a:Arena)(fr:Spot)(t:Tree)(x8 ml7_0 ml7_2 ml7_3 ml7_4 ml7_5:Int):LSt U:=(⟨[(0,.agg [.mref (.A)]),pL 3,pL 4,pL 5,pL 7,pI 8 x8],[(.loc 3,[.mref (.A)]),(.loc 4,(enc .spot fr)),(.loc 5,(enc .tree t)),(.loc 7,[ci ml7_0,ci 0,ci ml7_2,ci ml7_3,ci ml7_4,ci ml7_5,ci 0,.bool false])],[(.A,LC.mk (U:=U) .arena ([a]) 0)]⟩:LSt U)
abbrev W23(N:Nat)(a:Arena)(fr:Spot)(t:Tree)(Q:QT):=AW (Z1 (Jn N)) Try.f23 Zb0 [] (⟨[(0,.agg [.mref (.A)]),(1,.agg (enc .spot fr)),(2,.agg (enc .tree t))],[],[(.A,LC.mk (U:=U) .arena ([a]) 0)]⟩:LSt U) Q
abbrev ZcG(N:Nat):=awp cfg (Z1 (Jn N)) (ZA cfg (Z1 (Jn N))) Try.f23.ntmps Zb0
theorem ZnA(N:Nat)(a:Arena)(fr:Spot)(t:Tree)(Q:QT)(h:((t.kind==0)=true->Q .ret (⟨[(0,.agg [.mref (.A)]),pB 6 true],[],[(.A,LC.mk (U:=U) .arena ([a]) 0)]⟩:LSt U))/\((t.kind==0)=false->((t.kind==1)=true->(InR (((t.kids.length:Int):Int)+(t.words.length:Int)))/\(AW (Z1 (Jn N)) Try.f23 Zb0 [1,1,1,1] (Z29 a fr t (((t.kids.length:Int):Int)+(t.words.length:Int)) 1 (t.words.length:Int) (t.kids.length:Int) 0 0) Q))/\((t.kind==1)=false->((t.kind==8)=true->AW (Z1 (Jn N)) Try.f23 Zb0 [1,1,1,1] (Z29 a fr t (t.kids.length:Int) 2 0 0 6 (t.kids.length:Int)) Q)/\((t.kind==8)=false->((t.kind==9)=true->(Z7J ((a,()),(Spot.mk (Spot.segment fr) (Spot.at_ fr)),(Tree.mk t.kind t.words t.kids),()))/\(ZeL ((a,()),(Spot.mk (Spot.segment fr) (Spot.at_ fr)),(Tree.mk t.kind t.words t.kids),()) < N)/\(Q .ret (⟨[(0,.agg [.mref (.A)]),(6,.c (.bool ((Zx (Tree.mk t.kind t.words t.kids) a (Spot.segment (Spot.mk (Spot.segment fr) (Spot.at_ fr))) (Spot.at_ (Spot.mk (Spot.segment fr) (Spot.at_ fr)))).2)))],[],[(.A,LC.mk (U:=U) .arena ([(Zx (Tree.mk t.kind t.words t.kids) a (Spot.segment (Spot.mk (Spot.segment fr) (Spot.at_ fr))) (Spot.at_ (Spot.mk (Spot.segment fr) (Spot.at_ fr)))).1]) 0)]⟩:LSt U)))/\((t.kind==9)=false->(Zc5 ((a,()),(Spot.mk (Spot.segment fr) (Spot.at_ fr)),(Tree.mk t.kind t.words t.kids),()))/\(Q .ret (⟨[(0,.agg [.mref (.A)]),(6,.c (.bool ((Zx (Tree.mk t.kind t.words t.kids) a (Spot.segment (Spot.mk (Spot.segment fr) (Spot.at_ fr))) (Spot.at_ (Spot.mk (Spot.segment fr) (Spot.at_ fr)))).2)))],[],[(.A,LC.mk (U:=U) .arena ([(Zx (Tree.mk t.kind t.words t.kids) a (Spot.segment (Spot.mk (Spot.segment fr) (Spot.at_ fr))) (Spot.at_ (Spot.mk (Spot.segment fr) (Spot.at_ fr)))).1]) 0)]⟩:LSt U))))))):
  W23 N a fr t Q:=by
 have e_:(W23 N a fr t Q)=(((t.kind==0)=true->(Q .ret (⟨[(0,.agg [.mref (.A)]),pB 6 true],[],[(.A,LC.mk (U:=U) .arena ([a]) 0)]⟩:LSt U)))/\((t.kind==0)=false->(((t.kind==1)=true->((InR ((t.kids.length:Int)+(t.words.length:Int)))/\(ZcG N (cd Try.f23 [1,1,1,1]) (Z29 a fr t ((t.kids.length:Int)+(t.words.length:Int)) 1 (t.words.length:Int) (t.kids.length:Int) 0 0) Q)))/\((t.kind==1)=false->(((t.kind==8)=true->(ZcG N (cd Try.f23 [1,1,1,1]) (Z29 a fr t (t.kids.length:Int) 2 0 0 6 (t.kids.length:Int)) Q))/\((t.kind==8)=false->(((t.kind==9)=true->(Z7J ((a,()),(Spot.mk (Spot.segment fr) (Spot.at_ fr)),(Tree.mk t.kind t.words t.kids),()))/\(ZeL ((a,()),(Spot.mk (Spot.segment fr) (Spot.at_ fr)),(Tree.mk t.kind t.words t.kids),()) < N)/\(Q .ret (⟨[(0,.agg [.mref (.A)]),(6,.c (.bool ((Zx (Tree.mk t.kind t.words t.kids) a (Spot.segment (Spot.mk (Spot.segment fr) (Spot.at_ fr))) (Spot.at_ (Spot.mk (Spot.segment fr) (Spot.at_ fr)))).2)))],[],[(.A,LC.mk (U:=U) .arena ([(Zx (Tree.mk t.kind t.words t.kids) a (Spot.segment (Spot.mk (Spot.segment fr) (Spot.at_ fr))) (Spot.at_ (Spot.mk (Spot.segment fr) (Spot.at_ fr)))).1]) 0)]⟩:LSt U)))/\((t.kind==9)=false->(Zc5 ((a,()),(Spot.mk (Spot.segment fr) (Spot.at_ fr)),(Tree.mk t.kind t.words t.kids),()))/\(Q .ret (⟨[(0,.agg [.mref (.A)]),(6,.c (.bool ((Zx (Tree.mk t.kind t.words t.kids) a (Spot.segment (Spot.mk (Spot.segment fr) (Spot.at_ fr))) (Spot.at_ (Spot.mk (Spot.segment fr) (Spot.at_ fr)))).2)))],[],[(.A,LC.mk (U:=U) .arena ([(Zx (Tree.mk t.kind t.words t.kids) a (Spot.segment (Spot.mk (Spot.segment fr) (Spot.at_ fr))) (Spot.at_ (Spot.mk (Spot.segment fr) (Spot.at_ fr)))).1]) 0)]⟩:LSt U)))))))))):=by kernel_rfl
 exact e_.mpr ⟨fun c_2=> (h.1 c_2),fun c_2=> ⟨fun c_3=> ⟨((h.2 c_2).1 c_3).1,((h.2 c_2).1 c_3).2⟩,fun c_3=> ⟨fun c_4=> (((h.2 c_2).2 c_3).1 c_4),fun c_4=> ⟨fun c_5=> ⟨((((h.2 c_2).2 c_3).2 c_4).1 c_5).1,((((h.2 c_2).2 c_3).2 c_4).1 c_5).2.1,((((h.2 c_2).2 c_3).2 c_4).1 c_5).2.2⟩,fun c_5=> ⟨((((h.2 c_2).2 c_3).2 c_4).2 c_5).1,((((h.2 c_2).2 c_3).2 c_4).2 c_5).2⟩⟩⟩⟩⟩
abbrev Zbx(N:Nat)(a:Arena)(fr:Spot)(t:Tree)(x8 ml7_0 ml7_2 ml7_3 ml7_4 ml7_5:Int)(Q:QT):=AW (Z1 (Jn N)) Try.f23 Zb0 [1,1,1,1] (Z29 a fr t x8 ml7_0 ml7_2 ml7_3 ml7_4 ml7_5) Q
theorem Zh3(N:Nat)(a:Arena)(fr:Spot)(t:Tree)(x8 ml7_0 ml7_2 ml7_3 ml7_4 ml7_5:Int)(Q:QT)(h:∀ y_1,y_1=t->∀ y_2,y_2=fr->∀ y_3,y_3=(Spot.mk (if Z0 a x8 then giveS a x8 else 0) (if Z0 a x8 then giveT a x8 else 0))->∀ y_4,y_4=y_3->∀ y_5,y_5=(Spot.mk (Spot.segment y_4) (Spot.at_ y_4+(t.words.length:Int)))->∀ y_6,y_6=(Zu (Z5 a x8) (Spot.segment y_2) (Spot.at_ y_2) (Spot.segment y_4) (Spot.at_ y_4) (kdP (Ptr.mk ml7_0 0 ml7_2 ml7_3 ml7_4 ml7_5 0 false)) (upP (Ptr.mk ml7_0 0 ml7_2 ml7_3 ml7_4 ml7_5 0 false)))->∀ y_7,y_7=y_5->∀ y_8,y_8=(Zk t.words (bif (Z0 a x8) then (y_6.1) else (Z5 a x8)) (Spot.segment y_4) (Spot.at_ y_4))->∀ y_9,y_9=(ZL y_1.kids (bif (bif (Z0 a x8) then (y_6.2) else false) then y_8 else (bif (Z0 a x8) then (y_6.1) else (Z5 a x8))) (Spot.segment y_7) (Spot.at_ y_7))->(Z1j ((a,()),x8,()))/\(((Z0 a x8)=true->Z3s (((Z5 a x8),()),y_2,y_4,(Ptr.mk ml7_0 0 ml7_2 ml7_3 ml7_4 ml7_5 0 false),()))/\((bif (Z0 a x8) then (y_6.2) else false)=true->Jb (((bif (Z0 a x8) then (y_6.1) else (Z5 a x8)),()),y_4,t.words,()))/\((bif (bif (Z0 a x8) then (y_6.2) else false) then true else false)=true->Z1i (y_4,(t.words.length:Int),()))/\((bif (bif (Z0 a x8) then (y_6.2) else false) then true else false)=true->Z3r (((bif (bif (Z0 a x8) then (y_6.2) else false) then y_8 else (bif (Z0 a x8) then (y_6.1) else (Z5 a x8))),()),y_7,y_1,()))/\((bif (bif (Z0 a x8) then (y_6.2) else false) then true else false)=true->ZaZ (((bif (bif (Z0 a x8) then (y_6.2) else false) then y_8 else (bif (Z0 a x8) then (y_6.1) else (Z5 a x8))),()),y_7,y_1,()) < N)/\(Q .ret (⟨[(0,.agg [.mref (.A)]),(6,.c (.bool (bif (bif (bif (Z0 a x8) then (y_6.2) else false) then true else false) then (y_9.2) else false)))],[],[(.A,LC.mk (U:=U) .arena ([bif (bif (bif (Z0 a x8) then (y_6.2) else false) then true else false) then (y_9.1) else (bif (bif (Z0 a x8) then (y_6.2) else false) then y_8 else (bif (Z0 a x8) then (y_6.1) else (Z5 a x8)))]) 0)]⟩:LSt U)))):
  Zbx N a fr t x8 ml7_0 ml7_2 ml7_3 ml7_4 ml7_5 Q:=by
 have e_:(Zbx N a fr t x8 ml7_0 ml7_2 ml7_3 ml7_4 ml7_5 Q)=(let y_1:=(YY t);let y_2:=(Yt fr);let y_3:=(Spot.mk (if Z0 a x8 then giveS a x8 else 0) (if Z0 a x8 then giveT a x8 else 0));let y_4:=(Yt y_3);let y_5:=(Spot.mk (Spot.segment y_4) (Spot.at_ y_4+(t.words.length:Int)));let y_6:=(Zu (Z5 a x8) (Spot.segment y_2) (Spot.at_ y_2) (Spot.segment y_4) (Spot.at_ y_4) (kdP (Ptr.mk ml7_0 0 ml7_2 ml7_3 ml7_4 ml7_5 0 false)) (upP (Ptr.mk ml7_0 0 ml7_2 ml7_3 ml7_4 ml7_5 0 false)));let y_7:=(Yt y_5);let y_8:=(Zk t.words (bif (Z0 a x8) then (y_6.1) else (Z5 a x8)) (Spot.segment y_4) (Spot.at_ y_4));let y_9:=(ZL y_1.kids (bif (bif (Z0 a x8) then (y_6.2) else false) then y_8 else (bif (Z0 a x8) then (y_6.1) else (Z5 a x8))) (Spot.segment y_7) (Spot.at_ y_7));let zz1:=(bif (Z0 a x8) then (y_6.1) else (Z5 a x8));let zz0:=(bif (Z0 a x8) then (y_6.2) else false);(Z1j ((a,()),x8,()))/\((Tr ((Z0 a x8)=true))/\(Tr ((Z0 a x8)=true))/\(Tr ((Z0 a x8)=true))/\(Tr ((Z0 a x8)=true))/\((Z0 a x8)=true->Z3s (((Z5 a x8),()),y_2,y_4,(Ptr.mk ml7_0 0 ml7_2 ml7_3 ml7_4 ml7_5 0 false),()))/\(Tr ((Z0 a x8)=true))/\(Tr (zz0=true))/\(Tr (zz0=true))/\(Tr (zz0=true))/\(Tr (zz0=true))/\(zz0=true->Jb ((zz1,()),y_4,t.words,()))/\(Tr (zz0=true))/\(Tr ((bif zz0 then true else false)=true))/\(Tr ((bif zz0 then true else false)=true))/\(Tr ((bif zz0 then true else false)=true))/\(Tr ((bif zz0 then true else false)=true))/\((bif zz0 then true else false)=true->Z1i (y_4,(t.words.length:Int),()))/\(Tr ((bif zz0 then true else false)=true))/\(Tr ((bif zz0 then true else false)=true))/\(Tr ((bif zz0 then true else false)=true))/\((bif zz0 then true else false)=true->Z3r (((bif zz0 then y_8 else zz1),()),y_7,y_1,()))/\((bif zz0 then true else false)=true->ZaZ (((bif zz0 then y_8 else zz1),()),y_7,y_1,()) < N)/\(Tr ((bif zz0 then true else false)=true))/\(Q .ret (⟨[(0,.agg [.mref (.A)]),pB 6 (bif (bif zz0 then true else false) then (y_9.2) else false)],[],[(.A,LC.mk (U:=U) .arena ([bif (bif zz0 then true else false) then (y_9.1) else (bif zz0 then y_8 else zz1)]) 0)]⟩:LSt U)))):=by kernel_rfl
 exact e_.mpr (by intro y_1 y_2 y_3 y_4 y_5 y_6 y_7 y_8 y_9;have hh:=h y_1 (ZX _) y_2 (ZH _) y_3 rfl y_4 (ZH _) y_5 rfl y_6 rfl y_7 (ZH _) y_8 rfl y_9 rfl;exact ⟨hh.1,⟨id,id,id,id,hh.2.1,(by generalize (Z0 a x8)=b0;revert b0;decide),id,id,id,id,hh.2.2.1,(by generalize (y_6.2)=b0;generalize (Z0 a x8)=b1;revert b0 b1;decide),id,id,id,id,hh.2.2.2.1,id,id,id,hh.2.2.2.2.1,hh.2.2.2.2.2.1,(by generalize (y_6.2)=b0;generalize (Z0 a x8)=b1;revert b0 b1;decide),hh.2.2.2.2.2.2⟩⟩)
abbrev ZlQ(N:Nat)(a:Arena)(fr:Spot)(t:Tree):Prop:=AW (Z1 (Jn N)) Try.f23 Zb0 [] (ZI (Z9f.can ((a,()),fr,t,())) (Z9f.canX ((a,()),fr,t,())) (Z9f.canL ((a,()),fr,t,()))) (ZK cfg Try.f23.ntmps Try.f23.results.toList (Z9I ((a,()),fr,t,())) (ZdZ ((a,()),fr,t,())) (Z6r ((a,()),fr,t,())))
abbrev ZmF:Prop:=∀ (N:Nat) (a:Arena) (fr:Spot) (t:Tree) (_:Unit),Z4X ((a,()),fr,t,())->ZeN ((a,()),fr,t,()) < N+1->ZlQ N a fr t
def Z0w(N:Nat):List (FuncId × Fs U):=Jn N
def Z8K:Zc U:=fun i=> match i with
 | 0=> ([(0,[.ar]),(3,[]),(4,[]),(5,[])],[(.loc 3,[.ar]),(.loc 4,[]),(.loc 5,[])])
 | 1=> ([(0,[.ar]),(3,[]),(4,[]),(10,[]),(11,[]),(12,[])],[(.loc 3,[.ar]),(.loc 4,[])])
 | 2=> ([(0,[.ar]),(3,[]),(4,[]),(10,[]),(11,[]),(12,[]),(13,[])],[(.loc 3,[.ar]),(.loc 4,[])])
 | 3=> ([(0,[.ar]),(3,[]),(4,[]),(7,[]),(8,[]),(10,[]),(11,[]),(12,[])],[(.loc 3,[.ar]),(.loc 4,[]),(.loc 8,[])])
 | 4=> ([(0,[.ar]),(3,[]),(4,[]),(10,[]),(11,[]),(12,[]),(23,[])],[(.loc 3,[.ar]),(.loc 4,[])])
 | 5=> ([(0,[.ar]),(6,[])],[])
 | 6=> ([(0,[.ar]),(3,[]),(4,[]),(10,[]),(11,[]),(12,[])],[(.loc 3,[.ar]),(.loc 4,[])])
 | 7=> ([(0,[.ar]),(6,[])],[])
 | _=> ([],[])
def Z0J(a:Arena)(fr:Spot)(t:Tree)(x12:Int)(rA:Arena):LSt U:=(⟨[(0,.agg [.mref (.A)]),pL 3,pL 4,(10,.c (sU .tree t.kids .unk)),pI 11 (t.kids.length:Int),pI 12 x12],[(.loc 3,[.mref (.A)]),(.loc 4,(enc .spot fr))],[(.A,LC.mk (U:=U) .arena ([rA]) 0)]⟩:LSt U)
abbrev W45(N:Nat)(a:Arena)(fr:Spot)(t:Tree)(Q:QT):=AW (Z1 (Z0w N)) Try.f45 Z8K [] (⟨[(0,.agg [.mref (.A)]),(1,.agg (enc .spot fr)),(2,.agg (enc .tree t))],[],[(.A,LC.mk (U:=U) .arena ([a]) 0)]⟩:LSt U) Q
abbrev Zi3(N:Nat):=awp cfg (Z1 (Z0w N)) (ZA cfg (Z1 (Z0w N))) Try.f45.ntmps Z8K
abbrev Zhf(N:Nat):=Z6h cfg (Z1 (Z0w N)) (ZA cfg (Z1 (Z0w N))) Try.f45.ntmps Z8K
theorem Znk(N:Nat)(a:Arena)(fr:Spot)(t:Tree)(Q:QT)(h:Zo (AW (Z1 (Z0w N)) Try.f45 Z8K [1,0,1,0,0]) (Z0J a fr t 0 a) (xB 0 (SW (Z1 (Z0w N)) Try.f45 Z8K [1,1] Q))):
  W45 N a fr t Q:=by
 have e_:(W45 N a fr t Q)=(Zo (Zi3 N (cd Try.f45 [1,0,1,0,0])) (Z0J a fr t 0 a) (xB 0 (Zhf N (cd Try.f45 [1,1]) Q))):=by kernel_rfl
 exact e_.mpr h
abbrev Zgu(N:Nat)(a:Arena)(fr:Spot)(t:Tree)(x12:Int)(rA:Arena)(N0:NT)(Q:QT):=AW (Z1 (Z0w N)) Try.f45 Z8K [1,0,1,0,0] (Z0J a fr t x12 rA) (xT N0 (xB 0 (SW (Z1 (Z0w N)) Try.f45 Z8K [1,1] Q)))
theorem ZgP(N:Nat)(a:Arena)(fr:Spot)(t:Tree)(x12:Int)(rA:Arena)(N0:NT)(Q:QT)(h:∀ y_1,y_1=fr->∀ y_2,y_2=(t.kids.getD x12.toNat Tree.nil)->∀ y_3,y_3=y_2->∀ y_4,y_4=(Spot.mk (Spot.segment y_1) (Spot.at_ y_1+x12))->((decide (x12 < (t.kids.length:Int)))=true->((0:Int)<=x12/\x12 < (t.kids.length:Int))/\((Z1i (y_1,x12,()))/\(Z4X ((rA,()),y_4,y_3,()))/\(ZeN ((rA,()),y_4,y_3,()) < N)/\(((!((Zx y_3 rA (Spot.segment y_4) (Spot.at_ y_4)).2))=true->Q .ret (⟨[(0,.agg [.mref (.A)]),pB 6 false],[],[(.A,LC.mk (U:=U) .arena ([(Zx y_3 rA (Spot.segment y_4) (Spot.at_ y_4)).1]) 0)]⟩:LSt U))/\((!((Zx y_3 rA (Spot.segment y_4) (Spot.at_ y_4)).2))=false->(InR (x12+1))/\(N0 (Z0J a fr t (x12+1) ((Zx y_3 rA (Spot.segment y_4) (Spot.at_ y_4)).1)))))))/\((decide (x12 < (t.kids.length:Int)))=false->Q .ret (⟨[(0,.agg [.mref (.A)]),pB 6 true],[],[(.A,LC.mk (U:=U) .arena ([rA]) 0)]⟩:LSt U))):
  Zgu N a fr t x12 rA N0 Q:=by
 have e_:(Zgu N a fr t x12 rA N0 Q)=(let y_1:=(Yt fr);let y_2:=(t.kids.getD x12.toNat Tree.nil);let y_3:=(YY y_2);let y_4:=(Yt (Spot.mk (Spot.segment y_1) (Spot.at_ y_1+x12)));let zz0:=(!((Zx y_3 rA (Spot.segment y_4) (Spot.at_ y_4)).2));(((decide ((x12:Int) < (t.kids.length:Int)))=true->((0:Int)<=x12/\x12 < (t.kids.length:Int))/\((Z1i (y_1,x12,()))/\(Z4X ((rA,()),y_4,y_3,()))/\(ZeN ((rA,()),y_4,y_3,()) < N)/\((zz0=true->(Q .ret (⟨[(0,.agg [.mref (.A)]),pB 6 false],[],[(.A,LC.mk (U:=U) .arena ([(Zx y_3 rA (Spot.segment y_4) (Spot.at_ y_4)).1]) 0)]⟩:LSt U)))/\(zz0=false->(InR ((x12:Int)+1))/\(N0 (Z0J a fr t ((x12:Int)+1) ((Zx y_3 rA (Spot.segment y_4) (Spot.at_ y_4)).1)))))))/\((decide ((x12:Int) < (t.kids.length:Int)))=false->(Q .ret (⟨[(0,.agg [.mref (.A)]),pB 6 true],[],[(.A,LC.mk (U:=U) .arena ([rA]) 0)]⟩:LSt U))))):=by kernel_rfl
 exact e_.mpr (by intro y_1 y_2 y_3 y_4;have hh:=h y_1 (ZH _) y_2 rfl y_3 (ZX _) y_4 (ZH _);exact ⟨fun c_6=> ⟨(hh.1 c_6).1,⟨(hh.1 c_6).2.1,(hh.1 c_6).2.2.1,(hh.1 c_6).2.2.2.1,⟨fun c_7=> ((hh.1 c_6).2.2.2.2.1 c_7),fun c_7=> ⟨((hh.1 c_6).2.2.2.2.2 c_7).1,((hh.1 c_6).2.2.2.2.2 c_7).2⟩⟩⟩⟩,fun c_6=> (hh.2 c_6)⟩)
abbrev ZlA(N:Nat)(a:Arena)(fr:Spot)(t:Tree):Prop:=AW (Z1 (Z0w N)) Try.f45 Z8K [] (ZI (Z9f.can ((a,()),fr,t,())) (Z9f.canX ((a,()),fr,t,())) (Z9f.canL ((a,()),fr,t,()))) (ZK cfg Try.f45.ntmps Try.f45.results.toList (Z7v ((a,()),fr,t,())) (ZdZ ((a,()),fr,t,())) (Z47 ((a,()),fr,t,())))
abbrev ZmC:Prop:=∀ (N:Nat) (a:Arena) (fr:Spot) (t:Tree) (_:Unit),Z3r ((a,()),fr,t,())->ZaZ ((a,()),fr,t,()) < N+1->ZlA N a fr t
def Z8N:Zc U:=fun i=> match i with
 | 0=> ([(0,[.ar]),(3,[]),(4,[]),(5,[])],[(.loc 3,[.ar]),(.loc 4,[]),(.loc 5,[])])
 | 1=> ([(0,[.ar]),(3,[]),(4,[]),(5,[]),(7,[]),(8,[])],[(.loc 3,[.ar]),(.loc 4,[]),(.loc 5,[])])
 | 2=> ([(0,[.ar]),(3,[]),(4,[]),(5,[]),(7,[]),(8,[]),(9,[])],[(.loc 3,[.ar]),(.loc 4,[]),(.loc 5,[])])
 | 3=> ([(0,[.ar]),(3,[]),(4,[]),(5,[]),(7,[]),(9,[]),(10,[])],[(.loc 3,[.ar]),(.loc 4,[]),(.loc 5,[])])
 | 4=> ([(0,[.ar]),(3,[]),(4,[]),(5,[]),(7,[]),(9,[]),(10,[]),(12,[]),(13,[])],[(.loc 3,[.ar]),(.loc 4,[]),(.loc 5,[]),(.loc 12,[])])
 | 5=> ([(0,[.ar]),(3,[]),(5,[]),(7,[]),(9,[]),(12,[]),(68,[])],[(.loc 3,[.ar]),(.loc 5,[]),(.loc 12,[])])
 | 6=> ([(0,[.ar]),(6,[])],[])
 | 7=> ([(0,[.ar]),(3,[]),(7,[]),(9,[]),(12,[]),(70,[]),(71,[]),(72,[])],[(.loc 3,[.ar]),(.loc 12,[])])
 | 8=> ([(0,[.ar]),(3,[]),(7,[]),(9,[]),(12,[]),(70,[]),(71,[]),(72,[]),(73,[])],[(.loc 3,[.ar]),(.loc 12,[])])
 | 9=> ([(0,[.ar]),(3,[]),(7,[]),(9,[]),(12,[]),(14,[]),(15,[]),(70,[]),(71,[]),(72,[])],[(.loc 3,[.ar]),(.loc 12,[]),(.loc 15,[])])
 | 10=> ([(0,[.ar]),(3,[]),(7,[]),(9,[]),(12,[]),(15,[]),(16,[]),(70,[]),(71,[]),(72,[])],[(.loc 3,[.ar]),(.loc 12,[]),(.loc 15,[]),(.loc 16,[])])
 | 11=> ([(0,[.ar]),(3,[]),(7,[]),(9,[]),(12,[]),(70,[]),(71,[]),(72,[]),(97,[])],[(.loc 3,[.ar]),(.loc 12,[])])
 | 12=> ([(0,[.ar]),(6,[])],[])
 | 13=> ([(0,[.ar]),(3,[]),(7,[]),(9,[]),(12,[]),(70,[]),(71,[]),(72,[])],[(.loc 3,[.ar]),(.loc 12,[])])
 | 14=> ([(0,[.ar]),(6,[])],[])
 | _=> ([],[])
def Z0M(a:Arena)(fr:Spot)(t:Tree)(x72:Int)(rA:Arena):LSt U:=(⟨[(0,.agg [.mref (.A)]),pL 3,pI 7 (frW (Tree.kids (Tree.mk t.kind t.words t.kids)):Int),(9,.c (ci (((frW (Tree.kids (Tree.mk t.kind t.words t.kids)):Int):Int)+(frK (Tree.kids (Tree.mk t.kind t.words t.kids)):Int)))),pL 12,(70,.c (sU .tree t.kids .unk)),pI 71 (t.kids.length:Int),pI 72 x72],[(.loc 3,[.mref (.A)]),(.loc 12,(enc .spot (Spot.mk (if Z0 a ((1:Int)+(((t.kids.length:Int):Int)*(((frW (Tree.kids (Tree.mk t.kind t.words t.kids)):Int):Int)+(frK (Tree.kids (Tree.mk t.kind t.words t.kids)):Int)))) then giveS a ((1:Int)+(((t.kids.length:Int):Int)*(((frW (Tree.kids (Tree.mk t.kind t.words t.kids)):Int):Int)+(frK (Tree.kids (Tree.mk t.kind t.words t.kids)):Int)))) else 0) (if Z0 a ((1:Int)+(((t.kids.length:Int):Int)*(((frW (Tree.kids (Tree.mk t.kind t.words t.kids)):Int):Int)+(frK (Tree.kids (Tree.mk t.kind t.words t.kids)):Int)))) then giveT a ((1:Int)+(((t.kids.length:Int):Int)*(((frW (Tree.kids (Tree.mk t.kind t.words t.kids)):Int):Int)+(frK (Tree.kids (Tree.mk t.kind t.words t.kids)):Int)))) else 0))))],[(.A,LC.mk (U:=U) .arena ([rA]) 0)]⟩:LSt U)
abbrev W41(N:Nat)(a:Arena)(fr:Spot)(t:Tree)(Q:QT):=AW (Z1 (Z0w N)) Try.f41 Z8N [] (⟨[(0,.agg [.mref (.A)]),(1,.agg (enc .spot fr)),(2,.agg (enc .tree t))],[],[(.A,LC.mk (U:=U) .arena ([a]) 0)]⟩:LSt U) Q
abbrev Zi6(N:Nat):=awp cfg (Z1 (Z0w N)) (ZA cfg (Z1 (Z0w N))) Try.f41.ntmps Z8N
abbrev Zhi(N:Nat):=Z6h cfg (Z1 (Z0w N)) (ZA cfg (Z1 (Z0w N))) Try.f41.ntmps Z8N
theorem Zno(N:Nat)(a:Arena)(fr:Spot)(t:Tree)(Q:QT)(h:∀ y_1,y_1=t->∀ y_2,y_2=fr->∀ y_3,y_3=(Ptr.mk 1 (t.kids.length:Int) (frW y_1.kids:Int) (frK y_1.kids:Int) 0 0 0 false)->∀ y_4,y_4=(Z5 a ((1:Int)+(((t.kids.length:Int):Int)*(((frW y_1.kids:Int):Int)+(frK y_1.kids:Int)))))->∀ y_5,y_5=(Z0 a ((1:Int)+(((t.kids.length:Int):Int)*(((frW y_1.kids:Int):Int)+(frK y_1.kids:Int)))))->∀ y_6,y_6=(Ptr.mk 2 0 0 0 7 (((t.kids.length:Int):Int)*(((frW y_1.kids:Int):Int)+(frK y_1.kids:Int))) 0 false)->∀ y_7,y_7=(Spot.mk (if Z0 a ((1:Int)+(((t.kids.length:Int):Int)*(((frW y_1.kids:Int):Int)+(frK y_1.kids:Int)))) then giveS a ((1:Int)+(((t.kids.length:Int):Int)*(((frW y_1.kids:Int):Int)+(frK y_1.kids:Int)))) else 0) (if Z0 a ((1:Int)+(((t.kids.length:Int):Int)*(((frW y_1.kids:Int):Int)+(frK y_1.kids:Int)))) then giveT a ((1:Int)+(((t.kids.length:Int):Int)*(((frW y_1.kids:Int):Int)+(frK y_1.kids:Int)))) else 0))->∀ y_8,y_8=y_7->∀ y_9,y_9=(Zu y_4 (Spot.segment y_2) (Spot.at_ y_2) (Spot.segment y_8) (Spot.at_ y_8) (kdP y_6) (upP y_6))->∀ y_10,y_10=(Zk ([Zt y_3]) (bif (!(!y_5)) then (y_9.1) else y_4) (Spot.segment y_8) (Spot.at_ y_8))->(Z7K (y_1,()))/\((InR (((frW y_1.kids:Int):Int)+(frK y_1.kids:Int)))/\((Z0E (y_3,()))/\((InR (((t.kids.length:Int):Int)*(((frW y_1.kids:Int):Int)+(frK y_1.kids:Int))))/\(InR ((1:Int)+(((t.kids.length:Int):Int)*(((frW y_1.kids:Int):Int)+(frK y_1.kids:Int)))))/\(Z1j ((a,()),((1:Int)+(((t.kids.length:Int):Int)*(((frW y_1.kids:Int):Int)+(frK y_1.kids:Int)))),()))/\(((!(!y_5))=true->InR (((t.kids.length:Int):Int)*(((frW y_1.kids:Int):Int)+(frK y_1.kids:Int))))/\((!(!y_5))=true->Z3s ((y_4,()),y_2,y_8,y_6,()))/\((!(bif (!y_5) then true else (!(y_9.2))))=true->Jb (((bif (!(!y_5)) then (y_9.1) else y_4),()),y_8,([Zt y_3]),()))/\(((bif (bif (!y_5) then true else (!(y_9.2))) then true else (!true))=true->Q .ret (⟨[(0,.agg [.mref (.A)]),pB 6 false],[],[(.A,LC.mk (U:=U) .arena ([bif (!(bif (!y_5) then true else (!(y_9.2)))) then y_10 else (bif (!(!y_5)) then (y_9.1) else y_4)]) 0)]⟩:LSt U))/\((bif (bif (!y_5) then true else (!(y_9.2))) then true else (!true))=false->Zo (AW (Z1 (Z0w N)) Try.f41 Z8N [1,1,1,1,1,1,0,1,0,0]) (Z0M a fr t 0 (bif (!(bif (!y_5) then true else (!(y_9.2)))) then y_10 else (bif (!(!y_5)) then (y_9.1) else y_4))) (xB 0 (SW (Z1 (Z0w N)) Try.f41 Z8N [1,1,1,1,1,1,1] Q))))))))):
  W41 N a fr t Q:=by
 have e_:(W41 N a fr t Q)=(let y_1:=(YY t);let y_2:=(Yt fr);let y_3:=(Ptr.mk 1 (t.kids.length:Int) (frW y_1.kids:Int) (frK y_1.kids:Int) 0 0 0 false);let y_4:=(Z5 a ((1:Int)+((t.kids.length:Int)*(((frW y_1.kids:Int):Int)+(frK y_1.kids:Int)))));let y_5:=(Z0 a ((1:Int)+((t.kids.length:Int)*(((frW y_1.kids:Int):Int)+(frK y_1.kids:Int)))));let y_6:=(Ptr.mk 2 0 0 0 7 ((t.kids.length:Int)*(((frW y_1.kids:Int):Int)+(frK y_1.kids:Int))) 0 false);let y_7:=(Spot.mk (if Z0 a ((1:Int)+((t.kids.length:Int)*(((frW y_1.kids:Int):Int)+(frK y_1.kids:Int)))) then giveS a ((1:Int)+((t.kids.length:Int)*(((frW y_1.kids:Int):Int)+(frK y_1.kids:Int)))) else 0) (if Z0 a ((1:Int)+((t.kids.length:Int)*(((frW y_1.kids:Int):Int)+(frK y_1.kids:Int)))) then giveT a ((1:Int)+((t.kids.length:Int)*(((frW y_1.kids:Int):Int)+(frK y_1.kids:Int)))) else 0));let y_8:=(Yt y_7);let y_9:=(Zu y_4 (Spot.segment y_2) (Spot.at_ y_2) (Spot.segment y_8) (Spot.at_ y_8) (kdP y_6) (upP y_6));let y_10:=(Zk ([Zt y_3]) (bif (!(!y_5)) then (y_9.1) else y_4) (Spot.segment y_8) (Spot.at_ y_8));let zz1:=(bif (!(!y_5)) then (y_9.1) else y_4);let zz0:=(bif (!y_5) then true else (!(y_9.2)));((Z7K (y_1,()))/\((InR (((frW y_1.kids:Int):Int)+(frK y_1.kids:Int)))/\((Z0E (y_3,()))/\((InR ((t.kids.length:Int)*(((frW y_1.kids:Int):Int)+(frK y_1.kids:Int))))/\(InR ((1:Int)+((t.kids.length:Int)*(((frW y_1.kids:Int):Int)+(frK y_1.kids:Int)))))/\(Z1j ((a,()),((1:Int)+((t.kids.length:Int)*(((frW y_1.kids:Int):Int)+(frK y_1.kids:Int)))),()))/\(((!(!y_5))=true->(!(!y_5))=true)/\((!(!y_5))=true->(!(!y_5))=true)/\((!(!y_5))=true->(!(!y_5))=true)/\((!(!y_5))=true->(!(!y_5))=true)/\((!(!y_5))=true->InR ((t.kids.length:Int)*(((frW y_1.kids:Int):Int)+(frK y_1.kids:Int))))/\((!(!y_5))=true->(!(!y_5))=true)/\((!(!y_5))=true->(!(!y_5))=true)/\((!(!y_5))=true->(!(!y_5))=true)/\((!(!y_5))=true->(!(!y_5))=true)/\((!(!y_5))=true->(!(!y_5))=true)/\((!(!y_5))=true->Z3s ((y_4,()),y_2,y_8,y_6,()))/\((!(!y_5))=true->(!(!y_5))=true)/\((!y_5)=false->(!(!y_5))=true)/\(Tr ((!zz0)=true))/\(Tr ((!zz0)=true))/\(Tr ((!zz0)=true))/\(Tr ((!zz0)=true))/\((!zz0)=true->Jb ((zz1,()),y_8,([Zt y_3]),()))/\(Tr ((!zz0)=true))/\(zz0=false->(!zz0)=true)/\(((bif zz0 then true else (!true))=true->(Q .ret (⟨[(0,.agg [.mref (.A)]),pB 6 false],[],[(.A,LC.mk (U:=U) .arena ([bif (!zz0) then y_10 else zz1]) 0)]⟩:LSt U)))/\((bif zz0 then true else (!true))=false->(Zo (Zi6 N (cd Try.f41 [1,1,1,1,1,1,0,1,0,0])) (Z0M a fr t 0 (bif (!zz0) then y_10 else zz1)) (xB 0 (Zhi N (cd Try.f41 [1,1,1,1,1,1,1]) Q))))))))))):=by kernel_rfl
 exact e_.mpr (by intro y_1 y_2 y_3 y_4 y_5 y_6 y_7 y_8 y_9 y_10;have hh:=h y_1 (ZX _) y_2 (ZH _) y_3 rfl y_4 rfl y_5 rfl y_6 rfl y_7 rfl y_8 (ZH _) y_9 rfl y_10 rfl;exact ⟨hh.1,⟨hh.2.1,⟨hh.2.2.1,⟨hh.2.2.2.1,hh.2.2.2.2.1,hh.2.2.2.2.2.1,⟨id,id,id,id,hh.2.2.2.2.2.2.1,id,id,id,id,id,hh.2.2.2.2.2.2.2.1,id,(by generalize y_5=b0;revert b0;decide),id,id,id,id,hh.2.2.2.2.2.2.2.2.1,id,(by generalize (y_9.2)=b0;generalize y_5=b1;revert b0 b1;decide),⟨fun c_8=> (hh.2.2.2.2.2.2.2.2.2.1 c_8),fun c_8=> (hh.2.2.2.2.2.2.2.2.2.2 c_8)⟩⟩⟩⟩⟩⟩)
abbrev Zgx(N:Nat)(a:Arena)(fr:Spot)(t:Tree)(x72:Int)(rA:Arena)(N0:NT)(Q:QT):=AW (Z1 (Z0w N)) Try.f41 Z8N [1,1,1,1,1,1,0,1,0,0] (Z0M a fr t x72 rA) (xT N0 (xB 0 (SW (Z1 (Z0w N)) Try.f41 Z8N [1,1,1,1,1,1,1] Q)))
theorem ZgS(N:Nat)(a:Arena)(fr:Spot)(t:Tree)(x72:Int)(rA:Arena)(N0:NT)(Q:QT)(h:∀ y_1,y_1=t->∀ y_2,y_2=(t.kids.getD x72.toNat Tree.nil)->∀ y_3,y_3=y_2->∀ y_4,y_4=(Spot.mk (if Z0 a ((1:Int)+(((t.kids.length:Int):Int)*(((frW y_1.kids:Int):Int)+(frK y_1.kids:Int)))) then giveS a ((1:Int)+(((t.kids.length:Int):Int)*(((frW y_1.kids:Int):Int)+(frK y_1.kids:Int)))) else 0) (if Z0 a ((1:Int)+(((t.kids.length:Int):Int)*(((frW y_1.kids:Int):Int)+(frK y_1.kids:Int)))) then giveT a ((1:Int)+(((t.kids.length:Int):Int)*(((frW y_1.kids:Int):Int)+(frK y_1.kids:Int)))) else 0))->∀ y_5,y_5=y_4->∀ y_6,y_6=(Spot.mk (Spot.segment y_5) (Spot.at_ y_5+((1:Int)+(x72*(((frW y_1.kids:Int):Int)+(frK y_1.kids:Int))))))->∀ y_7,y_7=y_6->∀ y_8,y_8=(Zk y_2.words rA (Spot.segment y_7) (Spot.at_ y_7))->∀ y_9,y_9=(Spot.mk (Spot.segment y_7) (Spot.at_ y_7+(frW y_1.kids:Int)))->∀ y_10,y_10=y_9->∀ y_11,y_11=(ZL y_3.kids y_8 (Spot.segment y_10) (Spot.at_ y_10))->((decide (x72 < (t.kids.length:Int)))=true->((0:Int)<=x72/\x72 < (t.kids.length:Int))/\((InR (x72*(((frW y_1.kids:Int):Int)+(frK y_1.kids:Int))))/\(InR ((1:Int)+(x72*(((frW y_1.kids:Int):Int)+(frK y_1.kids:Int)))))/\(Z1i (y_5,((1:Int)+(x72*(((frW y_1.kids:Int):Int)+(frK y_1.kids:Int)))),()))/\((Jb ((rA,()),y_7,y_2.words,()))/\((!(!true))=true->Z1i (y_7,(frW y_1.kids:Int),()))/\((!(!true))=true->Z3r ((y_8,()),y_10,y_3,()))/\((!(!true))=true->ZaZ ((y_8,()),y_10,y_3,()) < N)/\(((bif (!true) then true else (!(y_11.2)))=true->Q .ret (⟨[(0,.agg [.mref (.A)]),pB 6 false],[],[(.A,LC.mk (U:=U) .arena ([bif (!(!true)) then (y_11.1) else y_8]) 0)]⟩:LSt U))/\((bif (!true) then true else (!(y_11.2)))=false->(InR (x72+1))/\(N0 (Z0M a fr t (x72+1) (bif (!(!true)) then (y_11.1) else y_8))))))))/\((decide (x72 < (t.kids.length:Int)))=false->Q .ret (⟨[(0,.agg [.mref (.A)]),pB 6 true],[],[(.A,LC.mk (U:=U) .arena ([rA]) 0)]⟩:LSt U))):
  Zgx N a fr t x72 rA N0 Q:=by
 have e_:(Zgx N a fr t x72 rA N0 Q)=(let y_1:=(YY t);let y_2:=(t.kids.getD x72.toNat Tree.nil);let y_3:=(YY y_2);let y_4:=(Spot.mk (if Z0 a ((1:Int)+((t.kids.length:Int)*(((frW y_1.kids:Int):Int)+(frK y_1.kids:Int)))) then giveS a ((1:Int)+((t.kids.length:Int)*(((frW y_1.kids:Int):Int)+(frK y_1.kids:Int)))) else 0) (if Z0 a ((1:Int)+((t.kids.length:Int)*(((frW y_1.kids:Int):Int)+(frK y_1.kids:Int)))) then giveT a ((1:Int)+((t.kids.length:Int)*(((frW y_1.kids:Int):Int)+(frK y_1.kids:Int)))) else 0));let y_5:=(Yt y_4);let y_6:=(Spot.mk (Spot.segment y_5) (Spot.at_ y_5+((1:Int)+((x72:Int)*(((frW y_1.kids:Int):Int)+(frK y_1.kids:Int))))));let y_7:=(Yt y_6);let y_8:=(Zk y_2.words rA (Spot.segment y_7) (Spot.at_ y_7));let y_9:=(Spot.mk (Spot.segment y_7) (Spot.at_ y_7+(frW y_1.kids:Int)));let y_10:=(Yt y_9);let y_11:=(ZL y_3.kids y_8 (Spot.segment y_10) (Spot.at_ y_10));(((decide ((x72:Int) < (t.kids.length:Int)))=true->((0:Int)<=x72/\x72 < (t.kids.length:Int))/\((InR ((x72:Int)*(((frW y_1.kids:Int):Int)+(frK y_1.kids:Int))))/\(InR ((1:Int)+((x72:Int)*(((frW y_1.kids:Int):Int)+(frK y_1.kids:Int)))))/\(Z1i (y_5,((1:Int)+((x72:Int)*(((frW y_1.kids:Int):Int)+(frK y_1.kids:Int)))),()))/\((Jb ((rA,()),y_7,y_2.words,()))/\((!(!true))=true->(!(!true))=true)/\((!(!true))=true->(!(!true))=true)/\((!(!true))=true->Z1i (y_7,(frW y_1.kids:Int),()))/\((!(!true))=true->(!(!true))=true)/\((!(!true))=true->(!(!true))=true)/\((!(!true))=true->(!(!true))=true)/\((!(!true))=true->Z3r ((y_8,()),y_10,y_3,()))/\((!(!true))=true->ZaZ ((y_8,()),y_10,y_3,()) < N)/\((!(!true))=true->(!(!true))=true)/\((!true)=false->(!(!true))=true)/\(((bif (!true) then true else (!(y_11.2)))=true->(Q .ret (⟨[(0,.agg [.mref (.A)]),pB 6 false],[],[(.A,LC.mk (U:=U) .arena ([bif (!(!true)) then (y_11.1) else y_8]) 0)]⟩:LSt U)))/\((bif (!true) then true else (!(y_11.2)))=false->(InR ((x72:Int)+1))/\(N0 (Z0M a fr t ((x72:Int)+1) (bif (!(!true)) then (y_11.1) else y_8))))))))/\((decide ((x72:Int) < (t.kids.length:Int)))=false->(Q .ret (⟨[(0,.agg [.mref (.A)]),pB 6 true],[],[(.A,LC.mk (U:=U) .arena ([rA]) 0)]⟩:LSt U))))):=by kernel_rfl
 exact e_.mpr (by intro y_1 y_2 y_3 y_4 y_5 y_6 y_7 y_8 y_9 y_10 y_11;have hh:=h y_1 (ZX _) y_2 rfl y_3 (ZX _) y_4 rfl y_5 (ZH _) y_6 rfl y_7 (ZH _) y_8 rfl y_9 rfl y_10 (ZH _) y_11 rfl;exact ⟨fun c_9=> ⟨(hh.1 c_9).1,⟨(hh.1 c_9).2.1,(hh.1 c_9).2.2.1,(hh.1 c_9).2.2.2.1,⟨(hh.1 c_9).2.2.2.2.1,id,id,(hh.1 c_9).2.2.2.2.2.1,id,id,id,(hh.1 c_9).2.2.2.2.2.2.1,(hh.1 c_9).2.2.2.2.2.2.2.1,id,(by decide),⟨fun c_10=> ((hh.1 c_9).2.2.2.2.2.2.2.2.1 c_10),fun c_10=> ⟨((hh.1 c_9).2.2.2.2.2.2.2.2.2 c_10).1,((hh.1 c_9).2.2.2.2.2.2.2.2.2 c_10).2⟩⟩⟩⟩⟩,fun c_9=> (hh.2 c_9)⟩)
abbrev ZlE(N:Nat)(a:Arena)(fr:Spot)(t:Tree):Prop:=AW (Z1 (Z0w N)) Try.f41 Z8N [] (ZI (Z9f.can ((a,()),fr,t,())) (Z9f.canX ((a,()),fr,t,())) (Z9f.canL ((a,()),fr,t,()))) (ZK cfg Try.f41.ntmps Try.f41.results.toList (Z9I ((a,()),fr,t,())) (ZdZ ((a,()),fr,t,())) (Z6r ((a,()),fr,t,())))
abbrev ZmD:Prop:=∀ (N:Nat) (a:Arena) (fr:Spot) (t:Tree) (_:Unit),Z7J ((a,()),fr,t,())->ZeL ((a,()),fr,t,()) < N+1->ZlE N a fr t
theorem Zhr(c22:CT 22 Jk)(c43:CT 43 Z2W)(c44:CT 44 YO)(c46:CT 46 Z2V)(c42:CT 42 Z8k)(c74:CT 74 Z8l)(c75:CT 75 Z0q)(b23:ZmF)(b45:ZmC)(b41:ZmD):
  CT 23 Z41/\CT 45 ZdK/\CT 41 ZdL:=by
 have h23 : ∃ fn, Try.prog.funcs[(23 : FuncId)]? = some fn ∧ fn.body.isSome = true ∧ (fn.name == "runtime.NumGoroutine") = false := ⟨Try.f23, Try.func23, rfl, rfl⟩
 have h45 : ∃ fn, Try.prog.funcs[(45 : FuncId)]? = some fn ∧ fn.body.isSome = true ∧ (fn.name == "runtime.NumGoroutine") = false := ⟨Try.f45, Try.func45, rfl, rfl⟩
 have h41 : ∃ fn, Try.prog.funcs[(41 : FuncId)]? = some fn ∧ fn.body.isSome = true ∧ (fn.name == "runtime.NumGoroutine") = false := ⟨Try.f41, Try.func41, rfl, rfl⟩
 have key:∀ N,CT 23 (Ys Z9f (fun a=> [Z4X a,ZeN a < N]) Z9I ZdZ Z6r)/\CT 45 (Ys Z9f (fun a=> [Z3r a,ZaZ a < N]) Z7v ZdZ Z47)/\CT 41 (Ys Z9f (fun a=> [Z7J a,ZeL a < N]) Z9I ZdZ Z6r):=by
  intro N
  induction N with
  | zero=> exact ⟨Z0S h23,Z0S h45,Z0S h41⟩
  | succ N ih=>
   have kn:=JI (l:=Jn N) ⟨ih.1,ih.2.1,ih.2.2,c22,c43,c44,c46,c42,c74,c75,trivial⟩
   exact ⟨YA (Γ:=Z1 (Jn N)) Zf rfl kn Zb0 Try.func23 rfl rfl (fun a=> by show 3<=_;decide) (fun ⟨⟨a,_⟩,fr,t,_⟩ h=> b23 N a fr t () h.1 h.2.1),
    YA (Γ:=Z1 (Jn N)) Zf rfl kn Z8K Try.func45 rfl rfl (fun a=> by show 3<=_;decide) (fun ⟨⟨a,_⟩,fr,t,_⟩ h=> b45 N a fr t () h.1 h.2.1),
    YA (Γ:=Z1 (Jn N)) Zf rfl kn Z8N Try.func41 rfl rfl (fun a=> by show 3<=_;decide) (fun ⟨⟨a,_⟩,fr,t,_⟩ h=> b41 N a fr t () h.1 h.2.1)⟩
 exact ⟨Z0T fun N=> (key N).1,Z0T fun N=> (key N).2.1,Z0T fun N=> (key N).2.2⟩
end
end
end Go.AM.Ytcljdbpmjdgooaa
