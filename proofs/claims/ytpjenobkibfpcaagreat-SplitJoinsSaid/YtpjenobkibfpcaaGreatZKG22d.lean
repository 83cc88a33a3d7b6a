import Derived.Test.YtpjenobkibfpcaaGreatZKL22m
import Derived.Test.YtpjenobkibfpcaaGreatZKRB07
import Derived.Test.YtpjenobkibfpcaaGreatZCL25e
set_option linter.unusedSimpArgs false
set_option linter.unusedVariables false
namespace Go.AM.YtpjenobkibfpcaaGreat
open Go.AM Go.Proofs
noncomputable section
def ZtA:ArgL (Int × Unit):=(.cons (Z0h .u8) .nil)
def Zhs(a:Int × Unit):Prop:=0<=a.1/\a.1 < 256
def ZxP(a:Int × Unit):V U:= .c (.int .u64 ((Z2m (a.1).toNat 8:Nat):Int))
def Zbx:Fs U:=fs ZtA (fun a=> [Zhs a]) ZxP
def Zia:Zj U:=lvl [([0],[]),([0,3],[]),([0,3,5],[]),([0,3,5,6],[]),([0,3,4,5],[]),([0,3,4,5,12],[]),([0,3,5],[]),([0,3,5],[]),([2],[])]
def Z5W(m d h:Int):LSt U:=(L2 [(0,.c (.int .u8 m)),(3,.c (.int .u64 d)),pI 5 h] [])
abbrev ZLr(m:Int)(Q:QT):=AW (Z3 Zqg) Tryz.f215 Zia [] (L2 [(0,.c (.int .u8 m))] []) Q
theorem ZIV(m:Int)(Q:QT)(h:Zi (AW (Z3 Zqg) Tryz.f215 Zia [1,1,0,1,0,0]) (Z5W m 0 0) (xB 0 (SW (Z3 Zqg) Tryz.f215 Zia [1,1,1] Q))):
  ZLr m Q:=
 Eq.mpr V6 h
abbrev ZDl(m d h:Int)(N0:NT)(Q:QT):=AW (Z3 Zqg) Tryz.f215 Zia [1,1,0,1,0,0] (Z5W m d h) (xT N0 (xB 0 (SW (Z3 Zqg) Tryz.f215 Zia [1,1,1] Q)))
theorem Zwc(m s d:Int)(N0:NT)(Q:QT)(h:let z1:=IntKind.bits .u8;let z0:=IntKind.bits .u64;iB (decide (d < 8)) (((0:Int)<=d)/\(iB (((IntKind.wrap .u8 (BitVec.ofInt z1 (Int.fdiv m (2 ^ (min d.toNat z1))) &&& BitVec.ofInt z1 1).toNat):Int)==1) ((InR ((8:Int)*d))/\((0:Int)<=((8:Int)*d))/\((InR (d+1))/\(N0 (Z5W m (IntKind.wrap .u64 (BitVec.ofInt z0 s ||| BitVec.ofInt z0 (IntKind.wrap .u64 ((255:Int)*2 ^ (min (Int.toNat ((8:Int)*d)) z0)))).toNat) (d+1))))) ((InR (d+1))/\(N0 (Z5W m s (d+1)))))) (Q .ret (L2 [(2,.c (.int .u64 s))] []))):
  ZDl m s d N0 Q:=
 Eq.mpr V6 h
def ZDN(m:Int):Prop:=AW (Z3 Zqg) Tryz.f215 Zia [] (Zm (ZtA.can (m,())) []) (EQ Tryz.f215 (ZxP (m,())) [])
theorem ZBV(hb:∀ (m:Int) (_:Unit),Zhs (m,())->ZDN m):CT 215 Zbx:=
 Z9 (l:=[]) Zo rfl trivial Zia Tryz.func215 rfl rfl 1 (fun _=> rfl) V3 (fun ⟨m,_⟩=> hb m ())
def Zt1:List (FuncId × Fs U):=[(215,Zbx)]
def Zz6:Zj U:=lvl [([0,1,2],[]),([6],[])]
abbrev ZLw(a b m:Int)(Q:QT):=AW (Z3 Zt1) Tryz.f176 Zz6 [] (L2 [(0,.c (.int .u64 a)),(1,.c (.int .u64 b)),(2,.c (.int .u8 m))] []) Q
theorem ZJk(a b m:Int)(Q:QT)(h:let z0:=IntKind.bits .u64;(Zhs (m,()))/\(Zhs (m,()))/\(Q .ret (L2 [(6,.c (.int .u64 (IntKind.wrap .u64 (BitVec.ofInt z0 (IntKind.wrap .u64 (BitVec.ofInt z0 a &&& ~~~(BitVec.ofInt z0 ((Z2m m.toNat 8:Nat):Int))).toNat) ||| BitVec.ofInt z0 (IntKind.wrap .u64 (BitVec.ofInt z0 b &&& BitVec.ofInt z0 ((Z2m m.toNat 8:Nat):Int)).toNat)).toNat)))] []))):
  ZLw a b m Q:=
 Eq.mpr V6 h
def ZEc(a b m:Int):Prop:=AW (Z3 Zt1) Tryz.f176 Zz6 [] (Zm (Zu3.can (a,b,m,())) []) (EQ Tryz.f176 (Zy6 (a,b,m,())) [])
theorem ZCd(ZH2:CT 215 Zbx)(hb:∀ (a:Int) (b:Int) (m:Int) (_:Unit),Z7Q (a,b,m,())->ZEc a b m):CT 176 Z3k:=
 Z9 (l:=[(215,Zbx)]) Zo rfl (⟨ZH2,trivial⟩) Zz6 Tryz.func176 rfl rfl 3 (fun _=> rfl) V3 (fun ⟨a,b,m,_⟩=> hb a b m ())
end
theorem ZAn:∀ n:Fin 256,∀ i:Fin 8,IntKind.wrap .u8 (BitVec.ofInt (IntKind.bits .u8) (Int.fdiv (n.1:Int) (2 ^ (min (Int.toNat (i.1:Int)) (IntKind.bits .u8)))) &&& BitVec.ofInt (IntKind.bits .u8) 1).toNat=((n.1 / 2 ^ i.1 % 2:Nat):Int):=by decide+kernel
theorem ZBK:∀ n:Fin 256,∀ i:Fin 8,IntKind.wrap .u64 (BitVec.ofInt (IntKind.bits .u64) ((Z2m n.1 i.1:Nat):Int) ||| BitVec.ofInt (IntKind.bits .u64) (IntKind.wrap .u64 (255*2 ^ (min (Int.toNat (8*(i.1:Int))) (IntKind.bits .u64))))).toNat=((Z2m n.1 i.1+255*2 ^ (8*i.1):Nat):Int):=by decide+kernel
theorem ZH2:Contract Tryz.prog cfg 215 Zbx:=by
 refine ZBV ?_
 intro m _ hp
 simp only [Zhs] at hp
 obtain ⟨n,rfl⟩:=X4 hp.1
 have s:n < 256:=V1
 refine ZIV _ _ ?_
 refine Z7 (ι:=Nat) (fun i=> Z5W n ((Z2m n i:Nat):Int) i) (fun i=> i<=8) (fun i=> 8 - i) 0 rfl V1 ?_
 intro i hi
 refine Zwc _ _ _ _ _ ?_
 (simp only [iB,vcS])
 refine ⟨fun hc=> ⟨V1,fun h=> ⟨V5,V1,V5,i+1,?_,V1,V1⟩,fun h=> ⟨V5,i+1,?_,V1,V1⟩⟩,fun hc=> ?_⟩
 .have d:=ZAn ⟨n,s⟩ ⟨i,V1⟩
  have h2:=ZBK ⟨n,s⟩ ⟨i,V1⟩
  simp only at d h2
  rw [d] at h
  rw [h2]
  have e:Z2m n (i+1)=Z2m n i+255*2 ^ (8*i):=by simp only [Z2m];grind
  rw [e]
  try rfl
 .have d:=ZAn ⟨n,s⟩ ⟨i,V1⟩
  simp only at d
  rw [d] at h
  have e:Z2m n (i+1)=Z2m n i:=by simp only [Z2m];rw [Jv];omega
  rw [e]
  try rfl
 .have:i=8:=V1
  subst this
  trivial
theorem Z8W(a:Nat)(h:a < 2 ^ 64):(BitVec.ofInt 64 (a:Int)).toNat=a:=by
 grind
theorem ZvJ:Contract Tryz.prog cfg 176 Z3k:=by
 refine ZCd ZH2 ?_
 intro a b m _ hp
 simp only [Z7Q] at hp
 obtain ⟨⟨a0,a1⟩,⟨b0,b1⟩,m0,m1⟩:=hp
 obtain ⟨x,rfl⟩:=X4 a0
 obtain ⟨y,rfl⟩:=X4 b0
 obtain ⟨n,rfl⟩:=X4 m0
 have hn:n < 256:=V1
 have hx:x < 2 ^ 64:=V1
 have hy:y < 2 ^ 64:=V1
 have h:=ZAZ ⟨n,hn⟩
 have d:=Zr5 ⟨n,hn⟩
 simp only at h d
 rw [<-d] at h
 refine ZJk _ _ _ _ ?_
 refine ⟨⟨m0,m1⟩,⟨m0,m1⟩,YW rfl ?_⟩
 have em:mix x y n=(((x &&& (2 ^ 64 - 1 - Z2m n 8)) ||| (y &&& Z2m n 8):Nat):Int):=by rw [<-ZyI,<-ZyH x y n hn]
 have e1:(BitVec.ofInt 64 (x:Int) &&& ~~~(BitVec.ofInt 64 ((Z2m n 8:Nat):Int))).toNat=x &&& (2 ^ 64 - 1 - Z2m n 8):=by
  rw [BitVec.toNat_and,BitVec.toNat_not,Z8W x hx,Z8W _ h]
 have e2:(BitVec.ofInt 64 (y:Int) &&& BitVec.ofInt 64 ((Z2m n 8:Nat):Int)).toNat=y &&& Z2m n 8:=by
  rw [BitVec.toNat_and,Z8W y hy,Z8W _ h]
 have l1:x &&& (2 ^ 64 - 1 - Z2m n 8) < 2 ^ 64:=Nat.lt_of_le_of_lt Nat.and_le_left hx
 have l2:y &&& Z2m n 8 < 2 ^ 64:=Nat.lt_of_le_of_lt Nat.and_le_left hy
 have l3:(x &&& (2 ^ 64 - 1 - Z2m n 8)) ||| (y &&& Z2m n 8) < 2 ^ 64:=Nat.or_lt_two_pow l1 l2
 have s:IntKind.wrap .u64 ((BitVec.ofInt 64 (IntKind.wrap .u64 ((BitVec.ofInt 64 (x:Int) &&& ~~~(BitVec.ofInt 64 ((Z2m n 8:Nat):Int))).toNat:Int)) ||| BitVec.ofInt 64 (IntKind.wrap .u64 ((BitVec.ofInt 64 (y:Int) &&& BitVec.ofInt 64 ((Z2m n 8:Nat):Int)).toNat:Int))).toNat:Int)=mix x y n:=by
  have w1:∀ k:Nat,k < 2 ^ 64->IntKind.wrap .u64 (k:Int)=k:=fun k hk=> Z7m V1 V1
  grind
 exact s
end Go.AM.YtpjenobkibfpcaaGreat
namespace Go.AM
def wr(n:Int):Int:=IntKind.wrap .i64 n
def Z4o(o:Op):Int:=if o.kind=3 then 1 else wr (o.n+o.l.length)
def ZqI(n:Int):Int:=if 1048576 < n then 1048576 else n
def Z38:List Op->Int->Int
 | [],n=> n
 | o ::r,n=> Z38 r (if o.kind=2 then n else ZqI (wr (n+Z4o o)))
def Z7f:List Op->Int->Int
 | [],n=> n
 | o ::r,n=> Z7f r (if o.kind=1 then n else ZqI (wr (n+Z4o o)))
end Go.AM
namespace Go.AM.YtpjenobkibfpcaaGreat
open Go.AM Go.Proofs
noncomputable section
def ZxZ(a:Edit × Unit):V U:= .tup [(false,[ci (Z38 a.1.ops 0)]),(false,[ci (Z7f a.1.ops 0)])]
def Z8G:Fs U:=fs Zu2 (fun a=> [ZaR a]) ZxZ
def Z1t:Zj U:=lvl [([1],[1]),([1,4,5],[1]),([4,5,10,11,12],[]),([4,5,10,11,12,13],[]),([4,5,7,10,11,12],[7]),([4,5,7,8,10,11,12],[7]),([4,5,7,8,10,11,12,24],[7]),([4,5,7,8,10,11,12,24],[7]),([4,5,7,8,10,11,12,27],[7]),([4,5,7,8,10,11,12,27],[7]),([4,5,8,10,11,12,34],[]),([4,5,10,11,12],[]),([4,5,10,11,12],[]),([2,3],[])]
def Z2G(e:Edit)(h s d:Int):LSt U:=(L2 [pI 4 h,pI 5 s,(10,.c (sU .op e.ops .unk)),pI 11 (e.ops.length:Int),pI 12 d] [])
def Zem(e:Edit)(s x5 d h:Int):LSt U:=(L2 [pI 4 s,pI 5 x5,pL 7,pI 8 h,(10,.c (sU .op e.ops .unk)),pI 11 (e.ops.length:Int),pI 12 d,(24,.c (.bool (((OpOf.kind (e.ops.getD d.toNat Op.nil)):Int)==3)))] [(.loc 7,(enc .op (e.ops.getD d.toNat Op.nil)))])
def Zel(e:Edit)(x5 d h s:Int):LSt U:=(L2 [pI 4 s,pI 5 x5,pL 7,pI 8 h,(10,.c (sU .op e.ops .unk)),pI 11 (e.ops.length:Int),pI 12 d,(27,.c (.bool (((OpOf.kind (e.ops.getD d.toNat Op.nil)):Int) !=2)))] [(.loc 7,(enc .op (e.ops.getD d.toNat Op.nil)))])
abbrev ZLx(e:Edit)(Q:QT):=AW (Z1e Zqg) Tryz.f169 Z1t [] (L2 [(0,.agg (enc .edit e))] []) Q
theorem ZJr(e:Edit)(Q:QT)(h:Zi (AW (Z1e Zqg) Tryz.f169 Z1t [1,1,0,1,0,0]) (Z2G e 0 0 0) (xB 0 (SW (Z1e Zqg) Tryz.f169 Z1t [1,1,1] Q))):
  ZLx e Q:=
 Eq.mpr V6 h
abbrev ZDr(e:Edit)(h s d:Int)(N0:NT)(Q:QT):=AW (Z1e Zqg) Tryz.f169 Z1t [1,1,0,1,0,0] (Z2G e h s d) (xT N0 (xB 0 (SW (Z1e Zqg) Tryz.f169 Z1t [1,1,1] Q)))
theorem ZwC(e:Edit)(s x5 d:Int)(N0:NT)(Q:QT)(h:let z1:=e.ops.getD d.toNat Op.nil;let z0:=xB 1 (SW (Z1e Zqg) Tryz.f169 Z1t [1,1,0,1,0,0,1,1,1] (xT N0 (xB 0 (SW (Z1e Zqg) Tryz.f169 Z1t [1,1,1] Q))));iB (decide (d < (e.ops.length:Int))) (((0:Int)<=d/\d < (e.ops.length:Int))/\(iB (((OpOf.kind z1):Int)==3) (AW (Z1e Zqg) Tryz.f169 Z1t [1,1,0,1,0,0,1,1,0,0,1,1,1] (Zem e s x5 d 1) z0) (AW (Z1e Zqg) Tryz.f169 Z1t [1,1,0,1,0,0,1,1,0,0,1,1,1] (Zem e s x5 d (IntKind.wrap .i64 (((OpOf.n z1):Int)+((OpOf.l z1).length:Int)))) z0))) (Q .ret (L2 [pI 2 s,pI 3 x5] []))):
  ZDr e s x5 d N0 Q:=
 Eq.mpr V6 h
abbrev Zug(e:Edit)(s x5 h d:Int)(N0:NT)(Q:QT):=AW (Z1e Zqg) Tryz.f169 Z1t [1,1,0,1,0,0,1,1,0,0,1,1,1] (Zem e s x5 h d) (xB 1 (SW (Z1e Zqg) Tryz.f169 Z1t [1,1,0,1,0,0,1,1,1] (xT N0 (xB 0 (SW (Z1e Zqg) Tryz.f169 Z1t [1,1,1] Q)))))
theorem ZwE(e:Edit)(x4 x5 s d:Int)(N0:NT)(Q:QT)(h:let z1:=IntKind.wrap .i64 (x4+d);let z0:=xB 1 (SW (Z1e Zqg) Tryz.f169 Z1t [1,1,0,1,0,0,1,1,1] (xT N0 (xB 0 (SW (Z1e Zqg) Tryz.f169 Z1t [1,1,1] Q))));iB (((OpOf.kind (e.ops.getD s.toNat Op.nil)):Int) !=2) (AW (Z1e Zqg) Tryz.f169 Z1t [1,1,0,1,0,0,1,1,0,0,1,1,1,1] (Zel e x5 s d (if (1048576:Int) < z1 then 1048576 else z1)) z0) (AW (Z1e Zqg) Tryz.f169 Z1t [1,1,0,1,0,0,1,1,0,0,1,1,1,1] (Zel e x5 s d x4) z0)):
  Zug e x4 x5 s d N0 Q:=
 Eq.mpr V6 h
abbrev Zuf(e:Edit)(x5 s d h:Int)(N0:NT)(Q:QT):=AW (Z1e Zqg) Tryz.f169 Z1t [1,1,0,1,0,0,1,1,0,0,1,1,1,1] (Zel e x5 s d h) (xB 1 (SW (Z1e Zqg) Tryz.f169 Z1t [1,1,0,1,0,0,1,1,1] (xT N0 (xB 0 (SW (Z1e Zqg) Tryz.f169 Z1t [1,1,1] Q)))))
theorem ZwD(e:Edit)(x5 s aa d:Int)(N0:NT)(Q:QT)(h:let z0:=IntKind.wrap .i64 (x5+aa);iB (((OpOf.kind (e.ops.getD s.toNat Op.nil)):Int) !=1) (N0 (Z2G e d (if (1048576:Int) < z0 then 1048576 else z0) (IntKind.wrap .i64 (s+1)))) (N0 (Z2G e d x5 (IntKind.wrap .i64 (s+1))))):
  Zuf e x5 s aa d N0 Q:=
 Eq.mpr V6 h
def ZEj(e:Edit):Prop:=AW (Z1e Zqg) Tryz.f169 Z1t [] (Zm (Zu2.can (e,())) []) (EQ Tryz.f169 (ZxZ (e,())) [])
theorem ZCk(hb:∀ (e:Edit) (_:Unit),ZaR (e,())->ZEj e):CT 169 Z8G:=
 ZiG (l:=[]) Zo rfl trivial Z1t Tryz.func169 rfl rfl 1 (fun _=> rfl) V3 (fun ⟨e,_⟩=> hb e ())
end
theorem Zw8{n:Int}(h:InR n):wr n=n:=by
 unfold InR at h
 simp [wr,IntKind.wrap,IntKind.signed,IntKind.bits]
 omega
theorem Zq8{l:List Op}{i:Int}(n:Int)(h0:0<=i)(h:i < l.length):Z38 (l.drop i.toNat) n=Z38 (l.drop (i+1).toNat) (if (l.getD i.toNat Op.nil).kind=2 then n else ZqI (wr (n+Z4o (l.getD i.toNat Op.nil)))):=by
 rw [ZS h0 h Op.nil,Z38]
theorem Zq7{l:List Op}{i:Int}(n:Int)(h0:0<=i)(h:i < l.length):Z7f (l.drop i.toNat) n=Z7f (l.drop (i+1).toNat) (if (l.getD i.toNat Op.nil).kind=1 then n else ZqI (wr (n+Z4o (l.getD i.toNat Op.nil)))):=by
 rw [ZS h0 h Op.nil,Z7f]
theorem ZHk:Contract Tryz.prog cfg 169 Z8G:=by
 refine ZCk ?_
 intro e _ hp
 simp only [ZaR] at hp
 have h1:=Yq e
 have h2:=ZQ e.ops
 refine ZJr _ _ ?_
 refine Z7 (ι:=Int × Int × Int) (fun s=> Z2G e s.1 s.2.1 s.2.2) (fun s=> (0<=s.2.2/\s.2.2<=e.ops.length)/\Z38 (e.ops.drop s.2.2.toNat) s.1=Z38 e.ops 0/\Z7f (e.ops.drop s.2.2.toNat) s.2.1=Z7f e.ops 0) (fun s=> ((e.ops.length:Int) - s.2.2).toNat) (0,0,0) rfl ⟨⟨by simp,by simp⟩,rfl,rfl⟩ ?_
 rintro ⟨n,m,i⟩ ⟨⟨g1,g2⟩,g3,g4⟩
 dsimp only at g1 g2 g3 g4
 refine ZwC _ _ _ _ _ _ ?_
 (simp only [iB,vcS])
 refine ⟨fun hi=> ⟨⟨g1,hi⟩,?_⟩,fun hi=> ?_⟩
 .rw [Zq8 _ g1 hi] at g3
  rw [Zq7 _ g1 hi] at g4
  have hk:IntKind.wrap .i64 (i+1)=i+1:=Zw8 V5
  generalize hy:e.ops.getD i.toNat Op.nil=y at*
  have ae:∀ k:Int,k=Z4o y->∀ (Q':AExit->LSt U->Prop),Zug e n m i k (fun s2=> ∃ j:Int × Int × Int,s2=Z2G e j.1 j.2.1 j.2.2/\((0<=j.2.2/\j.2.2<=e.ops.length)/\Z38 (e.ops.drop j.2.2.toNat) j.1=Z38 e.ops 0/\Z7f (e.ops.drop j.2.2.toNat) j.2.1=Z7f e.ops 0)/\((e.ops.length:Int) - j.2.2).toNat < ((e.ops.length:Int) - i).toNat) Q':=by
   rintro k rfl Q'
   have d:∀ a:Int,a=(if y.kind=2 then n else ZqI (wr (n+Z4o y)))->Zuf e m i (Z4o y) a (fun s2=> ∃ j:Int × Int × Int,s2=Z2G e j.1 j.2.1 j.2.2/\((0<=j.2.2/\j.2.2<=e.ops.length)/\Z38 (e.ops.drop j.2.2.toNat) j.1=Z38 e.ops 0/\Z7f (e.ops.drop j.2.2.toNat) j.2.1=Z7f e.ops 0)/\((e.ops.length:Int) - j.2.2).toNat < ((e.ops.length:Int) - i).toNat) Q':=by
    rintro a ha
    refine ZwD _ _ _ _ _ _ _ ?_
    rw [hy,hk]
    (simp only [iB,vcS])
    rw [<-ha] at g3
    refine ⟨fun h=> ⟨(a,_,i+1),rfl,⟨⟨V4,V4⟩,g3,?_⟩,V4⟩,fun h=> ⟨(a,_,i+1),rfl,⟨⟨V4,V4⟩,g3,?_⟩,V4⟩⟩
    .rw [if_neg h] at g4;exact g4
    .rw [if_pos h] at g4;exact g4
   refine ZwE _ _ _ _ _ _ _ ?_
   rw [hy]
   (simp only [iB,vcS])
   exact ⟨fun h=> d _ (by rw [if_neg h];rfl),fun h=> d _ (by rw [if_pos h])⟩
  exact ⟨fun h=> ae _ (by unfold Z4o;rw [if_pos h]) _,fun h=> ae _ (by unfold Z4o;rw [if_neg h];rfl) _⟩
 .rw [Q6 V1] at g3 g4
  simp only [Z38,Z7f] at g3 g4
  rw [g3,g4]
  exact V2
theorem Zo9:∀ (l:List Op) (n:Int),(∀ o∈l,(0<=o.n/\o.n<=1048576)/\o.l.length<=20000000000)->0<=n->n<=1048576->Z38 l n=Jp l n
 | [],_,_,_,_=> rfl
 | o ::r,n,h,h0,hn=> by
  have ho:=h o (Q1 ..)
  have hl:=Jm o
  have d:Z4o o=Z2 o:=by
   unfold Z4o;rw [hl]
   split
   .try rfl
   .exact Zw8 V5
  have hb:0<=Z2 o/\Z2 o<=60000000000:=by rw [hl];split <;> omega
  simp only [Z38,Jp]
  rw [d,Zw8 V5]
  have e2:(if o.kind=2 then n else ZqI (n+Z2 o))=min (if o.kind=2 then n else n+Z2 o) 1048576:=by
   unfold ZqI;split
   .omega
   .omega
  rw [e2]
  exact Zo9 r _ (fun x s=> h x (Q0 _ s)) V1 V1
noncomputable section
def ZtP:ArgL (List Tree × List Tree × Unit × Unit):=(.cons (aSl .tree) (.cons (aSl .tree) (.cons (aFn 114) .nil)))
def Zhv(a:List Tree × List Tree × Unit × Unit):Prop:=Ze a.1<=1000000000000/\Ze a.2.1<=1000000000000
def ZxX(a:List Tree × List Tree × Unit × Unit):V U:= .c (.bool (eqX (Z8 a.1) (Z8 a.2.1)))
def Z8D:Fs U:=fs ZtP (fun a=> [Zhv a]) ZxX
def Z99:List (FuncId × Fs U):=[(114,Z0i)]
def Zic:Zj U:=lvl [([0,1,2],[]),([0,1,2,14],[]),([6],[]),([1,2,15,16,17],[]),([1,2,15,16,17,18],[]),([1,2,7,8,15,16,17],[8]),([1,2,8,9,15,16,17],[8,9]),([1,2,15,16,17,30],[]),([6],[]),([1,2,15,16,17],[]),([6],[])]
def Z9r(a b:List Tree)(f:Unit)(d:Int):LSt U:=(L2 [(1,.c (sU .tree b .unk)),(2,.fn 114),(15,.c (sU .tree a .unk)),pI 16 (a.length:Int),pI 17 d] [])
abbrev ZLv(a b:List Tree)(f:Unit)(Q:QT):=AW (Z3 Z99) Tryz.f177 Zic [] (L2 [(0,.c (sU .tree a .unk)),(1,.c (sU .tree b .unk)),(2,.fn 114)] []) Q
theorem ZJj(a b:List Tree)(f:Unit)(Q:QT)(h:iB (((a.length:Int):Int) !=(b.length:Int)) (Q .ret (L2 [pB 6 false] [])) (Zi (AW (Z3 Z99) Tryz.f177 Zic [1,1,0,1,0,0]) (Z9r a b f 0) (xB 0 (SW (Z3 Z99) Tryz.f177 Zic [1,1,1] Q)))):
  ZLv a b f Q:=
 Eq.mpr V6 h
abbrev ZDq(a b:List Tree)(f:Unit)(d:Int)(N0:NT)(Q:QT):=AW (Z3 Z99) Tryz.f177 Zic [1,1,0,1,0,0] (Z9r a b f d) (xT N0 (xB 0 (SW (Z3 Z99) Tryz.f177 Zic [1,1,1] Q)))
theorem ZwA(a b:List Tree)(f:Unit)(d:Int)(N0:NT)(Q:QT)(h:let z3:=a.getD d.toNat Tree.nil;let z2:=b.getD d.toNat Tree.nil;let z1:=Tree.mk (Tree.kind z2) (Tree.words z2) (Tree.kids z2);let z0:=Tree.mk (Tree.kind z3) (Tree.words z3) (Tree.kids z3);iB (decide (d < (a.length:Int))) (((0:Int)<=d/\d < (a.length:Int))/\(((0:Int)<=d/\d < (b.length:Int))/\((Z4j (z0,z1,()))/\(iB (!(YM (Z6 z0) (Z6 z1))) (Q .ret (L2 [pB 6 false] [])) ((InR (d+1))/\(N0 (Z9r a b f (d+1)))))))) (Q .ret (L2 [pB 6 true] []))):
  ZDq a b f d N0 Q:=
 Eq.mpr V6 h
def ZEb(a b:List Tree)(f:Unit):Prop:=AW (Z3 Z99) Tryz.f177 Zic [] (Zm (ZtP.can (a,b,f,())) []) (EQ Tryz.f177 (ZxX (a,b,f,())) [])
theorem ZCc(Zmi:CT 114 Z0i)(hb:∀ (a:List Tree) (b:List Tree) (f:Unit) (_:Unit),Zhv (a,b,f,())->ZEb a b f):CT 177 Z8D:=
 Z9 (l:=[(114,Z0i)]) Zo rfl (⟨Zmi,trivial⟩) Zic Tryz.func177 rfl rfl 3 (fun _=> rfl) V3 (fun ⟨a,b,f,_⟩=> hb a b f ())
end
theorem ZHf:Contract Tryz.prog cfg 177 Z8D:=by
 refine ZCc Zmi ?_
 intro a b f _ hp
 simp only [Zhv] at hp
 refine ZJj a b f _ ?_
 (simp only [iB,vcS])
 refine ⟨fun hc=> Zl rfl (Z5m (a:=Z8 a) (b:=Z8 b) (fun h=> hc (by have:=congrArg List.length h;simp [Z8] at this;omega))).symm,fun hc=> ?_⟩
 have hl:a.length=b.length:=V1
 have af:=ZD a
 refine Z7 (ι:=Int) (fun i=> Z9r a b f i) (fun i=> 0<=i/\i<=a.length/\∀ j:Nat,(j:Int) < i->Z6 (a.getD j Tree.nil)=Z6 (b.getD j Tree.nil)) (fun i=> ((a.length:Int) - i).toNat) 0 rfl ⟨V1,V1,V1⟩ ?_
 rintro i ⟨h1,h2,h3⟩
 refine ZwA a b f _ _ _ ?_
 (simp only [iB,vcS])
 (simp only [vE])
 refine ⟨fun hi=> ⟨⟨h1,hi⟩,⟨h1,V1⟩,?_,fun s=> ?_,fun s=> ⟨V5,i+1,rfl,⟨V1,V1,?_⟩,V1⟩⟩,fun hi=> ?_⟩
 .have:=Jb (Zh (l:=a) (i:=i.toNat) V1 Tree.nil)
  have:=Jb (Zh (l:=b) (i:=i.toNat) V1 Tree.nil)
  simp only [Z4j];omega
 .refine Zl rfl (Z5m (a:=Z8 a) (b:=Z8 b) (fun h=> ?_)).symm
  have h5:=Z8i (d:=Tree.nil) h i.toNat
  rw [Jk] at s
  exact s h5
 .intro j hj
  by_cases hj2:(j:Int) < i
  .exact h3 j hj2
  .rw [Yk,show i.toNat=j by omega] at s
   exact s
 .exact Zl rfl (Z07 (a:=Z8 a) (b:=Z8 b).2 (Zfi Tree.nil hl (fun j hj=> h3 j V1))).symm
noncomputable section
def ZbX(a:List Int × Unit):List Int:=a.1
def Z5y:Fs U:=fsL ZAq (fun a=> [Znw a]) .u64 ZbX
def Zhw(a:List Tree × Unit):Prop:=a.1.length<=1000000000000
def ZfW(a:List Tree × Unit):List Tree:=a.1
def Z8E:Fs U:=fsL ZtO (fun a=> [Zhw a]) .tree ZfW
def Zew:ArgL (Edit × Tree × Unit):=(.cons (aEl .edit) (.cons (aEl .tree) .nil))
def Z5F(a:Edit × Tree × Unit):Prop:=(Z0 a.1<=20000000000/\ZX a.1/\∃ d,Z1 a.1 d=true)/\Zq a.2.1+ctE a.1<=200000000000/\rng a.2.1
def Zj0(a:Edit × Tree × Unit):Nat:=2*Z0 a.1+1
def Z7E(a:Edit × Tree × Unit):V U:= .tup [(true,(enc .tree (ZfK a.1 a.2.1))),(false,[.bool ((doE false a.1 a.2.1).isSome)])]
def Zdw:Fs U:=fs Zew (fun a=> [Z5F a]) Z7E
def Z6S(a:Edit × Tree × Unit):Prop:=Edit.kind a.1=2/\(Z0 a.1<=20000000000/\ZX a.1/\∃ d,Z1 a.1 d=true)/\Zq a.2.1+ctE a.1<=200000000000/\rng a.2.1
def Zfb(a:Edit × Tree × Unit):Nat:=2*Z0 a.1
def Z6K(a:Edit × Tree × Unit):V U:= .tup [(true,(enc .tree (YP (Z43 false a.1 a.2.1)))),(false,[.bool ((Z43 false a.1 a.2.1).isSome)])]
def Zrv:Fs U:=fs Zew (fun a=> [Z6S a]) Z6K
def Z6R(a:Edit × Tree × Unit):Prop:=Edit.kind a.1=3/\(Z0 a.1<=20000000000/\ZX a.1/\∃ d,Z1 a.1 d=true)/\Zq a.2.1+ctE a.1<=200000000000/\rng a.2.1
def Z6J(a:Edit × Tree × Unit):V U:= .tup [(true,(enc .tree (ZlE a.1 (Z1u false a.1 a.2.1)))),(false,[.bool ((Z0H (Z1u false a.1 a.2.1)).isSome)])]
def Zru:Fs U:=fs Zew (fun a=> [Z6R a]) Z6J
def Zq4:Zj U:=lvk [([0],[]),([0,4],[]),([(2,[.wr .u64])],[]),([(2,[.wr .u64])],[])]
abbrev ZKG(p:List Nat):=AW (Zij Zqg) Tryz.f117 Zq4 p
theorem ZFR(l:List Int)(Q:QT)(h:(((l=[])->(Q .ret (⟨[(2,.c (.mref (.e 2 0)))],[],[(.e 2 0,LC.mk (U:=U) .u64 [] 0)]⟩:LSt U)))/\(True->((([]:List Int).length+l.length)*8<=140737488355328)/\(Q .ret (⟨[(2,.c (.mref (.e 2 0)))],[],[(.e 2 0,LC.mk (U:=U) .u64 (([]:List Int)++l) (([]:List Int).length))]⟩:LSt U))))):
  ZKG [] (L2 [(0,.c (sU .u64 l .unk))] []) Q:=
 Eq.mpr V6 h
def ZAU(l:List Int):Prop:=AW (Zij Zqg) Tryz.f117 Zq4 [] (Zm (ZAq.can (l,())) []) (Z5p cfg Tryz.f117.ntmps Tryz.f117.results.toList (.c (.mref (.r 0 0))) [] [(.r 0 0,LC.mk (U:=U) .u64 (ZbX (l,())) 0)])
theorem ZyQ(hb:∀ (l:List Int) (_:Unit),Znw (l,())->ZAU l):CT 117 Z5y:=
 Z8t (l:=[]) Zo rfl trivial Zq4 Tryz.func117 rfl rfl 1 (fun _=> rfl) V3 (fun ⟨l,_⟩=> hb l ())
def Zz7:Zj U:=lvk [([0],[]),([0,4],[]),([(2,[.wr .tree])],[]),([(2,[.wr .tree])],[])]
abbrev ZLT(p:List Nat):=AW (Zij Zqg) Tryz.f175 Zz7 p
theorem ZJl(l:List Tree)(Q:QT)(h:(((l=[])->(Q .ret (⟨[(2,.c (.mref (.e 2 0)))],[],[(.e 2 0,LC.mk (U:=U) .tree [] 0)]⟩:LSt U)))/\(True->((([]:List Tree).length+l.length)*56<=140737488355328)/\(Q .ret (⟨[(2,.c (.mref (.e 2 0)))],[],[(.e 2 0,LC.mk (U:=U) .tree (([]:List Tree)++l) (([]:List Tree).length))]⟩:LSt U))))):
  ZLT [] (L2 [(0,.c (sU .tree l .unk))] []) Q:=
 Eq.mpr V6 h
def ZEd(l:List Tree):Prop:=AW (Zij Zqg) Tryz.f175 Zz7 [] (Zm (ZtO.can (l,())) []) (Z5p cfg Tryz.f175.ntmps Tryz.f175.results.toList (.c (.mref (.r 0 0))) [] [(.r 0 0,LC.mk (U:=U) .tree (ZfW (l,())) 0)])
theorem ZCe(hb:∀ (l:List Tree) (_:Unit),Zhw (l,())->ZEd l):CT 175 Z8E:=
 Z8t (l:=[]) Zo rfl trivial Zz7 Tryz.func175 rfl rfl 1 (fun _=> rfl) V3 (fun ⟨l,_⟩=> hb l ())
def Zeb(N:Nat):List (FuncId × Fs U):=(74,fs Zew (fun a=> [Z5F a,Zj0 a < N]) Z7E) ::(115,fs Zew (fun a=> [Z6S a,Zfb a < N]) Z6K) ::(116,fs Zew (fun a=> [Z6R a,Zfb a < N]) Z6J) ::[(114,Z0i),(173,Z3h),(174,Z3g),(177,Z8D),(175,Z8E),(176,Z3k),(117,Z5y)]
def ZGD:Zj U:=lvl [([2,3,4],[2,3,4]),([2,3,4,7],[2,3,4]),([2,3,4,7,8],[2,3,4]),([4,5],[4]),([2,3,4,7,11],[2,3,4]),([4,5],[4]),([2,3,4,7,19],[2,3,4]),([4,5],[4]),([2,3,4,26],[2,3,4]),([4,5],[4]),([4,5],[4])]
abbrev A74(N:Nat)(p:List Nat):=AW (Z3 (Zeb N)) Tryz.f74 ZGD p
theorem ZKQ(N:Nat)(e:Edit)(t:Tree)(Q:QT)(h:∀ s,s=e->∀ d,d=t->∀ aa,aa=(e.old)->(iB (e.kind==0) ((Q .ret (L2 [pL 4,pB 5 true] [(.loc 4,(enc .tree t))]))) ((iB (e.kind==1) ((Z4j (aa,d,()))/\(Q .ret (L2 [pL 4,pB 5 (YM (Z6 aa) (Z6 d))] [(.loc 4,(enc .tree e.new))]))) ((iB (e.kind==2) ((Z6S (s,d,()))/\(Zfb (s,d,()) < N)/\(Q .ret (L2 [pL 4,pB 5 ((Z43 false s d).isSome)] [(.loc 4,(enc .tree (YP (Z43 false s d))))]))) ((iB (e.kind==3) ((Z6R (s,d,()))/\(Zfb (s,d,()) < N)/\(Q .ret (L2 [pL 4,pB 5 ((Z0H (Z1u false s d)).isSome)] [(.loc 4,(enc .tree (ZlE s (Z1u false s d))))]))) ((Q .ret (L2 [pL 4,pB 5 false] [(.loc 4,[ci 0,.nils,.nils])]))))))))))):
  A74 N [] (L2 [(0,.agg (enc .edit e)),(1,.agg (enc .tree t))] []) Q:=
 Eq.mpr V6 (h _ (Z5 _) _ (Zc _) _ (Zc _))
def ZI9(N:Nat)(e:Edit)(t:Tree):Prop:=AW (Z3 (Zeb N)) Tryz.f74 ZGD [] (Zm (Zew.can (e,t,())) []) (EQ Tryz.f74 (Z7E (e,t,())) [])
abbrev ZKA:Prop:=∀ (N:Nat) (e:Edit) (t:Tree) (_:Unit),Z5F (e,t,())->Zj0 (e,t,()) < N+1->ZI9 N e t
def ZsE:Zj U:=lvk [([2,3,4],[2,3,4]),([2,3,4,16],[2,3,4]),([4,5],[4]),([2,3,4,6],[2,3,4,((.loc 6),[.any,.wr .u64,.wr .tree])]),([2,3,4,6,26,27,28],[2,3,4,((.loc 6),[.any,.wr .u64,.wr .tree])]),([2,3,4,6,26,27,28,29],[2,3,4,((.loc 6),[.any,.wr .u64,.wr .tree])]),([2,3,4,6,8,26,27,28],[2,3,4,((.loc 6),[.any,.wr .u64,.wr .tree]),8]),([2,3,4,6,8,9,26,27,28],[2,3,4,((.loc 6),[.any,.wr .u64,.wr .tree]),8]),([2,3,4,6,8,9,26,27,28,42],[2,3,4,((.loc 6),[.any,.wr .u64,.wr .tree]),8]),([4,5],[4]),([2,3,4,6,8,9,26,27,28,42,49],[2,3,4,((.loc 6),[.any,.wr .u64,.wr .tree]),8]),([2,3,4,6,8,9,26,27,28,42],[2,3,4,((.loc 6),[.any,.wr .u64,.wr .tree]),8]),([2,3,4,6,26,27,28],[2,3,4,((.loc 6),[.any,.wr .u64,.wr .tree])]),([2,3,4,6,26,27,28],[2,3,4,((.loc 6),[.any,.wr .u64,.wr .tree])]),([3,4,6,68,69,70],[3,4,((.loc 6),[.any,.wr .u64,.wr .tree])]),([3,4,6,68,69,70,71],[3,4,((.loc 6),[.any,.wr .u64,.wr .tree])]),([3,4,6,11,68,69,70],[3,4,((.loc 6),[.any,.wr .u64,.wr .tree]),11]),([3,4,6,11,12,13,68,69,70],[3,4,((.loc 6),[.any,.wr .u64,.wr .tree]),11,12]),([3,4,6,11,12,68,69,70,85],[3,4,((.loc 6),[.any,.wr .u64,.wr .tree]),11,12]),([4,5],[4]),([3,4,6,11,12,68,69,70,85,92],[3,4,((.loc 6),[.any,.wr .u64,.wr .tree]),11,12]),([3,4,6,11,12,68,69,70,85],[3,4,((.loc 6),[.any,.wr .u64,.wr .tree]),11,12]),([3,4,6,68,69,70],[3,4,((.loc 6),[.any,.wr .u64,.wr .tree])]),([3,4,6,68,69,70],[3,4,((.loc 6),[.any,.wr .u64,.wr .tree])]),([4,5],[4])]
def Z9I(e:Edit)(t:Tree)(h:Int)(d:List Int):LSt U:=(⟨[pL 2,pL 3,pL 4,pL 6,(26,.c (sU .wedit e.words .unk)),pI 27 (e.words.length:Int),pI 28 h],[(.loc 2,(enc .edit e)),(.loc 3,(enc .tree t)),(.loc 4,[ci 0,.nils,.nils]),(.loc 6,[ci 1,.mref (.l 6 1),.mref (.l 6 2)])],[(.l 6 1,LC.mk (U:=U) .u64 d 0),(.l 6 2,LC.mk (U:=U) .tree t.kids 0)]⟩:LSt U)
def Z9H(e:Edit)(t:Tree)(d:Int)(h:List Int):LSt U:=(⟨[pL 2,pL 3,pL 4,pL 6,pL 8,(9,.c (.int .u64 (Ji (Tree.mk t.kind t.words t.kids) (WEdit.at_ (e.words.getD d.toNat (WEdit.mk 0 0 0 0)))))),(26,.c (sU .wedit e.words .unk)),pI 27 (e.words.length:Int),pI 28 d,(42,.c (.bool (((mix 0 (Ji (Tree.mk t.kind t.words t.kids) (WEdit.at_ (e.words.getD d.toNat (WEdit.mk 0 0 0 0)))) (WEdit.mask (e.words.getD d.toNat (WEdit.mk 0 0 0 0)))):Int) !=(WEdit.old (e.words.getD d.toNat (WEdit.mk 0 0 0 0))))))],[(.loc 2,(enc .edit e)),(.loc 3,(enc .tree t)),(.loc 4,[ci 0,.nils,.nils]),(.loc 6,[ci 1,.mref (.l 6 1),.mref (.l 6 2)]),(.loc 8,(enc .wedit (e.words.getD d.toNat (WEdit.mk 0 0 0 0))))],[(.l 6 1,LC.mk (U:=U) .u64 h 0),(.l 6 2,LC.mk (U:=U) .tree t.kids 0)]⟩:LSt U)
def Z9G(e:Edit)(t:Tree)(h:List Int)(s:Int)(d:List Tree):LSt U:=(⟨[pL 3,pL 4,pL 6,(68,.c (sU .kid e.kids .unk)),pI 69 (e.kids.length:Int),pI 70 s],[(.loc 3,(enc .tree t)),(.loc 4,[ci 0,.nils,.nils]),(.loc 6,[ci 1,.mref (.l 6 1),.mref (.l 6 2)])],[(.l 6 1,LC.mk (U:=U) .u64 h 0),(.l 6 2,LC.mk (U:=U) .tree d 0)]⟩:LSt U)
def Z9F(e:Edit)(t:Tree)(s:List Int)(d:Int)(h:List Tree):LSt U:=(⟨[pL 3,pL 4,pL 6,pL 11,pL 12,(68,.c (sU .kid e.kids .unk)),pI 69 (e.kids.length:Int),pI 70 d,(85,.c (.bool (!((doE false (Edit.mk (Edit.kind (KidOf.e (e.kids.getD d.toNat (KidOf.mk 0 Edit.nil)))) (Tree.mk (Tree.kind (Edit.old (KidOf.e (e.kids.getD d.toNat (KidOf.mk 0 Edit.nil))))) (Tree.words (Edit.old (KidOf.e (e.kids.getD d.toNat (KidOf.mk 0 Edit.nil))))) (Tree.kids (Edit.old (KidOf.e (e.kids.getD d.toNat (KidOf.mk 0 Edit.nil)))))) (Tree.mk (Tree.kind (Edit.new (KidOf.e (e.kids.getD d.toNat (KidOf.mk 0 Edit.nil))))) (Tree.words (Edit.new (KidOf.e (e.kids.getD d.toNat (KidOf.mk 0 Edit.nil))))) (Tree.kids (Edit.new (KidOf.e (e.kids.getD d.toNat (KidOf.mk 0 Edit.nil)))))) (Edit.words (KidOf.e (e.kids.getD d.toNat (KidOf.mk 0 Edit.nil)))) (Edit.kids (KidOf.e (e.kids.getD d.toNat (KidOf.mk 0 Edit.nil)))) (Edit.list (KidOf.e (e.kids.getD d.toNat (KidOf.mk 0 Edit.nil)))) (Edit.ops (KidOf.e (e.kids.getD d.toNat (KidOf.mk 0 Edit.nil))))) (Tree.mk (Tree.kind (Z0z (Tree.mk t.kind t.words t.kids) (KidOf.at_ (e.kids.getD d.toNat (KidOf.mk 0 Edit.nil))))) (Tree.words (Z0z (Tree.mk t.kind t.words t.kids) (KidOf.at_ (e.kids.getD d.toNat (KidOf.mk 0 Edit.nil))))) (Tree.kids (Z0z (Tree.mk t.kind t.words t.kids) (KidOf.at_ (e.kids.getD d.toNat (KidOf.mk 0 Edit.nil))))))).isSome))))],[(.loc 3,(enc .tree t)),(.loc 4,[ci 0,.nils,.nils]),(.loc 6,[ci 1,.mref (.l 6 1),.mref (.l 6 2)]),(.loc 11,(enc .kid (e.kids.getD d.toNat (KidOf.mk 0 Edit.nil)))),(.loc 12,(enc .tree (ZfK (Edit.mk (Edit.kind (KidOf.e (e.kids.getD d.toNat (KidOf.mk 0 Edit.nil)))) (Tree.mk (Tree.kind (Edit.old (KidOf.e (e.kids.getD d.toNat (KidOf.mk 0 Edit.nil))))) (Tree.words (Edit.old (KidOf.e (e.kids.getD d.toNat (KidOf.mk 0 Edit.nil))))) (Tree.kids (Edit.old (KidOf.e (e.kids.getD d.toNat (KidOf.mk 0 Edit.nil)))))) (Tree.mk (Tree.kind (Edit.new (KidOf.e (e.kids.getD d.toNat (KidOf.mk 0 Edit.nil))))) (Tree.words (Edit.new (KidOf.e (e.kids.getD d.toNat (KidOf.mk 0 Edit.nil))))) (Tree.kids (Edit.new (KidOf.e (e.kids.getD d.toNat (KidOf.mk 0 Edit.nil)))))) (Edit.words (KidOf.e (e.kids.getD d.toNat (KidOf.mk 0 Edit.nil)))) (Edit.kids (KidOf.e (e.kids.getD d.toNat (KidOf.mk 0 Edit.nil)))) (Edit.list (KidOf.e (e.kids.getD d.toNat (KidOf.mk 0 Edit.nil)))) (Edit.ops (KidOf.e (e.kids.getD d.toNat (KidOf.mk 0 Edit.nil))))) (Tree.mk (Tree.kind (Z0z (Tree.mk t.kind t.words t.kids) (KidOf.at_ (e.kids.getD d.toNat (KidOf.mk 0 Edit.nil))))) (Tree.words (Z0z (Tree.mk t.kind t.words t.kids) (KidOf.at_ (e.kids.getD d.toNat (KidOf.mk 0 Edit.nil))))) (Tree.kids (Z0z (Tree.mk t.kind t.words t.kids) (KidOf.at_ (e.kids.getD d.toNat (KidOf.mk 0 Edit.nil)))))))))],[(.l 6 1,LC.mk (U:=U) .u64 s 0),(.l 6 2,LC.mk (U:=U) .tree h 0)]⟩:LSt U)
abbrev ZmF(N:Nat)(p:List Nat):=AW (Z3 (Zeb N)) Tryz.f115 ZsE p
abbrev Za7(N:Nat)(p:List Nat):=SW (Z3 (Zeb N)) Tryz.f115 ZsE p
theorem ZJN(N:Nat)(e:Edit)(t:Tree)(Q:QT)(h:(iB (t.kind !=1) ((Q .ret (L2 [pL 4,pB 5 false] [(.loc 4,[ci 0,.nils,.nils])]))) ((Znw (t.words,()))/\(Zhw (t.kids,()))/\(Zi (ZmF N [1,1,1,0,1,0,0]) (Z9I e t 0 t.words) (xB 0 (Za7 N [1,1,1,1] Q)))))):
  ZmF N [] (L2 [(0,.agg (enc .edit e)),(1,.agg (enc .tree t))] []) Q:=
 Eq.mpr V6 h
theorem Zx4(N:Nat)(e:Edit)(t:Tree)(aa:Int)(d:List Int)(N0:NT)(Q:QT)(h:∀ ab,ab=t->∀ s,s=(e.words.getD aa.toNat (WEdit.mk 0 0 0 0))->(iB (decide (aa < (e.words.length:Int))) (((0:Int)<=aa/\aa < (e.words.length:Int))/\((ZdQ (ab,s.at_,()))/\((Z7Q (0,(Ji ab s.at_),s.mask,()))/\(iB (((mix 0 (Ji ab s.at_) s.mask):Int) !=s.old) ((Q .ret (L2 [pL 4,pB 5 false] [(.loc 4,[ci 0,.nils,.nils])]))) (Zi (ZmF N [1,1,1,0,1,0,0,1,1,0,0,1,1,1,0,0,0]) (Z9H e t aa d) (xB 2 (Za7 N [1,1,1,0,1,0,0,1,1,0,0,1,1,1,1] (xB 1 (Za7 N [1,1,1,0,1,0,0,1,1,1] (xT N0 (xB 0 (Za7 N [1,1,1,1] Q)))))))))))) ((Zi (ZmF N [1,1,1,1,0,1,0,0]) (Z9G e t d 0 t.kids) (xB 4 (Za7 N [1,1,1,1,1] Q)))))):
  ZmF N [1,1,1,0,1,0,0] (Z9I e t aa d) (xT N0 (xB 0 (Za7 N [1,1,1,1] Q))):=
 Eq.mpr V6 (h _ (Zc _) _ rfl)
theorem Zx3(N:Nat)(e:Edit)(t:Tree)(s:Int)(d:List Int)(N1 N0:NT)(Q:QT)(h:let z0:=e.words.getD s.toNat (WEdit.mk 0 0 0 0);let z1:=Ji (Tree.mk t.kind t.words t.kids) (WEdit.at_ z0);(iB (decide (((d.length:Int):Int)<=(WEdit.at_ z0))) (((d.length+([0]).length)*8<=140737488355328)/\(N1 (Z9H e t s (d++([0]))))) ((Z7Q (z1,(WEdit.new z0),(WEdit.mask z0),()))/\((0:Int)<=(WEdit.at_ z0)/\(WEdit.at_ z0) < (d.length:Int))/\((0:Nat)<=(Int.toNat (WEdit.at_ z0)))/\((InR (s+1))/\(N0 (Z9I e t (s+1) (List.set d (Int.toNat (WEdit.at_ z0)) (mix z1 (WEdit.new z0) (WEdit.mask z0))))))))):
  ZmF N [1,1,1,0,1,0,0,1,1,0,0,1,1,1,0,0,0] (Z9H e t s d) (xT N1 (xB 2 (Za7 N [1,1,1,0,1,0,0,1,1,0,0,1,1,1,1] (xB 1 (Za7 N [1,1,1,0,1,0,0,1,1,1] (xT N0 (xB 0 (Za7 N [1,1,1,1] Q)))))))):=
 Eq.mpr V6 h
theorem Zx2(N:Nat)(e:Edit)(t:Tree)(aa:List Int)(d:Int)(s:List Tree)(N2:NT)(Q:QT)(h:∀ ah,ah=t->∀ af,af=(e.kids.getD d.toNat (KidOf.mk 0 Edit.nil))->∀ ab,ab=(af.e)->∀ ae,ae=(Z0z ah af.at_)->(iB (decide (d < (e.kids.length:Int))) (((0:Int)<=d/\d < (e.kids.length:Int))/\((ZdQ (ah,af.at_,()))/\(Z5F (ab,ae,()))/\(Zj0 (ab,ae,()) < N)/\(iB (!((doE false ab ae).isSome)) ((Q .ret (L2 [pL 4,pB 5 false] [(.loc 4,[ci 0,.nils,.nils])]))) (Zi (ZmF N [1,1,1,1,0,1,0,0,1,1,0,0,1,1,1,0,0,0]) (Z9F e t aa d s) (xB 6 (Za7 N [1,1,1,1,0,1,0,0,1,1,0,0,1,1,1,1] (xB 5 (Za7 N [1,1,1,1,0,1,0,0,1,1,1] (xT N2 (xB 4 (Za7 N [1,1,1,1,1] Q))))))))))) ((Q .ret (L2 [pL 4,pB 5 true] [(.loc 4,[ci 1,sU .u64 aa (.own (.l 4 1)),sU .tree s (.own (.l 4 2))])]))))):
  ZmF N [1,1,1,1,0,1,0,0] (Z9G e t aa d s) (xT N2 (xB 4 (Za7 N [1,1,1,1,1] Q))):=
 Eq.mpr V6 (h _ (Zc _) _ rfl _ (Z5 _) _ (Zc _))
theorem Zx1(N:Nat)(e:Edit)(t:Tree)(aa:List Int)(s:Int)(d:List Tree)(N3 N2:NT)(Q:QT)(h:∀ ae,ae=t->∀ ab,ab=(e.kids.getD s.toNat (KidOf.mk 0 Edit.nil))->∀ af,af=(ab.e)->∀ ah,ah=(Z0z ae ab.at_)->∀ ai,ai=(ZfK af ah)->(iB (decide (((d.length:Int):Int)<=ab.at_)) (((d.length+([(Tree.mk 0 [] [])]).length)*56<=140737488355328)/\(N3 (Z9F e t aa s (d++([(Tree.mk 0 [] [])]))))) (((0:Int)<=ab.at_/\ab.at_ < (d.length:Int))/\((0:Nat)<=(Int.toNat ab.at_))/\((InR (s+1))/\(N2 (Z9G e t aa (s+1) (List.set d (Int.toNat ab.at_) ai))))))):
  ZmF N [1,1,1,1,0,1,0,0,1,1,0,0,1,1,1,0,0,0] (Z9F e t aa s d) (xT N3 (xB 6 (Za7 N [1,1,1,1,0,1,0,0,1,1,0,0,1,1,1,1] (xB 5 (Za7 N [1,1,1,1,0,1,0,0,1,1,1] (xT N2 (xB 4 (Za7 N [1,1,1,1,1] Q)))))))):=
 Eq.mpr V6 (h _ (Zc _) _ rfl _ (Z5 _) _ (Zc _) _ (Zc _))
def ZEF(N:Nat)(e:Edit)(t:Tree):Prop:=AW (Z3 (Zeb N)) Tryz.f115 ZsE [] (Zm (Zew.can (e,t,())) []) (EQ Tryz.f115 (Z6K (e,t,())) [])
abbrev ZFF:Prop:=∀ (N:Nat) (e:Edit) (t:Tree) (_:Unit),Z6S (e,t,())->Zfb (e,t,()) < N+1->ZEF N e t
def ZsD:Zj U:=lvk [([2,3,4],[2,3,4]),([2,3,4,18],[2,3,4]),([4,5],[4]),([2,3,4,6],[2,3,4,6]),([2,4,6,7],[2,4,6]),([4,6,7,26,27,28],[4,((.loc 6),[.any,.any,.own .tree])]),([4,6,7,26,27,28,29],[4,6]),([4,6,7,9,26,27,28],[4,6,9]),([4,6,7,9,10,26,27,28],[4,6,9]),([4,6,7,9,10,26,27,28,35],[4,6,9]),([4,6,7,9,10,26,27,28,35,36],[4,6,9]),([4,6,7,26,27,28,97],[4,6]),([4,6,7,9,10,26,27,28,35,44],[4,6,9]),([4,6,7,9,10,26,27,28,49],[4,6,9]),([4,6,7,9,10,26,27,28,49],[4,6,9]),([4,6,7,9,10,26,27,28,49],[4,6,9]),([4,6,7,9,10,26,27,28,54],[4,6,9]),([4,5],[4]),([4,6,7,9,10,26,27,28],[4,6,9]),([4,6,7,9,11,26,27,28],[4,6,9]),([4,6,7,12,13,26,27,28],[4,6,12]),([4,6,7,12,26,27,28,72],[4,6,12]),([4,5],[4]),([4,6,7,26,27,28,97],[4,6]),([4,6,7,9,11,26,27,28,80],[4,6,9]),([4,6,7,26,27,28,97],[4,6]),([4,6,7,9,11,26,27,28,89],[4,6,9]),([4,6,7,26,27,28,97],[4,6]),([4,5],[4]),([4,6,7,26,27,28],[4,((.loc 6),[.any,.any,.own .tree])]),([4,5],[4])]
def Z2J(e:Edit)(t:Tree)(h:Int)(s d:List Tree):LSt U:=(L2 [pL 4,pL 6,(7,.c (sU .tree s .unk)),(26,.c (sU .op e.ops .unk)),pI 27 (e.ops.length:Int),pI 28 h] [(.loc 4,[ci 0,.nils,.nils]),(.loc 6,[ci t.kind,.nils,sU .tree d (.own (.l 6 2))])])
def Z3W(e:Edit)(t:Tree)(aa:Int)(s d:List Tree)(h:V U):LSt U:=(L2 [pL 4,pL 6,(7,.c (sU .tree s .unk)),(26,.c (sU .op e.ops .unk)),pI 27 (e.ops.length:Int),pI 28 aa,(97,h)] [(.loc 4,[ci 0,.nils,.nils]),(.loc 6,[ci t.kind,.nils,sU .tree d (.own (.l 6 2))])])
def Z9E(e:Edit)(t:Tree)(aa:Int)(x7 s:List Tree)(h:Int)(d:V U):LSt U:=(L2 [pL 4,pL 6,(7,.c (sU .tree x7 .unk)),pL 9,pI 10 h,(26,.c (sU .op e.ops .unk)),pI 27 (e.ops.length:Int),pI 28 aa,(49,d)] [(.loc 4,[ci 0,.nils,.nils]),(.loc 6,[ci t.kind,.nils,sU .tree s (.own (.l 6 2))]),(.loc 9,(enc .op (e.ops.getD aa.toNat Op.nil)))])
abbrev Zez(N:Nat)(p:List Nat):=AW (Z3 (Zeb N)) Tryz.f116 ZsD p
abbrev ZmD(N:Nat)(p:List Nat):=SW (Z3 (Zeb N)) Tryz.f116 ZsD p
theorem ZJM(N:Nat)(e:Edit)(t:Tree)(Q:QT)(h:(iB (t.kind !=e.list) ((Q .ret (L2 [pL 4,pB 5 false] [(.loc 4,[ci 0,.nils,.nils])]))) ((Zi (Zez N [1,1,1,1,0,1,0,0]) (Z2J e t 0 t.kids []) (xB 0 (ZmD N [1,1,1,1,1] Q)))))):
  Zez N [] (L2 [(0,.agg (enc .edit e)),(1,.agg (enc .tree t))] []) Q:=
 Eq.mpr V6 h
theorem ZwZ(N:Nat)(e:Edit)(t:Tree)(aa:Int)(x7 d:List Tree)(N0:NT)(Q:QT)(h:∀ s,s=(e.ops.getD aa.toNat Op.nil)->let z1:=xT N0 (xB 0 (ZmD N [1,1,1,1,1] Q));let z0:=xB 1 (ZmD N [1,1,1,1,0,1,0,0,1,1,1] z1);(iB (decide (aa < (e.ops.length:Int))) (((0:Int)<=aa/\aa < (e.ops.length:Int))/\(iB (s.kind==2) (((d.length+s.l.length)*56<=140737488355328)/\(Zez N [1,1,1,1,0,1,0,0,1,1,1] (Z3W e t aa x7 (d++s.l) .junk) z1)) ((iB (s.kind==1) ((Zez N [1,1,1,1,0,1,0,0,1,1,0,0,1,1,1] (Z9E e t aa x7 d (s.l.length:Int) .junk) z0)) ((iB (s.kind==3) ((Zez N [1,1,1,1,0,1,0,0,1,1,0,0,1,1,1] (Z9E e t aa x7 d 1 (.c (.bool (s.kind==3)))) z0)) (Zez N [1,1,1,1,0,1,0,0,1,1,0,0,1,1,1] (Z9E e t aa x7 d s.n (.c (.bool (s.kind==3)))) z0))))))) ((Q .ret (L2 [pL 4,pB 5 (((x7.length:Int):Int)==0)] [(.loc 4,[ci t.kind,.nils,sU .tree d (.own (.l 4 2))])]))))):
  Zez N [1,1,1,1,0,1,0,0] (Z2J e t aa x7 d) (xT N0 (xB 0 (ZmD N [1,1,1,1,1] Q))):=
 Eq.mpr V6 (h _ rfl)
theorem Zx0(N:Nat)(e:Edit)(t:Tree)(aa:Int)(s d:List Tree)(ab:V U)(N0:NT)(Q:QT)(h:(InR (aa+1))/\(N0 (Z2J e t (aa+1) s d))):
  Zez N [1,1,1,1,0,1,0,0,1,1,1] (Z3W e t aa s d ab) (xT N0 (xB 0 (ZmD N [1,1,1,1,1] Q))):=
 Eq.mpr V6 h
theorem Zgj(N:Nat)(e:Edit)(t:Tree)(ab:Int)(x7 s:List Tree)(d:Int)(aj:V U)(N0:NT)(Q:QT)(h:∀ aa,aa=(e.ops.getD ab.toNat Op.nil)->∀ al,al=(List.getD (List.take d.toNat x7) (Int.toNat 0) Tree.nil)->∀ ae,ae=al->∀ af,af=(aa.e)->∀ ak,ak=(eqX (Z8 aa.l) (Z8 (List.take d.toNat x7)))->∀ ai,ai=(ZfK af ae)->let z3:=List.drop d.toNat x7;let z2:=List.take d.toNat x7;let z1:=xT N0 (xB 0 (ZmD N [1,1,1,1,1] Q));let z0:=(Q .ret (L2 [pL 4,pB 5 false] [(.loc 4,[ci 0,.nils,.nils])]));(iB (decide (((x7.length:Int):Int) < d)) z0 ((((0:Int)<=d/\d<=(x7.length:Int))/\((0:Int)<=d/\d<=(x7.length:Int))/\(iB (aa.kind==0) (((s.length+z2.length)*56<=140737488355328)/\(Zez N [1,1,1,1,0,1,0,0,1,1,1] (Z3W e t ab z3 (s++z2) .junk) z1)) ((iB (aa.kind==1) ((Zhv (aa.l,z2,(),()))/\(iB (!ak) z0 (Zez N [1,1,1,1,0,1,0,0,1,1,1] (Z3W e t ab z3 s (.c (.bool (!ak)))) z1))) (((0:Int)<=0/\0 < (z2.length:Int))/\(Z5F (af,ae,()))/\(Zj0 (af,ae,()) < N)/\(iB (!((doE false af ae).isSome)) z0 (((s.length+([ai]).length)*56<=140737488355328)/\(Zez N [1,1,1,1,0,1,0,0,1,1,1] (Z3W e t ab z3 (s++([ai])) .junk) z1))))))))))):
  Zez N [1,1,1,1,0,1,0,0,1,1,0,0,1,1,1] (Z9E e t ab x7 s d aj) (xB 1 (ZmD N [1,1,1,1,0,1,0,0,1,1,1] (xT N0 (xB 0 (ZmD N [1,1,1,1,1] Q))))):=
 Eq.mpr V6 (h _ rfl _ rfl _ (Zc _) _ (Z5 _) _ rfl _ (Zc _))
def ZEE(N:Nat)(e:Edit)(t:Tree):Prop:=AW (Z3 (Zeb N)) Tryz.f116 ZsD [] (Zm (Zew.can (e,t,())) []) (EQ Tryz.f116 (Z6J (e,t,())) [])
abbrev ZFE:Prop:=∀ (N:Nat) (e:Edit) (t:Tree) (_:Unit),Z6R (e,t,())->Zfb (e,t,()) < N+1->ZEE N e t
theorem ZBO(Zmi:CT 114 Z0i)(ZvL:CT 173 Z3h)(ZvK:CT 174 Z3g)(ZHf:CT 177 Z8D)(ZHg:CT 175 Z8E)(ZvJ:CT 176 Z3k)(ZAk:CT 117 Z5y)(b74:ZKA)(ZHN:ZFF)(ZHM:ZFE):
  CT 74 Zdw/\CT 115 Zrv/\CT 116 Zru:=by
 have ab:FK 74:=⟨Tryz.f74,Tryz.func74,rfl,rfl⟩
 have s:FK 115:=⟨Tryz.f115,Tryz.func115,rfl,rfl⟩
 have d:FK 116:=⟨Tryz.f116,Tryz.func116,rfl,rfl⟩
 have aa:∀ N,CT 74 (fs Zew (fun a=> [Z5F a,Zj0 a < N]) Z7E)/\CT 115 (fs Zew (fun a=> [Z6S a,Zfb a < N]) Z6K)/\CT 116 (fs Zew (fun a=> [Z6R a,Zfb a < N]) Z6J):=by
  intro N
  induction N with
  | zero=> exact ⟨JU ab,JU s,JU d⟩
  | succ N ih=>
   have kn:=Z19 (l:=Zeb N) ⟨ih.1,ih.2.1,ih.2.2,Zmi,ZvL,ZvK,ZHf,ZHg,ZvJ,ZAk,trivial⟩
   exact ⟨ZJ (Γ:=Z3 (Zeb N)) Zo rfl kn ZGD Tryz.func74 rfl rfl (fun a=> by show 2<=_;decide) (fun ⟨e,t,_⟩ h=> b74 N e t () h.1 h.2.1),
    ZJ (Γ:=Z3 (Zeb N)) Zo rfl kn ZsE Tryz.func115 rfl rfl (fun a=> by show 2<=_;decide) (fun ⟨e,t,_⟩ h=> ZHN N e t () h.1 h.2.1),
    ZJ (Γ:=Z3 (Zeb N)) Zo rfl kn ZsD Tryz.func116 rfl rfl (fun a=> by show 2<=_;decide) (fun ⟨e,t,_⟩ h=> ZHM N e t () h.1 h.2.1)⟩
 exact ⟨JV ab fun N=> (aa N).1,JV s fun N=> (aa N).2.1,JV d fun N=> (aa N).2.2⟩
end
noncomputable section
def ZrS(a:Edit × Tree × Unit):V U:= .tup [(true,(enc .tree (YP ((doE false a.1 a.2.1).map Z6)))),(false,[.bool ((doE false a.1 a.2.1).isSome)])]
def Z32:Fs U:=fs Zew (fun a=> [Z5F a]) ZrS
def Zhr(a:Tree × Int × Unit):Prop:=0<=a.2.1
def Z8B:Fs U:=fs ZtT (fun a=> [Zhr a]) Zlf
def Z8A:Fs U:=fs ZtT (fun a=> [Zhr a]) Zle
def Z59(a:Edit × Tree × Unit):V U:= .tup [(true,(enc .tree (YP (doE true a.1 a.2.1)))),(false,[.bool ((doE true a.1 a.2.1).isSome)])]
def Z4H:Fs U:=fs Zew (fun a=> [Z5F a]) Z59
def Z58(a:Edit × Tree × Unit):V U:= .tup [(true,(enc .tree (YP (Z43 true a.1 a.2.1)))),(false,[.bool ((Z43 true a.1 a.2.1).isSome)])]
def Zro:Fs U:=fs Zew (fun a=> [Z6S a]) Z58
def Z6F(a:Edit × Tree × Unit):V U:= .tup [(true,(enc .tree (ZlE a.1 (Z1u true a.1 a.2.1)))),(false,[.bool ((Z0H (Z1u true a.1 a.2.1)).isSome)])]
def Zrn:Fs U:=fs Zew (fun a=> [Z6R a]) Z6F
def ZzJ:List (FuncId × Fs U):=[(75,Z1g),(74,Zdw)]
def ZGJ:Zj U:=lvl [([2,3,4],[2,3,4]),([4,6,7],[4,6]),([4,6,15],[4,6]),([4,5],[4]),([4,5],[4])]
abbrev A25(p:List Nat):=AW (Z3 ZzJ) Tryz.f25 ZGJ p
theorem ZL5(e:Edit)(t:Tree)(Q:QT)(h:∀ s,s=e->∀ d,d=t->∀ aa,aa=(ZfK s d)->((Z5F (s,d,()))/\(iB (!((doE false s d).isSome)) ((Q .ret (L2 [pL 4,pB 5 false] [(.loc 4,[ci 0,.nils,.nils])]))) ((Z0W (aa,()))/\(Q .ret (L2 [pL 4,pB 5 true] [(.loc 4,(enc .tree (Z6 aa)))])))))):
  A25 [] (L2 [(0,.agg (enc .edit e)),(1,.agg (enc .tree t))] []) Q:=
 Eq.mpr V6 (h _ (Z5 _) _ (Zc _) _ (Zc _))
def ZIo(e:Edit)(t:Tree):Prop:=AW (Z3 ZzJ) Tryz.f25 ZGJ [] (Zm (Zew.can (e,t,())) []) (EQ Tryz.f25 (ZrS (e,t,())) [])
theorem ZGs(c75:CT 75 Z1g)(c74:CT 74 Zdw)(hb:∀ (e:Edit) (t:Tree) (_:Unit),Z5F (e,t,())->ZIo e t):CT 25 Z32:=
 Z9 (l:=[(75,Z1g),(74,Zdw)]) Zo rfl (⟨c75,c74,trivial⟩) ZGJ Tryz.func25 rfl rfl 2 (fun _=> rfl) V3 (fun ⟨e,t,_⟩=> hb e t ())
def ZyW:Zj U:=lvl [([1,2],[2]),([1,2,9],[2]),([4],[]),([4],[])]
abbrev ZLL(p:List Nat):=AW (Z3 Zqg) Tryz.f222 ZyW p
theorem ZIU(t:Tree)(i:Int)(Q:QT)(h:(iB (decide (i < (t.words.length:Int))) (((0:Int)<=i/\i < (t.words.length:Int))/\(Q .ret (L2 [(4,.c (.int .u64 (t.words.getD i.toNat (0:Int))))] []))) ((Q .ret (L2 [(4,.c (.int .u64 0))] []))))):
  ZLL [] (L2 [(0,.agg (enc .tree t)),pI 1 i] []) Q:=
 Eq.mpr V6 h
def ZDM(t:Tree)(i:Int):Prop:=AW (Z3 Zqg) Tryz.f222 ZyW [] (Zm (ZtT.can (t,i,())) []) (EQ Tryz.f222 (Zlf (t,i,())) [])
theorem ZBU(hb:∀ (t:Tree) (i:Int) (_:Unit),Zhr (t,i,())->ZDM t i):CT 222 Z8B:=
 Z9 (l:=[]) Zo rfl trivial ZyW Tryz.func222 rfl rfl 2 (fun _=> rfl) V3 (fun ⟨t,i,_⟩=> hb t i ())
def ZyV:Zj U:=lvl [([1,2,4],[2,4]),([1,2,4,9],[2,4]),([4],[4]),([4],[4])]
abbrev ZLK(p:List Nat):=AW (Z3 Zqg) Tryz.f223 ZyV p
theorem ZIT(t:Tree)(i:Int)(Q:QT)(h:(iB (decide (i < (t.kids.length:Int))) (((0:Int)<=i/\i < (t.kids.length:Int))/\(Q .ret (L2 [pL 4] [(.loc 4,(enc .tree (t.kids.getD i.toNat Tree.nil)))]))) ((Q .ret (L2 [pL 4] [(.loc 4,[ci 0,.nils,.nils])]))))):
  ZLK [] (L2 [(0,.agg (enc .tree t)),pI 1 i] []) Q:=
 Eq.mpr V6 h
def ZDL(t:Tree)(i:Int):Prop:=AW (Z3 Zqg) Tryz.f223 ZyV [] (Zm (ZtT.can (t,i,())) []) (EQ Tryz.f223 (Zle (t,i,())) [])
theorem ZBT(hb:∀ (t:Tree) (i:Int) (_:Unit),Zhr (t,i,())->ZDL t i):CT 223 Z8A:=
 Z9 (l:=[]) Zo rfl trivial ZyV Tryz.func223 rfl rfl 2 (fun _=> rfl) V3 (fun ⟨t,i,_⟩=> hb t i ())
def Z9a(N:Nat):List (FuncId × Fs U):=(135,fs Zew (fun a=> [Z5F a,Zj0 a < N]) Z59) ::(184,fs Zew (fun a=> [Z6S a,Zfb a < N]) Z58) ::(185,fs Zew (fun a=> [Z6R a,Zfb a < N]) Z6F) ::[(41,Z1g),(151,Z0i),(222,Z8B),(136,Z3k),(223,Z8A)]
def Zzi:Zj U:=lvl [([2,3,4],[2,3,4]),([2,3,4,6],[2,3,4,6]),([2,3,4,6,10],[2,3,4,6]),([4,6,7],[4,6]),([2,3,4,6,10,11],[2,3,4,6]),([4,6,7],[4,6]),([2,3,4,6,10,13],[2,3,4,6]),([2,3,4,6],[2,3,4,6]),([4,6,7],[4,6]),([2,3,4,6,10,21],[2,3,4,6]),([4,6,7],[4,6]),([2,3,4,6,29],[2,3,4,6]),([4,6,7],[4,6]),([4,6,38],[4,6]),([4,5],[4]),([4,5],[4])]
abbrev ZM2(N:Nat)(p:List Nat):=AW (Z3 (Z9a N)) Tryz.f135 Zzi p
theorem ZJG(N:Nat)(e:Edit)(t:Tree)(Q:QT)(h:∀ s,s=e->∀ d,d=t->∀ af,af=(e.new)->∀ ae,ae=(e.old)->∀ ab,ab=(YP (Z43 true s d))->∀ aa,aa=(ZlE s (Z1u true s d))->let z1:=Q .ret (L2 [pL 4,pB 5 true] [(.loc 4,(enc .tree (Z6 d)))]);let z0:=(Q .ret (L2 [pL 4,pB 5 false] [(.loc 4,[ci 0,.nils,.nils])]));(iB (e.kind==0) ((iB (!true) z0 ((Z0W (d,()))/\z1))) ((iB (e.kind==1) (((Z4j (ae,d,()))/\(iB (!(YM (Z6 ae) (Z6 d))) z0 ((Z0W (af,()))/\(Q .ret (L2 [pL 4,pB 5 true] [(.loc 4,(enc .tree (Z6 af)))])))))) ((iB (e.kind==2) ((Z6S (s,d,()))/\(Zfb (s,d,()) < N)/\(iB (!((Z43 true s d).isSome)) z0 ((Z0W (ab,()))/\(Q .ret (L2 [pL 4,pB 5 true] [(.loc 4,(enc .tree (Z6 ab)))]))))) ((iB (e.kind==3) ((Z6R (s,d,()))/\(Zfb (s,d,()) < N)/\(iB (!((Z0H (Z1u true s d)).isSome)) z0 ((Z0W (aa,()))/\(Q .ret (L2 [pL 4,pB 5 true] [(.loc 4,(enc .tree (Z6 aa)))]))))) ((iB (!false) z0 ((Z0W (d,()))/\z1))))))))))):
  ZM2 N [] (L2 [(0,.agg (enc .edit e)),(1,.agg (enc .tree t))] []) Q:=
 Eq.mpr V6 (h _ (Z5 _) _ (Zc _) _ (Zc _) _ (Zc _) _ (Zc _) _ (Zc _))
def ZEy(N:Nat)(e:Edit)(t:Tree):Prop:=AW (Z3 (Z9a N)) Tryz.f135 Zzi [] (Zm (Zew.can (e,t,())) []) (EQ Tryz.f135 (Z59 (e,t,())) [])
abbrev ZFC:Prop:=∀ (N:Nat) (e:Edit) (t:Tree) (_:Unit),Z5F (e,t,())->Zj0 (e,t,()) < N+1->ZEy N e t
def Zsu:Zj U:=lvk [([2,3,4],[2,3,4]),([2,3,4,21],[2,3,4]),([4,5],[4]),([2,3,4,6],[2,3,4,6]),([2,3,4,6,7,8],[2,3,4,6]),([2,3,4,6,7,8,9],[2,3,4,6]),([2,3,4,6,7,8,9,45],[2,3,4,6]),([2,3,4,6,7,8],[2,3,4,6]),([2,3,4,6,7,8,10],[2,3,4,6]),([2,3,4,6,7,8,10,69],[2,3,4,6]),([2,3,4,6,7,8],[2,3,4,6]),([2,3,4,6,7,8,11],[2,3,4,6]),([2,3,4,6,7,8,11,12],[2,3,4,((.loc 6),[.any,.own .u64])]),([2,3,4,6,7,8,11,12,80],[2,3,4,6]),([2,3,4,6,7,8,11,12],[2,3,4,((.loc 6),[.any,.own .u64])]),([2,3,4,6,7,8,11,12,13],[2,3,4,6]),([2,3,4,6,7,8,11,12,13,100],[2,3,4,6]),([2,3,4,6,7,8,11,12,13,14],[2,3,4,6,14]),([2,3,4,6,7,8,11,12,13,14,112],[2,3,4,6,14]),([4,5],[4]),([2,3,4,6,7,8,11,12,13],[2,3,4,6]),([2,3,4,6,7,8,11,12,13],[2,3,4,6]),([2,3,4,6,7,8,11,12],[2,3,4,6]),([2,3,4,6,8,11],[2,3,4,6]),([2,3,4,6,8,11,15],[2,3,4,((.loc 6),[.any,.any,.own .tree])]),([2,3,4,6,8,11,15,130],[2,3,4,6]),([2,3,4,6,8,11,15],[2,3,4,((.loc 6),[.any,.any,.own .tree])]),([2,3,4,6,8,11,15,16],[2,3,4,6,16]),([2,3,4,6,8,11,15,16,150],[2,3,4,6,16]),([2,3,4,6,8,11,15,16,17,18],[2,3,4,6,16,17]),([2,3,4,6,8,11,15,16,17,163],[2,3,4,6,16,17]),([4,5],[4]),([2,3,4,6,8,11,15,16],[2,3,4,6,16]),([2,3,4,6,8,11,15,16],[2,3,4,6,16]),([2,3,4,6,8,11,15],[2,3,4,6]),([4,5],[4])]
def Z1a(e:Edit)(t:Tree)(x8 x7 h s:Int)(d:List Int):LSt U:=(L2 [pL 2,pL 3,pL 4,pL 6,pI 7 x7,pI 8 x8,pI 11 h,pI 12 s] [(.loc 2,(enc .edit e)),(.loc 3,(enc .tree t)),(.loc 4,[ci 0,.nils,.nils]),(.loc 6,[ci 1,sU .u64 d (.own (.l 6 1)),.nils])])
def Z5Y(e:Edit)(t:Tree)(x8:Int)(aa:List Int)(h s:Int)(d:List Tree):LSt U:=(L2 [pL 2,pL 3,pL 4,pL 6,pI 8 x8,pI 11 h,pI 15 s] [(.loc 2,(enc .edit e)),(.loc 3,(enc .tree t)),(.loc 4,[ci 0,.nils,.nils]),(.loc 6,[ci 1,sU .u64 aa (.own (.l 6 1)),sU .tree d (.own (.l 6 2))])])
abbrev Zw2(N:Nat)(p:List Nat):=AW (Z3 (Z9a N)) Tryz.f184 Zsu p
abbrev ZAN(N:Nat)(p:List Nat):=SW (Z3 (Z9a N)) Tryz.f184 Zsu p
theorem ZJf(N:Nat)(e:Edit)(t:Tree)(Q:QT)(h:∀ s,s=(List.getD e.words (Int.toNat (((e.words.length:Int):Int) - 1)) (WEdit.mk 0 0 0 0))->∀ d,d=(List.getD e.kids (Int.toNat (((e.kids.length:Int):Int) - 1)) (KidOf.mk 0 Edit.nil))->let z5:=InR (((e.kids.length:Int):Int) - 1);let z3:=xB 0 (ZAN N [1,1,1,1,1,1,1,1] Q);let z2:=Zw2 N [1,1,1,1,1,1,1,0,1,0,0];let z1:=decide ((0:Int) < (e.words.length:Int));let z0:=decide ((0:Int) < (e.kids.length:Int));let z4:=bif z0 then (decide (((t.kids.length:Int):Int)<=d.at_)) else false;(iB (t.kind !=1) ((Q .ret (L2 [pL 4,pB 5 false] [(.loc 4,[ci 0,.nils,.nils])]))) (((Tt z1)/\(Tt z1)/\(z1=true->InR (((e.words.length:Int):Int) - 1))/\(Tt z1)/\(Tt z1)/\(z1=true->(0:Int)<=(((e.words.length:Int):Int) - 1)/\(((e.words.length:Int):Int) - 1) < (e.words.length:Int))/\(Tt z1)/\(Tt z1)/\(Tt z1)/\(Tt z1)/\(Tt z1)/\(iB (bif z1 then (decide (((t.words.length:Int):Int)<=s.at_)) else false) ((InR (((e.words.length:Int):Int) - 1))/\((0:Int)<=(((e.words.length:Int):Int) - 1)/\(((e.words.length:Int):Int) - 1) < (e.words.length:Int))/\(InR (s.at_+1))/\((Tt z0)/\(Tt z0)/\(z0=true->InR (((e.kids.length:Int):Int) - 1))/\(Tt z0)/\(Tt z0)/\(z0=true->(0:Int)<=(((e.kids.length:Int):Int) - 1)/\(((e.kids.length:Int):Int) - 1) < (e.kids.length:Int))/\(Tt z0)/\(Tt z0)/\(Tt z0)/\(Tt z0)/\(Tt z0)/\(iB z4 (z5/\((0:Int)<=(((e.kids.length:Int):Int) - 1)/\(((e.kids.length:Int):Int) - 1) < (e.kids.length:Int))/\(InR (d.at_+1))/\(Zi z2 (Z1a e t (d.at_+1) (s.at_+1) 0 0 []) z3)) ((Zi z2 (Z1a e t (t.kids.length:Int) (s.at_+1) 0 0 []) z3))))) (((Tt z0)/\(Tt z0)/\(z0=true->InR (((e.kids.length:Int):Int) - 1))/\(Tt z0)/\(Tt z0)/\(z0=true->(0:Int)<=(((e.kids.length:Int):Int) - 1)/\(((e.kids.length:Int):Int) - 1) < (e.kids.length:Int))/\(Tt z0)/\(Tt z0)/\(Tt z0)/\(Tt z0)/\(Tt z0)/\(iB z4 (z5/\((0:Int)<=(((e.kids.length:Int):Int) - 1)/\(((e.kids.length:Int):Int) - 1) < (e.kids.length:Int))/\(InR (d.at_+1))/\(Zi z2 (Z1a e t (d.at_+1) (t.words.length:Int) 0 0 []) z3)) ((Zi z2 (Z1a e t (t.kids.length:Int) (t.words.length:Int) 0 0 []) z3)))))))))):
  Zw2 N [] (L2 [(0,.agg (enc .edit e)),(1,.agg (enc .tree t))] []) Q:=
 Eq.mpr V6 (h _ rfl _ rfl)
theorem Zwu(N:Nat)(e:Edit)(t:Tree)(x8 x7 ab d:Int)(s:List Int)(N0:NT)(Q:QT)(h:∀ ae,ae=t->∀ aa,aa=(e.words.getD ab.toNat (WEdit.mk 0 0 0 0))->let z0:=decide (ab < (e.words.length:Int));(iB (decide (d < x7)) ((Zhr (ae,d,()))/\((Tt z0)/\(Tt z0)/\(Tt z0)/\(z0=true->(0:Int)<=ab/\ab < (e.words.length:Int))/\(Tt z0)/\(Tt z0)/\(Tt z0)/\(Tt z0)/\(Tt z0)/\(iB (bif z0 then (aa.at_==d) else false) (((0:Int)<=ab/\ab < (e.words.length:Int))/\((Z7Q (0,(Ji ae d),aa.mask,()))/\(iB (((mix 0 (Ji ae d) aa.mask):Int) !=aa.old) ((Q .ret (L2 [pL 4,pB 5 false] [(.loc 4,[ci 0,.nils,.nils])]))) ((Z7Q ((Ji ae d),aa.new,aa.mask,()))/\((InR (ab+1))/\(((s.length+([mix (Ji ae d) aa.new aa.mask]).length)*8<=140737488355328)/\((InR (d+1))/\(N0 (Z1a e t x8 x7 (ab+1) (d+1) (s++([mix (Ji ae d) aa.new aa.mask]))))))))))) (((s.length+([Ji ae d]).length)*8<=140737488355328)/\((InR (d+1))/\(N0 (Z1a e t x8 x7 ab (d+1) (s++([Ji ae d]))))))))) ((Zi (Zw2 N [1,1,1,1,1,1,1,1,1,0,1,0,0]) (Z5Y e t x8 s 0 0 []) (xB 2 (ZAN N [1,1,1,1,1,1,1,1,1,1] Q)))))):
  Zw2 N [1,1,1,1,1,1,1,0,1,0,0] (Z1a e t x8 x7 ab d s) (xT N0 (xB 0 (ZAN N [1,1,1,1,1,1,1,1] Q))):=
 Eq.mpr V6 (h _ (Zc _) _ rfl)
theorem Zwt(N:Nat)(e:Edit)(t:Tree)(x8:Int)(ab:List Int)(d aa:Int)(s:List Tree)(N1:NT)(Q:QT)(h:∀ ah,ah=t->∀ aj,aj=(e.kids.getD d.toNat (KidOf.mk 0 Edit.nil))->∀ af,af=(aj.e)->∀ ae,ae=(Z0z ah aa)->∀ ai,ai=(YP (doE true af ae))->let z0:=decide (d < (e.kids.length:Int));(iB (decide (aa < x8)) ((Zhr (ah,aa,()))/\((Tt z0)/\(Tt z0)/\(Tt z0)/\(z0=true->(0:Int)<=d/\d < (e.kids.length:Int))/\(Tt z0)/\(Tt z0)/\(Tt z0)/\(Tt z0)/\(Tt z0)/\(iB (bif z0 then (aj.at_==aa) else false) (((0:Int)<=d/\d < (e.kids.length:Int))/\(Z5F (af,ae,()))/\(Zj0 (af,ae,()) < N)/\(iB (!((doE true af ae).isSome)) ((Q .ret (L2 [pL 4,pB 5 false] [(.loc 4,[ci 0,.nils,.nils])]))) (((InR (d+1))/\(((s.length+([ai]).length)*56<=140737488355328)/\((InR (aa+1))/\(N1 (Z5Y e t x8 ab (d+1) (aa+1) (s++([ai])))))))))) (((s.length+([ae]).length)*56<=140737488355328)/\((InR (aa+1))/\(N1 (Z5Y e t x8 ab d (aa+1) (s++([ae]))))))))) ((Q .ret (L2 [pL 4,pB 5 true] [(.loc 4,[ci 1,sU .u64 ab (.own (.l 4 1)),sU .tree s (.own (.l 4 2))])]))))):
  Zw2 N [1,1,1,1,1,1,1,1,1,0,1,0,0] (Z5Y e t x8 ab d aa s) (xT N1 (xB 2 (ZAN N [1,1,1,1,1,1,1,1,1,1] Q))):=
 Eq.mpr V6 (h _ (Zc _) _ rfl _ (Z5 _) _ (Zc _) _ (Zc _))
def ZE7(N:Nat)(e:Edit)(t:Tree):Prop:=AW (Z3 (Z9a N)) Tryz.f184 Zsu [] (Zm (Zew.can (e,t,())) []) (EQ Tryz.f184 (Z58 (e,t,())) [])
abbrev ZFw:Prop:=∀ (N:Nat) (e:Edit) (t:Tree) (_:Unit),Z6S (e,t,())->Zfb (e,t,()) < N+1->ZE7 N e t
def Zst:Zj U:=lvk [([2,3,4],[2,3,4]),([2,3,4,18],[2,3,4]),([4,5],[4]),([2,3,4,6],[2,3,4,6]),([2,3,4,6,7],[2,3,4,6]),([2,3,4,6,7,8],[2,3,4,((.loc 6),[.any,.any,.own .tree])]),([2,3,4,6,7,8,27],[2,3,4,6]),([2,3,4,6,7,8],[2,3,4,((.loc 6),[.any,.any,.own .tree])]),([2,3,4,6,7,8,9],[2,3,4,6,9]),([2,3,4,6,7,8,9,10],[2,3,4,((.loc 6),[.any,.any,.own .tree]),9]),([2,3,4,6,7,8,9,10,43],[2,3,4,6,9]),([2,3,4,6,7,8,9,10],[2,3,4,((.loc 6),[.any,.any,.own .tree]),9]),([2,3,4,6,7,8,9,10,50],[2,3,4,6,9]),([4,5],[4]),([2,3,4,6,7,8,9,10],[2,3,4,6,9]),([2,3,4,6,7,8,9,10],[2,3,4,6,9]),([2,3,4,6,7,8,9,11],[2,3,4,((.loc 6),[.any,.any,.own .tree]),9]),([2,3,4,6,7,8,9,11,68],[2,3,4,6,9]),([2,3,4,6,7,8,9,11],[2,3,4,((.loc 6),[.any,.any,.own .tree]),9]),([2,3,4,6,7,8,9,11,73],[2,3,4,6,9]),([2,3,4,6,7,8,9,11],[2,3,4,6,9]),([2,3,4,6,7,8,9,11,102],[2,3,4,6,9]),([4,5],[4]),([2,3,4,6,7,8,9,11],[2,3,4,6,9]),([2,3,4,6,7,8,9,108],[2,3,4,6,9]),([2,3,4,6,7,8,9,113],[2,3,4,6,9]),([4,5],[4]),([2,3,4,6,7,8,12,13],[2,3,4,6,12]),([2,3,4,6,7,8,12,127],[2,3,4,6,12]),([4,5],[4]),([2,3,4,6,7,8],[2,3,4,6]),([2,3,4,6,7,8],[2,3,4,6]),([4,5],[4])]
def Z2F(e:Edit)(t:Tree)(s h:Int)(d:List Tree):LSt U:=(L2 [pL 2,pL 3,pL 4,pL 6,pI 7 s,pI 8 h] [(.loc 2,(enc .edit e)),(.loc 3,(enc .tree t)),(.loc 4,[ci 0,.nils,.nils]),(.loc 6,[ci t.kind,.nils,sU .tree d (.own (.l 6 2))])])
def Z2E(e:Edit)(t:Tree)(x8 s h:Int)(d:List Tree):LSt U:=(L2 [pL 2,pL 3,pL 4,pL 6,pI 7 s,pI 8 x8,pL 9,pI 10 h] [(.loc 2,(enc .edit e)),(.loc 3,(enc .tree t)),(.loc 4,[ci 0,.nils,.nils]),(.loc 6,[ci t.kind,.nils,sU .tree d (.own (.l 6 2))]),(.loc 9,(enc .op (e.ops.getD x8.toNat Op.nil)))])
def Z1Y(e:Edit)(t:Tree)(x8 h s:Int)(d:List Tree):LSt U:=(L2 [pL 2,pL 3,pL 4,pL 6,pI 7 s,pI 8 x8,pL 9,pI 11 h] [(.loc 2,(enc .edit e)),(.loc 3,(enc .tree t)),(.loc 4,[ci 0,.nils,.nils]),(.loc 6,[ci t.kind,.nils,sU .tree d (.own (.l 6 2))]),(.loc 9,(enc .op (e.ops.getD x8.toNat Op.nil)))])
abbrev Zr0(N:Nat)(p:List Nat):=AW (Z3 (Z9a N)) Tryz.f185 Zst p
abbrev Zdj(N:Nat)(p:List Nat):=SW (Z3 (Z9a N)) Tryz.f185 Zst p
theorem ZJe(N:Nat)(e:Edit)(t:Tree)(Q:QT)(h:(iB (t.kind !=e.list) ((Q .ret (L2 [pL 4,pB 5 false] [(.loc 4,[ci 0,.nils,.nils])]))) ((Zi (Zr0 N [1,1,1,1,0,1,0,0]) (Z2F e t 0 0 []) (xB 0 (Zdj N [1,1,1,1,1] Q)))))):
  Zr0 N [] (L2 [(0,.agg (enc .edit e)),(1,.agg (enc .tree t))] []) Q:=
 Eq.mpr V6 h
theorem Zws(N:Nat)(e:Edit)(t:Tree)(x7 s:Int)(d:List Tree)(N0:NT)(Q:QT)(h:(iB (decide (s < (e.ops.length:Int))) (((0:Int)<=s/\s < (e.ops.length:Int))/\(Zi (Zr0 N [1,1,1,1,0,1,0,0,1,0,0,1,0,1,0,0]) (Z2E e t s x7 0 d) (xB 2 (Zdj N [1,1,1,1,0,1,0,0,1,0,0,1,1] (xB 1 (Zdj N [1,1,1,1,0,1,0,0,1,1] (xT N0 (xB 0 (Zdj N [1,1,1,1,1] Q))))))))) ((Q .ret (L2 [pL 4,pB 5 (x7==(t.kids.length:Int))] [(.loc 4,[ci t.kind,.nils,sU .tree d (.own (.l 4 2))])]))))):
  Zr0 N [1,1,1,1,0,1,0,0] (Z2F e t x7 s d) (xT N0 (xB 0 (Zdj N [1,1,1,1,1] Q))):=
 Eq.mpr V6 h
theorem Zbn(N:Nat)(e:Edit)(t:Tree)(x8 s aa:Int)(d:List Tree)(N1 N0:NT)(Q:QT)(h:∀ ab,ab=(e.ops.getD x8.toNat Op.nil)->∀ ae,ae=(t.kids.getD s.toNat Tree.nil)->let z0:=decide (aa < ab.n);(Tt z0)/\(Tt z0)/\(Tt z0)/\(iB (bif z0 then (ab.kind==0) else false) ((iB (decide (((t.kids.length:Int):Int)<=s)) ((Q .ret (L2 [pL 4,pB 5 false] [(.loc 4,[ci 0,.nils,.nils])]))) (((0:Int)<=s/\s < (t.kids.length:Int))/\((d.length+([ae]).length)*56<=140737488355328)/\((InR (s+1))/\((InR (aa+1))/\(N1 (Z2E e t x8 (s+1) (aa+1) (d++([ae]))))))))) ((Zi (Zr0 N [1,1,1,1,0,1,0,0,1,0,0,1,1,0,1,0,0]) (Z1Y e t x8 0 s d) (xB 4 (Zdj N [1,1,1,1,0,1,0,0,1,0,0,1,1,1] (xB 1 (Zdj N [1,1,1,1,0,1,0,0,1,1] (xT N0 (xB 0 (Zdj N [1,1,1,1,1] Q))))))))))):
  Zr0 N [1,1,1,1,0,1,0,0,1,0,0,1,0,1,0,0] (Z2E e t x8 s aa d) (xT N1 (xB 2 (Zdj N [1,1,1,1,0,1,0,0,1,0,0,1,1] (xB 1 (Zdj N [1,1,1,1,0,1,0,0,1,1] (xT N0 (xB 0 (Zdj N [1,1,1,1,1] Q)))))))):=
 Eq.mpr V6 (h _ rfl _ (Zc _))
theorem Zbm(N:Nat)(e:Edit)(t:Tree)(x8 s aa:Int)(d:List Tree)(N2 N0:NT)(Q:QT)(h:∀ ab,ab=(e.ops.getD x8.toNat Op.nil)->∀ al,al=(t.kids.getD aa.toNat Tree.nil)->∀ ae,ae=al->∀ ah,ah=(ab.e)->∀ ak,ak=(ab.l.getD s.toNat Tree.nil)->∀ af,af=ak->∀ aj,aj=(YP (doE true ah ae))->let z1:=(Q .ret (L2 [pL 4,pB 5 false] [(.loc 4,[ci 0,.nils,.nils])]));let z0:=decide (((t.kids.length:Int):Int)<=aa);(iB (decide (s < (ab.l.length:Int))) ((iB (ab.kind==2) (((0:Int)<=s/\s < (ab.l.length:Int))/\((d.length+([af]).length)*56<=140737488355328)/\((InR (s+1))/\(N2 (Z1Y e t x8 (s+1) aa (d++([af])))))) ((Tt (!z0))/\(Tt (!z0))/\(Tt (!z0))/\((!z0)=true->(0:Int)<=aa/\aa < (t.kids.length:Int))/\(Tt (!z0))/\(Tt (!z0))/\(Tt (!z0))/\(Tt (!z0))/\((!z0)=true->(0:Int)<=s/\s < (ab.l.length:Int))/\(Tt (!z0))/\(Tt (!z0))/\(Tt (!z0))/\((!z0)=true->Z4j (ae,af,()))/\(Tt (!z0))/\(z0=false->(!z0)=true)/\(iB (bif z0 then true else (!(YM (Z6 ae) (Z6 af)))) z1 ((InR (aa+1))/\((InR (s+1))/\(N2 (Z1Y e t x8 (s+1) (aa+1) d)))))))) ((iB (ab.kind==3) ((iB z0 z1 (((0:Int)<=aa/\aa < (t.kids.length:Int))/\(Z5F (ah,ae,()))/\(Zj0 (ah,ae,()) < N)/\(iB (!((doE true ah ae).isSome)) z1 (((d.length+([aj]).length)*56<=140737488355328)/\((InR (aa+1))/\((InR (x8+1))/\(N0 (Z2F e t (aa+1) (x8+1) (d++([aj]))))))))))) ((InR (x8+1))/\(N0 (Z2F e t aa (x8+1) d))))))):
  Zr0 N [1,1,1,1,0,1,0,0,1,0,0,1,1,0,1,0,0] (Z1Y e t x8 s aa d) (xT N2 (xB 4 (Zdj N [1,1,1,1,0,1,0,0,1,0,0,1,1,1] (xB 1 (Zdj N [1,1,1,1,0,1,0,0,1,1] (xT N0 (xB 0 (Zdj N [1,1,1,1,1] Q)))))))):=
 Eq.mpr V6 (h _ rfl _ rfl _ (Zc _) _ (Z5 _) _ rfl _ (Zc _) _ (Zc _))
def ZE6(N:Nat)(e:Edit)(t:Tree):Prop:=AW (Z3 (Z9a N)) Tryz.f185 Zst [] (Zm (Zew.can (e,t,())) []) (EQ Tryz.f185 (Z6F (e,t,())) [])
abbrev ZFv:Prop:=∀ (N:Nat) (e:Edit) (t:Tree) (_:Unit),Z6R (e,t,())->Zfb (e,t,()) < N+1->ZE6 N e t
theorem ZyK(c41:CT 41 Z1g)(ZvM:CT 151 Z0i)(ZH1:CT 222 Z8B)(ZvO:CT 136 Z3k)(ZH0:CT 223 Z8A)(ZHL:ZFC)(ZHG:ZFw)(ZHF:ZFv):
  CT 135 Z4H/\CT 184 Zro/\CT 185 Zrn:=by
 have s:FK 135:=⟨Tryz.f135,Tryz.func135,rfl,rfl⟩
 have ab:FK 184:=⟨Tryz.f184,Tryz.func184,rfl,rfl⟩
 have aa:FK 185:=⟨Tryz.f185,Tryz.func185,rfl,rfl⟩
 have d:∀ N,CT 135 (fs Zew (fun a=> [Z5F a,Zj0 a < N]) Z59)/\CT 184 (fs Zew (fun a=> [Z6S a,Zfb a < N]) Z58)/\CT 185 (fs Zew (fun a=> [Z6R a,Zfb a < N]) Z6F):=by
  intro N
  induction N with
  | zero=> exact ⟨JU s,JU ab,JU aa⟩
  | succ N ih=>
   have kn:=Z19 (l:=Z9a N) ⟨ih.1,ih.2.1,ih.2.2,c41,ZvM,ZH1,ZvO,ZH0,trivial⟩
   exact ⟨ZJ (Γ:=Z3 (Z9a N)) Zo rfl kn Zzi Tryz.func135 rfl rfl (fun a=> by show 2<=_;decide) (fun ⟨e,t,_⟩ h=> ZHL N e t () h.1 h.2.1),
    ZJ (Γ:=Z3 (Z9a N)) Zo rfl kn Zsu Tryz.func184 rfl rfl (fun a=> by show 2<=_;decide) (fun ⟨e,t,_⟩ h=> ZHG N e t () h.1 h.2.1),
    ZJ (Γ:=Z3 (Z9a N)) Zo rfl kn Zst Tryz.func185 rfl rfl (fun a=> by show 2<=_;decide) (fun ⟨e,t,_⟩ h=> ZHF N e t () h.1 h.2.1)⟩
 exact ⟨JV s fun N=> (d N).1,JV ab fun N=> (d N).2.1,JV aa fun N=> (d N).2.2⟩
end
theorem ZAk:Contract Tryz.prog cfg 117 Z5y:=by
 refine ZyQ ?_
 intro l _ d
 simp only [Znw] at d
 refine ZFR _ _ ⟨fun h=> ?_,fun _=> ⟨by simp only [Qh];omega,?_⟩⟩
 .subst h
  simp only [ZbX]
  exact V2
 .simp only [ZbX]
  exact V2
theorem ZHg:Contract Tryz.prog cfg 175 Z8E:=by
 refine ZCe ?_
 intro l _ d
 simp only [Zhw] at d
 refine ZJl _ _ ⟨fun h=> ?_,fun _=> ⟨by simp only [Qh];omega,?_⟩⟩
 .subst h
  simp only [ZfW]
  exact V2
 .simp only [ZfW]
  exact V2
theorem Zjq{α:Type}(z:α){l:List α}{i:Nat}(h:i < l.length)(x:α):ZP z l i x=l.set i x:=by
 simp only [ZP];rw [show i+1 - l.length=0 by omega];simp
theorem ZeI{α:Type}(z:α){l:List α}{i:Nat}(h:l.length<=i)(x:α):ZP z (l++[z]) i x=ZP z l i x:=by
 simp only [ZP,Q7,Qs,Qc]
 rw [show i+1 - l.length=(i+1 - (l.length+1))+1 by omega,Xz]
 try rfl
theorem ZyJ(t:Tree):t.words.length+Ze t.kids+1=Zq t:=by obtain ⟨k,w,ks⟩:=t;simp only [Zq,Tree.words_mk,Tree.kids_mk];omega
theorem ZkY{t:Tree}(h:rng t):InR t.kind/\(∀ x∈t.words,isW x)/\J6 t.kids:=by obtain ⟨k,w,ks⟩:=t;exact h
theorem ZfU{ks:List Tree}(h:J6 ks)(i:Nat):rng (ks.getD i Tree.nil):=by
 by_cases hi:i < ks.length
 .exact Jl h (Zh hi _)
 .rw [Qp,QK V1]
  trivial
theorem Z5O(ks:List Tree)(i:Nat):Zq (ks.getD i Tree.nil)<=Ze ks+1:=by
 by_cases hi:i < ks.length
 .have:=Jb (Zh hi Tree.nil);omega
 .rw [Qp,QK V1]
  simp [Tree.nil,Zq,Ze]
theorem Zed(t:Tree){i:Int}(h:0<=i):Z0z t i=t.kids.getD i.toNat Tree.nil:=by unfold Z0z;grind
theorem Z6h(t:Tree){i:Int}(h:0<=i):Ji t i=t.words.getD i.toNat 0:=by unfold Ji;omega
theorem Zr4{l:List Int}(h:∀ x∈l,isW x)(i:Nat):isW (l.getD i 0):=by
 by_cases hi:i < l.length
 .grind
 .rw [Qp,QK V1];trivial
theorem b74:ZKA:=by
 intro N e t _ hp hN
 simp only [Z5F,Zj0] at hp hN
 obtain ⟨⟨p1,p2,d,p3⟩,p4,p5⟩:=hp
 have h1:=Yq e
 have h2:=Z4M p2
 have hd:=Z13 false e t
 rw [J0] at hd
 refine ZKQ _ _ _ _ ?_
 rintro y1 ak y2 ai y3 aj
 subst ak ai aj
 (simp only [iB,vcT,vcS])
 refine ⟨fun hk=> ?_,fun hk=> ⟨fun h=> ⟨by simp only [Z4j];omega,?_⟩,fun h=> ⟨fun s=> ⟨by simp only [Z6S];grind,by simp only [Zfb];omega,?_⟩,fun s=> ⟨fun ae=> ⟨by simp only [Z6R];grind,by simp only [Zfb];omega,?_⟩,fun ae=> ?_⟩⟩⟩⟩
 .rw [if_pos hk] at hd
  simp only [Z7E,ZfK,if_pos hk,hd]
  exact V2
 .rw [if_neg hk,if_pos h] at hd
  simp only [Z7E,ZfK,if_neg hk,if_pos h,hd]
  cases YM (Z6 y1.old) (Z6 y2) <;> (repeat' (first | exact trivial | exact rfl | apply And.intro))
 .rw [if_neg hk,if_neg h,if_pos s] at hd
  simp only [Z7E,ZfK,if_neg hk,if_neg h,if_pos s,hd]
  exact V2
 .rw [if_neg hk,if_neg h,if_neg s,if_pos ae] at hd
  simp only [Z7E,ZfK,if_neg hk,if_neg h,if_neg s,if_pos ae,hd]
  have e2:(if y2.kind=y1.list then (Z0H (ZE false y1.ops y2.kids [])).map fun b=> Tree.mk y1.list [] b else none).isSome=(Z0H (Z1u false y1 y2)).isSome:=by
   unfold Z1u
   split
   .grind
   .try rfl
  rw [e2]
  exact V2
 .rw [if_neg hk,if_neg h,if_neg s,if_neg ae] at hd
  simp only [Z7E,ZfK,if_neg hk,if_neg h,if_neg s,if_neg ae,hd]
  exact V2
theorem ZHN:ZFF:=by
 intro N e t _ hp hN
 simp only [Z6S,Zfb] at hp hN
 obtain ⟨k2,⟨p1,p2,d,p3⟩,p4,p5⟩:=hp
 have h1:=Yq e
 have h2:=Ym e.kids
 have h3:=ZyJ t
 have h4:=ZD t.kids
 have r2:=Z4M p2
 have rt:=ZkY p5
 have ri:=Zd p3
 refine ZJN _ _ _ _ ?_
 (simp only [iB,vcT,vcS])
 have no:Z43 false e t=none->YZ cfg Tryz.f115.ntmps Tryz.f115.results.toList (Z6K (e,t,())) [] .ret (⟨[(4,.ptr (.loc 4) 0),(5,.c (.bool false))],[((.loc 4),[.int .i64 0,.nils,.nils])],[]⟩:LSt U):=by
  intro hs
  simp only [Z6K,hs]
  exact V2
 refine ⟨fun hk=> no (by unfold Z43;rw [if_neg hk]),fun hk=> ?_⟩
 have hk:t.kind=1:=by simpa using hk
 refine ⟨by simp only [Znw];omega,by simp only [Zhw];omega,?_⟩
 refine Z7 (ι:=Int × List Int) (fun s=> Z9I e t s.1 s.2) (fun s=> 0<=s.1/\s.1<=e.words.length/\wsD t.words (e.words.drop s.1.toNat) s.2=wsD t.words e.words t.words/\s.2.length<=t.words.length+65536) (fun s=> ((e.words.length:Int) - s.1).toNat) (0,t.words) rfl ⟨by simp,by simp,by simp,by simp⟩ ?_
 rintro ⟨i,out⟩ ⟨f1,f2,f3,f4⟩
 dsimp only at f1 f2 f3 f4
 refine Zx4 _ _ _ _ _ _ _ ?_
 rintro y1 am y2 ae
 subst am
 (simp only [iB,vcT,vcS])
 refine ⟨fun hi=> ?_,fun hi=> ?_⟩
 .have h:=Zh (l:=e.words) (i:=i.toNat) V1 (WEdit.mk 0 0 0 0)
  rw [ZS f1 hi (WEdit.mk 0 0 0 0),<-ae] at f3
  rw [<-ae] at h
  have hw:=Yj ri.words y2 h
  obtain ⟨g1,g2,g3,g4⟩:=r2.2.2.2.1 y2 h
  have ai:Ji y1 y2.at_=y1.words.getD y2.at_.toNat 0:=Z6h y1 V1
  have a2:=Zr4 rt.2.1 y2.at_.toNat
  rw [wsD] at f3
  rw [ai]
  unfold isW at g3 g4 a2
  refine ⟨⟨f1,hi⟩,by simp only [ZdQ],by simp only [Z7Q];omega,fun ah=> no ?_,fun af=> ?_⟩
  .rw [if_neg ah] at f3
   unfold Z43
   rw [if_pos hk,<-f3]
   try rfl
  .have af:mix 0 (y1.words.getD y2.at_.toNat 0) y2.mask=y2.old:=by simpa using af
   rw [if_pos af] at f3
   refine Z7 (ι:=List Int) (fun s=> Z9H e y1 i s) (fun s=> (∀ v,ZP 0 s y2.at_.toNat v=ZP 0 out y2.at_.toNat v)/\s.length<=y1.words.length+65536) (fun s=> (y2.at_+1 - s.length).toNat) out rfl ⟨fun v=> rfl,f4⟩ ?_
   rintro s ⟨q1,q2⟩
   refine Zx3 _ _ _ _ _ _ _ _ ?_
   (simp only [vE])
   rw [<-ae,ai]
   (simp only [iB,vcT,vcS])
   refine ⟨fun hl=> ⟨by simp;omega,s++[0],rfl,⟨fun v=> ?_,by simp;omega⟩,by simp;omega⟩,fun hl=> ?_⟩
   .rw [ZeI 0 V1,q1]
   .have hl:y2.at_ < s.length:=V1
    refine ⟨by simp only [Z7Q];omega,V1,V1,V5,(i+1,s.set y2.at_.toNat (mix (y1.words.getD y2.at_.toNat 0) y2.new y2.mask)),rfl,⟨V4,V4,?_,by simp only [List.length_set];omega⟩,V4⟩
    dsimp only
    rw [<-f3,<-Zjq 0 V1,q1]
 .rw [Q6 V1,wsD] at f3
  refine Z7 (ι:=Int × List Tree) (fun s=> Z9G e y1 out s.1 s.2) (fun s=> 0<=s.1/\s.1<=e.kids.length/\JC false y1.kids (e.kids.drop s.1.toNat) s.2=JC false y1.kids e.kids y1.kids/\s.2.length<=y1.kids.length+65536) (fun s=> ((e.kids.length:Int) - s.1).toNat) (0,y1.kids) rfl ⟨by simp,by simp,by simp,by simp⟩ ?_
  rintro ⟨j,ks⟩ ⟨e1,e2,e3,e4⟩
  dsimp only at e1 e2 e3 e4
  refine Zx2 _ _ _ _ _ _ _ _ ?_
  rintro y1 am y2 ae y3 ao y4 ak
  subst am
  (simp only [iB,vcT,vcS])
  refine ⟨fun hj=> ?_,fun hj=> ?_⟩
  .have h:=Zh (l:=e.kids) (i:=j.toNat) V1 (KidOf.mk 0 Edit.nil)
   rw [ZS e1 hj (KidOf.mk 0 Edit.nil),<-ae] at e3
   rw [<-ae] at h
   have aw:=Zk ri.kids y2 h
   have hm:=Ja h
   have a5:=Zde h
   have bl:=Z0f e
   have hr:=(YB r2.2.2.2.2.2.1 h).2
   have ai:Z0z y1 y2.at_=y1.kids.getD y2.at_.toNat Tree.nil:=Zed y1 V1
   rw [ai] at ak
   have az:=Z5O y1.kids y2.at_.toNat
   have av:=ZfU rt.2.2 y2.at_.toNat
   rw [JC,Z2k,<-ak,<-ao] at e3
   rw [<-ak] at az av
   rw [<-ao] at hm hr aw a5
   refine ⟨⟨e1,hj⟩,by simp only [ZdQ],by simp only [Z5F];exact ⟨⟨V1,hr,_,aw.2⟩,V1,av⟩,by simp only [Zj0];omega,fun ah=> no ?_,fun af=> ?_⟩
   .have ah:doE false y3 y4=none:=by simpa using ah
    rw [ah] at e3
    unfold Z43
    rw [if_pos hk,<-f3,<-e3]
    try rfl
   .obtain ⟨u,hu⟩:=Qx.1 af
    rw [hu,Qb] at e3
    refine Z7 (ι:=List Tree) (fun s=> Z9F e y1 out j s) (fun s=> (∀ v,ZP Tree.nil s y2.at_.toNat v=ZP Tree.nil ks y2.at_.toNat v)/\s.length<=y1.kids.length+65536) (fun s=> (y2.at_+1 - s.length).toNat) ks rfl ⟨fun v=> rfl,e4⟩ ?_
    rintro s ⟨q1,q2⟩
    refine Zx1 _ _ _ _ _ _ _ _ _ ?_
    rintro z1 a6 z2 ay z3 aq z4 au z5 ax
    rw [<-ae] at ay
    subst a6 ay
    rw [<-ao] at aq
    subst aq
    rw [ai,<-ak] at au
    subst au
    rw [ZdY hu] at ax
    subst ax
    (simp only [iB,vcT,vcS])
    refine ⟨fun hl=> ⟨by simp;omega,s++[Tree.nil],rfl,⟨fun v=> ?_,by simp;omega⟩,by simp;omega⟩,fun hl=> ?_⟩
    .rw [ZeI Tree.nil V1,q1]
    .have hl:z2.at_ < s.length:=V1
     refine ⟨V1,V1,V5,(j+1,s.set z2.at_.toNat z5),rfl,⟨V4,V4,?_,by simp only [List.length_set];omega⟩,V4⟩
     dsimp only
     rw [<-e3,<-Zjq Tree.nil V1,q1]
  .rw [Q6 V1,JC] at e3
   have hs:Z43 false e y1=some (.mk 1 out ks):=by
    unfold Z43
    rw [if_pos hk,<-f3,<-e3]
    try rfl
   simp only [Z6K,hs]
   exact V2
theorem Zkl(r:Bool)(o:Op)(s:List Op)(rest out:List Tree):ZE r (o ::s) rest out=(Z2j r o rest out).bind fun x=> ZE r s x.2 x.1:=by rw [ZE]
theorem Z3G{ks:List Tree}(h:J6 ks)(n:Nat):J6 (ks.drop n):=by
 induction n generalizing ks with
 | zero=> exact h
 | succ n ih=> cases ks with
  | nil=> exact h
  | cons a r=> exact ih h.2
theorem ZHM:ZFE:=by
 intro N e t _ hp hN
 simp only [Z6R,Zfb] at hp hN
 obtain ⟨k3,⟨p1,p2,d,p3⟩,p4,p5⟩:=hp
 have h1:=Yq e
 have h2:=ZQ e.ops
 have h3:=ZyJ t
 have h4:=ZD t.kids
 have r2:=Z4M p2
 have rt:=ZkY p5
 have ri:=Zd p3
 refine ZJM _ _ _ _ ?_
 (simp only [iB,vcT,vcS])
 have no:Z1u false e t=none->YZ cfg Tryz.f116.ntmps Tryz.f116.results.toList (Z6J (e,t,())) [] .ret (⟨[(4,.ptr (.loc 4) 0),(5,.c (.bool false))],[((.loc 4),[.int .i64 0,.nils,.nils])],[]⟩:LSt U):=by
  intro hs
  simp only [Z6J,hs]
  exact V2
 refine ⟨fun hk=> no (by unfold Z1u;rw [if_neg hk]),fun hk=> ?_⟩
 have hk:t.kind=e.list:=by simpa using hk
 have bl:Z1u false e t=ZE false e.ops t.kids []:=by unfold Z1u;rw [if_pos hk]
 refine Z7 (ι:=Int × List Tree × List Tree) (fun s=> Z2J e t s.1 s.2.2 s.2.1)
  (fun s=> 0<=s.1/\s.1<=e.ops.length/\ZE false (e.ops.drop s.1.toNat) s.2.2 s.2.1=Z1u false e t/\s.2.1.length+s.2.2.length+Zg (e.ops.drop s.1.toNat)<=t.kids.length+Zg e.ops/\Ze s.2.2<=Ze t.kids/\J6 s.2.2)
  (fun s=> ((e.ops.length:Int) - s.1).toNat) (0,[],t.kids) rfl ⟨by simp,by simp,by simp [bl],by simp,by simp,rt.2.2⟩ ?_
 rintro ⟨i,out,aa⟩ ⟨f1,f2,f3,f4,f5,f6⟩
 dsimp only at f1 f2 f3 f4 f5 f6
 refine ZwZ _ _ _ _ _ _ _ _ ?_
 rintro y1 aj
 (simp only [iB,vcT,vcS])
 refine ⟨fun hi=> ?_,fun hi=> ?_⟩
 .have ae:=Zh (l:=e.ops) (i:=i.toNat) V1 Op.nil
  rw [ZS f1 hi Op.nil,<-aj] at f3 f4
  rw [<-aj] at ae
  have hr:=Go.AM.rightOs_mem ri.ops y1 ae
  have hm:=ZW ae
  have bm:=Z8r ae
  have b8:=Z0f e
  have bk:=ZR y1
  have bb:=Z0j (JL r2.2.2.2.2.2.2 ae)
  have cf:=ZD y1.l
  simp only [Zg] at f4
  rw [Zkl,Yr] at f3
  have go:∀ (x:List Tree) (m:List Tree) (v:V U) N0 Q',ZE false (e.ops.drop (i+1).toNat) x m=Z1u false e t->m.length+x.length+Zg (e.ops.drop (i+1).toNat)<=t.kids.length+Zg e.ops->Ze x<=Ze t.kids->J6 x->
    (∀ s2,s2=Z2J e t (i+1) x m->N0 s2)->Zez N [1,1,1,1,0,1,0,0,1,1,1] (Z3W e t i x m v) (AExit.then N0 (AExit.inBlock 0 (ZmD N [1,1,1,1,1] Q'))):=by
   intro x m v N0 Q' a1 a2 a3 a4 a5
   exact Zx0 _ _ _ _ _ _ _ _ _ ⟨V5,a5 _ rfl⟩
  have fin:∀ (x m:List Tree),ZE false (e.ops.drop (i+1).toNat) x m=Z1u false e t->m.length+x.length+Zg (e.ops.drop (i+1).toNat)<=t.kids.length+Zg e.ops->Ze x<=Ze t.kids->J6 x->∀ s2,s2=Z2J e t (i+1) x m->
    ∃ j:Int × List Tree × List Tree,s2=Z2J e t j.1 j.2.2 j.2.1/\(0<=j.1/\j.1<=e.ops.length/\ZE false (e.ops.drop j.1.toNat) j.2.2 j.2.1=Z1u false e t/\j.2.1.length+j.2.2.length+Zg (e.ops.drop j.1.toNat)<=t.kids.length+Zg e.ops/\Ze j.2.2<=Ze t.kids/\J6 j.2.2)/\((e.ops.length:Int) - j.1).toNat < ((e.ops.length:Int) - i).toNat:=by
   rintro x m a1 a2 a3 a4 _ rfl
   exact ⟨(i+1,m,x),rfl,⟨V4,V4,a1,a2,a3,a4⟩,V4⟩
  have r1:=Zu hr
  have ht:∀ n:Nat,(aa.take n).length<=aa.length/\(aa.take n).length+(aa.drop n).length=aa.length:=by
   intro n
   simp only [Qu,Qv];omega
  refine ⟨⟨f1,hi⟩,fun ak=> ⟨V1,?_⟩,fun ak=> ⟨fun ah=> ?_,fun ah=> ⟨fun aq=> ?_,fun aq=> ?_⟩⟩⟩
  .rw [Jv,Jv,if_pos ak,Qb] at f3
   exact go _ _ _ _ _ f3 (by simp only [Q7];omega) f5 f6 (fin _ _ f3 (by simp only [Q7];omega) f5 f6)
  .refine Zgj _ _ _ _ _ _ _ _ _ _ ?_
   rintro z1 af z2 ay z3 au z4 ar z5 al z6 ao
   rw [<-aj] at af
   subst af
   rw [Jv,if_pos ah] at f3
   (simp only [iB,vcT,vcS])
   rw [Xb] at al
   rw [Xb]
   refine ⟨fun hs=> no ?_,fun hs=> ⟨V1,V1,fun h=> by omega,fun _=> ⟨fun _=> ⟨?_,fun hq=> no ?_,fun hq=> ?_⟩,fun h=> absurd ah h⟩⟩⟩
   .have:JR z1.l aa=false:=by unfold JR;rw [decide_eq_false V1];try rfl
    rw [this,if_neg (by simp)] at f3
    exact f3.symm
   .have:=Zi6 z1.l.length aa
    simp only [Zhv];omega
   .have:JR z1.l aa=false:=by unfold JR;rw [<-al,hq];simp
    rw [this,if_neg (by simp)] at f3
    exact f3.symm
   .have:JR z1.l aa=true:=by unfold JR;rw [<-al,hq,decide_eq_true V1];try rfl
    rw [this,if_pos rfl,Qb] at f3
    have hd:=Z4t z1.l.length aa
    have ba:=ht z1.l.length
    exact go _ _ _ _ _ f3 V1 V1 (Z3G f6 _) (fin _ _ f3 V1 V1 (Z3G f6 _))
  .refine Zgj _ _ _ _ _ _ _ _ _ _ ?_
   rintro z1 af z2 ay z3 au z4 ar z5 al z6 ao
   rw [<-aj] at af
   subst af
   rw [Jv,if_neg ah,if_neg ak] at f3
   (simp only [iB,vcT,vcS])
   rw [show Int.toNat 1=1 from rfl]
   refine ⟨fun hs=> no ?_,fun hs=> ⟨V1,V1,fun h=> by omega,fun _=> ⟨fun h=> absurd h ah,fun _=> ?_⟩⟩⟩
   .rw [V0] at f3
    exact f3.symm
   .have hz:z3=aa.getD 0 Tree.nil:=by
     rw [au,ay]
     cases aa with
     | nil=> rfl
     | cons a r=> rfl
    rw [Jv,<-hz,<-ar] at f3
    have bi:=Z5O aa 0
    have a9:=ZfU f6 0
    rw [<-hz] at bi a9
    have a8:=Ye hr aq
    rw [<-ar] at a8 bk bb bm
    refine ⟨?_,by simp only [Z5F];exact ⟨⟨V1,bb.2.2.2,_,a8⟩,V1,a9⟩,by simp only [Zj0];omega,fun av=> no ?_,fun bg=> ?_⟩
    .simp only [Qu];omega
    .have av:doE false z4 z3=none:=by simpa using av
     rw [av] at f3
     exact f3.symm
    .obtain ⟨u,hu⟩:=Qx.1 bg
     rw [ZdY hu] at ao
     subst ao
     rw [hu,Qf,Qb] at f3
     have hd:=Z4t 1 aa
     have ba:=ht 1
     have cc:(aa.take 1).length=1:=by simp only [Qu];omega
     refine ⟨by simp only [Qs];omega,?_⟩
     exact go _ _ _ _ _ f3 (by simp only [Q7,Qs];omega) V1 (Z3G f6 _) (fin _ _ f3 (by simp only [Q7,Qs];omega) V1 (Z3G f6 _))
  .have ax:y1.kind=0:=by cases r1 <;> first | rfl | (exfalso;simp at ah ak aq)
   refine Zgj _ _ _ _ _ _ _ _ _ _ ?_
   rintro z1 af z2 ay z3 au z4 ar z5 al z6 ao
   rw [<-aj] at af
   subst af
   rw [if_pos ax] at f3
   have hn:1<=z1.n/\z1.n<=1048576:=by cases r1 <;> first | (constructor <;> assumption) | (exfalso;simp at ah ak aq ax)
   (simp only [iB,vcT,vcS])
   refine ⟨fun hs=> no ?_,fun hs=> ⟨V1,V1,fun _=> ⟨?_,?_⟩,fun h=> absurd ax h⟩⟩
   .rw [Jv] at f3
    exact f3.symm
   .have:=(ht z1.n.toNat).1
    omega
   .rw [V0,Qb] at f3
    have hd:=Z4t z1.n.toNat aa
    have ba:=ht z1.n.toNat
    exact go _ _ _ _ _ f3 (by simp only [Q7];omega) V1 (Z3G f6 _) (fin _ _ f3 (by simp only [Q7];omega) V1 (Z3G f6 _))
 .rw [Q6 V1,ZE] at f3
  simp only [Z6J,<-f3,ZlE,Z0H,Qb,hk]
  by_cases hr:aa.length=0
  .rw [if_pos hr,hr]
   exact V2
  .rw [if_neg hr,show ((aa.length:Int)==0)=false by rw [beq_eq_false_iff_ne];omega]
   exact V2
theorem ZLk:Contract Tryz.prog cfg 74 Zdw/\Contract Tryz.prog cfg 115 Zrv/\Contract Tryz.prog cfg 116 Zru:=ZBO Zmi ZvL ZvK ZHf ZHg ZvJ ZAk b74 ZHN ZHM
theorem c74:Contract Tryz.prog cfg 74 Zdw:=ZLk.1
theorem Zoy{r:Bool}{e:Edit}{t u:Tree}(s:∃ d,Z1 e d=true)(ht:Zq t+ctE e<=200000000000)(h:doE r e t=some u):Zq u<=1000000000000:=by
 obtain ⟨d,s⟩:=s
 have:=Z3r r e d t u s h
 omega
theorem c25:Contract Tryz.prog cfg 25 Z32:=by
 refine ZGs c75 c74 ?_
 intro e t _ h
 simp only [Z5F] at h
 refine ZL5 _ _ _ ?_
 rintro y1 aa y2 s y3 d
 subst aa s
 (simp only [iB,vcT,vcS])
 refine ⟨by simp only [Z5F];exact h,fun hn=> ?_,fun hs=> ?_⟩
 .have hn:doE false y1 y2=none:=by simpa using hn
  simp only [ZrS,hn]
  exact V2
 .obtain ⟨u,hu⟩:=Qx.1 hs
  rw [ZdY hu] at d
  subst d
  have:=Zoy h.1.2.2 h.2.1 hu
  refine ⟨by simp only [Z0W];exact this,?_⟩
  simp only [ZrS,hu]
  exact V2
theorem ZH1:Contract Tryz.prog cfg 222 Z8B:=by
 refine ZBU ?_
 intro t i _ d
 simp only [Zhr] at d
 refine ZIU _ _ _ ?_
 (simp only [iB,vcT,vcS])
 refine ⟨fun h=> ⟨⟨d,h⟩,YW rfl (Z6h t d).symm⟩,fun h=> YW rfl ?_⟩
 rw [Z6h t d,Qp,QK V1]
 try rfl
theorem ZH0:Contract Tryz.prog cfg 223 Z8A:=by
 refine ZBT ?_
 intro t i _ d
 simp only [Zhr] at d
 have s:=Zed t d
 refine ZIT _ _ _ ?_
 (simp only [iB,vcT,vcS])
 simp only [Zle,s]
 refine ⟨fun h=> ⟨⟨d,h⟩,?_⟩,fun h=> ?_⟩
 ·exact V2
 .rw [Qp,QK V1]
  exact V2
theorem Zzp{r:Bool}{e:Edit}{t:Tree}{l:List Tree}(h:Z0H (Z1u r e t)=some l):ZlE e (Z1u r e t)= .mk e.list [] l:=by
 unfold Z0H at h
 obtain ⟨x,s,d⟩:=Qn.1 h
 rw [s]
 split at d
 .cases d;rfl
 .cases d
theorem ZHL:ZFC:=by
 intro N e t _ hp hN
 simp only [Z5F,Zj0] at hp hN
 obtain ⟨⟨p1,p2,d,p3⟩,p4,p5⟩:=hp
 have h1:=Yq e
 have ri:=Zd p3
 have hd:=Z51 true e t
 have hm:=Zcu true e d t
 refine ZJG _ _ _ _ ?_
 rintro y1 au y2 ao y3 ar y4 ax y5 ay y6 aq
 subst au ao ar ax
 (simp only [iB,vcT,vcS])
 simp only [iB,vcF]
 have aa:∀ v,ZdI true y1 y2=some v->Zq v<=1000000000000:=fun v hv=> by grind
 have no:ZdI true y1 y2=none->YZ cfg Tryz.f135.ntmps Tryz.f135.results.toList (Z59 (y1,y2,())) [] .ret (⟨[(4,.ptr (.loc 4) 0),(5,.c (.bool false))],[((.loc 4),[.int .i64 0,.nils,.nils])],[]⟩:LSt U):=by
  intro h
  rw [h] at hd
  simp only [Z59,hd]
  exact V2
 have s:∀ v,ZdI true y1 y2=some v->YZ cfg Tryz.f135.ntmps Tryz.f135.results.toList (Z59 (y1,y2,())) [] .ret (⟨[(4,.ptr (.loc 4) 0),(5,.c (.bool true))],[((.loc 4),[.int .i64 (Tree.kind (Z6 v)),.slice (U:=U) .u64 (Tree.words (Z6 v)) .unk,.slice (U:=U) .tree (Tree.kids (Z6 v)) .unk])],[]⟩:LSt U):=by
  intro v h
  rw [h] at hd
  simp only [Z59,hd]
  exact V2
 unfold ZdI at aa no s
 refine ⟨fun hk=> ?_,fun hk=> ⟨fun ah=> ?_,fun ah=> ⟨fun aj=> ?_,fun aj=> ⟨fun al=> ?_,fun al=> ?_⟩⟩⟩⟩
 .rw [if_pos hk] at aa no s
  exact ⟨by simp only [Z0W];omega,s _ rfl⟩
 .rw [if_neg hk,if_pos ah] at aa no s
  refine ⟨by simp only [Z4j];omega,fun hs=> no (by rw [hs];rfl),fun hs=> ?_⟩
  rw [if_pos hs] at aa s
  exact ⟨by simp only [Z0W];omega,s _ rfl⟩
 .rw [if_neg hk,if_neg ah,if_pos aj] at aa no s
  refine ⟨by simp only [Z6S];grind,by simp only [Zfb];omega,fun hs=> no ?_,fun hs=> ?_⟩
  .have hs:Z43 true y1 y2=none:=by simpa using hs
   exact hs
  .obtain ⟨u,hu⟩:=Qx.1 hs
   have e5:y5=u:=by rw [ay,hu];try rfl
   subst e5
   exact ⟨by simp only [Z0W];exact aa _ hu,s _ hu⟩
 .rw [if_neg hk,if_neg ah,if_neg aj,if_pos al] at aa no s
  have e2:∀ o,Z0H (Z1u true y1 y2)=o->(if y2.kind=y1.list then (Z0H (ZE true y1.ops y2.kids [])).map fun b=> Tree.mk y1.list [] b else none)=o.map fun b=> Tree.mk y1.list [] b:=by
   intro o ho
   unfold Z1u at ho
   split
   .grind
   .rename_i h;rw [if_neg h] at ho;rw [<-ho];try rfl
  refine ⟨by simp only [Z6R];grind,by simp only [Zfb];omega,fun hs=> no ?_,fun hs=> ?_⟩
  .simp_all
  .obtain ⟨l,hl⟩:=Qx.1 hs
   have e6:y6= .mk y1.list [] l:=by rw [aq,Zzp hl]
   subst e6
   have e3:=e2 _ hl
   exact ⟨by simp only [Z0W];exact aa _ e3,s _ e3⟩
 grind
theorem ZHG:ZFw:=by
 intro N e t _ hp hN
 simp only [Z6S,Zfb] at hp hN
 obtain ⟨k2,⟨p1,p2,d,p3⟩,p4,p5⟩:=hp
 have h1:=Yq e
 have h2:=Ym e.kids
 have h3:=ZpX t
 have h4:=ZD t.kids
 have r2:=Z4M p2
 have rt:=ZkY p5
 have ri:=Zd p3
 have no:Z43 true e t=none->YZ cfg Tryz.f184.ntmps Tryz.f184.results.toList (Z58 (e,t,())) [] .ret (⟨[(4,.ptr (.loc 4) 0),(5,.c (.bool false))],[((.loc 4),[.int .i64 0,.nils,.nils])],[]⟩:LSt U):=by
  intro hs
  simp only [Z58,hs]
  exact V2
 refine ZJf _ _ _ _ ?_
 rintro y1 aw y2 av
 (simp only [iB,vcT,vcS])
 refine ⟨fun hk=> no (by unfold Z43;rw [if_neg hk]),fun hk=> ?_⟩
 have hk:t.kind=1:=by simpa using hk
 rw [show Int.toNat ((e.words.length:Int) - 1)=e.words.length - 1 by omega] at aw
 rw [show Int.toNat ((e.kids.length:Int) - 1)=e.kids.length - 1 by omega] at av
 have wm:0 < e.words.length->y1∈e.words:=fun h=> by rw [aw];exact Zh V1 _
 have km:0 < e.kids.length->y2∈e.kids:=fun h=> by rw [av];exact Zh V1 _
 have wr:0 < e.words.length->0<=y1.at_/\y1.at_<=65534:=fun h=> by have:=Yj ri.words y1 (wm h);omega
 have kr:0 < e.kids.length->0<=y2.at_/\y2.at_<=65534:=fun h=> by have:=Zk ri.kids y2 (km h);omega
 have go:∀ n m:Int,n=(if 0 < e.words.length/\(t.words.length:Int)<=y1.at_ then y1.at_+1 else (t.words.length:Int))->m=(if 0 < e.kids.length/\(t.kids.length:Int)<=y2.at_ then y2.at_+1 else (t.kids.length:Int))->
   Zi (Zw2 N [1,1,1,1,1,1,1,0,1,0,0]) (Z1a e t m n 0 0 []) (AExit.inBlock 0 (ZAN N [1,1,1,1,1,1,1,1] (YZ cfg Tryz.f184.ntmps Tryz.f184.results.toList (Z58 (e,t,())) []))):=by
  intro n m hn hm
  have ln:n<=t.words.length+65536:=by
   rw [hn];split
   .rename_i h;have:=wr h.1;omega
   .omega
  have lm:m<=t.kids.length+65536:=by
   rw [hm];split
   .rename_i h;have:=kr h.1;omega
   .omega
  rw [aw] at hn
  rw [av] at hm
  have i0:=Mg.init (z:=0) (f:=fun w=> if mix 0 (t.words.getD w.at_.toNat 0) w.mask=w.old then some (mix (t.words.getD w.at_.toNat 0) w.new w.mask) else none) (WEdit.mk 0 0 0 0) (Z00 ri.words) hn
  have j0:=Mg.init (z:=Tree.nil) (f:=Z0L true t.kids) (KidOf.mk 0 Edit.nil) (Z0F ri.kids) hm
  refine Z7 (ι:=Int × Int × List Int) (fun s=> Z1a e t m n s.1 s.2.1 s.2.2) (fun s=> Mg 0 (fun w=> if mix 0 (t.words.getD w.at_.toNat 0) w.mask=w.old then some (mix (t.words.getD w.at_.toNat 0) w.new w.mask) else none) WEdit.at_ t.words e.words n s.1 s.2.1 s.2.2) (fun s=> (n - s.2.1).toNat) (0,0,[]) rfl i0 ?_
  rintro ⟨a,i,out⟩ hI
  dsimp only at hI
  have q1:=hI.i0;have q2:=hI.a0;have q3:=hI.len
  refine Zwu _ _ _ _ _ _ _ _ _ _ ?_
  rintro z1 bg z2 al
  subst bg
  have hw:Ji z1 i=z1.words.getD i.toNat 0:=Z6h z1 V1
  have bc:=Zr4 rt.2.1 i.toNat
  rw [hw]
  unfold isW at bc
  (simp only [iB,vcT,vcS])
  refine ⟨fun hi=> ⟨by simp only [Zhr];omega,fun h=> ⟨V1,h⟩,fun hg=> ⟨⟨V1,hg.1⟩,?_⟩,fun hg=> ⟨by simp only [Qs];omega,V5,(a,i+1,out++[z1.words.getD i.toNat 0]),rfl,?_,V4⟩⟩,fun hi=> ?_⟩
  .have ab:z2∈e.words:=by rw [al];exact Zh V1 _
   obtain ⟨g1,g2,g3,g4⟩:=r2.2.2.2.1 z2 ab
   unfold isW at g3 g4
   have hf:∀ v,(if mix 0 (z1.words.getD z2.at_.toNat 0) z2.mask=z2.old then some (mix (z1.words.getD z2.at_.toNat 0) z2.new z2.mask) else none)=v->(fun w:WEdit=> if mix 0 (z1.words.getD w.at_.toNat 0) w.mask=w.old then some (mix (z1.words.getD w.at_.toNat 0) w.new w.mask) else none) (e.words.getD a.toNat (WEdit.mk 0 0 0 0))=v:=by
    intro v hv;rw [<-al];exact hv
   rw [hg.2] at hf
   refine ⟨by simp only [Z7Q];omega,fun ai=> no ?_,fun ah=> ?_⟩
   .have:=hI.none (WEdit.mk 0 0 0 0) hg.1 (hf _ (if_neg ai))
    unfold Z43
    rw [if_pos hk,Zdm,this]
    try rfl
   .have ah:mix 0 (z1.words.getD i.toNat 0) z2.mask=z2.old:=by simpa using ah
    have:=hI.edit (WEdit.mk 0 0 0 0) hi hg.1 (by rw [<-al];exact hg.2) (hf _ (if_pos ah))
    exact ⟨by simp only [Z7Q];omega,V5,by simp only [List.length_singleton];omega,V5,(a+1,i+1,out++[mix (z1.words.getD i.toNat 0) z2.new z2.mask]),rfl,this,V4⟩
  .refine hI.plain (WEdit.mk 0 0 0 0) hi (fun h=> ?_)
   rw [<-al] at h
   rcases hg with hg | hg
   .exact hg h.1
   .exact hg h.2
  .have ax:=hI.fin hi
   rw [<-Zdm] at ax
   refine Z7 (ι:=Int × Int × List Tree) (fun s=> Z5Y e z1 m out s.1 s.2.1 s.2.2) (fun s=> Mg Tree.nil (Z0L true z1.kids) KidOf.at_ z1.kids e.kids m s.1 s.2.1 s.2.2) (fun s=> (m - s.2.1).toNat) (0,0,[]) rfl j0 ?_
   rintro ⟨b,j,ks⟩ hJ
   dsimp only at hJ
   have w1:=hJ.i0;have w2:=hJ.a0;have w3:=hJ.len
   refine Zwt _ _ _ _ _ _ _ _ _ _ ?_
   rintro x1 be x2 am x4 a7 x5 ak x6 a4
   subst be
   have a3:Z0z x1 j=x1.kids.getD j.toNat Tree.nil:=Zed x1 V1
   rw [a3] at ak
   (simp only [iB,vcT,vcS])
   refine ⟨fun hj=> ⟨by simp only [Zhr];omega,fun h=> ⟨V1,h⟩,fun hg=> ⟨⟨V1,hg.1⟩,?_⟩,fun hg=> ⟨by simp only [Qs];omega,V5,(b,j+1,ks++[x5]),rfl,?_,V4⟩⟩,fun hj=> ?_⟩
   .have ab:x2∈e.kids:=by rw [am];exact Zh V1 _
    have a5:=Zk ri.kids x2 ab
    have hm:=Ja ab
    have bf:=Zde ab
    have b2:=Z0f e
    have hr:=(YB r2.2.2.2.2.2.1 ab).2
    have bj:=Z5O x1.kids j.toNat
    have a1:=ZfU rt.2.2 j.toNat
    rw [<-ak] at bj a1
    rw [<-a7] at hm hr a5 bf
    have hf:∀ v,doE true x4 x5=v->Z0L true x1.kids (e.kids.getD b.toNat (KidOf.mk 0 Edit.nil))=v:=by
     intro v hv
     rw [<-am,Z2k,hg.2,<-ak,<-a7];exact hv
    refine ⟨by simp only [Z5F];exact ⟨⟨V1,hr,_,a5.2⟩,V1,a1⟩,by simp only [Zj0];omega,fun ai=> no ?_,fun ah=> ?_⟩
    .have ai:doE true x4 x5=none:=by simpa using ai
     have:=hJ.none (KidOf.mk 0 Edit.nil) hg.1 (hf _ ai)
     unfold Z43
     rw [if_pos hk,ax,Qb,Z9U,this]
     try rfl
    .obtain ⟨u,hu⟩:=Qx.1 ah
     have:=hJ.edit (KidOf.mk 0 Edit.nil) hj hg.1 (by rw [<-am];exact hg.2) (hf _ hu)
     rw [hu] at a4
     have e6:x6=u:=a4
     subst e6
     exact ⟨V5,by simp only [List.length_singleton];omega,V5,(b+1,j+1,ks++[x6]),rfl,this,V4⟩
   .rw [ak]
    refine hJ.plain (KidOf.mk 0 Edit.nil) hj (fun h=> ?_)
    rw [<-am] at h
    rcases hg with hg | hg
    .exact hg h.1
    .exact hg h.2
   .have a2:=hJ.fin hj
    rw [<-Z9U] at a2
    have hs:Z43 true e x1=some (.mk 1 out ks):=by
     unfold Z43
     rw [if_pos hk,ax,Qb,a2]
     try rfl
    simp only [Z58,hs]
    exact V2
 have kk:∀ n:Int,n=(if 0 < e.words.length/\(t.words.length:Int)<=y1.at_ then y1.at_+1 else (t.words.length:Int))->_:=fun n hn=>
  And.intro (fun (_:(0:Int) < e.kids.length)=> show InR ((e.kids.length:Int) - 1) by unfold InR;omega) (And.intro (fun (_:(0:Int) < e.kids.length)=> show (0:Int)<=(e.kids.length:Int) - 1/\(e.kids.length:Int) - 1 < e.kids.length by omega) (And.intro
   (fun (h:(0:Int) < e.kids.length/\(t.kids.length:Int)<=y2.at_)=> And.intro (show InR ((e.kids.length:Int) - 1) by unfold InR;omega) (And.intro (show (0:Int)<=(e.kids.length:Int) - 1/\(e.kids.length:Int) - 1 < e.kids.length by omega) (And.intro (show InR (y2.at_+1) by have:=kr V1;unfold InR;omega) (go n (y2.at_+1) hn (by rw [if_pos ⟨V1,h.2⟩])))))
   (fun (h:¬(0:Int) < e.kids.length\/¬(t.kids.length:Int)<=y2.at_)=> go n t.kids.length hn (by rw [Jv]))))
 refine ⟨fun _=> by unfold InR;omega,fun _=> by omega,fun hw=> ⟨V5,V1,by have:=wr V1;unfold InR;omega,kk _ (by rw [if_pos ⟨V1,hw.2⟩])⟩,fun hw=> kk _ (by rw [Jv])⟩
theorem ZiV{list:Int}{o:Op}{d:Int}(h:Za list o d=true):(o.kind=0/\(1<=o.n/\o.n<=1048576)/\o.l=[])\/(o.kind=1/\o.n=0)\/(o.kind=2/\o.n=0)\/(o.kind=3/\o.n=0/\o.l=[]/\Z1 o.e d=true):=by
 have r:=Zu h
 cases r with
 | keep n h1 h2=> grind
 | gone=> grind
 | come=> grind
 | into e h1=> grind
theorem Zjn{α:Type}{l:List α}{n:Nat}(h:n < l.length)(d:α):l.take (n+1)=l.take n++[l.getD n d]:=by
 simp_all
theorem Ziv{α:Type}(l:List α)(m n:Nat)(d:α):(l.drop m).getD n d=l.getD (m+n) d:=by
 grind
theorem ZHF:ZFv:=by
 intro N e t _ hp hN
 simp only [Z6R,Zfb] at hp hN
 obtain ⟨k3,⟨p1,p2,d,p3⟩,p4,p5⟩:=hp
 have h1:=Yq e
 have h2:=ZQ e.ops
 have h3:=ZpX t
 have h4:=ZD t.kids
 have r2:=Z4M p2
 have rt:=ZkY p5
 have ri:=Zd p3
 refine ZJe _ _ _ _ ?_
 (simp only [iB,vcT,vcS])
 have no:Z1u true e t=none->YZ cfg Tryz.f185.ntmps Tryz.f185.results.toList (Z6F (e,t,())) [] .ret (⟨[(4,.ptr (.loc 4) 0),(5,.c (.bool false))],[((.loc 4),[.int .i64 0,.nils,.nils])],[]⟩:LSt U):=by
  intro hs
  simp only [Z6F,hs]
  exact V2
 refine ⟨fun hk=> no (by unfold Z1u;rw [if_neg hk]),fun hk=> ?_⟩
 have hk:t.kind=e.list:=by simpa using hk
 have bk:Z1u true e t=ZE true e.ops t.kids []:=by unfold Z1u;rw [if_pos hk]
 refine Z7 (ι:=Int × Int × List Tree) (fun s=> Z2F e t s.1 s.2.1 s.2.2)
  (fun s=> (0<=s.1/\s.1<=t.kids.length)/\(0<=s.2.1/\s.2.1<=e.ops.length)/\ZE true (e.ops.drop s.2.1.toNat) (t.kids.drop s.1.toNat) s.2.2=Z1u true e t/\(s.2.2.length:Int)+(t.kids.length - s.1)+Zg (e.ops.drop s.2.1.toNat)<=t.kids.length+Zg e.ops)
  (fun s=> ((e.ops.length:Int) - s.2.1).toNat) (0,0,[]) rfl ⟨by simp,by simp,by simp [bk],by simp⟩ ?_
 rintro ⟨at_,i,out⟩ ⟨⟨a1,a2⟩,⟨f1,f2⟩,f3,f4⟩
 dsimp only at a1 a2 f1 f2 f3 f4
 refine Zws _ _ _ _ _ _ _ _ ?_
 (simp only [iB,vcT,vcS])
 refine ⟨fun hi=> ⟨⟨f1,hi⟩,?_⟩,fun hi=> ?_⟩
 .have aj:=Zh (l:=e.ops) (i:=i.toNat) V1 Op.nil
  rw [ZS f1 hi Op.nil] at f3 f4
  have fin:∀ (a:Int) (m:List Tree),(0<=a/\a<=t.kids.length)->ZE true (e.ops.drop (i+1).toNat) (t.kids.drop a.toNat) m=Z1u true e t->(m.length:Int)+(t.kids.length - a)+Zg (e.ops.drop (i+1).toNat)<=t.kids.length+Zg e.ops->∀ s2,s2=Z2F e t a (i+1) m->
    ∃ j:Int × Int × List Tree,s2=Z2F e t j.1 j.2.1 j.2.2/\((0<=j.1/\j.1<=t.kids.length)/\(0<=j.2.1/\j.2.1<=e.ops.length)/\ZE true (e.ops.drop j.2.1.toNat) (t.kids.drop j.1.toNat) j.2.2=Z1u true e t/\(j.2.2.length:Int)+(t.kids.length - j.1)+Zg (e.ops.drop j.2.1.toNat)<=t.kids.length+Zg e.ops)/\((e.ops.length:Int) - j.2.1).toNat < ((e.ops.length:Int) - i).toNat:=by
   rintro a m b1 b2 b3 _ rfl
   exact ⟨(a,i+1,m),rfl,⟨b1,⟨V4,V4⟩,b2,b3⟩,V4⟩
  generalize hy:e.ops.getD i.toNat Op.nil=y1 at*
  have hr:=Go.AM.rightOs_mem ri.ops y1 aj
  have hm:=ZW aj
  have bl:=Z8r aj
  have b0:=Z0f e
  have bi:=ZR y1
  have a8:=Z0j (JL r2.2.2.2.2.2.2 aj)
  have cg:=ZD y1.l
  simp only [Zg] at f4
  rw [Zkl,Yr] at f3
  have be:(t.kids.drop at_.toNat).length=t.kids.length - at_.toNat:=Qv ..
  rcases ZiV hr with ⟨k0,hn,hl⟩ | ⟨k1,hn⟩ | ⟨k2,hn⟩ | ⟨k3',hn,hl,hre⟩
  ·-- kids are kept
   rw [if_pos k0] at f3
   refine Z7 (ι:=Int × Int × List Tree) (fun s=> Z2E e t i s.1 s.2.1 s.2.2) (fun s=> (0<=s.2.1/\s.2.1<=y1.n)/\s.1=at_+s.2.1/\s.1<=t.kids.length/\s.2.2=out++(t.kids.drop at_.toNat).take s.2.1.toNat) (fun s=> (y1.n - s.2.1).toNat) (at_,0,out) rfl ⟨by simp;omega,by simp,by simp;omega,by simp⟩ ?_
   rintro ⟨a,q,m⟩ ⟨⟨c1,c2⟩,c3,c4,c5⟩
   dsimp only at c1 c2 c3 c4 c5
   refine Zbn _ _ _ _ _ _ _ _ _ _ ?_
   rintro z1 ab z2 ar
   rw [hy] at ab
   subst ab
   (simp only [iB,vcT,vcS])
   have a7:(m.length:Int)<=out.length+q:=by rw [c5];simp only [Q7,Qu];omega
   refine ⟨fun hg=> ⟨fun hx=> no ?_,fun hx=> ⟨V1,by simp only [Qs];omega,V5,V5,(a+1,q+1,m++[z2]),rfl,⟨V4,V4,V4,?_⟩,V4⟩⟩,fun hg=> ?_⟩
   .rw [Jv] at f3
    exact f3.symm
   .dsimp only
    rw [show (q+1).toNat=q.toNat+1 by omega,Zjn V1 Tree.nil,Ziv,show at_.toNat+q.toNat=a.toNat by omega,<-ar,c5,Qc]
   .have hq:q=z1.n:=V1
    subst hq
    rw [V0,Qb,Xu,show at_.toNat+z1.n.toNat=a.toNat by omega,<-c5] at f3
    dsimp only at f3
    refine Z7 (ι:=Unit) (fun _=> Z1Y e t i 0 a m) (fun _=> True) (fun _=> 0) () rfl trivial ?_
    intro _ _
    refine Zbm _ _ _ _ _ _ _ _ _ _ ?_
    rintro w1 ae w2 af w3 aq w4 ak w5 ah w6 ao w7 am
    rw [hy] at ae
    subst ae
    rw [hl]
    (simp only [iB,vcT,vcS])
    exact ⟨fun h=> absurd h (by simp),fun _=> ⟨fun h=> absurd h V1,fun _=> ⟨V5,fin _ _ V1 f3 V1 _ rfl⟩⟩⟩
  ·-- kids are gone
   rw [Jv,if_pos k1] at f3
   refine Z7 (ι:=Unit) (fun _=> Z2E e t i at_ 0 out) (fun _=> True) (fun _=> 0) () rfl trivial ?_
   intro _ _
   refine Zbn _ _ _ _ _ _ _ _ _ _ ?_
   rintro z1 ab z2 ar
   rw [hy] at ab
   subst ab
   (simp only [iB,vcT,vcS])
   refine ⟨fun hg=> absurd hg.1 V1,fun _=> ?_⟩
   refine Z7 (ι:=Int × Int) (fun s=> Z1Y e t i s.1 s.2 out) (fun s=> (0<=s.1/\s.1<=z1.l.length)/\s.2=at_+s.1/\s.2<=t.kids.length/\∀ j:Nat,(j:Int) < s.1->Z6 (t.kids.getD (at_.toNat+j) Tree.nil)=Z6 (z1.l.getD j Tree.nil)) (fun s=> ((z1.l.length:Int) - s.1).toNat) (0,at_) rfl ⟨by simp,by simp,by simp;omega,fun j hj=> by simp at hj;omega⟩ ?_
   rintro ⟨q,a⟩ ⟨⟨c1,c2⟩,c3,c4,c5⟩
   dsimp only at c1 c2 c3 c4 c5
   refine Zbm _ _ _ _ _ _ _ _ _ _ ?_
   rintro w1 ae w2 af w3 aq w4 ak w5 ah w6 ao w7 am
   rw [hy] at ae
   subst ae aq ao
   (simp only [iB,vcT,vcS])
   have bn:JR w1.l (t.kids.drop at_.toNat)=false->Z1u true e t=none:=by
    intro h
    rw [h,if_neg (by simp)] at f3
    exact f3.symm
   have m2:=Z5O t.kids a.toNat
   have m5:=Z5O w1.l q.toNat
   rw [<-af] at m2
   rw [<-ah] at m5
   refine ⟨fun hq=> ⟨fun h=> absurd h V1,fun _=> ⟨fun _=> by omega,fun _=> by omega,fun _=> by simp only [Z4j];omega,fun h=> no (bn ?_),fun h=> ⟨V5,V5,(q+1,a+1),rfl,⟨V4,V4,V4,fun j hj=> ?_⟩,V4⟩⟩⟩,fun hq=> ⟨fun h=> absurd h V1,fun _=> ⟨V5,?_⟩⟩⟩
   .unfold JR
    by_cases hx:w1.l.length<=(t.kids.drop at_.toNat).length
    .rw [decide_eq_true hx,X2]
     refine Z5m fun hh=> ?_
     have h3:YM (Z6 w3) (Z6 w6)=false:=by
      rcases h with h | h
      .omega
      .exact h
     rw [Jk] at h3
     apply h3
     have:=Z8i (d:=Tree.nil) hh q.toNat
     rw [af,ah,this,Qp,Qp,QY,V0,Qw,show at_.toNat+q.toNat=a.toNat by omega]
    .rw [decide_eq_false hx];try rfl
   .by_cases hj2:(j:Int) < q
    .exact c5 j hj2
    .have e1:at_.toNat+j=a.toNat:=by dsimp only at hj;omega
     have e2:j=q.toNat:=by dsimp only at hj;omega
     rw [e1,e2,<-af,<-ah]
     exact Yk.1 h.2
   .have hq:q=w1.l.length:=V1
    subst hq
    have Z0y:JR w1.l (t.kids.drop at_.toNat)=true:=by
     unfold JR
     rw [decide_eq_true V1,X2,Z07]
     refine Zfi Tree.nil (by rw [Qu];omega) fun j hj=> ?_
     rw [<-c5 j V1,Qp,Qp,QY,if_pos hj,Qw]
    rw [Z0y,if_pos rfl,Qb,Xu,show at_.toNat+w1.l.length=a.toNat by omega] at f3
    dsimp only at f3
    exact fin _ _ V1 f3 V1 _ rfl
  ·-- kids come
   rw [Jv,Jv,if_pos k2,Qb] at f3
   refine Z7 (ι:=Unit) (fun _=> Z2E e t i at_ 0 out) (fun _=> True) (fun _=> 0) () rfl trivial ?_
   intro _ _
   refine Zbn _ _ _ _ _ _ _ _ _ _ ?_
   rintro z1 ab z2 ar
   rw [hy] at ab
   subst ab
   (simp only [iB,vcT,vcS])
   refine ⟨fun hg=> absurd hg.1 V1,fun _=> ?_⟩
   refine Z7 (ι:=Int × List Tree) (fun s=> Z1Y e t i s.1 at_ s.2) (fun s=> (0<=s.1/\s.1<=z1.l.length)/\s.2=out++z1.l.take s.1.toNat) (fun s=> ((z1.l.length:Int) - s.1).toNat) (0,out) rfl ⟨by simp,by simp⟩ ?_
   rintro ⟨q,m⟩ ⟨⟨c1,c2⟩,c5⟩
   dsimp only at c1 c2 c5
   refine Zbm _ _ _ _ _ _ _ _ _ _ ?_
   rintro w1 ae w2 af w3 aq w4 ak w5 ah w6 ao w7 am
   rw [hy] at ae
   subst ae ao
   (simp only [iB,vcT,vcS])
   have a7:(m.length:Int)<=out.length+q:=by rw [c5];simp only [Q7,Qu];omega
   refine ⟨fun hq=> ⟨fun _=> ⟨V1,by simp only [Qs];omega,V5,(q+1,m++[w6]),rfl,⟨V4,?_⟩,V4⟩,fun h=> absurd k2 h⟩,fun hq=> ⟨fun h=> absurd h V1,fun _=> ⟨V5,?_⟩⟩⟩
   .dsimp only
    rw [show (q+1).toNat=q.toNat+1 by omega,Zjn V1 Tree.nil,<-ah,c5,Qc]
   .rw [show q.toNat=w1.l.length by omega,List.take_length] at c5
    rw [<-c5] at f3
    dsimp only at f3
    exact fin _ _ V1 f3 V1 _ rfl
  ·-- what is within a kid
   rw [Jv,Jv,Jv] at f3
   refine Z7 (ι:=Unit) (fun _=> Z2E e t i at_ 0 out) (fun _=> True) (fun _=> 0) () rfl trivial ?_
   intro _ _
   refine Zbn _ _ _ _ _ _ _ _ _ _ ?_
   rintro z1 ab z2 ar
   rw [hy] at ab
   subst ab
   (simp only [iB,vcT,vcS])
   refine ⟨fun hg=> absurd hg.1 V1,fun _=> ?_⟩
   refine Z7 (ι:=Unit) (fun _=> Z1Y e t i 0 at_ out) (fun _=> True) (fun _=> 0) () rfl trivial ?_
   intro _ _
   refine Zbm _ _ _ _ _ _ _ _ _ _ ?_
   rintro w1 ae w2 af w3 aq w4 ak w5 ah w6 ao w7 am
   rw [hy] at ae
   subst ae aq
   rw [hl]
   (simp only [iB,vcT,vcS])
   have hz:w3=(t.kids.drop at_.toNat).getD 0 Tree.nil:=by rw [Ziv,XI];exact af
   have m2:=Z5O t.kids at_.toNat
   have g2:=ZfU rt.2.2 at_.toNat
   rw [<-af] at m2 g2
   rw [<-ak] at hre bi a8 bl
   refine ⟨fun h=> absurd h (by simp),fun _=> ⟨fun _=> ⟨fun hx=> no ?_,fun hx=> ⟨V1,by simp only [Z5F];exact ⟨⟨V1,a8.2.2.2,_,hre⟩,V1,g2⟩,by simp only [Zj0];omega,fun av=> no ?_,fun bd=> ?_⟩⟩,fun h=> absurd k3' h⟩⟩
   .rw [V0] at f3
    exact f3.symm
   .rw [Jv,<-hz,<-ak] at f3
    have av:doE true w4 w3=none:=by simpa using av
    rw [av] at f3
    exact f3.symm
   .obtain ⟨u,hu⟩:=Qx.1 bd
    rw [hu] at am
    have e7:w7=u:=am
    subst e7
    rw [Jv,<-hz,<-ak,hu,Qf,Qb,Xu,show at_.toNat+1=(at_+1).toNat by omega] at f3
    dsimp only at f3
    exact ⟨by simp only [Qs];omega,V5,V5,fin _ _ V1 f3 (by simp only [List.length_append,List.length_singleton];omega) _ rfl⟩
 .rw [Q6 V1,ZE] at f3
  simp only [Z6F,<-f3,ZlE,Z0H,Qb,hk]
  by_cases hr:at_=t.kids.length
  .rw [if_pos (by rw [Qv];omega),hr]
   simp only [beq_self_eq_true]
   exact V2
  .rw [if_neg (by rw [Qv];omega),show (at_==(t.kids.length:Int))=false by rw [beq_eq_false_iff_ne];omega]
   exact V2
theorem ZKf:Contract Tryz.prog cfg 135 Z4H/\Contract Tryz.prog cfg 184 Zro/\Contract Tryz.prog cfg 185 Zrn:=ZyK c41 ZvM ZH1 ZvO ZH0 ZHL ZHG ZHF
theorem ZHr:Contract Tryz.prog cfg 135 Z4H:=ZKf.1
noncomputable section
def Zg9:ArgM ((List Op × List Tree × List Tree × Unit) × Unit):=(.obj 0 (.cons (cWr .op 0 0) (.cons (Zmg .tree 0 1) (.cons (Zmg .tree 0 2) .nil))) .nil)
def Z7P(a:(List Op × List Tree × List Tree × Unit) × Unit):Prop:=(a.1.1).length<=200000000000/\(a.1.2.1).length<=200000000000/\(a.1.2.2.1).length<=200000000000
def ZdE(a:(List Op × List Tree × List Tree × Unit) × Unit):V U:= .tup []
def Z8P(a:(List Op × List Tree × List Tree × Unit) × Unit):List (List (C U)):=[[.mref (.x 0 0),sU .tree ((Zb (Wst.mk a.1.1 a.1.2.1 a.1.2.2.1)).gone) (.own (.x 0 1)),sU .tree ((Zb (Wst.mk a.1.1 a.1.2.1 a.1.2.2.1)).brought) (.own (.x 0 2))]]
def Z8Q(a:(List Op × List Tree × List Tree × Unit) × Unit):List (Tok × LC U):=[(.x 0 0,LC.mk (U:=U) .op ((Zb (Wst.mk a.1.1 a.1.2.1 a.1.2.2.1)).out) 0)]
def Z3j:Fs U:=Zqx Zg9 (fun a=> [Z7P a]) ZdE Z8P Z8Q
def Zgb:ArgM ((List Op × List Tree × List Tree × Unit) × Int × Unit):=(.obj 0 (.cons (cWr .op 0 0) (.cons (Zmg .tree 0 1) (.cons (Zmg .tree 0 2) .nil))) (.cons (Z0h .i64) .nil))
def ZaQ(a:(List Op × List Tree × List Tree × Unit) × Int × Unit):Prop:=(a.1.1).length<=200000000000/\(a.1.2.1).length<=200000000000/\(a.1.2.2.1).length<=200000000000/\(∀ o∈a.1.1,0<=o.n/\o.n<=100000000000000000)/\0<=a.2.1/\a.2.1<=1048576
def Zpn(a:(List Op × List Tree × List Tree × Unit) × Int × Unit):V U:= .tup []
def Zl5(a:(List Op × List Tree × List Tree × Unit) × Int × Unit):List (List (C U)):=[[.mref (.x 0 0),sU .tree ((Y2 (Wst.mk a.1.1 a.1.2.1 a.1.2.2.1) a.2.1).gone) (.own (.x 0 1)),sU .tree ((Y2 (Wst.mk a.1.1 a.1.2.1 a.1.2.2.1) a.2.1).brought) (.own (.x 0 2))]]
def Zl6(a:(List Op × List Tree × List Tree × Unit) × Int × Unit):List (Tok × LC U):=[(.x 0 0,LC.mk (U:=U) .op ((Y2 (Wst.mk a.1.1 a.1.2.1 a.1.2.2.1) a.2.1).out) 0)]
def Z8H:Fs U:=Zqx Zgb (fun a=> [ZaQ a]) Zpn Zl5 Zl6
def Zga:ArgM ((List Op × List Tree × List Tree × Unit) × List Tree × Unit):=(.objAt 0 1 (.cons (cWr .op 0 0) (.cons (Zmg .tree 0 1) (.cons (Zmg .tree 0 2) .nil))) (.cons (aSl .tree) .nil))
def Zhz(a:(List Op × List Tree × List Tree × Unit) × List Tree × Unit):Prop:=(a.1.1).length<=200000000000/\(a.1.2.1).length<=200000000000/\(a.1.2.2.1).length<=200000000000/\Ze a.2.1<=20000000000
def Zy4(a:(List Op × List Tree × List Tree × Unit) × List Tree × Unit):V U:= .tup []
def ZrM(a:(List Op × List Tree × List Tree × Unit) × List Tree × Unit):List (List (C U)):=[[.mref (.x 0 0),sU .tree ((Wst.mk a.1.1 (a.1.2.1++Z8 a.2.1) a.1.2.2.1).gone) (.own (.x 0 1)),sU .tree ((Wst.mk a.1.1 (a.1.2.1++Z8 a.2.1) a.1.2.2.1).brought) (.own (.x 0 2))]]
def ZrN(a:(List Op × List Tree × List Tree × Unit) × List Tree × Unit):List (Tok × LC U):=[(.x 0 0,LC.mk (U:=U) .op ((Wst.mk a.1.1 (a.1.2.1++Z8 a.2.1) a.1.2.2.1).out) 0)]
def ZkP:Fs U:=Zqx Zga (fun a=> [Zhz a]) Zy4 ZrM ZrN
def Zdh:ArgM ((List Op × List Tree × List Tree × Unit) × List Tree × Unit):=(.objAt 0 2 (.cons (cWr .op 0 0) (.cons (Zmg .tree 0 1) (.cons (Zmg .tree 0 2) .nil))) (.cons (aSl .tree) .nil))
def Znl(a:(List Op × List Tree × List Tree × Unit) × List Tree × Unit):List (List (C U)):=[[.mref (.x 0 0),sU .tree ((Wst.mk a.1.1 a.1.2.1 (a.1.2.2.1++Z8 a.2.1)).gone) (.own (.x 0 1)),sU .tree ((Wst.mk a.1.1 a.1.2.1 (a.1.2.2.1++Z8 a.2.1)).brought) (.own (.x 0 2))]]
def Znm(a:(List Op × List Tree × List Tree × Unit) × List Tree × Unit):List (Tok × LC U):=[(.x 0 0,LC.mk (U:=U) .op ((Wst.mk a.1.1 a.1.2.1 (a.1.2.2.1++Z8 a.2.1)).out) 0)]
def ZgU:Fs U:=Zqx Zdh (fun a=> [Zhz a]) Zy4 Znl Znm
def ZoM:ArgL (Int × Edit × Unit):=(.cons (Z0h .i64) (.cons (aEl .edit) .nil))
def Zc3(a:Int × Edit × Unit):Prop:=a.2.1.words.length<=20000000000/\a.2.1.kids.length<=20000000000
def ZrV(a:Int × Edit × Unit):V U:= .c (.bool (Z8c a.1 a.2.1))
def Z5w:Fs U:=fs ZoM (fun a=> [Zc3 a]) ZrV
def ZfZ(a:Int × Edit × Unit):Prop:=True
def Z5x:Fs U:=fs ZoM (fun a=> [ZfZ a]) ZrV
def Zzf:Zj U:=lvk [([0,7],[((.x 0),[.wr .op])]),([0],[((.x 0),[.wr .op])]),([0,28],[((.x 0),[.wr .op])]),([0],[((.x 0),[.wr .op])]),([],[((.x 0),[.wr .op])])]
abbrev ZLy(wo:List Op)(wg wb:List Tree)(Q:QT):=AW (Z3 Zqg) Tryz.f150 Zzf [] (⟨[(0,.ptr (.x 0) 0)],[(.x 0,[.mref (.x 0 0),sU .tree wg (.own (.x 0 1)),sU .tree wb (.own (.x 0 2))])],[(.x 0 0,LC.mk (U:=U) .op wo 0)]⟩:LSt U) Q
theorem ZJB(wo:List Op)(wg wb:List Tree)(Q:QT)(h:∀ d,d=(Edit.mk 0 (Tree.mk 0 [] []) (Tree.mk 0 [] []) [] [] 0 [])->∀ s,s=(List.set (wo++([(OpOf.mk 0 0 [] d:Op)])) (Int.toNat (wo.length:Int)) (OpOf.mk 1 0 wg d:Op))->let z0:=decide ((0:Int) < (wb.length:Int));iB (decide ((0:Int) < (wg.length:Int))) (((wo.length+([(OpOf.mk 0 0 [] d:Op)]).length)*240<=140737488355328)/\((0:Int)<=(wo.length:Int)/\(wo.length:Int) < ((wo++([(OpOf.mk 0 0 [] d:Op)])).length:Int))/\((0:Nat)<=(Int.toNat (wo.length:Int)))/\(iB z0 (((s.length+([(OpOf.mk 0 0 [] d:Op)]).length)*240<=140737488355328)/\((0:Int)<=(s.length:Int)/\(s.length:Int) < ((s++([(OpOf.mk 0 0 [] d:Op)])).length:Int))/\((0:Nat)<=(Int.toNat (s.length:Int)))/\(Q .normal (⟨[],[(.x 0,[.mref (.x 0 0),.nils,.nils])],[(.x 0 0,LC.mk (U:=U) .op (List.set (s++([(OpOf.mk 0 0 [] d:Op)])) (Int.toNat (s.length:Int)) (OpOf.mk 2 0 wb d:Op)) 0)]⟩:LSt U))) (Q .normal (⟨[],[(.x 0,[.mref (.x 0 0),.nils,.nils])],[(.x 0 0,LC.mk (U:=U) .op s 0)]⟩:LSt U)))) (iB z0 (((wo.length+([(OpOf.mk 0 0 [] d:Op)]).length)*240<=140737488355328)/\((0:Int)<=(wo.length:Int)/\(wo.length:Int) < ((wo++([(OpOf.mk 0 0 [] d:Op)])).length:Int))/\((0:Nat)<=(Int.toNat (wo.length:Int)))/\(Q .normal (⟨[],[(.x 0,[.mref (.x 0 0),.nils,.nils])],[(.x 0 0,LC.mk (U:=U) .op (List.set (wo++([(OpOf.mk 0 0 [] d:Op)])) (Int.toNat (wo.length:Int)) (OpOf.mk 2 0 wb d:Op)) 0)]⟩:LSt U))) (Q .normal (⟨[],[(.x 0,[.mref (.x 0 0),.nils,.nils])],[(.x 0 0,LC.mk (U:=U) .op wo 0)]⟩:LSt U)))):
  ZLy wo wg wb Q:=
 Eq.mpr V6 (h _ rfl _ rfl)
def ZEt(wo:List Op)(wg wb:List Tree):Prop:=AW (Z3 Zqg) Tryz.f150 Zzf [] (Z2i (Zg9.can ((wo,wg,wb,()),())) (Zg9.canX ((wo,wg,wb,()),())) (Zg9.canL ((wo,wg,wb,()),()))) (Z5p cfg Tryz.f150.ntmps Tryz.f150.results.toList (ZdE ((wo,wg,wb,()),())) (Z8P ((wo,wg,wb,()),())) (Z8Q ((wo,wg,wb,()),())))
theorem ZCq(hb:∀ (d:List Op) (h:List Tree) (s:List Tree) (_:Unit),Z7P ((d,h,s,()),())->ZEt d h s):CT 150 Z3j:=
 Z1D (l:=[]) Zo rfl trivial Zzf Tryz.func150 rfl rfl 1 (fun _=> rfl) V3 (fun ⟨⟨d,h,s,_⟩,_⟩=> hb d h s ())
def Ztb:List (FuncId × Fs U):=[(150,Z3j)]
def Zzg:Zj U:=lvk [([0,1],[((.x 0),[.wr .op])]),([0,1,4],[((.x 0),[.wr .op])]),([0,1,4,25],[((.x 0),[.wr .op])]),([],[((.x 0),[.wr .op])]),([],[((.x 0),[.wr .op])])]
abbrev ZLA(wo:List Op)(wg wb:List Tree)(n:Int)(Q:QT):=AW (Z3 Ztb) Tryz.f147 Zzg [] (⟨[(0,.ptr (.x 0) 0),pI 1 n],[(.x 0,[.mref (.x 0 0),sU .tree wg (.own (.x 0 1)),sU .tree wb (.own (.x 0 2))])],[(.x 0 0,LC.mk (U:=U) .op wo 0)]⟩:LSt U) Q
theorem ZJD(wo:List Op)(wg wb:List Tree)(n:Int)(Q:QT)(h:∀ s,s=(Edit.mk 0 (Tree.mk 0 [] []) (Tree.mk 0 [] []) [] [] 0 [])->∀ aa,aa=(Int.toNat (((((Zb (Wst.mk wo wg wb)).out).length:Int):Int) - 1))->∀ d,d=(List.getD ((Zb (Wst.mk wo wg wb)).out) aa Op.nil)->∀ ab,ab=(d.e)->let z1:=Zb (Wst.mk wo wg wb);let z0:=decide ((0:Int)<=((((z1.out).length:Int):Int) - 1));((Z7P ((wo,wg,wb,()),()))/\((InR ((((z1.out).length:Int):Int) - 1))/\((Tt z0)/\(Tt z0)/\(Tt z0)/\(Tt z0)/\(Tt z0)/\(z0=true->(0:Int)<=((((z1.out).length:Int):Int) - 1)/\((((z1.out).length:Int):Int) - 1) < ((z1.out).length:Int))/\(Tt z0)/\(Tt z0)/\(Tt z0)/\(Tt z0)/\(iB (bif z0 then (d.kind==0) else false) (((0:Int)<=((((z1.out).length:Int):Int) - 1)/\((((z1.out).length:Int):Int) - 1) < ((z1.out).length:Int))/\(InR (d.n+n))/\((0:Int)<=((((z1.out).length:Int):Int) - 1)/\((((z1.out).length:Int):Int) - 1) < ((z1.out).length:Int))/\((0:Nat)<=aa)/\(Q .ret (⟨[],[(.x 0,[.mref (.x 0 0),sU .tree (z1.gone) (.own (.x 0 1)),sU .tree (z1.brought) (.own (.x 0 2))])],[(.x 0 0,LC.mk (U:=U) .op (List.set (z1.out) aa (OpOf.mk d.kind (d.n+n) d.l ab:Op)) 0)]⟩:LSt U))) ((((z1.out).length+([(OpOf.mk 0 0 [] s:Op)]).length)*240<=140737488355328)/\((0:Int)<=((z1.out).length:Int)/\((z1.out).length:Int) < (((z1.out)++([(OpOf.mk 0 0 [] s:Op)])).length:Int))/\((0:Nat)<=(Int.toNat ((z1.out).length:Int)))/\(Q .normal (⟨[],[(.x 0,[.mref (.x 0 0),sU .tree (z1.gone) (.own (.x 0 1)),sU .tree (z1.brought) (.own (.x 0 2))])],[(.x 0 0,LC.mk (U:=U) .op (List.set ((z1.out)++([(OpOf.mk 0 0 [] s:Op)])) (Int.toNat ((z1.out).length:Int)) (OpOf.mk 0 n [] s:Op)) 0)]⟩:LSt U)))))))):
  ZLA wo wg wb n Q:=
 Eq.mpr V6 (h _ rfl _ rfl _ rfl _ (Z5 _))
def ZEv(wo:List Op)(wg wb:List Tree)(n:Int):Prop:=AW (Z3 Ztb) Tryz.f147 Zzg [] (Z2i (Zgb.can ((wo,wg,wb,()),n,())) (Zgb.canX ((wo,wg,wb,()),n,())) (Zgb.canL ((wo,wg,wb,()),n,()))) (Z5p cfg Tryz.f147.ntmps Tryz.f147.results.toList (Zpn ((wo,wg,wb,()),n,())) (Zl5 ((wo,wg,wb,()),n,())) (Zl6 ((wo,wg,wb,()),n,())))
theorem ZCs(ZvN:CT 150 Z3j)(hb:∀ (d:List Op) (h:List Tree) (s:List Tree) (n:Int) (_:Unit),ZaQ ((d,h,s,()),n,())->ZEv d h s n):CT 147 Z8H:=
 Z1D (l:=[(150,Z3j)]) Zo rfl (⟨ZvN,trivial⟩) Zzg Tryz.func147 rfl rfl 2 (fun _=> rfl) V3 (fun ⟨⟨d,h,s,_⟩,n,_⟩=> hb d h s n ())
def Zg4:List (FuncId × Fs U):=[(75,Z1g)]
def Zo3:Zj U:=lvk [([0,6,7,8],[((.x 0),[.wr .op])]),([0,6,7,8,9],[((.x 0),[.wr .op])]),([0,5,6,7,8],[5,((.x 0),[.wr .op])]),([0,6,7,8],[((.x 0),[.wr .op])]),([0,6,7,8],[((.x 0),[.wr .op])])]
def Z9A(wo:List Op)(wg wb l:List Tree)(d:Int)(mx0_1:List Tree):LSt U:=(⟨[(0,.ptr (.x 0) 1),(6,.c (sU .tree l .unk)),pI 7 (l.length:Int),pI 8 d],[(.x 0,[.mref (.x 0 0),sU .tree mx0_1 (.own (.x 0 1)),sU .tree wb (.own (.x 0 2))])],[(.x 0 0,LC.mk (U:=U) .op wo 0)]⟩:LSt U)
abbrev ZLz(wo:List Op)(wg wb l:List Tree)(Q:QT):=AW (Z3 Zg4) Tryz.f148 Zo3 [] (⟨[(0,.ptr (.x 0) 1),(1,.c (sU .tree l .unk))],[(.x 0,[.mref (.x 0 0),sU .tree wg (.own (.x 0 1)),sU .tree wb (.own (.x 0 2))])],[(.x 0 0,LC.mk (U:=U) .op wo 0)]⟩:LSt U) Q
theorem ZJC(wo:List Op)(wg wb l:List Tree)(Q:QT)(h:Zi (AW (Z3 Zg4) Tryz.f148 Zo3 [1,0,0]) (Z9A wo wg wb l 0 wg) (xB 0 Q)):
  ZLz wo wg wb l Q:=
 Eq.mpr V6 h
abbrev ZDs(wo:List Op)(wg wb l:List Tree)(d:Int)(mx0_1:List Tree)(N0:NT)(Q:QT):=AW (Z3 Zg4) Tryz.f148 Zo3 [1,0,0] (Z9A wo wg wb l d mx0_1) (xT N0 (xB 0 Q))
theorem ZwT(wo:List Op)(wg wb l:List Tree)(d:Int)(mx0_1:List Tree)(N0:NT)(Q:QT)(h:let z2:=decide (d < (l.length:Int));let z1:=l.getD d.toNat Tree.nil;let z0:=Tree.mk (Tree.kind z1) (Tree.words z1) (Tree.kids z1);iB z2 (((0:Int)<=d/\d < (l.length:Int))/\((Z0W (z0,()))/\((mx0_1.length+([(Tree.mk 0 [] [])]).length)*56<=140737488355328)/\((0:Int)<=(mx0_1.length:Int)/\(mx0_1.length:Int) < ((mx0_1++([(Tree.mk 0 [] [])])).length:Int))/\(mx0_1.length<=(Int.toNat (mx0_1.length:Int)))/\((InR (d+1))/\(N0 (Z9A wo wg wb l (d+1) (List.set (mx0_1++([(Tree.mk 0 [] [])])) (Int.toNat (mx0_1.length:Int)) (Tree.mk (Tree.kind (Z6 z0)) (Tree.words (Z6 z0)) (Tree.kids (Z6 z0))))))))) (Q .normal (⟨[(0,.ptr (.x 0) 1),(6,.c (sU .tree l .unk)),pI 7 (l.length:Int),pI 8 d,pB 9 z2],[(.x 0,[.mref (.x 0 0),sU .tree mx0_1 (.own (.x 0 1)),sU .tree wb (.own (.x 0 2))])],[(.x 0 0,LC.mk (U:=U) .op wo 0)]⟩:LSt U))):
  ZDs wo wg wb l d mx0_1 N0 Q:=
 Eq.mpr V6 h
def ZEu(wo:List Op)(wg wb l:List Tree):Prop:=AW (Z3 Zg4) Tryz.f148 Zo3 [] (Z2i (Zga.can ((wo,wg,wb,()),l,())) (Zga.canX ((wo,wg,wb,()),l,())) (Zga.canL ((wo,wg,wb,()),l,()))) (Z5p cfg Tryz.f148.ntmps Tryz.f148.results.toList (Zy4 ((wo,wg,wb,()),l,())) (ZrM ((wo,wg,wb,()),l,())) (ZrN ((wo,wg,wb,()),l,())))
theorem ZCr(c75:CT 75 Z1g)(hb:∀ (d:List Op) (h:List Tree) (s:List Tree) (l:List Tree) (_:Unit),Zhz ((d,h,s,()),l,())->ZEu d h s l):CT 148 ZkP:=
 Z1D (l:=[(75,Z1g)]) Zo rfl (⟨c75,trivial⟩) Zo3 Tryz.func148 rfl rfl 2 (fun _=> rfl) V3 (fun ⟨⟨d,h,s,_⟩,l,_⟩=> hb d h s l ())
def Z6Y(wo:List Op)(wg wb l:List Tree)(d:Int)(mx0_2:List Tree):LSt U:=(⟨[(0,.ptr (.x 0) 2),(6,.c (sU .tree l .unk)),pI 7 (l.length:Int),pI 8 d],[(.x 0,[.mref (.x 0 0),sU .tree wg (.own (.x 0 1)),sU .tree mx0_2 (.own (.x 0 2))])],[(.x 0 0,LC.mk (U:=U) .op wo 0)]⟩:LSt U)
abbrev ZKm(wo:List Op)(wg wb l:List Tree)(Q:QT):=AW (Z3 Zg4) Tryz.f148 Zo3 [] (⟨[(0,.ptr (.x 0) 2),(1,.c (sU .tree l .unk))],[(.x 0,[.mref (.x 0 0),sU .tree wg (.own (.x 0 1)),sU .tree wb (.own (.x 0 2))])],[(.x 0 0,LC.mk (U:=U) .op wo 0)]⟩:LSt U) Q
theorem ZFP(wo:List Op)(wg wb l:List Tree)(Q:QT)(h:Zi (AW (Z3 Zg4) Tryz.f148 Zo3 [1,0,0]) (Z6Y wo wg wb l 0 wb) (xB 0 Q)):
  ZKm wo wg wb l Q:=
 Eq.mpr V6 h
abbrev ZAM(wo:List Op)(wg wb l:List Tree)(d:Int)(mx0_2:List Tree)(N0:NT)(Q:QT):=AW (Z3 Zg4) Tryz.f148 Zo3 [1,0,0] (Z6Y wo wg wb l d mx0_2) (xT N0 (xB 0 Q))
theorem Zul(wo:List Op)(wg wb l:List Tree)(d:Int)(mx0_2:List Tree)(N0:NT)(Q:QT)(h:let z2:=decide (d < (l.length:Int));let z1:=l.getD d.toNat Tree.nil;let z0:=Tree.mk (Tree.kind z1) (Tree.words z1) (Tree.kids z1);iB z2 (((0:Int)<=d/\d < (l.length:Int))/\((Z0W (z0,()))/\((mx0_2.length+([(Tree.mk 0 [] [])]).length)*56<=140737488355328)/\((0:Int)<=(mx0_2.length:Int)/\(mx0_2.length:Int) < ((mx0_2++([(Tree.mk 0 [] [])])).length:Int))/\(mx0_2.length<=(Int.toNat (mx0_2.length:Int)))/\((InR (d+1))/\(N0 (Z6Y wo wg wb l (d+1) (List.set (mx0_2++([(Tree.mk 0 [] [])])) (Int.toNat (mx0_2.length:Int)) (Tree.mk (Tree.kind (Z6 z0)) (Tree.words (Z6 z0)) (Tree.kids (Z6 z0))))))))) (Q .normal (⟨[(0,.ptr (.x 0) 2),(6,.c (sU .tree l .unk)),pI 7 (l.length:Int),pI 8 d,pB 9 z2],[(.x 0,[.mref (.x 0 0),sU .tree wg (.own (.x 0 1)),sU .tree mx0_2 (.own (.x 0 2))])],[(.x 0 0,LC.mk (U:=U) .op wo 0)]⟩:LSt U))):
  ZAM wo wg wb l d mx0_2 N0 Q:=
 Eq.mpr V6 h
def ZAS(wo:List Op)(wg wb l:List Tree):Prop:=AW (Z3 Zg4) Tryz.f148 Zo3 [] (Z2i (Zdh.can ((wo,wg,wb,()),l,())) (Zdh.canX ((wo,wg,wb,()),l,())) (Zdh.canL ((wo,wg,wb,()),l,()))) (Z5p cfg Tryz.f148.ntmps Tryz.f148.results.toList (Zy4 ((wo,wg,wb,()),l,())) (Znl ((wo,wg,wb,()),l,())) (Znm ((wo,wg,wb,()),l,())))
theorem ZyM(c75:CT 75 Z1g)(hb:∀ (d:List Op) (h:List Tree) (s:List Tree) (l:List Tree) (_:Unit),Zhz ((d,h,s,()),l,())->ZAS d h s l):CT 148 ZgU:=
 Z1D (l:=[(75,Z1g)]) Zo rfl (⟨c75,trivial⟩) Zo3 Tryz.func148 rfl rfl 2 (fun _=> rfl) V3 (fun ⟨⟨d,h,s,_⟩,l,_⟩=> hb d h s l ())
def Zq2:Zj U:=lvl [([0,3],[3]),([4],[])]
abbrev ZKl(list:Int)(e:Edit)(Q:QT):=AW (Z3 Zqg) Tryz.f149 Zq2 [] (L2 [pI 0 list,(1,.agg (enc .edit e))] []) Q
theorem ZFO(list:Int)(e:Edit)(Q:QT)(h:let z2:=(!(e.kind==0)) && (list==9);let z1:=bif (list==9) then (e.kind==2) else false;let z0:=(!(e.kind==0)) && z1;((Tt (!(e.kind==0)))/\(Tt (!(e.kind==0)))/\(Tt z2)/\(Tt z2)/\((!(e.kind==0))=true->(True->(!(e.kind==0))=true))/\((!(e.kind==0))=true->((list==9)=true->z2=true))/\(Tt (!(e.kind==0)))/\(Tt z0)/\(Tt z0)/\(Tt z0)/\(Tt z0)/\(Tt z0)/\(Tt z0)/\(z0=true->InR (((e.words.length:Int):Int)+(e.kids.length:Int)))/\(Tt z0)/\((!(e.kind==0))=true->(True->(!(e.kind==0))=true))/\((!(e.kind==0))=true->(z1=true->z0=true))/\((e.kind==0)=false->(!(e.kind==0))=true)/\(Q .ret (L2 [(4,.c (.bool (bif (e.kind==0) then true else (bif z1 then (((((e.words.length:Int):Int)+(e.kids.length:Int)):Int)==0) else false))))] [])))):
  ZKl list e Q:=
 Eq.mpr V6 h
def ZAR(list:Int)(e:Edit):Prop:=AW (Z3 Zqg) Tryz.f149 Zq2 [] (Zm (ZoM.can (list,e,())) []) (EQ Tryz.f149 (ZrV (list,e,())) [])
theorem ZyL(hb:∀ (list:Int) (e:Edit) (_:Unit),Zc3 (list,e,())->ZAR list e):CT 149 Z5w:=
 Z9 (l:=[]) Zo rfl trivial Zq2 Tryz.func149 rfl rfl 2 (fun _=> rfl) V3 (fun ⟨list,e,_⟩=> hb list e ())
abbrev ZKn(list:Int)(e:Edit)(Q:QT):=AW (Z3 Zqg) Tryz.f128 Zq2 [] (L2 [pI 0 list,(1,.agg (enc .edit e))] []) Q
theorem ZFQ(list:Int)(e:Edit)(Q:QT)(h:let z4:=(!(e.kind==0)) && (e.kind==2);let z1:=bif (e.kind==2) then (list==9) else false;let z2:=(!(e.kind==0)) && z1;let z0:=bif z1 then (((e.words.length:Int):Int)==0) else false;let z3:=(!(e.kind==0)) && z0;((Tt (!(e.kind==0)))/\(Tt (!(e.kind==0)))/\(Tt (!(e.kind==0)))/\(Tt z4)/\((!(e.kind==0))=true->(True->(!(e.kind==0))=true))/\((!(e.kind==0))=true->((e.kind==2)=true->z4=true))/\(Tt (!(e.kind==0)))/\(Tt z2)/\(Tt z2)/\(Tt z2)/\((!(e.kind==0))=true->(True->(!(e.kind==0))=true))/\((!(e.kind==0))=true->(z1=true->z2=true))/\(Tt (!(e.kind==0)))/\(Tt z3)/\(Tt z3)/\(Tt z3)/\((!(e.kind==0))=true->(True->(!(e.kind==0))=true))/\((!(e.kind==0))=true->(z0=true->z3=true))/\((e.kind==0)=false->(!(e.kind==0))=true)/\(Q .ret (L2 [(4,.c (.bool (bif (e.kind==0) then true else (bif z0 then (((e.kids.length:Int):Int)==0) else false))))] [])))):
  ZKn list e Q:=
 Eq.mpr V6 h
def ZAT(list:Int)(e:Edit):Prop:=AW (Z3 Zqg) Tryz.f128 Zq2 [] (Zm (ZoM.can (list,e,())) []) (EQ Tryz.f128 (ZrV (list,e,())) [])
theorem ZyO(hb:∀ (list:Int) (e:Edit) (_:Unit),ZfZ (list,e,())->ZAT list e):CT 128 Z5x:=
 Z9 (l:=[]) Zo rfl trivial Zq2 Tryz.func128 rfl rfl 2 (fun _=> rfl) V3 (fun ⟨list,e,_⟩=> hb list e ())
end
theorem Z46{α:Type}(l:List α)(z x:α):(l++[z]).set (Int.toNat (l.length:Int)) x=l++[x]:=by
 simp_all
theorem Z8a:∀ (F:List Op) (n:Int),JK F n=if F.length≠0/\(F.getD (F.length - 1) Op.nil).kind=0 then F.set (F.length - 1) ⟨(F.getD (F.length - 1) Op.nil).kind,(F.getD (F.length - 1) Op.nil).n+n,(F.getD (F.length - 1) Op.nil).l,(F.getD (F.length - 1) Op.nil).e⟩ else F++[⟨0,n,[],Edit.nil⟩]
 | [],n=> by simp [JK]
 | [o],n=> by simp [JK]
 | o ::p ::r,n=> by
  have d:=Z8a (p ::r) n
  have e:(o ::p ::r).length - 1=((p ::r).length - 1)+1:=by simp
  rw [JK,d,e]
  grind
theorem Z9T(s:Wst):(Zb s).out.length<=s.out.length+2:=by
 simp only [Zb,JZ]
 grind
theorem Z9S(s:Wst):∀ o∈(Zb s).out,o∈s.out\/o.n=0:=by
 intro o d
 simp only [Zb,JZ,Qg] at d
 grind
theorem ZvN:Contract Tryz.prog cfg 150 Z3j:=by
 refine ZCq ?_
 intro d h s _ hp
 simp only [Z7P] at hp
 refine ZJB d h s _ ?_
 rintro y1 ae y2 aa
 have hy:y1=Edit.nil:=ae
 subst hy
 rw [Z46] at aa
 subst aa
 (simp only [iB,vcS])
 refine ⟨fun h1=> ⟨by simp;omega,by simp;omega,V1,fun h2=> ⟨by simp;omega,by simp;omega,V1,?_⟩,fun h2=> ?_⟩,fun h1=> ⟨fun h2=> ⟨by simp;omega,by simp;omega,V1,?_⟩,fun h2=> ?_⟩⟩
 .rw [Z46]
  have e:Zb ⟨d,h,s⟩=⟨d++[⟨1,0,h,Edit.nil⟩]++[⟨2,0,s,Edit.nil⟩],[],[]⟩:=by
   simp only [Zb,JZ];rw [Jv,Jv];simp
  simp only [ZdE,Z8P,Z8Q,e]
  exact V2
 .have e:Zb ⟨d,h,s⟩=⟨d++[⟨1,0,h,Edit.nil⟩],[],[]⟩:=by
   simp only [Zb,JZ];rw [Jv,V0];simp
  simp only [ZdE,Z8P,Z8Q,e]
  exact V2
 .rw [Z46]
  have e:Zb ⟨d,h,s⟩=⟨d++[⟨2,0,s,Edit.nil⟩],[],[]⟩:=by
   simp only [Zb,JZ];rw [V0,Jv];simp
  simp only [ZdE,Z8P,Z8Q,e]
  exact V2
 .have e:Zb ⟨d,h,s⟩=⟨d,[],[]⟩:=by
   simp only [Zb,JZ];rw [V0,V0];simp
  simp only [ZdE,Z8P,Z8Q,e]
  exact V2
theorem ZHp:Contract Tryz.prog cfg 147 Z8H:=by
 refine ZCs ZvN ?_
 intro s d wb n _ hp
 simp only [ZaQ] at hp
 obtain ⟨p1,p2,p3,p4,p5,p6⟩:=hp
 have ai:=Z9T ⟨s,d,wb⟩
 have ae:=Z9S ⟨s,d,wb⟩
 have hg:(Zb ⟨s,d,wb⟩).gone=[]:=rfl
 have hb:(Zb ⟨s,d,wb⟩).brought=[]:=rfl
 have hk:=Z8a (Zb ⟨s,d,wb⟩).out n
 have al:Y2 ⟨s,d,wb⟩ n=⟨JK (Zb ⟨s,d,wb⟩).out n,[],[]⟩:=rfl
 refine ZJD s d wb n _ ?_
 simp only [hg,hb,Zpn,Zl5,Zl6,al]
 generalize (Zb ⟨s,d,wb⟩).out=F at*
 simp only at ai ae
 rintro y1 aj y2 ar y3 ah y4 ak
 have hy:y1=Edit.nil:=aj
 subst hy
 have e2:y2=F.length - 1:=V1
 subst e2
 rw [<-ah,<-ak] at hk
 simp only [iB,vcT,vcS,aiT,true_and]
 refine ⟨by simp only [Z7P];exact ⟨p1,p2,p3⟩,V5,fun h=> ⟨h,V1⟩,fun h=> ?_,fun h=> ?_⟩
 .have ao:0<=y3.n/\y3.n<=100000000000000000:=by
   have hm:y3∈F:=by rw [ah];exact Zh V1 _
   rcases ae y3 hm with h1 | h1
   .exact p4 y3 h1
   .omega
  rw [if_pos ⟨V1,h.2⟩] at hk
  rw [hk]
  refine ⟨V1,V5,V1,V1,?_⟩
  exact V2
 .rw [Jv] at hk
  rw [hk,Z46]
  refine ⟨by simp;omega,by simp;omega,V1,?_⟩
  exact V2
theorem ZLl:Contract Tryz.prog cfg 148 ZkP:=by
 refine ZCr c75 ?_
 intro wo h wb l _ hp
 simp only [Zhz] at hp
 obtain ⟨p1,p2,p3,p4⟩:=hp
 have hl:=ZD l
 refine ZJC _ _ _ _ _ ?_
 refine Z7 (ι:=Int × List Tree) (fun s=> Z9A wo h wb l s.1 s.2) (fun s=> 0<=s.1/\s.1<=l.length/\s.2.length=h.length+s.1/\s.2++Z8 (l.drop s.1.toNat)=h++Z8 l) (fun s=> ((l.length:Int) - s.1).toNat) (0,h) rfl ⟨by simp,by simp,by simp,by simp⟩ ?_
 rintro ⟨i,out⟩ ⟨h1,h2,h3,d⟩
 dsimp only at h1 h2 h3 d
 refine ZwT _ _ _ _ _ _ _ _ ?_
 (simp only [iB,vcS])
 (simp only [vE])
 refine ⟨fun hi=> ?_,fun hi=> ?_⟩
 .have hm:=Jb (Zh (l:=l) (i:=i.toNat) V1 Tree.nil)
  rw [ZS h1 hi Tree.nil] at d
  simp only [Z8,Qm] at d
  rw [Z46]
  refine ⟨⟨h1,hi⟩,by simp only [Z0W];omega,by simp;omega,by simp;omega,V1,V5,(i+1,out++[Z6 (l.getD i.toNat Tree.nil)]),rfl,⟨V4,V4,by simp;omega,?_⟩,V4⟩
  simp only [Qc,Qj,Qo]
  exact d
 .rw [Q6 V1] at d
  simp only [Z8,QJ,Qi] at d
  rw [d]
  exact V2
theorem ZKg:Contract Tryz.prog cfg 148 ZgU:=by
 refine ZyM c75 ?_
 intro wo wg h l _ hp
 simp only [Zhz] at hp
 obtain ⟨p1,p2,p3,p4⟩:=hp
 have hl:=ZD l
 refine ZFP _ _ _ _ _ ?_
 refine Z7 (ι:=Int × List Tree) (fun s=> Z6Y wo wg h l s.1 s.2) (fun s=> 0<=s.1/\s.1<=l.length/\s.2.length=h.length+s.1/\s.2++Z8 (l.drop s.1.toNat)=h++Z8 l) (fun s=> ((l.length:Int) - s.1).toNat) (0,h) rfl ⟨by simp,by simp,by simp,by simp⟩ ?_
 rintro ⟨i,out⟩ ⟨h1,h2,h3,d⟩
 dsimp only at h1 h2 h3 d
 refine Zul _ _ _ _ _ _ _ _ ?_
 (simp only [iB,vcS])
 (simp only [vE])
 refine ⟨fun hi=> ?_,fun hi=> ?_⟩
 .have hm:=Jb (Zh (l:=l) (i:=i.toNat) V1 Tree.nil)
  rw [ZS h1 hi Tree.nil] at d
  simp only [Z8,Qm] at d
  rw [Z46]
  refine ⟨⟨h1,hi⟩,by simp only [Z0W];omega,by simp;omega,by simp;omega,V1,V5,(i+1,out++[Z6 (l.getD i.toNat Tree.nil)]),rfl,⟨V4,V4,by simp;omega,?_⟩,V4⟩
  simp only [Qc,Qj,Qo]
  exact d
 .rw [Q6 V1] at d
  simp only [Z8,QJ,Qi] at d
  rw [d]
  exact V2
theorem ZAi:Contract Tryz.prog cfg 149 Z5w:=by
 refine ZyL ?_
 intro list e _ d
 simp only [Zc3] at d
 refine ZFO _ _ _ ?_
 simp only [iB,vcT,vcS,aiT,true_and]
 refine ⟨fun _=> by unfold InR;grind,Zl rfl ?_⟩
 rw [QM]
 simp only [Z8c]
 grind
theorem ZAj:Contract Tryz.prog cfg 128 Z5x:=by
 refine ZyO ?_
 intro list e _ d
 refine ZFQ _ _ _ ?_
 simp only [iB,vcT,vcS,aiT,true_and]
 refine Zl rfl ?_
 rw [QM]
 simp only [Z8c]
 grind
noncomputable def Z7v:Fs U:=ZGS ZkP ZgU
theorem ZAf:Contract Tryz.prog cfg 148 Z7v:=ZoH ZLl ZKg
noncomputable section
def Z4f(a:Edit × Unit):Prop:=Z0 a.1<=20000000000/\∃ d,Z1 a.1 d=true
def ZeS(a:Edit × Unit):V U:= .agg (enc .edit (Zp a.1))
def Z24:Fs U:=fs Zu2 (fun a=> [Z4f a]) ZeS
def Zge:ArgL (Int × List Op × Unit):=(.cons (Z0h .i64) (.cons (aSl .op) .nil))
def ZaT(a:Int × List Op × Unit):Prop:=Zg a.2.1<=20000000000/\∀ o∈a.2.1,∃ d,Za a.1 o d=true
def ZhY(a:Int × List Op × Unit):Nat:=2*Zg a.2.1+1
def Zhe(a:Int × List Op × Unit):V U:= .c (sU .op ((Zb (Zv a.1 a.2.1 (Wst.mk [] [] []))).out) .unk)
def Zrx:Fs U:=fs Zge (fun a=> [ZaT a]) Zhe
def Zec(N:Nat):List (FuncId × Fs U):=(67,fs Zu2 (fun a=> [Z4f a,Zcp a < N]) ZeS) ::(107,fs Zge (fun a=> [ZaT a,ZhY a < N]) Zhe) ::[(75,Z1g),(149,Z5w),(147,Z8H),(150,Z3j),(148,Z7v)]
def Zq1:Zj U:=lvk [([1,2],[1,2]),([1,2,3],[1,2,3]),([1,2,3,12],[1,2,3]),([1,2,3,12,13],[1,2,3]),([2,3],[2,3]),([1,2,3,12,23],[1,2,3]),([1,2,3],[1,2,3]),([2,3,32,33,34],[2,((.loc 3),(an 8 [.own .kid]))]),([2,3,32,33,34,35],[2,3]),([2,3,5,32,33,34],[2,3,5]),([2,3,32,33,34],[2,3]),([2,3,32,33,34],[2,((.loc 3),(an 8 [.own .kid]))]),([1,2,3,50],[1,2,3]),([2,3],[2,3]),([2],[2])]
def ZcQ(e:Edit)(h:Int)(d:List Kid):LSt U:=(L2 [pL 2,pL 3,(32,.c (sU .kid e.kids .unk)),pI 33 (e.kids.length:Int),pI 34 h] [(.loc 2,zc1),(.loc 3,[ci e.kind,ci 0,.nils,.nils,ci 0,.nils,.nils,sU .wedit (([]:List WEdit)++e.words) (.own (.l 3 7)),sU .kid d (.own (.l 3 8)),ci e.list,.nils])])
abbrev W67(N:Nat)(e:Edit)(Q:QT):=AW (Z3 (Zec N)) Tryz.f67 Zq1 [] (L2 [(0,.agg (enc .edit e))] []) Q
theorem ZKW(N:Nat)(e:Edit)(Q:QT)(h:let z1:=Tree.mk e.new.kind e.new.words e.new.kids;let z0:=Tree.mk e.old.kind e.old.words e.old.kids;iB (e.kind==1) ((Z0W (z0,()))/\(Z0W (z1,()))/\(Q .ret (L2 [pL 2] [(.loc 2,([ci e.kind]++enc .tree (Z6 z0)++enc .tree (Z6 z1)++[.nils,.nils,ci e.list,.nils]))]))) (iB (e.kind==2) (((([]:List WEdit).length+e.words.length)*32<=140737488355328)/\(Zi (AW (Z3 (Zec N)) Tryz.f67 Zq1 [1,1,0,1,0,1,1,1,0,1,1,0,0]) (ZcQ e 0 []) (xB 1 (xB 0 (SW (Z3 (Zec N)) Tryz.f67 Zq1 [1,1,1] Q))))) (iB (e.kind==3) ((ZaT (e.list,e.ops,()))/\(ZhY (e.list,e.ops,()) < N)/\(Q .ret (L2 [pL 2] [(.loc 2,[ci e.kind,ci 0,.nils,.nils,ci 0,.nils,.nils,.nils,.nils,ci e.list,sU .op ((Zb (Zv e.list e.ops (Wst.mk [] [] []))).out) .unk])]))) (Q .ret (L2 [pL 2] [(.loc 2,[ci e.kind,ci 0,.nils,.nils,ci 0,.nils,.nils,.nils,.nils,ci e.list,.nils])]))))):
  W67 N e Q:=
 Eq.mpr V6 h
abbrev ZHT(N:Nat)(e:Edit)(h:Int)(d:List Kid)(N0:NT)(Q:QT):=AW (Z3 (Zec N)) Tryz.f67 Zq1 [1,1,0,1,0,1,1,1,0,1,1,0,0] (ZcQ e h d) (xT N0 (xB 1 (xB 0 (SW (Z3 (Zec N)) Tryz.f67 Zq1 [1,1,1] Q))))
theorem ZBi(N:Nat)(e:Edit)(s:Int)(d:List Kid)(N0:NT)(Q:QT)(h:∀ aa,aa=(e.kids.getD s.toNat (KidOf.mk 0 Edit.nil))->∀ ab,ab=(aa.e)->∀ ae,ae=(Zp ab)->iB (decide (s < (e.kids.length:Int))) (((0:Int)<=s/\s < (e.kids.length:Int))/\((Z4f (ab,()))/\(Zcp (ab,()) < N)/\((d.length+([(KidOf.mk aa.at_ ae:Kid)]).length)*208<=140737488355328)/\((InR (s+1))/\(N0 (ZcQ e (s+1) (d++([(KidOf.mk aa.at_ ae:Kid)]))))))) (Q .ret (L2 [pL 2] [(.loc 2,[ci e.kind,ci 0,.nils,.nils,ci 0,.nils,.nils,sU .wedit (([]:List WEdit)++e.words) (.own (.l 2 7)),sU .kid d (.own (.l 2 8)),ci e.list,.nils])]))):
  ZHT N e s d N0 Q:=
 Eq.mpr V6 (h _ rfl _ (Z5 _) _ (Z5 _))
def ZIf(N:Nat)(e:Edit):Prop:=AW (Z3 (Zec N)) Tryz.f67 Zq1 [] (Zm (Zu2.can (e,())) []) (EQ Tryz.f67 (ZeS (e,())) [])
abbrev ZKC:Prop:=∀ (N:Nat) (e:Edit) (_:Unit),Z4f (e,())->Zcp (e,()) < N+1->ZIf N e
def Zif:Zj U:=lvk [([0,1],[]),([0,1,5],[((.loc 10),[.wr .op])]),([0,5,11,12,13],[((.loc 10),[.wr .op,.own .tree,.own .tree])]),([0,5,11,12,13,14],[((.loc 10),[.wr .op])]),([0,5,7,11,12,13],[7,((.loc 10),[.wr .op])]),([0,5,7,11,12,13,18],[7,((.loc 10),[.wr .op])]),([0,5,7,11,12,13,18,19],[7,((.loc 10),[.wr .op])]),([0,5,11,12,13],[((.loc 10),[.wr .op])]),([0,5,7,11,12,13,18,25],[7,((.loc 10),[.wr .op])]),([0,5,11,12,13],[((.loc 10),[.wr .op])]),([0,5,7,11,12,13,18,33],[7,((.loc 10),[.wr .op])]),([0,5,11,12,13],[((.loc 10),[.wr .op])]),([0,5,7,11,12,13,41],[7,((.loc 10),[.wr .op])]),([0,5,8,11,12,13],[8,((.loc 10),[.wr .op])]),([0,5,8,11,12,13,48],[8,((.loc 10),[.wr .op])]),([0,5,11,12,13],[((.loc 10),[.wr .op])]),([0,5,8,11,12,13],[8,((.loc 10),[.wr .op])]),([0,5,11,12,13],[((.loc 10),[.wr .op])]),([0,5,11,12,13],[((.loc 10),[.wr .op,.own .tree,.own .tree])]),([5],[((.loc 10),[.wr .op])]),([4],[])]
def Z0u(list:Int)(l:List Op)(aa:Int)(d:List Op)(s h:List Tree):LSt U:=(⟨[pI 0 list,(5,.ptr (.loc 10) 0),(11,.c (sU .op l .unk)),pI 12 (l.length:Int),pI 13 aa],[(.loc 10,[.mref (.l 10 0),sU .tree s (.own (.l 10 1)),sU .tree h (.own (.l 10 2))])],[(.l 10 0,LC.mk (U:=U) .op d 0)]⟩:LSt U)
abbrev ZLE(N:Nat)(list:Int)(l:List Op)(Q:QT):=AW (Z3 (Zec N)) Tryz.f107 Zif [] (L2 [pI 0 list,(1,.c (sU .op l .unk))] []) Q
theorem ZJS(N:Nat)(list:Int)(l:List Op)(Q:QT)(h:Zi (AW (Z3 (Zec N)) Tryz.f107 Zif [1,1,0,1,0,0]) (Z0u list l 0 [] [] []) (xB 0 (SW (Z3 (Zec N)) Tryz.f107 Zif [1,1,1] Q))):
  ZLE N list l Q:=
 Eq.mpr V6 h
abbrev ZDx(N:Nat)(list:Int)(l:List Op)(aa:Int)(d:List Op)(s h:List Tree)(N0:NT)(Q:QT):=AW (Z3 (Zec N)) Tryz.f107 Zif [1,1,0,1,0,0] (Z0u list l aa d s h) (xT N0 (xB 0 (SW (Z3 (Zec N)) Tryz.f107 Zif [1,1,1] Q)))
theorem Zx9(N:Nat)(list:Int)(l:List Op)(ab:Int)(d:List Op)(s aa:List Tree)(N0:NT)(Q:QT)(h:∀ ae,ae=(l.getD ab.toNat Op.nil)->∀ ai,ai=(Edit.mk 0 (Tree.mk 0 [] []) (Tree.mk 0 [] []) [] [] 0 [])->∀ aj,aj=(Int.toNat (((Zb (Wst.mk d s aa)).out).length:Int))->∀ af,af=(ae.e)->∀ ah,ah=(Zp af)->let z3:=Z7P ((d,s,aa,()),());let z2:=Wst.mk d s (aa++Z8 ae.l);let z1:=Wst.mk d (s++Z8 ae.l) aa;let z0:=Wst.mk d s aa;iB (decide (ab < (l.length:Int))) (((0:Int)<=ab/\ab < (l.length:Int))/\(iB (ae.kind==0) ((ZaQ ((d,s,aa,()),ae.n,()))/\((InR (ab+1))/\(N0 (Z0u list l (ab+1) ((Y2 z0 ae.n).out) ((Y2 z0 ae.n).gone) ((Y2 z0 ae.n).brought))))) (iB (ae.kind==1) ((Zhz ((d,s,aa,()),ae.l,()))/\((InR (ab+1))/\(N0 (Z0u list l (ab+1) (z1.out) (z1.gone) (z1.brought))))) (iB (ae.kind==2) ((Zhz ((d,s,aa,()),ae.l,()))/\((InR (ab+1))/\(N0 (Z0u list l (ab+1) (z2.out) (z2.gone) (z2.brought))))) (iB (ae.kind==3) ((Z4f (af,()))/\(Zcp (af,()) < N)/\((Zc3 (list,ah,()))/\(iB (Z8c list ah) ((ZaQ ((d,s,aa,()),1,()))/\((InR (ab+1))/\(N0 (Z0u list l (ab+1) ((Y2 z0 1).out) ((Y2 z0 1).gone) ((Y2 z0 1).brought))))) (z3/\(((((Zb z0).out).length+([(OpOf.mk 0 0 [] ai:Op)]).length)*240<=140737488355328)/\((0:Int)<=(((Zb z0).out).length:Int)/\(((Zb z0).out).length:Int) < ((((Zb z0).out)++([(OpOf.mk 0 0 [] ai:Op)])).length:Int))/\((0:Nat)<=aj)/\((InR (ab+1))/\(N0 (Z0u list l (ab+1) (List.set (((Zb z0).out)++([(OpOf.mk 0 0 [] ai:Op)])) aj (OpOf.mk 3 0 [] ah:Op)) ((Zb z0).gone) ((Zb z0).brought))))))))) ((InR (ab+1))/\(N0 (Z0u list l (ab+1) d s aa)))))))) (z3/\(Q .ret (L2 [(4,.c (sU .op ((Zb z0).out) (.own (.e 4 0))))] [])))):
  ZDx N list l ab d s aa N0 Q:=
 Eq.mpr V6 (h _ rfl _ rfl _ rfl _ (Z5 _) _ (Z5 _))
def ZEK(N:Nat)(list:Int)(l:List Op):Prop:=AW (Z3 (Zec N)) Tryz.f107 Zif [] (Zm (Zge.can (list,l,())) []) (EQ Tryz.f107 (Zhe (list,l,())) [])
abbrev ZFJ:Prop:=∀ (N:Nat) (list:Int) (l:List Op) (_:Unit),ZaT (list,l,())->ZhY (list,l,()) < N+1->ZEK N list l
theorem Zva(c75:CT 75 Z1g)(ZAi:CT 149 Z5w)(ZHp:CT 147 Z8H)(ZvN:CT 150 Z3j)(ZAf:CT 148 Z7v)(ha:ZKC)(hb:ZFJ):CT 67 Z24/\CT 107 Zrx:=
 Z1z (μA:=Zcp) (μB:=ZhY) (l:=[(75,Z1g),(149,Z5w),(147,Z8H),(150,Z3j),(148,Z7v)]) Zo rfl (⟨c75,ZAi,ZHp,ZvN,ZAf,trivial⟩) Zq1 Zif Tryz.func67 Tryz.func107 rfl rfl rfl rfl 1 2 (fun _=> rfl) (fun _=> rfl) V3 V3 (fun N ⟨e,_⟩=> ha N e ()) (fun N ⟨list,l,_⟩=> hb N list l ())
end
end Go.AM.YtpjenobkibfpcaaGreat
