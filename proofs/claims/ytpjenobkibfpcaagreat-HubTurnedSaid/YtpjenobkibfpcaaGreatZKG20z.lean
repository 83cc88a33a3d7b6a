import Derived.Test.YtpjenobkibfpcaaGreatZKG20c
import Derived.Test.YtpjenobkibfpcaaGreatZKL07
import Derived.Test.YtpjenobkibfpcaaGreatZKL22
set_option linter.unusedSimpArgs false
set_option linter.unusedVariables false
namespace Go.AM.YtpjenobkibfpcaaGreat
open Go.AM Go.Proofs
theorem ZvH:∀ n:Fin 256,∀ i:Fin 8,IntKind.wrap .u8 (BitVec.ofInt (IntKind.bits .u8) (Int.fdiv (n.1:Int) (2 ^ (min (Int.toNat (i.1:Int)) (IntKind.bits .u8)))) &&& BitVec.ofInt (IntKind.bits .u8) 1).toNat=((n.1 / 2 ^ i.1 % 2:Nat):Int):=by decide+kernel
theorem Zxa:∀ n:Fin 256,∀ i:Fin 8,IntKind.wrap .u64 (BitVec.ofInt (IntKind.bits .u64) ((Z0O n.1 i.1:Nat):Int) ||| BitVec.ofInt (IntKind.bits .u64) (IntKind.wrap .u64 (255*2 ^ (min (Int.toNat (8*(i.1:Int))) (IntKind.bits .u64))))).toNat=((Z0O n.1 i.1+255*2 ^ (8*i.1):Nat):Int):=by decide+kernel
theorem ZCY:Contract Tryz.prog cfg 215 Z8b:=by
 refine Zxv ?_
 intro m _ u
 simp only [ZdN] at u
 obtain ⟨n,rfl⟩:=X3 u.1
 have h:n < 256:=V0
 refine ZET _ _ ?_
 refine Ze (ι:=Nat) (fun i=> Z3v n ((Z0O n i:Nat):Int) i) (fun i=> i<=8) (fun i=> 8 - i) 0 rfl V0 ?_
 intro i hi
 refine Zrs _ _ _ _ _ ?_
 (simp only [iB,vcS])
 refine ⟨fun hc=> ⟨V0,fun s=> ⟨V2,V0,V2,i+1,?_,V0,V0⟩,fun s=> ⟨V2,i+1,?_,V0,V0⟩⟩,fun hc=> ?_⟩
 .have d:=ZvH ⟨n,h⟩ ⟨i,V0⟩
  have h2:=Zxa ⟨n,h⟩ ⟨i,V0⟩
  simp only at d h2
  rw [d] at s
  rw [h2]
  have e:Z0O n (i+1)=Z0O n i+255*2 ^ (8*i):=by simp only [Z0O];grind
  rw [e]
  try rfl
 .have d:=ZvH ⟨n,h⟩ ⟨i,V0⟩
  simp only at d
  rw [d] at s
  have e:Z0O n (i+1)=Z0O n i:=by simp only [Z0O];rw [Jk];omega
  rw [e]
  try rfl
 .have:i=8:=V0
  subst this
  trivial
theorem Z5Z(a:Nat)(h:a < 2 ^ 64):(BitVec.ofInt 64 (a:Int)).toNat=a:=by
 grind
theorem ZbK:Contract Tryz.prog cfg 176 Z8o:=by
 refine ZxN ZCY ?_
 intro a b m _ hp
 simp only [ZhG] at hp
 obtain ⟨⟨a0,a1⟩,⟨b0,b1⟩,s,m1⟩:=hp
 obtain ⟨x,rfl⟩:=X3 a0
 obtain ⟨y,rfl⟩:=X3 b0
 obtain ⟨n,rfl⟩:=X3 s
 have u:n < 256:=V0
 have hx:x < 2 ^ 64:=V0
 have hy:y < 2 ^ 64:=V0
 have h:=Zwn ⟨n,u⟩
 have d:=Zmz ⟨n,u⟩
 simp only at h d
 rw [<-d] at h
 refine ZFc _ _ _ _ ?_
 refine ⟨⟨s,m1⟩,⟨s,m1⟩,YZ rfl ?_⟩
 have em:mix x y n=(((x &&& (2 ^ 64 - 1 - Z0O n 8)) ||| (y &&& Z0O n 8):Nat):Int):=by rw [<-ZtI,<-ZtH x y n u]
 have e1:(BitVec.ofInt 64 (x:Int) &&& ~~~(BitVec.ofInt 64 ((Z0O n 8:Nat):Int))).toNat=x &&& (2 ^ 64 - 1 - Z0O n 8):=by
  rw [BitVec.toNat_and,BitVec.toNat_not,Z5Z x hx,Z5Z _ h]
 have e2:(BitVec.ofInt 64 (y:Int) &&& BitVec.ofInt 64 ((Z0O n 8:Nat):Int)).toNat=y &&& Z0O n 8:=by
  rw [BitVec.toNat_and,Z5Z y hy,Z5Z _ h]
 have l1:x &&& (2 ^ 64 - 1 - Z0O n 8) < 2 ^ 64:=Nat.lt_of_le_of_lt Nat.and_le_left hx
 have l2:y &&& Z0O n 8 < 2 ^ 64:=Nat.lt_of_le_of_lt Nat.and_le_left hy
 have l3:(x &&& (2 ^ 64 - 1 - Z0O n 8)) ||| (y &&& Z0O n 8) < 2 ^ 64:=Nat.or_lt_two_pow l1 l2
 have aa:IntKind.wrap .u64 ((BitVec.ofInt 64 (IntKind.wrap .u64 ((BitVec.ofInt 64 (x:Int) &&& ~~~(BitVec.ofInt 64 ((Z0O n 8:Nat):Int))).toNat:Int)) ||| BitVec.ofInt 64 (IntKind.wrap .u64 ((BitVec.ofInt 64 (y:Int) &&& BitVec.ofInt 64 ((Z0O n 8:Nat):Int)).toNat:Int))).toNat:Int)=mix x y n:=by
  have w1:∀ k:Nat,k < 2 ^ 64->IntKind.wrap .u64 (k:Int)=k:=fun k hk=> Z4A V0 V0
  grind
 exact aa
theorem ZDt:Contract Tryz.prog cfg 122 Z3V:=by
 refine Zya c82 ?_
 intro t _ d
 refine ZFC _ _ ?_
 (simp only [vE])
 simp only [iB,vcT,vcS,aiT,true_and]
 refine ⟨fun _=> d,Z4 rfl ?_⟩
 grind
theorem ZCV:Contract Tryz.prog cfg 218 Z89:=by
 refine Zxs c82 ?_
 intro list t _ d
 simp only [ZdL] at d
 refine ZEQ _ _ _ ?_
 (simp only [vE])
 refine ⟨⟨?_,?_⟩,V1⟩
 .simp only [Zj,Zd,Qh];omega
 .simp only [rng,Y6]
  have h:=d.2.2
  unfold InR at h
  grind
theorem ZCU:Contract Tryz.prog cfg 219 Z3R:=by
 refine Zxr ZqX ?_
 intro list e _ s
 refine ZEP _ _ _ ?_
 simp only [iB,vcT,vcS,aiT,true_and]
 refine ⟨trivial,fun h=> ?_,fun h=> ⟨fun d=> ?_,fun d=> ?_⟩⟩
 .exact Z4 rfl (by show false=Z1b list e;unfold Z1b;rw [if_pos h])
 .exact Z4 rfl (by show true=Z1b list e;unfold Z1b;grind)
 .refine Z4 rfl ?_
  show _=Z1b list e
  unfold Z1b
  grind
theorem ZgD(last:Int)(w:WEdit)(r:List WEdit):ZK last (w ::r)=(decide (last < w.at_/\w.at_<=65534/\w.mask≠0) && Yf w.old w.mask && Yf w.new w.mask && ZK w.at_ r):=rfl
theorem ZDs:Contract Tryz.prog cfg 123 Z3U:=by
 refine Zy9 ZbK ?_
 intro l _ hp
 simp only [ZdZ] at hp
 refine ZFB _ _ ?_
 refine Ze (ι:=Int) (fun i=> Z6p l i) (fun i=> 0<=i/\i<=l.length/\(i≠0->0<=(l.getD (i - 1).toNat (WEdit.mk 0 0 0 0)).at_)/\ZK (if i=0 then -1 else (l.getD (i - 1).toNat (WEdit.mk 0 0 0 0)).at_) (l.drop i.toNat)=ZK (-1) l) (fun i=> ((l.length:Int) - i).toNat) 0 rfl ⟨V0,V0,by simp,by simp⟩ ?_
 rintro i ⟨h1,h2,s,d⟩
 refine ZrJ _ _ _ _ ?_
 rintro y1 h y2 u
 simp only [iB,vcT,vcS,aiT,true_and]
 refine ⟨fun hi=> ?_,fun hi=> ?_⟩
 .have hm:=hp.2 _ (Zo (l:=l) (i:=i.toNat) V0 (WEdit.mk 0 0 0 0))
  rw [YJ h1 hi (WEdit.mk 0 0 0 0),ZgD] at d
  rw [<-h] at d hm
  rw [<-u] at d s
  obtain ⟨r1,r2,r3,r4⟩:=hm
  unfold isW at r3 r4
  have hw:∀ x:Int,Yf x y1.mask=decide (mix x 0 y1.mask=0):=fun x=> rfl
  refine ⟨⟨h1,hi⟩,fun _=> by unfold InR;omega,fun _=> ⟨V0,V0⟩,fun hq=> ?_,fun hq=> ⟨⟨r3,by grind,r2⟩,fun _=> ⟨r4,by grind,r2⟩,fun hz=> ?_,fun hz=> ⟨V2,i+1,rfl,⟨V0,V0,fun _=> by grind,?_⟩,V0⟩⟩⟩
  .refine Z4 rfl ?_
   show false=ZK (-1) l
   rw [<-d,decide_eq_false]
   .try rfl
   omega
  .refine Z4 rfl ?_
   grind
  .rw [Jk,show i+1 - 1=i by omega,<-h,<-d,hw,hw,decide_eq_true hz.1,decide_eq_true hz.2,decide_eq_true]
   .simp
   omega
 .rw [Qd V0] at d
  trivial
end Go.AM.YtpjenobkibfpcaaGreat
namespace Go.AM
def wr(n:Int):Int:=IntKind.wrap .i64 n
def Z11(o:Op):Int:=if o.kind=3 then 1 else wr (o.n+o.l.length)
def Zii(n:Int):Int:=if 1048576 < n then 1048576 else n
def Z2w:List Op->Int->Int
 | [],n=> n
 | o ::r,n=> Z2w r (if o.kind=2 then n else Zii (wr (n+Z11 o)))
def Z2v:List Op->Int->Int
 | [],n=> n
 | o ::r,n=> Z2v r (if o.kind=1 then n else Zii (wr (n+Z11 o)))
def Z3G(e:Edit):Bool:=
 if (e.kind≠1/\¬(Ye e.old=true/\Ye e.new=true))\/(e.kind≠2/\¬(e.words.length=0/\e.kids.length=0))\/(e.kind≠3/\(e.list≠0\/e.ops.length≠0)) then false else true
end Go.AM
namespace Go.AM.YtpjenobkibfpcaaGreat
open Go.AM Go.Proofs
noncomputable section
def ZsL(a:Edit × Unit):V U:= .tup [(false,[ci (Z2w a.1.ops 0)]),(false,[ci (Z2v a.1.ops 0)])]
def Z3T:Fs U:=fs Zps (fun a=> [Z7y a]) ZsL
def Z04:Zc U:=lvl [([1],[1]),([1,4,5],[1]),([4,5,10,11,12],[]),([4,5,10,11,12,13],[]),([4,5,7,10,11,12],[7]),([4,5,7,8,10,11,12],[7]),([4,5,7,8,10,11,12,24],[7]),([4,5,7,8,10,11,12,24],[7]),([4,5,7,8,10,11,12,27],[7]),([4,5,7,8,10,11,12,27],[7]),([4,5,8,10,11,12,34],[]),([4,5,10,11,12],[]),([4,5,10,11,12],[]),([2,3],[])]
def Z14(e:Edit)(h s d:Int):LSt U:=(L2 [pI 4 h,pI 5 s,(10,.c (sU .op e.ops .unk)),pI 11 (e.ops.length:Int),pI 12 d] [])
def Zat(e:Edit)(s u d h:Int):LSt U:=(L2 [pI 4 s,pI 5 u,pL 7,pI 8 h,(10,.c (sU .op e.ops .unk)),pI 11 (e.ops.length:Int),pI 12 d,(24,.c (.bool (((OpOf.kind (e.ops.getD d.toNat Op.nil)):Int)==3)))] [(.loc 7,(enc .op (e.ops.getD d.toNat Op.nil)))])
def Zas(e:Edit)(u d h s:Int):LSt U:=(L2 [pI 4 s,pI 5 u,pL 7,pI 8 h,(10,.c (sU .op e.ops .unk)),pI 11 (e.ops.length:Int),pI 12 d,(27,.c (.bool (((OpOf.kind (e.ops.getD d.toNat Op.nil)):Int) !=2)))] [(.loc 7,(enc .op (e.ops.getD d.toNat Op.nil)))])
abbrev ZHP(e:Edit)(Q:QT):=AW (JT ZlW) Tryz.f169 Z04 [] (L2 [(0,.agg (enc .edit e))] []) Q
theorem ZFh(e:Edit)(Q:QT)(h:Zp (AW (JT ZlW) Tryz.f169 Z04 [1,1,0,1,0,0]) (Z14 e 0 0 0) (xB 0 (SW (JT ZlW) Tryz.f169 Z04 [1,1,1] Q))):
  ZHP e Q:=
 Eq.mpr V4 h
abbrev ZyQ(e:Edit)(h s d:Int)(N0:NT)(Q:QT):=AW (JT ZlW) Tryz.f169 Z04 [1,1,0,1,0,0] (Z14 e h s d) (xT N0 (xB 0 (SW (JT ZlW) Tryz.f169 Z04 [1,1,1] Q)))
theorem ZrB(e:Edit)(s u d:Int)(N0:NT)(Q:QT)(h:let z1:=e.ops.getD d.toNat Op.nil;let z0:=xB 1 (SW (JT ZlW) Tryz.f169 Z04 [1,1,0,1,0,0,1,1,1] (xT N0 (xB 0 (SW (JT ZlW) Tryz.f169 Z04 [1,1,1] Q))));iB (decide (d < (e.ops.length:Int))) (((0:Int)<=d/\d < (e.ops.length:Int))/\(iB (((OpOf.kind z1):Int)==3) (AW (JT ZlW) Tryz.f169 Z04 [1,1,0,1,0,0,1,1,0,0,1,1,1] (Zat e s u d 1) z0) (AW (JT ZlW) Tryz.f169 Z04 [1,1,0,1,0,0,1,1,0,0,1,1,1] (Zat e s u d (IntKind.wrap .i64 (((OpOf.n z1):Int)+((OpOf.l z1).length:Int)))) z0))) (Q .ret (L2 [pI 2 s,pI 3 u] []))):
  ZyQ e s u d N0 Q:=
 Eq.mpr V4 h
abbrev ZpK(e:Edit)(s u h d:Int)(N0:NT)(Q:QT):=AW (JT ZlW) Tryz.f169 Z04 [1,1,0,1,0,0,1,1,0,0,1,1,1] (Zat e s u h d) (xB 1 (SW (JT ZlW) Tryz.f169 Z04 [1,1,0,1,0,0,1,1,1] (xT N0 (xB 0 (SW (JT ZlW) Tryz.f169 Z04 [1,1,1] Q)))))
theorem ZrD(e:Edit)(u x5 s d:Int)(N0:NT)(Q:QT)(h:let z1:=IntKind.wrap .i64 (u+d);let z0:=xB 1 (SW (JT ZlW) Tryz.f169 Z04 [1,1,0,1,0,0,1,1,1] (xT N0 (xB 0 (SW (JT ZlW) Tryz.f169 Z04 [1,1,1] Q))));iB (((OpOf.kind (e.ops.getD s.toNat Op.nil)):Int) !=2) (AW (JT ZlW) Tryz.f169 Z04 [1,1,0,1,0,0,1,1,0,0,1,1,1,1] (Zas e x5 s d (if (1048576:Int) < z1 then 1048576 else z1)) z0) (AW (JT ZlW) Tryz.f169 Z04 [1,1,0,1,0,0,1,1,0,0,1,1,1,1] (Zas e x5 s d u) z0)):
  ZpK e u x5 s d N0 Q:=
 Eq.mpr V4 h
abbrev ZpJ(e:Edit)(u s d h:Int)(N0:NT)(Q:QT):=AW (JT ZlW) Tryz.f169 Z04 [1,1,0,1,0,0,1,1,0,0,1,1,1,1] (Zas e u s d h) (xB 1 (SW (JT ZlW) Tryz.f169 Z04 [1,1,0,1,0,0,1,1,1] (xT N0 (xB 0 (SW (JT ZlW) Tryz.f169 Z04 [1,1,1] Q)))))
theorem ZrC(e:Edit)(x5 s u d:Int)(N0:NT)(Q:QT)(h:let z0:=IntKind.wrap .i64 (x5+u);iB (((OpOf.kind (e.ops.getD s.toNat Op.nil)):Int) !=1) (N0 (Z14 e d (if (1048576:Int) < z0 then 1048576 else z0) (IntKind.wrap .i64 (s+1)))) (N0 (Z14 e d x5 (IntKind.wrap .i64 (s+1))))):
  ZpJ e x5 s u d N0 Q:=
 Eq.mpr V4 h
def ZzG(e:Edit):Prop:=AW (JT ZlW) Tryz.f169 Z04 [] (Zf (Zps.can (e,())) []) (EQ Tryz.f169 (ZsL (e,())) [])
theorem ZxS(hb:∀ (e:Edit) (_:Unit),Z7y (e,())->ZzG e):CT 169 Z3T:=
 ZeX (l:=[]) Zh rfl trivial Z04 Tryz.func169 rfl rfl 1 (fun _=> rfl) V3 (fun ⟨e,_⟩=> hb e ())
end
theorem ZiJ{n:Int}(h:InR n):wr n=n:=by
 unfold InR at h
 simp [wr,IntKind.wrap,IntKind.signed,IntKind.bits]
 omega
theorem ZlO{l:List Op}{i:Int}(n:Int)(h0:0<=i)(h:i < l.length):Z2w (l.drop i.toNat) n=Z2w (l.drop (i+1).toNat) (if (l.getD i.toNat Op.nil).kind=2 then n else Zii (wr (n+Z11 (l.getD i.toNat Op.nil)))):=by
 rw [YJ h0 h Op.nil,Z2w]
theorem ZlN{l:List Op}{i:Int}(n:Int)(h0:0<=i)(h:i < l.length):Z2v (l.drop i.toNat) n=Z2v (l.drop (i+1).toNat) (if (l.getD i.toNat Op.nil).kind=1 then n else Zii (wr (n+Z11 (l.getD i.toNat Op.nil)))):=by
 rw [YJ h0 h Op.nil,Z2v]
theorem ZDe:Contract Tryz.prog cfg 169 Z3T:=by
 refine ZxS ?_
 intro e _ hp
 simp only [Z7y] at hp
 have h1:=Yt e
 have h2:=Y5 e.ops
 refine ZFh _ _ ?_
 refine Ze (ι:=Int × Int × Int) (fun s=> Z14 e s.1 s.2.1 s.2.2) (fun s=> (0<=s.2.2/\s.2.2<=e.ops.length)/\Z2w (e.ops.drop s.2.2.toNat) s.1=Z2w e.ops 0/\Z2v (e.ops.drop s.2.2.toNat) s.2.1=Z2v e.ops 0) (fun s=> ((e.ops.length:Int) - s.2.2).toNat) (0,0,0) rfl ⟨⟨by simp,by simp⟩,rfl,rfl⟩ ?_
 rintro ⟨n,m,i⟩ ⟨⟨g1,g2⟩,g3,u⟩
 dsimp only at g1 g2 g3 u
 refine ZrB _ _ _ _ _ _ ?_
 (simp only [iB,vcS])
 refine ⟨fun hi=> ⟨⟨g1,hi⟩,?_⟩,fun hi=> ?_⟩
 .rw [ZlO _ g1 hi] at g3
  rw [ZlN _ g1 hi] at u
  have hk:IntKind.wrap .i64 (i+1)=i+1:=ZiJ V2
  generalize hy:e.ops.getD i.toNat Op.nil=y at*
  have ab:∀ k:Int,k=Z11 y->∀ (Q':AExit->LSt U->Prop),ZpK e n m i k (fun s2=> ∃ j:Int × Int × Int,s2=Z14 e j.1 j.2.1 j.2.2/\((0<=j.2.2/\j.2.2<=e.ops.length)/\Z2w (e.ops.drop j.2.2.toNat) j.1=Z2w e.ops 0/\Z2v (e.ops.drop j.2.2.toNat) j.2.1=Z2v e.ops 0)/\((e.ops.length:Int) - j.2.2).toNat < ((e.ops.length:Int) - i).toNat) Q':=by
   rintro k rfl Q'
   have d:∀ a:Int,a=(if y.kind=2 then n else Zii (wr (n+Z11 y)))->ZpJ e m i (Z11 y) a (fun s2=> ∃ j:Int × Int × Int,s2=Z14 e j.1 j.2.1 j.2.2/\((0<=j.2.2/\j.2.2<=e.ops.length)/\Z2w (e.ops.drop j.2.2.toNat) j.1=Z2w e.ops 0/\Z2v (e.ops.drop j.2.2.toNat) j.2.1=Z2v e.ops 0)/\((e.ops.length:Int) - j.2.2).toNat < ((e.ops.length:Int) - i).toNat) Q':=by
    rintro a ha
    refine ZrC _ _ _ _ _ _ _ ?_
    rw [hy,hk]
    (simp only [iB,vcS])
    rw [<-ha] at g3
    refine ⟨fun h=> ⟨(a,_,i+1),rfl,⟨⟨V5,V5⟩,g3,?_⟩,V5⟩,fun h=> ⟨(a,_,i+1),rfl,⟨⟨V5,V5⟩,g3,?_⟩,V5⟩⟩
    .rw [if_neg h] at u;exact u
    .rw [if_pos h] at u;exact u
   refine ZrD _ _ _ _ _ _ _ ?_
   rw [hy]
   (simp only [iB,vcS])
   exact ⟨fun h=> d _ (by rw [if_neg h];rfl),fun h=> d _ (by rw [if_pos h])⟩
  exact ⟨fun h=> ab _ (by unfold Z11;rw [if_pos h]) _,fun h=> ab _ (by unfold Z11;rw [if_neg h];rfl) _⟩
 .rw [Qd V0] at g3 u
  simp only [Z2w,Z2v] at g3 u
  rw [g3,u]
  exact V1
theorem ZjX:∀ (l:List Op) (n:Int),(∀ o∈l,(0<=o.n/\o.n<=1048576)/\o.l.length<=20000000000)->0<=n->n<=1048576->Z2w l n=Z0Q l n
 | [],_,_,_,_=> rfl
 | o ::r,n,h,h0,hn=> by
  have u:=h o (Q8 ..)
  have hl:=Y4 o
  have d:Z11 o=Z2 o:=by
   unfold Z11;rw [hl]
   split
   .try rfl
   .exact ZiJ V2
  have hb:0<=Z2 o/\Z2 o<=60000000000:=by rw [hl];split <;> omega
  simp only [Z2w,Z0Q]
  rw [d,ZiJ V2]
  have e2:(if o.kind=2 then n else Zii (n+Z2 o))=min (if o.kind=2 then n else n+Z2 o) 1048576:=by
   unfold Zii;split
   .omega
   .omega
  rw [e2]
  exact ZjX r _ (fun x s=> h x (Q7 _ s)) V0 V0
theorem ZjW:∀ (l:List Op) (n:Int),(∀ o∈l,(0<=o.n/\o.n<=1048576)/\o.l.length<=20000000000)->0<=n->n<=1048576->Z2v l n=Z0P l n
 | [],_,_,_,_=> rfl
 | o ::r,n,h,h0,hn=> by
  have u:=h o (Q8 ..)
  have hl:=Y4 o
  have d:Z11 o=Z2 o:=by
   unfold Z11;rw [hl]
   split
   .try rfl
   .exact ZiJ V2
  have hb:0<=Z2 o/\Z2 o<=60000000000:=by rw [hl];split <;> omega
  simp only [Z2v,Z0P]
  rw [d,ZiJ V2]
  have e2:(if o.kind=1 then n else Zii (n+Z2 o))=min (if o.kind=1 then n else n+Z2 o) 1048576:=by
   unfold Zii;split
   .omega
   .omega
  rw [e2]
  exact ZjW r _ (fun x s=> h x (Q7 _ s)) V0 V0
noncomputable section
def Zpg:ArgL (List Tree × List Tree × Unit × Unit):=(.cons (aSl .tree) (.cons (aSl .tree) (.cons (aFn 114) .nil)))
def Z7w(a:List Tree × List Tree × Unit × Unit):Prop:=Zd a.1<=1000000000000/\Zd a.2.1<=1000000000000
def ZsJ(a:List Tree × List Tree × Unit × Unit):V U:= .c (.bool (eqX (Z8 a.1) (Z8 a.2.1)))
def Z0u:Fs U:=fs Zpg (fun a=> [Z7w a]) ZsJ
def Z69:List (FuncId × Fs U):=[(114,Ju)]
def Zew:Zc U:=lvl [([0,1,2],[]),([0,1,2,14],[]),([6],[]),([1,2,15,16,17],[]),([1,2,15,16,17,18],[]),([1,2,7,8,15,16,17],[8]),([1,2,8,9,15,16,17],[8,9]),([1,2,15,16,17,30],[]),([6],[]),([1,2,15,16,17],[]),([6],[])]
def Z6k(a b:List Tree)(f:Unit)(d:Int):LSt U:=(L2 [(1,.c (sU .tree b .unk)),(2,.fn 114),(15,.c (sU .tree a .unk)),pI 16 (a.length:Int),pI 17 d] [])
abbrev ZHN(a b:List Tree)(f:Unit)(Q:QT):=AW (Z1 Z69) Tryz.f177 Zew [] (L2 [(0,.c (sU .tree a .unk)),(1,.c (sU .tree b .unk)),(2,.fn 114)] []) Q
theorem ZFb(a b:List Tree)(f:Unit)(Q:QT)(h:iB (((a.length:Int):Int) !=(b.length:Int)) (Q .ret (L2 [pB 6 false] [])) (Zp (AW (Z1 Z69) Tryz.f177 Zew [1,1,0,1,0,0]) (Z6k a b f 0) (xB 0 (SW (Z1 Z69) Tryz.f177 Zew [1,1,1] Q)))):
  ZHN a b f Q:=
 Eq.mpr V4 h
abbrev ZyP(a b:List Tree)(f:Unit)(d:Int)(N0:NT)(Q:QT):=AW (Z1 Z69) Tryz.f177 Zew [1,1,0,1,0,0] (Z6k a b f d) (xT N0 (xB 0 (SW (Z1 Z69) Tryz.f177 Zew [1,1,1] Q)))
theorem Zrz(a b:List Tree)(f:Unit)(d:Int)(N0:NT)(Q:QT)(h:let z3:=a.getD d.toNat Tree.nil;let z2:=b.getD d.toNat Tree.nil;let z1:=Tree.mk (Tree.kind z2) (Tree.words z2) (Tree.kids z2);let z0:=Tree.mk (Tree.kind z3) (Tree.words z3) (Tree.kids z3);iB (decide (d < (a.length:Int))) (((0:Int)<=d/\d < (a.length:Int))/\(((0:Int)<=d/\d < (b.length:Int))/\((Z2o (z0,z1,()))/\(iB (!(ZY (Z3 z0) (Z3 z1))) (Q .ret (L2 [pB 6 false] [])) ((InR (d+1))/\(N0 (Z6k a b f (d+1)))))))) (Q .ret (L2 [pB 6 true] []))):
  ZyP a b f d N0 Q:=
 Eq.mpr V4 h
def ZzA(a b:List Tree)(f:Unit):Prop:=AW (Z1 Z69) Tryz.f177 Zew [] (Zf (Zpg.can (a,b,f,())) []) (EQ Tryz.f177 (ZsJ (a,b,f,())) [])
theorem ZxM(ZbL:CT 114 Ju)(hb:∀ (a:List Tree) (b:List Tree) (f:Unit) (_:Unit),Z7w (a,b,f,())->ZzA a b f):CT 177 Z0u:=
 Z0 (l:=[(114,Ju)]) Zh rfl (⟨ZbL,trivial⟩) Zew Tryz.func177 rfl rfl 3 (fun _=> rfl) V3 (fun ⟨a,b,f,_⟩=> hb a b f ())
end
theorem Zij:Contract Tryz.prog cfg 177 Z0u:=by
 refine ZxM ZbL ?_
 intro a b f _ hp
 simp only [Z7w] at hp
 refine ZFb a b f _ ?_
 (simp only [iB,vcS])
 refine ⟨fun hc=> Z4 rfl (Zvj (a:=Z8 a) (b:=Z8 b) (fun h=> hc (by have:=congrArg List.length h;simp [Z8] at this;omega))).symm,fun hc=> ?_⟩
 have hl:a.length=b.length:=V0
 have ae:=Zs a
 refine Ze (ι:=Int) (fun i=> Z6k a b f i) (fun i=> 0<=i/\i<=a.length/\∀ j:Nat,(j:Int) < i->Z3 (a.getD j Tree.nil)=Z3 (b.getD j Tree.nil)) (fun i=> ((a.length:Int) - i).toNat) 0 rfl ⟨V0,V0,V0⟩ ?_
 rintro i ⟨u,h2,h3⟩
 refine Zrz a b f _ _ _ ?_
 (simp only [iB,vcS])
 (simp only [vE])
 refine ⟨fun hi=> ⟨⟨u,hi⟩,⟨u,V0⟩,?_,fun s=> ?_,fun s=> ⟨V2,i+1,rfl,⟨V0,V0,?_⟩,V0⟩⟩,fun hi=> ?_⟩
 .have:=Jr (Zo (l:=a) (i:=i.toNat) V0 Tree.nil)
  have:=Jr (Zo (l:=b) (i:=i.toNat) V0 Tree.nil)
  simp only [Z2o];omega
 .refine Z4 rfl (Zvj (a:=Z8 a) (b:=Z8 b) (fun h=> ?_)).symm
  have h5:=Zkd (d:=Tree.nil) h i.toNat
  rw [JC] at s
  exact s h5
 .intro j hj
  by_cases hj2:(j:Int) < i
  .exact h3 j hj2
  .rw [Z0Y,show i.toNat=j by omega] at s
   exact s
 .exact Z4 rfl (Z1e (a:=Z8 a) (b:=Z8 b).2 (ZjQ Tree.nil hl (fun j hj=> h3 j V0))).symm
noncomputable section
def Z8E(a:List Int × Unit):List Int:=a.1
def Z3a:Fs U:=fsL Zpz (fun a=> [Ze1 a]) .u64 Z8E
def Zpi:ArgL (List Tree × Unit):=(.cons (aSl .tree) .nil)
def ZdQ(a:List Tree × Unit):Prop:=a.1.length<=1000000000000
def Zc9(a:List Tree × Unit):List Tree:=a.1
def Z5I:Fs U:=fsL Zpi (fun a=> [ZdQ a]) .tree Zc9
def ZaF:ArgL (Edit × Tree × Unit):=(.cons (aEl .edit) (.cons (aEl .tree) .nil))
def Z3g(a:Edit × Tree × Unit):Prop:=(Za a.1<=20000000000/\Yp a.1/\∃ d,Z5 a.1 d=true)/\Zj a.2.1+ctE a.1<=200000000000/\rng a.2.1
def Zfg(a:Edit × Tree × Unit):Nat:=2*Za a.1+1
def Z4W(a:Edit × Tree × Unit):V U:= .tup [(true,(enc .tree (ZbE a.1 a.2.1))),(false,[.bool ((doE false a.1 a.2.1).isSome)])]
def Z9P:Fs U:=fs ZaF (fun a=> [Z3g a]) Z4W
def Z44(a:Edit × Tree × Unit):Prop:=Edit.kind a.1=2/\(Za a.1<=20000000000/\Yp a.1/\∃ d,Z5 a.1 d=true)/\Zj a.2.1+ctE a.1<=200000000000/\rng a.2.1
def Zba(a:Edit × Tree × Unit):Nat:=2*Za a.1
def Z40(a:Edit × Tree × Unit):V U:= .tup [(true,(enc .tree (Z1o (ZbD false a.1 a.2.1)))),(false,[.bool ((ZbD false a.1 a.2.1).isSome)])]
def ZmO:Fs U:=fs ZaF (fun a=> [Z44 a]) Z40
def Z43(a:Edit × Tree × Unit):Prop:=Edit.kind a.1=3/\(Za a.1<=20000000000/\Yp a.1/\∃ d,Z5 a.1 d=true)/\Zj a.2.1+ctE a.1<=200000000000/\rng a.2.1
def Z3Z(a:Edit × Tree × Unit):V U:= .tup [(true,(enc .tree (ZuB a.1 (Z6T false a.1 a.2.1)))),(false,[.bool ((Z3B (Z6T false a.1 a.2.1)).isSome)])]
def ZmN:Fs U:=fs ZaF (fun a=> [Z43 a]) Z3Z
def ZlJ:Zc U:=lvk [([0],[]),([0,4],[]),([(2,[.wr .u64])],[]),([(2,[.wr .u64])],[])]
abbrev ZGW(p:List Nat):=AW (Z2z ZlW) Tryz.f117 ZlJ p
theorem ZBa(l:List Int)(Q:QT)(h:(((l=[])->(Q .ret (⟨[(2,.c (.mref (.e 2 0)))],[],[(.e 2 0,LC.mk (U:=U) .u64 [] 0)]⟩:LSt U)))/\(True->((([]:List Int).length+l.length)*8<=140737488355328)/\(Q .ret (⟨[(2,.c (.mref (.e 2 0)))],[],[(.e 2 0,LC.mk (U:=U) .u64 (([]:List Int)++l) (([]:List Int).length))]⟩:LSt U))))):
  ZGW [] (L2 [(0,.c (sU .u64 l .unk))] []) Q:=
 Eq.mpr V4 h
def Zwi(l:List Int):Prop:=AW (Z2z ZlW) Tryz.f117 ZlJ [] (Zf (Zpz.can (l,())) []) (Z0j cfg Tryz.f117.ntmps Tryz.f117.results.toList (.c (.mref (.r 0 0))) [] [(.r 0 0,LC.mk (U:=U) .u64 (Z8E (l,())) 0)])
theorem ZtP(hb:∀ (l:List Int) (_:Unit),Ze1 (l,())->Zwi l):CT 117 Z3a:=
 Z0L (l:=[]) Zh rfl trivial ZlJ Tryz.func117 rfl rfl 1 (fun _=> rfl) V3 (fun ⟨l,_⟩=> hb l ())
def Zue:Zc U:=lvk [([0],[]),([0,4],[]),([(2,[.wr .tree])],[]),([(2,[.wr .tree])],[])]
abbrev ZIg(p:List Nat):=AW (Z2z ZlW) Tryz.f175 Zue p
theorem ZFd(l:List Tree)(Q:QT)(h:(((l=[])->(Q .ret (⟨[(2,.c (.mref (.e 2 0)))],[],[(.e 2 0,LC.mk (U:=U) .tree [] 0)]⟩:LSt U)))/\(True->((([]:List Tree).length+l.length)*56<=140737488355328)/\(Q .ret (⟨[(2,.c (.mref (.e 2 0)))],[],[(.e 2 0,LC.mk (U:=U) .tree (([]:List Tree)++l) (([]:List Tree).length))]⟩:LSt U))))):
  ZIg [] (L2 [(0,.c (sU .tree l .unk))] []) Q:=
 Eq.mpr V4 h
def ZzC(l:List Tree):Prop:=AW (Z2z ZlW) Tryz.f175 Zue [] (Zf (Zpi.can (l,())) []) (Z0j cfg Tryz.f175.ntmps Tryz.f175.results.toList (.c (.mref (.r 0 0))) [] [(.r 0 0,LC.mk (U:=U) .tree (Zc9 (l,())) 0)])
theorem ZxO(hb:∀ (l:List Tree) (_:Unit),ZdQ (l,())->ZzC l):CT 175 Z5I:=
 Z0L (l:=[]) Zh rfl trivial Zue Tryz.func175 rfl rfl 1 (fun _=> rfl) V3 (fun ⟨l,_⟩=> hb l ())
def Zan(N:Nat):List (FuncId × Fs U):=(74,fs ZaF (fun a=> [Z3g a,Zfg a < N]) Z4W) ::(115,fs ZaF (fun a=> [Z44 a,Zba a < N]) Z40) ::(116,fs ZaF (fun a=> [Z43 a,Zba a < N]) Z3Z) ::[(114,Ju),(173,Z1L),(174,Z1K),(177,Z0u),(175,Z5I),(176,Z8o),(117,Z3a)]
def ZCf:Zc U:=lvl [([2,3,4],[2,3,4]),([2,3,4,7],[2,3,4]),([2,3,4,7,8],[2,3,4]),([4,5],[4]),([2,3,4,7,11],[2,3,4]),([4,5],[4]),([2,3,4,7,19],[2,3,4]),([4,5],[4]),([2,3,4,26],[2,3,4]),([4,5],[4]),([4,5],[4])]
abbrev A74(N:Nat)(p:List Nat):=AW (Z1 (Zan N)) Tryz.f74 ZCf p
theorem ZH9(N:Nat)(e:Edit)(t:Tree)(Q:QT)(h:∀ s,s=e->∀ d,d=t->∀ u,u=(e.old)->(iB (e.kind==0) ((Q .ret (L2 [pL 4,pB 5 true] [(.loc 4,(enc .tree t))]))) ((iB (e.kind==1) ((Z2o (u,d,()))/\(Q .ret (L2 [pL 4,pB 5 (ZY (Z3 u) (Z3 d))] [(.loc 4,(enc .tree e.new))]))) ((iB (e.kind==2) ((Z44 (s,d,()))/\(Zba (s,d,()) < N)/\(Q .ret (L2 [pL 4,pB 5 ((ZbD false s d).isSome)] [(.loc 4,(enc .tree (Z1o (ZbD false s d))))]))) ((iB (e.kind==3) ((Z43 (s,d,()))/\(Zba (s,d,()) < N)/\(Q .ret (L2 [pL 4,pB 5 ((Z3B (Z6T false s d)).isSome)] [(.loc 4,(enc .tree (ZuB s (Z6T false s d))))]))) ((Q .ret (L2 [pL 4,pB 5 false] [(.loc 4,[ci 0,.nils,.nils])]))))))))))):
  A74 N [] (L2 [(0,.agg (enc .edit e)),(1,.agg (enc .tree t))] []) Q:=
 Eq.mpr V4 (h _ (Z6 _) _ (Z7 _) _ (Z7 _))
def ZE2(N:Nat)(e:Edit)(t:Tree):Prop:=AW (Z1 (Zan N)) Tryz.f74 ZCf [] (Zf (ZaF.can (e,t,())) []) (EQ Tryz.f74 (Z4W (e,t,())) [])
abbrev ZGP:Prop:=∀ (N:Nat) (e:Edit) (t:Tree) (_:Unit),Z3g (e,t,())->Zfg (e,t,()) < N+1->ZE2 N e t
def ZnR:Zc U:=lvk [([2,3,4],[2,3,4]),([2,3,4,16],[2,3,4]),([4,5],[4]),([2,3,4,6],[2,3,4,((.loc 6),[.any,.wr .u64,.wr .tree])]),([2,3,4,6,26,27,28],[2,3,4,((.loc 6),[.any,.wr .u64,.wr .tree])]),([2,3,4,6,26,27,28,29],[2,3,4,((.loc 6),[.any,.wr .u64,.wr .tree])]),([2,3,4,6,8,26,27,28],[2,3,4,((.loc 6),[.any,.wr .u64,.wr .tree]),8]),([2,3,4,6,8,9,26,27,28],[2,3,4,((.loc 6),[.any,.wr .u64,.wr .tree]),8]),([2,3,4,6,8,9,26,27,28,42],[2,3,4,((.loc 6),[.any,.wr .u64,.wr .tree]),8]),([4,5],[4]),([2,3,4,6,8,9,26,27,28,42,49],[2,3,4,((.loc 6),[.any,.wr .u64,.wr .tree]),8]),([2,3,4,6,8,9,26,27,28,42],[2,3,4,((.loc 6),[.any,.wr .u64,.wr .tree]),8]),([2,3,4,6,26,27,28],[2,3,4,((.loc 6),[.any,.wr .u64,.wr .tree])]),([2,3,4,6,26,27,28],[2,3,4,((.loc 6),[.any,.wr .u64,.wr .tree])]),([3,4,6,68,69,70],[3,4,((.loc 6),[.any,.wr .u64,.wr .tree])]),([3,4,6,68,69,70,71],[3,4,((.loc 6),[.any,.wr .u64,.wr .tree])]),([3,4,6,11,68,69,70],[3,4,((.loc 6),[.any,.wr .u64,.wr .tree]),11]),([3,4,6,11,12,13,68,69,70],[3,4,((.loc 6),[.any,.wr .u64,.wr .tree]),11,12]),([3,4,6,11,12,68,69,70,85],[3,4,((.loc 6),[.any,.wr .u64,.wr .tree]),11,12]),([4,5],[4]),([3,4,6,11,12,68,69,70,85,92],[3,4,((.loc 6),[.any,.wr .u64,.wr .tree]),11,12]),([3,4,6,11,12,68,69,70,85],[3,4,((.loc 6),[.any,.wr .u64,.wr .tree]),11,12]),([3,4,6,68,69,70],[3,4,((.loc 6),[.any,.wr .u64,.wr .tree])]),([3,4,6,68,69,70],[3,4,((.loc 6),[.any,.wr .u64,.wr .tree])]),([4,5],[4])]
def Z6u(e:Edit)(t:Tree)(h:Int)(d:List Int):LSt U:=(⟨[pL 2,pL 3,pL 4,pL 6,(26,.c (sU .wedit e.words .unk)),pI 27 (e.words.length:Int),pI 28 h],[(.loc 2,(enc .edit e)),(.loc 3,(enc .tree t)),(.loc 4,[ci 0,.nils,.nils]),(.loc 6,[ci 1,.mref (.l 6 1),.mref (.l 6 2)])],[(.l 6 1,LC.mk (U:=U) .u64 d 0),(.l 6 2,LC.mk (U:=U) .tree t.kids 0)]⟩:LSt U)
def Z6t(e:Edit)(t:Tree)(h:Int)(d:List Int):LSt U:=(⟨[pL 2,pL 3,pL 4,pL 6,pL 8,(9,.c (.int .u64 (Jy (Tree.mk t.kind t.words t.kids) (WEdit.at_ (e.words.getD h.toNat (WEdit.mk 0 0 0 0)))))),(26,.c (sU .wedit e.words .unk)),pI 27 (e.words.length:Int),pI 28 h,(42,.c (.bool (((mix 0 (Jy (Tree.mk t.kind t.words t.kids) (WEdit.at_ (e.words.getD h.toNat (WEdit.mk 0 0 0 0)))) (WEdit.mask (e.words.getD h.toNat (WEdit.mk 0 0 0 0)))):Int) !=(WEdit.old (e.words.getD h.toNat (WEdit.mk 0 0 0 0))))))],[(.loc 2,(enc .edit e)),(.loc 3,(enc .tree t)),(.loc 4,[ci 0,.nils,.nils]),(.loc 6,[ci 1,.mref (.l 6 1),.mref (.l 6 2)]),(.loc 8,(enc .wedit (e.words.getD h.toNat (WEdit.mk 0 0 0 0))))],[(.l 6 1,LC.mk (U:=U) .u64 d 0),(.l 6 2,LC.mk (U:=U) .tree t.kids 0)]⟩:LSt U)
def Z6s(e:Edit)(t:Tree)(h:List Int)(s:Int)(d:List Tree):LSt U:=(⟨[pL 3,pL 4,pL 6,(68,.c (sU .kid e.kids .unk)),pI 69 (e.kids.length:Int),pI 70 s],[(.loc 3,(enc .tree t)),(.loc 4,[ci 0,.nils,.nils]),(.loc 6,[ci 1,.mref (.l 6 1),.mref (.l 6 2)])],[(.l 6 1,LC.mk (U:=U) .u64 h 0),(.l 6 2,LC.mk (U:=U) .tree d 0)]⟩:LSt U)
def Z6r(e:Edit)(t:Tree)(s:List Int)(d:Int)(h:List Tree):LSt U:=(⟨[pL 3,pL 4,pL 6,pL 11,pL 12,(68,.c (sU .kid e.kids .unk)),pI 69 (e.kids.length:Int),pI 70 d,(85,.c (.bool (!((doE false (Edit.mk (Edit.kind (KidOf.e (e.kids.getD d.toNat (KidOf.mk 0 Edit.nil)))) (Tree.mk (Tree.kind (Edit.old (KidOf.e (e.kids.getD d.toNat (KidOf.mk 0 Edit.nil))))) (Tree.words (Edit.old (KidOf.e (e.kids.getD d.toNat (KidOf.mk 0 Edit.nil))))) (Tree.kids (Edit.old (KidOf.e (e.kids.getD d.toNat (KidOf.mk 0 Edit.nil)))))) (Tree.mk (Tree.kind (Edit.new (KidOf.e (e.kids.getD d.toNat (KidOf.mk 0 Edit.nil))))) (Tree.words (Edit.new (KidOf.e (e.kids.getD d.toNat (KidOf.mk 0 Edit.nil))))) (Tree.kids (Edit.new (KidOf.e (e.kids.getD d.toNat (KidOf.mk 0 Edit.nil)))))) (Edit.words (KidOf.e (e.kids.getD d.toNat (KidOf.mk 0 Edit.nil)))) (Edit.kids (KidOf.e (e.kids.getD d.toNat (KidOf.mk 0 Edit.nil)))) (Edit.list (KidOf.e (e.kids.getD d.toNat (KidOf.mk 0 Edit.nil)))) (Edit.ops (KidOf.e (e.kids.getD d.toNat (KidOf.mk 0 Edit.nil))))) (Tree.mk (Tree.kind (JK (Tree.mk t.kind t.words t.kids) (KidOf.at_ (e.kids.getD d.toNat (KidOf.mk 0 Edit.nil))))) (Tree.words (JK (Tree.mk t.kind t.words t.kids) (KidOf.at_ (e.kids.getD d.toNat (KidOf.mk 0 Edit.nil))))) (Tree.kids (JK (Tree.mk t.kind t.words t.kids) (KidOf.at_ (e.kids.getD d.toNat (KidOf.mk 0 Edit.nil))))))).isSome))))],[(.loc 3,(enc .tree t)),(.loc 4,[ci 0,.nils,.nils]),(.loc 6,[ci 1,.mref (.l 6 1),.mref (.l 6 2)]),(.loc 11,(enc .kid (e.kids.getD d.toNat (KidOf.mk 0 Edit.nil)))),(.loc 12,(enc .tree (ZbE (Edit.mk (Edit.kind (KidOf.e (e.kids.getD d.toNat (KidOf.mk 0 Edit.nil)))) (Tree.mk (Tree.kind (Edit.old (KidOf.e (e.kids.getD d.toNat (KidOf.mk 0 Edit.nil))))) (Tree.words (Edit.old (KidOf.e (e.kids.getD d.toNat (KidOf.mk 0 Edit.nil))))) (Tree.kids (Edit.old (KidOf.e (e.kids.getD d.toNat (KidOf.mk 0 Edit.nil)))))) (Tree.mk (Tree.kind (Edit.new (KidOf.e (e.kids.getD d.toNat (KidOf.mk 0 Edit.nil))))) (Tree.words (Edit.new (KidOf.e (e.kids.getD d.toNat (KidOf.mk 0 Edit.nil))))) (Tree.kids (Edit.new (KidOf.e (e.kids.getD d.toNat (KidOf.mk 0 Edit.nil)))))) (Edit.words (KidOf.e (e.kids.getD d.toNat (KidOf.mk 0 Edit.nil)))) (Edit.kids (KidOf.e (e.kids.getD d.toNat (KidOf.mk 0 Edit.nil)))) (Edit.list (KidOf.e (e.kids.getD d.toNat (KidOf.mk 0 Edit.nil)))) (Edit.ops (KidOf.e (e.kids.getD d.toNat (KidOf.mk 0 Edit.nil))))) (Tree.mk (Tree.kind (JK (Tree.mk t.kind t.words t.kids) (KidOf.at_ (e.kids.getD d.toNat (KidOf.mk 0 Edit.nil))))) (Tree.words (JK (Tree.mk t.kind t.words t.kids) (KidOf.at_ (e.kids.getD d.toNat (KidOf.mk 0 Edit.nil))))) (Tree.kids (JK (Tree.mk t.kind t.words t.kids) (KidOf.at_ (e.kids.getD d.toNat (KidOf.mk 0 Edit.nil)))))))))],[(.l 6 1,LC.mk (U:=U) .u64 s 0),(.l 6 2,LC.mk (U:=U) .tree h 0)]⟩:LSt U)
abbrev ZiI(N:Nat)(p:List Nat):=AW (Z1 (Zan N)) Tryz.f115 ZnR p
abbrev Z6U(N:Nat)(p:List Nat):=SW (Z1 (Zan N)) Tryz.f115 ZnR p
theorem ZFG(N:Nat)(e:Edit)(t:Tree)(Q:QT)(h:(iB (t.kind !=1) ((Q .ret (L2 [pL 4,pB 5 false] [(.loc 4,[ci 0,.nils,.nils])]))) ((Ze1 (t.words,()))/\(ZdQ (t.kids,()))/\(Zp (ZiI N [1,1,1,0,1,0,0]) (Z6u e t 0 t.words) (xB 0 (Z6U N [1,1,1,1] Q)))))):
  ZiI N [] (L2 [(0,.agg (enc .edit e)),(1,.agg (enc .tree t))] []) Q:=
 Eq.mpr V4 h
theorem ZrP(N:Nat)(e:Edit)(t:Tree)(u:Int)(d:List Int)(N0:NT)(Q:QT)(h:∀ aa,aa=t->∀ s,s=(e.words.getD u.toNat (WEdit.mk 0 0 0 0))->(iB (decide (u < (e.words.length:Int))) (((0:Int)<=u/\u < (e.words.length:Int))/\((Za0 (aa,s.at_,()))/\((ZhG (0,(Jy aa s.at_),s.mask,()))/\(iB (((mix 0 (Jy aa s.at_) s.mask):Int) !=s.old) ((Q .ret (L2 [pL 4,pB 5 false] [(.loc 4,[ci 0,.nils,.nils])]))) (Zp (ZiI N [1,1,1,0,1,0,0,1,1,0,0,1,1,1,0,0,0]) (Z6t e t u d) (xB 2 (Z6U N [1,1,1,0,1,0,0,1,1,0,0,1,1,1,1] (xB 1 (Z6U N [1,1,1,0,1,0,0,1,1,1] (xT N0 (xB 0 (Z6U N [1,1,1,1] Q)))))))))))) ((Zp (ZiI N [1,1,1,1,0,1,0,0]) (Z6s e t d 0 t.kids) (xB 4 (Z6U N [1,1,1,1,1] Q)))))):
  ZiI N [1,1,1,0,1,0,0] (Z6u e t u d) (xT N0 (xB 0 (Z6U N [1,1,1,1] Q))):=
 Eq.mpr V4 (h _ (Z7 _) _ rfl)
theorem ZrO(N:Nat)(e:Edit)(t:Tree)(s:Int)(d:List Int)(N1 N0:NT)(Q:QT)(h:let z0:=e.words.getD s.toNat (WEdit.mk 0 0 0 0);let z1:=Jy (Tree.mk t.kind t.words t.kids) (WEdit.at_ z0);(iB (decide (((d.length:Int):Int)<=(WEdit.at_ z0))) (((d.length+([0]).length)*8<=140737488355328)/\(N1 (Z6t e t s (d++([0]))))) ((ZhG (z1,(WEdit.new z0),(WEdit.mask z0),()))/\((0:Int)<=(WEdit.at_ z0)/\(WEdit.at_ z0) < (d.length:Int))/\((0:Nat)<=(Int.toNat (WEdit.at_ z0)))/\((InR (s+1))/\(N0 (Z6u e t (s+1) (List.set d (Int.toNat (WEdit.at_ z0)) (mix z1 (WEdit.new z0) (WEdit.mask z0))))))))):
  ZiI N [1,1,1,0,1,0,0,1,1,0,0,1,1,1,0,0,0] (Z6t e t s d) (xT N1 (xB 2 (Z6U N [1,1,1,0,1,0,0,1,1,0,0,1,1,1,1] (xB 1 (Z6U N [1,1,1,0,1,0,0,1,1,1] (xT N0 (xB 0 (Z6U N [1,1,1,1] Q)))))))):=
 Eq.mpr V4 h
theorem ZrN(N:Nat)(e:Edit)(t:Tree)(u:List Int)(d:Int)(s:List Tree)(N2:NT)(Q:QT)(h:∀ af,af=t->∀ aa,aa=(e.kids.getD d.toNat (KidOf.mk 0 Edit.nil))->∀ ae,ae=(aa.e)->∀ ab,ab=(JK af aa.at_)->(iB (decide (d < (e.kids.length:Int))) (((0:Int)<=d/\d < (e.kids.length:Int))/\((Za0 (af,aa.at_,()))/\(Z3g (ae,ab,()))/\(Zfg (ae,ab,()) < N)/\(iB (!((doE false ae ab).isSome)) ((Q .ret (L2 [pL 4,pB 5 false] [(.loc 4,[ci 0,.nils,.nils])]))) (Zp (ZiI N [1,1,1,1,0,1,0,0,1,1,0,0,1,1,1,0,0,0]) (Z6r e t u d s) (xB 6 (Z6U N [1,1,1,1,0,1,0,0,1,1,0,0,1,1,1,1] (xB 5 (Z6U N [1,1,1,1,0,1,0,0,1,1,1] (xT N2 (xB 4 (Z6U N [1,1,1,1,1] Q))))))))))) ((Q .ret (L2 [pL 4,pB 5 true] [(.loc 4,[ci 1,sU .u64 u (.own (.l 4 1)),sU .tree s (.own (.l 4 2))])]))))):
  ZiI N [1,1,1,1,0,1,0,0] (Z6s e t u d s) (xT N2 (xB 4 (Z6U N [1,1,1,1,1] Q))):=
 Eq.mpr V4 (h _ (Z7 _) _ rfl _ (Z6 _) _ (Z7 _))
theorem ZrM(N:Nat)(e:Edit)(t:Tree)(u:List Int)(s:Int)(d:List Tree)(N3 N2:NT)(Q:QT)(h:∀ af,af=t->∀ aa,aa=(e.kids.getD s.toNat (KidOf.mk 0 Edit.nil))->∀ ah,ah=(aa.e)->∀ ae,ae=(JK af aa.at_)->∀ ab,ab=(ZbE ah ae)->(iB (decide (((d.length:Int):Int)<=aa.at_)) (((d.length+([(Tree.mk 0 [] [])]).length)*56<=140737488355328)/\(N3 (Z6r e t u s (d++([(Tree.mk 0 [] [])]))))) (((0:Int)<=aa.at_/\aa.at_ < (d.length:Int))/\((0:Nat)<=(Int.toNat aa.at_))/\((InR (s+1))/\(N2 (Z6s e t u (s+1) (List.set d (Int.toNat aa.at_) ab))))))):
  ZiI N [1,1,1,1,0,1,0,0,1,1,0,0,1,1,1,0,0,0] (Z6r e t u s d) (xT N3 (xB 6 (Z6U N [1,1,1,1,0,1,0,0,1,1,0,0,1,1,1,1] (xB 5 (Z6U N [1,1,1,1,0,1,0,0,1,1,1] (xT N2 (xB 4 (Z6U N [1,1,1,1,1] Q)))))))):=
 Eq.mpr V4 (h _ (Z7 _) _ rfl _ (Z6 _) _ (Z7 _) _ (Z7 _))
def ZA5(N:Nat)(e:Edit)(t:Tree):Prop:=AW (Z1 (Zan N)) Tryz.f115 ZnR [] (Zf (ZaF.can (e,t,())) []) (EQ Tryz.f115 (Z40 (e,t,())) [])
abbrev ZAZ:Prop:=∀ (N:Nat) (e:Edit) (t:Tree) (_:Unit),Z44 (e,t,())->Zba (e,t,()) < N+1->ZA5 N e t
def ZnQ:Zc U:=lvk [([2,3,4],[2,3,4]),([2,3,4,18],[2,3,4]),([4,5],[4]),([2,3,4,6],[2,3,4,6]),([2,4,6,7],[2,4,6]),([4,6,7,26,27,28],[4,((.loc 6),[.any,.any,.own .tree])]),([4,6,7,26,27,28,29],[4,6]),([4,6,7,9,26,27,28],[4,6,9]),([4,6,7,9,10,26,27,28],[4,6,9]),([4,6,7,9,10,26,27,28,35],[4,6,9]),([4,6,7,9,10,26,27,28,35,36],[4,6,9]),([4,6,7,26,27,28,97],[4,6]),([4,6,7,9,10,26,27,28,35,44],[4,6,9]),([4,6,7,9,10,26,27,28,49],[4,6,9]),([4,6,7,9,10,26,27,28,49],[4,6,9]),([4,6,7,9,10,26,27,28,49],[4,6,9]),([4,6,7,9,10,26,27,28,54],[4,6,9]),([4,5],[4]),([4,6,7,9,10,26,27,28],[4,6,9]),([4,6,7,9,11,26,27,28],[4,6,9]),([4,6,7,12,13,26,27,28],[4,6,12]),([4,6,7,12,26,27,28,72],[4,6,12]),([4,5],[4]),([4,6,7,26,27,28,97],[4,6]),([4,6,7,9,11,26,27,28,80],[4,6,9]),([4,6,7,26,27,28,97],[4,6]),([4,6,7,9,11,26,27,28,89],[4,6,9]),([4,6,7,26,27,28,97],[4,6]),([4,5],[4]),([4,6,7,26,27,28],[4,((.loc 6),[.any,.any,.own .tree])]),([4,5],[4])]
def Z15(e:Edit)(t:Tree)(h:Int)(s d:List Tree):LSt U:=(L2 [pL 4,pL 6,(7,.c (sU .tree s .unk)),(26,.c (sU .op e.ops .unk)),pI 27 (e.ops.length:Int),pI 28 h] [(.loc 4,[ci 0,.nils,.nils]),(.loc 6,[ci t.kind,.nils,sU .tree d (.own (.l 6 2))])])
def Z2b(e:Edit)(t:Tree)(u:Int)(s d:List Tree)(h:V U):LSt U:=(L2 [pL 4,pL 6,(7,.c (sU .tree s .unk)),(26,.c (sU .op e.ops .unk)),pI 27 (e.ops.length:Int),pI 28 u,(97,h)] [(.loc 4,[ci 0,.nils,.nils]),(.loc 6,[ci t.kind,.nils,sU .tree d (.own (.l 6 2))])])
def Z6q(e:Edit)(t:Tree)(u:Int)(x7 s:List Tree)(d:Int)(h:V U):LSt U:=(L2 [pL 4,pL 6,(7,.c (sU .tree x7 .unk)),pL 9,pI 10 d,(26,.c (sU .op e.ops .unk)),pI 27 (e.ops.length:Int),pI 28 u,(49,h)] [(.loc 4,[ci 0,.nils,.nils]),(.loc 6,[ci t.kind,.nils,sU .tree s (.own (.l 6 2))]),(.loc 9,(enc .op (e.ops.getD u.toNat Op.nil)))])
abbrev ZaH(N:Nat)(p:List Nat):=AW (Z1 (Zan N)) Tryz.f116 ZnQ p
abbrev ZiG(N:Nat)(p:List Nat):=SW (Z1 (Zan N)) Tryz.f116 ZnQ p
theorem ZFF(N:Nat)(e:Edit)(t:Tree)(Q:QT)(h:(iB (t.kind !=e.list) ((Q .ret (L2 [pL 4,pB 5 false] [(.loc 4,[ci 0,.nils,.nils])]))) ((Zp (ZaH N [1,1,1,1,0,1,0,0]) (Z15 e t 0 t.kids []) (xB 0 (ZiG N [1,1,1,1,1] Q)))))):
  ZaH N [] (L2 [(0,.agg (enc .edit e)),(1,.agg (enc .tree t))] []) Q:=
 Eq.mpr V4 h
theorem ZrK(N:Nat)(e:Edit)(t:Tree)(u:Int)(x7 d:List Tree)(N0:NT)(Q:QT)(h:∀ s,s=(e.ops.getD u.toNat Op.nil)->let z1:=xT N0 (xB 0 (ZiG N [1,1,1,1,1] Q));let z0:=xB 1 (ZiG N [1,1,1,1,0,1,0,0,1,1,1] z1);(iB (decide (u < (e.ops.length:Int))) (((0:Int)<=u/\u < (e.ops.length:Int))/\(iB (s.kind==2) (((d.length+s.l.length)*56<=140737488355328)/\(ZaH N [1,1,1,1,0,1,0,0,1,1,1] (Z2b e t u x7 (d++s.l) .junk) z1)) ((iB (s.kind==1) ((ZaH N [1,1,1,1,0,1,0,0,1,1,0,0,1,1,1] (Z6q e t u x7 d (s.l.length:Int) .junk) z0)) ((iB (s.kind==3) ((ZaH N [1,1,1,1,0,1,0,0,1,1,0,0,1,1,1] (Z6q e t u x7 d 1 (.c (.bool (s.kind==3)))) z0)) (ZaH N [1,1,1,1,0,1,0,0,1,1,0,0,1,1,1] (Z6q e t u x7 d s.n (.c (.bool (s.kind==3)))) z0))))))) ((Q .ret (L2 [pL 4,pB 5 (((x7.length:Int):Int)==0)] [(.loc 4,[ci t.kind,.nils,sU .tree d (.own (.l 4 2))])]))))):
  ZaH N [1,1,1,1,0,1,0,0] (Z15 e t u x7 d) (xT N0 (xB 0 (ZiG N [1,1,1,1,1] Q))):=
 Eq.mpr V4 (h _ rfl)
theorem ZrL(N:Nat)(e:Edit)(t:Tree)(aa:Int)(s d:List Tree)(u:V U)(N0:NT)(Q:QT)(h:(InR (aa+1))/\(N0 (Z15 e t (aa+1) s d))):
  ZaH N [1,1,1,1,0,1,0,0,1,1,1] (Z2b e t aa s d u) (xT N0 (xB 0 (ZiG N [1,1,1,1,1] Q))):=
 Eq.mpr V4 h
theorem ZcF(N:Nat)(e:Edit)(t:Tree)(aa:Int)(x7 s:List Tree)(d:Int)(aj:V U)(N0:NT)(Q:QT)(h:∀ u,u=(e.ops.getD aa.toNat Op.nil)->∀ ak,ak=(List.getD (List.take d.toNat x7) (Int.toNat 0) Tree.nil)->∀ ae,ae=ak->∀ ab,ab=(u.e)->∀ ai,ai=(eqX (Z8 u.l) (Z8 (List.take d.toNat x7)))->∀ ah,ah=(ZbE ab ae)->let z3:=List.drop d.toNat x7;let z2:=List.take d.toNat x7;let z1:=xT N0 (xB 0 (ZiG N [1,1,1,1,1] Q));let z0:=(Q .ret (L2 [pL 4,pB 5 false] [(.loc 4,[ci 0,.nils,.nils])]));(iB (decide (((x7.length:Int):Int) < d)) z0 ((((0:Int)<=d/\d<=(x7.length:Int))/\((0:Int)<=d/\d<=(x7.length:Int))/\(iB (u.kind==0) (((s.length+z2.length)*56<=140737488355328)/\(ZaH N [1,1,1,1,0,1,0,0,1,1,1] (Z2b e t aa z3 (s++z2) .junk) z1)) ((iB (u.kind==1) ((Z7w (u.l,z2,(),()))/\(iB (!ai) z0 (ZaH N [1,1,1,1,0,1,0,0,1,1,1] (Z2b e t aa z3 s (.c (.bool (!ai)))) z1))) (((0:Int)<=0/\0 < (z2.length:Int))/\(Z3g (ab,ae,()))/\(Zfg (ab,ae,()) < N)/\(iB (!((doE false ab ae).isSome)) z0 (((s.length+([ah]).length)*56<=140737488355328)/\(ZaH N [1,1,1,1,0,1,0,0,1,1,1] (Z2b e t aa z3 (s++([ah])) .junk) z1))))))))))):
  ZaH N [1,1,1,1,0,1,0,0,1,1,0,0,1,1,1] (Z6q e t aa x7 s d aj) (xB 1 (ZiG N [1,1,1,1,0,1,0,0,1,1,1] (xT N0 (xB 0 (ZiG N [1,1,1,1,1] Q))))):=
 Eq.mpr V4 (h _ rfl _ rfl _ (Z7 _) _ (Z6 _) _ rfl _ (Z7 _))
def ZA4(N:Nat)(e:Edit)(t:Tree):Prop:=AW (Z1 (Zan N)) Tryz.f116 ZnQ [] (Zf (ZaF.can (e,t,())) []) (EQ Tryz.f116 (Z3Z (e,t,())) [])
abbrev ZAY:Prop:=∀ (N:Nat) (e:Edit) (t:Tree) (_:Unit),Z43 (e,t,())->Zba (e,t,()) < N+1->ZA4 N e t
theorem Zxf(ZbL:CT 114 Ju)(Zr1:CT 173 Z1L)(Zr0:CT 174 Z1K)(Zij:CT 177 Z0u)(ZDc:CT 175 Z5I)(ZbK:CT 176 Z8o)(ZvF:CT 117 Z3a)(b74:ZGP)(ZDH:ZAZ)(ZDG:ZAY):
  CT 74 Z9P/\CT 115 ZmO/\CT 116 ZmN:=by
 have aa:FK 74:=⟨Tryz.f74,Tryz.func74,rfl,rfl⟩
 have s:FK 115:=⟨Tryz.f115,Tryz.func115,rfl,rfl⟩
 have d:FK 116:=⟨Tryz.f116,Tryz.func116,rfl,rfl⟩
 have u:∀ N,CT 74 (fs ZaF (fun a=> [Z3g a,Zfg a < N]) Z4W)/\CT 115 (fs ZaF (fun a=> [Z44 a,Zba a < N]) Z40)/\CT 116 (fs ZaF (fun a=> [Z43 a,Zba a < N]) Z3Z):=by
  intro N
  induction N with
  | zero=> exact ⟨Z1V aa,Z1V s,Z1V d⟩
  | succ N ih=>
   have kn:=Jn (l:=Zan N) ⟨ih.1,ih.2.1,ih.2.2,ZbL,Zr1,Zr0,Zij,ZDc,ZbK,ZvF,trivial⟩
   exact ⟨Y7 (Γ:=Z1 (Zan N)) Zh rfl kn ZCf Tryz.func74 rfl rfl (fun a=> by show 2<=_;decide) (fun ⟨e,t,_⟩ h=> b74 N e t () h.1 h.2.1),
    Y7 (Γ:=Z1 (Zan N)) Zh rfl kn ZnR Tryz.func115 rfl rfl (fun a=> by show 2<=_;decide) (fun ⟨e,t,_⟩ h=> ZDH N e t () h.1 h.2.1),
    Y7 (Γ:=Z1 (Zan N)) Zh rfl kn ZnQ Tryz.func116 rfl rfl (fun a=> by show 2<=_;decide) (fun ⟨e,t,_⟩ h=> ZDG N e t () h.1 h.2.1)⟩
 exact ⟨Z1W aa fun N=> (u N).1,Z1W s fun N=> (u N).2.1,Z1W d fun N=> (u N).2.2⟩
end
noncomputable section
def Znb(a:Edit × Tree × Unit):V U:= .tup [(true,(enc .tree (Z1o ((doE false a.1 a.2.1).map Z3)))),(false,[.bool ((doE false a.1 a.2.1).isSome)])]
def Z0t:Fs U:=fs ZaF (fun a=> [Z3g a]) Znb
def Zv7:List (FuncId × Fs U):=[(75,Js),(74,Z9P)]
def ZCt:Zc U:=lvl [([2,3,4],[2,3,4]),([4,6,7],[4,6]),([4,6,15],[4,6]),([4,5],[4]),([4,5],[4])]
abbrev A25(p:List Nat):=AW (Z1 Zv7) Tryz.f25 ZCt p
theorem ZHt(e:Edit)(t:Tree)(Q:QT)(h:∀ d,d=e->∀ s,s=t->∀ u,u=(ZbE d s)->((Z3g (d,s,()))/\(iB (!((doE false d s).isSome)) ((Q .ret (L2 [pL 4,pB 5 false] [(.loc 4,[ci 0,.nils,.nils])]))) ((Z1m (u,()))/\(Q .ret (L2 [pL 4,pB 5 true] [(.loc 4,(enc .tree (Z3 u)))])))))):
  A25 [] (L2 [(0,.agg (enc .edit e)),(1,.agg (enc .tree t))] []) Q:=
 Eq.mpr V4 (h _ (Z6 _) _ (Z7 _) _ (Z7 _))
def ZEm(e:Edit)(t:Tree):Prop:=AW (Z1 Zv7) Tryz.f25 ZCt [] (Zf (ZaF.can (e,t,())) []) (EQ Tryz.f25 (Znb (e,t,())) [])
theorem ZC6(c75:CT 75 Js)(c74:CT 74 Z9P)(hb:∀ (e:Edit) (t:Tree) (_:Unit),Z3g (e,t,())->ZEm e t):CT 25 Z0t:=
 Z0 (l:=[(75,Js),(74,Z9P)]) Zh rfl (⟨c75,c74,trivial⟩) ZCt Tryz.func25 rfl rfl 2 (fun _=> rfl) V3 (fun ⟨e,t,_⟩=> hb e t ())
end
theorem ZvF:Contract Tryz.prog cfg 117 Z3a:=by
 refine ZtP ?_
 intro l _ d
 simp only [Ze1] at d
 refine ZBa _ _ ⟨fun h=> ?_,fun _=> ⟨by simp only [Qh];omega,?_⟩⟩
 .subst h
  simp only [Z8E]
  exact V1
 .simp only [Z8E]
  exact V1
theorem ZDc:Contract Tryz.prog cfg 175 Z5I:=by
 refine ZxO ?_
 intro l _ d
 simp only [ZdQ] at d
 refine ZFd _ _ ⟨fun h=> ?_,fun _=> ⟨by simp only [Qh];omega,?_⟩⟩
 .subst h
  simp only [Zc9]
  exact V1
 .simp only [Zc9]
  exact V1
theorem Zfz{α:Type}(z:α){l:List α}{i:Nat}(h:i < l.length)(x:α):Yk z l i x=l.set i x:=by
 simp only [Yk];rw [show i+1 - l.length=0 by omega];simp
theorem ZaO{α:Type}(z:α){l:List α}{i:Nat}(h:l.length<=i)(x:α):Yk z (l++[z]) i x=Yk z l i x:=by
 simp only [Yk,Qb,XG,Qi]
 rw [show i+1 - l.length=(i+1 - (l.length+1))+1 by omega,List.replicate_succ]
 try rfl
theorem ZtJ(t:Tree):t.words.length+Zd t.kids+1=Zj t:=by obtain ⟨k,w,ks⟩:=t;simp only [Zj,Tree.words_mk,Tree.kids_mk];omega
theorem Zsj{t:Tree}(h:rng t):InR t.kind/\(∀ x∈t.words,isW x)/\Y6 t.kids:=by obtain ⟨k,w,ks⟩:=t;exact h
theorem ZmX{ks:List Tree}(h:Y6 ks)(i:Nat):rng (ks.getD i Tree.nil):=by
 by_cases hi:i < ks.length
 .exact YV h (Zo hi _)
 .rw [Qz,QZ V0]
  trivial
theorem ZjO(ks:List Tree)(i:Nat):Zj (ks.getD i Tree.nil)<=Zd ks+1:=by
 by_cases hi:i < ks.length
 .have:=Jr (Zo hi Tree.nil);omega
 .rw [Qz,QZ V0]
  simp [Tree.nil,Zj,Zd]
theorem ZqE(t:Tree){i:Int}(h:0<=i):JK t i=t.kids.getD i.toNat Tree.nil:=by unfold JK;grind
theorem ZkN(t:Tree){i:Int}(h:0<=i):Jy t i=t.words.getD i.toNat 0:=by unfold Jy;omega
theorem Zwl{l:List Int}(h:∀ x∈l,isW x)(i:Nat):isW (l.getD i 0):=by
 by_cases hi:i < l.length
 .grind
 .rw [Qz,QZ V0];trivial
theorem b74:ZGP:=by
 intro N e t _ hp hN
 simp only [Z3g,Zfg] at hp hN
 obtain ⟨⟨p1,p2,d,p3⟩,p4,p5⟩:=hp
 have h1:=Yt e
 have h2:=Z3X p2
 have hd:=Z0I false e t
 rw [YL] at hd
 refine ZH9 _ _ _ _ ?_
 rintro y1 ah y2 aj y3 ai
 subst ah aj ai
 (simp only [iB,vcT,vcS])
 refine ⟨fun hk=> ?_,fun hk=> ⟨fun h=> ⟨by simp only [Z2o];omega,?_⟩,fun h=> ⟨fun s=> ⟨by simp only [Z44];grind,by simp only [Zba];omega,?_⟩,fun s=> ⟨fun u=> ⟨by simp only [Z43];grind,by simp only [Zba];omega,?_⟩,fun u=> ?_⟩⟩⟩⟩
 .rw [if_pos hk] at hd
  simp only [Z4W,ZbE,if_pos hk,hd]
  exact V1
 .rw [if_neg hk,if_pos h] at hd
  simp only [Z4W,ZbE,if_neg hk,if_pos h,hd]
  cases ZY (Z3 y1.old) (Z3 y2) <;> (repeat' (first | exact trivial | exact rfl | apply And.intro))
 .rw [if_neg hk,if_neg h,if_pos s] at hd
  simp only [Z4W,ZbE,if_neg hk,if_neg h,if_pos s,hd]
  exact V1
 .rw [if_neg hk,if_neg h,if_neg s,if_pos u] at hd
  simp only [Z4W,ZbE,if_neg hk,if_neg h,if_neg s,if_pos u,hd]
  have e2:(if y2.kind=y1.list then (Z3B (ZL false y1.ops y2.kids [])).map fun b=> Tree.mk y1.list [] b else none).isSome=(Z3B (Z6T false y1 y2)).isSome:=by
   unfold Z6T
   split
   .grind
   .try rfl
  rw [e2]
  exact V1
 .rw [if_neg hk,if_neg h,if_neg s,if_neg u] at hd
  simp only [Z4W,ZbE,if_neg hk,if_neg h,if_neg s,if_neg u,hd]
  exact V1
theorem ZDH:ZAZ:=by
 intro N e t _ hp hN
 simp only [Z44,Zba] at hp hN
 obtain ⟨k2,⟨p1,p2,d,p3⟩,p4,p5⟩:=hp
 have h1:=Yt e
 have h2:=Yz e.kids
 have h3:=ZtJ t
 have h4:=Zs t.kids
 have r2:=Z3X p2
 have rt:=Zsj p5
 have ri:=Zn p3
 refine ZFG _ _ _ _ ?_
 (simp only [iB,vcT,vcS])
 have no:ZbD false e t=none->ZX cfg Tryz.f115.ntmps Tryz.f115.results.toList (Z40 (e,t,())) [] .ret (⟨[(4,.ptr (.loc 4) 0),(5,.c (.bool false))],[((.loc 4),[.int .i64 0,.nils,.nils])],[]⟩:LSt U):=by
  intro hs
  simp only [Z40,hs]
  exact V1
 refine ⟨fun hk=> no (by unfold ZbD;rw [if_neg hk]),fun hk=> ?_⟩
 have hk:t.kind=1:=by simpa using hk
 refine ⟨by simp only [Ze1];omega,by simp only [ZdQ];omega,?_⟩
 refine Ze (ι:=Int × List Int) (fun s=> Z6u e t s.1 s.2) (fun s=> 0<=s.1/\s.1<=e.words.length/\wsD t.words (e.words.drop s.1.toNat) s.2=wsD t.words e.words t.words/\s.2.length<=t.words.length+65536) (fun s=> ((e.words.length:Int) - s.1).toNat) (0,t.words) rfl ⟨by simp,by simp,by simp,by simp⟩ ?_
 rintro ⟨i,out⟩ ⟨f1,f2,f3,f4⟩
 dsimp only at f1 f2 f3 f4
 refine ZrP _ _ _ _ _ _ _ ?_
 rintro y1 al y2 ae
 subst al
 (simp only [iB,vcT,vcS])
 refine ⟨fun hi=> ?_,fun hi=> ?_⟩
 .have h:=Zo (l:=e.words) (i:=i.toNat) V0 (WEdit.mk 0 0 0 0)
  rw [YJ f1 hi (WEdit.mk 0 0 0 0),<-ae] at f3
  rw [<-ae] at h
  have hw:=Z0k ri.words y2 h
  obtain ⟨g1,g2,g3,g4⟩:=r2.2.2.2.1 y2 h
  have ah:Jy y1 y2.at_=y1.words.getD y2.at_.toNat 0:=ZkN y1 V0
  have a2:=Zwl rt.2.1 y2.at_.toNat
  rw [wsD] at f3
  rw [ah]
  unfold isW at g3 g4 a2
  refine ⟨⟨f1,hi⟩,by simp only [Za0],by simp only [ZhG];omega,fun af=> no ?_,fun ai=> ?_⟩
  .rw [if_neg af] at f3
   unfold ZbD
   rw [if_pos hk,<-f3]
   try rfl
  .have ai:mix 0 (y1.words.getD y2.at_.toNat 0) y2.mask=y2.old:=by simpa using ai
   rw [if_pos ai] at f3
   refine Ze (ι:=List Int) (fun s=> Z6t e y1 i s) (fun s=> (∀ v,Yk 0 s y2.at_.toNat v=Yk 0 out y2.at_.toNat v)/\s.length<=y1.words.length+65536) (fun s=> (y2.at_+1 - s.length).toNat) out rfl ⟨fun v=> rfl,f4⟩ ?_
   rintro s ⟨q1,q2⟩
   refine ZrO _ _ _ _ _ _ _ _ ?_
   (simp only [vE])
   rw [<-ae,ah]
   (simp only [iB,vcT,vcS])
   refine ⟨fun hl=> ⟨by simp;omega,s++[0],rfl,⟨fun v=> ?_,by simp;omega⟩,by simp;omega⟩,fun hl=> ?_⟩
   .rw [ZaO 0 V0,q1]
   .have hl:y2.at_ < s.length:=V0
    refine ⟨by simp only [ZhG];omega,V0,V0,V2,(i+1,s.set y2.at_.toNat (mix (y1.words.getD y2.at_.toNat 0) y2.new y2.mask)),rfl,⟨V5,V5,?_,by simp only [List.length_set];omega⟩,V5⟩
    dsimp only
    rw [<-f3,<-Zfz 0 V0,q1]
 .rw [Qd V0,wsD] at f3
  refine Ze (ι:=Int × List Tree) (fun s=> Z6s e y1 out s.1 s.2) (fun s=> 0<=s.1/\s.1<=e.kids.length/\JQ false y1.kids (e.kids.drop s.1.toNat) s.2=JQ false y1.kids e.kids y1.kids/\s.2.length<=y1.kids.length+65536) (fun s=> ((e.kids.length:Int) - s.1).toNat) (0,y1.kids) rfl ⟨by simp,by simp,by simp,by simp⟩ ?_
  rintro ⟨j,ks⟩ ⟨e1,e2,e3,e4⟩
  dsimp only at e1 e2 e3 e4
  refine ZrN _ _ _ _ _ _ _ _ ?_
  rintro y1 al y2 ae y3 ao y4 ak
  subst al
  (simp only [iB,vcT,vcS])
  refine ⟨fun hj=> ?_,fun hj=> ?_⟩
  .have h:=Zo (l:=e.kids) (i:=j.toNat) V0 (KidOf.mk 0 Edit.nil)
   rw [YJ e1 hj (KidOf.mk 0 Edit.nil),<-ae] at e3
   rw [<-ae] at h
   have au:=Zv ri.kids y2 h
   have hm:=Z0f h
   have az:=ZeW h
   have be:=Z5x e
   have hr:=(Ys r2.2.2.2.2.2.1 h).2
   have ah:JK y1 y2.at_=y1.kids.getD y2.at_.toNat Tree.nil:=ZqE y1 V0
   rw [ah] at ak
   have a6:=ZjO y1.kids y2.at_.toNat
   have av:=ZmX rt.2.2 y2.at_.toNat
   rw [JQ,ZeR,<-ak,<-ao] at e3
   rw [<-ak] at a6 av
   rw [<-ao] at hm hr au az
   refine ⟨⟨e1,hj⟩,by simp only [Za0],by simp only [Z3g];exact ⟨⟨V0,hr,_,au.2⟩,V0,av⟩,by simp only [Zfg];omega,fun af=> no ?_,fun ai=> ?_⟩
   .have af:doE false y3 y4=none:=by simpa using af
    rw [af] at e3
    unfold ZbD
    rw [if_pos hk,<-f3,<-e3]
    try rfl
   .obtain ⟨u,hu⟩:=QW.1 ai
    rw [hu,Qm] at e3
    refine Ze (ι:=List Tree) (fun s=> Z6r e y1 out j s) (fun s=> (∀ v,Yk Tree.nil s y2.at_.toNat v=Yk Tree.nil ks y2.at_.toNat v)/\s.length<=y1.kids.length+65536) (fun s=> (y2.at_+1 - s.length).toNat) ks rfl ⟨fun v=> rfl,e4⟩ ?_
    rintro s ⟨q1,q2⟩
    refine ZrM _ _ _ _ _ _ _ _ _ ?_
    rintro z1 a0 z2 aq z3 aw z4 ay z5 ar
    rw [<-ae] at aq
    subst a0 aq
    rw [<-ao] at aw
    subst aw
    rw [ah,<-ak] at ay
    subst ay
    rw [Za8 hu] at ar
    subst ar
    (simp only [iB,vcT,vcS])
    refine ⟨fun hl=> ⟨by simp;omega,s++[Tree.nil],rfl,⟨fun v=> ?_,by simp;omega⟩,by simp;omega⟩,fun hl=> ?_⟩
    .rw [ZaO Tree.nil V0,q1]
    .have hl:z2.at_ < s.length:=V0
     refine ⟨V0,V0,V2,(j+1,s.set z2.at_.toNat z5),rfl,⟨V5,V5,?_,by simp only [List.length_set];omega⟩,V5⟩
     dsimp only
     rw [<-e3,<-Zfz Tree.nil V0,q1]
  .rw [Qd V0,JQ] at e3
   have hs:ZbD false e y1=some (.mk 1 out ks):=by
    unfold ZbD
    rw [if_pos hk,<-f3,<-e3]
    try rfl
   simp only [Z40,hs]
   exact V1
theorem ZqR(r:Bool)(o:Op)(s:List Op)(rest out:List Tree):ZL r (o ::s) rest out=(Z4h r o rest out).bind fun x=> ZL r s x.2 x.1:=by rw [ZL]
theorem Z20{ks:List Tree}(h:Y6 ks)(n:Nat):Y6 (ks.drop n):=by
 induction n generalizing ks with
 | zero=> exact h
 | succ n ih=> cases ks with
  | nil=> exact h
  | cons a r=> exact ih h.2
theorem ZDG:ZAY:=by
 intro N e t _ hp hN
 simp only [Z43,Zba] at hp hN
 obtain ⟨k3,⟨p1,p2,d,p3⟩,p4,p5⟩:=hp
 have h1:=Yt e
 have h2:=Y5 e.ops
 have h3:=ZtJ t
 have h4:=Zs t.kids
 have r2:=Z3X p2
 have rt:=Zsj p5
 have ri:=Zn p3
 refine ZFF _ _ _ _ ?_
 (simp only [iB,vcT,vcS])
 have no:Z6T false e t=none->ZX cfg Tryz.f116.ntmps Tryz.f116.results.toList (Z3Z (e,t,())) [] .ret (⟨[(4,.ptr (.loc 4) 0),(5,.c (.bool false))],[((.loc 4),[.int .i64 0,.nils,.nils])],[]⟩:LSt U):=by
  intro hs
  simp only [Z3Z,hs]
  exact V1
 refine ⟨fun hk=> no (by unfold Z6T;rw [if_neg hk]),fun hk=> ?_⟩
 have hk:t.kind=e.list:=by simpa using hk
 have bh:Z6T false e t=ZL false e.ops t.kids []:=by unfold Z6T;rw [if_pos hk]
 refine Ze (ι:=Int × List Tree × List Tree) (fun s=> Z15 e t s.1 s.2.2 s.2.1)
  (fun s=> 0<=s.1/\s.1<=e.ops.length/\ZL false (e.ops.drop s.1.toNat) s.2.2 s.2.1=Z6T false e t/\s.2.1.length+s.2.2.length+Zl (e.ops.drop s.1.toNat)<=t.kids.length+Zl e.ops/\Zd s.2.2<=Zd t.kids/\Y6 s.2.2)
  (fun s=> ((e.ops.length:Int) - s.1).toNat) (0,[],t.kids) rfl ⟨by simp,by simp,by simp [bh],by simp,by simp,rt.2.2⟩ ?_
 rintro ⟨i,out,aa⟩ ⟨f1,f2,f3,f4,f5,f6⟩
 dsimp only at f1 f2 f3 f4 f5 f6
 refine ZrK _ _ _ _ _ _ _ _ ?_
 rintro y1 al
 (simp only [iB,vcT,vcS])
 refine ⟨fun hi=> ?_,fun hi=> ?_⟩
 .have af:=Zo (l:=e.ops) (i:=i.toNat) V0 Op.nil
  rw [YJ f1 hi Op.nil,<-al] at f3 f4
  rw [<-al] at af
  have hr:=Go.AM.rightOs_mem ri.ops y1 af
  have hm:=Yy af
  have bg:=ZeV af
  have b5:=Z5x e
  have bo:=ZV y1
  have a8:=Z1d (Z0Z r2.2.2.2.2.2.2 af)
  have b4:=Zs y1.l
  simp only [Zl] at f4
  rw [ZqR,Yv] at f3
  have go:∀ (x:List Tree) (m:List Tree) (v:V U) N0 Q',ZL false (e.ops.drop (i+1).toNat) x m=Z6T false e t->m.length+x.length+Zl (e.ops.drop (i+1).toNat)<=t.kids.length+Zl e.ops->Zd x<=Zd t.kids->Y6 x->
    (∀ s2,s2=Z15 e t (i+1) x m->N0 s2)->ZaH N [1,1,1,1,0,1,0,0,1,1,1] (Z2b e t i x m v) (AExit.then N0 (AExit.inBlock 0 (ZiG N [1,1,1,1,1] Q'))):=by
   intro x m v N0 Q' a1 a2 a3 a4 a5
   exact ZrL _ _ _ _ _ _ _ _ _ ⟨V2,a5 _ rfl⟩
  have fin:∀ (x m:List Tree),ZL false (e.ops.drop (i+1).toNat) x m=Z6T false e t->m.length+x.length+Zl (e.ops.drop (i+1).toNat)<=t.kids.length+Zl e.ops->Zd x<=Zd t.kids->Y6 x->∀ s2,s2=Z15 e t (i+1) x m->
    ∃ j:Int × List Tree × List Tree,s2=Z15 e t j.1 j.2.2 j.2.1/\(0<=j.1/\j.1<=e.ops.length/\ZL false (e.ops.drop j.1.toNat) j.2.2 j.2.1=Z6T false e t/\j.2.1.length+j.2.2.length+Zl (e.ops.drop j.1.toNat)<=t.kids.length+Zl e.ops/\Zd j.2.2<=Zd t.kids/\Y6 j.2.2)/\((e.ops.length:Int) - j.1).toNat < ((e.ops.length:Int) - i).toNat:=by
   rintro x m a1 a2 a3 a4 _ rfl
   exact ⟨(i+1,m,x),rfl,⟨V5,V5,a1,a2,a3,a4⟩,V5⟩
  have r1:=ZS hr
  have ht:∀ n:Nat,(aa.take n).length<=aa.length/\(aa.take n).length+(aa.drop n).length=aa.length:=by
   intro n
   simp only [Qr,QX];omega
  refine ⟨⟨f1,hi⟩,fun ak=> ⟨V0,?_⟩,fun ak=> ⟨fun ah=> ?_,fun ah=> ⟨fun aq=> ?_,fun aq=> ?_⟩⟩⟩
  .rw [Jk,Jk,if_pos ak,Qm] at f3
   exact go _ _ _ _ _ f3 (by simp only [Qb];omega) f5 f6 (fin _ _ f3 (by simp only [Qb];omega) f5 f6)
  .refine ZcF _ _ _ _ _ _ _ _ _ _ ?_
   rintro z1 ae z2 au z3 ay z4 ar z5 aj z6 ao
   rw [<-al] at ae
   subst ae
   rw [Jk,if_pos ah] at f3
   (simp only [iB,vcT,vcS])
   rw [Xi] at aj
   rw [Xi]
   refine ⟨fun hs=> no ?_,fun hs=> ⟨V0,V0,fun h=> by omega,fun _=> ⟨fun _=> ⟨?_,fun hq=> no ?_,fun hq=> ?_⟩,fun h=> absurd ah h⟩⟩⟩
   .have:Jw z1.l aa=false:=by unfold Jw;rw [decide_eq_false V0];try rfl
    rw [this,if_neg (by simp)] at f3
    exact f3.symm
   .have:=Zer z1.l.length aa
    simp only [Z7w];omega
   .have:Jw z1.l aa=false:=by unfold Jw;rw [<-aj,hq];simp
    rw [this,if_neg (by simp)] at f3
    exact f3.symm
   .have:Jw z1.l aa=true:=by unfold Jw;rw [<-aj,hq,decide_eq_true V0];try rfl
    rw [this,if_pos rfl,Qm] at f3
    have hd:=Z2s z1.l.length aa
    have ba:=ht z1.l.length
    exact go _ _ _ _ _ f3 V0 V0 (Z20 f6 _) (fin _ _ f3 V0 V0 (Z20 f6 _))
  .refine ZcF _ _ _ _ _ _ _ _ _ _ ?_
   rintro z1 ae z2 au z3 ay z4 ar z5 aj z6 ao
   rw [<-al] at ae
   subst ae
   rw [Jk,if_neg ah,if_neg ak] at f3
   (simp only [iB,vcT,vcS])
   rw [show Int.toNat 1=1 from rfl]
   refine ⟨fun hs=> no ?_,fun hs=> ⟨V0,V0,fun h=> by omega,fun _=> ⟨fun h=> absurd h ah,fun _=> ?_⟩⟩⟩
   .rw [Yu] at f3
    exact f3.symm
   .have hz:z3=aa.getD 0 Tree.nil:=by
     rw [ay,au]
     cases aa with
     | nil=> rfl
     | cons a r=> rfl
    rw [Jk,<-hz,<-ar] at f3
    have bl:=ZjO aa 0
    have a7:=ZmX f6 0
    rw [<-hz] at bl a7
    have a9:=J4 hr aq
    rw [<-ar] at a9 bo a8 bg
    refine ⟨?_,by simp only [Z3g];exact ⟨⟨V0,a8.2.2.2,_,a9⟩,V0,a7⟩,by simp only [Zfg];omega,fun av=> no ?_,fun bn=> ?_⟩
    .simp only [Qr];omega
    .have av:doE false z4 z3=none:=by simpa using av
     rw [av] at f3
     exact f3.symm
    .obtain ⟨u,hu⟩:=QW.1 bn
     rw [Za8 hu] at ao
     subst ao
     rw [hu,Qe,Qm] at f3
     have hd:=Z2s 1 aa
     have ba:=ht 1
     have b9:(aa.take 1).length=1:=by simp only [Qr];omega
     refine ⟨by simp only [XG];omega,?_⟩
     exact go _ _ _ _ _ f3 (by simp only [Qb,XG];omega) V0 (Z20 f6 _) (fin _ _ f3 (by simp only [Qb,XG];omega) V0 (Z20 f6 _))
  .have ax:y1.kind=0:=by cases r1 <;> first | rfl | (exfalso;simp at ah ak aq)
   refine ZcF _ _ _ _ _ _ _ _ _ _ ?_
   rintro z1 ae z2 au z3 ay z4 ar z5 aj z6 ao
   rw [<-al] at ae
   subst ae
   rw [if_pos ax] at f3
   have hn:1<=z1.n/\z1.n<=1048576:=by cases r1 <;> first | (constructor <;> assumption) | (exfalso;simp at ah ak aq ax)
   (simp only [iB,vcT,vcS])
   refine ⟨fun hs=> no ?_,fun hs=> ⟨V0,V0,fun _=> ⟨?_,?_⟩,fun h=> absurd ax h⟩⟩
   .rw [Jk] at f3
    exact f3.symm
   .have:=(ht z1.n.toNat).1
    omega
   .rw [Yu,Qm] at f3
    have hd:=Z2s z1.n.toNat aa
    have ba:=ht z1.n.toNat
    exact go _ _ _ _ _ f3 (by simp only [Qb];omega) V0 (Z20 f6 _) (fin _ _ f3 (by simp only [Qb];omega) V0 (Z20 f6 _))
 .rw [Qd V0,ZL] at f3
  simp only [Z3Z,<-f3,ZuB,Z3B,Qm,hk]
  by_cases hr:aa.length=0
  .rw [if_pos hr,hr]
   exact V1
  .rw [if_neg hr,show ((aa.length:Int)==0)=false by rw [beq_eq_false_iff_ne];omega]
   exact V1
theorem ZHA:Contract Tryz.prog cfg 74 Z9P/\Contract Tryz.prog cfg 115 ZmO/\Contract Tryz.prog cfg 116 ZmN:=Zxf ZbL Zr1 Zr0 Zij ZDc ZbK ZvF b74 ZDH ZDG
theorem c74:Contract Tryz.prog cfg 74 Z9P:=ZHA.1
theorem Zks{r:Bool}{e:Edit}{t u:Tree}(s:∃ d,Z5 e d=true)(ht:Zj t+ctE e<=200000000000)(h:doE r e t=some u):Zj u<=1000000000000:=by
 obtain ⟨d,s⟩:=s
 have:=Zcm r e d t u s h
 omega
theorem c25:Contract Tryz.prog cfg 25 Z0t:=by
 refine ZC6 c75 c74 ?_
 intro e t _ h
 simp only [Z3g] at h
 refine ZHt _ _ _ ?_
 rintro y1 aa y2 ab y3 d
 subst aa ab
 (simp only [iB,vcT,vcS])
 refine ⟨by simp only [Z3g];exact h,fun s=> ?_,fun hs=> ?_⟩
 .have s:doE false y1 y2=none:=by simpa using s
  simp only [Znb,s]
  exact V1
 .obtain ⟨u,hu⟩:=QW.1 hs
  rw [Za8 hu] at d
  subst d
  have:=Zks h.1.2.2 h.2.1 hu
  refine ⟨by simp only [Z1m];exact this,?_⟩
  simp only [Znb,hu]
  exact V1
noncomputable section
def Zcu:ArgM ((List Op × List Tree × List Tree × Unit) × Unit):=(.obj 0 (.cons (cWr .op 0 0) (.cons (Z3F .tree 0 1) (.cons (Z3F .tree 0 2) .nil))) .nil)
def Z53(a:(List Op × List Tree × List Tree × Unit) × Unit):Prop:=(a.1.1).length<=200000000000/\(a.1.2.1).length<=200000000000/\(a.1.2.2.1).length<=200000000000
def Z9V(a:(List Op × List Tree × List Tree × Unit) × Unit):V U:= .tup []
def Z5T(a:(List Op × List Tree × List Tree × Unit) × Unit):List (List (C U)):=[[.mref (.x 0 0),sU .tree ((Z9 (Wst.mk a.1.1 a.1.2.1 a.1.2.2.1)).gone) (.own (.x 0 1)),sU .tree ((Z9 (Wst.mk a.1.1 a.1.2.1 a.1.2.2.1)).brought) (.own (.x 0 2))]]
def Z5U(a:(List Op × List Tree × List Tree × Unit) × Unit):List (Tok × LC U):=[(.x 0 0,LC.mk (U:=U) .op ((Z9 (Wst.mk a.1.1 a.1.2.1 a.1.2.2.1)).out) 0)]
def Z1M:Fs U:=Zfi Zcu (fun a=> [Z53 a]) Z9V Z5T Z5U
def Zcw:ArgM ((List Op × List Tree × List Tree × Unit) × Int × Unit):=(.obj 0 (.cons (cWr .op 0 0) (.cons (Z3F .tree 0 1) (.cons (Z3F .tree 0 2) .nil))) (.cons (Yr .i64) .nil))
def Z7x(a:(List Op × List Tree × List Tree × Unit) × Int × Unit):Prop:=(a.1.1).length<=200000000000/\(a.1.2.1).length<=200000000000/\(a.1.2.2.1).length<=200000000000/\(∀ o∈a.1.1,0<=o.n/\o.n<=100000000000000000)/\0<=a.2.1/\a.2.1<=1048576
def Zld(a:(List Op × List Tree × List Tree × Unit) × Int × Unit):V U:= .tup []
def ZgZ(a:(List Op × List Tree × List Tree × Unit) × Int × Unit):List (List (C U)):=[[.mref (.x 0 0),sU .tree ((ZU (Wst.mk a.1.1 a.1.2.1 a.1.2.2.1) a.2.1).gone) (.own (.x 0 1)),sU .tree ((ZU (Wst.mk a.1.1 a.1.2.1 a.1.2.2.1) a.2.1).brought) (.own (.x 0 2))]]
def Zh0(a:(List Op × List Tree × List Tree × Unit) × Int × Unit):List (Tok × LC U):=[(.x 0 0,LC.mk (U:=U) .op ((ZU (Wst.mk a.1.1 a.1.2.1 a.1.2.2.1) a.2.1).out) 0)]
def Z5J:Fs U:=Zfi Zcw (fun a=> [Z7x a]) Zld ZgZ Zh0
def Zcv:ArgM ((List Op × List Tree × List Tree × Unit) × List Tree × Unit):=(.objAt 0 1 (.cons (cWr .op 0 0) (.cons (Z3F .tree 0 1) (.cons (Z3F .tree 0 2) .nil))) (.cons (aSl .tree) .nil))
def ZdT(a:(List Op × List Tree × List Tree × Unit) × List Tree × Unit):Prop:=(a.1.1).length<=200000000000/\(a.1.2.1).length<=200000000000/\(a.1.2.2.1).length<=200000000000/\Zd a.2.1<=20000000000
def ZsM(a:(List Op × List Tree × List Tree × Unit) × List Tree × Unit):V U:= .tup []
def Zn5(a:(List Op × List Tree × List Tree × Unit) × List Tree × Unit):List (List (C U)):=[[.mref (.x 0 0),sU .tree ((Wst.mk a.1.1 (a.1.2.1++Z8 a.2.1) a.1.2.2.1).gone) (.own (.x 0 1)),sU .tree ((Wst.mk a.1.1 (a.1.2.1++Z8 a.2.1) a.1.2.2.1).brought) (.own (.x 0 2))]]
def Zn6(a:(List Op × List Tree × List Tree × Unit) × List Tree × Unit):List (Tok × LC U):=[(.x 0 0,LC.mk (U:=U) .op ((Wst.mk a.1.1 (a.1.2.1++Z8 a.2.1) a.1.2.2.1).out) 0)]
def ZgL:Fs U:=Zfi Zcv (fun a=> [ZdT a]) ZsM Zn5 Zn6
def Z9I:ArgM ((List Op × List Tree × List Tree × Unit) × List Tree × Unit):=(.objAt 0 2 (.cons (cWr .op 0 0) (.cons (Z3F .tree 0 1) (.cons (Z3F .tree 0 2) .nil))) (.cons (aSl .tree) .nil))
def Zjd(a:(List Op × List Tree × List Tree × Unit) × List Tree × Unit):List (List (C U)):=[[.mref (.x 0 0),sU .tree ((Wst.mk a.1.1 a.1.2.1 (a.1.2.2.1++Z8 a.2.1)).gone) (.own (.x 0 1)),sU .tree ((Wst.mk a.1.1 a.1.2.1 (a.1.2.2.1++Z8 a.2.1)).brought) (.own (.x 0 2))]]
def Zje(a:(List Op × List Tree × List Tree × Unit) × List Tree × Unit):List (Tok × LC U):=[(.x 0 0,LC.mk (U:=U) .op ((Wst.mk a.1.1 a.1.2.1 (a.1.2.2.1++Z8 a.2.1)).out) 0)]
def Zde:Fs U:=Zfi Z9I (fun a=> [ZdT a]) ZsM Zjd Zje
def Z8J(a:Int × Edit × Unit):Prop:=a.2.1.words.length<=20000000000/\a.2.1.kids.length<=20000000000
def Znd(a:Int × Edit × Unit):V U:= .c (.bool (Zbs a.1 a.2.1))
def Z39:Fs U:=fs Zp1 (fun a=> [Z8J a]) Znd
def Zuh:Zc U:=lvk [([0,7],[((.x 0),[.wr .op])]),([0],[((.x 0),[.wr .op])]),([0,28],[((.x 0),[.wr .op])]),([0],[((.x 0),[.wr .op])]),([],[((.x 0),[.wr .op])])]
abbrev ZHQ(wo:List Op)(wg wb:List Tree)(Q:QT):=AW (Z1 ZlW) Tryz.f150 Zuh [] (⟨[(0,.ptr (.x 0) 0)],[(.x 0,[.mref (.x 0 0),sU .tree wg (.own (.x 0 1)),sU .tree wb (.own (.x 0 2))])],[(.x 0 0,LC.mk (U:=U) .op wo 0)]⟩:LSt U) Q
theorem ZFi(wo:List Op)(wg wb:List Tree)(Q:QT)(h:∀ d,d=(Edit.mk 0 (Tree.mk 0 [] []) (Tree.mk 0 [] []) [] [] 0 [])->∀ s,s=(List.set (wo++([(OpOf.mk 0 0 [] d:Op)])) (Int.toNat (wo.length:Int)) (OpOf.mk 1 0 wg d:Op))->let z0:=decide ((0:Int) < (wb.length:Int));iB (decide ((0:Int) < (wg.length:Int))) (((wo.length+([(OpOf.mk 0 0 [] d:Op)]).length)*240<=140737488355328)/\((0:Int)<=(wo.length:Int)/\(wo.length:Int) < ((wo++([(OpOf.mk 0 0 [] d:Op)])).length:Int))/\((0:Nat)<=(Int.toNat (wo.length:Int)))/\(iB z0 (((s.length+([(OpOf.mk 0 0 [] d:Op)]).length)*240<=140737488355328)/\((0:Int)<=(s.length:Int)/\(s.length:Int) < ((s++([(OpOf.mk 0 0 [] d:Op)])).length:Int))/\((0:Nat)<=(Int.toNat (s.length:Int)))/\(Q .normal (⟨[],[(.x 0,[.mref (.x 0 0),.nils,.nils])],[(.x 0 0,LC.mk (U:=U) .op (List.set (s++([(OpOf.mk 0 0 [] d:Op)])) (Int.toNat (s.length:Int)) (OpOf.mk 2 0 wb d:Op)) 0)]⟩:LSt U))) (Q .normal (⟨[],[(.x 0,[.mref (.x 0 0),.nils,.nils])],[(.x 0 0,LC.mk (U:=U) .op s 0)]⟩:LSt U)))) (iB z0 (((wo.length+([(OpOf.mk 0 0 [] d:Op)]).length)*240<=140737488355328)/\((0:Int)<=(wo.length:Int)/\(wo.length:Int) < ((wo++([(OpOf.mk 0 0 [] d:Op)])).length:Int))/\((0:Nat)<=(Int.toNat (wo.length:Int)))/\(Q .normal (⟨[],[(.x 0,[.mref (.x 0 0),.nils,.nils])],[(.x 0 0,LC.mk (U:=U) .op (List.set (wo++([(OpOf.mk 0 0 [] d:Op)])) (Int.toNat (wo.length:Int)) (OpOf.mk 2 0 wb d:Op)) 0)]⟩:LSt U))) (Q .normal (⟨[],[(.x 0,[.mref (.x 0 0),.nils,.nils])],[(.x 0 0,LC.mk (U:=U) .op wo 0)]⟩:LSt U)))):
  ZHQ wo wg wb Q:=
 Eq.mpr V4 (h _ rfl _ rfl)
def ZzH(wo:List Op)(wg wb:List Tree):Prop:=AW (Z1 ZlW) Tryz.f150 Zuh [] (JM (Zcu.can ((wo,wg,wb,()),())) (Zcu.canX ((wo,wg,wb,()),())) (Zcu.canL ((wo,wg,wb,()),()))) (Z0j cfg Tryz.f150.ntmps Tryz.f150.results.toList (Z9V ((wo,wg,wb,()),())) (Z5T ((wo,wg,wb,()),())) (Z5U ((wo,wg,wb,()),())))
theorem ZxT(hb:∀ (h:List Op) (s:List Tree) (d:List Tree) (_:Unit),Z53 ((h,s,d,()),())->ZzH h s d):CT 150 Z1M:=
 YA (l:=[]) Zh rfl trivial Zuh Tryz.func150 rfl rfl 1 (fun _=> rfl) V3 (fun ⟨⟨h,s,d,_⟩,_⟩=> hb h s d ())
def Zos:List (FuncId × Fs U):=[(150,Z1M)]
def Zui:Zc U:=lvk [([0,1],[((.x 0),[.wr .op])]),([0,1,4],[((.x 0),[.wr .op])]),([0,1,4,25],[((.x 0),[.wr .op])]),([],[((.x 0),[.wr .op])]),([],[((.x 0),[.wr .op])])]
abbrev ZHS(wo:List Op)(wg wb:List Tree)(n:Int)(Q:QT):=AW (Z1 Zos) Tryz.f147 Zui [] (⟨[(0,.ptr (.x 0) 0),pI 1 n],[(.x 0,[.mref (.x 0 0),sU .tree wg (.own (.x 0 1)),sU .tree wb (.own (.x 0 2))])],[(.x 0 0,LC.mk (U:=U) .op wo 0)]⟩:LSt U) Q
theorem ZFk(wo:List Op)(wg wb:List Tree)(n:Int)(Q:QT)(h:∀ s,s=(Edit.mk 0 (Tree.mk 0 [] []) (Tree.mk 0 [] []) [] [] 0 [])->∀ u,u=(Int.toNat (((((Z9 (Wst.mk wo wg wb)).out).length:Int):Int) - 1))->∀ d,d=(List.getD ((Z9 (Wst.mk wo wg wb)).out) u Op.nil)->∀ aa,aa=(d.e)->let z1:=Z9 (Wst.mk wo wg wb);let z0:=decide ((0:Int)<=((((z1.out).length:Int):Int) - 1));((Z53 ((wo,wg,wb,()),()))/\((InR ((((z1.out).length:Int):Int) - 1))/\((Tt z0)/\(Tt z0)/\(Tt z0)/\(Tt z0)/\(Tt z0)/\(z0=true->(0:Int)<=((((z1.out).length:Int):Int) - 1)/\((((z1.out).length:Int):Int) - 1) < ((z1.out).length:Int))/\(Tt z0)/\(Tt z0)/\(Tt z0)/\(Tt z0)/\(iB (bif z0 then (d.kind==0) else false) (((0:Int)<=((((z1.out).length:Int):Int) - 1)/\((((z1.out).length:Int):Int) - 1) < ((z1.out).length:Int))/\(InR (d.n+n))/\((0:Int)<=((((z1.out).length:Int):Int) - 1)/\((((z1.out).length:Int):Int) - 1) < ((z1.out).length:Int))/\((0:Nat)<=u)/\(Q .ret (⟨[],[(.x 0,[.mref (.x 0 0),sU .tree (z1.gone) (.own (.x 0 1)),sU .tree (z1.brought) (.own (.x 0 2))])],[(.x 0 0,LC.mk (U:=U) .op (List.set (z1.out) u (OpOf.mk d.kind (d.n+n) d.l aa:Op)) 0)]⟩:LSt U))) ((((z1.out).length+([(OpOf.mk 0 0 [] s:Op)]).length)*240<=140737488355328)/\((0:Int)<=((z1.out).length:Int)/\((z1.out).length:Int) < (((z1.out)++([(OpOf.mk 0 0 [] s:Op)])).length:Int))/\((0:Nat)<=(Int.toNat ((z1.out).length:Int)))/\(Q .normal (⟨[],[(.x 0,[.mref (.x 0 0),sU .tree (z1.gone) (.own (.x 0 1)),sU .tree (z1.brought) (.own (.x 0 2))])],[(.x 0 0,LC.mk (U:=U) .op (List.set ((z1.out)++([(OpOf.mk 0 0 [] s:Op)])) (Int.toNat ((z1.out).length:Int)) (OpOf.mk 0 n [] s:Op)) 0)]⟩:LSt U)))))))):
  ZHS wo wg wb n Q:=
 Eq.mpr V4 (h _ rfl _ rfl _ rfl _ (Z6 _))
def ZzJ(wo:List Op)(wg wb:List Tree)(n:Int):Prop:=AW (Z1 Zos) Tryz.f147 Zui [] (JM (Zcw.can ((wo,wg,wb,()),n,())) (Zcw.canX ((wo,wg,wb,()),n,())) (Zcw.canL ((wo,wg,wb,()),n,()))) (Z0j cfg Tryz.f147.ntmps Tryz.f147.results.toList (Zld ((wo,wg,wb,()),n,())) (ZgZ ((wo,wg,wb,()),n,())) (Zh0 ((wo,wg,wb,()),n,())))
theorem ZxV(Zr2:CT 150 Z1M)(hb:∀ (h:List Op) (s:List Tree) (d:List Tree) (n:Int) (_:Unit),Z7x ((h,s,d,()),n,())->ZzJ h s d n):CT 147 Z5J:=
 YA (l:=[(150,Z1M)]) Zh rfl (⟨Zr2,trivial⟩) Zui Tryz.func147 rfl rfl 2 (fun _=> rfl) V3 (fun ⟨⟨h,s,d,_⟩,n,_⟩=> hb h s d n ())
def Zco:List (FuncId × Fs U):=[(75,Js)]
def ZjT:Zc U:=lvk [([0,6,7,8],[((.x 0),[.wr .op])]),([0,6,7,8,9],[((.x 0),[.wr .op])]),([0,5,6,7,8],[5,((.x 0),[.wr .op])]),([0,6,7,8],[((.x 0),[.wr .op])]),([0,6,7,8],[((.x 0),[.wr .op])])]
def Z6m(wo:List Op)(wg wb l:List Tree)(d:Int)(mx0_1:List Tree):LSt U:=(⟨[(0,.ptr (.x 0) 1),(6,.c (sU .tree l .unk)),pI 7 (l.length:Int),pI 8 d],[(.x 0,[.mref (.x 0 0),sU .tree mx0_1 (.own (.x 0 1)),sU .tree wb (.own (.x 0 2))])],[(.x 0 0,LC.mk (U:=U) .op wo 0)]⟩:LSt U)
abbrev ZHR(wo:List Op)(wg wb l:List Tree)(Q:QT):=AW (Z1 Zco) Tryz.f148 ZjT [] (⟨[(0,.ptr (.x 0) 1),(1,.c (sU .tree l .unk))],[(.x 0,[.mref (.x 0 0),sU .tree wg (.own (.x 0 1)),sU .tree wb (.own (.x 0 2))])],[(.x 0 0,LC.mk (U:=U) .op wo 0)]⟩:LSt U) Q
theorem ZFj(wo:List Op)(wg wb l:List Tree)(Q:QT)(h:Zp (AW (Z1 Zco) Tryz.f148 ZjT [1,0,0]) (Z6m wo wg wb l 0 wg) (xB 0 Q)):
  ZHR wo wg wb l Q:=
 Eq.mpr V4 h
abbrev ZyR(wo:List Op)(wg wb l:List Tree)(d:Int)(mx0_1:List Tree)(N0:NT)(Q:QT):=AW (Z1 Zco) Tryz.f148 ZjT [1,0,0] (Z6m wo wg wb l d mx0_1) (xT N0 (xB 0 Q))
theorem ZrE(wo:List Op)(wg wb l:List Tree)(d:Int)(mx0_1:List Tree)(N0:NT)(Q:QT)(h:let z2:=decide (d < (l.length:Int));let z1:=l.getD d.toNat Tree.nil;let z0:=Tree.mk (Tree.kind z1) (Tree.words z1) (Tree.kids z1);iB z2 (((0:Int)<=d/\d < (l.length:Int))/\((Z1m (z0,()))/\((mx0_1.length+([(Tree.mk 0 [] [])]).length)*56<=140737488355328)/\((0:Int)<=(mx0_1.length:Int)/\(mx0_1.length:Int) < ((mx0_1++([(Tree.mk 0 [] [])])).length:Int))/\(mx0_1.length<=(Int.toNat (mx0_1.length:Int)))/\((InR (d+1))/\(N0 (Z6m wo wg wb l (d+1) (List.set (mx0_1++([(Tree.mk 0 [] [])])) (Int.toNat (mx0_1.length:Int)) (Tree.mk (Tree.kind (Z3 z0)) (Tree.words (Z3 z0)) (Tree.kids (Z3 z0))))))))) (Q .normal (⟨[(0,.ptr (.x 0) 1),(6,.c (sU .tree l .unk)),pI 7 (l.length:Int),pI 8 d,pB 9 z2],[(.x 0,[.mref (.x 0 0),sU .tree mx0_1 (.own (.x 0 1)),sU .tree wb (.own (.x 0 2))])],[(.x 0 0,LC.mk (U:=U) .op wo 0)]⟩:LSt U))):
  ZyR wo wg wb l d mx0_1 N0 Q:=
 Eq.mpr V4 h
def ZzI(wo:List Op)(wg wb l:List Tree):Prop:=AW (Z1 Zco) Tryz.f148 ZjT [] (JM (Zcv.can ((wo,wg,wb,()),l,())) (Zcv.canX ((wo,wg,wb,()),l,())) (Zcv.canL ((wo,wg,wb,()),l,()))) (Z0j cfg Tryz.f148.ntmps Tryz.f148.results.toList (ZsM ((wo,wg,wb,()),l,())) (Zn5 ((wo,wg,wb,()),l,())) (Zn6 ((wo,wg,wb,()),l,())))
theorem ZxU(c75:CT 75 Js)(hb:∀ (h:List Op) (s:List Tree) (d:List Tree) (l:List Tree) (_:Unit),ZdT ((h,s,d,()),l,())->ZzI h s d l):CT 148 ZgL:=
 YA (l:=[(75,Js)]) Zh rfl (⟨c75,trivial⟩) ZjT Tryz.func148 rfl rfl 2 (fun _=> rfl) V3 (fun ⟨⟨h,s,d,_⟩,l,_⟩=> hb h s d l ())
def Z4e(wo:List Op)(wg wb l:List Tree)(d:Int)(mx0_2:List Tree):LSt U:=(⟨[(0,.ptr (.x 0) 2),(6,.c (sU .tree l .unk)),pI 7 (l.length:Int),pI 8 d],[(.x 0,[.mref (.x 0 0),sU .tree wg (.own (.x 0 1)),sU .tree mx0_2 (.own (.x 0 2))])],[(.x 0 0,LC.mk (U:=U) .op wo 0)]⟩:LSt U)
abbrev ZGC(wo:List Op)(wg wb l:List Tree)(Q:QT):=AW (Z1 Zco) Tryz.f148 ZjT [] (⟨[(0,.ptr (.x 0) 2),(1,.c (sU .tree l .unk))],[(.x 0,[.mref (.x 0 0),sU .tree wg (.own (.x 0 1)),sU .tree wb (.own (.x 0 2))])],[(.x 0 0,LC.mk (U:=U) .op wo 0)]⟩:LSt U) Q
theorem ZB9(wo:List Op)(wg wb l:List Tree)(Q:QT)(h:Zp (AW (Z1 Zco) Tryz.f148 ZjT [1,0,0]) (Z4e wo wg wb l 0 wb) (xB 0 Q)):
  ZGC wo wg wb l Q:=
 Eq.mpr V4 h
abbrev Zw7(wo:List Op)(wg wb l:List Tree)(d:Int)(mx0_2:List Tree)(N0:NT)(Q:QT):=AW (Z1 Zco) Tryz.f148 ZjT [1,0,0] (Z4e wo wg wb l d mx0_2) (xT N0 (xB 0 Q))
theorem ZpO(wo:List Op)(wg wb l:List Tree)(d:Int)(mx0_2:List Tree)(N0:NT)(Q:QT)(h:let z2:=decide (d < (l.length:Int));let z1:=l.getD d.toNat Tree.nil;let z0:=Tree.mk (Tree.kind z1) (Tree.words z1) (Tree.kids z1);iB z2 (((0:Int)<=d/\d < (l.length:Int))/\((Z1m (z0,()))/\((mx0_2.length+([(Tree.mk 0 [] [])]).length)*56<=140737488355328)/\((0:Int)<=(mx0_2.length:Int)/\(mx0_2.length:Int) < ((mx0_2++([(Tree.mk 0 [] [])])).length:Int))/\(mx0_2.length<=(Int.toNat (mx0_2.length:Int)))/\((InR (d+1))/\(N0 (Z4e wo wg wb l (d+1) (List.set (mx0_2++([(Tree.mk 0 [] [])])) (Int.toNat (mx0_2.length:Int)) (Tree.mk (Tree.kind (Z3 z0)) (Tree.words (Z3 z0)) (Tree.kids (Z3 z0))))))))) (Q .normal (⟨[(0,.ptr (.x 0) 2),(6,.c (sU .tree l .unk)),pI 7 (l.length:Int),pI 8 d,pB 9 z2],[(.x 0,[.mref (.x 0 0),sU .tree wg (.own (.x 0 1)),sU .tree mx0_2 (.own (.x 0 2))])],[(.x 0 0,LC.mk (U:=U) .op wo 0)]⟩:LSt U))):
  Zw7 wo wg wb l d mx0_2 N0 Q:=
 Eq.mpr V4 h
def Zwh(wo:List Op)(wg wb l:List Tree):Prop:=AW (Z1 Zco) Tryz.f148 ZjT [] (JM (Z9I.can ((wo,wg,wb,()),l,())) (Z9I.canX ((wo,wg,wb,()),l,())) (Z9I.canL ((wo,wg,wb,()),l,()))) (Z0j cfg Tryz.f148.ntmps Tryz.f148.results.toList (ZsM ((wo,wg,wb,()),l,())) (Zjd ((wo,wg,wb,()),l,())) (Zje ((wo,wg,wb,()),l,())))
theorem ZtO(c75:CT 75 Js)(hb:∀ (h:List Op) (s:List Tree) (d:List Tree) (l:List Tree) (_:Unit),ZdT ((h,s,d,()),l,())->Zwh h s d l):CT 148 Zde:=
 YA (l:=[(75,Js)]) Zh rfl (⟨c75,trivial⟩) ZjT Tryz.func148 rfl rfl 2 (fun _=> rfl) V3 (fun ⟨⟨h,s,d,_⟩,l,_⟩=> hb h s d l ())
abbrev ZGB(list:Int)(e:Edit)(Q:QT):=AW (Z1 ZlW) Tryz.f149 ZtY [] (L2 [pI 0 list,(1,.agg (enc .edit e))] []) Q
theorem ZB8(list:Int)(e:Edit)(Q:QT)(h:let z2:=(!(e.kind==0)) && (list==9);let z1:=bif (list==9) then (e.kind==2) else false;let z0:=(!(e.kind==0)) && z1;((Tt (!(e.kind==0)))/\(Tt (!(e.kind==0)))/\(Tt z2)/\(Tt z2)/\((!(e.kind==0))=true->(True->(!(e.kind==0))=true))/\((!(e.kind==0))=true->((list==9)=true->z2=true))/\(Tt (!(e.kind==0)))/\(Tt z0)/\(Tt z0)/\(Tt z0)/\(Tt z0)/\(Tt z0)/\(Tt z0)/\(z0=true->InR (((e.words.length:Int):Int)+(e.kids.length:Int)))/\(Tt z0)/\((!(e.kind==0))=true->(True->(!(e.kind==0))=true))/\((!(e.kind==0))=true->(z1=true->z0=true))/\((e.kind==0)=false->(!(e.kind==0))=true)/\(Q .ret (L2 [(4,.c (.bool (bif (e.kind==0) then true else (bif z1 then (((((e.words.length:Int):Int)+(e.kids.length:Int)):Int)==0) else false))))] [])))):
  ZGB list e Q:=
 Eq.mpr V4 h
def Zwg(list:Int)(e:Edit):Prop:=AW (Z1 ZlW) Tryz.f149 ZtY [] (Zf (Zp1.can (list,e,())) []) (EQ Tryz.f149 (Znd (list,e,())) [])
theorem ZtN(hb:∀ (list:Int) (e:Edit) (_:Unit),Z8J (list,e,())->Zwg list e):CT 149 Z39:=
 Z0 (l:=[]) Zh rfl trivial ZtY Tryz.func149 rfl rfl 2 (fun _=> rfl) V3 (fun ⟨list,e,_⟩=> hb list e ())
end
theorem Z1h{α:Type}(l:List α)(z x:α):(l++[z]).set (Int.toNat (l.length:Int)) x=l++[x]:=by
 simp_all
theorem Z98:∀ (F:List Op) (n:Int),YD F n=if F.length≠0/\(F.getD (F.length - 1) Op.nil).kind=0 then F.set (F.length - 1) ⟨(F.getD (F.length - 1) Op.nil).kind,(F.getD (F.length - 1) Op.nil).n+n,(F.getD (F.length - 1) Op.nil).l,(F.getD (F.length - 1) Op.nil).e⟩ else F++[⟨0,n,[],Edit.nil⟩]
 | [],n=> by simp [YD]
 | [o],n=> by simp [YD]
 | o ::p ::r,n=> by
  have d:=Z98 (p ::r) n
  have e:(o ::p ::r).length - 1=((p ::r).length - 1)+1:=by simp
  rw [YD,d,e]
  grind
theorem Zax(s:Wst):(Z9 s).out.length<=s.out.length+2:=by
 simp only [Z9,Jo]
 grind
theorem Zaw(s:Wst):∀ o∈(Z9 s).out,o∈s.out\/o.n=0:=by
 intro o d
 simp only [Z9,Jo,Qg] at d
 grind
theorem Zr2:Contract Tryz.prog cfg 150 Z1M:=by
 refine ZxT ?_
 intro d s h _ hp
 simp only [Z53] at hp
 refine ZFi d s h _ ?_
 rintro y1 aa y2 u
 have hy:y1=Edit.nil:=aa
 subst hy
 rw [Z1h] at u
 subst u
 (simp only [iB,vcS])
 refine ⟨fun h1=> ⟨by simp;omega,by simp;omega,V0,fun h2=> ⟨by simp;omega,by simp;omega,V0,?_⟩,fun h2=> ?_⟩,fun h1=> ⟨fun h2=> ⟨by simp;omega,by simp;omega,V0,?_⟩,fun h2=> ?_⟩⟩
 .rw [Z1h]
  have e:Z9 ⟨d,s,h⟩=⟨d++[⟨1,0,s,Edit.nil⟩]++[⟨2,0,h,Edit.nil⟩],[],[]⟩:=by
   simp only [Z9,Jo];rw [Jk,Jk];simp
  simp only [Z9V,Z5T,Z5U,e]
  exact V1
 .have e:Z9 ⟨d,s,h⟩=⟨d++[⟨1,0,s,Edit.nil⟩],[],[]⟩:=by
   simp only [Z9,Jo];rw [Jk,Yu];simp
  simp only [Z9V,Z5T,Z5U,e]
  exact V1
 .rw [Z1h]
  have e:Z9 ⟨d,s,h⟩=⟨d++[⟨2,0,h,Edit.nil⟩],[],[]⟩:=by
   simp only [Z9,Jo];rw [Yu,Jk];simp
  simp only [Z9V,Z5T,Z5U,e]
  exact V1
 .have e:Z9 ⟨d,s,h⟩=⟨d,[],[]⟩:=by
   simp only [Z9,Jo];rw [Yu,Yu];simp
  simp only [Z9V,Z5T,Z5U,e]
  exact V1
theorem ZDf:Contract Tryz.prog cfg 147 Z5J:=by
 refine ZxV Zr2 ?_
 intro d u s n _ hp
 simp only [Z7x] at hp
 obtain ⟨p1,p2,p3,p4,p5,p6⟩:=hp
 have aj:=Zax ⟨d,u,s⟩
 have aa:=Zaw ⟨d,u,s⟩
 have hg:(Z9 ⟨d,u,s⟩).gone=[]:=rfl
 have hb:(Z9 ⟨d,u,s⟩).brought=[]:=rfl
 have hk:=Z98 (Z9 ⟨d,u,s⟩).out n
 have ai:ZU ⟨d,u,s⟩ n=⟨YD (Z9 ⟨d,u,s⟩).out n,[],[]⟩:=rfl
 refine ZFk d u s n _ ?_
 simp only [hg,hb,Zld,ZgZ,Zh0,ai]
 generalize (Z9 ⟨d,u,s⟩).out=F at*
 simp only at aj aa
 rintro y1 ah y2 aw y3 ae y4 ak
 have hy:y1=Edit.nil:=ah
 subst hy
 have e2:y2=F.length - 1:=V0
 subst e2
 rw [<-ae,<-ak] at hk
 simp only [iB,vcT,vcS,aiT,true_and]
 refine ⟨by simp only [Z53];exact ⟨p1,p2,p3⟩,V2,fun h=> ⟨h,V0⟩,fun h=> ?_,fun h=> ?_⟩
 .have am:0<=y3.n/\y3.n<=100000000000000000:=by
   have hm:y3∈F:=by rw [ae];exact Zo V0 _
   rcases aa y3 hm with h1 | h1
   .exact p4 y3 h1
   .omega
  rw [if_pos ⟨V0,h.2⟩] at hk
  rw [hk]
  refine ⟨V0,V2,V0,V0,?_⟩
  exact V1
 .rw [Jk] at hk
  rw [hk,Z1h]
  refine ⟨by simp;omega,by simp;omega,V0,?_⟩
  exact V1
theorem ZHC:Contract Tryz.prog cfg 148 ZgL:=by
 refine ZxU c75 ?_
 intro wo h wb l _ hp
 simp only [ZdT] at hp
 obtain ⟨p1,p2,p3,p4⟩:=hp
 have hl:=Zs l
 refine ZFj _ _ _ _ _ ?_
 refine Ze (ι:=Int × List Tree) (fun s=> Z6m wo h wb l s.1 s.2) (fun s=> 0<=s.1/\s.1<=l.length/\s.2.length=h.length+s.1/\s.2++Z8 (l.drop s.1.toNat)=h++Z8 l) (fun s=> ((l.length:Int) - s.1).toNat) (0,h) rfl ⟨by simp,by simp,by simp,by simp⟩ ?_
 rintro ⟨i,out⟩ ⟨u,h2,h3,d⟩
 dsimp only at u h2 h3 d
 refine ZrE _ _ _ _ _ _ _ _ ?_
 (simp only [iB,vcS])
 (simp only [vE])
 refine ⟨fun hi=> ?_,fun hi=> ?_⟩
 .have hm:=Jr (Zo (l:=l) (i:=i.toNat) V0 Tree.nil)
  rw [YJ u hi Tree.nil] at d
  simp only [Z8,Xk] at d
  rw [Z1h]
  refine ⟨⟨u,hi⟩,by simp only [Z1m];omega,by simp;omega,by simp;omega,V0,V2,(i+1,out++[Z3 (l.getD i.toNat Tree.nil)]),rfl,⟨V5,V5,by simp;omega,?_⟩,V5⟩
  simp only [Qi,Qw,QV]
  exact d
 .rw [Qd V0] at d
  simp only [Z8,Ke,Qn] at d
  rw [d]
  exact V1
theorem ZGx:Contract Tryz.prog cfg 148 Zde:=by
 refine ZtO c75 ?_
 intro wo wg h l _ hp
 simp only [ZdT] at hp
 obtain ⟨p1,p2,p3,p4⟩:=hp
 have hl:=Zs l
 refine ZB9 _ _ _ _ _ ?_
 refine Ze (ι:=Int × List Tree) (fun s=> Z4e wo wg h l s.1 s.2) (fun s=> 0<=s.1/\s.1<=l.length/\s.2.length=h.length+s.1/\s.2++Z8 (l.drop s.1.toNat)=h++Z8 l) (fun s=> ((l.length:Int) - s.1).toNat) (0,h) rfl ⟨by simp,by simp,by simp,by simp⟩ ?_
 rintro ⟨i,out⟩ ⟨u,h2,h3,d⟩
 dsimp only at u h2 h3 d
 refine ZpO _ _ _ _ _ _ _ _ ?_
 (simp only [iB,vcS])
 (simp only [vE])
 refine ⟨fun hi=> ?_,fun hi=> ?_⟩
 .have hm:=Jr (Zo (l:=l) (i:=i.toNat) V0 Tree.nil)
  rw [YJ u hi Tree.nil] at d
  simp only [Z8,Xk] at d
  rw [Z1h]
  refine ⟨⟨u,hi⟩,by simp only [Z1m];omega,by simp;omega,by simp;omega,V0,V2,(i+1,out++[Z3 (l.getD i.toNat Tree.nil)]),rfl,⟨V5,V5,by simp;omega,?_⟩,V5⟩
  simp only [Qi,Qw,QV]
  exact d
 .rw [Qd V0] at d
  simp only [Z8,Ke,Qn] at d
  rw [d]
  exact V1
theorem ZvE:Contract Tryz.prog cfg 149 Z39:=by
 refine ZtN ?_
 intro list e _ d
 simp only [Z8J] at d
 refine ZB8 _ _ _ ?_
 simp only [iB,vcT,vcS,aiT,true_and]
 refine ⟨fun _=> by unfold InR;grind,Z4 rfl ?_⟩
 rw [Qo]
 simp only [Zbs]
 grind
noncomputable def Z4N:Fs U:=ZCF ZgL Zde
theorem Zvz:Contract Tryz.prog cfg 148 Z4N:=Zkx ZHC ZGx
noncomputable section
def Z1C(a:Edit × Unit):Prop:=Za a.1<=20000000000/\∃ d,Z5 a.1 d=true
def ZhO(a:Edit × Unit):Nat:=2*Za a.1
def ZaY(a:Edit × Unit):V U:= .agg (enc .edit (Zi a.1))
def Z2e:Fs U:=fs Zps (fun a=> [Z1C a]) ZaY
def Zcy:ArgL (Int × List Op × Unit):=(.cons (Yr .i64) (.cons (aSl .op) .nil))
def Z7z(a:Int × List Op × Unit):Prop:=Zl a.2.1<=20000000000/\∀ o∈a.2.1,∃ d,Zg a.1 o d=true
def Zem(a:Int × List Op × Unit):Nat:=2*Zl a.2.1+1
def ZdA(a:Int × List Op × Unit):V U:= .c (sU .op ((Z9 (ZA a.1 a.2.1 (Wst.mk [] [] []))).out) .unk)
def ZmP:Fs U:=fs Zcy (fun a=> [Z7z a]) ZdA
def Zao(N:Nat):List (FuncId × Fs U):=(67,fs Zps (fun a=> [Z1C a,ZhO a < N]) ZaY) ::(107,fs Zcy (fun a=> [Z7z a,Zem a < N]) ZdA) ::[(75,Js),(149,Z39),(147,Z5J),(150,Z1M),(148,Z4N)]
def ZlF:Zc U:=lvk [([1,2],[1,2]),([1,2,3],[1,2,3]),([1,2,3,12],[1,2,3]),([1,2,3,12,13],[1,2,3]),([2,3],[2,3]),([1,2,3,12,23],[1,2,3]),([1,2,3],[1,2,3]),([2,3,32,33,34],[2,((.loc 3),(an 8 [.own .kid]))]),([2,3,32,33,34,35],[2,3]),([2,3,5,32,33,34],[2,3,5]),([2,3,32,33,34],[2,3]),([2,3,32,33,34],[2,((.loc 3),(an 8 [.own .kid]))]),([1,2,3,50],[1,2,3]),([2,3],[2,3]),([2],[2])]
def Z9k(e:Edit)(h:Int)(d:List Kid):LSt U:=(L2 [pL 2,pL 3,(32,.c (sU .kid e.kids .unk)),pI 33 (e.kids.length:Int),pI 34 h] [(.loc 2,zc1),(.loc 3,[ci e.kind,ci 0,.nils,.nils,ci 0,.nils,.nils,sU .wedit (([]:List WEdit)++e.words) (.own (.l 3 7)),sU .kid d (.own (.l 3 8)),ci e.list,.nils])])
abbrev W67(N:Nat)(e:Edit)(Q:QT):=AW (Z1 (Zao N)) Tryz.f67 ZlF [] (L2 [(0,.agg (enc .edit e))] []) Q
theorem ZHa(N:Nat)(e:Edit)(Q:QT)(h:let z1:=Tree.mk e.new.kind e.new.words e.new.kids;let z0:=Tree.mk e.old.kind e.old.words e.old.kids;iB (e.kind==1) ((Z1m (z0,()))/\(Z1m (z1,()))/\(Q .ret (L2 [pL 2] [(.loc 2,([ci e.kind]++enc .tree (Z3 z0)++enc .tree (Z3 z1)++[.nils,.nils,ci e.list,.nils]))]))) (iB (e.kind==2) (((([]:List WEdit).length+e.words.length)*32<=140737488355328)/\(Zp (AW (Z1 (Zao N)) Tryz.f67 ZlF [1,1,0,1,0,1,1,1,0,1,1,0,0]) (Z9k e 0 []) (xB 1 (xB 0 (SW (Z1 (Zao N)) Tryz.f67 ZlF [1,1,1] Q))))) (iB (e.kind==3) ((Z7z (e.list,e.ops,()))/\(Zem (e.list,e.ops,()) < N)/\(Q .ret (L2 [pL 2] [(.loc 2,[ci e.kind,ci 0,.nils,.nils,ci 0,.nils,.nils,.nils,.nils,ci e.list,sU .op ((Z9 (ZA e.list e.ops (Wst.mk [] [] []))).out) .unk])]))) (Q .ret (L2 [pL 2] [(.loc 2,[ci e.kind,ci 0,.nils,.nils,ci 0,.nils,.nils,.nils,.nils,ci e.list,.nils])]))))):
  W67 N e Q:=
 Eq.mpr V4 h
abbrev ZDM(N:Nat)(e:Edit)(h:Int)(d:List Kid)(N0:NT)(Q:QT):=AW (Z1 (Zao N)) Tryz.f67 ZlF [1,1,0,1,0,1,1,1,0,1,1,0,0] (Z9k e h d) (xT N0 (xB 1 (xB 0 (SW (Z1 (Zao N)) Tryz.f67 ZlF [1,1,1] Q))))
theorem Zwz(N:Nat)(e:Edit)(s:Int)(d:List Kid)(N0:NT)(Q:QT)(h:∀ aa,aa=(e.kids.getD s.toNat (KidOf.mk 0 Edit.nil))->∀ u,u=(aa.e)->∀ ab,ab=(Zi u)->iB (decide (s < (e.kids.length:Int))) (((0:Int)<=s/\s < (e.kids.length:Int))/\((Z1C (u,()))/\(ZhO (u,()) < N)/\((d.length+([(KidOf.mk aa.at_ ab:Kid)]).length)*208<=140737488355328)/\((InR (s+1))/\(N0 (Z9k e (s+1) (d++([(KidOf.mk aa.at_ ab:Kid)]))))))) (Q .ret (L2 [pL 2] [(.loc 2,[ci e.kind,ci 0,.nils,.nils,ci 0,.nils,.nils,sU .wedit (([]:List WEdit)++e.words) (.own (.l 2 7)),sU .kid d (.own (.l 2 8)),ci e.list,.nils])]))):
  ZDM N e s d N0 Q:=
 Eq.mpr V4 (h _ rfl _ (Z6 _) _ (Z6 _))
def ZE3(N:Nat)(e:Edit):Prop:=AW (Z1 (Zao N)) Tryz.f67 ZlF [] (Zf (Zps.can (e,())) []) (EQ Tryz.f67 (ZaY (e,())) [])
abbrev ZGQ:Prop:=∀ (N:Nat) (e:Edit) (_:Unit),Z1C (e,())->ZhO (e,()) < N+1->ZE3 N e
def ZeB:Zc U:=lvk [([0,1],[]),([0,1,5],[((.loc 10),[.wr .op])]),([0,5,11,12,13],[((.loc 10),[.wr .op,.own .tree,.own .tree])]),([0,5,11,12,13,14],[((.loc 10),[.wr .op])]),([0,5,7,11,12,13],[7,((.loc 10),[.wr .op])]),([0,5,7,11,12,13,18],[7,((.loc 10),[.wr .op])]),([0,5,7,11,12,13,18,19],[7,((.loc 10),[.wr .op])]),([0,5,11,12,13],[((.loc 10),[.wr .op])]),([0,5,7,11,12,13,18,25],[7,((.loc 10),[.wr .op])]),([0,5,11,12,13],[((.loc 10),[.wr .op])]),([0,5,7,11,12,13,18,33],[7,((.loc 10),[.wr .op])]),([0,5,11,12,13],[((.loc 10),[.wr .op])]),([0,5,7,11,12,13,41],[7,((.loc 10),[.wr .op])]),([0,5,8,11,12,13],[8,((.loc 10),[.wr .op])]),([0,5,8,11,12,13,48],[8,((.loc 10),[.wr .op])]),([0,5,11,12,13],[((.loc 10),[.wr .op])]),([0,5,8,11,12,13],[8,((.loc 10),[.wr .op])]),([0,5,11,12,13],[((.loc 10),[.wr .op])]),([0,5,11,12,13],[((.loc 10),[.wr .op,.own .tree,.own .tree])]),([5],[((.loc 10),[.wr .op])]),([4],[])]
def Je(list:Int)(l:List Op)(u:Int)(d:List Op)(s h:List Tree):LSt U:=(⟨[pI 0 list,(5,.ptr (.loc 10) 0),(11,.c (sU .op l .unk)),pI 12 (l.length:Int),pI 13 u],[(.loc 10,[.mref (.l 10 0),sU .tree s (.own (.l 10 1)),sU .tree h (.own (.l 10 2))])],[(.l 10 0,LC.mk (U:=U) .op d 0)]⟩:LSt U)
abbrev ZHY(N:Nat)(list:Int)(l:List Op)(Q:QT):=AW (Z1 (Zao N)) Tryz.f107 ZeB [] (L2 [pI 0 list,(1,.c (sU .op l .unk))] []) Q
theorem ZFI(N:Nat)(list:Int)(l:List Op)(Q:QT)(h:Zp (AW (Z1 (Zao N)) Tryz.f107 ZeB [1,1,0,1,0,0]) (Je list l 0 [] [] []) (xB 0 (SW (Z1 (Zao N)) Tryz.f107 ZeB [1,1,1] Q))):
  ZHY N list l Q:=
 Eq.mpr V4 h
abbrev ZyV(N:Nat)(list:Int)(l:List Op)(u:Int)(d:List Op)(s h:List Tree)(N0:NT)(Q:QT):=AW (Z1 (Zao N)) Tryz.f107 ZeB [1,1,0,1,0,0] (Je list l u d s h) (xT N0 (xB 0 (SW (Z1 (Zao N)) Tryz.f107 ZeB [1,1,1] Q)))
theorem ZrS(N:Nat)(list:Int)(l:List Op)(aa:Int)(d:List Op)(s u:List Tree)(N0:NT)(Q:QT)(h:∀ ab,ab=(l.getD aa.toNat Op.nil)->∀ ae,ae=(Edit.mk 0 (Tree.mk 0 [] []) (Tree.mk 0 [] []) [] [] 0 [])->∀ ai,ai=(Int.toNat (((Z9 (Wst.mk d s u)).out).length:Int))->∀ ah,ah=(ab.e)->∀ af,af=(Zi ah)->let z3:=Z53 ((d,s,u,()),());let z2:=Wst.mk d s (u++Z8 ab.l);let z1:=Wst.mk d (s++Z8 ab.l) u;let z0:=Wst.mk d s u;iB (decide (aa < (l.length:Int))) (((0:Int)<=aa/\aa < (l.length:Int))/\(iB (ab.kind==0) ((Z7x ((d,s,u,()),ab.n,()))/\((InR (aa+1))/\(N0 (Je list l (aa+1) ((ZU z0 ab.n).out) ((ZU z0 ab.n).gone) ((ZU z0 ab.n).brought))))) (iB (ab.kind==1) ((ZdT ((d,s,u,()),ab.l,()))/\((InR (aa+1))/\(N0 (Je list l (aa+1) (z1.out) (z1.gone) (z1.brought))))) (iB (ab.kind==2) ((ZdT ((d,s,u,()),ab.l,()))/\((InR (aa+1))/\(N0 (Je list l (aa+1) (z2.out) (z2.gone) (z2.brought))))) (iB (ab.kind==3) ((Z1C (ah,()))/\(ZhO (ah,()) < N)/\((Z8J (list,af,()))/\(iB (Zbs list af) ((Z7x ((d,s,u,()),1,()))/\((InR (aa+1))/\(N0 (Je list l (aa+1) ((ZU z0 1).out) ((ZU z0 1).gone) ((ZU z0 1).brought))))) (z3/\(((((Z9 z0).out).length+([(OpOf.mk 0 0 [] ae:Op)]).length)*240<=140737488355328)/\((0:Int)<=(((Z9 z0).out).length:Int)/\(((Z9 z0).out).length:Int) < ((((Z9 z0).out)++([(OpOf.mk 0 0 [] ae:Op)])).length:Int))/\((0:Nat)<=ai)/\((InR (aa+1))/\(N0 (Je list l (aa+1) (List.set (((Z9 z0).out)++([(OpOf.mk 0 0 [] ae:Op)])) ai (OpOf.mk 3 0 [] af:Op)) ((Z9 z0).gone) ((Z9 z0).brought))))))))) ((InR (aa+1))/\(N0 (Je list l (aa+1) d s u)))))))) (z3/\(Q .ret (L2 [(4,.c (sU .op ((Z9 z0).out) (.own (.e 4 0))))] [])))):
  ZyV N list l aa d s u N0 Q:=
 Eq.mpr V4 (h _ rfl _ rfl _ rfl _ (Z6 _) _ (Z6 _))
def ZA7(N:Nat)(list:Int)(l:List Op):Prop:=AW (Z1 (Zao N)) Tryz.f107 ZeB [] (Zf (Zcy.can (list,l,())) []) (EQ Tryz.f107 (ZdA (list,l,())) [])
abbrev ZB0:Prop:=∀ (N:Nat) (list:Int) (l:List Op) (_:Unit),Z7z (list,l,())->Zem (list,l,()) < N+1->ZA7 N list l
theorem Zqw(c75:CT 75 Js)(ZvE:CT 149 Z39)(ZDf:CT 147 Z5J)(Zr2:CT 150 Z1M)(Zvz:CT 148 Z4N)(ha:ZGQ)(hb:ZB0):CT 67 Z2e/\CT 107 ZmP:=
 Z78 (μA:=ZhO) (μB:=Zem) (l:=[(75,Js),(149,Z39),(147,Z5J),(150,Z1M),(148,Z4N)]) Zh rfl (⟨c75,ZvE,ZDf,Zr2,Zvz,trivial⟩) ZlF ZeB Tryz.func67 Tryz.func107 rfl rfl rfl rfl 1 2 (fun _=> rfl) (fun _=> rfl) V3 V3 (fun N ⟨e,_⟩=> ha N e ()) (fun N ⟨list,l,_⟩=> hb N list l ())
end
theorem ZqF(s:Wst)(n:Int):(ZU s n).out.length<=s.out.length+3:=by
 have h:=Zax s
 simp only [ZU]
 rw [Z98]
 grind
theorem Zyx{s:Wst}{n B K:Int}(hB:0<=B)(hn:0<=n/\n<=K)(h:∀ o∈s.out,0<=o.n/\o.n<=B):∀ o∈(ZU s n).out,0<=o.n/\o.n<=B+K:=by
 have u:∀ o∈(Z9 s).out,0<=o.n/\o.n<=B:=by
  intro o d
  rcases Zaw s o d with h1 | h1
  .exact h o h1
  .omega
 intro o d
 simp only [ZU] at d
 rw [Z98] at d
 grind
theorem Zed:∀ (l:List Kid),(Jc l).length=l.length
 | []=> rfl
 | k ::r=> by simp [Jc,Zed r]
theorem Zlx(e:Edit):(Zi e).words.length<=e.words.length/\(Zi e).kids.length<=e.kids.length:=by
 rw [Z46]
 split
 .simp
 .split
  .simp [Zed]
  .split <;> simp
theorem ZgT{list:Int}{o:Op}{d:Int}(h:Zg list o d=true)(hk:o.kind=0):1<=o.n/\o.n<=1048576:=by
 obtain ⟨k,n,l,e⟩:=o
 simp only at hk
 subst hk
 simp [Zg] at h
 grind
theorem ZgU{list:Int}{o:Op}{d:Int}(h:Zg list o d=true)(hk:o.kind=3):Z5 o.e d=true:=by
 obtain ⟨k,n,l,e⟩:=o
 simp only at hk
 subst hk
 simp [Zg] at h
 exact h.2.1.2
theorem ZqC{e:Edit}{d:Int}(h:Z5 e d=true)(hk:e.kind=2):∀ k∈e.kids,∃ d,Z5 k.e d=true:=by
 obtain ⟨k,o,n,w,ks,l,os⟩:=e
 change k=2 at hk
 subst hk
 have u:∃ d s,Zw s ks d=true:=by
  unfold Z5 at h
  split at h
  .cases h
  .grind
 obtain ⟨d',s,u⟩:=u
 change ∀ k∈ks,_
 clear h
 induction ks generalizing s with
 | nil=> grind
 | cons a r ih=>
  simp only [Zw,Q4] at u
  intro k hk
  rcases Q9.1 hk with rfl | hk
  .obtain ⟨a,e⟩:=k
   simp only [JD,Q4] at u
   grind
  grind
theorem Ztr{e:Edit}{d:Int}(h:Z5 e d=true)(hk:e.kind=3):∀ o∈e.ops,∃ d,Zg e.list o d=true:=by
 obtain ⟨k,o,n,w,ks,l,os⟩:=e
 change k=3 at hk
 subst hk
 have s:∃ d,Zz l os d=true:=by
  unfold Z5 at h
  split at h
  .cases h
  .grind
 obtain ⟨u,s⟩:=s
 change ∀ o∈os,∃ d,Zg l o d=true
 clear h
 induction os with
 | nil=> grind
 | cons a r ih=>
  simp only [Zz,Q4] at s
  grind
theorem ZHD:ZB0:=by
 intro N list l _ hp hN
 simp only [Z7z,Zem] at hp hN
 obtain ⟨p1,p3⟩:=hp
 have hl:=Y5 l
 refine ZFI _ _ _ _ ?_
 refine Ze (ι:=Int × Wst) (fun s=> Je list l s.1 s.2.out s.2.gone s.2.brought)
  (fun s=> 0<=s.1/\s.1<=l.length/\ZA list (l.drop s.1.toNat) s.2=ZA list l ⟨[],[],[]⟩/\s.2.out.length<=3*s.1/\s.2.gone.length+s.2.brought.length+Zl (l.drop s.1.toNat)<=Zl l/\∀ o∈s.2.out,0<=o.n/\o.n<=s.1*1048576)
  (fun s=> ((l.length:Int) - s.1).toNat) (0,⟨[],[],[]⟩) rfl ⟨by simp,by simp,by simp,by simp,by simp,by simp⟩ ?_
 rintro ⟨i,s⟩ ⟨g1,g2,h,g4,g5,g6⟩
 dsimp only at g1 g2 h g4 g5 g6
 refine ZrS _ _ _ _ _ _ _ _ _ ?_
 rintro y1 av y2 aw y3 ak y4 ai y5 al
 have hy:y2=Edit.nil:=aw
 subst hy
 have es:Wst.mk s.out s.gone s.brought=s:=rfl
 simp only [es] at ak ⊢
 (simp only [iB,vcS])
 refine ⟨fun hi=> ?_,fun hi=> ?_⟩
 .have af:=Zo (l:=l) (i:=i.toNat) V0 Op.nil
  have hm:=Yy af
  have hr:=p3 _ af
  rw [YJ g1 hi Op.nil] at h g5
  rw [<-av] at h g5 hm hr
  have au:=ZV y1
  simp only [ZA,YW,Zl] at h g5
  rw [<-ai,<-al] at h
  obtain ⟨d,aj⟩:=hr
  have bd:=Zax s
  have hP:∀ n:Int,0<=n/\n<=1048576->Z7x ((s.out,s.gone,s.brought,()),n,()):=by
   intro n hn
   simp only [Z7x]
   refine ⟨V0,V0,V0,fun o u=> ?_,V0,V0⟩
   have:=g6 o u
   constructor
   .omega
   .have:i*1048576<=20000000000*1048576:=V0
    omega
  have hK:∀ n:Int,0<=n/\n<=1048576->ZA list (l.drop (i+1).toNat) (ZU s n)=ZA list l ⟨[],[],[]⟩->
    (∃ j:Int × Wst,Je list l (i+1) (ZU s n).out (ZU s n).gone (ZU s n).brought=Je list l j.1 j.2.out j.2.gone j.2.brought/\(0<=j.1/\j.1<=l.length/\ZA list (l.drop j.1.toNat) j.2=ZA list l ⟨[],[],[]⟩/\j.2.out.length<=3*j.1/\j.2.gone.length+j.2.brought.length+Zl (l.drop j.1.toNat)<=Zl l/\∀ o∈j.2.out,0<=o.n/\o.n<=j.1*1048576)/\((l.length:Int) - j.1).toNat < ((l.length:Int) - i).toNat):=by
   intro n hn he
   have h1:=ZqF s n
   have h2:=Zyx (s:=s) (n:=n) (B:=i*1048576) (K:=1048576) V0 hn g6
   refine ⟨(i+1,ZU s n),rfl,⟨V0,V0,he,by grind,by simp only [ZU,Qh];omega,fun o u=> ?_⟩,V0⟩
   have:=h2 o u
   dsimp only
   omega
  refine ⟨⟨g1,hi⟩,fun hk=> ?_,fun hk=> ⟨fun aa=> ?_,fun aa=> ⟨fun ae=> ?_,fun ae=> ⟨fun ab=> ?_,fun ab=> ?_⟩⟩⟩⟩
  .rw [if_pos hk] at h
   have h1:=ZgT aj hk
   exact ⟨hP _ V0,V2,hK _ V0 h⟩
  .rw [if_neg hk,if_pos aa] at h
   refine ⟨by simp only [ZdT];omega,V2,(i+1,⟨s.out,s.gone++Z8 y1.l,s.brought⟩),rfl,⟨V0,V0,h,by grind,?_,fun o u=> ?_⟩,V0⟩
   .have:=Zs y1.l
    simp only [Qb,Z8,Xj];omega
   grind
  .rw [if_neg hk,if_neg aa,if_pos ae] at h
   refine ⟨by simp only [ZdT];omega,V2,(i+1,⟨s.out,s.gone,s.brought++Z8 y1.l⟩),rfl,⟨V0,V0,h,by grind,?_,fun o u=> ?_⟩,V0⟩
   .have:=Zs y1.l
    simp only [Qb,Z8,Xj];omega
   .have:=g6 o u
    dsimp only;omega
  .rw [if_neg hk,if_neg aa,if_neg ae,if_pos ab] at h
   have az:=ZgU aj ab
   rw [<-ai] at az
   have hw:=Zlx y4
   rw [<-al] at hw
   have h1:=Yt y4
   have h2:=Yz y4.kids
   have bf:Za y4<=Zy y1:=by rw [au,ai];omega
   refine ⟨by simp only [Z1C];grind,by simp only [ZhO];omega,by simp only [Z8J];omega,fun hq=> ?_,fun hq=> ?_⟩
   .rw [if_pos hq] at h
    exact ⟨hP 1 V0,V2,hK 1 V0 h⟩
   .rw [if_neg (by rw [hq];simp)] at h
    rw [ak,Z1h]
    refine ⟨by simp only [Z53];omega,by grind,by grind,V0,V2,(i+1,⟨(Z9 s).out++[⟨3,0,[],y5⟩],[],[]⟩),rfl,⟨V0,V0,h,by simp;omega,by simp;omega,fun o u=> ?_⟩,V0⟩
    dsimp only at u ⊢
    rcases Qg.1 u with u | u
    .rcases Zaw s o u with h5 | h5
     .grind
     .omega
    grind
  .rw [if_neg hk,if_neg aa,if_neg ae,if_neg ab] at h
   refine ⟨V2,(i+1,s),rfl,⟨V0,V0,h,by grind,by grind,fun o u=> ?_⟩,V0⟩
   grind
 .rw [Qd V0] at h
  simp only [ZA] at h
  refine ⟨by simp only [Z53];omega,?_⟩
  simp only [ZdA]
  rw [<-h]
  exact V1
theorem b67:ZGQ:=by
 intro N e _ hp hN
 simp only [Z1C,ZhO] at hp hN
 obtain ⟨p1,d,p3⟩:=hp
 have h1:=Yt e
 have h2:=Yz e.kids
 have h3:=Y5 e.ops
 have ha:=Z46 e
 refine ZHa _ _ _ ?_
 (simp only [iB,vcS])
 (simp only [vE])
 refine ⟨fun hk=> ⟨by simp only [Z1m];omega,by simp only [Z1m];omega,?_⟩,fun hk=> ⟨fun h=> ⟨by simp;omega,?_⟩,fun h=> ⟨fun u=> ⟨?_,by simp only [Zem];omega,?_⟩,fun u=> ?_⟩⟩⟩
 .rw [if_pos hk] at ha
  simp only [ZaY,ha]
  exact V1
 .rw [if_neg hk,if_pos h] at ha
  refine Ze (ι:=Int × List Kid) (fun s=> Z9k e s.1 s.2) (fun s=> 0<=s.1/\s.1<=e.kids.length/\s.2.length=s.1/\s.2++Jc (e.kids.drop s.1.toNat)=Jc e.kids) (fun s=> ((e.kids.length:Int) - s.1).toNat) (0,[]) rfl ⟨by simp,by simp,by simp,by simp⟩ ?_
  rintro ⟨j,ks⟩ ⟨f1,f2,f3,f4⟩
  dsimp only at f1 f2 f3 f4
  refine Zwz _ _ _ _ _ _ ?_
  rintro y1 ah y2 aj y3 ai
  (simp only [iB,vcS])
  refine ⟨fun hj=> ?_,fun hj=> ?_⟩
  .have ae:=Zo (l:=e.kids) (i:=j.toNat) V0 (KidOf.mk 0 Edit.nil)
   have hm:=Z0f ae
   have hr:=ZqC p3 h _ ae
   rw [YJ f1 hj (KidOf.mk 0 Edit.nil)] at f4
   rw [<-ah] at f4 hm hr
   simp only [Jc,ZfX] at f4
   rw [<-aj] at f4 hm hr
   rw [<-ai] at f4
   refine ⟨⟨f1,hj⟩,by simp only [Z1C];grind,by simp only [ZhO];omega,by simp;omega,V2,(j+1,ks++[⟨y1.at_,y3⟩]),rfl,⟨V0,V0,by simp;omega,?_⟩,V0⟩
   grind
  .rw [Qd V0] at f4
   simp only [Jc,Qn] at f4
   rw [f4]
   simp only [ZaY,ha]
   exact V1
 .simp only [Z7z]
  exact ⟨V0,fun o ho=> Ztr p3 u o ho⟩
 .rw [if_neg hk,if_neg h,if_pos u] at ha
  simp only [ZaY,ha]
  exact V1
 .rw [if_neg hk,if_neg h,if_neg u] at ha
  simp only [ZaY,ha]
  exact V1
theorem Zmc:Contract Tryz.prog cfg 67 Z2e/\Contract Tryz.prog cfg 107 ZmP:=Zqw c75 ZvE ZDf Zr2 Zvz b67 ZHD
theorem ZyC{n:Nat}{rs:List ResultVar}{r r':V U}{X:List (List (C U))}{e:AExit}{s:LSt U}(hr:r=r')(h:ZX cfg n rs r' X e s):ZX cfg n rs r X e s:=by grind
theorem Zgc(e:Edit):e.words.length+e.ops.length+ZR e.kids+Zl e.ops+Zj e.old+Zj e.new+1=Za e:=by obtain ⟨k,o,n,w,ks,l,os⟩:=e;simp only [Za,Edit.words_mk,Edit.ops_mk,Edit.kids_mk,Edit.old_mk,Edit.new_mk];omega
theorem Zg8(t:Tree):1<=Zj t:=by obtain ⟨k,w,ks⟩:=t;simp only [Zj];omega
theorem Z10{e:Edit}(h:Jx e):Za e<=9000000000:=X5 (ZhQ e) h.1
theorem Zng{e:Edit}(h:Jx e):ZwQ e.ops:=by
 obtain ⟨m,r,d,s⟩:=h
 have:=Z5x e
 exact ⟨V0,(Y0 r).2.2.2.2,fun o u=> ⟨_,_,rightOs_mem (Zn s).ops u⟩⟩
theorem Zjw{l:List Op}{o:Op}(h:Part l o)(ho:ZP o)(hl:Z1A l):Z1j o:=by
 obtain ⟨d,m,k,e1,_,lt⟩:=h
 have G:=Z1d (Z0Z hl m)
 obtain ⟨kk,u,ll,ee⟩:=o
 have k:kk=d.kind:=k
 have e1:ee=d.e:=e1
 have lt:∀ t∈ll,t∈d.l:=lt
 refine ⟨by grind,?_,Z5Q fun t ht=> YV G.2.2.1 (lt t ht),by grind⟩
 rcases ho with h | h | h
 .have:=h.2.2.1
  unfold InR
  grind
 .have s:u=0:=h.2.1
  rw [s];trivial
 .have s:u=0:=h.2.1
  rw [s];trivial
theorem Zci{l:List Op}{o:Op}(h:Part l o):Z4j o<=Jh l/\Zy o<=Zl l:=by
 obtain ⟨o',m,k,e1,d,_⟩:=h
 have u:=ZeV m
 have s:=Yy m
 have a:=Z2V o
 rw [ZV,ZV,e1] at d
 rw [e1] at a
 rw [ZV] at s
 rw [ZV,e1]
 omega
theorem Ze7{l:List Op}{o:Op}(h:Part l o)(hl:∀ o∈l,∃ list d,Zg list o d=true)(k3:o.kind=3):∃ d,Z5 o.e d=true:=by
 obtain ⟨u,m,k,e1,hm,_⟩:=h
 obtain ⟨list,d,s⟩:=hl u m
 exact ⟨d,by rw [e1];exact J4 s V0⟩
theorem ZAk{p:List Op}(hp:ZwQ p):Zab p:=by
 refine ⟨fun o d=> ?_,?_⟩
 .obtain ⟨_,_,h⟩:=hp.2.2 o d
  exact Zdr h
 .have:=Zah p
  have:=hp.1
  omega
theorem Z9N{α:Type}{l:List α}{i:Nat}(h:i < l.length)(d:α):l.take (i+1)=l.take i++[l.getD i d]:=by
 simp_all
theorem Z3m(o:Op):Zd o.l<=Z4j o:=by rw [Z2V];omega
end Go.AM.YtpjenobkibfpcaaGreat
namespace Go.AM
def Z4u(list:Int):List Tree->Int->Int
 | [],_=> -1
 | t ::r,i=> if Zb (Tree.mk list [] [t]) 64=true then Z4u list r (i+1) else i
theorem Zgq(list:Int):∀ (l:List Tree) (i:Int),0<=i->(0<=Z4u list l i↔Jt list l=false)
 | [],i,_=> by simp [Z4u,Jt]
 | t ::r,i,hi=> by
  have d:=Zgq list r (i+1) V0
  rw [Z4u,Jt]
  grind
end Go.AM
namespace Go.AM.YtpjenobkibfpcaaGreat
open Go.AM Go.Proofs
noncomputable section
def Zir:ArgM (Tree × (Int × Unit) × Unit):=(.cons (aEl .tree) (.obj 0 (.cons (JN .i64) .nil) .nil))
def ZdM(a:Tree × (Int × Unit) × Unit):Prop:=Zj a.1<=18000000000/\rng a.1/\InR a.2.1.1
def Zl6(a:Tree × (Int × Unit) × Unit):V U:= .c (.bool (!(Zb (Tree.mk a.2.1.1 [] [a.1]) 64)))
def ZgX(a:Tree × (Int × Unit) × Unit):List (List (C U)):=[[ci a.2.1.1]]
def Z8a:Fs U:=fsX Zir (fun a=> [ZdM a]) Zl6 ZgX
def Zin:ArgM (List Tree × (Int × Unit) × Unit):=(.cons (aSl .tree) (.clo 217 0 (.cons (JN .i64) .nil) .nil))
def ZdK(a:List Tree × (Int × Unit) × Unit):Prop:=Zd a.1<=18000000000/\Y6 a.1/\InR a.2.1.1
def Zh1(a:List Tree × (Int × Unit) × Unit):V U:= .c (ci (Z4u a.2.1.1 a.1 0))
def Zc1(a:List Tree × (Int × Unit) × Unit):List (List (C U)):=[[ci a.2.1.1]]
def Z83:Fs U:=fsX Zin (fun a=> [ZdK a]) Zh1 Zc1
def Zl7(a:List Tree × (Int × Unit) × Unit):V U:= .c (.bool (!(Jt a.2.1.1 a.1)))
def Z3S:Fs U:=fsX Zin (fun a=> [ZdK a]) Zl7 Zc1
def Zo9:List (FuncId × Fs U):=[(218,Z89)]
def ZtZ:Zc U:=lvk [([1,2],[2,((.x 0),[])]),([3],[((.x 0),[])])]
abbrev ZHI(t:Tree)(list:Int)(Q:QT):=AW (Z1 Zo9) Tryz.f217 ZtZ [] (L2 [(0,.agg (enc .tree t)),(1,.ptr (.x 0) 0)] [(.x 0,[ci list])]) Q
theorem ZER(t:Tree)(list:Int)(Q:QT)(h:let z0:=Tree.mk t.kind t.words t.kids;(ZdL (list,z0,()))/\(Q .ret (L2 [(3,.c (.bool (!(Zb (Tree.mk list [] [z0]) 64))))] [(.x 0,[ci list])]))):
  ZHI t list Q:=
 Eq.mpr V4 h
def Zzg(t:Tree)(list:Int):Prop:=AW (Z1 Zo9) Tryz.f217 ZtZ [] (Zf (Zir.can (t,(list,()),())) (Zir.canX (t,(list,()),()))) (EQ Tryz.f217 (Zl6 (t,(list,()),())) (ZgX (t,(list,()),())))
theorem Zxt(ZCV:CT 218 Z89)(hb:∀ (t:Tree) (list:Int) (_:Unit),ZdM (t,(list,()),())->Zzg t list):CT 217 Z8a:=
 Zq (l:=[(218,Z89)]) Zh rfl (⟨ZCV,trivial⟩) ZtZ Tryz.func217 rfl rfl 2 (fun _=> rfl) V3 (fun ⟨t,⟨list,_⟩,_⟩=> hb t list ())
def Z67:List (FuncId × Fs U):=[(217,Z8a)]
def Zeu:Zc U:=lvk [([0,1],[((.x 0),[])]),([0,1,7,8],[((.x 0),[])]),([0,1,7,8,9],[((.x 0),[])]),([0,1,5,7,8],[((.x 0),[])]),([0,1,5,7,8,16],[((.x 0),[])]),([4],[((.x 0),[])]),([0,1,7,8],[((.x 0),[])]),([4],[((.x 0),[])])]
def Z6f(l:List Tree)(list d:Int):LSt U:=(L2 [(0,.c (sU .tree l .unk)),(1,.clo 217 [(.x 0)]),pI 7 (l.length:Int),pI 8 d] [(.x 0,[ci list])])
abbrev ZHF(l:List Tree)(list:Int)(Q:QT):=AW (Z1 Z67) Tryz.f231 Zeu [] (L2 [(0,.c (sU .tree l .unk)),(1,.clo 217 [(.x 0)])] [(.x 0,[ci list])]) Q
theorem ZEG(l:List Tree)(list:Int)(Q:QT)(h:Zp (AW (Z1 Z67) Tryz.f231 Zeu [1,0,1,0,0]) (Z6f l list 0) (xB 0 (SW (Z1 Z67) Tryz.f231 Zeu [1,1] Q))):
  ZHF l list Q:=
 Eq.mpr V4 h
abbrev ZyN(l:List Tree)(list d:Int)(N0:NT)(Q:QT):=AW (Z1 Z67) Tryz.f231 Zeu [1,0,1,0,0] (Z6f l list d) (xT N0 (xB 0 (SW (Z1 Z67) Tryz.f231 Zeu [1,1] Q)))
theorem Zrp(l:List Tree)(list d:Int)(N0:NT)(Q:QT)(h:let z1:=l.getD d.toNat Tree.nil;let z0:=Tree.mk (Tree.kind z1) (Tree.words z1) (Tree.kids z1);iB (decide (d < (l.length:Int))) (((0:Int)<=d/\d < (l.length:Int))/\(ZdM (z0,(list,()),()))/\(iB (!(Zb (Tree.mk list [] [z0]) 64)) (Q .ret (L2 [pI 4 d] [(.x 0,[ci list])])) ((InR (d+1))/\(N0 (Z6f l list (d+1)))))) (Q .ret (L2 [pI 4 (-1)] [(.x 0,[ci list])]))):
  ZyN l list d N0 Q:=
 Eq.mpr V4 h
def Zz5(l:List Tree)(list:Int):Prop:=AW (Z1 Z67) Tryz.f231 Zeu [] (Zf (Zin.can (l,(list,()),())) (Zin.canX (l,(list,()),()))) (EQ Tryz.f231 (Zh1 (l,(list,()),())) (Zc1 (l,(list,()),())))
theorem Zxi(ZCW:CT 217 Z8a)(hb:∀ (l:List Tree) (list:Int) (_:Unit),ZdK (l,(list,()),())->Zz5 l list):CT 231 Z83:=
 Zq (l:=[(217,Z8a)]) Zh rfl (⟨ZCW,trivial⟩) Zeu Tryz.func231 rfl rfl 2 (fun _=> rfl) V3 (fun ⟨l,⟨list,_⟩,_⟩=> hb l list ())
def Zoa:List (FuncId × Fs U):=[(231,Z83)]
def Zu0:Zc U:=lvk [([0,1],[((.x 0),[])]),([4],[((.x 0),[])])]
abbrev ZHJ(l:List Tree)(list:Int)(Q:QT):=AW (Z1 Zoa) Tryz.f216 Zu0 [] (L2 [(0,.c (sU .tree l .unk)),(1,.clo 217 [(.x 0)])] [(.x 0,[ci list])]) Q
theorem ZES(l:List Tree)(list:Int)(Q:QT)(h:(ZdK (l,(list,()),()))/\(Q .ret (L2 [pB 4 (decide ((0:Int)<=(Z4u list l 0)))] [(.x 0,[ci list])]))):
  ZHJ l list Q:=
 Eq.mpr V4 h
def Zzh(l:List Tree)(list:Int):Prop:=AW (Z1 Zoa) Tryz.f216 Zu0 [] (Zf (Zin.can (l,(list,()),())) (Zin.canX (l,(list,()),()))) (EQ Tryz.f216 (Zl7 (l,(list,()),())) (Zc1 (l,(list,()),())))
theorem Zxu(ZCO:CT 231 Z83)(hb:∀ (l:List Tree) (list:Int) (_:Unit),ZdK (l,(list,()),())->Zzh l list):CT 216 Z3S:=
 Zq (l:=[(231,Z83)]) Zh rfl (⟨ZCO,trivial⟩) Zu0 Tryz.func216 rfl rfl 2 (fun _=> rfl) V3 (fun ⟨l,⟨list,_⟩,_⟩=> hb l list ())
end
theorem ZCW:Contract Tryz.prog cfg 217 Z8a:=by
 refine Zxt ZCV ?_
 intro t list _ d
 simp only [ZdM] at d
 refine ZER _ _ _ ?_
 (simp only [vE])
 refine ⟨by simp only [ZdL];exact d,?_⟩
 simp only [Zl6,ZgX]
 exact V1
theorem Zf3{list:Int}{l:List Tree}:∀ (i:Nat),(∀ t∈l.take i,Zb (Tree.mk list [] [t]) 64=true)->i<=l.length->Z4u list l 0=Z4u list (l.drop i) i
 | 0,_,_=> by simp
 | i+1,h,hi=> by
  have u:=Zf3 i (fun t s=> h t (by rw [XT];exact Qg.2 (Or.inl s))) V0
  rw [u]
  have e:l.drop i=l.getD i Tree.nil ::l.drop (i+1):=by
   have:=YJ (l:=l) (i:=(i:Int)) V0 V0 Tree.nil
   simpa using this
  have d:l.getD i Tree.nil∈l.take (i+1):=by
   rw [List.mem_take_iff_getElem]
   exact ⟨i,V0,by simp [List.getD,Q0 (show i < l.length by omega)]⟩
  rw [e,Z4u,if_pos (h _ d)]
  simp
theorem ZCO:Contract Tryz.prog cfg 231 Z83:=by
 refine Zxi ZCW ?_
 intro l list _ h
 simp only [ZdK] at h
 refine ZEG _ _ _ ?_
 refine Ze (ι:=Int) (fun s=> Z6f l list s) (fun s=> 0<=s/\s<=l.length/\∀ t∈l.take s.toNat,Zb (Tree.mk list [] [t]) 64=true) (fun s=> ((l.length:Int) - s).toNat) 0 rfl ⟨by simp,by simp,by simp⟩ ?_
 rintro i ⟨g1,g2,g3⟩
 have d:=Zf3 (list:=list) (l:=l) i.toNat g3 V0
 have hl:=Zs l
 refine Zrp _ _ _ _ _ ?_
 (simp only [iB,vcS])
 (simp only [vE])
 refine ⟨fun u=> ⟨⟨g1,u⟩,?_,fun hc=> ?_,fun hc=> ?_⟩,fun u=> ?_⟩
 .have hm:=Zo (l:=l) (i:=i.toNat) V0 Tree.nil
  simp only [ZdM]
  have h1:=Jr hm
  exact ⟨V0,YV h.2.1 hm,h.2.2⟩
 .rw [YJ g1 u Tree.nil,Z4u,if_neg (by grind)] at d
  simp only [Zh1,Zc1]
  rw [d,show ((i.toNat:Nat):Int)=i by omega]
  exact V1
 .refine ⟨V2,i+1,rfl,⟨V0,V0,fun t ht=> ?_⟩,V0⟩
  rw [show (i+1).toNat=i.toNat+1 by omega,XT] at ht
  grind
 .rw [Qd V0] at d
  simp only [Zh1,Zc1]
  rw [d,Z4u]
  exact V1
theorem ZCX:Contract Tryz.prog cfg 216 Z3S:=by
 refine Zxu ZCO ?_
 intro l list _ d
 simp only [ZdK] at d
 refine ZES _ _ _ ?_
 have h:=Zgq list l 0 V3
 refine ⟨by simp only [ZdK];exact d,?_⟩
 have e:decide (0<=Z4u list l 0)= !(Jt list l):=by
  rw [Qo,decide_eq_true_eq,h]
  cases Jt list l <;> simp
 simp only [Zl7,Zc1]
 rw [e]
 exact V1
noncomputable section
def ZsW(a:Edit × Unit):V U:= .c (.bool (Z3G a.1))
def Z3W:Fs U:=fs Zps (fun a=> [Z7y a]) ZsW
abbrev ZHM(t:Tree)(Q:QT):=AW (Z1 ZlW) Tryz.f178 ZCr [] (L2 [(0,.agg (enc .tree t))] []) Q
theorem ZFa(t:Tree)(Q:QT)(h:((Tt (t.kind==0))/\(Tt (t.kind==0))/\(Tt (t.kind==0))/\(Tt (t.kind==0))/\(Tt (t.kind==0))/\(Tt (t.kind==0))/\((t.kind==0)=true->InR (((t.words.length:Int):Int)+(t.kids.length:Int)))/\(Tt (t.kind==0))/\(Tt (t.kind==0))/\(Q .ret (L2 [(2,.c (.bool (bif (t.kind==0) then (((((t.words.length:Int):Int)+(t.kids.length:Int)):Int)==0) else false)))] [])))):
  ZHM t Q:=
 Eq.mpr V4 h
def Zzz(t:Tree):Prop:=AW (Z1 ZlW) Tryz.f178 ZCr [] (Zf (Zw0.can (t,())) []) (EQ Tryz.f178 (ZAl (t,())) [])
theorem ZxL(hb:∀ (t:Tree) (_:Unit),Z51 (t,())->Zzz t):CT 178 Z3P:=
 Z0 (l:=[]) Zh rfl trivial ZCr Tryz.func178 rfl rfl 1 (fun _=> rfl) V3 (fun ⟨t,_⟩=> hb t ())
def ZoG:List (FuncId × Fs U):=[(178,Z3P)]
def Zuw:Zc U:=lvl [([1],[1]),([1,3],[1]),([1,4],[1]),([2],[]),([1,21],[1]),([2],[]),([2],[])]
abbrev ZHX(e:Edit)(Q:QT):=AW (Z1 ZoG) Tryz.f121 Zuw [] (L2 [(0,.agg (enc .edit e))] []) Q
theorem ZFD(e:Edit)(Q:QT)(h:∀ s,s=(e.new)->∀ d,d=(e.old)->let z2:=(Q .ret (L2 [pB 2 false] []));let z1:=(!(e.kind==3)) && (e.list==0);let z0:=(e.kind !=1) && (Ye d);((Tt (e.kind !=1))/\(Tt (e.kind !=1))/\(Tt (e.kind !=1))/\((e.kind !=1)=true->Z51 (d,()))/\(Tt (e.kind !=1))/\(Tt z0)/\(Tt z0)/\(Tt z0)/\(z0=true->Z51 (s,()))/\((e.kind !=1)=true->(True->(e.kind !=1)=true))/\((e.kind !=1)=true->((Ye d)=true->z0=true))/\(Tt (e.kind !=1))/\(Tt (e.kind !=1))/\(iB (bif (e.kind !=1) then (!(bif (Ye d) then (Ye s) else false)) else false) z2 ((Tt (e.kind !=2))/\(Tt (e.kind !=2))/\(Tt (e.kind !=2))/\(Tt (e.kind !=2))/\(Tt (e.kind !=2))/\(Tt (e.kind !=2))/\((e.kind !=2)=true->InR (((e.words.length:Int):Int)+(e.kids.length:Int)))/\(Tt (e.kind !=2))/\(Tt (e.kind !=2))/\(iB (bif (e.kind !=2) then (decide ((0:Int) < (((e.words.length:Int):Int)+(e.kids.length:Int)))) else false) z2 ((Tt (!(e.kind==3)))/\(Tt (!(e.kind==3)))/\(Tt (!(e.kind==3)))/\(Tt z1)/\(Tt z1)/\(Tt z1)/\((!(e.kind==3))=true->(True->(!(e.kind==3))=true))/\((!(e.kind==3))=true->((e.list==0)=true->z1=true))/\((e.kind==3)=false->(!(e.kind==3))=true)/\(Q .ret (L2 [(2,.c (.bool (bif (e.kind==3) then true else (bif (e.list==0) then (((e.ops.length:Int):Int)==0) else false))))] [])))))))):
  ZHX e Q:=
 Eq.mpr V4 (h _ (Z7 _) _ (Z7 _))
def ZA2(e:Edit):Prop:=AW (Z1 ZoG) Tryz.f121 Zuw [] (Zf (Zps.can (e,())) []) (EQ Tryz.f121 (ZsW (e,())) [])
theorem Zyb(ZDb:CT 178 Z3P)(hb:∀ (e:Edit) (_:Unit),Z7y (e,())->ZA2 e):CT 121 Z3W:=
 Z0 (l:=[(178,Z3P)]) Zh rfl (⟨ZDb,trivial⟩) Zuw Tryz.func121 rfl rfl 1 (fun _=> rfl) V3 (fun ⟨e,_⟩=> hb e ())
end
theorem ZDb:Contract Tryz.prog cfg 178 Z3P:=by
 refine ZxL ?_
 intro t _ d
 simp only [Z51] at d
 have:=ZjV t
 refine ZFa t _ ?_
 simp only [iB,vcT,vcS,aiT,true_and]
 refine ⟨fun _=> by unfold InR;omega,Z4 rfl ?_⟩
 rw [Qo]
 simp only [Ye]
 grind
theorem ZDu:Contract Tryz.prog cfg 121 Z3W:=by
 refine Zyb ZDb ?_
 intro e _ s
 simp only [Z7y] at s
 have h1:=Yt e
 have h2:=Yz e.kids
 refine ZFD e _ ?_
 rintro y1 rfl u rfl
 simp only [iB,vcT,vcS,aiT,true_and]
 refine ⟨fun _=> by simp only [Z51];omega,fun _=> by simp only [Z51];omega,fun h=> ?_,fun h=> ⟨fun _=> by unfold InR;omega,fun d=> ?_,fun d=> ?_⟩⟩
 .refine Z4 rfl ?_
  show false=Z3G e
  unfold Z3G
  grind
 .refine Z4 rfl ?_
  show false=Z3G e
  unfold Z3G
  grind
 .refine Z4 rfl ?_
  show _=Z3G e
  unfold Z3G
  grind
noncomputable section
def Z0z(a:Edit × Int × Unit):Prop:=(Za a.1<=18000000000/\Yp a.1)/\0<=a.2.1/\a.2.1<=1000
def Z6S(a:Edit × Int × Unit):Nat:=4*Za a.1
def ZcZ:Fs U:=fs Zim (fun a=> [Z0z a]) Zna
def Z4p:ArgL (List Kid × Int × Unit):=(.cons (aSl .kid) (.cons (Yr .i64) .nil))
def Z33(a:List Kid × Int × Unit):Prop:=(ZR a.1<=18000000000/\Z2O a.1)/\0<=a.2.1/\a.2.1<=1000
def Z8W(a:List Kid × Int × Unit):Nat:=4*ZR a.1+2
def Z4X(a:List Kid × Int × Unit):V U:= .c (.bool (Zw (-1) a.1 a.2.1))
def ZmM:Fs U:=fs Z4p (fun a=> [Z33 a]) Z4X
def Z32(a:Edit × Int × Unit):Prop:=(Za a.1<=18000000000/\Yp a.1/\2<=Edit.list a.1/\Edit.list a.1<=9)/\0<=a.2.1/\a.2.1<=1000
def Z8V(a:Edit × Int × Unit):Nat:=4*Zl a.1.ops+2
def Z7n(a:Edit × Int × Unit):V U:= .c (.bool (Zz a.1.list a.1.ops a.2.1 && decide (Z0Q a.1.ops 0 < 1048576/\Z0P a.1.ops 0 < 1048576)))
def ZmL:Fs U:=fs Zim (fun a=> [Z32 a]) Z7n
def Z31(a:Int × Op × Int × Unit):Prop:=(Zy a.2.1<=18000000000/\Z1j a.2.1/\2<=a.1/\a.1<=9)/\0<=a.2.2.1/\a.2.2.1<=1000
def Z8U(a:Int × Op × Int × Unit):Nat:=4*Zy a.2.1+1
def ZmJ:Fs U:=fs Zcz (fun a=> [Z31 a]) Zhh
def ZfT(a:Edit × Unit):Prop:=Za a.1<=18000000000/\Yp a.1
def ZAs(a:Edit × Unit):V U:= .c (.bool (Z5 a.1 64))
def Z4L:Fs U:=fs Zps (fun a=> [ZfT a]) ZAs
def Z7M(N:Nat):List (FuncId × Fs U):=(78,fs Zim (fun a=> [Z0z a,Z6S a < N]) Zna) ::(124,fs Z4p (fun a=> [Z33 a,Z8W a < N]) Z4X) ::(126,fs Zim (fun a=> [Z32 a,Z8V a < N]) Z7n) ::(179,fs Zcz (fun a=> [Z31 a,Z8U a < N]) Zhh) ::[(121,Z3W),(122,Z3V),(123,Z3U),(125,Z1c),(216,Z3S),(219,Z3R),(169,Z3T)]
def ZCe:Zc U:=lvl [([1,2],[2]),([1,2,11],[2]),([4],[]),([1,2,13],[2]),([1,2,13,14],[2]),([4],[]),([1,2,13,16],[2]),([4],[]),([1,2,13,26],[2]),([4],[]),([1,2,38],[2]),([4],[]),([4],[])]
abbrev W78(N:Nat)(e:Edit)(d:Int)(Q:QT):=AW (Z1 (Z7M N)) Tryz.f78 ZCe [] (L2 [(0,.agg (enc .edit e)),pI 1 d] []) Q
theorem ZH6(N:Nat)(e:Edit)(d:Int)(Q:QT)(h:∀ s,s=e->∀ aa,aa=(e.new)->∀ u,u=(e.old)->let z3:=(Q .ret (L2 [pB 4 false] []));let z2:=ZK (-1) e.words;let z1:=decide (Tree.kind u≠10) && Zb u 64;let z0:=decide (2<=e.list/\e.list<=9);((Z7y (s,()))/\(Tt (!(!(Z3G s))))/\((!(Z3G s))=false->(!(!(Z3G s)))=true)/\(iB (bif (!(Z3G s)) then true else (d==0)) z3 ((iB (e.kind==0) ((Q .ret (L2 [pB 4 true] []))) ((iB (e.kind==1) ((ZfP (u,()))/\(Tt z1)/\(Tt z1)/\(z1=true->ZfP (aa,()))/\(Tt z1)/\(Q .ret (L2 [pB 4 (bif z1 then (decide (Tree.kind aa≠10) && Zb aa 64) else false)] []))) ((iB (e.kind==2) ((ZdZ (e.words,()))/\(Tt z2)/\(Tt z2)/\(z2=true->InR (d - 1))/\(Tt z2)/\(Tt z2)/\(z2=true->Z33 (e.kids,(d - 1),()))/\(z2=true->Z8W (e.kids,(d - 1),()) < N)/\(Tt z2)/\(Q .ret (L2 [pB 4 (bif z2 then (Zw (-1) e.kids (d - 1)) else false)] []))) ((iB (e.kind==3) ((Zlr (e.list,()))/\(Tt z0)/\(z0=true->InR (d - 1))/\(Tt z0)/\(Tt z0)/\(z0=true->Z32 (s,(d - 1),()))/\(z0=true->Z8V (s,(d - 1),()) < N)/\(Tt z0)/\(Q .ret (L2 [pB 4 (bif z0 then (Zz s.list s.ops (d - 1) && decide (Z0Q s.ops 0 < 1048576/\Z0P s.ops 0 < 1048576)) else false)] []))) z3))))))))))):
  W78 N e d Q:=
 Eq.mpr V4 (h _ (Z6 _) _ (Z7 _) _ (Z7 _))
def ZDZ(N:Nat)(e:Edit)(d:Int):Prop:=AW (Z1 (Z7M N)) Tryz.f78 ZCe [] (Zf (Zim.can (e,d,())) []) (EQ Tryz.f78 (Zna (e,d,())) [])
abbrev ZGO:Prop:=∀ (N:Nat) (e:Edit) (d:Int) (_:Unit),Z0z (e,d,())->Z6S (e,d,()) < N+1->ZDZ N e d
def Zey:Zc U:=lvl [([0,1],[]),([0,1,7,8,9],[]),([0,1,7,8,9,10],[]),([0,1,5,6,7,8,9],[6]),([0,1,7,8,9,49],[]),([4],[]),([0,1,7,8,9],[]),([4],[])]
def Z6o(l:List Kid)(d h:Int):LSt U:=(L2 [(0,.c (sU .kid l .unk)),pI 1 d,(7,.c (sU .kid l .unk)),pI 8 (l.length:Int),pI 9 h] [])
abbrev ZHU(N:Nat)(l:List Kid)(d:Int)(Q:QT):=AW (Z1 (Z7M N)) Tryz.f124 Zey [] (L2 [(0,.c (sU .kid l .unk)),pI 1 d] []) Q
theorem ZFA(N:Nat)(l:List Kid)(d:Int)(Q:QT)(h:Zp (AW (Z1 (Z7M N)) Tryz.f124 Zey [1,0,1,0,0]) (Z6o l d 0) (xB 0 (SW (Z1 (Z7M N)) Tryz.f124 Zey [1,1] Q))):
  ZHU N l d Q:=
 Eq.mpr V4 h
abbrev ZyT(N:Nat)(l:List Kid)(d h:Int)(N0:NT)(Q:QT):=AW (Z1 (Z7M N)) Tryz.f124 Zey [1,0,1,0,0] (Z6o l d h) (xT N0 (xB 0 (SW (Z1 (Z7M N)) Tryz.f124 Zey [1,1] Q)))
theorem ZrI(N:Nat)(l:List Kid)(d u:Int)(N0:NT)(Q:QT)(h:∀ s,s=(l.getD u.toNat (KidOf.mk 0 Edit.nil))->∀ ab,ab=(List.getD l (Int.toNat (u - 1)) (KidOf.mk 0 Edit.nil))->∀ aa,aa=(s.e)->let z5:=decide ((0:Int) < u);let z4:=decide (s.at_ < 0);let z0:=bif z4 then true else (decide ((65535:Int)<=s.at_));let z2:=(!z0) && z5;let z1:=bif z0 then true else (bif z5 then (decide (s.at_<=ab.at_)) else false);let z3:=bif z1 then true else (s.e.kind==0);(iB (decide (u < (l.length:Int))) (((0:Int)<=u/\u < (l.length:Int))/\((Tt (!z4))/\(Tt (!z4))/\(z4=false->(!z4)=true)/\(Tt (!z0))/\(Tt (!z0))/\(Tt z2)/\(z2=true->InR (u - 1))/\(Tt z2)/\(Tt z2)/\(z2=true->(0:Int)<=(u - 1)/\(u - 1) < (l.length:Int))/\(Tt z2)/\(Tt z2)/\(Tt z2)/\(Tt z2)/\(Tt z2)/\((!z0)=true->(True->(!z0)=true))/\((!z0)=true->(z5=true->z2=true))/\(z0=false->(!z0)=true)/\(Tt (!z1))/\(Tt (!z1))/\(Tt (!z1))/\(z1=false->(!z1)=true)/\(Tt (!z3))/\(Tt (!z3))/\(Tt (!z3))/\((!z3)=true->Z0z (aa,d,()))/\((!z3)=true->Z6S (aa,d,()) < N)/\(Tt (!z3))/\(z3=false->(!z3)=true)/\(iB (bif z3 then true else (!(Z5 aa d))) ((Q .ret (L2 [pB 4 false] []))) ((InR (u+1))/\(N0 (Z6o l d (u+1))))))) ((Q .ret (L2 [pB 4 true] []))))):
  ZyT N l d u N0 Q:=
 Eq.mpr V4 (h _ rfl _ rfl _ (Z6 _))
def ZzZ(N:Nat)(l:List Kid)(d:Int):Prop:=AW (Z1 (Z7M N)) Tryz.f124 Zey [] (Zf (Z4p.can (l,d,())) []) (EQ Tryz.f124 (Z4X (l,d,())) [])
abbrev ZAX:Prop:=∀ (N:Nat) (l:List Kid) (d:Int) (_:Unit),Z33 (l,d,())->Z8W (l,d,()) < N+1->ZzZ N l d
def Zex:Zc U:=lvl [([1,2],[2]),([1,2,10,11,12],[2]),([1,2,10,11,12,13],[2]),([1,2,6,10,11,12],[2,6]),([1,2,10,11,12,21],[2]),([4],[]),([1,2,10,11,12],[2]),([7,8],[]),([4],[])]
def Z6n(e:Edit)(d h:Int):LSt U:=(L2 [pI 1 d,pL 2,(10,.c (sU .op e.ops .unk)),pI 11 (e.ops.length:Int),pI 12 h] [(.loc 2,(enc .edit e))])
abbrev ZHT(N:Nat)(e:Edit)(d:Int)(Q:QT):=AW (Z1 (Z7M N)) Tryz.f126 Zex [] (L2 [(0,.agg (enc .edit e)),pI 1 d] []) Q
theorem ZFy(N:Nat)(e:Edit)(d:Int)(Q:QT)(h:Zp (AW (Z1 (Z7M N)) Tryz.f126 Zex [1,0,1,0,0]) (Z6n e d 0) (xB 0 (SW (Z1 (Z7M N)) Tryz.f126 Zex [1,1] Q))):
  ZHT N e d Q:=
 Eq.mpr V4 h
abbrev ZyS(N:Nat)(e:Edit)(d h:Int)(N0:NT)(Q:QT):=AW (Z1 (Z7M N)) Tryz.f126 Zex [1,0,1,0,0] (Z6n e d h) (xT N0 (xB 0 (SW (Z1 (Z7M N)) Tryz.f126 Zex [1,1] Q)))
theorem ZrH(N:Nat)(e:Edit)(d s:Int)(N0:NT)(Q:QT)(h:∀ aa,aa=e->∀ ab,ab=(e.ops.getD s.toNat Op.nil)->∀ u,u=ab->let z0:=decide (((Z2w aa.ops 0):Int) < 1048576);(iB (decide (s < (e.ops.length:Int))) (((0:Int)<=s/\s < (e.ops.length:Int))/\((Z31 (e.list,u,d,()))/\(Z8U (e.list,u,d,()) < N)/\(iB (!(Zg e.list u d)) ((Q .ret (L2 [pB 4 false] []))) ((InR (s+1))/\(N0 (Z6n e d (s+1))))))) ((Z7y (aa,()))/\((Tt z0)/\(Tt z0)/\(Q .ret (L2 [(4,.c (.bool (bif z0 then (decide (((Z2v aa.ops 0):Int) < 1048576)) else false)))] [])))))):
  ZyS N e d s N0 Q:=
 Eq.mpr V4 (h _ (Z6 _) _ rfl _ (YE _))
def ZzX(N:Nat)(e:Edit)(d:Int):Prop:=AW (Z1 (Z7M N)) Tryz.f126 Zex [] (Zf (Zim.can (e,d,())) []) (EQ Tryz.f126 (Z7n (e,d,())) [])
abbrev ZAW:Prop:=∀ (N:Nat) (e:Edit) (d:Int) (_:Unit),Z32 (e,d,())->Z8V (e,d,()) < N+1->ZzX N e d
def Zub:Zc U:=lvl [([2,3,4],[3,4]),([2,3,4,8],[3,4]),([2,3,4,8,9],[3,4]),([2,3,4,8,11],[3,4]),([2,3,4,8,13],[3,4]),([2,3,4,15],[3,4]),([6],[]),([6],[]),([6],[]),([6],[])]
abbrev ZHL(N:Nat)(list:Int)(o:Op)(d:Int)(Q:QT):=AW (Z1 (Z7M N)) Tryz.f179 Zub [] (L2 [pI 0 list,(1,.agg (enc .op o)),pI 2 d] []) Q
theorem ZF9(N:Nat)(list:Int)(o:Op)(d:Int)(Q:QT)(h:∀ s,s=(o.e)->∀ u,u=(.bool (bif (bif (bif (bif (o.n==0) then (decide ((0:Int) < (o.l.length:Int))) else false) then (Z5 s 1) else false) then (o.e.kind==0) else false) then (!(!(Jt list o.l))) else false))->let z10:=Q .ret (L2 [(6,.c u)] []);let z9:=((o.l.length:Int):Int)==0;let z8:=decide ((1:Int)<=o.n);let z4:=bif z8 then (decide (o.n<=1048576)) else false;let z3:=bif (o.n==0) then z9 else false;let z6:=bif z3 then (Z1b list s) else false;let z1:=bif z4 then z9 else false;let z7:=bif z1 then (Z5 s 1) else false;let z0:=bif (o.n==0) then (decide ((0:Int) < (o.l.length:Int))) else false;let z5:=bif z0 then (Z5 s 1) else false;let z2:=bif z5 then (o.e.kind==0) else false;(iB (o.kind==0) ((Tt z8)/\(Tt z8)/\(Tt z8)/\(Tt z4)/\(Tt z4)/\(Tt z4)/\(Tt z4)/\(Tt z1)/\(Tt z1)/\(z1=true->Z0z (s,1,()))/\(z1=true->Z6S (s,1,()) < N)/\(Tt z1)/\(Tt z7)/\(Tt z7)/\(Tt z7)/\(Tt z7)/\(Q .ret (L2 [(6,.c (.bool (bif z7 then (o.e.kind==0) else false)))] []))) ((iB (o.kind==1) ((Tt (o.n==0))/\(Tt (o.n==0))/\(Tt (o.n==0))/\(Tt (o.n==0))/\(Tt z0)/\(Tt z0)/\(z0=true->Z0z (s,1,()))/\(z0=true->Z6S (s,1,()) < N)/\(Tt z0)/\(Tt z5)/\(Tt z5)/\(Tt z5)/\(Tt z5)/\(Tt z2)/\(Tt z2)/\(Tt z2)/\(z2=true->ZdK (o.l,(list,()),()))/\(Tt z2)/\(Tt z2)/\z10) ((iB (o.kind==2) ((Tt (o.n==0))/\(Tt (o.n==0))/\(Tt (o.n==0))/\(Tt (o.n==0))/\(Tt z0)/\(Tt z0)/\(z0=true->Z0z (s,1,()))/\(z0=true->Z6S (s,1,()) < N)/\(Tt z0)/\(Tt z5)/\(Tt z5)/\(Tt z5)/\(Tt z5)/\(Tt z2)/\(Tt z2)/\(Tt z2)/\(z2=true->ZdK (o.l,(list,()),()))/\(Tt z2)/\(Tt z2)/\z10) ((iB (o.kind==3) ((Tt (o.n==0))/\(Tt (o.n==0))/\(Tt (o.n==0))/\(Tt (o.n==0))/\(Tt z3)/\(Tt z3)/\(Tt z3)/\(z3=true->Zln (list,s,()))/\(Tt z3)/\(Tt z6)/\(Tt z6)/\(Tt z6)/\(z6=true->Z0z (s,d,()))/\(z6=true->Z6S (s,d,()) < N)/\(Tt z6)/\(Q .ret (L2 [(6,.c (.bool (bif z6 then (Z5 s d) else false)))] []))) ((Q .ret (L2 [pB 6 false] []))))))))))):
  ZHL N list o d Q:=
 Eq.mpr V4 (h _ (Z6 _) _ rfl)
def Zzy(N:Nat)(list:Int)(o:Op)(d:Int):Prop:=AW (Z1 (Z7M N)) Tryz.f179 Zub [] (Zf (Zcz.can (list,o,d,())) []) (EQ Tryz.f179 (Zhh (list,o,d,())) [])
abbrev ZAU:Prop:=∀ (N:Nat) (list:Int) (o:Op) (d:Int) (_:Unit),Z31 (list,o,d,())->Z8U (list,o,d,()) < N+1->Zzy N list o d
def Zv6:List (FuncId × Fs U):=[(78,ZcZ)]
abbrev W28(e:Edit)(Q:QT):=AW (Z1 Zv6) Tryz.f28 ZCr [] (L2 [(0,.agg (enc .edit e))] []) Q
theorem ZHr(e:Edit)(Q:QT)(h:let z0:=Edit.mk e.kind (Tree.mk e.old.kind e.old.words e.old.kids) (Tree.mk e.new.kind e.new.words e.new.kids) e.words e.kids e.list e.ops;(Z0z (z0,64,()))/\(Q .ret (L2 [pB 2 (Z5 z0 64)] []))):
  W28 e Q:=
 Eq.mpr V4 h
def ZEk(e:Edit):Prop:=AW (Z1 Zv6) Tryz.f28 ZCr [] (Zf (Zps.can (e,())) []) (EQ Tryz.f28 (ZAs (e,())) [])
theorem ZC4(c78:CT 78 ZcZ)(hb:∀ (e:Edit) (_:Unit),ZfT (e,())->ZEk e):CT 28 Z4L:=
 Z0 (l:=[(78,ZcZ)]) Zh rfl (⟨c78,trivial⟩) ZCr Tryz.func28 rfl rfl 1 (fun _=> rfl) V3 (fun ⟨e,_⟩=> hb e ())
theorem Zxe(ZDu:CT 121 Z3W)(ZDt:CT 122 Z3V)(ZDs:CT 123 Z3U)(Zr3:CT 125 Z1c)(ZCX:CT 216 Z3S)(ZCU:CT 219 Z3R)(ZDe:CT 169 Z3T)(b78:ZGO)(ZDF:ZAX)(ZDE:ZAW)(ZDC:ZAU):
  CT 78 ZcZ/\CT 124 ZmM/\CT 126 ZmL/\CT 179 ZmJ:=by
 have ae:FK 78:=⟨Tryz.f78,Tryz.func78,rfl,rfl⟩
 have aa:FK 124:=⟨Tryz.f124,Tryz.func124,rfl,rfl⟩
 have u:FK 126:=⟨Tryz.f126,Tryz.func126,rfl,rfl⟩
 have ab:FK 179:=⟨Tryz.f179,Tryz.func179,rfl,rfl⟩
 have s:∀ N,CT 78 (fs Zim (fun a=> [Z0z a,Z6S a < N]) Zna)/\CT 124 (fs Z4p (fun a=> [Z33 a,Z8W a < N]) Z4X)/\CT 126 (fs Zim (fun a=> [Z32 a,Z8V a < N]) Z7n)/\CT 179 (fs Zcz (fun a=> [Z31 a,Z8U a < N]) Zhh):=by
  intro N
  induction N with
  | zero=> exact ⟨Z1V ae,Z1V aa,Z1V u,Z1V ab⟩
  | succ N ih=>
   have kn:=Jn (l:=Z7M N) ⟨ih.1,ih.2.1,ih.2.2.1,ih.2.2.2,ZDu,ZDt,ZDs,Zr3,ZCX,ZCU,ZDe,trivial⟩
   exact ⟨Y7 (Γ:=Z1 (Z7M N)) Zh rfl kn ZCe Tryz.func78 rfl rfl (fun a=> by show 2<=_;decide) (fun ⟨e,d,_⟩ h=> b78 N e d () h.1 h.2.1),
    Y7 (Γ:=Z1 (Z7M N)) Zh rfl kn Zey Tryz.func124 rfl rfl (fun a=> by show 2<=_;decide) (fun ⟨l,d,_⟩ h=> ZDF N l d () h.1 h.2.1),
    Y7 (Γ:=Z1 (Z7M N)) Zh rfl kn Zex Tryz.func126 rfl rfl (fun a=> by show 2<=_;decide) (fun ⟨e,d,_⟩ h=> ZDE N e d () h.1 h.2.1),
    Y7 (Γ:=Z1 (Z7M N)) Zh rfl kn Zub Tryz.func179 rfl rfl (fun a=> by show 3<=_;decide) (fun ⟨list,o,d,_⟩ h=> ZDC N list o d () h.1 h.2.1)⟩
 exact ⟨Z1W ae fun N=> (s N).1,Z1W aa fun N=> (s N).2.1,Z1W u fun N=> (s N).2.2.1,Z1W ab fun N=> (s N).2.2.2⟩
end
end Go.AM.YtpjenobkibfpcaaGreat
