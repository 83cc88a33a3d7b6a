import Derived.Test.YtfapacabjkhepaaGreatWB44a
set_option linter.unusedSimpArgs false
set_option linter.unusedVariables false
namespace Go.AM.YtfapacabjkhepaaGreat
open Go.AM Go.Proofs
theorem ZBw{a h k:Nat}(ha:a < 2 ^ k)(hs:a+h*2 ^ k < 2 ^ 64):(BitVec.ofInt 64 (a:Int) ||| BitVec.ofInt 64 ((h*2 ^ k:Nat):Int)).toNat=a+h*2 ^ k:=by
 have d:=Nat.shiftLeft_add_eq_or_of_lt ha h
 rw [Nat.shiftLeft_eq] at d
 rw [BitVec.toNat_or,Xz,Xz,XF,XF,Xc V0,Xc V0,Nat.or_comm,<-d,Xw]
theorem ZyY{x b:Nat}(hx:x < 2 ^ 64)(hb:b < 64):(BitVec.ofInt 64 (x:Int) &&& BitVec.ofInt 64 ((2 ^ b - 1:Nat):Int)).toNat=x % 2 ^ b:=by
 have:2 ^ b<=2 ^ 64:=XM V0 V0
 rw [K4,Xz,Xz,XF,XF,Xc hx,Xc (by have:=K5 b;omega),XO]
theorem Zri{n:Int}(h0:0<=n)(h1:n < 9223372036854775808):IntKind.wrap .i64 n=n:=by
 have e:n % 18446744073709551616=n:=XJ h0 V0
 simp [IntKind.wrap,IntKind.signed,IntKind.bits,e]
 omega
theorem Zt8{a h:Int}{k:Nat}(a0:0<=a)(d:a < 2 ^ k)(h0:0<=h)(hk:k<=64)(s:a+h*2 ^ k < 18446744073709551616):IntKind.wrap .u64 (BitVec.ofInt (IntKind.bits .u64) (IntKind.wrap .u64 a) ||| BitVec.ofInt (IntKind.bits .u64) (IntKind.wrap .u64 ((IntKind.wrap .u64 h)*2 ^ (min k (IntKind.bits .u64))))).toNat=a+h*2 ^ k:=by
 obtain ⟨a,rfl⟩:∃ n:Nat,a=n:=⟨a.toNat,V0⟩
 obtain ⟨h,rfl⟩:∃ n:Nat,h=n:=⟨h.toNat,V0⟩
 have u:(2:Int) ^ k=((2 ^ k:Nat):Int):=by rw [XD];try rfl
 have e:(h:Int)*2 ^ k=((h*2 ^ k:Nat):Int):=by rw [u,K6]
 have hp:=K5 k
 have hh:h<=h*2 ^ k:=Xt _ hp
 rw [u] at d
 rw [e] at s
 have d:a < 2 ^ k:=Int.ofNat_lt.1 d
 generalize hH:h*2 ^ k=H at*
 have s:a+H < 18446744073709551616:=V0
 rw [show IntKind.bits .u64=64 from rfl,X8 hk,Ju (n:=(a:Int)) V0 V0,Ju (n:=(h:Int)) V0 V0]
 rw [e,Ju (n:=((H:Nat):Int)) V0 V0,<-hH,ZBw d (by rw [hH];exact s),hH,Ju V0 V0]
 omega
theorem Zxm{w:Int}{f b:Nat}(h0:0<=w)(h1:w < 18446744073709551616)(hf:f<=64)(hb:b<=40):IntKind.wrap .i64 (IntKind.wrap .u64 (BitVec.ofInt (IntKind.bits .u64) (Int.fdiv w (2 ^ (min f (IntKind.bits .u64)))) &&& BitVec.ofInt (IntKind.bits .u64) (IntKind.wrap .u64 ((IntKind.wrap .u64 ((1:Int)*2 ^ (min b (IntKind.bits .u64)))) - 1))).toNat)=Zn w f b:=by
 obtain ⟨w,rfl⟩:∃ n:Nat,w=n:=⟨w.toNat,V0⟩
 have u:=K5 b
 have s:2 ^ b<=2 ^ 40:=XM V0 hb
 have d:(2:Int) ^ b=((2 ^ b:Nat):Int):=by rw [XD];try rfl
 have h:(2:Int) ^ f=((2 ^ f:Nat):Int):=by rw [XD];try rfl
 rw [show IntKind.bits .u64=64 from rfl,X8 hf,X8 V0,Int.one_mul,d,Ju (n:=((2 ^ b:Nat):Int)) V0 V0,show ((2 ^ b:Nat):Int) - 1=((2 ^ b - 1:Nat):Int) by omega,Ju (n:=((2 ^ b - 1:Nat):Int)) V0 V0,h]
 rw [Int.fdiv_eq_ediv_of_nonneg _ (XW _),show ((w:Int) / ((2 ^ f:Nat):Int))=((w / 2 ^ f:Nat):Int) from rfl]
 have hq:w / 2 ^ f<=w:=Nat.div_le_self _ _
 rw [ZyY V0 V0]
 have hm:w / 2 ^ f % 2 ^ b < 2 ^ b:=Xy _ u
 rw [Ju V0 V0,Zri V0 V0]
 unfold Zn
 rw [h,d]
 try rfl
noncomputable section
def Zvj:ArgL (Int × Int × Int × Unit):=(.cons (Yc .i64) (.cons (Yc .i64) (.cons (Yc .i64) .nil)))
def Zjs(a:Int × Int × Int × Unit):Prop:=(0<=a.1/\0<=a.2.1/\a.2.1<=1048576)/\(a.2.2.1=8/\a.1 < 256\/a.2.2.1=32/\a.1 < 4294967296/\a.2.1 < 256)
def ZAa(a:Int × Int × Int × Unit):V U:= .c (.int .u64 (a.1+a.2.1*2 ^ Int.toNat a.2.2.1))
def Zdc:Fs U:=fs Zvj (fun a=> [Zjs a]) ZAa
def Zvk:ArgL (List Int × List Tree × Unit):=(.cons (aSl .u64) (.cons (aSl .tree) .nil))
def Z79(a:List Int × List Tree × Unit):Prop:=True
def ZAb(a:List Int × List Tree × Unit):V U:= .agg (enc .tree (Tree.mk 1 a.1 a.2.1))
def Zdd:Fs U:=fs Zvk (fun a=> [Z79 a]) ZAb
def Zjr(a:List Tree × Unit):Prop:=True
def Znx(a:List Tree × Unit):V U:= .agg (enc .tree (JM a.1))
def Zdb:Fs U:=fs Zph (fun a=> [Zjr a]) Znx
def Zpv:ArgL (Int × Int × Int × Unit):=(.cons (Yc .u64) (.cons (Yc .i64) (.cons (Yc .i64) .nil)))
def Z2D(a:Int × Int × Int × Unit):Prop:=(0<=a.1/\a.1 < 18446744073709551616)/\(a.2.1=0\/a.2.1=8\/a.2.1=32)/\(a.2.2.1=8\/a.2.2.1=32\/a.2.2.1=40)
def Zsz(a:Int × Int × Int × Unit):V U:= .c (ci (Zn a.1 (Int.toNat a.2.1) (Int.toNat a.2.2.1)))
def Z8u:Fs U:=fs Zpv (fun a=> [Z2D a]) Zsz
def Zsy(a:Tree × Int × Unit):V U:= .c (.int .u64 (Zo a.1 (Int.toNat a.2.1)))
def Z8t:Fs U:=fs Zvf (fun a=> [Zei a]) Zsy
def Zlb(a:Tree × Int × Unit):V U:= .agg (enc .tree (Zm a.1 (Int.toNat a.2.1)))
def Z8s:Fs U:=fs Zvf (fun a=> [Zei a]) Zlb
abbrev A73(p:List Nat):=AW (Z2 Zmg) Tryz.f73 ZtI p
theorem ZHN(low high bits:Int)(Q:QT)(h:let z0:=IntKind.bits .u64;(((0:Int)<=bits)/\(Q .ret (L2 [(6,.c (.int .u64 (IntKind.wrap .u64 (BitVec.ofInt z0 (IntKind.wrap .u64 low) ||| BitVec.ofInt z0 (IntKind.wrap .u64 (((IntKind.wrap .u64 high):Int)*2 ^ (min bits.toNat z0)))).toNat)))] [])))):
  A73 [] (L2 [pI 0 low,pI 1 high,pI 2 bits] []) Q:=
 (Eq.mpr V5 h:)
abbrev ZEx(low high bits:Int):Prop:=AW (Z2 Zmg) Tryz.f73 ZtI [] (Zi (Zvj.can (low,high,bits,())) []) (EQ Tryz.f73 (ZAa (low,high,bits,())) [])
theorem ZBR(hb:∀ (s:Int) (d:Int) (h:Int) (_:Unit),Zjs (s,d,h,())->ZEx s d h):CT 73 Zdc:=
 Z1 (l:=[]) Zk rfl trivial ZtI Tryz.func73 rfl rfl 3 (fun _=> rfl) V2 (fun ⟨s,d,h,_⟩=> hb s d h ())
def ZCH:Zg U:=lvl [([0,1,4],[4]),([4],[4])]
abbrev A72(p:List Nat):=AW (Z2 Zmg) Tryz.f72 ZCH p
theorem ZHO(words:List Int)(kids:List Tree)(Q:QT)(h:(Q .ret (L2 [pL 4] [(.loc 4,[ci 1,sU .u64 words .unk,sU .tree kids .unk])]))):
  A72 [] (L2 [(0,.c (sU .u64 words .unk)),(1,.c (sU .tree kids .unk))] []) Q:=
 (Eq.mpr V5 h:)
abbrev ZEy(words:List Int)(kids:List Tree):Prop:=AW (Z2 Zmg) Tryz.f72 ZCH [] (Zi (Zvk.can (words,kids,())) []) (EQ Tryz.f72 (ZAb (words,kids,())) [])
theorem ZBS(hb:∀ (words:List Int) (kids:List Tree) (_:Unit),Z79 (words,kids,())->ZEy words kids):CT 72 Zdd:=
 Z1 (l:=[]) Zk rfl trivial ZCH Tryz.func72 rfl rfl 2 (fun _=> rfl) V2 (fun ⟨words,kids,_⟩=> hb words kids ())
def ZCF:Zg U:=lvl [([0,2],[2]),([0,2,5],[2]),([2],[2]),([2],[2])]
abbrev A74(p:List Nat):=AW (Z2 Zmg) Tryz.f74 ZCF p
theorem ZHM(l:List Tree)(Q:QT)(h:(iB (((l.length:Int):Int)==0) ((Q .ret (L2 [pL 2] [(.loc 2,[ci 0,.nils,.nils])]))) ((Q .ret (L2 [pL 2] [(.loc 2,[ci 9,.nils,sU .tree l .unk])]))))):
  A74 [] (L2 [(0,.c (sU .tree l .unk))] []) Q:=
 (Eq.mpr V5 h:)
abbrev ZEw(l:List Tree):Prop:=AW (Z2 Zmg) Tryz.f74 ZCF [] (Zi (Zph.can (l,())) []) (EQ Tryz.f74 (Znx (l,())) [])
theorem ZBQ(hb:∀ (l:List Tree) (_:Unit),Zjr (l,())->ZEw l):CT 74 Zdb:=
 Z1 (l:=[]) Zk rfl trivial ZCF Tryz.func74 rfl rfl 1 (fun _=> rfl) V2 (fun ⟨l,_⟩=> hb l ())
abbrev ZJm(p:List Nat):=AW (Z2 Zmg) Tryz.f113 ZtI p
theorem ZG8(w from_ bits:Int)(Q:QT)(h:let z0:=IntKind.bits .u64;(((0:Int)<=from_)/\((0:Int)<=bits)/\(Q .ret (L2 [(6,.c (ci (IntKind.wrap .i64 (IntKind.wrap .u64 (BitVec.ofInt z0 (Int.fdiv w (2 ^ (min from_.toNat z0))) &&& BitVec.ofInt z0 (IntKind.wrap .u64 (((IntKind.wrap .u64 ((1:Int)*2 ^ (min bits.toNat z0))):Int) - 1))).toNat))))] [])))):
  ZJm [] (L2 [(0,.c (.int .u64 w)),pI 1 from_,pI 2 bits] []) Q:=
 (Eq.mpr V5 h:)
abbrev ZzN(w from_ bits:Int):Prop:=AW (Z2 Zmg) Tryz.f113 ZtI [] (Zi (Zpv.can (w,from_,bits,())) []) (EQ Tryz.f113 (Zsz (w,from_,bits,())) [])
theorem Zy0(hb:∀ (w:Int) (d:Int) (h:Int) (_:Unit),Z2D (w,d,h,())->ZzN w d h):CT 113 Z8u:=
 Z1 (l:=[]) Zk rfl trivial ZtI Tryz.func113 rfl rfl 3 (fun _=> rfl) V2 (fun ⟨w,d,h,_⟩=> hb w d h ())
abbrev A77(p:List Nat):=AW (Z2 Zmg) Tryz.f77 ZCF p
theorem ZHJ(l:List Tree)(Q:QT)(h:(iB (((l.length:Int):Int)==0) ((Q .ret (L2 [pL 2] [(.loc 2,[ci 0,.nils,.nils])]))) ((Q .ret (L2 [pL 2] [(.loc 2,[ci 9,.nils,sU .tree l .unk])]))))):
  A77 [] (L2 [(0,.c (sU .tree l .unk))] []) Q:=
 (Eq.mpr V5 h:)
abbrev ZEt(l:List Tree):Prop:=AW (Z2 Zmg) Tryz.f77 ZCF [] (Zi (Zph.can (l,())) []) (EQ Tryz.f77 (Znx (l,())) [])
theorem ZBP(hb:∀ (l:List Tree) (_:Unit),Zjr (l,())->ZEt l):CT 77 Zdb:=
 Z1 (l:=[]) Zk rfl trivial ZCF Tryz.func77 rfl rfl 1 (fun _=> rfl) V2 (fun ⟨l,_⟩=> hb l ())
abbrev ZJk(p:List Nat):=AW (Z2 Zmg) Tryz.f115 ZtV p
theorem ZG6(t:Tree)(i:Int)(Q:QT)(h:(iB (decide (i < (t.words.length:Int))) (((0:Int)<=i/\i < (t.words.length:Int))/\(Q .ret (L2 [(4,.c (.int .u64 (t.words.getD i.toNat (0:Int))))] []))) ((Q .ret (L2 [(4,.c (.int .u64 0))] []))))):
  ZJk [] (L2 [(0,.agg (enc .tree t)),pI 1 i] []) Q:=
 (Eq.mpr V5 h:)
abbrev ZzL(t:Tree)(i:Int):Prop:=AW (Z2 Zmg) Tryz.f115 ZtV [] (Zi (Zvf.can (t,i,())) []) (EQ Tryz.f115 (Zsy (t,i,())) [])
theorem ZxZ(hb:∀ (t:Tree) (i:Int) (_:Unit),Zei (t,i,())->ZzL t i):CT 115 Z8t:=
 Z1 (l:=[]) Zk rfl trivial ZtV Tryz.func115 rfl rfl 2 (fun _=> rfl) V2 (fun ⟨t,i,_⟩=> hb t i ())
abbrev ZJj(p:List Nat):=AW (Z2 Zmg) Tryz.f116 ZtU p
theorem ZG5(t:Tree)(i:Int)(Q:QT)(h:(iB (decide (i < (t.kids.length:Int))) (((0:Int)<=i/\i < (t.kids.length:Int))/\(Q .ret (L2 [pL 4] [(.loc 4,(enc .tree (t.kids.getD i.toNat Tree.nil)))]))) ((Q .ret (L2 [pL 4] [(.loc 4,[ci 0,.nils,.nils])]))))):
  ZJj [] (L2 [(0,.agg (enc .tree t)),pI 1 i] []) Q:=
 (Eq.mpr V5 h:)
abbrev ZzK(t:Tree)(i:Int):Prop:=AW (Z2 Zmg) Tryz.f116 ZtU [] (Zi (Zvf.can (t,i,())) []) (EQ Tryz.f116 (Zlb (t,i,())) [])
theorem ZxY(hb:∀ (t:Tree) (i:Int) (_:Unit),Zei (t,i,())->ZzK t i):CT 116 Z8s:=
 Z1 (l:=[]) Zk rfl trivial ZtU Tryz.func116 rfl rfl 2 (fun _=> rfl) V2 (fun ⟨t,i,_⟩=> hb t i ())
end
theorem c73:Contract Tryz.prog cfg 73 Zdc:=by
 refine ZBR ?_
 intro a h k _ hp
 obtain ⟨⟨a0,d,u⟩,s⟩:=hp
 dsimp only at a0 d u s
 refine ZHN _ _ _ _ ?_
 have e:IntKind.wrap .u64 (BitVec.ofInt (IntKind.bits .u64) (IntKind.wrap .u64 a) ||| BitVec.ofInt (IntKind.bits .u64) (IntKind.wrap .u64 ((IntKind.wrap .u64 h)*2 ^ (min k.toNat (IntKind.bits .u64))))).toNat=a+h*2 ^ k.toNat:=by
  rcases s with ⟨rfl,ha⟩ | ⟨rfl,ha,hh⟩
  .exact Zt8 (k:=8) a0 V0 d V0 V0
  .exact Zt8 (k:=32) a0 V0 d V0 V0
 simp only [e]
 exact ⟨V0,Y3 rfl rfl⟩
theorem c72:Contract Tryz.prog cfg 72 Zdd:=by
 refine ZBS ?_
 intro w k _ _
 refine ZHO _ _ _ ?_
 exact V1
theorem c74:Contract Tryz.prog cfg 74 Zdb:=by
 refine ZBQ ?_
 intro l _ _
 refine ZHM _ _ ?_
 (simp only [iB,vcT,vcS])
 refine ⟨fun h=> ?_,fun h=> ?_⟩
 .refine YS (r':= .agg (enc .tree Tree.nil)) ?_ V1
  simp only [Znx,JM]
  rw [if_pos (Q3 V0)]
  try rfl
 .refine YS (r':= .agg (enc .tree (.mk 9 [] l))) ?_ V1
  simp only [Znx,JM]
  rw [if_neg (by rintro rfl;exact h rfl)]
  try rfl
theorem c77:Contract Tryz.prog cfg 77 Zdb:=by
 refine ZBP ?_
 intro l _ _
 refine ZHJ _ _ ?_
 (simp only [iB,vcT,vcS])
 refine ⟨fun h=> ?_,fun h=> ?_⟩
 .refine YS (r':= .agg (enc .tree Tree.nil)) ?_ V1
  simp only [Znx,JM]
  rw [if_pos (Q3 V0)]
  try rfl
 .refine YS (r':= .agg (enc .tree (.mk 9 [] l))) ?_ V1
  simp only [Znx,JM]
  rw [if_neg (by rintro rfl;exact h rfl)]
  try rfl
theorem ZDB:Contract Tryz.prog cfg 113 Z8u:=by
 refine Zy0 ?_
 intro w f b _ h
 obtain ⟨⟨w0,w1⟩,hf,d⟩:=h
 dsimp only at w0 w1 hf d
 refine ZG8 _ _ _ _ ?_
 have e:IntKind.wrap .i64 (IntKind.wrap .u64 (BitVec.ofInt (IntKind.bits .u64) (Int.fdiv w (2 ^ (min f.toNat (IntKind.bits .u64)))) &&& BitVec.ofInt (IntKind.bits .u64) (IntKind.wrap .u64 ((IntKind.wrap .u64 ((1:Int)*2 ^ (min b.toNat (IntKind.bits .u64)))) - 1))).toNat)=Zn w f.toNat b.toNat:=Zxm w0 w1 V0 V0
 simp only [e]
 exact ⟨V0,V0,Y3 rfl rfl⟩
theorem ZDA:Contract Tryz.prog cfg 115 Z8t:=by
 refine ZxZ ?_
 intro t i _ d
 have d:0<=i:=d
 refine ZG6 _ _ _ ?_
 (simp only [iB,vcT,vcS])
 refine ⟨fun h=> ⟨⟨d,h⟩,Y3 rfl rfl⟩,fun h=> Y3 rfl ?_⟩
 show 0=t.words.getD i.toNat 0
 rw [Q9,Qp V0]
 try rfl
theorem ZDz:Contract Tryz.prog cfg 116 Z8s:=by
 refine ZxY ?_
 intro t i _ d
 have d:0<=i:=d
 refine ZG5 _ _ _ ?_
 (simp only [iB,vcT,vcS])
 refine ⟨fun h=> ⟨⟨d,h⟩,?_⟩,fun h=> ?_⟩
 ·exact V1
 .refine YS (r':= .agg (enc .tree Tree.nil)) ?_ V1
  have e:Zm t i.toNat=Tree.nil:=by
   unfold Zm
   rw [Q9,Qp V0]
   try rfl
  simp only [Zlb,e]
  try rfl
noncomputable section
def Z7a(a:Edit × Unit):Prop:=(Zd a.1<=100000000/\Y0 a.1)/\∃ d,Z6 a.1 d=true
def ZnD(a:Edit × Unit):V U:= .agg (enc .tree (ZT a.1))
def Z50:Fs U:=fs Zvc (fun a=> [Z7a a]) ZnD
def ZmJ:ArgL (Int × Op × Unit):=(.cons (Yc .i64) (.cons (aEl .op) .nil))
def ZnU(a:Int × Op × Unit):Prop:=(Zx a.2.1<=100000000/\YF a.2.1)/\(2<=a.1/\a.1<=9)/\∃ d,Zf a.1 a.2.1 d=true
def Zqj(a:Int × Op × Unit):Nat:=2*Zx a.2.1+1
def Znw(a:Int × Op × Unit):V U:= .agg (enc .tree (YW a.1 a.2.1))
def ZrR:Fs U:=fs ZmJ (fun a=> [ZnU a]) Znw
def ZhT(N:Nat):List (FuncId × Fs U):=(41,fs Zvc (fun a=> [Z7a a,ZhJ a < N]) ZnD) ::(75,fs ZmJ (fun a=> [ZnU a,Zqj a < N]) Znw) ::[(72,Zdd),(73,Zdc),(74,Zdb)]
def Zyl:Zg U:=lvk [([1,2],[1,2]),([1,2,13],[1,2]),([1,2,13,14],[1,2]),([2],[2]),([1,2,13,23],[1,2]),([1,2,3,4],[1,2]),([1,2,(3,[.own .tree]),4,26,27,28],[1,2]),([1,2,3,4,26,27,28,29],[1,2]),([1,2,3,4,6,26,27,28],[1,2,6]),([1,2,3,4,26,27,28],[1,2]),([1,2,(3,[.own .tree]),4,26,27,28],[1,2]),([2,3,(4,[.own .tree]),49,50,51],[2]),([2,3,4,49,50,51,52],[2]),([2,3,4,8,49,50,51],[2,8]),([2,3,4,49,50,51],[2]),([2,3,(4,[.own .tree]),49,50,51],[2]),([2],[2]),([1,2,75],[1,2]),([1,2,9],[1,2]),([1,2,(9,[.own .tree]),78,79,80],[1,2]),([1,2,9,78,79,80,81],[1,2]),([1,2,9,11,78,79,80],[1,2,11]),([1,2,9,78,79,80],[1,2]),([1,2,(9,[.own .tree]),78,79,80],[1,2]),([2],[2]),([2],[2])]
def Z9S(e:Edit)(d:Int)(h:List Tree):LSt U:=(L2 [pL 1,pL 2,(3,.c (sU .tree h (.own (.e 3 0)))),(4,.c (.nils)),(26,.c (sU .wedit e.words .unk)),pI 27 (e.words.length:Int),pI 28 d] [(.loc 1,(enc .edit e)),(.loc 2,[ci 0,.nils,.nils])])
def Z9R(e:Edit)(d:Int)(h:List Tree):LSt U:=(L2 [pL 1,pL 2,(9,.c (sU .tree h (.own (.e 9 0)))),(78,.c (sU .op e.ops .unk)),pI 79 (e.ops.length:Int),pI 80 d] [(.loc 1,(enc .edit e)),(.loc 2,[ci 0,.nils,.nils])])
def Z9Q(e:Edit)(s:List Tree)(d:Int)(h:List Tree):LSt U:=(L2 [pL 2,(3,.c (sU .tree s (.own (.e 3 0)))),(4,.c (sU .tree h (.own (.e 4 0)))),(49,.c (sU .kid e.kids .unk)),pI 50 (e.kids.length:Int),pI 51 d] [(.loc 2,[ci 0,.nils,.nils])])
abbrev A41(N:Nat)(p:List Nat):=AW (Z2 (ZhT N)) Tryz.f41 Zyl p
abbrev S41(N:Nat)(p:List Nat):=SW (Z2 (ZhT N)) Tryz.f41 Zyl p
theorem ZIc(N:Nat)(e:Edit)(Q:QT)(h:∀ s,s=(e.new)->∀ d,d=(e.old)->(iB (e.kind==1) ((Z79 (([1]),([d,s]),()))/\(Q .ret (L2 [pL 2] [(.loc 2,(enc .tree (Tree.mk 1 ([1]) ([d,s]))))]))) ((iB (e.kind==2) ((Zl (A41 N [1,0,1,0,1,1,1,0,1,0,1,0,0]) (Z9S e 0 []) (xB 1 (S41 N [1,0,1,0,1,1,1,0,1,1] (xB 0 (S41 N [1,1] Q)))))) ((iB (e.kind==3) ((Zl (A41 N [1,0,1,0,1,1,1,1,1,0,1,0,1,0,0]) (Z9R e 0 []) (xB 5 (S41 N [1,0,1,0,1,1,1,1,1,0,1,1] (xB 0 (S41 N [1,1] Q)))))) ((Q .ret (L2 [pL 2] [(.loc 2,[ci 0,.nils,.nils])]))))))))):
  A41 N [] (L2 [(0,.agg (enc .edit e))] []) Q:=
 (Eq.mpr V5 (h _ (Z0 _) _ (Z0 _)):)
theorem ZwL(N:Nat)(e:Edit)(s:Int)(x3:List Tree)(N0:NT)(Q:QT)(h:∀ d,d=(e.words.getD s.toNat (WEdit.mk 0 0 0 0))->∀ u,u=(Tree.mk 1 ([(d.at_+(IntKind.wrap .i64 d.mask)*2 ^ Int.toNat 32),WEdit.old d,WEdit.new d]) ([]:List Tree))->(iB (decide (s < (e.words.length:Int))) (((0:Int)<=s/\s < (e.words.length:Int))/\((Zjs (d.at_,(IntKind.wrap .i64 d.mask),32,()))/\(Z79 (([(d.at_+(IntKind.wrap .i64 d.mask)*2 ^ Int.toNat 32),WEdit.old d,WEdit.new d]),([]:List Tree),()))/\((x3.length+([u]).length)*56<=140737488355328)/\((InR (s+1))/\(N0 (Z9S e (s+1) (x3++([u]))))))) ((Zl (A41 N [1,0,1,0,1,1,1,0,1,1,0,1,0,0]) (Z9Q e x3 0 []) (xB 3 (S41 N [1,0,1,0,1,1,1,0,1,1,1] (xB 0 (S41 N [1,1] Q)))))))):
  A41 N [1,0,1,0,1,1,1,0,1,0,1,0,0] (Z9S e s x3) (xT N0 (xB 1 (S41 N [1,0,1,0,1,1,1,0,1,1] (xB 0 (S41 N [1,1] Q))))):=
 (Eq.mpr V5 (h _ rfl _ (Z0 _)):)
theorem ZwK(N:Nat)(e:Edit)(d:Int)(s:List Tree)(N1:NT)(Q:QT)(h:∀ ab,ab=(JM s)->∀ ae,ae=(e.ops.getD d.toNat Op.nil)->∀ u,u=ae->∀ af,af=(Tree.mk 1 ([(3+e.list*2 ^ Int.toNat 8)]) ([ab]))->∀ aa,aa=(YW e.list u)->(iB (decide (d < (e.ops.length:Int))) (((0:Int)<=d/\d < (e.ops.length:Int))/\((ZnU (e.list,u,()))/\(Zqj (e.list,u,()) < N)/\((s.length+([aa]).length)*56<=140737488355328)/\((InR (d+1))/\(N1 (Z9R e (d+1) (s++([aa]))))))) ((Zjs (3,e.list,8,()))/\(Zjr (s,()))/\(Z79 (([(3+e.list*2 ^ Int.toNat 8)]),([ab]),()))/\(Q .ret (L2 [pL 2] [(.loc 2,(enc .tree af))]))))):
  A41 N [1,0,1,0,1,1,1,1,1,0,1,0,1,0,0] (Z9R e d s) (xT N1 (xB 5 (S41 N [1,0,1,0,1,1,1,1,1,0,1,1] (xB 0 (S41 N [1,1] Q))))):=
 (Eq.mpr V5 (h _ (Z0 _) _ rfl _ (J5 _) _ rfl _ (Z0 _)):)
theorem ZwJ(N:Nat)(e:Edit)(x3:List Tree)(d:Int)(s:List Tree)(N2:NT)(Q:QT)(h:∀ ah,ah=(JM x3)->∀ af,af=(JM s)->∀ u,u=(e.kids.getD d.toNat (KidOf.mk 0 Edit.nil))->∀ aa,aa=(u.e)->∀ ab,ab=(ZT aa)->∀ ae,ae=(Tree.mk 1 ([IntKind.wrap .u64 u.at_]) ([ab]))->(iB (decide (d < (e.kids.length:Int))) (((0:Int)<=d/\d < (e.kids.length:Int))/\((Z7a (aa,()))/\(ZhJ (aa,()) < N)/\(Z79 (([IntKind.wrap .u64 u.at_]),([ab]),()))/\((s.length+([ae]).length)*56<=140737488355328)/\((InR (d+1))/\(N2 (Z9Q e x3 (d+1) (s++([ae]))))))) ((Zjr (x3,()))/\(Zjr (s,()))/\(Z79 (([2]),([ah,af]),()))/\(Q .ret (L2 [pL 2] [(.loc 2,(enc .tree (Tree.mk 1 ([2]) ([ah,af]))))]))))):
  A41 N [1,0,1,0,1,1,1,0,1,1,0,1,0,0] (Z9Q e x3 d s) (xT N2 (xB 3 (S41 N [1,0,1,0,1,1,1,0,1,1,1] (xB 0 (S41 N [1,1] Q))))):=
 (Eq.mpr V5 (h _ (Z0 _) _ (Z0 _) _ rfl _ (Z8 _) _ (Z0 _) _ (Z0 _)):)
abbrev ZEW(N:Nat)(e:Edit):Prop:=AW (Z2 (ZhT N)) Tryz.f41 Zyl [] (Zi (Zvc.can (e,())) []) (EQ Tryz.f41 (ZnD (e,())) [])
abbrev ZHl:Prop:=∀ (N:Nat) (e:Edit) (_:Unit),Z7a (e,())->ZhJ (e,()) < N+1->ZEW N e
def Zug(N:Nat):List (FuncId × Fs U):=ZhT N
def ZCE:Zg U:=lvl [([0,3,4],[3,4]),([0,3,4,5],[3,4]),([0,3,4,5,13],[3,4]),([0,3,4,5,13,14],[3,4]),([0,3,4,5,13,14],[3,4]),([4],[4]),([3,4,5,24],[3,4]),([4],[4]),([4],[4])]
abbrev A75(N:Nat)(p:List Nat):=AW (Z2 (Zug N)) Tryz.f75 ZCE p
theorem ZHL(N:Nat)(list:Int)(o:Op)(Q:QT)(h:∀ d,d=(o.e)->∀ ab,ab=(Tree.mk 1 ([(o.kind+o.n*2 ^ Int.toNat 8)]) ([]:List Tree))->∀ aa,aa=(Tree.mk 1 ([(o.kind+o.n*2 ^ Int.toNat 8)]) ([(Tree.mk list [] o.l)]))->∀ s,s=(ZT d)->∀ u,u=(Tree.mk 1 ([(o.kind+o.n*2 ^ Int.toNat 8)]) ([s]))->let z5:=Q .ret (L2 [pL 4] [(.loc 4,(enc .tree ab))]);let z4:=Q .ret (L2 [pL 4] [(.loc 4,(enc .tree u))]);let z3:=Q .ret (L2 [pL 4] [(.loc 4,(enc .tree aa))]);let z2:=Z79 (([(o.kind+o.n*2 ^ Int.toNat 8)]),([s]),());let z1:=Z79 (([(o.kind+o.n*2 ^ Int.toNat 8)]),([]:List Tree),());let z0:=Z79 (([(o.kind+o.n*2 ^ Int.toNat 8)]),([(Tree.mk list [] o.l)]),());((Zjs (o.kind,o.n,8,()))/\(iB (o.kind==1) (iB (o.kind==1) (z0/\z3) ((iB (o.kind==3) ((Z7a (d,()))/\(ZhJ (d,()) < N)/\z2/\z4) (z1/\z5)))) ((iB (o.kind==2) (z0/\z3) ((iB (o.kind==3) ((Z7a (d,()))/\(ZhJ (d,()) < N)/\z2/\z4) (z1/\z5)))))))):
  A75 N [] (L2 [pI 0 list,(1,.agg (enc .op o))] []) Q:=
 (Eq.mpr V5 (h _ (Z8 _) _ rfl _ rfl _ (Z0 _) _ rfl):)
abbrev ZEv(N:Nat)(list:Int)(o:Op):Prop:=AW (Z2 (Zug N)) Tryz.f75 ZCE [] (Zi (ZmJ.can (list,o,())) []) (EQ Tryz.f75 (Znw (list,o,())) [])
abbrev ZHc:Prop:=∀ (N:Nat) (list:Int) (o:Op) (_:Unit),ZnU (list,o,())->Zqj (list,o,()) < N+1->ZEv N list o
theorem Zqy(c72:CT 72 Zdd)(c73:CT 73 Zdc)(c74:CT 74 Zdb)(ha:ZHl)(hb:ZHc):CT 41 Z50/\CT 75 ZrR:=
 JA (μA:=ZhJ) (μB:=Zqj) (l:=[(72,Zdd),(73,Zdc),(74,Zdb)]) Zk rfl (⟨c72,c73,c74,trivial⟩) Zyl ZCE Tryz.func41 Tryz.func75 rfl rfl rfl rfl 1 2 (fun _=> rfl) (fun _=> rfl) V2 V2 (fun N ⟨e,_⟩=> ha N e ()) (fun N ⟨list,o,_⟩=> hb N list o ())
end
theorem Z9e{α β:Type}{l:List α}{f:α->β}{acc all:List β}{i:Int}(i0:0<=i)(hi:i < l.length)(d:α)(h:acc++(l.drop i.toNat).map f=all):(acc++[f (l.getD i.toNat d)])++(l.drop (i+1).toNat).map f=all:=by
 rw [Y1 i0 hi d,QD] at h
 rw [Ql]
 exact h
theorem Z9f{α β:Type}{l:List α}{f:α->β}{acc all:List β}{i:Int}(hi:¬i < l.length)(h:acc++(l.drop i.toNat).map f=all):acc=all:=by
 rw [Q6 V0,Xe,Qr] at h
 exact h
theorem ZcQ{n:Int}(a:0<=n)(b:n < 9223372036854775808):IntKind.wrap .i64 n=n:=by
 have e:n % 18446744073709551616=n:=XJ a V0
 simp [IntKind.wrap,IntKind.signed,IntKind.bits,e]
 omega
theorem Z17{n:Int}(a:0<=n)(b:n < 18446744073709551616):IntKind.wrap .u64 n=n:=by
 have e:n % 18446744073709551616=n:=XJ a V0
 simp [IntKind.wrap,IntKind.signed,IntKind.bits,e]
theorem b41:ZHl:=by
 intro N e _ hp hN
 obtain ⟨⟨hm,hg⟩,d,hr⟩:=hp
 simp only [ZhJ] at hN
 dsimp only at hm hg hr
 have R:=ZH hr
 have G:=YD hg
 have eT:=Z4V e
 have m:Zd e=1+Zh e.old+Zh e.new+e.words.length+e.ops.length+Zp e.kids+Zj e.ops:=by cases e;rfl
 have hw:e.words.length<=100000000:=V0
 have hk:e.kids.length<=100000000:=by have:=ZW e.kids;omega
 have ho:e.ops.length<=100000000:=V0
 have fin:∀ {X:Tree} {s:LSt U},ZT e=X->ZF cfg Tryz.f41.ntmps Tryz.f41.results.toList (.agg (enc .tree X)) [] .ret s->ZF cfg Tryz.f41.ntmps Tryz.f41.results.toList (ZnD (e,())) [] .ret s:=by
  intro X s h hs
  subst h
  exact hs
 refine ZIc N e _ ?_
 intro y1 e1 y2 e2
 subst e1 e2
 (simp only [iB,vcT,vcS])
 refine ⟨fun k1=> ⟨trivial,fin (X:= .mk 1 [1] [e.old,e.new]) (by rw [eT,if_pos k1]) V1⟩,fun k1=> ⟨fun k2=> ?_,fun k2=> ⟨fun k3=> ?_,fun k3=> fin (X:=Tree.nil) (by rw [eT,if_neg k1,if_neg k2,if_neg k3]) V1⟩⟩⟩
 .rw [if_neg k1,if_pos k2] at eT
  refine Z4 (ι:=Int × List Tree) (fun s=> Z9S e s.1 s.2) (fun s=> ((0<=s.1/\s.1<=e.words.length)/\(s.2.length:Int)=s.1)/\s.2++(e.words.drop s.1.toNat).map Z1s=e.words.map Z1s) (fun s=> ((e.words.length:Int) - s.1).toNat) (0,[]) rfl ⟨⟨⟨V3,V3⟩,rfl⟩,rfl⟩ ?_
  rintro ⟨i,l⟩ ⟨⟨⟨i0,i1⟩,li⟩,hl⟩
  dsimp only at i0 i1 li hl
  refine ZwL N e i l _ _ ?_
  intro y1 e1 y2 e2
  (simp only [iB,vcT,vcS])
  refine ⟨fun hi=> ?_,fun hi=> ?_⟩
  .have u:y1∈e.words:=by rw [e1];exact Zb V0 _
   have A:=Yw R.words y1 u
   have B:=G.2.2.1 y1 u
   have wm:IntKind.wrap .i64 y1.mask=y1.mask:=ZcQ B.2.1.1 (by have:=B.2.1.2;omega)
   rw [wm] at e2 ⊢
   have ew:y2=Z1s y1:=e2
   have st:=Z9e i0 hi ⟨0,0,0,0⟩ hl
   rw [<-e1,<-ew] at st
   refine ⟨⟨i0,hi⟩,⟨⟨V3,B.2.1.1,by dsimp only;have:=B.2.1.2;omega⟩,.inr ⟨rfl,V3,B.2.1.2⟩⟩,trivial,by rw [List.length_singleton];omega,V4,(i+1,l++[y2]),rfl,⟨⟨⟨V3,V3⟩,by rw [List.length_append,List.length_singleton];dsimp only;omega⟩,st⟩,V3⟩
  .have hl:=Z9f hi hl
   refine Z4 (ι:=Int × List Tree) (fun s=> Z9Q e l s.1 s.2) (fun s=> ((0<=s.1/\s.1<=e.kids.length)/\(s.2.length:Int)=s.1)/\s.2++(e.kids.drop s.1.toNat).map (fun k=> Tree.mk 1 [k.at_] [ZT k.e])=e.kids.map fun k=> Tree.mk 1 [k.at_] [ZT k.e]) (fun s=> ((e.kids.length:Int) - s.1).toNat) (0,[]) rfl ⟨⟨⟨V3,V3⟩,rfl⟩,rfl⟩ ?_
   rintro ⟨j,q⟩ ⟨⟨⟨j0,j1⟩,lj⟩,hq⟩
   dsimp only at j0 j1 lj hq
   refine ZwJ N e l j q _ _ ?_
   intro y1 e1 y2 e2 y3 e3 y4 e4 y5 e5 y6 e6
   (simp only [iB,vcT,vcS])
   refine ⟨fun hj=> ?_,fun hj=> ?_⟩
   .have u:y3∈e.kids:=by rw [e3];exact Zb V0 _
    have A:=ZP R.kids y3 u
    have B:=Yq G.2.2.2.1 u
    have mk:=Jz u
    subst e4
    have wa:IntKind.wrap .u64 y3.at_=y3.at_:=Z17 V0 V0
    rw [wa] at e6 ⊢
    rw [e5] at e6
    have st:=Z9e j0 hj (KidOf.mk 0 Edit.nil) hq
    rw [<-e3] at st
    refine ⟨⟨j0,hj⟩,⟨⟨V3,B.2⟩,_,A.2⟩,by simp only [ZhJ];omega,trivial,by rw [List.length_singleton];omega,V4,(j+1,q++[y6]),rfl,⟨⟨⟨V3,V3⟩,by rw [List.length_append,List.length_singleton];dsimp only;omega⟩,by rw [e6];exact st⟩,V3⟩
   .have hq:=Z9f hj hq
    refine ⟨trivial,trivial,trivial,fin (X:= .mk 1 [2] [y1,y2]) (by rw [eT,e1,e2,hl,hq,Z2p]) V1⟩
 .rw [if_neg k1,if_neg k2,if_pos k3] at eT
  obtain ⟨au,ar⟩:=R.list k3
  refine Z4 (ι:=Int × List Tree) (fun s=> Z9R e s.1 s.2) (fun s=> ((0<=s.1/\s.1<=e.ops.length)/\(s.2.length:Int)=s.1)/\s.2++(e.ops.drop s.1.toNat).map (YW e.list)=e.ops.map (YW e.list)) (fun s=> ((e.ops.length:Int) - s.1).toNat) (0,[]) rfl ⟨⟨⟨V3,V3⟩,rfl⟩,rfl⟩ ?_
  rintro ⟨i,l⟩ ⟨⟨⟨i0,i1⟩,li⟩,hl⟩
  dsimp only at i0 i1 li hl
  refine ZwK N e i l _ _ ?_
  intro y1 e1 y2 e2 y3 e3 y4 e4 y5 e5
  subst e3
  (simp only [iB,vcT,vcS])
  refine ⟨fun hi=> ?_,fun hi=> ?_⟩
  .have u:y3∈e.ops:=by rw [e2];exact Zb V0 _
   have A:=rightOs_mem R.ops u
   have B:=J0 G.2.2.2.2 u
   have mo:=ZL u
   have st:=Z9e i0 hi Op.nil hl
   rw [<-e2,<-e5] at st
   refine ⟨⟨i0,hi⟩,⟨⟨V3,B⟩,⟨au,ar⟩,_,A⟩,by simp only [Zqj];omega,by rw [List.length_singleton];omega,V4,(i+1,l++[y5]),rfl,⟨⟨⟨V3,V3⟩,by rw [List.length_append,List.length_singleton];dsimp only;omega⟩,st⟩,V3⟩
  .have hl:=Z9f hi hl
   refine ⟨⟨⟨V3,V3,V3⟩,.inl ⟨rfl,V3⟩⟩,trivial,trivial,fin (X:=y4) (by rw [eT,e4,e1,hl,Z2o];rfl) V1⟩
theorem b75:ZHc:=by
 intro N list o _ hp hN
 obtain ⟨⟨hm,hg⟩,hl,d,hr⟩:=hp
 simp only [Zqj] at hN
 dsimp only at hm hg hl hr
 have A:=ZJ hr
 have me:=ZG o
 have g:=J4 hg
 have eT:=Z3D list o
 have fin:∀ {X:Tree} {s:LSt U},YW list o=X->ZF cfg Tryz.f75.ntmps Tryz.f75.results.toList (.agg (enc .tree X)) [] .ret s->ZF cfg Tryz.f75.ntmps Tryz.f75.results.toList (Znw (list,o,())) [] .ret s:=by
  intro X s h hs
  subst h
  exact hs
 have af:(0<=o.kind/\o.kind<=3)/\(0<=o.n/\o.n<=1048576)/\(o.kind=3->∃ d,Z6 o.e d=true):=by
  cases A with
  | keep nn a1 a2=> exact ⟨⟨V3,V3⟩,⟨V3,V3⟩,fun h=> by cases h⟩
  | gone ll a1 a2=> exact ⟨⟨V3,V3⟩,⟨V3,V3⟩,fun h=> by cases h⟩
  | come ll a1 a2=> exact ⟨⟨V3,V3⟩,⟨V3,V3⟩,fun h=> by cases h⟩
  | into e2 a1 a2 a3 a4=> exact ⟨⟨V3,V3⟩,⟨V3,V3⟩,fun _=> ⟨_,a1⟩⟩
 obtain ⟨hk,hn,he⟩:=af
 refine ZHL N list o _ ?_
 intro y1 e1 y2 e2 y3 e3 y4 e4 y5 e5
 subst e1
 (simp only [iB,vcT,vcS])
 have one:o.kind=1\/o.kind=2->YW list o=y3:=fun h=> by rw [eT,if_pos h,e3];try rfl
 have u:o.kind=3->YW list o=y5:=fun h=> by rw [eT,JC,if_pos h,e5,e4];try rfl
 have none:¬o.kind=1->¬o.kind=2->¬o.kind=3->YW list o=y2:=fun a b c=> by rw [eT,JC,if_neg c,e2];try rfl
 have pe:o.kind=3->Z7a (o.e,()):=fun h=> ⟨⟨V3,g.2.2.2⟩,he h⟩
 have mu:ZhJ (o.e,()) < N:=by simp only [ZhJ];omega
 exact ⟨⟨⟨hk.1,hn.1,hn.2⟩,.inl ⟨rfl,V3⟩⟩,fun k1=> ⟨fun _=> ⟨trivial,fin (one (.inl k1)) V1⟩,fun h=> absurd k1 h⟩,fun k1=> ⟨fun k2=> ⟨trivial,fin (one (.inr k2)) V1⟩,fun k2=> ⟨fun k3=> ⟨pe k3,mu,trivial,fin (u k3) V1⟩,fun k3=> ⟨trivial,fin (none k1 k2 k3) V1⟩⟩⟩⟩
theorem ZuY:Contract Tryz.prog cfg 41 Z50/\Contract Tryz.prog cfg 75 ZrR:=Zqy c72 c73 c74 b41 b75
noncomputable section
def ZbH(a:Tree × Unit):Prop:=Zh a.1<=10000000/\rng a.1
def Zfx(a:Tree × Unit):Nat:=2*Zh a.1
def Znu(a:Tree × Unit):V U:= .agg (enc .edit (ZA a.1))
def Zd9:Fs U:=fs ZvE (fun a=> [ZbH a]) Znu
def Zgr(a:Tree × Unit):Nat:=2*Zh a.1+1
def Zhs(a:Tree × Unit):V U:= .agg (enc .op (rdO ZA a.1))
def Znc:Fs U:=fs ZvE (fun a=> [ZbH a]) Zhs
def ZhS(N:Nat):List (FuncId × Fs U):=(79,fs ZvE (fun a=> [ZbH a,Zfx a < N]) Znu) ::(114,fs ZvE (fun a=> [ZbH a,Zgr a < N]) Zhs) ::[(113,Z8u),(81,Z1F),(45,Z0v)]
def Zya:Zg U:=lvk [([1,2],[1,2]),([1,2,3],[1,2]),([1,2,4],[1,2,4]),([1,2,4,23],[1,2,4]),([2],[2]),([2,4,5,6],[2,4,5,6]),([2,4,5,6,30],[2,4,5,6]),([2,4,5,6,30,31],[2,4,5,6]),([2,4],[2,4]),([2,4,5,6,30,37],[2,4,5,6]),([2,4,6,40,41,42],[2,((.loc 4),(an 7 [.own .wedit])),6]),([2,4,6,40,41,42,43],[2,4,6]),([2,4,6,8,40,41,42],[2,4,6,8]),([2,4,6,8,9,40,41,42],[2,4,6,8]),([2,4,6,40,41,42],[2,4,6]),([2,4,6,40,41,42],[2,((.loc 4),(an 7 [.own .wedit])),6]),([2,4,65,66,67],[2,((.loc 4),(an 8 [.own .kid]))]),([2,4,65,66,67,68],[2,4]),([2,4,11,65,66,67],[2,4,11]),([2,4,65,66,67],[2,4]),([2,4,65,66,67],[2,((.loc 4),(an 8 [.own .kid]))]),([2,4,5,84],[2,4,5]),([2,4,87,88,89],[2,((.loc 4),(an 10 [.own .op]))]),([2,4,87,88,89,90],[2,4]),([2,4,13,87,88,89],[2,4,13]),([2,4,87,88,89],[2,4]),([2,4,87,88,89],[2,((.loc 4),(an 10 [.own .op]))]),([2],[2])]
def Z9t(t:Tree)(h:Int)(d:List WEdit):LSt U:=(L2 [pL 2,pL 4,pL 6,(40,.c (sU .tree (Tree.kids (ZI (Tree.mk t.kind t.words t.kids) 0)) .unk)),(41,.c (ci ((Tree.kids (ZI (Tree.mk t.kind t.words t.kids) 0)).length:Int))),pI 42 h] [(.loc 2,zc1),(.loc 4,[ci (Zn (Zw (Tree.mk t.kind t.words t.kids) 0) (Int.toNat 0) (Int.toNat 8)),ci 0,.nils,.nils,ci 0,.nils,.nils,sU .wedit d (.own (.l 4 7)),.nils,ci (Zn (Zw (Tree.mk t.kind t.words t.kids) 0) (Int.toNat 8) (Int.toNat 8)),.nils]),(.loc 6,(enc .tree (ZI (Tree.mk t.kind t.words t.kids) 1)))])
def Z9s(t:Tree)(h:Int)(d:List Op):LSt U:=(L2 [pL 2,pL 4,(87,.c (sU .tree (Tree.kids (ZI (Tree.mk t.kind t.words t.kids) 0)) .unk)),(88,.c (ci ((Tree.kids (ZI (Tree.mk t.kind t.words t.kids) 0)).length:Int))),pI 89 h] [(.loc 2,zc1),(.loc 4,[ci (Zn (Zw (Tree.mk t.kind t.words t.kids) 0) (Int.toNat 0) (Int.toNat 8)),ci 0,.nils,.nils,ci 0,.nils,.nils,.nils,.nils,ci (Zn (Zw (Tree.mk t.kind t.words t.kids) 0) (Int.toNat 8) (Int.toNat 8)),sU .op d (.own (.l 4 10))])])
def Z9r(t:Tree)(h:List WEdit)(s:Int)(d:List Kid):LSt U:=(L2 [pL 2,pL 4,(65,.c (sU .tree (Tree.kids (ZI (Tree.mk t.kind t.words t.kids) 1)) .unk)),(66,.c (ci ((Tree.kids (ZI (Tree.mk t.kind t.words t.kids) 1)).length:Int))),pI 67 s] [(.loc 2,zc1),(.loc 4,[ci (Zn (Zw (Tree.mk t.kind t.words t.kids) 0) (Int.toNat 0) (Int.toNat 8)),ci 0,.nils,.nils,ci 0,.nils,.nils,sU .wedit h (.own (.l 4 7)),sU .kid d (.own (.l 4 8)),ci (Zn (Zw (Tree.mk t.kind t.words t.kids) 0) (Int.toNat 8) (Int.toNat 8)),.nils])])
abbrev A79(N:Nat)(p:List Nat):=AW (Z2 (ZhS N)) Tryz.f79 Zya p
abbrev S79(N:Nat)(p:List Nat):=SW (Z2 (ZhS N)) Tryz.f79 Zya p
theorem ZHH(N:Nat)(t:Tree)(Q:QT)(h:∀ d,d=t->let z2:=xB 0 (S79 N [1,1,1,1,1,1] Q);let z1:=Zn (Zw d 0) (Int.toNat 8) (Int.toNat 8);let z0:=Zn (Zw d 0) (Int.toNat 0) (Int.toNat 8);((Z4O (d,0,()))/\((Z2D ((Zw d 0),0,8,()))/\(Z2D ((Zw d 0),8,8,()))/\(iB (t.kind !=1) ((Q .ret (L2 [pL 2] [(.loc 2,zc1)]))) ((Z4O (d,0,()))/\(Z4O (d,1,()))/\(iB ((z0:Int)==1) ((Q .ret (L2 [pL 2] [(.loc 2,([ci z0]++enc .tree (ZI d 0)++enc .tree (ZI d 1)++[.nils,.nils,ci z1,.nils]))]))) ((iB ((z0:Int)==2) ((Zl (A79 N [1,1,1,1,1,0,1,0,1,1,1,0,0,1,0,0]) (Z9t t 0 []) (xB 1 (S79 N [1,1,1,1,1,0,1,0,1,1,1,0,1] z2)))) ((iB ((z0:Int)==3) ((Zl (A79 N [1,1,1,1,1,0,1,0,1,1,1,1,1,0,1,0,0]) (Z9s t 0 []) (xB 5 z2))) ((Q .ret (L2 [pL 2] [(.loc 2,[ci z0,ci 0,.nils,.nils,ci 0,.nils,.nils,.nils,.nils,ci z1,.nils])]))))))))))))):
  A79 N [] (L2 [(0,.agg (enc .tree t))] []) Q:=
 (Eq.mpr V5 (h _ (Z0 _)):)
theorem Zwd(N:Nat)(t:Tree)(u:Int)(s:List WEdit)(N0:NT)(Q:QT)(h:∀ aa,aa=t->∀ ab,ab=(List.getD (Tree.kids (ZI aa 0)) u.toNat Tree.nil)->∀ d,d=ab->let z0:=WEdit.mk (Zn (Zw d 0) (Int.toNat 0) (Int.toNat 32)) (IntKind.wrap .u8 (Zn (Zw d 0) (Int.toNat 32) (Int.toNat 8))) (Zw d 1) (Zw d 2);(iB (decide (u < ((Tree.kids (ZI aa 0)).length:Int))) (((0:Int)<=u/\u < ((Tree.kids (ZI aa 0)).length:Int))/\((Z4O (d,0,()))/\((Z2D ((Zw d 0),0,32,()))/\(Z2D ((Zw d 0),32,8,()))/\(Z4O (d,1,()))/\(Z4O (d,2,()))/\((s.length+([z0]).length)*32<=140737488355328)/\((InR (u+1))/\(N0 (Z9t t (u+1) (s++([z0])))))))) ((Zl (A79 N [1,1,1,1,1,0,1,0,1,1,1,0,1,1,0,0]) (Z9r t s 0 []) (xB 3 (xB 0 (S79 N [1,1,1,1,1,1] Q))))))):
  A79 N [1,1,1,1,1,0,1,0,1,1,1,0,0,1,0,0] (Z9t t u s) (xT N0 (xB 1 (S79 N [1,1,1,1,1,0,1,0,1,1,1,0,1] (xB 0 (S79 N [1,1,1,1,1,1] Q))))):=
 (Eq.mpr V5 (h _ (Z0 _) _ rfl _ (Z0 _)):)
theorem Zwc(N:Nat)(t:Tree)(s:Int)(d:List Op)(N1:NT)(Q:QT)(h:∀ u,u=t->∀ ae,ae=(List.getD (Tree.kids (ZI u 0)) s.toNat Tree.nil)->∀ aa,aa=ae->∀ ab,ab=(rdO ZA aa)->(iB (decide (s < ((Tree.kids (ZI u 0)).length:Int))) (((0:Int)<=s/\s < ((Tree.kids (ZI u 0)).length:Int))/\((ZbH (aa,()))/\(Zgr (aa,()) < N)/\((d.length+([ab]).length)*240<=140737488355328)/\((InR (s+1))/\(N1 (Z9s t (s+1) (d++([ab]))))))) ((Q .ret (L2 [pL 2] [(.loc 2,[ci (Zn (Zw u 0) (Int.toNat 0) (Int.toNat 8)),ci 0,.nils,.nils,ci 0,.nils,.nils,.nils,.nils,ci (Zn (Zw u 0) (Int.toNat 8) (Int.toNat 8)),sU .op d (.own (.l 2 10))])]))))):
  A79 N [1,1,1,1,1,0,1,0,1,1,1,1,1,0,1,0,0] (Z9s t s d) (xT N1 (xB 5 (xB 0 (S79 N [1,1,1,1,1,1] Q)))):=
 (Eq.mpr V5 (h _ (Z0 _) _ rfl _ (Z0 _) _ (J5 _)):)
theorem Zwb(N:Nat)(t:Tree)(u:List WEdit)(d:Int)(s:List Kid)(N2:NT)(Q:QT)(h:∀ ab,ab=t->∀ ah,ah=(List.getD (Tree.kids (ZI ab 1)) d.toNat Tree.nil)->∀ aa,aa=ah->∀ ae,ae=(ZI aa 0)->∀ af,af=(ZA ae)->let z0:=KidOf.mk (Zn (Zw aa 0) (Int.toNat 0) (Int.toNat 32)) af;(iB (decide (d < ((Tree.kids (ZI ab 1)).length:Int))) (((0:Int)<=d/\d < ((Tree.kids (ZI ab 1)).length:Int))/\((Z4O (aa,0,()))/\(Z2D ((Zw aa 0),0,32,()))/\(Z4O (aa,0,()))/\(ZbH (ae,()))/\(Zfx (ae,()) < N)/\((s.length+([z0]).length)*208<=140737488355328)/\((InR (d+1))/\(N2 (Z9r t u (d+1) (s++([z0]))))))) ((Q .ret (L2 [pL 2] [(.loc 2,[ci (Zn (Zw ab 0) (Int.toNat 0) (Int.toNat 8)),ci 0,.nils,.nils,ci 0,.nils,.nils,sU .wedit u (.own (.l 2 7)),sU .kid s (.own (.l 2 8)),ci (Zn (Zw ab 0) (Int.toNat 8) (Int.toNat 8)),.nils])]))))):
  A79 N [1,1,1,1,1,0,1,0,1,1,1,0,1,1,0,0] (Z9r t u d s) (xT N2 (xB 3 (xB 0 (S79 N [1,1,1,1,1,1] Q)))):=
 (Eq.mpr V5 (h _ (Z0 _) _ rfl _ (Z0 _) _ (Z0 _) _ (Z8 _)):)
abbrev ZEr(N:Nat)(t:Tree):Prop:=AW (Z2 (ZhS N)) Tryz.f79 Zya [] (Zi (ZvE.can (t,())) []) (EQ Tryz.f79 (Znu (t,())) [])
abbrev ZH9:Prop:=∀ (N:Nat) (t:Tree) (_:Unit),ZbH (t,())->Zfx (t,()) < N+1->ZEr N t
def ZoK(N:Nat):List (FuncId × Fs U):=ZhS N
def ZtO:Zg U:=lvl [([1,2],[1,2]),([1,2,3],[1,2]),([1,2,4],[1,2,4]),([1,2,4,13],[1,2,4]),([1,2,4,13,14],[1,2,4]),([1,2,4,13,14],[1,2,4]),([2,4],[2,4]),([1,2,4,21],[1,2,4]),([2,4],[2,4]),([2],[2])]
abbrev ZJl(N:Nat)(p:List Nat):=AW (Z2 (ZoK N)) Tryz.f114 ZtO p
theorem ZG7(N:Nat)(x:Tree)(Q:QT)(h:∀ d,d=x->∀ s,s=(ZI d 0)->let z5:=Z4O (d,0,());let z1:=Zn (Zw d 0) (Int.toNat 8) (Int.toNat 40);let z0:=Zn (Zw d 0) (Int.toNat 0) (Int.toNat 8);let z4:=Q .ret (L2 [pL 2] [(.loc 2,([ci z0,ci z1,.nils]++enc .edit (ZA s)))]);let z3:=(Q .ret (L2 [pL 2] [(.loc 2,[ci z0,ci z1,.nils,ci 0,ci 0,.nils,.nils,ci 0,.nils,.nils,.nils,.nils,ci 0,.nils])]));let z2:=Q .ret (L2 [pL 2] [(.loc 2,[ci z0,ci z1,sU .tree (Tree.kids (ZI d 0)) .unk,ci 0,ci 0,.nils,.nils,ci 0,.nils,.nils,.nils,.nils,ci 0,.nils])]);((Z4O (d,0,()))/\((Z2D ((Zw d 0),0,8,()))/\(Z2D ((Zw d 0),8,40,()))/\(iB ((z0:Int)==1) (iB ((z0:Int)==1) (z5/\z2) ((iB ((z0:Int)==3) (z5/\(ZbH (s,()))/\(Zfx (s,()) < N)/\z4) z3))) ((iB ((z0:Int)==2) (z5/\z2) ((iB ((z0:Int)==3) (z5/\(ZbH (s,()))/\(Zfx (s,()) < N)/\z4) z3)))))))):
  ZJl N [] (L2 [(0,.agg (enc .tree x))] []) Q:=
 (Eq.mpr V5 (h _ (Z0 _) _ (Z0 _)):)
abbrev ZzM(N:Nat)(x:Tree):Prop:=AW (Z2 (ZoK N)) Tryz.f114 ZtO [] (Zi (ZvE.can (x,())) []) (EQ Tryz.f114 (Zhs (x,())) [])
abbrev ZB0:Prop:=∀ (N:Nat) (x:Tree) (_:Unit),ZbH (x,())->Zgr (x,()) < N+1->ZzM N x
theorem ZlF(ZDB:CT 113 Z8u)(c81:CT 81 Z1F)(c45:CT 45 Z0v)(ha:ZH9)(hb:ZB0):CT 79 Zd9/\CT 114 Znc:=
 JA (μA:=Zfx) (μB:=Zgr) (l:=[(113,Z8u),(81,Z1F),(45,Z0v)]) Zk rfl (⟨ZDB,c81,c45,trivial⟩) Zya ZtO Tryz.func79 Tryz.func114 rfl rfl rfl rfl 1 1 (fun _=> rfl) (fun _=> rfl) V2 V2 (fun N ⟨t,_⟩=> ha N t ()) (fun N ⟨x,_⟩=> hb N x ())
end
theorem Zrj{n:Int}(a:0<=n)(b:n < 256):IntKind.wrap .u8 n=n:=by
 have e:n % 256=n:=XJ a V0
 simp [IntKind.wrap,IntKind.signed,IntKind.bits,e]
theorem ZBp(y:Tree):WEdit.mk (Zn (Zo y 0) (Int.toNat 0) (Int.toNat 32)) (IntKind.wrap .u8 (Zn (Zo y 0) (Int.toNat 32) (Int.toNat 8))) (Zo y 1) (Zo y 2)=rdW y:=by
 have h:=Zel (Zo y 0) 32 8
 rw [show Int.toNat 32=32 from rfl,show Int.toNat 8=8 from rfl,show Int.toNat 0=0 from rfl,Zrj h.1 h.2]
 try rfl
theorem b79:ZH9:=by
 intro N t _ hp hN
 obtain ⟨hm,hg⟩:=hp
 simp only [Zfx] at hN
 dsimp only at hm hg
 have eT:=Z1e t
 have aa:∀ {x:Tree} (a b:Int),rng x->(a=0\/a=8\/a=32)->(b=8\/b=32\/b=40)->Z2D (Zo x 0,a,b,()):=fun a b h ha hb=> ⟨Z0E h 0,ha,hb⟩
 have fin:∀ {X:Edit} {s:LSt U},ZA t=X->ZF cfg Tryz.f79.ntmps Tryz.f79.results.toList (.agg (enc .edit X)) [] .ret s->ZF cfg Tryz.f79.ntmps Tryz.f79.results.toList (Znu (t,())) [] .ret s:=by
  intro X s h hs
  subst h
  exact hs
 have g0:=Y5 hg 0
 have g1:=Y5 hg 1
 have l0:(Zm t 0).kids.length<=10000000:=by have:=Zs (Zm t 0).kids;have:=JD (Zm t 0);have:=Yk t 0;omega
 have l1:(Zm t 1).kids.length<=10000000:=by have:=Zs (Zm t 1).kids;have:=JD (Zm t 1);have:=Yk t 1;omega
 refine ZHH N t _ ?_
 intro u e1
 subst e1
 simp only [wA0,kA0,kA1,show Int.toNat 0=0 from rfl,show Int.toNat 8=8 from rfl]
 (simp only [iB,vcT,vcS])
 refine ⟨trivial,aa 0 8 hg V2 V2,aa 8 8 hg V2 V2,fun hk=> fin (X:=Edit.nil) (by rw [eT];unfold Jc;rw [if_neg hk]) V1,fun hk=> ⟨trivial,trivial,fun c1=> fin (X:= .mk (Zn (Zo u 0) 0 8) (Zm u 0) (Zm u 1) [] [] (Zn (Zo u 0) 8 8) []) (by rw [eT];unfold Jc;rw [if_pos hk,if_pos c1,if_pos c1,JC,JC,JC]) V1,fun c1=> ⟨fun c2=> ?_,fun c2=> ⟨fun c3=> ?_,fun c3=> fin (X:= .mk (Zn (Zo u 0) 0 8) Tree.nil Tree.nil [] [] (Zn (Zo u 0) 8 8) []) (by rw [eT];unfold Jc;rw [if_pos hk,if_neg c1,if_neg c1,if_neg c2,if_neg c2,if_neg c3]) V1⟩⟩⟩⟩
 .unfold Jc at eT
  rw [if_pos hk,if_neg c1,if_neg c1,if_pos c2,if_pos c2,JC] at eT
  refine Z4 (ι:=Int × List WEdit) (fun s=> Z9t u s.1 s.2) (fun s=> ((0<=s.1/\s.1<=(Zm u 0).kids.length)/\(s.2.length:Int)=s.1)/\s.2++((Zm u 0).kids.drop s.1.toNat).map rdW=(Zm u 0).kids.map rdW) (fun s=> (((Zm u 0).kids.length:Int) - s.1).toNat) (0,[]) rfl ⟨⟨⟨V3,V3⟩,rfl⟩,rfl⟩ ?_
  rintro ⟨i,l⟩ ⟨⟨⟨i0,i1⟩,li⟩,hl⟩
  dsimp only at i0 i1 li hl
  refine Zwd N u i l _ _ ?_
  intro z1 e1 z2 e2 z3 e3
  subst e1 e3
  simp only [wA0,wA1,wA2,kA0,kA1,ZBp] at e2 ⊢
  (simp only [iB,vcT,vcS])
  refine ⟨fun hi=> ?_,fun hi=> ?_⟩
  .have d:z3∈(Zm z1 0).kids:=by rw [e2];exact Zb V0 _
   have gx:=Z0M g0 d
   have st:=Z9e i0 hi Tree.nil hl
   rw [<-e2] at st
   exact ⟨⟨i0,hi⟩,trivial,aa 0 32 gx V2 V2,aa 32 8 gx V2 V2,trivial,trivial,by rw [Q8];omega,V4,(i+1,l++[rdW z3]),rfl,⟨⟨⟨V3,V3⟩,by rw [List.length_append,List.length_singleton];dsimp only;omega⟩,st⟩,V3⟩
  .have hl:=Z9f hi hl
   refine Z4 (ι:=Int × List Kid) (fun s=> Z9r z1 l s.1 s.2) (fun s=> ((0<=s.1/\s.1<=(Zm z1 1).kids.length)/\(s.2.length:Int)=s.1)/\s.2++((Zm z1 1).kids.drop s.1.toNat).map (rdK ZA)=(Zm z1 1).kids.map (rdK ZA)) (fun s=> (((Zm z1 1).kids.length:Int) - s.1).toNat) (0,[]) rfl ⟨⟨⟨V3,V3⟩,rfl⟩,rfl⟩ ?_
   rintro ⟨j,q⟩ ⟨⟨⟨j0,j1⟩,lj⟩,hq⟩
   dsimp only at j0 j1 lj hq
   refine Zwb N z1 l j q _ _ ?_
   intro u e1 y2 e2 y3 e3 y4 e4 y5 e5
   subst e1 e3
   simp only [wA0,kA0,kA1,show Int.toNat 0=0 from rfl,show Int.toNat 8=8 from rfl,show Int.toNat 32=32 from rfl] at e2 e4 ⊢
   subst e4 e5
   (simp only [iB,vcT,vcS])
   refine ⟨fun hj=> ?_,fun hj=> ?_⟩
   .have d:y3∈(Zm u 1).kids:=by rw [e2];exact Zb V0 _
    have gx:=Z0M g1 d
    have lt:=Z3g (j:=0) d
    have st:=Z9e j0 hj Tree.nil hq
    rw [<-e2] at st
    exact ⟨⟨j0,hj⟩,trivial,aa 0 32 gx V2 V2,trivial,⟨V3,Y5 gx 0⟩,by simp only [Zfx];omega,by rw [List.length_singleton];omega,V4,(j+1,q++[rdK ZA y3]),rfl,⟨⟨⟨V3,V3⟩,by rw [List.length_append,List.length_singleton];dsimp only;omega⟩,st⟩,V3⟩
   .have hq:=Z9f hj hq
    exact fin (X:= .mk (Zn (Zo u 0) 0 8) Tree.nil Tree.nil l q (Zn (Zo u 0) 8 8) []) (by rw [eT,hl,hq]) V1
 .unfold Jc at eT
  rw [if_pos hk,if_neg c1,if_neg c1,if_neg c2,if_neg c2,if_pos c3] at eT
  refine Z4 (ι:=Int × List Op) (fun s=> Z9s u s.1 s.2) (fun s=> ((0<=s.1/\s.1<=(Zm u 0).kids.length)/\(s.2.length:Int)=s.1)/\s.2++((Zm u 0).kids.drop s.1.toNat).map (rdO ZA)=(Zm u 0).kids.map (rdO ZA)) (fun s=> (((Zm u 0).kids.length:Int) - s.1).toNat) (0,[]) rfl ⟨⟨⟨V3,V3⟩,rfl⟩,rfl⟩ ?_
  rintro ⟨i,l⟩ ⟨⟨⟨i0,i1⟩,li⟩,hl⟩
  dsimp only at i0 i1 li hl
  refine Zwc N u i l _ _ ?_
  intro z1 e1 z2 e2 z3 e3 z4 e4
  subst e1 e3 e4
  simp only [wA0,kA0,kA1,show Int.toNat 0=0 from rfl,show Int.toNat 8=8 from rfl] at e2 ⊢
  (simp only [iB,vcT,vcS])
  refine ⟨fun hi=> ?_,fun hi=> ?_⟩
  .have d:z3∈(Zm z1 0).kids:=by rw [e2];exact Zb V0 _
   have gx:=Z0M g0 d
   have m1:=Y2 d
   have m2:=JD (Zm z1 0)
   have m3:=Yk z1 0
   have st:=Z9e i0 hi Tree.nil hl
   rw [<-e2] at st
   exact ⟨⟨i0,hi⟩,⟨V3,gx⟩,by simp only [Zgr];omega,by rw [List.length_singleton];omega,V4,(i+1,l++[rdO ZA z3]),rfl,⟨⟨⟨V3,V3⟩,by rw [List.length_append,List.length_singleton];dsimp only;omega⟩,st⟩,V3⟩
  .have hl:=Z9f hi hl
   exact fin (X:= .mk (Zn (Zo z1 0) 0 8) Tree.nil Tree.nil [] [] (Zn (Zo z1 0) 8 8) l) (by rw [eT,hl]) V1
theorem ZIK:ZB0:=by
 intro N x _ hp hN
 obtain ⟨hm,hg⟩:=hp
 simp only [Zgr] at hN
 dsimp only at hm hg
 have u:∀ (a b:Int),(a=0\/a=8\/a=32)->(b=8\/b=32\/b=40)->Z2D (Zo x 0,a,b,()):=fun a b ha hb=> ⟨Z0E hg 0,ha,hb⟩
 have fin:∀ {X:Op} {s:LSt U},rdO ZA x=X->ZF cfg Tryz.f114.ntmps Tryz.f114.results.toList (.agg (enc .op X)) [] .ret s->ZF cfg Tryz.f114.ntmps Tryz.f114.results.toList (Zhs (x,())) [] .ret s:=by
  intro X s h hs
  subst h
  exact hs
 have m0:=Yk x 0
 refine ZG7 N x _ ?_
 intro d e1 y2 e2
 subst e1
 simp only [wA0,kA0,kA1,show Int.toNat 0=0 from rfl,show Int.toNat 8=8 from rfl,show Int.toNat 40=40 from rfl] at e2 ⊢
 subst e2
 (simp only [iB,vcT,vcS])
 have ab:ZbH (Zm d 0,()):=⟨V3,Y5 hg 0⟩
 have mu:Zfx (Zm d 0,()) < N:=by simp only [Zfx];omega
 have one:Zn (Zo d 0) 0 8=1\/Zn (Zo d 0) 0 8=2->rdO ZA d=⟨Zn (Zo d 0) 0 8,Zn (Zo d 0) 8 40,(Zm d 0).kids,Edit.nil⟩:=fun h=> by unfold rdO;rw [if_pos h,JC]
 have aa:Zn (Zo d 0) 0 8=3->rdO ZA d=⟨Zn (Zo d 0) 0 8,Zn (Zo d 0) 8 40,[],ZA (Zm d 0)⟩:=fun h=> by unfold rdO;rw [JC,if_pos h]
 have none:¬Zn (Zo d 0) 0 8=1->¬Zn (Zo d 0) 0 8=2->¬Zn (Zo d 0) 0 8=3->rdO ZA d=⟨Zn (Zo d 0) 0 8,Zn (Zo d 0) 8 40,[],Edit.nil⟩:=fun a b c=> by unfold rdO;rw [JC,if_neg c]
 exact ⟨trivial,u 0 8 V2 V2,u 8 40 V2 V2,fun k1=> ⟨fun _=> ⟨trivial,fin (one (.inl k1)) V1⟩,fun h=> absurd k1 h⟩,fun k1=> ⟨fun k2=> ⟨trivial,fin (one (.inr k2)) V1⟩,fun k2=> ⟨fun k3=> ⟨trivial,ab,mu,fin (aa k3) V1⟩,fun k3=> fin (none k1 k2 k3) V1⟩⟩⟩
theorem ZyT:Contract Tryz.prog cfg 79 Zd9/\Contract Tryz.prog cfg 114 Znc:=ZlF ZDB c81 c45 b79 ZIK
noncomputable section
def Zm9(N:Nat):List (FuncId × Fs U):=(43,fs Zvc (fun a=> [Z7a a,ZjW a < N]) ZnD) ::[(77,Zdb)]
def Zyk:Zg U:=lvk [([1,2],[1,2]),([1,2,3],[1,2,3]),([1,2,3,4,5],[1,2,3]),([1,2,3,4,5,22],[1,2,3]),([1,2,3,(4,[.own .tree]),9],[1,2,3]),([1,2,3,4,9,27],[1,2,3]),([1,2,3,(4,[.own .tree]),9],[1,2,3]),([1,2,3,4,9,10],[1,2,3,10]),([1,2,3,4,9,10,11],[1,2,3,10,11]),([1,2,3,4,9,10,11,46],[1,2,3,10,11]),([1,2,3,4,9,10,11,54],[1,2,3,10,((.loc 11),[.any,.any,.own .tree])]),([1,2,3,4,9,10,11,54],[1,2,3,10,((.loc 11),[.any,.any,.own .tree])]),([1,2,3,4,9,10,11,54],[1,2,3,10,((.loc 11),[.any,.any,.own .tree])]),([1,2,3,4,9],[1,2,3]),([2,3],[2,3]),([1,2,3,4,5,22,70],[1,2,3]),([2],[2]),([1,2,3,4,5,22,73],[1,2,3]),([2,3],[2,3]),([1,2,3,4,5,81],[1,2,3]),([1,2,3,(4,[.own .tree]),5,6],[1,2,3]),([1,2,3,4,5,6,87],[1,2,3]),([1,2,3,(4,[.own .tree]),5,6],[1,2,3]),([1,2,3,4,5,6,7],[1,2,3,7]),([1,2,3,4,5,6],[1,2,3]),([1,2,3,4,(5,[.own .tree]),8],[1,2,3]),([1,2,3,4,5,8,116],[1,2,3]),([1,2,3,4,(5,[.own .tree]),8],[1,2,3]),([1,2,3,4,5,8],[1,2,3]),([2,3],[2,3]),([2],[2])]
def Z5H(e:Edit)(d:List Tree):LSt U:=(L2 [pL 2,pL 3] [(.loc 2,[ci 0,.nils,.nils]),(.loc 3,[ci 1,sU .u64 ([IntKind.wrap .u64 ((e.kind:Int)+((256:Int)*e.list))]) .full,sU .tree d .full])])
def Z9O(e:Edit)(h:Int)(d:List Tree):LSt U:=(L2 [pL 1,pL 2,pL 3,(4,.c (sU .tree d (.own (.e 4 0)))),(5,.c (.nils)),pI 6 h] [(.loc 1,(enc .edit e)),(.loc 2,[ci 0,.nils,.nils]),(.loc 3,[ci 1,sU .u64 ([IntKind.wrap .u64 ((e.kind:Int)+((256:Int)*e.list))]) .full,.nils])])
def Z9N(e:Edit)(d:Int)(h:List Tree):LSt U:=(L2 [pL 1,pL 2,pL 3,(4,.c (sU .tree h (.own (.e 4 0)))),pI 9 d] [(.loc 1,(enc .edit e)),(.loc 2,[ci 0,.nils,.nils]),(.loc 3,[ci 1,sU .u64 ([IntKind.wrap .u64 ((e.kind:Int)+((256:Int)*e.list))]) .full,.nils])])
def Z9M(e:Edit)(d:List Tree)(h:Int)(s:List Tree):LSt U:=(L2 [pL 1,pL 2,pL 3,(4,.c (sU .tree d (.own (.e 4 0)))),(5,.c (sU .tree s (.own (.e 5 0)))),pI 8 h] [(.loc 1,(enc .edit e)),(.loc 2,[ci 0,.nils,.nils]),(.loc 3,[ci 1,sU .u64 ([IntKind.wrap .u64 ((e.kind:Int)+((256:Int)*e.list))]) .full,.nils])])
def Z9L(e:Edit)(d:Int)(u h:List Tree)(s:V U):LSt U:=(L2 [pL 1,pL 2,pL 3,(4,.c (sU .tree u (.own (.e 4 0)))),pI 9 d,pL 10,pL 11,(54,s)] [(.loc 1,(enc .edit e)),(.loc 2,[ci 0,.nils,.nils]),(.loc 3,[ci 1,sU .u64 ([IntKind.wrap .u64 ((e.kind:Int)+((256:Int)*e.list))]) .full,.nils]),(.loc 10,(enc .op (e.ops.getD d.toNat Op.nil))),(.loc 11,[ci 1,sU .u64 ([IntKind.wrap .u64 (((OpOf.kind (e.ops.getD d.toNat Op.nil)):Int)+((256:Int)*(OpOf.n (e.ops.getD d.toNat Op.nil))))]) .full,sU .tree h (.own (.l 11 2))])])
def Zkp(e:Edit)(h:Int)(s d:List Tree):LSt U:=(L2 [pL 1,pL 2,pL 3,(4,.c (sU .tree (s++([(Tree.mk 1 ([IntKind.wrap .u64 (((OpOf.kind (e.ops.getD h.toNat Op.nil)):Int)+((256:Int)*(OpOf.n (e.ops.getD h.toNat Op.nil))))]) d)])) (.own (.e 4 0)))),pI 9 h] [(.loc 1,(enc .edit e)),(.loc 2,[ci 0,.nils,.nils]),(.loc 3,[ci 1,sU .u64 ([IntKind.wrap .u64 ((e.kind:Int)+((256:Int)*e.list))]) .full,.nils])])
abbrev A43(N:Nat)(p:List Nat):=AW (Z2 (Zm9 N)) Tryz.f43 Zyk p
abbrev S43(N:Nat)(p:List Nat):=SW (Z2 (Zm9 N)) Tryz.f43 Zyk p
theorem ZIa(N:Nat)(e:Edit)(Q:QT)(h:((InR ((256:Int)*e.list))/\(InR (e.kind+((256:Int)*e.list)))/\(iB (e.kind==0) ((Q .ret (L2 [pL 2] [(.loc 2,[ci 0,.nils,.nils])]))) ((iB (e.kind==1) ((A43 N [1,1,1,1] (Z5H e ([(Tree.mk e.old.kind e.old.words e.old.kids),(Tree.mk e.new.kind e.new.words e.new.kids)])) Q)) ((iB (e.kind==2) ((Zl (A43 N [1,1,1,0,1,0,1,1,1,1,1,0,0,1,0,0]) (Z9O e 0 []) (xB 3 (S43 N [1,1,1,0,1,0,1,1,1,1,1,0,1] (xB 0 (S43 N [1,1,1,1] Q)))))) ((Zl (A43 N [1,1,1,0,1,0,1,1,1,1,1,1,0,1,0,0]) (Z9N e 0 []) (xB 1 (S43 N [1,1,1,0,1,0,1,1,1,1,1,1,1] (xB 0 (S43 N [1,1,1,1] Q))))))))))))):
  A43 N [] (L2 [(0,.agg (enc .edit e))] []) Q:=
 (Eq.mpr V5 h:)
theorem ZwH(N:Nat)(e:Edit)(d:List Tree)(Q:QT)(h:(Q .ret (L2 [pL 2] [(.loc 2,[ci 1,sU .u64 ([IntKind.wrap .u64 (e.kind+((256:Int)*e.list))]) .full,sU .tree d .full])]))):
  A43 N [1,1,1,1] (Z5H e d) Q:=
 (Eq.mpr V5 h:)
theorem ZwG(N:Nat)(e:Edit)(d:Int)(s:List Tree)(N1:NT)(Q:QT)(h:let z1:=e.words.getD d.toNat (WEdit.mk 0 0 0 0);let z0:=Tree.mk 1 ([IntKind.wrap .u64 (((IntKind.wrap .u64 (WEdit.at_ z1)):Int)+(IntKind.wrap .u64 ((4294967296:Int)*(IntKind.wrap .u64 (WEdit.mask z1))))),WEdit.old z1,WEdit.new z1]) [];(iB (decide (d < (e.words.length:Int))) (((0:Int)<=d/\d < (e.words.length:Int))/\(((s.length+([z0]).length)*56<=140737488355328)/\((InR (d+1))/\(N1 (Z9O e (d+1) (s++([z0]))))))) ((Zl (A43 N [1,1,1,0,1,0,1,1,1,1,1,0,1,0,1,0,0]) (Z9M e s 0 []) (xB 5 (S43 N [1,1,1,0,1,0,1,1,1,1,1,0,1,1] (xB 0 (S43 N [1,1,1,1] Q)))))))):
  A43 N [1,1,1,0,1,0,1,1,1,1,1,0,0,1,0,0] (Z9O e d s) (xT N1 (xB 3 (S43 N [1,1,1,0,1,0,1,1,1,1,1,0,1] (xB 0 (S43 N [1,1,1,1] Q))))):=
 (Eq.mpr V5 h:)
theorem ZwF(N:Nat)(e:Edit)(d:Int)(s:List Tree)(N2:NT)(Q:QT)(h:∀ ab,ab=(JM s)->∀ u,u=(e.ops.getD d.toNat Op.nil)->∀ aa,aa=(u.e)->∀ ae,ae=(ZT aa)->let z1:=decide ((0:Int) < u.kind);let z0:=xB 2 (S43 N [1,1,1,0,1,0,1,1,1,1,1,1,0,1,0,0,1,1] (xT N2 (xB 1 (S43 N [1,1,1,0,1,0,1,1,1,1,1,1,1] (xB 0 (S43 N [1,1,1,1] Q))))));(iB (decide (d < (e.ops.length:Int))) (((0:Int)<=d/\d < (e.ops.length:Int))/\((InR ((256:Int)*u.n))/\(InR (u.kind+((256:Int)*u.n)))/\(iB (u.kind==3) ((Z7a (aa,()))/\(ZjW (aa,()) < N)/\(A43 N [1,1,1,0,1,0,1,1,1,1,1,1,0,1,0,0,1,0,0,1,1,1] (Z9L e d s ([ae]) .junk) z0)) ((iB z1 ((A43 N [1,1,1,0,1,0,1,1,1,1,1,1,0,1,0,0,1,0,0,1,1,1] (Z9L e d s ([(Tree.mk e.list [] u.l)]) (.c (.bool z1))) z0)) (A43 N [1,1,1,0,1,0,1,1,1,1,1,1,0,1,0,0,1,0,0,1,1,1] (Z9L e d s [] (.c (.bool z1))) z0)))))) ((Zjr (s,()))/\(A43 N [1,1,1,1] (Z5H e ([ab])) Q)))):
  A43 N [1,1,1,0,1,0,1,1,1,1,1,1,0,1,0,0] (Z9N e d s) (xT N2 (xB 1 (S43 N [1,1,1,0,1,0,1,1,1,1,1,1,1] (xB 0 (S43 N [1,1,1,1] Q))))):=
 (Eq.mpr V5 (h _ (Z0 _) _ rfl _ (Z8 _) _ (Z0 _)):)
theorem ZwE(N:Nat)(e:Edit)(u:List Tree)(d:Int)(s:List Tree)(N3:NT)(Q:QT)(h:∀ ah,ah=(JM u)->∀ af,af=(JM s)->∀ ab,ab=(e.kids.getD d.toNat (KidOf.mk 0 Edit.nil))->∀ aa,aa=(ab.e)->∀ ae,ae=(ZT aa)->let z0:=Tree.mk 1 ([IntKind.wrap .u64 ab.at_]) ([ae]);(iB (decide (d < (e.kids.length:Int))) (((0:Int)<=d/\d < (e.kids.length:Int))/\((0:Int)<=d/\d < (e.kids.length:Int))/\(Z7a (aa,()))/\(ZjW (aa,()) < N)/\((s.length+([z0]).length)*56<=140737488355328)/\((InR (d+1))/\(N3 (Z9M e u (d+1) (s++([z0])))))) ((Zjr (u,()))/\(Zjr (s,()))/\(A43 N [1,1,1,1] (Z5H e ([ah,af])) Q)))):
  A43 N [1,1,1,0,1,0,1,1,1,1,1,0,1,0,1,0,0] (Z9M e u d s) (xT N3 (xB 5 (S43 N [1,1,1,0,1,0,1,1,1,1,1,0,1,1] (xB 0 (S43 N [1,1,1,1] Q))))):=
 (Eq.mpr V5 (h _ (Z0 _) _ (Z0 _) _ rfl _ (Z8 _) _ (Z0 _)):)
theorem Zh1(N:Nat)(e:Edit)(s:Int)(u d:List Tree)(aa:V U)(N2:NT)(Q:QT)(h:let z0:=e.ops.getD s.toNat Op.nil;((u.length+([(Tree.mk 1 ([IntKind.wrap .u64 (((OpOf.kind z0):Int)+((256:Int)*(OpOf.n z0)))]) d)]).length)*56<=140737488355328)/\(A43 N [1,1,1,0,1,0,1,1,1,1,1,1,0,1,0,0,1,1] (Zkp e s u d) (xT N2 (xB 1 (S43 N [1,1,1,0,1,0,1,1,1,1,1,1,1] (xB 0 (S43 N [1,1,1,1] Q))))))):
  A43 N [1,1,1,0,1,0,1,1,1,1,1,1,0,1,0,0,1,0,0,1,1,1] (Z9L e s u d aa) (xB 2 (S43 N [1,1,1,0,1,0,1,1,1,1,1,1,0,1,0,0,1,1] (xT N2 (xB 1 (S43 N [1,1,1,0,1,0,1,1,1,1,1,1,1] (xB 0 (S43 N [1,1,1,1] Q))))))):=
 (Eq.mpr V5 h:)
theorem Zh0(N:Nat)(e:Edit)(s:Int)(u d:List Tree)(N2:NT)(Q:QT)(h:let z0:=e.ops.getD s.toNat Op.nil;(InR (s+1))/\(N2 (Z9N e (s+1) (u++([(Tree.mk 1 ([IntKind.wrap .u64 (((OpOf.kind z0):Int)+((256:Int)*(OpOf.n z0)))]) d)]))))):
  A43 N [1,1,1,0,1,0,1,1,1,1,1,1,0,1,0,0,1,1] (Zkp e s u d) (xT N2 (xB 1 (S43 N [1,1,1,0,1,0,1,1,1,1,1,1,1] (xB 0 (S43 N [1,1,1,1] Q))))):=
 (Eq.mpr V5 h:)
abbrev ZEU(N:Nat)(e:Edit):Prop:=AW (Z2 (Zm9 N)) Tryz.f43 Zyk [] (Zi (Zvc.can (e,())) []) (EQ Tryz.f43 (ZnD (e,())) [])
theorem ZC7(c77:CT 77 Zdb)(hb:∀ (N:Nat) (e:Edit) (_:Unit),Z7a (e,())->ZjW (e,()) < N+1->ZEU N e):CT 43 Z50:=
 Y8 (μ:=ZjW) (l:=[(77,Zdb)]) Zk rfl (⟨c77,trivial⟩) Zyk Tryz.func43 rfl rfl 1 (fun _=> rfl) V2 (fun N ⟨e,_⟩=> hb N e ())
end
theorem Zd1{a n:Int}(ha:0<=a):Int.tmod a n=a % n:=by rw [XA ha]
theorem ZkW{a n:Int}(ha:0<=a):Int.tdiv a n=a / n:=by rw [Xn ha]
theorem ZjE{w:Int}(h0:0<=w)(h1:w < 18446744073709551616):IntKind.wrap .i64 (Int.tmod w 256)=Zn w 0 8:=by
 rw [Zd1 h0,ZcQ V0 V0]
 unfold Zn;omega
theorem Zt2{w:Int}(h0:0<=w)(h1:w < 18446744073709551616):IntKind.wrap .i64 (Int.tmod (IntKind.wrap .u64 (Int.tdiv w 256)) 256)=Zn w 8 8:=by
 rw [ZkW h0,Z17 (n:=w / 256) V0 V0,Zd1 V0,ZcQ V0 V0]
 unfold Zn;omega
theorem Zgk{w:Int}(h0:0<=w)(h1:w < 18446744073709551616):IntKind.wrap .i64 (Int.tmod w 4294967296)=Zn w 0 32:=by
 rw [Zd1 h0,ZcQ V0 V0]
 unfold Zn;omega
theorem Zq9{w:Int}(h0:0<=w)(h1:w < 18446744073709551616):IntKind.wrap .u8 (Int.tmod (IntKind.wrap .u64 (Int.tdiv w 4294967296)) 256)=Zn w 32 8:=by
 rw [ZkW h0,Z17 (n:=w / 4294967296) V0 V0,Zd1 V0,Zrj V0 V0]
 unfold Zn;omega
theorem Zq8{w:Int}(h0:0<=w)(h1:w < 18446744073709551616):IntKind.wrap .i64 (Int.tmod (IntKind.wrap .u64 (Int.tdiv w 256)) 1099511627776)=Zn w 8 40:=by
 rw [ZkW h0,Z17 (n:=w / 256) V0 V0,Zd1 V0,ZcQ V0 V0]
 unfold Zn;omega
theorem Zrk{w:WEdit}(a:0<=w.at_)(b:w.at_<=65534)(c:0<=w.mask)(d:w.mask < 256):IntKind.wrap .u64 (IntKind.wrap .u64 w.at_+IntKind.wrap .u64 (4294967296*IntKind.wrap .u64 w.mask))=w.at_+w.mask*2 ^ 32:=by
 rw [Z17 a V0,Z17 c V0,Z17 (n:=4294967296*w.mask) V0 V0,Z17 V0 V0]
 omega
theorem c43:Contract Tryz.prog cfg 43 Z50:=by
 refine ZC7 c77 ?_
 intro N e _ hp hN
 obtain ⟨⟨hm,hg⟩,d,hr⟩:=hp
 simp only [ZjW] at hN
 dsimp only at hm hg hr
 have R:=ZH hr
 have G:=YD hg
 have eT:=Z4V e
 have m:Zd e=1+Zh e.old+Zh e.new+e.words.length+e.ops.length+Zp e.kids+Zj e.ops:=by cases e;rfl
 have hw:e.words.length<=100000000:=V0
 have hk:e.kids.length<=100000000:=by have:=ZW e.kids;omega
 have ho:e.ops.length<=100000000:=V0
 have kr:=R.kind
 have hl:(0<=e.list/\e.list<=9)/\(¬e.kind=3->e.list=0):=by
  by_cases k3:e.kind=3
  .have:=R.list k3;exact ⟨⟨V0,V0⟩,fun h=> absurd k3 h⟩
  .have:=(R.ops0 k3).1;exact ⟨⟨V0,V0⟩,fun _=> this⟩
 obtain ⟨⟨ba,bc⟩,ak⟩:=hl
 have wl:IntKind.wrap .u64 (e.kind+256*e.list)=e.kind+e.list*2 ^ 8:=by rw [Z17 V0 V0];omega
 have fin:∀ {X:Tree} {s:LSt U},ZT e=X->ZF cfg Tryz.f43.ntmps Tryz.f43.results.toList (.agg (enc .tree X)) [] .ret s->ZF cfg Tryz.f43.ntmps Tryz.f43.results.toList (ZnD (e,())) [] .ret s:=by
  intro X s h hs
  subst h
  exact hs
 have ab:∀ l:List Tree,ZT e= .mk 1 [e.kind+e.list*2 ^ 8] l->A43 N [1,1,1,1] (Z5H e l) (ZF cfg Tryz.f43.ntmps Tryz.f43.results.toList (ZnD (e,())) []):=by
  intro l h
  refine ZwH N e l _ ?_
  rw [wl]
  exact fin h V1
 refine ZIa N e _ ?_
 (simp only [iB,vcT,vcS])
 refine ⟨V4,V4,fun k0=> fin (X:=Tree.nil) (by rw [eT,JC,JC,JC]) V1,fun k0=> ⟨fun k1=> ab _ (by have:=ak V0;rw [eT,if_pos k1,show e.kind+e.list*2 ^ 8=1 by omega,Tree.eta,Tree.eta]),fun k1=> ⟨fun k2=> ?_,fun k2=> ?_⟩⟩⟩
 .have two:e.kind+e.list*2 ^ 8=2:=by have:=ak V0;omega
  rw [if_neg k1,if_pos k2] at eT
  refine Z4 (ι:=Int × List Tree) (fun s=> Z9O e s.1 s.2) (fun s=> ((0<=s.1/\s.1<=e.words.length)/\(s.2.length:Int)=s.1)/\s.2++(e.words.drop s.1.toNat).map Z1s=e.words.map Z1s) (fun s=> ((e.words.length:Int) - s.1).toNat) (0,[]) rfl ⟨⟨⟨V3,V3⟩,rfl⟩,rfl⟩ ?_
  rintro ⟨i,l⟩ ⟨⟨⟨i0,i1⟩,li⟩,hl⟩
  dsimp only at i0 i1 li hl
  refine ZwG N e i l _ _ ?_
  (simp only [iB,vcT,vcS])
  refine ⟨fun hi=> ?_,fun hi=> ?_⟩
  .have st:=Z9e i0 hi ⟨0,0,0,0⟩ hl
   have u:e.words.getD i.toNat ⟨0,0,0,0⟩∈e.words:=Zb V0 _
   generalize List.getD e.words i.toNat ⟨0,0,0,0⟩=w at*
   have A:=Yw R.words w u
   have B:=G.2.2.1 w u
   rw [Zrk V0 A.2.1 B.2.1.1 B.2.1.2]
   exact ⟨⟨i0,hi⟩,by rw [Q8];omega,V4,(i+1,l++[Z1s w]),rfl,⟨⟨⟨V3,V3⟩,by rw [List.length_append,List.length_singleton];dsimp only;omega⟩,st⟩,V3⟩
  .have hl:=Z9f hi hl
   refine Z4 (ι:=Int × List Tree) (fun s=> Z9M e l s.1 s.2) (fun s=> ((0<=s.1/\s.1<=e.kids.length)/\(s.2.length:Int)=s.1)/\s.2++(e.kids.drop s.1.toNat).map (fun k=> Tree.mk 1 [k.at_] [ZT k.e])=e.kids.map fun k=> Tree.mk 1 [k.at_] [ZT k.e]) (fun s=> ((e.kids.length:Int) - s.1).toNat) (0,[]) rfl ⟨⟨⟨V3,V3⟩,rfl⟩,rfl⟩ ?_
   rintro ⟨j,q⟩ ⟨⟨⟨j0,j1⟩,lj⟩,hq⟩
   dsimp only at j0 j1 lj hq
   refine ZwE N e l j q _ _ ?_
   intro y1 e1 y2 e2 y3 e3 y4 e4 y5 e5
   (simp only [iB,vcT,vcS])
   refine ⟨fun hj=> ?_,fun hj=> ?_⟩
   .have u:y3∈e.kids:=by rw [e3];exact Zb V0 _
    have A:=ZP R.kids y3 u
    have B:=Yq G.2.2.2.1 u
    have mk:=Jz u
    subst e4 e5
    rw [Z17 (n:=y3.at_) V0 V0]
    have st:=Z9e j0 hj (KidOf.mk 0 Edit.nil) hq
    rw [<-e3] at st
    exact ⟨⟨j0,hj⟩,⟨j0,hj⟩,⟨⟨V3,B.2⟩,_,A.2⟩,by simp only [ZjW];omega,by rw [List.length_singleton];omega,V4,(j+1,q++[Tree.mk 1 [y3.at_] [ZT y3.e]]),rfl,⟨⟨⟨V3,V3⟩,by rw [List.length_append,List.length_singleton];dsimp only;omega⟩,st⟩,V3⟩
   .have hq:=Z9f hj hq
    exact ⟨trivial,trivial,ab _ (by rw [eT,two,e1,e2,hl,hq,Z2p])⟩
 .have k3:e.kind=3:=V0
  rw [if_neg k1,if_neg k2,if_pos k3] at eT
  obtain ⟨be,bd⟩:=R.list k3
  refine Z4 (ι:=Int × List Tree) (fun s=> Z9N e s.1 s.2) (fun s=> ((0<=s.1/\s.1<=e.ops.length)/\(s.2.length:Int)=s.1)/\s.2++(e.ops.drop s.1.toNat).map (YW e.list)=e.ops.map (YW e.list)) (fun s=> ((e.ops.length:Int) - s.1).toNat) (0,[]) rfl ⟨⟨⟨V3,V3⟩,rfl⟩,rfl⟩ ?_
  rintro ⟨i,l⟩ ⟨⟨⟨i0,i1⟩,li⟩,hl⟩
  dsimp only at i0 i1 li hl
  refine ZwF N e i l _ _ ?_
  intro y1 e1 y2 e2 y3 e3 y4 e4
  subst e3 e4
  (simp only [iB,vcT,vcS])
  refine ⟨fun hi=> ?_,fun hi=> ?_⟩
  .have u:y2∈e.ops:=by rw [e2];exact Zb V0 _
   have B:=J0 G.2.2.2.2 u
   have mo:=Z0S u
   have st:=Z9e i0 hi Op.nil hl
   rw [<-e2] at st
   have eO:=Z3D e.list y2
   have ax:((0<=y2.kind/\y2.kind<=3)/\0<=y2.n/\y2.n<=1048576)/\(y2.kind=3->∃ d,Z6 y2.e d=true):=by
    cases ZJ (rightOs_mem R.ops u) with
    | keep nn a1 a2=> exact ⟨⟨⟨V3,V3⟩,V3,V3⟩,fun h=> by cases h⟩
    | gone ll a1 a2=> exact ⟨⟨⟨V3,V3⟩,V3,V3⟩,fun h=> by cases h⟩
    | come ll a1 a2=> exact ⟨⟨⟨V3,V3⟩,V3,V3⟩,fun h=> by cases h⟩
    | into e2 a1 a2 a3 a4=> exact ⟨⟨⟨V3,V3⟩,V3,V3⟩,fun _=> ⟨_,a1⟩⟩
   obtain ⟨⟨⟨q0,q1⟩,n0,n1⟩,he⟩:=ax
   have wn:IntKind.wrap .u64 (y2.kind+256*y2.n)=y2.kind+y2.n*2 ^ 8:=by rw [Z17 V0 V0];omega
   refine ⟨⟨i0,hi⟩,V4,V4,fun k=> ⟨⟨⟨V3,(J4 B).2.2.2⟩,he k⟩,by simp only [ZjW];omega,?_⟩,fun k=> ⟨fun kp=> ?_,fun kp=> ?_⟩⟩
   .refine Zh1 _ _ _ _ _ _ _ _ ?_
    refine ⟨by rw [Q8];omega,Zh0 _ _ _ _ _ _ _ ?_⟩
    rw [<-e2];simp only [wn];rw [show Tree.mk 1 [y2.kind+y2.n*2 ^ 8] [ZT y2.e]=YW e.list y2 by rw [eO,JC,if_pos k]]
    exact ⟨V4,(i+1,l++[YW e.list y2]),rfl,⟨⟨⟨V3,V3⟩,by rw [List.length_append,List.length_singleton];dsimp only;omega⟩,st⟩,V3⟩
   .refine Zh1 _ _ _ _ _ _ _ _ ?_
    refine ⟨by rw [Q8];omega,Zh0 _ _ _ _ _ _ _ ?_⟩
    rw [<-e2];simp only [wn];rw [show Tree.mk 1 [y2.kind+y2.n*2 ^ 8] [Tree.mk e.list [] y2.l]=YW e.list y2 by rw [eO,YC]]
    exact ⟨V4,(i+1,l++[YW e.list y2]),rfl,⟨⟨⟨V3,V3⟩,by rw [List.length_append,List.length_singleton];dsimp only;omega⟩,st⟩,V3⟩
   .refine Zh1 _ _ _ _ _ _ _ _ ?_
    refine ⟨by rw [Q8];omega,Zh0 _ _ _ _ _ _ _ ?_⟩
    rw [<-e2];simp only [wn];rw [show Tree.mk 1 [y2.kind+y2.n*2 ^ 8] []=YW e.list y2 by rw [eO,JC,if_neg k]]
    exact ⟨V4,(i+1,l++[YW e.list y2]),rfl,⟨⟨⟨V3,V3⟩,by rw [List.length_append,List.length_singleton];dsimp only;omega⟩,st⟩,V3⟩
  .have hl:=Z9f hi hl
   exact ⟨trivial,ab _ (by rw [eT,e1,hl,Z2o,k3])⟩
noncomputable section
def ZlY(N:Nat):List (FuncId × Fs U):=(82,fs ZvE (fun a=> [ZbH a,Zqn a < N]) Znu) ::[(115,Z8t),(116,Z8s)]
def Zy8:Zg U:=lvk [([1,2],[1,2]),([1,2,16],[1,2]),([2],[2]),([1,2,3],[1,2]),([1,2,4],[1,2,4]),([2,4,5,6],[2,4,5,6]),([2,4,5,6,34],[2,4,5,6]),([2,4,5,6],[2,4,5,6]),([2,4,5,6],[2,4,5,6]),([2,4,5,6,7],[2,((.loc 4),[.any,.any,.unk .u64,.unk .tree,.any,.unk .u64,.unk .tree,.own .wedit]),5,6]),([2,4,5,6,7,48],[2,4,5,6]),([2,4,5,6,7],[2,((.loc 4),(an 7 [.own .wedit])),5,6]),([2,4,5,6,7,8],[2,4,5,6,8]),([2,4,5,6,7],[2,4,5,6]),([2,4,5,6,9],[2,((.loc 4),(an 8 [.own .kid])),5,6]),([2,4,5,6,9,84],[2,4,5,6]),([2,4,5,6,9],[2,((.loc 4),(an 8 [.own .kid])),5,6]),([2,4,5,6,9,10],[2,4,5,6,10]),([2,4,5,6,9],[2,4,5,6]),([2,4,5,11],[2,((.loc 4),(an 10 [.own .op])),5]),([2,4,5,11,114],[2,4,5]),([2,4,5,11],[2,((.loc 4),(an 10 [.own .op])),5]),([2,4,5,11,12],[2,4,5,12]),([2,4,5,11,12,13],[2,4,5,12,13]),([2,4,5,11,12,13,134],[2,4,5,12,13]),([2,4,5,11,13],[2,4,5,13]),([2,4,5,11,12,13,146],[2,4,5,12,13]),([2,4,5,11,13],[2,4,5,13]),([2,4,5,11],[2,4,5]),([2],[2])]
def Zko(t:Tree):LSt U:=(L2 [pL 1,pL 2,pL 4] [(.loc 1,(enc .tree t)),(.loc 2,zc1),(.loc 4,[ci (IntKind.wrap .i64 (Int.tmod (Zo (Tree.mk t.kind t.words t.kids) (Int.toNat 0)) 256)),ci 0,.nils,.nils,ci 0,.nils,.nils,.nils,.nils,ci (IntKind.wrap .i64 (Int.tmod (IntKind.wrap .u64 (Int.tdiv (Zo (Tree.mk t.kind t.words t.kids) (Int.toNat 0)) 256)) 256)),.nils])])
def Zkn(t:Tree):LSt U:=(L2 [pL 2,pL 4,pL 5,pL 6] [(.loc 2,zc1),(.loc 4,[ci (IntKind.wrap .i64 (Int.tmod (Zo (Tree.mk t.kind t.words t.kids) (Int.toNat 0)) 256)),ci 0,.nils,.nils,ci 0,.nils,.nils,.nils,.nils,ci (IntKind.wrap .i64 (Int.tmod (IntKind.wrap .u64 (Int.tdiv (Zo (Tree.mk t.kind t.words t.kids) (Int.toNat 0)) 256)) 256)),.nils]),(.loc 5,(enc .tree (Zm (Tree.mk t.kind t.words t.kids) (Int.toNat 0)))),(.loc 6,(enc .tree (Zm (Tree.mk t.kind t.words t.kids) (Int.toNat 1))))])
def Z43(t:Tree)(s ab af:Int)(d:List Int)(aa:List Tree)(ae:List Int)(u:List Tree)(h:List WEdit):LSt U:=(L2 [pL 2,pL 4,pL 5,pL 6,pI 7 af] [(.loc 2,zc1),(.loc 4,[ci (IntKind.wrap .i64 (Int.tmod (Zo (Tree.mk t.kind t.words t.kids) (Int.toNat 0)) 256)),ci s,sU .u64 d .unk,sU .tree aa .unk,ci ab,sU .u64 ae .unk,sU .tree u .unk,sU .wedit h (.own (.l 4 7)),.nils,ci (IntKind.wrap .i64 (Int.tmod (IntKind.wrap .u64 (Int.tdiv (Zo (Tree.mk t.kind t.words t.kids) (Int.toNat 0)) 256)) 256)),.nils]),(.loc 5,(enc .tree (Zm (Tree.mk t.kind t.words t.kids) (Int.toNat 0)))),(.loc 6,(enc .tree (Zm (Tree.mk t.kind t.words t.kids) (Int.toNat 1))))])
def Z9p(t:Tree)(s ae:Int)(d:List Int)(ab:List Tree)(af:List Int)(aa:List Tree)(h:List WEdit)(ah:Int)(u:List Kid):LSt U:=(L2 [pL 2,pL 4,pL 5,pL 6,pI 9 ah] [(.loc 2,zc1),(.loc 4,[ci (IntKind.wrap .i64 (Int.tmod (Zo (Tree.mk t.kind t.words t.kids) (Int.toNat 0)) 256)),ci s,sU .u64 d .unk,sU .tree ab .unk,ci ae,sU .u64 af .unk,sU .tree aa .unk,sU .wedit h (.own (.l 4 7)),sU .kid u (.own (.l 4 8)),ci (IntKind.wrap .i64 (Int.tmod (IntKind.wrap .u64 (Int.tdiv (Zo (Tree.mk t.kind t.words t.kids) (Int.toNat 0)) 256)) 256)),.nils]),(.loc 5,(enc .tree (Zm (Tree.mk t.kind t.words t.kids) (Int.toNat 0)))),(.loc 6,(enc .tree (Zm (Tree.mk t.kind t.words t.kids) (Int.toNat 1))))])
def Z1C(t:Tree)(u af:Int)(h:List Int)(ae:List Tree)(ah:List Int)(ab:List Tree)(s:List WEdit)(aa:List Kid)(ai:Int)(d:List Op):LSt U:=(L2 [pL 2,pL 4,pL 5,pI 11 ai] [(.loc 2,zc1),(.loc 4,[ci (IntKind.wrap .i64 (Int.tmod (Zo (Tree.mk t.kind t.words t.kids) (Int.toNat 0)) 256)),ci u,sU .u64 h .unk,sU .tree ae .unk,ci af,sU .u64 ah .unk,sU .tree ab .unk,sU .wedit s (.own (.l 4 7)),sU .kid aa (.own (.l 4 8)),ci (IntKind.wrap .i64 (Int.tmod (IntKind.wrap .u64 (Int.tdiv (Zo (Tree.mk t.kind t.words t.kids) (Int.toNat 0)) 256)) 256)),sU .op d (.own (.l 4 10))]),(.loc 5,(enc .tree (Zm (Tree.mk t.kind t.words t.kids) (Int.toNat 0))))])
abbrev A82(N:Nat)(p:List Nat):=AW (Z2 (ZlY N)) Tryz.f82 Zy8 p
abbrev S82(N:Nat)(p:List Nat):=SW (Z2 (ZlY N)) Tryz.f82 Zy8 p
theorem ZHE(N:Nat)(t:Tree)(Q:QT)(h:(iB (t.kind !=1) ((Q .ret (L2 [pL 2] [(.loc 2,zc1)]))) ((Zei ((Tree.mk t.kind t.words t.kids),0,()))/\(((256:Int)≠0)/\((256:Int)≠0)/\((256:Int)≠0)/\(A82 N [1,1,1,1] (Zko t) Q))))):
  A82 N [] (L2 [(0,.agg (enc .tree t))] []) Q:=
 (Eq.mpr V5 h:)
theorem Zw9(N:Nat)(t:Tree)(Q:QT)(h:let z0:=Tree.mk t.kind t.words t.kids;(Zei (z0,0,()))/\(Zei (z0,1,()))/\(A82 N [1,1,1,1,1] (Zkn t) Q)):
  A82 N [1,1,1,1] (Zko t) Q:=
 (Eq.mpr V5 h:)
theorem Zw8(N:Nat)(t:Tree)(Q:QT)(h:let z4:=xB 0 (S82 N [1,1,1,1,1,1,1] Q);let z3:=A82 N [1,1,1,1,1,1,0,1,0,0];let z0:=Tree.mk t.kind t.words t.kids;let z2:=Zm z0 (Int.toNat 1);let z1:=Zm z0 (Int.toNat 0);(iB (((IntKind.wrap .i64 (Int.tmod (Zo z0 (Int.toNat 0)) 256)):Int)==1) ((Zl z3 (Z43 t (Tree.kind z1) (Tree.kind z2) 0 (Tree.words z1) (Tree.kids z1) (Tree.words z2) (Tree.kids z2) []) z4)) ((Zl z3 (Z43 t 0 0 0 [] [] [] [] []) z4)))):
  A82 N [1,1,1,1,1] (Zkn t) Q:=
 (Eq.mpr V5 h:)
theorem Zw7(N:Nat)(t:Tree)(u ae af:Int)(s:List Int)(ab:List Tree)(ah:List Int)(aa:List Tree)(d:List WEdit)(N2:NT)(Q:QT)(h:∀ aj,aj=t->∀ ak,ak=(List.getD (Tree.kids (Zm aj (Int.toNat 0))) af.toNat Tree.nil)->∀ ai,ai=ak->let z2:=Tree.kids (Zm aj (Int.toNat 0));let z1:=decide (af < (z2.length:Int));let z0:=WEdit.mk (IntKind.wrap .i64 (Int.tmod (Zo ai (Int.toNat 0)) 4294967296)) (IntKind.wrap .u8 (Int.tmod (IntKind.wrap .u64 (Int.tdiv (Zo ai (Int.toNat 0)) 4294967296)) 256)) (Zo ai (Int.toNat 1)) (Zo ai (Int.toNat 2));(Tt z1)/\(Tt z1)/\(Tt z1)/\(iB (bif z1 then (((IntKind.wrap .i64 (Int.tmod (Zo aj (Int.toNat 0)) 256)):Int)==2) else false) (((0:Int)<=af/\af < (z2.length:Int))/\((Zei (ai,0,()))/\((4294967296:Int)≠0)/\(Zei (ai,0,()))/\((4294967296:Int)≠0)/\((256:Int)≠0)/\(Zei (ai,1,()))/\(Zei (ai,2,()))/\((d.length+([z0]).length)*32<=140737488355328)/\((InR (af+1))/\(N2 (Z43 t u ae (af+1) s ab ah aa (d++([z0]))))))) ((Zl (A82 N [1,1,1,1,1,1,1,0,1,0,0]) (Z9p t u ae s ab ah aa d 0 []) (xB 2 (S82 N [1,1,1,1,1,1,1,1] Q)))))):
  A82 N [1,1,1,1,1,1,0,1,0,0] (Z43 t u ae af s ab ah aa d) (xT N2 (xB 0 (S82 N [1,1,1,1,1,1,1] Q))):=
 (Eq.mpr V5 (h _ (Z0 _) _ rfl _ (Z0 _)):)
theorem Zw6(N:Nat)(t:Tree)(aa af:Int)(s:List Int)(ae:List Tree)(ai:List Int)(ab:List Tree)(u:List WEdit)(ah:Int)(d:List Kid)(N3:NT)(Q:QT)(h:∀ al,al=t->∀ ao,ao=(List.getD (Tree.kids (Zm al (Int.toNat 1))) ah.toNat Tree.nil)->∀ aj,aj=ao->∀ ak,ak=(Zm aj (Int.toNat 0))->∀ am,am=(ZA ak)->let z2:=Tree.kids (Zm al (Int.toNat 1));let z1:=KidOf.mk (IntKind.wrap .i64 (Int.tmod (Zo aj (Int.toNat 0)) 4294967296)) am;let z0:=decide (ah < (z2.length:Int));(Tt z0)/\(Tt z0)/\(Tt z0)/\(iB (bif z0 then (((IntKind.wrap .i64 (Int.tmod (Zo al (Int.toNat 0)) 256)):Int)==2) else false) (((0:Int)<=ah/\ah < (z2.length:Int))/\((Zei (aj,0,()))/\((4294967296:Int)≠0)/\(Zei (aj,0,()))/\(ZbH (ak,()))/\(Zqn (ak,()) < N)/\((d.length+([z1]).length)*208<=140737488355328)/\((InR (ah+1))/\(N3 (Z9p t aa af s ae ai ab u (ah+1) (d++([z1]))))))) ((Zl (A82 N [1,1,1,1,1,1,1,1,0,1,0,0]) (Z1C t aa af s ae ai ab u d 0 []) (xB 4 (S82 N [1,1,1,1,1,1,1,1,1] Q)))))):
  A82 N [1,1,1,1,1,1,1,0,1,0,0] (Z9p t aa af s ae ai ab u ah d) (xT N3 (xB 2 (S82 N [1,1,1,1,1,1,1,1] Q))):=
 (Eq.mpr V5 (h _ (Z0 _) _ rfl _ (Z0 _) _ (Z0 _) _ (Z8 _)):)
theorem Zw5(N:Nat)(t:Tree)(ai ae:Int)(af:List Int)(ab:List Tree)(u:List Int)(ah:List Tree)(aa:List WEdit)(aj:List Kid)(s:Int)(d:List Op)(N4:NT)(Q:QT)(h:∀ ao,ao=t->∀ am,am=(Edit.mk 0 (Tree.mk 0 [] []) (Tree.mk 0 [] []) [] [] 0 [])->∀ au,au=(IntKind.wrap .i64 (Int.tmod (Zo ao (Int.toNat 0)) 256))->∀ aw,aw=(List.getD (Tree.kids (Zm ao (Int.toNat 0))) s.toNat Tree.nil)->∀ al,al=aw->∀ aq,aq=(Zm al (Int.toNat 0))->∀ ak,ak=(IntKind.wrap .i64 (Int.tmod (Zo al (Int.toNat 0)) 256))->∀ av,av=(IntKind.wrap .u64 (Int.tdiv (Zo al (Int.toNat 0)) 256))->∀ ar,ar=(ZA aq)->let z3:=Tree.kids (Zm al (Int.toNat 0));let z2:=Tree.kids (Zm ao (Int.toNat 0));let z1:=decide (s < (z2.length:Int));let z0:=IntKind.wrap .i64 (Int.tmod av 1099511627776);(Tt z1)/\(Tt z1)/\(Tt z1)/\(iB (bif z1 then (au==3) else false) (((0:Int)<=s/\s < (z2.length:Int))/\((Zei (al,0,()))/\((256:Int)≠0)/\(Zei (al,0,()))/\((256:Int)≠0)/\((1099511627776:Int)≠0)/\(iB (ak==3) ((Zei (al,0,()))/\(ZbH (aq,()))/\(Zqn (aq,()) < N)/\(((d.length+([(OpOf.mk ak z0 [] ar)]).length)*240<=140737488355328)/\((InR (s+1))/\(N4 (Z1C t ai ae af ab u ah aa aj (s+1) (d++([(OpOf.mk ak z0 [] ar)]))))))) ((Tt (!(ak==1)))/\(Tt (!(ak==1)))/\((ak==1)=false->(!(ak==1))=true)/\(iB (bif (ak==1) then true else (ak==2)) ((Zei (al,0,()))/\(((d.length+([(OpOf.mk ak z0 z3 am)]).length)*240<=140737488355328)/\((InR (s+1))/\(N4 (Z1C t ai ae af ab u ah aa aj (s+1) (d++([(OpOf.mk ak z0 z3 am)]))))))) (((d.length+([(OpOf.mk ak z0 [] am)]).length)*240<=140737488355328)/\((InR (s+1))/\(N4 (Z1C t ai ae af ab u ah aa aj (s+1) (d++([(OpOf.mk ak z0 [] am)]))))))))))) ((Q .ret (L2 [pL 2] [(.loc 2,[ci au,ci ai,sU .u64 af .unk,sU .tree ab .unk,ci ae,sU .u64 u .unk,sU .tree ah .unk,sU .wedit aa (.own (.l 2 7)),sU .kid aj (.own (.l 2 8)),ci (IntKind.wrap .i64 (Int.tmod (IntKind.wrap .u64 (Int.tdiv (Zo ao (Int.toNat 0)) 256)) 256)),sU .op d (.own (.l 2 10))])]))))):
  A82 N [1,1,1,1,1,1,1,1,0,1,0,0] (Z1C t ai ae af ab u ah aa aj s d) (xT N4 (xB 4 (S82 N [1,1,1,1,1,1,1,1,1] Q))):=
 (Eq.mpr V5 (h _ (Z0 _) _ rfl _ rfl _ rfl _ (Z0 _) _ (Z0 _) _ rfl _ rfl _ (Z8 _)):)
abbrev ZEo(N:Nat)(t:Tree):Prop:=AW (Z2 (ZlY N)) Tryz.f82 Zy8 [] (Zi (ZvE.can (t,())) []) (EQ Tryz.f82 (Znu (t,())) [])
theorem ZBM(ZDA:CT 115 Z8t)(ZDz:CT 116 Z8s)(hb:∀ (N:Nat) (t:Tree) (_:Unit),ZbH (t,())->Zqn (t,()) < N+1->ZEo N t):CT 82 Zd9:=
 Y8 (μ:=Zqn) (l:=[(115,Z8t),(116,Z8s)]) Zk rfl (⟨ZDA,ZDz,trivial⟩) Zy8 Tryz.func82 rfl rfl 1 (fun _=> rfl) V2 (fun N ⟨t,_⟩=> hb N t ())
end
theorem Zms{α β:Type}(c:Prop) [Decidable c] (g:α->β)(l:List α):(if c then l.map g else [])=(if c then l else []).map g:=by split <;> rfl
theorem ZuF{α:Type}{c:Prop} [Decidable c] {l:List α}{i:Int}(i0:0<=i):(i < ((if c then l else []).length:Int))↔(i < (l.length:Int)/\c):=by
 by_cases h:c
 .rw [if_pos h];exact ⟨fun a=> ⟨a,h⟩,fun a=> a.1⟩
 .rw [if_neg h];exact ⟨fun a=> by simp at a;omega,fun a=> absurd a.2 h⟩
theorem c82:Contract Tryz.prog cfg 82 Zd9:=by
 refine ZBM ZDA ZDz ?_
 intro N t _ hp hN
 obtain ⟨hm,hg⟩:=hp
 simp only [Zqn] at hN
 dsimp only at hm hg
 have fin:∀ {X:Edit} {s:LSt U},ZA t=X->ZF cfg Tryz.f82.ntmps Tryz.f82.results.toList (.agg (enc .edit X)) [] .ret s->ZF cfg Tryz.f82.ntmps Tryz.f82.results.toList (Znu (t,())) [] .ret s:=by
  intro X s h hs
  subst h
  exact hs
 have g0:=Y5 hg 0
 have g1:=Y5 hg 1
 have l0:(Zm t 0).kids.length<=10000000:=by have:=Zs (Zm t 0).kids;have:=JD (Zm t 0);have:=Yk t 0;omega
 have l1:(Zm t 1).kids.length<=10000000:=by have:=Zs (Zm t 1).kids;have:=JD (Zm t 1);have:=Yk t 1;omega
 have w:=Z0E hg 0
 have hK:=ZjE w.1 w.2
 have hL:=Zt2 w.1 w.2
 have le:∀ (x:Tree) (k:Nat),Zei (x,(k:Int),()):=fun x k=> XW k
 have ab:∀ (x:Tree) (k:Nat),Zei (x,(k:Int),()):=fun x k=> XW k
 have ah:∀ O M:Tree,t.kind=1->(if Zn (Zo t 0) 0 8=1 then Zm t 0 else Tree.nil)=O->(if Zn (Zo t 0) 0 8=1 then Zm t 1 else Tree.nil)=M->Zl (A82 N [1,1,1,1,1,1,0,1,0,0]) (Z43 t O.kind M.kind 0 O.words O.kids M.words M.kids []) (AExit.inBlock 0 (S82 N [1,1,1,1,1,1,1] (ZF cfg Tryz.f82.ntmps Tryz.f82.results.toList (Znu (t,())) []))):=by
  intro O M hk hO hM
  have eT:=Z1e t
  unfold Jc at eT
  rw [if_pos hk,hO,hM,Zms,Zms,Zms] at eT
  obtain ⟨W,hW⟩:∃ W,W=if Zn (Zo t 0) 0 8=2 then (Zm t 0).kids else []:=⟨_,rfl⟩
  obtain ⟨S,hS⟩:∃ S,S=if Zn (Zo t 0) 0 8=2 then (Zm t 1).kids else []:=⟨_,rfl⟩
  obtain ⟨P,hP⟩:∃ P,P=if Zn (Zo t 0) 0 8=3 then (Zm t 0).kids else []:=⟨_,rfl⟩
  rw [<-hW,<-hS,<-hP] at eT
  refine Z4 (ι:=Int × List WEdit) (fun s=> Z43 t O.kind M.kind s.1 O.words O.kids M.words M.kids s.2) (fun s=> ((0<=s.1/\s.1<=W.length)/\(s.2.length:Int)=s.1)/\s.2++(W.drop s.1.toNat).map rdW=W.map rdW) (fun s=> ((W.length:Int) - s.1).toNat) (0,[]) rfl ⟨⟨⟨V3,V3⟩,rfl⟩,rfl⟩ ?_
  rintro ⟨i,l⟩ ⟨⟨⟨i0,i1⟩,li⟩,hl⟩
  dsimp only at i0 i1 li hl
  refine Zw7 N t O.kind M.kind i O.words O.kids M.words M.kids l _ _ ?_
  intro z1 e1 z2 e2 z3 e3
  subst z1
  subst z3
  simp only [show Int.toNat 0=0 from rfl,show Int.toNat 1=1 from rfl,show Int.toNat 2=2 from rfl] at e2 ⊢
  have gx:rng z2:=by rw [e2];exact Y5 g0 _
  have u:=Z0E gx 0
  rw [Zgk u.1 u.2,Zq9 u.1 u.2,hK]
  (simp only [iB,vcT,vcS])
  have io:=ZuF (c:=Zn (Zo t 0) 0 8=2) (l:=(Zm t 0).kids) i0
  rw [<-hW] at io
  refine ⟨fun d=> ?_,fun d=> ?_⟩
  .have ak:=io.2 d
   have st:=Z9e i0 ak Tree.nil hl
   rw [show W.getD i.toNat Tree.nil=z2 by rw [hW,if_pos d.2,e2]] at st
   have aq:(l.length:Int)<=10000000:=by have:=d.1;omega
   exact ⟨⟨i0,d.1⟩,le z2 0,V0,le z2 0,V0,V0,le z2 1,le z2 2,by rw [Q8];omega,V4,(i+1,l++[rdW z2]),rfl,⟨⟨⟨V3,V3⟩,by rw [List.length_append,List.length_singleton];dsimp only;omega⟩,st⟩,V3⟩
  .have hl:=Z9f (fun h=> by have:=io.1 h;omega) hl
   refine Z4 (ι:=Int × List Kid) (fun s=> Z9p t O.kind M.kind O.words O.kids M.words M.kids l s.1 s.2) (fun s=> ((0<=s.1/\s.1<=S.length)/\(s.2.length:Int)=s.1)/\s.2++(S.drop s.1.toNat).map (rdK ZA)=S.map (rdK ZA)) (fun s=> ((S.length:Int) - s.1).toNat) (0,[]) rfl ⟨⟨⟨V3,V3⟩,rfl⟩,rfl⟩ ?_
   rintro ⟨j,q⟩ ⟨⟨⟨j0,j1⟩,lj⟩,hq⟩
   dsimp only at j0 j1 lj hq
   refine Zw6 N t O.kind M.kind O.words O.kids M.words M.kids l j q _ _ ?_
   intro y1 e1 y2 e2 y3 e3 y4 e4 y5 e5
   subst y1
   subst y3
   simp only [show Int.toNat 0=0 from rfl,show Int.toNat 1=1 from rfl] at e2 e4 ⊢
   subst e4 e5
   have gx:rng y2:=by rw [e2];exact Y5 g1 _
   have u:=Z0E gx 0
   rw [Zgk u.1 u.2,hK]
   (simp only [iB,vcT,vcS])
   have io:=ZuF (c:=Zn (Zo t 0) 0 8=2) (l:=(Zm t 1).kids) j0
   rw [<-hS] at io
   refine ⟨fun hj=> ?_,fun hj=> ?_⟩
   .have a4:=io.2 hj
    have st:=Z9e j0 a4 Tree.nil hq
    rw [show S.getD j.toNat Tree.nil=y2 by rw [hS,if_pos hj.2,e2]] at st
    have ae:y2∈(Zm t 1).kids:=by rw [e2];exact Zb (by have:=hj.1;omega) _
    have lt:=Z3g (j:=0) ae
    have aq:(q.length:Int)<=10000000:=by have:=hj.1;omega
    exact ⟨⟨j0,hj.1⟩,le y2 0,V0,ab y2 0,⟨V3,Y5 gx 0⟩,by simp only [Zqn];omega,by rw [List.length_singleton];omega,V4,(j+1,q++[rdK ZA y2]),rfl,⟨⟨⟨V3,V3⟩,by rw [List.length_append,List.length_singleton];dsimp only;omega⟩,st⟩,V3⟩
   .have hq:=Z9f (fun h=> by have:=io.1 h;omega) hq
    refine Z4 (ι:=Int × List Op) (fun s=> Z1C t O.kind M.kind O.words O.kids M.words M.kids l q s.1 s.2) (fun s=> ((0<=s.1/\s.1<=P.length)/\(s.2.length:Int)=s.1)/\s.2++(P.drop s.1.toNat).map (rdO ZA)=P.map (rdO ZA)) (fun s=> ((P.length:Int) - s.1).toNat) (0,[]) rfl ⟨⟨⟨V3,V3⟩,rfl⟩,rfl⟩ ?_
    rintro ⟨k,r⟩ ⟨⟨⟨k0,k1⟩,lk⟩,hr⟩
    dsimp only at k0 k1 lk hr
    refine Zw5 N t O.kind M.kind O.words O.kids M.words M.kids l q k r _ _ ?_
    intro x1 e1 x2 e2 x3 e3 x4 e4 x5 e5 x6 e6 x7 e7 x8 e8 x9 e9
    subst x1
    subst x5
    simp only [show Int.toNat 0=0 from rfl,show Int.toNat 1=1 from rfl] at e3 e4 e6 e7 e8 ⊢
    rw [hK] at e3
    have gx:rng x4:=by rw [e4];exact Y5 g0 _
    have u:=Z0E gx 0
    rw [ZjE u.1 u.2] at e7
    have a5:IntKind.wrap .i64 (Int.tmod x8 1099511627776)=Zn (Zo x4 0) 8 40:=by rw [e8];exact Zq8 u.1 u.2
    have e2:x2=Edit.nil:=e2
    rw [a5,hL]
    subst e2 e6 e9
    (simp only [iB,vcT,vcS])
    have io:=ZuF (c:=Zn (Zo t 0) 0 8=3) (l:=(Zm t 0).kids) k0
    rw [<-hP,<-e3] at io
    refine ⟨fun d=> ?_,fun d=> ?_⟩
    .have ak:=io.2 d
     have st:=Z9e k0 ak Tree.nil hr
     rw [show P.getD k.toNat Tree.nil=x4 by rw [hP,if_pos (by rw [<-e3];exact d.2),e4]] at st
     have ae:x4∈(Zm t 0).kids:=by rw [e4];exact Zb (by have:=d.1;omega) _
     have lt:=Z3g (j:=0) ae
     have aq:(r.length:Int)<=10000000:=by have:=d.1;omega
     have nx:∀ o:Op,o=rdO ZA x4->((r.length+[o].length)*240<=140737488355328)/\InR (k+1)/\∃ j:Int × List Op,Z1C t O.kind M.kind O.words O.kids M.words M.kids l q (k+1) (r++[o])=Z1C t O.kind M.kind O.words O.kids M.words M.kids l q j.1 j.2/\(((0<=j.1/\j.1<=P.length)/\(j.2.length:Int)=j.1)/\j.2++(P.drop j.1.toNat).map (rdO ZA)=P.map (rdO ZA))/\((P.length:Int) - j.1).toNat < ((P.length:Int) - k).toNat:=by
      intro o ho
      subst ho
      exact ⟨by rw [Q8];omega,V4,(k+1,r++[rdO ZA x4]),rfl,⟨⟨⟨V3,V3⟩,by rw [List.length_append,List.length_singleton];dsimp only;omega⟩,st⟩,V3⟩
     refine ⟨⟨k0,d.1⟩,le x4 0,V0,le x4 0,V0,V0,fun h3=> ⟨ab x4 0,⟨V3,Y5 gx 0⟩,by simp only [Zqn];omega,nx _ (by unfold rdO;rw [<-e7,JC,if_pos h3])⟩,fun h3=> ⟨fun ar=> ⟨ab x4 0,nx _ (by unfold rdO;rw [<-e7,if_pos ar,if_neg h3])⟩,fun ar=> nx _ (by unfold rdO;rw [<-e7,JC,if_neg h3])⟩⟩
    .have hr:=Z9f (fun h=> by have:=io.1 h;omega) hr
     exact fin (X:= .mk x3 O M l q (Zn (Zo t 0) 8 8) r) (by rw [eT,hl,hq,hr,e3]) V1
 refine ZHE N t _ ?_
 (simp only [vE])
 (simp only [iB,vcT,vcS])
 refine ⟨fun hk=> fin (X:=Edit.nil) (by rw [Z1e];unfold Jc;rw [if_neg hk]) V1,fun hk=> ⟨le t 0,V0,V0,V0,?_⟩⟩
 refine Zw9 N t _ ⟨ab _ 0,ab _ 1,Zw8 N t _ ?_⟩
 (simp only [vE])
 simp only [show Int.toNat 0=0 from rfl,show Int.toNat 1=1 from rfl]
 rw [hK]
 (simp only [iB,vcT,vcS])
 exact ⟨fun k1=> ah _ _ hk (if_pos k1) (if_pos k1),fun k1=> ah Tree.nil Tree.nil hk (if_neg k1) (if_neg k1)⟩
noncomputable section
def ZAM:ArgL Unit:= .nil
def Zll(a:Unit):Prop:=True
def ZGq(a:Unit):V U:= .c (.bool true)
def ZiN:Fs U:=fs ZAM (fun a=> [Zll a]) ZGq
def ZAv:List (FuncId × Fs U):=[(9,Zbr),(13,Zdx)]
def lv7:Zg U:=lvl [([],[]),([1],[1]),([1,2,3],[1,2]),([2,3,4,5],[2,4]),([0],[])]
abbrev A7(p:List Nat):=AW (Z2 ZAv) Tryz.f7 lv7 p
theorem vc7(Q:QT)(h:∀ s,s=(Edit.mk 2 (Tree.mk 0 [] []) (Tree.mk 0 [] []) ([(WEdit.mk 0 1 1 2)]) [] 0 [])->∀ u,u=(ZmC (Bnd.log (Bnd.mk (Tree.mk 1 ([1]) []) ([s]))) 1 0)->∀ d,d=(atN (Bnd.first (Bnd.mk (Tree.mk 1 ([1]) []) ([s]))) (Bnd.log (Bnd.mk (Tree.mk 1 ([1]) []) ([s]))) 1)->∀ ab,ab=(List.getD (Tree.words (d.1)) (Int.toNat 0) (0:Int))->∀ aa,aa=(List.getD (Edit.words (u.1)) (Int.toNat 0) (WEdit.mk 0 0 0 0))->let z6:=Bnd.mk (Tree.mk 1 ([1]) []) ([s]);let z5:=Edit.words (u.1);let z3:=bif (d.2) then (u.2) else false;let z1:=bif z3 then ((((Tree.words (d.1)).length:Int):Int)==1) else false;let z4:=bif z1 then (ab==2) else false;let z0:=bif z4 then (((z5.length:Int):Int)==1) else false;let z2:=bif z0 then (aa.old==2) else false;((ZnZ (z6,1,()))/\((ZsW (z6,1,0,()))/\((Tt (d.2))/\(Tt z3)/\(Tt z3)/\(Tt z3)/\(Tt z3)/\(Tt z1)/\(Tt z1)/\(z1=true->(0:Int)<=0/\0 < ((Tree.words (d.1)).length:Int))/\(Tt z1)/\(Tt z1)/\(Tt z1)/\(Tt z4)/\(Tt z4)/\(Tt z4)/\(Tt z4)/\(Tt z0)/\(Tt z0)/\(z0=true->(0:Int)<=0/\0 < (z5.length:Int))/\(Tt z0)/\(Tt z0)/\(Tt z0)/\(Tt z0)/\(Tt z2)/\(Tt z2)/\(z2=true->(0:Int)<=0/\0 < (z5.length:Int))/\(Tt z2)/\(Tt z2)/\(Tt z2)/\(Tt z2)/\(Q .ret (L2 [(0,.c (.bool (bif z2 then (aa.new==1) else false)))] [])))))):
  A7 [] (L2 [] []) Q:=
 (Eq.mpr V5 (h _ rfl _ rfl _ rfl _ rfl _ rfl):)
abbrev ZHq:Prop:=AW (Z2 ZAv) Tryz.f7 lv7 [] (Zi (ZAM.can ()) []) (EQ Tryz.f7 (ZGq ()) [])
theorem ZGE(c9:CT 9 Zbr)(c13:CT 13 Zdx)(hb:∀ (_:Unit),Zll ()->ZHq):CT 7 ZiN:=
 Z1 (l:=[(9,Zbr),(13,Zdx)]) Zk rfl (⟨c9,c13,trivial⟩) lv7 Tryz.func7 rfl rfl 0 (fun _=> rfl) V2 (fun _=> hb ())
end
def atT(n:Int):Tree:= .mk 1 [n] []
def Z1K(n m:Int):Edit:= .mk 2 Tree.nil Tree.nil [⟨0,1,n,m⟩] [] 0 []
theorem ZBg:doE false (Z1K 1 2) (atT 1)=some (atT 2):=by
 unfold Z1K atT
 rw [ZGT,if_pos (show (Tree.mk 1 [1] []).kind=1 from rfl)]
 try rfl
theorem Zhb(n m:Int):Zq (Z1K n m)=Z1K n m:=by
 unfold Z1K
 rw [Zq,if_neg V2,if_pos rfl]
 try rfl
theorem ZBf:Jm (Z1K 1 2):=by
 have z:=YB
 have i0:InR 0:=Jp V2 V2
 refine ⟨V2,⟨Jp V2 V2,z,z,fun w d=> ?_,i0,trivial,trivial⟩,64,rfl⟩
 rw [Qi.1 d]
 exact ⟨Jp V2 V2,⟨V2,V2⟩,⟨V2,V2⟩,⟨V2,V2⟩⟩
theorem ZDT{n:Int}(h:isW n):rng (atT n):=⟨Jp V2 V2,fun x d=> by rw [Qi.1 d];exact h,trivial⟩
theorem ZBh:atN (atT 1) [Z1K 1 2] 1=(atT 2,true):=by
 have h:atO (atT 1) [Z1K 1 2] 1:=⟨rfl,V2,V2,V2⟩
 unfold atN
 rw [if_pos h]
 show oT (atF [Z1K 1 2] (atT 1))=_
 rw [atF,if_pos (by rfl),ZBg]
 dsimp only
 rw [if_pos (by rfl),atF]
 try rfl
theorem Zxd:ZmC [Z1K 1 2] 1 0=(Z1K 2 1,true):=by
 have c:Yv Edit.nil (Z1K 1 2)=(Z1K 1 2,true):=by
  unfold Yv
  rw [show Zd Edit.nil+Zd (Z1K 1 2)=6+1 by decide]
  show JG (ZfH 6) Edit.nil (Z1K 1 2)=_
  unfold JG
  exact if_pos rfl
 have n:Z1n Edit.nil (Z1K 1 2)=(Z1K 1 2,true):=by
  unfold Z1n
  rw [c,if_pos rfl]
  dsimp only
  rw [Zhb]
 have j:Z0o [Z1K 1 2]=(Z1K 1 2,true):=by
  unfold Z0o
  rw [Z5C,n,if_pos rfl,Z5C,if_pos rfl]
  dsimp only
  rw [Zhb]
 unfold ZmC
 rw [if_neg V2,if_neg V2]
 show (Zq (ZO (Z0o [Z1K 1 2]).1),(Z0o [Z1K 1 2]).2)=_
 rw [j]
 show (Zq (Z1K 2 1),true)=_
 rw [Zhb]
theorem c7:Contract Tryz.prog cfg 7 ZiN:=by
 refine ZGE c9 c13 ?_
 intro _ _
 refine vc7 _ ?_
 intro h e1 s e2 u e3 y4 e4 y5 e5
 have e1:h=Z1K 1 2:=e1
 subst e1
 have e2:s=(Z1K 2 1,true):=e2.trans Zxd
 have e3:u=(atT 2,true):=e3.trans ZBh
 subst e2 e3 e4 e5
 have m:Zd (Z1K 1 2)<=1000000000:=V2
 have r:=ZBf
 refine ⟨⟨⟨⟨V2,ZDT (n:=1) ⟨V2,V2⟩⟩,V2⟩,fun e d=> ?_⟩,⟨fun e d=> ?_,V2⟩,?_⟩
 .rw [Qi.1 d];exact ⟨m,r.2.1⟩
 .rw [Qi.1 d];exact r
 .simp only [Tr]
  repeat' (first | exact (fun x=> x) | exact (fun _=> ⟨V2,V2⟩) | exact Z5 rfl rfl | apply And.intro)
noncomputable section
def Zs5(a:Tree × Unit):V U:= .tup [(true,(enc .edit ((rdP a.1).1))),(false,[.bool ((rdP a.1).2)])]
def Zdn:Fs U:=fs ZvE (fun a=> [ZbH a]) Zs5
def Zuq:List (FuncId × Fs U):=[(79,Zd9),(31,Z51),(41,Z50),(47,YX)]
def ZCP:Zg U:=lvl [([1,2],[1,2]),([1,2,4],[1,2,4]),([2,4,16],[2,4]),([2,3],[2]),([2,3],[2])]
abbrev A46(p:List Nat):=AW (Z2 Zuq) Tryz.f46 ZCP p
theorem ZI7(t:Tree)(Q:QT)(h:∀ d,d=t->∀ s,s=(ZA d)->∀ u,u=(ZT s)->let z0:= !(Z6 s 64);((ZbH (d,()))/\((Zjy (s,()))/\(Tt (!z0))/\((!z0)=true->Z7a (s,()))/\(Tt (!z0))/\(Tt (!z0))/\((!z0)=true->Z39 (u,d,()))/\(Tt (!z0))/\(z0=false->(!z0)=true)/\(iB (bif z0 then true else (!(Yd (Z3 u) (Z3 d)))) ((Q .ret (L2 [pL 2,pB 3 false] [(.loc 2,zc1)]))) ((Q .ret (L2 [pL 2,pB 3 true] [(.loc 2,(enc .edit (ZA d)))]))))))):
  A46 [] (L2 [(0,.agg (enc .tree t))] []) Q:=
 (Eq.mpr V5 (h _ (Z0 _) _ (Z8 _) _ (Z0 _)):)
abbrev ZER(t:Tree):Prop:=AW (Z2 Zuq) Tryz.f46 ZCP [] (Zi (ZvE.can (t,())) []) (EQ Tryz.f46 (Zs5 (t,())) [])
theorem ZC5(c79:CT 79 Zd9)(c31:CT 31 Z51)(c41:CT 41 Z50)(c47:CT 47 YX)(hb:∀ (t:Tree) (_:Unit),ZbH (t,())->ZER t):CT 46 Zdn:=
 Z1 (l:=[(79,Zd9),(31,Z51),(41,Z50),(47,YX)]) Zk rfl (⟨c79,c31,c41,c47,trivial⟩) ZCP Tryz.func46 rfl rfl 1 (fun _=> rfl) V2 (fun ⟨t,_⟩=> hb t ())
def Zup:List (FuncId × Fs U):=[(82,Zd9),(28,Z2s),(43,Z50),(25,YX)]
abbrev A48(p:List Nat):=AW (Z2 Zup) Tryz.f48 ZCP p
theorem ZI5(t:Tree)(Q:QT)(h:∀ d,d=t->∀ s,s=(ZA d)->∀ u,u=(ZT s)->let z0:= !(Z6 s 64);((ZbH (d,()))/\((Z7c (s,64,()))/\(Tt (!z0))/\((!z0)=true->Z7a (s,()))/\(Tt (!z0))/\(Tt (!z0))/\((!z0)=true->Z39 (u,d,()))/\(Tt (!z0))/\(z0=false->(!z0)=true)/\(iB (bif z0 then true else (!(Yd (Z3 u) (Z3 d)))) ((Q .ret (L2 [pL 2,pB 3 false] [(.loc 2,zc1)]))) ((Q .ret (L2 [pL 2,pB 3 true] [(.loc 2,(enc .edit (ZA d)))]))))))):
  A48 [] (L2 [(0,.agg (enc .tree t))] []) Q:=
 (Eq.mpr V5 (h _ (Z0 _) _ (Z8 _) _ (Z0 _)):)
abbrev ZEP(t:Tree):Prop:=AW (Z2 Zup) Tryz.f48 ZCP [] (Zi (ZvE.can (t,())) []) (EQ Tryz.f48 (Zs5 (t,())) [])
theorem ZC3(c82:CT 82 Zd9)(c28:CT 28 Z2s)(c43:CT 43 Z50)(c25:CT 25 YX)(hb:∀ (t:Tree) (_:Unit),ZbH (t,())->ZEP t):CT 48 Zdn:=
 Z1 (l:=[(82,Zd9),(28,Z2s),(43,Z50),(25,YX)]) Zk rfl (⟨c82,c28,c43,c25,trivial⟩) ZCP Tryz.func48 rfl rfl 1 (fun _=> rfl) V2 (fun ⟨t,_⟩=> hb t ())
end
theorem Z59:∀ {l:List Tree},(∀ x∈l,rng x)->Ya l
 | [],_=> trivial
 | y ::r,h=> ⟨h y Q5,Z59 fun x d=> h x (Q1 _ d)⟩
theorem Zhd{l:List Tree}(h:Ya l):rng (JM l):=by
 unfold JM
 split
 .exact YB
 .exact ⟨⟨V2,V2⟩,fun x d=> (by cases d),h⟩
theorem Z1X{w:Int}{ks:List Tree}(h0:0<=w)(h1:w < 18446744073709551616)(h:Ya ks):rng (.mk 1 [w] ks):=⟨⟨V2,V2⟩,fun x d=> by rw [Qi.1 d];exact ⟨h0,h1⟩,h⟩
theorem Zs0:∀ (n:Nat) (e:Edit) (d:Int),Zd e<=n->Y0 e->Z6 e d=true->rng (ZT e):=by
 intro n
 induction n with
 | zero=> intro e d h;have:=Z9d e;omega
 | succ n ih=>
  intro e d hn hg hr
  have R:=ZH hr
  have G:=YD hg
  rw [Z4V]
  split
  .exact Z1X V2 V2 ⟨G.1,G.2.1,trivial⟩
  .split
   .refine Z1X V2 V2 ⟨Zhd (Z59 fun x s=> ?_),Zhd (Z59 fun x s=> ?_),trivial⟩
    .obtain ⟨w,hw,rfl⟩:=X3.1 s
     have A:=Yw R.words w hw
     have B:=G.2.2.1 w hw
     refine ⟨⟨V2,V2⟩,fun y u=> ?_,trivial⟩
     rcases Q7.1 u with rfl | u
     .have:=B.2.1;exact ⟨V0,V0⟩
     .rcases Q7.1 u with rfl | u
      .exact B.2.2.1
      .rw [Qi.1 u];exact B.2.2.2
    .rw [Z2p] at s
     obtain ⟨k,hk,rfl⟩:=X3.1 s
     have A:=ZP R.kids k hk
     have m:=Jz hk
     exact Z1X V0 V0 ⟨ih k.e _ V0 (Yq G.2.2.2.1 hk).2 A.2,trivial⟩
   .split
    .rename_i k3
     obtain ⟨ak,ai⟩:=R.list k3
     refine Z1X V0 V0 ⟨Zhd (Z59 fun x s=> ?_),trivial⟩
     rw [Z2o] at s
     obtain ⟨o,ho,rfl⟩:=X3.1 s
     have A:=ZJ (rightOs_mem R.ops ho)
     have g:=J4 (J0 G.2.2.2.2 ho)
     have m:=Z0S ho
     rw [Z3D]
     cases A with
     | keep nn a1 a2=> exact Z1X V3 V3 trivial
     | gone ll a1 a2=> exact Z1X V3 V3 ⟨⟨⟨V0,V0⟩,fun x s=> (by cases s),g.2.2.1⟩,trivial⟩
     | come ll a1 a2=> exact Z1X V3 V3 ⟨⟨⟨V0,V0⟩,fun x s=> (by cases s),g.2.2.1⟩,trivial⟩
     | into e2 a1 a2 a3 a4=> exact Z1X V3 V3 ⟨ih e2 _ (by dsimp only at m;omega) g.2.2.2 a1,trivial⟩
    .exact YB
theorem ZeG(l:List Tree):Zh (JM l)<=1+Ze l:=by
 unfold JM
 split
 .show 1<=_;omega
 .simp only [Zh,Qj];omega
theorem Z6o:∀ (n:Nat) (e:Edit),Zd e<=n->Zh (ZT e)+4<=8*Zd e:=by
 intro n
 induction n with
 | zero=> intro e h;have:=Z9d e;omega
 | succ n ih=>
  intro e hn
  have ks:∀ l:List Kid,(∀ k∈l,Zd k.e<=n)->Ze (Z0u l)<=8*Zp l:=by
   intro l
   induction l with
   | nil=> intro _;rw [Z0u];exact Xd _
   | cons k r ihl=>
    intro h
    have h1:=ih k.e (h k Q5)
    have u:=ihl fun y d=> h y (Q1 _ d)
    obtain ⟨a,x⟩:=k
    rw [Z0u,Zh4]
    simp only [Ze,Zh,Zp,Ym,Q8] at h1 u ⊢
    omega
  have os:∀ (list:Int) (l:List Op),(∀ o∈l,Zd o.e<=n)->Ze (Z0J list l)<=8*Zj l:=by
   intro list l
   induction l with
   | nil=> intro _;rw [Z0J];exact Xd _
   | cons o r ihl=>
    intro h
    have h1:=ih o.e (h o Q5)
    have u:=ihl fun y d=> h y (Q1 _ d)
    have h3:=Z9d o.e
    have me:=ZG o
    have mo:Zh (YW list o)<=8*Zx o:=by
     rw [Z3D,me]
     split
     .simp only [Zh,Ze,Q8,Qj];omega
     .split
      .simp only [Zh,Ze,Q8];omega
      .simp only [Zh,Ze,Q8];omega
    rw [Z0J]
    simp only [Ze,Zj]
    omega
  have m:Zd e=1+Zh e.old+Zh e.new+e.words.length+e.ops.length+Zp e.kids+Zj e.ops:=by cases e;rfl
  have h3:=Z9d e
  rw [Z4V]
  split
  .simp only [Zh,Ze,Q8];omega
  .split
   .have s:=ZeG (e.words.map Z1s)
    have r2:=ZeG (Z0u e.kids)
    have r3:=ks e.kids fun k hk=> by have:=Jz hk;omega
    have r4:∀ l:List WEdit,Ze (l.map Z1s)=4*l.length:=by
     intro l
     induction l with
     | nil=> rfl
     | cons w r ih=> rw [QD,Ze,ih];simp only [Z1s,Zh,Ze,Qe,Qj];omega
    rw [r4] at s
    have o1:=ZQ e.old
    have o2:=ZQ e.new
    simp only [Zh,Ze,Q8];omega
   .split
    .have s:=ZeG (Z0J e.list e.ops)
     have r2:=os e.list e.ops fun o ho=> by have:=Z0S ho;omega
     have o1:=ZQ e.old
     have o2:=ZQ e.new
     simp only [Zh,Ze,Q8];omega
    .show 1+4<=_;omega
theorem ZaC:∀ (n:Nat) (t:Tree),Zh t<=n->rng t->Y0 (ZA t):=by
 intro n
 induction n with
 | zero=> intro t h;have:=ZQ t;omega
 | succ n ih=>
  intro t hn hg
  have pI:∀ (w:Int) (f b:Nat),(b=8\/b=32\/b=40)->InR (Zn w f b):=fun w f b hb=> by
   have h:=Zel w f b
   rcases hb with rfl | rfl | rfl
   .exact ⟨V0,V0⟩
   .exact ⟨V0,V0⟩
   .exact ⟨V0,V0⟩
  have rK:∀ y:Tree,rng y->Ya y.kids:=fun y h=> by obtain ⟨a,b,c⟩:=y;exact h.2.2
  have kid:∀ {x:Tree} {i:Nat},x∈(Zm t i).kids->rng x/\Y0 (ZA (Zm x 0)):=fun {x i} d=> by
   have s:=Z0M (Y5 hg i) d
   exact ⟨s,ih _ (by have:=Z3g (j:=0) d;omega) (Y5 s 0)⟩
  have ite:∀ (c:Prop) [Decidable c] (a:Tree),rng a->rng (if c then a else Tree.nil):=fun c _ a h=> by split;exact h;exact YB
  rw [Z1e]
  unfold Jc
  split
  .refine ⟨pI _ _ _ V2,ite _ _ (Y5 hg 0),ite _ _ (Y5 hg 1),?_,pI _ _ _ V2,?_,?_⟩
   .intro w u
    split at u
    .obtain ⟨x,d,rfl⟩:=X3.1 u
     have s:=(kid d).1
     have p:=Zel (Zo x 0) 32 8
     exact ⟨pI _ _ _ V2,⟨p.1,p.2⟩,Z0E s 1,Z0E s 2⟩
    .cases u
   .split
    .generalize hl:(Zm t 1).kids=l
     have h:∀ x∈l,Y0 (ZA (Zm x 0)):=fun x d=> (kid (by rw [hl];exact d)).2
     clear hl
     induction l with
     | nil=> trivial
     | cons y r ihl=> exact ⟨⟨pI _ _ _ V2,h y Q5⟩,ihl fun x d=> h x (Q1 _ d)⟩
    .trivial
   .split
    .refine ZfZ fun o ho=> ?_
     obtain ⟨x,d,rfl⟩:=X3.1 ho
     have k:=kid d
     refine ⟨pI _ _ _ V2,pI _ _ _ V2,?_,?_⟩
     .split
      .exact rK _ (Y5 k.1 0)
      .trivial
     .split
      .exact k.2
      .exact Zj1
    .trivial
  .exact Zj1
theorem ZsH{x:Edit}(hr:Z6 x 64=true)(hg:Y0 x):rdP (ZT x)=(x,true):=by
 unfold rdP
 rw [Zq1 _ x 64 (Qc _) hg hr,if_pos ⟨hr,Yh.2 rfl⟩]
theorem Zlj{t:Tree}(h:(rdP t).2=true):Z6 (rdP t).1 64=true/\(rdP t).1=ZA t:=by
 unfold rdP at h ⊢
 split
 .rename_i c;exact ⟨c.1,rfl⟩
 .rename_i c;rw [if_neg c] at h;cases h
theorem Zhv:∀ {ks:List Tree} {l:List Edit},rdL ks=some l->(∀ k∈ks,rng k)->(∀ e∈l,(Z6 e 64=true/\Y0 e)/\Zd e<=4*Ze ks)/\ctL l<=262400*Ze ks
 | [],l,h,_=> by
  injection h with h
  subst h
  exact ⟨fun e d=> (by cases d),Xd _⟩
 | k ::r,l,h,hg=> by
  rw [rdL] at h
  by_cases c:(rdP k).2=true
  .rw [if_pos c] at h
   cases hr:rdL r with
   | none=> rw [hr] at h;cases h
   | some q=>
    rw [hr] at h
    injection h with h
    subst h
    obtain ⟨a,b⟩:=Zhv hr fun x hx=> hg x (Q1 _ hx)
    obtain ⟨u,p2⟩:=Zlj c
    have s:=ZaC _ k (Qc _) (hg k Q5)
    have mk:=Z3N _ k (Qc _)
    rw [<-p2] at s mk
    have mn:=Z02 (rdP k).1
    have cn:=Z4G (rdP k).1
    have cm:=Z6Q (rdP k).1
    simp only [Ze,ctL]
    refine ⟨fun e d=> ?_,V0⟩
    rcases Q7.1 d with rfl | d
    .exact ⟨⟨Yi _ _ u,J1 _ _ u s⟩,V0⟩
    .have:=a e d
     exact ⟨this.1,V0⟩
  .rw [if_neg c] at h;cases h
theorem ZdY:∀ {l:List Edit},(∀ e∈l,Z6 e 64=true/\Y0 e)->rdL (l.map fun e=> ZT (Zq e))=some (l.map Zq)
 | [],_=> rfl
 | e ::r,h=> by
  obtain ⟨d,u⟩:=h e Q5
  have q:=ZsH (Yi e 64 d) (J1 e 64 d u)
  rw [QD,rdL,q,if_pos rfl,ZdY fun x s=> h x (Q1 _ s)]
  show some (Zq (Zq e) ::_)=_
  rw [Z6j]
  try rfl
theorem Zp6:∀ {l:List Edit} {t:Tree},RowT t->(∀ e∈l,Z6 e 64=true/\Y0 e)->atG (l.map Zq) t=atG l t
 | [],_,_,_=> rfl
 | e ::r,t,ht,h=> by
  obtain ⟨d,u⟩:=h e Q5
  rw [QD,atG,atG,if_pos d,if_pos (Yi e 64 d),Z5Q,Z5Q,(Zlu e 64 t d ht.rt).normed]
  cases hd:doE false e t with
  | none=> rfl
  | some v=>
   dsimp only [Option.map]
   by_cases hv:Za (Z3 v) 64=true
   .rw [if_pos hv,if_pos hv]
    exact Zp6 ⟨Yr v,hv,YL _ (Z3r false _ _ _ u ht.g hd)⟩ fun x s=> h x (Q1 _ s)
   .rw [if_neg hv,if_neg hv]
theorem ZsJ{f:Tree}{l:List Edit}(hf:rng f)(hg:∀ e∈l,Y0 e)(h:(atM f l l.length).2=true):
  (∀ e∈l,Z6 e 64=true)/\rdB (Z1o f l)=(f,l.map Zq,true):=by
 have s:atO f l l.length:=by
  unfold atM at h
  by_cases c:atO f l l.length
  .exact c
  .rw [if_neg c] at h;cases h
 obtain ⟨T,hT⟩:∃ T,atG l (Z3 f)=some T:=by
  unfold atM at h
  rw [if_pos s,QR,K0] at h
  cases h':atG l (Z3 f) with
  | none=> rw [h'] at h;cases h
  | some T=> exact ⟨T,rfl⟩
 have rf:RowT (Z3 f):=⟨Yr _,Z1x _ _ s.1,YL _ hf⟩
 have all:=(Zp5 rf hg hT).2.1
 refine ⟨all,?_⟩
 have k1:Zm (Z1o f l) 1= .mk 8 [] (l.map fun e=> ZT (Zq e)):=rfl
 have k0:Zm (Z1o f l) 0=f:=rfl
 have hn:Z1o f (l.map Zq)=Z1o f l:=by
  unfold Z1o
  rw [X5,XP]
  have:(fun e=> ZT (Zq e)) ∘ Zq=fun e=> ZT (Zq e):=funext fun e=> by show ZT (Zq (Zq e))=_;rw [Z6j]
  rw [this]
 have u:(atN f (l.map Zq) ((l.map Zq).length:Nat)).2=true:=by
  have hO:atO f (l.map Zq) ((l.map Zq).length:Nat):=⟨s.1,s.2.1,V0,V0⟩
  rw [ZAJ]
  unfold atM
  rw [if_pos hO,QR,K0,Zp6 rf fun e d=> ⟨all e d,hg e d⟩,hT]
  try rfl
 unfold rdB
 rw [k1,k0,if_pos ⟨rfl,rfl⟩]
 show (match rdL (l.map fun e=> ZT (Zq e)) with
  | none=> (Tree.nil,[],false)
  | some l'=> if (atN f l' l'.length).2=true/\Yd (Z3 (Z1o f l')) (Z3 (Z1o f l))=true then (f,l',true) else (Tree.nil,[],false))=_
 rw [ZdY fun e d=> ⟨all e d,hg e d⟩]
 dsimp only
 rw [if_pos ⟨u,by rw [hn];exact Yh.2 rfl⟩]
theorem Zv4{f:Tree}{l:List Edit}(hf:rng f)(h:∀ e∈l,Y0 e/\∃ d,Z6 e d=true)(hl:l.length < 18446744073709551616):rng (Z1o f l):=by
 refine Z1X V0 V0 ⟨hf,⟨⟨V2,V2⟩,fun x s=> (by cases s),Z59 fun x s=> ?_⟩,trivial⟩
 obtain ⟨e,he,rfl⟩:=X3.1 s
 obtain ⟨hg,d,u⟩:=h e he
 exact Zs0 _ _ d (Qc _) (J1 _ _ u hg) (Yi _ _ u)
theorem Zqv(l:List Edit):Ze (l.map fun e=> ZT (Zq e))<=8*ctL l:=by
 induction l with
 | nil=> exact Xd _
 | cons e r ih=>
  have d:=Z6o _ (Zq e) (Qc _)
  have s:=Z02 e
  have h:=Z9c e
  rw [QD,Ze,ctL]
  omega
theorem Zqu(l:List Edit){B:Nat}(h:∀ e∈l,Zd e<=B):Ze (l.map fun e=> ZT (Zq e))<=l.length*(8*B):=by
 induction l with
 | nil=> exact Xd _
 | cons e r ih=>
  have h1:=Z6o _ (Zq e) (Qc _)
  have s:=Z02 e
  have h3:=h e Q5
  have u:=ih fun x d=> h x (Q1 _ d)
  rw [QD,Ze,Qe,QC]
  omega
theorem ZqZ{f:Tree}{l:List Edit}{B:Nat}(h:∀ e∈l,Zd e<=B):Zh (Z1o f l)<=3+Zh f+l.length*(8*B):=by
 have:=Zqu l h
 unfold Z1o
 simp only [Zh,Ze,Q8,Qj]
 omega
theorem c46:Contract Tryz.prog cfg 46 Zdn:=by
 refine ZC5 ZyT.1 c31 ZuY.1 c47 ?_
 intro t _ hp
 obtain ⟨hm,hg⟩:=hp
 dsimp only at hm hg
 have mr:=Z3N _ t (Qc _)
 have gr:=ZaC _ t (Qc _) hg
 have mt:=Z6o _ (ZA t) (Qc _)
 have fin:∀ {X:Edit × Bool} {s:LSt U},rdP t=X->ZF cfg Tryz.f46.ntmps Tryz.f46.results.toList (.tup [(true,enc .edit X.1),(false,[.bool X.2])]) [] .ret s->ZF cfg Tryz.f46.ntmps Tryz.f46.results.toList (Zs5 (t,())) [] .ret s:=by
  intro X s h hs
  subst h
  exact hs
 have eP:=rdP.eq_1 t
 refine ZI7 t _ ?_
 intro y1 e1 y2 e2 y3 e3
 subst y1
 subst e2 e3
 (simp only [iB,vcT,vcS])
 have d:Z6 (ZA t) 64=true->Z7a (ZA t,()):=fun h=> ⟨⟨V3,gr⟩,64,h⟩
 have u:Z39 (ZT (ZA t),t,()):=⟨V3,V3⟩
 refine ⟨⟨V3,hg⟩,⟨V3,gr⟩,fun h=> d (by simpa using h),fun _=> u,fun h=> fin (X:=(Edit.nil,false)) (by rw [eP,if_neg (by intro c;rcases h with h | h;rw [c.1] at h;cases h;rw [c.2] at h;cases h)]) V1,fun h=> fin (X:=(ZA t,true)) (by rw [eP,if_pos (by simpa using h)]) V1⟩
theorem c48:Contract Tryz.prog cfg 48 Zdn:=by
 refine ZC3 c82 ZmB.1 c43 c25 ?_
 intro t _ hp
 obtain ⟨hm,u⟩:=hp
 dsimp only at hm u
 have mr:=Z3N _ t (Qc _)
 have gr:=ZaC _ t (Qc _) u
 have mt:=Z6o _ (ZA t) (Qc _)
 have fin:∀ {X:Edit × Bool} {s:LSt U},rdP t=X->ZF cfg Tryz.f48.ntmps Tryz.f48.results.toList (.tup [(true,enc .edit X.1),(false,[.bool X.2])]) [] .ret s->ZF cfg Tryz.f48.ntmps Tryz.f48.results.toList (Zs5 (t,())) [] .ret s:=by
  intro X s h hs
  subst h
  exact hs
 have eP:=rdP.eq_1 t
 refine ZI5 t _ ?_
 intro y1 e1 y2 e2 y3 e3
 subst y1
 subst e2 e3
 (simp only [iB,vcT,vcS])
 have aa:Z6 (ZA t) 64=true->Z7a (ZA t,()):=fun h=> ⟨⟨V3,gr⟩,64,h⟩
 have d:Z39 (ZT (ZA t),t,()):=⟨V3,V3⟩
 refine ⟨⟨V3,u⟩,⟨⟨V3,gr⟩,V3,V3⟩,fun h=> aa (by simpa using h),fun _=> d,fun h=> fin (X:=(Edit.nil,false)) (by rw [eP,if_neg (by intro c;rcases h with h | h;rw [c.1] at h;cases h;rw [c.2] at h;cases h)]) V1,fun h=> fin (X:=(ZA t,true)) (by rw [eP,if_pos (by simpa using h)]) V1⟩
noncomputable section
def ZnY(a:Bnd × Unit):Prop:=((∀ e∈Bnd.log a.1,(Zd e<=100000000/\Y0 e)/\∃ d,Z6 e d=true)/\(Bnd.log a.1).length<=10000000)
def Zsk(a:Bnd × Unit):V U:= .agg (enc .tree (Z1o (Bnd.first a.1) (Bnd.log a.1)))
def Z55:Fs U:=fs ZvL (fun a=> [ZnY a]) Zsk
def Z54:Fs U:=fs ZAL (fun a=> [ZnY a]) Zsk
def ZvF:ArgL (Bnd × Bnd × Unit):=(.cons (aEl .bundle) (.cons (aEl .rbundle) .nil))
def Ze6(a:Bnd × Bnd × Unit):Prop:=(a.1=a.2.1/\(Bnd.log a.1).length<=100000000)/\Zh (Bnd.first a.1)<=1000000000000/\∀ e∈Bnd.log a.1,Zd e<=20000000000
def ZAm(a:Bnd × Bnd × Unit):V U:= .c (.bool true)
def Zdt:Fs U:=fs ZvF (fun a=> [Ze6 a]) ZAm
def Zmm:List (FuncId × Fs U):=[(42,JK),(41,Z50)]
def Zyy:Zg U:=lvk [([1,2],[1,2]),([1,2,3],[1,2,3]),([1,2,3,8,9,10],[1,2,((.loc 3),[.any,.any,.own .tree])]),([1,2,3,8,9,10,11],[1,2,3]),([1,2,3,5,8,9,10],[1,2,3,5]),([1,2,3,8,9,10],[1,2,3]),([1,2,3,8,9,10],[1,2,((.loc 3),[.any,.any,.own .tree])]),([2],[2])]
def Za9(b:Bnd)(h:Int)(d:List Tree):LSt U:=(L2 [pL 1,pL 2,pL 3,(8,.c (sU .edit (Bnd.log b) .unk)),pI 9 ((Bnd.log b).length:Int),pI 10 h] [(.loc 1,(enc .bundle b)),(.loc 2,[ci 0,.nils,.nils]),(.loc 3,[ci 8,.nils,sU .tree d (.own (.l 3 2))])])
abbrev A16(p:List Nat):=AW (Z2 Zmm) Tryz.f16 Zyy p
abbrev S16(p:List Nat):=SW (Z2 Zmm) Tryz.f16 Zyy p
theorem ZIx(b:Bnd)(Q:QT)(h:(Zl (A16 [1,1,0,1,0,0]) (Za9 b 0 []) (xB 0 (S16 [1,1,1] Q)))):
  A16 [] (L2 [(0,.agg (enc .bundle b))] []) Q:=
 (Eq.mpr V5 h:)
theorem Zx3(b:Bnd)(s:Int)(d:List Tree)(N0:NT)(Q:QT)(h:∀ af,af=(Bnd.first b)->∀ ae,ae=(List.getD (Bnd.log b) s.toNat Edit.nil)->∀ aa,aa=ae->∀ ab,ab=(Zq aa)->∀ u,u=(ZT ab)->(iB (decide (s < ((Bnd.log b).length:Int))) (((0:Int)<=s/\s < ((Bnd.log b).length:Int))/\((Z1O (aa,()))/\(Z7a (ab,()))/\((d.length+([u]).length)*56<=140737488355328)/\((InR (s+1))/\(N0 (Za9 b (s+1) (d++([u]))))))) ((Q .ret (L2 [pL 2] [(.loc 2,[ci 1,sU .u64 ([IntKind.wrap .u64 ((Bnd.log b).length:Int)]) .full,sU .tree ([af,(Tree.mk 8 [] d)]) .full])]))))):
  A16 [1,1,0,1,0,0] (Za9 b s d) (xT N0 (xB 0 (S16 [1,1,1] Q))):=
 (Eq.mpr V5 (h _ (Z0 _) _ rfl _ (Z8 _) _ (Z8 _) _ (Z0 _)):)
abbrev ZFh(b:Bnd):Prop:=AW (Z2 Zmm) Tryz.f16 Zyy [] (Zi (ZvL.can (b,())) []) (EQ Tryz.f16 (Zsk (b,())) [])
theorem ZCq(c42:CT 42 JK)(c41:CT 41 Z50)(hb:∀ (b:Bnd) (_:Unit),ZnY (b,())->ZFh b):CT 16 Z55:=
 Z1 (l:=[(42,JK),(41,Z50)]) Zk rfl (⟨c42,c41,trivial⟩) Zyy Tryz.func16 rfl rfl 1 (fun _=> rfl) V2 (fun ⟨b,_⟩=> hb b ())
def Zml:List (FuncId × Fs U):=[(44,JK),(43,Z50)]
def Zyx:Zg U:=lvk [([1,2],[1,2]),([1,2,3],[1,2,3]),([1,2,3,4],[1,2,((.loc 3),[.any,.any,.own .tree])]),([1,2,3,4,10],[1,2,3]),([1,2,3,4],[1,2,((.loc 3),[.any,.any,.own .tree])]),([1,2,3,4],[1,2,3]),([2],[2])]
def Za8(b:Bnd)(h:Int)(d:List Tree):LSt U:=(L2 [pL 1,pL 2,pL 3,pI 4 h] [(.loc 1,(enc .bundle b)),(.loc 2,[ci 0,.nils,.nils]),(.loc 3,[ci 8,.nils,sU .tree d (.own (.l 3 2))])])
abbrev A17(p:List Nat):=AW (Z2 Zml) Tryz.f17 Zyx p
abbrev S17(p:List Nat):=SW (Z2 Zml) Tryz.f17 Zyx p
theorem ZIw(b:Bnd)(Q:QT)(h:(Zl (A17 [1,1,0,1,0,0]) (Za8 b 0 []) (xB 0 (S17 [1,1,1] Q)))):
  A17 [] (L2 [(0,.agg (enc .bundle b))] []) Q:=
 (Eq.mpr V5 h:)
theorem Zx2(b:Bnd)(s:Int)(d:List Tree)(N0:NT)(Q:QT)(h:∀ af,af=(Bnd.first b)->∀ ae,ae=(List.getD (Bnd.log b) s.toNat Edit.nil)->∀ aa,aa=ae->∀ ab,ab=(Zq aa)->∀ u,u=(ZT ab)->(iB (decide (s < ((Bnd.log b).length:Int))) (((0:Int)<=s/\s < ((Bnd.log b).length:Int))/\(Z1O (aa,()))/\(Z7a (ab,()))/\((d.length+([u]).length)*56<=140737488355328)/\((InR (s+1))/\(N0 (Za8 b (s+1) (d++([u])))))) ((Q .ret (L2 [pL 2] [(.loc 2,[ci 1,sU .u64 ([IntKind.wrap .u64 ((Bnd.log b).length:Int)]) .full,sU .tree ([af,(Tree.mk 8 [] d)]) .full])]))))):
  A17 [1,1,0,1,0,0] (Za8 b s d) (xT N0 (xB 0 (S17 [1,1,1] Q))):=
 (Eq.mpr V5 (h _ (Z0 _) _ rfl _ (Z8 _) _ (Z8 _) _ (Z0 _)):)
abbrev ZFg(b:Bnd):Prop:=AW (Z2 Zml) Tryz.f17 Zyx [] (Zi (ZAL.can (b,())) []) (EQ Tryz.f17 (Zsk (b,())) [])
theorem ZCp(c44:CT 44 JK)(c43:CT 43 Z50)(hb:∀ (b:Bnd) (_:Unit),ZnY (b,())->ZFg b):CT 17 Z54:=
 Z1 (l:=[(44,JK),(43,Z50)]) Zk rfl (⟨c44,c43,trivial⟩) Zyx Tryz.func17 rfl rfl 1 (fun _=> rfl) V2 (fun ⟨b,_⟩=> hb b ())
def Zmh:List (FuncId × Fs U):=[(11,JL),(15,Zdw)]
def Zyt:Zg U:=lvl [([2,3],[2,3]),([2,3,20],[2,3]),([4],[]),([2,3,5],[2,3]),([2,3,5,25],[2,3]),([2,3,5],[2,3]),([2,3,5,39],[2,3]),([4],[]),([4],[])]
def Za4(a b:Bnd)(d:Int):LSt U:=(L2 [pL 2,pL 3,pI 5 d] [(.loc 2,(enc .bundle a)),(.loc 3,(enc .bundle b))])
abbrev A21(p:List Nat):=AW (Z2 Zmh) Tryz.f21 Zyt p
abbrev S21(p:List Nat):=SW (Z2 Zmh) Tryz.f21 Zyt p
theorem ZIs(a b:Bnd)(Q:QT)(h:∀ s,s=(Bnd.first a)->∀ d,d=(Bnd.first b)->let z0:= !(Yd s d);((Z1y (s,d,()))/\(Tt (!z0))/\(Tt (!z0))/\(Tt (!z0))/\(Tt (!z0))/\(Tt (!z0))/\(Tt (!z0))/\(z0=false->(!z0)=true)/\(iB (bif z0 then true else ((((Bnd.log a).length:Int):Int) !=((Bnd.log b).length:Int))) ((Q .ret (L2 [pB 4 false] []))) ((Zl (A21 [1,1,0,1,0,0]) (Za4 a b 0) (xB 0 (S21 [1,1,1] Q))))))):
  A21 [] (L2 [(0,.agg (enc .bundle a)),(1,.agg (enc .bundle b))] []) Q:=
 (Eq.mpr V5 (h _ (Z0 _) _ (Z0 _)):)
theorem ZwY(a b:Bnd)(d:Int)(N0:NT)(Q:QT)(h:∀ ab,ab=(List.getD (Bnd.log a) d.toNat Edit.nil)->∀ aa,aa=(List.getD (Bnd.log b) d.toNat Edit.nil)->∀ s,s=ab->∀ u,u=aa->(iB (decide (d < ((Bnd.log a).length:Int))) (((0:Int)<=d/\d < ((Bnd.log a).length:Int))/\((0:Int)<=d/\d < ((Bnd.log b).length:Int))/\(Z8P (s,u,()))/\(iB (!(eqX s u)) ((Q .ret (L2 [pB 4 false] []))) ((InR (d+1))/\(N0 (Za4 a b (d+1)))))) ((Q .ret (L2 [pB 4 true] []))))):
  A21 [1,1,0,1,0,0] (Za4 a b d) (xT N0 (xB 0 (S21 [1,1,1] Q))):=
 (Eq.mpr V5 (h _ rfl _ rfl _ (Z8 _) _ (Z8 _)):)
abbrev ZFc(a b:Bnd):Prop:=AW (Z2 Zmh) Tryz.f21 Zyt [] (Zi (ZvF.can (a,b,())) []) (EQ Tryz.f21 (ZAm (a,b,())) [])
theorem ZCl(c11:CT 11 JL)(c15:CT 15 Zdw)(hb:∀ (a:Bnd) (b:Bnd) (_:Unit),Ze6 (a,b,())->ZFc a b):CT 21 Zdt:=
 Z1 (l:=[(11,JL),(15,Zdw)]) Zk rfl (⟨c11,c15,trivial⟩) Zyt Tryz.func21 rfl rfl 2 (fun _=> rfl) V2 (fun ⟨a,b,_⟩=> hb a b ())
end
theorem c16:Contract Tryz.prog cfg 16 Z55:=by
 refine ZCq Zff.1 ZuY.1 ?_
 intro b _ hp
 obtain ⟨he,hl⟩:=hp
 dsimp only at he hl
 have fin:∀ {X:Tree} {s:LSt U},Z1o b.first b.log=X->ZF cfg Tryz.f16.ntmps Tryz.f16.results.toList (.agg (enc .tree X)) [] .ret s->ZF cfg Tryz.f16.ntmps Tryz.f16.results.toList (Zsk (b,())) [] .ret s:=by
  intro X s h hs
  subst h
  exact hs
 refine ZIx b _ ?_
 refine Z4 (ι:=Int × List Tree) (fun s=> Za9 b s.1 s.2) (fun s=> ((0<=s.1/\s.1<=b.log.length)/\(s.2.length:Int)=s.1)/\s.2++(b.log.drop s.1.toNat).map (fun e=> ZT (Zq e))=b.log.map fun e=> ZT (Zq e)) (fun s=> ((b.log.length:Int) - s.1).toNat) (0,[]) rfl ⟨⟨⟨V3,V3⟩,rfl⟩,rfl⟩ ?_
 rintro ⟨i,q⟩ ⟨⟨⟨i0,i1⟩,li⟩,hq⟩
 dsimp only at i0 i1 li hq
 refine Zx3 b i q _ _ ?_
 intro y1 e1 y2 e2 y3 e3 y4 e4 y5 e5
 subst y3
 subst e1
 subst e4 e5
 (simp only [iB,vcT,vcS])
 refine ⟨fun hi=> ?_,fun hi=> ?_⟩
 .have u:y2∈b.log:=by rw [e2];exact Zb V0 _
  obtain ⟨⟨m,g⟩,d,r⟩:=he y2 u
  have mn:=Z02 y2
  have st:=Z9e i0 hi Edit.nil hq
  rw [<-e2] at st
  exact ⟨⟨i0,hi⟩,⟨V3,d,r⟩,⟨⟨V3,J1 _ _ r g⟩,d,Yi _ _ r⟩,by rw [List.length_singleton];omega,V4,(i+1,q++[ZT (Zq y2)]),rfl,⟨⟨⟨V3,V3⟩,by rw [List.length_append,List.length_singleton];dsimp only;omega⟩,st⟩,V3⟩
 .have hq:=Z9f hi hq
  rw [Z17 (n:=(b.log.length:Int)) V0 V0]
  exact fin (X:= .mk 1 [(b.log.length:Int)] [b.first,.mk 8 [] q]) (by rw [hq];rfl) V1
theorem c17:Contract Tryz.prog cfg 17 Z54:=by
 refine ZCp ZuX.1 c43 ?_
 intro b _ hp
 obtain ⟨he,hl⟩:=hp
 dsimp only at he hl
 have fin:∀ {X:Tree} {s:LSt U},Z1o b.first b.log=X->ZF cfg Tryz.f17.ntmps Tryz.f17.results.toList (.agg (enc .tree X)) [] .ret s->ZF cfg Tryz.f17.ntmps Tryz.f17.results.toList (Zsk (b,())) [] .ret s:=by
  intro X s h hs
  subst h
  exact hs
 refine ZIw b _ ?_
 refine Z4 (ι:=Int × List Tree) (fun s=> Za8 b s.1 s.2) (fun s=> ((0<=s.1/\s.1<=b.log.length)/\(s.2.length:Int)=s.1)/\s.2++(b.log.drop s.1.toNat).map (fun e=> ZT (Zq e))=b.log.map fun e=> ZT (Zq e)) (fun s=> ((b.log.length:Int) - s.1).toNat) (0,[]) rfl ⟨⟨⟨V3,V3⟩,rfl⟩,rfl⟩ ?_
 rintro ⟨i,q⟩ ⟨⟨⟨i0,i1⟩,li⟩,hq⟩
 dsimp only at i0 i1 li hq
 refine Zx2 b i q _ _ ?_
 intro y1 e1 y2 e2 y3 e3 y4 e4 y5 e5
 subst y3
 subst e1
 subst e4 e5
 (simp only [iB,vcT,vcS])
 refine ⟨fun hi=> ?_,fun hi=> ?_⟩
 .have u:y2∈b.log:=by rw [e2];exact Zb V0 _
  obtain ⟨⟨m,g⟩,d,r⟩:=he y2 u
  have mn:=Z02 y2
  have st:=Z9e i0 hi Edit.nil hq
  rw [<-e2] at st
  exact ⟨⟨i0,hi⟩,⟨V3,d,r⟩,⟨⟨V3,J1 _ _ r g⟩,d,Yi _ _ r⟩,by rw [List.length_singleton];omega,V4,(i+1,q++[ZT (Zq y2)]),rfl,⟨⟨⟨V3,V3⟩,by rw [List.length_append,List.length_singleton];dsimp only;omega⟩,st⟩,V3⟩
 .have hq:=Z9f hi hq
  rw [Z17 (n:=(b.log.length:Int)) V0 V0]
  exact fin (X:= .mk 1 [(b.log.length:Int)] [b.first,.mk 8 [] q]) (by rw [hq];rfl) V1
theorem c21:Contract Tryz.prog cfg 21 Zdt:=by
 refine ZCl c11 c15 ?_
 intro a b _ hp
 obtain ⟨⟨d,hl⟩,hm,he⟩:=hp
 dsimp only at d hl hm he
 subst d
 refine ZIs a a _ ?_
 intro y1 e1 y2 e2
 subst e1 e2
 rw [Yh.2 (rfl:a.first=a.first)]
 (simp only [iB,vcT,vcS])
 refine ⟨hm,fun h=> by simp at h,?_⟩
 refine Z4 (ι:=Int) (fun s=> Za4 a a s) (fun s=> 0<=s/\s<=a.log.length) (fun s=> ((a.log.length:Int) - s).toNat) 0 rfl ⟨V0,V0⟩ ?_
 rintro i ⟨i0,i1⟩
 refine ZwY a a i _ _ ?_
 intro y1 e1 y2 e2 y3 e3 y4 e4
 subst y3
 subst y4
 have ab:y2=y1:=by rw [e2,e1]
 subst ab
 rw [ZuN]
 (simp only [iB,vcT,vcS])
 refine ⟨fun hi=> ?_,fun hi=> by (repeat' (first | exact trivial | exact rfl | apply And.intro))⟩
 have u:y2∈a.log:=by rw [e2];exact Zb V0 _
 exact ⟨⟨i0,hi⟩,⟨i0,hi⟩,he y2 u,fun h=> by simp at h,V4,i+1,rfl,⟨V0,V0⟩,V0⟩
noncomputable section
def Zgj(a:Tree × Unit):Prop:=(Zh a.1<=10000000/\rng a.1)/\∀ l,rdL (Zm a.1 1).kids=some l->ctL l<=9000000000
def Zsd(a:Tree × Unit):V U:= .tup [(true,(enc .bundle (Bnd.mk (rdB a.1).1 (rdB a.1).2.1))),(false,[.bool ((rdB a.1).2.2)])]
def Zdv:Fs U:=fs ZvE (fun a=> [Zgj a]) Zsd
def Zmk:List (FuncId × Fs U):=[(45,Z0v),(46,Zdn),(42,JK),(12,Zdy),(16,Z55),(47,YX)]
def Zyw:Zg U:=lvk [([1,2],[1,2]),([1,2,4],[1,2,4]),([1,2,4,5],[1,2,4,5]),([1,2,4,5,22],[1,2,4,5]),([2,3],[2]),([1,2,4,25,26,27],[1,2,((.loc 4),(an 3 [.own .edit]))]),([1,2,4,25,26,27,28],[1,2,4]),([1,2,4,7,25,26,27],[1,2,4,7]),([1,2,4,8,9,25,26,27],[1,2,4,8]),([1,2,4,8,25,26,27,37],[1,2,4,8]),([2,3],[2]),([1,2,4,25,26,27],[1,2,4]),([1,2,4,25,26,27],[1,2,((.loc 4),(an 3 [.own .edit]))]),([2,4,56],[2,4]),([2,3],[2]),([2,3],[2])]
def Za7(t:Tree)(h:Int)(d:List Edit):LSt U:=(L2 [pL 1,pL 2,pL 4,(25,.c (sU .tree (Tree.kids (ZI (Tree.mk t.kind t.words t.kids) 1)) .unk)),(26,.c (ci ((Tree.kids (ZI (Tree.mk t.kind t.words t.kids) 1)).length:Int))),pI 27 h] [(.loc 1,(enc .tree t)),(.loc 2,[ci 0,.nils,.nils,.nils]),(.loc 4,(enc .tree (ZI (Tree.mk t.kind t.words t.kids) 0)++[sU .edit d (.own (.l 4 3))]))])
abbrev A18(p:List Nat):=AW (Z2 Zmk) Tryz.f18 Zyw p
abbrev S18(p:List Nat):=SW (Z2 Zmk) Tryz.f18 Zyw p
theorem ZIv(t:Tree)(Q:QT)(h:let z0:=Tree.mk t.kind t.words t.kids;((Z4O (z0,0,()))/\((Z4O (z0,1,()))/\((Tt (!(t.kind !=1)))/\(Tt (!(t.kind !=1)))/\((t.kind !=1)=false->(!(t.kind !=1))=true)/\(iB (bif (t.kind !=1) then true else (((Tree.kind (ZI z0 1)):Int) !=8)) ((Q .ret (L2 [pL 2,pB 3 false] [(.loc 2,[ci 0,.nils,.nils,.nils])]))) ((Zl (A18 [1,1,1,1,0,1,0,0]) (Za7 t 0 []) (xB 0 (S18 [1,1,1,1,1] Q))))))))):
  A18 [] (L2 [(0,.agg (enc .tree t))] []) Q:=
 (Eq.mpr V5 h:)
theorem Zx1(t:Tree)(ab:Int)(d:List Edit)(N0:NT)(Q:QT)(h:∀ aa,aa=t->∀ u,u=(ZI aa 0)->∀ aj,aj=(List.getD (Tree.kids (ZI aa 1)) ab.toNat Tree.nil)->∀ ae,ae=aj->∀ ak,ak=(Z1o (Bnd.first (Bnd.mk u d)) (Bnd.log (Bnd.mk u d)))->∀ s,s=(atN (Bnd.first (Bnd.mk u d)) (Bnd.log (Bnd.mk u d)) (Bnd.log (Bnd.mk u d)).length)->∀ ah,ah=ak->∀ af,af=((rdP ae).1)->∀ ai,ai=(Zq af)->let z0:=(Q .ret (L2 [pL 2,pB 3 false] [(.loc 2,[ci 0,.nils,.nils,.nils])]));(iB (decide (ab < ((Tree.kids (ZI aa 1)).length:Int))) (((0:Int)<=ab/\ab < ((Tree.kids (ZI aa 1)).length:Int))/\((ZbH (ae,()))/\(iB (!((rdP ae).2)) z0 ((Z1O (af,()))/\((d.length+([ai]).length)*200<=140737488355328)/\((InR (ab+1))/\(N0 (Za7 t (ab+1) (d++([ai]))))))))) ((ZsX ((Bnd.mk u d),()))/\(Tt (!(!(s.2))))/\((!(!(s.2)))=true->ZnY ((Bnd.mk u d),()))/\(Tt (!(!(s.2))))/\(Tt (!(!(s.2))))/\((!(!(s.2)))=true->Z39 (ah,aa,()))/\(Tt (!(!(s.2))))/\((!(s.2))=false->(!(!(s.2)))=true)/\(iB (bif (!(s.2)) then true else (!(Yd (Z3 ah) (Z3 aa)))) z0 ((Q .ret (L2 [pL 2,pB 3 true] [(.loc 2,(enc .tree (ZI aa 0)++[sU .edit d (.own (.l 2 3))]))]))))))):
  A18 [1,1,1,1,0,1,0,0] (Za7 t ab d) (xT N0 (xB 0 (S18 [1,1,1,1,1] Q))):=
 (Eq.mpr V5 (h _ (Z0 _) _ (Z0 _) _ rfl _ (Z0 _) _ rfl _ rfl _ (Z0 _) _ (Z8 _) _ (Z8 _)):)
abbrev ZFf(t:Tree):Prop:=AW (Z2 Zmk) Tryz.f18 Zyw [] (Zi (ZvE.can (t,())) []) (EQ Tryz.f18 (Zsd (t,())) [])
theorem ZCo(c45:CT 45 Z0v)(c46:CT 46 Zdn)(c42:CT 42 JK)(c12:CT 12 Zdy)(c16:CT 16 Z55)(c47:CT 47 YX)(hb:∀ (t:Tree) (_:Unit),Zgj (t,())->ZFf t):CT 18 Zdv:=
 Z1 (l:=[(45,Z0v),(46,Zdn),(42,JK),(12,Zdy),(16,Z55),(47,YX)]) Zk rfl (⟨c45,c46,c42,c12,c16,c47,trivial⟩) Zyw Tryz.func18 rfl rfl 1 (fun _=> rfl) V2 (fun ⟨t,_⟩=> hb t ())
def Zmj:List (FuncId × Fs U):=[(48,Zdn),(44,JK),(10,Z56),(17,Z54),(25,YX)]
def Zyv:Zg U:=lvk [([1,2],[1,2]),([1,2,26],[1,2]),([2,3],[2]),([1,2,4],[1,2,4]),([1,2,4,5],[1,2,((.loc 4),(an 3 [.own .edit]))]),([1,2,4,5,40],[1,2,4]),([1,2,4,5],[1,2,((.loc 4),(an 3 [.own .edit]))]),([1,2,4,5,6,7],[1,2,4,6]),([1,2,4,5,6,56],[1,2,4,6]),([2,3],[2]),([1,2,4,5],[1,2,4]),([1,2,4,9],[1,2,4]),([2,4,81],[2,4]),([2,3],[2]),([2,3],[2])]
def Za6(t:Tree)(h:Int)(d:List Edit):LSt U:=(L2 [pL 1,pL 2,pL 4,pI 5 h] [(.loc 1,(enc .tree t)),(.loc 2,[ci 0,.nils,.nils,.nils]),(.loc 4,(enc .tree (List.getD t.kids (Int.toNat 0) Tree.nil)++[sU .edit d (.own (.l 4 3))]))])
abbrev A19(p:List Nat):=AW (Z2 Zmj) Tryz.f19 Zyv p
abbrev S19(p:List Nat):=SW (Z2 Zmj) Tryz.f19 Zyv p
theorem ZIu(t:Tree)(Q:QT)(h:let z0:=bif (t.kind !=1) then true else (decide (((t.kids.length:Int):Int) < 2));((Tt (!(t.kind !=1)))/\(Tt (!(t.kind !=1)))/\(Tt (!(t.kind !=1)))/\((t.kind !=1)=false->(!(t.kind !=1))=true)/\(Tt (!z0))/\(Tt (!z0))/\((!z0)=true->(0:Int)<=1/\1 < (t.kids.length:Int))/\(Tt (!z0))/\(Tt (!z0))/\(Tt (!z0))/\(z0=false->(!z0)=true)/\(iB (bif z0 then true else (((Tree.kind (List.getD t.kids (Int.toNat 1) Tree.nil)):Int) !=8)) ((Q .ret (L2 [pL 2,pB 3 false] [(.loc 2,[ci 0,.nils,.nils,.nils])]))) (((0:Int)<=0/\0 < (t.kids.length:Int))/\(Zl (A19 [1,1,1,0,1,0,0]) (Za6 t 0 []) (xB 0 (S19 [1,1,1,1] Q))))))):
  A19 [] (L2 [(0,.agg (enc .tree t))] []) Q:=
 (Eq.mpr V5 h:)
theorem Zx0(t:Tree)(x5:Int)(d:List Edit)(N0:NT)(Q:QT)(h:∀ ak,ak=t->∀ aj,aj=(List.getD t.kids (Int.toNat 0) Tree.nil)->∀ ae,ae=(List.getD t.kids (Int.toNat 1) Tree.nil)->∀ u,u=aj->∀ am,am=(ae.kids.getD x5.toNat Tree.nil)->∀ af,af=am->∀ al,al=(Z1o (Bnd.first (Bnd.mk u d)) (Bnd.log (Bnd.mk u d)))->∀ s,s=(atM (Bnd.first (Bnd.mk u d)) (Bnd.log (Bnd.mk u d)) (d.length:Int))->∀ ah,ah=al->∀ aa,aa=((rdP af).1)->∀ ab,ab=(Zq aa)->let z0:=(Q .ret (L2 [pL 2,pB 3 false] [(.loc 2,[ci 0,.nils,.nils,.nils])]));((0:Int)<=1/\1 < (t.kids.length:Int))/\(iB (decide (x5 < (ae.kids.length:Int))) (((0:Int)<=1/\1 < (t.kids.length:Int))/\((0:Int)<=x5/\x5 < (ae.kids.length:Int))/\(ZbH (af,()))/\(iB (!((rdP af).2)) z0 ((Z1O (aa,()))/\((d.length+([ab]).length)*200<=140737488355328)/\((InR (x5+1))/\(N0 (Za6 t (x5+1) (d++([ab])))))))) ((ZnZ ((Bnd.mk u d),(d.length:Int),()))/\((Tt (!(!(s.2))))/\((!(!(s.2)))=true->ZnY ((Bnd.mk u d),()))/\(Tt (!(!(s.2))))/\(Tt (!(!(s.2))))/\((!(!(s.2)))=true->Z39 (ah,ak,()))/\(Tt (!(!(s.2))))/\((!(s.2))=false->(!(!(s.2)))=true)/\(iB (bif (!(s.2)) then true else (!(Yd (Z3 ah) (Z3 ak)))) z0 ((Q .ret (L2 [pL 2,pB 3 true] [(.loc 2,(enc .tree aj++[sU .edit d (.own (.l 2 3))]))])))))))):
  A19 [1,1,1,0,1,0,0] (Za6 t x5 d) (xT N0 (xB 0 (S19 [1,1,1,1] Q))):=
 (Eq.mpr V5 (h _ (Z0 _) _ rfl _ rfl _ (Z0 _) _ rfl _ (Z0 _) _ rfl _ rfl _ (Z0 _) _ (Z8 _) _ (Z8 _)):)
abbrev ZFe(t:Tree):Prop:=AW (Z2 Zmj) Tryz.f19 Zyv [] (Zi (ZvE.can (t,())) []) (EQ Tryz.f19 (Zsd (t,())) [])
theorem ZCn(c48:CT 48 Zdn)(c44:CT 44 JK)(c10:CT 10 Z56)(c17:CT 17 Z54)(c25:CT 25 YX)(hb:∀ (t:Tree) (_:Unit),Zgj (t,())->ZFe t):CT 19 Zdv:=
 Z1 (l:=[(48,Zdn),(44,JK),(10,Z56),(17,Z54),(25,YX)]) Zk rfl (⟨c48,c44,c10,c17,c25,trivial⟩) Zyv Tryz.func19 rfl rfl 1 (fun _=> rfl) V2 (fun ⟨t,_⟩=> hb t ())
end
theorem ZDH{f:Tree}(l:List Edit):Zh (Z1o f l)<=3+Zh f+8*ctL l:=by
 have:=Zqv l
 unfold Z1o
 simp only [Zh,Ze,Q8,Qj]
 omega
theorem Zjk{ks:List Tree}{l:List Edit}{x:Tree}{r:List Tree}(h:rdL ks=(rdL (x ::r)).map (l++·))(hx:(rdP x).2=false):rdL ks=none:=by
 rw [h,rdL,if_neg (by rw [hx];decide)];try rfl
theorem Zjj{ks:List Tree}{l:List Edit}{x:Tree}{r:List Tree}(h:rdL ks=(rdL (x ::r)).map (l++·))(hx:(rdP x).2=true):rdL ks=(rdL r).map ((l++[Zq (rdP x).1])++·):=by
 rw [h,rdL,if_pos hx]
 cases rdL r with
 | none=> rfl
 | some q=> show some (l++(_ ::q))=some _;simp
theorem ZnP{ks:List Tree}{l:List Edit}(h:rdL ks=(rdL []).map (l++·)):rdL ks=some l:=by
 rw [h];show some (l++[])=_;rw [Qr]
theorem ZeS(t:Tree)(i:Nat):(Zm t i).kids.length<=Zh t:=by
 have:=Zs (Zm t i).kids
 have:=JD (Zm t i)
 have:=Yk t i
 omega
theorem ZdX{t:Tree}{l:List Edit}(hm:Zh t<=10000000)(hg:rng t)(hc:∀ l,rdL (Zm t 1).kids=some l->ctL l<=9000000000)(h:rdL (Zm t 1).kids=some l):
  (((Zh (Zm t 0)<=1000000000/\rng (Zm t 0))/\ctL l<=9000000000)/\∀ e∈l,Zd e<=1000000000/\Y0 e)/\((∀ e∈l,(Zd e<=100000000/\Y0 e)/\∃ d,Z6 e d=true)/\l.length<=10000000)/\Zh (Z1o (Zm t 0) l)<=1000000000000:=by
 have A:=(Zhv h fun k u=> Z0M (Y5 hg 1) u).1
 have mK:Ze (Zm t 1).kids<=Zh t:=by have:=JD (Zm t 1);have:=Yk t 1;omega
 have c:=hc l h
 have b:=ZDH (f:=Zm t 0) l
 have m0:=Yk t 0
 have len:∀ {ks:List Tree} {l:List Edit},rdL ks=some l->l.length=ks.length:=by
  intro ks
  induction ks with
  | nil=> intro l h;injection h with h;subst h;rfl
  | cons k r ih=>
   intro l h
   rw [rdL] at h
   split at h
   .cases hr:rdL r with
    | none=> rw [hr] at h;cases h
    | some q=> rw [hr] at h;injection h with h;subst h;rw [Qe,Qe,ih hr]
   .cases h
 have ll:=len h
 have kl:=ZeS t 1
 refine ⟨⟨⟨⟨V0,Y5 hg 0⟩,c⟩,fun e s=> ⟨by have:=(A e s).2;omega,(A e s).1.2⟩⟩,⟨fun e s=> ⟨⟨by have:=(A e s).2;omega,(A e s).1.2⟩,64,(A e s).1.1⟩,V0⟩,V0⟩
theorem c18:Contract Tryz.prog cfg 18 Zdv:=by
 refine ZCo c45 c46 Zff.1 c12 c16 c47 ?_
 intro t _ hp
 obtain ⟨⟨hm,hg⟩,hc⟩:=hp
 dsimp only at hm hg hc
 have fin:∀ {X:Tree × List Edit × Bool} {s:LSt U},rdB t=X->ZF cfg Tryz.f18.ntmps Tryz.f18.results.toList (.tup [(true,enc .bundle (Bnd.mk X.1 X.2.1)),(false,[.bool X.2.2])]) [] .ret s->ZF cfg Tryz.f18.ntmps Tryz.f18.results.toList (Zsd (t,())) [] .ret s:=by
  intro X s h hs
  subst h
  exact hs
 have u:=rdB.eq_1 t
 have kl:=ZeS t 1
 refine ZIv t _ ?_
 (simp only [vE])
 simp only [kA1]
 (simp only [iB,vcT,vcS])
 refine ⟨trivial,trivial,fun h=> fin (X:=(Tree.nil,[],false)) (by rw [u,JC]) V1,fun h=> ?_⟩
 rw [if_pos h] at u
 refine Z4 (ι:=Int × List Edit) (fun s=> Za7 t s.1 s.2) (fun s=> ((0<=s.1/\s.1<=(Zm t 1).kids.length)/\(s.2.length:Int)=s.1)/\rdL (Zm t 1).kids=(rdL ((Zm t 1).kids.drop s.1.toNat)).map (s.2++·)) (fun s=> (((Zm t 1).kids.length:Int) - s.1).toNat) (0,[]) rfl ⟨⟨⟨V3,V3⟩,rfl⟩,by show _=(rdL (Zm t 1).kids).map _;cases rdL (Zm t 1).kids <;> rfl⟩ ?_
 rintro ⟨i,l⟩ ⟨⟨⟨i0,i1⟩,li⟩,hl⟩
 dsimp only at i0 i1 li hl
 refine Zx1 t i l _ _ ?_
 intro y1 e1 y2 e2 y3 e3 y4 e4 y5 e5 y6 e6 y7 e7 y8 e8 y9 e9
 subst y1
 subst y4
 subst y7
 simp only [kA0,kA1] at e2 e3 ⊢
 subst e2
 have e5:y5=Z1o (Zm t 0) l:=e5
 have e6:y6=atN (Zm t 0) l l.length:=e6
 subst e5 e6 e9
 subst e8
 (simp only [iB,vcT,vcS])
 refine ⟨fun hi=> ?_,fun hi=> ?_⟩
 .have d:y3∈(Zm t 1).kids:=by rw [e3];exact Zb V0 _
  have gx:=Z0M (Y5 hg 1) d
  have m1:=Y2 d
  have m2:=JD (Zm t 1)
  have m3:=Yk t 1
  rw [Y1 i0 hi Tree.nil,<-e3] at hl
  refine ⟨⟨i0,hi⟩,⟨V3,gx⟩,fun hf=> fin (X:=(Tree.nil,[],false)) (by rw [u,Zjk hl hf]) V1,fun ht=> ?_⟩
  have p:=Zlj ht
  have mr:=Z3N _ y3 (Qc _)
  rw [<-p.2] at mr
  exact ⟨⟨V3,64,p.1⟩,by rw [List.length_singleton];omega,V4,(i+1,l++[Zq (rdP y3).1]),rfl,⟨⟨⟨V3,V3⟩,by rw [List.length_append,List.length_singleton];dsimp only;omega⟩,Zjj hl ht⟩,V3⟩
 .have hl:rdL (Zm t 1).kids=some l:=ZnP (by rw [hl,Q6 V0])
  obtain ⟨F1,F2,F3⟩:=ZdX hm hg hc hl
  rw [hl] at u
  dsimp only at u
  exact ⟨F1,fun _=> F2,fun _=> ⟨F3,V3⟩,fun h=> fin (X:=(Tree.nil,[],false)) (by rw [u,if_neg (by intro c;rcases h with h | h;rw [c.1] at h;cases h;rw [c.2] at h;cases h)]) V1,fun h=> fin (X:=(Zm t 0,l,true)) (by rw [u,if_pos (by simpa using h)]) V1⟩
theorem c19:Contract Tryz.prog cfg 19 Zdv:=by
 refine ZCn c48 ZuX.1 c10 c17 c25 ?_
 intro t _ hp
 obtain ⟨⟨hm,hg⟩,hc⟩:=hp
 dsimp only at hm hg hc
 have fin:∀ {X:Tree × List Edit × Bool} {s:LSt U},rdB t=X->ZF cfg Tryz.f19.ntmps Tryz.f19.results.toList (.tup [(true,enc .rbundle (Bnd.mk X.1 X.2.1)),(false,[.bool X.2.2])]) [] .ret s->ZF cfg Tryz.f19.ntmps Tryz.f19.results.toList (Zsd (t,())) [] .ret s:=by
  intro X s h hs
  subst h
  exact hs
 have u:=rdB.eq_1 t
 have kl:=ZeS t 1
 have k1:(t.kids.length:Int) < 2->(Zm t 1).kind=0:=fun h=> by
  unfold Zm
  rw [Q9,Qp V0]
  try rfl
 have g1:List.getD t.kids (Int.toNat 1) Tree.nil=Zm t 1:=rfl
 have g0:List.getD t.kids (Int.toNat 0) Tree.nil=Zm t 0:=rfl
 refine ZIu t _ ?_
 rw [g1]
 (simp only [iB,vcT,vcS])
 refine ⟨fun h=> ⟨V0,V0⟩,fun h=> fin (X:=(Tree.nil,[],false)) (by rw [u,if_neg (by rintro ⟨a,b⟩;rcases h with (h | h) | h;exact h a;have:=k1 h;omega;exact h b)]) V1,fun h=> ⟨⟨V0,V0⟩,?_⟩⟩
 obtain ⟨⟨ha,hb⟩,h8⟩:=h
 rw [if_pos ⟨ha,h8⟩] at u
 refine Z4 (ι:=Int × List Edit) (fun s=> Za6 t s.1 s.2) (fun s=> ((0<=s.1/\s.1<=(Zm t 1).kids.length)/\(s.2.length:Int)=s.1)/\rdL (Zm t 1).kids=(rdL ((Zm t 1).kids.drop s.1.toNat)).map (s.2++·)) (fun s=> (((Zm t 1).kids.length:Int) - s.1).toNat) (0,[]) rfl ⟨⟨⟨V3,V3⟩,rfl⟩,by show _=(rdL (Zm t 1).kids).map _;cases rdL (Zm t 1).kids <;> rfl⟩ ?_
 rintro ⟨i,l⟩ ⟨⟨⟨i0,i1⟩,li⟩,hl⟩
 dsimp only at i0 i1 li hl
 refine Zx0 t i l _ _ ?_
 intro y1 e1 y2 e2 y3 e3 y4 e4 y5 e5 y6 e6 y7 e7 y8 e8 y9 e9 a3 af az ab
 subst y1
 subst y4
 subst y6
 subst y9
 rw [g1] at e3
 rw [g0] at e2
 subst e2 e3
 have e7:y7=Z1o (Zm t 0) l:=e7
 have e8:y8=atN (Zm t 0) l l.length:=e8.trans (ZAJ _ _ _).symm
 subst e7 e8 ab
 subst af
 (simp only [iB,vcT,vcS])
 refine ⟨⟨V0,V0⟩,fun hi=> ?_,fun hi=> ?_⟩
 .have d:y5∈(Zm t 1).kids:=by rw [e5];exact Zb V0 _
  have gx:=Z0M (Y5 hg 1) d
  have m1:=Y2 d
  have m2:=JD (Zm t 1)
  have m3:=Yk t 1
  rw [Y1 i0 hi Tree.nil,<-e5] at hl
  refine ⟨⟨V0,V0⟩,⟨i0,hi⟩,⟨V3,gx⟩,fun hf=> fin (X:=(Tree.nil,[],false)) (by rw [u,Zjk hl hf]) V1,fun ht=> ?_⟩
  have p:=Zlj ht
  have mr:=Z3N _ y5 (Qc _)
  rw [<-p.2] at mr
  exact ⟨⟨V3,64,p.1⟩,by rw [List.length_singleton];omega,V4,(i+1,l++[Zq (rdP y5).1]),rfl,⟨⟨⟨V3,V3⟩,by rw [List.length_append,List.length_singleton];dsimp only;omega⟩,Zjj hl ht⟩,V3⟩
 .have hl:rdL (Zm t 1).kids=some l:=ZnP (by rw [hl,Q6 V0])
  obtain ⟨F1,F2,F3⟩:=ZdX hm hg hc hl
  rw [hl] at u
  dsimp only at u
  exact ⟨F1,fun _=> F2,fun _=> ⟨F3,V3⟩,fun h=> fin (X:=(Tree.nil,[],false)) (by rw [u,if_neg (by intro c;rcases h with h | h;rw [c.1] at h;cases h;rw [c.2] at h;cases h)]) V1,fun h=> fin (X:=(Zm t 0,l,true)) (by rw [u,if_pos (by simpa using h)]) V1⟩
noncomputable section
def ZAO:ArgL (Bnd × Tree × Unit):=(.cons (aEl .rbundle) (.cons (aEl .tree) .nil))
def ZBu(a:Bnd × Tree × Unit):Prop:=(Z2t (Bnd.first a.1)/\rng (Bnd.first a.1)/\(∀ e∈Bnd.log a.1,Z3p e/\Y0 e)/\(Bnd.log a.1).length<=17592186044416)/\Z2t a.2.1/\rng a.2.1
def ZGs(a:Bnd × Tree × Unit):V U:= .c (.bool true)
def Zn5:Fs U:=fs ZAO (fun a=> [ZBu a]) ZGs
def ZAw:List (FuncId × Fs U):=[(6,ZiO),(7,ZiN),(8,ZiM),(10,Z56),(11,JL),(16,Z55),(17,Z54),(18,Zdv),(19,Zdv),(20,Zdj),(21,Zdt),(22,Z52)]
def lv4:Zg U:=lvl [([2,3],[2,3]),([2,3,18],[2,3]),([4],[]),([2,3,6],[2,3]),([2,3,28],[2,3]),([2,3,7],[2,3,7]),([3,7,36],[3,7]),([4],[]),([3,7,8,9],[3,7,8]),([3,7,8,9,10,11],[3,7,8,10]),([3,62],[3]),([4],[]),([3,70],[3]),([4],[]),([3,12,13],[3,12]),([12,13,14,15],[12,14]),([4],[])]
abbrev A4(p:List Nat):=AW (Z2 ZAw) Tryz.f4 lv4 p
theorem vc4(b:Bnd)(t:Tree)(Q:QT)(h:∀ s,s=t->∀ u,u=b->∀ ab,ab=u->∀ aa,aa=(Bnd.mk (rdB s).1 (rdB s).2.1)->∀ af,af=(Z1o (Bnd.first u) (Bnd.log u))->∀ d,d=(Z1o (Bnd.first ab) (Bnd.log ab))->∀ ae,ae=(Bnd.mk (rdB d).1 (rdB d).2.1)->let z9:=(Q .ret (L2 [pB 4 false] []));let z7:=Q .ret (L2 [pB 4 true] []);let z6:= !((rdB d).2.2);let z2:=bif z6 then true else z6;let z4:=(Za d 64) && (!z2);let z1:= !(decide (0<=ZD s 80 3000));let z8:=bif z1 then true else (!(Za s 64));let z0:=((rdB s).2.2)==((rdB s).2.2);let z3:=bif z0 then true else false;let z5:=Q .ret (L2 [(4,.c (.bool (bif z3 then true else false)))] []);((pre6 (u,()))/\(iB (!(Zmw (Bnd.first u) (Bnd.log u))) ((Zll ())/\z7) ((ZnZ (u,((Bnd.log b).length:Int),()))/\(iB ((atM (Bnd.first u) (Bnd.log u) ((Bnd.log b).length:Int)).2) ((ZBt (u,()))/\(ZnY (ab,()))/\((ZnY (u,()))/\(Z1y (d,af,()))/\(iB (!(Yd d af)) z9 ((Zgj (d,()))/\((Zgj (d,()))/\((ZbI (d,64,()))/\(Tt (Za d 64))/\(Tt (Za d 64))/\(Tt ((Za d 64) && (!z6)))/\((Za d 64)=true->(True->(Za d 64)=true))/\((Za d 64)=true->(z6=false->((Za d 64) && (!z6))=true))/\(Tt (Za d 64))/\(Tt z4)/\(Tt z4)/\(z4=true->Ze6 (ae,ae,()))/\(Tt z4)/\((Za d 64)=true->(True->(Za d 64)=true))/\((Za d 64)=true->(z2=false->z4=true))/\(Tt (Za d 64))/\(iB (bif (Za d 64) then (bif z2 then true else (!true)) else false) z9 ((Zjz (s,()))/\(Tt (!z1))/\((!z1)=true->ZbI (s,64,()))/\(Tt (!z1))/\(z1=false->(!z1)=true)/\(iB z8 ((Zll ())/\z7) ((Zgj (s,()))/\((Zgj (s,()))/\((Tt z0)/\(Tt z0)/\(z0=true->Ze6 (aa,aa,()))/\(Tt z0)/\(z3=true->Zll ())/\(Tt z3)/\z5)))))))))))) ((Zjz (s,()))/\(Tt (!z1))/\((!z1)=true->ZbI (s,64,()))/\(Tt (!z1))/\(z1=false->(!z1)=true)/\(iB z8 ((Zll ())/\z7) ((Zgj (s,()))/\((Zgj (s,()))/\((Tt z0)/\(Tt z0)/\(z0=true->Ze6 (aa,aa,()))/\(Tt z0)/\(z3=true->Zll ())/\(Tt z3)/\z5)))))))))):
  A4 [] (L2 [(0,.agg (enc .bundle b)),(1,.agg (enc .tree t))] []) Q:=
 (Eq.mpr V5 (h _ (Z0 _) _ (Z38 _) _ (Z38 _) _ (Z38 _) _ (Z0 _) _ (Z0 _) _ (Z38 _)):)
abbrev ZHs(b:Bnd)(t:Tree):Prop:=AW (Z2 ZAw) Tryz.f4 lv4 [] (Zi (ZAO.can (b,t,())) []) (EQ Tryz.f4 (ZGs (b,t,())) [])
theorem ZGG(c6:CT 6 ZiO)(c7:CT 7 ZiN)(c8:CT 8 ZiM)(c10:CT 10 Z56)(c11:CT 11 JL)(c16:CT 16 Z55)(c17:CT 17 Z54)(c18:CT 18 Zdv)(c19:CT 19 Zdv)(c20:CT 20 Zdj)(c21:CT 21 Zdt)(c22:CT 22 Z52)(hb:∀ (b:Bnd) (t:Tree) (_:Unit),ZBu (b,t,())->ZHs b t):CT 4 Zn5:=
 Z1 (l:=[(6,ZiO),(7,ZiN),(8,ZiM),(10,Z56),(11,JL),(16,Z55),(17,Z54),(18,Zdv),(19,Zdv),(20,Zdj),(21,Zdt),(22,Z52)]) Zk rfl (⟨c6,c7,c8,c10,c11,c16,c17,c18,c19,c20,c21,c22,trivial⟩) lv4 Tryz.func4 rfl rfl 2 (fun _=> rfl) V2 (fun ⟨b,t,_⟩=> hb b t ())
end
end Go.AM.YtfapacabjkhepaaGreat
