import Derived.Test.YtpjenobkibfpcaaKL23r
import Derived.Test.YtpjenobkibfpcaaCD25s
import Derived.Test.YtpjenobkibfpcaaKRB07
set_option linter.unusedSimpArgs false
set_option linter.unusedVariables false
namespace Go.AM.Ytpjenobkibfpcaa
open Go.AM Go.Proofs
noncomputable section
noncomputable section
def Zlc:ArgL (Int × Unit):=(.cons (JR .u8) .nil)
def ZbL(a:Int × Unit):Prop:=0<=a.1/\a.1 < 256
def ZnS(a:Int × Unit):V U:= .c (.int .u64 ((Z0z (a.1).toNat 8:Nat):Int))
def Z6E:Fs U:=fs Zlc (fun a=> [ZbL a]) ZnS
def Z7a:Zf U:=lvl [([0],[]),([0,3],[]),([0,3,5],[]),([0,3,5,6],[]),([0,3,4,5],[]),([0,3,4,5,12],[]),([0,3,5],[]),([0,3,5],[]),([2],[])]
def Z0a(m x3 x5:Int):LSt U:=(L2 [(0,.c (.int .u8 m)),(3,.c (.int .u64 x3)),pI 5 x5] [])
abbrev Zyb(m:Int)(Q:QT):=AW (Z6 Ziq) Try.f105 Z7a [] (L2 [(0,.c (.int .u8 m))] []) Q
abbrev ZiT:=awp cfg (Z6 Ziq) (YD cfg (Z6 Ziq)) Try.f105.ntmps Z7a
abbrev ZhH:=Zny cfg (Z6 Ziq) (YD cfg (Z6 Ziq)) Try.f105.ntmps Z7a
theorem Zxx(m:Int)(Q:QT)(h:Zo (AW (Z6 Ziq) Try.f105 Z7a [1,1,0,1,0,0]) (Z0a m 0 0) (xB 0 (SW (Z6 Ziq) Try.f105 Z7a [1,1,1] Q))):
  Zyb m Q:=by
 have e_:(Zyb m Q)=(Zo (ZiT (cd Try.f105 [1,1,0,1,0,0])) (Z0a m 0 0) (xB 0 (ZhH (cd Try.f105 [1,1,1]) Q))):=by kernel_rfl
 exact e_.mpr h
abbrev Zln(m x3 x5:Int)(N0:NT)(Q:QT):=AW (Z6 Ziq) Try.f105 Z7a [1,1,0,1,0,0] (Z0a m x3 x5) (xT N0 (xB 0 (SW (Z6 Ziq) Try.f105 Z7a [1,1,1] Q)))
theorem Znl(m x3 x5:Int)(N0:NT)(Q:QT)(h:((decide (x5 < 8))=true->((0:Int)<=x5)/\(((((IntKind.wrap .u8 (BitVec.ofInt (IntKind.bits .u8) (Int.fdiv m (2 ^ (min x5.toNat (IntKind.bits .u8)))) &&& BitVec.ofInt (IntKind.bits .u8) 1).toNat):Int)==1)=true->(InR ((8:Int)*x5))/\((0:Int)<=((8:Int)*x5))/\((InR (x5+1))/\(N0 (Z0a m (IntKind.wrap .u64 (BitVec.ofInt (IntKind.bits .u64) x3 ||| BitVec.ofInt (IntKind.bits .u64) (IntKind.wrap .u64 ((255:Int)*2 ^ (min (Int.toNat ((8:Int)*x5)) (IntKind.bits .u64))))).toNat) (x5+1)))))/\((((IntKind.wrap .u8 (BitVec.ofInt (IntKind.bits .u8) (Int.fdiv m (2 ^ (min x5.toNat (IntKind.bits .u8)))) &&& BitVec.ofInt (IntKind.bits .u8) 1).toNat):Int)==1)=false->(InR (x5+1))/\(N0 (Z0a m x3 (x5+1))))))/\((decide (x5 < 8))=false->Q .ret (L2 [(2,.c (.int .u64 x3))] []))):
  Zln m x3 x5 N0 Q:=by
 have e_:(Zln m x3 x5 N0 Q)=(let zz0:=(((IntKind.wrap .u8 (BitVec.ofInt (IntKind.bits .u8) (Int.fdiv m (2 ^ (min x5.toNat (IntKind.bits .u8)))) &&& BitVec.ofInt (IntKind.bits .u8) 1).toNat):Int)==1);(((decide ((x5:Int) < 8))=true->(((0:Int)<=x5)/\((zz0=true->(InR ((8:Int)*x5))/\((0:Int)<=((8:Int)*x5))/\((InR ((x5:Int)+1))/\(N0 (Z0a m (IntKind.wrap .u64 (BitVec.ofInt (IntKind.bits .u64) x3 ||| BitVec.ofInt (IntKind.bits .u64) (IntKind.wrap .u64 ((255:Int)*2 ^ (min (Int.toNat ((8:Int)*x5)) (IntKind.bits .u64))))).toNat) ((x5:Int)+1)))))/\(zz0=false->(InR ((x5:Int)+1))/\(N0 (Z0a m x3 ((x5:Int)+1)))))))/\((decide ((x5:Int) < 8))=false->(Q .ret (L2 [(2,.c (.int .u64 x3))] []))))):=by kernel_rfl
 exact e_.mpr ⟨fun c_1=> ⟨(h.1 c_1).1,⟨fun c_2=> ⟨((h.1 c_1).2.1 c_2).1,((h.1 c_1).2.1 c_2).2.1,⟨((h.1 c_1).2.1 c_2).2.2.1,((h.1 c_1).2.1 c_2).2.2.2⟩⟩,fun c_2=> ⟨((h.1 c_1).2.2 c_2).1,((h.1 c_1).2.2 c_2).2⟩⟩⟩,fun c_1=> (h.2 c_1)⟩
def Ztk(m:Int):Prop:=AW (Z6 Ziq) Try.f105 Z7a [] (Zm (Zlc.can (m,())) []) (EQ Try.f105 (ZnS (m,())) [])
theorem Zs0(hb:∀ (m:Int) (_:Unit),ZbL (m,())->Ztk m):CT 105 Z6E:=
 Z4 (l:=[]) Zn rfl trivial Z7a Try.func105 rfl rfl 1 (fun _=> rfl) (by decide) (fun ⟨m,_⟩=> hb m ())
def Zpo:List (FuncId × Fs U):=[(105,Z6E)]
def Zv0:Zf U:=lvl [([0,1,2],[]),([6],[])]
abbrev W66(a b m:Int)(Q:QT):=AW (Z6 Zpo) Try.f66 Zv0 [] (L2 [(0,.c (.int .u64 a)),(1,.c (.int .u64 b)),(2,.c (.int .u8 m))] []) Q
theorem ZyD(a b m:Int)(Q:QT)(h:(ZbL (m,()))/\(ZbL (m,()))/\(Q .ret (L2 [(6,.c (.int .u64 (IntKind.wrap .u64 (BitVec.ofInt (IntKind.bits .u64) (IntKind.wrap .u64 (BitVec.ofInt (IntKind.bits .u64) a &&& ~~~(BitVec.ofInt (IntKind.bits .u64) ((Z0z m.toNat 8:Nat):Int))).toNat) ||| BitVec.ofInt (IntKind.bits .u64) (IntKind.wrap .u64 (BitVec.ofInt (IntKind.bits .u64) b &&& BitVec.ofInt (IntKind.bits .u64) ((Z0z m.toNat 8:Nat):Int)).toNat)).toNat)))] []))):
  W66 a b m Q:=by
 have e_:(W66 a b m Q)=(type_of% h):=by kernel_rfl
 exact e_.mpr ⟨h.1,h.2.1,h.2.2⟩
def Zwo(a b m:Int):Prop:=AW (Z6 Zpo) Try.f66 Zv0 [] (Zm (Zle.can (a,b,m,())) []) (EQ Try.f66 (ZnU (a,b,m,())) [])
theorem ZuJ(ZvT:CT 105 Z6E)(hb:∀ (a:Int) (b:Int) (m:Int) (_:Unit),ZeN (a,b,m,())->Zwo a b m):CT 66 Z6F:=
 Z4 (l:=[(105,Z6E)]) Zn rfl (⟨ZvT,trivial⟩) Zv0 Try.func66 rfl rfl 3 (fun _=> rfl) (by decide) (fun ⟨a,b,m,_⟩=> hb a b m ())
end
end
theorem ZpV:∀ n:Fin 256,∀ i:Fin 8,IntKind.wrap .u8 (BitVec.ofInt (IntKind.bits .u8) (Int.fdiv (n.1:Int) (2 ^ (min (Int.toNat (i.1:Int)) (IntKind.bits .u8)))) &&& BitVec.ofInt (IntKind.bits .u8) 1).toNat=((n.1 / 2 ^ i.1 % 2:Nat):Int):=by decide+kernel
theorem Zri:∀ n:Fin 256,∀ i:Fin 8,IntKind.wrap .u64 (BitVec.ofInt (IntKind.bits .u64) ((Z0z n.1 i.1:Nat):Int) ||| BitVec.ofInt (IntKind.bits .u64) (IntKind.wrap .u64 (255*2 ^ (min (Int.toNat (8*(i.1:Int))) (IntKind.bits .u64))))).toNat=((Z0z n.1 i.1+255*2 ^ (8*i.1):Nat):Int):=by decide+kernel
theorem ZvT:Contract Try.prog cfg 105 Z6E:=by
 refine Zs0 ?_
 intro m _ hp
 simp only [ZbL] at hp
 obtain ⟨n,rfl⟩:=X6 hp.1
 have hn:n < 256:=by omega
 refine Zxx _ _ ?_
 refine Zb (ι:=Nat) (fun i=> Z0a n ((Z0z n i:Nat):Int) i) (fun i=> i<=8) (fun i=> 8 - i) 0 rfl (by omega) ?_
 intro i hi
 refine Znl _ _ _ _ _ ?_
 (simp only [vcS])
 refine ⟨fun hc=> ⟨by omega,fun hq=> ⟨by unfold InR;omega,by omega,by unfold InR;omega,i+1,?_,by omega,by omega⟩,fun hq=> ⟨by unfold InR;omega,i+1,?_,by omega,by omega⟩⟩,fun hc=> ?_⟩
 ·have h1:=ZpV ⟨n,hn⟩ ⟨i,by omega⟩
  have h2:=Zri ⟨n,hn⟩ ⟨i,by omega⟩
  simp only at h1 h2
  rw [h1] at hq
  rw [h2]
  have e:Z0z n (i+1)=Z0z n i+255*2 ^ (8*i):=by simp only [Z0z];rw [if_pos (by omega)]
  rw [e]
  try rfl
 ·have h1:=ZpV ⟨n,hn⟩ ⟨i,by omega⟩
  simp only at h1
  rw [h1] at hq
  have e:Z0z n (i+1)=Z0z n i:=by simp only [Z0z];rw [if_neg (by omega)];omega
  rw [e]
  try rfl
 ·have:i=8:=by omega
  subst this
  exact Yx rfl rfl
theorem Z1B(a:Nat)(h:a < 2 ^ 64):(BitVec.ofInt 64 (a:Int)).toNat=a:=by
 rw [BitVec.toNat_ofInt]
 omega
theorem c66:Contract Try.prog cfg 66 Z6F:=by
 refine ZuJ ZvT ?_
 intro a b m _ hp
 simp only [ZeN] at hp
 obtain ⟨⟨a0,a1⟩,⟨b0,b1⟩,m0,m1⟩:=hp
 obtain ⟨x,rfl⟩:=X6 a0
 obtain ⟨y,rfl⟩:=X6 b0
 obtain ⟨n,rfl⟩:=X6 m0
 have hn:n < 256:=by omega
 have hx:x < 2 ^ 64:=by omega
 have hy:y < 2 ^ 64:=by omega
 have hw:=Zqu ⟨n,hn⟩
 have hw2:=ZiY ⟨n,hn⟩
 simp only at hw hw2
 rw [<-hw2] at hw
 refine ZyD _ _ _ _ ?_
 refine ⟨⟨m0,m1⟩,⟨m0,m1⟩,Yx rfl ?_⟩
 have em:mix x y n=(((x &&& (2 ^ 64 - 1 - Z0z n 8)) ||| (y &&& Z0z n 8):Nat):Int):=by rw [<-Zox,<-Zow x y n hn]
 have e1:(BitVec.ofInt 64 (x:Int) &&& ~~~(BitVec.ofInt 64 ((Z0z n 8:Nat):Int))).toNat=x &&& (2 ^ 64 - 1 - Z0z n 8):=by
  rw [Kw,BitVec.toNat_not,Z1B x hx,Z1B _ hw]
 have e2:(BitVec.ofInt 64 (y:Int) &&& BitVec.ofInt 64 ((Z0z n 8:Nat):Int)).toNat=y &&& Z0z n 8:=by
  rw [Kw,Z1B y hy,Z1B _ hw]
 have l1:x &&& (2 ^ 64 - 1 - Z0z n 8) < 2 ^ 64:=Nat.lt_of_le_of_lt Nat.and_le_left hx
 have l2:y &&& Z0z n 8 < 2 ^ 64:=Nat.lt_of_le_of_lt Nat.and_le_left hy
 have l3:(x &&& (2 ^ 64 - 1 - Z0z n 8)) ||| (y &&& Z0z n 8) < 2 ^ 64:=Nat.or_lt_two_pow l1 l2
 have key:IntKind.wrap .u64 ((BitVec.ofInt 64 (IntKind.wrap .u64 ((BitVec.ofInt 64 (x:Int) &&& ~~~(BitVec.ofInt 64 ((Z0z n 8:Nat):Int))).toNat:Int)) ||| BitVec.ofInt 64 (IntKind.wrap .u64 ((BitVec.ofInt 64 (y:Int) &&& BitVec.ofInt 64 ((Z0z n 8:Nat):Int)).toNat:Int))).toNat:Int)=mix x y n:=by
  have w1:∀ k:Nat,k < 2 ^ 64->IntKind.wrap .u64 (k:Int)=k:=fun k hk=> Z3N (by omega) (by omega)
  rw [e1,e2,w1 _ l1,w1 _ l2,BitVec.toNat_or,Z1B _ l1,Z1B _ l2,w1 _ l3,em]
 exact key
noncomputable section
noncomputable section
def Zl5:ArgL (List Tree × List Tree × Unit × Unit):=(.cons (aSl .tree) (.cons (aSl .tree) (.cons (aFn 106) .nil)))
def Z63(a:List Tree × List Tree × Unit × Unit):Prop:=Z7 a.1<=1000000000000/\Z7 a.2.1<=1000000000000
def ZnO(a:List Tree × List Tree × Unit × Unit):V U:= .c (.bool (eqX (Z3 a.1) (Z3 a.2.1)))
def Z0f:Fs U:=fs Zl5 (fun a=> [Z63 a]) ZnO
def Z0S:List (FuncId × Fs U):=[(106,Jf)]
def Z79:Zf U:=lvl [([0,1,2],[]),([0,1,2,14],[]),([6],[]),([1,2,15,16,17],[]),([1,2,15,16,17,18],[]),([1,2,7,8,15,16,17],[8]),([1,2,8,9,15,16,17],[8,9]),([1,2,15,16,17,30],[]),([6],[]),([1,2,15,16,17],[]),([6],[])]
def Z1H(a b:List Tree)(f:Unit)(x17:Int):LSt U:=(L2 [(1,.c (sU .tree b .unk)),(2,.fn 106),(15,.c (sU .tree a .unk)),pI 16 (a.length:Int),pI 17 x17] [])
abbrev Zy7(a b:List Tree)(f:Unit)(Q:QT):=AW (Z6 Z0S) Try.f151 Z79 [] (L2 [(0,.c (sU .tree a .unk)),(1,.c (sU .tree b .unk)),(2,.fn 106)] []) Q
abbrev ZiS:=awp cfg (Z6 Z0S) (YD cfg (Z6 Z0S)) Try.f151.ntmps Z79
abbrev ZhG:=Zny cfg (Z6 Z0S) (YD cfg (Z6 Z0S)) Try.f151.ntmps Z79
theorem Zxh(a b:List Tree)(f:Unit)(Q:QT)(h:((((a.length:Int):Int) !=(b.length:Int))=true->Q .ret (L2 [pB 6 false] []))/\((((a.length:Int):Int) !=(b.length:Int))=false->Zo (AW (Z6 Z0S) Try.f151 Z79 [1,1,0,1,0,0]) (Z1H a b f 0) (xB 0 (SW (Z6 Z0S) Try.f151 Z79 [1,1,1] Q)))):
  Zy7 a b f Q:=by
 have e_:(Zy7 a b f Q)=((((a.length:Int) !=(b.length:Int))=true->(Q .ret (L2 [pB 6 false] [])))/\(((a.length:Int) !=(b.length:Int))=false->(Zo (ZiS (cd Try.f151 [1,1,0,1,0,0])) (Z1H a b f 0) (xB 0 (ZhG (cd Try.f151 [1,1,1]) Q))))):=by kernel_rfl
 exact e_.mpr ⟨fun c_4=> (h.1 c_4),fun c_4=> (h.2 c_4)⟩
abbrev Zll(a b:List Tree)(f:Unit)(x17:Int)(N0:NT)(Q:QT):=AW (Z6 Z0S) Try.f151 Z79 [1,1,0,1,0,0] (Z1H a b f x17) (xT N0 (xB 0 (SW (Z6 Z0S) Try.f151 Z79 [1,1,1] Q)))
theorem Zn5(a b:List Tree)(f:Unit)(x17:Int)(N0:NT)(Q:QT)(h:((decide (x17 < (a.length:Int)))=true->((0:Int)<=x17/\x17 < (a.length:Int))/\(((0:Int)<=x17/\x17 < (b.length:Int))/\((Z17 ((Tree.mk (Tree.kind (a.getD x17.toNat Tree.nil)) (Tree.words (a.getD x17.toNat Tree.nil)) (Tree.kids (a.getD x17.toNat Tree.nil))),(Tree.mk (Tree.kind (b.getD x17.toNat Tree.nil)) (Tree.words (b.getD x17.toNat Tree.nil)) (Tree.kids (b.getD x17.toNat Tree.nil))),()))/\(((!(ZT (Z2 (Tree.mk (Tree.kind (a.getD x17.toNat Tree.nil)) (Tree.words (a.getD x17.toNat Tree.nil)) (Tree.kids (a.getD x17.toNat Tree.nil)))) (Z2 (Tree.mk (Tree.kind (b.getD x17.toNat Tree.nil)) (Tree.words (b.getD x17.toNat Tree.nil)) (Tree.kids (b.getD x17.toNat Tree.nil))))))=true->Q .ret (L2 [pB 6 false] []))/\((!(ZT (Z2 (Tree.mk (Tree.kind (a.getD x17.toNat Tree.nil)) (Tree.words (a.getD x17.toNat Tree.nil)) (Tree.kids (a.getD x17.toNat Tree.nil)))) (Z2 (Tree.mk (Tree.kind (b.getD x17.toNat Tree.nil)) (Tree.words (b.getD x17.toNat Tree.nil)) (Tree.kids (b.getD x17.toNat Tree.nil))))))=false->(InR (x17+1))/\(N0 (Z1H a b f (x17+1))))))))/\((decide (x17 < (a.length:Int)))=false->Q .ret (L2 [pB 6 true] []))):
  Zll a b f x17 N0 Q:=by
 have e_:(Zll a b f x17 N0 Q)=(let zz0:=(!(ZT (Z2 (Tree.mk (Tree.kind (a.getD x17.toNat Tree.nil)) (Tree.words (a.getD x17.toNat Tree.nil)) (Tree.kids (a.getD x17.toNat Tree.nil)))) (Z2 (Tree.mk (Tree.kind (b.getD x17.toNat Tree.nil)) (Tree.words (b.getD x17.toNat Tree.nil)) (Tree.kids (b.getD x17.toNat Tree.nil))))));(((decide ((x17:Int) < (a.length:Int)))=true->((0:Int)<=x17/\x17 < (a.length:Int))/\(((0:Int)<=x17/\x17 < (b.length:Int))/\((Z17 ((Tree.mk (Tree.kind (a.getD x17.toNat Tree.nil)) (Tree.words (a.getD x17.toNat Tree.nil)) (Tree.kids (a.getD x17.toNat Tree.nil))),(Tree.mk (Tree.kind (b.getD x17.toNat Tree.nil)) (Tree.words (b.getD x17.toNat Tree.nil)) (Tree.kids (b.getD x17.toNat Tree.nil))),()))/\((zz0=true->(Q .ret (L2 [pB 6 false] [])))/\(zz0=false->(InR ((x17:Int)+1))/\(N0 (Z1H a b f ((x17:Int)+1))))))))/\((decide ((x17:Int) < (a.length:Int)))=false->(Q .ret (L2 [pB 6 true] []))))):=by kernel_rfl
 exact e_.mpr ⟨fun c_5=> ⟨(h.1 c_5).1,⟨(h.1 c_5).2.1,⟨(h.1 c_5).2.2.1,⟨fun c_6=> ((h.1 c_5).2.2.2.1 c_6),fun c_6=> ⟨((h.1 c_5).2.2.2.2 c_6).1,((h.1 c_5).2.2.2.2 c_6).2⟩⟩⟩⟩⟩,fun c_5=> (h.2 c_5)⟩
def Zt4(a b:List Tree)(f:Unit):Prop:=AW (Z6 Z0S) Try.f151 Z79 [] (Zm (Zl5.can (a,b,f,())) []) (EQ Try.f151 (ZnO (a,b,f,())) [])
theorem ZrO(Z9O:CT 106 Jf)(hb:∀ (a:List Tree) (b:List Tree) (f:Unit) (_:Unit),Z63 (a,b,f,())->Zt4 a b f):CT 151 Z0f:=
 Z4 (l:=[(106,Jf)]) Zn rfl (⟨Z9O,trivial⟩) Z79 Try.func151 rfl rfl 3 (fun _=> rfl) (by decide) (fun ⟨a,b,f,_⟩=> hb a b f ())
end
end
theorem Zfi:Contract Try.prog cfg 151 Z0f:=by
 refine ZrO Z9O ?_
 intro a b f _ hp
 simp only [Z63] at hp
 refine Zxh a b f _ ?_
 (simp only [vcS])
 refine ⟨fun hc=> Ze rfl (ZpG (a:=Z3 a) (b:=Z3 b) (fun h=> hc (by have:=congrArg List.length h;simp [Z3] at this;omega))).symm,fun hc=> ?_⟩
 have hl:a.length=b.length:=by omega
 have hla:=Zv a
 refine Zb (ι:=Int) (fun i=> Z1H a b f i) (fun i=> 0<=i/\i<=a.length/\∀ j:Nat,(j:Int) < i->Z2 (a.getD j Tree.nil)=Z2 (b.getD j Tree.nil)) (fun i=> ((a.length:Int) - i).toNat) 0 rfl ⟨by omega,by omega,by intro j hj;omega⟩ ?_
 rintro i ⟨h1,h2,h3⟩
 refine Zn5 a b f _ _ _ ?_
 (simp only [vcS])
 (simp only [Tree.eta,Edit.eta,Tree.kind_mk,Tree.words_mk,Tree.kids_mk])
 refine ⟨fun hi=> ⟨⟨h1,hi⟩,⟨h1,by omega⟩,?_,fun hq=> ?_,fun hq=> ⟨by unfold InR;omega,i+1,rfl,⟨by omega,by omega,?_⟩,by omega⟩⟩,fun hi=> ?_⟩
 ·have:=JH (Zk (l:=a) (i:=i.toNat) (by omega) Tree.nil)
  have:=JH (Zk (l:=b) (i:=i.toNat) (by omega) Tree.nil)
  simp only [Z17];omega
 ·refine Ze rfl (ZpG (a:=Z3 a) (b:=Z3 b) (fun h=> ?_)).symm
  have h5:=Zh4 (d:=Tree.nil) h i.toNat
  rw [Jo] at hq
  exact hq h5
 ·intro j hj
  by_cases hj2:(j:Int) < i
  ·exact h3 j hj2
  ·rw [Z0F,show i.toNat=j by omega] at hq
   exact hq
 ·exact Ze rfl (Z0s (a:=Z3 a) (b:=Z3 b).2 (ZgN Tree.nil hl (fun j hj=> h3 j (by omega)))).symm
noncomputable section
def Z6T(a:List Int × Unit):List Int:=a.1
def Z2H:Fs U:=fsL Zlb (fun a=> [ZbK a]) .u64 Z6T
def Zl6:ArgL (List Tree × Unit):=(.cons (aSl .tree) .nil)
def ZbG(a:List Tree × Unit):Prop:=a.1.length<=1000000000000
def Zae(a:List Tree × Unit):List Tree:=a.1
def Z4I:Fs U:=fsL Zl6 (fun a=> [ZbG a]) .tree Zae
def Z8P:ArgL (Edit × Tree × Unit):=(.cons (aEl .edit) (.cons (aEl .tree) .nil))
def Z2N(a:Edit × Tree × Unit):Prop:=(Z8 a.1<=20000000000/\Yl a.1/\∃ d,Z5 a.1 d=true)/\Zi a.2.1+ctE a.1<=200000000000/\rng a.2.1
def ZcL(a:Edit × Tree × Unit):Nat:=2*Z8 a.1+1
def Z42(a:Edit × Tree × Unit):V U:= .tup [(true,(enc .tree (Z9J a.1 a.2.1))),(false,[.bool ((doE false a.1 a.2.1).isSome)])]
def Z81:Fs U:=fs Z8P (fun a=> [Z2N a]) Z42
def Z3s(a:Edit × Tree × Unit):Prop:=Edit.kind a.1=2/\(Z8 a.1<=20000000000/\Yl a.1/\∃ d,Z5 a.1 d=true)/\Zi a.2.1+ctE a.1<=200000000000/\rng a.2.1
def Z9h(a:Edit × Tree × Unit):Nat:=2*Z8 a.1
def Z3o(a:Edit × Tree × Unit):V U:= .tup [(true,(enc .tree (JK (Z9H false a.1 a.2.1)))),(false,[.bool ((Z9H false a.1 a.2.1).isSome)])]
def Zjb:Fs U:=fs Z8P (fun a=> [Z3s a]) Z3o
def Z3r(a:Edit × Tree × Unit):Prop:=Edit.kind a.1=3/\(Z8 a.1<=20000000000/\Yl a.1/\∃ d,Z5 a.1 d=true)/\Zi a.2.1+ctE a.1<=200000000000/\rng a.2.1
def Z3n(a:Edit × Tree × Unit):V U:= .tup [(true,(enc .tree (Zp8 a.1 (Z5x false a.1 a.2.1)))),(false,[.bool ((Z2A (Z5x false a.1 a.2.1)).isSome)])]
def Zja:Fs U:=fs Z8P (fun a=> [Z3r a]) Z3n
def Zig:Zf U:=fun i=> match i with
 | 0=> ([(0,[])],[])
 | 1=> ([(0,[]),(4,[])],[])
 | 2=> ([(2,[.wr .u64])],[])
 | 3=> ([(2,[.wr .u64])],[])
 | _=> ([],[])
abbrev Zyq(p:List Nat):=AW (Z24 Ziq) Try.f109 Zig p
theorem Zud(l:List Int)(Q:QT)(h:(((l=[])->(Q .ret (⟨[(2,.c (.mref (.e 2 0)))],[],[(.e 2 0,LC.mk (U:=U) .u64 [] 0)]⟩:LSt U)))/\(True->((([]:List Int).length+l.length)*8<=140737488355328)/\(Q .ret (⟨[(2,.c (.mref (.e 2 0)))],[],[(.e 2 0,LC.mk (U:=U) .u64 (([]:List Int)++l) (([]:List Int).length))]⟩:LSt U))))):
  Zyq [] (L2 [(0,.c (sU .u64 l .unk))] []) Q:=
 Eq.mpr (by kernel_rfl) h
def Zqo(l:List Int):Prop:=AW (Z24 Ziq) Try.f109 Zig [] (Zm (Zlb.can (l,())) []) (Z05 cfg Try.f109.ntmps Try.f109.results.toList (.c (.mref (.r 0 0))) [] [(.r 0 0,LC.mk (U:=U) .u64 (Z6T (l,())) 0)])
theorem ZoB(hb:∀ (l:List Int) (_:Unit),ZbK (l,())->Zqo l):CT 109 Z2H:=
 Z0v (l:=[]) Zn rfl trivial Zig Try.func109 rfl rfl 1 (fun _=> rfl) (by decide) (fun ⟨l,_⟩=> hb l ())
def ZoZ:Zf U:=fun i=> match i with
 | 0=> ([(0,[])],[])
 | 1=> ([(0,[]),(4,[])],[])
 | 2=> ([(2,[.wr .tree])],[])
 | 3=> ([(2,[.wr .tree])],[])
 | _=> ([],[])
abbrev Zzl(p:List Nat):=AW (Z24 Ziq) Try.f150 ZoZ p
theorem Zxi(l:List Tree)(Q:QT)(h:(((l=[])->(Q .ret (⟨[(2,.c (.mref (.e 2 0)))],[],[(.e 2 0,LC.mk (U:=U) .tree [] 0)]⟩:LSt U)))/\(True->((([]:List Tree).length+l.length)*56<=140737488355328)/\(Q .ret (⟨[(2,.c (.mref (.e 2 0)))],[],[(.e 2 0,LC.mk (U:=U) .tree (([]:List Tree)++l) (([]:List Tree).length))]⟩:LSt U))))):
  Zzl [] (L2 [(0,.c (sU .tree l .unk))] []) Q:=
 Eq.mpr (by kernel_rfl) h
def Zt5(l:List Tree):Prop:=AW (Z24 Ziq) Try.f150 ZoZ [] (Zm (Zl6.can (l,())) []) (Z05 cfg Try.f150.ntmps Try.f150.results.toList (.c (.mref (.r 0 0))) [] [(.r 0 0,LC.mk (U:=U) .tree (Zae (l,())) 0)])
theorem ZrP(hb:∀ (l:List Tree) (_:Unit),ZbG (l,())->Zt5 l):CT 150 Z4I:=
 Z0v (l:=[]) Zn rfl trivial ZoZ Try.func150 rfl rfl 1 (fun _=> rfl) (by decide) (fun ⟨l,_⟩=> hb l ())
def Z8B(N:Nat):List (FuncId × Fs U):=(70,fs Z8P (fun a=> [Z2N a,ZcL a < N]) Z42) ::(107,fs Z8P (fun a=> [Z3s a,Z9h a < N]) Z3o) ::(108,fs Z8P (fun a=> [Z3r a,Z9h a < N]) Z3n) ::[(106,Jf),(149,Z1i),(91,Z3i),(151,Z0f),(150,Z4I),(66,Z6F),(109,Z2H)]
def ZuZ:Zf U:=lvl [([2,3,4],[2,3,4]),([2,3,4,7],[2,3,4]),([2,3,4,7,8],[2,3,4]),([4,5],[4]),([2,3,4,7,11],[2,3,4]),([4,5],[4]),([2,3,4,7,19],[2,3,4]),([4,5],[4]),([2,3,4,26],[2,3,4]),([4,5],[4]),([4,5],[4])]
abbrev A70(N:Nat)(p:List Nat):=AW (Z6 (Z8B N)) Try.f70 ZuZ p
theorem Zyz(N:Nat)(e:Edit)(t:Tree)(Q:QT)(h:∀ y_1,y_1=e->∀ y_2,y_2=t->∀ y_3,y_3=(e.old)->(((e.kind==0)=true->(Q .ret (L2 [pL 4,pB 5 true] [(.loc 4,(enc .tree t))])))/\((e.kind==0)=false->(((e.kind==1)=true->(Z17 (y_3,y_2,()))/\(Q .ret (L2 [pL 4,pB 5 (ZT (Z2 y_3) (Z2 y_2))] [(.loc 4,(enc .tree e.new))])))/\((e.kind==1)=false->(((e.kind==2)=true->(Z3s (y_1,y_2,()))/\(Z9h (y_1,y_2,()) < N)/\(Q .ret (L2 [pL 4,pB 5 ((Z9H false y_1 y_2).isSome)] [(.loc 4,(enc .tree (JK (Z9H false y_1 y_2))))])))/\((e.kind==2)=false->(((e.kind==3)=true->(Z3r (y_1,y_2,()))/\(Z9h (y_1,y_2,()) < N)/\(Q .ret (L2 [pL 4,pB 5 ((Z2A (Z5x false y_1 y_2)).isSome)] [(.loc 4,(enc .tree (Zp8 y_1 (Z5x false y_1 y_2))))])))/\((e.kind==3)=false->(Q .ret (L2 [pL 4,pB 5 false] [(.loc 4,[ci 0,.nils,.nils])]))))))))))):
  A70 N [] (L2 [(0,.agg (enc .edit e)),(1,.agg (enc .tree t))] []) Q:=
 Eq.mpr (by kernel_rfl) (h _ (Zd _) _ (Zc _) _ (Zc _))
def Zwk(N:Nat)(e:Edit)(t:Tree):Prop:=AW (Z6 (Z8B N)) Try.f70 ZuZ [] (Zm (Z8P.can (e,t,())) []) (EQ Try.f70 (Z42 (e,t,())) [])
abbrev Zyl:Prop:=∀ (N:Nat) (e:Edit) (t:Tree) (_:Unit),Z2N (e,t,())->ZcL (e,t,()) < N+1->Zwk N e t
def Zk5:Zf U:=fun i=> match i with
 | 0=> ([(2,[]),(3,[]),(4,[])],[(.loc 2,[]),(.loc 3,[]),(.loc 4,[])])
 | 1=> ([(2,[]),(3,[]),(4,[]),(16,[])],[(.loc 2,[]),(.loc 3,[]),(.loc 4,[])])
 | 2=> ([(4,[]),(5,[])],[(.loc 4,[])])
 | 3=> ([(2,[]),(3,[]),(4,[]),(6,[])],[(.loc 2,[]),(.loc 3,[]),(.loc 4,[]),(.loc 6,[.any,.wr .u64,.wr .tree])])
 | 4=> ([(2,[]),(3,[]),(4,[]),(6,[]),(26,[]),(27,[]),(28,[])],[(.loc 2,[]),(.loc 3,[]),(.loc 4,[]),(.loc 6,[.any,.wr .u64,.wr .tree])])
 | 5=> ([(2,[]),(3,[]),(4,[]),(6,[]),(26,[]),(27,[]),(28,[]),(29,[])],[(.loc 2,[]),(.loc 3,[]),(.loc 4,[]),(.loc 6,[.any,.wr .u64,.wr .tree])])
 | 6=> ([(2,[]),(3,[]),(4,[]),(6,[]),(8,[]),(26,[]),(27,[]),(28,[])],[(.loc 2,[]),(.loc 3,[]),(.loc 4,[]),(.loc 6,[.any,.wr .u64,.wr .tree]),(.loc 8,[])])
 | 7=> ([(2,[]),(3,[]),(4,[]),(6,[]),(8,[]),(9,[]),(26,[]),(27,[]),(28,[])],[(.loc 2,[]),(.loc 3,[]),(.loc 4,[]),(.loc 6,[.any,.wr .u64,.wr .tree]),(.loc 8,[])])
 | 8=> ([(2,[]),(3,[]),(4,[]),(6,[]),(8,[]),(9,[]),(26,[]),(27,[]),(28,[]),(42,[])],[(.loc 2,[]),(.loc 3,[]),(.loc 4,[]),(.loc 6,[.any,.wr .u64,.wr .tree]),(.loc 8,[])])
 | 9=> ([(4,[]),(5,[])],[(.loc 4,[])])
 | 10=> ([(2,[]),(3,[]),(4,[]),(6,[]),(8,[]),(9,[]),(26,[]),(27,[]),(28,[]),(42,[]),(49,[])],[(.loc 2,[]),(.loc 3,[]),(.loc 4,[]),(.loc 6,[.any,.wr .u64,.wr .tree]),(.loc 8,[])])
 | 11=> ([(2,[]),(3,[]),(4,[]),(6,[]),(8,[]),(9,[]),(26,[]),(27,[]),(28,[]),(42,[])],[(.loc 2,[]),(.loc 3,[]),(.loc 4,[]),(.loc 6,[.any,.wr .u64,.wr .tree]),(.loc 8,[])])
 | 12=> ([(2,[]),(3,[]),(4,[]),(6,[]),(26,[]),(27,[]),(28,[])],[(.loc 2,[]),(.loc 3,[]),(.loc 4,[]),(.loc 6,[.any,.wr .u64,.wr .tree])])
 | 13=> ([(2,[]),(3,[]),(4,[]),(6,[]),(26,[]),(27,[]),(28,[])],[(.loc 2,[]),(.loc 3,[]),(.loc 4,[]),(.loc 6,[.any,.wr .u64,.wr .tree])])
 | 14=> ([(3,[]),(4,[]),(6,[]),(68,[]),(69,[]),(70,[])],[(.loc 3,[]),(.loc 4,[]),(.loc 6,[.any,.wr .u64,.wr .tree])])
 | 15=> ([(3,[]),(4,[]),(6,[]),(68,[]),(69,[]),(70,[]),(71,[])],[(.loc 3,[]),(.loc 4,[]),(.loc 6,[.any,.wr .u64,.wr .tree])])
 | 16=> ([(3,[]),(4,[]),(6,[]),(11,[]),(68,[]),(69,[]),(70,[])],[(.loc 3,[]),(.loc 4,[]),(.loc 6,[.any,.wr .u64,.wr .tree]),(.loc 11,[])])
 | 17=> ([(3,[]),(4,[]),(6,[]),(11,[]),(12,[]),(13,[]),(68,[]),(69,[]),(70,[])],[(.loc 3,[]),(.loc 4,[]),(.loc 6,[.any,.wr .u64,.wr .tree]),(.loc 11,[]),(.loc 12,[])])
 | 18=> ([(3,[]),(4,[]),(6,[]),(11,[]),(12,[]),(68,[]),(69,[]),(70,[]),(85,[])],[(.loc 3,[]),(.loc 4,[]),(.loc 6,[.any,.wr .u64,.wr .tree]),(.loc 11,[]),(.loc 12,[])])
 | 19=> ([(4,[]),(5,[])],[(.loc 4,[])])
 | 20=> ([(3,[]),(4,[]),(6,[]),(11,[]),(12,[]),(68,[]),(69,[]),(70,[]),(85,[]),(92,[])],[(.loc 3,[]),(.loc 4,[]),(.loc 6,[.any,.wr .u64,.wr .tree]),(.loc 11,[]),(.loc 12,[])])
 | 21=> ([(3,[]),(4,[]),(6,[]),(11,[]),(12,[]),(68,[]),(69,[]),(70,[]),(85,[])],[(.loc 3,[]),(.loc 4,[]),(.loc 6,[.any,.wr .u64,.wr .tree]),(.loc 11,[]),(.loc 12,[])])
 | 22=> ([(3,[]),(4,[]),(6,[]),(68,[]),(69,[]),(70,[])],[(.loc 3,[]),(.loc 4,[]),(.loc 6,[.any,.wr .u64,.wr .tree])])
 | 23=> ([(3,[]),(4,[]),(6,[]),(68,[]),(69,[]),(70,[])],[(.loc 3,[]),(.loc 4,[]),(.loc 6,[.any,.wr .u64,.wr .tree])])
 | 24=> ([(4,[]),(5,[])],[(.loc 4,[])])
 | _=> ([],[])
def Z5i(e:Edit)(t:Tree)(x28:Int)(rl_6_1:List Int):LSt U:=(⟨[pL 2,pL 3,pL 4,pL 6,(26,.c (sU .wedit e.words .unk)),pI 27 (e.words.length:Int),pI 28 x28],[(.loc 2,(enc .edit e)),(.loc 3,(enc .tree t)),(.loc 4,[ci 0,.nils,.nils]),(.loc 6,[ci 1,.mref (.l 6 1),.mref (.l 6 2)])],[(.l 6 1,LC.mk (U:=U) .u64 rl_6_1 0),(.l 6 2,LC.mk (U:=U) .tree t.kids 0)]⟩:LSt U)
def Z5h(e:Edit)(t:Tree)(x28:Int)(rl_6_1_a:List Int):LSt U:=(⟨[pL 2,pL 3,pL 4,pL 6,pL 8,(9,.c (.int .u64 (Jk (Tree.mk t.kind t.words t.kids) (WEdit.at_ (e.words.getD x28.toNat (WEdit.mk 0 0 0 0)))))),(26,.c (sU .wedit e.words .unk)),pI 27 (e.words.length:Int),pI 28 x28,(42,.c (.bool (((mix 0 (Jk (Tree.mk t.kind t.words t.kids) (WEdit.at_ (e.words.getD x28.toNat (WEdit.mk 0 0 0 0)))) (WEdit.mask (e.words.getD x28.toNat (WEdit.mk 0 0 0 0)))):Int) !=(WEdit.old (e.words.getD x28.toNat (WEdit.mk 0 0 0 0))))))],[(.loc 2,(enc .edit e)),(.loc 3,(enc .tree t)),(.loc 4,[ci 0,.nils,.nils]),(.loc 6,[ci 1,.mref (.l 6 1),.mref (.l 6 2)]),(.loc 8,(enc .wedit (e.words.getD x28.toNat (WEdit.mk 0 0 0 0))))],[(.l 6 1,LC.mk (U:=U) .u64 rl_6_1_a 0),(.l 6 2,LC.mk (U:=U) .tree t.kids 0)]⟩:LSt U)
def Z5g(e:Edit)(t:Tree)(rl_6_1:List Int)(x70_b:Int)(rl_6_2_b:List Tree):LSt U:=(⟨[pL 3,pL 4,pL 6,(68,.c (sU .kid e.kids .unk)),pI 69 (e.kids.length:Int),pI 70 x70_b],[(.loc 3,(enc .tree t)),(.loc 4,[ci 0,.nils,.nils]),(.loc 6,[ci 1,.mref (.l 6 1),.mref (.l 6 2)])],[(.l 6 1,LC.mk (U:=U) .u64 rl_6_1 0),(.l 6 2,LC.mk (U:=U) .tree rl_6_2_b 0)]⟩:LSt U)
def Z5f(e:Edit)(t:Tree)(rl_6_1:List Int)(x70_b:Int)(rl_6_2_c:List Tree):LSt U:=(⟨[pL 3,pL 4,pL 6,pL 11,pL 12,(68,.c (sU .kid e.kids .unk)),pI 69 (e.kids.length:Int),pI 70 x70_b,(85,.c (.bool (!((doE false (Edit.mk (Edit.kind (KidOf.e (e.kids.getD x70_b.toNat (KidOf.mk 0 Edit.nil)))) (Tree.mk (Tree.kind (Edit.old (KidOf.e (e.kids.getD x70_b.toNat (KidOf.mk 0 Edit.nil))))) (Tree.words (Edit.old (KidOf.e (e.kids.getD x70_b.toNat (KidOf.mk 0 Edit.nil))))) (Tree.kids (Edit.old (KidOf.e (e.kids.getD x70_b.toNat (KidOf.mk 0 Edit.nil)))))) (Tree.mk (Tree.kind (Edit.new (KidOf.e (e.kids.getD x70_b.toNat (KidOf.mk 0 Edit.nil))))) (Tree.words (Edit.new (KidOf.e (e.kids.getD x70_b.toNat (KidOf.mk 0 Edit.nil))))) (Tree.kids (Edit.new (KidOf.e (e.kids.getD x70_b.toNat (KidOf.mk 0 Edit.nil)))))) (Edit.words (KidOf.e (e.kids.getD x70_b.toNat (KidOf.mk 0 Edit.nil)))) (Edit.kids (KidOf.e (e.kids.getD x70_b.toNat (KidOf.mk 0 Edit.nil)))) (Edit.list (KidOf.e (e.kids.getD x70_b.toNat (KidOf.mk 0 Edit.nil)))) (Edit.ops (KidOf.e (e.kids.getD x70_b.toNat (KidOf.mk 0 Edit.nil))))) (Tree.mk (Tree.kind (Jz (Tree.mk t.kind t.words t.kids) (KidOf.at_ (e.kids.getD x70_b.toNat (KidOf.mk 0 Edit.nil))))) (Tree.words (Jz (Tree.mk t.kind t.words t.kids) (KidOf.at_ (e.kids.getD x70_b.toNat (KidOf.mk 0 Edit.nil))))) (Tree.kids (Jz (Tree.mk t.kind t.words t.kids) (KidOf.at_ (e.kids.getD x70_b.toNat (KidOf.mk 0 Edit.nil))))))).isSome))))],[(.loc 3,(enc .tree t)),(.loc 4,[ci 0,.nils,.nils]),(.loc 6,[ci 1,.mref (.l 6 1),.mref (.l 6 2)]),(.loc 11,(enc .kid (e.kids.getD x70_b.toNat (KidOf.mk 0 Edit.nil)))),(.loc 12,(enc .tree (Z9J (Edit.mk (Edit.kind (KidOf.e (e.kids.getD x70_b.toNat (KidOf.mk 0 Edit.nil)))) (Tree.mk (Tree.kind (Edit.old (KidOf.e (e.kids.getD x70_b.toNat (KidOf.mk 0 Edit.nil))))) (Tree.words (Edit.old (KidOf.e (e.kids.getD x70_b.toNat (KidOf.mk 0 Edit.nil))))) (Tree.kids (Edit.old (KidOf.e (e.kids.getD x70_b.toNat (KidOf.mk 0 Edit.nil)))))) (Tree.mk (Tree.kind (Edit.new (KidOf.e (e.kids.getD x70_b.toNat (KidOf.mk 0 Edit.nil))))) (Tree.words (Edit.new (KidOf.e (e.kids.getD x70_b.toNat (KidOf.mk 0 Edit.nil))))) (Tree.kids (Edit.new (KidOf.e (e.kids.getD x70_b.toNat (KidOf.mk 0 Edit.nil)))))) (Edit.words (KidOf.e (e.kids.getD x70_b.toNat (KidOf.mk 0 Edit.nil)))) (Edit.kids (KidOf.e (e.kids.getD x70_b.toNat (KidOf.mk 0 Edit.nil)))) (Edit.list (KidOf.e (e.kids.getD x70_b.toNat (KidOf.mk 0 Edit.nil)))) (Edit.ops (KidOf.e (e.kids.getD x70_b.toNat (KidOf.mk 0 Edit.nil))))) (Tree.mk (Tree.kind (Jz (Tree.mk t.kind t.words t.kids) (KidOf.at_ (e.kids.getD x70_b.toNat (KidOf.mk 0 Edit.nil))))) (Tree.words (Jz (Tree.mk t.kind t.words t.kids) (KidOf.at_ (e.kids.getD x70_b.toNat (KidOf.mk 0 Edit.nil))))) (Tree.kids (Jz (Tree.mk t.kind t.words t.kids) (KidOf.at_ (e.kids.getD x70_b.toNat (KidOf.mk 0 Edit.nil)))))))))],[(.l 6 1,LC.mk (U:=U) .u64 rl_6_1 0),(.l 6 2,LC.mk (U:=U) .tree rl_6_2_c 0)]⟩:LSt U)
abbrev ZfF(N:Nat)(p:List Nat):=AW (Z6 (Z8B N)) Try.f107 Zk5 p
abbrev Z5y(N:Nat)(p:List Nat):=SW (Z6 (Z8B N)) Try.f107 Zk5 p
theorem Zxv(N:Nat)(e:Edit)(t:Tree)(Q:QT)(h:(((t.kind !=1)=true->(Q .ret (L2 [pL 4,pB 5 false] [(.loc 4,[ci 0,.nils,.nils])])))/\((t.kind !=1)=false->(ZbK (t.words,()))/\(ZbG (t.kids,()))/\(Zo (ZfF N [1,1,1,0,1,0,0]) (Z5i e t 0 t.words) (xB 0 (Z5y N [1,1,1,1] Q)))))):
  ZfF N [] (L2 [(0,.agg (enc .edit e)),(1,.agg (enc .tree t))] []) Q:=
 Eq.mpr (by kernel_rfl) h
theorem Zni(N:Nat)(e:Edit)(t:Tree)(x28:Int)(rl_6_1:List Int)(N0:NT)(Q:QT)(h:∀ y_1,y_1=t->∀ y_2,y_2=(e.words.getD x28.toNat (WEdit.mk 0 0 0 0))->let z1:=decide (x28 < (e.words.length:Int));let z0:=((mix 0 (Jk y_1 y_2.at_) y_2.mask):Int) !=y_2.old;((z1=true->((0:Int)<=x28/\x28 < (e.words.length:Int))/\((Z8e (y_1,y_2.at_,()))/\((ZeN (0,(Jk y_1 y_2.at_),y_2.mask,()))/\((z0=true->(Q .ret (L2 [pL 4,pB 5 false] [(.loc 4,[ci 0,.nils,.nils])])))/\(z0=false->Zo (ZfF N [1,1,1,0,1,0,0,1,1,0,0,1,1,1,0,0,0]) (Z5h e t x28 rl_6_1) (xB 2 (Z5y N [1,1,1,0,1,0,0,1,1,0,0,1,1,1,1] (xB 1 (Z5y N [1,1,1,0,1,0,0,1,1,1] (xT N0 (xB 0 (Z5y N [1,1,1,1] Q))))))))))))/\(z1=false->(Zo (ZfF N [1,1,1,1,0,1,0,0]) (Z5g e t rl_6_1 0 t.kids) (xB 4 (Z5y N [1,1,1,1,1] Q)))))):
  ZfF N [1,1,1,0,1,0,0] (Z5i e t x28 rl_6_1) (xT N0 (xB 0 (Z5y N [1,1,1,1] Q))):=
 Eq.mpr (by kernel_rfl) (h _ (Zc _) _ rfl)
theorem Znh(N:Nat)(e:Edit)(t:Tree)(x28:Int)(rl_6_1_a:List Int)(N1 N0:NT)(Q:QT)(h:let z0:=e.words.getD x28.toNat (WEdit.mk 0 0 0 0);let z2:=Jk (Tree.mk t.kind t.words t.kids) (WEdit.at_ z0);let z1:=decide (((rl_6_1_a.length:Int):Int)<=(WEdit.at_ z0));((z1=true->((rl_6_1_a.length+([0]).length)*8<=140737488355328)/\(N1 (Z5h e t x28 (rl_6_1_a++([0])))))/\(z1=false->(ZeN (z2,(WEdit.new z0),(WEdit.mask z0),()))/\((0:Int)<=(WEdit.at_ z0)/\(WEdit.at_ z0) < (rl_6_1_a.length:Int))/\((0:Nat)<=(Int.toNat (WEdit.at_ z0)))/\((InR (x28+1))/\(N0 (Z5i e t (x28+1) (List.set rl_6_1_a (Int.toNat (WEdit.at_ z0)) (mix z2 (WEdit.new z0) (WEdit.mask z0))))))))):
  ZfF N [1,1,1,0,1,0,0,1,1,0,0,1,1,1,0,0,0] (Z5h e t x28 rl_6_1_a) (xT N1 (xB 2 (Z5y N [1,1,1,0,1,0,0,1,1,0,0,1,1,1,1] (xB 1 (Z5y N [1,1,1,0,1,0,0,1,1,1] (xT N0 (xB 0 (Z5y N [1,1,1,1] Q)))))))):=
 Eq.mpr (by kernel_rfl) h
theorem Zng(N:Nat)(e:Edit)(t:Tree)(rl_6_1:List Int)(x70_b:Int)(rl_6_2_b:List Tree)(N2:NT)(Q:QT)(h:∀ y_1,y_1=t->∀ y_2,y_2=(e.kids.getD x70_b.toNat (KidOf.mk 0 Edit.nil))->∀ y_3,y_3=(y_2.e)->∀ y_4,y_4=(Jz y_1 y_2.at_)->let z1:= !((doE false y_3 y_4).isSome);let z0:=decide (x70_b < (e.kids.length:Int));((z0=true->((0:Int)<=x70_b/\x70_b < (e.kids.length:Int))/\((Z8e (y_1,y_2.at_,()))/\(Z2N (y_3,y_4,()))/\(ZcL (y_3,y_4,()) < N)/\((z1=true->(Q .ret (L2 [pL 4,pB 5 false] [(.loc 4,[ci 0,.nils,.nils])])))/\(z1=false->Zo (ZfF N [1,1,1,1,0,1,0,0,1,1,0,0,1,1,1,0,0,0]) (Z5f e t rl_6_1 x70_b rl_6_2_b) (xB 6 (Z5y N [1,1,1,1,0,1,0,0,1,1,0,0,1,1,1,1] (xB 5 (Z5y N [1,1,1,1,0,1,0,0,1,1,1] (xT N2 (xB 4 (Z5y N [1,1,1,1,1] Q)))))))))))/\(z0=false->(Q .ret (L2 [pL 4,pB 5 true] [(.loc 4,[ci 1,sU .u64 rl_6_1 (.own (.l 4 1)),sU .tree rl_6_2_b (.own (.l 4 2))])]))))):
  ZfF N [1,1,1,1,0,1,0,0] (Z5g e t rl_6_1 x70_b rl_6_2_b) (xT N2 (xB 4 (Z5y N [1,1,1,1,1] Q))):=
 Eq.mpr (by kernel_rfl) (h _ (Zc _) _ rfl _ (Zd _) _ (Zc _))
theorem Znf(N:Nat)(e:Edit)(t:Tree)(rl_6_1:List Int)(x70_b:Int)(rl_6_2_c:List Tree)(N3 N2:NT)(Q:QT)(h:∀ y_1,y_1=t->∀ y_2,y_2=(e.kids.getD x70_b.toNat (KidOf.mk 0 Edit.nil))->∀ y_3,y_3=(y_2.e)->∀ y_4,y_4=(Jz y_1 y_2.at_)->∀ y_5,y_5=(Z9J y_3 y_4)->let z0:=decide (((rl_6_2_c.length:Int):Int)<=y_2.at_);((z0=true->((rl_6_2_c.length+([(Tree.mk 0 [] [])]).length)*56<=140737488355328)/\(N3 (Z5f e t rl_6_1 x70_b (rl_6_2_c++([(Tree.mk 0 [] [])])))))/\(z0=false->((0:Int)<=y_2.at_/\y_2.at_ < (rl_6_2_c.length:Int))/\((0:Nat)<=(Int.toNat y_2.at_))/\((InR (x70_b+1))/\(N2 (Z5g e t rl_6_1 (x70_b+1) (List.set rl_6_2_c (Int.toNat y_2.at_) y_5))))))):
  ZfF N [1,1,1,1,0,1,0,0,1,1,0,0,1,1,1,0,0,0] (Z5f e t rl_6_1 x70_b rl_6_2_c) (xT N3 (xB 6 (Z5y N [1,1,1,1,0,1,0,0,1,1,0,0,1,1,1,1] (xB 5 (Z5y N [1,1,1,1,0,1,0,0,1,1,1] (xT N2 (xB 4 (Z5y N [1,1,1,1,1] Q)))))))):=
 Eq.mpr (by kernel_rfl) (h _ (Zc _) _ rfl _ (Zd _) _ (Zc _) _ (Zc _))
def Zti(N:Nat)(e:Edit)(t:Tree):Prop:=AW (Z6 (Z8B N)) Try.f107 Zk5 [] (Zm (Z8P.can (e,t,())) []) (EQ Try.f107 (Z3o (e,t,())) [])
abbrev Zu9:Prop:=∀ (N:Nat) (e:Edit) (t:Tree) (_:Unit),Z3s (e,t,())->Z9h (e,t,()) < N+1->Zti N e t
def Zk4:Zf U:=fun i=> match i with
 | 0=> ([(2,[]),(3,[]),(4,[])],[(.loc 2,[]),(.loc 3,[]),(.loc 4,[])])
 | 1=> ([(2,[]),(3,[]),(4,[]),(18,[])],[(.loc 2,[]),(.loc 3,[]),(.loc 4,[])])
 | 2=> ([(4,[]),(5,[])],[(.loc 4,[])])
 | 3=> ([(2,[]),(3,[]),(4,[]),(6,[])],[(.loc 2,[]),(.loc 3,[]),(.loc 4,[]),(.loc 6,[])])
 | 4=> ([(2,[]),(4,[]),(6,[]),(7,[])],[(.loc 2,[]),(.loc 4,[]),(.loc 6,[])])
 | 5=> ([(4,[]),(6,[]),(7,[]),(26,[]),(27,[]),(28,[])],[(.loc 4,[]),(.loc 6,[.any,.any,.own .tree])])
 | 6=> ([(4,[]),(6,[]),(7,[]),(26,[]),(27,[]),(28,[]),(29,[])],[(.loc 4,[]),(.loc 6,[])])
 | 7=> ([(4,[]),(6,[]),(7,[]),(9,[]),(26,[]),(27,[]),(28,[])],[(.loc 4,[]),(.loc 6,[]),(.loc 9,[])])
 | 8=> ([(4,[]),(6,[]),(7,[]),(9,[]),(10,[]),(26,[]),(27,[]),(28,[])],[(.loc 4,[]),(.loc 6,[]),(.loc 9,[])])
 | 9=> ([(4,[]),(6,[]),(7,[]),(9,[]),(10,[]),(26,[]),(27,[]),(28,[]),(35,[])],[(.loc 4,[]),(.loc 6,[]),(.loc 9,[])])
 | 10=> ([(4,[]),(6,[]),(7,[]),(9,[]),(10,[]),(26,[]),(27,[]),(28,[]),(35,[]),(36,[])],[(.loc 4,[]),(.loc 6,[]),(.loc 9,[])])
 | 11=> ([(4,[]),(6,[]),(7,[]),(26,[]),(27,[]),(28,[]),(97,[])],[(.loc 4,[]),(.loc 6,[])])
 | 12=> ([(4,[]),(6,[]),(7,[]),(9,[]),(10,[]),(26,[]),(27,[]),(28,[]),(35,[]),(44,[])],[(.loc 4,[]),(.loc 6,[]),(.loc 9,[])])
 | 13=> ([(4,[]),(6,[]),(7,[]),(9,[]),(10,[]),(26,[]),(27,[]),(28,[]),(49,[])],[(.loc 4,[]),(.loc 6,[]),(.loc 9,[])])
 | 14=> ([(4,[]),(6,[]),(7,[]),(9,[]),(10,[]),(26,[]),(27,[]),(28,[]),(49,[])],[(.loc 4,[]),(.loc 6,[]),(.loc 9,[])])
 | 15=> ([(4,[]),(6,[]),(7,[]),(9,[]),(10,[]),(26,[]),(27,[]),(28,[]),(49,[])],[(.loc 4,[]),(.loc 6,[]),(.loc 9,[])])
 | 16=> ([(4,[]),(6,[]),(7,[]),(9,[]),(10,[]),(26,[]),(27,[]),(28,[]),(54,[])],[(.loc 4,[]),(.loc 6,[]),(.loc 9,[])])
 | 17=> ([(4,[]),(5,[])],[(.loc 4,[])])
 | 18=> ([(4,[]),(6,[]),(7,[]),(9,[]),(10,[]),(26,[]),(27,[]),(28,[])],[(.loc 4,[]),(.loc 6,[]),(.loc 9,[])])
 | 19=> ([(4,[]),(6,[]),(7,[]),(9,[]),(11,[]),(26,[]),(27,[]),(28,[])],[(.loc 4,[]),(.loc 6,[]),(.loc 9,[])])
 | 20=> ([(4,[]),(6,[]),(7,[]),(12,[]),(13,[]),(26,[]),(27,[]),(28,[])],[(.loc 4,[]),(.loc 6,[]),(.loc 12,[])])
 | 21=> ([(4,[]),(6,[]),(7,[]),(12,[]),(26,[]),(27,[]),(28,[]),(72,[])],[(.loc 4,[]),(.loc 6,[]),(.loc 12,[])])
 | 22=> ([(4,[]),(5,[])],[(.loc 4,[])])
 | 23=> ([(4,[]),(6,[]),(7,[]),(26,[]),(27,[]),(28,[]),(97,[])],[(.loc 4,[]),(.loc 6,[])])
 | 24=> ([(4,[]),(6,[]),(7,[]),(9,[]),(11,[]),(26,[]),(27,[]),(28,[]),(80,[])],[(.loc 4,[]),(.loc 6,[]),(.loc 9,[])])
 | 25=> ([(4,[]),(6,[]),(7,[]),(26,[]),(27,[]),(28,[]),(97,[])],[(.loc 4,[]),(.loc 6,[])])
 | 26=> ([(4,[]),(6,[]),(7,[]),(9,[]),(11,[]),(26,[]),(27,[]),(28,[]),(89,[])],[(.loc 4,[]),(.loc 6,[]),(.loc 9,[])])
 | 27=> ([(4,[]),(6,[]),(7,[]),(26,[]),(27,[]),(28,[]),(97,[])],[(.loc 4,[]),(.loc 6,[])])
 | 28=> ([(4,[]),(5,[])],[(.loc 4,[])])
 | 29=> ([(4,[]),(6,[]),(7,[]),(26,[]),(27,[]),(28,[])],[(.loc 4,[]),(.loc 6,[.any,.any,.own .tree])])
 | 30=> ([(4,[]),(5,[])],[(.loc 4,[])])
 | _=> ([],[])
def Z0O(e:Edit)(t:Tree)(x28:Int)(x7 ml6_2:List Tree):LSt U:=(L2 [pL 4,pL 6,(7,.c (sU .tree x7 .unk)),(26,.c (sU .op e.ops .unk)),pI 27 (e.ops.length:Int),pI 28 x28] [(.loc 4,[ci 0,.nils,.nils]),(.loc 6,[ci t.kind,.nils,sU .tree ml6_2 (.own (.l 6 2))])])
def Z1J(e:Edit)(t:Tree)(x28:Int)(x7_a ml6_2_a:List Tree)(v97_a:V U):LSt U:=(L2 [pL 4,pL 6,(7,.c (sU .tree x7_a .unk)),(26,.c (sU .op e.ops .unk)),pI 27 (e.ops.length:Int),pI 28 x28,(97,v97_a)] [(.loc 4,[ci 0,.nils,.nils]),(.loc 6,[ci t.kind,.nils,sU .tree ml6_2_a (.own (.l 6 2))])])
def Z5e(e:Edit)(t:Tree)(x28:Int)(x7 ml6_2:List Tree)(x10_b:Int)(v49_b:V U):LSt U:=(L2 [pL 4,pL 6,(7,.c (sU .tree x7 .unk)),pL 9,pI 10 x10_b,(26,.c (sU .op e.ops .unk)),pI 27 (e.ops.length:Int),pI 28 x28,(49,v49_b)] [(.loc 4,[ci 0,.nils,.nils]),(.loc 6,[ci t.kind,.nils,sU .tree ml6_2 (.own (.l 6 2))]),(.loc 9,(enc .op (e.ops.getD x28.toNat Op.nil)))])
abbrev Z8R(N:Nat)(p:List Nat):=AW (Z6 (Z8B N)) Try.f108 Zk4 p
abbrev ZfD(N:Nat)(p:List Nat):=SW (Z6 (Z8B N)) Try.f108 Zk4 p
theorem Zxu(N:Nat)(e:Edit)(t:Tree)(Q:QT)(h:(((t.kind !=e.list)=true->(Q .ret (L2 [pL 4,pB 5 false] [(.loc 4,[ci 0,.nils,.nils])])))/\((t.kind !=e.list)=false->(Zo (Z8R N [1,1,1,1,0,1,0,0]) (Z0O e t 0 t.kids []) (xB 0 (ZfD N [1,1,1,1,1] Q)))))):
  Z8R N [] (L2 [(0,.agg (enc .edit e)),(1,.agg (enc .tree t))] []) Q:=
 Eq.mpr (by kernel_rfl) h
theorem Znd(N:Nat)(e:Edit)(t:Tree)(x28:Int)(x7 ml6_2:List Tree)(N0:NT)(Q:QT)(h:∀ y_1,y_1=(e.ops.getD x28.toNat Op.nil)->let z2:=decide (x28 < (e.ops.length:Int));let z1:=xT N0 (xB 0 (ZfD N [1,1,1,1,1] Q));let z0:=xB 1 (ZfD N [1,1,1,1,0,1,0,0,1,1,1] z1);((z2=true->((0:Int)<=x28/\x28 < (e.ops.length:Int))/\(((y_1.kind==2)=true->((ml6_2.length+y_1.l.length)*56<=140737488355328)/\(Z8R N [1,1,1,1,0,1,0,0,1,1,1] (Z1J e t x28 x7 (ml6_2++y_1.l) .junk) z1))/\((y_1.kind==2)=false->(((y_1.kind==1)=true->(Z8R N [1,1,1,1,0,1,0,0,1,1,0,0,1,1,1] (Z5e e t x28 x7 ml6_2 (y_1.l.length:Int) .junk) z0))/\((y_1.kind==1)=false->(((y_1.kind==3)=true->(Z8R N [1,1,1,1,0,1,0,0,1,1,0,0,1,1,1] (Z5e e t x28 x7 ml6_2 1 (.c (.bool (y_1.kind==3)))) z0))/\((y_1.kind==3)=false->Z8R N [1,1,1,1,0,1,0,0,1,1,0,0,1,1,1] (Z5e e t x28 x7 ml6_2 y_1.n (.c (.bool (y_1.kind==3)))) z0)))))))/\(z2=false->(Q .ret (L2 [pL 4,pB 5 (((x7.length:Int):Int)==0)] [(.loc 4,[ci t.kind,.nils,sU .tree ml6_2 (.own (.l 4 2))])]))))):
  Z8R N [1,1,1,1,0,1,0,0] (Z0O e t x28 x7 ml6_2) (xT N0 (xB 0 (ZfD N [1,1,1,1,1] Q))):=
 Eq.mpr (by kernel_rfl) (h _ rfl)
theorem Zne(N:Nat)(e:Edit)(t:Tree)(x28:Int)(x7_a ml6_2_a:List Tree)(v97_a:V U)(N0:NT)(Q:QT)(h:(InR (x28+1))/\(N0 (Z0O e t (x28+1) x7_a ml6_2_a))):
  Z8R N [1,1,1,1,0,1,0,0,1,1,1] (Z1J e t x28 x7_a ml6_2_a v97_a) (xT N0 (xB 0 (ZfD N [1,1,1,1,1] Q))):=
 Eq.mpr (by kernel_rfl) h
theorem ZaD(N:Nat)(e:Edit)(t:Tree)(x28:Int)(x7 ml6_2:List Tree)(x10_b:Int)(v49_b:V U)(N0:NT)(Q:QT)(h:∀ y_1,y_1=(e.ops.getD x28.toNat Op.nil)->∀ y_2,y_2=(List.getD (List.take x10_b.toNat x7) (Int.toNat 0) Tree.nil)->∀ y_3,y_3=y_2->∀ y_4,y_4=(y_1.e)->∀ y_5,y_5=(eqX (Z3 y_1.l) (Z3 (List.take x10_b.toNat x7)))->∀ y_6,y_6=(Z9J y_4 y_3)->let z5:= !((doE false y_4 y_3).isSome);let z4:=decide (((x7.length:Int):Int) < x10_b);let z3:=List.drop x10_b.toNat x7;let z2:=List.take x10_b.toNat x7;let z1:=xT N0 (xB 0 (ZfD N [1,1,1,1,1] Q));let z0:=Q .ret (L2 [pL 4,pB 5 false] [(.loc 4,[ci 0,.nils,.nils])]);((z4=true->z0)/\(z4=false->(((0:Int)<=x10_b/\x10_b<=(x7.length:Int))/\((0:Int)<=x10_b/\x10_b<=(x7.length:Int))/\(((y_1.kind==0)=true->((ml6_2.length+z2.length)*56<=140737488355328)/\(Z8R N [1,1,1,1,0,1,0,0,1,1,1] (Z1J e t x28 z3 (ml6_2++z2) .junk) z1))/\((y_1.kind==0)=false->(((y_1.kind==1)=true->(Z63 (y_1.l,z2,(),()))/\(((!y_5)=true->z0)/\((!y_5)=false->Z8R N [1,1,1,1,0,1,0,0,1,1,1] (Z1J e t x28 z3 ml6_2 (.c (.bool (!y_5)))) z1)))/\((y_1.kind==1)=false->((0:Int)<=0/\0 < (z2.length:Int))/\(Z2N (y_4,y_3,()))/\(ZcL (y_4,y_3,()) < N)/\((z5=true->z0)/\(z5=false->((ml6_2.length+([y_6]).length)*56<=140737488355328)/\(Z8R N [1,1,1,1,0,1,0,0,1,1,1] (Z1J e t x28 z3 (ml6_2++([y_6])) .junk) z1))))))))))):
  Z8R N [1,1,1,1,0,1,0,0,1,1,0,0,1,1,1] (Z5e e t x28 x7 ml6_2 x10_b v49_b) (xB 1 (ZfD N [1,1,1,1,0,1,0,0,1,1,1] (xT N0 (xB 0 (ZfD N [1,1,1,1,1] Q))))):=
 Eq.mpr (by kernel_rfl) (h _ rfl _ rfl _ (Zc _) _ (Zd _) _ rfl _ (Zc _))
def Zth(N:Nat)(e:Edit)(t:Tree):Prop:=AW (Z6 (Z8B N)) Try.f108 Zk4 [] (Zm (Z8P.can (e,t,())) []) (EQ Try.f108 (Z3n (e,t,())) [])
abbrev Zu8:Prop:=∀ (N:Nat) (e:Edit) (t:Tree) (_:Unit),Z3r (e,t,())->Z9h (e,t,()) < N+1->Zth N e t
theorem Zro(Z9O:CT 106 Jf)(ZmE:CT 149 Z1i)(c91:CT 91 Z3i)(Zfi:CT 151 Z0f)(ZvM:CT 150 Z4I)(c66:CT 66 Z6F)(ZpS:CT 109 Z2H)(b70:Zyl)(Zw1:Zu9)(Zw0:Zu8):
  CT 70 Z81/\CT 107 Zjb/\CT 108 Zja:=by
 have h82 : ∃ fn, Try.prog.funcs[(70 : FuncId)]? = some fn ∧ fn.body.isSome = true ∧ (fn.name == "runtime.NumGoroutine") = false := ⟨Try.f70, Try.func70, rfl, rfl⟩
 have h113 : ∃ fn, Try.prog.funcs[(107 : FuncId)]? = some fn ∧ fn.body.isSome = true ∧ (fn.name == "runtime.NumGoroutine") = false := ⟨Try.f107, Try.func107, rfl, rfl⟩
 have h114 : ∃ fn, Try.prog.funcs[(108 : FuncId)]? = some fn ∧ fn.body.isSome = true ∧ (fn.name == "runtime.NumGoroutine") = false := ⟨Try.f108, Try.func108, rfl, rfl⟩
 have key:∀ N,CT 70 (fs Z8P (fun a=> [Z2N a,ZcL a < N]) Z42)/\CT 107 (fs Z8P (fun a=> [Z3s a,Z9h a < N]) Z3o)/\CT 108 (fs Z8P (fun a=> [Z3r a,Z9h a < N]) Z3n):=by
  intro N
  induction N with
  | zero=> exact ⟨Z7K h82,Z7K h113,Z7K h114⟩
  | succ N ih=>
   have kn:=Z0R (l:=Z8B N) ⟨ih.1,ih.2.1,ih.2.2,Z9O,ZmE,c91,Zfi,ZvM,c66,ZpS,trivial⟩
   exact ⟨JD (Γ:=Z6 (Z8B N)) Zn rfl kn ZuZ Try.func70 rfl rfl (fun a=> by show 2<=_;decide) (fun ⟨e,t,_⟩ h=> b70 N e t () h.1 h.2.1),
    JD (Γ:=Z6 (Z8B N)) Zn rfl kn Zk5 Try.func107 rfl rfl (fun a=> by show 2<=_;decide) (fun ⟨e,t,_⟩ h=> Zw1 N e t () h.1 h.2.1),
    JD (Γ:=Z6 (Z8B N)) Zn rfl kn Zk4 Try.func108 rfl rfl (fun a=> by show 2<=_;decide) (fun ⟨e,t,_⟩ h=> Zw0 N e t () h.1 h.2.1)⟩
 exact ⟨Z7L h82 fun N=> (key N).1,Z7L h113 fun N=> (key N).2.1,Z7L h114 fun N=> (key N).2.2⟩
end
noncomputable section
def Zju(a:Edit × Tree × Unit):V U:= .tup [(true,(enc .tree (JK ((doE false a.1 a.2.1).map Z2)))),(false,[.bool ((doE false a.1 a.2.1).isSome)])]
def Z1L:Fs U:=fs Z8P (fun a=> [Z2N a]) Zju
def Zpw:List (FuncId × Fs U):=[(71,JY),(70,Z81)]
def Zv8:Zf U:=lvl [([2,3,4],[2,3,4]),([4,6,7],[4,6]),([4,6,15],[4,6]),([4,5],[4]),([4,5],[4])]
abbrev A26(p:List Nat):=AW (Z6 Zpw) Try.f26 Zv8 p
theorem ZyR(e:Edit)(t:Tree)(Q:QT)(h:∀ y_1,y_1=e->∀ y_2,y_2=t->∀ y_3,y_3=(Z9J y_1 y_2)->let z0:= !((doE false y_1 y_2).isSome);((Z2N (y_1,y_2,()))/\((z0=true->(Q .ret (L2 [pL 4,pB 5 false] [(.loc 4,[ci 0,.nils,.nils])])))/\(z0=false->(Z0A (y_3,()))/\(Q .ret (L2 [pL 4,pB 5 true] [(.loc 4,(enc .tree (Z2 y_3)))])))))):
  A26 [] (L2 [(0,.agg (enc .edit e)),(1,.agg (enc .tree t))] []) Q:=
 Eq.mpr (by kernel_rfl) (h _ (Zd _) _ (Zc _) _ (Zc _))
def ZwC(e:Edit)(t:Tree):Prop:=AW (Z6 Zpw) Try.f26 Zv8 [] (Zm (Z8P.can (e,t,())) []) (EQ Try.f26 (Zju (e,t,())) [])
theorem ZuV(c71:CT 71 JY)(c70:CT 70 Z81)(hb:∀ (e:Edit) (t:Tree) (_:Unit),Z2N (e,t,())->ZwC e t):CT 26 Z1L:=
 Z4 (l:=[(71,JY),(70,Z81)]) Zn rfl (⟨c71,c70,trivial⟩) Zv8 Try.func26 rfl rfl 2 (fun _=> rfl) (by decide) (fun ⟨e,t,_⟩=> hb e t ())
end
theorem ZpS:Contract Try.prog cfg 109 Z2H:=by
 refine ZoB ?_
 intro l _ hp
 simp only [ZbK] at hp
 refine Zud _ _ ⟨fun h=> ?_,fun _=> ⟨by simp only [Qg];omega,?_⟩⟩
 ·subst h
  simp only [Z6T]
  (repeat' (first | exact trivial | exact rfl | apply And.intro))
 ·simp only [Z6T]
  (repeat' (first | exact trivial | exact rfl | apply And.intro))
theorem ZvM:Contract Try.prog cfg 150 Z4I:=by
 refine ZrP ?_
 intro l _ hp
 simp only [ZbG] at hp
 refine Zxi _ _ ⟨fun h=> ?_,fun _=> ⟨by simp only [Qg];omega,?_⟩⟩
 ·subst h
  simp only [Zae]
  (repeat' (first | exact trivial | exact rfl | apply And.intro))
 ·simp only [Zae]
  (repeat' (first | exact trivial | exact rfl | apply And.intro))
theorem Zd5{α:Type}(z:α){l:List α}{i:Nat}(h:i < l.length)(x:α):Yb z l i x=l.set i x:=by
 simp only [Yb];rw [show i+1 - l.length=0 by omega];simp
theorem Z8Y{α:Type}(z:α){l:List α}{i:Nat}(h:l.length<=i)(x:α):Yb z (l++[z]) i x=Yb z l i x:=by
 simp only [Yb,Q9,XJ,Qa]
 rw [show i+1 - l.length=(i+1 - (l.length+1))+1 by omega,List.replicate_succ]
 try rfl
theorem Zoy(t:Tree):t.words.length+Z7 t.kids+1=Zi t:=by obtain ⟨k,w,ks⟩:=t;simp only [Zi,Tree.words_mk,Tree.kids_mk];omega
theorem ZnC{t:Tree}(h:rng t):InR t.kind/\(∀ x∈t.words,isW x)/\ZU t.kids:=by obtain ⟨k,w,ks⟩:=t;exact h
theorem Zjg{ks:List Tree}(h:ZU ks)(i:Nat):rng (ks.getD i Tree.nil):=by
 by_cases hi:i < ks.length
 ·exact YV h (Zk hi _)
 ·rw [Qo,Qu (by omega)]
  refine ⟨by decide,by simp [Tree.nil],trivial⟩
theorem ZgL(ks:List Tree)(i:Nat):Zi (ks.getD i Tree.nil)<=Z7 ks+1:=by
 by_cases hi:i < ks.length
 ·have:=JH (Zk hi Tree.nil);omega
 ·rw [Qo,Qu (by omega)]
  simp [Tree.nil,Zi,Z7]
theorem Zmi(t:Tree){i:Int}(h:0<=i):Jz t i=t.kids.getD i.toNat Tree.nil:=by unfold Jz;rw [if_neg (by omega)]
theorem Zhy(t:Tree){i:Int}(h:0<=i):Jk t i=t.words.getD i.toNat 0:=by unfold Jk;rw [if_neg (by omega)]
theorem Zqs{l:List Int}(h:∀ x∈l,isW x)(i:Nat):isW (l.getD i 0):=by
 by_cases hi:i < l.length
 ·exact h _ (Zk hi _)
 ·rw [Qo,Qu (by omega)];show 0<=(0:Int)/\(0:Int) < _;omega
theorem b70:Zyl:=by
 intro N e t _ hp hN
 simp only [Z2N,ZcL] at hp hN
 obtain ⟨⟨p1,p2,d,p3⟩,p4,p5⟩:=hp
 have h1:=Jd e
 have h2:=Z6K p2
 have hd:=Z0t false e t
 rw [Yt] at hd
 refine Zyz _ _ _ _ ?_
 rintro y1 hy1 y2 hy2 y3 hy3
 subst hy1 hy2 hy3
 (simp only [vcT,vcS])
 refine ⟨fun hk=> ?_,fun hk=> ⟨fun hk1=> ⟨by simp only [Z17];omega,?_⟩,fun hk1=> ⟨fun hk2=> ⟨by simp only [Z3s];exact ⟨hk2,⟨p1,p2,d,p3⟩,p4,p5⟩,by simp only [Z9h];omega,?_⟩,fun hk2=> ⟨fun hk3=> ⟨by simp only [Z3r];exact ⟨hk3,⟨p1,p2,d,p3⟩,p4,p5⟩,by simp only [Z9h];omega,?_⟩,fun hk3=> ?_⟩⟩⟩⟩
 ·rw [if_pos hk] at hd
  simp only [Z42,Z9J,if_pos hk,hd]
  (repeat' (first | exact trivial | exact rfl | apply And.intro))
 ·rw [if_neg hk,if_pos hk1] at hd
  simp only [Z42,Z9J,if_neg hk,if_pos hk1,hd]
  cases ZT (Z2 y1.old) (Z2 y2) <;> (repeat' (first | exact trivial | exact rfl | apply And.intro))
 ·rw [if_neg hk,if_neg hk1,if_pos hk2] at hd
  simp only [Z42,Z9J,if_neg hk,if_neg hk1,if_pos hk2,hd]
  (repeat' (first | exact trivial | exact rfl | apply And.intro))
 ·rw [if_neg hk,if_neg hk1,if_neg hk2,if_pos hk3] at hd
  simp only [Z42,Z9J,if_neg hk,if_neg hk1,if_neg hk2,if_pos hk3,hd]
  have e2:(if y2.kind=y1.list then (Z2A (ZG false y1.ops y2.kids [])).map fun b=> Tree.mk y1.list [] b else none).isSome=(Z2A (Z5x false y1 y2)).isSome:=by
   unfold Z5x
   split
   ·cases Z2A (ZG false y1.ops y2.kids []) <;> rfl
   ·try rfl
  rw [e2]
  (repeat' (first | exact trivial | exact rfl | apply And.intro))
 ·rw [if_neg hk,if_neg hk1,if_neg hk2,if_neg hk3] at hd
  simp only [Z42,Z9J,if_neg hk,if_neg hk1,if_neg hk2,if_neg hk3,hd]
  (repeat' (first | exact trivial | exact rfl | apply And.intro))
theorem Zw1:Zu9:=by
 intro N e t _ hp hN
 simp only [Z3s,Z9h] at hp hN
 obtain ⟨k2,⟨p1,p2,d,p3⟩,p4,p5⟩:=hp
 have h1:=Jd e
 have h2:=J6 e.kids
 have h3:=Zoy t
 have h4:=Zv t.kids
 have r2:=Z6K p2
 have rt:=ZnC p5
 have ri:=Zj p3
 refine Zxv _ _ _ _ ?_
 (simp only [vcT,vcS])
 have no:Z9H false e t=none->YM cfg Try.f107.ntmps Try.f107.results.toList (Z3o (e,t,())) [] .ret (⟨[(4,.ptr (.loc 4) 0),(5,.c (.bool false))],[((.loc 4),[.int .i64 0,.nils,.nils])],[]⟩:LSt U):=by
  intro hs
  simp only [Z3o,hs]
  (repeat' (first | exact trivial | exact rfl | apply And.intro))
 refine ⟨fun hk=> no (by unfold Z9H;rw [if_neg hk]),fun hk=> ?_⟩
 have hk:t.kind=1:=by simpa using hk
 refine ⟨by simp only [ZbK];omega,by simp only [ZbG];omega,?_⟩
 refine Zb (ι:=Int × List Int) (fun s=> Z5i e t s.1 s.2) (fun s=> 0<=s.1/\s.1<=e.words.length/\wsD t.words (e.words.drop s.1.toNat) s.2=wsD t.words e.words t.words/\s.2.length<=t.words.length+65536) (fun s=> ((e.words.length:Int) - s.1).toNat) (0,t.words) rfl ⟨by simp,by simp,by simp,by simp⟩ ?_
 rintro ⟨i,out⟩ ⟨f1,f2,f3,f4⟩
 dsimp only at f1 f2 f3 f4
 refine Zni _ _ _ _ _ _ _ ?_
 rintro y1 hy1 y2 hy2
 subst hy1
 (simp only [vcT,vcS])
 refine ⟨fun hi=> ?_,fun hi=> ?_⟩
 ·have hmem:=Zk (l:=e.words) (i:=i.toNat) (by omega) (WEdit.mk 0 0 0 0)
  rw [J1 f1 hi (WEdit.mk 0 0 0 0),<-hy2] at f3
  rw [<-hy2] at hmem
  have hw:=Z06 ri.words y2 hmem
  obtain ⟨g1,g2,g3,g4⟩:=r2.2.2.2.1 y2 hmem
  have hat:Jk y1 y2.at_=y1.words.getD y2.at_.toNat 0:=Zhy y1 (by omega)
  have hwi:=Zqs rt.2.1 y2.at_.toNat
  rw [wsD] at f3
  rw [hat]
  unfold isW at g3 g4 hwi
  refine ⟨⟨f1,hi⟩,by simp only [Z8e],by simp only [ZeN];omega,fun hne=> no ?_,fun heq=> ?_⟩
  ·rw [if_neg hne] at f3
   unfold Z9H
   rw [if_pos hk,<-f3]
   try rfl
  ·have heq:mix 0 (y1.words.getD y2.at_.toNat 0) y2.mask=y2.old:=by simpa using heq
   rw [if_pos heq] at f3
   refine Zb (ι:=List Int) (fun s=> Z5h e y1 i s) (fun s=> (∀ v,Yb 0 s y2.at_.toNat v=Yb 0 out y2.at_.toNat v)/\s.length<=y1.words.length+65536) (fun s=> (y2.at_+1 - s.length).toNat) out rfl ⟨fun v=> rfl,f4⟩ ?_
   rintro s ⟨q1,q2⟩
   refine Znh _ _ _ _ _ _ _ _ ?_
   (simp only [Tree.eta,Edit.eta,Tree.kind_mk,Tree.words_mk,Tree.kids_mk])
   rw [<-hy2,hat]
   (simp only [vcT,vcS])
   refine ⟨fun hl=> ⟨by simp;omega,s++[0],rfl,⟨fun v=> ?_,by simp;omega⟩,by simp;omega⟩,fun hl=> ?_⟩
   ·rw [Z8Y 0 (by omega),q1]
   ·have hl:y2.at_ < s.length:=by omega
    refine ⟨by simp only [ZeN];omega,by omega,by omega,by unfold InR;omega,(i+1,s.set y2.at_.toNat (mix (y1.words.getD y2.at_.toNat 0) y2.new y2.mask)),rfl,⟨by dsimp only;omega,by dsimp only;omega,?_,by simp only [List.length_set];omega⟩,by dsimp only;omega⟩
    dsimp only
    rw [<-f3,<-Zd5 0 (by omega),q1]
 ·rw [Ql (by omega),wsD] at f3
  refine Zb (ι:=Int × List Tree) (fun s=> Z5g e y1 out s.1 s.2) (fun s=> 0<=s.1/\s.1<=e.kids.length/\Jj false y1.kids (e.kids.drop s.1.toNat) s.2=Jj false y1.kids e.kids y1.kids/\s.2.length<=y1.kids.length+65536) (fun s=> ((e.kids.length:Int) - s.1).toNat) (0,y1.kids) rfl ⟨by simp,by simp,by simp,by simp⟩ ?_
  rintro ⟨j,ks⟩ ⟨e1,e2,e3,e4⟩
  dsimp only at e1 e2 e3 e4
  refine Zng _ _ _ _ _ _ _ _ ?_
  rintro y1 hy1 y2 hy2 y3 hy3 y4 hy4
  subst hy1
  (simp only [vcT,vcS])
  refine ⟨fun hj=> ?_,fun hj=> ?_⟩
  ·have hmem:=Zk (l:=e.kids) (i:=j.toNat) (by omega) (KidOf.mk 0 Edit.nil)
   rw [J1 e1 hj (KidOf.mk 0 Edit.nil),<-hy2] at e3
   rw [<-hy2] at hmem
   have hk2:=Zs ri.kids y2 hmem
   have hm:=Z0M hmem
   have hct:=Zcx hmem
   have hca:=Z4z e
   have hr:=(Ys r2.2.2.2.2.2.1 hmem).2
   have hat:Jz y1 y2.at_=y1.kids.getD y2.at_.toNat Tree.nil:=Zmi y1 (by omega)
   rw [hat] at hy4
   have hm4:=ZgL y1.kids y2.at_.toNat
   have hr4:=Zjg rt.2.2 y2.at_.toNat
   rw [Jj,Zcr,<-hy4,<-hy3] at e3
   rw [<-hy4] at hm4 hr4
   rw [<-hy3] at hm hr hk2 hct
   refine ⟨⟨e1,hj⟩,by simp only [Z8e],by simp only [Z2N];exact ⟨⟨by omega,hr,_,hk2.2⟩,by omega,hr4⟩,by simp only [ZcL];omega,fun hne=> no ?_,fun heq=> ?_⟩
   ·have hne:doE false y3 y4=none:=by simpa using hne
    rw [hne] at e3
    unfold Z9H
    rw [if_pos hk,<-f3,<-e3]
    try rfl
   ·obtain ⟨u,hu⟩:=QZ.1 heq
    rw [hu,Qm] at e3
    refine Zb (ι:=List Tree) (fun s=> Z5f e y1 out j s) (fun s=> (∀ v,Yb Tree.nil s y2.at_.toNat v=Yb Tree.nil ks y2.at_.toNat v)/\s.length<=y1.kids.length+65536) (fun s=> (y2.at_+1 - s.length).toNat) ks rfl ⟨fun v=> rfl,e4⟩ ?_
    rintro s ⟨q1,q2⟩
    refine Znf _ _ _ _ _ _ _ _ _ ?_
    rintro z1 hz1 z2 hz2 z3 hz3 z4 hz4 z5 hz5
    rw [<-hy2] at hz2
    subst hz1 hz2
    rw [<-hy3] at hz3
    subst hz3
    rw [hat,<-hy4] at hz4
    subst hz4
    rw [Z8k hu] at hz5
    subst hz5
    (simp only [vcT,vcS])
    refine ⟨fun hl=> ⟨by simp;omega,s++[Tree.nil],rfl,⟨fun v=> ?_,by simp;omega⟩,by simp;omega⟩,fun hl=> ?_⟩
    ·rw [Z8Y Tree.nil (by omega),q1]
    ·have hl:z2.at_ < s.length:=by omega
     refine ⟨by omega,by omega,by unfold InR;omega,(j+1,s.set z2.at_.toNat z5),rfl,⟨by dsimp only;omega,by dsimp only;omega,?_,by simp only [List.length_set];omega⟩,by dsimp only;omega⟩
     dsimp only
     rw [<-e3,<-Zd5 Tree.nil (by omega),q1]
  ·rw [Ql (by omega),Jj] at e3
   have hs:Z9H false e y1=some (.mk 1 out ks):=by
    unfold Z9H
    rw [if_pos hk,<-f3,<-e3]
    try rfl
   simp only [Z3o,hs]
   (repeat' (first | exact trivial | exact rfl | apply And.intro))
theorem Zmw(r:Bool)(o:Op)(s:List Op)(rest out:List Tree):ZG r (o ::s) rest out=(Z3C r o rest out).bind fun x=> ZG r s x.2 x.1:=by rw [ZG]
theorem Z1x{ks:List Tree}(h:ZU ks)(n:Nat):ZU (ks.drop n):=by
 induction n generalizing ks with
 | zero=> exact h
 | succ n ih=> cases ks with
  | nil=> exact h
  | cons a r=> exact ih h.2
theorem Zw0:Zu8:=by
 intro N e t _ hp hN
 simp only [Z3r,Z9h] at hp hN
 obtain ⟨k3,⟨p1,p2,d,p3⟩,p4,p5⟩:=hp
 have h1:=Jd e
 have h2:=Yw e.ops
 have h3:=Zoy t
 have h4:=Zv t.kids
 have r2:=Z6K p2
 have rt:=ZnC p5
 have ri:=Zj p3
 refine Zxu _ _ _ _ ?_
 (simp only [vcT,vcS])
 have no:Z5x false e t=none->YM cfg Try.f108.ntmps Try.f108.results.toList (Z3n (e,t,())) [] .ret (⟨[(4,.ptr (.loc 4) 0),(5,.c (.bool false))],[((.loc 4),[.int .i64 0,.nils,.nils])],[]⟩:LSt U):=by
  intro hs
  simp only [Z3n,hs]
  (repeat' (first | exact trivial | exact rfl | apply And.intro))
 refine ⟨fun hk=> no (by unfold Z5x;rw [if_neg hk]),fun hk=> ?_⟩
 have hk:t.kind=e.list:=by simpa using hk
 have hl0:Z5x false e t=ZG false e.ops t.kids []:=by unfold Z5x;rw [if_pos hk]
 refine Zb (ι:=Int × List Tree × List Tree) (fun s=> Z0O e t s.1 s.2.2 s.2.1)
  (fun s=> 0<=s.1/\s.1<=e.ops.length/\ZG false (e.ops.drop s.1.toNat) s.2.2 s.2.1=Z5x false e t/\s.2.1.length+s.2.2.length+Zg (e.ops.drop s.1.toNat)<=t.kids.length+Zg e.ops/\Z7 s.2.2<=Z7 t.kids/\ZU s.2.2)
  (fun s=> ((e.ops.length:Int) - s.1).toNat) (0,[],t.kids) rfl ⟨by simp,by simp,by simp [hl0],by simp,by simp,rt.2.2⟩ ?_
 rintro ⟨i,out,rest⟩ ⟨f1,f2,f3,f4,f5,f6⟩
 dsimp only at f1 f2 f3 f4 f5 f6
 refine Znd _ _ _ _ _ _ _ _ ?_
 rintro y1 hy1
 (simp only [vcT,vcS])
 refine ⟨fun hi=> ?_,fun hi=> ?_⟩
 ·have hmem:=Zk (l:=e.ops) (i:=i.toNat) (by omega) Op.nil
  rw [J1 f1 hi Op.nil,<-hy1] at f3 f4
  rw [<-hy1] at hmem
  have hr:=Go.AM.rightOs_mem ri.ops y1 hmem
  have hm:=YQ hmem
  have hct:=Zcw hmem
  have hca:=Z4z e
  have hme:=ZV y1
  have hro:=Z1l (Z1w r2.2.2.2.2.2.2 hmem)
  have hml:=Zv y1.l
  simp only [Zg] at f4
  rw [Zmw,Yi] at f3
  have go:∀ (x:List Tree) (m:List Tree) (v:V U) N0 Q',ZG false (e.ops.drop (i+1).toNat) x m=Z5x false e t->m.length+x.length+Zg (e.ops.drop (i+1).toNat)<=t.kids.length+Zg e.ops->Z7 x<=Z7 t.kids->ZU x->
    (∀ s2,s2=Z0O e t (i+1) x m->N0 s2)->Z8R N [1,1,1,1,0,1,0,0,1,1,1] (Z1J e t i x m v) (AExit.then N0 (AExit.inBlock 0 (ZfD N [1,1,1,1,1] Q'))):=by
   intro x m v N0 Q' a1 a2 a3 a4 a5
   exact Zne _ _ _ _ _ _ _ _ _ ⟨by unfold InR;omega,a5 _ rfl⟩
  have fin:∀ (x m:List Tree),ZG false (e.ops.drop (i+1).toNat) x m=Z5x false e t->m.length+x.length+Zg (e.ops.drop (i+1).toNat)<=t.kids.length+Zg e.ops->Z7 x<=Z7 t.kids->ZU x->∀ s2,s2=Z0O e t (i+1) x m->
    ∃ j:Int × List Tree × List Tree,s2=Z0O e t j.1 j.2.2 j.2.1/\(0<=j.1/\j.1<=e.ops.length/\ZG false (e.ops.drop j.1.toNat) j.2.2 j.2.1=Z5x false e t/\j.2.1.length+j.2.2.length+Zg (e.ops.drop j.1.toNat)<=t.kids.length+Zg e.ops/\Z7 j.2.2<=Z7 t.kids/\ZU j.2.2)/\((e.ops.length:Int) - j.1).toNat < ((e.ops.length:Int) - i).toNat:=by
   rintro x m a1 a2 a3 a4 _ rfl
   exact ⟨(i+1,m,x),rfl,⟨by dsimp only;omega,by dsimp only;omega,a1,a2,a3,a4⟩,by dsimp only;omega⟩
  have r1:=ZN hr
  have ht:∀ n:Nat,(rest.take n).length<=rest.length/\(rest.take n).length+(rest.drop n).length=rest.length:=by
   intro n
   simp only [Qp,X4];omega
  refine ⟨⟨f1,hi⟩,fun hk2=> ⟨by omega,?_⟩,fun hk2=> ⟨fun hk1=> ?_,fun hk1=> ⟨fun hk3=> ?_,fun hk3=> ?_⟩⟩⟩
  ·rw [if_neg (by omega),if_neg (by omega),if_pos hk2,Qm] at f3
   exact go _ _ _ _ _ f3 (by simp only [Q9];omega) f5 f6 (fin _ _ f3 (by simp only [Q9];omega) f5 f6)
  ·refine ZaD _ _ _ _ _ _ _ _ _ _ ?_
   rintro z1 hz1 z2 hz2 z3 hz3 z4 hz4 z5 hz5 z6 hz6
   rw [<-hy1] at hz1
   subst hz1
   rw [if_neg (by omega),if_pos hk1] at f3
   (simp only [vcT,vcS])
   rw [X8] at hz5
   rw [X8]
   refine ⟨fun hs=> no ?_,fun hs=> ⟨by omega,by omega,fun h=> by omega,fun _=> ⟨fun _=> ⟨?_,fun hq=> no ?_,fun hq=> ?_⟩,fun h=> absurd hk1 h⟩⟩⟩
   ·have:Jh z1.l rest=false:=by unfold Jh;rw [decide_eq_false (by omega)];try rfl
    rw [this,if_neg (by simp)] at f3
    exact f3.symm
   ·have:=Zc7 z1.l.length rest
    simp only [Z63];omega
   ·have:Jh z1.l rest=false:=by unfold Jh;rw [<-hz5,hq];simp
    rw [this,if_neg (by simp)] at f3
    exact f3.symm
   ·have:Jh z1.l rest=true:=by unfold Jh;rw [<-hz5,hq,decide_eq_true (by omega)];try rfl
    rw [this,if_pos rfl,Qm] at f3
    have hd:=Z20 z1.l.length rest
    have ht1:=ht z1.l.length
    exact go _ _ _ _ _ f3 (by omega) (by omega) (Z1x f6 _) (fin _ _ f3 (by omega) (by omega) (Z1x f6 _))
  ·refine ZaD _ _ _ _ _ _ _ _ _ _ ?_
   rintro z1 hz1 z2 hz2 z3 hz3 z4 hz4 z5 hz5 z6 hz6
   rw [<-hy1] at hz1
   subst hz1
   rw [if_neg (by omega),if_neg hk1,if_neg hk2] at f3
   (simp only [vcT,vcS])
   rw [show Int.toNat 1=1 from rfl]
   refine ⟨fun hs=> no ?_,fun hs=> ⟨by omega,by omega,fun h=> by omega,fun _=> ⟨fun h=> absurd h hk1,fun _=> ?_⟩⟩⟩
   ·rw [if_pos (by omega)] at f3
    exact f3.symm
   ·have hz:z3=rest.getD 0 Tree.nil:=by
     rw [hz3,hz2]
     cases rest with
     | nil=> rfl
     | cons a r=> rfl
    rw [if_neg (by omega),<-hz,<-hz4] at f3
    have hm3:=ZgL rest 0
    have hr3:=Zjg f6 0
    rw [<-hz] at hm3 hr3
    have hre:=YN hr hk3
    rw [<-hz4] at hre hme hro hct
    refine ⟨?_,by simp only [Z2N];exact ⟨⟨by omega,hro.2.2.2,_,hre⟩,by omega,hr3⟩,by simp only [ZcL];omega,fun hne=> no ?_,fun heq=> ?_⟩
    ·simp only [Qp];omega
    ·have hne:doE false z4 z3=none:=by simpa using hne
     rw [hne] at f3
     exact f3.symm
    ·obtain ⟨u,hu⟩:=QZ.1 heq
     rw [Z8k hu] at hz6
     subst hz6
     rw [hu,Qc,Qm] at f3
     have hd:=Z20 1 rest
     have ht1:=ht 1
     have ht2:(rest.take 1).length=1:=by simp only [Qp];omega
     refine ⟨by simp only [XJ];omega,?_⟩
     exact go _ _ _ _ _ f3 (by simp only [Q9,XJ];omega) (by omega) (Z1x f6 _) (fin _ _ f3 (by simp only [Q9,XJ];omega) (by omega) (Z1x f6 _))
  ·have hk0:y1.kind=0:=by cases r1 <;> first | rfl | (exfalso;simp at hk1 hk2 hk3)
   refine ZaD _ _ _ _ _ _ _ _ _ _ ?_
   rintro z1 hz1 z2 hz2 z3 hz3 z4 hz4 z5 hz5 z6 hz6
   rw [<-hy1] at hz1
   subst hz1
   rw [if_pos hk0] at f3
   have hn:1<=z1.n/\z1.n<=1048576:=by cases r1 <;> first | (constructor <;> assumption) | (exfalso;simp at hk1 hk2 hk3 hk0)
   (simp only [vcT,vcS])
   refine ⟨fun hs=> no ?_,fun hs=> ⟨by omega,by omega,fun _=> ⟨?_,?_⟩,fun h=> absurd hk0 h⟩⟩
   ·rw [if_neg (by omega)] at f3
    exact f3.symm
   ·have:=(ht z1.n.toNat).1
    omega
   ·rw [if_pos (by omega),Qm] at f3
    have hd:=Z20 z1.n.toNat rest
    have ht1:=ht z1.n.toNat
    exact go _ _ _ _ _ f3 (by simp only [Q9];omega) (by omega) (Z1x f6 _) (fin _ _ f3 (by simp only [Q9];omega) (by omega) (Z1x f6 _))
 ·rw [Ql (by omega),ZG] at f3
  simp only [Z3n,<-f3,Zp8,Z2A,Qm,hk]
  by_cases hr:rest.length=0
  ·rw [if_pos hr,hr]
   (repeat' (first | exact trivial | exact rfl | apply And.intro))
  ·rw [if_neg hr,show ((rest.length:Int)==0)=false by rw [beq_eq_false_iff_ne];omega]
   (repeat' (first | exact trivial | exact rfl | apply And.intro))
theorem ZyX:Contract Try.prog cfg 70 Z81/\Contract Try.prog cfg 107 Zjb/\Contract Try.prog cfg 108 Zja:=Zro Z9O ZmE c91 Zfi ZvM c66 ZpS b70 Zw1 Zw0
theorem c70:Contract Try.prog cfg 70 Z81:=ZyX.1
theorem Zhh{r:Bool}{e:Edit}{t u:Tree}(hr:∃ d,Z5 e d=true)(ht:Zi t+ctE e<=200000000000)(h:doE r e t=some u):Zi u<=1000000000000:=by
 obtain ⟨d,hr⟩:=hr
 have:=Zrm r e d t u hr h
 omega
theorem c26:Contract Try.prog cfg 26 Z1L:=by
 refine ZuV c71 c70 ?_
 intro e t _ hp
 simp only [Z2N] at hp
 refine ZyR _ _ _ ?_
 rintro y1 hy1 y2 hy2 y3 hy3
 subst hy1 hy2
 (simp only [vcT,vcS])
 refine ⟨by simp only [Z2N];exact hp,fun hn=> ?_,fun hs=> ?_⟩
 ·have hn:doE false y1 y2=none:=by simpa using hn
  simp only [Zju,hn]
  (repeat' (first | exact trivial | exact rfl | apply And.intro))
 ·obtain ⟨u,hu⟩:=QZ.1 hs
  rw [Z8k hu] at hy3
  subst hy3
  have:=Zhh hp.1.2.2 hp.2.1 hu
  refine ⟨by simp only [Z0A];exact this,?_⟩
  simp only [Zju,hu]
  (repeat' (first | exact trivial | exact rfl | apply And.intro))
noncomputable section
def Zav:ArgM ((List Op × List Tree × List Tree × Unit) × Unit):=(.obj 0 (.cons (cWr .op 0 0) (.cons (Z39 .tree 0 1) (.cons (Z39 .tree 0 2) .nil))) .nil)
def Z16(a:(List Op × List Tree × List Tree × Unit) × Unit):Prop:=(a.1.1).length<=200000000000/\(a.1.2.1).length<=200000000000/\(a.1.2.2.1).length<=200000000000
def Z8a(a:(List Op × List Tree × List Tree × Unit) × Unit):V U:= .tup []
def Z4R(a:(List Op × List Tree × List Tree × Unit) × Unit):List (List (C U)):=[[.mref (.x 0 0),sU .tree ((Z0 (Wst.mk a.1.1 a.1.2.1 a.1.2.2.1)).gone) (.own (.x 0 1)),sU .tree ((Z0 (Wst.mk a.1.1 a.1.2.1 a.1.2.2.1)).brought) (.own (.x 0 2))]]
def Z4S(a:(List Op × List Tree × List Tree × Unit) × Unit):List (Tok × LC U):=[(.x 0 0,LC.mk (U:=U) .op ((Z0 (Wst.mk a.1.1 a.1.2.1 a.1.2.2.1)).out) 0)]
def Z1j:Fs U:=ZcN Zav (fun a=> [Z16 a]) Z8a Z4R Z4S
def Zax:ArgM ((List Op × List Tree × List Tree × Unit) × Int × Unit):=(.obj 0 (.cons (cWr .op 0 0) (.cons (Z39 .tree 0 1) (.cons (Z39 .tree 0 2) .nil))) (.cons (JR .i64) .nil))
def Z3q(a:(List Op × List Tree × List Tree × Unit) × Int × Unit):Prop:=(a.1.1).length<=200000000000/\(a.1.2.1).length<=200000000000/\(a.1.2.2.1).length<=200000000000/\(∀ o∈a.1.1,0<=o.n/\o.n<=100000000000000000)/\0<=a.2.1/\a.2.1<=1048576
def ZhR(a:(List Op × List Tree × List Tree × Unit) × Int × Unit):V U:= .tup []
def Zei(a:(List Op × List Tree × List Tree × Unit) × Int × Unit):List (List (C U)):=[[.mref (.x 0 0),sU .tree ((ZH (Wst.mk a.1.1 a.1.2.1 a.1.2.2.1) a.2.1).gone) (.own (.x 0 1)),sU .tree ((ZH (Wst.mk a.1.1 a.1.2.1 a.1.2.2.1) a.2.1).brought) (.own (.x 0 2))]]
def Zej(a:(List Op × List Tree × List Tree × Unit) × Int × Unit):List (Tok × LC U):=[(.x 0 0,LC.mk (U:=U) .op ((ZH (Wst.mk a.1.1 a.1.2.1 a.1.2.2.1) a.2.1).out) 0)]
def Z4J:Fs U:=ZcN Zax (fun a=> [Z3q a]) ZhR Zei Zej
def Zaw:ArgM ((List Op × List Tree × List Tree × Unit) × List Tree × Unit):=(.objAt 0 1 (.cons (cWr .op 0 0) (.cons (Z39 .tree 0 1) (.cons (Z39 .tree 0 2) .nil))) (.cons (aSl .tree) .nil))
def Z8f(a:(List Op × List Tree × List Tree × Unit) × List Tree × Unit):Prop:=(a.1.1).length<=200000000000/\(a.1.2.1).length<=200000000000/\(a.1.2.2.1).length<=200000000000/\Z7 a.2.1<=20000000000
def ZnP(a:(List Op × List Tree × List Tree × Unit) × List Tree × Unit):V U:= .tup []
def Zjo(a:(List Op × List Tree × List Tree × Unit) × List Tree × Unit):List (List (C U)):=[[.mref (.x 0 0),sU .tree ((Wst.mk a.1.1 (a.1.2.1++Z3 a.2.1) a.1.2.2.1).gone) (.own (.x 0 1)),sU .tree ((Wst.mk a.1.1 (a.1.2.1++Z3 a.2.1) a.1.2.2.1).brought) (.own (.x 0 2))]]
def Zjp(a:(List Op × List Tree × List Tree × Unit) × List Tree × Unit):List (Tok × LC U):=[(.x 0 0,LC.mk (U:=U) .op ((Wst.mk a.1.1 (a.1.2.1++Z3 a.2.1) a.1.2.2.1).out) 0)]
def Ze5:Fs U:=ZcN Zaw (fun a=> [Z8f a]) ZnP Zjo Zjp
def Z7X:ArgM ((List Op × List Tree × List Tree × Unit) × List Tree × Unit):=(.objAt 0 2 (.cons (cWr .op 0 0) (.cons (Z39 .tree 0 1) (.cons (Z39 .tree 0 2) .nil))) (.cons (aSl .tree) .nil))
def Zg9(a:(List Op × List Tree × List Tree × Unit) × List Tree × Unit):List (List (C U)):=[[.mref (.x 0 0),sU .tree ((Wst.mk a.1.1 a.1.2.1 (a.1.2.2.1++Z3 a.2.1)).gone) (.own (.x 0 1)),sU .tree ((Wst.mk a.1.1 a.1.2.1 (a.1.2.2.1++Z3 a.2.1)).brought) (.own (.x 0 2))]]
def Zga(a:(List Op × List Tree × List Tree × Unit) × List Tree × Unit):List (Tok × LC U):=[(.x 0 0,LC.mk (U:=U) .op ((Wst.mk a.1.1 a.1.2.1 (a.1.2.2.1++Z3 a.2.1)).out) 0)]
def Zb9:Fs U:=ZcN Z7X (fun a=> [Z8f a]) ZnP Zg9 Zga
def Zhp:ArgL (Int × Edit × Unit):=(.cons (JR .i64) (.cons (aEl .edit) .nil))
def Z4T(a:Int × Edit × Unit):Prop:=a.2.1.words.length<=20000000000/\a.2.1.kids.length<=20000000000
def Zjw(a:Int × Edit × Unit):V U:= .c (.bool (Z5J a.1 a.2.1))
def Z2G:Fs U:=fs Zhp (fun a=> [Z4T a]) Zjw
def Zp1:Zf U:=fun i=> match i with
 | 0=> ([(0,[]),(7,[])],[(.x 0,[.wr .op])])
 | 1=> ([(0,[])],[(.x 0,[.wr .op])])
 | 2=> ([(0,[]),(28,[])],[(.x 0,[.wr .op])])
 | 3=> ([(0,[])],[(.x 0,[.wr .op])])
 | 4=> ([],[(.x 0,[.wr .op])])
 | _=> ([],[])
abbrev Zy8(wo:List Op)(wg wb:List Tree)(Q:QT):=AW (Z6 Ziq) Try.f129 Zp1 [] (⟨[(0,.ptr (.x 0) 0)],[(.x 0,[.mref (.x 0 0),sU .tree wg (.own (.x 0 1)),sU .tree wb (.own (.x 0 2))])],[(.x 0 0,LC.mk (U:=U) .op wo 0)]⟩:LSt U) Q
theorem Zxl(wo:List Op)(wg wb:List Tree)(Q:QT)(h:∀ y_1,y_1=(Edit.mk 0 (Tree.mk 0 [] []) (Tree.mk 0 [] []) [] [] 0 [])->∀ y_2,y_2=(List.set (wo++([(OpOf.mk 0 0 [] y_1:Op)])) (Int.toNat (wo.length:Int)) (OpOf.mk 1 0 wg y_1:Op))->((decide ((0:Int) < (wg.length:Int)))=true->((wo.length+([(OpOf.mk 0 0 [] y_1:Op)]).length)*240<=140737488355328)/\((0:Int)<=(wo.length:Int)/\(wo.length:Int) < ((wo++([(OpOf.mk 0 0 [] y_1:Op)])).length:Int))/\((0:Nat)<=(Int.toNat (wo.length:Int)))/\(((decide ((0:Int) < (wb.length:Int)))=true->((y_2.length+([(OpOf.mk 0 0 [] y_1:Op)]).length)*240<=140737488355328)/\((0:Int)<=(y_2.length:Int)/\(y_2.length:Int) < ((y_2++([(OpOf.mk 0 0 [] y_1:Op)])).length:Int))/\((0:Nat)<=(Int.toNat (y_2.length:Int)))/\(Q .normal (⟨[],[(.x 0,[.mref (.x 0 0),.nils,.nils])],[(.x 0 0,LC.mk (U:=U) .op (List.set (y_2++([(OpOf.mk 0 0 [] y_1:Op)])) (Int.toNat (y_2.length:Int)) (OpOf.mk 2 0 wb y_1:Op)) 0)]⟩:LSt U)))/\((decide ((0:Int) < (wb.length:Int)))=false->Q .normal (⟨[],[(.x 0,[.mref (.x 0 0),.nils,.nils])],[(.x 0 0,LC.mk (U:=U) .op y_2 0)]⟩:LSt U))))/\((decide ((0:Int) < (wg.length:Int)))=false->((decide ((0:Int) < (wb.length:Int)))=true->((wo.length+([(OpOf.mk 0 0 [] y_1:Op)]).length)*240<=140737488355328)/\((0:Int)<=(wo.length:Int)/\(wo.length:Int) < ((wo++([(OpOf.mk 0 0 [] y_1:Op)])).length:Int))/\((0:Nat)<=(Int.toNat (wo.length:Int)))/\(Q .normal (⟨[],[(.x 0,[.mref (.x 0 0),.nils,.nils])],[(.x 0 0,LC.mk (U:=U) .op (List.set (wo++([(OpOf.mk 0 0 [] y_1:Op)])) (Int.toNat (wo.length:Int)) (OpOf.mk 2 0 wb y_1:Op)) 0)]⟩:LSt U)))/\((decide ((0:Int) < (wb.length:Int)))=false->Q .normal (⟨[],[(.x 0,[.mref (.x 0 0),.nils,.nils])],[(.x 0 0,LC.mk (U:=U) .op wo 0)]⟩:LSt U)))):
  Zy8 wo wg wb Q:=by
 have e_:(Zy8 wo wg wb Q)=(let y_1:=(Edit.mk 0 (Tree.mk 0 [] []) (Tree.mk 0 [] []) [] [] 0 []);let y_2:=(List.set (wo++([(OpOf.mk 0 0 [] y_1:Op)])) (Int.toNat (wo.length:Int)) (OpOf.mk 1 0 wg y_1:Op));let zz0:=(decide ((0:Int) < (wb.length:Int)));(((decide ((0:Int) < (wg.length:Int)))=true->((wo.length+([(OpOf.mk 0 0 [] y_1:Op)]).length)*240<=140737488355328)/\((0:Int)<=(wo.length:Int)/\(wo.length:Int) < ((wo++([(OpOf.mk 0 0 [] y_1:Op)])).length:Int))/\((0:Nat)<=(Int.toNat (wo.length:Int)))/\((zz0=true->((y_2.length+([(OpOf.mk 0 0 [] y_1:Op)]).length)*240<=140737488355328)/\((0:Int)<=(y_2.length:Int)/\(y_2.length:Int) < ((y_2++([(OpOf.mk 0 0 [] y_1:Op)])).length:Int))/\((0:Nat)<=(Int.toNat (y_2.length:Int)))/\(Q .normal (⟨[],[(.x 0,[.mref (.x 0 0),.nils,.nils])],[(.x 0 0,LC.mk (U:=U) .op (List.set (y_2++([(OpOf.mk 0 0 [] y_1:Op)])) (Int.toNat (y_2.length:Int)) (OpOf.mk 2 0 wb y_1:Op)) 0)]⟩:LSt U)))/\(zz0=false->(Q .normal (⟨[],[(.x 0,[.mref (.x 0 0),.nils,.nils])],[(.x 0 0,LC.mk (U:=U) .op y_2 0)]⟩:LSt U)))))/\((decide ((0:Int) < (wg.length:Int)))=false->((zz0=true->((wo.length+([(OpOf.mk 0 0 [] y_1:Op)]).length)*240<=140737488355328)/\((0:Int)<=(wo.length:Int)/\(wo.length:Int) < ((wo++([(OpOf.mk 0 0 [] y_1:Op)])).length:Int))/\((0:Nat)<=(Int.toNat (wo.length:Int)))/\(Q .normal (⟨[],[(.x 0,[.mref (.x 0 0),.nils,.nils])],[(.x 0 0,LC.mk (U:=U) .op (List.set (wo++([(OpOf.mk 0 0 [] y_1:Op)])) (Int.toNat (wo.length:Int)) (OpOf.mk 2 0 wb y_1:Op)) 0)]⟩:LSt U)))/\(zz0=false->(Q .normal (⟨[],[(.x 0,[.mref (.x 0 0),.nils,.nils])],[(.x 0 0,LC.mk (U:=U) .op wo 0)]⟩:LSt U))))))):=by kernel_rfl
 exact e_.mpr (by intro y_1 y_2;have hh:=h y_1 rfl y_2 rfl;exact ⟨fun c_1=> ⟨(hh.1 c_1).1,(hh.1 c_1).2.1,(hh.1 c_1).2.2.1,⟨fun c_2=> ⟨((hh.1 c_1).2.2.2.1 c_2).1,((hh.1 c_1).2.2.2.1 c_2).2.1,((hh.1 c_1).2.2.2.1 c_2).2.2.1,((hh.1 c_1).2.2.2.1 c_2).2.2.2⟩,fun c_2=> ((hh.1 c_1).2.2.2.2 c_2)⟩⟩,fun c_1=> ⟨fun c_3=> ⟨((hh.2 c_1).1 c_3).1,((hh.2 c_1).1 c_3).2.1,((hh.2 c_1).1 c_3).2.2.1,((hh.2 c_1).1 c_3).2.2.2⟩,fun c_3=> ((hh.2 c_1).2 c_3)⟩⟩)
def Zt8(wo:List Op)(wg wb:List Tree):Prop:=AW (Z6 Ziq) Try.f129 Zp1 [] (JQ (Zav.can ((wo,wg,wb,()),())) (Zav.canX ((wo,wg,wb,()),())) (Zav.canL ((wo,wg,wb,()),()))) (Z05 cfg Try.f129.ntmps Try.f129.results.toList (Z8a ((wo,wg,wb,()),())) (Z4R ((wo,wg,wb,()),())) (Z4S ((wo,wg,wb,()),())))
theorem ZrS(hb:∀ (wo:List Op) (wg:List Tree) (wb:List Tree) (_:Unit),Z16 ((wo,wg,wb,()),())->Zt8 wo wg wb):CT 129 Z1j:=
 Yn (l:=[]) Zn rfl trivial Zp1 Try.func129 rfl rfl 1 (fun _=> rfl) (by decide) (fun ⟨⟨wo,wg,wb,_⟩,_⟩=> hb wo wg wb ())
def Zkz:List (FuncId × Fs U):=[(129,Z1j)]
def Zp2:Zf U:=fun i=> match i with
 | 0=> ([(0,[]),(1,[])],[(.x 0,[.wr .op])])
 | 1=> ([(0,[]),(1,[]),(4,[])],[(.x 0,[.wr .op])])
 | 2=> ([(0,[]),(1,[]),(4,[]),(25,[])],[(.x 0,[.wr .op])])
 | 3=> ([],[(.x 0,[.wr .op])])
 | 4=> ([],[(.x 0,[.wr .op])])
 | _=> ([],[])
abbrev Zya(wo:List Op)(wg wb:List Tree)(n:Int)(Q:QT):=AW (Z6 Zkz) Try.f126 Zp2 [] (⟨[(0,.ptr (.x 0) 0),pI 1 n],[(.x 0,[.mref (.x 0 0),sU .tree wg (.own (.x 0 1)),sU .tree wb (.own (.x 0 2))])],[(.x 0 0,LC.mk (U:=U) .op wo 0)]⟩:LSt U) Q
theorem Zxn(wo:List Op)(wg wb:List Tree)(n:Int)(Q:QT)(h:∀ y_1,y_1=(Edit.mk 0 (Tree.mk 0 [] []) (Tree.mk 0 [] []) [] [] 0 [])->∀ y_2,y_2=(Int.toNat (((((Z0 (Wst.mk wo wg wb)).out).length:Int):Int) - 1))->∀ y_3,y_3=(List.getD ((Z0 (Wst.mk wo wg wb)).out) y_2 Op.nil)->∀ y_4,y_4=(y_3.e)->(Z16 ((wo,wg,wb,()),()))/\((InR (((((Z0 (Wst.mk wo wg wb)).out).length:Int):Int) - 1))/\(((decide ((0:Int)<=(((((Z0 (Wst.mk wo wg wb)).out).length:Int):Int) - 1)))=true->(0:Int)<=(((((Z0 (Wst.mk wo wg wb)).out).length:Int):Int) - 1)/\(((((Z0 (Wst.mk wo wg wb)).out).length:Int):Int) - 1) < (((Z0 (Wst.mk wo wg wb)).out).length:Int))/\(((bif (decide ((0:Int)<=(((((Z0 (Wst.mk wo wg wb)).out).length:Int):Int) - 1))) then (y_3.kind==0) else false)=true->((0:Int)<=(((((Z0 (Wst.mk wo wg wb)).out).length:Int):Int) - 1)/\(((((Z0 (Wst.mk wo wg wb)).out).length:Int):Int) - 1) < (((Z0 (Wst.mk wo wg wb)).out).length:Int))/\(InR (y_3.n+n))/\((0:Int)<=(((((Z0 (Wst.mk wo wg wb)).out).length:Int):Int) - 1)/\(((((Z0 (Wst.mk wo wg wb)).out).length:Int):Int) - 1) < (((Z0 (Wst.mk wo wg wb)).out).length:Int))/\((0:Nat)<=y_2)/\(Q .ret (⟨[],[(.x 0,[.mref (.x 0 0),sU .tree ((Z0 (Wst.mk wo wg wb)).gone) (.own (.x 0 1)),sU .tree ((Z0 (Wst.mk wo wg wb)).brought) (.own (.x 0 2))])],[(.x 0 0,LC.mk (U:=U) .op (List.set ((Z0 (Wst.mk wo wg wb)).out) y_2 (OpOf.mk y_3.kind (y_3.n+n) y_3.l y_4:Op)) 0)]⟩:LSt U)))/\((bif (decide ((0:Int)<=(((((Z0 (Wst.mk wo wg wb)).out).length:Int):Int) - 1))) then (y_3.kind==0) else false)=false->((((Z0 (Wst.mk wo wg wb)).out).length+([(OpOf.mk 0 0 [] y_1:Op)]).length)*240<=140737488355328)/\((0:Int)<=(((Z0 (Wst.mk wo wg wb)).out).length:Int)/\(((Z0 (Wst.mk wo wg wb)).out).length:Int) < ((((Z0 (Wst.mk wo wg wb)).out)++([(OpOf.mk 0 0 [] y_1:Op)])).length:Int))/\((0:Nat)<=(Int.toNat (((Z0 (Wst.mk wo wg wb)).out).length:Int)))/\(Q .normal (⟨[],[(.x 0,[.mref (.x 0 0),sU .tree ((Z0 (Wst.mk wo wg wb)).gone) (.own (.x 0 1)),sU .tree ((Z0 (Wst.mk wo wg wb)).brought) (.own (.x 0 2))])],[(.x 0 0,LC.mk (U:=U) .op (List.set (((Z0 (Wst.mk wo wg wb)).out)++([(OpOf.mk 0 0 [] y_1:Op)])) (Int.toNat (((Z0 (Wst.mk wo wg wb)).out).length:Int)) (OpOf.mk 0 n [] y_1:Op)) 0)]⟩:LSt U))))))):
  Zya wo wg wb n Q:=by
 have e_:(Zya wo wg wb n Q)=(let y_1:=(Edit.mk 0 (Tree.mk 0 [] []) (Tree.mk 0 [] []) [] [] 0 []);let y_2:=(Int.toNat (((((Z0 (Wst.mk wo wg wb)).out).length:Int):Int) - 1));let y_3:=(List.getD ((Z0 (Wst.mk wo wg wb)).out) y_2 Op.nil);let y_4:=(Z1U y_3.e);let zz0:=(decide ((0:Int)<=(((((Z0 (Wst.mk wo wg wb)).out).length:Int):Int) - 1)));(Z16 ((wo,wg,wb,()),()))/\((InR (((((Z0 (Wst.mk wo wg wb)).out).length:Int):Int) - 1))/\((Tr (zz0=true))/\(Tr (zz0=true))/\(Tr (zz0=true))/\(Tr (zz0=true))/\(Tr (zz0=true))/\(zz0=true->(0:Int)<=(((((Z0 (Wst.mk wo wg wb)).out).length:Int):Int) - 1)/\(((((Z0 (Wst.mk wo wg wb)).out).length:Int):Int) - 1) < (((Z0 (Wst.mk wo wg wb)).out).length:Int))/\(Tr (zz0=true))/\(Tr (zz0=true))/\(Tr (zz0=true))/\(Tr (zz0=true))/\(((bif zz0 then (y_3.kind==0) else false)=true->((0:Int)<=(((((Z0 (Wst.mk wo wg wb)).out).length:Int):Int) - 1)/\(((((Z0 (Wst.mk wo wg wb)).out).length:Int):Int) - 1) < (((Z0 (Wst.mk wo wg wb)).out).length:Int))/\(InR (y_3.n+n))/\((0:Int)<=(((((Z0 (Wst.mk wo wg wb)).out).length:Int):Int) - 1)/\(((((Z0 (Wst.mk wo wg wb)).out).length:Int):Int) - 1) < (((Z0 (Wst.mk wo wg wb)).out).length:Int))/\((0:Nat)<=y_2)/\(Q .ret (⟨[],[(.x 0,[.mref (.x 0 0),sU .tree ((Z0 (Wst.mk wo wg wb)).gone) (.own (.x 0 1)),sU .tree ((Z0 (Wst.mk wo wg wb)).brought) (.own (.x 0 2))])],[(.x 0 0,LC.mk (U:=U) .op (List.set ((Z0 (Wst.mk wo wg wb)).out) y_2 (OpOf.mk y_3.kind (y_3.n+n) y_3.l y_4:Op)) 0)]⟩:LSt U)))/\((bif zz0 then (y_3.kind==0) else false)=false->((((Z0 (Wst.mk wo wg wb)).out).length+([(OpOf.mk 0 0 [] y_1:Op)]).length)*240<=140737488355328)/\((0:Int)<=(((Z0 (Wst.mk wo wg wb)).out).length:Int)/\(((Z0 (Wst.mk wo wg wb)).out).length:Int) < ((((Z0 (Wst.mk wo wg wb)).out)++([(OpOf.mk 0 0 [] y_1:Op)])).length:Int))/\((0:Nat)<=(Int.toNat (((Z0 (Wst.mk wo wg wb)).out).length:Int)))/\(Q .normal (⟨[],[(.x 0,[.mref (.x 0 0),sU .tree ((Z0 (Wst.mk wo wg wb)).gone) (.own (.x 0 1)),sU .tree ((Z0 (Wst.mk wo wg wb)).brought) (.own (.x 0 2))])],[(.x 0 0,LC.mk (U:=U) .op (List.set (((Z0 (Wst.mk wo wg wb)).out)++([(OpOf.mk 0 0 [] y_1:Op)])) (Int.toNat (((Z0 (Wst.mk wo wg wb)).out).length:Int)) (OpOf.mk 0 n [] y_1:Op)) 0)]⟩:LSt U))))))):=by kernel_rfl
 exact e_.mpr (by intro y_1 y_2 y_3 y_4;have hh:=h y_1 rfl y_2 rfl y_3 rfl y_4 (Zd _);exact ⟨hh.1,⟨hh.2.1,⟨id,id,id,id,id,hh.2.2.1,id,id,id,(by generalize (decide ((0:Int)<=(((((Z0 (Wst.mk wo wg wb)).out).length:Int):Int) - 1)))=b0;revert b0;decide),⟨fun c_4=> ⟨(hh.2.2.2.1 c_4).1,(hh.2.2.2.1 c_4).2.1,(hh.2.2.2.1 c_4).2.2.1,(hh.2.2.2.1 c_4).2.2.2.1,(hh.2.2.2.1 c_4).2.2.2.2⟩,fun c_4=> ⟨(hh.2.2.2.2 c_4).1,(hh.2.2.2.2 c_4).2.1,(hh.2.2.2.2 c_4).2.2.1,(hh.2.2.2.2 c_4).2.2.2⟩⟩⟩⟩⟩)
def Zta(wo:List Op)(wg wb:List Tree)(n:Int):Prop:=AW (Z6 Zkz) Try.f126 Zp2 [] (JQ (Zax.can ((wo,wg,wb,()),n,())) (Zax.canX ((wo,wg,wb,()),n,())) (Zax.canL ((wo,wg,wb,()),n,()))) (Z05 cfg Try.f126.ntmps Try.f126.results.toList (ZhR ((wo,wg,wb,()),n,())) (Zei ((wo,wg,wb,()),n,())) (Zej ((wo,wg,wb,()),n,())))
theorem ZrU(ZmF:CT 129 Z1j)(hb:∀ (wo:List Op) (wg:List Tree) (wb:List Tree) (n:Int) (_:Unit),Z3q ((wo,wg,wb,()),n,())->Zta wo wg wb n):CT 126 Z4J:=
 Yn (l:=[(129,Z1j)]) Zn rfl (⟨ZmF,trivial⟩) Zp2 Try.func126 rfl rfl 2 (fun _=> rfl) (by decide) (fun ⟨⟨wo,wg,wb,_⟩,n,_⟩=> hb wo wg wb n ())
def Zao:List (FuncId × Fs U):=[(71,JY)]
def ZgP:Zf U:=fun i=> match i with
 | 0=> ([(0,[]),(6,[]),(7,[]),(8,[])],[(.x 0,[.wr .op])])
 | 1=> ([(0,[]),(6,[]),(7,[]),(8,[]),(9,[])],[(.x 0,[.wr .op])])
 | 2=> ([(0,[]),(5,[]),(6,[]),(7,[]),(8,[])],[(.loc 5,[]),(.x 0,[.wr .op])])
 | 3=> ([(0,[]),(6,[]),(7,[]),(8,[])],[(.x 0,[.wr .op])])
 | 4=> ([(0,[]),(6,[]),(7,[]),(8,[])],[(.x 0,[.wr .op])])
 | _=> ([],[])
def Z59(wo:List Op)(wg wb l:List Tree)(x8:Int)(mx0_1:List Tree):LSt U:=(⟨[(0,.ptr (.x 0) 1),(6,.c (sU .tree l .unk)),pI 7 (l.length:Int),pI 8 x8],[(.x 0,[.mref (.x 0 0),sU .tree mx0_1 (.own (.x 0 1)),sU .tree wb (.own (.x 0 2))])],[(.x 0 0,LC.mk (U:=U) .op wo 0)]⟩:LSt U)
abbrev Zy9(wo:List Op)(wg wb l:List Tree)(Q:QT):=AW (Z6 Zao) Try.f127 ZgP [] (⟨[(0,.ptr (.x 0) 1),(1,.c (sU .tree l .unk))],[(.x 0,[.mref (.x 0 0),sU .tree wg (.own (.x 0 1)),sU .tree wb (.own (.x 0 2))])],[(.x 0 0,LC.mk (U:=U) .op wo 0)]⟩:LSt U) Q
theorem Zxm(wo:List Op)(wg wb l:List Tree)(Q:QT)(h:Zo (AW (Z6 Zao) Try.f127 ZgP [1,0,0]) (Z59 wo wg wb l 0 wg) (xB 0 Q)):
  Zy9 wo wg wb l Q:=by
 have e_:(Zy9 wo wg wb l Q)=(type_of% h):=by kernel_rfl
 exact e_.mpr h
abbrev Zlm(wo:List Op)(wg wb l:List Tree)(x8:Int)(mx0_1:List Tree)(N0:NT)(Q:QT):=AW (Z6 Zao) Try.f127 ZgP [1,0,0] (Z59 wo wg wb l x8 mx0_1) (xT N0 (xB 0 Q))
theorem Zn7(wo:List Op)(wg wb l:List Tree)(x8:Int)(mx0_1:List Tree)(N0:NT)(Q:QT)(h:((decide (x8 < (l.length:Int)))=true->((0:Int)<=x8/\x8 < (l.length:Int))/\((Z0A ((Tree.mk (Tree.kind (l.getD x8.toNat Tree.nil)) (Tree.words (l.getD x8.toNat Tree.nil)) (Tree.kids (l.getD x8.toNat Tree.nil))),()))/\((mx0_1.length+([(Tree.mk 0 [] [])]).length)*56<=140737488355328)/\((0:Int)<=(mx0_1.length:Int)/\(mx0_1.length:Int) < ((mx0_1++([(Tree.mk 0 [] [])])).length:Int))/\(mx0_1.length<=(Int.toNat (mx0_1.length:Int)))/\((InR (x8+1))/\(N0 (Z59 wo wg wb l (x8+1) (List.set (mx0_1++([(Tree.mk 0 [] [])])) (Int.toNat (mx0_1.length:Int)) (Tree.mk (Tree.kind (Z2 (Tree.mk (Tree.kind (l.getD x8.toNat Tree.nil)) (Tree.words (l.getD x8.toNat Tree.nil)) (Tree.kids (l.getD x8.toNat Tree.nil))))) (Tree.words (Z2 (Tree.mk (Tree.kind (l.getD x8.toNat Tree.nil)) (Tree.words (l.getD x8.toNat Tree.nil)) (Tree.kids (l.getD x8.toNat Tree.nil))))) (Tree.kids (Z2 (Tree.mk (Tree.kind (l.getD x8.toNat Tree.nil)) (Tree.words (l.getD x8.toNat Tree.nil)) (Tree.kids (l.getD x8.toNat Tree.nil))))))))))))/\((decide (x8 < (l.length:Int)))=false->Q .normal (⟨[(0,.ptr (.x 0) 1),(6,.c (sU .tree l .unk)),pI 7 (l.length:Int),pI 8 x8,pB 9 (decide (x8 < (l.length:Int)))],[(.x 0,[.mref (.x 0 0),sU .tree mx0_1 (.own (.x 0 1)),sU .tree wb (.own (.x 0 2))])],[(.x 0 0,LC.mk (U:=U) .op wo 0)]⟩:LSt U))):
  Zlm wo wg wb l x8 mx0_1 N0 Q:=by
 have e_:(Zlm wo wg wb l x8 mx0_1 N0 Q)=(type_of% h):=by kernel_rfl
 exact e_.mpr ⟨fun c_5=> ⟨(h.1 c_5).1,⟨(h.1 c_5).2.1,(h.1 c_5).2.2.1,(h.1 c_5).2.2.2.1,(h.1 c_5).2.2.2.2.1,⟨(h.1 c_5).2.2.2.2.2.1,(h.1 c_5).2.2.2.2.2.2⟩⟩⟩,fun c_5=> (h.2 c_5)⟩
def Zt9(wo:List Op)(wg wb l:List Tree):Prop:=AW (Z6 Zao) Try.f127 ZgP [] (JQ (Zaw.can ((wo,wg,wb,()),l,())) (Zaw.canX ((wo,wg,wb,()),l,())) (Zaw.canL ((wo,wg,wb,()),l,()))) (Z05 cfg Try.f127.ntmps Try.f127.results.toList (ZnP ((wo,wg,wb,()),l,())) (Zjo ((wo,wg,wb,()),l,())) (Zjp ((wo,wg,wb,()),l,())))
theorem ZrT(c71:CT 71 JY)(hb:∀ (wo:List Op) (wg:List Tree) (wb:List Tree) (l:List Tree) (_:Unit),Z8f ((wo,wg,wb,()),l,())->Zt9 wo wg wb l):CT 127 Ze5:=
 Yn (l:=[(71,JY)]) Zn rfl (⟨c71,trivial⟩) ZgP Try.func127 rfl rfl 2 (fun _=> rfl) (by decide) (fun ⟨⟨wo,wg,wb,_⟩,l,_⟩=> hb wo wg wb l ())
def Zca:Zf U:=fun i=> match i with
 | 0=> ([(0,[]),(6,[]),(7,[]),(8,[])],[(.x 0,[.wr .op])])
 | 1=> ([(0,[]),(6,[]),(7,[]),(8,[]),(9,[])],[(.x 0,[.wr .op])])
 | 2=> ([(0,[]),(5,[]),(6,[]),(7,[]),(8,[])],[(.loc 5,[]),(.x 0,[.wr .op])])
 | 3=> ([(0,[]),(6,[]),(7,[]),(8,[])],[(.x 0,[.wr .op])])
 | 4=> ([(0,[]),(6,[]),(7,[]),(8,[])],[(.x 0,[.wr .op])])
 | _=> ([],[])
def Z3z(wo:List Op)(wg wb l:List Tree)(x8:Int)(mx0_2:List Tree):LSt U:=(⟨[(0,.ptr (.x 0) 2),(6,.c (sU .tree l .unk)),pI 7 (l.length:Int),pI 8 x8],[(.x 0,[.mref (.x 0 0),sU .tree wg (.own (.x 0 1)),sU .tree mx0_2 (.own (.x 0 2))])],[(.x 0 0,LC.mk (U:=U) .op wo 0)]⟩:LSt U)
abbrev Zu1(wo:List Op)(wg wb l:List Tree)(Q:QT):=AW (Z6 Zao) Try.f127 Zca [] (⟨[(0,.ptr (.x 0) 2),(1,.c (sU .tree l .unk))],[(.x 0,[.mref (.x 0 0),sU .tree wg (.own (.x 0 1)),sU .tree wb (.own (.x 0 2))])],[(.x 0 0,LC.mk (U:=U) .op wo 0)]⟩:LSt U) Q
theorem Zuc(wo:List Op)(wg wb l:List Tree)(Q:QT)(h:Zo (AW (Z6 Zao) Try.f127 Zca [1,0,0]) (Z3z wo wg wb l 0 wb) (xB 0 Q)):
  Zu1 wo wg wb l Q:=by
 have e_:(Zu1 wo wg wb l Q)=(type_of% h):=by kernel_rfl
 exact e_.mpr h
abbrev Zhu(wo:List Op)(wg wb l:List Tree)(x8:Int)(mx0_2:List Tree)(N0:NT)(Q:QT):=AW (Z6 Zao) Try.f127 Zca [1,0,0] (Z3z wo wg wb l x8 mx0_2) (xT N0 (xB 0 Q))
theorem Zlr(wo:List Op)(wg wb l:List Tree)(x8:Int)(mx0_2:List Tree)(N0:NT)(Q:QT)(h:((decide (x8 < (l.length:Int)))=true->((0:Int)<=x8/\x8 < (l.length:Int))/\((Z0A ((Tree.mk (Tree.kind (l.getD x8.toNat Tree.nil)) (Tree.words (l.getD x8.toNat Tree.nil)) (Tree.kids (l.getD x8.toNat Tree.nil))),()))/\((mx0_2.length+([(Tree.mk 0 [] [])]).length)*56<=140737488355328)/\((0:Int)<=(mx0_2.length:Int)/\(mx0_2.length:Int) < ((mx0_2++([(Tree.mk 0 [] [])])).length:Int))/\(mx0_2.length<=(Int.toNat (mx0_2.length:Int)))/\((InR (x8+1))/\(N0 (Z3z wo wg wb l (x8+1) (List.set (mx0_2++([(Tree.mk 0 [] [])])) (Int.toNat (mx0_2.length:Int)) (Tree.mk (Tree.kind (Z2 (Tree.mk (Tree.kind (l.getD x8.toNat Tree.nil)) (Tree.words (l.getD x8.toNat Tree.nil)) (Tree.kids (l.getD x8.toNat Tree.nil))))) (Tree.words (Z2 (Tree.mk (Tree.kind (l.getD x8.toNat Tree.nil)) (Tree.words (l.getD x8.toNat Tree.nil)) (Tree.kids (l.getD x8.toNat Tree.nil))))) (Tree.kids (Z2 (Tree.mk (Tree.kind (l.getD x8.toNat Tree.nil)) (Tree.words (l.getD x8.toNat Tree.nil)) (Tree.kids (l.getD x8.toNat Tree.nil))))))))))))/\((decide (x8 < (l.length:Int)))=false->Q .normal (⟨[(0,.ptr (.x 0) 2),(6,.c (sU .tree l .unk)),pI 7 (l.length:Int),pI 8 x8,pB 9 (decide (x8 < (l.length:Int)))],[(.x 0,[.mref (.x 0 0),sU .tree wg (.own (.x 0 1)),sU .tree mx0_2 (.own (.x 0 2))])],[(.x 0 0,LC.mk (U:=U) .op wo 0)]⟩:LSt U))):
  Zhu wo wg wb l x8 mx0_2 N0 Q:=by
 have e_:(Zhu wo wg wb l x8 mx0_2 N0 Q)=(type_of% h):=by kernel_rfl
 exact e_.mpr ⟨fun c_6=> ⟨(h.1 c_6).1,⟨(h.1 c_6).2.1,(h.1 c_6).2.2.1,(h.1 c_6).2.2.2.1,(h.1 c_6).2.2.2.2.1,⟨(h.1 c_6).2.2.2.2.2.1,(h.1 c_6).2.2.2.2.2.2⟩⟩⟩,fun c_6=> (h.2 c_6)⟩
def Zqn(wo:List Op)(wg wb l:List Tree):Prop:=AW (Z6 Zao) Try.f127 Zca [] (JQ (Z7X.can ((wo,wg,wb,()),l,())) (Z7X.canX ((wo,wg,wb,()),l,())) (Z7X.canL ((wo,wg,wb,()),l,()))) (Z05 cfg Try.f127.ntmps Try.f127.results.toList (ZnP ((wo,wg,wb,()),l,())) (Zg9 ((wo,wg,wb,()),l,())) (Zga ((wo,wg,wb,()),l,())))
theorem ZoA(c71:CT 71 JY)(hb:∀ (wo:List Op) (wg:List Tree) (wb:List Tree) (l:List Tree) (_:Unit),Z8f ((wo,wg,wb,()),l,())->Zqn wo wg wb l):CT 127 Zb9:=
 Yn (l:=[(71,JY)]) Zn rfl (⟨c71,trivial⟩) Zca Try.func127 rfl rfl 2 (fun _=> rfl) (by decide) (fun ⟨⟨wo,wg,wb,_⟩,l,_⟩=> hb wo wg wb l ())
def Zif:Zf U:=lvl [([0,3],[3]),([4],[])]
abbrev Zu0(list:Int)(e:Edit)(Q:QT):=AW (Z6 Ziq) Try.f128 Zif [] (L2 [pI 0 list,(1,.agg (enc .edit e))] []) Q
theorem Zub(list:Int)(e:Edit)(Q:QT)(h:(((!(e.kind==0)) && (bif (list==9) then (e.kind==2) else false))=true->InR (((e.words.length:Int):Int)+(e.kids.length:Int)))/\(Q .ret (L2 [(4,.c (.bool (bif (e.kind==0) then true else (bif (bif (list==9) then (e.kind==2) else false) then (((((e.words.length:Int):Int)+(e.kids.length:Int)):Int)==0) else false))))] []))):
  Zu0 list e Q:=by
 have e_:(Zu0 list e Q)=(let zz1:=(!(e.kind==0));let zz0:=(bif ((list:Int)==9) then (e.kind==2) else false);((Tr (zz1=true))/\(Tr (zz1=true))/\(Tr ((zz1 && ((list:Int)==9))=true))/\(Tr ((zz1 && ((list:Int)==9))=true))/\(zz1=true->(True->zz1=true))/\(zz1=true->(((list:Int)==9)=true->(zz1 && ((list:Int)==9))=true))/\(Tr (zz1=true))/\(Tr ((zz1 && zz0)=true))/\(Tr ((zz1 && zz0)=true))/\(Tr ((zz1 && zz0)=true))/\(Tr ((zz1 && zz0)=true))/\(Tr ((zz1 && zz0)=true))/\(Tr ((zz1 && zz0)=true))/\((zz1 && zz0)=true->InR ((e.words.length:Int)+(e.kids.length:Int)))/\(Tr ((zz1 && zz0)=true))/\(zz1=true->(True->zz1=true))/\(zz1=true->(zz0=true->(zz1 && zz0)=true))/\((e.kind==0)=false->zz1=true)/\(Q .ret (L2 [(4,.c (.bool (bif (e.kind==0) then true else (bif zz0 then ((((e.words.length:Int)+(e.kids.length:Int)):Int)==0) else false))))] [])))):=by kernel_rfl
 exact e_.mpr ⟨id,id,id,id,(by generalize ((e.kind:Int)==0)=b0;revert b0;decide),(by generalize ((e.kind:Int)==0)=b0;generalize ((list:Int)==9)=b1;revert b0 b1;decide),id,id,id,id,id,id,id,h.1,id,(by generalize ((e.kind:Int)==0)=b0;revert b0;decide),(by generalize ((e.kind:Int)==2)=b0;generalize ((e.kind:Int)==0)=b1;generalize ((list:Int)==9)=b2;revert b0 b1 b2;decide),(by generalize ((e.kind:Int)==0)=b0;revert b0;decide),h.2⟩
def Zqm(list:Int)(e:Edit):Prop:=AW (Z6 Ziq) Try.f128 Zif [] (Zm (Zhp.can (list,e,())) []) (EQ Try.f128 (Zjw (list,e,())) [])
theorem Zoz(hb:∀ (list:Int) (e:Edit) (_:Unit),Z4T (list,e,())->Zqm list e):CT 128 Z2G:=
 Z4 (l:=[]) Zn rfl trivial Zif Try.func128 rfl rfl 2 (fun _=> rfl) (by decide) (fun ⟨list,e,_⟩=> hb list e ())
end
theorem Z0W{α:Type}(l:List α)(z x:α):(l++[z]).set (Int.toNat (l.length:Int)) x=l++[x]:=by
 rw [X8,List.set_append_right _ _ (Qh _)]
 simp
theorem Z7j:∀ (F:List Op) (n:Int),Z0C F n=if F.length≠0/\(F.getD (F.length - 1) Op.nil).kind=0 then F.set (F.length - 1) ⟨(F.getD (F.length - 1) Op.nil).kind,(F.getD (F.length - 1) Op.nil).n+n,(F.getD (F.length - 1) Op.nil).l,(F.getD (F.length - 1) Op.nil).e⟩ else F++[⟨0,n,[],Edit.nil⟩]
 | [],n=> by simp [Z0C]
 | [o],n=> by simp [Z0C]
 | o ::p ::r,n=> by
  have ih:=Z7j (p ::r) n
  have e:(o ::p ::r).length - 1=((p ::r).length - 1)+1:=by simp
  rw [Z0C,ih,e]
  simp only [Kf,List.set_cons_succ]
  by_cases h:(p ::r).length≠0/\((p ::r).getD ((p ::r).length - 1) Op.nil).kind=0
  ·rw [if_pos h,if_pos ⟨by simp,h.2⟩]
  ·have h':¬((p ::r).getD ((p ::r).length - 1) Op.nil).kind=0:=fun e=> h ⟨by simp,e⟩
   rw [if_neg h,if_neg (fun e=> h' e.2)]
   try rfl
theorem Z8I(s:Wst):(Z0 s).out.length<=s.out.length+2:=by
 simp only [Z0,JB]
 split <;> split <;> simp
theorem Z8H(s:Wst):∀ o∈(Z0 s).out,o∈s.out\/o.n=0:=by
 intro o ho
 simp only [Z0,JB,Qi] at ho
 rcases ho with h | h | h
 ·exact .inl h
 ·split at h
  ·cases h
  ·simp only [Qj] at h;subst h;exact .inr rfl
 ·split at h
  ·cases h
  ·simp only [Qj] at h;subst h;exact .inr rfl
theorem ZmF:Contract Try.prog cfg 129 Z1j:=by
 refine ZrS ?_
 intro wo wg wb _ hp
 simp only [Z16] at hp
 refine Zxl wo wg wb _ ?_
 rintro y1 hy1 y2 hy2
 have hy:y1=Edit.nil:=hy1
 subst hy
 rw [Z0W] at hy2
 subst hy2
 (simp only [vcS])
 refine ⟨fun h1=> ⟨by simp;omega,by simp;omega,by omega,fun h2=> ⟨by simp;omega,by simp;omega,by omega,?_⟩,fun h2=> ?_⟩,fun h1=> ⟨fun h2=> ⟨by simp;omega,by simp;omega,by omega,?_⟩,fun h2=> ?_⟩⟩
 ·rw [Z0W]
  have e:Z0 ⟨wo,wg,wb⟩=⟨wo++[⟨1,0,wg,Edit.nil⟩]++[⟨2,0,wb,Edit.nil⟩],[],[]⟩:=by
   simp only [Z0,JB];rw [if_neg (by omega),if_neg (by omega)];simp
  simp only [Z8a,Z4R,Z4S,e]
  (repeat' (first | exact trivial | exact rfl | apply And.intro))
 ·have e:Z0 ⟨wo,wg,wb⟩=⟨wo++[⟨1,0,wg,Edit.nil⟩],[],[]⟩:=by
   simp only [Z0,JB];rw [if_neg (by omega),if_pos (by omega)];simp
  simp only [Z8a,Z4R,Z4S,e]
  (repeat' (first | exact trivial | exact rfl | apply And.intro))
 ·rw [Z0W]
  have e:Z0 ⟨wo,wg,wb⟩=⟨wo++[⟨2,0,wb,Edit.nil⟩],[],[]⟩:=by
   simp only [Z0,JB];rw [if_pos (by omega),if_neg (by omega)];simp
  simp only [Z8a,Z4R,Z4S,e]
  (repeat' (first | exact trivial | exact rfl | apply And.intro))
 ·have e:Z0 ⟨wo,wg,wb⟩=⟨wo,[],[]⟩:=by
   simp only [Z0,JB];rw [if_pos (by omega),if_pos (by omega)];simp
  simp only [Z8a,Z4R,Z4S,e]
  (repeat' (first | exact trivial | exact rfl | apply And.intro))
theorem ZvO:Contract Try.prog cfg 126 Z4J:=by
 refine ZrU ZmF ?_
 intro wo wg wb n _ hp
 simp only [Z3q] at hp
 obtain ⟨p1,p2,p3,p4,p5,p6⟩:=hp
 have hfl:=Z8I ⟨wo,wg,wb⟩
 have hfm:=Z8H ⟨wo,wg,wb⟩
 have hg:(Z0 ⟨wo,wg,wb⟩).gone=[]:=rfl
 have hb:(Z0 ⟨wo,wg,wb⟩).brought=[]:=rfl
 have hk:=Z7j (Z0 ⟨wo,wg,wb⟩).out n
 have hkw:ZH ⟨wo,wg,wb⟩ n=⟨Z0C (Z0 ⟨wo,wg,wb⟩).out n,[],[]⟩:=rfl
 refine Zxn wo wg wb n _ ?_
 simp only [hg,hb,ZhR,Zei,Zej,hkw]
 generalize (Z0 ⟨wo,wg,wb⟩).out=F at*
 simp only at hfl hfm
 rintro y1 hy1 y2 hy2 y3 hy3 y4 hy4
 have hy:y1=Edit.nil:=hy1
 subst hy
 have e2:y2=F.length - 1:=by omega
 subst e2
 rw [<-hy3,<-hy4] at hk
 (simp only [vcS])
 refine ⟨by simp only [Z16];exact ⟨p1,p2,p3⟩,by unfold InR;omega,fun h=> ⟨h,by omega⟩,fun h=> ?_,fun h=> ?_⟩
 ·have hy3n:0<=y3.n/\y3.n<=100000000000000000:=by
   have hm:y3∈F:=by rw [hy3];exact Zk (by omega) _
   rcases hfm y3 hm with h1 | h1
   ·exact p4 y3 h1
   ·omega
  rw [if_pos ⟨by omega,h.2⟩] at hk
  rw [hk]
  refine ⟨by omega,by unfold InR;omega,by omega,by omega,?_⟩
  (repeat' (first | exact trivial | exact rfl | apply And.intro))
 ·rw [if_neg (by omega)] at hk
  rw [hk,Z0W]
  refine ⟨by simp;omega,by simp;omega,by omega,?_⟩
  (repeat' (first | exact trivial | exact rfl | apply And.intro))
theorem ZyY:Contract Try.prog cfg 127 Ze5:=by
 refine ZrT c71 ?_
 intro wo wg wb l _ hp
 simp only [Z8f] at hp
 obtain ⟨p1,p2,p3,p4⟩:=hp
 have hl:=Zv l
 refine Zxm _ _ _ _ _ ?_
 refine Zb (ι:=Int × List Tree) (fun s=> Z59 wo wg wb l s.1 s.2) (fun s=> 0<=s.1/\s.1<=l.length/\s.2.length=wg.length+s.1/\s.2++Z3 (l.drop s.1.toNat)=wg++Z3 l) (fun s=> ((l.length:Int) - s.1).toNat) (0,wg) rfl ⟨by simp,by simp,by simp,by simp⟩ ?_
 rintro ⟨i,out⟩ ⟨h1,h2,h3,h4⟩
 dsimp only at h1 h2 h3 h4
 refine Zn7 _ _ _ _ _ _ _ _ ?_
 (simp only [vcS])
 (simp only [Tree.eta,Edit.eta,Tree.kind_mk,Tree.words_mk,Tree.kids_mk])
 refine ⟨fun hi=> ?_,fun hi=> ?_⟩
 ·have hm:=JH (Zk (l:=l) (i:=i.toNat) (by omega) Tree.nil)
  rw [J1 h1 hi Tree.nil] at h4
  simp only [Z3,X9] at h4
  rw [Z0W]
  refine ⟨⟨h1,hi⟩,by simp only [Z0A];omega,by simp;omega,by simp;omega,by omega,by unfold InR;omega,(i+1,out++[Z2 (l.getD i.toNat Tree.nil)]),rfl,⟨by dsimp only;omega,by dsimp only;omega,by simp;omega,?_⟩,by dsimp only;omega⟩
  simp only [Qa,QA,QN]
  exact h4
 ·rw [Ql (by omega)] at h4
  simp only [Z3,Kq,Qr] at h4
  rw [h4]
  (repeat' (first | exact trivial | exact rfl | apply And.intro))
theorem Zy4:Contract Try.prog cfg 127 Zb9:=by
 refine ZoA c71 ?_
 intro wo wg wb l _ hp
 simp only [Z8f] at hp
 obtain ⟨p1,p2,p3,p4⟩:=hp
 have hl:=Zv l
 refine Zuc _ _ _ _ _ ?_
 refine Zb (ι:=Int × List Tree) (fun s=> Z3z wo wg wb l s.1 s.2) (fun s=> 0<=s.1/\s.1<=l.length/\s.2.length=wb.length+s.1/\s.2++Z3 (l.drop s.1.toNat)=wb++Z3 l) (fun s=> ((l.length:Int) - s.1).toNat) (0,wb) rfl ⟨by simp,by simp,by simp,by simp⟩ ?_
 rintro ⟨i,out⟩ ⟨h1,h2,h3,h4⟩
 dsimp only at h1 h2 h3 h4
 refine Zlr _ _ _ _ _ _ _ _ ?_
 (simp only [vcS])
 (simp only [Tree.eta,Edit.eta,Tree.kind_mk,Tree.words_mk,Tree.kids_mk])
 refine ⟨fun hi=> ?_,fun hi=> ?_⟩
 ·have hm:=JH (Zk (l:=l) (i:=i.toNat) (by omega) Tree.nil)
  rw [J1 h1 hi Tree.nil] at h4
  simp only [Z3,X9] at h4
  rw [Z0W]
  refine ⟨⟨h1,hi⟩,by simp only [Z0A];omega,by simp;omega,by simp;omega,by omega,by unfold InR;omega,(i+1,out++[Z2 (l.getD i.toNat Tree.nil)]),rfl,⟨by dsimp only;omega,by dsimp only;omega,by simp;omega,?_⟩,by dsimp only;omega⟩
  simp only [Qa,QA,QN]
  exact h4
 ·rw [Ql (by omega)] at h4
  simp only [Z3,Kq,Qr] at h4
  rw [h4]
  (repeat' (first | exact trivial | exact rfl | apply And.intro))
theorem ZpR:Contract Try.prog cfg 128 Z2G:=by
 refine Zoz ?_
 intro list e _ hp
 simp only [Z4T] at hp
 refine Zub _ _ _ ?_
 refine ⟨fun _=> by unfold InR;dsimp only;omega,Ze rfl ?_⟩
 rw [QC]
 simp only [Z5J]
 (simp only [vcS])
 omega
noncomputable def Z3T:Fs U:=Zvk Ze5 Zb9
theorem ZpP:Contract Try.prog cfg 127 Z3T:=Zhm ZyY Zy4
end Go.AM.Ytpjenobkibfpcaa
