import Derived.Test.YtpjenobkibfpcaaKL23r
import Derived.Test.YtpjenobkibfpcaaCD25s
import Derived.Test.YtpjenobkibfpcaaKRB07
set_option linter.unusedSimpArgs false
set_option linter.unusedVariables false
namespace Go.AM.Ytpjenobkibfpcaa
open Go.AM Go.Proofs
noncomputable section
noncomputable section
def Zll:ArgL (Int × Unit):=(.cons (JR .u8) .nil)
def ZbT(a:Int × Unit):Prop:=0<=a.1/\a.1 < 256
def Zo3(a:Int × Unit):V U:= .c (.int .u64 ((Z0z (a.1).toNat 8:Nat):Int))
def Z6L:Fs U:=fs Zll (fun a=> [ZbT a]) Zo3
def Z7h:Zf U:=lvl [([0],[]),([0,3],[]),([0,3,5],[]),([0,3,5,6],[]),([0,3,4,5],[]),([0,3,4,5,12],[]),([0,3,5],[]),([0,3,5],[]),([2],[])]
def Z0b(m x3 x5:Int):LSt U:=(L2 [(0,.c (.int .u8 m)),(3,.c (.int .u64 x3)),pI 5 x5] [])
abbrev Zys(m:Int)(Q:QT):=AW (Z6 Ziz) Try.f105 Z7h [] (L2 [(0,.c (.int .u8 m))] []) Q
abbrev Zj3:=awp cfg (Z6 Ziz) (YD cfg (Z6 Ziz)) Try.f105.ntmps Z7h
abbrev ZhQ:=ZnJ cfg (Z6 Ziz) (YD cfg (Z6 Ziz)) Try.f105.ntmps Z7h
theorem ZxL(m:Int)(Q:QT)(h:Zo (AW (Z6 Ziz) Try.f105 Z7h [1,1,0,1,0,0]) (Z0b m 0 0) (xB 0 (SW (Z6 Ziz) Try.f105 Z7h [1,1,1] Q))):
  Zys m Q:=by
 have e_:(Zys m Q)=(Zo (Zj3 (cd Try.f105 [1,1,0,1,0,0])) (Z0b m 0 0) (xB 0 (ZhQ (cd Try.f105 [1,1,1]) Q))):=by kernel_rfl
 exact e_.mpr h
abbrev Zlw(m x3 x5:Int)(N0:NT)(Q:QT):=AW (Z6 Ziz) Try.f105 Z7h [1,1,0,1,0,0] (Z0b m x3 x5) (xT N0 (xB 0 (SW (Z6 Ziz) Try.f105 Z7h [1,1,1] Q)))
theorem Znw(m x3 x5:Int)(N0:NT)(Q:QT)(h:((decide (x5 < 8))=true->((0:Int)<=x5)/\(((((IntKind.wrap .u8 (BitVec.ofInt (IntKind.bits .u8) (Int.fdiv m (2 ^ (min x5.toNat (IntKind.bits .u8)))) &&& BitVec.ofInt (IntKind.bits .u8) 1).toNat):Int)==1)=true->(InR ((8:Int)*x5))/\((0:Int)<=((8:Int)*x5))/\((InR (x5+1))/\(N0 (Z0b m (IntKind.wrap .u64 (BitVec.ofInt (IntKind.bits .u64) x3 ||| BitVec.ofInt (IntKind.bits .u64) (IntKind.wrap .u64 ((255:Int)*2 ^ (min (Int.toNat ((8:Int)*x5)) (IntKind.bits .u64))))).toNat) (x5+1)))))/\((((IntKind.wrap .u8 (BitVec.ofInt (IntKind.bits .u8) (Int.fdiv m (2 ^ (min x5.toNat (IntKind.bits .u8)))) &&& BitVec.ofInt (IntKind.bits .u8) 1).toNat):Int)==1)=false->(InR (x5+1))/\(N0 (Z0b m x3 (x5+1))))))/\((decide (x5 < 8))=false->Q .ret (L2 [(2,.c (.int .u64 x3))] []))):
  Zlw m x3 x5 N0 Q:=by
 have e_:(Zlw m x3 x5 N0 Q)=(let zz0:=(((IntKind.wrap .u8 (BitVec.ofInt (IntKind.bits .u8) (Int.fdiv m (2 ^ (min x5.toNat (IntKind.bits .u8)))) &&& BitVec.ofInt (IntKind.bits .u8) 1).toNat):Int)==1);(((decide ((x5:Int) < 8))=true->(((0:Int)<=x5)/\((zz0=true->(InR ((8:Int)*x5))/\((0:Int)<=((8:Int)*x5))/\((InR ((x5:Int)+1))/\(N0 (Z0b m (IntKind.wrap .u64 (BitVec.ofInt (IntKind.bits .u64) x3 ||| BitVec.ofInt (IntKind.bits .u64) (IntKind.wrap .u64 ((255:Int)*2 ^ (min (Int.toNat ((8:Int)*x5)) (IntKind.bits .u64))))).toNat) ((x5:Int)+1)))))/\(zz0=false->(InR ((x5:Int)+1))/\(N0 (Z0b m x3 ((x5:Int)+1)))))))/\((decide ((x5:Int) < 8))=false->(Q .ret (L2 [(2,.c (.int .u64 x3))] []))))):=by kernel_rfl
 exact e_.mpr ⟨fun c_1=> ⟨(h.1 c_1).1,⟨fun c_2=> ⟨((h.1 c_1).2.1 c_2).1,((h.1 c_1).2.1 c_2).2.1,⟨((h.1 c_1).2.1 c_2).2.2.1,((h.1 c_1).2.1 c_2).2.2.2⟩⟩,fun c_2=> ⟨((h.1 c_1).2.2 c_2).1,((h.1 c_1).2.2 c_2).2⟩⟩⟩,fun c_1=> (h.2 c_1)⟩
def Ztv(m:Int):Prop:=AW (Z6 Ziz) Try.f105 Z7h [] (Zm (Zll.can (m,())) []) (EQ Try.f105 (Zo3 (m,())) [])
theorem Zsb(hb:∀ (m:Int) (_:Unit),ZbT (m,())->Ztv m):CT 105 Z6L:=
 Z4 (l:=[]) Zn rfl trivial Z7h Try.func105 rfl rfl 1 (fun _=> rfl) (by decide) (fun ⟨m,_⟩=> hb m ())
def Zpz:List (FuncId × Fs U):=[(105,Z6L)]
def Zve:Zf U:=lvl [([0,1,2],[]),([6],[])]
abbrev W66(a b m:Int)(Q:QT):=AW (Z6 Zpz) Try.f66 Zve [] (L2 [(0,.c (.int .u64 a)),(1,.c (.int .u64 b)),(2,.c (.int .u8 m))] []) Q
theorem ZyU(a b m:Int)(Q:QT)(h:(ZbT (m,()))/\(ZbT (m,()))/\(Q .ret (L2 [(6,.c (.int .u64 (IntKind.wrap .u64 (BitVec.ofInt (IntKind.bits .u64) (IntKind.wrap .u64 (BitVec.ofInt (IntKind.bits .u64) a &&& ~~~(BitVec.ofInt (IntKind.bits .u64) ((Z0z m.toNat 8:Nat):Int))).toNat) ||| BitVec.ofInt (IntKind.bits .u64) (IntKind.wrap .u64 (BitVec.ofInt (IntKind.bits .u64) b &&& BitVec.ofInt (IntKind.bits .u64) ((Z0z m.toNat 8:Nat):Int)).toNat)).toNat)))] []))):
  W66 a b m Q:=by
 have e_:(W66 a b m Q)=(type_of% h):=by kernel_rfl
 exact e_.mpr ⟨h.1,h.2.1,h.2.2⟩
def ZwC(a b m:Int):Prop:=AW (Z6 Zpz) Try.f66 Zve [] (Zm (Zln.can (a,b,m,())) []) (EQ Try.f66 (Zo5 (a,b,m,())) [])
theorem ZuX(Zw7:CT 105 Z6L)(hb:∀ (a:Int) (b:Int) (m:Int) (_:Unit),ZeV (a,b,m,())->ZwC a b m):CT 66 Z6M:=
 Z4 (l:=[(105,Z6L)]) Zn rfl (⟨Zw7,trivial⟩) Zve Try.func66 rfl rfl 3 (fun _=> rfl) (by decide) (fun ⟨a,b,m,_⟩=> hb a b m ())
end
end
theorem Zq6:∀ n:Fin 256,∀ i:Fin 8,IntKind.wrap .u8 (BitVec.ofInt (IntKind.bits .u8) (Int.fdiv (n.1:Int) (2 ^ (min (Int.toNat (i.1:Int)) (IntKind.bits .u8)))) &&& BitVec.ofInt (IntKind.bits .u8) 1).toNat=((n.1 / 2 ^ i.1 % 2:Nat):Int):=by decide+kernel
theorem Zrt:∀ n:Fin 256,∀ i:Fin 8,IntKind.wrap .u64 (BitVec.ofInt (IntKind.bits .u64) ((Z0z n.1 i.1:Nat):Int) ||| BitVec.ofInt (IntKind.bits .u64) (IntKind.wrap .u64 (255*2 ^ (min (Int.toNat (8*(i.1:Int))) (IntKind.bits .u64))))).toNat=((Z0z n.1 i.1+255*2 ^ (8*i.1):Nat):Int):=by decide+kernel
theorem Zw7:Contract Try.prog cfg 105 Z6L:=by
 refine Zsb ?_
 intro m _ hp
 simp only [ZbT] at hp
 obtain ⟨n,rfl⟩:=X7 hp.1
 have hn:n < 256:=by omega
 refine ZxL _ _ ?_
 refine Zb (ι:=Nat) (fun i=> Z0b n ((Z0z n i:Nat):Int) i) (fun i=> i<=8) (fun i=> 8 - i) 0 rfl (by omega) ?_
 intro i hi
 refine Znw _ _ _ _ _ ?_
 (simp only [vcS])
 refine ⟨fun hc=> ⟨by omega,fun hq=> ⟨by unfold InR;omega,by omega,by unfold InR;omega,i+1,?_,by omega,by omega⟩,fun hq=> ⟨by unfold InR;omega,i+1,?_,by omega,by omega⟩⟩,fun hc=> ?_⟩
 ·have h1:=Zq6 ⟨n,hn⟩ ⟨i,by omega⟩
  have h2:=Zrt ⟨n,hn⟩ ⟨i,by omega⟩
  simp only at h1 h2
  rw [h1] at hq
  rw [h2]
  have e:Z0z n (i+1)=Z0z n i+255*2 ^ (8*i):=by simp only [Z0z];rw [if_pos (by omega)]
  rw [e]
  try rfl
 ·have h1:=Zq6 ⟨n,hn⟩ ⟨i,by omega⟩
  simp only at h1
  rw [h1] at hq
  have e:Z0z n (i+1)=Z0z n i:=by simp only [Z0z];rw [if_neg (by omega)];omega
  rw [e]
  try rfl
 ·have:i=8:=by omega
  subst this
  exact Yx rfl rfl
theorem Z1D(a:Nat)(h:a < 2 ^ 64):(BitVec.ofInt 64 (a:Int)).toNat=a:=by
 rw [BitVec.toNat_ofInt]
 omega
theorem c66:Contract Try.prog cfg 66 Z6M:=by
 refine ZuX Zw7 ?_
 intro a b m _ hp
 simp only [ZeV] at hp
 obtain ⟨⟨a0,a1⟩,⟨b0,b1⟩,m0,m1⟩:=hp
 obtain ⟨x,rfl⟩:=X7 a0
 obtain ⟨y,rfl⟩:=X7 b0
 obtain ⟨n,rfl⟩:=X7 m0
 have hn:n < 256:=by omega
 have hx:x < 2 ^ 64:=by omega
 have hy:y < 2 ^ 64:=by omega
 have hw:=ZqF ⟨n,hn⟩
 have hw2:=Zj8 ⟨n,hn⟩
 simp only at hw hw2
 rw [<-hw2] at hw
 refine ZyU _ _ _ _ ?_
 refine ⟨⟨m0,m1⟩,⟨m0,m1⟩,Yx rfl ?_⟩
 have em:mix x y n=(((x &&& (2 ^ 64 - 1 - Z0z n 8)) ||| (y &&& Z0z n 8):Nat):Int):=by rw [<-ZoI,<-ZoH x y n hn]
 have e1:(BitVec.ofInt 64 (x:Int) &&& ~~~(BitVec.ofInt 64 ((Z0z n 8:Nat):Int))).toNat=x &&& (2 ^ 64 - 1 - Z0z n 8):=by
  rw [Kx,BitVec.toNat_not,Z1D x hx,Z1D _ hw]
 have e2:(BitVec.ofInt 64 (y:Int) &&& BitVec.ofInt 64 ((Z0z n 8:Nat):Int)).toNat=y &&& Z0z n 8:=by
  rw [Kx,Z1D y hy,Z1D _ hw]
 have l1:x &&& (2 ^ 64 - 1 - Z0z n 8) < 2 ^ 64:=Nat.lt_of_le_of_lt Nat.and_le_left hx
 have l2:y &&& Z0z n 8 < 2 ^ 64:=Nat.lt_of_le_of_lt Nat.and_le_left hy
 have l3:(x &&& (2 ^ 64 - 1 - Z0z n 8)) ||| (y &&& Z0z n 8) < 2 ^ 64:=Nat.or_lt_two_pow l1 l2
 have key:IntKind.wrap .u64 ((BitVec.ofInt 64 (IntKind.wrap .u64 ((BitVec.ofInt 64 (x:Int) &&& ~~~(BitVec.ofInt 64 ((Z0z n 8:Nat):Int))).toNat:Int)) ||| BitVec.ofInt 64 (IntKind.wrap .u64 ((BitVec.ofInt 64 (y:Int) &&& BitVec.ofInt 64 ((Z0z n 8:Nat):Int)).toNat:Int))).toNat:Int)=mix x y n:=by
  have w1:∀ k:Nat,k < 2 ^ 64->IntKind.wrap .u64 (k:Int)=k:=fun k hk=> Z3Q (by omega) (by omega)
  rw [e1,e2,w1 _ l1,w1 _ l2,BitVec.toNat_or,Z1D _ l1,Z1D _ l2,w1 _ l3,em]
 exact key
noncomputable section
noncomputable section
def Zle:ArgL (List Tree × List Tree × Unit × Unit):=(.cons (aSl .tree) (.cons (aSl .tree) (.cons (aFn 106) .nil)))
def Z6b(a:List Tree × List Tree × Unit × Unit):Prop:=Z7 a.1<=1000000000000/\Z7 a.2.1<=1000000000000
def ZnZ(a:List Tree × List Tree × Unit × Unit):V U:= .c (.bool (eqX (Z3 a.1) (Z3 a.2.1)))
def Z0f:Fs U:=fs Zle (fun a=> [Z6b a]) ZnZ
def Z0T:List (FuncId × Fs U):=[(106,Jh)]
def Z7g:Zf U:=lvl [([0,1,2],[]),([0,1,2,14],[]),([6],[]),([1,2,15,16,17],[]),([1,2,15,16,17,18],[]),([1,2,7,8,15,16,17],[8]),([1,2,8,9,15,16,17],[8,9]),([1,2,15,16,17,30],[]),([6],[]),([1,2,15,16,17],[]),([6],[])]
def Z1J(a b:List Tree)(f:Unit)(x17:Int):LSt U:=(L2 [(1,.c (sU .tree b .unk)),(2,.fn 106),(15,.c (sU .tree a .unk)),pI 16 (a.length:Int),pI 17 x17] [])
abbrev Zyo(a b:List Tree)(f:Unit)(Q:QT):=AW (Z6 Z0T) Try.f151 Z7g [] (L2 [(0,.c (sU .tree a .unk)),(1,.c (sU .tree b .unk)),(2,.fn 106)] []) Q
abbrev Zj2:=awp cfg (Z6 Z0T) (YD cfg (Z6 Z0T)) Try.f151.ntmps Z7g
abbrev ZhP:=ZnJ cfg (Z6 Z0T) (YD cfg (Z6 Z0T)) Try.f151.ntmps Z7g
theorem Zxv(a b:List Tree)(f:Unit)(Q:QT)(h:((((a.length:Int):Int) !=(b.length:Int))=true->Q .ret (L2 [pB 6 false] []))/\((((a.length:Int):Int) !=(b.length:Int))=false->Zo (AW (Z6 Z0T) Try.f151 Z7g [1,1,0,1,0,0]) (Z1J a b f 0) (xB 0 (SW (Z6 Z0T) Try.f151 Z7g [1,1,1] Q)))):
  Zyo a b f Q:=by
 have e_:(Zyo a b f Q)=((((a.length:Int) !=(b.length:Int))=true->(Q .ret (L2 [pB 6 false] [])))/\(((a.length:Int) !=(b.length:Int))=false->(Zo (Zj2 (cd Try.f151 [1,1,0,1,0,0])) (Z1J a b f 0) (xB 0 (ZhP (cd Try.f151 [1,1,1]) Q))))):=by kernel_rfl
 exact e_.mpr ⟨fun c_4=> (h.1 c_4),fun c_4=> (h.2 c_4)⟩
abbrev Zlu(a b:List Tree)(f:Unit)(x17:Int)(N0:NT)(Q:QT):=AW (Z6 Z0T) Try.f151 Z7g [1,1,0,1,0,0] (Z1J a b f x17) (xT N0 (xB 0 (SW (Z6 Z0T) Try.f151 Z7g [1,1,1] Q)))
theorem Zng(a b:List Tree)(f:Unit)(x17:Int)(N0:NT)(Q:QT)(h:((decide (x17 < (a.length:Int)))=true->((0:Int)<=x17/\x17 < (a.length:Int))/\(((0:Int)<=x17/\x17 < (b.length:Int))/\((Z18 ((Tree.mk (Tree.kind (a.getD x17.toNat Tree.nil)) (Tree.words (a.getD x17.toNat Tree.nil)) (Tree.kids (a.getD x17.toNat Tree.nil))),(Tree.mk (Tree.kind (b.getD x17.toNat Tree.nil)) (Tree.words (b.getD x17.toNat Tree.nil)) (Tree.kids (b.getD x17.toNat Tree.nil))),()))/\(((!(ZT (Z2 (Tree.mk (Tree.kind (a.getD x17.toNat Tree.nil)) (Tree.words (a.getD x17.toNat Tree.nil)) (Tree.kids (a.getD x17.toNat Tree.nil)))) (Z2 (Tree.mk (Tree.kind (b.getD x17.toNat Tree.nil)) (Tree.words (b.getD x17.toNat Tree.nil)) (Tree.kids (b.getD x17.toNat Tree.nil))))))=true->Q .ret (L2 [pB 6 false] []))/\((!(ZT (Z2 (Tree.mk (Tree.kind (a.getD x17.toNat Tree.nil)) (Tree.words (a.getD x17.toNat Tree.nil)) (Tree.kids (a.getD x17.toNat Tree.nil)))) (Z2 (Tree.mk (Tree.kind (b.getD x17.toNat Tree.nil)) (Tree.words (b.getD x17.toNat Tree.nil)) (Tree.kids (b.getD x17.toNat Tree.nil))))))=false->(InR (x17+1))/\(N0 (Z1J a b f (x17+1))))))))/\((decide (x17 < (a.length:Int)))=false->Q .ret (L2 [pB 6 true] []))):
  Zlu a b f x17 N0 Q:=by
 have e_:(Zlu a b f x17 N0 Q)=(let zz0:=(!(ZT (Z2 (Tree.mk (Tree.kind (a.getD x17.toNat Tree.nil)) (Tree.words (a.getD x17.toNat Tree.nil)) (Tree.kids (a.getD x17.toNat Tree.nil)))) (Z2 (Tree.mk (Tree.kind (b.getD x17.toNat Tree.nil)) (Tree.words (b.getD x17.toNat Tree.nil)) (Tree.kids (b.getD x17.toNat Tree.nil))))));(((decide ((x17:Int) < (a.length:Int)))=true->((0:Int)<=x17/\x17 < (a.length:Int))/\(((0:Int)<=x17/\x17 < (b.length:Int))/\((Z18 ((Tree.mk (Tree.kind (a.getD x17.toNat Tree.nil)) (Tree.words (a.getD x17.toNat Tree.nil)) (Tree.kids (a.getD x17.toNat Tree.nil))),(Tree.mk (Tree.kind (b.getD x17.toNat Tree.nil)) (Tree.words (b.getD x17.toNat Tree.nil)) (Tree.kids (b.getD x17.toNat Tree.nil))),()))/\((zz0=true->(Q .ret (L2 [pB 6 false] [])))/\(zz0=false->(InR ((x17:Int)+1))/\(N0 (Z1J a b f ((x17:Int)+1))))))))/\((decide ((x17:Int) < (a.length:Int)))=false->(Q .ret (L2 [pB 6 true] []))))):=by kernel_rfl
 exact e_.mpr ⟨fun c_5=> ⟨(h.1 c_5).1,⟨(h.1 c_5).2.1,⟨(h.1 c_5).2.2.1,⟨fun c_6=> ((h.1 c_5).2.2.2.1 c_6),fun c_6=> ⟨((h.1 c_5).2.2.2.2 c_6).1,((h.1 c_5).2.2.2.2 c_6).2⟩⟩⟩⟩⟩,fun c_5=> (h.2 c_5)⟩
def Ztf(a b:List Tree)(f:Unit):Prop:=AW (Z6 Z0T) Try.f151 Z7g [] (Zm (Zle.can (a,b,f,())) []) (EQ Try.f151 (ZnZ (a,b,f,())) [])
theorem ZrZ(Z9W:CT 106 Jh)(hb:∀ (a:List Tree) (b:List Tree) (f:Unit) (_:Unit),Z6b (a,b,f,())->Ztf a b f):CT 151 Z0f:=
 Z4 (l:=[(106,Jh)]) Zn rfl (⟨Z9W,trivial⟩) Z7g Try.func151 rfl rfl 3 (fun _=> rfl) (by decide) (fun ⟨a,b,f,_⟩=> hb a b f ())
end
end
theorem Zfp:Contract Try.prog cfg 151 Z0f:=by
 refine ZrZ Z9W ?_
 intro a b f _ hp
 simp only [Z6b] at hp
 refine Zxv a b f _ ?_
 (simp only [vcS])
 refine ⟨fun hc=> Ze rfl (ZpR (a:=Z3 a) (b:=Z3 b) (fun h=> hc (by have:=congrArg List.length h;simp [Z3] at this;omega))).symm,fun hc=> ?_⟩
 have hl:a.length=b.length:=by omega
 have hla:=Zv a
 refine Zb (ι:=Int) (fun i=> Z1J a b f i) (fun i=> 0<=i/\i<=a.length/\∀ j:Nat,(j:Int) < i->Z2 (a.getD j Tree.nil)=Z2 (b.getD j Tree.nil)) (fun i=> ((a.length:Int) - i).toNat) 0 rfl ⟨by omega,by omega,by intro j hj;omega⟩ ?_
 rintro i ⟨h1,h2,h3⟩
 refine Zng a b f _ _ _ ?_
 (simp only [vcS])
 (simp only [Tree.eta,Edit.eta,Tree.kind_mk,Tree.words_mk,Tree.kids_mk])
 refine ⟨fun hi=> ⟨⟨h1,hi⟩,⟨h1,by omega⟩,?_,fun hq=> ?_,fun hq=> ⟨by unfold InR;omega,i+1,rfl,⟨by omega,by omega,?_⟩,by omega⟩⟩,fun hi=> ?_⟩
 ·have:=JJ (Zl (l:=a) (i:=i.toNat) (by omega) Tree.nil)
  have:=JJ (Zl (l:=b) (i:=i.toNat) (by omega) Tree.nil)
  simp only [Z18];omega
 ·refine Ze rfl (ZpR (a:=Z3 a) (b:=Z3 b) (fun h=> ?_)).symm
  have h5:=Zhd (d:=Tree.nil) h i.toNat
  rw [Jq] at hq
  exact hq h5
 ·intro j hj
  by_cases hj2:(j:Int) < i
  ·exact h3 j hj2
  ·rw [Z0F,show i.toNat=j by omega] at hq
   exact hq
 ·exact Ze rfl (Z0s (a:=Z3 a) (b:=Z3 b).2 (ZgV Tree.nil hl (fun j hj=> h3 j (by omega)))).symm
noncomputable section
def Z6Z(a:List Int × Unit):List Int:=a.1
def Z2I:Fs U:=fsL Zlk (fun a=> [ZbS a]) .u64 Z6Z
def Zlf:ArgL (List Tree × Unit):=(.cons (aSl .tree) .nil)
def ZbO(a:List Tree × Unit):Prop:=a.1.length<=1000000000000
def Zam(a:List Tree × Unit):List Tree:=a.1
def Z4N:Fs U:=fsL Zlf (fun a=> [ZbO a]) .tree Zam
def Z8Y:ArgL (Edit × Tree × Unit):=(.cons (aEl .edit) (.cons (aEl .tree) .nil))
def Z2O(a:Edit × Tree × Unit):Prop:=(Z8 a.1<=20000000000/\Yl a.1/\∃ d,Z5 a.1 d=true)/\Zi a.2.1+ctE a.1<=200000000000/\rng a.2.1
def ZcU(a:Edit × Tree × Unit):Nat:=2*Z8 a.1+1
def Z46(a:Edit × Tree × Unit):V U:= .tup [(true,(enc .tree (Z9R a.1 a.2.1))),(false,[.bool ((doE false a.1 a.2.1).isSome)])]
def Z8a:Fs U:=fs Z8Y (fun a=> [Z2O a]) Z46
def Z3t(a:Edit × Tree × Unit):Prop:=Edit.kind a.1=2/\(Z8 a.1<=20000000000/\Yl a.1/\∃ d,Z5 a.1 d=true)/\Zi a.2.1+ctE a.1<=200000000000/\rng a.2.1
def Z9p(a:Edit × Tree × Unit):Nat:=2*Z8 a.1
def Z3p(a:Edit × Tree × Unit):V U:= .tup [(true,(enc .tree (JM (Z9P false a.1 a.2.1)))),(false,[.bool ((Z9P false a.1 a.2.1).isSome)])]
def Zjl:Fs U:=fs Z8Y (fun a=> [Z3t a]) Z3p
def Z3s(a:Edit × Tree × Unit):Prop:=Edit.kind a.1=3/\(Z8 a.1<=20000000000/\Yl a.1/\∃ d,Z5 a.1 d=true)/\Zi a.2.1+ctE a.1<=200000000000/\rng a.2.1
def Z3o(a:Edit × Tree × Unit):V U:= .tup [(true,(enc .tree (Zpj a.1 (Z5D false a.1 a.2.1)))),(false,[.bool ((Z2B (Z5D false a.1 a.2.1)).isSome)])]
def Zjk:Fs U:=fs Z8Y (fun a=> [Z3s a]) Z3o
def Zip:Zf U:=fun i=> match i with
 | 0=> ([(0,[])],[])
 | 1=> ([(0,[]),(4,[])],[])
 | 2=> ([(2,[.wr .u64])],[])
 | 3=> ([(2,[.wr .u64])],[])
 | _=> ([],[])
abbrev ZyH(p:List Nat):=AW (Z26 Ziz) Try.f109 Zip p
theorem Zuq(l:List Int)(Q:QT)(h:(((l=[])->(Q .ret (⟨[(2,.c (.mref (.e 2 0)))],[],[(.e 2 0,LC.mk (U:=U) .u64 [] 0)]⟩:LSt U)))/\(True->((([]:List Int).length+l.length)*8<=140737488355328)/\(Q .ret (⟨[(2,.c (.mref (.e 2 0)))],[],[(.e 2 0,LC.mk (U:=U) .u64 (([]:List Int)++l) (([]:List Int).length))]⟩:LSt U))))):
  ZyH [] (L2 [(0,.c (sU .u64 l .unk))] []) Q:=
 Eq.mpr (by kernel_rfl) h
def Zqz(l:List Int):Prop:=AW (Z26 Ziz) Try.f109 Zip [] (Zm (Zlk.can (l,())) []) (Z06 cfg Try.f109.ntmps Try.f109.results.toList (.c (.mref (.r 0 0))) [] [(.r 0 0,LC.mk (U:=U) .u64 (Z6Z (l,())) 0)])
theorem ZoM(hb:∀ (l:List Int) (_:Unit),ZbS (l,())->Zqz l):CT 109 Z2I:=
 Z0v (l:=[]) Zn rfl trivial Zip Try.func109 rfl rfl 1 (fun _=> rfl) (by decide) (fun ⟨l,_⟩=> hb l ())
def Zpa:Zf U:=fun i=> match i with
 | 0=> ([(0,[])],[])
 | 1=> ([(0,[]),(4,[])],[])
 | 2=> ([(2,[.wr .tree])],[])
 | 3=> ([(2,[.wr .tree])],[])
 | _=> ([],[])
abbrev ZzC(p:List Nat):=AW (Z26 Ziz) Try.f150 Zpa p
theorem Zxw(l:List Tree)(Q:QT)(h:(((l=[])->(Q .ret (⟨[(2,.c (.mref (.e 2 0)))],[],[(.e 2 0,LC.mk (U:=U) .tree [] 0)]⟩:LSt U)))/\(True->((([]:List Tree).length+l.length)*56<=140737488355328)/\(Q .ret (⟨[(2,.c (.mref (.e 2 0)))],[],[(.e 2 0,LC.mk (U:=U) .tree (([]:List Tree)++l) (([]:List Tree).length))]⟩:LSt U))))):
  ZzC [] (L2 [(0,.c (sU .tree l .unk))] []) Q:=
 Eq.mpr (by kernel_rfl) h
def Ztg(l:List Tree):Prop:=AW (Z26 Ziz) Try.f150 Zpa [] (Zm (Zlf.can (l,())) []) (Z06 cfg Try.f150.ntmps Try.f150.results.toList (.c (.mref (.r 0 0))) [] [(.r 0 0,LC.mk (U:=U) .tree (Zam (l,())) 0)])
theorem Zs0(hb:∀ (l:List Tree) (_:Unit),ZbO (l,())->Ztg l):CT 150 Z4N:=
 Z0v (l:=[]) Zn rfl trivial Zpa Try.func150 rfl rfl 1 (fun _=> rfl) (by decide) (fun ⟨l,_⟩=> hb l ())
def Z8K(N:Nat):List (FuncId × Fs U):=(70,fs Z8Y (fun a=> [Z2O a,ZcU a < N]) Z46) ::(107,fs Z8Y (fun a=> [Z3t a,Z9p a < N]) Z3p) ::(108,fs Z8Y (fun a=> [Z3s a,Z9p a < N]) Z3o) ::[(106,Jh),(149,Z1k),(91,Z3j),(151,Z0f),(150,Z4N),(66,Z6M),(109,Z2I)]
def Zvd:Zf U:=lvl [([2,3,4],[2,3,4]),([2,3,4,7],[2,3,4]),([2,3,4,7,8],[2,3,4]),([4,5],[4]),([2,3,4,7,11],[2,3,4]),([4,5],[4]),([2,3,4,7,19],[2,3,4]),([4,5],[4]),([2,3,4,26],[2,3,4]),([4,5],[4]),([4,5],[4])]
abbrev A70(N:Nat)(p:List Nat):=AW (Z6 (Z8K N)) Try.f70 Zvd p
theorem ZyQ(N:Nat)(e:Edit)(t:Tree)(Q:QT)(h:∀ y_1,y_1=e->∀ y_2,y_2=t->∀ y_3,y_3=(e.old)->(((e.kind==0)=true->(Q .ret (L2 [pL 4,pB 5 true] [(.loc 4,(enc .tree t))])))/\((e.kind==0)=false->(((e.kind==1)=true->(Z18 (y_3,y_2,()))/\(Q .ret (L2 [pL 4,pB 5 (ZT (Z2 y_3) (Z2 y_2))] [(.loc 4,(enc .tree e.new))])))/\((e.kind==1)=false->(((e.kind==2)=true->(Z3t (y_1,y_2,()))/\(Z9p (y_1,y_2,()) < N)/\(Q .ret (L2 [pL 4,pB 5 ((Z9P false y_1 y_2).isSome)] [(.loc 4,(enc .tree (JM (Z9P false y_1 y_2))))])))/\((e.kind==2)=false->(((e.kind==3)=true->(Z3s (y_1,y_2,()))/\(Z9p (y_1,y_2,()) < N)/\(Q .ret (L2 [pL 4,pB 5 ((Z2B (Z5D false y_1 y_2)).isSome)] [(.loc 4,(enc .tree (Zpj y_1 (Z5D false y_1 y_2))))])))/\((e.kind==3)=false->(Q .ret (L2 [pL 4,pB 5 false] [(.loc 4,[ci 0,.nils,.nils])]))))))))))):
  A70 N [] (L2 [(0,.agg (enc .edit e)),(1,.agg (enc .tree t))] []) Q:=
 Eq.mpr (by kernel_rfl) (h _ (Zd _) _ (Zc _) _ (Zc _))
def Zwy(N:Nat)(e:Edit)(t:Tree):Prop:=AW (Z6 (Z8K N)) Try.f70 Zvd [] (Zm (Z8Y.can (e,t,())) []) (EQ Try.f70 (Z46 (e,t,())) [])
abbrev ZyC:Prop:=∀ (N:Nat) (e:Edit) (t:Tree) (_:Unit),Z2O (e,t,())->ZcU (e,t,()) < N+1->Zwy N e t
def Zkf:Zf U:=fun i=> match i with
 | 0=> ([(2,[]),(3,[]),(4,[])],[(.loc 2,[]),(.loc 3,[]),(.loc 4,[])])
 | 1=> ([(2,[]),(3,[]),(4,[]),(16,[])],[(.loc 2,[]),(.loc 3,[]),(.loc 4,[])])
 | 2=> ([(4,[]),(5,[])],[(.loc 4,[])])
 | 3=> ([(2,[]),(3,[]),(4,[]),(6,[])],[(.loc 2,[]),(.loc 3,[]),(.loc 4,[]),(.loc 6,[.any,.wr .u64,.wr .tree])])
 | 4=> ([(2,[]),(3,[]),(4,[]),(6,[]),(26,[]),(27,[]),(28,[])],[(.loc 2,[]),(.loc 3,[]),(.loc 4,[]),(.loc 6,[.any,.wr .u64,.wr .tree])])
 | 5=> ([(2,[]),(3,[]),(4,[]),(6,[]),(26,[]),(27,[]),(28,[]),(29,[])],[(.loc 2,[]),(.loc 3,[]),(.loc 4,[]),(.loc 6,[.any,.wr .u64,.wr .tree])])
 | 6=> ([(2,[]),(3,[]),(4,[]),(6,[]),(8,[]),(26,[]),(27,[]),(28,[])],[(.loc 2,[]),(.loc 3,[]),(.loc 4,[]),(.loc 6,[.any,.wr .u64,.wr .tree]),(.loc 8,[])])
 | 7=> ([(2,[]),(3,[]),(4,[]),(6,[]),(8,[]),(9,[]),(26,[]),(27,[]),(28,[])],[(.loc 2,[]),(.loc 3,[]),(.loc 4,[]),(.loc 6,[.any,.wr .u64,.wr .tree]),(.loc 8,[])])
 | 8=> ([(2,[]),(3,[]),(4,[]),(6,[]),(8,[]),(9,[]),(26,[]),(27,[]),(28,[]),(42,[])],[(.loc 2,[]),(.loc 3,[]),(.loc 4,[]),(.loc 6,[.any,.wr .u64,.wr .tree]),(.loc 8,[])])
 | 9=> ([(4,[]),(5,[])],[(.loc 4,[])])
 | 10=> ([(2,[]),(3,[]),(4,[]),(6,[]),(8,[]),(9,[]),(26,[]),(27,[]),(28,[]),(42,[]),(49,[])],[(.loc 2,[]),(.loc 3,[]),(.loc 4,[]),(.loc 6,[.any,.wr .u64,.wr .tree]),(.loc 8,[])])
 | 11=> ([(2,[]),(3,[]),(4,[]),(6,[]),(8,[]),(9,[]),(26,[]),(27,[]),(28,[]),(42,[])],[(.loc 2,[]),(.loc 3,[]),(.loc 4,[]),(.loc 6,[.any,.wr .u64,.wr .tree]),(.loc 8,[])])
 | 12=> ([(2,[]),(3,[]),(4,[]),(6,[]),(26,[]),(27,[]),(28,[])],[(.loc 2,[]),(.loc 3,[]),(.loc 4,[]),(.loc 6,[.any,.wr .u64,.wr .tree])])
 | 13=> ([(2,[]),(3,[]),(4,[]),(6,[]),(26,[]),(27,[]),(28,[])],[(.loc 2,[]),(.loc 3,[]),(.loc 4,[]),(.loc 6,[.any,.wr .u64,.wr .tree])])
 | 14=> ([(3,[]),(4,[]),(6,[]),(68,[]),(69,[]),(70,[])],[(.loc 3,[]),(.loc 4,[]),(.loc 6,[.any,.wr .u64,.wr .tree])])
 | 15=> ([(3,[]),(4,[]),(6,[]),(68,[]),(69,[]),(70,[]),(71,[])],[(.loc 3,[]),(.loc 4,[]),(.loc 6,[.any,.wr .u64,.wr .tree])])
 | 16=> ([(3,[]),(4,[]),(6,[]),(11,[]),(68,[]),(69,[]),(70,[])],[(.loc 3,[]),(.loc 4,[]),(.loc 6,[.any,.wr .u64,.wr .tree]),(.loc 11,[])])
 | 17=> ([(3,[]),(4,[]),(6,[]),(11,[]),(12,[]),(13,[]),(68,[]),(69,[]),(70,[])],[(.loc 3,[]),(.loc 4,[]),(.loc 6,[.any,.wr .u64,.wr .tree]),(.loc 11,[]),(.loc 12,[])])
 | 18=> ([(3,[]),(4,[]),(6,[]),(11,[]),(12,[]),(68,[]),(69,[]),(70,[]),(85,[])],[(.loc 3,[]),(.loc 4,[]),(.loc 6,[.any,.wr .u64,.wr .tree]),(.loc 11,[]),(.loc 12,[])])
 | 19=> ([(4,[]),(5,[])],[(.loc 4,[])])
 | 20=> ([(3,[]),(4,[]),(6,[]),(11,[]),(12,[]),(68,[]),(69,[]),(70,[]),(85,[]),(92,[])],[(.loc 3,[]),(.loc 4,[]),(.loc 6,[.any,.wr .u64,.wr .tree]),(.loc 11,[]),(.loc 12,[])])
 | 21=> ([(3,[]),(4,[]),(6,[]),(11,[]),(12,[]),(68,[]),(69,[]),(70,[]),(85,[])],[(.loc 3,[]),(.loc 4,[]),(.loc 6,[.any,.wr .u64,.wr .tree]),(.loc 11,[]),(.loc 12,[])])
 | 22=> ([(3,[]),(4,[]),(6,[]),(68,[]),(69,[]),(70,[])],[(.loc 3,[]),(.loc 4,[]),(.loc 6,[.any,.wr .u64,.wr .tree])])
 | 23=> ([(3,[]),(4,[]),(6,[]),(68,[]),(69,[]),(70,[])],[(.loc 3,[]),(.loc 4,[]),(.loc 6,[.any,.wr .u64,.wr .tree])])
 | 24=> ([(4,[]),(5,[])],[(.loc 4,[])])
 | _=> ([],[])
def Z5n(e:Edit)(t:Tree)(x28:Int)(rl_6_1:List Int):LSt U:=(⟨[pL 2,pL 3,pL 4,pL 6,(26,.c (sU .wedit e.words .unk)),pI 27 (e.words.length:Int),pI 28 x28],[(.loc 2,(enc .edit e)),(.loc 3,(enc .tree t)),(.loc 4,[ci 0,.nils,.nils]),(.loc 6,[ci 1,.mref (.l 6 1),.mref (.l 6 2)])],[(.l 6 1,LC.mk (U:=U) .u64 rl_6_1 0),(.l 6 2,LC.mk (U:=U) .tree t.kids 0)]⟩:LSt U)
def Z5m(e:Edit)(t:Tree)(x28:Int)(rl_6_1_a:List Int):LSt U:=(⟨[pL 2,pL 3,pL 4,pL 6,pL 8,(9,.c (.int .u64 (Jm (Tree.mk t.kind t.words t.kids) (WEdit.at_ (e.words.getD x28.toNat (WEdit.mk 0 0 0 0)))))),(26,.c (sU .wedit e.words .unk)),pI 27 (e.words.length:Int),pI 28 x28,(42,.c (.bool (((mix 0 (Jm (Tree.mk t.kind t.words t.kids) (WEdit.at_ (e.words.getD x28.toNat (WEdit.mk 0 0 0 0)))) (WEdit.mask (e.words.getD x28.toNat (WEdit.mk 0 0 0 0)))):Int) !=(WEdit.old (e.words.getD x28.toNat (WEdit.mk 0 0 0 0))))))],[(.loc 2,(enc .edit e)),(.loc 3,(enc .tree t)),(.loc 4,[ci 0,.nils,.nils]),(.loc 6,[ci 1,.mref (.l 6 1),.mref (.l 6 2)]),(.loc 8,(enc .wedit (e.words.getD x28.toNat (WEdit.mk 0 0 0 0))))],[(.l 6 1,LC.mk (U:=U) .u64 rl_6_1_a 0),(.l 6 2,LC.mk (U:=U) .tree t.kids 0)]⟩:LSt U)
def Z5l(e:Edit)(t:Tree)(rl_6_1:List Int)(x70_b:Int)(rl_6_2_b:List Tree):LSt U:=(⟨[pL 3,pL 4,pL 6,(68,.c (sU .kid e.kids .unk)),pI 69 (e.kids.length:Int),pI 70 x70_b],[(.loc 3,(enc .tree t)),(.loc 4,[ci 0,.nils,.nils]),(.loc 6,[ci 1,.mref (.l 6 1),.mref (.l 6 2)])],[(.l 6 1,LC.mk (U:=U) .u64 rl_6_1 0),(.l 6 2,LC.mk (U:=U) .tree rl_6_2_b 0)]⟩:LSt U)
def Z5k(e:Edit)(t:Tree)(rl_6_1:List Int)(x70_b:Int)(rl_6_2_c:List Tree):LSt U:=(⟨[pL 3,pL 4,pL 6,pL 11,pL 12,(68,.c (sU .kid e.kids .unk)),pI 69 (e.kids.length:Int),pI 70 x70_b,(85,.c (.bool (!((doE false (Edit.mk (Edit.kind (KidOf.e (e.kids.getD x70_b.toNat (KidOf.mk 0 Edit.nil)))) (Tree.mk (Tree.kind (Edit.old (KidOf.e (e.kids.getD x70_b.toNat (KidOf.mk 0 Edit.nil))))) (Tree.words (Edit.old (KidOf.e (e.kids.getD x70_b.toNat (KidOf.mk 0 Edit.nil))))) (Tree.kids (Edit.old (KidOf.e (e.kids.getD x70_b.toNat (KidOf.mk 0 Edit.nil)))))) (Tree.mk (Tree.kind (Edit.new (KidOf.e (e.kids.getD x70_b.toNat (KidOf.mk 0 Edit.nil))))) (Tree.words (Edit.new (KidOf.e (e.kids.getD x70_b.toNat (KidOf.mk 0 Edit.nil))))) (Tree.kids (Edit.new (KidOf.e (e.kids.getD x70_b.toNat (KidOf.mk 0 Edit.nil)))))) (Edit.words (KidOf.e (e.kids.getD x70_b.toNat (KidOf.mk 0 Edit.nil)))) (Edit.kids (KidOf.e (e.kids.getD x70_b.toNat (KidOf.mk 0 Edit.nil)))) (Edit.list (KidOf.e (e.kids.getD x70_b.toNat (KidOf.mk 0 Edit.nil)))) (Edit.ops (KidOf.e (e.kids.getD x70_b.toNat (KidOf.mk 0 Edit.nil))))) (Tree.mk (Tree.kind (JA (Tree.mk t.kind t.words t.kids) (KidOf.at_ (e.kids.getD x70_b.toNat (KidOf.mk 0 Edit.nil))))) (Tree.words (JA (Tree.mk t.kind t.words t.kids) (KidOf.at_ (e.kids.getD x70_b.toNat (KidOf.mk 0 Edit.nil))))) (Tree.kids (JA (Tree.mk t.kind t.words t.kids) (KidOf.at_ (e.kids.getD x70_b.toNat (KidOf.mk 0 Edit.nil))))))).isSome))))],[(.loc 3,(enc .tree t)),(.loc 4,[ci 0,.nils,.nils]),(.loc 6,[ci 1,.mref (.l 6 1),.mref (.l 6 2)]),(.loc 11,(enc .kid (e.kids.getD x70_b.toNat (KidOf.mk 0 Edit.nil)))),(.loc 12,(enc .tree (Z9R (Edit.mk (Edit.kind (KidOf.e (e.kids.getD x70_b.toNat (KidOf.mk 0 Edit.nil)))) (Tree.mk (Tree.kind (Edit.old (KidOf.e (e.kids.getD x70_b.toNat (KidOf.mk 0 Edit.nil))))) (Tree.words (Edit.old (KidOf.e (e.kids.getD x70_b.toNat (KidOf.mk 0 Edit.nil))))) (Tree.kids (Edit.old (KidOf.e (e.kids.getD x70_b.toNat (KidOf.mk 0 Edit.nil)))))) (Tree.mk (Tree.kind (Edit.new (KidOf.e (e.kids.getD x70_b.toNat (KidOf.mk 0 Edit.nil))))) (Tree.words (Edit.new (KidOf.e (e.kids.getD x70_b.toNat (KidOf.mk 0 Edit.nil))))) (Tree.kids (Edit.new (KidOf.e (e.kids.getD x70_b.toNat (KidOf.mk 0 Edit.nil)))))) (Edit.words (KidOf.e (e.kids.getD x70_b.toNat (KidOf.mk 0 Edit.nil)))) (Edit.kids (KidOf.e (e.kids.getD x70_b.toNat (KidOf.mk 0 Edit.nil)))) (Edit.list (KidOf.e (e.kids.getD x70_b.toNat (KidOf.mk 0 Edit.nil)))) (Edit.ops (KidOf.e (e.kids.getD x70_b.toNat (KidOf.mk 0 Edit.nil))))) (Tree.mk (Tree.kind (JA (Tree.mk t.kind t.words t.kids) (KidOf.at_ (e.kids.getD x70_b.toNat (KidOf.mk 0 Edit.nil))))) (Tree.words (JA (Tree.mk t.kind t.words t.kids) (KidOf.at_ (e.kids.getD x70_b.toNat (KidOf.mk 0 Edit.nil))))) (Tree.kids (JA (Tree.mk t.kind t.words t.kids) (KidOf.at_ (e.kids.getD x70_b.toNat (KidOf.mk 0 Edit.nil)))))))))],[(.l 6 1,LC.mk (U:=U) .u64 rl_6_1 0),(.l 6 2,LC.mk (U:=U) .tree rl_6_2_c 0)]⟩:LSt U)
abbrev ZfM(N:Nat)(p:List Nat):=AW (Z6 (Z8K N)) Try.f107 Zkf p
abbrev Z5E(N:Nat)(p:List Nat):=SW (Z6 (Z8K N)) Try.f107 Zkf p
theorem ZxJ(N:Nat)(e:Edit)(t:Tree)(Q:QT)(h:(((t.kind !=1)=true->(Q .ret (L2 [pL 4,pB 5 false] [(.loc 4,[ci 0,.nils,.nils])])))/\((t.kind !=1)=false->(ZbS (t.words,()))/\(ZbO (t.kids,()))/\(Zo (ZfM N [1,1,1,0,1,0,0]) (Z5n e t 0 t.words) (xB 0 (Z5E N [1,1,1,1] Q)))))):
  ZfM N [] (L2 [(0,.agg (enc .edit e)),(1,.agg (enc .tree t))] []) Q:=
 Eq.mpr (by kernel_rfl) h
theorem Znt(N:Nat)(e:Edit)(t:Tree)(x28:Int)(rl_6_1:List Int)(N0:NT)(Q:QT)(h:∀ y_1,y_1=t->∀ y_2,y_2=(e.words.getD x28.toNat (WEdit.mk 0 0 0 0))->let z1:=decide (x28 < (e.words.length:Int));let z0:=((mix 0 (Jm y_1 y_2.at_) y_2.mask):Int) !=y_2.old;((z1=true->((0:Int)<=x28/\x28 < (e.words.length:Int))/\((Z8n (y_1,y_2.at_,()))/\((ZeV (0,(Jm y_1 y_2.at_),y_2.mask,()))/\((z0=true->(Q .ret (L2 [pL 4,pB 5 false] [(.loc 4,[ci 0,.nils,.nils])])))/\(z0=false->Zo (ZfM N [1,1,1,0,1,0,0,1,1,0,0,1,1,1,0,0,0]) (Z5m e t x28 rl_6_1) (xB 2 (Z5E N [1,1,1,0,1,0,0,1,1,0,0,1,1,1,1] (xB 1 (Z5E N [1,1,1,0,1,0,0,1,1,1] (xT N0 (xB 0 (Z5E N [1,1,1,1] Q))))))))))))/\(z1=false->(Zo (ZfM N [1,1,1,1,0,1,0,0]) (Z5l e t rl_6_1 0 t.kids) (xB 4 (Z5E N [1,1,1,1,1] Q)))))):
  ZfM N [1,1,1,0,1,0,0] (Z5n e t x28 rl_6_1) (xT N0 (xB 0 (Z5E N [1,1,1,1] Q))):=
 Eq.mpr (by kernel_rfl) (h _ (Zc _) _ rfl)
theorem Zns(N:Nat)(e:Edit)(t:Tree)(x28:Int)(rl_6_1_a:List Int)(N1 N0:NT)(Q:QT)(h:let z0:=e.words.getD x28.toNat (WEdit.mk 0 0 0 0);let z2:=Jm (Tree.mk t.kind t.words t.kids) (WEdit.at_ z0);let z1:=decide (((rl_6_1_a.length:Int):Int)<=(WEdit.at_ z0));((z1=true->((rl_6_1_a.length+([0]).length)*8<=140737488355328)/\(N1 (Z5m e t x28 (rl_6_1_a++([0])))))/\(z1=false->(ZeV (z2,(WEdit.new z0),(WEdit.mask z0),()))/\((0:Int)<=(WEdit.at_ z0)/\(WEdit.at_ z0) < (rl_6_1_a.length:Int))/\((0:Nat)<=(Int.toNat (WEdit.at_ z0)))/\((InR (x28+1))/\(N0 (Z5n e t (x28+1) (List.set rl_6_1_a (Int.toNat (WEdit.at_ z0)) (mix z2 (WEdit.new z0) (WEdit.mask z0))))))))):
  ZfM N [1,1,1,0,1,0,0,1,1,0,0,1,1,1,0,0,0] (Z5m e t x28 rl_6_1_a) (xT N1 (xB 2 (Z5E N [1,1,1,0,1,0,0,1,1,0,0,1,1,1,1] (xB 1 (Z5E N [1,1,1,0,1,0,0,1,1,1] (xT N0 (xB 0 (Z5E N [1,1,1,1] Q)))))))):=
 Eq.mpr (by kernel_rfl) h
theorem Znr(N:Nat)(e:Edit)(t:Tree)(rl_6_1:List Int)(x70_b:Int)(rl_6_2_b:List Tree)(N2:NT)(Q:QT)(h:∀ y_1,y_1=t->∀ y_2,y_2=(e.kids.getD x70_b.toNat (KidOf.mk 0 Edit.nil))->∀ y_3,y_3=(y_2.e)->∀ y_4,y_4=(JA y_1 y_2.at_)->let z1:= !((doE false y_3 y_4).isSome);let z0:=decide (x70_b < (e.kids.length:Int));((z0=true->((0:Int)<=x70_b/\x70_b < (e.kids.length:Int))/\((Z8n (y_1,y_2.at_,()))/\(Z2O (y_3,y_4,()))/\(ZcU (y_3,y_4,()) < N)/\((z1=true->(Q .ret (L2 [pL 4,pB 5 false] [(.loc 4,[ci 0,.nils,.nils])])))/\(z1=false->Zo (ZfM N [1,1,1,1,0,1,0,0,1,1,0,0,1,1,1,0,0,0]) (Z5k e t rl_6_1 x70_b rl_6_2_b) (xB 6 (Z5E N [1,1,1,1,0,1,0,0,1,1,0,0,1,1,1,1] (xB 5 (Z5E N [1,1,1,1,0,1,0,0,1,1,1] (xT N2 (xB 4 (Z5E N [1,1,1,1,1] Q)))))))))))/\(z0=false->(Q .ret (L2 [pL 4,pB 5 true] [(.loc 4,[ci 1,sU .u64 rl_6_1 (.own (.l 4 1)),sU .tree rl_6_2_b (.own (.l 4 2))])]))))):
  ZfM N [1,1,1,1,0,1,0,0] (Z5l e t rl_6_1 x70_b rl_6_2_b) (xT N2 (xB 4 (Z5E N [1,1,1,1,1] Q))):=
 Eq.mpr (by kernel_rfl) (h _ (Zc _) _ rfl _ (Zd _) _ (Zc _))
theorem Znq(N:Nat)(e:Edit)(t:Tree)(rl_6_1:List Int)(x70_b:Int)(rl_6_2_c:List Tree)(N3 N2:NT)(Q:QT)(h:∀ y_1,y_1=t->∀ y_2,y_2=(e.kids.getD x70_b.toNat (KidOf.mk 0 Edit.nil))->∀ y_3,y_3=(y_2.e)->∀ y_4,y_4=(JA y_1 y_2.at_)->∀ y_5,y_5=(Z9R y_3 y_4)->let z0:=decide (((rl_6_2_c.length:Int):Int)<=y_2.at_);((z0=true->((rl_6_2_c.length+([(Tree.mk 0 [] [])]).length)*56<=140737488355328)/\(N3 (Z5k e t rl_6_1 x70_b (rl_6_2_c++([(Tree.mk 0 [] [])])))))/\(z0=false->((0:Int)<=y_2.at_/\y_2.at_ < (rl_6_2_c.length:Int))/\((0:Nat)<=(Int.toNat y_2.at_))/\((InR (x70_b+1))/\(N2 (Z5l e t rl_6_1 (x70_b+1) (List.set rl_6_2_c (Int.toNat y_2.at_) y_5))))))):
  ZfM N [1,1,1,1,0,1,0,0,1,1,0,0,1,1,1,0,0,0] (Z5k e t rl_6_1 x70_b rl_6_2_c) (xT N3 (xB 6 (Z5E N [1,1,1,1,0,1,0,0,1,1,0,0,1,1,1,1] (xB 5 (Z5E N [1,1,1,1,0,1,0,0,1,1,1] (xT N2 (xB 4 (Z5E N [1,1,1,1,1] Q)))))))):=
 Eq.mpr (by kernel_rfl) (h _ (Zc _) _ rfl _ (Zd _) _ (Zc _) _ (Zc _))
def Ztt(N:Nat)(e:Edit)(t:Tree):Prop:=AW (Z6 (Z8K N)) Try.f107 Zkf [] (Zm (Z8Y.can (e,t,())) []) (EQ Try.f107 (Z3p (e,t,())) [])
abbrev Zum:Prop:=∀ (N:Nat) (e:Edit) (t:Tree) (_:Unit),Z3t (e,t,())->Z9p (e,t,()) < N+1->Ztt N e t
def Zke:Zf U:=fun i=> match i with
 | 0=> ([(2,[]),(3,[]),(4,[])],[(.loc 2,[]),(.loc 3,[]),(.loc 4,[])])
 | 1=> ([(2,[]),(3,[]),(4,[]),(18,[])],[(.loc 2,[]),(.loc 3,[]),(.loc 4,[])])
 | 2=> ([(4,[]),(5,[])],[(.loc 4,[])])
 | 3=> ([(2,[]),(3,[]),(4,[]),(6,[])],[(.loc 2,[]),(.loc 3,[]),(.loc 4,[]),(.loc 6,[])])
 | 4=> ([(2,[]),(4,[]),(6,[]),(7,[])],[(.loc 2,[]),(.loc 4,[]),(.loc 6,[])])
 | 5=> ([(4,[]),(6,[]),(7,[]),(26,[]),(27,[]),(28,[])],[(.loc 4,[]),(.loc 6,[.any,.any,.own .tree])])
 | 6=> ([(4,[]),(6,[]),(7,[]),(26,[]),(27,[]),(28,[]),(29,[])],[(.loc 4,[]),(.loc 6,[])])
 | 7=> ([(4,[]),(6,[]),(7,[]),(9,[]),(26,[]),(27,[]),(28,[])],[(.loc 4,[]),(.loc 6,[]),(.loc 9,[])])
 | 8=> ([(4,[]),(6,[]),(7,[]),(9,[]),(10,[]),(26,[]),(27,[]),(28,[])],[(.loc 4,[]),(.loc 6,[]),(.loc 9,[])])
 | 9=> ([(4,[]),(6,[]),(7,[]),(9,[]),(10,[]),(26,[]),(27,[]),(28,[]),(35,[])],[(.loc 4,[]),(.loc 6,[]),(.loc 9,[])])
 | 10=> ([(4,[]),(6,[]),(7,[]),(9,[]),(10,[]),(26,[]),(27,[]),(28,[]),(35,[]),(36,[])],[(.loc 4,[]),(.loc 6,[]),(.loc 9,[])])
 | 11=> ([(4,[]),(6,[]),(7,[]),(26,[]),(27,[]),(28,[]),(97,[])],[(.loc 4,[]),(.loc 6,[])])
 | 12=> ([(4,[]),(6,[]),(7,[]),(9,[]),(10,[]),(26,[]),(27,[]),(28,[]),(35,[]),(44,[])],[(.loc 4,[]),(.loc 6,[]),(.loc 9,[])])
 | 13=> ([(4,[]),(6,[]),(7,[]),(9,[]),(10,[]),(26,[]),(27,[]),(28,[]),(49,[])],[(.loc 4,[]),(.loc 6,[]),(.loc 9,[])])
 | 14=> ([(4,[]),(6,[]),(7,[]),(9,[]),(10,[]),(26,[]),(27,[]),(28,[]),(49,[])],[(.loc 4,[]),(.loc 6,[]),(.loc 9,[])])
 | 15=> ([(4,[]),(6,[]),(7,[]),(9,[]),(10,[]),(26,[]),(27,[]),(28,[]),(49,[])],[(.loc 4,[]),(.loc 6,[]),(.loc 9,[])])
 | 16=> ([(4,[]),(6,[]),(7,[]),(9,[]),(10,[]),(26,[]),(27,[]),(28,[]),(54,[])],[(.loc 4,[]),(.loc 6,[]),(.loc 9,[])])
 | 17=> ([(4,[]),(5,[])],[(.loc 4,[])])
 | 18=> ([(4,[]),(6,[]),(7,[]),(9,[]),(10,[]),(26,[]),(27,[]),(28,[])],[(.loc 4,[]),(.loc 6,[]),(.loc 9,[])])
 | 19=> ([(4,[]),(6,[]),(7,[]),(9,[]),(11,[]),(26,[]),(27,[]),(28,[])],[(.loc 4,[]),(.loc 6,[]),(.loc 9,[])])
 | 20=> ([(4,[]),(6,[]),(7,[]),(12,[]),(13,[]),(26,[]),(27,[]),(28,[])],[(.loc 4,[]),(.loc 6,[]),(.loc 12,[])])
 | 21=> ([(4,[]),(6,[]),(7,[]),(12,[]),(26,[]),(27,[]),(28,[]),(72,[])],[(.loc 4,[]),(.loc 6,[]),(.loc 12,[])])
 | 22=> ([(4,[]),(5,[])],[(.loc 4,[])])
 | 23=> ([(4,[]),(6,[]),(7,[]),(26,[]),(27,[]),(28,[]),(97,[])],[(.loc 4,[]),(.loc 6,[])])
 | 24=> ([(4,[]),(6,[]),(7,[]),(9,[]),(11,[]),(26,[]),(27,[]),(28,[]),(80,[])],[(.loc 4,[]),(.loc 6,[]),(.loc 9,[])])
 | 25=> ([(4,[]),(6,[]),(7,[]),(26,[]),(27,[]),(28,[]),(97,[])],[(.loc 4,[]),(.loc 6,[])])
 | 26=> ([(4,[]),(6,[]),(7,[]),(9,[]),(11,[]),(26,[]),(27,[]),(28,[]),(89,[])],[(.loc 4,[]),(.loc 6,[]),(.loc 9,[])])
 | 27=> ([(4,[]),(6,[]),(7,[]),(26,[]),(27,[]),(28,[]),(97,[])],[(.loc 4,[]),(.loc 6,[])])
 | 28=> ([(4,[]),(5,[])],[(.loc 4,[])])
 | 29=> ([(4,[]),(6,[]),(7,[]),(26,[]),(27,[]),(28,[])],[(.loc 4,[]),(.loc 6,[.any,.any,.own .tree])])
 | 30=> ([(4,[]),(5,[])],[(.loc 4,[])])
 | _=> ([],[])
def Z0O(e:Edit)(t:Tree)(x28:Int)(x7 ml6_2:List Tree):LSt U:=(L2 [pL 4,pL 6,(7,.c (sU .tree x7 .unk)),(26,.c (sU .op e.ops .unk)),pI 27 (e.ops.length:Int),pI 28 x28] [(.loc 4,[ci 0,.nils,.nils]),(.loc 6,[ci t.kind,.nils,sU .tree ml6_2 (.own (.l 6 2))])])
def Z1L(e:Edit)(t:Tree)(x28:Int)(x7_a ml6_2_a:List Tree)(v97_a:V U):LSt U:=(L2 [pL 4,pL 6,(7,.c (sU .tree x7_a .unk)),(26,.c (sU .op e.ops .unk)),pI 27 (e.ops.length:Int),pI 28 x28,(97,v97_a)] [(.loc 4,[ci 0,.nils,.nils]),(.loc 6,[ci t.kind,.nils,sU .tree ml6_2_a (.own (.l 6 2))])])
def Z5j(e:Edit)(t:Tree)(x28:Int)(x7 ml6_2:List Tree)(x10_b:Int)(v49_b:V U):LSt U:=(L2 [pL 4,pL 6,(7,.c (sU .tree x7 .unk)),pL 9,pI 10 x10_b,(26,.c (sU .op e.ops .unk)),pI 27 (e.ops.length:Int),pI 28 x28,(49,v49_b)] [(.loc 4,[ci 0,.nils,.nils]),(.loc 6,[ci t.kind,.nils,sU .tree ml6_2 (.own (.l 6 2))]),(.loc 9,(enc .op (e.ops.getD x28.toNat Op.nil)))])
abbrev Z8Z(N:Nat)(p:List Nat):=AW (Z6 (Z8K N)) Try.f108 Zke p
abbrev ZfK(N:Nat)(p:List Nat):=SW (Z6 (Z8K N)) Try.f108 Zke p
theorem ZxI(N:Nat)(e:Edit)(t:Tree)(Q:QT)(h:(((t.kind !=e.list)=true->(Q .ret (L2 [pL 4,pB 5 false] [(.loc 4,[ci 0,.nils,.nils])])))/\((t.kind !=e.list)=false->(Zo (Z8Z N [1,1,1,1,0,1,0,0]) (Z0O e t 0 t.kids []) (xB 0 (ZfK N [1,1,1,1,1] Q)))))):
  Z8Z N [] (L2 [(0,.agg (enc .edit e)),(1,.agg (enc .tree t))] []) Q:=
 Eq.mpr (by kernel_rfl) h
theorem Zno(N:Nat)(e:Edit)(t:Tree)(x28:Int)(x7 ml6_2:List Tree)(N0:NT)(Q:QT)(h:∀ y_1,y_1=(e.ops.getD x28.toNat Op.nil)->let z2:=decide (x28 < (e.ops.length:Int));let z1:=xT N0 (xB 0 (ZfK N [1,1,1,1,1] Q));let z0:=xB 1 (ZfK N [1,1,1,1,0,1,0,0,1,1,1] z1);((z2=true->((0:Int)<=x28/\x28 < (e.ops.length:Int))/\(((y_1.kind==2)=true->((ml6_2.length+y_1.l.length)*56<=140737488355328)/\(Z8Z N [1,1,1,1,0,1,0,0,1,1,1] (Z1L e t x28 x7 (ml6_2++y_1.l) .junk) z1))/\((y_1.kind==2)=false->(((y_1.kind==1)=true->(Z8Z N [1,1,1,1,0,1,0,0,1,1,0,0,1,1,1] (Z5j e t x28 x7 ml6_2 (y_1.l.length:Int) .junk) z0))/\((y_1.kind==1)=false->(((y_1.kind==3)=true->(Z8Z N [1,1,1,1,0,1,0,0,1,1,0,0,1,1,1] (Z5j e t x28 x7 ml6_2 1 (.c (.bool (y_1.kind==3)))) z0))/\((y_1.kind==3)=false->Z8Z N [1,1,1,1,0,1,0,0,1,1,0,0,1,1,1] (Z5j e t x28 x7 ml6_2 y_1.n (.c (.bool (y_1.kind==3)))) z0)))))))/\(z2=false->(Q .ret (L2 [pL 4,pB 5 (((x7.length:Int):Int)==0)] [(.loc 4,[ci t.kind,.nils,sU .tree ml6_2 (.own (.l 4 2))])]))))):
  Z8Z N [1,1,1,1,0,1,0,0] (Z0O e t x28 x7 ml6_2) (xT N0 (xB 0 (ZfK N [1,1,1,1,1] Q))):=
 Eq.mpr (by kernel_rfl) (h _ rfl)
theorem Znp(N:Nat)(e:Edit)(t:Tree)(x28:Int)(x7_a ml6_2_a:List Tree)(v97_a:V U)(N0:NT)(Q:QT)(h:(InR (x28+1))/\(N0 (Z0O e t (x28+1) x7_a ml6_2_a))):
  Z8Z N [1,1,1,1,0,1,0,0,1,1,1] (Z1L e t x28 x7_a ml6_2_a v97_a) (xT N0 (xB 0 (ZfK N [1,1,1,1,1] Q))):=
 Eq.mpr (by kernel_rfl) h
theorem ZaL(N:Nat)(e:Edit)(t:Tree)(x28:Int)(x7 ml6_2:List Tree)(x10_b:Int)(v49_b:V U)(N0:NT)(Q:QT)(h:∀ y_1,y_1=(e.ops.getD x28.toNat Op.nil)->∀ y_2,y_2=(List.getD (List.take x10_b.toNat x7) (Int.toNat 0) Tree.nil)->∀ y_3,y_3=y_2->∀ y_4,y_4=(y_1.e)->∀ y_5,y_5=(eqX (Z3 y_1.l) (Z3 (List.take x10_b.toNat x7)))->∀ y_6,y_6=(Z9R y_4 y_3)->let z5:= !((doE false y_4 y_3).isSome);let z4:=decide (((x7.length:Int):Int) < x10_b);let z3:=List.drop x10_b.toNat x7;let z2:=List.take x10_b.toNat x7;let z1:=xT N0 (xB 0 (ZfK N [1,1,1,1,1] Q));let z0:=Q .ret (L2 [pL 4,pB 5 false] [(.loc 4,[ci 0,.nils,.nils])]);((z4=true->z0)/\(z4=false->(((0:Int)<=x10_b/\x10_b<=(x7.length:Int))/\((0:Int)<=x10_b/\x10_b<=(x7.length:Int))/\(((y_1.kind==0)=true->((ml6_2.length+z2.length)*56<=140737488355328)/\(Z8Z N [1,1,1,1,0,1,0,0,1,1,1] (Z1L e t x28 z3 (ml6_2++z2) .junk) z1))/\((y_1.kind==0)=false->(((y_1.kind==1)=true->(Z6b (y_1.l,z2,(),()))/\(((!y_5)=true->z0)/\((!y_5)=false->Z8Z N [1,1,1,1,0,1,0,0,1,1,1] (Z1L e t x28 z3 ml6_2 (.c (.bool (!y_5)))) z1)))/\((y_1.kind==1)=false->((0:Int)<=0/\0 < (z2.length:Int))/\(Z2O (y_4,y_3,()))/\(ZcU (y_4,y_3,()) < N)/\((z5=true->z0)/\(z5=false->((ml6_2.length+([y_6]).length)*56<=140737488355328)/\(Z8Z N [1,1,1,1,0,1,0,0,1,1,1] (Z1L e t x28 z3 (ml6_2++([y_6])) .junk) z1))))))))))):
  Z8Z N [1,1,1,1,0,1,0,0,1,1,0,0,1,1,1] (Z5j e t x28 x7 ml6_2 x10_b v49_b) (xB 1 (ZfK N [1,1,1,1,0,1,0,0,1,1,1] (xT N0 (xB 0 (ZfK N [1,1,1,1,1] Q))))):=
 Eq.mpr (by kernel_rfl) (h _ rfl _ rfl _ (Zc _) _ (Zd _) _ rfl _ (Zc _))
def Zts(N:Nat)(e:Edit)(t:Tree):Prop:=AW (Z6 (Z8K N)) Try.f108 Zke [] (Zm (Z8Y.can (e,t,())) []) (EQ Try.f108 (Z3o (e,t,())) [])
abbrev Zul:Prop:=∀ (N:Nat) (e:Edit) (t:Tree) (_:Unit),Z3s (e,t,())->Z9p (e,t,()) < N+1->Zts N e t
theorem Zrz(Z9W:CT 106 Jh)(ZmO:CT 149 Z1k)(c91:CT 91 Z3j)(Zfp:CT 151 Z0f)(Zw0:CT 150 Z4N)(c66:CT 66 Z6M)(Zq3:CT 109 Z2I)(b70:ZyC)(Zwf:Zum)(Zwe:Zul):
  CT 70 Z8a/\CT 107 Zjl/\CT 108 Zjk:=by
 have h82 : ∃ fn, Try.prog.funcs[(70 : FuncId)]? = some fn ∧ fn.body.isSome = true ∧ (fn.name == "runtime.NumGoroutine") = false := ⟨Try.f70, Try.func70, rfl, rfl⟩
 have h113 : ∃ fn, Try.prog.funcs[(107 : FuncId)]? = some fn ∧ fn.body.isSome = true ∧ (fn.name == "runtime.NumGoroutine") = false := ⟨Try.f107, Try.func107, rfl, rfl⟩
 have h114 : ∃ fn, Try.prog.funcs[(108 : FuncId)]? = some fn ∧ fn.body.isSome = true ∧ (fn.name == "runtime.NumGoroutine") = false := ⟨Try.f108, Try.func108, rfl, rfl⟩
 have key:∀ N,CT 70 (fs Z8Y (fun a=> [Z2O a,ZcU a < N]) Z46)/\CT 107 (fs Z8Y (fun a=> [Z3t a,Z9p a < N]) Z3p)/\CT 108 (fs Z8Y (fun a=> [Z3s a,Z9p a < N]) Z3o):=by
  intro N
  induction N with
  | zero=> exact ⟨Z7R h82,Z7R h113,Z7R h114⟩
  | succ N ih=>
   have kn:=Z0S (l:=Z8K N) ⟨ih.1,ih.2.1,ih.2.2,Z9W,ZmO,c91,Zfp,Zw0,c66,Zq3,trivial⟩
   exact ⟨JF (Γ:=Z6 (Z8K N)) Zn rfl kn Zvd Try.func70 rfl rfl (fun a=> by show 2<=_;decide) (fun ⟨e,t,_⟩ h=> b70 N e t () h.1 h.2.1),
    JF (Γ:=Z6 (Z8K N)) Zn rfl kn Zkf Try.func107 rfl rfl (fun a=> by show 2<=_;decide) (fun ⟨e,t,_⟩ h=> Zwf N e t () h.1 h.2.1),
    JF (Γ:=Z6 (Z8K N)) Zn rfl kn Zke Try.func108 rfl rfl (fun a=> by show 2<=_;decide) (fun ⟨e,t,_⟩ h=> Zwe N e t () h.1 h.2.1)⟩
 exact ⟨Z7S h82 fun N=> (key N).1,Z7S h113 fun N=> (key N).2.1,Z7S h114 fun N=> (key N).2.2⟩
end
noncomputable section
def ZjE(a:Edit × Tree × Unit):V U:= .tup [(true,(enc .tree (JM ((doE false a.1 a.2.1).map Z2)))),(false,[.bool ((doE false a.1 a.2.1).isSome)])]
def Z1N:Fs U:=fs Z8Y (fun a=> [Z2O a]) ZjE
def ZpH:List (FuncId × Fs U):=[(71,JZ),(70,Z8a)]
def Zvm:Zf U:=lvl [([2,3,4],[2,3,4]),([4,6,7],[4,6]),([4,6,15],[4,6]),([4,5],[4]),([4,5],[4])]
abbrev A26(p:List Nat):=AW (Z6 ZpH) Try.f26 Zvm p
theorem Zz8(e:Edit)(t:Tree)(Q:QT)(h:∀ y_1,y_1=e->∀ y_2,y_2=t->∀ y_3,y_3=(Z9R y_1 y_2)->let z0:= !((doE false y_1 y_2).isSome);((Z2O (y_1,y_2,()))/\((z0=true->(Q .ret (L2 [pL 4,pB 5 false] [(.loc 4,[ci 0,.nils,.nils])])))/\(z0=false->(Z0A (y_3,()))/\(Q .ret (L2 [pL 4,pB 5 true] [(.loc 4,(enc .tree (Z2 y_3)))])))))):
  A26 [] (L2 [(0,.agg (enc .edit e)),(1,.agg (enc .tree t))] []) Q:=
 Eq.mpr (by kernel_rfl) (h _ (Zd _) _ (Zc _) _ (Zc _))
def ZwQ(e:Edit)(t:Tree):Prop:=AW (Z6 ZpH) Try.f26 Zvm [] (Zm (Z8Y.can (e,t,())) []) (EQ Try.f26 (ZjE (e,t,())) [])
theorem Zv9(c71:CT 71 JZ)(c70:CT 70 Z8a)(hb:∀ (e:Edit) (t:Tree) (_:Unit),Z2O (e,t,())->ZwQ e t):CT 26 Z1N:=
 Z4 (l:=[(71,JZ),(70,Z8a)]) Zn rfl (⟨c71,c70,trivial⟩) Zvm Try.func26 rfl rfl 2 (fun _=> rfl) (by decide) (fun ⟨e,t,_⟩=> hb e t ())
end
theorem Zq3:Contract Try.prog cfg 109 Z2I:=by
 refine ZoM ?_
 intro l _ hp
 simp only [ZbS] at hp
 refine Zuq _ _ ⟨fun h=> ?_,fun _=> ⟨by simp only [Qg];omega,?_⟩⟩
 ·subst h
  simp only [Z6Z]
  (repeat' (first | exact trivial | exact rfl | apply And.intro))
 ·simp only [Z6Z]
  (repeat' (first | exact trivial | exact rfl | apply And.intro))
theorem Zw0:Contract Try.prog cfg 150 Z4N:=by
 refine Zs0 ?_
 intro l _ hp
 simp only [ZbO] at hp
 refine Zxw _ _ ⟨fun h=> ?_,fun _=> ⟨by simp only [Qg];omega,?_⟩⟩
 ·subst h
  simp only [Zam]
  (repeat' (first | exact trivial | exact rfl | apply And.intro))
 ·simp only [Zam]
  (repeat' (first | exact trivial | exact rfl | apply And.intro))
theorem Zde{α:Type}(z:α){l:List α}{i:Nat}(h:i < l.length)(x:α):Yb z l i x=l.set i x:=by
 simp only [Yb];rw [show i+1 - l.length=0 by omega];simp
theorem Z96{α:Type}(z:α){l:List α}{i:Nat}(h:l.length<=i)(x:α):Yb z (l++[z]) i x=Yb z l i x:=by
 simp only [Yb,Q9,XK,Qa]
 rw [show i+1 - l.length=(i+1 - (l.length+1))+1 by omega,List.replicate_succ]
 try rfl
theorem ZoJ(t:Tree):t.words.length+Z7 t.kids+1=Zi t:=by obtain ⟨k,w,ks⟩:=t;simp only [Zi,Tree.words_mk,Tree.kids_mk];omega
theorem ZnN{t:Tree}(h:rng t):InR t.kind/\(∀ x∈t.words,isW x)/\ZU t.kids:=by obtain ⟨k,w,ks⟩:=t;exact h
theorem Zjq{ks:List Tree}(h:ZU ks)(i:Nat):rng (ks.getD i Tree.nil):=by
 by_cases hi:i < ks.length
 ·exact YY h (Zl hi _)
 ·rw [Qo,Qu (by omega)]
  refine ⟨by decide,by simp [Tree.nil],trivial⟩
theorem ZgT(ks:List Tree)(i:Nat):Zi (ks.getD i Tree.nil)<=Z7 ks+1:=by
 by_cases hi:i < ks.length
 ·have:=JJ (Zl hi Tree.nil);omega
 ·rw [Qo,Qu (by omega)]
  simp [Tree.nil,Zi,Z7]
theorem Zms(t:Tree){i:Int}(h:0<=i):JA t i=t.kids.getD i.toNat Tree.nil:=by unfold JA;rw [if_neg (by omega)]
theorem ZhH(t:Tree){i:Int}(h:0<=i):Jm t i=t.words.getD i.toNat 0:=by unfold Jm;rw [if_neg (by omega)]
theorem ZqD{l:List Int}(h:∀ x∈l,isW x)(i:Nat):isW (l.getD i 0):=by
 by_cases hi:i < l.length
 ·exact h _ (Zl hi _)
 ·rw [Qo,Qu (by omega)];show 0<=(0:Int)/\(0:Int) < _;omega
theorem b70:ZyC:=by
 intro N e t _ hp hN
 simp only [Z2O,ZcU] at hp hN
 obtain ⟨⟨p1,p2,d,p3⟩,p4,p5⟩:=hp
 have h1:=Je e
 have h2:=Z6Q p2
 have hd:=Z0t false e t
 rw [Yt] at hd
 refine ZyQ _ _ _ _ ?_
 rintro y1 hy1 y2 hy2 y3 hy3
 subst hy1 hy2 hy3
 (simp only [vcT,vcS])
 refine ⟨fun hk=> ?_,fun hk=> ⟨fun hk1=> ⟨by simp only [Z18];omega,?_⟩,fun hk1=> ⟨fun hk2=> ⟨by simp only [Z3t];exact ⟨hk2,⟨p1,p2,d,p3⟩,p4,p5⟩,by simp only [Z9p];omega,?_⟩,fun hk2=> ⟨fun hk3=> ⟨by simp only [Z3s];exact ⟨hk3,⟨p1,p2,d,p3⟩,p4,p5⟩,by simp only [Z9p];omega,?_⟩,fun hk3=> ?_⟩⟩⟩⟩
 ·rw [if_pos hk] at hd
  simp only [Z46,Z9R,if_pos hk,hd]
  (repeat' (first | exact trivial | exact rfl | apply And.intro))
 ·rw [if_neg hk,if_pos hk1] at hd
  simp only [Z46,Z9R,if_neg hk,if_pos hk1,hd]
  cases ZT (Z2 y1.old) (Z2 y2) <;> (repeat' (first | exact trivial | exact rfl | apply And.intro))
 ·rw [if_neg hk,if_neg hk1,if_pos hk2] at hd
  simp only [Z46,Z9R,if_neg hk,if_neg hk1,if_pos hk2,hd]
  (repeat' (first | exact trivial | exact rfl | apply And.intro))
 ·rw [if_neg hk,if_neg hk1,if_neg hk2,if_pos hk3] at hd
  simp only [Z46,Z9R,if_neg hk,if_neg hk1,if_neg hk2,if_pos hk3,hd]
  have e2:(if y2.kind=y1.list then (Z2B (ZG false y1.ops y2.kids [])).map fun b=> Tree.mk y1.list [] b else none).isSome=(Z2B (Z5D false y1 y2)).isSome:=by
   unfold Z5D
   split
   ·cases Z2B (ZG false y1.ops y2.kids []) <;> rfl
   ·try rfl
  rw [e2]
  (repeat' (first | exact trivial | exact rfl | apply And.intro))
 ·rw [if_neg hk,if_neg hk1,if_neg hk2,if_neg hk3] at hd
  simp only [Z46,Z9R,if_neg hk,if_neg hk1,if_neg hk2,if_neg hk3,hd]
  (repeat' (first | exact trivial | exact rfl | apply And.intro))
theorem Zwf:Zum:=by
 intro N e t _ hp hN
 simp only [Z3t,Z9p] at hp hN
 obtain ⟨k2,⟨p1,p2,d,p3⟩,p4,p5⟩:=hp
 have h1:=Je e
 have h2:=J8 e.kids
 have h3:=ZoJ t
 have h4:=Zv t.kids
 have r2:=Z6Q p2
 have rt:=ZnN p5
 have ri:=Zk p3
 refine ZxJ _ _ _ _ ?_
 (simp only [vcT,vcS])
 have no:Z9P false e t=none->YN cfg Try.f107.ntmps Try.f107.results.toList (Z3p (e,t,())) [] .ret (⟨[(4,.ptr (.loc 4) 0),(5,.c (.bool false))],[((.loc 4),[.int .i64 0,.nils,.nils])],[]⟩:LSt U):=by
  intro hs
  simp only [Z3p,hs]
  (repeat' (first | exact trivial | exact rfl | apply And.intro))
 refine ⟨fun hk=> no (by unfold Z9P;rw [if_neg hk]),fun hk=> ?_⟩
 have hk:t.kind=1:=by simpa using hk
 refine ⟨by simp only [ZbS];omega,by simp only [ZbO];omega,?_⟩
 refine Zb (ι:=Int × List Int) (fun s=> Z5n e t s.1 s.2) (fun s=> 0<=s.1/\s.1<=e.words.length/\wsD t.words (e.words.drop s.1.toNat) s.2=wsD t.words e.words t.words/\s.2.length<=t.words.length+65536) (fun s=> ((e.words.length:Int) - s.1).toNat) (0,t.words) rfl ⟨by simp,by simp,by simp,by simp⟩ ?_
 rintro ⟨i,out⟩ ⟨f1,f2,f3,f4⟩
 dsimp only at f1 f2 f3 f4
 refine Znt _ _ _ _ _ _ _ ?_
 rintro y1 hy1 y2 hy2
 subst hy1
 (simp only [vcT,vcS])
 refine ⟨fun hi=> ?_,fun hi=> ?_⟩
 ·have hmem:=Zl (l:=e.words) (i:=i.toNat) (by omega) (WEdit.mk 0 0 0 0)
  rw [J5 f1 hi (WEdit.mk 0 0 0 0),<-hy2] at f3
  rw [<-hy2] at hmem
  have hw:=Z07 ri.words y2 hmem
  obtain ⟨g1,g2,g3,g4⟩:=r2.2.2.2.1 y2 hmem
  have hat:Jm y1 y2.at_=y1.words.getD y2.at_.toNat 0:=ZhH y1 (by omega)
  have hwi:=ZqD rt.2.1 y2.at_.toNat
  rw [wsD] at f3
  rw [hat]
  unfold isW at g3 g4 hwi
  refine ⟨⟨f1,hi⟩,by simp only [Z8n],by simp only [ZeV];omega,fun hne=> no ?_,fun heq=> ?_⟩
  ·rw [if_neg hne] at f3
   unfold Z9P
   rw [if_pos hk,<-f3]
   try rfl
  ·have heq:mix 0 (y1.words.getD y2.at_.toNat 0) y2.mask=y2.old:=by simpa using heq
   rw [if_pos heq] at f3
   refine Zb (ι:=List Int) (fun s=> Z5m e y1 i s) (fun s=> (∀ v,Yb 0 s y2.at_.toNat v=Yb 0 out y2.at_.toNat v)/\s.length<=y1.words.length+65536) (fun s=> (y2.at_+1 - s.length).toNat) out rfl ⟨fun v=> rfl,f4⟩ ?_
   rintro s ⟨q1,q2⟩
   refine Zns _ _ _ _ _ _ _ _ ?_
   (simp only [Tree.eta,Edit.eta,Tree.kind_mk,Tree.words_mk,Tree.kids_mk])
   rw [<-hy2,hat]
   (simp only [vcT,vcS])
   refine ⟨fun hl=> ⟨by simp;omega,s++[0],rfl,⟨fun v=> ?_,by simp;omega⟩,by simp;omega⟩,fun hl=> ?_⟩
   ·rw [Z96 0 (by omega),q1]
   ·have hl:y2.at_ < s.length:=by omega
    refine ⟨by simp only [ZeV];omega,by omega,by omega,by unfold InR;omega,(i+1,s.set y2.at_.toNat (mix (y1.words.getD y2.at_.toNat 0) y2.new y2.mask)),rfl,⟨by dsimp only;omega,by dsimp only;omega,?_,by simp only [List.length_set];omega⟩,by dsimp only;omega⟩
    dsimp only
    rw [<-f3,<-Zde 0 (by omega),q1]
 ·rw [Qn (by omega),wsD] at f3
  refine Zb (ι:=Int × List Tree) (fun s=> Z5l e y1 out s.1 s.2) (fun s=> 0<=s.1/\s.1<=e.kids.length/\Jl false y1.kids (e.kids.drop s.1.toNat) s.2=Jl false y1.kids e.kids y1.kids/\s.2.length<=y1.kids.length+65536) (fun s=> ((e.kids.length:Int) - s.1).toNat) (0,y1.kids) rfl ⟨by simp,by simp,by simp,by simp⟩ ?_
  rintro ⟨j,ks⟩ ⟨e1,e2,e3,e4⟩
  dsimp only at e1 e2 e3 e4
  refine Znr _ _ _ _ _ _ _ _ ?_
  rintro y1 hy1 y2 hy2 y3 hy3 y4 hy4
  subst hy1
  (simp only [vcT,vcS])
  refine ⟨fun hj=> ?_,fun hj=> ?_⟩
  ·have hmem:=Zl (l:=e.kids) (i:=j.toNat) (by omega) (KidOf.mk 0 Edit.nil)
   rw [J5 e1 hj (KidOf.mk 0 Edit.nil),<-hy2] at e3
   rw [<-hy2] at hmem
   have hk2:=Zs ri.kids y2 hmem
   have hm:=Z0M hmem
   have hct:=ZcG hmem
   have hca:=Z4E e
   have hr:=(Ys r2.2.2.2.2.2.1 hmem).2
   have hat:JA y1 y2.at_=y1.kids.getD y2.at_.toNat Tree.nil:=Zms y1 (by omega)
   rw [hat] at hy4
   have hm4:=ZgT y1.kids y2.at_.toNat
   have hr4:=Zjq rt.2.2 y2.at_.toNat
   rw [Jl,ZcA,<-hy4,<-hy3] at e3
   rw [<-hy4] at hm4 hr4
   rw [<-hy3] at hm hr hk2 hct
   refine ⟨⟨e1,hj⟩,by simp only [Z8n],by simp only [Z2O];exact ⟨⟨by omega,hr,_,hk2.2⟩,by omega,hr4⟩,by simp only [ZcU];omega,fun hne=> no ?_,fun heq=> ?_⟩
   ·have hne:doE false y3 y4=none:=by simpa using hne
    rw [hne] at e3
    unfold Z9P
    rw [if_pos hk,<-f3,<-e3]
    try rfl
   ·obtain ⟨u,hu⟩:=X3.1 heq
    rw [hu,Qm] at e3
    refine Zb (ι:=List Tree) (fun s=> Z5k e y1 out j s) (fun s=> (∀ v,Yb Tree.nil s y2.at_.toNat v=Yb Tree.nil ks y2.at_.toNat v)/\s.length<=y1.kids.length+65536) (fun s=> (y2.at_+1 - s.length).toNat) ks rfl ⟨fun v=> rfl,e4⟩ ?_
    rintro s ⟨q1,q2⟩
    refine Znq _ _ _ _ _ _ _ _ _ ?_
    rintro z1 hz1 z2 hz2 z3 hz3 z4 hz4 z5 hz5
    rw [<-hy2] at hz2
    subst hz1 hz2
    rw [<-hy3] at hz3
    subst hz3
    rw [hat,<-hy4] at hz4
    subst hz4
    rw [Z8t hu] at hz5
    subst hz5
    (simp only [vcT,vcS])
    refine ⟨fun hl=> ⟨by simp;omega,s++[Tree.nil],rfl,⟨fun v=> ?_,by simp;omega⟩,by simp;omega⟩,fun hl=> ?_⟩
    ·rw [Z96 Tree.nil (by omega),q1]
    ·have hl:z2.at_ < s.length:=by omega
     refine ⟨by omega,by omega,by unfold InR;omega,(j+1,s.set z2.at_.toNat z5),rfl,⟨by dsimp only;omega,by dsimp only;omega,?_,by simp only [List.length_set];omega⟩,by dsimp only;omega⟩
     dsimp only
     rw [<-e3,<-Zde Tree.nil (by omega),q1]
  ·rw [Qn (by omega),Jl] at e3
   have hs:Z9P false e y1=some (.mk 1 out ks):=by
    unfold Z9P
    rw [if_pos hk,<-f3,<-e3]
    try rfl
   simp only [Z3p,hs]
   (repeat' (first | exact trivial | exact rfl | apply And.intro))
theorem ZmG(r:Bool)(o:Op)(s:List Op)(rest out:List Tree):ZG r (o ::s) rest out=(Z3E r o rest out).bind fun x=> ZG r s x.2 x.1:=by rw [ZG]
theorem Z1z{ks:List Tree}(h:ZU ks)(n:Nat):ZU (ks.drop n):=by
 induction n generalizing ks with
 | zero=> exact h
 | succ n ih=> cases ks with
  | nil=> exact h
  | cons a r=> exact ih h.2
theorem Zwe:Zul:=by
 intro N e t _ hp hN
 simp only [Z3s,Z9p] at hp hN
 obtain ⟨k3,⟨p1,p2,d,p3⟩,p4,p5⟩:=hp
 have h1:=Je e
 have h2:=Yw e.ops
 have h3:=ZoJ t
 have h4:=Zv t.kids
 have r2:=Z6Q p2
 have rt:=ZnN p5
 have ri:=Zk p3
 refine ZxI _ _ _ _ ?_
 (simp only [vcT,vcS])
 have no:Z5D false e t=none->YN cfg Try.f108.ntmps Try.f108.results.toList (Z3o (e,t,())) [] .ret (⟨[(4,.ptr (.loc 4) 0),(5,.c (.bool false))],[((.loc 4),[.int .i64 0,.nils,.nils])],[]⟩:LSt U):=by
  intro hs
  simp only [Z3o,hs]
  (repeat' (first | exact trivial | exact rfl | apply And.intro))
 refine ⟨fun hk=> no (by unfold Z5D;rw [if_neg hk]),fun hk=> ?_⟩
 have hk:t.kind=e.list:=by simpa using hk
 have hl0:Z5D false e t=ZG false e.ops t.kids []:=by unfold Z5D;rw [if_pos hk]
 refine Zb (ι:=Int × List Tree × List Tree) (fun s=> Z0O e t s.1 s.2.2 s.2.1)
  (fun s=> 0<=s.1/\s.1<=e.ops.length/\ZG false (e.ops.drop s.1.toNat) s.2.2 s.2.1=Z5D false e t/\s.2.1.length+s.2.2.length+Zg (e.ops.drop s.1.toNat)<=t.kids.length+Zg e.ops/\Z7 s.2.2<=Z7 t.kids/\ZU s.2.2)
  (fun s=> ((e.ops.length:Int) - s.1).toNat) (0,[],t.kids) rfl ⟨by simp,by simp,by simp [hl0],by simp,by simp,rt.2.2⟩ ?_
 rintro ⟨i,out,rest⟩ ⟨f1,f2,f3,f4,f5,f6⟩
 dsimp only at f1 f2 f3 f4 f5 f6
 refine Zno _ _ _ _ _ _ _ _ ?_
 rintro y1 hy1
 (simp only [vcT,vcS])
 refine ⟨fun hi=> ?_,fun hi=> ?_⟩
 ·have hmem:=Zl (l:=e.ops) (i:=i.toNat) (by omega) Op.nil
  rw [J5 f1 hi Op.nil,<-hy1] at f3 f4
  rw [<-hy1] at hmem
  have hr:=Go.AM.rightOs_mem ri.ops y1 hmem
  have hm:=YS hmem
  have hct:=ZcF hmem
  have hca:=Z4E e
  have hme:=ZV y1
  have hro:=Z1n (Z1y r2.2.2.2.2.2.2 hmem)
  have hml:=Zv y1.l
  simp only [Zg] at f4
  rw [ZmG,Yi] at f3
  have go:∀ (x:List Tree) (m:List Tree) (v:V U) N0 Q',ZG false (e.ops.drop (i+1).toNat) x m=Z5D false e t->m.length+x.length+Zg (e.ops.drop (i+1).toNat)<=t.kids.length+Zg e.ops->Z7 x<=Z7 t.kids->ZU x->
    (∀ s2,s2=Z0O e t (i+1) x m->N0 s2)->Z8Z N [1,1,1,1,0,1,0,0,1,1,1] (Z1L e t i x m v) (AExit.then N0 (AExit.inBlock 0 (ZfK N [1,1,1,1,1] Q'))):=by
   intro x m v N0 Q' a1 a2 a3 a4 a5
   exact Znp _ _ _ _ _ _ _ _ _ ⟨by unfold InR;omega,a5 _ rfl⟩
  have fin:∀ (x m:List Tree),ZG false (e.ops.drop (i+1).toNat) x m=Z5D false e t->m.length+x.length+Zg (e.ops.drop (i+1).toNat)<=t.kids.length+Zg e.ops->Z7 x<=Z7 t.kids->ZU x->∀ s2,s2=Z0O e t (i+1) x m->
    ∃ j:Int × List Tree × List Tree,s2=Z0O e t j.1 j.2.2 j.2.1/\(0<=j.1/\j.1<=e.ops.length/\ZG false (e.ops.drop j.1.toNat) j.2.2 j.2.1=Z5D false e t/\j.2.1.length+j.2.2.length+Zg (e.ops.drop j.1.toNat)<=t.kids.length+Zg e.ops/\Z7 j.2.2<=Z7 t.kids/\ZU j.2.2)/\((e.ops.length:Int) - j.1).toNat < ((e.ops.length:Int) - i).toNat:=by
   rintro x m a1 a2 a3 a4 _ rfl
   exact ⟨(i+1,m,x),rfl,⟨by dsimp only;omega,by dsimp only;omega,a1,a2,a3,a4⟩,by dsimp only;omega⟩
  have r1:=ZN hr
  have ht:∀ n:Nat,(rest.take n).length<=rest.length/\(rest.take n).length+(rest.drop n).length=rest.length:=by
   intro n
   simp only [Qp,X6];omega
  refine ⟨⟨f1,hi⟩,fun hk2=> ⟨by omega,?_⟩,fun hk2=> ⟨fun hk1=> ?_,fun hk1=> ⟨fun hk3=> ?_,fun hk3=> ?_⟩⟩⟩
  ·rw [if_neg (by omega),if_neg (by omega),if_pos hk2,Qm] at f3
   exact go _ _ _ _ _ f3 (by simp only [Q9];omega) f5 f6 (fin _ _ f3 (by simp only [Q9];omega) f5 f6)
  ·refine ZaL _ _ _ _ _ _ _ _ _ _ ?_
   rintro z1 hz1 z2 hz2 z3 hz3 z4 hz4 z5 hz5 z6 hz6
   rw [<-hy1] at hz1
   subst hz1
   rw [if_neg (by omega),if_pos hk1] at f3
   (simp only [vcT,vcS])
   rw [Xa] at hz5
   rw [Xa]
   refine ⟨fun hs=> no ?_,fun hs=> ⟨by omega,by omega,fun h=> by omega,fun _=> ⟨fun _=> ⟨?_,fun hq=> no ?_,fun hq=> ?_⟩,fun h=> absurd hk1 h⟩⟩⟩
   ·have:Jj z1.l rest=false:=by unfold Jj;rw [decide_eq_false (by omega)];try rfl
    rw [this,if_neg (by simp)] at f3
    exact f3.symm
   ·have:=Zcf z1.l.length rest
    simp only [Z6b];omega
   ·have:Jj z1.l rest=false:=by unfold Jj;rw [<-hz5,hq];simp
    rw [this,if_neg (by simp)] at f3
    exact f3.symm
   ·have:Jj z1.l rest=true:=by unfold Jj;rw [<-hz5,hq,decide_eq_true (by omega)];try rfl
    rw [this,if_pos rfl,Qm] at f3
    have hd:=Z22 z1.l.length rest
    have ht1:=ht z1.l.length
    exact go _ _ _ _ _ f3 (by omega) (by omega) (Z1z f6 _) (fin _ _ f3 (by omega) (by omega) (Z1z f6 _))
  ·refine ZaL _ _ _ _ _ _ _ _ _ _ ?_
   rintro z1 hz1 z2 hz2 z3 hz3 z4 hz4 z5 hz5 z6 hz6
   rw [<-hy1] at hz1
   subst hz1
   rw [if_neg (by omega),if_neg hk1,if_neg hk2] at f3
   (simp only [vcT,vcS])
   rw [show Int.toNat 1=1 from rfl]
   refine ⟨fun hs=> no ?_,fun hs=> ⟨by omega,by omega,fun h=> by omega,fun _=> ⟨fun h=> absurd h hk1,fun _=> ?_⟩⟩⟩
   ·rw [if_pos (by omega)] at f3
    exact f3.symm
   ·have hz:z3=rest.getD 0 Tree.nil:=by
     rw [hz3,hz2]
     cases rest with
     | nil=> rfl
     | cons a r=> rfl
    rw [if_neg (by omega),<-hz,<-hz4] at f3
    have hm3:=ZgT rest 0
    have hr3:=Zjq f6 0
    rw [<-hz] at hm3 hr3
    have hre:=YP hr hk3
    rw [<-hz4] at hre hme hro hct
    refine ⟨?_,by simp only [Z2O];exact ⟨⟨by omega,hro.2.2.2,_,hre⟩,by omega,hr3⟩,by simp only [ZcU];omega,fun hne=> no ?_,fun heq=> ?_⟩
    ·simp only [Qp];omega
    ·have hne:doE false z4 z3=none:=by simpa using hne
     rw [hne] at f3
     exact f3.symm
    ·obtain ⟨u,hu⟩:=X3.1 heq
     rw [Z8t hu] at hz6
     subst hz6
     rw [hu,Qc,Qm] at f3
     have hd:=Z22 1 rest
     have ht1:=ht 1
     have ht2:(rest.take 1).length=1:=by simp only [Qp];omega
     refine ⟨by simp only [XK];omega,?_⟩
     exact go _ _ _ _ _ f3 (by simp only [Q9,XK];omega) (by omega) (Z1z f6 _) (fin _ _ f3 (by simp only [Q9,XK];omega) (by omega) (Z1z f6 _))
  ·have hk0:y1.kind=0:=by cases r1 <;> first | rfl | (exfalso;simp at hk1 hk2 hk3)
   refine ZaL _ _ _ _ _ _ _ _ _ _ ?_
   rintro z1 hz1 z2 hz2 z3 hz3 z4 hz4 z5 hz5 z6 hz6
   rw [<-hy1] at hz1
   subst hz1
   rw [if_pos hk0] at f3
   have hn:1<=z1.n/\z1.n<=1048576:=by cases r1 <;> first | (constructor <;> assumption) | (exfalso;simp at hk1 hk2 hk3 hk0)
   (simp only [vcT,vcS])
   refine ⟨fun hs=> no ?_,fun hs=> ⟨by omega,by omega,fun _=> ⟨?_,?_⟩,fun h=> absurd hk0 h⟩⟩
   ·rw [if_neg (by omega)] at f3
    exact f3.symm
   ·have:=(ht z1.n.toNat).1
    omega
   ·rw [if_pos (by omega),Qm] at f3
    have hd:=Z22 z1.n.toNat rest
    have ht1:=ht z1.n.toNat
    exact go _ _ _ _ _ f3 (by simp only [Q9];omega) (by omega) (Z1z f6 _) (fin _ _ f3 (by simp only [Q9];omega) (by omega) (Z1z f6 _))
 ·rw [Qn (by omega),ZG] at f3
  simp only [Z3o,<-f3,Zpj,Z2B,Qm,hk]
  by_cases hr:rest.length=0
  ·rw [if_pos hr,hr]
   (repeat' (first | exact trivial | exact rfl | apply And.intro))
  ·rw [if_neg hr,show ((rest.length:Int)==0)=false by rw [beq_eq_false_iff_ne];omega]
   (repeat' (first | exact trivial | exact rfl | apply And.intro))
theorem Zze:Contract Try.prog cfg 70 Z8a/\Contract Try.prog cfg 107 Zjl/\Contract Try.prog cfg 108 Zjk:=Zrz Z9W ZmO c91 Zfp Zw0 c66 Zq3 b70 Zwf Zwe
theorem c70:Contract Try.prog cfg 70 Z8a:=Zze.1
theorem Zhq{r:Bool}{e:Edit}{t u:Tree}(hr:∃ d,Z5 e d=true)(ht:Zi t+ctE e<=200000000000)(h:doE r e t=some u):Zi u<=1000000000000:=by
 obtain ⟨d,hr⟩:=hr
 have:=Zrx r e d t u hr h
 omega
theorem c26:Contract Try.prog cfg 26 Z1N:=by
 refine Zv9 c71 c70 ?_
 intro e t _ hp
 simp only [Z2O] at hp
 refine Zz8 _ _ _ ?_
 rintro y1 hy1 y2 hy2 y3 hy3
 subst hy1 hy2
 (simp only [vcT,vcS])
 refine ⟨by simp only [Z2O];exact hp,fun hn=> ?_,fun hs=> ?_⟩
 ·have hn:doE false y1 y2=none:=by simpa using hn
  simp only [ZjE,hn]
  (repeat' (first | exact trivial | exact rfl | apply And.intro))
 ·obtain ⟨u,hu⟩:=X3.1 hs
  rw [Z8t hu] at hy3
  subst hy3
  have:=Zhq hp.1.2.2 hp.2.1 hu
  refine ⟨by simp only [Z0A];exact this,?_⟩
  simp only [ZjE,hu]
  (repeat' (first | exact trivial | exact rfl | apply And.intro))
noncomputable section
def ZaD:ArgM ((List Op × List Tree × List Tree × Unit) × Unit):=(.obj 0 (.cons (cWr .op 0 0) (.cons (Z3a .tree 0 1) (.cons (Z3a .tree 0 2) .nil))) .nil)
def Z17(a:(List Op × List Tree × List Tree × Unit) × Unit):Prop:=(a.1.1).length<=200000000000/\(a.1.2.1).length<=200000000000/\(a.1.2.2.1).length<=200000000000
def Z8j(a:(List Op × List Tree × List Tree × Unit) × Unit):V U:= .tup []
def Z4W(a:(List Op × List Tree × List Tree × Unit) × Unit):List (List (C U)):=[[.mref (.x 0 0),sU .tree ((Z0 (Wst.mk a.1.1 a.1.2.1 a.1.2.2.1)).gone) (.own (.x 0 1)),sU .tree ((Z0 (Wst.mk a.1.1 a.1.2.1 a.1.2.2.1)).brought) (.own (.x 0 2))]]
def Z4X(a:(List Op × List Tree × List Tree × Unit) × Unit):List (Tok × LC U):=[(.x 0 0,LC.mk (U:=U) .op ((Z0 (Wst.mk a.1.1 a.1.2.1 a.1.2.2.1)).out) 0)]
def Z1l:Fs U:=ZcW ZaD (fun a=> [Z17 a]) Z8j Z4W Z4X
def ZaF:ArgM ((List Op × List Tree × List Tree × Unit) × Int × Unit):=(.obj 0 (.cons (cWr .op 0 0) (.cons (Z3a .tree 0 1) (.cons (Z3a .tree 0 2) .nil))) (.cons (JR .i64) .nil))
def Z3r(a:(List Op × List Tree × List Tree × Unit) × Int × Unit):Prop:=(a.1.1).length<=200000000000/\(a.1.2.1).length<=200000000000/\(a.1.2.2.1).length<=200000000000/\(∀ o∈a.1.1,0<=o.n/\o.n<=100000000000000000)/\0<=a.2.1/\a.2.1<=1048576
def Zi0(a:(List Op × List Tree × List Tree × Unit) × Int × Unit):V U:= .tup []
def Zeq(a:(List Op × List Tree × List Tree × Unit) × Int × Unit):List (List (C U)):=[[.mref (.x 0 0),sU .tree ((ZH (Wst.mk a.1.1 a.1.2.1 a.1.2.2.1) a.2.1).gone) (.own (.x 0 1)),sU .tree ((ZH (Wst.mk a.1.1 a.1.2.1 a.1.2.2.1) a.2.1).brought) (.own (.x 0 2))]]
def Zer(a:(List Op × List Tree × List Tree × Unit) × Int × Unit):List (Tok × LC U):=[(.x 0 0,LC.mk (U:=U) .op ((ZH (Wst.mk a.1.1 a.1.2.1 a.1.2.2.1) a.2.1).out) 0)]
def Z4O:Fs U:=ZcW ZaF (fun a=> [Z3r a]) Zi0 Zeq Zer
def ZaE:ArgM ((List Op × List Tree × List Tree × Unit) × List Tree × Unit):=(.objAt 0 1 (.cons (cWr .op 0 0) (.cons (Z3a .tree 0 1) (.cons (Z3a .tree 0 2) .nil))) (.cons (aSl .tree) .nil))
def Z8o(a:(List Op × List Tree × List Tree × Unit) × List Tree × Unit):Prop:=(a.1.1).length<=200000000000/\(a.1.2.1).length<=200000000000/\(a.1.2.2.1).length<=200000000000/\Z7 a.2.1<=20000000000
def Zo0(a:(List Op × List Tree × List Tree × Unit) × List Tree × Unit):V U:= .tup []
def Zjy(a:(List Op × List Tree × List Tree × Unit) × List Tree × Unit):List (List (C U)):=[[.mref (.x 0 0),sU .tree ((Wst.mk a.1.1 (a.1.2.1++Z3 a.2.1) a.1.2.2.1).gone) (.own (.x 0 1)),sU .tree ((Wst.mk a.1.1 (a.1.2.1++Z3 a.2.1) a.1.2.2.1).brought) (.own (.x 0 2))]]
def Zjz(a:(List Op × List Tree × List Tree × Unit) × List Tree × Unit):List (Tok × LC U):=[(.x 0 0,LC.mk (U:=U) .op ((Wst.mk a.1.1 (a.1.2.1++Z3 a.2.1) a.1.2.2.1).out) 0)]
def Zed:Fs U:=ZcW ZaE (fun a=> [Z8o a]) Zo0 Zjy Zjz
def Z85:ArgM ((List Op × List Tree × List Tree × Unit) × List Tree × Unit):=(.objAt 0 2 (.cons (cWr .op 0 0) (.cons (Z3a .tree 0 1) (.cons (Z3a .tree 0 2) .nil))) (.cons (aSl .tree) .nil))
def Zgh(a:(List Op × List Tree × List Tree × Unit) × List Tree × Unit):List (List (C U)):=[[.mref (.x 0 0),sU .tree ((Wst.mk a.1.1 a.1.2.1 (a.1.2.2.1++Z3 a.2.1)).gone) (.own (.x 0 1)),sU .tree ((Wst.mk a.1.1 a.1.2.1 (a.1.2.2.1++Z3 a.2.1)).brought) (.own (.x 0 2))]]
def Zgi(a:(List Op × List Tree × List Tree × Unit) × List Tree × Unit):List (Tok × LC U):=[(.x 0 0,LC.mk (U:=U) .op ((Wst.mk a.1.1 a.1.2.1 (a.1.2.2.1++Z3 a.2.1)).out) 0)]
def Zbh:Fs U:=ZcW Z85 (fun a=> [Z8o a]) Zo0 Zgh Zgi
def Zhy:ArgL (Int × Edit × Unit):=(.cons (JR .i64) (.cons (aEl .edit) .nil))
def Z4Y(a:Int × Edit × Unit):Prop:=a.2.1.words.length<=20000000000/\a.2.1.kids.length<=20000000000
def ZjG(a:Int × Edit × Unit):V U:= .c (.bool (Z5R a.1 a.2.1))
def Z2H:Fs U:=fs Zhy (fun a=> [Z4Y a]) ZjG
def Zpc:Zf U:=fun i=> match i with
 | 0=> ([(0,[]),(7,[])],[(.x 0,[.wr .op])])
 | 1=> ([(0,[])],[(.x 0,[.wr .op])])
 | 2=> ([(0,[]),(28,[])],[(.x 0,[.wr .op])])
 | 3=> ([(0,[])],[(.x 0,[.wr .op])])
 | 4=> ([],[(.x 0,[.wr .op])])
 | _=> ([],[])
abbrev Zyp(wo:List Op)(wg wb:List Tree)(Q:QT):=AW (Z6 Ziz) Try.f129 Zpc [] (⟨[(0,.ptr (.x 0) 0)],[(.x 0,[.mref (.x 0 0),sU .tree wg (.own (.x 0 1)),sU .tree wb (.own (.x 0 2))])],[(.x 0 0,LC.mk (U:=U) .op wo 0)]⟩:LSt U) Q
theorem Zxz(wo:List Op)(wg wb:List Tree)(Q:QT)(h:∀ y_1,y_1=(Edit.mk 0 (Tree.mk 0 [] []) (Tree.mk 0 [] []) [] [] 0 [])->∀ y_2,y_2=(List.set (wo++([(OpOf.mk 0 0 [] y_1:Op)])) (Int.toNat (wo.length:Int)) (OpOf.mk 1 0 wg y_1:Op))->((decide ((0:Int) < (wg.length:Int)))=true->((wo.length+([(OpOf.mk 0 0 [] y_1:Op)]).length)*240<=140737488355328)/\((0:Int)<=(wo.length:Int)/\(wo.length:Int) < ((wo++([(OpOf.mk 0 0 [] y_1:Op)])).length:Int))/\((0:Nat)<=(Int.toNat (wo.length:Int)))/\(((decide ((0:Int) < (wb.length:Int)))=true->((y_2.length+([(OpOf.mk 0 0 [] y_1:Op)]).length)*240<=140737488355328)/\((0:Int)<=(y_2.length:Int)/\(y_2.length:Int) < ((y_2++([(OpOf.mk 0 0 [] y_1:Op)])).length:Int))/\((0:Nat)<=(Int.toNat (y_2.length:Int)))/\(Q .normal (⟨[],[(.x 0,[.mref (.x 0 0),.nils,.nils])],[(.x 0 0,LC.mk (U:=U) .op (List.set (y_2++([(OpOf.mk 0 0 [] y_1:Op)])) (Int.toNat (y_2.length:Int)) (OpOf.mk 2 0 wb y_1:Op)) 0)]⟩:LSt U)))/\((decide ((0:Int) < (wb.length:Int)))=false->Q .normal (⟨[],[(.x 0,[.mref (.x 0 0),.nils,.nils])],[(.x 0 0,LC.mk (U:=U) .op y_2 0)]⟩:LSt U))))/\((decide ((0:Int) < (wg.length:Int)))=false->((decide ((0:Int) < (wb.length:Int)))=true->((wo.length+([(OpOf.mk 0 0 [] y_1:Op)]).length)*240<=140737488355328)/\((0:Int)<=(wo.length:Int)/\(wo.length:Int) < ((wo++([(OpOf.mk 0 0 [] y_1:Op)])).length:Int))/\((0:Nat)<=(Int.toNat (wo.length:Int)))/\(Q .normal (⟨[],[(.x 0,[.mref (.x 0 0),.nils,.nils])],[(.x 0 0,LC.mk (U:=U) .op (List.set (wo++([(OpOf.mk 0 0 [] y_1:Op)])) (Int.toNat (wo.length:Int)) (OpOf.mk 2 0 wb y_1:Op)) 0)]⟩:LSt U)))/\((decide ((0:Int) < (wb.length:Int)))=false->Q .normal (⟨[],[(.x 0,[.mref (.x 0 0),.nils,.nils])],[(.x 0 0,LC.mk (U:=U) .op wo 0)]⟩:LSt U)))):
  Zyp wo wg wb Q:=by
 have e_:(Zyp wo wg wb Q)=(let y_1:=(Edit.mk 0 (Tree.mk 0 [] []) (Tree.mk 0 [] []) [] [] 0 []);let y_2:=(List.set (wo++([(OpOf.mk 0 0 [] y_1:Op)])) (Int.toNat (wo.length:Int)) (OpOf.mk 1 0 wg y_1:Op));let zz0:=(decide ((0:Int) < (wb.length:Int)));(((decide ((0:Int) < (wg.length:Int)))=true->((wo.length+([(OpOf.mk 0 0 [] y_1:Op)]).length)*240<=140737488355328)/\((0:Int)<=(wo.length:Int)/\(wo.length:Int) < ((wo++([(OpOf.mk 0 0 [] y_1:Op)])).length:Int))/\((0:Nat)<=(Int.toNat (wo.length:Int)))/\((zz0=true->((y_2.length+([(OpOf.mk 0 0 [] y_1:Op)]).length)*240<=140737488355328)/\((0:Int)<=(y_2.length:Int)/\(y_2.length:Int) < ((y_2++([(OpOf.mk 0 0 [] y_1:Op)])).length:Int))/\((0:Nat)<=(Int.toNat (y_2.length:Int)))/\(Q .normal (⟨[],[(.x 0,[.mref (.x 0 0),.nils,.nils])],[(.x 0 0,LC.mk (U:=U) .op (List.set (y_2++([(OpOf.mk 0 0 [] y_1:Op)])) (Int.toNat (y_2.length:Int)) (OpOf.mk 2 0 wb y_1:Op)) 0)]⟩:LSt U)))/\(zz0=false->(Q .normal (⟨[],[(.x 0,[.mref (.x 0 0),.nils,.nils])],[(.x 0 0,LC.mk (U:=U) .op y_2 0)]⟩:LSt U)))))/\((decide ((0:Int) < (wg.length:Int)))=false->((zz0=true->((wo.length+([(OpOf.mk 0 0 [] y_1:Op)]).length)*240<=140737488355328)/\((0:Int)<=(wo.length:Int)/\(wo.length:Int) < ((wo++([(OpOf.mk 0 0 [] y_1:Op)])).length:Int))/\((0:Nat)<=(Int.toNat (wo.length:Int)))/\(Q .normal (⟨[],[(.x 0,[.mref (.x 0 0),.nils,.nils])],[(.x 0 0,LC.mk (U:=U) .op (List.set (wo++([(OpOf.mk 0 0 [] y_1:Op)])) (Int.toNat (wo.length:Int)) (OpOf.mk 2 0 wb y_1:Op)) 0)]⟩:LSt U)))/\(zz0=false->(Q .normal (⟨[],[(.x 0,[.mref (.x 0 0),.nils,.nils])],[(.x 0 0,LC.mk (U:=U) .op wo 0)]⟩:LSt U))))))):=by kernel_rfl
 exact e_.mpr (by intro y_1 y_2;have hh:=h y_1 rfl y_2 rfl;exact ⟨fun c_1=> ⟨(hh.1 c_1).1,(hh.1 c_1).2.1,(hh.1 c_1).2.2.1,⟨fun c_2=> ⟨((hh.1 c_1).2.2.2.1 c_2).1,((hh.1 c_1).2.2.2.1 c_2).2.1,((hh.1 c_1).2.2.2.1 c_2).2.2.1,((hh.1 c_1).2.2.2.1 c_2).2.2.2⟩,fun c_2=> ((hh.1 c_1).2.2.2.2 c_2)⟩⟩,fun c_1=> ⟨fun c_3=> ⟨((hh.2 c_1).1 c_3).1,((hh.2 c_1).1 c_3).2.1,((hh.2 c_1).1 c_3).2.2.1,((hh.2 c_1).1 c_3).2.2.2⟩,fun c_3=> ((hh.2 c_1).2 c_3)⟩⟩)
def Ztj(wo:List Op)(wg wb:List Tree):Prop:=AW (Z6 Ziz) Try.f129 Zpc [] (JE (ZaD.can ((wo,wg,wb,()),())) (ZaD.canX ((wo,wg,wb,()),())) (ZaD.canL ((wo,wg,wb,()),()))) (Z06 cfg Try.f129.ntmps Try.f129.results.toList (Z8j ((wo,wg,wb,()),())) (Z4W ((wo,wg,wb,()),())) (Z4X ((wo,wg,wb,()),())))
theorem Zs3(hb:∀ (wo:List Op) (wg:List Tree) (wb:List Tree) (_:Unit),Z17 ((wo,wg,wb,()),())->Ztj wo wg wb):CT 129 Z1l:=
 Yn (l:=[]) Zn rfl trivial Zpc Try.func129 rfl rfl 1 (fun _=> rfl) (by decide) (fun ⟨⟨wo,wg,wb,_⟩,_⟩=> hb wo wg wb ())
def ZkJ:List (FuncId × Fs U):=[(129,Z1l)]
def Zpd:Zf U:=fun i=> match i with
 | 0=> ([(0,[]),(1,[])],[(.x 0,[.wr .op])])
 | 1=> ([(0,[]),(1,[]),(4,[])],[(.x 0,[.wr .op])])
 | 2=> ([(0,[]),(1,[]),(4,[]),(25,[])],[(.x 0,[.wr .op])])
 | 3=> ([],[(.x 0,[.wr .op])])
 | 4=> ([],[(.x 0,[.wr .op])])
 | _=> ([],[])
abbrev Zyr(wo:List Op)(wg wb:List Tree)(n:Int)(Q:QT):=AW (Z6 ZkJ) Try.f126 Zpd [] (⟨[(0,.ptr (.x 0) 0),pI 1 n],[(.x 0,[.mref (.x 0 0),sU .tree wg (.own (.x 0 1)),sU .tree wb (.own (.x 0 2))])],[(.x 0 0,LC.mk (U:=U) .op wo 0)]⟩:LSt U) Q
theorem ZxB(wo:List Op)(wg wb:List Tree)(n:Int)(Q:QT)(h:∀ y_1,y_1=(Edit.mk 0 (Tree.mk 0 [] []) (Tree.mk 0 [] []) [] [] 0 [])->∀ y_2,y_2=(Int.toNat (((((Z0 (Wst.mk wo wg wb)).out).length:Int):Int) - 1))->∀ y_3,y_3=(List.getD ((Z0 (Wst.mk wo wg wb)).out) y_2 Op.nil)->∀ y_4,y_4=(y_3.e)->(Z17 ((wo,wg,wb,()),()))/\((InR (((((Z0 (Wst.mk wo wg wb)).out).length:Int):Int) - 1))/\(((decide ((0:Int)<=(((((Z0 (Wst.mk wo wg wb)).out).length:Int):Int) - 1)))=true->(0:Int)<=(((((Z0 (Wst.mk wo wg wb)).out).length:Int):Int) - 1)/\(((((Z0 (Wst.mk wo wg wb)).out).length:Int):Int) - 1) < (((Z0 (Wst.mk wo wg wb)).out).length:Int))/\(((bif (decide ((0:Int)<=(((((Z0 (Wst.mk wo wg wb)).out).length:Int):Int) - 1))) then (y_3.kind==0) else false)=true->((0:Int)<=(((((Z0 (Wst.mk wo wg wb)).out).length:Int):Int) - 1)/\(((((Z0 (Wst.mk wo wg wb)).out).length:Int):Int) - 1) < (((Z0 (Wst.mk wo wg wb)).out).length:Int))/\(InR (y_3.n+n))/\((0:Int)<=(((((Z0 (Wst.mk wo wg wb)).out).length:Int):Int) - 1)/\(((((Z0 (Wst.mk wo wg wb)).out).length:Int):Int) - 1) < (((Z0 (Wst.mk wo wg wb)).out).length:Int))/\((0:Nat)<=y_2)/\(Q .ret (⟨[],[(.x 0,[.mref (.x 0 0),sU .tree ((Z0 (Wst.mk wo wg wb)).gone) (.own (.x 0 1)),sU .tree ((Z0 (Wst.mk wo wg wb)).brought) (.own (.x 0 2))])],[(.x 0 0,LC.mk (U:=U) .op (List.set ((Z0 (Wst.mk wo wg wb)).out) y_2 (OpOf.mk y_3.kind (y_3.n+n) y_3.l y_4:Op)) 0)]⟩:LSt U)))/\((bif (decide ((0:Int)<=(((((Z0 (Wst.mk wo wg wb)).out).length:Int):Int) - 1))) then (y_3.kind==0) else false)=false->((((Z0 (Wst.mk wo wg wb)).out).length+([(OpOf.mk 0 0 [] y_1:Op)]).length)*240<=140737488355328)/\((0:Int)<=(((Z0 (Wst.mk wo wg wb)).out).length:Int)/\(((Z0 (Wst.mk wo wg wb)).out).length:Int) < ((((Z0 (Wst.mk wo wg wb)).out)++([(OpOf.mk 0 0 [] y_1:Op)])).length:Int))/\((0:Nat)<=(Int.toNat (((Z0 (Wst.mk wo wg wb)).out).length:Int)))/\(Q .normal (⟨[],[(.x 0,[.mref (.x 0 0),sU .tree ((Z0 (Wst.mk wo wg wb)).gone) (.own (.x 0 1)),sU .tree ((Z0 (Wst.mk wo wg wb)).brought) (.own (.x 0 2))])],[(.x 0 0,LC.mk (U:=U) .op (List.set (((Z0 (Wst.mk wo wg wb)).out)++([(OpOf.mk 0 0 [] y_1:Op)])) (Int.toNat (((Z0 (Wst.mk wo wg wb)).out).length:Int)) (OpOf.mk 0 n [] y_1:Op)) 0)]⟩:LSt U))))))):
  Zyr wo wg wb n Q:=by
 have e_:(Zyr wo wg wb n Q)=(let y_1:=(Edit.mk 0 (Tree.mk 0 [] []) (Tree.mk 0 [] []) [] [] 0 []);let y_2:=(Int.toNat (((((Z0 (Wst.mk wo wg wb)).out).length:Int):Int) - 1));let y_3:=(List.getD ((Z0 (Wst.mk wo wg wb)).out) y_2 Op.nil);let y_4:=(Z1W y_3.e);let zz0:=(decide ((0:Int)<=(((((Z0 (Wst.mk wo wg wb)).out).length:Int):Int) - 1)));(Z17 ((wo,wg,wb,()),()))/\((InR (((((Z0 (Wst.mk wo wg wb)).out).length:Int):Int) - 1))/\((Tr (zz0=true))/\(Tr (zz0=true))/\(Tr (zz0=true))/\(Tr (zz0=true))/\(Tr (zz0=true))/\(zz0=true->(0:Int)<=(((((Z0 (Wst.mk wo wg wb)).out).length:Int):Int) - 1)/\(((((Z0 (Wst.mk wo wg wb)).out).length:Int):Int) - 1) < (((Z0 (Wst.mk wo wg wb)).out).length:Int))/\(Tr (zz0=true))/\(Tr (zz0=true))/\(Tr (zz0=true))/\(Tr (zz0=true))/\(((bif zz0 then (y_3.kind==0) else false)=true->((0:Int)<=(((((Z0 (Wst.mk wo wg wb)).out).length:Int):Int) - 1)/\(((((Z0 (Wst.mk wo wg wb)).out).length:Int):Int) - 1) < (((Z0 (Wst.mk wo wg wb)).out).length:Int))/\(InR (y_3.n+n))/\((0:Int)<=(((((Z0 (Wst.mk wo wg wb)).out).length:Int):Int) - 1)/\(((((Z0 (Wst.mk wo wg wb)).out).length:Int):Int) - 1) < (((Z0 (Wst.mk wo wg wb)).out).length:Int))/\((0:Nat)<=y_2)/\(Q .ret (⟨[],[(.x 0,[.mref (.x 0 0),sU .tree ((Z0 (Wst.mk wo wg wb)).gone) (.own (.x 0 1)),sU .tree ((Z0 (Wst.mk wo wg wb)).brought) (.own (.x 0 2))])],[(.x 0 0,LC.mk (U:=U) .op (List.set ((Z0 (Wst.mk wo wg wb)).out) y_2 (OpOf.mk y_3.kind (y_3.n+n) y_3.l y_4:Op)) 0)]⟩:LSt U)))/\((bif zz0 then (y_3.kind==0) else false)=false->((((Z0 (Wst.mk wo wg wb)).out).length+([(OpOf.mk 0 0 [] y_1:Op)]).length)*240<=140737488355328)/\((0:Int)<=(((Z0 (Wst.mk wo wg wb)).out).length:Int)/\(((Z0 (Wst.mk wo wg wb)).out).length:Int) < ((((Z0 (Wst.mk wo wg wb)).out)++([(OpOf.mk 0 0 [] y_1:Op)])).length:Int))/\((0:Nat)<=(Int.toNat (((Z0 (Wst.mk wo wg wb)).out).length:Int)))/\(Q .normal (⟨[],[(.x 0,[.mref (.x 0 0),sU .tree ((Z0 (Wst.mk wo wg wb)).gone) (.own (.x 0 1)),sU .tree ((Z0 (Wst.mk wo wg wb)).brought) (.own (.x 0 2))])],[(.x 0 0,LC.mk (U:=U) .op (List.set (((Z0 (Wst.mk wo wg wb)).out)++([(OpOf.mk 0 0 [] y_1:Op)])) (Int.toNat (((Z0 (Wst.mk wo wg wb)).out).length:Int)) (OpOf.mk 0 n [] y_1:Op)) 0)]⟩:LSt U))))))):=by kernel_rfl
 exact e_.mpr (by intro y_1 y_2 y_3 y_4;have hh:=h y_1 rfl y_2 rfl y_3 rfl y_4 (Zd _);exact ⟨hh.1,⟨hh.2.1,⟨id,id,id,id,id,hh.2.2.1,id,id,id,(by generalize (decide ((0:Int)<=(((((Z0 (Wst.mk wo wg wb)).out).length:Int):Int) - 1)))=b0;revert b0;decide),⟨fun c_4=> ⟨(hh.2.2.2.1 c_4).1,(hh.2.2.2.1 c_4).2.1,(hh.2.2.2.1 c_4).2.2.1,(hh.2.2.2.1 c_4).2.2.2.1,(hh.2.2.2.1 c_4).2.2.2.2⟩,fun c_4=> ⟨(hh.2.2.2.2 c_4).1,(hh.2.2.2.2 c_4).2.1,(hh.2.2.2.2 c_4).2.2.1,(hh.2.2.2.2 c_4).2.2.2⟩⟩⟩⟩⟩)
def Ztl(wo:List Op)(wg wb:List Tree)(n:Int):Prop:=AW (Z6 ZkJ) Try.f126 Zpd [] (JE (ZaF.can ((wo,wg,wb,()),n,())) (ZaF.canX ((wo,wg,wb,()),n,())) (ZaF.canL ((wo,wg,wb,()),n,()))) (Z06 cfg Try.f126.ntmps Try.f126.results.toList (Zi0 ((wo,wg,wb,()),n,())) (Zeq ((wo,wg,wb,()),n,())) (Zer ((wo,wg,wb,()),n,())))
theorem Zs5(ZmP:CT 129 Z1l)(hb:∀ (wo:List Op) (wg:List Tree) (wb:List Tree) (n:Int) (_:Unit),Z3r ((wo,wg,wb,()),n,())->Ztl wo wg wb n):CT 126 Z4O:=
 Yn (l:=[(129,Z1l)]) Zn rfl (⟨ZmP,trivial⟩) Zpd Try.func126 rfl rfl 2 (fun _=> rfl) (by decide) (fun ⟨⟨wo,wg,wb,_⟩,n,_⟩=> hb wo wg wb n ())
def Zaw:List (FuncId × Fs U):=[(71,JZ)]
def ZgY:Zf U:=fun i=> match i with
 | 0=> ([(0,[]),(6,[]),(7,[]),(8,[])],[(.x 0,[.wr .op])])
 | 1=> ([(0,[]),(6,[]),(7,[]),(8,[]),(9,[])],[(.x 0,[.wr .op])])
 | 2=> ([(0,[]),(5,[]),(6,[]),(7,[]),(8,[])],[(.loc 5,[]),(.x 0,[.wr .op])])
 | 3=> ([(0,[]),(6,[]),(7,[]),(8,[])],[(.x 0,[.wr .op])])
 | 4=> ([(0,[]),(6,[]),(7,[]),(8,[])],[(.x 0,[.wr .op])])
 | _=> ([],[])
def Z5e(wo:List Op)(wg wb l:List Tree)(x8:Int)(mx0_1:List Tree):LSt U:=(⟨[(0,.ptr (.x 0) 1),(6,.c (sU .tree l .unk)),pI 7 (l.length:Int),pI 8 x8],[(.x 0,[.mref (.x 0 0),sU .tree mx0_1 (.own (.x 0 1)),sU .tree wb (.own (.x 0 2))])],[(.x 0 0,LC.mk (U:=U) .op wo 0)]⟩:LSt U)
abbrev Zyq(wo:List Op)(wg wb l:List Tree)(Q:QT):=AW (Z6 Zaw) Try.f127 ZgY [] (⟨[(0,.ptr (.x 0) 1),(1,.c (sU .tree l .unk))],[(.x 0,[.mref (.x 0 0),sU .tree wg (.own (.x 0 1)),sU .tree wb (.own (.x 0 2))])],[(.x 0 0,LC.mk (U:=U) .op wo 0)]⟩:LSt U) Q
theorem ZxA(wo:List Op)(wg wb l:List Tree)(Q:QT)(h:Zo (AW (Z6 Zaw) Try.f127 ZgY [1,0,0]) (Z5e wo wg wb l 0 wg) (xB 0 Q)):
  Zyq wo wg wb l Q:=by
 have e_:(Zyq wo wg wb l Q)=(type_of% h):=by kernel_rfl
 exact e_.mpr h
abbrev Zlv(wo:List Op)(wg wb l:List Tree)(x8:Int)(mx0_1:List Tree)(N0:NT)(Q:QT):=AW (Z6 Zaw) Try.f127 ZgY [1,0,0] (Z5e wo wg wb l x8 mx0_1) (xT N0 (xB 0 Q))
theorem Zni(wo:List Op)(wg wb l:List Tree)(x8:Int)(mx0_1:List Tree)(N0:NT)(Q:QT)(h:((decide (x8 < (l.length:Int)))=true->((0:Int)<=x8/\x8 < (l.length:Int))/\((Z0A ((Tree.mk (Tree.kind (l.getD x8.toNat Tree.nil)) (Tree.words (l.getD x8.toNat Tree.nil)) (Tree.kids (l.getD x8.toNat Tree.nil))),()))/\((mx0_1.length+([(Tree.mk 0 [] [])]).length)*56<=140737488355328)/\((0:Int)<=(mx0_1.length:Int)/\(mx0_1.length:Int) < ((mx0_1++([(Tree.mk 0 [] [])])).length:Int))/\(mx0_1.length<=(Int.toNat (mx0_1.length:Int)))/\((InR (x8+1))/\(N0 (Z5e wo wg wb l (x8+1) (List.set (mx0_1++([(Tree.mk 0 [] [])])) (Int.toNat (mx0_1.length:Int)) (Tree.mk (Tree.kind (Z2 (Tree.mk (Tree.kind (l.getD x8.toNat Tree.nil)) (Tree.words (l.getD x8.toNat Tree.nil)) (Tree.kids (l.getD x8.toNat Tree.nil))))) (Tree.words (Z2 (Tree.mk (Tree.kind (l.getD x8.toNat Tree.nil)) (Tree.words (l.getD x8.toNat Tree.nil)) (Tree.kids (l.getD x8.toNat Tree.nil))))) (Tree.kids (Z2 (Tree.mk (Tree.kind (l.getD x8.toNat Tree.nil)) (Tree.words (l.getD x8.toNat Tree.nil)) (Tree.kids (l.getD x8.toNat Tree.nil))))))))))))/\((decide (x8 < (l.length:Int)))=false->Q .normal (⟨[(0,.ptr (.x 0) 1),(6,.c (sU .tree l .unk)),pI 7 (l.length:Int),pI 8 x8,pB 9 (decide (x8 < (l.length:Int)))],[(.x 0,[.mref (.x 0 0),sU .tree mx0_1 (.own (.x 0 1)),sU .tree wb (.own (.x 0 2))])],[(.x 0 0,LC.mk (U:=U) .op wo 0)]⟩:LSt U))):
  Zlv wo wg wb l x8 mx0_1 N0 Q:=by
 have e_:(Zlv wo wg wb l x8 mx0_1 N0 Q)=(type_of% h):=by kernel_rfl
 exact e_.mpr ⟨fun c_5=> ⟨(h.1 c_5).1,⟨(h.1 c_5).2.1,(h.1 c_5).2.2.1,(h.1 c_5).2.2.2.1,(h.1 c_5).2.2.2.2.1,⟨(h.1 c_5).2.2.2.2.2.1,(h.1 c_5).2.2.2.2.2.2⟩⟩⟩,fun c_5=> (h.2 c_5)⟩
def Ztk(wo:List Op)(wg wb l:List Tree):Prop:=AW (Z6 Zaw) Try.f127 ZgY [] (JE (ZaE.can ((wo,wg,wb,()),l,())) (ZaE.canX ((wo,wg,wb,()),l,())) (ZaE.canL ((wo,wg,wb,()),l,()))) (Z06 cfg Try.f127.ntmps Try.f127.results.toList (Zo0 ((wo,wg,wb,()),l,())) (Zjy ((wo,wg,wb,()),l,())) (Zjz ((wo,wg,wb,()),l,())))
theorem Zs4(c71:CT 71 JZ)(hb:∀ (wo:List Op) (wg:List Tree) (wb:List Tree) (l:List Tree) (_:Unit),Z8o ((wo,wg,wb,()),l,())->Ztk wo wg wb l):CT 127 Zed:=
 Yn (l:=[(71,JZ)]) Zn rfl (⟨c71,trivial⟩) ZgY Try.func127 rfl rfl 2 (fun _=> rfl) (by decide) (fun ⟨⟨wo,wg,wb,_⟩,l,_⟩=> hb wo wg wb l ())
def Zci:Zf U:=fun i=> match i with
 | 0=> ([(0,[]),(6,[]),(7,[]),(8,[])],[(.x 0,[.wr .op])])
 | 1=> ([(0,[]),(6,[]),(7,[]),(8,[]),(9,[])],[(.x 0,[.wr .op])])
 | 2=> ([(0,[]),(5,[]),(6,[]),(7,[]),(8,[])],[(.loc 5,[]),(.x 0,[.wr .op])])
 | 3=> ([(0,[]),(6,[]),(7,[]),(8,[])],[(.x 0,[.wr .op])])
 | 4=> ([(0,[]),(6,[]),(7,[]),(8,[])],[(.x 0,[.wr .op])])
 | _=> ([],[])
def Z3A(wo:List Op)(wg wb l:List Tree)(x8:Int)(mx0_2:List Tree):LSt U:=(⟨[(0,.ptr (.x 0) 2),(6,.c (sU .tree l .unk)),pI 7 (l.length:Int),pI 8 x8],[(.x 0,[.mref (.x 0 0),sU .tree wg (.own (.x 0 1)),sU .tree mx0_2 (.own (.x 0 2))])],[(.x 0 0,LC.mk (U:=U) .op wo 0)]⟩:LSt U)
abbrev Zue(wo:List Op)(wg wb l:List Tree)(Q:QT):=AW (Z6 Zaw) Try.f127 Zci [] (⟨[(0,.ptr (.x 0) 2),(1,.c (sU .tree l .unk))],[(.x 0,[.mref (.x 0 0),sU .tree wg (.own (.x 0 1)),sU .tree wb (.own (.x 0 2))])],[(.x 0 0,LC.mk (U:=U) .op wo 0)]⟩:LSt U) Q
theorem Zup(wo:List Op)(wg wb l:List Tree)(Q:QT)(h:Zo (AW (Z6 Zaw) Try.f127 Zci [1,0,0]) (Z3A wo wg wb l 0 wb) (xB 0 Q)):
  Zue wo wg wb l Q:=by
 have e_:(Zue wo wg wb l Q)=(type_of% h):=by kernel_rfl
 exact e_.mpr h
abbrev ZhD(wo:List Op)(wg wb l:List Tree)(x8:Int)(mx0_2:List Tree)(N0:NT)(Q:QT):=AW (Z6 Zaw) Try.f127 Zci [1,0,0] (Z3A wo wg wb l x8 mx0_2) (xT N0 (xB 0 Q))
theorem ZlA(wo:List Op)(wg wb l:List Tree)(x8:Int)(mx0_2:List Tree)(N0:NT)(Q:QT)(h:((decide (x8 < (l.length:Int)))=true->((0:Int)<=x8/\x8 < (l.length:Int))/\((Z0A ((Tree.mk (Tree.kind (l.getD x8.toNat Tree.nil)) (Tree.words (l.getD x8.toNat Tree.nil)) (Tree.kids (l.getD x8.toNat Tree.nil))),()))/\((mx0_2.length+([(Tree.mk 0 [] [])]).length)*56<=140737488355328)/\((0:Int)<=(mx0_2.length:Int)/\(mx0_2.length:Int) < ((mx0_2++([(Tree.mk 0 [] [])])).length:Int))/\(mx0_2.length<=(Int.toNat (mx0_2.length:Int)))/\((InR (x8+1))/\(N0 (Z3A wo wg wb l (x8+1) (List.set (mx0_2++([(Tree.mk 0 [] [])])) (Int.toNat (mx0_2.length:Int)) (Tree.mk (Tree.kind (Z2 (Tree.mk (Tree.kind (l.getD x8.toNat Tree.nil)) (Tree.words (l.getD x8.toNat Tree.nil)) (Tree.kids (l.getD x8.toNat Tree.nil))))) (Tree.words (Z2 (Tree.mk (Tree.kind (l.getD x8.toNat Tree.nil)) (Tree.words (l.getD x8.toNat Tree.nil)) (Tree.kids (l.getD x8.toNat Tree.nil))))) (Tree.kids (Z2 (Tree.mk (Tree.kind (l.getD x8.toNat Tree.nil)) (Tree.words (l.getD x8.toNat Tree.nil)) (Tree.kids (l.getD x8.toNat Tree.nil))))))))))))/\((decide (x8 < (l.length:Int)))=false->Q .normal (⟨[(0,.ptr (.x 0) 2),(6,.c (sU .tree l .unk)),pI 7 (l.length:Int),pI 8 x8,pB 9 (decide (x8 < (l.length:Int)))],[(.x 0,[.mref (.x 0 0),sU .tree wg (.own (.x 0 1)),sU .tree mx0_2 (.own (.x 0 2))])],[(.x 0 0,LC.mk (U:=U) .op wo 0)]⟩:LSt U))):
  ZhD wo wg wb l x8 mx0_2 N0 Q:=by
 have e_:(ZhD wo wg wb l x8 mx0_2 N0 Q)=(type_of% h):=by kernel_rfl
 exact e_.mpr ⟨fun c_6=> ⟨(h.1 c_6).1,⟨(h.1 c_6).2.1,(h.1 c_6).2.2.1,(h.1 c_6).2.2.2.1,(h.1 c_6).2.2.2.2.1,⟨(h.1 c_6).2.2.2.2.2.1,(h.1 c_6).2.2.2.2.2.2⟩⟩⟩,fun c_6=> (h.2 c_6)⟩
def Zqy(wo:List Op)(wg wb l:List Tree):Prop:=AW (Z6 Zaw) Try.f127 Zci [] (JE (Z85.can ((wo,wg,wb,()),l,())) (Z85.canX ((wo,wg,wb,()),l,())) (Z85.canL ((wo,wg,wb,()),l,()))) (Z06 cfg Try.f127.ntmps Try.f127.results.toList (Zo0 ((wo,wg,wb,()),l,())) (Zgh ((wo,wg,wb,()),l,())) (Zgi ((wo,wg,wb,()),l,())))
theorem ZoL(c71:CT 71 JZ)(hb:∀ (wo:List Op) (wg:List Tree) (wb:List Tree) (l:List Tree) (_:Unit),Z8o ((wo,wg,wb,()),l,())->Zqy wo wg wb l):CT 127 Zbh:=
 Yn (l:=[(71,JZ)]) Zn rfl (⟨c71,trivial⟩) Zci Try.func127 rfl rfl 2 (fun _=> rfl) (by decide) (fun ⟨⟨wo,wg,wb,_⟩,l,_⟩=> hb wo wg wb l ())
def Zio:Zf U:=lvl [([0,3],[3]),([4],[])]
abbrev Zud(list:Int)(e:Edit)(Q:QT):=AW (Z6 Ziz) Try.f128 Zio [] (L2 [pI 0 list,(1,.agg (enc .edit e))] []) Q
theorem Zuo(list:Int)(e:Edit)(Q:QT)(h:(((!(e.kind==0)) && (bif (list==9) then (e.kind==2) else false))=true->InR (((e.words.length:Int):Int)+(e.kids.length:Int)))/\(Q .ret (L2 [(4,.c (.bool (bif (e.kind==0) then true else (bif (bif (list==9) then (e.kind==2) else false) then (((((e.words.length:Int):Int)+(e.kids.length:Int)):Int)==0) else false))))] []))):
  Zud list e Q:=by
 have e_:(Zud list e Q)=(let zz1:=(!(e.kind==0));let zz0:=(bif ((list:Int)==9) then (e.kind==2) else false);((Tr (zz1=true))/\(Tr (zz1=true))/\(Tr ((zz1 && ((list:Int)==9))=true))/\(Tr ((zz1 && ((list:Int)==9))=true))/\(zz1=true->(True->zz1=true))/\(zz1=true->(((list:Int)==9)=true->(zz1 && ((list:Int)==9))=true))/\(Tr (zz1=true))/\(Tr ((zz1 && zz0)=true))/\(Tr ((zz1 && zz0)=true))/\(Tr ((zz1 && zz0)=true))/\(Tr ((zz1 && zz0)=true))/\(Tr ((zz1 && zz0)=true))/\(Tr ((zz1 && zz0)=true))/\((zz1 && zz0)=true->InR ((e.words.length:Int)+(e.kids.length:Int)))/\(Tr ((zz1 && zz0)=true))/\(zz1=true->(True->zz1=true))/\(zz1=true->(zz0=true->(zz1 && zz0)=true))/\((e.kind==0)=false->zz1=true)/\(Q .ret (L2 [(4,.c (.bool (bif (e.kind==0) then true else (bif zz0 then ((((e.words.length:Int)+(e.kids.length:Int)):Int)==0) else false))))] [])))):=by kernel_rfl
 exact e_.mpr ⟨id,id,id,id,(by generalize ((e.kind:Int)==0)=b0;revert b0;decide),(by generalize ((e.kind:Int)==0)=b0;generalize ((list:Int)==9)=b1;revert b0 b1;decide),id,id,id,id,id,id,id,h.1,id,(by generalize ((e.kind:Int)==0)=b0;revert b0;decide),(by generalize ((e.kind:Int)==2)=b0;generalize ((e.kind:Int)==0)=b1;generalize ((list:Int)==9)=b2;revert b0 b1 b2;decide),(by generalize ((e.kind:Int)==0)=b0;revert b0;decide),h.2⟩
def Zqx(list:Int)(e:Edit):Prop:=AW (Z6 Ziz) Try.f128 Zio [] (Zm (Zhy.can (list,e,())) []) (EQ Try.f128 (ZjG (list,e,())) [])
theorem ZoK(hb:∀ (list:Int) (e:Edit) (_:Unit),Z4Y (list,e,())->Zqx list e):CT 128 Z2H:=
 Z4 (l:=[]) Zn rfl trivial Zio Try.func128 rfl rfl 2 (fun _=> rfl) (by decide) (fun ⟨list,e,_⟩=> hb list e ())
end
theorem Z0X{α:Type}(l:List α)(z x:α):(l++[z]).set (Int.toNat (l.length:Int)) x=l++[x]:=by
 rw [Xa,List.set_append_right _ _ (Qh _)]
 simp
theorem Z7q:∀ (F:List Op) (n:Int),Z0C F n=if F.length≠0/\(F.getD (F.length - 1) Op.nil).kind=0 then F.set (F.length - 1) ⟨(F.getD (F.length - 1) Op.nil).kind,(F.getD (F.length - 1) Op.nil).n+n,(F.getD (F.length - 1) Op.nil).l,(F.getD (F.length - 1) Op.nil).e⟩ else F++[⟨0,n,[],Edit.nil⟩]
 | [],n=> by simp [Z0C]
 | [o],n=> by simp [Z0C]
 | o ::p ::r,n=> by
  have ih:=Z7q (p ::r) n
  have e:(o ::p ::r).length - 1=((p ::r).length - 1)+1:=by simp
  rw [Z0C,ih,e]
  simp only [Kg,List.set_cons_succ]
  by_cases h:(p ::r).length≠0/\((p ::r).getD ((p ::r).length - 1) Op.nil).kind=0
  ·rw [if_pos h,if_pos ⟨by simp,h.2⟩]
  ·have h':¬((p ::r).getD ((p ::r).length - 1) Op.nil).kind=0:=fun e=> h ⟨by simp,e⟩
   rw [if_neg h,if_neg (fun e=> h' e.2)]
   try rfl
theorem Z8Q(s:Wst):(Z0 s).out.length<=s.out.length+2:=by
 simp only [Z0,JD]
 split <;> split <;> simp
theorem Z8P(s:Wst):∀ o∈(Z0 s).out,o∈s.out\/o.n=0:=by
 intro o ho
 simp only [Z0,JD,Qi] at ho
 rcases ho with h | h | h
 ·exact .inl h
 ·split at h
  ·cases h
  ·simp only [Qj] at h;subst h;exact .inr rfl
 ·split at h
  ·cases h
  ·simp only [Qj] at h;subst h;exact .inr rfl
theorem ZmP:Contract Try.prog cfg 129 Z1l:=by
 refine Zs3 ?_
 intro wo wg wb _ hp
 simp only [Z17] at hp
 refine Zxz wo wg wb _ ?_
 rintro y1 hy1 y2 hy2
 have hy:y1=Edit.nil:=hy1
 subst hy
 rw [Z0X] at hy2
 subst hy2
 (simp only [vcS])
 refine ⟨fun h1=> ⟨by simp;omega,by simp;omega,by omega,fun h2=> ⟨by simp;omega,by simp;omega,by omega,?_⟩,fun h2=> ?_⟩,fun h1=> ⟨fun h2=> ⟨by simp;omega,by simp;omega,by omega,?_⟩,fun h2=> ?_⟩⟩
 ·rw [Z0X]
  have e:Z0 ⟨wo,wg,wb⟩=⟨wo++[⟨1,0,wg,Edit.nil⟩]++[⟨2,0,wb,Edit.nil⟩],[],[]⟩:=by
   simp only [Z0,JD];rw [if_neg (by omega),if_neg (by omega)];simp
  simp only [Z8j,Z4W,Z4X,e]
  (repeat' (first | exact trivial | exact rfl | apply And.intro))
 ·have e:Z0 ⟨wo,wg,wb⟩=⟨wo++[⟨1,0,wg,Edit.nil⟩],[],[]⟩:=by
   simp only [Z0,JD];rw [if_neg (by omega),if_pos (by omega)];simp
  simp only [Z8j,Z4W,Z4X,e]
  (repeat' (first | exact trivial | exact rfl | apply And.intro))
 ·rw [Z0X]
  have e:Z0 ⟨wo,wg,wb⟩=⟨wo++[⟨2,0,wb,Edit.nil⟩],[],[]⟩:=by
   simp only [Z0,JD];rw [if_pos (by omega),if_neg (by omega)];simp
  simp only [Z8j,Z4W,Z4X,e]
  (repeat' (first | exact trivial | exact rfl | apply And.intro))
 ·have e:Z0 ⟨wo,wg,wb⟩=⟨wo,[],[]⟩:=by
   simp only [Z0,JD];rw [if_pos (by omega),if_pos (by omega)];simp
  simp only [Z8j,Z4W,Z4X,e]
  (repeat' (first | exact trivial | exact rfl | apply And.intro))
theorem Zw2:Contract Try.prog cfg 126 Z4O:=by
 refine Zs5 ZmP ?_
 intro wo wg wb n _ hp
 simp only [Z3r] at hp
 obtain ⟨p1,p2,p3,p4,p5,p6⟩:=hp
 have hfl:=Z8Q ⟨wo,wg,wb⟩
 have hfm:=Z8P ⟨wo,wg,wb⟩
 have hg:(Z0 ⟨wo,wg,wb⟩).gone=[]:=rfl
 have hb:(Z0 ⟨wo,wg,wb⟩).brought=[]:=rfl
 have hk:=Z7q (Z0 ⟨wo,wg,wb⟩).out n
 have hkw:ZH ⟨wo,wg,wb⟩ n=⟨Z0C (Z0 ⟨wo,wg,wb⟩).out n,[],[]⟩:=rfl
 refine ZxB wo wg wb n _ ?_
 simp only [hg,hb,Zi0,Zeq,Zer,hkw]
 generalize (Z0 ⟨wo,wg,wb⟩).out=F at*
 simp only at hfl hfm
 rintro y1 hy1 y2 hy2 y3 hy3 y4 hy4
 have hy:y1=Edit.nil:=hy1
 subst hy
 have e2:y2=F.length - 1:=by omega
 subst e2
 rw [<-hy3,<-hy4] at hk
 (simp only [vcS])
 refine ⟨by simp only [Z17];exact ⟨p1,p2,p3⟩,by unfold InR;omega,fun h=> ⟨h,by omega⟩,fun h=> ?_,fun h=> ?_⟩
 ·have hy3n:0<=y3.n/\y3.n<=100000000000000000:=by
   have hm:y3∈F:=by rw [hy3];exact Zl (by omega) _
   rcases hfm y3 hm with h1 | h1
   ·exact p4 y3 h1
   ·omega
  rw [if_pos ⟨by omega,h.2⟩] at hk
  rw [hk]
  refine ⟨by omega,by unfold InR;omega,by omega,by omega,?_⟩
  (repeat' (first | exact trivial | exact rfl | apply And.intro))
 ·rw [if_neg (by omega)] at hk
  rw [hk,Z0X]
  refine ⟨by simp;omega,by simp;omega,by omega,?_⟩
  (repeat' (first | exact trivial | exact rfl | apply And.intro))
theorem Zzf:Contract Try.prog cfg 127 Zed:=by
 refine Zs4 c71 ?_
 intro wo wg wb l _ hp
 simp only [Z8o] at hp
 obtain ⟨p1,p2,p3,p4⟩:=hp
 have hl:=Zv l
 refine ZxA _ _ _ _ _ ?_
 refine Zb (ι:=Int × List Tree) (fun s=> Z5e wo wg wb l s.1 s.2) (fun s=> 0<=s.1/\s.1<=l.length/\s.2.length=wg.length+s.1/\s.2++Z3 (l.drop s.1.toNat)=wg++Z3 l) (fun s=> ((l.length:Int) - s.1).toNat) (0,wg) rfl ⟨by simp,by simp,by simp,by simp⟩ ?_
 rintro ⟨i,out⟩ ⟨h1,h2,h3,h4⟩
 dsimp only at h1 h2 h3 h4
 refine Zni _ _ _ _ _ _ _ _ ?_
 (simp only [vcS])
 (simp only [Tree.eta,Edit.eta,Tree.kind_mk,Tree.words_mk,Tree.kids_mk])
 refine ⟨fun hi=> ?_,fun hi=> ?_⟩
 ·have hm:=JJ (Zl (l:=l) (i:=i.toNat) (by omega) Tree.nil)
  rw [J5 h1 hi Tree.nil] at h4
  simp only [Z3,Xb] at h4
  rw [Z0X]
  refine ⟨⟨h1,hi⟩,by simp only [Z0A];omega,by simp;omega,by simp;omega,by omega,by unfold InR;omega,(i+1,out++[Z2 (l.getD i.toNat Tree.nil)]),rfl,⟨by dsimp only;omega,by dsimp only;omega,by simp;omega,?_⟩,by dsimp only;omega⟩
  simp only [Qa,QA,QO]
  exact h4
 ·rw [Qn (by omega)] at h4
  simp only [Z3,Kr,Qr] at h4
  rw [h4]
  (repeat' (first | exact trivial | exact rfl | apply And.intro))
theorem Zyk:Contract Try.prog cfg 127 Zbh:=by
 refine ZoL c71 ?_
 intro wo wg wb l _ hp
 simp only [Z8o] at hp
 obtain ⟨p1,p2,p3,p4⟩:=hp
 have hl:=Zv l
 refine Zup _ _ _ _ _ ?_
 refine Zb (ι:=Int × List Tree) (fun s=> Z3A wo wg wb l s.1 s.2) (fun s=> 0<=s.1/\s.1<=l.length/\s.2.length=wb.length+s.1/\s.2++Z3 (l.drop s.1.toNat)=wb++Z3 l) (fun s=> ((l.length:Int) - s.1).toNat) (0,wb) rfl ⟨by simp,by simp,by simp,by simp⟩ ?_
 rintro ⟨i,out⟩ ⟨h1,h2,h3,h4⟩
 dsimp only at h1 h2 h3 h4
 refine ZlA _ _ _ _ _ _ _ _ ?_
 (simp only [vcS])
 (simp only [Tree.eta,Edit.eta,Tree.kind_mk,Tree.words_mk,Tree.kids_mk])
 refine ⟨fun hi=> ?_,fun hi=> ?_⟩
 ·have hm:=JJ (Zl (l:=l) (i:=i.toNat) (by omega) Tree.nil)
  rw [J5 h1 hi Tree.nil] at h4
  simp only [Z3,Xb] at h4
  rw [Z0X]
  refine ⟨⟨h1,hi⟩,by simp only [Z0A];omega,by simp;omega,by simp;omega,by omega,by unfold InR;omega,(i+1,out++[Z2 (l.getD i.toNat Tree.nil)]),rfl,⟨by dsimp only;omega,by dsimp only;omega,by simp;omega,?_⟩,by dsimp only;omega⟩
  simp only [Qa,QA,QO]
  exact h4
 ·rw [Qn (by omega)] at h4
  simp only [Z3,Kr,Qr] at h4
  rw [h4]
  (repeat' (first | exact trivial | exact rfl | apply And.intro))
theorem Zq2:Contract Try.prog cfg 128 Z2H:=by
 refine ZoK ?_
 intro list e _ hp
 simp only [Z4Y] at hp
 refine Zuo _ _ _ ?_
 refine ⟨fun _=> by unfold InR;dsimp only;omega,Ze rfl ?_⟩
 rw [QD]
 simp only [Z5R]
 (simp only [vcS])
 omega
noncomputable def Z3W:Fs U:=Zvy Zed Zbh
theorem Zq0:Contract Try.prog cfg 127 Z3W:=Zhv Zzf Zyk
end Go.AM.Ytpjenobkibfpcaa
