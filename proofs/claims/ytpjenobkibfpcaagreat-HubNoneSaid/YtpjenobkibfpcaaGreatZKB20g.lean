import Derived.Test.YtpjenobkibfpcaaGreatZCL25j
import Derived.Test.YtpjenobkibfpcaaGreatZKRB07
set_option linter.unusedSimpArgs false
set_option linter.unusedVariables false
namespace Go.AM.YtpjenobkibfpcaaGreat
open Go.AM Go.Proofs
theorem ZaL{D list:Int}:∀ {l:List Tree},Y0 D list l=true->Y0 (-1) list l=true
 | [],_=> rfl
 | t ::r,h=> by
  simp only [Y0,Q1] at h ⊢
  exact ⟨Z4E _ _ _ V5 h.1,ZaL h.2⟩
mutual
theorem Yi:∀ (e:Edit) (d m:Int),m < 0->Z4 e d=true->Z4 e m=true
 | .mk k o n w ks l os,d,m,hm,h=> by
  have u:=Z97 ks
  have s:=Z95 l os
  rw [Z4] at h ⊢
  split at h
  .cases h
  .rename_i a
   rw [Y7]
   split at h
   .cases h
   .rename_i b
    rw [if_neg b]
    split at h
    .rename_i c
     rw [if_pos c,ZcP hm]
     simp only [Q1] at h ⊢
     exact ⟨⟨Z4E _ _ _ V5 h.1.1,Z4E _ _ _ V5 h.1.2⟩,h.2⟩
    grind
theorem Z97:∀ (ks:List (KidOf Edit)) (last d m:Int),m < 0->Zs last ks d=true->Zs last ks m=true
 | [],_,_,_,_,_=> rfl
 | k ::r,last,d,m,hm,h=> by
  simp only [Zs,Q1] at h ⊢
  exact ⟨ZeW k last d m hm h.1,Z97 r k.at_ d m hm h.2⟩
theorem ZeW:∀ (k:KidOf Edit) (last d m:Int),m < 0->J5 last k d=true->J5 last k m=true
 | ⟨a,e⟩,last,d,m,hm,h=> by
  simp only [J5,Q1] at h ⊢
  exact ⟨h.1,Yi e d m hm h.2⟩
theorem Z95(list:Int):∀ (os:List (OpOf Edit)) (d m:Int),m < 0->Zu list os d=true->Zu list os m=true
 | [],_,_,_,_=> rfl
 | o ::r,d,m,hm,h=> by
  simp only [Zu,Q1] at h ⊢
  exact ⟨Zhe list o d m hm h.1,Z95 list r d m hm h.2⟩
theorem Zhe(list:Int):∀ (o:OpOf Edit) (d m:Int),m < 0->Zg list o d=true->Zg list o m=true
 | ⟨k,n,l,e⟩,d,m,hm,h=> by
  have he:=Yi e d m hm
  rw [Zg] at h ⊢
  split at h
  .grind
  .rename_i b
   rw [if_neg b]
   split at h
   .cases h
   .rename_i u
    rw [if_neg u]
    split at h
    .rename_i s
     rw [if_pos s,ZcP hm]
     simp only [Q1] at h ⊢
     exact ⟨⟨ZaL h.1.1,h.1.2⟩,h.2⟩
    grind
end
structure Wk (e:Edit):Prop where
 r:Z4 e (-1)=true
 g:Yh e
theorem Wk.of{e:Edit}{d:Int}(h:Z4 e d=true)(g:Yh e):Wk e:=⟨Yi e d _ V5 h,g⟩
theorem Jb{n:Int}(h0:0<=n)(h9:n<=9):InR n:=V4
theorem Znv{w:List WEdit}{ks:List Kid}(h1:ZL (-1) w=true)(h2:Zs (-1) ks (-2)=true):Z4 (.mk 2 Tree.nil Tree.nil w ks 0 []) (-1)=true:=by
 rw [Z4,if_neg V5,if_neg (by simp [Yz,Tree.nil]),if_neg V5,h1,show (-1:Int) - 1= -2 from rfl,h2]
 try rfl
theorem Znu{l:Int}{os:List Op}(hl:2<=l/\l<=9)(h:Zu l os (-2)=true)(h1:Z1D os 0 < 1048576)(h2:Z1C os 0 < 1048576):Z4 (.mk 3 Tree.nil Tree.nil [] [] l os) (-1)=true:=by
 rw [Z4,if_neg V5,if_neg (by simp [Yz,Tree.nil]),if_neg V5,show (-1:Int) - 1= -2 from rfl,h]
 simp only [ZL,Zs,QS,Xm,Q1,decide_eq_true_eq]
 omega
theorem ZaF:∀ {l:List WEdit} {last:Int},asc WEdit.at_ last l->(∀ w∈l,w.at_<=65534/\w.mask≠0/\Yl w.old w.mask=true/\Yl w.new w.mask=true)->ZL last l=true
 | [],_,_,_=> rfl
 | a ::r,last,h,hw=> by
  obtain ⟨h1,s,u,h4⟩:=hw a Q5
  simp only [ZL,Q1,decide_eq_true_eq]
  exact ⟨⟨⟨⟨h.1,h1,s⟩,u⟩,h4⟩,ZaF h.2 fun w b=> hw w (Q4 _ b)⟩
theorem Zbq{d:Int}:∀ {l:List Kid} {last:Int},asc KidOf.at_ last l->(∀ k∈l,k.at_<=65534/\k.e.kind≠0/\Z4 k.e d=true)->Zs last l d=true
 | [],_,_,_=> rfl
 | a ::r,last,h,hw=> by
  obtain ⟨h1,s,u⟩:=hw a Q5
  simp only [Zs,Z3Q,Q1,decide_eq_true_eq]
  exact ⟨⟨⟨h.1,h1,s⟩,u⟩,Zbq h.2 fun w b=> hw w (Q4 _ b)⟩
theorem Zbo{list d:Int}:∀ {l:List Op},(∀ o∈l,Zg list o d=true)->Zu list l d=true
 | [],_=> rfl
 | a ::r,h=> by
  simp only [Zu,Q1]
  exact ⟨h a Q5,Zbo fun o b=> h o (Q4 _ b)⟩
theorem Z4u{D list:Int}:∀ {l:List Tree},(∀ t∈l,Zi (.mk list [] [t]) D=true)->Y0 D list l=true
 | [],_=> rfl
 | t ::r,h=> by
  simp only [Y0,Q1]
  exact ⟨h t Q5,Z4u fun x b=> h x (Q4 _ b)⟩
theorem Zll{list n:Int}(h1:1<=n)(h2:n<=1048576)(d:Int):Zg list ⟨0,n,[],Edit.nil⟩ d=true:=by
 rw [Zg,if_pos rfl,Z1g]
 grind
theorem Zc3{list k d:Int}{l:List Tree}(hk:k=1\/k=2)(h:Y0 (dT d) list l=true)(hl:l≠[]):Zg list ⟨k,0,l,Edit.nil⟩ d=true:=by
 rw [Zg,Y7,Y7,V0,Z1g,h]
 have:=XA.2 hl
 grind
theorem Zlm{list d:Int}{e:Edit}(h:Z4 e d=true)(h0:e.kind≠0)(hl:7 < list)(hw:list=8\/e.kind=2\/e.kind=1/\e.old.kind=1/\e.new.kind=1):Zg list ⟨3,0,[],e⟩ d=true:=by
 rw [Zg,if_neg V5,if_neg V5,if_neg V5,h]
 grind
def Wl(list:Int)(e:Edit):Prop:=list=8\/e.kind=2\/e.kind=1/\e.old.kind=1/\e.new.kind=1
theorem Znd{w m:Int}(h:∀ i,i < 8->Z5G m (i:Nat)=false->Jr w i=0):Yl w m=true:=by
 unfold Yl mix of8
 rw [decide_eq_true_eq]
 have z:∀ i,i < 8->Z5H w 0 m i=0:=by
  intro i b
  unfold Z5H
  split
  .exact Zxi i
  .grind
 grind
theorem Zhb:∀ {l:List Kid},(∀ k∈l,InR k.at_/\Yh k.e)->Z1Q l
 | [],_=> trivial
 | ⟨a,e⟩ ::r,h=> ⟨h _ Q5,Zhb fun k b=> h k (Q4 _ b)⟩
theorem Zha:∀ {l:List Op},(∀ o∈l,Z0I o)->Z0H l
 | [],_=> trivial
 | o ::r,h=> ⟨h _ Q5,Zha fun k b=> h k (Q4 _ b)⟩
end Go.AM.YtpjenobkibfpcaaGreat
namespace Go.AM
def wOk(w:WEdit):Prop:=ZeS w/\Yl w.old w.mask=true/\Yl w.new w.mask=true
end Go.AM
namespace Go.AM.YtpjenobkibfpcaaGreat
open Go.AM Go.Proofs
theorem ZnO:Z4 Edit.nil 1=true:=rfl
mutual
def utE:Edit->Nat
 | .mk _ o n w ks _ os=> 16+Zk o+Zk n+65600*w.length+ZBX ks+ZBV os
def ZBX:List (KidOf Edit)->Nat
 | []=> 0
 | k ::r=> ZBY k+ZBX r
def ZBY:KidOf Edit->Nat
 | ⟨_,e⟩=> 65600+utE e
def ZBV:List (OpOf Edit)->Nat
 | []=> 0
 | o ::r=> ZBW o+ZBV r
def ZBW:OpOf Edit->Nat
 | ⟨k,n,l,e⟩=> if k=3 then 16+utE e else 34*(n.toNat+l.length)+Z9 l
end
def φU(o:Op):Int:=ZBW o
noncomputable section
def ZmF:ArgL (Int × Unit):=(.cons (YR .u8) .nil)
def ZbK(a:Int × Unit):Prop:=0<=a.1/\a.1 < 256
def ZpH(a:Int × Unit):V U:= .c (.int .u64 ((Z01 (a.1).toNat 8:Nat):Int))
def Z6L:Fs U:=fs ZmF (fun a=> [ZbK a]) ZpH
def ZmQ:ArgL (Int × Int × Int × Unit):=(.cons (YR .u64) (.cons (YR .u64) (.cons (YR .u8) .nil)))
def JB(a:Int × Int × Int × Unit):Prop:=(0<=a.1/\a.1 < 18446744073709551616)/\(0<=a.2.1/\a.2.1 < 18446744073709551616)/\(0<=a.2.2.1/\a.2.2.1 < 256)
def ZpM(a:Int × Int × Int × Unit):V U:= .c (.int .u64 (mix a.1 a.2.1 a.2.2.1))
def YK:Fs U:=fs ZmQ (fun a=> [JB a]) ZpM
def ZpU(a:Tree × Unit):V U:= .c (.bool (decide (Tree.kind a.1≠10) && Zi a.1 64))
def Z2R:Fs U:=fs Zk6 (fun a=> [ZdO a]) ZpU
def ZbI(a:Int × Tree × Unit):Prop:=Zk a.2.1<=18000000000/\rng a.2.1/\InR a.1
def ZpG(a:Int × Tree × Unit):V U:= .c (.bool (Zi (Tree.mk a.1 [] [a.2.1]) 64))
def Z6J:Fs U:=fs ZmN (fun a=> [ZbI a]) ZpG
def ZmD:ArgL (Int × Edit × Unit):=(.cons (YR .i64) (.cons (aEl .edit) .nil))
def Zji(a:Int × Edit × Unit):Prop:=True
def ZpF(a:Int × Edit × Unit):V U:= .c (.bool (Z0k a.1 a.2.1))
def Z2N:Fs U:=fs ZmD (fun a=> [Zji a]) ZpF
def Zn2:ArgL (List WEdit × Unit):=(.cons (aSl .wedit) .nil)
def ZbV(a:List WEdit × Unit):Prop:=(a.1).length<=20000000000/\∀ x∈a.1,ZeS x
def ZpT(a:List WEdit × Unit):V U:= .c (.bool (ZL (-1) a.1))
def Z2Q:Fs U:=fs Zn2 (fun a=> [ZbV a]) ZpT
def Zcm:Z6 U:=lvl [([0],[]),([0,3],[]),([0,3,5],[]),([0,3,5,6],[]),([0,3,4,5],[]),([0,3,4,5,12],[]),([0,3,5],[]),([0,3,5],[]),([2],[])]
def Z2x(m b h:Int):LSt U:=(L2 [(0,.c (.int .u8 m)),(3,.c (.int .u64 b)),pI 5 h] [])
abbrev ZDO(m:Int)(Q:QT):=AW (Z1 ZjN) Tryz.f215 Zcm [] (L2 [(0,.c (.int .u8 m))] []) Q
theorem ZB6(m:Int)(Q:QT)(h:Zp (AW (Z1 ZjN) Tryz.f215 Zcm [1,1,0,1,0,0]) (Z2x m 0 0) (xB 0 (SW (Z1 ZjN) Tryz.f215 Zcm [1,1,1] Q))):
  ZDO m Q:=
 Eq.mpr V6 h
abbrev ZvC(m b h:Int)(N0:NT)(Q:QT):=AW (Z1 ZjN) Tryz.f215 Zcm [1,1,0,1,0,0] (Z2x m b h) (xT N0 (xB 0 (SW (Z1 ZjN) Tryz.f215 Zcm [1,1,1] Q)))
theorem ZoM(m s b:Int)(N0:NT)(Q:QT)(h:let z1:=IntKind.bits .u8;let z0:=IntKind.bits .u64;iB (decide (b < 8)) (((0:Int)<=b)/\(iB (((IntKind.wrap .u8 (BitVec.ofInt z1 (Int.fdiv m (2 ^ (min b.toNat z1))) &&& BitVec.ofInt z1 1).toNat):Int)==1) ((InR ((8:Int)*b))/\((0:Int)<=((8:Int)*b))/\((InR (b+1))/\(N0 (Z2x m (IntKind.wrap .u64 (BitVec.ofInt z0 s ||| BitVec.ofInt z0 (IntKind.wrap .u64 ((255:Int)*2 ^ (min (Int.toNat ((8:Int)*b)) z0)))).toNat) (b+1))))) ((InR (b+1))/\(N0 (Z2x m s (b+1)))))) (Q .ret (L2 [(2,.c (.int .u64 s))] []))):
  ZvC m s b N0 Q:=
 Eq.mpr V6 h
def Zw0(m:Int):Prop:=AW (Z1 ZjN) Tryz.f215 Zcm [] (Zb (ZmF.can (m,())) []) (EQ Tryz.f215 (ZpH (m,())) [])
theorem Zuw(hb:∀ (m:Int) (_:Unit),ZbK (m,())->Zw0 m):CT 215 Z6L:=
 Z0 (l:=[]) Za rfl trivial Zcm Tryz.func215 rfl rfl 1 (fun _=> rfl) V5 (fun ⟨m,_⟩=> hb m ())
def Zm5:List (FuncId × Fs U):=[(215,Z6L)]
def Zrk:Z6 U:=lvl [([0,1,2],[]),([6],[])]
abbrev ZDS(a b m:Int)(Q:QT):=AW (Z1 Zm5) Tryz.f176 Zrk [] (L2 [(0,.c (.int .u64 a)),(1,.c (.int .u64 b)),(2,.c (.int .u8 m))] []) Q
theorem ZBm(a b m:Int)(Q:QT)(h:let z0:=IntKind.bits .u64;(ZbK (m,()))/\(ZbK (m,()))/\(Q .ret (L2 [(6,.c (.int .u64 (IntKind.wrap .u64 (BitVec.ofInt z0 (IntKind.wrap .u64 (BitVec.ofInt z0 a &&& ~~~(BitVec.ofInt z0 ((Z01 m.toNat 8:Nat):Int))).toNat) ||| BitVec.ofInt z0 (IntKind.wrap .u64 (BitVec.ofInt z0 b &&& BitVec.ofInt z0 ((Z01 m.toNat 8:Nat):Int)).toNat)).toNat)))] []))):
  ZDS a b m Q:=
 Eq.mpr V6 h
def Zwg(a b m:Int):Prop:=AW (Z1 Zm5) Tryz.f176 Zrk [] (Zb (ZmQ.can (a,b,m,())) []) (EQ Tryz.f176 (ZpM (a,b,m,())) [])
theorem ZuL(Zzt:CT 215 Z6L)(hb:∀ (a:Int) (b:Int) (m:Int) (_:Unit),JB (a,b,m,())->Zwg a b m):CT 176 YK:=
 Z0 (l:=[(215,Z6L)]) Za rfl (⟨Zzt,trivial⟩) Zrk Tryz.func176 rfl rfl 3 (fun _=> rfl) V5 (fun ⟨a,b,m,_⟩=> hb a b m ())
def Zml:List (FuncId × Fs U):=[(82,JO)]
abbrev ZE0(t:Tree)(Q:QT):=AW (Z1 Zml) Tryz.f122 ZyU [] (L2 [(0,.agg (enc .tree t))] []) Q
theorem ZBJ(t:Tree)(Q:QT)(h:let z0:=Tree.mk t.kind t.words t.kids;((Tt (t.kind !=10))/\((t.kind !=10)=true->ZdO (z0,()))/\(Tt (t.kind !=10))/\(Q .ret (L2 [pB 2 (bif (t.kind !=10) then (Zi z0 64) else false)] [])))):
  ZE0 t Q:=
 Eq.mpr V6 h
def ZwD(t:Tree):Prop:=AW (Z1 Zml) Tryz.f122 ZyU [] (Zb (Zk6.can (t,())) []) (EQ Tryz.f122 (ZpU (t,())) [])
theorem Zv5(c82:CT 82 JO)(hb:∀ (t:Tree) (_:Unit),ZdO (t,())->ZwD t):CT 122 Z2R:=
 Z0 (l:=[(82,JO)]) Za rfl (⟨c82,trivial⟩) ZyU Tryz.func122 rfl rfl 1 (fun _=> rfl) V5 (fun ⟨t,_⟩=> hb t ())
def Zr5:Z6 U:=lvl [([0,3],[3]),([4],[])]
abbrev ZDL(list:Int)(t:Tree)(Q:QT):=AW (Z1 Zml) Tryz.f218 Zr5 [] (L2 [pI 0 list,(1,.agg (enc .tree t))] []) Q
theorem ZB3(list:Int)(t:Tree)(Q:QT)(h:let z0:=Tree.mk list [] ([(Tree.mk t.kind t.words t.kids)]);(ZdO (z0,()))/\(Q .ret (L2 [(4,.c (.bool (Zi z0 64)))] []))):
  ZDL list t Q:=
 Eq.mpr V6 h
def ZvX(list:Int)(t:Tree):Prop:=AW (Z1 Zml) Tryz.f218 Zr5 [] (Zb (ZmN.can (list,t,())) []) (EQ Tryz.f218 (ZpG (list,t,())) [])
theorem Zut(c82:CT 82 JO)(hb:∀ (list:Int) (t:Tree) (_:Unit),ZbI (list,t,())->ZvX list t):CT 218 Z6J:=
 Z0 (l:=[(82,JO)]) Za rfl (⟨c82,trivial⟩) Zr5 Tryz.func218 rfl rfl 2 (fun _=> rfl) V5 (fun ⟨list,t,_⟩=> hb list t ())
def ZlP:List (FuncId × Fs U):=[(220,Z1I)]
def Zr4:Z6 U:=lvl [([0,3],[3]),([0,3,5],[3]),([4],[]),([3,13],[3]),([4],[]),([4],[])]
abbrev ZDK(list:Int)(e:Edit)(Q:QT):=AW (Z1 ZlP) Tryz.f219 Zr4 [] (L2 [pI 0 list,(1,.agg (enc .edit e))] []) Q
theorem ZB2(list:Int)(e:Edit)(Q:QT)(h:let z1:=decide (2<=list/\list<=7);let z0:=bif (e.kind==1) then (e.old.kind==1) else false;((Zjh (list,()))/\(Tt (!z1))/\(Tt (!z1))/\(z1=false->(!z1)=true)/\(iB (bif z1 then true else (e.kind==0)) ((Q .ret (L2 [pB 4 false] []))) ((Tt (!(list==8)))/\(Tt (!(list==8)))/\((list==8)=false->(!(list==8))=true)/\(iB (bif (list==8) then true else (e.kind==2)) ((Q .ret (L2 [pB 4 true] []))) ((Tt (e.kind==1))/\(Tt (e.kind==1))/\(Tt (e.kind==1))/\(Tt (e.kind==1))/\(Tt z0)/\(Tt z0)/\(Tt z0)/\(Tt z0)/\(Q .ret (L2 [pB 4 (bif z0 then (e.new.kind==1) else false)] [])))))))):
  ZDK list e Q:=
 Eq.mpr V6 h
def ZvW(list:Int)(e:Edit):Prop:=AW (Z1 ZlP) Tryz.f219 Zr4 [] (Zb (ZmD.can (list,e,())) []) (EQ Tryz.f219 (ZpF (list,e,())) [])
theorem Zus(Zoi:CT 220 Z1I)(hb:∀ (list:Int) (e:Edit) (_:Unit),Zji (list,e,())->ZvW list e):CT 219 Z2N:=
 Z0 (l:=[(220,Z1I)]) Za rfl (⟨Zoi,trivial⟩) Zr4 Tryz.func219 rfl rfl 2 (fun _=> rfl) V5 (fun ⟨list,e,_⟩=> hb list e ())
def Z4X:List (FuncId × Fs U):=[(176,YK)]
def Zcq:Z6 U:=lvl [([0],[]),([0,5,6,7],[]),([0,5,6,7,8],[]),([0,3,4,5,6,7],[4]),([0,4,5,6,7,39],[4]),([2],[]),([0,5,6,7,53],[]),([2],[]),([0,5,6,7],[]),([2],[])]
def Z58(l:List WEdit)(b:Int):LSt U:=(L2 [(0,.c (sU .wedit l .unk)),(5,.c (sU .wedit l .unk)),pI 6 (l.length:Int),pI 7 b] [])
abbrev ZDZ(l:List WEdit)(Q:QT):=AW (Z1 Z4X) Tryz.f123 Zcq [] (L2 [(0,.c (sU .wedit l .unk))] []) Q
theorem ZBI(l:List WEdit)(Q:QT)(h:Zp (AW (Z1 Z4X) Tryz.f123 Zcq [1,0,1,0,0]) (Z58 l 0) (xB 0 (SW (Z1 Z4X) Tryz.f123 Zcq [1,1] Q))):
  ZDZ l Q:=
 Eq.mpr V6 h
abbrev ZvI(l:List WEdit)(b:Int)(N0:NT)(Q:QT):=AW (Z1 Z4X) Tryz.f123 Zcq [1,0,1,0,0] (Z58 l b) (xT N0 (xB 0 (SW (Z1 Z4X) Tryz.f123 Zcq [1,1] Q)))
theorem ZoZ(l:List WEdit)(s:Int)(N0:NT)(Q:QT)(h:∀ b,b=(l.getD s.toNat (WEdit.mk 0 0 0 0))->∀ u,u=(List.getD l (Int.toNat (s - 1)) (WEdit.mk 0 0 0 0))->let z6:=(Q .ret (L2 [pB 2 false] []));let z5:=decide ((0:Int) < s);let z4:=decide (b.at_ < 0);let z3:=((mix b.old 0 b.mask):Int) !=0;let z0:=bif z4 then true else (decide ((65535:Int)<=b.at_));let z2:=(!z0) && z5;let z1:=bif z0 then true else (bif z5 then (decide (b.at_<=u.at_)) else false);(iB (decide (s < (l.length:Int))) (((0:Int)<=s/\s < (l.length:Int))/\((Tt (!z4))/\(Tt (!z4))/\(z4=false->(!z4)=true)/\(Tt (!z0))/\(Tt (!z0))/\(Tt z2)/\(z2=true->InR (s - 1))/\(Tt z2)/\(Tt z2)/\(z2=true->(0:Int)<=(s - 1)/\(s - 1) < (l.length:Int))/\(Tt z2)/\(Tt z2)/\(Tt z2)/\(Tt z2)/\(Tt z2)/\((!z0)=true->(True->(!z0)=true))/\((!z0)=true->(z5=true->z2=true))/\(z0=false->(!z0)=true)/\(Tt (!z1))/\(Tt (!z1))/\(z1=false->(!z1)=true)/\(iB (bif z1 then true else (b.mask==0)) z6 ((JB (b.old,0,b.mask,()))/\(Tt (!z3))/\(Tt (!z3))/\(Tt (!z3))/\(Tt (!z3))/\((!z3)=true->JB (b.new,0,b.mask,()))/\(Tt (!z3))/\(z3=false->(!z3)=true)/\(iB (bif z3 then true else (((mix b.new 0 b.mask):Int) !=0)) z6 ((InR (s+1))/\(N0 (Z58 l (s+1))))))))) ((Q .ret (L2 [pB 2 true] []))))):
  ZvI l s N0 Q:=
 Eq.mpr V6 (h _ rfl _ rfl)
def ZwC(l:List WEdit):Prop:=AW (Z1 Z4X) Tryz.f123 Zcq [] (Zb (Zn2.can (l,())) []) (EQ Tryz.f123 (ZpT (l,())) [])
theorem Zv4(Z9T:CT 176 YK)(hb:∀ (l:List WEdit) (_:Unit),ZbV (l,())->ZwC l):CT 123 Z2Q:=
 Z0 (l:=[(176,YK)]) Za rfl (⟨Z9T,trivial⟩) Zcq Tryz.func123 rfl rfl 1 (fun _=> rfl) V5 (fun ⟨l,_⟩=> hb l ())
end
theorem ZsP:∀ n:Fin 256,∀ i:Fin 8,IntKind.wrap .u8 (BitVec.ofInt (IntKind.bits .u8) (Int.fdiv (n.1:Int) (2 ^ (min (Int.toNat (i.1:Int)) (IntKind.bits .u8)))) &&& BitVec.ofInt (IntKind.bits .u8) 1).toNat=((n.1 / 2 ^ i.1 % 2:Nat):Int):=by decide+kernel
theorem Zub:∀ n:Fin 256,∀ i:Fin 8,IntKind.wrap .u64 (BitVec.ofInt (IntKind.bits .u64) ((Z01 n.1 i.1:Nat):Int) ||| BitVec.ofInt (IntKind.bits .u64) (IntKind.wrap .u64 (255*2 ^ (min (Int.toNat (8*(i.1:Int))) (IntKind.bits .u64))))).toNat=((Z01 n.1 i.1+255*2 ^ (8*i.1):Nat):Int):=by decide+kernel
theorem Zzt:Contract Tryz.prog cfg 215 Z6L:=by
 refine Zuw ?_
 intro m _ hp
 simp only [ZbK] at hp
 obtain ⟨n,rfl⟩:=QP hp.1
 have h:n < 256:=V1
 refine ZB6 _ _ ?_
 refine Zf (ι:=Nat) (fun i=> Z2x n ((Z01 n i:Nat):Int) i) (fun i=> i<=8) (fun i=> 8 - i) 0 rfl V1 ?_
 intro i hi
 refine ZoM _ _ _ _ _ ?_
 (simp only [iB,vcS])
 refine ⟨fun hc=> ⟨V1,fun s=> ⟨V4,V1,V4,i+1,?_,V1,V1⟩,fun s=> ⟨V4,i+1,?_,V1,V1⟩⟩,fun hc=> ?_⟩
 .have b:=ZsP ⟨n,h⟩ ⟨i,V1⟩
  have u:=Zub ⟨n,h⟩ ⟨i,V1⟩
  simp only at b u
  rw [b] at s
  rw [u]
  have e:Z01 n (i+1)=Z01 n i+255*2 ^ (8*i):=by simp only [Z01];grind
  rw [e]
  try rfl
 .have b:=ZsP ⟨n,h⟩ ⟨i,V1⟩
  simp only at b
  rw [b] at s
  have e:Z01 n (i+1)=Z01 n i:=by simp only [Z01];rw [Y7];omega
  rw [e]
  try rfl
 .have:i=8:=V1
  subst this
  trivial
theorem Z4K(a:Nat)(h:a < 2 ^ 64):(BitVec.ofInt 64 (a:Int)).toNat=a:=by
 grind
theorem Z9T:Contract Tryz.prog cfg 176 YK:=by
 refine ZuL Zzt ?_
 intro a b m _ hp
 simp only [JB] at hp
 obtain ⟨⟨a0,a1⟩,⟨b0,b1⟩,m0,m1⟩:=hp
 obtain ⟨x,rfl⟩:=QP a0
 obtain ⟨y,rfl⟩:=QP b0
 obtain ⟨n,rfl⟩:=QP m0
 have hn:n < 256:=V1
 have hx:x < 2 ^ 64:=V1
 have hy:y < 2 ^ 64:=V1
 have s:=ZtD ⟨n,hn⟩
 have h:=Zkj ⟨n,hn⟩
 simp only at s h
 rw [<-h] at s
 refine ZBm _ _ _ _ ?_
 refine ⟨⟨m0,m1⟩,⟨m0,m1⟩,Z4n rfl ?_⟩
 have em:mix x y n=(((x &&& (2 ^ 64 - 1 - Z01 n 8)) ||| (y &&& Z01 n 8):Nat):Int):=by rw [<-ZqF,<-ZqE x y n hn]
 have e1:(BitVec.ofInt 64 (x:Int) &&& ~~~(BitVec.ofInt 64 ((Z01 n 8:Nat):Int))).toNat=x &&& (2 ^ 64 - 1 - Z01 n 8):=by
  rw [BitVec.toNat_and,BitVec.toNat_not,Z4K x hx,Z4K _ s]
 have e2:(BitVec.ofInt 64 (y:Int) &&& BitVec.ofInt 64 ((Z01 n 8:Nat):Int)).toNat=y &&& Z01 n 8:=by
  rw [BitVec.toNat_and,Z4K y hy,Z4K _ s]
 have l1:x &&& (2 ^ 64 - 1 - Z01 n 8) < 2 ^ 64:=Nat.lt_of_le_of_lt Nat.and_le_left hx
 have l2:y &&& Z01 n 8 < 2 ^ 64:=Nat.lt_of_le_of_lt Nat.and_le_left hy
 have l3:(x &&& (2 ^ 64 - 1 - Z01 n 8)) ||| (y &&& Z01 n 8) < 2 ^ 64:=Nat.or_lt_two_pow l1 l2
 have u:IntKind.wrap .u64 ((BitVec.ofInt 64 (IntKind.wrap .u64 ((BitVec.ofInt 64 (x:Int) &&& ~~~(BitVec.ofInt 64 ((Z01 n 8:Nat):Int))).toNat:Int)) ||| BitVec.ofInt 64 (IntKind.wrap .u64 ((BitVec.ofInt 64 (y:Int) &&& BitVec.ofInt 64 ((Z01 n 8:Nat):Int)).toNat:Int))).toNat:Int)=mix x y n:=by
  have w1:∀ k:Nat,k < 2 ^ 64->IntKind.wrap .u64 (k:Int)=k:=fun k hk=> ZoH V1 V1
  grind
 exact u
theorem ZzS:Contract Tryz.prog cfg 122 Z2R:=by
 refine Zv5 c82 ?_
 intro t _ b
 refine ZBJ _ _ ?_
 (simp only [vE])
 simp only [iB,vcT,vcS,aiT,true_and]
 refine ⟨fun _=> b,Zc rfl ?_⟩
 grind
theorem Zzq:Contract Tryz.prog cfg 218 Z6J:=by
 refine Zut c82 ?_
 intro list t _ b
 simp only [ZbI] at b
 refine ZB3 _ _ _ ?_
 (simp only [vE])
 refine ⟨⟨?_,?_⟩,V2⟩
 .simp only [Zk,Z9,Qe];omega
 .simp only [rng,ZR]
  have h:=b.2.2
  unfold InR at h
  grind
theorem Zzp:Contract Tryz.prog cfg 219 Z2N:=by
 refine Zus Zoi ?_
 intro list e _ s
 refine ZB2 _ _ _ ?_
 simp only [iB,vcT,vcS,aiT,true_and]
 refine ⟨trivial,fun h=> ?_,fun h=> ⟨fun b=> ?_,fun b=> ?_⟩⟩
 .exact Zc rfl (by show false=Z0k list e;unfold Z0k;rw [if_pos h])
 .exact Zc rfl (by show true=Z0k list e;unfold Z0k;grind)
 .refine Zc rfl ?_
  show _=Z0k list e
  unfold Z0k
  grind
theorem ZeC(last:Int)(w:WEdit)(r:List WEdit):ZL last (w ::r)=(decide (last < w.at_/\w.at_<=65534/\w.mask≠0) && Yl w.old w.mask && Yl w.new w.mask && ZL w.at_ r):=rfl
theorem ZzR:Contract Tryz.prog cfg 123 Z2Q:=by
 refine Zv4 Z9T ?_
 intro l _ hp
 simp only [ZbV] at hp
 refine ZBI _ _ ?_
 refine Zf (ι:=Int) (fun i=> Z58 l i) (fun i=> 0<=i/\i<=l.length/\(i≠0->0<=(l.getD (i - 1).toNat (WEdit.mk 0 0 0 0)).at_)/\ZL (if i=0 then -1 else (l.getD (i - 1).toNat (WEdit.mk 0 0 0 0)).at_) (l.drop i.toNat)=ZL (-1) l) (fun i=> ((l.length:Int) - i).toNat) 0 rfl ⟨V1,V1,by simp,by simp⟩ ?_
 rintro i ⟨h1,h2,s,b⟩
 refine ZoZ _ _ _ _ ?_
 rintro y1 h y2 aa
 simp only [iB,vcT,vcS,aiT,true_and]
 refine ⟨fun hi=> ?_,fun hi=> ?_⟩
 .have hm:=hp.2 _ (Zq (l:=l) (i:=i.toNat) V1 (WEdit.mk 0 0 0 0))
  rw [Jd h1 hi (WEdit.mk 0 0 0 0),ZeC] at b
  rw [<-h] at b hm
  rw [<-aa] at b s
  obtain ⟨r1,r2,r3,r4⟩:=hm
  unfold isW at r3 r4
  have hw:∀ x:Int,Yl x y1.mask=decide (mix x 0 y1.mask=0):=fun x=> rfl
  refine ⟨⟨h1,hi⟩,fun _=> by unfold InR;omega,fun _=> ⟨V1,V1⟩,fun hq=> ?_,fun hq=> ⟨⟨r3,by grind,r2⟩,fun _=> ⟨r4,by grind,r2⟩,fun u=> ?_,fun u=> ⟨V4,i+1,rfl,⟨V1,V1,fun _=> by grind,?_⟩,V1⟩⟩⟩
  .refine Zc rfl ?_
   show false=ZL (-1) l
   rw [<-b,decide_eq_false]
   .try rfl
   omega
  .refine Zc rfl ?_
   grind
  .rw [Y7,show i+1 - 1=i by omega,<-h,<-b,hw,hw,decide_eq_true u.1,decide_eq_true u.2,decide_eq_true]
   .simp
   omega
 .rw [Qd V1] at b
  trivial
end Go.AM.YtpjenobkibfpcaaGreat
namespace Go.AM
def wr(n:Int):Int:=IntKind.wrap .i64 n
def Z0a(o:Op):Int:=if o.kind=3 then 1 else wr (o.n+o.l.length)
def Zgt(n:Int):Int:=if 1048576 < n then 1048576 else n
def Z1x:List Op->Int->Int
 | [],n=> n
 | o ::r,n=> Z1x r (if o.kind=2 then n else Zgt (wr (n+Z0a o)))
def Z1w:List Op->Int->Int
 | [],n=> n
 | o ::r,n=> Z1w r (if o.kind=1 then n else Zgt (wr (n+Z0a o)))
def Z2E(e:Edit):Bool:=
 if (e.kind≠1/\¬(Yz e.old=true/\Yz e.new=true))\/(e.kind≠2/\¬(e.words.length=0/\e.kids.length=0))\/(e.kind≠3/\(e.list≠0\/e.ops.length≠0)) then false else true
end Go.AM
namespace Go.AM.YtpjenobkibfpcaaGreat
open Go.AM Go.Proofs
noncomputable section
def ZbO(a:Edit × Unit):Prop:=Z8 a.1<=20000000000
def ZpN(a:Edit × Unit):V U:= .tup [(false,[ci (Z1x a.1.ops 0)]),(false,[ci (Z1w a.1.ops 0)])]
def Z2P:Fs U:=fs Zt6 (fun a=> [ZbO a]) ZpN
def Jw:Z6 U:=lvl [([1],[1]),([1,4,5],[1]),([4,5,10,11,12],[]),([4,5,10,11,12,13],[]),([4,5,7,10,11,12],[7]),([4,5,7,8,10,11,12],[7]),([4,5,7,8,10,11,12,24],[7]),([4,5,7,8,10,11,12,24],[7]),([4,5,7,8,10,11,12,27],[7]),([4,5,7,8,10,11,12,27],[7]),([4,5,8,10,11,12,34],[]),([4,5,10,11,12],[]),([4,5,10,11,12],[]),([2,3],[])]
def Z0e(e:Edit)(s h b:Int):LSt U:=(L2 [pI 4 s,pI 5 h,(10,.c (sU .op e.ops .unk)),pI 11 (e.ops.length:Int),pI 12 b] [])
def Z8G(e:Edit)(u s b h:Int):LSt U:=(L2 [pI 4 u,pI 5 s,pL 7,pI 8 h,(10,.c (sU .op e.ops .unk)),pI 11 (e.ops.length:Int),pI 12 b,(24,.c (.bool (((OpOf.kind (e.ops.getD b.toNat Op.nil)):Int)==3)))] [(.loc 7,(enc .op (e.ops.getD b.toNat Op.nil)))])
def Z8F(e:Edit)(u b h s:Int):LSt U:=(L2 [pI 4 s,pI 5 u,pL 7,pI 8 h,(10,.c (sU .op e.ops .unk)),pI 11 (e.ops.length:Int),pI 12 b,(27,.c (.bool (((OpOf.kind (e.ops.getD b.toNat Op.nil)):Int) !=2)))] [(.loc 7,(enc .op (e.ops.getD b.toNat Op.nil)))])
abbrev ZDT(e:Edit)(Q:QT):=AW (Jl ZjN) Tryz.f169 Jw [] (L2 [(0,.agg (enc .edit e))] []) Q
theorem ZBr(e:Edit)(Q:QT)(h:Zp (AW (Jl ZjN) Tryz.f169 Jw [1,1,0,1,0,0]) (Z0e e 0 0 0) (xB 0 (SW (Jl ZjN) Tryz.f169 Jw [1,1,1] Q))):
  ZDT e Q:=
 Eq.mpr V6 h
abbrev ZvE(e:Edit)(s h b:Int)(N0:NT)(Q:QT):=AW (Jl ZjN) Tryz.f169 Jw [1,1,0,1,0,0] (Z0e e s h b) (xT N0 (xB 0 (SW (Jl ZjN) Tryz.f169 Jw [1,1,1] Q)))
theorem ZoS(e:Edit)(u s b:Int)(N0:NT)(Q:QT)(h:let z1:=e.ops.getD b.toNat Op.nil;let z0:=xB 1 (SW (Jl ZjN) Tryz.f169 Jw [1,1,0,1,0,0,1,1,1] (xT N0 (xB 0 (SW (Jl ZjN) Tryz.f169 Jw [1,1,1] Q))));iB (decide (b < (e.ops.length:Int))) (((0:Int)<=b/\b < (e.ops.length:Int))/\(iB (((OpOf.kind z1):Int)==3) (AW (Jl ZjN) Tryz.f169 Jw [1,1,0,1,0,0,1,1,0,0,1,1,1] (Z8G e u s b 1) z0) (AW (Jl ZjN) Tryz.f169 Jw [1,1,0,1,0,0,1,1,0,0,1,1,1] (Z8G e u s b (IntKind.wrap .i64 (((OpOf.n z1):Int)+((OpOf.l z1).length:Int)))) z0))) (Q .ret (L2 [pI 2 u,pI 3 s] []))):
  ZvE e u s b N0 Q:=
 Eq.mpr V6 h
abbrev Znb(e:Edit)(u s h b:Int)(N0:NT)(Q:QT):=AW (Jl ZjN) Tryz.f169 Jw [1,1,0,1,0,0,1,1,0,0,1,1,1] (Z8G e u s h b) (xB 1 (SW (Jl ZjN) Tryz.f169 Jw [1,1,0,1,0,0,1,1,1] (xT N0 (xB 0 (SW (Jl ZjN) Tryz.f169 Jw [1,1,1] Q)))))
theorem ZoU(e:Edit)(x4 u s b:Int)(N0:NT)(Q:QT)(h:let z1:=IntKind.wrap .i64 (x4+b);let z0:=xB 1 (SW (Jl ZjN) Tryz.f169 Jw [1,1,0,1,0,0,1,1,1] (xT N0 (xB 0 (SW (Jl ZjN) Tryz.f169 Jw [1,1,1] Q))));iB (((OpOf.kind (e.ops.getD s.toNat Op.nil)):Int) !=2) (AW (Jl ZjN) Tryz.f169 Jw [1,1,0,1,0,0,1,1,0,0,1,1,1,1] (Z8F e u s b (if (1048576:Int) < z1 then 1048576 else z1)) z0) (AW (Jl ZjN) Tryz.f169 Jw [1,1,0,1,0,0,1,1,0,0,1,1,1,1] (Z8F e u s b x4) z0)):
  Znb e x4 u s b N0 Q:=
 Eq.mpr V6 h
abbrev Zna(e:Edit)(u s b h:Int)(N0:NT)(Q:QT):=AW (Jl ZjN) Tryz.f169 Jw [1,1,0,1,0,0,1,1,0,0,1,1,1,1] (Z8F e u s b h) (xB 1 (SW (Jl ZjN) Tryz.f169 Jw [1,1,0,1,0,0,1,1,1] (xT N0 (xB 0 (SW (Jl ZjN) Tryz.f169 Jw [1,1,1] Q)))))
theorem ZoT(e:Edit)(x5 s u b:Int)(N0:NT)(Q:QT)(h:let z0:=IntKind.wrap .i64 (x5+u);iB (((OpOf.kind (e.ops.getD s.toNat Op.nil)):Int) !=1) (N0 (Z0e e b (if (1048576:Int) < z0 then 1048576 else z0) (IntKind.wrap .i64 (s+1)))) (N0 (Z0e e b x5 (IntKind.wrap .i64 (s+1))))):
  Zna e x5 s u b N0 Q:=
 Eq.mpr V6 h
def Zwl(e:Edit):Prop:=AW (Jl ZjN) Tryz.f169 Jw [] (Zb (Zt6.can (e,())) []) (EQ Tryz.f169 (ZpN (e,())) [])
theorem ZuQ(hb:∀ (e:Edit) (_:Unit),ZbO (e,())->Zwl e):CT 169 Z2P:=
 ZcT (l:=[]) Za rfl trivial Jw Tryz.func169 rfl rfl 1 (fun _=> rfl) V5 (fun ⟨e,_⟩=> hb e ())
end
theorem ZgS{n:Int}(h:InR n):wr n=n:=by
 unfold InR at h
 simp [wr,IntKind.wrap,IntKind.signed,IntKind.bits]
 omega
theorem ZjH{l:List Op}{i:Int}(n:Int)(h0:0<=i)(h:i < l.length):Z1x (l.drop i.toNat) n=Z1x (l.drop (i+1).toNat) (if (l.getD i.toNat Op.nil).kind=2 then n else Zgt (wr (n+Z0a (l.getD i.toNat Op.nil)))):=by
 rw [Jd h0 h Op.nil,Z1x]
theorem ZjG{l:List Op}{i:Int}(n:Int)(h0:0<=i)(h:i < l.length):Z1w (l.drop i.toNat) n=Z1w (l.drop (i+1).toNat) (if (l.getD i.toNat Op.nil).kind=1 then n else Zgt (wr (n+Z0a (l.getD i.toNat Op.nil)))):=by
 rw [Jd h0 h Op.nil,Z1w]
theorem ZzG:Contract Tryz.prog cfg 169 Z2P:=by
 refine ZuQ ?_
 intro e _ hp
 simp only [ZbO] at hp
 have h1:=YU e
 have h2:=Y8 e.ops
 refine ZBr _ _ ?_
 refine Zf (ι:=Int × Int × Int) (fun s=> Z0e e s.1 s.2.1 s.2.2) (fun s=> (0<=s.2.2/\s.2.2<=e.ops.length)/\Z1x (e.ops.drop s.2.2.toNat) s.1=Z1x e.ops 0/\Z1w (e.ops.drop s.2.2.toNat) s.2.1=Z1w e.ops 0) (fun s=> ((e.ops.length:Int) - s.2.2).toNat) (0,0,0) rfl ⟨⟨by simp,by simp⟩,rfl,rfl⟩ ?_
 rintro ⟨n,m,i⟩ ⟨⟨g1,g2⟩,g3,u⟩
 dsimp only at g1 g2 g3 u
 refine ZoS _ _ _ _ _ _ ?_
 (simp only [iB,vcS])
 refine ⟨fun hi=> ⟨⟨g1,hi⟩,?_⟩,fun hi=> ?_⟩
 .rw [ZjH _ g1 hi] at g3
  rw [ZjG _ g1 hi] at u
  have hk:IntKind.wrap .i64 (i+1)=i+1:=ZgS V4
  generalize hy:e.ops.getD i.toNat Op.nil=y at*
  have ab:∀ k:Int,k=Z0a y->∀ (Q':AExit->LSt U->Prop),Znb e n m i k (fun s2=> ∃ j:Int × Int × Int,s2=Z0e e j.1 j.2.1 j.2.2/\((0<=j.2.2/\j.2.2<=e.ops.length)/\Z1x (e.ops.drop j.2.2.toNat) j.1=Z1x e.ops 0/\Z1w (e.ops.drop j.2.2.toNat) j.2.1=Z1w e.ops 0)/\((e.ops.length:Int) - j.2.2).toNat < ((e.ops.length:Int) - i).toNat) Q':=by
   rintro k rfl Q'
   have h:∀ a:Int,a=(if y.kind=2 then n else Zgt (wr (n+Z0a y)))->Zna e m i (Z0a y) a (fun s2=> ∃ j:Int × Int × Int,s2=Z0e e j.1 j.2.1 j.2.2/\((0<=j.2.2/\j.2.2<=e.ops.length)/\Z1x (e.ops.drop j.2.2.toNat) j.1=Z1x e.ops 0/\Z1w (e.ops.drop j.2.2.toNat) j.2.1=Z1w e.ops 0)/\((e.ops.length:Int) - j.2.2).toNat < ((e.ops.length:Int) - i).toNat) Q':=by
    rintro a ha
    refine ZoT _ _ _ _ _ _ _ ?_
    rw [hy,hk]
    (simp only [iB,vcS])
    rw [<-ha] at g3
    refine ⟨fun b=> ⟨(a,_,i+1),rfl,⟨⟨V3,V3⟩,g3,?_⟩,V3⟩,fun b=> ⟨(a,_,i+1),rfl,⟨⟨V3,V3⟩,g3,?_⟩,V3⟩⟩
    .rw [if_neg b] at u;exact u
    .rw [if_pos b] at u;exact u
   refine ZoU _ _ _ _ _ _ _ ?_
   rw [hy]
   (simp only [iB,vcS])
   exact ⟨fun b=> h _ (by rw [if_neg b];rfl),fun b=> h _ (by rw [if_pos b])⟩
  exact ⟨fun b=> ab _ (by unfold Z0a;rw [if_pos b]) _,fun b=> ab _ (by unfold Z0a;rw [if_neg b];rfl) _⟩
 .rw [Qd V1] at g3 u
  simp only [Z1x,Z1w] at g3 u
  rw [g3,u]
  exact V2
theorem ZhW:∀ (l:List Op) (n:Int),(∀ o∈l,(0<=o.n/\o.n<=1048576)/\o.l.length<=20000000000)->0<=n->n<=1048576->Z1x l n=Z1D l n
 | [],_,_,_,_=> rfl
 | o ::r,n,h,h0,hn=> by
  have u:=h o (Q5 ..)
  have hl:=ZT o
  have s:Z0a o=Z2 o:=by
   unfold Z0a;rw [hl]
   split
   .try rfl
   .exact ZgS V4
  have hb:0<=Z2 o/\Z2 o<=60000000000:=by rw [hl];split <;> omega
  simp only [Z1x,Z1D]
  rw [s,ZgS V4]
  have e2:(if o.kind=2 then n else Zgt (n+Z2 o))=min (if o.kind=2 then n else n+Z2 o) 1048576:=by
   unfold Zgt;split
   .omega
   .omega
  rw [e2]
  exact ZhW r _ (fun x b=> h x (Q4 _ b)) V1 V1
theorem ZhV:∀ (l:List Op) (n:Int),(∀ o∈l,(0<=o.n/\o.n<=1048576)/\o.l.length<=20000000000)->0<=n->n<=1048576->Z1w l n=Z1C l n
 | [],_,_,_,_=> rfl
 | o ::r,n,h,h0,hn=> by
  have u:=h o (Q5 ..)
  have hl:=ZT o
  have s:Z0a o=Z2 o:=by
   unfold Z0a;rw [hl]
   split
   .try rfl
   .exact ZgS V4
  have hb:0<=Z2 o/\Z2 o<=60000000000:=by rw [hl];split <;> omega
  simp only [Z1w,Z1C]
  rw [s,ZgS V4]
  have e2:(if o.kind=1 then n else Zgt (n+Z2 o))=min (if o.kind=1 then n else n+Z2 o) 1048576:=by
   unfold Zgt;split
   .omega
   .omega
  rw [e2]
  exact ZhV r _ (fun x b=> h x (Q4 _ b)) V1 V1
noncomputable section
def ZmP:ArgL (List Tree × List Tree × Unit × Unit):=(.cons (aSl .tree) (.cons (aSl .tree) (.cons (aFn 114) .nil)))
def Z63(a:List Tree × List Tree × Unit × Unit):Prop:=Z9 a.1<=1000000000000/\Z9 a.2.1<=1000000000000
def ZpL(a:List Tree × List Tree × Unit × Unit):V U:= .c (.bool (eqX (Zd a.1) (Zd a.2.1)))
def JQ:Fs U:=fs ZmP (fun a=> [Z63 a]) ZpL
def Z4U:List (FuncId × Fs U):=[(114,YX)]
def Zcn:Z6 U:=lvl [([0,1,2],[]),([0,1,2,14],[]),([6],[]),([1,2,15,16,17],[]),([1,2,15,16,17,18],[]),([1,2,7,8,15,16,17],[8]),([1,2,8,9,15,16,17],[8,9]),([1,2,15,16,17,30],[]),([6],[]),([1,2,15,16,17],[]),([6],[])]
def Z53(a b:List Tree)(f:Unit)(h:Int):LSt U:=(L2 [(1,.c (sU .tree b .unk)),(2,.fn 114),(15,.c (sU .tree a .unk)),pI 16 (a.length:Int),pI 17 h] [])
abbrev ZDR(a b:List Tree)(f:Unit)(Q:QT):=AW (Z1 Z4U) Tryz.f177 Zcn [] (L2 [(0,.c (sU .tree a .unk)),(1,.c (sU .tree b .unk)),(2,.fn 114)] []) Q
theorem ZBl(a b:List Tree)(f:Unit)(Q:QT)(h:iB (((a.length:Int):Int) !=(b.length:Int)) (Q .ret (L2 [pB 6 false] [])) (Zp (AW (Z1 Z4U) Tryz.f177 Zcn [1,1,0,1,0,0]) (Z53 a b f 0) (xB 0 (SW (Z1 Z4U) Tryz.f177 Zcn [1,1,1] Q)))):
  ZDR a b f Q:=
 Eq.mpr V6 h
abbrev ZvD(a b:List Tree)(f:Unit)(h:Int)(N0:NT)(Q:QT):=AW (Z1 Z4U) Tryz.f177 Zcn [1,1,0,1,0,0] (Z53 a b f h) (xT N0 (xB 0 (SW (Z1 Z4U) Tryz.f177 Zcn [1,1,1] Q)))
theorem ZoQ(a b:List Tree)(f:Unit)(s:Int)(N0:NT)(Q:QT)(h:let z3:=a.getD s.toNat Tree.nil;let z2:=b.getD s.toNat Tree.nil;let z1:=Tree.mk (Tree.kind z2) (Tree.words z2) (Tree.kids z2);let z0:=Tree.mk (Tree.kind z3) (Tree.words z3) (Tree.kids z3);iB (decide (s < (a.length:Int))) (((0:Int)<=s/\s < (a.length:Int))/\(((0:Int)<=s/\s < (b.length:Int))/\((Z1n (z0,z1,()))/\(iB (!(ZW (Z5 z0) (Z5 z1))) (Q .ret (L2 [pB 6 false] [])) ((InR (s+1))/\(N0 (Z53 a b f (s+1)))))))) (Q .ret (L2 [pB 6 true] []))):
  ZvD a b f s N0 Q:=
 Eq.mpr V6 h
def Zwf(a b:List Tree)(f:Unit):Prop:=AW (Z1 Z4U) Tryz.f177 Zcn [] (Zb (ZmP.can (a,b,f,())) []) (EQ Tryz.f177 (ZpL (a,b,f,())) [])
theorem ZuK(Z9U:CT 114 YX)(hb:∀ (a:List Tree) (b:List Tree) (f:Unit) (_:Unit),Z63 (a,b,f,())->Zwf a b f):CT 177 JQ:=
 Z0 (l:=[(114,YX)]) Za rfl (⟨Z9U,trivial⟩) Zcn Tryz.func177 rfl rfl 3 (fun _=> rfl) V5 (fun ⟨a,b,f,_⟩=> hb a b f ())
end
theorem Zgu:Contract Tryz.prog cfg 177 JQ:=by
 refine ZuK Z9U ?_
 intro a b f _ hp
 simp only [Z63] at hp
 refine ZBl a b f _ ?_
 (simp only [iB,vcS])
 refine ⟨fun hc=> Zc rfl (Zsm (a:=Zd a) (b:=Zd b) (fun h=> hc (by have:=congrArg List.length h;simp [Zd] at this;omega))).symm,fun hc=> ?_⟩
 have hl:a.length=b.length:=V1
 have ae:=Zt a
 refine Zf (ι:=Int) (fun i=> Z53 a b f i) (fun i=> 0<=i/\i<=a.length/\∀ j:Nat,(j:Int) < i->Z5 (a.getD j Tree.nil)=Z5 (b.getD j Tree.nil)) (fun i=> ((a.length:Int) - i).toNat) 0 rfl ⟨V1,V1,V1⟩ ?_
 rintro i ⟨u,h2,h3⟩
 refine ZoQ a b f _ _ _ ?_
 (simp only [iB,vcS])
 (simp only [vE])
 refine ⟨fun hi=> ⟨⟨u,hi⟩,⟨u,V1⟩,?_,fun s=> ?_,fun s=> ⟨V4,i+1,rfl,⟨V1,V1,?_⟩,V1⟩⟩,fun hi=> ?_⟩
 .have:=Jh (Zq (l:=a) (i:=i.toNat) V1 Tree.nil)
  have:=Jh (Zq (l:=b) (i:=i.toNat) V1 Tree.nil)
  simp only [Z1n];omega
 .refine Zc rfl (Zsm (a:=Zd a) (b:=Zd b) (fun h=> ?_)).symm
  have h5:=Zib (d:=Tree.nil) h i.toNat
  rw [J3] at s
  exact s h5
 .intro j hj
  by_cases hj2:(j:Int) < i
  .exact h3 j hj2
  .rw [Z08,show i.toNat=j by omega] at s
   exact s
 .exact Zc rfl (Z3b (a:=Zd a) (b:=Zd b).2 (ZhR Tree.nil hl (fun j hj=> h3 j V1))).symm
noncomputable section
def Z7a(a:List Int × Unit):List Int:=a.1
def Z2b:Fs U:=fsL Zn5 (fun a=> [ZbX a]) .u64 Z7a
def ZmR:ArgL (List Tree × Unit):=(.cons (aSl .tree) .nil)
def ZbM(a:List Tree × Unit):Prop:=a.1.length<=1000000000000
def Zai(a:List Tree × Unit):List Tree:=a.1
def Z4x:Fs U:=fsL ZmR (fun a=> [ZbM a]) .tree Zai
def Z8T:ArgL (Edit × Tree × Unit):=(.cons (aEl .edit) (.cons (aEl .tree) .nil))
def Z2k(a:Edit × Tree × Unit):Prop:=(Z8 a.1<=20000000000/\Yh a.1/\∃ d,Z4 a.1 d=true)/\Zk a.2.1+ctE a.1<=200000000000/\rng a.2.1
def Zdc(a:Edit × Tree × Unit):Nat:=2*Z8 a.1+1
def Z3S(a:Edit × Tree × Unit):V U:= .tup [(true,(enc .tree (Z9M a.1 a.2.1))),(false,[.bool ((doE false a.1 a.2.1).isSome)])]
def Z86:Fs U:=fs Z8T (fun a=> [Z2k a]) Z3S
def Z30(a:Edit × Tree × Unit):Prop:=Edit.kind a.1=2/\(Z8 a.1<=20000000000/\Yh a.1/\∃ d,Z4 a.1 d=true)/\Zk a.2.1+ctE a.1<=200000000000/\rng a.2.1
def Z9m(a:Edit × Tree × Unit):Nat:=2*Z8 a.1
def Z2W(a:Edit × Tree × Unit):V U:= .tup [(true,(enc .tree (Z0x (Z9L false a.1 a.2.1)))),(false,[.bool ((Z9L false a.1 a.2.1).isSome)])]
def Zkw:Fs U:=fs Z8T (fun a=> [Z30 a]) Z2W
def Z2Z(a:Edit × Tree × Unit):Prop:=Edit.kind a.1=3/\(Z8 a.1<=20000000000/\Yh a.1/\∃ d,Z4 a.1 d=true)/\Zk a.2.1+ctE a.1<=200000000000/\rng a.2.1
def Z2V(a:Edit × Tree × Unit):V U:= .tup [(true,(enc .tree (ZrF a.1 (Z5v false a.1 a.2.1)))),(false,[.bool ((ZcN (Z5v false a.1 a.2.1)).isSome)])]
def Zkv:Fs U:=fs Z8T (fun a=> [Z2Z a]) Z2V
def ZjC:Z6 U:=lvk [([0],[]),([0,4],[]),([(2,[.wr .u64])],[]),([(2,[.wr .u64])],[])]
abbrev ZD7(p:List Nat):=AW (Z1z ZjN) Tryz.f117 ZjC p
theorem ZxX(l:List Int)(Q:QT)(h:(((l=[])->(Q .ret (⟨[(2,.c (.mref (.e 2 0)))],[],[(.e 2 0,LC.mk (U:=U) .u64 [] 0)]⟩:LSt U)))/\(True->((([]:List Int).length+l.length)*8<=140737488355328)/\(Q .ret (⟨[(2,.c (.mref (.e 2 0)))],[],[(.e 2 0,LC.mk (U:=U) .u64 (([]:List Int)++l) (([]:List Int).length))]⟩:LSt U))))):
  ZD7 [] (L2 [(0,.c (sU .u64 l .unk))] []) Q:=
 Eq.mpr V6 h
def Zty(l:List Int):Prop:=AW (Z1z ZjN) Tryz.f117 ZjC [] (Zb (Zn5.can (l,())) []) (JG cfg Tryz.f117.ntmps Tryz.f117.results.toList (.c (.mref (.r 0 0))) [] [(.r 0 0,LC.mk (U:=U) .u64 (Z7a (l,())) 0)])
theorem ZqW(hb:∀ (l:List Int) (_:Unit),ZbX (l,())->Zty l):CT 117 Z2b:=
 JY (l:=[]) Za rfl trivial ZjC Tryz.func117 rfl rfl 1 (fun _=> rfl) V5 (fun ⟨l,_⟩=> hb l ())
def Zrl:Z6 U:=lvk [([0],[]),([0,4],[]),([(2,[.wr .tree])],[]),([(2,[.wr .tree])],[])]
abbrev ZEk(p:List Nat):=AW (Z1z ZjN) Tryz.f175 Zrl p
theorem ZBn(l:List Tree)(Q:QT)(h:(((l=[])->(Q .ret (⟨[(2,.c (.mref (.e 2 0)))],[],[(.e 2 0,LC.mk (U:=U) .tree [] 0)]⟩:LSt U)))/\(True->((([]:List Tree).length+l.length)*56<=140737488355328)/\(Q .ret (⟨[(2,.c (.mref (.e 2 0)))],[],[(.e 2 0,LC.mk (U:=U) .tree (([]:List Tree)++l) (([]:List Tree).length))]⟩:LSt U))))):
  ZEk [] (L2 [(0,.c (sU .tree l .unk))] []) Q:=
 Eq.mpr V6 h
def Zwh(l:List Tree):Prop:=AW (Z1z ZjN) Tryz.f175 Zrl [] (Zb (ZmR.can (l,())) []) (JG cfg Tryz.f175.ntmps Tryz.f175.results.toList (.c (.mref (.r 0 0))) [] [(.r 0 0,LC.mk (U:=U) .tree (Zai (l,())) 0)])
theorem ZuM(hb:∀ (l:List Tree) (_:Unit),ZbM (l,())->Zwh l):CT 175 Z4x:=
 JY (l:=[]) Za rfl trivial Zrl Tryz.func175 rfl rfl 1 (fun _=> rfl) V5 (fun ⟨l,_⟩=> hb l ())
def Z8B(N:Nat):List (FuncId × Fs U):=(74,fs Z8T (fun a=> [Z2k a,Zdc a < N]) Z3S) ::(115,fs Z8T (fun a=> [Z30 a,Z9m a < N]) Z2W) ::(116,fs Z8T (fun a=> [Z2Z a,Z9m a < N]) Z2V) ::[(114,YX),(173,Z0S),(174,Z0R),(177,JQ),(175,Z4x),(176,YK),(117,Z2b)]
def ZyW:Z6 U:=lvl [([2,3,4],[2,3,4]),([2,3,4,7],[2,3,4]),([2,3,4,7,8],[2,3,4]),([4,5],[4]),([2,3,4,7,11],[2,3,4]),([4,5],[4]),([2,3,4,7,19],[2,3,4]),([4,5],[4]),([2,3,4,26],[2,3,4]),([4,5],[4]),([4,5],[4])]
abbrev A74(N:Nat)(p:List Nat):=AW (Z1 (Z8B N)) Tryz.f74 ZyW p
theorem ZDi(N:Nat)(e:Edit)(t:Tree)(Q:QT)(h:∀ s,s=e->∀ b,b=t->∀ u,u=(e.old)->(iB (e.kind==0) ((Q .ret (L2 [pL 4,pB 5 true] [(.loc 4,(enc .tree t))]))) ((iB (e.kind==1) ((Z1n (u,b,()))/\(Q .ret (L2 [pL 4,pB 5 (ZW (Z5 u) (Z5 b))] [(.loc 4,(enc .tree e.new))]))) ((iB (e.kind==2) ((Z30 (s,b,()))/\(Z9m (s,b,()) < N)/\(Q .ret (L2 [pL 4,pB 5 ((Z9L false s b).isSome)] [(.loc 4,(enc .tree (Z0x (Z9L false s b))))]))) ((iB (e.kind==3) ((Z2Z (s,b,()))/\(Z9m (s,b,()) < N)/\(Q .ret (L2 [pL 4,pB 5 ((ZcN (Z5v false s b)).isSome)] [(.loc 4,(enc .tree (ZrF s (Z5v false s b))))]))) ((Q .ret (L2 [pL 4,pB 5 false] [(.loc 4,[ci 0,.nils,.nils])]))))))))))):
  A74 N [] (L2 [(0,.agg (enc .edit e)),(1,.agg (enc .tree t))] []) Q:=
 Eq.mpr V6 (h _ (Z3 _) _ (Z7 _) _ (Z7 _))
def ZAo(N:Nat)(e:Edit)(t:Tree):Prop:=AW (Z1 (Z8B N)) Tryz.f74 ZyW [] (Zb (Z8T.can (e,t,())) []) (EQ Tryz.f74 (Z3S (e,t,())) [])
abbrev ZD2:Prop:=∀ (N:Nat) (e:Edit) (t:Tree) (_:Unit),Z2k (e,t,())->Zdc (e,t,()) < N+1->ZAo N e t
def ZlC:Z6 U:=lvk [([2,3,4],[2,3,4]),([2,3,4,16],[2,3,4]),([4,5],[4]),([2,3,4,6],[2,3,4,((.loc 6),[.any,.wr .u64,.wr .tree])]),([2,3,4,6,26,27,28],[2,3,4,((.loc 6),[.any,.wr .u64,.wr .tree])]),([2,3,4,6,26,27,28,29],[2,3,4,((.loc 6),[.any,.wr .u64,.wr .tree])]),([2,3,4,6,8,26,27,28],[2,3,4,((.loc 6),[.any,.wr .u64,.wr .tree]),8]),([2,3,4,6,8,9,26,27,28],[2,3,4,((.loc 6),[.any,.wr .u64,.wr .tree]),8]),([2,3,4,6,8,9,26,27,28,42],[2,3,4,((.loc 6),[.any,.wr .u64,.wr .tree]),8]),([4,5],[4]),([2,3,4,6,8,9,26,27,28,42,49],[2,3,4,((.loc 6),[.any,.wr .u64,.wr .tree]),8]),([2,3,4,6,8,9,26,27,28,42],[2,3,4,((.loc 6),[.any,.wr .u64,.wr .tree]),8]),([2,3,4,6,26,27,28],[2,3,4,((.loc 6),[.any,.wr .u64,.wr .tree])]),([2,3,4,6,26,27,28],[2,3,4,((.loc 6),[.any,.wr .u64,.wr .tree])]),([3,4,6,68,69,70],[3,4,((.loc 6),[.any,.wr .u64,.wr .tree])]),([3,4,6,68,69,70,71],[3,4,((.loc 6),[.any,.wr .u64,.wr .tree])]),([3,4,6,11,68,69,70],[3,4,((.loc 6),[.any,.wr .u64,.wr .tree]),11]),([3,4,6,11,12,13,68,69,70],[3,4,((.loc 6),[.any,.wr .u64,.wr .tree]),11,12]),([3,4,6,11,12,68,69,70,85],[3,4,((.loc 6),[.any,.wr .u64,.wr .tree]),11,12]),([4,5],[4]),([3,4,6,11,12,68,69,70,85,92],[3,4,((.loc 6),[.any,.wr .u64,.wr .tree]),11,12]),([3,4,6,11,12,68,69,70,85],[3,4,((.loc 6),[.any,.wr .u64,.wr .tree]),11,12]),([3,4,6,68,69,70],[3,4,((.loc 6),[.any,.wr .u64,.wr .tree])]),([3,4,6,68,69,70],[3,4,((.loc 6),[.any,.wr .u64,.wr .tree])]),([4,5],[4])]
def Z5d(e:Edit)(t:Tree)(h:Int)(b:List Int):LSt U:=(⟨[pL 2,pL 3,pL 4,pL 6,(26,.c (sU .wedit e.words .unk)),pI 27 (e.words.length:Int),pI 28 h],[(.loc 2,(enc .edit e)),(.loc 3,(enc .tree t)),(.loc 4,[ci 0,.nils,.nils]),(.loc 6,[ci 1,.mref (.l 6 1),.mref (.l 6 2)])],[(.l 6 1,LC.mk (U:=U) .u64 b 0),(.l 6 2,LC.mk (U:=U) .tree t.kids 0)]⟩:LSt U)
def Z5c(e:Edit)(t:Tree)(h:Int)(b:List Int):LSt U:=(⟨[pL 2,pL 3,pL 4,pL 6,pL 8,(9,.c (.int .u64 (YZ (Tree.mk t.kind t.words t.kids) (WEdit.at_ (e.words.getD h.toNat (WEdit.mk 0 0 0 0)))))),(26,.c (sU .wedit e.words .unk)),pI 27 (e.words.length:Int),pI 28 h,(42,.c (.bool (((mix 0 (YZ (Tree.mk t.kind t.words t.kids) (WEdit.at_ (e.words.getD h.toNat (WEdit.mk 0 0 0 0)))) (WEdit.mask (e.words.getD h.toNat (WEdit.mk 0 0 0 0)))):Int) !=(WEdit.old (e.words.getD h.toNat (WEdit.mk 0 0 0 0))))))],[(.loc 2,(enc .edit e)),(.loc 3,(enc .tree t)),(.loc 4,[ci 0,.nils,.nils]),(.loc 6,[ci 1,.mref (.l 6 1),.mref (.l 6 2)]),(.loc 8,(enc .wedit (e.words.getD h.toNat (WEdit.mk 0 0 0 0))))],[(.l 6 1,LC.mk (U:=U) .u64 b 0),(.l 6 2,LC.mk (U:=U) .tree t.kids 0)]⟩:LSt U)
def Z5b(e:Edit)(t:Tree)(h:List Int)(s:Int)(b:List Tree):LSt U:=(⟨[pL 3,pL 4,pL 6,(68,.c (sU .kid e.kids .unk)),pI 69 (e.kids.length:Int),pI 70 s],[(.loc 3,(enc .tree t)),(.loc 4,[ci 0,.nils,.nils]),(.loc 6,[ci 1,.mref (.l 6 1),.mref (.l 6 2)])],[(.l 6 1,LC.mk (U:=U) .u64 h 0),(.l 6 2,LC.mk (U:=U) .tree b 0)]⟩:LSt U)
def Z5a(e:Edit)(t:Tree)(s:List Int)(b:Int)(h:List Tree):LSt U:=(⟨[pL 3,pL 4,pL 6,pL 11,pL 12,(68,.c (sU .kid e.kids .unk)),pI 69 (e.kids.length:Int),pI 70 b,(85,.c (.bool (!((doE false (Edit.mk (Edit.kind (KidOf.e (e.kids.getD b.toNat (KidOf.mk 0 Edit.nil)))) (Tree.mk (Tree.kind (Edit.old (KidOf.e (e.kids.getD b.toNat (KidOf.mk 0 Edit.nil))))) (Tree.words (Edit.old (KidOf.e (e.kids.getD b.toNat (KidOf.mk 0 Edit.nil))))) (Tree.kids (Edit.old (KidOf.e (e.kids.getD b.toNat (KidOf.mk 0 Edit.nil)))))) (Tree.mk (Tree.kind (Edit.new (KidOf.e (e.kids.getD b.toNat (KidOf.mk 0 Edit.nil))))) (Tree.words (Edit.new (KidOf.e (e.kids.getD b.toNat (KidOf.mk 0 Edit.nil))))) (Tree.kids (Edit.new (KidOf.e (e.kids.getD b.toNat (KidOf.mk 0 Edit.nil)))))) (Edit.words (KidOf.e (e.kids.getD b.toNat (KidOf.mk 0 Edit.nil)))) (Edit.kids (KidOf.e (e.kids.getD b.toNat (KidOf.mk 0 Edit.nil)))) (Edit.list (KidOf.e (e.kids.getD b.toNat (KidOf.mk 0 Edit.nil)))) (Edit.ops (KidOf.e (e.kids.getD b.toNat (KidOf.mk 0 Edit.nil))))) (Tree.mk (Tree.kind (J9 (Tree.mk t.kind t.words t.kids) (KidOf.at_ (e.kids.getD b.toNat (KidOf.mk 0 Edit.nil))))) (Tree.words (J9 (Tree.mk t.kind t.words t.kids) (KidOf.at_ (e.kids.getD b.toNat (KidOf.mk 0 Edit.nil))))) (Tree.kids (J9 (Tree.mk t.kind t.words t.kids) (KidOf.at_ (e.kids.getD b.toNat (KidOf.mk 0 Edit.nil))))))).isSome))))],[(.loc 3,(enc .tree t)),(.loc 4,[ci 0,.nils,.nils]),(.loc 6,[ci 1,.mref (.l 6 1),.mref (.l 6 2)]),(.loc 11,(enc .kid (e.kids.getD b.toNat (KidOf.mk 0 Edit.nil)))),(.loc 12,(enc .tree (Z9M (Edit.mk (Edit.kind (KidOf.e (e.kids.getD b.toNat (KidOf.mk 0 Edit.nil)))) (Tree.mk (Tree.kind (Edit.old (KidOf.e (e.kids.getD b.toNat (KidOf.mk 0 Edit.nil))))) (Tree.words (Edit.old (KidOf.e (e.kids.getD b.toNat (KidOf.mk 0 Edit.nil))))) (Tree.kids (Edit.old (KidOf.e (e.kids.getD b.toNat (KidOf.mk 0 Edit.nil)))))) (Tree.mk (Tree.kind (Edit.new (KidOf.e (e.kids.getD b.toNat (KidOf.mk 0 Edit.nil))))) (Tree.words (Edit.new (KidOf.e (e.kids.getD b.toNat (KidOf.mk 0 Edit.nil))))) (Tree.kids (Edit.new (KidOf.e (e.kids.getD b.toNat (KidOf.mk 0 Edit.nil)))))) (Edit.words (KidOf.e (e.kids.getD b.toNat (KidOf.mk 0 Edit.nil)))) (Edit.kids (KidOf.e (e.kids.getD b.toNat (KidOf.mk 0 Edit.nil)))) (Edit.list (KidOf.e (e.kids.getD b.toNat (KidOf.mk 0 Edit.nil)))) (Edit.ops (KidOf.e (e.kids.getD b.toNat (KidOf.mk 0 Edit.nil))))) (Tree.mk (Tree.kind (J9 (Tree.mk t.kind t.words t.kids) (KidOf.at_ (e.kids.getD b.toNat (KidOf.mk 0 Edit.nil))))) (Tree.words (J9 (Tree.mk t.kind t.words t.kids) (KidOf.at_ (e.kids.getD b.toNat (KidOf.mk 0 Edit.nil))))) (Tree.kids (J9 (Tree.mk t.kind t.words t.kids) (KidOf.at_ (e.kids.getD b.toNat (KidOf.mk 0 Edit.nil)))))))))],[(.l 6 1,LC.mk (U:=U) .u64 s 0),(.l 6 2,LC.mk (U:=U) .tree h 0)]⟩:LSt U)
abbrev ZgR(N:Nat)(p:List Nat):=AW (Z1 (Z8B N)) Tryz.f115 ZlC p
abbrev Z5w(N:Nat)(p:List Nat):=SW (Z1 (Z8B N)) Tryz.f115 ZlC p
theorem ZBN(N:Nat)(e:Edit)(t:Tree)(Q:QT)(h:(iB (t.kind !=1) ((Q .ret (L2 [pL 4,pB 5 false] [(.loc 4,[ci 0,.nils,.nils])]))) ((ZbX (t.words,()))/\(ZbM (t.kids,()))/\(Zp (ZgR N [1,1,1,0,1,0,0]) (Z5d e t 0 t.words) (xB 0 (Z5w N [1,1,1,1] Q)))))):
  ZgR N [] (L2 [(0,.agg (enc .edit e)),(1,.agg (enc .tree t))] []) Q:=
 Eq.mpr V6 h
theorem Zp5(N:Nat)(e:Edit)(t:Tree)(u:Int)(b:List Int)(N0:NT)(Q:QT)(h:∀ aa,aa=t->∀ s,s=(e.words.getD u.toNat (WEdit.mk 0 0 0 0))->(iB (decide (u < (e.words.length:Int))) (((0:Int)<=u/\u < (e.words.length:Int))/\((Z8h (aa,s.at_,()))/\((JB (0,(YZ aa s.at_),s.mask,()))/\(iB (((mix 0 (YZ aa s.at_) s.mask):Int) !=s.old) ((Q .ret (L2 [pL 4,pB 5 false] [(.loc 4,[ci 0,.nils,.nils])]))) (Zp (ZgR N [1,1,1,0,1,0,0,1,1,0,0,1,1,1,0,0,0]) (Z5c e t u b) (xB 2 (Z5w N [1,1,1,0,1,0,0,1,1,0,0,1,1,1,1] (xB 1 (Z5w N [1,1,1,0,1,0,0,1,1,1] (xT N0 (xB 0 (Z5w N [1,1,1,1] Q)))))))))))) ((Zp (ZgR N [1,1,1,1,0,1,0,0]) (Z5b e t b 0 t.kids) (xB 4 (Z5w N [1,1,1,1,1] Q)))))):
  ZgR N [1,1,1,0,1,0,0] (Z5d e t u b) (xT N0 (xB 0 (Z5w N [1,1,1,1] Q))):=
 Eq.mpr V6 (h _ (Z7 _) _ rfl)
theorem Zp4(N:Nat)(e:Edit)(t:Tree)(s:Int)(b:List Int)(N1 N0:NT)(Q:QT)(h:let z0:=e.words.getD s.toNat (WEdit.mk 0 0 0 0);let z1:=YZ (Tree.mk t.kind t.words t.kids) (WEdit.at_ z0);(iB (decide (((b.length:Int):Int)<=(WEdit.at_ z0))) (((b.length+([0]).length)*8<=140737488355328)/\(N1 (Z5c e t s (b++([0]))))) ((JB (z1,(WEdit.new z0),(WEdit.mask z0),()))/\((0:Int)<=(WEdit.at_ z0)/\(WEdit.at_ z0) < (b.length:Int))/\((0:Nat)<=(Int.toNat (WEdit.at_ z0)))/\((InR (s+1))/\(N0 (Z5d e t (s+1) (List.set b (Int.toNat (WEdit.at_ z0)) (mix z1 (WEdit.new z0) (WEdit.mask z0))))))))):
  ZgR N [1,1,1,0,1,0,0,1,1,0,0,1,1,1,0,0,0] (Z5c e t s b) (xT N1 (xB 2 (Z5w N [1,1,1,0,1,0,0,1,1,0,0,1,1,1,1] (xB 1 (Z5w N [1,1,1,0,1,0,0,1,1,1] (xT N0 (xB 0 (Z5w N [1,1,1,1] Q)))))))):=
 Eq.mpr V6 h
theorem Zp3(N:Nat)(e:Edit)(t:Tree)(u:List Int)(b:Int)(s:List Tree)(N2:NT)(Q:QT)(h:∀ af,af=t->∀ ae,ae=(e.kids.getD b.toNat (KidOf.mk 0 Edit.nil))->∀ ab,ab=(ae.e)->∀ aa,aa=(J9 af ae.at_)->(iB (decide (b < (e.kids.length:Int))) (((0:Int)<=b/\b < (e.kids.length:Int))/\((Z8h (af,ae.at_,()))/\(Z2k (ab,aa,()))/\(Zdc (ab,aa,()) < N)/\(iB (!((doE false ab aa).isSome)) ((Q .ret (L2 [pL 4,pB 5 false] [(.loc 4,[ci 0,.nils,.nils])]))) (Zp (ZgR N [1,1,1,1,0,1,0,0,1,1,0,0,1,1,1,0,0,0]) (Z5a e t u b s) (xB 6 (Z5w N [1,1,1,1,0,1,0,0,1,1,0,0,1,1,1,1] (xB 5 (Z5w N [1,1,1,1,0,1,0,0,1,1,1] (xT N2 (xB 4 (Z5w N [1,1,1,1,1] Q))))))))))) ((Q .ret (L2 [pL 4,pB 5 true] [(.loc 4,[ci 1,sU .u64 u (.own (.l 4 1)),sU .tree s (.own (.l 4 2))])]))))):
  ZgR N [1,1,1,1,0,1,0,0] (Z5b e t u b s) (xT N2 (xB 4 (Z5w N [1,1,1,1,1] Q))):=
 Eq.mpr V6 (h _ (Z7 _) _ rfl _ (Z3 _) _ (Z7 _))
theorem Zp2(N:Nat)(e:Edit)(t:Tree)(u:List Int)(s:Int)(b:List Tree)(N3 N2:NT)(Q:QT)(h:∀ af,af=t->∀ aa,aa=(e.kids.getD s.toNat (KidOf.mk 0 Edit.nil))->∀ ah,ah=(aa.e)->∀ ae,ae=(J9 af aa.at_)->∀ ab,ab=(Z9M ah ae)->(iB (decide (((b.length:Int):Int)<=aa.at_)) (((b.length+([(Tree.mk 0 [] [])]).length)*56<=140737488355328)/\(N3 (Z5a e t u s (b++([(Tree.mk 0 [] [])]))))) (((0:Int)<=aa.at_/\aa.at_ < (b.length:Int))/\((0:Nat)<=(Int.toNat aa.at_))/\((InR (s+1))/\(N2 (Z5b e t u (s+1) (List.set b (Int.toNat aa.at_) ab))))))):
  ZgR N [1,1,1,1,0,1,0,0,1,1,0,0,1,1,1,0,0,0] (Z5a e t u s b) (xT N3 (xB 6 (Z5w N [1,1,1,1,0,1,0,0,1,1,0,0,1,1,1,1] (xB 5 (Z5w N [1,1,1,1,0,1,0,0,1,1,1] (xT N2 (xB 4 (Z5w N [1,1,1,1,1] Q)))))))):=
 Eq.mpr V6 (h _ (Z7 _) _ rfl _ (Z3 _) _ (Z7 _) _ (Z7 _))
def ZwH(N:Nat)(e:Edit)(t:Tree):Prop:=AW (Z1 (Z8B N)) Tryz.f115 ZlC [] (Zb (Z8T.can (e,t,())) []) (EQ Tryz.f115 (Z2W (e,t,())) [])
abbrev Zxt:Prop:=∀ (N:Nat) (e:Edit) (t:Tree) (_:Unit),Z30 (e,t,())->Z9m (e,t,()) < N+1->ZwH N e t
def ZlB:Z6 U:=lvk [([2,3,4],[2,3,4]),([2,3,4,18],[2,3,4]),([4,5],[4]),([2,3,4,6],[2,3,4,6]),([2,4,6,7],[2,4,6]),([4,6,7,26,27,28],[4,((.loc 6),[.any,.any,.own .tree])]),([4,6,7,26,27,28,29],[4,6]),([4,6,7,9,26,27,28],[4,6,9]),([4,6,7,9,10,26,27,28],[4,6,9]),([4,6,7,9,10,26,27,28,35],[4,6,9]),([4,6,7,9,10,26,27,28,35,36],[4,6,9]),([4,6,7,26,27,28,97],[4,6]),([4,6,7,9,10,26,27,28,35,44],[4,6,9]),([4,6,7,9,10,26,27,28,49],[4,6,9]),([4,6,7,9,10,26,27,28,49],[4,6,9]),([4,6,7,9,10,26,27,28,49],[4,6,9]),([4,6,7,9,10,26,27,28,54],[4,6,9]),([4,5],[4]),([4,6,7,9,10,26,27,28],[4,6,9]),([4,6,7,9,11,26,27,28],[4,6,9]),([4,6,7,12,13,26,27,28],[4,6,12]),([4,6,7,12,26,27,28,72],[4,6,12]),([4,5],[4]),([4,6,7,26,27,28,97],[4,6]),([4,6,7,9,11,26,27,28,80],[4,6,9]),([4,6,7,26,27,28,97],[4,6]),([4,6,7,9,11,26,27,28,89],[4,6,9]),([4,6,7,26,27,28,97],[4,6]),([4,5],[4]),([4,6,7,26,27,28],[4,((.loc 6),[.any,.any,.own .tree])]),([4,5],[4])]
def Z0f(e:Edit)(t:Tree)(h:Int)(s b:List Tree):LSt U:=(L2 [pL 4,pL 6,(7,.c (sU .tree s .unk)),(26,.c (sU .op e.ops .unk)),pI 27 (e.ops.length:Int),pI 28 h] [(.loc 4,[ci 0,.nils,.nils]),(.loc 6,[ci t.kind,.nils,sU .tree b (.own (.l 6 2))])])
def Z1b(e:Edit)(t:Tree)(u:Int)(s b:List Tree)(h:V U):LSt U:=(L2 [pL 4,pL 6,(7,.c (sU .tree s .unk)),(26,.c (sU .op e.ops .unk)),pI 27 (e.ops.length:Int),pI 28 u,(97,h)] [(.loc 4,[ci 0,.nils,.nils]),(.loc 6,[ci t.kind,.nils,sU .tree b (.own (.l 6 2))])])
def Z59(e:Edit)(t:Tree)(u:Int)(x7 h:List Tree)(b:Int)(s:V U):LSt U:=(L2 [pL 4,pL 6,(7,.c (sU .tree x7 .unk)),pL 9,pI 10 b,(26,.c (sU .op e.ops .unk)),pI 27 (e.ops.length:Int),pI 28 u,(49,s)] [(.loc 4,[ci 0,.nils,.nils]),(.loc 6,[ci t.kind,.nils,sU .tree h (.own (.l 6 2))]),(.loc 9,(enc .op (e.ops.getD u.toNat Op.nil)))])
abbrev Z8V(N:Nat)(p:List Nat):=AW (Z1 (Z8B N)) Tryz.f116 ZlB p
abbrev ZgQ(N:Nat)(p:List Nat):=SW (Z1 (Z8B N)) Tryz.f116 ZlB p
theorem ZBM(N:Nat)(e:Edit)(t:Tree)(Q:QT)(h:(iB (t.kind !=e.list) ((Q .ret (L2 [pL 4,pB 5 false] [(.loc 4,[ci 0,.nils,.nils])]))) ((Zp (Z8V N [1,1,1,1,0,1,0,0]) (Z0f e t 0 t.kids []) (xB 0 (ZgQ N [1,1,1,1,1] Q)))))):
  Z8V N [] (L2 [(0,.agg (enc .edit e)),(1,.agg (enc .tree t))] []) Q:=
 Eq.mpr V6 h
theorem Zp0(N:Nat)(e:Edit)(t:Tree)(u:Int)(x7 b:List Tree)(N0:NT)(Q:QT)(h:∀ s,s=(e.ops.getD u.toNat Op.nil)->let z1:=xT N0 (xB 0 (ZgQ N [1,1,1,1,1] Q));let z0:=xB 1 (ZgQ N [1,1,1,1,0,1,0,0,1,1,1] z1);(iB (decide (u < (e.ops.length:Int))) (((0:Int)<=u/\u < (e.ops.length:Int))/\(iB (s.kind==2) (((b.length+s.l.length)*56<=140737488355328)/\(Z8V N [1,1,1,1,0,1,0,0,1,1,1] (Z1b e t u x7 (b++s.l) .junk) z1)) ((iB (s.kind==1) ((Z8V N [1,1,1,1,0,1,0,0,1,1,0,0,1,1,1] (Z59 e t u x7 b (s.l.length:Int) .junk) z0)) ((iB (s.kind==3) ((Z8V N [1,1,1,1,0,1,0,0,1,1,0,0,1,1,1] (Z59 e t u x7 b 1 (.c (.bool (s.kind==3)))) z0)) (Z8V N [1,1,1,1,0,1,0,0,1,1,0,0,1,1,1] (Z59 e t u x7 b s.n (.c (.bool (s.kind==3)))) z0))))))) ((Q .ret (L2 [pL 4,pB 5 (((x7.length:Int):Int)==0)] [(.loc 4,[ci t.kind,.nils,sU .tree b (.own (.l 4 2))])]))))):
  Z8V N [1,1,1,1,0,1,0,0] (Z0f e t u x7 b) (xT N0 (xB 0 (ZgQ N [1,1,1,1,1] Q))):=
 Eq.mpr V6 (h _ rfl)
theorem Zp1(N:Nat)(e:Edit)(t:Tree)(aa:Int)(s b:List Tree)(u:V U)(N0:NT)(Q:QT)(h:(InR (aa+1))/\(N0 (Z0f e t (aa+1) s b))):
  Z8V N [1,1,1,1,0,1,0,0,1,1,1] (Z1b e t aa s b u) (xT N0 (xB 0 (ZgQ N [1,1,1,1,1] Q))):=
 Eq.mpr V6 h
theorem ZaH(N:Nat)(e:Edit)(t:Tree)(ab:Int)(x7 s:List Tree)(b:Int)(aj:V U)(N0:NT)(Q:QT)(h:∀ u,u=(e.ops.getD ab.toNat Op.nil)->∀ ak,ak=(List.getD (List.take b.toNat x7) (Int.toNat 0) Tree.nil)->∀ ae,ae=ak->∀ aa,aa=(u.e)->∀ ah,ah=(eqX (Zd u.l) (Zd (List.take b.toNat x7)))->∀ ai,ai=(Z9M aa ae)->let z3:=List.drop b.toNat x7;let z2:=List.take b.toNat x7;let z1:=xT N0 (xB 0 (ZgQ N [1,1,1,1,1] Q));let z0:=(Q .ret (L2 [pL 4,pB 5 false] [(.loc 4,[ci 0,.nils,.nils])]));(iB (decide (((x7.length:Int):Int) < b)) z0 ((((0:Int)<=b/\b<=(x7.length:Int))/\((0:Int)<=b/\b<=(x7.length:Int))/\(iB (u.kind==0) (((s.length+z2.length)*56<=140737488355328)/\(Z8V N [1,1,1,1,0,1,0,0,1,1,1] (Z1b e t ab z3 (s++z2) .junk) z1)) ((iB (u.kind==1) ((Z63 (u.l,z2,(),()))/\(iB (!ah) z0 (Z8V N [1,1,1,1,0,1,0,0,1,1,1] (Z1b e t ab z3 s (.c (.bool (!ah)))) z1))) (((0:Int)<=0/\0 < (z2.length:Int))/\(Z2k (aa,ae,()))/\(Zdc (aa,ae,()) < N)/\(iB (!((doE false aa ae).isSome)) z0 (((s.length+([ai]).length)*56<=140737488355328)/\(Z8V N [1,1,1,1,0,1,0,0,1,1,1] (Z1b e t ab z3 (s++([ai])) .junk) z1))))))))))):
  Z8V N [1,1,1,1,0,1,0,0,1,1,0,0,1,1,1] (Z59 e t ab x7 s b aj) (xB 1 (ZgQ N [1,1,1,1,0,1,0,0,1,1,1] (xT N0 (xB 0 (ZgQ N [1,1,1,1,1] Q))))):=
 Eq.mpr V6 (h _ rfl _ rfl _ (Z7 _) _ (Z3 _) _ rfl _ (Z7 _))
def ZwG(N:Nat)(e:Edit)(t:Tree):Prop:=AW (Z1 (Z8B N)) Tryz.f116 ZlB [] (Zb (Z8T.can (e,t,())) []) (EQ Tryz.f116 (Z2V (e,t,())) [])
abbrev Zxs:Prop:=∀ (N:Nat) (e:Edit) (t:Tree) (_:Unit),Z2Z (e,t,())->Z9m (e,t,()) < N+1->ZwG N e t
theorem Zug(Z9U:CT 114 YX)(Zom:CT 173 Z0S)(Zol:CT 174 Z0R)(Zgu:CT 177 JQ)(ZzE:CT 175 Z4x)(Z9T:CT 176 YK)(ZsN:CT 117 Z2b)(b74:ZD2)(ZA6:Zxt)(ZA5:Zxs):
  CT 74 Z86/\CT 115 Zkw/\CT 116 Zkv:=by
 have aa:FK 74:=⟨Tryz.f74,Tryz.func74,rfl,rfl⟩
 have b:FK 115:=⟨Tryz.f115,Tryz.func115,rfl,rfl⟩
 have s:FK 116:=⟨Tryz.f116,Tryz.func116,rfl,rfl⟩
 have u:∀ N,CT 74 (fs Z8T (fun a=> [Z2k a,Zdc a < N]) Z3S)/\CT 115 (fs Z8T (fun a=> [Z30 a,Z9m a < N]) Z2W)/\CT 116 (fs Z8T (fun a=> [Z2Z a,Z9m a < N]) Z2V):=by
  intro N
  induction N with
  | zero=> exact ⟨Z0Z aa,Z0Z b,Z0Z s⟩
  | succ N ih=>
   have kn:=YP (l:=Z8B N) ⟨ih.1,ih.2.1,ih.2.2,Z9U,Zom,Zol,Zgu,ZzE,Z9T,ZsN,trivial⟩
   exact ⟨ZQ (Γ:=Z1 (Z8B N)) Za rfl kn ZyW Tryz.func74 rfl rfl (fun a=> by show 2<=_;decide) (fun ⟨e,t,_⟩ h=> b74 N e t () h.1 h.2.1),
    ZQ (Γ:=Z1 (Z8B N)) Za rfl kn ZlC Tryz.func115 rfl rfl (fun a=> by show 2<=_;decide) (fun ⟨e,t,_⟩ h=> ZA6 N e t () h.1 h.2.1),
    ZQ (Γ:=Z1 (Z8B N)) Za rfl kn ZlB Tryz.func116 rfl rfl (fun a=> by show 2<=_;decide) (fun ⟨e,t,_⟩ h=> ZA5 N e t () h.1 h.2.1)⟩
 exact ⟨Z10 aa fun N=> (u N).1,Z10 b fun N=> (u N).2.1,Z10 s fun N=> (u N).2.2⟩
end
noncomputable section
def ZkW(a:Edit × Tree × Unit):V U:= .tup [(true,(enc .tree (Z0x ((doE false a.1 a.2.1).map Z5)))),(false,[.bool ((doE false a.1 a.2.1).isSome)])]
def JP:Fs U:=fs Z8T (fun a=> [Z2k a]) ZkW
def Zsb:List (FuncId × Fs U):=[(75,YV),(74,Z86)]
def Zz8:Z6 U:=lvl [([2,3,4],[2,3,4]),([4,6,7],[4,6]),([4,6,15],[4,6]),([4,5],[4]),([4,5],[4])]
abbrev A25(p:List Nat):=AW (Z1 Zsb) Tryz.f25 Zz8 p
theorem ZDx(e:Edit)(t:Tree)(Q:QT)(h:∀ b,b=e->∀ s,s=t->∀ u,u=(Z9M b s)->((Z2k (b,s,()))/\(iB (!((doE false b s).isSome)) ((Q .ret (L2 [pL 4,pB 5 false] [(.loc 4,[ci 0,.nils,.nils])]))) ((Z0v (u,()))/\(Q .ret (L2 [pL 4,pB 5 true] [(.loc 4,(enc .tree (Z5 u)))])))))):
  A25 [] (L2 [(0,.agg (enc .edit e)),(1,.agg (enc .tree t))] []) Q:=
 Eq.mpr V6 (h _ (Z3 _) _ (Z7 _) _ (Z7 _))
def ZAD(e:Edit)(t:Tree):Prop:=AW (Z1 Zsb) Tryz.f25 Zz8 [] (Zb (Z8T.can (e,t,())) []) (EQ Tryz.f25 (ZkW (e,t,())) [])
theorem ZyO(c75:CT 75 YV)(c74:CT 74 Z86)(hb:∀ (e:Edit) (t:Tree) (_:Unit),Z2k (e,t,())->ZAD e t):CT 25 JP:=
 Z0 (l:=[(75,YV),(74,Z86)]) Za rfl (⟨c75,c74,trivial⟩) Zz8 Tryz.func25 rfl rfl 2 (fun _=> rfl) V5 (fun ⟨e,t,_⟩=> hb e t ())
end
theorem ZsN:Contract Tryz.prog cfg 117 Z2b:=by
 refine ZqW ?_
 intro l _ b
 simp only [ZbX] at b
 refine ZxX _ _ ⟨fun h=> ?_,fun _=> ⟨by simp only [Qe];omega,?_⟩⟩
 .subst h
  simp only [Z7a]
  exact V2
 .simp only [Z7a]
  exact V2
theorem ZzE:Contract Tryz.prog cfg 175 Z4x:=by
 refine ZuM ?_
 intro l _ b
 simp only [ZbM] at b
 refine ZBn _ _ ⟨fun h=> ?_,fun _=> ⟨by simp only [Qe];omega,?_⟩⟩
 .subst h
  simp only [Zai]
  exact V2
 .simp only [Zai]
  exact V2
theorem Zdy{α:Type}(z:α){l:List α}{i:Nat}(h:i < l.length)(x:α):YW z l i x=l.set i x:=by
 simp only [YW];rw [show i+1 - l.length=0 by omega];simp
theorem Z92{α:Type}(z:α){l:List α}{i:Nat}(h:l.length<=i)(x:α):YW z (l++[z]) i x=YW z l i x:=by
 simp only [YW,Qa,Xy,Ql]
 rw [show i+1 - l.length=(i+1 - (l.length+1))+1 by omega,List.replicate_succ]
 try rfl
theorem ZqG(t:Tree):t.words.length+Z9 t.kids+1=Zk t:=by obtain ⟨k,w,ks⟩:=t;simp only [Zk,Tree.words_mk,Tree.kids_mk];omega
theorem Zpp{t:Tree}(h:rng t):InR t.kind/\(∀ x∈t.words,isW x)/\ZR t.kids:=by obtain ⟨k,w,ks⟩:=t;exact h
theorem ZkE{ks:List Tree}(h:ZR ks)(i:Nat):rng (ks.getD i Tree.nil):=by
 by_cases hi:i < ks.length
 .exact YQ h (Zq hi _)
 .rw [QD,Xd V1]
  trivial
theorem ZhP(ks:List Tree)(i:Nat):Zk (ks.getD i Tree.nil)<=Z9 ks+1:=by
 by_cases hi:i < ks.length
 .have:=Jh (Zq hi Tree.nil);omega
 .rw [QD,Xd V1]
  simp [Tree.nil,Zk,Z9]
theorem Zo4(t:Tree){i:Int}(h:0<=i):J9 t i=t.kids.getD i.toNat Tree.nil:=by unfold J9;grind
theorem ZiJ(t:Tree){i:Int}(h:0<=i):YZ t i=t.words.getD i.toNat 0:=by unfold YZ;omega
theorem ZtB{l:List Int}(h:∀ x∈l,isW x)(i:Nat):isW (l.getD i 0):=by
 by_cases hi:i < l.length
 .grind
 .rw [QD,Xd V1];trivial
theorem b74:ZD2:=by
 intro N e t _ hp hN
 simp only [Z2k,Zdc] at hp hN
 obtain ⟨⟨p1,p2,d,p3⟩,p4,p5⟩:=hp
 have h1:=YU e
 have h2:=Z71 p2
 have hd:=Z8O false e t
 rw [Z4M] at hd
 refine ZDi _ _ _ _ ?_
 rintro y1 ai y2 aj y3 ah
 subst ai aj ah
 (simp only [iB,vcT,vcS])
 refine ⟨fun u=> ?_,fun u=> ⟨fun h=> ⟨by simp only [Z1n];omega,?_⟩,fun h=> ⟨fun s=> ⟨by simp only [Z30];grind,by simp only [Z9m];omega,?_⟩,fun s=> ⟨fun aa=> ⟨by simp only [Z2Z];grind,by simp only [Z9m];omega,?_⟩,fun aa=> ?_⟩⟩⟩⟩
 .rw [if_pos u] at hd
  simp only [Z3S,Z9M,if_pos u,hd]
  exact V2
 .rw [if_neg u,if_pos h] at hd
  simp only [Z3S,Z9M,if_neg u,if_pos h,hd]
  cases ZW (Z5 y1.old) (Z5 y2) <;> (repeat' (first | exact trivial | exact rfl | apply And.intro))
 .rw [if_neg u,if_neg h,if_pos s] at hd
  simp only [Z3S,Z9M,if_neg u,if_neg h,if_pos s,hd]
  exact V2
 .rw [if_neg u,if_neg h,if_neg s,if_pos aa] at hd
  simp only [Z3S,Z9M,if_neg u,if_neg h,if_neg s,if_pos aa,hd]
  have e2:(if y2.kind=y1.list then (ZcN (Z1E false y1.ops y2.kids [])).map fun b=> Tree.mk y1.list [] b else none).isSome=(ZcN (Z5v false y1 y2)).isSome:=by
   unfold Z5v
   split
   .grind
   .try rfl
  rw [e2]
  exact V2
 .rw [if_neg u,if_neg h,if_neg s,if_neg aa] at hd
  simp only [Z3S,Z9M,if_neg u,if_neg h,if_neg s,if_neg aa,hd]
  exact V2
theorem ZA6:Zxt:=by
 intro N e t _ hp hN
 simp only [Z30,Z9m] at hp hN
 obtain ⟨k2,⟨p1,p2,d,p3⟩,p4,p5⟩:=hp
 have h1:=YU e
 have h2:=YN e.kids
 have h3:=ZqG t
 have h4:=Zt t.kids
 have r2:=Z71 p2
 have rt:=Zpp p5
 have ri:=Zr p3
 refine ZBN _ _ _ _ ?_
 (simp only [iB,vcT,vcS])
 have no:Z9L false e t=none->ZK cfg Tryz.f115.ntmps Tryz.f115.results.toList (Z2W (e,t,())) [] .ret (⟨[(4,.ptr (.loc 4) 0),(5,.c (.bool false))],[((.loc 4),[.int .i64 0,.nils,.nils])],[]⟩:LSt U):=by
  intro hs
  simp only [Z2W,hs]
  exact V2
 refine ⟨fun hk=> no (by unfold Z9L;rw [if_neg hk]),fun hk=> ?_⟩
 have hk:t.kind=1:=by simpa using hk
 refine ⟨by simp only [ZbX];omega,by simp only [ZbM];omega,?_⟩
 refine Zf (ι:=Int × List Int) (fun s=> Z5d e t s.1 s.2) (fun s=> 0<=s.1/\s.1<=e.words.length/\wsD t.words (e.words.drop s.1.toNat) s.2=wsD t.words e.words t.words/\s.2.length<=t.words.length+65536) (fun s=> ((e.words.length:Int) - s.1).toNat) (0,t.words) rfl ⟨by simp,by simp,by simp,by simp⟩ ?_
 rintro ⟨i,out⟩ ⟨f1,f2,f3,f4⟩
 dsimp only at f1 f2 f3 f4
 refine Zp5 _ _ _ _ _ _ _ ?_
 rintro y1 ak h ab
 subst ak
 (simp only [iB,vcT,vcS])
 refine ⟨fun hi=> ?_,fun hi=> ?_⟩
 .have b:=Zq (l:=e.words) (i:=i.toNat) V1 (WEdit.mk 0 0 0 0)
  rw [Jd f1 hi (WEdit.mk 0 0 0 0),<-ab] at f3
  rw [<-ab] at b
  have hw:=JH ri.words h b
  obtain ⟨g1,g2,g3,g4⟩:=r2.2.2.2.1 h b
  have af:YZ y1 h.at_=y1.words.getD h.at_.toNat 0:=ZiJ y1 V1
  have a2:=ZtB rt.2.1 h.at_.toNat
  rw [wsD] at f3
  rw [af]
  unfold isW at g3 g4 a2
  refine ⟨⟨f1,hi⟩,by simp only [Z8h],by simp only [JB];omega,fun ah=> no ?_,fun ae=> ?_⟩
  .rw [if_neg ah] at f3
   unfold Z9L
   rw [if_pos hk,<-f3]
   try rfl
  .have ae:mix 0 (y1.words.getD h.at_.toNat 0) h.mask=h.old:=by simpa using ae
   rw [if_pos ae] at f3
   refine Zf (ι:=List Int) (fun s=> Z5c e y1 i s) (fun s=> (∀ v,YW 0 s h.at_.toNat v=YW 0 out h.at_.toNat v)/\s.length<=y1.words.length+65536) (fun s=> (h.at_+1 - s.length).toNat) out rfl ⟨fun v=> rfl,f4⟩ ?_
   rintro s ⟨q1,q2⟩
   refine Zp4 _ _ _ _ _ _ _ _ ?_
   (simp only [vE])
   rw [<-ab,af]
   (simp only [iB,vcT,vcS])
   refine ⟨fun hl=> ⟨by simp;omega,s++[0],rfl,⟨fun v=> ?_,by simp;omega⟩,by simp;omega⟩,fun hl=> ?_⟩
   .rw [Z92 0 V1,q1]
   .have hl:h.at_ < s.length:=V1
    refine ⟨by simp only [JB];omega,V1,V1,V4,(i+1,s.set h.at_.toNat (mix (y1.words.getD h.at_.toNat 0) h.new h.mask)),rfl,⟨V3,V3,?_,by simp only [List.length_set];omega⟩,V3⟩
    dsimp only
    rw [<-f3,<-Zdy 0 V1,q1]
 .rw [Qd V1,wsD] at f3
  refine Zf (ι:=Int × List Tree) (fun s=> Z5b e y1 out s.1 s.2) (fun s=> 0<=s.1/\s.1<=e.kids.length/\Z4o false y1.kids (e.kids.drop s.1.toNat) s.2=Z4o false y1.kids e.kids y1.kids/\s.2.length<=y1.kids.length+65536) (fun s=> ((e.kids.length:Int) - s.1).toNat) (0,y1.kids) rfl ⟨by simp,by simp,by simp,by simp⟩ ?_
  rintro ⟨j,ks⟩ ⟨e1,e2,e3,e4⟩
  dsimp only at e1 e2 e3 e4
  refine Zp3 _ _ _ _ _ _ _ _ ?_
  rintro y1 ak h ab y3 am y4 aj
  subst ak
  (simp only [iB,vcT,vcS])
  refine ⟨fun hj=> ?_,fun hj=> ?_⟩
  .have b:=Zq (l:=e.kids) (i:=j.toNat) V1 (KidOf.mk 0 Edit.nil)
   rw [Jd e1 hj (KidOf.mk 0 Edit.nil),<-ab] at e3
   rw [<-ab] at b
   have aw:=ZG ri.kids h b
   have hm:=Z1r b
   have ay:=ZcS b
   have bl:=Z4q e
   have hr:=(YT r2.2.2.2.2.2.1 b).2
   have af:J9 y1 h.at_=y1.kids.getD h.at_.toNat Tree.nil:=Zo4 y1 V1
   rw [af] at aj
   have a0:=ZhP y1.kids h.at_.toNat
   have av:=ZkE rt.2.2 h.at_.toNat
   rw [Z4o,Zsr,<-aj,<-am] at e3
   rw [<-aj] at a0 av
   rw [<-am] at hm hr aw ay
   refine ⟨⟨e1,hj⟩,by simp only [Z8h],by simp only [Z2k];exact ⟨⟨V1,hr,_,aw.2⟩,V1,av⟩,by simp only [Zdc];omega,fun ah=> no ?_,fun ae=> ?_⟩
   .have ah:doE false y3 y4=none:=by simpa using ah
    rw [ah] at e3
    unfold Z9L
    rw [if_pos hk,<-f3,<-e3]
    try rfl
   .obtain ⟨u,hu⟩:=QN.1 ae
    rw [hu,QX] at e3
    refine Zf (ι:=List Tree) (fun s=> Z5a e y1 out j s) (fun s=> (∀ v,YW Tree.nil s h.at_.toNat v=YW Tree.nil ks h.at_.toNat v)/\s.length<=y1.kids.length+65536) (fun s=> (h.at_+1 - s.length).toNat) ks rfl ⟨fun v=> rfl,e4⟩ ?_
    rintro s ⟨q1,q2⟩
    refine Zp2 _ _ _ _ _ _ _ _ _ ?_
    rintro z1 az z2 ar z3 aq z4 ao z5 au
    rw [<-ab] at ar
    subst az ar
    rw [<-am] at aq
    subst aq
    rw [af,<-aj] at ao
    subst ao
    rw [Z8o hu] at au
    subst au
    (simp only [iB,vcT,vcS])
    refine ⟨fun hl=> ⟨by simp;omega,s++[Tree.nil],rfl,⟨fun v=> ?_,by simp;omega⟩,by simp;omega⟩,fun hl=> ?_⟩
    .rw [Z92 Tree.nil V1,q1]
    .have hl:z2.at_ < s.length:=V1
     refine ⟨V1,V1,V4,(j+1,s.set z2.at_.toNat z5),rfl,⟨V3,V3,?_,by simp only [List.length_set];omega⟩,V3⟩
     dsimp only
     rw [<-e3,<-Zdy Tree.nil V1,q1]
  .rw [Qd V1,Z4o] at e3
   have hs:Z9L false e y1=some (.mk 1 out ks):=by
    unfold Z9L
    rw [if_pos hk,<-f3,<-e3]
    try rfl
   simp only [Z2W,hs]
   exact V2
theorem Zod(r:Bool)(o:Op)(s:List Op)(rest out:List Tree):Z1E r (o ::s) rest out=(ZjX r o rest out).bind fun x=> Z1E r s x.2 x.1:=by rw [Z1E]
theorem Z13{ks:List Tree}(h:ZR ks)(n:Nat):ZR (ks.drop n):=by
 induction n generalizing ks with
 | zero=> exact h
 | succ n ih=> cases ks with
  | nil=> exact h
  | cons a r=> exact ih h.2
theorem ZA5:Zxs:=by
 intro N e t _ hp hN
 simp only [Z2Z,Z9m] at hp hN
 obtain ⟨k3,⟨p1,p2,d,p3⟩,p4,p5⟩:=hp
 have h1:=YU e
 have h2:=Y8 e.ops
 have h3:=ZqG t
 have h4:=Zt t.kids
 have r2:=Z71 p2
 have rt:=Zpp p5
 have ri:=Zr p3
 refine ZBM _ _ _ _ ?_
 (simp only [iB,vcT,vcS])
 have no:Z5v false e t=none->ZK cfg Tryz.f116.ntmps Tryz.f116.results.toList (Z2V (e,t,())) [] .ret (⟨[(4,.ptr (.loc 4) 0),(5,.c (.bool false))],[((.loc 4),[.int .i64 0,.nils,.nils])],[]⟩:LSt U):=by
  intro hs
  simp only [Z2V,hs]
  exact V2
 refine ⟨fun hk=> no (by unfold Z5v;rw [if_neg hk]),fun hk=> ?_⟩
 have hk:t.kind=e.list:=by simpa using hk
 have bg:Z5v false e t=Z1E false e.ops t.kids []:=by unfold Z5v;rw [if_pos hk]
 refine Zf (ι:=Int × List Tree × List Tree) (fun s=> Z0f e t s.1 s.2.2 s.2.1)
  (fun s=> 0<=s.1/\s.1<=e.ops.length/\Z1E false (e.ops.drop s.1.toNat) s.2.2 s.2.1=Z5v false e t/\s.2.1.length+s.2.2.length+Zj (e.ops.drop s.1.toNat)<=t.kids.length+Zj e.ops/\Z9 s.2.2<=Z9 t.kids/\ZR s.2.2)
  (fun s=> ((e.ops.length:Int) - s.1).toNat) (0,[],t.kids) rfl ⟨by simp,by simp,by simp [bg],by simp,by simp,rt.2.2⟩ ?_
 rintro ⟨i,out,b⟩ ⟨f1,f2,f3,f4,f5,f6⟩
 dsimp only at f1 f2 f3 f4 f5 f6
 refine Zp0 _ _ _ _ _ _ _ _ ?_
 rintro y1 ai
 (simp only [iB,vcT,vcS])
 refine ⟨fun hi=> ?_,fun hi=> ?_⟩
 .have ab:=Zq (l:=e.ops) (i:=i.toNat) V1 Op.nil
  rw [Jd f1 hi Op.nil,<-ai] at f3 f4
  rw [<-ai] at ab
  have hr:=Go.AM.rightOs_mem ri.ops y1 ab
  have hm:=YM ab
  have bf:=ZcR ab
  have b9:=Z4q e
  have bn:=Y4 y1
  have a9:=Z1P (Z2i r2.2.2.2.2.2.2 ab)
  have b2:=Zt y1.l
  simp only [Zj] at f4
  rw [Zod,Zvr] at f3
  have go:∀ (x:List Tree) (m:List Tree) (v:V U) N0 Q',Z1E false (e.ops.drop (i+1).toNat) x m=Z5v false e t->m.length+x.length+Zj (e.ops.drop (i+1).toNat)<=t.kids.length+Zj e.ops->Z9 x<=Z9 t.kids->ZR x->
    (∀ s2,s2=Z0f e t (i+1) x m->N0 s2)->Z8V N [1,1,1,1,0,1,0,0,1,1,1] (Z1b e t i x m v) (AExit.then N0 (AExit.inBlock 0 (ZgQ N [1,1,1,1,1] Q'))):=by
   intro x m v N0 Q' a1 a2 a3 a4 a5
   exact Zp1 _ _ _ _ _ _ _ _ _ ⟨V4,a5 _ rfl⟩
  have fin:∀ (x m:List Tree),Z1E false (e.ops.drop (i+1).toNat) x m=Z5v false e t->m.length+x.length+Zj (e.ops.drop (i+1).toNat)<=t.kids.length+Zj e.ops->Z9 x<=Z9 t.kids->ZR x->∀ s2,s2=Z0f e t (i+1) x m->
    ∃ j:Int × List Tree × List Tree,s2=Z0f e t j.1 j.2.2 j.2.1/\(0<=j.1/\j.1<=e.ops.length/\Z1E false (e.ops.drop j.1.toNat) j.2.2 j.2.1=Z5v false e t/\j.2.1.length+j.2.2.length+Zj (e.ops.drop j.1.toNat)<=t.kids.length+Zj e.ops/\Z9 j.2.2<=Z9 t.kids/\ZR j.2.2)/\((e.ops.length:Int) - j.1).toNat < ((e.ops.length:Int) - i).toNat:=by
   rintro x m a1 a2 a3 a4 _ rfl
   exact ⟨(i+1,m,x),rfl,⟨V3,V3,a1,a2,a3,a4⟩,V3⟩
  have r1:=JI hr
  have ht:∀ n:Nat,(b.take n).length<=b.length/\(b.take n).length+(b.drop n).length=b.length:=by
   intro n
   simp only [Qg,QZ];omega
  refine ⟨⟨f1,hi⟩,fun ak=> ⟨V1,?_⟩,fun ak=> ⟨fun af=> ?_,fun af=> ⟨fun aq=> ?_,fun aq=> ?_⟩⟩⟩
  .rw [Y7,Y7,if_pos ak,QX] at f3
   exact go _ _ _ _ _ f3 (by simp only [Qa];omega) f5 f6 (fin _ _ f3 (by simp only [Qa];omega) f5 f6)
  .refine ZaH _ _ _ _ _ _ _ _ _ _ ?_
   rintro z1 ae z2 au z3 ar z4 am z5 aj z6 ao
   rw [<-ai] at ae
   subst ae
   rw [Y7,if_pos af] at f3
   (simp only [iB,vcT,vcS])
   rw [X9] at aj
   rw [X9]
   refine ⟨fun hs=> no ?_,fun hs=> ⟨V1,V1,fun h=> by omega,fun _=> ⟨fun _=> ⟨?_,fun hq=> no ?_,fun hq=> ?_⟩,fun h=> absurd af h⟩⟩⟩
   .have:Z9B z1.l b=false:=by unfold Z9B;rw [decide_eq_false V1];try rfl
    rw [this,if_neg (by simp)] at f3
    exact f3.symm
   .have:=Zch z1.l.length b
    simp only [Z63];omega
   .have:Z9B z1.l b=false:=by unfold Z9B;rw [<-aj,hq];simp
    rw [this,if_neg (by simp)] at f3
    exact f3.symm
   .have:Z9B z1.l b=true:=by unfold Z9B;rw [<-aj,hq,decide_eq_true V1];try rfl
    rw [this,if_pos rfl,QX] at f3
    have hd:=Z1s z1.l.length b
    have a7:=ht z1.l.length
    exact go _ _ _ _ _ f3 V1 V1 (Z13 f6 _) (fin _ _ f3 V1 V1 (Z13 f6 _))
  .refine ZaH _ _ _ _ _ _ _ _ _ _ ?_
   rintro z1 ae z2 au z3 ar z4 am z5 aj z6 ao
   rw [<-ai] at ae
   subst ae
   rw [Y7,if_neg af,if_neg ak] at f3
   (simp only [iB,vcT,vcS])
   rw [show Int.toNat 1=1 from rfl]
   refine ⟨fun hs=> no ?_,fun hs=> ⟨V1,V1,fun h=> by omega,fun _=> ⟨fun h=> absurd h af,fun _=> ?_⟩⟩⟩
   .rw [V0] at f3
    exact f3.symm
   .have hz:z3=b.getD 0 Tree.nil:=by
     rw [ar,au]
     cases b with
     | nil=> rfl
     | cons a r=> rfl
    rw [Y7,<-hz,<-am] at f3
    have bm:=ZhP b 0
    have a6:=ZkE f6 0
    rw [<-hz] at bm a6
    have a8:=J4 hr aq
    rw [<-am] at a8 bn a9 bf
    refine ⟨?_,by simp only [Z2k];exact ⟨⟨V1,a9.2.2.2,_,a8⟩,V1,a6⟩,by simp only [Zdc];omega,fun ax=> no ?_,fun be=> ?_⟩
    .simp only [Qg];omega
    .have ax:doE false z4 z3=none:=by simpa using ax
     rw [ax] at f3
     exact f3.symm
    .obtain ⟨u,hu⟩:=QN.1 be
     rw [Z8o hu] at ao
     subst ao
     rw [hu,Q9,QX] at f3
     have hd:=Z1s 1 b
     have a7:=ht 1
     have ca:(b.take 1).length=1:=by simp only [Qg];omega
     refine ⟨by simp only [Xy];omega,?_⟩
     exact go _ _ _ _ _ f3 (by simp only [Qa,Xy];omega) V1 (Z13 f6 _) (fin _ _ f3 (by simp only [Qa,Xy];omega) V1 (Z13 f6 _))
  .have aw:y1.kind=0:=by cases r1 <;> first | rfl | (exfalso;simp at af ak aq)
   refine ZaH _ _ _ _ _ _ _ _ _ _ ?_
   rintro z1 ae z2 au z3 ar z4 am z5 aj z6 ao
   rw [<-ai] at ae
   subst ae
   rw [if_pos aw] at f3
   have hn:1<=z1.n/\z1.n<=1048576:=by cases r1 <;> first | (constructor <;> assumption) | (exfalso;simp at af ak aq aw)
   (simp only [iB,vcT,vcS])
   refine ⟨fun hs=> no ?_,fun hs=> ⟨V1,V1,fun _=> ⟨?_,?_⟩,fun h=> absurd aw h⟩⟩
   .rw [Y7] at f3
    exact f3.symm
   .have:=(ht z1.n.toNat).1
    omega
   .rw [V0,QX] at f3
    have hd:=Z1s z1.n.toNat b
    have a7:=ht z1.n.toNat
    exact go _ _ _ _ _ f3 (by simp only [Qa];omega) V1 (Z13 f6 _) (fin _ _ f3 (by simp only [Qa];omega) V1 (Z13 f6 _))
 .rw [Qd V1,Z1E] at f3
  simp only [Z2V,<-f3,ZrF,ZcN,QX,hk]
  by_cases hr:b.length=0
  .rw [if_pos hr,hr]
   exact V2
  .rw [if_neg hr,show ((b.length:Int)==0)=false by rw [beq_eq_false_iff_ne];omega]
   exact V2
theorem ZDF:Contract Tryz.prog cfg 74 Z86/\Contract Tryz.prog cfg 115 Zkw/\Contract Tryz.prog cfg 116 Zkv:=Zug Z9U Zom Zol Zgu ZzE Z9T ZsN b74 ZA6 ZA5
theorem c74:Contract Tryz.prog cfg 74 Z86:=ZDF.1
theorem Zii{r:Bool}{e:Edit}{t u:Tree}(b:∃ d,Z4 e d=true)(ht:Zk t+ctE e<=200000000000)(h:doE r e t=some u):Zk u<=1000000000000:=by
 obtain ⟨d,b⟩:=b
 have:=Zlv r e d t u b h
 omega
theorem c25:Contract Tryz.prog cfg 25 JP:=by
 refine ZyO c75 c74 ?_
 intro e t _ h
 simp only [Z2k] at h
 refine ZDx _ _ _ ?_
 rintro y1 s y2 ae y3 b
 subst s ae
 (simp only [iB,vcT,vcS])
 refine ⟨by simp only [Z2k];exact h,fun hn=> ?_,fun hs=> ?_⟩
 .have hn:doE false y1 y2=none:=by simpa using hn
  simp only [ZkW,hn]
  exact V2
 .obtain ⟨u,hu⟩:=QN.1 hs
  rw [Z8o hu] at b
  subst b
  have:=Zii h.1.2.2 h.2.1 hu
  refine ⟨by simp only [Z0v];exact this,?_⟩
  simp only [ZkW,hu]
  exact V2
noncomputable section
def Zay:ArgM ((List Op × List Tree × List Tree × Unit) × Unit):=(.obj 0 (.cons (cWr .op 0 0) (.cons (Z2D .tree 0 1) (.cons (Z2D .tree 0 2) .nil))) .nil)
def Z3W(a:(List Op × List Tree × List Tree × Unit) × Unit):Prop:=(a.1.1).length<=200000000000/\(a.1.2.1).length<=200000000000/\(a.1.2.2.1).length<=200000000000
def Z8c(a:(List Op × List Tree × List Tree × Unit) × Unit):V U:= .tup []
def Z4F(a:(List Op × List Tree × List Tree × Unit) × Unit):List (List (C U)):=[[.mref (.x 0 0),sU .tree ((Ze (Wst.mk a.1.1 a.1.2.1 a.1.2.2.1)).gone) (.own (.x 0 1)),sU .tree ((Ze (Wst.mk a.1.1 a.1.2.1 a.1.2.2.1)).brought) (.own (.x 0 2))]]
def Z4G(a:(List Op × List Tree × List Tree × Unit) × Unit):List (Tok × LC U):=[(.x 0 0,LC.mk (U:=U) .op ((Ze (Wst.mk a.1.1 a.1.2.1 a.1.2.2.1)).out) 0)]
def Z0T:Fs U:=Zdf Zay (fun a=> [Z3W a]) Z8c Z4F Z4G
def ZaA:ArgM ((List Op × List Tree × List Tree × Unit) × Int × Unit):=(.obj 0 (.cons (cWr .op 0 0) (.cons (Z2D .tree 0 1) (.cons (Z2D .tree 0 2) .nil))) (.cons (YR .i64) .nil))
def Z64(a:(List Op × List Tree × List Tree × Unit) × Int × Unit):Prop:=(a.1.1).length<=200000000000/\(a.1.2.1).length<=200000000000/\(a.1.2.2.1).length<=200000000000/\(∀ o∈a.1.1,0<=o.n/\o.n<=100000000000000000)/\0<=a.2.1/\a.2.1<=1048576
def Zj7(a:(List Op × List Tree × List Tree × Unit) × Int × Unit):V U:= .tup []
def ZeZ(a:(List Op × List Tree × List Tree × Unit) × Int × Unit):List (List (C U)):=[[.mref (.x 0 0),sU .tree ((ZU (Wst.mk a.1.1 a.1.2.1 a.1.2.2.1) a.2.1).gone) (.own (.x 0 1)),sU .tree ((ZU (Wst.mk a.1.1 a.1.2.1 a.1.2.2.1) a.2.1).brought) (.own (.x 0 2))]]
def Zf0(a:(List Op × List Tree × List Tree × Unit) × Int × Unit):List (Tok × LC U):=[(.x 0 0,LC.mk (U:=U) .op ((ZU (Wst.mk a.1.1 a.1.2.1 a.1.2.2.1) a.2.1).out) 0)]
def Z4y:Fs U:=Zdf ZaA (fun a=> [Z64 a]) Zj7 ZeZ Zf0
def Zaz:ArgM ((List Op × List Tree × List Tree × Unit) × List Tree × Unit):=(.objAt 0 1 (.cons (cWr .op 0 0) (.cons (Z2D .tree 0 1) (.cons (Z2D .tree 0 2) .nil))) (.cons (aSl .tree) .nil))
def ZbP(a:(List Op × List Tree × List Tree × Unit) × List Tree × Unit):Prop:=(a.1.1).length<=200000000000/\(a.1.2.1).length<=200000000000/\(a.1.2.2.1).length<=200000000000/\Z9 a.2.1<=20000000000
def ZpO(a:(List Op × List Tree × List Tree × Unit) × List Tree × Unit):V U:= .tup []
def ZkJ(a:(List Op × List Tree × List Tree × Unit) × List Tree × Unit):List (List (C U)):=[[.mref (.x 0 0),sU .tree ((Wst.mk a.1.1 (a.1.2.1++Zd a.2.1) a.1.2.2.1).gone) (.own (.x 0 1)),sU .tree ((Wst.mk a.1.1 (a.1.2.1++Zd a.2.1) a.1.2.2.1).brought) (.own (.x 0 2))]]
def ZkK(a:(List Op × List Tree × List Tree × Unit) × List Tree × Unit):List (Tok × LC U):=[(.x 0 0,LC.mk (U:=U) .op ((Wst.mk a.1.1 (a.1.2.1++Zd a.2.1) a.1.2.2.1).out) 0)]
def ZeK:Fs U:=Zdf Zaz (fun a=> [ZbP a]) ZpO ZkJ ZkK
def Z81:ArgM ((List Op × List Tree × List Tree × Unit) × List Tree × Unit):=(.objAt 0 2 (.cons (cWr .op 0 0) (.cons (Z2D .tree 0 1) (.cons (Z2D .tree 0 2) .nil))) (.cons (aSl .tree) .nil))
def Zhg(a:(List Op × List Tree × List Tree × Unit) × List Tree × Unit):List (List (C U)):=[[.mref (.x 0 0),sU .tree ((Wst.mk a.1.1 a.1.2.1 (a.1.2.2.1++Zd a.2.1)).gone) (.own (.x 0 1)),sU .tree ((Wst.mk a.1.1 a.1.2.1 (a.1.2.2.1++Zd a.2.1)).brought) (.own (.x 0 2))]]
def Zhh(a:(List Op × List Tree × List Tree × Unit) × List Tree × Unit):List (Tok × LC U):=[(.x 0 0,LC.mk (U:=U) .op ((Wst.mk a.1.1 a.1.2.1 (a.1.2.2.1++Zd a.2.1)).out) 0)]
def Zbg:Fs U:=Zdf Z81 (fun a=> [ZbP a]) ZpO Zhg Zhh
def Z7c(a:Int × Edit × Unit):Prop:=a.2.1.words.length<=20000000000/\a.2.1.kids.length<=20000000000
def ZkY(a:Int × Edit × Unit):V U:= .c (.bool (Zi9 a.1 a.2.1))
def Z2a:Fs U:=fs ZmD (fun a=> [Z7c a]) ZkY
def Zro:Z6 U:=lvk [([0,7],[((.x 0),[.wr .op])]),([0],[((.x 0),[.wr .op])]),([0,28],[((.x 0),[.wr .op])]),([0],[((.x 0),[.wr .op])]),([],[((.x 0),[.wr .op])])]
abbrev ZDU(wo:List Op)(wg wb:List Tree)(Q:QT):=AW (Z1 ZjN) Tryz.f150 Zro [] (⟨[(0,.ptr (.x 0) 0)],[(.x 0,[.mref (.x 0 0),sU .tree wg (.own (.x 0 1)),sU .tree wb (.own (.x 0 2))])],[(.x 0 0,LC.mk (U:=U) .op wo 0)]⟩:LSt U) Q
theorem ZBs(wo:List Op)(wg wb:List Tree)(Q:QT)(h:∀ b,b=(Edit.mk 0 (Tree.mk 0 [] []) (Tree.mk 0 [] []) [] [] 0 [])->∀ s,s=(List.set (wo++([(OpOf.mk 0 0 [] b:Op)])) (Int.toNat (wo.length:Int)) (OpOf.mk 1 0 wg b:Op))->let z0:=decide ((0:Int) < (wb.length:Int));iB (decide ((0:Int) < (wg.length:Int))) (((wo.length+([(OpOf.mk 0 0 [] b:Op)]).length)*240<=140737488355328)/\((0:Int)<=(wo.length:Int)/\(wo.length:Int) < ((wo++([(OpOf.mk 0 0 [] b:Op)])).length:Int))/\((0:Nat)<=(Int.toNat (wo.length:Int)))/\(iB z0 (((s.length+([(OpOf.mk 0 0 [] b:Op)]).length)*240<=140737488355328)/\((0:Int)<=(s.length:Int)/\(s.length:Int) < ((s++([(OpOf.mk 0 0 [] b:Op)])).length:Int))/\((0:Nat)<=(Int.toNat (s.length:Int)))/\(Q .normal (⟨[],[(.x 0,[.mref (.x 0 0),.nils,.nils])],[(.x 0 0,LC.mk (U:=U) .op (List.set (s++([(OpOf.mk 0 0 [] b:Op)])) (Int.toNat (s.length:Int)) (OpOf.mk 2 0 wb b:Op)) 0)]⟩:LSt U))) (Q .normal (⟨[],[(.x 0,[.mref (.x 0 0),.nils,.nils])],[(.x 0 0,LC.mk (U:=U) .op s 0)]⟩:LSt U)))) (iB z0 (((wo.length+([(OpOf.mk 0 0 [] b:Op)]).length)*240<=140737488355328)/\((0:Int)<=(wo.length:Int)/\(wo.length:Int) < ((wo++([(OpOf.mk 0 0 [] b:Op)])).length:Int))/\((0:Nat)<=(Int.toNat (wo.length:Int)))/\(Q .normal (⟨[],[(.x 0,[.mref (.x 0 0),.nils,.nils])],[(.x 0 0,LC.mk (U:=U) .op (List.set (wo++([(OpOf.mk 0 0 [] b:Op)])) (Int.toNat (wo.length:Int)) (OpOf.mk 2 0 wb b:Op)) 0)]⟩:LSt U))) (Q .normal (⟨[],[(.x 0,[.mref (.x 0 0),.nils,.nils])],[(.x 0 0,LC.mk (U:=U) .op wo 0)]⟩:LSt U)))):
  ZDU wo wg wb Q:=
 Eq.mpr V6 (h _ rfl _ rfl)
def Zwm(wo:List Op)(wg wb:List Tree):Prop:=AW (Z1 ZjN) Tryz.f150 Zro [] (Jc (Zay.can ((wo,wg,wb,()),())) (Zay.canX ((wo,wg,wb,()),())) (Zay.canL ((wo,wg,wb,()),()))) (JG cfg Tryz.f150.ntmps Tryz.f150.results.toList (Z8c ((wo,wg,wb,()),())) (Z4F ((wo,wg,wb,()),())) (Z4G ((wo,wg,wb,()),())))
theorem ZuR(hb:∀ (b:List Op) (s:List Tree) (h:List Tree) (_:Unit),Z3W ((b,s,h,()),())->Zwm b s h):CT 150 Z0T:=
 Ya (l:=[]) Za rfl trivial Zro Tryz.func150 rfl rfl 1 (fun _=> rfl) V5 (fun ⟨⟨b,s,h,_⟩,_⟩=> hb b s h ())
def Zma:List (FuncId × Fs U):=[(150,Z0T)]
def Zrp:Z6 U:=lvk [([0,1],[((.x 0),[.wr .op])]),([0,1,4],[((.x 0),[.wr .op])]),([0,1,4,25],[((.x 0),[.wr .op])]),([],[((.x 0),[.wr .op])]),([],[((.x 0),[.wr .op])])]
abbrev ZDW(wo:List Op)(wg wb:List Tree)(n:Int)(Q:QT):=AW (Z1 Zma) Tryz.f147 Zrp [] (⟨[(0,.ptr (.x 0) 0),pI 1 n],[(.x 0,[.mref (.x 0 0),sU .tree wg (.own (.x 0 1)),sU .tree wb (.own (.x 0 2))])],[(.x 0 0,LC.mk (U:=U) .op wo 0)]⟩:LSt U) Q
theorem ZBu(wo:List Op)(wg wb:List Tree)(n:Int)(Q:QT)(h:∀ s,s=(Edit.mk 0 (Tree.mk 0 [] []) (Tree.mk 0 [] []) [] [] 0 [])->∀ u,u=(Int.toNat (((((Ze (Wst.mk wo wg wb)).out).length:Int):Int) - 1))->∀ b,b=(List.getD ((Ze (Wst.mk wo wg wb)).out) u Op.nil)->∀ aa,aa=(b.e)->let z1:=Ze (Wst.mk wo wg wb);let z0:=decide ((0:Int)<=((((z1.out).length:Int):Int) - 1));((Z3W ((wo,wg,wb,()),()))/\((InR ((((z1.out).length:Int):Int) - 1))/\((Tt z0)/\(Tt z0)/\(Tt z0)/\(Tt z0)/\(Tt z0)/\(z0=true->(0:Int)<=((((z1.out).length:Int):Int) - 1)/\((((z1.out).length:Int):Int) - 1) < ((z1.out).length:Int))/\(Tt z0)/\(Tt z0)/\(Tt z0)/\(Tt z0)/\(iB (bif z0 then (b.kind==0) else false) (((0:Int)<=((((z1.out).length:Int):Int) - 1)/\((((z1.out).length:Int):Int) - 1) < ((z1.out).length:Int))/\(InR (b.n+n))/\((0:Int)<=((((z1.out).length:Int):Int) - 1)/\((((z1.out).length:Int):Int) - 1) < ((z1.out).length:Int))/\((0:Nat)<=u)/\(Q .ret (⟨[],[(.x 0,[.mref (.x 0 0),sU .tree (z1.gone) (.own (.x 0 1)),sU .tree (z1.brought) (.own (.x 0 2))])],[(.x 0 0,LC.mk (U:=U) .op (List.set (z1.out) u (OpOf.mk b.kind (b.n+n) b.l aa:Op)) 0)]⟩:LSt U))) ((((z1.out).length+([(OpOf.mk 0 0 [] s:Op)]).length)*240<=140737488355328)/\((0:Int)<=((z1.out).length:Int)/\((z1.out).length:Int) < (((z1.out)++([(OpOf.mk 0 0 [] s:Op)])).length:Int))/\((0:Nat)<=(Int.toNat ((z1.out).length:Int)))/\(Q .normal (⟨[],[(.x 0,[.mref (.x 0 0),sU .tree (z1.gone) (.own (.x 0 1)),sU .tree (z1.brought) (.own (.x 0 2))])],[(.x 0 0,LC.mk (U:=U) .op (List.set ((z1.out)++([(OpOf.mk 0 0 [] s:Op)])) (Int.toNat ((z1.out).length:Int)) (OpOf.mk 0 n [] s:Op)) 0)]⟩:LSt U)))))))):
  ZDW wo wg wb n Q:=
 Eq.mpr V6 (h _ rfl _ rfl _ rfl _ (Z3 _))
def Zwo(wo:List Op)(wg wb:List Tree)(n:Int):Prop:=AW (Z1 Zma) Tryz.f147 Zrp [] (Jc (ZaA.can ((wo,wg,wb,()),n,())) (ZaA.canX ((wo,wg,wb,()),n,())) (ZaA.canL ((wo,wg,wb,()),n,()))) (JG cfg Tryz.f147.ntmps Tryz.f147.results.toList (Zj7 ((wo,wg,wb,()),n,())) (ZeZ ((wo,wg,wb,()),n,())) (Zf0 ((wo,wg,wb,()),n,())))
theorem ZuT(Zon:CT 150 Z0T)(hb:∀ (b:List Op) (s:List Tree) (h:List Tree) (n:Int) (_:Unit),Z64 ((b,s,h,()),n,())->Zwo b s h n):CT 147 Z4y:=
 Ya (l:=[(150,Z0T)]) Za rfl (⟨Zon,trivial⟩) Zrp Tryz.func147 rfl rfl 2 (fun _=> rfl) V5 (fun ⟨⟨b,s,h,_⟩,n,_⟩=> hb b s h n ())
def Zas:List (FuncId × Fs U):=[(75,YV)]
def ZhU:Z6 U:=lvk [([0,6,7,8],[((.x 0),[.wr .op])]),([0,6,7,8,9],[((.x 0),[.wr .op])]),([0,5,6,7,8],[5,((.x 0),[.wr .op])]),([0,6,7,8],[((.x 0),[.wr .op])]),([0,6,7,8],[((.x 0),[.wr .op])])]
def Z55(wo:List Op)(wg wb l:List Tree)(b:Int)(mx0_1:List Tree):LSt U:=(⟨[(0,.ptr (.x 0) 1),(6,.c (sU .tree l .unk)),pI 7 (l.length:Int),pI 8 b],[(.x 0,[.mref (.x 0 0),sU .tree mx0_1 (.own (.x 0 1)),sU .tree wb (.own (.x 0 2))])],[(.x 0 0,LC.mk (U:=U) .op wo 0)]⟩:LSt U)
abbrev ZDV(wo:List Op)(wg wb l:List Tree)(Q:QT):=AW (Z1 Zas) Tryz.f148 ZhU [] (⟨[(0,.ptr (.x 0) 1),(1,.c (sU .tree l .unk))],[(.x 0,[.mref (.x 0 0),sU .tree wg (.own (.x 0 1)),sU .tree wb (.own (.x 0 2))])],[(.x 0 0,LC.mk (U:=U) .op wo 0)]⟩:LSt U) Q
theorem ZBt(wo:List Op)(wg wb l:List Tree)(Q:QT)(h:Zp (AW (Z1 Zas) Tryz.f148 ZhU [1,0,0]) (Z55 wo wg wb l 0 wg) (xB 0 Q)):
  ZDV wo wg wb l Q:=
 Eq.mpr V6 h
abbrev ZvF(wo:List Op)(wg wb l:List Tree)(b:Int)(mx0_1:List Tree)(N0:NT)(Q:QT):=AW (Z1 Zas) Tryz.f148 ZhU [1,0,0] (Z55 wo wg wb l b mx0_1) (xT N0 (xB 0 Q))
theorem ZoV(wo:List Op)(wg wb l:List Tree)(b:Int)(mx0_1:List Tree)(N0:NT)(Q:QT)(h:let z2:=decide (b < (l.length:Int));let z1:=l.getD b.toNat Tree.nil;let z0:=Tree.mk (Tree.kind z1) (Tree.words z1) (Tree.kids z1);iB z2 (((0:Int)<=b/\b < (l.length:Int))/\((Z0v (z0,()))/\((mx0_1.length+([(Tree.mk 0 [] [])]).length)*56<=140737488355328)/\((0:Int)<=(mx0_1.length:Int)/\(mx0_1.length:Int) < ((mx0_1++([(Tree.mk 0 [] [])])).length:Int))/\(mx0_1.length<=(Int.toNat (mx0_1.length:Int)))/\((InR (b+1))/\(N0 (Z55 wo wg wb l (b+1) (List.set (mx0_1++([(Tree.mk 0 [] [])])) (Int.toNat (mx0_1.length:Int)) (Tree.mk (Tree.kind (Z5 z0)) (Tree.words (Z5 z0)) (Tree.kids (Z5 z0))))))))) (Q .normal (⟨[(0,.ptr (.x 0) 1),(6,.c (sU .tree l .unk)),pI 7 (l.length:Int),pI 8 b,pB 9 z2],[(.x 0,[.mref (.x 0 0),sU .tree mx0_1 (.own (.x 0 1)),sU .tree wb (.own (.x 0 2))])],[(.x 0 0,LC.mk (U:=U) .op wo 0)]⟩:LSt U))):
  ZvF wo wg wb l b mx0_1 N0 Q:=
 Eq.mpr V6 h
def Zwn(wo:List Op)(wg wb l:List Tree):Prop:=AW (Z1 Zas) Tryz.f148 ZhU [] (Jc (Zaz.can ((wo,wg,wb,()),l,())) (Zaz.canX ((wo,wg,wb,()),l,())) (Zaz.canL ((wo,wg,wb,()),l,()))) (JG cfg Tryz.f148.ntmps Tryz.f148.results.toList (ZpO ((wo,wg,wb,()),l,())) (ZkJ ((wo,wg,wb,()),l,())) (ZkK ((wo,wg,wb,()),l,())))
theorem ZuS(c75:CT 75 YV)(hb:∀ (b:List Op) (s:List Tree) (h:List Tree) (l:List Tree) (_:Unit),ZbP ((b,s,h,()),l,())->Zwn b s h l):CT 148 ZeK:=
 Ya (l:=[(75,YV)]) Za rfl (⟨c75,trivial⟩) ZhU Tryz.func148 rfl rfl 2 (fun _=> rfl) V5 (fun ⟨⟨b,s,h,_⟩,l,_⟩=> hb b s h l ())
def Z38(wo:List Op)(wg wb l:List Tree)(b:Int)(mx0_2:List Tree):LSt U:=(⟨[(0,.ptr (.x 0) 2),(6,.c (sU .tree l .unk)),pI 7 (l.length:Int),pI 8 b],[(.x 0,[.mref (.x 0 0),sU .tree wg (.own (.x 0 1)),sU .tree mx0_2 (.own (.x 0 2))])],[(.x 0 0,LC.mk (U:=U) .op wo 0)]⟩:LSt U)
abbrev ZCJ(wo:List Op)(wg wb l:List Tree)(Q:QT):=AW (Z1 Zas) Tryz.f148 ZhU [] (⟨[(0,.ptr (.x 0) 2),(1,.c (sU .tree l .unk))],[(.x 0,[.mref (.x 0 0),sU .tree wg (.own (.x 0 1)),sU .tree wb (.own (.x 0 2))])],[(.x 0 0,LC.mk (U:=U) .op wo 0)]⟩:LSt U) Q
theorem ZxW(wo:List Op)(wg wb l:List Tree)(Q:QT)(h:Zp (AW (Z1 Zas) Tryz.f148 ZhU [1,0,0]) (Z38 wo wg wb l 0 wb) (xB 0 Q)):
  ZCJ wo wg wb l Q:=
 Eq.mpr V6 h
abbrev Zte(wo:List Op)(wg wb l:List Tree)(b:Int)(mx0_2:List Tree)(N0:NT)(Q:QT):=AW (Z1 Zas) Tryz.f148 ZhU [1,0,0] (Z38 wo wg wb l b mx0_2) (xT N0 (xB 0 Q))
theorem Znf(wo:List Op)(wg wb l:List Tree)(b:Int)(mx0_2:List Tree)(N0:NT)(Q:QT)(h:let z2:=decide (b < (l.length:Int));let z1:=l.getD b.toNat Tree.nil;let z0:=Tree.mk (Tree.kind z1) (Tree.words z1) (Tree.kids z1);iB z2 (((0:Int)<=b/\b < (l.length:Int))/\((Z0v (z0,()))/\((mx0_2.length+([(Tree.mk 0 [] [])]).length)*56<=140737488355328)/\((0:Int)<=(mx0_2.length:Int)/\(mx0_2.length:Int) < ((mx0_2++([(Tree.mk 0 [] [])])).length:Int))/\(mx0_2.length<=(Int.toNat (mx0_2.length:Int)))/\((InR (b+1))/\(N0 (Z38 wo wg wb l (b+1) (List.set (mx0_2++([(Tree.mk 0 [] [])])) (Int.toNat (mx0_2.length:Int)) (Tree.mk (Tree.kind (Z5 z0)) (Tree.words (Z5 z0)) (Tree.kids (Z5 z0))))))))) (Q .normal (⟨[(0,.ptr (.x 0) 2),(6,.c (sU .tree l .unk)),pI 7 (l.length:Int),pI 8 b,pB 9 z2],[(.x 0,[.mref (.x 0 0),sU .tree wg (.own (.x 0 1)),sU .tree mx0_2 (.own (.x 0 2))])],[(.x 0 0,LC.mk (U:=U) .op wo 0)]⟩:LSt U))):
  Zte wo wg wb l b mx0_2 N0 Q:=
 Eq.mpr V6 h
def Ztx(wo:List Op)(wg wb l:List Tree):Prop:=AW (Z1 Zas) Tryz.f148 ZhU [] (Jc (Z81.can ((wo,wg,wb,()),l,())) (Z81.canX ((wo,wg,wb,()),l,())) (Z81.canL ((wo,wg,wb,()),l,()))) (JG cfg Tryz.f148.ntmps Tryz.f148.results.toList (ZpO ((wo,wg,wb,()),l,())) (Zhg ((wo,wg,wb,()),l,())) (Zhh ((wo,wg,wb,()),l,())))
theorem ZqV(c75:CT 75 YV)(hb:∀ (b:List Op) (s:List Tree) (h:List Tree) (l:List Tree) (_:Unit),ZbP ((b,s,h,()),l,())->Ztx b s h l):CT 148 Zbg:=
 Ya (l:=[(75,YV)]) Za rfl (⟨c75,trivial⟩) ZhU Tryz.func148 rfl rfl 2 (fun _=> rfl) V5 (fun ⟨⟨b,s,h,_⟩,l,_⟩=> hb b s h l ())
abbrev ZCI(list:Int)(e:Edit)(Q:QT):=AW (Z1 ZjN) Tryz.f149 Zr5 [] (L2 [pI 0 list,(1,.agg (enc .edit e))] []) Q
theorem ZxV(list:Int)(e:Edit)(Q:QT)(h:let z2:=(!(e.kind==0)) && (list==9);let z1:=bif (list==9) then (e.kind==2) else false;let z0:=(!(e.kind==0)) && z1;((Tt (!(e.kind==0)))/\(Tt (!(e.kind==0)))/\(Tt z2)/\(Tt z2)/\((!(e.kind==0))=true->(True->(!(e.kind==0))=true))/\((!(e.kind==0))=true->((list==9)=true->z2=true))/\(Tt (!(e.kind==0)))/\(Tt z0)/\(Tt z0)/\(Tt z0)/\(Tt z0)/\(Tt z0)/\(Tt z0)/\(z0=true->InR (((e.words.length:Int):Int)+(e.kids.length:Int)))/\(Tt z0)/\((!(e.kind==0))=true->(True->(!(e.kind==0))=true))/\((!(e.kind==0))=true->(z1=true->z0=true))/\((e.kind==0)=false->(!(e.kind==0))=true)/\(Q .ret (L2 [(4,.c (.bool (bif (e.kind==0) then true else (bif z1 then (((((e.words.length:Int):Int)+(e.kids.length:Int)):Int)==0) else false))))] [])))):
  ZCI list e Q:=
 Eq.mpr V6 h
def Ztw(list:Int)(e:Edit):Prop:=AW (Z1 ZjN) Tryz.f149 Zr5 [] (Zb (ZmD.can (list,e,())) []) (EQ Tryz.f149 (ZkY (list,e,())) [])
theorem ZqU(hb:∀ (list:Int) (e:Edit) (_:Unit),Z7c (list,e,())->Ztw list e):CT 149 Z2a:=
 Z0 (l:=[]) Za rfl trivial Zr5 Tryz.func149 rfl rfl 2 (fun _=> rfl) V5 (fun ⟨list,e,_⟩=> hb list e ())
end
theorem Z0s{α:Type}(l:List α)(z x:α):(l++[z]).set (Int.toNat (l.length:Int)) x=l++[x]:=by
 simp_all
theorem Z7A:∀ (F:List Op) (n:Int),Z0L F n=if F.length≠0/\(F.getD (F.length - 1) Op.nil).kind=0 then F.set (F.length - 1) ⟨(F.getD (F.length - 1) Op.nil).kind,(F.getD (F.length - 1) Op.nil).n+n,(F.getD (F.length - 1) Op.nil).l,(F.getD (F.length - 1) Op.nil).e⟩ else F++[⟨0,n,[],Edit.nil⟩]
 | [],n=> by simp [Z0L]
 | [o],n=> by simp [Z0L]
 | o ::p ::r,n=> by
  have b:=Z7A (p ::r) n
  have e:(o ::p ::r).length - 1=((p ::r).length - 1)+1:=by simp
  rw [Z0L,b,e]
  grind
theorem Z8K(s:Wst):(Ze s).out.length<=s.out.length+2:=by
 simp only [Ze,Z0h]
 grind
theorem Z8J(s:Wst):∀ o∈(Ze s).out,o∈s.out\/o.n=0:=by
 intro o b
 simp only [Ze,Z0h,Qc] at b
 grind
theorem Zon:Contract Tryz.prog cfg 150 Z0T:=by
 refine ZuR ?_
 intro b s h _ hp
 simp only [Z3W] at hp
 refine ZBs b s h _ ?_
 rintro y1 aa y2 u
 have hy:y1=Edit.nil:=aa
 subst hy
 rw [Z0s] at u
 subst u
 (simp only [iB,vcS])
 refine ⟨fun h1=> ⟨by simp;omega,by simp;omega,V1,fun h2=> ⟨by simp;omega,by simp;omega,V1,?_⟩,fun h2=> ?_⟩,fun h1=> ⟨fun h2=> ⟨by simp;omega,by simp;omega,V1,?_⟩,fun h2=> ?_⟩⟩
 .rw [Z0s]
  have e:Ze ⟨b,s,h⟩=⟨b++[⟨1,0,s,Edit.nil⟩]++[⟨2,0,h,Edit.nil⟩],[],[]⟩:=by
   simp only [Ze,Z0h];rw [Y7,Y7];simp
  simp only [Z8c,Z4F,Z4G,e]
  exact V2
 .have e:Ze ⟨b,s,h⟩=⟨b++[⟨1,0,s,Edit.nil⟩],[],[]⟩:=by
   simp only [Ze,Z0h];rw [Y7,V0];simp
  simp only [Z8c,Z4F,Z4G,e]
  exact V2
 .rw [Z0s]
  have e:Ze ⟨b,s,h⟩=⟨b++[⟨2,0,h,Edit.nil⟩],[],[]⟩:=by
   simp only [Ze,Z0h];rw [V0,Y7];simp
  simp only [Z8c,Z4F,Z4G,e]
  exact V2
 .have e:Ze ⟨b,s,h⟩=⟨b,[],[]⟩:=by
   simp only [Ze,Z0h];rw [V0,V0];simp
  simp only [Z8c,Z4F,Z4G,e]
  exact V2
theorem ZzH:Contract Tryz.prog cfg 147 Z4y:=by
 refine ZuT Zon ?_
 intro b u s n _ hp
 simp only [Z64] at hp
 obtain ⟨p1,p2,p3,p4,p5,p6⟩:=hp
 have aj:=Z8K ⟨b,u,s⟩
 have ae:=Z8J ⟨b,u,s⟩
 have hg:(Ze ⟨b,u,s⟩).gone=[]:=rfl
 have hb:(Ze ⟨b,u,s⟩).brought=[]:=rfl
 have hk:=Z7A (Ze ⟨b,u,s⟩).out n
 have ai:ZU ⟨b,u,s⟩ n=⟨Z0L (Ze ⟨b,u,s⟩).out n,[],[]⟩:=rfl
 refine ZBu b u s n _ ?_
 simp only [hg,hb,Zj7,ZeZ,Zf0,ai]
 generalize (Ze ⟨b,u,s⟩).out=F at*
 simp only at aj ae
 rintro y1 ah y2 a1 y3 aa y4 ak
 have hy:y1=Edit.nil:=ah
 subst hy
 have e2:y2=F.length - 1:=V1
 subst e2
 rw [<-aa,<-ak] at hk
 simp only [iB,vcT,vcS,aiT,true_and]
 refine ⟨by simp only [Z3W];exact ⟨p1,p2,p3⟩,V4,fun h=> ⟨h,V1⟩,fun h=> ?_,fun h=> ?_⟩
 .have al:0<=y3.n/\y3.n<=100000000000000000:=by
   have hm:y3∈F:=by rw [aa];exact Zq V1 _
   rcases ae y3 hm with h1 | h1
   .exact p4 y3 h1
   .omega
  rw [if_pos ⟨V1,h.2⟩] at hk
  rw [hk]
  refine ⟨V1,V4,V1,V1,?_⟩
  exact V2
 .rw [Y7] at hk
  rw [hk,Z0s]
  refine ⟨by simp;omega,by simp;omega,V1,?_⟩
  exact V2
theorem ZDH:Contract Tryz.prog cfg 148 ZeK:=by
 refine ZuS c75 ?_
 intro wo h wb l _ hp
 simp only [ZbP] at hp
 obtain ⟨p1,p2,p3,p4⟩:=hp
 have hl:=Zt l
 refine ZBt _ _ _ _ _ ?_
 refine Zf (ι:=Int × List Tree) (fun s=> Z55 wo h wb l s.1 s.2) (fun s=> 0<=s.1/\s.1<=l.length/\s.2.length=h.length+s.1/\s.2++Zd (l.drop s.1.toNat)=h++Zd l) (fun s=> ((l.length:Int) - s.1).toNat) (0,h) rfl ⟨by simp,by simp,by simp,by simp⟩ ?_
 rintro ⟨i,out⟩ ⟨u,h2,h3,b⟩
 dsimp only at u h2 h3 b
 refine ZoV _ _ _ _ _ _ _ _ ?_
 (simp only [iB,vcS])
 (simp only [vE])
 refine ⟨fun hi=> ?_,fun hi=> ?_⟩
 .have hm:=Jh (Zq (l:=l) (i:=i.toNat) V1 Tree.nil)
  rw [Jd u hi Tree.nil] at b
  simp only [Zd,Xc] at b
  rw [Z0s]
  refine ⟨⟨u,hi⟩,by simp only [Z0v];omega,by simp;omega,by simp;omega,V1,V4,(i+1,out++[Z5 (l.getD i.toNat Tree.nil)]),rfl,⟨V3,V3,by simp;omega,?_⟩,V3⟩
  simp only [Ql,Qq,QL]
  exact b
 .rw [Qd V1] at b
  simp only [Zd,K4,QM] at b
  rw [b]
  exact V2
theorem ZCE:Contract Tryz.prog cfg 148 Zbg:=by
 refine ZqV c75 ?_
 intro wo wg h l _ hp
 simp only [ZbP] at hp
 obtain ⟨p1,p2,p3,p4⟩:=hp
 have hl:=Zt l
 refine ZxW _ _ _ _ _ ?_
 refine Zf (ι:=Int × List Tree) (fun s=> Z38 wo wg h l s.1 s.2) (fun s=> 0<=s.1/\s.1<=l.length/\s.2.length=h.length+s.1/\s.2++Zd (l.drop s.1.toNat)=h++Zd l) (fun s=> ((l.length:Int) - s.1).toNat) (0,h) rfl ⟨by simp,by simp,by simp,by simp⟩ ?_
 rintro ⟨i,out⟩ ⟨u,h2,h3,b⟩
 dsimp only at u h2 h3 b
 refine Znf _ _ _ _ _ _ _ _ ?_
 (simp only [iB,vcS])
 (simp only [vE])
 refine ⟨fun hi=> ?_,fun hi=> ?_⟩
 .have hm:=Jh (Zq (l:=l) (i:=i.toNat) V1 Tree.nil)
  rw [Jd u hi Tree.nil] at b
  simp only [Zd,Xc] at b
  rw [Z0s]
  refine ⟨⟨u,hi⟩,by simp only [Z0v];omega,by simp;omega,by simp;omega,V1,V4,(i+1,out++[Z5 (l.getD i.toNat Tree.nil)]),rfl,⟨V3,V3,by simp;omega,?_⟩,V3⟩
  simp only [Ql,Qq,QL]
  exact b
 .rw [Qd V1] at b
  simp only [Zd,K4,QM] at b
  rw [b]
  exact V2
theorem ZsM:Contract Tryz.prog cfg 149 Z2a:=by
 refine ZqU ?_
 intro list e _ b
 simp only [Z7c] at b
 refine ZxV _ _ _ ?_
 simp only [iB,vcT,vcS,aiT,true_and]
 refine ⟨fun _=> by unfold InR;grind,Zc rfl ?_⟩
 rw [QC]
 simp only [Zi9]
 grind
noncomputable def Z3G:Fs U:=Zo7 ZeK Zbg
theorem ZsH:Contract Tryz.prog cfg 148 Z3G:=Z1X ZDH ZCE
noncomputable section
def Z0K(a:Edit × Unit):Prop:=Z8 a.1<=20000000000/\∃ d,Z4 a.1 d=true
def ZfY(a:Edit × Unit):Nat:=2*Z8 a.1
def Z99(a:Edit × Unit):V U:= .agg (enc .edit (Zm a.1))
def Z1e:Fs U:=fs Zt6 (fun a=> [Z0K a]) Z99
def ZaC:ArgL (Int × List Op × Unit):=(.cons (YR .i64) (.cons (aSl .op) .nil))
def Z65(a:Int × List Op × Unit):Prop:=Zj a.2.1<=20000000000/\∀ o∈a.2.1,∃ d,Zg a.1 o d=true
def Zcc(a:Int × List Op × Unit):Nat:=2*Zj a.2.1+1
def Zbz(a:Int × List Op × Unit):V U:= .c (sU .op ((Ze (ZP a.1 a.2.1 (Wst.mk [] [] []))).out) .unk)
def Zkx:Fs U:=fs ZaC (fun a=> [Z65 a]) Zbz
def Z8C(N:Nat):List (FuncId × Fs U):=(67,fs Zt6 (fun a=> [Z0K a,ZfY a < N]) Z99) ::(107,fs ZaC (fun a=> [Z65 a,Zcc a < N]) Zbz) ::[(75,YV),(149,Z2a),(147,Z4y),(150,Z0T),(148,Z3G)]
def Zjy:Z6 U:=lvk [([1,2],[1,2]),([1,2,3],[1,2,3]),([1,2,3,12],[1,2,3]),([1,2,3,12,13],[1,2,3]),([2,3],[2,3]),([1,2,3,12,23],[1,2,3]),([1,2,3],[1,2,3]),([2,3,32,33,34],[2,((.loc 3),(an 8 [.own .kid]))]),([2,3,32,33,34,35],[2,3]),([2,3,5,32,33,34],[2,3,5]),([2,3,32,33,34],[2,3]),([2,3,32,33,34],[2,((.loc 3),(an 8 [.own .kid]))]),([1,2,3,50],[1,2,3]),([2,3],[2,3]),([2],[2])]
def Z7L(e:Edit)(h:Int)(b:List Kid):LSt U:=(L2 [pL 2,pL 3,(32,.c (sU .kid e.kids .unk)),pI 33 (e.kids.length:Int),pI 34 h] [(.loc 2,zc0),(.loc 3,[ci e.kind,ci 0,.nils,.nils,ci 0,.nils,.nils,sU .wedit (([]:List WEdit)++e.words) (.own (.l 3 7)),sU .kid b (.own (.l 3 8)),ci e.list,.nils])])
abbrev W67(N:Nat)(e:Edit)(Q:QT):=AW (Z1 (Z8C N)) Tryz.f67 Zjy [] (L2 [(0,.agg (enc .edit e))] []) Q
theorem ZDj(N:Nat)(e:Edit)(Q:QT)(h:let z1:=Tree.mk e.new.kind e.new.words e.new.kids;let z0:=Tree.mk e.old.kind e.old.words e.old.kids;iB (e.kind==1) ((Z0v (z0,()))/\(Z0v (z1,()))/\(Q .ret (L2 [pL 2] [(.loc 2,([ci e.kind]++enc .tree (Z5 z0)++enc .tree (Z5 z1)++[.nils,.nils,ci e.list,.nils]))]))) (iB (e.kind==2) (((([]:List WEdit).length+e.words.length)*32<=140737488355328)/\(Zp (AW (Z1 (Z8C N)) Tryz.f67 Zjy [1,1,0,1,0,1,1,1,0,1,1,0,0]) (Z7L e 0 []) (xB 1 (xB 0 (SW (Z1 (Z8C N)) Tryz.f67 Zjy [1,1,1] Q))))) (iB (e.kind==3) ((Z65 (e.list,e.ops,()))/\(Zcc (e.list,e.ops,()) < N)/\(Q .ret (L2 [pL 2] [(.loc 2,[ci e.kind,ci 0,.nils,.nils,ci 0,.nils,.nils,.nils,.nils,ci e.list,sU .op ((Ze (ZP e.list e.ops (Wst.mk [] [] []))).out) .unk])]))) (Q .ret (L2 [pL 2] [(.loc 2,[ci e.kind,ci 0,.nils,.nils,ci 0,.nils,.nils,.nils,.nils,ci e.list,.nils])]))))):
  W67 N e Q:=
 Eq.mpr V6 h
abbrev ZAb(N:Nat)(e:Edit)(h:Int)(b:List Kid)(N0:NT)(Q:QT):=AW (Z1 (Z8C N)) Tryz.f67 Zjy [1,1,0,1,0,1,1,1,0,1,1,0,0] (Z7L e h b) (xT N0 (xB 1 (xB 0 (SW (Z1 (Z8C N)) Tryz.f67 Zjy [1,1,1] Q))))
theorem ZtO(N:Nat)(e:Edit)(s:Int)(b:List Kid)(N0:NT)(Q:QT)(h:∀ u,u=(e.kids.getD s.toNat (KidOf.mk 0 Edit.nil))->∀ aa,aa=(u.e)->∀ ab,ab=(Zm aa)->iB (decide (s < (e.kids.length:Int))) (((0:Int)<=s/\s < (e.kids.length:Int))/\((Z0K (aa,()))/\(ZfY (aa,()) < N)/\((b.length+([(KidOf.mk u.at_ ab:Kid)]).length)*208<=140737488355328)/\((InR (s+1))/\(N0 (Z7L e (s+1) (b++([(KidOf.mk u.at_ ab:Kid)]))))))) (Q .ret (L2 [pL 2] [(.loc 2,[ci e.kind,ci 0,.nils,.nils,ci 0,.nils,.nils,sU .wedit (([]:List WEdit)++e.words) (.own (.l 2 7)),sU .kid b (.own (.l 2 8)),ci e.list,.nils])]))):
  ZAb N e s b N0 Q:=
 Eq.mpr V6 (h _ rfl _ (Z3 _) _ (Z3 _))
def ZAp(N:Nat)(e:Edit):Prop:=AW (Z1 (Z8C N)) Tryz.f67 Zjy [] (Zb (Zt6.can (e,())) []) (EQ Tryz.f67 (Z99 (e,())) [])
abbrev ZD3:Prop:=∀ (N:Nat) (e:Edit) (_:Unit),Z0K (e,())->ZfY (e,()) < N+1->ZAp N e
def Zcs:Z6 U:=lvk [([0,1],[]),([0,1,5],[((.loc 10),[.wr .op])]),([0,5,11,12,13],[((.loc 10),[.wr .op,.own .tree,.own .tree])]),([0,5,11,12,13,14],[((.loc 10),[.wr .op])]),([0,5,7,11,12,13],[7,((.loc 10),[.wr .op])]),([0,5,7,11,12,13,18],[7,((.loc 10),[.wr .op])]),([0,5,7,11,12,13,18,19],[7,((.loc 10),[.wr .op])]),([0,5,11,12,13],[((.loc 10),[.wr .op])]),([0,5,7,11,12,13,18,25],[7,((.loc 10),[.wr .op])]),([0,5,11,12,13],[((.loc 10),[.wr .op])]),([0,5,7,11,12,13,18,33],[7,((.loc 10),[.wr .op])]),([0,5,11,12,13],[((.loc 10),[.wr .op])]),([0,5,7,11,12,13,41],[7,((.loc 10),[.wr .op])]),([0,5,8,11,12,13],[8,((.loc 10),[.wr .op])]),([0,5,8,11,12,13,48],[8,((.loc 10),[.wr .op])]),([0,5,11,12,13],[((.loc 10),[.wr .op])]),([0,5,8,11,12,13],[8,((.loc 10),[.wr .op])]),([0,5,11,12,13],[((.loc 10),[.wr .op])]),([0,5,11,12,13],[((.loc 10),[.wr .op,.own .tree,.own .tree])]),([5],[((.loc 10),[.wr .op])]),([4],[])]
def YE(list:Int)(l:List Op)(u:Int)(b:List Op)(s h:List Tree):LSt U:=(⟨[pI 0 list,(5,.ptr (.loc 10) 0),(11,.c (sU .op l .unk)),pI 12 (l.length:Int),pI 13 u],[(.loc 10,[.mref (.l 10 0),sU .tree s (.own (.l 10 1)),sU .tree h (.own (.l 10 2))])],[(.l 10 0,LC.mk (U:=U) .op b 0)]⟩:LSt U)
abbrev ZE2(N:Nat)(list:Int)(l:List Op)(Q:QT):=AW (Z1 (Z8C N)) Tryz.f107 Zcs [] (L2 [pI 0 list,(1,.c (sU .op l .unk))] []) Q
theorem ZBP(N:Nat)(list:Int)(l:List Op)(Q:QT)(h:Zp (AW (Z1 (Z8C N)) Tryz.f107 Zcs [1,1,0,1,0,0]) (YE list l 0 [] [] []) (xB 0 (SW (Z1 (Z8C N)) Tryz.f107 Zcs [1,1,1] Q))):
  ZE2 N list l Q:=
 Eq.mpr V6 h
abbrev ZvJ(N:Nat)(list:Int)(l:List Op)(u:Int)(b:List Op)(s h:List Tree)(N0:NT)(Q:QT):=AW (Z1 (Z8C N)) Tryz.f107 Zcs [1,1,0,1,0,0] (YE list l u b s h) (xT N0 (xB 0 (SW (Z1 (Z8C N)) Tryz.f107 Zcs [1,1,1] Q)))
theorem Zp8(N:Nat)(list:Int)(l:List Op)(aa:Int)(b:List Op)(u s:List Tree)(N0:NT)(Q:QT)(h:∀ ab,ab=(l.getD aa.toNat Op.nil)->∀ ah,ah=(Edit.mk 0 (Tree.mk 0 [] []) (Tree.mk 0 [] []) [] [] 0 [])->∀ ai,ai=(Int.toNat (((Ze (Wst.mk b u s)).out).length:Int))->∀ af,af=(ab.e)->∀ ae,ae=(Zm af)->let z3:=Z3W ((b,u,s,()),());let z2:=Wst.mk b u (s++Zd ab.l);let z1:=Wst.mk b (u++Zd ab.l) s;let z0:=Wst.mk b u s;iB (decide (aa < (l.length:Int))) (((0:Int)<=aa/\aa < (l.length:Int))/\(iB (ab.kind==0) ((Z64 ((b,u,s,()),ab.n,()))/\((InR (aa+1))/\(N0 (YE list l (aa+1) ((ZU z0 ab.n).out) ((ZU z0 ab.n).gone) ((ZU z0 ab.n).brought))))) (iB (ab.kind==1) ((ZbP ((b,u,s,()),ab.l,()))/\((InR (aa+1))/\(N0 (YE list l (aa+1) (z1.out) (z1.gone) (z1.brought))))) (iB (ab.kind==2) ((ZbP ((b,u,s,()),ab.l,()))/\((InR (aa+1))/\(N0 (YE list l (aa+1) (z2.out) (z2.gone) (z2.brought))))) (iB (ab.kind==3) ((Z0K (af,()))/\(ZfY (af,()) < N)/\((Z7c (list,ae,()))/\(iB (Zi9 list ae) ((Z64 ((b,u,s,()),1,()))/\((InR (aa+1))/\(N0 (YE list l (aa+1) ((ZU z0 1).out) ((ZU z0 1).gone) ((ZU z0 1).brought))))) (z3/\(((((Ze z0).out).length+([(OpOf.mk 0 0 [] ah:Op)]).length)*240<=140737488355328)/\((0:Int)<=(((Ze z0).out).length:Int)/\(((Ze z0).out).length:Int) < ((((Ze z0).out)++([(OpOf.mk 0 0 [] ah:Op)])).length:Int))/\((0:Nat)<=ai)/\((InR (aa+1))/\(N0 (YE list l (aa+1) (List.set (((Ze z0).out)++([(OpOf.mk 0 0 [] ah:Op)])) ai (OpOf.mk 3 0 [] ae:Op)) ((Ze z0).gone) ((Ze z0).brought))))))))) ((InR (aa+1))/\(N0 (YE list l (aa+1) b u s)))))))) (z3/\(Q .ret (L2 [(4,.c (sU .op ((Ze z0).out) (.own (.e 4 0))))] [])))):
  ZvJ N list l aa b u s N0 Q:=
 Eq.mpr V6 (h _ rfl _ rfl _ rfl _ (Z3 _) _ (Z3 _))
def ZwJ(N:Nat)(list:Int)(l:List Op):Prop:=AW (Z1 (Z8C N)) Tryz.f107 Zcs [] (Zb (ZaC.can (list,l,())) []) (EQ Tryz.f107 (Zbz (list,l,())) [])
abbrev Zxu:Prop:=∀ (N:Nat) (list:Int) (l:List Op) (_:Unit),Z65 (list,l,())->Zcc (list,l,()) < N+1->ZwJ N list l
theorem ZnX(c75:CT 75 YV)(ZsM:CT 149 Z2a)(ZzH:CT 147 Z4y)(Zon:CT 150 Z0T)(ZsH:CT 148 Z3G)(ha:ZD3)(hb:Zxu):CT 67 Z1e/\CT 107 Zkx:=
 Zdi (μA:=ZfY) (μB:=Zcc) (l:=[(75,YV),(149,Z2a),(147,Z4y),(150,Z0T),(148,Z3G)]) Za rfl (⟨c75,ZsM,ZzH,Zon,ZsH,trivial⟩) Zjy Zcs Tryz.func67 Tryz.func107 rfl rfl rfl rfl 1 2 (fun _=> rfl) (fun _=> rfl) V5 V5 (fun N ⟨e,_⟩=> ha N e ()) (fun N ⟨list,l,_⟩=> hb N list l ())
end
theorem Zo5(s:Wst)(n:Int):(ZU s n).out.length<=s.out.length+3:=by
 have h:=Z8K s
 simp only [ZU]
 rw [Z7A]
 grind
theorem Zvk{s:Wst}{n B K:Int}(hB:0<=B)(hn:0<=n/\n<=K)(h:∀ o∈s.out,0<=o.n/\o.n<=B):∀ o∈(ZU s n).out,0<=o.n/\o.n<=B+K:=by
 have u:∀ o∈(Ze s).out,0<=o.n/\o.n<=B:=by
  intro o b
  rcases Z8J s o b with h1 | h1
  .exact h o h1
  .omega
 intro o b
 simp only [ZU] at b
 rw [Z7A] at b
 grind
theorem Zc7:∀ (l:List Kid),(JV l).length=l.length
 | []=> rfl
 | k ::r=> by simp [JV,Zc7 r]
theorem Zjr(e:Edit):(Zm e).words.length<=e.words.length/\(Zm e).kids.length<=e.kids.length:=by
 rw [Z4L]
 split
 .simp
 .split
  .simp [Zc7]
  .split <;> simp
theorem ZeT{list:Int}{o:Op}{d:Int}(h:Zg list o d=true)(hk:o.kind=0):1<=o.n/\o.n<=1048576:=by
 obtain ⟨k,n,l,e⟩:=o
 simp only at hk
 subst hk
 simp [Zg] at h
 grind
theorem ZeU{list:Int}{o:Op}{d:Int}(h:Zg list o d=true)(hk:o.kind=3):Z4 o.e d=true:=by
 obtain ⟨k,n,l,e⟩:=o
 simp only at hk
 subst hk
 simp [Zg] at h
 exact h.2.1.2
theorem Zo2{e:Edit}{d:Int}(h:Z4 e d=true)(u:e.kind=2):∀ k∈e.kids,∃ d,Z4 k.e d=true:=by
 obtain ⟨k,o,n,w,ks,l,os⟩:=e
 change k=2 at u
 subst u
 have s:∃ d b,Zs b ks d=true:=by
  unfold Z4 at h
  split at h
  .cases h
  .grind
 obtain ⟨d',b,s⟩:=s
 change ∀ k∈ks,_
 clear h
 induction ks generalizing b with
 | nil=> grind
 | cons a r ih=>
  simp only [Zs,Q1] at s
  intro k u
  rcases Q8.1 u with rfl | u
  .obtain ⟨a,e⟩:=k
   simp only [J5,Q1] at s
   grind
  grind
theorem Zqq{e:Edit}{d:Int}(h:Z4 e d=true)(hk:e.kind=3):∀ o∈e.ops,∃ d,Zg e.list o d=true:=by
 obtain ⟨k,o,n,w,ks,l,os⟩:=e
 change k=3 at hk
 subst hk
 have b:∃ d,Zu l os d=true:=by
  unfold Z4 at h
  split at h
  .cases h
  .grind
 obtain ⟨s,b⟩:=b
 change ∀ o∈os,∃ d,Zg l o d=true
 clear h
 induction os with
 | nil=> grind
 | cons a r ih=>
  simp only [Zu,Q1] at b
  grind
theorem ZDI:Zxu:=by
 intro N list l _ hp hN
 simp only [Z65,Zcc] at hp hN
 obtain ⟨p1,p3⟩:=hp
 have hl:=Y8 l
 refine ZBP _ _ _ _ ?_
 refine Zf (ι:=Int × Wst) (fun s=> YE list l s.1 s.2.out s.2.gone s.2.brought)
  (fun s=> 0<=s.1/\s.1<=l.length/\ZP list (l.drop s.1.toNat) s.2=ZP list l ⟨[],[],[]⟩/\s.2.out.length<=3*s.1/\s.2.gone.length+s.2.brought.length+Zj (l.drop s.1.toNat)<=Zj l/\∀ o∈s.2.out,0<=o.n/\o.n<=s.1*1048576)
  (fun s=> ((l.length:Int) - s.1).toNat) (0,⟨[],[],[]⟩) rfl ⟨by simp,by simp,by simp,by simp,by simp,by simp⟩ ?_
 rintro ⟨i,s⟩ ⟨g1,g2,b,g4,g5,g6⟩
 dsimp only at g1 g2 b g4 g5 g6
 refine Zp8 _ _ _ _ _ _ _ _ _ ?_
 rintro y1 aq y2 ax y3 ai y4 ah y5 ak
 have hy:y2=Edit.nil:=ax
 subst hy
 have es:Wst.mk s.out s.gone s.brought=s:=rfl
 simp only [es] at ai ⊢
 (simp only [iB,vcS])
 refine ⟨fun hi=> ?_,fun hi=> ?_⟩
 .have ae:=Zq (l:=l) (i:=i.toNat) V1 Op.nil
  have hm:=YM ae
  have hr:=p3 _ ae
  rw [Jd g1 hi Op.nil] at b g5
  rw [<-aq] at b g5 hm hr
  have au:=Y4 y1
  simp only [ZP,Z2p,Zj] at b g5
  rw [<-ah,<-ak] at b
  obtain ⟨d,aj⟩:=hr
  have be:=Z8K s
  have hP:∀ n:Int,0<=n/\n<=1048576->Z64 ((s.out,s.gone,s.brought,()),n,()):=by
   intro n hn
   simp only [Z64]
   refine ⟨V1,V1,V1,fun o h=> ?_,V1,V1⟩
   have:=g6 o h
   constructor
   .omega
   .have:i*1048576<=20000000000*1048576:=V1
    omega
  have hK:∀ n:Int,0<=n/\n<=1048576->ZP list (l.drop (i+1).toNat) (ZU s n)=ZP list l ⟨[],[],[]⟩->
    (∃ j:Int × Wst,YE list l (i+1) (ZU s n).out (ZU s n).gone (ZU s n).brought=YE list l j.1 j.2.out j.2.gone j.2.brought/\(0<=j.1/\j.1<=l.length/\ZP list (l.drop j.1.toNat) j.2=ZP list l ⟨[],[],[]⟩/\j.2.out.length<=3*j.1/\j.2.gone.length+j.2.brought.length+Zj (l.drop j.1.toNat)<=Zj l/\∀ o∈j.2.out,0<=o.n/\o.n<=j.1*1048576)/\((l.length:Int) - j.1).toNat < ((l.length:Int) - i).toNat):=by
   intro n hn he
   have h1:=Zo5 s n
   have h2:=Zvk (s:=s) (n:=n) (B:=i*1048576) (K:=1048576) V1 hn g6
   refine ⟨(i+1,ZU s n),rfl,⟨V1,V1,he,by grind,by simp only [ZU,Qe];omega,fun o h=> ?_⟩,V1⟩
   have:=h2 o h
   dsimp only
   omega
  refine ⟨⟨g1,hi⟩,fun hk=> ?_,fun hk=> ⟨fun u=> ?_,fun u=> ⟨fun aa=> ?_,fun aa=> ⟨fun ab=> ?_,fun ab=> ?_⟩⟩⟩⟩
  .rw [if_pos hk] at b
   have h1:=ZeT aj hk
   exact ⟨hP _ V1,V4,hK _ V1 b⟩
  .rw [if_neg hk,if_pos u] at b
   refine ⟨by simp only [ZbP];omega,V4,(i+1,⟨s.out,s.gone++Zd y1.l,s.brought⟩),rfl,⟨V1,V1,b,by grind,?_,fun o h=> ?_⟩,V1⟩
   .have:=Zt y1.l
    simp only [Qa,Zd,Xa];omega
   grind
  .rw [if_neg hk,if_neg u,if_pos aa] at b
   refine ⟨by simp only [ZbP];omega,V4,(i+1,⟨s.out,s.gone,s.brought++Zd y1.l⟩),rfl,⟨V1,V1,b,by grind,?_,fun o h=> ?_⟩,V1⟩
   .have:=Zt y1.l
    simp only [Qa,Zd,Xa];omega
   .have:=g6 o h
    dsimp only;omega
  .rw [if_neg hk,if_neg u,if_neg aa,if_pos ab] at b
   have av:=ZeU aj ab
   rw [<-ah] at av
   have hw:=Zjr y4
   rw [<-ak] at hw
   have h1:=YU y4
   have h2:=YN y4.kids
   have bg:Z8 y4<=Zx y1:=by rw [au,ah];omega
   refine ⟨by simp only [Z0K];grind,by simp only [ZfY];omega,by simp only [Z7c];omega,fun hq=> ?_,fun hq=> ?_⟩
   .rw [if_pos hq] at b
    exact ⟨hP 1 V1,V4,hK 1 V1 b⟩
   .rw [if_neg (by rw [hq];simp)] at b
    rw [ai,Z0s]
    refine ⟨by simp only [Z3W];omega,by grind,by grind,V1,V4,(i+1,⟨(Ze s).out++[⟨3,0,[],y5⟩],[],[]⟩),rfl,⟨V1,V1,b,by simp;omega,by simp;omega,fun o h=> ?_⟩,V1⟩
    dsimp only at h ⊢
    rcases Qc.1 h with h | h
    .rcases Z8J s o h with h5 | h5
     .grind
     .omega
    grind
  .rw [if_neg hk,if_neg u,if_neg aa,if_neg ab] at b
   refine ⟨V4,(i+1,s),rfl,⟨V1,V1,b,by grind,by grind,fun o h=> ?_⟩,V1⟩
   grind
 .rw [Qd V1] at b
  simp only [ZP] at b
  refine ⟨by simp only [Z3W];omega,?_⟩
  simp only [Zbz]
  rw [<-b]
  exact V2
theorem b67:ZD3:=by
 intro N e _ hp hN
 simp only [Z0K,ZfY] at hp hN
 obtain ⟨p1,d,p3⟩:=hp
 have h1:=YU e
 have h2:=YN e.kids
 have h3:=Y8 e.ops
 have ha:=Z4L e
 refine ZDj _ _ _ ?_
 (simp only [iB,vcS])
 (simp only [vE])
 refine ⟨fun hk=> ⟨by simp only [Z0v];omega,by simp only [Z0v];omega,?_⟩,fun hk=> ⟨fun b=> ⟨by simp;omega,?_⟩,fun b=> ⟨fun u=> ⟨?_,by simp only [Zcc];omega,?_⟩,fun u=> ?_⟩⟩⟩
 .rw [if_pos hk] at ha
  simp only [Z99,ha]
  exact V2
 .rw [if_neg hk,if_pos b] at ha
  refine Zf (ι:=Int × List Kid) (fun s=> Z7L e s.1 s.2) (fun s=> 0<=s.1/\s.1<=e.kids.length/\s.2.length=s.1/\s.2++JV (e.kids.drop s.1.toNat)=JV e.kids) (fun s=> ((e.kids.length:Int) - s.1).toNat) (0,[]) rfl ⟨by simp,by simp,by simp,by simp⟩ ?_
  rintro ⟨j,ks⟩ ⟨f1,f2,f3,h⟩
  dsimp only at f1 f2 f3 h
  refine ZtO _ _ _ _ _ _ ?_
  rintro y1 ah y2 ai y3 af
  (simp only [iB,vcS])
  refine ⟨fun hj=> ?_,fun hj=> ?_⟩
  .have aa:=Zq (l:=e.kids) (i:=j.toNat) V1 (KidOf.mk 0 Edit.nil)
   have hm:=Z1r aa
   have hr:=Zo2 p3 b _ aa
   rw [Jd f1 hj (KidOf.mk 0 Edit.nil)] at h
   rw [<-ah] at h hm hr
   simp only [JV,ZdT] at h
   rw [<-ai] at h hm hr
   rw [<-af] at h
   refine ⟨⟨f1,hj⟩,by simp only [Z0K];grind,by simp only [ZfY];omega,by simp;omega,V4,(j+1,ks++[⟨y1.at_,y3⟩]),rfl,⟨V1,V1,by simp;omega,?_⟩,V1⟩
   grind
  .rw [Qd V1] at h
   simp only [JV,QM] at h
   rw [h]
   simp only [Z99,ha]
   exact V2
 .simp only [Z65]
  exact ⟨V1,fun o ho=> Zqq p3 u o ho⟩
 .rw [if_neg hk,if_neg b,if_pos u] at ha
  simp only [Z99,ha]
  exact V2
 .rw [if_neg hk,if_neg b,if_neg u] at ha
  simp only [Z99,ha]
  exact V2
theorem Zk1:Contract Tryz.prog cfg 67 Z1e/\Contract Tryz.prog cfg 107 Zkx:=ZnX c75 ZsM ZzH Zon ZsH b67 ZDI
theorem Zvq{n:Nat}{rs:List ResultVar}{r r':V U}{X:List (List (C U))}{e:AExit}{s:LSt U}(hr:r=r')(h:ZK cfg n rs r' X e s):ZK cfg n rs r X e s:=by grind
theorem Ze9(e:Edit):e.words.length+e.ops.length+ZV e.kids+Zj e.ops+Zk e.old+Zk e.new+1=Z8 e:=by obtain ⟨k,o,n,w,ks,l,os⟩:=e;simp only [Z8,Edit.words_mk,Edit.ops_mk,Edit.kids_mk,Edit.old_mk,Edit.new_mk];omega
theorem Ze4(t:Tree):1<=Zk t:=by obtain ⟨k,w,ks⟩:=t;simp only [Zk];omega
theorem Z09{e:Edit}(h:Yr e):Z8 e<=9000000000:=X3 (Zg0 e) h.1
theorem Zl2{e:Edit}(h:Yr e):ZtV e.ops:=by
 obtain ⟨m,r,d,s⟩:=h
 have:=Z4q e
 exact ⟨V1,(Yg r).2.2.2.2,fun o b=> ⟨_,_,rightOs_mem (Zr s).ops b⟩⟩
theorem ZhB{l:List Op}{o:Op}(h:Part l o)(ho:ZO o)(hl:Z0H l):Z0I o:=by
 obtain ⟨s,m,k,e1,_,lt⟩:=h
 have G:=Z1P (Z2i hl m)
 obtain ⟨kk,u,ll,ee⟩:=o
 have k:kk=s.kind:=k
 have e1:ee=s.e:=e1
 have lt:∀ t∈ll,t∈s.l:=lt
 refine ⟨by grind,?_,Z4C fun t ht=> YQ G.2.2.1 (lt t ht),by grind⟩
 rcases ho with h | h | h
 .have:=h.2.2.1
  unfold InR
  grind
 .have b:u=0:=h.2.1
  rw [b];trivial
 .have b:u=0:=h.2.1
  rw [b];trivial
theorem Zaq{l:List Op}{o:Op}(h:Part l o):Z3d o<=YH l/\Zx o<=Zj l:=by
 obtain ⟨u,m,k,e1,s,_⟩:=h
 have h1:=ZcR m
 have b:=YM m
 have a:=Z1W o
 rw [Y4,Y4,e1] at s
 rw [e1] at a
 rw [Y4] at b
 rw [Y4,e1]
 omega
theorem Zc2{l:List Op}{o:Op}(h:Part l o)(hl:∀ o∈l,∃ list d,Zg list o d=true)(k3:o.kind=3):∃ d,Z4 o.e d=true:=by
 obtain ⟨b,m,k,e1,u,_⟩:=h
 obtain ⟨list,d,s⟩:=hl b m
 exact ⟨d,by rw [e1];exact J4 s V1⟩
theorem ZwS{p:List Op}(hp:ZtV p):Z8r p:=by
 refine ⟨fun o b=> ?_,?_⟩
 .obtain ⟨_,_,h⟩:=hp.2.2 o b
  exact Zbp h
 .have:=Z8u p
  have:=hp.1
  omega
theorem Z85{α:Type}{l:List α}{i:Nat}(h:i < l.length)(d:α):l.take (i+1)=l.take i++[l.getD i d]:=by
 simp_all
theorem Z2q(o:Op):Z9 o.l<=Z3d o:=by rw [Z1W];omega
end Go.AM.YtpjenobkibfpcaaGreat
namespace Go.AM
def Z3n(list:Int):List Tree->Int->Int
 | [],_=> -1
 | t ::r,i=> if Zi (Tree.mk list [] [t]) 64=true then Z3n list r (i+1) else i
theorem Zeq(list:Int):∀ (l:List Tree) (i:Int),0<=i->(0<=Z3n list l i↔Z0l list l=false)
 | [],i,_=> by simp [Z3n,Z0l]
 | t ::r,i,hi=> by
  have b:=Zeq list r (i+1) V1
  rw [Z3n,Z0l]
  grind
end Go.AM
namespace Go.AM.YtpjenobkibfpcaaGreat
open Go.AM Go.Proofs
noncomputable section
def ZgA:ArgM (Tree × (Int × Unit) × Unit):=(.cons (aEl .tree) (.obj 0 (.cons (Yk .i64) .nil) .nil))
def ZbJ(a:Tree × (Int × Unit) × Unit):Prop:=Zk a.1<=18000000000/\rng a.1/\InR a.2.1.1
def Zj1(a:Tree × (Int × Unit) × Unit):V U:= .c (.bool (!(Zi (Tree.mk a.2.1.1 [] [a.1]) 64)))
def ZeX(a:Tree × (Int × Unit) × Unit):List (List (C U)):=[[ci a.2.1.1]]
def Z6K:Fs U:=fsX ZgA (fun a=> [ZbJ a]) Zj1 ZeX
def Zgw:ArgM (List Tree × (Int × Unit) × Unit):=(.cons (aSl .tree) (.clo 217 0 (.cons (Yk .i64) .nil) .nil))
def ZbH(a:List Tree × (Int × Unit) × Unit):Prop:=Z9 a.1<=18000000000/\ZR a.1/\InR a.2.1.1
def Zf3(a:List Tree × (Int × Unit) × Unit):V U:= .c (ci (Z3n a.2.1.1 a.1 0))
def Zaa(a:List Tree × (Int × Unit) × Unit):List (List (C U)):=[[ci a.2.1.1]]
def Z6D:Fs U:=fsX Zgw (fun a=> [ZbH a]) Zf3 Zaa
def Zj2(a:List Tree × (Int × Unit) × Unit):V U:= .c (.bool (!(Z0l a.2.1.1 a.1)))
def Z2O:Fs U:=fsX Zgw (fun a=> [ZbH a]) Zj2 Zaa
def ZlR:List (FuncId × Fs U):=[(218,Z6J)]
def Zr6:Z6 U:=lvk [([1,2],[2,((.x 0),[])]),([3],[((.x 0),[])])]
abbrev ZDM(t:Tree)(list:Int)(Q:QT):=AW (Z1 ZlR) Tryz.f217 Zr6 [] (L2 [(0,.agg (enc .tree t)),(1,.ptr (.x 0) 0)] [(.x 0,[ci list])]) Q
theorem ZB4(t:Tree)(list:Int)(Q:QT)(h:let z0:=Tree.mk t.kind t.words t.kids;(ZbI (list,z0,()))/\(Q .ret (L2 [(3,.c (.bool (!(Zi (Tree.mk list [] [z0]) 64))))] [(.x 0,[ci list])]))):
  ZDM t list Q:=
 Eq.mpr V6 h
def ZvY(t:Tree)(list:Int):Prop:=AW (Z1 ZlR) Tryz.f217 Zr6 [] (Zb (ZgA.can (t,(list,()),())) (ZgA.canX (t,(list,()),()))) (EQ Tryz.f217 (Zj1 (t,(list,()),())) (ZeX (t,(list,()),())))
theorem Zuu(Zzq:CT 218 Z6J)(hb:∀ (t:Tree) (list:Int) (_:Unit),ZbJ (t,(list,()),())->ZvY t list):CT 217 Z6K:=
 Zl (l:=[(218,Z6J)]) Za rfl (⟨Zzq,trivial⟩) Zr6 Tryz.func217 rfl rfl 2 (fun _=> rfl) V5 (fun ⟨t,⟨list,_⟩,_⟩=> hb t list ())
def Z4S:List (FuncId × Fs U):=[(217,Z6K)]
def Zcl:Z6 U:=lvk [([0,1],[((.x 0),[])]),([0,1,7,8],[((.x 0),[])]),([0,1,7,8,9],[((.x 0),[])]),([0,1,5,7,8],[((.x 0),[])]),([0,1,5,7,8,16],[((.x 0),[])]),([4],[((.x 0),[])]),([0,1,7,8],[((.x 0),[])]),([4],[((.x 0),[])])]
def Z50(l:List Tree)(list b:Int):LSt U:=(L2 [(0,.c (sU .tree l .unk)),(1,.clo 217 [(.x 0)]),pI 7 (l.length:Int),pI 8 b] [(.x 0,[ci list])])
abbrev ZDJ(l:List Tree)(list:Int)(Q:QT):=AW (Z1 Z4S) Tryz.f231 Zcl [] (L2 [(0,.c (sU .tree l .unk)),(1,.clo 217 [(.x 0)])] [(.x 0,[ci list])]) Q
theorem ZAT(l:List Tree)(list:Int)(Q:QT)(h:Zp (AW (Z1 Z4S) Tryz.f231 Zcl [1,0,1,0,0]) (Z50 l list 0) (xB 0 (SW (Z1 Z4S) Tryz.f231 Zcl [1,1] Q))):
  ZDJ l list Q:=
 Eq.mpr V6 h
abbrev ZvB(l:List Tree)(list b:Int)(N0:NT)(Q:QT):=AW (Z1 Z4S) Tryz.f231 Zcl [1,0,1,0,0] (Z50 l list b) (xT N0 (xB 0 (SW (Z1 Z4S) Tryz.f231 Zcl [1,1] Q)))
theorem ZoJ(l:List Tree)(list b:Int)(N0:NT)(Q:QT)(h:let z1:=l.getD b.toNat Tree.nil;let z0:=Tree.mk (Tree.kind z1) (Tree.words z1) (Tree.kids z1);iB (decide (b < (l.length:Int))) (((0:Int)<=b/\b < (l.length:Int))/\(ZbJ (z0,(list,()),()))/\(iB (!(Zi (Tree.mk list [] [z0]) 64)) (Q .ret (L2 [pI 4 b] [(.x 0,[ci list])])) ((InR (b+1))/\(N0 (Z50 l list (b+1)))))) (Q .ret (L2 [pI 4 (-1)] [(.x 0,[ci list])]))):
  ZvB l list b N0 Q:=
 Eq.mpr V6 h
def ZvN(l:List Tree)(list:Int):Prop:=AW (Z1 Z4S) Tryz.f231 Zcl [] (Zb (Zgw.can (l,(list,()),())) (Zgw.canX (l,(list,()),()))) (EQ Tryz.f231 (Zf3 (l,(list,()),())) (Zaa (l,(list,()),())))
theorem Zuj(Zzr:CT 217 Z6K)(hb:∀ (l:List Tree) (list:Int) (_:Unit),ZbH (l,(list,()),())->ZvN l list):CT 231 Z6D:=
 Zl (l:=[(217,Z6K)]) Za rfl (⟨Zzr,trivial⟩) Zcl Tryz.func231 rfl rfl 2 (fun _=> rfl) V5 (fun ⟨l,⟨list,_⟩,_⟩=> hb l list ())
def ZlS:List (FuncId × Fs U):=[(231,Z6D)]
def Zr7:Z6 U:=lvk [([0,1],[((.x 0),[])]),([4],[((.x 0),[])])]
abbrev ZDN(l:List Tree)(list:Int)(Q:QT):=AW (Z1 ZlS) Tryz.f216 Zr7 [] (L2 [(0,.c (sU .tree l .unk)),(1,.clo 217 [(.x 0)])] [(.x 0,[ci list])]) Q
theorem ZB5(l:List Tree)(list:Int)(Q:QT)(h:(ZbH (l,(list,()),()))/\(Q .ret (L2 [pB 4 (decide ((0:Int)<=(Z3n list l 0)))] [(.x 0,[ci list])]))):
  ZDN l list Q:=
 Eq.mpr V6 h
def ZvZ(l:List Tree)(list:Int):Prop:=AW (Z1 ZlS) Tryz.f216 Zr7 [] (Zb (Zgw.can (l,(list,()),())) (Zgw.canX (l,(list,()),()))) (EQ Tryz.f216 (Zj2 (l,(list,()),())) (Zaa (l,(list,()),())))
theorem Zuv(Zzj:CT 231 Z6D)(hb:∀ (l:List Tree) (list:Int) (_:Unit),ZbH (l,(list,()),())->ZvZ l list):CT 216 Z2O:=
 Zl (l:=[(231,Z6D)]) Za rfl (⟨Zzj,trivial⟩) Zr7 Tryz.func216 rfl rfl 2 (fun _=> rfl) V5 (fun ⟨l,⟨list,_⟩,_⟩=> hb l list ())
end
theorem Zzr:Contract Tryz.prog cfg 217 Z6K:=by
 refine Zuu Zzq ?_
 intro t list _ b
 simp only [ZbJ] at b
 refine ZB4 _ _ _ ?_
 (simp only [vE])
 refine ⟨by simp only [ZbI];exact b,?_⟩
 simp only [Zj1,ZeX]
 exact V2
theorem ZcZ{list:Int}{l:List Tree}:∀ (i:Nat),(∀ t∈l.take i,Zi (Tree.mk list [] [t]) 64=true)->i<=l.length->Z3n list l 0=Z3n list (l.drop i) i
 | 0,_,_=> by simp
 | i+1,h,hi=> by
  have s:=ZcZ i (fun t u=> h t (by rw [XI];exact Qc.2 (Or.inl u))) V1
  rw [s]
  have e:l.drop i=l.getD i Tree.nil ::l.drop (i+1):=by
   have:=Jd (l:=l) (i:=(i:Int)) V1 V1 Tree.nil
   simpa using this
  have b:l.getD i Tree.nil∈l.take (i+1):=by
   rw [List.mem_take_iff_getElem]
   exact ⟨i,V1,by simp [List.getD,Q0 (show i < l.length by omega)]⟩
  rw [e,Z3n,if_pos (h _ b)]
  simp
theorem Zzj:Contract Tryz.prog cfg 231 Z6D:=by
 refine Zuj Zzr ?_
 intro l list _ h
 simp only [ZbH] at h
 refine ZAT _ _ _ ?_
 refine Zf (ι:=Int) (fun s=> Z50 l list s) (fun s=> 0<=s/\s<=l.length/\∀ t∈l.take s.toNat,Zi (Tree.mk list [] [t]) 64=true) (fun s=> ((l.length:Int) - s).toNat) 0 rfl ⟨by simp,by simp,by simp⟩ ?_
 rintro i ⟨g1,g2,g3⟩
 have b:=ZcZ (list:=list) (l:=l) i.toNat g3 V1
 have hl:=Zt l
 refine ZoJ _ _ _ _ _ ?_
 (simp only [iB,vcS])
 (simp only [vE])
 refine ⟨fun u=> ⟨⟨g1,u⟩,?_,fun hc=> ?_,fun hc=> ?_⟩,fun u=> ?_⟩
 .have hm:=Zq (l:=l) (i:=i.toNat) V1 Tree.nil
  simp only [ZbJ]
  have h1:=Jh hm
  exact ⟨V1,YQ h.2.1 hm,h.2.2⟩
 .rw [Jd g1 u Tree.nil,Z3n,if_neg (by grind)] at b
  simp only [Zf3,Zaa]
  rw [b,show ((i.toNat:Nat):Int)=i by omega]
  exact V2
 .refine ⟨V4,i+1,rfl,⟨V1,V1,fun t ht=> ?_⟩,V1⟩
  rw [show (i+1).toNat=i.toNat+1 by omega,XI] at ht
  grind
 .rw [Qd V1] at b
  simp only [Zf3,Zaa]
  rw [b,Z3n]
  exact V2
theorem Zzs:Contract Tryz.prog cfg 216 Z2O:=by
 refine Zuv Zzj ?_
 intro l list _ b
 simp only [ZbH] at b
 refine ZB5 _ _ _ ?_
 have h:=Zeq list l 0 V5
 refine ⟨by simp only [ZbH];exact b,?_⟩
 have e:decide (0<=Z3n list l 0)= !(Z0l list l):=by
  rw [QC,decide_eq_true_eq,h]
  cases Z0l list l <;> simp
 simp only [Zj2,Zaa]
 rw [e]
 exact V2
noncomputable section
def Z62(a:Tree × Unit):Prop:=Zk a.1<=20000000000
def ZpK(a:Tree × Unit):V U:= .c (.bool (Yz a.1))
def Z6T:Fs U:=fs Zk6 (fun a=> [Z62 a]) ZpK
def ZpV(a:Edit × Unit):V U:= .c (.bool (Z2E a.1))
def Z2S:Fs U:=fs Zt6 (fun a=> [ZbO a]) ZpV
abbrev ZDQ(t:Tree)(Q:QT):=AW (Z1 ZjN) Tryz.f178 ZyU [] (L2 [(0,.agg (enc .tree t))] []) Q
theorem ZBk(t:Tree)(Q:QT)(h:((Tt (t.kind==0))/\(Tt (t.kind==0))/\(Tt (t.kind==0))/\(Tt (t.kind==0))/\(Tt (t.kind==0))/\(Tt (t.kind==0))/\((t.kind==0)=true->InR (((t.words.length:Int):Int)+(t.kids.length:Int)))/\(Tt (t.kind==0))/\(Tt (t.kind==0))/\(Q .ret (L2 [(2,.c (.bool (bif (t.kind==0) then (((((t.words.length:Int):Int)+(t.kids.length:Int)):Int)==0) else false)))] [])))):
  ZDQ t Q:=
 Eq.mpr V6 h
def Zwe(t:Tree):Prop:=AW (Z1 ZjN) Tryz.f178 ZyU [] (Zb (Zk6.can (t,())) []) (EQ Tryz.f178 (ZpK (t,())) [])
theorem ZuJ(hb:∀ (t:Tree) (_:Unit),Z62 (t,())->Zwe t):CT 178 Z6T:=
 Z0 (l:=[]) Za rfl trivial ZyU Tryz.func178 rfl rfl 1 (fun _=> rfl) V5 (fun ⟨t,_⟩=> hb t ())
def Zmm:List (FuncId × Fs U):=[(178,Z6T)]
def ZrB:Z6 U:=lvl [([1],[1]),([1,3],[1]),([1,4],[1]),([2],[]),([1,21],[1]),([2],[]),([2],[])]
abbrev ZE1(e:Edit)(Q:QT):=AW (Z1 Zmm) Tryz.f121 ZrB [] (L2 [(0,.agg (enc .edit e))] []) Q
theorem ZBK(e:Edit)(Q:QT)(h:∀ s,s=(e.new)->∀ b,b=(e.old)->let z2:=(Q .ret (L2 [pB 2 false] []));let z1:=(!(e.kind==3)) && (e.list==0);let z0:=(e.kind !=1) && (Yz b);((Tt (e.kind !=1))/\(Tt (e.kind !=1))/\(Tt (e.kind !=1))/\((e.kind !=1)=true->Z62 (b,()))/\(Tt (e.kind !=1))/\(Tt z0)/\(Tt z0)/\(Tt z0)/\(z0=true->Z62 (s,()))/\((e.kind !=1)=true->(True->(e.kind !=1)=true))/\((e.kind !=1)=true->((Yz b)=true->z0=true))/\(Tt (e.kind !=1))/\(Tt (e.kind !=1))/\(iB (bif (e.kind !=1) then (!(bif (Yz b) then (Yz s) else false)) else false) z2 ((Tt (e.kind !=2))/\(Tt (e.kind !=2))/\(Tt (e.kind !=2))/\(Tt (e.kind !=2))/\(Tt (e.kind !=2))/\(Tt (e.kind !=2))/\((e.kind !=2)=true->InR (((e.words.length:Int):Int)+(e.kids.length:Int)))/\(Tt (e.kind !=2))/\(Tt (e.kind !=2))/\(iB (bif (e.kind !=2) then (decide ((0:Int) < (((e.words.length:Int):Int)+(e.kids.length:Int)))) else false) z2 ((Tt (!(e.kind==3)))/\(Tt (!(e.kind==3)))/\(Tt (!(e.kind==3)))/\(Tt z1)/\(Tt z1)/\(Tt z1)/\((!(e.kind==3))=true->(True->(!(e.kind==3))=true))/\((!(e.kind==3))=true->((e.list==0)=true->z1=true))/\((e.kind==3)=false->(!(e.kind==3))=true)/\(Q .ret (L2 [(2,.c (.bool (bif (e.kind==3) then true else (bif (e.list==0) then (((e.ops.length:Int):Int)==0) else false))))] [])))))))):
  ZE1 e Q:=
 Eq.mpr V6 (h _ (Z7 _) _ (Z7 _))
def ZwE(e:Edit):Prop:=AW (Z1 Zmm) Tryz.f121 ZrB [] (Zb (Zt6.can (e,())) []) (EQ Tryz.f121 (ZpV (e,())) [])
theorem Zv6(ZzD:CT 178 Z6T)(hb:∀ (e:Edit) (_:Unit),ZbO (e,())->ZwE e):CT 121 Z2S:=
 Z0 (l:=[(178,Z6T)]) Za rfl (⟨ZzD,trivial⟩) ZrB Tryz.func121 rfl rfl 1 (fun _=> rfl) V5 (fun ⟨e,_⟩=> hb e ())
end
theorem ZzD:Contract Tryz.prog cfg 178 Z6T:=by
 refine ZuJ ?_
 intro t _ b
 simp only [Z62] at b
 have:=ZrM t
 refine ZBk t _ ?_
 simp only [iB,vcT,vcS,aiT,true_and]
 refine ⟨fun _=> by unfold InR;omega,Zc rfl ?_⟩
 rw [QC]
 simp only [Yz]
 grind
theorem ZzT:Contract Tryz.prog cfg 121 Z2S:=by
 refine Zv6 ZzD ?_
 intro e _ s
 simp only [ZbO] at s
 have h1:=YU e
 have u:=YN e.kids
 refine ZBK e _ ?_
 rintro y1 rfl y2 rfl
 simp only [iB,vcT,vcS,aiT,true_and]
 refine ⟨fun _=> by simp only [Z62];omega,fun _=> by simp only [Z62];omega,fun h=> ?_,fun h=> ⟨fun _=> by unfold InR;omega,fun b=> ?_,fun b=> ?_⟩⟩
 .refine Zc rfl ?_
  show false=Z2E e
  unfold Z2E
  grind
 .refine Zc rfl ?_
  show false=Z2E e
  unfold Z2E
  grind
 .refine Zc rfl ?_
  show _=Z2E e
  unfold Z2E
  grind
end Go.AM.YtpjenobkibfpcaaGreat
