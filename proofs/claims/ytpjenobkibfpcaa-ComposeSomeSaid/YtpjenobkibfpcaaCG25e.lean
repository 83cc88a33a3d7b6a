import Derived.Test.YtpjenobkibfpcaaKD20z
import Derived.Test.YtpjenobkibfpcaaKB20e
import Derived.Test.YtpjenobkibfpcaaKP20
import Derived.Test.YtpjenobkibfpcaaKL21t
import Derived.Test.YtpjenobkibfpcaaKB22c
import Derived.Test.YtpjenobkibfpcaaCL25i
set_option linter.unusedSimpArgs false
set_option linter.unusedVariables false
namespace Go.AM.Ytpjenobkibfpcaa
open Go.AM Go.Proofs
noncomputable section
noncomputable section
def Zge:ArgM (Tree × (Int × Unit) × Unit):=(.cons (aEl .tree) (.obj 0 (.cons (Zi3 .i64) .nil) .nil))
def Z9l(a:Tree × (Int × Unit) × Unit):Prop:=Zq a.1≤18000000000∧rng a.1∧isI a.2.1.1
def ZiD(a:Tree × (Int × Unit) × Unit):V U:= .c (.bool (!(Z9 (Tree.mk a.2.1.1 [] [a.1]) 64)))
def Zfb(a:Tree × (Int × Unit) × Unit):List (List (C U)):=[[ci a.2.1.1]]
def Z7K:Fs U:=fsX Zge (fun a=> [Z9l a]) ZiD Zfb
def Zga:ArgM (List Tree × (Int × Unit) × Unit):=(.cons (aSl .tree) (.clo 185 0 (.cons (Zi3 .i64) .nil) .nil))
def Zcl(a:List Tree × (Int × Unit) × Unit):Prop:=Zg a.1≤18000000000∧Yb a.1∧isI a.2.1.1
def Zff(a:List Tree × (Int × Unit) × Unit):V U:= .c (ci (Z57 a.2.1.1 a.1 0))
def Zb7(a:List Tree × (Int × Unit) × Unit):List (List (C U)):=[[ci a.2.1.1]]
def Z7F:Fs U:=fsX Zga (fun a=> [Zcl a]) Zff Zb7
def Zgf:ArgM (List Tree × (Int × Unit) × Unit):=(.cons (aSl .tree) (.clo 185 0 (.cons (Zi3 .i64) .nil) .nil))
def Z4G(a:List Tree × (Int × Unit) × Unit):Prop:=Zg a.1≤18000000000∧Yb a.1∧isI a.2.1.1
def ZiE(a:List Tree × (Int × Unit) × Unit):V U:= .c (.bool (!(Jr a.2.1.1 a.1)))
def Zfc(a:List Tree × (Int × Unit) × Unit):List (List (C U)):=[[ci a.2.1.1]]
def Z4t:Fs U:=fsX Zgf (fun a=> [Z4G a]) ZiE Zfc
def Zl1:List (FuncId × Fs U):=[(186,Z7J)]
def ZpM:Zh U:=fun i=> match i with
 | 0=> ([(1,[]),(2,[])],[(.loc 2,[]),(.x 0,[])])
 | 1=> ([(3,[])],[(.x 0,[])])
 | _=> ([],[])
abbrev ZyY(t:Tree)(list:Int)(Q:QT):=AW (Z1 Zl1) Try.f185 ZpM [] (L2 [(0,.agg (enc .tree t)),(1,.ptr (.x 0) 0)] [(.x 0,[ci list])]) Q
theorem ZxY(t:Tree)(list:Int)(Q:QT)(h:(Zcm (list,(Tree.mk t.kind t.words t.kids),()))∧(Q .ret (L2 [(3,.c (.bool (!(Z9 (Tree.mk list [] [(Tree.mk t.kind t.words t.kids)]) 64))))] [(.x 0,[ci list])]))):
  ZyY t list Q:=by
 have e_:(ZyY t list Q)=(type_of% h):=by kernel_rfl
 exact e_.mpr ⟨h.1,h.2⟩
def Zty(t:Tree)(list:Int):Prop:=AW (Z1 Zl1) Try.f185 ZpM [] (Zn (Zge.can (t,(list,()),())) (Zge.canX (t,(list,()),()))) (EQ Try.f185 (ZiD (t,(list,()),())) (Zfb (t,(list,()),())))
theorem Zsm(Zwm:CT 186 Z7J)(hb:∀ (t:Tree) (list:Int) (_:Unit),Z9l (t,(list,()),())→Zty t list):CT 185 Z7K:=
 J1 (l:=[(186,Z7J)]) Zo rfl (⟨Zwm,trivial⟩) ZpM Try.func185 rfl rfl 2 (fun _=> rfl) (by decide) (fun ⟨t,⟨list,_⟩,_⟩=> hb t list ())
def Z1e:List (FuncId × Fs U):=[(185,Z7K)]
def Z8p:Zh U:=fun i=> match i with
 | 0=> ([(0,[]),(1,[])],[(.x 0,[])])
 | 1=> ([(0,[]),(1,[]),(7,[]),(8,[])],[(.x 0,[])])
 | 2=> ([(0,[]),(1,[]),(7,[]),(8,[]),(9,[])],[(.x 0,[])])
 | 3=> ([(0,[]),(1,[]),(5,[]),(7,[]),(8,[])],[(.x 0,[])])
 | 4=> ([(0,[]),(1,[]),(5,[]),(7,[]),(8,[]),(16,[])],[(.x 0,[])])
 | 5=> ([(4,[])],[(.x 0,[])])
 | 6=> ([(0,[]),(1,[]),(7,[]),(8,[])],[(.x 0,[])])
 | 7=> ([(4,[])],[(.x 0,[])])
 | _=> ([],[])
def Z2d(l:List Tree)(list x8:Int):LSt U:=(L2 [(0,.c (sU .tree l .unk)),(1,.clo 185 [(.x 0)]),(7,.c (ci (l.length:Int))),(8,.c (ci x8))] [(.x 0,[ci list])])
abbrev ZyV(l:List Tree)(list:Int)(Q:QT):=AW (Z1 Z1e) Try.f195 Z8p [] (L2 [(0,.c (sU .tree l .unk)),(1,.clo 185 [(.x 0)])] [(.x 0,[ci list])]) Q
abbrev ZjC:=awp cfg (Z1 Z1e) (ZJ cfg (Z1 Z1e)) Try.f195.ntmps Z8p
abbrev Zir:=Z7Y cfg (Z1 Z1e) (ZJ cfg (Z1 Z1e)) Try.f195.ntmps Z8p
theorem ZxQ(l:List Tree)(list:Int)(Q:QT)(h:Zl (AW (Z1 Z1e) Try.f195 Z8p [1,0,1,0,0]) (Z2d l list 0) (xB 0 (SW (Z1 Z1e) Try.f195 Z8p [1,1] Q))):
  ZyV l list Q:=by
 have e_:(ZyV l list Q)=(Zl (ZjC (cd Try.f195 [1,0,1,0,0])) (Z2d l list 0) (xB 0 (Zir (cd Try.f195 [1,1]) Q))):=by kernel_rfl
 exact e_.mpr h
abbrev ZlZ(l:List Tree)(list x8:Int)(N0:NT)(Q:QT):=AW (Z1 Z1e) Try.f195 Z8p [1,0,1,0,0] (Z2d l list x8) (xT N0 (xB 0 (SW (Z1 Z1e) Try.f195 Z8p [1,1] Q)))
theorem ZnO(l:List Tree)(list x8:Int)(N0:NT)(Q:QT)(h:((decide (x8 < (l.length:Int)))=true→((0:Int)≤x8∧x8 < (l.length:Int))∧(Z9l ((Tree.mk (Tree.kind (l.getD x8.toNat Tree.nil)) (Tree.words (l.getD x8.toNat Tree.nil)) (Tree.kids (l.getD x8.toNat Tree.nil))),(list,()),()))∧(((!(Z9 (Tree.mk list [] [(Tree.mk (Tree.kind (l.getD x8.toNat Tree.nil)) (Tree.words (l.getD x8.toNat Tree.nil)) (Tree.kids (l.getD x8.toNat Tree.nil)))]) 64))=true→Q .ret (L2 [(4,.c (ci x8))] [(.x 0,[ci list])]))∧((!(Z9 (Tree.mk list [] [(Tree.mk (Tree.kind (l.getD x8.toNat Tree.nil)) (Tree.words (l.getD x8.toNat Tree.nil)) (Tree.kids (l.getD x8.toNat Tree.nil)))]) 64))=false→(InR (x8+1))∧(N0 (Z2d l list (x8+1))))))∧((decide (x8 < (l.length:Int)))=false→Q .ret (L2 [(4,.c (ci (-1)))] [(.x 0,[ci list])]))):
  ZlZ l list x8 N0 Q:=by
 have e_:(ZlZ l list x8 N0 Q)=(let zz0:=(!(Z9 (Tree.mk list [] [(Tree.mk (Tree.kind (l.getD x8.toNat Tree.nil)) (Tree.words (l.getD x8.toNat Tree.nil)) (Tree.kids (l.getD x8.toNat Tree.nil)))]) 64));(((decide ((x8:Int) < (l.length:Int)))=true→(((0:Int)≤x8∧x8 < (l.length:Int))∧(Z9l ((Tree.mk (Tree.kind (l.getD x8.toNat Tree.nil)) (Tree.words (l.getD x8.toNat Tree.nil)) (Tree.kids (l.getD x8.toNat Tree.nil))),(list,()),()))∧((zz0=true→(Q .ret (L2 [(4,.c (ci x8))] [(.x 0,[ci list])])))∧(zz0=false→(InR ((x8:Int)+1))∧(N0 (Z2d l list ((x8:Int)+1)))))))∧((decide ((x8:Int) < (l.length:Int)))=false→(Q .ret (L2 [(4,.c (ci (-1)))] [(.x 0,[ci list])]))))):=by kernel_rfl
 exact e_.mpr ⟨fun c_1=> ⟨(h.1 c_1).1,(h.1 c_1).2.1,⟨fun c_2=> ((h.1 c_1).2.2.1 c_2),fun c_2=> ⟨((h.1 c_1).2.2.2 c_2).1,((h.1 c_1).2.2.2 c_2).2⟩⟩⟩,fun c_1=> (h.2 c_1)⟩
def Ztq(l:List Tree)(list:Int):Prop:=AW (Z1 Z1e) Try.f195 Z8p [] (Zn (Zga.can (l,(list,()),())) (Zga.canX (l,(list,()),()))) (EQ Try.f195 (Zff (l,(list,()),())) (Zb7 (l,(list,()),())))
theorem Zse(Zwn:CT 185 Z7K)(hb:∀ (l:List Tree) (list:Int) (_:Unit),Zcl (l,(list,()),())→Ztq l list):CT 195 Z7F:=
 J1 (l:=[(185,Z7K)]) Zo rfl (⟨Zwn,trivial⟩) Z8p Try.func195 rfl rfl 2 (fun _=> rfl) (by decide) (fun ⟨l,⟨list,_⟩,_⟩=> hb l list ())
def Zl2:List (FuncId × Fs U):=[(195,Z7F)]
def ZpN:Zh U:=fun i=> match i with
 | 0=> ([(0,[]),(1,[])],[(.x 0,[])])
 | 1=> ([(4,[])],[(.x 0,[])])
 | _=> ([],[])
abbrev ZyZ(l:List Tree)(list:Int)(Q:QT):=AW (Z1 Zl2) Try.f184 ZpN [] (L2 [(0,.c (sU .tree l .unk)),(1,.clo 185 [(.x 0)])] [(.x 0,[ci list])]) Q
theorem ZxZ(l:List Tree)(list:Int)(Q:QT)(h:(Zcl (l,(list,()),()))∧(Q .ret (L2 [(4,.c (.bool (decide ((0:Int)≤(Z57 list l 0)))))] [(.x 0,[ci list])]))):
  ZyZ l list Q:=by
 have e_:(ZyZ l list Q)=(type_of% h):=by kernel_rfl
 exact e_.mpr ⟨h.1,h.2⟩
def Ztz(l:List Tree)(list:Int):Prop:=AW (Z1 Zl2) Try.f184 ZpN [] (Zn (Zgf.can (l,(list,()),())) (Zgf.canX (l,(list,()),()))) (EQ Try.f184 (ZiE (l,(list,()),())) (Zfc (l,(list,()),())))
theorem Zsn(Zwh:CT 195 Z7F)(hb:∀ (l:List Tree) (list:Int) (_:Unit),Z4G (l,(list,()),())→Ztz l list):CT 184 Z4t:=
 J1 (l:=[(195,Z7F)]) Zo rfl (⟨Zwh,trivial⟩) ZpN Try.func184 rfl rfl 2 (fun _=> rfl) (by decide) (fun ⟨l,⟨list,_⟩,_⟩=> hb l list ())
end
end
end Go.AM.Ytpjenobkibfpcaa
namespace Go.AM.Ytpjenobkibfpcaa
open Go.AM Go.Proofs
theorem Zwn:Contract Try.prog cfg 185 Z7K:=by
 refine Zsm Zwm ?_
 intro t list _ hp
 simp only [Z9l] at hp
 refine ZxY _ _ _ ?_
 (simp only [Tree.eta,Edit.eta,Tree.kind_mk,Tree.words_mk,Tree.kids_mk])
 refine ⟨by simp only [Zcm];exact hp,?_⟩
 simp only [ZiD,Zfb]
 (repeat' (first | exact trivial | exact rfl | apply And.intro))
theorem Zde{list:Int}{l:List Tree}:∀ (i:Nat),(∀ t∈l.take i,Z9 (Tree.mk list [] [t]) 64=true)→i≤l.length→Z57 list l 0=Z57 list (l.drop i) i
 | 0,_,_=> by simp
 | i+1,h,hi=> by
  have ih:=Zde i (fun t ht=> h t (by rw [List.take_add_one];exact List.mem_append.2 (Or.inl ht))) (by omega)
  rw [ih]
  have e:l.drop i=l.getD i Tree.nil ::l.drop (i+1):=by
   have:=YU (l:=l) (i:=(i:Int)) (by omega) (by omega) Tree.nil
   simpa using this
  have hm:l.getD i Tree.nil∈l.take (i+1):=by
   rw [List.mem_take_iff_getElem]
   exact ⟨i,by omega,by simp [List.getD,List.getElem?_eq_getElem (show i < l.length by omega)]⟩
  rw [e,Z57,if_pos (h _ hm)]
  simp
theorem Zwh:Contract Try.prog cfg 195 Z7F:=by
 refine Zse Zwn ?_
 intro l list _ hp
 simp only [Zcl] at hp
 refine ZxQ _ _ _ ?_
 refine Ze (ι:=Int) (fun s=> Z2d l list s) (fun s=> 0≤s∧s≤l.length∧∀ t∈l.take s.toNat,Z9 (Tree.mk list [] [t]) 64=true) (fun s=> ((l.length:Int) - s).toNat) 0 rfl ⟨by simp,by simp,by simp⟩ ?_
 rintro i ⟨g1,g2,g3⟩
 have hb:=Zde (list:=list) (l:=l) i.toNat g3 (by omega)
 have hl:=ZD l
 refine ZnO _ _ _ _ _ ?_
 (simp only [vcS])
 (simp only [Tree.eta,Edit.eta,Tree.kind_mk,Tree.words_mk,Tree.kids_mk])
 refine ⟨fun hi=> ⟨⟨g1,hi⟩,?_,fun hc=> ?_,fun hc=> ?_⟩,fun hi=> ?_⟩
 ·have hm:=Zm (l:=l) (i:=i.toNat) (by omega) Tree.nil
  simp only [Z9l]
  have h1:=YW hm
  exact ⟨by omega,YX hp.2.1 hm,hp.2.2⟩
 ·rw [YU g1 hi Tree.nil,Z57,if_neg (by rw [hc];decide)] at hb
  simp only [Zff,Zb7]
  rw [hb,show ((i.toNat:Nat):Int)=i by omega]
  (repeat' (first | exact trivial | exact rfl | apply And.intro))
 ·refine ⟨by unfold InR;omega,i+1,rfl,⟨by omega,by omega,fun t ht=> ?_⟩,by omega⟩
  rw [show (i+1).toNat=i.toNat+1 by omega,List.take_add_one] at ht
  rcases List.mem_append.1 ht with ht | ht
  ·exact g3 t ht
  ·have e:l[i.toNat]?=some (l.getD i.toNat Tree.nil):=by
    simp [List.getD,List.getElem?_eq_getElem (show i.toNat < l.length by omega)]
   rw [e] at ht
   simp only [Option.toList_some,List.mem_singleton] at ht
   subst ht
   exact hc
 ·rw [List.drop_of_length_le (by omega)] at hb
  simp only [Zff,Zb7]
  rw [hb,Z57]
  (repeat' (first | exact trivial | exact rfl | apply And.intro))
theorem Zwo:Contract Try.prog cfg 184 Z4t:=by
 refine Zsn Zwh ?_
 intro l list _ hp
 simp only [Z4G] at hp
 refine ZxZ _ _ _ ?_
 have hb:=ZeE list l 0 (by decide)
 refine ⟨by simp only [Zcl];exact hp,?_⟩
 have e:decide (0≤Z57 list l 0)= !(Jr list l):=by
  rw [Bool.eq_iff_iff,decide_eq_true_eq,hb]
  cases Jr list l <;> simp
 simp only [ZiE,Zfc]
 rw [e]
 (repeat' (first | exact trivial | exact rfl | apply And.intro))
end Go.AM.Ytpjenobkibfpcaa
namespace Go.AM.Ytpjenobkibfpcaa
open Go.AM Go.Proofs
noncomputable section
abbrev ZO(p:Prop):Prop:=p→p
def ZlA:ArgL (Tree × Unit):=(.cons (aEl .tree) .nil)
def Z4H(a:Tree × Unit):Prop:=Zq a.1≤20000000000
def ZoM(a:Tree × Unit):V U:= .c (.bool (ZT a.1))
def Z7M:Fs U:=fs ZlA (fun a=> [Z4H a]) ZoM
def ZlN:ArgL (Edit × Unit):=(.cons (aEl .edit) .nil)
def Z9s(a:Edit × Unit):Prop:=Zc a.1≤20000000000
def ZoW(a:Edit × Unit):V U:= .c (.bool (Z1B a.1))
def Z4x:Fs U:=fs ZlN (fun a=> [Z9s a]) ZoW
def Zl5:List (FuncId × Fs U):=[]
def ZpQ:Zh U:=lvl [([1],[1]),([2],[])]
abbrev Zz1(t:Tree)(Q:QT):=AW (Z1 Zl5) Try.f167 ZpQ [] (L2 [(0,.agg (enc .tree t))] []) Q
theorem Zy3(t:Tree)(Q:QT)(h:((t.kind==0)=true→InR (((t.words.length:Int):Int)+(t.kids.length:Int)))∧(Q .ret (L2 [(2,.c (.bool (bif (t.kind==0) then (((((t.words.length:Int):Int)+(t.kids.length:Int)):Int)==0) else false)))] []))):
  Zz1 t Q:=by
 have e_:(Zz1 t Q)=((ZO ((t.kind==0)=true))∧(ZO ((t.kind==0)=true))∧(ZO ((t.kind==0)=true))∧(ZO ((t.kind==0)=true))∧(ZO ((t.kind==0)=true))∧(ZO ((t.kind==0)=true))∧((t.kind==0)=true→InR ((t.words.length:Int)+(t.kids.length:Int)))∧(ZO ((t.kind==0)=true))∧(ZO ((t.kind==0)=true))∧(Q .ret (L2 [(2,.c (.bool (bif (t.kind==0) then ((((t.words.length:Int)+(t.kids.length:Int)):Int)==0) else false)))] []))):=by kernel_rfl
 exact e_.mpr ⟨id,id,id,id,id,id,h.1,id,(by generalize ((t.kind:Int)==0)=b0;revert b0;decide),h.2⟩
def ZtD(t:Tree):Prop:=AW (Z1 Zl5) Try.f167 ZpQ [] (Zn (ZlA.can (t,())) []) (EQ Try.f167 (ZoM (t,())) [])
theorem Zsq(hb:∀ (t:Tree) (_:Unit),Z4H (t,())→ZtD t):CT 167 Z7M:=
 Z6 (l:=[]) Zo rfl trivial ZpQ Try.func167 rfl rfl 1 (fun _=> rfl) (by decide) (fun ⟨t,_⟩=> hb t ())
def Zlg:List (FuncId × Fs U):=[(167,Z7M)]
def Zq1:Zh U:=lvl [([1],[1]),([1,3],[1]),([1,4],[1]),([2],[]),([1,21],[1]),([2],[]),([2],[])]
abbrev Zzc(e:Edit)(Q:QT):=AW (Z1 Zlg) Try.f121 Zq1 [] (L2 [(0,.agg (enc .edit e))] []) Q
theorem Zyp(e:Edit)(Q:QT)(h:∀ y_1,y_1=(e.new)→∀ y_2,y_2=(e.old)→((e.kind !=1)=true→Z4H (y_2,()))∧(((e.kind !=1) && (ZT y_2))=true→Z4H (y_1,()))∧(((bif (e.kind !=1) then (!(bif (ZT y_2) then (ZT y_1) else false)) else false)=true→Q .ret (L2 [(2,.c (.bool false))] []))∧((bif (e.kind !=1) then (!(bif (ZT y_2) then (ZT y_1) else false)) else false)=false→((e.kind !=2)=true→InR (((e.words.length:Int):Int)+(e.kids.length:Int)))∧(((bif (e.kind !=2) then (decide ((0:Int) < (((e.words.length:Int):Int)+(e.kids.length:Int)))) else false)=true→Q .ret (L2 [(2,.c (.bool false))] []))∧((bif (e.kind !=2) then (decide ((0:Int) < (((e.words.length:Int):Int)+(e.kids.length:Int)))) else false)=false→Q .ret (L2 [(2,.c (.bool (bif (e.kind==3) then true else (bif (e.list==0) then (((e.ops.length:Int):Int)==0) else false))))] [])))))):
  Zzc e Q:=by
 have e_:(Zzc e Q)=(let y_1:=(Z5r e.new);let y_2:=(Z5r e.old);let zz2:=(bif (e.kind !=1) then (!(bif (ZT y_2) then (ZT y_1) else false)) else false);let zz1:=(bif (e.kind !=2) then (decide ((0:Int) < ((e.words.length:Int)+(e.kids.length:Int)))) else false);let zz0:=(!(e.kind==3));((ZO ((e.kind !=1)=true))∧(ZO ((e.kind !=1)=true))∧(ZO ((e.kind !=1)=true))∧((e.kind !=1)=true→Z4H (y_2,()))∧(ZO ((e.kind !=1)=true))∧(ZO (((e.kind !=1) && (ZT y_2))=true))∧(ZO (((e.kind !=1) && (ZT y_2))=true))∧(ZO (((e.kind !=1) && (ZT y_2))=true))∧(((e.kind !=1) && (ZT y_2))=true→Z4H (y_1,()))∧((e.kind !=1)=true→(True→(e.kind !=1)=true))∧((e.kind !=1)=true→((ZT y_2)=true→((e.kind !=1) && (ZT y_2))=true))∧(ZO ((e.kind !=1)=true))∧(ZO ((e.kind !=1)=true))∧((zz2=true→(Q .ret (L2 [(2,.c (.bool false))] [])))∧(zz2=false→(ZO ((e.kind !=2)=true))∧(ZO ((e.kind !=2)=true))∧(ZO ((e.kind !=2)=true))∧(ZO ((e.kind !=2)=true))∧(ZO ((e.kind !=2)=true))∧(ZO ((e.kind !=2)=true))∧((e.kind !=2)=true→InR ((e.words.length:Int)+(e.kids.length:Int)))∧(ZO ((e.kind !=2)=true))∧(ZO ((e.kind !=2)=true))∧((zz1=true→(Q .ret (L2 [(2,.c (.bool false))] [])))∧(zz1=false→(ZO (zz0=true))∧(ZO (zz0=true))∧(ZO (zz0=true))∧(ZO ((zz0 && (e.list==0))=true))∧(ZO ((zz0 && (e.list==0))=true))∧(ZO ((zz0 && (e.list==0))=true))∧(zz0=true→(True→zz0=true))∧(zz0=true→((e.list==0)=true→(zz0 && (e.list==0))=true))∧((e.kind==3)=false→zz0=true)∧(Q .ret (L2 [(2,.c (.bool (bif (e.kind==3) then true else (bif (e.list==0) then ((e.ops.length:Int)==0) else false))))] [])))))))):=by kernel_rfl
 exact e_.mpr (by intro y_1 y_2;have hh:=h y_1 (Zi _) y_2 (Zi _);exact ⟨id,id,id,hh.1,id,id,id,id,hh.2.1,(by generalize ((e.kind:Int) !=1)=b0;revert b0;decide),(by generalize (ZT y_2)=b0;generalize ((e.kind:Int) !=1)=b1;revert b0 b1;decide),id,(by generalize ((e.kind:Int) !=1)=b0;revert b0;decide),⟨fun c_1=> (hh.2.2.1 c_1),fun c_1=> ⟨id,id,id,id,id,id,(hh.2.2.2 c_1).1,id,(by generalize ((e.kind:Int) !=2)=b0;revert b0;decide),⟨fun c_2=> ((hh.2.2.2 c_1).2.1 c_2),fun c_2=> ⟨id,id,id,id,id,id,(by generalize ((e.kind:Int)==3)=b0;revert b0;decide),(by generalize ((e.kind:Int)==3)=b0;generalize ((e.list:Int)==0)=b1;revert b0 b1;decide),(by generalize ((e.kind:Int)==3)=b0;revert b0;decide),((hh.2.2.2 c_1).2.2 c_2)⟩⟩⟩⟩⟩)
def ZtZ(e:Edit):Prop:=AW (Z1 Zlg) Try.f121 Zq1 [] (Zn (ZlN.can (e,())) []) (EQ Try.f121 (ZoW (e,())) [])
theorem ZsG(Zwq:CT 167 Z7M)(hb:∀ (e:Edit) (_:Unit),Z9s (e,())→ZtZ e):CT 121 Z4x:=
 Z6 (l:=[(167,Z7M)]) Zo rfl (⟨Zwq,trivial⟩) Zq1 Try.func121 rfl rfl 1 (fun _=> rfl) (by decide) (fun ⟨e,_⟩=> hb e ())
end
end Go.AM.Ytpjenobkibfpcaa
namespace Go.AM.Ytpjenobkibfpcaa
open Go.AM Go.Proofs
theorem Zwq:Contract Try.prog cfg 167 Z7M:=by
 refine Zsq ?_
 intro t _ hp
 simp only [Z4H] at hp
 have:=ZhD t
 refine Zy3 t _ ?_
 refine ⟨fun _=> by unfold InR;omega,Z4 rfl ?_⟩
 rw [Bool.eq_iff_iff]
 simp only [ZT]
 (simp only [vcS])
 omega
theorem ZwD:Contract Try.prog cfg 121 Z4x:=by
 refine ZsG Zwq ?_
 intro e _ hp
 simp only [Z9s] at hp
 have h1:=Yr e
 have h2:=Yi e.kids
 refine Zyp e _ ?_
 rintro y1 rfl y2 rfl
 (simp only [vcS])
 refine ⟨fun _=> by simp only [Z4H];omega,fun _=> by simp only [Z4H];omega,fun h=> ?_,fun h=> ⟨fun _=> by unfold InR;omega,fun h3=> ?_,fun h3=> ?_⟩⟩
 ·refine Z4 rfl ?_
  show false=Z1B e
  unfold Z1B
  rw [if_pos (Or.inl ⟨h.1,fun hn=> by have:=h.2;rw [hn.1,hn.2] at this;revert this;decide⟩)]
 ·refine Z4 rfl ?_
  show false=Z1B e
  unfold Z1B
  rw [if_pos (Or.inr (Or.inl ⟨h3.1,by omega⟩))]
 ·refine Z4 rfl ?_
  show _=Z1B e
  unfold Z1B
  have g1:¬(e.kind≠1∧¬(ZT e.old=true∧ZT e.new=true)):=by
   intro hc
   rcases h with h | h
   ·exact hc.1 (by simpa using h)
   ·exact hc.2 (by simpa using h)
  have g2:¬(e.kind≠2∧¬(e.words.length=0∧e.kids.length=0)):=by omega
  by_cases g3:e.kind≠3∧(e.list≠0∨e.ops.length≠0)
  ·rw [if_pos (Or.inr (Or.inr g3)),Bool.eq_iff_iff]
   (simp only [vcS])
   constructor
   ·intro h;omega
   ·intro h;cases h
  ·rw [if_neg (by rintro (x | x | x) <;> contradiction),Bool.eq_iff_iff]
   (simp only [vcS])
   constructor
   ·intro _;first | trivial | rfl
   ·intro _;omega
end Go.AM.Ytpjenobkibfpcaa
namespace Go.AM.Ytpjenobkibfpcaa
open Go.AM Go.Proofs
noncomputable section
abbrev Zb(p:Prop):Prop:=p→p
noncomputable section
def Z7v:ArgL (Edit × Int × Unit):=(.cons (aEl .edit) (.cons (J3 .i64) .nil))
def JM(a:Edit × Int × Unit):Prop:=(Zc a.1≤18000000000∧ZS a.1)∧0≤a.2.1∧a.2.1≤1000
def Z3z(a:Edit × Int × Unit):Nat:=4*Zc a.1
def Zca(a:Edit × Int × Unit):V U:= .c (.bool (Z0 a.1 a.2.1))
def ZbF:Fs U:=fs Z7v (fun a=> [JM a]) Zca
def Z51:ArgL (List Kid × Int × Unit):=(.cons (aSl .kid) (.cons (J3 .i64) .nil))
def Z2F(a:List Kid × Int × Unit):Prop:=(Zw a.1≤18000000000∧JT a.1)∧0≤a.2.1∧a.2.1≤1000
def Z6L(a:List Kid × Int × Unit):Nat:=4*Zw a.1+2
def Z5q(a:List Kid × Int × Unit):V U:= .c (.bool (Zr (-1) a.1 a.2.1))
def ZjX:Fs U:=fs Z51 (fun a=> [Z2F a]) Z5q
def Z50:ArgL (Edit × Int × Unit):=(.cons (aEl .edit) (.cons (J3 .i64) .nil))
def Z2E(a:Edit × Int × Unit):Prop:=(Zc a.1≤18000000000∧ZS a.1∧2≤Edit.list a.1∧Edit.list a.1≤9)∧0≤a.2.1∧a.2.1≤1000
def Z6K(a:Edit × Int × Unit):Nat:=4*Zs a.1.ops+2
def Z75(a:Edit × Int × Unit):V U:= .c (.bool (Zt a.1.list a.1.ops a.2.1 && decide (Z0d a.1.ops 0 < 1048576∧Z0c a.1.ops 0 < 1048576)))
def ZjW:Fs U:=fs Z50 (fun a=> [Z2E a]) Z75
def Z4Z:ArgL (Int × Op × Int × Unit):=(.cons (J3 .i64) (.cons (aEl .op) (.cons (J3 .i64) .nil)))
def Z2D(a:Int × Op × Int × Unit):Prop:=(Zx a.2.1≤18000000000∧YA a.2.1∧2≤a.1∧a.1≤9)∧0≤a.2.2.1∧a.2.2.1≤1000
def Z6J(a:Int × Op × Int × Unit):Nat:=4*Zx a.2.1+1
def Z74(a:Int × Op × Int × Unit):V U:= .c (.bool (Za a.1 a.2.1 a.2.2.1))
def ZjR:Fs U:=fs Z4Z (fun a=> [Z2D a]) Z74
def Zr6:ArgL (Edit × Unit):=(.cons (aEl .edit) .nil)
def Zkt(a:Edit × Unit):Prop:=Zc a.1≤18000000000∧ZS a.1
def Zup(a:Edit × Unit):V U:= .c (.bool (Z0 a.1 64))
def ZbN:Fs U:=fs Zr6 (fun a=> [Zkt a]) Zup
def Z7q(N:Nat):List (FuncId × Fs U):=(89,fs Z7v (fun a=> [JM a,Z3z a < N]) Zca) ::(124,fs Z51 (fun a=> [Z2F a,Z6L a < N]) Z5q) ::(125,fs Z50 (fun a=> [Z2E a,Z6K a < N]) Z75) ::(168,fs Z4Z (fun a=> [Z2D a,Z6J a < N]) Z74) ::[(121,Z4x),(122,Z4w),(123,Z4v),(92,Z3q),(184,Z4t),(187,Z4s),(164,Z4u)]
def ZvP:Zh U:=lvl [([1,2],[2]),([1,2,11],[2]),([4],[]),([1,2,13],[2]),([1,2,13,14],[2]),([4],[]),([1,2,13,16],[2]),([4],[]),([1,2,13,26],[2]),([4],[]),([1,2,38],[2]),([4],[]),([4],[])]
abbrev W89(N:Nat)(e:Edit)(d:Int)(Q:QT):=AW (Z1 (Z7q N)) Try.f89 ZvP [] (L2 [(0,.agg (enc .edit e)),(1,.c (ci d))] []) Q
theorem ZzC(N:Nat)(e:Edit)(d:Int)(Q:QT)(h:∀ y_1,y_1=e→∀ y_2,y_2=(e.new)→∀ y_3,y_3=(e.old)→(Z9s (y_1,()))∧(((bif (!(Z1B y_1)) then true else (d==0))=true→Q .ret (L2 [(4,.c (.bool false))] []))∧((bif (!(Z1B y_1)) then true else (d==0))=false→((e.kind==0)=true→Q .ret (L2 [(4,.c (.bool true))] []))∧((e.kind==0)=false→((e.kind==1)=true→(Z5w (y_3,()))∧((decide (Tree.kind y_3≠10) && Z9 y_3 64)=true→Z5w (y_2,()))∧(Q .ret (L2 [(4,.c (.bool (bif (decide (Tree.kind y_3≠10) && Z9 y_3 64) then (decide (Tree.kind y_2≠10) && Z9 y_2 64) else false)))] [])))∧((e.kind==1)=false→((e.kind==2)=true→(Z9r (e.words,()))∧((Zk (-1) e.words)=true→InR (d - 1))∧((Zk (-1) e.words)=true→Z2F (e.kids,(d - 1),()))∧((Zk (-1) e.words)=true→Z6L (e.kids,(d - 1),()) < N)∧(Q .ret (L2 [(4,.c (.bool (bif (Zk (-1) e.words) then (Zr (-1) e.kids (d - 1)) else false)))] [])))∧((e.kind==2)=false→((e.kind==3)=true→(Ze8 (e.list,()))∧((decide (2≤e.list∧e.list≤9))=true→InR (d - 1))∧((decide (2≤e.list∧e.list≤9))=true→Z2E (y_1,(d - 1),()))∧((decide (2≤e.list∧e.list≤9))=true→Z6K (y_1,(d - 1),()) < N)∧(Q .ret (L2 [(4,.c (.bool (bif (decide (2≤e.list∧e.list≤9)) then (Zt y_1.list y_1.ops (d - 1) && decide (Z0d y_1.ops 0 < 1048576∧Z0c y_1.ops 0 < 1048576)) else false)))] [])))∧((e.kind==3)=false→Q .ret (L2 [(4,.c (.bool false))] [])))))))):
  W89 N e d Q:=by
 have e_:(W89 N e d Q)=(let y_1:=(Jl e);let y_2:=(Z5r e.new);let y_3:=(Z5r e.old);let zz1:=(decide (Tree.kind y_3≠10) && Z9 y_3 64);let zz0:=(decide (2≤e.list∧e.list≤9));((Z9s (y_1,()))∧(Zb ((!(!(Z1B y_1)))=true))∧((!(Z1B y_1))=false→(!(!(Z1B y_1)))=true)∧(((bif (!(Z1B y_1)) then true else ((d:Int)==0))=true→(Q .ret (L2 [(4,.c (.bool false))] [])))∧((bif (!(Z1B y_1)) then true else ((d:Int)==0))=false→(((e.kind==0)=true→(Q .ret (L2 [(4,.c (.bool true))] [])))∧((e.kind==0)=false→(((e.kind==1)=true→(Z5w (y_3,()))∧(Zb (zz1=true))∧(Zb (zz1=true))∧(zz1=true→Z5w (y_2,()))∧(Zb (zz1=true))∧(Q .ret (L2 [(4,.c (.bool (bif zz1 then (decide (Tree.kind y_2≠10) && Z9 y_2 64) else false)))] [])))∧((e.kind==1)=false→(((e.kind==2)=true→(Z9r (e.words,()))∧(Zb ((Zk (-1) e.words)=true))∧(Zb ((Zk (-1) e.words)=true))∧((Zk (-1) e.words)=true→InR ((d:Int) - 1))∧(Zb ((Zk (-1) e.words)=true))∧(Zb ((Zk (-1) e.words)=true))∧((Zk (-1) e.words)=true→Z2F (e.kids,((d:Int) - 1),()))∧((Zk (-1) e.words)=true→Z6L (e.kids,((d:Int) - 1),()) < N)∧(Zb ((Zk (-1) e.words)=true))∧(Q .ret (L2 [(4,.c (.bool (bif (Zk (-1) e.words) then (Zr (-1) e.kids ((d:Int) - 1)) else false)))] [])))∧((e.kind==2)=false→(((e.kind==3)=true→(Ze8 (e.list,()))∧(Zb (zz0=true))∧(zz0=true→InR ((d:Int) - 1))∧(Zb (zz0=true))∧(Zb (zz0=true))∧(zz0=true→Z2E (y_1,((d:Int) - 1),()))∧(zz0=true→Z6K (y_1,((d:Int) - 1),()) < N)∧(Zb (zz0=true))∧(Q .ret (L2 [(4,.c (.bool (bif zz0 then (Zt y_1.list y_1.ops ((d:Int) - 1) && decide (Z0d y_1.ops 0 < 1048576∧Z0c y_1.ops 0 < 1048576)) else false)))] [])))∧((e.kind==3)=false→(Q .ret (L2 [(4,.c (.bool false))] [])))))))))))))):=by kernel_rfl
 exact e_.mpr (by intro y_1 y_2 y_3;have hh:=h y_1 (Zf _) y_2 (Zi _) y_3 (Zi _);exact ⟨hh.1,id,(by generalize (Z1B y_1)=b0;revert b0;decide),⟨fun c_1=> (hh.2.1 c_1),fun c_1=> ⟨fun c_2=> ((hh.2.2 c_1).1 c_2),fun c_2=> ⟨fun c_3=> ⟨(((hh.2.2 c_1).2 c_2).1 c_3).1,id,id,(((hh.2.2 c_1).2 c_2).1 c_3).2.1,(by generalize (decide (Tree.kind y_3≠10))=b0;generalize (Z9 y_3 64)=b1;revert b0 b1;decide),(((hh.2.2 c_1).2 c_2).1 c_3).2.2⟩,fun c_3=> ⟨fun c_4=> ⟨((((hh.2.2 c_1).2 c_2).2 c_3).1 c_4).1,id,id,((((hh.2.2 c_1).2 c_2).2 c_3).1 c_4).2.1,id,id,((((hh.2.2 c_1).2 c_2).2 c_3).1 c_4).2.2.1,((((hh.2.2 c_1).2 c_2).2 c_3).1 c_4).2.2.2.1,(by generalize (Zk (-1) e.words)=b0;revert b0;decide),((((hh.2.2 c_1).2 c_2).2 c_3).1 c_4).2.2.2.2⟩,fun c_4=> ⟨fun c_5=> ⟨(((((hh.2.2 c_1).2 c_2).2 c_3).2 c_4).1 c_5).1,id,(((((hh.2.2 c_1).2 c_2).2 c_3).2 c_4).1 c_5).2.1,id,id,(((((hh.2.2 c_1).2 c_2).2 c_3).2 c_4).1 c_5).2.2.1,(((((hh.2.2 c_1).2 c_2).2 c_3).2 c_4).1 c_5).2.2.2.1,(by generalize (decide (2≤e.list∧e.list≤9))=b0;revert b0;decide),(((((hh.2.2 c_1).2 c_2).2 c_3).2 c_4).1 c_5).2.2.2.2⟩,fun c_5=> (((((hh.2.2 c_1).2 c_2).2 c_3).2 c_4).2 c_5)⟩⟩⟩⟩⟩⟩)
def Zxa(N:Nat)(e:Edit)(d:Int):Prop:=AW (Z1 (Z7q N)) Try.f89 ZvP [] (Zn (Z7v.can (e,d,())) []) (EQ Try.f89 (Zca (e,d,())) [])
abbrev Zzm:Prop:=∀ (N:Nat) (e:Edit) (d:Int) (_:Unit),JM (e,d,())→Z3z (e,d,()) < N+1→Zxa N e d
def Z1h(N:Nat):List (FuncId × Fs U):=(89,fs Z7v (fun a=> [JM a,Z3z a < N]) Zca) ::(124,fs Z51 (fun a=> [Z2F a,Z6L a < N]) Z5q) ::(125,fs Z50 (fun a=> [Z2E a,Z6K a < N]) Z75) ::(168,fs Z4Z (fun a=> [Z2D a,Z6J a < N]) Z74) ::[(121,Z4x),(122,Z4w),(123,Z4v),(92,Z3q),(184,Z4t),(187,Z4s),(164,Z4u)]
def Z8s:Zh U:=lvl [([0,1],[]),([0,1,7,8,9],[]),([0,1,7,8,9,10],[]),([0,1,5,6,7,8,9],[6]),([0,1,7,8,9,49],[]),([4],[]),([0,1,7,8,9],[]),([4],[])]
def Z2j(l:List Kid)(d x9:Int):LSt U:=(L2 [(0,.c (sU .kid l .unk)),(1,.c (ci d)),(7,.c (sU .kid l .unk)),(8,.c (ci (l.length:Int))),(9,.c (ci x9))] [])
abbrev Zz9(N:Nat)(l:List Kid)(d:Int)(Q:QT):=AW (Z1 (Z1h N)) Try.f124 Z8s [] (L2 [(0,.c (sU .kid l .unk)),(1,.c (ci d))] []) Q
abbrev ZjF(N:Nat):=awp cfg (Z1 (Z1h N)) (ZJ cfg (Z1 (Z1h N))) Try.f124.ntmps Z8s
abbrev Ziu(N:Nat):=Z7Y cfg (Z1 (Z1h N)) (ZJ cfg (Z1 (Z1h N))) Try.f124.ntmps Z8s
theorem Zym(N:Nat)(l:List Kid)(d:Int)(Q:QT)(h:Zl (AW (Z1 (Z1h N)) Try.f124 Z8s [1,0,1,0,0]) (Z2j l d 0) (xB 0 (SW (Z1 (Z1h N)) Try.f124 Z8s [1,1] Q))):
  Zz9 N l d Q:=by
 have e_:(Zz9 N l d Q)=(Zl (ZjF N (cd Try.f124 [1,0,1,0,0])) (Z2j l d 0) (xB 0 (Ziu N (cd Try.f124 [1,1]) Q))):=by kernel_rfl
 exact e_.mpr h
abbrev Zm4(N:Nat)(l:List Kid)(d x9:Int)(N0:NT)(Q:QT):=AW (Z1 (Z1h N)) Try.f124 Z8s [1,0,1,0,0] (Z2j l d x9) (xT N0 (xB 0 (SW (Z1 (Z1h N)) Try.f124 Z8s [1,1] Q)))
theorem Zo0(N:Nat)(l:List Kid)(d x9:Int)(N0:NT)(Q:QT)(h:∀ y_1,y_1=(l.getD x9.toNat (KidOf.mk 0 Edit.nil))→∀ y_2,y_2=(List.getD l (Int.toNat (x9 - 1)) (KidOf.mk 0 Edit.nil))→∀ y_3,y_3=(y_1.e)→((decide (x9 < (l.length:Int)))=true→((0:Int)≤x9∧x9 < (l.length:Int))∧((((!(bif (decide (y_1.at_ < 0)) then true else (decide ((65535:Int)≤y_1.at_)))) && (decide ((0:Int) < x9)))=true→InR (x9 - 1))∧(((!(bif (decide (y_1.at_ < 0)) then true else (decide ((65535:Int)≤y_1.at_)))) && (decide ((0:Int) < x9)))=true→(0:Int)≤(x9 - 1)∧(x9 - 1) < (l.length:Int))∧((!(bif (bif (bif (decide (y_1.at_ < 0)) then true else (decide ((65535:Int)≤y_1.at_))) then true else (bif (decide ((0:Int) < x9)) then (decide (y_1.at_≤y_2.at_)) else false)) then true else (y_1.e.kind==0)))=true→JM (y_3,d,()))∧((!(bif (bif (bif (decide (y_1.at_ < 0)) then true else (decide ((65535:Int)≤y_1.at_))) then true else (bif (decide ((0:Int) < x9)) then (decide (y_1.at_≤y_2.at_)) else false)) then true else (y_1.e.kind==0)))=true→Z3z (y_3,d,()) < N)∧(((bif (bif (bif (bif (decide (y_1.at_ < 0)) then true else (decide ((65535:Int)≤y_1.at_))) then true else (bif (decide ((0:Int) < x9)) then (decide (y_1.at_≤y_2.at_)) else false)) then true else (y_1.e.kind==0)) then true else (!(Z0 y_3 d)))=true→Q .ret (L2 [(4,.c (.bool false))] []))∧((bif (bif (bif (bif (decide (y_1.at_ < 0)) then true else (decide ((65535:Int)≤y_1.at_))) then true else (bif (decide ((0:Int) < x9)) then (decide (y_1.at_≤y_2.at_)) else false)) then true else (y_1.e.kind==0)) then true else (!(Z0 y_3 d)))=false→(InR (x9+1))∧(N0 (Z2j l d (x9+1)))))))∧((decide (x9 < (l.length:Int)))=false→Q .ret (L2 [(4,.c (.bool true))] []))):
  Zm4 N l d x9 N0 Q:=by
 have e_:(Zm4 N l d x9 N0 Q)=(let y_1:=(l.getD x9.toNat (KidOf.mk 0 Edit.nil));let y_2:=(List.getD l (Int.toNat ((x9:Int) - 1)) (KidOf.mk 0 Edit.nil));let y_3:=(Jl y_1.e);let zz4:=(decide (y_1.at_ < 0));let zz3:=(decide ((0:Int) < x9));let zz2:=((y_1.e.kind:Int)==0);let zz1:=(bif zz3 then (decide (y_1.at_≤y_2.at_)) else false);let zz0:=(bif zz4 then true else (decide ((65535:Int)≤y_1.at_)));(((decide ((x9:Int) < (l.length:Int)))=true→((0:Int)≤x9∧x9 < (l.length:Int))∧((Zb ((!zz4)=true))∧(Zb ((!zz4)=true))∧(zz4=false→(!zz4)=true)∧(Zb ((!zz0)=true))∧(Zb ((!zz0)=true))∧(Zb (((!zz0) && zz3)=true))∧(((!zz0) && zz3)=true→InR ((x9:Int) - 1))∧(Zb (((!zz0) && zz3)=true))∧(Zb (((!zz0) && zz3)=true))∧(((!zz0) && zz3)=true→(0:Int)≤((x9:Int) - 1)∧((x9:Int) - 1) < (l.length:Int))∧(Zb (((!zz0) && zz3)=true))∧(Zb (((!zz0) && zz3)=true))∧(Zb (((!zz0) && zz3)=true))∧(Zb (((!zz0) && zz3)=true))∧(Zb (((!zz0) && zz3)=true))∧((!zz0)=true→(True→(!zz0)=true))∧((!zz0)=true→(zz3=true→((!zz0) && zz3)=true))∧(zz0=false→(!zz0)=true)∧(Zb ((!(bif zz0 then true else zz1))=true))∧(Zb ((!(bif zz0 then true else zz1))=true))∧(Zb ((!(bif zz0 then true else zz1))=true))∧((bif zz0 then true else zz1)=false→(!(bif zz0 then true else zz1))=true)∧(Zb ((!(bif (bif zz0 then true else zz1) then true else zz2))=true))∧(Zb ((!(bif (bif zz0 then true else zz1) then true else zz2))=true))∧(Zb ((!(bif (bif zz0 then true else zz1) then true else zz2))=true))∧((!(bif (bif zz0 then true else zz1) then true else zz2))=true→JM (y_3,d,()))∧((!(bif (bif zz0 then true else zz1) then true else zz2))=true→Z3z (y_3,d,()) < N)∧(Zb ((!(bif (bif zz0 then true else zz1) then true else zz2))=true))∧((bif (bif zz0 then true else zz1) then true else zz2)=false→(!(bif (bif zz0 then true else zz1) then true else zz2))=true)∧(((bif (bif (bif zz0 then true else zz1) then true else zz2) then true else (!(Z0 y_3 d)))=true→(Q .ret (L2 [(4,.c (.bool false))] [])))∧((bif (bif (bif zz0 then true else zz1) then true else zz2) then true else (!(Z0 y_3 d)))=false→(InR ((x9:Int)+1))∧(N0 (Z2j l d ((x9:Int)+1)))))))∧((decide ((x9:Int) < (l.length:Int)))=false→(Q .ret (L2 [(4,.c (.bool true))] []))))):=by kernel_rfl
 exact e_.mpr (by intro y_1 y_2 y_3;have hh:=h y_1 rfl y_2 rfl y_3 (Zf _);exact ⟨fun c_6=> ⟨(hh.1 c_6).1,⟨id,id,(by generalize (decide ((y_1.at_:Int) < 0))=b0;revert b0;decide),id,id,id,(hh.1 c_6).2.1,id,id,(hh.1 c_6).2.2.1,id,id,id,id,id,(by generalize (decide ((65535:Int)≤y_1.at_))=b0;generalize (decide ((y_1.at_:Int) < 0))=b1;revert b0 b1;decide),(by generalize (decide ((65535:Int)≤y_1.at_))=b0;generalize (decide ((y_1.at_:Int) < 0))=b1;generalize (decide ((0:Int) < x9))=b2;revert b0 b1 b2;decide),(by generalize (decide ((65535:Int)≤y_1.at_))=b0;generalize (decide ((y_1.at_:Int) < 0))=b1;revert b0 b1;decide),id,id,id,(by generalize (decide ((y_1.at_:Int)≤y_2.at_))=b0;generalize (decide ((65535:Int)≤y_1.at_))=b1;generalize (decide ((y_1.at_:Int) < 0))=b2;generalize (decide ((0:Int) < x9))=b3;revert b0 b1 b2 b3;decide),id,id,id,(hh.1 c_6).2.2.2.1,(hh.1 c_6).2.2.2.2.1,id,(by generalize (decide ((y_1.at_:Int)≤y_2.at_))=b0;generalize (decide ((65535:Int)≤y_1.at_))=b1;generalize ((y_1.e.kind:Int)==0)=b2;generalize (decide ((y_1.at_:Int) < 0))=b3;generalize (decide ((0:Int) < x9))=b4;revert b0 b1 b2 b3 b4;decide),⟨fun c_7=> ((hh.1 c_6).2.2.2.2.2.1 c_7),fun c_7=> ⟨((hh.1 c_6).2.2.2.2.2.2 c_7).1,((hh.1 c_6).2.2.2.2.2.2 c_7).2⟩⟩⟩⟩,fun c_6=> (hh.2 c_6)⟩)
def ZtW(N:Nat)(l:List Kid)(d:Int):Prop:=AW (Z1 (Z1h N)) Try.f124 Z8s [] (Zn (Z51.can (l,d,())) []) (EQ Try.f124 (Z5q (l,d,())) [])
abbrev ZuY:Prop:=∀ (N:Nat) (l:List Kid) (d:Int) (_:Unit),Z2F (l,d,())→Z6L (l,d,()) < N+1→ZtW N l d
def Z1g(N:Nat):List (FuncId × Fs U):=(89,fs Z7v (fun a=> [JM a,Z3z a < N]) Zca) ::(124,fs Z51 (fun a=> [Z2F a,Z6L a < N]) Z5q) ::(125,fs Z50 (fun a=> [Z2E a,Z6K a < N]) Z75) ::(168,fs Z4Z (fun a=> [Z2D a,Z6J a < N]) Z74) ::[(121,Z4x),(122,Z4w),(123,Z4v),(92,Z3q),(184,Z4t),(187,Z4s),(164,Z4u)]
def Z8r:Zh U:=lvl [([1,2],[2]),([1,2,10,11,12],[2]),([1,2,10,11,12,13],[2]),([1,2,6,10,11,12],[2,6]),([1,2,10,11,12,21],[2]),([4],[]),([1,2,10,11,12],[2]),([7,8],[]),([4],[])]
def Z2i(e:Edit)(d x12:Int):LSt U:=(L2 [(1,.c (ci d)),(2,.ptr (.loc 2) 0),(10,.c (sU .op e.ops .unk)),(11,.c (ci (e.ops.length:Int))),(12,.c (ci x12))] [(.loc 2,(enc .edit e))])
abbrev Zz8(N:Nat)(e:Edit)(d:Int)(Q:QT):=AW (Z1 (Z1g N)) Try.f125 Z8r [] (L2 [(0,.agg (enc .edit e)),(1,.c (ci d))] []) Q
abbrev ZjE(N:Nat):=awp cfg (Z1 (Z1g N)) (ZJ cfg (Z1 (Z1g N))) Try.f125.ntmps Z8r
abbrev Zit(N:Nat):=Z7Y cfg (Z1 (Z1g N)) (ZJ cfg (Z1 (Z1g N))) Try.f125.ntmps Z8r
theorem Zyl(N:Nat)(e:Edit)(d:Int)(Q:QT)(h:Zl (AW (Z1 (Z1g N)) Try.f125 Z8r [1,0,1,0,0]) (Z2i e d 0) (xB 0 (SW (Z1 (Z1g N)) Try.f125 Z8r [1,1] Q))):
  Zz8 N e d Q:=by
 have e_:(Zz8 N e d Q)=(Zl (ZjE N (cd Try.f125 [1,0,1,0,0])) (Z2i e d 0) (xB 0 (Zit N (cd Try.f125 [1,1]) Q))):=by kernel_rfl
 exact e_.mpr h
abbrev Zm3(N:Nat)(e:Edit)(d x12:Int)(N0:NT)(Q:QT):=AW (Z1 (Z1g N)) Try.f125 Z8r [1,0,1,0,0] (Z2i e d x12) (xT N0 (xB 0 (SW (Z1 (Z1g N)) Try.f125 Z8r [1,1] Q)))
theorem ZnZ(N:Nat)(e:Edit)(d x12:Int)(N0:NT)(Q:QT)(h:∀ y_1,y_1=e→∀ y_2,y_2=(e.ops.getD x12.toNat Op.nil)→∀ y_3,y_3=y_2→((decide (x12 < (e.ops.length:Int)))=true→((0:Int)≤x12∧x12 < (e.ops.length:Int))∧((Z2D (e.list,y_3,d,()))∧(Z6J (e.list,y_3,d,()) < N)∧(((!(Za e.list y_3 d))=true→Q .ret (L2 [(4,.c (.bool false))] []))∧((!(Za e.list y_3 d))=false→(InR (x12+1))∧(N0 (Z2i e d (x12+1)))))))∧((decide (x12 < (e.ops.length:Int)))=false→(Z9m (y_1,()))∧(Q .ret (L2 [(4,.c (.bool (bif (decide (((Z1x y_1.ops 0):Int) < 1048576)) then (decide (((Z1J y_1.ops 0):Int) < 1048576)) else false)))] [])))):
  Zm3 N e d x12 N0 Q:=by
 have e_:(Zm3 N e d x12 N0 Q)=(let y_1:=(Jl e);let y_2:=(e.ops.getD x12.toNat Op.nil);let y_3:=(ZiM y_2);let zz0:=(decide (((Z1x y_1.ops 0):Int) < 1048576));(((decide ((x12:Int) < (e.ops.length:Int)))=true→((0:Int)≤x12∧x12 < (e.ops.length:Int))∧((Z2D (e.list,y_3,d,()))∧(Z6J (e.list,y_3,d,()) < N)∧(((!(Za e.list y_3 d))=true→(Q .ret (L2 [(4,.c (.bool false))] [])))∧((!(Za e.list y_3 d))=false→(InR ((x12:Int)+1))∧(N0 (Z2i e d ((x12:Int)+1)))))))∧((decide ((x12:Int) < (e.ops.length:Int)))=false→(Z9m (y_1,()))∧((Zb (zz0=true))∧(Zb (zz0=true))∧(Q .ret (L2 [(4,.c (.bool (bif zz0 then (decide (((Z1J y_1.ops 0):Int) < 1048576)) else false)))] [])))))):=by kernel_rfl
 exact e_.mpr (by intro y_1 y_2 y_3;have hh:=h y_1 (Zf _) y_2 rfl y_3 (Jh _);exact ⟨fun c_8=> ⟨(hh.1 c_8).1,⟨(hh.1 c_8).2.1,(hh.1 c_8).2.2.1,⟨fun c_9=> ((hh.1 c_8).2.2.2.1 c_9),fun c_9=> ⟨((hh.1 c_8).2.2.2.2 c_9).1,((hh.1 c_8).2.2.2.2 c_9).2⟩⟩⟩⟩,fun c_8=> ⟨(hh.2 c_8).1,⟨id,(by generalize (decide (((Z1x y_1.ops 0):Int) < 1048576))=b0;revert b0;decide),(hh.2 c_8).2⟩⟩⟩)
def ZtV(N:Nat)(e:Edit)(d:Int):Prop:=AW (Z1 (Z1g N)) Try.f125 Z8r [] (Zn (Z50.can (e,d,())) []) (EQ Try.f125 (Z75 (e,d,())) [])
abbrev ZuX:Prop:=∀ (N:Nat) (e:Edit) (d:Int) (_:Unit),Z2E (e,d,())→Z6K (e,d,()) < N+1→ZtV N e d
def Zl4(N:Nat):List (FuncId × Fs U):=(89,fs Z7v (fun a=> [JM a,Z3z a < N]) Zca) ::(124,fs Z51 (fun a=> [Z2F a,Z6L a < N]) Z5q) ::(125,fs Z50 (fun a=> [Z2E a,Z6K a < N]) Z75) ::(168,fs Z4Z (fun a=> [Z2D a,Z6J a < N]) Z74) ::[(121,Z4x),(122,Z4w),(123,Z4v),(92,Z3q),(184,Z4t),(187,Z4s),(164,Z4u)]
def ZpP:Zh U:=lvl [([2,3,4],[3,4]),([2,3,4,8],[3,4]),([2,3,4,8,9],[3,4]),([2,3,4,8,11],[3,4]),([2,3,4,8,13],[3,4]),([2,3,4,15],[3,4]),([6],[]),([6],[]),([6],[]),([6],[])]
abbrev Zz0(N:Nat)(list:Int)(o:Op)(d:Int)(Q:QT):=AW (Z1 (Zl4 N)) Try.f168 ZpP [] (L2 [(0,.c (ci list)),(1,.agg (enc .op o)),(2,.c (ci d))] []) Q
theorem Zy2(N:Nat)(list:Int)(o:Op)(d:Int)(Q:QT)(h:∀ y_1,y_1=(o.e)→∀ y_2,y_2=(.bool (bif (bif (bif (bif (o.n==0) then (decide ((0:Int) < (o.l.length:Int))) else false) then (Z0 y_1 1) else false) then (o.e.kind==0) else false) then (!(!(Jr list o.l))) else false))→((o.kind==0)=true→((bif (bif (decide ((1:Int)≤o.n)) then (decide (o.n≤1048576)) else false) then (((o.l.length:Int):Int)==0) else false)=true→JM (y_1,1,()))∧((bif (bif (decide ((1:Int)≤o.n)) then (decide (o.n≤1048576)) else false) then (((o.l.length:Int):Int)==0) else false)=true→Z3z (y_1,1,()) < N)∧(Q .ret (L2 [(6,.c (.bool (bif (bif (bif (bif (decide ((1:Int)≤o.n)) then (decide (o.n≤1048576)) else false) then (((o.l.length:Int):Int)==0) else false) then (Z0 y_1 1) else false) then (o.e.kind==0) else false)))] [])))∧((o.kind==0)=false→((o.kind==1)=true→((bif (o.n==0) then (decide ((0:Int) < (o.l.length:Int))) else false)=true→JM (y_1,1,()))∧((bif (o.n==0) then (decide ((0:Int) < (o.l.length:Int))) else false)=true→Z3z (y_1,1,()) < N)∧((bif (bif (bif (o.n==0) then (decide ((0:Int) < (o.l.length:Int))) else false) then (Z0 y_1 1) else false) then (o.e.kind==0) else false)=true→Z4G (o.l,(list,()),()))∧(Q .ret (L2 [(6,.c y_2)] [])))∧((o.kind==1)=false→((o.kind==2)=true→((bif (o.n==0) then (decide ((0:Int) < (o.l.length:Int))) else false)=true→JM (y_1,1,()))∧((bif (o.n==0) then (decide ((0:Int) < (o.l.length:Int))) else false)=true→Z3z (y_1,1,()) < N)∧((bif (bif (bif (o.n==0) then (decide ((0:Int) < (o.l.length:Int))) else false) then (Z0 y_1 1) else false) then (o.e.kind==0) else false)=true→Z4G (o.l,(list,()),()))∧(Q .ret (L2 [(6,.c y_2)] [])))∧((o.kind==2)=false→((o.kind==3)=true→((bif (o.n==0) then (((o.l.length:Int):Int)==0) else false)=true→Zfq (list,y_1,()))∧((bif (bif (o.n==0) then (((o.l.length:Int):Int)==0) else false) then (Yz list y_1) else false)=true→JM (y_1,d,()))∧((bif (bif (o.n==0) then (((o.l.length:Int):Int)==0) else false) then (Yz list y_1) else false)=true→Z3z (y_1,d,()) < N)∧(Q .ret (L2 [(6,.c (.bool (bif (bif (bif (o.n==0) then (((o.l.length:Int):Int)==0) else false) then (Yz list y_1) else false) then (Z0 y_1 d) else false)))] [])))∧((o.kind==3)=false→Q .ret (L2 [(6,.c (.bool false))] [])))))):
  Zz0 N list o d Q:=by
 have e_:(Zz0 N list o d Q)=(let y_1:=(Jl o.e);let y_2:=(.bool (bif (bif (bif (bif (o.n==0) then (decide ((0:Int) < (o.l.length:Int))) else false) then (Z0 y_1 1) else false) then ((o.e.kind:Int)==0) else false) then (!(!(Jr list o.l))) else false));let zz5:=(decide ((1:Int)≤o.n));let zz4:=(bif zz5 then (decide (o.n≤1048576)) else false);let zz3:=((o.e.kind:Int)==0);let zz2:=(bif (o.n==0) then ((o.l.length:Int)==0) else false);let zz1:=(bif zz4 then ((o.l.length:Int)==0) else false);let zz0:=(bif (o.n==0) then (decide ((0:Int) < (o.l.length:Int))) else false);(((o.kind==0)=true→(Zb (zz5=true))∧(Zb (zz5=true))∧(Zb (zz5=true))∧(Zb (zz4=true))∧(Zb (zz4=true))∧(Zb (zz4=true))∧(Zb (zz4=true))∧(Zb (zz1=true))∧(Zb (zz1=true))∧(zz1=true→JM (y_1,1,()))∧(zz1=true→Z3z (y_1,1,()) < N)∧(Zb (zz1=true))∧(Zb ((bif zz1 then (Z0 y_1 1) else false)=true))∧(Zb ((bif zz1 then (Z0 y_1 1) else false)=true))∧(Zb ((bif zz1 then (Z0 y_1 1) else false)=true))∧(Zb ((bif zz1 then (Z0 y_1 1) else false)=true))∧(Q .ret (L2 [(6,.c (.bool (bif (bif zz1 then (Z0 y_1 1) else false) then zz3 else false)))] [])))∧((o.kind==0)=false→(((o.kind==1)=true→(Zb ((o.n==0)=true))∧(Zb ((o.n==0)=true))∧(Zb ((o.n==0)=true))∧(Zb ((o.n==0)=true))∧(Zb (zz0=true))∧(Zb (zz0=true))∧(zz0=true→JM (y_1,1,()))∧(zz0=true→Z3z (y_1,1,()) < N)∧(Zb (zz0=true))∧(Zb ((bif zz0 then (Z0 y_1 1) else false)=true))∧(Zb ((bif zz0 then (Z0 y_1 1) else false)=true))∧(Zb ((bif zz0 then (Z0 y_1 1) else false)=true))∧(Zb ((bif zz0 then (Z0 y_1 1) else false)=true))∧(Zb ((bif (bif zz0 then (Z0 y_1 1) else false) then zz3 else false)=true))∧(Zb ((bif (bif zz0 then (Z0 y_1 1) else false) then zz3 else false)=true))∧(Zb ((bif (bif zz0 then (Z0 y_1 1) else false) then zz3 else false)=true))∧((bif (bif zz0 then (Z0 y_1 1) else false) then zz3 else false)=true→Z4G (o.l,(list,()),()))∧(Zb ((bif (bif zz0 then (Z0 y_1 1) else false) then zz3 else false)=true))∧(Zb ((bif (bif zz0 then (Z0 y_1 1) else false) then zz3 else false)=true))∧(Q .ret (L2 [(6,.c y_2)] [])))∧((o.kind==1)=false→(((o.kind==2)=true→(Zb ((o.n==0)=true))∧(Zb ((o.n==0)=true))∧(Zb ((o.n==0)=true))∧(Zb ((o.n==0)=true))∧(Zb (zz0=true))∧(Zb (zz0=true))∧(zz0=true→JM (y_1,1,()))∧(zz0=true→Z3z (y_1,1,()) < N)∧(Zb (zz0=true))∧(Zb ((bif zz0 then (Z0 y_1 1) else false)=true))∧(Zb ((bif zz0 then (Z0 y_1 1) else false)=true))∧(Zb ((bif zz0 then (Z0 y_1 1) else false)=true))∧(Zb ((bif zz0 then (Z0 y_1 1) else false)=true))∧(Zb ((bif (bif zz0 then (Z0 y_1 1) else false) then zz3 else false)=true))∧(Zb ((bif (bif zz0 then (Z0 y_1 1) else false) then zz3 else false)=true))∧(Zb ((bif (bif zz0 then (Z0 y_1 1) else false) then zz3 else false)=true))∧((bif (bif zz0 then (Z0 y_1 1) else false) then zz3 else false)=true→Z4G (o.l,(list,()),()))∧(Zb ((bif (bif zz0 then (Z0 y_1 1) else false) then zz3 else false)=true))∧(Zb ((bif (bif zz0 then (Z0 y_1 1) else false) then zz3 else false)=true))∧(Q .ret (L2 [(6,.c y_2)] [])))∧((o.kind==2)=false→(((o.kind==3)=true→(Zb ((o.n==0)=true))∧(Zb ((o.n==0)=true))∧(Zb ((o.n==0)=true))∧(Zb ((o.n==0)=true))∧(Zb (zz2=true))∧(Zb (zz2=true))∧(Zb (zz2=true))∧(zz2=true→Zfq (list,y_1,()))∧(Zb (zz2=true))∧(Zb ((bif zz2 then (Yz list y_1) else false)=true))∧(Zb ((bif zz2 then (Yz list y_1) else false)=true))∧(Zb ((bif zz2 then (Yz list y_1) else false)=true))∧((bif zz2 then (Yz list y_1) else false)=true→JM (y_1,d,()))∧((bif zz2 then (Yz list y_1) else false)=true→Z3z (y_1,d,()) < N)∧(Zb ((bif zz2 then (Yz list y_1) else false)=true))∧(Q .ret (L2 [(6,.c (.bool (bif (bif zz2 then (Yz list y_1) else false) then (Z0 y_1 d) else false)))] [])))∧((o.kind==3)=false→(Q .ret (L2 [(6,.c (.bool false))] []))))))))))):=by kernel_rfl
 exact e_.mpr (by intro y_1 y_2;have hh:=h y_1 (Zf _) y_2 rfl;exact ⟨fun c_10=> ⟨id,id,(by generalize (decide ((1:Int)≤o.n))=b0;revert b0;decide),id,id,id,(by generalize (decide ((o.n:Int)≤1048576))=b0;generalize (decide ((1:Int)≤o.n))=b1;revert b0 b1;decide),id,id,(hh.1 c_10).1,(hh.1 c_10).2.1,(by generalize (((o.l.length:Int):Int)==0)=b0;generalize (decide ((o.n:Int)≤1048576))=b1;generalize (decide ((1:Int)≤o.n))=b2;revert b0 b1 b2;decide),id,id,id,(by generalize (Z0 y_1 1)=b0;generalize (((o.l.length:Int):Int)==0)=b1;generalize (decide ((o.n:Int)≤1048576))=b2;generalize (decide ((1:Int)≤o.n))=b3;revert b0 b1 b2 b3;decide),(hh.1 c_10).2.2⟩,fun c_10=> ⟨fun c_11=> ⟨id,id,id,(by generalize ((o.n:Int)==0)=b0;revert b0;decide),id,id,((hh.2 c_10).1 c_11).1,((hh.2 c_10).1 c_11).2.1,(by generalize (decide ((0:Int) < (o.l.length:Int)))=b0;generalize ((o.n:Int)==0)=b1;revert b0 b1;decide),id,id,id,(by generalize (Z0 y_1 1)=b0;generalize (decide ((0:Int) < (o.l.length:Int)))=b1;generalize ((o.n:Int)==0)=b2;revert b0 b1 b2;decide),id,id,id,((hh.2 c_10).1 c_11).2.2.1,id,(by generalize (Z0 y_1 1)=b0;generalize (decide ((0:Int) < (o.l.length:Int)))=b1;generalize ((o.e.kind:Int)==0)=b2;generalize ((o.n:Int)==0)=b3;revert b0 b1 b2 b3;decide),((hh.2 c_10).1 c_11).2.2.2⟩,fun c_11=> ⟨fun c_12=> ⟨id,id,id,(by generalize ((o.n:Int)==0)=b0;revert b0;decide),id,id,(((hh.2 c_10).2 c_11).1 c_12).1,(((hh.2 c_10).2 c_11).1 c_12).2.1,(by generalize (decide ((0:Int) < (o.l.length:Int)))=b0;generalize ((o.n:Int)==0)=b1;revert b0 b1;decide),id,id,id,(by generalize (Z0 y_1 1)=b0;generalize (decide ((0:Int) < (o.l.length:Int)))=b1;generalize ((o.n:Int)==0)=b2;revert b0 b1 b2;decide),id,id,id,(((hh.2 c_10).2 c_11).1 c_12).2.2.1,id,(by generalize (Z0 y_1 1)=b0;generalize (decide ((0:Int) < (o.l.length:Int)))=b1;generalize ((o.e.kind:Int)==0)=b2;generalize ((o.n:Int)==0)=b3;revert b0 b1 b2 b3;decide),(((hh.2 c_10).2 c_11).1 c_12).2.2.2⟩,fun c_12=> ⟨fun c_13=> ⟨id,id,id,(by generalize ((o.n:Int)==0)=b0;revert b0;decide),id,id,id,((((hh.2 c_10).2 c_11).2 c_12).1 c_13).1,(by generalize (((o.l.length:Int):Int)==0)=b0;generalize ((o.n:Int)==0)=b1;revert b0 b1;decide),id,id,id,((((hh.2 c_10).2 c_11).2 c_12).1 c_13).2.1,((((hh.2 c_10).2 c_11).2 c_12).1 c_13).2.2.1,(by generalize (Yz list y_1)=b0;generalize (((o.l.length:Int):Int)==0)=b1;generalize ((o.n:Int)==0)=b2;revert b0 b1 b2;decide),((((hh.2 c_10).2 c_11).2 c_12).1 c_13).2.2.2⟩,fun c_13=> ((((hh.2 c_10).2 c_11).2 c_12).2 c_13)⟩⟩⟩⟩)
def ZtC(N:Nat)(list:Int)(o:Op)(d:Int):Prop:=AW (Z1 (Zl4 N)) Try.f168 ZpP [] (Zn (Z4Z.can (list,o,d,())) []) (EQ Try.f168 (Z74 (list,o,d,())) [])
abbrev ZuS:Prop:=∀ (N:Nat) (list:Int) (o:Op) (d:Int) (_:Unit),Z2D (list,o,d,())→Z6J (list,o,d,()) < N+1→ZtC N list o d
def Zqk:List (FuncId × Fs U):=[(89,ZbF)]
def ZvY:Zh U:=lvl [([1],[1]),([2],[])]
abbrev W52(e:Edit)(Q:QT):=AW (Z1 Zqk) Try.f52 ZvY [] (L2 [(0,.agg (enc .edit e))] []) Q
theorem ZzX(e:Edit)(Q:QT)(h:(JM ((Edit.mk e.kind (Tree.mk e.old.kind e.old.words e.old.kids) (Tree.mk e.new.kind e.new.words e.new.kids) e.words e.kids e.list e.ops),64,()))∧(Q .ret (L2 [(2,.c (.bool (Z0 (Edit.mk e.kind (Tree.mk e.old.kind e.old.words e.old.kids) (Tree.mk e.new.kind e.new.words e.new.kids) e.words e.kids e.list e.ops) 64)))] []))):
  W52 e Q:=by
 have e_:(W52 e Q)=(type_of% h):=by kernel_rfl
 exact e_.mpr ⟨h.1,h.2⟩
def Zxv(e:Edit):Prop:=AW (Z1 Zqk) Try.f52 ZvY [] (Zn (Zr6.can (e,())) []) (EQ Try.f52 (Zup (e,())) [])
theorem ZvD(c89:CT 89 ZbF)(hb:∀ (e:Edit) (_:Unit),Zkt (e,())→Zxv e):CT 52 ZbN:=
 Z6 (l:=[(89,ZbF)]) Zo rfl (⟨c89,trivial⟩) ZvY Try.func52 rfl rfl 1 (fun _=> rfl) (by decide) (fun ⟨e,_⟩=> hb e ())
theorem Zsa(ZwD:CT 121 Z4x)(ZwC:CT 122 Z4w)(ZwB:CT 123 Z4v)(c92:CT 92 Z3q)(Zwo:CT 184 Z4t)(Zwl:CT 187 Z4s)(Zwr:CT 164 Z4u)(b89:Zzm)(ZwQ:ZuY)(ZwP:ZuX)(ZwL:ZuS):
  CT 89 ZbF∧CT 124 ZjX∧CT 125 ZjW∧CT 168 ZjR:=by
 have h87 : ∃ fn, Try.prog.funcs[(89 : FuncId)]? = some fn ∧ fn.body.isSome = true ∧ (fn.name == "runtime.NumGoroutine") = false := ⟨Try.f89, Try.func89, rfl, rfl⟩
 have h121 : ∃ fn, Try.prog.funcs[(124 : FuncId)]? = some fn ∧ fn.body.isSome = true ∧ (fn.name == "runtime.NumGoroutine") = false := ⟨Try.f124, Try.func124, rfl, rfl⟩
 have h122 : ∃ fn, Try.prog.funcs[(125 : FuncId)]? = some fn ∧ fn.body.isSome = true ∧ (fn.name == "runtime.NumGoroutine") = false := ⟨Try.f125, Try.func125, rfl, rfl⟩
 have h132 : ∃ fn, Try.prog.funcs[(168 : FuncId)]? = some fn ∧ fn.body.isSome = true ∧ (fn.name == "runtime.NumGoroutine") = false := ⟨Try.f168, Try.func168, rfl, rfl⟩
 have key:∀ N,CT 89 (fs Z7v (fun a=> [JM a,Z3z a < N]) Zca)∧CT 124 (fs Z51 (fun a=> [Z2F a,Z6L a < N]) Z5q)∧CT 125 (fs Z50 (fun a=> [Z2E a,Z6K a < N]) Z75)∧CT 168 (fs Z4Z (fun a=> [Z2D a,Z6J a < N]) Z74):=by
  intro N
  induction N with
  | zero=> exact ⟨Ja h87,Ja h121,Ja h122,Ja h132⟩
  | succ N ih=>
   have kn:=Z06 (l:=Z7q N) ⟨ih.1,ih.2.1,ih.2.2.1,ih.2.2.2,ZwD,ZwC,ZwB,c92,Zwo,Zwl,Zwr,trivial⟩
   exact ⟨ZB (Γ:=Z1 (Z7q N)) Zo rfl kn ZvP Try.func89 rfl rfl (fun a=> by show 2≤_;decide) (fun ⟨e,d,_⟩ h=> b89 N e d () h.1 h.2.1),
    ZB (Γ:=Z1 (Z7q N)) Zo rfl kn Z8s Try.func124 rfl rfl (fun a=> by show 2≤_;decide) (fun ⟨l,d,_⟩ h=> ZwQ N l d () h.1 h.2.1),
    ZB (Γ:=Z1 (Z7q N)) Zo rfl kn Z8r Try.func125 rfl rfl (fun a=> by show 2≤_;decide) (fun ⟨e,d,_⟩ h=> ZwP N e d () h.1 h.2.1),
    ZB (Γ:=Z1 (Z7q N)) Zo rfl kn ZpP Try.func168 rfl rfl (fun a=> by show 3≤_;decide) (fun ⟨list,o,d,_⟩ h=> ZwL N list o d () h.1 h.2.1)⟩
 exact ⟨Jb h87 fun N=> (key N).1,Jb h121 fun N=> (key N).2.1,Jb h122 fun N=> (key N).2.2.1,Jb h132 fun N=> (key N).2.2.2⟩
end
end
end Go.AM.Ytpjenobkibfpcaa
namespace Go.AM.Ytpjenobkibfpcaa
open Go.AM Go.Proofs
theorem Zmp{e:Edit}:(Z0 e 1=true∧e.kind=0)↔Z0V e=true:=by
 rw [Z3Q]
 simp only [Z0V,Bool.and_eq_true,decide_eq_true_eq]
 by_cases hk:e.kind=0
 ·rw [if_neg (by omega)]
  by_cases hb:ZT e.old=true∧ZT e.new=true
  ·by_cases hw:e.words.length=0∧e.kids.length=0
   ·by_cases hl:e.list=0∧e.ops.length=0
    ·have h1:e.words=[]:=List.length_eq_zero_iff.1 hw.1
     have h2:e.kids=[]:=List.length_eq_zero_iff.1 hw.2
     have h3:e.ops=[]:=List.length_eq_zero_iff.1 hl.2
     rw [if_neg (fun h=> by rcases h with h | h | h;exact h.2 hb;exact h.2 hw;omega),if_neg (by omega),h1,h2,h3]
     simp only [Zk,Zr,Zt,Z0d,Z0c,Bool.true_and,Bool.and_true,Bool.and_eq_true,decide_eq_true_eq]
     refine ⟨fun _=> ⟨⟨⟨hk,hb.1⟩,hb.2⟩,rfl,rfl,rfl,hl.1⟩,fun _=> by simp [hk]⟩
    ·rw [if_pos (Or.inr (Or.inr ⟨by omega,by omega⟩))]
     refine ⟨fun h=> (nomatch h.1),fun h=> absurd ⟨h.2.2.2.2,h.2.2.2.1⟩ hl⟩
   ·rw [if_pos (Or.inr (Or.inl ⟨by omega,hw⟩))]
    refine ⟨fun h=> (nomatch h.1),fun h=> absurd ⟨h.2.1,h.2.2.1⟩ hw⟩
  ·rw [if_pos (Or.inl ⟨by omega,hb⟩)]
   refine ⟨fun h=> (nomatch h.1),fun h=> absurd ⟨h.1.1.2,h.1.2⟩ hb⟩
 ·exact ⟨fun h=> absurd h.2 hk,fun h=> absurd h.1.1.1 hk⟩
theorem b89:Zzm:=by
 intro N e d _ hp hN
 simp only [JM,Z3z] at hp hN
 obtain ⟨⟨hm,hr⟩,hd0,hd1⟩:=hp
 obtain ⟨ik,ro,rn,rw',il,rk,ros⟩:=Z4A hr
 have hme:=Yr e
 have hkl:=Yi e.kids
 have hol:=massOs_len e.ops
 have hat:=Z3Q e d
 rw [Zlp hd0] at hat
 refine ZzC N e d _ ?_
 rintro y1 hy1 y2 hy2 y3 hy3
 subst hy1 hy2 hy3
 (simp only [vcS])
 have hbare:Z1B y1=true↔¬((y1.kind≠1∧¬(ZT y1.old=true∧ZT y1.new=true))∨(y1.kind≠2∧¬(y1.words.length=0∧y1.kids.length=0))∨(y1.kind≠3∧(y1.list≠0∨y1.ops.length≠0))):=by
  unfold Z1B
  split
  ·rename_i h;exact ⟨fun h=> (nomatch h),fun h2=> absurd h h2⟩
  ·rename_i h;exact ⟨fun _=> h,fun _=> rfl⟩
 refine ⟨by simp only [Z9s];omega,fun hc=> Z4 rfl ?_,fun hc=> ?_⟩
 ·rcases hc with hc | hc
  ·rw [hat]
   split
   ·try rfl
   ·rw [if_pos (Classical.byContradiction fun h=> by rw [hbare.2 h] at hc;cases hc)]
  ·rw [hat,if_pos (Or.inl hc)]
 have hb:=hbare.1 hc.1
 have hr2:¬(y1.kind=0∨y1.kind=1∨y1.kind=2∨y1.kind=3)→Z0 y1 d=false:=fun h=> by rw [hat,if_pos (by omega)]
 by_cases hk:y1.kind=0∨y1.kind=1∨y1.kind=2∨y1.kind=3
 ·rw [if_neg (by omega),if_neg hb] at hat
  have hw:y1.kind≠2→y1.words=[]∧y1.kids=[]:=by
   intro h
   have:y1.words.length=0∧y1.kids.length=0:=Classical.byContradiction fun h2=> hb (Or.inr (Or.inl ⟨h,h2⟩))
   exact ⟨List.length_eq_zero_iff.1 this.1,List.length_eq_zero_iff.1 this.2⟩
  have ho:y1.kind≠3→y1.list=0∧y1.ops=[]:=by
   intro h
   have:y1.list=0∧y1.ops.length=0:=by
    constructor
    ·exact Classical.byContradiction fun h2=> hb (Or.inr (Or.inr ⟨h,Or.inl h2⟩))
    ·exact Classical.byContradiction fun h2=> hb (Or.inr (Or.inr ⟨h,Or.inr h2⟩))
   exact ⟨this.1,List.length_eq_zero_iff.1 this.2⟩
  refine ⟨fun h0=> Z4 rfl ?_,fun h0=> ⟨fun h1=> ⟨by simp only [Z5w];exact ⟨by omega,ro⟩,fun _=> by simp only [Z5w];exact ⟨by omega,rn⟩,Z4 rfl ?_⟩,fun h1=> ⟨fun h2=> ⟨by simp only [Z9r];exact ⟨by omega,rw'⟩,fun _=> by unfold InR;omega,fun _=> by simp only [Z2F];exact ⟨⟨by omega,rk⟩,by omega,by omega⟩,fun _=> by simp only [Z6L];omega,Z4 rfl ?_⟩,fun h2=> ⟨fun h3=> ⟨trivial,fun _=> by unfold InR;omega,fun hl=> by simp only [Z2E];exact ⟨⟨by omega,hr,hl⟩,by omega,by omega⟩,fun _=> by simp only [Z6K];omega,Z4 rfl ?_⟩,fun h3=> ?_⟩⟩⟩⟩
  ·rw [hat,if_neg (by omega),(hw (by omega)).1,(hw (by omega)).2,(ho (by omega)).1,(ho (by omega)).2]
   simp [Zk,Zr,Zt,Z0d,Z0c]
   omega
  ·rw [hat,if_pos h1,Bool.eq_iff_iff]
   (simp only [vcS])
   exact ⟨fun h=> ⟨⟨h.1.2,h.2.2⟩,h.1.1,h.2.1⟩,fun h=> ⟨⟨h.2.1,h.1.1⟩,h.2.2,h.1.2⟩⟩
  ·rw [hat,if_neg h1,(ho (by omega)).1,(ho (by omega)).2,Bool.eq_iff_iff]
   simp only [Zt,Z0d,Z0c]
   (simp only [vcS])
   constructor
   ·rintro ⟨a,b⟩
    exact ⟨⟨⟨⟨a,b⟩,by omega⟩,trivial⟩,by decide⟩
   ·rintro ⟨⟨⟨⟨a,b⟩,_⟩,_⟩,_⟩
    exact ⟨a,b⟩
  ·rw [hat,if_neg h1,(hw (by omega)).1,(hw (by omega)).2,Bool.eq_iff_iff]
   simp only [Zk,Zr]
   (simp only [vcS])
   constructor
   ·rintro ⟨a,b,c⟩
    exact ⟨⟨⟨⟨trivial,trivial⟩,by omega⟩,b⟩,c⟩
   ·rintro ⟨⟨⟨_,a⟩,b⟩,c⟩
    exact ⟨by omega,b,c⟩
  ·omega
 ·have he:=hr2 hk
  refine ⟨fun h0=> by omega,fun h0=> ⟨fun h1=> by omega,fun h1=> ⟨fun h2=> by omega,fun h2=> ⟨fun h3=> by omega,fun h3=> Z4 rfl ?_⟩⟩⟩⟩
  rw [he]
theorem ZwQ:ZuY:=by
 intro N l d _ hp hN
 simp only [Z2F,Z6L] at hp hN
 obtain ⟨⟨hm,hr⟩,hd0,hd1⟩:=hp
 have hl:=Yi l
 refine Zym N l d _ ?_
 refine Ze (ι:=Int) (fun i=> Z2j l d i) (fun i=> 0≤i∧i≤l.length∧∃ last,-1≤last∧(i=0→last= -1)∧(0 < i→last=(l.getD (i - 1).toNat (KidOf.mk 0 Edit.nil)).at_)∧Zr last (l.drop i.toNat) d=Zr (-1) l d) (fun i=> ((l.length:Int) - i).toNat) 0 rfl ⟨by omega,by omega,-1,by omega,fun _=> rfl,fun h=> by omega,by simp⟩ ?_
 rintro i ⟨g1,g2,last,g3,g4,g5,g6⟩
 refine Zo0 N l d i _ _ ?_
 rintro y1 hy1 y2 hy2 y3 hy3
 (simp only [vcS])
 refine ⟨fun hi=> ?_,fun hi=> ?_⟩
 ·have hmem:=Zm (l:=l) (i:=i.toNat) (by omega) (KidOf.mk 0 Edit.nil)
  have hmk:=JX hmem
  have hrk:=YB hr hmem
  rw [YU g1 hi (KidOf.mk 0 Edit.nil)] at g6
  rw [←hy1] at g6 hmk hrk
  rw [←hy2] at g5
  rw [←hy3] at hmk hrk
  simp only [Zr,Z3e] at g6
  rw [←hy3] at g6
  have hk:y1.e.kind=y3.kind:=by rw [hy3]
  rw [hk]
  have gl:(¬0 < i∨¬y1.at_≤y2.at_)∧¬y1.at_ < 0↔last < y1.at_∧¬y1.at_ < 0:=by
   by_cases h0:0 < i
   ·have:=g5 h0;omega
   ·have:=g4 (by omega);omega
  refine ⟨⟨g1,hi⟩,fun _=> by unfold InR;omega,fun _=> by omega,fun _=> ?_,fun _=> by simp only [Z3z];omega,fun hc=> Z4 rfl ?_,fun hc=> ⟨by unfold InR;omega,i+1,rfl,⟨by omega,by omega,y1.at_,by omega,fun h=> by omega,fun _=> by rw [show (i+1 - 1).toNat=i.toNat by omega,←hy1],?_⟩,by omega⟩⟩
  ·simp only [JM]
   exact ⟨⟨by omega,hrk.2⟩,hd0,hd1⟩
  ·rw [←g6]
   by_cases hr:Z0 y3 d=true
   ·rw [decide_eq_false (fun h=> ?_)]
    ·try rfl
    ·rcases hc with hc | hc
     ·rcases hc with (hc | hc) | hc
      ·omega
      ·by_cases h0:0 < i
       ·have:=g5 h0;omega
       ·omega
      ·exact h.2.2 hc
     ·rw [hr] at hc;cases hc
   ·simp only [Bool.not_eq_true] at hr
    rw [hr];simp
  ·rw [←g6,hc.2,decide_eq_true (show last < y1.at_∧y1.at_≤65534∧y3.kind≠0 by
    refine ⟨?_,by omega,hc.1.2⟩
    by_cases h0:0 < i
    ·have:=g5 h0;omega
    ·have:=g4 (by omega);omega)]
   try rfl
 ·rw [List.drop_of_length_le (by omega)] at g6
  simp only [Z5q]
  rw [←g6]
  exact Z4 rfl rfl
theorem Z6E{list d:Int}:∀ {os:List Op},(∀ o∈os,Za list o d=true)→Zt list os d=true
 | [],_=> rfl
 | o ::r,h=> by
  simp only [Zt,Bool.and_eq_true]
  exact ⟨h o (List.mem_cons_self ..),Z6E (fun x hx=> h x (List.mem_cons_of_mem _ hx))⟩
theorem ZwP:ZuX:=by
 intro N e d _ hp hN
 simp only [Z2E,Z6K] at hp hN
 obtain ⟨⟨hm,hr,hl⟩,hd0,hd1⟩:=hp
 obtain ⟨ik,ro,rn,rw',il,rk,ros⟩:=Z4A hr
 have hme:=Yr e
 have hol:=massOs_len e.ops
 refine Zyl N e d _ ?_
 refine Ze (ι:=Int) (fun i=> Z2i e d i) (fun i=> 0≤i∧i≤e.ops.length∧∀ o∈e.ops.take i.toNat,Za e.list o d=true) (fun i=> ((e.ops.length:Int) - i).toNat) 0 rfl ⟨by omega,by omega,by simp⟩ ?_
 rintro i ⟨g1,g2,g3⟩
 refine ZnZ N e d i _ _ ?_
 rintro y1 hy1 y2 hy2 y3 hy3
 subst hy1 hy3
 (simp only [vcS])
 refine ⟨fun hi=> ?_,fun hi=> ?_⟩
 ·have hmem:=Zm (l:=y1.ops) (i:=i.toNat) (by omega) Op.nil
  have hmo:=Yq hmem
  have hro:=JE ros hmem
  rw [←hy2] at hmem hmo hro
  refine ⟨⟨g1,hi⟩,?_,by simp only [Z6J];omega,fun hc=> Z4 rfl ?_,fun hc=> ⟨by unfold InR;omega,i+1,rfl,⟨by omega,by omega,fun o ho=> ?_⟩,by omega⟩⟩
  ·simp only [Z2D]
   exact ⟨⟨by omega,hro,hl⟩,hd0,hd1⟩
  ·have:Zt y1.list y1.ops d=false:=by
    rw [←Bool.not_eq_true]
    intro h
    have:=rightOs_mem h hmem
    rw [hc] at this;cases this
   rw [this,Bool.false_and]
  ·rw [show (i+1).toNat=i.toNat+1 by omega,List.take_add_one] at ho
   rcases List.mem_append.1 ho with ho | ho
   ·exact g3 o ho
   ·have e:y1.ops[i.toNat]?=some y3:=by
     rw [hy2]
     simp [List.getD,List.getElem?_eq_getElem (show i.toNat < y1.ops.length by omega)]
    rw [e] at ho
    simp only [Option.toList_some,List.mem_singleton] at ho
    subst ho
    exact hc
 ·rw [List.take_of_length_le (by omega)] at g3
  have hall:Zt y1.list y1.ops d=true:=Z6E g3
  have hb:∀ o∈y1.ops,(0≤o.n∧o.n≤1048576)∧o.l.length≤20000000000:=by
   intro o ho
   refine ⟨Z26 (g3 o ho),?_⟩
   have h1:=Yq ho
   rw [ZW] at h1
   have h2:=ZD o.l
   omega
  refine ⟨by simp only [Z9m];omega,Z4 rfl ?_⟩
  rw [ZhF _ _ hb (by decide) (by decide),ZhE _ _ hb (by decide) (by decide),hall,Bool.true_and]
  by_cases h1:Z0d y1.ops 0 < 1048576 <;> by_cases h2:Z0c y1.ops 0 < 1048576 <;> simp [h1,h2]
theorem ZwL:ZuS:=by
 intro N list o d _ hp hN
 simp only [Z2D,Z6J] at hp hN
 obtain ⟨⟨hm,hr,hil⟩,hd0,hd1⟩:=hp
 obtain ⟨ik,inn,rl,re⟩:=Z04 hr
 rw [ZW] at hm hN
 have hll:=ZD o.l
 have hep:=Z40 o.e
 have hat:=Jt list o d
 rw [Zlp hd0,Z9a] at hat
 have hs:=Zmp (e:=o.e)
 refine Zy2 N list o d _ ?_
 rintro y1 hy1 y2 hy2
 subst hy1
 (simp only [vcS])
 have hp87:JM (o.e,1,()):=by simp only [JM];exact ⟨⟨by omega,re⟩,by omega,by omega⟩
 have hm87:Z3z (o.e,1,()) < N:=by simp only [Z3z];omega
 have hp135:Z4G (o.l,(list,()),()):=by simp only [Z4G];exact ⟨by omega,rl,by unfold isI;omega⟩
 have h12:o.kind=1∨o.kind=2→y2= .bool (Za list o d):=by
  intro hk
  rw [hy2,hat,if_neg (by omega)]
  congr 1
  rw [Bool.eq_iff_iff]
  (simp only [vcS])
  by_cases hn:o.n=0
  ·rw [if_neg (by omega),if_pos (by omega)]
   (simp only [vcS])
   constructor
   ·rintro ⟨⟨⟨⟨h1,h2⟩,h3⟩,h4⟩,h5⟩
    exact ⟨⟨h5,by omega⟩,hs.1 ⟨h3,h4⟩⟩
   ·rintro ⟨⟨h5,h2⟩,h3⟩
    have:=hs.2 h3
    exact ⟨⟨⟨⟨hn,by omega⟩,this.1⟩,this.2⟩,h5⟩
  ·rw [if_pos (by omega)]
   exact ⟨fun h=> absurd h.1.1.1.1 hn,fun h=> (nomatch h)⟩
 refine ⟨fun hk=> ⟨fun _=> hp87,fun _=> hm87,Z4 rfl ?_⟩,fun hk=> ⟨fun hk1=> ⟨fun _=> hp87,fun _=> hm87,fun _=> hp135,?_⟩,fun hk1=> ⟨fun hk2=> ⟨fun _=> hp87,fun _=> hm87,fun _=> hp135,?_⟩,fun hk2=> ⟨fun hk3=> ⟨fun _=> trivial,fun _=> ?_,fun _=> by simp only [Z3z];omega,Z4 rfl ?_⟩,fun hk3=> Z4 rfl ?_⟩⟩⟩⟩
 ·rw [hat,if_pos hk,Bool.eq_iff_iff]
  (simp only [vcS])
  constructor
  ·rintro ⟨⟨⟨h1,h2⟩,h3⟩,h4⟩
   exact ⟨⟨h1.1,h1.2,by omega⟩,hs.1 ⟨h3,h4⟩⟩
  ·rintro ⟨⟨h1,h2,h3⟩,h4⟩
   have:=hs.2 h4
   exact ⟨⟨⟨⟨h1,h2⟩,by omega⟩,this.1⟩,this.2⟩
 ·rw [h12 (Or.inl hk1)]
  exact Z4 rfl rfl
 ·rw [h12 (Or.inr hk2)]
  exact Z4 rfl rfl
 ·simp only [JM];exact ⟨⟨by omega,re⟩,hd0,hd1⟩
 ·rw [hat,if_neg hk,Bool.eq_iff_iff]
  by_cases hn:o.n=0
  ·rw [if_neg (by omega),if_neg (by omega)]
   have hw:Yz list o.e=true↔(o.e.kind≠0∧7 < list)∧(list=8∨o.e.kind=2∨o.e.kind=1∧o.e.old.kind=1∧o.e.new.kind=1):=by
    unfold Yz
    split
    ·exact ⟨fun h=> (nomatch h),fun h=> by omega⟩
    ·split
     ·exact ⟨fun _=> ⟨by omega,by omega⟩,fun _=> rfl⟩
     ·rw [decide_eq_true_eq]
      exact ⟨fun h=> ⟨by omega,Or.inr (Or.inr h)⟩,fun h=> by omega⟩
   (simp only [vcS])
   rw [hw]
   constructor
   ·rintro ⟨⟨h1,h2⟩,h3⟩
    exact ⟨⟨⟨by omega,h2.1⟩,h3⟩,h2.2⟩
   ·rintro ⟨⟨⟨h1,h2⟩,h3⟩,h4⟩
    exact ⟨⟨⟨hn,by omega⟩,h2,h4⟩,h3⟩
  ·rw [if_pos (by omega)]
   (simp only [vcS])
   exact ⟨fun h=> absurd h.1.1.1 hn,fun h=> (nomatch h)⟩
 ·rw [hat,if_neg hk]
  by_cases hn:o.n≠0∨o.kind < 0∨3 < o.kind
  ·rw [if_pos hn]
  ·exfalso;omega
theorem ZAa:Contract Try.prog cfg 89 ZbF∧Contract Try.prog cfg 124 ZjX∧Contract Try.prog cfg 125 ZjW∧Contract Try.prog cfg 168 ZjR:=
 Zsa ZwD ZwC ZwB c92 Zwo Zwl Zwr b89 ZwQ ZwP ZwL
theorem c52:Contract Try.prog cfg 52 ZbN:=by
 refine ZvD ZAa.1 ?_
 intro e _ hp
 simp only [Zkt] at hp
 refine ZzX _ _ ?_
 (simp only [Tree.eta,Edit.eta,Tree.kind_mk,Tree.words_mk,Tree.kids_mk])
 refine ⟨by simp only [JM];exact ⟨hp,by omega,by omega⟩,?_⟩
 exact Z4 rfl rfl
end Go.AM.Ytpjenobkibfpcaa
namespace Go.AM.Ytpjenobkibfpcaa
open Go.AM Go.Proofs
noncomputable section
def Zra:ArgL (Edit × Edit × Unit):=(.cons (aEl .edit) (.cons (aEl .edit) .nil))
def Zkv(a:Edit × Edit × Unit):Prop:=Z1R a.1∧Z1R a.2.1
def Zkj(a:Edit × Edit × Unit):V U:= .tup [(true,(enc .edit ((Z4U a.1 a.2.1).1))),(false,[.bool ((Z4U a.1 a.2.1).2)])]
def Z5g:Fs U:=fs Zra (fun a=> [Zkv a]) Zkj
def Zqo:List (FuncId × Fs U):=[(60,Z9e),(57,Z5e)]
def Zw2:Zh U:=lvl [([2,3,4],[2,3,4]),([4,6,7],[4,6]),([4,6,15],[4,6]),([4,5],[4]),([4,5],[4])]
abbrev A21(p:List Nat):=AW (Z1 Zqo) Try.f21 Zw2 p
theorem ZA4(p q:Edit)(Q:QT)(h:∀ y_1,y_1=p→∀ y_2,y_2=q→∀ y_3,y_3=((Y5 y_1 y_2).1)→((Z54 (y_1,y_2,()))∧(((!((Y5 y_1 y_2).2))=true→(Q .ret (L2 [(4,.ptr (.loc 4) 0),(5,.c (.bool false))] [(.loc 4,zc1)])))∧((!((Y5 y_1 y_2).2))=false→(Z1H (y_3,()))∧(Q .ret (L2 [(4,.ptr (.loc 4) 0),(5,.c (.bool true))] [(.loc 4,(enc .edit (ZR y_3)))])))))):
  A21 [] (L2 [(0,.agg (enc .edit p)),(1,.agg (enc .edit q))] []) Q:=
 Eq.mpr (by kernel_rfl) (h _ (Zf _) _ (Zf _) _ (Zf _))
def ZxC(p q:Edit):Prop:=AW (Z1 Zqo) Try.f21 Zw2 [] (Zn (Zra.can (p,q,())) []) (EQ Try.f21 (Zkj (p,q,())) [])
theorem ZvI(c60:CT 60 Z9e)(c57:CT 57 Z5e)(hb:∀ (p:Edit) (q:Edit) (_:Unit),Zkv (p,q,())→ZxC p q):CT 21 Z5g:=
 Z6 (l:=[(60,Z9e),(57,Z5e)]) Zo rfl (⟨c60,c57,trivial⟩) Zw2 Try.func21 rfl rfl 2 (fun _=> rfl) (by decide) (fun ⟨p,q,_⟩=> hb p q ())
end
end Go.AM.Ytpjenobkibfpcaa
namespace Go.AM.Ytpjenobkibfpcaa
open Go.AM Go.Proofs
theorem Zkn{e:Edit}(h:Z1R e):Wk e:=by obtain ⟨d,hr⟩:=h.2.2;exact .of hr h.2.1
theorem ZeA{p q:Edit}(hp:Z1R p)(hq:Z1R q):ComWk True (Y5 p q) p q:=Zwe _ p q (Nat.le_refl _) (Zkn hp) (Zkn hq)
theorem Ztg{p q:Edit}(hp:Z1R p)(hq:Z1R q)(h:(Y5 p q).2=true):Z1H ((Y5 p q).1,()):=by
 have H:=ZeA hp hq
 have:=H.ct trivial h
 have:=Z8o (Y5 p q).1
 have:=hp.1
 have:=hq.1
 exact ⟨by dsimp only;omega,-1,(H.wk h).r⟩
theorem c21:Contract Try.prog cfg 21 Z5g:=by
 refine ZvI c60 ZqJ.1 ?_
 intro p q _ hp
 refine ZA4 _ _ _ ?_
 intro y1 h1 y2 h2 y3 h3
 subst h1 h2
 (simp only [vcT,vcS])
 refine ⟨hp,fun hc=> ?_,fun hc=> ?_⟩
 ·refine Z07 (r':= .tup [(true,enc .edit Edit.nil),(false,[.bool false])]) ?_ (by (repeat' (first | exact trivial | exact rfl | apply And.intro)))
  simp only [Zkj,Z4U]
  rw [if_neg (by rw [hc];decide)]
  try rfl
 ·refine ⟨by rw [h3];exact Ztg hp.1 hp.2 hc,Z07 (r':= .tup [(true,enc .edit (ZR y3)),(false,[.bool true])]) ?_ (by (repeat' (first | exact trivial | exact rfl | apply And.intro)))⟩
  simp only [Zkj,Z4U]
  rw [if_pos hc,h3]
  try rfl
theorem ZmK{f g:Nat→Int}(h:∀ i,i < 8→f i=g i):of8 f=of8 g:=by
 unfold of8
 rw [h 0 (by omega),h 1 (by omega),h 2 (by omega),h 3 (by omega),h 4 (by omega),h 5 (by omega),h 6 (by omega),h 7 (by omega)]
end Go.AM.Ytpjenobkibfpcaa
namespace Go.AM.Ytpjenobkibfpcaa
open Go.AM Go.Proofs
theorem kids_sum:∀ {l:List Op},(∀ o∈l,YI o)→Z3D l≤J8 l+Jn l
 | [],_=> by simp [Z3D,J8,Jn]
 | o ::r,h=> by
  have h1:=YV (h o List.mem_cons_self)
  have h2:=kids_sum fun x hx=> h x (List.mem_cons_of_mem _ hx)
  simp only [Z3D,J8,Jn]
  split <;> split <;> omega
end Go.AM.Ytpjenobkibfpcaa
namespace Go.AM.Ytpjenobkibfpcaa
open Go.AM Go.Proofs
noncomputable section
def Zrb:ArgL Unit:= .nil
def Zck(a:Unit):Prop:=True
def Zur(a:Unit):V U:= .c (.bool true)
def ZbS:Fs U:=fs Zrb (fun a=> [Zck a]) Zur
def Zr5:ArgL (Tree × Unit):=(.cons (aEl .tree) .nil)
def Zhb(a:Tree × Unit):Prop:=JK a.1∧rng a.1
def Zuo(a:Tree × Unit):V U:= .c (.bool (ZaI a.1))
def ZbM:Fs U:=fs Zr5 (fun a=> [Zhb a]) Zuo
def Zqp:List (FuncId × Fs U):=[(21,Z5g)]
def Zw3:Zh U:=lvl [([],[]),([1],[]),([1,2],[2]),([2,3],[2,3]),([4,5],[4]),([0],[])]
abbrev A20(p:List Nat):=AW (Z1 Zqp) Try.f20 Zw3 p
theorem ZA5(Q:QT)(h:∀ y_1,y_1=(Edit.mk 0 (Tree.mk 0 [] []) (Tree.mk 0 [] []) [] [] 0 [])→∀ y_2,y_2=(Edit.mk 3 (Tree.mk 0 [] []) (Tree.mk 0 [] []) [] [] 4 ([(OpOf.mk 1 0 ([(Tree.mk 10 ([1]) [])]) y_1),(OpOf.mk 0 1 [] y_1)]))→∀ y_3,y_3=(Edit.mk 3 (Tree.mk 0 [] []) (Tree.mk 0 [] []) [] [] 4 ([(OpOf.mk 2 0 ([(Tree.mk 10 ([1]) [])]) y_1),(OpOf.mk 0 1 [] y_1)]))→∀ y_4,y_4=(List.getD (Edit.ops ((Z4U y_3 y_2).1)) (Int.toNat 0) Op.nil)→let z3:=Edit.ops ((Z4U y_3 y_2).1);let z1:=bif ((Z4U y_3 y_2).2) then (((Edit.kind ((Z4U y_3 y_2).1)):Int)==3) else false;let z0:=bif z1 then (((z3.length:Int):Int)==1) else false;let z2:=bif z0 then (y_4.kind==0) else false;((Zkv (y_3,y_2,()))∧((Tr (((Z4U y_3 y_2).2)=true))∧(Tr (((Z4U y_3 y_2).2)=true))∧(Tr (((Z4U y_3 y_2).2)=true))∧(Tr (z1=true))∧(Tr (z1=true))∧(Tr (z1=true))∧(Tr (z1=true))∧(Tr (z0=true))∧(Tr (z0=true))∧(z0=true→(0:Int)≤0∧0 < (z3.length:Int))∧(Tr (z0=true))∧(Tr (z0=true))∧(Tr (z0=true))∧(Tr (z0=true))∧(Tr (z2=true))∧(Tr (z2=true))∧(z2=true→(0:Int)≤0∧0 < (z3.length:Int))∧(Tr (z2=true))∧(Tr (z2=true))∧(Tr (z2=true))∧(Tr (z2=true))∧(Q .ret (L2 [(0,.c (.bool (bif z2 then (y_4.n==1) else false)))] []))))):
  A20 [] (L2 [] []) Q:=
 Eq.mpr (by kernel_rfl) (h _ rfl _ rfl _ rfl _ rfl)
def ZxD:Prop:=AW (Z1 Zqp) Try.f20 Zw3 [] (Zn (Zrb.can ()) []) (EQ Try.f20 (Zur ()) [])
theorem ZvJ(c21:CT 21 Z5g)(hb:∀ (_:Unit),Zck ()→ZxD):CT 20 ZbS:=
 Z6 (l:=[(21,Z5g)]) Zo rfl (⟨c21,trivial⟩) Zw3 Try.func20 rfl rfl 0 (fun _=> rfl) (by decide) (fun _=> hb ())
def Zqj:List (FuncId × Fs U):=[(36,ZbP),(37,Z4r)]
def ZvX:Zh U:=lvl [([1],[1]),([2],[])]
abbrev A53(p:List Nat):=AW (Z1 Zqj) Try.f53 ZvX p
theorem ZzW(t:Tree)(Q:QT)(h:let z2:=Tree.mk t.kind t.words t.kids;let z1:=decide (0≤ZH z2 80 3000);let z0:=bif z1 then (Z9 z2 64) else false;((Zku (z2,()))∧(Tr (z1=true))∧(z1=true→Z55 (z2,64,()))∧(Tr (z1=true))∧(Tr (z0=true))∧(Tr (z0=true))∧(Tr (z0=true))∧(Q .ret (L2 [(2,.c (.bool (bif z0 then (t.kind !=10) else false)))] [])))):
  A53 [] (L2 [(0,.agg (enc .tree t))] []) Q:=
 Eq.mpr (by kernel_rfl) h
def Zxu(t:Tree):Prop:=AW (Z1 Zqj) Try.f53 ZvX [] (Zn (Zr5.can (t,())) []) (EQ Try.f53 (Zuo (t,())) [])
theorem ZvC(c36:CT 36 ZbP)(c37:CT 37 Z4r)(hb:∀ (t:Tree) (_:Unit),Zhb (t,())→Zxu t):CT 53 ZbM:=
 Z6 (l:=[(36,ZbP),(37,Z4r)]) Zo rfl (⟨c36,c37,trivial⟩) ZvX Try.func53 rfl rfl 1 (fun _=> rfl) (by decide) (fun ⟨t,_⟩=> hb t ())
end
end Go.AM.Ytpjenobkibfpcaa
namespace Go.AM.Ytpjenobkibfpcaa
open Go.AM Go.Proofs
theorem Zqv{t:Tree}(h:ZaI t=true)(hr:rng t):Zq t≤20000000000∧RT_ t∧Z9 t 64=true∧t.kind≠10:=by
 unfold ZaI at h
 simp only [Bool.and_eq_true,decide_eq_true_eq] at h
 exact ⟨Zev h.1.1,⟨⟨64,h.1.2⟩,hr⟩,h.1.2,h.2⟩
theorem ZyP{t:Tree}(h:ZaI t=true):Zq t≤3000:=by
 unfold ZaI at h
 simp only [Bool.and_eq_true,decide_eq_true_eq] at h
 have:=Z0D t 80 3000 h.1.1
 omega
theorem Zqu{e:Edit}(h:Z0u e=true):Zc e≤3000∧Z0 e 64=true:=by
 simp only [Z0u,Bool.and_eq_true,decide_eq_true_eq] at h
 exact ⟨Z9J h.1.1,h.1.2⟩
end Go.AM.Ytpjenobkibfpcaa
namespace Go.AM.Ytpjenobkibfpcaa
open Go.AM Go.Proofs
mutual
theorem Z1d:∀ t:Tree,Zq t≤17592186044416→JK t
 | .mk k w ks,h=> by
  simp only [Zq] at h
  have:=ZD ks
  exact ⟨by omega,by omega,Z5h ks (by omega)⟩
theorem Z5h:∀ l:List Tree,Zg l≤17592186044416→JQ l
 | [],_=> trivial
 | t ::r,h=> by
  simp only [Zg] at h
  exact ⟨Z1d t (by omega),Z5h r (by omega)⟩
end
end Go.AM.Ytpjenobkibfpcaa
namespace Go.AM.Ytpjenobkibfpcaa
open Go.AM Go.Proofs
def Zdh:Tree:= .mk 10 [1] []
def JJ(k:Int):Edit:= .mk 3 Tree.nil Tree.nil [] [] 4 [⟨k,0,[Zdh],Edit.nil⟩,⟨0,1,[],Edit.nil⟩]
theorem Z4O(k:Int)(h:k=1∨k=2):Z0 (JJ k) 64=true:=by rcases h with rfl | rfl <;> rfl
theorem Zjl(k:Int)(h:k=1∨k=2):ZS (JJ k):=by
 have z:=Jj
 have i0:isI 0:=Jp (by decide) (by decide)
 have zn:ZS Edit.nil:=⟨i0,z,z,by simp,i0,trivial,trivial⟩
 refine ⟨Jp (by decide) (by decide),z,z,by simp,Jp (by decide) (by decide),trivial,⟨?_,i0,⟨⟨by decide,?_,trivial⟩,trivial⟩,zn⟩,⟨i0,Jp (by decide) (by decide),trivial,zn⟩,trivial⟩
 ·unfold isI;omega
 ·intro x hx
  rw [List.mem_singleton.1 hx];decide
theorem Zjm:Z4U (JJ 2) (JJ 1)=(.mk 3 Tree.nil Tree.nil [] [] 4 [⟨0,1,[],Edit.nil⟩],true):=by
 have hp:Y4 1 2 (JJ 2).ops (JJ 1).ops []=([⟨0,⟨2,0,[Zdh],Edit.nil⟩,⟨1,0,[Zdh],Edit.nil⟩⟩,⟨0,⟨0,1,[],Edit.nil⟩,⟨0,1,[],Edit.nil⟩⟩],true,[],[]):=by
  have e1:∀ k,(JJ k).ops=[⟨k,0,[Zdh],Edit.nil⟩,⟨0,1,[],Edit.nil⟩]:=fun _=> rfl
  rw [e1,e1,Y4,dif_neg (by simp [sgl]),dif_neg (by simp [sgl]),dif_neg (by simp)]
  simp only [List.getD_cons_zero,Z2]
  simp only [ZP,Y2,Z2]
  simp
  rw [Y4,dif_neg (by simp [sgl]),dif_neg (by simp [sgl]),dif_neg (by simp)]
  simp [ZP,Y2,Z2]
  rw [Y4,dif_neg (by simp [sgl]),dif_neg (by simp [sgl]),dif_pos (by simp)]
  simp
 have hc:Y5 (JJ 2) (JJ 1)=(.mk 3 Tree.nil Tree.nil [] [] 4 [⟨0,1,[],Edit.nil⟩],true):=by
  rw [ZeC (Z4O 2 (.inr rfl)) (Z4O 1 (.inl rfl))]
  have hco:Z08 Y5 (JJ 2).ops (JJ 1).ops=some [⟨0,1,[],Edit.nil⟩]:=by
   unfold Z08
   rw [hp,if_pos rfl]
   have c1:ZF Y5 ⟨0,⟨2,0,[Zdh],Edit.nil⟩,⟨1,0,[Zdh],Edit.nil⟩⟩=⟨Op.nil,false,true⟩:=by
    unfold ZF
    rw [if_neg (by simp),if_neg (by simp),if_pos (by simp)]
    congr 1
    exact ZhS rfl
   have c2:ZF Y5 ⟨0,⟨0,1,[],Edit.nil⟩,⟨0,1,[],Edit.nil⟩⟩=⟨⟨0,1,[],Edit.nil⟩,true,true⟩:=by
    unfold ZF
    rw [if_pos (by simp)]
   rw [JN,c1,if_pos rfl,JN,c2,if_pos rfl,JN]
   try rfl
  unfold Jx
  have k:∀ n,(JJ n).kind=3∧(JJ n).list=4:=fun _=> ⟨rfl,rfl⟩
  rw [if_neg (by rw [(k 2).1];decide),if_neg (by rw [(k 1).1];decide),if_neg (by rw [(k 2).1];decide),if_neg (by rw [(k 1).1];decide),if_neg (by rw [(k 1).1,(k 2).1,(k 1).2,(k 2).2];decide),if_neg (by rw [(k 2).1];decide),hco]
  try rfl
 unfold Z4U
 rw [hc,if_pos rfl,Zvh]
 try rfl
theorem Zh5(k:Int)(h:k=1∨k=2):Z1R (JJ k):=⟨by show ctE (JJ k)≤_;simp [ctE,Z0i,YS,Z1Y,JJ,Zq,Zg,Tree.nil,Edit.nil,Zdh],Zjl k h,64,Z4O k h⟩
theorem c20:Contract Try.prog cfg 20 ZbS:=by
 refine ZvJ c21 ?_
 intro _ _
 refine ZA5 _ ?_
 intro y1 h1 y2 h2 y3 h3 y4 h4
 have e1:y1=Edit.nil:=h1
 subst e1
 have e2:y2=JJ 1:=h2
 have e3:y3=JJ 2:=h3
 subst e2 e3
 rw [Zjm] at h4 ⊢
 have e4:y4=⟨0,1,[],Edit.nil⟩:=h4
 subst e4
 refine ⟨⟨Zh5 2 (.inr rfl),Zh5 1 (.inl rfl)⟩,?_⟩
 simp only [Tr]
 repeat' (first | exact (fun x=> x) | exact (fun _=> ⟨by decide,by decide⟩) | exact Z4 rfl rfl | apply And.intro)
theorem c53:Contract Try.prog cfg 53 ZbM:=by
 refine ZvC c36 c37 ?_
 intro t _ hp
 simp only [Zhb] at hp
 refine ZzW _ _ ?_
 (simp only [Tree.eta,Edit.eta,Tree.kind_mk,Tree.words_mk,Tree.kids_mk])
 (simp only [vcT,vcS])
 refine ⟨by simp only [Zku];exact hp.1,fun h=> by simp only [Z55];exact ⟨Nat.le_trans (Zev h) (by decide),hp.2,by omega,by omega⟩,Z4 rfl ?_⟩
 unfold ZaI
 rw [Bool.eq_iff_iff]
 simp only [Zjt,Bool.and_eq_true,decide_eq_true_eq,bne_iff_ne]
theorem ZhO{e:Edit}(h:Z0u e=true)(g:ZS e):refOk e∧Zc e≤3000∧Z0 e 64=true:=by
 obtain ⟨m,r⟩:=Zqu h
 have hl:Z0O e=true:=by
  simp only [Z0u,Bool.and_eq_true] at h
  exact h.2
 have:=Zog _ e (Nat.le_refl _) ⟨64,r⟩ hl
 exact ⟨⟨by omega,g,64,r⟩,m,r⟩
end Go.AM.Ytpjenobkibfpcaa
namespace Go.AM.Ytpjenobkibfpcaa
open Go.AM Go.Proofs
theorem Zby:∀ {ws:List WEdit} {last:Int} {out:List Int},-1≤last→Zk last ws=true→(∀ j:Nat,(j:Int)≤last→(Z1m ws out).getD j 0=out.getD j 0)∧∀ w∈ws,(Z1m ws out).getD w.at_.toNat 0=w.old
 | [],last,out,_,_=> ⟨fun _ _=> rfl,fun w h=> by cases h⟩
 | w ::r,last,out,hl,h=> by
  have h1:=Y8 h w List.mem_cons_self
  have h2:Zk w.at_ r=true:=by simp only [Zk,Bool.and_eq_true] at h;exact h.2
  obtain ⟨i1,i2⟩:=Zby (out:=ZV 0 out w.at_.toNat w.old) (by omega) h2
  refine ⟨fun j hj=> ?_,fun x hx=> ?_⟩
  ·rw [Z1m,i1 j (by omega),Yu,if_neg (by omega)]
  ·rw [Z1m]
   rcases List.mem_cons.1 hx with rfl | hx
   ·rw [i1 _ (by omega),Yu,if_pos rfl]
   ·exact i2 x hx
theorem Z9X{d:Int}:∀ {ks:List Kid} {last:Int} {out:List Tree},-1≤last→Zr last ks d=true→(∀ j:Nat,(j:Int)≤last→(Js ks out).getD j Tree.nil=out.getD j Tree.nil)∧∀ k∈ks,(Js ks out).getD k.at_.toNat Tree.nil=Z0C k.e
 | [],last,out,_,_=> ⟨fun _ _=> rfl,fun w h=> by cases h⟩
 | k ::r,last,out,hl,h=> by
  obtain ⟨h1,h2,h3⟩:=Z0G h
  obtain ⟨i1,i2⟩:=Z9X (out:=ZV Tree.nil out k.at_.toNat (Z0C k.e)) (by omega) h3
  refine ⟨fun j hj=> ?_,fun x hx=> ?_⟩
  ·rw [Js,Z4j,i1 j (by omega),Yu,if_neg (by omega)]
  ·rw [Js,Z4j]
   rcases List.mem_cons.1 hx with rfl | hx
   ·rw [i1 _ (by omega),Yu,if_pos rfl]
   ·exact i2 x hx
theorem ZiT{w m:Int}(h:ZK w m=true)(hw:isW w):mix 0 w m=w:=by
 have e:of8 (Zd (mix 0 w m))=of8 (Zd w):=ZmK fun i hi=> by
  rw [Jv hi]
  cases hn:YC m (i:Int) with
  | true=> rfl
  | false=>
   rw [Z1l h hi hn]
   simp [Zd]
 rw [Z3T (Z0s _ _ _),Z3T hw] at e
 exact e
theorem Zgs{tw:List Int}:∀ {ws:List WEdit} {out:List Int},(∀ w∈ws,tw.getD w.at_.toNat 0=w.old∧ZK w.old w.mask=true∧isW w.old)→∃ a,wsD tw ws out=some a
 | [],out,_=> ⟨out,rfl⟩
 | w ::r,out,h=> by
  obtain ⟨h1,h2,h3⟩:=h w List.mem_cons_self
  rw [wsD,h1,if_pos (ZiT h2 h3)]
  exact Zgs fun x hx=> h x (List.mem_cons_of_mem _ hx)
theorem ZeU:∀ (n:Nat) (e:Edit) (d:Int),Zc e≤n→Z0 e d=true→ZS e→∃ v,doE false e (Z0C e)=some v
 | 0,e,d,hn,_,_=> by
  have:3≤Zc e:=Z5J e
  omega
 | n+1,e,d,hn,hr,hg=> by
  have ra:=Zp hr
  have ga:=Yg hg
  by_cases k0:e.kind=0
  ·exact ⟨_,ZqD k0 _⟩
  ·by_cases k1:e.kind=1
   ·refine ⟨e.new,?_⟩
    rw [Znh k1,Z1o,if_pos k1,ZbZ,if_pos rfl]
   ·by_cases k2:e.kind=2
    ·rw [Zng k2,Z1o,if_neg k1,if_pos k2,if_pos (by rfl)]
     simp only [Tree.words_mk,Tree.kids_mk]
     have hw:=(Zby (out:=[]) (Int.le_refl _) ra.words).2
     obtain ⟨a,ha⟩:=Zgs (tw:=Z1m e.words []) (out:=Z1m e.words []) (ws:=e.words) fun w hx=> ⟨hw w hx,(Y8 ra.words w hx).2.2.2.1,(ga.2.2.1 w hx).2.2.1⟩
     rw [ha]
     have hk:=(Z9X (out:=[]) (Int.le_refl _) ra.kids).2
     have hkd:∀ (ks:List Kid) (out:List Tree),(∀ k∈ks,k∈e.kids)→∃ b,Jf false (Js e.kids []) ks out=some b:=by
      intro ks
      induction ks with
      | nil=> intro out _;exact ⟨out,rfl⟩
      | cons k r ih=>
       intro out h
       have hm:=h k List.mem_cons_self
       have hlt:=J4 hm
       obtain ⟨v,hv⟩:=ZeU n k.e (d - 1) (by omega) (ZG ra.kids k hm).2 (YB ga.2.2.2.1 hm).2
       rw [Jf,Z4a,hk k hm,hv,Option.bind_some]
       exact ih _ fun x hx=> h x (List.mem_cons_of_mem _ hx)
     obtain ⟨b,hb⟩:=hkd e.kids (Js e.kids []) fun _ h=> h
     rw [hb]
     exact ⟨_,rfl⟩
    ·have k3:e.kind=3:=by have:=ra.kind;omega
     rw [Znf k3,Z1o,if_neg k1,if_neg k2,if_pos k3,if_pos (by rfl)]
     simp only [Tree.kids_mk]
     have hops:=Z0y.1 ra.ops
     have hrun:∀ (os:List Op),(∀ o∈os,o∈e.ops)→∃ x,Run os (Z09 e.list os) x:=by
      intro os
      induction os with
      | nil=> intro _;exact ⟨[],.nil⟩
      | cons o r ih=>
       intro h
       obtain ⟨x,hx⟩:=ih fun x hx=> h x (List.mem_cons_of_mem _ hx)
       have hm:=h o List.mem_cons_self
       have hro:=hops o hm
       rw [Z09,Z3I]
       by_cases q1:o.kind=1
       ·rw [if_pos q1]
        exact ⟨x,.gone q1 rfl hx⟩
       ·rw [if_neg q1]
        by_cases q3:o.kind=3
        ·rw [if_pos q3]
         have hlt:=JY hm
         have go:ZS o.e:=by have:=JE ga.2.2.2.2 hm;obtain ⟨_,_,_,_⟩:=o;exact this.2.2.2
         obtain ⟨v,hv⟩:=ZeU n o.e (d - 1) (by omega) (YE hro q3) go
         exact ⟨v ::x,.into q3 hv hx⟩
        ·rw [if_neg q3]
         by_cases q2:o.kind=2
         ·rw [if_pos q2,List.nil_append]
          exact ⟨_,.come q2 hx⟩
         ·rw [if_neg q2]
          have hn:=Z26 hro
          refine ⟨_,.keep (by
           have:=ZC hro
           cases this <;> first | rfl | (exfalso;first | exact q1 rfl | exact q2 rfl | exact q3 rfl)) (by rw [List.length_replicate];omega) hx⟩
     obtain ⟨x,hx⟩:=hrun e.ops fun _ h=> h
     change ∃ v,Option.map _ (Z19 (ZE false e.ops (Z09 e.list e.ops) []))=some v
     rw [(Z4M (fun o ho=> Zet (hops o ho))).2 hx]
     exact ⟨_,rfl⟩
end Go.AM.Ytpjenobkibfpcaa
namespace Go.AM.Ytpjenobkibfpcaa
open Go.AM Go.Proofs
noncomputable section
def Zg8:ArgL (Edit × Unit):=(.cons (aEl .edit) .nil)
def Zaf(a:Edit × Unit):Prop:=Zc a.1≤20000000000∧∃ d,Z0 a.1 d=true
def Zhr(a:Edit × Unit):Nat:=2*Zc a.1
def Zad(a:Edit × Unit):V U:= .agg (enc .tree (Z0C a.1))
def ZbO:Fs U:=fs Zg8 (fun a=> [Zaf a]) Zad
def Zg5:ArgL (Int × Op × Unit):=(.cons (J3 .i64) (.cons (aEl .op) .nil))
def Zea(a:Int × Op × Unit):Prop:=Zx a.2.1≤20000000000∧∃ d,Za a.1 a.2.1 d=true
def ZmN(a:Int × Op × Unit):Nat:=2*Zx a.2.1+1
def Zab(a:Int × Op × Unit):V U:= .c (sU .tree (Z1n a.1 a.2.1) .unk)
def Zos:Fs U:=fs Zg5 (fun a=> [Zea a]) Zab
def Z7r(N:Nat):List (FuncId × Fs U):=(51,fs Zg8 (fun a=> [Zaf a,Zhr a < N]) Zad) ::(88,fs Zg5 (fun a=> [Zea a,ZmN a < N]) Zab) ::[(120,Z1c)]
def Zt2:Zh U:=fun i=> match i with
 | 0=> ([(1,[]),(2,[])],[(.loc 1,[]),(.loc 2,[])])
 | 1=> ([(1,[]),(2,[]),(3,[])],[(.loc 1,[]),(.loc 2,[]),(.loc 3,[])])
 | 2=> ([(1,[]),(2,[]),(3,[]),(14,[])],[(.loc 1,[]),(.loc 2,[]),(.loc 3,[])])
 | 3=> ([(1,[]),(2,[]),(3,[]),(14,[]),(15,[])],[(.loc 1,[]),(.loc 2,[]),(.loc 3,[])])
 | 4=> ([(2,[])],[(.loc 2,[])])
 | 5=> ([(1,[]),(2,[]),(3,[]),(14,[]),(19,[])],[(.loc 1,[]),(.loc 2,[]),(.loc 3,[])])
 | 6=> ([(1,[]),(2,[]),(3,[])],[(.loc 1,[]),(.loc 2,[]),(.loc 3,[])])
 | 7=> ([(1,[]),(2,[]),(3,[]),(23,[]),(24,[]),(25,[])],[(.loc 1,[]),(.loc 2,[]),(.loc 3,[.any,.wr .u64])])
 | 8=> ([(1,[]),(2,[]),(3,[]),(23,[]),(24,[]),(25,[]),(26,[])],[(.loc 1,[]),(.loc 2,[]),(.loc 3,[.any,.wr .u64])])
 | 9=> ([(1,[]),(2,[]),(3,[]),(5,[]),(23,[]),(24,[]),(25,[])],[(.loc 1,[]),(.loc 2,[]),(.loc 3,[.any,.wr .u64]),(.loc 5,[])])
 | 10=> ([(1,[]),(2,[]),(3,[]),(5,[]),(23,[]),(24,[]),(25,[])],[(.loc 1,[]),(.loc 2,[]),(.loc 3,[.any,.wr .u64]),(.loc 5,[])])
 | 11=> ([(1,[]),(2,[]),(3,[]),(23,[]),(24,[]),(25,[])],[(.loc 1,[]),(.loc 2,[]),(.loc 3,[.any,.wr .u64])])
 | 12=> ([(1,[]),(2,[]),(3,[]),(23,[]),(24,[]),(25,[])],[(.loc 1,[]),(.loc 2,[]),(.loc 3,[.any,.wr .u64])])
 | 13=> ([(2,[]),(3,[]),(49,[]),(50,[]),(51,[])],[(.loc 2,[]),(.loc 3,[.any,.any,.wr .tree])])
 | 14=> ([(2,[]),(3,[]),(49,[]),(50,[]),(51,[]),(52,[])],[(.loc 2,[]),(.loc 3,[.any,.any,.wr .tree])])
 | 15=> ([(2,[]),(3,[]),(7,[]),(49,[]),(50,[]),(51,[])],[(.loc 2,[]),(.loc 3,[.any,.any,.wr .tree]),(.loc 7,[])])
 | 16=> ([(2,[]),(3,[]),(7,[]),(49,[]),(50,[]),(51,[])],[(.loc 2,[]),(.loc 3,[.any,.any,.wr .tree]),(.loc 7,[])])
 | 17=> ([(2,[]),(3,[]),(49,[]),(50,[]),(51,[])],[(.loc 2,[]),(.loc 3,[.any,.any,.wr .tree])])
 | 18=> ([(2,[]),(3,[]),(49,[]),(50,[]),(51,[])],[(.loc 2,[]),(.loc 3,[.any,.any,.wr .tree])])
 | 19=> ([(1,[]),(2,[]),(3,[]),(75,[])],[(.loc 1,[]),(.loc 2,[]),(.loc 3,[])])
 | 20=> ([(1,[]),(2,[]),(3,[]),(78,[]),(79,[]),(80,[])],[(.loc 1,[]),(.loc 2,[]),(.loc 3,[.any,.any,.own .tree])])
 | 21=> ([(1,[]),(2,[]),(3,[]),(78,[]),(79,[]),(80,[]),(81,[])],[(.loc 1,[]),(.loc 2,[]),(.loc 3,[])])
 | 22=> ([(1,[]),(2,[]),(3,[]),(9,[]),(78,[]),(79,[]),(80,[])],[(.loc 1,[]),(.loc 2,[]),(.loc 3,[]),(.loc 9,[])])
 | 23=> ([(1,[]),(2,[]),(3,[]),(78,[]),(79,[]),(80,[])],[(.loc 1,[]),(.loc 2,[]),(.loc 3,[])])
 | 24=> ([(1,[]),(2,[]),(3,[]),(78,[]),(79,[]),(80,[])],[(.loc 1,[]),(.loc 2,[]),(.loc 3,[.any,.any,.own .tree])])
 | 25=> ([(2,[])],[(.loc 2,[])])
 | _=> ([],[])
def Z8T(e:Edit)(x25:Int)(rl_3_1:List Int):LSt U:=(⟨[(1,.ptr (.loc 1) 0),(2,.ptr (.loc 2) 0),(3,.ptr (.loc 3) 0),(23,.c (sU .wedit e.words .unk)),(24,.c (ci (e.words.length:Int))),(25,.c (ci x25))],[(.loc 1,(enc .edit e)),(.loc 2,[ci 0,.nils,.nils]),(.loc 3,[ci 1,.mref (.l 3 1),.nils])],[(.l 3 1,LC.mk (U:=U) .u64 rl_3_1 0)]⟩:LSt U)
def Z8S(e:Edit)(x80_a:Int)(ml3_2_a:List Tree):LSt U:=(L2 [(1,.ptr (.loc 1) 0),(2,.ptr (.loc 2) 0),(3,.ptr (.loc 3) 0),(78,.c (sU .op e.ops .unk)),(79,.c (ci (e.ops.length:Int))),(80,.c (ci x80_a))] [(.loc 1,(enc .edit e)),(.loc 2,[ci 0,.nils,.nils]),(.loc 3,[ci e.list,.nils,sU .tree ml3_2_a (.own (.l 3 2))])])
def Z8R(e:Edit)(rl_3_1:List Int)(x51_b:Int)(rl_3_2_b:List Tree):LSt U:=(⟨[(2,.ptr (.loc 2) 0),(3,.ptr (.loc 3) 0),(49,.c (sU .kid e.kids .unk)),(50,.c (ci (e.kids.length:Int))),(51,.c (ci x51_b))],[(.loc 2,[ci 0,.nils,.nils]),(.loc 3,[ci 1,sU .u64 rl_3_1 (.own (.l 3 1)),.mref (.l 3 2)])],[(.l 3 2,LC.mk (U:=U) .tree rl_3_2_b 0)]⟩:LSt U)
abbrev A51(N:Nat)(p:List Nat):=AW (Z1 (Z7r N)) Try.f51 Zt2 p
abbrev S51(N:Nat)(p:List Nat):=SW (Z1 (Z7r N)) Try.f51 Zt2 p
theorem ZzY(N:Nat)(e:Edit)(Q:QT)(h:(((e.kind==1)=true→(Q .ret (L2 [(2,.ptr (.loc 2) 0)] [(.loc 2,(enc .tree e.old))])))∧((e.kind==1)=false→(((e.kind==2)=true→(Zl (A51 N [1,1,0,1,0,1,1,1,0,1,0,1,0,0]) (Z8T e 0 []) (xB 1 (S51 N [1,1,0,1,0,1,1,1,0,1,1] (xB 0 (S51 N [1,1,1] Q))))))∧((e.kind==2)=false→(((e.kind==3)=true→(Zl (A51 N [1,1,0,1,0,1,1,1,1,1,0,1,0,0]) (Z8S e 0 []) (xB 5 (xB 0 (S51 N [1,1,1] Q)))))∧((e.kind==3)=false→(Q .ret (L2 [(2,.ptr (.loc 2) 0)] [(.loc 2,[ci e.list,.nils,.nils])]))))))))):
  A51 N [] (L2 [(0,.agg (enc .edit e))] []) Q:=
 Eq.mpr (by kernel_rfl) h
theorem ZrR(N:Nat)(e:Edit)(x25:Int)(rl_3_1:List Int)(N0:NT)(Q:QT)(h:let z2:=decide (x25 < (e.words.length:Int));let z1:=e.words.getD x25.toNat (WEdit.mk 0 0 0 0);let z0:=WEdit.at_ z1;((z2=true→((0:Int)≤x25∧x25 < (e.words.length:Int))∧((InR ((z0:Int)+1))∧(InR ((((z0:Int)+1):Int) - (rl_3_1.length:Int)))∧((0:Int)≤(((z0:Int)+1):Int) - (rl_3_1.length:Int)∧((rl_3_1.length:Int)+((((z0:Int)+1):Int) - (rl_3_1.length:Int)))*((8:Nat):Int)≤140737488355328)∧(((0:Int)≤z0∧z0 < ((rl_3_1++List.replicate (Int.toNat ((((z0:Int)+1):Int) - (rl_3_1.length:Int))) (0:Int)).length:Int))∧((0:Nat)≤(Int.toNat z0))∧((InR (x25+1))∧(N0 (Z8T e (x25+1) (List.set (rl_3_1++List.replicate (Int.toNat ((((z0:Int)+1):Int) - (rl_3_1.length:Int))) (0:Int)) (Int.toNat z0) (WEdit.old z1))))))))∧(z2=false→(Zl (A51 N [1,1,0,1,0,1,1,1,0,1,1,1,0,0]) (Z8R e rl_3_1 0 []) (xB 3 (xB 0 (S51 N [1,1,1] Q))))))):
  A51 N [1,1,0,1,0,1,1,1,0,1,0,1,0,0] (Z8T e x25 rl_3_1) (xT N0 (xB 1 (S51 N [1,1,0,1,0,1,1,1,0,1,1] (xB 0 (S51 N [1,1,1] Q))))):=
 Eq.mpr (by kernel_rfl) h
theorem ZrQ(N:Nat)(e:Edit)(x80_a:Int)(ml3_2_a:List Tree)(N1:NT)(Q:QT)(h:∀ y_1,y_1=(e.ops.getD x80_a.toNat Op.nil)→∀ y_2,y_2=y_1→let z0:=decide (x80_a < (e.ops.length:Int));((z0=true→((0:Int)≤x80_a∧x80_a < (e.ops.length:Int))∧((Zea (e.list,y_2,()))∧(ZmN (e.list,y_2,()) < N)∧((ml3_2_a.length+(Z1n e.list y_2).length)*56≤140737488355328)∧((InR (x80_a+1))∧(N1 (Z8S e (x80_a+1) (ml3_2_a++(Z1n e.list y_2)))))))∧(z0=false→(Q .ret (L2 [(2,.ptr (.loc 2) 0)] [(.loc 2,[ci e.list,.nils,sU .tree ml3_2_a (.own (.l 2 2))])]))))):
  A51 N [1,1,0,1,0,1,1,1,1,1,0,1,0,0] (Z8S e x80_a ml3_2_a) (xT N1 (xB 5 (xB 0 (S51 N [1,1,1] Q)))):=
 Eq.mpr (by kernel_rfl) (h _ rfl _ (Jh _))
theorem ZrP(N:Nat)(e:Edit)(rl_3_1:List Int)(x51_b:Int)(rl_3_2_b:List Tree)(N2:NT)(Q:QT)(h:∀ y_1,y_1=(e.kids.getD x51_b.toNat (KidOf.mk 0 Edit.nil))→∀ y_2,y_2=(y_1.e)→∀ y_3,y_3=(Z0C y_2)→let z0:=decide (x51_b < (e.kids.length:Int));((z0=true→((0:Int)≤x51_b∧x51_b < (e.kids.length:Int))∧((InR (y_1.at_+1))∧(InR (((y_1.at_+1):Int) - (rl_3_2_b.length:Int)))∧((0:Int)≤((y_1.at_+1):Int) - (rl_3_2_b.length:Int)∧((rl_3_2_b.length:Int)+(((y_1.at_+1):Int) - (rl_3_2_b.length:Int)))*((56:Nat):Int)≤140737488355328)∧((Zaf (y_2,()))∧(Zhr (y_2,()) < N)∧((0:Int)≤y_1.at_∧y_1.at_ < ((rl_3_2_b++List.replicate (Int.toNat (((y_1.at_+1):Int) - (rl_3_2_b.length:Int))) Tree.nil).length:Int))∧((0:Nat)≤(Int.toNat y_1.at_))∧((InR (x51_b+1))∧(N2 (Z8R e rl_3_1 (x51_b+1) (List.set (rl_3_2_b++List.replicate (Int.toNat (((y_1.at_+1):Int) - (rl_3_2_b.length:Int))) Tree.nil) (Int.toNat y_1.at_) y_3)))))))∧(z0=false→(Q .ret (L2 [(2,.ptr (.loc 2) 0)] [(.loc 2,[ci 1,sU .u64 rl_3_1 (.own (.l 2 1)),sU .tree rl_3_2_b (.own (.l 2 2))])]))))):
  A51 N [1,1,0,1,0,1,1,1,0,1,1,1,0,0] (Z8R e rl_3_1 x51_b rl_3_2_b) (xT N2 (xB 3 (xB 0 (S51 N [1,1,1] Q)))):=
 Eq.mpr (by kernel_rfl) (h _ rfl _ (Zf _) _ (Zi _))
def Zxw(N:Nat)(e:Edit):Prop:=AW (Z1 (Z7r N)) Try.f51 Zt2 [] (Zn (Zg8.can (e,())) []) (EQ Try.f51 (Zad (e,())) [])
abbrev Zzs:Prop:=∀ (N:Nat) (e:Edit) (_:Unit),Zaf (e,())→Zhr (e,()) < N+1→Zxw N e
def Zj8(N:Nat):List (FuncId × Fs U):=Z7r N
def ZsS:Zh U:=fun i=> match i with
 | 0=> ([(0,[]),(3,[])],[(.loc 3,[])])
 | 1=> ([(0,[]),(3,[]),(9,[])],[(.loc 3,[])])
 | 2=> ([(0,[]),(3,[]),(9,[]),(10,[])],[(.loc 3,[])])
 | 3=> ([(4,[])],[])
 | 4=> ([(0,[]),(3,[]),(9,[]),(14,[])],[(.loc 3,[])])
 | 5=> ([(5,[])],[(.loc 5,[])])
 | 6=> ([(4,[])],[])
 | 7=> ([(0,[]),(3,[]),(21,[])],[(.loc 3,[])])
 | 8=> ([(4,[])],[])
 | 9=> ([(0,[]),(6,[.wr .tree])],[])
 | 10=> ([(0,[]),(6,[.wr .tree]),(27,[]),(28,[])],[])
 | 11=> ([(0,[]),(6,[.wr .tree]),(27,[]),(28,[]),(29,[])],[])
 | 12=> ([(0,[]),(6,[.wr .tree]),(7,[]),(27,[]),(28,[])],[])
 | 13=> ([(0,[]),(6,[.wr .tree]),(7,[]),(27,[]),(28,[]),(31,[])],[])
 | 14=> ([(0,[]),(6,[.wr .tree]),(27,[]),(28,[])],[])
 | 15=> ([(0,[]),(6,[.wr .tree]),(7,[]),(27,[]),(28,[]),(39,[])],[])
 | 16=> ([(0,[]),(6,[.wr .tree]),(27,[]),(28,[])],[])
 | 17=> ([(0,[]),(6,[.wr .tree]),(27,[]),(28,[])],[])
 | 18=> ([(4,[])],[])
 | _=> ([],[])
def Z45(list:Int)(o:Op)(x28:Int)(re_6_0:List Tree):LSt U:=(⟨[(0,.c (ci list)),(6,.c (.mref (.e 6 0))),(27,.c (ci ((List.replicate (Int.toNat o.n) Tree.nil).length:Int))),(28,.c (ci x28))],[],[(.e 6 0,LC.mk (U:=U) .tree re_6_0 0)]⟩:LSt U)
abbrev A88(N:Nat)(p:List Nat):=AW (Z5N (Zj8 N)) Try.f88 ZsS p
abbrev S88(N:Nat)(p:List Nat):=SW (Z5N (Zj8 N)) Try.f88 ZsS p
theorem ZzD(N:Nat)(list:Int)(o:Op)(Q:QT)(h:∀ y_1,y_1=(o.e)→∀ y_2,y_2=(Z0C y_1)→(((o.kind==1)=true→(Q .ret (L2 [(4,.c (sU .tree o.l .unk))] [])))∧((o.kind==1)=false→(((o.kind==3)=true→(Zaf (y_1,()))∧(Zhr (y_1,()) < N)∧(Q .ret (L2 [(4,.c (sU .tree ([y_2]) .full))] [])))∧((o.kind==3)=false→(((o.kind==2)=true→(Q .ret (L2 [(4,.c (.nils))] [])))∧((o.kind==2)=false→((0:Int)≤OpOf.n o∧o.n*((56:Nat):Int)≤140737488355328∧(OpOf.n o:Int)≤9223372036854775807)∧((OpOf.n o:Int)=o.n)∧(Zl (A88 N [1,1,1,0,1,0,0]) (Z45 list o 0 (List.replicate (Int.toNat o.n) Tree.nil)) (xB 1 (S88 N [1,1,1,1] Q)))))))))):
  A88 N [] (L2 [(0,.c (ci list)),(1,.agg (enc .op o))] []) Q:=
 Eq.mpr (by kernel_rfl) (h _ (Zf _) _ (Zi _))
theorem Zrx(N:Nat)(list:Int)(o:Op)(x28:Int)(re_6_0:List Tree)(N0:NT)(Q:QT)(h:let z2:=re_6_0.getD x28.toNat Tree.nil;let z1:=decide (2≤list∧list≤7);let z0:=decide (x28 < ((List.replicate (Int.toNat o.n) Tree.nil).length:Int));((z0=true→((Z7b (list,()))∧((z1=true→((0:Int)≤x28∧x28 < (re_6_0.length:Int))∧((0:Nat)≤x28.toNat)∧((InR (x28+1))∧(N0 (Z45 list o (x28+1) (List.set re_6_0 x28.toNat (Tree.mk 10 ([0]) []))))))∧(z1=false→(((list==9)=true→((0:Int)≤x28∧x28 < (re_6_0.length:Int))∧((0:Nat)≤x28.toNat)∧((InR (x28+1))∧(N0 (Z45 list o (x28+1) (List.set re_6_0 x28.toNat (Tree.mk 1 (Tree.words z2) (Tree.kids z2)))))))∧((list==9)=false→(InR (x28+1))∧(N0 (Z45 list o (x28+1) re_6_0))))))))∧(z0=false→(Q .ret (L2 [(4,.c (sU .tree re_6_0 (.own (.e 4 0))))] []))))):
  A88 N [1,1,1,0,1,0,0] (Z45 list o x28 re_6_0) (xT N0 (xB 1 (S88 N [1,1,1,1] Q))):=
 Eq.mpr (by kernel_rfl) h
def Zxb(N:Nat)(list:Int)(o:Op):Prop:=AW (Z5N (Zj8 N)) Try.f88 ZsS [] (Zn (Zg5.can (list,o,())) []) (EQ Try.f88 (Zab (list,o,())) [])
abbrev Zzn:Prop:=∀ (N:Nat) (list:Int) (o:Op) (_:Unit),Zea (list,o,())→ZmN (list,o,()) < N+1→Zxb N list o
theorem Zsd(Zg1:CT 120 Z1c)(b51:Zzs)(b88:Zzn):
  CT 51 ZbO∧CT 88 Zos:=by
 have h51 : ∃ fn, Try.prog.funcs[(51 : FuncId)]? = some fn ∧ fn.body.isSome = true ∧ (fn.name == "runtime.NumGoroutine") = false := ⟨Try.f51, Try.func51, rfl, rfl⟩
 have h88 : ∃ fn, Try.prog.funcs[(88 : FuncId)]? = some fn ∧ fn.body.isSome = true ∧ (fn.name == "runtime.NumGoroutine") = false := ⟨Try.f88, Try.func88, rfl, rfl⟩
 have key:∀ N,CT 51 (fs Zg8 (fun a=> [Zaf a,Zhr a < N]) Zad)∧CT 88 (fs Zg5 (fun a=> [Zea a,ZmN a < N]) Zab):=by
  intro N
  induction N with
  | zero=> exact ⟨Ja h51,Ja h88⟩
  | succ N ih=>
   have kn:=Z06 (l:=Z7r N) ⟨ih.1,ih.2,Zg1,trivial⟩
   exact ⟨ZB (Γ:=Z1 (Z7r N)) Zo rfl kn Zt2 Try.func51 rfl rfl (fun a=> by show 1≤_;decide) (fun ⟨e,_⟩ h=> b51 N e () h.1 h.2.1),
    ZB (Γ:=Z5N (Z7r N)) Zo rfl kn ZsS Try.func88 rfl rfl (fun a=> by show 2≤_;decide) (fun ⟨list,o,_⟩ h=> b88 N list o () h.1 h.2.1)⟩
 exact ⟨Jb h51 fun N=> (key N).1,Jb h88 fun N=> (key N).2⟩
end
end Go.AM.Ytpjenobkibfpcaa
