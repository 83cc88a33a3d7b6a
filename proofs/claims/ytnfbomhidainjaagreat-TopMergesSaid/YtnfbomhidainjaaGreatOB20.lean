import Derived.Test.YtnfbomhidainjaaGreatOB9
import Derived.Test.YtnfbomhidainjaaGreatOB19
import Derived.Test.YtnfbomhidainjaaGreatOD4
import Derived.Test.YtnfbomhidainjaaGreatTKL21
set_option linter.unusedSimpArgs false
set_option linter.unusedVariables false
namespace Go.AM.YtnfbomhidainjaaGreat
open Go.AM Go.Proofs
noncomputable section
def ZFm(a:Int×Int×Unit):V U:=.agg (enc .tree (Tree.mk 1 [a.1,a.2.1] []))
def Zfp:Fs U:=fs ZzW (λa=>[ZfX a]) ZFm
def ZFJ:ArgL Unit:=.nil
def pre6(a:Unit):Prop:=True
def ZLt(a:Unit):V U:=.c (.bool true)
def ZlP:Fs U:=fs ZFJ (λa=>[pre6 a]) ZLt
def Ziw(a:Tree×Unit):Prop:=(Z3E a.1/\rng a.1)
def ZFn(a:Tree×Unit):V U:=.c (.bool (Z12 a.1))
def Zfq:Fs U:=fs ZqX (λa=>[Ziw a]) ZFn
def ZFK:ArgL (Tree×Tree×Tree×Unit):=(.cons (aEl .tree) (.cons (aEl .tree) (.cons (aEl .tree) .nil)))
def Zxg(a:Tree×Tree×Tree×Unit):Prop:=(Z3E a.1/\rng a.1)/\(Z3E a.2.1/\rng a.2.1)/\(Z3E a.2.2.1/\rng a.2.2.1)
def ZLu(a:Tree×Tree×Tree×Unit):V U:=.c (.bool (Z12 a.1&&Z12 a.2.1&&Z12 a.2.2.1))
def ZlQ:Fs U:=fs ZFK (λa=>[Zxg a]) ZLu
def ZIh:Za U:=lvl [([0,1,4],[4]),([4],[4])]
abbrev A18(p:List Nat):=AW (Z2 Zqj) Tryz.f18 ZIh p
theorem ZNX(a b:Int)(Q:QT)(h:(Q .ret (L2 [pL 4] [(.loc 4,[ci 1,sU .u64 ([a,b]) .full,.nils])]))):A18 [] (L2 [(0,.c (.int .u64 a)),(1,.c (.int .u64 b))] []) Q:=(Eq.mpr V3 h:)
abbrev ZKD(a b:Int):Prop:=AW (Z2 Zqj) Tryz.f18 ZIh [] (Zg (ZzW.can (a,b,())) []) (EQ Tryz.f18 (ZFm (a,b,())) [])
theorem ZHv(hb:∀(a:Int)(b:Int)(_:Unit),ZfX (a,b,())->ZKD a b):CT 18 Zfp:=Z1 (l:=[]) Zf rfl trivial ZIh Tryz.func18 rfl rfl 2 (λ_=>rfl) V0 (λ⟨a,b,_⟩=>hb a b ())
def ZFx:List (FuncId×Fs U):=[(17,Z2E),(8,ZlO),(10,Jt)]
def lv6:Za U:=lvl [([],[]),([1],[]),([1,2],[2]),([1,3,4],[3]),([3,4,5,6],[3,5]),([0],[])]
abbrev A6(p:List Nat):=AW (Z2 ZFx) Tryz.f6 lv6 p
theorem vc6(Q:QT)(h:∀ab,ab=(Edit.mk 0 (Tree.mk 0 [] []) (Tree.mk 0 [] []) [] [] 0 [])->∀d,d=(Edit.mk 3 (Tree.mk 0 [] []) (Tree.mk 0 [] []) [] [] 4 ([(OpOf.mk 2 0 ([(Tree.mk 10 ([1]) [])]) ab),(OpOf.mk 0 1 [] ab)]))->∀aa,aa=(ZM (Y2 d))->∀ae,ae=((ZcU d aa).1)->∀ah,ah=(List.getD (Edit.ops ((ZcU d aa).1)) (Int.toNat 0) Op.nil)->∀af,af=(doE false ae (Tree.mk 4 [] ([(Tree.mk 10 ([1]) [])])))->let z1:=bif((ZcU d aa).2)then(af.isSome)else false;let z0:=bif z1 then((((Edit.ops ((ZcU d aa).1)).length:Int):Int)==1)else false;let z2:=bif z0 then(ah.n==1)else false;((Z4t (d,()))/\(Z5Z (d,aa,()))/\((Z4s (ae,(Tree.mk 4 [] ([(Tree.mk 10 ([1]) [])])),()))/\((Tt ((ZcU d aa).2))/\(Tt z1)/\(Tt z1)/\(Tt z1)/\(Tt z1)/\(Tt z0)/\(Tt z0)/\(z0=true->(0:Int)<=0/\0<((Edit.ops ((ZcU d aa).1)).length:Int))/\(Tt z0)/\(Tt z0)/\(Tt z0)/\(Tt z0)/\(Tt z2)/\(Tt z2)/\(Tt z2)/\(Tt z2)/\(Q .ret (L2 [(0,.c (.bool (bif z2 then((((Tree.kids (Z1m (af.map Z0))).length:Int):Int)==1)else false)))] [])))))):A6 [] (L2 [] []) Q:=(Eq.mpr V3 (h _ rfl _ rfl _ (Zj _) _ (Zj _) _ rfl _ rfl):)
abbrev ZMz:Prop:=AW (Z2 ZFx) Tryz.f6 lv6 [] (Zg (ZFJ.can ()) []) (EQ Tryz.f6 (ZLt ()) [])
theorem ZLE(c17:CT 17 Z2E)(c8:CT 8 ZlO)(c10:CT 10 Jt)(hb:∀(_:Unit),pre6 ()->ZMz):CT 6 ZlP:=Z1 (l:=[(17,Z2E),(8,ZlO),(10,Jt)]) Zf rfl (⟨c17,c8,c10,trivial⟩) lv6 Tryz.func6 rfl rfl 0 (λ_=>rfl) V0 (λ_=>hb ())
def Zza:List (FuncId×Fs U):=[(32,Zfl),(15,Z2F)]
abbrev A16(p:List Nat):=AW (Z2 Zza) Tryz.f16 ZId p
theorem ZNZ(t:Tree)(Q:QT)(h:let z2:=Tree.mk t.kind t.words t.kids;let z0:=decide ((0:Int)<=(YA z2 70 400));let z1:=bif z0 then(Zb z2 64)else false;((Zit (z2,70,400,()))/\(Tt z0)/\(z0=true->Z60 (z2,64,()))/\(Tt z0)/\(Tt z1)/\(Tt z1)/\(Tt z1)/\(Q .ret (L2 [(2,.c (.bool (bif z1 then(t.kind !=10)else false)))] [])))):A16 [] (L2 [(0,.agg (enc .tree t))] []) Q:=(Eq.mpr V3 h:)
abbrev ZKF(t:Tree):Prop:=AW (Z2 Zza) Tryz.f16 ZId [] (Zg (ZqX.can (t,())) []) (EQ Tryz.f16 (ZFn (t,())) [])
theorem ZHx(c32:CT 32 Zfl)(c15:CT 15 Z2F)(hb:∀(t:Tree)(_:Unit),Ziw (t,())->ZKF t):CT 16 Zfq:=Z1 (l:=[(32,Zfl),(15,Z2F)]) Zf rfl (⟨c32,c15,trivial⟩) ZId Tryz.func16 rfl rfl 1 (λ_=>rfl) V0 (λ⟨t,_⟩=>hb t ())
def ZFy:List (FuncId×Fs U):=[(16,Zfq)]
def lv5:Za U:=lvl [([3,4,5],[3,4,5]),([6],[])]
abbrev A5(p:List Nat):=AW (Z2 ZFy) Tryz.f5 lv5 p
theorem vc5(o x y:Tree)(Q:QT)(h:let z3:=Tree.mk y.kind y.words y.kids;let z2:=Tree.mk x.kind x.words x.kids;let z1:=Tree.mk o.kind o.words o.kids;let z0:=bif(Z12 z1)then(Z12 z2)else false;((Ziw (z1,()))/\(Tt (Z12 z1))/\((Z12 z1)=true->Ziw (z2,()))/\(Tt (Z12 z1))/\(Tt z0)/\(z0=true->Ziw (z3,()))/\(Tt z0)/\(Q .ret (L2 [(6,.c (.bool (bif z0 then(Z12 z3)else false)))] [])))):A5 [] (L2 [(0,.agg (enc .tree o)),(1,.agg (enc .tree x)),(2,.agg (enc .tree y))] []) Q:=(Eq.mpr V3 h:)
abbrev ZMA(o x y:Tree):Prop:=AW (Z2 ZFy) Tryz.f5 lv5 [] (Zg (ZFK.can (o,x,y,())) []) (EQ Tryz.f5 (ZLu (o,x,y,())) [])
theorem ZLF(c16:CT 16 Zfq)(hb:∀(o:Tree)(x:Tree)(y:Tree)(_:Unit),Zxg (o,x,y,())->ZMA o x y):CT 5 ZlQ:=Z1 (l:=[(16,Zfq)]) Zf rfl (⟨c16,trivial⟩) lv5 Tryz.func5 rfl rfl 3 (λ_=>rfl) V0 (λ⟨o,x,y,_⟩=>hb o x y ())
end
def Z7l:Tree:=.mk 10 [1] []
def J3(k:Int):Edit:=.mk 3 Tree.nil Tree.nil [] [] 4 [⟨k,0,[Z7l],Edit.nil⟩,⟨0,1,[],Edit.nil⟩]
theorem Z5B(k:Int)(h:k=1\/k=2):Z8 (J3 k) 64=true:=by rcases h with rfl|rfl<;>rfl
theorem Zqt(k:Int)(h:k=1\/k=2):YF (J3 k):=by
 have z:=Z1i;have i0:InR 0:=Yc V0 V0;have d:YF Edit.nil:=⟨i0,z,z,by simp,i0,trivial,trivial⟩;refine⟨Yc V0 V0,z,z,by simp,Yc V0 V0,trivial,⟨?_,i0,⟨⟨V0,?_,trivial⟩,trivial⟩,d⟩,⟨i0,Yc V0 V0,trivial,d⟩,trivial⟩;.unfold InR;omega
 grind
theorem ZgC:ZcU (J3 2) (J3 1)=(.mk 3 Tree.nil Tree.nil [] [] 4 [⟨0,1,[],Edit.nil⟩],true):=by
 have hp:Zl 1 2 (J3 2).ops (J3 1).ops []=([⟨0,⟨2,0,[Z7l],Edit.nil⟩,⟨1,0,[Z7l],Edit.nil⟩⟩,⟨0,⟨0,1,[],Edit.nil⟩,⟨0,1,[],Edit.nil⟩⟩],true,[],[]):=by
  have e1:∀k,(J3 k).ops=[⟨k,0,[Z7l],Edit.nil⟩,⟨0,1,[],Edit.nil⟩]:=λ_=>rfl;rw[e1,e1,Zl,dif_neg (by simp[sgl]),dif_neg (by simp[sgl]),dif_neg (by simp)];simp only[Qj,Z4];simp only[Zx,ZB,Z4];simp;rw[Zl,dif_neg (by simp[sgl]),dif_neg (by simp[sgl]),dif_neg (by simp)];simp[Zx,ZB,Z4];rw[Zl,dif_neg (by simp[sgl]),dif_neg (by simp[sgl]),dif_pos (by simp)];simp
 have hc:YP (J3 2) (J3 1)=(.mk 3 Tree.nil Tree.nil [] [] 4 [⟨0,1,[],Edit.nil⟩],true):=by
  rw[Zja (Z5B 2 (.inr rfl)) (Z5B 1 (.inl rfl))];have d:Z2L YP (J3 2).ops (J3 1).ops=some [⟨0,1,[],Edit.nil⟩]:=by
   unfold Z2L;rw[hp,if_pos rfl];have c1:JY YP ⟨0,⟨2,0,[Z7l],Edit.nil⟩,⟨1,0,[Z7l],Edit.nil⟩⟩=⟨Op.nil,false,true⟩:=by unfold JY;rw[if_neg (by simp),if_neg (by simp),if_pos (by simp)];congr 1;exact ZnH rfl
   have c2:JY YP ⟨0,⟨0,1,[],Edit.nil⟩,⟨0,1,[],Edit.nil⟩⟩=⟨⟨0,1,[],Edit.nil⟩,true,true⟩:=rfl;rw[Z2A,c1,if_pos rfl,Z2A,c2,if_pos rfl,Z2A];try rfl
  unfold Z0J;have k:∀n,(J3 n).kind=3/\(J3 n).list=4:=λ_=>⟨rfl,rfl⟩;rw[if_neg (by grind),if_neg (by grind),if_neg (by grind),if_neg (by grind),if_neg (by grind),if_neg (by grind),d];try rfl
 unfold ZcU;rw[hc,if_pos rfl,ZGw];try rfl
theorem Zmv(k:Int)(h:k=1\/k=2):Z4c (J3 k):=⟨by show ctE (J3 k)<=_;simp[ctE,Z0S,YI,Z2y,J3,mass,Z5,Tree.nil,Edit.nil,Z7l],Zqt k h,64,Z5B k h⟩
theorem Znu:ZM (Y2 (J3 2))=J3 1:=by rfl
theorem ZuK:doE false (.mk 3 Tree.nil Tree.nil [] [] 4 [⟨0,1,[],Edit.nil⟩]) (.mk 4 [] [Z7l])=some (.mk 4 [] [Z7l]):=by rfl
def s2(a b:Int):Tree:=.mk 1 [a,b] []
theorem ZLs(a b:Int)(ha:isW a)(hb:isW b):TreeOk (s2 a b):=⟨⟨64,by rfl⟩,⟨⟨by show(-9223372036854775808:Int)<=1;omega,by show(1:Int)<=9223372036854775807;omega⟩,by
  intro x d;rcases Q9.1 d with rfl|d;.exact ha
  .rw[Qd]at d;subst d;exact hb,trivial⟩,by show(1:Int)≠10;decide⟩
theorem ZIz:Jb 9 (s2 1 1) (s2 2 1)=.mk 2 Tree.nil Tree.nil [⟨0,1,1,2⟩] [] 0 []:=by unfold Jb;rw[Zaq,if_neg (by rw[YS];intro h;exact absurd (congrArg Tree.words h) V0),if_pos ⟨rfl,rfl⟩];try rfl
theorem ZIy:Jb 9 (s2 1 1) (s2 1 3)=.mk 2 Tree.nil Tree.nil [⟨1,1,1,3⟩] [] 0 []:=by unfold Jb;rw[Zaq,if_neg (by rw[YS];intro h;exact absurd (congrArg Tree.words h) V0),if_pos ⟨rfl,rfl⟩];try rfl
theorem ZIx:Jb 9 (s2 1 1) (s2 2 3)=.mk 2 Tree.nil Tree.nil [⟨0,1,1,2⟩,⟨1,1,1,3⟩] [] 0 []:=by unfold Jb;rw[Zaq,if_neg (by rw[YS];intro h;exact absurd (congrArg Tree.words h) V0),if_pos ⟨rfl,rfl⟩];try rfl
theorem Zqs{n:Int}(h0:0<=n)(h:n<=9):isW n:=by unfold isW;omega
theorem Zwd(a b:Int)(ha:0<=a/\a<=9)(hb:0<=b/\b<=9):TreeOk (s2 a b):=ZLs a b (Zqs ha.1 ha.2) (Zqs hb.1 hb.2)
theorem c18:Contract Tryz.prog cfg 18 Zfp:=by refine ZHv ?_;intro a b _ _;refine ZNX _ _ _ ?_;exact YH
theorem c16:Contract Tryz.prog cfg 16 Zfq:=by
 refine ZHx c32 c15 ?_;intro t _ d;simp only[Ziw]at d;refine ZNZ _ _ ?_;(simp only[vE]);(simp only[iB,vcT,vcS]);refine⟨by simp only[Zit];exact⟨d.1,Yp,Yp,Yp,Yp⟩,λh=>?_,?_⟩;.have:=Z5i t 70 400 h;simp only[Z60];exact⟨Yp,d.2,Yp,Yp⟩
 .refine Zn rfl ?_;unfold Z12;rw[QP];simp only[Zl7,Q2,decide_eq_true_eq,bne_iff_ne]
theorem c5:Contract Tryz.prog cfg 5 ZlQ:=by refine ZLF c16 ?_;intro o x y _ d;simp only[Zxg]at d;refine vc5 _ _ _ _ ?_;(simp only[vE]);(simp only[iB,vcT,vcS]);refine⟨d.1,λ_=>d.2.1,λ_=>d.2.2,?_⟩;refine Zn rfl ?_;rw[QP];simp only[Zl7,Q2]
theorem Zze:Z4s (.mk 3 Tree.nil Tree.nil [] [] 4 [⟨0,1,[],Edit.nil⟩],.mk 4 [] [Z7l],()):=by have zn:YF Edit.nil:=⟨Yc V0 V0,Zcb,Zcb,by simp,Yc V0 V0,trivial,trivial⟩;have i4:(-9223372036854775808:Int)<=4/\(4:Int)<=9223372036854775807:=Yp;have d:(-9223372036854775808:Int)<=10/\(10:Int)<=9223372036854775807:=Yp;refine⟨⟨V0,⟨Yc V0 V0,Zcb,Zcb,by simp,Yc V0 V0,trivial,⟨Yc V0 V0,Yc V0 V0,trivial,zn⟩,trivial⟩,64,by rfl⟩,V0,⟨i4,by simp,⟨d,?_,trivial⟩,trivial⟩⟩;intro x hx;rw[Qd]at hx;subst hx;exact Zqs V0 V0
theorem c6:Contract Tryz.prog cfg 6 ZlP:=by
 refine ZLE c17 c8 c10 ?_;intro _ _;refine vc6 _ ?_;intro y1 h1 y2 h2 y3 d y4 h4 y5 h5 y6 h6;have e1:y1=Edit.nil:=h1;subst e1;have e2:y2=J3 2:=h2;subst e2;rw[Znu]at d;subst d;rw[ZgC]at h4 h5⊢;subst h4;have e5:y5=⟨0,1,[],Edit.nil⟩:=h5;subst e5;have e6:y6=some (.mk 4 [] [Z7l]):=h6.trans ZuK;subst e6;have c2:ctE (J3 2)<=1000:=V0;have m2:Zi (J3 2)<=1000:=V0;have R2:=Zmv 2 (.inr rfl);have R1:=Zmv 1 (.inl rfl);have hc:(ZcU (J3 2) (J3 1)).2=true:=by rw[ZgC]
 have hk:=Zze;refine⟨⟨by show Zi (J3 2)<=_;omega,R2.2.2⟩,⟨R2,R1⟩,hk,?_⟩;repeat'(first|exact(λx=>x)|exact(λ_=>⟨V0,V0⟩)|exact Zn rfl rfl|apply And.intro)
noncomputable section
def ZCq(a:Tree×Tree×Tree×Int×Unit):Prop:=(Z3E a.1/\rng a.1)/\(Z3E a.2.1/\rng a.2.1)/\(Z3E a.2.2.1/\rng a.2.2.1)
def ZCk(a:Tree×Tree×Tree×Int×Unit):V U:=.c (.bool true)
def Zrh:Fs U:=fs Zo3 (λa=>[ZCq a]) ZCk
def Znm:List (FuncId×Fs U):=[(13,Z2m),(9,Z6e),(18,Zfp),(11,Z6k)]
def ZpH:Za U:=lvl [([],[]),([1],[]),([1,2,3],[2]),([1,2,3,4],[2,4]),([0],[])]
abbrev ZMG(p:List Nat):=AW (Z2 Znm) Tryz.f7 ZpH p
theorem ZG3(Q:QT)(h:∀d,d=(Tree.mk 1 [1,1] [])->∀ae,ae=(Tree.mk 1 [1,3] [])->∀ab,ab=(Tree.mk 1 [2,1] [])->∀aa,aa=(Tree.mk 1 [2,3] [])->∀af,af=(Z0 (Jh 9 d ab ae).1)->let z0:=((((Jh 9 d ab ae).2).length:Int):Int)==0;let z1:=bif z0 then(ZN af aa)else false;((ZfX (1,1,()))/\(ZfX (2,1,()))/\(ZfX (1,3,()))/\(Z5o (d,ab,ae,9,()))/\((ZfX (1,1,()))/\(ZfX (2,3,()))/\(ZoY (d,aa,9,()))/\((Tt z0)/\(z0=true->ZfX (2,3,()))/\(Tt z0)/\(Tt z0)/\(z0=true->Z8o (af,aa,()))/\(Tt z0)/\(Tt z1)/\(Tt z1)/\(Tt z1)/\(Tt z1)/\(Q .ret (L2 [(0,.c (.bool (bif z1 then((((Edit.words (Jb 9 d aa)).length:Int):Int)==2)else false)))] [])))))):ZMG [] (L2 [] []) Q:=(Eq.mpr V3 (h _ (Z3 _) _ (Z3 _) _ (Z3 _) _ (Z3 _) _ (Z3 _)):)
abbrev ZAS:Prop:=AW (Z2 Znm) Tryz.f7 ZpH [] (Zg (ZFJ.can ()) []) (EQ Tryz.f7 (ZLt ()) [])
theorem ZxS(Zjd:CT 13 Z2m)(c9:CT 9 Z6e)(c18:CT 18 Zfp)(c11:CT 11 Z6k)(hb:∀(_:Unit),pre6 ()->ZAS):CT 7 ZlP:=Z1 (l:=[(13,Z2m),(9,Z6e),(18,Zfp),(11,Z6k)]) Zf rfl (⟨Zjd,c9,c18,c11,trivial⟩) ZpH Tryz.func7 rfl rfl 0 (λ_=>rfl) V0 (λ_=>hb ())
def ZFz:List (FuncId×Fs U):=[(5,ZlQ),(6,ZlP),(7,ZlP),(13,Z2m),(9,Z6e),(10,Jt),(11,Z6k),(12,Zfs),(14,Zfr),(15,Z2F)]
def lv4:Za U:=lvl [([3,4,5,6],[4,5,6]),([3,4,5,6,22],[4,5,6]),([8],[]),([3,4,5,9,10],[4,5,9]),([3,4,5,9,10,39],[4,5,9]),([8],[]),([3,4,5,9,10,11],[4,5,9,11]),([3,4,5,9,10,11,12,13],[4,5,9,11,12]),([3,4,5,9,10,66],[4,5,9]),([8],[]),([3,5,9,10,14,15],[5,9,14]),([5,9,10,14,15,16,17],[5,9,14,16]),([8],[])]
abbrev A4(p:List Nat):=AW (Z2 ZFz) Tryz.f4 lv4 p
theorem vc4(o x y:Tree)(most:Int)(Q:QT)(h:∀aa,aa=o->∀ab,ab=x->∀ah,ah=y->∀ak,ak=(Z0 ab)->∀d,d=(Z0 (Jh most aa ab ah).1)->∀ae,ae=(Jb most aa d)->∀af,af=(Z0 (Jh most aa d d).1)->∀aj,aj=(Z0 (Jh most d d ab).1)->∀ai,ai=(Z1m ((doE false ae aa).map Z0))->let z4:=!((doE false ae aa).isSome);let z3:=bif z4 then true else(!(ZN ai d));let z2:=decide ((0:Int)<(((Jh most aa ab ah).2).length:Int));let z1:=bif(ZN af d)then(((((Jh most aa d d).2).length:Int):Int)==0)else false;let z6:=bif z1 then(ZN aj ak)else false;let z0:=bif z6 then(((((Jh most d d ab).2).length:Int):Int)==0)else false;let z5:=bif z0 then(bif z2 then true else(Zb d 64))else false;((Zxg (aa,ab,ah,()))/\(iB (!(Z12 aa&&Z12 ab&&Z12 ah)) ((pre6 ())/\(true=true->pre6 ())/\(Tt true)/\(Q .ret (L2 [pB 8 true] []))) ((Z5o (aa,ab,ah,most,()))/\((Zxg (aa,d,ab,()))/\(iB (!(Z12 aa&&Z12 d&&Z12 ab)) ((pre6 ())/\(true=true->pre6 ())/\(Tt true)/\(Q .ret (L2 [pB 8 true] []))) ((ZoY (aa,d,most,()))/\((Z4s (ae,aa,()))/\((Tt (!z4))/\(Tt (!z4))/\((!z4)=true->Z8o (ai,d,()))/\(Tt (!z4))/\(z4=false->(!z4)=true)/\(Tt (!z3))/\((!z3)=true->Zdq (ae,64,()))/\(Tt (!z3))/\(z3=false->(!z3)=true)/\(iB (bif z3 then true else(!(Z8 ae 64))) ((Q .ret (L2 [pB 8 false] []))) ((Z5o (aa,d,d,most,()))/\((Z5o (d,d,ab,most,()))/\((Z8o (af,d,()))/\(Tt (ZN af d))/\(Tt (ZN af d))/\(Tt (ZN af d))/\(Tt z1)/\(z1=true->ZfY (ab,()))/\(Tt z1)/\(Tt z1)/\(z1=true->Z8o (aj,ak,()))/\(Tt z1)/\(Tt z6)/\(Tt z6)/\(Tt z6)/\(Tt z0)/\(Tt z0)/\(Tt z0)/\(Tt (z0&&(!z2)))/\((z0&&(!z2))=true->Z60 (d,64,()))/\(z0=true->(True->z0=true))/\(z0=true->(z2=false->(z0&&(!z2))=true))/\(Tt z0)/\(z5=true->pre6 ())/\(Tt z5)/\(Q .ret (L2 [(8,.c (.bool (bif z5 then true else false)))] []))))))))))))))):A4 [] (L2 [(0,.agg (enc .tree o)),(1,.agg (enc .tree x)),(2,.agg (enc .tree y)),pI 3 most] []) Q:=(Eq.mpr V3 (h _ (Z3 _) _ (Z3 _) _ (Z3 _) _ (Z3 _) _ (Z3 _) _ (Zj _) _ (Z3 _) _ (Z3 _) _ (Z3 _)):)
abbrev ZMB(o x y:Tree)(most:Int):Prop:=AW (Z2 ZFz) Tryz.f4 lv4 [] (Zg (Zo3.can (o,x,y,most,())) []) (EQ Tryz.f4 (ZCk (o,x,y,most,())) [])
theorem ZLG(c5:CT 5 ZlQ)(c6:CT 6 ZlP)(ZzB:CT 7 ZlP)(Zjd:CT 13 Z2m)(c9:CT 9 Z6e)(c10:CT 10 Jt)(c11:CT 11 Z6k)(c12:CT 12 Zfs)(c14:CT 14 Zfr)(c15:CT 15 Z2F)(hb:∀(o:Tree)(x:Tree)(y:Tree)(d:Int)(_:Unit),ZCq (o,x,y,d,())->ZMB o x y d):CT 4 Zrh:=Z1 (l:=[(5,ZlQ),(6,ZlP),(7,ZlP),(13,Z2m),(9,Z6e),(10,Jt),(11,Z6k),(12,Zfs),(14,Zfr),(15,Z2F)]) Zf rfl (⟨c5,c6,ZzB,Zjd,c9,c10,c11,c12,c14,c15,trivial⟩) lv4 Tryz.func4 rfl rfl 4 (λ_=>rfl) V0 (λ⟨o,x,y,d,_⟩=>hb o x y d ())
end
theorem Zur:Jh 9 (s2 1 1) (s2 2 1) (s2 1 3)=(s2 2 3,[]):=by unfold Jh;rw[ZIz,ZIy];try rfl
theorem ZzB:Contract Tryz.prog cfg 7 ZlP:=by
 refine ZxS Zjd c9 c18 c11 ?_;intro _ _;refine ZG3 _ ?_;intro y1 h1 y2 h2 y3 h3 y4 h4 y5 d;have e1:y1=s2 1 1:=h1;have e2:y2=s2 1 3:=h2;have e3:y3=s2 2 1:=h3;have e4:y4=s2 2 3:=h4;subst e1 e2 e3 e4;rw[Zur]at d⊢;have e5:y5=s2 2 3:=d;subst e5;rw[ZIx];refine⟨trivial,trivial,trivial,⟨⟨Zwd 1 1 V0 V0,Zwd 2 1 V0 V0,Zwd 1 3 V0 V0⟩,V0,V0,V0⟩,trivial,trivial,⟨Zwd 1 1 V0 V0,Zwd 2 3 V0 V0,V0⟩,?_⟩;have es:ZN (s2 2 3) (s2 2 3)=true:=by simp[ZN]
 rw[es];have m:mass (s2 2 3)=3:=rfl;repeat'(first|exact(λx=>x)|exact(λ_=>trivial)|exact(λ_=>by show mass (s2 2 3)<=_;omega)|exact Zn rfl rfl|apply And.intro)
theorem Zt1{t:Tree}(h:Z12 t=true):Zb t 64=true:=by unfold Z12 at h;simp only[Q2]at h;exact h.1.2
theorem c4:Contract Tryz.prog cfg 4 Zrh:=by
 refine ZLG c5 c6 ZzB Zjd c9 c10 c11 c12 ZIH.1 c15 ?_;intro o x y d _ hp;simp only[ZCq]at hp;obtain⟨⟨so,go⟩,⟨sx,gx⟩,sy,gy⟩:=hp;refine vc4 _ _ _ _ _ ?_;intro y1 h1 y2 h2 y3 h3 y4 h4 y5 h5 y6 h6 y7 h7 y8 h8 y9 h9;replace h1:=h1.symm;replace h2:=h2.symm;replace h3:=h3.symm;subst h1 h2 h3;(simp only[iB,vcT,vcS]);dsimp only at h4 h5 h6 h7 h8 h9;refine⟨⟨⟨so,go⟩,⟨sx,gx⟩,sy,gy⟩,λ_=>⟨trivial,trivial,by simp only[ZCk];(repeat'(first|exact trivial|exact rfl|apply And.intro))⟩,λhg=>?_⟩;obtain⟨to,mo⟩:=Zbu go hg.1.1;obtain⟨tx,mx⟩:=Zbu gx hg.1.2;obtain⟨ty,my⟩:=Zbu gy hg.2;have F:=Zn5 d to tx ty Yp Yp Yp;have gt:rng y5:=by rw[h5];exact Z03 _ F.2
 have wt:mass y5<=3000000000:=by have:=ZI (Jh d o x y).1;rw[h5];omega
 have it:Z0 y5=y5:=by rw[h5];exact Z19 _
 refine⟨⟨⟨to,tx,ty⟩,V1,V1,V1⟩,⟨⟨so,go⟩,⟨Zda _ V1,gt⟩,sx,gx⟩,λ_=>⟨trivial,trivial,by simp only[ZCk];(repeat'(first|exact trivial|exact rfl|apply And.intro))⟩,λae=>?_⟩;obtain⟨tt,mt⟩:=Zbu gt ae.1.2;have rt:=Zt1 ae.1.2;have D:=Z3p d to tt;have Da:=ZqC d to tt;have D6:=Zzt d to tt (Zt1 hg.1.1) rt;have S:=Zps d to tt Yp Yp;have B:=Zpt d tt tx Yp Yp;rw[<-h6]at D Da D6;rw[S.2,it]at h7;rw[B.2,<-h4]at h8;rw[Da]at h9;have e9:y9=y5:=h9.trans it;subst h7;have hs:(doE false y6 o).isSome=true:=by revert Da;cases doE false y6 o with|none=>intro h;cases h|some x=>intro _;rfl
 have mn:=ZI x;have es:∀t:Tree,ZN t t=true:=λt=>by simp[ZN]
 have m1:=D.m;have m2:=D.ct;refine⟨⟨to,tt,by show mass o+mass y7<=_;omega⟩,⟨⟨V1,D.g,_,D.r⟩,V1,go⟩,λ_=>by rw[e9];show mass y7<=_;omega,λ_=>⟨⟨V1,D.g⟩,V1,V1⟩,λh=>?_,λ_=>?_⟩;.rw[hs,e9,es,D6]at h;rcases h with(h|h)|h<;>cases h
 .refine⟨⟨⟨to,tt,tt⟩,V1,V1,V1⟩,⟨⟨tt,tt,tx⟩,V1,V1,V1⟩,by show mass y7<=_;omega,λ_=>by show mass x<=_;omega,λ_=>by rw[h8,h4];show mass (Z0 x)<=_;omega,λ_=>⟨V1,gt,V1,V1⟩,λh1 h2=>⟨h1,h2⟩,λ_=>trivial,?_⟩;refine Zn rfl ?_;rw[S.1,B.1,h8,es,es,rt];simp
end Go.AM.YtnfbomhidainjaaGreat
