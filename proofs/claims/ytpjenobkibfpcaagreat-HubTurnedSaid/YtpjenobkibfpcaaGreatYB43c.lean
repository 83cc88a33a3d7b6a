import Derived.Test.YtpjenobkibfpcaaGreatYL43
import Derived.Test.YtpjenobkibfpcaaGreatZCB30a
set_option linter.unusedSimpArgs false
set_option linter.unusedVariables false
namespace Go.AM.YtpjenobkibfpcaaGreat
open Go.AM Go.Proofs
theorem c49:Contract Tryz.prog cfg 49 Z4K:=by
 refine ZBY c82 c75 ?_
 intro t _ hp
 obtain ⟨⟨s,u⟩,d,h4⟩:=hp
 dsimp only at s u d h4
 refine ZHl _ _ ?_
 (simp only [vE])
 (simp only [iB,vcT,vcS])
 refine ⟨⟨s,u⟩,fun h=> ?_,fun _=> ⟨by show Zj t<=_;omega,?_⟩⟩
 .rcases h with h | h
  .rw [d] at h;cases h
  .exact absurd h h4
 .simp only [Zsu]
  exact V1
theorem c51:Contract Tryz.prog cfg 51 Z2f:=by
 refine ZBW ?_
 intro d s hc hl _ _
 refine ZHj _ _ _ _ _ ⟨(fun h=> by cases h),fun _=> ?_⟩
 simp only [Zss,Zl3]
 exact V1
theorem c59:Contract Tryz.prog cfg 59 Zd6:=by
 refine ZBU ?_
 intro dk dw dc dv ek eo ab u en d aa ew ec li s _ _
 refine ZHh _ _ _ _ _ _ _ _ _ _ _ _ _ _ _ _ ⟨(fun h=> by cases h),fun _=> ?_⟩
 simp only [Zsq,Zl1]
 exact V1
theorem c61:Contract Tryz.prog cfg 61 Zd4:=by
 refine ZBS c51 ?_
 intro d s hc hl _ _
 refine ZHf _ _ _ _ _ ⟨(fun h=> by cases h),fun _=> ⟨trivial,?_⟩⟩
 simp only [Zso,Zl3]
 exact V1
theorem c94:Contract Tryz.prog cfg 94 Z2d:=by
 refine ZBG c25 c82 ?_
 intro e t _ hp
 obtain ⟨⟨h1,h2,d,h3⟩,h4,h5⟩:=hp
 dsimp only at h1 h2 h3 h4 h5
 refine ZGY _ _ _ ?_
 rintro y1 rfl y2 rfl y3 e3
 (simp only [iB,vcT,vcS])
 have fin:∀ {r:Tree × Int} {s:LSt U},ZN y1 y2=r->ZX cfg Tryz.f94.ntmps Tryz.f94.results.toList (.tup [(true,[.int .i64 r.1.kind,.slice .u64 r.1.words .unk,.slice .tree r.1.kids .unk]),(false,[.int .i64 r.2])]) [] .ret s->
   ZX cfg Tryz.f94.ntmps Tryz.f94.results.toList (Zsk (y1,y2,())) [] .ret s:=by
  intro r s h hs
  subst h
  exact hs
 refine ⟨⟨⟨h1,h2,d,h3⟩,V5,h5⟩,fun hn=> ?_,fun hs=> ?_⟩
 .cases hu:doE false y1 y2 with
  | some u=> rw [hu] at hn;cases hn
  | none=> exact fin (r:=(Tree.nil,13)) (Zgk hu) V1
 .obtain ⟨u,hu⟩:=Zsd hs
  have e4:y3=Z3 u:=by rw [e3,hu];try rfl
  rw [e4]
  have hm:=Zcm false _ d _ _ h3 hu
  have au:=Yx u
  refine ⟨⟨V5,Z1i _ (Zdn false _ _ _ h2 h5 hu)⟩,fun hr=> ?_,fun hr=> ?_⟩
  .exact fin (r:=(Tree.nil,3)) (Zkn hu (by rw [hr];decide)) V1
  .rw [hu]
   exact fin (r:=(Z3 u,0)) (Z9z hu hr) V1
theorem ZoP{l:List Edit}{i:Int}(h0:0<=i)(h:i < l.length):l.drop i.toNat=l.getD i.toNat Edit.nil ::l.drop (i+1).toNat:=by
 have d:i.toNat < l.length:=V0
 rw [QI d,show (i+1).toNat=i.toNat+1 by omega,Qz,Q0 d]
 try rfl
theorem Zkj(t:Tree):Tree.mk t.kind t.words t.kids=t:=by cases t;rfl
theorem ZGr(e:Edit):Edit.mk e.kind (Tree.mk e.old.kind e.old.words e.old.kids) (Tree.mk e.new.kind e.new.words e.new.kids) e.words e.kids e.list e.ops=e:=by rw [Zkj,Zkj];cases e;rfl
theorem c93:Contract Tryz.prog cfg 93 Z4G:=by
 refine ZBH c16 Zmc.1 ?_
 intro e l _ hp
 obtain ⟨h1,h2⟩:=hp
 dsimp only at h1 h2
 refine ZGZ _ _ _ ?_
 have fin:∀ {X:Edit} {m:List Edit} {n:Int} {s:LSt U},Z1z l e []=(X,m,n)->ZX cfg Tryz.f93.ntmps Tryz.f93.results.toList (.tup [(true,enc .edit X),(false,[.slice .edit m (.own (.r 0 16))]),(false,[.int .i64 n])]) [] .ret s->
   ZX cfg Tryz.f93.ntmps Tryz.f93.results.toList (Zn7 (e,l,())) [] .ret s:=by
  intro X m n s h hs
  simp only [Zn7]
  rw [h]
  exact hs
 refine Ze (ι:=Int × Edit × List Edit) (fun j=> Z9a e l j.1 j.2.1.kind j.2.1.old.kind j.2.1.old.words j.2.1.old.kids j.2.1.new.kind j.2.1.new.words j.2.1.new.kids j.2.1.words j.2.1.kids j.2.1.list j.2.1.ops j.2.2)
  (fun j=> (0<=j.1/\j.1<=l.length)/\Z1z l e []=Z1z (l.drop j.1.toNat) j.2.1 j.2.2/\Zf2 (l.drop j.1.toNat) j.2.1/\(j.2.2.length:Int)<=j.1)
  (fun j=> ((l.length:Int) - j.1).toNat) (0,e,[]) rfl ⟨⟨V5,V5⟩,rfl,h1,by simp⟩ ?_
 rintro ⟨i,x,out⟩ ⟨⟨i0,i1⟩,d,u,hL⟩
 dsimp only at i0 i1 d u hL
 refine Zwo _ _ _ _ _ _ _ _ _ _ _ _ _ _ _ _ _ ?_
 rintro y1 ab y2 aa y3 rfl y4 ae
 rw [ZGr] at aa
 subst aa
 (simp only [iB,vcT,vcS])
 refine ⟨fun hc=> ?_,fun hc=> ?_⟩
 .rw [ZoP i0 hc,<-ab] at d u
  obtain ⟨o1,o2⟩:=u
  rw [Z1z] at d
  refine ⟨⟨i0,hc⟩,o1,fun hn=> ?_,fun h0=> ⟨by simp only [Qs,Qh];omega,V2,(i+1,(lbN y2 y3).1,out++[y4]),rfl,⟨⟨V5,V5⟩,?_,o2 h0,?_⟩,V5⟩⟩
  .rw [if_neg hn] at d
   exact fin d V1
  .rw [if_pos h0,<-ae] at d
   exact d
  .rw [Qb]
   simp only [Qs,Qh]
   omega
 .have hd:l.drop i.toNat=[]:=Qd V0
  rw [hd] at d u
  exact ⟨Z3h u,fin d V1⟩
theorem Zx0{v:Int}{e:Edit}{h:HubT}(k:¬ZaZ v e h=true):Zr v e h=(h,0,2):=by unfold Zr;exact if_neg k
theorem ZfN{v:Int}{e:Edit}{h:HubT}:ZaZ v e h=true↔0<=v/\v<=h.log.length/\Z5 e 64=true:=by
 unfold ZaZ
 rw [Q4,Q4,decide_eq_true_eq,decide_eq_true_eq]
theorem Z9X{v:Int}{h:HubT}:ZfO v h=true↔0<=v/\v<=h.log.length:=by
 unfold ZfO
 rw [Q4,decide_eq_true_eq,decide_eq_true_eq]
theorem c60:Contract Tryz.prog cfg 60 Zd5:=by
 refine ZBT c84 ?_
 intro d u hc hl v _ hp
 have h1:hl.length<=1000000000:=hp
 refine ZHg _ _ _ _ _ _ ?_
 (simp only [iB,vcT,vcS])
 have fin:∀ {r:List Edit × Int} {s:LSt U},Z1B v ⟨.mk d u hc,hl⟩=r->ZX cfg Tryz.f60.ntmps Tryz.f60.results.toList (.tup [(false,[.slice .edit r.1 (.own (.r 0 0))]),(false,[.int .i64 r.2])]) (Z9T ((d,u,hc,hl,()),v,())) .ret s->
   ZX cfg Tryz.f60.ntmps Tryz.f60.results.toList (Zsp ((d,u,hc,hl,()),v,())) (Z9T ((d,u,hc,hl,()),v,())) .ret s:=by
  intro r s h hs
  subst h
  exact hs
 refine ⟨(fun h=> by cases h),fun h=> ?_,fun h=> ⟨V0,by show (hl.drop v.toNat).length<=_;rw [QX];omega,?_⟩⟩
 .refine fin (r:=([],2)) ?_ (by simp only [Z9T];(repeat' (first | exact trivial | exact rfl | apply And.intro)))
  unfold Z1B
  exact if_neg fun k=> by have k:=Z9X.1 k;dsimp only at k;omega
 .refine fin (r:=(hl.drop v.toNat,0)) ?_ (by simp only [Z9T];(repeat' (first | exact trivial | exact rfl | apply And.intro)))
  unfold Z1B
  exact if_pos (Z9X.2 V5)
theorem c50:Contract Tryz.prog cfg 50 Z4J:=by
 refine ZBX c28 c93 c94 c84 ?_
 intro hk u hc hl v e _ hp
 obtain ⟨h1,h2,h3⟩:=hp
 dsimp only at h1 h2 h3
 refine ZHk _ _ _ _ _ _ _ ?_
 rintro y1 rfl y2 ae
 (simp only [iB,vcT,vcS])
 have fin:∀ {r:HubT × Int × Int} {s:LSt U},Zr v y1 ⟨.mk hk u hc,hl⟩=r->ZX cfg Tryz.f50.ntmps Tryz.f50.results.toList (.tup [(false,[.int .i64 r.2.1]),(false,[.int .i64 r.2.2])]) [[.int .i64 r.1.now.kind,.slice .u64 r.1.now.words .unk,.slice .tree r.1.now.kids .unk,.slice .edit r.1.log .unk]] .ret s->
   ZX cfg Tryz.f50.ntmps Tryz.f50.results.toList (Zst ((hk,u,hc,hl,()),v,y1,())) (Zl4 ((hk,u,hc,hl,()),v,y1,())) .ret s:=by
  intro r s h hs
  subst h
  exact hs
 have eb:Z1t v y1 ⟨.mk hk u hc,hl⟩=Z1z (hl.drop v.toNat) y1 []:=rfl
 refine ⟨(fun h=> by cases h),fun _=> h1,fun h=> ?_,fun h=> ?_⟩
 .refine fin (r:=(⟨.mk hk u hc,hl⟩,0,2)) (Zx0 fun k=> ?_) V1
  obtain ⟨k1,k2,k3⟩:=ZfN.1 k
  dsimp only at k2
  rcases h with h | h
  .omega
  .rw [k3] at h;cases h
 .obtain ⟨hv,hr⟩:=h
  have hB:ZaZ v y1 ⟨.mk hk u hc,hl⟩=true:=ZfN.2 ⟨V0,V5,hr⟩
  obtain ⟨b1,b2⟩:=h2 hB
  rw [eb,<-ae] at b2
  have d:Zr v y1 ⟨.mk hk u hc,hl⟩=_:=if_pos hB
  rw [eb,<-ae] at d
  refine ⟨V0,⟨b1,by show (hl.drop v.toNat).length<=_;rw [QX];omega⟩,fun hn=> ?_,fun h0=> ⟨b2 h0,fun hm=> ?_,fun hm=> ⟨by show hl.length<=_;omega,by simp only [Qs,Qh];omega,?_⟩⟩⟩
  .rw [if_neg hn] at d
   exact fin d V1
  .rw [if_pos h0,if_neg hm] at d
   exact fin d V1
  .rw [if_pos h0,if_pos hm] at d
   refine fin d ?_
   rw [show (((hl++[y2]).length:Nat):Int)=(hl.length:Int)+1 by rw [Qb];rfl]
   exact V1
noncomputable section
def Znq(a:Edit × Unit):Prop:=False
def ZwV(a:Edit × Unit):V U:= .agg (enc .edit Edit.nil)
def Z81:Fs U:=fs Zps (fun a=> [Znq a]) ZwV
def ZvU:ArgL (List WEdit × List WEdit × Unit):=(.cons (aSl .wedit) (.cons (aSl .wedit) .nil))
def Znp(a:List WEdit × List WEdit × Unit):Prop:=False
def ZwU(a:List WEdit × List WEdit × Unit):V U:= .tup [(false,[sU .wedit ([]:List WEdit) .unk]),(false,[.bool false])]
def Z80:Fs U:=fs ZvU (fun a=> [Znp a]) ZwU
def ZvT:ArgL (List Kid × List Kid × Unit):=(.cons (aSl .kid) (.cons (aSl .kid) .nil))
def Zno(a:List Kid × List Kid × Unit):Prop:=False
def ZwT(a:List Kid × List Kid × Unit):V U:= .tup [(false,[sU .kid ([]:List Kid) .unk]),(false,[.bool false])]
def Z7Z:Fs U:=fs ZvT (fun a=> [Zno a]) ZwT
def Znn(a:List Op × List Op × Unit):Prop:=False
def ZwS(a:List Op × List Op × Unit):V U:= .tup [(false,[sU .op ([]:List Op) .unk]),(false,[.bool false])]
def Z7Y:Fs U:=fs Zpo (fun a=> [Znn a]) ZwS
def Zhr(a:Edit × Edit × Unit):Prop:=Edit.kind a.1=0
def Zh4(a:Edit × Edit × Unit):V U:= .tup [(true,(enc .edit a.2.1)),(false,[.bool true])]
def Z4O:Fs U:=fs Zw3 (fun a=> [Zhr a]) Zh4
def Zhs(a:Edit × Edit × Unit):Prop:=Edit.kind a.1=0/\Jx a.2.1
def Zh5(a:Edit × Edit × Unit):V U:= .tup [(true,(enc .edit (Zi a.2.1))),(false,[.bool true])]
def Z4P:Fs U:=fs Zw3 (fun a=> [Zhs a]) Zh5
def Zmk:ArgM ((Int × List Int × List Tree × Int × Int × Int × List Int × List Tree × Int × List Int × List Tree × List WEdit × List Kid × Int × List Op × Unit) × Edit × Unit):=(.obj 0 (.cons (JN .i64) (.cons (cSl .u64) (.cons (cSl .tree) (.cons (JN .i64) (.cons (JN .i64) (.cons (JN .i64) (.cons (cSl .u64) (.cons (cSl .tree) (.cons (JN .i64) (.cons (cSl .u64) (.cons (cSl .tree) (.cons (cSl .wedit) (.cons (cSl .kid) (.cons (JN .i64) (.cons (cSl .op) .nil))))))))))))))) (.cons (aEl .edit) .nil))
def Znm(a:(Int × List Int × List Tree × Int × Int × Int × List Int × List Tree × Int × List Int × List Tree × List WEdit × List Kid × Int × List Op × Unit) × Edit × Unit):Prop:=(a.1.2.2.2.2.1=0/\(Za a.2.1<=18000000000/\Yp a.2.1))/\(Z5 a.2.1 64=true->Jx a.2.1/\Z7c a.2.1 (Tree.mk a.1.1 a.1.2.1 a.1.2.2.1))
def Zsn(a:(Int × List Int × List Tree × Int × Int × Int × List Int × List Tree × Int × List Int × List Tree × List WEdit × List Kid × Int × List Op × Unit) × Edit × Unit):V U:= .c (ci ((Z1s a.2.1 (DeskT.mk (Tree.mk a.1.1 a.1.2.1 a.1.2.2.1) a.1.2.2.2.1 (Edit.mk a.1.2.2.2.2.1 (Tree.mk a.1.2.2.2.2.2.1 a.1.2.2.2.2.2.2.1 a.1.2.2.2.2.2.2.2.1) (Tree.mk a.1.2.2.2.2.2.2.2.2.1 a.1.2.2.2.2.2.2.2.2.2.1 a.1.2.2.2.2.2.2.2.2.2.2.1) a.1.2.2.2.2.2.2.2.2.2.2.2.1 a.1.2.2.2.2.2.2.2.2.2.2.2.2.1 a.1.2.2.2.2.2.2.2.2.2.2.2.2.2.1 a.1.2.2.2.2.2.2.2.2.2.2.2.2.2.2.1))).2))
def ZkZ(a:(Int × List Int × List Tree × Int × Int × Int × List Int × List Tree × Int × List Int × List Tree × List WEdit × List Kid × Int × List Op × Unit) × Edit × Unit):List (List (C U)):=[(enc .tree (DeskT.now ((Z1s a.2.1 (DeskT.mk (Tree.mk a.1.1 a.1.2.1 a.1.2.2.1) a.1.2.2.2.1 (Edit.mk a.1.2.2.2.2.1 (Tree.mk a.1.2.2.2.2.2.1 a.1.2.2.2.2.2.2.1 a.1.2.2.2.2.2.2.2.1) (Tree.mk a.1.2.2.2.2.2.2.2.2.1 a.1.2.2.2.2.2.2.2.2.2.1 a.1.2.2.2.2.2.2.2.2.2.2.1) a.1.2.2.2.2.2.2.2.2.2.2.2.1 a.1.2.2.2.2.2.2.2.2.2.2.2.2.1 a.1.2.2.2.2.2.2.2.2.2.2.2.2.2.1 a.1.2.2.2.2.2.2.2.2.2.2.2.2.2.2.1))).1))++[ci (DeskT.version ((Z1s a.2.1 (DeskT.mk (Tree.mk a.1.1 a.1.2.1 a.1.2.2.1) a.1.2.2.2.1 (Edit.mk a.1.2.2.2.2.1 (Tree.mk a.1.2.2.2.2.2.1 a.1.2.2.2.2.2.2.1 a.1.2.2.2.2.2.2.2.1) (Tree.mk a.1.2.2.2.2.2.2.2.2.1 a.1.2.2.2.2.2.2.2.2.2.1 a.1.2.2.2.2.2.2.2.2.2.2.1) a.1.2.2.2.2.2.2.2.2.2.2.2.1 a.1.2.2.2.2.2.2.2.2.2.2.2.2.1 a.1.2.2.2.2.2.2.2.2.2.2.2.2.2.1 a.1.2.2.2.2.2.2.2.2.2.2.2.2.2.2.1))).1))]++enc .edit (DeskT.pending ((Z1s a.2.1 (DeskT.mk (Tree.mk a.1.1 a.1.2.1 a.1.2.2.1) a.1.2.2.2.1 (Edit.mk a.1.2.2.2.2.1 (Tree.mk a.1.2.2.2.2.2.1 a.1.2.2.2.2.2.2.1 a.1.2.2.2.2.2.2.2.1) (Tree.mk a.1.2.2.2.2.2.2.2.2.1 a.1.2.2.2.2.2.2.2.2.2.1 a.1.2.2.2.2.2.2.2.2.2.2.1) a.1.2.2.2.2.2.2.2.2.2.2.2.1 a.1.2.2.2.2.2.2.2.2.2.2.2.2.1 a.1.2.2.2.2.2.2.2.2.2.2.2.2.2.1 a.1.2.2.2.2.2.2.2.2.2.2.2.2.2.2.1))).1)))]
def Zd3:Fs U:=fsX Zmk (fun a=> [Znm a]) Zsn ZkZ
def Zmo:ArgM ((Int × List Int × List Tree × Int × Int × Int × List Int × List Tree × Int × List Int × List Tree × List WEdit × List Kid × Int × List Op × Unit) × (Int × List Int × List Tree × List Edit × Unit) × Unit):=(.obj 0 (.cons (JN .i64) (.cons (cSl .u64) (.cons (cSl .tree) (.cons (JN .i64) (.cons (JN .i64) (.cons (JN .i64) (.cons (cSl .u64) (.cons (cSl .tree) (.cons (JN .i64) (.cons (cSl .u64) (.cons (cSl .tree) (.cons (cSl .wedit) (.cons (cSl .kid) (.cons (JN .i64) (.cons (cSl .op) .nil))))))))))))))) (.obj 1 (.cons (JN .i64) (.cons (cSl .u64) (.cons (cSl .tree) (.cons (cSl .edit) .nil)))) .nil))
def Zjr(a:(Int × List Int × List Tree × Int × Int × Int × List Int × List Tree × Int × List Int × List Tree × List WEdit × List Kid × Int × List Op × Unit) × (Int × List Int × List Tree × List Edit × Unit) × Unit):Prop:=ZgG (DeskT.mk (Tree.mk a.1.1 a.1.2.1 a.1.2.2.1) a.1.2.2.2.1 (Edit.mk a.1.2.2.2.2.1 (Tree.mk a.1.2.2.2.2.2.1 a.1.2.2.2.2.2.2.1 a.1.2.2.2.2.2.2.2.1) (Tree.mk a.1.2.2.2.2.2.2.2.2.1 a.1.2.2.2.2.2.2.2.2.2.1 a.1.2.2.2.2.2.2.2.2.2.2.1) a.1.2.2.2.2.2.2.2.2.2.2.2.1 a.1.2.2.2.2.2.2.2.2.2.2.2.2.1 a.1.2.2.2.2.2.2.2.2.2.2.2.2.2.1 a.1.2.2.2.2.2.2.2.2.2.2.2.2.2.2.1)) (HubT.mk (Tree.mk a.2.1.1 a.2.1.2.1 a.2.1.2.2.1) a.2.1.2.2.2.1)
def Zsr(a:(Int × List Int × List Tree × Int × Int × Int × List Int × List Tree × Int × List Int × List Tree × List WEdit × List Kid × Int × List Op × Unit) × (Int × List Int × List Tree × List Edit × Unit) × Unit):V U:= .c (ci ((Z0T (DeskT.mk (Tree.mk a.1.1 a.1.2.1 a.1.2.2.1) a.1.2.2.2.1 (Edit.mk a.1.2.2.2.2.1 (Tree.mk a.1.2.2.2.2.2.1 a.1.2.2.2.2.2.2.1 a.1.2.2.2.2.2.2.2.1) (Tree.mk a.1.2.2.2.2.2.2.2.2.1 a.1.2.2.2.2.2.2.2.2.2.1 a.1.2.2.2.2.2.2.2.2.2.2.1) a.1.2.2.2.2.2.2.2.2.2.2.2.1 a.1.2.2.2.2.2.2.2.2.2.2.2.2.1 a.1.2.2.2.2.2.2.2.2.2.2.2.2.2.1 a.1.2.2.2.2.2.2.2.2.2.2.2.2.2.2.1)) (HubT.mk (Tree.mk a.2.1.1 a.2.1.2.1 a.2.1.2.2.1) a.2.1.2.2.2.1)).2))
def Zl2(a:(Int × List Int × List Tree × Int × Int × Int × List Int × List Tree × Int × List Int × List Tree × List WEdit × List Kid × Int × List Op × Unit) × (Int × List Int × List Tree × List Edit × Unit) × Unit):List (List (C U)):=[(enc .tree (DeskT.now ((Z0T (DeskT.mk (Tree.mk a.1.1 a.1.2.1 a.1.2.2.1) a.1.2.2.2.1 (Edit.mk a.1.2.2.2.2.1 (Tree.mk a.1.2.2.2.2.2.1 a.1.2.2.2.2.2.2.1 a.1.2.2.2.2.2.2.2.1) (Tree.mk a.1.2.2.2.2.2.2.2.2.1 a.1.2.2.2.2.2.2.2.2.2.1 a.1.2.2.2.2.2.2.2.2.2.2.1) a.1.2.2.2.2.2.2.2.2.2.2.2.1 a.1.2.2.2.2.2.2.2.2.2.2.2.2.1 a.1.2.2.2.2.2.2.2.2.2.2.2.2.2.1 a.1.2.2.2.2.2.2.2.2.2.2.2.2.2.2.1)) (HubT.mk (Tree.mk a.2.1.1 a.2.1.2.1 a.2.1.2.2.1) a.2.1.2.2.2.1)).1.1))++[ci (DeskT.version ((Z0T (DeskT.mk (Tree.mk a.1.1 a.1.2.1 a.1.2.2.1) a.1.2.2.2.1 (Edit.mk a.1.2.2.2.2.1 (Tree.mk a.1.2.2.2.2.2.1 a.1.2.2.2.2.2.2.1 a.1.2.2.2.2.2.2.2.1) (Tree.mk a.1.2.2.2.2.2.2.2.2.1 a.1.2.2.2.2.2.2.2.2.2.1 a.1.2.2.2.2.2.2.2.2.2.2.1) a.1.2.2.2.2.2.2.2.2.2.2.2.1 a.1.2.2.2.2.2.2.2.2.2.2.2.2.1 a.1.2.2.2.2.2.2.2.2.2.2.2.2.2.1 a.1.2.2.2.2.2.2.2.2.2.2.2.2.2.2.1)) (HubT.mk (Tree.mk a.2.1.1 a.2.1.2.1 a.2.1.2.2.1) a.2.1.2.2.2.1)).1.1))]++enc .edit (DeskT.pending ((Z0T (DeskT.mk (Tree.mk a.1.1 a.1.2.1 a.1.2.2.1) a.1.2.2.2.1 (Edit.mk a.1.2.2.2.2.1 (Tree.mk a.1.2.2.2.2.2.1 a.1.2.2.2.2.2.2.1 a.1.2.2.2.2.2.2.2.1) (Tree.mk a.1.2.2.2.2.2.2.2.2.1 a.1.2.2.2.2.2.2.2.2.2.1 a.1.2.2.2.2.2.2.2.2.2.2.1) a.1.2.2.2.2.2.2.2.2.2.2.2.1 a.1.2.2.2.2.2.2.2.2.2.2.2.2.1 a.1.2.2.2.2.2.2.2.2.2.2.2.2.2.1 a.1.2.2.2.2.2.2.2.2.2.2.2.2.2.2.1)) (HubT.mk (Tree.mk a.2.1.1 a.2.1.2.1 a.2.1.2.2.1) a.2.1.2.2.2.1)).1.1))),(enc .tree (HubT.now ((Z0T (DeskT.mk (Tree.mk a.1.1 a.1.2.1 a.1.2.2.1) a.1.2.2.2.1 (Edit.mk a.1.2.2.2.2.1 (Tree.mk a.1.2.2.2.2.2.1 a.1.2.2.2.2.2.2.1 a.1.2.2.2.2.2.2.2.1) (Tree.mk a.1.2.2.2.2.2.2.2.2.1 a.1.2.2.2.2.2.2.2.2.2.1 a.1.2.2.2.2.2.2.2.2.2.2.1) a.1.2.2.2.2.2.2.2.2.2.2.2.1 a.1.2.2.2.2.2.2.2.2.2.2.2.2.1 a.1.2.2.2.2.2.2.2.2.2.2.2.2.2.1 a.1.2.2.2.2.2.2.2.2.2.2.2.2.2.2.1)) (HubT.mk (Tree.mk a.2.1.1 a.2.1.2.1 a.2.1.2.2.1) a.2.1.2.2.2.1)).1.2))++[sU .edit (HubT.log ((Z0T (DeskT.mk (Tree.mk a.1.1 a.1.2.1 a.1.2.2.1) a.1.2.2.2.1 (Edit.mk a.1.2.2.2.2.1 (Tree.mk a.1.2.2.2.2.2.1 a.1.2.2.2.2.2.2.1 a.1.2.2.2.2.2.2.2.1) (Tree.mk a.1.2.2.2.2.2.2.2.2.1 a.1.2.2.2.2.2.2.2.2.2.1 a.1.2.2.2.2.2.2.2.2.2.2.1) a.1.2.2.2.2.2.2.2.2.2.2.2.1 a.1.2.2.2.2.2.2.2.2.2.2.2.2.1 a.1.2.2.2.2.2.2.2.2.2.2.2.2.2.1 a.1.2.2.2.2.2.2.2.2.2.2.2.2.2.2.1)) (HubT.mk (Tree.mk a.2.1.1 a.2.1.2.1 a.2.1.2.2.1) a.2.1.2.2.2.1)).1.2)) .unk])]
def Zd7:Fs U:=fsX Zmo (fun a=> [Zjr a]) Zsr Zl2
def ZvN:ArgL (Int × Int × Int × Unit):=(.cons (Yr .i64) (.cons (Yr .u64) (.cons (Yr .u64) .nil)))
def Znk(a:Int × Int × Int × Unit):Prop:=True
def Zsl(a:Int × Int × Int × Unit):V U:= .agg (enc .edit (Z4S a.1 a.2.1 a.2.2.1))
def ZcW:Fs U:=fs ZvN (fun a=> [Znk a]) Zsl
def ZAo(a:Unit):V U:= .c (.bool true)
def Zd8:Fs U:=fs ZpA (fun a=> [Za3 a]) ZAo
def Zk3:List (FuncId × Fs U):=[(25,Z0t),(85,Z81),(164,Z80),(165,Z7Z),(166,Z7Y)]
def ZlG:Zc U:=lvl [([2,3,4],[2,3,4]),([2,3,4,15],[2,3,4]),([4,5],[4]),([2,3,4,20],[2,3,4]),([4,5],[4]),([2,3,4,25],[2,3,4]),([2,4,6,7],[2,4,6]),([4,5],[4]),([2,3,4,41],[2,3,4]),([3,4,8,9],[3,4,8]),([4,5],[4]),([2,3,4,58],[2,3,4]),([4,5],[4]),([2,3,4,72],[2,3,4]),([2,3,4,10,11],[2,3,4]),([2,3,4,10,85],[2,3,4]),([4,5],[4]),([4,10,11,12],[4]),([4,5],[4]),([2,4,13,14],[2,4]),([4,5],[4])]
abbrev ZGU(p:List Nat):=AW (Z1 Zk3) Tryz.f111 ZlG p
theorem ZB5(p q:Edit)(Q:QT)(h:∀ ab,ab=p->∀ d,d=q->∀ aa,aa=(Edit.nil)->∀ u,u=(p.new)->∀ s,s=(q.old)->let z1:=(Q .ret (L2 [pL 4,pB 5 false] [(.loc 4,zc1)]));let z0:=p.kind !=q.kind;(iB (p.kind==0) ((Q .ret (L2 [pL 4,pB 5 true] [(.loc 4,(enc .edit q))]))) ((iB (q.kind==0) ((Q .ret (L2 [pL 4,pB 5 true] [(.loc 4,(enc .edit p))]))) ((iB (p.kind==1) ((Z3g (d,u,()))/\(Q .ret (L2 [pL 4,pB 5 ((doE false d u).isSome)] [(.loc 4,([ci 1]++enc .tree p.old++enc .tree (Z1o ((doE false d u).map Z3))++[.nils,.nils,ci 0,.nils]))]))) ((iB (q.kind==1) ((Znq (ab,()))/\(Z3g (aa,s,()))/\(Q .ret (L2 [pL 4,pB 5 ((doE false aa s).isSome)] [(.loc 4,([ci 1]++enc .tree (Z1o ((doE false aa s).map Z3))++enc .tree q.new++[.nils,.nils,ci 0,.nils]))]))) ((Tt (!z0))/\(Tt (!z0))/\(Tt (!z0))/\(Tt (!z0))/\(z0=false->(!z0)=true)/\(iB (bif z0 then true else (p.list !=q.list)) z1 ((iB (p.kind==2) ((Znp (p.words,q.words,()))/\(iB (!false) z1 ((Zno (p.kids,q.kids,()))/\(Q .ret (L2 [pL 4,pB 5 false] [(.loc 4,[ci 2,ci 0,.nils,.nils,ci 0,.nils,.nils,sU .wedit ([]:List WEdit) .unk,sU .kid ([]:List Kid) .unk,ci 0,.nils])]))))) ((Znn (p.ops,q.ops,()))/\(Q .ret (L2 [pL 4,pB 5 false] [(.loc 4,[ci 3,ci 0,.nils,.nils,ci 0,.nils,.nils,.nils,.nils,ci p.list,sU .op ([]:List Op) .unk])]))))))))))))))):
  ZGU [] (L2 [(0,.agg (enc .edit p)),(1,.agg (enc .edit q))] []) Q:=
 (Eq.mpr V4 (h _ (Z6 _) _ (Z6 _) _ (Z6 _) _ (Z7 _) _ (Z7 _)):)
abbrev Zwd(p q:Edit):Prop:=AW (Z1 Zk3) Tryz.f111 ZlG [] (Zf (Zw3.can (p,q,())) []) (EQ Tryz.f111 (Zh4 (p,q,())) [])
theorem ZtK(c25:CT 25 Z0t)(Zvy:CT 85 Z81)(Zvx:CT 164 Z80)(Zvw:CT 165 Z7Z)(Zvv:CT 166 Z7Y)(hb:∀ (p:Edit) (q:Edit) (_:Unit),Zhr (p,q,())->Zwd p q):CT 111 Z4O:=
 Z0 (l:=[(25,Z0t),(85,Z81),(164,Z80),(165,Z7Z),(166,Z7Y)]) Zh rfl (⟨c25,Zvy,Zvx,Zvw,Zvv,trivial⟩) ZlG Tryz.func111 rfl rfl 2 (fun _=> rfl) V3 (fun ⟨p,q,_⟩=> hb p q ())
def Zk4:List (FuncId × Fs U):=[(111,Z4O),(67,Z2e)]
abbrev ZGV(p:List Nat):=AW (Z1 Zk4) Tryz.f71 ZCt p
theorem ZB6(p q:Edit)(Q:QT)(h:∀ u,u=p->∀ s,s=q->∀ d,d=s->((Zhr (u,s,()))/\(iB (!true) ((Q .ret (L2 [pL 4,pB 5 false] [(.loc 4,zc1)]))) ((Z1C (d,()))/\(Q .ret (L2 [pL 4,pB 5 true] [(.loc 4,(enc .edit (Zi d)))])))))):
  ZGV [] (L2 [(0,.agg (enc .edit p)),(1,.agg (enc .edit q))] []) Q:=
 (Eq.mpr V4 (h _ (Z6 _) _ (Z6 _) _ (Z6 _)):)
abbrev Zwe(p q:Edit):Prop:=AW (Z1 Zk4) Tryz.f71 ZCt [] (Zf (Zw3.can (p,q,())) []) (EQ Tryz.f71 (Zh5 (p,q,())) [])
theorem ZtL(ZvA:CT 111 Z4O)(c67:CT 67 Z2e)(hb:∀ (p:Edit) (q:Edit) (_:Unit),Zhs (p,q,())->Zwe p q):CT 71 Z4P:=
 Z0 (l:=[(111,Z4O),(67,Z2e)]) Zh rfl (⟨ZvA,c67,trivial⟩) ZCt Tryz.func71 rfl rfl 2 (fun _=> rfl) V3 (fun ⟨p,q,_⟩=> hb p q ())
def ZuV:List (FuncId × Fs U):=[(28,Z4L),(94,Z2d),(71,Z4P)]
def ZCh:Zc U:=lvk [([0,3],[3,((.x 0),[])]),([0,3,9],[3,((.x 0),[])]),([4],[((.x 0),[])]),([0,3,12],[3,((.x 0),[])]),([4],[((.x 0),[])]),([0,3,5,6],[3,5,((.x 0),[])]),([0,3,5,6,26],[3,5,((.x 0),[])]),([4],[((.x 0),[])]),([0,5,7,8],[5,7,((.x 0),[])]),([0,5,7,43],[5,7,((.x 0),[])]),([4],[((.x 0),[])]),([],[((.x 0),[])]),([4],[((.x 0),[])])]
abbrev A62(p:List Nat):=AW (Z1 ZuV) Tryz.f62 ZCh p
theorem ZHe(dk:Int)(dw:List Int)(dc:List Tree)(dv ek eo:Int)(eow:List Int)(eok:List Tree)(en:Int)(enw:List Int)(enk:List Tree)(ew:List WEdit)(ec:List Kid)(li:Int)(eos:List Op)(e:Edit)(Q:QT)(h:∀ d,d=e->∀ s,s=(Zi d)->let z0:=ZN d (Tree.mk dk dw dc);(iB false ((Q .ret (L2 [pI 4 1] [(.x 0,[ci dk,sU .u64 dw .unk,sU .tree dc .unk,ci dv,ci ek,ci eo,sU .u64 eow .unk,sU .tree eok .unk,ci en,sU .u64 enw .unk,sU .tree enk .unk,sU .wedit ew .unk,sU .kid ec .unk,ci li,sU .op eos .unk])]))) ((ZfT (d,()))/\(iB (!(Z5 d 64)) ((Q .ret (L2 [pI 4 2] [(.x 0,[ci dk,sU .u64 dw .unk,sU .tree dc .unk,ci dv,ci ek,ci eo,sU .u64 eow .unk,sU .tree eok .unk,ci en,sU .u64 enw .unk,sU .tree enk .unk,sU .wedit ew .unk,sU .kid ec .unk,ci li,sU .op eos .unk])]))) ((Zjp (d,(Tree.mk dk dw dc),()))/\(iB (((z0.2):Int) !=0) ((Q .ret (L2 [pI 4 (z0.2)] [(.x 0,[ci dk,sU .u64 dw .unk,sU .tree dc .unk,ci dv,ci ek,ci eo,sU .u64 eow .unk,sU .tree eok .unk,ci en,sU .u64 enw .unk,sU .tree enk .unk,sU .wedit ew .unk,sU .kid ec .unk,ci li,sU .op eos .unk])]))) ((Zhs ((Edit.mk ek (Tree.mk eo eow eok) (Tree.mk en enw enk) ew ec li eos),d,()))/\((Tt (!(!true)))/\((!(!true))=true->ZfT (s,()))/\(Tt (!(!true)))/\((!true)=false->(!(!true))=true)/\(iB (bif (!true) then true else (!(Z5 s 64))) ((Q .ret (L2 [pI 4 3] [(.x 0,[ci dk,sU .u64 dw .unk,sU .tree dc .unk,ci dv,ci ek,ci eo,sU .u64 eow .unk,sU .tree eok .unk,ci en,sU .u64 enw .unk,sU .tree enk .unk,sU .wedit ew .unk,sU .kid ec .unk,ci li,sU .op eos .unk])]))) ((Q .ret (L2 [pI 4 0] [(.x 0,(enc .tree (z0.1)++[ci dv]++enc .edit (Zi d)))])))))))))))):
  A62 [] (L2 [(0,.ptr (.x 0) 0),(1,.agg (enc .edit e))] [(.x 0,[ci dk,sU .u64 dw .unk,sU .tree dc .unk,ci dv,ci ek,ci eo,sU .u64 eow .unk,sU .tree eok .unk,ci en,sU .u64 enw .unk,sU .tree enk .unk,sU .wedit ew .unk,sU .kid ec .unk,ci li,sU .op eos .unk])]) Q:=
 (Eq.mpr V4 (h _ (Z6 _) _ (Z6 _)):)
abbrev ZE7(dk:Int)(dw:List Int)(dc:List Tree)(dv ek eo:Int)(eow:List Int)(eok:List Tree)(en:Int)(enw:List Int)(enk:List Tree)(ew:List WEdit)(ec:List Kid)(li:Int)(eos:List Op)(e:Edit):Prop:=AW (Z1 ZuV) Tryz.f62 ZCh [] (Zf (Zmk.can ((dk,dw,dc,dv,ek,eo,eow,eok,en,enw,enk,ew,ec,li,eos,()),e,())) (Zmk.canX ((dk,dw,dc,dv,ek,eo,eow,eok,en,enw,enk,ew,ec,li,eos,()),e,()))) (EQ Tryz.f62 (Zsn ((dk,dw,dc,dv,ek,eo,eow,eok,en,enw,enk,ew,ec,li,eos,()),e,())) (ZkZ ((dk,dw,dc,dv,ek,eo,eow,eok,en,enw,enk,ew,ec,li,eos,()),e,())))
theorem ZBR(c28:CT 28 Z4L)(c94:CT 94 Z2d)(ZvB:CT 71 Z4P)(hb:∀ (dk:Int) (dw:List Int) (dc:List Tree) (dv:Int) (ek:Int) (eo:Int) (aa:List Int) (s:List Tree) (en:Int) (d:List Int) (u:List Tree) (ew:List WEdit) (ec:List Kid) (li:Int) (h:List Op) (e:Edit) (_:Unit),Znm ((dk,dw,dc,dv,ek,eo,aa,s,en,d,u,ew,ec,li,h,()),e,())->ZE7 dk dw dc dv ek eo aa s en d u ew ec li h e):CT 62 Zd3:=
 Zq (l:=[(28,Z4L),(94,Z2d),(71,Z4P)]) Zh rfl (⟨c28,c94,ZvB,trivial⟩) ZCh Tryz.func62 rfl rfl 2 (fun _=> rfl) V3 (fun ⟨⟨dk,dw,dc,dv,ek,eo,aa,s,en,d,u,ew,ec,li,h,_⟩,e,_⟩=> hb dk dw dc dv ek eo aa s en d u ew ec li h e ())
def Zm0:List (FuncId × Fs U):=[(60,Zd5),(93,Z4G),(94,Z2d),(50,Z4J)]
def Zyq:Zc U:=lvk [([0,1],[((.x 0),[]),((.x 1),[])]),([0,1,14],[((.x 0),[]),((.x 1),[])]),([4],[((.x 0),[]),((.x 1),[])]),([0,1,5,6],[((.x 0),[]),((.x 1),[])]),([0,1,5,6,25],[((.x 0),[]),((.x 1),[])]),([4],[((.x 0),[]),((.x 1),[])]),([0,1,5,6,7,8],[7,((.x 0),[]),((.x 1),[])]),([0,1,5,6,7,8,38],[7,((.x 0),[]),((.x 1),[])]),([4],[((.x 0),[]),((.x 1),[])]),([0,1,5,7,8,9],[7,9,((.x 0),[]),((.x 1),[])]),([0,1,5,7,9,44,45,46],[7,9,((.x 0),[]),((.x 1),[])]),([0,1,5,7,9,44,45,46,47],[7,9,((.x 0),[]),((.x 1),[])]),([0,1,5,7,9,11,44,45,46],[7,9,11,((.x 0),[]),((.x 1),[])]),([0,1,5,6,7,9,44,45,46],[7,9,((.x 0),[]),((.x 1),[])]),([0,1,5,6,7,9,44,45,46,57],[7,9,((.x 0),[]),((.x 1),[])]),([4],[((.x 0),[]),((.x 1),[])]),([0,1,5,7,9,44,45,46],[7,9,((.x 0),[]),((.x 1),[])]),([0,1,5,7,9,62],[7,9,((.x 0),[]),((.x 1),[])]),([],[((.x 0),[]),((.x 1),[])]),([4],[((.x 0),[]),((.x 1),[])]),([0,6,9,12],[9,((.x 0),[]),((.x 1),[])]),([0,6,9,12,95],[9,((.x 0),[]),((.x 1),[])]),([4],[((.x 0),[]),((.x 1),[])]),([],[((.x 0),[]),((.x 1),[])]),([4],[((.x 0),[]),((.x 1),[])])]
def Z9q(dk:Int)(dw:List Int)(dc:List Tree)(dv ek eo:Int)(eow:List Int)(eok:List Tree)(en:Int)(enw:List Int)(enk:List Tree)(ew:List WEdit)(ec:List Kid)(li:Int)(eos:List Op)(hk:Int)(hw:List Int)(hc:List Tree)(hl:List Edit)(u h:Int)(s:List Int)(d:List Tree):LSt U:=(L2 [(0,.ptr (.x 0) 0),(1,.ptr (.x 1) 0),(5,.c (sU .edit ((Z1B dv (HubT.mk (Tree.mk hk hw hc) hl)).1) (.own (.e 5 0)))),pL 7,pL 9,(44,.c (sU .edit ((Z1z ((Z1B dv (HubT.mk (Tree.mk hk hw hc) hl)).1) (Edit.mk ek (Tree.mk eo eow eok) (Tree.mk en enw enk) ew ec li eos) []).2.1) (.own (.e 44 0)))),(45,.c (ci (((Z1z ((Z1B dv (HubT.mk (Tree.mk hk hw hc) hl)).1) (Edit.mk ek (Tree.mk eo eow eok) (Tree.mk en enw enk) ew ec li eos) []).2.1).length:Int))),pI 46 u] [(.loc 7,(enc .edit ((Z1z ((Z1B dv (HubT.mk (Tree.mk hk hw hc) hl)).1) (Edit.mk ek (Tree.mk eo eow eok) (Tree.mk en enw enk) ew ec li eos) []).1))),(.loc 9,[ci h,sU .u64 s .unk,sU .tree d .unk]),(.x 0,[ci dk,sU .u64 dw .unk,sU .tree dc .unk,ci dv,ci ek,ci eo,sU .u64 eow .unk,sU .tree eok .unk,ci en,sU .u64 enw .unk,sU .tree enk .unk,sU .wedit ew .unk,sU .kid ec .unk,ci li,sU .op eos .unk]),(.x 1,[ci hk,sU .u64 hw .unk,sU .tree hc .unk,sU .edit hl .unk])])
abbrev A57(p:List Nat):=AW (Z1 Zm0) Tryz.f57 Zyq p
abbrev S57(p:List Nat):=SW (Z1 Zm0) Tryz.f57 Zyq p
theorem ZHi(dk:Int)(dw:List Int)(dc:List Tree)(dv ek eo:Int)(eow:List Int)(eok:List Tree)(en:Int)(enw:List Int)(enk:List Tree)(ew:List WEdit)(ec:List Kid)(li:Int)(eos:List Op)(hk:Int)(hw:List Int)(hc:List Tree)(hl:List Edit)(Q:QT)(h:∀ d,d=(Edit.mk ek (Tree.mk eo eow eok) (Tree.mk en enw enk) ew ec li eos)->∀ s,s=(Z1z ((Z1B dv (HubT.mk (Tree.mk hk hw hc) hl)).1) d [])->let z0:=Z1B dv (HubT.mk (Tree.mk hk hw hc) hl);(iB false ((Q .ret (L2 [pI 4 1] [(.x 0,[ci dk,sU .u64 dw .unk,sU .tree dc .unk,ci dv,ci ek,ci eo,sU .u64 eow .unk,sU .tree eok .unk,ci en,sU .u64 enw .unk,sU .tree enk .unk,sU .wedit ew .unk,sU .kid ec .unk,ci li,sU .op eos .unk]),(.x 1,[ci hk,sU .u64 hw .unk,sU .tree hc .unk,sU .edit hl .unk])]))) ((Ztb ((hk,hw,hc,hl,()),dv,()))/\(iB (((z0.2):Int) !=0) ((Q .ret (L2 [(4,.c (ci (z0.2)))] [(.x 0,[ci dk,sU .u64 dw .unk,sU .tree dc .unk,ci dv,ci ek,ci eo,sU .u64 eow .unk,sU .tree eok .unk,ci en,sU .u64 enw .unk,sU .tree enk .unk,sU .wedit ew .unk,sU .kid ec .unk,ci li,sU .op eos .unk]),(.x 1,[ci hk,sU .u64 hw .unk,sU .tree hc .unk,sU .edit hl .unk])]))) ((Znj (d,(z0.1),()))/\(iB (((s.2.2):Int) !=0) ((Q .ret (L2 [pI 4 (s.2.2)] [(.x 0,[ci dk,sU .u64 dw .unk,sU .tree dc .unk,ci dv,ci ek,ci eo,sU .u64 eow .unk,sU .tree eok .unk,ci en,sU .u64 enw .unk,sU .tree enk .unk,sU .wedit ew .unk,sU .kid ec .unk,ci li,sU .op eos .unk]),(.x 1,[ci hk,sU .u64 hw .unk,sU .tree hc .unk,sU .edit hl .unk])]))) ((Zp (A57 [1,1,1,1,1,1,1,0,1,0,0]) (Z9q dk dw dc dv ek eo eow eok en enw enk ew ec li eos hk hw hc hl 0 dk dw dc) (xB 0 (S57 [1,1,1,1,1,1,1,1] Q)))))))))):
  A57 [] (L2 [(0,.ptr (.x 0) 0),(1,.ptr (.x 1) 0)] [(.x 0,[ci dk,sU .u64 dw .unk,sU .tree dc .unk,ci dv,ci ek,ci eo,sU .u64 eow .unk,sU .tree eok .unk,ci en,sU .u64 enw .unk,sU .tree enk .unk,sU .wedit ew .unk,sU .kid ec .unk,ci li,sU .op eos .unk]),(.x 1,[ci hk,sU .u64 hw .unk,sU .tree hc .unk,sU .edit hl .unk])]) Q:=
 (Eq.mpr V4 (h _ rfl _ rfl):)
theorem ZwF(dk:Int)(dw:List Int)(dc:List Tree)(dv ek eo:Int)(eow:List Int)(eok:List Tree)(en:Int)(enw:List Int)(enk:List Tree)(ew:List WEdit)(ec:List Kid)(li:Int)(eos:List Op)(hk:Int)(hw:List Int)(hc:List Tree)(hl:List Edit)(ab u:Int)(aa:List Int)(s:List Tree)(N0:NT)(Q:QT)(h:∀ ae,ae=(Edit.mk ek (Tree.mk eo eow eok) (Tree.mk en enw enk) ew ec li eos)->∀ d,d=(Z1z ((Z1B dv (HubT.mk (Tree.mk hk hw hc) hl)).1) ae [])->∀ ah,ah=(HubT.now ((Zr dv ae (HubT.mk (Tree.mk hk hw hc) hl)).1))->∀ ai,ai=(List.getD (d.2.1) ab.toNat Edit.nil)->∀ af,af=ai->let z2:=HubT.mk (Tree.mk hk hw hc) hl;let z1:=ZN af (Tree.mk u aa s);let z0:=Zr dv ae z2;(iB (decide (ab < ((d.2.1).length:Int))) (((0:Int)<=ab/\ab < ((d.2.1).length:Int))/\((Zjp (af,(Tree.mk u aa s),()))/\(iB (((z1.2):Int) !=0) ((Q .ret (L2 [pI 4 (z1.2)] [(.x 0,[ci dk,sU .u64 dw .unk,sU .tree dc .unk,ci dv,ci ek,ci eo,sU .u64 eow .unk,sU .tree eok .unk,ci en,sU .u64 enw .unk,sU .tree enk .unk,sU .wedit ew .unk,sU .kid ec .unk,ci li,sU .op eos .unk]),(.x 1,[ci hk,sU .u64 hw .unk,sU .tree hc .unk,sU .edit hl .unk])]))) ((InR (ab+1))/\(N0 (Z9q dk dw dc dv ek eo eow eok en enw enk ew ec li eos hk hw hc hl (ab+1) (Tree.kind (z1.1)) (Tree.words (z1.1)) (Tree.kids (z1.1)))))))) ((iB (((Edit.kind (d.1)):Int)==0) ((InR (dv+(((Z1B dv z2).1).length:Int)))/\(Q .ret (L2 [pI 4 0] [(.x 0,([ci u,sU .u64 aa .unk,sU .tree s .unk,ci (dv+(((Z1B dv z2).1).length:Int)),ci (Edit.kind (d.1))]++enc .tree (Edit.old (d.1))++enc .tree (Edit.new (d.1))++[sU .wedit (Edit.words (d.1)) .unk,sU .kid (Edit.kids (d.1)) .unk,ci (Edit.list (d.1)),sU .op (Edit.ops (d.1)) .unk])),(.x 1,[ci hk,sU .u64 hw .unk,sU .tree hc .unk,sU .edit hl .unk])]))) ((Z8H ((hk,hw,hc,hl,()),dv,ae,()))/\(iB (((z0.2.2):Int) !=0) ((Q .ret (L2 [(4,.c (ci (z0.2.2)))] [(.x 0,[ci dk,sU .u64 dw .unk,sU .tree dc .unk,ci dv,ci ek,ci eo,sU .u64 eow .unk,sU .tree eok .unk,ci en,sU .u64 enw .unk,sU .tree enk .unk,sU .wedit ew .unk,sU .kid ec .unk,ci li,sU .op eos .unk]),(.x 1,(enc .tree ah++[sU .edit (HubT.log (z0.1)) .unk]))]))) ((Q .ret (L2 [pI 4 0] [(.x 0,[ci u,sU .u64 aa .unk,sU .tree s .unk,ci (z0.2.1),ci 0,ci 0,.nils,.nils,ci 0,.nils,.nils,.nils,.nils,ci 0,.nils]),(.x 1,(enc .tree ah++[sU .edit (HubT.log (z0.1)) .unk]))]))))))))):
  A57 [1,1,1,1,1,1,1,0,1,0,0] (Z9q dk dw dc dv ek eo eow eok en enw enk ew ec li eos hk hw hc hl ab u aa s) (xT N0 (xB 0 (S57 [1,1,1,1,1,1,1,1] Q))):=
 (Eq.mpr V4 (h _ rfl _ rfl _ rfl _ rfl _ (Z6 _)):)
abbrev ZEb(dk:Int)(dw:List Int)(dc:List Tree)(dv ek eo:Int)(eow:List Int)(eok:List Tree)(en:Int)(enw:List Int)(enk:List Tree)(ew:List WEdit)(ec:List Kid)(li:Int)(eos:List Op)(hk:Int)(hw:List Int)(hc:List Tree)(hl:List Edit):Prop:=AW (Z1 Zm0) Tryz.f57 Zyq [] (Zf (Zmo.can ((dk,dw,dc,dv,ek,eo,eow,eok,en,enw,enk,ew,ec,li,eos,()),(hk,hw,hc,hl,()),())) (Zmo.canX ((dk,dw,dc,dv,ek,eo,eow,eok,en,enw,enk,ew,ec,li,eos,()),(hk,hw,hc,hl,()),()))) (EQ Tryz.f57 (Zsr ((dk,dw,dc,dv,ek,eo,eow,eok,en,enw,enk,ew,ec,li,eos,()),(hk,hw,hc,hl,()),())) (Zl2 ((dk,dw,dc,dv,ek,eo,eow,eok,en,enw,enk,ew,ec,li,eos,()),(hk,hw,hc,hl,()),())))
theorem ZBV(c60:CT 60 Zd5)(c93:CT 93 Z4G)(c94:CT 94 Z2d)(c50:CT 50 Z4J)(hb:∀ (dk:Int) (dw:List Int) (dc:List Tree) (dv:Int) (ek:Int) (eo:Int) (aa:List Int) (d:List Tree) (en:Int) (h:List Int) (u:List Tree) (ew:List WEdit) (ec:List Kid) (li:Int) (s:List Op) (hk:Int) (hw:List Int) (hc:List Tree) (hl:List Edit) (_:Unit),Zjr ((dk,dw,dc,dv,ek,eo,aa,d,en,h,u,ew,ec,li,s,()),(hk,hw,hc,hl,()),())->ZEb dk dw dc dv ek eo aa d en h u ew ec li s hk hw hc hl):CT 57 Zd7:=
 Zq (l:=[(60,Zd5),(93,Z4G),(94,Z2d),(50,Z4J)]) Zh rfl (⟨c60,c93,c94,c50,trivial⟩) Zyq Tryz.func57 rfl rfl 2 (fun _=> rfl) V3 (fun ⟨⟨dk,dw,dc,dv,ek,eo,aa,d,en,h,u,ew,ec,li,s,_⟩,⟨hk,hw,hc,hl,_⟩,_⟩=> hb dk dw dc dv ek eo aa d en h u ew ec li s hk hw hc hl ())
def ZCb:Zc U:=lvl [([0,1,2,6],[6]),([6],[6])]
abbrev A92(p:List Nat):=AW (Z1 ZlW) Tryz.f92 ZCb p
theorem ZH0(at_ old now:Int)(Q:QT)(h:(Q .ret (L2 [pL 6] [(.loc 6,[ci 2,ci 0,.nils,.nils,ci 0,.nils,.nils,sU .wedit ([(WEdit.mk at_ 1 old now)]) .full,.nils,ci 0,.nils])]))):
  A92 [] (L2 [pI 0 at_,(1,.c (.int .u64 old)),(2,.c (.int .u64 now))] []) Q:=
 (Eq.mpr V4 h:)
abbrev ZDT(at_ old now:Int):Prop:=AW (Z1 ZlW) Tryz.f92 ZCb [] (Zf (ZvN.can (at_,old,now,())) []) (EQ Tryz.f92 (Zsl (at_,old,now,())) [])
theorem ZBI(hb:∀ (at_:Int) (old:Int) (now:Int) (_:Unit),Znk (at_,old,now,())->ZDT at_ old now):CT 92 ZcW:=
 Z0 (l:=[]) Zh rfl trivial ZCb Tryz.func92 rfl rfl 3 (fun _=> rfl) V3 (fun ⟨at_,old,now,_⟩=> hb at_ old now ())
def Zv2:List (FuncId × Fs U):=[(49,Z4K),(61,Zd4),(92,ZcW),(62,Zd3),(57,Zd7),(51,Z2f),(59,Zd6),(26,Z4M)]
def ZCo:Zc U:=lvl [([],[]),([1],[14]),([1,2,3],[14,16,18]),([1,2,3],[14,16,18]),([1,2,3],[14,16,18]),([1,2,4,5,6],[14,16]),([2,4,5,6,7,8],[7,16]),([4,5,6,7,8,9,10],[7,9]),([0],[])]
abbrev A48(p:List Nat):=AW (Z1 Zv2) Tryz.f48 ZCo p
theorem ZHm(Q:QT)(h:∀ au,au=(Edit.nil)->∀ ar,ar=(Z4S 0 1 2)->∀ av,av=(Z4S 1 1 3)->∀ ah,ah=(Z3 (Tree.mk 1 ([1,1]) []))->∀ ab,ab=(Z1s ar (DeskT.mk ah (([]:List Edit).length:Int) au))->∀ ae,ae=(Z1s av (DeskT.mk ah (([]:List Edit).length:Int) au))->∀ aw,aw=(DeskT.now (ab.1))->∀ ay,ay=(DeskT.now (ae.1))->∀ ax,ax=(DeskT.pending (ab.1))->∀ ak,ak=(DeskT.pending (ae.1))->∀ d,d=(Z0T (DeskT.mk aw (DeskT.version (ab.1)) ax) (HubT.mk ah ([]:List Edit)))->∀ am,am=(HubT.now (d.1.2))->∀ ao,ao=(DeskT.now (d.1.1))->∀ aj,aj=(DeskT.pending (d.1.1))->∀ u,u=(Z0T (DeskT.mk ay (DeskT.version (ae.1)) ak) (HubT.mk am (HubT.log (d.1.2))))->∀ al,al=(HubT.now (u.1.2))->∀ s,s=(Z0T (DeskT.mk ao (DeskT.version (d.1.1)) aj) (HubT.mk al (HubT.log (u.1.2))))->∀ aq,aq=(HubT.now (s.1.2))->∀ ai,ai=(DeskT.now (s.1.1))->∀ aa,aa=aq->∀ af,af=ai->let z20:=DeskT.now (ae.1);let z19:=DeskT.now (ab.1);let z18:=HubT.now (s.1.2);let z17:=HubT.now (u.1.2);let z16:=HubT.now (d.1.2);let z15:=DeskT.now (s.1.1);let z14:=DeskT.now (d.1.1);let z13:=((d.2):Int)==0;let z11:=Edit.new (Edit.nil);let z10:=Edit.old (Edit.nil);let z9:=bif z13 then (((u.2):Int)==0) else false;let z7:=DeskT.pending (ae.1);let z6:=DeskT.pending (ab.1);let z5:=DeskT.pending (s.1.1);let z4:=DeskT.pending (d.1.1);let z2:=Z3 (Tree.mk 1 ([1,1]) []);let z12:=ZfR (((Tree.kind z2),(Tree.words z2),(Tree.kids z2),([]:List Edit),()),());let z1:=bif z9 then (((s.2):Int)==0) else false;let z8:=bif z1 then ((((HubT.log (s.1.2)).length:Int):Int)==2) else false;let z0:=bif z8 then (((DeskT.version (s.1.1)):Int)==2) else false;let z3:=bif z0 then (ZY aa (Tree.mk 1 ([2,3]) [])) else false;((ZfS ((Tree.mk 1 ([1,1]) []),()))/\(z12/\z12/\((Znk (0,1,2,()))/\(Znm (((Tree.kind z2),(Tree.words z2),(Tree.kids z2),(([]:List Edit).length:Int),(Edit.kind (Edit.nil)),(Tree.kind z10),(Tree.words z10),(Tree.kids z10),(Tree.kind z11),(Tree.words z11),(Tree.kids z11),(Edit.words (Edit.nil)),(Edit.kids (Edit.nil)),(Edit.list (Edit.nil)),(Edit.ops (Edit.nil)),()),ar,()))/\((Znk (1,1,3,()))/\(Znm (((Tree.kind z2),(Tree.words z2),(Tree.kids z2),(([]:List Edit).length:Int),(Edit.kind (Edit.nil)),(Tree.kind z10),(Tree.words z10),(Tree.kids z10),(Tree.kind z11),(Tree.words z11),(Tree.kids z11),(Edit.words (Edit.nil)),(Edit.kids (Edit.nil)),(Edit.list (Edit.nil)),(Edit.ops (Edit.nil)),()),av,()))/\((Zjr (((Tree.kind z19),(Tree.words z19),(Tree.kids z19),(DeskT.version (ab.1)),(Edit.kind z6),(Tree.kind (Edit.old z6)),(Tree.words (Edit.old z6)),(Tree.kids (Edit.old z6)),(Tree.kind (Edit.new z6)),(Tree.words (Edit.new z6)),(Tree.kids (Edit.new z6)),(Edit.words z6),(Edit.kids z6),(Edit.list z6),(Edit.ops z6),()),((Tree.kind z2),(Tree.words z2),(Tree.kids z2),([]:List Edit),()),()))/\(Zjr (((Tree.kind z20),(Tree.words z20),(Tree.kids z20),(DeskT.version (ae.1)),(Edit.kind z7),(Tree.kind (Edit.old z7)),(Tree.words (Edit.old z7)),(Tree.kids (Edit.old z7)),(Tree.kind (Edit.new z7)),(Tree.words (Edit.new z7)),(Tree.kids (Edit.new z7)),(Edit.words z7),(Edit.kids z7),(Edit.list z7),(Edit.ops z7),()),((Tree.kind z16),(Tree.words z16),(Tree.kids z16),(HubT.log (d.1.2)),()),()))/\(Zjr (((Tree.kind z14),(Tree.words z14),(Tree.kids z14),(DeskT.version (d.1.1)),(Edit.kind z4),(Tree.kind (Edit.old z4)),(Tree.words (Edit.old z4)),(Tree.kids (Edit.old z4)),(Tree.kind (Edit.new z4)),(Tree.words (Edit.new z4)),(Tree.kids (Edit.new z4)),(Edit.words z4),(Edit.kids z4),(Edit.list z4),(Edit.ops z4),()),((Tree.kind z17),(Tree.words z17),(Tree.kids z17),(HubT.log (u.1.2)),()),()))/\((ZfR (((Tree.kind z18),(Tree.words z18),(Tree.kids z18),(HubT.log (s.1.2)),()),()))/\((Ztc (((Tree.kind z15),(Tree.words z15),(Tree.kids z15),(DeskT.version (s.1.1)),(Edit.kind z5),(Tree.kind (Edit.old z5)),(Tree.words (Edit.old z5)),(Tree.kids (Edit.old z5)),(Tree.kind (Edit.new z5)),(Tree.words (Edit.new z5)),(Tree.kids (Edit.new z5)),(Edit.words z5),(Edit.kids z5),(Edit.list z5),(Edit.ops z5),()),()))/\((Tt z13)/\(Tt z13)/\(Tt z9)/\(Tt z9)/\(Tt z1)/\(Tt z1)/\(Tt z8)/\(Tt z8)/\(Tt z0)/\(Tt z0)/\(Tt z0)/\(z0=true->Z8I (aa,(Tree.mk 1 ([2,3]) []),()))/\(Tt z0)/\(Tt z3)/\(Tt z3)/\(z3=true->Z8I (af,aa,()))/\(Tt z3)/\(Q .ret (L2 [(0,.c (.bool (bif z3 then (ZY af aa) else false)))] []))))))))))):
  A48 [] (L2 [] []) Q:=
 (Eq.mpr V4 (h _ (Z6 _) _ (Z6 _) _ (Z6 _) _ (Z7 _) _ rfl _ rfl _ (Z7 _) _ (Z7 _) _ (Z6 _) _ (Z6 _) _ rfl _ (Z7 _) _ (Z7 _) _ (Z6 _) _ rfl _ (Z7 _) _ rfl _ (Z7 _) _ (Z7 _) _ (Z7 _) _ (Z7 _)):)
abbrev ZEf:Prop:=AW (Z1 Zv2) Tryz.f48 ZCo [] (Zf (ZpA.can ()) []) (EQ Tryz.f48 (ZAo ()) [])
theorem ZBZ(c49:CT 49 Z4K)(c61:CT 61 Zd4)(c92:CT 92 ZcW)(c62:CT 62 Zd3)(c57:CT 57 Zd7)(c51:CT 51 Z2f)(c59:CT 59 Zd6)(c26:CT 26 Z4M)(hb:∀ (_:Unit),Za3 ()->ZEf):CT 48 Zd8:=
 Z0 (l:=[(49,Z4K),(61,Zd4),(92,ZcW),(62,Zd3),(57,Zd7),(51,Z2f),(59,Zd6),(26,Z4M)]) Zh rfl (⟨c49,c61,c92,c62,c57,c51,c59,c26,trivial⟩) ZCo Tryz.func48 rfl rfl 0 (fun _=> rfl) V3 (fun _=> hb ())
end
theorem ZoM {α : Type} {A : ArgL α} {pre : α → Prop} {res : α → V U} {f : FuncId} (h0 : ∃ fn, Tryz.prog.funcs[f]? = some fn ∧ fn.body.isSome = true ∧ (fn.name == "runtime.NumGoroutine") = false) (h : ∀ a, ¬pre a) :
  Contract Tryz.prog cfg f (fs A (fun a=> [pre a]) res):=by
 refine Jj h0 rfl ?_
 intro args X u r X' d s
 exfalso
 unfold fs at d
 simp only at d
 split at d
 .split at d
  .cases d
   exact h _ s.1
  .cases d
 .cases d
theorem Zvy:Contract Tryz.prog cfg 85 Z81:=ZoM ⟨Tryz.f85,Tryz.func85,rfl,rfl⟩ fun _ h=> h
theorem Zvx:Contract Tryz.prog cfg 164 Z80:=ZoM ⟨Tryz.f164,Tryz.func164,rfl,rfl⟩ fun _ h=> h
theorem Zvw:Contract Tryz.prog cfg 165 Z7Z:=ZoM ⟨Tryz.f165,Tryz.func165,rfl,rfl⟩ fun _ h=> h
theorem Zvv:Contract Tryz.prog cfg 166 Z7Y:=ZoM ⟨Tryz.f166,Tryz.func166,rfl,rfl⟩ fun _ h=> h
theorem ZvA:Contract Tryz.prog cfg 111 Z4O:=by
 refine ZtK c25 Zvy Zvx Zvw Zvv ?_
 intro p q _ d
 have d:p.kind=0:=d
 refine ZB5 _ _ _ ?_
 rintro y1 rfl s rfl u _ y4 _ y5 _
 (simp only [iB,vcT,vcS])
 exact ⟨fun _=> by simp only [Zh4];(repeat' (first | exact trivial | exact rfl | apply And.intro)),fun h=> absurd d h⟩
theorem ZvB:Contract Tryz.prog cfg 71 Z4P:=by
 refine ZtL ZvA Zmc.1 ?_
 intro p q _ s
 obtain ⟨d,u⟩:=s
 refine ZB6 _ _ _ ?_
 rintro y1 rfl y2 rfl y3 rfl
 (simp only [iB,vcT,vcS])
 exact ⟨d,(fun h=> by cases h),Z3h u,by simp only [Zh5];(repeat' (first | exact trivial | exact rfl | apply And.intro))⟩
theorem c62:Contract Tryz.prog cfg 62 Zd3:=by
 refine ZBR c28 c94 ZvB ?_
 intro dk dw dc dv ek eo ae d en u ab ew ec li aa e _ hp
 obtain ⟨⟨h1,h2⟩,h3⟩:=hp
 dsimp only at h1 h2 h3
 subst h1
 refine ZHe _ _ _ _ _ _ _ _ _ _ _ _ _ _ _ _ _ ?_
 rintro y1 rfl y2 e2
 (simp only [iB,vcT,vcS])
 have fin:∀ {r:DeskT × Int} {s:LSt U},Z1s y1 ⟨.mk dk dw dc,dv,.mk 0 (.mk eo ae d) (.mk en u ab) ew ec li aa⟩=r->ZX cfg Tryz.f62.ntmps Tryz.f62.results.toList (.c (.int .i64 r.2))
   [[.int .i64 r.1.now.kind,.slice .u64 r.1.now.words .unk,.slice .tree r.1.now.kids .unk,.int .i64 r.1.version]++enc .edit r.1.pending] .ret s->
   ZX cfg Tryz.f62.ntmps Tryz.f62.results.toList (Zsn ((dk,dw,dc,dv,0,eo,ae,d,en,u,ab,ew,ec,li,aa,()),y1,())) (ZkZ ((dk,dw,dc,dv,0,eo,ae,d,en,u,ab,ew,ec,li,aa,()),y1,())) .ret s:=by
  intro r s h hs
  subst h
  exact hs
 refine ⟨(fun h=> by cases h),⟨h2.1,h2.2⟩,fun hr=> ?_,fun hr=> ?_⟩
 .exact fin (r:=(⟨.mk dk dw dc,dv,.mk 0 (.mk eo ae d) (.mk en u ab) ew ec li aa⟩,2)) (by unfold Z1s;exact if_neg (by rw [hr];decide)) V1
 obtain ⟨re,st⟩:=h3 hr
 refine ⟨st,fun hn=> ?_,fun h0=> ⟨⟨rfl,re⟩,?_,fun hw=> ?_,fun hw=> ?_⟩⟩
 .exact fin (r:=(⟨.mk dk dw dc,dv,.mk 0 (.mk eo ae d) (.mk en u ab) ew ec li aa⟩,(ZN y1 (.mk dk dw dc)).2)) (by unfold Z1s;rw [if_pos hr];exact if_neg hn) V1
 .rw [e2]
  have:=Z3n y1
  exact ⟨V5,Z21 _ _ hr h2.2⟩
 .have hw:Z5 y2 64=false:=by rcases hw with h | h;cases h;exact h
  exact fin (r:=(⟨.mk dk dw dc,dv,.mk 0 (.mk eo ae d) (.mk en u ab) ew ec li aa⟩,3)) (by unfold Z1s;rw [if_pos hr,if_pos h0];exact if_neg (by rw [<-e2,hw];decide)) V1
 .exact fin (r:=(⟨(ZN y1 (.mk dk dw dc)).1,dv,Zi y1⟩,0)) (by unfold Z1s;rw [if_pos hr,if_pos h0];exact if_pos (by rw [<-e2];exact hw)) V1
theorem ZkA:∀ (l:List Edit) (e:Edit) (out:List Edit),(Z1z l e out).2.1.length<=l.length+out.length
 | [],e,out=> by simp [Z1z]
 | x ::r,e,out=> by
  rw [Z1z]
  split
  .have:=ZkA r (lbN e x).1 (out++[(lbN e x).2.1])
   simp only [Qb,Qs,Qh] at this ⊢
   omega
  .simp
theorem c57:Contract Tryz.prog cfg 57 Zd7:=by
 refine ZBV c60 c93 c94 c50 ?_
 intro dk dw dc dv ek eo aq ak en al ao ew ec li am u hw hc hl _ hp
 obtain ⟨hS,hP⟩:=hp
 refine ZHi _ _ _ _ _ _ _ _ _ _ _ _ _ _ _ _ _ _ _ _ ?_
 intro y1 e1 y2 e2
 dsimp only at hS hP
 rw [<-e1] at hS hP
 have av:=hP.2.2
 have fin:∀ {r:(DeskT × HubT) × Int} {s:LSt U},Z0T ⟨.mk dk dw dc,dv,y1⟩ ⟨.mk u hw hc,hl⟩=r->ZX cfg Tryz.f57.ntmps Tryz.f57.results.toList (.c (.int .i64 r.2))
   [[.int .i64 r.1.1.now.kind,.slice .u64 r.1.1.now.words .unk,.slice .tree r.1.1.now.kids .unk,.int .i64 r.1.1.version]++enc .edit r.1.1.pending,[.int .i64 r.1.2.now.kind,.slice .u64 r.1.2.now.words .unk,.slice .tree r.1.2.now.kids .unk,.slice .edit r.1.2.log .unk]] .ret s->
   ZX cfg Tryz.f57.ntmps Tryz.f57.results.toList (Zsr ((dk,dw,dc,dv,ek,eo,aq,ak,en,al,ao,ew,ec,li,am,()),(u,hw,hc,hl,()),())) (Zl2 ((dk,dw,dc,dv,ek,eo,aq,ak,en,al,ao,ew,ec,li,am,()),(u,hw,hc,hl,()),())) .ret s:=by
  intro r s h hs
  rw [e1] at h
  subst h
  exact hs
 have pl:hl.length<=1000000000:=av
 by_cases hB:ZfO dv ⟨.mk u hw hc,hl⟩=true
 .have ep:Z1B dv ⟨.mk u hw hc,hl⟩=(hl.drop dv.toNat,0):=if_pos hB
  have kB:=Z9X.1 hB
  dsimp only at kB
  rw [ep] at e2 ⊢
  dsimp only at e2 ⊢
  have eb:Z1t dv y1 ⟨.mk u hw hc,hl⟩=y2:=e2.symm
  have bl:=ZkA (hl.drop dv.toNat) y1 []
  rw [QX,Qh,<-e2] at bl
  obtain ⟨s1,s2⟩:=hS hB
  rw [eb] at s2
  have d:Z0T ⟨.mk dk dw dc,dv,y1⟩ ⟨.mk u hw hc,hl⟩=_:=if_pos hB
  rw [eb] at d
  (simp only [iB,vcT,vcS])
  refine ⟨(fun h=> by cases h),pl,fun h=> absurd trivial h,⟨s1,by show (hl.drop dv.toNat).length<=_;rw [QX];omega⟩,fun hn=> ?_,fun h0=> ?_⟩
  .rw [if_neg hn] at d
   exact fin d (by rw [e1];(repeat' (first | exact trivial | exact rfl | apply And.intro)))
  rw [if_pos h0] at d
  have s2:=s2 h0
  dsimp only at s2 d
  refine Ze (ι:=Int × Tree) (fun j=> Z9q dk dw dc dv ek eo aq ak en al ao ew ec li am u hw hc hl j.1 j.2.kind j.2.words j.2.kids)
   (fun j=> (0<=j.1/\j.1<=y2.2.1.length)/\Z4t y2.2.1 (.mk dk dw dc)=Z4t (y2.2.1.drop j.1.toNat) j.2/\Zm8 (y2.2.1.drop j.1.toNat) j.2)
   (fun j=> ((y2.2.1.length:Int) - j.1).toNat) (0,.mk dk dw dc) rfl ⟨⟨V5,V5⟩,rfl,s2⟩ ?_
  rintro ⟨i,t⟩ ⟨⟨i0,i1⟩,hD,hO⟩
  dsimp only at i0 i1 hD hO
  refine ZwF _ _ _ _ _ _ _ _ _ _ _ _ _ _ _ _ _ _ _ _ _ _ _ _ _ ?_
  intro z1 f1 z2 f2 z3 f3 z4 f4 z5 f5
  rw [<-e1] at f1
  subst f1
  simp only [ep] at f2 ⊢
  rw [<-e2] at f2
  subst f2
  subst f5
  rw [Zkj]
  (simp only [iB,vcT,vcS])
  refine ⟨fun hc=> ?_,fun hc=> ?_⟩
  .rw [ZoP i0 hc,<-f4] at hD hO
   obtain ⟨o1,o2⟩:=hO
   rw [Z4t] at hD
   refine ⟨⟨i0,hc⟩,o1,fun hn=> ?_,fun h0=> ⟨V2,(i+1,(ZN z5 t).1),rfl,⟨⟨V5,V5⟩,?_,o2 h0⟩,V5⟩⟩
   .rw [if_neg hn] at hD
    rw [hD,if_neg hn] at d
    exact fin d (by rw [e1];(repeat' (first | exact trivial | exact rfl | apply And.intro)))
   .rw [if_pos h0] at hD
    exact hD
  .have hd:z2.2.1.drop i.toNat=[]:=Qd V0
   rw [hd] at hD
   rw [hD] at d
   rw [if_pos (show (Z4t [] t).2=0 from rfl)] at d
   refine ⟨fun u=> ⟨by rw [QX];unfold InR;omega,?_⟩,fun u=> ⟨hP,fun hn=> ?_,fun h0=> ?_⟩⟩
   .rw [if_pos u] at d
    exact fin d V1
   .rw [if_neg u,if_neg hn] at d
    exact fin d (by rw [f3,e1];(repeat' (first | exact trivial | exact rfl | apply And.intro)))
   .rw [if_neg u,if_pos h0] at d
    exact fin d (by rw [f3,e1];(repeat' (first | exact trivial | exact rfl | apply And.intro)))
 .have ep:Z1B dv ⟨.mk u hw hc,hl⟩=([],2):=if_neg hB
  rw [ep]
  (simp only [iB,vcT,vcS])
  have d:Z0T ⟨.mk dk dw dc,dv,y1⟩ ⟨.mk u hw hc,hl⟩=((⟨.mk dk dw dc,dv,y1⟩,⟨.mk u hw hc,hl⟩),2):=if_neg hB
  exact ⟨(fun h=> by cases h),pl,fun _=> fin d (by rw [e1];(repeat' (first | exact trivial | exact rfl | apply And.intro))),fun h=> absurd h V3⟩
theorem c92:Contract Tryz.prog cfg 92 ZcW:=by
 refine ZBI ?_
 intro a o n _ _
 refine ZH0 _ _ _ _ ?_
 simp only [Zsl]
 exact V1
noncomputable section
def Ztd(a:Tree × Unit):Prop:=Z2J a.1/\rng a.1
def ZAp(a:Tree × Unit):V U:= .c (.bool (Z4r a.1))
def Zd9:Fs U:=fs Zw0 (fun a=> [Ztd a]) ZAp
def ZAO:ArgL (Tree × Edit × Edit × Unit):=(.cons (aEl .tree) (.cons (aEl .edit) (.cons (aEl .edit) .nil)))
def ZBw(a:Tree × Edit × Edit × Unit):Prop:=(Z2J a.1/\rng a.1)/\(Z2g a.2.1/\Yp a.2.1)/\Z2g a.2.2.1/\Yp a.2.2.1
def ZG0(a:Tree × Edit × Edit × Unit):V U:= .c (.bool true)
def ZmI:Fs U:=fs ZAO (fun a=> [ZBw a]) ZG0
def Zv3:List (FuncId × Fs U):=[(30,Zdb),(31,Z8p)]
abbrev A47(p:List Nat):=AW (Z1 Zv3) Tryz.f47 ZCr p
theorem ZHn(t:Tree)(Q:QT)(h:let z2:=Tree.mk t.kind t.words t.kids;let z1:=decide (0<=ZD z2 80 3000);let z0:=bif z1 then (Zb z2 64) else false;((Ztf (z2,()))/\(Tt z1)/\(z1=true->Z54 (z2,64,()))/\(Tt z1)/\(Tt z0)/\(Tt z0)/\(Tt z0)/\(Q .ret (L2 [(2,.c (.bool (bif z0 then (t.kind !=10) else false)))] [])))):
  A47 [] (L2 [(0,.agg (enc .tree t))] []) Q:=
 (Eq.mpr V4 h:)
abbrev ZEg(t:Tree):Prop:=AW (Z1 Zv3) Tryz.f47 ZCr [] (Zf (Zw0.can (t,())) []) (EQ Tryz.f47 (ZAp (t,())) [])
theorem ZC0(c30:CT 30 Zdb)(c31:CT 31 Z8p)(hb:∀ (t:Tree) (_:Unit),Ztd (t,())->ZEg t):CT 47 Zd9:=
 Z0 (l:=[(30,Zdb),(31,Z8p)]) Zh rfl (⟨c30,c31,trivial⟩) ZCr Tryz.func47 rfl rfl 1 (fun _=> rfl) V3 (fun ⟨t,_⟩=> hb t ())
def ZAA:List (FuncId × Fs U):=[(47,Zd9),(14,Zdd),(48,Zd8),(49,Z4K),(50,Z4J),(51,Z2f),(26,Z4M)]
def lv9:Zc U:=lvl [([3,4,5],[3,4,5]),([3,4,5,33],[3,4,5]),([6],[]),([4,5,7,8],[4,5,36,38]),([4,5,7,8,10],[4,5,36,38]),([4,5,7,8,10,12],[4,5,36,38]),([4,5,7,8,56],[4,5,36,38]),([6],[]),([4,7,8,14],[4,36,38]),([7,8,14,16],[36,38]),([8,14,16,17],[17,38]),([14,16,17,19],[17,19]),([14,16,17,19,85],[17,19]),([6],[]),([6],[])]
abbrev A9(p:List Nat):=AW (Z1 ZAA) Tryz.f9 lv9 p
theorem vc9(t:Tree)(p q:Edit)(Q:QT)(h:∀ u,u=p->∀ d,d=q->∀ s,s=t->∀ ae,ae=(Z3 s)->∀ ak,ak=(HubT.now ((Zr 0 u (HubT.mk ae ([]:List Edit))).1))->∀ aj,aj=(HubT.now ((Zr 0 d (HubT.mk ae ([]:List Edit))).1))->∀ aa,aa=(HubT.mk ak (HubT.log ((Zr 0 u (HubT.mk ae ([]:List Edit))).1)))->∀ ab,ab=(HubT.mk aj (HubT.log ((Zr 0 d (HubT.mk ae ([]:List Edit))).1)))->∀ al,al=(HubT.now ((Zr 0 u ab).1))->∀ ai,ai=(HubT.now ((Zr 0 d aa).1))->∀ ah,ah=al->∀ af,af=ai->let z9:=HubT.now ((Zr 0 u ab).1);let z8:=HubT.now ((Zr 0 d aa).1);let z6:=(((Zr 0 d aa).2.2):Int)==3;let z5:=(((Zr 0 d aa).2.2):Int)==((Zr 0 u ab).2.2);let z3:=bif (!(Z4r s)) then true else (!(Z0R u));let z2:=(((Zr 0 d aa).2.2):Int) !=0;let z1:=HubT.mk ae ([]:List Edit);let z11:=HubT.now ((Zr 0 d z1).1);let z10:=HubT.now ((Zr 0 u z1).1);let z7:=(((Zr 0 u z1).2.2):Int) !=0;let z0:=((((Zr 0 d aa).2.2):Int)==0)==((((Zr 0 u ab).2.2):Int)==0);let z4:=bif z0 then (bif z2 then true else (ZY af ah)) else false;((Ztd (s,()))/\(Tt (!(!(Z4r s))))/\((!(!(Z4r s)))=true->Zjs (u,()))/\(Tt (!(!(Z4r s))))/\((!(Z4r s))=false->(!(!(Z4r s)))=true)/\(Tt (!z3))/\((!z3)=true->Zjs (d,()))/\(Tt (!z3))/\(z3=false->(!z3)=true)/\(iB (bif z3 then true else (!(Z0R d))) ((Za3 ())/\(Q .ret (L2 [pB 6 true] []))) ((ZfS (s,()))/\(ZfS (s,()))/\((Z8H (((Tree.kind (Z3 s)),(Tree.words (Z3 s)),(Tree.kids (Z3 s)),([]:List Edit),()),0,u,()))/\((Z8H (((Tree.kind (Z3 s)),(Tree.words (Z3 s)),(Tree.kids (Z3 s)),([]:List Edit),()),0,d,()))/\((Tt (!z7))/\(z7=false->(!z7)=true)/\(iB (bif z7 then true else ((((Zr 0 d z1).2.2):Int) !=0)) ((Za3 ())/\(Q .ret (L2 [pB 6 true] []))) ((Z8H (((Tree.kind z10),(Tree.words z10),(Tree.kids z10),(HubT.log ((Zr 0 u z1).1)),()),0,d,()))/\((Z8H (((Tree.kind z11),(Tree.words z11),(Tree.kids z11),(HubT.log ((Zr 0 d z1).1)),()),0,u,()))/\((ZfR (((Tree.kind z8),(Tree.words z8),(Tree.kids z8),(HubT.log ((Zr 0 d aa).1)),()),()))/\((ZfR (((Tree.kind z9),(Tree.words z9),(Tree.kids z9),(HubT.log ((Zr 0 u ab).1)),()),()))/\((Tt (!z6))/\(z6=false->(!z6)=true)/\(iB (bif z6 then true else ((((Zr 0 u ab).2.2):Int)==3)) ((z5=true->Za3 ())/\(Tt z5)/\(Q .ret (L2 [(6,.c (.bool (bif z5 then true else false)))] []))) ((Tt z0)/\(Tt z0)/\(Tt (z0 && (!z2)))/\(Tt (z0 && (!z2)))/\((z0 && (!z2))=true->Z8I (af,ah,()))/\(z0=true->(True->z0=true))/\(z0=true->(z2=false->(z0 && (!z2))=true))/\(Tt z0)/\(z4=true->Za3 ())/\(Tt z4)/\(Q .ret (L2 [(6,.c (.bool (bif z4 then true else false)))] []))))))))))))))))):
  A9 [] (L2 [(0,.agg (enc .tree t)),(1,.agg (enc .edit p)),(2,.agg (enc .edit q))] []) Q:=
 (Eq.mpr V4 (h _ (Z6 _) _ (Z6 _) _ (Z7 _) _ (Z7 _) _ (Z7 _) _ (Z7 _) _ rfl _ rfl _ (Z7 _) _ (Z7 _) _ (Z7 _) _ (Z7 _)):)
abbrev ZGT(t:Tree)(p q:Edit):Prop:=AW (Z1 ZAA) Tryz.f9 lv9 [] (Zf (ZAO.can (t,p,q,())) []) (EQ Tryz.f9 (ZG0 (t,p,q,())) [])
theorem ZG9(c47:CT 47 Zd9)(c14:CT 14 Zdd)(c48:CT 48 Zd8)(c49:CT 49 Z4K)(c50:CT 50 Z4J)(c51:CT 51 Z2f)(c26:CT 26 Z4M)(hb:∀ (t:Tree) (p:Edit) (q:Edit) (_:Unit),ZBw (t,p,q,())->ZGT t p q):CT 9 ZmI:=
 Z0 (l:=[(47,Zd9),(14,Zdd),(48,Zd8),(49,Z4K),(50,Z4J),(51,Z2f),(26,Z4M)]) Zh rfl (⟨c47,c14,c48,c49,c50,c51,c26,trivial⟩) lv9 Tryz.func9 rfl rfl 3 (fun _=> rfl) V3 (fun ⟨t,p,q,_⟩=> hb t p q ())
end
def w2(a b:Int):Tree:= .mk 1 [a,b] []
def sw0:Edit:=Z4S 0 1 2
def sw1:Edit:=Z4S 1 1 3
theorem Z7U{a b:Int}(ha:1<=a/\a<=3)(hb:1<=b/\b<=3):St42 (w2 a b):=by
 have W:∀ {n:Int},1<=n/\n<=3->isW n:=fun h=> ⟨V0,V0⟩
 refine ⟨rfl,⟨JV V3 V3,fun x d=> ?_,trivial⟩,?_,?_⟩
 .rcases Q9.1 d with rfl | d
  .exact W ha
  .rw [Qp.1 d];exact W hb
 .have e:trim [a,b]=[a,b]:=by simp [trim,show b≠0 by omega]
  unfold w2
  simp only [Z3,Yd,Y3,e]
  try rfl
 .show 1+2+0<=_;omega
theorem ZBg(b:Int):doE false sw0 (w2 1 b)=some (w2 2 b):=by
 unfold sw0 Z4S w2
 rw [Zvo,if_pos (show (Tree.mk 1 [1,b] []).kind=1 from rfl)]
 try rfl
theorem ZBf(a:Int):doE false sw1 (w2 a 1)=some (w2 a 3):=by
 unfold sw1 Z4S w2
 rw [Zvo,if_pos (show (Tree.mk 1 [a,1] []).kind=1 from rfl)]
 try rfl
theorem ZbC{a o n:Int}:Zi (Z4S a o n)=Z4S a o n:=by
 unfold Z4S
 rw [ZBB]
 try rfl
theorem ZFV{a o n:Int}(ha:a=0\/a=1)(ho:o=1)(hn:1<=n/\n<=3):Yp (Z4S a o n):=by
 have z:=Z1Z
 have i0:InR 0:=JV V3 V3
 refine ⟨JV V3 V3,z,z,fun w d=> ?_,i0,trivial,trivial⟩
 rw [Qp.1 d]
 subst ho
 exact ⟨JV V5 V5,⟨show (0:Int)<=1 by decide,show (1:Int) < 256 by decide⟩,⟨show (0:Int)<=1 by decide,show (1:Int) < 18446744073709551616 by decide⟩,⟨V5,V5⟩⟩
theorem Z6V:G43 sw0:=⟨rfl,ZFV (.inl rfl) rfl ⟨V3,V3⟩,rfl,V3⟩
theorem Z4F:G43 sw1:=⟨rfl,ZFV (.inr rfl) rfl ⟨V3,V3⟩,rfl,V3⟩
theorem Ztz:G43 Edit.nil:=⟨rfl,Z2m.2.1,rfl,V3⟩
theorem Zty:Zi Edit.nil=Edit.nil:=rfl
theorem ZAi:lbN sw1 sw0=(sw1,sw0,0):=by
 unfold lbN
 unfold sw0 sw1
 rw [ZbC,ZbC]
 have e:lbE (Z4S 1 1 3) (Z4S 0 1 2)=⟨Z4S 1 1 3,Z4S 0 1 2,false,false⟩:=rfl
 rw [e]
 dsimp only
 rw [if_neg V3,if_neg V3,ZbC,ZbC]
theorem ZBD:lbN Edit.nil sw1=(Edit.nil,sw1,0):=by
 unfold lbN
 unfold sw1
 rw [ZbC,Zty]
 have e:lbE Edit.nil (Z4S 1 1 3)=⟨Edit.nil,Z4S 1 1 3,false,false⟩:=rfl
 rw [e]
 dsimp only
 rw [if_neg V3,if_neg V3,ZbC,Zty]
theorem d0{b:Int}(hb:1<=b/\b<=3):ZN sw0 (w2 1 b)=(w2 2 b,0):=by
 have s:=Z7U (a:=2) V3 hb
 have h:=Z9z (ZBg b) (by rw [s.n];exact s.r)
 rw [s.n] at h
 exact h
theorem d1{a:Int}(ha:1<=a/\a<=3):ZN sw1 (w2 a 1)=(w2 a 3,0):=by
 have s:=Z7U (b:=3) ha V3
 have h:=Z9z (ZBf a) (by rw [s.n];exact s.r)
 rw [s.n] at h
 exact h
theorem ZGw:Z1s sw0 ⟨w2 1 1,0,Edit.nil⟩=(⟨w2 2 1,0,sw0⟩,0):=by
 unfold Z1s
 rw [if_pos Z6V.r,show Zi sw0=sw0 from ZbC,d0 V3,if_pos rfl,if_pos Z6V.r]
theorem ZGv:Z1s sw1 ⟨w2 1 1,0,Edit.nil⟩=(⟨w2 1 3,0,sw1⟩,0):=by
 unfold Z1s
 rw [if_pos Z4F.r,show Zi sw1=sw1 from ZbC,d1 V3,if_pos rfl,if_pos Z4F.r]
theorem ZG5:Zr 0 sw0 ⟨w2 1 1,[]⟩=(⟨w2 2 1,[sw0]⟩,1,0):=by
 rw [Z7r Z6V.r,show Zi sw0=sw0 from ZbC,d0 V3,if_pos rfl]
theorem ZG4:Zr 0 sw1 ⟨w2 2 1,[sw0]⟩=(⟨w2 2 3,[sw0,sw1]⟩,2,0):=by
 rw [Z4Z Z4F.r,ZAi,if_pos rfl,show Zi sw1=sw1 from ZbC,d1 V3,if_pos rfl]
theorem ZFU:Z0T ⟨w2 2 1,0,sw0⟩ ⟨w2 1 1,[]⟩=((⟨w2 2 1,1,Edit.nil⟩,⟨w2 2 1,[sw0]⟩),0):=by
 unfold Z0T
 have e:Z1t 0 sw0 ⟨w2 1 1,[]⟩=(sw0,[],0):=by show (Zi sw0,_,_)=_;rw [show Zi sw0=sw0 from ZbC]
 dsimp only
 rw [if_pos V3,e,if_pos rfl,show Z4t (sw0,([]:List Edit),(0:Int)).2.1 (w2 2 1)=(w2 2 1,0) from rfl,if_pos rfl,if_neg V3,ZG5,if_pos rfl]
theorem ZDB:Z1t 0 sw1 ⟨w2 2 1,[sw0]⟩=(sw1,[sw0],0):=by
 show Z1z [sw0] sw1 []=_
 rw [Z1z,ZAi,if_pos rfl]
 show (Zi sw1,_,_)=_
 rw [show Zi sw1=sw1 from ZbC];try rfl
theorem ZDA:Z1t 1 Edit.nil ⟨w2 2 3,[sw0,sw1]⟩=(Edit.nil,[sw1],0):=by
 show Z1z [sw1] Edit.nil []=_
 rw [Z1z,ZBD,if_pos rfl]
 show (Zi Edit.nil,_,_)=_
 rw [Zty];try rfl
theorem Zgl{m:Edit}{t u:Tree}(h:ZN m t=(u,0)):Z4t [m] t=(u,0):=by
 rw [Z4t,h,if_pos rfl];try rfl
theorem ZFT:Z0T ⟨w2 1 3,0,sw1⟩ ⟨w2 2 1,[sw0]⟩=((⟨w2 2 3,2,Edit.nil⟩,⟨w2 2 3,[sw0,sw1]⟩),0):=by
 unfold Z0T
 dsimp only
 rw [if_pos V3,ZDB,if_pos rfl,Zgl (d0 (b:=3) V3),if_pos rfl,if_neg V3,ZG4,if_pos rfl]
theorem ZFS:Z0T ⟨w2 2 1,1,Edit.nil⟩ ⟨w2 2 3,[sw0,sw1]⟩=((⟨w2 2 3,2,Edit.nil⟩,⟨w2 2 3,[sw0,sw1]⟩),0):=by
 unfold Z0T
 dsimp only
 rw [if_pos V3,ZDA,if_pos rfl,Zgl (d1 (a:=2) V3),if_pos rfl,if_pos V3]
 try rfl
theorem so0:ZgG ⟨w2 2 1,0,sw0⟩ ⟨w2 1 1,[]⟩:=by
 have s:=Z7U (a:=1) (b:=1) V3 V3
 exact ⟨fun _=> ⟨Z6V.re,fun _=> trivial⟩,ZeN Z6V s V3⟩
theorem so1:ZgG ⟨w2 1 3,0,sw1⟩ ⟨w2 2 1,[sw0]⟩:=by
 have s:=Z7U (a:=1) (b:=3) V3 V3
 have d:=Z7U (a:=2) (b:=1) V3 V3
 have rb:=Z4F.rb Z6V
 have o:Zf2 [sw0] sw1:=⟨rb,fun _=> (ZhV rb).1⟩
 refine ⟨fun _=> ⟨o,fun _=> ?_⟩,⟨V3,Z4F.g⟩,fun _=> ⟨o,fun _=> ?_⟩,V3⟩
 .dsimp only
  rw [ZDB]
  exact ⟨Z1J Z6V.re s,fun _=> trivial⟩
 .dsimp only
  rw [ZDB]
  exact Z1J Z4F.re d
theorem so2:ZgG ⟨w2 2 1,1,Edit.nil⟩ ⟨w2 2 3,[sw0,sw1]⟩:=by
 have s:=Z7U (a:=2) (b:=1) V3 V3
 have d:=Z7U (a:=2) (b:=3) V3 V3
 have rb:=Ztz.rb Z4F
 have o:Zf2 [sw1] Edit.nil:=⟨rb,fun _=> (ZhV rb).1⟩
 refine ⟨fun _=> ⟨o,fun _=> ?_⟩,⟨V3,Ztz.g⟩,fun _=> ⟨o,fun _=> ?_⟩,V3⟩
 .dsimp only
  rw [ZDA]
  exact ⟨Z1J Z4F.re s,fun _=> trivial⟩
 .dsimp only
  rw [ZDA]
  exact Z1J Ztz.re d
set_option maxHeartbeats 1000000 in
theorem c48:Contract Tryz.prog cfg 48 Zd8:=by
 refine ZBZ c49 c61 c92 c62 c57 c51 c59 c26 ?_
 intro _ _
 refine ZHm _ ?_
 intro y1 e1 y2 e2 y3 e3 y4 e4 y5 e5 y6 e6 y7 e7 y8 e8 y9 e9 a2 ai a5 s bd af a4 am a7 ah az ab a1 aj ba aa bc ak bf al a8 ar a6 av
 have d:=Z7U (a:=1) (b:=1) V3 V3
 have au:Z3 (.mk 1 [1,1] [])=w2 1 1:=d.n
 have e2:y2=sw0:=e2
 have e3:y3=sw1:=e3
 rw [au] at e4 ⊢
 subst e1 e2 e3 e4
 rw [show Z1s sw0 ⟨w2 1 1,(([]:List Edit).length:Int),Edit.nil⟩=(⟨w2 2 1,0,sw0⟩,0) from ZGw] at e5
 rw [show Z1s sw1 ⟨w2 1 1,(([]:List Edit).length:Int),Edit.nil⟩=(⟨w2 1 3,0,sw1⟩,0) from ZGv] at e6
 subst e5 e6
 dsimp only at e7 e8 e9 ai
 subst e7 e8 e9 ai
 dsimp only at s
 rw [ZFU] at s
 subst s
 dsimp only at af am ah
 subst af am ah
 dsimp only at ab
 rw [ZFT] at ab
 subst ab
 dsimp only at aj
 subst aj
 dsimp only at aa
 rw [ZFS] at aa
 subst aa
 dsimp only at ak al
 subst ak al ar av
 dsimp only
 (simp only [iB,vcT,vcS])
 have be:=Z7U (a:=2) (b:=3) V3 V3
 have h:ZY (w2 2 3) (w2 2 3)=true:=Zdj _
 have u:ZY (w2 2 3) (Tree.mk 1 [2,3] [])=true:=h
 rw [h,u]
 have ao:Jx sw0/\Z7c sw0 (w2 1 1):=⟨Z6V.re,Z1J Z6V.re d⟩
 have aq:Jx sw1/\Z7c sw1 (w2 1 1):=⟨Z4F.re,Z1J Z4F.re d⟩
 have g0:Za sw0<=18000000000/\Yp sw0:=⟨V3,Z6V.g⟩
 have g1:Za sw1<=18000000000/\Yp sw1:=⟨V3,Z4F.g⟩
 have ae:Zj (w2 2 3)<=1000000000000:=V3
 exact ⟨⟨⟨V3,d.g⟩,d.r,V3⟩,trivial,trivial,trivial,⟨⟨rfl,g0⟩,fun _=> ao⟩,trivial,⟨⟨rfl,g1⟩,fun _=> aq⟩,so0,so1,so2,trivial,trivial,fun _=> ae,fun _=> ae,Z4 rfl rfl⟩
theorem c47:Contract Tryz.prog cfg 47 Zd9:=by
 refine ZC0 c30 c31 ?_
 intro t _ s
 obtain ⟨d,u⟩:=s
 refine ZHn _ _ ?_
 (simp only [vE])
 (simp only [iB,vcT,vcS])
 refine ⟨d,fun h=> ⟨X5 (Zgj h) V3,u,V5,V5⟩,Z4 rfl ?_⟩
 unfold Z4r
 rw [Qo]
 simp only [Zmd,Q4,decide_eq_true_eq,bne_iff_ne]
theorem Z5V{v:Int}{e:Edit}{h:HubT}(ok:Z50 v e h)(hm:Zj h.now<=100000000000):Zj (Zr v e h).1.now<=100000000000:=by
 obtain ⟨_,k,_⟩:=ok
 unfold Zr
 split
 .rename_i hB
  split
  .rename_i s
   obtain ⟨⟨_,_,d,r⟩,m,_⟩:=(k hB).2 s
   split
   .rename_i hd
    obtain ⟨u,h1,_,h3⟩:=Zvn hd
    have:=Zcm false _ d _ _ r h1
    have:=Yx u
    dsimp only
    rw [h3]
    dsimp only
    omega
   .exact hm
  .exact hm
 .exact hm
set_option maxHeartbeats 1000000 in
theorem c9:Contract Tryz.prog cfg 9 ZmI:=by
 refine ZG9 c47 c14 c48 c49 c50 c51 c26 ?_
 intro t p q _ hp
 obtain ⟨⟨s1,s2⟩,⟨p1,p2⟩,q1,q2⟩:=hp
 refine vc9 _ _ _ _ ?_
 intro y1 e1 y2 e2 d e3 y4 e4 y5 e5 y6 e6 y7 e7 y8 e8 y9 e9 a9 av bb ax a0 ar
 subst e1 e2 e3 e5 e6
 have e7:y7=(Zr 0 y1 ⟨y4,[]⟩).1:=e7
 have e8:y8=(Zr 0 y2 ⟨y4,[]⟩).1:=e8
 subst ax ar
 (simp only [iB,vcT,vcS])
 have aw:Za3 ():=trivial
 refine ⟨⟨s1,s2⟩,fun _=> ⟨p1,p2⟩,fun _=> ⟨q1,q2⟩,fun _=> ⟨aw,Z4 rfl rfl⟩,fun hg=> ?_⟩
 obtain ⟨⟨g1,g2⟩,g3⟩:=hg
 obtain ⟨_,m1,r1⟩:=Zkb g2 p2
 obtain ⟨_,m2,r2⟩:=Zkb g3 q2
 have m3:=ZGq g1
 obtain ⟨_,_,r3,k3⟩:=Zve g1 s2
 have P:G43 y1:=⟨r1,p2,ZeK g2,V0⟩
 have Q:G43 y2:=⟨r2,q2,ZeK g3,V0⟩
 have mn:=Yx d
 have hn:St42 y4:=by rw [e4];exact ⟨Z2P _ _ r3,Z1i _ s2,Yb _,V0⟩
 have m4:Zj y4<=20000:=by rw [e4];omega
 have ae:ZfS (d,()):=⟨⟨V5,s2⟩,r3,k3⟩
 have ab:=ZeN P hn m4
 have ai:=ZeN Q hn m4
 have e0:Tree.mk (Z3 d).kind (Z3 d).words (Z3 d).kids=y4:=by rw [Zkj,e4]
 have ah:∀ {e:Edit},Z50 0 e ⟨y4,[]⟩->Z8H (((Z3 d).kind,(Z3 d).words,(Z3 d).kids,[],()),0,e,()):=by
  intro e h
  rw [<-e0] at h
  exact h
 have s:∀ {e:Edit} {h:HubT},Z50 0 e h->Z8H ((h.now.kind,h.now.words,h.now.kids,h.log,()),0,e,()):=by
  intro e h hh
  show Z50 0 e ⟨.mk h.now.kind h.now.words h.now.kids,h.log⟩
  rw [Zkj]
  exact hh
 refine ⟨ae,ae,ah ab,ah ai,fun _=> ⟨aw,Z4 rfl rfl⟩,fun hh=> ?_⟩
 obtain ⟨h1,h2⟩:=hh
 have u:=ZfA P Q hn m4 h1
 have aa:=ZfA Q P hn m4 h2
 obtain ⟨T1,T2⟩:=ZBc P Q hn m4 h1 h2
 have mA:=Z5V ab V5
 have mB:=Z5V ai V5
 refine ⟨s u,s aa,trivial,trivial,?_⟩
 rw [<-e7,<-e8] at T1 T2
 rw [<-e7] at u mA
 rw [<-e8] at aa mB
 have mC:=Z5V u mA
 have mD:=Z5V aa mB
 rw [<-av] at mC T2
 rw [<-e9] at mD T2
 rw [T1]
 have bt:∀ b:Bool,(b==b)=true:=V3
 have nt:∀ n:Int,(n==n)=true:=fun n=> beq_self_eq_true n
 refine ⟨fun _=> ⟨fun _=> aw,Z4 rfl (by rw [nt];rfl)⟩,fun _=> ⟨fun _=> by show Zj a0<=_;omega,fun _ h=> ⟨rfl,h⟩,fun _=> aw,Z4 rfl ?_⟩⟩
 rw [bt]
 by_cases h0:(Zr 0 y1 y8).2.2=0
 .have:=T2 (by rw [T1];exact h0)
  rw [this,Zdj]
  cases ((Zr 0 y1 y8).2.2 !=0) <;> rfl
 .have:((Zr 0 y1 y8).2.2 !=0)=true:=by simpa using h0
  rw [this]
  try rfl
end Go.AM.YtpjenobkibfpcaaGreat
