import Derived.Test.YtpjenobkibfpcaaGreatZCB41d
import Derived.Test.YtpjenobkibfpcaaGreatZCL30g
import Derived.Test.YtpjenobkibfpcaaGreatZKM07
import Derived.Test.YtpjenobkibfpcaaGreatZKG20x
import Derived.Test.YtpjenobkibfpcaaGreatZKL07
set_option linter.unusedSimpArgs false
set_option linter.unusedVariables false
namespace Go.AM.YtpjenobkibfpcaaGreat
open Go.AM Go.Proofs
theorem Zuq:Contract Tryz.prog cfg 190 Z44:=by
 refine ZBd ?_
 intro w _ _
 refine ZJc _ _ ?_
 simp only [ZnK]
 exact V0
theorem Zup:Contract Tryz.prog cfg 192 Z43:=by
 refine ZBb ?_
 intro w _ _
 refine ZJa _ _ ?_
 simp only [ZnJ]
 exact V0
theorem ZGS:Contract Tryz.prog cfg 199 Zaa:=by
 refine ZB4 ?_
 intro w _ _
 refine ZJ3 _ _ ?_
 simp only [ZnH]
 exact V0
theorem Z50{α:Type}(f:α->Bool):∀ (l:List α) (i:Int),(JL f l i= -1/\∀ a∈l,f a=false)\/(i<=JL f l i/\JL f l i < i+l.length/\(∀ a∈l.take (JL f l i - i).toNat,f a=false)/\∀ z,f (l.getD (JL f l i - i).toNat z)=true)
 | [],i=> .inl ⟨rfl,fun a h=> by cases h⟩
 | a ::r,i=> by
  by_cases h:f a=true
  .rw [JL,if_pos h]
   grind
  .rw [JL,if_neg h]
   rcases Z50 f r (i+1) with ⟨h1,h2⟩ | ⟨h1,h2,h3,h4⟩
   .grind
   .have e:(JL f r (i+1) - i).toNat=(JL f r (i+1) - (i+1)).toNat+1:=JX
    rw [e]
    refine .inr ⟨JX,by grind,fun x s=> ?_,fun z=> by simpa using h4 z⟩
    grind
theorem ZyW{α:Type}(f:α->Bool)(l:List α):decide (0<=JL f l 0)=l.any f:=by
 rcases Z50 f l 0 with ⟨h1,h2⟩ | ⟨h1,h2,_,h4⟩
 .grind
 .rw [decide_eq_true h1,K6.2]
  cases l with
  | nil=> grind
  | cons a r=> exact ⟨_,Zk JX a,h4 a⟩
theorem ZGG:Contract Tryz.prog cfg 224 Za2:=by
 refine ZAR Zuq ?_
 intro l f _ hp
 simp only [ZjZ] at hp
 refine ZIN l f _ ?_
 refine Zc (ι:=Int) (fun i=> Z81 l f i) (fun i=> 0<=i/\i<=l.length/\JL (fun w:WEdit=> decide (WEdit.mask w=0)) (l.drop i.toNat) i=JL (fun w:WEdit=> decide (WEdit.mask w=0)) l 0) (fun i=> ((l.length:Int) - i).toNat) 0 rfl ⟨JX,JX,rfl⟩ ?_
 rintro i ⟨u,h2,h⟩
 refine ZuR l f _ _ _ ?_
 (simp only [iB,vcT,vcS])
 refine ⟨fun s=> ⟨⟨u,s⟩,trivial,fun he=> ?_,fun he=> ⟨V1,i+1,rfl,⟨JX,JX,?_⟩,JX⟩⟩,fun s=> ?_⟩
 .rw [YE u s ⟨0,0,0,0⟩,JL,if_pos (decide_eq_true he)] at h
  simp only [ZjE,<-h]
  exact V0
 .rw [YE u s ⟨0,0,0,0⟩,JL,if_neg (fun e=> he (of_decide_eq_true e))] at h
  exact h
 .rw [Qc JX,JL] at h
  simp only [ZjE,<-h]
  exact V0
theorem Zzh:Contract Tryz.prog cfg 225 Z6D:=by
 refine Zxi Zup ?_
 intro l f _ hp
 simp only [Zez] at hp
 refine ZFb l f _ ?_
 refine Zc (ι:=Int) (fun i=> Z5Z l f i) (fun i=> 0<=i/\i<=l.length/\JL (fun k:Kid=> decide (Edit.kind (KidOf.e k)=0)) (l.drop i.toNat) i=JL (fun k:Kid=> decide (Edit.kind (KidOf.e k)=0)) l 0) (fun i=> ((l.length:Int) - i).toNat) 0 rfl ⟨JX,JX,rfl⟩ ?_
 rintro i ⟨u,h2,h⟩
 refine Zt1 l f _ _ _ ?_
 intro y1 e1 y2 e2
 (simp only [iB,vcT,vcS])
 subst_vars
 refine ⟨fun s=> ⟨⟨u,s⟩,trivial,fun he=> ?_,fun he=> ⟨V1,i+1,rfl,⟨JX,JX,?_⟩,JX⟩⟩,fun s=> ?_⟩
 .rw [YE u s ⟨0,Edit.nil⟩,JL,if_pos (decide_eq_true he)] at h
  simp only [Zeu,<-h]
  exact V0
 .rw [YE u s ⟨0,Edit.nil⟩,JL,if_neg (fun e=> he (of_decide_eq_true e))] at h
  exact h
 .rw [Qc JX,JL] at h
  simp only [Zeu,<-h]
  exact V0
theorem ZGD:Contract Tryz.prog cfg 230 Z9Z:=by
 refine ZAM ZGS ?_
 intro l f _ hp
 simp only [ZjY] at hp
 refine ZII l f _ ?_
 refine Zc (ι:=Int) (fun i=> Z80 l f i) (fun i=> 0<=i/\i<=l.length/\JL (fun o:Op=> !decide (OpOf.kind o=0)) (l.drop i.toNat) i=JL (fun o:Op=> !decide (OpOf.kind o=0)) l 0) (fun i=> ((l.length:Int) - i).toNat) 0 rfl ⟨JX,JX,rfl⟩ ?_
 rintro i ⟨u,h2,h⟩
 refine ZuQ l f _ _ _ ?_
 intro y1 e1 y2 e2
 (simp only [iB,vcT,vcS])
 subst_vars
 refine ⟨fun s=> ⟨⟨u,s⟩,trivial,fun he=> ?_,fun he=> ⟨V1,i+1,rfl,⟨JX,JX,?_⟩,JX⟩⟩,fun s=> ?_⟩
 .rw [YE u s Op.nil,JL,if_pos (by simpa using he)] at h
  simp only [ZjD,<-h]
  exact V0
 .rw [YE u s Op.nil,JL,if_neg (by simpa using he)] at h
  exact h
 .rw [Qc JX,JL] at h
  simp only [ZjD,<-h]
  exact V0
theorem ZGT:Contract Tryz.prog cfg 198 Zab:=by
 refine ZB5 ZGD ?_
 intro l f _ h
 simp only [ZjY] at h
 refine ZJ4 l f _ ⟨h,?_⟩
 simp only [ZnI]
 rw [ZyW]
 exact V0
theorem ZGX:Contract Tryz.prog cfg 194 Zad:=by
 refine ZB9 ?_
 intro n _ _
 refine ZJ8 _ _ ?_
 (simp only [iB,vcT,vcS])
 refine ⟨fun h=> ?_,fun h=> ?_⟩
 .simp only [ZjJ,Z0F,if_pos h]
  exact V0
 .simp only [ZjJ,Z0F,if_neg h]
  exact V0
theorem ZHh:Contract Tryz.prog cfg 138 Zed:=by
 refine ZBC ?_
 intro l _ s
 simp only [Zgf] at s
 refine ZJG _ _ ⟨fun h=> ?_,fun _=> ⟨by simp only [Qp];omega,?_⟩⟩
 .subst h
  simp only [Zet]
  exact V0
 .simp only [Zet]
  exact V0
theorem ZHe:Contract Tryz.prog cfg 141 Zea:=by
 refine ZBz ?_
 intro l _ s
 simp only [Zgd] at s
 refine ZJD _ _ ⟨fun h=> ?_,fun _=> ⟨by simp only [Qp];omega,?_⟩⟩
 .subst h
  simp only [Zes]
  exact V0
 .simp only [Zes]
  exact V0
structure DInv {α:Type} (g:α->Bool) (l L:List α) (i j:Int):Prop where
 i0:0<=i
 ij:i < j
 jl:j<=l.length
 len:L.length=l.length
 tk:L.take i.toNat=(l.take j.toNat).filter g
 dr:L.drop j.toNat=l.drop j.toNat
theorem DInv.one{α:Type}{f:α->Bool}{l:List α}{k:Int}(e:JL f l 0=k)(hk:k≠-1):DInv (fun a=> !f a) l l k (k+1):=by
 subst e
 rcases Z50 f l 0 with ⟨h1,_⟩ | ⟨h1,h2,h3,h4⟩
 .omega
 .rw [Int.sub_zero] at h3 h4
  refine ⟨h1,JX,JX,rfl,?_,rfl⟩
  cases l with
  | nil=> grind
  | cons a r=>
   rw [show (JL f (a ::r) 0+1).toNat=(JL f (a ::r) 0).toNat+1 by omega,Z4C JX a,List.filter_append,Ko,h4 a,List.filter_eq_self.2 (fun x h=> by grind)]
   simp
theorem DInv.get{α:Type}{g:α->Bool}{l L:List α}{i j:Int}(h:DInv g l L i j)(z:α):L.getD j.toNat z=l.getD j.toNat z:=by
 have:=congrArg (fun x=> x.getD 0 z) h.dr
 grind
theorem DInv.next{α:Type}{g:α->Bool}{l L:List α}{i j:Int}(h:DInv g l L i j)(hj:j < l.length)(z:α):
  (g (L.getD j.toNat z)=true->DInv g l (L.set i.toNat (L.getD j.toNat z)) (i+1) (j+1))/\(g (L.getD j.toNat z)=false->DInv g l L i (j+1)):=by
 obtain ⟨i0,ij,jl,len,tk,dr⟩:=h
 have e:=DInv.get ⟨i0,ij,jl,len,tk,dr⟩ z
 have t1:l.take (j+1).toNat=l.take j.toNat++[l.getD j.toNat z]:=by rw [show (j+1).toNat=j.toNat+1 by omega];exact Z4C JX z
 have s:L.drop (j+1).toNat=l.drop (j+1).toNat:=by
  have:=congrArg (List.drop 1) dr
  rw [XT,XT] at this
  rw [show (j+1).toNat=j.toNat+1 by omega];exact this
 refine ⟨fun u=> ⟨JX,JX,JX,by grind,?_,?_⟩,fun u=> ⟨i0,JX,JX,len,?_,s⟩⟩
 .have aa:i.toNat < L.length:=JX
  rw [show (i+1).toNat=i.toNat+1 by omega,Z4C (by grind) z,t1,List.filter_append,<-tk,List.take_set_of_le JX]
  grind
 .rw [List.drop_set,Jq]
  exact s
 grind
theorem DInv.fin{α:Type}{g:α->Bool}{l L:List α}{i j:Int}(h:DInv g l L i j)(hj:¬j < l.length)(r:List α):List.take i.toNat (List.take i.toNat L++r)=l.filter g:=by
 have h1:=h.ij;have u:=h.jl;have s:=h.len;have h4:=h.i0
 rw [List.take_append_of_le_length (by rw [Qr];omega),List.take_take,Nat.min_self,h.tk,Qy JX]
theorem ZGZ:Contract Tryz.prog cfg 189 Zaf:=by
 refine ZBe Zuq ZGG ?_
 intro l f _ hp
 simp only [ZjZ] at hp
 refine ZJd l f _ ?_
 (simp only [iB,vcT,vcS])
 refine ⟨hp,fun h=> ?_,fun h=> ?_⟩
 .have e:l.filter (fun w=> !decide (WEdit.mask w=0))=l:=by
   rcases Z50 (fun w:WEdit=> decide (WEdit.mask w=0)) l 0 with ⟨_,h2⟩ | ⟨h1,_⟩
   .simp_all
   .omega
  simp only [ZjM,Zem,Zep,e]
  exact V0
 .have D:=DInv.one (f:=fun w:WEdit=> decide (WEdit.mask w=0)) (l:=l) rfl h
  have:=D.jl;have:=D.i0
  refine ⟨V1,?_⟩
  refine Zc (ι:=List WEdit × Int × Int) (fun s=> Z53 l f s.2.1 s.2.2 s.1) (fun s=> DInv (fun w:WEdit=> !decide (WEdit.mask w=0)) l s.1 s.2.1 s.2.2) (fun s=> ((l.length:Int) - s.2.2).toNat) (l,_,_) rfl D ?_
  rintro ⟨L,i,j⟩ D
  dsimp only at D
  have hl:=D.len;have h0:=D.i0;have h1:=D.ij;have h2:=D.jl
  refine ZuY l f _ _ _ _ _ ?_
  intro y1 aa y2 u
  subst u
  (simp only [iB,vcT,vcS])
  refine ⟨fun hj=> ?_,fun hj=> ?_⟩
  .have hn:=D.next JX ⟨0,0,0,0⟩
   rw [<-aa] at hn
   refine ⟨⟨JX,hj⟩,trivial,fun he=> ⟨⟨h0,JX⟩,QG _,V1,V1,(_,i+1,j+1),rfl,hn.1 (by simpa using he),V4⟩,fun he=> ⟨V1,(L,i,j+1),rfl,hn.2 (by simpa using he),V4⟩⟩
  .refine ⟨⟨h0,JX⟩,QG _,⟨h0,by simp only [Qk,Qr,Xk];omega⟩,?_⟩
   rw [D.fin JX]
   simp only [ZjM,Zem,Zep]
   exact V0
theorem ZGY:Contract Tryz.prog cfg 191 Zae:=by
 refine ZBc Zup Zzh ?_
 intro l f _ hp
 simp only [Zez] at hp
 refine ZJb l f _ ?_
 (simp only [iB,vcT,vcS])
 refine ⟨hp,fun h=> ?_,fun h=> ?_⟩
 .have e:l.filter (fun k=> !decide (Edit.kind (KidOf.e k)=0))=l:=by
   rcases Z50 (fun k:Kid=> decide (Edit.kind (KidOf.e k)=0)) l 0 with ⟨_,h2⟩ | ⟨h1,_⟩
   .simp_all
   .omega
  simp only [ZjL,Zel,Zeo,e]
  exact V0
 .have D:=DInv.one (f:=fun k:Kid=> decide (Edit.kind (KidOf.e k)=0)) (l:=l) rfl h
  have:=D.jl;have:=D.i0
  refine ⟨V1,?_⟩
  refine Zc (ι:=List Kid × Int × Int) (fun s=> Z52 l f s.2.1 s.2.2 s.1) (fun s=> DInv (fun k:Kid=> !decide (Edit.kind (KidOf.e k)=0)) l s.1 s.2.1 s.2.2) (fun s=> ((l.length:Int) - s.2.2).toNat) (l,_,_) rfl D ?_
  rintro ⟨L,i,j⟩ D
  dsimp only at D
  have hl:=D.len;have h0:=D.i0;have h1:=D.ij;have h2:=D.jl
  refine ZuX l f _ _ _ _ _ ?_
  intro y1 aa y2 u
  subst u
  (simp only [iB,vcT,vcS])
  refine ⟨fun hj=> ?_,fun hj=> ?_⟩
  .have hn:=D.next JX ⟨0,Edit.nil⟩
   rw [<-aa] at hn
   refine ⟨⟨JX,hj⟩,trivial,fun he=> ⟨⟨h0,JX⟩,QG _,V1,V1,(_,i+1,j+1),rfl,hn.1 (by simpa using he),V4⟩,fun he=> ⟨V1,(L,i,j+1),rfl,hn.2 (by simpa using he),V4⟩⟩
  .refine ⟨⟨h0,JX⟩,QG _,⟨h0,by simp only [Qk,Qr,Xk];omega⟩,?_⟩
   rw [D.fin JX]
   simp only [ZjL,Zel,Zeo]
   exact V0
theorem ZFh{a b n m:Nat}(h1:a<=n)(h2:b<=m)(hn:n<=10000000000)(hm:m<=10000000000):InR ((a:Int)+(b:Int)):=V1
theorem ZKb{a b:Nat}(h:(a:Int)+(b:Int)=0):a+b=0:=JX
theorem ZKa{a b:Nat}(h:¬(a:Int)+(b:Int)=0):¬a+b=0:=JX
set_option maxHeartbeats 2000000 in
theorem ZHd:Contract Tryz.prog cfg 142 Ze9:=by
 refine ZBy ZGZ ZGY ?_
 intro ek eo s ae en aa ab ew ec li u _ hp
 simp only [Zgc] at hp
 refine ZJC _ _ _ _ _ _ _ _ _ _ _ _ ?_
 (simp only [iB,vcT,vcS])
 refine ⟨by show ew.length<=_;omega,by show ec.length<=_;omega,ZFh (Ka _ _) (Ka _ _) hp.1 hp.2,fun h=> ?_,fun h=> ?_⟩
 .simp only [ZjQ,Zen,Zer]
  rw [show Z4H (Edit.mk ek (Tree.mk eo s ae) (Tree.mk en aa ab) ew ec li u)=Edit.nil from if_pos (show (ew.filter fun w=> !decide (WEdit.mask w=0)).length+(ec.filter fun k=> !decide (Edit.kind (KidOf.e k)=0)).length=0 from ZKb h)]
  exact V0
 .simp only [ZjQ,Zen,Zer]
  rw [show Z4H (Edit.mk ek (Tree.mk eo s ae) (Tree.mk en aa ab) ew ec li u)=Edit.mk ek (Tree.mk eo s ae) (Tree.mk en aa ab) (ew.filter fun w=> !decide (WEdit.mask w=0)) (ec.filter fun k=> !decide (Edit.kind (KidOf.e k)=0)) li u from if_neg (show ¬(ew.filter fun w=> !decide (WEdit.mask w=0)).length+(ec.filter fun k=> !decide (Edit.kind (KidOf.e k)=0)).length=0 from ZKa h)]
  exact V0
theorem ZHa:Contract Tryz.prog cfg 146 Ze6:=by
 refine ZBv ZGT ?_
 intro list l _ s
 simp only [Zgb] at s
 refine ZJy _ _ _ ⟨s,fun h=> ?_,fun h=> ?_⟩
 .simp only [QX] at h
  simp only [ZjP,Z1w]
  rw [if_neg (by rw [h];decide)]
  exact V0
 .simp only [Xu] at h
  simp only [ZjP,Z1w]
  rw [if_pos h]
  exact V0
theorem ZHs:Contract Tryz.prog cfg 103 Zef:=by
 refine ZBO c25 Z9K ?_
 intro mc ma e o n _ hp
 simp only [Zcg] at hp
 obtain ⟨he,ho,hn⟩:=hp
 refine ZK1 _ _ _ _ _ _ ?_
 intro y1 h1 y2 s y3 h3 y4 h4
 subst h1 s h3
 (simp only [iB,vcT,vcS])
 have u:doB y1 y3=(y4,(doE false y1 y3).isSome):=by rw [h4];try rfl
 refine ⟨⟨he,ho⟩,fun h=> ?_,fun h=> ⟨⟨?_,by grind⟩,fun s=> ?_,fun s=> ?_⟩⟩
 .simp only [ZfR,ZaD,Z11,u,h,XU,Xy,QC,Xm]
  exact V0
 .show Zo y4<=_
  rw [h4]
  exact Zog he.2.2 ho.1
 .simp only [ZfR,ZaD,Z11,u,h,s,QL,Xw,Xy,QC,Xm]
  exact V0
 .simp only [ZfR,ZaD,Z11,u,h,s,QL,Xw,QC]
  exact V0
theorem Zbj(l:List Tree):(Z5X l).length<=1:=by unfold Z5X;split <;> simp
theorem ZHb:Contract Tryz.prog cfg 144 Ze7:=by
 refine ZBw ZkX ZGX ZGW ?_
 intro aa sx sy s h mc ma _ hp
 simp only [Zkd] at hp
 obtain ⟨⟨h1,h2⟩,h3,h4⟩:=hp
 have k1:=Z7X s.length
 have k2:=Z7X h.length
 have k3:=Zbj s
 have k4:=Zbj h
 refine ZJA aa _ _ _ _ _ _ _ ?_
 (simp only [iB,vcT,vcS])
 refine ⟨fun hb=> ⟨⟨by grind,by grind⟩,fun u=> ?_,fun u=> ?_⟩,fun hb=> ?_⟩
 .have e:Z0r s h=⟨Z0F h.length,Z0F s.length,true,false⟩:=by
   rw [Z0r,if_pos ⟨fun e=> by grind,fun e=> by grind⟩,Z2Y,u];try rfl
  refine ⟨trivial,JX,trivial,JX,?_⟩
  simp only [Zaz,e,Xm]
  exact V0
 .have e:Z0r s h=⟨Z0F h.length,Z0F s.length,false,false⟩:=by
   rw [Z0r,if_pos ⟨fun e=> by grind,fun e=> by grind⟩,Z2Y,u];try rfl
  refine ⟨trivial,JX,trivial,JX,?_⟩
  simp only [Zaz,e,QC]
  exact V0
 .have e:Z0r s h=⟨Z5X s++Z0F h.length,Z0F s.length++Z5X h,false,false⟩:=by
   rw [Z0r,if_neg]
   rintro ⟨a,b⟩
   have:=XM.2 a
   have:=XM.2 b
   omega
  refine ⟨trivial,JX,trivial,by grind,trivial,JX,trivial,by grind,?_⟩
  simp only [Zaz,e,QC,<-Qo]
  exact V0
theorem Zqt(m:Int):0<=Z6l m/\Z6l m < 256:=by
 unfold Z6l
 have h:=(BitVec.ofInt (IntKind.bits .u8) 255 ^^^ BitVec.ofInt (IntKind.bits .u8) m).isLt
 have e:(2:Nat) ^ IntKind.bits .u8=256:=rfl
 rw [Z5m JX JX]
 omega
theorem b66:ZL2:=by
 intro N mc ma p q _ hp hN
 obtain ⟨op,oq⟩:=hp
 dsimp only at op oq
 have az:8*(Z8 p+Z8 q)+1 < N+1:=hN
 obtain ⟨dp,rp⟩:=op.2.2
 obtain ⟨dq,rq⟩:=oq.2.2
 have u:=Zyv rp rq
 unfold YW at u
 have lp:=Zdv p
 have lq:=Zdv q
 have gp:=ZC op.2.1
 have gq:=ZC oq.2.1
 have cp:=Z23 p;have cq:=Z23 q;have ax:=op.1;have aq:=oq.1
 have fin:∀ {L:Lft} {s:LSt U},lbE p q=L->Y7 cfg Tryz.f66.ntmps Tryz.f66.results.toList (.tup [(true,enc .edit L.x),(true,enc .edit L.y)]) [[.bool (mc || L.c),.bool (ma || L.a)]] .ret s->
   Y7 cfg Tryz.f66.ntmps Tryz.f66.results.toList (ZlW ((mc,ma,()),p,q,())) (ZfI ((mc,ma,()),p,q,())) .ret s:=by
  intro L s h hs
  subst h
  exact hs
 have wh:∀ {e:Edit} {o n:Tree},Y4 e->Zo o<=10000000000->rng o->Zo n<=10000000000->Zcg ((mc,ma,()),e,o,n,()):=by
  intro e o n he ho hr hn
  have:=YI he
  have:=he.1
  exact ⟨⟨V4,he.2⟩,⟨V4,hr⟩,V4⟩
 refine ZLl N mc ma p q _ ?_
 intro y1 h1 y2 h2 y3 h3 y4 h4 y5 h5 y6 h6
 replace h1:=h1.symm;replace h2:=h2.symm;replace h3:=h3.symm;replace h4:=h4.symm;replace h5:=h5.symm;replace h6:=h6.symm
 subst h1 h2 h3 h4 h5 h6
 (simp only [iB,vcT,vcS])
 refine ⟨fun h0=> ?_,fun h0=> ?_⟩
 .exact fin (by rw [u,if_pos h0]) (by simp only [QC];(repeat' (first | exact trivial | exact rfl | apply And.intro)))
 rw [if_neg (by rintro (h | h);exact h0.1 h;exact h0.2 h)] at u
 refine ⟨fun p1=> ?_,fun p1=> ?_⟩
 .rw [if_pos p1] at u
  exact ⟨wh oq JX gp.1 JX,trivial,fin u V0⟩
 rw [if_neg p1] at u
 refine ⟨fun q1=> ?_,fun q1=> ?_⟩
 .rw [if_pos q1] at u
  exact ⟨wh op JX gq.1 JX,trivial,fin u V0⟩
 rw [if_neg q1] at u
 refine ⟨fun hd=> ?_,fun hd=> ?_⟩
 .rw [Jq] at u
  exact ⟨trivial,fin u (by simp only [QC,Xm];(repeat' (first | exact trivial | exact rfl | apply And.intro)))⟩
 rw [J3] at u
 refine ⟨fun p2=> ?_,fun p2=> ?_⟩
 .rw [if_pos p2] at u
  exact ⟨⟨op,oq,V4,V4⟩,by show 8*(Z8 p+Z8 q) < N;omega,fin u V0⟩
 .rw [if_neg p2] at u
  have kp:=(Zh rp).kind
  exact ⟨⟨op,oq,V4,V4⟩,by show 8*(Z8 p+Z8 q) < N;omega,fin u V0⟩
theorem ZmN(m h:List Tree):(Z0r m h).x.length<=2/\(Z0r m h).y.length<=2:=by
 unfold Z0r
 have:=Z7X m.length;have:=Z7X h.length;have:=Zbj m;have:=Zbj h
 grind
theorem Zo6(f:Edit->Edit->Lft)(p q:Op):(ZP f p q).x.length<=1/\(ZP f p q).y.length<=1:=by
 unfold ZP
 grind
structure LInv (f:Edit->Edit->Lft) (mc ma:Bool) (ps:List Piece) (i:Int) (c a:Bool) (m h:List Tree) (x y:List Op):Prop where
 i0:0<=i
 il:i<=ps.length
 ec:(mc || (Z2m f ps [] []).c)=(c || (Z2m f (ps.drop i.toNat) m h).c)
 ea:(ma || (Z2m f ps [] []).a)=(a || (Z2m f (ps.drop i.toNat) m h).a)
 ex:(Z2m f ps [] []).x=x++(Z2m f (ps.drop i.toNat) m h).x
 ey:(Z2m f ps [] []).y=y++(Z2m f (ps.drop i.toNat) m h).y
 lx:(x.length:Int)<=3*i
 ly:(y.length:Int)<=3*i
 km:((Zg m:Nat):Int)+Yv φC (Z1e (ps.drop i.toNat))<=Yv φC (Z1e ps)
 kh:((Zg h:Nat):Int)+Yv φC (Z1d (ps.drop i.toNat))<=Yv φC (Z1d ps)
theorem cnn(o:Op):((Zg o.l:Nat):Int)<=φC o:=by unfold φC;have:=Z9I o.e;omega
theorem Zjg:∀ l:List Op,0<=Yv φC l
 | []=> Xa _
 | o ::r=> by have:=Zjg r;have:=cnn o;simp only [Yv];omega
theorem LInv.step{f:Edit->Edit->Lft}{mc ma:Bool}{ps:List Piece}{i:Int}{c a:Bool}{m h:List Tree}{x y:List Op}(H:LInv f mc ma ps i c a m h x y)(hi:i < ps.length)(z:Piece)(X:Piece)(hX:X=ps.getD i.toNat z):
  (X.of=1->LInv f mc ma ps (i+1) c a (m++X.p.l) h x y)/\(¬X.of=1->X.of=2->LInv f mc ma ps (i+1) c a m (h++X.q.l) x y)/\
  (¬X.of=1->¬X.of=2->LInv f mc ma ps (i+1) ((c || (Z0r m h).c) || (ZP f X.p X.q).c) (a || (ZP f X.p X.q).a) [] [] ((x++(Z0r m h).x)++(ZP f X.p X.q).x) ((y++(Z0r m h).y)++(ZP f X.p X.q).y)):=by
 have s:=YE H.i0 hi z
 rw [<-hX] at s
 have h0:=H.i0
 obtain ⟨_,_,ec,ea,ex,ey,lx,ly,km,kh⟩:=H
 rw [s] at ec ea ex ey km kh
 simp only [Z2m] at ec ea ex ey
 simp only [Z1e,Z1d] at km kh
 have np:=cnn X.p;have nq:=cnn X.q
 refine ⟨fun e=> ?_,fun e1 e2=> ?_,fun e1 e2=> ?_⟩
 .rw [if_pos e] at ec ea ex ey
  rw [J3,XI,Yv] at km
  rw [if_pos e,Qt] at kh
  exact ⟨JX,JX,ec,ea,ex,ey,JX,JX,by rw [Jg];omega,kh⟩
 .rw [if_neg e1,if_pos e2] at ec ea ex ey
  rw [if_pos e2,Qt] at km
  rw [if_neg e1,XI,Yv] at kh
  exact ⟨JX,JX,ec,ea,ex,ey,JX,JX,km,by rw [Jg];omega⟩
 .rw [if_neg e1,if_neg e2] at ec ea ex ey
  rw [if_neg e2,XI,Yv] at km
  rw [if_neg e1,XI,Yv] at kh
  simp only [PL.app] at ec ea ex ey
  obtain ⟨g1,g2⟩:=ZmN m h
  obtain ⟨g3,g4⟩:=Zo6 f X.p X.q
  have u:(Z0r m h).a=false:=by unfold Z0r;split <;> rfl
  rw [u,K2] at ea
  refine ⟨JX,JX,?_,?_,?_,?_,?_,?_,?_,?_⟩
  .grind
  .grind
  .grind
  .grind
  .grind
  .grind
  .simp only [Zg];omega
  .simp only [Zg];omega
theorem Ztr{p q:List Op}(hp:ZlJ p)(hq:ZlJ q){x:Piece}(h:POk2 p q x):(x.of≠2->Zc2 x.p)/\(x.of≠1->Zc2 x.q):=by
 refine ⟨fun e=> ?_,fun e=> ?_⟩
 .obtain ⟨a,b⟩:=h.pp e
  exact ⟨b,QF (Z2e a).1 hp.1,ZaN a b hp.2.1,Z5P a hp.2.2⟩
 .obtain ⟨a,b⟩:=h.qq e
  exact ⟨b,QF (Z2e a).1 hq.1,ZaN a b hq.2.1,Z5P a hq.2.2⟩
theorem ZHH:ZF2:=by
 intro N mc ma p q _ hp hN
 obtain ⟨op,oq,au,am⟩:=hp
 dsimp only at op oq au am
 have a0:8*(Z8 p+Z8 q) < N+1:=hN
 have ah:=Zew op
 have af:=Zew oq
 have kp:=ZpM ah
 have kq:=ZpM af
 have lp:=Zdv p
 have lq:=Zdv q
 obtain ⟨i1,_⟩:=Zik _ p.ops q.ops [] (Qb _) kp.1 kq.1
 have fin:∀ {L:Lft} {s:LSt U},Z4V lbE p q=L->Y7 cfg Tryz.f106.ntmps Tryz.f106.results.toList (.tup [(true,enc .edit L.x),(true,enc .edit L.y)]) [[.bool (mc || L.c),.bool (ma || L.a)]] .ret s->
   Y7 cfg Tryz.f106.ntmps Tryz.f106.results.toList (ZfP ((mc,ma,()),p,q,())) (ZaB ((mc,ma,()),p,q,())) .ret s:=by
  intro L s h hs
  subst h
  exact hs
 refine ZJY N mc ma p q _ ?_
 (simp only [iB,vcT,vcS])
 refine ⟨⟨kp,kq⟩,fun hb=> ⟨trivial,fin (by rw [Z4V,if_neg (by rw [hb];decide)]) (by simp only [QC,Xm];(repeat' (first | exact trivial | exact rfl | apply And.intro)))⟩,fun hb=> ?_⟩
 obtain ⟨ps,e,aq,_,_⟩:=i1 hb
 obtain ⟨ay,e1,sp,sq,av⟩:=ZaO ZsS ZsS 2 _ p.ops q.ops [] (Qb _) kp.1 kq.1 hb
 rw [e,Qt,Qt] at e1
 subst e1
 rw [Qt] at e
 have hL:Z4V lbE p q=⟨Z1w p.list (Z2m lbE ps [] []).x,Z1w p.list (Z2m lbE ps [] []).y,(Z2m lbE ps [] []).c,(Z2m lbE ps [] []).a⟩:=by rw [Z4V,if_pos hb,e]
 have c1:=ZbY p.ops;have c2:=ZbY q.ops;have c3:=ah.1;have c4:=af.1
 refine Zc (ι:=Int × Bool × Bool × List Tree × List Tree × List Op × List Op) (fun s=> Z3m mc ma p q s.1 s.2.1 s.2.2.1 s.2.2.2.1 s.2.2.2.2.1 s.2.2.2.2.2.1 s.2.2.2.2.2.2)
  (fun s=> LInv lbE mc ma ps s.1 s.2.1 s.2.2.1 s.2.2.2.1 s.2.2.2.2.1 s.2.2.2.2.2.1 s.2.2.2.2.2.2) (fun s=> ((ps.length:Int) - s.1).toNat) (0,mc,ma,[],[],[],[]) rfl
  ⟨by simp,by simp,by simp,by simp,by simp,by simp,by simp,by simp,by simp [Zg],by simp [Zg]⟩ ?_
 rintro ⟨i,c,a,m,h,x,y⟩ H
 dsimp only at H
 refine Zvq N mc ma p q _ _ _ _ _ _ _ _ _ ?_
 intro y1 h1 y2 h2 y3 h3 y4 h4 u h5 y6 h6 y7 h7
 rw [e] at h5 ⊢
 replace h6:=h6.symm;replace h7:=h7.symm
 have i0:=H.i0;have il:=H.il;have lx:=H.lx;have ly:=H.ly;have km:=H.km;have kh:=H.kh
 have n1:=Zjg (Z1e (ps.drop i.toNat));have n2:=Zjg (Z1d (ps.drop i.toNat))
 obtain ⟨g1,g2⟩:=ZmN m h
 (simp only [iB,vcT,vcS])
 refine ⟨fun hi=> ?_,fun hi=> ?_⟩
 .obtain ⟨s1,s2,s3⟩:=H.step hi _ u h5
  have aj:u∈ps:=by rw [h5];exact Zk JX _
  have hx:=aq u aj
  obtain ⟨o1,o2⟩:=Ztr ah af hx
  have a2:(Zg u.p.l:Int)<=9000000000:=by
   rcases hx.of with h | h | h
   .have:=Z2p u.p;have:=(o1 JX).2.1;omega
   .have:=Z2p u.p;have:=(o1 JX).2.1;omega
   .rw [hx.pn h];simp [Op.nil,Zg]
  have az:(Zg u.q.l:Int)<=9000000000:=by
   rcases hx.of with h | h | h
   .have:=Z2p u.q;have:=(o2 JX).2.1;omega
   .rw [hx.qn h];simp [Op.nil,Zg]
   .have:=Z2p u.q;have:=(o2 JX).2.1;omega
  have q1:=Zy m;have q2:=Zy h;have q3:=Zy u.p.l;have q4:=Zy u.q.l
  refine ⟨⟨i0,hi⟩,fun f1=> ⟨JX,V1,(i+1,c,a,m++u.p.l,h,x,y),rfl,s1 f1,V4⟩,fun f1=> ⟨fun f2=> ⟨JX,V1,(i+1,c,a,m,h++u.q.l,x,y),rfl,s2 f1 f2,V4⟩,fun f2=> ?_⟩⟩
  have f0:u.of=0:=by rcases hx.of with h | h | h <;> omega
  obtain ⟨b1,b2,b3⟩:=hx.both f0
  have mp:=(Z2e (hx.pp f2).1).2
  have mq:=(Z2e (hx.qq f1).1).2
  rw [<-h6,<-h7]
  refine ⟨⟨⟨V4,V4⟩,V4,V4⟩,⟨⟨o1 f2,o2 f1,b3,b1,b2⟩,by simp only [List.length_append];omega,by simp only [List.length_append];omega⟩,by show 8*(Zu u.p+Zu u.q)+2 < N;omega,V1,
   (i+1,_,_,[],[],_,_),rfl,s3 f1 f2,V4⟩
 .have hd:ps.drop i.toNat=[]:=Qc JX
  have ec:=H.ec;have ea:=H.ea;have ex:=H.ex;have ey:=H.ey
  rw [hd] at ec ea ex ey
  simp only [Z2m] at ec ea ex ey
  have ga:(Z0r m h).a=false:=by unfold Z0r;split <;> rfl
  rw [ga,QC] at ea
  refine ⟨⟨⟨V4,V4⟩,V4,V4⟩,by show (x++_).length<=_;rw [List.length_append];omega,by show (y++_).length<=_;rw [List.length_append];omega,fin hL ?_⟩
  dsimp only
  rw [ec,ea,ex,ey]
  subst h1 h2 h3 h4
  exact V0
theorem ZHB:ZEU:=by
 intro N ae sx sy si sh p q mc ma _ hp hN
 simp only [Zcd] at hp
 obtain ⟨⟨⟨op,mp,gp,rp⟩,⟨oq,mq,gq,rq⟩,hl,p2,q2⟩,lx,ly⟩:=hp
 have ay:8*(Zu p+Zu q)+2 < N+1:=hN
 have ep:=Z2f p
 have eq:=Z2f q
 have ab:=Jr gp
 have ah:=Jr gq
 have ap:=Z2p p
 have aq:=Z2p q
 have kp:=ZH op
 have kq:=ZH oq
 have fin:∀ {L:PL} {s:LSt U},ZP lbE p q=L->Y7 cfg Tryz.f145.ntmps Tryz.f145.results.toList (.tup []) [[.xp 1,.slice (U:=U) .op (sx++L.x) (.own (.x 0 1)),.slice (U:=U) .op (sy++L.y) (.own (.x 0 2)),.slice (U:=U) .tree si (.own (.x 0 3)),.slice (U:=U) .tree sh (.own (.x 0 4))],[.bool (mc || L.c),.bool (ma || L.a)]] .normal s->
   Y7 cfg Tryz.f145.ntmps Tryz.f145.results.toList (ZfM ((ae,sx,sy,si,sh,()),p,q,(mc,ma,()),())) (Zay ((ae,sx,sy,si,sh,()),p,q,(mc,ma,()),())) .normal s:=by
  intro L s h hs
  subst h
  exact hs
 have hc:=ZP.eq_1 lbE p q
 refine ZJz N ae sx sy si sh p q mc ma _ ?_
 intro u h1 y2 h2 y3 h3 y4 h4 y5 h5 y6 h6 y7 h7 y8 h8 y9 h9 bl a3 bo a5
 replace h3:=h3.symm;replace h4:=h4.symm
 subst h1 h2 h3 h4 h7 h8 h9 a3 a5
 simp only [Z2j]
 (simp only [iB,vcT,vcS])
 refine ⟨fun c1=> ?_,fun c1=> ?_⟩
 .rw [if_pos c1] at hc
  exact ⟨by grind,⟨JX,by grind⟩,JX,fin hc (by simp only [QC,Ql];(repeat' (first | exact trivial | exact rfl | apply And.intro)))⟩
 rw [J3] at hc
 refine ⟨fun c2=> ?_,fun c2=> ?_⟩
 .rw [if_pos c2] at hc
  exact ⟨by grind,⟨JX,by grind⟩,JX,fin hc (by simp only [QC,Ql];(repeat' (first | exact trivial | exact rfl | apply And.intro)))⟩
 rw [J3] at hc
 refine ⟨fun c3=> ?_,fun c3=> ?_⟩
 .rw [if_pos c3] at hc
  exact ⟨by grind,by grind,fin hc (by simp only [QC];(repeat' (first | exact trivial | exact rfl | apply And.intro)))⟩
 rw [if_neg c3] at hc
 refine ⟨fun c4=> ?_,fun c4=> ?_⟩
 .rw [if_pos c4] at hc
  exact ⟨by grind,by grind,fin hc (by simp only [QC];(repeat' (first | exact trivial | exact rfl | apply And.intro)))⟩
 rw [if_neg c4] at hc
 refine ⟨fun c5=> ⟨⟨by grind,by grind⟩,fun he=> ?_,fun he=> ?_⟩,fun c5=> ?_⟩
 .rw [if_pos c5,Z2Y,he] at hc
  exact fin hc (by simp only [Xy,QC,Xm,Ql];(repeat' (first | exact trivial | exact rfl | apply And.intro)))
 .rw [if_pos c5,Z2Y,he] at hc
  exact fin hc (by simp only [Xw,QC,Ql];(repeat' (first | exact trivial | exact rfl | apply And.intro)))
 rw [J3] at hc
 refine ⟨fun c6=> ?_,fun c6=> ?_⟩
 .rw [if_pos c6] at hc
  have l1:=Yq op (.inl c6)
  have l2:=J0 (o:=y2) (by unfold kOk at kq;omega)
  have aa:0 < u.l.length:=JX
  have m3:y5∈u.l:=by rw [h5];exact Zk aa _
  have a1:=J2 m3
  have rk:Y4 y2.e:=⟨JX,ah.2.2.2,rq (by unfold kOk at kq;omega)⟩
  have:=YI rk
  rw [show u.l.getD 0 Tree.nil=y5 from h5.symm] at hc
  exact ⟨⟨JX,JX⟩,⟨⟨by grind,rk.2⟩,by grind,YC ab.2.2.1 m3⟩,fin hc (by simp only [Xm,Ql];(repeat' (first | exact trivial | exact rfl | apply And.intro)))⟩
 rw [if_neg c6] at hc
 have ai:u.kind=3:=by unfold kOk at kp;omega
 refine ⟨fun c7=> ?_,fun c7=> ?_⟩
 .rw [if_pos c7] at hc
  have l1:=Yq oq (.inl c7)
  have l2:=J0 (o:=u) ai
  have aa:0 < y2.l.length:=JX
  have m3:y6∈y2.l:=by rw [h6];exact Zk aa _
  have a1:=J2 m3
  have rk:Y4 u.e:=⟨JX,ab.2.2.2,rp ai⟩
  have:=YI rk
  rw [show y2.l.getD 0 Tree.nil=y6 from h6.symm] at hc
  exact ⟨⟨JX,JX⟩,⟨⟨by grind,rk.2⟩,by grind,YC ah.2.2.1 m3⟩,fin hc (by simp only [Xm,Ql];(repeat' (first | exact trivial | exact rfl | apply And.intro)))⟩
 rw [if_neg c7] at hc
 have k1:Y4 u.e:=⟨JX,ab.2.2.2,rp ai⟩
 have k2:Y4 y2.e:=⟨JX,ah.2.2.2,rq (by unfold kOk at kq;omega)⟩
 refine ⟨⟨k1,k2⟩,?_,trivial,by grind,trivial,by grind,fin hc V0⟩
 show 8*(Z8 u.e+Z8 y2.e)+1 < N
 rw [Y5,Y5] at ay
 omega
set_option maxHeartbeats 1000000 in
theorem ZHI:ZF3:=by
 intro N mc u p q _ hp hN
 obtain ⟨op,oq,aw,av⟩:=hp
 dsimp only at op oq aw av
 have bb:8*(Z8 p+Z8 q) < N+1:=hN
 have lp:=Zdv p
 have lq:=Zdv q
 have mp:=YI op
 have mq:=YI oq
 have wk:∀ {e:Edit},Y4 e->∀ w∈e.words,wOk w:=by
  intro e h w hw
  obtain ⟨d,hr⟩:=h.2.2
  have a:=YQ (Zh hr).words w hw
  exact ⟨(ZC h.2.1).2.2.1 w hw,a.2.2.2.1,a.2.2.2.2⟩
 have kk:∀ {e:Edit},Y4 e->∀ k∈e.kids,Y4 k.e/\Z8 k.e < Z8 e:=by
  intro e h k hk
  obtain ⟨d,hr⟩:=h.2.2
  have c:=Zhg hk
  have:=Z23 e
  have:=h.1
  exact ⟨⟨JX,(Y6 (ZC h.2.1).2.2.2.1 hk).2,_,(Zs (Zh hr).kids k hk).2⟩,Yd hk⟩
 have bg:=Yb p.kids;have be:=Yb q.kids
 have fin:∀ {L:Lft} {s:LSt U},Z6k lbE p q=L->Y7 cfg Tryz.f105.ntmps Tryz.f105.results.toList (.tup [(true,enc .edit L.x),(true,enc .edit L.y)]) [[.bool (mc || L.c),.bool (u || L.a)]] .ret s->
   Y7 cfg Tryz.f105.ntmps Tryz.f105.results.toList (ZfQ ((mc,u,()),p,q,())) (ZaC ((mc,u,()),p,q,())) .ret s:=by
  intro L s h hs
  subst h
  exact hs
 refine ZJZ N mc u p q _ ?_
 refine ⟨by show p.words.length<=_;omega,by show q.words.length<=_;omega,?_⟩
 let WI:=SInv WEdit.at_ Z1D Z1D (fun a b=> !J4 a b && Z12 a b) J4 mc u p.words q.words
 refine Zc (ι:=Int × Bool × Bool × List WEdit × List WEdit) (fun s=> Z8o mc u p q s.1 s.2.1 s.2.2.1 s.2.2.2.1 s.2.2.2.2)
  (fun s=> (0<=s.1/\s.1<=p.words.length)/\WI s.1.toNat 0 s.2.1 s.2.2.1 s.2.2.2.1 s.2.2.2.2) (fun s=> ((p.words.length:Int) - s.1).toNat) (0,mc,u,p.words,q.words) rfl ⟨⟨JX,JX⟩,SInv.init⟩ ?_
 rintro ⟨i,c,a,X,Y⟩ ⟨⟨i0,il⟩,H⟩
 dsimp only at i0 il H
 refine Zvu N mc u p q _ _ _ _ _ _ _ ?_
 dsimp only
 refine ⟨fun hi=> ?_,fun hi=> ?_⟩
 .replace hi:=of_decide_eq_true hi
  refine ⟨⟨i0,hi⟩,?_⟩
  refine Zc (ι:=Int × Bool × Bool × List WEdit × List WEdit) (fun s=> Z8n mc u p q i s.1 s.2.1 s.2.2.1 s.2.2.2.1 s.2.2.2.2)
   (fun s=> (0<=s.1/\s.1<=q.words.length)/\WI i.toNat s.1.toNat s.2.1 s.2.2.1 s.2.2.2.1 s.2.2.2.2) (fun s=> ((q.words.length:Int) - s.1).toNat) (0,c,a,X,Y) rfl ⟨⟨JX,JX⟩,H⟩ ?_
  clear H
  clear c a X Y
  rintro ⟨j,c,a,X,Y⟩ ⟨⟨j0,jl⟩,H⟩
  dsimp only at j0 jl H
  have lx:=H.lx
  have ly:=H.ly
  refine Zvt N mc u p q _ _ _ _ _ _ _ _ _ ?_
  intro y1 h1 y2 h2 y3 h3 y4 h4 y5 h5 y6 h6
  replace h3:=h3.symm;replace h4:=h4.symm
  subst h3 h4
  (simp only [iB,vcT,vcS])
  try dsimp only at*
  refine ⟨fun hj=> ⟨⟨j0,hj⟩,fun he=> ?_,fun he=> ?_⟩,fun hj=> ?_⟩
  .have st:=(H.step JX JX ⟨0,0,0,0⟩).1 (by grind)
   rw [<-h1,<-h2] at st
   have m1:y1∈p.words:=by rw [h1];exact Zk JX _
   have m2:y2∈q.words:=by rw [h2];exact Zk JX _
   subst h5 h6
   refine ⟨⟨wk op _ m1,wk oq _ m2⟩,⟨wk op _ m1,Zqt _⟩,⟨i0,JX⟩,QG _,⟨wk oq _ m2,Zqt _⟩,⟨j0,JX⟩,QG _,?_⟩
   refine Zlr N mc u p q _ _ _ _ _ _ _ _ _ _ ⟨V1,(j+1,_,_,_,_),rfl,⟨⟨V4,V4⟩,?_⟩,V4⟩
   rw [show (j+1).toNat=j.toNat+1 by omega]
   exact st
  .have st:=(H.step JX JX ⟨0,0,0,0⟩).2 (by grind)
   refine Zlr N mc u p q _ _ _ _ _ _ _ _ _ _ ⟨V1,(j+1,_,_,_,_),rfl,⟨⟨V4,V4⟩,?_⟩,V4⟩
   rw [show (j+1).toNat=j.toNat+1 by omega]
   exact st
  .refine ⟨V1,(i+1,_,_,_,_),rfl,⟨⟨V4,V4⟩,?_⟩,V4⟩
   rw [show (i+1).toNat=i.toNat+1 by omega]
   rw [show j.toNat=q.words.length by omega] at H
   exact H.next JX
 replace hi:=of_decide_eq_false hi
 rw [show i.toNat=p.words.length by omega] at H
 obtain ⟨ec,ea,eX,eY⟩:=H.fin
 refine ⟨by show p.kids.length<=_;omega,by show q.kids.length<=_;omega,?_⟩
 let KI:=SInv KidOf.at_ (fun a b:Kid=> ⟨a.at_,(lbE a.e b.e).x⟩) (fun b a:Kid=> ⟨b.at_,(lbE a.e b.e).y⟩) (fun a b=> (lbE a.e b.e).c) (fun a b=> (lbE a.e b.e).a) c a p.kids q.kids
 refine Zc (ι:=Int × Bool × Bool × List Kid × List Kid) (fun s=> Z8m mc u p q X Y s.1 s.2.1 s.2.2.1 s.2.2.2.1 s.2.2.2.2)
  (fun s=> (0<=s.1/\s.1<=p.kids.length)/\KI s.1.toNat 0 s.2.1 s.2.2.1 s.2.2.2.1 s.2.2.2.2) (fun s=> ((p.kids.length:Int) - s.1).toNat) (0,c,a,p.kids,q.kids) rfl ⟨⟨JX,JX⟩,SInv.init⟩ ?_
 clear H hi il i0
 rintro ⟨i,c1,a1,X1,Y1⟩ ⟨⟨i0,il⟩,H⟩
 dsimp only at i0 il H
 refine Zvs N mc u p q _ _ _ _ _ _ _ _ _ ?_
 intro z1 af z2 ae
 dsimp only at af ae ⊢
 refine ⟨fun hi=> ?_,fun hi=> ?_⟩
 .replace hi:=of_decide_eq_true hi
  refine ⟨⟨i0,hi⟩,?_⟩
  refine Zc (ι:=Int × Bool × Bool × List Kid × List Kid) (fun s=> Z8l mc u p q X Y i s.1 s.2.1 s.2.2.1 s.2.2.2.1 s.2.2.2.2)
   (fun s=> (0<=s.1/\s.1<=q.kids.length)/\KI i.toNat s.1.toNat s.2.1 s.2.2.1 s.2.2.2.1 s.2.2.2.2) (fun s=> ((q.kids.length:Int) - s.1).toNat) (0,c1,a1,X1,Y1) rfl ⟨⟨JX,JX⟩,H⟩ ?_
  clear H af ae
  clear c1 a1 X1 Y1
  rintro ⟨j,c1,a1,X1,Y1⟩ ⟨⟨j0,jl⟩,H⟩
  dsimp only at j0 jl H
  have lx:=H.lx
  have ly:=H.ly
  refine Zvr N mc u p q _ _ _ _ _ _ _ _ _ _ _ ?_
  intro y1 h1 y2 h2 y3 h3 y4 h4 y5 h5 y6 h6
  (simp only [iB,vcT,vcS])
  try dsimp only at*
  refine ⟨fun hj=> ⟨⟨j0,hj⟩,fun he=> ?_,fun he=> ?_⟩,fun hj=> ?_⟩
  .have st:=(H.step JX JX ⟨0,Edit.nil⟩).1 (by grind)
   have e1:=H.at_x (fun a b=> rfl) JX ⟨0,Edit.nil⟩
   have e2:=H.at_y (fun a b=> rfl) JX ⟨0,Edit.nil⟩
   rw [<-h1] at e1
   rw [<-h2] at e2
   rw [<-h1,<-h2] at st
   have m1:=kk op y1 (by grind)
   have m2:=kk oq y2 (by grind)
   subst h3 h4 h5 h6
   refine ⟨⟨m1.1,m2.1⟩,by show 8*(Z8 y1.e+Z8 y2.e)+1 < N;omega,⟨i0,JX⟩,QG _,⟨j0,JX⟩,QG _,?_⟩
   refine Zlq N mc u p q _ _ _ _ _ _ _ _ _ _ _ ⟨V1,(j+1,_,_,_,_),rfl,⟨⟨V4,V4⟩,?_⟩,V4⟩
   rw [show (j+1).toNat=j.toNat+1 by omega]
   grind
  .have st:=(H.step JX JX ⟨0,Edit.nil⟩).2 (by grind)
   refine Zlq N mc u p q _ _ _ _ _ _ _ _ _ _ _ ⟨V1,(j+1,_,_,_,_),rfl,⟨⟨V4,V4⟩,?_⟩,V4⟩
   rw [show (j+1).toNat=j.toNat+1 by omega]
   exact st
  .refine ⟨V1,(i+1,_,_,_,_),rfl,⟨⟨V4,V4⟩,?_⟩,V4⟩
   rw [show (i+1).toNat=i.toNat+1 by omega]
   rw [show j.toNat=q.kids.length by omega] at H
   exact H.next JX
 replace hi:=of_decide_eq_false hi
 rw [show i.toNat=p.kids.length by omega] at H
 have lx:=H.lx;have ly:=H.ly
 obtain ⟨a4,a0,a2,ax⟩:=H.fin
 have lX:X.length=p.words.length:=by rw [eX,X3]
 have lY:Y.length=q.words.length:=by rw [eY,X3]
 refine ⟨⟨by grind,by grind⟩,⟨by grind,by grind⟩,fin rfl ?_⟩
 have e1:(Z6k lbE p q).x=Z4H z1:=by rw [af,eX,a2];try rfl
 have e2:(Z6k lbE p q).y=Z4H z2:=by rw [ae,eY,ax];try rfl
 have e3:(mc || (Z6k lbE p q).c)=c1:=by rw [a4,ec,K0];try rfl
 have e4:(u || (Z6k lbE p q).a)=a1:=by rw [a0,ea,K0];try rfl
 rw [e1,e2,e3,e4]
 exact V0
theorem ZLL:Contract Tryz.prog cfg 66 Zc0/\Contract Tryz.prog cfg 105 ZpE/\Contract Tryz.prog cfg 106 ZpD/\Contract Tryz.prog cfg 145 Zpx:=
 ZAJ Z9K ZHs ZHr ZkX ZHh ZHg ZHf ZHe ZHd (ZHc ZhI) ZHb ZHa ZGV ZGU b66 ZHI ZHH ZHB
theorem c66:Contract Tryz.prog cfg 66 Zc0:=ZLL.1
noncomputable section
def ZwP(a:Edit × Edit × Unit):Prop:=Zto a.1 a.2.1
def Zq4(a:Edit × Edit × Unit):V U:= .tup [(true,(enc .edit ((lbN a.1 a.2.1).1))),(true,(enc .edit ((lbN a.1 a.2.1).2.1))),(false,[ci ((lbN a.1 a.2.1).2.2)])]
def Zfr:Fs U:=fs Z37 (fun a=> [ZwP a]) Zq4
def ZyR:List (FuncId × Fs U):=[(67,Z0h),(66,Zc0)]
def ZGm:Za U:=lvl [([2,3,4,5],[2,3,4,5]),([2,3,4,5,7],[2,3,4,5,11]),([4,5,7,8,9],[4,5,8,9,11]),([4,5,7,8,9,21],[4,5,8,9,11]),([4,5,6],[4,5]),([4,5,8,9,28],[4,5,8,9]),([4,5,6],[4,5]),([4,5,6],[4,5])]
abbrev A16(p:List Nat):=AW (Z2 ZyR) Tryz.f16 ZGm p
theorem ZLD(p q:Edit)(Q:QT)(h:∀ ae,ae=p->∀ ab,ab=q->∀ s,s=(Zj ae)->∀ u,u=(Zj ab)->∀ af,af=((lbE s u).x)->∀ aa,aa=((lbE s u).y)->((Z1g (ae,()))/\(Z1g (ab,()))/\(ZfY ((false,false,()),s,u,()))/\(iB (false || (lbE s u).a) ((Q .ret (L2 [pL 4,pL 5,pI 6 14] [(.loc 4,zc1),(.loc 5,zc1)]))) ((iB (false || (lbE s u).c) ((Q .ret (L2 [pL 4,pL 5,pI 6 13] [(.loc 4,zc1),(.loc 5,zc1)]))) ((Z1g (af,()))/\(Z1g (aa,()))/\(Q .ret (L2 [pL 4,pL 5,pI 6 0] [(.loc 4,(enc .edit (Zj af))),(.loc 5,(enc .edit (Zj aa)))])))))))):
  A16 [] (L2 [(0,.agg (enc .edit p)),(1,.agg (enc .edit q))] []) Q:=
 Eq.mpr V3 (h _ (Z7 _) _ (Z7 _) _ (Z7 _) _ (Z7 _) _ (Z7 _) _ (Z7 _))
def ZIl(p q:Edit):Prop:=AW (Z2 ZyR) Tryz.f16 ZGm [] (Zf (Z37.can (p,q,())) []) (EQ Tryz.f16 (Zq4 (p,q,())) [])
theorem ZG0(c67:CT 67 Z0h)(c66:CT 66 Zc0)(hb:∀ (p:Edit) (q:Edit) (_:Unit),ZwP (p,q,())->ZIl p q):CT 16 Zfr:=
 Z1 (l:=[(67,Z0h),(66,Zc0)]) Ze rfl (⟨c67,c66,trivial⟩) ZGm Tryz.func16 rfl rfl 2 (fun _=> rfl) V2 (fun ⟨p,q,_⟩=> hb p q ())
end
theorem Zzc{p q:Edit}(hp:Y4 p)(hq:Y4 q)(h:(Z24 p q).2=true):(Yt p q).2=true/\(Z24 p q).1=Zj (Yt p q).1:=by
 unfold Z24 at h ⊢
 grind
theorem ZaI{e:Edit}(h:Y4 e):Z1g (e,()):=by
 have:=YI h
 exact ⟨by grind,h.2.2⟩
set_option maxHeartbeats 1000000 in
theorem c16:Contract Tryz.prog cfg 16 Zfr:=by
 refine ZG0 Zhl.1 c66 ?_
 intro p q _ hp
 have hp:Zto p q:=hp
 obtain ⟨⟨h1,h2⟩,h3⟩:=Zqa hp
 have fin:∀ {X Y:Edit} {n:Int} {s:LSt U},lbN p q=(X,Y,n)->Y7 cfg Tryz.f16.ntmps Tryz.f16.results.toList (.tup [(true,enc .edit X),(true,enc .edit Y),(false,[.int .i64 n])]) [] .ret s->Y7 cfg Tryz.f16.ntmps Tryz.f16.results.toList (Zq4 (p,q,())) [] .ret s:=by
  intro X Y n s h hs
  refine Z0d ?_ hs
  simp only [Zq4]
  rw [h]
  try rfl
 have eN:=lbN.eq_1 p q
 refine ZLD _ _ _ ?_
 intro y1 e1 y2 e2 y3 e3 y4 e4 y5 e5 y6 e6
 subst e1 e2
 rw [<-e3] at h1
 rw [<-e4] at h2
 rw [<-e3,<-e4] at h3 eN
 generalize hL:lbE y3 y4=L at h3 eN e5 e6 ⊢
 simp only [K2]
 refine ⟨ZaI hp.1,ZaI hp.2.1,⟨h1,h2⟩,fun u=> fin (by rw [eN,if_pos u]) V0,fun u=> ⟨fun hc=> fin (by rw [eN,if_neg (by rw [u];decide),if_pos hc]) V0,fun hc=> ⟨by rw [e5];exact ZaI (h3 u hc).1,by rw [e6];exact ZaI (h3 u hc).2,?_⟩⟩⟩
 exact fin (by rw [eN,if_neg (by rw [u];decide),if_neg (by rw [hc];decide),<-e5,<-e6]) V0
noncomputable section
structure Hist where
 now:Tree
 done:List Edit
 gone:List Edit
def YL(e:Edit)(t:Tree):Tree × Int:=
 match doE false e t with
 | none=> (t,13)
 | some u=> if Zd (Z0 u) 64=true then (Z0 u,0) else (t,3)
def Z6q(e:Edit)(t:Tree):Prop:=(Z8 e<=20000000000/\ZZ e/\∃ d,Z3 e d=true)/\Zo t+ctE e<=20000000000/\rng t
def doN(e:Edit)(h:Hist):Hist × Int:=
 if Z3 e 64=true then
  if (YL (Zj e) h.now).2=0 then (⟨(YL (Zj e) h.now).1,h.done++[Zj e],[]⟩,0) else (h,(YL (Zj e) h.now).2)
 else (h,2)
def Z01(l:List Edit):Edit:=l.getD (l.length - 1) Edit.nil
def Z1b(h:Hist):Hist × Bool:=
 if h.done.length=0 then (h,false)
 else if (YL (Zj (Zn (Z01 h.done))) h.now).2=0 then (⟨(YL (Zj (Zn (Z01 h.done))) h.now).1,h.done.take (h.done.length - 1),h.gone++[Z01 h.done]⟩,true)
 else (h,false)
def Z0Q(h:Hist):Hist × Bool:=
 if h.gone.length=0 then (h,false)
 else if (YL (Z01 h.gone) h.now).2=0 then (⟨(YL (Z01 h.gone) h.now).1,h.done++[Z01 h.gone],h.gone.take (h.gone.length - 1)⟩,true)
 else (h,false)
end
structure St42 (s:Tree):Prop where
 r:Zd s 64=true
 g:rng s
 n:Z0 s=s
 m:Zo s<=10000000000
theorem St42.rt{s:Tree}(h:St42 s):RT_ s:=⟨⟨64,h.r⟩,h.g⟩
inductive Path:Tree->List Edit->Tree->Prop
 | nil {s}:St42 s->Path s [] s
 | cons {s e u fs w}:St42 s->Y4 e->doE false e s=some u->Path (Z0 u) fs w->Path s (e ::fs) w
theorem Path.st{s w:Tree}{es:List Edit}(h:Path s es w):St42 s/\St42 w:=by
 induction h with
 | nil h=> exact ⟨h,h⟩
 | cons h _ _ _ ih=> exact ⟨h,ih.2⟩
theorem ZwU{es fs:List Edit}{s w:Tree}:Path s (es++fs) w↔∃ m,Path s es m/\Path m fs w:=by
 constructor
 .induction es generalizing s with
  | nil=> intro h;exact ⟨s,.nil h.st.1,h⟩
  | cons e es ih=>
   intro h
   cases h with
   | cons a b c d=>
    obtain ⟨m,h1,u⟩:=ih d
    exact ⟨m,.cons a b c h1,u⟩
 .rintro ⟨m,h1,u⟩
  induction h1 with
  | nil _=> exact u
  | cons a b c _ ih=> exact .cons a b c (ih u)
theorem ZwT{e:Edit}{s w:Tree}(h:Path s [e] w):∃ u,Y4 e/\doE false e s=some u/\w=Z0 u:=by
 cases h with
 | cons a b c d=> cases d with
  | nil _=> exact ⟨_,b,c,rfl⟩
theorem Zjj{e:Edit}{s:Tree}(he:Y4 e)(hs:St42 s):Z6q e s:=by
 have:=YI he
 have:=he.1
 have:=hs.m
 exact ⟨⟨JX,he.2⟩,JX,hs.g⟩
theorem Zje{e:Edit}(he:Y4 e):Y4 (Zj (Zn e)):=(Z9P he).2
theorem Z9W{e:Edit}{s u:Tree}(h:doE false e s=some u)(hr:Zd (Z0 u) 64=true):YL e s=(Z0 u,0):=by
 unfold YL
 rw [h]
 exact if_pos hr
theorem ZFk{e:Edit}{s:Tree}(h:(YL e s).2=0):∃ u,doE false e s=some u/\Zd (Z0 u) 64=true/\(YL e s).1=Z0 u:=by
 unfold YL at h ⊢
 split at h
 .cases h
 .rename_i u hu
  split at h
  .rename_i hr
   refine ⟨u,hu,hr,?_⟩
   rw [if_pos hr]
  .cases h
theorem Ze3{e:Edit}{s:Tree}(h:(YL e s).2≠0):(YL e s).1=s:=by
 unfold YL at h ⊢
 split
 .try rfl
 .rename_i u hu
  rw [hu] at h
  dsimp only at h
  split
  .rename_i hr
   rw [if_pos hr] at h
   exact absurd rfl h
  .try rfl
theorem ZvI{e:Edit}{s u:Tree}(he:Y4 e)(hs:St42 s)(hw:St42 (Z0 u))(h:doE false e s=some u):YL (Zj (Zn e)) (Z0 u)=(s,0):=by
 obtain ⟨_,g,d,r⟩:=he
 obtain ⟨z,h1,h2⟩:=Z9Q r g hs.rt hw.rt h (show Eqv u (Z0 u) from (ZI u).symm)
 have h2:Z0 z=Z0 s:=h2
 rw [hs.n] at h2
 rw [Z9W h1 (by rw [h2];exact hs.r),h2]
theorem Zt3{t m:Tree}{es gs:List Edit}{e:Edit}(h:Path t (es++[e]) m):∃ s,Path t es s/\Path s [e] m/\Z1b ⟨m,es++[e],gs⟩=(⟨s,es,gs++[e]⟩,true):=by
 obtain ⟨s,h1,h2⟩:=ZwU.1 h
 obtain ⟨u,he,hu,rfl⟩:=ZwT h2
 refine ⟨s,h1,h2,?_⟩
 have hl:Z01 (es++[e])=e:=by simp [Z01]
 have hb:=ZvI he h1.st.2 h.st.2 hu
 unfold Z1b
 rw [if_neg (by simp)]
 dsimp only
 rw [hl,hb,if_pos rfl]
 simp
theorem Ztk{s w:Tree}{es fs gs:List Edit}{e:Edit}(h:Path s (e ::fs) w):∃ m,Path s [e] m/\Path m fs w/\Z0Q ⟨s,es,gs++[e]⟩=(⟨m,es++[e],gs⟩,true):=by
 cases h with
 | cons a b c d=>
  rename_i u
  refine ⟨Z0 u,.cons a b c (.nil d.st.1),d,?_⟩
  have hl:Z01 (gs++[e])=e:=by simp [Z01]
  have hf:=Z9W c d.st.1.r
  unfold Z0Q
  rw [if_neg (by simp)]
  dsimp only
  rw [hl,hf,if_pos rfl]
  simp
theorem Zgu{a b c:Option Tree}(h1:OptR Eqv a b)(h2:OptR Eqv b c):OptR Eqv a c:=by
 cases a <;> cases b <;> cases c <;> first | exact trivial | exact absurd h1 id | exact absurd h2 id | exact Eq.trans h1 h2
theorem Zas:∀ {l:List Edit} {a b:Tree},(∀ e∈l,∃ d,Z3 e d=true)->Eqv a b->OptR Eqv (Z95 l a) (Z95 l b)
 | [],a,b,_,h=> h
 | e ::r,a,b,hr,h=> by
  obtain ⟨d,u⟩:=hr e Q7
  rw [Z95,Z95]
  exact (Z30 e d a b u h).bind fun x y s=> Zas (fun x hx=> hr x (Q0 _ hx)) s
theorem ZCh{p q:Edit}{d d':Int}(hp:Z3 p d=true)(hq:Z3 q d'=true)(gp:ZZ p)(gq:ZZ q)(hc:(Yt p q).2=true){t:Tree}(ht:RT_ t):OptR Eqv (doE false (Yt p q).1 t) ((doE false p t).bind (doE false q)):=by
 have C:=Zz9 hp hq gp gq
 cases h1:doE false (Yt p q).1 t with
 | none=>
  cases s:doE false p t with
  | none=> exact trivial
  | some u=>
   rw [Qn]
   cases h:doE false q u with
   | none=> exact trivial
   | some v=>
    obtain ⟨_,w,hw,_⟩:=C.bwd ht s h
    rw [h1] at hw;cases hw
 | some w=>
  obtain ⟨u,v,s,h,h4⟩:=C.fwd ht hc h1
  rw [s,Qn,h]
  exact h4
theorem Zzb{p q:Edit}(hp:Y4 p)(hq:Y4 q)(h:(Z24 p q).2=true)(hs:ctE p+ctE q<=9000000000):Y4 (Z24 p q).1/\ctE (Z24 p q).1+18<=ctE p+ctE q:=by
 have F:=Z8v hp hq
 obtain ⟨c1,s⟩:=Zzc hp hq h
 have w:=F.wk c1
 have c:=F.ct trivial c1
 have n:=Z4y (Yt p q).1
 rw [s]
 exact ⟨⟨JX,Z0A _ _ w.r w.g,_,Jm _ _ w.r⟩,JX⟩
theorem ZmI:∀ (l:List Edit) (x:Edit) (t0:Tree),Y4 x->(∀ e∈l,Y4 e)->ctE x+ctL l<=8000000018->RT_ t0->((doE false x t0).bind (Z95 l)).isSome=true->
  (Z6e l x).2=true/\Y4 (Z6e l x).1/\ctE (Z6e l x).1<=ctE x+ctL l/\∀ t,RT_ t->OptR Eqv (doE false (Z6e l x).1 t) ((doE false x t).bind (Z95 l))
 | [],x,t0,hx,_,hc,s,h=> by
  refine ⟨rfl,hx,Km _ _,fun t _=> ?_⟩
  have:(doE false x t).bind (Z95 [])=doE false x t:=by cases doE false x t <;> rfl
  rw [this]
  exact Ztz _
 | e ::r,x,t0,hx,he,hc,s,h=> by
  have h1:=he e Q7
  have hr:∀ y∈r,Y4 y:=fun y hy=> he y (Q0 _ hy)
  have aj:∀ y∈r,∃ d,Z3 y d=true:=fun y hy=> (hr y hy).2.2
  obtain ⟨dx,rx⟩:=hx.2.2
  obtain ⟨de,re⟩:=h1.2.2
  rw [ctL] at hc
  have ae:(Yt x e).2=true:=by
   cases a:doE false x t0 with
   | none=> rw [a] at h;cases h
   | some u=>
    rw [a,Qn,Z95] at h
    cases b:doE false e u with
    | none=> rw [b] at h;cases h
    | some v=> exact ((Zz9 rx re hx.2.1 h1.2.1).bwd s a b).1
  have ab:Z24 x e=(Zj (Yt x e).1,true):=by rw [Z24,if_pos ae]
  have W:=Z8v hx h1
  have w:=W.wk ae
  have hy:=Zzb hx h1 (by rw [ab]) JX
  rw [ab] at hy
  have ah:∀ t,RT_ t->OptR Eqv ((doE false (Zj (Yt x e).1) t).bind (Z95 r)) ((doE false x t).bind (Z95 (e ::r))):=by
   intro t s
   have k1:=Zgu (Z3E (Yt x e).1 _ t w.r s) (ZCh rx re hx.2.1 h1.2.1 ae s)
   have k2:=k1.bind (f:=Z95 r) (g:=Z95 r) fun a b ai=> Zas aj ai
   refine ZAC k2 ?_
   cases doE false x t <;> rfl
  obtain ⟨i1,i2,i3,i4⟩:=ZmI r _ t0 hy.1 hr (by dsimp only;have:=hy.2;dsimp only at this;omega) s (by rw [(ah t0 s).isSome];exact h)
  rw [Z6e,ab,if_pos rfl]
  refine ⟨i1,i2,?_,fun t s=> Zgu (i4 t s) (ah t s)⟩
  have:=hy.2
  dsimp only at this i3 ⊢
  rw [ctL];omega
noncomputable section
def ZdT:List Edit->Edit->List Edit->(List Edit × Edit) × Int
 | [],f,out=> ((out,f),0)
 | e ::r,f,out=> if (lbN e f).2.2=0 then ZdT r (lbN e f).2.1 (out++[(lbN e f).1]) else ((out,f),(lbN e f).2.2)
def Zmj:List Edit->Edit->Prop
 | [],_=> True
 | e ::r,f=> Zto e f/\((lbN e f).2.2=0->Zmj r (lbN e f).2.1)
def ZiX(k:Int)(h:Hist):Edit:=Zj (Zn (h.done.getD k.toNat Edit.nil))
def Z73(k:Int)(h:Hist):(List Edit × Edit) × Int:=ZdT (h.done.drop (k+1).toNat) (ZiX k h) (h.done.take k.toNat)
def ZiO(k:Int)(h:Hist):Bool:=decide (0<=k) && decide (k < h.done.length)
def Z6g(k:Int)(h:Hist):Hist × Int:=
 if ZiO k h=true then
  if (Z73 k h).2=0 then
   if (YL (Z73 k h).1.2 h.now).2=0 then (⟨(YL (Z73 k h).1.2 h.now).1,(Z73 k h).1.1,[]⟩,0) else (h,(YL (Z73 k h).1.2 h.now).2)
  else (h,(Z73 k h).2)
 else (h,2)
def ZoM(k:Int)(h:Hist):Prop:=
 (ZiO k h=true->(Z8 (h.done.getD k.toNat Edit.nil)<=20000000000/\∃ d,Z3 (h.done.getD k.toNat Edit.nil) d=true)/\Zmj (h.done.drop (k+1).toNat) (ZiX k h)/\((Z73 k h).2=0->Z6q (Z73 k h).1.2 h.now))/\h.done.length<=1000000000
end
structure EdL (e:Edit):Prop where
 w:Wk e
 a:owE Wga e<=6000
 b:owE Wgb e<=196800000
 c:ctE e<=210000000
theorem EdL.re{e:Edit}(h:EdL e):Y4 e:=⟨by have:=h.c;omega,h.w.g,-1,h.w.r⟩
structure TrL (i:Nat) (s:Tree):Prop where
 r:RT_ s
 n:Z0 s=s
 l:Z3X s<=3000+6000*i
 m:Zo s<=3000+210000000*i
theorem TrL.mono{i j:Nat}{s:Tree}(h:TrL i s)(hj:i<=j):TrL j s:=⟨h.r,h.n,by have:=h.l;omega,by have:=h.m;omega⟩
theorem Z9V{i:Nat}{e:Edit}{s:Tree}(he:Y4 e)(hs:TrL i s)(hi:i<=21):Z6q e s:=by
 have:=YI he
 have:=he.1
 have:=hs.m
 exact ⟨⟨JX,he.2⟩,JX,hs.r.2⟩
theorem ZpK{u:Tree}(h:RT_ u):RT_ (Z0 u):=by
 obtain ⟨⟨d,r⟩,g⟩:=h
 exact ⟨⟨d,Z2k _ _ r⟩,Z0i _ g⟩
theorem EdL.sem{e:Edit}{s u:Tree}(h:EdL e)(hd:doE false e s=some u):Sem e s u:=Zc4 _ e _ s u (Qb _) h.w.r hd
theorem TrL.next{i:Nat}{e:Edit}{s u:Tree}(h:TrL i s)(he:EdL e)(hd:doE false e s=some u):TrL (i+1) (Z0 u):=by
 have S:=(he.sem hd).g
 have:=he.a
 have:=he.c
 have:=h.l
 have:=h.m
 have:=ZgX u
 have:=Ym u
 have:=Z5S false e _ s u he.w.r hd
 exact ⟨ZpK (Zhb he.w.r h.r he.w.g hd),ZI u,JX,JX⟩
inductive PathL (i:Nat):Tree->List Edit->Tree->Prop
 | nil {s}:TrL i s->PathL i s [] s
 | cons {s e u fs w}:TrL i s->EdL e->doE false e s=some u->PathL i (Z0 u) fs w->PathL i s (e ::fs) w
theorem PathL.st{i:Nat}{s w:Tree}{es:List Edit}(h:PathL i s es w):TrL i s/\TrL i w:=by
 induction h with
 | nil h=> exact ⟨h,h⟩
 | cons h _ _ _ ih=> exact ⟨h,ih.2⟩
theorem PathL.ok{i:Nat}{s w:Tree}{es:List Edit}(h:PathL i s es w):∀ e∈es,EdL e:=by
 induction h with
 | nil h=> intro e u;cases u
 | cons h r _ _ ih=>
  intro e u
  rcases Qa.1 u with rfl | u
  .exact r
  .exact ih e u
theorem PathL.mono{i j:Nat}{s w:Tree}{es:List Edit}(h:PathL i s es w)(hj:i<=j):PathL j s es w:=by
 induction h with
 | nil h=> exact .nil (h.mono hj)
 | cons h r d _ ih=> exact .cons (h.mono hj) r d ih
theorem Z7E{i:Nat}{es fs:List Edit}{s w:Tree}:PathL i s (es++fs) w↔∃ m,PathL i s es m/\PathL i m fs w:=by
 constructor
 .induction es generalizing s with
  | nil=> intro h;exact ⟨s,.nil h.st.1,h⟩
  | cons e es ih=>
   intro h
   cases h with
   | cons a b c d=>
    obtain ⟨m,h1,u⟩:=ih d
    exact ⟨m,.cons a b c h1,u⟩
 .rintro ⟨m,h1,u⟩
  induction h1 with
  | nil _=> exact u
  | cons a b c _ ih=> exact .cons a b c (ih u)
theorem Z4O{a b:Option Tree}{u:Tree}(h:OptR Eqv a b)(hb:b=some u):∃ v,a=some v/\Eqv v u:=by
 subst hb
 cases a with
 | none=> exact h.elim
 | some v=> exact ⟨v,rfl,h⟩
theorem ZKg{i:Nat}{e f:Edit}{s u v:Tree}(he:EdL e)(hf:EdL f)(hs:TrL i s)(hi:i<=20)(hu:doE false e s=some u)(hv:doE false f s=some v):
  Zto e f/\((lbN e f).2.2=0->EdL (lbN e f).1/\EdL (lbN e f).2.1):=by
 have nw:∀ {e:Edit},Wk e->Wk (Zj e):=fun h=> .of (Jm _ _ h.r) (Z0A _ _ h.r h.g)
 obtain ⟨u',ae,_⟩:=Z4O (Z3E e _ s he.w.r hs.r) hu
 obtain ⟨v',ab,_⟩:=Z4O (Z3E f _ s hf.w.r hs.r) hv
 have we:=nw he.w
 have wf:=nw hf.w
 have Se:=Zc4 _ (Zj e) _ s u' (Qb _) we.r ae
 have Sf:=Zc4 _ (Zj f) _ s v' (Qb _) wf.r ab
 have a1:=Z0Z (K:=Wga) e
 have a2:=Z0Z (K:=Wga) f
 have b1:=Z0Z (K:=Wgb) e
 have b2:=Z0Z (K:=Wgb) f
 have:=he.a
 have:=hf.a
 have:=he.b
 have:=hf.b
 have:=hs.l
 have te:=Se.t 130000 JX
 have tf:=Sf.t 130000 JX
 obtain ⟨X0,Y0⟩:=ZEu (K:=Wga) (a:=130000) (b:=130000) V2 V2 V2 we wf te tf
 obtain ⟨X1,Y1⟩:=ZEu (K:=Wgb) (a:=130000) (b:=130000) V2 V2 V2 we wf te tf
 obtain ⟨ha,hc⟩:=Zyw we wf s u' v' hs.r ae ab
 have ge:=Se.g
 have gf:=Sf.g
 have x0:=X0.ow
 have y0:=Y0.ow
 have x1:=X1.ow
 have y1:=Y1.ow
 have aa:(lbE (Zj e) (Zj f)).c=false->EdL (lbE (Zj e) (Zj f)).x/\EdL (lbE (Zj e) (Zj f)).y:=by
  intro c
  obtain ⟨w1,w2,g1,g2,_⟩:=hc c
  have Sy:=Zc4 _ _ _ u' w1 (Qb _) Y0.wk.r g1
  have Sx:=Zc4 _ _ _ v' w2 (Qb _) X0.wk.r g2
  have cx:=Sx.c
  have cy:=Sy.c
  exact ⟨⟨X0.wk,JX,JX,JX⟩,⟨Y0.wk,JX,JX,JX⟩⟩
 refine ⟨⟨he.re,hf.re,fun _ c=> ⟨(aa c).1.re,(aa c).2.re⟩⟩,fun h0=> ?_⟩
 have nE:∀ {x:Edit},EdL x->EdL (Zj x):=fun h=> ⟨nw h.w,QF (Z0Z _) h.a,QF (Z0Z _) h.b,QF (Z4y _) h.c⟩
 unfold lbN at h0 ⊢
 rw [if_neg (by rw [ha];decide)] at h0 ⊢
 by_cases c:(lbE (Zj e) (Zj f)).c=true
 .rw [if_pos c] at h0;cases h0
 .rw [if_neg c]
  have k:=aa (by simpa using c)
  exact ⟨nE k.1,nE k.2⟩
theorem Zxd{i:Nat}(hi:i<=20){t w:Tree}{es:List Edit}(h:PathL i t es w):∀ {f:Edit} {z:Tree} {out:List Edit},EdL f->doE false f t=some z->
  Zmj es f/\((ZdT es f out).2=0->∃ xs z',(ZdT es f out).1.1=out++xs/\PathL (i+1) (Z0 z) xs (Z0 z')/\EdL (ZdT es f out).1.2/\doE false (ZdT es f out).1.2 w=some z'/\xs.length=es.length):=by
 induction h with
 | nil hs=>
  intro f z out hf hz
  exact ⟨trivial,fun _=> ⟨[],z,by simp [ZdT],.nil (hs.next hf hz),hf,hz,rfl⟩⟩
 | cons hs he hu hp ih=>
  rename_i s e u fs w
  intro f z out hf hz
  obtain ⟨rb,k⟩:=ZKg he hf hs hi hu hz
  rcases ZGr rb hs.r hu hz with c | ⟨c,w1,w2,k1,k2,k3⟩
  .have hn:¬(lbN e f).2.2=0:=by rw [c];decide
   refine ⟨⟨rb,fun h=> absurd h hn⟩,fun h=> ?_⟩
   rw [ZdT,if_neg hn] at h
   exact absurd h hn
  .obtain ⟨ex,ey⟩:=k c
   obtain ⟨o,r⟩:=ih (out:=out++[(lbN e f).1]) ey k1
   refine ⟨⟨rb,fun _=> o⟩,fun h=> ?_⟩
   rw [ZdT,if_pos c] at h ⊢
   obtain ⟨xs,z',r1,r2,r3,r4,r5⟩:=r h
   have k3:Z0 w1=Z0 w2:=k3
   rw [k3] at r2
   exact ⟨(lbN e f).1 ::xs,z',by rw [r1];simp,.cons (hs.next hf hz) ex k2 r2,r3,r4,by simp [r5]⟩
theorem Zls{i:Nat}(hi:i<=20){e:Edit}{s u:Tree}(he:EdL e)(hs:TrL i s)(hu:doE false e s=some u):EdL (Zj (Zn e))/\∃ z,doE false (Zj (Zn e)) (Z0 u)=some z/\Z0 z=s:=by
 have ht:=(hs.next he hu)
 obtain ⟨z,h1,h⟩:=Z9Q he.w.r he.w.g hs.r ht.r hu (show Eqv u (Z0 u) from (ZI u).symm)
 have h:Z0 z=Z0 s:=h
 rw [hs.n] at h
 obtain ⟨_,g,d,r⟩:=Zje he.re
 have w:Wk (Zj (Zn e)):= .of r g
 have S:=Zc4 _ _ _ (Z0 u) z (Qb _) w.r h1
 have a1:=Z0Z (K:=Wga) (Zn e)
 have b1:=Z0Z (K:=Wgb) (Zn e)
 rw [Zgs] at a1 b1
 have:=he.a
 have:=he.b
 have:=S.c
 have:=ht.l
 exact ⟨⟨w,JX,JX,JX⟩,z,h1,h⟩
theorem Znp{e:Edit}{s:Tree}(h:(YL e s).2=0):∃ u,doE false e s=some u/\(YL e s).1=Z0 u:=by
 obtain ⟨u,h1,_,h2⟩:=ZFk h
 exact ⟨u,h1,h2⟩
structure InvL (i:Nat) (t:Tree) (h:Hist):Prop where
 p:PathL i t h.done h.now
 g:∀ e∈h.gone,EdL e
 d:h.done.length<=i
 o:h.gone.length<=i
theorem InvL.mono{i j:Nat}{t:Tree}{h:Hist}(k:InvL i t h)(hj:i<=j):InvL j t h:=⟨k.p.mono hj,k.g,QF k.d hj,QF k.o hj⟩
theorem ZGz{e:Edit}(hr:Z3 e 64=true)(hg:ZZ e)(hm:Z8 e<=3000):EdL (Zj e):=by
 have a:=Z0Z (K:=Wga) e
 have b:=Z0Z (K:=Wgb) e
 have:=Zck e
 have:=Zcj e
 have:=Z4y e
 have:=ZkT e
 exact ⟨.of (Jm _ _ hr) (Z0A _ _ hr hg),JX,JX,JX⟩
theorem InvL.act{i:Nat}{t:Tree}{h:Hist}(k:InvL i t h){e:Edit}(he:EdL e)(h0:(YL e h.now).2=0):PathL (i+1) t (h.done++[e]) (YL e h.now).1:=by
 obtain ⟨u,s,h2⟩:=Znp h0
 rw [h2]
 have n:=k.p.st.2.next he s
 exact Z7E.2 ⟨_,k.p.mono (Xg _),.cons (k.p.st.2.mono (Xg _)) he s (.nil n)⟩
theorem InvL.do{i:Nat}{t:Tree}{h:Hist}(k:InvL i t h){e:Edit}(he:Z3 e 64=true->EdL (Zj e)):InvL (i+1) t (doN e h).1:=by
 unfold doN
 split
 .rename_i s
  split
  .rename_i u
   have:=k.d
   exact ⟨k.act (he s) u,fun e h=> (by cases h),by simp;omega,QG _⟩
  .exact k.mono (Xg _)
 .exact k.mono (Xg _)
theorem ZmC{l:List Edit}(h:¬l.length=0):l=l.take (l.length - 1)++[Z01 l]:=by
 rcases List.eq_nil_or_concat l with rfl | ⟨es,e,rfl⟩
 .exact absurd rfl h
 .rw [List.concat_eq_append];simp [Z01]
theorem InvL.undo{i:Nat}(hi:i<=20){t:Tree}{h:Hist}(k:InvL i t h):InvL (i+1) t (Z1b h).1:=by
 obtain ⟨now,done,gone⟩:=h
 unfold Z1b
 split
 .exact k.mono (Xg _)
 .rename_i hl
  split
  .rename_i h0
   have hp:=k.p
   rw [ZmC hl] at hp
   obtain ⟨s,p1,p2⟩:=Z7E.1 hp
   cases p2 with
   | cons a b c d=>
    rename_i u
    cases d with
    | nil _=>
     obtain ⟨_,z,z1,z2⟩:=Zls hi b a c
     obtain ⟨v,v1,v2⟩:=Znp h0
     rw [z1] at v1
     cases v1
     have kd:=k.d
     have ko:=k.o
     dsimp only at kd ko
     have hb:EdL (Z01 done):=b
     refine ⟨?_,fun e he=> ?_,by simp;omega,by simp;omega⟩
     .dsimp only
      rw [v2,z2]
      exact p1.mono (Xg _)
     .rcases Qj.1 he with he | he
      .exact k.g e he
      .rw [Qg.1 he];exact hb
  .exact k.mono (Xg _)
theorem InvL.redo{i:Nat}{t:Tree}{h:Hist}(k:InvL i t h):InvL (i+1) t (Z0Q h).1:=by
 unfold Z0Q
 split
 .exact k.mono (Xg _)
 .rename_i hl
  split
  .rename_i u
   have s:Z01 h.gone∈h.gone:=by
    have e:=ZmC hl
    have:Z01 h.gone∈h.gone.take (h.gone.length - 1)++[Z01 h.gone]:=X5 _ (Qg.2 rfl)
    rw [<-e] at this
    exact this
   have:=k.d
   have:=k.o
   exact ⟨k.act (k.g _ s) u,fun e he=> k.g e (XK he),by simp;omega,by simp;omega⟩
  .exact k.mono (Xg _)
theorem ZcK{k:Int}{h:Hist}:ZiO k h=true↔0<=k/\k < h.done.length:=by
 unfold ZiO
 rw [Q6,decide_eq_true_eq,decide_eq_true_eq]
theorem ZvK{l:List Edit}{k:Int}(h0:0<=k)(h1:k < l.length):l=l.take k.toNat++(l.getD k.toNat Edit.nil ::l.drop (k+1).toNat):=by
 have h:k.toNat < l.length:=JX
 have e:l.getD k.toNat Edit.nil=l[k.toNat]:=by rw [Qq,Q4 h];try rfl
 rw [e,show (k+1).toNat=k.toNat+1 by omega,<-QI h,Qx]
theorem InvL.drop{i:Nat}(hi:i<=20){t:Tree}{h:Hist}(v:InvL i t h)(k:Int):ZoM k h/\InvL (i+1) t (Z6g k h).1:=by
 have hd:=v.d
 have ae:ZiO k h=true->(EdL (h.done.getD k.toNat Edit.nil)/\Zmj (h.done.drop (k+1).toNat) (ZiX k h))/\((Z73 k h).2=0->EdL (Z73 k h).1.2/\∃ z',doE false (Z73 k h).1.2 h.now=some z'/\PathL (i+1) t (Z73 k h).1.1 (Z0 z')/\(Z73 k h).1.1.length<=i):=by
  intro hb
  obtain ⟨k0,k1⟩:=ZcK.1 hb
  have hp:=v.p
  have e:=ZvK k0 k1
  rw [e] at hp
  obtain ⟨s,p1,p2⟩:=Z7E.1 hp
  cases p2 with
  | cons a b c d=>
   obtain ⟨ta,z,z1,z2⟩:=Zls hi b a c
   have ta:EdL (ZiX k h):=ta
   have z1:doE false (ZiX k h) _=some z:=z1
   obtain ⟨o,m⟩:=Zxd hi d (out:=h.done.take k.toNat) ta z1
   refine ⟨⟨b,o⟩,fun h0=> ?_⟩
   obtain ⟨xs,z',r1,r2,r3,r4,r5⟩:=m h0
   have r1:(Z73 k h).1.1=h.done.take k.toNat++xs:=r1
   rw [z2] at r2
   refine ⟨r3,z',r4,?_,?_⟩
   .rw [r1]
    exact Z7E.2 ⟨s,p1.mono (Xg _),r2⟩
   .rw [r1,Qk,r5,Qr,X9]
    omega
 refine ⟨⟨fun hb=> ?_,JX⟩,?_⟩
 .obtain ⟨⟨k1,k2⟩,k3⟩:=ae hb
  have:=YI k1.re
  exact ⟨⟨JX,k1.re.2.2⟩,k2,fun h0=> Z9V (k3 h0).1.re v.p.st.2 JX⟩
 .unfold Z6g
  split
  .rename_i hb
   split
   .rename_i h0
    split
    .rename_i hs
     obtain ⟨_,z',z1,z2,z3⟩:=(ae hb).2 h0
     obtain ⟨u,u1,u2⟩:=Znp hs
     rw [z1] at u1
     cases u1
     refine ⟨?_,fun e he=> (by cases he),V4,Nat.zero_le _⟩
     dsimp only
     rw [u2]
     exact z2
    .exact v.mono (Xg _)
   .exact v.mono (Xg _)
  .exact v.mono (Xg _)
theorem Ztu{i:Nat}{s w:Tree}{es:List Edit}(h:PathL i s es w):∃ z,Z95 es s=some z/\Eqv z w:=by
 induction h with
 | nil h=> exact ⟨_,rfl,rfl⟩
 | cons a b c d ih=>
  rename_i s e u fs w
  obtain ⟨z,z1,z2⟩:=ih
  have E:=Zas (fun e he=> ⟨_,(d.ok e he).w.r⟩) (show Eqv u (Z0 u) from (ZI u).symm)
  obtain ⟨y,y1,y2⟩:=Z4O E z1
  refine ⟨y,?_,y2.trans z2⟩
  rw [Z95,c]
  exact y1
theorem ZoR{c:Nat}:∀ {l:List Edit},(∀ e∈l,ctE e<=c)->ctL l<=l.length*c
 | [],_=> QG _
 | e ::r,h=> by
  have h1:=h e Q7
  have u:=ZoR (l:=r) fun x s=> h x (Q0 _ s)
  rw [ctL,Qm,QJ]
  omega
theorem ZvJ{i:Nat}(hi:i<=20){t:Tree}{h:Hist}(k:InvL i (Z0 t) h)(ht:RT_ t):Y4 (Z6d h.done).1/\∃ u,doE false (Z6d h.done).1 t=some u/\Eqv u h.now:=by
 obtain ⟨z,z1,z2⟩:=Ztu k.p
 have ok:=k.p.ok
 have rd:∀ e∈h.done,∃ d,Z3 e d=true:=fun e s=> ⟨_,(ok e s).w.r⟩
 obtain ⟨y,y1,y2⟩:=Z4O (Zas rd (show Eqv t (Z0 t) from (ZI t).symm)) z1
 have c:=ZoR (c:=210000000) fun e s=> (ok e s).c
 have:=k.d
 have c2:h.done.length*210000000<=20*210000000:=Qf _ JX
 have cn:ctE Edit.nil=18:=rfl
 have dn:∀ t,doE false Edit.nil t=some t:=fun t=> Z9H rfl t
 obtain ⟨j1,j2,_,j4⟩:=ZmI h.done Edit.nil t ZfU (fun e s=> (ok e s).re) JX ht (by rw [dn,Qn,y1];rfl)
 have J:=j4 t ht
 rw [dn,Qn] at J
 obtain ⟨u,u1,u2⟩:=Z4O J y1
 obtain ⟨_,g,d,r⟩:=id j2
 obtain ⟨v,v1,v2⟩:=Z4O (Z3E _ d t r ht) u1
 unfold Z6d
 rw [if_pos j1]
 exact ⟨ZfT j2,v,v1,v2.trans (u2.trans (y2.trans z2))⟩
end Go.AM.YtpjenobkibfpcaaGreat
namespace Go.AM.YtpjenobkibfpcaaGreat
open Go.AM
theorem ZCd{l:List Edit}{i:Int}(h0:0<=i)(h:i < l.length):l.drop i.toNat=l.getD i.toNat Edit.nil ::l.drop (i+1).toNat:=by
 have s:i.toNat < l.length:=JX
 rw [QI s,show (i+1).toNat=i.toNat+1 by omega,Qq,Q4 s]
 try rfl
theorem Z58(t:Tree):Tree.mk t.kind t.words t.kids=t:=by cases t;rfl
theorem ZKB(e:Edit):Edit.mk e.kind (Tree.mk e.old.kind e.old.words e.old.kids) (Tree.mk e.new.kind e.new.words e.new.kids) e.words e.kids e.list e.ops=e:=by rw [Z58,Z58];cases e;rfl
end Go.AM.YtpjenobkibfpcaaGreat
namespace Go.AM.YtpjenobkibfpcaaGreat
open Go.AM Go.Proofs
theorem Z6E:∀ (n:Nat) (e:Edit),Z8 e<=n->n<=17592186044416->Z2x e
 | 0,e,hn,_=> by
  have:3<=Z8 e:=Zmn e
  omega
 | n+1,.mk k o nw w ks l os,hn,hb=> by
  simp only [Z8] at hn
  have hk:=Yb ks
  have s:∀ ks:List Kid,Zx ks<=n->Z5z ks:=by
   intro ks
   induction ks with
   | nil=> intro _;trivial
   | cons a r ih=>
    intro h
    obtain ⟨at_,e⟩:=a
    simp only [Zx,YO] at h
    exact ⟨Z6E n e JX JX,ih JX⟩
  have u:∀ os:List Op,Zt os<=n->Z5y os:=by
   intro os
   induction os with
   | nil=> intro _;trivial
   | cons a r ih=>
    intro h
    obtain ⟨a1,a2,t,e⟩:=a
    simp only [Zt,Zu] at h
    have:=Zy t
    exact ⟨⟨JX,Z3o t JX,Z6E n e JX JX⟩,ih JX⟩
  exact ⟨Z2c o JX,Z2c nw JX,JX,JX,JX,s ks JX,u os JX⟩
noncomputable def Zc1(d:Deed)(t:Tree):Bool:=
 ((decide (d.kind < 0) || decide (3 < d.kind)) || (decide (0<=Z0D d.e 80 3000) && (!Z3 d.e 64 || Z1V d.e))) && decide (0<=ZK t 80 3000)
noncomputable section
def Z8N(a:List Edit × Unit):Prop:=(a.1).length<=10000000000
def ZpY(a:List Edit × Unit):V U:= .c (sU .edit a.1 (.own (.r 0 0)))
def Z1q:Fs U:=fs ZzB (fun a=> [Z8N a]) ZpY
def Zqh(a:Tree × Unit):Prop:=(Zo a.1<=20000000000/\rng a.1)/\Zd a.1 64=true/\Tree.kind a.1≠10
def Zw1(a:Tree × Unit):List (C U):=(enc .tree (Z0 a.1)++[sU .edit ([]:List Edit) .unk,sU .edit ([]:List Edit) .unk])
def Z6z:Fs U:=fsN Zzy (fun a=> [Zqh a]) Zw1
def Zp7:ArgM ((Int × List Int × List Tree × List Edit × List Edit × Unit) × Unit):=(.obj 0 (.cons (Z67 .i64) (.cons (cSl .u64) (.cons (cSl .tree) (.cons (cSl .edit) (.cons (cSl .edit) .nil))))) .nil)
def Zii(a:(Int × List Int × List Tree × List Edit × List Edit × Unit) × Unit):Prop:=True
def Zw0(a:(Int × List Int × List Tree × List Edit × List Edit × Unit) × Unit):V U:= .agg (enc .tree (Tree.mk a.1.1 a.1.2.1 a.1.2.2.1))
def ZnD(a:(Int × List Int × List Tree × List Edit × List Edit × Unit) × Unit):List (List (C U)):=[[ci (Tree.kind (Tree.mk a.1.1 a.1.2.1 a.1.2.2.1)),sU .u64 (Tree.words (Tree.mk a.1.1 a.1.2.1 a.1.2.2.1)) .unk,sU .tree (Tree.kids (Tree.mk a.1.1 a.1.2.1 a.1.2.2.1)) .unk,sU .edit a.1.2.2.2.1 .unk,sU .edit a.1.2.2.2.2.1 .unk]]
def Z6y:Fs U:=fsX Zp7 (fun a=> [Zii a]) Zw0 ZnD
def ZoY:ArgM ((Int × List Int × List Tree × List Edit × List Edit × Unit) × Edit × Unit):=(.obj 0 (.cons (Z67 .i64) (.cons (cSl .u64) (.cons (cSl .tree) (.cons (cSl .edit) (.cons (cSl .edit) .nil))))) (.cons (aEl .edit) .nil))
def Zif(a:(Int × List Int × List Tree × List Edit × List Edit × Unit) × Edit × Unit):Prop:=Z6q a.2.1 (Tree.mk a.1.1 a.1.2.1 a.1.2.2.1)
def ZvT(a:(Int × List Int × List Tree × List Edit × List Edit × Unit) × Edit × Unit):V U:= .c (ci ((YL a.2.1 (Tree.mk a.1.1 a.1.2.1 a.1.2.2.1)).2))
def Znx(a:(Int × List Int × List Tree × List Edit × List Edit × Unit) × Edit × Unit):List (List (C U)):=[(enc .tree ((YL a.2.1 (Tree.mk a.1.1 a.1.2.1 a.1.2.2.1)).1)++[sU .edit a.1.2.2.2.1 .unk,sU .edit a.1.2.2.2.2.1 .unk])]
def Z1r:Fs U:=fsX ZoY (fun a=> [Zif a]) ZvT Znx
abbrev A84(p:List Nat):=AW (Z2 ZoA) Tryz.f84 Zyc p
theorem ZLa(l:List Edit)(Q:QT)(h:(((l=[])->(Q .ret (L2 [(2,.c (.nils))] [])))/\(True->((([]:List Edit).length+l.length)*200<=140737488355328)/\(Q .ret (L2 [(2,.c (sU .edit (([]:List Edit)++l) (.own (.e 2 0))))] []))))):
  A84 [] (L2 [(0,.c (sU .edit l .unk))] []) Q:=
 Eq.mpr V3 h
def ZHS(l:List Edit):Prop:=AW (Z2 ZoA) Tryz.f84 Zyc [] (Zf (ZzB.can (l,())) []) (EQ Tryz.f84 (ZpY (l,())) [])
theorem ZFC(hb:∀ (l:List Edit) (_:Unit),Z8N (l,())->ZHS l):CT 84 Z1q:=
 Z1 (l:=[]) Ze rfl trivial Zyc Tryz.func84 rfl rfl 1 (fun _=> rfl) V2 (fun ⟨l,_⟩=> hb l ())
def ZyM:List (FuncId × Fs U):=[(82,Z1s),(75,Z07)]
def ZGh:Za U:=lvl [([1],[1]),([1,10],[1]),([2],[]),([2],[14])]
abbrev A33(p:List Nat):=AW (Z2 ZyM) Tryz.f33 ZGh p
theorem ZLv(t:Tree)(Q:QT)(h:let z0:=Tree.mk t.kind t.words t.kids;let z1:= !(!(Zd z0 64));((Zig (z0,()))/\(Tt z1)/\(Tt z1)/\((!(Zd z0 64))=false->z1=true)/\(iB (bif (!(Zd z0 64)) then true else (t.kind==10)) ((Q .ret (L2 [(2,.c (.nilp))] []))) ((Z2l (z0,()))/\(Q .ret (L2 [(2,.ptr (.loc 14) 0)] [(.loc 14,(enc .tree (Z0 z0)++[.nils,.nils]))])))))):
  A33 [] (L2 [(0,.agg (enc .tree t))] []) Q:=
 Eq.mpr V3 h
def ZId(t:Tree):Prop:=AW (Z2 ZyM) Tryz.f33 ZGh [] (Zf (Zzy.can (t,())) []) (Zlk cfg Tryz.f33.ntmps Tryz.f33.results.toList [] (Zw1 (t,())))
theorem ZFS(c82:CT 82 Z1s)(c75:CT 75 Z07)(hb:∀ (t:Tree) (_:Unit),Zqh (t,())->ZId t):CT 33 Z6z:=
 Zhi (l:=[(82,Z1s),(75,Z07)]) Ze rfl (⟨c82,c75,trivial⟩) ZGh Tryz.func33 rfl rfl 1 (fun _=> rfl) V2 (fun ⟨t,_⟩=> hb t ())
def ZGg:Za U:=lvk [([0,2],[2,((.x 0),[])]),([0,2,4],[2,((.x 0),[])]),([2],[2,((.x 0),[])]),([2],[2,((.x 0),[])])]
abbrev A35(p:List Nat):=AW (Z2 ZoA) Tryz.f35 ZGg p
theorem ZLu(hk:Int)(hw:List Int)(hc:List Tree)(hd hg:List Edit)(Q:QT)(h:(iB false ((Q .ret (L2 [pL 2] [(.loc 2,[ci 0,.nils,.nils]),(.x 0,[ci hk,sU .u64 hw .unk,sU .tree hc .unk,sU .edit hd .unk,sU .edit hg .unk])]))) ((Q .ret (L2 [pL 2] [(.loc 2,[ci hk,sU .u64 hw .unk,sU .tree hc .unk]),(.x 0,[ci hk,sU .u64 hw .unk,sU .tree hc .unk,sU .edit hd .unk,sU .edit hg .unk])]))))):
  A35 [] (L2 [(0,.ptr (.x 0) 0)] [(.x 0,[ci hk,sU .u64 hw .unk,sU .tree hc .unk,sU .edit hd .unk,sU .edit hg .unk])]) Q:=
 Eq.mpr V3 h
def ZIc(hk:Int)(hw:List Int)(hc:List Tree)(hd hg:List Edit):Prop:=AW (Z2 ZoA) Tryz.f35 ZGg [] (Zf (Zp7.can ((hk,hw,hc,hd,hg,()),())) (Zp7.canX ((hk,hw,hc,hd,hg,()),()))) (EQ Tryz.f35 (Zw0 ((hk,hw,hc,hd,hg,()),())) (ZnD ((hk,hw,hc,hd,hg,()),())))
theorem ZFR(hb:∀ (hk:Int) (u:List Int) (hc:List Tree) (h:List Edit) (s:List Edit) (_:Unit),Zii ((hk,u,hc,h,s,()),())->ZIc hk u hc h s):CT 35 Z6y:=
 Zv (l:=[]) Ze rfl trivial ZGg Tryz.func35 rfl rfl 1 (fun _=> rfl) V2 (fun ⟨⟨hk,u,hc,h,s,_⟩,_⟩=> hb hk u hc h s ())
def ZyC:List (FuncId × Fs U):=[(25,JD),(82,Z1s)]
def ZG5:Za U:=lvk [([0,3],[3,((.x 0),[])]),([0,5,6],[5,((.x 0),[])]),([0,5,16],[5,((.x 0),[])]),([4],[((.x 0),[])]),([0,5,19],[5,((.x 0),[])]),([4],[((.x 0),[])]),([],[((.x 0),[])]),([4],[((.x 0),[])])]
abbrev A83(p:List Nat):=AW (Z2 ZyC) Tryz.f83 ZG5 p
theorem ZLb(hk:Int)(hw:List Int)(hc:List Tree)(hd hg:List Edit)(e:Edit)(Q:QT)(h:∀ s,s=e->∀ u,u=(Z1h ((doE false s (Tree.mk hk hw hc)).map Z0))->let z0:=doE false s (Tree.mk hk hw hc);((Z4N (s,(Tree.mk hk hw hc),()))/\(iB (!(z0.isSome)) ((Q .ret (L2 [pI 4 13] [(.x 0,[ci hk,sU .u64 hw .unk,sU .tree hc .unk,sU .edit hd .unk,sU .edit hg .unk])]))) ((Zig (u,()))/\(iB (!(Zd u 64)) ((Q .ret (L2 [pI 4 3] [(.x 0,[ci hk,sU .u64 hw .unk,sU .tree hc .unk,sU .edit hd .unk,sU .edit hg .unk])]))) ((Q .ret (L2 [pI 4 0] [(.x 0,(enc .tree (Z1h (z0.map Z0))++[sU .edit hd .unk,sU .edit hg .unk]))])))))))):
  A83 [] (L2 [(0,.ptr (.x 0) 0),(1,.agg (enc .edit e))] [(.x 0,[ci hk,sU .u64 hw .unk,sU .tree hc .unk,sU .edit hd .unk,sU .edit hg .unk])]) Q:=
 Eq.mpr V3 (h _ (Z7 _) _ (Z9 _))
def ZHT(hk:Int)(hw:List Int)(hc:List Tree)(hd hg:List Edit)(e:Edit):Prop:=AW (Z2 ZyC) Tryz.f83 ZG5 [] (Zf (ZoY.can ((hk,hw,hc,hd,hg,()),e,())) (ZoY.canX ((hk,hw,hc,hd,hg,()),e,()))) (EQ Tryz.f83 (ZvT ((hk,hw,hc,hd,hg,()),e,())) (Znx ((hk,hw,hc,hd,hg,()),e,())))
theorem ZFD(c25:CT 25 JD)(c82:CT 82 Z1s)(hb:∀ (hk:Int) (u:List Int) (hc:List Tree) (h:List Edit) (s:List Edit) (e:Edit) (_:Unit),Zif ((hk,u,hc,h,s,()),e,())->ZHT hk u hc h s e):CT 83 Z1r:=
 Zv (l:=[(25,JD),(82,Z1s)]) Ze rfl (⟨c25,c82,trivial⟩) ZG5 Tryz.func83 rfl rfl 2 (fun _=> rfl) V2 (fun ⟨⟨hk,u,hc,h,s,_⟩,e,_⟩=> hb hk u hc h s e ())
end
noncomputable section
def Zqg(a:(Int × List Int × List Tree × List Edit × List Edit × Unit) × Edit × Unit):Prop:=((Z8 a.2.1<=18000000000/\ZZ a.2.1)/\(Z3 a.2.1 64=true->Z6q (Zj a.2.1) (Tree.mk a.1.1 a.1.2.1 a.1.2.2.1)))/\(a.1.2.2.2.1).length<=1000000000
def ZvZ(a:(Int × List Int × List Tree × List Edit × List Edit × Unit) × Edit × Unit):V U:= .c (ci ((doN a.2.1 (Hist.mk (Tree.mk a.1.1 a.1.2.1 a.1.2.2.1) a.1.2.2.2.1 a.1.2.2.2.2.1)).2))
def ZnC(a:(Int × List Int × List Tree × List Edit × List Edit × Unit) × Edit × Unit):List (List (C U)):=[(enc .tree (Hist.now ((doN a.2.1 (Hist.mk (Tree.mk a.1.1 a.1.2.1 a.1.2.2.1) a.1.2.2.2.1 a.1.2.2.2.2.1)).1))++[sU .edit (Hist.done ((doN a.2.1 (Hist.mk (Tree.mk a.1.1 a.1.2.1 a.1.2.2.1) a.1.2.2.2.1 a.1.2.2.2.2.1)).1)) .unk,sU .edit (Hist.gone ((doN a.2.1 (Hist.mk (Tree.mk a.1.1 a.1.2.1 a.1.2.2.1) a.1.2.2.2.1 a.1.2.2.2.2.1)).1)) .unk])]
def Z6x:Fs U:=fsX ZoY (fun a=> [Zqg a]) ZvZ ZnC
def Zqf(a:(Int × List Int × List Tree × List Edit × List Edit × Unit) × Unit):Prop:=(∀ e∈a.1.2.2.2.1,(Z8 e<=20000000000/\∃ d,Z3 e d=true)/\Z6q (Zj (Zn e)) (Tree.mk a.1.1 a.1.2.1 a.1.2.2.1))/\(a.1.2.2.2.1).length<=1000000000/\(a.1.2.2.2.2.1).length<=1000000000
def ZvY(a:(Int × List Int × List Tree × List Edit × List Edit × Unit) × Unit):V U:= .c (.bool ((Z1b (Hist.mk (Tree.mk a.1.1 a.1.2.1 a.1.2.2.1) a.1.2.2.2.1 a.1.2.2.2.2.1)).2))
def ZnB(a:(Int × List Int × List Tree × List Edit × List Edit × Unit) × Unit):List (List (C U)):=[(enc .tree (Hist.now ((Z1b (Hist.mk (Tree.mk a.1.1 a.1.2.1 a.1.2.2.1) a.1.2.2.2.1 a.1.2.2.2.2.1)).1))++[sU .edit (Hist.done ((Z1b (Hist.mk (Tree.mk a.1.1 a.1.2.1 a.1.2.2.1) a.1.2.2.2.1 a.1.2.2.2.2.1)).1)) .unk,sU .edit (Hist.gone ((Z1b (Hist.mk (Tree.mk a.1.1 a.1.2.1 a.1.2.2.1) a.1.2.2.2.1 a.1.2.2.2.2.1)).1)) .unk])]
def Z6w:Fs U:=fsX Zp7 (fun a=> [Zqf a]) ZvY ZnB
def Zqe(a:(Int × List Int × List Tree × List Edit × List Edit × Unit) × Unit):Prop:=(∀ e∈a.1.2.2.2.2.1,Z6q e (Tree.mk a.1.1 a.1.2.1 a.1.2.2.1))/\(a.1.2.2.2.1).length<=1000000000/\(a.1.2.2.2.2.1).length<=1000000000
def ZvX(a:(Int × List Int × List Tree × List Edit × List Edit × Unit) × Unit):V U:= .c (.bool ((Z0Q (Hist.mk (Tree.mk a.1.1 a.1.2.1 a.1.2.2.1) a.1.2.2.2.1 a.1.2.2.2.2.1)).2))
def ZnA(a:(Int × List Int × List Tree × List Edit × List Edit × Unit) × Unit):List (List (C U)):=[(enc .tree (Hist.now ((Z0Q (Hist.mk (Tree.mk a.1.1 a.1.2.1 a.1.2.2.1) a.1.2.2.2.1 a.1.2.2.2.2.1)).1))++[sU .edit (Hist.done ((Z0Q (Hist.mk (Tree.mk a.1.1 a.1.2.1 a.1.2.2.1) a.1.2.2.2.1 a.1.2.2.2.2.1)).1)) .unk,sU .edit (Hist.gone ((Z0Q (Hist.mk (Tree.mk a.1.1 a.1.2.1 a.1.2.2.1) a.1.2.2.2.1 a.1.2.2.2.2.1)).1)) .unk])]
def Z6v:Fs U:=fsX Zp7 (fun a=> [Zqe a]) ZvX ZnA
def ZEk(a:Unit):V U:= .c (.bool true)
def Zfn:Fs U:=fs ZsP (fun a=> [Zcf a]) ZEk
def ZyK:List (FuncId × Fs U):=[(28,Zfo),(67,Z0h),(83,Z1r),(84,Z1q)]
def ZGf:Za U:=lvk [([0,3],[3,((.x 0),[])]),([0,3,6],[3,((.x 0),[])]),([4],[((.x 0),[])]),([0,3,9],[3,((.x 0),[])]),([4],[((.x 0),[])]),([0,3],[3,((.x 0),[])]),([0,3,5],[3,((.x 0),[])]),([0,3,5,19],[3,((.x 0),[])]),([4],[((.x 0),[])]),([],[((.x 0),[])]),([4],[((.x 0),[])])]
abbrev A36(p:List Nat):=AW (Z2 ZyK) Tryz.f36 ZGf p
theorem ZLt(hk:Int)(hw:List Int)(hc:List Tree)(hd hg:List Edit)(e:Edit)(Q:QT)(h:∀ s,s=e->∀ u,u=(Zj s)->let z0:=YL u (Tree.mk hk hw hc);(iB false ((Q .ret (L2 [pI 4 1] [(.x 0,[ci hk,sU .u64 hw .unk,sU .tree hc .unk,sU .edit hd .unk,sU .edit hg .unk])]))) ((Zqj (s,()))/\(iB (!(Z3 s 64)) ((Q .ret (L2 [pI 4 2] [(.x 0,[ci hk,sU .u64 hw .unk,sU .tree hc .unk,sU .edit hd .unk,sU .edit hg .unk])]))) ((Z1g (s,()))/\((Zif ((hk,hw,hc,hd,hg,()),u,()))/\(iB (((z0.2):Int) !=0) ((Q .ret (L2 [pI 4 (z0.2)] [(.x 0,(enc .tree (z0.1)++[sU .edit hd .unk,sU .edit hg .unk]))]))) ((Z8N (hd,()))/\((hd.length+([u]).length)*200<=140737488355328)/\(Q .ret (L2 [pI 4 0] [(.x 0,(enc .tree (z0.1)++[sU .edit (hd++([u])) (.own (.x 0 3)),.nils]))])))))))))):
  A36 [] (L2 [(0,.ptr (.x 0) 0),(1,.agg (enc .edit e))] [(.x 0,[ci hk,sU .u64 hw .unk,sU .tree hc .unk,sU .edit hd .unk,sU .edit hg .unk])]) Q:=
 Eq.mpr V3 (h _ (Z7 _) _ (Z7 _))
def ZIb(hk:Int)(hw:List Int)(hc:List Tree)(hd hg:List Edit)(e:Edit):Prop:=AW (Z2 ZyK) Tryz.f36 ZGf [] (Zf (ZoY.can ((hk,hw,hc,hd,hg,()),e,())) (ZoY.canX ((hk,hw,hc,hd,hg,()),e,()))) (EQ Tryz.f36 (ZvZ ((hk,hw,hc,hd,hg,()),e,())) (ZnC ((hk,hw,hc,hd,hg,()),e,())))
theorem ZFQ(c28:CT 28 Zfo)(c67:CT 67 Z0h)(c83:CT 83 Z1r)(c84:CT 84 Z1q)(hb:∀ (hk:Int) (u:List Int) (hc:List Tree) (h:List Edit) (s:List Edit) (e:Edit) (_:Unit),Zqg ((hk,u,hc,h,s,()),e,())->ZIb hk u hc h s e):CT 36 Z6x:=
 Zv (l:=[(28,Zfo),(67,Z0h),(83,Z1r),(84,Z1q)]) Ze rfl (⟨c28,c67,c83,c84,trivial⟩) ZGf Tryz.func36 rfl rfl 2 (fun _=> rfl) V2 (fun ⟨⟨hk,u,hc,h,s,_⟩,e,_⟩=> hb hk u hc h s e ())
def ZyJ:List (FuncId × Fs U):=[(83,Z1r),(84,Z1q),(85,Z13)]
def ZGe:Za U:=lvk [([0],[((.x 0),[])]),([0,14],[((.x 0),[])]),([2],[((.x 0),[])]),([0,3],[((.x 0),[])]),([0,3,4],[4,((.x 0),[])]),([0,3,4,32],[4,((.x 0),[])]),([2],[((.x 0),[])]),([],[((.x 0),[])]),([2],[((.x 0),[])])]
abbrev A37(p:List Nat):=AW (Z2 ZyJ) Tryz.f37 ZGe p
theorem ZLs(hk:Int)(hw:List Int)(hc:List Tree)(hd hg:List Edit)(Q:QT)(h:∀ aa,aa=(List.getD hd (Int.toNat (((hd.length:Int):Int) - 1)) Edit.nil)->∀ s,s=aa->∀ u,u=(Zj (Zn s))->let z0:=YL u (Tree.mk hk hw hc);((Tt (!false))/\(Tt (!false))/\(Tt (!false))/\(Tt (!false))/\(Tt (!false))/\(false=false->(!false)=true)/\(iB (bif false then true else (((hd.length:Int):Int)==0)) ((Q .ret (L2 [pB 2 false] [(.x 0,[ci hk,sU .u64 hw .unk,sU .tree hc .unk,sU .edit hd .unk,sU .edit hg .unk])]))) ((InR (((hd.length:Int):Int) - 1))/\(((0:Int)<=(((hd.length:Int):Int) - 1)/\(((hd.length:Int):Int) - 1) < (hd.length:Int))/\((Z1g (s,()))/\(Zif ((hk,hw,hc,hd,hg,()),u,()))/\(iB (((z0.2):Int) !=0) ((Q .ret (L2 [pB 2 false] [(.x 0,(enc .tree (z0.1)++[sU .edit hd .unk,sU .edit hg .unk]))]))) (((0:Int)<=(((hd.length:Int):Int) - 1)/\(((hd.length:Int):Int) - 1)<=(hd.length:Int))/\((((hd.length:Int):Int) - 1)=(((hd.length:Int):Int) - 1))/\(Z8N (hg,()))/\((hg.length+([s]).length)*200<=140737488355328)/\(Q .ret (L2 [pB 2 true] [(.x 0,(enc .tree (z0.1)++[sU .edit (List.take (Int.toNat (((hd.length:Int):Int) - 1)) hd) .full,sU .edit (hg++([s])) (.own (.x 0 4))]))])))))))))):
  A37 [] (L2 [(0,.ptr (.x 0) 0)] [(.x 0,[ci hk,sU .u64 hw .unk,sU .tree hc .unk,sU .edit hd .unk,sU .edit hg .unk])]) Q:=
 Eq.mpr V3 (h _ rfl _ (Z7 _) _ (Z7 _))
def ZIa(hk:Int)(hw:List Int)(hc:List Tree)(hd hg:List Edit):Prop:=AW (Z2 ZyJ) Tryz.f37 ZGe [] (Zf (Zp7.can ((hk,hw,hc,hd,hg,()),())) (Zp7.canX ((hk,hw,hc,hd,hg,()),()))) (EQ Tryz.f37 (ZvY ((hk,hw,hc,hd,hg,()),())) (ZnB ((hk,hw,hc,hd,hg,()),())))
theorem ZFP(c83:CT 83 Z1r)(c84:CT 84 Z1q)(c85:CT 85 Z13)(hb:∀ (hk:Int) (u:List Int) (hc:List Tree) (h:List Edit) (s:List Edit) (_:Unit),Zqf ((hk,u,hc,h,s,()),())->ZIa hk u hc h s):CT 37 Z6w:=
 Zv (l:=[(83,Z1r),(84,Z1q),(85,Z13)]) Ze rfl (⟨c83,c84,c85,trivial⟩) ZGe Tryz.func37 rfl rfl 1 (fun _=> rfl) V2 (fun ⟨⟨hk,u,hc,h,s,_⟩,_⟩=> hb hk u hc h s ())
def ZyI:List (FuncId × Fs U):=[(83,Z1r),(84,Z1q)]
def ZGd:Za U:=lvk [([0],[((.x 0),[])]),([0,14],[((.x 0),[])]),([2],[((.x 0),[])]),([0,3],[((.x 0),[])]),([0,3,4],[4,((.x 0),[])]),([0,3,4,31],[4,((.x 0),[])]),([2],[((.x 0),[])]),([],[((.x 0),[])]),([2],[((.x 0),[])])]
abbrev A38(p:List Nat):=AW (Z2 ZyI) Tryz.f38 ZGd p
theorem ZLr(hk:Int)(hw:List Int)(hc:List Tree)(hd hg:List Edit)(Q:QT)(h:∀ u,u=(List.getD hg (Int.toNat (((hg.length:Int):Int) - 1)) Edit.nil)->∀ s,s=u->let z0:=YL s (Tree.mk hk hw hc);((Tt (!false))/\(Tt (!false))/\(Tt (!false))/\(Tt (!false))/\(Tt (!false))/\(false=false->(!false)=true)/\(iB (bif false then true else (((hg.length:Int):Int)==0)) ((Q .ret (L2 [pB 2 false] [(.x 0,[ci hk,sU .u64 hw .unk,sU .tree hc .unk,sU .edit hd .unk,sU .edit hg .unk])]))) ((InR (((hg.length:Int):Int) - 1))/\(((0:Int)<=(((hg.length:Int):Int) - 1)/\(((hg.length:Int):Int) - 1) < (hg.length:Int))/\((Zif ((hk,hw,hc,hd,hg,()),s,()))/\(iB (((z0.2):Int) !=0) ((Q .ret (L2 [pB 2 false] [(.x 0,(enc .tree (z0.1)++[sU .edit hd .unk,sU .edit hg .unk]))]))) ((Z8N (hd,()))/\((hd.length+([s]).length)*200<=140737488355328)/\((0:Int)<=(((hg.length:Int):Int) - 1)/\(((hg.length:Int):Int) - 1)<=(hg.length:Int))/\((((hg.length:Int):Int) - 1)=(((hg.length:Int):Int) - 1))/\(Q .ret (L2 [pB 2 true] [(.x 0,(enc .tree (z0.1)++[sU .edit (hd++([s])) (.own (.x 0 3)),sU .edit (List.take (Int.toNat (((hg.length:Int):Int) - 1)) hg) .full]))])))))))))):
  A38 [] (L2 [(0,.ptr (.x 0) 0)] [(.x 0,[ci hk,sU .u64 hw .unk,sU .tree hc .unk,sU .edit hd .unk,sU .edit hg .unk])]) Q:=
 Eq.mpr V3 (h _ rfl _ (Z7 _))
def ZI9(hk:Int)(hw:List Int)(hc:List Tree)(hd hg:List Edit):Prop:=AW (Z2 ZyI) Tryz.f38 ZGd [] (Zf (Zp7.can ((hk,hw,hc,hd,hg,()),())) (Zp7.canX ((hk,hw,hc,hd,hg,()),()))) (EQ Tryz.f38 (ZvX ((hk,hw,hc,hd,hg,()),())) (ZnA ((hk,hw,hc,hd,hg,()),())))
theorem ZFO(c83:CT 83 Z1r)(c84:CT 84 Z1q)(hb:∀ (hk:Int) (u:List Int) (hc:List Tree) (h:List Edit) (s:List Edit) (_:Unit),Zqe ((hk,u,hc,h,s,()),())->ZI9 hk u hc h s):CT 38 Z6v:=
 Zv (l:=[(83,Z1r),(84,Z1q)]) Ze rfl (⟨c83,c84,trivial⟩) ZGd Tryz.func38 rfl rfl 1 (fun _=> rfl) V2 (fun ⟨⟨hk,u,hc,h,s,_⟩,_⟩=> hb hk u hc h s ())
def ZyN:List (FuncId × Fs U):=[(33,Z6z),(35,Z6y),(36,Z6x),(37,Z6w),(38,Z6v)]
def ZGi:Za U:=lvl [([],[]),([1],[9]),([1,2],[9]),([1,2,3],[9]),([1,2,3,4],[4,9]),([1,2,3,4,5],[4,9]),([2,3,4,5,6],[4,6]),([0],[])]
abbrev A32(p:List Nat):=AW (Z2 ZyN) Tryz.f32 ZGi p
theorem ZLw(Q:QT)(h:∀ aj,aj=(Z0 (Tree.mk 1 ([1]) []))->∀ ab,ab=(Edit.mk 2 (Tree.mk 0 [] []) (Tree.mk 0 [] []) ([(WEdit.mk 0 1 1 2)]) [] 0 [])->∀ ai,ai=(Hist.now ((doN ab (Hist.mk aj ([]:List Edit) ([]:List Edit))).1))->∀ af,af=(Hist.done ((doN ab (Hist.mk aj ([]:List Edit) ([]:List Edit))).1))->∀ ae,ae=(Hist.gone ((doN ab (Hist.mk aj ([]:List Edit) ([]:List Edit))).1))->∀ ah,ah=ai->∀ u,u=(Hist.now ((Z1b (Hist.mk ah af ae)).1))->∀ al,al=u->∀ ak,ak=(List.getD u.words (Int.toNat 0) (0:Int))->∀ s,s=(Hist.mk al (Hist.done ((Z1b (Hist.mk ah af ae)).1)) (Hist.gone ((Z1b (Hist.mk ah af ae)).1)))->∀ aa,aa=(Hist.now ((Z0Q s).1))->let z7:=Hist.now ((Z0Q s).1);let z6:=Tree.mk 1 ([1]) [];let z4:=(((doN ab (Hist.mk aj ([]:List Edit) ([]:List Edit))).2):Int)==0;let z3:=Z1b (Hist.mk ah af ae);let z8:=bif z4 then (z3.2) else false;let z1:=bif z8 then ((Z0Q s).2) else false;let z0:=bif z1 then (((u.words.length:Int):Int)==1) else false;let z5:=bif z0 then (ak==1) else false;let z2:=bif z5 then (((aa.words.length:Int):Int)==1) else false;((Zqh (z6,()))/\((Zqg (((Tree.kind (Z0 z6)),(Tree.words (Z0 z6)),(Tree.kids (Z0 z6)),([]:List Edit),([]:List Edit),()),ab,()))/\((Zqf ((ai.kind,ai.words,ai.kids,af,ae,()),()))/\((Zii (((Tree.kind (Hist.now (z3.1))),(Tree.words (Hist.now (z3.1))),(Tree.kids (Hist.now (z3.1))),(Hist.done (z3.1)),(Hist.gone (z3.1)),()),()))/\((Zqe (((Tree.kind u),(Tree.words u),(Tree.kids u),(Hist.done (z3.1)),(Hist.gone (z3.1)),()),()))/\((Zii (((Tree.kind z7),(Tree.words z7),(Tree.kids z7),(Hist.done ((Z0Q s).1)),(Hist.gone ((Z0Q s).1)),()),()))/\((Tt z4)/\(Tt z8)/\(Tt z1)/\(Tt z1)/\(Tt z1)/\(Tt z1)/\(Tt z0)/\(Tt z0)/\(z0=true->(0:Int)<=0/\0 < (u.words.length:Int))/\(Tt z0)/\(Tt z0)/\(Tt z0)/\(Tt z5)/\(Tt z5)/\(Tt z5)/\(Tt z5)/\(Tt z2)/\(Tt z2)/\(z2=true->(0:Int)<=0/\0 < (aa.words.length:Int))/\(Tt z2)/\(Tt z2)/\(Tt z2)/\(Q .ret (L2 [(0,.c (.bool (bif z2 then (((List.getD aa.words (Int.toNat 0) (0:Int)):Int)==2) else false)))] [])))))))))):
  A32 [] (L2 [] []) Q:=
 Eq.mpr V3 (h _ (Z9 _) _ rfl _ rfl _ rfl _ rfl _ (Z9 _) _ (Z9 _) _ (Z9 _) _ rfl _ rfl _ (Z9 _))
def ZIe:Prop:=AW (Z2 ZyN) Tryz.f32 ZGi [] (Zf (ZsP.can ()) []) (EQ Tryz.f32 (ZEk ()) [])
theorem ZFT(c33:CT 33 Z6z)(c35:CT 35 Z6y)(c36:CT 36 Z6x)(c37:CT 37 Z6w)(c38:CT 38 Z6v)(hb:∀ (_:Unit),Zcf ()->ZIe):CT 32 Zfn:=
 Z1 (l:=[(33,Z6z),(35,Z6y),(36,Z6x),(37,Z6w),(38,Z6v)]) Ze rfl (⟨c33,c35,c36,c37,c38,trivial⟩) ZGi Tryz.func32 rfl rfl 0 (fun _=> rfl) V2 (fun _=> hb ())
end
theorem c84:Contract Tryz.prog cfg 84 Z1q:=by
 refine ZFC ?_
 intro l _ s
 simp only [Z8N] at s
 refine ZLa _ _ ⟨fun h=> ?_,fun _=> ⟨by simp only [Qp];omega,?_⟩⟩
 .subst h
  simp only [ZpY]
  exact V0
 .simp only [ZpY,Qt]
  exact V0
theorem c33:Contract Tryz.prog cfg 33 Z6z:=by
 refine ZFS c82 c75 ?_
 intro t _ hp
 obtain ⟨⟨s,h2⟩,h3,u⟩:=hp
 dsimp only at s h2 h3 u
 refine ZLv _ _ ?_
 (simp only [vE])
 (simp only [iB,vcT,vcS])
 refine ⟨⟨s,h2⟩,fun h=> ?_,fun _=> ⟨by show Zo t<=_;omega,?_⟩⟩
 .rcases h with h | h
  .rw [h3] at h;cases h
  .exact absurd h u
 .simp only [Zw1]
  exact V0
theorem c35:Contract Tryz.prog cfg 35 Z6y:=by
 refine ZFR ?_
 intro hk hw hc s u _ _
 refine ZLu _ _ _ _ _ _ ⟨(fun h=> by cases h),fun _=> ?_⟩
 simp only [Zw0,ZnD]
 exact V0
theorem c83:Contract Tryz.prog cfg 83 Z1r:=by
 refine ZFD c25 c82 ?_
 intro hk hw hc hd hg e _ hp
 obtain ⟨⟨h1,h2,d,h3⟩,h4,h5⟩:=hp
 dsimp only at h1 h2 h3 h4 h5
 refine ZLb _ _ _ _ _ _ _ ?_
 rintro y1 rfl y2 e2
 (simp only [iB,vcT,vcS])
 have fin:∀ {r:Tree × Int} {s:LSt U},YL y1 (.mk hk hw hc)=r->Y7 cfg Tryz.f83.ntmps Tryz.f83.results.toList (.c (.int .i64 r.2)) [[.int .i64 r.1.kind,.slice .u64 r.1.words .unk,.slice .tree r.1.kids .unk,.slice .edit hd .unk,.slice .edit hg .unk]] .ret s->
   Y7 cfg Tryz.f83.ntmps Tryz.f83.results.toList (ZvT ((hk,hw,hc,hd,hg,()),y1,())) (Znx ((hk,hw,hc,hd,hg,()),y1,())) .ret s:=by
  intro r s h hs
  subst h
  exact hs
 refine ⟨⟨⟨h1,h2,d,h3⟩,V4,h5⟩,fun hn=> ?_,fun hs=> ?_⟩
 .cases hu:doE false y1 (.mk hk hw hc) with
  | some u=> rw [hu] at hn;cases hn
  | none=> exact fin (r:=(.mk hk hw hc,13)) (by unfold YL;rw [hu]) V0
 .obtain ⟨u,hu⟩:=ZvL hs
  have e3:y2=Z0 u:=by rw [e2,hu];try rfl
  rw [e3]
  have hm:=Z5S false _ d _ _ h3 hu
  have ax:=Ym u
  refine ⟨⟨V4,Z0i _ (Z6H false _ _ _ h2 h5 hu)⟩,fun hr=> ?_,fun hr=> ?_⟩
  .exact fin (r:=(.mk hk hw hc,3)) (by unfold YL;rw [hu];exact if_neg (by rw [hr];decide)) V0
  .rw [hu]
   exact fin (r:=(Z0 u,0)) (Z9W hu hr) V0
theorem c36:Contract Tryz.prog cfg 36 Z6x:=by
 refine ZFQ c28 Zhl.1 c83 c84 ?_
 intro hk u hc hd hg e _ hp
 obtain ⟨⟨h1,h2⟩,h3⟩:=hp
 dsimp only at h1 h2 h3
 refine ZLt _ _ _ _ _ _ _ ?_
 rintro y1 rfl y2 rfl
 (simp only [iB,vcT,vcS])
 have fin:∀ {r:Hist × Int} {s:LSt U},doN y1 ⟨.mk hk u hc,hd,hg⟩=r->Y7 cfg Tryz.f36.ntmps Tryz.f36.results.toList (.c (.int .i64 r.2)) [[.int .i64 r.1.now.kind,.slice .u64 r.1.now.words .unk,.slice .tree r.1.now.kids .unk,.slice .edit r.1.done .unk,.slice .edit r.1.gone .unk]] .ret s->
   Y7 cfg Tryz.f36.ntmps Tryz.f36.results.toList (ZvZ ((hk,u,hc,hd,hg,()),y1,())) (ZnC ((hk,u,hc,hd,hg,()),y1,())) .ret s:=by
  intro r s h hs
  subst h
  exact hs
 refine ⟨(fun h=> by cases h),h1,fun hr=> ?_,fun hr=> ?_⟩
 .exact fin (r:=(⟨.mk hk u hc,hd,hg⟩,2)) (by unfold doN;exact if_neg (by rw [hr];decide)) V0
 .refine ⟨⟨V4,64,hr⟩,h2 hr,fun h0=> ?_,fun h0=> ⟨by dsimp only [Z8N];omega,by simp only [List.length_cons,List.length_nil];omega,?_⟩⟩
  .rw [Ze3 h0]
   exact fin (r:=(⟨.mk hk u hc,hd,hg⟩,(YL (Zj y1) (.mk hk u hc)).2)) (by unfold doN;rw [if_pos hr];exact if_neg h0) V0
  .exact fin (r:=(⟨(YL (Zj y1) (.mk hk u hc)).1,hd++[Zj y1],[]⟩,0)) (by unfold doN;rw [if_pos hr];exact if_pos h0) V0
theorem ZqY(l:List Edit):l.getD (((l.length:Int) - 1).toNat) Edit.nil=Z01 l:=by
 unfold Z01
 congr 1
 omega
theorem ZiJ{l:List Edit}(h:l.length≠0):Z01 l∈l:=Zk JX _
theorem c37:Contract Tryz.prog cfg 37 Z6w:=by
 refine ZFP c83 c84 c85 ?_
 intro hk u hc hd hg _ hp
 obtain ⟨h1,h2,h3⟩:=hp
 dsimp only at h1 h2 h3
 refine ZLs _ _ _ _ _ _ ?_
 rintro y1 ae y2 rfl y3 rfl
 rw [ZqY] at ae
 subst ae
 (simp only [iB,vcT,vcS])
 have fin:∀ {r:Hist × Bool} {s:LSt U},Z1b ⟨.mk hk u hc,hd,hg⟩=r->Y7 cfg Tryz.f37.ntmps Tryz.f37.results.toList (.c (.bool r.2)) [[.int .i64 r.1.now.kind,.slice .u64 r.1.now.words .unk,.slice .tree r.1.now.kids .unk,.slice .edit r.1.done .unk,.slice .edit r.1.gone .unk]] .ret s->
   Y7 cfg Tryz.f37.ntmps Tryz.f37.results.toList (ZvY ((hk,u,hc,hd,hg,()),())) (ZnB ((hk,u,hc,hd,hg,()),())) .ret s:=by
  intro r s h hs
  subst h
  exact hs
 have af:¬(hd.length:Int)=0->Z01 hd∈hd:=fun h=> ZiJ JX
 refine ⟨fun h=> ?_,fun h=> ⟨V1,⟨JX,JX⟩,(h1 _ (af h)).1,(h1 _ (af h)).2,fun h0=> ?_,fun h0=> ⟨⟨JX,JX⟩,by dsimp only [Z8N];omega,by simp only [List.length_cons,List.length_nil];omega,?_⟩⟩⟩
 .have h:hd.length=0:=by rcases h with h | h;cases h;omega
  exact fin (r:=(⟨.mk hk u hc,hd,hg⟩,false)) (by unfold Z1b;exact if_pos h) V0
 .rw [Ze3 h0]
  exact fin (r:=(⟨.mk hk u hc,hd,hg⟩,false)) (by unfold Z1b;rw [if_neg V4];exact if_neg h0) V0
 .rw [show (((hd.length:Int) - 1).toNat)=hd.length - 1 by omega]
  exact fin (r:=(⟨(YL (Zj (Zn (Z01 hd))) (.mk hk u hc)).1,hd.take (hd.length - 1),hg++[Z01 hd]⟩,true)) (by unfold Z1b;rw [if_neg V4];exact if_pos h0) V0
theorem c38:Contract Tryz.prog cfg 38 Z6v:=by
 refine ZFO c83 c84 ?_
 intro hk hw hc u hg _ hp
 obtain ⟨h1,h2,h3⟩:=hp
 dsimp only at h1 h2 h3
 refine ZLr _ _ _ _ _ _ ?_
 rintro y1 ae y2 rfl
 rw [ZqY] at ae
 subst ae
 (simp only [iB,vcT,vcS])
 have fin:∀ {r:Hist × Bool} {s:LSt U},Z0Q ⟨.mk hk hw hc,u,hg⟩=r->Y7 cfg Tryz.f38.ntmps Tryz.f38.results.toList (.c (.bool r.2)) [[.int .i64 r.1.now.kind,.slice .u64 r.1.now.words .unk,.slice .tree r.1.now.kids .unk,.slice .edit r.1.done .unk,.slice .edit r.1.gone .unk]] .ret s->
   Y7 cfg Tryz.f38.ntmps Tryz.f38.results.toList (ZvX ((hk,hw,hc,u,hg,()),())) (ZnA ((hk,hw,hc,u,hg,()),())) .ret s:=by
  intro r s h hs
  subst h
  exact hs
 have ah:¬(hg.length:Int)=0->Z01 hg∈hg:=fun h=> ZiJ JX
 refine ⟨fun h=> ?_,fun h=> ⟨V1,⟨JX,JX⟩,h1 _ (ah h),fun h0=> ?_,fun h0=> ⟨by dsimp only [Z8N];omega,by simp only [List.length_cons,List.length_nil];omega,⟨JX,JX⟩,?_⟩⟩⟩
 .have h:hg.length=0:=by rcases h with h | h;cases h;omega
  exact fin (r:=(⟨.mk hk hw hc,u,hg⟩,false)) (by unfold Z0Q;exact if_pos h) V0
 .rw [Ze3 h0]
  exact fin (r:=(⟨.mk hk hw hc,u,hg⟩,false)) (by unfold Z0Q;rw [if_neg V4];exact if_neg h0) V0
 .rw [show (((hg.length:Int) - 1).toNat)=hg.length - 1 by omega]
  exact fin (r:=(⟨(YL (Z01 hg) (.mk hk hw hc)).1,u++[Z01 hg],hg.take (hg.length - 1)⟩,true)) (by unfold Z0Q;rw [if_neg V4];exact if_pos h0) V0
def atT(n:Int):Tree:= .mk 1 [n] []
def Z8F:Edit:= .mk 2 Tree.nil Tree.nil [⟨0,1,1,2⟩] [] 0 []
theorem ZvP:doE false Z8F (atT 1)=some (atT 2):=by
 unfold Z8F atT
 rw [ZrV,if_pos (show (Tree.mk 1 [1] []).kind=1 from rfl)]
 try rfl
theorem Z4m:Y4 Z8F/\Z3 Z8F 64=true/\Zj Z8F=Z8F:=by
 have z:=Z06
 have i0:InR 0:=Yk V2 V2
 refine ⟨⟨V2,⟨Yk V2 V2,z,z,fun w h=> ?_,i0,trivial,trivial⟩,64,rfl⟩,rfl,?_⟩
 .rw [Qg.1 h]
  exact ⟨Yk V2 V2,⟨V2,V2⟩,⟨V2,V2⟩,⟨V2,V2⟩⟩
 .unfold Z8F
  rw [ZFw]
  try rfl
theorem ZEH{n:Int}(h:n=1\/n=2):St42 (atT n):=by
 have g:∀ n:Int,isW n->rng (atT n):=fun n s=> ⟨Yk V2 V2,fun x u=> by rw [Qg.1 u];exact s,trivial⟩
 rcases h with rfl | rfl
 .exact ⟨rfl,g 1 ⟨V2,V2⟩,rfl,V2⟩
 .exact ⟨rfl,g 2 ⟨V2,V2⟩,rfl,V2⟩
theorem c32:Contract Tryz.prog cfg 32 Zfn:=by
 refine ZFT c33 c35 c36 c37 c38 ?_
 intro _ _
 refine ZLw _ ?_
 rintro y1 e1 y2 e2 y3 e3 y4 e4 y5 e5 y6 rfl y7 e7 y8 rfl y9 e9 ao h am aa
 have s1:=ZEH (n:=1) (.inl rfl)
 have s2:=ZEH (n:=2) (.inr rfl)
 have P:Path (atT 1) [Z8F] (atT 2):= .cons s1 Z4m.1 ZvP (.nil s2)
 have d:doN Z8F ⟨atT 1,[],[]⟩=(⟨atT 2,[Z8F],[]⟩,0):=by
  unfold doN
  rw [if_pos Z4m.2.1,Z4m.2.2,Z9W ZvP s2.r,if_pos rfl]
  try rfl
 have u:Z1b ⟨atT 2,[Z8F],[]⟩=(⟨atT 1,[],[Z8F]⟩,true):=by
  obtain ⟨s,h1,_,h2⟩:=Zt3 (es:=[]) (gs:=[]) P
  cases h1
  exact h2
 have r:Z0Q ⟨atT 1,[],[Z8F]⟩=(⟨atT 2,[Z8F],[]⟩,true):=by
  obtain ⟨m,h1,h3,h2⟩:=Ztk (es:=[]) (gs:=[]) P
  cases h3
  exact h2
 have e1:y1=atT 1:=e1
 have e2:y2=Z8F:=e2
 subst e1 e2
 rw [d] at e3 e4 e5 ⊢
 subst e3 e4 e5
 dsimp only at e7 h ⊢
 rw [u] at e7 h ⊢
 subst e7
 dsimp only at e9 h ⊢
 subst h
 rw [r] at aa ⊢
 subst aa e9
 refine ⟨⟨⟨V2,s1.g⟩,rfl,V2⟩,⟨⟨⟨V2,Z4m.1.2.1⟩,fun _=> ?_⟩,V2⟩,⟨fun e he=> ?_,V2,V2⟩,trivial,⟨fun e he=> ?_,V2,V2⟩,trivial,?_⟩
 .show Z6q (Zj Z8F) (atT 1)
  rw [Z4m.2.2]
  exact Zjj Z4m.1 s1
 .rw [Qg.1 he]
  have:=YI Z4m.1
  exact ⟨⟨JX,64,Z4m.2.1⟩,Zjj (Zje Z4m.1) s2⟩
 .rw [Qg.1 he]
  exact Zjj Z4m.1 s1
 .simp only [Tr]
  repeat' (first | exact (fun x=> x) | exact (fun _=> ⟨V2,V2⟩) | exact Z5 rfl rfl | apply And.intro)
noncomputable section
def Zp3:ArgM ((Int × List Int × List Tree × List Edit × List Edit × Unit) × Int × Unit):=(.obj 0 (.cons (Z67 .i64) (.cons (cSl .u64) (.cons (cSl .tree) (.cons (cSl .edit) (.cons (cSl .edit) .nil))))) (.cons (Jj .i64) .nil))
def ZwO(a:(Int × List Int × List Tree × List Edit × List Edit × Unit) × Int × Unit):Prop:=ZoM a.2.1 (Hist.mk (Tree.mk a.1.1 a.1.2.1 a.1.2.2.1) a.1.2.2.2.1 a.1.2.2.2.2.1)
def ZvW(a:(Int × List Int × List Tree × List Edit × List Edit × Unit) × Int × Unit):V U:= .c (ci ((Z6g a.2.1 (Hist.mk (Tree.mk a.1.1 a.1.2.1 a.1.2.2.1) a.1.2.2.2.1 a.1.2.2.2.2.1)).2))
def Znz(a:(Int × List Int × List Tree × List Edit × List Edit × Unit) × Int × Unit):List (List (C U)):=[(enc .tree (Hist.now ((Z6g a.2.1 (Hist.mk (Tree.mk a.1.1 a.1.2.1 a.1.2.2.1) a.1.2.2.2.1 a.1.2.2.2.2.1)).1))++[sU .edit (Hist.done ((Z6g a.2.1 (Hist.mk (Tree.mk a.1.1 a.1.2.1 a.1.2.2.1) a.1.2.2.2.1 a.1.2.2.2.2.1)).1)) .unk,sU .edit (Hist.gone ((Z6g a.2.1 (Hist.mk (Tree.mk a.1.1 a.1.2.1 a.1.2.2.1) a.1.2.2.2.1 a.1.2.2.2.2.1)).1)) .unk])]
def Zfm:Fs U:=fsX Zp3 (fun a=> [ZwO a]) ZvW Znz
def ZwN(a:(Int × List Int × List Tree × List Edit × List Edit × Unit) × Unit):Prop:=(∀ x∈a.1.2.2.2.1,Y4 x)/\ctL a.1.2.2.2.1<=8000000000
def ZvV(a:(Int × List Int × List Tree × List Edit × List Edit × Unit) × Unit):V U:= .agg (enc .edit ((Z6d a.1.2.2.2.1).1))
def Zfl:Fs U:=fsX Zp7 (fun a=> [ZwN a]) ZvV ZnD
def Zn8:ArgL (Deed × Tree × Unit):=(.cons (aEl .deed) (.cons (aEl .tree) .nil))
def Zk2(a:Deed × Tree × Unit):Prop:=(Z2x (Deed.e a.1)/\ZZ (Deed.e a.1))/\Z3q a.2.1
def Zq2(a:Deed × Tree × Unit):V U:= .c (.bool (Zc1 a.1 a.2.1))
def Z6C:Fs U:=fs Zn8 (fun a=> [Zk2 a]) Zq2
def ZEI:ArgL (Tree × List Deed × Unit):=(.cons (aEl .tree) (.cons (aSl .deed) .nil))
def pre6(a:Tree × List Deed × Unit):Prop:=(Z3q a.1/\rng a.1)/\∀ d∈a.2.1,Z2x (Deed.e d)/\ZZ (Deed.e d)
def ZKe(a:Tree × List Deed × Unit):V U:= .c (.bool true)
def Zpp:Fs U:=fs ZEI (fun a=> [pre6 a]) ZKe
def ZoE:List (FuncId × Fs U):=[(85,Z13),(16,Zfr),(83,Z1r),(84,Z1q)]
def ZBY:Za U:=lvk [([0,1],[((.x 0),[])]),([0,1,13],[((.x 0),[])]),([4],[((.x 0),[])]),([0,1,16],[((.x 0),[])]),([4],[((.x 0),[])]),([0,1,5],[5,((.x 0),[])]),([0,1,5,6],[5,((.x 0),[])]),([0,5,6,49,50,51],[5,((.x 0),[])]),([0,5,6,49,50,51,52],[5,((.x 0),[])]),([0,5,6,8,49,50,51],[5,8,((.x 0),[])]),([0,5,6,9,10,11,49,50,51],[5,9,10,((.x 0),[])]),([0,5,6,9,10,11,49,50,51,63],[5,9,10,((.x 0),[])]),([4],[((.x 0),[])]),([0,5,6,49,50,51],[5,((.x 0),[])]),([0,5,6,49,50,51],[5,((.x 0),[])]),([0,6,12],[((.x 0),[])]),([0,6,12,75],[((.x 0),[])]),([4],[((.x 0),[])]),([],[((.x 0),[])]),([4],[((.x 0),[])])]
def Zbz(hk:Int)(hw:List Int)(hc:List Tree)(hd hg:List Edit)(i:Int)(x6:List Edit)(al ab s:Int)(af:List Int)(ah:List Tree)(u:Int)(ak:List Int)(ae:List Tree)(aa:List WEdit)(ai:List Kid)(aj:Int)(h:List Op):LSt U:=(L2 [(0,.ptr (.x 0) 0),pL 5,(6,.c (sU .edit x6 (.own (.e 6 0)))),(49,.c (sU .edit (List.drop (Int.toNat ((i:Int)+1)) hd) .unk)),(50,.c (ci ((List.drop (Int.toNat ((i:Int)+1)) hd).length:Int))),pI 51 al] [(.loc 5,[ci ab,ci s,sU .u64 af .unk,sU .tree ah .unk,ci u,sU .u64 ak .unk,sU .tree ae .unk,sU .wedit aa .unk,sU .kid ai .unk,ci aj,sU .op h .unk]),(.x 0,[ci hk,sU .u64 hw .unk,sU .tree hc .unk,sU .edit hd .unk,sU .edit hg .unk])])
abbrev A39(p:List Nat):=AW (Z2 ZoE) Tryz.f39 ZBY p
abbrev S39(p:List Nat):=SW (Z2 ZoE) Tryz.f39 ZBY p
theorem ZLq(hk:Int)(hw:List Int)(hc:List Tree)(hd hg:List Edit)(i:Int)(Q:QT)(h:∀ u,u=(hd.getD i.toNat Edit.nil)->∀ s,s=u->let z1:= !(decide (i < 0));let z0:=Zj (Zn s);(iB false ((Q .ret (L2 [pI 4 1] [(.x 0,[ci hk,sU .u64 hw .unk,sU .tree hc .unk,sU .edit hd .unk,sU .edit hg .unk])]))) ((Tt z1)/\(Tt z1)/\(Tt z1)/\(Tt z1)/\(Tt z1)/\(Tt z1)/\((decide (i < 0))=false->z1=true)/\(iB (bif (decide (i < 0)) then true else (decide (((hd.length:Int):Int)<=i))) ((Q .ret (L2 [pI 4 2] [(.x 0,[ci hk,sU .u64 hw .unk,sU .tree hc .unk,sU .edit hd .unk,sU .edit hg .unk])]))) (((0:Int)<=i/\i < (hd.length:Int))/\(Z1g (s,()))/\(((0:Int)<=i/\i<=(hd.length:Int))/\(Z8N ((List.take i.toNat hd),()))/\((InR (i+1))/\((0:Int)<=(i+1)/\(i+1)<=(hd.length:Int))/\(Zp (A39 [1,1,1,1,0,1,0,0]) (Zbz hk hw hc hd hg i (List.take i.toNat hd) 0 (Edit.kind z0) (Tree.kind (Edit.old z0)) (Tree.words (Edit.old z0)) (Tree.kids (Edit.old z0)) (Tree.kind (Edit.new z0)) (Tree.words (Edit.new z0)) (Tree.kids (Edit.new z0)) (Edit.words z0) (Edit.kids z0) (Edit.list z0) (Edit.ops z0)) (xB 1 (S39 [1,1,1,1,1] Q)))))))))):
  A39 [] (L2 [(0,.ptr (.x 0) 0),pI 1 i] [(.x 0,[ci hk,sU .u64 hw .unk,sU .tree hc .unk,sU .edit hd .unk,sU .edit hg .unk])]) Q:=
 (Eq.mpr V3 (h _ rfl _ (Z7 _)):)
theorem ZAe(hk:Int)(hw:List Int)(hc:List Tree)(hd hg:List Edit)(i:Int)(x6:List Edit)(aa ai ae:Int)(ak:List Int)(al:List Tree)(af:Int)(aq:List Int)(aj:List Tree)(ah:List WEdit)(am:List Kid)(ao:Int)(ab:List Op)(N0:NT)(Q:QT)(h:∀ au,au=(List.getD (List.drop (Int.toNat (i+1)) hd) aa.toNat Edit.nil)->∀ s,s=(Edit.mk ai (Tree.mk ae ak al) (Tree.mk af aq aj) ah am ao ab)->∀ u,u=au->∀ ar,ar=((lbN u s).1)->let z3:=List.drop (Int.toNat (i+1)) hd;let z2:=Edit.new ((lbN u s).2.1);let z1:=Edit.old ((lbN u s).2.1);let z0:=YL s (Tree.mk hk hw hc);(iB (decide (aa < (z3.length:Int))) (((0:Int)<=aa/\aa < (z3.length:Int))/\((ZwP (u,s,()))/\(iB ((((lbN u s).2.2):Int) !=0) ((Q .ret (L2 [pI 4 ((lbN u s).2.2)] [(.x 0,[ci hk,sU .u64 hw .unk,sU .tree hc .unk,sU .edit hd .unk,sU .edit hg .unk])]))) (((x6.length+([ar]).length)*200<=140737488355328)/\((InR (aa+1))/\(N0 (Zbz hk hw hc hd hg i (x6++([ar])) (aa+1) (Edit.kind ((lbN u s).2.1)) (Tree.kind z1) (Tree.words z1) (Tree.kids z1) (Tree.kind z2) (Tree.words z2) (Tree.kids z2) (Edit.words ((lbN u s).2.1)) (Edit.kids ((lbN u s).2.1)) (Edit.list ((lbN u s).2.1)) (Edit.ops ((lbN u s).2.1))))))))) ((Zif ((hk,hw,hc,hd,hg,()),s,()))/\(iB (((z0.2):Int) !=0) ((Q .ret (L2 [pI 4 (z0.2)] [(.x 0,(enc .tree (z0.1)++[sU .edit hd .unk,sU .edit hg .unk]))]))) ((Q .ret (L2 [pI 4 0] [(.x 0,(enc .tree (z0.1)++[sU .edit x6 (.own (.x 0 3)),.nils]))]))))))):
  A39 [1,1,1,1,0,1,0,0] (Zbz hk hw hc hd hg i x6 aa ai ae ak al af aq aj ah am ao ab) (xT N0 (xB 1 (S39 [1,1,1,1,1] Q))):=
 (Eq.mpr V3 (h _ rfl _ rfl _ (Z7 _) _ (Z7 _)):)
abbrev ZI8(hk:Int)(hw:List Int)(hc:List Tree)(hd hg:List Edit)(i:Int):Prop:=AW (Z2 ZoE) Tryz.f39 ZBY [] (Zf (Zp3.can ((hk,hw,hc,hd,hg,()),i,())) (Zp3.canX ((hk,hw,hc,hd,hg,()),i,()))) (EQ Tryz.f39 (ZvW ((hk,hw,hc,hd,hg,()),i,())) (Znz ((hk,hw,hc,hd,hg,()),i,())))
theorem ZFN(c85:CT 85 Z13)(c16:CT 16 Zfr)(c83:CT 83 Z1r)(c84:CT 84 Z1q)(hb:∀ (hk:Int) (u:List Int) (hc:List Tree) (h:List Edit) (s:List Edit) (i:Int) (_:Unit),ZwO ((hk,u,hc,h,s,()),i,())->ZI8 hk u hc h s i):CT 39 Zfm:=
 Zv (l:=[(85,Z13),(16,Zfr),(83,Z1r),(84,Z1q)]) Ze rfl (⟨c85,c16,c83,c84,trivial⟩) ZBY Tryz.func39 rfl rfl 2 (fun _=> rfl) V2 (fun ⟨⟨hk,u,hc,h,s,_⟩,i,_⟩=> hb hk u hc h s i ())
def ZyH:List (FuncId × Fs U):=[(20,Zfq)]
def ZGc:Za U:=lvk [([0,2],[2,((.x 0),[])]),([0,2,6],[2,((.x 0),[])]),([2],[2,((.x 0),[])]),([2,3],[2,3,((.x 0),[])]),([2],[2,((.x 0),[])])]
abbrev A40(p:List Nat):=AW (Z2 ZyH) Tryz.f40 ZGc p
theorem ZLp(hk:Int)(hw:List Int)(hc:List Tree)(hd hg:List Edit)(Q:QT)(h:(iB false ((Q .ret (L2 [pL 2] [(.loc 2,zc1),(.x 0,[ci hk,sU .u64 hw .unk,sU .tree hc .unk,sU .edit hd .unk,sU .edit hg .unk])]))) ((Zqk (hd,()))/\(Q .ret (L2 [pL 2] [(.loc 2,(enc .edit ((Z6d hd).1))),(.x 0,[ci hk,sU .u64 hw .unk,sU .tree hc .unk,sU .edit hd .unk,sU .edit hg .unk])]))))):
  A40 [] (L2 [(0,.ptr (.x 0) 0)] [(.x 0,[ci hk,sU .u64 hw .unk,sU .tree hc .unk,sU .edit hd .unk,sU .edit hg .unk])]) Q:=
 (Eq.mpr V3 h:)
abbrev ZI7(hk:Int)(hw:List Int)(hc:List Tree)(hd hg:List Edit):Prop:=AW (Z2 ZyH) Tryz.f40 ZGc [] (Zf (Zp7.can ((hk,hw,hc,hd,hg,()),())) (Zp7.canX ((hk,hw,hc,hd,hg,()),()))) (EQ Tryz.f40 (ZvV ((hk,hw,hc,hd,hg,()),())) (ZnD ((hk,hw,hc,hd,hg,()),())))
theorem ZFM(c20:CT 20 Zfq)(hb:∀ (hk:Int) (u:List Int) (hc:List Tree) (h:List Edit) (s:List Edit) (_:Unit),ZwN ((hk,u,hc,h,s,()),())->ZI7 hk u hc h s):CT 40 Zfl:=
 Zv (l:=[(20,Zfq)]) Ze rfl (⟨c20,trivial⟩) ZGc Tryz.func40 rfl rfl 1 (fun _=> rfl) V2 (fun ⟨⟨hk,u,hc,h,s,_⟩,_⟩=> hb hk u hc h s ())
def ZmE:List (FuncId × Fs U):=[(45,Z6u),(64,Z6t),(65,Z6s),(30,Z6A)]
def Zol:Za U:=lvl [([2,3],[2,3]),([4],[])]
abbrev ZL5(p:List Nat):=AW (Z2 ZmE) Tryz.f34 Zol p
theorem ZFa(d:Deed)(t:Tree)(Q:QT)(h:∀ u,u=t->∀ s,s=(Deed.e d)->let z5:= !(Z3 s 64);let z3:=decide (((Deed.kind d):Int) < 0);let z1:=decide (0<=Z0D s 80 3000);let z0:=bif z3 then true else (decide ((3:Int) < (Deed.kind d)));let z4:=((!z0) && z1) && (!z5);let z2:=bif z0 then true else (bif z1 then (bif z5 then true else (Z1V s)) else false);((Tt (!z3))/\(Tt (!z3))/\(z3=false->(!z3)=true)/\(Tt (!z0))/\(Tt (!z0))/\((!z0)=true->Zqd (s,()))/\(Tt (!z0))/\(Tt ((!z0) && z1))/\(Tt ((!z0) && z1))/\(((!z0) && z1)=true->ZaJ (s,64,()))/\(Tt ((!z0) && z1))/\(Tt ((!z0) && z1))/\(Tt z4)/\(Tt z4)/\(z4=true->Zdb (s,()))/\(((!z0) && z1)=true->(True->((!z0) && z1)=true))/\(((!z0) && z1)=true->(z5=false->z4=true))/\((!z0)=true->(True->(!z0)=true))/\((!z0)=true->(z1=true->((!z0) && z1)=true))/\(z0=false->(!z0)=true)/\(Tt z2)/\(z2=true->Zqi (u,()))/\(Tt z2)/\(Q .ret (L2 [(4,.c (.bool (bif z2 then (decide (0<=ZK u 80 3000)) else false)))] [])))):
  ZL5 [] (L2 [(0,.agg (enc .deed d)),(1,.agg (enc .tree t))] []) Q:=
 (Eq.mpr V3 (h _ (Z9 _) _ (Z7 _)):)
abbrev ZzM(d:Deed)(t:Tree):Prop:=AW (Z2 ZmE) Tryz.f34 Zol [] (Zf (Zn8.can (d,t,())) []) (EQ Tryz.f34 (Zq2 (d,t,())) [])
theorem Zxh(c45:CT 45 Z6u)(c64:CT 64 Z6t)(c65:CT 65 Z6s)(c30:CT 30 Z6A)(hb:∀ (d:Deed) (t:Tree) (_:Unit),Zk2 (d,t,())->ZzM d t):CT 34 Z6C:=
 Z1 (l:=[(45,Z6u),(64,Z6t),(65,Z6s),(30,Z6A)]) Ze rfl (⟨c45,c64,c65,c30,trivial⟩) Zol Tryz.func34 rfl rfl 2 (fun _=> rfl) V2 (fun ⟨d,t,_⟩=> hb d t ())
def ZyF:List (FuncId × Fs U):=[(30,Z6A),(31,Zao),(32,Zfn),(33,Z6z),(34,Z6C),(35,Z6y),(36,Z6x),(37,Z6w),(38,Z6v),(39,Zfm),(40,Zfl),(14,Zfs),(25,JD),(26,Zfp)]
def lv6:Za U:=lvl [([1,2],[2]),([1,2,22],[2]),([4],[]),([1,2,5],[2,25]),([1,2,5,6],[2,25]),([1,2,5,6,33],[2,25]),([1,2,5,6],[2,25]),([1,2,5,6,43],[2,25]),([4],[]),([1,2,5,6,49],[2,25]),([1,2,5,6,49,50],[2,25]),([1,2,5,6,49,50],[2,25]),([1,2,5,6,49,50],[2,25]),([1,2,5,6,49,50],[2,25]),([1,2,5,6,71],[2,25]),([1,2,5,6,49,62],[2,25]),([1,2,5,6,49,62],[2,25]),([1,2,5,6,71],[2,25]),([1,2,5,6,49,67],[2,25]),([1,2,5,6,71],[2,25]),([1,2,5,6,71],[2,25]),([1,2,5,6,71],[2,25]),([2,5,7],[2,7,25]),([2,5,7,84],[2,7,25]),([4],[]),([5,8,9],[8,25]),([4],[])]
def Z2W(t:Tree)(l:List Deed)(x6 s:Int)(h:List Int)(u:List Tree)(aa ab:List Edit):LSt U:=(L2 [(1,.c (sU .deed l .unk)),pL 2,(5,.ptr (.loc 25) 0),pI 6 x6] [(.loc 2,(enc .tree t)),(.loc 25,[ci s,sU .u64 h .unk,sU .tree u .unk,sU .edit aa .unk,sU .edit ab .unk])])
def Z7Y(t:Tree)(l:List Deed)(x6 s:Int)(h:List Int)(u:List Tree)(aa ab:List Edit)(ae:Bool):LSt U:=(L2 [(1,.c (sU .deed l .unk)),pL 2,(5,.ptr (.loc 25) 0),pI 6 x6,pI 49 (Deed.kind (l.getD x6.toNat (Deed.mk 0 0 Edit.nil))),pB 50 ae] [(.loc 2,(enc .tree t)),(.loc 25,[ci (Tree.kind (Tree.mk s h u)),sU .u64 (Tree.words (Tree.mk s h u)) .unk,sU .tree (Tree.kids (Tree.mk s h u)) .unk,sU .edit aa .unk,sU .edit ab .unk])])
def Z5Y(t:Tree)(l:List Deed)(x6 aa:Int)(u:List Int)(h:List Tree)(s ab:List Edit)(ae:V U):LSt U:=(L2 [(1,.c (sU .deed l .unk)),pL 2,(5,.ptr (.loc 25) 0),pI 6 x6,(71,ae)] [(.loc 2,(enc .tree t)),(.loc 25,[ci aa,sU .u64 u .unk,sU .tree h .unk,sU .edit s .unk,sU .edit ab .unk])])
def ZeH(t:Tree)(l:List Deed)(x6 s:Int)(h:List Int)(u:List Tree)(aa ab:List Edit)(ae:Bool):LSt U:=(L2 [(1,.c (sU .deed l .unk)),pL 2,(5,.ptr (.loc 25) 0),pI 6 x6,pI 49 (Deed.kind (l.getD x6.toNat (Deed.mk 0 0 Edit.nil))),pB 62 ae] [(.loc 2,(enc .tree t)),(.loc 25,[ci (Tree.kind (Tree.mk s h u)),sU .u64 (Tree.words (Tree.mk s h u)) .unk,sU .tree (Tree.kids (Tree.mk s h u)) .unk,sU .edit aa .unk,sU .edit ab .unk])])
abbrev A6(p:List Nat):=AW (Z2 ZyF) Tryz.f6 lv6 p
abbrev S6(p:List Nat):=SW (Z2 ZyF) Tryz.f6 lv6 p
theorem vc6(t:Tree)(l:List Deed)(Q:QT)(h:∀ s,s=t->let z0:= !(decide (0<=ZK s 80 3000));let z1:=bif z0 then true else (!(Zd s 64));((Zqi (s,()))/\(Tt (!z0))/\((!z0)=true->Z6V (s,64,()))/\(Tt (!z0))/\(z0=false->(!z0)=true)/\(Tt (!z1))/\(Tt (!z1))/\(z1=false->(!z1)=true)/\(iB (bif z1 then true else (t.kind==10)) ((Zcf ())/\(Q .ret (L2 [pB 4 true] []))) ((Zqh (s,()))/\(Zp (A6 [1,1,1,0,1,0,0]) (Z2W t l 0 (Tree.kind (Z0 s)) (Tree.words (Z0 s)) (Tree.kids (Z0 s)) ([]:List Edit) ([]:List Edit)) (xB 0 (S6 [1,1,1,1] Q))))))):
  A6 [] (L2 [(0,.agg (enc .tree t)),(1,.c (sU .deed l .unk))] []) Q:=
 (Eq.mpr V3 (h _ (Z9 _)):)
theorem ZF6(t:Tree)(l:List Deed)(x6 u:Int)(s:List Int)(aa:List Tree)(ab ae:List Edit)(N0:NT)(Q:QT)(h:∀ aj,aj=t->∀ af,af=((Z6d ab).1)->∀ am,am=(Tree.mk u s aa)->∀ aq,aq=(Tree.mk u s aa)->∀ ah,ah=(l.getD x6.toNat (Deed.mk 0 0 Edit.nil))->∀ ak,ak=ah->∀ ao,ao=aq->∀ al,al=(Z1h ((doE false af aj).map Z0))->let z7:=((Deed.kind ah):Int)==2;let z6:=((Deed.kind ah):Int)==1;let z5:=((Deed.kind ah):Int)==0;let z4:=Tree.mk u s aa;let z3:=decide (x6 < (l.length:Int));let z1:=doE false af aj;let z2:=bif (z1.isSome) then (Yf al ao) else false;let z0:=xB 2 (xB 1 (S6 [1,1,1,0,1,0,0,1,1] (xT N0 (xB 0 (S6 [1,1,1,1] Q)))));(Tt z3)/\(Tt z3)/\(iB (bif z3 then (decide (x6 < 20)) else false) (((0:Int)<=x6/\x6 < (l.length:Int))/\(Zii ((u,s,aa,ab,ae,()),()))/\(Zk2 (ak,am,()))/\(iB (!(Zc1 ak am)) ((Zcf ())/\(Q .ret (L2 [pB 4 true] []))) (((0:Int)<=x6/\x6 < (l.length:Int))/\(iB z5 (A6 [1,1,1,0,1,0,0,1,0,0,1,1,0,1] (Z7Y t l x6 u s aa ab ae z5) z0) ((iB z6 (A6 [1,1,1,0,1,0,0,1,0,0,1,1,0,1] (Z7Y t l x6 u s aa ab ae z6) z0) ((iB z7 (A6 [1,1,1,0,1,0,0,1,0,0,1,1,0,1] (Z7Y t l x6 u s aa ab ae z7) z0) ((A6 [1,1,1,0,1,0,0,1,0,0,1,1,0,1] (Z7Y t l x6 u s aa ab ae (((Deed.kind ah):Int)==3)) z0)))))))))) ((ZwN ((u,s,aa,ab,ae,()),()))/\((Zql (af,()))/\(iB (!(Z2X af)) ((Zcf ())/\(Q .ret (L2 [pB 4 true] []))) ((Z4N (af,aj,()))/\((Tt (z1.isSome))/\((z1.isSome)=true->Zii (((Tree.kind z4),(Tree.words z4),(Tree.kids z4),ab,ae,()),()))/\(Tt (z1.isSome))/\(Tt (z1.isSome))/\((z1.isSome)=true->ZfZ (al,ao,()))/\(Tt (z1.isSome))/\(z2=true->Zcf ())/\(Tt z2)/\(Q .ret (L2 [(4,.c (.bool (bif z2 then true else false)))] []))))))))):
  A6 [1,1,1,0,1,0,0] (Z2W t l x6 u s aa ab ae) (xT N0 (xB 0 (S6 [1,1,1,1] Q))):=
 (Eq.mpr V3 (h _ (Z9 _) _ (Z7 _) _ (Z9 _) _ (Z9 _) _ rfl _ (Ztm _) _ (Z9 _) _ (Z9 _)):)
theorem ZF9(t:Tree)(l:List Deed)(x6 u:Int)(s:List Int)(aa:List Tree)(ab ae:List Edit)(af:Bool)(N0:NT)(Q:QT)(h:∀ ak,ak=(Tree.mk u s aa)->∀ ah,ah=(l.getD x6.toNat (Deed.mk 0 0 Edit.nil))->∀ ai,ai=(Deed.e ah)->let z4:=((Deed.kind ah):Int)==4;let z3:=xT N0 (xB 0 (S6 [1,1,1,1] Q));let z2:=Tree.mk u s aa;let z1:=xB 2 (xB 1 (S6 [1,1,1,0,1,0,0,1,1] z3));let z0:=doN ai (Hist.mk ak ab ae);iB af (((0:Int)<=x6/\x6 < (l.length:Int))/\(Zqg (((Tree.kind z2),(Tree.words z2),(Tree.kids z2),ab,ae,()),ai,()))/\(A6 [1,1,1,0,1,0,0,1,1] (Z5Y t l x6 (Tree.kind (Hist.now (z0.1))) (Tree.words (Hist.now (z0.1))) (Tree.kids (Hist.now (z0.1))) (Hist.done (z0.1)) (Hist.gone (z0.1)) .junk) z3)) ((iB z4 (A6 [1,1,1,0,1,0,0,1,0,0,1,1,0,1,1,1] (ZeH t l x6 u s aa ab ae z4) z1) ((A6 [1,1,1,0,1,0,0,1,0,0,1,1,0,1,1,1] (ZeH t l x6 u s aa ab ae (((Deed.kind ah):Int)==5)) z1))))):
  A6 [1,1,1,0,1,0,0,1,0,0,1,1,0,1] (Z7Y t l x6 u s aa ab ae af) (xB 2 (xB 1 (S6 [1,1,1,0,1,0,0,1,1] (xT N0 (xB 0 (S6 [1,1,1,1] Q)))))):=
 (Eq.mpr V3 (h _ (Z9 _) _ rfl _ (Z7 _)):)
theorem ZF8(t:Tree)(l:List Deed)(x6 ab:Int)(aa:List Int)(s:List Tree)(u ae:List Edit)(af:V U)(N0:NT)(Q:QT)(h:(InR (x6+1))/\(N0 (Z2W t l (x6+1) ab aa s u ae))):
  A6 [1,1,1,0,1,0,0,1,1] (Z5Y t l x6 ab aa s u ae af) (xT N0 (xB 0 (S6 [1,1,1,1] Q))):=
 (Eq.mpr V3 h:)
theorem ZF7(t:Tree)(l:List Deed)(x6 ab:Int)(aa:List Int)(ae:List Tree)(s u:List Edit)(ah:Bool)(N0:NT)(Q:QT)(h:∀ ak,ak=(Tree.mk ab aa ae)->∀ af,af=(l.getD x6.toNat (Deed.mk 0 0 Edit.nil))->∀ ai,ai=(Hist.now ((Z6g (Deed.i af) (Hist.mk ak s u)).1))->let z3:=((Deed.kind af):Int)==7;let z2:=xT N0 (xB 0 (S6 [1,1,1,1] Q));let z1:=Hist.mk ak s u;let z5:=Hist.now ((Z0Q z1).1);let z4:=Hist.now ((Z1b z1).1);let z0:=Tree.mk ab aa ae;iB ah ((Zqf (((Tree.kind z0),(Tree.words z0),(Tree.kids z0),s,u,()),()))/\(A6 [1,1,1,0,1,0,0,1,1] (Z5Y t l x6 (Tree.kind z4) (Tree.words z4) (Tree.kids z4) (Hist.done ((Z1b z1).1)) (Hist.gone ((Z1b z1).1)) .junk) z2)) ((iB (((Deed.kind af):Int)==6) ((Zqe (((Tree.kind z0),(Tree.words z0),(Tree.kids z0),s,u,()),()))/\(A6 [1,1,1,0,1,0,0,1,1] (Z5Y t l x6 (Tree.kind z5) (Tree.words z5) (Tree.kids z5) (Hist.done ((Z0Q z1).1)) (Hist.gone ((Z0Q z1).1)) .junk) z2)) ((iB z3 (((0:Int)<=x6/\x6 < (l.length:Int))/\(ZwO (((Tree.kind z0),(Tree.words z0),(Tree.kids z0),s,u,()),(Deed.i af),()))/\(A6 [1,1,1,0,1,0,0,1,1] (Z5Y t l x6 ai.kind ai.words ai.kids (Hist.done ((Z6g (Deed.i af) z1).1)) (Hist.gone ((Z6g (Deed.i af) z1).1)) (.c (.bool z3))) z2)) (A6 [1,1,1,0,1,0,0,1,1] (Z5Y t l x6 (Tree.kind z0) (Tree.words z0) (Tree.kids z0) s u (.c (.bool z3))) z2)))))):
  A6 [1,1,1,0,1,0,0,1,0,0,1,1,0,1,1,1] (ZeH t l x6 ab aa ae s u ah) (xB 2 (xB 1 (S6 [1,1,1,0,1,0,0,1,1] (xT N0 (xB 0 (S6 [1,1,1,1] Q)))))):=
 (Eq.mpr V3 (h _ (Z9 _) _ rfl _ rfl):)
abbrev ZL4(t:Tree)(l:List Deed):Prop:=AW (Z2 ZyF) Tryz.f6 lv6 [] (Zf (ZEI.can (t,l,())) []) (EQ Tryz.f6 (ZKe (t,l,())) [])
theorem ZKl(c30:CT 30 Z6A)(c31:CT 31 Zao)(c32:CT 32 Zfn)(c33:CT 33 Z6z)(Zzf:CT 34 Z6C)(c35:CT 35 Z6y)(c36:CT 36 Z6x)(c37:CT 37 Z6w)(c38:CT 38 Z6v)(c39:CT 39 Zfm)(c40:CT 40 Zfl)(c14:CT 14 Zfs)(c25:CT 25 JD)(c26:CT 26 Zfp)(hb:∀ (t:Tree) (l:List Deed) (_:Unit),pre6 (t,l,())->ZL4 t l):CT 6 Zpp:=
 Z1 (l:=[(30,Z6A),(31,Zao),(32,Zfn),(33,Z6z),(34,Z6C),(35,Z6y),(36,Z6x),(37,Z6w),(38,Z6v),(39,Zfm),(40,Zfl),(14,Zfs),(25,JD),(26,Zfp)]) Ze rfl (⟨c30,c31,c32,c33,Zzf,c35,c36,c37,c38,c39,c40,c14,c25,c26,trivial⟩) lv6 Tryz.func6 rfl rfl 2 (fun _=> rfl) V2 (fun ⟨t,l,_⟩=> hb t l ())
end
theorem c39:Contract Tryz.prog cfg 39 Zfm:=by
 refine ZFN c85 c16 c83 c84 ?_
 intro hk hw hc u hg i _ hp
 obtain ⟨hD,hl⟩:=hp
 dsimp only at hD hl
 refine ZLq _ _ _ _ _ _ _ ?_
 rintro y1 ak y2 rfl
 (simp only [iB,vcT,vcS])
 have fin:∀ {r:Hist × Int} {s:LSt U},Z6g i ⟨.mk hk hw hc,u,hg⟩=r->Y7 cfg Tryz.f39.ntmps Tryz.f39.results.toList (.c (.int .i64 r.2)) [[.int .i64 r.1.now.kind,.slice .u64 r.1.now.words .unk,.slice .tree r.1.now.kids .unk,.slice .edit r.1.done .unk,.slice .edit r.1.gone .unk]] .ret s->
   Y7 cfg Tryz.f39.ntmps Tryz.f39.results.toList (ZvW ((hk,hw,hc,u,hg,()),i,())) (Znz ((hk,hw,hc,u,hg,()),i,())) .ret s:=by
  intro r s h hs
  subst h
  exact hs
 refine ⟨(fun h=> by cases h),fun h=> ?_,fun h=> ?_⟩
 .refine fin (r:=(⟨.mk hk hw hc,u,hg⟩,2)) ?_ V0
  unfold Z6g
  exact if_neg fun k=> by have k:=ZcK.1 k;dsimp only at k;omega
 have hB:ZiO i ⟨.mk hk hw hc,u,hg⟩=true:=ZcK.2 ⟨JX,V4⟩
 obtain ⟨d1,d2,d3⟩:=hD hB
 rw [<-ak] at d1
 have ea:ZiX i ⟨.mk hk hw hc,u,hg⟩=Zj (Zn y2):=by rw [ak];try rfl
 have em:Z73 i ⟨.mk hk hw hc,u,hg⟩=ZdT (u.drop (i+1).toNat) (Zj (Zn y2)) (u.take i.toNat):=by rw [<-ea];try rfl
 rw [ea] at d2
 have hN:Z6g i ⟨.mk hk hw hc,u,hg⟩=_:=if_pos hB
 have ai:(u.take i.toNat).length<=u.length:=by rw [Qr];omega
 have au:(u.drop (i+1).toNat).length<=u.length:=by rw [X9];omega
 refine ⟨⟨JX,JX⟩,d1,⟨JX,JX⟩,by show (u.take i.toNat).length<=_;omega,V1,⟨JX,JX⟩,?_⟩
 obtain ⟨L,al⟩:∃ L,L=u.drop (i+1).toNat:=⟨_,rfl⟩
 rw [<-al] at d2 em au
 refine Zc (ι:=Int × Edit × List Edit) (fun j=> Zbz hk hw hc u hg i j.2.2 j.1 j.2.1.kind j.2.1.old.kind j.2.1.old.words j.2.1.old.kids j.2.1.new.kind j.2.1.new.words j.2.1.new.kids j.2.1.words j.2.1.kids j.2.1.list j.2.1.ops)
  (fun j=> (0<=j.1/\j.1<=L.length)/\Z73 i ⟨.mk hk hw hc,u,hg⟩=ZdT (L.drop j.1.toNat) j.2.1 j.2.2/\Zmj (L.drop j.1.toNat) j.2.1/\(j.2.2.length:Int)<=u.length+j.1)
  (fun j=> ((L.length:Int) - j.1).toNat) (0,Zj (Zn y2),u.take i.toNat) rfl ⟨⟨V4,V4⟩,em,d2,V4⟩ ?_
 rintro ⟨k,f,out⟩ ⟨⟨k0,k1⟩,hM,hO,hL⟩
 dsimp only at k0 k1 hM hO hL
 refine ZAe _ _ _ _ _ _ _ _ _ _ _ _ _ _ _ _ _ _ _ _ _ ?_
 simp only [<-al]
 rintro z1 ax z2 aj z3 rfl z4 ay
 rw [ZKB] at aj
 subst aj
 (simp only [iB,vcT,vcS])
 refine ⟨fun ai=> ?_,fun a7=> ?_⟩
 .rw [ZCd k0 ai,<-ax] at hM hO
  obtain ⟨o1,o2⟩:=hO
  rw [ZdT] at hM
  refine ⟨⟨k0,ai⟩,o1,fun hn=> ?_,fun h0=> ⟨by simp only [Qm,Qp];omega,V1,(k+1,(lbN z3 z2).2.1,out++[z4]),rfl,⟨⟨V4,V4⟩,?_,o2 h0,?_⟩,V4⟩⟩
  .rw [if_neg hn] at hM
   rw [hM,if_neg hn] at hN
   exact fin hN V0
  .rw [if_pos h0,<-ay] at hM
   exact hM
  .rw [Qk]
   simp only [Qm,Qp]
   omega
 .have av:L.drop k.toNat=[]:=Qc JX
  rw [av] at hM
  have hM:Z73 i ⟨.mk hk hw hc,u,hg⟩=((out,z2),0):=hM
  rw [hM] at d3 hN
  rw [if_pos rfl] at hN
  refine ⟨d3 rfl,fun hn=> ?_,fun h0=> ?_⟩
  .rw [Ze3 hn]
   rw [if_neg hn] at hN
   exact fin hN V0
  .rw [if_pos h0] at hN
   exact fin hN V0
theorem c40:Contract Tryz.prog cfg 40 Zfl:=by
 refine ZFM c20 ?_
 intro hk hw hc u hg _ s
 refine ZLp _ _ _ _ _ _ ?_
 (simp only [iB,vcT,vcS])
 refine ⟨(fun h=> by cases h),s,?_⟩
 simp only [ZvV,ZnD]
 exact V0
theorem Zzf:Contract Tryz.prog cfg 34 Z6C:=by
 refine Zxh c45 Zzd.1 c65 c30 ?_
 intro d t _ hp
 obtain ⟨⟨u,s⟩,h3⟩:=hp
 dsimp only at u s h3
 refine ZFa _ _ _ ?_
 rintro y1 rfl y2 rfl
 (simp only [iB,vcT,vcS])
 refine ⟨fun _=> u,fun h=> ?_,fun h=> ?_,fun h hr=> ⟨h,hr⟩,fun h hf=> ⟨h,hf⟩,fun _=> h3,Z5 rfl ?_⟩
 .have:=Z57 h.2
  exact ⟨⟨V4,s⟩,V4,V4⟩
 .have:=Z57 h.1.2
  exact ⟨⟨V4,s⟩,64,h.2⟩
 .unfold Zc1
  cases decide (d.kind < 0) <;> cases decide (3 < d.kind) <;> cases decide (0<=Z0D d.e 80 3000) <;> cases Z3 d.e 64 <;> cases Z1V d.e <;> cases decide (0<=ZK y1 80 3000) <;> rfl
theorem ZAl{d:Deed}{t:Tree}(h:Zc1 d t=true):Zo t<=3000/\(0<=d.kind->d.kind<=3->Z8 d.e<=3000):=by
 unfold Zc1 at h
 simp only [Q6,XC,decide_eq_true_eq] at h
 obtain ⟨u,s⟩:=h
 have:=Z0x t 80 3000 s
 refine ⟨JX,fun a b=> ?_⟩
 rcases u with h | h
 .omega
 .exact Z57 h.1
set_option maxHeartbeats 1000000 in
theorem c6:Contract Tryz.prog cfg 6 Zpp:=by
 refine ZKl c30 c31 c32 c33 Zzf c35 c36 c37 c38 c39 c40 c14 c25 c26 ?_
 intro t l _ hp
 obtain ⟨⟨h1,h2⟩,h3⟩:=hp
 dsimp only at h1 h2 h3
 refine vc6 _ _ _ ?_
 rintro y1 rfl
 (simp only [iB,vcT,vcS])
 refine ⟨h1,fun hf=> ⟨QF (Zuc hf) V2,h2,V4,V4⟩,fun _=> ⟨trivial,Z5 rfl rfl⟩,fun hg=> ?_⟩
 obtain ⟨⟨hf,hr⟩,hk⟩:=hg
 have hm:=Z0x y1 80 3000 hf
 have bj:=Ym y1
 have ln:=ZgX y1
 have lm:=Zct y1
 have rt:RT_ y1:=⟨⟨64,hr⟩,h2⟩
 have s0:TrL 0 (Z0 y1):=⟨ZpK rt,ZI _,JX,JX⟩
 refine ⟨⟨⟨V4,h2⟩,hr,hk⟩,?_⟩
 refine Zc (ι:=Int × Hist) (fun j=> Z2W y1 l j.1 j.2.now.kind j.2.now.words j.2.now.kids j.2.done j.2.gone)
  (fun j=> (0<=j.1/\j.1<=20/\j.1<=l.length)/\InvL j.1.toNat (Z0 y1) j.2)
  (fun j=> (20 - j.1).toNat) (0,⟨Z0 y1,[],[]⟩) rfl ⟨⟨V4,V4,V4⟩,.nil s0,fun e he=> (by cases he),Nat.le_refl _,Nat.le_refl _⟩ ?_
 rintro ⟨i,H⟩ ⟨⟨i0,i1,i2⟩,hI⟩
 dsimp only at i0 i1 i2 hI
 refine ZF6 _ _ _ _ _ _ _ _ _ _ ?_
 intro s f1 z2 f2 z3 f3 z4 f4 z5 f5 z6 f6 z7 f7 z8 f8
 subst f1
 rw [Z58] at f3 f4
 subst f3 f4 f6 f7
 have ab:=hI.p.st.2
 have ah:i.toNat<=20:=JX
 have bt:=hI.d
 have b3:=hI.o
 have am:=hI.p.ok
 have a4:Hist.mk (Tree.mk H.now.kind H.now.words H.now.kids) H.done H.gone=H:=by rw [Z58]
 have next:∀ {N:LSt U->Prop} {Q:AExit->LSt U->Prop},(∀ G:Hist,InvL (i.toNat+1) (Z0 s) G->N (Z2W s l (i+1) G.now.kind G.now.words G.now.kids G.done G.gone))->∀ (G:Hist) (v:V U),i < 20->InvL (i.toNat+1) (Z0 s) G->
   A6 [1,1,1,0,1,0,0,1,1] (Z5Y s l i G.now.kind G.now.words G.now.kids G.done G.gone v) (AExit.then N (AExit.inBlock 0 (S6 [1,1,1,1] Q))):=
  fun hN G v h hG=> ZF8 _ _ _ _ _ _ _ _ _ _ _ ⟨V1,hN G hG⟩
 have mono:InvL (i.toNat+1) (Z0 s) H:=hI.mono (Xg _)
 have K3:∀ {N:LSt U->Prop} {Q:AExit->LSt U->Prop},(∀ G:Hist,InvL (i.toNat+1) (Z0 s) G->N (Z2W s l (i+1) G.now.kind G.now.words G.now.kids G.done G.gone))->i < l.length->i < 20->∀ b:Bool,
   A6 [1,1,1,0,1,0,0,1,0,0,1,1,0,1,1,1] (ZeH s l i H.now.kind H.now.words H.now.kids H.done H.gone b) (AExit.inBlock 2 (AExit.inBlock 1 (S6 [1,1,1,0,1,0,0,1,1] (AExit.then N (AExit.inBlock 0 (S6 [1,1,1,1] Q)))))):=by
  intro N Q hN hl h b
  refine ZF7 _ _ _ _ _ _ _ _ _ _ _ ?_
  intro a1 g1 a2 g2 a3 g3
  rw [Z58] at g1
  subst g1
  have eH:Hist.mk H.now H.done H.gone=H:=by cases H;rfl
  rw [eH] at g3 ⊢
  subst g3
  (simp only [iB,vcT,vcS])
  obtain ⟨dk,dI⟩:=hI.drop ah (Deed.i a2)
  refine ⟨fun _=> ⟨⟨fun e he=> ?_,V4,V4⟩,next hN _ _ h (hI.undo ah)⟩,fun _=> ⟨fun _=> ⟨⟨fun e he=> ?_,V4,V4⟩,next hN _ _ h hI.redo⟩,fun _=> ⟨fun _=> ⟨⟨i0,hl⟩,?_,next hN _ _ h dI⟩,fun _=> ?_⟩⟩⟩
  .have re:=(am e he).re
   have:=YI re
   dsimp only
   rw [Z58,Z58]
   exact ⟨⟨JX,re.2.2⟩,Z9V (Zje re) ab JX⟩
  .dsimp only
   rw [Z58,Z58]
   exact Z9V (hI.g e he).re ab JX
  .show ZoM (Deed.i a2) ⟨.mk _ _ _,_,_⟩
   dsimp only
   rw [Z58,a4]
   exact dk
  .exact next hN _ _ h mono
 have K1:∀ {N:LSt U->Prop} {Q:AExit->LSt U->Prop},(∀ G:Hist,InvL (i.toNat+1) (Z0 s) G->N (Z2W s l (i+1) G.now.kind G.now.words G.now.kids G.done G.gone))->i < l.length->i < 20->Zc1 z6 H.now=true->∀ b:Bool,(b=true->0<=z6.kind/\z6.kind<=3)->
   A6 [1,1,1,0,1,0,0,1,0,0,1,1,0,1] (Z7Y s l i H.now.kind H.now.words H.now.kids H.done H.gone b) (AExit.inBlock 2 (AExit.inBlock 1 (S6 [1,1,1,0,1,0,0,1,1] (AExit.then N (AExit.inBlock 0 (S6 [1,1,1,1] Q)))))):=by
  intro N Q hN hl h hs b hb
  refine ZF9 _ _ _ _ _ _ _ _ _ _ _ ?_
  intro a1 g1 a2 g2 a3 g3
  rw [Z58] at g1
  rw [<-f5] at g2
  subst g1 g2 g3
  have eH:Hist.mk H.now H.done H.gone=H:=by cases H;rfl
  rw [eH]
  (simp only [iB,vcT,vcS])
  have af:a2∈l:=by rw [f5];exact Zk JX _
  obtain ⟨_,q2⟩:=h3 a2 af
  refine ⟨fun ht=> ?_,fun _=> ⟨fun _=> K3 hN hl h _,fun _=> K3 hN hl h _⟩⟩
  obtain ⟨b1,b2⟩:=hb ht
  have a7:=(ZAl hs).2 b1 b2
  have hE:Z3 a2.e 64=true->EdL (Zj a2.e):=fun hr=> ZGz hr q2 a7
  refine ⟨⟨i0,hl⟩,⟨⟨⟨V4,q2⟩,fun hr=> ?_⟩,V4⟩,next hN _ _ h (hI.do hE)⟩
  dsimp only
  rw [Z58,Z58]
  exact Z9V (hE hr).re ab JX
 have aj:i < 20->i < l.length->∀ G:Hist,InvL (i.toNat+1) (Z0 s) G->∃ j:Int × Hist,Z2W s l (i+1) G.now.kind G.now.words G.now.kids G.done G.gone=Z2W s l j.1 j.2.now.kind j.2.now.words j.2.now.kids j.2.done j.2.gone/\
   ((0<=j.1/\j.1<=20/\j.1<=l.length)/\InvL j.1.toNat (Z0 s) j.2)/\(20 - j.1).toNat < (20 - i).toNat:=by
  intro h hl G hG
  refine ⟨(i+1,G),rfl,⟨⟨V4,V4,V4⟩,?_⟩,V4⟩
  dsimp only
  rw [show (i+1).toNat=i.toNat+1 by omega]
  exact hG
 (simp only [iB,vcT,vcS])
 refine ⟨fun hc=> ?_,fun _=> ?_⟩
 .obtain ⟨hl,h⟩:=hc
  have af:z6∈l:=by rw [f5];exact Zk JX _
  have hN:=aj h hl
  refine ⟨⟨i0,hl⟩,trivial,⟨h3 z6 af,Z2c _ (by have:=ab.m;dsimp only;omega)⟩,fun _=> ⟨trivial,Z5 rfl rfl⟩,fun hs=> ⟨⟨i0,hl⟩,fun k=> K1 hN hl h hs _ fun _=> by omega,fun _=> ⟨fun k=> K1 hN hl h hs _ fun _=> by omega,fun _=> ⟨fun k=> K1 hN hl h hs _ fun _=> by omega,fun _=> K1 hN hl h hs _ fun k=> ?_⟩⟩⟩⟩
  have k:z6.kind=3:=by simpa using k
  omega
 .obtain ⟨j1,u,j2,j3⟩:=ZvJ ah hI rt
  have c:=ZoR (c:=210000000) fun e he=> (am e he).c
  have c2:H.done.length*210000000<=20*210000000:=Qf _ JX
  rw [<-f2] at j1 j2
  have jm:=YI j1
  have e8:z8=H.now:=by
   rw [f8,j2]
   show Z0 u=_
   have j3:Z0 u=Z0 H.now:=j3
   rw [j3,ab.n]
  have ak:Yf H.now H.now=true:=Zfy _
  rw [e8,j2,ak]
  have bw:=ab.m
  refine ⟨⟨fun e he=> (am e he).re,V4⟩,⟨Z6E _ z2 (Nat.le_refl _) JX,j1.2.1⟩,fun _=> ⟨trivial,Z5 rfl rfl⟩,fun _=> ⟨⟨⟨V4,j1.2⟩,by have:=j1.1;dsimp only;omega,h2⟩,fun _=> trivial,fun _=> by show Zo H.now<=_;omega,fun _=> trivial,Z5 rfl rfl⟩⟩
end Go.AM.YtpjenobkibfpcaaGreat
