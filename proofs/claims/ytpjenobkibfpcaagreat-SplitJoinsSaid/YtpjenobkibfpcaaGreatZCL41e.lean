import Derived.Test.YtpjenobkibfpcaaGreatZCG25c
import Derived.Test.YtpjenobkibfpcaaGreatZCD25s
import Derived.Test.YtpjenobkibfpcaaGreatZCL25e
import Derived.Test.YtpjenobkibfpcaaGreatZKG22d
import Derived.Test.YtpjenobkibfpcaaGreatZKL22m
import Derived.Test.YtpjenobkibfpcaaGreatZKB24
set_option linter.unusedSimpArgs false
set_option linter.unusedVariables false
namespace Go.AM.YtpjenobkibfpcaaGreat
open Go.AM Go.Proofs
theorem Z8R{e:Edit}(h:YT e):Wk e:=by obtain ⟨d,s⟩:=h.2.2;exact .of s h.2.1
theorem Z9V{p q:Edit}(hp:YT p)(hq:YT q):ComWk True (YA p q) p q:=ZGW _ p q (Q9 _) (Z8R hp) (Z8R hq)
theorem ZD9{p q:Edit}(hp:YT p)(hq:YT q)(h:(YA p q).2=true):Z4f ((YA p q).1,()):=by
 have H:=Z9V hp hq
 have:=H.ct trivial h
 have:=Zcv (YA p q).1
 have:=hp.1
 have:=hq.1
 exact ⟨by grind,-1,(H.wk h).r⟩
theorem c71:Contract Tryz.prog cfg 71 ZgH:=by
 refine ZGj ZHx Zmh.1 ?_
 intro p q _ d
 refine ZKT _ _ _ ?_
 intro y1 h1 y2 s y3 h
 subst h1 s
 (simp only [iB,vcT,vcS])
 refine ⟨d,fun hc=> ?_,fun hc=> ?_⟩
 .refine Yz (r':= .tup [(true,enc .edit Edit.nil),(false,[.bool false])]) ?_ V2
  simp only [ZrQ,Z1A]
  rw [if_neg (by grind)]
  try rfl
 .refine ⟨by rw [h];exact ZD9 d.1 d.2 hc,Yz (r':= .tup [(true,enc .edit (Zp y3)),(false,[.bool true])]) ?_ V2⟩
  simp only [ZrQ,Z1A]
  rw [if_pos hc,h]
  try rfl
theorem Z8X{f g:Nat->Int}(h:∀ i,i < 8->f i=g i):of8 f=of8 g:=by
 unfold of8
 grind
theorem ZiH{p q:WEdit}(rp:Z2a p)(rq:Z2a q):Z5o p q=true↔∀ i:Nat,i < 8->Zz p.mask (i:Int)=true->Zz q.mask (i:Int)=true->Z4 p.new i=Z4 q.old i:=by
 obtain ⟨_,h⟩:=Zmw rp.2.1 rq.2.1
 unfold Z5o
 rw [decide_eq_true_eq]
 constructor
 .intro e i d h1 s
  have:=congrArg (fun w=> Z4 w i) e
  simp only [Z0s d] at this
  grind
 .intro e
  refine Z8X fun i d=> ?_
  unfold Jn
  grind
theorem ZAm{m i:Int}(h0:0<=m)(hi:0<=i)(h8:i < 8):m % 2 ^ (i+1).toNat=m % 2 ^ i.toNat+if Zz m i=true then 2 ^ i.toNat else 0:=by
 have e:Zz m i=decide (m / 2 ^ i.toNat % 2=1):=rfl
 rw [e]
 simp only [decide_eq_true_eq]
 have:i=0\/i=1\/i=2\/i=3\/i=4\/i=5\/i=6\/i=7:=V1
 grind
theorem ZDc{i:Int}(hi:0<=i):(2:Int)*2 ^ i.toNat=2 ^ (i+1).toNat:=by
 rw [show (i+1).toNat=i.toNat+1 by omega,K4,Int.mul_comm]
theorem ZHz{i:Int}(h0:0<=i)(hi:i<=8):(1:Int)<=2 ^ i.toNat/\(2:Int) ^ i.toNat<=256:=by
 have:i=0\/i=1\/i=2\/i=3\/i=4\/i=5\/i=6\/i=7\/i=8:=V1
 rcases this with rfl | rfl | rfl | rfl | rfl | rfl | rfl | rfl | rfl <;> simp
def Jd(p q:WEdit)(j:Nat):Int:=if Zz p.mask (j:Int)=true then Z4 p.old j else if Zz q.mask (j:Int)=true then Z4 q.old j else 0
def Je(p q:WEdit)(j:Nat):Int:=if Zz q.mask (j:Int)=true then Z4 q.new j else if Zz p.mask (j:Int)=true then Z4 p.new j else 0
set_option maxHeartbeats 1000000 in
theorem ZH4:Contract Tryz.prog cfg 212 Z6q:=by
 refine ZBX ZvI ZvH ZvG ?_
 intro p q _ hp
 obtain ⟨⟨rp,op,np⟩,rq,oq,nq⟩:=hp
 dsimp only at rp op np rq oq nq
 obtain ⟨om,ob⟩:=ZpL rp.2.1 rq.2.1
 refine ZIY _ _ _ ?_
 refine ⟨rp.2.2.1,rp.2.2.2,rq.2.2.1,rq.2.2.2,?_⟩
 let st:=fun (F:Nat->Int) (i:Int) (j:Nat)=> if (j:Int) < i then F j else 0
 refine Z7 (ι:=Int) (fun i=> Z1X p q (2 ^ i.toNat) (orM p.mask q.mask % 2 ^ i.toNat) i (st (Jd p q) i 0) (st (Jd p q) i 1) (st (Jd p q) i 2) (st (Jd p q) i 3) (st (Jd p q) i 4) (st (Jd p q) i 5) (st (Jd p q) i 6) (st (Jd p q) i 7)
  (st (Je p q) i 0) (st (Je p q) i 1) (st (Je p q) i 2) (st (Je p q) i 3) (st (Je p q) i 4) (st (Je p q) i 5) (st (Je p q) i 6) (st (Je p q) i 7))
  (fun i=> (0<=i/\i<=8)/\∀ j:Nat,(j:Int) < i->Zz p.mask (j:Int)=true->Zz q.mask (j:Int)=true->Z4 p.new j=Z4 q.old j) (fun i=> (8 - i).toNat) 0 ?_ ⟨⟨V1,V1⟩,fun j hj=> by omega⟩ ?_
 .simp [Z1X,st]
 rintro i ⟨⟨h1,h2⟩,az⟩
 have bs:=ZAm (m:=orM p.mask q.mask) om.1 h1
 have bp:=ZDc h1
 have bl:=ZHz h1 h2
 have bf:Zz (orM p.mask q.mask) i=(Zz p.mask i || Zz q.mask i):=by
  have:=ob i.toNat
  rwa [show ((i.toNat:Nat):Int)=i by omega] at this
 refine Zwe _ _ _ _ _ _ _ _ _ _ _ _ _ _ _ _ _ _ _ _ _ _ _ ?_
 have f1:∀ (F:Nat->Int) (v:Int),v=F i.toNat->∀ j:Nat,YK i j v (st F i j)=st F (i+1) j:=fun F v hv j=> Zmz (F:=F) (G:=fun _=> 0) h1 hv
 have f2:∀ (F:Nat->Int),F i.toNat=0->∀ j:Nat,st F i j=st F (i+1) j:=fun F hv j=> ZCY (F:=F) (G:=fun _=> 0) hv h1
 have f3:∀ (v w x:Int) (j:Nat),YK i j v (YK i j w x)=YK i j v x:=fun v w x j=> by unfold YK;split <;> rfl
 have gd:∀ w:Int,i < 8->List.getD [Z4 w 0,Z4 w 1,Z4 w 2,Z4 w 3,Z4 w 4,Z4 w 5,Z4 w 6,Z4 w 7] i.toNat 0=Z4 w i.toNat:=fun w h=> Zti (Z4 w) V1
 have ie:((i.toNat:Nat):Int)=i:=V1
 have tl:∀ (m:Int) (N0:LSt U->Prop) (Q:AExit->LSt U->Prop),i < 8->N0 (Z1X p q (2*2 ^ i.toNat) m (i+1) (st (Jd p q) (i+1) 0) (st (Jd p q) (i+1) 1) (st (Jd p q) (i+1) 2) (st (Jd p q) (i+1) 3) (st (Jd p q) (i+1) 4) (st (Jd p q) (i+1) 5) (st (Jd p q) (i+1) 6) (st (Jd p q) (i+1) 7) (st (Je p q) (i+1) 0) (st (Je p q) (i+1) 1) (st (Je p q) (i+1) 2) (st (Je p q) (i+1) 3) (st (Je p q) (i+1) 4) (st (Je p q) (i+1) 5) (st (Je p q) (i+1) 6) (st (Je p q) (i+1) 7))->
   Za8 [1,1,1,1,1,1,0,1,0,0,1,0,0,1,1,1] (Z9g p q (2 ^ i.toNat) i (st (Jd p q) i 0) (st (Jd p q) i 1) (st (Jd p q) i 2) (st (Jd p q) i 3) (st (Jd p q) i 4) (st (Jd p q) i 5) (st (Jd p q) i 6) (st (Jd p q) i 7) (st (Je p q) i 0) (st (Je p q) i 1) (st (Je p q) i 2) (st (Je p q) i 3) (st (Je p q) i 4) (st (Je p q) i 5) (st (Je p q) i 6) (st (Je p q) i 7) m) (AExit.inBlock 1 (Z7l [1,1,1,1,1,1,0,1,0,0,1,1] (AExit.then N0 (AExit.inBlock 0 (Z7l [1,1,1,1,1,1,1] Q))))):=by
  intro m N0 Q h8 hN
  refine Zwf _ _ _ _ _ _ _ _ _ _ _ _ _ _ _ _ _ _ _ _ _ _ _ ?_
  intro y1 d y2 aq
  rw [gd _ h8] at d aq
  subst d aq
  have ir:InR (2*2 ^ i.toNat):=V5
  have ai:InR (i+1):=V5
  have rg:(0:Int)<=i/\i < ((8:Nat):Int):=⟨h1,V1⟩
  have s:Jd p q i.toNat=if Zz p.mask i=true then Z4 p.old i.toNat else if Zz q.mask i=true then Z4 q.old i.toNat else 0:=rfl
  have wn:Je p q i.toNat=if Zz q.mask i=true then Z4 q.new i.toNat else if Zz p.mask i=true then Z4 p.new i.toNat else 0:=rfl
  refine ⟨ir,fun hY=> ⟨rg,rg,rg,rg,?_⟩,fun hY=> ?_⟩
  .rw [if_pos hY] at wn
   refine ZmI _ _ _ _ _ _ _ _ _ _ _ _ _ _ _ _ _ _ _ _ _ _ _ _ ?_
   intro y1 d
   rw [gd _ h8] at d
   subst d
   refine ⟨fun hX=> ⟨rg,rg,?_⟩,fun hX=> ?_⟩
   .rw [if_pos hX] at s
    refine Zbl _ _ _ _ _ _ _ _ _ _ _ _ _ _ _ _ _ _ _ _ _ _ _ ?_
    intro y1 d
    refine ⟨fun h=> h,fun h=> h,fun hZ=> ?_,fun hZ=> ?_⟩
    .grind
    .refine Zbk _ _ _ _ _ _ _ _ _ _ _ _ _ _ _ _ _ _ _ _ _ _ _ ⟨ai,?_⟩
     rw [f3 _ _ _ 0,f3 _ _ _ 1,f3 _ _ _ 2,f3 _ _ _ 3,f3 _ _ _ 4,f3 _ _ _ 5,f3 _ _ _ 6,f3 _ _ _ 7]
     rw [f1 _ _ s.symm 0,f1 _ _ s.symm 1,f1 _ _ s.symm 2,f1 _ _ s.symm 3,f1 _ _ s.symm 4,f1 _ _ s.symm 5,f1 _ _ s.symm 6,f1 _ _ s.symm 7]
     rw [f1 _ _ wn.symm 0,f1 _ _ wn.symm 1,f1 _ _ wn.symm 2,f1 _ _ wn.symm 3,f1 _ _ wn.symm 4,f1 _ _ wn.symm 5,f1 _ _ wn.symm 6,f1 _ _ wn.symm 7]
     exact hN
   .rw [if_neg (by grind),if_pos hY] at s
    refine Zbl _ _ _ _ _ _ _ _ _ _ _ _ _ _ _ _ _ _ _ _ _ _ _ ?_
    intro y1 d
    refine ⟨fun h=> h,fun h=> h,fun hZ=> ?_,fun hZ=> ?_⟩
    .rw [hX] at hZ;cases hZ
    .refine Zbk _ _ _ _ _ _ _ _ _ _ _ _ _ _ _ _ _ _ _ _ _ _ _ ⟨ai,?_⟩
     rw [f1 _ _ s.symm 0,f1 _ _ s.symm 1,f1 _ _ s.symm 2,f1 _ _ s.symm 3,f1 _ _ s.symm 4,f1 _ _ s.symm 5,f1 _ _ s.symm 6,f1 _ _ s.symm 7]
     rw [f1 _ _ wn.symm 0,f1 _ _ wn.symm 1,f1 _ _ wn.symm 2,f1 _ _ wn.symm 3,f1 _ _ wn.symm 4,f1 _ _ wn.symm 5,f1 _ _ wn.symm 6,f1 _ _ wn.symm 7]
     exact hN
  .rw [if_neg (by grind)] at wn
   refine ZmI _ _ _ _ _ _ _ _ _ _ _ _ _ _ _ _ _ _ _ _ _ _ _ _ ?_
   intro y1 d
   rw [gd _ h8] at d
   subst d
   refine ⟨fun hX=> ⟨rg,rg,?_⟩,fun hX=> ?_⟩
   .rw [if_pos hX] at s wn
    refine Zbl _ _ _ _ _ _ _ _ _ _ _ _ _ _ _ _ _ _ _ _ _ _ _ ?_
    intro y1 d
    rw [gd _ h8] at d
    subst d
    refine ⟨fun h=> h,fun h=> h,fun hZ=> ⟨rg,rg,?_⟩,fun hZ=> ?_⟩
    .refine Zbk _ _ _ _ _ _ _ _ _ _ _ _ _ _ _ _ _ _ _ _ _ _ _ ⟨ai,?_⟩
     rw [f1 _ _ s.symm 0,f1 _ _ s.symm 1,f1 _ _ s.symm 2,f1 _ _ s.symm 3,f1 _ _ s.symm 4,f1 _ _ s.symm 5,f1 _ _ s.symm 6,f1 _ _ s.symm 7]
     rw [f1 _ _ wn.symm 0,f1 _ _ wn.symm 1,f1 _ _ wn.symm 2,f1 _ _ wn.symm 3,f1 _ _ wn.symm 4,f1 _ _ wn.symm 5,f1 _ _ wn.symm 6,f1 _ _ wn.symm 7]
     exact hN
    grind
   .rw [if_neg (by grind)] at s wn
    rw [if_neg (by grind)] at s
    refine Zbl _ _ _ _ _ _ _ _ _ _ _ _ _ _ _ _ _ _ _ _ _ _ _ ?_
    intro y1 d
    refine ⟨fun h=> h,fun h=> h,fun hZ=> ?_,fun hZ=> ?_⟩
    .rw [hX] at hZ;cases hZ
    .refine Zbk _ _ _ _ _ _ _ _ _ _ _ _ _ _ _ _ _ _ _ _ _ _ _ ⟨ai,?_⟩
     simp_all
 have ext:i < 8->(Zz p.mask i=true->Zz q.mask i=true->Z4 p.new i.toNat=Z4 q.old i.toNat)->∀ j:Nat,(j:Int) < i+1->Zz p.mask (j:Int)=true->Zz q.mask (j:Int)=true->Z4 p.new j=Z4 q.old j:=by
  intro h8 h j hj hx hy
  by_cases hji:(j:Int) < i
  .simp_all
  .have:(j:Int)=i:=V1
   have a7:j=i.toNat:=V1
   grind
 (simp only [iB,vcT,vcS])
 refine ⟨fun h8=> ⟨⟨rp.2.1,h1,V1⟩,⟨rq.2.1,h1,V1⟩,fun _=> ⟨h1,V1⟩,fun _=> ⟨h1,V1⟩,fun ar=> ?_,fun hk=> ?_⟩,fun h8=> ?_⟩
 .rw [gd _ h8,gd _ h8] at ar
  have hc:Z5o p q=false:=by
   rw [<-Xx,ZiH rp rq]
   intro h
   have:=h i.toNat V1 (by grind) (by grind)
   exact ar.2 this
  refine Yz (r':= .tup [(true,enc .wedit (⟨0,0,0,0⟩:WEdit)),(false,[.bool false])]) ?_ V2
  simp only [Zla,YY]
  rw [hc]
  try rfl
 .rw [gd _ h8,gd _ h8] at hk
  have a2:Zz p.mask i=true->Zz q.mask i=true->Z4 p.new i.toNat=Z4 q.old i.toNat:=by
   intro hx hy
   rcases hk with (h | h) | h
   .rw [hx] at h;cases h
   .rw [hy] at h;cases h
   .exact h
  have fin:∀ m:Int,m=orM p.mask q.mask % 2 ^ (i+1).toNat->∃ j:Int,Z1X p q (2*2 ^ i.toNat) m (i+1) (st (Jd p q) (i+1) 0) (st (Jd p q) (i+1) 1) (st (Jd p q) (i+1) 2) (st (Jd p q) (i+1) 3) (st (Jd p q) (i+1) 4) (st (Jd p q) (i+1) 5) (st (Jd p q) (i+1) 6) (st (Jd p q) (i+1) 7) (st (Je p q) (i+1) 0) (st (Je p q) (i+1) 1) (st (Je p q) (i+1) 2) (st (Je p q) (i+1) 3) (st (Je p q) (i+1) 4) (st (Je p q) (i+1) 5) (st (Je p q) (i+1) 6) (st (Je p q) (i+1) 7)=
    Z1X p q (2 ^ j.toNat) (orM p.mask q.mask % 2 ^ j.toNat) j (st (Jd p q) j 0) (st (Jd p q) j 1) (st (Jd p q) j 2) (st (Jd p q) j 3) (st (Jd p q) j 4) (st (Jd p q) j 5) (st (Jd p q) j 6) (st (Jd p q) j 7) (st (Je p q) j 0) (st (Je p q) j 1) (st (Je p q) j 2) (st (Je p q) j 3) (st (Je p q) j 4) (st (Je p q) j 5) (st (Je p q) j 6) (st (Je p q) j 7)/\((0<=j/\j<=8)/\∀ k:Nat,(k:Int) < j->Zz p.mask (k:Int)=true->Zz q.mask (k:Int)=true->Z4 p.new k=Z4 q.old k)/\(8 - j).toNat < (8 - i).toNat:=by
   intro m hm
   refine ⟨i+1,?_,⟨⟨V1,V1⟩,ext h8 a2⟩,V1⟩
   rw [bp,hm]
  have bm:0<=orM p.mask q.mask % 2 ^ i.toNat/\orM p.mask q.mask % 2 ^ i.toNat < 2 ^ i.toNat:=⟨Int.emod_nonneg _ V1,Int.emod_lt_of_pos _ V1⟩
  refine ⟨fun bi=> ⟨V5,tl _ _ _ h8 (fin _ ?_)⟩,fun ba=> tl _ _ _ h8 (fin _ ?_)⟩
  .simp_all
  simp_all
 .have h8:i=8:=V1
  subst h8
  have bj:∀ (w:Int) (j:Nat),0<=Z4 w j/\Z4 w j < 256:=fun w j=> Z1b w j
  have z:(0:Int)<=0/\(0:Int) < 256:=V3
  have ro:∀ j,0<=Jd p q j/\Jd p q j < 256:=fun j=> by unfold Jd;grind
  have rn:∀ j,0<=Je p q j/\Je p q j < 256:=fun j=> by unfold Je;grind
  have all:∀ (F:Nat->Int),(∀ j,0<=F j/\F j < 256)->∀ x∈[st F 8 0,st F 8 1,st F 8 2,st F 8 3,st F 8 4,st F 8 5,st F 8 6,st F 8 7],0<=x/\x < 256:=by
   intro F hF x hx
   simp only [st] at hx
   simp at hx
   grind
  have hc:Z5o p q=true:=(ZiH rp rq).2 fun j hj=> az j V1
  refine ⟨⟨rfl,rfl,all _ ro⟩,⟨rfl,rfl,all _ rn⟩,?_⟩
  have e1:(of8 fun j=> [st (Jd p q) 8 0,st (Jd p q) 8 1,st (Jd p q) 8 2,st (Jd p q) 8 3,st (Jd p q) 8 4,st (Jd p q) 8 5,st (Jd p q) 8 6,st (Jd p q) 8 7].getD j 0)=mix q.old p.old p.mask:=by
   refine Z8X fun j hj=> ?_
   rw [Zti (st (Jd p q) 8) hj]
   simp only [st]
   rw [V0]
   unfold Jd Jn
   split
   .try rfl
   .split
    .try rfl
    .rename_i hn;exact (Z0O oq hj (by simpa using hn)).symm
  have e2:(of8 fun j=> [st (Je p q) 8 0,st (Je p q) 8 1,st (Je p q) 8 2,st (Je p q) 8 3,st (Je p q) 8 4,st (Je p q) 8 5,st (Je p q) 8 6,st (Je p q) 8 7].getD j 0)=mix p.new q.new q.mask:=by
   refine Z8X fun j hj=> ?_
   rw [Zti (st (Je p q) 8) hj]
   simp only [st]
   rw [V0]
   unfold Je Jn
   split
   .try rfl
   .split
    .try rfl
    .rename_i hn;exact (Z0O np hj (by simpa using hn)).symm
  have e3:IntKind.u8.wrap (orM p.mask q.mask % 2 ^ (8:Int).toNat)=orM p.mask q.mask:=by
   rw [show (2:Int) ^ (8:Int).toNat=256 from rfl,Int.emod_eq_of_lt om.1 om.2]
   exact Zbj om.1 om.2
  rw [e1,e2,e3]
  refine Yz (r':= .tup [(true,enc .wedit (⟨p.at_,orM p.mask q.mask,mix q.old p.old p.mask,mix p.new q.new q.mask⟩:WEdit)),(false,[.bool true])]) ?_ V2
  simp only [Zla,YY]
  rw [hc]
  try rfl
theorem Zvk(a:WEdit)(r:List WEdit)(n:Int):Z2C (a ::r) n=if a.at_=n then some a else Z2C r n:=by
 unfold Z2C
 grind
theorem Zvl(a:Kid)(r:List Kid)(n:Int):Z0x (a ::r) n=if a.at_=n then a.e else Z0x r n:=by
 unfold Z0x
 grind
theorem ZH5:Contract Tryz.prog cfg 211 Z6r:=by
 refine ZBY ?_
 intro l a _ hp
 have hp:l.length<=1000000:=hp
 refine ZIZ _ _ _ ?_
 refine Z7 (ι:=Int) (fun i=> Z9h l a i) (fun i=> 0<=i/\i<=l.length/\Z2C l a=Z2C (l.drop i.toNat) a) (fun i=> ((l.length:Int) - i).toNat) 0 rfl ⟨V1,V1,by simp⟩ ?_
 rintro i ⟨f1,f2,d⟩
 refine Zwg _ _ _ _ _ ?_
 (simp only [iB,vcT,vcS])
 refine ⟨fun h=> ?_,fun h=> ?_⟩
 .rw [ZS f1 h ⟨0,0,0,0⟩,Zvk] at d
  generalize hw:l.getD i.toNat ⟨0,0,0,0⟩=w at*
  refine ⟨⟨f1,h⟩,fun s=> ⟨⟨f1,h⟩,?_⟩,fun s=> ⟨V5,i+1,rfl,⟨V1,V1,by grind⟩,V1⟩⟩
  rw [if_pos s] at d
  refine Yz (r':= .tup [(true,enc .wedit w),(false,[.bool true])]) ?_ V2
  simp only [Zl9,d]
  try rfl
 .rw [Q6 V1] at d
  refine Yz (r':= .tup [(true,enc .wedit (⟨0,0,0,0⟩:WEdit)),(false,[.bool false])]) ?_ V2
  simp only [Zl9,d]
  try rfl
theorem ZH3:Contract Tryz.prog cfg 213 Z6p:=by
 refine ZBW ?_
 intro l a _ hp
 have hp:l.length<=1000000:=hp
 refine ZIX _ _ _ ?_
 refine Z7 (ι:=Int) (fun i=> Z9f l a i) (fun i=> 0<=i/\i<=l.length/\Z0x l a=Z0x (l.drop i.toNat) a) (fun i=> ((l.length:Int) - i).toNat) 0 rfl ⟨V1,V1,by simp⟩ ?_
 rintro i ⟨f1,f2,d⟩
 refine Zwd _ _ _ _ _ ?_
 (simp only [iB,vcT,vcS])
 refine ⟨fun h=> ?_,fun h=> ?_⟩
 .rw [ZS f1 h ⟨0,Edit.nil⟩,Zvl] at d
  generalize hw:l.getD i.toNat ⟨0,Edit.nil⟩=w at*
  refine ⟨⟨f1,h⟩,fun s=> ⟨⟨f1,h⟩,?_⟩,fun s=> ⟨V5,i+1,rfl,⟨V1,V1,by grind⟩,V1⟩⟩
  rw [if_pos s] at d
  refine Yz (r':= .agg (enc .edit w.e)) ?_ V2
  simp only [Zl7,d]
  try rfl
 .rw [Q6 V1] at d
  refine Yz (r':= .agg (enc .edit Edit.nil)) ?_ V2
  simp only [Zl7,d]
  try rfl
theorem ZHc:Contract Tryz.prog cfg 200 ZbB:=by
 refine ZC5 ?_
 intro a b _ hp
 obtain ⟨la,lb⟩:=hp
 dsimp only at la lb
 refine ZJ9 _ _ _ ?_
 refine Z7 (ι:=Int × Int × List Int) (fun s=> Z2D a b s.1 s.2.1 s.2.2) (fun s=> (0<=s.1/\s.1<=a.length)/\(0<=s.2.1/\s.2.1<=b.length)/\YJ a b=s.2.2++YJ (a.drop s.1.toNat) (b.drop s.2.1.toNat)/\(s.2.2.length:Int)<=s.1+s.2.1)
  (fun s=> ((a.length:Int) - s.1+(b.length - s.2.1)).toNat) (0,0,[]) rfl ⟨by simp,by simp,by simp,by simp⟩ ?_
 rintro ⟨i,j,o⟩ ⟨⟨i0,i1⟩,⟨j0,j1⟩,f3,f4⟩
 dsimp only at i0 i1 j0 j1 f3 f4
 refine Zwk _ _ _ _ _ _ _ ?_
 intro y1 h1 y2 h2
 (simp only [iB,vcT,vcS])
 have step:∀ (n d j':Int) (N0:LSt U->Prop) (Q:AExit->LSt U->Prop),d=(if i < a.length/\a.getD i.toNat 0=n then i+1 else i)->j'=(if j < b.length/\b.getD j.toNat 0=n then j+1 else j)->N0 (Z2D a b d j' (o++[n]))->
   Zbh [1,1,1,0,0,0,1,0,1,1] (Z9l a b i j o n) (AExit.inBlock 1 (AExit.then N0 (AExit.inBlock 0 (ZiP [1,1,1,1] Q)))):=by
  intro n d j' N0 Q ba aq hN
  have fin:∀ (x y:Int),x=d->y=j'->Zbh [1,1,1,0,0,0,1,0,1,1,1,1] (Z9j a b j o n x y) (AExit.inBlock 1 (AExit.then N0 (AExit.inBlock 0 (ZiP [1,1,1,1] Q)))):=by
   rintro x y rfl rfl
   exact Zwl _ _ _ _ _ _ _ _ _ ⟨by grind,hN⟩
  have two:∀ (x:Int),x=d->Zbh [1,1,1,0,0,0,1,0,1,1,1] (Z9k a b i j o n x) (AExit.inBlock 1 (AExit.then N0 (AExit.inBlock 0 (ZiP [1,1,1,1] Q)))):=by
   intro x hx
   refine Zwm _ _ _ _ _ _ _ _ _ ?_
   (simp only [iB,vcT,vcS])
   refine ⟨fun h=> ⟨j0,h⟩,fun h=> ⟨V5,fin _ _ hx V1⟩,fun h=> fin _ _ hx V1⟩
  refine Zwn _ _ _ _ _ _ _ _ ?_
  (simp only [iB,vcT,vcS])
  refine ⟨fun h=> ⟨i0,h⟩,fun h=> ⟨V5,two _ V1⟩,fun h=> two _ V1⟩
 have next:∀ (n d j':Int),i<=d->j<=j'->d<=a.length->j'<=b.length->i+j < d+j'->YJ (a.drop i.toNat) (b.drop j.toNat)=n ::YJ (a.drop d.toNat) (b.drop j'.toNat)->
   ∃ s:Int × Int × List Int,Z2D a b d j' (o++[n])=Z2D a b s.1 s.2.1 s.2.2/\((0<=s.1/\s.1<=a.length)/\(0<=s.2.1/\s.2.1<=b.length)/\YJ a b=s.2.2++YJ (a.drop s.1.toNat) (b.drop s.2.1.toNat)/\(s.2.2.length:Int)<=s.1+s.2.1)/\
    ((a.length:Int) - s.1+(b.length - s.2.1)).toNat < ((a.length:Int) - i+(b.length - j)).toNat:=by
  intro n d j' a1 a2 a3 a4 a5 a6
  refine ⟨(d,j',o++[n]),rfl,⟨⟨V1,a3⟩,⟨by grind,a4⟩,?_,by grind⟩,V4⟩
  rw [f3,a6];simp
 refine ⟨fun av=> ⟨fun h=> ⟨i0,h.2⟩,fun h=> ⟨j0,V1⟩,fun h1 h2=> ⟨h1,h2⟩,fun hA=> ?_,fun hB=> ?_⟩,fun hE=> ?_⟩
 .have hi:i < a.length:=V1
  refine ⟨⟨i0,hi⟩,step y1 (i+1) j _ _ (by grind) (by rw [if_neg];grind) (next _ _ _ V1 V1 V1 j1 V1 ?_)⟩
  rw [ZS i0 hi 0,<-h1]
  by_cases hj:j < b.length
  .rw [ZS j0 hj 0,<-h2,YJ,V0]
  .rw [Q6 (l:=b) V1,Z4r,Z4r]
 .have hj:j < b.length:=V1
  refine ⟨⟨j0,hj⟩,?_⟩
  by_cases he:i < a.length/\y1=y2
  .refine step y2 (i+1) (j+1) _ _ (by grind) (by grind) (next _ _ _ V1 V1 V1 V1 V1 ?_)
   rw [ZS i0 he.1 0,ZS j0 hj 0,<-h1,<-h2,YJ,Jv,Jv,he.2]
  .refine step y2 i (j+1) _ _ (by grind) (by grind) (next _ _ _ V1 V1 V1 V1 V1 ?_)
   rw [ZS j0 hj 0,<-h2]
   by_cases hi:i < a.length
   .rw [ZS i0 hi 0,<-h1,YJ,Jv,V0]
   .rw [Q6 (l:=a) V1,YJ,YJ]
 .rw [Q6 (l:=a) V1,Q6 (l:=b) V1,YJ,Qi] at f3
  refine Yz (r':= .c (.slice (U:=U) .int o .unk)) ?_ V2
  simp only [Zpk,f3]
theorem Zbs{α β:Type}{f:α->β}{l:List α}{i:Int}(h0:0<=i)(h:i < l.length)(d:α):(l.take i.toNat).map f++[f (l.getD i.toNat d)]=(l.take (i+1).toNat).map f:=by
 rw [show (i+1).toNat=i.toNat+1 by omega,Zds V1 d,XB];try rfl
theorem ZHo:Contract Tryz.prog cfg 152 Z6v:=by
 refine ZCo ZHc ?_
 intro p q _ hp
 obtain ⟨⟨p1,p2⟩,q1,q2⟩:=hp
 dsimp only at p1 p2 q1 q2
 refine ZJz _ _ _ ?_
 have e0:∀ {α β:Type} (l:List α) (f:α->β),(l.take (0:Int).toNat).map f=[]:=fun l f=> by simp
 refine Z7 (ι:=Int) (fun i=> Z9z p q i ((p.words.take i.toNat).map WEdit.at_)) (fun i=> 0<=i/\i<=p.words.length) (fun i=> ((p.words.length:Int) - i).toNat) 0 rfl ⟨V1,V1⟩ ?_
 rintro i ⟨i0,i1⟩
 refine ZwS _ _ _ _ _ _ ?_
 (simp only [iB,vcT,vcS])
 refine ⟨fun hi=> ⟨⟨i0,hi⟩,by grind,V5,i+1,by rw [Zbs i0 hi],⟨V1,V1⟩,V1⟩,fun hi=> ?_⟩
 rw [Qq (l:=p.words) (i:=i.toNat) V1]
 refine Z7 (ι:=Int) (fun i=> Z9y p q (p.words.map WEdit.at_) i ((q.words.take i.toNat).map WEdit.at_)) (fun i=> 0<=i/\i<=q.words.length) (fun i=> ((q.words.length:Int) - i).toNat) 0 rfl ⟨V1,V1⟩ ?_
 rintro j ⟨j0,j1⟩
 refine ZwR _ _ _ _ _ _ _ ?_
 (simp only [iB,vcT,vcS])
 refine ⟨fun s=> ⟨⟨j0,s⟩,by grind,V5,j+1,by rw [Zbs j0 s],⟨V1,V1⟩,V1⟩,fun s=> ?_⟩
 rw [Qq (l:=q.words) (i:=j.toNat) V1]
 refine Z7 (ι:=Int) (fun i=> Z9x p q (p.words.map WEdit.at_) (q.words.map WEdit.at_) i ((p.kids.take i.toNat).map KidOf.at_)) (fun i=> 0<=i/\i<=p.kids.length) (fun i=> ((p.kids.length:Int) - i).toNat) 0 rfl ⟨V1,V1⟩ ?_
 rintro k ⟨k0,k1⟩
 refine ZwQ _ _ _ _ _ _ _ _ ?_
 (simp only [iB,vcT,vcS])
 refine ⟨fun d=> ⟨⟨k0,d⟩,by grind,V5,k+1,by rw [Zbs k0 d],⟨V1,V1⟩,V1⟩,fun d=> ?_⟩
 rw [Qq (l:=p.kids) (i:=k.toNat) V1]
 refine Z7 (ι:=Int) (fun i=> Z9w p q (p.words.map WEdit.at_) (q.words.map WEdit.at_) (p.kids.map KidOf.at_) i ((q.kids.take i.toNat).map KidOf.at_)) (fun i=> 0<=i/\i<=q.kids.length) (fun i=> ((q.kids.length:Int) - i).toNat) 0 rfl ⟨V1,V1⟩ ?_
 rintro m ⟨m0,m1⟩
 refine ZwP _ _ _ _ _ _ _ _ _ ?_
 (simp only [iB,vcT,vcS])
 refine ⟨fun h=> ⟨⟨m0,h⟩,by grind,V5,m+1,by rw [Zbs m0 h],⟨V1,V1⟩,V1⟩,fun h=> ?_⟩
 rw [Qq (l:=q.kids) (i:=m.toNat) V1]
 exact ⟨⟨by simpa using p1,by simpa using q1⟩,⟨by simpa using p2,by simpa using q2⟩,V2⟩
theorem kids_sum:∀ {l:List Op},(∀ o∈l,ZZ o)->Z5l l<=YL l+JY l
 | [],_=> by trivial
 | o ::r,h=> by
  have s:=Yh (h o Q1)
  have h2:=kids_sum fun x d=> h x (Q0 _ d)
  simp only [Z5l,YL,JY]
  omega
theorem ZjB{e:Edit}{d:Int}(h:Z1 e d=true):YL e.ops < 1048576/\JY e.ops < 1048576:=by
 have R:=Zd h
 have ok:∀ o∈e.ops,0<=Z2 o:=fun o s=> JD (ZG h o s)
 have a:=Yt e.ops 0 ok V3 V3
 have b:=Jo e.ops 0 ok V3 V3
 have:=R.len
 omega
theorem Za1{e:Edit}{t:Tree}(h:YT e)(hm:Zq t<=100000000000)(ht:rng t):Z5F (e,t,()):=by
 have:=Ju h
 have:=h.1
 exact ⟨⟨by grind,h.2⟩,by grind,ht⟩
theorem ZmM{e:Edit}(h:YT e):Z4f (e,()):=by
 have:=Ju h
 exact ⟨by grind,h.2.2⟩
theorem Z7G:YT Edit.nil:=by
 refine ⟨V3,?_,1,Z5M⟩
 exact ⟨Z0t V3 V3,Js,Js,by grind,Z0t V3 V3,trivial,trivial⟩
theorem ZHO:ZFH:=by
 intro N p q _ hp hN
 obtain ⟨op,oq⟩:=hp
 dsimp only at op oq
 have ax:8*(Z0 p+Z0 q)+1 < N+1:=hN
 obtain ⟨dp,rp⟩:=op.2.2
 obtain ⟨dq,rq⟩:=oq.2.2
 have d:=ZuI rp rq
 unfold Z02 at d
 have gp:=ZB op.2.1
 have gq:=ZB oq.2.1
 have cp:=Z0f p;have cq:=Z0f q;have am:=op.1;have ar:=oq.1
 have fin:∀ {X:Edit} {b:Bool} {s:LSt U},JM p q=(X,b)->YZ cfg Tryz.f112.ntmps Tryz.f112.results.toList (.tup [(true,enc .edit X),(false,[.bool b])]) [] .ret s->YZ cfg Tryz.f112.ntmps Tryz.f112.results.toList (Z6L (p,q,())) [] .ret s:=by
  intro X b s h hs
  refine Yz ?_ hs
  simp only [Z6L]
  rw [h]
  try rfl
 refine ZJQ N p q _ ?_
 intro y1 h1 y2 h2 y3 h3 y4 h4 y5 h5
 replace h1:=h1.symm;replace h2:=h2.symm;replace h3:=h3.symm;replace h4:=h4.symm
 subst h1 h2 h3 h4
 (simp only [iB,vcT,vcS])
 refine ⟨fun p0=> fin (by rw [d,if_pos p0]) V2,fun p0=> ?_⟩
 rw [if_neg p0] at d
 refine ⟨fun q0=> fin (by rw [d,if_pos q0]) V2,fun q0=> ?_⟩
 rw [if_neg q0] at d
 refine ⟨fun p1=> ⟨Za1 oq V1 gp.2.1,fin (by rw [d,if_pos p1]) V2⟩,fun p1=> ?_⟩
 rw [if_neg p1] at d
 refine ⟨fun q1=> ⟨ZmM op,by rw [h5];exact Za1 (Z8v op).2 V1 gq.1,fin (by rw [d,if_pos q1,<-h5]) V2⟩,fun q1=> ?_⟩
 rw [if_neg q1] at d
 refine ⟨fun hk=> fin (by rw [d,if_pos hk]) V2,fun hk=> ?_⟩
 rw [Jv] at d
 refine ⟨fun p2=> ?_,fun p2=> ?_⟩
 .rw [if_pos p2] at d
  refine ⟨⟨p2,V4,op,oq⟩,by show 8*(Z0 p+Z0 q) < N;omega,fin (X:=(ZiX p q).1) (b:=(ZiX p q).2) d V2⟩
 .rw [if_neg p2] at d
  have:=(Zd rp).kind
  refine ⟨⟨V4,V4,op,oq⟩,by show 8*(Z0 p+Z0 q) < N;omega,fin (X:=(ZiY p q).1) (b:=(ZiY p q).2) d V2⟩
theorem Zr3{e:Edit}(h:YT e)(n:Int):∀ w,Z2C e.words n=some w->wOk w:=by
 intro w hw
 obtain ⟨d,hr⟩:=h.2.2
 have s:=List.mem_of_find?_eq_some hw
 have a:=Yj (Zd hr).words w s
 exact ⟨(ZB h.2.1).2.2.1 w s,a.2.2.2.1,a.2.2.2.2⟩
theorem ZzO{e:Edit}(h:YT e)(n:Int):YT (Z0x e.kids n):=by
 rcases Z8b e.kids n with ⟨a,_⟩ | ⟨k,hk,a⟩
 .rw [a];exact Z7G
 .rw [a]
  obtain ⟨d,s⟩:=h.2.2
  have c:=Zde hk
  have:=Z0f e
  have:=h.1
  exact ⟨V1,(YB (ZB h.2.1).2.2.2.1 hk).2,_,(Zk (Zd s).kids k hk).2⟩
theorem ZHI:ZFz:=by
 intro N p q _ hp hN
 obtain ⟨k2,l2,op,oq⟩:=hp
 dsimp only at k2 l2 op oq
 have bk:8*(Z0 p+Z0 q) < N+1:=hN
 obtain ⟨dp,rp⟩:=op.2.2
 obtain ⟨dq,rq⟩:=oq.2.2
 have cp:=Z0f p;have cq:=Z0f q;have b6:=op.1;have b2:=oq.1
 have kl:=fun l=> Z5P l
 have ae:p.words.length<=1000000/\q.words.length<=1000000:=⟨V1,V1⟩
 have kn:∀ l:List Kid,65600*l.length<=Z08 l:=by
  intro l
  induction l with
  | nil=> simp
  | cons a r ih=> simp only [Q8,Z08,Z30];omega
 have bv:=kn p.kids
 have bo:=kn q.kids
 have nl:∀ a b:List Int,(YJ a b).length<=a.length+b.length:=by
  intro a b
  have:∀ (k:Nat) (a b:List Int),a.length+b.length<=k->(YJ a b).length<=a.length+b.length:=by
   intro k
   induction k with
   | zero=>
    intro a b h
    have e1:a=[]:=Q3 V1
    have e2:b=[]:=Q3 V1
    subst e1 e2
    rw [YJ];simp
   | succ k ih=>
    intro a b h
    match a,b with
    | [],b=> rw [YJ];simp
    | x ::a,[]=> rw [Z4r];simp
    | x ::a,y ::b=>
     simp only [Q8] at h
     rw [YJ]
     grind
  exact this _ a b (Q9 _)
 generalize hw:YJ (p.words.map WEdit.at_) (q.words.map WEdit.at_)=wn
 generalize hk:YJ (p.kids.map KidOf.at_) (q.kids.map KidOf.at_)=kn'
 have br:wn.length<=2000000:=by rw [<-hw];have:=nl (p.words.map WEdit.at_) (q.words.map WEdit.at_);simp only [Qt] at this;omega
 have bj:kn'.length<=2000000:=by rw [<-hk];have:=nl (p.kids.map KidOf.at_) (q.kids.map KidOf.at_);simp only [Qt] at this;omega
 have fin:∀ {X:Edit} {b:Bool} {s:LSt U},ZiX p q=(X,b)->YZ cfg Tryz.f167.ntmps Tryz.f167.results.toList (.tup [(true,enc .edit X),(false,[.bool b])]) [] .ret s->YZ cfg Tryz.f167.ntmps Tryz.f167.results.toList (Z6H (p,q,())) [] .ret s:=by
  intro X b s h hs
  refine Yz ?_ hs
  simp only [Z6H]
  rw [h]
  try rfl
 refine ZJt N p q _ ?_
 have aj:p.kids.length<=1000000/\q.kids.length<=1000000:=⟨V1,V1⟩
 refine ⟨⟨⟨ae.1,aj.1⟩,ae.2,aj.2⟩,?_⟩
 refine Z7 (ι:=Int × List WEdit) (fun s=> Z2I p q s.1 s.2) (fun s=> (0<=s.1/\s.1<=wn.length)/\Z0p p.words q.words wn=(Z0p p.words q.words (wn.drop s.1.toNat)).map (s.2++·)/\(s.2.length:Int)<=s.1) (fun s=> ((wn.length:Int) - s.1).toNat) (0,[]) rfl ⟨by simp,by simp,by simp⟩ ?_
 rintro ⟨i,out⟩ ⟨⟨i0,i1⟩,f3,f4⟩
 dsimp only at i0 i1 f3 f4
 refine ZwI N p q _ _ _ _ ?_
 intro y1 h1 d h2 y3 h3 y4 h4 y5 h5 y6 h6 y7 h7
 subst h1 h2
 rw [hw] at h3
 subst h3
 (simp only [iB,vcT,vcS])
 refine ⟨fun hi=> ?_,fun hi=> ?_⟩
 .have hd:y3.drop i.toNat=y4 ::y3.drop (i+1).toNat:=by rw [h4];exact ZS i0 hi 0
  rw [hd,Z0p] at f3
  have go:∀ (w:WEdit) (N0:LSt U->Prop) (Q:AExit->LSt U->Prop),N0 (Z2I y1 d (i+1) (out++[w]))->Zjb N [1,1,1,0,1,0,0,1,1] (Z60 y1 d i (out++[w])) (AExit.then N0 (AExit.inBlock 0 (ZqX N [1,1,1,1] Q))):=by
   intro w N0 Q h
   exact ZwJ N _ _ _ _ _ _ ⟨V5,h⟩
  have nx:∀ w:WEdit,Z0p y1.words d.words y3=(Z0p y1.words d.words (y3.drop (i+1).toNat)).map ((out++[w])++·)->∃ j:Int × List WEdit,Z2I y1 d (i+1) (out++[w])=Z2I y1 d j.1 j.2/\((0<=j.1/\j.1<=y3.length)/\Z0p y1.words d.words y3=(Z0p y1.words d.words (y3.drop j.1.toNat)).map (j.2++·)/\(j.2.length:Int)<=j.1)/\((y3.length:Int) - j.1).toNat < ((y3.length:Int) - i).toNat:=by
   intro w av
   exact ⟨(i+1,out++[w]),rfl,⟨⟨V1,V1⟩,av,by grind⟩,V1⟩
  have b3:∀ (w:WEdit) (o:Option (List WEdit)),(o.map (w ::·)).map (out++·)=o.map ((out++[w])++·):=fun w o=> by cases o <;> simp
  have rm:out.length+1<=3000000:=V1
  refine ⟨⟨i0,hi⟩,ae.1,⟨i0,hi⟩,ae.2,fun hb=> ⟨by grind,go _ _ _ (nx _ ?_)⟩,fun hb=> ⟨fun ha=> ⟨by grind,go _ _ _ (nx _ ?_)⟩,fun ha=> ?_⟩⟩
  .grind
  .grind
  .obtain ⟨y,hy⟩:=Qx.1 hb
   obtain ⟨x,hx⟩:=Qx.1 ha
   rw [hy] at h6
   rw [hx] at h5
   have h5:y5=x:=h5
   have h6:y6=y:=h6
   subst h5 h6
   rw [hx,hy] at f3
   dsimp only at f3
   refine ⟨⟨Zr3 op y4 _ hx,Zr3 oq y4 _ hy⟩,fun hc=> fin (X:=Edit.nil) (b:=false) ?_ V2,fun hc=> ⟨by grind,go _ _ _ (nx _ ?_)⟩⟩
   .rw [if_neg (by grind)] at f3
    unfold ZiX
    grind
   grind
 .rw [Q6 V1,Z0p] at f3
  have f3:Z0p y1.words d.words y3=some out:=by rw [f3];simp
  refine Z7 (ι:=Int × List Kid) (fun s=> Z9t y1 d out s.1 s.2) (fun s=> (0<=s.1/\s.1<=kn'.length)/\Z03 JM y1.kids d.kids kn'=(Z03 JM y1.kids d.kids (kn'.drop s.1.toNat)).map (s.2++·)/\(s.2.length:Int)<=s.1) (fun s=> ((kn'.length:Int) - s.1).toNat) (0,[]) rfl ⟨by simp,by simp,by simp⟩ ?_
  rintro ⟨j,ks⟩ ⟨⟨j0,j1⟩,g3,g4⟩
  dsimp only at j0 j1 g3 g4
  refine ZwH N y1 d _ _ _ _ _ ?_
  intro z1 q1 z2 q2 z3 q3 z4 q4 z5 q5 z6 q6 z7 q7
  subst q1 q2
  rw [hk] at q3
  subst q3
  (simp only [iB,vcT,vcS])
  refine ⟨fun hj=> ?_,fun hj=> ?_⟩
  .have hd:z3.drop j.toNat=z4 ::z3.drop (j+1).toNat:=by rw [q4];exact ZS j0 hj 0
   rw [hd,Z03] at g3
   have ai:z4∈z3:=by rw [q4];exact Zh V1 _
   rw [<-hk] at ai
   obtain ⟨m1,_,_⟩:=Zof rp rq ai
   rw [<-q5,<-q6] at g3 m1
   refine ⟨⟨j0,hj⟩,by dsimp only [ZdK];omega,⟨j0,hj⟩,by dsimp only [ZdK];omega,⟨by rw [q5];exact ZzO op z4,by rw [q6];exact ZzO oq z4⟩,by show 8*(Z0 z5+Z0 z6)+1 < N;omega,fun hc=> fin (X:=Edit.nil) (b:=false) ?_ V2,fun hc=> ⟨⟨j0,hj⟩,by grind,V5,(j+1,ks++[⟨z4,z7⟩]),rfl,⟨⟨V1,V1⟩,?_,by grind⟩,V1⟩⟩
   .rw [if_neg (by grind)] at g3
    unfold ZiX
    grind
   .rw [if_pos hc] at g3
    rw [g3,<-q7]
    cases Z03 JM z1.kids z2.kids (z3.drop (j+1).toNat) <;> simp
  .rw [Q6 V1,Z03] at g3
   have g3:Z03 JM z1.kids z2.kids z3=some ks:=by rw [g3];simp
   refine fin (X:= .mk 2 Tree.nil Tree.nil out ks 0 []) (b:=true) ?_ V2
   unfold ZiX
   grind
theorem Zrd{e:Edit}(h:YT e){o:Op}(ho:o∈e.ops){a:Int}{u:AUnit}(hu:UnitOf o a u):uOk u:=by
 obtain ⟨d,hr⟩:=h.2.2
 have hk:=Y8 (ZG hr o ho)
 have c:=Z8r ho
 have ce:=Z0f e
 have h1:=h.1
 have g:=Z0j (JL (ZB h.2.1).2.2.2.2 ho)
 have R:=rightOs_mem (Zd hr).ops ho
 refine ⟨by rw [hu.kind];rcases hk with k | k | k | k <;> omega,?_,?_,fun s=> ?_⟩
 .rcases hu.t with e | e
  .rw [e];decide
  .have:=Jb e;omega
 .rcases hu.t with e | e
  .rw [e];exact Js
  .exact Jl g.2.2.1 e
 .rw [hu.into s]
  exact ⟨V1,g.2.2.2,_,Ye R (by rw [<-hu.kind];exact s)⟩
theorem ZuS:∀ (k:Nat) (P Q:List AUnit) (out:List APair),P.length+Q.length<=k->(Yg P Q out).1.length<=out.length+P.length+Q.length:=by
 intro k
 induction k with
 | zero=>
  intro P Q out d
  have e1:P=[]:=Q3 V1
  have e2:Q=[]:=Q3 V1
  subst e1 e2
  rw [Yg,dif_neg (by simp [alo]),dif_neg (by simp [alo]),dif_pos (by simp),if_pos rfl];simp
 | succ k ih=>
  intro P Q out d
  rw [Yg]
  by_cases h1:alo P=true
  .rw [dif_pos h1]
   have hl:=(of_decide_eq_true h1).1
   grind
  .rw [dif_neg h1]
   by_cases h2:alo Q=true
   .rw [dif_pos h2]
    have hl:=(of_decide_eq_true h2).1
    grind
   grind
noncomputable def rp_(x:APair):List Op × Bool:=rp JM x
theorem ZHH:ZFy:=by
 intro N p q _ hp hN
 obtain ⟨k3,l3,op,oq⟩:=hp
 dsimp only at k3 l3 op oq
 have bk:8*(Z0 p+Z0 q) < N+1:=hN
 obtain ⟨dp,am⟩:=op.2.2
 obtain ⟨dq,ah⟩:=oq.2.2
 have cp:=Z0f p;have cq:=Z0f q;have bw:=op.1;have bt:=oq.1
 have af:=ZG am
 have ab:=ZG ah
 have s1:=ZjB am
 have s2:=ZjB ah
 have n1:=kids_sum af
 have n2:=kids_sum ab
 have u1:=Z6i 1 p.ops 0 af
 have u2:=Z6i 2 q.ops 0 ab
 have m1:=Z2B p.ops
 have m2:=Z2B q.ops
 have fin:∀ {X:Edit} {b:Bool} {s:LSt U},ZiY p q=(X,b)->YZ cfg Tryz.f168.ntmps Tryz.f168.results.toList (.tup [(true,enc .edit X),(false,[.bool b])]) [] .ret s->YZ cfg Tryz.f168.ntmps Tryz.f168.results.toList (Z6G (p,q,())) [] .ret s:=by
  intro X b s h hs
  refine Yz ?_ hs
  simp only [Z6G]
  rw [h]
  try rfl
 refine ZJs N p q _ ?_
 (simp only [iB,vcT,vcS])
 have bm:((ZO 0 1 p.ops).length:Int)<=120000000000:=V1
 have br:((ZO 0 2 q.ops).length:Int)<=120000000000:=V1
 have a8:Zg p.ops<=20000000000:=V1
 have az:Zg q.ops<=20000000000:=V1
 refine ⟨⟨⟨af,a8⟩,V4⟩,⟨⟨ab,az⟩,V4⟩,⟨V4,V4⟩,fun hb=> ?_,fun hb=> ?_⟩
 .refine fin (X:=Edit.nil) (b:=false) ?_ V2
  unfold ZiY Z4Q
  by_cases hl:p.list=q.list
  .rw [Jv,if_neg]
   rcases hb with h | h
   .rw [h];decide
   .exact absurd hl h
  .rw [if_pos hl]
 .have hL:ZiY p q=match YI JM (Yg (ZO 0 1 p.ops) (ZO 0 2 q.ops) []).1 with
    | some l=> (.mk 3 Tree.nil Tree.nil [] [] p.list l,true)
    | none=> (Edit.nil,false):=by
   unfold ZiY Z4Q
   rw [Jv,if_pos hb.1]
   cases YI JM (Yg (ZO 0 1 p.ops) (ZO 0 2 q.ops) []).1 <;> rfl
  have pm:=ZjQ _ (ZO 0 1 p.ops) (ZO 0 2 q.ops) [] (Q9 _)
  have pl:=ZuS _ (ZO 0 1 p.ops) (ZO 0 2 q.ops) [] (Q9 _)
  generalize hps:Yg (ZO 0 1 p.ops) (ZO 0 2 q.ops) []=ps at*
  have pl:ps.1.length<=8000000:=by simp only [Qh] at pl;omega
  refine Z7 (ι:=Int × List Op) (fun s=> Z2H p q s.1 s.2) (fun s=> (0<=s.1/\s.1<=ps.1.length)/\YI JM ps.1=(YI JM (ps.1.drop s.1.toNat)).map (s.2++·)/\(s.2.length:Int)<=s.1) (fun s=> ((ps.1.length:Int) - s.1).toNat) (0,[]) rfl ⟨by simp,by simp,by simp⟩ ?_
  rintro ⟨i,out⟩ ⟨⟨i0,i1⟩,d,f4⟩
  dsimp only at i0 i1 d f4
  refine ZwF N p q _ _ _ _ ?_
  intro y1 h1 y2 h2 y3 h3 y4 h4 y5 h5 y6 h6
  rw [hps] at h1
  subst h1
  (simp only [iB,vcT,vcS])
  refine ⟨fun hi=> ?_,fun hi=> ?_⟩
  .have hd:y1.1.drop i.toNat=y2 ::y1.1.drop (i+1).toNat:=by rw [h2];exact ZS i0 hi _
   rw [hd,Z0B] at d
   have au:y2∈y1.1:=by rw [h2];exact Zh V1 _
   have a9:=pm y2 au
   have go:∀ (w:List Op) (N0:LSt U->Prop) (Q:AExit->LSt U->Prop),N0 (Z2H p q (i+1) (out++w))->ZoW N [1,1,1,1,0,1,0,0,1,1] (Z5Z p q i (out++w)) (AExit.then N0 (AExit.inBlock 0 (ZAO N [1,1,1,1,1] Q))):=by
    intro w N0 Q h
    exact ZwG N _ _ _ _ _ _ ⟨V5,h⟩
   have nx:∀ w:List Op,w.length<=1->YI JM y1.1=(YI JM (y1.1.drop (i+1).toNat)).map ((out++w)++·)->∃ j:Int × List Op,Z2H p q (i+1) (out++w)=Z2H p q j.1 j.2/\((0<=j.1/\j.1<=y1.1.length)/\YI JM y1.1=(YI JM (y1.1.drop j.1.toNat)).map (j.2++·)/\(j.2.length:Int)<=j.1)/\((y1.1.length:Int) - j.1).toNat < ((y1.1.length:Int) - i).toNat:=by
    intro w b1 a6
    exact ⟨(i+1,out++w),rfl,⟨⟨V4,V4⟩,a6,by simp only [List.length_append];omega⟩,V4⟩
   have al:∀ (w:List Op) (o:Option (List Op)),(o.map (w++·)).map (out++·)=o.map ((out++w)++·):=fun w o=> by cases o <;> simp
   refine ⟨⟨i0,hi⟩,fun c1=> ?_,fun c1=> ⟨fun c2=> ?_,fun c2=> ?_⟩⟩
   .have e:rp_ y2=([y5],true):=by unfold rp_ rp;rw [if_pos c1,<-h3,<-h5]
    rw [show rp JM y2=([y5],true) from e] at d
    exact ⟨⟨i0,hi⟩,trivial,by simp only [Q8,Qh];omega,go _ _ _ (nx _ (by simp) (by rw [d];exact al _ _))⟩
   .have e:rp_ y2=([y6],true):=by unfold rp_ rp;rw [if_neg c1,if_pos c2,<-h4,<-h6]
    rw [show rp JM y2=([y6],true) from e] at d
    exact ⟨⟨i0,hi⟩,trivial,by simp only [Q8,Qh];omega,go _ _ _ (nx _ (by simp) (by rw [d];exact al _ _))⟩
   .have e:rp_ y2=Z0E JM y3 y4:=by unfold rp_ rp;rw [if_neg c1,if_neg c2,<-h3,<-h4]
    rw [show rp JM y2=Z0E JM y3 y4 from e] at d
    rcases a9 with m | ⟨_,⟨m1,a1⟩,m2,a2⟩ | ⟨m,_⟩ | ⟨m,_⟩
    .cases m
    .rw [<-h3] at m1 a1
     rw [<-h4] at m2 a2
     obtain ⟨o1,ao,aj⟩:=Z5s af m1
     obtain ⟨o2,av,ai⟩:=Z5s ab m2
     have w1:=(Z8u am ao aj).1
     have w2:=(Z8u ah av ai).1
     have ul:(Z0E JM y3 y4).1.length<=1:=by
      unfold Z0E
      split
      .simp
      .split
       .simp
       .split
        .simp
        .split
         .simp
         .split <;> simp
     refine ⟨⟨i0,hi⟩,⟨i0,hi⟩,⟨⟨Zrd op ao aj,Zrd oq av ai⟩,fun h=> ?_,fun h=> ?_⟩,by show 8*(Z0 y3.e+Z0 y4.e)+2 < N;omega,fun hc=> fin (X:=Edit.nil) (b:=false) ?_ V2,fun hc=> ⟨V1,go _ _ _ (nx _ ul ?_)⟩⟩
     .have h:y3.kind=1:=h
      have:=aj.alone (.inl h)
      rw [a1,decide_eq_true h] at this;cases this
     .have h:y4.kind=2:=h
      have:=ai.alone (.inr h)
      rw [a2,decide_eq_true h] at this;cases this
     .rw [if_neg (by rw [hc];decide)] at d
      rw [hL,d]
      try rfl
     .rw [d,if_pos hc]
      exact al _ _
    .exact absurd m c1
    .exact absurd m c2
  .rw [Q6 V1,YI] at d
   have d:YI JM y1.1=some out:=by rw [d];simp
   refine fin (X:= .mk 3 Tree.nil Tree.nil [] [] p.list out) (b:=true) ?_ V2
   rw [hL,d]
theorem ZHB:ZFr:=by
 intro N p q _ hp hN
 obtain ⟨⟨op,oq⟩,np,nq⟩:=hp
 dsimp only at op oq np nq
 have a8:8*(Z0 p.e+Z0 q.e)+2 < N+1:=hN
 obtain ⟨kp,mp,gp,rp⟩:=op
 obtain ⟨kq,mq,gq,rq⟩:=oq
 have fin:∀ {l:List Op} {b:Bool} {s:LSt U},Z0E JM p q=(l,b)->YZ cfg Tryz.f214.ntmps Tryz.f214.results.toList (.tup [(false,[.slice (U:=U) .op l .unk]),(false,[.bool b])]) [] .ret s->YZ cfg Tryz.f214.ntmps Tryz.f214.results.toList (Z6E (p,q,())) [] .ret s:=by
  intro l b s h hs
  refine Yz ?_ hs
  simp only [Z6E]
  rw [h]
 have d:=Z0E.eq_1 JM p q
 refine ZIW N p q _ ?_
 intro y1 h1 y2 h2 y3 h3 y4 h4 y5 h5 y6 h6 y7 h7 y8 h8 y9 h9 a2 ah ba ar ax ak
 replace h1:=h1.symm;replace h2:=h2.symm
 subst h1 h2
 (simp only [iB,vcT,vcS])
 refine ⟨fun q0=> ⟨trivial,fin (by rw [d,if_pos q0,<-h7]) V2⟩,fun q0=> ?_⟩
 rw [if_neg q0] at d
 refine ⟨fun p0=> ⟨trivial,fin (by rw [d,if_pos p0,<-h8]) V2⟩,fun p0=> ?_⟩
 rw [if_neg p0] at d
 refine ⟨fun c=> ⟨⟨by rw [h5];dsimp only;omega,by rw [h6];dsimp only;omega⟩,fin (by rw [d,if_pos c,<-h5,<-h6]) V2⟩,fun c=> ?_⟩
 rw [Jv] at d
 refine ⟨fun p2=> ?_,fun p2=> ?_⟩
 .rw [if_pos p2,<-h4,<-h5,<-ar] at d
  have ab:q.kind=3:=V1
  exact ⟨by rw [h4,h5];exact Za1 (rq ab) V1 gp,fin d V2⟩
 rw [if_neg p2] at d
 have aa:p.kind=3:=V1
 refine ⟨fun q1=> ?_,fun q1=> ?_⟩
 .rw [if_pos q1,<-h3,<-h6,<-ah,<-ak] at d
  exact ⟨by rw [h3];exact ZmM (rp aa),by rw [ah,h3,h6];exact Za1 (Z8v (rp aa)).2 V1 gq,fin d V2⟩
 .rw [if_neg q1,<-h3,<-h4,<-h9] at d
  have ab:q.kind=3:=V1
  exact ⟨⟨by rw [h3];exact rp aa,by rw [h4];exact rq ab⟩,by rw [h3,h4];show 8*(Z0 p.e+Z0 q.e)+1 < N;omega,fin d V2⟩
theorem ZKh:Contract Tryz.prog cfg 112 Z8K/\Contract Tryz.prog cfg 167 Zrr/\Contract Tryz.prog cfg 168 Zrq/\Contract Tryz.prog cfg 214 Zrj:=
 ZyN ZHr ZHs ZHo ZH5 ZH3 ZH4 ZHm ZHn ZHb ZvM ZHO ZHI ZHH ZHB
theorem ZHw:Contract Tryz.prog cfg 112 Z8K:=ZKh.1
noncomputable section
def Zym(a:Edit × Edit × Unit):Prop:=refOk a.1/\refOk a.2.1
def ZrP(a:Edit × Edit × Unit):V U:= .tup [(true,(enc .edit ((Z5a a.1 a.2.1).1))),(false,[.bool ((Z5a a.1 a.2.1).2)])]
def ZgG:Fs U:=fs ZqV (fun a=> [Zym a]) ZrP
def ZzD:List (FuncId × Fs U):=[(112,Z8K),(29,Z24)]
abbrev A72(p:List Nat):=AW (Z3 ZzD) Tryz.f72 ZGJ p
theorem ZKS(p q:Edit)(Q:QT)(h:∀ s,s=p->∀ d,d=q->∀ aa,aa=((JM s d).1)->((Z34 (s,d,()))/\(iB (!((JM s d).2)) ((Q .ret (L2 [pL 4,pB 5 false] [(.loc 4,zc1)]))) ((Z4f (aa,()))/\(Q .ret (L2 [pL 4,pB 5 true] [(.loc 4,(enc .edit (Zp aa)))])))))):
  A72 [] (L2 [(0,.agg (enc .edit p)),(1,.agg (enc .edit q))] []) Q:=
 Eq.mpr V6 (h _ (Z5 _) _ (Z5 _) _ (Z5 _))
def ZIb(p q:Edit):Prop:=AW (Z3 ZzD) Tryz.f72 ZGJ [] (Zm (ZqV.can (p,q,())) []) (EQ Tryz.f72 (ZrP (p,q,())) [])
theorem ZGi(ZHw:CT 112 Z8K)(c29:CT 29 Z24)(hb:∀ (p:Edit) (q:Edit) (_:Unit),Zym (p,q,())->ZIb p q):CT 72 ZgG:=
 Z9 (l:=[(112,Z8K),(29,Z24)]) Zo rfl (⟨ZHw,c29,trivial⟩) ZGJ Tryz.func72 rfl rfl 2 (fun _=> rfl) V3 (fun ⟨p,q,_⟩=> hb p q ())
end
theorem ZzU{t:Tree}(h:Zir t=true)(hr:rng t):Zq t<=20000000000/\RT_ t/\Zr t 64=true/\t.kind≠10:=by
 unfold Zir at h
 simp only [Q2,decide_eq_true_eq] at h
 exact ⟨Zkj h.1.1,⟨⟨64,h.1.2⟩,hr⟩,h.1.2,h.2⟩
theorem ZKd{t:Tree}(h:Zir t=true):Zq t<=3000:=by
 unfold Zir at h
 simp only [Q2,decide_eq_true_eq] at h
 have:=Z27 t 80 3000 h.1.1
 omega
theorem ZzT{e:Edit}(h:Z0y e=true):Z0 e<=3000/\Z1 e 64=true:=by
 simp only [Z0y,Q2,decide_eq_true_eq] at h
 exact ⟨Zep h.1.1,h.1.2⟩
theorem ZpK{r:Bool}{e:Edit}{t:Tree}(hr:∃ d,Z1 e d=true)(ht:Zq t+ctE e<=200000000000):Zq (YP (doE r e t))<=1000000000000:=by
 cases h:doE r e t with
 | none=> trivial
 | some u=> exact Zoy hr ht h
theorem ZpJ(o:Option Tree):YP (o.map Z6)=Z6 (YP o):=by cases o;exact ZjU.symm;rfl
theorem Zfx(o:Option Tree):(o.map Z6).isSome=o.isSome:=by grind
mutual
theorem Z1p:∀ t:Tree,Zq t<=17592186044416->Z0R t
 | .mk k w ks,h=> by
  simp only [Zq] at h
  have:=ZD ks
  exact ⟨V1,V1,Z45 ks V1⟩
theorem Z45:∀ l:List Tree,Ze l<=17592186044416->Z1H l
 | [],_=> trivial
 | t ::r,h=> by
  simp only [Ze] at h
  exact ⟨Z1p t V1,Z45 r V1⟩
end
theorem ZpU{e:Edit}{t:Tree}(hr:∃ d,Z1 e d=true)(ht:Zq t+ctE e<=200000000000):Zq (YP ((doE false e t).map Z6))<=1000000000000:=by
 rw [ZpJ]
 exact QN (Y5 _) (ZpK hr ht)
theorem c72:Contract Tryz.prog cfg 72 ZgG:=by
 refine ZGi ZHw ZqJ.1 ?_
 intro p q _ h
 have s:=h.1.re
 have r2:=h.2.re
 dsimp only at s r2
 refine ZKS _ _ _ ?_
 intro d h1 y2 h2 y3 h3
 subst h1 h2
 (simp only [iB,vcT,vcS])
 refine ⟨⟨s,r2⟩,fun hc=> ?_,fun hc=> ?_⟩
 .refine Yz (r':= .tup [(true,enc .edit Edit.nil),(false,[.bool false])]) ?_ V2
  simp only [ZrP,Z5a]
  rw [if_neg (by grind)]
  try rfl
 .have k1:=Ju s
  have k2:=Ju r2
  obtain ⟨W,hu⟩:=Zya _ d y2 (Q9 _) V1 (Z8R s) (Z8R r2)
  have hu:=hu hc
  have wr:=(W.wk hc).r
  have m1:=Zcv (JM d y2).1
  have m2:=ZiC _ (JM d y2).1 (Q9 _) ⟨_,wr⟩
  have e:Z0N (Z0 d+Z0 y2) d y2=JM d y2:=rfl
  rw [e] at hu
  have u1:=h.1.1
  have u2:=h.2.1
  dsimp only at u1 u2
  refine ⟨by rw [h3];exact ⟨by grind,-1,wr⟩,Yz (r':= .tup [(true,enc .edit (Zp y3)),(false,[.bool true])]) ?_ V2⟩
  simp only [ZrP,Z5a]
  rw [if_pos hc,h3]
  try rfl
theorem Ziq{e:Edit}(h:Z0y e=true)(g:ZX e):refOk e/\Z0 e<=3000/\Z1 e 64=true:=by
 obtain ⟨m,r⟩:=ZzT h
 have hl:Jz e=true:=by
  simp only [Z0y,Q2] at h
  exact h.2
 have:=ZmL _ e (Q9 _) ⟨64,r⟩ hl
 exact ⟨⟨V1,g,64,r⟩,m,r⟩
theorem ZAc{p q:Edit}(hp:refOk p)(hq:refOk q):Z1A p q=Z5a p q:=by
 obtain ⟨d1,s⟩:=hp.2.2
 obtain ⟨d2,d⟩:=hq.2.2
 have m1:=Ju hp.re
 have m2:=Ju hq.re
 have A:=ZAe (p:=p) (q:=q) V1 s d
 unfold Z1A Z5a
 rw [A.ok]
 by_cases h:(JM p q).2=true
 .rw [if_pos h,if_pos h,A.nrm (by rw [A.ok];exact h)]
 grind
theorem ZeN(list d:Int):∀ a b:List Op,ZA list (a++b) d=(ZA list a d && ZA list b d)
 | [],b=> by rfl
 | o ::r,b=> by rw [Qj,ZA,ZA,ZeN list d r b,Bool.and_assoc]
theorem Zo8:∀ (a b:List Op) (n:Int),Jp (a++b) n=Jp b (Jp a n)
 | [],_,_=> rfl
 | o ::r,b,n=> by rw [Qj,Jp,Jp,Zo8 r b]
theorem Zo7:∀ (a b:List Op) (n:Int),Z11 (a++b) n=Z11 b (Z11 a n)
 | [],_,_=> rfl
 | o ::r,b,n=> by rw [Qj,Z11,Z11,Zo7 r b]
theorem ZbT(list d:Int){n:Int}(h0:0<=n)(h1:n<=1048576):ZA list (JQ n) d=true:=by
 unfold JQ
 split
 .try rfl
 .rw [ZA,ZA,Za,if_pos rfl,Xf,decide_eq_true (by simp;omega)];decide
theorem Zk6{n c:Int}(h0:0<=n)(h:c<=1048576):Jp (JQ n) c=min (c+n) 1048576:=by
 unfold JQ
 split
 .simp only [Jp];omega
 .simp only [Jp,Z2,if_neg (show ¬(0:Int)=2 by decide),if_neg (show ¬(0:Int)=3 by decide),Qh]
  omega
theorem Zk5{n c:Int}(h0:0<=n)(h:c<=1048576):Z11 (JQ n) c=min (c+n) 1048576:=by
 unfold JQ
 split
 .simp only [Z11];omega
 .simp only [Z11,Z2,if_neg (show ¬(0:Int)=1 by decide),if_neg (show ¬(0:Int)=3 by decide),Qh]
  omega
theorem Z9d(n:Int):(JQ n).length<=1:=by unfold JQ;split <;> simp
theorem Zi4(n:Int):Zg (JQ n)<=3:=by
 unfold JQ
 split
 .simp [Zg]
 .simp only [Zg,Zs,Ze,Zk2];omega
theorem ZbQ:ZX Edit.nil:=by simp [Edit.nil,ZX,Tree.nil,rng,J6,Z1r,Z0D,InR]
theorem ZdB:∀ {l:List Op},(∀ o∈l,YH o)->Z0D l
 | [],_=> trivial
 | o ::r,h=> ⟨h o Q1,ZdB fun x d=> h x (Q0 _ d)⟩
theorem Zjt{n:Int}(h:InR n):∀ o∈JQ n,YH o:=by
 unfold JQ
 split
 .simp
 .intro o d
  simp only [Qe] at d
  subst d
  exact ⟨by trivial,h,trivial,ZbQ⟩
theorem Z6C:Z1 Edit.nil 64=true:=Z7z (by rfl) 64 V3
theorem ZD5(x:Tree):doE false Edit.nil x=some x:=by rfl
theorem ZbL:∀ (a b:List Edit) (t:Tree),J3 (a++b) t=(J3 a t).bind (J3 b)
 | [],b,t=> rfl
 | e ::r,b,t=> by
  rw [Qj,J3,J3]
  cases doE false e t with
  | none=> rfl
  | some v=> exact ZbL r b v
theorem ZdX{e:Edit}(h:e.kind≠0):Zn e≠[]:=by
 rw [Z0G,if_neg h]
 grind
theorem ZD3(w:WEdit)(t:Tree):doE false (Z1o w) t=if t.kind=1 then (wsD t.words [w] t.words).map fun a=> .mk 1 a t.kids else none:=by
 unfold Z1o
 rw [Ztn]
 simp only [JC,Qf]
 split
 .cases wsD t.words [w] t.words <;> rfl
 .try rfl
theorem ZA3(a:Int)(x:Edit)(t:Tree):doE false (Z7j a x) t=if t.kind=1 then (doE false x (t.kids.getD a.toNat Tree.nil)).map fun u=> .mk 1 t.words (ZP Tree.nil t.kids a.toNat u) else none:=by
 unfold Z7j
 rw [Ztn]
 simp only [wsD,JC,Z2k,Qb]
 split
 .cases doE false x (t.kids.getD a.toNat Tree.nil) <;> rfl
 .try rfl
theorem Zjr{tw:List Int}{ks:List Tree}:∀ {ws:List WEdit} {last:Int} {out:List Int},-1<=last->ZM last ws=true->(∀ j:Nat,last < j->out.getD j 0=tw.getD j 0)->
  J3 (ws.map Z1o) (.mk 1 out ks)=(wsD tw ws out).map fun a=> .mk 1 a ks
 | [],last,out,_,_,_=> by rfl
 | w ::r,last,out,hl,h,ho=> by
  have d:last < w.at_/\ZM w.at_ r=true:=by
   simp only [ZM,Q2,decide_eq_true_eq] at h
   exact ⟨h.1.1.1.1,h.2⟩
  have e:out.getD w.at_.toNat 0=tw.getD w.at_.toNat 0:=ho _ V1
  rw [Qm,J3,ZD3,if_pos (by rfl)]
  simp only [Tree.words_mk,Tree.kids_mk,wsD,e]
  split
  .simp only [Qf,Qb]
   refine Zjr V1 d.2 fun j s=> ?_
   rw [Yw,Jv]
   grind
  .try rfl
theorem ZkT(l:List Tree)(i:Nat)(x y:Tree):ZP Tree.nil (ZP Tree.nil l i x) i y=ZP Tree.nil l i y:=by
 have h:(ZP Tree.nil l i x).length=max l.length (i+1):=Z1q _ _ _ _
 unfold ZP at*
 rw [h,show i+1 - max l.length (i+1)=0 by omega,List.replicate_zero,Qi,List.set_set]
theorem ZrD{ws:List Int}{a:Int}:∀ {l:List Edit} {ks:List Tree},l≠[]->J3 (l.map (Z7j a)) (.mk 1 ws ks)=(J3 l (ks.getD a.toNat Tree.nil)).map fun u=> .mk 1 ws (ZP Tree.nil ks a.toNat u)
 | [],ks,h=> absurd rfl h
 | [x],ks,_=> by
  simp only [Qm,QJ,J3]
  rw [ZA3,if_pos (by rfl)]
  simp_all
 | x ::y ::r,ks,_=> by
  rw [Qm,J3,ZA3,if_pos (by rfl),J3]
  simp only [Tree.words_mk,Tree.kids_mk]
  cases doE false x (ks.getD a.toNat Tree.nil) with
  | none=> rfl
  | some u=>
   simp only [Qf,Qb]
   rw [ZrD (List.cons_ne_nil _ _),Yw,if_pos rfl]
   simp only [ZkT]
theorem Zn1{tk:List Tree}{ws:List Int}{d:Int}:∀ {ks:List Kid} {last:Int} {a b:List Tree},(∀ k∈ks,OptR Eqv (J3 (Zn k.e) (tk.getD k.at_.toNat Tree.nil)) (doE false k.e (tk.getD k.at_.toNat Tree.nil)))->-1<=last->ZC last ks d=true->EqvL a b->(∀ j:Nat,last < j->a.getD j Tree.nil=tk.getD j Tree.nil)->
  OptR Eqv (J3 (Y4 ks) (.mk 1 ws a)) ((JC false tk ks b).map fun b=> .mk 1 ws b)
 | [],last,a,b,_,_,_,he,_=> by
  rw [Y4,J3,JC]
  exact Z2e 1 ws he
 | k ::r,last,a,b,ih,hl,h,he,ho=> by
  obtain ⟨h1,h2,h3⟩:=Z17 h
  have aa:k.e.kind≠0:=by
   rw [ZC,Z4P] at h
   simp only [Q2,decide_eq_true_eq] at h
   exact h.1.1.2.2
  rw [Y4,Z4R,ZbL,ZrD (ZdX aa),ho _ V1,JC,Z2k]
  have s:=ih k Q1
  generalize J3 (Zn k.e) (tk.getD k.at_.toNat Tree.nil)=A at s ⊢
  generalize doE false k.e (tk.getD k.at_.toNat Tree.nil)=B at s ⊢
  cases A with
  | none=> cases B with
   | none=> exact trivial
   | some y=> trivial
  | some x=> cases B with
   | none=> trivial
   | some y=>
    simp only [Qf,Qb]
    refine Zn1 (fun x hx=> ih x (Q0 _ hx)) V1 h3 (Ze3 he s) fun j hj=> ?_
    rw [Yw,Jv]
    grind
noncomputable def Z2U(os:List Op)(s:List Tree):Option (List Tree):=Z0H (ZE false os s [])
theorem Z1w:∀ (os:List Op) (s out:List Tree),ZE false os s out=(ZE false os s []).map fun x=> (out++x.1,x.2)
 | [],s,out=> by simp [ZE]
 | o ::r,s,out=> by
  rw [ZE,ZE,Yr,Yr]
  by_cases h0:o.kind=0
  .rw [if_pos h0,if_pos h0]
   split
   .simp only [Qb]
    rw [Z1w r,Z1w r _ ([]++_)]
    cases ZE false r (s.drop o.n.toNat) [] <;> simp
   .try rfl
  .rw [if_neg h0,if_neg h0]
   by_cases h1:o.kind=1
   .rw [if_pos h1,if_pos h1]
    split
    .simp only [Qb]
     rw [Z1w r]
    .try rfl
   .rw [if_neg h1,if_neg h1]
    by_cases h2:o.kind=2
    .rw [if_pos h2,if_pos h2]
     simp only [Qb]
     rw [Z1w r,Z1w r _ ([]++_)]
     cases ZE false r s [] <;> simp
    .rw [if_neg h2,if_neg h2]
     split
     .try rfl
     .cases doE false o.e (s.getD 0 Tree.nil) with
      | none=> rfl
      | some u=>
       simp only [Qf,Qb]
       rw [Z1w r,Z1w r _ ([]++_)]
       cases ZE false r (s.drop 1) [] <;> simp
theorem Zm8(x:Option (List Tree × List Tree))(out:List Tree):Z0H (x.map fun x=> (out++x.1,x.2))=(Z0H x).map (out++·):=by
 cases x with
 | none=> rfl
 | some x=>
  simp only [Z0H,Qf,Qb]
  split <;> rfl
theorem Zn6(s:List Tree):Z2U [] s=if s.length=0 then some [] else none:=by rfl
theorem Zxz{o:Op}(h:o.kind=0)(r:List Op)(s:List Tree):Z2U (o ::r) s=if o.n.toNat<=s.length then (Z2U r (s.drop o.n.toNat)).map (s.take o.n.toNat++·) else none:=by
 unfold Z2U
 rw [ZE,Yr,if_pos h]
 split
 .simp only [Qb]
  rw [Z1w,Zm8];try rfl
 .try rfl
theorem Zpb{o:Op}(h:o.kind=1)(r:List Op)(s:List Tree):Z2U (o ::r) s=if JR o.l s=true then Z2U r (s.drop o.l.length) else none:=by
 unfold Z2U
 rw [ZE,Yr,Jv,if_pos h]
 split
 .try rfl
 .try rfl
theorem Zpa{o:Op}(h:o.kind=2)(r:List Op)(s:List Tree):Z2U (o ::r) s=(Z2U r s).map (o.l++·):=by
 unfold Z2U
 rw [ZE,Yr,Jv,Jv,if_pos h]
 simp only [Qb]
 rw [Z1w,Zm8];try rfl
theorem Zp9{o:Op}(h:o.kind=3)(r:List Op)(s:List Tree):Z2U (o ::r) s=if s.length=0 then none else (doE false o.e (s.getD 0 Tree.nil)).bind fun u=> (Z2U r (s.drop 1)).map (u ::·):=by
 unfold Z2U
 rw [ZE,Yr,Jv,Jv,Jv]
 split
 .try rfl
 .cases doE false o.e (s.getD 0 Tree.nil) with
  | none=> rfl
  | some u=>
   simp only [Qf,Qb]
   rw [Z1w,Zm8];try rfl
theorem Zh1{n:Int}(h:0<=n)(r:List Op)(s:List Tree):Z2U (JQ n++r) s=if n<=s.length then (Z2U r (s.drop n.toNat)).map (s.take n.toNat++·) else none:=by
 unfold JQ
 by_cases h0:n=0
 .simp_all
 .rw [if_neg h0,Xc,Zxz rfl]
  grind
theorem Z3F{n:Int}(h:0<=n)(s:List Tree):Z2U (JQ n) s=if n=s.length then some s else none:=by
 have:=Zh1 h [] s
 rw [Qi] at this
 rw [this,Zn6]
 by_cases h1:n<=s.length
 .rw [if_pos h1]
  by_cases h2:n=s.length
  .simp_all
  grind
 grind
theorem Zma{l a b:Int}{o:Op}(ha:0<=a)(t:Tree):doE false (Z1v l a o b) t=if t.kind=l/\a<=t.kids.length then (Z2U (o ::JQ b) (t.kids.drop a.toNat)).map fun x=> .mk l [] (t.kids.take a.toNat++x) else none:=by
 unfold Z1v
 rw [ZA4]
 change (if t.kind=l then (Z2U ((JQ a++[o])++JQ b) t.kids).map _ else none)=_
 by_cases h1:t.kind=l
 .rw [if_pos h1,Qc,Zh1 ha]
  by_cases h2:a<=t.kids.length
  .rw [if_pos h2,if_pos ⟨h1,h2⟩,Xc,XV];try rfl
  grind
 grind
theorem ZrC{l a b:Int}(ha:0<=a)(hb:0<=b):∀ {xs:List Edit} {done s:List Tree} {y:Tree},xs≠[]->(done.length:Int)=a->(s.length:Int)=b->
  J3 (xs.map fun x=> Z1v l a ⟨3,0,[],x⟩ b) (.mk l [] (done++y ::s))=(J3 xs y).map fun u=> .mk l [] (done++u ::s)
 | [],_,_,_,h,_,_=> absurd rfl h
 | x ::r,done,s,y,_,h1,h2=> by
  have d:doE false (Z1v l a ⟨3,0,[],x⟩ b) (.mk l [] (done++y ::s))=(doE false x y).map fun u=> .mk l [] (done++u ::s):=by
   rw [Zma ha,if_pos ⟨rfl,by rw [Tree.kids_mk,Q7];omega⟩,Tree.kids_mk,show a.toNat=done.length by omega,List.drop_left,XW,Zp9 rfl,if_neg (by simp)]
   simp only [Qr,QC,QZ]
   rw [Z3F hb,if_pos h2.symm]
   cases doE false x y <;> rfl
  rw [Qm,J3,d,J3]
  cases hx:doE false x y with
  | none=> rfl
  | some u=>
   simp only [Qf,Qb]
   cases r with
   | nil=> rfl
   | cons x2 r=> exact ZrC ha hb (List.cons_ne_nil _ _) h1 h2
theorem Zii{l a b:Int}{o:Op}{t:Tree}{D:Int}(d:Za l o D=true\/(o.kind=3))(hk:o.kind≠0)(ha:0<=a)(hb:0<=b)(h:t.kind≠l\/(t.kids.length:Int)≠a+b+(if o.kind=2 then 0 else Z2 o)):doE false (Z1v l a o b) t=none:=by
 rw [Zma ha]
 by_cases h1:t.kind=l/\a<=t.kids.length
 .rw [if_pos h1]
  have hl:=h.resolve_left (fun x=> x h1.1)
  have hd:((t.kids.drop a.toNat).length:Int)=t.kids.length - a:=by rw [Qv];omega
  have:Z2U (o ::JQ b) (t.kids.drop a.toNat)=none:=by
   by_cases k1:o.kind=1
   .rw [Zpb k1]
    split
    .rename_i s
     have s:=((Z1Z _ _).1 s).1
     have d:Z2 o=o.l.length:=by
      rcases d with d | d
      .exact ZU (Yl d) (.inl k1)
      .omega
     rw [Jv,d] at hl
     rw [Z3F hb,if_neg]
     rw [Qv];omega
    .try rfl
   .by_cases k2:o.kind=2
    .rw [if_pos k2] at hl
     rw [Zpa k2,Z3F hb,Jv];try rfl
    .have k3:o.kind=3:=by
      rcases d with d | d
      .have:=Zu d
       cases this <;> first | rfl | (exfalso;first | exact hk rfl | exact k1 rfl | exact k2 rfl)
      .exact d
     rw [if_neg k2,show Z2 o=1 by unfold Z2;rw [if_pos k3]] at hl
     rw [Zp9 k3]
     split
     .try rfl
     .rw [Z3F hb,if_neg (by rw [Qv];omega)]
      cases doE false o.e ((t.kids.drop a.toNat).getD 0 Tree.nil) <;> rfl
  rw [this];try rfl
 .rw [if_neg h1]
theorem Zc9{l d:Int}:∀ {os:List Op} {a b:Int} {t:Tree},(∀ o∈os,Za l o d=true)->0<=a->YL os=b->(t.kind≠l\/(t.kids.length:Int)≠a+b)->ZN l os a b≠[]->J3 (ZN l os a b) t=none
 | [],a,b,t,_,_,_,_,h=> absurd rfl h
 | o ::r,a,b,t,ho,ha,hb,ht,h=> by
  have s:=ho o Q1
  have hr:∀ o∈r,Za l o d=true:=fun x hx=> ho x (Q0 _ hx)
  have hs:=(Yt r 0 (fun x hx=> Yb (J8 (hr x hx))) V1 V1).2
  have hl:=Yb (J8 s)
  rw [YL] at hb
  rw [ZN] at h ⊢
  rw [Z4l] at h ⊢
  by_cases k0:o.kind=0
  .rw [if_pos k0,Jv,Jv,Qo] at h ⊢
   rw [Jv] at hb
   exact Zc9 hr V1 V1 (ht.imp_right fun x=> by omega) h
  .rw [if_neg k0] at h ⊢
   by_cases k1:o.kind=1
   .rw [if_pos k1,Xc,J3,Zii (.inl s) k0 ha]
    .try rfl
    .rw [Jv,ZU (Yl s) (.inl k1)] at hb;omega
    .rw [Jv,ZU (Yl s) (.inl k1)]
     exact ht.imp_right fun x=> by omega
   .rw [if_neg k1] at h ⊢
    by_cases k2:o.kind=2
    .rw [if_pos k2,Xc,J3,Zii (.inl s) k0 ha]
     .try rfl
     .rw [if_pos k2] at hb;omega
     .rw [if_pos k2]
      exact ht.imp_right fun x=> by omega
    .rw [if_neg k2]
     have k3:o.kind=3/\o.e.kind≠0:=by
      have:=Zu s
      cases this with
      | keep=> exact absurd rfl k0
      | gone=> exact absurd rfl k1
      | come=> exact absurd rfl k2
      | into e _ he=> exact ⟨rfl,he⟩
     have ol:Z2 o=1:=by unfold Z2;rw [if_pos k3.1]
     have ab:=ZdX k3.2
     obtain ⟨x,xs,hx⟩:=List.exists_cons_of_ne_nil ab
     rw [hx,Qm,Qj,J3,Zii (D:=d) (.inr rfl) (show ¬(3:Int)=0 by decide) ha]
     .try rfl
     .rw [if_neg k2,ol] at hb;omega
     .rw [if_neg (show ¬(3:Int)=2 by decide),show Z2 ⟨3,0,[],x⟩=1 from rfl]
      exact ht.imp_right fun x=> by omega
theorem Zg0{A B C:Option Tree}(h:OptR Eqv A B)(e:B=C):OptR Eqv A C:=e▸h
theorem ZbK{l d:Int}:∀ {os:List Op} {a b:Int} {done done' s:List Tree},(∀ o∈os,Za l o d=true)->(∀ o∈os,∀ y∈s,OptR Eqv (J3 (Zn o.e) y) (doE false o.e y))->(done.length:Int)=a->(s.length:Int)=b->YL os=b->EqvL done done'->
  OptR Eqv (J3 (ZN l os a b) (.mk l [] (done++s))) ((Z2U os s).map fun x=> .mk l [] (done'++x))
 | [],a,b,done,done',s,_,_,ha,hb,hs,he=> by
  rw [YL] at hs
  have:s=[]:=Q3 V1
  subst this
  rw [ZN,J3,Zn6,if_pos (by rfl)]
  simp only [Qf,Qi]
  exact Z2e l [] he
 | o ::r,a,b,done,done',s,ho,ih,ha,hb,hs,he=> by
  have h1:=ho o Q1
  have hr:∀ o∈r,Za l o d=true:=fun x hx=> ho x (Q0 _ hx)
  have al:=(Yt r 0 (fun x hx=> Yb (J8 (hr x hx))) V1 V1).2
  have hl:=Yb (J8 h1)
  rw [YL] at hs
  rw [ZN,Z4l]
  have aa:∀ m:Nat,∀ o∈r,∀ y∈s.drop m,OptR Eqv (J3 (Zn o.e) y) (doE false o.e y):=fun m o ho y hy=> ih o (Q0 _ ho) y (QQ hy)
  by_cases k0:o.kind=0
  .have h:=Z3p (Yl h1) k0
   rw [Jv,h] at hs
   rw [if_pos k0,Jv,Jv,Qo,Zxz k0,V0,h]
   have hn:0<=o.n:=V1
   have:=ZbK (l:=l) (d:=d) (os:=r) (a:=a+o.n) (b:=b - o.n) (done:=done++s.take o.n.toNat) (done':=done'++s.take o.n.toNat) (s:=s.drop o.n.toNat) hr (aa _) (by grind) (by grind) V1 (JN he rfl)
   rw [Qc,QI] at this
   rw [XV]
   refine Zg0 this ?_
   cases Z2U r (s.drop o.n.toNat) <;> simp
  .rw [if_neg k0]
   by_cases k1:o.kind=1
   .have h:=ZU (Yl h1) (.inl k1)
    rw [Jv,h] at hs
    rw [if_pos k1,if_pos k1,Jv,Xc,J3,Zma V1,if_pos ⟨rfl,by rw [Tree.kids_mk,Q7];omega⟩,Tree.kids_mk,show a.toNat=done.length by omega,List.drop_left,XW,Zpb k1,Zpb k1,h]
    by_cases hg:JR o.l s=true
    .rw [if_pos hg,if_pos hg,Z3F V1,if_pos (by grind)]
     simp only [Qf,Qb]
     exact ZbK hr (aa _) ha (by grind) V1 he
    .rw [if_neg hg,if_neg hg];exact trivial
   .rw [if_neg k1,if_neg k1]
    by_cases k2:o.kind=2
    .have h:=ZU (Yl h1) (.inr k2)
     rw [if_pos k2] at hs
     rw [if_pos k2,if_pos k2,Xc,J3,Zma V1,if_pos ⟨rfl,by rw [Tree.kids_mk,Q7];omega⟩,Tree.kids_mk,show a.toNat=done.length by omega,List.drop_left,XW,Zpa k2,Zpa k2,h,Z3F V1,V0]
     simp only [Qf,Qb]
     have:=ZbK (l:=l) (d:=d) (os:=r) (a:=a+o.l.length) (b:=b) (done:=done++o.l) (done':=done'++o.l) (s:=s) hr (aa 0) (by grind) hb V1 (JN he rfl)
     rw [Qc] at this
     rw [XV]
     refine Zg0 this ?_
     cases Z2U r s <;> simp
    .have k3:o.kind=3/\o.e.kind≠0:=by
      have:=Zu h1
      cases this with
      | keep=> grind
      | gone=> grind
      | come=> exact absurd rfl k2
      | into e _ he=> exact ⟨rfl,he⟩
     have h:Z2 o=1:=by unfold Z2;rw [if_pos k3.1]
     rw [if_neg k2,h] at hs
     rw [if_neg k2,if_neg k2,h,ZbL]
     cases s with
     | nil=> grind
     | cons y s=>
      rw [Q8] at hb
      rw [ZrC V1 V1 (ZdX k3.2) ha V1,Zp9 k3.1,if_neg (by simp)]
      simp only [Qr,QC,QZ]
      have i1:=ih o Q1 y Q1
      generalize J3 (Zn o.e) y=A at i1 ⊢
      generalize doE false o.e y=B at i1 ⊢
      cases A with
      | none=> cases B with
       | none=> exact trivial
       | some y=> trivial
      | some u=> cases B with
       | none=> trivial
       | some v=>
        simp only [Qf,Qb]
        have:=ZbK (l:=l) (d:=d) (os:=r) (a:=a+1) (b:=b - 1) (done:=done++[u]) (done':=done'++[v]) (s:=s) hr (fun o ho y hy=> ih o (Q0 _ ho) y (Q0 _ hy)) (by simp;omega) V1 V1 (JN he (Z01.2 i1))
        rw [Qc,Xc] at this
        rw [XV]
        refine Zg0 this ?_
        cases Z2U r s <;> simp
theorem ZjR(x:Option Tree):OptR Eqv x x:=by
 cases x with
 | none=> exact trivial
 | some t=> rfl
theorem Zxx{t:Tree}(ht:t.kind≠1):∀ {l:List Edit},l≠[]->(∀ x∈l,x.kind=2)->J3 l t=none
 | [],h,_=> absurd rfl h
 | x ::r,_,h=> by rw [J3,Zov (h x Q1),if_neg ht];try rfl
theorem Z6U:∀ {ks:List Kid},∀ x∈Y4 ks,x.kind=2
 | [],x,h=> by trivial
 | k ::r,x,h=> by
  rw [Y4,Z4R,Qg,Qy] at h
  rcases h with ⟨y,_,rfl⟩ | h
  .try rfl
  .exact Z6U x h
theorem Zc8:∀ (n:Nat) (e:Edit) (d:Int) (t:Tree),Z0 e<=n->Z1 e d=true->OptR Eqv (J3 (Zn e) t) (doE false e t)
 | 0,e,d,t,hn,_=> by
  have:3<=Z0 e:=JJ e
  omega
 | n+1,e,d,t,hn,hr=> by
  have ra:=Zd hr
  rw [Z0G]
  by_cases k0:e.kind=0
  .rw [if_pos k0,Zqz k0,J3]
   exact (rfl:Z6 t=Z6 t)
  .rw [if_neg k0]
   by_cases hz:(YU e).length=0
   .rw [if_pos hz,J3]
    have:(doE false e t).bind (J3 [])=doE false e t:=by cases doE false e t <;> rfl
    rw [this]
    exact ZjR _
   .rw [if_neg hz]
    have ae:YU e≠[]:=fun h=> hz (by rw [h];rfl)
    by_cases k2:e.kind=2
    .have hp:YU e=e.words.map Z1o++Y4 e.kids:=by unfold YU;rw [if_pos k2]
     rw [Zov k2]
     by_cases s:t.kind=1
     .rw [if_pos s,hp,ZbL]
      obtain ⟨k,w,ks⟩:=t
      have s:k=1:=s
      subst s
      rw [Zjr (tw:=w) (last:= -1) V1 ra.words (fun _ _=> rfl)]
      simp only [Tree.words_mk,Tree.kids_mk]
      cases wsD w e.words w with
      | none=> exact trivial
      | some a=>
       simp only [Qf,Qb]
       refine Zn1 (last:= -1) (fun k hk=> ?_) V1 ra.kids rfl fun _ _=> rfl
       have h1:=ZF hk
       exact Zc8 n k.e (d - 1) _ V1 ((Z5E hr).1 k hk).1
     .rw [if_neg s,Zxx s ae]
      .exact trivial
      .rw [hp]
       intro x hx
       rcases Qg.1 hx with hx | hx
       .obtain ⟨w,_,rfl⟩:=Qy.1 hx
        try rfl
       .exact Z6U x hx
    .by_cases k3:e.kind=3
     .have hp:YU e=ZN e.list e.ops 0 (Jp e.ops 0):=by unfold YU;rw [if_neg k2,if_pos k3]
      have aa:∀ o∈e.ops,Za e.list o (d - 1)=true:=Yx.1 ra.ops
      have hs:=Yt e.ops 0 (fun o ho=> Yb (J8 (aa o ho))) V1 V1
      have am:=ra.len
      have hA:Jp e.ops 0=YL e.ops:=V1
      rw [hA] at hp
      rw [hp] at ae ⊢
      rw [Zmb k3]
      change OptR Eqv _ (if t.kind=e.list then (Z2U e.ops t.kids).map _ else none)
      by_cases s:t.kind≠e.list\/(t.kids.length:Int)≠0+YL e.ops
      .rw [Zc9 aa V1 rfl s ae]
       split
       .have:Z2U e.ops t.kids=none:=by
         cases hx:Z2U e.ops t.kids with
         | none=> rfl
         | some x=>
          have:=(ZrE ((Z4Y (fun o ho=> Zee (aa o ho))).1 hx) (ZG hr)).1
          rcases s with s | s
          .exact absurd ‹t.kind=e.list› s
          .omega
        rw [this];exact trivial
       .exact trivial
      .have aj:t.kind=e.list:=Xi fun x=> s (.inl x)
       have av:(t.kids.length:Int)=0+YL e.ops:=Xi fun x=> s (.inr x)
       rw [if_pos aj]
       have hw:J3 (ZN e.list e.ops 0 (YL e.ops)) t=J3 (ZN e.list e.ops 0 (YL e.ops)) (.mk e.list [] ([]++t.kids)):=by
        obtain ⟨x,xs,hx⟩:=List.exists_cons_of_ne_nil ae
        have hk:x.kind=3:=partsOs_kind x (by rw [hx];exact Q1)
        rw [hx,J3,J3,Zmb hk,Zmb hk,Qo,aj]
        try rfl
       rw [hw]
       refine ZbK (done:=[]) (done':=[]) aa (fun o ho y _=> ?_) rfl V1 rfl rfl
       by_cases h0:o.e.kind=0
       .rw [Z0G,if_pos h0,J3,Zqz h0]
        exact (rfl:Z6 y=Z6 y)
       .have h1:=YD ho
        obtain ⟨d',h2⟩:=right_in hr ho
        exact Zc8 n o.e d' y V1 h2
     .exact absurd (by unfold YU;rw [if_neg k2,if_neg k3];rfl) hz
where
 partsOs_kind {l:Int}:∀ {os:List Op} {a b:Int},∀ x∈ZN l os a b,x.kind=3
  | [],a,b,x,h=> by rw [ZN] at h;cases h
  | o ::r,a,b,x,h=> by
   rw [ZN,Qg,Z4l] at h
   rcases h with h | h
   .split at h
    .cases h
    .split at h
     .rw [Qe] at h;subst h;rfl
     .split at h
      .rw [Qe] at h;subst h;rfl
      .obtain ⟨y,_,rfl⟩:=Qy.1 h
       try rfl
   .exact partsOs_kind x h
 right_in {e:Edit} {d:Int} (h:Z1 e d=true) {o:Op} (hm:o∈e.ops):∃ d',Z1 o.e d'=true:=by
  have:=Zu (Yx.1 (Zd h).ops o hm)
  cases this with
  | keep=> exact ⟨64,Z6C⟩
  | gone=> exact ⟨64,Z6C⟩
  | come=> exact ⟨64,Z6C⟩
  | into e he=> exact ⟨_,he⟩
theorem ZpZ(a:Int)(x:Edit):Z0 (Z7j a x)=Z0 x+3:=by simp only [Z7j,Z0,Tree.nil,Zq,Ze,Zw,Yo,Zg,Qh];omega
theorem ZnZ(w:WEdit):Z0 (Z1o w)=4:=by rfl
theorem Zi7(l a:Int)(o:Op)(b:Int):Z0 (Z1v l a o b)<=Zs o+12:=by
 have h:=Z9d a
 have s:=Z9d b
 have h3:=Zi4 a
 have d:=Zi4 b
 simp only [Z1v,Z0,Tree.nil,Zq,Ze,Zw,Z0Z,Zg,Qh,Q7,Q8]
 omega
theorem ZnY(e:Edit):Z0 e=1+Zq e.old+Zq e.new+e.words.length+e.ops.length+Zw e.kids+Zg e.ops:=by cases e;rfl
theorem Zv7(o:Op):Zs o=Ze o.l+Z0 o.e:=by cases o;rfl
mutual
theorem Z4S:∀ (e:Edit),(∀ x∈Zn e,Z0 x<=5*Z0 e)/\(Zn e).length<=Z0 e
 | .mk k o n w ks l os=> by
  have h1:=Zca ks
  have h:=Z6T l os
  have m:=ZnY (.mk k o n w ks l os)
  have mo:=Z5N o
  have s:=Z5N n
  simp only [Edit.old_mk,Edit.new_mk,Edit.words_mk,Edit.kids_mk,Edit.ops_mk] at m
  rw [Z0G]
  split
  .grind
  .split
   .grind
   .by_cases k2:k=2
    .rw [show YU (Edit.mk k o n w ks l os)=w.map Z1o++Y4 ks from if_pos k2]
     refine ⟨fun x d=> ?_,by grind⟩
     rcases Qg.1 d with d | d
     .obtain ⟨w,_,rfl⟩:=Qy.1 d
      rw [ZnZ];omega
     grind
    .by_cases k3:k=3
     .rw [show YU (Edit.mk k o n w ks l os)=ZN l os 0 (Jp os 0) from (if_neg k2).trans (if_pos k3)]
      grind
     .rw [show YU (Edit.mk k o n w ks l os)=[] from (if_neg k2).trans (if_neg k3)]
      grind
theorem Zca:∀ (ks:List (KidOf Edit)),(∀ x∈Y4 ks,Z0 x<=5*Zw ks+3)/\(Y4 ks).length<=Zw ks
 | []=> ⟨fun x s=> (by trivial),by simp [Y4]⟩
 | k ::r=> by
  have h:=ZiZ k
  have d:=Zca r
  simp only [Y4,Zw,Qg,Q7]
  grind
theorem ZiZ:∀ (k:KidOf Edit),(∀ x∈Z2c k,Z0 x<=5*Yo k+3)/\(Z2c k).length<=Yo k
 | ⟨a,e⟩=> by
  have d:=Z4S e
  simp only [Z2c,Yo,Qt]
  refine ⟨fun x s=> ?_,d.2⟩
  obtain ⟨y,h,rfl⟩:=Qy.1 s
  have:=d.1 y h
  rw [ZpZ];omega
theorem Z6T(l:Int):∀ (os:List (OpOf Edit)) (a b:Int),(∀ x∈ZN l os a b,Z0 x<=5*Zg os+12)/\(ZN l os a b).length<=Zg os
 | [],a,b=> ⟨fun x s=> (by trivial),by simp [ZN]⟩
 | o ::r,a,b=> by
  have h:=Zlu l o a b
  have d:=Z6T l r (if o.kind=1 then a else a+Z2 o) (if o.kind=2 then b else b - Z2 o)
  simp only [ZN,Zg,Qg,Q7]
  grind
theorem Zlu(l:Int):∀ (o:OpOf Edit) (a b:Int),(∀ x∈Z3o l o a b,Z0 x<=5*Zs o+12)/\(Z3o l o a b).length<=Zs o
 | ⟨k,n,t,e⟩,a,b=> by
  have s:=Z4S e
  have m:=JJ e
  have hl:∀ b:Int,Z0 (Z1v l a ⟨k,n,t,e⟩ b)<=Zs ⟨k,n,t,e⟩+12:=fun b=> Zi7 _ _ _ _
  simp only [Z3o]
  split
  .grind
  .split
   .exact ⟨fun x d=> by grind,by simp only [Qs,Zs];omega⟩
   .split
    .exact ⟨fun x d=> by grind,by simp only [Qs,Zs];omega⟩
    .refine ⟨fun x d=> ?_,by simp only [Qt,Zs];omega⟩
     obtain ⟨y,h,rfl⟩:=Qy.1 d
     have h3:=s.1 y h
     have h4:=Zi7 l a ⟨3,0,[],y⟩ (b - 1)
     simp only [Zs,Ze] at h4 ⊢
     omega
end
theorem Z2W:rng Tree.nil:=by trivial
theorem Zjy{l a b:Int}{o:Op}(hl:InR l)(ha:InR a)(hb:InR b)(ho:YH o):ZX (Z1v l a o b):=by
 refine ⟨by trivial,Z2W,Z2W,by simp,hl,trivial,ZdB ?_⟩
 intro x d
 simp only [Qg,Qe] at d
 rcases d with (d | rfl) | d
 .exact Zjt ha x d
 .exact ho
 .exact Zjt hb x d
theorem ZuE{a:Int}{x:Edit}(ha:InR a)(hx:ZX x):ZX (Z7j a x):=⟨by trivial,Z2W,Z2W,by simp,by trivial,⟨⟨ha,hx⟩,trivial⟩,trivial⟩
theorem Zpe{w:WEdit}(h:Z2a w):ZX (Z1o w):=⟨by trivial,Z2W,Z2W,by simpa using h,by trivial,trivial,trivial⟩
theorem Zl3{w:WEdit}{d last:Int}(hd:d≠0){ws:List WEdit}(hl: -1<=last)(h:ZM last ws=true)(hw:w∈ws):Z1 (Z1o w) d=true:=by
 have s:=Yj h w hw
 rw [Z1o,Z1,Jv,if_neg (by simp [Z0r,Tree.nil]),if_neg V3]
 simp [ZM,s.2.2.2.1,s.2.2.2.2,ZC,ZA,Jp,Z11,s.2.2.1]
 omega
theorem Znk{a:Int}{x:Edit}{d:Int}(hd:d≠0)(h0: -1 < a)(h1:a<=65534)(hk:x.kind≠0)(hx:Z1 x (d - 1)=true):Z1 (Z7j a x) d=true:=by
 rw [Z7j,Z1,Jv,if_neg (by simp [Z0r,Tree.nil]),if_neg V3]
 simp [ZM,ZC,JA,ZA,Jp,Z11,hx,hk]
 omega
theorem ZeR{l a b:Int}{o:Op}{d:Int}(hd:d≠0)(hl:2<=l/\l<=9)(ha:0<=a)(hb:0<=b)(ho:Za l o (d - 1)=true)(hs:a+Z2 o+b < 1048576):Z1 (Z1v l a o b) d=true:=by
 have h:=Yb (J8 ho)
 rw [Z1v,Z1,Jv,if_neg (by simp [Z0r,Tree.nil]),if_neg V3]
 simp only [ZM,ZC,X2,ZeN,ZbT l (d - 1) ha V1,ZbT l (d - 1) hb V1,ZA,ho,Xf,Zo8,Zo7,Zk6 ha (show (0:Int)<=1048576 by omega),Zk5 ha (show (0:Int)<=1048576 by omega),Jp,Z11,Q2,decide_eq_true_eq]
 refine ⟨V1,?_,?_⟩
 .rw [Zk6 hb V1]
  omega
 .rw [Zk5 hb V1]
  omega
theorem Z86:∀ {ks:List Kid},Z0C ks=true->∀ k∈ks,Jz k.e=true
 | [],_,k,hk=> by cases hk
 | a ::r,h,k,hk=> by
  rw [Z0C,Q2] at h
  rcases Qa.1 hk with rfl | hk
  .obtain ⟨_,e⟩:=k;exact h.1
  .exact Z86 h.2 k hk
theorem Z85:∀ {os:List Op},Yp os=true->∀ o∈os,Jz o.e=true
 | [],_,k,hk=> by cases hk
 | a ::r,h,k,hk=> by
  rw [Yp,Q2] at h
  rcases Qa.1 hk with rfl | hk
  .obtain ⟨_,_,_,e⟩:=k;exact h.1
  .exact Z85 h.2 k hk
structure PartOk (e x:Edit) (d:Int):Prop where
 kind:x.kind=e.kind
 one:e.kind=1->x=e
 right:Z1 x d=true
theorem ZaY:∀ {ks:List Kid} {x:Edit},x∈Y4 ks->∃ k∈ks,∃ y∈Zn k.e,x=Z7j k.at_ y
 | [],x,h=> by trivial
 | k ::r,x,h=> by
  rw [Y4,Z4R,Qg,Qy] at h
  rcases h with ⟨y,hy,rfl⟩ | h
  .grind
  .obtain ⟨d,s,h2⟩:=ZaY h
   grind
theorem ZaX{l D:Int}:∀ {os:List Op} {a b:Int} {x:Edit},(∀ o∈os,Za l o D=true)->0<=a->YL os=b->x∈ZN l os a b->
  ∃ o∈os,∃ a' s:Int,0<=a'/\0<=s/\a'+Z2 o+s<=a+YL os+JY os/\((o.kind=1\/o.kind=2)/\x=Z1v l a' o s\/o.kind=3/\∃ y∈Zn o.e,x=Z1v l a' ⟨3,0,[],y⟩ s)
 | [],a,b,x,_,_,_,h=> by rw [ZN] at h;cases h
 | o ::r,a,b,x,ho,ha,hb,h=> by
  have h1:=ho o Q1
  have hr:∀ o∈r,Za l o D=true:=fun x d=> ho x (Q0 _ d)
  have ah:=(Yt r 0 (fun x d=> Yb (J8 (hr x d))) V1 V1).2
  have aq:=(Jo r 0 (fun x d=> Yb (J8 (hr x d))) V1 V1).2
  have hl:=Yb (J8 h1)
  rw [ZN,Qg,Z4l] at h
  rw [YL] at hb ⊢
  rw [JY]
  rcases h with h | h
  .by_cases k0:o.kind=0
   .rw [if_pos k0] at h;cases h
   .rw [if_neg k0] at h
    by_cases k1:o.kind=1
    .have ol:=ZU (Yl h1) (.inl k1)
     rw [if_pos k1,Qe] at h
     rw [Jv] at hb ⊢
     rw [if_pos k1]
     exact ⟨o,Q1,a,b - o.l.length,ha,V1,V1,.inl ⟨.inl k1,h⟩⟩
    .rw [if_neg k1] at h ⊢
     by_cases k2:o.kind=2
     .rw [if_pos k2,Qe] at h
      rw [if_pos k2] at hb ⊢
      exact ⟨o,Q1,a,b - 0,ha,V1,V1,.inl ⟨.inr k2,h⟩⟩
     .rw [if_neg k2] at h hb ⊢
      have k3:o.kind=3:=by
       have:=Zu h1
       cases this <;> first | rfl | (exfalso;first | exact k0 rfl | exact k1 rfl | exact k2 rfl)
      have ol:Z2 o=1:=by unfold Z2;rw [if_pos k3]
      obtain ⟨y,hy,rfl⟩:=Qy.1 h
      exact ⟨o,Q1,a,b - 1,ha,V1,V1,.inr ⟨k3,y,hy,rfl⟩⟩
  .obtain ⟨o',m,a',s,i1,i2,i3,i4⟩:=ZaX hr (by split <;> omega) (by split <;> rename_i d <;> simp only [d,if_true,if_false] at hb <;> omega) h
   refine ⟨o',Q0 _ m,a',s,i1,i2,?_,i4⟩
   split at i3 <;> rename_i d
   .rw [Jv,if_pos d];omega
   .rw [if_neg d]
    have:0<=(if o.kind=2 then (0:Int) else Z2 o):=by split <;> omega
    omega
theorem Z7U:∀ (n:Nat) (e:Edit) (d:Int),Z0 e<=n->Z1 e d=true->Jz e=true->∀ x∈Zn e,PartOk e x d
 | 0,e,d,hn,_,_=> by
  have:3<=Z0 e:=JJ e
  omega
 | n+1,e,d,hn,hr,hl=> by
  have ra:=Zd hr
  rw [Z96] at hl
  simp only [Q2,decide_eq_true_eq] at hl
  intro x s
  rw [Z0G] at s
  split at s
  .cases s
  .rename_i k0
   split at s
   .rw [Qe] at s
    subst s
    exact ⟨rfl,fun _=> rfl,hr⟩
   .unfold YU at s
    split at s
    .rename_i k2
     refine ⟨?_,fun h=> by omega,?_⟩
     .rcases Qg.1 s with s | s
      .obtain ⟨w,_,rfl⟩:=Qy.1 s
       exact k2.symm
      .rw [Z6U x s,k2]
     .rcases Qg.1 s with s | s
      .obtain ⟨w,hw,rfl⟩:=Qy.1 s
       exact Zl3 ra.d0 (QS _) ra.words hw
      .obtain ⟨k,hk,y,hy,rfl⟩:=ZaY s
       have hm:=ZF hk
       obtain ⟨q1,q2⟩:=Zk ra.kids k hk
       have ih:=Z7U n k.e (d - 1) V1 q2 (Z86 hl.1.2 k hk) y hy
       exact Znk ra.d0 q1.1 q1.2.1 (by rw [ih.kind];exact q1.2.2) ih.right
    .rename_i k2
     split at s
     .rename_i k3
      have aa:=Yx.1 ra.ops
      have aw:=Yt e.ops 0 (fun x s=> Yb (J8 (aa x s))) V1 V1
      have a2:=Jo e.ops 0 (fun x s=> Yb (J8 (aa x s))) V1 V1
      have av:=ra.len
      rw [show Jp e.ops 0=YL e.ops by omega] at s
      obtain ⟨o,m,a',b',i1,i2,i3,i4⟩:=ZaX aa V1 rfl s
      have ae:a'+Z2 o+b' < 1048576:=V1
      rcases i4 with ⟨_,rfl⟩ | ⟨j3,y,hy,rfl⟩
      .exact ⟨k3.symm,fun h=> by omega,ZeR ra.d0 (ra.list k3) i1 i2 (aa o m) ae⟩
      .have hm:=YD m
       have ho:=aa o m
       have ai:=Zu ho
       refine ⟨k3.symm,fun h=> by omega,ZeR ra.d0 (ra.list k3) i1 i2 ?_ ?_⟩
       .generalize hl9:e.list=ll at ai
        cases ai with
        | keep | gone | come=> exact absurd j3 (by simp)
        | into x q1 q2 q3 q4=>
         have ih:=Z7U n x (d - 1) (by have hm:Z0 x < Z0 e:=hm;omega) q1 (Z85 hl.2 _ m) y hy
         rw [Z0e]
         simp only [ih.right,ih.kind,if_neg (show ¬(3:Int)=0 by decide),if_neg (show ¬(3:Int) < 3 by decide)]
         rw [Jv,Xf,Q2,decide_eq_true_eq,decide_eq_true_eq]
         refine ⟨⟨rfl,q2,q3⟩,?_⟩
         rcases q4 with q4 | q4 | q4
         .exact .inl q4
         .exact .inr (.inl q4)
         .rw [ih.one q4.1];exact .inr (.inr q4)
       .rw [show Z2 ⟨3,0,[],y⟩=1 from rfl]
        rw [show Z2 o=1 by unfold Z2;rw [if_pos j3]] at ae
        omega
     .cases s
theorem ZdW:∀ (n:Nat) (e:Edit) (d:Int),Z0 e<=n->Z1 e d=true->ZX e->∀ x∈Zn e,ZX x
 | 0,e,d,hn,_,_=> by
  have:3<=Z0 e:=JJ e
  omega
 | n+1,e,d,hn,hr,hg=> by
  have ra:=Zd hr
  have ga:=Z4M hg
  intro x h
  rw [Z0G] at h
  split at h
  .cases h
  .split at h
   .grind
   .unfold YU at h
    split at h
    .rcases Qg.1 h with h | h
     .obtain ⟨w,hw,rfl⟩:=Qy.1 h
      exact Zpe ((ZB hg).2.2.1 w hw)
     .obtain ⟨k,hk,y,hy,rfl⟩:=ZaY h
      have hm:=ZF hk
      obtain ⟨q1,q2⟩:=Zk ra.kids k hk
      have gk:=YB (ZB hg).2.2.2.1 hk
      exact ZuE (by grind) (ZdW n k.e (d - 1) V1 q2 gk.2 y hy)
    .split at h
     .rename_i k3
      have s:=Yx.1 ra.ops
      have aj:=Yt e.ops 0 (fun x h=> Yb (J8 (s x h))) V1 V1
      have av:=Jo e.ops 0 (fun x h=> Yb (J8 (s x h))) V1 V1
      have ah:=ra.len
      rw [show Jp e.ops 0=YL e.ops by omega] at h
      obtain ⟨o,m,a',b',i1,i2,i3,i4⟩:=ZaX s V1 rfl h
      have go:=JL (ZB hg).2.2.2.2 m
      have ar:=Yb (J8 (s o m))
      have gl:InR e.list:=by have:=ra.list k3;unfold InR;omega
      rcases i4 with ⟨_,rfl⟩ | ⟨j3,y,hy,rfl⟩
      .exact Zjy gl V5 V5 go
      .have hm:=YD m
       have h5:=ZdW n o.e (d - 1) V1 (Ye (s o m) j3) (by obtain ⟨_,_,_,_⟩:=o;exact go.2.2.2) y hy
       exact Zjy gl V5 V5 ⟨by grind,by trivial,trivial,h5⟩
     .cases h
theorem Zba:∀ (n:Nat) (e:Edit) (d:Int),Z0 e<=n->Z1 e d=true->Jz e=true->Jz (Zp e)=true
 | 0,e,d,hn,_,_=> by
  have:3<=Z0 e:=JJ e
  omega
 | n+1,e,d,hn,hr,hl=> by
  have ra:=Zd hr
  have aa:=Yx.1 ra.ops
  rw [Z96] at hl
  simp only [Q2,decide_eq_true_eq] at hl
  have hz:∀ (k:Int) (o m:Tree) (w:List WEdit) (l:Int),Jz (.mk k o m w [] l [])=true:=by
   intro k o m w l
   rw [Jz]
   simp [Jp,Z11,Z0C,Yp]
  rw [Z4U]
  split
  .grind
  .split
   .rw [Jz]
    simp only [Jp,Z11,Yp,Xf,Q2,decide_eq_true_eq]
    refine ⟨by simp,?_⟩
    have:∀ ks:List Kid,(∀ k∈ks,k∈e.kids)->Z0C (YR ks)=true:=by
     intro ks
     induction ks with
     | nil=> intro _;rfl
     | cons k r ih=>
      intro h
      rw [YR,Z0C,ih fun x s=> h x (Q0 _ s),Xf]
      have hk:=h k Q1
      have hm:=ZF hk
      obtain ⟨a,x⟩:=k
      exact Zba n x (d - 1) (by grind) (Zk ra.kids _ hk).2 (Z86 hl.1.2 _ hk)
    grind
   .split
    .rename_i k3
     have am:=Yt e.ops 0 (fun x s=> Yb (J8 (aa x s))) V1 V1
     have av:=Jo e.ops 0 (fun x s=> Yb (J8 (aa x s))) V1 V1
     have al:=ra.len
     have au:=ZkM e.list e.ops (d - 1) ⟨[],[],[]⟩ ra.ops
     have ar:=Z8y (Zv e.list e.ops ⟨[],[],[]⟩)
     have af:=Jy e d hr
     rw [Z4U,Jv,Jv,if_pos k3] at af
     have rn:=Zd af
     have ab:=Yx.1 rn.ops
     simp only [Edit.ops_mk,Edit.list_mk] at ab
     have ao:=Yt (Zb (Zv e.list e.ops ⟨[],[],[]⟩)).out 0 (fun x s=> Yb (J8 (ab x s))) V1 V1
     have aq:=Jo (Zb (Zv e.list e.ops ⟨[],[],[]⟩)).out 0 (fun x s=> Yb (J8 (ab x s))) V1 V1
     have ax:sA ⟨[],[],[]⟩=0/\sB ⟨[],[],[]⟩=0:=⟨rfl,rfl⟩
     rw [Jz]
     simp only [Z0C,Xf,Q2,decide_eq_true_eq]
     refine ⟨V1,?_⟩
     have hw:∀ (os:List Op),(∀ o∈os,o∈e.ops)->∀ w:Wst,Yp w.out=true->Yp (Zv e.list os w).out=true:=by
      intro os
      induction os with
      | nil=> intro _ w hw;exact hw
      | cons o r ih=>
       intro h w hw
       rw [Zv]
       refine ih (fun x s=> h x (Q0 _ s)) _ ?_
       have hm:=h o Q1
       rw [YV]
       split
       .exact light_keep _ _ hw
       .split
        .exact hw
        .split
         .exact hw
         .split
          .rename_i ak
           split
           .exact light_keep _ _ hw
           .dsimp only
            rw [light_app,light_flush _ hw,X2,Yp,Yp,Xf]
            have:=YD hm
            exact Zba n o.e (d - 1) V1 (Ye (aa o hm) ak) (Z85 hl.2 _ hm)
          .exact hw
     exact light_flush _ (hw e.ops (fun _ h=> h) _ rfl)
    grind
where
 light_app:∀ (a b:List Op),Yp (a++b)=(Yp a && Yp b)
  | [],b=> rfl
  | o ::r,b=> by rw [Qj,Yp,Yp,light_app r b,Bool.and_assoc]
 light_nil:Jz Edit.nil=true:=V3
 light_flush (w:Wst) (h:Yp w.out=true):Yp (Zb w).out=true:=by
  unfold Zb JZ
  dsimp only
  rw [light_app,light_app,h,X2]
  split <;> split <;> simp [Yp,Zg3,light_nil]
 light_keep (w:Wst) (n:Int) (h:Yp w.out=true):Yp (Y2 w n).out=true:=by
  unfold Y2
  dsimp only
  have h:=light_flush w h
  rcases Jq (Zb w).out n with e | ⟨a,o,e1,e2,e3⟩
  .rw [e,light_app,h];try rfl
  .rw [e3,light_app]
   rw [e1,light_app,Q2] at h
   rw [h.1]
   obtain ⟨_,_,_,x⟩:=o
   simpa [Yp,Zg3] using h.2
instance decStep:DecidableEq PStep:=fun a b=> decidable_of_iff (a.kind=b.kind/\a.at_=b.at_) (by cases a;cases b;simp)
end Go.AM.YtpjenobkibfpcaaGreat
namespace Go.AM
def ZoP(list:Int):Tree:=if 2<=list/\list<=7 then .mk 10 [0] [] else if list=9 then .mk 1 [] [] else Tree.nil
def Z5t:List WEdit->List Int->List Int
 | [],out=> out
 | w ::r,out=> Z5t r (ZP 0 out w.at_.toNat w.old)
mutual
def Z40:Edit->Tree
 | .mk k o n w ks l os=> if k=1 then o else if k=2 then .mk 1 (Z5t w []) (Z23 ks []) else if k=3 then .mk l [] (Z3Y l os) else .mk l [] []
def Z23:List (KidOf Edit)->List Tree->List Tree
 | [],out=> out
 | k ::r,out=> Z23 r (ZP Tree.nil out (KidOf.at_ k).toNat (Zrg k))
def Zrg:KidOf Edit->Tree
 | ⟨_,e⟩=> Z40 e
def Z3Y(l:Int):List (OpOf Edit)->List Tree
 | []=> []
 | o ::r=> Z7s l o++Z3Y l r
def Z7s(l:Int):OpOf Edit->List Tree
 | ⟨k,n,t,e⟩=> if k=1 then t else if k=3 then [Z40 e] else if k=2 then [] else List.replicate n.toNat (ZoP l)
end
theorem Z3Z(e:Edit):Z40 e=if e.kind=1 then e.old else if e.kind=2 then .mk 1 (Z5t e.words []) (Z23 e.kids []) else if e.kind=3 then .mk e.list [] (Z3Y e.list e.ops) else .mk e.list [] []:=by cases e;rfl
theorem Zay(k:Kid):Zrg k=Z40 k.e:=by cases k;rfl
theorem ZmT(l:Int)(o:Op):Z7s l o=if o.kind=1 then o.l else if o.kind=3 then [Z40 o.e] else if o.kind=2 then [] else List.replicate o.n.toNat (ZoP l):=by cases o;rfl
end Go.AM
namespace Go.AM.YtpjenobkibfpcaaGreat
open Go.AM Go.Proofs
theorem Zgw:∀ {ws:List WEdit} {last:Int} {out:List Int},-1<=last->ZM last ws=true->(∀ j:Nat,(j:Int)<=last->(Z5t ws out).getD j 0=out.getD j 0)/\∀ w∈ws,(Z5t ws out).getD w.at_.toNat 0=w.old
 | [],last,out,_,_=> ⟨fun _ _=> rfl,fun w h=> by cases h⟩
 | w ::r,last,out,hl,h=> by
  have h1:=Yj h w Q1
  have h2:ZM w.at_ r=true:=by simp only [ZM,Q2] at h;exact h.2
  obtain ⟨d,i2⟩:=Zgw (out:=ZP 0 out w.at_.toNat w.old) V1 h2
  refine ⟨fun j hj=> ?_,fun x s=> ?_⟩
  .rw [Z5t,d j V1,Yw,Jv]
  .rw [Z5t]
   rcases Qa.1 s with rfl | s
   .rw [d _ V1,Yw,if_pos rfl]
   grind
theorem ZeE{d:Int}:∀ {ks:List Kid} {last:Int} {out:List Tree},-1<=last->ZC last ks d=true->(∀ j:Nat,(j:Int)<=last->(Z23 ks out).getD j Tree.nil=out.getD j Tree.nil)/\∀ k∈ks,(Z23 ks out).getD k.at_.toNat Tree.nil=Z40 k.e
 | [],last,out,_,_=> ⟨fun _ _=> rfl,fun w h=> by cases h⟩
 | k ::r,last,out,hl,h=> by
  obtain ⟨h1,h2,h3⟩:=Z17 h
  obtain ⟨s,i2⟩:=ZeE (out:=ZP Tree.nil out k.at_.toNat (Z40 k.e)) V1 h3
  refine ⟨fun j hj=> ?_,fun x hx=> ?_⟩
  .rw [Z23,Zay,s j V1,Yw,Jv]
  .rw [Z23,Zay]
   rcases Qa.1 hx with rfl | hx
   .rw [s _ V1,Yw,if_pos rfl]
   grind
theorem ZpS{w m:Int}(h:Ya w m=true)(hw:isW w):mix 0 w m=w:=by
 have e:of8 (Z4 (mix 0 w m))=of8 (Z4 w):=Z8X fun i d=> by
  rw [Z0s d]
  cases hn:Zz m (i:Int) with
  | true=> rfl
  | false=>
   rw [Z0O h d hn]
   simp [Z4]
 rw [Z5J (Z1J _ _ _),Z5J hw] at e
 exact e
theorem ZmG{tw:List Int}:∀ {ws:List WEdit} {out:List Int},(∀ w∈ws,tw.getD w.at_.toNat 0=w.old/\Ya w.old w.mask=true/\isW w.old)->∃ a,wsD tw ws out=some a
 | [],out,_=> ⟨out,rfl⟩
 | w ::r,out,h=> by
  obtain ⟨h1,d,s⟩:=h w Q1
  rw [wsD,h1,if_pos (ZpS d s)]
  exact ZmG fun x hx=> h x (Q0 _ hx)
theorem ZkL:∀ (n:Nat) (e:Edit) (d:Int),Z0 e<=n->Z1 e d=true->ZX e->∃ v,doE false e (Z40 e)=some v
 | 0,e,d,hn,_,_=> by
  have:3<=Z0 e:=JJ e
  omega
 | n+1,e,d,hn,hr,hg=> by
  have ra:=Zd hr
  have ga:=ZB hg
  by_cases k0:e.kind=0
  .exact ⟨_,Zqz k0 _⟩
  .by_cases k1:e.kind=1
   .refine ⟨e.new,?_⟩
    rw [Zvu k1,Z3Z,if_pos k1,ZaA,if_pos rfl]
   .by_cases k2:e.kind=2
    .rw [Zov k2,Z3Z,if_neg k1,if_pos k2,if_pos (by rfl)]
     simp only [Tree.words_mk,Tree.kids_mk]
     have hw:=(Zgw (out:=[]) (QS _) ra.words).2
     obtain ⟨a,ha⟩:=ZmG (tw:=Z5t e.words []) (out:=Z5t e.words []) (ws:=e.words) fun w s=> ⟨hw w s,(Yj ra.words w s).2.2.2.1,(ga.2.2.1 w s).2.2.1⟩
     rw [ha]
     have hk:=(ZeE (out:=[]) (QS _) ra.kids).2
     have al:∀ (ks:List Kid) (out:List Tree),(∀ k∈ks,k∈e.kids)->∃ b,JC false (Z23 e.kids []) ks out=some b:=by
      intro ks
      induction ks with
      | nil=> intro out _;exact ⟨out,rfl⟩
      | cons k r ih=>
       intro out h
       have hm:=h k Q1
       have ai:=ZF hm
       obtain ⟨v,hv⟩:=ZkL n k.e (d - 1) V1 (Zk ra.kids k hm).2 (YB ga.2.2.2.1 hm).2
       rw [JC,Z2k,hk k hm,hv,Qb]
       simp_all
     obtain ⟨b,hb⟩:=al e.kids (Z23 e.kids []) fun _ h=> h
     simp_all
    .have k3:e.kind=3:=by have:=ra.kind;omega
     rw [Zmb k3,Z3Z,if_neg k1,if_neg k2,if_pos k3,if_pos (by rfl)]
     simp only [Tree.kids_mk]
     have ab:=Yx.1 ra.ops
     have ah:∀ (os:List Op),(∀ o∈os,o∈e.ops)->∃ x,Run os (Z3Y e.list os) x:=by
      intro os
      induction os with
      | nil=> intro _;exact ⟨[],.nil⟩
      | cons o r ih=>
       intro h
       obtain ⟨x,s⟩:=ih fun x s=> h x (Q0 _ s)
       have hm:=h o Q1
       have ae:=ab o hm
       rw [Z3Y,ZmT]
       by_cases q1:o.kind=1
       .rw [if_pos q1]
        exact ⟨x,.gone q1 rfl s⟩
       .rw [if_neg q1]
        by_cases q3:o.kind=3
        .rw [if_pos q3]
         have ai:=YD hm
         have go:ZX o.e:=by have:=JL ga.2.2.2.2 hm;obtain ⟨_,_,_,_⟩:=o;exact this.2.2.2
         obtain ⟨v,hv⟩:=ZkL n o.e (d - 1) V1 (Ye ae q3) go
         exact ⟨v ::x,.into q3 hv s⟩
        .rw [if_neg q3]
         by_cases q2:o.kind=2
         .rw [if_pos q2,Qo]
          exact ⟨_,.come q2 s⟩
         .rw [if_neg q2]
          have hn:=Z5D ae
          refine ⟨_,.keep (by
           have:=Zu ae
           cases this <;> first | rfl | (exfalso;first | exact q1 rfl | exact q2 rfl | exact q3 rfl)) (by grind) s⟩
     obtain ⟨x,s⟩:=ah e.ops fun _ h=> h
     change ∃ v,Option.map _ (Z0H (ZE false e.ops (Z3Y e.list e.ops) []))=some v
     rw [(Z4Y (fun o ho=> Zee (ab o ho))).2 s]
     simp_all
theorem Zus{l d:Int}{o:Op}(h:Za l o d=true):((Z7s l o).length:Int)=if o.kind=2 then 0 else Z2 o:=by
 have:=Zu h
 cases this with
 | keep n h1 h2=> simp only [Z7s,Z2];simp;omega
 | gone t h1 h2=> simp [Z7s,Z2]
 | come t h1 h2=> simp [Z7s]
 | into e h1 h2=> rfl
theorem Zav{l d:Int}:∀ {os:List Op},(∀ o∈os,Za l o d=true)->((Z3Y l os).length:Int)=YL os
 | [],_=> rfl
 | o ::r,h=> by
  rw [Z3Y,Q7,YL,Int.natCast_add,Zus (h o Q1),Zav fun x s=> h x (Q0 _ s)]
theorem Zdr:∀ {ws:List WEdit} {last:Int} {out:List Int},ZM last ws=true->out.length<=65535->(Z5t ws out).length<=65535
 | [],last,out,_,h=> h
 | w ::r,last,out,h,hl=> by
  have s:=Yj h w Q1
  have d:ZM w.at_ r=true:=by simp only [ZM,Q2] at h;exact h.2
  rw [Z5t]
  exact Zdr d (by rw [Z1q];omega)
theorem ZmS:∀ {ws:List WEdit} {out:List Int},(∀ w∈ws,isW w.old)->(∀ x∈out,isW x)->∀ x∈Z5t ws out,isW x
 | [],out,_,h=> h
 | w ::r,out,hw,h=> by
  rw [Z5t]
  refine ZmS (fun x d=> hw x (Q0 _ d)) fun x d=> ?_
  rcases Z47 d with d | rfl | rfl
  .exact h x d
  .trivial
  grind
theorem Zaw:∀ {ks:List Kid} {out:List Tree},∀ x∈Z23 ks out,x∈out\/x=Tree.nil\/∃ k∈ks,x=Z40 k.e
 | [],out,x,h=> .inl h
 | k ::r,out,x,h=> by
  rw [Z23,Zay] at h
  rcases Zaw x h with h | h | ⟨k',h1,h2⟩
  .rcases Z47 h with h | h | h
   .exact .inl h
   .exact .inr (.inl h)
   .exact .inr (.inr ⟨k,Q1,h⟩)
  .exact .inr (.inl h)
  .exact .inr (.inr ⟨k',Q0 _ h1,h2⟩)
theorem Zax{d:Int}:∀ {ks:List Kid} {last:Int} {out:List Tree},ZC last ks d=true->out.length<=65535->(Z23 ks out).length<=65535
 | [],last,out,_,h=> h
 | k ::r,last,out,h,hl=> by
  obtain ⟨h1,h2,s⟩:=Z17 h
  rw [Z23]
  exact Zax s (by rw [Z1q];omega)
theorem Zau{l:Int}:∀ {os:List Op},∀ x∈Z3Y l os,∃ o∈os,x∈Z7s l o
 | [],x,h=> by cases h
 | o ::r,x,h=> by
  rw [Z3Y,Qg] at h
  rcases h with h | h
  .grind
  .obtain ⟨d,s,h2⟩:=Zau x h
   grind
theorem Zdx:∀ {l:List Tree},(∀ t∈l,Z0R t)->Z1H l
 | [],_=> trivial
 | t ::r,h=> ⟨h t Q1,Zdx fun x d=> h x (Q0 _ d)⟩
theorem ZDi(l:Int):Z0R (ZoP l)/\rng (ZoP l):=by
 unfold ZoP
 split
 .exact ⟨by simp [Z0R,Z1H],V3,by intro x d;rw [Qe.1 d];omega,trivial⟩
 .split
  .exact ⟨by simp [Z0R,Z1H],V3,by simp,trivial⟩
  .exact ⟨by simp [Tree.nil,Z0R,Z1H],Js⟩
theorem ZkK:∀ (n:Nat) (e:Edit) (d:Int),Z0 e<=n->Z0 e<=17592186044416->Z1 e d=true->ZX e->Z0R (Z40 e)/\rng (Z40 e)
 | 0,e,d,hn,_,_,_=> by
  have:3<=Z0 e:=JJ e
  omega
 | n+1,e,d,hn,hb,hr,hg=> by
  have ra:=Zd hr
  have ga:=ZB hg
  have am:Z0 e=1+Zq e.old+Zq e.new+e.words.length+e.ops.length+Zw e.kids+Zg e.ops:=by cases e;rfl
  rw [Z3Z]
  split
  .exact ⟨Z1p _ V1,ga.1⟩
  .split
   .have h1:=Zdr (out:=[]) ra.words (by simp)
    have h2:=Zax (out:=[]) ra.kids (by simp)
    have hk:∀ x∈Z23 e.kids [],Z0R x/\rng x:=by
     intro x h
     rcases Zaw x h with h | rfl | ⟨k,hk,rfl⟩
     .cases h
     .trivial
     .have:=ZF hk
      exact ZkK n k.e (d - 1) V1 V1 (Zk ra.kids k hk).2 (YB ga.2.2.2.1 hk).2
    exact ⟨⟨V1,V1,Zdx fun x h=> (hk x h).1⟩,V3,ZmS (fun w hw=> (ga.2.2.1 w hw).2.2.1) (by simp),Z6A fun x h=> (hk x h).2⟩
   .split
    .rename_i k3
     have s:=Yx.1 ra.ops
     have ai:=ra.len
     have ak:=Yt e.ops 0 (fun x h=> Yb (J8 (s x h))) V1 V1
     have al:=Zav s
     have ao:=ra.list k3
     have hk:∀ x∈Z3Y e.list e.ops,Z0R x/\rng x:=by
      intro x h
      obtain ⟨o,ho,h⟩:=Zau x h
      have av:=Z1V ho
      have aq:Zs o=Ze o.l+Z0 o.e:=by cases o;rfl
      have go:=JL ga.2.2.2.2 ho
      have au:=Zu (s o ho)
      rw [ZmT] at h
      split at h
      .have:=Jb h
       exact ⟨Z1p _ V1,by obtain ⟨_,_,_,_⟩:=o;exact Jl go.2.2.1 h⟩
      .split at h
       .rename_i k3
        rw [Qe] at h
        subst h
        have:=YD ho
        exact ZkK n o.e (d - 1) V1 V1 (Ye (s o ho) k3) (by obtain ⟨_,_,_,_⟩:=o;exact go.2.2.2)
       .split at h
        .cases h
        .rw [List.mem_replicate] at h
         rw [h.2]
         exact ZDi _
     exact ⟨⟨by simp,V1,Zdx fun x h=> (hk x h).1⟩,V1,by simp,Z6A fun x h=> (hk x h).2⟩
    .have hk:=ra.kind
     have k0:=ra.ops0 V1
     exact ⟨by trivial,by rw [k0.1];exact Js⟩
theorem ZAd{p q:Edit}(hp:YT p)(hq:YT q)(h:(Z1A p q).2=true):(YA p q).2=true/\(Z1A p q).1=Zp (YA p q).1:=by
 unfold Z1A at h ⊢
 grind
theorem Zjm{e:Edit}{d:Int}(h:Z1 e d=true):(Z40 e).kind≠10:=by
 have s:=Zd h
 rw [Z3Z]
 split
 .exact (s.rep ‹_›).2.2.1
 .split
  .exact (by decide:(1:Int)≠10)
  .split
   .have:=s.list ‹_›
    show e.list≠10
    omega
   .have:=(s.ops0 ‹_›).1
    show e.list≠10
    omega
theorem ZAJ{l:Int}(hl:2<=l/\l<=9):Z2n l (ZoP l)=true/\Zr (ZoP l) (-1)=true:=by
 unfold ZoP
 split
 .rename_i h
  refine ⟨?_,rfl⟩
  unfold Z2n
  rw [if_pos h]
  have:l=2\/l=3\/l=4\/l=5\/l=6\/l=7:=V1
  rcases this with rfl | rfl | rfl | rfl | rfl | rfl <;> rfl
 .split
  .rename_i h
   subst h
   exact ⟨rfl,rfl⟩
  .have:l=8:=V1
   subst this
   exact ⟨rfl,rfl⟩
theorem Zat:∀ (n:Nat) (e:Edit) (d:Int),Z0 e<=n->Z1 e d=true->Zr (Z40 e) (-1)=true
 | 0,e,d,hn,_=> by
  have:3<=Z0 e:=JJ e
  omega
 | n+1,e,d,hn,hr=> by
  have ra:=Zd hr
  rw [Z3Z]
  split
  .rename_i k1
   exact Z0o _ _ _ V3 (ra.rep k1).1
  .split
   .refine ZbR ?_ ?_ ?_
    .have:=Zdr (out:=[]) ra.words (by simp);omega
    .have:=Zax (out:=[]) ra.kids (by simp);omega
    .intro x h
     rcases Zaw x h with h | rfl | ⟨k,hk,rfl⟩
     .cases h
     .exact ⟨rfl,rfl⟩
     .have:=ZF hk
      have ai:=(Zk ra.kids k hk).2
      exact ⟨ZzQ (Zjm ai),Zat n k.e (d - 1) V1 ai⟩
   .split
    .rename_i k3
     have s:=Yx.1 ra.ops
     have aj:=ra.len
     have al:=Yt e.ops 0 (fun x h=> Yb (J8 (s x h))) V1 V1
     have am:=Zav s
     have ab:=ra.list k3
     refine ZaF ab V1 ?_
     intro x h
     obtain ⟨o,ho,h⟩:=Zau x h
     have af:=Zu (s o ho)
     have ah:=YD ho
     generalize e.list=ll at af h ab ⊢
     cases af with
     | keep m h1 h2=>
      simp only [Z7s,if_neg (show ¬(0:Int)=1 by decide),if_neg (show ¬(0:Int)=3 by decide),if_neg (show ¬(0:Int)=2 by decide)] at h
      rw [List.mem_replicate] at h
      rw [h.2]
      exact ZAJ ab
     | gone t h1 h2=>
      simp only [Z7s,if_true] at h
      exact JH ab h1 x h
     | come t h1 h2=> simp [Z7s] at h
     | into y h1 h2 h3 h4=>
      simp only [Z7s,if_neg (show ¬(3:Int)=1 by decide),if_true] at h
      rw [Qe] at h
      subst h
      have ah:Z0 y < Z0 e:=ah
      refine ⟨?_,Zat n y (d - 1) V1 h1⟩
      have hk:=Zjm h1
      unfold Z2n
      rw [Jv]
      split
      .rename_i h9
       rw [decide_eq_true_eq,Z3Z]
       rcases h4 with h4 | h4 | h4
       .omega
       .rw [Jv,if_pos h4];try rfl
       .rw [if_pos h4.1];exact h4.2.1
      .rw [decide_eq_true_eq];exact hk
    .have hk:=ra.kind
     have k0:=ra.ops0 V1
     rw [k0.1];try rfl
theorem Z4n{a b c:Option Tree}(h1:OptR Eqv a b)(h2:OptR Eqv b c):OptR Eqv a c:=by
 cases a <;> cases b <;> cases c <;> first | exact trivial | exact absurd h1 id | exact absurd h2 id | exact Eq.trans h1 h2
theorem Zn2:∀ {l:List Edit} {a b:Tree},(∀ e∈l,∃ d,Z1 e d=true)->Eqv a b->OptR Eqv (J3 l a) (J3 l b)
 | [],a,b,_,h=> h
 | e ::r,a,b,hr,h=> by
  obtain ⟨d,hd⟩:=hr e Q1
  rw [J3,J3]
  exact (Zda e d a b hd h).bind fun x y s=> Zn2 (fun x hx=> hr x (Q0 _ hx)) s
theorem ZD7{p q:Edit}{d d':Int}(hp:Z1 p d=true)(hq:Z1 q d'=true)(gp:ZX p)(gq:ZX q)(hc:(YA p q).2=true){t:Tree}(ht:RT_ t):OptR Eqv (doE false (YA p q).1 t) ((doE false p t).bind (doE false q)):=by
 have C:=ZAa hp hq gp gq
 cases h1:doE false (YA p q).1 t with
 | none=>
  cases h:doE false p t with
  | none=> exact trivial
  | some u=>
   rw [Qb]
   cases s:doE false q u with
   | none=> exact trivial
   | some v=>
    obtain ⟨_,w,hw,_⟩:=C.bwd ht h s
    rw [h1] at hw;cases hw
 | some w=>
  obtain ⟨u,v,h,s,h4⟩:=C.fwd ht hc h1
  rw [h,Qb,s]
  exact h4
theorem ZoI{p q:Edit}(hp:YT p)(hq:YT q)(h:(Z1A p q).2=true)(hs:ctE p+ctE q<=9000000000):YT (Z1A p q).1/\ctE (Z1A p q).1+18<=ctE p+ctE q:=by
 have F:=Z9V hp hq
 obtain ⟨d,s⟩:=ZAd hp hq h
 have w:=F.wk d
 have c:=F.ct trivial d
 have n:=Z5n (YA p q).1
 rw [s]
 exact ⟨⟨V1,Z16 _ _ w.r w.g,_,Jy _ _ w.r⟩,V1⟩
theorem Zoh:∀ (l:List Edit) (x:Edit) (t0:Tree),YT x->(∀ e∈l,YT e)->ctE x+ctL l<=8000000018->RT_ t0->((doE false x t0).bind (J3 l)).isSome=true->
  (Z1f l x).2=true/\YT (Z1f l x).1/\ctE (Z1f l x).1<=ctE x+ctL l/\∀ t,RT_ t->OptR Eqv (doE false (Z1f l x).1 t) ((doE false x t).bind (J3 l))
 | [],x,t0,hx,_,hc,s,h=> by
  refine ⟨rfl,hx,Nat.le_add_right _ _,fun t _=> ?_⟩
  have:(doE false x t).bind (J3 [])=doE false x t:=by cases doE false x t <;> rfl
  rw [this]
  exact ZjR _
 | e ::r,x,t0,hx,he,hc,s,h=> by
  have h1:=he e Q1
  have hr:∀ y∈r,YT y:=fun y hy=> he y (Q0 _ hy)
  have ai:∀ y∈r,∃ d,Z1 y d=true:=fun y hy=> (hr y hy).2.2
  obtain ⟨dx,rx⟩:=hx.2.2
  obtain ⟨de,re⟩:=h1.2.2
  rw [ctL] at hc
  have ab:(YA x e).2=true:=by
   cases a:doE false x t0 with
   | none=> rw [a] at h;cases h
   | some u=>
    rw [a,Qb,J3] at h
    cases b:doE false e u with
    | none=> rw [b] at h;cases h
    | some v=> exact ((ZAa rx re hx.2.1 h1.2.1).bwd s a b).1
  have ae:Z1A x e=(Zp (YA x e).1,true):=by rw [Z1A,if_pos ab]
  have W:=Z9V hx h1
  have w:=W.wk ab
  have hy:=ZoI hx h1 (by rw [ae]) V1
  rw [ae] at hy
  have af:∀ t,RT_ t->OptR Eqv ((doE false (Zp (YA x e).1) t).bind (J3 r)) ((doE false x t).bind (J3 (e ::r))):=by
   intro t s
   have k1:=Z4n (Zb4 (YA x e).1 _ t w.r s) (ZD7 rx re hx.2.1 h1.2.1 ab s)
   have k2:=k1.bind (f:=J3 r) (g:=J3 r) fun a b aj=> Zn2 ai aj
   refine Zg0 k2 ?_
   cases doE false x t <;> rfl
  obtain ⟨i1,i2,i3,i4⟩:=Zoh r _ t0 hy.1 hr (by dsimp only;have:=hy.2;dsimp only at this;omega) s (by rw [(af t0 s).isSome];exact h)
  rw [Z1f,ae,if_pos rfl]
  refine ⟨i1,i2,?_,fun t s=> Z4n (i4 t s) (af t s)⟩
  have:=hy.2
  dsimp only at this i3 ⊢
  rw [ctL];omega
theorem Zg7:∀ (a b:List Edit),ctL (a++b)=ctL a+ctL b
 | [],b=> by simp [ctL]
 | e ::r,b=> by rw [Qj,ctL,ctL,Zg7 r b];omega
theorem Zmd{f:Edit->Edit}{c:Nat}(h:∀ x,ctE (f x)<=ctE x+c):∀ l:List Edit,ctL (l.map f)<=ctL l+l.length*c
 | []=> by simp [ctL]
 | e ::r=> by have:=Zmd h r;have:=h e;simp only [Qm,ctL,Q8,Qz,Nat.one_mul];omega
theorem Zvz(w:WEdit):ctE (Z1o w)=65618:=by simp [Z1o,ctE,Tree.nil,Zq,Ze,Z08,YF]
theorem Zkq:∀ w:List WEdit,ctL (w.map Z1o)=w.length*65618
 | []=> by simp [ctL]
 | a ::r=> by simp only [Qm,ctL,Zkq r,Zvz,Q8,Qz,Nat.one_mul];omega
theorem ZA9(a:Int)(x:Edit):ctE (Z7j a x)=ctE x+65618:=by simp only [Z7j,ctE,Tree.nil,Zq,Ze,Z08,Z2s,YF,Qh];omega
theorem ZoD(l a:Int)(o:Op)(b:Int):ctE (Z1v l a o b)<=Z1x o+90:=by
 have h:∀ n:Int,YF (JQ n)<=34:=by
  intro n
  unfold JQ
  split
  .simp [YF]
  .simp [YF,Z1x,Ze,Edit.nil,ctE,Tree.nil,Zq,Z08]
 have h1:=h a
 have s:=h b
 have d:∀ a b:List Op,YF (a++b)=YF a+YF b:=by
  intro a b
  induction a with
  | nil=> simp [YF]
  | cons o r ih=> rw [Qj,YF,YF,ih];omega
 simp only [Z1v,ctE,Tree.nil,Zq,Ze,Z08,d,YF,Qh]
 omega
mutual
theorem ZhE:∀ (e:Edit) (n:Nat),Z1 e n=true->ctL (Zn e)<=(Zn e).length*(65700*n)+ctE e/\((Zn e).length:Int)<=Yn e
 | .mk k o nw w ks l os,n,hr=> by
  have s:=Zd hr
  have hd:=s.d0
  obtain ⟨m,rfl⟩:∃ m,n=m+1:=⟨n - 1,V1⟩
  have h1:=ZhH ks m (-1) (by have:=s.kids;simpa using this)
  have h:=Yx.1 s.ops
  have h2:=ZhG l os m (fun o ho=> by have:=h o ho;simpa using this)
  have d:=Z0f (.mk k o nw w ks l os)
  have al:1<=Yn (.mk k o nw w ks l os):=Z74 _
  simp only [Edit.old_mk,Edit.new_mk,Edit.words_mk,Edit.kids_mk,Edit.ops_mk] at d
  rw [Z0G]
  split
  .simp [ctL];omega
  .split
   .simp [ctL];omega
   .by_cases k2:k=2
    .rw [show YU (Edit.mk k o nw w ks l os)=w.map Z1o++Y4 ks from if_pos k2]
     have hw:=Zkq w
     have aa:w.length*65618<=w.length*(65700*(m+1)):=XG _ V1
     have ab:os=[]:=by
      have:=(s.ops0 (by show k≠3;omega)).2
      exact this
     subst ab
     simp only [Zg7,hw,Q7,Qt,Yn,ZH]
     refine ⟨?_,by have:=h1.2;omega⟩
     have e1:(w.length+(Y4 ks).length)*(65700*(m+1))=w.length*(65700*(m+1))+(Y4 ks).length*(65700*(m+1)):=Qz _ _ _
     rw [e1]
     have ae:Z08 ks<=ctE (Edit.mk k o nw w ks l []):=by rw [d];omega
     exact QN (Nat.add_le_add aa h1.1) (QN (Nat.le_of_eq (Nat.add_assoc _ _ _).symm) (Nat.add_le_add_left ae _))
    .by_cases k3:k=3
     .rw [show YU (Edit.mk k o nw w ks l os)=ZN l os 0 (Jp os 0) from (if_neg k2).trans (if_pos k3)]
      have h3:=h2 0 (Jp os 0)
      simp only [Yn]
      have am:0<=Jh ks:=ZiF ks
      exact ⟨by have:=h3.1;omega,by have:=h3.2;omega⟩
     .rw [show YU (Edit.mk k o nw w ks l os)=[] from (if_neg k2).trans (if_neg k3)]
      simp [ctL];omega
theorem ZhH:∀ (ks:List (KidOf Edit)) (m:Nat) (last:Int),ZC last ks m=true->ctL (Y4 ks)<=(Y4 ks).length*(65700*(m+1))+Z08 ks/\((Y4 ks).length:Int)<=Jh ks
 | [],m,last,_=> by simp [Y4,ctL,Jh]
 | k ::r,m,last,h=> by
  obtain ⟨q1,q2,q3⟩:=Z17 h
  have s:=ZnB k m q2
  have d:=ZhH r m k.at_ q3
  simp only [Y4,Zg7,Q7,Z08,Jh,Qz]
  exact ⟨by have:=s.1;have:=d.1;omega,by have:=s.2;have:=d.2;omega⟩
theorem ZnB:∀ (k:KidOf Edit) (m:Nat),Z1 k.e m=true->ctL (Z2c k)<=(Z2c k).length*(65700*(m+1))+Z2s k/\((Z2c k).length:Int)<=Z1y k
 | ⟨a,e⟩,m,h=> by
  have d:=ZhE e m h
  have s:=Zmd (f:=Z7j a) (c:=65618) (fun x=> Nat.le_of_eq (ZA9 a x)) (Zn e)
  simp only [Z2c,Qt,Z2s,Z1y]
  refine ⟨?_,d.2⟩
  have e1:(Zn e).length*(65700*(m+1))=(Zn e).length*(65700*m)+(Zn e).length*65700:=by rw [Kb,Kb,Nat.mul_one]
  have e2:(Zn e).length*65618<=(Zn e).length*65700:=XG _ V3
  have:=d.1
  omega
theorem ZhG(l:Int):∀ (os:List (OpOf Edit)) (m:Nat),(∀ o∈os,Za l o m=true)->∀ a b:Int,ctL (ZN l os a b)<=(ZN l os a b).length*(65700*(m+1))+YF os/\((ZN l os a b).length:Int)<=ZH os
 | [],m,_,a,b=> by simp [ZN,ctL,ZH]
 | o ::r,m,h,a,b=> by
  have d:=ZpG l o m (h o Q1) a b
  have s:=ZhG l r m (fun x hx=> h x (Q0 _ hx)) (if o.kind=1 then a else a+Z2 o) (if o.kind=2 then b else b - Z2 o)
  simp only [ZN,Zg7,Q7,YF,ZH,Qz]
  exact ⟨by have:=d.1;have:=s.1;omega,by have:=d.2;have:=s.2;omega⟩
theorem ZpG(l:Int):∀ (o:OpOf Edit) (m:Nat),Za l o m=true->∀ a b:Int,ctL (Z3o l o a b)<=(Z3o l o a b).length*(65700*(m+1))+Z1x o/\((Z3o l o a b).length:Int)<=Jw o
 | ⟨k,n,t,e⟩,m,h,a,b=> by
  have hc:0<=Jw ⟨k,n,t,e⟩/\1<=Jw ⟨k,n,t,e⟩:=by
   have:=Z74 e
   simp only [Jw]
   split <;> omega
  have hl:∀ b:Int,ctE (Z1v l a ⟨k,n,t,e⟩ b)<=Z1x ⟨k,n,t,e⟩+90:=fun b=> ZoD _ _ _ _
  simp only [Z3o]
  split
  .simp [ctL];omega
  .split
   .have:=hl (b - t.length)
    simp only [ctL,Qs]
    omega
   .split
    .have:=hl (b - 0)
     simp only [ctL,Qs]
     omega
    .rename_i k0 k1 k2
     have s:k=3/\Z1 e m=true:=by
      have:=Zu h
      cases this with
      | keep=> exact absurd rfl k0
      | gone=> exact absurd rfl k1
      | come=> exact absurd rfl k2
      | into _ he=> exact ⟨rfl,he⟩
     have d:=ZhE e m s.2
     have h2:=Zmd (f:=fun x=> Z1v l a ⟨3,0,[],x⟩ (b - 1)) (c:=106) (fun x=> by
      have:=ZoD l a ⟨3,0,[],x⟩ (b - 1)
      simp only [Z1x,Ze] at this
      omega) (Zn e)
     simp only [Qt,Jw,if_pos s.1,Z1x]
     refine ⟨?_,by have:=d.2;omega⟩
     have e1:(Zn e).length*(65700*(m+1))=(Zn e).length*(65700*m)+(Zn e).length*65700:=by rw [Kb,Kb,Nat.mul_one]
     have e2:(Zn e).length*106<=(Zn e).length*65700:=XG _ V3
     have:=d.1
     omega
theorem ZiF:∀ ks:List (KidOf Edit),0<=Jh ks
 | []=> QS _
 | ⟨a,e⟩ ::r=> by have:=ZiF r;have:=Z74 e;simp only [Jh,Z1y];omega
end
theorem ZpF{e:Edit}(hr:Z1 e 64=true)(hg:ZX e)(hl:Jz e=true)(hm:Z0 e<=3000)(hc:Yn e<=200):
  (∀ x∈Zn (Zp e),YT x)/\ctL (Zn (Zp e))<=8000000000/\(Z0A (Zn (Zp e))).2=true/\YT (Z0A (Zn (Zp e))).1/\
  ∀ t,RT_ t->(doE false (Z0A (Zn (Zp e))).1 t).map Z6=(doE false e t).map Z6:=by
 have d:=Jy e 64 hr
 have gg:=Z16 _ 64 hr hg
 have gl:=Zba _ e 64 (Q9 _) hr hl
 have gm:=Z5R e
 have ae:=Z4S (Zp e)
 have am:=Z7U _ (Zp e) 64 (Q9 _) d gl
 have af:=ZdW _ (Zp e) 64 (Q9 _) d gg
 have s:=ZhE (Zp e) 64 d
 have a4:=Zbe e
 have az:=Zdd (Zp e)
 have h:∀ x∈Zn (Zp e),YT x:=fun x h=> ⟨by have:=Zdd x;have:=ae.1 x h;omega,af x h,64,(am x h).right⟩
 have ak:ctL (Zn (Zp e))<=8000000000:=by
  have h1:=s.1
  have h2:(Zn (Zp e)).length*(65700*64)<=200*(65700*64):=Qk _ (by have:=s.2;omega)
  omega
 have ab:RT_ (Z40 (Zp e)):=⟨⟨-1,Zat _ (Zp e) 64 (Q9 _) d⟩,(ZkK _ (Zp e) 64 (Q9 _) V1 d gg).2⟩
 obtain ⟨v,hv⟩:=ZkL _ (Zp e) 64 (Q9 _) d gg
 have hs:=Zc8 _ (Zp e) 64 (Z40 (Zp e)) (Q9 _) d
 have hz:∀ t,(doE false Edit.nil t).bind (J3 (Zn (Zp e)))=J3 (Zn (Zp e)) t:=fun t=> by rw [ZD5];try rfl
 have ay:ctE Edit.nil=18:=by simp [ctE,Z08,YF,Edit.nil,Tree.nil,Zq,Ze]
 obtain ⟨j1,j2,j3,j4⟩:=Zoh (Zn (Zp e)) Edit.nil _ Z7G h V1 ab (by rw [hz,hs.isSome,hv];rfl)
 have hj:Z0A (Zn (Zp e))=(Zp (Z1f (Zn (Zp e)) Edit.nil).1,true):=by rw [Z0A,if_pos j1]
 obtain ⟨dj,rj⟩:=j2.2.2
 rw [hj]
 refine ⟨h,ak,rfl,⟨QN (Z5n _) j2.1,Z16 _ dj rj j2.2.1,dj,Jy _ _ rj⟩,fun t ht=> ?_⟩
 have k1:=Zb4 _ dj t rj ht
 have k2:=j4 t ht
 rw [hz] at k2
 have k3:=Zc8 _ (Zp e) 64 t (Q9 _) d
 have k4:=Zb4 e 64 t hr ht
 exact (Z4n (Z4n (Z4n k1 k2) k3) k4).normed
def utW(w:Wst):Nat:=Z0P w.out+(34*w.gone.length+Ze w.gone)+(34*w.brought.length+Ze w.brought)
theorem Zgl(w:Wst):Z0P (Zb w).out=utW w:=by
 simp only [Zb,JZ,utW,Z5r]
 by_cases h1:w.gone.length=0
 .rw [if_pos h1,Q3 h1]
  by_cases h2:w.brought.length=0
  .rw [if_pos h2,Q3 h2];simp [Z0P,Ze]
  .rw [if_neg h2];simp only [Z0P,Zap,Ze,if_neg (show ¬(2:Int)=3 by decide)];simp <;> omega
 .rw [if_neg h1]
  by_cases h2:w.brought.length=0
  .rw [if_pos h2,Q3 h2];simp only [Z0P,Zap,Ze,if_neg (show ¬(1:Int)=3 by decide)];simp <;> omega
  .rw [if_neg h2];simp only [Z0P,Zap,if_neg (show ¬(1:Int)=3 by decide),if_neg (show ¬(2:Int)=3 by decide)];simp <;> omega
theorem Zr8(w:Wst)(n:Int):utW (Y2 w n)<=utW w+34*n.toNat:=by
 have h:=Zgl w
 have e:utW (Y2 w n)=Z0P (JK (Zb w).out n):=by simp [Y2,utW,Ze]
 rw [e,<-h]
 rcases Jq (Zb w).out n with e | ⟨a,q,e1,e2,e3⟩
 .rw [e,Z5r];simp only [Z0P,Zap,Ze,if_neg (show ¬(0:Int)=3 by decide)];simp
 .rw [e3,e1,Z5r,Z5r]
  simp only [Z0P,Zap,Z2P,e2,if_neg (show ¬(0:Int)=3 by decide)]
  omega
mutual
theorem Zp0:∀ (e:Edit),utE (Zp e)<=utE e
 | .mk k o n w ks l os=> by
  have h1:=ZmK ks
  have d:=ZmJ l os ⟨[],[],[]⟩
  have h:=Y5 o
  have s:=Y5 n
  have:=Z5N o
  have:=Z5N n
  have hf:=Zgl (Zv l os ⟨[],[],[]⟩)
  have hz:utW ⟨[],[],[]⟩=0:=rfl
  rw [Zp]
  split
  .simp only [utE,Z7i,Z0P,Qh];omega
  .split
   .simp only [utE,Z0P,JO];omega
   .split
    .simp only [utE,Z7i,JO,Qh];omega
    .simp only [utE,Z7i,Z0P,JO,Qh];omega
theorem ZmK:∀ (ks:List (KidOf Edit)),Z7i (YR ks)<=Z7i ks
 | []=> Q9 _
 | k ::r=> by
  have d:=Zum k
  have h:=ZmK r
  simp only [YR,Z7i]
  omega
theorem Zum:∀ (k:KidOf Edit),Zgm (Z0X k)<=Zgm k
 | ⟨a,e⟩=> by
  have:=Zp0 e
  simp only [Z0X,Zgm]
  omega
theorem ZmJ(list:Int):∀ (os:List (OpOf Edit)) (w:Wst),utW (Zv list os w)<=utW w+Z0P os
 | [],w=> Q9 _
 | o ::r,w=> by
  have d:=Zxj list o w
  have h:=ZmJ list r (Z04 list o w)
  simp only [Zv,Z0P]
  omega
theorem Zxj(list:Int):∀ (o:OpOf Edit) (w:Wst),utW (Z04 list o w)<=utW w+Zap o
 | ⟨k,n,l,e⟩,w=> by
  have s:=Zp0 e
  have d:=ZkH e
  have hl:=Z4W l
  have h:(Z8 l).length=l.length:=by simp [Z8]
  rw [Z04]
  simp only [Zap]
  split
  .rename_i k0
   rw [Jv]
   have:=Zr8 w n;omega
  .split
   .rename_i k1
    rw [Jv]
    have:=JP w.gone (Z8 l)
    simp only [utW,Q7]
    omega
   .split
    .rename_i k2
     rw [Jv]
     have:=JP w.brought (Z8 l)
     simp only [utW,Q7]
     omega
    .split
     .rename_i k3
      split
      .have:=Zr8 w 1;simp at this;omega
      .have:=Zgl w
       simp only [utW,Z5r,Z0P,Zap,if_true,Ze,Qh] at this ⊢
       omega
     .omega
end
def utL:List Edit->Nat
 | []=> 0
 | e ::r=> utE e+utL r
noncomputable def ZcB:List Edit->Edit->Edit × Bool
 | [],x=> (x,true)
 | e ::r,x=> if (Z5a x e).2=true then ZcB r (Z5a x e).1 else (Edit.nil,false)
noncomputable def Z0K(l:List Edit):Edit × Bool:=if (ZcB l Edit.nil).2=true then (Zp (ZcB l Edit.nil).1,true) else (Edit.nil,false)
theorem Znp{p q:Edit}(hp:refOk p)(hq:refOk q)(h:(Z5a p q).2=true)(hs:utE p+utE q<=9000000000):refOk (Z5a p q).1/\utE (Z5a p q).1+18<=utE p+utE q:=by
 have m1:=Ju hp.re
 have s:=Ju hq.re
 obtain ⟨W,d⟩:=Zya _ p q (Q9 _) V1 (Z8R hp.re) (Z8R hq.re)
 have e:Z0N (Z0 p+Z0 q) p q=JM p q:=rfl
 rw [e] at d W
 unfold Z5a at h ⊢
 split at h
 .rename_i hc
  rw [if_pos hc]
  have d:=d hc
  have w:=W.wk hc
  have n:=Zp0 (JM p q).1
  dsimp only
  exact ⟨⟨V1,Z16 _ _ w.r w.g,_,Jy _ _ w.r⟩,V1⟩
 .cases h
theorem ZjK:refOk Edit.nil:=⟨by simp [utE,Z7i,Z0P,Edit.nil,Tree.nil,Zq,Ze],Z7G.2⟩
theorem Zrb:utE Edit.nil=18:=by simp [utE,Z7i,Z0P,Edit.nil,Tree.nil,Zq,Ze]
theorem Zim:∀ (l:List Edit) (x:Edit),refOk x->(∀ e∈l,refOk e)->utE x+utL l<=8000000018->Z1f l x=ZcB l x
 | [],x,_,_,_=> rfl
 | e ::r,x,hx,he,hc=> by
  have d:=he e Q1
  rw [utL] at hc
  rw [Z1f,ZcB,ZAc hx d]
  split
  .rename_i h
   have:=Znp hx d h V1
   exact Zim r _ this.1 (fun y s=> he y (Q0 _ s)) V1
  .try rfl
theorem ZzR{l:List Edit}(he:∀ e∈l,refOk e)(hc:utL l<=8000000000):Z0A l=Z0K l:=by
 unfold Z0A Z0K
 rw [Zim l Edit.nil ZjK he (by rw [Zrb];omega)]
theorem Zra:∀ l:List Edit,l.length<=utL l
 | []=> Q9 _
 | e ::r=> by have:=Zra r;have:=ZkH e;simp only [utL,Q8];omega
end Go.AM.YtpjenobkibfpcaaGreat
