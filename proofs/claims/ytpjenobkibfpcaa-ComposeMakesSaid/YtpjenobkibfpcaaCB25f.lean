import Derived.Test.YtpjenobkibfpcaaCG25c
import Derived.Test.YtpjenobkibfpcaaKG20d
import Derived.Test.YtpjenobkibfpcaaKB22b
import Derived.Test.YtpjenobkibfpcaaKB22d
import Derived.Test.YtpjenobkibfpcaaCD25
set_option linter.unusedSimpArgs false
set_option linter.unusedVariables false
namespace Go.AM.Ytpjenobkibfpcaa
open Go.AM Go.Proofs
theorem ZcJ{e:Edit}(h:JK e):Wk e:=by obtain ⟨d,hr⟩:=h.2.2;exact .of hr h.2.1
theorem Zgh{p q:Edit}(hp:JK p)(hq:JK q):ComWk True (Yh p q) p q:=ZyV _ p q (Nat.le_refl _) (ZcJ hp) (ZcJ hq)
theorem ZvN{p q:Edit}(hp:JK p)(hq:JK q)(h:(Yh p q).2=true):Z26 ((Yh p q).1,()):=by
 have H:=Zgh hp hq
 have:=H.ct trivial h
 have:=Z7g (Yh p q).1
 have:=hp.1
 have:=hq.1
 exact ⟨by dsimp only;omega,-1,(H.wk h).r⟩
theorem c21:Contract Try.prog cfg 21 Z5O:=by
 refine Zyr c60 ZsY.1 ?_
 intro p q _ hp
 refine ZCQ _ _ _ ?_
 intro y1 h1 y2 h2 y3 h3
 subst h1 h2
 (simp only [vcT,vcS])
 refine ⟨hp,fun hc=> ?_,fun hc=> ?_⟩
 ·refine Y8 (r':= .tup [(true,enc .edit Edit.nil),(false,[.bool false])]) ?_ (by (repeat' (first | exact trivial | exact rfl | apply And.intro)))
  simp only [Zmf,Z5p]
  rw [if_neg (by rw [hc];decide)]
  try rfl
 ·refine ⟨by rw [h3];exact ZvN hp.1 hp.2 hc,Y8 (r':= .tup [(true,enc .edit (Zy y3)),(false,[.bool true])]) ?_ (by (repeat' (first | exact trivial | exact rfl | apply And.intro)))⟩
  simp only [Zmf,Z5p]
  rw [if_pos hc,h3]
  try rfl
theorem Zb2{f g:Nat→Int}(h:∀ i,i < 8→f i=g i):of8 f=of8 g:=by
 unfold of8
 rw [h 0 (by omega),h 1 (by omega),h 2 (by omega),h 3 (by omega),h 4 (by omega),h 5 (by omega),h 6 (by omega),h 7 (by omega)]
theorem ZeO{p q:WEdit}(rp:Z2e p)(rq:Z2e q):Z6D p q=true↔∀ i:Nat,i < 8→Zx p.mask (i:Int)=true→Zx q.mask (i:Int)=true→Z0 p.new i=Z0 q.old i:=by
 obtain ⟨_,h⟩:=ZnZ rp.2.1 rq.2.1
 unfold Z6D
 rw [decide_eq_true_eq]
 constructor
 ·intro e i hi h1 h2
  have:=congrArg (fun w=> Z0 w i) e
  simp only [Zkx hi] at this
  rw [h i,h1,h2] at this
  simpa using this
 ·intro e
  refine Zb2 fun i hi=> ?_
  unfold J0
  rw [h i]
  split
  ·rename_i hn
   rw [Bool.and_eq_true] at hn
   exact e i hi hn.1 hn.2
  ·try rfl
theorem Zt7{m i:Int}(h0:0≤m)(hi:0≤i)(h8:i < 8):m % 2 ^ (i+1).toNat=m % 2 ^ i.toNat+if Zx m i=true then 2 ^ i.toNat else 0:=by
 have e:Zx m i=decide (m / 2 ^ i.toNat % 2=1):=rfl
 rw [e]
 simp only [decide_eq_true_eq]
 have:i=0∨i=1∨i=2∨i=3∨i=4∨i=5∨i=6∨i=7:=by omega
 rcases this with rfl | rfl | rfl | rfl | rfl | rfl | rfl | rfl <;> simp <;> split <;> omega
theorem ZvP{i:Int}(hi:0≤i):(2:Int)*2 ^ i.toNat=2 ^ (i+1).toNat:=by
 rw [show (i+1).toNat=i.toNat+1 by omega,Int.pow_succ,Int.mul_comm]
theorem Zzo{i:Int}(h0:0≤i)(hi:i≤8):(1:Int)≤2 ^ i.toNat∧(2:Int) ^ i.toNat≤256:=by
 have:i=0∨i=1∨i=2∨i=3∨i=4∨i=5∨i=6∨i=7∨i=8:=by omega
 rcases this with rfl | rfl | rfl | rfl | rfl | rfl | rfl | rfl | rfl <;> simp
def Yt(p q:WEdit)(j:Nat):Int:=if Zx p.mask (j:Int)=true then Z0 p.old j else if Zx q.mask (j:Int)=true then Z0 q.old j else 0
def Yu(p q:WEdit)(j:Nat):Int:=if Zx q.mask (j:Int)=true then Z0 q.new j else if Zx p.mask (j:Int)=true then Z0 p.new j else 0
theorem c25:Contract Try.prog cfg 25 Z8a:=by
 refine Zyo c67 c68 c69 ?_
 intro p q _ hp
 obtain ⟨⟨rp,op,np⟩,rq,oq,nq⟩:=hp
 dsimp only at rp op np rq oq nq
 obtain ⟨om,ob⟩:=ZrH rp.2.1 rq.2.1
 refine ZCM _ _ _ ?_
 refine ⟨rp.2.2.1,rp.2.2.2,rq.2.2.1,rq.2.2.2,?_⟩
 let st:=fun (F:Nat→Int) (i:Int) (j:Nat)=> if (j:Int) < i then F j else 0
 refine Z6 (ι:=Int) (fun i=> Z1U p q (2 ^ i.toNat) (orM p.mask q.mask % 2 ^ i.toNat) i (st (Yt p q) i 0) (st (Yt p q) i 1) (st (Yt p q) i 2) (st (Yt p q) i 3) (st (Yt p q) i 4) (st (Yt p q) i 5) (st (Yt p q) i 6) (st (Yt p q) i 7)
  (st (Yu p q) i 0) (st (Yu p q) i 1) (st (Yu p q) i 2) (st (Yu p q) i 3) (st (Yu p q) i 4) (st (Yu p q) i 5) (st (Yu p q) i 6) (st (Yu p q) i 7))
  (fun i=> (0≤i∧i≤8)∧∀ j:Nat,(j:Int) < i→Zx p.mask (j:Int)=true→Zx q.mask (j:Int)=true→Z0 p.new j=Z0 q.old j) (fun i=> (8 - i).toNat) 0 ?_ ⟨⟨by omega,by omega⟩,fun j hj=> by omega⟩ ?_
 ·simp [Z1U,st]
 rintro i ⟨⟨h1,h2⟩,hok⟩
 have bs:=Zt7 (m:=orM p.mask q.mask) om.1 h1
 have bp:=ZvP h1
 have bl:=Zzo h1 h2
 have orb:Zx (orM p.mask q.mask) i=(Zx p.mask i || Zx q.mask i):=by
  have:=ob i.toNat
  rwa [show ((i.toNat:Nat):Int)=i by omega] at this
 refine Zum _ _ _ _ _ _ _ _ _ _ _ _ _ _ _ _ _ _ _ _ _ _ _ ?_
 have f1:∀ (F:Nat→Int) (v:Int),v=F i.toNat→∀ j:Nat,Ye i j v (st F i j)=st F (i+1) j:=fun F v hv j=> ZhV (F:=F) (G:=fun _=> 0) h1 hv
 have f2:∀ (F:Nat→Int),F i.toNat=0→∀ j:Nat,st F i j=st F (i+1) j:=fun F hv j=> Znk (F:=F) (G:=fun _=> 0) hv h1
 have f3:∀ (v w x:Int) (j:Nat),Ye i j v (Ye i j w x)=Ye i j v x:=fun v w x j=> by unfold Ye;split <;> rfl
 have gd:∀ w:Int,i < 8→List.getD [Z0 w 0,Z0 w 1,Z0 w 2,Z0 w 3,Z0 w 4,Z0 w 5,Z0 w 6,Z0 w 7] i.toNat 0=Z0 w i.toNat:=fun w h=> Znl (Z0 w) (by omega)
 have ie:((i.toNat:Nat):Int)=i:=by omega
 have tl:∀ (m:Int) (N0:LSt U→Prop) (Q:AExit→LSt U→Prop),i < 8→N0 (Z1U p q (2*2 ^ i.toNat) m (i+1) (st (Yt p q) (i+1) 0) (st (Yt p q) (i+1) 1) (st (Yt p q) (i+1) 2) (st (Yt p q) (i+1) 3) (st (Yt p q) (i+1) 4) (st (Yt p q) (i+1) 5) (st (Yt p q) (i+1) 6) (st (Yt p q) (i+1) 7) (st (Yu p q) (i+1) 0) (st (Yu p q) (i+1) 1) (st (Yu p q) (i+1) 2) (st (Yu p q) (i+1) 3) (st (Yu p q) (i+1) 4) (st (Yu p q) (i+1) 5) (st (Yu p q) (i+1) 6) (st (Yu p q) (i+1) 7))→
   A25 [1,1,1,1,1,1,0,1,0,0,1,0,0,1,1,1] (Zab p q (2 ^ i.toNat) i (st (Yt p q) i 0) (st (Yt p q) i 1) (st (Yt p q) i 2) (st (Yt p q) i 3) (st (Yt p q) i 4) (st (Yt p q) i 5) (st (Yt p q) i 6) (st (Yt p q) i 7) (st (Yu p q) i 0) (st (Yu p q) i 1) (st (Yu p q) i 2) (st (Yu p q) i 3) (st (Yu p q) i 4) (st (Yu p q) i 5) (st (Yu p q) i 6) (st (Yu p q) i 7) m) (AExit.inBlock 1 (S25 [1,1,1,1,1,1,0,1,0,0,1,1] (AExit.then N0 (AExit.inBlock 0 (S25 [1,1,1,1,1,1,1] Q))))):=by
  intro m N0 Q h8 hN
  refine Zun _ _ _ _ _ _ _ _ _ _ _ _ _ _ _ _ _ _ _ _ _ _ _ ?_
  intro y1 hy1 y2 hy2
  rw [gd _ h8] at hy1 hy2
  subst hy1 hy2
  have ir:InR (2*2 ^ i.toNat):=by unfold InR;omega
  have ir2:InR (i+1):=by unfold InR;omega
  have rg:(0:Int)≤i∧i < ((8:Nat):Int):=⟨h1,by omega⟩
  have wo:Yt p q i.toNat=if Zx p.mask i=true then Z0 p.old i.toNat else if Zx q.mask i=true then Z0 q.old i.toNat else 0:=by unfold Yt;rw [ie]
  have wn:Yu p q i.toNat=if Zx q.mask i=true then Z0 q.new i.toNat else if Zx p.mask i=true then Z0 p.new i.toNat else 0:=by unfold Yu;rw [ie]
  refine ⟨ir,fun hY=> ⟨rg,rg,rg,rg,?_⟩,fun hY=> ?_⟩
  ·rw [if_pos hY] at wn
   refine ZlA _ _ _ _ _ _ _ _ _ _ _ _ _ _ _ _ _ _ _ _ _ _ _ _ ?_
   intro y1 hy1
   rw [gd _ h8] at hy1
   subst hy1
   refine ⟨fun hX=> ⟨rg,rg,?_⟩,fun hX=> ?_⟩
   ·rw [if_pos hX] at wo
    refine ZcC _ _ _ _ _ _ _ _ _ _ _ _ _ _ _ _ _ _ _ _ _ _ _ ?_
    intro y1 hy1
    refine ⟨fun h=> h,fun h=> h,fun hZ=> ?_,fun hZ=> ?_⟩
    ·rw [hX,hY] at hZ;cases hZ
    ·refine ZcB _ _ _ _ _ _ _ _ _ _ _ _ _ _ _ _ _ _ _ _ _ _ _ ⟨ir2,?_⟩
     rw [f3 _ _ _ 0,f3 _ _ _ 1,f3 _ _ _ 2,f3 _ _ _ 3,f3 _ _ _ 4,f3 _ _ _ 5,f3 _ _ _ 6,f3 _ _ _ 7]
     rw [f1 _ _ wo.symm 0,f1 _ _ wo.symm 1,f1 _ _ wo.symm 2,f1 _ _ wo.symm 3,f1 _ _ wo.symm 4,f1 _ _ wo.symm 5,f1 _ _ wo.symm 6,f1 _ _ wo.symm 7]
     rw [f1 _ _ wn.symm 0,f1 _ _ wn.symm 1,f1 _ _ wn.symm 2,f1 _ _ wn.symm 3,f1 _ _ wn.symm 4,f1 _ _ wn.symm 5,f1 _ _ wn.symm 6,f1 _ _ wn.symm 7]
     exact hN
   ·rw [if_neg (by rw [hX];decide),if_pos hY] at wo
    refine ZcC _ _ _ _ _ _ _ _ _ _ _ _ _ _ _ _ _ _ _ _ _ _ _ ?_
    intro y1 hy1
    refine ⟨fun h=> h,fun h=> h,fun hZ=> ?_,fun hZ=> ?_⟩
    ·rw [hX] at hZ;cases hZ
    ·refine ZcB _ _ _ _ _ _ _ _ _ _ _ _ _ _ _ _ _ _ _ _ _ _ _ ⟨ir2,?_⟩
     rw [f1 _ _ wo.symm 0,f1 _ _ wo.symm 1,f1 _ _ wo.symm 2,f1 _ _ wo.symm 3,f1 _ _ wo.symm 4,f1 _ _ wo.symm 5,f1 _ _ wo.symm 6,f1 _ _ wo.symm 7]
     rw [f1 _ _ wn.symm 0,f1 _ _ wn.symm 1,f1 _ _ wn.symm 2,f1 _ _ wn.symm 3,f1 _ _ wn.symm 4,f1 _ _ wn.symm 5,f1 _ _ wn.symm 6,f1 _ _ wn.symm 7]
     exact hN
  ·rw [if_neg (by rw [hY];decide)] at wn
   refine ZlA _ _ _ _ _ _ _ _ _ _ _ _ _ _ _ _ _ _ _ _ _ _ _ _ ?_
   intro y1 hy1
   rw [gd _ h8] at hy1
   subst hy1
   refine ⟨fun hX=> ⟨rg,rg,?_⟩,fun hX=> ?_⟩
   ·rw [if_pos hX] at wo wn
    refine ZcC _ _ _ _ _ _ _ _ _ _ _ _ _ _ _ _ _ _ _ _ _ _ _ ?_
    intro y1 hy1
    rw [gd _ h8] at hy1
    subst hy1
    refine ⟨fun h=> h,fun h=> h,fun hZ=> ⟨rg,rg,?_⟩,fun hZ=> ?_⟩
    ·refine ZcB _ _ _ _ _ _ _ _ _ _ _ _ _ _ _ _ _ _ _ _ _ _ _ ⟨ir2,?_⟩
     rw [f1 _ _ wo.symm 0,f1 _ _ wo.symm 1,f1 _ _ wo.symm 2,f1 _ _ wo.symm 3,f1 _ _ wo.symm 4,f1 _ _ wo.symm 5,f1 _ _ wo.symm 6,f1 _ _ wo.symm 7]
     rw [f1 _ _ wn.symm 0,f1 _ _ wn.symm 1,f1 _ _ wn.symm 2,f1 _ _ wn.symm 3,f1 _ _ wn.symm 4,f1 _ _ wn.symm 5,f1 _ _ wn.symm 6,f1 _ _ wn.symm 7]
     exact hN
    ·rw [hX,hY] at hZ;cases hZ
   ·rw [if_neg (by rw [hX];decide)] at wo wn
    rw [if_neg (by rw [hY];decide)] at wo
    refine ZcC _ _ _ _ _ _ _ _ _ _ _ _ _ _ _ _ _ _ _ _ _ _ _ ?_
    intro y1 hy1
    refine ⟨fun h=> h,fun h=> h,fun hZ=> ?_,fun hZ=> ?_⟩
    ·rw [hX] at hZ;cases hZ
    ·refine ZcB _ _ _ _ _ _ _ _ _ _ _ _ _ _ _ _ _ _ _ _ _ _ _ ⟨ir2,?_⟩
     rw [f2 _ wo 0,f2 _ wo 1,f2 _ wo 2,f2 _ wo 3,f2 _ wo 4,f2 _ wo 5,f2 _ wo 6,f2 _ wo 7]
     rw [f2 _ wn 0,f2 _ wn 1,f2 _ wn 2,f2 _ wn 3,f2 _ wn 4,f2 _ wn 5,f2 _ wn 6,f2 _ wn 7]
     exact hN
 have ext:i < 8→(Zx p.mask i=true→Zx q.mask i=true→Z0 p.new i.toNat=Z0 q.old i.toNat)→∀ j:Nat,(j:Int) < i+1→Zx p.mask (j:Int)=true→Zx q.mask (j:Int)=true→Z0 p.new j=Z0 q.old j:=by
  intro h8 h j hj hx hy
  by_cases hji:(j:Int) < i
  ·exact hok j hji hx hy
  ·have:(j:Int)=i:=by omega
   have hj':j=i.toNat:=by omega
   subst hj'
   rw [this] at hx hy
   exact h hx hy
 (simp only [vcT,vcS])
 refine ⟨fun h8=> ⟨⟨rp.2.1,h1,by dsimp only;omega⟩,⟨rq.2.1,h1,by dsimp only;omega⟩,fun _=> ⟨h1,by omega⟩,fun _=> ⟨h1,by omega⟩,fun hne=> ?_,fun hk=> ?_⟩,fun h8=> ?_⟩
 ·rw [gd _ h8,gd _ h8] at hne
  have hc:Z6D p q=false:=by
   rw [←Bool.not_eq_true,ZeO rp rq]
   intro h
   have:=h i.toNat (by omega) (by rw [ie];exact hne.1.1) (by rw [ie];exact hne.1.2)
   exact hne.2 this
  refine Y8 (r':= .tup [(true,enc .wedit (⟨0,0,0,0⟩:WEdit)),(false,[.bool false])]) ?_ (by (repeat' (first | exact trivial | exact rfl | apply And.intro)))
  simp only [Zmb,J5]
  rw [hc]
  try rfl
 ·rw [gd _ h8,gd _ h8] at hk
  have hk':Zx p.mask i=true→Zx q.mask i=true→Z0 p.new i.toNat=Z0 q.old i.toNat:=by
   intro hx hy
   rcases hk with (h | h) | h
   ·rw [hx] at h;cases h
   ·rw [hy] at h;cases h
   ·exact h
  have fin:∀ m:Int,m=orM p.mask q.mask % 2 ^ (i+1).toNat→∃ j:Int,Z1U p q (2*2 ^ i.toNat) m (i+1) (st (Yt p q) (i+1) 0) (st (Yt p q) (i+1) 1) (st (Yt p q) (i+1) 2) (st (Yt p q) (i+1) 3) (st (Yt p q) (i+1) 4) (st (Yt p q) (i+1) 5) (st (Yt p q) (i+1) 6) (st (Yt p q) (i+1) 7) (st (Yu p q) (i+1) 0) (st (Yu p q) (i+1) 1) (st (Yu p q) (i+1) 2) (st (Yu p q) (i+1) 3) (st (Yu p q) (i+1) 4) (st (Yu p q) (i+1) 5) (st (Yu p q) (i+1) 6) (st (Yu p q) (i+1) 7)=
    Z1U p q (2 ^ j.toNat) (orM p.mask q.mask % 2 ^ j.toNat) j (st (Yt p q) j 0) (st (Yt p q) j 1) (st (Yt p q) j 2) (st (Yt p q) j 3) (st (Yt p q) j 4) (st (Yt p q) j 5) (st (Yt p q) j 6) (st (Yt p q) j 7) (st (Yu p q) j 0) (st (Yu p q) j 1) (st (Yu p q) j 2) (st (Yu p q) j 3) (st (Yu p q) j 4) (st (Yu p q) j 5) (st (Yu p q) j 6) (st (Yu p q) j 7)∧((0≤j∧j≤8)∧∀ k:Nat,(k:Int) < j→Zx p.mask (k:Int)=true→Zx q.mask (k:Int)=true→Z0 p.new k=Z0 q.old k)∧(8 - j).toNat < (8 - i).toNat:=by
   intro m hm
   refine ⟨i+1,?_,⟨⟨by omega,by omega⟩,ext h8 hk'⟩,by omega⟩
   rw [bp,hm]
  have bm:0≤orM p.mask q.mask % 2 ^ i.toNat∧orM p.mask q.mask % 2 ^ i.toNat < 2 ^ i.toNat:=⟨Int.emod_nonneg _ (by omega),Int.emod_lt_of_pos _ (by omega)⟩
  refine ⟨fun hor=> ⟨by unfold InR;omega,tl _ _ _ h8 (fin _ ?_)⟩,fun hno=> tl _ _ _ h8 (fin _ ?_)⟩
  ·rw [bs h8,orb,if_pos]
   rcases hor with h | h <;> rw [h] <;> simp
  ·rw [bs h8,orb,if_neg]
   ·omega
   ·rw [hno.1,hno.2];decide
 ·have h8:i=8:=by omega
  subst h8
  have by_:∀ (w:Int) (j:Nat),0≤Z0 w j∧Z0 w j < 256:=fun w j=> Z0a w j
  have z:(0:Int)≤0∧(0:Int) < 256:=by decide
  have ro:∀ j,0≤Yt p q j∧Yt p q j < 256:=fun j=> by unfold Yt;split;exact by_ _ _;split;exact by_ _ _;exact z
  have rn:∀ j,0≤Yu p q j∧Yu p q j < 256:=fun j=> by unfold Yu;split;exact by_ _ _;split;exact by_ _ _;exact z
  have all:∀ (F:Nat→Int),(∀ j,0≤F j∧F j < 256)→∀ x∈[st F 8 0,st F 8 1,st F 8 2,st F 8 3,st F 8 4,st F 8 5,st F 8 6,st F 8 7],0≤x∧x < 256:=by
   intro F hF x hx
   simp only [st] at hx
   simp at hx
   rcases hx with rfl | rfl | rfl | rfl | rfl | rfl | rfl | rfl <;> exact hF _
  have hc:Z6D p q=true:=(ZeO rp rq).2 fun j hj=> hok j (by omega)
  refine ⟨⟨rfl,rfl,all _ ro⟩,⟨rfl,rfl,all _ rn⟩,?_⟩
  have e1:(of8 fun j=> [st (Yt p q) 8 0,st (Yt p q) 8 1,st (Yt p q) 8 2,st (Yt p q) 8 3,st (Yt p q) 8 4,st (Yt p q) 8 5,st (Yt p q) 8 6,st (Yt p q) 8 7].getD j 0)=mix q.old p.old p.mask:=by
   refine Zb2 fun j hj=> ?_
   rw [Znl (st (Yt p q) 8) hj]
   simp only [st]
   rw [if_pos (by omega)]
   unfold Yt J0
   split
   ·try rfl
   ·split
    ·try rfl
    ·rename_i hn;exact (Z3q oq hj (by simpa using hn)).symm
  have e2:(of8 fun j=> [st (Yu p q) 8 0,st (Yu p q) 8 1,st (Yu p q) 8 2,st (Yu p q) 8 3,st (Yu p q) 8 4,st (Yu p q) 8 5,st (Yu p q) 8 6,st (Yu p q) 8 7].getD j 0)=mix p.new q.new q.mask:=by
   refine Zb2 fun j hj=> ?_
   rw [Znl (st (Yu p q) 8) hj]
   simp only [st]
   rw [if_pos (by omega)]
   unfold Yu J0
   split
   ·try rfl
   ·split
    ·try rfl
    ·rename_i hn;exact (Z3q np hj (by simpa using hn)).symm
  have e3:IntKind.u8.wrap (orM p.mask q.mask % 2 ^ (8:Int).toNat)=orM p.mask q.mask:=by
   rw [show (2:Int) ^ (8:Int).toNat=256 from rfl,Int.emod_eq_of_lt om.1 om.2]
   exact Z8L om.1 om.2
  rw [e1,e2,e3]
  refine Y8 (r':= .tup [(true,enc .wedit (⟨p.at_,orM p.mask q.mask,mix q.old p.old p.mask,mix p.new q.new q.mask⟩:WEdit)),(false,[.bool true])]) ?_ (by (repeat' (first | exact trivial | exact rfl | apply And.intro)))
  simp only [Zmb,J5]
  rw [hc]
  try rfl
end Go.AM.Ytpjenobkibfpcaa
namespace Go.AM.Ytpjenobkibfpcaa
open Go.AM Go.Proofs
theorem Zpa(a:WEdit)(r:List WEdit)(n:Int):Z0V (a ::r) n=if a.at_=n then some a else Z0V r n:=by
 unfold Z0V
 by_cases h:a.at_=n
 ·rw [if_pos h,List.find?_cons_of_pos];simpa using h
 ·rw [if_neg h,List.find?_cons_of_neg];simpa using h
theorem Zpb(a:Kid)(r:List Kid)(n:Int):Ju (a ::r) n=if a.at_=n then a.e else Ju r n:=by
 unfold Ju
 by_cases h:a.at_=n
 ·rw [if_pos h,List.find?_cons_of_pos];rfl;simpa using h
 ·rw [if_neg h,List.find?_cons_of_neg];simpa using h
theorem Zza:Contract Try.prog cfg 142 Z4Y:=by
 refine Zv0 ?_
 intro l a _ hp
 have hp:l.length≤1000000:=hp
 refine ZAW _ _ _ ?_
 refine Z6 (ι:=Int) (fun i=> Z7p l a i) (fun i=> 0≤i∧i≤l.length∧Z0V l a=Z0V (l.drop i.toNat) a) (fun i=> ((l.length:Int) - i).toNat) 0 rfl ⟨by omega,by omega,by simp⟩ ?_
 rintro i ⟨f1,f2,f3⟩
 refine Zq0 _ _ _ _ _ ?_
 (simp only [vcT,vcS])
 refine ⟨fun hi=> ?_,fun hi=> ?_⟩
 ·rw [Y1 f1 hi ⟨0,0,0,0⟩,Zpa] at f3
  generalize hw:l.getD i.toNat ⟨0,0,0,0⟩=w at*
  refine ⟨⟨f1,hi⟩,fun he=> ⟨⟨f1,hi⟩,?_⟩,fun he=> ⟨by unfold InR;omega,i+1,rfl,⟨by omega,by omega,by rw [f3,if_neg he]⟩,by omega⟩⟩
  rw [if_pos he] at f3
  refine Y8 (r':= .tup [(true,enc .wedit w),(false,[.bool true])]) ?_ (by (repeat' (first | exact trivial | exact rfl | apply And.intro)))
  simp only [ZgO,f3]
  try rfl
 ·rw [List.drop_of_length_le (by omega)] at f3
  refine Y8 (r':= .tup [(true,enc .wedit (⟨0,0,0,0⟩:WEdit)),(false,[.bool false])]) ?_ (by (repeat' (first | exact trivial | exact rfl | apply And.intro)))
  simp only [ZgO,f3]
  try rfl
theorem Zz9:Contract Try.prog cfg 143 Z4X:=by
 refine ZuZ ?_
 intro l a _ hp
 have hp:l.length≤1000000:=hp
 refine ZAV _ _ _ ?_
 refine Z6 (ι:=Int) (fun i=> Z7o l a i) (fun i=> 0≤i∧i≤l.length∧Ju l a=Ju (l.drop i.toNat) a) (fun i=> ((l.length:Int) - i).toNat) 0 rfl ⟨by omega,by omega,by simp⟩ ?_
 rintro i ⟨f1,f2,f3⟩
 refine ZpZ _ _ _ _ _ ?_
 (simp only [vcT,vcS])
 refine ⟨fun hi=> ?_,fun hi=> ?_⟩
 ·rw [Y1 f1 hi ⟨0,Edit.nil⟩,Zpb] at f3
  generalize hw:l.getD i.toNat ⟨0,Edit.nil⟩=w at*
  refine ⟨⟨f1,hi⟩,fun he=> ⟨⟨f1,hi⟩,?_⟩,fun he=> ⟨by unfold InR;omega,i+1,rfl,⟨by omega,by omega,by rw [f3,if_neg he]⟩,by omega⟩⟩
  rw [if_pos he] at f3
  refine Y8 (r':= .agg (enc .edit w.e)) ?_ (by (repeat' (first | exact trivial | exact rfl | apply And.intro)))
  simp only [ZgN,f3]
  try rfl
 ·rw [List.drop_of_length_le (by omega)] at f3
  refine Y8 (r':= .agg (enc .edit Edit.nil)) ?_ (by (repeat' (first | exact trivial | exact rfl | apply And.intro)))
  simp only [ZgN,f3]
  try rfl
theorem ZyZ:Contract Try.prog cfg 172 Z8W:=by
 refine ZuN ?_
 intro a b _ hp
 obtain ⟨la,lb⟩:=hp
 dsimp only at la lb
 refine ZAH _ _ _ ?_
 refine Z6 (ι:=Int × Int × List Int) (fun s=> Z1u a b s.1 s.2.1 s.2.2) (fun s=> (0≤s.1∧s.1≤a.length)∧(0≤s.2.1∧s.2.1≤b.length)∧Yd a b=s.2.2++Yd (a.drop s.1.toNat) (b.drop s.2.1.toNat)∧(s.2.2.length:Int)≤s.1+s.2.1)
  (fun s=> ((a.length:Int) - s.1+(b.length - s.2.1)).toNat) (0,0,[]) rfl ⟨by simp,by simp,by simp,by simp⟩ ?_
 rintro ⟨i,j,o⟩ ⟨⟨i0,i1⟩,⟨j0,j1⟩,f3,f4⟩
 dsimp only at i0 i1 j0 j1 f3 f4
 refine ZpN _ _ _ _ _ _ _ ?_
 intro y1 h1 y2 h2
 (simp only [vcT,vcS])
 have step:∀ (n i' j':Int) (N0:LSt U→Prop) (Q:AExit→LSt U→Prop),i'=(if i < a.length∧a.getD i.toNat 0=n then i+1 else i)→j'=(if j < b.length∧b.getD j.toNat 0=n then j+1 else j)→N0 (Z1u a b i' j' (o++[n]))→
   Z8K [1,1,1,0,0,0,1,0,1,1] (Z7k a b i j o n) (AExit.inBlock 1 (AExit.then N0 (AExit.inBlock 0 (ZeW [1,1,1,1] Q)))):=by
  intro n i' j' N0 Q hi' hj' hN
  have fin:∀ (x y:Int),x=i'→y=j'→Z8K [1,1,1,0,0,0,1,0,1,1,1,1] (Z7i a b j o n x y) (AExit.inBlock 1 (AExit.then N0 (AExit.inBlock 0 (ZeW [1,1,1,1] Q)))):=by
   rintro x y rfl rfl
   exact ZpO _ _ _ _ _ _ _ _ _ ⟨by simp only [List.length_cons,List.length_nil];omega,hN⟩
  have two:∀ (x:Int),x=i'→Z8K [1,1,1,0,0,0,1,0,1,1,1] (Z7j a b i j o n x) (AExit.inBlock 1 (AExit.then N0 (AExit.inBlock 0 (ZeW [1,1,1,1] Q)))):=by
   intro x hx
   refine ZpP _ _ _ _ _ _ _ _ _ ?_
   (simp only [vcT,vcS])
   refine ⟨fun h=> ⟨j0,h⟩,fun h=> ⟨by unfold InR;omega,fin _ _ hx (by rw [hj',if_pos h])⟩,fun h=> fin _ _ hx (by rw [hj',if_neg (by omega)])⟩
  refine ZpQ _ _ _ _ _ _ _ _ ?_
  (simp only [vcT,vcS])
  refine ⟨fun h=> ⟨i0,h⟩,fun h=> ⟨by unfold InR;omega,two _ (by rw [hi',if_pos h])⟩,fun h=> two _ (by rw [hi',if_neg (by omega)])⟩
 have next:∀ (n i' j':Int),i≤i'→j≤j'→i'≤a.length→j'≤b.length→i+j < i'+j'→Yd (a.drop i.toNat) (b.drop j.toNat)=n ::Yd (a.drop i'.toNat) (b.drop j'.toNat)→
   ∃ s:Int × Int × List Int,Z1u a b i' j' (o++[n])=Z1u a b s.1 s.2.1 s.2.2∧((0≤s.1∧s.1≤a.length)∧(0≤s.2.1∧s.2.1≤b.length)∧Yd a b=s.2.2++Yd (a.drop s.1.toNat) (b.drop s.2.1.toNat)∧(s.2.2.length:Int)≤s.1+s.2.1)∧
    ((a.length:Int) - s.1+(b.length - s.2.1)).toNat < ((a.length:Int) - i+(b.length - j)).toNat:=by
  intro n i' j' a1 a2 a3 a4 a5 a6
  refine ⟨(i',j',o++[n]),rfl,⟨⟨by dsimp only;omega,a3⟩,⟨by dsimp only;omega,a4⟩,?_,by dsimp only;simp only [List.length_append,List.length_cons,List.length_nil];omega⟩,by dsimp only;omega⟩
  rw [f3,a6];simp
 refine ⟨fun hne=> ⟨fun h=> ⟨i0,h.2⟩,fun h=> ⟨j0,by omega⟩,fun h1 h2=> ⟨h1,h2⟩,fun hA=> ?_,fun hB=> ?_⟩,fun hE=> ?_⟩
 ·have hi:i < a.length:=by omega
  refine ⟨⟨i0,hi⟩,step y1 (i+1) j _ _ (by rw [if_pos ⟨hi,h1.symm⟩]) (by rw [if_neg];rintro ⟨q1,q2⟩;rw [←h2] at q2;omega) (next _ _ _ (by omega) (by omega) (by omega) j1 (by omega) ?_)⟩
  rw [Y1 i0 hi 0,←h1]
  by_cases hj:j < b.length
  ·rw [Y1 j0 hj 0,←h2,Yd,if_pos (by omega)]
  ·rw [List.drop_of_length_le (l:=b) (by omega),Z3c,Z3c]
 ·have hj:j < b.length:=by omega
  refine ⟨⟨j0,hj⟩,?_⟩
  by_cases he:i < a.length∧y1=y2
  ·refine step y2 (i+1) (j+1) _ _ (by rw [if_pos ⟨he.1,by rw [←h1];exact he.2⟩]) (by rw [if_pos ⟨hj,h2.symm⟩]) (next _ _ _ (by omega) (by omega) (by omega) (by omega) (by omega) ?_)
   rw [Y1 i0 he.1 0,Y1 j0 hj 0,←h1,←h2,Yd,if_neg (by omega),if_neg (by omega),he.2]
  ·refine step y2 i (j+1) _ _ (by rw [if_neg];rintro ⟨q1,q2⟩;rw [←h1] at q2;exact he ⟨q1,q2⟩) (by rw [if_pos ⟨hj,h2.symm⟩]) (next _ _ _ (by omega) (by omega) (by omega) (by omega) (by omega) ?_)
   rw [Y1 j0 hj 0,←h2]
   by_cases hi:i < a.length
   ·rw [Y1 i0 hi 0,←h1,Yd,if_neg (by omega),if_pos (by omega)]
   ·rw [List.drop_of_length_le (l:=a) (by omega),Yd,Yd]
 ·rw [List.drop_of_length_le (l:=a) (by omega),List.drop_of_length_le (l:=b) (by omega),Yd,List.append_nil] at f3
  refine Y8 (r':= .c (.slice (U:=U) .int o .unk)) ?_ (by (repeat' (first | exact trivial | exact rfl | apply And.intro)))
  simp only [Zk9,f3]
theorem Z8S{α β:Type}{f:α→β}{l:List α}{i:Int}(h0:0≤i)(h:i < l.length)(d:α):(l.take i.toNat).map f++[f (l.getD i.toNat d)]=(l.take (i+1).toNat).map f:=by
 rw [show (i+1).toNat=i.toNat+1 by omega,Zav (by omega) d,List.map_append];try rfl
theorem Zzb:Contract Try.prog cfg 141 Z4Z:=by
 refine Zv1 ZyZ ?_
 intro p q _ hp
 obtain ⟨⟨p1,p2⟩,q1,q2⟩:=hp
 dsimp only at p1 p2 q1 q2
 refine ZAX _ _ _ ?_
 have e0:∀ {α β:Type} (l:List α) (f:α→β),(l.take (0:Int).toNat).map f=[]:=fun l f=> by simp
 refine Z6 (ι:=Int) (fun i=> Z7t p q i ((p.words.take i.toNat).map WEdit.at_)) (fun i=> 0≤i∧i≤p.words.length) (fun i=> ((p.words.length:Int) - i).toNat) 0 rfl ⟨by omega,by omega⟩ ?_
 rintro i ⟨i0,i1⟩
 refine Zq4 _ _ _ _ _ _ ?_
 (simp only [vcT,vcS])
 refine ⟨fun hi=> ⟨⟨i0,hi⟩,by simp only [List.length_map,List.length_take,List.length_cons,List.length_nil];omega,by unfold InR;omega,i+1,by rw [Z8S i0 hi],⟨by omega,by omega⟩,by omega⟩,fun hi=> ?_⟩
 rw [List.take_of_length_le (l:=p.words) (i:=i.toNat) (by omega)]
 refine Z6 (ι:=Int) (fun i=> Z7s p q (p.words.map WEdit.at_) i ((q.words.take i.toNat).map WEdit.at_)) (fun i=> 0≤i∧i≤q.words.length) (fun i=> ((q.words.length:Int) - i).toNat) 0 rfl ⟨by omega,by omega⟩ ?_
 rintro j ⟨j0,j1⟩
 refine Zq3 _ _ _ _ _ _ _ ?_
 (simp only [vcT,vcS])
 refine ⟨fun hj=> ⟨⟨j0,hj⟩,by simp only [List.length_map,List.length_take,List.length_cons,List.length_nil];omega,by unfold InR;omega,j+1,by rw [Z8S j0 hj],⟨by omega,by omega⟩,by omega⟩,fun hj=> ?_⟩
 rw [List.take_of_length_le (l:=q.words) (i:=j.toNat) (by omega)]
 refine Z6 (ι:=Int) (fun i=> Z7r p q (p.words.map WEdit.at_) (q.words.map WEdit.at_) i ((p.kids.take i.toNat).map KidOf.at_)) (fun i=> 0≤i∧i≤p.kids.length) (fun i=> ((p.kids.length:Int) - i).toNat) 0 rfl ⟨by omega,by omega⟩ ?_
 rintro k ⟨k0,k1⟩
 refine Zq2 _ _ _ _ _ _ _ _ ?_
 (simp only [vcT,vcS])
 refine ⟨fun hk=> ⟨⟨k0,hk⟩,by simp only [List.length_map,List.length_take,List.length_cons,List.length_nil];omega,by unfold InR;omega,k+1,by rw [Z8S k0 hk],⟨by omega,by omega⟩,by omega⟩,fun hk=> ?_⟩
 rw [List.take_of_length_le (l:=p.kids) (i:=k.toNat) (by omega)]
 refine Z6 (ι:=Int) (fun i=> Z7q p q (p.words.map WEdit.at_) (q.words.map WEdit.at_) (p.kids.map KidOf.at_) i ((q.kids.take i.toNat).map KidOf.at_)) (fun i=> 0≤i∧i≤q.kids.length) (fun i=> ((q.kids.length:Int) - i).toNat) 0 rfl ⟨by omega,by omega⟩ ?_
 rintro m ⟨m0,m1⟩
 refine Zq1 _ _ _ _ _ _ _ _ _ ?_
 (simp only [vcT,vcS])
 refine ⟨fun hm=> ⟨⟨m0,hm⟩,by simp only [List.length_map,List.length_take,List.length_cons,List.length_nil];omega,by unfold InR;omega,m+1,by rw [Z8S m0 hm],⟨by omega,by omega⟩,by omega⟩,fun hm=> ?_⟩
 rw [List.take_of_length_le (l:=q.kids) (i:=m.toNat) (by omega)]
 exact ⟨⟨by simpa using p1,by simpa using q1⟩,⟨by simpa using p2,by simpa using q2⟩,by (repeat' (first | exact trivial | exact rfl | apply And.intro))⟩
end Go.AM.Ytpjenobkibfpcaa
namespace Go.AM.Ytpjenobkibfpcaa
open Go.AM Go.Proofs
theorem kids_sum:∀ {l:List Op},(∀ o∈l,ZN o)→Z1t l≤Jh l+Jp l
 | [],_=> by simp [Z1t,Jh,Jp]
 | o ::r,h=> by
  have h1:=ZY (h o List.mem_cons_self)
  have h2:=kids_sum fun x hx=> h x (List.mem_cons_of_mem _ hx)
  simp only [Z1t,Jh,Jp]
  split <;> split <;> omega
theorem Zfx{e:Edit}{d:Int}(h:Za e d=true):Jh e.ops < 1048576∧Jp e.ops < 1048576:=by
 have R:=Zn h
 have ok:∀ o∈e.ops,0≤Z2 o:=fun o ho=> YY (ZJ h o ho)
 have a:=Z0m e.ops 0 ok (by decide) (by decide)
 have b:=Z0l e.ops 0 ok (by decide) (by decide)
 have:=R.len
 omega
theorem Z7K{e:Edit}{t:Tree}(h:JK e)(hm:Zo t≤100000000000)(ht:rng t):Z25 (e,t,()):=by
 have:=Z0M h
 have:=h.1
 exact ⟨⟨by dsimp only;omega,h.2⟩,by dsimp only;omega,ht⟩
theorem Zi3{e:Edit}(h:JK e):ZaX (e,()):=by
 have:=Z0M h
 exact ⟨by dsimp only;omega,h.2.2⟩
theorem Zrk:JK Edit.nil:=by
 refine ⟨by decide,?_,1,Z4i⟩
 exact ⟨YS (by decide) (by decide),Jc,Jc,by simp [Edit.nil],YS (by decide) (by decide),trivial,trivial⟩
theorem b61:ZC7:=by
 intro N p q _ hp hN
 obtain ⟨op,oq⟩:=hp
 dsimp only at op oq
 have hN':8*(Z5 p+Z5 q)+1 < N+1:=hN
 obtain ⟨dp,rp⟩:=op.2.2
 obtain ⟨dq,rq⟩:=oq.2.2
 have hst:=ZoE rp rq
 unfold YV at hst
 have gp:=ZV op.2.1
 have gq:=ZV oq.2.1
 have cp:=Jt p;have cq:=Jt q;have cp':=op.1;have cq':=oq.1
 have fin:∀ {X:Edit} {b:Bool} {s:LSt U},J2 p q=(X,b)→Ys cfg Try.f61.ntmps Try.f61.results.toList (.tup [(true,enc .edit X),(false,[.bool b])]) [] .ret s→Ys cfg Try.f61.ntmps Try.f61.results.toList (Z9j (p,q,())) [] .ret s:=by
  intro X b s h hs
  refine Y8 ?_ hs
  simp only [Z9j]
  rw [h]
  try rfl
 refine ZCB N p q _ ?_
 intro y1 h1 y2 h2 y3 h3 y4 h4 y5 h5
 replace h1:=h1.symm;replace h2:=h2.symm;replace h3:=h3.symm;replace h4:=h4.symm
 subst h1 h2 h3 h4
 (simp only [vcT,vcS])
 refine ⟨fun p0=> fin (by rw [hst,if_pos p0]) (by (repeat' (first | exact trivial | exact rfl | apply And.intro))),fun p0=> ?_⟩
 rw [if_neg p0] at hst
 refine ⟨fun q0=> fin (by rw [hst,if_pos q0]) (by (repeat' (first | exact trivial | exact rfl | apply And.intro))),fun q0=> ?_⟩
 rw [if_neg q0] at hst
 refine ⟨fun p1=> ⟨Z7K oq (by omega) gp.2.1,fin (by rw [hst,if_pos p1]) (by (repeat' (first | exact trivial | exact rfl | apply And.intro)))⟩,fun p1=> ?_⟩
 rw [if_neg p1] at hst
 refine ⟨fun q1=> ⟨Zi3 op,by rw [h5];exact Z7K (Z6I op).2 (by omega) gq.1,fin (by rw [hst,if_pos q1,←h5]) (by (repeat' (first | exact trivial | exact rfl | apply And.intro)))⟩,fun q1=> ?_⟩
 rw [if_neg q1] at hst
 refine ⟨fun hk=> fin (by rw [hst,if_pos hk]) (by (repeat' (first | exact trivial | exact rfl | apply And.intro))),fun hk=> ?_⟩
 rw [if_neg (by omega)] at hst
 refine ⟨fun p2=> ?_,fun p2=> ?_⟩
 ·rw [if_pos p2] at hst
  refine ⟨⟨p2,by dsimp only;omega,op,oq⟩,by show 8*(Z5 p+Z5 q) < N;omega,fin (X:=(Zf3 p q).1) (b:=(Zf3 p q).2) hst (by (repeat' (first | exact trivial | exact rfl | apply And.intro)))⟩
 ·rw [if_neg p2] at hst
  have:=(Zn rp).kind
  refine ⟨⟨by dsimp only;omega,by dsimp only;omega,op,oq⟩,by show 8*(Z5 p+Z5 q) < N;omega,fin (X:=(Zf4 p q).1) (b:=(Zf4 p q).2) hst (by (repeat' (first | exact trivial | exact rfl | apply And.intro)))⟩
theorem Zlw{e:Edit}(h:JK e)(n:Int):∀ w,Z0V e.words n=some w→wOk w:=by
 intro w hw
 obtain ⟨d,hr⟩:=h.2.2
 have hm:=List.mem_of_find?_eq_some hw
 have a:=Jw (Zn hr).words w hm
 exact ⟨(ZV h.2.1).2.2.1 w hm,a.2.2.2.1,a.2.2.2.2⟩
theorem ZsH{e:Edit}(h:JK e)(n:Int):JK (Ju e.kids n):=by
 rcases Z6p e.kids n with ⟨a,_⟩ | ⟨k,hk,a⟩
 ·rw [a];exact Zrk
 ·rw [a]
  obtain ⟨d,hr⟩:=h.2.2
  have c:=Zam hk
  have:=Jt e
  have:=h.1
  exact ⟨by omega,(J1 (ZV h.2.1).2.2.2.1 hk).2,_,(Zp (Zn hr).kids k hk).2⟩
theorem Zzz:ZxA:=by
 intro N p q _ hp hN
 obtain ⟨k2,l2,op,oq⟩:=hp
 dsimp only at k2 l2 op oq
 have hN':8*(Z5 p+Z5 q) < N+1:=hN
 obtain ⟨dp,rp⟩:=op.2.2
 obtain ⟨dq,rq⟩:=oq.2.2
 have cp:=Jt p;have cq:=Jt q;have cp':=op.1;have cq':=oq.1
 have kl:=fun l=> Z4k l
 have wl1:p.words.length≤1000000∧q.words.length≤1000000:=⟨by omega,by omega⟩
 have kn:∀ l:List Kid,65600*l.length≤Z0n l:=by
  intro l
  induction l with
  | nil=> simp
  | cons a r ih=> simp only [List.length_cons,Z0n,Z1W];omega
 have kl1:=kn p.kids
 have kl2:=kn q.kids
 have nl:∀ a b:List Int,(Yd a b).length≤a.length+b.length:=by
  intro a b
  have:∀ (k:Nat) (a b:List Int),a.length+b.length≤k→(Yd a b).length≤a.length+b.length:=by
   intro k
   induction k with
   | zero=>
    intro a b h
    have e1:a=[]:=List.eq_nil_of_length_eq_zero (by omega)
    have e2:b=[]:=List.eq_nil_of_length_eq_zero (by omega)
    subst e1 e2
    rw [Yd];simp
   | succ k ih=>
    intro a b h
    match a,b with
    | [],b=> rw [Yd];simp
    | x ::a,[]=> rw [Z3c];simp
    | x ::a,y ::b=>
     simp only [List.length_cons] at h
     rw [Yd]
     have h1:=ih a (y ::b) (by simp only [List.length_cons];omega)
     have h2:=ih (x ::a) b (by simp only [List.length_cons];omega)
     have h3:=ih a b (by omega)
     simp only [List.length_cons] at h1 h2 ⊢
     split
     ·simp only [List.length_cons];omega
     ·split
      ·simp only [List.length_cons];omega
      ·simp only [List.length_cons];omega
  exact this _ a b (Nat.le_refl _)
 generalize hw:Yd (p.words.map WEdit.at_) (q.words.map WEdit.at_)=wn
 generalize hk:Yd (p.kids.map KidOf.at_) (q.kids.map KidOf.at_)=kn'
 have wnl:wn.length≤2000000:=by rw [←hw];have:=nl (p.words.map WEdit.at_) (q.words.map WEdit.at_);simp only [List.length_map] at this;omega
 have knl:kn'.length≤2000000:=by rw [←hk];have:=nl (p.kids.map KidOf.at_) (q.kids.map KidOf.at_);simp only [List.length_map] at this;omega
 have fin:∀ {X:Edit} {b:Bool} {s:LSt U},Zf3 p q=(X,b)→Ys cfg Try.f101.ntmps Try.f101.results.toList (.tup [(true,enc .edit X),(false,[.bool b])]) [] .ret s→Ys cfg Try.f101.ntmps Try.f101.results.toList (Z58 (p,q,())) [] .ret s:=by
  intro X b s h hs
  refine Y8 ?_ hs
  simp only [Z58]
  rw [h]
  try rfl
 refine ZBn N p q _ ?_
 have kl3:p.kids.length≤1000000∧q.kids.length≤1000000:=⟨by omega,by omega⟩
 refine ⟨⟨⟨wl1.1,kl3.1⟩,wl1.2,kl3.2⟩,?_⟩
 refine Z6 (ι:=Int × List WEdit) (fun s=> Z1z p q s.1 s.2) (fun s=> (0≤s.1∧s.1≤wn.length)∧Jq p.words q.words wn=(Jq p.words q.words (wn.drop s.1.toNat)).map (s.2++·)∧(s.2.length:Int)≤s.1) (fun s=> ((wn.length:Int) - s.1).toNat) (0,[]) rfl ⟨by simp,by simp,by simp⟩ ?_
 rintro ⟨i,out⟩ ⟨⟨i0,i1⟩,f3,f4⟩
 dsimp only at i0 i1 f3 f4
 refine Zqx N p q _ _ _ _ ?_
 intro y1 h1 y2 h2 y3 h3 y4 h4 y5 h5 y6 h6 y7 h7
 subst h1 h2
 rw [hw] at h3
 subst h3
 (simp only [vcT,vcS])
 refine ⟨fun hi=> ?_,fun hi=> ?_⟩
 ·have hd:y3.drop i.toNat=y4 ::y3.drop (i+1).toNat:=by rw [h4];exact Y1 i0 hi 0
  rw [hd,Jq] at f3
  have go:∀ (w:WEdit) (N0:LSt U→Prop) (Q:AExit→LSt U→Prop),N0 (Z1z y1 y2 (i+1) (out++[w]))→Zff N [1,1,1,0,1,0,0,1,1] (Z4w y1 y2 i (out++[w])) (AExit.then N0 (AExit.inBlock 0 (Zls N [1,1,1,1] Q))):=by
   intro w N0 Q h
   exact Zqy N _ _ _ _ _ _ ⟨by unfold InR;omega,h⟩
  have nx:∀ w:WEdit,Jq y1.words y2.words y3=(Jq y1.words y2.words (y3.drop (i+1).toNat)).map ((out++[w])++·)→∃ j:Int × List WEdit,Z1z y1 y2 (i+1) (out++[w])=Z1z y1 y2 j.1 j.2∧((0≤j.1∧j.1≤y3.length)∧Jq y1.words y2.words y3=(Jq y1.words y2.words (y3.drop j.1.toNat)).map (j.2++·)∧(j.2.length:Int)≤j.1)∧((y3.length:Int) - j.1).toNat < ((y3.length:Int) - i).toNat:=by
   intro w hw'
   exact ⟨(i+1,out++[w]),rfl,⟨⟨by dsimp only;omega,by dsimp only;omega⟩,hw',by simp only [List.length_append,List.length_cons,List.length_nil];omega⟩,by dsimp only;omega⟩
  have cat:∀ (w:WEdit) (o:Option (List WEdit)),(o.map (w ::·)).map (out++·)=o.map ((out++[w])++·):=fun w o=> by cases o <;> simp
  have rm:out.length+1≤3000000:=by omega
  refine ⟨⟨i0,hi⟩,wl1.1,⟨i0,hi⟩,wl1.2,fun hb=> ⟨by simp only [List.length_cons,List.length_nil];omega,go _ _ _ (nx _ ?_)⟩,fun hb=> ⟨fun ha=> ⟨by simp only [List.length_cons,List.length_nil];omega,go _ _ _ (nx _ ?_)⟩,fun ha=> ?_⟩⟩
  ·have hb':Z0V y2.words y4=none:=by simpa using hb
   rw [f3,hb']
   cases ha:Z0V y1.words y4 with
   | none=> rw [ha] at h5;rw [h5];exact cat _ _
   | some x=> rw [ha] at h5;rw [h5];exact cat _ _
  ·have ha':Z0V y1.words y4=none:=by simpa using ha
   obtain ⟨y,hy⟩:=Option.isSome_iff_exists.1 hb
   rw [hy] at h6
   rw [f3,ha',hy,h6]
   exact cat _ _
  ·obtain ⟨y,hy⟩:=Option.isSome_iff_exists.1 hb
   obtain ⟨x,hx⟩:=Option.isSome_iff_exists.1 ha
   rw [hy] at h6
   rw [hx] at h5
   have h5:y5=x:=h5
   have h6:y6=y:=h6
   subst h5 h6
   rw [hx,hy] at f3
   dsimp only at f3
   refine ⟨⟨Zlw op y4 _ hx,Zlw oq y4 _ hy⟩,fun hc=> fin (X:=Edit.nil) (b:=false) ?_ (by (repeat' (first | exact trivial | exact rfl | apply And.intro))),fun hc=> ⟨by simp only [List.length_cons,List.length_nil];omega,go _ _ _ (nx _ ?_)⟩⟩
   ·rw [if_neg (by rw [hc];decide)] at f3
    unfold Zf3
    rw [hw,f3]
    try rfl
   ·rw [f3,if_pos hc,h7]
    exact cat _ _
 ·rw [List.drop_of_length_le (by omega),Jq] at f3
  have f3:Jq y1.words y2.words y3=some out:=by rw [f3];simp
  refine Z6 (ι:=Int × List Kid) (fun s=> Z7D y1 y2 out s.1 s.2) (fun s=> (0≤s.1∧s.1≤kn'.length)∧Je J2 y1.kids y2.kids kn'=(Je J2 y1.kids y2.kids (kn'.drop s.1.toNat)).map (s.2++·)∧(s.2.length:Int)≤s.1) (fun s=> ((kn'.length:Int) - s.1).toNat) (0,[]) rfl ⟨by simp,by simp,by simp⟩ ?_
  rintro ⟨j,ks⟩ ⟨⟨j0,j1⟩,g3,g4⟩
  dsimp only at j0 j1 g3 g4
  refine Zqw N y1 y2 _ _ _ _ _ ?_
  intro z1 q1 z2 q2 z3 q3 z4 q4 z5 q5 z6 q6 z7 q7
  subst q1 q2
  rw [hk] at q3
  subst q3
  (simp only [vcT,vcS])
  refine ⟨fun hj=> ?_,fun hj=> ?_⟩
  ·have hd:z3.drop j.toNat=z4 ::z3.drop (j+1).toNat:=by rw [q4];exact Y1 j0 hj 0
   rw [hd,Je] at g3
   have hmem:z4∈z3:=by rw [q4];exact Zg (by omega) _
   rw [←hk] at hmem
   obtain ⟨m1,_,_⟩:=Zjq rp rq hmem
   rw [←q5,←q6] at g3 m1
   refine ⟨⟨j0,hj⟩,by dsimp only [ZaT];omega,⟨j0,hj⟩,by dsimp only [ZaT];omega,⟨by rw [q5];exact ZsH op z4,by rw [q6];exact ZsH oq z4⟩,by show 8*(Z5 z5+Z5 z6)+1 < N;omega,fun hc=> fin (X:=Edit.nil) (b:=false) ?_ (by (repeat' (first | exact trivial | exact rfl | apply And.intro))),fun hc=> ⟨⟨j0,hj⟩,by simp only [List.length_cons,List.length_nil];omega,by unfold InR;omega,(j+1,ks++[⟨z4,z7⟩]),rfl,⟨⟨by dsimp only;omega,by dsimp only;omega⟩,?_,by simp only [List.length_append,List.length_cons,List.length_nil];omega⟩,by dsimp only;omega⟩⟩
   ·rw [if_neg (by rw [hc];decide)] at g3
    unfold Zf3
    rw [hw,hk,f3,g3]
    try rfl
   ·rw [if_pos hc] at g3
    rw [g3,←q7]
    cases Je J2 z1.kids z2.kids (z3.drop (j+1).toNat) <;> simp
  ·rw [List.drop_of_length_le (by omega),Je] at g3
   have g3:Je J2 z1.kids z2.kids z3=some ks:=by rw [g3];simp
   refine fin (X:= .mk 2 Tree.nil Tree.nil out ks 0 []) (b:=true) ?_ (by (repeat' (first | exact trivial | exact rfl | apply And.intro)))
   unfold Zf3
   rw [hw,hk,f3,g3]
theorem ZlG{e:Edit}(h:JK e){o:Op}(ho:o∈e.ops){a:Int}{u:AUnit}(hu:UnitOf o a u):uOk u:=by
 obtain ⟨d,hr⟩:=h.2.2
 have hk:=YX (ZJ hr o ho)
 have c:=Z6B ho
 have ce:=Jt e
 have h1:=h.1
 have g:=JD (Z06 (ZV h.2.1).2.2.2.2 ho)
 have R:=rightOs_mem (Zn hr).ops ho
 refine ⟨by rw [hu.kind];rcases hk with k | k | k | k <;> omega,?_,?_,fun h3=> ?_⟩
 ·rcases hu.t with e | e
  ·rw [e];decide
  ·have:=YJ e;omega
 ·rcases hu.t with e | e
  ·rw [e];exact Jc
  ·exact Jd g.2.2.1 e
 ·rw [hu.into h3]
  exact ⟨by omega,g.2.2.2,_,JE R (by rw [←hu.kind];exact h3)⟩
theorem ZoM:∀ (k:Nat) (P Q:List AUnit) (out:List APair),P.length+Q.length≤k→(ZX P Q out).1.length≤out.length+P.length+Q.length:=by
 intro k
 induction k with
 | zero=>
  intro P Q out hk
  have e1:P=[]:=List.eq_nil_of_length_eq_zero (by omega)
  have e2:Q=[]:=List.eq_nil_of_length_eq_zero (by omega)
  subst e1 e2
  rw [ZX,dif_neg (by simp [alo]),dif_neg (by simp [alo]),dif_pos (by simp),if_pos rfl];simp
 | succ k ih=>
  intro P Q out hk
  rw [ZX]
  by_cases h1:alo P=true
  ·rw [dif_pos h1]
   have hl:=(of_decide_eq_true h1).1
   have:=ih (P.drop 1) Q (out++[⟨1,P.getD 0 AUnit.nil,AUnit.nil⟩]) (by rw [List.length_drop];omega)
   rw [List.length_append,List.length_drop,List.length_singleton] at this
   omega
  ·rw [dif_neg h1]
   by_cases h2:alo Q=true
   ·rw [dif_pos h2]
    have hl:=(of_decide_eq_true h2).1
    have:=ih P (Q.drop 1) (out++[⟨2,AUnit.nil,Q.getD 0 AUnit.nil⟩]) (by rw [List.length_drop];omega)
    rw [List.length_append,List.length_drop,List.length_singleton] at this
    omega
   ·rw [dif_neg h2]
    by_cases h3:P.length=0∨Q.length=0
    ·rw [dif_pos h3]
     split
     ·dsimp only;omega
     ·simp
    ·rw [dif_neg h3]
     have:=ih (P.drop 1) (Q.drop 1) (out++[⟨0,P.getD 0 AUnit.nil,Q.getD 0 AUnit.nil⟩]) (by rw [List.length_drop,List.length_drop];omega)
     rw [List.length_append,List.length_drop,List.length_drop,List.length_singleton] at this
     omega
noncomputable def rp_(x:APair):List Op × Bool:=rp J2 x
theorem Zzy:Zxz:=by
 intro N p q _ hp hN
 obtain ⟨k3,l3,op,oq⟩:=hp
 dsimp only at k3 l3 op oq
 have hN':8*(Z5 p+Z5 q) < N+1:=hN
 obtain ⟨dp,hrp⟩:=op.2.2
 obtain ⟨dq,hrq⟩:=oq.2.2
 have cp:=Jt p;have cq:=Jt q;have cp':=op.1;have cq':=oq.1
 have okp:=ZJ hrp
 have okq:=ZJ hrq
 have s1:=Zfx hrp
 have s2:=Zfx hrq
 have n1:=kids_sum okp
 have n2:=kids_sum okq
 have u1:=Z4I 1 p.ops 0 okp
 have u2:=Z4I 2 q.ops 0 okq
 have m1:=Z1p p.ops
 have m2:=Z1p q.ops
 have fin:∀ {X:Edit} {b:Bool} {s:LSt U},Zf4 p q=(X,b)→Ys cfg Try.f102.ntmps Try.f102.results.toList (.tup [(true,enc .edit X),(false,[.bool b])]) [] .ret s→Ys cfg Try.f102.ntmps Try.f102.results.toList (Z57 (p,q,())) [] .ret s:=by
  intro X b s h hs
  refine Y8 ?_ hs
  simp only [Z57]
  rw [h]
  try rfl
 refine ZBm N p q _ ?_
 (simp only [vcT,vcS])
 have hl1:((ZE 0 1 p.ops).length:Int)≤120000000000:=by omega
 have hl2:((ZE 0 2 q.ops).length:Int)≤120000000000:=by omega
 have mo1:Zh p.ops≤20000000000:=by omega
 have mo2:Zh q.ops≤20000000000:=by omega
 refine ⟨⟨⟨okp,mo1⟩,by dsimp only;omega⟩,⟨⟨okq,mo2⟩,by dsimp only;omega⟩,⟨by dsimp only;omega,by dsimp only;omega⟩,fun hb=> ?_,fun hb=> ?_⟩
 ·refine fin (X:=Edit.nil) (b:=false) ?_ (by (repeat' (first | exact trivial | exact rfl | apply And.intro)))
  unfold Zf4 Z3z
  by_cases hl:p.list=q.list
  ·rw [if_neg (by omega),if_neg]
   rcases hb with h | h
   ·rw [h];decide
   ·exact absurd hl h
  ·rw [if_pos hl]
 ·have hL:Zf4 p q=match Yb J2 (ZX (ZE 0 1 p.ops) (ZE 0 2 q.ops) []).1 with
    | some l=> (.mk 3 Tree.nil Tree.nil [] [] p.list l,true)
    | none=> (Edit.nil,false):=by
   unfold Zf4 Z3z
   rw [if_neg (by omega),if_pos hb.1]
   cases Yb J2 (ZX (ZE 0 1 p.ops) (ZE 0 2 q.ops) []).1 <;> rfl
  have pm:=ZfN _ (ZE 0 1 p.ops) (ZE 0 2 q.ops) [] (Nat.le_refl _)
  have pl:=ZoM _ (ZE 0 1 p.ops) (ZE 0 2 q.ops) [] (Nat.le_refl _)
  generalize hps:ZX (ZE 0 1 p.ops) (ZE 0 2 q.ops) []=ps at*
  have pl:ps.1.length≤8000000:=by simp only [List.length_nil] at pl;omega
  refine Z6 (ι:=Int × List Op) (fun s=> Z1y p q s.1 s.2) (fun s=> (0≤s.1∧s.1≤ps.1.length)∧Yb J2 ps.1=(Yb J2 (ps.1.drop s.1.toNat)).map (s.2++·)∧(s.2.length:Int)≤s.1) (fun s=> ((ps.1.length:Int) - s.1).toNat) (0,[]) rfl ⟨by simp,by simp,by simp⟩ ?_
  rintro ⟨i,out⟩ ⟨⟨i0,i1⟩,f3,f4⟩
  dsimp only at i0 i1 f3 f4
  refine Zqu N p q _ _ _ _ ?_
  intro y1 h1 y2 h2 y3 h3 y4 h4 y5 h5 y6 h6
  rw [hps] at h1
  subst h1
  (simp only [vcT,vcS])
  refine ⟨fun hi=> ?_,fun hi=> ?_⟩
  ·have hd:y1.1.drop i.toNat=y2 ::y1.1.drop (i+1).toNat:=by rw [h2];exact Y1 i0 hi _
   rw [hd,JG] at f3
   have hmem:y2∈y1.1:=by rw [h2];exact Zg (by omega) _
   have pmx:=pm y2 hmem
   have go:∀ (w:List Op) (N0:LSt U→Prop) (Q:AExit→LSt U→Prop),N0 (Z1y p q (i+1) (out++w))→ZjP N [1,1,1,1,0,1,0,0,1,1] (Z4v p q i (out++w)) (AExit.then N0 (AExit.inBlock 0 (ZtD N [1,1,1,1,1] Q))):=by
    intro w N0 Q h
    exact Zqv N _ _ _ _ _ _ ⟨by unfold InR;omega,h⟩
   have nx:∀ w:List Op,w.length≤1→Yb J2 y1.1=(Yb J2 (y1.1.drop (i+1).toNat)).map ((out++w)++·)→∃ j:Int × List Op,Z1y p q (i+1) (out++w)=Z1y p q j.1 j.2∧((0≤j.1∧j.1≤y1.1.length)∧Yb J2 y1.1=(Yb J2 (y1.1.drop j.1.toNat)).map (j.2++·)∧(j.2.length:Int)≤j.1)∧((y1.1.length:Int) - j.1).toNat < ((y1.1.length:Int) - i).toNat:=by
    intro w hw1 hw'
    exact ⟨(i+1,out++w),rfl,⟨⟨by dsimp only;omega,by dsimp only;omega⟩,hw',by simp only [List.length_append];omega⟩,by dsimp only;omega⟩
   have cat:∀ (w:List Op) (o:Option (List Op)),(o.map (w++·)).map (out++·)=o.map ((out++w)++·):=fun w o=> by cases o <;> simp
   refine ⟨⟨i0,hi⟩,fun c1=> ?_,fun c1=> ⟨fun c2=> ?_,fun c2=> ?_⟩⟩
   ·have e:rp_ y2=([y5],true):=by unfold rp_ rp;rw [if_pos c1,←h3,←h5]
    rw [show rp J2 y2=([y5],true) from e] at f3
    exact ⟨⟨i0,hi⟩,trivial,by simp only [List.length_cons,List.length_nil];omega,go _ _ _ (nx _ (by simp) (by rw [f3];exact cat _ _))⟩
   ·have e:rp_ y2=([y6],true):=by unfold rp_ rp;rw [if_neg c1,if_pos c2,←h4,←h6]
    rw [show rp J2 y2=([y6],true) from e] at f3
    exact ⟨⟨i0,hi⟩,trivial,by simp only [List.length_cons,List.length_nil];omega,go _ _ _ (nx _ (by simp) (by rw [f3];exact cat _ _))⟩
   ·have e:rp_ y2=JJ J2 y3 y4:=by unfold rp_ rp;rw [if_neg c1,if_neg c2,←h3,←h4]
    rw [show rp J2 y2=JJ J2 y3 y4 from e] at f3
    rcases pmx with m | ⟨_,⟨m1,a1⟩,m2,a2⟩ | ⟨m,_⟩ | ⟨m,_⟩
    ·cases m
    ·rw [←h3] at m1 a1
     rw [←h4] at m2 a2
     obtain ⟨o1,ho1,uo1⟩:=Z44 okp m1
     obtain ⟨o2,ho2,uo2⟩:=Z44 okq m2
     have w1:=(Z6H hrp ho1 uo1).1
     have w2:=(Z6H hrq ho2 uo2).1
     have ul:(JJ J2 y3 y4).1.length≤1:=by
      unfold JJ
      split
      ·simp
      ·split
       ·simp
       ·split
        ·simp
        ·split
         ·simp
         ·split <;> simp
     refine ⟨⟨i0,hi⟩,⟨i0,hi⟩,⟨⟨ZlG op ho1 uo1,ZlG oq ho2 uo2⟩,fun h=> ?_,fun h=> ?_⟩,by show 8*(Z5 y3.e+Z5 y4.e)+2 < N;omega,fun hc=> fin (X:=Edit.nil) (b:=false) ?_ (by (repeat' (first | exact trivial | exact rfl | apply And.intro))),fun hc=> ⟨by omega,go _ _ _ (nx _ ul ?_)⟩⟩
     ·have h:y3.kind=1:=h
      have:=uo1.alone (.inl h)
      rw [a1,decide_eq_true h] at this;cases this
     ·have h:y4.kind=2:=h
      have:=uo2.alone (.inr h)
      rw [a2,decide_eq_true h] at this;cases this
     ·rw [if_neg (by rw [hc];decide)] at f3
      rw [hL,f3]
      try rfl
     ·rw [f3,if_pos hc]
      exact cat _ _
    ·exact absurd m c1
    ·exact absurd m c2
  ·rw [List.drop_of_length_le (by omega),Yb] at f3
   have f3:Yb J2 y1.1=some out:=by rw [f3];simp
   refine fin (X:= .mk 3 Tree.nil Tree.nil [] [] p.list out) (b:=true) ?_ (by (repeat' (first | exact trivial | exact rfl | apply And.intro)))
   rw [hL,f3]
theorem Zzq:Zxq:=by
 intro N p q _ hp hN
 obtain ⟨⟨op,oq⟩,np,nq⟩:=hp
 dsimp only at op oq np nq
 have hN':8*(Z5 p.e+Z5 q.e)+2 < N+1:=hN
 obtain ⟨kp,mp,gp,rp⟩:=op
 obtain ⟨kq,mq,gq,rq⟩:=oq
 have fin:∀ {l:List Op} {b:Bool} {s:LSt U},JJ J2 p q=(l,b)→Ys cfg Try.f147.ntmps Try.f147.results.toList (.tup [(false,[.slice (U:=U) .op l .unk]),(false,[.bool b])]) [] .ret s→Ys cfg Try.f147.ntmps Try.f147.results.toList (Z53 (p,q,())) [] .ret s:=by
  intro l b s h hs
  refine Y8 ?_ hs
  simp only [Z53]
  rw [h]
 have hu:=JJ.eq_1 J2 p q
 refine ZAR N p q _ ?_
 intro y1 h1 y2 h2 y3 h3 y4 h4 y5 h5 y6 h6 y7 h7 y8 h8 y9 h9 y10 h10 y11 h11 y12 h12
 replace h1:=h1.symm;replace h2:=h2.symm
 subst h1 h2
 (simp only [vcT,vcS])
 refine ⟨fun q0=> ⟨trivial,fin (by rw [hu,if_pos q0,←h7]) (by (repeat' (first | exact trivial | exact rfl | apply And.intro)))⟩,fun q0=> ?_⟩
 rw [if_neg q0] at hu
 refine ⟨fun p0=> ⟨trivial,fin (by rw [hu,if_pos p0,←h8]) (by (repeat' (first | exact trivial | exact rfl | apply And.intro)))⟩,fun p0=> ?_⟩
 rw [if_neg p0] at hu
 refine ⟨fun c=> ⟨⟨by rw [h5];dsimp only;omega,by rw [h6];dsimp only;omega⟩,fin (by rw [hu,if_pos c,←h5,←h6]) (by (repeat' (first | exact trivial | exact rfl | apply And.intro)))⟩,fun c=> ?_⟩
 rw [if_neg (by omega)] at hu
 refine ⟨fun p2=> ?_,fun p2=> ?_⟩
 ·rw [if_pos p2,←h4,←h5,←h11] at hu
  have hq3:q.kind=3:=by omega
  exact ⟨by rw [h4,h5];exact Z7K (rq hq3) (by omega) gp,fin hu (by (repeat' (first | exact trivial | exact rfl | apply And.intro)))⟩
 rw [if_neg p2] at hu
 have hp3:p.kind=3:=by omega
 refine ⟨fun q1=> ?_,fun q1=> ?_⟩
 ·rw [if_pos q1,←h3,←h6,←h10,←h12] at hu
  exact ⟨by rw [h3];exact Zi3 (rp hp3),by rw [h10,h3,h6];exact Z7K (Z6I (rp hp3)).2 (by omega) gq,fin hu (by (repeat' (first | exact trivial | exact rfl | apply And.intro)))⟩
 ·rw [if_neg q1,←h3,←h4,←h9] at hu
  have hq3:q.kind=3:=by omega
  exact ⟨⟨by rw [h3];exact rp hp3,by rw [h4];exact rq hq3⟩,by rw [h3,h4];show 8*(Z5 p.e+Z5 q.e)+1 < N;omega,fin hu (by (repeat' (first | exact trivial | exact rfl | apply And.intro)))⟩
theorem ZD1:Contract Try.prog cfg 61 ZaB∧Contract Try.prog cfg 101 ZlV∧Contract Try.prog cfg 102 ZlU∧Contract Try.prog cfg 147 ZlM:=
 ZuH c99 Zzn Zzb Zza Zz9 c25 Zz7 Zz8 Zz6 Zpn b61 Zzz Zzy Zzq
theorem c61:Contract Try.prog cfg 61 ZaB:=ZD1.1
end Go.AM.Ytpjenobkibfpcaa
namespace Go.AM.Ytpjenobkibfpcaa
open Go.AM Go.Proofs
noncomputable section
def Zts:ArgL (Edit × Edit × Unit):=(.cons (aEl .edit) (.cons (aEl .edit) .nil))
def Zrz(a:Edit × Edit × Unit):Prop:=refOk a.1∧refOk a.2.1
def Zme(a:Edit × Edit × Unit):V U:= .tup [(true,(enc .edit ((ZiA a.1 a.2.1).1))),(false,[.bool ((ZiA a.1 a.2.1).2)])]
def Zdn:Fs U:=fs Zts (fun a=> [Zrz a]) Zme
def Ztu:ArgL Unit:= .nil
def Zmp(a:Unit):Prop:=True
def ZwV(a:Unit):V U:= .c (.bool true)
def Zdo:Fs U:=fs Ztu (fun a=> [Zmp a]) ZwV
def Zxf:ArgL (Edit × Edit × Unit):=(.cons (aEl .edit) (.cons (aEl .edit) .nil))
def ZxS(a:Edit × Edit × Unit):Prop:=(Z2Y a.1∧YT a.1)∧Z2Y a.2.1∧YT a.2.1
def ZBq(a:Edit × Edit × Unit):V U:= .c (.bool true)
def ZlK:Fs U:=fs Zxf (fun a=> [ZxS a]) ZBq
def ZsD:List (FuncId × Fs U):=[(61,ZaB),(32,Z5M)]
def ZyJ:Zj U:=lvl [([2,3,4],[2,3,4]),([4,6,7],[4,6]),([4,6,15],[4,6]),([4,5],[4]),([4,5],[4])]
abbrev A22(p:List Nat):=AW (Z1 ZsD) Try.f22 ZyJ p
theorem ZCP(p q:Edit)(Q:QT)(h:∀ y_1,y_1=p→∀ y_2,y_2=q→∀ y_3,y_3=((J2 y_1 y_2).1)→((Z7X (y_1,y_2,()))∧(((!((J2 y_1 y_2).2))=true→(Q .ret (L2 [(4,.ptr (.loc 4) 0),(5,.c (.bool false))] [(.loc 4,zc1)])))∧((!((J2 y_1 y_2).2))=false→(Z39 (y_3,()))∧(Q .ret (L2 [(4,.ptr (.loc 4) 0),(5,.c (.bool true))] [(.loc 4,(enc .edit (Zy y_3)))])))))):
  A22 [] (L2 [(0,.agg (enc .edit p)),(1,.agg (enc .edit q))] []) Q:=
 Eq.mpr (by kernel_rfl) (h _ (Z9 _) _ (Z9 _) _ (Z9 _))
def ZAk(p q:Edit):Prop:=AW (Z1 ZsD) Try.f22 ZyJ [] (Zk (Zts.can (p,q,())) []) (EQ Try.f22 (Zme (p,q,())) [])
theorem Zyq(c61:CT 61 ZaB)(c32:CT 32 Z5M)(hb:∀ (p:Edit) (q:Edit) (_:Unit),Zrz (p,q,())→ZAk p q):CT 22 Zdn:=
 Z7 (l:=[(61,ZaB),(32,Z5M)]) Zm rfl (⟨c61,c32,trivial⟩) ZyJ Try.func22 rfl rfl 2 (fun _=> rfl) (by decide) (fun ⟨p,q,_⟩=> hb p q ())
def ZsF:List (FuncId × Fs U):=[(21,Z5O)]
def ZyL:Zj U:=lvl [([],[]),([1],[]),([1,2],[2]),([2,3],[2,3]),([4,5],[4]),([0],[])]
abbrev A20(p:List Nat):=AW (Z1 ZsF) Try.f20 ZyL p
theorem ZCR(Q:QT)(h:∀ y_1,y_1=(Edit.mk 0 (Tree.mk 0 [] []) (Tree.mk 0 [] []) [] [] 0 [])→∀ y_2,y_2=(Edit.mk 3 (Tree.mk 0 [] []) (Tree.mk 0 [] []) [] [] 4 ([(OpOf.mk 1 0 ([(Tree.mk 10 ([1]) [])]) y_1),(OpOf.mk 0 1 [] y_1)]))→∀ y_3,y_3=(Edit.mk 3 (Tree.mk 0 [] []) (Tree.mk 0 [] []) [] [] 4 ([(OpOf.mk 2 0 ([(Tree.mk 10 ([1]) [])]) y_1),(OpOf.mk 0 1 [] y_1)]))→∀ y_4,y_4=(List.getD (Edit.ops ((Z5p y_3 y_2).1)) (Int.toNat 0) Op.nil)→let z3:=Edit.ops ((Z5p y_3 y_2).1);let z1:=bif ((Z5p y_3 y_2).2) then (((Edit.kind ((Z5p y_3 y_2).1)):Int)==3) else false;let z0:=bif z1 then (((z3.length:Int):Int)==1) else false;let z2:=bif z0 then (y_4.kind==0) else false;((Zmo (y_3,y_2,()))∧((Tr (((Z5p y_3 y_2).2)=true))∧(Tr (((Z5p y_3 y_2).2)=true))∧(Tr (((Z5p y_3 y_2).2)=true))∧(Tr (z1=true))∧(Tr (z1=true))∧(Tr (z1=true))∧(Tr (z1=true))∧(Tr (z0=true))∧(Tr (z0=true))∧(z0=true→(0:Int)≤0∧0 < (z3.length:Int))∧(Tr (z0=true))∧(Tr (z0=true))∧(Tr (z0=true))∧(Tr (z0=true))∧(Tr (z2=true))∧(Tr (z2=true))∧(z2=true→(0:Int)≤0∧0 < (z3.length:Int))∧(Tr (z2=true))∧(Tr (z2=true))∧(Tr (z2=true))∧(Tr (z2=true))∧(Q .ret (L2 [(0,.c (.bool (bif z2 then (y_4.n==1) else false)))] []))))):
  A20 [] (L2 [] []) Q:=
 Eq.mpr (by kernel_rfl) (h _ rfl _ rfl _ rfl _ rfl)
def ZAm:Prop:=AW (Z1 ZsF) Try.f20 ZyL [] (Zk (Ztu.can ()) []) (EQ Try.f20 (ZwV ()) [])
theorem Zys(c21:CT 21 Z5O)(hb:∀ (_:Unit),Zmp ()→ZAm):CT 20 Zdo:=
 Z7 (l:=[(21,Z5O)]) Zm rfl (⟨c21,trivial⟩) ZyL Try.func20 rfl rfl 0 (fun _=> rfl) (by decide) (fun _=> hb ())
def Zx2:List (FuncId × Fs U):=[(15,Zdq),(20,Zdo),(21,Z5O),(22,Zdn),(19,Zdp)]
def lv4:Zj U:=lvl [([2,3],[2,3]),([2,3,16],[2,3]),([4],[]),([2,3,5,6],[2,3,5]),([5,6,7,8],[5,7]),([4],[])]
abbrev A4(p:List Nat):=AW (Z1 Zx2) Try.f4 lv4 p
theorem vc4(p q:Edit)(Q:QT)(h:∀ y_1,y_1=p→∀ y_2,y_2=q→∀ y_3,y_3=((Z5p y_1 y_2).1)→∀ y_4,y_4=((ZiA y_1 y_2).1)→let z2:=bif (!(Z0g y_1)) then true else (!(Z0g y_2));let z0:=((Z5p y_1 y_2).2)==((ZiA y_1 y_2).2);let z1:=bif z0 then (eqX y_3 y_4) else false;((ZiL (y_1,()))∧(Tr ((!(!(Z0g y_1)))=true))∧((!(!(Z0g y_1)))=true→ZiL (y_2,()))∧(Tr ((!(!(Z0g y_1)))=true))∧((!(Z0g y_1))=false→(!(!(Z0g y_1)))=true)∧((z2=true→(Zmp ())∧(Q .ret (L2 [(4,.c (.bool true))] [])))∧(z2=false→(Zmo (y_1,y_2,()))∧((Zrz (y_1,y_2,()))∧((Tr (z0=true))∧(Tr (z0=true))∧(z0=true→Z7Z (y_3,y_4,()))∧(Tr (z0=true))∧(z1=true→Zmp ())∧(Tr (z1=true))∧(Q .ret (L2 [(4,.c (.bool (bif z1 then true else false)))] [])))))))):
  A4 [] (L2 [(0,.agg (enc .edit p)),(1,.agg (enc .edit q))] []) Q:=
 Eq.mpr (by kernel_rfl) (h _ (Z9 _) _ (Z9 _) _ (Z9 _) _ (Z9 _))
def ZCc(p q:Edit):Prop:=AW (Z1 Zx2) Try.f4 lv4 [] (Zk (Zxf.can (p,q,())) []) (EQ Try.f4 (ZBq (p,q,())) [])
theorem ZBx(c15:CT 15 Zdq)(c20:CT 20 Zdo)(c21:CT 21 Z5O)(c22:CT 22 Zdn)(c19:CT 19 Zdp)(hb:∀ (p:Edit) (q:Edit) (_:Unit),ZxS (p,q,())→ZCc p q):CT 4 ZlK:=
 Z7 (l:=[(15,Zdq),(20,Zdo),(21,Z5O),(22,Zdn),(19,Zdp)]) Zm rfl (⟨c15,c20,c21,c22,c19,trivial⟩) lv4 Try.func4 rfl rfl 2 (fun _=> rfl) (by decide) (fun ⟨p,q,_⟩=> hb p q ())
end
end Go.AM.Ytpjenobkibfpcaa
namespace Go.AM.Ytpjenobkibfpcaa
open Go.AM Go.Proofs
theorem ZsL{e:Edit}(h:Z0g e=true):Z5 e≤3000∧Za e 64=true:=by
 simp only [Z0g,Bool.and_eq_true,decide_eq_true_eq] at h
 exact ⟨Zbj h.1.1,h.1.2⟩
end Go.AM.Ytpjenobkibfpcaa
namespace Go.AM.Ytpjenobkibfpcaa
open Go.AM Go.Proofs
theorem c22:Contract Try.prog cfg 22 Zdn:=by
 refine Zyq c61 ZsZ.1 ?_
 intro p q _ hp
 have r1:=hp.1.re
 have r2:=hp.2.re
 dsimp only at r1 r2
 refine ZCP _ _ _ ?_
 intro y1 h1 y2 h2 y3 h3
 subst h1 h2
 (simp only [vcT,vcS])
 refine ⟨⟨r1,r2⟩,fun hc=> ?_,fun hc=> ?_⟩
 ·refine Y8 (r':= .tup [(true,enc .edit Edit.nil),(false,[.bool false])]) ?_ (by (repeat' (first | exact trivial | exact rfl | apply And.intro)))
  simp only [Zme,ZiA]
  rw [if_neg (by rw [hc];decide)]
  try rfl
 ·have k1:=Z0M r1
  have k2:=Z0M r2
  obtain ⟨W,hu⟩:=ZxL _ y1 y2 (Nat.le_refl _) (by omega) (ZcJ r1) (ZcJ r2)
  have hu:=hu hc
  have wr:=(W.wk hc).r
  have m1:=Z7g (J2 y1 y2).1
  have m2:=Zgd _ (J2 y1 y2).1 (Nat.le_refl _) ⟨_,wr⟩
  have e:JX (Z5 y1+Z5 y2) y1 y2=J2 y1 y2:=rfl
  rw [e] at hu
  have u1:=hp.1.1
  have u2:=hp.2.1
  dsimp only at u1 u2
  refine ⟨by rw [h3];exact ⟨by dsimp only;omega,-1,wr⟩,Y8 (r':= .tup [(true,enc .edit (Zy y3)),(false,[.bool true])]) ?_ (by (repeat' (first | exact trivial | exact rfl | apply And.intro)))⟩
  simp only [Zme,ZiA]
  rw [if_pos hc,h3]
  try rfl
def ZeQ:Tree:= .mk 10 [1] []
def JO(k:Int):Edit:= .mk 3 Tree.nil Tree.nil [] [] 4 [⟨k,0,[ZeQ],Edit.nil⟩,⟨0,1,[],Edit.nil⟩]
theorem Z5j(k:Int)(h:k=1∨k=2):Za (JO k) 64=true:=by rcases h with rfl | rfl <;> rfl
theorem Zl4(k:Int)(h:k=1∨k=2):YT (JO k):=by
 have z:=Jc
 have i0:isI 0:=YS (by decide) (by decide)
 have zn:YT Edit.nil:=⟨i0,z,z,by simp,i0,trivial,trivial⟩
 refine ⟨YS (by decide) (by decide),z,z,by simp,YS (by decide) (by decide),trivial,⟨?_,i0,⟨⟨by decide,?_,trivial⟩,trivial⟩,zn⟩,⟨i0,YS (by decide) (by decide),trivial,zn⟩,trivial⟩
 ·unfold isI;omega
 ·intro x hx
  rw [List.mem_singleton.1 hx];decide
theorem Zl5:Z5p (JO 2) (JO 1)=(.mk 3 Tree.nil Tree.nil [] [] 4 [⟨0,1,[],Edit.nil⟩],true):=by
 have hp:ZP 1 2 (JO 2).ops (JO 1).ops []=([⟨0,⟨2,0,[ZeQ],Edit.nil⟩,⟨1,0,[ZeQ],Edit.nil⟩⟩,⟨0,⟨0,1,[],Edit.nil⟩,⟨0,1,[],Edit.nil⟩⟩],true,[],[]):=by
  have e1:∀ k,(JO k).ops=[⟨k,0,[ZeQ],Edit.nil⟩,⟨0,1,[],Edit.nil⟩]:=fun _=> rfl
  rw [e1,e1,ZP,dif_neg (by simp [sgl]),dif_neg (by simp [sgl]),dif_neg (by simp)]
  simp only [List.getD_cons_zero,Z2]
  simp only [Zz,ZO,Z2]
  simp
  rw [ZP,dif_neg (by simp [sgl]),dif_neg (by simp [sgl]),dif_neg (by simp)]
  simp [Zz,ZO,Z2]
  rw [ZP,dif_neg (by simp [sgl]),dif_neg (by simp [sgl]),dif_pos (by simp)]
  simp
 have hc:Yh (JO 2) (JO 1)=(.mk 3 Tree.nil Tree.nil [] [] 4 [⟨0,1,[],Edit.nil⟩],true):=by
  rw [Zgj (Z5j 2 (.inr rfl)) (Z5j 1 (.inl rfl))]
  have hco:Z04 Yh (JO 2).ops (JO 1).ops=some [⟨0,1,[],Edit.nil⟩]:=by
   unfold Z04
   rw [hp,if_pos rfl]
   have c1:ZF Yh ⟨0,⟨2,0,[ZeQ],Edit.nil⟩,⟨1,0,[ZeQ],Edit.nil⟩⟩=⟨Op.nil,false,true⟩:=by
    unfold ZF
    rw [if_neg (by simp),if_neg (by simp),if_pos (by simp)]
    congr 1
    exact Zjx rfl
   have c2:ZF Yh ⟨0,⟨0,1,[],Edit.nil⟩,⟨0,1,[],Edit.nil⟩⟩=⟨⟨0,1,[],Edit.nil⟩,true,true⟩:=by
    unfold ZF
    rw [if_pos (by simp)]
   rw [Jk,c1,if_pos rfl,Jk,c2,if_pos rfl,Jk]
   try rfl
  unfold Jn
  have k:∀ n,(JO n).kind=3∧(JO n).list=4:=fun _=> ⟨rfl,rfl⟩
  rw [if_neg (by rw [(k 2).1];decide),if_neg (by rw [(k 1).1];decide),if_neg (by rw [(k 2).1];decide),if_neg (by rw [(k 1).1];decide),if_neg (by rw [(k 1).1,(k 2).1,(k 1).2,(k 2).2];decide),if_neg (by rw [(k 2).1];decide),hco]
  try rfl
 unfold Z5p
 rw [hc,if_pos rfl,Zkv]
 try rfl
theorem ZiE(k:Int)(h:k=1∨k=2):JK (JO k):=⟨by show ctE (JO k)≤_;simp [ctE,Z0n,J4,Z3p,JO,Zo,Zf,Tree.nil,Edit.nil,ZeQ],Zl4 k h,64,Z5j k h⟩
theorem c20:Contract Try.prog cfg 20 Zdo:=by
 refine Zys c21 ?_
 intro _ _
 refine ZCR _ ?_
 intro y1 h1 y2 h2 y3 h3 y4 h4
 have e1:y1=Edit.nil:=h1
 subst e1
 have e2:y2=JO 1:=h2
 have e3:y3=JO 2:=h3
 subst e2 e3
 rw [Zl5] at h4 ⊢
 have e4:y4=⟨0,1,[],Edit.nil⟩:=h4
 subst e4
 refine ⟨⟨ZiE 2 (.inr rfl),ZiE 1 (.inl rfl)⟩,?_⟩
 simp only [Tr]
 repeat' (first | exact (fun x=> x) | exact (fun _=> ⟨by decide,by decide⟩) | exact Zi rfl rfl | apply And.intro)
theorem Zju{e:Edit}(h:Z0g e=true)(g:YT e):refOk e∧Z5 e≤3000∧Za e 64=true:=by
 obtain ⟨m,r⟩:=ZsL h
 have hl:Z17 e=true:=by
  simp only [Z0g,Bool.and_eq_true] at h
  exact h.2
 have:=ZqC _ e (Nat.le_refl _) ⟨64,r⟩ hl
 exact ⟨⟨by omega,g,64,r⟩,m,r⟩
theorem ZsV{p q:Edit}(hp:refOk p)(hq:refOk q):Z5p p q=ZiA p q:=by
 obtain ⟨d1,r1⟩:=hp.2.2
 obtain ⟨d2,r2⟩:=hq.2.2
 have m1:=Z0M hp.re
 have m2:=Z0M hq.re
 have A:=ZsW (p:=p) (q:=q) (by omega) r1 r2
 unfold Z5p ZiA
 rw [A.ok]
 by_cases h:(J2 p q).2=true
 ·rw [if_pos h,if_pos h,A.nrm (by rw [A.ok];exact h)]
 ·rw [if_neg h,if_neg h]
theorem Zpj{p q:Edit}(hp:JK p)(hq:JK q):Z5 (Z5p p q).1≤18000000000:=by
 unfold Z5p
 by_cases h:(Yh p q).2=true
 ·rw [if_pos h]
  have:=(Zgh hp hq).ct trivial h
  have:=Z7g (Yh p q).1
  have:=Zb9 (Yh p q).1
  have:=hp.1
  have:=hq.1
  dsimp only
  omega
 ·rw [if_neg h];decide
theorem c4:Contract Try.prog cfg 4 ZlK:=by
 refine ZBx c15 c20 c21 c22 c19 ?_
 intro p q _ hp
 refine vc4 _ _ _ ?_
 intro y1 h1 y2 h2 y3 h3 y4 h4
 subst h1 h2
 (simp only [vcT,vcS])
 refine ⟨hp.1,fun _=> hp.2,fun _=> ⟨trivial,Zi rfl rfl⟩,fun hg=> ?_⟩
 obtain ⟨g1,g2⟩:=hg
 obtain ⟨r1,_,_⟩:=Zju g1 hp.1.2
 obtain ⟨r2,_,_⟩:=Zju g2 hp.2.2
 have e:=ZsV r1 r2
 have hm:=Zpj r1.re r2.re
 rw [←e] at h4 ⊢
 have e34:y4=y3:=h4.trans h3.symm
 subst e34
 refine ⟨⟨r1.re,r2.re⟩,⟨r1,r2⟩,fun _=> by rw [h3];dsimp only [Z7Z];omega,fun _=> trivial,Zi rfl ?_⟩
 simp
end Go.AM.Ytpjenobkibfpcaa
