import Derived.Test.YtpjenobkibfpcaaGreatZKB24
import Derived.Test.YtpjenobkibfpcaaGreatZKRB07
set_option linter.unusedSimpArgs false
set_option linter.unusedVariables false
namespace Go.AM.YtpjenobkibfpcaaGreat
open Go.AM Go.Proofs
theorem Z7p{o:Op}(h:ZZ o)(i a:Int):((J5 i a o).length:Int)=Z2 o:=by
 have hl:=Jm o
 unfold ZZ at h
 simp only [J5,Q7,Qt]
 grind
theorem Z6i(a:Int):∀ (l:List Op) (i:Int),(∀ o∈l,ZZ o)->((ZO i a l).length:Int)=Z5l l
 | [],_,_=> rfl
 | o ::r,i,h=> by
  have s:=Z7p (h o (Q1 ..)) i a
  have h2:=Z6i a r (i+1) (fun x d=> h x (Q0 _ d))
  simp only [ZO,Q7,Z5l]
  omega
theorem ZHm:Contract Tryz.prog cfg 157 Z6t:=by
 refine ZCm ?_
 intro l d _ hp
 simp only [Zhy] at hp
 obtain ⟨⟨ae,az⟩,hk⟩:=hp
 have a5:=ZQ l
 have au:=Z6i d l 0 ae
 refine ZJx _ _ _ ?_;(try simp only [iB,vcT,forall_eq])
 refine Z7 (ι:=Int × List AUnit) (fun s=> Z62 l d s.1 s.2) (fun s=> 0<=s.1/\s.1<=l.length/\s.2++ZO s.1 d (l.drop s.1.toNat)=ZO 0 d l) (fun s=> ((l.length:Int) - s.1).toNat) (0,[]) rfl ⟨by simp,by simp,by simp⟩ ?_
 rintro ⟨i,out⟩ ⟨h1,h2,h3⟩
 dsimp only at h1 h2 h3
 refine ZwN _ _ _ _ _ _ ?_;(try simp only [iB,vcT,forall_eq])
 (simp only [iB,vcS]);(try simp only [iB,vcT])
 refine ⟨fun hi=> ⟨⟨h1,hi⟩,?_⟩,fun hi=> ?_⟩
 .have h:=Zh (l:=l) (i:=i.toNat) V1 Op.nil
  have ho:=ae _ h
  have a4:=ZW h
  rw [ZS h1 hi Op.nil] at h3
  simp only [ZO] at h3
  have ab:=congrArg List.length h3
  have a6:=Z7p ho i d
  generalize hy:l.getD i.toNat Op.nil=o at*
  have aw:=Zb3 ho
  have a2:=ZpM (o:=o) V1
  have av:=Z7V ho V1
  simp only [Q7] at ab
  let u:AUnit:=⟨i,0,Tree.nil,Edit.nil,false⟩
  let A:List AUnit:=if o.kind=0 then List.replicate o.n.toNat u else []
  have hA:A.length<=40000000000:=by simp only [A];split <;> simp;omega
  refine Z7 (ι:=Int) (fun k=> Z9v l d i k (out++List.replicate k.toNat u)) (fun k=> 0<=k/\k<=(if o.kind=0 then o.n else 0)) (fun k=> (o.n - k).toNat) 0 (by simp) ⟨V1,V1⟩ ?_
  rintro k ⟨k1,k2⟩
  refine ZwM _ _ _ _ _ _ _ _ ?_;(try simp only [iB,vcT,forall_eq])
  simp only [hy]
  (simp only [iB,vcS]);(try simp only [iB,vcT])
  refine ⟨fun hc=> ?_,fun hc=> ?_⟩
  .rw [if_pos hc.2] at k2
   refine ⟨by simp;omega,V5,k+1,?_,⟨V1,V1⟩,V1⟩
   rw [show (k+1).toNat=k.toNat+1 by omega,List.replicate_succ',<-Qc]
   try rfl
  .have am:List.replicate k.toNat u=A:=by
    simp only [A]
    by_cases hk0:o.kind=0
    .grind
    .simp_all
   rw [am]
   refine Z7 (ι:=Int) (fun j=> Z9u l d i j (out++(A++(o.l.take j.toNat).map (fun t=> (⟨i,o.kind,t,Edit.nil,decide (o.kind=d)⟩:AUnit))))) (fun j=> 0<=j/\j<=o.l.length) (fun j=> ((o.l.length:Int) - j).toNat) 0 (by simp) ⟨V1,V1⟩ ?_
   rintro j ⟨j1,j2⟩
   refine ZwL _ _ _ _ _ _ _ _ ?_;(try simp only [iB,vcT])
   rw [hy]
   rintro y1 ai y3 ah y5 ao
   obtain rfl:=ai.symm
   have ay:(o.l.take j.toNat).length<=20000000000:=by simp;omega
   (simp only [iB,vcS])
   refine ⟨fun hc=> ⟨⟨j1,hc⟩,by simp;omega,V5,j+1,?_,⟨V1,V1⟩,V1⟩,fun hc=> ?_⟩
   .rw [show (j+1).toNat=j.toNat+1 by omega,Xv V1,XB,<-Qc,<-Qc,<-Qc]
    congr 2
    have e:o.l.getD j.toNat Tree.nil=o.l[j.toNat]:=by rw [Qp,Q4 V1];try rfl
    rw [ao,e]
    try rfl
   .rw [Qq V1]
    have e4:∀ B:List AUnit,out++(A++(o.l.map (fun t=> (⟨i,o.kind,t,Edit.nil,decide (o.kind=d)⟩:AUnit))))++B=out++(A++(o.l.map (fun t=> (⟨i,o.kind,t,Edit.nil,decide (o.kind=d)⟩:AUnit))++B)):=by intro B;simp
    refine ⟨fun hq=> ⟨by simp;omega,V5,(i+1,out++J5 i d o),?_,⟨V1,V1,?_⟩,V1⟩,fun hq=> ⟨V5,(i+1,out++J5 i d o),?_,⟨V1,V1,?_⟩,V1⟩⟩
    .rw [e4]
     simp only [J5]
     rw [if_pos hq,ah]
     try rfl
    .grind
    .simp only [J5]
     grind
    grind
 .rw [Q6 V1] at h3
  simp only [ZO,Qi] at h3
  rw [h3]
  exact V2
theorem Zis{α:Type}(l:List α)(i:Nat)(d:α):(l.drop i).getD 0 d=l.getD i d:=by
 grind
theorem ZoR{l:List AUnit}{i:Int}(h0:0<=i):(alo (l.drop i.toNat)=true)↔(i < l.length/\(l.getD i.toNat AUnit.nil).alone=true):=by
 unfold alo
 grind
theorem Ziw{α:Type}(l:List α){i:Int}(h0:0<=i):(l.drop i.toNat).drop 1=l.drop (i+1).toNat:=by
 rw [Xu];congr 1;omega
theorem ZHn:Contract Tryz.prog cfg 156 Z6u:=by
 refine ZCn ?_
 intro p q _ hp
 simp only [Zls] at hp
 refine ZJy _ _ _ ?_;(try simp only [iB,vcT])
 refine Z7 (ι:=Int × Int × List APair) (fun s=> Z3U p q s.1 s.2.1 s.2.2) (fun s=> (0<=s.1/\s.1<=p.length)/\(0<=s.2.1/\s.2.1<=q.length)/\s.2.2.length<=s.1+s.2.1/\Yg (p.drop s.1.toNat) (q.drop s.2.1.toNat) s.2.2=Yg p q []) (fun s=> ((p.length:Int) - s.1).toNat+((q.length:Int) - s.2.1).toNat) (0,0,[]) rfl ⟨by simp,by simp,by simp,by simp⟩ ?_
 rintro ⟨i,j,out⟩ ⟨⟨h1,h2⟩,⟨h3,h4⟩,h5,d⟩
 dsimp only at h1 h2 h3 h4 h5 d
 refine ZwO _ _ _ _ _ _ _ ?_;(try simp only [iB,vcT])
 rintro y1 ai y2 ae y3 ah y4 ar y5 au
 obtain rfl:=ar.symm
 obtain rfl:=au.symm
 obtain ⟨y6,af⟩:∃ y,y=APair.mk 1 y1 (AUnit.mk 0 0 (Tree.mk 0 [] []) y3 false):=⟨_,rfl⟩
 obtain ⟨y7,ak⟩:∃ y,y=APair.mk 2 (AUnit.mk 0 0 (Tree.mk 0 [] []) y3 false) y2:=⟨_,rfl⟩
 rw [<-af,<-ak]
 have e1:y6=⟨1,y1,AUnit.nil⟩:=by rw [af,ah];try rfl
 have e2:y7=⟨2,AUnit.nil,y2⟩:=by rw [ak,ah];try rfl
 rw [Yg,Zis,Zis,<-ai,<-ae,Ziw _ h1,Ziw _ h3] at d
 have ap:=ZoR (l:=p) h1
 have aq:=ZoR (l:=q) h3
 rw [<-ai] at ap
 rw [<-ae] at aq
 (simp only [iB,vcS])
 try simp only [iB,vcT]
 refine ⟨fun hc=> ⟨fun _=> ⟨h1,V1⟩,fun ha=> ⟨⟨h1,ha.1⟩,by simp;omega,V5,(i+1,j,out++[y6]),rfl,⟨⟨V1,V4⟩,⟨h3,h4⟩,by simp;omega,?_⟩,V4⟩,fun ha=> ⟨fun _=> ⟨h3,V1⟩,fun hb=> ⟨⟨h3,hb.1⟩,by simp;omega,V5,(i,j+1,out++[y7]),rfl,⟨⟨h1,h2⟩,⟨V4,V4⟩,by simp;omega,?_⟩,V4⟩,fun hb=> ⟨fun he=> ?_,fun he=> ?_⟩⟩⟩,fun hc=> ?_⟩
 .rw [dif_pos (ap.2 ha),<-e1] at d;exact d
 .rw [dif_neg (fun h=> ?_),dif_pos (aq.2 hb),<-e2] at d
  .exact d
  .have:=ap.1 h;simp_all
 .rw [dif_neg (fun h=> ?_),dif_neg (fun h=> ?_),dif_pos (by simp only [Qv];omega),if_neg] at d
  .simp only [Zlh,<-d]
   exact V2
  .simp only [Qv,decide_eq_decide];omega
  .have:=aq.1 h;simp_all
  .have:=ap.1 h;simp_all
 .rw [dif_neg (fun h=> ?_),dif_neg (fun h=> ?_),dif_neg (by simp only [Qv];omega)] at d
  .refine ⟨⟨h1,V1⟩,⟨h3,V1⟩,by simp;omega,V5,V5,(i+1,j+1,out++[⟨0,y1,y2⟩]),rfl,⟨⟨V4,V4⟩,⟨V4,V4⟩,by simp;omega,d⟩,V4⟩
  .have:=aq.1 h;simp_all
  .have:=ap.1 h;simp_all
 .rw [dif_neg (fun h=> ?_),dif_neg (fun h=> ?_),dif_pos (by simp only [Qv];omega),if_pos] at d
  .simp only [Zlh,<-d]
   exact V2
  .simp only [Qv,decide_eq_decide];omega
  .have:=aq.1 h;omega
  .have:=ap.1 h;omega
theorem ZHb:Contract Tryz.prog cfg 201 Z6s:=by
 refine ZC4 ?_
 intro u _ s
 refine ZJ8 _ _ ?_;(try simp only [iB,vcT,forall_eq])
 (simp only [iB,vcS]);(try simp only [iB,vcT])
 refine ⟨fun h=> ?_,fun h=> ⟨fun d=> ?_,fun d=> ?_⟩⟩
 .have e:opU u=⟨0,1,[],Edit.nil⟩:=by rw [opU,if_pos h]
  simp only [Zha,e]
  exact V2
 .have e:opU u=⟨3,0,[],u.e⟩:=by rw [opU,if_neg h,if_pos d]
  simp only [Zha,e]
  exact V2
 .have e:opU u=⟨u.kind,0,[u.t],Edit.nil⟩:=by rw [opU,if_neg h,if_neg d]
  try (simp only [vE])
  simp only [Zha,e]
  exact V2
theorem Z5m{α:Type}{a b:α}(h:¬a=b):eqX a b=false:=by rw [<-Xx,Z07];exact h
theorem Z3s{α:Type}(d:α){a b:List α}(hl:a.length=b.length)(h:∀ i:Nat,i < a.length->a.getD i d=b.getD i d):a=b:=by
 apply K3 hl
 grind
theorem c69:Contract Tryz.prog cfg 69 ZgJ:=by
 refine ZGl c26 ?_
 intro a b _ hp
 simp only [Znx] at hp
 refine ZKV _ _ _ ?_;(try simp only [iB,vcT,forall_eq])
 (simp only [iB,vcS]);(try simp only [iB,vcT])
 refine ⟨fun hc=> Zl rfl (Z5m (a:=a) (b:=b) (fun h=> hc (by rw [h]))).symm,fun hc=> ?_⟩
 have hl:a.length=b.length:=V1
 have ae:=ZD a
 refine Z7 (ι:=Int) (fun i=> ZcP a b i) (fun i=> 0<=i/\i<=a.length/\∀ j:Nat,(j:Int) < i->a.getD j Tree.nil=b.getD j Tree.nil) (fun i=> ((a.length:Int) - i).toNat) 0 rfl ⟨V1,V1,V1⟩ ?_
 rintro i ⟨h1,h2,s⟩
 refine ZBh _ _ _ _ _ ?_;(try simp only [iB,vcT,forall_eq])
 (simp only [iB,vcS]);(try simp only [iB,vcT])
 try (simp only [vE])
 refine ⟨fun hi=> ⟨⟨h1,hi⟩,⟨h1,V1⟩,?_,fun d=> ?_,fun d=> ⟨V5,i+1,rfl,⟨V1,V1,?_⟩,V1⟩⟩,fun hi=> ?_⟩
 .have:=Jb (Zh (l:=a) (i:=i.toNat) V1 Tree.nil)
  simp only [Z4g];omega
 .refine Zl rfl (Z5m (a:=a) (b:=b) (fun h=> ?_)).symm
  rw [h,Jk] at d
  exact d rfl
 .intro j hj
  by_cases hj2:(j:Int) < i
  .exact s j hj2
  .rw [Yk,show i.toNat=j by omega] at d
   exact d
 .refine Zl rfl (Z07 (a:=a) (b:=b).2 (Z3s Tree.nil hl (fun j hj=> s j V1))).symm
theorem ZzZ{a b:Edit}(h1:a.kind=b.kind)(h2:a.old=b.old)(h3:a.new=b.new)(h4:a.words=b.words)(h5:a.kids=b.kids)(h6:a.list=b.list)(h7:a.ops=b.ops):a=b:=by
 cases a;cases b;simp_all
theorem ZCU{a b:Kid}(h1:a.at_=b.at_)(h2:a.e=b.e):a=b:=by cases a;cases b;simp_all
theorem ZG4{a b:Op}(h1:a.kind=b.kind)(h2:a.n=b.n)(h3:a.l=b.l)(h4:a.e=b.e):a=b:=by cases a;cases b;simp_all
theorem Zuk{a b:WEdit}(h1:a.at_=b.at_)(h2:a.mask=b.mask)(h3:a.old=b.old)(h4:a.new=b.new):a=b:=by cases a;cases b;simp_all
theorem c18:Contract Tryz.prog cfg 18 ZgS:=by
 refine ZGz c26 c69 ?_
 intro N a b _ hp hN
 simp only [Zc2,ZnS] at hp hN
 have ba:=Yq a
 have a1:=Ym a.kids
 have a7:=ZQ a.ops
 have ax:∀ {P:Prop},(a=b->P)->¬P->eqX a b=false:=fun h1 h2=> Z5m (fun h=> h2 (h1 h))
 refine ZLc N a b _ ?_;(try simp only [iB,vcT])
 rintro y1 rfl y2 rfl y3 rfl y4 rfl
 (simp only [iB,vcS]);(try simp only [iB,vcT])
 refine ⟨fun _=> ?_,fun _=> ?_,fun hc=> ?_,fun hc=> ?_⟩
 .simp only [Z4g];omega
 .simp only [Z4g];omega
 .refine Zl rfl (Z5m (a:=a) (b:=b) (fun h=> ?_)).symm
  rw [h] at hc
  simp only [Jk] at hc
  simp at hc
 .simp only [Yk,Classical.not_not] at hc
  obtain ⟨⟨⟨⟨⟨⟨h1,h2⟩,h3⟩,h4⟩,h5⟩,h6⟩,h7⟩:=hc
  refine Z7 (ι:=Int) (fun i=> Zd4 a b i) (fun i=> 0<=i/\i<=a.words.length/\∀ j:Nat,(j:Int) < i->a.words.getD j (WEdit.mk 0 0 0 0)=b.words.getD j (WEdit.mk 0 0 0 0)) (fun i=> ((a.words.length:Int) - i).toNat) 0 rfl ⟨V1,V1,V1⟩ ?_
  rintro i ⟨g1,g2,g3⟩
  refine ZBy _ _ _ _ _ _ ?_;(try simp only [iB,vcT,forall_eq])
  (simp only [iB,vcS]);(try simp only [iB,vcT])
  try simp only [and_true]
  refine ⟨fun hi=> ⟨⟨g1,hi⟩,⟨g1,V1⟩,fun hq=> ?_,fun hq=> ⟨V5,i+1,rfl,⟨V1,V1,?_⟩,V1⟩⟩,fun hi=> ?_⟩
  .refine Zl rfl (Z5m (a:=a) (b:=b) (fun h=> ?_)).symm
   grind
  .intro j hj
   by_cases hj2:(j:Int) < i
   .exact g3 j hj2
   .rw [show i.toNat=j by omega] at hq
    exact Zuk hq.1 hq.2.1 hq.2.2.1 hq.2.2.2
  .have hw:a.words=b.words:=Z3s (WEdit.mk 0 0 0 0) V1 (fun j hj=> g3 j V1)
   refine Z7 (ι:=Int) (fun i=> Zd3 a b i) (fun i=> 0<=i/\i<=a.kids.length/\∀ j:Nat,(j:Int) < i->a.kids.getD j (KidOf.mk 0 Edit.nil)=b.kids.getD j (KidOf.mk 0 Edit.nil)) (fun i=> ((a.kids.length:Int) - i).toNat) 0 rfl ⟨V1,V1,V1⟩ ?_
   rintro i ⟨g1,g2,g3⟩
   refine ZBx _ _ _ _ _ _ ?_;(try simp only [iB,vcT])
   rintro y1 d y2 ah y3 s y4 ai
   (simp only [iB,vcS]);(try simp only [iB,vcT])
   refine ⟨fun hi=> ⟨⟨g1,hi⟩,⟨g1,V1⟩,fun _=> ⟨g1,hi⟩,fun _=> ⟨g1,V1⟩,fun _=> ?_,fun _=> ?_,fun hq=> ?_,fun hq=> ⟨V5,i+1,rfl,⟨V1,V1,?_⟩,V1⟩⟩,fun hi=> ?_⟩
   .have:=Ja (Zh (l:=a.kids) (i:=i.toNat) V1 (KidOf.mk 0 Edit.nil))
    rw [<-d,<-s] at this
    simp only [Zc2];omega
   .have:=Ja (Zh (l:=a.kids) (i:=i.toNat) V1 (KidOf.mk 0 Edit.nil))
    rw [<-d,<-s] at this
    simp only [ZnS];omega
   .refine Zl rfl (Z5m (a:=a) (b:=b) (fun h=> ?_)).symm
    simp_all
   .intro j hj
    by_cases hj2:(j:Int) < i
    .exact g3 j hj2
    .rw [Z07,s,ai,d,ah,show i.toNat=j by omega] at hq
     exact ZCU V1 hq.2
   .have hk:a.kids=b.kids:=Z3s (KidOf.mk 0 Edit.nil) V1 (fun j hj=> g3 j V1)
    refine Z7 (ι:=Int) (fun i=> Zd2 a b i) (fun i=> 0<=i/\i<=a.ops.length/\∀ j:Nat,(j:Int) < i->a.ops.getD j Op.nil=b.ops.getD j Op.nil) (fun i=> ((a.ops.length:Int) - i).toNat) 0 rfl ⟨V1,V1,V1⟩ ?_
    rintro i ⟨g1,g2,g3⟩
    refine ZBw _ _ _ _ _ _ ?_;(try simp only [iB,vcT])
    rintro y1 d y2 ah y3 s y4 ai
    (simp only [iB,vcS]);(try simp only [iB,vcT])
    refine ⟨fun hi=> ⟨⟨g1,hi⟩,⟨g1,V1⟩,fun _=> ?_,fun _=> ?_,fun _=> ?_,fun hq=> ?_,fun hq=> ⟨V5,i+1,rfl,⟨V1,V1,?_⟩,V1⟩⟩,fun hi=> ?_⟩
    .have:=ZW (Zh (l:=a.ops) (i:=i.toNat) V1 Op.nil)
     rw [<-d,ZR] at this
     simp only [Znx];omega
    .have:=ZW (Zh (l:=a.ops) (i:=i.toNat) V1 Op.nil)
     rw [<-d,ZR,<-s] at this
     simp only [Zc2];omega
    .have:=ZW (Zh (l:=a.ops) (i:=i.toNat) V1 Op.nil)
     rw [<-d,ZR,<-s] at this
     simp only [ZnS];omega
    .refine Zl rfl (Z5m (a:=a) (b:=b) (fun h=> ?_)).symm
     simp_all
    .intro j hj
     by_cases hj2:(j:Int) < i
     .exact g3 j hj2
     .rw [Z07,Z07,s,ai,d,ah,show i.toNat=j by omega] at hq
      obtain ⟨⟨⟨q1,q2⟩,q3⟩,q4⟩:=hq
      exact ZG4 (by simpa using q1) (by simpa using q2) q3 q4
    .have ho:a.ops=b.ops:=Z3s Op.nil V1 (fun j hj=> g3 j V1)
     exact Zl rfl (Z07 (a:=a) (b:=b).2 (ZzZ h1 h3 h4 hw hk h2 ho)).symm
theorem Zgo(a:Int)(o:Op):ZO 0 a [o]=J5 0 a o:=by simp [ZO]
theorem Z31{alone:Int}{x:Piece}{r:List Piece}{m:List APair}:Zex alone (x ::r) m=∃ m1 m2,m=m1++m2/\m1≠[]/\((x.of=0\/x.of=1\/x.of=2)/\(x.of=2->x.p=Op.nil)/\(∀ y∈m1,y.of=x.of)/\(x.of≠2->ZZ x.p/\Zs x.p<=18000000000/\Z2 x.p=m1.length/\Z7d x.p alone (m1.map APair.p))
   /\(x.of≠1->ZZ x.q/\Zs x.q<=18000000000/\Z2 x.q=m1.length/\Z7d x.q 2 (m1.map APair.q)))/\Zex alone r m2:=rfl
def vu(u:AUnit):Op × Bool:=(opU u,u.alone)
def vs(a:Int)(o:Op):List (Op × Bool):=(J5 0 a o).map vu
def vsL(a:Int)(l:List Op):List (Op × Bool):=l.flatMap (vs a)
theorem ZB0(i a:Int)(o:Op):(J5 i a o).map vu=vs a o:=by
 simp only [vs,J5,XB,QO]
 congr 1
 .split <;> simp [vu,opU]
 .congr 1
  split <;> simp [vu,opU]
theorem Z5q(a:Int):∀ (l:List Op) (i:Int),(ZO i a l).map vu=vsL a l
 | [],_=> rfl
 | o ::r,i=> by
  simp only [ZO,XB,ZB0,Z5q a r]
  try rfl
theorem Zwb{a:Int}{o:Op}(h:ZZ o):((vs a o).length:Int)=Z2 o:=by
 rw [vs,Qt];exact Z7p h 0 a
theorem Zr6{a:Int}{o:Op}(h:ZZ o)(ha:a=1\/a=2):∀ x∈vs a o,x.2=decide (o.kind=a):=by
 intro x s
 simp only [vs,Qy] at s
 obtain ⟨u,d,rfl⟩:=s
 simp only [J5,Qg,Qy] at d
 rcases d with d | ⟨t,ht,rfl⟩ | d
 .split at d
  .rw [Xw d]
   simp only [vu]
   grind
  .cases d
 .try rfl
 .split at d
  .rw [Qe.1 d]
   simp only [vu]
   grind
  .cases d
theorem Z7n{a n:Int}{o:Op}(h:ZZ o)(h1:1<=n)(hn:¬Z2 o<=n):vs a o=vs a (ZK o n)++vs a (Z0M o n)/\ZZ (ZK o n)/\Z2 (ZK o n)=n/\Zs (ZK o n)<=Zs o:=by
 have hl:=Jm o
 rcases h with ⟨k0,k1,k2,k3⟩ | ⟨k0,k1,k2,k3⟩ | ⟨k0,k1,k2⟩
 .have e1:ZK o n=⟨o.kind,n,o.l,o.e⟩:=by rw [ZK,if_neg hn,if_pos k0]
  have e2:Z0M o n=⟨o.kind,o.n - n,o.l,o.e⟩:=by rw [Z0M,if_pos k0]
  rw [Jv,k1] at hl
  simp only [Qh] at hl
  rw [e1,e2]
  refine ⟨?_,Or.inl ⟨k0,k1,by grind,k3⟩,?_,by simp [ZR]⟩
  .simp only [vs,J5,k0,k1]
   simp only [if_true,QJ,Qo,XB,List.map_replicate]
   rw [if_neg V3]
   simp only [QJ,Qi]
   rw [List.replicate_append_replicate]
   grind
  .rw [Jm]
   grind
 .have e1:ZK o n=⟨o.kind,o.n,o.l.take n.toNat,o.e⟩:=by rw [ZK,if_neg hn,Jv]
  have e2:Z0M o n=⟨o.kind,o.n,o.l.drop n.toNat,o.e⟩:=by rw [Z0M,Jv]
  rw [Jv] at hl
  have s:=Zi6 n.toNat o.l
  rw [e1,e2]
  refine ⟨?_,Or.inr (Or.inl ⟨k0,k1,?_,k3⟩),?_,by simp only [ZR];omega⟩
  .simp only [vs,J5]
   rw [Jv,Jv]
   simp_all
  .intro d
   have:=congrArg List.length d
   grind
  .rw [Jm]
   grind
 omega
def okL(l:List Op):Prop:=∀ o∈l,ZZ o/\Zs o<=18000000000
theorem ZnK{l:List Op}(h:okL l):okL (l.drop 1):=fun o d=> h o (QQ d)
theorem Z7Y{l:List Op}(h:okL l)(hl:l.length≠0):ZZ (l.getD 0 Op.nil)/\Zs (l.getD 0 Op.nil)<=18000000000:=h _ (Zh (l:=l) (i:=0) V1 Op.nil)
theorem Z6l{a n:Int}{p:List Op}(h:okL p)(hl:p.length≠0)(h1:1<=n)(hn:n<=Z2 (p.getD 0 Op.nil)):
  vsL a p=vs a (ZK (p.getD 0 Op.nil) n)++vsL a (Yd p n)/\ZZ (ZK (p.getD 0 Op.nil) n)/\Z2 (ZK (p.getD 0 Op.nil) n)=n/\Zs (ZK (p.getD 0 Op.nil) n)<=18000000000/\okL (Yd p n):=by
 obtain ⟨d,hb⟩:=Z7Y h hl
 obtain _ | ⟨o,r⟩:=p
 .simp at hl
 have e:(o ::r).getD 0 Op.nil=o:=rfl
 unfold Yd
 simp only [e] at d hb hn ⊢
 by_cases hc:Z2 o<=n
 .have t:ZK o n=o:=by rw [ZK,if_pos hc]
  rw [if_pos hc,t]
  exact ⟨rfl,d,V1,hb,ZnK h⟩
 .rw [if_neg hc]
  obtain ⟨g1,g2,g3,g4⟩:=Z7n (a:=a) d h1 hc
  obtain ⟨b1,b2⟩:=Zdg d h1 hc
  refine ⟨?_,g2,g3,V1,?_⟩
  .simp only [vsL,Xj,QC,QZ]
   grind
  .intro x s
   rcases Qa.1 s with rfl | s
   .grind
   .exact ZnK h x s
theorem Z6c(u:AUnit)(P:List AUnit):alo (u ::P)=u.alone:=by
 rw [QM]
 unfold alo
 grind
theorem Zf2:∀ (A P Q:List AUnit) (out:List APair),(∀ u∈A,u.alone=true)->Yg (A++P) Q out=Yg P Q (out++A.map (fun u=> ⟨1,u,AUnit.nil⟩))
 | [],P,Q,out,_=> by simp
 | u ::A,P,Q,out,h=> by
  have d:=h u (Q1 ..)
  rw [Qj,Yg,dif_pos (by rw [Z6c];exact d)]
  have:=Zf2 A P Q (out++[⟨1,u,AUnit.nil⟩]) (fun x s=> h x (Q0 _ s))
  grind
theorem Zcb:∀ (B P Q:List AUnit) (out:List APair),alo P=false->(∀ u∈B,u.alone=true)->Yg P (B++Q) out=Yg P Q (out++B.map (fun u=> ⟨2,AUnit.nil,u⟩))
 | [],P,Q,out,_,_=> by simp
 | u ::B,P,Q,out,hp,h=> by
  have d:=h u (Q1 ..)
  rw [Qj,Yg,dif_neg (by grind),dif_pos (by rw [Z6c];exact d)]
  have:=Zcb B P Q (out++[⟨2,AUnit.nil,u⟩]) hp (fun x s=> h x (Q0 _ s))
  grind
theorem ZhJ:∀ (A B P Q:List AUnit) (out:List APair),A.length=B.length->(∀ u∈A,u.alone=false)->(∀ u∈B,u.alone=false)->Yg (A++P) (B++Q) out=Yg P Q (out++List.zipWith (fun u w=> ⟨0,u,w⟩) A B)
 | [],[],P,Q,out,_,_,_=> by simp
 | [],_ ::_,_,_,_,h,_,_=> by simp at h
 | _ ::_,[],_,_,_,h,_,_=> by simp at h
 | u ::A,w ::B,P,Q,out,hl,ha,hb=> by
  have hu:=ha u (Q1 ..)
  have s:=hb w (Q1 ..)
  rw [Qj,Qj,Yg,dif_neg (by rw [Z6c,hu];grind),dif_neg (by rw [Z6c,s];grind),dif_neg (by simp)]
  have:=ZhJ A B P Q (out++[⟨0,u,w⟩]) (by simpa using hl) (fun x d=> ha x (List.mem_cons_of_mem _ d)) (fun x d=> hb x (List.mem_cons_of_mem _ d))
  simp_all
theorem ZAK{a:Int}{p:List Op}{P:List AUnit}(h:okL p)(ha:a=1\/a=2)(e:P.map vu=vsL a p):alo P=sgl a p/\(P.length=0↔p.length=0):=by
 obtain _ | ⟨o,r⟩:=p
 .have:P=[]:=by simpa [vsL] using e
  rw [this]
  trivial
 .have d:=(h o (Q1 ..)).1
  have hl:=Zwb (a:=a) d
  have hp:=Yh d
  have hf:=Zr6 d ha
  simp only [vsL,Xj] at e
  obtain _ | ⟨u,P⟩:=P
  .have:=congrArg List.length e
   grind
  .cases hv:vs a o with
   | nil=> grind
   | cons x xs=>
    rw [hv] at e hf
    have h1:vu u=x:=by simpa using (List.cons.inj e).1
    have s:=hf x (Q1 ..)
    rw [<-h1] at s
    refine ⟨?_,by simp⟩
    rw [Z6c,show u.alone=(vu u).2 from rfl,s]
    simp [sgl]
theorem Ztl{a:Int}{o:Op}{A:List AUnit}(h:ZZ o)(ha:a=1\/a=2)(e:A.map vu=vs a o):(∀ u∈A,u.alone=decide (o.kind=a))/\(A.length:Int)=Z2 o/\Z7d o a A:=by
 refine ⟨fun u d=> ?_,?_,?_⟩
 .exact Zr6 h ha (vu u) (by grind)
 .rw [<-Zwb (a:=a) h,<-e,Qt]
 .have:=congrArg (List.map Prod.fst) e
  simp only [vs,QO] at this
  unfold Z7d
  rw [Zgo]
  exact this.symm
theorem Z1C{a:Int}{l:List Op}:sgl a l=true↔(l.length≠0/\(l.getD 0 Op.nil).kind=a):=by unfold sgl;grind
theorem Z1F(o:Op)(n:Int):(ZK o n).kind=o.kind:=by
 unfold ZK;grind
theorem ZAW{A B:List AUnit}(h:A.length=B.length):(List.zipWith (fun u w=> (⟨0,u,w⟩:APair)) A B).map APair.p=A/\(List.zipWith (fun u w=> (⟨0,u,w⟩:APair)) A B).map APair.q=B:=by
 induction A generalizing B with
 | nil=> cases B with
  | nil=> simp_all
  | cons=> simp at h
 | cons u A ih=> cases B with
  | nil=> simp at h
  | cons w B=>
   simp_all
theorem ZFL{A B:List AUnit}:∀ y∈List.zipWith (fun u w=> (⟨0,u,w⟩:APair)) A B,y.of=0:=by
 induction A generalizing B with
 | nil=> intro y d;simp at d
 | cons u A ih=> cases B with
  | nil=> intro y d;simp at d
  | cons w B=>
   intro y d
   rcases Qa.1 d with rfl | d
   .try rfl
   .exact ih y d
theorem ZnD(a:Int)(ha:a=1\/a=2):∀ (k:Nat) (p q:List Op) (out:List Piece) (P Q:List AUnit) (d:List APair),p.length+q.length<=k->okL p->okL q->P.map vu=vsL a p->Q.map vu=vsL 2 q->
  ∃ (ok:Bool) (l:List Piece) (m:List APair),(Y7 a 2 p q out).1=(if ok=true then out++l else [])/\(Y7 a 2 p q out).2.1=ok/\Yg P Q d=(if ok=true then d++m else [],ok)
   /\(ok=true->Zex a l m/\l.length<=p.length+q.length/\m.length<=P.length+Q.length):=by
 intro k
 induction k with
 | zero=>
  intro p q out P Q d hk hp hq eP eQ
  have h1:p=[]:=Xa.1 V1
  have h2:q=[]:=Xa.1 V1
  subst h1 h2
  have h3:P=[]:=by simpa [vsL] using eP
  have h4:Q=[]:=by simpa [vsL] using eQ
  subst h3 h4
  refine ⟨true,[],[],?_,?_,?_,fun _=> ⟨rfl,by simp,by simp⟩⟩
  .rw [Y7];simp [sgl]
  .rw [Y7];simp [sgl]
  .rw [Yg];simp [alo]
 | succ k ih=>
  intro p q out P Q d hk hp hq eP eQ
  obtain ⟨aP,lP⟩:=ZAK hp ha eP
  obtain ⟨aQ,lQ⟩:=ZAK hq (Or.inr rfl) eQ
  rw [Y7]
  by_cases h1:sgl a p=true
  .rw [dif_pos h1]
   obtain ⟨hl,s⟩:=Z1C.1 h1
   obtain ⟨oa,ob⟩:=Z7Y hp hl
   obtain ⟨s1,s2,s3,s4,s5⟩:=Z6l (a:=a) hp hl (Yh oa) (QS _)
   rw [Z8w] at s1 s5
   rw [Z8x] at s1 s2 s3 s4
   rw [s1] at eP
   obtain ⟨A,P',rfl,eA,am⟩:=XC.1 eP
   obtain ⟨f1,f2,f3⟩:=Ztl oa ha eA
   rw [decide_eq_true s] at f1
   rw [Zf2 A P' Q d f1]
   obtain ⟨ok,l,m,e1,e2,e3,e4⟩:=ih (p.drop 1) q (out++[⟨1,p.getD 0 Op.nil,Op.nil⟩]) P' Q (d++A.map (fun u=> ⟨1,u,AUnit.nil⟩)) (by simp;omega) s5 hq am eQ
   refine ⟨ok,⟨1,p.getD 0 Op.nil,Op.nil⟩ ::l,A.map (fun u=> ⟨1,u,AUnit.nil⟩)++m,by rw [e1,Qc];rfl,e2,by rw [e3,Qc],fun aa=> ?_⟩
   obtain ⟨g1,g2,g3⟩:=e4 aa
   have a6:=Yh oa
   refine ⟨?_,by simp only [Q8,Qv] at g2 ⊢;omega,by simp only [Q7,Qt] at g3 ⊢;omega⟩
   rw [Z31]
   refine ⟨A.map (fun u=> ⟨1,u,AUnit.nil⟩),m,rfl,?_,⟨Or.inr (Or.inl rfl),fun h=> by simp at h,?_,fun _=> ⟨oa,ob,?_,?_⟩,fun h=> absurd rfl h⟩,g1⟩
   .intro he;have:=congrArg List.length he;simp only [Qt,Qh] at this;omega
   .intro y hy;obtain ⟨u,_,rfl⟩:=Qy.1 hy;rfl
   .rw [Qt];exact f2.symm
   .rw [QO]
    have:(APair.p ∘ fun u=> (⟨1,u,AUnit.nil⟩:APair))=id:=rfl
    rw [this,List.map_id];exact f3
  .rw [dif_neg h1]
   have nP:alo P=false:=by rw [aP];exact Xx _▸h1
   by_cases h2:sgl 2 q=true
   .rw [dif_pos h2]
    obtain ⟨hl,s⟩:=Z1C.1 h2
    obtain ⟨oa,ob⟩:=Z7Y hq hl
    obtain ⟨s1,s2,s3,s4,s5⟩:=Z6l (a:=2) hq hl (Yh oa) (QS _)
    rw [Z8w] at s1 s5
    rw [Z8x] at s1 s2 s3 s4
    rw [s1] at eQ
    obtain ⟨B,Q',rfl,eB,ak⟩:=XC.1 eQ
    obtain ⟨f1,f2,f3⟩:=Ztl oa (Or.inr rfl) eB
    rw [decide_eq_true s] at f1
    rw [Zcb B P Q' d nP f1]
    obtain ⟨ok,l,m,e1,e2,e3,e4⟩:=ih p (q.drop 1) (out++[⟨2,Op.nil,q.getD 0 Op.nil⟩]) P Q' (d++B.map (fun u=> ⟨2,AUnit.nil,u⟩)) (by simp;omega) hp s5 eP ak
    refine ⟨ok,⟨2,Op.nil,q.getD 0 Op.nil⟩ ::l,B.map (fun u=> ⟨2,AUnit.nil,u⟩)++m,by rw [e1,Qc];rfl,e2,by rw [e3,Qc],fun aa=> ?_⟩
    obtain ⟨g1,g2,g3⟩:=e4 aa
    have a6:=Yh oa
    refine ⟨?_,by simp only [Q8,Qv] at g2 ⊢;omega,by simp only [Q7,Qt] at g3 ⊢;omega⟩
    rw [Z31]
    refine ⟨B.map (fun u=> ⟨2,AUnit.nil,u⟩),m,rfl,?_,⟨Or.inr (Or.inr rfl),fun _=> rfl,?_,fun h=> absurd rfl h,fun _=> ⟨oa,ob,?_,?_⟩⟩,g1⟩
    .intro he;have:=congrArg List.length he;simp only [Qt,Qh] at this;omega
    .intro y hy;obtain ⟨u,_,rfl⟩:=Qy.1 hy;rfl
    .rw [Qt];exact f2.symm
    .rw [QO]
     have:(APair.q ∘ fun u=> (⟨2,AUnit.nil,u⟩:APair))=id:=rfl
     rw [this,List.map_id];exact f3
   .rw [dif_neg h2]
    have nQ:alo Q=false:=by rw [aQ];exact Xx _▸h2
    by_cases h3:p.length=0\/q.length=0
    .rw [dif_pos h3]
     have e0:Yg P Q d=if decide (P.length=0)=decide (Q.length=0) then (d,true) else ([],false):=by
      rw [Yg,dif_neg (by rw [nP];exact Bool.false_ne_true),dif_neg (by rw [nQ];exact Bool.false_ne_true),dif_pos (by rw [lP,lQ];exact h3)]
     have e5:decide (P.length=0)=decide (p.length=0):=decide_eq_decide.2 lP
     have e6:decide (Q.length=0)=decide (q.length=0):=decide_eq_decide.2 lQ
     rw [e5,e6] at e0
     by_cases h4:decide (p.length=0)=decide (q.length=0)
     .rw [if_pos h4] at e0 ⊢
      exact ⟨true,[],[],by simp,rfl,by rw [e0];simp,fun _=> ⟨rfl,by simp,by simp⟩⟩
     .rw [if_neg h4] at e0 ⊢
      exact ⟨false,[],[],rfl,rfl,e0,fun h=> by cases h⟩
    .rw [dif_neg h3]
     have l1:p.length≠0:=V1
     have l2:q.length≠0:=V1
     obtain ⟨oa,ob⟩:=Z7Y hp l1
     obtain ⟨oc,od⟩:=Z7Y hq l2
     have p1:=Yh oa
     have p2:=Yh oc
     generalize hn:min (Z2 (p.getD 0 Op.nil)) (Z2 (q.getD 0 Op.nil))=n
     obtain ⟨s1,s2,s3,s4,s5⟩:=Z6l (a:=a) (n:=n) hp l1 V1 V1
     obtain ⟨t1,t2,t3,t4,t5⟩:=Z6l (a:=2) (n:=n) hq l2 V1 V1
     have k1:(ZK (p.getD 0 Op.nil) n).kind≠a:=by
      rw [Z1F];intro h;exact h1 (Z1C.2 ⟨l1,h⟩)
     have k2:(ZK (q.getD 0 Op.nil) n).kind≠2:=by
      rw [Z1F];intro h;exact h2 (Z1C.2 ⟨l2,h⟩)
     have c1:=Jg p n l1
     have c2:=Jg q n l2
     have c3:Z2 (p.getD 0 Op.nil)<=n->(Yd p n).length < p.length:=fun h=> Jf p _ l1 h
     have c4:Z2 (q.getD 0 Op.nil)<=n->(Yd q n).length < q.length:=fun h=> Jf q _ l2 h
     rw [s1] at eP
     rw [t1] at eQ
     obtain ⟨A,P',rfl,eA,am⟩:=XC.1 eP
     obtain ⟨B,Q',rfl,eB,ak⟩:=XC.1 eQ
     obtain ⟨f1,f2,f3⟩:=Ztl s2 ha eA
     obtain ⟨g1,g2,g3⟩:=Ztl t2 (Or.inr rfl) eB
     rw [decide_eq_false k1] at f1
     rw [decide_eq_false k2] at g1
     have ah:A.length=B.length:=V1
     rw [ZhJ A B P' Q' d ah f1 g1]
     obtain ⟨ok,l,m,e1,e2,e3,e4⟩:=ih (Yd p n) (Yd q n) (out++[⟨0,ZK (p.getD 0 Op.nil) n,ZK (q.getD 0 Op.nil) n⟩]) P' Q' (d++List.zipWith (fun u w=> ⟨0,u,w⟩) A B) V1 s5 t5 am ak
     refine ⟨ok,⟨0,ZK (p.getD 0 Op.nil) n,ZK (q.getD 0 Op.nil) n⟩ ::l,List.zipWith (fun u w=> ⟨0,u,w⟩) A B++m,by rw [e1,Qc];rfl,e2,by rw [e3,Qc],fun aa=> ?_⟩
     obtain ⟨i1,i2,i3⟩:=e4 aa
     have af:(List.zipWith (fun u w=> (⟨0,u,w⟩:APair)) A B).length=A.length:=by rw [List.length_zipWith,ah,Nat.min_self]
     obtain ⟨z1,z2⟩:=ZAW ah
     refine ⟨?_,by simp only [Q8];omega,by simp only [Q7,af];omega⟩
     rw [Z31]
     refine ⟨List.zipWith (fun u w=> ⟨0,u,w⟩) A B,m,rfl,?_,⟨Or.inl rfl,fun h=> by simp at h,ZFL,fun _=> ⟨s2,s4,?_,?_⟩,fun _=> ⟨t2,t4,?_,?_⟩⟩,i1⟩
     .intro he;have:=congrArg List.length he;rw [af,Qh] at this;omega
     .rw [af];exact f2.symm
     .rw [z1];exact f3
     .rw [af,ah];exact g2.symm
     .rw [z2];exact g3
theorem ZnN{t:Tree}(h:Z0r t=true):t=Tree.nil:=by
 obtain ⟨k,w,ks⟩:=t
 have:=of_decide_eq_true h
 simp at this
 obtain ⟨rfl,rfl,rfl⟩:=this
 try rfl
theorem Zjs{e:Edit}(h:Z36 e=true):e=Edit.nil:=by
 obtain ⟨h1,d,s,h4,h5,h6,h7⟩:=Zn5 h
 obtain ⟨k,o,n,w,ks,l,os⟩:=e
 simp at h1 d s h4 h5 h6 h7
 subst h1 h4 h5 h6 h7
 rw [ZnN d,ZnN s]
 try rfl
theorem Yl{list:Int}{o:Op}{d:Int}(h:Za list o d=true):ZZ o:=by
 rw [Z0e] at h
 unfold ZZ
 split at h
 .rename_i s
  simp only [Q2,decide_eq_true_eq] at h
  exact Or.inl ⟨s,Xa.1 h.1.2.2,⟨h.1.1,h.1.2.1⟩,Zjs h.2⟩
 .split at h
  .cases h
  .rename_i s h1
   split at h
   .simp only [Q2,decide_eq_true_eq] at h
    refine Or.inr (Or.inl ⟨V1,V1,?_,Zjs h.2⟩)
    grind
   grind
end Go.AM.YtpjenobkibfpcaaGreat
namespace Go.AM
def Z8c(list:Int)(e:Edit):Bool:=decide (e.kind=0\/(list=9/\e.kind=2/\e.words.length=0/\e.kids.length=0))
def Z8(l:List Tree):List Tree:=l.map Z6
def Z2h(kind:Int):List Op->List Tree
 | []=> []
 | o ::r=> if o.kind=1\/o.kind=2 then (if o.kind=kind then Z8 o.l else [])++Z2h kind r else []
def JG:List Op->Int
 | []=> 0
 | o ::r=> if o.kind=1\/o.kind=2 then 1+JG r else 0
mutual
def Yn:Edit->Int
 | .mk _ _ _ w ks _ os=> 1+w.length+Jh ks+ZH os
def Jh:List (KidOf Edit)->Int
 | []=> 0
 | k ::r=> Z1y k+Jh r
def Z1y:KidOf Edit->Int
 | ⟨_,e⟩=> Yn e
def ZH:List (OpOf Edit)->Int
 | []=> 0
 | o ::r=> Jw o+ZH r
def Jw:OpOf Edit->Int
 | ⟨k,_,_,e⟩=> if k=3 then 1+Yn e else 1
end
def Jc(w:WEdit):WEdit:=⟨w.at_,w.mask,w.new,w.old⟩
mutual
def Zt:Edit->Edit
 | .mk k o n w ks l os=> .mk k n o (w.map Jc) (Yv ks) l (YC os)
def Yv:List (KidOf Edit)->List (KidOf Edit)
 | []=> []
 | k ::r=> Jr k ::Yv r
def Jr:KidOf Edit->KidOf Edit
 | ⟨a,e⟩=> ⟨a,Zt e⟩
def YC:List (OpOf Edit)->List (OpOf Edit)
 | []=> []
 | o ::r=> Yu o ::YC r
def Yu:OpOf Edit->OpOf Edit
 | ⟨k,n,l,e⟩=> if k=1 then ⟨2,n,l,e⟩ else if k=2 then ⟨1,n,l,e⟩ else if k=3 then ⟨k,n,l,Zt e⟩ else ⟨k,n,l,e⟩
end
def ZaC(k:Int):Int:=if k=1\/k=2 then 3 - k else k
mutual
def Z2y:Edit->Edit
 | .mk k o n w ks l os=> .mk k n o (w.map Jc) (Z3m ks) l (Z15 os)
def Z3m:List (KidOf Edit)->List (KidOf Edit)
 | []=> []
 | k ::r=> ZbP k ::Z3m r
def ZbP:KidOf Edit->KidOf Edit
 | ⟨a,e⟩=> ⟨a,Z2y e⟩
def Z15:List (OpOf Edit)->List (OpOf Edit)
 | []=> []
 | o ::r=> ZfT o ::Z15 r
def ZfT:OpOf Edit->OpOf Edit
 | ⟨k,n,l,e⟩=> ⟨ZaC k,n,l,Z2y e⟩
end
structure Wst where
 out:List Op
 gone:List Tree
 brought:List Tree
def JZ(out:List Op)(g b:List Tree):List Op:=
 out++((if g.length=0 then [] else [⟨1,0,g,Edit.nil⟩])++(if b.length=0 then [] else [⟨2,0,b,Edit.nil⟩]))
def JK:List Op->Int->List Op
 | [],n=> [⟨0,n,[],Edit.nil⟩]
 | [o],n=> if o.kind=0 then [⟨o.kind,o.n+n,o.l,o.e⟩] else [o,⟨0,n,[],Edit.nil⟩]
 | o ::p ::r,n=> o ::JK (p ::r) n
def Zb(w:Wst):Wst:=⟨JZ w.out w.gone w.brought,[],[]⟩
def Y2(w:Wst)(n:Int):Wst:=⟨JK (Zb w).out n,[],[]⟩
mutual
def Zp:Edit->Edit
 | .mk k o n w ks l os=>
  if k=1 then .mk k (Z6 o) (Z6 n) [] [] l []
  else if k=2 then .mk k Tree.nil Tree.nil w (YR ks) l []
  else if k=3 then .mk k Tree.nil Tree.nil [] [] l (Zb (Zv l os ⟨[],[],[]⟩)).out
  else .mk k Tree.nil Tree.nil [] [] l []
def YR:List (KidOf Edit)->List (KidOf Edit)
 | []=> []
 | k ::r=> Z0X k ::YR r
def Z0X:KidOf Edit->KidOf Edit
 | ⟨a,e⟩=> ⟨a,Zp e⟩
def Zv(list:Int):List (OpOf Edit)->Wst->Wst
 | [],s=> s
 | o ::r,s=> Zv list r (Z04 list o s)
def Z04(list:Int):OpOf Edit->Wst->Wst
 | ⟨k,n,l,e⟩,s=>
  if k=0 then Y2 s n
  else if k=1 then ⟨s.out,s.gone++Z8 l,s.brought⟩
  else if k=2 then ⟨s.out,s.gone,s.brought++Z8 l⟩
  else if k=3 then (if Z8c list (Zp e)=true then Y2 s 1 else ⟨(Zb s).out++[⟨3,0,[],Zp e⟩],[],[]⟩)
  else s
end
theorem Z4U(e:Edit):Zp e=if e.kind=1 then .mk e.kind (Z6 e.old) (Z6 e.new) [] [] e.list []
  else if e.kind=2 then .mk e.kind Tree.nil Tree.nil e.words (YR e.kids) e.list []
  else if e.kind=3 then .mk e.kind Tree.nil Tree.nil [] [] e.list (Zb (Zv e.list e.ops ⟨[],[],[]⟩)).out
  else .mk e.kind Tree.nil Tree.nil [] [] e.list []:=by cases e;rfl
theorem Ze2(k:Kid):Z0X k=⟨k.at_,Zp k.e⟩:=by cases k;rfl
theorem YV(list:Int)(o:Op)(s:Wst):Z04 list o s=if o.kind=0 then Y2 s o.n
  else if o.kind=1 then ⟨s.out,s.gone++Z8 o.l,s.brought⟩
  else if o.kind=2 then ⟨s.out,s.gone,s.brought++Z8 o.l⟩
  else if o.kind=3 then (if Z8c list (Zp o.e)=true then Y2 s 1 else ⟨(Zb s).out++[⟨3,0,[],Zp o.e⟩],[],[]⟩)
  else s:=by cases o;rfl
theorem ZjT(list:Int):∀ (l:List Op) (s:Wst),Zv list l s=Zv list (l.drop (JG l).toNat) ⟨s.out,s.gone++Z2h 1 l,s.brought++Z2h 2 l⟩
 | [],s=> by simp [Zv,Z2h,JG]
 | o ::r,s=> by
  by_cases h:o.kind=1\/o.kind=2
  .have d:0<=JG r:=gapN_nonneg r
   rw [JG,if_pos h,Z2h,Z2h,if_pos h,if_pos h,show (1+JG r).toNat=(JG r).toNat+1 by omega,QC,Zv,YV,ZjT list r]
   grind
  .rw [JG,if_neg h,Z2h,Z2h,if_neg h,if_neg h]
   simp
where
 gapN_nonneg:∀ (l:List Op),0<=JG l
  | []=> by simp [JG]
  | o ::r=> by
   have:=gapN_nonneg r
   rw [JG];omega
def ZP{α:Type}(z:α)(l:List α)(i:Nat)(x:α):List α:=(l++List.replicate (i+1 - l.length) z).set i x
def wsD(tw:List Int):List WEdit->List Int->Option (List Int)
 | [],out=> some out
 | w ::r,out=> if mix 0 (tw.getD w.at_.toNat 0) w.mask=w.old then wsD tw r (ZP 0 out w.at_.toNat (mix (tw.getD w.at_.toNat 0) w.new w.mask)) else none
noncomputable def JR(l rest:List Tree):Bool:=decide (l.length<=rest.length) && eqX (Z8 l) (Z8 (rest.take l.length))
def Z0H(r:Option (List Tree × List Tree)):Option (List Tree):=r.bind fun x=> if x.2.length=0 then some x.1 else none
def nrD(r:Bool)(t:Tree):Tree:=if r then Z6 t else t
mutual
noncomputable def doE(r:Bool):Edit->Tree->Option Tree
 | .mk k o n w ks l os,t=>
  (if k=0 then some t
  else if k=1 then (if YM (Z6 o) (Z6 t)=true then some n else none)
  else if k=2 then (if t.kind=1 then (wsD t.words w t.words).bind fun a=> (JC r t.kids ks t.kids).map fun b=> .mk 1 a b else none)
  else if k=3 then (if t.kind=l then (Z0H (ZE r os t.kids [])).map fun b=> .mk l [] b else none)
  else none).map (nrD r)
noncomputable def JC(r:Bool)(tk:List Tree):List (KidOf Edit)->List Tree->Option (List Tree)
 | [],out=> some out
 | k ::s,out=> (Z0L r tk k).bind fun u=> JC r tk s (ZP Tree.nil out k.at_.toNat u)
noncomputable def Z0L(r:Bool)(tk:List Tree):KidOf Edit->Option Tree
 | ⟨a,e⟩=> doE r e (tk.getD a.toNat Tree.nil)
noncomputable def ZE(r:Bool):List (OpOf Edit)->List Tree->List Tree->Option (List Tree × List Tree)
 | [],rest,out=> some (out,rest)
 | o ::s,rest,out=> (Z2j r o rest out).bind fun x=> ZE r s x.2 x.1
noncomputable def Z2j(r:Bool):OpOf Edit->List Tree->List Tree->Option (List Tree × List Tree)
 | ⟨k,n,l,e⟩,rest,out=>
  if k=0 then (if n.toNat<=rest.length then some (out++rest.take n.toNat,rest.drop n.toNat) else none)
  else if k=1 then (if JR l rest=true then some (out,rest.drop l.length) else none)
  else if k=2 then some (out++l,rest)
  else if rest.length=0 then none else (doE r e (rest.getD 0 Tree.nil)).map fun u=> (out++[u],rest.drop 1)
end
theorem Z13(r:Bool)(e:Edit)(t:Tree):doE r e t=(if e.kind=0 then some t
  else if e.kind=1 then (if YM (Z6 e.old) (Z6 t)=true then some e.new else none)
  else if e.kind=2 then (if t.kind=1 then (wsD t.words e.words t.words).bind fun a=> (JC r t.kids e.kids t.kids).map fun b=> .mk 1 a b else none)
  else if e.kind=3 then (if t.kind=e.list then (Z0H (ZE r e.ops t.kids [])).map fun b=> .mk e.list [] b else none)
  else none).map (nrD r):=by cases e;rfl
noncomputable def ZdI(r:Bool)(e:Edit)(t:Tree):Option Tree:=
 if e.kind=0 then some t
 else if e.kind=1 then (if YM (Z6 e.old) (Z6 t)=true then some e.new else none)
 else if e.kind=2 then (if t.kind=1 then (wsD t.words e.words t.words).bind fun a=> (JC r t.kids e.kids t.kids).map fun b=> .mk 1 a b else none)
 else if e.kind=3 then (if t.kind=e.list then (Z0H (ZE r e.ops t.kids [])).map fun b=> .mk e.list [] b else none)
 else none
theorem Z51(r:Bool)(e:Edit)(t:Tree):doE r e t=(ZdI r e t).map (nrD r):=Z13 r e t
theorem Z2k(r:Bool)(tk:List Tree)(k:Kid):Z0L r tk k=doE r k.e (tk.getD k.at_.toNat Tree.nil):=by cases k;rfl
theorem Yr(r:Bool)(o:Op)(rest out:List Tree):Z2j r o rest out=if o.kind=0 then (if o.n.toNat<=rest.length then some (out++rest.take o.n.toNat,rest.drop o.n.toNat) else none)
  else if o.kind=1 then (if JR o.l rest=true then some (out,rest.drop o.l.length) else none)
  else if o.kind=2 then some (out++o.l,rest)
  else if rest.length=0 then none else (doE r o.e (rest.getD 0 Tree.nil)).map fun u=> (out++[u],rest.drop 1):=by cases o;rfl
noncomputable def Z43(r:Bool)(e:Edit)(t:Tree):Option Tree:=
 if t.kind=1 then (wsD t.words e.words t.words).bind fun a=> (JC r t.kids e.kids t.kids).map fun b=> .mk 1 a b else none
noncomputable def Z1u(r:Bool)(e:Edit)(t:Tree):Option (List Tree × List Tree):=if t.kind=e.list then ZE r e.ops t.kids [] else none
def YP(o:Option Tree):Tree:=o.getD Tree.nil
def ZlE(e:Edit)(o:Option (List Tree × List Tree)):Tree:=match o with | some x=> .mk e.list [] x.1 | none=> Tree.nil
noncomputable def ZfK(e:Edit)(t:Tree):Tree:=
 if e.kind=0 then t else if e.kind=1 then e.new else if e.kind=2 then YP (Z43 false e t) else if e.kind=3 then ZlE e (Z1u false e t) else Tree.nil
theorem J0(o:Option Tree):o.map (nrD false)=o:=by cases o <;> rfl
theorem ZdY{e:Edit}{t u:Tree}(h:doE false e t=some u):ZfK e t=u:=by
 rw [Z13,J0] at h
 unfold ZfK
 split
 .grind
 .rename_i h0;rw [if_neg h0] at h
  split
  .grind
  .rename_i h1;rw [if_neg h1] at h
   split
   .rename_i d;rw [if_pos d] at h
    unfold YP Z43
    rw [h];try rfl
   .rename_i d;rw [if_neg d] at h
    split
    .rename_i s;rw [if_pos s] at h
     unfold ZlE Z1u
     split at h
     .rename_i h4;rw [if_pos h4]
      revert h
      cases ZE false e.ops t.kids [] with
      | none=> intro h;cases h
      | some x=>
       intro h
       simp only [Z0H,Qb] at h
       grind
     .cases h
    grind
def Z2m(m:Nat):Nat->Nat
 | 0=> 0
 | i+1=> Z2m m i+if m / 2 ^ i % 2=1 then 255*2 ^ (8*i) else 0
def ZiR:Nat->Nat->Nat
 | 0,_=> 0
 | k+1,m=> (if m % 2=1 then 255 else 0)+256*ZiR k (m / 2)
def Zf1:Nat->Nat->Nat->Nat
 | 0,_,_=> 0
 | k+1,a,m=> (if m % 2=1 then a % 256 else 0)+256*Zf1 k (a / 256) (m / 2)
def ZnT:Nat->Nat->Nat->Nat->Nat
 | 0,_,_,_=> 0
 | k+1,a,b,m=> (if m % 2=1 then b % 256 else a % 256)+256*ZnT k (a / 256) (b / 256) (m / 2)
theorem ZvU(x y u v:Nat)(hu:u < 256)(hv:v < 256):(u+256*x) &&& (v+256*y)=(u &&& v)+256*(x &&& y):=by
 have h:u &&& v < 256:=Nat.and_lt_two_pow (n:=8) u hv
 apply Nat.eq_of_testBit_eq
 intro j
 rw [XJ u,XJ v,XJ (u &&& v),Nat.testBit_and]
 rw [show (256:Nat)=2 ^ 8 from rfl,X9 _ hu,X9 _ hv,X9 _ h]
 grind
theorem Zyu(x y u v:Nat)(hu:u < 256)(hv:v < 256):(u+256*x) ||| (v+256*y)=(u ||| v)+256*(x ||| y):=by
 have h:u ||| v < 256:=Nat.or_lt_two_pow (n:=8) hu hv
 apply Nat.eq_of_testBit_eq
 intro j
 rw [XJ u,XJ v,XJ (u ||| v),Nat.testBit_or]
 rw [show (256:Nat)=2 ^ 8 from rfl,X9 _ hu,X9 _ hv,X9 _ h]
 grind
theorem ZiN:∀ (k a m:Nat),a &&& ZiR k m=Zf1 k a m
 | 0,a,m=> by simp [ZiR,Zf1]
 | k+1,a,m=> by
  have e:a=a % 256+256*(a / 256):=V1
  simp only [ZiR,Zf1]
  rw [<-ZiN k (a / 256) (m / 2)]
  have h:a &&& ((if m % 2=1 then 255 else 0)+256*ZiR k (m / 2))=(a % 256+256*(a / 256)) &&& ((if m % 2=1 then 255 else 0)+256*ZiR k (m / 2)):=by rw [<-e]
  rw [h,ZvU _ _ _ _ V1 (by grind)]
  congr 1
  split
  .have:=Nat.and_two_pow_sub_one_eq_mod (a % 256) 8
   grind
  .simp
theorem Zsb:∀ (k a b m n:Nat),(∀ i < k,m / 2 ^ i % 2+n / 2 ^ i % 2=1)->Zf1 k a n ||| Zf1 k b m=ZnT k a b m
 | 0,a,b,m,n,_=> by simp [Zf1,ZnT]
 | k+1,a,b,m,n,h=> by
  simp only [Zf1,ZnT]
  have d:=h 0 V1
  simp only [Nat.pow_zero,Nat.div_one] at d
  rw [Zyu _ _ _ _ (by grind) (by grind),Zsb k (a / 256) (b / 256) (m / 2) (n / 2) (fun i s=> by
   have:=h (i+1) V1
   rw [Xl,Xl]
   grind)]
  grind
theorem Zr5:∀ m:Fin 256,Z2m m.1 8=ZiR 8 m.1:=by decide+kernel
theorem Zwa:∀ m:Fin 256,2 ^ 64 - 1 - ZiR 8 m.1=ZiR 8 (255 - m.1):=by decide+kernel
theorem ZAl:∀ m:Fin 256,∀ i:Fin 8,m.1 / 2 ^ i.1 % 2+(255 - m.1) / 2 ^ i.1 % 2=1:=by decide+kernel
theorem ZAZ:∀ m:Fin 256,ZiR 8 m.1 < 2 ^ 64:=by decide+kernel
theorem ZyH(a b m:Nat)(hm:m < 256):(a &&& (2 ^ 64 - 1 - Z2m m 8)) ||| (b &&& Z2m m 8)=ZnT 8 a b m:=by
 have d:=Zr5 ⟨m,hm⟩
 have h:=Zwa ⟨m,hm⟩
 simp only at d h
 rw [d,h,ZiN,ZiN]
 exact Zsb 8 a b m (255 - m) (fun i s=> ZAl ⟨m,hm⟩ ⟨i,s⟩)
def ofK:Nat->(Nat->Nat)->Nat
 | 0,_=> 0
 | k+1,f=> f 0+256*ofK k (fun i=> f (i+1))
theorem ZjS:∀ (k:Nat) {f g:Nat->Nat},(∀ i,f i=g i)->ofK k f=ofK k g
 | 0,_,_,_=> rfl
 | k+1,f,g,h=> by simp only [ofK,h 0,ZjS k (fun i=> h (i+1))]
theorem Zsg:∀ (k a b m:Nat),ZnT k a b m=ofK k (fun i=> if m / 2 ^ i % 2=1 then b / 256 ^ i % 256 else a / 256 ^ i % 256)
 | 0,_,_,_=> rfl
 | k+1,a,b,m=> by
  simp only [ZnT,ofK,Nat.pow_zero,Nat.div_one]
  rw [Zsg k,ZjS k (g:=fun i=> if m / 2 ^ (i+1) % 2=1 then b / 256 ^ (i+1) % 256 else a / 256 ^ (i+1) % 256) (fun i=> ?_)]
  rw [Xl,Xl,Xl,Nat.pow_succ',Nat.pow_succ']
theorem ZyI(a b m:Nat):((ZnT 8 a b m:Nat):Int)=mix a b m:=by
 have nm:∀ i:Nat,Zz (m:Int) (i:Int)=decide (m / 2 ^ i % 2=1):=by
  intro i
  unfold Zz
  rw [decide_eq_decide,Xb]
  have:((m:Int) / 2 ^ i % 2:Int)=((m / 2 ^ i % 2:Nat):Int):=by rw [Int.natCast_emod,Int.natCast_ediv,Int.natCast_pow];try rfl
  rw [this];omega
 have d:∀ (x i:Nat),Z4 (x:Int) i=((x / 256 ^ i % 256:Nat):Int):=by
  intro x i
  unfold Z4
  rw [Int.natCast_emod,Int.natCast_ediv,Int.natCast_pow]
  try rfl
 have s:∀ i:Nat,Jn (a:Int) (b:Int) (m:Int) i=((if m / 2 ^ i % 2=1 then b / 256 ^ i % 256 else a / 256 ^ i % 256:Nat):Int):=by
  intro i
  unfold Jn
  rw [nm,d,d]
  by_cases h:m / 2 ^ i % 2=1
  .grind
  .grind
 rw [Zsg]
 generalize hf:(fun i=> if m / 2 ^ i % 2=1 then b / 256 ^ i % 256 else a / 256 ^ i % 256)=f
 have hx:∀ i,Jn (a:Int) (b:Int) (m:Int) i=(f i:Int):=by intro i;rw [s,<-hf]
 have e:ofK 8 f=f 0+256*(f 1+256*(f 2+256*(f 3+256*(f 4+256*(f 5+256*(f 6+256*(f 7+256*0))))))):=rfl
 rw [e]
 simp only [mix,of8,hx]
 omega
def ZoQ(a b:Int):Int:=IntKind.wrap .u8 (BitVec.ofInt (IntKind.bits .u8) a &&& BitVec.ofInt (IntKind.bits .u8) b).toNat
def orM(a b:Int):Int:=IntKind.wrap .u8 (BitVec.ofInt (IntKind.bits .u8) a ||| BitVec.ofInt (IntKind.bits .u8) b).toNat
def Z5o(p q:WEdit):Bool:=decide (mix 0 p.new (ZoQ p.mask q.mask)=mix 0 q.old (ZoQ p.mask q.mask))
def YY(p q:WEdit):WEdit × Bool:=
 if Z5o p q then (⟨p.at_,orM p.mask q.mask,mix q.old p.old p.mask,mix p.new q.new q.mask⟩,true) else (⟨0,0,0,0⟩,false)
def Zf{α:Type}(at_:α->Int)(one:α->α->α × Bool):List α->List α->Option (List α)
 | [],q=> some q
 | a ::p,[]=> some (a ::p)
 | a ::p,b ::q=>
  if at_ a < at_ b then (Zf at_ one p (b ::q)).map (a ::·)
  else if at_ b < at_ a then (Zf at_ one (a ::p) q).map (b ::·)
  else if (one a b).2 then (Zf at_ one p q).map ((one a b).1 ::·) else none
termination_by p q=> p.length+q.length
def ofO{α:Type}(o:Option (List α)):List α:=o.getD []
structure PRes where
 op:Op
 is:Bool
 ok:Bool
noncomputable def doB(e:Edit)(t:Tree):Tree × Bool:=(YP ((doE false e t).map Z6),(doE false e t).isSome)
noncomputable def Zeq(a b:List Tree):Bool:=eqX (Z8 a) (Z8 b)
noncomputable def Zx(f:Edit->Edit->Edit × Bool)(x:Piece):PRes:=
 if x.of=1\/(x.of=0/\x.q.kind=0) then ⟨x.p,true,true⟩
 else if x.of=2\/x.p.kind=0 then ⟨x.q,true,true⟩
 else if x.p.kind=2/\x.q.kind=1 then ⟨Op.nil,false,Zeq x.p.l (x.q.l.take x.p.l.length)⟩
 else if x.p.kind=2 then ⟨⟨2,0,[(doB x.q.e (x.p.l.getD 0 Tree.nil)).1],Edit.nil⟩,true,(doB x.q.e (x.p.l.getD 0 Tree.nil)).2⟩
 else if x.q.kind=1 then ⟨⟨1,0,[(doB (Zp (Zt x.p.e)) (x.q.l.getD 0 Tree.nil)).1],Edit.nil⟩,true,(doB (Zp (Zt x.p.e)) (x.q.l.getD 0 Tree.nil)).2⟩
 else ⟨⟨3,0,[],(f x.p.e x.q.e).1⟩,true,(f x.p.e x.q.e).2⟩
noncomputable def Jx(f:Edit->Edit->Edit × Bool):List Piece->Option (List Op)
 | []=> some []
 | x ::r=> if (Zx f x).ok then (Jx f r).map ((if (Zx f x).is then [(Zx f x).op] else [])++·) else none
noncomputable def Z09(f:Edit->Edit->Edit × Bool)(p q:List Op):Option (List Op):=
 if (Y7 1 2 p q []).2.1 then Jx f (Y7 1 2 p q []).1 else none
def Z0g(f:Edit->Edit->Edit × Bool)(a b:Kid):Kid × Bool:=(⟨a.at_,(f a.e b.e).1⟩,(f a.e b.e).2)
noncomputable def JW(f:Edit->Edit->Edit × Bool)(p q:Edit):Edit × Bool:=
 if p.kind=0 then (q,true)
 else if q.kind=0 then (p,true)
 else if p.kind=1 then (.mk 1 p.old (doB q p.new).1 [] [] 0 [],(doB q p.new).2)
 else if q.kind=1 then (.mk 1 (doB (Zp (Zt p)) q.old).1 q.new [] [] 0 [],(doB (Zp (Zt p)) q.old).2)
 else if p.kind≠q.kind\/p.list≠q.list then (Edit.nil,false)
 else if p.kind=2 then
  if (Zf WEdit.at_ YY p.words q.words).isSome then
   (.mk 2 Tree.nil Tree.nil (ofO (Zf WEdit.at_ YY p.words q.words)) (ofO (Zf KidOf.at_ (Z0g f) p.kids q.kids)) 0 [],(Zf KidOf.at_ (Z0g f) p.kids q.kids).isSome)
  else (Edit.nil,false)
 else (.mk 3 Tree.nil Tree.nil [] [] p.list (ofO (Z09 f p.ops q.ops)),(Z09 f p.ops q.ops).isSome)
noncomputable def Z7k:Nat->Edit->Edit->Edit × Bool
 | 0,_,_=> (Edit.nil,false)
 | n+1,p,q=> JW (Z7k n) p q
noncomputable def YA(p q:Edit):Edit × Bool:=Z7k (Z0 p+Z0 q) p q
def Z2C(l:List WEdit)(at_:Int):Option WEdit:=l.find? (fun w=> decide (w.at_=at_))
def Z0x(l:List Kid)(at_:Int):Edit:=((l.find? (fun k=> decide (k.at_=at_))).map KidOf.e).getD Edit.nil
def YJ:List Int->List Int->List Int
 | [],b=> b
 | a ::p,[]=> a ::p
 | a ::p,b ::q=> if a < b then a ::YJ p (b ::q) else if b < a then b ::YJ (a ::p) q else a ::YJ p q
termination_by p q=> p.length+q.length
def Z0p(p q:List WEdit):List Int->Option (List WEdit)
 | []=> some []
 | n ::r=> match Z2C p n,Z2C q n with
  | some x,none=> (Z0p p q r).map (x ::·)
  | none,some y=> (Z0p p q r).map (y ::·)
  | some x,some y=> if (YY x y).2 then (Z0p p q r).map ((YY x y).1 ::·) else none
  | none,none=> (Z0p p q r).map ((⟨0,0,0,0⟩:WEdit) ::·)
noncomputable def Z03(f:Edit->Edit->Edit × Bool)(p q:List Kid):List Int->Option (List Kid)
 | []=> some []
 | n ::r=> if (f (Z0x p n) (Z0x q n)).2 then (Z03 f p q r).map (⟨n,(f (Z0x p n) (Z0x q n)).1⟩ ::·) else none
noncomputable def Z0E(f:Edit->Edit->Edit × Bool)(p q:AUnit):List Op × Bool:=
 if q.kind=0 then ([opU p],true)
 else if p.kind=0 then ([opU q],true)
 else if p.kind=2/\q.kind=1 then ([],YM (Z6 p.t) (Z6 q.t))
 else if p.kind=2 then ([⟨2,0,[YP (doE true q.e p.t)],Edit.nil⟩],(doE true q.e p.t).isSome)
 else if q.kind=1 then ([⟨1,0,[YP (doE true (Zp (Zt p.e)) q.t)],Edit.nil⟩],(doE true (Zp (Zt p.e)) q.t).isSome)
 else ([⟨3,0,[],(f p.e q.e).1⟩],(f p.e q.e).2)
noncomputable def YI(f:Edit->Edit->Edit × Bool):List APair->Option (List Op)
 | []=> some []
 | x ::r=>
  if x.of=1 then (YI f r).map (opU x.p ::·)
  else if x.of=2 then (YI f r).map (opU x.q ::·)
  else if (Z0E f x.p x.q).2 then (YI f r).map ((Z0E f x.p x.q).1++·) else none
noncomputable def Z4Q(f:Edit->Edit->Edit × Bool)(p q:List Op):Option (List Op):=
 if (Yg (ZO 0 1 p) (ZO 0 2 q) []).2 then YI f (Yg (ZO 0 1 p) (ZO 0 2 q) []).1 else none
noncomputable def Z02(f:Edit->Edit->Edit × Bool)(p q:Edit):Edit × Bool:=
 if p.kind=0 then (q,true)
 else if q.kind=0 then (p,true)
 else if p.kind=1 then (.mk 1 p.old (YP (doE true q p.new)) [] [] 0 [],(doE true q p.new).isSome)
 else if q.kind=1 then (.mk 1 (YP (doE true (Zp (Zt p)) q.old)) q.new [] [] 0 [],(doE true (Zp (Zt p)) q.old).isSome)
 else if p.kind≠q.kind then (Edit.nil,false)
 else if p.kind=2 then
  match Z0p p.words q.words (YJ (p.words.map WEdit.at_) (q.words.map WEdit.at_)),Z03 f p.kids q.kids (YJ (p.kids.map KidOf.at_) (q.kids.map KidOf.at_)) with
  | some w,some k=> (.mk 2 Tree.nil Tree.nil w k 0 [],true)
  | _,_=> (Edit.nil,false)
 else if p.list≠q.list then (Edit.nil,false)
 else match Z4Q f p.ops q.ops with
  | some l=> (.mk 3 Tree.nil Tree.nil [] [] p.list l,true)
  | none=> (Edit.nil,false)
noncomputable def Z0N:Nat->Edit->Edit->Edit × Bool
 | 0,_,_=> (Edit.nil,false)
 | n+1,p,q=> Z02 (Z0N n) p q
noncomputable def JM(p q:Edit):Edit × Bool:=Z0N (Z0 p+Z0 q) p q
def YT(e:Edit):Prop:=ctE e<=9000000000/\ZX e/\∃ d,Z1 e d=true
def ZzP(k:Kid):Prop:=Z2s k<=9000000000/\Z2b k/\∃ d,Z1 k.e d=true
def ZfJ(l:List Kid):Prop:=Z08 l<=9000000000/\Z1r l/\∀ k∈l,∃ d,Z1 k.e d=true
def ZuB(l:List Op):Prop:=YF l<=9000000000/\Z0D l/\∀ o∈l,∃ list d,Za list o d=true
def Zxt(o:Op):Prop:=ZZ o/\Z1x o<=9000000000/\YH o/\(o.kind=3->∃ d,Z1 o.e d=true)
structure PcOk (x:Piece):Prop where
 of:x.of=0\/x.of=1\/x.of=2
 pp:x.of≠2->Zxt x.p
 qq:x.of≠1->Zxt x.q
 both:x.of=0->x.p.kind≠1/\x.q.kind≠2/\Z2 x.p=Z2 x.q
instance:Inhabited PStep:=⟨⟨0,0⟩⟩
def JQ(n:Int):List Op:=if n=0 then [] else [⟨0,n,[],Edit.nil⟩]
def ZF9(s:PStep)(t:Tree):Prop:=s.kind=0/\0<=s.at_/\(t.kind=1/\s.at_ < 65535\/(2<=t.kind/\t.kind<=9)/\s.at_ < t.kids.length)
instance (s:PStep) (t:Tree):Decidable (ZF9 s t):=by unfold ZF9;infer_instance
noncomputable def Z1A(p q:Edit):Edit × Bool:=if (YA p q).2=true then (Zp (YA p q).1,true) else (Edit.nil,false)
noncomputable def Z5a(p q:Edit):Edit × Bool:=if (JM p q).2=true then (Zp (JM p q).1,true) else (Edit.nil,false)
noncomputable def ZiX(p q:Edit):Edit × Bool:=
 match Z0p p.words q.words (YJ (p.words.map WEdit.at_) (q.words.map WEdit.at_)),Z03 JM p.kids q.kids (YJ (p.kids.map KidOf.at_) (q.kids.map KidOf.at_)) with
 | some w,some k=> (.mk 2 Tree.nil Tree.nil w k 0 [],true)
 | _,_=> (Edit.nil,false)
noncomputable def ZiY(p q:Edit):Edit × Bool:=
 if p.list≠q.list then (Edit.nil,false)
 else match Z4Q JM p.ops q.ops with
  | some l=> (.mk 3 Tree.nil Tree.nil [] [] p.list l,true)
  | none=> (Edit.nil,false)
def wOk(w:WEdit):Prop:=Z2a w/\Ya w.old w.mask=true/\Ya w.new w.mask=true
def uOk(u:AUnit):Prop:=(u.kind=0\/u.kind=1\/u.kind=2\/u.kind=3)/\Zq u.t<=9000000000/\rng u.t/\(u.kind=3->YT u.e)
def Z1v(list ahead:Int)(o:Op)(behind:Int):Edit:= .mk 3 Tree.nil Tree.nil [] [] list ((JQ ahead++[o])++JQ behind)
def Z1o(w:WEdit):Edit:= .mk 2 Tree.nil Tree.nil [w] [] 0 []
def Z7j(a:Int)(x:Edit):Edit:= .mk 2 Tree.nil Tree.nil [] [⟨a,x⟩] 0 []
mutual
def Zn:Edit->List Edit
 | .mk k o n w ks l os=> if k=0 then [] else
  if (if k=2 then w.map Z1o++Y4 ks else if k=3 then ZN l os 0 (Jp os 0) else []).length=0 then [.mk k o n w ks l os]
  else (if k=2 then w.map Z1o++Y4 ks else if k=3 then ZN l os 0 (Jp os 0) else [])
def Y4:List (KidOf Edit)->List Edit
 | []=> []
 | k ::r=> Z2c k++Y4 r
def Z2c:KidOf Edit->List Edit
 | ⟨a,e⟩=> (Zn e).map (Z7j a)
def ZN(l:Int):List (OpOf Edit)->Int->Int->List Edit
 | [],_,_=> []
 | o ::r,a,b=> Z3o l o a b++ZN l r (if o.kind=1 then a else a+Z2 o) (if o.kind=2 then b else b - Z2 o)
def Z3o(l:Int):OpOf Edit->Int->Int->List Edit
 | ⟨k,n,t,e⟩,a,b=> if k=0 then [] else if k=1 then [Z1v l a ⟨k,n,t,e⟩ (b - t.length)] else if k=2 then [Z1v l a ⟨k,n,t,e⟩ (b - 0)]
  else (Zn e).map fun x=> Z1v l a ⟨3,0,[],x⟩ (b - 1)
end
def YU(e:Edit):List Edit:=if e.kind=2 then e.words.map Z1o++Y4 e.kids else if e.kind=3 then ZN e.list e.ops 0 (Jp e.ops 0) else []
theorem Z0G(e:Edit):Zn e=if e.kind=0 then [] else if (YU e).length=0 then [e] else YU e:=by cases e;rfl
theorem Z4R(k:Kid):Z2c k=(Zn k.e).map (Z7j k.at_):=by cases k;rfl
theorem Z4l(l:Int)(o:Op)(a b:Int):Z3o l o a b=if o.kind=0 then [] else if o.kind=1 then [Z1v l a o (b - o.l.length)] else if o.kind=2 then [Z1v l a o (b - 0)]
  else (Zn o.e).map fun x=> Z1v l a ⟨3,0,[],x⟩ (b - 1):=by cases o;rfl
noncomputable def J3:List Edit->Tree->Option Tree
 | [],t=> some t
 | e ::r,t=> (doE false e t).bind (J3 r)
noncomputable def Z1f:List Edit->Edit->Edit × Bool
 | [],x=> (x,true)
 | e ::r,x=> if (Z1A x e).2=true then Z1f r (Z1A x e).1 else (Edit.nil,false)
noncomputable def Z0A(l:List Edit):Edit × Bool:=if (Z1f l Edit.nil).2=true then (Zp (Z1f l Edit.nil).1,true) else (Edit.nil,false)
def ctL:List Edit->Nat
 | []=> 0
 | e ::r=> ctE e+ctL r
end Go.AM
namespace Go.AM.YtpjenobkibfpcaaGreat
open Go.AM Go.Proofs
theorem ZaA(a:Tree):YM a a=true:=by simp [YM]
theorem Zup(l:List Int):trim (trim l)=trim l:=by
 induction l with
 | nil=> rfl
 | cons x r ih=>
  rw [Z3E]
  split
  .try rfl
  .rename_i h
   rw [Z3E,ih,if_neg h]
theorem Zp3(l:List Tree):YQ (YQ l)=YQ l:=by
 induction l with
 | nil=> rfl
 | cons x r ih=>
  rw [Z0Q]
  split
  .try rfl
  .rename_i h
   rw [Z0Q,ih,if_neg h]
def Normed:List Tree->Prop
 | []=> True
 | t ::r=> Z6 t=t/\Normed r
theorem Normed.eq:∀ {l:List Tree},Normed l->J2 l=l
 | [],_=> rfl
 | t ::r,h=> by simp only [J2,h.1,Normed.eq h.2]
theorem Normed.trim:∀ {l:List Tree},Normed l->Normed (YQ l)
 | [],_=> trivial
 | t ::r,h=> by
  rw [Z0Q]
  split
  .trivial
  .exact ⟨h.1,Normed.trim h.2⟩
mutual
theorem J9:∀ (t:Tree),Z6 (Z6 t)=Z6 t
 | .mk k w ks=> by
  have h:=Zch ks
  by_cases h0:k=0
  .simp [Z6,h0,Tree.nil]
  .by_cases h1:k=1
   .subst h1
    simp only [Z6,if_neg h0,if_true,Zup,h.trim.eq,Zp3]
   .simp only [Z6,if_neg h0,if_neg h1,h.eq]
theorem Zch:∀ (ks:List Tree),Normed (J2 ks)
 | []=> trivial
 | t ::r=> ⟨J9 t,Zch r⟩
end
noncomputable section
def ZtO:ArgL (List Tree × Unit):=(.cons (aSl .tree) .nil)
def Zhu(a:List Tree × Unit):Prop:=Ze a.1<=20000000000
def ZxV(a:List Tree × Unit):V U:= .c (sU .tree (Z8 a.1) .unk)
def ZbD:Fs U:=fs ZtO (fun a=> [Zhu a]) ZxV
def Zu6:ArgL (List Op × Int × Int × Unit):=(.cons (aSl .op) (.cons (Z0h .i64) (.cons (Z0h .i64) .nil)))
def ZaS(a:List Op × Int × Int × Unit):Prop:=Zg a.1<=20000000000/\0<=a.2.1/\a.2.1<=(a.1).length
def Zpp(a:List Op × Int × Int × Unit):V U:= .tup [(false,[sU .tree (Z2h a.2.2.1 ((a.1).drop (a.2.1).toNat)) .unk]),(false,[ci (a.2.1+JG ((a.1).drop (a.2.1).toNat))])]
def Z8J:Fs U:=fs Zu6 (fun a=> [ZaS a]) Zpp
def Zcp(a:Edit × Unit):Nat:=2*Z0 a.1
def Zhc(a:Edit × Unit):V U:= .agg (enc .edit (Zt a.1))
def ZbG:Fs U:=fs Zu2 (fun a=> [ZaR a]) Zhc
def ZaP(a:Op × Unit):Prop:=Zs a.1<=20000000000
def ZhU(a:Op × Unit):Nat:=2*Zs a.1+1
def Z7F(a:Op × Unit):V U:= .agg (enc .op (Yu a.1))
def Zrp:Fs U:=fs Ztx (fun a=> [ZaP a]) Z7F
def Z98:List (FuncId × Fs U):=[(41,Z1g)]
def Zib:Zj U:=lvk [([0],[]),([0,3],[]),([0,(3,[.own .tree]),4],[]),([0,3,4,8],[]),([0,(3,[.own .tree]),4],[]),([0,3,4],[]),([2],[])]
def Z9q(l:List Tree)(h:Int)(d:List Tree):LSt U:=(L2 [(0,.c (sU .tree l .unk)),(3,.c (sU .tree d (.own (.e 3 0)))),pI 4 h] [])
abbrev ZLu(l:List Tree)(Q:QT):=AW (Z3 Z98) Tryz.f180 Zib [] (L2 [(0,.c (sU .tree l .unk))] []) Q
theorem ZJi(l:List Tree)(Q:QT)(h:Zi (AW (Z3 Z98) Tryz.f180 Zib [1,1,0,1,0,0]) (Z9q l 0 []) (xB 0 (SW (Z3 Z98) Tryz.f180 Zib [1,1,1] Q))):
  ZLu l Q:=
 Eq.mpr V6 h
abbrev ZDp(l:List Tree)(h:Int)(d:List Tree)(N0:NT)(Q:QT):=AW (Z3 Z98) Tryz.f180 Zib [1,1,0,1,0,0] (Z9q l h d) (xT N0 (xB 0 (SW (Z3 Z98) Tryz.f180 Zib [1,1,1] Q)))
theorem Zwz(l:List Tree)(d:Int)(s:List Tree)(N0:NT)(Q:QT)(h:let z2:=l.getD d.toNat Tree.nil;let z0:=Tree.mk (Tree.kind z2) (Tree.words z2) (Tree.kids z2);let z1:=Tree.mk (Tree.kind (Z6 z0)) (Tree.words (Z6 z0)) (Tree.kids (Z6 z0));iB (decide (d < (l.length:Int))) (((0:Int)<=d/\d < (l.length:Int))/\(Z0W (z0,()))/\((s.length+([z1]).length)*56<=140737488355328)/\((InR (d+1))/\(N0 (Z9q l (d+1) (s++([z1])))))) (Q .ret (L2 [(2,.c (sU .tree s (.own (.e 2 0))))] []))):
  ZDp l d s N0 Q:=
 Eq.mpr V6 h
def ZEa(l:List Tree):Prop:=AW (Z3 Z98) Tryz.f180 Zib [] (Zm (ZtO.can (l,())) []) (EQ Tryz.f180 (ZxV (l,())) [])
theorem ZCb(c41:CT 41 Z1g)(hb:∀ (l:List Tree) (_:Unit),Zhu (l,())->ZEa l):CT 180 ZbD:=
 Z9 (l:=[(41,Z1g)]) Zo rfl (⟨c41,trivial⟩) Zib Tryz.func180 rfl rfl 1 (fun _=> rfl) V3 (fun ⟨l,_⟩=> hb l ())
def Z9b:List (FuncId × Fs U):=[(180,ZbD)]
def Zid:Zj U:=lvk [([0,1,2],[]),([0,1,2,8],[]),([0,2,(8,[.own .tree]),9],[]),([0,2,8,9,30],[]),([0,2,8,9,37],[]),([0,2,8,9],[]),([0,2,(8,[.own .tree]),9],[]),([6,7],[])]
def Z63(l:List Op)(from_ kind h:Int)(d:List Tree):LSt U:=(L2 [(0,.c (sU .op l .unk)),pI 2 kind,(8,.c (sU .tree d (.own (.e 8 0)))),pI 9 h] [])
abbrev ZLD(l:List Op)(from_ kind:Int)(Q:QT):=AW (Z3 Z9b) Tryz.f127 Zid [] (L2 [(0,.c (sU .op l .unk)),pI 1 from_,pI 2 kind] []) Q
theorem ZJK(l:List Op)(from_ kind:Int)(Q:QT)(h:Zi (AW (Z3 Z9b) Tryz.f127 Zid [1,1,1,0,0,0]) (Z63 l from_ kind from_ []) (xB 0 (SW (Z3 Z9b) Tryz.f127 Zid [1,1,1,1] Q))):
  ZLD l from_ kind Q:=
 Eq.mpr V6 h
abbrev ZDw(l:List Op)(from_ kind h:Int)(d:List Tree)(N0:NT)(Q:QT):=AW (Z3 Z9b) Tryz.f127 Zid [1,1,1,0,0,0] (Z63 l from_ kind h d) (xT N0 (xB 0 (SW (Z3 Z9b) Tryz.f127 Zid [1,1,1,1] Q)))
theorem ZwY(l:List Op)(from_ kind s:Int)(x8:List Tree)(N0:NT)(Q:QT)(h:∀ d,d=(l.getD s.toNat Op.nil)->let z0:=decide (s < (l.length:Int));let z1:=z0 && (!(d.kind==1));((Tt z0)/\(Tt z0)/\(z0=true->(0:Int)<=s/\s < (l.length:Int))/\(Tt z0)/\(Tt z0)/\(Tt z0)/\(Tt z0)/\(Tt z1)/\(Tt z1)/\(z1=true->(0:Int)<=s/\s < (l.length:Int))/\(Tt z1)/\(Tt z1)/\(Tt z1)/\(z0=true->(True->z0=true))/\(z0=true->((d.kind==1)=false->z1=true))/\(Tt z0)/\(iB (bif z0 then (bif (d.kind==1) then true else (d.kind==2)) else false) (((0:Int)<=s/\s < (l.length:Int))/\(iB (d.kind==kind) (((0:Int)<=s/\s < (l.length:Int))/\(Zhu (d.l,()))/\((x8.length+(Z8 d.l).length)*56<=140737488355328)/\((InR (s+1))/\(N0 (Z63 l from_ kind (s+1) (x8++(Z8 d.l)))))) ((InR (s+1))/\(N0 (Z63 l from_ kind (s+1) x8))))) ((Q .ret (L2 [(6,.c (sU .tree x8 (.own (.e 6 0)))),pI 7 s] [])))))):
  ZDw l from_ kind s x8 N0 Q:=
 Eq.mpr V6 (h _ rfl)
def ZEC(l:List Op)(from_ kind:Int):Prop:=AW (Z3 Z9b) Tryz.f127 Zid [] (Zm (Zu6.can (l,from_,kind,())) []) (EQ Tryz.f127 (Zpp (l,from_,kind,())) [])
theorem ZCx(ZHe:CT 180 ZbD)(hb:∀ (l:List Op) (d:Int) (kind:Int) (_:Unit),ZaS (l,d,kind,())->ZEC l d kind):CT 127 Z8J:=
 Z9 (l:=[(180,ZbD)]) Zo rfl (⟨ZHe,trivial⟩) Zid Tryz.func127 rfl rfl 3 (fun _=> rfl) V3 (fun ⟨l,d,kind,_⟩=> hb l d kind ())
def Z0J(N:Nat):List (FuncId × Fs U):=(131,fs Zu2 (fun a=> [ZaR a,Zcp a < N]) Zhc) ::(182,fs Ztx (fun a=> [ZaP a,ZhU a < N]) Z7F) ::[]
def Z4v:Zj U:=lvk [([1,2],[1,2]),([1,2,3],[1,2,3]),([1,2,3,20,21,22],[1,2,((.loc 3),(an 7 [.own .wedit]))]),([1,2,3,20,21,22,23],[1,2,3]),([1,2,3,5,20,21,22],[1,2,3,5]),([1,2,3,20,21,22],[1,2,3]),([1,2,3,20,21,22],[1,2,((.loc 3),(an 7 [.own .wedit]))]),([1,2,3,42,43,44],[1,2,((.loc 3),(an 8 [.own .kid]))]),([1,2,3,42,43,44,45],[1,2,3]),([1,2,3,7,42,43,44],[1,2,3,7]),([1,2,3,42,43,44],[1,2,3]),([1,2,3,42,43,44],[1,2,((.loc 3),(an 8 [.own .kid]))]),([2,3,61,62,63],[2,((.loc 3),(an 10 [.own .op]))]),([2,3,61,62,63,64],[2,3]),([2,3,9,61,62,63],[2,3,9]),([2,3,61,62,63],[2,3]),([2,3,61,62,63],[2,((.loc 3),(an 10 [.own .op]))]),([2],[2])]
def Z9D(e:Edit)(h:Int)(d:List WEdit):LSt U:=(L2 [pL 1,pL 2,pL 3,(20,.c (sU .wedit e.words .unk)),pI 21 (e.words.length:Int),pI 22 h] [(.loc 1,(enc .edit e)),(.loc 2,zc1),(.loc 3,([ci e.kind]++enc .tree e.new++enc .tree e.old++[sU .wedit d (.own (.l 3 7)),.nils,ci e.list,.nils]))])
def Z9C(e:Edit)(s:List WEdit)(h:Int)(d:List Kid):LSt U:=(L2 [pL 1,pL 2,pL 3,(42,.c (sU .kid e.kids .unk)),pI 43 (e.kids.length:Int),pI 44 h] [(.loc 1,(enc .edit e)),(.loc 2,zc1),(.loc 3,([ci e.kind]++enc .tree e.new++enc .tree e.old++[sU .wedit s (.own (.l 3 7)),sU .kid d (.own (.l 3 8)),ci e.list,.nils]))])
def Z9B(e:Edit)(aa:List WEdit)(h:List Kid)(s:Int)(d:List Op):LSt U:=(L2 [pL 2,pL 3,(61,.c (sU .op e.ops .unk)),pI 62 (e.ops.length:Int),pI 63 s] [(.loc 2,zc1),(.loc 3,([ci e.kind]++enc .tree e.new++enc .tree e.old++[sU .wedit aa (.own (.l 3 7)),sU .kid h (.own (.l 3 8)),ci e.list,sU .op d (.own (.l 3 10))]))])
abbrev ZLC(N:Nat)(e:Edit)(Q:QT):=AW (Z3 (Z0J N)) Tryz.f131 Z4v [] (L2 [(0,.agg (enc .edit e))] []) Q
theorem ZJI(N:Nat)(e:Edit)(Q:QT)(h:Zi (AW (Z3 (Z0J N)) Tryz.f131 Z4v [1,1,0,1,0,0]) (Z9D e 0 []) (xB 0 (SW (Z3 (Z0J N)) Tryz.f131 Z4v [1,1,1] Q))):
  ZLC N e Q:=
 Eq.mpr V6 h
abbrev ZDv(N:Nat)(e:Edit)(h:Int)(d:List WEdit)(N0:NT)(Q:QT):=AW (Z3 (Z0J N)) Tryz.f131 Z4v [1,1,0,1,0,0] (Z9D e h d) (xT N0 (xB 0 (SW (Z3 (Z0J N)) Tryz.f131 Z4v [1,1,1] Q)))
theorem ZwX(N:Nat)(e:Edit)(s:Int)(d:List WEdit)(N0:NT)(Q:QT)(h:let z0:=e.words.getD s.toNat (WEdit.mk 0 0 0 0);let z1:=WEdit.mk (WEdit.at_ z0) (WEdit.mask z0) (WEdit.new z0) (WEdit.old z0);iB (decide (s < (e.words.length:Int))) (((0:Int)<=s/\s < (e.words.length:Int))/\(((d.length+([z1]).length)*32<=140737488355328)/\((InR (s+1))/\(N0 (Z9D e (s+1) (d++([z1]))))))) (Zi (AW (Z3 (Z0J N)) Tryz.f131 Z4v [1,1,1,0,1,0,0]) (Z9C e d 0 []) (xB 2 (SW (Z3 (Z0J N)) Tryz.f131 Z4v [1,1,1,1] Q)))):
  ZDv N e s d N0 Q:=
 Eq.mpr V6 h
abbrev ZDu(N:Nat)(e:Edit)(s:List WEdit)(h:Int)(d:List Kid)(N1:NT)(Q:QT):=AW (Z3 (Z0J N)) Tryz.f131 Z4v [1,1,1,0,1,0,0] (Z9C e s h d) (xT N1 (xB 2 (SW (Z3 (Z0J N)) Tryz.f131 Z4v [1,1,1,1] Q)))
theorem ZwW(N:Nat)(e:Edit)(aa:List WEdit)(d:Int)(s:List Kid)(N1:NT)(Q:QT)(h:∀ ab,ab=(e.kids.getD d.toNat (KidOf.mk 0 Edit.nil))->∀ ae,ae=(ab.e)->∀ af,af=(Zt ae)->iB (decide (d < (e.kids.length:Int))) (((0:Int)<=d/\d < (e.kids.length:Int))/\((ZaR (ae,()))/\(Zcp (ae,()) < N)/\((s.length+([(KidOf.mk ab.at_ af:Kid)]).length)*208<=140737488355328)/\((InR (d+1))/\(N1 (Z9C e aa (d+1) (s++([(KidOf.mk ab.at_ af:Kid)]))))))) (Zi (AW (Z3 (Z0J N)) Tryz.f131 Z4v [1,1,1,1,0,1,0,0]) (Z9B e aa s 0 []) (xB 4 (SW (Z3 (Z0J N)) Tryz.f131 Z4v [1,1,1,1,1] Q)))):
  ZDu N e aa d s N1 Q:=
 Eq.mpr V6 (h _ rfl _ (Z5 _) _ (Z5 _))
abbrev ZDt(N:Nat)(e:Edit)(aa:List WEdit)(h:List Kid)(s:Int)(d:List Op)(N2:NT)(Q:QT):=AW (Z3 (Z0J N)) Tryz.f131 Z4v [1,1,1,1,0,1,0,0] (Z9B e aa h s d) (xT N2 (xB 4 (SW (Z3 (Z0J N)) Tryz.f131 Z4v [1,1,1,1,1] Q)))
theorem ZwV(N:Nat)(e:Edit)(ab:List WEdit)(aa:List Kid)(s:Int)(d:List Op)(N2:NT)(Q:QT)(h:∀ ah,ah=(e.ops.getD s.toNat Op.nil)->∀ ae,ae=ah->∀ af,af=(Yu ae)->iB (decide (s < (e.ops.length:Int))) (((0:Int)<=s/\s < (e.ops.length:Int))/\((ZaP (ae,()))/\(ZhU (ae,()) < N)/\((d.length+([af]).length)*240<=140737488355328)/\((InR (s+1))/\(N2 (Z9B e ab aa (s+1) (d++([af]))))))) (Q .ret (L2 [pL 2] [(.loc 2,([ci e.kind]++enc .tree e.new++enc .tree e.old++[sU .wedit ab (.own (.l 2 7)),sU .kid aa (.own (.l 2 8)),ci e.list,sU .op d (.own (.l 2 10))]))]))):
  ZDt N e ab aa s d N2 Q:=
 Eq.mpr V6 (h _ rfl _ (Jt _) _ (Jt _))
def ZEA(N:Nat)(e:Edit):Prop:=AW (Z3 (Z0J N)) Tryz.f131 Z4v [] (Zm (Zu2.can (e,())) []) (EQ Tryz.f131 (Zhc (e,())) [])
abbrev ZFD:Prop:=∀ (N:Nat) (e:Edit) (_:Unit),ZaR (e,())->Zcp (e,()) < N+1->ZEA N e
def Zz5:Zj U:=lvl [([1,2],[1,2]),([1,2,4],[1,2]),([1,2,4,5],[1,2]),([1,2],[1,2]),([1,2,4,8],[1,2]),([1,2],[1,2]),([1,2,11],[1,2]),([1,2],[1,2]),([2],[2])]
abbrev ZLt(N:Nat)(o:Op)(Q:QT):=AW (Z3 (Z0J N)) Tryz.f182 Zz5 [] (L2 [(0,.agg (enc .op o))] []) Q
theorem ZJh(N:Nat)(o:Op)(Q:QT)(h:∀ d,d=(o.e)->iB (o.kind==1) (Q .ret (L2 [pL 2] [(.loc 2,([ci 2,ci o.n,sU .tree o.l .unk]++enc .edit o.e))])) (iB (o.kind==2) (Q .ret (L2 [pL 2] [(.loc 2,([ci 1,ci o.n,sU .tree o.l .unk]++enc .edit o.e))])) (iB (o.kind==3) ((ZaR (d,()))/\(Zcp (d,()) < N)/\(Q .ret (L2 [pL 2] [(.loc 2,([ci o.kind,ci o.n,sU .tree o.l .unk]++enc .edit (Zt d)))]))) (Q .ret (L2 [pL 2] [(.loc 2,(enc .op o))]))))):
  ZLt N o Q:=
 Eq.mpr V6 (h _ (Z5 _))
def ZE9(N:Nat)(o:Op):Prop:=AW (Z3 (Z0J N)) Tryz.f182 Zz5 [] (Zm (Ztx.can (o,())) []) (EQ Tryz.f182 (Z7F (o,())) [])
abbrev ZFx:Prop:=∀ (N:Nat) (o:Op) (_:Unit),ZaP (o,())->ZhU (o,()) < N+1->ZE9 N o
theorem Zo2(ha:ZFD)(hb:ZFx):CT 131 ZbG/\CT 182 Zrp:=
 Z1z (μA:=Zcp) (μB:=ZhU) (l:=[]) Zo rfl trivial Z4v Zz5 Tryz.func131 Tryz.func182 rfl rfl rfl rfl 1 1 (fun _=> rfl) (fun _=> rfl) V3 V3 (fun N ⟨e,_⟩=> ha N e ()) (fun N ⟨o,_⟩=> hb N o ())
end
theorem ZHe:Contract Tryz.prog cfg 180 ZbD:=by
 refine ZCb c41 ?_
 intro l _ hp
 simp only [Zhu] at hp
 have hl:=ZD l
 refine ZJi _ _ ?_
 refine Z7 (ι:=Int × List Tree) (fun s=> Z9q l s.1 s.2) (fun s=> 0<=s.1/\s.1<=l.length/\s.2.length=s.1/\s.2++Z8 (l.drop s.1.toNat)=Z8 l) (fun s=> ((l.length:Int) - s.1).toNat) (0,[]) rfl ⟨by simp,by simp,by simp,by simp⟩ ?_
 rintro ⟨i,out⟩ ⟨h1,h2,h3,d⟩
 dsimp only at h1 h2 h3 d
 refine Zwz _ _ _ _ _ ?_
 (simp only [iB,vcS])
 (simp only [vE])
 refine ⟨fun h=> ?_,fun h=> ?_⟩
 .have hm:=Jb (Zh (l:=l) (i:=i.toNat) V1 Tree.nil)
  rw [ZS h1 h Tree.nil] at d
  simp only [Z8,Qm] at d
  refine ⟨⟨h1,h⟩,by simp only [Z0W];omega,by simp;omega,V5,(i+1,out++[Z6 (l.getD i.toNat Tree.nil)]),rfl,⟨V1,V1,by simp;omega,?_⟩,V1⟩
  simp only [Qc,Qj,Qo]
  exact d
 .rw [Q6 V1] at d
  simp only [Z8,QJ,Qi] at d
  rw [d]
  exact V2
theorem Zkf{kind:Int}{l:List Op}{i:Int}(h0:0<=i)(h:i < l.length):Z2h kind (l.drop i.toNat)=if (l.getD i.toNat Op.nil).kind=1\/(l.getD i.toNat Op.nil).kind=2 then (if (l.getD i.toNat Op.nil).kind=kind then Z8 (l.getD i.toNat Op.nil).l else [])++Z2h kind (l.drop (i+1).toNat) else []:=by
 rw [ZS h0 h Op.nil,Z2h]
theorem Zkh{l:List Op}{i:Int}(h0:0<=i)(h:i < l.length):JG (l.drop i.toNat)=if (l.getD i.toNat Op.nil).kind=1\/(l.getD i.toNat Op.nil).kind=2 then 1+JG (l.drop (i+1).toNat) else 0:=by
 rw [ZS h0 h Op.nil,JG]
theorem ZnU(n:Nat):∀ (l:List Op),Zg (l.drop n)<=Zg l:=by
 induction n with
 | zero=> intro l;simp
 | succ n ih=>
  intro l
  cases l with
  | nil=> simp
  | cons t r=> simp only [QC,Zg];grind
theorem ZHu:Contract Tryz.prog cfg 127 Z8J:=by
 refine ZCx ZHe ?_
 intro l d kind _ hp
 simp only [ZaS] at hp
 obtain ⟨hm,ar,ai⟩:=hp
 have hl:=ZQ l
 refine ZJK _ _ _ _ ?_
 refine Z7 (ι:=Int × List Tree) (fun s=> Z63 l d kind s.1 s.2) (fun s=> d<=s.1/\s.1<=l.length/\s.2.length+Zg (l.drop s.1.toNat)<=Zg l/\s.2++Z2h kind (l.drop s.1.toNat)=Z2h kind (l.drop d.toNat)/\s.1+JG (l.drop s.1.toNat)=d+JG (l.drop d.toNat)) (fun s=> ((l.length:Int) - s.1).toNat) (d,[]) rfl ⟨by simp,by simpa using ai,by have:=ZnU d.toNat l;simpa using this,by simp,rfl⟩ ?_
 rintro ⟨i,out⟩ ⟨h1,h2,h3,h4,h5⟩
 dsimp only at h1 h2 h3 h4 h5
 refine ZwY _ _ _ _ _ _ _ ?_
 rintro y hy
 simp only [iB,vcT,vcS,aiT,true_and]
 refine ⟨fun h=> ⟨V1,h⟩,fun h=> ⟨V1,h.1⟩,fun h=> ?_,fun h=> ?_⟩
 .obtain ⟨h,hk⟩:=h
  have ab:=ZW (Zh (l:=l) (i:=i.toNat) V1 Op.nil)
  have hd:=congrArg Zg (ZS (show 0<=i by omega) h Op.nil)
  rw [Z4V] at hd
  rw [Zkf V1 h] at h4
  rw [Zkh V1 h] at h5
  rw [<-hy] at h4 h5 ab hd
  rw [if_pos hk] at h4 h5
  rw [ZR] at ab hd
  have ao:=ZD y.l
  have aj:(Z8 y.l).length=y.l.length:=by simp [Z8]
  refine ⟨⟨V1,h⟩,fun hq=> ⟨⟨V1,h⟩,by simp only [Zhu];omega,by rw [aj];omega,V5,(i+1,out++Z8 y.l),rfl,⟨V4,V4,by simp;omega,?_,V4⟩,V4⟩,fun hq=> ⟨V5,(i+1,out),rfl,⟨V4,V4,V4,?_,V4⟩,V4⟩⟩
  .rw [if_pos hq,<-Qc] at h4;exact h4
  .rw [if_neg hq,Qo] at h4;exact h4
 .have e1:Z2h kind (l.drop i.toNat)=[]/\JG (l.drop i.toNat)=0:=by
   by_cases hc:i < l.length
   .rw [Zkf V1 hc,Zkh V1 hc,<-hy,Jv,Jv]
    exact ⟨rfl,rfl⟩
   .rw [Q6 V1]
    exact ⟨rfl,rfl⟩
  rw [e1.1,Qi] at h4
  rw [e1.2] at h5
  have e2:i=d+JG (l.drop d.toNat):=V1
  simp only [Zpp,<-h4,<-e2]
  exact V2
theorem ZqE(k:Kid):Z1y k=Yn k.e:=by cases k;rfl
theorem ZvA(o:Op):Jw o=if o.kind=3 then 1+Yn o.e else 1:=by cases o;rfl
theorem ZvB(e:Edit):Yn e=1+e.words.length+Jh e.kids+ZH e.ops:=by cases e;rfl
mutual
theorem Z3X:∀ (e:Edit),1<=Yn e/\Yn e<=Z0 e
 | .mk k o n w ks l os=> by
  have d:=Z73 ks
  have h:=Zbd os
  simp only [Yn,Z0]
  omega
theorem Z73:∀ (ks:List (KidOf Edit)),0<=Jh ks/\Jh ks<=Zw ks
 | []=> by trivial
 | k ::r=> by
  have d:=ZoG k
  have h:=Z73 r
  simp only [Jh,Zw]
  omega
theorem ZoG:∀ (k:KidOf Edit),0<=Z1y k/\Z1y k<=Yo k
 | ⟨_,e⟩=> by
  have d:=Z3X e
  simp only [Z1y,Yo]
  omega
theorem Zbd:∀ (os:List (OpOf Edit)),0<=ZH os/\ZH os<=Zg os+os.length
 | []=> by trivial
 | o ::r=> by
  have d:=ZiE o
  have h:=Zbd r
  simp only [ZH,Zg,Q8]
  omega
theorem ZiE:∀ (o:OpOf Edit),1<=Jw o/\Jw o<=Zs o+1
 | ⟨k,_,_,e⟩=> by
  have d:=Z3X e
  simp only [Jw,Zs]
  omega
end
theorem Z0l(o:Op):Yu o=if o.kind=1 then ⟨2,o.n,o.l,o.e⟩ else if o.kind=2 then ⟨1,o.n,o.l,o.e⟩ else if o.kind=3 then ⟨o.kind,o.n,o.l,Zt o.e⟩ else ⟨o.kind,o.n,o.l,o.e⟩:=by cases o;rfl
theorem Zxn(e:Edit):Zt e= .mk e.kind e.new e.old (e.words.map Jc) (Yv e.kids) e.list (YC e.ops):=by cases e;rfl
theorem Zgq(k:Kid):Jr k=⟨k.at_,Zt k.e⟩:=by cases k;rfl
theorem ZLm:ZFx:=by
 intro N o _ hp hN
 simp only [ZaP,ZhU] at hp hN
 rw [ZR] at hp hN
 have ab:=Z95 o.e
 refine ZJh _ _ _ ?_
 rintro y hy
 (simp only [iB,vcS])
 refine ⟨fun h=> ?_,fun h=> ⟨fun d=> ?_,fun d=> ⟨fun s=> ⟨by simp only [ZaR,hy];omega,by simp only [Zcp,hy];omega,?_⟩,fun s=> ?_⟩⟩⟩
 .have e:Yu o=⟨2,o.n,o.l,o.e⟩:=by rw [Z0l,if_pos h]
  simp only [Z7F,e]
  exact V2
 .have e:Yu o=⟨1,o.n,o.l,o.e⟩:=by rw [Z0l,if_neg h,if_pos d]
  simp only [Z7F,e]
  exact V2
 .have e:Yu o=⟨o.kind,o.n,o.l,Zt o.e⟩:=by rw [Z0l,if_neg h,if_neg d,if_pos s]
  simp only [Z7F,e]
  rw [hy]
  exact V2
 .have e:Yu o=⟨o.kind,o.n,o.l,o.e⟩:=by rw [Z0l,if_neg h,if_neg d,if_neg s]
  simp only [Z7F,e]
  exact V2
theorem ZLn:ZFD:=by
 intro N e _ hp hN
 simp only [ZaR,Zcp] at hp hN
 have h1:=Yq e
 have h2:=Ym e.kids
 have h3:=ZQ e.ops
 have ha:=Zxn e
 refine ZJI _ _ _ ?_
 refine Z7 (ι:=Int × List WEdit) (fun s=> Z9D e s.1 s.2) (fun s=> 0<=s.1/\s.1<=e.words.length/\s.2.length=s.1/\s.2++(e.words.drop s.1.toNat).map Jc=e.words.map Jc) (fun s=> ((e.words.length:Int) - s.1).toNat) (0,[]) rfl ⟨by simp,by simp,by simp,by simp⟩ ?_
 rintro ⟨i,ws⟩ ⟨g1,g2,g3,g4⟩
 dsimp only at g1 g2 g3 g4
 refine ZwX _ _ _ _ _ _ ?_
 (simp only [iB,vcS])
 refine ⟨fun hi=> ?_,fun hi=> ?_⟩
 .rw [ZS g1 hi (WEdit.mk 0 0 0 0)] at g4
  simp only [Qm] at g4
  refine ⟨⟨g1,hi⟩,by simp;omega,V5,(i+1,ws++[Jc (e.words.getD i.toNat (WEdit.mk 0 0 0 0))]),rfl,⟨V1,V1,by simp;omega,?_⟩,V1⟩
  grind
 .rw [Q6 V1] at g4
  simp only [QJ,Qi] at g4
  refine Z7 (ι:=Int × List Kid) (fun s=> Z9C e ws s.1 s.2) (fun s=> 0<=s.1/\s.1<=e.kids.length/\s.2.length=s.1/\s.2++Yv (e.kids.drop s.1.toNat)=Yv e.kids) (fun s=> ((e.kids.length:Int) - s.1).toNat) (0,[]) rfl ⟨by simp,by simp,by simp,by simp⟩ ?_
  rintro ⟨j,ks⟩ ⟨f1,f2,f3,d⟩
  dsimp only at f1 f2 f3 d
  refine ZwW _ _ _ _ _ _ _ ?_
  rintro y1 ao y2 ah y3 ak
  (simp only [iB,vcS])
  refine ⟨fun hj=> ?_,fun hj=> ?_⟩
  .have hm:=Ja (Zh (l:=e.kids) (i:=j.toNat) V1 (KidOf.mk 0 Edit.nil))
   rw [ZS f1 hj (KidOf.mk 0 Edit.nil)] at d
   rw [<-ao] at d hm
   simp only [Yv,Zgq] at d
   rw [<-ah] at d hm
   rw [<-ak] at d
   refine ⟨⟨f1,hj⟩,by simp only [ZaR];omega,by simp only [Zcp];omega,by simp;omega,V5,(j+1,ks++[⟨y1.at_,y3⟩]),rfl,⟨V1,V1,by simp;omega,?_⟩,V1⟩
   grind
  .rw [Q6 V1] at d
   simp only [Yv,Qi] at d
   refine Z7 (ι:=Int × List Op) (fun s=> Z9B e ws ks s.1 s.2) (fun s=> 0<=s.1/\s.1<=e.ops.length/\s.2.length=s.1/\s.2++YC (e.ops.drop s.1.toNat)=YC e.ops) (fun s=> ((e.ops.length:Int) - s.1).toNat) (0,[]) rfl ⟨by simp,by simp,by simp,by simp⟩ ?_
   rintro ⟨k,os⟩ ⟨d1,d2,d3,h⟩
   dsimp only at d1 d2 d3 h
   refine ZwV _ _ _ _ _ _ _ _ ?_
   rintro z1 aj z2 am z3 ar
   (simp only [iB,vcS])
   refine ⟨fun hj=> ?_,fun hj=> ?_⟩
   .have hm:=ZW (Zh (l:=e.ops) (i:=k.toNat) V1 Op.nil)
    rw [ZS d1 hj Op.nil] at h
    rw [<-aj,<-am] at h hm
    simp only [YC] at h
    rw [<-ar] at h
    refine ⟨⟨d1,hj⟩,by simp only [ZaP];omega,by simp only [ZhU];omega,by simp;omega,V5,(k+1,os++[z3]),rfl,⟨V1,V1,by simp;omega,?_⟩,V1⟩
    grind
   .rw [Q6 V1] at h
    simp only [YC,Qi] at h
    rw [g4,d,h]
    simp only [Zhc,ha]
    exact V2
theorem ZAh:Contract Tryz.prog cfg 131 ZbG/\Contract Tryz.prog cfg 182 Zrp:=Zo2 ZLn ZLm
theorem Zfs:∀ (l:List Op) (m n:Int),JK (JK l m) n=JK l (m+n)
 | [],m,n=> by simp [JK]
 | [o],m,n=> by
  by_cases h:o.kind=0
  .simp [JK,h,Int.add_assoc]
  .simp [JK,h]
 | o ::p ::r,m,n=> by
  have d:=Zfs (p ::r) m n
  cases hk:JK (p ::r) m with
  | nil=> cases r <;> simp [JK] at hk;grind
  | cons x y=>
   rw [hk] at d
   simp only [JK]
   rw [hk]
   simp only [JK]
   rw [d]
theorem Jq:∀ (l:List Op) (n:Int),JK l n=l++[⟨0,n,[],Edit.nil⟩]\/∃ a o,l=a++[o]/\o.kind=0/\JK l n=a++[⟨o.kind,o.n+n,o.l,o.e⟩]
 | [],n=> Or.inl rfl
 | [o],n=> by
  by_cases h:o.kind=0
  .exact Or.inr ⟨[],o,rfl,h,by simp [JK,h]⟩
  .exact Or.inl (by simp [JK,h])
 | o ::p ::r,n=> by
  rcases Jq (p ::r) n with h | ⟨a,q,h1,h2,h3⟩
  .exact Or.inl (by simp only [JK,h,Qj])
  .exact Or.inr ⟨o ::a,q,by rw [h1];rfl,h2,by simp only [JK,h3,Qj]⟩
def W0:Wst:=⟨[],[],[]⟩
theorem Zf5(l:List Tree):Z8 (Z8 l)=Z8 l:=by
 simp only [Z8,QO]
 congr 1
 funext t
 exact J9 t
theorem YS(a b:List Tree):Z8 (a++b)=Z8 a++Z8 b:=by simp [Z8]
theorem Z0w:∀ (a b:List Op),ZH (a++b)=ZH a+ZH b
 | [],b=> by simp [ZH]
 | o ::r,b=> by simp only [Qj,ZH,Z0w r b];omega
def cst(w:Wst):Int:=ZH w.out+(if w.gone.length=0 then 0 else 1)+(if w.brought.length=0 then 0 else 1)
theorem Zes(w:Wst):ZH (Zb w).out=cst w:=by
 obtain ⟨out,g,b⟩:=w
 simp only [Zb,JZ,Z0w,cst]
 by_cases hg:g.length=0 <;> by_cases hb:b.length=0 <;> simp [hg,hb,ZH,Jw] <;> omega
theorem ZqD:∀ (l:List Op) (n:Int),ZH (JK l n)<=ZH l+1:=by
 intro l n
 rcases Jq l n with e | ⟨a,o,e1,e2,e3⟩
 .rw [e,Z0w]
  simp [ZH,Jw]
 .rw [e3,e1,Z0w,Z0w]
  obtain ⟨k,m,t,e⟩:=o
  simp only at e2
  subst e2
  simp [ZH,Jw]
  omega
theorem ZoE(w:Wst)(n:Int):cst (Y2 w n)<=cst w+1:=by
 have d:=ZqD (Zb w).out n
 rw [Zes] at d
 simp only [Y2,cst,Qh,if_true] at d ⊢
 omega
theorem ZGV{list:Int}(w:Wst)(o:Op)(hi:1<=Yn o.e/\Yn (Zp o.e)<=Yn o.e):cst (Z04 list o w)<=cst w+Jw o:=by
 rw [YV]
 obtain ⟨k,n,l,e⟩:=o
 simp only at hi ⊢
 by_cases k0:k=0
 .subst k0
  rw [if_pos rfl]
  have:=ZoE w n
  trivial
 .rw [if_neg k0]
  by_cases k1:k=1
  .subst k1
   rw [if_pos rfl]
   simp only [cst,Jw]
   omega
  .rw [if_neg k1]
   by_cases k2:k=2
   .subst k2
    rw [if_pos rfl]
    simp only [cst,Jw]
    omega
   .rw [if_neg k2]
    by_cases k3:k=3
    .subst k3
     rw [if_pos rfl]
     have d:Jw (⟨3,n,l,e⟩:Op)=1+Yn e:=rfl
     rw [d]
     by_cases hd:Z8c list (Zp e)=true
     .rw [if_pos hd]
      have:=ZoE w 1
      omega
     .rw [if_neg hd]
      have h:=Zes w
      simp only [cst,Z0w,Qh,if_true] at h ⊢
      rw [h]
      have s:ZH [(⟨3,0,[],Zp e⟩:Op)]=1+Yn (Zp e):=by rw [ZH,Jw,if_pos rfl,ZH];omega
      omega
    .rw [if_neg k3]
     simp only [Jw]
     omega
theorem Z74(e:Edit):1<=Yn e:=(Z3X e).1
mutual
theorem Zbe:∀ (e:Edit),Yn (Zp e)<=Yn e
 | .mk k o n w ks l os=> by
  have h1:=ZfB ks
  have h:=ZfA l os W0
  have s:=Z73 ks
  have h4:=Zbd os
  have d:=Zes (Zv l os W0)
  rw [Zp]
  by_cases k1:k=1
  .rw [if_pos k1]
   simp only [Yn,Jh,ZH,Qh]
   omega
  .rw [if_neg k1]
   by_cases k2:k=2
   .rw [if_pos k2]
    simp only [Yn,ZH]
    omega
   .rw [if_neg k2]
    by_cases k3:k=3
    .rw [if_pos k3]
     have h6:cst W0=0:=rfl
     have h7:ZH (Zb (Zv l os ⟨[],[],[]⟩)).out=cst (Zv l os W0):=d
     simp only [Yn,Jh,Qh]
     omega
    .rw [if_neg k3]
     simp only [Yn,Jh,ZH,Qh]
     omega
theorem ZfB:∀ (ks:List (KidOf Edit)),Jh (YR ks)<=Jh ks
 | []=> by simp [YR]
 | k ::r=> by
  have d:=Zme k
  have h:=ZfB r
  simp only [YR,Jh]
  omega
theorem Zme:∀ (k:KidOf Edit),Z1y (Z0X k)<=Z1y k
 | ⟨a,e⟩=> by
  have h:=Zbe e
  trivial
theorem ZfA(list:Int):∀ (os:List (OpOf Edit)) (w:Wst),cst (Zv list os w)<=cst w+ZH os
 | [],w=> by simp [Zv,ZH]
 | o ::r,w=> by
  have d:=ZoF list o w
  have h:=ZfA list r (Z04 list o w)
  simp only [Zv,ZH]
  omega
theorem ZoF(list:Int):∀ (o:OpOf Edit) (w:Wst),cst (Z04 list o w)<=cst w+Jw o
 | ⟨k,n,l,e⟩,w=> ZGV w ⟨k,n,l,e⟩ ⟨Z74 e,Zbe e⟩
end
end Go.AM.YtpjenobkibfpcaaGreat
namespace Go.AM
theorem Zcj{t:Tree}(h:Z0r t=true):t=Tree.nil:=by
 obtain ⟨k,w,ks⟩:=t
 simp only [Z0r,decide_eq_true_eq] at h
 obtain ⟨d,s,h3⟩:=h
 have d:k=0:=d
 rw [d,Q3 (l:=w) s,Q3 (l:=ks) h3]
 try rfl
theorem Zn4{e:Edit}(h:Z36 e=true):e=Edit.nil:=by
 obtain ⟨k,o,n,w,ks,l,os⟩:=e
 simp only [Z36,Q2,decide_eq_true_eq] at h
 obtain ⟨⟨⟨s,h2⟩,h3⟩,h4,h5,h6,d⟩:=h
 have s:k=0:=s
 have d:l=0:=d
 rw [s,d,Zcj (t:=o) h2,Zcj (t:=n) h3,Q3 (l:=w) h4,Q3 (l:=ks) h5,Q3 (l:=os) h6]
 try rfl
structure RightE (e:Edit) (d:Int):Prop where
 d0:d≠0
 kind:0<=e.kind/\e.kind<=3
 none:e.kind≠1->e.old=Tree.nil/\e.new=Tree.nil
 words0:e.kind≠2->e.words=[]/\e.kids=[]
 ops0:e.kind≠3->e.list=0/\e.ops=[]
 rep:e.kind=1->Zr e.old (dT d)=true/\Zr e.new (dT d)=true/\e.old.kind≠10/\e.new.kind≠10
 words:ZM (-1) e.words=true
 kids:ZC (-1) e.kids (d - 1)=true
 list:e.kind=3->2<=e.list/\e.list<=9
 ops:ZA e.list e.ops (d - 1)=true
 len:Jp e.ops 0 < 1048576/\Z11 e.ops 0 < 1048576
theorem Zd{e:Edit}{d:Int}(h:Z1 e d=true):RightE e d:=by
 obtain ⟨k,o,n,w,ks,l,os⟩:=e
 rw [Z1] at h
 split at h
 .cases h
 .rename_i a
  split at h
  .cases h
  .rename_i b
   have b1:k≠1->o=Tree.nil/\n=Tree.nil:=by
    intro s
    by_cases x:Z0r o=true/\Z0r n=true
    .exact ⟨Zcj x.1,Zcj x.2⟩
    .grind
   have b2:k≠2->w=[]/\ks=[]:=by
    intro s
    by_cases x:w.length=0/\ks.length=0
    .exact ⟨Q3 x.1,Q3 x.2⟩
    .exact absurd (.inr (.inl ⟨s,x⟩)) b
   have b3:k≠3->l=0/\os=[]:=by
    intro s
    by_cases x:l≠0\/os.length≠0
    .exact absurd (.inr (.inr ⟨s,x⟩)) b
    .exact ⟨V1,Q3 V1⟩
   split at h
   .rename_i c
    simp only [Q2,decide_eq_true_eq] at h
    obtain ⟨⟨h1,h2⟩,h3,h4⟩:=h
    have c2:=b2 V1
    have c3:=b3 V1
    obtain ⟨rfl,rfl⟩:=c2
    obtain ⟨rfl,rfl⟩:=c3
    exact ⟨V1,⟨by simp_all,by simp_all⟩,b1,b2,b3,fun _=> ⟨h1,h2,h3,h4⟩,rfl,rfl,fun e=> by simp_all,rfl,by show Jp [] 0 < _/\Z11 [] 0 < _;trivial⟩
   .rename_i c
    simp only [Q2,decide_eq_true_eq] at h
    obtain ⟨⟨⟨⟨h1,h2⟩,h3⟩,h4⟩,h5⟩:=h
    exact ⟨V1,⟨by simp_all,by simp_all⟩,b1,b2,b3,fun e=> absurd e c,h1,h2,fun e=> by simp_all,h4,h5⟩
theorem Zk:∀ {ks:List Kid} {last d:Int},ZC last ks d=true->∀ k∈ks,(last < k.at_/\k.at_<=65534/\k.e.kind≠0)/\Z1 k.e d=true
 | [],_,_,_,_,hk=> by cases hk
 | ⟨a,e⟩ ::r,last,d,h,k,hk=> by
  simp only [ZC,JA,Q2,decide_eq_true_eq] at h
  obtain ⟨⟨h1,h2⟩,s⟩:=h
  rcases Qa.1 hk with rfl | hk
  .grind
  .have:=Zk s k hk
   grind
theorem rightOs_mem{list:Int}:∀ {os:List Op} {d:Int},ZA list os d=true->∀ o∈os,Za list o d=true
 | [],_,_,_,ho=> by cases ho
 | a ::r,d,h,o,ho=> by
  simp only [ZA,Q2] at h
  rcases Qa.1 ho with rfl | ho
  .exact h.1
  .exact rightOs_mem h.2 o ho
theorem Yj:∀ {ws:List WEdit} {last:Int},ZM last ws=true->∀ w∈ws,last < w.at_/\w.at_<=65534/\w.mask≠0/\Ya w.old w.mask=true/\Ya w.new w.mask=true
 | [],_,_,_,hw=> by cases hw
 | a ::r,last,h,w,hw=> by
  simp only [ZM,Q2,decide_eq_true_eq] at h
  obtain ⟨⟨⟨s,h2⟩,h3⟩,d⟩:=h
  rcases Qa.1 hw with rfl | hw
  .grind
  .have:=Yj d w hw
   grind
inductive RightOp (list:Int) (d:Int):Op->Prop
 | keep (n:Int):1<=n->n<=1048576->RightOp list d ⟨0,n,[],Edit.nil⟩
 | gone (l:List Tree):J7 (dT d) list l=true->0 < l.length->RightOp list d ⟨1,0,l,Edit.nil⟩
 | come (l:List Tree):J7 (dT d) list l=true->0 < l.length->RightOp list d ⟨2,0,l,Edit.nil⟩
 | into (e:Edit):Z1 e d=true->e.kind≠0->7 < list->(list=8\/e.kind=2\/e.kind=1/\e.old.kind=1/\e.new.kind=1)->RightOp list d ⟨3,0,[],e⟩
theorem Zu{list:Int}{o:Op}{d:Int}(h:Za list o d=true):RightOp list d o:=by
 obtain ⟨k,n,l,e⟩:=o
 rw [Za] at h
 split at h
 .rename_i hk
  simp only [Q2,decide_eq_true_eq] at h
  obtain ⟨⟨h1,h2,s⟩,h4⟩:=h
  rw [hk,Zn4 h4,Q3 s]
  exact .keep n h1 h2
 .rename_i h0
  split at h
  .cases h
  .rename_i h1
   have hn:n=0:=V1
   subst hn
   split at h
   .rename_i h2
    simp only [Q2,decide_eq_true_eq] at h
    obtain ⟨⟨s,h4⟩,h5⟩:=h
    rw [Zn4 h5]
    by_cases hk:k=1
    .rw [hk];exact .gone l s h4
    .rw [show k=2 by omega];exact .come l s h4
   .rename_i h2
    simp only [Q2,decide_eq_true_eq] at h
    obtain ⟨⟨⟨s,h4,h5⟩,h6⟩,h7⟩:=h
    rw [show k=3 by omega,Q3 s]
    exact .into e h6 h4 h5 h7
theorem Zpg{e:Edit}{d:Int}(h:Z1 e d=true):(∀ k∈e.kids,∃ d,Z1 k.e d=true)/\(∀ o∈e.ops,∃ l d,Za l o d=true)/\(e.kind=3->2<=e.list/\e.list<=9):=by
 have r:=Zd h
 exact ⟨fun k s=> ⟨_,(Zk r.kids k s).2⟩,fun o ho=> ⟨_,_,rightOs_mem r.ops o ho⟩,r.list⟩
theorem Ye{l d:Int}{o:Op}(h:Za l o d=true)(hk:o.kind=3):Z1 o.e d=true:=by
 have r:=Zu h
 cases r with
 | into e h1=> exact h1
 | keep | gone | come=> grind
end Go.AM
namespace Go.AM.YtpjenobkibfpcaaGreat
open Go.AM Go.Proofs
theorem Z1q{α:Type}(z:α)(l:List α)(i:Nat)(x:α):(ZP z l i x).length=max l.length (i+1):=by
 simp only [ZP,List.length_set,Q7,Xq];omega
theorem Yw{α:Type}(z:α)(l:List α)(i:Nat)(x:α)(j:Nat):(ZP z l i x).getD j z=if j=i then x else l.getD j z:=by
 simp only [ZP,Qp,K0,Q7,Xq]
 grind
theorem Zp7{α β:Type}(f:α->β)(z:α)(l:List α)(i:Nat)(x:α):(ZP z l i x).map f=ZP (f z) (l.map f) i (f x):=by
 simp [ZP,List.map_set]
theorem Z5L:∀ l:List Tree,J2 l=Z8 l
 | []=> rfl
 | t ::r=> by simp [J2,Z8,Z5L r]
theorem ZhP(l:List Tree)(i:Nat)(x:Tree):Z8 (ZP Tree.nil l i x)=ZP Tree.nil (Z8 l) i (Z6 x):=by
 rw [Z8,Zp7,ZjU];try rfl
theorem Ze3{a b:List Tree}{i:Nat}{x y:Tree}(h:Z8 a=Z8 b)(hx:Z6 x=Z6 y):Z8 (ZP Tree.nil a i x)=Z8 (ZP Tree.nil b i y):=by
 rw [ZhP,ZhP,h,hx]
theorem JN{a b c d:List Tree}(h:Z8 a=Z8 b)(hx:Z8 c=Z8 d):Z8 (a++c)=Z8 (b++d):=by
 rw [YS,YS,h,hx]
theorem Z2e(k:Int)(w:List Int){a b:List Tree}(h:Z8 a=Z8 b):Z6 (.mk k w a)=Z6 (.mk k w b):=by
 simp only [Z6,Z5L,h]
theorem Z3J{a b:List Tree}(h:Z8 a=Z8 b):a.length=b.length:=by
 have:=congrArg List.length h
 simpa [Z8] using this
theorem Z01{a b:Tree}:Z8 [a]=Z8 [b]↔Z6 a=Z6 b:=by simp [Z8]
def OptR{α β:Type}(R:α->β->Prop):Option α->Option β->Prop
 | none,none=> True
 | some a,some b=> R a b
 | _,_=> False
theorem OptR.rfl'{α:Type}(a:Option α):OptR Eq a a:=by cases a;exact trivial;exact rfl
theorem OptR.bind{α β γ δ:Type}{R:α->β->Prop}{S:γ->δ->Prop}{a:Option α}{b:Option β}{f:α->Option γ}{g:β->Option δ}(h:OptR R a b)(hf:∀ x y,R x y->OptR S (f x) (g y)):OptR S (a.bind f) (b.bind g):=by
 cases a <;> cases b <;> first | exact trivial | exact h.elim | exact hf _ _ h
theorem OptR.map{α β γ δ:Type}{R:α->β->Prop}{S:γ->δ->Prop}{a:Option α}{b:Option β}{f:α->γ}{g:β->δ}(h:OptR R a b)(hf:∀ x y,R x y->S (f x) (g y)):OptR S (a.map f) (b.map g):=by
 cases a <;> cases b <;> first | exact trivial | exact h.elim | exact hf _ _ h
theorem OptR.ite{α β:Type}{R:α->β->Prop}{p q:Prop} [Decidable p] [Decidable q] {a c:Option α}{b d:Option β}(h:p↔q)(h1:p->OptR R a b)(h2:¬p->OptR R c d):OptR R (if p then a else c) (if q then b else d):=by
 grind
theorem OptR.mono{α β:Type}{R S:α->β->Prop}{a:Option α}{b:Option β}(h:OptR R a b)(hf:∀ x y,R x y->S x y):OptR S a b:=by
 cases a <;> cases b <;> first | exact trivial | exact h.elim | exact hf _ _ h
theorem OptR.isSome{α β:Type}{R:α->β->Prop}{a:Option α}{b:Option β}(h:OptR R a b):a.isSome=b.isSome:=by
 cases a <;> cases b <;> first | rfl | exact h.elim
theorem OptR.normed{a b:Option Tree}(h:OptR (fun x y=> Z6 x=Z6 y) a b):a.map Z6=b.map Z6:=by
 cases a <;> cases b <;> first | rfl | exact h.elim | exact congrArg some h
def Eqv(x y:Tree):Prop:=Z6 x=Z6 y
def EqvL(x y:List Tree):Prop:=Z8 x=Z8 y
theorem EqvL.take{x y:List Tree}(h:EqvL x y)(n:Nat):EqvL (x.take n) (y.take n):=by unfold EqvL Z8 at*;simp_all
theorem EqvL.drop{x y:List Tree}(h:EqvL x y)(n:Nat):EqvL (x.drop n) (y.drop n):=by unfold EqvL Z8 at*;simp_all
theorem EqvL.len{x y:List Tree}(h:EqvL x y):x.length=y.length:=Z3J h
theorem ZhO(l:List Tree)(i:Nat):(Z8 l).getD i Tree.nil=Z6 (l.getD i Tree.nil):=by rw [<-Z5L];exact Z1I l i
theorem EqvL.get{x y:List Tree}(h:EqvL x y)(i:Nat):Eqv (x.getD i Tree.nil) (y.getD i Tree.nil):=by
 unfold Eqv;rw [<-ZhO,<-ZhO,h]
theorem Ziu{a b:Option (List Tree × List Tree)}(h:OptR (fun x y=> EqvL x.1 y.1/\EqvL x.2 y.2) a b):OptR EqvL (Z0H a) (Z0H b):=by
 unfold Z0H
 refine h.bind fun x y d=> ?_
 exact OptR.ite (by rw [d.2.len]) (fun _=> d.1) (fun _=> trivial)
mutual
theorem ZqA:∀ (e:Edit) (t:Tree),OptR Eqv (doE true e t) (doE false e t)
 | .mk k o n w ks l os,t=> by
  have s:=Ztq ks t.kids t.kids t.kids rfl
  have d:=Ztp os t.kids [] [] rfl
  rw [Z13,Z13,J0]
  show OptR Eqv (Option.map (nrD true) _) _
  suffices h:∀ a b,OptR Eqv a b->OptR Eqv (Option.map (nrD true) a) b by
   refine h _ _ ?_
   refine OptR.ite QA (fun _=> rfl) fun _=> OptR.ite QA (fun _=> OptR.ite QA (fun _=> rfl) (fun _=> trivial)) fun _=> OptR.ite QA (fun _=> ?_) fun _=> OptR.ite QA (fun _=> ?_) (fun _=> trivial)
   .refine OptR.ite QA (fun _=> ?_) (fun _=> trivial)
    refine OptR.bind (R:=Eq) (OptR.rfl' _) ?_
    rintro a _ rfl
    exact s.map fun x y h=> Z2e _ _ h
   .refine OptR.ite QA (fun _=> ?_) (fun _=> trivial)
    exact (Ziu (d.mono fun x y h=> ⟨h.1,by rw [h.2];rfl⟩)).map fun x y h=> Z2e _ _ h
  intro a b h
  cases a <;> cases b <;> first | exact trivial | exact h.elim | skip
  unfold Eqv nrD at*
  simp only [Qf,if_true]
  show Z6 (Z6 _)=_
  rw [J9]
  exact h
theorem Ztq:∀ (ks:List (KidOf Edit)) (tk a b:List Tree),EqvL a b->OptR EqvL (JC true tk ks a) (JC false tk ks b)
 | [],_,_,_,h=> h
 | k ::r,tk,a,b,h=> by
  rw [JC,JC]
  refine (ZA6 k tk).bind fun x y d=> Ztq r tk _ _ (Ze3 h d)
theorem ZA6:∀ (k:KidOf Edit) (tk:List Tree),OptR Eqv (Z0L true tk k) (Z0L false tk k)
 | ⟨_,e⟩,tk=> by rw [Z0L,Z0L];exact ZqA e _
theorem Ztp:∀ (os:List (OpOf Edit)) (rest a b:List Tree),EqvL a b->OptR (fun x y=> EqvL x.1 y.1/\x.2=y.2) (ZE true os rest a) (ZE false os rest b)
 | [],rest,a,b,h=> ⟨h,rfl⟩
 | o ::r,rest,a,b,h=> by
  rw [ZE,ZE]
  refine (ZD4 o rest a b h).bind fun x y d=> ?_
  rw [d.2]
  exact Ztp r _ _ _ d.1
theorem ZD4:∀ (o:OpOf Edit) (rest a b:List Tree),EqvL a b->OptR (fun x y=> EqvL x.1 y.1/\x.2=y.2) (Z2j true o rest a) (Z2j false o rest b)
 | ⟨k,n,l,e⟩,rest,a,b,h=> by
  have s:=ZqA e (rest.getD 0 Tree.nil)
  rw [Z2j,Z2j]
  refine OptR.ite QA (fun _=> OptR.ite QA (fun _=> ⟨JN h rfl,rfl⟩) (fun _=> trivial)) fun _=> OptR.ite QA (fun _=> OptR.ite QA (fun _=> ⟨h,rfl⟩) (fun _=> trivial)) fun _=> OptR.ite QA (fun _=> ⟨JN h rfl,rfl⟩) fun _=> OptR.ite QA (fun _=> trivial) fun _=> ?_
  exact s.map fun x y d=> ⟨JN h (Z01.2 d),rfl⟩
end
theorem Z67(e:Edit)(t:Tree):(doE true e t)=(doE false e t).map Z6:=by
 have h:=ZqA e t
 have d:(doE true e t).map Z6=doE true e t:=by
  rw [Z13]
  generalize ite (e.kind=0) _ _=x
  cases x with
  | none=> rfl
  | some u=> simp [nrD,J9]
 rw [<-d]
 exact h.normed
def Zw0(a b:List Int):Prop:=∀ i:Nat,a.getD i 0=b.getD i 0
def ZqY(a b:List Tree):Prop:=∀ i:Nat,Eqv (a.getD i Tree.nil) (b.getD i Tree.nil)
theorem Z4x{a b:Tree}(ha:a.kind=1)(hb:b.kind=1):Eqv a b↔Zw0 a.words b.words/\ZqY a.kids b.kids:=by
 unfold Eqv Zw0 ZqY
 rw [JE,ha,hb]
 simp [Eqv]
theorem Zos{a b:Tree}(h0:a.kind≠0)(h1:a.kind≠1):Eqv a b↔a.kind=b.kind/\a.words=b.words/\EqvL a.kids b.kids:=by
 unfold Eqv EqvL
 rw [JE,if_neg h1,<-Z5L,<-Z5L,Zci]
 grind
theorem Eqv.kind{a b:Tree}(h:Eqv a b):a.kind=b.kind:=((JE a b).1 h).1
theorem Zr2{tw tv:List Int}(h:Zw0 tw tv):∀ (ws:List WEdit) (a b:List Int),Zw0 a b->OptR Zw0 (wsD tw ws a) (wsD tv ws b)
 | [],_,_,hab=> hab
 | w ::r,a,b,hab=> by
  rw [wsD,wsD,h w.at_.toNat]
  refine OptR.ite QA (fun _=> Zr2 h r _ _ fun i=> ?_) (fun _=> trivial)
  rw [Yw,Yw]
  split
  .try rfl
  .exact hab i
theorem Zvn(l:List Tree){a b:List Tree}(h:EqvL a b):JR l a=JR l b:=by
 unfold JR
 rw [h.len,show Z8 (a.take l.length)=Z8 (b.take l.length) from h.take _]
mutual
theorem Zda:∀ (e:Edit) (d:Int) (t s:Tree),Z1 e d=true->Eqv t s->OptR Eqv (doE false e t) (doE false e s)
 | .mk k o n w ks l os,d,t,s,hr,h=> by
  have h1:=Zox ks t.kids s.kids
  have h2:=Ziy os t.kids s.kids [] []
  have hk:=h.kind
  have ab:=Zpg hr
  rw [Z13,Z13,J0,J0]
  show OptR Eqv (if k=0 then _ else _) (if k=0 then _ else _)
  refine OptR.ite QA (fun _=> h) fun _=> OptR.ite QA (fun _=> ?_) fun _=> OptR.ite QA (fun k2=> ?_) fun _=> OptR.ite QA (fun k3=> ?_) (fun _=> trivial)
  .rw [show Z6 t=Z6 s from h]
   exact OptR.ite QA (fun _=> rfl) (fun _=> trivial)
  .refine OptR.ite (by rw [hk]) (fun ht=> ?_) (fun _=> trivial)
   have hs:s.kind=1:=by rw [<-hk];exact ht
   obtain ⟨hw,aa⟩:=(Z4x ht hs).1 h
   refine (Zr2 hw w t.words s.words hw).bind fun a b aj=> ?_
   refine (h1 aa ab.1 t.kids s.kids aa).map fun x y ae=> ?_
   exact (Z4x rfl rfl).2 ⟨aj,ae⟩
  .refine OptR.ite (by rw [hk]) (fun ht=> ?_) (fun _=> trivial)
   have hl:=ab.2.2
   have ah:=ab.2.1
   replace ht:t.kind=l:=ht
   replace hl:2<=l/\l<=9:=hl k3
   obtain ⟨_,_,aa⟩:=(Zos V1 V1).1 h
   exact (Ziu (h2 aa rfl ah)).map fun x y ae=> Z2e _ _ ae
theorem Zox:∀ (ks:List (KidOf Edit)) (tk sk:List Tree),ZqY tk sk->(∀ k∈ks,∃ d,Z1 k.e d=true)->∀ a b,ZqY a b->OptR ZqY (JC false tk ks a) (JC false sk ks b)
 | [],_,_,_,_,_,_,hab=> hab
 | k ::r,tk,sk,h,hr,a,b,hab=> by
  rw [JC,JC]
  obtain ⟨d,hd⟩:=hr k Q1
  refine (Zvv k d tk sk h hd).bind fun x y s=> Zox r tk sk h (fun q hq=> hr q (Q0 _ hq)) _ _ fun i=> ?_
  rw [Yw,Yw]
  split
  .exact s
  .exact hab i
theorem Zvv:∀ (k:KidOf Edit) (d:Int) (tk sk:List Tree),ZqY tk sk->Z1 k.e d=true->OptR Eqv (Z0L false tk k) (Z0L false sk k)
 | ⟨a,e⟩,d,tk,sk,h,hr=> by rw [Z0L,Z0L];exact Zda e d _ _ hr (h _)
theorem Ziy:∀ (os:List (OpOf Edit)) (rt rs a b:List Tree),EqvL rt rs->EqvL a b->(∀ o∈os,∃ l d,Za l o d=true)->OptR (fun x y=> EqvL x.1 y.1/\EqvL x.2 y.2) (ZE false os rt a) (ZE false os rs b)
 | [],_,_,_,_,h,hab,_=> ⟨hab,h⟩
 | o ::r,rt,rs,a,b,h,hab,hr=> by
  rw [ZE,ZE]
  refine (ZA5 o rt rs a b h hab (hr o Q1)).bind fun x y s=> Ziy r _ _ _ _ s.2 s.1 (fun q hq=> hr q (Q0 _ hq))
theorem ZA5:∀ (o:OpOf Edit) (rt rs a b:List Tree),EqvL rt rs->EqvL a b->(∃ l d,Za l o d=true)->OptR (fun x y=> EqvL x.1 y.1/\EqvL x.2 y.2) (Z2j false o rt a) (Z2j false o rs b)
 | ⟨k,n,l,e⟩,rt,rs,a,b,h,hab,hr=> by
  obtain ⟨li,d,hr⟩:=hr
  have he:=fun h3=> Zda e d (rt.getD 0 Tree.nil) (rs.getD 0 Tree.nil) (Ye hr h3) (h.get 0)
  have s:=h.len
  rw [Z2j,Z2j]
  refine OptR.ite QA (fun _=> OptR.ite (by rw [s]) (fun _=> ⟨JN hab (h.take _),h.drop _⟩) (fun _=> trivial)) fun k0=> OptR.ite QA (fun _=> ?_) fun k1=> OptR.ite QA (fun _=> ⟨JN hab rfl,h⟩) fun k2=> OptR.ite (by rw [s]) (fun _=> trivial) fun _=> ?_
  .rw [Zvn l h]
   exact OptR.ite QA (fun _=> ⟨hab,h.drop _⟩) (fun _=> trivial)
  .have ah:k=0\/k=1\/k=2\/k=3:=by
    have r:=Zu hr
    generalize ho:OpOf.mk k n l e=o at r
    cases r <;> (injection ho with h1;subst h1;decide)
   exact (he (by grind)).map fun x y h'=> ⟨JN hab (Z01.2 h'),h.drop _⟩
end
theorem Zv9(l:List WEdit):(l.map Jc).map Jc=l:=by
 rw [QO]
 have:Jc ∘ Jc=id:=rfl
 simp_all
theorem Zgp:∀ (ks:List Kid),(Yv ks).length=ks.length
 | []=> rfl
 | k ::r=> by simp only [Yv,Q8,Zgp r]
noncomputable section
def ZxO(a:Edit × Unit):V U:= .c (ci (Yn a.1))
def ZgP:Fs U:=fs Zu2 (fun a=> [ZaR a]) ZxO
def Zld(a:Edit × Unit):V U:= .agg (enc .edit (Z2y a.1))
def ZbC:Fs U:=fs Zu2 (fun a=> [ZaR a]) Zld
def Z5k(N:Nat):List (FuncId × Fs U):=(22,fs Zu2 (fun a=> [ZaR a,ZnQ a < N]) ZxO) ::[]
def Zi9:Zj U:=lvl [([1],[1]),([1,3],[1]),([1,3,4],[1]),([1,3,4,18],[1]),([1,3,4],[1]),([1,3,4],[1]),([1,3,5],[1]),([1,3,5,34],[1]),([1,3,5],[1]),([1,3,5,43],[1]),([1,3,5],[1]),([2],[])]
def ZcZ(e:Edit)(d h:Int):LSt U:=(L2 [pL 1,pI 3 d,pI 4 h] [(.loc 1,(enc .edit e))])
def Z8g(e:Edit)(d h:Int):LSt U:=(L2 [pL 1,pI 3 d,pI 5 h] [(.loc 1,(enc .edit e))])
abbrev W22(N:Nat)(e:Edit)(Q:QT):=AW (Z3 (Z5k N)) Tryz.f22 Zi9 [] (L2 [(0,.agg (enc .edit e))] []) Q
theorem ZL8(N:Nat)(e:Edit)(Q:QT)(h:(InR ((1:Int)+(e.words.length:Int)))/\(InR ((((1:Int)+(e.words.length:Int)):Int)+(e.ops.length:Int)))/\(Zi (AW (Z3 (Z5k N)) Tryz.f22 Zi9 [1,1,0,1,0,0]) (ZcZ e ((((1:Int)+(e.words.length:Int)):Int)+(e.ops.length:Int)) 0) (xB 0 (SW (Z3 (Z5k N)) Tryz.f22 Zi9 [1,1,1] Q)))):
  W22 N e Q:=
 Eq.mpr V6 h
abbrev ZHW(N:Nat)(e:Edit)(d h:Int)(N0:NT)(Q:QT):=AW (Z3 (Z5k N)) Tryz.f22 Zi9 [1,1,0,1,0,0] (ZcZ e d h) (xT N0 (xB 0 (SW (Z3 (Z5k N)) Tryz.f22 Zi9 [1,1,1] Q)))
theorem ZBt(N:Nat)(e:Edit)(x3 s:Int)(N0:NT)(Q:QT)(h:∀ aa,aa=(e.kids.getD s.toNat (KidOf.mk 0 Edit.nil))->∀ d,d=(aa.e)->iB (decide (s < (e.kids.length:Int))) (((0:Int)<=s/\s < (e.kids.length:Int))/\(ZaR (d,()))/\(ZnQ (d,()) < N)/\(InR (x3+(Yn d)))/\((InR (s+1))/\(N0 (ZcZ e (x3+(Yn d)) (s+1))))) (Zi (AW (Z3 (Z5k N)) Tryz.f22 Zi9 [1,1,1,0,1,0,0]) (Z8g e x3 0) (xB 2 (SW (Z3 (Z5k N)) Tryz.f22 Zi9 [1,1,1,1] Q)))):
  ZHW N e x3 s N0 Q:=
 Eq.mpr V6 (h _ rfl _ (Z5 _))
abbrev ZHV(N:Nat)(e:Edit)(d h:Int)(N1:NT)(Q:QT):=AW (Z3 (Z5k N)) Tryz.f22 Zi9 [1,1,1,0,1,0,0] (Z8g e d h) (xT N1 (xB 2 (SW (Z3 (Z5k N)) Tryz.f22 Zi9 [1,1,1,1] Q)))
theorem ZBs(N:Nat)(e:Edit)(s d:Int)(N1:NT)(Q:QT)(h:∀ ab,ab=(e.ops.getD d.toNat Op.nil)->∀ aa,aa=(ab.e)->iB (decide (d < (e.ops.length:Int))) (((0:Int)<=d/\d < (e.ops.length:Int))/\(iB (ab.kind==3) (((0:Int)<=d/\d < (e.ops.length:Int))/\(ZaR (aa,()))/\(ZnQ (aa,()) < N)/\(InR (s+(Yn aa)))/\((InR (d+1))/\(N1 (Z8g e (s+(Yn aa)) (d+1))))) ((InR (d+1))/\(N1 (Z8g e s (d+1)))))) (Q .ret (L2 [pI 2 s] []))):
  ZHV N e s d N1 Q:=
 Eq.mpr V6 (h _ rfl _ (Z5 _))
def ZIr(N:Nat)(e:Edit):Prop:=AW (Z3 (Z5k N)) Tryz.f22 Zi9 [] (Zm (Zu2.can (e,())) []) (EQ Tryz.f22 (ZxO (e,())) [])
theorem ZGv(hb:∀ (N:Nat) (e:Edit) (_:Unit),ZaR (e,())->ZnQ (e,()) < N+1->ZIr N e):CT 22 ZgP:=
 YX (μ:=ZnQ) (l:=[]) Zo rfl trivial Zi9 Tryz.func22 rfl rfl 1 (fun _=> rfl) V3 (fun N ⟨e,_⟩=> hb N e ())
def JT(N:Nat):List (FuncId × Fs U):=(183,fs Zu2 (fun a=> [ZaR a,ZnQ a < N]) Zld) ::[]
def Z1d:Zj U:=lvk [([1,2],[1,2]),([1,2,3],[1,2,3]),([1,2,3],[1,2,3]),([1,2,3],[1,2,3]),([1,2,3,4],[1,2,((.loc 3),(an 7 [.own .wedit]))]),([1,2,3,4,25],[1,2,3]),([1,2,3,4],[1,2,((.loc 3),(an 7 [.own .wedit]))]),([1,2,3,4,5],[1,2,3,5]),([1,2,3,4,5,6],[1,2,3,5]),([1,2,3,4,5,6],[1,2,3,5]),([1,2,3,4,5],[1,2,3,5]),([1,2,3,4],[1,2,3]),([1,2,3,7],[1,2,((.loc 3),(an 8 [.own .kid]))]),([1,2,3,7,50],[1,2,3]),([1,2,3,7],[1,2,((.loc 3),(an 8 [.own .kid]))]),([1,2,3,7],[1,2,3]),([1,2,3,8],[1,2,((.loc 3),(an 10 [.own .op]))]),([1,2,3,8,76],[1,2,3]),([1,2,3,8],[1,2,((.loc 3),(an 10 [.own .op]))]),([1,2,3,8,9],[1,2,3,9]),([1,2,3,8,9,91],[1,2,3,9]),([1,2,3,8,9,91],[1,2,3,9]),([1,2,3,8,9],[1,2,3,9]),([1,2,3,8],[1,2,3]),([2],[2])]
def Z9p(e:Edit)(h:Int)(d:List WEdit):LSt U:=(L2 [pL 1,pL 2,pL 3,pI 4 h] [(.loc 1,(enc .edit e)),(.loc 2,zc1),(.loc 3,([ci e.kind]++enc .tree e.new++enc .tree e.old++[sU .wedit d (.own (.l 3 7)),.nils,ci e.list,.nils]))])
def Z9o(e:Edit)(h:List WEdit)(s:Int)(d:List Kid):LSt U:=(L2 [pL 1,pL 2,pL 3,pI 7 s] [(.loc 1,(enc .edit e)),(.loc 2,zc1),(.loc 3,([ci e.kind]++enc .tree e.new++enc .tree e.old++[sU .wedit h (.own (.l 3 7)),sU .kid d (.own (.l 3 8)),ci e.list,.nils]))])
def Z3T(e:Edit)(s:List WEdit)(h:List Kid)(aa:Int)(d:List Op):LSt U:=(L2 [pL 1,pL 2,pL 3,pI 8 aa] [(.loc 1,(enc .edit e)),(.loc 2,zc1),(.loc 3,([ci e.kind]++enc .tree e.new++enc .tree e.old++[sU .wedit s (.own (.l 3 7)),sU .kid h (.own (.l 3 8)),ci e.list,sU .op d (.own (.l 3 10))]))])
def Zek(e:Edit)(ab:List WEdit)(s:List Kid)(d:Int)(h:List Op)(aa:Int):LSt U:=(L2 [pL 1,pL 2,pL 3,pI 8 d,pL 9,(91,.c (.bool (bif (((OpOf.kind (e.ops.getD d.toNat Op.nil)):Int)==1) then true else (((OpOf.kind (e.ops.getD d.toNat Op.nil)):Int)==2))))] [(.loc 1,(enc .edit e)),(.loc 2,zc1),(.loc 3,([ci e.kind]++enc .tree e.new++enc .tree e.old++[sU .wedit ab (.own (.l 3 7)),sU .kid s (.own (.l 3 8)),ci e.list,sU .op h (.own (.l 3 10))])),(.loc 9,([ci aa,ci (OpOf.n (e.ops.getD d.toNat Op.nil)),sU .tree (OpOf.l (e.ops.getD d.toNat Op.nil)) .unk]++enc .edit (OpOf.e (e.ops.getD d.toNat Op.nil))))])
abbrev ZLs(N:Nat)(e:Edit)(Q:QT):=AW (Z3 (JT N)) Tryz.f183 Z1d [] (L2 [(0,.agg (enc .edit e))] []) Q
theorem ZJg(N:Nat)(e:Edit)(Q:QT)(h:Zi (AW (Z3 (JT N)) Tryz.f183 Z1d [1,1,1,1,0,1,0,0]) (Z9p e 0 []) (xB 0 (SW (Z3 (JT N)) Tryz.f183 Z1d [1,1,1,1,1] Q))):
  ZLs N e Q:=
 Eq.mpr V6 h
abbrev ZDo(N:Nat)(e:Edit)(h:Int)(d:List WEdit)(N0:NT)(Q:QT):=AW (Z3 (JT N)) Tryz.f183 Z1d [1,1,1,1,0,1,0,0] (Z9p e h d) (xT N0 (xB 0 (SW (Z3 (JT N)) Tryz.f183 Z1d [1,1,1,1,1] Q)))
theorem Zwx(N:Nat)(e:Edit)(s:Int)(d:List WEdit)(N0:NT)(Q:QT)(h:let z0:=e.words.getD s.toNat (WEdit.mk 0 0 0 0);let z1:=WEdit.mk (WEdit.at_ z0) (WEdit.mask z0) (WEdit.new z0) (WEdit.old z0);iB (decide (s < (e.words.length:Int))) (((0:Int)<=s/\s < (e.words.length:Int))/\(((d.length+([z1]).length)*32<=140737488355328)/\((InR (s+1))/\(N0 (Z9p e (s+1) (d++([z1]))))))) (Zi (AW (Z3 (JT N)) Tryz.f183 Z1d [1,1,1,1,1,0,1,0,0]) (Z9o e d 0 []) (xB 2 (SW (Z3 (JT N)) Tryz.f183 Z1d [1,1,1,1,1,1] Q)))):
  ZDo N e s d N0 Q:=
 Eq.mpr V6 h
abbrev ZDn(N:Nat)(e:Edit)(h:List WEdit)(s:Int)(d:List Kid)(N1:NT)(Q:QT):=AW (Z3 (JT N)) Tryz.f183 Z1d [1,1,1,1,1,0,1,0,0] (Z9o e h s d) (xT N1 (xB 2 (SW (Z3 (JT N)) Tryz.f183 Z1d [1,1,1,1,1,1] Q)))
theorem Zww(N:Nat)(e:Edit)(aa:List WEdit)(s:Int)(d:List Kid)(N1:NT)(Q:QT)(h:∀ ab,ab=(e.kids.getD s.toNat (KidOf.mk 0 Edit.nil))->∀ ae,ae=(ab.e)->∀ af,af=(Z2y ae)->iB (decide (s < (e.kids.length:Int))) (((0:Int)<=s/\s < (e.kids.length:Int))/\((0:Int)<=s/\s < (e.kids.length:Int))/\(ZaR (ae,()))/\(ZnQ (ae,()) < N)/\((d.length+([(KidOf.mk ab.at_ af:Kid)]).length)*208<=140737488355328)/\((InR (s+1))/\(N1 (Z9o e aa (s+1) (d++([(KidOf.mk ab.at_ af:Kid)])))))) (Zi (AW (Z3 (JT N)) Tryz.f183 Z1d [1,1,1,1,1,1,0,1,0,0]) (Z3T e aa d 0 []) (xB 4 (SW (Z3 (JT N)) Tryz.f183 Z1d [1,1,1,1,1,1,1] Q)))):
  ZDn N e aa s d N1 Q:=
 Eq.mpr V6 (h _ rfl _ (Z5 _) _ (Z5 _))
abbrev ZDm(N:Nat)(e:Edit)(s:List WEdit)(h:List Kid)(aa:Int)(d:List Op)(N2:NT)(Q:QT):=AW (Z3 (JT N)) Tryz.f183 Z1d [1,1,1,1,1,1,0,1,0,0] (Z3T e s h aa d) (xT N2 (xB 4 (SW (Z3 (JT N)) Tryz.f183 Z1d [1,1,1,1,1,1,1] Q)))
theorem Zwv(N:Nat)(e:Edit)(ab:List WEdit)(s:List Kid)(aa:Int)(d:List Op)(N2:NT)(Q:QT)(h:let z2:=Z3 (JT N);let z1:=xB 5 (SW z2 Tryz.f183 Z1d [1,1,1,1,1,1,0,1,0,0,1,1] (xT N2 (xB 4 (SW z2 Tryz.f183 Z1d [1,1,1,1,1,1,1] Q))));let z0:=OpOf.kind (e.ops.getD aa.toNat Op.nil);let z3:= !((z0:Int)==1);(iB (decide (aa < (e.ops.length:Int))) (((0:Int)<=aa/\aa < (e.ops.length:Int))/\((Tt z3)/\(Tt z3)/\(((z0:Int)==1)=false->z3=true)/\(iB (bif ((z0:Int)==1) then true else ((z0:Int)==2)) ((InR ((3:Int) - z0))/\(AW z2 Tryz.f183 Z1d [1,1,1,1,1,1,0,1,0,0,1,0,0,1,1] (Zek e ab s aa d ((3:Int) - z0)) z1)) (AW z2 Tryz.f183 Z1d [1,1,1,1,1,1,0,1,0,0,1,0,0,1,1] (Zek e ab s aa d z0) z1)))) ((Q .ret (L2 [pL 2] [(.loc 2,([ci e.kind]++enc .tree e.new++enc .tree e.old++[sU .wedit ab (.own (.l 2 7)),sU .kid s (.own (.l 2 8)),ci e.list,sU .op d (.own (.l 2 10))]))]))))):
  ZDm N e ab s aa d N2 Q:=
 Eq.mpr V6 h
abbrev Zue(N:Nat)(e:Edit)(aa:List WEdit)(h:List Kid)(ab:Int)(d:List Op)(s:Int)(N2:NT)(Q:QT):=AW (Z3 (JT N)) Tryz.f183 Z1d [1,1,1,1,1,1,0,1,0,0,1,0,0,1,1] (Zek e aa h ab d s) (xB 5 (SW (Z3 (JT N)) Tryz.f183 Z1d [1,1,1,1,1,1,0,1,0,0,1,1] (xT N2 (xB 4 (SW (Z3 (JT N)) Tryz.f183 Z1d [1,1,1,1,1,1,1] Q)))))
theorem Zwy(N:Nat)(e:Edit)(af:List WEdit)(aa:List Kid)(ab:Int)(d:List Op)(s:Int)(N2:NT)(Q:QT)(h:∀ ae,ae=(e.ops.getD ab.toNat Op.nil)->∀ ah,ah=(ae.e)->∀ ai,ai=(Z2y ah)->(ZaR (ah,()))/\(ZnQ (ah,()) < N)/\(((d.length+([(OpOf.mk s ae.n ae.l ai:Op)]).length)*240<=140737488355328)/\((InR (ab+1))/\(N2 (Z3T e af aa (ab+1) (d++([(OpOf.mk s ae.n ae.l ai:Op)]))))))):
  Zue N e af aa ab d s N2 Q:=
 Eq.mpr V6 (h _ rfl _ (Z5 _) _ (Z5 _))
def ZE8(N:Nat)(e:Edit):Prop:=AW (Z3 (JT N)) Tryz.f183 Z1d [] (Zm (Zu2.can (e,())) []) (EQ Tryz.f183 (Zld (e,())) [])
theorem ZCa(hb:∀ (N:Nat) (e:Edit) (_:Unit),ZaR (e,())->ZnQ (e,()) < N+1->ZE8 N e):CT 183 ZbC:=
 YX (μ:=ZnQ) (l:=[]) Zo rfl trivial Z1d Tryz.func183 rfl rfl 1 (fun _=> rfl) V3 (fun N ⟨e,_⟩=> hb N e ())
end
theorem Z8s:∀ (os:List Op),(os.length:Int)<=ZH os
 | []=> by simp [ZH]
 | o ::r=> by
  have d:=ZiE o
  have h:=Z8s r
  simp only [ZH,Q8]
  omega
theorem c22:Contract Tryz.prog cfg 22 ZgP:=by
 refine ZGv ?_
 intro N e _ hp hN
 simp only [ZaR,ZnQ] at hp hN
 have h1:=Yq e
 have h2:=Ym e.kids
 have h3:=ZQ e.ops
 have hc:=Z3X e
 have ha:=ZvB e
 have av:=Z8s e.ops
 refine ZL8 _ _ _ ?_
 refine ⟨by unfold InR;grind,by unfold InR;grind,?_⟩
 refine Z7 (ι:=Int × Int) (fun s=> ZcZ e s.1 s.2) (fun s=> 1<=s.1/\0<=s.2/\s.2<=e.kids.length/\s.1+Jh (e.kids.drop s.2.toNat)+ZH e.ops - e.ops.length=Yn e) (fun s=> ((e.kids.length:Int) - s.2).toNat) (1+e.words.length+e.ops.length,0) rfl ⟨V1,by simp,by simp,by simp;omega⟩ ?_
 rintro ⟨n,i⟩ ⟨g0,g1,g2,h⟩
 dsimp only at g0 g1 g2 h
 refine ZBt _ _ _ _ _ _ ?_
 rintro y1 ak y2 ae
 (simp only [iB,vcS])
 refine ⟨fun hi=> ?_,fun hi=> ?_⟩
 .have hm:=Ja (Zh (l:=e.kids) (i:=i.toNat) V1 (KidOf.mk 0 Edit.nil))
  rw [ZS g1 hi (KidOf.mk 0 Edit.nil)] at h
  rw [<-ak] at h hm
  simp only [Jh,ZqE] at h
  rw [<-ae] at h hm
  have h5:=Z3X y2
  have h6:=Z73 (e.kids.drop (i+1).toNat)
  refine ⟨⟨g1,hi⟩,by simp only [ZaR];omega,by simp only [ZnQ];omega,V5,V5,(n+Yn y2,i+1),rfl,⟨V1,V1,V1,by grind⟩,V1⟩
 .rw [Q6 V1] at h
  simp only [Jh] at h
  refine Z7 (ι:=Int × Int) (fun s=> Z8g e s.1 s.2) (fun s=> 1<=s.1/\0<=s.2/\s.2<=e.ops.length/\s.1+ZH (e.ops.drop s.2.toNat) - (e.ops.length - s.2)=Yn e) (fun s=> ((e.ops.length:Int) - s.2).toNat) (n,0) rfl ⟨V1,by simp,by simp,by simp;omega⟩ ?_
  rintro ⟨m,j⟩ ⟨f0,f1,f2,d⟩
  dsimp only at f0 f1 f2 d
  refine ZBs _ _ _ _ _ _ ?_
  rintro z1 af z2 aj
  (simp only [iB,vcS])
  refine ⟨fun hj=> ?_,fun hj=> ?_⟩
  .have hm:=ZW (Zh (l:=e.ops) (i:=j.toNat) V1 Op.nil)
   have h7:=Z8s (e.ops.drop (j+1).toNat)
   rw [Qv] at h7
   rw [ZS f1 hj Op.nil] at d
   rw [<-af] at d hm
   simp only [ZH,ZvA] at d
   rw [ZR] at hm
   rw [<-aj] at d hm
   have h5:=Z3X z2
   refine ⟨⟨f1,hj⟩,fun hq=> ?_,fun hq=> ?_⟩
   .rw [if_pos hq] at d
    refine ⟨⟨f1,hj⟩,by simp only [ZaR];omega,by simp only [ZnQ];omega,V5,V5,(m+Yn z2,j+1),rfl,⟨V1,V1,V1,by grind⟩,V1⟩
   .rw [if_neg hq] at d
    refine ⟨V5,(m,j+1),rfl,⟨V1,V1,V1,by grind⟩,V1⟩
  .rw [Q6 V1] at d
   simp only [ZH] at d
   exact YW rfl (by grind)
theorem Zfi{α β:Type}{f:α->β}(d:α){a b:List α}(hl:a.length=b.length)(h:∀ i:Nat,i < a.length->f (a.getD i d)=f (b.getD i d)):a.map f=b.map f:=by
 apply K3 (by simpa using hl)
 grind
theorem Z8i{α β:Type}{f:α->β}{d:α}{a b:List α}(h:a.map f=b.map f)(i:Nat):f (a.getD i d)=f (b.getD i d):=by
 have e:=congrArg (fun l=> l[i]?.getD (f d)) h
 grind
theorem ZuA(e:Edit):Z2y e= .mk e.kind e.new e.old (e.words.map Jc) (Z3m e.kids) e.list (Z15 e.ops):=by cases e;rfl
theorem Zn9(k:Kid):ZbP k=⟨k.at_,Z2y k.e⟩:=by cases k;rfl
theorem Zh2(o:Op):ZfT o=⟨ZaC o.kind,o.n,o.l,Z2y o.e⟩:=by cases o;rfl
theorem ZHd:Contract Tryz.prog cfg 183 ZbC:=by
 refine ZCa ?_
 intro N e _ hp hN
 simp only [ZaR,ZnQ] at hp hN
 have h1:=Yq e
 have h2:=Ym e.kids
 have h3:=ZQ e.ops
 have ha:=ZuA e
 refine ZJg _ _ _ ?_
 refine Z7 (ι:=Int × List WEdit) (fun s=> Z9p e s.1 s.2) (fun s=> 0<=s.1/\s.1<=e.words.length/\s.2.length=s.1/\s.2++(e.words.drop s.1.toNat).map Jc=e.words.map Jc) (fun s=> ((e.words.length:Int) - s.1).toNat) (0,[]) rfl ⟨by simp,by simp,by simp,by simp⟩ ?_
 rintro ⟨i,ws⟩ ⟨g1,g2,g3,g4⟩
 dsimp only at g1 g2 g3 g4
 refine Zwx _ _ _ _ _ _ ?_
 (simp only [iB,vcS])
 refine ⟨fun hi=> ?_,fun hi=> ?_⟩
 .rw [ZS g1 hi (WEdit.mk 0 0 0 0)] at g4
  simp only [Qm] at g4
  refine ⟨⟨g1,hi⟩,by simp;omega,V5,(i+1,ws++[Jc (e.words.getD i.toNat (WEdit.mk 0 0 0 0))]),rfl,⟨V4,V4,by simp;omega,?_⟩,V4⟩
  simp only [Qc,Qj,Qo]
  exact g4
 .rw [Q6 V1] at g4
  simp only [QJ,Qi] at g4
  refine Z7 (ι:=Int × List Kid) (fun s=> Z9o e ws s.1 s.2) (fun s=> 0<=s.1/\s.1<=e.kids.length/\s.2.length=s.1/\s.2++Z3m (e.kids.drop s.1.toNat)=Z3m e.kids) (fun s=> ((e.kids.length:Int) - s.1).toNat) (0,[]) rfl ⟨by simp,by simp,by simp,by simp⟩ ?_
  rintro ⟨j,ks⟩ ⟨f1,f2,f3,d⟩
  dsimp only at f1 f2 f3 d
  refine Zww _ _ _ _ _ _ _ ?_
  rintro y1 au y2 am y3 aq
  (simp only [iB,vcS])
  refine ⟨fun h=> ?_,fun h=> ?_⟩
  .have hm:=Ja (Zh (l:=e.kids) (i:=j.toNat) V1 (KidOf.mk 0 Edit.nil))
   rw [ZS f1 h (KidOf.mk 0 Edit.nil)] at d
   rw [<-au] at d hm
   simp only [Z3m,Zn9] at d
   rw [<-am] at d hm
   rw [<-aq] at d
   refine ⟨⟨f1,h⟩,⟨f1,h⟩,by simp only [ZaR];omega,by simp only [ZnQ];omega,by simp;omega,V5,(j+1,ks++[⟨y1.at_,y3⟩]),rfl,⟨V4,V4,by simp;omega,?_⟩,V4⟩
   simp only [Qc,Qj,Qo]
   exact d
  .rw [Q6 V1] at d
   simp only [Z3m,Qi] at d
   refine Z7 (ι:=Int × List Op) (fun s=> Z3T e ws ks s.1 s.2) (fun s=> 0<=s.1/\s.1<=e.ops.length/\s.2.length=s.1/\s.2++Z15 (e.ops.drop s.1.toNat)=Z15 e.ops) (fun s=> ((e.ops.length:Int) - s.1).toNat) (0,[]) rfl ⟨by simp,by simp,by simp,by simp⟩ ?_
   rintro ⟨k,os⟩ ⟨d1,d2,d3,d4⟩
   dsimp only at d1 d2 d3 d4
   refine Zwv _ _ _ _ _ _ _ _ ?_
   simp only [iB,vcT,vcS,aiT,true_and]
   refine ⟨fun h=> ⟨⟨d1,h⟩,?_⟩,fun h=> ?_⟩
   .have hm:=ZW (Zh (l:=e.ops) (i:=k.toNat) V1 Op.nil)
    rw [ZS d1 h Op.nil] at d4
    simp only [Z15,Zh2] at d4
    rw [ZR] at hm
    have next:∀ kd:Int,kd=ZaC (e.ops.getD k.toNat Op.nil).kind->∀ (R:AExit->LSt U->Prop),(∀ s,(∃ j:Int × List Op,s=Z3T e ws ks j.1 j.2/\(0<=j.1/\j.1<=e.ops.length/\j.2.length=j.1/\j.2++Z15 (e.ops.drop j.1.toNat)=Z15 e.ops)/\((e.ops.length:Int) - j.1).toNat < ((e.ops.length:Int) - k).toNat)->True)->True:=fun _ _ _ _=> trivial
    have ai:∀ kd:Int,kd=ZaC (e.ops.getD k.toNat Op.nil).kind->∀ (Q':AExit->LSt U->Prop),Zue N e ws ks k os kd (fun s2=> ∃ j:Int × List Op,s2=Z3T e ws ks j.1 j.2/\(0<=j.1/\j.1<=e.ops.length/\j.2.length=j.1/\j.2++Z15 (e.ops.drop j.1.toNat)=Z15 e.ops)/\((e.ops.length:Int) - j.1).toNat < ((e.ops.length:Int) - k).toNat) Q':=by
     intro kd al Q'
     refine Zwy _ _ _ _ _ _ _ _ _ ?_
     rintro z1 ab z2 ak z3 aw
     rw [<-ab,<-ak] at hm
     rw [<-ab,<-ak,<-aw] at d4
     rw [<-ab] at al
     refine ⟨by simp only [ZaR];omega,by simp only [ZnQ];omega,by simp;omega,V5,(k+1,os++[⟨kd,z1.n,z1.l,z3⟩]),rfl,⟨V4,V4,by simp;omega,?_⟩,V4⟩
     rw [al]
     simp only [Qc,Qj,Qo]
     exact d4
    refine ⟨fun hq=> ⟨V5,ai _ (by unfold ZaC;rw [if_pos hq]) _⟩,fun hq=> ai _ (by unfold ZaC;rw [Jv]) _⟩
   .rw [Q6 V1] at d4
    simp only [Z15,Qi] at d4
    rw [g4,d,d4]
    simp only [Zld,ha]
    exact V2
theorem Zdz:Z2y Edit.nil=Edit.nil:=by rfl
theorem ZxA{list d:Int}{o:Op}(h:Za list o d=true)(hi:o.kind=3->Z2y o.e=Zt o.e):ZfT o=Yu o:=by
 have s:=Yl h
 rw [Zh2,Z0l]
 unfold ZZ at s
 unfold ZaC
 rcases s with ⟨k,a,b,c⟩ | ⟨k,a,b,c⟩ | ⟨k,a,b⟩
 .rw [Jv,Jv,Jv,Jv,c,Zdz]
 .rcases k with k | k
  .rw [if_pos (Or.inl k),if_pos k,c,Zdz,k];try rfl
  .rw [if_pos (Or.inr k),Jv,if_pos k,c,Zdz,k];try rfl
 grind
mutual
theorem ZaB:∀ (e:Edit) (d:Int),Z1 e d=true->Z2y e=Zt e
 | .mk k o n w ks l os,d,h=> by
  have s:=Z5E h
  simp only [Edit.kids_mk,Edit.ops_mk,Edit.list_mk] at s
  have h1:=Zn8 ks (d - 1) (fun k hk=> (s.1 k hk).1)
  have h2:=Zn7 l os (d - 1) s.2
  rw [Z2y,Zt,h1,h2]
theorem Zn8:∀ (ks:List (KidOf Edit)) (d:Int),(∀ k∈ks,Z1 k.e d=true)->Z3m ks=Yv ks
 | [],_,_=> rfl
 | k ::r,d,h=> by
  have s:=Zuz k d (h k (Q1 ..))
  have h2:=Zn8 r d (fun x hx=> h x (Q0 _ hx))
  rw [Z3m,Yv,s,h2]
theorem Zuz:∀ (k:KidOf Edit) (d:Int),Z1 k.e d=true->ZbP k=Jr k
 | ⟨a,e⟩,d,h=> by
  have s:=ZaB e d h
  rw [ZbP,Jr,s]
theorem Zn7(list:Int):∀ (os:List (OpOf Edit)) (d:Int),(∀ o∈os,Za list o d=true)->Z15 os=YC os
 | [],_,_=> rfl
 | o ::r,d,h=> by
  have s:=ZxB list o d (h o (Q1 ..))
  have h2:=Zn7 list r d (fun x hx=> h x (Q0 _ hx))
  rw [Z15,YC,s,h2]
theorem ZxB(list:Int):∀ (o:OpOf Edit) (d:Int),Za list o d=true->ZfT o=Yu o
 | ⟨k,n,l,e⟩,d,h=> by
  refine ZxA h (fun s=> ?_)
  simp only at s
  subst s
  rw [Z0e] at h
  simp only [show ¬(3:Int)=0 by decide,show ¬(3:Int) < 3 by decide,if_false] at h
  split at h
  .cases h
  .simp only [Q2] at h
   exact ZaB e d h.1.2
end
theorem Z3L(t:Tree):(Z6 t).kind=t.kind:=by
 obtain ⟨k,w,ks⟩:=t
 simp only [Z6]
 by_cases h0:k=0
 .rw [if_pos h0,h0];try rfl
 .rw [if_neg h0]
  by_cases h1:k=1
  .rw [if_pos h1,h1];try rfl
  .rw [if_neg h1];try rfl
theorem Zgr:∀ (l:List Int),∃ r,l=trim l++r
 | []=> ⟨[],rfl⟩
 | x ::r=> by
  obtain ⟨s,d⟩:=Zgr r
  simp only [trim]
  split
  .rename_i e
   split
   .exact ⟨x ::r,rfl⟩
   .exact ⟨r,rfl⟩
  .rename_i y t e
   rw [e] at d
   exact ⟨s,by rw [d];rfl⟩
theorem Zdp:∀ (l:List Tree),∃ r,l=YQ l++r
 | []=> ⟨[],rfl⟩
 | x ::r=> by
  obtain ⟨s,d⟩:=Zdp r
  simp only [YQ]
  split
  .rename_i e
   split
   .exact ⟨x ::r,rfl⟩
   .exact ⟨r,rfl⟩
  .rename_i y t e
   rw [e] at d
   exact ⟨s,by rw [d];rfl⟩
theorem Zh7{list d:Int}:∀ (a b:List Tree),J4 list (a++b) d=true->J4 list a d=true
 | [],_,_=> rfl
 | t ::r,b,h=> by
  simp only [Qj,J4,Q2] at h ⊢
  exact ⟨h.1,Zh7 r b h.2⟩
theorem Z3q:∀ (l:List Tree),(J2 l).length=l.length
 | []=> rfl
 | t ::r=> by simp only [J2,Q8,Z3q r]
theorem Zvi{list:Int}{t:Tree}(h:Z2n list t=true):Z2n list (Z6 t)=true:=by
 unfold Z2n at h ⊢
 rw [Z3L]
 split at h
 .rename_i hl
  rw [if_pos hl]
  simp only [Q2,decide_eq_true_eq] at h ⊢
  obtain ⟨⟨s,d,h3⟩,h4⟩:=h
  obtain ⟨k,w,ks⟩:=t
  simp only [Tree.kind_mk,Tree.kids_mk,Tree.words_mk] at s d h3 h4
  have:ks=[]:=Xa.1 d
  subst this
  subst s
  trivial
 grind
mutual
theorem Z4O:∀ (t:Tree) (d:Int),Zr t d=true->Zr (Z6 t) d=true
 | .mk k w ks,d,h=> by
  have ih:=fun (list:Int) (h:J4 list ks (d - 1)=true)=> Z7D ks list (d - 1) h
  simp only [Zr] at h
  simp only [Z6]
  by_cases h0:k=0
  .rw [if_pos h0];try rfl
  .rw [if_neg h0] at h ⊢
   by_cases h10:k=10
   .subst h10
    rw [if_pos rfl] at h
    rw [if_neg V3]
    simp only [decide_eq_true_eq] at h
    simp only [Zr]
    rw [if_neg V3,if_pos trivial,Z3q]
    simpa using h
   .rw [if_neg h10] at h
    by_cases hd:d=0
    .grind
    .rw [if_neg hd] at h
     by_cases h1:k=1
     .subst h1
      rw [if_pos rfl] at h
      rw [if_pos rfl]
      simp only [Q2,decide_eq_true_eq] at h
      simp only [Zr]
      rw [if_neg V3,if_neg V3,if_neg hd,if_pos trivial]
      simp only [Q2,decide_eq_true_eq]
      obtain ⟨r1,e1⟩:=Zgr w
      obtain ⟨r2,e2⟩:=Zdp (J2 ks)
      have l1:=congrArg List.length e1
      have s:=congrArg List.length e2
      rw [Z3q] at s
      simp only [Q7] at l1 s
      refine ⟨⟨V1,V1⟩,?_⟩
      have:=ih 1 h.2
      rw [e2] at this
      exact Zh7 _ _ this
     .rw [if_neg h1] at h ⊢
      simp only [Q2,decide_eq_true_eq] at h
      simp only [Zr]
      rw [if_neg h0,if_neg h10,if_neg hd,if_neg h1,Z3q]
      grind
theorem Z7D:∀ (l:List Tree) (list d:Int),J4 list l d=true->J4 list (J2 l) d=true
 | [],_,_,_=> rfl
 | t ::r,list,d,h=> by
  simp only [J4,Q2] at h
  have s:=Z4O t d h.1.2
  have h2:=Z7D r list d h.2
  simp only [J2,J4,Q2]
  exact ⟨⟨Zvi h.1.1,s⟩,h2⟩
end
theorem Z2u(e:Edit):(Zt e).kind=e.kind:=by cases e;rfl
theorem Zji(e:Edit):(Zt e).old=e.new:=by cases e;rfl
theorem Zjj(e:Edit):(Zt e).new=e.old:=by cases e;rfl
theorem Z6g:∀ (l:List WEdit) (last:Int),ZM last (l.map Jc)=ZM last l
 | [],_=> rfl
 | w ::r,last=> by
  simp only [Qm,ZM,Z6g r]
  have h:(Jc w).at_=w.at_:=rfl
  have s:(Jc w).mask=w.mask:=rfl
  have h3:(Jc w).old=w.new:=rfl
  have d:(Jc w).new=w.old:=rfl
  grind
theorem Zp1(o:Op):Z2 (Yu o)=Z2 o/\((Yu o).kind=2↔o.kind=1)/\((Yu o).kind=1↔o.kind=2):=by
 rw [Z0l]
 by_cases h1:o.kind=1
 .rw [if_pos h1];simp [Z2,h1]
 .rw [if_neg h1]
  by_cases h2:o.kind=2
  .rw [if_pos h2];simp [Z2,h2]
  .rw [if_neg h2]
   by_cases h3:o.kind=3
   .rw [if_pos h3];simp [Z2,h3]
   simp_all
theorem Zcy:∀ (l:List Op) (n:Int),Jp (YC l) n=Z11 l n/\Z11 (YC l) n=Jp l n
 | [],_=> ⟨rfl,rfl⟩
 | o ::r,n=> by
  obtain ⟨d,h,s⟩:=Zp1 o
  simp only [YC,Jp,Z11]
  rw [d]
  constructor
  .rw [(Zcy r _).1]
   grind
  .rw [(Zcy r _).2]
   grind
theorem Zaq:∀ (l:List Op),(YC l).length=l.length
 | []=> rfl
 | o ::r=> by simp only [YC,Q8,Zaq r]
theorem ZBL{list d:Int}{o:Op}(h:Za list o d=true)(hi:Z1 o.e d=true->Z1 (Zt o.e) d=true):Za list (Yu o) d=true:=by
 have h':=h
 rw [Z0e] at h
 by_cases k0:o.kind=0
 .have e:Yu o=o:=by rw [Z0l,Jv,Jv,Jv]
  grind
 .rw [if_neg k0] at h
  split at h
  .cases h
  .rename_i hk
   by_cases k3:o.kind=3
   .rw [Jv] at h
    have e:Yu o=⟨o.kind,o.n,o.l,Zt o.e⟩:=by rw [Z0l,Jv,Jv,if_pos k3]
    rw [e,Z0e]
    simp only
    rw [if_neg k0,if_neg hk,Jv,Z2u,Zji,Zjj]
    grind
   .rw [V0] at h
    have s:o.kind=1\/o.kind=2:=V1
    rcases s with k | k
    .have e:Yu o=⟨2,o.n,o.l,o.e⟩:=by rw [Z0l,if_pos k]
     rw [e,Z0e]
     grind
    .have e:Yu o=⟨1,o.n,o.l,o.e⟩:=by rw [Z0l,Jv,if_pos k]
     rw [e,Z0e]
     grind
mutual
theorem J1:∀ (e:Edit) (d:Int),Z1 e d=true->Z1 (Zt e) d=true
 | .mk k o n w ks l os,d,h=> by
  have h1:=Z6B ks
  have s:=ZbS l os
  simp only [Z1] at h
  simp only [Zt,Z1]
  split at h
  .cases h
  .rename_i a
   rw [if_neg a]
   split at h
   .cases h
   .rename_i b
    rw [if_neg (by rw [Qt,Zgp,Zaq];grind)]
    split at h
    .grind
    .rename_i c
     rw [if_neg c]
     simp only [Q2,decide_eq_true_eq] at h ⊢
     obtain ⟨⟨⟨⟨x1,x2⟩,x3⟩,x4⟩,x5⟩:=h
     refine ⟨⟨⟨⟨by rw [Z6g];exact x1,h1 _ _ x2⟩,x3⟩,s _ x4⟩,?_⟩
     rw [(Zcy os 0).1,(Zcy os 0).2]
     omega
theorem Z6B:∀ (ks:List (KidOf Edit)) (last d:Int),ZC last ks d=true->ZC last (Yv ks) d=true
 | [],_,_,_=> rfl
 | k ::r,last,d,h=> by
  simp only [ZC,Q2] at h
  have s:=ZiW k last d h.1
  have h2:=Z6B r k.at_ d h.2
  simp only [Yv,ZC,Q2]
  exact ⟨s,by rw [Zgq];exact h2⟩
theorem ZiW:∀ (k:KidOf Edit) (last d:Int),JA last k d=true->JA last (Jr k) d=true
 | ⟨a,e⟩,last,d,h=> by
  simp only [JA,Q2] at h
  have s:=J1 e d h.2
  simp only [Jr,JA,Q2]
  rw [Z2u]
  grind
theorem ZbS(list:Int):∀ (os:List (OpOf Edit)) (d:Int),ZA list os d=true->ZA list (YC os) d=true
 | [],_,_=> rfl
 | o ::r,d,h=> by
  simp only [ZA,Q2] at h
  have s:=ZkZ list o d h.1
  have h2:=ZbS list r d h.2
  simp only [YC,ZA,Q2]
  grind
theorem ZkZ(list:Int):∀ (o:OpOf Edit) (d:Int),Za list o d=true->Za list (Yu o) d=true
 | ⟨k,n,l,e⟩,d,h=> ZBL (o:=⟨k,n,l,e⟩) h (fun s=> J1 e d s)
end
theorem Ze7:∀ (a b:List Tree),Ze (a++b)=Ze a+Ze b
 | [],b=> by simp [Ze]
 | t ::r,b=> by simp only [Qj,Ze,Ze7 r b];omega
theorem Z0Z:∀ (a b:List Op),Zg (a++b)=Zg a+Zg b
 | [],b=> by simp [Zg]
 | t ::r,b=> by simp only [Qj,Zg,Z0Z r b];omega
theorem Z4W:∀ (l:List Tree),Ze (Z8 l)<=Ze l
 | []=> by trivial
 | t ::r=> by
  have h:=Z4W r
  have d:=Y5 t
  simp only [Z8] at h
  simp only [Z8,Qm,Ze]
  omega
theorem Z94:Z0 Edit.nil=3:=by rfl
theorem JO:Zq Tree.nil=1:=by rfl
theorem Z93(t:Tree):1<=Zq t:=by cases t;simp only [Zq];omega
theorem JJ:∀ (e:Edit),3<=Z0 e
 | .mk k o n w ks l os=> by
  have d:=Z93 o
  have h:=Z93 n
  simp only [Z0];omega
def ZaU(w:Wst):Nat:=Zg w.out+w.out.length+Ze w.gone+Ze w.brought+(if w.gone.length=0 then 0 else 4)+(if w.brought.length=0 then 0 else 4)
theorem Z1K(o:Op):Zg [o]=Zs o:=by rfl
theorem Z3K(k n:Int)(l:List Tree)(e:Edit):Zs (OpOf.mk k n l e)=Ze l+Z0 e:=rfl
theorem ZdV(w:Wst):Zg (Zb w).out+(Zb w).out.length=ZaU w:=by
 simp only [Zb,JZ,ZaU]
 rw [Z0Z,Z0Z,Q7,Q7]
 by_cases hg:w.gone.length=0
 .have e:w.gone=[]:=Xa.1 hg
  rw [if_pos hg,if_pos hg,e]
  by_cases hb:w.brought.length=0
  .have e2:w.brought=[]:=Xa.1 hb
   rw [if_pos hb,if_pos hb,e2];try rfl
  .rw [if_neg hb,if_neg hb,Z1K,Z3K,Z94];simp [Zg,Ze];omega
 .rw [if_neg hg,if_neg hg,Z1K,Z3K,Z94]
  by_cases hb:w.brought.length=0
  .have e2:w.brought=[]:=Xa.1 hb
   rw [if_pos hb,if_pos hb,e2];simp [Zg,Ze];omega
  .rw [if_neg hb,if_neg hb,Z1K,Z3K,Z94];simp;omega
theorem Znz(w:Wst)(n:Int):ZaU (Y2 w n)<=ZaU w+4:=by
 have h:=ZdV w
 have e:ZaU (Y2 w n)=Zg (JK (Zb w).out n)+(JK (Zb w).out n).length:=rfl
 rw [e]
 rcases Jq (Zb w).out n with e | ⟨a,o,e1,_,e3⟩
 .rw [e,Z0Z,Q7,Z1K,Z3K,Z94];simp [Ze];omega
 .rw [e3,Z0Z,Q7,Z1K]
  rw [e1,Z0Z,Q7,Z1K] at h
  obtain ⟨k,m,l,e⟩:=o
  simp only [Z3K] at h ⊢
  grind
theorem ZG2{list:Int}{w:Wst}{o:Op}(hi:Z0 (Zp o.e)<=Z0 o.e):ZaU (Z04 list o w)<=ZaU w+Zs o+1:=by
 have d:=JJ o.e
 have h:Zs o=Ze o.l+Z0 o.e:=by cases o;rfl
 have s:=Z4W o.l
 have hl:(Z8 o.l).length=o.l.length:=by simp [Z8]
 rw [YV]
 split
 .have:=Znz w o.n;omega
 .split
  .simp only [ZaU,Ze7,Q7,hl]
   grind
  .split
   .simp only [ZaU,Ze7,Q7,hl]
    grind
   .split
    .split
     .have:=Znz w 1;omega
     .have:=ZdV w
      have e:ZaU ⟨(Zb w).out++[⟨3,0,[],Zp o.e⟩],[],[]⟩=Zg ((Zb w).out++[(⟨3,0,[],Zp o.e⟩:Op)])+((Zb w).out++[(⟨3,0,[],Zp o.e⟩:Op)]).length:=rfl
      rw [e,Z0Z,Q7,Z1K,Z3K]
      simp [Ze];omega
    .omega
mutual
theorem Z5R:∀ (e:Edit),Z0 (Zp e)<=Z0 e
 | .mk k o n w ks l os=> by
  have h1:=Zi5 ks
  have d:=Zs9 l os W0
  have h:=ZdV (Zv l os W0)
  have e0:ZaU W0=0:=rfl
  have po:=Z93 o
  have pn:=Z93 n
  have mo:=Y5 o
  have s:=Y5 n
  rw [Zp]
  split
  .simp only [Z0,Zw,Zg,Qh];omega
  .split
   .simp only [Z0,Zw,Zg,Qh,JO];omega
   .split
    .simp only [Z0,Zw,Qh,JO]
     show 1+1+1+0+(Zb (Zv l os W0)).out.length+0+Zg (Zb (Zv l os W0)).out<=_
     omega
    .simp only [Z0,Zw,Zg,Qh,JO];omega
theorem Zi5:∀ (ks:List (KidOf Edit)),Zw (YR ks)<=Zw ks
 | []=> Q9 _
 | k ::r=> by
  have d:=ZnW k
  have h:=Zi5 r
  simp only [YR,Zw];omega
theorem ZnW:∀ (k:KidOf Edit),Yo (Z0X k)<=Yo k
 | ⟨a,e⟩=> by
  have h:=Z5R e
  trivial
theorem Zs9(list:Int):∀ (os:List (OpOf Edit)) (w:Wst),ZaU (Zv list os w)<=ZaU w+Zg os+os.length
 | [],w=> by simp [Zv,Zg]
 | o ::r,w=> by
  have d:=ZuN list o w
  have h:=Zs9 list r (Z04 list o w)
  simp only [Zv,Zg,Q8];omega
theorem ZuN(list:Int):∀ (o:OpOf Edit) (w:Wst),ZaU (Z04 list o w)<=ZaU w+Zs o+1
 | ⟨k,n,l,e⟩,_=> ZG2 (o:=⟨k,n,l,e⟩) (Z5R e)
end
end Go.AM.YtpjenobkibfpcaaGreat
