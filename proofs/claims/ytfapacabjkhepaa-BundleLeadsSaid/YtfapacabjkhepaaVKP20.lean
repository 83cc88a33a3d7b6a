import Derived.Test.YtfapacabjkhepaaVKB20b
import Derived.Test.YtfapacabjkhepaaVmZ
import Derived.Test.YtfapacabjkhepaaVKD20
import Derived.Test.YtfapacabjkhepaaVKL07
set_option linter.unusedSimpArgs false
set_option linter.unusedVariables false
namespace Go.AM.Ytfapacabjkhepaa
open Go.AM Go.Proofs
theorem Z3h(e:Edit)(d:Int):Z0 e d=
  if d=0\/e.kind < 0\/3 < e.kind then false
  else if (e.kind≠1/\¬(ZR e.old=true/\ZR e.new=true))\/(e.kind≠2/\¬(e.words.length=0/\e.kids.length=0))\/(e.kind≠3/\(e.list≠0\/e.ops.length≠0)) then false
  else if e.kind=1 then Z9 e.old (dT d) && Z9 e.new (dT d) && decide (e.old.kind≠10/\e.new.kind≠10)
  else Zp (-1) e.words && Zu (-1) e.kids (d - 1) && decide (¬(e.kind=3/\(e.list < 2\/9 < e.list))) && Zt e.list e.ops (d - 1) && decide (Z0m e.ops 0 < 1048576/\Z0l e.ops 0 < 1048576):=by
 obtain ⟨k,o,nw,w,ks,l,os⟩:=e;rfl
theorem Z2G(last:Int)(k:Kid)(d:Int):YW last k d=(decide (last < k.at_/\k.at_<=65534/\k.e.kind≠0) && Z0 k.e d):=by cases k;rfl
theorem Jw(list:Int)(o:Op)(d:Int):Zc list o d=
  if o.kind=0 then decide (1<=o.n/\o.n<=1048576/\o.l.length=0) && Z11 o.e
  else if o.n≠0\/o.kind < 0\/3 < o.kind then false
  else if o.kind < 3 then Yr (dT d) list o.l && decide (0 < o.l.length) && Z11 o.e
  else decide (o.l.length=0/\o.e.kind≠0/\7 < list) && Z0 o.e d && decide (list=8\/o.e.kind=2\/o.e.kind=1/\o.e.old.kind=1/\o.e.new.kind=1):=by
 cases o;rfl
theorem Z5O{list:Int}{o:Op}{d:Int}(h:Zc list o d=true):0<=o.n/\o.n<=1048576:=by
 rw [Jw] at h
 split at h
 .simp only [Q1,decide_eq_true_eq] at h;omega
 .split at h
  .cases h
  .rename_i h1;omega
theorem rightOs_mem{list d:Int}:∀ {os:List Op} {o:Op},Zt list os d=true->o∈os->Zc list o d=true
 | x ::r,o,h,hm=> by
  simp only [Zt,Q1] at h
  rcases Q6.1 hm with rfl | hm
  .exact h.1
  .exact rightOs_mem h.2 hm
theorem Zag{d:Int}:∀ {ks:List Kid} {last:Int} {k:Kid},Zu last ks d=true->k∈ks->Z0 k.e d=true/\k.e.kind≠0
 | x ::r,last,k,h,hm=> by
  simp only [Zu,Q1] at h
  rcases Q6.1 hm with rfl | hm
  .have:=h.1;rw [Z2G] at this;simp only [Q1,decide_eq_true_eq] at this;exact ⟨this.2,this.1.2.2⟩
  .exact Zag h.2 hm
theorem Z1K{e:Edit}(h:ZK e):InR e.kind/\rng e.old/\rng e.new/\(∀ x∈e.words,Z1j x)/\InR e.list/\JX e.kids/\JP e.ops:=by
 obtain ⟨k,o,n,w,ks,l,os⟩:=e;exact h
theorem b15:ZA5:=by
 intro N e d _ hp hN
 simp only [Z6n,ZfG] at hp hN
 obtain ⟨⟨hm,hr⟩,hd0,hd1⟩:=hp
 obtain ⟨ik,ro,rn,rw',il,rk,ros⟩:=Z1K hr
 have hme:=Y3 e
 have hkl:=Yb e.kids
 have hol:=ZU e.ops
 have hat:=Z3h e d
 rw [ZlE hd0] at hat
 refine ZBz N e d _ ?_;(try simp only [iB,vcT,forall_eq])
 (simp only [iB,vcS]);(try simp only [iB,vcT]);(try simp only [vcU])
 try (simp only [Tree.eta,Edit.eta,Tree.kind_mk,Tree.words_mk,Tree.kids_mk])
 refine ⟨fun hc=> Z4 rfl (by rw [hat,V1]),fun hc=> ?_⟩
 rw [JI] at hat
 refine ⟨fun _=> by simp only [Z5c];omega,fun _=> by simp only [Z5c];omega,fun _=> by unfold InR;omega,fun hf=> Z4 rfl ?_,fun hf=> ⟨fun h1=> ⟨⟨V3,ro,V3,V3⟩,fun _=> ⟨V3,rn,V3,V3⟩,Z4 rfl ?_⟩,fun h1=> ?_⟩⟩
 .rw [hat,if_pos]
  rcases hf with (hf | hf) | hf
  .left
   refine ⟨hf.1,fun h=> ?_⟩
   rcases hf.2 with h2 | h2
   .rw [h.1] at h2;cases h2
   .rw [h.2] at h2;cases h2
  .right;left;omega
  .right;right;omega
 .rw [hat,if_neg,if_pos h1,Qk]
  ·(simp only [iB,vcS])
   constructor
   .rintro ⟨⟨⟨h2,h3⟩,h4⟩,h5⟩;exact ⟨⟨h2,h3⟩,h4,h5⟩
   .rintro ⟨⟨h2,h3⟩,h4,h5⟩;exact ⟨⟨⟨h2,h3⟩,h4⟩,h5⟩
  .intro h
   rcases h with h | h | h
   .exact h.1 h1
   .omega
   .omega
 .rw [if_neg,if_neg h1] at hat
  .refine Zb (ι:=Int × Int) (fun p=> Z8H e d p.1 p.2) (fun p=> 0<=p.2/\p.2<=e.words.length/\Zp p.1 (e.words.drop p.2.toNat)=Zp (-1) e.words) (fun p=> ((e.words.length:Int) - p.2).toNat) (-1,0) rfl ⟨V3,V3,by simp⟩ ?_
   rintro ⟨last,i⟩ ⟨h2,h3,h4⟩
   dsimp only at*
   refine Zsu N e d last i _ _ ?_;(try simp only [iB,vcT,forall_eq])
   (simp only [iB,vcS]);(try simp only [iB,vcT]);(try simp only [vcU])
   try (simp only [Tree.eta,Edit.eta,Tree.kind_mk,Tree.words_mk,Tree.kids_mk])
   refine ⟨fun hi=> ?_,fun hi=> ?_⟩
   .have hmem:=Zh (l:=e.words) (i:=i.toNat) V0 (WEdit.mk 0 0 0 0)
    have hrw:=rw' _ hmem
    rw [YB h2 hi (WEdit.mk 0 0 0 0)] at h4
    simp only [Zp] at h4
    generalize e.words.getD i.toNat (WEdit.mk 0 0 0 0)=w at*
    obtain ⟨_,hmk,hwo,hwn⟩:=hrw
    refine ⟨⟨h2,hi⟩,fun _=> ⟨hwo,hmk⟩,fun _=> ⟨hwn,hmk⟩,fun hq=> Z4 rfl ?_,fun hq=> ⟨V4,(_,i+1),rfl,⟨V3,V3,?_⟩,V3⟩⟩
    .rw [hat,<-h4]
     rcases hq with (hq | hq) | hq
     .rw [decide_eq_false V0];try rfl
     .rw [hq];simp
     .rw [hq];simp
    .dsimp only
     rw [<-h4,decide_eq_true V0,hq.1.2,hq.2];try rfl
   .have hw:Zp (-1) e.words=true:=by
     rw [<-h4,Q8 V0];try rfl
    rw [hw,QH] at hat
    refine Zb (ι:=Int × Int) (fun p=> Z8G e d p.1 p.2) (fun p=> 0<=p.2/\p.2<=e.kids.length/\Zu p.1 (e.kids.drop p.2.toNat) (d - 1)=Zu (-1) e.kids (d - 1)) (fun p=> ((e.kids.length:Int) - p.2).toNat) (-1,0) rfl ⟨V3,V3,by simp⟩ ?_
    rintro ⟨last,i⟩ ⟨h2,h3,h4⟩
    dsimp only at*
    refine Zst N e d last i _ _ ?_;(try simp only [iB,vcT,forall_eq])
    (simp only [iB,vcS]);(try simp only [iB,vcT]);(try simp only [vcU])
    try (simp only [Tree.eta,Edit.eta,Tree.kind_mk,Tree.words_mk,Tree.kids_mk])
    refine ⟨fun hi=> ?_,fun hi=> ?_⟩
    .have hmem:=Zh (l:=e.kids) (i:=i.toNat) V0 (KidOf.mk 0 Edit.nil)
     have hrw:=YU rk hmem
     have hmm:=JA hmem
     rw [YB h2 hi (KidOf.mk 0 Edit.nil)] at h4
     simp only [Zu,Z2G] at h4
     generalize e.kids.getD i.toNat (KidOf.mk 0 Edit.nil)=w at*
     refine ⟨⟨h2,hi⟩,fun _=> by unfold InR;omega,fun _=> ⟨⟨V3,hrw.2⟩,V3,V3⟩,fun _=> by simp only [ZfG];omega,fun hq=> Z4 rfl ?_,fun hq=> ⟨V4,(_,i+1),rfl,⟨V3,V3,?_⟩,V3⟩⟩
     .rw [hat,<-h4]
      rcases hq with hq | hq
      .rw [decide_eq_false V0];try rfl
      .rw [hq];simp
     .dsimp only
      rw [<-h4,decide_eq_true V0,hq.2];try rfl
    .have hw:Zu (-1) e.kids (d - 1)=true:=by
      rw [<-h4,Q8 V0];try rfl
     rw [hw,QH] at hat
     refine ⟨fun hq=> Z4 rfl (by rw [hat,decide_eq_false V0];rfl),fun hq=> ?_⟩
     rw [decide_eq_true V0,QH] at hat
     refine Zb (ι:=Int) (fun p=> Z8F e d p) (fun p=> 0<=p/\p<=e.ops.length/\Zt e.list (e.ops.drop p.toNat) (d - 1)=Zt e.list e.ops (d - 1)) (fun p=> ((e.ops.length:Int) - p).toNat) 0 rfl ⟨V0,V0,by simp⟩ ?_
     rintro j ⟨h5,h6,h7⟩
     refine Zss N e d j _ _ ?_;(try simp only [iB,vcT,forall_eq])
     (simp only [iB,vcS]);(try simp only [iB,vcT]);(try simp only [vcU])
     try (simp only [Tree.eta,Edit.eta,Tree.kind_mk,Tree.words_mk,Tree.kids_mk])
     refine ⟨fun hj=> ?_,fun hj=> ?_⟩
     .have hmem:=Zh (l:=e.ops) (i:=j.toNat) V0 Op.nil
      have hro:=Z08 ros hmem
      have hmm:=Yl hmem
      rw [YB h5 hj Op.nil] at h7
      simp only [Zt] at h7
      generalize e.ops.getD j.toNat Op.nil=o at*
      refine ⟨⟨h5,hj⟩,V4,⟨⟨by show ZA o<=20000000000;omega,hro,il⟩,V3,V3⟩,?_,fun hq=> Z4 rfl ?_,fun hq=> ⟨V4,j+1,rfl,⟨V0,V0,?_⟩,V0⟩⟩
      .show 2*ZA o+1 < N
       omega
      .have hq':Zc e.list o (d - 1)=false:=hq
       rw [hat,<-h7,hq'];try rfl
      .have hq':Zc e.list o (d - 1)=true:=hq
       rw [<-h7,hq'];try rfl
     .have hw:Zt e.list e.ops (d - 1)=true:=by
       rw [<-h7,Q8 V0];try rfl
      rw [hw,QH] at hat
      refine ⟨⟨hm,fun o ho=> Z5O (rightOs_mem hw ho)⟩,Z4 rfl ?_⟩
      rw [hat,Qk]
      (simp only [iB,vcS])
  .intro h
   rcases h with h | h | h
   .rcases hf.1.1 with h2 | h2
    .exact h1 h2
    .exact h.2 h2
   .omega
   .omega
theorem ZdI{l:List Tree}{i:Int}(h0:0<=i)(h:i < l.length):List.drop i.toNat (l.take (i+1).toNat)=[l.getD i.toNat Tree.nil]:=by
 rw [List.drop_take,show (i+1).toNat - i.toNat=1 by omega,YB h0 h Tree.nil]
 try rfl
theorem b31:ZA2:=by
 intro N list o d _ hp hN
 simp only [Zes,Zmu] at hp hN
 obtain ⟨⟨hm,hr,hil⟩,hd0,hd1⟩:=hp
 obtain ⟨ik,inn,rl,re⟩:=JQ hr
 rw [ZW] at hm hN
 have hll:=Zw o.l
 have hep:=Z3r o.e
 have hat:=Jw list o d
 rw [ZlE hd0,Z93] at hat
 refine ZBj N list o d _ ?_;(try simp only [iB,vcT,forall_eq])
 (simp only [iB,vcS]);(try simp only [iB,vcT]);(try simp only [vcU])
 try (simp only [Tree.eta,Edit.eta,Tree.kind_mk,Tree.words_mk,Tree.kids_mk])
 refine ⟨fun h0=> ⟨fun _=> by simp only [Zcu];omega,Z4 rfl ?_⟩,fun h0=> ⟨fun hc=> Z4 rfl ?_,fun hc=> ⟨fun h3=> ?_,fun h3=> ⟨fun _=> ⟨⟨V3,re⟩,hd0,hd1⟩,fun _=> by simp only [ZfG];omega,fun hq=> Z4 rfl ?_,fun hq=> Z4 rfl ?_⟩⟩⟩⟩
 .rw [hat,if_pos h0,Qk]
  (simp only [iB,vcS])
  constructor
  .rintro ⟨h1,h2⟩;exact ⟨V0,h2⟩
  .rintro ⟨h1,h2⟩;exact ⟨V0,h2⟩
 .rw [hat,if_neg h0,V1]
 .rw [if_neg h0,JI,if_pos h3] at hat
  refine Zb (ι:=Int) (fun p=> Z8s list o d p) (fun p=> 0<=p/\p<=o.l.length/\Ju list (o.l.drop p.toNat)=Ju list o.l) (fun p=> ((o.l.length:Int) - p).toNat) 0 rfl ⟨V0,V0,by simp⟩ ?_
  rintro i ⟨h4,h5,h6⟩
  refine Zsd N list o d i _ _ ?_;(try simp only [iB,vcT,forall_eq])
  (simp only [iB,vcS]);(try simp only [iB,vcT]);(try simp only [vcU])
  try (simp only [Tree.eta,Edit.eta,Tree.kind_mk,Tree.words_mk,Tree.kids_mk])
  refine ⟨fun hi=> ?_,fun hi=> ?_⟩
  .have hmem:=Zh (l:=o.l) (i:=i.toNat) V0 Tree.nil
   have hrt:=Ja rl hmem
   have hmt:=J5 hmem
   rw [ZdI h4 hi]
   rw [YB h4 hi Tree.nil] at h6
   simp only [Ju] at h6
   generalize o.l.getD i.toNat Tree.nil=t at*
   refine ⟨V4,V0,⟨by simp only [Zn,Zl,List.length_nil];omega,⟨hil,fun x hx=> (by cases hx),hrt,trivial⟩,V3,V3⟩,fun hq=> Z4 rfl ?_,fun hq=> ⟨V4,i+1,rfl,⟨V0,V0,?_⟩,V0⟩⟩
   .rw [hat,<-h6,hq];try rfl
   .rw [<-h6,hq];try rfl
  .have hw:Ju list o.l=true:=by
    rw [<-h6,Q8 V0];try rfl
   rw [hw,QH] at hat
   refine ⟨fun _=> by simp only [Zcu];omega,Z4 rfl ?_⟩
   rw [hat,Qk]
   (simp only [iB,vcS])
   simp only [Int.natCast_pos]
 .rw [hat,if_neg h0,JI,if_neg h3]
  rcases hq with hq | hq
  .have:¬(o.l.length=0/\o.e.kind≠0/\7 < list):=V0
   rw [decide_eq_false this];try rfl
  .rw [hq];simp
 .rw [hat,if_neg h0,JI,if_neg h3,hq.2]
  have:o.l.length=0/\o.e.kind≠0/\7 < list:=V0
  rw [decide_eq_true this,Qk]
  (simp only [iB,vcS])
  simp only [true_and,Xh,decide_eq_true_eq,and_assoc,or_assoc]
theorem Zk0:Contract Try.prog cfg 15 Z20/\Contract Try.prog cfg 31 ZnO:=ZmH c29 c30 c48 c17 c32 b15 b31
theorem ZmK(e:Edit):Z1C e=(decide (Z0m e.ops 0<=2000/\Z0l e.ops 0<=2000) && Z4l e.kids && Z62 e.ops):=by
 obtain ⟨k,o,nw,w,ks,l,os⟩:=e;rfl
theorem ZhJ(k:Kid):ZhK k=Z1C k.e:=by cases k;rfl
theorem Zjd(o:Op):Zls o=Z1C o.e:=by cases o;rfl
theorem Z9l{e:Edit}{d:Int}(h:Z0 e d=true):(∀ k∈e.kids,Z0 k.e (d - 1)=true/\k.e.kind≠0)/\∀ o∈e.ops,Zc e.list o (d - 1)=true:=by
 rw [Z3h] at h
 split at h
 .cases h
 .split at h
  .cases h
  .rename_i h1 h2
   split at h
   .rename_i h3
    have hk:e.kids=[]:=Q3 V0
    have ho:e.ops=[]:=Q3 V0
    rw [hk,ho]
    exact ⟨fun k hk=> (by cases hk),fun o ho=> (by cases ho)⟩
   .simp only [Q1] at h
    exact ⟨fun k hk=> Zag h.1.1.1.2 hk,fun o ho=> rightOs_mem h.1.2 ho⟩
theorem ZgG{e:Edit}(h:Z11 e=true):e.kind=0/\ZR e.old=true/\ZR e.new=true/\e.words=[]/\e.kids=[]/\e.ops=[]/\e.list=0:=by
 simp only [Z11,Q1,decide_eq_true_eq] at h
 obtain ⟨⟨⟨h1,h2⟩,h3⟩,h4,h5,h6,h7⟩:=h
 exact ⟨h1,h2,h3,Q3 h4,Q3 h5,Q3 h6,h7⟩
theorem Za9{e:Edit}(h:Z11 e=true)(d:Int)(hd:d≠0):Z0 e d=true:=by
 obtain ⟨h1,h2,h3,h4,h5,h6,h7⟩:=ZgG h
 rw [Z3h,h1,h2,h3,h4,h5,h6,h7,JI,if_neg (by simp),JI]
 simp [Zp,Zu,Zt,Z0m,Z0l]
theorem Zdv{list:Int}{o:Op}{d:Int}(h:Zc list o d=true):∃ d',Z0 o.e d'=true:=by
 rw [Jw] at h
 split at h
 .simp only [Q1] at h
  exact ⟨1,Za9 h.2 1 V0⟩
 .split at h
  .cases h
  .split at h
   .simp only [Q1] at h
    exact ⟨1,Za9 h.2 1 V0⟩
   .simp only [Q1] at h
    exact ⟨d,h.1.2⟩
theorem c16:Contract Try.prog cfg 16 Z4T:=by
 refine Zwr c32 ?_
 intro N e _ hp hN
 simp only [Zas,ZhC] at hp hN
 obtain ⟨⟨hm,hr⟩,dd,hrt⟩:=hp
 obtain ⟨ik,ro,rn,rw',il,rk,ros⟩:=Z1K hr
 have hme:=Y3 e
 have hkl:=Yb e.kids
 have hol:=ZU e.ops
 have hat:=ZmK e
 obtain ⟨hrk,hro⟩:=Z9l hrt
 refine ZBy N e _ ?_;(try simp only [iB,vcT,forall_eq])
 (simp only [iB,vcS]);(try simp only [iB,vcT]);(try simp only [vcU])
 try (simp only [Tree.eta,Edit.eta,Tree.kind_mk,Tree.words_mk,Tree.kids_mk])
 refine ⟨⟨hm,fun o ho=> Z5O (hro o ho)⟩,fun hq=> Z4 rfl (by rw [hat,decide_eq_false V0];rfl),fun hq=> ?_⟩
 rw [decide_eq_true V0,QH] at hat
 refine Zb (ι:=Int) (fun p=> Z8E e p) (fun p=> 0<=p/\p<=e.kids.length/\Z4l (e.kids.drop p.toNat)=Z4l e.kids) (fun p=> ((e.kids.length:Int) - p).toNat) 0 rfl ⟨V0,V0,by simp⟩ ?_
 rintro i ⟨h4,h5,h6⟩
 refine Zsr N e i _ _ ?_;(try simp only [iB,vcT,forall_eq])
 (simp only [iB,vcS]);(try simp only [iB,vcT]);(try simp only [vcU])
 try (simp only [Tree.eta,Edit.eta,Tree.kind_mk,Tree.words_mk,Tree.kids_mk])
 refine ⟨fun hi=> ?_,fun hi=> ?_⟩
 .have hmem:=Zh (l:=e.kids) (i:=i.toNat) V0 (KidOf.mk 0 Edit.nil)
  have hrr:=YU rk hmem
  have hmm:=JA hmem
  have hri:=hrk _ hmem
  rw [YB h4 hi (KidOf.mk 0 Edit.nil)] at h6
  simp only [Z4l,ZhJ] at h6
  generalize e.kids.getD i.toNat (KidOf.mk 0 Edit.nil)=k at*
  refine ⟨⟨h4,hi⟩,⟨⟨V3,hrr.2⟩,_,hri.1⟩,by simp only [ZhC];omega,fun hq=> Z4 rfl (by rw [hat,<-h6,hq];rfl),fun hq=> ⟨V4,i+1,rfl,⟨V0,V0,by rw [<-h6,hq];rfl⟩,V0⟩⟩
 .have hw:Z4l e.kids=true:=by
   rw [<-h6,Q8 V0];try rfl
  rw [hw,QH] at hat
  refine Zb (ι:=Int) (fun p=> Z8D e p) (fun p=> 0<=p/\p<=e.ops.length/\Z62 (e.ops.drop p.toNat)=Z62 e.ops) (fun p=> ((e.ops.length:Int) - p).toNat) 0 rfl ⟨V0,V0,by simp⟩ ?_
  rintro j ⟨g4,g5,g6⟩
  refine Zsq N e j _ _ ?_;(try simp only [iB,vcT,forall_eq])
  (simp only [iB,vcS]);(try simp only [iB,vcT]);(try simp only [vcU])
  try (simp only [Tree.eta,Edit.eta,Tree.kind_mk,Tree.words_mk,Tree.kids_mk])
  refine ⟨fun hi=> ?_,fun hi=> ?_⟩
  .have hmem:=Zh (l:=e.ops) (i:=j.toNat) V0 Op.nil
   have hrr:=JQ (Z08 ros hmem)
   have hmm:=Yl hmem
   have hri:=Zdv (hro _ hmem)
   rw [ZW] at hmm
   rw [YB g4 hi Op.nil] at g6
   simp only [Z62,Zjd] at g6
   generalize e.ops.getD j.toNat Op.nil=o at*
   refine ⟨⟨g4,hi⟩,⟨⟨V3,hrr.2.2.2⟩,hri⟩,by simp only [ZhC];omega,fun hq=> Z4 rfl (by rw [hat,<-g6,hq];rfl),fun hq=> ⟨V4,j+1,rfl,⟨V0,V0,by rw [<-g6,hq];rfl⟩,V0⟩⟩
  .refine Z4 rfl ?_
   rw [hat,<-g6,Q8 V0];try rfl
theorem c10:Contract Try.prog cfg 10 Zc3:=by
 refine Zww c14 Zk0.1 c16 ?_
 intro e _ hp
 simp only [Zli] at hp
 refine ZBE e _ ?_;(try simp only [iB,vcT,forall_eq])
 try (simp only [Tree.eta,Edit.eta,Tree.kind_mk,Tree.words_mk,Tree.kids_mk])
 refine ⟨hp.1,fun hf=> ?_,fun hf=> ?_,Z4 rfl ?_⟩
 .have:=Z3N (by simpa using hf)
  exact ⟨⟨V3,hp.2⟩,V3,V3⟩
 .simp only [Zqi,decide_eq_true_eq] at hf
  have:=Z3N hf.1
  exact ⟨⟨V3,hp.2⟩,64,hf.2⟩
 .show _=Z10 e
  simp only [Z10]
  rw [Qk]
  (simp only [iB,vcS])
end Go.AM.Ytfapacabjkhepaa
namespace Go.AM
noncomputable def eqX{α:Type}(a b:α):Bool:=@decide (a=b) (Classical.propDecidable _)
theorem Z1f{α:Type}{a b:α}:eqX a b=true↔a=b:=by unfold eqX;exact @decide_eq_true_iff _ (Classical.propDecidable _)
@[simp] theorem ZzF {α:Type} (a:α):eqX a a=true:=Z1f.2 rfl
def ZO(o:Op)(n:Int):Op:=if Z5 o<=n then o else if o.kind=0 then ⟨o.kind,n,o.l,o.e⟩ else ⟨o.kind,o.n,o.l.take n.toNat,o.e⟩
def Z07(o:Op)(n:Int):Op:=if o.kind=0 then ⟨o.kind,o.n - n,o.l,o.e⟩ else ⟨o.kind,o.n,o.l.drop n.toNat,o.e⟩
def Y8(l:List Op)(n:Int):List Op:=if Z5 (l.getD 0 Op.nil)<=n then l.drop 1 else Z07 (l.getD 0 Op.nil) n ::l.drop 1
def sgl(a:Int)(l:List Op):Bool:=decide (l.length≠0/\(l.getD 0 Op.nil).kind=a)
def YV(o:Op):Prop:=
 (o.kind=0/\o.l=[]/\(1<=o.n/\o.n<=1048576)/\o.e=Edit.nil)\/((o.kind=1\/o.kind=2)/\o.n=0/\o.l≠[]/\o.e=Edit.nil)\/(o.kind=3/\o.n=0/\o.l=[])
def Z9t(l:List Op):Prop:=(∀ o∈l,YV o)/\Zr l<=20000000000
theorem J7(l:List Op)(n:Int)(h:l.length≠0):(Y8 l n).length<=l.length:=by
 unfold Y8
 split <;> simp <;> omega
theorem J6(l:List Op)(n:Int)(h:l.length≠0)(hn:Z5 (l.getD 0 Op.nil)<=n):(Y8 l n).length < l.length:=by
 unfold Y8
 rw [if_pos hn]
 simp;omega
def Yo(ap aq:Int)(p q:List Op)(out:List Piece):List Piece × Bool × List Op × List Op:=
 if h:sgl ap p=true then Yo ap aq (p.drop 1) q (out++[⟨1,p.getD 0 Op.nil,Op.nil⟩])
 else if h2:sgl aq q=true then Yo ap aq p (q.drop 1) (out++[⟨2,Op.nil,q.getD 0 Op.nil⟩])
 else if h3:p.length=0\/q.length=0 then
  if decide (p.length=0)=decide (q.length=0) then (out,true,p,q) else ([],false,p,q)
 else
  Yo ap aq (Y8 p (min (Z5 (p.getD 0 Op.nil)) (Z5 (q.getD 0 Op.nil)))) (Y8 q (min (Z5 (p.getD 0 Op.nil)) (Z5 (q.getD 0 Op.nil))))
   (out++[⟨0,ZO (p.getD 0 Op.nil) (min (Z5 (p.getD 0 Op.nil)) (Z5 (q.getD 0 Op.nil))),ZO (q.getD 0 Op.nil) (min (Z5 (p.getD 0 Op.nil)) (Z5 (q.getD 0 Op.nil)))⟩])
termination_by p.length+q.length
decreasing_by
 .have:=(of_decide_eq_true h).1;rw [QI];omega
 .have:=(of_decide_eq_true h2).1;rw [QI];omega
 .rcases Int.le_total (Z5 (p.getD 0 Op.nil)) (Z5 (q.getD 0 Op.nil)) with hm | hm
  .have a:=J6 p _ V0 (Xg (Z5 (p.getD 0 Op.nil)))
   have b:=J7 q (Z5 (p.getD 0 Op.nil)) V0
   rw [Int.min_eq_left hm];omega
  .have a:=J6 q _ V0 (Xg (Z5 (q.getD 0 Op.nil)))
   have b:=J7 p (Z5 (q.getD 0 Op.nil)) V0
   rw [Int.min_eq_right hm];omega
def Zf6(i alone:Int)(o:Op):List AUnit:=
 (if o.kind=0 then List.replicate o.n.toNat ⟨i,0,Tree.nil,Edit.nil,false⟩ else [])
  ++(o.l.map (fun t=> ⟨i,o.kind,t,Edit.nil,decide (o.kind=alone)⟩)
  ++(if o.kind=3 then [⟨i,3,Tree.nil,o.e,false⟩] else []))
def opU(u:AUnit):Op:=if u.kind=0 then ⟨0,1,[],Edit.nil⟩ else if u.kind=3 then ⟨3,0,[],u.e⟩ else ⟨u.kind,0,[u.t],Edit.nil⟩
end Go.AM
namespace Go.AM.Ytfapacabjkhepaa
open Go.AM Go.Proofs
noncomputable section
def ZlN:ArgL (Op × Unit):=(.cons (aEl .op) .nil)
def Z5f(a:Op × Unit):Prop:=ZA a.1<=20000000000/\0<=OpOf.n a.1/\OpOf.n a.1<=1048576
def Zoa(a:Op × Unit):V U:= .c (ci (Z5 a.1))
def Z2x:Fs U:=fs ZlN (fun a=> [Z5f a]) Zoa
def Zge:ArgM ((List Op × Int × Unit) × Unit):=(.obj 0 (.cons (cSl .op) (.cons (Zig .i64) .nil)) .nil)
def Z2W(a:(List Op × Int × Unit) × Unit):Prop:=(a.1.1).length<=120000000000
def Zo9(a:(List Op × Int × Unit) × Unit):V U:= .c (.bool (decide ((a.1.1).length=0)))
def ZkM(a:(List Op × Int × Unit) × Unit):List (List (C U)):=[[sU .op a.1.1 .unk,ci a.1.2.1]]
def Z2w:Fs U:=fsX Zge (fun a=> [Z2W a]) Zo9 ZkM
def ZtR(a:(List Op × Int × Unit) × Unit):V U:= .c (.bool (sgl a.1.2.1 a.1.1))
def ZbA:Fs U:=fsX Zge (fun a=> [Z2W a]) ZtR ZkM
def Zgf:ArgM ((List Op × Int × Unit) × Int × Unit):=(.obj 0 (.cons (cSl .op) (.cons (Zig .i64) .nil)) (.cons (Yu .i64) .nil))
def Z6T(a:(List Op × Int × Unit) × Int × Unit):Prop:=Z9t a.1.1/\(a.1.1).length≠0/\1<=a.2.1/\a.2.1<=120000000000
def Zcp(a:(List Op × Int × Unit) × Int × Unit):V U:= .agg (enc .op (ZO ((a.1.1).getD 0 Op.nil) a.2.1))
def Z7x(a:(List Op × Int × Unit) × Int × Unit):List (List (C U)):=[[sU .op (Y8 a.1.1 a.2.1) .unk,ci a.1.2.1]]
def Z7q:Fs U:=fsX Zgf (fun a=> [Z6T a]) Zcp Z7x
def Zk5:ArgM ((List Op × Int × Unit) × (List Op × Int × Unit) × Unit):=(.obj 0 (.cons (cSl .op) (.cons (Zig .i64) .nil)) (.obj 1 (.cons (cSl .op) (.cons (Zig .i64) .nil)) .nil))
def Zl8(a:(List Op × Int × Unit) × (List Op × Int × Unit) × Unit):Prop:=Z9t a.1.1/\Z9t a.2.1.1
def ZkN(a:(List Op × Int × Unit) × (List Op × Int × Unit) × Unit):V U:= .tup [(false,[sU .piece ((Yo a.1.2.1 a.2.1.2.1 a.1.1 a.2.1.1 []).1) .unk]),(false,[.bool ((Yo a.1.2.1 a.2.1.2.1 a.1.1 a.2.1.1 []).2.1)])]
def Zfs(a:(List Op × Int × Unit) × (List Op × Int × Unit) × Unit):List (List (C U)):=[[sU .op ((Yo a.1.2.1 a.2.1.2.1 a.1.1 a.2.1.1 []).2.2.1) .unk,ci a.1.2.1],[sU .op ((Yo a.1.2.1 a.2.1.2.1 a.1.1 a.2.1.1 []).2.2.2) .unk,ci a.2.1.2.1]]
def Z97:Fs U:=fsX Zk5 (fun a=> [Zl8 a]) ZkN Zfs
def Zqj:ArgL (List Op × List Op × Unit):=(.cons (aSl .op) (.cons (aSl .op) .nil))
def Zoj(a:List Op × List Op × Unit):Prop:=Z9t a.1/\Z9t a.2.1
def ZtS(a:List Op × List Op × Unit):V U:= .tup [(false,[sU .piece ((Yo 1 2 a.1 a.2.1 []).1) .unk]),(false,[.bool ((Yo 1 2 a.1 a.2.1 []).2.1)])]
def Z43:Fs U:=fs Zqj (fun a=> [Zoj a]) ZtS
def ZoS:Ze U:=lvl [([1],[1]),([1,5],[1]),([2],[]),([2],[])]
abbrev ZBN(p:List Nat):=AW (Z2 ZjE) Try.f101 ZoS p
theorem Zz8(o:Op)(Q:QT)(h:(iB (o.kind==3) ((Q .ret (L2 [pI 2 1] []))) ((InR (o.n+(o.l.length:Int)))/\(Q .ret (L2 [pI 2 (o.n+(o.l.length:Int))] []))))):
  ZBN [] (L2 [(0,.agg (enc .op o))] []) Q:=
 Eq.mpr V5 h
def ZtM(o:Op):Prop:=AW (Z2 ZjE) Try.f101 ZoS [] (Zj (ZlN.can (o,())) []) (EQ Try.f101 (Zoa (o,())) [])
theorem ZsS(hb:∀ (o:Op) (_:Unit),Z5f (o,())->ZtM o):CT 101 Z2x:=
 Z3 (l:=[]) Zk rfl trivial ZoS Try.func101 rfl rfl 1 (fun _=> rfl) V2 (fun ⟨o,_⟩=> hb o ())
def ZoR:Ze U:=lvk [([0],[((.x 0),[])]),([2],[((.x 0),[])])]
abbrev ZBM(p:List Nat):=AW (Z2 ZjE) Try.f102 ZoR p
theorem Zz7(l:List Op)(alone:Int)(Q:QT)(h:(Q .ret (L2 [pB 2 (((l.length:Int):Int)==0)] [(.x 0,[sU .op l .unk,ci alone])]))):
  ZBM [] (L2 [(0,.ptr (.x 0) 0)] [(.x 0,[sU .op l .unk,ci alone])]) Q:=
 Eq.mpr V5 h
def ZtL(l:List Op)(alone:Int):Prop:=AW (Z2 ZjE) Try.f102 ZoR [] (Zj (Zge.can ((l,alone,()),())) (Zge.canX ((l,alone,()),()))) (EQ Try.f102 (Zo9 ((l,alone,()),())) (ZkM ((l,alone,()),())))
theorem ZsR(hb:∀ (l:List Op) (alone:Int) (_:Unit),Z2W ((l,alone,()),())->ZtL l alone):CT 102 Z2w:=
 J0 (l:=[]) Zk rfl trivial ZoR Try.func102 rfl rfl 1 (fun _=> rfl) V2 (fun ⟨⟨l,alone,_⟩,_⟩=> hb l alone ())
def Zp5:List (FuncId × Fs U):=[(102,Z2w)]
abbrev A99(p:List Nat):=AW (Z2 Zp5) Try.f99 ZoR p
theorem ZAe(l:List Op)(alone:Int)(Q:QT)(h:let z0:= !(decide (l.length=0));((Z2W ((l,alone,()),()))/\(Tt z0)/\(Tt z0)/\(Tt z0)/\(Tt z0)/\(z0=true->(0:Int)<=0/\0 < (l.length:Int))/\(Tt z0)/\(Tt z0)/\(Tt z0)/\(Tt z0)/\(Tt z0)/\(Tt z0)/\(Tt z0)/\(Tt z0)/\(Q .ret (L2 [(2,.c (.bool (bif z0 then (((OpOf.kind (List.getD l (Int.toNat 0) Op.nil)):Int)==alone) else false)))] [(.x 0,[sU .op l .unk,ci alone])])))):
  A99 [] (L2 [(0,.ptr (.x 0) 0)] [(.x 0,[sU .op l .unk,ci alone])]) Q:=
 Eq.mpr V5 h
def ZxG(l:List Op)(alone:Int):Prop:=AW (Z2 Zp5) Try.f99 ZoR [] (Zj (Zge.can ((l,alone,()),())) (Zge.canX ((l,alone,()),()))) (EQ Try.f99 (ZtR ((l,alone,()),())) (ZkM ((l,alone,()),())))
theorem Zvs(Zn7:CT 102 Z2w)(hb:∀ (l:List Op) (alone:Int) (_:Unit),Z2W ((l,alone,()),())->ZxG l alone):CT 99 ZbA:=
 J0 (l:=[(102,Z2w)]) Zk rfl (⟨Zn7,trivial⟩) ZoR Try.func99 rfl rfl 1 (fun _=> rfl) V2 (fun ⟨⟨l,alone,_⟩,_⟩=> hb l alone ())
def Zlw:List (FuncId × Fs U):=[(101,Z2x)]
def ZoT:Ze U:=lvk [([0,1,4],[4,((.x 0),[])]),([0,1,4,5],[4,5,((.x 0),[])]),([0,1,4,5,17],[4,5,((.x 0),[])]),([4,5],[4,5,((.x 0),[])]),([4],[4,((.x 0),[])]),([0,1,4,5,6,7],[4,5,6,7,((.x 0),[])]),([0,1,4,5,6,7,31],[4,5,6,7,((.x 0),[])]),([0,4,6,7],[4,6,7,((.x 0),[])]),([0,4,6,7],[4,6,7,((.x 0),[])]),([4,6],[4,6,((.x 0),[])]),([4],[4,((.x 0),[])])]
abbrev ZBO(p:List Nat):=AW (Z2 Zlw) Try.f100 ZoT p
theorem Zz9(l:List Op)(alone n:Int)(Q:QT)(h:∀ y_1,y_1=(List.getD l (Int.toNat 0) Op.nil)->∀ y_2,y_2=y_1->∀ y_3,y_3=(y_1.e)->let z0:=List.drop (Int.toNat 1) l;(((0:Int)<=0/\0 < (l.length:Int))/\((Z5f (y_2,()))/\(iB (decide (((Z5 y_2):Int)<=n)) (((0:Int)<=1/\1<=(l.length:Int))/\(Q .ret (L2 [pL 4] [(.loc 4,(enc .op y_1)),(.x 0,[sU .op z0 .unk,ci alone])]))) ((iB (y_1.kind==0) ((InR (y_1.n - n))/\(((0:Int)<=1/\1<=(l.length:Int))/\((([(OpOf.mk y_1.kind (y_1.n - n) y_1.l y_3)]).length+z0.length)*240<=140737488355328)/\(Q .ret (L2 [pL 4] [(.loc 4,([ci y_1.kind,ci n,sU .tree y_1.l .unk]++enc .edit y_1.e)),(.x 0,[sU .op (([(OpOf.mk y_1.kind (y_1.n - n) y_1.l y_3)])++z0) (.own (.x 0 0)),ci alone])])))) (((0:Int)<=n/\n<=(y_1.l.length:Int))/\(n=n)/\((0:Int)<=n/\n<=(y_1.l.length:Int))/\(((0:Int)<=1/\1<=(l.length:Int))/\((([(OpOf.mk y_1.kind y_1.n (List.drop n.toNat y_1.l) y_3)]).length+z0.length)*240<=140737488355328)/\(Q .ret (L2 [pL 4] [(.loc 4,([ci y_1.kind,ci y_1.n,sU .tree (List.take n.toNat y_1.l) .full]++enc .edit y_1.e)),(.x 0,[sU .op (([(OpOf.mk y_1.kind y_1.n (List.drop n.toNat y_1.l) y_3)])++z0) (.own (.x 0 0)),ci alone])])))))))))):
  ZBO [] (L2 [(0,.ptr (.x 0) 0),pI 1 n] [(.x 0,[sU .op l .unk,ci alone])]) Q:=
 Eq.mpr V5 (h _ rfl _ (Jy _) _ (Zf _))
def ZtN(l:List Op)(alone n:Int):Prop:=AW (Z2 Zlw) Try.f100 ZoT [] (Zj (Zgf.can ((l,alone,()),n,())) (Zgf.canX ((l,alone,()),n,()))) (EQ Try.f100 (Zcp ((l,alone,()),n,())) (Z7x ((l,alone,()),n,())))
theorem ZsT(Zn8:CT 101 Z2x)(hb:∀ (l:List Op) (alone:Int) (n:Int) (_:Unit),Z6T ((l,alone,()),n,())->ZtN l alone n):CT 100 Z7q:=
 J0 (l:=[(101,Z2x)]) Zk rfl (⟨Zn8,trivial⟩) ZoT Try.func100 rfl rfl 2 (fun _=> rfl) V2 (fun ⟨⟨l,alone,_⟩,n,_⟩=> hb l alone n ())
def Zp6:List (FuncId × Fs U):=[(99,ZbA),(100,Z7q),(101,Z2x),(102,Z2w)]
def Zwy:Ze U:=lvk [([0,1],[((.x 0),[]),((.x 1),[])]),([0,1,(6,[.own .piece])],[((.x 0),[]),((.x 1),[])]),([0,1,6,7],[((.x 0),[]),((.x 1),[])]),([0,1,(6,[.own .piece])],[((.x 0),[]),((.x 1),[])]),([0,1,6,33],[((.x 0),[]),((.x 1),[])]),([0,1,(6,[.own .piece])],[((.x 0),[]),((.x 1),[])]),([0,1,6,49],[((.x 0),[]),((.x 1),[])]),([0,1,(6,[.own .piece])],[((.x 0),[]),((.x 1),[])]),([0,1,6,65],[((.x 0),[]),((.x 1),[])]),([6,76],[((.x 0),[]),((.x 1),[])]),([4,5],[((.x 0),[]),((.x 1),[])]),([4,5],[((.x 0),[]),((.x 1),[])])]
def Z3y(pl:List Op)(pa:Int)(ql:List Op)(qa:Int)(mx0_0 mx1_0:List Op)(mx1_1:Int)(x6:List Piece):LSt U:=(L2 [(0,.ptr (.x 0) 0),(1,.ptr (.x 1) 0),(6,.c (sU .piece x6 (.own (.e 6 0))))] [(.x 0,[sU .op mx0_0 .unk,ci pa]),(.x 1,[sU .op mx1_0 .unk,ci mx1_1])])
abbrev A98(p:List Nat):=AW (Z2 Zp6) Try.f98 Zwy p
theorem ZAf(pl:List Op)(pa:Int)(ql:List Op)(qa:Int)(Q:QT)(h:(Zi (A98 [1,1,0,0]) (Z3y pl pa ql qa pl ql qa []) (xB 0 Q))):
  A98 [] (L2 [(0,.ptr (.x 0) 0),(1,.ptr (.x 1) 0)] [(.x 0,[sU .op pl .unk,ci pa]),(.x 1,[sU .op ql .unk,ci qa])]) Q:=
 Eq.mpr V5 h
theorem Zrv(pl:List Op)(pa:Int)(ql:List Op)(qa:Int)(mx0_0 mx1_0:List Op)(mx1_1:Int)(x6:List Piece)(N0:NT)(Q:QT)(h:∀ y_1,y_1=(List.getD mx0_0 (Int.toNat 0) Op.nil)->∀ y_2,y_2=(List.getD mx1_0 (Int.toNat 0) Op.nil)->∀ y_3,y_3=(Edit.mk 0 (Tree.mk 0 [] []) (Tree.mk 0 [] []) [] [] 0 [])->∀ y_4,y_4=(List.getD (bif (!(decide (mx0_0.length=0))) then mx1_0 else mx1_0) (Int.toNat 0) Op.nil)->∀ y_5,y_5=y_1->∀ y_6,y_6=y_2->∀ y_7,y_7=y_4->∀ y_8,y_8=(ZO (mx0_0.getD 0 Op.nil) (Z5 y_5))->∀ y_9,y_9=(ZO (mx1_0.getD 0 Op.nil) (Z5 y_6))->∀ y_10,y_10=(ZO (mx0_0.getD 0 Op.nil) (if ((Z5 y_7):Int) < (Z5 y_5) then (Z5 y_7) else (Z5 y_5)))->∀ y_11,y_11=(ZO ((bif (!(decide (mx0_0.length=0))) then mx1_0 else mx1_0).getD 0 Op.nil) (if ((Z5 y_7):Int) < (Z5 y_5) then (Z5 y_7) else (Z5 y_5)))->let z5:=Z2W ((mx0_0,pa,()),());let z4:=Piece.mk 2 (OpOf.mk 0 0 [] y_3) y_9;let z3:=Piece.mk 1 y_8 (OpOf.mk 0 0 [] y_3);let z0:=decide (mx0_0.length=0);let z2:=bif (!z0) then mx1_1 else mx1_1;let z1:=bif (!z0) then mx1_0 else mx1_0;(Z2W ((mx0_0,pa,()),()))/\(iB (sgl pa mx0_0) (((0:Int)<=0/\0 < (mx0_0.length:Int))/\(Z5f (y_5,()))/\(Z6T ((mx0_0,pa,()),(Z5 y_5),()))/\((x6.length+([z3]).length)*488<=140737488355328)/\(N0 (Z3y pl pa ql qa (Y8 mx0_0 (Z5 y_5)) mx1_0 mx1_1 (x6++([z3]))))) ((Z2W ((mx1_0,mx1_1,()),()))/\(iB (sgl mx1_1 mx1_0) (((0:Int)<=0/\0 < (mx1_0.length:Int))/\(Z5f (y_6,()))/\(Z6T ((mx1_0,mx1_1,()),(Z5 y_6),()))/\((x6.length+([z4]).length)*488<=140737488355328)/\(N0 (Z3y pl pa ql qa mx0_0 (Y8 mx1_0 (Z5 y_6)) mx1_1 (x6++([z4]))))) (z5/\(Tt (!z0))/\((!z0)=true->Z2W ((mx1_0,mx1_1,()),()))/\(z0=false->(!z0)=true)/\(iB (bif z0 then true else (decide (mx1_0.length=0))) (z5/\(Z2W ((z1,z2,()),()))/\(iB (z0 !=(decide (z1.length=0))) ((Q .ret (L2 [(4,.c (.nils)),pB 5 false] [(.x 0,[sU .op mx0_0 .unk,ci pa]),(.x 1,[sU .op z1 .unk,ci z2])]))) ((Q .ret (L2 [(4,.c (sU .piece x6 (.own (.e 4 0)))),pB 5 true] [(.x 0,[sU .op mx0_0 .unk,ci pa]),(.x 1,[sU .op z1 .unk,ci z2])]))))) (((0:Int)<=0/\0 < (mx0_0.length:Int))/\(Z5f (y_5,()))/\((0:Int)<=0/\0 < (z1.length:Int))/\(Z5f (y_7,()))/\((Z6T ((mx0_0,pa,()),(if ((Z5 y_7):Int) < (Z5 y_5) then (Z5 y_7) else (Z5 y_5)),()))/\(Z6T ((z1,z2,()),(if ((Z5 y_7):Int) < (Z5 y_5) then (Z5 y_7) else (Z5 y_5)),()))/\((x6.length+([(Piece.mk 0 y_10 y_11)]).length)*488<=140737488355328)/\(N0 (Z3y pl pa ql qa (Y8 mx0_0 (if ((Z5 y_7):Int) < (Z5 y_5) then (Z5 y_7) else (Z5 y_5))) (Y8 z1 (if ((Z5 y_7):Int) < (Z5 y_5) then (Z5 y_7) else (Z5 y_5))) z2 (x6++([(Piece.mk 0 y_10 y_11)])))))))))))):
  A98 [1,1,0,0] (Z3y pl pa ql qa mx0_0 mx1_0 mx1_1 x6) (xT N0 (xB 0 Q)):=
 Eq.mpr V5 (h _ rfl _ rfl _ rfl _ rfl _ (Jy _) _ (Jy _) _ (Jy _) _ (Jy _) _ (Jy _) _ (Jy _) _ (Jy _))
def ZxH(pl:List Op)(pa:Int)(ql:List Op)(qa:Int):Prop:=AW (Z2 Zp6) Try.f98 Zwy [] (Zj (Zk5.can ((pl,pa,()),(ql,qa,()),())) (Zk5.canX ((pl,pa,()),(ql,qa,()),()))) (EQ Try.f98 (ZkN ((pl,pa,()),(ql,qa,()),())) (Zfs ((pl,pa,()),(ql,qa,()),())))
theorem Zvt(c99:CT 99 ZbA)(Zxt:CT 100 Z7q)(Zn8:CT 101 Z2x)(Zn7:CT 102 Z2w)(hb:∀ (pl:List Op) (pa:Int) (ql:List Op) (qa:Int) (_:Unit),Zl8 ((pl,pa,()),(ql,qa,()),())->ZxH pl pa ql qa):CT 98 Z97:=
 J0 (l:=[(99,ZbA),(100,Z7q),(101,Z2x),(102,Z2w)]) Zk rfl (⟨c99,Zxt,Zn8,Zn7,trivial⟩) Zwy Try.func98 rfl rfl 2 (fun _=> rfl) V2 (fun ⟨⟨pl,pa,_⟩,⟨ql,qa,_⟩,_⟩=> hb pl pa ql qa ())
def Zp7:List (FuncId × Fs U):=[(98,Z97)]
def Zwz:Ze U:=lvl [([0,1],[]),([4,5],[])]
abbrev A95(p:List Nat):=AW (Z2 Zp7) Try.f95 Zwz p
theorem ZAi(p q:List Op)(Q:QT)(h:((Zl8 ((p,1,()),(q,2,()),()))/\(Q .ret (L2 [(4,.c (sU .piece ((Yo 1 2 p q []).1) .unk)),pB 5 ((Yo 1 2 p q []).2.1)] [])))):
  A95 [] (L2 [(0,.c (sU .op p .unk)),(1,.c (sU .op q .unk))] []) Q:=
 Eq.mpr V5 h
def ZxK(p q:List Op):Prop:=AW (Z2 Zp7) Try.f95 Zwz [] (Zj (Zqj.can (p,q,())) []) (EQ Try.f95 (ZtS (p,q,())) [])
theorem Zvv(c98:CT 98 Z97)(hb:∀ (p:List Op) (q:List Op) (_:Unit),Zoj (p,q,())->ZxK p q):CT 95 Z43:=
 Z3 (l:=[(98,Z97)]) Zk rfl (⟨c98,trivial⟩) Zwz Try.func95 rfl rfl 2 (fun _=> rfl) V2 (fun ⟨p,q,_⟩=> hb p q ())
end
theorem ZoB{o:Op}(h:ZA o<=20000000000):o.l.length<=20000000000:=by
 have:=Zw o.l
 rw [ZW] at h
 omega
theorem Z9p{o:Op}(h:YV o):0<=o.n/\o.n<=1048576:=by
 unfold YV at h
 omega
theorem YX(o:Op):Z5 o=if o.kind=3 then 1 else o.n+o.l.length:=rfl
theorem Zn8:Contract Try.prog cfg 101 Z2x:=by
 refine ZsS ?_
 intro o _ hp
 simp only [Z5f] at hp
 have hl:=ZoB hp.1
 refine Zz8 _ _ ?_;(try simp only [iB,vcT,forall_eq])
 (simp only [iB,vcS]);(try simp only [iB,vcT])
 exact ⟨fun hk=> Ym rfl (by rw [YX,if_pos hk]),fun hk=> ⟨V4,Ym rfl (by rw [YX,if_neg hk])⟩⟩
theorem Zn7:Contract Try.prog cfg 102 Z2w:=by
 refine ZsR ?_
 intro l al _ hp
 refine Zz7 _ _ _ ?_;(try simp only [iB,vcT,forall_eq])
 have e:((l.length:Int)==0)=decide (l.length=0):=by rw [Qk];(simp only [iB,vcS]);omega
 rw [e]
 exact Y6
theorem c99:Contract Try.prog cfg 99 ZbA:=by
 refine Zvs Zn7 ?_
 intro l al _ hp
 refine ZAe _ _ _ ?_;(try simp only [iB,vcT,forall_eq])
 have e:(bif (!(decide (l.length=0))) then ((OpOf.kind (List.getD l (Int.toNat 0) Op.nil))==al) else false)=sgl al l:=by
  rw [Qk]
  simp only [sgl]
  (simp only [iB,vcS])
  try rfl
 rw [e]
 refine ⟨hp,fun h=> ⟨V0,?_⟩,Y6⟩
 revert h
 (simp only [iB,vcS])
 omega
theorem c95(c98:Contract Try.prog cfg 98 Z97):Contract Try.prog cfg 95 Z43:=by
 refine Zvv c98 ?_
 intro p q _ hp
 refine ZAi _ _ _ ?_;(try simp only [iB,vcT,forall_eq])
 refine ⟨hp,?_⟩
 exact Y6
theorem Zxt:Contract Try.prog cfg 100 Z7q:=by
 refine ZsT Zn8 ?_
 intro l al n _ hp
 simp only [Z6T] at hp
 obtain ⟨⟨ho,hm⟩,hl,h1,h2⟩:=hp
 have hmem:=Zh (l:=l) (i:=0) V0 Op.nil
 have hok:=ho _ hmem
 have hmo:=Yl hmem
 have hlen:=ZU l
 refine Zz9 _ _ _ _ ?_;(try simp only [iB,vcT])
 rintro y rfl _ rfl _ rfl
 have e0:(Int.toNat 0)=0:=rfl
 have e1:(Int.toNat 1)=1:=rfl
 simp only [e0,e1]
 have hT:∀ o r,ZO (l.getD 0 Op.nil) n=o->Y8 l n=r->True:=fun _ _ _ _=> trivial
 have hon:=Z9p hok
 have hln:=YX (l.getD 0 Op.nil)
 (simp only [iB,vcS])
 generalize hy:l.getD 0 Op.nil=y at*
 refine ⟨⟨V0,V0⟩,⟨V3,hon⟩,fun hc=> ⟨⟨V0,V0⟩,?_⟩,fun hc=> ⟨fun hk=> ⟨V4,⟨V0,V0⟩,by simp;omega,?_⟩,fun hk=> ?_⟩⟩
 .have t1:ZO y n=y:=by rw [ZO,if_pos hc]
  have t2:Y8 l n=l.drop 1:=by rw [Y8,hy,if_pos hc]
  simp only [Zcp,Z7x,hy,t1,t2]
  exact Y6
 .have t1:ZO y n=⟨y.kind,n,y.l,y.e⟩:=by rw [ZO,if_neg hc,if_pos hk]
  have t2:Y8 l n=⟨y.kind,y.n - n,y.l,y.e⟩ ::l.drop 1:=by rw [Y8,hy,if_neg hc,Z07,if_pos hk]
  simp only [Zcp,Z7x,hy,t1,t2]
  exact Y6
 .have t1:ZO y n=⟨y.kind,y.n,y.l.take n.toNat,y.e⟩:=by rw [ZO,if_neg hc,if_neg hk]
  have t2:Y8 l n=⟨y.kind,y.n,y.l.drop n.toNat,y.e⟩ ::l.drop 1:=by rw [Y8,hy,if_neg hc,Z07,if_neg hk]
  simp only [Zcp,Z7x,hy,t1,t2]
  unfold YV at hok
  refine ⟨?_,?_,⟨V0,V0⟩,by simp;omega,?_⟩
  .split at hln <;> omega
  .split at hln <;> omega
  ·exact Y6
theorem Z2f(n:Nat):∀ (l:List Tree),Zl (l.drop n)<=Zl l:=by
 induction n with
 | zero=> intro l;simp
 | succ n ih=>
  intro l
  cases l with
  | nil=> simp
  | cons t r=> simp only [QQ,Zl];have:=ih r;omega
theorem ZcT(n:Nat):∀ (l:List Tree),Zl (l.take n)<=Zl l:=by
 induction n with
 | zero=> intro l;simp [Zl]
 | succ n ih=>
  intro l
  cases l with
  | nil=> simp
  | cons t r=> simp only [List.take_succ_cons,Zl];have:=ih r;omega
theorem Jq{o:Op}(h:YV o):1<=Z5 o:=by
 have:=YX o
 unfold YV at h
 have hl:o.l≠[]->0 < o.l.length:=XW.2
 rcases h with ⟨h1,h2,h3,h4⟩ | ⟨h1,h2,h3,h4⟩ | ⟨h1,h2,h3⟩
 .rw [h2] at this;simp at this;split at this <;> omega
 .have:=hl h3;split at* <;> omega
 .rw [if_pos h1] at this;omega
theorem Z7R{o:Op}(h:YV o)(hm:ZA o<=20000000000):Z5 o<=20000000000:=by
 have:=YX o
 have:=ZoB hm
 have:=Z9p h
 unfold YV at h
 rcases h with ⟨h1,h2,h3,h4⟩ | ⟨h1,h2,h3,h4⟩ | ⟨h1,h2,h3⟩
 .simp [h2,h1] at*;omega
 .split at* <;> omega
 .split at* <;> omega
theorem Z5p(o:Op)(r:List Op):Zr (o ::r)=ZA o+Zr r:=rfl
theorem Z5U{l:List Op}(h:Z9t l):Z9t (l.drop 1):=by
 cases l with
 | nil=> exact h
 | cons o r=>
  obtain ⟨h1,h2⟩:=h
  rw [Z5p] at h2
  exact ⟨fun x hx=> h1 x (Q0 _ hx),by simp only [QQ,QV];omega⟩
theorem Z9s{l:List Op}(h:Z9t l)(hl:l.length≠0):YV (l.getD 0 Op.nil)/\ZA (l.getD 0 Op.nil)<=20000000000/\ZA (l.getD 0 Op.nil)<=Zr l:=by
 have hm:=Zh (l:=l) (i:=0) V0 Op.nil
 have:=Yl hm
 exact ⟨h.1 _ hm,by have:=h.2;omega,this⟩
theorem Zdk{o:Op}{n:Int}(h:YV o)(h1:1<=n)(h2:¬Z5 o<=n):YV (Z07 o n)/\ZA (Z07 o n)<=ZA o:=by
 have hl:=YX o
 unfold Z07
 unfold YV at*
 by_cases hk:o.kind=0
 .rw [if_pos hk]
  refine ⟨Or.inl ?_,by simp only [ZW];omega⟩
  rcases h with h | h | h
  .obtain ⟨a,b,c,d⟩:=h
   rw [b,JI] at hl
   simp at hl
   exact ⟨a,b,V3,d⟩
  .omega
  .omega
 .rw [if_neg hk]
  have:=Z2f n.toNat o.l
  refine ⟨Or.inr ?_,by simp only [ZW];omega⟩
  rcases h with h | h | h
  .omega
  .obtain ⟨a,b,c,d⟩:=h
   rw [JI] at hl
   refine Or.inl ⟨a,b,?_,d⟩
   intro he
   have:=congrArg List.length he
   simp at this
   omega
  .rw [if_pos h.1] at hl;omega
theorem ZcE{l:List Op}{n:Int}(h:Z9t l)(hl:l.length≠0)(h1:1<=n):Z9t (Y8 l n):=by
 unfold Y8
 split
 .exact Z5U h
 .rename_i hc
  obtain ⟨a,b,c⟩:=Z9s h hl
  obtain ⟨d,e⟩:=Zdk a h1 hc
  have hd:=Z5U h
  refine ⟨fun x hx=> ?_,?_⟩
  .rcases Q6.1 hx with rfl | hx
   .exact d
   .exact hd.1 _ hx
  .rw [Z5p]
   obtain _ | ⟨o,r⟩:=l
   .simp at hl
   .have:=h.2
    rw [Z5p] at this
    simp at*
    omega
theorem ZdY(l:List Op):Y8 l (Z5 (l.getD 0 Op.nil))=l.drop 1:=by rw [Y8,if_pos (Xg _)]
theorem ZdZ(o:Op):ZO o (Z5 o)=o:=by rw [ZO,if_pos (Xg _)]
theorem ZkF{a:Int}{l:List Op}(h:sgl a l=true):l.length≠0:=(of_decide_eq_true h).1
theorem ZdK{α:Type}(b:Bool)(x:α):(bif b then x else x)=x:=by cases b <;> rfl
theorem c98:Contract Try.prog cfg 98 Z97:=by
 refine Zvt c99 Zxt Zn8 Zn7 ?_
 intro pl pa ql qa _ hp
 simp only [Zl8] at hp
 have hpl:=ZU pl
 have hql:=ZU ql
 have hP:=hp.1.2
 have hQ:=hp.2.2
 refine ZAf _ _ _ _ _ ?_;(try simp only [iB,vcT,forall_eq])
 refine Zb (ι:=List Op × List Op × List Piece) (fun s=> Z3y pl pa ql qa s.1 s.2.1 qa s.2.2) (fun s=> Z9t s.1/\Z9t s.2.1/\s.2.2.length+s.1.length+s.2.1.length<=40000000000/\Yo pa qa s.1 s.2.1 s.2.2=Yo pa qa pl ql []) (fun s=> s.1.length+s.2.1.length) (pl,ql,[]) rfl ⟨hp.1,hp.2,by simp;omega,rfl⟩ ?_
 rintro ⟨p,q,out⟩ ⟨h1,h2,h3,h4⟩
 refine Zrv _ _ _ _ _ _ _ _ _ _ ?_;(try simp only [iB,vcT])
 have e0:(Int.toNat 0)=0:=rfl
 simp only [e0,ZdK]
 dsimp only at h1 h2 h3 h4
 rintro z1 hy1 z2 hy2 y3 hy3 z4 hy4 y1 rfl y2 rfl y4 rfl y8 hy8 y9 hy9 y10 hy10 y11 hy11
 have ey:y4=y2:=hy4.trans hy2.symm
 rw [ey] at hy10 hy11 ⊢
 have e3:(OpOf.mk 0 0 [] y3:Op)=Op.nil:=by rw [hy3];try rfl
 rw [<-hy1,ZdZ] at hy8
 rw [<-hy2,ZdZ] at hy9
 have hmin:∀ a b:Int,(if a < b then a else b)=min b a:=by intro a b;omega
 rw [<-hy1,hmin] at hy10
 rw [<-hy2,hmin] at hy11
 simp only [hmin,e3,hy8,hy9]
 (simp only [iB,vcS])
 have o1:p.length≠0->YV y1/\ZA y1<=20000000000:=fun h=> by have:=Z9s h1 h;rw [<-hy1] at this;exact ⟨this.1,this.2.1⟩
 have o2:q.length≠0->YV y2/\ZA y2<=20000000000:=fun h=> by have:=Z9s h2 h;rw [<-hy2] at this;exact ⟨this.1,this.2.1⟩
 have tp:Y8 p (Z5 y1)=p.drop 1:=by rw [hy1];exact ZdY p
 have tq:Y8 q (Z5 y2)=q.drop 1:=by rw [hy2];exact ZdY q
 have hm1:=ZU p
 have hm2:=ZU q
 have hm3:=h1.2
 have hm4:=h2.2
 rw [Yo] at h4
 rw [<-hy1,<-hy2] at h4
 refine ⟨by simp only [Z2W];omega,fun hs=> ?_,fun hs=> ?_⟩
 .have hl:=ZkF hs
  obtain ⟨oa,ob⟩:=o1 hl
  have oc:=Jq oa
  have od:=Z7R oa ob
  rw [dif_pos hs] at h4
  refine ⟨⟨V0,V0⟩,⟨ob,Z9p oa⟩,⟨h1,hl,oc,V3⟩,by simp;omega,(p.drop 1,q,out++[⟨1,y1,Op.nil⟩]),by rw [tp],⟨Z5U h1,h2,by simp;omega,h4⟩,by simp;omega⟩
 .rw [dif_neg (by rw [hs];exact XZ)] at h4
  refine ⟨by simp only [Z2W];omega,fun hs2=> ?_,fun hs2=> ?_⟩
  .have hl:=ZkF hs2
   obtain ⟨oa,ob⟩:=o2 hl
   have oc:=Jq oa
   have od:=Z7R oa ob
   rw [dif_pos hs2] at h4
   refine ⟨⟨V0,V0⟩,⟨ob,Z9p oa⟩,⟨h2,hl,oc,V3⟩,by simp;omega,(p,q.drop 1,out++[⟨2,Op.nil,y2⟩]),by rw [tq],⟨h1,Z5U h2,by simp;omega,h4⟩,by simp;omega⟩
  .rw [dif_neg (by rw [hs2];exact XZ)] at h4
   refine ⟨by simp only [Z2W];omega,fun _=> by simp only [Z2W];omega,fun h=> h,fun hd=> ⟨by simp only [Z2W];omega,by simp only [Z2W];omega,fun he=> ?_,fun he=> ?_⟩,fun hd=> ?_⟩
   .rw [dif_pos hd,if_neg he] at h4
    simp only [ZkN,Zfs,<-h4]
    exact Y6
   .rw [dif_pos hd,if_pos he] at h4
    simp only [ZkN,Zfs,<-h4]
    exact Y6
   .obtain ⟨oa,ob⟩:=o1 hd.1
    obtain ⟨oc,od⟩:=o2 hd.2
    have a1:=Jq oa
    have a2:=Z7R oa ob
    have a3:=Jq oc
    have a4:=Z7R oc od
    rw [dif_neg V0,<-hy10,<-hy11] at h4
    have c1:=J7 p (min (Z5 y1) (Z5 y2)) hd.1
    have c2:=J7 q (min (Z5 y1) (Z5 y2)) hd.2
    have c3:Z5 y1<=min (Z5 y1) (Z5 y2)->(Y8 p (min (Z5 y1) (Z5 y2))).length < p.length:=fun h=> J6 p _ hd.1 (by rw [<-hy1];exact h)
    have c4:Z5 y2<=min (Z5 y1) (Z5 y2)->(Y8 q (min (Z5 y1) (Z5 y2))).length < q.length:=fun h=> J6 q _ hd.2 (by rw [<-hy2];exact h)
    refine ⟨⟨V0,V0⟩,⟨ob,Z9p oa⟩,⟨V0,V0⟩,⟨od,Z9p oc⟩,⟨h1,hd.1,V3,V3⟩,⟨h2,hd.2,V3,V3⟩,by simp;omega,
     (Y8 p (min (Z5 y1) (Z5 y2)),Y8 q (min (Z5 y1) (Z5 y2)),out++[⟨0,y10,y11⟩]),rfl,⟨ZcE h1 hd.1 V0,ZcE h2 hd.2 V0,by simp;omega,h4⟩,V3⟩
theorem ZjS{α:Type}{a b:α}(h:¬a=b):eqX a b=false:=by rw [<-Xy,Z1f];exact h
def vu(u:AUnit):Op × Bool:=(opU u,u.alone)
def vs(a:Int)(o:Op):List (Op × Bool):=(Zf6 0 a o).map vu
theorem Z7i{a n:Int}{o:Op}(h:YV o)(h1:1<=n)(hn:¬Z5 o<=n):vs a o=vs a (ZO o n)++vs a (Z07 o n)/\YV (ZO o n)/\Z5 (ZO o n)=n/\ZA (ZO o n)<=ZA o:=by
 have hl:=YX o
 rcases h with ⟨k0,k1,k2,k3⟩ | ⟨k0,k1,k2,k3⟩ | ⟨k0,k1,k2⟩
 .have e1:ZO o n=⟨o.kind,n,o.l,o.e⟩:=by rw [ZO,if_neg hn,if_pos k0]
  have e2:Z07 o n=⟨o.kind,o.n - n,o.l,o.e⟩:=by rw [Z07,if_pos k0]
  rw [JI,k1] at hl
  simp only [Qn] at hl
  rw [e1,e2]
  refine ⟨?_,Or.inl ⟨k0,k1,V3,k3⟩,?_,by simp [ZW]⟩
  .simp only [vs,Zf6,k0,k1]
   simp only [if_true,XQ,QF,Kd,List.map_replicate]
   rw [if_neg V2]
   simp only [XQ,Qp]
   rw [List.replicate_append_replicate]
   congr 1
   omega
  .rw [YX]
   dsimp only
   rw [JI,k1]
   simp
 .have e1:ZO o n=⟨o.kind,o.n,o.l.take n.toNat,o.e⟩:=by rw [ZO,if_neg hn,JI]
  have e2:Z07 o n=⟨o.kind,o.n,o.l.drop n.toNat,o.e⟩:=by rw [Z07,JI]
  rw [JI] at hl
  have hm:=ZcT n.toNat o.l
  rw [e1,e2]
  refine ⟨?_,Or.inr (Or.inl ⟨k0,k1,?_,k3⟩),?_,by simp only [ZW];omega⟩
  .simp only [vs,Zf6]
   rw [JI,JI]
   simp only [QF,Qp]
   rw [<-Kd,<-Kd,Qv]
  .intro he
   have:=congrArg List.length he
   simp only [Qj,Qn] at this
   omega
  .rw [YX]
   dsimp only
   rw [JI,Qj]
   omega
 .rw [if_pos k0] at hl
  omega
theorem Z2B{a:Int}{l:List Op}:sgl a l=true↔(l.length≠0/\(l.getD 0 Op.nil).kind=a):=by unfold sgl;exact decide_eq_true_iff
theorem Z41(o:Op)(n:Int):(ZO o n).kind=o.kind:=by
 unfold ZO;split
 .try rfl
 .split <;> rfl
theorem Zhs{t:Tree}(h:ZR t=true):t=Tree.nil:=by
 obtain ⟨k,w,ks⟩:=t
 have:=of_decide_eq_true h
 simp at this
 obtain ⟨rfl,rfl,rfl⟩:=this
 try rfl
theorem Ze1{e:Edit}(h:Z11 e=true):e=Edit.nil:=by
 obtain ⟨h1,h2,h3,h4,h5,h6,h7⟩:=ZgG h
 obtain ⟨k,o,n,w,ks,l,os⟩:=e
 simp at h1 h2 h3 h4 h5 h6 h7
 subst h1 h4 h5 h6 h7
 rw [Zhs h2,Zhs h3]
 try rfl
theorem Z6M{list:Int}{o:Op}{d:Int}(h:Zc list o d=true):YV o:=by
 rw [Jw] at h
 unfold YV
 split at h
 .rename_i h0
  simp only [Q1,decide_eq_true_eq] at h
  exact Or.inl ⟨h0,QX.1 h.1.2.2,⟨h.1.1,h.1.2.1⟩,Ze1 h.2⟩
 .split at h
  .cases h
  .rename_i h0 h1
   split at h
   .simp only [Q1,decide_eq_true_eq] at h
    refine Or.inr (Or.inl ⟨V0,V0,?_,Ze1 h.2⟩)
    exact XW.1 h.1.2
   .simp only [Q1,decide_eq_true_eq] at h
    exact Or.inr (Or.inr ⟨V0,V0,QX.1 h.1.1.1⟩)
end Go.AM.Ytfapacabjkhepaa
namespace Go.AM
def Z6r(list:Int)(e:Edit):Bool:=decide (e.kind=0\/(list=9/\e.kind=2/\e.words.length=0/\e.kids.length=0))
def Z7(l:List Tree):List Tree:=l.map Z1
def YH(w:WEdit):WEdit:=⟨w.at_,w.mask,w.new,w.old⟩
mutual
def Zq:Edit->Edit
 | .mk k o n w ks l os=> .mk k n o (w.map YH) (Y4 ks) l (Y9 os)
def Y4:List (KidOf Edit)->List (KidOf Edit)
 | []=> []
 | k ::r=> YL k ::Y4 r
def YL:KidOf Edit->KidOf Edit
 | ⟨a,e⟩=> ⟨a,Zq e⟩
def Y9:List (OpOf Edit)->List (OpOf Edit)
 | []=> []
 | o ::r=> ZY o ::Y9 r
def ZY:OpOf Edit->OpOf Edit
 | ⟨k,n,l,e⟩=> if k=1 then ⟨2,n,l,e⟩ else if k=2 then ⟨1,n,l,e⟩ else if k=3 then ⟨k,n,l,Zq e⟩ else ⟨k,n,l,e⟩
end
end Go.AM
namespace Go.AM
structure Wst where
 out:List Op
 gone:List Tree
 brought:List Tree
def Z0D(out:List Op)(g b:List Tree):List Op:=
 out++((if g.length=0 then [] else [⟨1,0,g,Edit.nil⟩])++(if b.length=0 then [] else [⟨2,0,b,Edit.nil⟩]))
def Z1F:List Op->Int->List Op
 | [],n=> [⟨0,n,[],Edit.nil⟩]
 | [o],n=> if o.kind=0 then [⟨o.kind,o.n+n,o.l,o.e⟩] else [o,⟨0,n,[],Edit.nil⟩]
 | o ::p ::r,n=> o ::Z1F (p ::r) n
def Z6(w:Wst):Wst:=⟨Z0D w.out w.gone w.brought,[],[]⟩
def ZX(w:Wst)(n:Int):Wst:=⟨Z1F (Z6 w).out n,[],[]⟩
mutual
def ZE:Edit->Edit
 | .mk k o n w ks l os=>
  if k=1 then .mk k (Z1 o) (Z1 n) [] [] l []
  else if k=2 then .mk k Tree.nil Tree.nil w (Z0p ks) l []
  else if k=3 then .mk k Tree.nil Tree.nil [] [] l (Z6 (YS l os ⟨[],[],[]⟩)).out
  else .mk k Tree.nil Tree.nil [] [] l []
def Z0p:List (KidOf Edit)->List (KidOf Edit)
 | []=> []
 | k ::r=> Z2c k ::Z0p r
def Z2c:KidOf Edit->KidOf Edit
 | ⟨a,e⟩=> ⟨a,ZE e⟩
def YS(list:Int):List (OpOf Edit)->Wst->Wst
 | [],s=> s
 | o ::r,s=> YS list r (Z1m list o s)
def Z1m(list:Int):OpOf Edit->Wst->Wst
 | ⟨k,n,l,e⟩,s=>
  if k=0 then ZX s n
  else if k=1 then ⟨s.out,s.gone++Z7 l,s.brought⟩
  else if k=2 then ⟨s.out,s.gone,s.brought++Z7 l⟩
  else if k=3 then (if Z6r list (ZE e)=true then ZX s 1 else ⟨(Z6 s).out++[⟨3,0,[],ZE e⟩],[],[]⟩)
  else s
end
theorem Z7U(e:Edit):ZE e=if e.kind=1 then .mk e.kind (Z1 e.old) (Z1 e.new) [] [] e.list []
  else if e.kind=2 then .mk e.kind Tree.nil Tree.nil e.words (Z0p e.kids) e.list []
  else if e.kind=3 then .mk e.kind Tree.nil Tree.nil [] [] e.list (Z6 (YS e.list e.ops ⟨[],[],[]⟩)).out
  else .mk e.kind Tree.nil Tree.nil [] [] e.list []:=by cases e;rfl
theorem Zev(k:Kid):Z2c k=⟨k.at_,ZE k.e⟩:=by cases k;rfl
theorem Z3l(list:Int)(o:Op)(s:Wst):Z1m list o s=if o.kind=0 then ZX s o.n
  else if o.kind=1 then ⟨s.out,s.gone++Z7 o.l,s.brought⟩
  else if o.kind=2 then ⟨s.out,s.gone,s.brought++Z7 o.l⟩
  else if o.kind=3 then (if Z6r list (ZE o.e)=true then ZX s 1 else ⟨(Z6 s).out++[⟨3,0,[],ZE o.e⟩],[],[]⟩)
  else s:=by cases o;rfl
end Go.AM
namespace Go.AM
def Y5{α:Type}(z:α)(l:List α)(i:Nat)(x:α):List α:=(l++List.replicate (i+1 - l.length) z).set i x
def wsD(tw:List Int):List WEdit->List Int->Option (List Int)
 | [],out=> some out
 | w ::r,out=> if mix 0 (tw.getD w.at_.toNat 0) w.mask=w.old then wsD tw r (Y5 0 out w.at_.toNat (mix (tw.getD w.at_.toNat 0) w.new w.mask)) else none
noncomputable def Jd(l rest:List Tree):Bool:=decide (l.length<=rest.length) && eqX (Z7 l) (Z7 (rest.take l.length))
def Z0d(r:Option (List Tree × List Tree)):Option (List Tree):=r.bind fun x=> if x.2.length=0 then some x.1 else none
def nrD(r:Bool)(t:Tree):Tree:=if r then Z1 t else t
mutual
noncomputable def doE(r:Bool):Edit->Tree->Option Tree
 | .mk k o n w ks l os,t=>
  (if k=0 then some t
  else if k=1 then (if Yp (Z1 o) (Z1 t)=true then some n else none)
  else if k=2 then (if t.kind=1 then (wsD t.words w t.words).bind fun a=> (Je r t.kids ks t.kids).map fun b=> .mk 1 a b else none)
  else if k=3 then (if t.kind=l then (Z0d (ZC r os t.kids [])).map fun b=> .mk l [] b else none)
  else none).map (nrD r)
noncomputable def Je(r:Bool)(tk:List Tree):List (KidOf Edit)->List Tree->Option (List Tree)
 | [],out=> some out
 | k ::s,out=> (JS r tk k).bind fun u=> Je r tk s (Y5 Tree.nil out k.at_.toNat u)
noncomputable def JS(r:Bool)(tk:List Tree):KidOf Edit->Option Tree
 | ⟨a,e⟩=> doE r e (tk.getD a.toNat Tree.nil)
noncomputable def ZC(r:Bool):List (OpOf Edit)->List Tree->List Tree->Option (List Tree × List Tree)
 | [],rest,out=> some (out,rest)
 | o ::s,rest,out=> (Z0K r o rest out).bind fun x=> ZC r s x.2 x.1
noncomputable def Z0K(r:Bool):OpOf Edit->List Tree->List Tree->Option (List Tree × List Tree)
 | ⟨k,n,l,e⟩,rest,out=>
  if k=0 then (if n.toNat<=rest.length then some (out++rest.take n.toNat,rest.drop n.toNat) else none)
  else if k=1 then (if Jd l rest=true then some (out,rest.drop l.length) else none)
  else if k=2 then some (out++l,rest)
  else if rest.length=0 then none else (doE r e (rest.getD 0 Tree.nil)).map fun u=> (out++[u],rest.drop 1)
end
theorem JO(r:Bool)(e:Edit)(t:Tree):doE r e t=(if e.kind=0 then some t
  else if e.kind=1 then (if Yp (Z1 e.old) (Z1 t)=true then some e.new else none)
  else if e.kind=2 then (if t.kind=1 then (wsD t.words e.words t.words).bind fun a=> (Je r t.kids e.kids t.kids).map fun b=> .mk 1 a b else none)
  else if e.kind=3 then (if t.kind=e.list then (Z0d (ZC r e.ops t.kids [])).map fun b=> .mk e.list [] b else none)
  else none).map (nrD r):=by cases e;rfl
noncomputable def Z7D(r:Bool)(e:Edit)(t:Tree):Option Tree:=
 if e.kind=0 then some t
 else if e.kind=1 then (if Yp (Z1 e.old) (Z1 t)=true then some e.new else none)
 else if e.kind=2 then (if t.kind=1 then (wsD t.words e.words t.words).bind fun a=> (Je r t.kids e.kids t.kids).map fun b=> .mk 1 a b else none)
 else if e.kind=3 then (if t.kind=e.list then (Z0d (ZC r e.ops t.kids [])).map fun b=> .mk e.list [] b else none)
 else none
theorem Z2N(r:Bool)(e:Edit)(t:Tree):doE r e t=(Z7D r e t).map (nrD r):=JO r e t
theorem Z3Q(r:Bool)(tk:List Tree)(k:Kid):JS r tk k=doE r k.e (tk.getD k.at_.toNat Tree.nil):=by cases k;rfl
theorem Yx(r:Bool)(o:Op)(rest out:List Tree):Z0K r o rest out=if o.kind=0 then (if o.n.toNat<=rest.length then some (out++rest.take o.n.toNat,rest.drop o.n.toNat) else none)
  else if o.kind=1 then (if Jd o.l rest=true then some (out,rest.drop o.l.length) else none)
  else if o.kind=2 then some (out++o.l,rest)
  else if rest.length=0 then none else (doE r o.e (rest.getD 0 Tree.nil)).map fun u=> (out++[u],rest.drop 1):=by cases o;rfl
noncomputable def Z1X(r:Bool)(e:Edit)(t:Tree):Option Tree:=
 if t.kind=1 then (wsD t.words e.words t.words).bind fun a=> (Je r t.kids e.kids t.kids).map fun b=> .mk 1 a b else none
noncomputable def Z0j(r:Bool)(e:Edit)(t:Tree):Option (List Tree × List Tree):=if t.kind=e.list then ZC r e.ops t.kids [] else none
def Z00(o:Option Tree):Tree:=o.getD Tree.nil
def ZfQ(e:Edit)(o:Option (List Tree × List Tree)):Tree:=match o with | some x=> .mk e.list [] x.1 | none=> Tree.nil
noncomputable def Zb3(e:Edit)(t:Tree):Tree:=
 if e.kind=0 then t else if e.kind=1 then e.new else if e.kind=2 then Z00 (Z1X false e t) else if e.kind=3 then ZfQ e (Z0j false e t) else Tree.nil
theorem Ye(o:Option Tree):o.map (nrD false)=o:=by cases o <;> rfl
theorem Z9q{e:Edit}{t u:Tree}(h:doE false e t=some u):Zb3 e t=u:=by
 rw [JO,Ye] at h
 unfold Zb3
 split
 .rename_i h0;rw [if_pos h0] at h;exact Option.some.inj h
 .rename_i h0;rw [if_neg h0] at h
  split
  .rename_i h1;rw [if_pos h1] at h
   split at h
   .exact Option.some.inj h
   .cases h
  .rename_i h1;rw [if_neg h1] at h
   split
   .rename_i h2;rw [if_pos h2] at h
    unfold Z00 Z1X
    rw [h];try rfl
   .rename_i h2;rw [if_neg h2] at h
    split
    .rename_i h3;rw [if_pos h3] at h
     unfold ZfQ Z0j
     split at h
     .rename_i h4;rw [if_pos h4]
      revert h
      cases ZC false e.ops t.kids [] with
      | none=> intro h;cases h
      | some x=>
       intro h
       simp only [Z0d,Qe] at h
       split at h
       .exact Option.some.inj h
       .cases h
     .cases h
    .rename_i h3;rw [if_neg h3] at h;cases h
end Go.AM
namespace Go.AM
def Z0Z(m:Nat):Nat->Nat
 | 0=> 0
 | i+1=> Z0Z m i+if m / 2 ^ i % 2=1 then 255*2 ^ (8*i) else 0
def Zdt:Nat->Nat->Nat
 | 0,_=> 0
 | k+1,m=> (if m % 2=1 then 255 else 0)+256*Zdt k (m / 2)
def Zau:Nat->Nat->Nat->Nat
 | 0,_,_=> 0
 | k+1,a,m=> (if m % 2=1 then a % 256 else 0)+256*Zau k (a / 256) (m / 2)
def ZhD:Nat->Nat->Nat->Nat->Nat
 | 0,_,_,_=> 0
 | k+1,a,b,m=> (if m % 2=1 then b % 256 else a % 256)+256*ZhD k (a / 256) (b / 256) (m / 2)
theorem Znd(x y u v:Nat)(hu:u < 256)(hv:v < 256):(u+256*x) &&& (v+256*y)=(u &&& v)+256*(x &&& y):=by
 have h:u &&& v < 256:=Nat.and_lt_two_pow (n:=8) u hv
 apply Nat.eq_of_testBit_eq
 intro j
 rw [Xq u,Xq v,Xq (u &&& v),Kc]
 rw [show (256:Nat)=2 ^ 8 from rfl,Xb _ hu,Xb _ hv,Xb _ h]
 split <;> rw [Kc]
theorem Zoy(x y u v:Nat)(hu:u < 256)(hv:v < 256):(u+256*x) ||| (v+256*y)=(u ||| v)+256*(x ||| y):=by
 have h:u ||| v < 256:=Nat.or_lt_two_pow (n:=8) hu hv
 apply Nat.eq_of_testBit_eq
 intro j
 rw [Xq u,Xq v,Xq (u ||| v),Nat.testBit_or]
 rw [show (256:Nat)=2 ^ 8 from rfl,Xb _ hu,Xb _ hv,Xb _ h]
 split <;> rw [Nat.testBit_or]
theorem Zdq:∀ (k a m:Nat),a &&& Zdt k m=Zau k a m
 | 0,a,m=> by simp [Zdt,Zau]
 | k+1,a,m=> by
  have e:a=a % 256+256*(a / 256):=V0
  simp only [Zdt,Zau]
  rw [<-Zdq k (a / 256) (m / 2)]
  have h:a &&& ((if m % 2=1 then 255 else 0)+256*Zdt k (m / 2))=(a % 256+256*(a / 256)) &&& ((if m % 2=1 then 255 else 0)+256*Zdt k (m / 2)):=by rw [<-e]
  rw [h,Znd _ _ _ _ V0 (by split <;> omega)]
  congr 1
  split
  .have:=Nat.and_two_pow_sub_one_eq_mod (a % 256) 8
   simp only [show (2:Nat) ^ 8 - 1=255 from rfl,show (2:Nat) ^ 8=256 from rfl,Nat.mod_mod] at this
   exact this
  .simp
theorem Zlk:∀ (k a b m n:Nat),(∀ i < k,m / 2 ^ i % 2+n / 2 ^ i % 2=1)->Zau k a n ||| Zau k b m=ZhD k a b m
 | 0,a,b,m,n,_=> by simp [Zau,ZhD]
 | k+1,a,b,m,n,h=> by
  simp only [Zau,ZhD]
  have h0:=h 0 V0
  simp only [Nat.pow_zero,Nat.div_one] at h0
  rw [Zoy _ _ _ _ (by split <;> omega) (by split <;> omega),Zlk k (a / 256) (b / 256) (m / 2) (n / 2) (fun i hi=> by
   have:=h (i+1) V0
   rw [Xk,Xk]
   rw [Nat.pow_succ,X8] at this
   exact this)]
  congr 1
  by_cases hm:m % 2=1
  .rw [if_pos hm,if_pos hm,JI];simp
  .rw [if_neg hm,if_neg hm,V1];simp
theorem Zkx:∀ m:Fin 256,Z0Z m.1 8=Zdt 8 m.1:=by decide+kernel
theorem Znr:∀ m:Fin 256,2 ^ 64 - 1 - Zdt 8 m.1=Zdt 8 (255 - m.1):=by decide+kernel
theorem Zqg:∀ m:Fin 256,∀ i:Fin 8,m.1 / 2 ^ i.1 % 2+(255 - m.1) / 2 ^ i.1 % 2=1:=by decide+kernel
theorem Zru:∀ m:Fin 256,Zdt 8 m.1 < 2 ^ 64:=by decide+kernel
theorem ZoK(a b m:Nat)(hm:m < 256):(a &&& (2 ^ 64 - 1 - Z0Z m 8)) ||| (b &&& Z0Z m 8)=ZhD 8 a b m:=by
 have h1:=Zkx ⟨m,hm⟩
 have h2:=Znr ⟨m,hm⟩
 simp only at h1 h2
 rw [h1,h2,Zdq,Zdq]
 exact Zlk 8 a b m (255 - m) (fun i hi=> Zqg ⟨m,hm⟩ ⟨i,hi⟩)
def ofK:Nat->(Nat->Nat)->Nat
 | 0,_=> 0
 | k+1,f=> f 0+256*ofK k (fun i=> f (i+1))
theorem Zeu:∀ (k:Nat) {f g:Nat->Nat},(∀ i,f i=g i)->ofK k f=ofK k g
 | 0,_,_,_=> rfl
 | k+1,f,g,h=> by simp only [ofK,h 0,Zeu k (fun i=> h (i+1))]
theorem Zlo:∀ (k a b m:Nat),ZhD k a b m=ofK k (fun i=> if m / 2 ^ i % 2=1 then b / 256 ^ i % 256 else a / 256 ^ i % 256)
 | 0,_,_,_=> rfl
 | k+1,a,b,m=> by
  simp only [ZhD,ofK,Nat.pow_zero,Nat.div_one]
  rw [Zlo k,Zeu k (g:=fun i=> if m / 2 ^ (i+1) % 2=1 then b / 256 ^ (i+1) % 256 else a / 256 ^ (i+1) % 256) (fun i=> ?_)]
  rw [Xk,Xk,Xk,Nat.pow_succ',Nat.pow_succ']
theorem ZoL(a b m:Nat):((ZhD 8 a b m:Nat):Int)=mix a b m:=by
 have nm:∀ i:Nat,YT (m:Int) (i:Int)=decide (m / 2 ^ i % 2=1):=by
  intro i
  unfold YT
  rw [decide_eq_decide,QY]
  have:((m:Int) / 2 ^ i % 2:Int)=((m / 2 ^ i % 2:Nat):Int):=by rw [K7,K8,Kf];try rfl
  rw [this];omega
 have by_:∀ (x i:Nat),Zg (x:Int) i=((x / 256 ^ i % 256:Nat):Int):=by
  intro x i
  unfold Zg
  rw [K7,K8,Kf]
  try rfl
 have mx:∀ i:Nat,YA (a:Int) (b:Int) (m:Int) i=((if m / 2 ^ i % 2=1 then b / 256 ^ i % 256 else a / 256 ^ i % 256:Nat):Int):=by
  intro i
  unfold YA
  rw [nm,by_,by_]
  by_cases h:m / 2 ^ i % 2=1
  .rw [decide_eq_true h,if_pos rfl,if_pos h]
  .rw [decide_eq_false h,if_neg XZ,if_neg h]
 rw [Zlo]
 generalize hf:(fun i=> if m / 2 ^ i % 2=1 then b / 256 ^ i % 256 else a / 256 ^ i % 256)=f
 have hx:∀ i,YA (a:Int) (b:Int) (m:Int) i=(f i:Int):=by intro i;rw [mx,<-hf]
 have e:ofK 8 f=f 0+256*(f 1+256*(f 2+256*(f 3+256*(f 4+256*(f 5+256*(f 6+256*(f 7+256*0))))))):=rfl
 rw [e]
 simp only [mix,of8,hx]
 omega
def YC(list:Int)(e:Edit):Bool:=
 if (2<=list/\list<=7)\/e.kind=0 then false else if list=8\/e.kind=2 then true else decide (e.kind=1/\e.old.kind=1/\e.new.kind=1)
end Go.AM
namespace Go.AM
def Zil(a b:Int):Int:=IntKind.wrap .u8 (BitVec.ofInt (IntKind.bits .u8) a &&& BitVec.ofInt (IntKind.bits .u8) b).toNat
def orM(a b:Int):Int:=IntKind.wrap .u8 (BitVec.ofInt (IntKind.bits .u8) a ||| BitVec.ofInt (IntKind.bits .u8) b).toNat
def Z9M(p q:WEdit):Bool:=decide (mix 0 p.new (Zil p.mask q.mask)=mix 0 q.old (Zil p.mask q.mask))
def YP(p q:WEdit):WEdit × Bool:=
 if Z9M p q then (⟨p.at_,orM p.mask q.mask,mix q.old p.old p.mask,mix p.new q.new q.mask⟩,true) else (⟨0,0,0,0⟩,false)
def Zm{α:Type}(at_:α->Int)(one:α->α->α × Bool):List α->List α->Option (List α)
 | [],q=> some q
 | a ::p,[]=> some (a ::p)
 | a ::p,b ::q=>
  if at_ a < at_ b then (Zm at_ one p (b ::q)).map (a ::·)
  else if at_ b < at_ a then (Zm at_ one (a ::p) q).map (b ::·)
  else if (one a b).2 then (Zm at_ one p q).map ((one a b).1 ::·) else none
termination_by p q=> p.length+q.length
def ofO{α:Type}(o:Option (List α)):List α:=o.getD []
structure PRes where
 op:Op
 is:Bool
 ok:Bool
noncomputable def doB(e:Edit)(t:Tree):Tree × Bool:=(Z00 ((doE false e t).map Z1),(doE false e t).isSome)
noncomputable def ZfW(a b:List Tree):Bool:=eqX (Z7 a) (Z7 b)
noncomputable def ZI(f:Edit->Edit->Edit × Bool)(x:Piece):PRes:=
 if x.of=1\/(x.of=0/\x.q.kind=0) then ⟨x.p,true,true⟩
 else if x.of=2\/x.p.kind=0 then ⟨x.q,true,true⟩
 else if x.p.kind=2/\x.q.kind=1 then ⟨Op.nil,false,ZfW x.p.l (x.q.l.take x.p.l.length)⟩
 else if x.p.kind=2 then ⟨⟨2,0,[(doB x.q.e (x.p.l.getD 0 Tree.nil)).1],Edit.nil⟩,true,(doB x.q.e (x.p.l.getD 0 Tree.nil)).2⟩
 else if x.q.kind=1 then ⟨⟨1,0,[(doB (ZE (Zq x.p.e)) (x.q.l.getD 0 Tree.nil)).1],Edit.nil⟩,true,(doB (ZE (Zq x.p.e)) (x.q.l.getD 0 Tree.nil)).2⟩
 else ⟨⟨3,0,[],(f x.p.e x.q.e).1⟩,true,(f x.p.e x.q.e).2⟩
noncomputable def Z0u(f:Edit->Edit->Edit × Bool):List Piece->Option (List Op)
 | []=> some []
 | x ::r=> if (ZI f x).ok then (Z0u f r).map ((if (ZI f x).is then [(ZI f x).op] else [])++·) else none
noncomputable def Z0J(f:Edit->Edit->Edit × Bool)(p q:List Op):Option (List Op):=
 if (Yo 1 2 p q []).2.1 then Z0u f (Yo 1 2 p q []).1 else none
def Z0L(f:Edit->Edit->Edit × Bool)(a b:Kid):Kid × Bool:=(⟨a.at_,(f a.e b.e).1⟩,(f a.e b.e).2)
noncomputable def Jm(f:Edit->Edit->Edit × Bool)(p q:Edit):Edit × Bool:=
 if p.kind=0 then (q,true)
 else if q.kind=0 then (p,true)
 else if p.kind=1 then (.mk 1 p.old (doB q p.new).1 [] [] 0 [],(doB q p.new).2)
 else if q.kind=1 then (.mk 1 (doB (ZE (Zq p)) q.old).1 q.new [] [] 0 [],(doB (ZE (Zq p)) q.old).2)
 else if p.kind≠q.kind\/p.list≠q.list then (Edit.nil,false)
 else if p.kind=2 then
  if (Zm WEdit.at_ YP p.words q.words).isSome then
   (.mk 2 Tree.nil Tree.nil (ofO (Zm WEdit.at_ YP p.words q.words)) (ofO (Zm KidOf.at_ (Z0L f) p.kids q.kids)) 0 [],(Zm KidOf.at_ (Z0L f) p.kids q.kids).isSome)
  else (Edit.nil,false)
 else (.mk 3 Tree.nil Tree.nil [] [] p.list (ofO (Z0J f p.ops q.ops)),(Z0J f p.ops q.ops).isSome)
noncomputable def Z9N:Nat->Edit->Edit->Edit × Bool
 | 0,_,_=> (Edit.nil,false)
 | n+1,p,q=> Jm (Z9N n) p q
noncomputable def Y7(p q:Edit):Edit × Bool:=Z9N (Zd p+Zd q) p q
def YI(e:Edit):Prop:=ctE e<=9000000000/\ZK e/\∃ d,Z0 e d=true
def ZpR(k:Kid):Prop:=Z2o k<=9000000000/\Z0N k/\∃ d,Z0 k.e d=true
def Zb2(l:List Kid):Prop:=Z0t l<=9000000000/\JX l/\∀ k∈l,∃ d,Z0 k.e d=true
def Zm8(l:List Op):Prop:=YN l<=9000000000/\JP l/\∀ o∈l,∃ list d,Zc list o d=true
def ZnP(o:Op):Prop:=YV o/\Z2s o<=9000000000/\YD o/\(o.kind=3->∃ d,Z0 o.e d=true)
structure PcOk (x:Piece):Prop where
 of:x.of=0\/x.of=1\/x.of=2
 pp:x.of≠2->ZnP x.p
 qq:x.of≠1->ZnP x.q
 both:x.of=0->x.p.kind≠1/\x.q.kind≠2/\Z5 x.p=Z5 x.q
end Go.AM
namespace Go.AM
instance:Inhabited PStep:=⟨⟨0,0⟩⟩
def ZuB(s:PStep)(t:Tree):Prop:=s.kind=0/\0<=s.at_/\(t.kind=1/\s.at_ < 65535\/(2<=t.kind/\t.kind<=9)/\s.at_ < t.kids.length)
instance (s:PStep) (t:Tree):Decidable (ZuB s t):=by unfold ZuB;infer_instance
end Go.AM
namespace Go.AM
noncomputable def Z0W(p q:Edit):Edit × Bool:=if (Y7 p q).2=true then (ZE (Y7 p q).1,true) else (Edit.nil,false)
end Go.AM
namespace Go.AM
noncomputable def Z4M:List Edit->Tree->Option Tree
 | [],t=> some t
 | e ::r,t=> (doE false e t).bind (Z4M r)
noncomputable def Zm5:List Edit->Tree->Option Tree
 | [],t=> some t
 | e ::r,t=> ((doE false e t).map Z1).bind (Zm5 r)
noncomputable def Z0T:List Edit->Edit->Edit × Bool
 | [],x=> (x,true)
 | e ::r,x=> if (Z0W x e).2=true then Z0T r (Z0W x e).1 else (Edit.nil,false)
noncomputable def YZ(l:List Edit):Edit × Bool:=if (Z0T l Edit.nil).2=true then (ZE (Z0T l Edit.nil).1,true) else (Edit.nil,false)
def ctL:List Edit->Nat
 | []=> 0
 | e ::r=> ctE e+ctL r
end Go.AM
namespace Go.AM.Ytfapacabjkhepaa
open Go.AM Go.Proofs
theorem ZiF(a:Tree):Yp a a=true:=by simp [Yp]
theorem ZlY(l:List Int):trim (trim l)=trim l:=by
 induction l with
 | nil=> rfl
 | cons x r ih=>
  rw [Z1R]
  split
  .try rfl
  .rename_i h
   rw [Z1R,ih,if_neg h]
theorem Ziw(l:List Tree):Yh (Yh l)=Yh l:=by
 induction l with
 | nil=> rfl
 | cons x r ih=>
  rw [JT]
  split
  .try rfl
  .rename_i h
   rw [JT,ih,if_neg h]
def Normed:List Tree->Prop
 | []=> True
 | t ::r=> Z1 t=t/\Normed r
theorem Normed.eq:∀ {l:List Tree},Normed l->Yf l=l
 | [],_=> rfl
 | t ::r,h=> by simp only [Yf,h.1,Normed.eq h.2]
theorem Normed.trim:∀ {l:List Tree},Normed l->Normed (Yh l)
 | [],_=> trivial
 | t ::r,h=> by
  rw [JT]
  split
  .trivial
  .exact ⟨h.1,Normed.trim h.2⟩
mutual
theorem ZZ:∀ (t:Tree),Z1 (Z1 t)=Z1 t
 | .mk k w ks=> by
  have h:=Z7W ks
  by_cases h0:k=0
  .simp [Z1,h0,Tree.nil]
  .by_cases h1:k=1
   .subst h1
    simp only [Z1,if_neg h0,if_true,ZlY,h.trim.eq,Ziw]
   .simp only [Z1,if_neg h0,if_neg h1,h.eq]
theorem Z7W:∀ (ks:List Tree),Normed (Yf ks)
 | []=> trivial
 | t ::r=> ⟨ZZ t,Z7W r⟩
end
noncomputable section
noncomputable section
def ZcN(a:Edit × Unit):Nat:=2*Zd a.1
def ZgV(a:Edit × Unit):V U:= .agg (enc .edit (Zq a.1))
def ZbR:Fs U:=fs ZqO (fun a=> [Zcu a]) ZgV
def Zan(a:Op × Unit):Prop:=ZA a.1<=20000000000
def Zhu(a:Op × Unit):Nat:=2*ZA a.1+1
def Zai(a:Op × Unit):V U:= .agg (enc .op (ZY a.1))
def ZnG:Fs U:=fs ZlN (fun a=> [Zan a]) Zai
def JN(N:Nat):List (FuncId × Fs U):=(43,fs ZqO (fun a=> [Zcu a,ZcN a < N]) ZgV) ::(61,fs ZlN (fun a=> [Zan a,Zhu a < N]) Zai) ::[]
def Z5r:Ze U:=lvk [([1,2],[1,2]),([1,2,3],[1,2,3]),([1,2,3,20,21,22],[1,2,((.loc 3),(an 7 [.own .wedit]))]),([1,2,3,20,21,22,23],[1,2,3]),([1,2,3,5,20,21,22],[1,2,3,5]),([1,2,3,20,21,22],[1,2,3]),([1,2,3,20,21,22],[1,2,((.loc 3),(an 7 [.own .wedit]))]),([1,2,3,42,43,44],[1,2,((.loc 3),(an 8 [.own .kid]))]),([1,2,3,42,43,44,45],[1,2,3]),([1,2,3,7,42,43,44],[1,2,3,7]),([1,2,3,42,43,44],[1,2,3]),([1,2,3,42,43,44],[1,2,((.loc 3),(an 8 [.own .kid]))]),([2,3,61,62,63],[2,((.loc 3),(an 10 [.own .op]))]),([2,3,61,62,63,64],[2,3]),([2,3,9,61,62,63],[2,3,9]),([2,3,61,62,63],[2,3]),([2,3,61,62,63],[2,((.loc 3),(an 10 [.own .op]))]),([2],[2])]
def Z3K(e:Edit)(x22:Int)(ml3_7:List WEdit):LSt U:=(L2 [pL 1,pL 2,pL 3,(20,.c (sU .wedit e.words .unk)),pI 21 (e.words.length:Int),pI 22 x22] [(.loc 1,(enc .edit e)),(.loc 2,zc1),(.loc 3,([ci e.kind]++enc .tree e.new++enc .tree e.old++[sU .wedit ml3_7 (.own (.l 3 7)),.nils,ci e.list,.nils]))])
def Z3J(e:Edit)(ml3_7:List WEdit)(x44_a:Int)(ml3_8_a:List Kid):LSt U:=(L2 [pL 1,pL 2,pL 3,(42,.c (sU .kid e.kids .unk)),pI 43 (e.kids.length:Int),pI 44 x44_a] [(.loc 1,(enc .edit e)),(.loc 2,zc1),(.loc 3,([ci e.kind]++enc .tree e.new++enc .tree e.old++[sU .wedit ml3_7 (.own (.l 3 7)),sU .kid ml3_8_a (.own (.l 3 8)),ci e.list,.nils]))])
def Z3I(e:Edit)(ml3_7:List WEdit)(ml3_8_a:List Kid)(x63_b:Int)(ml3_10_b:List Op):LSt U:=(L2 [pL 2,pL 3,(61,.c (sU .op e.ops .unk)),pI 62 (e.ops.length:Int),pI 63 x63_b] [(.loc 2,zc1),(.loc 3,([ci e.kind]++enc .tree e.new++enc .tree e.old++[sU .wedit ml3_7 (.own (.l 3 7)),sU .kid ml3_8_a (.own (.l 3 8)),ci e.list,sU .op ml3_10_b (.own (.l 3 10))]))])
abbrev W43(N:Nat)(e:Edit)(Q:QT):=AW (Z2 (JN N)) Try.f43 Z5r [] (L2 [(0,.agg (enc .edit e))] []) Q
abbrev Z7g(N:Nat):=awp cfg (Z2 (JN N)) (ZV cfg (Z2 (JN N))) Try.f43.ntmps Z5r
abbrev Z6J(N:Nat):=Zcb cfg (Z2 (JN N)) (ZV cfg (Z2 (JN N))) Try.f43.ntmps Z5r
theorem ZB7(N:Nat)(e:Edit)(Q:QT)(h:Zi (AW (Z2 (JN N)) Try.f43 Z5r [1,1,0,1,0,0]) (Z3K e 0 []) (xB 0 (SW (Z2 (JN N)) Try.f43 Z5r [1,1,1] Q))):
  W43 N e Q:=by
 have e_:(W43 N e Q)=(Zi (Z7g N (cd Try.f43 [1,1,0,1,0,0])) (Z3K e 0 []) (xB 0 (Z6J N (cd Try.f43 [1,1,1]) Q))):=V5
 exact e_.mpr h
abbrev Zrk(N:Nat)(e:Edit)(x22:Int)(ml3_7:List WEdit)(N0:NT)(Q:QT):=AW (Z2 (JN N)) Try.f43 Z5r [1,1,0,1,0,0] (Z3K e x22 ml3_7) (xT N0 (xB 0 (SW (Z2 (JN N)) Try.f43 Z5r [1,1,1] Q)))
theorem Zs0(N:Nat)(e:Edit)(x22:Int)(ml3_7:List WEdit)(N0:NT)(Q:QT)(h:((decide (x22 < (e.words.length:Int)))=true->((0:Int)<=x22/\x22 < (e.words.length:Int))/\(((ml3_7.length+([(WEdit.mk (WEdit.at_ (e.words.getD x22.toNat (WEdit.mk 0 0 0 0))) (WEdit.mask (e.words.getD x22.toNat (WEdit.mk 0 0 0 0))) (WEdit.new (e.words.getD x22.toNat (WEdit.mk 0 0 0 0))) (WEdit.old (e.words.getD x22.toNat (WEdit.mk 0 0 0 0))))]).length)*32<=140737488355328)/\((InR (x22+1))/\(N0 (Z3K e (x22+1) (ml3_7++([(WEdit.mk (WEdit.at_ (e.words.getD x22.toNat (WEdit.mk 0 0 0 0))) (WEdit.mask (e.words.getD x22.toNat (WEdit.mk 0 0 0 0))) (WEdit.new (e.words.getD x22.toNat (WEdit.mk 0 0 0 0))) (WEdit.old (e.words.getD x22.toNat (WEdit.mk 0 0 0 0))))])))))))/\((decide (x22 < (e.words.length:Int)))=false->Zi (AW (Z2 (JN N)) Try.f43 Z5r [1,1,1,0,1,0,0]) (Z3J e ml3_7 0 []) (xB 2 (SW (Z2 (JN N)) Try.f43 Z5r [1,1,1,1] Q)))):
  Zrk N e x22 ml3_7 N0 Q:=by
 have e_:(Zrk N e x22 ml3_7 N0 Q)=(let zz0:=(decide ((x22:Int) < (e.words.length:Int)));((zz0=true->((0:Int)<=x22/\x22 < (e.words.length:Int))/\(((ml3_7.length+([(WEdit.mk (WEdit.at_ (e.words.getD x22.toNat (WEdit.mk 0 0 0 0))) (WEdit.mask (e.words.getD x22.toNat (WEdit.mk 0 0 0 0))) (WEdit.new (e.words.getD x22.toNat (WEdit.mk 0 0 0 0))) (WEdit.old (e.words.getD x22.toNat (WEdit.mk 0 0 0 0))))]).length)*32<=140737488355328)/\((InR ((x22:Int)+1))/\(N0 (Z3K e ((x22:Int)+1) (ml3_7++([(WEdit.mk (WEdit.at_ (e.words.getD x22.toNat (WEdit.mk 0 0 0 0))) (WEdit.mask (e.words.getD x22.toNat (WEdit.mk 0 0 0 0))) (WEdit.new (e.words.getD x22.toNat (WEdit.mk 0 0 0 0))) (WEdit.old (e.words.getD x22.toNat (WEdit.mk 0 0 0 0))))])))))))/\(zz0=false->(Zi (Z7g N (cd Try.f43 [1,1,1,0,1,0,0])) (Z3J e ml3_7 0 []) (xB 2 (Z6J N (cd Try.f43 [1,1,1,1]) Q)))))):=V5
 exact e_.mpr ⟨fun c_7=> ⟨(h.1 c_7).1,⟨(h.1 c_7).2.1,⟨(h.1 c_7).2.2.1,(h.1 c_7).2.2.2⟩⟩⟩,fun c_7=> (h.2 c_7)⟩
abbrev Zrj(N:Nat)(e:Edit)(ml3_7:List WEdit)(x44_a:Int)(ml3_8_a:List Kid)(N1:NT)(Q:QT):=AW (Z2 (JN N)) Try.f43 Z5r [1,1,1,0,1,0,0] (Z3J e ml3_7 x44_a ml3_8_a) (xT N1 (xB 2 (SW (Z2 (JN N)) Try.f43 Z5r [1,1,1,1] Q)))
theorem ZrZ(N:Nat)(e:Edit)(ml3_7:List WEdit)(x44_a:Int)(ml3_8_a:List Kid)(N1:NT)(Q:QT)(h:∀ y_1,y_1=(e.kids.getD x44_a.toNat (KidOf.mk 0 Edit.nil))->∀ y_2,y_2=(y_1.e)->∀ y_3,y_3=(Zq y_2)->((decide (x44_a < (e.kids.length:Int)))=true->((0:Int)<=x44_a/\x44_a < (e.kids.length:Int))/\((Zcu (y_2,()))/\(ZcN (y_2,()) < N)/\((ml3_8_a.length+([(KidOf.mk y_1.at_ y_3:Kid)]).length)*208<=140737488355328)/\((InR (x44_a+1))/\(N1 (Z3J e ml3_7 (x44_a+1) (ml3_8_a++([(KidOf.mk y_1.at_ y_3:Kid)])))))))/\((decide (x44_a < (e.kids.length:Int)))=false->Zi (AW (Z2 (JN N)) Try.f43 Z5r [1,1,1,1,0,1,0,0]) (Z3I e ml3_7 ml3_8_a 0 []) (xB 4 (SW (Z2 (JN N)) Try.f43 Z5r [1,1,1,1,1] Q)))):
  Zrj N e ml3_7 x44_a ml3_8_a N1 Q:=by
 have e_:(Zrj N e ml3_7 x44_a ml3_8_a N1 Q)=(let y_1:=(e.kids.getD x44_a.toNat (KidOf.mk 0 Edit.nil));let y_2:=(JJ y_1.e);let y_3:=(JJ (Zq y_2));let zz0:=(decide ((x44_a:Int) < (e.kids.length:Int)));((zz0=true->((0:Int)<=x44_a/\x44_a < (e.kids.length:Int))/\((Zcu (y_2,()))/\(ZcN (y_2,()) < N)/\((ml3_8_a.length+([(KidOf.mk y_1.at_ y_3:Kid)]).length)*208<=140737488355328)/\((InR ((x44_a:Int)+1))/\(N1 (Z3J e ml3_7 ((x44_a:Int)+1) (ml3_8_a++([(KidOf.mk y_1.at_ y_3:Kid)])))))))/\(zz0=false->(Zi (Z7g N (cd Try.f43 [1,1,1,1,0,1,0,0])) (Z3I e ml3_7 ml3_8_a 0 []) (xB 4 (Z6J N (cd Try.f43 [1,1,1,1,1]) Q)))))):=V5
 exact e_.mpr (by intro y_1 y_2 y_3;have hh:=h y_1 rfl y_2 (Zf _) y_3 (Zf _);exact ⟨fun c_8=> ⟨(hh.1 c_8).1,⟨(hh.1 c_8).2.1,(hh.1 c_8).2.2.1,(hh.1 c_8).2.2.2.1,⟨(hh.1 c_8).2.2.2.2.1,(hh.1 c_8).2.2.2.2.2⟩⟩⟩,fun c_8=> (hh.2 c_8)⟩)
abbrev Zri(N:Nat)(e:Edit)(ml3_7:List WEdit)(ml3_8_a:List Kid)(x63_b:Int)(ml3_10_b:List Op)(N2:NT)(Q:QT):=AW (Z2 (JN N)) Try.f43 Z5r [1,1,1,1,0,1,0,0] (Z3I e ml3_7 ml3_8_a x63_b ml3_10_b) (xT N2 (xB 4 (SW (Z2 (JN N)) Try.f43 Z5r [1,1,1,1,1] Q)))
theorem ZrY(N:Nat)(e:Edit)(ml3_7:List WEdit)(ml3_8_a:List Kid)(x63_b:Int)(ml3_10_b:List Op)(N2:NT)(Q:QT)(h:∀ y_1,y_1=(e.ops.getD x63_b.toNat Op.nil)->∀ y_2,y_2=y_1->∀ y_3,y_3=(ZY y_2)->((decide (x63_b < (e.ops.length:Int)))=true->((0:Int)<=x63_b/\x63_b < (e.ops.length:Int))/\((Zan (y_2,()))/\(Zhu (y_2,()) < N)/\((ml3_10_b.length+([y_3]).length)*240<=140737488355328)/\((InR (x63_b+1))/\(N2 (Z3I e ml3_7 ml3_8_a (x63_b+1) (ml3_10_b++([y_3])))))))/\((decide (x63_b < (e.ops.length:Int)))=false->Q .ret (L2 [pL 2] [(.loc 2,([ci e.kind]++enc .tree e.new++enc .tree e.old++[sU .wedit ml3_7 (.own (.l 2 7)),sU .kid ml3_8_a (.own (.l 2 8)),ci e.list,sU .op ml3_10_b (.own (.l 2 10))]))]))):
  Zri N e ml3_7 ml3_8_a x63_b ml3_10_b N2 Q:=by
 have e_:(Zri N e ml3_7 ml3_8_a x63_b ml3_10_b N2 Q)=(let y_1:=(e.ops.getD x63_b.toNat Op.nil);let y_2:=(ZiZ y_1);let y_3:=(ZiZ (ZY y_2));let zz0:=(decide ((x63_b:Int) < (e.ops.length:Int)));((zz0=true->((0:Int)<=x63_b/\x63_b < (e.ops.length:Int))/\((Zan (y_2,()))/\(Zhu (y_2,()) < N)/\((ml3_10_b.length+([y_3]).length)*240<=140737488355328)/\((InR ((x63_b:Int)+1))/\(N2 (Z3I e ml3_7 ml3_8_a ((x63_b:Int)+1) (ml3_10_b++([y_3])))))))/\(zz0=false->(Q .ret (L2 [pL 2] [(.loc 2,([ci e.kind]++enc .tree e.new++enc .tree e.old++[sU .wedit ml3_7 (.own (.l 2 7)),sU .kid ml3_8_a (.own (.l 2 8)),ci e.list,sU .op ml3_10_b (.own (.l 2 10))]))]))))):=V5
 exact e_.mpr (by intro y_1 y_2 y_3;have hh:=h y_1 rfl y_2 (Jy _) y_3 (Jy _);exact ⟨fun c_9=> ⟨(hh.1 c_9).1,⟨(hh.1 c_9).2.1,(hh.1 c_9).2.2.1,(hh.1 c_9).2.2.2.1,⟨(hh.1 c_9).2.2.2.2.1,(hh.1 c_9).2.2.2.2.2⟩⟩⟩,fun c_9=> (hh.2 c_9)⟩)
def Zyz(N:Nat)(e:Edit):Prop:=AW (Z2 (JN N)) Try.f43 Z5r [] (Zj (ZqO.can (e,())) []) (EQ Try.f43 (ZgV (e,())) [])
abbrev ZzX:Prop:=∀ (N:Nat) (e:Edit) (_:Unit),Zcu (e,())->ZcN (e,()) < N+1->Zyz N e
def ZwV:Ze U:=lvl [([1,2],[1,2]),([1,2,4],[1,2]),([1,2,4,5],[1,2]),([1,2],[1,2]),([1,2,4,8],[1,2]),([1,2],[1,2]),([1,2,11],[1,2]),([1,2],[1,2]),([2],[2])]
abbrev W61(N:Nat)(o:Op)(Q:QT):=AW (Z2 (JN N)) Try.f61 ZwV [] (L2 [(0,.agg (enc .op o))] []) Q
theorem ZAP(N:Nat)(o:Op)(Q:QT)(h:∀ y_1,y_1=(o.e)->((o.kind==1)=true->Q .ret (L2 [pL 2] [(.loc 2,([ci 2,ci o.n,sU .tree o.l .unk]++enc .edit o.e))]))/\((o.kind==1)=false->((o.kind==2)=true->Q .ret (L2 [pL 2] [(.loc 2,([ci 1,ci o.n,sU .tree o.l .unk]++enc .edit o.e))]))/\((o.kind==2)=false->((o.kind==3)=true->(Zcu (y_1,()))/\(ZcN (y_1,()) < N)/\(Q .ret (L2 [pL 2] [(.loc 2,([ci o.kind,ci o.n,sU .tree o.l .unk]++enc .edit (Zq y_1)))])))/\((o.kind==3)=false->Q .ret (L2 [pL 2] [(.loc 2,(enc .op o))]))))):
  W61 N o Q:=by
 have e_:(W61 N o Q)=(let y_1:=(JJ o.e);(((o.kind==1)=true->(Q .ret (L2 [pL 2] [(.loc 2,([ci 2,ci o.n,sU .tree o.l .unk]++enc .edit o.e))])))/\((o.kind==1)=false->(((o.kind==2)=true->(Q .ret (L2 [pL 2] [(.loc 2,([ci 1,ci o.n,sU .tree o.l .unk]++enc .edit o.e))])))/\((o.kind==2)=false->(((o.kind==3)=true->(Zcu (y_1,()))/\(ZcN (y_1,()) < N)/\(Q .ret (L2 [pL 2] [(.loc 2,([ci o.kind,ci o.n,sU .tree o.l .unk]++enc .edit (Zq y_1)))])))/\((o.kind==3)=false->(Q .ret (L2 [pL 2] [(.loc 2,(enc .op o))]))))))))):=V5
 exact e_.mpr (by intro y_1;have hh:=h y_1 (Zf _);exact ⟨fun c_10=> (hh.1 c_10),fun c_10=> ⟨fun c_11=> ((hh.2 c_10).1 c_11),fun c_11=> ⟨fun c_12=> ⟨(((hh.2 c_10).2 c_11).1 c_12).1,(((hh.2 c_10).2 c_11).1 c_12).2.1,(((hh.2 c_10).2 c_11).1 c_12).2.2⟩,fun c_12=> (((hh.2 c_10).2 c_11).2 c_12)⟩⟩⟩)
def Zyh(N:Nat)(o:Op):Prop:=AW (Z2 (JN N)) Try.f61 ZwV [] (Zj (ZlN.can (o,())) []) (EQ Try.f61 (Zai (o,())) [])
abbrev ZzQ:Prop:=∀ (N:Nat) (o:Op) (_:Unit),Zan (o,())->Zhu (o,()) < N+1->Zyh N o
theorem Zja(ha:ZzX)(hb:ZzQ):CT 43 ZbR/\CT 61 ZnG:=
 Z37 (μA:=ZcN) (μB:=Zhu) (l:=[]) Zk rfl trivial Z5r ZwV Try.func43 Try.func61 rfl rfl rfl rfl 1 1 (fun _=> rfl) (fun _=> rfl) V2 V2 (fun N ⟨e,_⟩=> ha N e ()) (fun N ⟨o,_⟩=> hb N o ())
end
end
theorem JC(o:Op):ZY o=if o.kind=1 then ⟨2,o.n,o.l,o.e⟩ else if o.kind=2 then ⟨1,o.n,o.l,o.e⟩ else if o.kind=3 then ⟨o.kind,o.n,o.l,Zq o.e⟩ else ⟨o.kind,o.n,o.l,o.e⟩:=by cases o;rfl
theorem Znx(e:Edit):Zq e= .mk e.kind e.new e.old (e.words.map YH) (Y4 e.kids) e.list (Y9 e.ops):=by cases e;rfl
theorem Zbs(k:Kid):YL k=⟨k.at_,Zq k.e⟩:=by cases k;rfl
theorem b61:ZzQ:=by
 intro N o _ hp hN
 simp only [Zan,Zhu] at hp hN
 rw [ZW] at hp hN
 have hpos:=Z3r o.e
 refine ZAP _ _ _ ?_
 rintro y hy
 (simp only [iB,vcS])
 refine ⟨fun h=> ?_,fun h=> ⟨fun h2=> ?_,fun h2=> ⟨fun h3=> ⟨by simp only [Zcu,hy];omega,by simp only [ZcN,hy];omega,?_⟩,fun h3=> ?_⟩⟩⟩
 .have e:ZY o=⟨2,o.n,o.l,o.e⟩:=by rw [JC,if_pos h]
  simp only [Zai,e]
  exact Y6
 .have e:ZY o=⟨1,o.n,o.l,o.e⟩:=by rw [JC,if_neg h,if_pos h2]
  simp only [Zai,e]
  exact Y6
 .have e:ZY o=⟨o.kind,o.n,o.l,Zq o.e⟩:=by rw [JC,if_neg h,if_neg h2,if_pos h3]
  simp only [Zai,e]
  rw [hy]
  exact Y6
 .have e:ZY o=⟨o.kind,o.n,o.l,o.e⟩:=by rw [JC,if_neg h,if_neg h2,if_neg h3]
  simp only [Zai,e]
  exact Y6
theorem b43:ZzX:=by
 intro N e _ hp hN
 simp only [Zcu,ZcN] at hp hN
 have h1:=Y3 e
 have h2:=Yb e.kids
 have h3:=ZU e.ops
 have ha:=Znx e
 refine ZB7 _ _ _ ?_
 refine Zb (ι:=Int × List WEdit) (fun s=> Z3K e s.1 s.2) (fun s=> 0<=s.1/\s.1<=e.words.length/\s.2.length=s.1/\s.2++(e.words.drop s.1.toNat).map YH=e.words.map YH) (fun s=> ((e.words.length:Int) - s.1).toNat) (0,[]) rfl ⟨by simp,by simp,by simp,by simp⟩ ?_
 rintro ⟨i,ws⟩ ⟨g1,g2,g3,g4⟩
 dsimp only at g1 g2 g3 g4
 refine Zs0 _ _ _ _ _ _ ?_
 (simp only [iB,vcS])
 refine ⟨fun hi=> ?_,fun hi=> ?_⟩
 .rw [YB g1 hi (WEdit.mk 0 0 0 0)] at g4
  simp only [X4] at g4
  refine ⟨⟨g1,hi⟩,by simp;omega,V4,(i+1,ws++[YH (e.words.getD i.toNat (WEdit.mk 0 0 0 0))]),rfl,⟨V3,V3,by simp;omega,?_⟩,V3⟩
  simp only [Qa,Qw,QF]
  exact g4
 .rw [Q8 V0] at g4
  simp only [XQ,Qp] at g4
  refine Zb (ι:=Int × List Kid) (fun s=> Z3J e ws s.1 s.2) (fun s=> 0<=s.1/\s.1<=e.kids.length/\s.2.length=s.1/\s.2++Y4 (e.kids.drop s.1.toNat)=Y4 e.kids) (fun s=> ((e.kids.length:Int) - s.1).toNat) (0,[]) rfl ⟨by simp,by simp,by simp,by simp⟩ ?_
  rintro ⟨j,ks⟩ ⟨f1,f2,f3,f4⟩
  dsimp only at f1 f2 f3 f4
  refine ZrZ _ _ _ _ _ _ _ ?_
  rintro y1 hy1 y2 hy2 y3 hy3
  (simp only [iB,vcS])
  refine ⟨fun hj=> ?_,fun hj=> ?_⟩
  .have hm:=JA (Zh (l:=e.kids) (i:=j.toNat) V0 (KidOf.mk 0 Edit.nil))
   rw [YB f1 hj (KidOf.mk 0 Edit.nil)] at f4
   rw [<-hy1] at f4 hm
   simp only [Y4,Zbs] at f4
   rw [<-hy2] at f4 hm
   rw [<-hy3] at f4
   refine ⟨⟨f1,hj⟩,by simp only [Zcu];omega,by simp only [ZcN];omega,by simp;omega,V4,(j+1,ks++[⟨y1.at_,y3⟩]),rfl,⟨V3,V3,by simp;omega,?_⟩,V3⟩
   simp only [Qa,Qw,QF]
   exact f4
  .rw [Q8 V0] at f4
   simp only [Y4,Qp] at f4
   refine Zb (ι:=Int × List Op) (fun s=> Z3I e ws ks s.1 s.2) (fun s=> 0<=s.1/\s.1<=e.ops.length/\s.2.length=s.1/\s.2++Y9 (e.ops.drop s.1.toNat)=Y9 e.ops) (fun s=> ((e.ops.length:Int) - s.1).toNat) (0,[]) rfl ⟨by simp,by simp,by simp,by simp⟩ ?_
   rintro ⟨k,os⟩ ⟨d1,d2,d3,d4⟩
   dsimp only at d1 d2 d3 d4
   refine ZrY _ _ _ _ _ _ _ _ ?_
   rintro z1 hz1 z2 hz2 z3 hz3
   (simp only [iB,vcS])
   refine ⟨fun hj=> ?_,fun hj=> ?_⟩
   .have hm:=Yl (Zh (l:=e.ops) (i:=k.toNat) V0 Op.nil)
    rw [YB d1 hj Op.nil] at d4
    rw [<-hz1,<-hz2] at d4 hm
    simp only [Y9] at d4
    rw [<-hz3] at d4
    refine ⟨⟨d1,hj⟩,by simp only [Zan];omega,by simp only [Zhu];omega,by simp;omega,V4,(k+1,os++[z3]),rfl,⟨V3,V3,by simp;omega,?_⟩,V3⟩
    simp only [Qa,Qw,QF]
    exact d4
   .rw [Q8 V0] at d4
    simp only [Y9,Qp] at d4
    rw [g4,f4,d4]
    simp only [ZgV,ha]
    exact Y6
theorem ZtE:Contract Try.prog cfg 43 ZbR/\Contract Try.prog cfg 61 ZnG:=Zja b43 b61
theorem Z04:∀ (l:List Op) (n:Int),Z1F l n=l++[⟨0,n,[],Edit.nil⟩]\/∃ a o,l=a++[o]/\o.kind=0/\Z1F l n=a++[⟨o.kind,o.n+n,o.l,o.e⟩]
 | [],n=> Or.inl rfl
 | [o],n=> by
  by_cases h:o.kind=0
  .exact Or.inr ⟨[],o,rfl,h,by simp [Z1F,h]⟩
  .exact Or.inl (by simp [Z1F,h])
 | o ::p ::r,n=> by
  rcases Z04 (p ::r) n with h | ⟨a,q,h1,h2,h3⟩
  .exact Or.inl (by simp only [Z1F,h,Qw])
  .exact Or.inr ⟨o ::a,q,by rw [h1];rfl,h2,by simp only [Z1F,h3,Qw]⟩
def W0:Wst:=⟨[],[],[]⟩
theorem Zax(l:List Tree):Z7 (Z7 l)=Z7 l:=by
 simp only [Z7,List.map_map]
 congr 1
 funext t
 exact ZZ t
theorem Yj(a b:List Tree):Z7 (a++b)=Z7 a++Z7 b:=by simp [Z7]
end Go.AM.Ytfapacabjkhepaa
namespace Go.AM
theorem Z7Y{t:Tree}(h:ZR t=true):t=Tree.nil:=by
 obtain ⟨k,w,ks⟩:=t
 simp only [ZR,decide_eq_true_eq] at h
 obtain ⟨h1,h2,h3⟩:=h
 have h1:k=0:=h1
 rw [h1,Q3 (l:=w) h2,Q3 (l:=ks) h3]
 try rfl
theorem ZgF{e:Edit}(h:Z11 e=true):e=Edit.nil:=by
 obtain ⟨k,o,n,w,ks,l,os⟩:=e
 simp only [Z11,Q1,decide_eq_true_eq] at h
 obtain ⟨⟨⟨h1,h2⟩,h3⟩,h4,h5,h6,h7⟩:=h
 have h1:k=0:=h1
 have h7:l=0:=h7
 rw [h1,h7,Z7Y (t:=o) h2,Z7Y (t:=n) h3,Q3 (l:=w) h4,Q3 (l:=ks) h5,Q3 (l:=os) h6]
 try rfl
structure RightE (e:Edit) (d:Int):Prop where
 d0:d≠0
 kind:0<=e.kind/\e.kind<=3
 none:e.kind≠1->e.old=Tree.nil/\e.new=Tree.nil
 words0:e.kind≠2->e.words=[]/\e.kids=[]
 ops0:e.kind≠3->e.list=0/\e.ops=[]
 rep:e.kind=1->Z9 e.old (dT d)=true/\Z9 e.new (dT d)=true/\e.old.kind≠10/\e.new.kind≠10
 words:Zp (-1) e.words=true
 kids:Zu (-1) e.kids (d - 1)=true
 list:e.kind=3->2<=e.list/\e.list<=9
 ops:Zt e.list e.ops (d - 1)=true
 len:Z0m e.ops 0 < 1048576/\Z0l e.ops 0 < 1048576
theorem Zs{e:Edit}{d:Int}(h:Z0 e d=true):RightE e d:=by
 obtain ⟨k,o,n,w,ks,l,os⟩:=e
 rw [Z0] at h
 split at h
 .cases h
 .rename_i a
  split at h
  .cases h
  .rename_i b
   have b1:k≠1->o=Tree.nil/\n=Tree.nil:=by
    intro hk
    by_cases x:ZR o=true/\ZR n=true
    .exact ⟨Z7Y x.1,Z7Y x.2⟩
    .exact absurd (.inl ⟨hk,x⟩) b
   have b2:k≠2->w=[]/\ks=[]:=by
    intro hk
    by_cases x:w.length=0/\ks.length=0
    .exact ⟨Q3 x.1,Q3 x.2⟩
    .exact absurd (.inr (.inl ⟨hk,x⟩)) b
   have b3:k≠3->l=0/\os=[]:=by
    intro hk
    by_cases x:l≠0\/os.length≠0
    .exact absurd (.inr (.inr ⟨hk,x⟩)) b
    .exact ⟨V0,Q3 V0⟩
   split at h
   .rename_i c
    simp only [Q1,decide_eq_true_eq] at h
    obtain ⟨⟨h1,h2⟩,h3,h4⟩:=h
    have c2:=b2 V0
    have c3:=b3 V0
    obtain ⟨rfl,rfl⟩:=c2
    obtain ⟨rfl,rfl⟩:=c3
    exact ⟨V0,⟨by show 0<=k;omega,by show k<=3;omega⟩,b1,b2,b3,fun _=> ⟨h1,h2,h3,h4⟩,rfl,rfl,fun e=> by have e:k=3:=e;omega,rfl,by show Z0m [] 0 < _/\Z0l [] 0 < _;simp [Z0m,Z0l]⟩
   .rename_i c
    simp only [Q1,decide_eq_true_eq] at h
    obtain ⟨⟨⟨⟨h1,h2⟩,h3⟩,h4⟩,h5⟩:=h
    exact ⟨V0,⟨by show 0<=k;omega,by show k<=3;omega⟩,b1,b2,b3,fun e=> absurd e c,h1,h2,fun e=> by have e:k=3:=e;show 2<=l/\l<=9;omega,h4,h5⟩
theorem ZP:∀ {ks:List Kid} {last d:Int},Zu last ks d=true->∀ k∈ks,(last < k.at_/\k.at_<=65534/\k.e.kind≠0)/\Z0 k.e d=true
 | [],_,_,_,_,hk=> by cases hk
 | ⟨a,e⟩ ::r,last,d,h,k,hk=> by
  simp only [Zu,YW,Q1,decide_eq_true_eq] at h
  obtain ⟨⟨h1,h2⟩,h3⟩:=h
  rcases Q6.1 hk with rfl | hk
  .exact ⟨h1,h2⟩
  .have:=ZP h3 k hk
   have h1:last < a/\a<=65534/\e.kind≠0:=h1
   have h4:a < k.at_:=this.1.1
   exact ⟨⟨V0,this.1.2⟩,this.2⟩
theorem rightOs_mem{list:Int}:∀ {os:List Op} {d:Int},Zt list os d=true->∀ o∈os,Zc list o d=true
 | [],_,_,_,ho=> by cases ho
 | a ::r,d,h,o,ho=> by
  simp only [Zt,Q1] at h
  rcases Q6.1 ho with rfl | ho
  .exact h.1
  .exact rightOs_mem h.2 o ho
theorem YQ:∀ {ws:List WEdit} {last:Int},Zp last ws=true->∀ w∈ws,last < w.at_/\w.at_<=65534/\w.mask≠0/\ZM w.old w.mask=true/\ZM w.new w.mask=true
 | [],_,_,_,hw=> by cases hw
 | a ::r,last,h,w,hw=> by
  simp only [Zp,Q1,decide_eq_true_eq] at h
  obtain ⟨⟨⟨h1,h2⟩,h3⟩,h4⟩:=h
  rcases Q6.1 hw with rfl | hw
  .exact ⟨h1.1,h1.2.1,h1.2.2,h2,h3⟩
  .have:=YQ h4 w hw
   exact ⟨V0,this.2⟩
inductive RightOp (list:Int) (d:Int):Op->Prop
 | keep (n:Int):1<=n->n<=1048576->RightOp list d ⟨0,n,[],Edit.nil⟩
 | gone (l:List Tree):Yr (dT d) list l=true->0 < l.length->RightOp list d ⟨1,0,l,Edit.nil⟩
 | come (l:List Tree):Yr (dT d) list l=true->0 < l.length->RightOp list d ⟨2,0,l,Edit.nil⟩
 | into (e:Edit):Z0 e d=true->e.kind≠0->7 < list->(list=8\/e.kind=2\/e.kind=1/\e.old.kind=1/\e.new.kind=1)->RightOp list d ⟨3,0,[],e⟩
theorem ZT{list:Int}{o:Op}{d:Int}(h:Zc list o d=true):RightOp list d o:=by
 obtain ⟨k,n,l,e⟩:=o
 rw [Zc] at h
 split at h
 .rename_i hk
  simp only [Q1,decide_eq_true_eq] at h
  obtain ⟨⟨h1,h2,h3⟩,h4⟩:=h
  rw [hk,ZgF h4,Q3 h3]
  exact .keep n h1 h2
 .rename_i h0
  split at h
  .cases h
  .rename_i h1
   have hn:n=0:=V0
   subst hn
   split at h
   .rename_i h2
    simp only [Q1,decide_eq_true_eq] at h
    obtain ⟨⟨h3,h4⟩,h5⟩:=h
    rw [ZgF h5]
    by_cases hk:k=1
    .rw [hk];exact .gone l h3 h4
    .rw [show k=2 by omega];exact .come l h3 h4
   .rename_i h2
    simp only [Q1,decide_eq_true_eq] at h
    obtain ⟨⟨⟨h3,h4,h5⟩,h6⟩,h7⟩:=h
    rw [show k=3 by omega,Q3 h3]
    exact .into e h6 h4 h5 h7
theorem ZiR{e:Edit}{d:Int}(h:Z0 e d=true):(∀ k∈e.kids,∃ d,Z0 k.e d=true)/\(∀ o∈e.ops,∃ l d,Zc l o d=true)/\(e.kind=3->2<=e.list/\e.list<=9):=by
 have r:=Zs h
 exact ⟨fun k hk=> ⟨_,(ZP r.kids k hk).2⟩,fun o ho=> ⟨_,_,rightOs_mem r.ops o ho⟩,r.list⟩
theorem Jv{l d:Int}{o:Op}(h:Zc l o d=true)(hk:o.kind=3):Z0 o.e d=true:=by
 have r:=ZT h
 cases r with
 | into e h1=> exact h1
 | keep | gone | come=> exact absurd hk (by simp)
end Go.AM
