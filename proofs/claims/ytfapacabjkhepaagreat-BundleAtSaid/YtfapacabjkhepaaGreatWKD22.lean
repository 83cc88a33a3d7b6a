import Derived.Test.YtfapacabjkhepaaGreatWKB20b
import Derived.Test.YtfapacabjkhepaaGreatWmZ
set_option linter.unusedSimpArgs false
set_option linter.unusedVariables false
namespace Go.AM.YtfapacabjkhepaaGreat
open Go.AM Go.Proofs
theorem Z4m(e:Edit)(d:Int):Z9 e d=
  if d=0\/e.kind < 0\/3 < e.kind then false
  else if (e.kind≠1/\¬(Yz e.old=true/\Yz e.new=true))\/(e.kind≠2/\¬(e.words.length=0/\e.kids.length=0))\/(e.kind≠3/\(e.list≠0\/e.ops.length≠0)) then false
  else if e.kind=1 then Ze e.old (dT d) && Ze e.new (dT d) && decide (e.old.kind≠10/\e.new.kind≠10)
  else ZN (-1) e.words && Zx (-1) e.kids (d - 1) && decide (¬(e.kind=3/\(e.list < 2\/9 < e.list))) && Zw e.list e.ops (d - 1) && decide (Z1i e.ops 0 < 1048576/\Z1h e.ops 0 < 1048576):=by
 obtain ⟨k,o,nw,w,ks,l,os⟩:=e;rfl
theorem Z3F(last:Int)(k:Kid)(d:Int):J0 last k d=(decide (last < k.at_/\k.at_<=65534/\k.e.kind≠0) && Z9 k.e d):=by cases k;rfl
theorem Jp(list:Int)(o:Op)(d:Int):Zc list o d=
  if o.kind=0 then decide (1<=o.n/\o.n<=1048576/\o.l.length=0) && Z1k o.e
  else if o.n≠0\/o.kind < 0\/3 < o.kind then false
  else if o.kind < 3 then Yt (dT d) list o.l && decide (0 < o.l.length) && Z1k o.e
  else decide (o.l.length=0/\o.e.kind≠0/\7 < list) && Z9 o.e d && decide (list=8\/o.e.kind=2\/o.e.kind=1/\o.e.old.kind=1/\o.e.new.kind=1):=by
 cases o;rfl
theorem Z7c{list:Int}{o:Op}{d:Int}(h:Zc list o d=true):0<=o.n/\o.n<=1048576:=by
 rw [Jp] at h
 grind
theorem rightOs_mem{list d:Int}:∀ {os:List Op} {o:Op},Zw list os d=true->o∈os->Zc list o d=true
 | x ::r,o,h,hm=> by
  simp only [Zw,Q2] at h
  rcases Q9.1 hm with rfl | hm
  .exact h.1
  .exact rightOs_mem h.2 hm
theorem ZcM{d:Int}:∀ {ks:List Kid} {last:Int} {k:Kid},Zx last ks d=true->k∈ks->Z9 k.e d=true/\k.e.kind≠0
 | x ::r,last,k,h,hm=> by
  simp only [Zx,Q2] at h
  rcases Q9.1 hm with rfl | hm
  .have:=h.1;rw [Z3F] at this;grind
  .exact ZcM h.2 hm
theorem Z2s{e:Edit}(h:YI e):InR e.kind/\rng e.old/\rng e.new/\(∀ x∈e.words,Z28 x)/\InR e.list/\Z1l e.kids/\Z0Q e.ops:=by
 obtain ⟨k,o,n,w,ks,l,os⟩:=e;exact h
theorem b28:ZIu:=by
 intro N e d _ hp hN
 simp only [Z9Z,Zj0] at hp hN
 obtain ⟨⟨hm,hr⟩,hd0,hd1⟩:=hp
 obtain ⟨ik,ro,rn,rw',il,rk,ros⟩:=Z2s hr
 have hme:=ZT e
 have hkl:=Y1 e.kids
 have hol:=ZF e.ops
 have hat:=Z4m e d
 rw [Zqm hd0] at hat
 refine ZJn N e d _ ?_;(try simp only [iB,vcT,forall_eq])
 (simp only [iB,vcS]);(try simp only [iB,vcT]);(try simp only [vcU])
 try (simp only [Tree.eta,Edit.eta,Tree.kind_mk,Tree.words_mk,Tree.kids_mk])
 refine ⟨fun hc=> Z6 rfl (by rw [hat,V1]),fun hc=> ?_⟩
 rw [V0] at hat
 refine ⟨fun _=> by simp only [Z6d];omega,fun _=> by simp only [Z6d];omega,fun _=> by unfold InR;omega,fun hf=> Z6 rfl ?_,fun hf=> ⟨fun h1=> ⟨⟨V5,ro,V5,V5⟩,fun _=> ⟨V5,rn,V5,V5⟩,Z6 rfl ?_⟩,fun h1=> ?_⟩⟩
 .rw [hat,if_pos]
  rcases hf with (hf | hf) | hf
  .left
   refine ⟨hf.1,fun h=> ?_⟩
   rcases hf.2 with h2 | h2
   .rw [h.1] at h2;cases h2
   .rw [h.2] at h2;cases h2
  .right;left;omega
  .right;right;omega
 .rw [hat,if_neg,if_pos h1,Qr]
  ·(simp only [iB,vcS])
   constructor
   .rintro ⟨⟨⟨h2,h3⟩,h4⟩,h5⟩;exact ⟨⟨h2,h3⟩,h4,h5⟩
   .rintro ⟨⟨h2,h3⟩,h4,h5⟩;exact ⟨⟨⟨h2,h3⟩,h4⟩,h5⟩
  .intro h
   rcases h with h | h | h
   .exact h.1 h1
   .omega
   .omega
 .rw [if_neg,if_neg h1] at hat
  .refine Z4 (ι:=Int × Int) (fun p=> Zb7 e d p.1 p.2) (fun p=> 0<=p.2/\p.2<=e.words.length/\ZN p.1 (e.words.drop p.2.toNat)=ZN (-1) e.words) (fun p=> ((e.words.length:Int) - p.2).toNat) (-1,0) rfl ⟨V5,V5,by simp⟩ ?_
   rintro ⟨last,i⟩ ⟨h2,h3,h4⟩
   dsimp only at*
   refine Zys N e d last i _ _ ?_;(try simp only [iB,vcT,forall_eq])
   (simp only [iB,vcS]);(try simp only [iB,vcT]);(try simp only [vcU])
   try (simp only [Tree.eta,Edit.eta,Tree.kind_mk,Tree.words_mk,Tree.kids_mk])
   refine ⟨fun hi=> ?_,fun hi=> ?_⟩
   .have hmem:=Zf (l:=e.words) (i:=i.toNat) YL (WEdit.mk 0 0 0 0)
    have hrw:=rw' _ hmem
    rw [ZH h2 hi (WEdit.mk 0 0 0 0)] at h4
    simp only [ZN] at h4
    generalize e.words.getD i.toNat (WEdit.mk 0 0 0 0)=w at*
    obtain ⟨_,hmk,hwo,hwn⟩:=hrw
    refine ⟨⟨h2,hi⟩,fun _=> ⟨hwo,hmk⟩,fun _=> ⟨hwn,hmk⟩,fun hq=> Z6 rfl ?_,fun hq=> ⟨V3,(_,i+1),rfl,⟨V5,V5,?_⟩,V5⟩⟩
    .rw [hat,<-h4]
     rcases hq with (hq | hq) | hq
     .rw [decide_eq_false YL];try rfl
     .rw [hq];simp
     .rw [hq];simp
    .dsimp only
     rw [<-h4,decide_eq_true YL,hq.1.2,hq.2];try rfl
   .have hw:ZN (-1) e.words=true:=by
     rw [<-h4,Q6 YL];try rfl
    rw [hw,QX] at hat
    refine Z4 (ι:=Int × Int) (fun p=> Zb6 e d p.1 p.2) (fun p=> 0<=p.2/\p.2<=e.kids.length/\Zx p.1 (e.kids.drop p.2.toNat) (d - 1)=Zx (-1) e.kids (d - 1)) (fun p=> ((e.kids.length:Int) - p.2).toNat) (-1,0) rfl ⟨V5,V5,by simp⟩ ?_
    rintro ⟨last,i⟩ ⟨h2,h3,h4⟩
    dsimp only at*
    refine Zyr N e d last i _ _ ?_;(try simp only [iB,vcT,forall_eq])
    (simp only [iB,vcS]);(try simp only [iB,vcT]);(try simp only [vcU])
    try (simp only [Tree.eta,Edit.eta,Tree.kind_mk,Tree.words_mk,Tree.kids_mk])
    refine ⟨fun hi=> ?_,fun hi=> ?_⟩
    .have hmem:=Zf (l:=e.kids) (i:=i.toNat) YL (KidOf.mk 0 Edit.nil)
     have hrw:=YK rk hmem
     have hmm:=Yw hmem
     rw [ZH h2 hi (KidOf.mk 0 Edit.nil)] at h4
     simp only [Zx,Z3F] at h4
     generalize e.kids.getD i.toNat (KidOf.mk 0 Edit.nil)=w at*
     refine ⟨⟨h2,hi⟩,fun _=> by unfold InR;omega,fun _=> ⟨⟨V5,hrw.2⟩,V5,V5⟩,fun _=> by simp only [Zj0];omega,fun hq=> Z6 rfl ?_,fun hq=> ⟨V3,(_,i+1),rfl,⟨V5,V5,?_⟩,V5⟩⟩
     .rw [hat,<-h4]
      rcases hq with hq | hq
      .rw [decide_eq_false YL];try rfl
      .rw [hq];simp
     .dsimp only
      rw [<-h4,decide_eq_true YL,hq.2];try rfl
    .have hw:Zx (-1) e.kids (d - 1)=true:=by
      rw [<-h4,Q6 YL];try rfl
     rw [hw,QX] at hat
     refine ⟨fun hq=> Z6 rfl (by rw [hat,decide_eq_false YL];rfl),fun hq=> ?_⟩
     rw [decide_eq_true YL,QX] at hat
     refine Z4 (ι:=Int) (fun p=> Zb5 e d p) (fun p=> 0<=p/\p<=e.ops.length/\Zw e.list (e.ops.drop p.toNat) (d - 1)=Zw e.list e.ops (d - 1)) (fun p=> ((e.ops.length:Int) - p).toNat) 0 rfl ⟨YL,YL,by simp⟩ ?_
     rintro j ⟨h5,h6,h7⟩
     refine Zyq N e d j _ _ ?_;(try simp only [iB,vcT,forall_eq])
     (simp only [iB,vcS]);(try simp only [iB,vcT]);(try simp only [vcU])
     try (simp only [Tree.eta,Edit.eta,Tree.kind_mk,Tree.words_mk,Tree.kids_mk])
     refine ⟨fun hj=> ?_,fun hj=> ?_⟩
     .have hmem:=Zf (l:=e.ops) (i:=j.toNat) YL Op.nil
      have hro:=JN ros hmem
      have hmm:=ZI hmem
      rw [ZH h5 hj Op.nil] at h7
      simp only [Zw] at h7
      generalize e.ops.getD j.toNat Op.nil=o at*
      refine ⟨⟨h5,hj⟩,V3,⟨⟨by show Zt o<=20000000000;omega,hro,il⟩,V5,V5⟩,?_,fun hq=> Z6 rfl ?_,fun hq=> ⟨V3,j+1,rfl,⟨YL,YL,?_⟩,YL⟩⟩
      .show 2*Zt o+1 < N
       omega
      .have hq':Zc e.list o (d - 1)=false:=hq
       rw [hat,<-h7,hq'];try rfl
      .have hq':Zc e.list o (d - 1)=true:=hq
       rw [<-h7,hq'];try rfl
     .have hw:Zw e.list e.ops (d - 1)=true:=by
       rw [<-h7,Q6 YL];try rfl
      rw [hw,QX] at hat
      refine ⟨⟨hm,fun o ho=> Z7c (rightOs_mem hw ho)⟩,Z6 rfl ?_⟩
      rw [hat,Qr]
      (simp only [iB,vcS])
  .intro h
   rcases h with h | h | h
   .rcases hf.1.1 with h2 | h2
    .exact h1 h2
    .exact h.2 h2
   .omega
   .omega
theorem ZgT{l:List Tree}{i:Int}(h0:0<=i)(h:i < l.length):List.drop i.toNat (l.take (i+1).toNat)=[l.getD i.toNat Tree.nil]:=by
 rw [List.drop_take,show (i+1).toNat - i.toNat=1 by omega,ZH h0 h Tree.nil]
 try rfl
theorem b59:ZIq:=by
 intro N list o d _ hp hN
 simp only [Zhs,ZrJ] at hp hN
 obtain ⟨⟨hm,hr,hil⟩,hd0,hd1⟩:=hp
 obtain ⟨ik,inn,rl,re⟩:=Jr hr
 rw [ZG] at hm hN
 have hll:=Zv o.l
 have hep:=Z4z o.e
 have hat:=Jp list o d
 rw [Zqm hd0,Zbu] at hat
 refine ZJ1 N list o d _ ?_;(try simp only [iB,vcT,forall_eq])
 (simp only [iB,vcS]);(try simp only [iB,vcT]);(try simp only [vcU])
 try (simp only [Tree.eta,Edit.eta,Tree.kind_mk,Tree.words_mk,Tree.kids_mk])
 refine ⟨fun h0=> ⟨fun _=> by simp only [Zfl];omega,Z6 rfl ?_⟩,fun h0=> ⟨fun hc=> Z6 rfl ?_,fun hc=> ⟨fun h3=> ?_,fun h3=> ⟨fun _=> ⟨⟨V5,re⟩,hd0,hd1⟩,fun _=> by simp only [Zj0];omega,fun hq=> Z6 rfl ?_,fun hq=> Z6 rfl ?_⟩⟩⟩⟩
 .rw [hat,if_pos h0,Qr]
  (simp only [iB,vcS])
  constructor
  .rintro ⟨h1,h2⟩;exact ⟨YL,h2⟩
  .rintro ⟨h1,h2⟩;exact ⟨YL,h2⟩
 .rw [hat,if_neg h0,V1]
 .rw [if_neg h0,V0,if_pos h3] at hat
  refine Z4 (ι:=Int) (fun p=> ZaN list o d p) (fun p=> 0<=p/\p<=o.l.length/\JS list (o.l.drop p.toNat)=JS list o.l) (fun p=> ((o.l.length:Int) - p).toNat) 0 rfl ⟨YL,YL,by simp⟩ ?_
  rintro i ⟨h4,h5,h6⟩
  refine Zy6 N list o d i _ _ ?_;(try simp only [iB,vcT,forall_eq])
  (simp only [iB,vcS]);(try simp only [iB,vcT]);(try simp only [vcU])
  try (simp only [Tree.eta,Edit.eta,Tree.kind_mk,Tree.words_mk,Tree.kids_mk])
  refine ⟨fun hi=> ?_,fun hi=> ?_⟩
  .have hmem:=Zf (l:=o.l) (i:=i.toNat) YL Tree.nil
   have hrt:=YZ rl hmem
   have hmt:=Yx hmem
   rw [ZgT h4 hi]
   rw [ZH h4 hi Tree.nil] at h6
   simp only [JS] at h6
   generalize o.l.getD i.toNat Tree.nil=t at*
   refine ⟨V3,YL,⟨by simp only [Zm,Zk,List.length_nil];omega,⟨hil,fun x hx=> (by cases hx),hrt,trivial⟩,V5,V5⟩,fun hq=> Z6 rfl ?_,fun hq=> ⟨V3,i+1,rfl,⟨YL,YL,?_⟩,YL⟩⟩
   .rw [hat,<-h6,hq];try rfl
   .rw [<-h6,hq];try rfl
  .have hw:JS list o.l=true:=by
    rw [<-h6,Q6 YL];try rfl
   rw [hw,QX] at hat
   refine ⟨fun _=> by simp only [Zfl];omega,Z6 rfl ?_⟩
   rw [hat,Qr]
   (simp only [iB,vcS])
   simp only [Int.natCast_pos]
 .rw [hat,if_neg h0,V0,if_neg h3]
  rcases hq with hq | hq
  .have:¬(o.l.length=0/\o.e.kind≠0/\7 < list):=YL
   rw [decide_eq_false this];try rfl
  .rw [hq];simp
 .rw [hat,if_neg h0,V0,if_neg h3,hq.2]
  have:o.l.length=0/\o.e.kind≠0/\7 < list:=YL
  rw [decide_eq_true this,Qr]
  (simp only [iB,vcS])
  simp only [true_and,XL,decide_eq_true_eq,and_assoc,or_assoc]
theorem ZwC:Contract Tryz.prog cfg 28 Z62/\Contract Tryz.prog cfg 59 ZtH:=ZrV c57 c58 c92 c20 c60 b28 b59
theorem ZhG(e:Edit):Z2d e=(decide (Z1i e.ops 0<=2000/\Z1h e.ops 0<=2000) && Z2v e.kids && Z3M e.ops):=by
 obtain ⟨k,o,nw,w,ks,l,os⟩:=e;rfl
theorem Zdh(k:Kid):Zll k=Z2d k.e:=by cases k;rfl
theorem Zga(o:Op):ZpH o=Z2d o.e:=by cases o;rfl
theorem Z7d{e:Edit}{d:Int}(h:Z9 e d=true):(∀ k∈e.kids,Z9 k.e (d - 1)=true/\k.e.kind≠0)/\∀ o∈e.ops,Zc e.list o (d - 1)=true:=by
 rw [Z4m] at h
 split at h
 .cases h
 .split at h
  .cases h
  .rename_i h1 h2
   split at h
   .grind
   .simp only [Q2] at h
    exact ⟨fun k hk=> ZcM h.1.1.1.2 hk,fun o ho=> rightOs_mem h.1.2 ho⟩
theorem Zki{e:Edit}(h:Z1k e=true):e.kind=0/\Yz e.old=true/\Yz e.new=true/\e.words=[]/\e.kids=[]/\e.ops=[]/\e.list=0:=by
 simp only [Z1k,Q2,decide_eq_true_eq] at h
 grind
theorem ZcG{e:Edit}(h:Z1k e=true)(d:Int)(hd:d≠0):Z9 e d=true:=by
 obtain ⟨h1,h2,h3,h4,h5,h6,h7⟩:=Zki h
 rw [Z4m,h1,h2,h3,h4,h5,h6,h7,V0,if_neg (by simp),V0]
 try rfl
theorem ZgI{list:Int}{o:Op}{d:Int}(h:Zc list o d=true):∃ d',Z9 o.e d'=true:=by
 rw [Jp] at h
 split at h
 .simp only [Q2] at h
  exact ⟨1,ZcG h.2 1 YL⟩
 .split at h
  .cases h
  .split at h
   .simp only [Q2] at h
    exact ⟨1,ZcG h.2 1 YL⟩
   grind
theorem c29:Contract Tryz.prog cfg 29 ZeK:=by
 refine ZDv c60 ?_
 intro N e _ hp hN
 simp only [Zfr,Zl9] at hp hN
 obtain ⟨⟨hm,hr⟩,dd,hrt⟩:=hp
 obtain ⟨ik,ro,rn,rw',il,rk,ros⟩:=Z2s hr
 have hme:=ZT e
 have hkl:=Y1 e.kids
 have hol:=ZF e.ops
 have hat:=ZhG e
 obtain ⟨hrk,hro⟩:=Z7d hrt
 refine ZJm N e _ ?_;(try simp only [iB,vcT,forall_eq])
 (simp only [iB,vcS]);(try simp only [iB,vcT]);(try simp only [vcU])
 try (simp only [Tree.eta,Edit.eta,Tree.kind_mk,Tree.words_mk,Tree.kids_mk])
 refine ⟨⟨hm,fun o ho=> Z7c (hro o ho)⟩,fun hq=> Z6 rfl (by grind),fun hq=> ?_⟩
 rw [decide_eq_true YL,QX] at hat
 refine Z4 (ι:=Int) (fun p=> Zb4 e p) (fun p=> 0<=p/\p<=e.kids.length/\Z2v (e.kids.drop p.toNat)=Z2v e.kids) (fun p=> ((e.kids.length:Int) - p).toNat) 0 rfl ⟨YL,YL,by simp⟩ ?_
 rintro i ⟨h4,h5,h6⟩
 refine Zyp N e i _ _ ?_;(try simp only [iB,vcT,forall_eq])
 (simp only [iB,vcS]);(try simp only [iB,vcT]);(try simp only [vcU])
 try (simp only [Tree.eta,Edit.eta,Tree.kind_mk,Tree.words_mk,Tree.kids_mk])
 refine ⟨fun hi=> ?_,fun hi=> ?_⟩
 .have hmem:=Zf (l:=e.kids) (i:=i.toNat) YL (KidOf.mk 0 Edit.nil)
  have hrr:=YK rk hmem
  have hmm:=Yw hmem
  have hri:=hrk _ hmem
  rw [ZH h4 hi (KidOf.mk 0 Edit.nil)] at h6
  simp only [Z2v,Zdh] at h6
  generalize e.kids.getD i.toNat (KidOf.mk 0 Edit.nil)=k at*
  refine ⟨⟨h4,hi⟩,⟨⟨by grind,hrr.2⟩,_,hri.1⟩,by simp only [Zl9];omega,fun hq=> Z6 rfl (by grind),fun hq=> ⟨V3,i+1,rfl,⟨YL,YL,by grind⟩,YL⟩⟩
 .have hw:Z2v e.kids=true:=by
   rw [<-h6,Q6 YL];try rfl
  rw [hw,QX] at hat
  refine Z4 (ι:=Int) (fun p=> Zb3 e p) (fun p=> 0<=p/\p<=e.ops.length/\Z3M (e.ops.drop p.toNat)=Z3M e.ops) (fun p=> ((e.ops.length:Int) - p).toNat) 0 rfl ⟨YL,YL,by simp⟩ ?_
  rintro j ⟨g4,g5,g6⟩
  refine Zyo N e j _ _ ?_;(try simp only [iB,vcT,forall_eq])
  (simp only [iB,vcS]);(try simp only [iB,vcT]);(try simp only [vcU])
  try (simp only [Tree.eta,Edit.eta,Tree.kind_mk,Tree.words_mk,Tree.kids_mk])
  refine ⟨fun hi=> ?_,fun hi=> ?_⟩
  .have hmem:=Zf (l:=e.ops) (i:=j.toNat) YL Op.nil
   have hrr:=Jr (JN ros hmem)
   have hmm:=ZI hmem
   have hri:=ZgI (hro _ hmem)
   rw [ZG] at hmm
   rw [ZH g4 hi Op.nil] at g6
   simp only [Z3M,Zga] at g6
   generalize e.ops.getD j.toNat Op.nil=o at*
   refine ⟨⟨g4,hi⟩,⟨⟨by grind,hrr.2.2.2⟩,hri⟩,by simp only [Zl9];omega,fun hq=> Z6 rfl (by grind),fun hq=> ⟨V3,j+1,rfl,⟨YL,YL,by grind⟩,YL⟩⟩
  .refine Z6 rfl ?_
   rw [hat,<-g6,Q6 YL];try rfl
end Go.AM.YtfapacabjkhepaaGreat
namespace Go.AM
noncomputable def eqX{α:Type}(a b:α):Bool:=@decide (a=b) (Classical.propDecidable _)
theorem JI{α:Type}{a b:α}:eqX a b=true↔a=b:=by unfold eqX;grind
@[simp] theorem Zwp {α:Type} (a:α):eqX a a=true:=JI.2 rfl
def ZD(o:Op)(n:Int):Op:=if Z3 o<=n then o else if o.kind=0 then ⟨o.kind,n,o.l,o.e⟩ else ⟨o.kind,o.n,o.l.take n.toNat,o.e⟩
def JX(o:Op)(n:Int):Op:=if o.kind=0 then ⟨o.kind,o.n - n,o.l,o.e⟩ else ⟨o.kind,o.n,o.l.drop n.toNat,o.e⟩
def ZV(l:List Op)(n:Int):List Op:=if Z3 (l.getD 0 Op.nil)<=n then l.drop 1 else JX (l.getD 0 Op.nil) n ::l.drop 1
def sgl(a:Int)(l:List Op):Bool:=decide (l.length≠0/\(l.getD 0 Op.nil).kind=a)
def ZQ(o:Op):Prop:=
 (o.kind=0/\o.l=[]/\(1<=o.n/\o.n<=1048576)/\o.e=Edit.nil)\/((o.kind=1\/o.kind=2)/\o.n=0/\o.l≠[]/\o.e=Edit.nil)\/(o.kind=3/\o.n=0/\o.l=[])
def Za9(l:List Op):Prop:=(∀ o∈l,ZQ o)/\Zn l<=20000000000
theorem YD(l:List Op)(n:Int)(h:l.length≠0):(ZV l n).length<=l.length:=by
 unfold ZV
 grind
theorem YC(l:List Op)(n:Int)(h:l.length≠0)(hn:Z3 (l.getD 0 Op.nil)<=n):(ZV l n).length < l.length:=by
 unfold ZV
 grind
def Y3(ap aq:Int)(p q:List Op)(out:List Piece):List Piece × Bool × List Op × List Op:=
 if h:sgl ap p=true then Y3 ap aq (p.drop 1) q (out++[⟨1,p.getD 0 Op.nil,Op.nil⟩])
 else if h2:sgl aq q=true then Y3 ap aq p (q.drop 1) (out++[⟨2,Op.nil,q.getD 0 Op.nil⟩])
 else if h3:p.length=0\/q.length=0 then
  if decide (p.length=0)=decide (q.length=0) then (out,true,p,q) else ([],false,p,q)
 else
  Y3 ap aq (ZV p (min (Z3 (p.getD 0 Op.nil)) (Z3 (q.getD 0 Op.nil)))) (ZV q (min (Z3 (p.getD 0 Op.nil)) (Z3 (q.getD 0 Op.nil))))
   (out++[⟨0,ZD (p.getD 0 Op.nil) (min (Z3 (p.getD 0 Op.nil)) (Z3 (q.getD 0 Op.nil))),ZD (q.getD 0 Op.nil) (min (Z3 (p.getD 0 Op.nil)) (Z3 (q.getD 0 Op.nil)))⟩])
termination_by p.length+q.length
decreasing_by
 .have:=(of_decide_eq_true h).1;grind
 .have:=(of_decide_eq_true h2).1;grind
 .rcases Int.le_total (Z3 (p.getD 0 Op.nil)) (Z3 (q.getD 0 Op.nil)) with hm | hm
  .have a:=YC p _ YL (Xe (Z3 (p.getD 0 Op.nil)))
   have b:=YD q (Z3 (p.getD 0 Op.nil)) YL
   grind
  .have a:=YC q _ YL (Xe (Z3 (q.getD 0 Op.nil)))
   have b:=YD p (Z3 (q.getD 0 Op.nil)) YL
   grind
def Yn(i alone:Int)(o:Op):List AUnit:=
 (if o.kind=0 then List.replicate o.n.toNat ⟨i,0,Tree.nil,Edit.nil,false⟩ else [])
  ++(o.l.map (fun t=> ⟨i,o.kind,t,Edit.nil,decide (o.kind=alone)⟩)
  ++(if o.kind=3 then [⟨i,3,Tree.nil,o.e,false⟩] else []))
def ZE(i alone:Int):List Op->List AUnit
 | []=> []
 | o ::r=> Yn i alone o++ZE (i+1) alone r
def Z47:List Op->Int
 | []=> 0
 | o ::r=> Z3 o+Z47 r
def alo(l:List AUnit):Bool:=decide (l.length≠0/\(l.getD 0 AUnit.nil).alone=true)
def ZX(p q:List AUnit)(out:List APair):List APair × Bool:=
 if h:alo p=true then ZX (p.drop 1) q (out++[⟨1,p.getD 0 AUnit.nil,AUnit.nil⟩])
 else if h2:alo q=true then ZX p (q.drop 1) (out++[⟨2,AUnit.nil,q.getD 0 AUnit.nil⟩])
 else if h3:p.length=0\/q.length=0 then
  if decide (p.length=0)=decide (q.length=0) then (out,true) else ([],false)
 else ZX (p.drop 1) (q.drop 1) (out++[⟨0,p.getD 0 AUnit.nil,q.getD 0 AUnit.nil⟩])
termination_by p.length+q.length
decreasing_by
 .have:=(of_decide_eq_true h).1;grind
 .have:=(of_decide_eq_true h2).1;grind
 grind
def opU(u:AUnit):Op:=if u.kind=0 then ⟨0,1,[],Edit.nil⟩ else if u.kind=3 then ⟨3,0,[],u.e⟩ else ⟨u.kind,0,[u.t],Edit.nil⟩
def Z5O(o:Op)(alone:Int)(l:List AUnit):Prop:=(ZE 0 alone [o]).map opU=l.map opU
def Zcy(alone:Int):List Piece->List APair->Prop
 | [],m=> m=[]
 | x ::r,m=> ∃ m1 m2,m=m1++m2/\m1≠[]/\((x.of=0\/x.of=1\/x.of=2)/\(x.of=2->x.p=Op.nil)/\(∀ y∈m1,y.of=x.of)/\(x.of≠2->ZQ x.p/\Zt x.p<=18000000000/\Z3 x.p=m1.length/\Z5O x.p alone (m1.map APair.p))
   /\(x.of≠1->ZQ x.q/\Zt x.q<=18000000000/\Z3 x.q=m1.length/\Z5O x.q 2 (m1.map APair.q)))/\Zcy alone r m2
end Go.AM
namespace Go.AM.YtfapacabjkhepaaGreat
open Go.AM Go.Proofs
noncomputable section
def Zqu:ArgL (Op × Unit):=(.cons (aEl .op) .nil)
def Z6g(a:Op × Unit):Prop:=Zt a.1<=20000000000/\0<=OpOf.n a.1/\OpOf.n a.1<=1048576
def ZtX(a:Op × Unit):V U:= .c (ci (Z3 a.1))
def Z3u:Fs U:=fs Zqu (fun a=> [Z6g a]) ZtX
def ZjG:ArgM ((List Op × Int × Unit) × Unit):=(.obj 0 (.cons (cSl .op) (.cons (ZlS .i64) .nil)) .nil)
def Z3Z(a:(List Op × Int × Unit) × Unit):Prop:=(a.1.1).length<=120000000000
def ZtW(a:(List Op × Int × Unit) × Unit):V U:= .c (.bool (decide ((a.1.1).length=0)))
def ZoJ(a:(List Op × Int × Unit) × Unit):List (List (C U)):=[[sU .op a.1.1 .unk,ci a.1.2.1]]
def Z3t:Fs U:=fsX ZjG (fun a=> [Z3Z a]) ZtW ZoJ
def ZtY(a:(List Op × Int × Unit) × Unit):V U:= .c (.bool (sgl a.1.2.1 a.1.1))
def Z9t:Fs U:=fsX ZjG (fun a=> [Z3Z a]) ZtY ZoJ
def ZjH:ArgM ((List Op × Int × Unit) × Int × Unit):=(.obj 0 (.cons (cSl .op) (.cons (ZlS .i64) .nil)) (.cons (Ya .i64) .nil))
def Z8P(a:(List Op × Int × Unit) × Int × Unit):Prop:=Za9 a.1.1/\(a.1.1).length≠0/\1<=a.2.1/\a.2.1<=120000000000
def Zf9(a:(List Op × Int × Unit) × Int × Unit):V U:= .agg (enc .op (ZD ((a.1.1).getD 0 Op.nil) a.2.1))
def Z9R(a:(List Op × Int × Unit) × Int × Unit):List (List (C U)):=[[sU .op (ZV a.1.1 a.2.1) .unk,ci a.1.2.1]]
def Z9s:Fs U:=fsX ZjH (fun a=> [Z8P a]) Zf9 Z9R
def ZjJ:ArgM ((List Op × Int × Unit) × (List Op × Int × Unit) × Unit):=(.obj 0 (.cons (cSl .op) (.cons (ZlS .i64) .nil)) (.obj 1 (.cons (cSl .op) (.cons (ZlS .i64) .nil)) .nil))
def ZiN(a:(List Op × Int × Unit) × (List Op × Int × Unit) × Unit):Prop:=Za9 a.1.1/\Za9 a.2.1.1
def ZiA(a:(List Op × Int × Unit) × (List Op × Int × Unit) × Unit):V U:= .tup [(false,[sU .piece ((Y3 a.1.2.1 a.2.1.2.1 a.1.1 a.2.1.1 []).1) .unk]),(false,[.bool ((Y3 a.1.2.1 a.2.1.2.1 a.1.1 a.2.1.1 []).2.1)])]
def ZdR(a:(List Op × Int × Unit) × (List Op × Int × Unit) × Unit):List (List (C U)):=[[sU .op ((Y3 a.1.2.1 a.2.1.2.1 a.1.1 a.2.1.1 []).2.2.1) .unk,ci a.1.2.1],[sU .op ((Y3 a.1.2.1 a.2.1.2.1 a.1.1 a.2.1.1 []).2.2.2) .unk,ci a.2.1.2.1]]
def Z6Y:Fs U:=fsX ZjJ (fun a=> [ZiN a]) ZiA ZdR
def ZqD:ArgL (List Op × List Op × Unit):=(.cons (aSl .op) (.cons (aSl .op) .nil))
def ZmG(a:List Op × List Op × Unit):Prop:=Za9 a.1/\Za9 a.2.1
def Zu1(a:List Op × List Op × Unit):V U:= .tup [(false,[sU .piece ((Y3 1 2 a.1 a.2.1 []).1) .unk]),(false,[.bool ((Y3 1 2 a.1 a.2.1 []).2.1)])]
def Z2m:Fs U:=fs ZqD (fun a=> [ZmG a]) Zu1
def Zqx:ArgL (List Op × Int × Unit):=(.cons (aSl .op) (.cons (Ya .i64) .nil))
def Zft(a:List Op × Int × Unit):Prop:=Za9 a.1/\Z47 a.1<=120000000000
def ZtZ(a:List Op × Int × Unit):V U:= .c (sU .unit (ZE 0 a.2.1 a.1) .unk)
def Z5a:Fs U:=fs Zqx (fun a=> [Zft a]) ZtZ
def Zqy:ArgL (List AUnit × List AUnit × Unit):=(.cons (aSl .unit) (.cons (aSl .unit) .nil))
def ZiO(a:List AUnit × List AUnit × Unit):Prop:=(a.1).length<=120000000000/\(a.2.1).length<=120000000000
def ZiC(a:List AUnit × List AUnit × Unit):V U:= .tup [(false,[sU .pair ((ZX a.1 a.2.1 []).1) .unk]),(false,[.bool ((ZX a.1 a.2.1 []).2)])]
def Z5b:Fs U:=fs Zqy (fun a=> [ZiO a]) ZiC
def Zqw:ArgL (AUnit × Unit):=(.cons (aEl .unit) .nil)
def ZbN(a:AUnit × Unit):Prop:=True
def Zfa(a:AUnit × Unit):V U:= .agg (enc .op (opU a.1))
def Z59:Fs U:=fs Zqw (fun a=> [ZbN a]) Zfa
def Zx6:ArgL (List Tree × List Tree × Unit):=(.cons (aSl .tree) (.cons (aSl .tree) .nil))
def ZkP(a:List Tree × List Tree × Unit):Prop:=Zk a.1<=20000000000
def ZBB(a:List Tree × List Tree × Unit):V U:= .c (.bool (eqX a.1 a.2.1))
def ZeG:Fs U:=fs Zx6 (fun a=> [ZkP a]) ZBB
def Zo3:ArgL (Edit × Edit × Unit):=(.cons (aEl .edit) (.cons (aEl .edit) .nil))
def Z8l(a:Edit × Edit × Unit):Prop:=Z8 a.1<=20000000000
def Zla(a:Edit × Edit × Unit):Nat:=Z8 a.1
def Zu7(a:Edit × Edit × Unit):V U:= .c (.bool (eqX a.1 a.2.1))
def ZeO:Fs U:=fs Zo3 (fun a=> [Z8l a]) Zu7
def Zv9:Zd U:=lvl [([1],[1]),([1,5],[1]),([2],[]),([2],[])]
abbrev ZK3(p:List Nat):=AW (Z1 Znz) Tryz.f196 Zv9 p
theorem ZGE(o:Op)(Q:QT)(h:(iB (o.kind==3) ((Q .ret (L2 [pI 2 1] []))) ((InR (o.n+(o.l.length:Int)))/\(Q .ret (L2 [pI 2 (o.n+(o.l.length:Int))] []))))):
  ZK3 [] (L2 [(0,.agg (enc .op o))] []) Q:=
 Eq.mpr V4 h
def ZAs(o:Op):Prop:=AW (Z1 Znz) Tryz.f196 Zv9 [] (Zg (Zqu.can (o,())) []) (EQ Tryz.f196 (ZtX (o,())) [])
theorem ZyS(hb:∀ (o:Op) (_:Unit),Z6g (o,())->ZAs o):CT 196 Z3u:=
 Z2 (l:=[]) Zi rfl trivial Zv9 Tryz.func196 rfl rfl 1 (fun _=> rfl) V2 (fun ⟨o,_⟩=> hb o ())
def Zv8:Zd U:=lvk [([0],[((.x 0),[])]),([2],[((.x 0),[])])]
abbrev ZK2(p:List Nat):=AW (Z1 Znz) Tryz.f197 Zv8 p
theorem ZGD(l:List Op)(alone:Int)(Q:QT)(h:(Q .ret (L2 [pB 2 (((l.length:Int):Int)==0)] [(.x 0,[sU .op l .unk,ci alone])]))):
  ZK2 [] (L2 [(0,.ptr (.x 0) 0)] [(.x 0,[sU .op l .unk,ci alone])]) Q:=
 Eq.mpr V4 h
def ZAr(l:List Op)(alone:Int):Prop:=AW (Z1 Znz) Tryz.f197 Zv8 [] (Zg (ZjG.can ((l,alone,()),())) (ZjG.canX ((l,alone,()),()))) (EQ Tryz.f197 (ZtW ((l,alone,()),())) (ZoJ ((l,alone,()),())))
theorem ZyR(hb:∀ (l:List Op) (alone:Int) (_:Unit),Z3Z ((l,alone,()),())->ZAr l alone):CT 197 Z3t:=
 J3 (l:=[]) Zi rfl trivial Zv8 Tryz.func197 rfl rfl 1 (fun _=> rfl) V2 (fun ⟨⟨l,alone,_⟩,_⟩=> hb l alone ())
def ZpM:List (FuncId × Fs U):=[(197,Z3t)]
abbrev ZK5(p:List Nat):=AW (Z1 ZpM) Tryz.f194 Zv8 p
theorem ZGG(l:List Op)(alone:Int)(Q:QT)(h:let z0:= !(decide (l.length=0));((Z3Z ((l,alone,()),()))/\(Tt z0)/\(Tt z0)/\(Tt z0)/\(Tt z0)/\(z0=true->(0:Int)<=0/\0 < (l.length:Int))/\(Tt z0)/\(Tt z0)/\(Tt z0)/\(Tt z0)/\(Tt z0)/\(Tt z0)/\(Tt z0)/\(Tt z0)/\(Q .ret (L2 [(2,.c (.bool (bif z0 then (((OpOf.kind (List.getD l (Int.toNat 0) Op.nil)):Int)==alone) else false)))] [(.x 0,[sU .op l .unk,ci alone])])))):
  ZK5 [] (L2 [(0,.ptr (.x 0) 0)] [(.x 0,[sU .op l .unk,ci alone])]) Q:=
 Eq.mpr V4 h
def ZAu(l:List Op)(alone:Int):Prop:=AW (Z1 ZpM) Tryz.f194 Zv8 [] (Zg (ZjG.can ((l,alone,()),())) (ZjG.canX ((l,alone,()),()))) (EQ Tryz.f194 (ZtY ((l,alone,()),())) (ZoJ ((l,alone,()),())))
theorem ZyU(Zsj:CT 197 Z3t)(hb:∀ (l:List Op) (alone:Int) (_:Unit),Z3Z ((l,alone,()),())->ZAu l alone):CT 194 Z9t:=
 J3 (l:=[(197,Z3t)]) Zi rfl (⟨Zsj,trivial⟩) Zv8 Tryz.func194 rfl rfl 1 (fun _=> rfl) V2 (fun ⟨⟨l,alone,_⟩,_⟩=> hb l alone ())
def ZpL:List (FuncId × Fs U):=[(196,Z3u)]
def Zva:Zd U:=lvk [([0,1,4],[4,((.x 0),[])]),([0,1,4,5],[4,5,((.x 0),[])]),([0,1,4,5,17],[4,5,((.x 0),[])]),([4,5],[4,5,((.x 0),[])]),([4],[4,((.x 0),[])]),([0,1,4,5,6,7],[4,5,6,7,((.x 0),[])]),([0,1,4,5,6,7,31],[4,5,6,7,((.x 0),[])]),([0,4,6,7],[4,6,7,((.x 0),[])]),([0,4,6,7],[4,6,7,((.x 0),[])]),([4,6],[4,6,((.x 0),[])]),([4],[4,((.x 0),[])])]
abbrev ZK4(p:List Nat):=AW (Z1 ZpL) Tryz.f195 Zva p
theorem ZGF(l:List Op)(alone n:Int)(Q:QT)(h:∀ y_1,y_1=(List.getD l (Int.toNat 0) Op.nil)->∀ y_2,y_2=y_1->∀ y_3,y_3=(y_1.e)->let z0:=List.drop (Int.toNat 1) l;(((0:Int)<=0/\0 < (l.length:Int))/\((Z6g (y_2,()))/\(iB (decide (((Z3 y_2):Int)<=n)) (((0:Int)<=1/\1<=(l.length:Int))/\(Q .ret (L2 [pL 4] [(.loc 4,(enc .op y_1)),(.x 0,[sU .op z0 .unk,ci alone])]))) ((iB (y_1.kind==0) ((InR (y_1.n - n))/\(((0:Int)<=1/\1<=(l.length:Int))/\((([(OpOf.mk y_1.kind (y_1.n - n) y_1.l y_3)]).length+z0.length)*240<=140737488355328)/\(Q .ret (L2 [pL 4] [(.loc 4,([ci y_1.kind,ci n,sU .tree y_1.l .unk]++enc .edit y_1.e)),(.x 0,[sU .op (([(OpOf.mk y_1.kind (y_1.n - n) y_1.l y_3)])++z0) (.own (.x 0 0)),ci alone])])))) (((0:Int)<=n/\n<=(y_1.l.length:Int))/\(n=n)/\((0:Int)<=n/\n<=(y_1.l.length:Int))/\(((0:Int)<=1/\1<=(l.length:Int))/\((([(OpOf.mk y_1.kind y_1.n (List.drop n.toNat y_1.l) y_3)]).length+z0.length)*240<=140737488355328)/\(Q .ret (L2 [pL 4] [(.loc 4,([ci y_1.kind,ci y_1.n,sU .tree (List.take n.toNat y_1.l) .full]++enc .edit y_1.e)),(.x 0,[sU .op (([(OpOf.mk y_1.kind y_1.n (List.drop n.toNat y_1.l) y_3)])++z0) (.own (.x 0 0)),ci alone])])))))))))):
  ZK4 [] (L2 [(0,.ptr (.x 0) 0),pI 1 n] [(.x 0,[sU .op l .unk,ci alone])]) Q:=
 Eq.mpr V4 (h _ rfl _ (YP _) _ (Z7 _))
def ZAt(l:List Op)(alone n:Int):Prop:=AW (Z1 ZpL) Tryz.f195 Zva [] (Zg (ZjH.can ((l,alone,()),n,())) (ZjH.canX ((l,alone,()),n,()))) (EQ Tryz.f195 (Zf9 ((l,alone,()),n,())) (Z9R ((l,alone,()),n,())))
theorem ZyT(Zsk:CT 196 Z3u)(hb:∀ (l:List Op) (alone:Int) (n:Int) (_:Unit),Z8P ((l,alone,()),n,())->ZAt l alone n):CT 195 Z9s:=
 J3 (l:=[(196,Z3u)]) Zi rfl (⟨Zsk,trivial⟩) Zva Tryz.func195 rfl rfl 2 (fun _=> rfl) V2 (fun ⟨⟨l,alone,_⟩,n,_⟩=> hb l alone n ())
def ZpN:List (FuncId × Fs U):=[(194,Z9t),(195,Z9s),(196,Z3u),(197,Z3t)]
def Zvc:Zd U:=lvk [([0,1],[((.x 0),[]),((.x 1),[])]),([0,1,(6,[.own .piece])],[((.x 0),[]),((.x 1),[])]),([0,1,6,7],[((.x 0),[]),((.x 1),[])]),([0,1,(6,[.own .piece])],[((.x 0),[]),((.x 1),[])]),([0,1,6,33],[((.x 0),[]),((.x 1),[])]),([0,1,(6,[.own .piece])],[((.x 0),[]),((.x 1),[])]),([0,1,6,49],[((.x 0),[]),((.x 1),[])]),([0,1,(6,[.own .piece])],[((.x 0),[]),((.x 1),[])]),([0,1,6,65],[((.x 0),[]),((.x 1),[])]),([6,76],[((.x 0),[]),((.x 1),[])]),([4,5],[((.x 0),[]),((.x 1),[])]),([4,5],[((.x 0),[]),((.x 1),[])])]
def Z2Q(pl:List Op)(pa:Int)(ql:List Op)(qa:Int)(mx0_0 mx1_0:List Op)(mx1_1:Int)(x6:List Piece):LSt U:=(L2 [(0,.ptr (.x 0) 0),(1,.ptr (.x 1) 0),(6,.c (sU .piece x6 (.own (.e 6 0))))] [(.x 0,[sU .op mx0_0 .unk,ci pa]),(.x 1,[sU .op mx1_0 .unk,ci mx1_1])])
abbrev ZGr(p:List Nat):=AW (Z1 ZpN) Tryz.f187 Zvc p
theorem ZGI(pl:List Op)(pa:Int)(ql:List Op)(qa:Int)(Q:QT)(h:(Zj (ZGr [1,1,0,0]) (Z2Q pl pa ql qa pl ql qa []) (xB 0 Q))):
  ZGr [] (L2 [(0,.ptr (.x 0) 0),(1,.ptr (.x 1) 0)] [(.x 0,[sU .op pl .unk,ci pa]),(.x 1,[sU .op ql .unk,ci qa])]) Q:=
 Eq.mpr V4 h
theorem ZsO(pl:List Op)(pa:Int)(ql:List Op)(qa:Int)(mx0_0 mx1_0:List Op)(mx1_1:Int)(x6:List Piece)(N0:NT)(Q:QT)(h:∀ y_1,y_1=(List.getD mx0_0 (Int.toNat 0) Op.nil)->∀ y_2,y_2=(List.getD mx1_0 (Int.toNat 0) Op.nil)->∀ y_3,y_3=(Edit.mk 0 (Tree.mk 0 [] []) (Tree.mk 0 [] []) [] [] 0 [])->∀ y_4,y_4=(List.getD (bif (!(decide (mx0_0.length=0))) then mx1_0 else mx1_0) (Int.toNat 0) Op.nil)->∀ y_5,y_5=y_1->∀ y_6,y_6=y_2->∀ y_7,y_7=y_4->∀ y_8,y_8=(ZD (mx0_0.getD 0 Op.nil) (Z3 y_5))->∀ y_9,y_9=(ZD (mx1_0.getD 0 Op.nil) (Z3 y_6))->∀ y_10,y_10=(ZD (mx0_0.getD 0 Op.nil) (if ((Z3 y_7):Int) < (Z3 y_5) then (Z3 y_7) else (Z3 y_5)))->∀ y_11,y_11=(ZD ((bif (!(decide (mx0_0.length=0))) then mx1_0 else mx1_0).getD 0 Op.nil) (if ((Z3 y_7):Int) < (Z3 y_5) then (Z3 y_7) else (Z3 y_5)))->let z5:=Z3Z ((mx0_0,pa,()),());let z4:=Piece.mk 2 (OpOf.mk 0 0 [] y_3) y_9;let z3:=Piece.mk 1 y_8 (OpOf.mk 0 0 [] y_3);let z0:=decide (mx0_0.length=0);let z2:=bif (!z0) then mx1_1 else mx1_1;let z1:=bif (!z0) then mx1_0 else mx1_0;(Z3Z ((mx0_0,pa,()),()))/\(iB (sgl pa mx0_0) (((0:Int)<=0/\0 < (mx0_0.length:Int))/\(Z6g (y_5,()))/\(Z8P ((mx0_0,pa,()),(Z3 y_5),()))/\((x6.length+([z3]).length)*488<=140737488355328)/\(N0 (Z2Q pl pa ql qa (ZV mx0_0 (Z3 y_5)) mx1_0 mx1_1 (x6++([z3]))))) ((Z3Z ((mx1_0,mx1_1,()),()))/\(iB (sgl mx1_1 mx1_0) (((0:Int)<=0/\0 < (mx1_0.length:Int))/\(Z6g (y_6,()))/\(Z8P ((mx1_0,mx1_1,()),(Z3 y_6),()))/\((x6.length+([z4]).length)*488<=140737488355328)/\(N0 (Z2Q pl pa ql qa mx0_0 (ZV mx1_0 (Z3 y_6)) mx1_1 (x6++([z4]))))) (z5/\(Tt (!z0))/\((!z0)=true->Z3Z ((mx1_0,mx1_1,()),()))/\(z0=false->(!z0)=true)/\(iB (bif z0 then true else (decide (mx1_0.length=0))) (z5/\(Z3Z ((z1,z2,()),()))/\(iB (z0 !=(decide (z1.length=0))) ((Q .ret (L2 [(4,.c (.nils)),pB 5 false] [(.x 0,[sU .op mx0_0 .unk,ci pa]),(.x 1,[sU .op z1 .unk,ci z2])]))) ((Q .ret (L2 [(4,.c (sU .piece x6 (.own (.e 4 0)))),pB 5 true] [(.x 0,[sU .op mx0_0 .unk,ci pa]),(.x 1,[sU .op z1 .unk,ci z2])]))))) (((0:Int)<=0/\0 < (mx0_0.length:Int))/\(Z6g (y_5,()))/\((0:Int)<=0/\0 < (z1.length:Int))/\(Z6g (y_7,()))/\((Z8P ((mx0_0,pa,()),(if ((Z3 y_7):Int) < (Z3 y_5) then (Z3 y_7) else (Z3 y_5)),()))/\(Z8P ((z1,z2,()),(if ((Z3 y_7):Int) < (Z3 y_5) then (Z3 y_7) else (Z3 y_5)),()))/\((x6.length+([(Piece.mk 0 y_10 y_11)]).length)*488<=140737488355328)/\(N0 (Z2Q pl pa ql qa (ZV mx0_0 (if ((Z3 y_7):Int) < (Z3 y_5) then (Z3 y_7) else (Z3 y_5))) (ZV z1 (if ((Z3 y_7):Int) < (Z3 y_5) then (Z3 y_7) else (Z3 y_5))) z2 (x6++([(Piece.mk 0 y_10 y_11)])))))))))))):
  ZGr [1,1,0,0] (Z2Q pl pa ql qa mx0_0 mx1_0 mx1_1 x6) (xT N0 (xB 0 Q)):=
 Eq.mpr V4 (h _ rfl _ rfl _ rfl _ rfl _ (YP _) _ (YP _) _ (YP _) _ (YP _) _ (YP _) _ (YP _) _ (YP _))
def ZAw(pl:List Op)(pa:Int)(ql:List Op)(qa:Int):Prop:=AW (Z1 ZpN) Tryz.f187 Zvc [] (Zg (ZjJ.can ((pl,pa,()),(ql,qa,()),())) (ZjJ.canX ((pl,pa,()),(ql,qa,()),()))) (EQ Tryz.f187 (ZiA ((pl,pa,()),(ql,qa,()),())) (ZdR ((pl,pa,()),(ql,qa,()),())))
theorem ZyW(ZEi:CT 194 Z9t)(ZEh:CT 195 Z9s)(Zsk:CT 196 Z3u)(Zsj:CT 197 Z3t)(hb:∀ (pl:List Op) (pa:Int) (ql:List Op) (qa:Int) (_:Unit),ZiN ((pl,pa,()),(ql,qa,()),())->ZAw pl pa ql qa):CT 187 Z6Y:=
 J3 (l:=[(194,Z9t),(195,Z9s),(196,Z3u),(197,Z3t)]) Zi rfl (⟨ZEi,ZEh,Zsk,Zsj,trivial⟩) Zvc Tryz.func187 rfl rfl 2 (fun _=> rfl) V2 (fun ⟨⟨pl,pa,_⟩,⟨ql,qa,_⟩,_⟩=> hb pl pa ql qa ())
def ZpQ:List (FuncId × Fs U):=[(187,Z6Y)]
def Zvf:Zd U:=lvl [([0,1],[]),([4,5],[])]
abbrev ZK8(p:List Nat):=AW (Z1 ZpQ) Tryz.f168 Zvf p
theorem ZGT(p q:List Op)(Q:QT)(h:((ZiN ((p,1,()),(q,2,()),()))/\(Q .ret (L2 [(4,.c (sU .piece ((Y3 1 2 p q []).1) .unk)),pB 5 ((Y3 1 2 p q []).2.1)] [])))):
  ZK8 [] (L2 [(0,.c (sU .op p .unk)),(1,.c (sU .op q .unk))] []) Q:=
 Eq.mpr V4 h
def ZAH(p q:List Op):Prop:=AW (Z1 ZpQ) Tryz.f168 Zvf [] (Zg (ZqD.can (p,q,())) []) (EQ Tryz.f168 (Zu1 (p,q,())) [])
theorem Zz5(ZwE:CT 187 Z6Y)(hb:∀ (p:List Op) (q:List Op) (_:Unit),ZmG (p,q,())->ZAH p q):CT 168 Z2m:=
 Z2 (l:=[(187,Z6Y)]) Zi rfl (⟨ZwE,trivial⟩) Zvf Tryz.func168 rfl rfl 2 (fun _=> rfl) V2 (fun ⟨p,q,_⟩=> hb p q ())
def Zpo:Zd U:=lvk [([0,1],[]),([0,1,5],[]),([0,1,(5,[.own .unit]),6],[]),([0,1,5,6,13],[]),([0,1,(5,[.own .unit]),6],[]),([0,1,5,6,7],[7]),([0,1,(5,[.own .unit]),6,7,8],[7]),([0,1,5,6,7,8,28],[7]),([0,1,(5,[.own .unit]),6,7,8],[7]),([0,1,5,6,7,8],[7]),([0,1,(5,[.own .unit]),6,7,9],[7]),([0,1,5,6,7,9,40],[7]),([0,1,(5,[.own .unit]),6,7,9],[7]),([0,1,5,6,7,9],[7]),([0,1,5,6,7,61],[7]),([0,1,5,6],[]),([4],[])]
def Z4I(l:List Op)(alone x6:Int)(x5:List AUnit):LSt U:=(L2 [(0,.c (sU .op l .unk)),pI 1 alone,(5,.c (sU .unit x5 (.own (.e 5 0)))),pI 6 x6] [])
def Z7B(l:List Op)(alone x6 x8_a:Int)(x5_a:List AUnit):LSt U:=(L2 [(0,.c (sU .op l .unk)),pI 1 alone,(5,.c (sU .unit x5_a (.own (.e 5 0)))),pI 6 x6,pL 7,pI 8 x8_a] [(.loc 7,(enc .op (l.getD x6.toNat Op.nil)))])
def Z7A(l:List Op)(alone x6 x9_b:Int)(x5_b:List AUnit):LSt U:=(L2 [(0,.c (sU .op l .unk)),pI 1 alone,(5,.c (sU .unit x5_b (.own (.e 5 0)))),pI 6 x6,pL 7,pI 9 x9_b] [(.loc 7,(enc .op (l.getD x6.toNat Op.nil)))])
abbrev Zo9(p:List Nat):=AW (Z1 Znz) Tryz.f175 Zpo p
abbrev Zbq(p:List Nat):=SW (Z1 Znz) Tryz.f175 Zpo p
theorem ZGM(l:List Op)(alone:Int)(Q:QT)(h:(Zj (Zo9 [1,1,0,1,0,0]) (Z4I l alone 0 []) (xB 0 (Zbq [1,1,1] Q)))):
  Zo9 [] (L2 [(0,.c (sU .op l .unk)),pI 1 alone] []) Q:=
 Eq.mpr V4 h
theorem ZsS(l:List Op)(alone x6:Int)(x5:List AUnit)(N0:NT)(Q:QT)(h:(iB (decide (x6 < (l.length:Int))) (((0:Int)<=x6/\x6 < (l.length:Int))/\(Zj (Zo9 [1,1,0,1,0,0,1,0,0,1,0,1,0,0]) (Z7B l alone x6 0 x5) (xB 2 (Zbq [1,1,0,1,0,0,1,0,0,1,1] (xB 1 (Zbq [1,1,0,1,0,0,1,1] (xT N0 (xB 0 (Zbq [1,1,1] Q))))))))) ((Q .ret (L2 [(4,.c (sU .unit x5 (.own (.e 4 0))))] []))))):
  Zo9 [1,1,0,1,0,0] (Z4I l alone x6 x5) (xT N0 (xB 0 (Zbq [1,1,1] Q))):=
 Eq.mpr V4 h
theorem ZsR(l:List Op)(alone x6 x8_a:Int)(x5_a:List AUnit)(N1 N0:NT)(Q:QT)(h:let z1:=AUnit.mk x6 0 (Tree.mk 0 [] []) (Edit.mk 0 (Tree.mk 0 [] []) (Tree.mk 0 [] []) [] [] 0 []) false;let z0:=decide (x8_a < (OpOf.n (l.getD x6.toNat Op.nil)));(Tt z0)/\(Tt z0)/\(Tt z0)/\(iB (bif z0 then (((OpOf.kind (l.getD x6.toNat Op.nil)):Int)==0) else false) (((x5_a.length+([z1]).length)*280<=140737488355328)/\((InR (x8_a+1))/\(N1 (Z7B l alone x6 (x8_a+1) (x5_a++([z1])))))) ((Zj (Zo9 [1,1,0,1,0,0,1,0,0,1,1,0,1,0,0]) (Z7A l alone x6 0 x5_a) (xB 4 (Zbq [1,1,0,1,0,0,1,0,0,1,1,1] (xB 1 (Zbq [1,1,0,1,0,0,1,1] (xT N0 (xB 0 (Zbq [1,1,1] Q))))))))))):
  Zo9 [1,1,0,1,0,0,1,0,0,1,0,1,0,0] (Z7B l alone x6 x8_a x5_a) (xT N1 (xB 2 (Zbq [1,1,0,1,0,0,1,0,0,1,1] (xB 1 (Zbq [1,1,0,1,0,0,1,1] (xT N0 (xB 0 (Zbq [1,1,1] Q)))))))):=
 Eq.mpr V4 h
theorem ZsQ(l:List Op)(alone x6 x9_b:Int)(x5_b:List AUnit)(N2 N0:NT)(Q:QT)(h:∀ y_1,y_1=(l.getD x6.toNat Op.nil)->∀ y_2,y_2=(y_1.e)->∀ y_3,y_3=(y_1.l.getD x9_b.toNat Tree.nil)->let z1:=AUnit.mk x6 3 (Tree.mk 0 [] []) y_2 false;let z0:=AUnit.mk x6 y_1.kind y_3 (Edit.mk 0 (Tree.mk 0 [] []) (Tree.mk 0 [] []) [] [] 0 []) (y_1.kind==alone);(iB (decide (x9_b < (y_1.l.length:Int))) (((0:Int)<=x9_b/\x9_b < (y_1.l.length:Int))/\((x5_b.length+([z0]).length)*280<=140737488355328)/\((InR (x9_b+1))/\(N2 (Z7A l alone x6 (x9_b+1) (x5_b++([z0])))))) ((iB (y_1.kind==3) (((x5_b.length+([z1]).length)*280<=140737488355328)/\((InR (x6+1))/\(N0 (Z4I l alone (x6+1) (x5_b++([z1])))))) ((InR (x6+1))/\(N0 (Z4I l alone (x6+1) x5_b))))))):
  Zo9 [1,1,0,1,0,0,1,0,0,1,1,0,1,0,0] (Z7A l alone x6 x9_b x5_b) (xT N2 (xB 4 (Zbq [1,1,0,1,0,0,1,0,0,1,1,1] (xB 1 (Zbq [1,1,0,1,0,0,1,1] (xT N0 (xB 0 (Zbq [1,1,1] Q)))))))):=
 Eq.mpr V4 (h _ rfl _ (Z7 _) _ (Za _))
def ZAA(l:List Op)(alone:Int):Prop:=AW (Z1 Znz) Tryz.f175 Zpo [] (Zg (Zqx.can (l,alone,())) []) (EQ Tryz.f175 (ZtZ (l,alone,())) [])
theorem ZyZ(hb:∀ (l:List Op) (alone:Int) (_:Unit),Zft (l,alone,())->ZAA l alone):CT 175 Z5a:=
 Z2 (l:=[]) Zi rfl trivial Zpo Tryz.func175 rfl rfl 2 (fun _=> rfl) V2 (fun ⟨l,alone,_⟩=> hb l alone ())
def Zpp:Zd U:=lvk [([0,1],[]),([0,1,6],[]),([0,1,(6,[.own .pair]),7,8],[]),([0,1,6,7,8,18],[]),([0,1,6,7,8,29],[]),([0,1,6,7,8],[]),([0,1,(6,[.own .pair]),7,8],[]),([0,1,6,7,8,50],[]),([0,1,6,7,8],[]),([0,1,(6,[.own .pair]),7,8],[]),([0,1,6,7,8,70],[]),([4,5],[]),([0,1,6,7,8],[]),([0,1,6,7,8],[]),([0,1,(6,[.own .pair]),7,8],[]),([4,5],[])]
def Z2R(p q:List AUnit)(x7 x8:Int)(x6:List APair):LSt U:=(L2 [(0,.c (sU .unit p .unk)),(1,.c (sU .unit q .unk)),(6,.c (sU .pair x6 (.own (.e 6 0)))),pI 7 x7,pI 8 x8] [])
abbrev ZGs(p:List Nat):=AW (Z1 Znz) Tryz.f174 Zpp p
abbrev ZI8(p:List Nat):=SW (Z1 Znz) Tryz.f174 Zpp p
theorem ZGN(p q:List AUnit)(Q:QT)(h:(Zj (ZGs [1,1,1,0,0,0]) (Z2R p q 0 0 []) (xB 0 (ZI8 [1,1,1,1] Q)))):
  ZGs [] (L2 [(0,.c (sU .unit p .unk)),(1,.c (sU .unit q .unk))] []) Q:=
 Eq.mpr V4 h
theorem ZsT(p q:List AUnit)(x7 x8:Int)(x6:List APair)(N0:NT)(Q:QT)(h:∀ y_1,y_1=(p.getD x7.toNat AUnit.nil)->∀ y_2,y_2=(q.getD x8.toNat AUnit.nil)->∀ y_3,y_3=(Edit.mk 0 (Tree.mk 0 [] []) (Tree.mk 0 [] []) [] [] 0 [])->∀ y_4,y_4=y_1->∀ y_5,y_5=y_2->let z3:=AUnit.mk 0 0 (Tree.mk 0 [] []) y_3 false;let z2:=decide (((p.length:Int):Int)<=x7);let z1:=decide (x8 < (q.length:Int));let z0:=decide (x7 < (p.length:Int));(Tt (!z0))/\(Tt (!z0))/\(Tt (!z0))/\(z0=false->(!z0)=true)/\(iB (bif z0 then true else z1) ((Tt z0)/\(Tt z0)/\(z0=true->(0:Int)<=x7/\x7 < (p.length:Int))/\(Tt z0)/\(Tt z0)/\(Tt z0)/\(iB (bif z0 then y_1.alone else false) (((0:Int)<=x7/\x7 < (p.length:Int))/\((x6.length+([(APair.mk 1 y_4 z3)]).length)*568<=140737488355328)/\((InR (x7+1))/\(N0 (Z2R p q (x7+1) x8 (x6++([(APair.mk 1 y_4 z3)])))))) ((Tt z1)/\(Tt z1)/\(z1=true->(0:Int)<=x8/\x8 < (q.length:Int))/\(Tt z1)/\(Tt z1)/\(Tt z1)/\(iB (bif z1 then y_2.alone else false) (((0:Int)<=x8/\x8 < (q.length:Int))/\((x6.length+([(APair.mk 2 z3 y_5)]).length)*568<=140737488355328)/\((InR (x8+1))/\(N0 (Z2R p q x7 (x8+1) (x6++([(APair.mk 2 z3 y_5)])))))) ((Tt (!z2))/\(Tt (!z2))/\(Tt (!z2))/\(z2=false->(!z2)=true)/\(iB (bif z2 then true else (decide (((q.length:Int):Int)<=x8))) ((Q .ret (L2 [(4,.c (.nils)),pB 5 false] []))) (((0:Int)<=x7/\x7 < (p.length:Int))/\((0:Int)<=x8/\x8 < (q.length:Int))/\((x6.length+([(APair.mk 0 y_4 y_5)]).length)*568<=140737488355328)/\((InR (x7+1))/\((InR (x8+1))/\(N0 (Z2R p q (x7+1) (x8+1) (x6++([(APair.mk 0 y_4 y_5)]))))))))))))) ((Q .ret (L2 [(4,.c (sU .pair x6 (.own (.e 4 0)))),pB 5 true] []))))):
  ZGs [1,1,1,0,0,0] (Z2R p q x7 x8 x6) (xT N0 (xB 0 (ZI8 [1,1,1,1] Q))):=
 Eq.mpr V4 (h _ rfl _ rfl _ rfl _ (Z0U _) _ (Z0U _))
def ZAB(p q:List AUnit):Prop:=AW (Z1 Znz) Tryz.f174 Zpp [] (Zg (Zqy.can (p,q,())) []) (EQ Tryz.f174 (ZiC (p,q,())) [])
theorem Zz0(hb:∀ (p:List AUnit) (q:List AUnit) (_:Unit),ZiO (p,q,())->ZAB p q):CT 174 Z5b:=
 Z2 (l:=[]) Zi rfl trivial Zpp Tryz.func174 rfl rfl 2 (fun _=> rfl) V2 (fun ⟨p,q,_⟩=> hb p q ())
def Zve:Zd U:=lvl [([1,2],[1,2]),([1,2,4],[1,2]),([1,2,4,5],[1,2]),([2],[2]),([1,2,8],[1,2]),([2],[2]),([2],[2])]
abbrev ZK7(p:List Nat):=AW (Z1 Znz) Tryz.f176 Zve p
theorem ZGL(u:AUnit)(Q:QT)(h:(iB (u.kind==0) ((Q .ret (L2 [pL 2] [(.loc 2,[ci 0,ci 1,.nils,ci 0,ci 0,.nils,.nils,ci 0,.nils,.nils,.nils,.nils,ci 0,.nils])]))) ((iB (u.kind==3) ((Q .ret (L2 [pL 2] [(.loc 2,([ci 3,ci 0,.nils]++enc .edit u.e))]))) ((Q .ret (L2 [pL 2] [(.loc 2,[ci u.kind,ci 0,sU .tree ([(Tree.mk u.t.kind u.t.words u.t.kids)]) .full,ci 0,ci 0,.nils,.nils,ci 0,.nils,.nils,.nils,.nils,ci 0,.nils])]))))))):
  ZK7 [] (L2 [(0,.agg (enc .unit u))] []) Q:=
 Eq.mpr V4 h
def ZAz(u:AUnit):Prop:=AW (Z1 Znz) Tryz.f176 Zve [] (Zg (Zqw.can (u,())) []) (EQ Tryz.f176 (Zfa (u,())) [])
theorem ZyY(hb:∀ (u:AUnit) (_:Unit),ZbN (u,())->ZAz u):CT 176 Z59:=
 Z2 (l:=[]) Zi rfl trivial Zve Tryz.func176 rfl rfl 1 (fun _=> rfl) V2 (fun ⟨u,_⟩=> hb u ())
def Zns:List (FuncId × Fs U):=[(11,Z14)]
def ZzJ:Zd U:=lvl [([0,1],[]),([0,1,10],[]),([4],[]),([0,1,5],[]),([0,1,5,14],[]),([0,1,5],[]),([0,1,5,26],[]),([4],[]),([4],[])]
def ZaX(a b:List Tree)(x5:Int):LSt U:=(L2 [(0,.c (sU .tree a .unk)),(1,.c (sU .tree b .unk)),pI 5 x5] [])
abbrev A40(p:List Nat):=AW (Z1 Zns) Tryz.f40 ZzJ p
abbrev S40(p:List Nat):=SW (Z1 Zns) Tryz.f40 ZzJ p
theorem ZJb(a b:List Tree)(Q:QT)(h:(iB (((a.length:Int):Int) !=(b.length:Int)) ((Q .ret (L2 [pB 4 false] []))) ((Zj (A40 [1,1,0,1,0,0]) (ZaX a b 0) (xB 0 (S40 [1,1,1] Q)))))):
  A40 [] (L2 [(0,.c (sU .tree a .unk)),(1,.c (sU .tree b .unk))] []) Q:=
 Eq.mpr V4 h
theorem Zyh(a b:List Tree)(x5:Int)(N0:NT)(Q:QT)(h:let z3:=a.getD x5.toNat Tree.nil;let z2:=b.getD x5.toNat Tree.nil;let z1:=Tree.mk (Tree.kind z2) (Tree.words z2) (Tree.kids z2);let z0:=Tree.mk (Tree.kind z3) (Tree.words z3) (Tree.kids z3);(iB (decide (x5 < (a.length:Int))) (((0:Int)<=x5/\x5 < (a.length:Int))/\((0:Int)<=x5/\x5 < (b.length:Int))/\(Z2i (z0,z1,()))/\(iB (!(YM z0 z1)) ((Q .ret (L2 [pB 4 false] []))) ((InR (x5+1))/\(N0 (ZaX a b (x5+1)))))) ((Q .ret (L2 [pB 4 true] []))))):
  A40 [1,1,0,1,0,0] (ZaX a b x5) (xT N0 (xB 0 (S40 [1,1,1] Q))):=
 Eq.mpr V4 h
def ZG3(a b:List Tree):Prop:=AW (Z1 Zns) Tryz.f40 ZzJ [] (Zg (Zx6.can (a,b,())) []) (EQ Tryz.f40 (ZBB (a,b,())) [])
theorem ZDl(c11:CT 11 Z14)(hb:∀ (a:List Tree) (b:List Tree) (_:Unit),ZkP (a,b,())->ZG3 a b):CT 40 ZeG:=
 Z2 (l:=[(11,Z14)]) Zi rfl (⟨c11,trivial⟩) ZzJ Tryz.func40 rfl rfl 2 (fun _=> rfl) V2 (fun ⟨a,b,_⟩=> hb a b ())
def ZnB(N:Nat):List (FuncId × Fs U):=(15,fs Zo3 (fun a=> [Z8l a,Zla a < N]) Zu7) ::[(11,Z14),(40,ZeG)]
def ZzS:Zd U:=lvl [([2,3],[2,3]),([2,3,64],[2,3]),([4],[]),([2,3,5],[2,3]),([2,3,5,69],[2,3]),([2,3,5],[2,3]),([2,3,5,82],[2,3]),([4],[]),([2,3,6],[2,3]),([2,3,6,87],[2,3]),([2,3,6],[2,3]),([2,3,6,118],[2,3]),([4],[]),([2,3,7],[2,3]),([2,3,7,123],[2,3]),([2,3,7],[2,3]),([2,3,7,8,9],[2,3,8,9]),([2,3,7,163],[2,3]),([4],[]),([4],[])]
def Zbc(a b:Edit)(x5:Int):LSt U:=(L2 [pL 2,pL 3,pI 5 x5] [(.loc 2,(enc .edit a)),(.loc 3,(enc .edit b))])
def Zbb(a b:Edit)(x6_a:Int):LSt U:=(L2 [pL 2,pL 3,pI 6 x6_a] [(.loc 2,(enc .edit a)),(.loc 3,(enc .edit b))])
def Zba(a b:Edit)(x7_b:Int):LSt U:=(L2 [pL 2,pL 3,pI 7 x7_b] [(.loc 2,(enc .edit a)),(.loc 3,(enc .edit b))])
abbrev A15(N:Nat)(p:List Nat):=AW (Z1 (ZnB N)) Tryz.f15 ZzS p
abbrev S15(N:Nat)(p:List Nat):=SW (Z1 (ZnB N)) Tryz.f15 ZzS p
theorem ZJt(N:Nat)(a b:Edit)(Q:QT)(h:∀ y_1,y_1=(a.new)->∀ y_2,y_2=(b.new)->∀ y_3,y_3=(a.old)->∀ y_4,y_4=(b.old)->let z5:=a.kind !=b.kind;let z3:=bif z5 then true else (a.list !=b.list);let z1:=bif z3 then true else (!(YM y_3 y_4));let z4:=bif z1 then true else (!(YM y_1 y_2));let z0:=bif z4 then true else (((a.words.length:Int):Int) !=(b.words.length:Int));let z2:=bif z0 then true else (((a.kids.length:Int):Int) !=(b.kids.length:Int));((Tt (!z5))/\(Tt (!z5))/\(Tt (!z5))/\(Tt (!z5))/\(z5=false->(!z5)=true)/\(Tt (!z3))/\(Tt (!z3))/\(Tt (!z3))/\(Tt (!z3))/\((!z3)=true->Z2i (y_3,y_4,()))/\(Tt (!z3))/\(z3=false->(!z3)=true)/\(Tt (!z1))/\(Tt (!z1))/\(Tt (!z1))/\(Tt (!z1))/\((!z1)=true->Z2i (y_1,y_2,()))/\(Tt (!z1))/\(z1=false->(!z1)=true)/\(Tt (!z4))/\(Tt (!z4))/\(Tt (!z4))/\(Tt (!z4))/\(Tt (!z4))/\(Tt (!z4))/\(z4=false->(!z4)=true)/\(Tt (!z0))/\(Tt (!z0))/\(Tt (!z0))/\(Tt (!z0))/\(Tt (!z0))/\(Tt (!z0))/\(z0=false->(!z0)=true)/\(Tt (!z2))/\(Tt (!z2))/\(Tt (!z2))/\(Tt (!z2))/\(Tt (!z2))/\(Tt (!z2))/\(z2=false->(!z2)=true)/\(iB (bif z2 then true else (((a.ops.length:Int):Int) !=(b.ops.length:Int))) ((Q .ret (L2 [pB 4 false] []))) ((Zj (A15 N [1,1,0,1,0,0]) (Zbc a b 0) (xB 0 (S15 N [1,1,1] Q))))))):
  A15 N [] (L2 [(0,.agg (enc .edit a)),(1,.agg (enc .edit b))] []) Q:=
 Eq.mpr V4 (h _ (Za _) _ (Za _) _ (Za _) _ (Za _))
theorem Zyx(N:Nat)(a b:Edit)(x5:Int)(N0:NT)(Q:QT)(h:let z1:=b.words.getD x5.toNat (WEdit.mk 0 0 0 0);let z0:=a.words.getD x5.toNat (WEdit.mk 0 0 0 0);(iB (decide (x5 < (a.words.length:Int))) (((0:Int)<=x5/\x5 < (a.words.length:Int))/\((0:Int)<=x5/\x5 < (b.words.length:Int))/\(iB (!((((WEdit.at_ z0):Int)==(WEdit.at_ z1)) && ((((WEdit.mask z0):Int)==(WEdit.mask z1)) && ((((WEdit.old z0):Int)==(WEdit.old z1)) && ((((WEdit.new z0):Int)==(WEdit.new z1)) && true))))) ((Q .ret (L2 [pB 4 false] []))) ((InR (x5+1))/\(N0 (Zbc a b (x5+1)))))) ((Zj (A15 N [1,1,1,0,1,0,0]) (Zbb a b 0) (xB 2 (S15 N [1,1,1,1] Q)))))):
  A15 N [1,1,0,1,0,0] (Zbc a b x5) (xT N0 (xB 0 (S15 N [1,1,1] Q))):=
 Eq.mpr V4 h
theorem Zyw(N:Nat)(a b:Edit)(x6_a:Int)(N1:NT)(Q:QT)(h:∀ y_1,y_1=(a.kids.getD x6_a.toNat (KidOf.mk 0 Edit.nil))->∀ y_2,y_2=(b.kids.getD x6_a.toNat (KidOf.mk 0 Edit.nil))->∀ y_3,y_3=(y_1.e)->∀ y_4,y_4=(y_2.e)->let z1:=y_1.at_ !=y_2.at_;let z0:= !z1;(iB (decide (x6_a < (a.kids.length:Int))) (((0:Int)<=x6_a/\x6_a < (a.kids.length:Int))/\((0:Int)<=x6_a/\x6_a < (b.kids.length:Int))/\(Tt z0)/\(Tt z0)/\(Tt z0)/\(z0=true->(0:Int)<=x6_a/\x6_a < (a.kids.length:Int))/\(Tt z0)/\(Tt z0)/\(Tt z0)/\(Tt z0)/\(Tt z0)/\(z0=true->(0:Int)<=x6_a/\x6_a < (b.kids.length:Int))/\(Tt z0)/\(Tt z0)/\(Tt z0)/\(Tt z0)/\(z0=true->Z8l (y_3,y_4,()))/\(z0=true->Zla (y_3,y_4,()) < N)/\(Tt z0)/\(z1=false->z0=true)/\(iB (bif z1 then true else (!(eqX y_3 y_4))) ((Q .ret (L2 [pB 4 false] []))) ((InR (x6_a+1))/\(N1 (Zbb a b (x6_a+1)))))) ((Zj (A15 N [1,1,1,1,0,1,0,0]) (Zba a b 0) (xB 4 (S15 N [1,1,1,1,1] Q)))))):
  A15 N [1,1,1,0,1,0,0] (Zbb a b x6_a) (xT N1 (xB 2 (S15 N [1,1,1,1] Q))):=
 Eq.mpr V4 (h _ rfl _ rfl _ (Z7 _) _ (Z7 _))
theorem Zyv(N:Nat)(a b:Edit)(x7_b:Int)(N2:NT)(Q:QT)(h:∀ y_1,y_1=(a.ops.getD x7_b.toNat Op.nil)->∀ y_2,y_2=(b.ops.getD x7_b.toNat Op.nil)->∀ y_3,y_3=(y_1.e)->∀ y_4,y_4=(y_2.e)->let z2:=y_1.kind !=y_2.kind;let z0:=bif z2 then true else (y_1.n !=y_2.n);let z1:=bif z0 then true else (!(eqX y_1.l y_2.l));(iB (decide (x7_b < (a.ops.length:Int))) (((0:Int)<=x7_b/\x7_b < (a.ops.length:Int))/\((0:Int)<=x7_b/\x7_b < (b.ops.length:Int))/\((Tt (!z2))/\(Tt (!z2))/\(Tt (!z2))/\(Tt (!z2))/\(z2=false->(!z2)=true)/\(Tt (!z0))/\(Tt (!z0))/\(Tt (!z0))/\(Tt (!z0))/\((!z0)=true->ZkP (y_1.l,y_2.l,()))/\(Tt (!z0))/\(z0=false->(!z0)=true)/\(Tt (!z1))/\(Tt (!z1))/\(Tt (!z1))/\(Tt (!z1))/\((!z1)=true->Z8l (y_3,y_4,()))/\((!z1)=true->Zla (y_3,y_4,()) < N)/\(Tt (!z1))/\(z1=false->(!z1)=true)/\(iB (bif z1 then true else (!(eqX y_3 y_4))) ((Q .ret (L2 [pB 4 false] []))) ((InR (x7_b+1))/\(N2 (Zba a b (x7_b+1))))))) ((Q .ret (L2 [pB 4 true] []))))):
  A15 N [1,1,1,1,0,1,0,0] (Zba a b x7_b) (xT N2 (xB 4 (S15 N [1,1,1,1,1] Q))):=
 Eq.mpr V4 (h _ rfl _ rfl _ (Z7 _) _ (Z7 _))
def ZGl(N:Nat)(a b:Edit):Prop:=AW (Z1 (ZnB N)) Tryz.f15 ZzS [] (Zg (Zo3.can (a,b,())) []) (EQ Tryz.f15 (Zu7 (a,b,())) [])
theorem ZDB(c11:CT 11 Z14)(c40:CT 40 ZeG)(hb:∀ (N:Nat) (a:Edit) (b:Edit) (_:Unit),Z8l (a,b,())->Zla (a,b,()) < N+1->ZGl N a b):CT 15 ZeO:=
 Yi (μ:=Zla) (l:=[(11,Z14),(40,ZeG)]) Zi rfl (⟨c11,c40,trivial⟩) ZzS Tryz.func15 rfl rfl 2 (fun _=> rfl) V2 (fun N ⟨a,b,_⟩=> hb N a b ())
end
theorem ZmO{o:Op}(h:Zt o<=20000000000):o.l.length<=20000000000:=by
 have:=Zv o.l
 rw [ZG] at h
 omega
theorem Z91{o:Op}(h:ZQ o):0<=o.n/\o.n<=1048576:=by
 unfold ZQ at h
 omega
theorem Yr(o:Op):Z3 o=if o.kind=3 then 1 else o.n+o.l.length:=rfl
theorem Zsk:Contract Tryz.prog cfg 196 Z3u:=by
 refine ZyS ?_
 intro o _ hp
 simp only [Z6g] at hp
 have hl:=ZmO hp.1
 refine ZGE _ _ ?_;(try simp only [iB,vcT,forall_eq])
 (simp only [iB,vcS]);(try simp only [iB,vcT])
 exact ⟨fun hk=> Ys rfl (by rw [Yr,if_pos hk]),fun hk=> ⟨V3,Ys rfl (by rw [Yr,if_neg hk])⟩⟩
theorem Zsj:Contract Tryz.prog cfg 197 Z3t:=by
 refine ZyR ?_
 intro l al _ hp
 refine ZGD _ _ _ ?_;(try simp only [iB,vcT,forall_eq])
 have e:((l.length:Int)==0)=decide (l.length=0):=by rw [Qr];(simp only [iB,vcS]);omega
 rw [e]
 exact JR
theorem ZEi:Contract Tryz.prog cfg 194 Z9t:=by
 refine ZyU Zsj ?_
 intro l al _ hp
 refine ZGG _ _ _ ?_;(try simp only [iB,vcT,forall_eq])
 have e:(bif (!(decide (l.length=0))) then ((OpOf.kind (List.getD l (Int.toNat 0) Op.nil))==al) else false)=sgl al l:=by
  rw [Qr]
  simp only [sgl]
  (simp only [iB,vcS])
  try rfl
 rw [e]
 refine ⟨hp,fun h=> ⟨YL,?_⟩,JR⟩
 grind
theorem ZEs(ZwE:Contract Tryz.prog cfg 187 Z6Y):Contract Tryz.prog cfg 168 Z2m:=by
 refine Zz5 ZwE ?_
 intro p q _ hp
 refine ZGT _ _ _ ?_;(try simp only [iB,vcT,forall_eq])
 refine ⟨hp,?_⟩
 exact JR
theorem ZEh:Contract Tryz.prog cfg 195 Z9s:=by
 refine ZyT Zsk ?_
 intro l al n _ hp
 simp only [Z8P] at hp
 obtain ⟨⟨ho,hm⟩,hl,h1,h2⟩:=hp
 have hmem:=Zf (l:=l) (i:=0) YL Op.nil
 have hok:=ho _ hmem
 have hmo:=ZI hmem
 have hlen:=ZF l
 refine ZGF _ _ _ _ ?_;(try simp only [iB,vcT])
 rintro y rfl _ rfl _ rfl
 have e0:(Int.toNat 0)=0:=rfl
 have e1:(Int.toNat 1)=1:=rfl
 simp only [e0,e1]
 have hT:∀ o r,ZD (l.getD 0 Op.nil) n=o->ZV l n=r->True:=fun _ _ _ _=> trivial
 have hon:=Z91 hok
 have hln:=Yr (l.getD 0 Op.nil)
 (simp only [iB,vcS])
 generalize hy:l.getD 0 Op.nil=y at*
 refine ⟨⟨YL,YL⟩,⟨by grind,hon⟩,fun hc=> ⟨⟨YL,YL⟩,?_⟩,fun hc=> ⟨fun hk=> ⟨V3,⟨YL,YL⟩,by simp;omega,?_⟩,fun hk=> ?_⟩⟩
 .have t1:ZD y n=y:=by rw [ZD,if_pos hc]
  have t2:ZV l n=l.drop 1:=by rw [ZV,hy,if_pos hc]
  simp only [Zf9,Z9R,hy,t1,t2]
  exact JR
 .have t1:ZD y n=⟨y.kind,n,y.l,y.e⟩:=by rw [ZD,if_neg hc,if_pos hk]
  have t2:ZV l n=⟨y.kind,y.n - n,y.l,y.e⟩ ::l.drop 1:=by rw [ZV,hy,if_neg hc,JX,if_pos hk]
  simp only [Zf9,Z9R,hy,t1,t2]
  exact JR
 .have t1:ZD y n=⟨y.kind,y.n,y.l.take n.toNat,y.e⟩:=by rw [ZD,if_neg hc,if_neg hk]
  have t2:ZV l n=⟨y.kind,y.n,y.l.drop n.toNat,y.e⟩ ::l.drop 1:=by rw [ZV,hy,if_neg hc,JX,if_neg hk]
  simp only [Zf9,Z9R,hy,t1,t2]
  unfold ZQ at hok
  refine ⟨?_,?_,⟨YL,YL⟩,by simp;omega,?_⟩
  .omega
  .omega
  ·exact JR
theorem Z3c(n:Nat):∀ (l:List Tree),Zk (l.drop n)<=Zk l:=by
 induction n with
 | zero=> intro l;simp
 | succ n ih=>
  intro l
  cases l with
  | nil=> simp
  | cons t r=> simp only [QK,Zk];grind
theorem Zg1(n:Nat):∀ (l:List Tree),Zk (l.take n)<=Zk l:=by
 induction n with
 | zero=> intro l;simp [Zk]
 | succ n ih=>
  intro l
  cases l with
  | nil=> simp
  | cons t r=> simp only [List.take_succ_cons,Zk];grind
theorem ZY{o:Op}(h:ZQ o):1<=Z3 o:=by
 have:=Yr o
 unfold ZQ at h
 have hl:o.l≠[]->0 < o.l.length:=List.length_pos_iff.2
 grind
theorem Z6o{o:Op}(h:ZQ o)(hm:Zt o<=20000000000):Z3 o<=20000000000:=by
 have:=Yr o
 have:=ZmO hm
 have:=Z91 h
 unfold ZQ at h
 grind
theorem Z3K(o:Op)(r:List Op):Zn (o ::r)=Zt o+Zn r:=rfl
theorem Z7k{l:List Op}(h:Za9 l):Za9 (l.drop 1):=by
 cases l with
 | nil=> exact h
 | cons o r=>
  obtain ⟨h1,h2⟩:=h
  rw [Z3K] at h2
  exact ⟨fun x hx=> h1 x (Q0 _ hx),by grind⟩
theorem ZbU{l:List Op}(h:Za9 l)(hl:l.length≠0):ZQ (l.getD 0 Op.nil)/\Zt (l.getD 0 Op.nil)<=20000000000/\Zt (l.getD 0 Op.nil)<=Zn l:=by
 have hm:=Zf (l:=l) (i:=0) YL Op.nil
 have:=ZI hm
 exact ⟨h.1 _ hm,by have:=h.2;omega,this⟩
theorem Zbn{o:Op}{n:Int}(h:ZQ o)(h1:1<=n)(h2:¬Z3 o<=n):ZQ (JX o n)/\Zt (JX o n)<=Zt o:=by
 have hl:=Yr o
 unfold JX
 unfold ZQ at*
 by_cases hk:o.kind=0
 .rw [if_pos hk]
  refine ⟨Or.inl ?_,by simp only [ZG];omega⟩
  grind
 .rw [if_neg hk]
  have:=Z3c n.toNat o.l
  refine ⟨Or.inr ?_,by simp only [ZG];omega⟩
  rcases h with h | h | h
  .omega
  .obtain ⟨a,b,c,d⟩:=h
   rw [V0] at hl
   refine Or.inl ⟨a,b,?_,d⟩
   intro he
   have:=congrArg List.length he
   grind
  omega
theorem ZfI{l:List Op}{n:Int}(h:Za9 l)(hl:l.length≠0)(h1:1<=n):Za9 (ZV l n):=by
 unfold ZV
 split
 .exact Z7k h
 .rename_i hc
  obtain ⟨a,b,c⟩:=ZbU h hl
  obtain ⟨d,e⟩:=Zbn a h1 hc
  have hd:=Z7k h
  refine ⟨fun x hx=> ?_,?_⟩
  .rcases Q9.1 hx with rfl | hx
   .exact d
   .exact hd.1 _ hx
  .rw [Z3K]
   obtain _ | ⟨o,r⟩:=l
   .simp at hl
   .have:=h.2
    rw [Z3K] at this
    grind
theorem Z6V(l:List Op):ZV l (Z3 (l.getD 0 Op.nil))=l.drop 1:=by rw [ZV,if_pos (Xe _)]
theorem Z6W(o:Op):ZD o (Z3 o)=o:=by rw [ZD,if_pos (Xe _)]
theorem ZoE{a:Int}{l:List Op}(h:sgl a l=true):l.length≠0:=(of_decide_eq_true h).1
theorem ZgV{α:Type}(b:Bool)(x:α):(bif b then x else x)=x:=by grind
theorem ZwE:Contract Tryz.prog cfg 187 Z6Y:=by
 refine ZyW ZEi ZEh Zsk Zsj ?_
 intro pl pa ql qa _ hp
 simp only [ZiN] at hp
 have hpl:=ZF pl
 have hql:=ZF ql
 have hP:=hp.1.2
 have hQ:=hp.2.2
 refine ZGI _ _ _ _ _ ?_;(try simp only [iB,vcT,forall_eq])
 refine Z4 (ι:=List Op × List Op × List Piece) (fun s=> Z2Q pl pa ql qa s.1 s.2.1 qa s.2.2) (fun s=> Za9 s.1/\Za9 s.2.1/\s.2.2.length+s.1.length+s.2.1.length<=40000000000/\Y3 pa qa s.1 s.2.1 s.2.2=Y3 pa qa pl ql []) (fun s=> s.1.length+s.2.1.length) (pl,ql,[]) rfl ⟨hp.1,hp.2,by simp;omega,rfl⟩ ?_
 rintro ⟨p,q,out⟩ ⟨h1,h2,h3,h4⟩
 refine ZsO _ _ _ _ _ _ _ _ _ _ ?_;(try simp only [iB,vcT])
 have e0:(Int.toNat 0)=0:=rfl
 simp only [e0,ZgV]
 dsimp only at h1 h2 h3 h4
 rintro z1 hy1 z2 hy2 y3 hy3 z4 hy4 y1 rfl y2 rfl y4 rfl y8 hy8 y9 hy9 y10 hy10 y11 hy11
 have ey:y4=y2:=hy4.trans hy2.symm
 rw [ey] at hy10 hy11 ⊢
 have e3:(OpOf.mk 0 0 [] y3:Op)=Op.nil:=by rw [hy3];try rfl
 rw [<-hy1,Z6W] at hy8
 rw [<-hy2,Z6W] at hy9
 have hmin:∀ a b:Int,(if a < b then a else b)=min b a:=by intro a b;omega
 rw [<-hy1,hmin] at hy10
 rw [<-hy2,hmin] at hy11
 simp only [hmin,e3,hy8,hy9]
 (simp only [iB,vcS])
 have o1:p.length≠0->ZQ y1/\Zt y1<=20000000000:=fun h=> by have:=ZbU h1 h;grind
 have o2:q.length≠0->ZQ y2/\Zt y2<=20000000000:=fun h=> by have:=ZbU h2 h;grind
 have tp:ZV p (Z3 y1)=p.drop 1:=by rw [hy1];exact Z6V p
 have tq:ZV q (Z3 y2)=q.drop 1:=by rw [hy2];exact Z6V q
 have hm1:=ZF p
 have hm2:=ZF q
 have hm3:=h1.2
 have hm4:=h2.2
 rw [Y3] at h4
 rw [<-hy1,<-hy2] at h4
 refine ⟨by simp only [Z3Z];omega,fun hs=> ?_,fun hs=> ?_⟩
 .have hl:=ZoE hs
  obtain ⟨oa,ob⟩:=o1 hl
  have oc:=ZY oa
  have od:=Z6o oa ob
  rw [dif_pos hs] at h4
  refine ⟨⟨YL,YL⟩,⟨ob,Z91 oa⟩,⟨h1,hl,oc,by grind⟩,by simp;omega,(p.drop 1,q,out++[⟨1,y1,Op.nil⟩]),by rw [tp],⟨Z7k h1,h2,by simp;omega,h4⟩,by simp;omega⟩
 .rw [dif_neg (by grind)] at h4
  refine ⟨by simp only [Z3Z];omega,fun hs2=> ?_,fun hs2=> ?_⟩
  .have hl:=ZoE hs2
   obtain ⟨oa,ob⟩:=o2 hl
   have oc:=ZY oa
   have od:=Z6o oa ob
   rw [dif_pos hs2] at h4
   refine ⟨⟨YL,YL⟩,⟨ob,Z91 oa⟩,⟨h2,hl,oc,by grind⟩,by simp;omega,(p,q.drop 1,out++[⟨2,Op.nil,y2⟩]),by rw [tq],⟨h1,Z7k h2,by simp;omega,h4⟩,by simp;omega⟩
  .rw [dif_neg (by grind)] at h4
   refine ⟨by simp only [Z3Z];omega,fun _=> by simp only [Z3Z];omega,fun h=> h,fun hd=> ⟨by simp only [Z3Z];omega,by simp only [Z3Z];omega,fun he=> ?_,fun he=> ?_⟩,fun hd=> ?_⟩
   .rw [dif_pos hd,if_neg he] at h4
    simp only [ZiA,ZdR,<-h4]
    exact JR
   .rw [dif_pos hd,if_pos he] at h4
    simp only [ZiA,ZdR,<-h4]
    exact JR
   .obtain ⟨oa,ob⟩:=o1 hd.1
    obtain ⟨oc,od⟩:=o2 hd.2
    have a1:=ZY oa
    have a2:=Z6o oa ob
    have a3:=ZY oc
    have a4:=Z6o oc od
    rw [dif_neg YL,<-hy10,<-hy11] at h4
    have c1:=YD p (min (Z3 y1) (Z3 y2)) hd.1
    have c2:=YD q (min (Z3 y1) (Z3 y2)) hd.2
    have c3:Z3 y1<=min (Z3 y1) (Z3 y2)->(ZV p (min (Z3 y1) (Z3 y2))).length < p.length:=fun h=> YC p _ hd.1 (by grind)
    have c4:Z3 y2<=min (Z3 y1) (Z3 y2)->(ZV q (min (Z3 y1) (Z3 y2))).length < q.length:=fun h=> YC q _ hd.2 (by grind)
    refine ⟨⟨YL,YL⟩,⟨ob,Z91 oa⟩,⟨YL,YL⟩,⟨od,Z91 oc⟩,⟨h1,hd.1,by grind,by grind⟩,⟨h2,hd.2,by grind,by grind⟩,by simp;omega,
     (ZV p (min (Z3 y1) (Z3 y2)),ZV q (min (Z3 y1) (Z3 y2)),out++[⟨0,y10,y11⟩]),rfl,⟨ZfI h1 hd.1 YL,ZfI h2 hd.2 YL,by simp;omega,h4⟩,by grind⟩
theorem Z5X{o:Op}(h:ZQ o)(i a:Int):((Yn i a o).length:Int)=Z3 o:=by
 have hl:=Yr o
 unfold ZQ at h
 simp only [Yn,Qd,QC]
 grind
theorem Z4Z(a:Int):∀ (l:List Op) (i:Int),(∀ o∈l,ZQ o)->((ZE i a l).length:Int)=Z47 l
 | [],_,_=> rfl
 | o ::r,i,h=> by
  have h1:=Z5X (h o (Q3 ..)) i a
  have h2:=Z4Z a r (i+1) (fun x hx=> h x (Q0 _ hx))
  simp only [ZE,Qd,Z47]
  omega
theorem ZEm:Contract Tryz.prog cfg 175 Z5a:=by
 refine ZyZ ?_
 intro l al _ hp
 simp only [Zft] at hp
 obtain ⟨⟨hok,hma⟩,hk⟩:=hp
 have hln:=ZF l
 have htot:=Z4Z al l 0 hok
 refine ZGM _ _ _ ?_;(try simp only [iB,vcT,forall_eq])
 refine Z4 (ι:=Int × List AUnit) (fun s=> Z4I l al s.1 s.2) (fun s=> 0<=s.1/\s.1<=l.length/\s.2++ZE s.1 al (l.drop s.1.toNat)=ZE 0 al l) (fun s=> ((l.length:Int) - s.1).toNat) (0,[]) rfl ⟨by simp,by simp,by simp⟩ ?_
 rintro ⟨i,out⟩ ⟨h1,h2,h3⟩
 dsimp only at h1 h2 h3
 refine ZsS _ _ _ _ _ _ ?_;(try simp only [iB,vcT,forall_eq])
 (simp only [iB,vcS]);(try simp only [iB,vcT])
 refine ⟨fun hi=> ⟨⟨h1,hi⟩,?_⟩,fun hi=> ?_⟩
 .have hmem:=Zf (l:=l) (i:=i.toNat) YL Op.nil
  have ho:=hok _ hmem
  have hmo:=ZI hmem
  rw [ZH h1 hi Op.nil] at h3
  simp only [ZE] at h3
  have hlen:=congrArg List.length h3
  have hul:=Z5X ho i al
  generalize hy:l.getD i.toNat Op.nil=o at*
  have hon:=Z91 ho
  have hol:=ZmO (o:=o) YL
  have hole:=Z6o ho YL
  simp only [Qd] at hlen
  let u:AUnit:=⟨i,0,Tree.nil,Edit.nil,false⟩
  let A:List AUnit:=if o.kind=0 then List.replicate o.n.toNat u else []
  have hA:A.length<=40000000000:=by simp only [A];split <;> simp;omega
  refine Z4 (ι:=Int) (fun k=> Z7B l al i k (out++List.replicate k.toNat u)) (fun k=> 0<=k/\k<=(if o.kind=0 then o.n else 0)) (fun k=> (o.n - k).toNat) 0 (by simp) ⟨YL,YL⟩ ?_
  rintro k ⟨k1,k2⟩
  refine ZsR _ _ _ _ _ _ _ _ ?_;(try simp only [iB,vcT,forall_eq])
  simp only [hy]
  (simp only [iB,vcS]);(try simp only [iB,vcT])
  refine ⟨fun hc=> ?_,fun hc=> ?_⟩
  .rw [if_pos hc.2] at k2
   refine ⟨by simp;omega,V3,k+1,?_,⟨YL,YL⟩,YL⟩
   rw [show (k+1).toNat=k.toNat+1 by omega,List.replicate_succ',<-Qb]
   try rfl
  .have hkA:List.replicate k.toNat u=A:=by
    simp only [A]
    by_cases hk0:o.kind=0
    .grind
    .simp_all
   rw [hkA]
   refine Z4 (ι:=Int) (fun j=> Z7A l al i j (out++(A++(o.l.take j.toNat).map (fun t=> (⟨i,o.kind,t,Edit.nil,decide (o.kind=al)⟩:AUnit))))) (fun j=> 0<=j/\j<=o.l.length) (fun j=> ((o.l.length:Int) - j).toNat) 0 (by simp) ⟨YL,YL⟩ ?_
   rintro j ⟨j1,j2⟩
   refine ZsQ _ _ _ _ _ _ _ _ ?_;(try simp only [iB,vcT])
   rw [hy]
   rintro y1 hy1 y3 hy3 y5 hy5
   obtain rfl:=hy1.symm
   have hjl:(o.l.take j.toNat).length<=20000000000:=by simp;omega
   (simp only [iB,vcS])
   refine ⟨fun hc=> ⟨⟨j1,hc⟩,by simp;omega,V3,j+1,?_,⟨YL,YL⟩,YL⟩,fun hc=> ?_⟩
   .rw [show (j+1).toNat=j.toNat+1 by omega,XN YL,Xy,<-Qb,<-Qb,<-Qb]
    congr 2
    have e:o.l.getD j.toNat Tree.nil=o.l[j.toNat]:=by rw [Qh,Q4 YL];try rfl
    rw [hy5,e]
    try rfl
   .rw [Ql YL]
    have e4:∀ B:List AUnit,out++(A++(o.l.map (fun t=> (⟨i,o.kind,t,Edit.nil,decide (o.kind=al)⟩:AUnit))))++B=out++(A++(o.l.map (fun t=> (⟨i,o.kind,t,Edit.nil,decide (o.kind=al)⟩:AUnit))++B)):=by intro B;simp
    refine ⟨fun hq=> ⟨by simp;omega,V3,(i+1,out++Yn i al o),?_,⟨YL,YL,?_⟩,YL⟩,fun hq=> ⟨V3,(i+1,out++Yn i al o),?_,⟨YL,YL,?_⟩,YL⟩⟩
    .rw [e4]
     simp only [Yn]
     rw [if_pos hq,hy3]
     try rfl
    .grind
    .simp only [Yn]
     grind
    grind
 .rw [Q6 YL] at h3
  simp only [ZE,Qs] at h3
  rw [h3]
  exact JR
theorem Zgk{α:Type}(l:List α)(i:Nat)(d:α):(l.drop i).getD 0 d=l.getD i d:=by
 grind
theorem Zm3{l:List AUnit}{i:Int}(h0:0<=i):(alo (l.drop i.toNat)=true)↔(i < l.length/\(l.getD i.toNat AUnit.nil).alone=true):=by
 unfold alo
 grind
theorem Zgo{α:Type}(l:List α){i:Int}(h0:0<=i):(l.drop i.toNat).drop 1=l.drop (i+1).toNat:=by
 rw [XG];congr 1;omega
theorem ZEn:Contract Tryz.prog cfg 174 Z5b:=by
 refine Zz0 ?_
 intro p q _ hp
 simp only [ZiO] at hp
 refine ZGN _ _ _ ?_;(try simp only [iB,vcT])
 refine Z4 (ι:=Int × Int × List APair) (fun s=> Z2R p q s.1 s.2.1 s.2.2) (fun s=> (0<=s.1/\s.1<=p.length)/\(0<=s.2.1/\s.2.1<=q.length)/\s.2.2.length<=s.1+s.2.1/\ZX (p.drop s.1.toNat) (q.drop s.2.1.toNat) s.2.2=ZX p q []) (fun s=> ((p.length:Int) - s.1).toNat+((q.length:Int) - s.2.1).toNat) (0,0,[]) rfl ⟨by simp,by simp,by simp,by simp⟩ ?_
 rintro ⟨i,j,out⟩ ⟨⟨h1,h2⟩,⟨h3,h4⟩,h5,h6⟩
 dsimp only at h1 h2 h3 h4 h5 h6
 refine ZsT _ _ _ _ _ _ _ ?_;(try simp only [iB,vcT])
 rintro y1 hy1 y2 hy2 y3 hy3 y4 hy4 y5 hy5
 obtain rfl:=hy4.symm
 obtain rfl:=hy5.symm
 obtain ⟨y6,hy6⟩:∃ y,y=APair.mk 1 y1 (AUnit.mk 0 0 (Tree.mk 0 [] []) y3 false):=⟨_,rfl⟩
 obtain ⟨y7,hy7⟩:∃ y,y=APair.mk 2 (AUnit.mk 0 0 (Tree.mk 0 [] []) y3 false) y2:=⟨_,rfl⟩
 rw [<-hy6,<-hy7]
 have e1:y6=⟨1,y1,AUnit.nil⟩:=by rw [hy6,hy3];try rfl
 have e2:y7=⟨2,AUnit.nil,y2⟩:=by rw [hy7,hy3];try rfl
 rw [ZX,Zgk,Zgk,<-hy1,<-hy2,Zgo _ h1,Zgo _ h3] at h6
 have ap:=Zm3 (l:=p) h1
 have aq:=Zm3 (l:=q) h3
 rw [<-hy1] at ap
 rw [<-hy2] at aq
 (simp only [iB,vcS])
 try simp only [iB,vcT]
 refine ⟨fun hc=> ⟨fun _=> ⟨h1,YL⟩,fun ha=> ⟨⟨h1,ha.1⟩,by simp;omega,V3,(i+1,j,out++[y6]),rfl,⟨⟨YL,V5⟩,⟨h3,h4⟩,by simp;omega,?_⟩,V5⟩,fun ha=> ⟨fun _=> ⟨h3,YL⟩,fun hb=> ⟨⟨h3,hb.1⟩,by simp;omega,V3,(i,j+1,out++[y7]),rfl,⟨⟨h1,h2⟩,⟨V5,V5⟩,by simp;omega,?_⟩,V5⟩,fun hb=> ⟨fun he=> ?_,fun he=> ?_⟩⟩⟩,fun hc=> ?_⟩
 .rw [dif_pos (ap.2 ha),<-e1] at h6;exact h6
 .rw [dif_neg (fun h=> ?_),dif_pos (aq.2 hb),<-e2] at h6
  .exact h6
  .have:=ap.1 h;simp_all
 .rw [dif_neg (fun h=> ?_),dif_neg (fun h=> ?_),dif_pos (by simp only [QF];omega),if_neg] at h6
  .simp only [ZiC,<-h6]
   exact JR
  .simp only [QF,decide_eq_decide];omega
  .have:=aq.1 h;simp_all
  .have:=ap.1 h;simp_all
 .rw [dif_neg (fun h=> ?_),dif_neg (fun h=> ?_),dif_neg (by simp only [QF];omega)] at h6
  .refine ⟨⟨h1,YL⟩,⟨h3,YL⟩,by simp;omega,V3,V3,(i+1,j+1,out++[⟨0,y1,y2⟩]),rfl,⟨⟨V5,V5⟩,⟨V5,V5⟩,by simp;omega,h6⟩,V5⟩
  .have:=aq.1 h;simp_all
  .have:=ap.1 h;simp_all
 .rw [dif_neg (fun h=> ?_),dif_neg (fun h=> ?_),dif_pos (by simp only [QF];omega),if_pos] at h6
  .simp only [ZiC,<-h6]
   exact JR
  .simp only [QF,decide_eq_decide];omega
  .have:=aq.1 h;omega
  .have:=ap.1 h;omega
theorem ZEl:Contract Tryz.prog cfg 176 Z59:=by
 refine ZyY ?_
 intro u _ hp
 refine ZGL _ _ ?_;(try simp only [iB,vcT,forall_eq])
 (simp only [iB,vcS]);(try simp only [iB,vcT])
 refine ⟨fun h=> ?_,fun h=> ⟨fun h2=> ?_,fun h2=> ?_⟩⟩
 .have e:opU u=⟨0,1,[],Edit.nil⟩:=by rw [opU,if_pos h]
  simp only [Zfa,e]
  exact JR
 .have e:opU u=⟨3,0,[],u.e⟩:=by rw [opU,if_neg h,if_pos h2]
  simp only [Zfa,e]
  exact JR
 .have e:opU u=⟨u.kind,0,[u.t],Edit.nil⟩:=by rw [opU,if_neg h,if_neg h2]
  try (simp only [Tree.eta,Edit.eta,Tree.kind_mk,Tree.words_mk,Tree.kids_mk])
  simp only [Zfa,e]
  exact JR
theorem Z48{α:Type}{a b:α}(h:¬a=b):eqX a b=false:=by rw [<-Xj,JI];exact h
theorem Z2u{α:Type}(d:α){a b:List α}(hl:a.length=b.length)(h:∀ i:Nat,i < a.length->a.getD i d=b.getD i d):a=b:=by
 apply K0 hl
 grind
theorem c40:Contract Tryz.prog cfg 40 ZeG:=by
 refine ZDl c11 ?_
 intro a b _ hp
 simp only [ZkP] at hp
 refine ZJb _ _ _ ?_;(try simp only [iB,vcT,forall_eq])
 (simp only [iB,vcS]);(try simp only [iB,vcT])
 refine ⟨fun hc=> Z6 rfl (Z48 (a:=a) (b:=b) (fun h=> hc (by rw [h]))).symm,fun hc=> ?_⟩
 have hl:a.length=b.length:=YL
 have hla:=Zv a
 refine Z4 (ι:=Int) (fun i=> ZaX a b i) (fun i=> 0<=i/\i<=a.length/\∀ j:Nat,(j:Int) < i->a.getD j Tree.nil=b.getD j Tree.nil) (fun i=> ((a.length:Int) - i).toNat) 0 rfl ⟨YL,YL,YL⟩ ?_
 rintro i ⟨h1,h2,h3⟩
 refine Zyh _ _ _ _ _ ?_;(try simp only [iB,vcT,forall_eq])
 (simp only [iB,vcS]);(try simp only [iB,vcT])
 try (simp only [Tree.eta,Edit.eta,Tree.kind_mk,Tree.words_mk,Tree.kids_mk])
 refine ⟨fun hi=> ⟨⟨h1,hi⟩,⟨h1,YL⟩,?_,fun hq=> ?_,fun hq=> ⟨V3,i+1,rfl,⟨YL,YL,?_⟩,YL⟩⟩,fun hi=> ?_⟩
 .have:=Yx (Zf (l:=a) (i:=i.toNat) YL Tree.nil)
  simp only [Z2i];omega
 .refine Z6 rfl (Z48 (a:=a) (b:=b) (fun h=> ?_)).symm
  rw [h,YG] at hq
  exact hq rfl
 .intro j hj
  by_cases hj2:(j:Int) < i
  .exact h3 j hj2
  .rw [Yu,show i.toNat=j by omega] at hq
   exact hq
 .refine Z6 rfl (JI (a:=a) (b:=b).2 (Z2u Tree.nil hl (fun j hj=> h3 j YL))).symm
theorem Zwq{a b:Edit}(h1:a.kind=b.kind)(h2:a.old=b.old)(h3:a.new=b.new)(h4:a.words=b.words)(h5:a.kids=b.kids)(h6:a.list=b.list)(h7:a.ops=b.ops):a=b:=by
 cases a;cases b;simp_all
theorem ZzY{a b:Kid}(h1:a.at_=b.at_)(h2:a.e=b.e):a=b:=by cases a;cases b;simp_all
theorem ZCR{a b:Op}(h1:a.kind=b.kind)(h2:a.n=b.n)(h3:a.l=b.l)(h4:a.e=b.e):a=b:=by cases a;cases b;simp_all
theorem Zr9{a b:WEdit}(h1:a.at_=b.at_)(h2:a.mask=b.mask)(h3:a.old=b.old)(h4:a.new=b.new):a=b:=by cases a;cases b;simp_all
theorem c15:Contract Tryz.prog cfg 15 ZeO:=by
 refine ZDB c11 c40 ?_
 intro N a b _ hp hN
 simp only [Z8l,Zla] at hp hN
 have hme:=ZT a
 have hkl:=Y1 a.kids
 have hol:=ZF a.ops
 have neq:∀ {P:Prop},(a=b->P)->¬P->eqX a b=false:=fun h1 h2=> Z48 (fun h=> h2 (h1 h))
 refine ZJt N a b _ ?_;(try simp only [iB,vcT])
 rintro y1 rfl y2 rfl y3 rfl y4 rfl
 (simp only [iB,vcS]);(try simp only [iB,vcT])
 refine ⟨fun _=> ?_,fun _=> ?_,fun hc=> ?_,fun hc=> ?_⟩
 .simp only [Z2i];omega
 .simp only [Z2i];omega
 .refine Z6 rfl (Z48 (a:=a) (b:=b) (fun h=> ?_)).symm
  rw [h] at hc
  simp only [YG] at hc
  simp at hc
 .simp only [Yu,Classical.not_not] at hc
  obtain ⟨⟨⟨⟨⟨⟨h1,h2⟩,h3⟩,h4⟩,h5⟩,h6⟩,h7⟩:=hc
  refine Z4 (ι:=Int) (fun i=> Zbc a b i) (fun i=> 0<=i/\i<=a.words.length/\∀ j:Nat,(j:Int) < i->a.words.getD j (WEdit.mk 0 0 0 0)=b.words.getD j (WEdit.mk 0 0 0 0)) (fun i=> ((a.words.length:Int) - i).toNat) 0 rfl ⟨YL,YL,YL⟩ ?_
  rintro i ⟨g1,g2,g3⟩
  refine Zyx _ _ _ _ _ _ ?_;(try simp only [iB,vcT,forall_eq])
  (simp only [iB,vcS]);(try simp only [iB,vcT])
  try simp only [and_true]
  refine ⟨fun hi=> ⟨⟨g1,hi⟩,⟨g1,YL⟩,fun hq=> ?_,fun hq=> ⟨V3,i+1,rfl,⟨YL,YL,?_⟩,YL⟩⟩,fun hi=> ?_⟩
  .refine Z6 rfl (Z48 (a:=a) (b:=b) (fun h=> ?_)).symm
   grind
  .intro j hj
   by_cases hj2:(j:Int) < i
   .exact g3 j hj2
   .rw [show i.toNat=j by omega] at hq
    exact Zr9 hq.1 hq.2.1 hq.2.2.1 hq.2.2.2
  .have hw:a.words=b.words:=Z2u (WEdit.mk 0 0 0 0) YL (fun j hj=> g3 j YL)
   refine Z4 (ι:=Int) (fun i=> Zbb a b i) (fun i=> 0<=i/\i<=a.kids.length/\∀ j:Nat,(j:Int) < i->a.kids.getD j (KidOf.mk 0 Edit.nil)=b.kids.getD j (KidOf.mk 0 Edit.nil)) (fun i=> ((a.kids.length:Int) - i).toNat) 0 rfl ⟨YL,YL,YL⟩ ?_
   rintro i ⟨g1,g2,g3⟩
   refine Zyw _ _ _ _ _ _ ?_;(try simp only [iB,vcT])
   rintro y1 hy1 y2 hy2 y3 hy3 y4 hy4
   (simp only [iB,vcS]);(try simp only [iB,vcT])
   refine ⟨fun hi=> ⟨⟨g1,hi⟩,⟨g1,YL⟩,fun _=> ⟨g1,hi⟩,fun _=> ⟨g1,YL⟩,fun _=> ?_,fun _=> ?_,fun hq=> ?_,fun hq=> ⟨V3,i+1,rfl,⟨YL,YL,?_⟩,YL⟩⟩,fun hi=> ?_⟩
   .have:=Yw (Zf (l:=a.kids) (i:=i.toNat) YL (KidOf.mk 0 Edit.nil))
    rw [<-hy1,<-hy3] at this
    simp only [Z8l];omega
   .have:=Yw (Zf (l:=a.kids) (i:=i.toNat) YL (KidOf.mk 0 Edit.nil))
    rw [<-hy1,<-hy3] at this
    simp only [Zla];omega
   .refine Z6 rfl (Z48 (a:=a) (b:=b) (fun h=> ?_)).symm
    simp_all
   .intro j hj
    by_cases hj2:(j:Int) < i
    .exact g3 j hj2
    .rw [JI,hy3,hy4,hy1,hy2,show i.toNat=j by omega] at hq
     exact ZzY YL hq.2
   .have hk:a.kids=b.kids:=Z2u (KidOf.mk 0 Edit.nil) YL (fun j hj=> g3 j YL)
    refine Z4 (ι:=Int) (fun i=> Zba a b i) (fun i=> 0<=i/\i<=a.ops.length/\∀ j:Nat,(j:Int) < i->a.ops.getD j Op.nil=b.ops.getD j Op.nil) (fun i=> ((a.ops.length:Int) - i).toNat) 0 rfl ⟨YL,YL,YL⟩ ?_
    rintro i ⟨g1,g2,g3⟩
    refine Zyv _ _ _ _ _ _ ?_;(try simp only [iB,vcT])
    rintro y1 hy1 y2 hy2 y3 hy3 y4 hy4
    (simp only [iB,vcS]);(try simp only [iB,vcT])
    refine ⟨fun hi=> ⟨⟨g1,hi⟩,⟨g1,YL⟩,fun _=> ?_,fun _=> ?_,fun _=> ?_,fun hq=> ?_,fun hq=> ⟨V3,i+1,rfl,⟨YL,YL,?_⟩,YL⟩⟩,fun hi=> ?_⟩
    .have:=ZI (Zf (l:=a.ops) (i:=i.toNat) YL Op.nil)
     rw [<-hy1,ZG] at this
     simp only [ZkP];omega
    .have:=ZI (Zf (l:=a.ops) (i:=i.toNat) YL Op.nil)
     rw [<-hy1,ZG,<-hy3] at this
     simp only [Z8l];omega
    .have:=ZI (Zf (l:=a.ops) (i:=i.toNat) YL Op.nil)
     rw [<-hy1,ZG,<-hy3] at this
     simp only [Zla];omega
    .refine Z6 rfl (Z48 (a:=a) (b:=b) (fun h=> ?_)).symm
     simp_all
    .intro j hj
     by_cases hj2:(j:Int) < i
     .exact g3 j hj2
     .rw [JI,JI,hy3,hy4,hy1,hy2,show i.toNat=j by omega] at hq
      obtain ⟨⟨⟨q1,q2⟩,q3⟩,q4⟩:=hq
      exact ZCR (by simpa using q1) (by simpa using q2) q3 q4
    .have ho:a.ops=b.ops:=Z2u Op.nil YL (fun j hj=> g3 j YL)
     exact Z6 rfl (JI (a:=a) (b:=b).2 (Zwq h1 h3 h4 hw hk h2 ho)).symm
theorem Zeh(a:Int)(o:Op):ZE 0 a [o]=Yn 0 a o:=by simp [ZE]
theorem Z24{alone:Int}{x:Piece}{r:List Piece}{m:List APair}:Zcy alone (x ::r) m=∃ m1 m2,m=m1++m2/\m1≠[]/\((x.of=0\/x.of=1\/x.of=2)/\(x.of=2->x.p=Op.nil)/\(∀ y∈m1,y.of=x.of)/\(x.of≠2->ZQ x.p/\Zt x.p<=18000000000/\Z3 x.p=m1.length/\Z5O x.p alone (m1.map APair.p))
   /\(x.of≠1->ZQ x.q/\Zt x.q<=18000000000/\Z3 x.q=m1.length/\Z5O x.q 2 (m1.map APair.q)))/\Zcy alone r m2:=rfl
def vu(u:AUnit):Op × Bool:=(opU u,u.alone)
def vs(a:Int)(o:Op):List (Op × Bool):=(Yn 0 a o).map vu
def vsL(a:Int)(l:List Op):List (Op × Bool):=l.flatMap (vs a)
theorem ZxG(i a:Int)(o:Op):(Yn i a o).map vu=vs a o:=by
 simp only [vs,Yn,Xy,QR]
 congr 1
 .split <;> simp [vu,opU]
 .congr 1
  split <;> simp [vu,opU]
theorem Z4b(a:Int):∀ (l:List Op) (i:Int),(ZE i a l).map vu=vsL a l
 | [],_=> rfl
 | o ::r,i=> by
  simp only [ZE,Xy,ZxG,Z4b a r]
  try rfl
theorem ZsJ{a:Int}{o:Op}(h:ZQ o):((vs a o).length:Int)=Z3 o:=by
 rw [vs,QC];exact Z5X h 0 a
theorem Zoe{a:Int}{o:Op}(h:ZQ o)(ha:a=1\/a=2):∀ x∈vs a o,x.2=decide (o.kind=a):=by
 intro x hx
 simp only [vs,X4] at hx
 obtain ⟨u,hu,rfl⟩:=hx
 simp only [Yn,Qi,X4] at hu
 rcases hu with hu | ⟨t,ht,rfl⟩ | hu
 .split at hu
  .rw [Xu hu]
   simp only [vu]
   grind
  .cases hu
 .try rfl
 .split at hu
  .rw [Qg.1 hu]
   simp only [vu]
   grind
  .cases hu
theorem Z5V{a n:Int}{o:Op}(h:ZQ o)(h1:1<=n)(hn:¬Z3 o<=n):vs a o=vs a (ZD o n)++vs a (JX o n)/\ZQ (ZD o n)/\Z3 (ZD o n)=n/\Zt (ZD o n)<=Zt o:=by
 have hl:=Yr o
 rcases h with ⟨k0,k1,k2,k3⟩ | ⟨k0,k1,k2,k3⟩ | ⟨k0,k1,k2⟩
 .have e1:ZD o n=⟨o.kind,n,o.l,o.e⟩:=by rw [ZD,if_neg hn,if_pos k0]
  have e2:JX o n=⟨o.kind,o.n - n,o.l,o.e⟩:=by rw [JX,if_pos k0]
  rw [V0,k1] at hl
  simp only [Qj] at hl
  rw [e1,e2]
  refine ⟨?_,Or.inl ⟨k0,k1,by grind,k3⟩,?_,by simp [ZG]⟩
  .simp only [vs,Yn,k0,k1]
   simp only [if_true,QQ,Qq,Xy,List.map_replicate]
   rw [if_neg V2]
   simp only [QQ,Qs]
   rw [List.replicate_append_replicate]
   grind
  .rw [Yr]
   grind
 .have e1:ZD o n=⟨o.kind,o.n,o.l.take n.toNat,o.e⟩:=by rw [ZD,if_neg hn,V0]
  have e2:JX o n=⟨o.kind,o.n,o.l.drop n.toNat,o.e⟩:=by rw [JX,V0]
  rw [V0] at hl
  have hm:=Zg1 n.toNat o.l
  rw [e1,e2]
  refine ⟨?_,Or.inr (Or.inl ⟨k0,k1,?_,k3⟩),?_,by simp only [ZG];omega⟩
  .simp only [vs,Yn]
   rw [V0,V0]
   simp_all
  .intro he
   have:=congrArg List.length he
   grind
  .rw [Yr]
   grind
 omega
def okL(l:List Op):Prop:=∀ o∈l,ZQ o/\Zt o<=18000000000
theorem Zl1{l:List Op}(h:okL l):okL (l.drop 1):=fun o ho=> h o (QS ho)
theorem Z6r{l:List Op}(h:okL l)(hl:l.length≠0):ZQ (l.getD 0 Op.nil)/\Zt (l.getD 0 Op.nil)<=18000000000:=h _ (Zf (l:=l) (i:=0) YL Op.nil)
theorem Z52{a n:Int}{p:List Op}(h:okL p)(hl:p.length≠0)(h1:1<=n)(hn:n<=Z3 (p.getD 0 Op.nil)):
  vsL a p=vs a (ZD (p.getD 0 Op.nil) n)++vsL a (ZV p n)/\ZQ (ZD (p.getD 0 Op.nil) n)/\Z3 (ZD (p.getD 0 Op.nil) n)=n/\Zt (ZD (p.getD 0 Op.nil) n)<=18000000000/\okL (ZV p n):=by
 obtain ⟨ha,hb⟩:=Z6r h hl
 obtain _ | ⟨o,r⟩:=p
 .simp at hl
 have e:(o ::r).getD 0 Op.nil=o:=rfl
 unfold ZV
 simp only [e] at ha hb hn ⊢
 by_cases hc:Z3 o<=n
 .have t:ZD o n=o:=by rw [ZD,if_pos hc]
  rw [if_pos hc,t]
  exact ⟨rfl,ha,YL,hb,Zl1 h⟩
 .rw [if_neg hc]
  obtain ⟨g1,g2,g3,g4⟩:=Z5V (a:=a) ha h1 hc
  obtain ⟨b1,b2⟩:=Zbn ha h1 hc
  refine ⟨?_,g2,g3,YL,?_⟩
  .simp only [vsL,Xh,QK,Xb]
   grind
  .intro x hx
   rcases Q9.1 hx with rfl | hx
   .grind
   .exact Zl1 h x hx
theorem Z4V(u:AUnit)(P:List AUnit):alo (u ::P)=u.alone:=by
 rw [Qr]
 unfold alo
 grind
theorem Zd1:∀ (A P Q:List AUnit) (out:List APair),(∀ u∈A,u.alone=true)->ZX (A++P) Q out=ZX P Q (out++A.map (fun u=> ⟨1,u,AUnit.nil⟩))
 | [],P,Q,out,_=> by simp
 | u ::A,P,Q,out,h=> by
  have hu:=h u (Q3 ..)
  rw [Qk,ZX,dif_pos (by rw [Z4V];exact hu)]
  have:=Zd1 A P Q (out++[⟨1,u,AUnit.nil⟩]) (fun x hx=> h x (Q0 _ hx))
  grind
theorem Za5:∀ (B P Q:List AUnit) (out:List APair),alo P=false->(∀ u∈B,u.alone=true)->ZX P (B++Q) out=ZX P Q (out++B.map (fun u=> ⟨2,AUnit.nil,u⟩))
 | [],P,Q,out,_,_=> by simp
 | u ::B,P,Q,out,hp,h=> by
  have hu:=h u (Q3 ..)
  rw [Qk,ZX,dif_neg (by grind),dif_pos (by rw [Z4V];exact hu)]
  have:=Za5 B P Q (out++[⟨2,AUnit.nil,u⟩]) hp (fun x hx=> h x (Q0 _ hx))
  grind
theorem ZfH:∀ (A B P Q:List AUnit) (out:List APair),A.length=B.length->(∀ u∈A,u.alone=false)->(∀ u∈B,u.alone=false)->ZX (A++P) (B++Q) out=ZX P Q (out++List.zipWith (fun u w=> ⟨0,u,w⟩) A B)
 | [],[],P,Q,out,_,_,_=> by simp
 | [],_ ::_,_,_,_,h,_,_=> by simp at h
 | _ ::_,[],_,_,_,h,_,_=> by simp at h
 | u ::A,w ::B,P,Q,out,hl,ha,hb=> by
  have hu:=ha u (Q3 ..)
  have hw:=hb w (Q3 ..)
  rw [Qk,Qk,ZX,dif_neg (by rw [Z4V,hu];grind),dif_neg (by rw [Z4V,hw];grind),dif_neg (by simp)]
  have:=ZfH A B P Q (out++[⟨0,u,w⟩]) (by simpa using hl) (fun x hx=> ha x (List.mem_cons_of_mem _ hx)) (fun x hx=> hb x (List.mem_cons_of_mem _ hx))
  simp_all
theorem Zxp{a:Int}{p:List Op}{P:List AUnit}(h:okL p)(ha:a=1\/a=2)(e:P.map vu=vsL a p):alo P=sgl a p/\(P.length=0↔p.length=0):=by
 obtain _ | ⟨o,r⟩:=p
 .have:P=[]:=by simpa [vsL] using e
  rw [this]
  trivial
 .have ho:=(h o (Q3 ..)).1
  have hl:=ZsJ (a:=a) ho
  have hp:=ZY ho
  have hf:=Zoe ho ha
  simp only [vsL,Xh] at e
  obtain _ | ⟨u,P⟩:=P
  .have:=congrArg List.length e
   grind
  .cases hv:vs a o with
   | nil=> grind
   | cons x xs=>
    rw [hv] at e hf
    have h1:vu u=x:=by simpa using (List.cons.inj e).1
    have h2:=hf x (Q3 ..)
    rw [<-h1] at h2
    refine ⟨?_,by simp⟩
    rw [Z4V,show u.alone=(vu u).2 from rfl,h2]
    simp [sgl]
theorem Zqh{a:Int}{o:Op}{A:List AUnit}(h:ZQ o)(ha:a=1\/a=2)(e:A.map vu=vs a o):(∀ u∈A,u.alone=decide (o.kind=a))/\(A.length:Int)=Z3 o/\Z5O o a A:=by
 refine ⟨fun u hu=> ?_,?_,?_⟩
 .exact Zoe h ha (vu u) (by grind)
 .rw [<-ZsJ (a:=a) h,<-e,QC]
 .have:=congrArg (List.map Prod.fst) e
  simp only [vs,QR] at this
  unfold Z5O
  rw [Zeh]
  exact this.symm
theorem Z0B{a:Int}{l:List Op}:sgl a l=true↔(l.length≠0/\(l.getD 0 Op.nil).kind=a):=by unfold sgl;grind
theorem Z0E(o:Op)(n:Int):(ZD o n).kind=o.kind:=by
 unfold ZD;grind
theorem ZxC{A B:List AUnit}(h:A.length=B.length):(List.zipWith (fun u w=> (⟨0,u,w⟩:APair)) A B).map APair.p=A/\(List.zipWith (fun u w=> (⟨0,u,w⟩:APair)) A B).map APair.q=B:=by
 induction A generalizing B with
 | nil=> cases B with
  | nil=> simp_all
  | cons=> simp at h
 | cons u A ih=> cases B with
  | nil=> simp at h
  | cons w B=>
   simp_all
theorem ZCr{A B:List AUnit}:∀ y∈List.zipWith (fun u w=> (⟨0,u,w⟩:APair)) A B,y.of=0:=by
 induction A generalizing B with
 | nil=> intro y hy;simp at hy
 | cons u A ih=> cases B with
  | nil=> intro y hy;simp at hy
  | cons w B=>
   intro y hy
   rcases Q9.1 hy with rfl | hy
   .try rfl
   .exact ih y hy
theorem ZkU(a:Int)(ha:a=1\/a=2):∀ (k:Nat) (p q:List Op) (out:List Piece) (P Q:List AUnit) (outm:List APair),p.length+q.length<=k->okL p->okL q->P.map vu=vsL a p->Q.map vu=vsL 2 q->
  ∃ (ok:Bool) (l:List Piece) (m:List APair),(Y3 a 2 p q out).1=(if ok=true then out++l else [])/\(Y3 a 2 p q out).2.1=ok/\ZX P Q outm=(if ok=true then outm++m else [],ok)
   /\(ok=true->Zcy a l m/\l.length<=p.length+q.length/\m.length<=P.length+Q.length):=by
 intro k
 induction k with
 | zero=>
  intro p q out P Q outm hk hp hq eP eQ
  have h1:p=[]:=QI.1 YL
  have h2:q=[]:=QI.1 YL
  subst h1 h2
  have h3:P=[]:=by simpa [vsL] using eP
  have h4:Q=[]:=by simpa [vsL] using eQ
  subst h3 h4
  refine ⟨true,[],[],?_,?_,?_,fun _=> ⟨rfl,by simp,by simp⟩⟩
  .rw [Y3];simp [sgl]
  .rw [Y3];simp [sgl]
  .rw [ZX];simp [alo]
 | succ k ih=>
  intro p q out P Q outm hk hp hq eP eQ
  obtain ⟨aP,lP⟩:=Zxp hp ha eP
  obtain ⟨aQ,lQ⟩:=Zxp hq (Or.inr rfl) eQ
  rw [Y3]
  by_cases h1:sgl a p=true
  .rw [dif_pos h1]
   obtain ⟨hl,hkind⟩:=Z0B.1 h1
   obtain ⟨oa,ob⟩:=Z6r hp hl
   obtain ⟨s1,s2,s3,s4,s5⟩:=Z52 (a:=a) hp hl (ZY oa) (Xe _)
   rw [Z6V] at s1 s5
   rw [Z6W] at s1 s2 s3 s4
   rw [s1] at eP
   obtain ⟨A,P',rfl,eA,eP'⟩:=Xz.1 eP
   obtain ⟨f1,f2,f3⟩:=Zqh oa ha eA
   rw [decide_eq_true hkind] at f1
   rw [Zd1 A P' Q outm f1]
   obtain ⟨ok,l,m,e1,e2,e3,e4⟩:=ih (p.drop 1) q (out++[⟨1,p.getD 0 Op.nil,Op.nil⟩]) P' Q (outm++A.map (fun u=> ⟨1,u,AUnit.nil⟩)) (by simp;omega) s5 hq eP' eQ
   refine ⟨ok,⟨1,p.getD 0 Op.nil,Op.nil⟩ ::l,A.map (fun u=> ⟨1,u,AUnit.nil⟩)++m,by rw [e1,Qb];rfl,e2,by rw [e3,Qb],fun hok=> ?_⟩
   obtain ⟨g1,g2,g3⟩:=e4 hok
   have hpos:=ZY oa
   refine ⟨?_,by simp only [Q7,QF] at g2 ⊢;omega,by simp only [Qd,QC] at g3 ⊢;omega⟩
   rw [Z24]
   refine ⟨A.map (fun u=> ⟨1,u,AUnit.nil⟩),m,rfl,?_,⟨Or.inr (Or.inl rfl),fun h=> by simp at h,?_,fun _=> ⟨oa,ob,?_,?_⟩,fun h=> absurd rfl h⟩,g1⟩
   .intro he;have:=congrArg List.length he;simp only [QC,Qj] at this;omega
   .intro y hy;obtain ⟨u,_,rfl⟩:=X4.1 hy;rfl
   .rw [QC];exact f2.symm
   .rw [QR]
    have:(APair.p ∘ fun u=> (⟨1,u,AUnit.nil⟩:APair))=id:=rfl
    rw [this,List.map_id];exact f3
  .rw [dif_neg h1]
   have nP:alo P=false:=by rw [aP];exact Xj _▸h1
   by_cases h2:sgl 2 q=true
   .rw [dif_pos h2]
    obtain ⟨hl,hkind⟩:=Z0B.1 h2
    obtain ⟨oa,ob⟩:=Z6r hq hl
    obtain ⟨s1,s2,s3,s4,s5⟩:=Z52 (a:=2) hq hl (ZY oa) (Xe _)
    rw [Z6V] at s1 s5
    rw [Z6W] at s1 s2 s3 s4
    rw [s1] at eQ
    obtain ⟨B,Q',rfl,eB,eQ'⟩:=Xz.1 eQ
    obtain ⟨f1,f2,f3⟩:=Zqh oa (Or.inr rfl) eB
    rw [decide_eq_true hkind] at f1
    rw [Za5 B P Q' outm nP f1]
    obtain ⟨ok,l,m,e1,e2,e3,e4⟩:=ih p (q.drop 1) (out++[⟨2,Op.nil,q.getD 0 Op.nil⟩]) P Q' (outm++B.map (fun u=> ⟨2,AUnit.nil,u⟩)) (by simp;omega) hp s5 eP eQ'
    refine ⟨ok,⟨2,Op.nil,q.getD 0 Op.nil⟩ ::l,B.map (fun u=> ⟨2,AUnit.nil,u⟩)++m,by rw [e1,Qb];rfl,e2,by rw [e3,Qb],fun hok=> ?_⟩
    obtain ⟨g1,g2,g3⟩:=e4 hok
    have hpos:=ZY oa
    refine ⟨?_,by simp only [Q7,QF] at g2 ⊢;omega,by simp only [Qd,QC] at g3 ⊢;omega⟩
    rw [Z24]
    refine ⟨B.map (fun u=> ⟨2,AUnit.nil,u⟩),m,rfl,?_,⟨Or.inr (Or.inr rfl),fun _=> rfl,?_,fun h=> absurd rfl h,fun _=> ⟨oa,ob,?_,?_⟩⟩,g1⟩
    .intro he;have:=congrArg List.length he;simp only [QC,Qj] at this;omega
    .intro y hy;obtain ⟨u,_,rfl⟩:=X4.1 hy;rfl
    .rw [QC];exact f2.symm
    .rw [QR]
     have:(APair.q ∘ fun u=> (⟨2,AUnit.nil,u⟩:APair))=id:=rfl
     rw [this,List.map_id];exact f3
   .rw [dif_neg h2]
    have nQ:alo Q=false:=by rw [aQ];exact Xj _▸h2
    by_cases h3:p.length=0\/q.length=0
    .rw [dif_pos h3]
     have e0:ZX P Q outm=if decide (P.length=0)=decide (Q.length=0) then (outm,true) else ([],false):=by
      rw [ZX,dif_neg (by rw [nP];exact Bool.false_ne_true),dif_neg (by rw [nQ];exact Bool.false_ne_true),dif_pos (by rw [lP,lQ];exact h3)]
     have e5:decide (P.length=0)=decide (p.length=0):=decide_eq_decide.2 lP
     have e6:decide (Q.length=0)=decide (q.length=0):=decide_eq_decide.2 lQ
     rw [e5,e6] at e0
     by_cases h4:decide (p.length=0)=decide (q.length=0)
     .rw [if_pos h4] at e0 ⊢
      exact ⟨true,[],[],by simp,rfl,by rw [e0];simp,fun _=> ⟨rfl,by simp,by simp⟩⟩
     .rw [if_neg h4] at e0 ⊢
      exact ⟨false,[],[],rfl,rfl,e0,fun h=> by cases h⟩
    .rw [dif_neg h3]
     have l1:p.length≠0:=YL
     have l2:q.length≠0:=YL
     obtain ⟨oa,ob⟩:=Z6r hp l1
     obtain ⟨oc,od⟩:=Z6r hq l2
     have p1:=ZY oa
     have p2:=ZY oc
     generalize hn:min (Z3 (p.getD 0 Op.nil)) (Z3 (q.getD 0 Op.nil))=n
     obtain ⟨s1,s2,s3,s4,s5⟩:=Z52 (a:=a) (n:=n) hp l1 YL YL
     obtain ⟨t1,t2,t3,t4,t5⟩:=Z52 (a:=2) (n:=n) hq l2 YL YL
     have k1:(ZD (p.getD 0 Op.nil) n).kind≠a:=by
      rw [Z0E];intro h;exact h1 (Z0B.2 ⟨l1,h⟩)
     have k2:(ZD (q.getD 0 Op.nil) n).kind≠2:=by
      rw [Z0E];intro h;exact h2 (Z0B.2 ⟨l2,h⟩)
     have c1:=YD p n l1
     have c2:=YD q n l2
     have c3:Z3 (p.getD 0 Op.nil)<=n->(ZV p n).length < p.length:=fun h=> YC p _ l1 h
     have c4:Z3 (q.getD 0 Op.nil)<=n->(ZV q n).length < q.length:=fun h=> YC q _ l2 h
     rw [s1] at eP
     rw [t1] at eQ
     obtain ⟨A,P',rfl,eA,eP'⟩:=Xz.1 eP
     obtain ⟨B,Q',rfl,eB,eQ'⟩:=Xz.1 eQ
     obtain ⟨f1,f2,f3⟩:=Zqh s2 ha eA
     obtain ⟨g1,g2,g3⟩:=Zqh t2 (Or.inr rfl) eB
     rw [decide_eq_false k1] at f1
     rw [decide_eq_false k2] at g1
     have hAB:A.length=B.length:=YL
     rw [ZfH A B P' Q' outm hAB f1 g1]
     obtain ⟨ok,l,m,e1,e2,e3,e4⟩:=ih (ZV p n) (ZV q n) (out++[⟨0,ZD (p.getD 0 Op.nil) n,ZD (q.getD 0 Op.nil) n⟩]) P' Q' (outm++List.zipWith (fun u w=> ⟨0,u,w⟩) A B) YL s5 t5 eP' eQ'
     refine ⟨ok,⟨0,ZD (p.getD 0 Op.nil) n,ZD (q.getD 0 Op.nil) n⟩ ::l,List.zipWith (fun u w=> ⟨0,u,w⟩) A B++m,by rw [e1,Qb];rfl,e2,by rw [e3,Qb],fun hok=> ?_⟩
     obtain ⟨i1,i2,i3⟩:=e4 hok
     have hzl:(List.zipWith (fun u w=> (⟨0,u,w⟩:APair)) A B).length=A.length:=by rw [List.length_zipWith,hAB,Nat.min_self]
     obtain ⟨z1,z2⟩:=ZxC hAB
     refine ⟨?_,by simp only [Q7];omega,by simp only [Qd,hzl];omega⟩
     rw [Z24]
     refine ⟨List.zipWith (fun u w=> ⟨0,u,w⟩) A B,m,rfl,?_,⟨Or.inl rfl,fun h=> by simp at h,ZCr,fun _=> ⟨s2,s4,?_,?_⟩,fun _=> ⟨t2,t4,?_,?_⟩⟩,i1⟩
     .intro he;have:=congrArg List.length he;rw [hzl,Qj] at this;omega
     .rw [hzl];exact f2.symm
     .rw [z1];exact f3
     .rw [hzl,hAB];exact g2.symm
     .rw [z2];exact g3
theorem Zl2{t:Tree}(h:Yz t=true):t=Tree.nil:=by
 obtain ⟨k,w,ks⟩:=t
 have:=of_decide_eq_true h
 simp at this
 obtain ⟨rfl,rfl,rfl⟩:=this
 try rfl
theorem Zh8{e:Edit}(h:Z1k e=true):e=Edit.nil:=by
 obtain ⟨h1,h2,h3,h4,h5,h6,h7⟩:=Zki h
 obtain ⟨k,o,n,w,ks,l,os⟩:=e
 simp at h1 h2 h3 h4 h5 h6 h7
 subst h1 h4 h5 h6 h7
 rw [Zl2 h2,Zl2 h3]
 try rfl
theorem Z0F{list:Int}{o:Op}{d:Int}(h:Zc list o d=true):ZQ o:=by
 rw [Jp] at h
 unfold ZQ
 split at h
 .rename_i h0
  simp only [Q2,decide_eq_true_eq] at h
  exact Or.inl ⟨h0,QI.1 h.1.2.2,⟨h.1.1,h.1.2.1⟩,Zh8 h.2⟩
 .split at h
  .cases h
  .rename_i h0 h1
   split at h
   .simp only [Q2,decide_eq_true_eq] at h
    refine Or.inr (Or.inl ⟨YL,YL,?_,Zh8 h.2⟩)
    grind
   grind
end Go.AM.YtfapacabjkhepaaGreat
namespace Go.AM
def Zds(list:Int)(e:Edit):Bool:=decide (e.kind=0\/(list=9/\e.kind=2/\e.words.length=0/\e.kids.length=0))
def Zb(l:List Tree):List Tree:=l.map Z5
def Z1c(kind:Int):List Op->List Tree
 | []=> []
 | o ::r=> if o.kind=1\/o.kind=2 then (if o.kind=kind then Zb o.l else [])++Z1c kind r else []
def YU:List Op->Int
 | []=> 0
 | o ::r=> if o.kind=1\/o.kind=2 then 1+YU r else 0
def Z2f(w:WEdit):WEdit:=⟨w.at_,w.mask,w.new,w.old⟩
mutual
def Zs:Edit->Edit
 | .mk k o n w ks l os=> .mk k n o (w.map Z2f) (JQ ks) l (Jm os)
def JQ:List (KidOf Edit)->List (KidOf Edit)
 | []=> []
 | k ::r=> Z12 k ::JQ r
def Z12:KidOf Edit->KidOf Edit
 | ⟨a,e⟩=> ⟨a,Zs e⟩
def Jm:List (OpOf Edit)->List (OpOf Edit)
 | []=> []
 | o ::r=> YO o ::Jm r
def YO:OpOf Edit->OpOf Edit
 | ⟨k,n,l,e⟩=> if k=1 then ⟨2,n,l,e⟩ else if k=2 then ⟨1,n,l,e⟩ else if k=3 then ⟨k,n,l,Zs e⟩ else ⟨k,n,l,e⟩
end
def Z8G(k:Int):Int:=if k=1\/k=2 then 3 - k else k
mutual
def Z1u:Edit->Edit
 | .mk k o n w ks l os=> .mk k n o (w.map Z2f) (Z2r ks) l (Z0b os)
def Z2r:List (KidOf Edit)->List (KidOf Edit)
 | []=> []
 | k ::r=> Z9K k ::Z2r r
def Z9K:KidOf Edit->KidOf Edit
 | ⟨a,e⟩=> ⟨a,Z1u e⟩
def Z0b:List (OpOf Edit)->List (OpOf Edit)
 | []=> []
 | o ::r=> ZdP o ::Z0b r
def ZdP:OpOf Edit->OpOf Edit
 | ⟨k,n,l,e⟩=> ⟨Z8G k,n,l,Z1u e⟩
end
end Go.AM
