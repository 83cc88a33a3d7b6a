import Derived.Test.YtpjenobkibfpcaaKB20b
import Derived.Test.YtpjenobkibfpcaaCmZ
import Derived.Test.YtpjenobkibfpcaaKD20
import Derived.Test.YtpjenobkibfpcaaKE07
set_option linter.unusedSimpArgs false
set_option linter.unusedVariables false
namespace Go.AM.Ytpjenobkibfpcaa
open Go.AM Go.Proofs
theorem Z3Q(e:Edit)(d:Int):Z0 e d=
  if d=0∨e.kind < 0∨3 < e.kind then false
  else if (e.kind≠1∧¬(ZT e.old=true∧ZT e.new=true))∨(e.kind≠2∧¬(e.words.length=0∧e.kids.length=0))∨(e.kind≠3∧(e.list≠0∨e.ops.length≠0)) then false
  else if e.kind=1 then Z9 e.old (dT d) && Z9 e.new (dT d) && decide (e.old.kind≠10∧e.new.kind≠10)
  else Zk (-1) e.words && Zr (-1) e.kids (d - 1) && decide (¬(e.kind=3∧(e.list < 2∨9 < e.list))) && Zt e.list e.ops (d - 1) && decide (Z0d e.ops 0 < 1048576∧Z0c e.ops 0 < 1048576):=by
 obtain ⟨k,o,nw,w,ks,l,os⟩:=e;rfl
theorem Z3e(last:Int)(k:Kid)(d:Int):YY last k d=(decide (last < k.at_∧k.at_≤65534∧k.e.kind≠0) && Z0 k.e d):=by cases k;rfl
theorem Jt(list:Int)(o:Op)(d:Int):Za list o d=
  if o.kind=0 then decide (1≤o.n∧o.n≤1048576∧o.l.length=0) && Z0V o.e
  else if o.n≠0∨o.kind < 0∨3 < o.kind then false
  else if o.kind < 3 then Yn (dT d) list o.l && decide (0 < o.l.length) && Z0V o.e
  else decide (o.l.length=0∧o.e.kind≠0∧7 < list) && Z0 o.e d && decide (list=8∨o.e.kind=2∨o.e.kind=1∧o.e.old.kind=1∧o.e.new.kind=1):=by
 cases o;rfl
theorem Z26{list:Int}{o:Op}{d:Int}(h:Za list o d=true):0≤o.n∧o.n≤1048576:=by
 rw [Jt] at h
 split at h
 ·simp only [Bool.and_eq_true,decide_eq_true_eq] at h;omega
 ·split at h
  ·cases h
  ·rename_i h1;omega
theorem rightOs_mem{list d:Int}:∀ {os:List Op} {o:Op},Zt list os d=true→o∈os→Za list o d=true
 | x ::r,o,h,hm=> by
  simp only [Zt,Bool.and_eq_true] at h
  rcases List.mem_cons.1 hm with rfl | hm
  ·exact h.1
  ·exact rightOs_mem h.2 hm
theorem Za9{d:Int}:∀ {ks:List Kid} {last:Int} {k:Kid},Zr last ks d=true→k∈ks→Z0 k.e d=true∧k.e.kind≠0
 | x ::r,last,k,h,hm=> by
  simp only [Zr,Bool.and_eq_true] at h
  rcases List.mem_cons.1 hm with rfl | hm
  ·have:=h.1;rw [Z3e] at this;simp only [Bool.and_eq_true,decide_eq_true_eq] at this;exact ⟨this.2,this.1.2.2⟩
  ·exact Za9 h.2 hm
theorem Z4A{e:Edit}(h:ZS e):isI e.kind∧rng e.old∧rng e.new∧(∀ x∈e.words,Z1s x)∧isI e.list∧JT e.kids∧JL e.ops:=by
 obtain ⟨k,o,n,w,ks,l,os⟩:=e;exact h
theorem b23:Zzt:=by
 intro N e d _ hp hN
 simp only [Zag,Zfz] at hp hN
 obtain ⟨⟨hm,hr⟩,hd0,hd1⟩:=hp
 obtain ⟨ik,ro,rn,rw',il,rk,ros⟩:=Z4A hr
 have hme:=Yr e
 have hkl:=Yi e.kids
 have hol:=massOs_len e.ops
 have hat:=Z3Q e d
 rw [Zlp hd0] at hat
 refine ZA3 N e d _ ?_;(try simp only [vcT,forall_eq])
 (simp only [vcS]);(try simp only [vcT]);(try simp only [vcU])
 try (simp only [Tree.eta,Edit.eta,Tree.kind_mk,Tree.words_mk,Tree.kids_mk])
 refine ⟨fun hc=> Z4 rfl (by rw [hat,if_pos (by omega)]),fun hc=> ?_⟩
 rw [if_neg (by omega)] at hat
 refine ⟨fun _=> by simp only [Z5s];omega,fun _=> by simp only [Z5s];omega,fun _=> by unfold InR;omega,fun hf=> Z4 rfl ?_,fun hf=> ⟨fun h1=> ⟨⟨by dsimp only;omega,ro,by dsimp only;omega,by dsimp only;omega⟩,fun _=> ⟨by dsimp only;omega,rn,by dsimp only;omega,by dsimp only;omega⟩,Z4 rfl ?_⟩,fun h1=> ?_⟩⟩
 ·rw [hat,if_pos]
  rcases hf with (hf | hf) | hf
  ·left
   refine ⟨hf.1,fun h=> ?_⟩
   rcases hf.2 with h2 | h2
   ·rw [h.1] at h2;cases h2
   ·rw [h.2] at h2;cases h2
  ·right;left;omega
  ·right;right;omega
 ·rw [hat,if_neg,if_pos h1,Bool.eq_iff_iff]
  ·(simp only [vcS])
   constructor
   ·rintro ⟨⟨⟨h2,h3⟩,h4⟩,h5⟩;exact ⟨⟨h2,h3⟩,h4,h5⟩
   ·rintro ⟨⟨h2,h3⟩,h4,h5⟩;exact ⟨⟨⟨h2,h3⟩,h4⟩,h5⟩
  ·intro h
   rcases h with h | h | h
   ·exact h.1 h1
   ·omega
   ·omega
 ·rw [if_neg,if_neg h1] at hat
  ·refine Ze (ι:=Int × Int) (fun p=> Z8W e d p.1 p.2) (fun p=> 0≤p.2∧p.2≤e.words.length∧Zk p.1 (e.words.drop p.2.toNat)=Zk (-1) e.words) (fun p=> ((e.words.length:Int) - p.2).toNat) (-1,0) rfl ⟨by dsimp only;omega,by dsimp only;omega,by simp⟩ ?_
   rintro ⟨last,i⟩ ⟨h2,h3,h4⟩
   dsimp only at*
   refine ZrV N e d last i _ _ ?_;(try simp only [vcT,forall_eq])
   (simp only [vcS]);(try simp only [vcT]);(try simp only [vcU])
   try (simp only [Tree.eta,Edit.eta,Tree.kind_mk,Tree.words_mk,Tree.kids_mk])
   refine ⟨fun hi=> ?_,fun hi=> ?_⟩
   ·have hmem:=Zm (l:=e.words) (i:=i.toNat) (by omega) (WEdit.mk 0 0 0 0)
    have hrw:=rw' _ hmem
    rw [YU h2 hi (WEdit.mk 0 0 0 0)] at h4
    simp only [Zk] at h4
    generalize e.words.getD i.toNat (WEdit.mk 0 0 0 0)=w at*
    obtain ⟨_,hmk,hwo,hwn⟩:=hrw
    refine ⟨⟨h2,hi⟩,fun _=> ⟨hwo,hmk⟩,fun _=> ⟨hwn,hmk⟩,fun hq=> Z4 rfl ?_,fun hq=> ⟨by unfold InR;omega,(_,i+1),rfl,⟨by dsimp only;omega,by dsimp only;omega,?_⟩,by dsimp only;omega⟩⟩
    ·rw [hat,←h4]
     rcases hq with (hq | hq) | hq
     ·rw [decide_eq_false (by omega)];try rfl
     ·rw [hq];simp
     ·rw [hq];simp
    ·dsimp only
     rw [←h4,decide_eq_true (by omega),hq.1.2,hq.2];try rfl
   ·have hw:Zk (-1) e.words=true:=by
     rw [←h4,List.drop_of_length_le (by omega)];try rfl
    rw [hw,Bool.true_and] at hat
    refine Ze (ι:=Int × Int) (fun p=> Z8V e d p.1 p.2) (fun p=> 0≤p.2∧p.2≤e.kids.length∧Zr p.1 (e.kids.drop p.2.toNat) (d - 1)=Zr (-1) e.kids (d - 1)) (fun p=> ((e.kids.length:Int) - p.2).toNat) (-1,0) rfl ⟨by dsimp only;omega,by dsimp only;omega,by simp⟩ ?_
    rintro ⟨last,i⟩ ⟨h2,h3,h4⟩
    dsimp only at*
    refine ZrU N e d last i _ _ ?_;(try simp only [vcT,forall_eq])
    (simp only [vcS]);(try simp only [vcT]);(try simp only [vcU])
    try (simp only [Tree.eta,Edit.eta,Tree.kind_mk,Tree.words_mk,Tree.kids_mk])
    refine ⟨fun hi=> ?_,fun hi=> ?_⟩
    ·have hmem:=Zm (l:=e.kids) (i:=i.toNat) (by omega) (KidOf.mk 0 Edit.nil)
     have hrw:=YB rk hmem
     have hmm:=JX hmem
     rw [YU h2 hi (KidOf.mk 0 Edit.nil)] at h4
     simp only [Zr,Z3e] at h4
     generalize e.kids.getD i.toNat (KidOf.mk 0 Edit.nil)=w at*
     refine ⟨⟨h2,hi⟩,fun _=> by unfold InR;omega,fun _=> ⟨⟨by dsimp only;omega,hrw.2⟩,by dsimp only;omega,by dsimp only;omega⟩,fun _=> by simp only [Zfz];omega,fun hq=> Z4 rfl ?_,fun hq=> ⟨by unfold InR;omega,(_,i+1),rfl,⟨by dsimp only;omega,by dsimp only;omega,?_⟩,by dsimp only;omega⟩⟩
     ·rw [hat,←h4]
      rcases hq with hq | hq
      ·rw [decide_eq_false (by omega)];try rfl
      ·rw [hq];simp
     ·dsimp only
      rw [←h4,decide_eq_true (by omega),hq.2];try rfl
    ·have hw:Zr (-1) e.kids (d - 1)=true:=by
      rw [←h4,List.drop_of_length_le (by omega)];try rfl
     rw [hw,Bool.true_and] at hat
     refine ⟨fun hq=> Z4 rfl (by rw [hat,decide_eq_false (by omega)];rfl),fun hq=> ?_⟩
     rw [decide_eq_true (by omega),Bool.true_and] at hat
     refine Ze (ι:=Int) (fun p=> Z8U e d p) (fun p=> 0≤p∧p≤e.ops.length∧Zt e.list (e.ops.drop p.toNat) (d - 1)=Zt e.list e.ops (d - 1)) (fun p=> ((e.ops.length:Int) - p).toNat) 0 rfl ⟨by omega,by omega,by simp⟩ ?_
     rintro j ⟨h5,h6,h7⟩
     refine ZrT N e d j _ _ ?_;(try simp only [vcT,forall_eq])
     (simp only [vcS]);(try simp only [vcT]);(try simp only [vcU])
     try (simp only [Tree.eta,Edit.eta,Tree.kind_mk,Tree.words_mk,Tree.kids_mk])
     refine ⟨fun hj=> ?_,fun hj=> ?_⟩
     ·have hmem:=Zm (l:=e.ops) (i:=j.toNat) (by omega) Op.nil
      have hro:=JE ros hmem
      have hmm:=Yq hmem
      rw [YU h5 hj Op.nil] at h7
      simp only [Zt] at h7
      generalize e.ops.getD j.toNat Op.nil=o at*
      refine ⟨⟨h5,hj⟩,by unfold InR;omega,⟨⟨by show Zx o≤20000000000;omega,hro,il⟩,by dsimp only;omega,by dsimp only;omega⟩,?_,fun hq=> Z4 rfl ?_,fun hq=> ⟨by unfold InR;omega,j+1,rfl,⟨by omega,by omega,?_⟩,by omega⟩⟩
      ·show 2*Zx o+1 < N
       omega
      ·have hq':Za e.list o (d - 1)=false:=hq
       rw [hat,←h7,hq'];try rfl
      ·have hq':Za e.list o (d - 1)=true:=hq
       rw [←h7,hq'];try rfl
     ·have hw:Zt e.list e.ops (d - 1)=true:=by
       rw [←h7,List.drop_of_length_le (by omega)];try rfl
      rw [hw,Bool.true_and] at hat
      refine ⟨⟨hm,fun o ho=> Z26 (rightOs_mem hw ho)⟩,Z4 rfl ?_⟩
      rw [hat,Bool.eq_iff_iff]
      (simp only [vcS])
  ·intro h
   rcases h with h | h | h
   ·rcases hf.1.1 with h2 | h2
    ·exact h1 h2
    ·exact h.2 h2
   ·omega
   ·omega
theorem Zdz{l:List Tree}{i:Int}(h0:0≤i)(h:i < l.length):List.drop i.toNat (l.take (i+1).toNat)=[l.getD i.toNat Tree.nil]:=by
 rw [List.drop_take,show (i+1).toNat - i.toNat=1 by omega,YU h0 h Tree.nil]
 try rfl
theorem b64:Zzp:=by
 intro N list o d _ hp hN
 simp only [Zec,ZmQ] at hp hN
 obtain ⟨⟨hm,hr,hil⟩,hd0,hd1⟩:=hp
 obtain ⟨ik,inn,rl,re⟩:=Z04 hr
 rw [ZW] at hm hN
 have hll:=ZD o.l
 have hep:=Z40 o.e
 have hat:=Jt list o d
 rw [Zlp hd0,Z9a] at hat
 refine ZzP N list o d _ ?_;(try simp only [vcT,forall_eq])
 (simp only [vcS]);(try simp only [vcT]);(try simp only [vcU])
 try (simp only [Tree.eta,Edit.eta,Tree.kind_mk,Tree.words_mk,Tree.kids_mk])
 refine ⟨fun h0=> ⟨fun _=> by simp only [Z7c];omega,Z4 rfl ?_⟩,fun h0=> ⟨fun hc=> Z4 rfl ?_,fun hc=> ⟨fun h3=> ?_,fun h3=> ⟨fun _=> ⟨⟨by dsimp only;omega,re⟩,hd0,hd1⟩,fun _=> by simp only [Zfz];omega,fun hq=> Z4 rfl ?_,fun hq=> Z4 rfl ?_⟩⟩⟩⟩
 ·rw [hat,if_pos h0,Bool.eq_iff_iff]
  (simp only [vcS])
  constructor
  ·rintro ⟨h1,h2⟩;exact ⟨by omega,h2⟩
  ·rintro ⟨h1,h2⟩;exact ⟨by omega,h2⟩
 ·rw [hat,if_neg h0,if_pos (by omega)]
 ·rw [if_neg h0,if_neg (by omega),if_pos h3] at hat
  refine Ze (ι:=Int) (fun p=> Z8O list o d p) (fun p=> 0≤p∧p≤o.l.length∧Jr list (o.l.drop p.toNat)=Jr list o.l) (fun p=> ((o.l.length:Int) - p).toNat) 0 rfl ⟨by omega,by omega,by simp⟩ ?_
  rintro i ⟨h4,h5,h6⟩
  refine ZrL N list o d i _ _ ?_;(try simp only [vcT,forall_eq])
  (simp only [vcS]);(try simp only [vcT]);(try simp only [vcU])
  try (simp only [Tree.eta,Edit.eta,Tree.kind_mk,Tree.words_mk,Tree.kids_mk])
  refine ⟨fun hi=> ?_,fun hi=> ?_⟩
  ·have hmem:=Zm (l:=o.l) (i:=i.toNat) (by omega) Tree.nil
   have hrt:=YX rl hmem
   have hmt:=YW hmem
   rw [Zdz h4 hi]
   rw [YU h4 hi Tree.nil] at h6
   simp only [Jr] at h6
   generalize o.l.getD i.toNat Tree.nil=t at*
   refine ⟨by unfold InR;omega,by omega,⟨by simp only [Zq,Zg,List.length_nil];omega,⟨hil,fun x hx=> (by cases hx),hrt,trivial⟩,by dsimp only;omega,by dsimp only;omega⟩,fun hq=> Z4 rfl ?_,fun hq=> ⟨by unfold InR;omega,i+1,rfl,⟨by omega,by omega,?_⟩,by omega⟩⟩
   ·rw [hat,←h6,hq];try rfl
   ·rw [←h6,hq];try rfl
  ·have hw:Jr list o.l=true:=by
    rw [←h6,List.drop_of_length_le (by omega)];try rfl
   rw [hw,Bool.true_and] at hat
   refine ⟨fun _=> by simp only [Z7c];omega,Z4 rfl ?_⟩
   rw [hat,Bool.eq_iff_iff]
   (simp only [vcS])
   simp only [Int.natCast_pos]
 ·rw [hat,if_neg h0,if_neg (by omega),if_neg h3]
  rcases hq with hq | hq
  ·have:¬(o.l.length=0∧o.e.kind≠0∧7 < list):=by omega
   rw [decide_eq_false this];try rfl
  ·rw [hq];simp
 ·rw [hat,if_neg h0,if_neg (by omega),if_neg h3,hq.2]
  have:o.l.length=0∧o.e.kind≠0∧7 < list:=by omega
  rw [decide_eq_true this,Bool.eq_iff_iff]
  (simp only [vcS])
  simp only [true_and,Bool.and_true,decide_eq_true_eq,and_assoc,or_assoc]
theorem Zwg:Contract Try.prog cfg 23 ZbR∧Contract Try.prog cfg 64 Zot:=ZmZ c62 c63 ZwI c37 c65 b23 b64
theorem Zer(e:Edit):Z0O e=(decide (Z0d e.ops 0≤2000∧Z0c e.ops 0≤2000) && Z1T e.kids && Z3j e.ops):=by
 obtain ⟨k,o,nw,w,ks,l,os⟩:=e;rfl
theorem ZaA(k:Kid):ZhC k=Z0O k.e:=by cases k;rfl
theorem ZcU(o:Op):ZkT o=Z0O o.e:=by cases o;rfl
theorem Z9h{e:Edit}{d:Int}(h:Z0 e d=true):(∀ k∈e.kids,Z0 k.e (d - 1)=true∧k.e.kind≠0)∧∀ o∈e.ops,Za e.list o (d - 1)=true:=by
 rw [Z3Q] at h
 split at h
 ·cases h
 ·split at h
  ·cases h
  ·rename_i h1 h2
   split at h
   ·rename_i h3
    have hk:e.kids=[]:=List.eq_nil_of_length_eq_zero (by omega)
    have ho:e.ops=[]:=List.eq_nil_of_length_eq_zero (by omega)
    rw [hk,ho]
    exact ⟨fun k hk=> (by cases hk),fun o ho=> (by cases ho)⟩
   ·simp only [Bool.and_eq_true] at h
    exact ⟨fun k hk=> Za9 h.1.1.1.2 hk,fun o ho=> rightOs_mem h.1.2 ho⟩
theorem ZgM{e:Edit}(h:Z0V e=true):e.kind=0∧ZT e.old=true∧ZT e.new=true∧e.words=[]∧e.kids=[]∧e.ops=[]∧e.list=0:=by
 simp only [Z0V,Bool.and_eq_true,decide_eq_true_eq] at h
 obtain ⟨⟨⟨h1,h2⟩,h3⟩,h4,h5,h6,h7⟩:=h
 exact ⟨h1,h2,h3,List.eq_nil_of_length_eq_zero h4,List.eq_nil_of_length_eq_zero h5,List.eq_nil_of_length_eq_zero h6,h7⟩
theorem Za2{e:Edit}(h:Z0V e=true)(d:Int)(hd:d≠0):Z0 e d=true:=by
 obtain ⟨h1,h2,h3,h4,h5,h6,h7⟩:=ZgM h
 rw [Z3Q,h1,h2,h3,h4,h5,h6,h7,if_neg (by omega),if_neg (by simp),if_neg (by omega)]
 simp [Zk,Zr,Zt,Z0d,Z0c]
theorem Zds{list:Int}{o:Op}{d:Int}(h:Za list o d=true):∃ d',Z0 o.e d'=true:=by
 rw [Jt] at h
 split at h
 ·simp only [Bool.and_eq_true] at h
  exact ⟨1,Za2 h.2 1 (by omega)⟩
 ·split at h
  ·cases h
  ·split at h
   ·simp only [Bool.and_eq_true] at h
    exact ⟨1,Za2 h.2 1 (by omega)⟩
   ·simp only [Bool.and_eq_true] at h
    exact ⟨d,h.1.2⟩
theorem c55:Contract Try.prog cfg 55 ZbK:=by
 refine ZvA c65 ?_
 intro N e _ hp hN
 simp only [Zcj,Zhq] at hp hN
 obtain ⟨⟨hm,hr⟩,dd,hrt⟩:=hp
 obtain ⟨ik,ro,rn,rw',il,rk,ros⟩:=Z4A hr
 have hme:=Yr e
 have hkl:=Yi e.kids
 have hol:=massOs_len e.ops
 have hat:=Zer e
 obtain ⟨hrk,hro⟩:=Z9h hrt
 refine ZzU N e _ ?_;(try simp only [vcT,forall_eq])
 (simp only [vcS]);(try simp only [vcT]);(try simp only [vcU])
 try (simp only [Tree.eta,Edit.eta,Tree.kind_mk,Tree.words_mk,Tree.kids_mk])
 refine ⟨⟨hm,fun o ho=> Z26 (hro o ho)⟩,fun hq=> Z4 rfl (by rw [hat,decide_eq_false (by omega)];rfl),fun hq=> ?_⟩
 rw [decide_eq_true (by omega),Bool.true_and] at hat
 refine Ze (ι:=Int) (fun p=> Z8Q e p) (fun p=> 0≤p∧p≤e.kids.length∧Z1T (e.kids.drop p.toNat)=Z1T e.kids) (fun p=> ((e.kids.length:Int) - p).toNat) 0 rfl ⟨by omega,by omega,by simp⟩ ?_
 rintro i ⟨h4,h5,h6⟩
 refine ZrO N e i _ _ ?_;(try simp only [vcT,forall_eq])
 (simp only [vcS]);(try simp only [vcT]);(try simp only [vcU])
 try (simp only [Tree.eta,Edit.eta,Tree.kind_mk,Tree.words_mk,Tree.kids_mk])
 refine ⟨fun hi=> ?_,fun hi=> ?_⟩
 ·have hmem:=Zm (l:=e.kids) (i:=i.toNat) (by omega) (KidOf.mk 0 Edit.nil)
  have hrr:=YB rk hmem
  have hmm:=JX hmem
  have hri:=hrk _ hmem
  rw [YU h4 hi (KidOf.mk 0 Edit.nil)] at h6
  simp only [Z1T,ZaA] at h6
  generalize e.kids.getD i.toNat (KidOf.mk 0 Edit.nil)=k at*
  refine ⟨⟨h4,hi⟩,⟨⟨by dsimp only;omega,hrr.2⟩,_,hri.1⟩,by simp only [Zhq];omega,fun hq=> Z4 rfl (by rw [hat,←h6,hq];rfl),fun hq=> ⟨by unfold InR;omega,i+1,rfl,⟨by omega,by omega,by rw [←h6,hq];rfl⟩,by omega⟩⟩
 ·have hw:Z1T e.kids=true:=by
   rw [←h6,List.drop_of_length_le (by omega)];try rfl
  rw [hw,Bool.true_and] at hat
  refine Ze (ι:=Int) (fun p=> Z8P e p) (fun p=> 0≤p∧p≤e.ops.length∧Z3j (e.ops.drop p.toNat)=Z3j e.ops) (fun p=> ((e.ops.length:Int) - p).toNat) 0 rfl ⟨by omega,by omega,by simp⟩ ?_
  rintro j ⟨g4,g5,g6⟩
  refine ZrN N e j _ _ ?_;(try simp only [vcT,forall_eq])
  (simp only [vcS]);(try simp only [vcT]);(try simp only [vcU])
  try (simp only [Tree.eta,Edit.eta,Tree.kind_mk,Tree.words_mk,Tree.kids_mk])
  refine ⟨fun hi=> ?_,fun hi=> ?_⟩
  ·have hmem:=Zm (l:=e.ops) (i:=j.toNat) (by omega) Op.nil
   have hrr:=Z04 (JE ros hmem)
   have hmm:=Yq hmem
   have hri:=Zds (hro _ hmem)
   rw [ZW] at hmm
   rw [YU g4 hi Op.nil] at g6
   simp only [Z3j,ZcU] at g6
   generalize e.ops.getD j.toNat Op.nil=o at*
   refine ⟨⟨g4,hi⟩,⟨⟨by dsimp only;omega,hrr.2.2.2⟩,hri⟩,by simp only [Zhq];omega,fun hq=> Z4 rfl (by rw [hat,←g6,hq];rfl),fun hq=> ⟨by unfold InR;omega,j+1,rfl,⟨by omega,by omega,by rw [←g6,hq];rfl⟩,by omega⟩⟩
  ·refine Z4 rfl ?_
   rw [hat,←g6,List.drop_of_length_le (by omega)];try rfl
theorem c15:Contract Try.prog cfg 15 ZbT:=by
 refine ZvK c54 Zwg.1 c55 ?_
 intro e _ hp
 simp only [Zhc] at hp
 refine ZA6 e _ ?_;(try simp only [vcT,forall_eq])
 try (simp only [Tree.eta,Edit.eta,Tree.kind_mk,Tree.words_mk,Tree.kids_mk])
 refine ⟨hp.1,fun hf=> ?_,fun hf=> ?_,Z4 rfl ?_⟩
 ·have:=Z9J (by simpa using hf)
  exact ⟨⟨by dsimp only;omega,hp.2⟩,by dsimp only;omega,by dsimp only;omega⟩
 ·simp only [Zjt,decide_eq_true_eq] at hf
  have:=Z9J hf.1
  exact ⟨⟨by dsimp only;omega,hp.2⟩,64,hf.2⟩
 ·show _=Z0u e
  simp only [Z0u]
  rw [Bool.eq_iff_iff]
  (simp only [vcS])
end Go.AM.Ytpjenobkibfpcaa
namespace Go.AM
noncomputable def eqX{α:Type}(a b:α):Bool:=@decide (a=b) (Classical.propDecidable _)
theorem Z1W{α:Type}{a b:α}:eqX a b=true↔a=b:=by unfold eqX;exact @decide_eq_true_iff _ (Classical.propDecidable _)
@[simp] theorem ZyQ {α:Type} (a:α):eqX a a=true:=Z1W.2 rfl
def ZP(o:Op)(n:Int):Op:=if Z2 o≤n then o else if o.kind=0 then ⟨o.kind,n,o.l,o.e⟩ else ⟨o.kind,o.n,o.l.take n.toNat,o.e⟩
def Z03(o:Op)(n:Int):Op:=if o.kind=0 then ⟨o.kind,o.n - n,o.l,o.e⟩ else ⟨o.kind,o.n,o.l.drop n.toNat,o.e⟩
def Y2(l:List Op)(n:Int):List Op:=if Z2 (l.getD 0 Op.nil)≤n then l.drop 1 else Z03 (l.getD 0 Op.nil) n ::l.drop 1
def sgl(a:Int)(l:List Op):Bool:=decide (l.length≠0∧(l.getD 0 Op.nil).kind=a)
def YI(o:Op):Prop:=
 (o.kind=0∧o.l=[]∧(1≤o.n∧o.n≤1048576)∧o.e=Edit.nil)∨((o.kind=1∨o.kind=2)∧o.n=0∧o.l≠[]∧o.e=Edit.nil)∨(o.kind=3∧o.n=0∧o.l=[])
def Z9x(l:List Op):Prop:=(∀ o∈l,YI o)∧Zs l≤20000000000
theorem J7(l:List Op)(n:Int)(h:l.length≠0):(Y2 l n).length≤l.length:=by
 unfold Y2
 split <;> simp <;> omega
theorem J6(l:List Op)(n:Int)(h:l.length≠0)(hn:Z2 (l.getD 0 Op.nil)≤n):(Y2 l n).length < l.length:=by
 unfold Y2
 rw [if_pos hn]
 simp;omega
def Y4(ap aq:Int)(p q:List Op)(out:List Piece):List Piece × Bool × List Op × List Op:=
 if h:sgl ap p=true then Y4 ap aq (p.drop 1) q (out++[⟨1,p.getD 0 Op.nil,Op.nil⟩])
 else if h2:sgl aq q=true then Y4 ap aq p (q.drop 1) (out++[⟨2,Op.nil,q.getD 0 Op.nil⟩])
 else if h3:p.length=0∨q.length=0 then
  if decide (p.length=0)=decide (q.length=0) then (out,true,p,q) else ([],false,p,q)
 else
  Y4 ap aq (Y2 p (min (Z2 (p.getD 0 Op.nil)) (Z2 (q.getD 0 Op.nil)))) (Y2 q (min (Z2 (p.getD 0 Op.nil)) (Z2 (q.getD 0 Op.nil))))
   (out++[⟨0,ZP (p.getD 0 Op.nil) (min (Z2 (p.getD 0 Op.nil)) (Z2 (q.getD 0 Op.nil))),ZP (q.getD 0 Op.nil) (min (Z2 (p.getD 0 Op.nil)) (Z2 (q.getD 0 Op.nil)))⟩])
termination_by p.length+q.length
decreasing_by
 ·have:=(of_decide_eq_true h).1;rw [List.length_drop];omega
 ·have:=(of_decide_eq_true h2).1;rw [List.length_drop];omega
 ·rcases Int.le_total (Z2 (p.getD 0 Op.nil)) (Z2 (q.getD 0 Op.nil)) with hm | hm
  ·have a:=J6 p _ (by omega) (Int.le_refl (Z2 (p.getD 0 Op.nil)))
   have b:=J7 q (Z2 (p.getD 0 Op.nil)) (by omega)
   rw [Int.min_eq_left hm];omega
  ·have a:=J6 q _ (by omega) (Int.le_refl (Z2 (q.getD 0 Op.nil)))
   have b:=J7 p (Z2 (q.getD 0 Op.nil)) (by omega)
   rw [Int.min_eq_right hm];omega
def ZeS(i alone:Int)(o:Op):List AUnit:=
 (if o.kind=0 then List.replicate o.n.toNat ⟨i,0,Tree.nil,Edit.nil,false⟩ else [])
  ++(o.l.map (fun t=> ⟨i,o.kind,t,Edit.nil,decide (o.kind=alone)⟩)
  ++(if o.kind=3 then [⟨i,3,Tree.nil,o.e,false⟩] else []))
def Z3D:List Op→Int
 | []=> 0
 | o ::r=> Z2 o+Z3D r
def opU(u:AUnit):Op:=if u.kind=0 then ⟨0,1,[],Edit.nil⟩ else if u.kind=3 then ⟨3,0,[],u.e⟩ else ⟨u.kind,0,[u.t],Edit.nil⟩
end Go.AM
namespace Go.AM.Ytpjenobkibfpcaa
open Go.AM Go.Proofs
noncomputable section
def Zlw:ArgL (Op × Unit):=(.cons (aEl .op) .nil)
def Z5u(a:Op × Unit):Prop:=Zx a.1≤20000000000∧0≤OpOf.n a.1∧OpOf.n a.1≤1048576
def ZoH(a:Op × Unit):V U:= .c (ci (Z2 a.1))
def Z34:Fs U:=fs Zlw (fun a=> [Z5u a]) ZoH
def Zgb:ArgM ((List Op × Int × Unit) × Unit):=(.obj 0 (.cons (cSl .op) (.cons (Zi3 .i64) .nil)) .nil)
def Z3u(a:(List Op × Int × Unit) × Unit):Prop:=(a.1.1).length≤120000000000
def ZoG(a:(List Op × Int × Unit) × Unit):V U:= .c (.bool (decide ((a.1.1).length=0)))
def Zk9(a:(List Op × Int × Unit) × Unit):List (List (C U)):=[[sU .op a.1.1 .unk,ci a.1.2.1]]
def Z33:Fs U:=fsX Zgb (fun a=> [Z3u a]) ZoG Zk9
def Zgd:ArgM ((List Op × Int × Unit) × Unit):=(.obj 0 (.cons (cSl .op) (.cons (Zi3 .i64) .nil)) .nil)
def Z9k(a:(List Op × Int × Unit) × Unit):Prop:=(a.1.1).length≤120000000000
def ZoI(a:(List Op × Int × Unit) × Unit):V U:= .c (.bool (sgl a.1.2.1 a.1.1))
def Zka(a:(List Op × Int × Unit) × Unit):List (List (C U)):=[[sU .op a.1.1 .unk,ci a.1.2.1]]
def Z7I:Fs U:=fsX Zgd (fun a=> [Z9k a]) ZoI Zka
def Zgc:ArgM ((List Op × Int × Unit) × Int × Unit):=(.obj 0 (.cons (cSl .op) (.cons (Zi3 .i64) .nil)) (.cons (J3 .i64) .nil))
def Z7a(a:(List Op × Int × Unit) × Int × Unit):Prop:=Z9x a.1.1∧(a.1.1).length≠0∧1≤a.2.1∧a.2.1≤120000000000
def Zcb(a:(List Op × Int × Unit) × Int × Unit):V U:= .agg (enc .op (ZP ((a.1.1).getD 0 Op.nil) a.2.1))
def Z82(a:(List Op × Int × Unit) × Int × Unit):List (List (C U)):=[[sU .op (Y2 a.1.1 a.2.1) .unk,ci a.1.2.1]]
def Z7H:Fs U:=fsX Zgc (fun a=> [Z7a a]) Zcb Z82
def Zgg:ArgM ((List Op × Int × Unit) × (List Op × Int × Unit) × Unit):=(.obj 0 (.cons (cSl .op) (.cons (Zi3 .i64) .nil)) (.obj 1 (.cons (cSl .op) (.cons (Zi3 .i64) .nil)) .nil))
def Zfr(a:(List Op × Int × Unit) × (List Op × Int × Unit) × Unit):Prop:=Z9x a.1.1∧Z9x a.2.1.1
def Zfg(a:(List Op × Int × Unit) × (List Op × Int × Unit) × Unit):V U:= .tup [(false,[sU .piece ((Y4 a.1.2.1 a.2.1.2.1 a.1.1 a.2.1.1 []).1) .unk]),(false,[.bool ((Y4 a.1.2.1 a.2.1.2.1 a.1.1 a.2.1.1 []).2.1)])]
def Zb8(a:(List Op × Int × Unit) × (List Op × Int × Unit) × Unit):List (List (C U)):=[[sU .op ((Y4 a.1.2.1 a.2.1.2.1 a.1.1 a.2.1.1 []).2.2.1) .unk,ci a.1.2.1],[sU .op ((Y4 a.1.2.1 a.2.1.2.1 a.1.1 a.2.1.1 []).2.2.2) .unk,ci a.2.1.2.1]]
def Z60:Fs U:=fsX Zgg (fun a=> [Zfr a]) Zfg Zb8
def ZlH:ArgL (List Op × List Op × Unit):=(.cons (aSl .op) (.cons (aSl .op) .nil))
def ZiO(a:List Op × List Op × Unit):Prop:=Z9x a.1∧Z9x a.2.1
def ZoQ(a:List Op × List Op × Unit):V U:= .tup [(false,[sU .piece ((Y4 1 2 a.1 a.2.1 []).1) .unk]),(false,[.bool ((Y4 1 2 a.1 a.2.1 []).2.1)])]
def Z1O:Fs U:=fs ZlH (fun a=> [ZiO a]) ZoQ
def ZkW:List (FuncId × Fs U):=[]
def ZpH:Zh U:=lvl [([1],[1]),([1,5],[1]),([2],[]),([2],[])]
abbrev ZAj(p:List Nat):=AW (Z1 ZkW) Try.f190 ZpH p
theorem ZxT(o:Op)(Q:QT)(h:(((o.kind==3)=true→(Q .ret (L2 [(2,.c (ci 1))] [])))∧((o.kind==3)=false→(InR (o.n+(o.l.length:Int)))∧(Q .ret (L2 [(2,.c (ci (o.n+(o.l.length:Int))))] []))))):
  ZAj [] (L2 [(0,.agg (enc .op o))] []) Q:=
 Eq.mpr (by kernel_rfl) h
def Ztt(o:Op):Prop:=AW (Z1 ZkW) Try.f190 ZpH [] (Zn (Zlw.can (o,())) []) (EQ Try.f190 (ZoH (o,())) [])
theorem Zsh(hb:∀ (o:Op) (_:Unit),Z5u (o,())→Ztt o):CT 190 Z34:=
 Z6 (l:=[]) Zo rfl trivial ZpH Try.func190 rfl rfl 1 (fun _=> rfl) (by decide) (fun ⟨o,_⟩=> hb o ())
def ZkV:List (FuncId × Fs U):=[]
def ZpG:Zh U:=fun i=> match i with
 | 0=> ([(0,[])],[(.x 0,[])])
 | 1=> ([(2,[])],[(.x 0,[])])
 | _=> ([],[])
abbrev ZAi(p:List Nat):=AW (Z1 ZkV) Try.f191 ZpG p
theorem ZxS(l:List Op)(alone:Int)(Q:QT)(h:(Q .ret (L2 [(2,.c (.bool (((l.length:Int):Int)==0)))] [(.x 0,[sU .op l .unk,ci alone])]))):
  ZAi [] (L2 [(0,.ptr (.x 0) 0)] [(.x 0,[sU .op l .unk,ci alone])]) Q:=
 Eq.mpr (by kernel_rfl) h
def Zts(l:List Op)(alone:Int):Prop:=AW (Z1 ZkV) Try.f191 ZpG [] (Zn (Zgb.can ((l,alone,()),())) (Zgb.canX ((l,alone,()),()))) (EQ Try.f191 (ZoG ((l,alone,()),())) (Zk9 ((l,alone,()),())))
theorem Zsg(hb:∀ (l:List Op) (alone:Int) (_:Unit),Z3u ((l,alone,()),())→Zts l alone):CT 191 Z33:=
 J1 (l:=[]) Zo rfl trivial ZpG Try.func191 rfl rfl 1 (fun _=> rfl) (by decide) (fun ⟨⟨l,alone,_⟩,_⟩=> hb l alone ())
def ZkY:List (FuncId × Fs U):=[(191,Z33)]
def ZpJ:Zh U:=fun i=> match i with
 | 0=> ([(0,[])],[(.x 0,[])])
 | 1=> ([(2,[])],[(.x 0,[])])
 | _=> ([],[])
abbrev ZAl(p:List Nat):=AW (Z1 ZkY) Try.f188 ZpJ p
theorem ZxV(l:List Op)(alone:Int)(Q:QT)(h:let z0:= !(decide (l.length=0));((Z3u ((l,alone,()),()))∧(Tr (z0=true))∧(Tr (z0=true))∧(Tr (z0=true))∧(Tr (z0=true))∧(z0=true→(0:Int)≤0∧0 < (l.length:Int))∧(Tr (z0=true))∧(Tr (z0=true))∧(Tr (z0=true))∧(Tr (z0=true))∧(Tr (z0=true))∧(Tr (z0=true))∧(Tr (z0=true))∧(Tr (z0=true))∧(Q .ret (L2 [(2,.c (.bool (bif z0 then (((OpOf.kind (List.getD l (Int.toNat 0) Op.nil)):Int)==alone) else false)))] [(.x 0,[sU .op l .unk,ci alone])])))):
  ZAl [] (L2 [(0,.ptr (.x 0) 0)] [(.x 0,[sU .op l .unk,ci alone])]) Q:=
 Eq.mpr (by kernel_rfl) h
def Ztv(l:List Op)(alone:Int):Prop:=AW (Z1 ZkY) Try.f188 ZpJ [] (Zn (Zgd.can ((l,alone,()),())) (Zgd.canX ((l,alone,()),()))) (EQ Try.f188 (ZoI ((l,alone,()),())) (Zka ((l,alone,()),())))
theorem Zsj(Zno:CT 191 Z33)(hb:∀ (l:List Op) (alone:Int) (_:Unit),Z9k ((l,alone,()),())→Ztv l alone):CT 188 Z7I:=
 J1 (l:=[(191,Z33)]) Zo rfl (⟨Zno,trivial⟩) ZpJ Try.func188 rfl rfl 1 (fun _=> rfl) (by decide) (fun ⟨⟨l,alone,_⟩,_⟩=> hb l alone ())
def ZkX:List (FuncId × Fs U):=[(190,Z34)]
def ZpI:Zh U:=fun i=> match i with
 | 0=> ([(0,[]),(1,[]),(4,[])],[(.loc 4,[]),(.x 0,[])])
 | 1=> ([(0,[]),(1,[]),(4,[]),(5,[])],[(.loc 4,[]),(.loc 5,[]),(.x 0,[])])
 | 2=> ([(0,[]),(1,[]),(4,[]),(5,[]),(17,[])],[(.loc 4,[]),(.loc 5,[]),(.x 0,[])])
 | 3=> ([(4,[]),(5,[])],[(.loc 4,[]),(.loc 5,[]),(.x 0,[])])
 | 4=> ([(4,[])],[(.loc 4,[]),(.x 0,[])])
 | 5=> ([(0,[]),(1,[]),(4,[]),(5,[]),(6,[]),(7,[])],[(.loc 4,[]),(.loc 5,[]),(.loc 6,[]),(.loc 7,[]),(.x 0,[])])
 | 6=> ([(0,[]),(1,[]),(4,[]),(5,[]),(6,[]),(7,[]),(31,[])],[(.loc 4,[]),(.loc 5,[]),(.loc 6,[]),(.loc 7,[]),(.x 0,[])])
 | 7=> ([(0,[]),(4,[]),(6,[]),(7,[])],[(.loc 4,[]),(.loc 6,[]),(.loc 7,[]),(.x 0,[])])
 | 8=> ([(0,[]),(4,[]),(6,[]),(7,[])],[(.loc 4,[]),(.loc 6,[]),(.loc 7,[]),(.x 0,[])])
 | 9=> ([(4,[]),(6,[])],[(.loc 4,[]),(.loc 6,[]),(.x 0,[])])
 | 10=> ([(4,[])],[(.loc 4,[]),(.x 0,[])])
 | _=> ([],[])
abbrev ZAk(p:List Nat):=AW (Z1 ZkX) Try.f189 ZpI p
theorem ZxU(l:List Op)(alone n:Int)(Q:QT)(h:∀ y_1,y_1=(List.getD l (Int.toNat 0) Op.nil)→∀ y_2,y_2=y_1→∀ y_3,y_3=(y_1.e)→let z1:=decide (((Z2 y_2):Int)≤n);let z0:=List.drop (Int.toNat 1) l;(((0:Int)≤0∧0 < (l.length:Int))∧((Z5u (y_2,()))∧((z1=true→((0:Int)≤1∧1≤(l.length:Int))∧(Q .ret (L2 [(4,.ptr (.loc 4) 0)] [(.loc 4,(enc .op y_1)),(.x 0,[sU .op z0 .unk,ci alone])])))∧(z1=false→(((y_1.kind==0)=true→(InR (y_1.n - n))∧(((0:Int)≤1∧1≤(l.length:Int))∧((([(OpOf.mk y_1.kind (y_1.n - n) y_1.l y_3)]).length+z0.length)*240≤140737488355328)∧(Q .ret (L2 [(4,.ptr (.loc 4) 0)] [(.loc 4,([ci y_1.kind,ci n,sU .tree y_1.l .unk]++enc .edit y_1.e)),(.x 0,[sU .op (([(OpOf.mk y_1.kind (y_1.n - n) y_1.l y_3)])++z0) (.own (.x 0 0)),ci alone])]))))∧((y_1.kind==0)=false→((0:Int)≤n∧n≤(y_1.l.length:Int))∧(n=n)∧((0:Int)≤n∧n≤(y_1.l.length:Int))∧(((0:Int)≤1∧1≤(l.length:Int))∧((([(OpOf.mk y_1.kind y_1.n (List.drop n.toNat y_1.l) y_3)]).length+z0.length)*240≤140737488355328)∧(Q .ret (L2 [(4,.ptr (.loc 4) 0)] [(.loc 4,([ci y_1.kind,ci y_1.n,sU .tree (List.take n.toNat y_1.l) .full]++enc .edit y_1.e)),(.x 0,[sU .op (([(OpOf.mk y_1.kind y_1.n (List.drop n.toNat y_1.l) y_3)])++z0) (.own (.x 0 0)),ci alone])])))))))))):
  ZAk [] (L2 [(0,.ptr (.x 0) 0),(1,.c (ci n))] [(.x 0,[sU .op l .unk,ci alone])]) Q:=
 Eq.mpr (by kernel_rfl) (h _ rfl _ (Jh _) _ (Zf _))
def Ztu(l:List Op)(alone n:Int):Prop:=AW (Z1 ZkX) Try.f189 ZpI [] (Zn (Zgc.can ((l,alone,()),n,())) (Zgc.canX ((l,alone,()),n,()))) (EQ Try.f189 (Zcb ((l,alone,()),n,())) (Z82 ((l,alone,()),n,())))
theorem Zsi(Znp:CT 190 Z34)(hb:∀ (l:List Op) (alone:Int) (n:Int) (_:Unit),Z7a ((l,alone,()),n,())→Ztu l alone n):CT 189 Z7H:=
 J1 (l:=[(190,Z34)]) Zo rfl (⟨Znp,trivial⟩) ZpI Try.func189 rfl rfl 2 (fun _=> rfl) (by decide) (fun ⟨⟨l,alone,_⟩,n,_⟩=> hb l alone n ())
def Zl3:List (FuncId × Fs U):=[(188,Z7I),(189,Z7H),(190,Z34),(191,Z33)]
def ZpO:Zh U:=fun i=> match i with
 | 0=> ([(0,[]),(1,[])],[(.x 0,[]),(.x 1,[])])
 | 1=> ([(0,[]),(1,[]),(6,[.own .piece])],[(.x 0,[]),(.x 1,[])])
 | 2=> ([(0,[]),(1,[]),(6,[]),(7,[])],[(.x 0,[]),(.x 1,[])])
 | 3=> ([(0,[]),(1,[]),(6,[.own .piece])],[(.x 0,[]),(.x 1,[])])
 | 4=> ([(0,[]),(1,[]),(6,[]),(33,[])],[(.x 0,[]),(.x 1,[])])
 | 5=> ([(0,[]),(1,[]),(6,[.own .piece])],[(.x 0,[]),(.x 1,[])])
 | 6=> ([(0,[]),(1,[]),(6,[]),(49,[])],[(.x 0,[]),(.x 1,[])])
 | 7=> ([(0,[]),(1,[]),(6,[.own .piece])],[(.x 0,[]),(.x 1,[])])
 | 8=> ([(0,[]),(1,[]),(6,[]),(65,[])],[(.x 0,[]),(.x 1,[])])
 | 9=> ([(6,[]),(76,[])],[(.x 0,[]),(.x 1,[])])
 | 10=> ([(4,[]),(5,[])],[(.x 0,[]),(.x 1,[])])
 | 11=> ([(4,[]),(5,[])],[(.x 0,[]),(.x 1,[])])
 | _=> ([],[])
def Z2e(pl:List Op)(pa:Int)(ql:List Op)(qa:Int)(mx0_0 mx1_0:List Op)(mx1_1:Int)(x6:List Piece):LSt U:=(L2 [(0,.ptr (.x 0) 0),(1,.ptr (.x 1) 0),(6,.c (sU .piece x6 (.own (.e 6 0))))] [(.x 0,[sU .op mx0_0 .unk,ci pa]),(.x 1,[sU .op mx1_0 .unk,ci mx1_1])])
abbrev ZxH(p:List Nat):=AW (Z1 Zl3) Try.f169 ZpO p
theorem Zy1(pl:List Op)(pa:Int)(ql:List Op)(qa:Int)(Q:QT)(h:(Zl (ZxH [1,1,0,0]) (Z2e pl pa ql qa pl ql qa []) (xB 0 Q))):
  ZxH [] (L2 [(0,.ptr (.x 0) 0),(1,.ptr (.x 1) 0)] [(.x 0,[sU .op pl .unk,ci pa]),(.x 1,[sU .op ql .unk,ci qa])]) Q:=
 Eq.mpr (by kernel_rfl) h
theorem ZnP(pl:List Op)(pa:Int)(ql:List Op)(qa:Int)(mx0_0 mx1_0:List Op)(mx1_1:Int)(x6:List Piece)(N0:NT)(Q:QT)(h:∀ y_1,y_1=(List.getD mx0_0 (Int.toNat 0) Op.nil)→∀ y_2,y_2=(List.getD mx1_0 (Int.toNat 0) Op.nil)→∀ y_3,y_3=(Edit.mk 0 (Tree.mk 0 [] []) (Tree.mk 0 [] []) [] [] 0 [])→∀ y_4,y_4=(List.getD (bif (!(decide (mx0_0.length=0))) then mx1_0 else mx1_0) (Int.toNat 0) Op.nil)→∀ y_5,y_5=y_1→∀ y_6,y_6=y_2→∀ y_7,y_7=y_4→∀ y_8,y_8=(ZP (mx0_0.getD 0 Op.nil) (Z2 y_5))→∀ y_9,y_9=(ZP (mx1_0.getD 0 Op.nil) (Z2 y_6))→∀ y_10,y_10=(ZP (mx0_0.getD 0 Op.nil) (if ((Z2 y_7):Int) < (Z2 y_5) then (Z2 y_7) else (Z2 y_5)))→∀ y_11,y_11=(ZP ((bif (!(decide (mx0_0.length=0))) then mx1_0 else mx1_0).getD 0 Op.nil) (if ((Z2 y_7):Int) < (Z2 y_5) then (Z2 y_7) else (Z2 y_5)))→let z7:=Z3u ((mx0_0,pa,()),());let z5:=Piece.mk 2 (OpOf.mk 0 0 [] y_3) y_9;let z4:=Piece.mk 1 y_8 (OpOf.mk 0 0 [] y_3);let z0:=decide (mx0_0.length=0);let z3:=bif z0 then true else (decide (mx1_0.length=0));let z2:=bif (!z0) then mx1_1 else mx1_1;let z1:=bif (!z0) then mx1_0 else mx1_0;let z6:=z0 !=(decide (z1.length=0));(Z9k ((mx0_0,pa,()),()))∧(((sgl pa mx0_0)=true→((0:Int)≤0∧0 < (mx0_0.length:Int))∧(Z5u (y_5,()))∧(Z7a ((mx0_0,pa,()),(Z2 y_5),()))∧((x6.length+([z4]).length)*488≤140737488355328)∧(N0 (Z2e pl pa ql qa (Y2 mx0_0 (Z2 y_5)) mx1_0 mx1_1 (x6++([z4])))))∧((sgl pa mx0_0)=false→(Z9k ((mx1_0,mx1_1,()),()))∧(((sgl mx1_1 mx1_0)=true→((0:Int)≤0∧0 < (mx1_0.length:Int))∧(Z5u (y_6,()))∧(Z7a ((mx1_0,mx1_1,()),(Z2 y_6),()))∧((x6.length+([z5]).length)*488≤140737488355328)∧(N0 (Z2e pl pa ql qa mx0_0 (Y2 mx1_0 (Z2 y_6)) mx1_1 (x6++([z5])))))∧((sgl mx1_1 mx1_0)=false→z7∧(Tr ((!z0)=true))∧((!z0)=true→Z3u ((mx1_0,mx1_1,()),()))∧(z0=false→(!z0)=true)∧((z3=true→z7∧(Z3u ((z1,z2,()),()))∧((z6=true→(Q .ret (L2 [(4,.c (.nils)),(5,.c (.bool false))] [(.x 0,[sU .op mx0_0 .unk,ci pa]),(.x 1,[sU .op z1 .unk,ci z2])])))∧(z6=false→(Q .ret (L2 [(4,.c (sU .piece x6 (.own (.e 4 0)))),(5,.c (.bool true))] [(.x 0,[sU .op mx0_0 .unk,ci pa]),(.x 1,[sU .op z1 .unk,ci z2])])))))∧(z3=false→((0:Int)≤0∧0 < (mx0_0.length:Int))∧(Z5u (y_5,()))∧((0:Int)≤0∧0 < (z1.length:Int))∧(Z5u (y_7,()))∧((Z7a ((mx0_0,pa,()),(if ((Z2 y_7):Int) < (Z2 y_5) then (Z2 y_7) else (Z2 y_5)),()))∧(Z7a ((z1,z2,()),(if ((Z2 y_7):Int) < (Z2 y_5) then (Z2 y_7) else (Z2 y_5)),()))∧((x6.length+([(Piece.mk 0 y_10 y_11)]).length)*488≤140737488355328)∧(N0 (Z2e pl pa ql qa (Y2 mx0_0 (if ((Z2 y_7):Int) < (Z2 y_5) then (Z2 y_7) else (Z2 y_5))) (Y2 z1 (if ((Z2 y_7):Int) < (Z2 y_5) then (Z2 y_7) else (Z2 y_5))) z2 (x6++([(Piece.mk 0 y_10 y_11)])))))))))))):
  ZxH [1,1,0,0] (Z2e pl pa ql qa mx0_0 mx1_0 mx1_1 x6) (xT N0 (xB 0 Q)):=
 Eq.mpr (by kernel_rfl) (h _ rfl _ rfl _ rfl _ rfl _ (Jh _) _ (Jh _) _ (Jh _) _ (Jh _) _ (Jh _) _ (Jh _) _ (Jh _))
def ZtB(pl:List Op)(pa:Int)(ql:List Op)(qa:Int):Prop:=AW (Z1 Zl3) Try.f169 ZpO [] (Zn (Zgg.can ((pl,pa,()),(ql,qa,()),())) (Zgg.canX ((pl,pa,()),(ql,qa,()),()))) (EQ Try.f169 (Zfg ((pl,pa,()),(ql,qa,()),())) (Zb8 ((pl,pa,()),(ql,qa,()),())))
theorem Zsp(Zwk:CT 188 Z7I)(Zwj:CT 189 Z7H)(Znp:CT 190 Z34)(Zno:CT 191 Z33)(hb:∀ (pl:List Op) (pa:Int) (ql:List Op) (qa:Int) (_:Unit),Zfr ((pl,pa,()),(ql,qa,()),())→ZtB pl pa ql qa):CT 169 Z60:=
 J1 (l:=[(188,Z7I),(189,Z7H),(190,Z34),(191,Z33)]) Zo rfl (⟨Zwk,Zwj,Znp,Zno,trivial⟩) ZpO Try.func169 rfl rfl 2 (fun _=> rfl) (by decide) (fun ⟨⟨pl,pa,_⟩,⟨ql,qa,_⟩,_⟩=> hb pl pa ql qa ())
def Zl9:List (FuncId × Fs U):=[(169,Z60)]
def ZpU:Zh U:=lvl [([0,1],[]),([4,5],[])]
abbrev ZAo(p:List Nat):=AW (Z1 Zl9) Try.f135 ZpU p
theorem Zyc(p q:List Op)(Q:QT)(h:((Zfr ((p,1,()),(q,2,()),()))∧(Q .ret (L2 [(4,.c (sU .piece ((Y4 1 2 p q []).1) .unk)),(5,.c (.bool ((Y4 1 2 p q []).2.1)))] [])))):
  ZAo [] (L2 [(0,.c (sU .op p .unk)),(1,.c (sU .op q .unk))] []) Q:=
 Eq.mpr (by kernel_rfl) h
def ZtM(p q:List Op):Prop:=AW (Z1 Zl9) Try.f135 ZpU [] (Zn (ZlH.can (p,q,())) []) (EQ Try.f135 (ZoQ (p,q,())) [])
theorem Zsx(ZqL:CT 169 Z60)(hb:∀ (p:List Op) (q:List Op) (_:Unit),ZiO (p,q,())→ZtM p q):CT 135 Z1O:=
 Z6 (l:=[(169,Z60)]) Zo rfl (⟨ZqL,trivial⟩) ZpU Try.func135 rfl rfl 2 (fun _=> rfl) (by decide) (fun ⟨p,q,_⟩=> hb p q ())
end
end Go.AM.Ytpjenobkibfpcaa
namespace Go.AM.Ytpjenobkibfpcaa
open Go.AM Go.Proofs
theorem Zpr{o:Op}(h:Zx o≤20000000000):o.l.length≤20000000000:=by
 have:=ZD o.l
 rw [ZW] at h
 omega
theorem Z9t{o:Op}(h:YI o):0≤o.n∧o.n≤1048576:=by
 unfold YI at h
 omega
theorem YJ(o:Op):Z2 o=if o.kind=3 then 1 else o.n+o.l.length:=rfl
theorem Znp:Contract Try.prog cfg 190 Z34:=by
 refine Zsh ?_
 intro o _ hp
 simp only [Z5u] at hp
 have hl:=Zpr hp.1
 refine ZxT _ _ ?_;(try simp only [vcT,forall_eq])
 (simp only [vcS]);(try simp only [vcT])
 exact ⟨fun hk=> Yy rfl (by rw [YJ,if_pos hk]),fun hk=> ⟨by unfold InR;omega,Yy rfl (by rw [YJ,if_neg hk])⟩⟩
theorem Zno:Contract Try.prog cfg 191 Z33:=by
 refine Zsg ?_
 intro l al _ hp
 refine ZxS _ _ _ ?_;(try simp only [vcT,forall_eq])
 have e:((l.length:Int)==0)=decide (l.length=0):=by rw [Bool.eq_iff_iff];(simp only [vcS]);omega
 rw [e]
 (repeat' (first | exact trivial | exact rfl | apply And.intro))
theorem Zwk:Contract Try.prog cfg 188 Z7I:=by
 refine Zsj Zno ?_
 intro l al _ hp
 refine ZxV _ _ _ ?_;(try simp only [vcT,forall_eq])
 have e:(bif (!(decide (l.length=0))) then ((OpOf.kind (List.getD l (Int.toNat 0) Op.nil))==al) else false)=sgl al l:=by
  rw [Bool.eq_iff_iff]
  simp only [sgl]
  (simp only [vcS])
  try rfl
 rw [e]
 refine ⟨hp,fun h=> ⟨by omega,?_⟩,by (repeat' (first | exact trivial | exact rfl | apply And.intro))⟩
 revert h
 (simp only [vcS])
 omega
theorem Zww(ZqL:Contract Try.prog cfg 169 Z60):Contract Try.prog cfg 135 Z1O:=by
 refine Zsx ZqL ?_
 intro p q _ hp
 refine Zyc _ _ _ ?_;(try simp only [vcT,forall_eq])
 refine ⟨hp,?_⟩
 (repeat' (first | exact trivial | exact rfl | apply And.intro))
theorem Zwj:Contract Try.prog cfg 189 Z7H:=by
 refine Zsi Znp ?_
 intro l al n _ hp
 simp only [Z7a] at hp
 obtain ⟨⟨ho,hm⟩,hl,h1,h2⟩:=hp
 have hmem:=Zm (l:=l) (i:=0) (by omega) Op.nil
 have hok:=ho _ hmem
 have hmo:=Yq hmem
 have hlen:=massOs_len l
 refine ZxU _ _ _ _ ?_;(try simp only [vcT])
 rintro y rfl _ rfl _ rfl
 have e0:(Int.toNat 0)=0:=rfl
 have e1:(Int.toNat 1)=1:=rfl
 simp only [e0,e1]
 have hT:∀ o r,ZP (l.getD 0 Op.nil) n=o→Y2 l n=r→True:=fun _ _ _ _=> trivial
 have hon:=Z9t hok
 have hln:=YJ (l.getD 0 Op.nil)
 (simp only [vcS])
 generalize hy:l.getD 0 Op.nil=y at*
 refine ⟨⟨by omega,by omega⟩,⟨by dsimp only;omega,hon⟩,fun hc=> ⟨⟨by omega,by omega⟩,?_⟩,fun hc=> ⟨fun hk=> ⟨by unfold InR;omega,⟨by omega,by omega⟩,by simp;omega,?_⟩,fun hk=> ?_⟩⟩
 ·have t1:ZP y n=y:=by rw [ZP,if_pos hc]
  have t2:Y2 l n=l.drop 1:=by rw [Y2,hy,if_pos hc]
  simp only [Zcb,Z82,hy,t1,t2]
  (repeat' (first | exact trivial | exact rfl | apply And.intro))
 ·have t1:ZP y n=⟨y.kind,n,y.l,y.e⟩:=by rw [ZP,if_neg hc,if_pos hk]
  have t2:Y2 l n=⟨y.kind,y.n - n,y.l,y.e⟩ ::l.drop 1:=by rw [Y2,hy,if_neg hc,Z03,if_pos hk]
  simp only [Zcb,Z82,hy,t1,t2]
  (repeat' (first | exact trivial | exact rfl | apply And.intro))
 ·have t1:ZP y n=⟨y.kind,y.n,y.l.take n.toNat,y.e⟩:=by rw [ZP,if_neg hc,if_neg hk]
  have t2:Y2 l n=⟨y.kind,y.n,y.l.drop n.toNat,y.e⟩ ::l.drop 1:=by rw [Y2,hy,if_neg hc,Z03,if_neg hk]
  simp only [Zcb,Z82,hy,t1,t2]
  unfold YI at hok
  refine ⟨?_,?_,⟨by omega,by omega⟩,by simp;omega,?_⟩
  ·split at hln <;> omega
  ·split at hln <;> omega
  ·(repeat' (first | exact trivial | exact rfl | apply And.intro))
theorem Z2M(n:Nat):∀ (l:List Tree),Zg (l.drop n)≤Zg l:=by
 induction n with
 | zero=> intro l;simp
 | succ n ih=>
  intro l
  cases l with
  | nil=> simp
  | cons t r=> simp only [List.drop_succ_cons,Zg];have:=ih r;omega
theorem ZcP(n:Nat):∀ (l:List Tree),Zg (l.take n)≤Zg l:=by
 induction n with
 | zero=> intro l;simp [Zg]
 | succ n ih=>
  intro l
  cases l with
  | nil=> simp
  | cons t r=> simp only [List.take_succ_cons,Zg];have:=ih r;omega
theorem YV{o:Op}(h:YI o):1≤Z2 o:=by
 have:=YJ o
 unfold YI at h
 have hl:o.l≠[]→0 < o.l.length:=List.length_pos_iff.2
 rcases h with ⟨h1,h2,h3,h4⟩ | ⟨h1,h2,h3,h4⟩ | ⟨h1,h2,h3⟩
 ·rw [h2] at this;simp at this;split at this <;> omega
 ·have:=hl h3;split at* <;> omega
 ·rw [if_pos h1] at this;omega
theorem Z89{o:Op}(h:YI o)(hm:Zx o≤20000000000):Z2 o≤20000000000:=by
 have:=YJ o
 have:=Zpr hm
 have:=Z9t h
 unfold YI at h
 rcases h with ⟨h1,h2,h3,h4⟩ | ⟨h1,h2,h3,h4⟩ | ⟨h1,h2,h3⟩
 ·simp [h2,h1] at*;omega
 ·split at* <;> omega
 ·split at* <;> omega
theorem Z5I(o:Op)(r:List Op):Zs (o ::r)=Zx o+Zs r:=rfl
theorem Z6h{l:List Op}(h:Z9x l):Z9x (l.drop 1):=by
 cases l with
 | nil=> exact h
 | cons o r=>
  obtain ⟨h1,h2⟩:=h
  rw [Z5I] at h2
  exact ⟨fun x hx=> h1 x (List.mem_cons_of_mem _ hx),by simp only [List.drop_succ_cons,List.drop_zero];omega⟩
theorem Z9w{l:List Op}(h:Z9x l)(hl:l.length≠0):YI (l.getD 0 Op.nil)∧Zx (l.getD 0 Op.nil)≤20000000000∧Zx (l.getD 0 Op.nil)≤Zs l:=by
 have hm:=Zm (l:=l) (i:=0) (by omega) Op.nil
 have:=Yq hm
 exact ⟨h.1 _ hm,by have:=h.2;omega,this⟩
theorem Zdf{o:Op}{n:Int}(h:YI o)(h1:1≤n)(h2:¬Z2 o≤n):YI (Z03 o n)∧Zx (Z03 o n)≤Zx o:=by
 have hl:=YJ o
 unfold Z03
 unfold YI at*
 by_cases hk:o.kind=0
 ·rw [if_pos hk]
  refine ⟨Or.inl ?_,by simp only [ZW];omega⟩
  rcases h with h | h | h
  ·obtain ⟨a,b,c,d⟩:=h
   rw [b,if_neg (by omega)] at hl
   simp at hl
   exact ⟨a,b,by dsimp only;omega,d⟩
  ·omega
  ·omega
 ·rw [if_neg hk]
  have:=Z2M n.toNat o.l
  refine ⟨Or.inr ?_,by simp only [ZW];omega⟩
  rcases h with h | h | h
  ·omega
  ·obtain ⟨a,b,c,d⟩:=h
   rw [if_neg (by omega)] at hl
   refine Or.inl ⟨a,b,?_,d⟩
   intro he
   have:=congrArg List.length he
   simp at this
   omega
  ·rw [if_pos h.1] at hl;omega
theorem Zcz{l:List Op}{n:Int}(h:Z9x l)(hl:l.length≠0)(h1:1≤n):Z9x (Y2 l n):=by
 unfold Y2
 split
 ·exact Z6h h
 ·rename_i hc
  obtain ⟨a,b,c⟩:=Z9w h hl
  obtain ⟨d,e⟩:=Zdf a h1 hc
  have hd:=Z6h h
  refine ⟨fun x hx=> ?_,?_⟩
  ·rcases List.mem_cons.1 hx with rfl | hx
   ·exact d
   ·exact hd.1 _ hx
  ·rw [Z5I]
   obtain _ | ⟨o,r⟩:=l
   ·simp at hl
   ·have:=h.2
    rw [Z5I] at this
    simp at*
    omega
theorem ZdP(l:List Op):Y2 l (Z2 (l.getD 0 Op.nil))=l.drop 1:=by rw [Y2,if_pos (Int.le_refl _)]
theorem ZdQ(o:Op):ZP o (Z2 o)=o:=by rw [ZP,if_pos (Int.le_refl _)]
theorem Zk2{a:Int}{l:List Op}(h:sgl a l=true):l.length≠0:=(of_decide_eq_true h).1
theorem ZdB{α:Type}(b:Bool)(x:α):(bif b then x else x)=x:=by cases b <;> rfl
theorem ZqL:Contract Try.prog cfg 169 Z60:=by
 refine Zsp Zwk Zwj Znp Zno ?_
 intro pl pa ql qa _ hp
 simp only [Zfr] at hp
 have hpl:=massOs_len pl
 have hql:=massOs_len ql
 have hP:=hp.1.2
 have hQ:=hp.2.2
 refine Zy1 _ _ _ _ _ ?_;(try simp only [vcT,forall_eq])
 refine Ze (ι:=List Op × List Op × List Piece) (fun s=> Z2e pl pa ql qa s.1 s.2.1 qa s.2.2) (fun s=> Z9x s.1∧Z9x s.2.1∧s.2.2.length+s.1.length+s.2.1.length≤40000000000∧Y4 pa qa s.1 s.2.1 s.2.2=Y4 pa qa pl ql []) (fun s=> s.1.length+s.2.1.length) (pl,ql,[]) rfl ⟨hp.1,hp.2,by simp;omega,rfl⟩ ?_
 rintro ⟨p,q,out⟩ ⟨h1,h2,h3,h4⟩
 refine ZnP _ _ _ _ _ _ _ _ _ _ ?_;(try simp only [vcT])
 have e0:(Int.toNat 0)=0:=rfl
 simp only [e0,ZdB]
 dsimp only at h1 h2 h3 h4
 rintro z1 hy1 z2 hy2 y3 hy3 z4 hy4 y1 rfl y2 rfl y4 rfl y8 hy8 y9 hy9 y10 hy10 y11 hy11
 have ey:y4=y2:=hy4.trans hy2.symm
 rw [ey] at hy10 hy11 ⊢
 have e3:(OpOf.mk 0 0 [] y3:Op)=Op.nil:=by rw [hy3];try rfl
 rw [←hy1,ZdQ] at hy8
 rw [←hy2,ZdQ] at hy9
 have hmin:∀ a b:Int,(if a < b then a else b)=min b a:=by intro a b;omega
 rw [←hy1,hmin] at hy10
 rw [←hy2,hmin] at hy11
 simp only [hmin,e3,hy8,hy9]
 (simp only [vcS])
 have o1:p.length≠0→YI y1∧Zx y1≤20000000000:=fun h=> by have:=Z9w h1 h;rw [←hy1] at this;exact ⟨this.1,this.2.1⟩
 have o2:q.length≠0→YI y2∧Zx y2≤20000000000:=fun h=> by have:=Z9w h2 h;rw [←hy2] at this;exact ⟨this.1,this.2.1⟩
 have tp:Y2 p (Z2 y1)=p.drop 1:=by rw [hy1];exact ZdP p
 have tq:Y2 q (Z2 y2)=q.drop 1:=by rw [hy2];exact ZdP q
 have hm1:=massOs_len p
 have hm2:=massOs_len q
 have hm3:=h1.2
 have hm4:=h2.2
 rw [Y4] at h4
 rw [←hy1,←hy2] at h4
 refine ⟨by simp only [Z9k];omega,fun hs=> ?_,fun hs=> ?_⟩
 ·have hl:=Zk2 hs
  obtain ⟨oa,ob⟩:=o1 hl
  have oc:=YV oa
  have od:=Z89 oa ob
  rw [dif_pos hs] at h4
  refine ⟨⟨by omega,by omega⟩,⟨ob,Z9t oa⟩,⟨h1,hl,oc,by dsimp only;omega⟩,by simp;omega,(p.drop 1,q,out++[⟨1,y1,Op.nil⟩]),by rw [tp],⟨Z6h h1,h2,by simp;omega,h4⟩,by simp;omega⟩
 ·rw [dif_neg (by rw [hs];exact Bool.false_ne_true)] at h4
  refine ⟨by simp only [Z9k];omega,fun hs2=> ?_,fun hs2=> ?_⟩
  ·have hl:=Zk2 hs2
   obtain ⟨oa,ob⟩:=o2 hl
   have oc:=YV oa
   have od:=Z89 oa ob
   rw [dif_pos hs2] at h4
   refine ⟨⟨by omega,by omega⟩,⟨ob,Z9t oa⟩,⟨h2,hl,oc,by dsimp only;omega⟩,by simp;omega,(p,q.drop 1,out++[⟨2,Op.nil,y2⟩]),by rw [tq],⟨h1,Z6h h2,by simp;omega,h4⟩,by simp;omega⟩
  ·rw [dif_neg (by rw [hs2];exact Bool.false_ne_true)] at h4
   refine ⟨by simp only [Z3u];omega,fun _=> by simp only [Z3u];omega,fun h=> h,fun hd=> ⟨by simp only [Z3u];omega,by simp only [Z3u];omega,fun he=> ?_,fun he=> ?_⟩,fun hd=> ?_⟩
   ·rw [dif_pos hd,if_neg he] at h4
    simp only [Zfg,Zb8,←h4]
    (repeat' (first | exact trivial | exact rfl | apply And.intro))
   ·rw [dif_pos hd,if_pos he] at h4
    simp only [Zfg,Zb8,←h4]
    (repeat' (first | exact trivial | exact rfl | apply And.intro))
   ·obtain ⟨oa,ob⟩:=o1 hd.1
    obtain ⟨oc,od⟩:=o2 hd.2
    have a1:=YV oa
    have a2:=Z89 oa ob
    have a3:=YV oc
    have a4:=Z89 oc od
    rw [dif_neg (by omega),←hy10,←hy11] at h4
    have c1:=J7 p (min (Z2 y1) (Z2 y2)) hd.1
    have c2:=J7 q (min (Z2 y1) (Z2 y2)) hd.2
    have c3:Z2 y1≤min (Z2 y1) (Z2 y2)→(Y2 p (min (Z2 y1) (Z2 y2))).length < p.length:=fun h=> J6 p _ hd.1 (by rw [←hy1];exact h)
    have c4:Z2 y2≤min (Z2 y1) (Z2 y2)→(Y2 q (min (Z2 y1) (Z2 y2))).length < q.length:=fun h=> J6 q _ hd.2 (by rw [←hy2];exact h)
    refine ⟨⟨by omega,by omega⟩,⟨ob,Z9t oa⟩,⟨by omega,by omega⟩,⟨od,Z9t oc⟩,⟨h1,hd.1,by dsimp only;omega,by dsimp only;omega⟩,⟨h2,hd.2,by dsimp only;omega,by dsimp only;omega⟩,by simp;omega,
     (Y2 p (min (Z2 y1) (Z2 y2)),Y2 q (min (Z2 y1) (Z2 y2)),out++[⟨0,y10,y11⟩]),rfl,⟨Zcz h1 hd.1 (by omega),Zcz h2 hd.2 (by omega),by simp;omega,h4⟩,by dsimp only;omega⟩
end Go.AM.Ytpjenobkibfpcaa
namespace Go.AM.Ytpjenobkibfpcaa
open Go.AM Go.Proofs
theorem Zqz{α:Type}{a b:α}(h:¬a=b):eqX a b=false:=by rw [←Bool.not_eq_true,Z1W];exact h
end Go.AM.Ytpjenobkibfpcaa
namespace Go.AM.Ytpjenobkibfpcaa
open Go.AM Go.Proofs
def vu(u:AUnit):Op × Bool:=(opU u,u.alone)
def vs(a:Int)(o:Op):List (Op × Bool):=(ZeS 0 a o).map vu
theorem Z7z{a n:Int}{o:Op}(h:YI o)(h1:1≤n)(hn:¬Z2 o≤n):vs a o=vs a (ZP o n)++vs a (Z03 o n)∧YI (ZP o n)∧Z2 (ZP o n)=n∧Zx (ZP o n)≤Zx o:=by
 have hl:=YJ o
 rcases h with ⟨k0,k1,k2,k3⟩ | ⟨k0,k1,k2,k3⟩ | ⟨k0,k1,k2⟩
 ·have e1:ZP o n=⟨o.kind,n,o.l,o.e⟩:=by rw [ZP,if_neg hn,if_pos k0]
  have e2:Z03 o n=⟨o.kind,o.n - n,o.l,o.e⟩:=by rw [Z03,if_pos k0]
  rw [if_neg (by omega),k1] at hl
  simp only [List.length_nil] at hl
  rw [e1,e2]
  refine ⟨?_,Or.inl ⟨k0,k1,by dsimp only;omega,k3⟩,?_,by simp [ZW]⟩
  ·simp only [vs,ZeS,k0,k1]
   simp only [if_true,List.map_nil,List.nil_append,List.map_append,List.map_replicate]
   rw [if_neg (by decide)]
   simp only [List.map_nil,List.append_nil]
   rw [List.replicate_append_replicate]
   congr 1
   omega
  ·rw [YJ]
   dsimp only
   rw [if_neg (by omega),k1]
   simp
 ·have e1:ZP o n=⟨o.kind,o.n,o.l.take n.toNat,o.e⟩:=by rw [ZP,if_neg hn,if_neg (by omega)]
  have e2:Z03 o n=⟨o.kind,o.n,o.l.drop n.toNat,o.e⟩:=by rw [Z03,if_neg (by omega)]
  rw [if_neg (by omega)] at hl
  have hm:=ZcP n.toNat o.l
  rw [e1,e2]
  refine ⟨?_,Or.inr (Or.inl ⟨k0,k1,?_,k3⟩),?_,by simp only [ZW];omega⟩
  ·simp only [vs,ZeS]
   rw [if_neg (by omega),if_neg (by omega)]
   simp only [List.nil_append,List.append_nil]
   rw [←List.map_append,←List.map_append,List.take_append_drop]
  ·intro he
   have:=congrArg List.length he
   simp only [List.length_take,List.length_nil] at this
   omega
  ·rw [YJ]
   dsimp only
   rw [if_neg (by omega),List.length_take]
   omega
 ·rw [if_pos k0] at hl
  omega
theorem Z38{a:Int}{l:List Op}:sgl a l=true↔(l.length≠0∧(l.getD 0 Op.nil).kind=a):=by unfold sgl;exact decide_eq_true_iff
theorem Z4k(o:Op)(n:Int):(ZP o n).kind=o.kind:=by
 unfold ZP;split
 ·try rfl
 ·split <;> rfl
end Go.AM.Ytpjenobkibfpcaa
namespace Go.AM.Ytpjenobkibfpcaa
open Go.AM Go.Proofs
theorem Zhm{t:Tree}(h:ZT t=true):t=Tree.nil:=by
 obtain ⟨k,w,ks⟩:=t
 have:=of_decide_eq_true h
 simp at this
 obtain ⟨rfl,rfl,rfl⟩:=this
 try rfl
theorem ZdS{e:Edit}(h:Z0V e=true):e=Edit.nil:=by
 obtain ⟨h1,h2,h3,h4,h5,h6,h7⟩:=ZgM h
 obtain ⟨k,o,n,w,ks,l,os⟩:=e
 simp at h1 h2 h3 h4 h5 h6 h7
 subst h1 h4 h5 h6 h7
 rw [Zhm h2,Zhm h3]
 try rfl
theorem Z70{list:Int}{o:Op}{d:Int}(h:Za list o d=true):YI o:=by
 rw [Jt] at h
 unfold YI
 split at h
 ·rename_i h0
  simp only [Bool.and_eq_true,decide_eq_true_eq] at h
  exact Or.inl ⟨h0,List.length_eq_zero_iff.1 h.1.2.2,⟨h.1.1,h.1.2.1⟩,ZdS h.2⟩
 ·split at h
  ·cases h
  ·rename_i h0 h1
   split at h
   ·simp only [Bool.and_eq_true,decide_eq_true_eq] at h
    refine Or.inr (Or.inl ⟨by omega,by omega,?_,ZdS h.2⟩)
    exact List.length_pos_iff.1 h.1.2
   ·simp only [Bool.and_eq_true,decide_eq_true_eq] at h
    exact Or.inr (Or.inr ⟨by omega,by omega,List.length_eq_zero_iff.1 h.1.1.1⟩)
end Go.AM.Ytpjenobkibfpcaa
namespace Go.AM
def Z6O(list:Int)(e:Edit):Bool:=decide (e.kind=0∨(list=9∧e.kind=2∧e.words.length=0∧e.kids.length=0))
def Z5(l:List Tree):List Tree:=l.map Z7
def YG(w:WEdit):WEdit:=⟨w.at_,w.mask,w.new,w.old⟩
mutual
def Zv:Edit→Edit
 | .mk k o n w ks l os=> .mk k n o (w.map YG) (Y3 ks) l (Y6 os)
def Y3:List (KidOf Edit)→List (KidOf Edit)
 | []=> []
 | k ::r=> YN k ::Y3 r
def YN:KidOf Edit→KidOf Edit
 | ⟨a,e⟩=> ⟨a,Zv e⟩
def Y6:List (OpOf Edit)→List (OpOf Edit)
 | []=> []
 | o ::r=> ZZ o ::Y6 r
def ZZ:OpOf Edit→OpOf Edit
 | ⟨k,n,l,e⟩=> if k=1 then ⟨2,n,l,e⟩ else if k=2 then ⟨1,n,l,e⟩ else if k=3 then ⟨k,n,l,Zv e⟩ else ⟨k,n,l,e⟩
end
end Go.AM
namespace Go.AM
def ZV{α:Type}(z:α)(l:List α)(i:Nat)(x:α):List α:=(l++List.replicate (i+1 - l.length) z).set i x
def wsD(tw:List Int):List WEdit→List Int→Option (List Int)
 | [],out=> some out
 | w ::r,out=> if mix 0 (tw.getD w.at_.toNat 0) w.mask=w.old then wsD tw r (ZV 0 out w.at_.toNat (mix (tw.getD w.at_.toNat 0) w.new w.mask)) else none
noncomputable def JA(l rest:List Tree):Bool:=decide (l.length≤rest.length) && eqX (Z5 l) (Z5 (rest.take l.length))
def Z19(r:Option (List Tree × List Tree)):Option (List Tree):=r.bind fun x=> if x.2.length=0 then some x.1 else none
def nrD(r:Bool)(t:Tree):Tree:=if r then Z7 t else t
mutual
noncomputable def doE(r:Bool):Edit→Tree→Option Tree
 | .mk k o n w ks l os,t=>
  (if k=0 then some t
  else if k=1 then (if Jo (Z7 o) (Z7 t)=true then some n else none)
  else if k=2 then (if t.kind=1 then (wsD t.words w t.words).bind fun a=> (Jf r t.kids ks t.kids).map fun b=> .mk 1 a b else none)
  else if k=3 then (if t.kind=l then (Z19 (ZE r os t.kids [])).map fun b=> .mk l [] b else none)
  else none).map (nrD r)
noncomputable def Jf(r:Bool)(tk:List Tree):List (KidOf Edit)→List Tree→Option (List Tree)
 | [],out=> some out
 | k ::s,out=> (Z1A r tk k).bind fun u=> Jf r tk s (ZV Tree.nil out k.at_.toNat u)
noncomputable def Z1A(r:Bool)(tk:List Tree):KidOf Edit→Option Tree
 | ⟨a,e⟩=> doE r e (tk.getD a.toNat Tree.nil)
noncomputable def ZE(r:Bool):List (OpOf Edit)→List Tree→List Tree→Option (List Tree × List Tree)
 | [],rest,out=> some (out,rest)
 | o ::s,rest,out=> (Z1z r o rest out).bind fun x=> ZE r s x.2 x.1
noncomputable def Z1z(r:Bool):OpOf Edit→List Tree→List Tree→Option (List Tree × List Tree)
 | ⟨k,n,l,e⟩,rest,out=>
  if k=0 then (if n.toNat≤rest.length then some (out++rest.take n.toNat,rest.drop n.toNat) else none)
  else if k=1 then (if JA l rest=true then some (out,rest.drop l.length) else none)
  else if k=2 then some (out++l,rest)
  else if rest.length=0 then none else (doE r e (rest.getD 0 Tree.nil)).map fun u=> (out++[u],rest.drop 1)
end
theorem Z0R(r:Bool)(e:Edit)(t:Tree):doE r e t=(if e.kind=0 then some t
  else if e.kind=1 then (if Jo (Z7 e.old) (Z7 t)=true then some e.new else none)
  else if e.kind=2 then (if t.kind=1 then (wsD t.words e.words t.words).bind fun a=> (Jf r t.kids e.kids t.kids).map fun b=> .mk 1 a b else none)
  else if e.kind=3 then (if t.kind=e.list then (Z19 (ZE r e.ops t.kids [])).map fun b=> .mk e.list [] b else none)
  else none).map (nrD r):=by cases e;rfl
noncomputable def Zdu(r:Bool)(e:Edit)(t:Tree):Option Tree:=
 if e.kind=0 then some t
 else if e.kind=1 then (if Jo (Z7 e.old) (Z7 t)=true then some e.new else none)
 else if e.kind=2 then (if t.kind=1 then (wsD t.words e.words t.words).bind fun a=> (Jf r t.kids e.kids t.kids).map fun b=> .mk 1 a b else none)
 else if e.kind=3 then (if t.kind=e.list then (Z19 (ZE r e.ops t.kids [])).map fun b=> .mk e.list [] b else none)
 else none
theorem Z4S(r:Bool)(e:Edit)(t:Tree):doE r e t=(Zdu r e t).map (nrD r):=Z0R r e t
theorem Z4a(r:Bool)(tk:List Tree)(k:Kid):Z1A r tk k=doE r k.e (tk.getD k.at_.toNat Tree.nil):=by cases k;rfl
theorem YD(r:Bool)(o:Op)(rest out:List Tree):Z1z r o rest out=if o.kind=0 then (if o.n.toNat≤rest.length then some (out++rest.take o.n.toNat,rest.drop o.n.toNat) else none)
  else if o.kind=1 then (if JA o.l rest=true then some (out,rest.drop o.l.length) else none)
  else if o.kind=2 then some (out++o.l,rest)
  else if rest.length=0 then none else (doE r o.e (rest.getD 0 Tree.nil)).map fun u=> (out++[u],rest.drop 1):=by cases o;rfl
noncomputable def ZaR(r:Bool)(e:Edit)(t:Tree):Option Tree:=
 if t.kind=1 then (wsD t.words e.words t.words).bind fun a=> (Jf r t.kids e.kids t.kids).map fun b=> .mk 1 a b else none
noncomputable def Z6B(r:Bool)(e:Edit)(t:Tree):Option (List Tree × List Tree):=if t.kind=e.list then ZE r e.ops t.kids [] else none
def Z5z(o:Option Tree):Tree:=o.getD Tree.nil
def Zq4(e:Edit)(o:Option (List Tree × List Tree)):Tree:=match o with | some x=> .mk e.list [] x.1 | none=> Tree.nil
noncomputable def ZaT(e:Edit)(t:Tree):Tree:=
 if e.kind=0 then t else if e.kind=1 then e.new else if e.kind=2 then Z5z (ZaR false e t) else if e.kind=3 then Zq4 e (Z6B false e t) else Tree.nil
theorem Yp(o:Option Tree):o.map (nrD false)=o:=by cases o <;> rfl
theorem Z9u{e:Edit}{t u:Tree}(h:doE false e t=some u):ZaT e t=u:=by
 rw [Z0R,Yp] at h
 unfold ZaT
 split
 ·rename_i h0;rw [if_pos h0] at h;exact Option.some.inj h
 ·rename_i h0;rw [if_neg h0] at h
  split
  ·rename_i h1;rw [if_pos h1] at h
   split at h
   ·exact Option.some.inj h
   ·cases h
  ·rename_i h1;rw [if_neg h1] at h
   split
   ·rename_i h2;rw [if_pos h2] at h
    unfold Z5z ZaR
    rw [h];try rfl
   ·rename_i h2;rw [if_neg h2] at h
    split
    ·rename_i h3;rw [if_pos h3] at h
     unfold Zq4 Z6B
     split at h
     ·rename_i h4;rw [if_pos h4]
      revert h
      cases ZE false e.ops t.kids [] with
      | none=> intro h;cases h
      | some x=>
       intro h
       simp only [Z19,Option.bind_some] at h
       split at h
       ·exact Option.some.inj h
       ·cases h
     ·cases h
    ·rename_i h3;rw [if_neg h3] at h;cases h
end Go.AM
namespace Go.AM
def Z0U(m:Nat):Nat→Nat
 | 0=> 0
 | i+1=> Z0U m i+if m / 2 ^ i % 2=1 then 255*2 ^ (8*i) else 0
def Zdq:Nat→Nat→Nat
 | 0,_=> 0
 | k+1,m=> (if m % 2=1 then 255 else 0)+256*Zdq k (m / 2)
def Zai:Nat→Nat→Nat→Nat
 | 0,_,_=> 0
 | k+1,a,m=> (if m % 2=1 then a % 256 else 0)+256*Zai k (a / 256) (m / 2)
def Zht:Nat→Nat→Nat→Nat→Nat
 | 0,_,_,_=> 0
 | k+1,a,b,m=> (if m % 2=1 then b % 256 else a % 256)+256*Zht k (a / 256) (b / 256) (m / 2)
theorem Znw(x y u v:Nat)(hu:u < 256)(hv:v < 256):(u+256*x) &&& (v+256*y)=(u &&& v)+256*(x &&& y):=by
 have h:u &&& v < 256:=Nat.and_lt_two_pow (n:=8) u hv
 apply Nat.eq_of_testBit_eq
 intro j
 rw [Nat.add_comm u,Nat.add_comm v,Nat.add_comm (u &&& v),Nat.testBit_and]
 rw [show (256:Nat)=2 ^ 8 from rfl,Nat.testBit_two_pow_mul_add _ hu,Nat.testBit_two_pow_mul_add _ hv,Nat.testBit_two_pow_mul_add _ h]
 split <;> rw [Nat.testBit_and]
theorem Zpo(x y u v:Nat)(hu:u < 256)(hv:v < 256):(u+256*x) ||| (v+256*y)=(u ||| v)+256*(x ||| y):=by
 have h:u ||| v < 256:=Nat.or_lt_two_pow (n:=8) hu hv
 apply Nat.eq_of_testBit_eq
 intro j
 rw [Nat.add_comm u,Nat.add_comm v,Nat.add_comm (u ||| v),Nat.testBit_or]
 rw [show (256:Nat)=2 ^ 8 from rfl,Nat.testBit_two_pow_mul_add _ hu,Nat.testBit_two_pow_mul_add _ hv,Nat.testBit_two_pow_mul_add _ h]
 split <;> rw [Nat.testBit_or]
theorem Zdm:∀ (k a m:Nat),a &&& Zdq k m=Zai k a m
 | 0,a,m=> by simp [Zdq,Zai]
 | k+1,a,m=> by
  have e:a=a % 256+256*(a / 256):=by omega
  simp only [Zdq,Zai]
  rw [←Zdm k (a / 256) (m / 2)]
  have h:a &&& ((if m % 2=1 then 255 else 0)+256*Zdq k (m / 2))=(a % 256+256*(a / 256)) &&& ((if m % 2=1 then 255 else 0)+256*Zdq k (m / 2)):=by rw [←e]
  rw [h,Znw _ _ _ _ (by omega) (by split <;> omega)]
  congr 1
  split
  ·have:=Nat.and_two_pow_sub_one_eq_mod (a % 256) 8
   simp only [show (2:Nat) ^ 8 - 1=255 from rfl,show (2:Nat) ^ 8=256 from rfl,Nat.mod_mod] at this
   exact this
  ·simp
theorem Zky:∀ (k a b m n:Nat),(∀ i < k,m / 2 ^ i % 2+n / 2 ^ i % 2=1)→Zai k a n ||| Zai k b m=Zht k a b m
 | 0,a,b,m,n,_=> by simp [Zai,Zht]
 | k+1,a,b,m,n,h=> by
  simp only [Zai,Zht]
  have h0:=h 0 (by omega)
  simp only [Nat.pow_zero,Nat.div_one] at h0
  rw [Zpo _ _ _ _ (by split <;> omega) (by split <;> omega),Zky k (a / 256) (b / 256) (m / 2) (n / 2) (fun i hi=> by
   have:=h (i+1) (by omega)
   rw [Nat.div_div_eq_div_mul,Nat.div_div_eq_div_mul]
   rw [Nat.pow_succ,Nat.mul_comm] at this
   exact this)]
  congr 1
  by_cases hm:m % 2=1
  ·rw [if_pos hm,if_pos hm,if_neg (by omega)];simp
  ·rw [if_neg hm,if_neg hm,if_pos (by omega)];simp
theorem ZjK:∀ m:Fin 256,Z0U m.1 8=Zdq 8 m.1:=by decide+kernel
theorem ZnM:∀ m:Fin 256,2 ^ 64 - 1 - Zdq 8 m.1=Zdq 8 (255 - m.1):=by decide+kernel
theorem ZqP:∀ m:Fin 256,∀ i:Fin 8,m.1 / 2 ^ i.1 % 2+(255 - m.1) / 2 ^ i.1 % 2=1:=by decide+kernel
theorem Zrq:∀ m:Fin 256,Zdq 8 m.1 < 2 ^ 64:=by decide+kernel
theorem ZpA(a b m:Nat)(hm:m < 256):(a &&& (2 ^ 64 - 1 - Z0U m 8)) ||| (b &&& Z0U m 8)=Zht 8 a b m:=by
 have h1:=ZjK ⟨m,hm⟩
 have h2:=ZnM ⟨m,hm⟩
 simp only at h1 h2
 rw [h1,h2,Zdm,Zdm]
 exact Zky 8 a b m (255 - m) (fun i hi=> ZqP ⟨m,hm⟩ ⟨i,hi⟩)
def ofK:Nat→(Nat→Nat)→Nat
 | 0,_=> 0
 | k+1,f=> f 0+256*ofK k (fun i=> f (i+1))
theorem Zed:∀ (k:Nat) {f g:Nat→Nat},(∀ i,f i=g i)→ofK k f=ofK k g
 | 0,_,_,_=> rfl
 | k+1,f,g,h=> by simp only [ofK,h 0,Zed k (fun i=> h (i+1))]
theorem ZkC:∀ (k a b m:Nat),Zht k a b m=ofK k (fun i=> if m / 2 ^ i % 2=1 then b / 256 ^ i % 256 else a / 256 ^ i % 256)
 | 0,_,_,_=> rfl
 | k+1,a,b,m=> by
  simp only [Zht,ofK,Nat.pow_zero,Nat.div_one]
  rw [ZkC k,Zed k (g:=fun i=> if m / 2 ^ (i+1) % 2=1 then b / 256 ^ (i+1) % 256 else a / 256 ^ (i+1) % 256) (fun i=> ?_)]
  rw [Nat.div_div_eq_div_mul,Nat.div_div_eq_div_mul,Nat.div_div_eq_div_mul,Nat.pow_succ',Nat.pow_succ']
theorem ZpB(a b m:Nat):((Zht 8 a b m:Nat):Int)=mix a b m:=by
 have nm:∀ i:Nat,YC (m:Int) (i:Int)=decide (m / 2 ^ i % 2=1):=by
  intro i
  unfold YC
  rw [decide_eq_decide,Int.toNat_natCast]
  have:((m:Int) / 2 ^ i % 2:Int)=((m / 2 ^ i % 2:Nat):Int):=by rw [Int.natCast_emod,Int.natCast_ediv,Int.natCast_pow];try rfl
  rw [this];omega
 have by_:∀ (x i:Nat),Zd (x:Int) i=((x / 256 ^ i % 256:Nat):Int):=by
  intro x i
  unfold Zd
  rw [Int.natCast_emod,Int.natCast_ediv,Int.natCast_pow]
  try rfl
 have mx:∀ i:Nat,Yx (a:Int) (b:Int) (m:Int) i=((if m / 2 ^ i % 2=1 then b / 256 ^ i % 256 else a / 256 ^ i % 256:Nat):Int):=by
  intro i
  unfold Yx
  rw [nm,by_,by_]
  by_cases h:m / 2 ^ i % 2=1
  ·rw [decide_eq_true h,if_pos rfl,if_pos h]
  ·rw [decide_eq_false h,if_neg Bool.false_ne_true,if_neg h]
 rw [ZkC]
 generalize hf:(fun i=> if m / 2 ^ i % 2=1 then b / 256 ^ i % 256 else a / 256 ^ i % 256)=f
 have hx:∀ i,Yx (a:Int) (b:Int) (m:Int) i=(f i:Int):=by intro i;rw [mx,←hf]
 have e:ofK 8 f=f 0+256*(f 1+256*(f 2+256*(f 3+256*(f 4+256*(f 5+256*(f 6+256*(f 7+256*0))))))):=rfl
 rw [e]
 simp only [mix,of8,hx]
 omega
def Yz(list:Int)(e:Edit):Bool:=
 if (2≤list∧list≤7)∨e.kind=0 then false else if list=8∨e.kind=2 then true else decide (e.kind=1∧e.old.kind=1∧e.new.kind=1)
end Go.AM
namespace Go.AM
structure Wst where
 out:List Op
 gone:List Tree
 brought:List Tree
def Z0v(out:List Op)(g b:List Tree):List Op:=
 out++((if g.length=0 then [] else [⟨1,0,g,Edit.nil⟩])++(if b.length=0 then [] else [⟨2,0,b,Edit.nil⟩]))
def Z1K:List Op→Int→List Op
 | [],n=> [⟨0,n,[],Edit.nil⟩]
 | [o],n=> if o.kind=0 then [⟨o.kind,o.n+n,o.l,o.e⟩] else [o,⟨0,n,[],Edit.nil⟩]
 | o ::p ::r,n=> o ::Z1K (p ::r) n
def Z3(w:Wst):Wst:=⟨Z0v w.out w.gone w.brought,[],[]⟩
def ZX(w:Wst)(n:Int):Wst:=⟨Z1K (Z3 w).out n,[],[]⟩
mutual
def ZR:Edit→Edit
 | .mk k o n w ks l os=>
  if k=1 then .mk k (Z7 o) (Z7 n) [] [] l []
  else if k=2 then .mk k Tree.nil Tree.nil w (Z0h ks) l []
  else if k=3 then .mk k Tree.nil Tree.nil [] [] l (Z3 (YL l os ⟨[],[],[]⟩)).out
  else .mk k Tree.nil Tree.nil [] [] l []
def Z0h:List (KidOf Edit)→List (KidOf Edit)
 | []=> []
 | k ::r=> Z2J k ::Z0h r
def Z2J:KidOf Edit→KidOf Edit
 | ⟨a,e⟩=> ⟨a,ZR e⟩
def YL(list:Int):List (OpOf Edit)→Wst→Wst
 | [],s=> s
 | o ::r,s=> YL list r (Z1t list o s)
def Z1t(list:Int):OpOf Edit→Wst→Wst
 | ⟨k,n,l,e⟩,s=>
  if k=0 then ZX s n
  else if k=1 then ⟨s.out,s.gone++Z5 l,s.brought⟩
  else if k=2 then ⟨s.out,s.gone,s.brought++Z5 l⟩
  else if k=3 then (if Z6O list (ZR e)=true then ZX s 1 else ⟨(Z3 s).out++[⟨3,0,[],ZR e⟩],[],[]⟩)
  else s
end
theorem Z8c(e:Edit):ZR e=if e.kind=1 then .mk e.kind (Z7 e.old) (Z7 e.new) [] [] e.list []
  else if e.kind=2 then .mk e.kind Tree.nil Tree.nil e.words (Z0h e.kids) e.list []
  else if e.kind=3 then .mk e.kind Tree.nil Tree.nil [] [] e.list (Z3 (YL e.list e.ops ⟨[],[],[]⟩)).out
  else .mk e.kind Tree.nil Tree.nil [] [] e.list []:=by cases e;rfl
theorem Zee(k:Kid):Z2J k=⟨k.at_,ZR k.e⟩:=by cases k;rfl
theorem Z3U(list:Int)(o:Op)(s:Wst):Z1t list o s=if o.kind=0 then ZX s o.n
  else if o.kind=1 then ⟨s.out,s.gone++Z5 o.l,s.brought⟩
  else if o.kind=2 then ⟨s.out,s.gone,s.brought++Z5 o.l⟩
  else if o.kind=3 then (if Z6O list (ZR o.e)=true then ZX s 1 else ⟨(Z3 s).out++[⟨3,0,[],ZR o.e⟩],[],[]⟩)
  else s:=by cases o;rfl
end Go.AM
namespace Go.AM
def Zi8(a b:Int):Int:=IntKind.wrap .u8 (BitVec.ofInt (IntKind.bits .u8) a &&& BitVec.ofInt (IntKind.bits .u8) b).toNat
def orM(a b:Int):Int:=IntKind.wrap .u8 (BitVec.ofInt (IntKind.bits .u8) a ||| BitVec.ofInt (IntKind.bits .u8) b).toNat
def Z9L(p q:WEdit):Bool:=decide (mix 0 p.new (Zi8 p.mask q.mask)=mix 0 q.old (Zi8 p.mask q.mask))
def YM(p q:WEdit):WEdit × Bool:=
 if Z9L p q then (⟨p.at_,orM p.mask q.mask,mix q.old p.old p.mask,mix p.new q.new q.mask⟩,true) else (⟨0,0,0,0⟩,false)
def Zj{α:Type}(at_:α→Int)(one:α→α→α × Bool):List α→List α→Option (List α)
 | [],q=> some q
 | a ::p,[]=> some (a ::p)
 | a ::p,b ::q=>
  if at_ a < at_ b then (Zj at_ one p (b ::q)).map (a ::·)
  else if at_ b < at_ a then (Zj at_ one (a ::p) q).map (b ::·)
  else if (one a b).2 then (Zj at_ one p q).map ((one a b).1 ::·) else none
termination_by p q=> p.length+q.length
def ofO{α:Type}(o:Option (List α)):List α:=o.getD []
structure PRes where
 op:Op
 is:Bool
 ok:Bool
noncomputable def doB(e:Edit)(t:Tree):Tree × Bool:=(Z5z ((doE false e t).map Z7),(doE false e t).isSome)
noncomputable def ZfU(a b:List Tree):Bool:=eqX (Z5 a) (Z5 b)
noncomputable def ZF(f:Edit→Edit→Edit × Bool)(x:Piece):PRes:=
 if x.of=1∨(x.of=0∧x.q.kind=0) then ⟨x.p,true,true⟩
 else if x.of=2∨x.p.kind=0 then ⟨x.q,true,true⟩
 else if x.p.kind=2∧x.q.kind=1 then ⟨Op.nil,false,ZfU x.p.l (x.q.l.take x.p.l.length)⟩
 else if x.p.kind=2 then ⟨⟨2,0,[(doB x.q.e (x.p.l.getD 0 Tree.nil)).1],Edit.nil⟩,true,(doB x.q.e (x.p.l.getD 0 Tree.nil)).2⟩
 else if x.q.kind=1 then ⟨⟨1,0,[(doB (ZR (Zv x.p.e)) (x.q.l.getD 0 Tree.nil)).1],Edit.nil⟩,true,(doB (ZR (Zv x.p.e)) (x.q.l.getD 0 Tree.nil)).2⟩
 else ⟨⟨3,0,[],(f x.p.e x.q.e).1⟩,true,(f x.p.e x.q.e).2⟩
noncomputable def JN(f:Edit→Edit→Edit × Bool):List Piece→Option (List Op)
 | []=> some []
 | x ::r=> if (ZF f x).ok then (JN f r).map ((if (ZF f x).is then [(ZF f x).op] else [])++·) else none
noncomputable def Z08(f:Edit→Edit→Edit × Bool)(p q:List Op):Option (List Op):=
 if (Y4 1 2 p q []).2.1 then JN f (Y4 1 2 p q []).1 else none
def Z0x(f:Edit→Edit→Edit × Bool)(a b:Kid):Kid × Bool:=(⟨a.at_,(f a.e b.e).1⟩,(f a.e b.e).2)
noncomputable def Jx(f:Edit→Edit→Edit × Bool)(p q:Edit):Edit × Bool:=
 if p.kind=0 then (q,true)
 else if q.kind=0 then (p,true)
 else if p.kind=1 then (.mk 1 p.old (doB q p.new).1 [] [] 0 [],(doB q p.new).2)
 else if q.kind=1 then (.mk 1 (doB (ZR (Zv p)) q.old).1 q.new [] [] 0 [],(doB (ZR (Zv p)) q.old).2)
 else if p.kind≠q.kind∨p.list≠q.list then (Edit.nil,false)
 else if p.kind=2 then
  if (Zj WEdit.at_ YM p.words q.words).isSome then
   (.mk 2 Tree.nil Tree.nil (ofO (Zj WEdit.at_ YM p.words q.words)) (ofO (Zj KidOf.at_ (Z0x f) p.kids q.kids)) 0 [],(Zj KidOf.at_ (Z0x f) p.kids q.kids).isSome)
  else (Edit.nil,false)
 else (.mk 3 Tree.nil Tree.nil [] [] p.list (ofO (Z08 f p.ops q.ops)),(Z08 f p.ops q.ops).isSome)
noncomputable def Zb0:Nat→Edit→Edit→Edit × Bool
 | 0,_,_=> (Edit.nil,false)
 | n+1,p,q=> Jx (Zb0 n) p q
noncomputable def Y5(p q:Edit):Edit × Bool:=Zb0 (Zc p+Zc q) p q
def Z1R(e:Edit):Prop:=ctE e≤9000000000∧ZS e∧∃ d,Z0 e d=true
def Zqs(k:Kid):Prop:=Z2X k≤9000000000∧Z0F k∧∃ d,Z0 k.e d=true
def ZaS(l:List Kid):Prop:=Z0i l≤9000000000∧JT l∧∀ k∈l,∃ d,Z0 k.e d=true
def Zmv(l:List Op):Prop:=YS l≤9000000000∧JL l∧∀ o∈l,∃ list d,Za list o d=true
def Zou(o:Op):Prop:=YI o∧Z1Y o≤9000000000∧YA o∧(o.kind=3→∃ d,Z0 o.e d=true)
structure PcOk (x:Piece):Prop where
 of:x.of=0∨x.of=1∨x.of=2
 pp:x.of≠2→Zou x.p
 qq:x.of≠1→Zou x.q
 both:x.of=0→x.p.kind≠1∧x.q.kind≠2∧Z2 x.p=Z2 x.q
end Go.AM
namespace Go.AM
noncomputable def Z4U(p q:Edit):Edit × Bool:=if (Y5 p q).2=true then (ZR (Y5 p q).1,true) else (Edit.nil,false)
end Go.AM
namespace Go.AM
def Z7w(list:Int):Tree:=if 2≤list∧list≤7 then .mk 10 [0] [] else if list=9 then .mk 1 [] [] else Tree.nil
def Z1m:List WEdit→List Int→List Int
 | [],out=> out
 | w ::r,out=> Z1m r (ZV 0 out w.at_.toNat w.old)
mutual
def Z0C:Edit→Tree
 | .mk k o n w ks l os=> if k=1 then o else if k=2 then .mk 1 (Z1m w []) (Js ks []) else if k=3 then .mk l [] (Z09 l os) else .mk l [] []
def Js:List (KidOf Edit)→List Tree→List Tree
 | [],out=> out
 | k ::r,out=> Js r (ZV Tree.nil out (KidOf.at_ k).toNat (ZjP k))
def ZjP:KidOf Edit→Tree
 | ⟨_,e⟩=> Z0C e
def Z09(l:Int):List (OpOf Edit)→List Tree
 | []=> []
 | o ::r=> Z1n l o++Z09 l r
def Z1n(l:Int):OpOf Edit→List Tree
 | ⟨k,n,t,e⟩=> if k=1 then t else if k=3 then [Z0C e] else if k=2 then [] else List.replicate n.toNat (Z7w l)
end
theorem Z1o(e:Edit):Z0C e=if e.kind=1 then e.old else if e.kind=2 then .mk 1 (Z1m e.words []) (Js e.kids []) else if e.kind=3 then .mk e.list [] (Z09 e.list e.ops) else .mk e.list [] []:=by cases e;rfl
theorem Z4j(k:Kid):ZjP k=Z0C k.e:=by cases k;rfl
theorem Z3I(l:Int)(o:Op):Z1n l o=if o.kind=1 then o.l else if o.kind=3 then [Z0C o.e] else if o.kind=2 then [] else List.replicate o.n.toNat (Z7w l):=by cases o;rfl
end Go.AM
namespace Go.AM
instance:Inhabited PStep:=⟨⟨0,0⟩⟩
def ZuA(s:PStep)(t:Tree):Prop:=s.kind=0∧0≤s.at_∧(t.kind=1∧s.at_ < 65535∨(2≤t.kind∧t.kind≤9)∧s.at_ < t.kids.length)
instance (s:PStep) (t:Tree):Decidable (ZuA s t):=by unfold ZuA;infer_instance
end Go.AM
namespace Go.AM.Ytpjenobkibfpcaa
open Go.AM Go.Proofs
theorem ZbZ(a:Tree):Jo a a=true:=by simp [Jo]
theorem Zmf(l:List Int):trim (trim l)=trim l:=by
 induction l with
 | nil=> rfl
 | cons x r ih=>
  rw [Z24]
  split
  ·try rfl
  ·rename_i h
   rw [Z24,ih,if_neg h]
theorem Zil(l:List Tree):Yf (Yf l)=Yf l:=by
 induction l with
 | nil=> rfl
 | cons x r ih=>
  rw [JP]
  split
  ·try rfl
  ·rename_i h
   rw [JP,ih,if_neg h]
def Normed:List Tree→Prop
 | []=> True
 | t ::r=> Z7 t=t∧Normed r
theorem Normed.eq:∀ {l:List Tree},Normed l→Yl l=l
 | [],_=> rfl
 | t ::r,h=> by simp only [Yl,h.1,Normed.eq h.2]
theorem Normed.trim:∀ {l:List Tree},Normed l→Normed (Yf l)
 | [],_=> trivial
 | t ::r,h=> by
  rw [JP]
  split
  ·trivial
  ·exact ⟨h.1,Normed.trim h.2⟩
mutual
theorem J0:∀ (t:Tree),Z7 (Z7 t)=Z7 t
 | .mk k w ks=> by
  have h:=Z8e ks
  by_cases h0:k=0
  ·simp [Z7,h0,Tree.nil]
  ·by_cases h1:k=1
   ·subst h1
    simp only [Z7,if_neg h0,if_true,Zmf,h.trim.eq,Zil]
   ·simp only [Z7,if_neg h0,if_neg h1,h.eq]
theorem Z8e:∀ (ks:List Tree),Normed (Yl ks)
 | []=> trivial
 | t ::r=> ⟨J0 t,Z8e r⟩
end
end Go.AM.Ytpjenobkibfpcaa
namespace Go.AM.Ytpjenobkibfpcaa
open Go.AM Go.Proofs
noncomputable section
noncomputable section
def Zbm:ArgL (Edit × Unit):=(.cons (aEl .edit) .nil)
def Z0I(a:Edit × Unit):Prop:=Zc a.1≤20000000000
def Z5E(a:Edit × Unit):Nat:=2*Zc a.1
def Zce(a:Edit × Unit):V U:= .agg (enc .edit (Zv a.1))
def Z7R:Fs U:=fs Zbm (fun a=> [Z0I a]) Zce
def Zbi:ArgL (Op × Unit):=(.cons (aEl .op) .nil)
def Z5v(a:Op × Unit):Prop:=Zx a.1≤20000000000
def Zao(a:Op × Unit):Nat:=2*Zx a.1+1
def Z5p(a:Op × Unit):V U:= .agg (enc .op (ZZ a.1))
def ZjS:Fs U:=fs Zbi (fun a=> [Z5v a]) Z5p
def J2(N:Nat):List (FuncId × Fs U):=(118,fs Zbm (fun a=> [Z0I a,Z5E a < N]) Zce) ::(163,fs Zbi (fun a=> [Z5v a,Zao a < N]) Z5p) ::[]
def Z1w:Zh U:=fun i=> match i with
 | 0=> ([(1,[]),(2,[])],[(.loc 1,[]),(.loc 2,[])])
 | 1=> ([(1,[]),(2,[]),(3,[])],[(.loc 1,[]),(.loc 2,[]),(.loc 3,[])])
 | 2=> ([(1,[]),(2,[]),(3,[]),(20,[]),(21,[]),(22,[])],[(.loc 1,[]),(.loc 2,[]),(.loc 3,[.any,.any,.any,.any,.any,.any,.any,.own .wedit])])
 | 3=> ([(1,[]),(2,[]),(3,[]),(20,[]),(21,[]),(22,[]),(23,[])],[(.loc 1,[]),(.loc 2,[]),(.loc 3,[])])
 | 4=> ([(1,[]),(2,[]),(3,[]),(5,[]),(20,[]),(21,[]),(22,[])],[(.loc 1,[]),(.loc 2,[]),(.loc 3,[]),(.loc 5,[])])
 | 5=> ([(1,[]),(2,[]),(3,[]),(20,[]),(21,[]),(22,[])],[(.loc 1,[]),(.loc 2,[]),(.loc 3,[])])
 | 6=> ([(1,[]),(2,[]),(3,[]),(20,[]),(21,[]),(22,[])],[(.loc 1,[]),(.loc 2,[]),(.loc 3,[.any,.any,.any,.any,.any,.any,.any,.own .wedit])])
 | 7=> ([(1,[]),(2,[]),(3,[]),(42,[]),(43,[]),(44,[])],[(.loc 1,[]),(.loc 2,[]),(.loc 3,[.any,.any,.any,.any,.any,.any,.any,.any,.own .kid])])
 | 8=> ([(1,[]),(2,[]),(3,[]),(42,[]),(43,[]),(44,[]),(45,[])],[(.loc 1,[]),(.loc 2,[]),(.loc 3,[])])
 | 9=> ([(1,[]),(2,[]),(3,[]),(7,[]),(42,[]),(43,[]),(44,[])],[(.loc 1,[]),(.loc 2,[]),(.loc 3,[]),(.loc 7,[])])
 | 10=> ([(1,[]),(2,[]),(3,[]),(42,[]),(43,[]),(44,[])],[(.loc 1,[]),(.loc 2,[]),(.loc 3,[])])
 | 11=> ([(1,[]),(2,[]),(3,[]),(42,[]),(43,[]),(44,[])],[(.loc 1,[]),(.loc 2,[]),(.loc 3,[.any,.any,.any,.any,.any,.any,.any,.any,.own .kid])])
 | 12=> ([(2,[]),(3,[]),(61,[]),(62,[]),(63,[])],[(.loc 2,[]),(.loc 3,[.any,.any,.any,.any,.any,.any,.any,.any,.any,.any,.own .op])])
 | 13=> ([(2,[]),(3,[]),(61,[]),(62,[]),(63,[]),(64,[])],[(.loc 2,[]),(.loc 3,[])])
 | 14=> ([(2,[]),(3,[]),(9,[]),(61,[]),(62,[]),(63,[])],[(.loc 2,[]),(.loc 3,[]),(.loc 9,[])])
 | 15=> ([(2,[]),(3,[]),(61,[]),(62,[]),(63,[])],[(.loc 2,[]),(.loc 3,[])])
 | 16=> ([(2,[]),(3,[]),(61,[]),(62,[]),(63,[])],[(.loc 2,[]),(.loc 3,[.any,.any,.any,.any,.any,.any,.any,.any,.any,.any,.own .op])])
 | 17=> ([(2,[])],[(.loc 2,[])])
 | _=> ([],[])
def Z2n(e:Edit)(x22:Int)(ml3_7:List WEdit):LSt U:=(L2 [(1,.ptr (.loc 1) 0),(2,.ptr (.loc 2) 0),(3,.ptr (.loc 3) 0),(20,.c (sU .wedit e.words .unk)),(21,.c (ci (e.words.length:Int))),(22,.c (ci x22))] [(.loc 1,(enc .edit e)),(.loc 2,zc1),(.loc 3,([ci e.kind]++enc .tree e.new++enc .tree e.old++[sU .wedit ml3_7 (.own (.l 3 7)),.nils,ci e.list,.nils]))])
def Z2m(e:Edit)(ml3_7:List WEdit)(x44_a:Int)(ml3_8_a:List Kid):LSt U:=(L2 [(1,.ptr (.loc 1) 0),(2,.ptr (.loc 2) 0),(3,.ptr (.loc 3) 0),(42,.c (sU .kid e.kids .unk)),(43,.c (ci (e.kids.length:Int))),(44,.c (ci x44_a))] [(.loc 1,(enc .edit e)),(.loc 2,zc1),(.loc 3,([ci e.kind]++enc .tree e.new++enc .tree e.old++[sU .wedit ml3_7 (.own (.l 3 7)),sU .kid ml3_8_a (.own (.l 3 8)),ci e.list,.nils]))])
def Z2l(e:Edit)(ml3_7:List WEdit)(ml3_8_a:List Kid)(x63_b:Int)(ml3_10_b:List Op):LSt U:=(L2 [(2,.ptr (.loc 2) 0),(3,.ptr (.loc 3) 0),(61,.c (sU .op e.ops .unk)),(62,.c (ci (e.ops.length:Int))),(63,.c (ci x63_b))] [(.loc 2,zc1),(.loc 3,([ci e.kind]++enc .tree e.new++enc .tree e.old++[sU .wedit ml3_7 (.own (.l 3 7)),sU .kid ml3_8_a (.own (.l 3 8)),ci e.list,sU .op ml3_10_b (.own (.l 3 10))]))])
abbrev Zzd(N:Nat)(e:Edit)(Q:QT):=AW (Z1 (J2 N)) Try.f118 Z1w [] (L2 [(0,.agg (enc .edit e))] []) Q
abbrev Z7x(N:Nat):=awp cfg (Z1 (J2 N)) (ZJ cfg (Z1 (J2 N))) Try.f118.ntmps Z1w
abbrev Z6W(N:Nat):=Z7Y cfg (Z1 (J2 N)) (ZJ cfg (Z1 (J2 N))) Try.f118.ntmps Z1w
theorem Zyr(N:Nat)(e:Edit)(Q:QT)(h:Zl (AW (Z1 (J2 N)) Try.f118 Z1w [1,1,0,1,0,0]) (Z2n e 0 []) (xB 0 (SW (Z1 (J2 N)) Try.f118 Z1w [1,1,1] Q))):
  Zzd N e Q:=by
 have e_:(Zzd N e Q)=(Zl (Z7x N (cd Try.f118 [1,1,0,1,0,0])) (Z2n e 0 []) (xB 0 (Z6W N (cd Try.f118 [1,1,1]) Q))):=by kernel_rfl
 exact e_.mpr h
abbrev Zm8(N:Nat)(e:Edit)(x22:Int)(ml3_7:List WEdit)(N0:NT)(Q:QT):=AW (Z1 (J2 N)) Try.f118 Z1w [1,1,0,1,0,0] (Z2n e x22 ml3_7) (xT N0 (xB 0 (SW (Z1 (J2 N)) Try.f118 Z1w [1,1,1] Q)))
theorem Zo4(N:Nat)(e:Edit)(x22:Int)(ml3_7:List WEdit)(N0:NT)(Q:QT)(h:((decide (x22 < (e.words.length:Int)))=true→((0:Int)≤x22∧x22 < (e.words.length:Int))∧(((ml3_7.length+([(WEdit.mk (WEdit.at_ (e.words.getD x22.toNat (WEdit.mk 0 0 0 0))) (WEdit.mask (e.words.getD x22.toNat (WEdit.mk 0 0 0 0))) (WEdit.new (e.words.getD x22.toNat (WEdit.mk 0 0 0 0))) (WEdit.old (e.words.getD x22.toNat (WEdit.mk 0 0 0 0))))]).length)*32≤140737488355328)∧((InR (x22+1))∧(N0 (Z2n e (x22+1) (ml3_7++([(WEdit.mk (WEdit.at_ (e.words.getD x22.toNat (WEdit.mk 0 0 0 0))) (WEdit.mask (e.words.getD x22.toNat (WEdit.mk 0 0 0 0))) (WEdit.new (e.words.getD x22.toNat (WEdit.mk 0 0 0 0))) (WEdit.old (e.words.getD x22.toNat (WEdit.mk 0 0 0 0))))])))))))∧((decide (x22 < (e.words.length:Int)))=false→Zl (AW (Z1 (J2 N)) Try.f118 Z1w [1,1,1,0,1,0,0]) (Z2m e ml3_7 0 []) (xB 2 (SW (Z1 (J2 N)) Try.f118 Z1w [1,1,1,1] Q)))):
  Zm8 N e x22 ml3_7 N0 Q:=by
 have e_:(Zm8 N e x22 ml3_7 N0 Q)=(let zz0:=(decide ((x22:Int) < (e.words.length:Int)));((zz0=true→((0:Int)≤x22∧x22 < (e.words.length:Int))∧(((ml3_7.length+([(WEdit.mk (WEdit.at_ (e.words.getD x22.toNat (WEdit.mk 0 0 0 0))) (WEdit.mask (e.words.getD x22.toNat (WEdit.mk 0 0 0 0))) (WEdit.new (e.words.getD x22.toNat (WEdit.mk 0 0 0 0))) (WEdit.old (e.words.getD x22.toNat (WEdit.mk 0 0 0 0))))]).length)*32≤140737488355328)∧((InR ((x22:Int)+1))∧(N0 (Z2n e ((x22:Int)+1) (ml3_7++([(WEdit.mk (WEdit.at_ (e.words.getD x22.toNat (WEdit.mk 0 0 0 0))) (WEdit.mask (e.words.getD x22.toNat (WEdit.mk 0 0 0 0))) (WEdit.new (e.words.getD x22.toNat (WEdit.mk 0 0 0 0))) (WEdit.old (e.words.getD x22.toNat (WEdit.mk 0 0 0 0))))])))))))∧(zz0=false→(Zl (Z7x N (cd Try.f118 [1,1,1,0,1,0,0])) (Z2m e ml3_7 0 []) (xB 2 (Z6W N (cd Try.f118 [1,1,1,1]) Q)))))):=by kernel_rfl
 exact e_.mpr ⟨fun c_7=> ⟨(h.1 c_7).1,⟨(h.1 c_7).2.1,⟨(h.1 c_7).2.2.1,(h.1 c_7).2.2.2⟩⟩⟩,fun c_7=> (h.2 c_7)⟩
abbrev Zm7(N:Nat)(e:Edit)(ml3_7:List WEdit)(x44_a:Int)(ml3_8_a:List Kid)(N1:NT)(Q:QT):=AW (Z1 (J2 N)) Try.f118 Z1w [1,1,1,0,1,0,0] (Z2m e ml3_7 x44_a ml3_8_a) (xT N1 (xB 2 (SW (Z1 (J2 N)) Try.f118 Z1w [1,1,1,1] Q)))
theorem Zo3(N:Nat)(e:Edit)(ml3_7:List WEdit)(x44_a:Int)(ml3_8_a:List Kid)(N1:NT)(Q:QT)(h:∀ y_1,y_1=(e.kids.getD x44_a.toNat (KidOf.mk 0 Edit.nil))→∀ y_2,y_2=(y_1.e)→∀ y_3,y_3=(Zv y_2)→((decide (x44_a < (e.kids.length:Int)))=true→((0:Int)≤x44_a∧x44_a < (e.kids.length:Int))∧((Z0I (y_2,()))∧(Z5E (y_2,()) < N)∧((ml3_8_a.length+([(KidOf.mk y_1.at_ y_3:Kid)]).length)*208≤140737488355328)∧((InR (x44_a+1))∧(N1 (Z2m e ml3_7 (x44_a+1) (ml3_8_a++([(KidOf.mk y_1.at_ y_3:Kid)])))))))∧((decide (x44_a < (e.kids.length:Int)))=false→Zl (AW (Z1 (J2 N)) Try.f118 Z1w [1,1,1,1,0,1,0,0]) (Z2l e ml3_7 ml3_8_a 0 []) (xB 4 (SW (Z1 (J2 N)) Try.f118 Z1w [1,1,1,1,1] Q)))):
  Zm7 N e ml3_7 x44_a ml3_8_a N1 Q:=by
 have e_:(Zm7 N e ml3_7 x44_a ml3_8_a N1 Q)=(let y_1:=(e.kids.getD x44_a.toNat (KidOf.mk 0 Edit.nil));let y_2:=(Jl y_1.e);let y_3:=(Jl (Zv y_2));let zz0:=(decide ((x44_a:Int) < (e.kids.length:Int)));((zz0=true→((0:Int)≤x44_a∧x44_a < (e.kids.length:Int))∧((Z0I (y_2,()))∧(Z5E (y_2,()) < N)∧((ml3_8_a.length+([(KidOf.mk y_1.at_ y_3:Kid)]).length)*208≤140737488355328)∧((InR ((x44_a:Int)+1))∧(N1 (Z2m e ml3_7 ((x44_a:Int)+1) (ml3_8_a++([(KidOf.mk y_1.at_ y_3:Kid)])))))))∧(zz0=false→(Zl (Z7x N (cd Try.f118 [1,1,1,1,0,1,0,0])) (Z2l e ml3_7 ml3_8_a 0 []) (xB 4 (Z6W N (cd Try.f118 [1,1,1,1,1]) Q)))))):=by kernel_rfl
 exact e_.mpr (by intro y_1 y_2 y_3;have hh:=h y_1 rfl y_2 (Zf _) y_3 (Zf _);exact ⟨fun c_8=> ⟨(hh.1 c_8).1,⟨(hh.1 c_8).2.1,(hh.1 c_8).2.2.1,(hh.1 c_8).2.2.2.1,⟨(hh.1 c_8).2.2.2.2.1,(hh.1 c_8).2.2.2.2.2⟩⟩⟩,fun c_8=> (hh.2 c_8)⟩)
abbrev Zm6(N:Nat)(e:Edit)(ml3_7:List WEdit)(ml3_8_a:List Kid)(x63_b:Int)(ml3_10_b:List Op)(N2:NT)(Q:QT):=AW (Z1 (J2 N)) Try.f118 Z1w [1,1,1,1,0,1,0,0] (Z2l e ml3_7 ml3_8_a x63_b ml3_10_b) (xT N2 (xB 4 (SW (Z1 (J2 N)) Try.f118 Z1w [1,1,1,1,1] Q)))
theorem Zo2(N:Nat)(e:Edit)(ml3_7:List WEdit)(ml3_8_a:List Kid)(x63_b:Int)(ml3_10_b:List Op)(N2:NT)(Q:QT)(h:∀ y_1,y_1=(e.ops.getD x63_b.toNat Op.nil)→∀ y_2,y_2=y_1→∀ y_3,y_3=(ZZ y_2)→((decide (x63_b < (e.ops.length:Int)))=true→((0:Int)≤x63_b∧x63_b < (e.ops.length:Int))∧((Z5v (y_2,()))∧(Zao (y_2,()) < N)∧((ml3_10_b.length+([y_3]).length)*240≤140737488355328)∧((InR (x63_b+1))∧(N2 (Z2l e ml3_7 ml3_8_a (x63_b+1) (ml3_10_b++([y_3])))))))∧((decide (x63_b < (e.ops.length:Int)))=false→Q .ret (L2 [(2,.ptr (.loc 2) 0)] [(.loc 2,([ci e.kind]++enc .tree e.new++enc .tree e.old++[sU .wedit ml3_7 (.own (.l 2 7)),sU .kid ml3_8_a (.own (.l 2 8)),ci e.list,sU .op ml3_10_b (.own (.l 2 10))]))]))):
  Zm6 N e ml3_7 ml3_8_a x63_b ml3_10_b N2 Q:=by
 have e_:(Zm6 N e ml3_7 ml3_8_a x63_b ml3_10_b N2 Q)=(let y_1:=(e.ops.getD x63_b.toNat Op.nil);let y_2:=(ZiM y_1);let y_3:=(ZiM (ZZ y_2));let zz0:=(decide ((x63_b:Int) < (e.ops.length:Int)));((zz0=true→((0:Int)≤x63_b∧x63_b < (e.ops.length:Int))∧((Z5v (y_2,()))∧(Zao (y_2,()) < N)∧((ml3_10_b.length+([y_3]).length)*240≤140737488355328)∧((InR ((x63_b:Int)+1))∧(N2 (Z2l e ml3_7 ml3_8_a ((x63_b:Int)+1) (ml3_10_b++([y_3])))))))∧(zz0=false→(Q .ret (L2 [(2,.ptr (.loc 2) 0)] [(.loc 2,([ci e.kind]++enc .tree e.new++enc .tree e.old++[sU .wedit ml3_7 (.own (.l 2 7)),sU .kid ml3_8_a (.own (.l 2 8)),ci e.list,sU .op ml3_10_b (.own (.l 2 10))]))]))))):=by kernel_rfl
 exact e_.mpr (by intro y_1 y_2 y_3;have hh:=h y_1 rfl y_2 (Jh _) y_3 (Jh _);exact ⟨fun c_9=> ⟨(hh.1 c_9).1,⟨(hh.1 c_9).2.1,(hh.1 c_9).2.2.1,(hh.1 c_9).2.2.2.1,⟨(hh.1 c_9).2.2.2.2.1,(hh.1 c_9).2.2.2.2.2⟩⟩⟩,fun c_9=> (hh.2 c_9)⟩)
def Zu1(N:Nat)(e:Edit):Prop:=AW (Z1 (J2 N)) Try.f118 Z1w [] (Zn (Zbm.can (e,())) []) (EQ Try.f118 (Zce (e,())) [])
abbrev ZuZ:Prop:=∀ (N:Nat) (e:Edit) (_:Unit),Z0I (e,())→Z5E (e,()) < N+1→Zu1 N e
def Zl6(N:Nat):List (FuncId × Fs U):=(118,fs Zbm (fun a=> [Z0I a,Z5E a < N]) Zce) ::(163,fs Zbi (fun a=> [Z5v a,Zao a < N]) Z5p) ::[]
def ZpR:Zh U:=lvl [([1,2],[1,2]),([1,2,4],[1,2]),([1,2,4,5],[1,2]),([1,2],[1,2]),([1,2,4,8],[1,2]),([1,2],[1,2]),([1,2,11],[1,2]),([1,2],[1,2]),([2],[2])]
abbrev Zz3(N:Nat)(o:Op)(Q:QT):=AW (Z1 (Zl6 N)) Try.f163 ZpR [] (L2 [(0,.agg (enc .op o))] []) Q
theorem Zy5(N:Nat)(o:Op)(Q:QT)(h:∀ y_1,y_1=(o.e)→((o.kind==1)=true→Q .ret (L2 [(2,.ptr (.loc 2) 0)] [(.loc 2,([ci 2,ci o.n,sU .tree o.l .unk]++enc .edit o.e))]))∧((o.kind==1)=false→((o.kind==2)=true→Q .ret (L2 [(2,.ptr (.loc 2) 0)] [(.loc 2,([ci 1,ci o.n,sU .tree o.l .unk]++enc .edit o.e))]))∧((o.kind==2)=false→((o.kind==3)=true→(Z0I (y_1,()))∧(Z5E (y_1,()) < N)∧(Q .ret (L2 [(2,.ptr (.loc 2) 0)] [(.loc 2,([ci o.kind,ci o.n,sU .tree o.l .unk]++enc .edit (Zv y_1)))])))∧((o.kind==3)=false→Q .ret (L2 [(2,.ptr (.loc 2) 0)] [(.loc 2,(enc .op o))]))))):
  Zz3 N o Q:=by
 have e_:(Zz3 N o Q)=(let y_1:=(Jl o.e);(((o.kind==1)=true→(Q .ret (L2 [(2,.ptr (.loc 2) 0)] [(.loc 2,([ci 2,ci o.n,sU .tree o.l .unk]++enc .edit o.e))])))∧((o.kind==1)=false→(((o.kind==2)=true→(Q .ret (L2 [(2,.ptr (.loc 2) 0)] [(.loc 2,([ci 1,ci o.n,sU .tree o.l .unk]++enc .edit o.e))])))∧((o.kind==2)=false→(((o.kind==3)=true→(Z0I (y_1,()))∧(Z5E (y_1,()) < N)∧(Q .ret (L2 [(2,.ptr (.loc 2) 0)] [(.loc 2,([ci o.kind,ci o.n,sU .tree o.l .unk]++enc .edit (Zv y_1)))])))∧((o.kind==3)=false→(Q .ret (L2 [(2,.ptr (.loc 2) 0)] [(.loc 2,(enc .op o))]))))))))):=by kernel_rfl
 exact e_.mpr (by intro y_1;have hh:=h y_1 (Zf _);exact ⟨fun c_10=> (hh.1 c_10),fun c_10=> ⟨fun c_11=> ((hh.2 c_10).1 c_11),fun c_11=> ⟨fun c_12=> ⟨(((hh.2 c_10).2 c_11).1 c_12).1,(((hh.2 c_10).2 c_11).1 c_12).2.1,(((hh.2 c_10).2 c_11).1 c_12).2.2⟩,fun c_12=> (((hh.2 c_10).2 c_11).2 c_12)⟩⟩⟩)
def ZtF(N:Nat)(o:Op):Prop:=AW (Z1 (Zl6 N)) Try.f163 ZpR [] (Zn (Zbi.can (o,())) []) (EQ Try.f163 (Z5p (o,())) [])
abbrev ZuT:Prop:=∀ (N:Nat) (o:Op) (_:Unit),Z5v (o,())→Zao (o,()) < N+1→ZtF N o
theorem ZhA(ha:ZuZ)(hb:ZuT):CT 118 Z7R∧CT 163 ZjS:=
 Z3F (μA:=Z5E) (μB:=Zao) (l:=[]) Zo rfl trivial Z1w ZpR Try.func118 Try.func163 rfl rfl rfl rfl 1 1 (fun _=> rfl) (fun _=> rfl) (by decide) (by decide) (fun N ⟨e,_⟩=> ha N e ()) (fun N ⟨o,_⟩=> hb N o ())
end
end
end Go.AM.Ytpjenobkibfpcaa
namespace Go.AM.Ytpjenobkibfpcaa
open Go.AM Go.Proofs
theorem JC(o:Op):ZZ o=if o.kind=1 then ⟨2,o.n,o.l,o.e⟩ else if o.kind=2 then ⟨1,o.n,o.l,o.e⟩ else if o.kind=3 then ⟨o.kind,o.n,o.l,Zv o.e⟩ else ⟨o.kind,o.n,o.l,o.e⟩:=by cases o;rfl
theorem Zon(e:Edit):Zv e= .mk e.kind e.new e.old (e.words.map YG) (Y3 e.kids) e.list (Y6 e.ops):=by cases e;rfl
theorem Zbs(k:Kid):YN k=⟨k.at_,Zv k.e⟩:=by cases k;rfl
theorem ZAf:ZuT:=by
 intro N o _ hp hN
 simp only [Z5v,Zao] at hp hN
 rw [ZW] at hp hN
 have hpos:=Z40 o.e
 refine Zy5 _ _ _ ?_
 rintro y hy
 (simp only [vcS])
 refine ⟨fun h=> ?_,fun h=> ⟨fun h2=> ?_,fun h2=> ⟨fun h3=> ⟨by simp only [Z0I,hy];omega,by simp only [Z5E,hy];omega,?_⟩,fun h3=> ?_⟩⟩⟩
 ·have e:ZZ o=⟨2,o.n,o.l,o.e⟩:=by rw [JC,if_pos h]
  simp only [Z5p,e]
  (repeat' (first | exact trivial | exact rfl | apply And.intro))
 ·have e:ZZ o=⟨1,o.n,o.l,o.e⟩:=by rw [JC,if_neg h,if_pos h2]
  simp only [Z5p,e]
  (repeat' (first | exact trivial | exact rfl | apply And.intro))
 ·have e:ZZ o=⟨o.kind,o.n,o.l,Zv o.e⟩:=by rw [JC,if_neg h,if_neg h2,if_pos h3]
  simp only [Z5p,e]
  rw [hy]
  (repeat' (first | exact trivial | exact rfl | apply And.intro))
 ·have e:ZZ o=⟨o.kind,o.n,o.l,o.e⟩:=by rw [JC,if_neg h,if_neg h2,if_neg h3]
  simp only [Z5p,e]
  (repeat' (first | exact trivial | exact rfl | apply And.intro))
theorem ZAg:ZuZ:=by
 intro N e _ hp hN
 simp only [Z0I,Z5E] at hp hN
 have h1:=Yr e
 have h2:=Yi e.kids
 have h3:=massOs_len e.ops
 have ha:=Zon e
 refine Zyr _ _ _ ?_
 refine Ze (ι:=Int × List WEdit) (fun s=> Z2n e s.1 s.2) (fun s=> 0≤s.1∧s.1≤e.words.length∧s.2.length=s.1∧s.2++(e.words.drop s.1.toNat).map YG=e.words.map YG) (fun s=> ((e.words.length:Int) - s.1).toNat) (0,[]) rfl ⟨by simp,by simp,by simp,by simp⟩ ?_
 rintro ⟨i,ws⟩ ⟨g1,g2,g3,g4⟩
 dsimp only at g1 g2 g3 g4
 refine Zo4 _ _ _ _ _ _ ?_
 (simp only [vcS])
 refine ⟨fun hi=> ?_,fun hi=> ?_⟩
 ·rw [YU g1 hi (WEdit.mk 0 0 0 0)] at g4
  simp only [List.map_cons] at g4
  refine ⟨⟨g1,hi⟩,by simp;omega,by unfold InR;omega,(i+1,ws++[YG (e.words.getD i.toNat (WEdit.mk 0 0 0 0))]),rfl,⟨by dsimp only;omega,by dsimp only;omega,by simp;omega,?_⟩,by dsimp only;omega⟩
  simp only [List.append_assoc,List.cons_append,List.nil_append]
  exact g4
 ·rw [List.drop_of_length_le (by omega)] at g4
  simp only [List.map_nil,List.append_nil] at g4
  refine Ze (ι:=Int × List Kid) (fun s=> Z2m e ws s.1 s.2) (fun s=> 0≤s.1∧s.1≤e.kids.length∧s.2.length=s.1∧s.2++Y3 (e.kids.drop s.1.toNat)=Y3 e.kids) (fun s=> ((e.kids.length:Int) - s.1).toNat) (0,[]) rfl ⟨by simp,by simp,by simp,by simp⟩ ?_
  rintro ⟨j,ks⟩ ⟨f1,f2,f3,f4⟩
  dsimp only at f1 f2 f3 f4
  refine Zo3 _ _ _ _ _ _ _ ?_
  rintro y1 hy1 y2 hy2 y3 hy3
  (simp only [vcS])
  refine ⟨fun hj=> ?_,fun hj=> ?_⟩
  ·have hm:=JX (Zm (l:=e.kids) (i:=j.toNat) (by omega) (KidOf.mk 0 Edit.nil))
   rw [YU f1 hj (KidOf.mk 0 Edit.nil)] at f4
   rw [←hy1] at f4 hm
   simp only [Y3,Zbs] at f4
   rw [←hy2] at f4 hm
   rw [←hy3] at f4
   refine ⟨⟨f1,hj⟩,by simp only [Z0I];omega,by simp only [Z5E];omega,by simp;omega,by unfold InR;omega,(j+1,ks++[⟨y1.at_,y3⟩]),rfl,⟨by dsimp only;omega,by dsimp only;omega,by simp;omega,?_⟩,by dsimp only;omega⟩
   simp only [List.append_assoc,List.cons_append,List.nil_append]
   exact f4
  ·rw [List.drop_of_length_le (by omega)] at f4
   simp only [Y3,List.append_nil] at f4
   refine Ze (ι:=Int × List Op) (fun s=> Z2l e ws ks s.1 s.2) (fun s=> 0≤s.1∧s.1≤e.ops.length∧s.2.length=s.1∧s.2++Y6 (e.ops.drop s.1.toNat)=Y6 e.ops) (fun s=> ((e.ops.length:Int) - s.1).toNat) (0,[]) rfl ⟨by simp,by simp,by simp,by simp⟩ ?_
   rintro ⟨k,os⟩ ⟨d1,d2,d3,d4⟩
   dsimp only at d1 d2 d3 d4
   refine Zo2 _ _ _ _ _ _ _ _ ?_
   rintro z1 hz1 z2 hz2 z3 hz3
   (simp only [vcS])
   refine ⟨fun hj=> ?_,fun hj=> ?_⟩
   ·have hm:=Yq (Zm (l:=e.ops) (i:=k.toNat) (by omega) Op.nil)
    rw [YU d1 hj Op.nil] at d4
    rw [←hz1,←hz2] at d4 hm
    simp only [Y6] at d4
    rw [←hz3] at d4
    refine ⟨⟨d1,hj⟩,by simp only [Z5v];omega,by simp only [Zao];omega,by simp;omega,by unfold InR;omega,(k+1,os++[z3]),rfl,⟨by dsimp only;omega,by dsimp only;omega,by simp;omega,?_⟩,by dsimp only;omega⟩
    simp only [List.append_assoc,List.cons_append,List.nil_append]
    exact d4
   ·rw [List.drop_of_length_le (by omega)] at d4
    simp only [Y6,List.append_nil] at d4
    rw [g4,f4,d4]
    simp only [Zce,ha]
    (repeat' (first | exact trivial | exact rfl | apply And.intro))
theorem ZqM:Contract Try.prog cfg 118 Z7R∧Contract Try.prog cfg 163 ZjS:=ZhA ZAg ZAf
end Go.AM.Ytpjenobkibfpcaa
namespace Go.AM.Ytpjenobkibfpcaa
open Go.AM Go.Proofs
theorem Z01:∀ (l:List Op) (n:Int),Z1K l n=l++[⟨0,n,[],Edit.nil⟩]∨∃ a o,l=a++[o]∧o.kind=0∧Z1K l n=a++[⟨o.kind,o.n+n,o.l,o.e⟩]
 | [],n=> Or.inl rfl
 | [o],n=> by
  by_cases h:o.kind=0
  ·exact Or.inr ⟨[],o,rfl,h,by simp [Z1K,h]⟩
  ·exact Or.inl (by simp [Z1K,h])
 | o ::p ::r,n=> by
  rcases Z01 (p ::r) n with h | ⟨a,q,h1,h2,h3⟩
  ·exact Or.inl (by simp only [Z1K,h,List.cons_append])
  ·exact Or.inr ⟨o ::a,q,by rw [h1];rfl,h2,by simp only [Z1K,h3,List.cons_append]⟩
def W0:Wst:=⟨[],[],[]⟩
theorem Zal(l:List Tree):Z5 (Z5 l)=Z5 l:=by
 simp only [Z5,List.map_map]
 congr 1
 funext t
 exact J0 t
theorem Ye(a b:List Tree):Z5 (a++b)=Z5 a++Z5 b:=by simp [Z5]
end Go.AM.Ytpjenobkibfpcaa
namespace Go.AM
theorem Z8g{t:Tree}(h:ZT t=true):t=Tree.nil:=by
 obtain ⟨k,w,ks⟩:=t
 simp only [ZT,decide_eq_true_eq] at h
 obtain ⟨h1,h2,h3⟩:=h
 have h1:k=0:=h1
 rw [h1,List.eq_nil_of_length_eq_zero (l:=w) h2,List.eq_nil_of_length_eq_zero (l:=ks) h3]
 try rfl
theorem ZgL{e:Edit}(h:Z0V e=true):e=Edit.nil:=by
 obtain ⟨k,o,n,w,ks,l,os⟩:=e
 simp only [Z0V,Bool.and_eq_true,decide_eq_true_eq] at h
 obtain ⟨⟨⟨h1,h2⟩,h3⟩,h4,h5,h6,h7⟩:=h
 have h1:k=0:=h1
 have h7:l=0:=h7
 rw [h1,h7,Z8g (t:=o) h2,Z8g (t:=n) h3,List.eq_nil_of_length_eq_zero (l:=w) h4,List.eq_nil_of_length_eq_zero (l:=ks) h5,List.eq_nil_of_length_eq_zero (l:=os) h6]
 try rfl
structure RightE (e:Edit) (d:Int):Prop where
 d0:d≠0
 kind:0≤e.kind∧e.kind≤3
 none:e.kind≠1→e.old=Tree.nil∧e.new=Tree.nil
 words0:e.kind≠2→e.words=[]∧e.kids=[]
 ops0:e.kind≠3→e.list=0∧e.ops=[]
 rep:e.kind=1→Z9 e.old (dT d)=true∧Z9 e.new (dT d)=true∧e.old.kind≠10∧e.new.kind≠10
 words:Zk (-1) e.words=true
 kids:Zr (-1) e.kids (d - 1)=true
 list:e.kind=3→2≤e.list∧e.list≤9
 ops:Zt e.list e.ops (d - 1)=true
 len:Z0d e.ops 0 < 1048576∧Z0c e.ops 0 < 1048576
theorem Zp{e:Edit}{d:Int}(h:Z0 e d=true):RightE e d:=by
 obtain ⟨k,o,n,w,ks,l,os⟩:=e
 rw [Z0] at h
 split at h
 ·cases h
 ·rename_i a
  split at h
  ·cases h
  ·rename_i b
   have b1:k≠1→o=Tree.nil∧n=Tree.nil:=by
    intro hk
    by_cases x:ZT o=true∧ZT n=true
    ·exact ⟨Z8g x.1,Z8g x.2⟩
    ·exact absurd (.inl ⟨hk,x⟩) b
   have b2:k≠2→w=[]∧ks=[]:=by
    intro hk
    by_cases x:w.length=0∧ks.length=0
    ·exact ⟨List.eq_nil_of_length_eq_zero x.1,List.eq_nil_of_length_eq_zero x.2⟩
    ·exact absurd (.inr (.inl ⟨hk,x⟩)) b
   have b3:k≠3→l=0∧os=[]:=by
    intro hk
    by_cases x:l≠0∨os.length≠0
    ·exact absurd (.inr (.inr ⟨hk,x⟩)) b
    ·exact ⟨by omega,List.eq_nil_of_length_eq_zero (by omega)⟩
   split at h
   ·rename_i c
    simp only [Bool.and_eq_true,decide_eq_true_eq] at h
    obtain ⟨⟨h1,h2⟩,h3,h4⟩:=h
    have c2:=b2 (by omega)
    have c3:=b3 (by omega)
    obtain ⟨rfl,rfl⟩:=c2
    obtain ⟨rfl,rfl⟩:=c3
    exact ⟨by omega,⟨by show 0≤k;omega,by show k≤3;omega⟩,b1,b2,b3,fun _=> ⟨h1,h2,h3,h4⟩,rfl,rfl,fun e=> by have e:k=3:=e;omega,rfl,by show Z0d [] 0 < _∧Z0c [] 0 < _;simp [Z0d,Z0c]⟩
   ·rename_i c
    simp only [Bool.and_eq_true,decide_eq_true_eq] at h
    obtain ⟨⟨⟨⟨h1,h2⟩,h3⟩,h4⟩,h5⟩:=h
    exact ⟨by omega,⟨by show 0≤k;omega,by show k≤3;omega⟩,b1,b2,b3,fun e=> absurd e c,h1,h2,fun e=> by have e:k=3:=e;show 2≤l∧l≤9;omega,h4,h5⟩
theorem ZG:∀ {ks:List Kid} {last d:Int},Zr last ks d=true→∀ k∈ks,(last < k.at_∧k.at_≤65534∧k.e.kind≠0)∧Z0 k.e d=true
 | [],_,_,_,_,hk=> by cases hk
 | ⟨a,e⟩ ::r,last,d,h,k,hk=> by
  simp only [Zr,YY,Bool.and_eq_true,decide_eq_true_eq] at h
  obtain ⟨⟨h1,h2⟩,h3⟩:=h
  rcases List.mem_cons.1 hk with rfl | hk
  ·exact ⟨h1,h2⟩
  ·have:=ZG h3 k hk
   have h1:last < a∧a≤65534∧e.kind≠0:=h1
   have h4:a < k.at_:=this.1.1
   exact ⟨⟨by omega,this.1.2⟩,this.2⟩
theorem rightOs_mem{list:Int}:∀ {os:List Op} {d:Int},Zt list os d=true→∀ o∈os,Za list o d=true
 | [],_,_,_,ho=> by cases ho
 | a ::r,d,h,o,ho=> by
  simp only [Zt,Bool.and_eq_true] at h
  rcases List.mem_cons.1 ho with rfl | ho
  ·exact h.1
  ·exact rightOs_mem h.2 o ho
theorem Y8:∀ {ws:List WEdit} {last:Int},Zk last ws=true→∀ w∈ws,last < w.at_∧w.at_≤65534∧w.mask≠0∧ZK w.old w.mask=true∧ZK w.new w.mask=true
 | [],_,_,_,hw=> by cases hw
 | a ::r,last,h,w,hw=> by
  simp only [Zk,Bool.and_eq_true,decide_eq_true_eq] at h
  obtain ⟨⟨⟨h1,h2⟩,h3⟩,h4⟩:=h
  rcases List.mem_cons.1 hw with rfl | hw
  ·exact ⟨h1.1,h1.2.1,h1.2.2,h2,h3⟩
  ·have:=Y8 h4 w hw
   exact ⟨by omega,this.2⟩
inductive RightOp (list:Int) (d:Int):Op→Prop
 | keep (n:Int):1≤n→n≤1048576→RightOp list d ⟨0,n,[],Edit.nil⟩
 | gone (l:List Tree):Yn (dT d) list l=true→0 < l.length→RightOp list d ⟨1,0,l,Edit.nil⟩
 | come (l:List Tree):Yn (dT d) list l=true→0 < l.length→RightOp list d ⟨2,0,l,Edit.nil⟩
 | into (e:Edit):Z0 e d=true→e.kind≠0→7 < list→(list=8∨e.kind=2∨e.kind=1∧e.old.kind=1∧e.new.kind=1)→RightOp list d ⟨3,0,[],e⟩
theorem ZC{list:Int}{o:Op}{d:Int}(h:Za list o d=true):RightOp list d o:=by
 obtain ⟨k,n,l,e⟩:=o
 rw [Za] at h
 split at h
 ·rename_i hk
  simp only [Bool.and_eq_true,decide_eq_true_eq] at h
  obtain ⟨⟨h1,h2,h3⟩,h4⟩:=h
  rw [hk,ZgL h4,List.eq_nil_of_length_eq_zero h3]
  exact .keep n h1 h2
 ·rename_i h0
  split at h
  ·cases h
  ·rename_i h1
   have hn:n=0:=by omega
   subst hn
   split at h
   ·rename_i h2
    simp only [Bool.and_eq_true,decide_eq_true_eq] at h
    obtain ⟨⟨h3,h4⟩,h5⟩:=h
    rw [ZgL h5]
    by_cases hk:k=1
    ·rw [hk];exact .gone l h3 h4
    ·rw [show k=2 by omega];exact .come l h3 h4
   ·rename_i h2
    simp only [Bool.and_eq_true,decide_eq_true_eq] at h
    obtain ⟨⟨⟨h3,h4,h5⟩,h6⟩,h7⟩:=h
    rw [show k=3 by omega,List.eq_nil_of_length_eq_zero h3]
    exact .into e h6 h4 h5 h7
theorem ZiA{e:Edit}{d:Int}(h:Z0 e d=true):(∀ k∈e.kids,∃ d,Z0 k.e d=true)∧(∀ o∈e.ops,∃ l d,Za l o d=true)∧(e.kind=3→2≤e.list∧e.list≤9):=by
 have r:=Zp h
 exact ⟨fun k hk=> ⟨_,(ZG r.kids k hk).2⟩,fun o ho=> ⟨_,_,rightOs_mem r.ops o ho⟩,r.list⟩
theorem YE{l d:Int}{o:Op}(h:Za l o d=true)(hk:o.kind=3):Z0 o.e d=true:=by
 have r:=ZC h
 cases r with
 | into e h1=> exact h1
 | keep | gone | come=> exact absurd hk (by simp)
end Go.AM
