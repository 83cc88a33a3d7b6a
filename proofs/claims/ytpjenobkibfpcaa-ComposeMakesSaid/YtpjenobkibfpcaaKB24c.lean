import Derived.Test.YtpjenobkibfpcaaKB20b
import Derived.Test.YtpjenobkibfpcaaCmZ
set_option linter.unusedSimpArgs false
set_option linter.unusedVariables false
namespace Go.AM.Ytpjenobkibfpcaa
open Go.AM Go.Proofs
theorem ZaJ(e:Edit)(d:Int):Za e d=
  if d=0∨e.kind < 0∨3 < e.kind then false
  else if (e.kind≠1∧¬(JR e.old=true∧JR e.new=true))∨(e.kind≠2∧¬(e.words.length=0∧e.kids.length=0))∨(e.kind≠3∧(e.list≠0∨e.ops.length≠0)) then false
  else if e.kind=1 then Zl e.old (dT d) && Zl e.new (dT d) && decide (e.old.kind≠10∧e.new.kind≠10)
  else Yk (-1) e.words && ZG (-1) e.kids (d - 1) && decide (¬(e.kind=3∧(e.list < 2∨9 < e.list))) && ZD e.list e.ops (d - 1) && decide (Z2l e.ops 0 < 1048576∧Z2k e.ops 0 < 1048576):=by
 obtain ⟨k,o,nw,w,ks,l,os⟩:=e;rfl
theorem Z5V(last:Int)(k:Kid)(d:Int):J3 last k d=(decide (last < k.at_∧k.at_≤65534∧k.e.kind≠0) && Za k.e d):=by cases k;rfl
theorem JF(list:Int)(o:Op)(d:Int):Zc list o d=
  if o.kind=0 then decide (1≤o.n∧o.n≤1048576∧o.l.length=0) && Z24 o.e
  else if o.n≠0∨o.kind < 0∨3 < o.kind then false
  else if o.kind < 3 then Yv (dT d) list o.l && decide (0 < o.l.length) && Z24 o.e
  else decide (o.l.length=0∧o.e.kind≠0∧7 < list) && Za o.e d && decide (list=8∨o.e.kind=2∨o.e.kind=1∧o.e.old.kind=1∧o.e.new.kind=1):=by
 cases o;rfl
theorem ZaI{list:Int}{o:Op}{d:Int}(h:Zc list o d=true):0≤o.n∧o.n≤1048576:=by
 rw [JF] at h
 split at h
 ·simp only [Bool.and_eq_true,decide_eq_true_eq] at h;omega
 ·split at h
  ·cases h
  ·rename_i h1;omega
theorem rightOs_mem{list d:Int}:∀ {os:List Op} {o:Op},ZD list os d=true→o∈os→Zc list o d=true
 | x ::r,o,h,hm=> by
  simp only [ZD,Bool.and_eq_true] at h
  rcases List.mem_cons.1 hm with rfl | hm
  ·exact h.1
  ·exact rightOs_mem h.2 hm
theorem ZbE{d:Int}:∀ {ks:List Kid} {last:Int} {k:Kid},ZG last ks d=true→k∈ks→Za k.e d=true∧k.e.kind≠0
 | x ::r,last,k,h,hm=> by
  simp only [ZG,Bool.and_eq_true] at h
  rcases List.mem_cons.1 hm with rfl | hm
  ·have:=h.1;rw [Z5V] at this;simp only [Bool.and_eq_true,decide_eq_true_eq] at this;exact ⟨this.2,this.1.2.2⟩
  ·exact ZbE h.2 hm
theorem Z52{e:Edit}(h:YT e):isI e.kind∧rng e.old∧rng e.new∧(∀ x∈e.words,Z2e x)∧isI e.list∧Z11 e.kids∧Z0j e.ops:=by
 obtain ⟨k,o,n,w,ks,l,os⟩:=e;exact h
theorem b23:ZCb:=by
 intro N e d _ hp hN
 simp only [ZbP,Zh7] at hp hN
 obtain ⟨⟨hm,hr⟩,hd0,hd1⟩:=hp
 obtain ⟨ik,ro,rn,rw',il,rk,ros⟩:=Z52 hr
 have hme:=Yg e
 have hkl:=Ym e.kids
 have hol:=ZM e.ops
 have hat:=ZaJ e d
 rw [Zxc hd0] at hat
 refine ZCO N e d _ ?_;(try simp only [vcT,forall_eq])
 (simp only [vcS]);(try simp only [vcT]);(try simp only [vcU])
 try (simp only [Tree.eta,Edit.eta,Tree.kind_mk,Tree.words_mk,Tree.kids_mk])
 refine ⟨fun hc=> Zi rfl (by rw [hat,if_pos (by omega)]),fun hc=> ?_⟩
 rw [if_neg (by omega)] at hat
 refine ⟨fun _=> by simp only [Z61];omega,fun _=> by simp only [Z61];omega,fun _=> by unfold InR;omega,fun hf=> Zi rfl ?_,fun hf=> ⟨fun h1=> ⟨⟨by dsimp only;omega,ro,by dsimp only;omega,by dsimp only;omega⟩,fun _=> ⟨by dsimp only;omega,rn,by dsimp only;omega,by dsimp only;omega⟩,Zi rfl ?_⟩,fun h1=> ?_⟩⟩
 ·rw [hat,if_pos]
  rcases hf with (hf | hf) | hf
  ·left
   refine ⟨hf.1,fun h=> ?_⟩
   rcases hf.2 with h2 | h2
   ·rw [h.1] at h2;cases h2
   ·rw [h.2] at h2;cases h2
  ·right;left;omega
  ·right;right;omega
 ·rw [hat,if_neg,if_pos h1,Bool.eq_iff_iff]
  ·(simp only [vcS])
   constructor
   ·rintro ⟨⟨⟨h2,h3⟩,h4⟩,h5⟩;exact ⟨⟨h2,h3⟩,h4,h5⟩
   ·rintro ⟨⟨h2,h3⟩,h4,h5⟩;exact ⟨⟨⟨h2,h3⟩,h4⟩,h5⟩
  ·intro h
   rcases h with h | h | h
   ·exact h.1 h1
   ·omega
   ·omega
 ·rw [if_neg,if_neg h1] at hat
  ·refine Z6 (ι:=Int × Int) (fun p=> Zae e d p.1 p.2) (fun p=> 0≤p.2∧p.2≤e.words.length∧Yk p.1 (e.words.drop p.2.toNat)=Yk (-1) e.words) (fun p=> ((e.words.length:Int) - p.2).toNat) (-1,0) rfl ⟨by dsimp only;omega,by dsimp only;omega,by simp⟩ ?_
   rintro ⟨last,i⟩ ⟨h2,h3,h4⟩
   dsimp only at*
   refine Zuq N e d last i _ _ ?_;(try simp only [vcT,forall_eq])
   (simp only [vcS]);(try simp only [vcT]);(try simp only [vcU])
   try (simp only [Tree.eta,Edit.eta,Tree.kind_mk,Tree.words_mk,Tree.kids_mk])
   refine ⟨fun hi=> ?_,fun hi=> ?_⟩
   ·have hmem:=Zg (l:=e.words) (i:=i.toNat) (by omega) (WEdit.mk 0 0 0 0)
    have hrw:=rw' _ hmem
    rw [Y1 h2 hi (WEdit.mk 0 0 0 0)] at h4
    simp only [Yk] at h4
    generalize e.words.getD i.toNat (WEdit.mk 0 0 0 0)=w at*
    obtain ⟨_,hmk,hwo,hwn⟩:=hrw
    refine ⟨⟨h2,hi⟩,fun _=> ⟨hwo,hmk⟩,fun _=> ⟨hwn,hmk⟩,fun hq=> Zi rfl ?_,fun hq=> ⟨by unfold InR;omega,(_,i+1),rfl,⟨by dsimp only;omega,by dsimp only;omega,?_⟩,by dsimp only;omega⟩⟩
    ·rw [hat,←h4]
     rcases hq with (hq | hq) | hq
     ·rw [decide_eq_false (by omega)];try rfl
     ·rw [hq];simp
     ·rw [hq];simp
    ·dsimp only
     rw [←h4,decide_eq_true (by omega),hq.1.2,hq.2];try rfl
   ·have hw:Yk (-1) e.words=true:=by
     rw [←h4,List.drop_of_length_le (by omega)];try rfl
    rw [hw,Bool.true_and] at hat
    refine Z6 (ι:=Int × Int) (fun p=> Zad e d p.1 p.2) (fun p=> 0≤p.2∧p.2≤e.kids.length∧ZG p.1 (e.kids.drop p.2.toNat) (d - 1)=ZG (-1) e.kids (d - 1)) (fun p=> ((e.kids.length:Int) - p.2).toNat) (-1,0) rfl ⟨by dsimp only;omega,by dsimp only;omega,by simp⟩ ?_
    rintro ⟨last,i⟩ ⟨h2,h3,h4⟩
    dsimp only at*
    refine Zup N e d last i _ _ ?_;(try simp only [vcT,forall_eq])
    (simp only [vcS]);(try simp only [vcT]);(try simp only [vcU])
    try (simp only [Tree.eta,Edit.eta,Tree.kind_mk,Tree.words_mk,Tree.kids_mk])
    refine ⟨fun hi=> ?_,fun hi=> ?_⟩
    ·have hmem:=Zg (l:=e.kids) (i:=i.toNat) (by omega) (KidOf.mk 0 Edit.nil)
     have hrw:=J1 rk hmem
     have hmm:=YM hmem
     rw [Y1 h2 hi (KidOf.mk 0 Edit.nil)] at h4
     simp only [ZG,Z5V] at h4
     generalize e.kids.getD i.toNat (KidOf.mk 0 Edit.nil)=w at*
     refine ⟨⟨h2,hi⟩,fun _=> by unfold InR;omega,fun _=> ⟨⟨by dsimp only;omega,hrw.2⟩,by dsimp only;omega,by dsimp only;omega⟩,fun _=> by simp only [Zh7];omega,fun hq=> Zi rfl ?_,fun hq=> ⟨by unfold InR;omega,(_,i+1),rfl,⟨by dsimp only;omega,by dsimp only;omega,?_⟩,by dsimp only;omega⟩⟩
     ·rw [hat,←h4]
      rcases hq with hq | hq
      ·rw [decide_eq_false (by omega)];try rfl
      ·rw [hq];simp
     ·dsimp only
      rw [←h4,decide_eq_true (by omega),hq.2];try rfl
    ·have hw:ZG (-1) e.kids (d - 1)=true:=by
      rw [←h4,List.drop_of_length_le (by omega)];try rfl
     rw [hw,Bool.true_and] at hat
     refine ⟨fun hq=> Zi rfl (by rw [hat,decide_eq_false (by omega)];rfl),fun hq=> ?_⟩
     rw [decide_eq_true (by omega),Bool.true_and] at hat
     refine Z6 (ι:=Int) (fun p=> Zac e d p) (fun p=> 0≤p∧p≤e.ops.length∧ZD e.list (e.ops.drop p.toNat) (d - 1)=ZD e.list e.ops (d - 1)) (fun p=> ((e.ops.length:Int) - p).toNat) 0 rfl ⟨by omega,by omega,by simp⟩ ?_
     rintro j ⟨h5,h6,h7⟩
     refine Zuo N e d j _ _ ?_;(try simp only [vcT,forall_eq])
     (simp only [vcS]);(try simp only [vcT]);(try simp only [vcU])
     try (simp only [Tree.eta,Edit.eta,Tree.kind_mk,Tree.words_mk,Tree.kids_mk])
     refine ⟨fun hj=> ?_,fun hj=> ?_⟩
     ·have hmem:=Zg (l:=e.ops) (i:=j.toNat) (by omega) Op.nil
      have hro:=Z06 ros hmem
      have hmm:=ZL hmem
      rw [Y1 h5 hj Op.nil] at h7
      simp only [ZD] at h7
      generalize e.ops.getD j.toNat Op.nil=o at*
      refine ⟨⟨h5,hj⟩,by unfold InR;omega,⟨⟨by show Zs o≤20000000000;omega,hro,il⟩,by dsimp only;omega,by dsimp only;omega⟩,?_,fun hq=> Zi rfl ?_,fun hq=> ⟨by unfold InR;omega,j+1,rfl,⟨by omega,by omega,?_⟩,by omega⟩⟩
      ·show 2*Zs o+1 < N
       omega
      ·have hq':Zc e.list o (d - 1)=false:=hq
       rw [hat,←h7,hq'];try rfl
      ·have hq':Zc e.list o (d - 1)=true:=hq
       rw [←h7,hq'];try rfl
     ·have hw:ZD e.list e.ops (d - 1)=true:=by
       rw [←h7,List.drop_of_length_le (by omega)];try rfl
      rw [hw,Bool.true_and] at hat
      refine ⟨⟨hm,fun o ho=> ZaI (rightOs_mem hw ho)⟩,Zi rfl ?_⟩
      rw [hat,Bool.eq_iff_iff]
      (simp only [vcS])
  ·intro h
   rcases h with h | h | h
   ·rcases hf.1.1 with h2 | h2
    ·exact h1 h2
    ·exact h.2 h2
   ·omega
   ·omega
theorem Zfb{l:List Tree}{i:Int}(h0:0≤i)(h:i < l.length):List.drop i.toNat (l.take (i+1).toNat)=[l.getD i.toNat Tree.nil]:=by
 rw [List.drop_take,show (i+1).toNat - i.toNat=1 by omega,Y1 h0 h Tree.nil]
 try rfl
theorem b64:ZC6:=by
 intro N list o d _ hp hN
 simp only [ZfM,ZoT] at hp hN
 obtain ⟨⟨hm,hr,hil⟩,hd0,hd1⟩:=hp
 obtain ⟨ik,inn,rl,re⟩:=JD hr
 rw [ZI] at hm hN
 have hll:=ZA o.l
 have hep:=Z7h o.e
 have hat:=JF list o d
 rw [Zxc hd0,Zfk] at hat
 refine ZCy N list o d _ ?_;(try simp only [vcT,forall_eq])
 (simp only [vcS]);(try simp only [vcT]);(try simp only [vcU])
 try (simp only [Tree.eta,Edit.eta,Tree.kind_mk,Tree.words_mk,Tree.kids_mk])
 refine ⟨fun h0=> ⟨fun _=> by simp only [Z8o];omega,Zi rfl ?_⟩,fun h0=> ⟨fun hc=> Zi rfl ?_,fun hc=> ⟨fun h3=> ?_,fun h3=> ⟨fun _=> ⟨⟨by dsimp only;omega,re⟩,hd0,hd1⟩,fun _=> by simp only [Zh7];omega,fun hq=> Zi rfl ?_,fun hq=> Zi rfl ?_⟩⟩⟩⟩
 ·rw [hat,if_pos h0,Bool.eq_iff_iff]
  (simp only [vcS])
  constructor
  ·rintro ⟨h1,h2⟩;exact ⟨by omega,h2⟩
  ·rintro ⟨h1,h2⟩;exact ⟨by omega,h2⟩
 ·rw [hat,if_neg h0,if_pos (by omega)]
 ·rw [if_neg h0,if_neg (by omega),if_pos h3] at hat
  refine Z6 (ι:=Int) (fun p=> Za6 list o d p) (fun p=> 0≤p∧p≤o.l.length∧Z4K list (o.l.drop p.toNat)=Z4K list o.l) (fun p=> ((o.l.length:Int) - p).toNat) 0 rfl ⟨by omega,by omega,by simp⟩ ?_
  rintro i ⟨h4,h5,h6⟩
  refine Zud N list o d i _ _ ?_;(try simp only [vcT,forall_eq])
  (simp only [vcS]);(try simp only [vcT]);(try simp only [vcU])
  try (simp only [Tree.eta,Edit.eta,Tree.kind_mk,Tree.words_mk,Tree.kids_mk])
  refine ⟨fun hi=> ?_,fun hi=> ?_⟩
  ·have hmem:=Zg (l:=o.l) (i:=i.toNat) (by omega) Tree.nil
   have hrt:=Jd rl hmem
   have hmt:=YJ hmem
   rw [Zfb h4 hi]
   rw [Y1 h4 hi Tree.nil] at h6
   simp only [Z4K] at h6
   generalize o.l.getD i.toNat Tree.nil=t at*
   refine ⟨by unfold InR;omega,by omega,⟨by simp only [Zo,Zf,List.length_nil];omega,⟨hil,fun x hx=> (by cases hx),hrt,trivial⟩,by dsimp only;omega,by dsimp only;omega⟩,fun hq=> Zi rfl ?_,fun hq=> ⟨by unfold InR;omega,i+1,rfl,⟨by omega,by omega,?_⟩,by omega⟩⟩
   ·rw [hat,←h6,hq];try rfl
   ·rw [←h6,hq];try rfl
  ·have hw:Z4K list o.l=true:=by
    rw [←h6,List.drop_of_length_le (by omega)];try rfl
   rw [hw,Bool.true_and] at hat
   refine ⟨fun _=> by simp only [Z8o];omega,Zi rfl ?_⟩
   rw [hat,Bool.eq_iff_iff]
   (simp only [vcS])
   simp only [Int.natCast_pos]
 ·rw [hat,if_neg h0,if_neg (by omega),if_neg h3]
  rcases hq with hq | hq
  ·have:¬(o.l.length=0∧o.e.kind≠0∧7 < list):=by omega
   rw [decide_eq_false this];try rfl
  ·rw [hq];simp
 ·rw [hat,if_neg h0,if_neg (by omega),if_neg h3,hq.2]
  have:o.l.length=0∧o.e.kind≠0∧7 < list:=by omega
  rw [decide_eq_true this,Bool.eq_iff_iff]
  (simp only [vcS])
  simp only [true_and,Bool.and_true,decide_eq_true_eq,and_assoc,or_assoc]
theorem ZyW:Contract Try.prog cfg 23 Zdm∧Contract Try.prog cfg 64 ZqK:=Zp2 c62 c63 Zzm c37 c65 b23 b64
theorem Zg1(e:Edit):Z17 e=(decide (Z2l e.ops 0≤2000∧Z2k e.ops 0≤2000) && Z2j e.kids && Z3G e.ops):=by
 obtain ⟨k,o,nw,w,ks,l,os⟩:=e;rfl
theorem Zcb(k:Kid):Zjj k=Z17 k.e:=by cases k;rfl
theorem Zer(o:Op):ZmV o=Z17 o.e:=by cases o;rfl
theorem Z71{e:Edit}{d:Int}(h:Za e d=true):(∀ k∈e.kids,Za k.e (d - 1)=true∧k.e.kind≠0)∧∀ o∈e.ops,Zc e.list o (d - 1)=true:=by
 rw [ZaJ] at h
 split at h
 ·cases h
 ·split at h
  ·cases h
  ·rename_i h1 h2
   split at h
   ·rename_i h3
    have hk:e.kids=[]:=List.eq_nil_of_length_eq_zero (by omega)
    have ho:e.ops=[]:=List.eq_nil_of_length_eq_zero (by omega)
    rw [hk,ho]
    exact ⟨fun k hk=> (by cases hk),fun o ho=> (by cases ho)⟩
   ·simp only [Bool.and_eq_true] at h
    exact ⟨fun k hk=> ZbE h.1.1.1.2 hk,fun o ho=> rightOs_mem h.1.2 ho⟩
theorem Zig{e:Edit}(h:Z24 e=true):e.kind=0∧JR e.old=true∧JR e.new=true∧e.words=[]∧e.kids=[]∧e.ops=[]∧e.list=0:=by
 simp only [Z24,Bool.and_eq_true,decide_eq_true_eq] at h
 obtain ⟨⟨⟨h1,h2⟩,h3⟩,h4,h5,h6,h7⟩:=h
 exact ⟨h1,h2,h3,List.eq_nil_of_length_eq_zero h4,List.eq_nil_of_length_eq_zero h5,List.eq_nil_of_length_eq_zero h6,h7⟩
theorem Zby{e:Edit}(h:Z24 e=true)(d:Int)(hd:d≠0):Za e d=true:=by
 obtain ⟨h1,h2,h3,h4,h5,h6,h7⟩:=Zig h
 rw [ZaJ,h1,h2,h3,h4,h5,h6,h7,if_neg (by omega),if_neg (by simp),if_neg (by omega)]
 simp [Yk,ZG,ZD,Z2l,Z2k]
theorem Zf0{list:Int}{o:Op}{d:Int}(h:Zc list o d=true):∃ d',Za o.e d'=true:=by
 rw [JF] at h
 split at h
 ·simp only [Bool.and_eq_true] at h
  exact ⟨1,Zby h.2 1 (by omega)⟩
 ·split at h
  ·cases h
  ·split at h
   ·simp only [Bool.and_eq_true] at h
    exact ⟨1,Zby h.2 1 (by omega)⟩
   ·simp only [Bool.and_eq_true] at h
    exact ⟨d,h.1.2⟩
theorem c55:Contract Try.prog cfg 55 Zdj:=by
 refine Zyi c65 ?_
 intro N e _ hp hN
 simp only [ZdQ,Zj4] at hp hN
 obtain ⟨⟨hm,hr⟩,dd,hrt⟩:=hp
 obtain ⟨ik,ro,rn,rw',il,rk,ros⟩:=Z52 hr
 have hme:=Yg e
 have hkl:=Ym e.kids
 have hol:=ZM e.ops
 have hat:=Zg1 e
 obtain ⟨hrk,hro⟩:=Z71 hrt
 refine ZCF N e _ ?_;(try simp only [vcT,forall_eq])
 (simp only [vcS]);(try simp only [vcT]);(try simp only [vcU])
 try (simp only [Tree.eta,Edit.eta,Tree.kind_mk,Tree.words_mk,Tree.kids_mk])
 refine ⟨⟨hm,fun o ho=> ZaI (hro o ho)⟩,fun hq=> Zi rfl (by rw [hat,decide_eq_false (by omega)];rfl),fun hq=> ?_⟩
 rw [decide_eq_true (by omega),Bool.true_and] at hat
 refine Z6 (ι:=Int) (fun p=> Za9 e p) (fun p=> 0≤p∧p≤e.kids.length∧Z2j (e.kids.drop p.toNat)=Z2j e.kids) (fun p=> ((e.kids.length:Int) - p).toNat) 0 rfl ⟨by omega,by omega,by simp⟩ ?_
 rintro i ⟨h4,h5,h6⟩
 refine Zuh N e i _ _ ?_;(try simp only [vcT,forall_eq])
 (simp only [vcS]);(try simp only [vcT]);(try simp only [vcU])
 try (simp only [Tree.eta,Edit.eta,Tree.kind_mk,Tree.words_mk,Tree.kids_mk])
 refine ⟨fun hi=> ?_,fun hi=> ?_⟩
 ·have hmem:=Zg (l:=e.kids) (i:=i.toNat) (by omega) (KidOf.mk 0 Edit.nil)
  have hrr:=J1 rk hmem
  have hmm:=YM hmem
  have hri:=hrk _ hmem
  rw [Y1 h4 hi (KidOf.mk 0 Edit.nil)] at h6
  simp only [Z2j,Zcb] at h6
  generalize e.kids.getD i.toNat (KidOf.mk 0 Edit.nil)=k at*
  refine ⟨⟨h4,hi⟩,⟨⟨by dsimp only;omega,hrr.2⟩,_,hri.1⟩,by simp only [Zj4];omega,fun hq=> Zi rfl (by rw [hat,←h6,hq];rfl),fun hq=> ⟨by unfold InR;omega,i+1,rfl,⟨by omega,by omega,by rw [←h6,hq];rfl⟩,by omega⟩⟩
 ·have hw:Z2j e.kids=true:=by
   rw [←h6,List.drop_of_length_le (by omega)];try rfl
  rw [hw,Bool.true_and] at hat
  refine Z6 (ι:=Int) (fun p=> Za8 e p) (fun p=> 0≤p∧p≤e.ops.length∧Z3G (e.ops.drop p.toNat)=Z3G e.ops) (fun p=> ((e.ops.length:Int) - p).toNat) 0 rfl ⟨by omega,by omega,by simp⟩ ?_
  rintro j ⟨g4,g5,g6⟩
  refine Zug N e j _ _ ?_;(try simp only [vcT,forall_eq])
  (simp only [vcS]);(try simp only [vcT]);(try simp only [vcU])
  try (simp only [Tree.eta,Edit.eta,Tree.kind_mk,Tree.words_mk,Tree.kids_mk])
  refine ⟨fun hi=> ?_,fun hi=> ?_⟩
  ·have hmem:=Zg (l:=e.ops) (i:=j.toNat) (by omega) Op.nil
   have hrr:=JD (Z06 ros hmem)
   have hmm:=ZL hmem
   have hri:=Zf0 (hro _ hmem)
   rw [ZI] at hmm
   rw [Y1 g4 hi Op.nil] at g6
   simp only [Z3G,Zer] at g6
   generalize e.ops.getD j.toNat Op.nil=o at*
   refine ⟨⟨g4,hi⟩,⟨⟨by dsimp only;omega,hrr.2.2.2⟩,hri⟩,by simp only [Zj4];omega,fun hq=> Zi rfl (by rw [hat,←g6,hq];rfl),fun hq=> ⟨by unfold InR;omega,j+1,rfl,⟨by omega,by omega,by rw [←g6,hq];rfl⟩,by omega⟩⟩
  ·refine Zi rfl ?_
   rw [hat,←g6,List.drop_of_length_le (by omega)];try rfl
theorem c15:Contract Try.prog cfg 15 Zdq:=by
 refine Zyu c54 ZyW.1 c55 ?_
 intro e _ hp
 simp only [ZiL] at hp
 refine ZCT e _ ?_;(try simp only [vcT,forall_eq])
 try (simp only [Tree.eta,Edit.eta,Tree.kind_mk,Tree.words_mk,Tree.kids_mk])
 refine ⟨hp.1,fun hf=> ?_,fun hf=> ?_,Zi rfl ?_⟩
 ·have:=Zbj (by simpa using hf)
  exact ⟨⟨by dsimp only;omega,hp.2⟩,by dsimp only;omega,by dsimp only;omega⟩
 ·simp only [Zt9,decide_eq_true_eq] at hf
  have:=Zbj hf.1
  exact ⟨⟨by dsimp only;omega,hp.2⟩,64,hf.2⟩
 ·show _=Z0g e
  simp only [Z0g]
  rw [Bool.eq_iff_iff]
  (simp only [vcS])
end Go.AM.Ytpjenobkibfpcaa
namespace Go.AM
noncomputable def eqX{α:Type}(a b:α):Bool:=@decide (a=b) (Classical.propDecidable _)
theorem Jm{α:Type}{a b:α}:eqX a b=true↔a=b:=by unfold eqX;exact @decide_eq_true_iff _ (Classical.propDecidable _)
@[simp] theorem ZeD {α:Type} (a:α):eqX a a=true:=Jm.2 rfl
def Zz(o:Op)(n:Int):Op:=if Z2 o≤n then o else if o.kind=0 then ⟨o.kind,n,o.l,o.e⟩ else ⟨o.kind,o.n,o.l.take n.toNat,o.e⟩
def JS(o:Op)(n:Int):Op:=if o.kind=0 then ⟨o.kind,o.n - n,o.l,o.e⟩ else ⟨o.kind,o.n,o.l.drop n.toNat,o.e⟩
def ZO(l:List Op)(n:Int):List Op:=if Z2 (l.getD 0 Op.nil)≤n then l.drop 1 else JS (l.getD 0 Op.nil) n ::l.drop 1
def sgl(a:Int)(l:List Op):Bool:=decide (l.length≠0∧(l.getD 0 Op.nil).kind=a)
def ZN(o:Op):Prop:=
 (o.kind=0∧o.l=[]∧(1≤o.n∧o.n≤1048576)∧o.e=Edit.nil)∨((o.kind=1∨o.kind=2)∧o.n=0∧o.l≠[]∧o.e=Edit.nil)∨(o.kind=3∧o.n=0∧o.l=[])
def Z9u(l:List Op):Prop:=(∀ o∈l,ZN o)∧Zh l≤20000000000
theorem YA(l:List Op)(n:Int)(h:l.length≠0):(ZO l n).length≤l.length:=by
 unfold ZO
 split <;> simp <;> omega
theorem Yz(l:List Op)(n:Int)(h:l.length≠0)(hn:Z2 (l.getD 0 Op.nil)≤n):(ZO l n).length < l.length:=by
 unfold ZO
 rw [if_pos hn]
 simp;omega
def ZP(ap aq:Int)(p q:List Op)(out:List Piece):List Piece × Bool × List Op × List Op:=
 if h:sgl ap p=true then ZP ap aq (p.drop 1) q (out++[⟨1,p.getD 0 Op.nil,Op.nil⟩])
 else if h2:sgl aq q=true then ZP ap aq p (q.drop 1) (out++[⟨2,Op.nil,q.getD 0 Op.nil⟩])
 else if h3:p.length=0∨q.length=0 then
  if decide (p.length=0)=decide (q.length=0) then (out,true,p,q) else ([],false,p,q)
 else
  ZP ap aq (ZO p (min (Z2 (p.getD 0 Op.nil)) (Z2 (q.getD 0 Op.nil)))) (ZO q (min (Z2 (p.getD 0 Op.nil)) (Z2 (q.getD 0 Op.nil))))
   (out++[⟨0,Zz (p.getD 0 Op.nil) (min (Z2 (p.getD 0 Op.nil)) (Z2 (q.getD 0 Op.nil))),Zz (q.getD 0 Op.nil) (min (Z2 (p.getD 0 Op.nil)) (Z2 (q.getD 0 Op.nil)))⟩])
termination_by p.length+q.length
decreasing_by
 ·have:=(of_decide_eq_true h).1;rw [List.length_drop];omega
 ·have:=(of_decide_eq_true h2).1;rw [List.length_drop];omega
 ·rcases Int.le_total (Z2 (p.getD 0 Op.nil)) (Z2 (q.getD 0 Op.nil)) with hm | hm
  ·have a:=Yz p _ (by omega) (Int.le_refl (Z2 (p.getD 0 Op.nil)))
   have b:=YA q (Z2 (p.getD 0 Op.nil)) (by omega)
   rw [Int.min_eq_left hm];omega
  ·have a:=Yz q _ (by omega) (Int.le_refl (Z2 (q.getD 0 Op.nil)))
   have b:=YA p (Z2 (q.getD 0 Op.nil)) (by omega)
   rw [Int.min_eq_right hm];omega
def Yq(i alone:Int)(o:Op):List AUnit:=
 (if o.kind=0 then List.replicate o.n.toNat ⟨i,0,Tree.nil,Edit.nil,false⟩ else [])
  ++(o.l.map (fun t=> ⟨i,o.kind,t,Edit.nil,decide (o.kind=alone)⟩)
  ++(if o.kind=3 then [⟨i,3,Tree.nil,o.e,false⟩] else []))
def ZE(i alone:Int):List Op→List AUnit
 | []=> []
 | o ::r=> Yq i alone o++ZE (i+1) alone r
def Z1t:List Op→Int
 | []=> 0
 | o ::r=> Z2 o+Z1t r
def alo(l:List AUnit):Bool:=decide (l.length≠0∧(l.getD 0 AUnit.nil).alone=true)
def ZX(p q:List AUnit)(out:List APair):List APair × Bool:=
 if h:alo p=true then ZX (p.drop 1) q (out++[⟨1,p.getD 0 AUnit.nil,AUnit.nil⟩])
 else if h2:alo q=true then ZX p (q.drop 1) (out++[⟨2,AUnit.nil,q.getD 0 AUnit.nil⟩])
 else if h3:p.length=0∨q.length=0 then
  if decide (p.length=0)=decide (q.length=0) then (out,true) else ([],false)
 else ZX (p.drop 1) (q.drop 1) (out++[⟨0,p.getD 0 AUnit.nil,q.getD 0 AUnit.nil⟩])
termination_by p.length+q.length
decreasing_by
 ·have:=(of_decide_eq_true h).1;rw [List.length_drop];omega
 ·have:=(of_decide_eq_true h2).1;rw [List.length_drop];omega
 ·rw [List.length_drop,List.length_drop];omega
def opU(u:AUnit):Op:=if u.kind=0 then ⟨0,1,[],Edit.nil⟩ else if u.kind=3 then ⟨3,0,[],u.e⟩ else ⟨u.kind,0,[u.t],Edit.nil⟩
def Z5w(o:Op)(alone:Int)(l:List AUnit):Prop:=(ZE 0 alone [o]).map opU=l.map opU
def Zbq(alone:Int):List Piece→List APair→Prop
 | [],m=> m=[]
 | x ::r,m=> ∃ m1 m2,m=m1++m2∧m1≠[]∧((x.of=0∨x.of=1∨x.of=2)∧(x.of=2→x.p=Op.nil)∧(∀ y∈m1,y.of=x.of)∧(x.of≠2→ZN x.p∧Zs x.p≤18000000000∧Z2 x.p=m1.length∧Z5w x.p alone (m1.map APair.p))
   ∧(x.of≠1→ZN x.q∧Zs x.q≤18000000000∧Z2 x.q=m1.length∧Z5w x.q 2 (m1.map APair.q)))∧Zbq alone r m2
end Go.AM
namespace Go.AM.Ytpjenobkibfpcaa
open Go.AM Go.Proofs
noncomputable section
def Znx:ArgL (Op × Unit):=(.cons (aEl .op) .nil)
def Z62(a:Op × Unit):Prop:=Zs a.1≤20000000000∧0≤OpOf.n a.1∧OpOf.n a.1≤1048576
def Zr1(a:Op × Unit):V U:= .c (ci (Z2 a.1))
def Z3t:Fs U:=fs Znx (fun a=> [Z62 a]) Zr1
def ZhM:ArgM ((List Op × Int × Unit) × Unit):=(.obj 0 (.cons (cSl .op) (.cons (ZsX .i64) .nil)) .nil)
def Z3U(a:(List Op × Int × Unit) × Unit):Prop:=(a.1.1).length≤120000000000
def Zr0(a:(List Op × Int × Unit) × Unit):V U:= .c (.bool (decide ((a.1.1).length=0)))
def Zm3(a:(List Op × Int × Unit) × Unit):List (List (C U)):=[[sU .op a.1.1 .unk,ci a.1.2.1]]
def Z3s:Fs U:=fsX ZhM (fun a=> [Z3U a]) Zr0 Zm3
def ZhO:ArgM ((List Op × Int × Unit) × Unit):=(.obj 0 (.cons (cSl .op) (.cons (ZsX .i64) .nil)) .nil)
def ZaP(a:(List Op × Int × Unit) × Unit):Prop:=(a.1.1).length≤120000000000
def Zr3(a:(List Op × Int × Unit) × Unit):V U:= .c (.bool (sgl a.1.2.1 a.1.1))
def Zm4(a:(List Op × Int × Unit) × Unit):List (List (C U)):=[[sU .op a.1.1 .unk,ci a.1.2.1]]
def Z8V:Fs U:=fsX ZhO (fun a=> [ZaP a]) Zr3 Zm4
def ZhN:ArgM ((List Op × Int × Unit) × Int × Unit):=(.obj 0 (.cons (cSl .op) (.cons (ZsX .i64) .nil)) (.cons (JI .i64) .nil))
def Z8n(a:(List Op × Int × Unit) × Int × Unit):Prop:=Z9u a.1.1∧(a.1.1).length≠0∧1≤a.2.1∧a.2.1≤120000000000
def ZdE(a:(List Op × Int × Unit) × Int × Unit):V U:= .agg (enc .op (Zz ((a.1.1).getD 0 Op.nil) a.2.1))
def Z9g(a:(List Op × Int × Unit) × Int × Unit):List (List (C U)):=[[sU .op (ZO a.1.1 a.2.1) .unk,ci a.1.2.1]]
def Z8U:Fs U:=fsX ZhN (fun a=> [Z8n a]) ZdE Z9g
def ZhP:ArgM ((List Op × Int × Unit) × (List Op × Int × Unit) × Unit):=(.obj 0 (.cons (cSl .op) (.cons (ZsX .i64) .nil)) (.obj 1 (.cons (cSl .op) (.cons (ZsX .i64) .nil)) .nil))
def ZgX(a:(List Op × Int × Unit) × (List Op × Int × Unit) × Unit):Prop:=Z9u a.1.1∧Z9u a.2.1.1
def ZgK(a:(List Op × Int × Unit) × (List Op × Int × Unit) × Unit):V U:= .tup [(false,[sU .piece ((ZP a.1.2.1 a.2.1.2.1 a.1.1 a.2.1.1 []).1) .unk]),(false,[.bool ((ZP a.1.2.1 a.2.1.2.1 a.1.1 a.2.1.1 []).2.1)])]
def ZcH(a:(List Op × Int × Unit) × (List Op × Int × Unit) × Unit):List (List (C U)):=[[sU .op ((ZP a.1.2.1 a.2.1.2.1 a.1.1 a.2.1.1 []).2.2.1) .unk,ci a.1.2.1],[sU .op ((ZP a.1.2.1 a.2.1.2.1 a.1.1 a.2.1.1 []).2.2.2) .unk,ci a.2.1.2.1]]
def Z6O:Fs U:=fsX ZhP (fun a=> [ZgX a]) ZgK ZcH
def ZnN:ArgL (List Op × List Op × Unit):=(.cons (aSl .op) (.cons (aSl .op) .nil))
def Zko(a:List Op × List Op × Unit):Prop:=Z9u a.1∧Z9u a.2.1
def Zra(a:List Op × List Op × Unit):V U:= .tup [(false,[sU .piece ((ZP 1 2 a.1 a.2.1 []).1) .unk]),(false,[.bool ((ZP 1 2 a.1 a.2.1 []).2.1)])]
def Z2a:Fs U:=fs ZnN (fun a=> [Zko a]) Zra
def ZnH:ArgL (List Op × Int × Unit):=(.cons (aSl .op) (.cons (JI .i64) .nil))
def ZdW(a:List Op × Int × Unit):Prop:=Z9u a.1∧Z1t a.1≤120000000000
def Zr7(a:List Op × Int × Unit):V U:= .c (sU .unit (ZE 0 a.2.1 a.1) .unk)
def Z4V:Fs U:=fs ZnH (fun a=> [ZdW a]) Zr7
def ZnI:ArgL (List AUnit × List AUnit × Unit):=(.cons (aSl .unit) (.cons (aSl .unit) .nil))
def ZgY(a:List AUnit × List AUnit × Unit):Prop:=(a.1).length≤120000000000∧(a.2.1).length≤120000000000
def ZgM(a:List AUnit × List AUnit × Unit):V U:= .tup [(false,[sU .pair ((ZX a.1 a.2.1 []).1) .unk]),(false,[.bool ((ZX a.1 a.2.1 []).2)])]
def Z4W:Fs U:=fs ZnI (fun a=> [ZgY a]) ZgM
def ZnG:ArgL (AUnit × Unit):=(.cons (aEl .unit) .nil)
def ZaS(a:AUnit × Unit):Prop:=True
def ZdG(a:AUnit × Unit):V U:= .agg (enc .op (opU a.1))
def Z4U:Fs U:=fs ZnG (fun a=> [ZaS a]) ZdG
def Ztn:ArgL (List Tree × List Tree × Unit):=(.cons (aSl .tree) (.cons (aSl .tree) .nil))
def ZiK(a:List Tree × List Tree × Unit):Prop:=Zf a.1≤20000000000
def ZwT(a:List Tree × List Tree × Unit):V U:= .c (.bool (eqX a.1 a.2.1))
def Zdi:Fs U:=fs Ztn (fun a=> [ZiK a]) ZwT
def Zll:ArgL (Edit × Edit × Unit):=(.cons (aEl .edit) (.cons (aEl .edit) .nil))
def Z7Z(a:Edit × Edit × Unit):Prop:=Z5 a.1≤20000000000
def Zj6(a:Edit × Edit × Unit):Nat:=Z5 a.1
def Zr2(a:Edit × Edit × Unit):V U:= .c (.bool (eqX a.1 a.2.1))
def Zdp:Fs U:=fs Zll (fun a=> [Z7Z a]) Zr2
def ZmY:List (FuncId × Fs U):=[]
def Zs0:Zj U:=lvl [([1],[1]),([1,5],[1]),([2],[]),([2],[])]
abbrev ZD8(p:List Nat):=AW (Z1 ZmY) Try.f190 Zs0 p
theorem ZAE(o:Op)(Q:QT)(h:(((o.kind==3)=true→(Q .ret (L2 [(2,.c (ci 1))] [])))∧((o.kind==3)=false→(InR (o.n+(o.l.length:Int)))∧(Q .ret (L2 [(2,.c (ci (o.n+(o.l.length:Int))))] []))))):
  ZD8 [] (L2 [(0,.agg (enc .op o))] []) Q:=
 Eq.mpr (by kernel_rfl) h
def ZvZ(o:Op):Prop:=AW (Z1 ZmY) Try.f190 Zs0 [] (Zk (Znx.can (o,())) []) (EQ Try.f190 (Zr1 (o,())) [])
theorem ZuK(hb:∀ (o:Op) (_:Unit),Z62 (o,())→ZvZ o):CT 190 Z3t:=
 Z7 (l:=[]) Zm rfl trivial Zs0 Try.func190 rfl rfl 1 (fun _=> rfl) (by decide) (fun ⟨o,_⟩=> hb o ())
def ZmX:List (FuncId × Fs U):=[]
def ZrZ:Zj U:=fun i=> match i with
 | 0=> ([(0,[])],[(.x 0,[])])
 | 1=> ([(2,[])],[(.x 0,[])])
 | _=> ([],[])
abbrev ZD7(p:List Nat):=AW (Z1 ZmX) Try.f191 ZrZ p
theorem ZAD(l:List Op)(alone:Int)(Q:QT)(h:(Q .ret (L2 [(2,.c (.bool (((l.length:Int):Int)==0)))] [(.x 0,[sU .op l .unk,ci alone])]))):
  ZD7 [] (L2 [(0,.ptr (.x 0) 0)] [(.x 0,[sU .op l .unk,ci alone])]) Q:=
 Eq.mpr (by kernel_rfl) h
def ZvY(l:List Op)(alone:Int):Prop:=AW (Z1 ZmX) Try.f191 ZrZ [] (Zk (ZhM.can ((l,alone,()),())) (ZhM.canX ((l,alone,()),()))) (EQ Try.f191 (Zr0 ((l,alone,()),())) (Zm3 ((l,alone,()),())))
theorem ZuJ(hb:∀ (l:List Op) (alone:Int) (_:Unit),Z3U ((l,alone,()),())→ZvY l alone):CT 191 Z3s:=
 Z1b (l:=[]) Zm rfl trivial ZrZ Try.func191 rfl rfl 1 (fun _=> rfl) (by decide) (fun ⟨⟨l,alone,_⟩,_⟩=> hb l alone ())
def Zn0:List (FuncId × Fs U):=[(191,Z3s)]
def Zs2:Zj U:=fun i=> match i with
 | 0=> ([(0,[])],[(.x 0,[])])
 | 1=> ([(2,[])],[(.x 0,[])])
 | _=> ([],[])
abbrev ZDa(p:List Nat):=AW (Z1 Zn0) Try.f188 Zs2 p
theorem ZAG(l:List Op)(alone:Int)(Q:QT)(h:let z0:= !(decide (l.length=0));((Z3U ((l,alone,()),()))∧(Tr (z0=true))∧(Tr (z0=true))∧(Tr (z0=true))∧(Tr (z0=true))∧(z0=true→(0:Int)≤0∧0 < (l.length:Int))∧(Tr (z0=true))∧(Tr (z0=true))∧(Tr (z0=true))∧(Tr (z0=true))∧(Tr (z0=true))∧(Tr (z0=true))∧(Tr (z0=true))∧(Tr (z0=true))∧(Q .ret (L2 [(2,.c (.bool (bif z0 then (((OpOf.kind (List.getD l (Int.toNat 0) Op.nil)):Int)==alone) else false)))] [(.x 0,[sU .op l .unk,ci alone])])))):
  ZDa [] (L2 [(0,.ptr (.x 0) 0)] [(.x 0,[sU .op l .unk,ci alone])]) Q:=
 Eq.mpr (by kernel_rfl) h
def Zw1(l:List Op)(alone:Int):Prop:=AW (Z1 Zn0) Try.f188 Zs2 [] (Zk (ZhO.can ((l,alone,()),())) (ZhO.canX ((l,alone,()),()))) (EQ Try.f188 (Zr3 ((l,alone,()),())) (Zm4 ((l,alone,()),())))
theorem ZuM(Zpk:CT 191 Z3s)(hb:∀ (l:List Op) (alone:Int) (_:Unit),ZaP ((l,alone,()),())→Zw1 l alone):CT 188 Z8V:=
 Z1b (l:=[(191,Z3s)]) Zm rfl (⟨Zpk,trivial⟩) Zs2 Try.func188 rfl rfl 1 (fun _=> rfl) (by decide) (fun ⟨⟨l,alone,_⟩,_⟩=> hb l alone ())
def ZmZ:List (FuncId × Fs U):=[(190,Z3t)]
def Zs1:Zj U:=fun i=> match i with
 | 0=> ([(0,[]),(1,[]),(4,[])],[(.loc 4,[]),(.x 0,[])])
 | 1=> ([(0,[]),(1,[]),(4,[]),(5,[])],[(.loc 4,[]),(.loc 5,[]),(.x 0,[])])
 | 2=> ([(0,[]),(1,[]),(4,[]),(5,[]),(17,[])],[(.loc 4,[]),(.loc 5,[]),(.x 0,[])])
 | 3=> ([(4,[]),(5,[])],[(.loc 4,[]),(.loc 5,[]),(.x 0,[])])
 | 4=> ([(4,[])],[(.loc 4,[]),(.x 0,[])])
 | 5=> ([(0,[]),(1,[]),(4,[]),(5,[]),(6,[]),(7,[])],[(.loc 4,[]),(.loc 5,[]),(.loc 6,[]),(.loc 7,[]),(.x 0,[])])
 | 6=> ([(0,[]),(1,[]),(4,[]),(5,[]),(6,[]),(7,[]),(31,[])],[(.loc 4,[]),(.loc 5,[]),(.loc 6,[]),(.loc 7,[]),(.x 0,[])])
 | 7=> ([(0,[]),(4,[]),(6,[]),(7,[])],[(.loc 4,[]),(.loc 6,[]),(.loc 7,[]),(.x 0,[])])
 | 8=> ([(0,[]),(4,[]),(6,[]),(7,[])],[(.loc 4,[]),(.loc 6,[]),(.loc 7,[]),(.x 0,[])])
 | 9=> ([(4,[]),(6,[])],[(.loc 4,[]),(.loc 6,[]),(.x 0,[])])
 | 10=> ([(4,[])],[(.loc 4,[]),(.x 0,[])])
 | _=> ([],[])
abbrev ZD9(p:List Nat):=AW (Z1 ZmZ) Try.f189 Zs1 p
theorem ZAF(l:List Op)(alone n:Int)(Q:QT)(h:∀ y_1,y_1=(List.getD l (Int.toNat 0) Op.nil)→∀ y_2,y_2=y_1→∀ y_3,y_3=(y_1.e)→let z1:=decide (((Z2 y_2):Int)≤n);let z0:=List.drop (Int.toNat 1) l;(((0:Int)≤0∧0 < (l.length:Int))∧((Z62 (y_2,()))∧((z1=true→((0:Int)≤1∧1≤(l.length:Int))∧(Q .ret (L2 [(4,.ptr (.loc 4) 0)] [(.loc 4,(enc .op y_1)),(.x 0,[sU .op z0 .unk,ci alone])])))∧(z1=false→(((y_1.kind==0)=true→(InR (y_1.n - n))∧(((0:Int)≤1∧1≤(l.length:Int))∧((([(OpOf.mk y_1.kind (y_1.n - n) y_1.l y_3)]).length+z0.length)*240≤140737488355328)∧(Q .ret (L2 [(4,.ptr (.loc 4) 0)] [(.loc 4,([ci y_1.kind,ci n,sU .tree y_1.l .unk]++enc .edit y_1.e)),(.x 0,[sU .op (([(OpOf.mk y_1.kind (y_1.n - n) y_1.l y_3)])++z0) (.own (.x 0 0)),ci alone])]))))∧((y_1.kind==0)=false→((0:Int)≤n∧n≤(y_1.l.length:Int))∧(n=n)∧((0:Int)≤n∧n≤(y_1.l.length:Int))∧(((0:Int)≤1∧1≤(l.length:Int))∧((([(OpOf.mk y_1.kind y_1.n (List.drop n.toNat y_1.l) y_3)]).length+z0.length)*240≤140737488355328)∧(Q .ret (L2 [(4,.ptr (.loc 4) 0)] [(.loc 4,([ci y_1.kind,ci y_1.n,sU .tree (List.take n.toNat y_1.l) .full]++enc .edit y_1.e)),(.x 0,[sU .op (([(OpOf.mk y_1.kind y_1.n (List.drop n.toNat y_1.l) y_3)])++z0) (.own (.x 0 0)),ci alone])])))))))))):
  ZD9 [] (L2 [(0,.ptr (.x 0) 0),(1,.c (ci n))] [(.x 0,[sU .op l .unk,ci alone])]) Q:=
 Eq.mpr (by kernel_rfl) (h _ rfl _ (J6 _) _ (Z9 _))
def Zw0(l:List Op)(alone n:Int):Prop:=AW (Z1 ZmZ) Try.f189 Zs1 [] (Zk (ZhN.can ((l,alone,()),n,())) (ZhN.canX ((l,alone,()),n,()))) (EQ Try.f189 (ZdE ((l,alone,()),n,())) (Z9g ((l,alone,()),n,())))
theorem ZuL(Zpl:CT 190 Z3t)(hb:∀ (l:List Op) (alone:Int) (n:Int) (_:Unit),Z8n ((l,alone,()),n,())→Zw0 l alone n):CT 189 Z8U:=
 Z1b (l:=[(190,Z3t)]) Zm rfl (⟨Zpl,trivial⟩) Zs1 Try.func189 rfl rfl 2 (fun _=> rfl) (by decide) (fun ⟨⟨l,alone,_⟩,n,_⟩=> hb l alone n ())
def Zn3:List (FuncId × Fs U):=[(188,Z8V),(189,Z8U),(190,Z3t),(191,Z3s)]
def Zs5:Zj U:=fun i=> match i with
 | 0=> ([(0,[]),(1,[])],[(.x 0,[]),(.x 1,[])])
 | 1=> ([(0,[]),(1,[]),(6,[.own .piece])],[(.x 0,[]),(.x 1,[])])
 | 2=> ([(0,[]),(1,[]),(6,[]),(7,[])],[(.x 0,[]),(.x 1,[])])
 | 3=> ([(0,[]),(1,[]),(6,[.own .piece])],[(.x 0,[]),(.x 1,[])])
 | 4=> ([(0,[]),(1,[]),(6,[]),(33,[])],[(.x 0,[]),(.x 1,[])])
 | 5=> ([(0,[]),(1,[]),(6,[.own .piece])],[(.x 0,[]),(.x 1,[])])
 | 6=> ([(0,[]),(1,[]),(6,[]),(49,[])],[(.x 0,[]),(.x 1,[])])
 | 7=> ([(0,[]),(1,[]),(6,[.own .piece])],[(.x 0,[]),(.x 1,[])])
 | 8=> ([(0,[]),(1,[]),(6,[]),(65,[])],[(.x 0,[]),(.x 1,[])])
 | 9=> ([(6,[]),(76,[])],[(.x 0,[]),(.x 1,[])])
 | 10=> ([(4,[]),(5,[])],[(.x 0,[]),(.x 1,[])])
 | 11=> ([(4,[]),(5,[])],[(.x 0,[]),(.x 1,[])])
 | _=> ([],[])
def Z2G(pl:List Op)(pa:Int)(ql:List Op)(qa:Int)(mx0_0 mx1_0:List Op)(mx1_1:Int)(x6:List Piece):LSt U:=(L2 [(0,.ptr (.x 0) 0),(1,.ptr (.x 1) 0),(6,.c (sU .piece x6 (.own (.e 6 0))))] [(.x 0,[sU .op mx0_0 .unk,ci pa]),(.x 1,[sU .op mx1_0 .unk,ci mx1_1])])
abbrev ZAq(p:List Nat):=AW (Z1 Zn3) Try.f169 Zs5 p
theorem ZAK(pl:List Op)(pa:Int)(ql:List Op)(qa:Int)(Q:QT)(h:(Ze (ZAq [1,1,0,0]) (Z2G pl pa ql qa pl ql qa []) (xB 0 Q))):
  ZAq [] (L2 [(0,.ptr (.x 0) 0),(1,.ptr (.x 1) 0)] [(.x 0,[sU .op pl .unk,ci pa]),(.x 1,[sU .op ql .unk,ci qa])]) Q:=
 Eq.mpr (by kernel_rfl) h
theorem ZpR(pl:List Op)(pa:Int)(ql:List Op)(qa:Int)(mx0_0 mx1_0:List Op)(mx1_1:Int)(x6:List Piece)(N0:NT)(Q:QT)(h:∀ y_1,y_1=(List.getD mx0_0 (Int.toNat 0) Op.nil)→∀ y_2,y_2=(List.getD mx1_0 (Int.toNat 0) Op.nil)→∀ y_3,y_3=(Edit.mk 0 (Tree.mk 0 [] []) (Tree.mk 0 [] []) [] [] 0 [])→∀ y_4,y_4=(List.getD (bif (!(decide (mx0_0.length=0))) then mx1_0 else mx1_0) (Int.toNat 0) Op.nil)→∀ y_5,y_5=y_1→∀ y_6,y_6=y_2→∀ y_7,y_7=y_4→∀ y_8,y_8=(Zz (mx0_0.getD 0 Op.nil) (Z2 y_5))→∀ y_9,y_9=(Zz (mx1_0.getD 0 Op.nil) (Z2 y_6))→∀ y_10,y_10=(Zz (mx0_0.getD 0 Op.nil) (if ((Z2 y_7):Int) < (Z2 y_5) then (Z2 y_7) else (Z2 y_5)))→∀ y_11,y_11=(Zz ((bif (!(decide (mx0_0.length=0))) then mx1_0 else mx1_0).getD 0 Op.nil) (if ((Z2 y_7):Int) < (Z2 y_5) then (Z2 y_7) else (Z2 y_5)))→let z7:=Z3U ((mx0_0,pa,()),());let z5:=Piece.mk 2 (OpOf.mk 0 0 [] y_3) y_9;let z4:=Piece.mk 1 y_8 (OpOf.mk 0 0 [] y_3);let z0:=decide (mx0_0.length=0);let z3:=bif z0 then true else (decide (mx1_0.length=0));let z2:=bif (!z0) then mx1_1 else mx1_1;let z1:=bif (!z0) then mx1_0 else mx1_0;let z6:=z0 !=(decide (z1.length=0));(ZaP ((mx0_0,pa,()),()))∧(((sgl pa mx0_0)=true→((0:Int)≤0∧0 < (mx0_0.length:Int))∧(Z62 (y_5,()))∧(Z8n ((mx0_0,pa,()),(Z2 y_5),()))∧((x6.length+([z4]).length)*488≤140737488355328)∧(N0 (Z2G pl pa ql qa (ZO mx0_0 (Z2 y_5)) mx1_0 mx1_1 (x6++([z4])))))∧((sgl pa mx0_0)=false→(ZaP ((mx1_0,mx1_1,()),()))∧(((sgl mx1_1 mx1_0)=true→((0:Int)≤0∧0 < (mx1_0.length:Int))∧(Z62 (y_6,()))∧(Z8n ((mx1_0,mx1_1,()),(Z2 y_6),()))∧((x6.length+([z5]).length)*488≤140737488355328)∧(N0 (Z2G pl pa ql qa mx0_0 (ZO mx1_0 (Z2 y_6)) mx1_1 (x6++([z5])))))∧((sgl mx1_1 mx1_0)=false→z7∧(Tr ((!z0)=true))∧((!z0)=true→Z3U ((mx1_0,mx1_1,()),()))∧(z0=false→(!z0)=true)∧((z3=true→z7∧(Z3U ((z1,z2,()),()))∧((z6=true→(Q .ret (L2 [(4,.c (.nils)),(5,.c (.bool false))] [(.x 0,[sU .op mx0_0 .unk,ci pa]),(.x 1,[sU .op z1 .unk,ci z2])])))∧(z6=false→(Q .ret (L2 [(4,.c (sU .piece x6 (.own (.e 4 0)))),(5,.c (.bool true))] [(.x 0,[sU .op mx0_0 .unk,ci pa]),(.x 1,[sU .op z1 .unk,ci z2])])))))∧(z3=false→((0:Int)≤0∧0 < (mx0_0.length:Int))∧(Z62 (y_5,()))∧((0:Int)≤0∧0 < (z1.length:Int))∧(Z62 (y_7,()))∧((Z8n ((mx0_0,pa,()),(if ((Z2 y_7):Int) < (Z2 y_5) then (Z2 y_7) else (Z2 y_5)),()))∧(Z8n ((z1,z2,()),(if ((Z2 y_7):Int) < (Z2 y_5) then (Z2 y_7) else (Z2 y_5)),()))∧((x6.length+([(Piece.mk 0 y_10 y_11)]).length)*488≤140737488355328)∧(N0 (Z2G pl pa ql qa (ZO mx0_0 (if ((Z2 y_7):Int) < (Z2 y_5) then (Z2 y_7) else (Z2 y_5))) (ZO z1 (if ((Z2 y_7):Int) < (Z2 y_5) then (Z2 y_7) else (Z2 y_5))) z2 (x6++([(Piece.mk 0 y_10 y_11)])))))))))))):
  ZAq [1,1,0,0] (Z2G pl pa ql qa mx0_0 mx1_0 mx1_1 x6) (xT N0 (xB 0 Q)):=
 Eq.mpr (by kernel_rfl) (h _ rfl _ rfl _ rfl _ rfl _ (J6 _) _ (J6 _) _ (J6 _) _ (J6 _) _ (J6 _) _ (J6 _) _ (J6 _))
def Zw5(pl:List Op)(pa:Int)(ql:List Op)(qa:Int):Prop:=AW (Z1 Zn3) Try.f169 Zs5 [] (Zk (ZhP.can ((pl,pa,()),(ql,qa,()),())) (ZhP.canX ((pl,pa,()),(ql,qa,()),()))) (EQ Try.f169 (ZgK ((pl,pa,()),(ql,qa,()),())) (ZcH ((pl,pa,()),(ql,qa,()),())))
theorem ZuQ(ZyY:CT 188 Z8V)(ZyX:CT 189 Z8U)(Zpl:CT 190 Z3t)(Zpk:CT 191 Z3s)(hb:∀ (pl:List Op) (pa:Int) (ql:List Op) (qa:Int) (_:Unit),ZgX ((pl,pa,()),(ql,qa,()),())→Zw5 pl pa ql qa):CT 169 Z6O:=
 Z1b (l:=[(188,Z8V),(189,Z8U),(190,Z3t),(191,Z3s)]) Zm rfl (⟨ZyY,ZyX,Zpl,Zpk,trivial⟩) Zs5 Try.func169 rfl rfl 2 (fun _=> rfl) (by decide) (fun ⟨⟨pl,pa,_⟩,⟨ql,qa,_⟩,_⟩=> hb pl pa ql qa ())
def Zna:List (FuncId × Fs U):=[(169,Z6O)]
def Zsc:Zj U:=lvl [([0,1],[]),([4,5],[])]
abbrev ZDi(p:List Nat):=AW (Z1 Zna) Try.f135 Zsc p
theorem ZB3(p q:List Op)(Q:QT)(h:((ZgX ((p,1,()),(q,2,()),()))∧(Q .ret (L2 [(4,.c (sU .piece ((ZP 1 2 p q []).1) .unk)),(5,.c (.bool ((ZP 1 2 p q []).2.1)))] [])))):
  ZDi [] (L2 [(0,.c (sU .op p .unk)),(1,.c (sU .op q .unk))] []) Q:=
 Eq.mpr (by kernel_rfl) h
def Zwo(p q:List Op):Prop:=AW (Z1 Zna) Try.f135 Zsc [] (Zk (ZnN.can (p,q,())) []) (EQ Try.f135 (Zra (p,q,())) [])
theorem Zv4(Zt1:CT 169 Z6O)(hb:∀ (p:List Op) (q:List Op) (_:Unit),Zko (p,q,())→Zwo p q):CT 135 Z2a:=
 Z7 (l:=[(169,Z6O)]) Zm rfl (⟨Zt1,trivial⟩) Zsc Try.func135 rfl rfl 2 (fun _=> rfl) (by decide) (fun ⟨p,q,_⟩=> hb p q ())
def Zhg:List (FuncId × Fs U):=[]
def ZmC:Zj U:=fun i=> match i with
 | 0=> ([(0,[]),(1,[])],[])
 | 1=> ([(0,[]),(1,[]),(5,[])],[])
 | 2=> ([(0,[]),(1,[]),(5,[.own .unit]),(6,[])],[])
 | 3=> ([(0,[]),(1,[]),(5,[]),(6,[]),(13,[])],[])
 | 4=> ([(0,[]),(1,[]),(5,[.own .unit]),(6,[])],[])
 | 5=> ([(0,[]),(1,[]),(5,[]),(6,[]),(7,[])],[(.loc 7,[])])
 | 6=> ([(0,[]),(1,[]),(5,[.own .unit]),(6,[]),(7,[]),(8,[])],[(.loc 7,[])])
 | 7=> ([(0,[]),(1,[]),(5,[]),(6,[]),(7,[]),(8,[]),(28,[])],[(.loc 7,[])])
 | 8=> ([(0,[]),(1,[]),(5,[.own .unit]),(6,[]),(7,[]),(8,[])],[(.loc 7,[])])
 | 9=> ([(0,[]),(1,[]),(5,[]),(6,[]),(7,[]),(8,[])],[(.loc 7,[])])
 | 10=> ([(0,[]),(1,[]),(5,[.own .unit]),(6,[]),(7,[]),(9,[])],[(.loc 7,[])])
 | 11=> ([(0,[]),(1,[]),(5,[]),(6,[]),(7,[]),(9,[]),(40,[])],[(.loc 7,[])])
 | 12=> ([(0,[]),(1,[]),(5,[.own .unit]),(6,[]),(7,[]),(9,[])],[(.loc 7,[])])
 | 13=> ([(0,[]),(1,[]),(5,[]),(6,[]),(7,[]),(9,[])],[(.loc 7,[])])
 | 14=> ([(0,[]),(1,[]),(5,[]),(6,[]),(7,[]),(61,[])],[(.loc 7,[])])
 | 15=> ([(0,[]),(1,[]),(5,[]),(6,[])],[])
 | 16=> ([(4,[])],[])
 | _=> ([],[])
def Z4s(l:List Op)(alone x6:Int)(x5:List AUnit):LSt U:=(L2 [(0,.c (sU .op l .unk)),(1,.c (ci alone)),(5,.c (sU .unit x5 (.own (.e 5 0)))),(6,.c (ci x6))] [])
def Z7n(l:List Op)(alone x6 x8_a:Int)(x5_a:List AUnit):LSt U:=(L2 [(0,.c (sU .op l .unk)),(1,.c (ci alone)),(5,.c (sU .unit x5_a (.own (.e 5 0)))),(6,.c (ci x6)),(7,.ptr (.loc 7) 0),(8,.c (ci x8_a))] [(.loc 7,(enc .op (l.getD x6.toNat Op.nil)))])
def Z7m(l:List Op)(alone x6 x9_b:Int)(x5_b:List AUnit):LSt U:=(L2 [(0,.c (sU .op l .unk)),(1,.c (ci alone)),(5,.c (sU .unit x5_b (.own (.e 5 0)))),(6,.c (ci x6)),(7,.ptr (.loc 7) 0),(9,.c (ci x9_b))] [(.loc 7,(enc .op (l.getD x6.toNat Op.nil)))])
abbrev Zlu(p:List Nat):=AW (Z1 Zhg) Try.f145 ZmC p
abbrev Zar(p:List Nat):=SW (Z1 Zhg) Try.f145 ZmC p
theorem ZAT(l:List Op)(alone:Int)(Q:QT)(h:(Ze (Zlu [1,1,0,1,0,0]) (Z4s l alone 0 []) (xB 0 (Zar [1,1,1] Q)))):
  Zlu [] (L2 [(0,.c (sU .op l .unk)),(1,.c (ci alone))] []) Q:=
 Eq.mpr (by kernel_rfl) h
theorem ZpX(l:List Op)(alone x6:Int)(x5:List AUnit)(N0:NT)(Q:QT)(h:let z0:=decide (x6 < (l.length:Int));((z0=true→((0:Int)≤x6∧x6 < (l.length:Int))∧(Ze (Zlu [1,1,0,1,0,0,1,0,0,1,0,1,0,0]) (Z7n l alone x6 0 x5) (xB 2 (Zar [1,1,0,1,0,0,1,0,0,1,1] (xB 1 (Zar [1,1,0,1,0,0,1,1] (xT N0 (xB 0 (Zar [1,1,1] Q)))))))))∧(z0=false→(Q .ret (L2 [(4,.c (sU .unit x5 (.own (.e 4 0))))] []))))):
  Zlu [1,1,0,1,0,0] (Z4s l alone x6 x5) (xT N0 (xB 0 (Zar [1,1,1] Q))):=
 Eq.mpr (by kernel_rfl) h
theorem ZpW(l:List Op)(alone x6 x8_a:Int)(x5_a:List AUnit)(N1 N0:NT)(Q:QT)(h:let z1:=AUnit.mk x6 0 (Tree.mk 0 [] []) (Edit.mk 0 (Tree.mk 0 [] []) (Tree.mk 0 [] []) [] [] 0 []) false;let z0:=decide (x8_a < (OpOf.n (l.getD x6.toNat Op.nil)));let z2:=bif z0 then (((OpOf.kind (l.getD x6.toNat Op.nil)):Int)==0) else false;(Tr (z0=true))∧(Tr (z0=true))∧(Tr (z0=true))∧((z2=true→((x5_a.length+([z1]).length)*280≤140737488355328)∧((InR (x8_a+1))∧(N1 (Z7n l alone x6 (x8_a+1) (x5_a++([z1]))))))∧(z2=false→(Ze (Zlu [1,1,0,1,0,0,1,0,0,1,1,0,1,0,0]) (Z7m l alone x6 0 x5_a) (xB 4 (Zar [1,1,0,1,0,0,1,0,0,1,1,1] (xB 1 (Zar [1,1,0,1,0,0,1,1] (xT N0 (xB 0 (Zar [1,1,1] Q))))))))))):
  Zlu [1,1,0,1,0,0,1,0,0,1,0,1,0,0] (Z7n l alone x6 x8_a x5_a) (xT N1 (xB 2 (Zar [1,1,0,1,0,0,1,0,0,1,1] (xB 1 (Zar [1,1,0,1,0,0,1,1] (xT N0 (xB 0 (Zar [1,1,1] Q)))))))):=
 Eq.mpr (by kernel_rfl) h
theorem ZpV(l:List Op)(alone x6 x9_b:Int)(x5_b:List AUnit)(N2 N0:NT)(Q:QT)(h:∀ y_1,y_1=(l.getD x6.toNat Op.nil)→∀ y_2,y_2=(y_1.e)→∀ y_3,y_3=(y_1.l.getD x9_b.toNat Tree.nil)→let z2:=decide (x9_b < (y_1.l.length:Int));let z1:=AUnit.mk x6 3 (Tree.mk 0 [] []) y_2 false;let z0:=AUnit.mk x6 y_1.kind y_3 (Edit.mk 0 (Tree.mk 0 [] []) (Tree.mk 0 [] []) [] [] 0 []) (y_1.kind==alone);((z2=true→((0:Int)≤x9_b∧x9_b < (y_1.l.length:Int))∧((x5_b.length+([z0]).length)*280≤140737488355328)∧((InR (x9_b+1))∧(N2 (Z7m l alone x6 (x9_b+1) (x5_b++([z0]))))))∧(z2=false→(((y_1.kind==3)=true→((x5_b.length+([z1]).length)*280≤140737488355328)∧((InR (x6+1))∧(N0 (Z4s l alone (x6+1) (x5_b++([z1]))))))∧((y_1.kind==3)=false→(InR (x6+1))∧(N0 (Z4s l alone (x6+1) x5_b))))))):
  Zlu [1,1,0,1,0,0,1,0,0,1,1,0,1,0,0] (Z7m l alone x6 x9_b x5_b) (xT N2 (xB 4 (Zar [1,1,0,1,0,0,1,0,0,1,1,1] (xB 1 (Zar [1,1,0,1,0,0,1,1] (xT N0 (xB 0 (Zar [1,1,1] Q)))))))):=
 Eq.mpr (by kernel_rfl) (h _ rfl _ (Z9 _) _ (Zb _))
def Zwe(l:List Op)(alone:Int):Prop:=AW (Z1 Zhg) Try.f145 ZmC [] (Zk (ZnH.can (l,alone,())) []) (EQ Try.f145 (Zr7 (l,alone,())) [])
theorem ZuX(hb:∀ (l:List Op) (alone:Int) (_:Unit),ZdW (l,alone,())→Zwe l alone):CT 145 Z4V:=
 Z7 (l:=[]) Zm rfl trivial ZmC Try.func145 rfl rfl 2 (fun _=> rfl) (by decide) (fun ⟨l,alone,_⟩=> hb l alone ())
def Zhh:List (FuncId × Fs U):=[]
def ZmD:Zj U:=fun i=> match i with
 | 0=> ([(0,[]),(1,[])],[])
 | 1=> ([(0,[]),(1,[]),(6,[])],[])
 | 2=> ([(0,[]),(1,[]),(6,[.own .pair]),(7,[]),(8,[])],[])
 | 3=> ([(0,[]),(1,[]),(6,[]),(7,[]),(8,[]),(18,[])],[])
 | 4=> ([(0,[]),(1,[]),(6,[]),(7,[]),(8,[]),(29,[])],[])
 | 5=> ([(0,[]),(1,[]),(6,[]),(7,[]),(8,[])],[])
 | 6=> ([(0,[]),(1,[]),(6,[.own .pair]),(7,[]),(8,[])],[])
 | 7=> ([(0,[]),(1,[]),(6,[]),(7,[]),(8,[]),(50,[])],[])
 | 8=> ([(0,[]),(1,[]),(6,[]),(7,[]),(8,[])],[])
 | 9=> ([(0,[]),(1,[]),(6,[.own .pair]),(7,[]),(8,[])],[])
 | 10=> ([(0,[]),(1,[]),(6,[]),(7,[]),(8,[]),(70,[])],[])
 | 11=> ([(4,[]),(5,[])],[])
 | 12=> ([(0,[]),(1,[]),(6,[]),(7,[]),(8,[])],[])
 | 13=> ([(0,[]),(1,[]),(6,[]),(7,[]),(8,[])],[])
 | 14=> ([(0,[]),(1,[]),(6,[.own .pair]),(7,[]),(8,[])],[])
 | 15=> ([(4,[]),(5,[])],[])
 | _=> ([],[])
def Z2J(p q:List AUnit)(x7 x8:Int)(x6:List APair):LSt U:=(L2 [(0,.c (sU .unit p .unk)),(1,.c (sU .unit q .unk)),(6,.c (sU .pair x6 (.own (.e 6 0)))),(7,.c (ci x7)),(8,.c (ci x8))] [])
abbrev ZAs(p:List Nat):=AW (Z1 Zhh) Try.f144 ZmD p
abbrev ZBU(p:List Nat):=SW (Z1 Zhh) Try.f144 ZmD p
theorem ZAU(p q:List AUnit)(Q:QT)(h:(Ze (ZAs [1,1,1,0,0,0]) (Z2J p q 0 0 []) (xB 0 (ZBU [1,1,1,1] Q)))):
  ZAs [] (L2 [(0,.c (sU .unit p .unk)),(1,.c (sU .unit q .unk))] []) Q:=
 Eq.mpr (by kernel_rfl) h
theorem ZpY(p q:List AUnit)(x7 x8:Int)(x6:List APair)(N0:NT)(Q:QT)(h:∀ y_1,y_1=(p.getD x7.toNat AUnit.nil)→∀ y_2,y_2=(q.getD x8.toNat AUnit.nil)→∀ y_3,y_3=(Edit.mk 0 (Tree.mk 0 [] []) (Tree.mk 0 [] []) [] [] 0 [])→∀ y_4,y_4=y_1→∀ y_5,y_5=y_2→let z3:=AUnit.mk 0 0 (Tree.mk 0 [] []) y_3 false;let z2:=decide (((p.length:Int):Int)≤x7);let z4:=bif z2 then true else (decide (((q.length:Int):Int)≤x8));let z1:=decide (x8 < (q.length:Int));let z6:=bif z1 then y_2.alone else false;let z0:=decide (x7 < (p.length:Int));let z5:=bif z0 then y_1.alone else false;(Tr ((!z0)=true))∧(Tr ((!z0)=true))∧(Tr ((!z0)=true))∧(z0=false→(!z0)=true)∧(((bif z0 then true else z1)=true→(Tr (z0=true))∧(Tr (z0=true))∧(z0=true→(0:Int)≤x7∧x7 < (p.length:Int))∧(Tr (z0=true))∧(Tr (z0=true))∧(Tr (z0=true))∧((z5=true→((0:Int)≤x7∧x7 < (p.length:Int))∧((x6.length+([(APair.mk 1 y_4 z3)]).length)*568≤140737488355328)∧((InR (x7+1))∧(N0 (Z2J p q (x7+1) x8 (x6++([(APair.mk 1 y_4 z3)]))))))∧(z5=false→(Tr (z1=true))∧(Tr (z1=true))∧(z1=true→(0:Int)≤x8∧x8 < (q.length:Int))∧(Tr (z1=true))∧(Tr (z1=true))∧(Tr (z1=true))∧((z6=true→((0:Int)≤x8∧x8 < (q.length:Int))∧((x6.length+([(APair.mk 2 z3 y_5)]).length)*568≤140737488355328)∧((InR (x8+1))∧(N0 (Z2J p q x7 (x8+1) (x6++([(APair.mk 2 z3 y_5)]))))))∧(z6=false→(Tr ((!z2)=true))∧(Tr ((!z2)=true))∧(Tr ((!z2)=true))∧(z2=false→(!z2)=true)∧((z4=true→(Q .ret (L2 [(4,.c (.nils)),(5,.c (.bool false))] [])))∧(z4=false→((0:Int)≤x7∧x7 < (p.length:Int))∧((0:Int)≤x8∧x8 < (q.length:Int))∧((x6.length+([(APair.mk 0 y_4 y_5)]).length)*568≤140737488355328)∧((InR (x7+1))∧((InR (x8+1))∧(N0 (Z2J p q (x7+1) (x8+1) (x6++([(APair.mk 0 y_4 y_5)])))))))))))))∧((bif z0 then true else z1)=false→(Q .ret (L2 [(4,.c (sU .pair x6 (.own (.e 4 0)))),(5,.c (.bool true))] []))))):
  ZAs [1,1,1,0,0,0] (Z2J p q x7 x8 x6) (xT N0 (xB 0 (ZBU [1,1,1,1] Q))):=
 Eq.mpr (by kernel_rfl) (h _ rfl _ rfl _ rfl _ (Z0L _) _ (Z0L _))
def Zwf(p q:List AUnit):Prop:=AW (Z1 Zhh) Try.f144 ZmD [] (Zk (ZnI.can (p,q,())) []) (EQ Try.f144 (ZgM (p,q,())) [])
theorem ZuY(hb:∀ (p:List AUnit) (q:List AUnit) (_:Unit),ZgY (p,q,())→Zwf p q):CT 144 Z4W:=
 Z7 (l:=[]) Zm rfl trivial ZmD Try.func144 rfl rfl 2 (fun _=> rfl) (by decide) (fun ⟨p,q,_⟩=> hb p q ())
def Zn8:List (FuncId × Fs U):=[]
def Zsa:Zj U:=lvl [([1,2],[1,2]),([1,2,4],[1,2]),([1,2,4,5],[1,2]),([2],[2]),([1,2,8],[1,2]),([2],[2]),([2],[2])]
abbrev ZDg(p:List Nat):=AW (Z1 Zn8) Try.f146 Zsa p
theorem ZAS(u:AUnit)(Q:QT)(h:(((u.kind==0)=true→(Q .ret (L2 [(2,.ptr (.loc 2) 0)] [(.loc 2,[ci 0,ci 1,.nils,ci 0,ci 0,.nils,.nils,ci 0,.nils,.nils,.nils,.nils,ci 0,.nils])])))∧((u.kind==0)=false→(((u.kind==3)=true→(Q .ret (L2 [(2,.ptr (.loc 2) 0)] [(.loc 2,([ci 3,ci 0,.nils]++enc .edit u.e))])))∧((u.kind==3)=false→(Q .ret (L2 [(2,.ptr (.loc 2) 0)] [(.loc 2,[ci u.kind,ci 0,sU .tree ([(Tree.mk u.t.kind u.t.words u.t.kids)]) .full,ci 0,ci 0,.nils,.nils,ci 0,.nils,.nils,.nils,.nils,ci 0,.nils])]))))))):
  ZDg [] (L2 [(0,.agg (enc .unit u))] []) Q:=
 Eq.mpr (by kernel_rfl) h
def Zwd(u:AUnit):Prop:=AW (Z1 Zn8) Try.f146 Zsa [] (Zk (ZnG.can (u,())) []) (EQ Try.f146 (ZdG (u,())) [])
theorem ZuW(hb:∀ (u:AUnit) (_:Unit),ZaS (u,())→Zwd u):CT 146 Z4U:=
 Z7 (l:=[]) Zm rfl trivial Zsa Try.func146 rfl rfl 1 (fun _=> rfl) (by decide) (fun ⟨u,_⟩=> hb u ())
def ZkU:List (FuncId × Fs U):=[(29,Z2X)]
def Zvu:Zj U:=lvl [([0,1],[]),([0,1,10],[]),([4],[]),([0,1,5],[]),([0,1,5,14],[]),([0,1,5],[]),([0,1,5,26],[]),([4],[]),([4],[])]
def Za7(a b:List Tree)(x5:Int):LSt U:=(L2 [(0,.c (sU .tree a .unk)),(1,.c (sU .tree b .unk)),(5,.c (ci x5))] [])
abbrev A59(p:List Nat):=AW (Z1 ZkU) Try.f59 Zvu p
abbrev S59(p:List Nat):=SW (Z1 ZkU) Try.f59 Zvu p
theorem ZCD(a b:List Tree)(Q:QT)(h:let z0:=((a.length:Int):Int) !=(b.length:Int);((z0=true→(Q .ret (L2 [(4,.c (.bool false))] [])))∧(z0=false→(Ze (A59 [1,1,0,1,0,0]) (Za7 a b 0) (xB 0 (S59 [1,1,1] Q)))))):
  A59 [] (L2 [(0,.c (sU .tree a .unk)),(1,.c (sU .tree b .unk))] []) Q:=
 Eq.mpr (by kernel_rfl) h
theorem Zue(a b:List Tree)(x5:Int)(N0:NT)(Q:QT)(h:let z5:=decide (x5 < (a.length:Int));let z4:=a.getD x5.toNat Tree.nil;let z3:=b.getD x5.toNat Tree.nil;let z2:=Tree.mk (Tree.kind z3) (Tree.words z3) (Tree.kids z3);let z1:=Tree.mk (Tree.kind z4) (Tree.words z4) (Tree.kids z4);let z0:= !(YF z1 z2);((z5=true→((0:Int)≤x5∧x5 < (a.length:Int))∧((0:Int)≤x5∧x5 < (b.length:Int))∧(Z3A (z1,z2,()))∧((z0=true→(Q .ret (L2 [(4,.c (.bool false))] [])))∧(z0=false→(InR (x5+1))∧(N0 (Za7 a b (x5+1))))))∧(z5=false→(Q .ret (L2 [(4,.c (.bool true))] []))))):
  A59 [1,1,0,1,0,0] (Za7 a b x5) (xT N0 (xB 0 (S59 [1,1,1] Q))):=
 Eq.mpr (by kernel_rfl) h
def ZA8(a b:List Tree):Prop:=AW (Z1 ZkU) Try.f59 Zvu [] (Zk (Ztn.can (a,b,())) []) (EQ Try.f59 (ZwT (a,b,())) [])
theorem Zyh(c29:CT 29 Z2X)(hb:∀ (a:List Tree) (b:List Tree) (_:Unit),ZiK (a,b,())→ZA8 a b):CT 59 Zdi:=
 Z7 (l:=[(29,Z2X)]) Zm rfl (⟨c29,trivial⟩) Zvu Try.func59 rfl rfl 2 (fun _=> rfl) (by decide) (fun ⟨a,b,_⟩=> hb a b ())
def Zl0(N:Nat):List (FuncId × Fs U):=(19,fs Zll (fun a=> [Z7Z a,Zj6 a < N]) Zr2) ::[(29,Z2X),(59,Zdi)]
def ZvA:Zj U:=lvl [([2,3],[2,3]),([2,3,64],[2,3]),([4],[]),([2,3,5],[2,3]),([2,3,5,69],[2,3]),([2,3,5],[2,3]),([2,3,5,82],[2,3]),([4],[]),([2,3,6],[2,3]),([2,3,6,87],[2,3]),([2,3,6],[2,3]),([2,3,6,118],[2,3]),([4],[]),([2,3,7],[2,3]),([2,3,7,123],[2,3]),([2,3,7],[2,3]),([2,3,7,8,9],[2,3,8,9]),([2,3,7,163],[2,3]),([4],[]),([4],[])]
def Zah(a b:Edit)(x5:Int):LSt U:=(L2 [(2,.ptr (.loc 2) 0),(3,.ptr (.loc 3) 0),(5,.c (ci x5))] [(.loc 2,(enc .edit a)),(.loc 3,(enc .edit b))])
def Zag(a b:Edit)(x6_a:Int):LSt U:=(L2 [(2,.ptr (.loc 2) 0),(3,.ptr (.loc 3) 0),(6,.c (ci x6_a))] [(.loc 2,(enc .edit a)),(.loc 3,(enc .edit b))])
def Zaf(a b:Edit)(x7_b:Int):LSt U:=(L2 [(2,.ptr (.loc 2) 0),(3,.ptr (.loc 3) 0),(7,.c (ci x7_b))] [(.loc 2,(enc .edit a)),(.loc 3,(enc .edit b))])
abbrev A19(N:Nat)(p:List Nat):=AW (Z1 (Zl0 N)) Try.f19 ZvA p
abbrev S19(N:Nat)(p:List Nat):=SW (Z1 (Zl0 N)) Try.f19 ZvA p
theorem ZCS(N:Nat)(a b:Edit)(Q:QT)(h:∀ y_1,y_1=(a.new)→∀ y_2,y_2=(b.new)→∀ y_3,y_3=(a.old)→∀ y_4,y_4=(b.old)→let z5:=a.kind !=b.kind;let z3:=bif z5 then true else (a.list !=b.list);let z1:=bif z3 then true else (!(YF y_3 y_4));let z4:=bif z1 then true else (!(YF y_1 y_2));let z0:=bif z4 then true else (((a.words.length:Int):Int) !=(b.words.length:Int));let z2:=bif z0 then true else (((a.kids.length:Int):Int) !=(b.kids.length:Int));let z6:=bif z2 then true else (((a.ops.length:Int):Int) !=(b.ops.length:Int));((Tr ((!z5)=true))∧(Tr ((!z5)=true))∧(Tr ((!z5)=true))∧(Tr ((!z5)=true))∧(z5=false→(!z5)=true)∧(Tr ((!z3)=true))∧(Tr ((!z3)=true))∧(Tr ((!z3)=true))∧(Tr ((!z3)=true))∧((!z3)=true→Z3A (y_3,y_4,()))∧(Tr ((!z3)=true))∧(z3=false→(!z3)=true)∧(Tr ((!z1)=true))∧(Tr ((!z1)=true))∧(Tr ((!z1)=true))∧(Tr ((!z1)=true))∧((!z1)=true→Z3A (y_1,y_2,()))∧(Tr ((!z1)=true))∧(z1=false→(!z1)=true)∧(Tr ((!z4)=true))∧(Tr ((!z4)=true))∧(Tr ((!z4)=true))∧(Tr ((!z4)=true))∧(Tr ((!z4)=true))∧(Tr ((!z4)=true))∧(z4=false→(!z4)=true)∧(Tr ((!z0)=true))∧(Tr ((!z0)=true))∧(Tr ((!z0)=true))∧(Tr ((!z0)=true))∧(Tr ((!z0)=true))∧(Tr ((!z0)=true))∧(z0=false→(!z0)=true)∧(Tr ((!z2)=true))∧(Tr ((!z2)=true))∧(Tr ((!z2)=true))∧(Tr ((!z2)=true))∧(Tr ((!z2)=true))∧(Tr ((!z2)=true))∧(z2=false→(!z2)=true)∧((z6=true→(Q .ret (L2 [(4,.c (.bool false))] [])))∧(z6=false→(Ze (A19 N [1,1,0,1,0,0]) (Zah a b 0) (xB 0 (S19 N [1,1,1] Q))))))):
  A19 N [] (L2 [(0,.agg (enc .edit a)),(1,.agg (enc .edit b))] []) Q:=
 Eq.mpr (by kernel_rfl) (h _ (Zb _) _ (Zb _) _ (Zb _) _ (Zb _))
theorem Zut(N:Nat)(a b:Edit)(x5:Int)(N0:NT)(Q:QT)(h:let z3:=decide (x5 < (a.words.length:Int));let z2:=b.words.getD x5.toNat (WEdit.mk 0 0 0 0);let z1:=a.words.getD x5.toNat (WEdit.mk 0 0 0 0);let z0:= !((((WEdit.at_ z1):Int)==(WEdit.at_ z2)) && ((((WEdit.mask z1):Int)==(WEdit.mask z2)) && ((((WEdit.old z1):Int)==(WEdit.old z2)) && ((((WEdit.new z1):Int)==(WEdit.new z2)) && true))));((z3=true→((0:Int)≤x5∧x5 < (a.words.length:Int))∧((0:Int)≤x5∧x5 < (b.words.length:Int))∧((z0=true→(Q .ret (L2 [(4,.c (.bool false))] [])))∧(z0=false→(InR (x5+1))∧(N0 (Zah a b (x5+1))))))∧(z3=false→(Ze (A19 N [1,1,1,0,1,0,0]) (Zag a b 0) (xB 2 (S19 N [1,1,1,1] Q)))))):
  A19 N [1,1,0,1,0,0] (Zah a b x5) (xT N0 (xB 0 (S19 N [1,1,1] Q))):=
 Eq.mpr (by kernel_rfl) h
theorem Zus(N:Nat)(a b:Edit)(x6_a:Int)(N1:NT)(Q:QT)(h:∀ y_1,y_1=(a.kids.getD x6_a.toNat (KidOf.mk 0 Edit.nil))→∀ y_2,y_2=(b.kids.getD x6_a.toNat (KidOf.mk 0 Edit.nil))→∀ y_3,y_3=(y_1.e)→∀ y_4,y_4=(y_2.e)→let z2:=decide (x6_a < (a.kids.length:Int));let z0:=y_1.at_ !=y_2.at_;let z1:=bif z0 then true else (!(eqX y_3 y_4));((z2=true→((0:Int)≤x6_a∧x6_a < (a.kids.length:Int))∧((0:Int)≤x6_a∧x6_a < (b.kids.length:Int))∧(Tr ((!z0)=true))∧(Tr ((!z0)=true))∧(Tr ((!z0)=true))∧((!z0)=true→(0:Int)≤x6_a∧x6_a < (a.kids.length:Int))∧(Tr ((!z0)=true))∧(Tr ((!z0)=true))∧(Tr ((!z0)=true))∧(Tr ((!z0)=true))∧(Tr ((!z0)=true))∧((!z0)=true→(0:Int)≤x6_a∧x6_a < (b.kids.length:Int))∧(Tr ((!z0)=true))∧(Tr ((!z0)=true))∧(Tr ((!z0)=true))∧(Tr ((!z0)=true))∧((!z0)=true→Z7Z (y_3,y_4,()))∧((!z0)=true→Zj6 (y_3,y_4,()) < N)∧(Tr ((!z0)=true))∧(z0=false→(!z0)=true)∧((z1=true→(Q .ret (L2 [(4,.c (.bool false))] [])))∧(z1=false→(InR (x6_a+1))∧(N1 (Zag a b (x6_a+1))))))∧(z2=false→(Ze (A19 N [1,1,1,1,0,1,0,0]) (Zaf a b 0) (xB 4 (S19 N [1,1,1,1,1] Q)))))):
  A19 N [1,1,1,0,1,0,0] (Zag a b x6_a) (xT N1 (xB 2 (S19 N [1,1,1,1] Q))):=
 Eq.mpr (by kernel_rfl) (h _ rfl _ rfl _ (Z9 _) _ (Z9 _))
theorem Zur(N:Nat)(a b:Edit)(x7_b:Int)(N2:NT)(Q:QT)(h:∀ y_1,y_1=(a.ops.getD x7_b.toNat Op.nil)→∀ y_2,y_2=(b.ops.getD x7_b.toNat Op.nil)→∀ y_3,y_3=(y_1.e)→∀ y_4,y_4=(y_2.e)→let z4:=decide (x7_b < (a.ops.length:Int));let z2:=y_1.kind !=y_2.kind;let z0:=bif z2 then true else (y_1.n !=y_2.n);let z1:=bif z0 then true else (!(eqX y_1.l y_2.l));let z3:=bif z1 then true else (!(eqX y_3 y_4));((z4=true→((0:Int)≤x7_b∧x7_b < (a.ops.length:Int))∧((0:Int)≤x7_b∧x7_b < (b.ops.length:Int))∧((Tr ((!z2)=true))∧(Tr ((!z2)=true))∧(Tr ((!z2)=true))∧(Tr ((!z2)=true))∧(z2=false→(!z2)=true)∧(Tr ((!z0)=true))∧(Tr ((!z0)=true))∧(Tr ((!z0)=true))∧(Tr ((!z0)=true))∧((!z0)=true→ZiK (y_1.l,y_2.l,()))∧(Tr ((!z0)=true))∧(z0=false→(!z0)=true)∧(Tr ((!z1)=true))∧(Tr ((!z1)=true))∧(Tr ((!z1)=true))∧(Tr ((!z1)=true))∧((!z1)=true→Z7Z (y_3,y_4,()))∧((!z1)=true→Zj6 (y_3,y_4,()) < N)∧(Tr ((!z1)=true))∧(z1=false→(!z1)=true)∧((z3=true→(Q .ret (L2 [(4,.c (.bool false))] [])))∧(z3=false→(InR (x7_b+1))∧(N2 (Zaf a b (x7_b+1)))))))∧(z4=false→(Q .ret (L2 [(4,.c (.bool true))] []))))):
  A19 N [1,1,1,1,0,1,0,0] (Zaf a b x7_b) (xT N2 (xB 4 (S19 N [1,1,1,1,1] Q))):=
 Eq.mpr (by kernel_rfl) (h _ rfl _ rfl _ (Z9 _) _ (Z9 _))
def ZAn(N:Nat)(a b:Edit):Prop:=AW (Z1 (Zl0 N)) Try.f19 ZvA [] (Zk (Zll.can (a,b,())) []) (EQ Try.f19 (Zr2 (a,b,())) [])
theorem Zyt(c29:CT 29 Z2X)(c59:CT 59 Zdi)(hb:∀ (N:Nat) (a:Edit) (b:Edit) (_:Unit),Z7Z (a,b,())→Zj6 (a,b,()) < N+1→ZAn N a b):CT 19 Zdp:=
 YB (μ:=Zj6) (l:=[(29,Z2X),(59,Zdi)]) Zm rfl (⟨c29,c59,trivial⟩) ZvA Try.func19 rfl rfl 2 (fun _=> rfl) (by decide) (fun N ⟨a,b,_⟩=> hb N a b ())
end
end Go.AM.Ytpjenobkibfpcaa
namespace Go.AM.Ytpjenobkibfpcaa
open Go.AM Go.Proofs
theorem Zks{o:Op}(h:Zs o≤20000000000):o.l.length≤20000000000:=by
 have:=ZA o.l
 rw [ZI] at h
 omega
theorem Z8v{o:Op}(h:ZN o):0≤o.n∧o.n≤1048576:=by
 unfold ZN at h
 omega
theorem YQ(o:Op):Z2 o=if o.kind=3 then 1 else o.n+o.l.length:=rfl
theorem Zpl:Contract Try.prog cfg 190 Z3t:=by
 refine ZuK ?_
 intro o _ hp
 simp only [Z62] at hp
 have hl:=Zks hp.1
 refine ZAE _ _ ?_;(try simp only [vcT,forall_eq])
 (simp only [vcS]);(try simp only [vcT])
 exact ⟨fun hk=> Yn rfl (by rw [YQ,if_pos hk]),fun hk=> ⟨by unfold InR;omega,Yn rfl (by rw [YQ,if_neg hk])⟩⟩
theorem Zpk:Contract Try.prog cfg 191 Z3s:=by
 refine ZuJ ?_
 intro l al _ hp
 refine ZAD _ _ _ ?_;(try simp only [vcT,forall_eq])
 have e:((l.length:Int)==0)=decide (l.length=0):=by rw [Bool.eq_iff_iff];(simp only [vcS]);omega
 rw [e]
 (repeat' (first | exact trivial | exact rfl | apply And.intro))
theorem ZyY:Contract Try.prog cfg 188 Z8V:=by
 refine ZuM Zpk ?_
 intro l al _ hp
 refine ZAG _ _ _ ?_;(try simp only [vcT,forall_eq])
 have e:(bif (!(decide (l.length=0))) then ((OpOf.kind (List.getD l (Int.toNat 0) Op.nil))==al) else false)=sgl al l:=by
  rw [Bool.eq_iff_iff]
  simp only [sgl]
  (simp only [vcS])
  try rfl
 rw [e]
 refine ⟨hp,fun h=> ⟨by omega,?_⟩,by (repeat' (first | exact trivial | exact rfl | apply And.intro))⟩
 revert h
 (simp only [vcS])
 omega
theorem Zzd(Zt1:Contract Try.prog cfg 169 Z6O):Contract Try.prog cfg 135 Z2a:=by
 refine Zv4 Zt1 ?_
 intro p q _ hp
 refine ZB3 _ _ _ ?_;(try simp only [vcT,forall_eq])
 refine ⟨hp,?_⟩
 (repeat' (first | exact trivial | exact rfl | apply And.intro))
theorem ZyX:Contract Try.prog cfg 189 Z8U:=by
 refine ZuL Zpl ?_
 intro l al n _ hp
 simp only [Z8n] at hp
 obtain ⟨⟨ho,hm⟩,hl,h1,h2⟩:=hp
 have hmem:=Zg (l:=l) (i:=0) (by omega) Op.nil
 have hok:=ho _ hmem
 have hmo:=ZL hmem
 have hlen:=ZM l
 refine ZAF _ _ _ _ ?_;(try simp only [vcT])
 rintro y rfl _ rfl _ rfl
 have e0:(Int.toNat 0)=0:=rfl
 have e1:(Int.toNat 1)=1:=rfl
 simp only [e0,e1]
 have hT:∀ o r,Zz (l.getD 0 Op.nil) n=o→ZO l n=r→True:=fun _ _ _ _=> trivial
 have hon:=Z8v hok
 have hln:=YQ (l.getD 0 Op.nil)
 (simp only [vcS])
 generalize hy:l.getD 0 Op.nil=y at*
 refine ⟨⟨by omega,by omega⟩,⟨by dsimp only;omega,hon⟩,fun hc=> ⟨⟨by omega,by omega⟩,?_⟩,fun hc=> ⟨fun hk=> ⟨by unfold InR;omega,⟨by omega,by omega⟩,by simp;omega,?_⟩,fun hk=> ?_⟩⟩
 ·have t1:Zz y n=y:=by rw [Zz,if_pos hc]
  have t2:ZO l n=l.drop 1:=by rw [ZO,hy,if_pos hc]
  simp only [ZdE,Z9g,hy,t1,t2]
  (repeat' (first | exact trivial | exact rfl | apply And.intro))
 ·have t1:Zz y n=⟨y.kind,n,y.l,y.e⟩:=by rw [Zz,if_neg hc,if_pos hk]
  have t2:ZO l n=⟨y.kind,y.n - n,y.l,y.e⟩ ::l.drop 1:=by rw [ZO,hy,if_neg hc,JS,if_pos hk]
  simp only [ZdE,Z9g,hy,t1,t2]
  (repeat' (first | exact trivial | exact rfl | apply And.intro))
 ·have t1:Zz y n=⟨y.kind,y.n,y.l.take n.toNat,y.e⟩:=by rw [Zz,if_neg hc,if_neg hk]
  have t2:ZO l n=⟨y.kind,y.n,y.l.drop n.toNat,y.e⟩ ::l.drop 1:=by rw [ZO,hy,if_neg hc,JS,if_neg hk]
  simp only [ZdE,Z9g,hy,t1,t2]
  unfold ZN at hok
  refine ⟨?_,?_,⟨by omega,by omega⟩,by simp;omega,?_⟩
  ·split at hln <;> omega
  ·split at hln <;> omega
  ·(repeat' (first | exact trivial | exact rfl | apply And.intro))
theorem Z3e(n:Nat):∀ (l:List Tree),Zf (l.drop n)≤Zf l:=by
 induction n with
 | zero=> intro l;simp
 | succ n ih=>
  intro l
  cases l with
  | nil=> simp
  | cons t r=> simp only [List.drop_succ_cons,Zf];have:=ih r;omega
theorem Zel(n:Nat):∀ (l:List Tree),Zf (l.take n)≤Zf l:=by
 induction n with
 | zero=> intro l;simp [Zf]
 | succ n ih=>
  intro l
  cases l with
  | nil=> simp
  | cons t r=> simp only [List.take_succ_cons,Zf];have:=ih r;omega
theorem ZY{o:Op}(h:ZN o):1≤Z2 o:=by
 have:=YQ o
 unfold ZN at h
 have hl:o.l≠[]→0 < o.l.length:=List.length_pos_iff.2
 rcases h with ⟨h1,h2,h3,h4⟩ | ⟨h1,h2,h3,h4⟩ | ⟨h1,h2,h3⟩
 ·rw [h2] at this;simp at this;split at this <;> omega
 ·have:=hl h3;split at* <;> omega
 ·rw [if_pos h1] at this;omega
theorem Z6d{o:Op}(h:ZN o)(hm:Zs o≤20000000000):Z2 o≤20000000000:=by
 have:=YQ o
 have:=Zks hm
 have:=Z8v h
 unfold ZN at h
 rcases h with ⟨h1,h2,h3,h4⟩ | ⟨h1,h2,h3,h4⟩ | ⟨h1,h2,h3⟩
 ·simp [h2,h1] at*;omega
 ·split at* <;> omega
 ·split at* <;> omega
theorem Z3D(o:Op)(r:List Op):Zh (o ::r)=Zs o+Zh r:=rfl
theorem Z79{l:List Op}(h:Z9u l):Z9u (l.drop 1):=by
 cases l with
 | nil=> exact h
 | cons o r=>
  obtain ⟨h1,h2⟩:=h
  rw [Z3D] at h2
  exact ⟨fun x hx=> h1 x (List.mem_cons_of_mem _ hx),by simp only [List.drop_succ_cons,List.drop_zero];omega⟩
theorem Zb1{l:List Op}(h:Z9u l)(hl:l.length≠0):ZN (l.getD 0 Op.nil)∧Zs (l.getD 0 Op.nil)≤20000000000∧Zs (l.getD 0 Op.nil)≤Zh l:=by
 have hm:=Zg (l:=l) (i:=0) (by omega) Op.nil
 have:=ZL hm
 exact ⟨h.1 _ hm,by have:=h.2;omega,this⟩
theorem Zan{o:Op}{n:Int}(h:ZN o)(h1:1≤n)(h2:¬Z2 o≤n):ZN (JS o n)∧Zs (JS o n)≤Zs o:=by
 have hl:=YQ o
 unfold JS
 unfold ZN at*
 by_cases hk:o.kind=0
 ·rw [if_pos hk]
  refine ⟨Or.inl ?_,by simp only [ZI];omega⟩
  rcases h with h | h | h
  ·obtain ⟨a,b,c,d⟩:=h
   rw [b,if_neg (by omega)] at hl
   simp at hl
   exact ⟨a,b,by dsimp only;omega,d⟩
  ·omega
  ·omega
 ·rw [if_neg hk]
  have:=Z3e n.toNat o.l
  refine ⟨Or.inr ?_,by simp only [ZI];omega⟩
  rcases h with h | h | h
  ·omega
  ·obtain ⟨a,b,c,d⟩:=h
   rw [if_neg (by omega)] at hl
   refine Or.inl ⟨a,b,?_,d⟩
   intro he
   have:=congrArg List.length he
   simp at this
   omega
  ·rw [if_pos h.1] at hl;omega
theorem Ze2{l:List Op}{n:Int}(h:Z9u l)(hl:l.length≠0)(h1:1≤n):Z9u (ZO l n):=by
 unfold ZO
 split
 ·exact Z79 h
 ·rename_i hc
  obtain ⟨a,b,c⟩:=Zb1 h hl
  obtain ⟨d,e⟩:=Zan a h1 hc
  have hd:=Z79 h
  refine ⟨fun x hx=> ?_,?_⟩
  ·rcases List.mem_cons.1 hx with rfl | hx
   ·exact d
   ·exact hd.1 _ hx
  ·rw [Z3D]
   obtain _ | ⟨o,r⟩:=l
   ·simp at hl
   ·have:=h.2
    rw [Z3D] at this
    simp at*
    omega
theorem Z6J(l:List Op):ZO l (Z2 (l.getD 0 Op.nil))=l.drop 1:=by rw [ZO,if_pos (Int.le_refl _)]
theorem Z6K(o:Op):Zz o (Z2 o)=o:=by rw [Zz,if_pos (Int.le_refl _)]
theorem ZlY{a:Int}{l:List Op}(h:sgl a l=true):l.length≠0:=(of_decide_eq_true h).1
theorem Zfd{α:Type}(b:Bool)(x:α):(bif b then x else x)=x:=by cases b <;> rfl
theorem Zt1:Contract Try.prog cfg 169 Z6O:=by
 refine ZuQ ZyY ZyX Zpl Zpk ?_
 intro pl pa ql qa _ hp
 simp only [ZgX] at hp
 have hpl:=ZM pl
 have hql:=ZM ql
 have hP:=hp.1.2
 have hQ:=hp.2.2
 refine ZAK _ _ _ _ _ ?_;(try simp only [vcT,forall_eq])
 refine Z6 (ι:=List Op × List Op × List Piece) (fun s=> Z2G pl pa ql qa s.1 s.2.1 qa s.2.2) (fun s=> Z9u s.1∧Z9u s.2.1∧s.2.2.length+s.1.length+s.2.1.length≤40000000000∧ZP pa qa s.1 s.2.1 s.2.2=ZP pa qa pl ql []) (fun s=> s.1.length+s.2.1.length) (pl,ql,[]) rfl ⟨hp.1,hp.2,by simp;omega,rfl⟩ ?_
 rintro ⟨p,q,out⟩ ⟨h1,h2,h3,h4⟩
 refine ZpR _ _ _ _ _ _ _ _ _ _ ?_;(try simp only [vcT])
 have e0:(Int.toNat 0)=0:=rfl
 simp only [e0,Zfd]
 dsimp only at h1 h2 h3 h4
 rintro z1 hy1 z2 hy2 y3 hy3 z4 hy4 y1 rfl y2 rfl y4 rfl y8 hy8 y9 hy9 y10 hy10 y11 hy11
 have ey:y4=y2:=hy4.trans hy2.symm
 rw [ey] at hy10 hy11 ⊢
 have e3:(OpOf.mk 0 0 [] y3:Op)=Op.nil:=by rw [hy3];try rfl
 rw [←hy1,Z6K] at hy8
 rw [←hy2,Z6K] at hy9
 have hmin:∀ a b:Int,(if a < b then a else b)=min b a:=by intro a b;omega
 rw [←hy1,hmin] at hy10
 rw [←hy2,hmin] at hy11
 simp only [hmin,e3,hy8,hy9]
 (simp only [vcS])
 have o1:p.length≠0→ZN y1∧Zs y1≤20000000000:=fun h=> by have:=Zb1 h1 h;rw [←hy1] at this;exact ⟨this.1,this.2.1⟩
 have o2:q.length≠0→ZN y2∧Zs y2≤20000000000:=fun h=> by have:=Zb1 h2 h;rw [←hy2] at this;exact ⟨this.1,this.2.1⟩
 have tp:ZO p (Z2 y1)=p.drop 1:=by rw [hy1];exact Z6J p
 have tq:ZO q (Z2 y2)=q.drop 1:=by rw [hy2];exact Z6J q
 have hm1:=ZM p
 have hm2:=ZM q
 have hm3:=h1.2
 have hm4:=h2.2
 rw [ZP] at h4
 rw [←hy1,←hy2] at h4
 refine ⟨by simp only [ZaP];omega,fun hs=> ?_,fun hs=> ?_⟩
 ·have hl:=ZlY hs
  obtain ⟨oa,ob⟩:=o1 hl
  have oc:=ZY oa
  have od:=Z6d oa ob
  rw [dif_pos hs] at h4
  refine ⟨⟨by omega,by omega⟩,⟨ob,Z8v oa⟩,⟨h1,hl,oc,by dsimp only;omega⟩,by simp;omega,(p.drop 1,q,out++[⟨1,y1,Op.nil⟩]),by rw [tp],⟨Z79 h1,h2,by simp;omega,h4⟩,by simp;omega⟩
 ·rw [dif_neg (by rw [hs];exact Bool.false_ne_true)] at h4
  refine ⟨by simp only [ZaP];omega,fun hs2=> ?_,fun hs2=> ?_⟩
  ·have hl:=ZlY hs2
   obtain ⟨oa,ob⟩:=o2 hl
   have oc:=ZY oa
   have od:=Z6d oa ob
   rw [dif_pos hs2] at h4
   refine ⟨⟨by omega,by omega⟩,⟨ob,Z8v oa⟩,⟨h2,hl,oc,by dsimp only;omega⟩,by simp;omega,(p,q.drop 1,out++[⟨2,Op.nil,y2⟩]),by rw [tq],⟨h1,Z79 h2,by simp;omega,h4⟩,by simp;omega⟩
  ·rw [dif_neg (by rw [hs2];exact Bool.false_ne_true)] at h4
   refine ⟨by simp only [Z3U];omega,fun _=> by simp only [Z3U];omega,fun h=> h,fun hd=> ⟨by simp only [Z3U];omega,by simp only [Z3U];omega,fun he=> ?_,fun he=> ?_⟩,fun hd=> ?_⟩
   ·rw [dif_pos hd,if_neg he] at h4
    simp only [ZgK,ZcH,←h4]
    (repeat' (first | exact trivial | exact rfl | apply And.intro))
   ·rw [dif_pos hd,if_pos he] at h4
    simp only [ZgK,ZcH,←h4]
    (repeat' (first | exact trivial | exact rfl | apply And.intro))
   ·obtain ⟨oa,ob⟩:=o1 hd.1
    obtain ⟨oc,od⟩:=o2 hd.2
    have a1:=ZY oa
    have a2:=Z6d oa ob
    have a3:=ZY oc
    have a4:=Z6d oc od
    rw [dif_neg (by omega),←hy10,←hy11] at h4
    have c1:=YA p (min (Z2 y1) (Z2 y2)) hd.1
    have c2:=YA q (min (Z2 y1) (Z2 y2)) hd.2
    have c3:Z2 y1≤min (Z2 y1) (Z2 y2)→(ZO p (min (Z2 y1) (Z2 y2))).length < p.length:=fun h=> Yz p _ hd.1 (by rw [←hy1];exact h)
    have c4:Z2 y2≤min (Z2 y1) (Z2 y2)→(ZO q (min (Z2 y1) (Z2 y2))).length < q.length:=fun h=> Yz q _ hd.2 (by rw [←hy2];exact h)
    refine ⟨⟨by omega,by omega⟩,⟨ob,Z8v oa⟩,⟨by omega,by omega⟩,⟨od,Z8v oc⟩,⟨h1,hd.1,by dsimp only;omega,by dsimp only;omega⟩,⟨h2,hd.2,by dsimp only;omega,by dsimp only;omega⟩,by simp;omega,
     (ZO p (min (Z2 y1) (Z2 y2)),ZO q (min (Z2 y1) (Z2 y2)),out++[⟨0,y10,y11⟩]),rfl,⟨Ze2 h1 hd.1 (by omega),Ze2 h2 hd.2 (by omega),by simp;omega,h4⟩,by dsimp only;omega⟩
end Go.AM.Ytpjenobkibfpcaa
namespace Go.AM.Ytpjenobkibfpcaa
open Go.AM Go.Proofs
theorem Z5E{o:Op}(h:ZN o)(i a:Int):((Yq i a o).length:Int)=Z2 o:=by
 have hl:=YQ o
 unfold ZN at h
 simp only [Yq,List.length_append,List.length_map]
 rcases h with ⟨h1,h2,h3,h4⟩ | ⟨h1,h2,h3,h4⟩ | ⟨h1,h2,h3⟩
 ·rw [if_pos h1,if_neg (by omega),h2]
  rw [if_neg (by omega),h2] at hl
  simp at*
  omega
 ·rw [if_neg (by omega),if_neg (by omega)]
  rw [if_neg (by omega)] at hl
  simp
  omega
 ·rw [if_neg (by omega),if_pos h1,h3]
  rw [if_pos h1] at hl
  simp
  omega
theorem Z4I(a:Int):∀ (l:List Op) (i:Int),(∀ o∈l,ZN o)→((ZE i a l).length:Int)=Z1t l
 | [],_,_=> rfl
 | o ::r,i,h=> by
  have h1:=Z5E (h o (List.mem_cons_self ..)) i a
  have h2:=Z4I a r (i+1) (fun x hx=> h x (List.mem_cons_of_mem _ hx))
  simp only [ZE,List.length_append,Z1t]
  omega
theorem Zz7:Contract Try.prog cfg 145 Z4V:=by
 refine ZuX ?_
 intro l al _ hp
 simp only [ZdW] at hp
 obtain ⟨⟨hok,hma⟩,hk⟩:=hp
 have hln:=ZM l
 have htot:=Z4I al l 0 hok
 refine ZAT _ _ _ ?_;(try simp only [vcT,forall_eq])
 refine Z6 (ι:=Int × List AUnit) (fun s=> Z4s l al s.1 s.2) (fun s=> 0≤s.1∧s.1≤l.length∧s.2++ZE s.1 al (l.drop s.1.toNat)=ZE 0 al l) (fun s=> ((l.length:Int) - s.1).toNat) (0,[]) rfl ⟨by simp,by simp,by simp⟩ ?_
 rintro ⟨i,out⟩ ⟨h1,h2,h3⟩
 dsimp only at h1 h2 h3
 refine ZpX _ _ _ _ _ _ ?_;(try simp only [vcT,forall_eq])
 (simp only [vcS]);(try simp only [vcT])
 refine ⟨fun hi=> ⟨⟨h1,hi⟩,?_⟩,fun hi=> ?_⟩
 ·have hmem:=Zg (l:=l) (i:=i.toNat) (by omega) Op.nil
  have ho:=hok _ hmem
  have hmo:=ZL hmem
  rw [Y1 h1 hi Op.nil] at h3
  simp only [ZE] at h3
  have hlen:=congrArg List.length h3
  have hul:=Z5E ho i al
  generalize hy:l.getD i.toNat Op.nil=o at*
  have hon:=Z8v ho
  have hol:=Zks (o:=o) (by omega)
  have hole:=Z6d ho (by omega)
  simp only [List.length_append] at hlen
  let u:AUnit:=⟨i,0,Tree.nil,Edit.nil,false⟩
  let A:List AUnit:=if o.kind=0 then List.replicate o.n.toNat u else []
  have hA:A.length≤40000000000:=by simp only [A];split <;> simp;omega
  refine Z6 (ι:=Int) (fun k=> Z7n l al i k (out++List.replicate k.toNat u)) (fun k=> 0≤k∧k≤(if o.kind=0 then o.n else 0)) (fun k=> (o.n - k).toNat) 0 (by simp) ⟨by omega,by split <;> omega⟩ ?_
  rintro k ⟨k1,k2⟩
  refine ZpW _ _ _ _ _ _ _ _ ?_;(try simp only [vcT,forall_eq])
  simp only [hy]
  (simp only [vcS]);(try simp only [vcT])
  refine ⟨fun hc=> ?_,fun hc=> ?_⟩
  ·rw [if_pos hc.2] at k2
   refine ⟨by simp;omega,by unfold InR;omega,k+1,?_,⟨by omega,by rw [if_pos hc.2];omega⟩,by omega⟩
   rw [show (k+1).toNat=k.toNat+1 by omega,List.replicate_succ',←List.append_assoc]
   try rfl
  ·have hkA:List.replicate k.toNat u=A:=by
    simp only [A]
    by_cases hk0:o.kind=0
    ·rw [if_pos hk0] at k2 ⊢
     rw [show k=o.n by omega]
    ·rw [if_neg hk0] at k2 ⊢
     rw [show k=0 by omega]
     try rfl
   rw [hkA]
   refine Z6 (ι:=Int) (fun j=> Z7m l al i j (out++(A++(o.l.take j.toNat).map (fun t=> (⟨i,o.kind,t,Edit.nil,decide (o.kind=al)⟩:AUnit))))) (fun j=> 0≤j∧j≤o.l.length) (fun j=> ((o.l.length:Int) - j).toNat) 0 (by simp) ⟨by omega,by omega⟩ ?_
   rintro j ⟨j1,j2⟩
   refine ZpV _ _ _ _ _ _ _ _ ?_;(try simp only [vcT])
   rw [hy]
   rintro y1 hy1 y3 hy3 y5 hy5
   obtain rfl:=hy1.symm
   have hjl:(o.l.take j.toNat).length≤20000000000:=by simp;omega
   (simp only [vcS])
   refine ⟨fun hc=> ⟨⟨j1,hc⟩,by simp;omega,by unfold InR;omega,j+1,?_,⟨by omega,by omega⟩,by omega⟩,fun hc=> ?_⟩
   ·rw [show (j+1).toNat=j.toNat+1 by omega,List.take_succ_eq_append_getElem (by omega),List.map_append,←List.append_assoc,←List.append_assoc,←List.append_assoc]
    congr 2
    have e:o.l.getD j.toNat Tree.nil=o.l[j.toNat]:=by rw [List.getD_eq_getElem?_getD,List.getElem?_eq_getElem (by omega)];try rfl
    rw [hy5,e]
    have e2:(o.kind==al)=decide (o.kind=al):=by rw [Bool.eq_iff_iff];(simp only [vcS])
    rw [e2]
    try rfl
   ·rw [List.take_of_length_le (by omega)]
    have e4:∀ B:List AUnit,out++(A++(o.l.map (fun t=> (⟨i,o.kind,t,Edit.nil,decide (o.kind=al)⟩:AUnit))))++B=out++(A++(o.l.map (fun t=> (⟨i,o.kind,t,Edit.nil,decide (o.kind=al)⟩:AUnit))++B)):=by intro B;simp
    refine ⟨fun hq=> ⟨by simp;omega,by unfold InR;omega,(i+1,out++Yq i al o),?_,⟨by dsimp only;omega,by dsimp only;omega,?_⟩,by dsimp only;omega⟩,fun hq=> ⟨by unfold InR;omega,(i+1,out++Yq i al o),?_,⟨by dsimp only;omega,by dsimp only;omega,?_⟩,by dsimp only;omega⟩⟩
    ·rw [e4]
     simp only [Yq]
     rw [if_pos hq,hy3]
     try rfl
    ·rw [List.append_assoc];exact h3
    ·simp only [Yq]
     rw [if_neg hq]
     simp only [List.append_nil]
     try rfl
    ·rw [List.append_assoc];exact h3
 ·rw [List.drop_of_length_le (by omega)] at h3
  simp only [ZE,List.append_nil] at h3
  rw [h3]
  (repeat' (first | exact trivial | exact rfl | apply And.intro))
theorem Z8D{α:Type}(l:List α)(i:Nat)(d:α):(l.drop i).getD 0 d=l.getD i d:=by
 simp [List.getD_eq_getElem?_getD]
theorem ZjJ{l:List AUnit}{i:Int}(h0:0≤i):(alo (l.drop i.toNat)=true)↔(i < l.length∧(l.getD i.toNat AUnit.nil).alone=true):=by
 unfold alo
 rw [decide_eq_true_eq,Z8D,List.length_drop]
 constructor
 ·rintro ⟨a,b⟩;exact ⟨by omega,b⟩
 ·rintro ⟨a,b⟩;exact ⟨by omega,b⟩
theorem ZeF{α:Type}(l:List α){i:Int}(h0:0≤i):(l.drop i.toNat).drop 1=l.drop (i+1).toNat:=by
 rw [List.drop_drop];congr 1;omega
theorem Zz8:Contract Try.prog cfg 144 Z4W:=by
 refine ZuY ?_
 intro p q _ hp
 simp only [ZgY] at hp
 refine ZAU _ _ _ ?_;(try simp only [vcT])
 refine Z6 (ι:=Int × Int × List APair) (fun s=> Z2J p q s.1 s.2.1 s.2.2) (fun s=> (0≤s.1∧s.1≤p.length)∧(0≤s.2.1∧s.2.1≤q.length)∧s.2.2.length≤s.1+s.2.1∧ZX (p.drop s.1.toNat) (q.drop s.2.1.toNat) s.2.2=ZX p q []) (fun s=> ((p.length:Int) - s.1).toNat+((q.length:Int) - s.2.1).toNat) (0,0,[]) rfl ⟨by simp,by simp,by simp,by simp⟩ ?_
 rintro ⟨i,j,out⟩ ⟨⟨h1,h2⟩,⟨h3,h4⟩,h5,h6⟩
 dsimp only at h1 h2 h3 h4 h5 h6
 refine ZpY _ _ _ _ _ _ _ ?_;(try simp only [vcT])
 rintro y1 hy1 y2 hy2 y3 hy3 y4 hy4 y5 hy5
 obtain rfl:=hy4.symm
 obtain rfl:=hy5.symm
 obtain ⟨y6,hy6⟩:∃ y,y=APair.mk 1 y1 (AUnit.mk 0 0 (Tree.mk 0 [] []) y3 false):=⟨_,rfl⟩
 obtain ⟨y7,hy7⟩:∃ y,y=APair.mk 2 (AUnit.mk 0 0 (Tree.mk 0 [] []) y3 false) y2:=⟨_,rfl⟩
 rw [←hy6,←hy7]
 have e1:y6=⟨1,y1,AUnit.nil⟩:=by rw [hy6,hy3];try rfl
 have e2:y7=⟨2,AUnit.nil,y2⟩:=by rw [hy7,hy3];try rfl
 rw [ZX,Z8D,Z8D,←hy1,←hy2,ZeF _ h1,ZeF _ h3] at h6
 have ap:=ZjJ (l:=p) h1
 have aq:=ZjJ (l:=q) h3
 rw [←hy1] at ap
 rw [←hy2] at aq
 (simp only [vcS])
 try simp only [vcT]
 refine ⟨fun hc=> ⟨fun _=> ⟨h1,by omega⟩,fun ha=> ⟨⟨h1,ha.1⟩,by simp;omega,by unfold InR;omega,(i+1,j,out++[y6]),rfl,⟨⟨by omega,by dsimp only;omega⟩,⟨h3,h4⟩,by simp;omega,?_⟩,by dsimp only;omega⟩,fun ha=> ⟨fun _=> ⟨h3,by omega⟩,fun hb=> ⟨⟨h3,hb.1⟩,by simp;omega,by unfold InR;omega,(i,j+1,out++[y7]),rfl,⟨⟨h1,h2⟩,⟨by dsimp only;omega,by dsimp only;omega⟩,by simp;omega,?_⟩,by dsimp only;omega⟩,fun hb=> ⟨fun he=> ?_,fun he=> ?_⟩⟩⟩,fun hc=> ?_⟩
 ·rw [dif_pos (ap.2 ha),←e1] at h6;exact h6
 ·rw [dif_neg (fun h=> ?_),dif_pos (aq.2 hb),←e2] at h6
  ·exact h6
  ·have:=ap.1 h;simp_all
 ·rw [dif_neg (fun h=> ?_),dif_neg (fun h=> ?_),dif_pos (by simp only [List.length_drop];omega),if_neg] at h6
  ·simp only [ZgM,←h6]
   (repeat' (first | exact trivial | exact rfl | apply And.intro))
  ·simp only [List.length_drop,decide_eq_decide];omega
  ·have:=aq.1 h;simp_all
  ·have:=ap.1 h;simp_all
 ·rw [dif_neg (fun h=> ?_),dif_neg (fun h=> ?_),dif_neg (by simp only [List.length_drop];omega)] at h6
  ·refine ⟨⟨h1,by omega⟩,⟨h3,by omega⟩,by simp;omega,by unfold InR;omega,by unfold InR;omega,(i+1,j+1,out++[⟨0,y1,y2⟩]),rfl,⟨⟨by dsimp only;omega,by dsimp only;omega⟩,⟨by dsimp only;omega,by dsimp only;omega⟩,by simp;omega,h6⟩,by dsimp only;omega⟩
  ·have:=aq.1 h;simp_all
  ·have:=ap.1 h;simp_all
 ·rw [dif_neg (fun h=> ?_),dif_neg (fun h=> ?_),dif_pos (by simp only [List.length_drop];omega),if_pos] at h6
  ·simp only [ZgM,←h6]
   (repeat' (first | exact trivial | exact rfl | apply And.intro))
  ·simp only [List.length_drop,decide_eq_decide];omega
  ·have:=aq.1 h;omega
  ·have:=ap.1 h;omega
theorem Zz6:Contract Try.prog cfg 146 Z4U:=by
 refine ZuW ?_
 intro u _ hp
 refine ZAS _ _ ?_;(try simp only [vcT,forall_eq])
 (simp only [vcS]);(try simp only [vcT])
 refine ⟨fun h=> ?_,fun h=> ⟨fun h2=> ?_,fun h2=> ?_⟩⟩
 ·have e:opU u=⟨0,1,[],Edit.nil⟩:=by rw [opU,if_pos h]
  simp only [ZdG,e]
  (repeat' (first | exact trivial | exact rfl | apply And.intro))
 ·have e:opU u=⟨3,0,[],u.e⟩:=by rw [opU,if_neg h,if_pos h2]
  simp only [ZdG,e]
  (repeat' (first | exact trivial | exact rfl | apply And.intro))
 ·have e:opU u=⟨u.kind,0,[u.t],Edit.nil⟩:=by rw [opU,if_neg h,if_neg h2]
  try (simp only [Tree.eta,Edit.eta,Tree.kind_mk,Tree.words_mk,Tree.kids_mk])
  simp only [ZdG,e]
  (repeat' (first | exact trivial | exact rfl | apply And.intro))
theorem Z40{α:Type}{a b:α}(h:¬a=b):eqX a b=false:=by rw [←Bool.not_eq_true,Jm];exact h
theorem Z2i{α:Type}(d:α){a b:List α}(hl:a.length=b.length)(h:∀ i:Nat,i < a.length→a.getD i d=b.getD i d):a=b:=by
 apply List.ext_getElem hl
 intro i h1 h2
 have:=h i h1
 simpa [List.getD_eq_getElem?_getD,List.getElem?_eq_getElem h1,List.getElem?_eq_getElem h2] using this
theorem c59:Contract Try.prog cfg 59 Zdi:=by
 refine Zyh c29 ?_
 intro a b _ hp
 simp only [ZiK] at hp
 refine ZCD _ _ _ ?_;(try simp only [vcT,forall_eq])
 (simp only [vcS]);(try simp only [vcT])
 refine ⟨fun hc=> Zi rfl (Z40 (a:=a) (b:=b) (fun h=> hc (by rw [h]))).symm,fun hc=> ?_⟩
 have hl:a.length=b.length:=by omega
 have hla:=ZA a
 refine Z6 (ι:=Int) (fun i=> Za7 a b i) (fun i=> 0≤i∧i≤a.length∧∀ j:Nat,(j:Int) < i→a.getD j Tree.nil=b.getD j Tree.nil) (fun i=> ((a.length:Int) - i).toNat) 0 rfl ⟨by omega,by omega,by intro j hj;omega⟩ ?_
 rintro i ⟨h1,h2,h3⟩
 refine Zue _ _ _ _ _ ?_;(try simp only [vcT,forall_eq])
 (simp only [vcS]);(try simp only [vcT])
 try (simp only [Tree.eta,Edit.eta,Tree.kind_mk,Tree.words_mk,Tree.kids_mk])
 refine ⟨fun hi=> ⟨⟨h1,hi⟩,⟨h1,by omega⟩,?_,fun hq=> ?_,fun hq=> ⟨by unfold InR;omega,i+1,rfl,⟨by omega,by omega,?_⟩,by omega⟩⟩,fun hi=> ?_⟩
 ·have:=YJ (Zg (l:=a) (i:=i.toNat) (by omega) Tree.nil)
  simp only [Z3A];omega
 ·refine Zi rfl (Z40 (a:=a) (b:=b) (fun h=> ?_)).symm
  rw [h,YE] at hq
  exact hq rfl
 ·intro j hj
  by_cases hj2:(j:Int) < i
  ·exact h3 j hj2
  ·rw [Yw,show i.toNat=j by omega] at hq
   exact hq
 ·refine Zi rfl (Jm (a:=a) (b:=b).2 (Z2i Tree.nil hl (fun j hj=> h3 j (by omega)))).symm
theorem ZsP{a b:Edit}(h1:a.kind=b.kind)(h2:a.old=b.old)(h3:a.new=b.new)(h4:a.words=b.words)(h5:a.kids=b.kids)(h6:a.list=b.list)(h7:a.ops=b.ops):a=b:=by
 cases a;cases b;simp_all
theorem ZvE{a b:Kid}(h1:a.at_=b.at_)(h2:a.e=b.e):a=b:=by cases a;cases b;simp_all
theorem ZxV{a b:Op}(h1:a.kind=b.kind)(h2:a.n=b.n)(h3:a.l=b.l)(h4:a.e=b.e):a=b:=by cases a;cases b;simp_all
theorem Zog{a b:WEdit}(h1:a.at_=b.at_)(h2:a.mask=b.mask)(h3:a.old=b.old)(h4:a.new=b.new):a=b:=by cases a;cases b;simp_all
theorem c19:Contract Try.prog cfg 19 Zdp:=by
 refine Zyt c29 c59 ?_
 intro N a b _ hp hN
 simp only [Z7Z,Zj6] at hp hN
 have hme:=Yg a
 have hkl:=Ym a.kids
 have hol:=ZM a.ops
 have neq:∀ {P:Prop},(a=b→P)→¬P→eqX a b=false:=fun h1 h2=> Z40 (fun h=> h2 (h1 h))
 refine ZCS N a b _ ?_;(try simp only [vcT])
 rintro y1 rfl y2 rfl y3 rfl y4 rfl
 (simp only [vcS]);(try simp only [vcT])
 refine ⟨fun _=> ?_,fun _=> ?_,fun hc=> ?_,fun hc=> ?_⟩
 ·simp only [Z3A];omega
 ·simp only [Z3A];omega
 ·refine Zi rfl (Z40 (a:=a) (b:=b) (fun h=> ?_)).symm
  rw [h] at hc
  simp only [YE] at hc
  simp at hc
 ·simp only [Yw,Classical.not_not] at hc
  obtain ⟨⟨⟨⟨⟨⟨h1,h2⟩,h3⟩,h4⟩,h5⟩,h6⟩,h7⟩:=hc
  refine Z6 (ι:=Int) (fun i=> Zah a b i) (fun i=> 0≤i∧i≤a.words.length∧∀ j:Nat,(j:Int) < i→a.words.getD j (WEdit.mk 0 0 0 0)=b.words.getD j (WEdit.mk 0 0 0 0)) (fun i=> ((a.words.length:Int) - i).toNat) 0 rfl ⟨by omega,by omega,by intro j hj;omega⟩ ?_
  rintro i ⟨g1,g2,g3⟩
  refine Zut _ _ _ _ _ _ ?_;(try simp only [vcT,forall_eq])
  (simp only [vcS]);(try simp only [vcT])
  try simp only [and_true]
  refine ⟨fun hi=> ⟨⟨g1,hi⟩,⟨g1,by omega⟩,fun hq=> ?_,fun hq=> ⟨by unfold InR;omega,i+1,rfl,⟨by omega,by omega,?_⟩,by omega⟩⟩,fun hi=> ?_⟩
  ·refine Zi rfl (Z40 (a:=a) (b:=b) (fun h=> ?_)).symm
   rw [h] at hq
   simp at hq
  ·intro j hj
   by_cases hj2:(j:Int) < i
   ·exact g3 j hj2
   ·rw [show i.toNat=j by omega] at hq
    exact Zog hq.1 hq.2.1 hq.2.2.1 hq.2.2.2
  ·have hw:a.words=b.words:=Z2i (WEdit.mk 0 0 0 0) (by omega) (fun j hj=> g3 j (by omega))
   refine Z6 (ι:=Int) (fun i=> Zag a b i) (fun i=> 0≤i∧i≤a.kids.length∧∀ j:Nat,(j:Int) < i→a.kids.getD j (KidOf.mk 0 Edit.nil)=b.kids.getD j (KidOf.mk 0 Edit.nil)) (fun i=> ((a.kids.length:Int) - i).toNat) 0 rfl ⟨by omega,by omega,by intro j hj;omega⟩ ?_
   rintro i ⟨g1,g2,g3⟩
   refine Zus _ _ _ _ _ _ ?_;(try simp only [vcT])
   rintro y1 hy1 y2 hy2 y3 hy3 y4 hy4
   (simp only [vcS]);(try simp only [vcT])
   refine ⟨fun hi=> ⟨⟨g1,hi⟩,⟨g1,by omega⟩,fun _=> ⟨g1,hi⟩,fun _=> ⟨g1,by omega⟩,fun _=> ?_,fun _=> ?_,fun hq=> ?_,fun hq=> ⟨by unfold InR;omega,i+1,rfl,⟨by omega,by omega,?_⟩,by omega⟩⟩,fun hi=> ?_⟩
   ·have:=YM (Zg (l:=a.kids) (i:=i.toNat) (by omega) (KidOf.mk 0 Edit.nil))
    rw [←hy1,←hy3] at this
    simp only [Z7Z];omega
   ·have:=YM (Zg (l:=a.kids) (i:=i.toNat) (by omega) (KidOf.mk 0 Edit.nil))
    rw [←hy1,←hy3] at this
    simp only [Zj6];omega
   ·refine Zi rfl (Z40 (a:=a) (b:=b) (fun h=> ?_)).symm
    rw [h] at hy1
    rw [hy3,hy4,hy1,hy2,ZeD] at hq
    simp at hq
   ·intro j hj
    by_cases hj2:(j:Int) < i
    ·exact g3 j hj2
    ·rw [Jm,hy3,hy4,hy1,hy2,show i.toNat=j by omega] at hq
     exact ZvE (by simpa using hq.1) hq.2
   ·have hk:a.kids=b.kids:=Z2i (KidOf.mk 0 Edit.nil) (by omega) (fun j hj=> g3 j (by omega))
    refine Z6 (ι:=Int) (fun i=> Zaf a b i) (fun i=> 0≤i∧i≤a.ops.length∧∀ j:Nat,(j:Int) < i→a.ops.getD j Op.nil=b.ops.getD j Op.nil) (fun i=> ((a.ops.length:Int) - i).toNat) 0 rfl ⟨by omega,by omega,by intro j hj;omega⟩ ?_
    rintro i ⟨g1,g2,g3⟩
    refine Zur _ _ _ _ _ _ ?_;(try simp only [vcT])
    rintro y1 hy1 y2 hy2 y3 hy3 y4 hy4
    (simp only [vcS]);(try simp only [vcT])
    refine ⟨fun hi=> ⟨⟨g1,hi⟩,⟨g1,by omega⟩,fun _=> ?_,fun _=> ?_,fun _=> ?_,fun hq=> ?_,fun hq=> ⟨by unfold InR;omega,i+1,rfl,⟨by omega,by omega,?_⟩,by omega⟩⟩,fun hi=> ?_⟩
    ·have:=ZL (Zg (l:=a.ops) (i:=i.toNat) (by omega) Op.nil)
     rw [←hy1,ZI] at this
     simp only [ZiK];omega
    ·have:=ZL (Zg (l:=a.ops) (i:=i.toNat) (by omega) Op.nil)
     rw [←hy1,ZI,←hy3] at this
     simp only [Z7Z];omega
    ·have:=ZL (Zg (l:=a.ops) (i:=i.toNat) (by omega) Op.nil)
     rw [←hy1,ZI,←hy3] at this
     simp only [Zj6];omega
    ·refine Zi rfl (Z40 (a:=a) (b:=b) (fun h=> ?_)).symm
     rw [h] at hy1
     rw [hy3,hy4,hy1,hy2,ZeD,ZeD] at hq
     simp at hq
    ·intro j hj
     by_cases hj2:(j:Int) < i
     ·exact g3 j hj2
     ·rw [Jm,Jm,hy3,hy4,hy1,hy2,show i.toNat=j by omega] at hq
      obtain ⟨⟨⟨q1,q2⟩,q3⟩,q4⟩:=hq
      exact ZxV (by simpa using q1) (by simpa using q2) q3 q4
    ·have ho:a.ops=b.ops:=Z2i Op.nil (by omega) (fun j hj=> g3 j (by omega))
     exact Zi rfl (Jm (a:=a) (b:=b).2 (ZsP h1 h3 h4 hw hk h2 ho)).symm
end Go.AM.Ytpjenobkibfpcaa
namespace Go.AM.Ytpjenobkibfpcaa
open Go.AM Go.Proofs
theorem Zd2(a:Int)(o:Op):ZE 0 a [o]=Yq 0 a o:=by simp [ZE]
theorem Z1X{alone:Int}{x:Piece}{r:List Piece}{m:List APair}:Zbq alone (x ::r) m=∃ m1 m2,m=m1++m2∧m1≠[]∧((x.of=0∨x.of=1∨x.of=2)∧(x.of=2→x.p=Op.nil)∧(∀ y∈m1,y.of=x.of)∧(x.of≠2→ZN x.p∧Zs x.p≤18000000000∧Z2 x.p=m1.length∧Z5w x.p alone (m1.map APair.p))
   ∧(x.of≠1→ZN x.q∧Zs x.q≤18000000000∧Z2 x.q=m1.length∧Z5w x.q 2 (m1.map APair.q)))∧Zbq alone r m2:=rfl
end Go.AM.Ytpjenobkibfpcaa
