import Derived.Test.YtpjenobkibfpcaaKB20b
import Derived.Test.YtpjenobkibfpcaaCmZ
import Derived.Test.YtpjenobkibfpcaaKD20
import Derived.Test.YtpjenobkibfpcaaKC34
set_option linter.unusedSimpArgs false
set_option linter.unusedVariables false
namespace Go.AM.Ytpjenobkibfpcaa
open Go.AM Go.Proofs
theorem Z8O(e:Edit)(d:Int):Z4 e d=
  if d=0∨e.kind < 0∨3 < e.kind then false
  else if (e.kind≠1∧¬(J7 e.old=true∧J7 e.new=true))∨(e.kind≠2∧¬(e.words.length=0∧e.kids.length=0))∨(e.kind≠3∧(e.list≠0∨e.ops.length≠0)) then false
  else if e.kind=1 then Ze e.old (dT d) && Ze e.new (dT d) && decide (e.old.kind≠10∧e.new.kind≠10)
  else ZI (-1) e.words && Zu (-1) e.kids (d - 1) && decide (¬(e.kind=3∧(e.list < 2∨9 < e.list))) && Zq e.list e.ops (d - 1) && decide (Yj e.ops 0 < 1048576∧Jk e.ops 0 < 1048576):=by
 obtain ⟨k,o,nw,w,ks,l,os⟩:=e;rfl
theorem Z2J(last:Int)(k:Kid)(d:Int):Yx last k d=(decide (last < k.at_∧k.at_≤65534∧k.e.kind≠0) && Z4 k.e d):=by cases k;rfl
theorem Je(list:Int)(o:Op)(d:Int):Z7 list o d=
  if o.kind=0 then decide (1≤o.n∧o.n≤1048576∧o.l.length=0) && Z1v o.e
  else if o.n≠0∨o.kind < 0∨3 < o.kind then false
  else if o.kind < 3 then Yg (dT d) list o.l && decide (0 < o.l.length) && Z1v o.e
  else decide (o.l.length=0∧o.e.kind≠0∧7 < list) && Z4 o.e d && decide (list=8∨o.e.kind=2∨o.e.kind=1∧o.e.old.kind=1∧o.e.new.kind=1):=by
 cases o;rfl
theorem Z5y{list:Int}{o:Op}{d:Int}(h:Z7 list o d=true):0≤o.n∧o.n≤1048576:=by
 rw [Je] at h
 split at h
 ·simp only [Bool.and_eq_true,decide_eq_true_eq] at h;omega
 ·split at h
  ·cases h
  ·rename_i h1;omega
theorem rightOs_mem{list d:Int}:∀ {os:List Op} {o:Op},Zq list os d=true→o∈os→Z7 list o d=true
 | x ::r,o,h,hm=> by
  simp only [Zq,Bool.and_eq_true] at h
  rcases List.mem_cons.1 hm with rfl | hm
  ·exact h.1
  ·exact rightOs_mem h.2 hm
theorem Z9I{d:Int}:∀ {ks:List Kid} {last:Int} {k:Kid},Zu last ks d=true→k∈ks→Z4 k.e d=true∧k.e.kind≠0
 | x ::r,last,k,h,hm=> by
  simp only [Zu,Bool.and_eq_true] at h
  rcases List.mem_cons.1 hm with rfl | hm
  ·have:=h.1;rw [Z2J] at this;simp only [Bool.and_eq_true,decide_eq_true_eq] at this;exact ⟨this.2,this.1.2.2⟩
  ·exact Z9I h.2 hm
theorem Z5x{e:Edit}(h:Ym e):isI e.kind∧rng e.old∧rng e.new∧(∀ x∈e.words,Z2w x)∧isI e.list∧Z0k e.kids∧JC e.ops:=by
 obtain ⟨k,o,n,w,ks,l,os⟩:=e;exact h
theorem b23:ZxH:=by
 intro N e d _ hp hN
 simp only [Z9N,Zf6] at hp hN
 obtain ⟨⟨hm,hr⟩,hd0,hd1⟩:=hp
 obtain ⟨ik,ro,rn,rw',il,rk,ros⟩:=Z5x hr
 have hme:=YI e
 have hkl:=Yw e.kids
 have hol:=Y9 e.ops
 have hat:=Z8O e d
 rw [Ztr hd0] at hat
 refine Zyl N e d _ ?_;(try simp only [vcT,forall_eq])
 (simp only [vcS]);(try simp only [vcT]);(try simp only [vcU])
 try (simp only [Tree.eta,Edit.eta,Tree.kind_mk,Tree.words_mk,Tree.kids_mk])
 refine ⟨fun hc=> Zl rfl (by rw [hat,if_pos (by omega)]),fun hc=> ?_⟩
 rw [if_neg (by omega)] at hat
 refine ⟨fun _=> by simp only [Z4F];omega,fun _=> by simp only [Z4F];omega,fun _=> by unfold InR;omega,fun hf=> Zl rfl ?_,fun hf=> ⟨fun h1=> ⟨⟨by dsimp only;omega,ro,by dsimp only;omega,by dsimp only;omega⟩,fun _=> ⟨by dsimp only;omega,rn,by dsimp only;omega,by dsimp only;omega⟩,Zl rfl ?_⟩,fun h1=> ?_⟩⟩
 ·rw [hat,if_pos]
  rcases hf with (hf | hf) | hf
  ·left
   refine ⟨hf.1,fun h=> ?_⟩
   rcases hf.2 with h2 | h2
   ·rw [h.1] at h2;cases h2
   ·rw [h.2] at h2;cases h2
  ·right;left;omega
  ·right;right;omega
 ·rw [hat,if_neg,if_pos h1,Bool.eq_iff_iff]
  ·(simp only [vcS])
   constructor
   ·rintro ⟨⟨⟨h2,h3⟩,h4⟩,h5⟩;exact ⟨⟨h2,h3⟩,h4,h5⟩
   ·rintro ⟨⟨h2,h3⟩,h4,h5⟩;exact ⟨⟨⟨h2,h3⟩,h4⟩,h5⟩
  ·intro h
   rcases h with h | h | h
   ·exact h.1 h1
   ·omega
   ·omega
 ·rw [if_neg,if_neg h1] at hat
  ·refine Zb (ι:=Int × Int) (fun p=> Z8p e d p.1 p.2) (fun p=> 0≤p.2∧p.2≤e.words.length∧ZI p.1 (e.words.drop p.2.toNat)=ZI (-1) e.words) (fun p=> ((e.words.length:Int) - p.2).toNat) (-1,0) rfl ⟨by dsimp only;omega,by dsimp only;omega,by simp⟩ ?_
   rintro ⟨last,i⟩ ⟨h2,h3,h4⟩
   dsimp only at*
   refine ZqS N e d last i _ _ ?_;(try simp only [vcT,forall_eq])
   (simp only [vcS]);(try simp only [vcT]);(try simp only [vcU])
   try (simp only [Tree.eta,Edit.eta,Tree.kind_mk,Tree.words_mk,Tree.kids_mk])
   refine ⟨fun hi=> ?_,fun hi=> ?_⟩
   ·have hmem:=Zh (l:=e.words) (i:=i.toNat) (by omega) (WEdit.mk 0 0 0 0)
    have hrw:=rw' _ hmem
    rw [Ys h2 hi (WEdit.mk 0 0 0 0)] at h4
    simp only [ZI] at h4
    generalize e.words.getD i.toNat (WEdit.mk 0 0 0 0)=w at*
    obtain ⟨_,hmk,hwo,hwn⟩:=hrw
    refine ⟨⟨h2,hi⟩,fun _=> ⟨hwo,hmk⟩,fun _=> ⟨hwn,hmk⟩,fun hq=> Zl rfl ?_,fun hq=> ⟨by unfold InR;omega,(_,i+1),rfl,⟨by dsimp only;omega,by dsimp only;omega,?_⟩,by dsimp only;omega⟩⟩
    ·rw [hat,←h4]
     rcases hq with (hq | hq) | hq
     ·rw [decide_eq_false (by omega)];try rfl
     ·rw [hq];simp
     ·rw [hq];simp
    ·dsimp only
     rw [←h4,decide_eq_true (by omega),hq.1.2,hq.2];try rfl
   ·have hw:ZI (-1) e.words=true:=by
     rw [←h4,List.drop_of_length_le (by omega)];try rfl
    rw [hw,Bool.true_and] at hat
    refine Zb (ι:=Int × Int) (fun p=> Z8o e d p.1 p.2) (fun p=> 0≤p.2∧p.2≤e.kids.length∧Zu p.1 (e.kids.drop p.2.toNat) (d - 1)=Zu (-1) e.kids (d - 1)) (fun p=> ((e.kids.length:Int) - p.2).toNat) (-1,0) rfl ⟨by dsimp only;omega,by dsimp only;omega,by simp⟩ ?_
    rintro ⟨last,i⟩ ⟨h2,h3,h4⟩
    dsimp only at*
    refine ZqR N e d last i _ _ ?_;(try simp only [vcT,forall_eq])
    (simp only [vcS]);(try simp only [vcT]);(try simp only [vcU])
    try (simp only [Tree.eta,Edit.eta,Tree.kind_mk,Tree.words_mk,Tree.kids_mk])
    refine ⟨fun hi=> ?_,fun hi=> ?_⟩
    ·have hmem:=Zh (l:=e.kids) (i:=i.toNat) (by omega) (KidOf.mk 0 Edit.nil)
     have hrw:=Jm rk hmem
     have hmm:=JJ hmem
     rw [Ys h2 hi (KidOf.mk 0 Edit.nil)] at h4
     simp only [Zu,Z2J] at h4
     generalize e.kids.getD i.toNat (KidOf.mk 0 Edit.nil)=w at*
     refine ⟨⟨h2,hi⟩,fun _=> by unfold InR;omega,fun _=> ⟨⟨by dsimp only;omega,hrw.2⟩,by dsimp only;omega,by dsimp only;omega⟩,fun _=> by simp only [Zf6];omega,fun hq=> Zl rfl ?_,fun hq=> ⟨by unfold InR;omega,(_,i+1),rfl,⟨by dsimp only;omega,by dsimp only;omega,?_⟩,by dsimp only;omega⟩⟩
     ·rw [hat,←h4]
      rcases hq with hq | hq
      ·rw [decide_eq_false (by omega)];try rfl
      ·rw [hq];simp
     ·dsimp only
      rw [←h4,decide_eq_true (by omega),hq.2];try rfl
    ·have hw:Zu (-1) e.kids (d - 1)=true:=by
      rw [←h4,List.drop_of_length_le (by omega)];try rfl
     rw [hw,Bool.true_and] at hat
     refine ⟨fun hq=> Zl rfl (by rw [hat,decide_eq_false (by omega)];rfl),fun hq=> ?_⟩
     rw [decide_eq_true (by omega),Bool.true_and] at hat
     refine Zb (ι:=Int) (fun p=> Z8n e d p) (fun p=> 0≤p∧p≤e.ops.length∧Zq e.list (e.ops.drop p.toNat) (d - 1)=Zq e.list e.ops (d - 1)) (fun p=> ((e.ops.length:Int) - p).toNat) 0 rfl ⟨by omega,by omega,by simp⟩ ?_
     rintro j ⟨h5,h6,h7⟩
     refine ZqQ N e d j _ _ ?_;(try simp only [vcT,forall_eq])
     (simp only [vcS]);(try simp only [vcT]);(try simp only [vcU])
     try (simp only [Tree.eta,Edit.eta,Tree.kind_mk,Tree.words_mk,Tree.kids_mk])
     refine ⟨fun hj=> ?_,fun hj=> ?_⟩
     ·have hmem:=Zh (l:=e.ops) (i:=j.toNat) (by omega) Op.nil
      have hro:=Z0Y ros hmem
      have hmm:=Yv hmem
      rw [Ys h5 hj Op.nil] at h7
      simp only [Zq] at h7
      generalize e.ops.getD j.toNat Op.nil=o at*
      refine ⟨⟨h5,hj⟩,by unfold InR;omega,⟨⟨by show Zn o≤20000000000;omega,hro,il⟩,by dsimp only;omega,by dsimp only;omega⟩,?_,fun hq=> Zl rfl ?_,fun hq=> ⟨by unfold InR;omega,j+1,rfl,⟨by omega,by omega,?_⟩,by omega⟩⟩
      ·show 2*Zn o+1 < N
       omega
      ·have hq':Z7 e.list o (d - 1)=false:=hq
       rw [hat,←h7,hq'];try rfl
      ·have hq':Z7 e.list o (d - 1)=true:=hq
       rw [←h7,hq'];try rfl
     ·have hw:Zq e.list e.ops (d - 1)=true:=by
       rw [←h7,List.drop_of_length_le (by omega)];try rfl
      rw [hw,Bool.true_and] at hat
      refine ⟨⟨hm,fun o ho=> Z5y (rightOs_mem hw ho)⟩,Zl rfl ?_⟩
      rw [hat,Bool.eq_iff_iff]
      (simp only [vcS])
  ·intro h
   rcases h with h | h | h
   ·rcases hf.1.1 with h2 | h2
    ·exact h1 h2
    ·exact h.2 h2
   ·omega
   ·omega
theorem Zd0{l:List Tree}{i:Int}(h0:0≤i)(h:i < l.length):List.drop i.toNat (l.take (i+1).toNat)=[l.getD i.toNat Tree.nil]:=by
 rw [List.drop_take,show (i+1).toNat - i.toNat=1 by omega,Ys h0 h Tree.nil]
 try rfl
theorem b64:ZxE:=by
 intro N list o d _ hp hN
 simp only [ZdL,ZlS] at hp hN
 obtain ⟨⟨hm,hr,hil⟩,hd0,hd1⟩:=hp
 obtain ⟨ik,inn,rl,re⟩:=Z0w hr
 rw [ZZ] at hm hN
 have hll:=ZD o.l
 have hep:=Z5N o.e
 have hat:=Je list o d
 rw [Ztr hd0,Zdc] at hat
 refine Zy4 N list o d _ ?_;(try simp only [vcT,forall_eq])
 (simp only [vcS]);(try simp only [vcT]);(try simp only [vcU])
 try (simp only [Tree.eta,Edit.eta,Tree.kind_mk,Tree.words_mk,Tree.kids_mk])
 refine ⟨fun h0=> ⟨fun _=> by simp only [Z6E];omega,Zl rfl ?_⟩,fun h0=> ⟨fun hc=> Zl rfl ?_,fun hc=> ⟨fun h3=> ?_,fun h3=> ⟨fun _=> ⟨⟨by dsimp only;omega,re⟩,hd0,hd1⟩,fun _=> by simp only [Zf6];omega,fun hq=> Zl rfl ?_,fun hq=> Zl rfl ?_⟩⟩⟩⟩
 ·rw [hat,if_pos h0,Bool.eq_iff_iff]
  (simp only [vcS])
  constructor
  ·rintro ⟨h1,h2⟩;exact ⟨by omega,h2⟩
  ·rintro ⟨h1,h2⟩;exact ⟨by omega,h2⟩
 ·rw [hat,if_neg h0,if_pos (by omega)]
 ·rw [if_neg h0,if_neg (by omega),if_pos h3] at hat
  refine Zb (ι:=Int) (fun p=> Z8j list o d p) (fun p=> 0≤p∧p≤o.l.length∧Z3H list (o.l.drop p.toNat)=Z3H list o.l) (fun p=> ((o.l.length:Int) - p).toNat) 0 rfl ⟨by omega,by omega,by simp⟩ ?_
  rintro i ⟨h4,h5,h6⟩
  refine ZqH N list o d i _ _ ?_;(try simp only [vcT,forall_eq])
  (simp only [vcS]);(try simp only [vcT]);(try simp only [vcU])
  try (simp only [Tree.eta,Edit.eta,Tree.kind_mk,Tree.words_mk,Tree.kids_mk])
  refine ⟨fun hi=> ?_,fun hi=> ?_⟩
  ·have hmem:=Zh (l:=o.l) (i:=i.toNat) (by omega) Tree.nil
   have hrt:=Jh rl hmem
   have hmt:=J8 hmem
   rw [Zd0 h4 hi]
   rw [Ys h4 hi Tree.nil] at h6
   simp only [Z3H] at h6
   generalize o.l.getD i.toNat Tree.nil=t at*
   refine ⟨by unfold InR;omega,by omega,⟨by simp only [Zk,Za,List.length_nil];omega,⟨hil,fun x hx=> (by cases hx),hrt,trivial⟩,by dsimp only;omega,by dsimp only;omega⟩,fun hq=> Zl rfl ?_,fun hq=> ⟨by unfold InR;omega,i+1,rfl,⟨by omega,by omega,?_⟩,by omega⟩⟩
   ·rw [hat,←h6,hq];try rfl
   ·rw [←h6,hq];try rfl
  ·have hw:Z3H list o.l=true:=by
    rw [←h6,List.drop_of_length_le (by omega)];try rfl
   rw [hw,Bool.true_and] at hat
   refine ⟨fun _=> by simp only [Z6E];omega,Zl rfl ?_⟩
   rw [hat,Bool.eq_iff_iff]
   (simp only [vcS])
   simp only [Int.natCast_pos]
 ·rw [hat,if_neg h0,if_neg (by omega),if_neg h3]
  rcases hq with hq | hq
  ·have:¬(o.l.length=0∧o.e.kind≠0∧7 < list):=by omega
   rw [decide_eq_false this];try rfl
  ·rw [hq];simp
 ·rw [hat,if_neg h0,if_neg (by omega),if_neg h3,hq.2]
  have:o.l.length=0∧o.e.kind≠0∧7 < list:=by omega
  rw [decide_eq_true this,Bool.eq_iff_iff]
  (simp only [vcS])
  simp only [true_and,Bool.and_true,decide_eq_true_eq,and_assoc,or_assoc]
theorem Zv6:Contract Try.prog cfg 23 Zbk∧Contract Try.prog cfg 64 Znk:=Zm1 c62 c63 Zvn c37 c65 b23 b64
theorem Z5P(e:Edit):Yq e=(decide (Yj e.ops 0≤2000∧Jk e.ops 0≤2000) && Jg e.kids && ZP e.ops):=by
 obtain ⟨k,o,nw,w,ks,l,os⟩:=e;rfl
theorem Za6(k:Kid):Zh3 k=Yq k.e:=by cases k;rfl
theorem Zck(o:Op):Z7V o=Yq o.e:=by cases o;rfl
theorem Z5z{e:Edit}{d:Int}(h:Z4 e d=true):(∀ k∈e.kids,Z4 k.e (d - 1)=true∧k.e.kind≠0)∧∀ o∈e.ops,Z7 e.list o (d - 1)=true:=by
 rw [Z8O] at h
 split at h
 ·cases h
 ·split at h
  ·cases h
  ·rename_i h1 h2
   split at h
   ·rename_i h3
    have hk:e.kids=[]:=List.eq_nil_of_length_eq_zero (by omega)
    have ho:e.ops=[]:=List.eq_nil_of_length_eq_zero (by omega)
    rw [hk,ho]
    exact ⟨fun k hk=> (by cases hk),fun o ho=> (by cases ho)⟩
   ·simp only [Bool.and_eq_true] at h
    exact ⟨fun k hk=> Z9I h.1.1.1.2 hk,fun o ho=> rightOs_mem h.1.2 ho⟩
theorem Zg6{e:Edit}(h:Z1v e=true):e.kind=0∧J7 e.old=true∧J7 e.new=true∧e.words=[]∧e.kids=[]∧e.ops=[]∧e.list=0:=by
 simp only [Z1v,Bool.and_eq_true,decide_eq_true_eq] at h
 obtain ⟨⟨⟨h1,h2⟩,h3⟩,h4,h5,h6,h7⟩:=h
 exact ⟨h1,h2,h3,List.eq_nil_of_length_eq_zero h4,List.eq_nil_of_length_eq_zero h5,List.eq_nil_of_length_eq_zero h6,h7⟩
theorem Z4x{e:Edit}(h:Z1v e=true)(d:Int)(hd:d≠0):Z4 e d=true:=by
 obtain ⟨h1,h2,h3,h4,h5,h6,h7⟩:=Zg6 h
 rw [Z8O,h1,h2,h3,h4,h5,h6,h7,if_neg (by omega),if_neg (by simp),if_neg (by omega)]
 simp [ZI,Zu,Zq,Yj,Jk]
theorem ZcS{list:Int}{o:Op}{d:Int}(h:Z7 list o d=true):∃ d',Z4 o.e d'=true:=by
 rw [Je] at h
 split at h
 ·simp only [Bool.and_eq_true] at h
  exact ⟨1,Z4x h.2 1 (by omega)⟩
 ·split at h
  ·cases h
  ·split at h
   ·simp only [Bool.and_eq_true] at h
    exact ⟨1,Z4x h.2 1 (by omega)⟩
   ·simp only [Bool.and_eq_true] at h
    exact ⟨d,h.1.2⟩
theorem c55:Contract Try.prog cfg 55 Zbb:=by
 refine Zun c65 ?_
 intro N e _ hp hN
 simp only [ZbI,ZgP] at hp hN
 obtain ⟨⟨hm,hr⟩,dd,hrt⟩:=hp
 obtain ⟨ik,ro,rn,rw',il,rk,ros⟩:=Z5x hr
 have hme:=YI e
 have hkl:=Yw e.kids
 have hol:=Y9 e.ops
 have hat:=Z5P e
 obtain ⟨hrk,hro⟩:=Z5z hrt
 refine Zy9 N e _ ?_;(try simp only [vcT,forall_eq])
 (simp only [vcS]);(try simp only [vcT]);(try simp only [vcU])
 try (simp only [Tree.eta,Edit.eta,Tree.kind_mk,Tree.words_mk,Tree.kids_mk])
 refine ⟨⟨hm,fun o ho=> Z5y (hro o ho)⟩,fun hq=> Zl rfl (by rw [hat,decide_eq_false (by omega)];rfl),fun hq=> ?_⟩
 rw [decide_eq_true (by omega),Bool.true_and] at hat
 refine Zb (ι:=Int) (fun p=> Z8l e p) (fun p=> 0≤p∧p≤e.kids.length∧Jg (e.kids.drop p.toNat)=Jg e.kids) (fun p=> ((e.kids.length:Int) - p).toNat) 0 rfl ⟨by omega,by omega,by simp⟩ ?_
 rintro i ⟨h4,h5,h6⟩
 refine ZqK N e i _ _ ?_;(try simp only [vcT,forall_eq])
 (simp only [vcS]);(try simp only [vcT]);(try simp only [vcU])
 try (simp only [Tree.eta,Edit.eta,Tree.kind_mk,Tree.words_mk,Tree.kids_mk])
 refine ⟨fun hi=> ?_,fun hi=> ?_⟩
 ·have hmem:=Zh (l:=e.kids) (i:=i.toNat) (by omega) (KidOf.mk 0 Edit.nil)
  have hrr:=Jm rk hmem
  have hmm:=JJ hmem
  have hri:=hrk _ hmem
  rw [Ys h4 hi (KidOf.mk 0 Edit.nil)] at h6
  simp only [Jg,Za6] at h6
  generalize e.kids.getD i.toNat (KidOf.mk 0 Edit.nil)=k at*
  refine ⟨⟨h4,hi⟩,⟨⟨by dsimp only;omega,hrr.2⟩,_,hri.1⟩,by simp only [ZgP];omega,fun hq=> Zl rfl (by rw [hat,←h6,hq];rfl),fun hq=> ⟨by unfold InR;omega,i+1,rfl,⟨by omega,by omega,by rw [←h6,hq];rfl⟩,by omega⟩⟩
 ·have hw:Jg e.kids=true:=by
   rw [←h6,List.drop_of_length_le (by omega)];try rfl
  rw [hw,Bool.true_and] at hat
  refine Zb (ι:=Int) (fun p=> Z8k e p) (fun p=> 0≤p∧p≤e.ops.length∧ZP (e.ops.drop p.toNat)=ZP e.ops) (fun p=> ((e.ops.length:Int) - p).toNat) 0 rfl ⟨by omega,by omega,by simp⟩ ?_
  rintro j ⟨g4,g5,g6⟩
  refine ZqJ N e j _ _ ?_;(try simp only [vcT,forall_eq])
  (simp only [vcS]);(try simp only [vcT]);(try simp only [vcU])
  try (simp only [Tree.eta,Edit.eta,Tree.kind_mk,Tree.words_mk,Tree.kids_mk])
  refine ⟨fun hi=> ?_,fun hi=> ?_⟩
  ·have hmem:=Zh (l:=e.ops) (i:=j.toNat) (by omega) Op.nil
   have hrr:=Z0w (Z0Y ros hmem)
   have hmm:=Yv hmem
   have hri:=ZcS (hro _ hmem)
   rw [ZZ] at hmm
   rw [Ys g4 hi Op.nil] at g6
   simp only [ZP,Zck] at g6
   generalize e.ops.getD j.toNat Op.nil=o at*
   refine ⟨⟨g4,hi⟩,⟨⟨by dsimp only;omega,hrr.2.2.2⟩,hri⟩,by simp only [ZgP];omega,fun hq=> Zl rfl (by rw [hat,←g6,hq];rfl),fun hq=> ⟨by unfold InR;omega,j+1,rfl,⟨by omega,by omega,by rw [←g6,hq];rfl⟩,by omega⟩⟩
  ·refine Zl rfl ?_
   rw [hat,←g6,List.drop_of_length_le (by omega)];try rfl
theorem c15:Contract Try.prog cfg 15 Zbm:=by
 refine ZuA c54 Zv6.1 c55 ?_
 intro e _ hp
 simp only [ZjV] at hp
 refine Zyn e _ ?_;(try simp only [vcT,forall_eq])
 try (simp only [Tree.eta,Edit.eta,Tree.kind_mk,Tree.words_mk,Tree.kids_mk])
 refine ⟨hp.1,fun hf=> ?_,fun hf=> ?_,Zl rfl ?_⟩
 ·have:=Z9m (by simpa using hf)
  exact ⟨⟨by dsimp only;omega,hp.2⟩,by dsimp only;omega,by dsimp only;omega⟩
 ·simp only [ZiT,decide_eq_true_eq] at hf
  have:=Z9m hf.1
  exact ⟨⟨by dsimp only;omega,hp.2⟩,64,hf.2⟩
 ·show _=Z06 e
  simp only [Z06]
  rw [Bool.eq_iff_iff]
  (simp only [vcS])
end Go.AM.Ytpjenobkibfpcaa
namespace Go.AM
noncomputable def eqX{α:Type}(a b:α):Bool:=@decide (a=b) (Classical.propDecidable _)
theorem Z47{α:Type}{a b:α}:eqX a b=true↔a=b:=by unfold eqX;exact @decide_eq_true_iff _ (Classical.propDecidable _)
@[simp] theorem Zxh {α:Type} (a:α):eqX a a=true:=Z47.2 rfl
def ZH(o:Op)(n:Int):Op:=if Z0 o≤n then o else if o.kind=0 then ⟨o.kind,n,o.l,o.e⟩ else ⟨o.kind,o.n,o.l.take n.toNat,o.e⟩
def JR(o:Op)(n:Int):Op:=if o.kind=0 then ⟨o.kind,o.n - n,o.l,o.e⟩ else ⟨o.kind,o.n,o.l.drop n.toNat,o.e⟩
def ZV(l:List Op)(n:Int):List Op:=if Z0 (l.getD 0 Op.nil)≤n then l.drop 1 else JR (l.getD 0 Op.nil) n ::l.drop 1
def sgl(a:Int)(l:List Op):Bool:=decide (l.length≠0∧(l.getD 0 Op.nil).kind=a)
def YG(o:Op):Prop:=
 (o.kind=0∧o.l=[]∧(1≤o.n∧o.n≤1048576)∧o.e=Edit.nil)∨((o.kind=1∨o.kind=2)∧o.n=0∧o.l≠[]∧o.e=Edit.nil)∨(o.kind=3∧o.n=0∧o.l=[])
def Z96(l:List Op):Prop:=(∀ o∈l,YG o)∧Zc l≤20000000000
theorem YS(l:List Op)(n:Int)(h:l.length≠0):(ZV l n).length≤l.length:=by
 unfold ZV
 split <;> simp <;> omega
theorem YR(l:List Op)(n:Int)(h:l.length≠0)(hn:Z0 (l.getD 0 Op.nil)≤n):(ZV l n).length < l.length:=by
 unfold ZV
 rw [if_pos hn]
 simp;omega
def ZX(ap aq:Int)(p q:List Op)(out:List Piece):List Piece × Bool × List Op × List Op:=
 if h:sgl ap p=true then ZX ap aq (p.drop 1) q (out++[⟨1,p.getD 0 Op.nil,Op.nil⟩])
 else if h2:sgl aq q=true then ZX ap aq p (q.drop 1) (out++[⟨2,Op.nil,q.getD 0 Op.nil⟩])
 else if h3:p.length=0∨q.length=0 then
  if decide (p.length=0)=decide (q.length=0) then (out,true,p,q) else ([],false,p,q)
 else
  ZX ap aq (ZV p (min (Z0 (p.getD 0 Op.nil)) (Z0 (q.getD 0 Op.nil)))) (ZV q (min (Z0 (p.getD 0 Op.nil)) (Z0 (q.getD 0 Op.nil))))
   (out++[⟨0,ZH (p.getD 0 Op.nil) (min (Z0 (p.getD 0 Op.nil)) (Z0 (q.getD 0 Op.nil))),ZH (q.getD 0 Op.nil) (min (Z0 (p.getD 0 Op.nil)) (Z0 (q.getD 0 Op.nil)))⟩])
termination_by p.length+q.length
decreasing_by
 ·have:=(of_decide_eq_true h).1;rw [List.length_drop];omega
 ·have:=(of_decide_eq_true h2).1;rw [List.length_drop];omega
 ·rcases Int.le_total (Z0 (p.getD 0 Op.nil)) (Z0 (q.getD 0 Op.nil)) with hm | hm
  ·have a:=YR p _ (by omega) (Int.le_refl (Z0 (p.getD 0 Op.nil)))
   have b:=YS q (Z0 (p.getD 0 Op.nil)) (by omega)
   rw [Int.min_eq_left hm];omega
  ·have a:=YR q _ (by omega) (Int.le_refl (Z0 (q.getD 0 Op.nil)))
   have b:=YS p (Z0 (q.getD 0 Op.nil)) (by omega)
   rw [Int.min_eq_right hm];omega
def Zeo(i alone:Int)(o:Op):List AUnit:=
 (if o.kind=0 then List.replicate o.n.toNat ⟨i,0,Tree.nil,Edit.nil,false⟩ else [])
  ++(o.l.map (fun t=> ⟨i,o.kind,t,Edit.nil,decide (o.kind=alone)⟩)
  ++(if o.kind=3 then [⟨i,3,Tree.nil,o.e,false⟩] else []))
def Z37:List Op→Int
 | []=> 0
 | o ::r=> Z0 o+Z37 r
def opU(u:AUnit):Op:=if u.kind=0 then ⟨0,1,[],Edit.nil⟩ else if u.kind=3 then ⟨3,0,[],u.e⟩ else ⟨u.kind,0,[u.t],Edit.nil⟩
end Go.AM
namespace Go.AM.Ytpjenobkibfpcaa
open Go.AM Go.Proofs
noncomputable section
def ZkL:ArgL (Op × Unit):=(.cons (aEl .op) .nil)
def Z4H(a:Op × Unit):Prop:=Zn a.1≤20000000000∧0≤OpOf.n a.1∧OpOf.n a.1≤1048576
def ZnI(a:Op × Unit):V U:= .c (ci (Z0 a.1))
def Z2B:Fs U:=fs ZkL (fun a=> [Z4H a]) ZnI
def ZfF:ArgM ((List Op × Int × Unit) × Unit):=(.obj 0 (.cons (cSl .op) (.cons (ZcH .i64) .nil)) .nil)
def Z31(a:(List Op × Int × Unit) × Unit):Prop:=(a.1.1).length≤120000000000
def ZnH(a:(List Op × Int × Unit) × Unit):V U:= .c (.bool (decide ((a.1.1).length=0)))
def Zjx(a:(List Op × Int × Unit) × Unit):List (List (C U)):=[[sU .op a.1.1 .unk,ci a.1.2.1]]
def Z2A:Fs U:=fsX ZfF (fun a=> [Z31 a]) ZnH Zjx
def ZfH:ArgM ((List Op × Int × Unit) × Unit):=(.obj 0 (.cons (cSl .op) (.cons (ZcH .i64) .nil)) .nil)
def Z8S(a:(List Op × Int × Unit) × Unit):Prop:=(a.1.1).length≤120000000000
def ZnJ(a:(List Op × Int × Unit) × Unit):V U:= .c (.bool (sgl a.1.2.1 a.1.1))
def Zjy(a:(List Op × Int × Unit) × Unit):List (List (C U)):=[[sU .op a.1.1 .unk,ci a.1.2.1]]
def Z78:Fs U:=fsX ZfH (fun a=> [Z8S a]) ZnJ Zjy
def ZfG:ArgM ((List Op × Int × Unit) × Int × Unit):=(.obj 0 (.cons (cSl .op) (.cons (ZcH .i64) .nil)) (.cons (Z04 .i64) .nil))
def Z6D(a:(List Op × Int × Unit) × Int × Unit):Prop:=Z96 a.1.1∧(a.1.1).length≠0∧1≤a.2.1∧a.2.1≤120000000000
def ZbA(a:(List Op × Int × Unit) × Int × Unit):V U:= .agg (enc .op (ZH ((a.1.1).getD 0 Op.nil) a.2.1))
def Z7s(a:(List Op × Int × Unit) × Int × Unit):List (List (C U)):=[[sU .op (ZV a.1.1 a.2.1) .unk,ci a.1.2.1]]
def Z77:Fs U:=fsX ZfG (fun a=> [Z6D a]) ZbA Z7s
def ZfI:ArgM ((List Op × Int × Unit) × (List Op × Int × Unit) × Unit):=(.obj 0 (.cons (cSl .op) (.cons (ZcH .i64) .nil)) (.obj 1 (.cons (cSl .op) (.cons (ZcH .i64) .nil)) .nil))
def ZeT(a:(List Op × Int × Unit) × (List Op × Int × Unit) × Unit):Prop:=Z96 a.1.1∧Z96 a.2.1.1
def ZeL(a:(List Op × Int × Unit) × (List Op × Int × Unit) × Unit):V U:= .tup [(false,[sU .piece ((ZX a.1.2.1 a.2.1.2.1 a.1.1 a.2.1.1 []).1) .unk]),(false,[.bool ((ZX a.1.2.1 a.2.1.2.1 a.1.1 a.2.1.1 []).2.1)])]
def Zay(a:(List Op × Int × Unit) × (List Op × Int × Unit) × Unit):List (List (C U)):=[[sU .op ((ZX a.1.2.1 a.2.1.2.1 a.1.1 a.2.1.1 []).2.2.1) .unk,ci a.1.2.1],[sU .op ((ZX a.1.2.1 a.2.1.2.1 a.1.1 a.2.1.1 []).2.2.2) .unk,ci a.2.1.2.1]]
def Z5k:Fs U:=fsX ZfI (fun a=> [ZeT a]) ZeL Zay
def ZkS:ArgL (List Op × List Op × Unit):=(.cons (aSl .op) (.cons (aSl .op) .nil))
def Zi8(a:List Op × List Op × Unit):Prop:=Z96 a.1∧Z96 a.2.1
def ZnM(a:List Op × List Op × Unit):V U:= .tup [(false,[sU .piece ((ZX 1 2 a.1 a.2.1 []).1) .unk]),(false,[.bool ((ZX 1 2 a.1 a.2.1 []).2.1)])]
def Z1B:Fs U:=fs ZkS (fun a=> [Zi8 a]) ZnM
def Zkl:List (FuncId × Fs U):=[]
def ZoB:Zg U:=lvl [([1],[1]),([1,5],[1]),([2],[]),([2],[])]
abbrev Zyz(p:List Nat):=AW (Z2 Zkl) Try.f190 ZoB p
theorem Zww(o:Op)(Q:QT)(h:(((o.kind==3)=true→(Q .ret (L2 [(2,.c (ci 1))] [])))∧((o.kind==3)=false→(InR (o.n+(o.l.length:Int)))∧(Q .ret (L2 [(2,.c (ci (o.n+(o.l.length:Int))))] []))))):
  Zyz [] (L2 [(0,.agg (enc .op o))] []) Q:=
 Eq.mpr (by kernel_rfl) h
def Zsn(o:Op):Prop:=AW (Z2 Zkl) Try.f190 ZoB [] (Zo (ZkL.can (o,())) []) (EQ Try.f190 (ZnI (o,())) [])
theorem Zrf(hb:∀ (o:Op) (_:Unit),Z4H (o,())→Zsn o):CT 190 Z2B:=
 Z8 (l:=[]) Zr rfl trivial ZoB Try.func190 rfl rfl 1 (fun _=> rfl) (by decide) (fun ⟨o,_⟩=> hb o ())
def Zkk:List (FuncId × Fs U):=[]
def ZoA:Zg U:=fun i=> match i with
 | 0=> ([(0,[])],[(.x 0,[])])
 | 1=> ([(2,[])],[(.x 0,[])])
 | _=> ([],[])
abbrev Zyy(p:List Nat):=AW (Z2 Zkk) Try.f191 ZoA p
theorem Zwv(l:List Op)(alone:Int)(Q:QT)(h:(Q .ret (L2 [(2,.c (.bool (((l.length:Int):Int)==0)))] [(.x 0,[sU .op l .unk,ci alone])]))):
  Zyy [] (L2 [(0,.ptr (.x 0) 0)] [(.x 0,[sU .op l .unk,ci alone])]) Q:=
 Eq.mpr (by kernel_rfl) h
def Zsm(l:List Op)(alone:Int):Prop:=AW (Z2 Zkk) Try.f191 ZoA [] (Zo (ZfF.can ((l,alone,()),())) (ZfF.canX ((l,alone,()),()))) (EQ Try.f191 (ZnH ((l,alone,()),())) (Zjx ((l,alone,()),())))
theorem Zre(hb:∀ (l:List Op) (alone:Int) (_:Unit),Z31 ((l,alone,()),())→Zsm l alone):CT 191 Z2A:=
 JP (l:=[]) Zr rfl trivial ZoA Try.func191 rfl rfl 1 (fun _=> rfl) (by decide) (fun ⟨⟨l,alone,_⟩,_⟩=> hb l alone ())
def Zkn:List (FuncId × Fs U):=[(191,Z2A)]
def ZoD:Zg U:=fun i=> match i with
 | 0=> ([(0,[])],[(.x 0,[])])
 | 1=> ([(2,[])],[(.x 0,[])])
 | _=> ([],[])
abbrev ZyB(p:List Nat):=AW (Z2 Zkn) Try.f188 ZoD p
theorem Zwy(l:List Op)(alone:Int)(Q:QT)(h:let z0:= !(decide (l.length=0));((Z31 ((l,alone,()),()))∧(Tr (z0=true))∧(Tr (z0=true))∧(Tr (z0=true))∧(Tr (z0=true))∧(z0=true→(0:Int)≤0∧0 < (l.length:Int))∧(Tr (z0=true))∧(Tr (z0=true))∧(Tr (z0=true))∧(Tr (z0=true))∧(Tr (z0=true))∧(Tr (z0=true))∧(Tr (z0=true))∧(Tr (z0=true))∧(Q .ret (L2 [(2,.c (.bool (bif z0 then (((OpOf.kind (List.getD l (Int.toNat 0) Op.nil)):Int)==alone) else false)))] [(.x 0,[sU .op l .unk,ci alone])])))):
  ZyB [] (L2 [(0,.ptr (.x 0) 0)] [(.x 0,[sU .op l .unk,ci alone])]) Q:=
 Eq.mpr (by kernel_rfl) h
def Zsp(l:List Op)(alone:Int):Prop:=AW (Z2 Zkn) Try.f188 ZoD [] (Zo (ZfH.can ((l,alone,()),())) (ZfH.canX ((l,alone,()),()))) (EQ Try.f188 (ZnJ ((l,alone,()),())) (Zjy ((l,alone,()),())))
theorem Zrh(Zmn:CT 191 Z2A)(hb:∀ (l:List Op) (alone:Int) (_:Unit),Z8S ((l,alone,()),())→Zsp l alone):CT 188 Z78:=
 JP (l:=[(191,Z2A)]) Zr rfl (⟨Zmn,trivial⟩) ZoD Try.func188 rfl rfl 1 (fun _=> rfl) (by decide) (fun ⟨⟨l,alone,_⟩,_⟩=> hb l alone ())
def Zkm:List (FuncId × Fs U):=[(190,Z2B)]
def ZoC:Zg U:=fun i=> match i with
 | 0=> ([(0,[]),(1,[]),(4,[])],[(.loc 4,[]),(.x 0,[])])
 | 1=> ([(0,[]),(1,[]),(4,[]),(5,[])],[(.loc 4,[]),(.loc 5,[]),(.x 0,[])])
 | 2=> ([(0,[]),(1,[]),(4,[]),(5,[]),(17,[])],[(.loc 4,[]),(.loc 5,[]),(.x 0,[])])
 | 3=> ([(4,[]),(5,[])],[(.loc 4,[]),(.loc 5,[]),(.x 0,[])])
 | 4=> ([(4,[])],[(.loc 4,[]),(.x 0,[])])
 | 5=> ([(0,[]),(1,[]),(4,[]),(5,[]),(6,[]),(7,[])],[(.loc 4,[]),(.loc 5,[]),(.loc 6,[]),(.loc 7,[]),(.x 0,[])])
 | 6=> ([(0,[]),(1,[]),(4,[]),(5,[]),(6,[]),(7,[]),(31,[])],[(.loc 4,[]),(.loc 5,[]),(.loc 6,[]),(.loc 7,[]),(.x 0,[])])
 | 7=> ([(0,[]),(4,[]),(6,[]),(7,[])],[(.loc 4,[]),(.loc 6,[]),(.loc 7,[]),(.x 0,[])])
 | 8=> ([(0,[]),(4,[]),(6,[]),(7,[])],[(.loc 4,[]),(.loc 6,[]),(.loc 7,[]),(.x 0,[])])
 | 9=> ([(4,[]),(6,[])],[(.loc 4,[]),(.loc 6,[]),(.x 0,[])])
 | 10=> ([(4,[])],[(.loc 4,[]),(.x 0,[])])
 | _=> ([],[])
abbrev ZyA(p:List Nat):=AW (Z2 Zkm) Try.f189 ZoC p
theorem Zwx(l:List Op)(alone n:Int)(Q:QT)(h:∀ y_1,y_1=(List.getD l (Int.toNat 0) Op.nil)→∀ y_2,y_2=y_1→∀ y_3,y_3=(y_1.e)→let z1:=decide (((Z0 y_2):Int)≤n);let z0:=List.drop (Int.toNat 1) l;(((0:Int)≤0∧0 < (l.length:Int))∧((Z4H (y_2,()))∧((z1=true→((0:Int)≤1∧1≤(l.length:Int))∧(Q .ret (L2 [(4,.ptr (.loc 4) 0)] [(.loc 4,(enc .op y_1)),(.x 0,[sU .op z0 .unk,ci alone])])))∧(z1=false→(((y_1.kind==0)=true→(InR (y_1.n - n))∧(((0:Int)≤1∧1≤(l.length:Int))∧((([(OpOf.mk y_1.kind (y_1.n - n) y_1.l y_3)]).length+z0.length)*240≤140737488355328)∧(Q .ret (L2 [(4,.ptr (.loc 4) 0)] [(.loc 4,([ci y_1.kind,ci n,sU .tree y_1.l .unk]++enc .edit y_1.e)),(.x 0,[sU .op (([(OpOf.mk y_1.kind (y_1.n - n) y_1.l y_3)])++z0) (.own (.x 0 0)),ci alone])]))))∧((y_1.kind==0)=false→((0:Int)≤n∧n≤(y_1.l.length:Int))∧(n=n)∧((0:Int)≤n∧n≤(y_1.l.length:Int))∧(((0:Int)≤1∧1≤(l.length:Int))∧((([(OpOf.mk y_1.kind y_1.n (List.drop n.toNat y_1.l) y_3)]).length+z0.length)*240≤140737488355328)∧(Q .ret (L2 [(4,.ptr (.loc 4) 0)] [(.loc 4,([ci y_1.kind,ci y_1.n,sU .tree (List.take n.toNat y_1.l) .full]++enc .edit y_1.e)),(.x 0,[sU .op (([(OpOf.mk y_1.kind y_1.n (List.drop n.toNat y_1.l) y_3)])++z0) (.own (.x 0 0)),ci alone])])))))))))):
  ZyA [] (L2 [(0,.ptr (.x 0) 0),(1,.c (ci n))] [(.x 0,[sU .op l .unk,ci alone])]) Q:=
 Eq.mpr (by kernel_rfl) (h _ rfl _ (J4 _) _ (Z9 _))
def Zso(l:List Op)(alone n:Int):Prop:=AW (Z2 Zkm) Try.f189 ZoC [] (Zo (ZfG.can ((l,alone,()),n,())) (ZfG.canX ((l,alone,()),n,()))) (EQ Try.f189 (ZbA ((l,alone,()),n,())) (Z7s ((l,alone,()),n,())))
theorem Zrg(Zmo:CT 190 Z2B)(hb:∀ (l:List Op) (alone:Int) (n:Int) (_:Unit),Z6D ((l,alone,()),n,())→Zso l alone n):CT 189 Z77:=
 JP (l:=[(190,Z2B)]) Zr rfl (⟨Zmo,trivial⟩) ZoC Try.func189 rfl rfl 2 (fun _=> rfl) (by decide) (fun ⟨⟨l,alone,_⟩,n,_⟩=> hb l alone n ())
def Zko:List (FuncId × Fs U):=[(188,Z78),(189,Z77),(190,Z2B),(191,Z2A)]
def ZoE:Zg U:=fun i=> match i with
 | 0=> ([(0,[]),(1,[])],[(.x 0,[]),(.x 1,[])])
 | 1=> ([(0,[]),(1,[]),(6,[.own .piece])],[(.x 0,[]),(.x 1,[])])
 | 2=> ([(0,[]),(1,[]),(6,[]),(7,[])],[(.x 0,[]),(.x 1,[])])
 | 3=> ([(0,[]),(1,[]),(6,[.own .piece])],[(.x 0,[]),(.x 1,[])])
 | 4=> ([(0,[]),(1,[]),(6,[]),(33,[])],[(.x 0,[]),(.x 1,[])])
 | 5=> ([(0,[]),(1,[]),(6,[.own .piece])],[(.x 0,[]),(.x 1,[])])
 | 6=> ([(0,[]),(1,[]),(6,[]),(49,[])],[(.x 0,[]),(.x 1,[])])
 | 7=> ([(0,[]),(1,[]),(6,[.own .piece])],[(.x 0,[]),(.x 1,[])])
 | 8=> ([(0,[]),(1,[]),(6,[]),(65,[])],[(.x 0,[]),(.x 1,[])])
 | 9=> ([(6,[]),(76,[])],[(.x 0,[]),(.x 1,[])])
 | 10=> ([(4,[]),(5,[])],[(.x 0,[]),(.x 1,[])])
 | 11=> ([(4,[]),(5,[])],[(.x 0,[]),(.x 1,[])])
 | _=> ([],[])
def Z1X(pl:List Op)(pa:Int)(ql:List Op)(qa:Int)(mx0_0 mx1_0:List Op)(mx1_1:Int)(x6:List Piece):LSt U:=(L2 [(0,.ptr (.x 0) 0),(1,.ptr (.x 1) 0),(6,.c (sU .piece x6 (.own (.e 6 0))))] [(.x 0,[sU .op mx0_0 .unk,ci pa]),(.x 1,[sU .op mx1_0 .unk,ci mx1_1])])
abbrev Zwl(p:List Nat):=AW (Z2 Zko) Try.f169 ZoE p
theorem Zwz(pl:List Op)(pa:Int)(ql:List Op)(qa:Int)(Q:QT)(h:(Zj (Zwl [1,1,0,0]) (Z1X pl pa ql qa pl ql qa []) (xB 0 Q))):
  Zwl [] (L2 [(0,.ptr (.x 0) 0),(1,.ptr (.x 1) 0)] [(.x 0,[sU .op pl .unk,ci pa]),(.x 1,[sU .op ql .unk,ci qa])]) Q:=
 Eq.mpr (by kernel_rfl) h
theorem ZmN(pl:List Op)(pa:Int)(ql:List Op)(qa:Int)(mx0_0 mx1_0:List Op)(mx1_1:Int)(x6:List Piece)(N0:NT)(Q:QT)(h:∀ y_1,y_1=(List.getD mx0_0 (Int.toNat 0) Op.nil)→∀ y_2,y_2=(List.getD mx1_0 (Int.toNat 0) Op.nil)→∀ y_3,y_3=(Edit.mk 0 (Tree.mk 0 [] []) (Tree.mk 0 [] []) [] [] 0 [])→∀ y_4,y_4=(List.getD (bif (!(decide (mx0_0.length=0))) then mx1_0 else mx1_0) (Int.toNat 0) Op.nil)→∀ y_5,y_5=y_1→∀ y_6,y_6=y_2→∀ y_7,y_7=y_4→∀ y_8,y_8=(ZH (mx0_0.getD 0 Op.nil) (Z0 y_5))→∀ y_9,y_9=(ZH (mx1_0.getD 0 Op.nil) (Z0 y_6))→∀ y_10,y_10=(ZH (mx0_0.getD 0 Op.nil) (if ((Z0 y_7):Int) < (Z0 y_5) then (Z0 y_7) else (Z0 y_5)))→∀ y_11,y_11=(ZH ((bif (!(decide (mx0_0.length=0))) then mx1_0 else mx1_0).getD 0 Op.nil) (if ((Z0 y_7):Int) < (Z0 y_5) then (Z0 y_7) else (Z0 y_5)))→let z7:=Z31 ((mx0_0,pa,()),());let z5:=Piece.mk 2 (OpOf.mk 0 0 [] y_3) y_9;let z4:=Piece.mk 1 y_8 (OpOf.mk 0 0 [] y_3);let z0:=decide (mx0_0.length=0);let z3:=bif z0 then true else (decide (mx1_0.length=0));let z2:=bif (!z0) then mx1_1 else mx1_1;let z1:=bif (!z0) then mx1_0 else mx1_0;let z6:=z0 !=(decide (z1.length=0));(Z8S ((mx0_0,pa,()),()))∧(((sgl pa mx0_0)=true→((0:Int)≤0∧0 < (mx0_0.length:Int))∧(Z4H (y_5,()))∧(Z6D ((mx0_0,pa,()),(Z0 y_5),()))∧((x6.length+([z4]).length)*488≤140737488355328)∧(N0 (Z1X pl pa ql qa (ZV mx0_0 (Z0 y_5)) mx1_0 mx1_1 (x6++([z4])))))∧((sgl pa mx0_0)=false→(Z8S ((mx1_0,mx1_1,()),()))∧(((sgl mx1_1 mx1_0)=true→((0:Int)≤0∧0 < (mx1_0.length:Int))∧(Z4H (y_6,()))∧(Z6D ((mx1_0,mx1_1,()),(Z0 y_6),()))∧((x6.length+([z5]).length)*488≤140737488355328)∧(N0 (Z1X pl pa ql qa mx0_0 (ZV mx1_0 (Z0 y_6)) mx1_1 (x6++([z5])))))∧((sgl mx1_1 mx1_0)=false→z7∧(Tr ((!z0)=true))∧((!z0)=true→Z31 ((mx1_0,mx1_1,()),()))∧(z0=false→(!z0)=true)∧((z3=true→z7∧(Z31 ((z1,z2,()),()))∧((z6=true→(Q .ret (L2 [(4,.c (.nils)),(5,.c (.bool false))] [(.x 0,[sU .op mx0_0 .unk,ci pa]),(.x 1,[sU .op z1 .unk,ci z2])])))∧(z6=false→(Q .ret (L2 [(4,.c (sU .piece x6 (.own (.e 4 0)))),(5,.c (.bool true))] [(.x 0,[sU .op mx0_0 .unk,ci pa]),(.x 1,[sU .op z1 .unk,ci z2])])))))∧(z3=false→((0:Int)≤0∧0 < (mx0_0.length:Int))∧(Z4H (y_5,()))∧((0:Int)≤0∧0 < (z1.length:Int))∧(Z4H (y_7,()))∧((Z6D ((mx0_0,pa,()),(if ((Z0 y_7):Int) < (Z0 y_5) then (Z0 y_7) else (Z0 y_5)),()))∧(Z6D ((z1,z2,()),(if ((Z0 y_7):Int) < (Z0 y_5) then (Z0 y_7) else (Z0 y_5)),()))∧((x6.length+([(Piece.mk 0 y_10 y_11)]).length)*488≤140737488355328)∧(N0 (Z1X pl pa ql qa (ZV mx0_0 (if ((Z0 y_7):Int) < (Z0 y_5) then (Z0 y_7) else (Z0 y_5))) (ZV z1 (if ((Z0 y_7):Int) < (Z0 y_5) then (Z0 y_7) else (Z0 y_5))) z2 (x6++([(Piece.mk 0 y_10 y_11)])))))))))))):
  Zwl [1,1,0,0] (Z1X pl pa ql qa mx0_0 mx1_0 mx1_1 x6) (xT N0 (xB 0 Q)):=
 Eq.mpr (by kernel_rfl) (h _ rfl _ rfl _ rfl _ rfl _ (J4 _) _ (J4 _) _ (J4 _) _ (J4 _) _ (J4 _) _ (J4 _) _ (J4 _))
def Zsq(pl:List Op)(pa:Int)(ql:List Op)(qa:Int):Prop:=AW (Z2 Zko) Try.f169 ZoE [] (Zo (ZfI.can ((pl,pa,()),(ql,qa,()),())) (ZfI.canX ((pl,pa,()),(ql,qa,()),()))) (EQ Try.f169 (ZeL ((pl,pa,()),(ql,qa,()),())) (Zay ((pl,pa,()),(ql,qa,()),())))
theorem Zri(Zv8:CT 188 Z78)(Zv7:CT 189 Z77)(Zmo:CT 190 Z2B)(Zmn:CT 191 Z2A)(hb:∀ (pl:List Op) (pa:Int) (ql:List Op) (qa:Int) (_:Unit),ZeT ((pl,pa,()),(ql,qa,()),())→Zsq pl pa ql qa):CT 169 Z5k:=
 JP (l:=[(188,Z78),(189,Z77),(190,Z2B),(191,Z2A)]) Zr rfl (⟨Zv8,Zv7,Zmo,Zmn,trivial⟩) ZoE Try.func169 rfl rfl 2 (fun _=> rfl) (by decide) (fun ⟨⟨pl,pa,_⟩,⟨ql,qa,_⟩,_⟩=> hb pl pa ql qa ())
def Zku:List (FuncId × Fs U):=[(169,Z5k)]
def ZoK:Zg U:=lvl [([0,1],[]),([4,5],[])]
abbrev ZyG(p:List Nat):=AW (Z2 Zku) Try.f135 ZoK p
theorem ZwJ(p q:List Op)(Q:QT)(h:((ZeT ((p,1,()),(q,2,()),()))∧(Q .ret (L2 [(4,.c (sU .piece ((ZX 1 2 p q []).1) .unk)),(5,.c (.bool ((ZX 1 2 p q []).2.1)))] [])))):
  ZyG [] (L2 [(0,.c (sU .op p .unk)),(1,.c (sU .op q .unk))] []) Q:=
 Eq.mpr (by kernel_rfl) h
def ZsA(p q:List Op):Prop:=AW (Z2 Zku) Try.f135 ZoK [] (Zo (ZkS.can (p,q,())) []) (EQ Try.f135 (ZnM (p,q,())) [])
theorem Zrq(Zpw:CT 169 Z5k)(hb:∀ (p:List Op) (q:List Op) (_:Unit),Zi8 (p,q,())→ZsA p q):CT 135 Z1B:=
 Z8 (l:=[(169,Z5k)]) Zr rfl (⟨Zpw,trivial⟩) ZoK Try.func135 rfl rfl 2 (fun _=> rfl) (by decide) (fun ⟨p,q,_⟩=> hb p q ())
end
end Go.AM.Ytpjenobkibfpcaa
namespace Go.AM.Ytpjenobkibfpcaa
open Go.AM Go.Proofs
theorem ZdW:Z6 Edit.nil=3:=by simp [Edit.nil,Z6,Zi,Zc,Tree.nil,Zk,Za]
theorem Zok{o:Op}(h:Zn o≤20000000000):o.l.length≤20000000000:=by
 have:=ZD o.l
 rw [ZZ] at h
 omega
theorem Z92{o:Op}(h:YG o):0≤o.n∧o.n≤1048576:=by
 unfold YG at h
 omega
theorem YL(o:Op):Z0 o=if o.kind=3 then 1 else o.n+o.l.length:=rfl
theorem Zmo:Contract Try.prog cfg 190 Z2B:=by
 refine Zrf ?_
 intro o _ hp
 simp only [Z4H] at hp
 have hl:=Zok hp.1
 refine Zww _ _ ?_;(try simp only [vcT,forall_eq])
 (simp only [vcS]);(try simp only [vcT])
 exact ⟨fun hk=> Yf rfl (by rw [YL,if_pos hk]),fun hk=> ⟨by unfold InR;omega,Yf rfl (by rw [YL,if_neg hk])⟩⟩
theorem Zmn:Contract Try.prog cfg 191 Z2A:=by
 refine Zre ?_
 intro l al _ hp
 refine Zwv _ _ _ ?_;(try simp only [vcT,forall_eq])
 have e:((l.length:Int)==0)=decide (l.length=0):=by rw [Bool.eq_iff_iff];(simp only [vcS]);omega
 rw [e]
 (repeat' (first | exact trivial | exact rfl | apply And.intro))
theorem Zv8:Contract Try.prog cfg 188 Z78:=by
 refine Zrh Zmn ?_
 intro l al _ hp
 refine Zwy _ _ _ ?_;(try simp only [vcT,forall_eq])
 have e:(bif (!(decide (l.length=0))) then ((OpOf.kind (List.getD l (Int.toNat 0) Op.nil))==al) else false)=sgl al l:=by
  rw [Bool.eq_iff_iff]
  simp only [sgl]
  (simp only [vcS])
  try rfl
 rw [e]
 refine ⟨hp,fun h=> ⟨by omega,?_⟩,by (repeat' (first | exact trivial | exact rfl | apply And.intro))⟩
 revert h
 (simp only [vcS])
 omega
theorem Zvf(Zpw:Contract Try.prog cfg 169 Z5k):Contract Try.prog cfg 135 Z1B:=by
 refine Zrq Zpw ?_
 intro p q _ hp
 refine ZwJ _ _ _ ?_;(try simp only [vcT,forall_eq])
 refine ⟨hp,?_⟩
 (repeat' (first | exact trivial | exact rfl | apply And.intro))
theorem Zv7:Contract Try.prog cfg 189 Z77:=by
 refine Zrg Zmo ?_
 intro l al n _ hp
 simp only [Z6D] at hp
 obtain ⟨⟨ho,hm⟩,hl,h1,h2⟩:=hp
 have hmem:=Zh (l:=l) (i:=0) (by omega) Op.nil
 have hok:=ho _ hmem
 have hmo:=Yv hmem
 have hlen:=Y9 l
 refine Zwx _ _ _ _ ?_;(try simp only [vcT])
 rintro y rfl _ rfl _ rfl
 have e0:(Int.toNat 0)=0:=rfl
 have e1:(Int.toNat 1)=1:=rfl
 simp only [e0,e1]
 have hT:∀ o r,ZH (l.getD 0 Op.nil) n=o→ZV l n=r→True:=fun _ _ _ _=> trivial
 have hon:=Z92 hok
 have hln:=YL (l.getD 0 Op.nil)
 (simp only [vcS])
 generalize hy:l.getD 0 Op.nil=y at*
 refine ⟨⟨by omega,by omega⟩,⟨by dsimp only;omega,hon⟩,fun hc=> ⟨⟨by omega,by omega⟩,?_⟩,fun hc=> ⟨fun hk=> ⟨by unfold InR;omega,⟨by omega,by omega⟩,by simp;omega,?_⟩,fun hk=> ?_⟩⟩
 ·have t1:ZH y n=y:=by rw [ZH,if_pos hc]
  have t2:ZV l n=l.drop 1:=by rw [ZV,hy,if_pos hc]
  simp only [ZbA,Z7s,hy,t1,t2]
  (repeat' (first | exact trivial | exact rfl | apply And.intro))
 ·have t1:ZH y n=⟨y.kind,n,y.l,y.e⟩:=by rw [ZH,if_neg hc,if_pos hk]
  have t2:ZV l n=⟨y.kind,y.n - n,y.l,y.e⟩ ::l.drop 1:=by rw [ZV,hy,if_neg hc,JR,if_pos hk]
  simp only [ZbA,Z7s,hy,t1,t2]
  (repeat' (first | exact trivial | exact rfl | apply And.intro))
 ·have t1:ZH y n=⟨y.kind,y.n,y.l.take n.toNat,y.e⟩:=by rw [ZH,if_neg hc,if_neg hk]
  have t2:ZV l n=⟨y.kind,y.n,y.l.drop n.toNat,y.e⟩ ::l.drop 1:=by rw [ZV,hy,if_neg hc,JR,if_neg hk]
  simp only [ZbA,Z7s,hy,t1,t2]
  unfold YG at hok
  refine ⟨?_,?_,⟨by omega,by omega⟩,by simp;omega,?_⟩
  ·split at hln <;> omega
  ·split at hln <;> omega
  ·(repeat' (first | exact trivial | exact rfl | apply And.intro))
theorem Z2o(n:Nat):∀ (l:List Tree),Za (l.drop n)≤Za l:=by
 induction n with
 | zero=> intro l;simp
 | succ n ih=>
  intro l
  cases l with
  | nil=> simp
  | cons t r=> simp only [List.drop_succ_cons,Za];have:=ih r;omega
theorem Zce(n:Nat):∀ (l:List Tree),Za (l.take n)≤Za l:=by
 induction n with
 | zero=> intro l;simp [Za]
 | succ n ih=>
  intro l
  cases l with
  | nil=> simp
  | cons t r=> simp only [List.take_succ_cons,Za];have:=ih r;omega
theorem YH{o:Op}(h:YG o):1≤Z0 o:=by
 have:=YL o
 unfold YG at h
 have hl:o.l≠[]→0 < o.l.length:=List.length_pos_iff.2
 rcases h with ⟨h1,h2,h3,h4⟩ | ⟨h1,h2,h3,h4⟩ | ⟨h1,h2,h3⟩
 ·rw [h2] at this;simp at this;split at this <;> omega
 ·have:=hl h3;split at* <;> omega
 ·rw [if_pos h1] at this;omega
theorem Z7B{o:Op}(h:YG o)(hm:Zn o≤20000000000):Z0 o≤20000000000:=by
 have:=YL o
 have:=Zok hm
 have:=Z92 h
 unfold YG at h
 rcases h with ⟨h1,h2,h3,h4⟩ | ⟨h1,h2,h3,h4⟩ | ⟨h1,h2,h3⟩
 ·simp [h2,h1] at*;omega
 ·split at* <;> omega
 ·split at* <;> omega
theorem Z4W(o:Op)(r:List Op):Zc (o ::r)=Zn o+Zc r:=rfl
theorem Z5H{l:List Op}(h:Z96 l):Z96 (l.drop 1):=by
 cases l with
 | nil=> exact h
 | cons o r=>
  obtain ⟨h1,h2⟩:=h
  rw [Z4W] at h2
  exact ⟨fun x hx=> h1 x (List.mem_cons_of_mem _ hx),by simp only [List.drop_succ_cons,List.drop_zero];omega⟩
theorem Z95{l:List Op}(h:Z96 l)(hl:l.length≠0):YG (l.getD 0 Op.nil)∧Zn (l.getD 0 Op.nil)≤20000000000∧Zn (l.getD 0 Op.nil)≤Zc l:=by
 have hm:=Zh (l:=l) (i:=0) (by omega) Op.nil
 have:=Yv hm
 exact ⟨h.1 _ hm,by have:=h.2;omega,this⟩
theorem ZcI{o:Op}{n:Int}(h:YG o)(h1:1≤n)(h2:¬Z0 o≤n):YG (JR o n)∧Zn (JR o n)≤Zn o:=by
 have hl:=YL o
 unfold JR
 unfold YG at*
 by_cases hk:o.kind=0
 ·rw [if_pos hk]
  refine ⟨Or.inl ?_,by simp only [ZZ];omega⟩
  rcases h with h | h | h
  ·obtain ⟨a,b,c,d⟩:=h
   rw [b,if_neg (by omega)] at hl
   simp at hl
   exact ⟨a,b,by dsimp only;omega,d⟩
  ·omega
  ·omega
 ·rw [if_neg hk]
  have:=Z2o n.toNat o.l
  refine ⟨Or.inr ?_,by simp only [ZZ];omega⟩
  rcases h with h | h | h
  ·omega
  ·obtain ⟨a,b,c,d⟩:=h
   rw [if_neg (by omega)] at hl
   refine Or.inl ⟨a,b,?_,d⟩
   intro he
   have:=congrArg List.length he
   simp at this
   omega
  ·rw [if_pos h.1] at hl;omega
theorem ZbV{l:List Op}{n:Int}(h:Z96 l)(hl:l.length≠0)(h1:1≤n):Z96 (ZV l n):=by
 unfold ZV
 split
 ·exact Z5H h
 ·rename_i hc
  obtain ⟨a,b,c⟩:=Z95 h hl
  obtain ⟨d,e⟩:=ZcI a h1 hc
  have hd:=Z5H h
  refine ⟨fun x hx=> ?_,?_⟩
  ·rcases List.mem_cons.1 hx with rfl | hx
   ·exact d
   ·exact hd.1 _ hx
  ·rw [Z4W]
   obtain _ | ⟨o,r⟩:=l
   ·simp at hl
   ·have:=h.2
    rw [Z4W] at this
    simp at*
    omega
theorem Zdh(l:List Op):ZV l (Z0 (l.getD 0 Op.nil))=l.drop 1:=by rw [ZV,if_pos (Int.le_refl _)]
theorem Zdi(o:Op):ZH o (Z0 o)=o:=by rw [ZH,if_pos (Int.le_refl _)]
theorem Zjl{a:Int}{l:List Op}(h:sgl a l=true):l.length≠0:=(of_decide_eq_true h).1
theorem Zd2{α:Type}(b:Bool)(x:α):(bif b then x else x)=x:=by cases b <;> rfl
theorem Zpw:Contract Try.prog cfg 169 Z5k:=by
 refine Zri Zv8 Zv7 Zmo Zmn ?_
 intro pl pa ql qa _ hp
 simp only [ZeT] at hp
 have hpl:=Y9 pl
 have hql:=Y9 ql
 have hP:=hp.1.2
 have hQ:=hp.2.2
 refine Zwz _ _ _ _ _ ?_;(try simp only [vcT,forall_eq])
 refine Zb (ι:=List Op × List Op × List Piece) (fun s=> Z1X pl pa ql qa s.1 s.2.1 qa s.2.2) (fun s=> Z96 s.1∧Z96 s.2.1∧s.2.2.length+s.1.length+s.2.1.length≤40000000000∧ZX pa qa s.1 s.2.1 s.2.2=ZX pa qa pl ql []) (fun s=> s.1.length+s.2.1.length) (pl,ql,[]) rfl ⟨hp.1,hp.2,by simp;omega,rfl⟩ ?_
 rintro ⟨p,q,out⟩ ⟨h1,h2,h3,h4⟩
 refine ZmN _ _ _ _ _ _ _ _ _ _ ?_;(try simp only [vcT])
 have e0:(Int.toNat 0)=0:=rfl
 simp only [e0,Zd2]
 dsimp only at h1 h2 h3 h4
 rintro z1 hy1 z2 hy2 y3 hy3 z4 hy4 y1 rfl y2 rfl y4 rfl y8 hy8 y9 hy9 y10 hy10 y11 hy11
 have ey:y4=y2:=hy4.trans hy2.symm
 rw [ey] at hy10 hy11 ⊢
 have e3:(OpOf.mk 0 0 [] y3:Op)=Op.nil:=by rw [hy3];try rfl
 rw [←hy1,Zdi] at hy8
 rw [←hy2,Zdi] at hy9
 have hmin:∀ a b:Int,(if a < b then a else b)=min b a:=by intro a b;omega
 rw [←hy1,hmin] at hy10
 rw [←hy2,hmin] at hy11
 simp only [hmin,e3,hy8,hy9]
 (simp only [vcS])
 have o1:p.length≠0→YG y1∧Zn y1≤20000000000:=fun h=> by have:=Z95 h1 h;rw [←hy1] at this;exact ⟨this.1,this.2.1⟩
 have o2:q.length≠0→YG y2∧Zn y2≤20000000000:=fun h=> by have:=Z95 h2 h;rw [←hy2] at this;exact ⟨this.1,this.2.1⟩
 have tp:ZV p (Z0 y1)=p.drop 1:=by rw [hy1];exact Zdh p
 have tq:ZV q (Z0 y2)=q.drop 1:=by rw [hy2];exact Zdh q
 have hm1:=Y9 p
 have hm2:=Y9 q
 have hm3:=h1.2
 have hm4:=h2.2
 rw [ZX] at h4
 rw [←hy1,←hy2] at h4
 refine ⟨by simp only [Z8S];omega,fun hs=> ?_,fun hs=> ?_⟩
 ·have hl:=Zjl hs
  obtain ⟨oa,ob⟩:=o1 hl
  have oc:=YH oa
  have od:=Z7B oa ob
  rw [dif_pos hs] at h4
  refine ⟨⟨by omega,by omega⟩,⟨ob,Z92 oa⟩,⟨h1,hl,oc,by dsimp only;omega⟩,by simp;omega,(p.drop 1,q,out++[⟨1,y1,Op.nil⟩]),by rw [tp],⟨Z5H h1,h2,by simp;omega,h4⟩,by simp;omega⟩
 ·rw [dif_neg (by rw [hs];exact Bool.false_ne_true)] at h4
  refine ⟨by simp only [Z8S];omega,fun hs2=> ?_,fun hs2=> ?_⟩
  ·have hl:=Zjl hs2
   obtain ⟨oa,ob⟩:=o2 hl
   have oc:=YH oa
   have od:=Z7B oa ob
   rw [dif_pos hs2] at h4
   refine ⟨⟨by omega,by omega⟩,⟨ob,Z92 oa⟩,⟨h2,hl,oc,by dsimp only;omega⟩,by simp;omega,(p,q.drop 1,out++[⟨2,Op.nil,y2⟩]),by rw [tq],⟨h1,Z5H h2,by simp;omega,h4⟩,by simp;omega⟩
  ·rw [dif_neg (by rw [hs2];exact Bool.false_ne_true)] at h4
   refine ⟨by simp only [Z31];omega,fun _=> by simp only [Z31];omega,fun h=> h,fun hd=> ⟨by simp only [Z31];omega,by simp only [Z31];omega,fun he=> ?_,fun he=> ?_⟩,fun hd=> ?_⟩
   ·rw [dif_pos hd,if_neg he] at h4
    simp only [ZeL,Zay,←h4]
    (repeat' (first | exact trivial | exact rfl | apply And.intro))
   ·rw [dif_pos hd,if_pos he] at h4
    simp only [ZeL,Zay,←h4]
    (repeat' (first | exact trivial | exact rfl | apply And.intro))
   ·obtain ⟨oa,ob⟩:=o1 hd.1
    obtain ⟨oc,od⟩:=o2 hd.2
    have a1:=YH oa
    have a2:=Z7B oa ob
    have a3:=YH oc
    have a4:=Z7B oc od
    rw [dif_neg (by omega),←hy10,←hy11] at h4
    have c1:=YS p (min (Z0 y1) (Z0 y2)) hd.1
    have c2:=YS q (min (Z0 y1) (Z0 y2)) hd.2
    have c3:Z0 y1≤min (Z0 y1) (Z0 y2)→(ZV p (min (Z0 y1) (Z0 y2))).length < p.length:=fun h=> YR p _ hd.1 (by rw [←hy1];exact h)
    have c4:Z0 y2≤min (Z0 y1) (Z0 y2)→(ZV q (min (Z0 y1) (Z0 y2))).length < q.length:=fun h=> YR q _ hd.2 (by rw [←hy2];exact h)
    refine ⟨⟨by omega,by omega⟩,⟨ob,Z92 oa⟩,⟨by omega,by omega⟩,⟨od,Z92 oc⟩,⟨h1,hd.1,by dsimp only;omega,by dsimp only;omega⟩,⟨h2,hd.2,by dsimp only;omega,by dsimp only;omega⟩,by simp;omega,
     (ZV p (min (Z0 y1) (Z0 y2)),ZV q (min (Z0 y1) (Z0 y2)),out++[⟨0,y10,y11⟩]),rfl,⟨ZbV h1 hd.1 (by omega),ZbV h2 hd.2 (by omega),by simp;omega,h4⟩,by dsimp only;omega⟩
end Go.AM.Ytpjenobkibfpcaa
namespace Go.AM.Ytpjenobkibfpcaa
open Go.AM Go.Proofs
theorem Zpp{α:Type}{a b:α}(h:¬a=b):eqX a b=false:=by rw [←Bool.not_eq_true,Z47];exact h
end Go.AM.Ytpjenobkibfpcaa
namespace Go.AM.Ytpjenobkibfpcaa
open Go.AM Go.Proofs
def vu(u:AUnit):Op × Bool:=(opU u,u.alone)
def vs(a:Int)(o:Op):List (Op × Bool):=(Zeo 0 a o).map vu
theorem Z70{a n:Int}{o:Op}(h:YG o)(h1:1≤n)(hn:¬Z0 o≤n):vs a o=vs a (ZH o n)++vs a (JR o n)∧YG (ZH o n)∧Z0 (ZH o n)=n∧Zn (ZH o n)≤Zn o:=by
 have hl:=YL o
 rcases h with ⟨k0,k1,k2,k3⟩ | ⟨k0,k1,k2,k3⟩ | ⟨k0,k1,k2⟩
 ·have e1:ZH o n=⟨o.kind,n,o.l,o.e⟩:=by rw [ZH,if_neg hn,if_pos k0]
  have e2:JR o n=⟨o.kind,o.n - n,o.l,o.e⟩:=by rw [JR,if_pos k0]
  rw [if_neg (by omega),k1] at hl
  simp only [List.length_nil] at hl
  rw [e1,e2]
  refine ⟨?_,Or.inl ⟨k0,k1,by dsimp only;omega,k3⟩,?_,by simp [ZZ]⟩
  ·simp only [vs,Zeo,k0,k1]
   simp only [if_true,List.map_nil,List.nil_append,List.map_append,List.map_replicate]
   rw [if_neg (by decide)]
   simp only [List.map_nil,List.append_nil]
   rw [List.replicate_append_replicate]
   congr 1
   omega
  ·rw [YL]
   dsimp only
   rw [if_neg (by omega),k1]
   simp
 ·have e1:ZH o n=⟨o.kind,o.n,o.l.take n.toNat,o.e⟩:=by rw [ZH,if_neg hn,if_neg (by omega)]
  have e2:JR o n=⟨o.kind,o.n,o.l.drop n.toNat,o.e⟩:=by rw [JR,if_neg (by omega)]
  rw [if_neg (by omega)] at hl
  have hm:=Zce n.toNat o.l
  rw [e1,e2]
  refine ⟨?_,Or.inr (Or.inl ⟨k0,k1,?_,k3⟩),?_,by simp only [ZZ];omega⟩
  ·simp only [vs,Zeo]
   rw [if_neg (by omega),if_neg (by omega)]
   simp only [List.nil_append,List.append_nil]
   rw [←List.map_append,←List.map_append,List.take_append_drop]
  ·intro he
   have:=congrArg List.length he
   simp only [List.length_take,List.length_nil] at this
   omega
  ·rw [YL]
   dsimp only
   rw [if_neg (by omega),List.length_take]
   omega
 ·rw [if_pos k0] at hl
  omega
theorem Z2D{a:Int}{l:List Op}:sgl a l=true↔(l.length≠0∧(l.getD 0 Op.nil).kind=a):=by unfold sgl;exact decide_eq_true_iff
theorem Z3I(o:Op)(n:Int):(ZH o n).kind=o.kind:=by
 unfold ZH;split
 ·try rfl
 ·split <;> rfl
end Go.AM.Ytpjenobkibfpcaa
namespace Go.AM.Ytpjenobkibfpcaa
open Go.AM Go.Proofs
theorem ZgL{t:Tree}(h:J7 t=true):t=Tree.nil:=by
 obtain ⟨k,w,ks⟩:=t
 have:=of_decide_eq_true h
 simp at this
 obtain ⟨rfl,rfl,rfl⟩:=this
 try rfl
theorem Zdn{e:Edit}(h:Z1v e=true):e=Edit.nil:=by
 obtain ⟨h1,h2,h3,h4,h5,h6,h7⟩:=Zg6 h
 obtain ⟨k,o,n,w,ks,l,os⟩:=e
 simp at h1 h2 h3 h4 h5 h6 h7
 subst h1 h4 h5 h6 h7
 rw [ZgL h2,ZgL h3]
 try rfl
theorem Yh{list:Int}{o:Op}{d:Int}(h:Z7 list o d=true):YG o:=by
 rw [Je] at h
 unfold YG
 split at h
 ·rename_i h0
  simp only [Bool.and_eq_true,decide_eq_true_eq] at h
  exact Or.inl ⟨h0,List.length_eq_zero_iff.1 h.1.2.2,⟨h.1.1,h.1.2.1⟩,Zdn h.2⟩
 ·split at h
  ·cases h
  ·rename_i h0 h1
   split at h
   ·simp only [Bool.and_eq_true,decide_eq_true_eq] at h
    refine Or.inr (Or.inl ⟨by omega,by omega,?_,Zdn h.2⟩)
    exact List.length_pos_iff.1 h.1.2
   ·simp only [Bool.and_eq_true,decide_eq_true_eq] at h
    exact Or.inr (Or.inr ⟨by omega,by omega,List.length_eq_zero_iff.1 h.1.1.1⟩)
end Go.AM.Ytpjenobkibfpcaa
namespace Go.AM
def Z6j(list:Int)(e:Edit):Bool:=decide (e.kind=0∨(list=9∧e.kind=2∧e.words.length=0∧e.kids.length=0))
def Z5(l:List Tree):List Tree:=l.map Z3
mutual
def YM:Edit→Int
 | .mk _ _ _ w ks _ os=> 1+w.length+Z1c ks+Jt os
def Z1c:List (KidOf Edit)→Int
 | []=> 0
 | k ::r=> Z5g k+Z1c r
def Z5g:KidOf Edit→Int
 | ⟨_,e⟩=> YM e
def Jt:List (OpOf Edit)→Int
 | []=> 0
 | o ::r=> Z8A o+Jt r
def Z8A:OpOf Edit→Int
 | ⟨k,_,_,e⟩=> if k=3 then 1+YM e else 1
end
def Z4p(w:WEdit):WEdit:=⟨w.at_,w.mask,w.new,w.old⟩
mutual
def ZM:Edit→Edit
 | .mk k o n w ks l os=> .mk k n o (w.map Z4p) (Jy ks) l (J5 os)
def Jy:List (KidOf Edit)→List (KidOf Edit)
 | []=> []
 | k ::r=> Z19 k ::Jy r
def Z19:KidOf Edit→KidOf Edit
 | ⟨a,e⟩=> ⟨a,ZM e⟩
def J5:List (OpOf Edit)→List (OpOf Edit)
 | []=> []
 | o ::r=> YJ o ::J5 r
def YJ:OpOf Edit→OpOf Edit
 | ⟨k,n,l,e⟩=> if k=1 then ⟨2,n,l,e⟩ else if k=2 then ⟨1,n,l,e⟩ else if k=3 then ⟨k,n,l,ZM e⟩ else ⟨k,n,l,e⟩
end
end Go.AM
namespace Go.AM
structure Wst where
 out:List Op
 gone:List Tree
 brought:List Tree
def JN(out:List Op)(g b:List Tree):List Op:=
 out++((if g.length=0 then [] else [⟨1,0,g,Edit.nil⟩])++(if b.length=0 then [] else [⟨2,0,b,Edit.nil⟩]))
def Z0T:List Op→Int→List Op
 | [],n=> [⟨0,n,[],Edit.nil⟩]
 | [o],n=> if o.kind=0 then [⟨o.kind,o.n+n,o.l,o.e⟩] else [o,⟨0,n,[],Edit.nil⟩]
 | o ::p ::r,n=> o ::Z0T (p ::r) n
def Z1(w:Wst):Wst:=⟨JN w.out w.gone w.brought,[],[]⟩
def ZL(w:Wst)(n:Int):Wst:=⟨Z0T (Z1 w).out n,[],[]⟩
mutual
def ZA:Edit→Edit
 | .mk k o n w ks l os=>
  if k=1 then .mk k (Z3 o) (Z3 n) [] [] l []
  else if k=2 then .mk k Tree.nil Tree.nil w (Jj ks) l []
  else if k=3 then .mk k Tree.nil Tree.nil [] [] l (Z1 (ZY l os ⟨[],[],[]⟩)).out
  else .mk k Tree.nil Tree.nil [] [] l []
def Jj:List (KidOf Edit)→List (KidOf Edit)
 | []=> []
 | k ::r=> Z11 k ::Jj r
def Z11:KidOf Edit→KidOf Edit
 | ⟨a,e⟩=> ⟨a,ZA e⟩
def ZY(list:Int):List (OpOf Edit)→Wst→Wst
 | [],s=> s
 | o ::r,s=> ZY list r (Z0l list o s)
def Z0l(list:Int):OpOf Edit→Wst→Wst
 | ⟨k,n,l,e⟩,s=>
  if k=0 then ZL s n
  else if k=1 then ⟨s.out,s.gone++Z5 l,s.brought⟩
  else if k=2 then ⟨s.out,s.gone,s.brought++Z5 l⟩
  else if k=3 then (if Z6j list (ZA e)=true then ZL s 1 else ⟨(Z1 s).out++[⟨3,0,[],ZA e⟩],[],[]⟩)
  else s
end
theorem Z41(e:Edit):ZA e=if e.kind=1 then .mk e.kind (Z3 e.old) (Z3 e.new) [] [] e.list []
  else if e.kind=2 then .mk e.kind Tree.nil Tree.nil e.words (Jj e.kids) e.list []
  else if e.kind=3 then .mk e.kind Tree.nil Tree.nil [] [] e.list (Z1 (ZY e.list e.ops ⟨[],[],[]⟩)).out
  else .mk e.kind Tree.nil Tree.nil [] [] e.list []:=by cases e;rfl
theorem ZdN(k:Kid):Z11 k=⟨k.at_,ZA k.e⟩:=by cases k;rfl
theorem Z1j(list:Int)(o:Op)(s:Wst):Z0l list o s=if o.kind=0 then ZL s o.n
  else if o.kind=1 then ⟨s.out,s.gone++Z5 o.l,s.brought⟩
  else if o.kind=2 then ⟨s.out,s.gone,s.brought++Z5 o.l⟩
  else if o.kind=3 then (if Z6j list (ZA o.e)=true then ZL s 1 else ⟨(Z1 s).out++[⟨3,0,[],ZA o.e⟩],[],[]⟩)
  else s:=by cases o;rfl
end Go.AM
namespace Go.AM
def ZW{α:Type}(z:α)(l:List α)(i:Nat)(x:α):List α:=(l++List.replicate (i+1 - l.length) z).set i x
def wsD(tw:List Int):List WEdit→List Int→Option (List Int)
 | [],out=> some out
 | w ::r,out=> if mix 0 (tw.getD w.at_.toNat 0) w.mask=w.old then wsD tw r (ZW 0 out w.at_.toNat (mix (tw.getD w.at_.toNat 0) w.new w.mask)) else none
noncomputable def Jc(l rest:List Tree):Bool:=decide (l.length≤rest.length) && eqX (Z5 l) (Z5 (rest.take l.length))
def Z1H(r:Option (List Tree × List Tree)):Option (List Tree):=r.bind fun x=> if x.2.length=0 then some x.1 else none
def nrD(r:Bool)(t:Tree):Tree:=if r then Z3 t else t
mutual
noncomputable def doE(r:Bool):Edit→Tree→Option Tree
 | .mk k o n w ks l os,t=>
  (if k=0 then some t
  else if k=1 then (if YT (Z3 o) (Z3 t)=true then some n else none)
  else if k=2 then (if t.kind=1 then (wsD t.words w t.words).bind fun a=> (JX r t.kids ks t.kids).map fun b=> .mk 1 a b else none)
  else if k=3 then (if t.kind=l then (Z1H (ZB r os t.kids [])).map fun b=> .mk l [] b else none)
  else none).map (nrD r)
noncomputable def JX(r:Bool)(tk:List Tree):List (KidOf Edit)→List Tree→Option (List Tree)
 | [],out=> some out
 | k ::s,out=> (Z2S r tk k).bind fun u=> JX r tk s (ZW Tree.nil out k.at_.toNat u)
noncomputable def Z2S(r:Bool)(tk:List Tree):KidOf Edit→Option Tree
 | ⟨a,e⟩=> doE r e (tk.getD a.toNat Tree.nil)
noncomputable def ZB(r:Bool):List (OpOf Edit)→List Tree→List Tree→Option (List Tree × List Tree)
 | [],rest,out=> some (out,rest)
 | o ::s,rest,out=> (Z48 r o rest out).bind fun x=> ZB r s x.2 x.1
noncomputable def Z48(r:Bool):OpOf Edit→List Tree→List Tree→Option (List Tree × List Tree)
 | ⟨k,n,l,e⟩,rest,out=>
  if k=0 then (if n.toNat≤rest.length then some (out++rest.take n.toNat,rest.drop n.toNat) else none)
  else if k=1 then (if Jc l rest=true then some (out,rest.drop l.length) else none)
  else if k=2 then some (out++l,rest)
  else if rest.length=0 then none else (doE r e (rest.getD 0 Tree.nil)).map fun u=> (out++[u],rest.drop 1)
end
theorem Z17(r:Bool)(e:Edit)(t:Tree):doE r e t=(if e.kind=0 then some t
  else if e.kind=1 then (if YT (Z3 e.old) (Z3 t)=true then some e.new else none)
  else if e.kind=2 then (if t.kind=1 then (wsD t.words e.words t.words).bind fun a=> (JX r t.kids e.kids t.kids).map fun b=> .mk 1 a b else none)
  else if e.kind=3 then (if t.kind=e.list then (Z1H (ZB r e.ops t.kids [])).map fun b=> .mk e.list [] b else none)
  else none).map (nrD r):=by cases e;rfl
noncomputable def Zi6(r:Bool)(e:Edit)(t:Tree):Option Tree:=
 if e.kind=0 then some t
 else if e.kind=1 then (if YT (Z3 e.old) (Z3 t)=true then some e.new else none)
 else if e.kind=2 then (if t.kind=1 then (wsD t.words e.words t.words).bind fun a=> (JX r t.kids e.kids t.kids).map fun b=> .mk 1 a b else none)
 else if e.kind=3 then (if t.kind=e.list then (Z1H (ZB r e.ops t.kids [])).map fun b=> .mk e.list [] b else none)
 else none
theorem Z8y(r:Bool)(e:Edit)(t:Tree):doE r e t=(Zi6 r e t).map (nrD r):=Z17 r e t
theorem Z8x(r:Bool)(tk:List Tree)(k:Kid):Z2S r tk k=doE r k.e (tk.getD k.at_.toNat Tree.nil):=by cases k;rfl
theorem ZT(r:Bool)(o:Op)(rest out:List Tree):Z48 r o rest out=if o.kind=0 then (if o.n.toNat≤rest.length then some (out++rest.take o.n.toNat,rest.drop o.n.toNat) else none)
  else if o.kind=1 then (if Jc o.l rest=true then some (out,rest.drop o.l.length) else none)
  else if o.kind=2 then some (out++o.l,rest)
  else if rest.length=0 then none else (doE r o.e (rest.getD 0 Tree.nil)).map fun u=> (out++[u],rest.drop 1):=by cases o;rfl
noncomputable def Zam(r:Bool)(e:Edit)(t:Tree):Option Tree:=
 if t.kind=1 then (wsD t.words e.words t.words).bind fun a=> (JX r t.kids e.kids t.kids).map fun b=> .mk 1 a b else none
noncomputable def Z68(r:Bool)(e:Edit)(t:Tree):Option (List Tree × List Tree):=if t.kind=e.list then ZB r e.ops t.kids [] else none
def Z0S(o:Option Tree):Tree:=o.getD Tree.nil
def ZoS(e:Edit)(o:Option (List Tree × List Tree)):Tree:=match o with | some x=> .mk e.list [] x.1 | none=> Tree.nil
noncomputable def Zao(e:Edit)(t:Tree):Tree:=
 if e.kind=0 then t else if e.kind=1 then e.new else if e.kind=2 then Z0S (Zam false e t) else if e.kind=3 then ZoS e (Z68 false e t) else Tree.nil
theorem YQ(o:Option Tree):o.map (nrD false)=o:=by cases o <;> rfl
theorem Z93{e:Edit}{t u:Tree}(h:doE false e t=some u):Zao e t=u:=by
 rw [Z17,YQ] at h
 unfold Zao
 split
 ·rename_i h0;rw [if_pos h0] at h;exact Option.some.inj h
 ·rename_i h0;rw [if_neg h0] at h
  split
  ·rename_i h1;rw [if_pos h1] at h
   split at h
   ·exact Option.some.inj h
   ·cases h
  ·rename_i h1;rw [if_neg h1] at h
   split
   ·rename_i h2;rw [if_pos h2] at h
    unfold Z0S Zam
    rw [h];try rfl
   ·rename_i h2;rw [if_neg h2] at h
    split
    ·rename_i h3;rw [if_pos h3] at h
     unfold ZoS Z68
     split at h
     ·rename_i h4;rw [if_pos h4]
      revert h
      cases ZB false e.ops t.kids [] with
      | none=> intro h;cases h
      | some x=>
       intro h
       simp only [Z1H,Option.bind_some] at h
       split at h
       ·exact Option.some.inj h
       ·cases h
     ·cases h
    ·rename_i h3;rw [if_neg h3] at h;cases h
end Go.AM
namespace Go.AM
def Z0M(m:Nat):Nat→Nat
 | 0=> 0
 | i+1=> Z0M m i+if m / 2 ^ i % 2=1 then 255*2 ^ (8*i) else 0
def ZcQ:Nat→Nat→Nat
 | 0,_=> 0
 | k+1,m=> (if m % 2=1 then 255 else 0)+256*ZcQ k (m / 2)
def Z9P:Nat→Nat→Nat→Nat
 | 0,_,_=> 0
 | k+1,a,m=> (if m % 2=1 then a % 256 else 0)+256*Z9P k (a / 256) (m / 2)
def ZgS:Nat→Nat→Nat→Nat→Nat
 | 0,_,_,_=> 0
 | k+1,a,b,m=> (if m % 2=1 then b % 256 else a % 256)+256*ZgS k (a / 256) (b / 256) (m / 2)
theorem Zmv(x y u v:Nat)(hu:u < 256)(hv:v < 256):(u+256*x) &&& (v+256*y)=(u &&& v)+256*(x &&& y):=by
 have h:u &&& v < 256:=Nat.and_lt_two_pow (n:=8) u hv
 apply Nat.eq_of_testBit_eq
 intro j
 rw [Nat.add_comm u,Nat.add_comm v,Nat.add_comm (u &&& v),Nat.testBit_and]
 rw [show (256:Nat)=2 ^ 8 from rfl,Nat.testBit_two_pow_mul_add _ hu,Nat.testBit_two_pow_mul_add _ hv,Nat.testBit_two_pow_mul_add _ h]
 split <;> rw [Nat.testBit_and]
theorem Zoi(x y u v:Nat)(hu:u < 256)(hv:v < 256):(u+256*x) ||| (v+256*y)=(u ||| v)+256*(x ||| y):=by
 have h:u ||| v < 256:=Nat.or_lt_two_pow (n:=8) hu hv
 apply Nat.eq_of_testBit_eq
 intro j
 rw [Nat.add_comm u,Nat.add_comm v,Nat.add_comm (u ||| v),Nat.testBit_or]
 rw [show (256:Nat)=2 ^ 8 from rfl,Nat.testBit_two_pow_mul_add _ hu,Nat.testBit_two_pow_mul_add _ hv,Nat.testBit_two_pow_mul_add _ h]
 split <;> rw [Nat.testBit_or]
theorem ZcN:∀ (k a m:Nat),a &&& ZcQ k m=Z9P k a m
 | 0,a,m=> by simp [ZcQ,Z9P]
 | k+1,a,m=> by
  have e:a=a % 256+256*(a / 256):=by omega
  simp only [ZcQ,Z9P]
  rw [←ZcN k (a / 256) (m / 2)]
  have h:a &&& ((if m % 2=1 then 255 else 0)+256*ZcQ k (m / 2))=(a % 256+256*(a / 256)) &&& ((if m % 2=1 then 255 else 0)+256*ZcQ k (m / 2)):=by rw [←e]
  rw [h,Zmv _ _ _ _ (by omega) (by split <;> omega)]
  congr 1
  split
  ·have:=Nat.and_two_pow_sub_one_eq_mod (a % 256) 8
   simp only [show (2:Nat) ^ 8 - 1=255 from rfl,show (2:Nat) ^ 8=256 from rfl,Nat.mod_mod] at this
   exact this
  ·simp
theorem ZjZ:∀ (k a b m n:Nat),(∀ i < k,m / 2 ^ i % 2+n / 2 ^ i % 2=1)→Z9P k a n ||| Z9P k b m=ZgS k a b m
 | 0,a,b,m,n,_=> by simp [Z9P,ZgS]
 | k+1,a,b,m,n,h=> by
  simp only [Z9P,ZgS]
  have h0:=h 0 (by omega)
  simp only [Nat.pow_zero,Nat.div_one] at h0
  rw [Zoi _ _ _ _ (by split <;> omega) (by split <;> omega),ZjZ k (a / 256) (b / 256) (m / 2) (n / 2) (fun i hi=> by
   have:=h (i+1) (by omega)
   rw [Nat.div_div_eq_div_mul,Nat.div_div_eq_div_mul]
   rw [Nat.pow_succ,Nat.mul_comm] at this
   exact this)]
  congr 1
  by_cases hm:m % 2=1
  ·rw [if_pos hm,if_pos hm,if_neg (by omega)];simp
  ·rw [if_neg hm,if_neg hm,if_pos (by omega)];simp
theorem Zj9:∀ m:Fin 256,Z0M m.1 8=ZcQ 8 m.1:=by decide+kernel
theorem ZmM:∀ m:Fin 256,2 ^ 64 - 1 - ZcQ 8 m.1=ZcQ 8 (255 - m.1):=by decide+kernel
theorem ZpA:∀ m:Fin 256,∀ i:Fin 8,m.1 / 2 ^ i.1 % 2+(255 - m.1) / 2 ^ i.1 % 2=1:=by decide+kernel
theorem Zqh:∀ m:Fin 256,ZcQ 8 m.1 < 2 ^ 64:=by decide+kernel
theorem Zot(a b m:Nat)(hm:m < 256):(a &&& (2 ^ 64 - 1 - Z0M m 8)) ||| (b &&& Z0M m 8)=ZgS 8 a b m:=by
 have h1:=Zj9 ⟨m,hm⟩
 have h2:=ZmM ⟨m,hm⟩
 simp only at h1 h2
 rw [h1,h2,ZcN,ZcN]
 exact ZjZ 8 a b m (255 - m) (fun i hi=> ZpA ⟨m,hm⟩ ⟨i,hi⟩)
def ofK:Nat→(Nat→Nat)→Nat
 | 0,_=> 0
 | k+1,f=> f 0+256*ofK k (fun i=> f (i+1))
theorem ZdM:∀ (k:Nat) {f g:Nat→Nat},(∀ i,f i=g i)→ofK k f=ofK k g
 | 0,_,_,_=> rfl
 | k+1,f,g,h=> by simp only [ofK,h 0,ZdM k (fun i=> h (i+1))]
theorem Zk3:∀ (k a b m:Nat),ZgS k a b m=ofK k (fun i=> if m / 2 ^ i % 2=1 then b / 256 ^ i % 256 else a / 256 ^ i % 256)
 | 0,_,_,_=> rfl
 | k+1,a,b,m=> by
  simp only [ZgS,ofK,Nat.pow_zero,Nat.div_one]
  rw [Zk3 k,ZdM k (g:=fun i=> if m / 2 ^ (i+1) % 2=1 then b / 256 ^ (i+1) % 256 else a / 256 ^ (i+1) % 256) (fun i=> ?_)]
  rw [Nat.div_div_eq_div_mul,Nat.div_div_eq_div_mul,Nat.div_div_eq_div_mul,Nat.pow_succ',Nat.pow_succ']
theorem Zov(a b m:Nat):((ZgS 8 a b m:Nat):Int)=mix a b m:=by
 have nm:∀ i:Nat,JY (m:Int) (i:Int)=decide (m / 2 ^ i % 2=1):=by
  intro i
  unfold JY
  rw [decide_eq_decide,Int.toNat_natCast]
  have:((m:Int) / 2 ^ i % 2:Int)=((m / 2 ^ i % 2:Nat):Int):=by rw [Int.natCast_emod,Int.natCast_ediv,Int.natCast_pow];try rfl
  rw [this];omega
 have by_:∀ (x i:Nat),Zd (x:Int) i=((x / 256 ^ i % 256:Nat):Int):=by
  intro x i
  unfold Zd
  rw [Int.natCast_emod,Int.natCast_ediv,Int.natCast_pow]
  try rfl
 have mx:∀ i:Nat,YU (a:Int) (b:Int) (m:Int) i=((if m / 2 ^ i % 2=1 then b / 256 ^ i % 256 else a / 256 ^ i % 256:Nat):Int):=by
  intro i
  unfold YU
  rw [nm,by_,by_]
  by_cases h:m / 2 ^ i % 2=1
  ·rw [decide_eq_true h,if_pos rfl,if_pos h]
  ·rw [decide_eq_false h,if_neg Bool.false_ne_true,if_neg h]
 rw [Zk3]
 generalize hf:(fun i=> if m / 2 ^ i % 2=1 then b / 256 ^ i % 256 else a / 256 ^ i % 256)=f
 have hx:∀ i,YU (a:Int) (b:Int) (m:Int) i=(f i:Int):=by intro i;rw [mx,←hf]
 have e:ofK 8 f=f 0+256*(f 1+256*(f 2+256*(f 3+256*(f 4+256*(f 5+256*(f 6+256*(f 7+256*0))))))):=rfl
 rw [e]
 simp only [mix,of8,hx]
 omega
end Go.AM
namespace Go.AM
def Zmw(a b:Int):Int:=IntKind.wrap .u8 (BitVec.ofInt (IntKind.bits .u8) a &&& BitVec.ofInt (IntKind.bits .u8) b).toNat
def orM(a b:Int):Int:=IntKind.wrap .u8 (BitVec.ofInt (IntKind.bits .u8) a ||| BitVec.ofInt (IntKind.bits .u8) b).toNat
def Zfv(p q:WEdit):Bool:=decide (mix 0 p.new (Zmw p.mask q.mask)=mix 0 q.old (Zmw p.mask q.mask))
def JQ(p q:WEdit):WEdit × Bool:=
 if Zfv p q then (⟨p.at_,orM p.mask q.mask,mix q.old p.old p.mask,mix p.new q.new q.mask⟩,true) else (⟨0,0,0,0⟩,false)
def Zm{α:Type}(at_:α→Int)(one:α→α→α × Bool):List α→List α→Option (List α)
 | [],q=> some q
 | a ::p,[]=> some (a ::p)
 | a ::p,b ::q=>
  if at_ a < at_ b then (Zm at_ one p (b ::q)).map (a ::·)
  else if at_ b < at_ a then (Zm at_ one (a ::p) q).map (b ::·)
  else if (one a b).2 then (Zm at_ one p q).map ((one a b).1 ::·) else none
termination_by p q=> p.length+q.length
def ofO{α:Type}(o:Option (List α)):List α:=o.getD []
structure PRes where
 op:Op
 is:Bool
 ok:Bool
noncomputable def doB(e:Edit)(t:Tree):Tree × Bool:=(Z0S ((doE false e t).map Z3),(doE false e t).isSome)
noncomputable def Zv2(a b:List Tree):Bool:=eqX (Z5 a) (Z5 b)
noncomputable def YZ(f:Edit→Edit→Edit × Bool)(x:Piece):PRes:=
 if x.of=1∨(x.of=0∧x.q.kind=0) then ⟨x.p,true,true⟩
 else if x.of=2∨x.p.kind=0 then ⟨x.q,true,true⟩
 else if x.p.kind=2∧x.q.kind=1 then ⟨Op.nil,false,Zv2 x.p.l (x.q.l.take x.p.l.length)⟩
 else if x.p.kind=2 then ⟨⟨2,0,[(doB x.q.e (x.p.l.getD 0 Tree.nil)).1],Edit.nil⟩,true,(doB x.q.e (x.p.l.getD 0 Tree.nil)).2⟩
 else if x.q.kind=1 then ⟨⟨1,0,[(doB (ZA (ZM x.p.e)) (x.q.l.getD 0 Tree.nil)).1],Edit.nil⟩,true,(doB (ZA (ZM x.p.e)) (x.q.l.getD 0 Tree.nil)).2⟩
 else ⟨⟨3,0,[],(f x.p.e x.q.e).1⟩,true,(f x.p.e x.q.e).2⟩
noncomputable def Z0J(f:Edit→Edit→Edit × Bool):List Piece→Option (List Op)
 | []=> some []
 | x ::r=> if (YZ f x).ok then (Z0J f r).map ((if (YZ f x).is then [(YZ f x).op] else [])++·) else none
noncomputable def Z1y(f:Edit→Edit→Edit × Bool)(p q:List Op):Option (List Op):=
 if (ZX 1 2 p q []).2.1 then Z0J f (ZX 1 2 p q []).1 else none
def Z1o(f:Edit→Edit→Edit × Bool)(a b:Kid):Kid × Bool:=(⟨a.at_,(f a.e b.e).1⟩,(f a.e b.e).2)
noncomputable def Ju(f:Edit→Edit→Edit × Bool)(p q:Edit):Edit × Bool:=
 if p.kind=0 then (q,true)
 else if q.kind=0 then (p,true)
 else if p.kind=1 then (.mk 1 p.old (doB q p.new).1 [] [] 0 [],(doB q p.new).2)
 else if q.kind=1 then (.mk 1 (doB (ZA (ZM p)) q.old).1 q.new [] [] 0 [],(doB (ZA (ZM p)) q.old).2)
 else if p.kind≠q.kind∨p.list≠q.list then (Edit.nil,false)
 else if p.kind=2 then
  if (Zm WEdit.at_ JQ p.words q.words).isSome then
   (.mk 2 Tree.nil Tree.nil (ofO (Zm WEdit.at_ JQ p.words q.words)) (ofO (Zm KidOf.at_ (Z1o f) p.kids q.kids)) 0 [],(Zm KidOf.at_ (Z1o f) p.kids q.kids).isSome)
  else (Edit.nil,false)
 else (.mk 3 Tree.nil Tree.nil [] [] p.list (ofO (Z1y f p.ops q.ops)),(Z1y f p.ops q.ops).isSome)
noncomputable def Zd3:Nat→Edit→Edit→Edit × Bool
 | 0,_,_=> (Edit.nil,false)
 | n+1,p,q=> Ju (Zd3 n) p q
noncomputable def Y2(p q:Edit):Edit × Bool:=Zd3 (Z6 p+Z6 q) p q
def Z0N(e:Edit):Prop:=ctE e≤9000000000∧Ym e∧∃ d,Z4 e d=true
def Zph(k:Kid):Prop:=Z2u k≤9000000000∧Z0Z k∧∃ d,Z4 k.e d=true
def Zan(l:List Kid):Prop:=Z03 l≤9000000000∧Z0k l∧∀ k∈l,∃ d,Z4 k.e d=true
def Zlv(l:List Op):Prop:=YA l≤9000000000∧JC l∧∀ o∈l,∃ list d,Z7 list o d=true
def Zno(o:Op):Prop:=YG o∧Z1u o≤9000000000∧Yb o∧(o.kind=3→∃ d,Z4 o.e d=true)
structure PcOk (x:Piece):Prop where
 of:x.of=0∨x.of=1∨x.of=2
 pp:x.of≠2→Zno x.p
 qq:x.of≠1→Zno x.q
 both:x.of=0→x.p.kind≠1∧x.q.kind≠2∧Z0 x.p=Z0 x.q
end Go.AM
namespace Go.AM
instance:Inhabited PStep:=⟨⟨0,0⟩⟩
def YY(n:Int):List Op:=if n=0 then [] else [⟨0,n,[],Edit.nil⟩]
def Zth(s:PStep)(t:Tree):Prop:=s.kind=0∧0≤s.at_∧(t.kind=1∧s.at_ < 65535∨(2≤t.kind∧t.kind≤9)∧s.at_ < t.kids.length)
instance (s:PStep) (t:Tree):Decidable (Zth s t):=by unfold Zth;infer_instance
end Go.AM
namespace Go.AM
noncomputable def Z1J(p q:Edit):Edit × Bool:=if (Y2 p q).2=true then (ZA (Y2 p q).1,true) else (Edit.nil,false)
end Go.AM
namespace Go.AM
def Z0O(list ahead:Int)(o:Op)(behind:Int):Edit:= .mk 3 Tree.nil Tree.nil [] [] list ((YY ahead++[o])++YY behind)
def Z0P(w:WEdit):Edit:= .mk 2 Tree.nil Tree.nil [w] [] 0 []
def Z6U(a:Int)(x:Edit):Edit:= .mk 2 Tree.nil Tree.nil [] [⟨a,x⟩] 0 []
mutual
def Zp:Edit→List Edit
 | .mk k o n w ks l os=> if k=0 then [] else
  if (if k=2 then w.map Z0P++ZS ks else if k=3 then ZE l os 0 (Yj os 0) else []).length=0 then [.mk k o n w ks l os]
  else (if k=2 then w.map Z0P++ZS ks else if k=3 then ZE l os 0 (Yj os 0) else [])
def ZS:List (KidOf Edit)→List Edit
 | []=> []
 | k ::r=> Z4M k++ZS r
def Z4M:KidOf Edit→List Edit
 | ⟨a,e⟩=> (Zp e).map (Z6U a)
def ZE(l:Int):List (OpOf Edit)→Int→Int→List Edit
 | [],_,_=> []
 | o ::r,a,b=> Z7y l o a b++ZE l r (if o.kind=1 then a else a+Z0 o) (if o.kind=2 then b else b - Z0 o)
def Z7y(l:Int):OpOf Edit→Int→Int→List Edit
 | ⟨k,n,t,e⟩,a,b=> if k=0 then [] else if k=1 then [Z0O l a ⟨k,n,t,e⟩ (b - t.length)] else if k=2 then [Z0O l a ⟨k,n,t,e⟩ (b - 0)]
  else (Zp e).map fun x=> Z0O l a ⟨3,0,[],x⟩ (b - 1)
end
def Yp(e:Edit):List Edit:=if e.kind=2 then e.words.map Z0P++ZS e.kids else if e.kind=3 then ZE e.list e.ops 0 (Yj e.ops 0) else []
theorem JT(e:Edit):Zp e=if e.kind=0 then [] else if (Yp e).length=0 then [e] else Yp e:=by cases e;rfl
theorem Z2L(k:Kid):Z4M k=(Zp k.e).map (Z6U k.at_):=by cases k;rfl
theorem Z2j(l:Int)(o:Op)(a b:Int):Z7y l o a b=if o.kind=0 then [] else if o.kind=1 then [Z0O l a o (b - o.l.length)] else if o.kind=2 then [Z0O l a o (b - 0)]
  else (Zp o.e).map fun x=> Z0O l a ⟨3,0,[],x⟩ (b - 1):=by cases o;rfl
noncomputable def YP:List Edit→Tree→Option Tree
 | [],t=> some t
 | e ::r,t=> (doE false e t).bind (YP r)
noncomputable def ZhM:List Edit→Tree→Option Tree
 | [],t=> some t
 | e ::r,t=> ((doE false e t).map Z3).bind (ZhM r)
noncomputable def Z6i:List Edit→Edit→Edit × Bool
 | [],x=> (x,true)
 | e ::r,x=> if (Z1J x e).2=true then Z6i r (Z1J x e).1 else (Edit.nil,false)
noncomputable def Z3p(l:List Edit):Edit × Bool:=if (Z6i l Edit.nil).2=true then (ZA (Z6i l Edit.nil).1,true) else (Edit.nil,false)
def ctL:List Edit→Nat
 | []=> 0
 | e ::r=> ctE e+ctL r
end Go.AM
namespace Go.AM.Ytpjenobkibfpcaa
open Go.AM Go.Proofs
theorem ZhN(a:Tree):YT a a=true:=by simp [YT]
theorem Zli(l:List Int):trim (trim l)=trim l:=by
 induction l with
 | nil=> rfl
 | cons x r ih=>
  rw [Z1P]
  split
  ·try rfl
  ·rename_i h
   rw [Z1P,ih,if_neg h]
theorem ZhG(l:List Tree):Y4 (Y4 l)=Y4 l:=by
 induction l with
 | nil=> rfl
 | cons x r ih=>
  rw [Jz]
  split
  ·try rfl
  ·rename_i h
   rw [Jz,ih,if_neg h]
def Normed:List Tree→Prop
 | []=> True
 | t ::r=> Z3 t=t∧Normed r
theorem Normed.eq:∀ {l:List Tree},Normed l→Y1 l=l
 | [],_=> rfl
 | t ::r,h=> by simp only [Y1,h.1,Normed.eq h.2]
theorem Normed.trim:∀ {l:List Tree},Normed l→Normed (Y4 l)
 | [],_=> trivial
 | t ::r,h=> by
  rw [Jz]
  split
  ·trivial
  ·exact ⟨h.1,Normed.trim h.2⟩
mutual
theorem Z2m:∀ (t:Tree),Z3 (Z3 t)=Z3 t
 | .mk k w ks=> by
  have h:=Z7F ks
  by_cases h0:k=0
  ·simp [Z3,h0,Tree.nil]
  ·by_cases h1:k=1
   ·subst h1
    simp only [Z3,if_neg h0,if_true,Zli,h.trim.eq,ZhG]
   ·simp only [Z3,if_neg h0,if_neg h1,h.eq]
theorem Z7F:∀ (ks:List Tree),Normed (Y1 ks)
 | []=> trivial
 | t ::r=> ⟨Z2m t,Z7F r⟩
end
end Go.AM.Ytpjenobkibfpcaa
namespace Go.AM.Ytpjenobkibfpcaa
open Go.AM Go.Proofs
noncomputable section
noncomputable section
def ZaO:ArgL (Edit × Unit):=(.cons (aEl .edit) .nil)
def Z0y(a:Edit × Unit):Prop:=Z6 a.1≤20000000000
def Z4R(a:Edit × Unit):Nat:=2*Z6 a.1
def ZbD(a:Edit × Unit):V U:= .agg (enc .edit (ZM a.1))
def Z7d:Fs U:=fs ZaO (fun a=> [Z0y a]) ZbD
def ZaJ:ArgL (Op × Unit):=(.cons (aEl .op) .nil)
def Z4I(a:Op × Unit):Prop:=Zn a.1≤20000000000
def Z9V(a:Op × Unit):Nat:=2*Zn a.1+1
def Z4D(a:Op × Unit):V U:= .agg (enc .op (YJ a.1))
def Zjc:Fs U:=fs ZaJ (fun a=> [Z4I a]) Z4D
def YN(N:Nat):List (FuncId × Fs U):=(118,fs ZaO (fun a=> [Z0y a,Z4R a < N]) ZbD) ::(163,fs ZaJ (fun a=> [Z4I a,Z9V a < N]) Z4D) ::[]
def Z1l:Zg U:=fun i=> match i with
 | 0=> ([(1,[]),(2,[])],[(.loc 1,[]),(.loc 2,[])])
 | 1=> ([(1,[]),(2,[]),(3,[])],[(.loc 1,[]),(.loc 2,[]),(.loc 3,[])])
 | 2=> ([(1,[]),(2,[]),(3,[]),(20,[]),(21,[]),(22,[])],[(.loc 1,[]),(.loc 2,[]),(.loc 3,[.any,.any,.any,.any,.any,.any,.any,.own .wedit])])
 | 3=> ([(1,[]),(2,[]),(3,[]),(20,[]),(21,[]),(22,[]),(23,[])],[(.loc 1,[]),(.loc 2,[]),(.loc 3,[])])
 | 4=> ([(1,[]),(2,[]),(3,[]),(5,[]),(20,[]),(21,[]),(22,[])],[(.loc 1,[]),(.loc 2,[]),(.loc 3,[]),(.loc 5,[])])
 | 5=> ([(1,[]),(2,[]),(3,[]),(20,[]),(21,[]),(22,[])],[(.loc 1,[]),(.loc 2,[]),(.loc 3,[])])
 | 6=> ([(1,[]),(2,[]),(3,[]),(20,[]),(21,[]),(22,[])],[(.loc 1,[]),(.loc 2,[]),(.loc 3,[.any,.any,.any,.any,.any,.any,.any,.own .wedit])])
 | 7=> ([(1,[]),(2,[]),(3,[]),(42,[]),(43,[]),(44,[])],[(.loc 1,[]),(.loc 2,[]),(.loc 3,[.any,.any,.any,.any,.any,.any,.any,.any,.own .kid])])
 | 8=> ([(1,[]),(2,[]),(3,[]),(42,[]),(43,[]),(44,[]),(45,[])],[(.loc 1,[]),(.loc 2,[]),(.loc 3,[])])
 | 9=> ([(1,[]),(2,[]),(3,[]),(7,[]),(42,[]),(43,[]),(44,[])],[(.loc 1,[]),(.loc 2,[]),(.loc 3,[]),(.loc 7,[])])
 | 10=> ([(1,[]),(2,[]),(3,[]),(42,[]),(43,[]),(44,[])],[(.loc 1,[]),(.loc 2,[]),(.loc 3,[])])
 | 11=> ([(1,[]),(2,[]),(3,[]),(42,[]),(43,[]),(44,[])],[(.loc 1,[]),(.loc 2,[]),(.loc 3,[.any,.any,.any,.any,.any,.any,.any,.any,.own .kid])])
 | 12=> ([(2,[]),(3,[]),(61,[]),(62,[]),(63,[])],[(.loc 2,[]),(.loc 3,[.any,.any,.any,.any,.any,.any,.any,.any,.any,.any,.own .op])])
 | 13=> ([(2,[]),(3,[]),(61,[]),(62,[]),(63,[]),(64,[])],[(.loc 2,[]),(.loc 3,[])])
 | 14=> ([(2,[]),(3,[]),(9,[]),(61,[]),(62,[]),(63,[])],[(.loc 2,[]),(.loc 3,[]),(.loc 9,[])])
 | 15=> ([(2,[]),(3,[]),(61,[]),(62,[]),(63,[])],[(.loc 2,[]),(.loc 3,[])])
 | 16=> ([(2,[]),(3,[]),(61,[]),(62,[]),(63,[])],[(.loc 2,[]),(.loc 3,[.any,.any,.any,.any,.any,.any,.any,.any,.any,.any,.own .op])])
 | 17=> ([(2,[])],[(.loc 2,[])])
 | _=> ([],[])
def Z23(e:Edit)(x22:Int)(ml3_7:List WEdit):LSt U:=(L2 [(1,.ptr (.loc 1) 0),(2,.ptr (.loc 2) 0),(3,.ptr (.loc 3) 0),(20,.c (sU .wedit e.words .unk)),(21,.c (ci (e.words.length:Int))),(22,.c (ci x22))] [(.loc 1,(enc .edit e)),(.loc 2,zc1),(.loc 3,([ci e.kind]++enc .tree e.new++enc .tree e.old++[sU .wedit ml3_7 (.own (.l 3 7)),.nils,ci e.list,.nils]))])
def Z22(e:Edit)(ml3_7:List WEdit)(x44_a:Int)(ml3_8_a:List Kid):LSt U:=(L2 [(1,.ptr (.loc 1) 0),(2,.ptr (.loc 2) 0),(3,.ptr (.loc 3) 0),(42,.c (sU .kid e.kids .unk)),(43,.c (ci (e.kids.length:Int))),(44,.c (ci x44_a))] [(.loc 1,(enc .edit e)),(.loc 2,zc1),(.loc 3,([ci e.kind]++enc .tree e.new++enc .tree e.old++[sU .wedit ml3_7 (.own (.l 3 7)),sU .kid ml3_8_a (.own (.l 3 8)),ci e.list,.nils]))])
def Z21(e:Edit)(ml3_7:List WEdit)(ml3_8_a:List Kid)(x63_b:Int)(ml3_10_b:List Op):LSt U:=(L2 [(2,.ptr (.loc 2) 0),(3,.ptr (.loc 3) 0),(61,.c (sU .op e.ops .unk)),(62,.c (ci (e.ops.length:Int))),(63,.c (ci x63_b))] [(.loc 2,zc1),(.loc 3,([ci e.kind]++enc .tree e.new++enc .tree e.old++[sU .wedit ml3_7 (.own (.l 3 7)),sU .kid ml3_8_a (.own (.l 3 8)),ci e.list,sU .op ml3_10_b (.own (.l 3 10))]))])
abbrev Zxt(N:Nat)(e:Edit)(Q:QT):=AW (Z2 (YN N)) Try.f118 Z1l [] (L2 [(0,.agg (enc .edit e))] []) Q
abbrev Z6Y(N:Nat):=awp cfg (Z2 (YN N)) (Y0 cfg (Z2 (YN N))) Try.f118.ntmps Z1l
abbrev Z6s(N:Nat):=ZeA cfg (Z2 (YN N)) (Y0 cfg (Z2 (YN N))) Try.f118.ntmps Z1l
theorem ZwT(N:Nat)(e:Edit)(Q:QT)(h:Zj (AW (Z2 (YN N)) Try.f118 Z1l [1,1,0,1,0,0]) (Z23 e 0 []) (xB 0 (SW (Z2 (YN N)) Try.f118 Z1l [1,1,1] Q))):
  Zxt N e Q:=by
 have e_:(Zxt N e Q)=(Zj (Z6Y N (cd Try.f118 [1,1,0,1,0,0])) (Z23 e 0 []) (xB 0 (Z6s N (cd Try.f118 [1,1,1]) Q))):=by kernel_rfl
 exact e_.mpr h
abbrev Zla(N:Nat)(e:Edit)(x22:Int)(ml3_7:List WEdit)(N0:NT)(Q:QT):=AW (Z2 (YN N)) Try.f118 Z1l [1,1,0,1,0,0] (Z23 e x22 ml3_7) (xT N0 (xB 0 (SW (Z2 (YN N)) Try.f118 Z1l [1,1,1] Q)))
theorem Zn1(N:Nat)(e:Edit)(x22:Int)(ml3_7:List WEdit)(N0:NT)(Q:QT)(h:((decide (x22 < (e.words.length:Int)))=true→((0:Int)≤x22∧x22 < (e.words.length:Int))∧(((ml3_7.length+([(WEdit.mk (WEdit.at_ (e.words.getD x22.toNat (WEdit.mk 0 0 0 0))) (WEdit.mask (e.words.getD x22.toNat (WEdit.mk 0 0 0 0))) (WEdit.new (e.words.getD x22.toNat (WEdit.mk 0 0 0 0))) (WEdit.old (e.words.getD x22.toNat (WEdit.mk 0 0 0 0))))]).length)*32≤140737488355328)∧((InR (x22+1))∧(N0 (Z23 e (x22+1) (ml3_7++([(WEdit.mk (WEdit.at_ (e.words.getD x22.toNat (WEdit.mk 0 0 0 0))) (WEdit.mask (e.words.getD x22.toNat (WEdit.mk 0 0 0 0))) (WEdit.new (e.words.getD x22.toNat (WEdit.mk 0 0 0 0))) (WEdit.old (e.words.getD x22.toNat (WEdit.mk 0 0 0 0))))])))))))∧((decide (x22 < (e.words.length:Int)))=false→Zj (AW (Z2 (YN N)) Try.f118 Z1l [1,1,1,0,1,0,0]) (Z22 e ml3_7 0 []) (xB 2 (SW (Z2 (YN N)) Try.f118 Z1l [1,1,1,1] Q)))):
  Zla N e x22 ml3_7 N0 Q:=by
 have e_:(Zla N e x22 ml3_7 N0 Q)=(let zz0:=(decide ((x22:Int) < (e.words.length:Int)));((zz0=true→((0:Int)≤x22∧x22 < (e.words.length:Int))∧(((ml3_7.length+([(WEdit.mk (WEdit.at_ (e.words.getD x22.toNat (WEdit.mk 0 0 0 0))) (WEdit.mask (e.words.getD x22.toNat (WEdit.mk 0 0 0 0))) (WEdit.new (e.words.getD x22.toNat (WEdit.mk 0 0 0 0))) (WEdit.old (e.words.getD x22.toNat (WEdit.mk 0 0 0 0))))]).length)*32≤140737488355328)∧((InR ((x22:Int)+1))∧(N0 (Z23 e ((x22:Int)+1) (ml3_7++([(WEdit.mk (WEdit.at_ (e.words.getD x22.toNat (WEdit.mk 0 0 0 0))) (WEdit.mask (e.words.getD x22.toNat (WEdit.mk 0 0 0 0))) (WEdit.new (e.words.getD x22.toNat (WEdit.mk 0 0 0 0))) (WEdit.old (e.words.getD x22.toNat (WEdit.mk 0 0 0 0))))])))))))∧(zz0=false→(Zj (Z6Y N (cd Try.f118 [1,1,1,0,1,0,0])) (Z22 e ml3_7 0 []) (xB 2 (Z6s N (cd Try.f118 [1,1,1,1]) Q)))))):=by kernel_rfl
 exact e_.mpr ⟨fun c_7=> ⟨(h.1 c_7).1,⟨(h.1 c_7).2.1,⟨(h.1 c_7).2.2.1,(h.1 c_7).2.2.2⟩⟩⟩,fun c_7=> (h.2 c_7)⟩
abbrev Zl9(N:Nat)(e:Edit)(ml3_7:List WEdit)(x44_a:Int)(ml3_8_a:List Kid)(N1:NT)(Q:QT):=AW (Z2 (YN N)) Try.f118 Z1l [1,1,1,0,1,0,0] (Z22 e ml3_7 x44_a ml3_8_a) (xT N1 (xB 2 (SW (Z2 (YN N)) Try.f118 Z1l [1,1,1,1] Q)))
theorem Zn0(N:Nat)(e:Edit)(ml3_7:List WEdit)(x44_a:Int)(ml3_8_a:List Kid)(N1:NT)(Q:QT)(h:∀ y_1,y_1=(e.kids.getD x44_a.toNat (KidOf.mk 0 Edit.nil))→∀ y_2,y_2=(y_1.e)→∀ y_3,y_3=(ZM y_2)→((decide (x44_a < (e.kids.length:Int)))=true→((0:Int)≤x44_a∧x44_a < (e.kids.length:Int))∧((Z0y (y_2,()))∧(Z4R (y_2,()) < N)∧((ml3_8_a.length+([(KidOf.mk y_1.at_ y_3:Kid)]).length)*208≤140737488355328)∧((InR (x44_a+1))∧(N1 (Z22 e ml3_7 (x44_a+1) (ml3_8_a++([(KidOf.mk y_1.at_ y_3:Kid)])))))))∧((decide (x44_a < (e.kids.length:Int)))=false→Zj (AW (Z2 (YN N)) Try.f118 Z1l [1,1,1,1,0,1,0,0]) (Z21 e ml3_7 ml3_8_a 0 []) (xB 4 (SW (Z2 (YN N)) Try.f118 Z1l [1,1,1,1,1] Q)))):
  Zl9 N e ml3_7 x44_a ml3_8_a N1 Q:=by
 have e_:(Zl9 N e ml3_7 x44_a ml3_8_a N1 Q)=(let y_1:=(e.kids.getD x44_a.toNat (KidOf.mk 0 Edit.nil));let y_2:=(Jr y_1.e);let y_3:=(Jr (ZM y_2));let zz0:=(decide ((x44_a:Int) < (e.kids.length:Int)));((zz0=true→((0:Int)≤x44_a∧x44_a < (e.kids.length:Int))∧((Z0y (y_2,()))∧(Z4R (y_2,()) < N)∧((ml3_8_a.length+([(KidOf.mk y_1.at_ y_3:Kid)]).length)*208≤140737488355328)∧((InR ((x44_a:Int)+1))∧(N1 (Z22 e ml3_7 ((x44_a:Int)+1) (ml3_8_a++([(KidOf.mk y_1.at_ y_3:Kid)])))))))∧(zz0=false→(Zj (Z6Y N (cd Try.f118 [1,1,1,1,0,1,0,0])) (Z21 e ml3_7 ml3_8_a 0 []) (xB 4 (Z6s N (cd Try.f118 [1,1,1,1,1]) Q)))))):=by kernel_rfl
 exact e_.mpr (by intro y_1 y_2 y_3;have hh:=h y_1 rfl y_2 (Z9 _) y_3 (Z9 _);exact ⟨fun c_8=> ⟨(hh.1 c_8).1,⟨(hh.1 c_8).2.1,(hh.1 c_8).2.2.1,(hh.1 c_8).2.2.2.1,⟨(hh.1 c_8).2.2.2.2.1,(hh.1 c_8).2.2.2.2.2⟩⟩⟩,fun c_8=> (hh.2 c_8)⟩)
abbrev Zl8(N:Nat)(e:Edit)(ml3_7:List WEdit)(ml3_8_a:List Kid)(x63_b:Int)(ml3_10_b:List Op)(N2:NT)(Q:QT):=AW (Z2 (YN N)) Try.f118 Z1l [1,1,1,1,0,1,0,0] (Z21 e ml3_7 ml3_8_a x63_b ml3_10_b) (xT N2 (xB 4 (SW (Z2 (YN N)) Try.f118 Z1l [1,1,1,1,1] Q)))
theorem ZmZ(N:Nat)(e:Edit)(ml3_7:List WEdit)(ml3_8_a:List Kid)(x63_b:Int)(ml3_10_b:List Op)(N2:NT)(Q:QT)(h:∀ y_1,y_1=(e.ops.getD x63_b.toNat Op.nil)→∀ y_2,y_2=y_1→∀ y_3,y_3=(YJ y_2)→((decide (x63_b < (e.ops.length:Int)))=true→((0:Int)≤x63_b∧x63_b < (e.ops.length:Int))∧((Z4I (y_2,()))∧(Z9V (y_2,()) < N)∧((ml3_10_b.length+([y_3]).length)*240≤140737488355328)∧((InR (x63_b+1))∧(N2 (Z21 e ml3_7 ml3_8_a (x63_b+1) (ml3_10_b++([y_3])))))))∧((decide (x63_b < (e.ops.length:Int)))=false→Q .ret (L2 [(2,.ptr (.loc 2) 0)] [(.loc 2,([ci e.kind]++enc .tree e.new++enc .tree e.old++[sU .wedit ml3_7 (.own (.l 2 7)),sU .kid ml3_8_a (.own (.l 2 8)),ci e.list,sU .op ml3_10_b (.own (.l 2 10))]))]))):
  Zl8 N e ml3_7 ml3_8_a x63_b ml3_10_b N2 Q:=by
 have e_:(Zl8 N e ml3_7 ml3_8_a x63_b ml3_10_b N2 Q)=(let y_1:=(e.ops.getD x63_b.toNat Op.nil);let y_2:=(ZlD y_1);let y_3:=(ZlD (YJ y_2));let zz0:=(decide ((x63_b:Int) < (e.ops.length:Int)));((zz0=true→((0:Int)≤x63_b∧x63_b < (e.ops.length:Int))∧((Z4I (y_2,()))∧(Z9V (y_2,()) < N)∧((ml3_10_b.length+([y_3]).length)*240≤140737488355328)∧((InR ((x63_b:Int)+1))∧(N2 (Z21 e ml3_7 ml3_8_a ((x63_b:Int)+1) (ml3_10_b++([y_3])))))))∧(zz0=false→(Q .ret (L2 [(2,.ptr (.loc 2) 0)] [(.loc 2,([ci e.kind]++enc .tree e.new++enc .tree e.old++[sU .wedit ml3_7 (.own (.l 2 7)),sU .kid ml3_8_a (.own (.l 2 8)),ci e.list,sU .op ml3_10_b (.own (.l 2 10))]))]))))):=by kernel_rfl
 exact e_.mpr (by intro y_1 y_2 y_3;have hh:=h y_1 rfl y_2 (J4 _) y_3 (J4 _);exact ⟨fun c_9=> ⟨(hh.1 c_9).1,⟨(hh.1 c_9).2.1,(hh.1 c_9).2.2.1,(hh.1 c_9).2.2.2.1,⟨(hh.1 c_9).2.2.2.2.1,(hh.1 c_9).2.2.2.2.2⟩⟩⟩,fun c_9=> (hh.2 c_9)⟩)
def ZsK(N:Nat)(e:Edit):Prop:=AW (Z2 (YN N)) Try.f118 Z1l [] (Zo (ZaO.can (e,())) []) (EQ Try.f118 (ZbD (e,())) [])
abbrev ZtG:Prop:=∀ (N:Nat) (e:Edit) (_:Unit),Z0y (e,())→Z4R (e,()) < N+1→ZsK N e
def Zkr(N:Nat):List (FuncId × Fs U):=(118,fs ZaO (fun a=> [Z0y a,Z4R a < N]) ZbD) ::(163,fs ZaJ (fun a=> [Z4I a,Z9V a < N]) Z4D) ::[]
def ZoH:Zg U:=lvl [([1,2],[1,2]),([1,2,4],[1,2]),([1,2,4,5],[1,2]),([1,2],[1,2]),([1,2,4,8],[1,2]),([1,2],[1,2]),([1,2,11],[1,2]),([1,2],[1,2]),([2],[2])]
abbrev Zxo(N:Nat)(o:Op)(Q:QT):=AW (Z2 (Zkr N)) Try.f163 ZoH [] (L2 [(0,.agg (enc .op o))] []) Q
theorem ZwD(N:Nat)(o:Op)(Q:QT)(h:∀ y_1,y_1=(o.e)→((o.kind==1)=true→Q .ret (L2 [(2,.ptr (.loc 2) 0)] [(.loc 2,([ci 2,ci o.n,sU .tree o.l .unk]++enc .edit o.e))]))∧((o.kind==1)=false→((o.kind==2)=true→Q .ret (L2 [(2,.ptr (.loc 2) 0)] [(.loc 2,([ci 1,ci o.n,sU .tree o.l .unk]++enc .edit o.e))]))∧((o.kind==2)=false→((o.kind==3)=true→(Z0y (y_1,()))∧(Z4R (y_1,()) < N)∧(Q .ret (L2 [(2,.ptr (.loc 2) 0)] [(.loc 2,([ci o.kind,ci o.n,sU .tree o.l .unk]++enc .edit (ZM y_1)))])))∧((o.kind==3)=false→Q .ret (L2 [(2,.ptr (.loc 2) 0)] [(.loc 2,(enc .op o))]))))):
  Zxo N o Q:=by
 have e_:(Zxo N o Q)=(let y_1:=(Jr o.e);(((o.kind==1)=true→(Q .ret (L2 [(2,.ptr (.loc 2) 0)] [(.loc 2,([ci 2,ci o.n,sU .tree o.l .unk]++enc .edit o.e))])))∧((o.kind==1)=false→(((o.kind==2)=true→(Q .ret (L2 [(2,.ptr (.loc 2) 0)] [(.loc 2,([ci 1,ci o.n,sU .tree o.l .unk]++enc .edit o.e))])))∧((o.kind==2)=false→(((o.kind==3)=true→(Z0y (y_1,()))∧(Z4R (y_1,()) < N)∧(Q .ret (L2 [(2,.ptr (.loc 2) 0)] [(.loc 2,([ci o.kind,ci o.n,sU .tree o.l .unk]++enc .edit (ZM y_1)))])))∧((o.kind==3)=false→(Q .ret (L2 [(2,.ptr (.loc 2) 0)] [(.loc 2,(enc .op o))]))))))))):=by kernel_rfl
 exact e_.mpr (by intro y_1;have hh:=h y_1 (Z9 _);exact ⟨fun c_10=> (hh.1 c_10),fun c_10=> ⟨fun c_11=> ((hh.2 c_10).1 c_11),fun c_11=> ⟨fun c_12=> ⟨(((hh.2 c_10).2 c_11).1 c_12).1,(((hh.2 c_10).2 c_11).1 c_12).2.1,(((hh.2 c_10).2 c_11).1 c_12).2.2⟩,fun c_12=> (((hh.2 c_10).2 c_11).2 c_12)⟩⟩⟩)
def Zsu(N:Nat)(o:Op):Prop:=AW (Z2 (Zkr N)) Try.f163 ZoH [] (Zo (ZaJ.can (o,())) []) (EQ Try.f163 (Z4D (o,())) [])
abbrev ZtB:Prop:=∀ (N:Nat) (o:Op) (_:Unit),Z4I (o,())→Z9V (o,()) < N+1→Zsu N o
theorem Zh1(ha:ZtG)(hb:ZtB):CT 118 Z7d∧CT 163 Zjc:=
 Z1d (μA:=Z4R) (μB:=Z9V) (l:=[]) Zr rfl trivial Z1l ZoH Try.func118 Try.func163 rfl rfl rfl rfl 1 1 (fun _=> rfl) (fun _=> rfl) (by decide) (by decide) (fun N ⟨e,_⟩=> ha N e ()) (fun N ⟨o,_⟩=> hb N o ())
end
end
end Go.AM.Ytpjenobkibfpcaa
namespace Go.AM.Ytpjenobkibfpcaa
open Go.AM Go.Proofs
theorem ZiR(k:Kid):Z5g k=YM k.e:=by cases k;rfl
theorem Zml(o:Op):Z8A o=if o.kind=3 then 1+YM o.e else 1:=by cases o;rfl
theorem Zmm(e:Edit):YM e=1+e.words.length+Z1c e.kids+Jt e.ops:=by cases e;rfl
mutual
theorem Z3B:∀ (e:Edit),1≤YM e∧YM e≤Z6 e
 | .mk k o n w ks l os=> by
  have h1:=Z6X ks
  have h2:=ZcD os
  simp only [YM,Z6]
  omega
theorem Z6X:∀ (ks:List (KidOf Edit)),0≤Z1c ks∧Z1c ks≤Zi ks
 | []=> by simp [Z1c,Zi]
 | k ::r=> by
  have h1:=Zhr k
  have h2:=Z6X r
  simp only [Z1c,Zi]
  omega
theorem Zhr:∀ (k:KidOf Edit),0≤Z5g k∧Z5g k≤ZO k
 | ⟨_,e⟩=> by
  have h1:=Z3B e
  simp only [Z5g,ZO]
  omega
theorem ZcD:∀ (os:List (OpOf Edit)),0≤Jt os∧Jt os≤Zc os+os.length
 | []=> by simp [Jt,Zc]
 | o ::r=> by
  have h1:=ZcE o
  have h2:=ZcD r
  simp only [Jt,Zc,List.length_cons]
  omega
theorem ZcE:∀ (o:OpOf Edit),1≤Z8A o∧Z8A o≤Zn o+1
 | ⟨k,_,_,e⟩=> by
  have h1:=Z3B e
  simp only [Z8A,Zn]
  split <;> omega
end
theorem Jl(o:Op):YJ o=if o.kind=1 then ⟨2,o.n,o.l,o.e⟩ else if o.kind=2 then ⟨1,o.n,o.l,o.e⟩ else if o.kind=3 then ⟨o.kind,o.n,o.l,ZM o.e⟩ else ⟨o.kind,o.n,o.l,o.e⟩:=by cases o;rfl
theorem Znf(e:Edit):ZM e= .mk e.kind e.new e.old (e.words.map Z4p) (Jy e.kids) e.list (J5 e.ops):=by cases e;rfl
theorem ZaU(k:Kid):Z19 k=⟨k.at_,ZM k.e⟩:=by cases k;rfl
theorem Zyu:ZtB:=by
 intro N o _ hp hN
 simp only [Z4I,Z9V] at hp hN
 rw [ZZ] at hp hN
 have hpos:=Z5N o.e
 refine ZwD _ _ _ ?_
 rintro y hy
 (simp only [vcS])
 refine ⟨fun h=> ?_,fun h=> ⟨fun h2=> ?_,fun h2=> ⟨fun h3=> ⟨by simp only [Z0y,hy];omega,by simp only [Z4R,hy];omega,?_⟩,fun h3=> ?_⟩⟩⟩
 ·have e:YJ o=⟨2,o.n,o.l,o.e⟩:=by rw [Jl,if_pos h]
  simp only [Z4D,e]
  (repeat' (first | exact trivial | exact rfl | apply And.intro))
 ·have e:YJ o=⟨1,o.n,o.l,o.e⟩:=by rw [Jl,if_neg h,if_pos h2]
  simp only [Z4D,e]
  (repeat' (first | exact trivial | exact rfl | apply And.intro))
 ·have e:YJ o=⟨o.kind,o.n,o.l,ZM o.e⟩:=by rw [Jl,if_neg h,if_neg h2,if_pos h3]
  simp only [Z4D,e]
  rw [hy]
  (repeat' (first | exact trivial | exact rfl | apply And.intro))
 ·have e:YJ o=⟨o.kind,o.n,o.l,o.e⟩:=by rw [Jl,if_neg h,if_neg h2,if_neg h3]
  simp only [Z4D,e]
  (repeat' (first | exact trivial | exact rfl | apply And.intro))
theorem Zyw:ZtG:=by
 intro N e _ hp hN
 simp only [Z0y,Z4R] at hp hN
 have h1:=YI e
 have h2:=Yw e.kids
 have h3:=Y9 e.ops
 have ha:=Znf e
 refine ZwT _ _ _ ?_
 refine Zb (ι:=Int × List WEdit) (fun s=> Z23 e s.1 s.2) (fun s=> 0≤s.1∧s.1≤e.words.length∧s.2.length=s.1∧s.2++(e.words.drop s.1.toNat).map Z4p=e.words.map Z4p) (fun s=> ((e.words.length:Int) - s.1).toNat) (0,[]) rfl ⟨by simp,by simp,by simp,by simp⟩ ?_
 rintro ⟨i,ws⟩ ⟨g1,g2,g3,g4⟩
 dsimp only at g1 g2 g3 g4
 refine Zn1 _ _ _ _ _ _ ?_
 (simp only [vcS])
 refine ⟨fun hi=> ?_,fun hi=> ?_⟩
 ·rw [Ys g1 hi (WEdit.mk 0 0 0 0)] at g4
  simp only [List.map_cons] at g4
  refine ⟨⟨g1,hi⟩,by simp;omega,by unfold InR;omega,(i+1,ws++[Z4p (e.words.getD i.toNat (WEdit.mk 0 0 0 0))]),rfl,⟨by dsimp only;omega,by dsimp only;omega,by simp;omega,?_⟩,by dsimp only;omega⟩
  simp only [List.append_assoc,List.cons_append,List.nil_append]
  exact g4
 ·rw [List.drop_of_length_le (by omega)] at g4
  simp only [List.map_nil,List.append_nil] at g4
  refine Zb (ι:=Int × List Kid) (fun s=> Z22 e ws s.1 s.2) (fun s=> 0≤s.1∧s.1≤e.kids.length∧s.2.length=s.1∧s.2++Jy (e.kids.drop s.1.toNat)=Jy e.kids) (fun s=> ((e.kids.length:Int) - s.1).toNat) (0,[]) rfl ⟨by simp,by simp,by simp,by simp⟩ ?_
  rintro ⟨j,ks⟩ ⟨f1,f2,f3,f4⟩
  dsimp only at f1 f2 f3 f4
  refine Zn0 _ _ _ _ _ _ _ ?_
  rintro y1 hy1 y2 hy2 y3 hy3
  (simp only [vcS])
  refine ⟨fun hj=> ?_,fun hj=> ?_⟩
  ·have hm:=JJ (Zh (l:=e.kids) (i:=j.toNat) (by omega) (KidOf.mk 0 Edit.nil))
   rw [Ys f1 hj (KidOf.mk 0 Edit.nil)] at f4
   rw [←hy1] at f4 hm
   simp only [Jy,ZaU] at f4
   rw [←hy2] at f4 hm
   rw [←hy3] at f4
   refine ⟨⟨f1,hj⟩,by simp only [Z0y];omega,by simp only [Z4R];omega,by simp;omega,by unfold InR;omega,(j+1,ks++[⟨y1.at_,y3⟩]),rfl,⟨by dsimp only;omega,by dsimp only;omega,by simp;omega,?_⟩,by dsimp only;omega⟩
   simp only [List.append_assoc,List.cons_append,List.nil_append]
   exact f4
  ·rw [List.drop_of_length_le (by omega)] at f4
   simp only [Jy,List.append_nil] at f4
   refine Zb (ι:=Int × List Op) (fun s=> Z21 e ws ks s.1 s.2) (fun s=> 0≤s.1∧s.1≤e.ops.length∧s.2.length=s.1∧s.2++J5 (e.ops.drop s.1.toNat)=J5 e.ops) (fun s=> ((e.ops.length:Int) - s.1).toNat) (0,[]) rfl ⟨by simp,by simp,by simp,by simp⟩ ?_
   rintro ⟨k,os⟩ ⟨d1,d2,d3,d4⟩
   dsimp only at d1 d2 d3 d4
   refine ZmZ _ _ _ _ _ _ _ _ ?_
   rintro z1 hz1 z2 hz2 z3 hz3
   (simp only [vcS])
   refine ⟨fun hj=> ?_,fun hj=> ?_⟩
   ·have hm:=Yv (Zh (l:=e.ops) (i:=k.toNat) (by omega) Op.nil)
    rw [Ys d1 hj Op.nil] at d4
    rw [←hz1,←hz2] at d4 hm
    simp only [J5] at d4
    rw [←hz3] at d4
    refine ⟨⟨d1,hj⟩,by simp only [Z4I];omega,by simp only [Z9V];omega,by simp;omega,by unfold InR;omega,(k+1,os++[z3]),rfl,⟨by dsimp only;omega,by dsimp only;omega,by simp;omega,?_⟩,by dsimp only;omega⟩
    simp only [List.append_assoc,List.cons_append,List.nil_append]
    exact d4
   ·rw [List.drop_of_length_le (by omega)] at d4
    simp only [J5,List.append_nil] at d4
    rw [g4,f4,d4]
    simp only [ZbD,ha]
    (repeat' (first | exact trivial | exact rfl | apply And.intro))
theorem Zpx:Contract Try.prog cfg 118 Z7d∧Contract Try.prog cfg 163 Zjc:=Zh1 Zyw Zyu
end Go.AM.Ytpjenobkibfpcaa
namespace Go.AM.Ytpjenobkibfpcaa
open Go.AM Go.Proofs
theorem YX:∀ (l:List Op) (n:Int),Z0T l n=l++[⟨0,n,[],Edit.nil⟩]∨∃ a o,l=a++[o]∧o.kind=0∧Z0T l n=a++[⟨o.kind,o.n+n,o.l,o.e⟩]
 | [],n=> Or.inl rfl
 | [o],n=> by
  by_cases h:o.kind=0
  ·exact Or.inr ⟨[],o,rfl,h,by simp [Z0T,h]⟩
  ·exact Or.inl (by simp [Z0T,h])
 | o ::p ::r,n=> by
  rcases YX (p ::r) n with h | ⟨a,q,h1,h2,h3⟩
  ·exact Or.inl (by simp only [Z0T,h,List.cons_append])
  ·exact Or.inr ⟨o ::a,q,by rw [h1];rfl,h2,by simp only [Z0T,h3,List.cons_append]⟩
def W0:Wst:=⟨[],[],[]⟩
theorem Z9S(l:List Tree):Z5 (Z5 l)=Z5 l:=by
 simp only [Z5,List.map_map]
 congr 1
 funext t
 exact Z2m t
theorem J2(a b:List Tree):Z5 (a++b)=Z5 a++Z5 b:=by simp [Z5]
end Go.AM.Ytpjenobkibfpcaa
