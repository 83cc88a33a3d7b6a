import Derived.Test.YtpjenobkibfpcaaKB20b
import Derived.Test.YtpjenobkibfpcaaCmZ
import Derived.Test.YtpjenobkibfpcaaKL07
import Derived.Test.YtpjenobkibfpcaaKD20
set_option linter.unusedSimpArgs false
set_option linter.unusedVariables false
namespace Go.AM.Ytpjenobkibfpcaa
open Go.AM Go.Proofs
theorem Z1X(e:Edit)(d:Int):Z4 e d=
  if d=0\/e.kind < 0\/3 < e.kind then false
  else if (e.kind≠1/\¬(ZJ e.old=true/\ZJ e.new=true))\/(e.kind≠2/\¬(e.words.length=0/\e.kids.length=0))\/(e.kind≠3/\(e.list≠0\/e.ops.length≠0)) then false
  else if e.kind=1 then Z9 e.old (dT d) && Z9 e.new (dT d) && decide (e.old.kind≠10/\e.new.kind≠10)
  else Zk (-1) e.words && Zp (-1) e.kids (d - 1) && decide (¬(e.kind=3/\(e.list < 2\/9 < e.list))) && Zs e.list e.ops (d - 1) && decide (Jy e.ops 0 < 1048576/\Jx e.ops 0 < 1048576):=by
 obtain ⟨k,o,nw,w,ks,l,os⟩:=e;rfl
theorem Z3g(last:Int)(k:Kid)(d:Int):YI last k d=(decide (last < k.at_/\k.at_<=65534/\k.e.kind≠0) && Z4 k.e d):=by cases k;rfl
theorem YW(list:Int)(o:Op)(d:Int):Zb list o d=
  if o.kind=0 then decide (1<=o.n/\o.n<=1048576/\o.l.length=0) && Z0f o.e
  else if o.n≠0\/o.kind < 0\/3 < o.kind then false
  else if o.kind < 3 then YM (dT d) list o.l && decide (0 < o.l.length) && Z0f o.e
  else decide (o.l.length=0/\o.e.kind≠0/\7 < list) && Z4 o.e d && decide (list=8\/o.e.kind=2\/o.e.kind=1/\o.e.old.kind=1/\o.e.new.kind=1):=by
 cases o;rfl
theorem Z40{list:Int}{o:Op}{d:Int}(h:Zb list o d=true):0<=o.n/\o.n<=1048576:=by
 rw [YW] at h
 split at h
 ·simp only [Q1,decide_eq_true_eq] at h;omega
 ·split at h
  ·cases h
  ·rename_i h1;omega
theorem rightOs_mem{list d:Int}:∀ {os:List Op} {o:Op},Zs list os d=true->o∈os->Zb list o d=true
 | x ::r,o,h,hm=> by
  simp only [Zs,Q1] at h
  rcases Qc.1 hm with rfl | hm
  ·exact h.1
  ·exact rightOs_mem h.2 hm
theorem Z7G{d:Int}:∀ {ks:List Kid} {last:Int} {k:Kid},Zp last ks d=true->k∈ks->Z4 k.e d=true/\k.e.kind≠0
 | x ::r,last,k,h,hm=> by
  simp only [Zp,Q1] at h
  rcases Qc.1 hm with rfl | hm
  ·have:=h.1;rw [Z3g] at this;simp only [Q1,decide_eq_true_eq] at this;exact ⟨this.2,this.1.2.2⟩
  ·exact Z7G h.2 hm
theorem Z2y{e:Edit}(h:Yk e):InR e.kind/\rng e.old/\rng e.new/\(∀ x∈e.words,ZeL x)/\InR e.list/\JB e.kids/\JK e.ops:=by
 obtain ⟨k,o,n,w,ks,l,os⟩:=e;exact h
theorem b23:ZuE:=by
 intro N e d _ hp hN
 simp only [Z7L,Zcb] at hp hN
 obtain ⟨⟨hm,hr⟩,hd0,hd1⟩:=hp
 obtain ⟨ik,ro,rn,rw',il,rk,ros⟩:=Z2y hr
 have hme:=ZZ e
 have hkl:=Yg e.kids
 have hol:=Yo e.ops
 have hat:=Z1X e d
 rw [Zhz hd0] at hat
 refine Zvk N e d _ ?_;(try simp only [vcT,forall_eq])
 (simp only [vcS]);(try simp only [vcT]);(try simp only [vcU])
 try (simp only [Tree.eta,Edit.eta,Tree.kind_mk,Tree.words_mk,Tree.kids_mk])
 refine ⟨fun hc=> Z0 rfl (by rw [hat,if_pos (by omega)]),fun hc=> ?_⟩
 rw [if_neg (by omega)] at hat
 refine ⟨fun _=> by simp only [Z3n];omega,fun _=> by simp only [Z3n];omega,fun _=> by unfold InR;omega,fun hf=> Z0 rfl ?_,fun hf=> ⟨fun h1=> ⟨⟨by dsimp only;omega,ro,by dsimp only;omega,by dsimp only;omega⟩,fun _=> ⟨by dsimp only;omega,rn,by dsimp only;omega,by dsimp only;omega⟩,Z0 rfl ?_⟩,fun h1=> ?_⟩⟩
 ·rw [hat,if_pos]
  rcases hf with (hf | hf) | hf
  ·left
   refine ⟨hf.1,fun h=> ?_⟩
   rcases hf.2 with h2 | h2
   ·rw [h.1] at h2;cases h2
   ·rw [h.2] at h2;cases h2
  ·right;left;omega
  ·right;right;omega
 ·rw [hat,if_neg,if_pos h1,Qd]
  ·(simp only [vcS])
   constructor
   ·rintro ⟨⟨⟨h2,h3⟩,h4⟩,h5⟩;exact ⟨⟨h2,h3⟩,h4,h5⟩
   ·rintro ⟨⟨h2,h3⟩,h4,h5⟩;exact ⟨⟨⟨h2,h3⟩,h4⟩,h5⟩
  ·intro h
   rcases h with h | h | h
   ·exact h.1 h1
   ·omega
   ·omega
 ·rw [if_neg,if_neg h1] at hat
  ·refine Za (ι:=Int × Int) (fun p=> Z6z e d p.1 p.2) (fun p=> 0<=p.2/\p.2<=e.words.length/\Zk p.1 (e.words.drop p.2.toNat)=Zk (-1) e.words) (fun p=> ((e.words.length:Int) - p.2).toNat) (-1,0) rfl ⟨by dsimp only;omega,by dsimp only;omega,by simp⟩ ?_
   rintro ⟨last,i⟩ ⟨h2,h3,h4⟩
   dsimp only at*
   refine ZnJ N e d last i _ _ ?_;(try simp only [vcT,forall_eq])
   (simp only [vcS]);(try simp only [vcT]);(try simp only [vcU])
   try (simp only [Tree.eta,Edit.eta,Tree.kind_mk,Tree.words_mk,Tree.kids_mk])
   refine ⟨fun hi=> ?_,fun hi=> ?_⟩
   ·have hmem:=Zl (l:=e.words) (i:=i.toNat) (by omega) (WEdit.mk 0 0 0 0)
    have hrw:=rw' _ hmem
    rw [Yr h2 hi (WEdit.mk 0 0 0 0)] at h4
    simp only [Zk] at h4
    generalize e.words.getD i.toNat (WEdit.mk 0 0 0 0)=w at*
    obtain ⟨_,hmk,hwo,hwn⟩:=hrw
    refine ⟨⟨h2,hi⟩,fun _=> ⟨hwo,hmk⟩,fun _=> ⟨hwn,hmk⟩,fun hq=> Z0 rfl ?_,fun hq=> ⟨by unfold InR;omega,(_,i+1),rfl,⟨by dsimp only;omega,by dsimp only;omega,?_⟩,by dsimp only;omega⟩⟩
    ·rw [hat,<-h4]
     rcases hq with (hq | hq) | hq
     ·rw [decide_eq_false (by omega)];try rfl
     ·rw [hq];simp
     ·rw [hq];simp
    ·dsimp only
     rw [<-h4,decide_eq_true (by omega),hq.1.2,hq.2];try rfl
   ·have hw:Zk (-1) e.words=true:=by
     rw [<-h4,Qb (by omega)];try rfl
    rw [hw,QM] at hat
    refine Za (ι:=Int × Int) (fun p=> Z6y e d p.1 p.2) (fun p=> 0<=p.2/\p.2<=e.kids.length/\Zp p.1 (e.kids.drop p.2.toNat) (d - 1)=Zp (-1) e.kids (d - 1)) (fun p=> ((e.kids.length:Int) - p.2).toNat) (-1,0) rfl ⟨by dsimp only;omega,by dsimp only;omega,by simp⟩ ?_
    rintro ⟨last,i⟩ ⟨h2,h3,h4⟩
    dsimp only at*
    refine ZnI N e d last i _ _ ?_;(try simp only [vcT,forall_eq])
    (simp only [vcS]);(try simp only [vcT]);(try simp only [vcU])
    try (simp only [Tree.eta,Edit.eta,Tree.kind_mk,Tree.words_mk,Tree.kids_mk])
    refine ⟨fun hi=> ?_,fun hi=> ?_⟩
    ·have hmem:=Zl (l:=e.kids) (i:=i.toNat) (by omega) (KidOf.mk 0 Edit.nil)
     have hrw:=Z1W rk hmem
     have hmm:=J3 hmem
     rw [Yr h2 hi (KidOf.mk 0 Edit.nil)] at h4
     simp only [Zp,Z3g] at h4
     generalize e.kids.getD i.toNat (KidOf.mk 0 Edit.nil)=w at*
     refine ⟨⟨h2,hi⟩,fun _=> by unfold InR;omega,fun _=> ⟨⟨by dsimp only;omega,hrw.2⟩,by dsimp only;omega,by dsimp only;omega⟩,fun _=> by simp only [Zcb];omega,fun hq=> Z0 rfl ?_,fun hq=> ⟨by unfold InR;omega,(_,i+1),rfl,⟨by dsimp only;omega,by dsimp only;omega,?_⟩,by dsimp only;omega⟩⟩
     ·rw [hat,<-h4]
      rcases hq with hq | hq
      ·rw [decide_eq_false (by omega)];try rfl
      ·rw [hq];simp
     ·dsimp only
      rw [<-h4,decide_eq_true (by omega),hq.2];try rfl
    ·have hw:Zp (-1) e.kids (d - 1)=true:=by
      rw [<-h4,Qb (by omega)];try rfl
     rw [hw,QM] at hat
     refine ⟨fun hq=> Z0 rfl (by rw [hat,decide_eq_false (by omega)];rfl),fun hq=> ?_⟩
     rw [decide_eq_true (by omega),QM] at hat
     refine Za (ι:=Int) (fun p=> Z6x e d p) (fun p=> 0<=p/\p<=e.ops.length/\Zs e.list (e.ops.drop p.toNat) (d - 1)=Zs e.list e.ops (d - 1)) (fun p=> ((e.ops.length:Int) - p).toNat) 0 rfl ⟨by omega,by omega,by simp⟩ ?_
     rintro j ⟨h5,h6,h7⟩
     refine ZnH N e d j _ _ ?_;(try simp only [vcT,forall_eq])
     (simp only [vcS]);(try simp only [vcT]);(try simp only [vcU])
     try (simp only [Tree.eta,Edit.eta,Tree.kind_mk,Tree.words_mk,Tree.kids_mk])
     refine ⟨fun hj=> ?_,fun hj=> ?_⟩
     ·have hmem:=Zl (l:=e.ops) (i:=j.toNat) (by omega) Op.nil
      have hro:=Z1V ros hmem
      have hmm:=Yn hmem
      rw [Yr h5 hj Op.nil] at h7
      simp only [Zs] at h7
      generalize e.ops.getD j.toNat Op.nil=o at*
      refine ⟨⟨h5,hj⟩,by unfold InR;omega,⟨⟨by show Yp o<=20000000000;omega,hro,il⟩,by dsimp only;omega,by dsimp only;omega⟩,?_,fun hq=> Z0 rfl ?_,fun hq=> ⟨by unfold InR;omega,j+1,rfl,⟨by omega,by omega,?_⟩,by omega⟩⟩
      ·show 2*Yp o+1 < N
       omega
      ·have hq':Zb e.list o (d - 1)=false:=hq
       rw [hat,<-h7,hq'];try rfl
      ·have hq':Zb e.list o (d - 1)=true:=hq
       rw [<-h7,hq'];try rfl
     ·have hw:Zs e.list e.ops (d - 1)=true:=by
       rw [<-h7,Qb (by omega)];try rfl
      rw [hw,QM] at hat
      refine ⟨⟨hm,fun o ho=> Z40 (rightOs_mem hw ho)⟩,Z0 rfl ?_⟩
      rw [hat,Qd]
      (simp only [vcS])
  ·intro h
   rcases h with h | h | h
   ·rcases hf.1.1 with h2 | h2
    ·exact h1 h2
    ·exact h.2 h2
   ·omega
   ·omega
theorem Zaz{l:List Tree}{i:Int}(h0:0<=i)(h:i < l.length):List.drop i.toNat (l.take (i+1).toNat)=[l.getD i.toNat Tree.nil]:=by
 rw [List.drop_take,show (i+1).toNat - i.toNat=1 by omega,Yr h0 h Tree.nil]
 try rfl
theorem b64:ZuC:=by
 intro N list o d _ hp hN
 simp only [Zb0,ZiM] at hp hN
 obtain ⟨⟨hm,hr,hil⟩,hd0,hd1⟩:=hp
 obtain ⟨ik,inn,rl,re⟩:=Z8s hr
 rw [Jn] at hm hN
 have hll:=Zw o.l
 have hep:=Z22 o.e
 have hat:=YW list o d
 rw [Zhz hd0,Z6O] at hat
 refine Zv0 N list o d _ ?_;(try simp only [vcT,forall_eq])
 (simp only [vcS]);(try simp only [vcT]);(try simp only [vcU])
 try (simp only [Tree.eta,Edit.eta,Tree.kind_mk,Tree.words_mk,Tree.kids_mk])
 refine ⟨fun h0=> ⟨fun _=> by simp only [Z52];omega,Z0 rfl ?_⟩,fun h0=> ⟨fun hc=> Z0 rfl ?_,fun hc=> ⟨fun h3=> ?_,fun h3=> ⟨fun _=> ⟨⟨by dsimp only;omega,re⟩,hd0,hd1⟩,fun _=> by simp only [Zcb];omega,fun hq=> Z0 rfl ?_,fun hq=> Z0 rfl ?_⟩⟩⟩⟩
 ·rw [hat,if_pos h0,Qd]
  (simp only [vcS])
  constructor
  ·rintro ⟨h1,h2⟩;exact ⟨by omega,h2⟩
  ·rintro ⟨h1,h2⟩;exact ⟨by omega,h2⟩
 ·rw [hat,if_neg h0,if_pos (by omega)]
 ·rw [if_neg h0,if_neg (by omega),if_pos h3] at hat
  refine Za (ι:=Int) (fun p=> Z6s list o d p) (fun p=> 0<=p/\p<=o.l.length/\YC list (o.l.drop p.toNat)=YC list o.l) (fun p=> ((o.l.length:Int) - p).toNat) 0 rfl ⟨by omega,by omega,by simp⟩ ?_
  rintro i ⟨h4,h5,h6⟩
  refine ZnA N list o d i _ _ ?_;(try simp only [vcT,forall_eq])
  (simp only [vcS]);(try simp only [vcT]);(try simp only [vcU])
  try (simp only [Tree.eta,Edit.eta,Tree.kind_mk,Tree.words_mk,Tree.kids_mk])
  refine ⟨fun hi=> ?_,fun hi=> ?_⟩
  ·have hmem:=Zl (l:=o.l) (i:=i.toNat) (by omega) Tree.nil
   have hrt:=JL rl hmem
   have hmt:=JE hmem
   rw [Zaz h4 hi]
   rw [Yr h4 hi Tree.nil] at h6
   simp only [YC] at h6
   generalize o.l.getD i.toNat Tree.nil=t at*
   refine ⟨by unfold InR;omega,by omega,⟨by simp only [Zm,Ze,List.length_nil];omega,⟨hil,fun x hx=> (by cases hx),hrt,trivial⟩,by dsimp only;omega,by dsimp only;omega⟩,fun hq=> Z0 rfl ?_,fun hq=> ⟨by unfold InR;omega,i+1,rfl,⟨by omega,by omega,?_⟩,by omega⟩⟩
   ·rw [hat,<-h6,hq];try rfl
   ·rw [<-h6,hq];try rfl
  ·have hw:YC list o.l=true:=by
    rw [<-h6,Qb (by omega)];try rfl
   rw [hw,QM] at hat
   refine ⟨fun _=> by simp only [Z52];omega,Z0 rfl ?_⟩
   rw [hat,Qd]
   (simp only [vcS])
   simp only [Int.natCast_pos]
 ·rw [hat,if_neg h0,if_neg (by omega),if_neg h3]
  rcases hq with hq | hq
  ·have:¬(o.l.length=0/\o.e.kind≠0/\7 < list):=by omega
   rw [decide_eq_false this];try rfl
  ·rw [hq];simp
 ·rw [hat,if_neg h0,if_neg (by omega),if_neg h3,hq.2]
  have:o.l.length=0/\o.e.kind≠0/\7 < list:=by omega
  rw [decide_eq_true this,Qd]
  (simp only [vcS])
  simp only [true_and,Xp,decide_eq_true_eq,and_assoc,or_assoc]
theorem ZrL:Contract Try.prog cfg 23 Z9a/\Contract Try.prog cfg 64 Zke:=ZiV c62 c63 Zs7 c37 c65 b23 b64
theorem ZiX(e:Edit):JR e=(decide (Jy e.ops 0<=2000/\Jx e.ops 0<=2000) && Z2K e.kids && Z4c e.ops):=by
 obtain ⟨k,o,nw,w,ks,l,os⟩:=e;rfl
theorem ZdS(k:Kid):ZdT k=JR k.e:=by cases k;rfl
theorem Zfl(o:Op):Zh7 o=JR o.e:=by cases o;rfl
theorem Z6X{e:Edit}{d:Int}(h:Z4 e d=true):(∀ k∈e.kids,Z4 k.e (d - 1)=true/\k.e.kind≠0)/\∀ o∈e.ops,Zb e.list o (d - 1)=true:=by
 rw [Z1X] at h
 split at h
 ·cases h
 ·split at h
  ·cases h
  ·rename_i h1 h2
   split at h
   ·rename_i h3
    have hk:e.kids=[]:=Q3 (by omega)
    have ho:e.ops=[]:=Q3 (by omega)
    rw [hk,ho]
    exact ⟨fun k hk=> (by cases hk),fun o ho=> (by cases ho)⟩
   ·simp only [Q1] at h
    exact ⟨fun k hk=> Z7G h.1.1.1.2 hk,fun o ho=> rightOs_mem h.1.2 ho⟩
theorem Zkk{e:Edit}(h:Z0f e=true):e.kind=0/\ZJ e.old=true/\ZJ e.new=true/\e.words=[]/\e.kids=[]/\e.ops=[]/\e.list=0:=by
 simp only [Z0f,Q1,decide_eq_true_eq] at h
 obtain ⟨⟨⟨h1,h2⟩,h3⟩,h4,h5,h6,h7⟩:=h
 exact ⟨h1,h2,h3,Q3 h4,Q3 h5,Q3 h6,h7⟩
theorem Z7C{e:Edit}(h:Z0f e=true)(d:Int)(hd:d≠0):Z4 e d=true:=by
 obtain ⟨h1,h2,h3,h4,h5,h6,h7⟩:=Zkk h
 rw [Z1X,h1,h2,h3,h4,h5,h6,h7,if_neg (by omega),if_neg (by simp),if_neg (by omega)]
 simp [Zk,Zp,Zs,Jy,Jx]
theorem Zas{list:Int}{o:Op}{d:Int}(h:Zb list o d=true):∃ d',Z4 o.e d'=true:=by
 rw [YW] at h
 split at h
 ·simp only [Q1] at h
  exact ⟨1,Z7C h.2 1 (by omega)⟩
 ·split at h
  ·cases h
  ·split at h
   ·simp only [Q1] at h
    exact ⟨1,Z7C h.2 1 (by omega)⟩
   ·simp only [Q1] at h
    exact ⟨d,h.1.2⟩
theorem c55:Contract Try.prog cfg 55 Z91:=by
 refine ZqZ c65 ?_
 intro N e _ hp hN
 simp only [Z9v,ZdI] at hp hN
 obtain ⟨⟨hm,hr⟩,dd,hrt⟩:=hp
 obtain ⟨ik,ro,rn,rw',il,rk,ros⟩:=Z2y hr
 have hme:=ZZ e
 have hkl:=Yg e.kids
 have hol:=Yo e.ops
 have hat:=ZiX e
 obtain ⟨hrk,hro⟩:=Z6X hrt
 refine Zv4 N e _ ?_;(try simp only [vcT,forall_eq])
 (simp only [vcS]);(try simp only [vcT]);(try simp only [vcU])
 try (simp only [Tree.eta,Edit.eta,Tree.kind_mk,Tree.words_mk,Tree.kids_mk])
 refine ⟨⟨hm,fun o ho=> Z40 (hro o ho)⟩,fun hq=> Z0 rfl (by rw [hat,decide_eq_false (by omega)];rfl),fun hq=> ?_⟩
 rw [decide_eq_true (by omega),QM] at hat
 refine Za (ι:=Int) (fun p=> Z6u e p) (fun p=> 0<=p/\p<=e.kids.length/\Z2K (e.kids.drop p.toNat)=Z2K e.kids) (fun p=> ((e.kids.length:Int) - p).toNat) 0 rfl ⟨by omega,by omega,by simp⟩ ?_
 rintro i ⟨h4,h5,h6⟩
 refine ZnD N e i _ _ ?_;(try simp only [vcT,forall_eq])
 (simp only [vcS]);(try simp only [vcT]);(try simp only [vcU])
 try (simp only [Tree.eta,Edit.eta,Tree.kind_mk,Tree.words_mk,Tree.kids_mk])
 refine ⟨fun hi=> ?_,fun hi=> ?_⟩
 ·have hmem:=Zl (l:=e.kids) (i:=i.toNat) (by omega) (KidOf.mk 0 Edit.nil)
  have hrr:=Z1W rk hmem
  have hmm:=J3 hmem
  have hri:=hrk _ hmem
  rw [Yr h4 hi (KidOf.mk 0 Edit.nil)] at h6
  simp only [Z2K,ZdS] at h6
  generalize e.kids.getD i.toNat (KidOf.mk 0 Edit.nil)=k at*
  refine ⟨⟨h4,hi⟩,⟨⟨by dsimp only;omega,hrr.2⟩,_,hri.1⟩,by simp only [ZdI];omega,fun hq=> Z0 rfl (by rw [hat,<-h6,hq];rfl),fun hq=> ⟨by unfold InR;omega,i+1,rfl,⟨by omega,by omega,by rw [<-h6,hq];rfl⟩,by omega⟩⟩
 ·have hw:Z2K e.kids=true:=by
   rw [<-h6,Qb (by omega)];try rfl
  rw [hw,QM] at hat
  refine Za (ι:=Int) (fun p=> Z6t e p) (fun p=> 0<=p/\p<=e.ops.length/\Z4c (e.ops.drop p.toNat)=Z4c e.ops) (fun p=> ((e.ops.length:Int) - p).toNat) 0 rfl ⟨by omega,by omega,by simp⟩ ?_
  rintro j ⟨g4,g5,g6⟩
  refine ZnC N e j _ _ ?_;(try simp only [vcT,forall_eq])
  (simp only [vcS]);(try simp only [vcT]);(try simp only [vcU])
  try (simp only [Tree.eta,Edit.eta,Tree.kind_mk,Tree.words_mk,Tree.kids_mk])
  refine ⟨fun hi=> ?_,fun hi=> ?_⟩
  ·have hmem:=Zl (l:=e.ops) (i:=j.toNat) (by omega) Op.nil
   have hrr:=Z8s (Z1V ros hmem)
   have hmm:=Yn hmem
   have hri:=Zas (hro _ hmem)
   rw [Jn] at hmm
   rw [Yr g4 hi Op.nil] at g6
   simp only [Z4c,Zfl] at g6
   generalize e.ops.getD j.toNat Op.nil=o at*
   refine ⟨⟨g4,hi⟩,⟨⟨by dsimp only;omega,hrr.2.2.2⟩,hri⟩,by simp only [ZdI];omega,fun hq=> Z0 rfl (by rw [hat,<-g6,hq];rfl),fun hq=> ⟨by unfold InR;omega,j+1,rfl,⟨by omega,by omega,by rw [<-g6,hq];rfl⟩,by omega⟩⟩
  ·refine Z0 rfl ?_
   rw [hat,<-g6,Qb (by omega)];try rfl
end Go.AM.Ytpjenobkibfpcaa
namespace Go.AM
noncomputable def eqX{α:Type}(a b:α):Bool:=@decide (a=b) (Classical.propDecidable _)
theorem Z6G{α:Type}{a b:α}:eqX a b=true↔a=b:=by unfold eqX;exact @decide_eq_true_iff _ (Classical.propDecidable _)
@[simp] theorem Zu6 {α:Type} (a:α):eqX a a=true:=Z6G.2 rfl
def Zqz(o:Op):Prop:=
 (o.kind=0/\o.l=[]/\(1<=o.n/\o.n<=1048576)/\o.e=Edit.nil)\/((o.kind=1\/o.kind=2)/\o.n=0/\o.l≠[]/\o.e=Edit.nil)\/(o.kind=3/\o.n=0/\o.l=[])
end Go.AM
namespace Go.AM.Ytpjenobkibfpcaa
open Go.AM Go.Proofs
theorem Z9I(o:Op):Zt o=if o.kind=3 then 1 else o.n+o.l.length:=rfl
theorem Z2J(n:Nat):∀ (l:List Tree),Ze (l.drop n)<=Ze l:=by
 induction n with
 | zero=> intro l;simp
 | succ n ih=>
  intro l
  cases l with
  | nil=> simp
  | cons t r=> simp only [List.drop_succ_cons,Ze];have:=ih r;omega
theorem Zfh(n:Nat):∀ (l:List Tree),Ze (l.take n)<=Ze l:=by
 induction n with
 | zero=> intro l;simp [Ze]
 | succ n ih=>
  intro l
  cases l with
  | nil=> simp
  | cons t r=> simp only [List.take_succ_cons,Ze];have:=ih r;omega
theorem ZiD{o:Op}(h:Zqz o):1<=Zt o:=by
 have:=Z9I o
 unfold Zqz at h
 have hl:o.l≠[]->0 < o.l.length:=List.length_pos_iff.2
 rcases h with ⟨h1,h2,h3,h4⟩ | ⟨h1,h2,h3,h4⟩ | ⟨h1,h2,h3⟩
 ·rw [h2] at this;simp at this;split at this <;> omega
 ·have:=hl h3;split at* <;> omega
 ·rw [if_pos h1] at this;omega
theorem Zmp{α:Type}{a b:α}(h:¬a=b):eqX a b=false:=by rw [<-XB,Z6G];exact h
end Go.AM.Ytpjenobkibfpcaa
namespace Go.AM
def Z4G(list:Int)(e:Edit):Bool:=decide (e.kind=0\/(list=9/\e.kind=2/\e.words.length=0/\e.kids.length=0))
def Z5(l:List Tree):List Tree:=l.map Z3
def Yt(w:WEdit):WEdit:=⟨w.at_,w.mask,w.new,w.old⟩
mutual
def ZF:Edit->Edit
 | .mk k o n w ks l os=> .mk k n o (w.map Yt) (ZS ks) l (ZW os)
def ZS:List (KidOf Edit)->List (KidOf Edit)
 | []=> []
 | k ::r=> Ys k ::ZS r
def Ys:KidOf Edit->KidOf Edit
 | ⟨a,e⟩=> ⟨a,ZF e⟩
def ZW:List (OpOf Edit)->List (OpOf Edit)
 | []=> []
 | o ::r=> ZX o ::ZW r
def ZX:OpOf Edit->OpOf Edit
 | ⟨k,n,l,e⟩=> if k=1 then ⟨2,n,l,e⟩ else if k=2 then ⟨1,n,l,e⟩ else if k=3 then ⟨k,n,l,ZF e⟩ else ⟨k,n,l,e⟩
end
end Go.AM
namespace Go.AM
def Y4{α:Type}(z:α)(l:List α)(i:Nat)(x:α):List α:=(l++List.replicate (i+1 - l.length) z).set i x
def wsD(tw:List Int):List WEdit->List Int->Option (List Int)
 | [],out=> some out
 | w ::r,out=> if mix 0 (tw.getD w.at_.toNat 0) w.mask=w.old then wsD tw r (Y4 0 out w.at_.toNat (mix (tw.getD w.at_.toNat 0) w.new w.mask)) else none
noncomputable def YJ(l rest:List Tree):Bool:=decide (l.length<=rest.length) && eqX (Z5 l) (Z5 (rest.take l.length))
def Z2Y(r:Option (List Tree × List Tree)):Option (List Tree):=r.bind fun x=> if x.2.length=0 then some x.1 else none
def nrD(r:Bool)(t:Tree):Tree:=if r then Z3 t else t
mutual
noncomputable def doE(r:Bool):Edit->Tree->Option Tree
 | .mk k o n w ks l os,t=>
  (if k=0 then some t
  else if k=1 then (if Yf (Z3 o) (Z3 t)=true then some n else none)
  else if k=2 then (if t.kind=1 then (wsD t.words w t.words).bind fun a=> (Je r t.kids ks t.kids).map fun b=> .mk 1 a b else none)
  else if k=3 then (if t.kind=l then (Z2Y (ZH r os t.kids [])).map fun b=> .mk l [] b else none)
  else none).map (nrD r)
noncomputable def Je(r:Bool)(tk:List Tree):List (KidOf Edit)->List Tree->Option (List Tree)
 | [],out=> some out
 | k ::s,out=> (Z0o r tk k).bind fun u=> Je r tk s (Y4 Tree.nil out k.at_.toNat u)
noncomputable def Z0o(r:Bool)(tk:List Tree):KidOf Edit->Option Tree
 | ⟨a,e⟩=> doE r e (tk.getD a.toNat Tree.nil)
noncomputable def ZH(r:Bool):List (OpOf Edit)->List Tree->List Tree->Option (List Tree × List Tree)
 | [],rest,out=> some (out,rest)
 | o ::s,rest,out=> (Z0n r o rest out).bind fun x=> ZH r s x.2 x.1
noncomputable def Z0n(r:Bool):OpOf Edit->List Tree->List Tree->Option (List Tree × List Tree)
 | ⟨k,n,l,e⟩,rest,out=>
  if k=0 then (if n.toNat<=rest.length then some (out++rest.take n.toNat,rest.drop n.toNat) else none)
  else if k=1 then (if YJ l rest=true then some (out,rest.drop l.length) else none)
  else if k=2 then some (out++l,rest)
  else if rest.length=0 then none else (doE r e (rest.getD 0 Tree.nil)).map fun u=> (out++[u],rest.drop 1)
end
theorem Z3N(r:Bool)(e:Edit)(t:Tree):doE r e t=(if e.kind=0 then some t
  else if e.kind=1 then (if Yf (Z3 e.old) (Z3 t)=true then some e.new else none)
  else if e.kind=2 then (if t.kind=1 then (wsD t.words e.words t.words).bind fun a=> (Je r t.kids e.kids t.kids).map fun b=> .mk 1 a b else none)
  else if e.kind=3 then (if t.kind=e.list then (Z2Y (ZH r e.ops t.kids [])).map fun b=> .mk e.list [] b else none)
  else none).map (nrD r):=by cases e;rfl
noncomputable def Zau(r:Bool)(e:Edit)(t:Tree):Option Tree:=
 if e.kind=0 then some t
 else if e.kind=1 then (if Yf (Z3 e.old) (Z3 t)=true then some e.new else none)
 else if e.kind=2 then (if t.kind=1 then (wsD t.words e.words t.words).bind fun a=> (Je r t.kids e.kids t.kids).map fun b=> .mk 1 a b else none)
 else if e.kind=3 then (if t.kind=e.list then (Z2Y (ZH r e.ops t.kids [])).map fun b=> .mk e.list [] b else none)
 else none
theorem Z2O(r:Bool)(e:Edit)(t:Tree):doE r e t=(Zau r e t).map (nrD r):=Z3N r e t
theorem Zab(r:Bool)(tk:List Tree)(k:Kid):Z0o r tk k=doE r k.e (tk.getD k.at_.toNat Tree.nil):=by cases k;rfl
theorem YG(r:Bool)(o:Op)(rest out:List Tree):Z0n r o rest out=if o.kind=0 then (if o.n.toNat<=rest.length then some (out++rest.take o.n.toNat,rest.drop o.n.toNat) else none)
  else if o.kind=1 then (if YJ o.l rest=true then some (out,rest.drop o.l.length) else none)
  else if o.kind=2 then some (out++o.l,rest)
  else if rest.length=0 then none else (doE r o.e (rest.getD 0 Tree.nil)).map fun u=> (out++[u],rest.drop 1):=by cases o;rfl
noncomputable def Z8l(r:Bool)(e:Edit)(t:Tree):Option Tree:=
 if t.kind=1 then (wsD t.words e.words t.words).bind fun a=> (Je r t.kids e.kids t.kids).map fun b=> .mk 1 a b else none
noncomputable def Z4u(r:Bool)(e:Edit)(t:Tree):Option (List Tree × List Tree):=if t.kind=e.list then ZH r e.ops t.kids [] else none
def Z9H(o:Option Tree):Tree:=o.getD Tree.nil
def ZlP(e:Edit)(o:Option (List Tree × List Tree)):Tree:=match o with | some x=> .mk e.list [] x.1 | none=> Tree.nil
noncomputable def Z8m(e:Edit)(t:Tree):Tree:=
 if e.kind=0 then t else if e.kind=1 then e.new else if e.kind=2 then Z9H (Z8l false e t) else if e.kind=3 then ZlP e (Z4u false e t) else Tree.nil
theorem Ja(o:Option Tree):o.map (nrD false)=o:=by cases o <;> rfl
theorem Z76{e:Edit}{t u:Tree}(h:doE false e t=some u):Z8m e t=u:=by
 rw [Z3N,Ja] at h
 unfold Z8m
 split
 ·rename_i h0;rw [if_pos h0] at h;exact Option.some.inj h
 ·rename_i h0;rw [if_neg h0] at h
  split
  ·rename_i h1;rw [if_pos h1] at h
   split at h
   ·exact Option.some.inj h
   ·cases h
  ·rename_i h1;rw [if_neg h1] at h
   split
   ·rename_i h2;rw [if_pos h2] at h
    unfold Z9H Z8l
    rw [h];try rfl
   ·rename_i h2;rw [if_neg h2] at h
    split
    ·rename_i h3;rw [if_pos h3] at h
     unfold ZlP Z4u
     split at h
     ·rename_i h4;rw [if_pos h4]
      revert h
      cases ZH false e.ops t.kids [] with
      | none=> intro h;cases h
      | some x=>
       intro h
       simp only [Z2Y,Qh] at h
       split at h
       ·exact Option.some.inj h
       ·cases h
     ·cases h
    ·rename_i h3;rw [if_neg h3] at h;cases h
end Go.AM
namespace Go.AM
structure Wst where
 out:List Op
 gone:List Tree
 brought:List Tree
def Jz(out:List Op)(g b:List Tree):List Op:=
 out++((if g.length=0 then [] else [⟨1,0,g,Edit.nil⟩])++(if b.length=0 then [] else [⟨2,0,b,Edit.nil⟩]))
def Z0x:List Op->Int->List Op
 | [],n=> [⟨0,n,[],Edit.nil⟩]
 | [o],n=> if o.kind=0 then [⟨o.kind,o.n+n,o.l,o.e⟩] else [o,⟨0,n,[],Edit.nil⟩]
 | o ::p ::r,n=> o ::Z0x (p ::r) n
def Z2(w:Wst):Wst:=⟨Jz w.out w.gone w.brought,[],[]⟩
def ZK(w:Wst)(n:Int):Wst:=⟨Z0x (Z2 w).out n,[],[]⟩
mutual
def ZI:Edit->Edit
 | .mk k o n w ks l os=>
  if k=1 then .mk k (Z3 o) (Z3 n) [] [] l []
  else if k=2 then .mk k Tree.nil Tree.nil w (Jh ks) l []
  else if k=3 then .mk k Tree.nil Tree.nil [] [] l (Z2 (Yd l os ⟨[],[],[]⟩)).out
  else .mk k Tree.nil Tree.nil [] [] l []
def Jh:List (KidOf Edit)->List (KidOf Edit)
 | []=> []
 | k ::r=> Z1h k ::Jh r
def Z1h:KidOf Edit->KidOf Edit
 | ⟨a,e⟩=> ⟨a,ZI e⟩
def Yd(list:Int):List (OpOf Edit)->Wst->Wst
 | [],s=> s
 | o ::r,s=> Yd list r (Z0i list o s)
def Z0i(list:Int):OpOf Edit->Wst->Wst
 | ⟨k,n,l,e⟩,s=>
  if k=0 then ZK s n
  else if k=1 then ⟨s.out,s.gone++Z5 l,s.brought⟩
  else if k=2 then ⟨s.out,s.gone,s.brought++Z5 l⟩
  else if k=3 then (if Z4G list (ZI e)=true then ZK s 1 else ⟨(Z2 s).out++[⟨3,0,[],ZI e⟩],[],[]⟩)
  else s
end
theorem Z5P(e:Edit):ZI e=if e.kind=1 then .mk e.kind (Z3 e.old) (Z3 e.new) [] [] e.list []
  else if e.kind=2 then .mk e.kind Tree.nil Tree.nil e.words (Jh e.kids) e.list []
  else if e.kind=3 then .mk e.kind Tree.nil Tree.nil [] [] e.list (Z2 (Yd e.list e.ops ⟨[],[],[]⟩)).out
  else .mk e.kind Tree.nil Tree.nil [] [] e.list []:=by cases e;rfl
theorem Zb2(k:Kid):Z1h k=⟨k.at_,ZI k.e⟩:=by cases k;rfl
theorem Z1Z(list:Int)(o:Op)(s:Wst):Z0i list o s=if o.kind=0 then ZK s o.n
  else if o.kind=1 then ⟨s.out,s.gone++Z5 o.l,s.brought⟩
  else if o.kind=2 then ⟨s.out,s.gone,s.brought++Z5 o.l⟩
  else if o.kind=3 then (if Z4G list (ZI o.e)=true then ZK s 1 else ⟨(Z2 s).out++[⟨3,0,[],ZI o.e⟩],[],[]⟩)
  else s:=by cases o;rfl
end Go.AM
namespace Go.AM.Ytpjenobkibfpcaa
open Go.AM Go.Proofs
theorem Z4Q(a:Tree):Yf a a=true:=by simp [Yf]
theorem Zik(l:List Int):trim (trim l)=trim l:=by
 induction l with
 | nil=> rfl
 | cons x r ih=>
  rw [Z0J]
  split
  ·try rfl
  ·rename_i h
   rw [Z0J,ih,if_neg h]
theorem ZeB(l:List Tree):ZO (ZO l)=ZO l:=by
 induction l with
 | nil=> rfl
 | cons x r ih=>
  rw [YT]
  split
  ·try rfl
  ·rename_i h
   rw [YT,ih,if_neg h]
def Normed:List Tree->Prop
 | []=> True
 | t ::r=> Z3 t=t/\Normed r
theorem Normed.eq:∀ {l:List Tree},Normed l->ZN l=l
 | [],_=> rfl
 | t ::r,h=> by simp only [ZN,h.1,Normed.eq h.2]
theorem Normed.trim:∀ {l:List Tree},Normed l->Normed (ZO l)
 | [],_=> trivial
 | t ::r,h=> by
  rw [YT]
  split
  ·trivial
  ·exact ⟨h.1,Normed.trim h.2⟩
mutual
theorem Jv:∀ (t:Tree),Z3 (Z3 t)=Z3 t
 | .mk k w ks=> by
  have h:=Z5R ks
  by_cases h0:k=0
  ·simp [Z3,h0,Tree.nil]
  ·by_cases h1:k=1
   ·subst h1
    simp only [Z3,if_neg h0,if_true,Zik,h.trim.eq,ZeB]
   ·simp only [Z3,if_neg h0,if_neg h1,h.eq]
theorem Z5R:∀ (ks:List Tree),Normed (ZN ks)
 | []=> trivial
 | t ::r=> ⟨Jv t,Z5R r⟩
end
noncomputable section
noncomputable section
def Z3x(a:Edit × Unit):Nat:=2*ZD a.1
def Z9o(a:Edit × Unit):V U:= .agg (enc .edit (ZF a.1))
def Z5y:Fs U:=fs ZhW (fun a=> [Z52 a]) Z9o
def Z8C:ArgL (Op × Unit):=(.cons (aEl .op) .nil)
def Z3o(a:Op × Unit):Prop:=Yp a.1<=20000000000
def Z7T(a:Op × Unit):Nat:=2*Yp a.1+1
def Z3j(a:Op × Unit):V U:= .agg (enc .op (ZX a.1))
def Zgp:Fs U:=fs Z8C (fun a=> [Z3o a]) Z3j
def Yh(N:Nat):List (FuncId × Fs U):=(118,fs ZhW (fun a=> [Z52 a,Z3x a < N]) Z9o) ::(163,fs Z8C (fun a=> [Z3o a,Z7T a < N]) Z3j) ::[]
def Z0k:Zc U:=fun i=> match i with
 | 0=> ([(1,[]),(2,[])],[(.loc 1,[]),(.loc 2,[])])
 | 1=> ([(1,[]),(2,[]),(3,[])],[(.loc 1,[]),(.loc 2,[]),(.loc 3,[])])
 | 2=> ([(1,[]),(2,[]),(3,[]),(20,[]),(21,[]),(22,[])],[(.loc 1,[]),(.loc 2,[]),(.loc 3,[.any,.any,.any,.any,.any,.any,.any,.own .wedit])])
 | 3=> ([(1,[]),(2,[]),(3,[]),(20,[]),(21,[]),(22,[]),(23,[])],[(.loc 1,[]),(.loc 2,[]),(.loc 3,[])])
 | 4=> ([(1,[]),(2,[]),(3,[]),(5,[]),(20,[]),(21,[]),(22,[])],[(.loc 1,[]),(.loc 2,[]),(.loc 3,[]),(.loc 5,[])])
 | 5=> ([(1,[]),(2,[]),(3,[]),(20,[]),(21,[]),(22,[])],[(.loc 1,[]),(.loc 2,[]),(.loc 3,[])])
 | 6=> ([(1,[]),(2,[]),(3,[]),(20,[]),(21,[]),(22,[])],[(.loc 1,[]),(.loc 2,[]),(.loc 3,[.any,.any,.any,.any,.any,.any,.any,.own .wedit])])
 | 7=> ([(1,[]),(2,[]),(3,[]),(42,[]),(43,[]),(44,[])],[(.loc 1,[]),(.loc 2,[]),(.loc 3,[.any,.any,.any,.any,.any,.any,.any,.any,.own .kid])])
 | 8=> ([(1,[]),(2,[]),(3,[]),(42,[]),(43,[]),(44,[]),(45,[])],[(.loc 1,[]),(.loc 2,[]),(.loc 3,[])])
 | 9=> ([(1,[]),(2,[]),(3,[]),(7,[]),(42,[]),(43,[]),(44,[])],[(.loc 1,[]),(.loc 2,[]),(.loc 3,[]),(.loc 7,[])])
 | 10=> ([(1,[]),(2,[]),(3,[]),(42,[]),(43,[]),(44,[])],[(.loc 1,[]),(.loc 2,[]),(.loc 3,[])])
 | 11=> ([(1,[]),(2,[]),(3,[]),(42,[]),(43,[]),(44,[])],[(.loc 1,[]),(.loc 2,[]),(.loc 3,[.any,.any,.any,.any,.any,.any,.any,.any,.own .kid])])
 | 12=> ([(2,[]),(3,[]),(61,[]),(62,[]),(63,[])],[(.loc 2,[]),(.loc 3,[.any,.any,.any,.any,.any,.any,.any,.any,.any,.any,.own .op])])
 | 13=> ([(2,[]),(3,[]),(61,[]),(62,[]),(63,[]),(64,[])],[(.loc 2,[]),(.loc 3,[])])
 | 14=> ([(2,[]),(3,[]),(9,[]),(61,[]),(62,[]),(63,[])],[(.loc 2,[]),(.loc 3,[]),(.loc 9,[])])
 | 15=> ([(2,[]),(3,[]),(61,[]),(62,[]),(63,[])],[(.loc 2,[]),(.loc 3,[])])
 | 16=> ([(2,[]),(3,[]),(61,[]),(62,[]),(63,[])],[(.loc 2,[]),(.loc 3,[.any,.any,.any,.any,.any,.any,.any,.any,.any,.any,.own .op])])
 | 17=> ([(2,[])],[(.loc 2,[])])
 | _=> ([],[])
def Z0V(e:Edit)(x22:Int)(ml3_7:List WEdit):LSt U:=(L2 [pL 1,pL 2,pL 3,(20,.c (sU .wedit e.words .unk)),pI 21 (e.words.length:Int),pI 22 x22] [(.loc 1,(enc .edit e)),(.loc 2,zc1),(.loc 3,([ci e.kind]++enc .tree e.new++enc .tree e.old++[sU .wedit ml3_7 (.own (.l 3 7)),.nils,ci e.list,.nils]))])
def Z0U(e:Edit)(ml3_7:List WEdit)(x44_a:Int)(ml3_8_a:List Kid):LSt U:=(L2 [pL 1,pL 2,pL 3,(42,.c (sU .kid e.kids .unk)),pI 43 (e.kids.length:Int),pI 44 x44_a] [(.loc 1,(enc .edit e)),(.loc 2,zc1),(.loc 3,([ci e.kind]++enc .tree e.new++enc .tree e.old++[sU .wedit ml3_7 (.own (.l 3 7)),sU .kid ml3_8_a (.own (.l 3 8)),ci e.list,.nils]))])
def Z0T(e:Edit)(ml3_7:List WEdit)(ml3_8_a:List Kid)(x63_b:Int)(ml3_10_b:List Op):LSt U:=(L2 [pL 2,pL 3,(61,.c (sU .op e.ops .unk)),pI 62 (e.ops.length:Int),pI 63 x63_b] [(.loc 2,zc1),(.loc 3,([ci e.kind]++enc .tree e.new++enc .tree e.old++[sU .wedit ml3_7 (.own (.l 3 7)),sU .kid ml3_8_a (.own (.l 3 8)),ci e.list,sU .op ml3_10_b (.own (.l 3 10))]))])
abbrev Zuu(N:Nat)(e:Edit)(Q:QT):=AW (Z1 (Yh N)) Try.f118 Z0k [] (L2 [(0,.agg (enc .edit e))] []) Q
abbrev Z5l(N:Nat):=awp cfg (Z1 (Yh N)) (ZC cfg (Z1 (Yh N))) Try.f118.ntmps Z0k
abbrev Z4S(N:Nat):=Z9h cfg (Z1 (Yh N)) (ZC cfg (Z1 (Yh N))) Try.f118.ntmps Z0k
theorem ZtB(N:Nat)(e:Edit)(Q:QT)(h:Zh (AW (Z1 (Yh N)) Try.f118 Z0k [1,1,0,1,0,0]) (Z0V e 0 []) (xB 0 (SW (Z1 (Yh N)) Try.f118 Z0k [1,1,1] Q))):
  Zuu N e Q:=by
 have e_:(Zuu N e Q)=(Zh (Z5l N (cd Try.f118 [1,1,0,1,0,0])) (Z0V e 0 []) (xB 0 (Z4S N (cd Try.f118 [1,1,1]) Q))):=by kernel_rfl
 exact e_.mpr h
abbrev Zib(N:Nat)(e:Edit)(x22:Int)(ml3_7:List WEdit)(N0:NT)(Q:QT):=AW (Z1 (Yh N)) Try.f118 Z0k [1,1,0,1,0,0] (Z0V e x22 ml3_7) (xT N0 (xB 0 (SW (Z1 (Yh N)) Try.f118 Z0k [1,1,1] Q)))
theorem ZjS(N:Nat)(e:Edit)(x22:Int)(ml3_7:List WEdit)(N0:NT)(Q:QT)(h:((decide (x22 < (e.words.length:Int)))=true->((0:Int)<=x22/\x22 < (e.words.length:Int))/\(((ml3_7.length+([(WEdit.mk (WEdit.at_ (e.words.getD x22.toNat (WEdit.mk 0 0 0 0))) (WEdit.mask (e.words.getD x22.toNat (WEdit.mk 0 0 0 0))) (WEdit.new (e.words.getD x22.toNat (WEdit.mk 0 0 0 0))) (WEdit.old (e.words.getD x22.toNat (WEdit.mk 0 0 0 0))))]).length)*32<=140737488355328)/\((InR (x22+1))/\(N0 (Z0V e (x22+1) (ml3_7++([(WEdit.mk (WEdit.at_ (e.words.getD x22.toNat (WEdit.mk 0 0 0 0))) (WEdit.mask (e.words.getD x22.toNat (WEdit.mk 0 0 0 0))) (WEdit.new (e.words.getD x22.toNat (WEdit.mk 0 0 0 0))) (WEdit.old (e.words.getD x22.toNat (WEdit.mk 0 0 0 0))))])))))))/\((decide (x22 < (e.words.length:Int)))=false->Zh (AW (Z1 (Yh N)) Try.f118 Z0k [1,1,1,0,1,0,0]) (Z0U e ml3_7 0 []) (xB 2 (SW (Z1 (Yh N)) Try.f118 Z0k [1,1,1,1] Q)))):
  Zib N e x22 ml3_7 N0 Q:=by
 have e_:(Zib N e x22 ml3_7 N0 Q)=(let zz0:=(decide ((x22:Int) < (e.words.length:Int)));((zz0=true->((0:Int)<=x22/\x22 < (e.words.length:Int))/\(((ml3_7.length+([(WEdit.mk (WEdit.at_ (e.words.getD x22.toNat (WEdit.mk 0 0 0 0))) (WEdit.mask (e.words.getD x22.toNat (WEdit.mk 0 0 0 0))) (WEdit.new (e.words.getD x22.toNat (WEdit.mk 0 0 0 0))) (WEdit.old (e.words.getD x22.toNat (WEdit.mk 0 0 0 0))))]).length)*32<=140737488355328)/\((InR ((x22:Int)+1))/\(N0 (Z0V e ((x22:Int)+1) (ml3_7++([(WEdit.mk (WEdit.at_ (e.words.getD x22.toNat (WEdit.mk 0 0 0 0))) (WEdit.mask (e.words.getD x22.toNat (WEdit.mk 0 0 0 0))) (WEdit.new (e.words.getD x22.toNat (WEdit.mk 0 0 0 0))) (WEdit.old (e.words.getD x22.toNat (WEdit.mk 0 0 0 0))))])))))))/\(zz0=false->(Zh (Z5l N (cd Try.f118 [1,1,1,0,1,0,0])) (Z0U e ml3_7 0 []) (xB 2 (Z4S N (cd Try.f118 [1,1,1,1]) Q)))))):=by kernel_rfl
 exact e_.mpr ⟨fun c_7=> ⟨(h.1 c_7).1,⟨(h.1 c_7).2.1,⟨(h.1 c_7).2.2.1,(h.1 c_7).2.2.2⟩⟩⟩,fun c_7=> (h.2 c_7)⟩
abbrev Zia(N:Nat)(e:Edit)(ml3_7:List WEdit)(x44_a:Int)(ml3_8_a:List Kid)(N1:NT)(Q:QT):=AW (Z1 (Yh N)) Try.f118 Z0k [1,1,1,0,1,0,0] (Z0U e ml3_7 x44_a ml3_8_a) (xT N1 (xB 2 (SW (Z1 (Yh N)) Try.f118 Z0k [1,1,1,1] Q)))
theorem ZjR(N:Nat)(e:Edit)(ml3_7:List WEdit)(x44_a:Int)(ml3_8_a:List Kid)(N1:NT)(Q:QT)(h:∀ y_1,y_1=(e.kids.getD x44_a.toNat (KidOf.mk 0 Edit.nil))->∀ y_2,y_2=(y_1.e)->∀ y_3,y_3=(ZF y_2)->((decide (x44_a < (e.kids.length:Int)))=true->((0:Int)<=x44_a/\x44_a < (e.kids.length:Int))/\((Z52 (y_2,()))/\(Z3x (y_2,()) < N)/\((ml3_8_a.length+([(KidOf.mk y_1.at_ y_3:Kid)]).length)*208<=140737488355328)/\((InR (x44_a+1))/\(N1 (Z0U e ml3_7 (x44_a+1) (ml3_8_a++([(KidOf.mk y_1.at_ y_3:Kid)])))))))/\((decide (x44_a < (e.kids.length:Int)))=false->Zh (AW (Z1 (Yh N)) Try.f118 Z0k [1,1,1,1,0,1,0,0]) (Z0T e ml3_7 ml3_8_a 0 []) (xB 4 (SW (Z1 (Yh N)) Try.f118 Z0k [1,1,1,1,1] Q)))):
  Zia N e ml3_7 x44_a ml3_8_a N1 Q:=by
 have e_:(Zia N e ml3_7 x44_a ml3_8_a N1 Q)=(let y_1:=(e.kids.getD x44_a.toNat (KidOf.mk 0 Edit.nil));let y_2:=(Yw y_1.e);let y_3:=(Yw (ZF y_2));let zz0:=(decide ((x44_a:Int) < (e.kids.length:Int)));((zz0=true->((0:Int)<=x44_a/\x44_a < (e.kids.length:Int))/\((Z52 (y_2,()))/\(Z3x (y_2,()) < N)/\((ml3_8_a.length+([(KidOf.mk y_1.at_ y_3:Kid)]).length)*208<=140737488355328)/\((InR ((x44_a:Int)+1))/\(N1 (Z0U e ml3_7 ((x44_a:Int)+1) (ml3_8_a++([(KidOf.mk y_1.at_ y_3:Kid)])))))))/\(zz0=false->(Zh (Z5l N (cd Try.f118 [1,1,1,1,0,1,0,0])) (Z0T e ml3_7 ml3_8_a 0 []) (xB 4 (Z4S N (cd Try.f118 [1,1,1,1,1]) Q)))))):=by kernel_rfl
 exact e_.mpr (by intro y_1 y_2 y_3;have hh:=h y_1 rfl y_2 (Zf _) y_3 (Zf _);exact ⟨fun c_8=> ⟨(hh.1 c_8).1,⟨(hh.1 c_8).2.1,(hh.1 c_8).2.2.1,(hh.1 c_8).2.2.2.1,⟨(hh.1 c_8).2.2.2.2.1,(hh.1 c_8).2.2.2.2.2⟩⟩⟩,fun c_8=> (hh.2 c_8)⟩)
abbrev Zi9(N:Nat)(e:Edit)(ml3_7:List WEdit)(ml3_8_a:List Kid)(x63_b:Int)(ml3_10_b:List Op)(N2:NT)(Q:QT):=AW (Z1 (Yh N)) Try.f118 Z0k [1,1,1,1,0,1,0,0] (Z0T e ml3_7 ml3_8_a x63_b ml3_10_b) (xT N2 (xB 4 (SW (Z1 (Yh N)) Try.f118 Z0k [1,1,1,1,1] Q)))
theorem ZjQ(N:Nat)(e:Edit)(ml3_7:List WEdit)(ml3_8_a:List Kid)(x63_b:Int)(ml3_10_b:List Op)(N2:NT)(Q:QT)(h:∀ y_1,y_1=(e.ops.getD x63_b.toNat Op.nil)->∀ y_2,y_2=y_1->∀ y_3,y_3=(ZX y_2)->((decide (x63_b < (e.ops.length:Int)))=true->((0:Int)<=x63_b/\x63_b < (e.ops.length:Int))/\((Z3o (y_2,()))/\(Z7T (y_2,()) < N)/\((ml3_10_b.length+([y_3]).length)*240<=140737488355328)/\((InR (x63_b+1))/\(N2 (Z0T e ml3_7 ml3_8_a (x63_b+1) (ml3_10_b++([y_3])))))))/\((decide (x63_b < (e.ops.length:Int)))=false->Q .ret (L2 [pL 2] [(.loc 2,([ci e.kind]++enc .tree e.new++enc .tree e.old++[sU .wedit ml3_7 (.own (.l 2 7)),sU .kid ml3_8_a (.own (.l 2 8)),ci e.list,sU .op ml3_10_b (.own (.l 2 10))]))]))):
  Zi9 N e ml3_7 ml3_8_a x63_b ml3_10_b N2 Q:=by
 have e_:(Zi9 N e ml3_7 ml3_8_a x63_b ml3_10_b N2 Q)=(let y_1:=(e.ops.getD x63_b.toNat Op.nil);let y_2:=(Zf5 y_1);let y_3:=(Zf5 (ZX y_2));let zz0:=(decide ((x63_b:Int) < (e.ops.length:Int)));((zz0=true->((0:Int)<=x63_b/\x63_b < (e.ops.length:Int))/\((Z3o (y_2,()))/\(Z7T (y_2,()) < N)/\((ml3_10_b.length+([y_3]).length)*240<=140737488355328)/\((InR ((x63_b:Int)+1))/\(N2 (Z0T e ml3_7 ml3_8_a ((x63_b:Int)+1) (ml3_10_b++([y_3])))))))/\(zz0=false->(Q .ret (L2 [pL 2] [(.loc 2,([ci e.kind]++enc .tree e.new++enc .tree e.old++[sU .wedit ml3_7 (.own (.l 2 7)),sU .kid ml3_8_a (.own (.l 2 8)),ci e.list,sU .op ml3_10_b (.own (.l 2 10))]))]))))):=by kernel_rfl
 exact e_.mpr (by intro y_1 y_2 y_3;have hh:=h y_1 rfl y_2 (Z43 _) y_3 (Z43 _);exact ⟨fun c_9=> ⟨(hh.1 c_9).1,⟨(hh.1 c_9).2.1,(hh.1 c_9).2.2.1,(hh.1 c_9).2.2.2.1,⟨(hh.1 c_9).2.2.2.2.1,(hh.1 c_9).2.2.2.2.2⟩⟩⟩,fun c_9=> (hh.2 c_9)⟩)
def Zpr(N:Nat)(e:Edit):Prop:=AW (Z1 (Yh N)) Try.f118 Z0k [] (Zg (ZhW.can (e,())) []) (EQ Try.f118 (Z9o (e,())) [])
abbrev Zqh:Prop:=∀ (N:Nat) (e:Edit) (_:Unit),Z52 (e,())->Z3x (e,()) < N+1->Zpr N e
def ZlD:Zc U:=lvl [([1,2],[1,2]),([1,2,4],[1,2]),([1,2,4,5],[1,2]),([1,2],[1,2]),([1,2,4,8],[1,2]),([1,2],[1,2]),([1,2,11],[1,2]),([1,2],[1,2]),([2],[2])]
abbrev Zuk(N:Nat)(o:Op)(Q:QT):=AW (Z1 (Yh N)) Try.f163 ZlD [] (L2 [(0,.agg (enc .op o))] []) Q
theorem Ztm(N:Nat)(o:Op)(Q:QT)(h:∀ y_1,y_1=(o.e)->((o.kind==1)=true->Q .ret (L2 [pL 2] [(.loc 2,([ci 2,ci o.n,sU .tree o.l .unk]++enc .edit o.e))]))/\((o.kind==1)=false->((o.kind==2)=true->Q .ret (L2 [pL 2] [(.loc 2,([ci 1,ci o.n,sU .tree o.l .unk]++enc .edit o.e))]))/\((o.kind==2)=false->((o.kind==3)=true->(Z52 (y_1,()))/\(Z3x (y_1,()) < N)/\(Q .ret (L2 [pL 2] [(.loc 2,([ci o.kind,ci o.n,sU .tree o.l .unk]++enc .edit (ZF y_1)))])))/\((o.kind==3)=false->Q .ret (L2 [pL 2] [(.loc 2,(enc .op o))]))))):
  Zuk N o Q:=by
 have e_:(Zuk N o Q)=(let y_1:=(Yw o.e);(((o.kind==1)=true->(Q .ret (L2 [pL 2] [(.loc 2,([ci 2,ci o.n,sU .tree o.l .unk]++enc .edit o.e))])))/\((o.kind==1)=false->(((o.kind==2)=true->(Q .ret (L2 [pL 2] [(.loc 2,([ci 1,ci o.n,sU .tree o.l .unk]++enc .edit o.e))])))/\((o.kind==2)=false->(((o.kind==3)=true->(Z52 (y_1,()))/\(Z3x (y_1,()) < N)/\(Q .ret (L2 [pL 2] [(.loc 2,([ci o.kind,ci o.n,sU .tree o.l .unk]++enc .edit (ZF y_1)))])))/\((o.kind==3)=false->(Q .ret (L2 [pL 2] [(.loc 2,(enc .op o))]))))))))):=by kernel_rfl
 exact e_.mpr (by intro y_1;have hh:=h y_1 (Zf _);exact ⟨fun c_10=> (hh.1 c_10),fun c_10=> ⟨fun c_11=> ((hh.2 c_10).1 c_11),fun c_11=> ⟨fun c_12=> ⟨(((hh.2 c_10).2 c_11).1 c_12).1,(((hh.2 c_10).2 c_11).1 c_12).2.1,(((hh.2 c_10).2 c_11).1 c_12).2.2⟩,fun c_12=> (((hh.2 c_10).2 c_11).2 c_12)⟩⟩⟩)
def Zpc(N:Nat)(o:Op):Prop:=AW (Z1 (Yh N)) Try.f163 ZlD [] (Zg (Z8C.can (o,())) []) (EQ Try.f163 (Z3j (o,())) [])
abbrev Zqe:Prop:=∀ (N:Nat) (o:Op) (_:Unit),Z3o (o,())->Z7T (o,()) < N+1->Zpc N o
theorem ZdQ(ha:Zqh)(hb:Zqe):CT 118 Z5y/\CT 163 Zgp:=
 Z1M (μA:=Z3x) (μB:=Z7T) (l:=[]) Zj rfl trivial Z0k ZlD Try.func118 Try.func163 rfl rfl rfl rfl 1 1 (fun _=> rfl) (fun _=> rfl) (by decide) (by decide) (fun N ⟨e,_⟩=> ha N e ()) (fun N ⟨o,_⟩=> hb N o ())
end
end
theorem YK(o:Op):ZX o=if o.kind=1 then ⟨2,o.n,o.l,o.e⟩ else if o.kind=2 then ⟨1,o.n,o.l,o.e⟩ else if o.kind=3 then ⟨o.kind,o.n,o.l,ZF o.e⟩ else ⟨o.kind,o.n,o.l,o.e⟩:=by cases o;rfl
theorem Zk9(e:Edit):ZF e= .mk e.kind e.new e.old (e.words.map Yt) (ZS e.kids) e.list (ZW e.ops):=by cases e;rfl
theorem Z8K(k:Kid):Ys k=⟨k.at_,ZF k.e⟩:=by cases k;rfl
theorem Zvs:Zqe:=by
 intro N o _ hp hN
 simp only [Z3o,Z7T] at hp hN
 rw [Jn] at hp hN
 have hpos:=Z22 o.e
 refine Ztm _ _ _ ?_
 rintro y hy
 (simp only [vcS])
 refine ⟨fun h=> ?_,fun h=> ⟨fun h2=> ?_,fun h2=> ⟨fun h3=> ⟨by simp only [Z52,hy];omega,by simp only [Z3x,hy];omega,?_⟩,fun h3=> ?_⟩⟩⟩
 ·have e:ZX o=⟨2,o.n,o.l,o.e⟩:=by rw [YK,if_pos h]
  simp only [Z3j,e]
  (repeat' (first | exact trivial | exact rfl | apply And.intro))
 ·have e:ZX o=⟨1,o.n,o.l,o.e⟩:=by rw [YK,if_neg h,if_pos h2]
  simp only [Z3j,e]
  (repeat' (first | exact trivial | exact rfl | apply And.intro))
 ·have e:ZX o=⟨o.kind,o.n,o.l,ZF o.e⟩:=by rw [YK,if_neg h,if_neg h2,if_pos h3]
  simp only [Z3j,e]
  rw [hy]
  (repeat' (first | exact trivial | exact rfl | apply And.intro))
 ·have e:ZX o=⟨o.kind,o.n,o.l,o.e⟩:=by rw [YK,if_neg h,if_neg h2,if_neg h3]
  simp only [Z3j,e]
  (repeat' (first | exact trivial | exact rfl | apply And.intro))
theorem Zvt:Zqh:=by
 intro N e _ hp hN
 simp only [Z52,Z3x] at hp hN
 have h1:=ZZ e
 have h2:=Yg e.kids
 have h3:=Yo e.ops
 have ha:=Zk9 e
 refine ZtB _ _ _ ?_
 refine Za (ι:=Int × List WEdit) (fun s=> Z0V e s.1 s.2) (fun s=> 0<=s.1/\s.1<=e.words.length/\s.2.length=s.1/\s.2++(e.words.drop s.1.toNat).map Yt=e.words.map Yt) (fun s=> ((e.words.length:Int) - s.1).toNat) (0,[]) rfl ⟨by simp,by simp,by simp,by simp⟩ ?_
 rintro ⟨i,ws⟩ ⟨g1,g2,g3,g4⟩
 dsimp only at g1 g2 g3 g4
 refine ZjS _ _ _ _ _ _ ?_
 (simp only [vcS])
 refine ⟨fun hi=> ?_,fun hi=> ?_⟩
 ·rw [Yr g1 hi (WEdit.mk 0 0 0 0)] at g4
  simp only [QL] at g4
  refine ⟨⟨g1,hi⟩,by simp;omega,by unfold InR;omega,(i+1,ws++[Yt (e.words.getD i.toNat (WEdit.mk 0 0 0 0))]),rfl,⟨by dsimp only;omega,by dsimp only;omega,by simp;omega,?_⟩,by dsimp only;omega⟩
  simp only [Qj,Qt,X3]
  exact g4
 ·rw [Qb (by omega)] at g4
  simp only [List.map_nil,QH] at g4
  refine Za (ι:=Int × List Kid) (fun s=> Z0U e ws s.1 s.2) (fun s=> 0<=s.1/\s.1<=e.kids.length/\s.2.length=s.1/\s.2++ZS (e.kids.drop s.1.toNat)=ZS e.kids) (fun s=> ((e.kids.length:Int) - s.1).toNat) (0,[]) rfl ⟨by simp,by simp,by simp,by simp⟩ ?_
  rintro ⟨j,ks⟩ ⟨f1,f2,f3,f4⟩
  dsimp only at f1 f2 f3 f4
  refine ZjR _ _ _ _ _ _ _ ?_
  rintro y1 hy1 y2 hy2 y3 hy3
  (simp only [vcS])
  refine ⟨fun hj=> ?_,fun hj=> ?_⟩
  ·have hm:=J3 (Zl (l:=e.kids) (i:=j.toNat) (by omega) (KidOf.mk 0 Edit.nil))
   rw [Yr f1 hj (KidOf.mk 0 Edit.nil)] at f4
   rw [<-hy1] at f4 hm
   simp only [ZS,Z8K] at f4
   rw [<-hy2] at f4 hm
   rw [<-hy3] at f4
   refine ⟨⟨f1,hj⟩,by simp only [Z52];omega,by simp only [Z3x];omega,by simp;omega,by unfold InR;omega,(j+1,ks++[⟨y1.at_,y3⟩]),rfl,⟨by dsimp only;omega,by dsimp only;omega,by simp;omega,?_⟩,by dsimp only;omega⟩
   simp only [Qj,Qt,X3]
   exact f4
  ·rw [Qb (by omega)] at f4
   simp only [ZS,QH] at f4
   refine Za (ι:=Int × List Op) (fun s=> Z0T e ws ks s.1 s.2) (fun s=> 0<=s.1/\s.1<=e.ops.length/\s.2.length=s.1/\s.2++ZW (e.ops.drop s.1.toNat)=ZW e.ops) (fun s=> ((e.ops.length:Int) - s.1).toNat) (0,[]) rfl ⟨by simp,by simp,by simp,by simp⟩ ?_
   rintro ⟨k,os⟩ ⟨d1,d2,d3,d4⟩
   dsimp only at d1 d2 d3 d4
   refine ZjQ _ _ _ _ _ _ _ _ ?_
   rintro z1 hz1 z2 hz2 z3 hz3
   (simp only [vcS])
   refine ⟨fun hj=> ?_,fun hj=> ?_⟩
   ·have hm:=Yn (Zl (l:=e.ops) (i:=k.toNat) (by omega) Op.nil)
    rw [Yr d1 hj Op.nil] at d4
    rw [<-hz1,<-hz2] at d4 hm
    simp only [ZW] at d4
    rw [<-hz3] at d4
    refine ⟨⟨d1,hj⟩,by simp only [Z3o];omega,by simp only [Z7T];omega,by simp;omega,by unfold InR;omega,(k+1,os++[z3]),rfl,⟨by dsimp only;omega,by dsimp only;omega,by simp;omega,?_⟩,by dsimp only;omega⟩
    simp only [Qj,Qt,X3]
    exact d4
   ·rw [Qb (by omega)] at d4
    simp only [ZW,QH] at d4
    rw [g4,f4,d4]
    simp only [Z9o,ha]
    (repeat' (first | exact trivial | exact rfl | apply And.intro))
theorem Zmy:Contract Try.prog cfg 118 Z5y/\Contract Try.prog cfg 163 Zgp:=ZdQ Zvt Zvs
theorem J6:∀ (l:List Op) (n:Int),Z0x l n=l++[⟨0,n,[],Edit.nil⟩]\/∃ a o,l=a++[o]/\o.kind=0/\Z0x l n=a++[⟨o.kind,o.n+n,o.l,o.e⟩]
 | [],n=> Or.inl rfl
 | [o],n=> by
  by_cases h:o.kind=0
  ·exact Or.inr ⟨[],o,rfl,h,by simp [Z0x,h]⟩
  ·exact Or.inl (by simp [Z0x,h])
 | o ::p ::r,n=> by
  rcases J6 (p ::r) n with h | ⟨a,q,h1,h2,h3⟩
  ·exact Or.inl (by simp only [Z0x,h,Qt])
  ·exact Or.inr ⟨o ::a,q,by rw [h1];rfl,h2,by simp only [Z0x,h3,Qt]⟩
def W0:Wst:=⟨[],[],[]⟩
theorem Z7Q(l:List Tree):Z5 (Z5 l)=Z5 l:=by
 simp only [Z5,List.map_map]
 congr 1
 funext t
 exact Jv t
theorem ZR(a b:List Tree):Z5 (a++b)=Z5 a++Z5 b:=by simp [Z5]
end Go.AM.Ytpjenobkibfpcaa
namespace Go.AM
theorem Z5T{t:Tree}(h:ZJ t=true):t=Tree.nil:=by
 obtain ⟨k,w,ks⟩:=t
 simp only [ZJ,decide_eq_true_eq] at h
 obtain ⟨h1,h2,h3⟩:=h
 have h1:k=0:=h1
 rw [h1,Q3 (l:=w) h2,Q3 (l:=ks) h3]
 try rfl
theorem Zd8{e:Edit}(h:Z0f e=true):e=Edit.nil:=by
 obtain ⟨k,o,n,w,ks,l,os⟩:=e
 simp only [Z0f,Q1,decide_eq_true_eq] at h
 obtain ⟨⟨⟨h1,h2⟩,h3⟩,h4,h5,h6,h7⟩:=h
 have h1:k=0:=h1
 have h7:l=0:=h7
 rw [h1,h7,Z5T (t:=o) h2,Z5T (t:=n) h3,Q3 (l:=w) h4,Q3 (l:=ks) h5,Q3 (l:=os) h6]
 try rfl
structure RightE (e:Edit) (d:Int):Prop where
 d0:d≠0
 kind:0<=e.kind/\e.kind<=3
 none:e.kind≠1->e.old=Tree.nil/\e.new=Tree.nil
 words0:e.kind≠2->e.words=[]/\e.kids=[]
 ops0:e.kind≠3->e.list=0/\e.ops=[]
 rep:e.kind=1->Z9 e.old (dT d)=true/\Z9 e.new (dT d)=true/\e.old.kind≠10/\e.new.kind≠10
 words:Zk (-1) e.words=true
 kids:Zp (-1) e.kids (d - 1)=true
 list:e.kind=3->2<=e.list/\e.list<=9
 ops:Zs e.list e.ops (d - 1)=true
 len:Jy e.ops 0 < 1048576/\Jx e.ops 0 < 1048576
theorem Z01{e:Edit}{d:Int}(h:Z4 e d=true):RightE e d:=by
 obtain ⟨k,o,n,w,ks,l,os⟩:=e
 rw [Z4] at h
 split at h
 ·cases h
 ·rename_i a
  split at h
  ·cases h
  ·rename_i b
   have b1:k≠1->o=Tree.nil/\n=Tree.nil:=by
    intro hk
    by_cases x:ZJ o=true/\ZJ n=true
    ·exact ⟨Z5T x.1,Z5T x.2⟩
    ·exact absurd (.inl ⟨hk,x⟩) b
   have b2:k≠2->w=[]/\ks=[]:=by
    intro hk
    by_cases x:w.length=0/\ks.length=0
    ·exact ⟨Q3 x.1,Q3 x.2⟩
    ·exact absurd (.inr (.inl ⟨hk,x⟩)) b
   have b3:k≠3->l=0/\os=[]:=by
    intro hk
    by_cases x:l≠0\/os.length≠0
    ·exact absurd (.inr (.inr ⟨hk,x⟩)) b
    ·exact ⟨by omega,Q3 (by omega)⟩
   split at h
   ·rename_i c
    simp only [Q1,decide_eq_true_eq] at h
    obtain ⟨⟨h1,h2⟩,h3,h4⟩:=h
    have c2:=b2 (by omega)
    have c3:=b3 (by omega)
    obtain ⟨rfl,rfl⟩:=c2
    obtain ⟨rfl,rfl⟩:=c3
    exact ⟨by omega,⟨by show 0<=k;omega,by show k<=3;omega⟩,b1,b2,b3,fun _=> ⟨h1,h2,h3,h4⟩,rfl,rfl,fun e=> by have e:k=3:=e;omega,rfl,by show Jy [] 0 < _/\Jx [] 0 < _;simp [Jy,Jx]⟩
   ·rename_i c
    simp only [Q1,decide_eq_true_eq] at h
    obtain ⟨⟨⟨⟨h1,h2⟩,h3⟩,h4⟩,h5⟩:=h
    exact ⟨by omega,⟨by show 0<=k;omega,by show k<=3;omega⟩,b1,b2,b3,fun e=> absurd e c,h1,h2,fun e=> by have e:k=3:=e;show 2<=l/\l<=9;omega,h4,h5⟩
theorem JC:∀ {ks:List Kid} {last d:Int},Zp last ks d=true->∀ k∈ks,(last < k.at_/\k.at_<=65534/\k.e.kind≠0)/\Z4 k.e d=true
 | [],_,_,_,_,hk=> by cases hk
 | ⟨a,e⟩ ::r,last,d,h,k,hk=> by
  simp only [Zp,YI,Q1,decide_eq_true_eq] at h
  obtain ⟨⟨h1,h2⟩,h3⟩:=h
  rcases Qc.1 hk with rfl | hk
  ·exact ⟨h1,h2⟩
  ·have:=JC h3 k hk
   have h1:last < a/\a<=65534/\e.kind≠0:=h1
   have h4:a < k.at_:=this.1.1
   exact ⟨⟨by omega,this.1.2⟩,this.2⟩
theorem rightOs_mem{list:Int}:∀ {os:List Op} {d:Int},Zs list os d=true->∀ o∈os,Zb list o d=true
 | [],_,_,_,ho=> by cases ho
 | a ::r,d,h,o,ho=> by
  simp only [Zs,Q1] at h
  rcases Qc.1 ho with rfl | ho
  ·exact h.1
  ·exact rightOs_mem h.2 o ho
theorem Z0e:∀ {ws:List WEdit} {last:Int},Zk last ws=true->∀ w∈ws,last < w.at_/\w.at_<=65534/\w.mask≠0/\J8 w.old w.mask=true/\J8 w.new w.mask=true
 | [],_,_,_,hw=> by cases hw
 | a ::r,last,h,w,hw=> by
  simp only [Zk,Q1,decide_eq_true_eq] at h
  obtain ⟨⟨⟨h1,h2⟩,h3⟩,h4⟩:=h
  rcases Qc.1 hw with rfl | hw
  ·exact ⟨h1.1,h1.2.1,h1.2.2,h2,h3⟩
  ·have:=Z0e h4 w hw
   exact ⟨by omega,this.2⟩
inductive RightOp (list:Int) (d:Int):Op->Prop
 | keep (n:Int):1<=n->n<=1048576->RightOp list d ⟨0,n,[],Edit.nil⟩
 | gone (l:List Tree):YM (dT d) list l=true->0 < l.length->RightOp list d ⟨1,0,l,Edit.nil⟩
 | come (l:List Tree):YM (dT d) list l=true->0 < l.length->RightOp list d ⟨2,0,l,Edit.nil⟩
 | into (e:Edit):Z4 e d=true->e.kind≠0->7 < list->(list=8\/e.kind=2\/e.kind=1/\e.old.kind=1/\e.new.kind=1)->RightOp list d ⟨3,0,[],e⟩
theorem YX{list:Int}{o:Op}{d:Int}(h:Zb list o d=true):RightOp list d o:=by
 obtain ⟨k,n,l,e⟩:=o
 rw [Zb] at h
 split at h
 ·rename_i hk
  simp only [Q1,decide_eq_true_eq] at h
  obtain ⟨⟨h1,h2,h3⟩,h4⟩:=h
  rw [hk,Zd8 h4,Q3 h3]
  exact .keep n h1 h2
 ·rename_i h0
  split at h
  ·cases h
  ·rename_i h1
   have hn:n=0:=by omega
   subst hn
   split at h
   ·rename_i h2
    simp only [Q1,decide_eq_true_eq] at h
    obtain ⟨⟨h3,h4⟩,h5⟩:=h
    rw [Zd8 h5]
    by_cases hk:k=1
    ·rw [hk];exact .gone l h3 h4
    ·rw [show k=2 by omega];exact .come l h3 h4
   ·rename_i h2
    simp only [Q1,decide_eq_true_eq] at h
    obtain ⟨⟨⟨h3,h4,h5⟩,h6⟩,h7⟩:=h
    rw [show k=3 by omega,Q3 h3]
    exact .into e h6 h4 h5 h7
theorem ZeO{e:Edit}{d:Int}(h:Z4 e d=true):(∀ k∈e.kids,∃ d,Z4 k.e d=true)/\(∀ o∈e.ops,∃ l d,Zb l o d=true)/\(e.kind=3->2<=e.list/\e.list<=9):=by
 have r:=Z01 h
 exact ⟨fun k hk=> ⟨_,(JC r.kids k hk).2⟩,fun o ho=> ⟨_,_,rightOs_mem r.ops o ho⟩,r.list⟩
theorem Z14{l d:Int}{o:Op}(h:Zb l o d=true)(hk:o.kind=3):Z4 o.e d=true:=by
 have r:=YX h
 cases r with
 | into e h1=> exact h1
 | keep | gone | come=> exact absurd hk (by simp)
end Go.AM
namespace Go.AM.Ytpjenobkibfpcaa
open Go.AM Go.Proofs
theorem Zar{α:Type}(z:α)(l:List α)(i:Nat)(x:α):(Y4 z l i x).length=max l.length (i+1):=by
 simp only [Y4,List.length_set,Qf,X6];omega
theorem YU{α:Type}(z:α)(l:List α)(i:Nat)(x:α)(j:Nat):(Y4 z l i x).getD j z=if j=i then x else l.getD j z:=by
 simp only [Y4,Qp,XU,Qf,X6]
 by_cases h:j=i
 ·subst h;rw [if_pos rfl,if_pos rfl,if_pos (by omega)];try rfl
 ·rw [if_neg (fun e=> h e.symm),if_neg h]
  by_cases hl:j < l.length
  ·rw [Qi hl]
  ·rw [Qk (by omega),Ql (l:=l) (by omega),List.getElem?_replicate]
   split <;> rfl
theorem ZeE{α β:Type}(f:α->β)(z:α)(l:List α)(i:Nat)(x:α):(Y4 z l i x).map f=Y4 (f z) (l.map f) i (f x):=by
 simp [Y4,List.map_set]
theorem Z20:∀ l:List Tree,ZN l=Z5 l
 | []=> rfl
 | t ::r=> by simp [ZN,Z5,Z20 r]
theorem Z9N(l:List Tree)(i:Nat)(x:Tree):Z5 (Y4 Tree.nil l i x)=Y4 Tree.nil (Z5 l) i (Z3 x):=by
 rw [Z5,ZeE,Zb4];try rfl
theorem ZiH{a b:List Tree}{i:Nat}{x y:Tree}(h:Z5 a=Z5 b)(hx:Z3 x=Z3 y):Z5 (Y4 Tree.nil a i x)=Z5 (Y4 Tree.nil b i y):=by
 rw [Z9N,Z9N,h,hx]
theorem Z49{a b c d:List Tree}(h:Z5 a=Z5 b)(hx:Z5 c=Z5 d):Z5 (a++c)=Z5 (b++d):=by
 rw [ZR,ZR,h,hx]
theorem Z9O(k:Int)(w:List Int){a b:List Tree}(h:Z5 a=Z5 b):Z3 (.mk k w a)=Z3 (.mk k w b):=by
 simp only [Z3,Z20,h]
theorem ZiI{a b:List Tree}(h:Z5 a=Z5 b):a.length=b.length:=by
 have:=congrArg List.length h
 simpa [Z5] using this
theorem Zb3{a b:Tree}:Z5 [a]=Z5 [b]↔Z3 a=Z3 b:=by simp [Z5]
def OptR{α β:Type}(R:α->β->Prop):Option α->Option β->Prop
 | none,none=> True
 | some a,some b=> R a b
 | _,_=> False
theorem OptR.rfl'{α:Type}(a:Option α):OptR Eq a a:=by cases a;exact trivial;exact rfl
theorem OptR.bind{α β γ δ:Type}{R:α->β->Prop}{S:γ->δ->Prop}{a:Option α}{b:Option β}{f:α->Option γ}{g:β->Option δ}(h:OptR R a b)(hf:∀ x y,R x y->OptR S (f x) (g y)):OptR S (a.bind f) (b.bind g):=by
 cases a <;> cases b <;> first | exact trivial | exact h.elim | exact hf _ _ h
theorem OptR.map{α β γ δ:Type}{R:α->β->Prop}{S:γ->δ->Prop}{a:Option α}{b:Option β}{f:α->γ}{g:β->δ}(h:OptR R a b)(hf:∀ x y,R x y->S (f x) (g y)):OptR S (a.map f) (b.map g):=by
 cases a <;> cases b <;> first | exact trivial | exact h.elim | exact hf _ _ h
theorem OptR.ite{α β:Type}{R:α->β->Prop}{p q:Prop} [Decidable p] [Decidable q] {a c:Option α}{b d:Option β}(h:p↔q)(h1:p->OptR R a b)(h2:¬p->OptR R c d):OptR R (if p then a else c) (if q then b else d):=by
 by_cases hp:p
 ·rw [if_pos hp,if_pos (h.1 hp)];exact h1 hp
 ·rw [if_neg hp,if_neg (fun hq=> hp (h.2 hq))];exact h2 hp
def Eqv(x y:Tree):Prop:=Z3 x=Z3 y
def EqvL(x y:List Tree):Prop:=Z5 x=Z5 y
theorem EqvL.take{x y:List Tree}(h:EqvL x y)(n:Nat):EqvL (x.take n) (y.take n):=by unfold EqvL Z5 at*;rw [List.map_take,List.map_take,h]
theorem EqvL.drop{x y:List Tree}(h:EqvL x y)(n:Nat):EqvL (x.drop n) (y.drop n):=by unfold EqvL Z5 at*;rw [List.map_drop,List.map_drop,h]
theorem EqvL.len{x y:List Tree}(h:EqvL x y):x.length=y.length:=ZiI h
theorem Z9M(l:List Tree)(i:Nat):(Z5 l).getD i Tree.nil=Z3 (l.getD i Tree.nil):=by rw [<-Z20];exact Jw l i
theorem EqvL.get{x y:List Tree}(h:EqvL x y)(i:Nat):Eqv (x.getD i Tree.nil) (y.getD i Tree.nil):=by
 unfold Eqv;rw [<-Z9M,<-Z9M,h]
theorem Zeb{a b:Option (List Tree × List Tree)}(h:OptR (fun x y=> EqvL x.1 y.1/\EqvL x.2 y.2) a b):OptR EqvL (Z2Y a) (Z2Y b):=by
 unfold Z2Y
 refine h.bind fun x y hxy=> ?_
 exact OptR.ite (by rw [hxy.2.len]) (fun _=> hxy.1) (fun _=> trivial)
def Zjy(a b:List Int):Prop:=∀ i:Nat,a.getD i 0=b.getD i 0
def Zge(a b:List Tree):Prop:=∀ i:Nat,Eqv (a.getD i Tree.nil) (b.getD i Tree.nil)
theorem Z5i{a b:Tree}(ha:a.kind=1)(hb:b.kind=1):Eqv a b↔Zjy a.words b.words/\Zge a.kids b.kids:=by
 unfold Eqv Zjy Zge
 rw [Ya,ha,hb]
 simp [Eqv]
theorem Zea{a b:Tree}(h0:a.kind≠0)(h1:a.kind≠1):Eqv a b↔a.kind=b.kind/\a.words=b.words/\EqvL a.kids b.kids:=by
 unfold Eqv EqvL
 rw [Ya,if_neg h1,<-Z20,<-Z20,Z5S]
 simp [h0,and_assoc]
theorem Eqv.kind{a b:Tree}(h:Eqv a b):a.kind=b.kind:=((Ya a b).1 h).1
theorem Zgg{tw tv:List Int}(h:Zjy tw tv):∀ (ws:List WEdit) (a b:List Int),Zjy a b->OptR Zjy (wsD tw ws a) (wsD tv ws b)
 | [],_,_,hab=> hab
 | w ::r,a,b,hab=> by
  rw [wsD,wsD,h w.at_.toNat]
  refine OptR.ite QI (fun _=> Zgg h r _ _ fun i=> ?_) (fun _=> trivial)
  rw [YU,YU]
  split
  ·try rfl
  ·exact hab i
theorem Zj7(l:List Tree){a b:List Tree}(h:EqvL a b):YJ l a=YJ l b:=by
 unfold YJ
 rw [h.len,show Z5 (a.take l.length)=Z5 (b.take l.length) from h.take _]
mutual
theorem Zcv:∀ (e:Edit) (d:Int) (t s:Tree),Z4 e d=true->Eqv t s->OptR Eqv (doE false e t) (doE false e s)
 | .mk k o n w ks l os,d,t,s,hr,h=> by
  have h1:=Zed ks t.kids s.kids
  have h2:=Zaa os t.kids s.kids [] []
  have hk:=h.kind
  have hrt:=ZeO hr
  rw [Z3N,Z3N,Ja,Ja]
  show OptR Eqv (if k=0 then _ else _) (if k=0 then _ else _)
  refine OptR.ite QI (fun _=> h) fun _=> OptR.ite QI (fun _=> ?_) fun _=> OptR.ite QI (fun k2=> ?_) fun _=> OptR.ite QI (fun k3=> ?_) (fun _=> trivial)
  ·rw [show Z3 t=Z3 s from h]
   exact OptR.ite QI (fun _=> rfl) (fun _=> trivial)
  ·refine OptR.ite (by rw [hk]) (fun ht=> ?_) (fun _=> trivial)
   have hs:s.kind=1:=by rw [<-hk];exact ht
   obtain ⟨hw,hks⟩:=(Z5i ht hs).1 h
   refine (Zgg hw w t.words s.words hw).bind fun a b hab=> ?_
   refine (h1 hks hrt.1 t.kids s.kids hks).map fun x y hxy=> ?_
   exact (Z5i rfl rfl).2 ⟨hab,hxy⟩
  ·refine OptR.ite (by rw [hk]) (fun ht=> ?_) (fun _=> trivial)
   have hl:=hrt.2.2
   have hos:=hrt.2.1
   replace ht:t.kind=l:=ht
   replace hl:2<=l/\l<=9:=hl k3
   obtain ⟨_,_,hks⟩:=(Zea (by omega) (by omega)).1 h
   exact (Zeb (h2 hks rfl hos)).map fun x y hxy=> Z9O _ _ hxy
theorem Zed:∀ (ks:List (KidOf Edit)) (tk sk:List Tree),Zge tk sk->(∀ k∈ks,∃ d,Z4 k.e d=true)->∀ a b,Zge a b->OptR Zge (Je false tk ks a) (Je false sk ks b)
 | [],_,_,_,_,_,_,hab=> hab
 | k ::r,tk,sk,h,hr,a,b,hab=> by
  rw [Je,Je]
  obtain ⟨d,hd⟩:=hr k Qa
  refine (Zje k d tk sk h hd).bind fun x y hxy=> Zed r tk sk h (fun q hq=> hr q (Q5 _ hq)) _ _ fun i=> ?_
  rw [YU,YU]
  split
  ·exact hxy
  ·exact hab i
theorem Zje:∀ (k:KidOf Edit) (d:Int) (tk sk:List Tree),Zge tk sk->Z4 k.e d=true->OptR Eqv (Z0o false tk k) (Z0o false sk k)
 | ⟨a,e⟩,d,tk,sk,h,hr=> by rw [Z0o,Z0o];exact Zcv e d _ _ hr (h _)
theorem Zaa:∀ (os:List (OpOf Edit)) (rt rs a b:List Tree),EqvL rt rs->EqvL a b->(∀ o∈os,∃ l d,Zb l o d=true)->OptR (fun x y=> EqvL x.1 y.1/\EqvL x.2 y.2) (ZH false os rt a) (ZH false os rs b)
 | [],_,_,_,_,h,hab,_=> ⟨hab,h⟩
 | o ::r,rt,rs,a,b,h,hab,hr=> by
  rw [ZH,ZH]
  refine (Zms o rt rs a b h hab (hr o Qa)).bind fun x y hxy=> Zaa r _ _ _ _ hxy.2 hxy.1 (fun q hq=> hr q (Q5 _ hq))
theorem Zms:∀ (o:OpOf Edit) (rt rs a b:List Tree),EqvL rt rs->EqvL a b->(∃ l d,Zb l o d=true)->OptR (fun x y=> EqvL x.1 y.1/\EqvL x.2 y.2) (Z0n false o rt a) (Z0n false o rs b)
 | ⟨k,n,l,e⟩,rt,rs,a,b,h,hab,hr=> by
  obtain ⟨li,d,hr⟩:=hr
  have he:=fun h3=> Zcv e d (rt.getD 0 Tree.nil) (rs.getD 0 Tree.nil) (Z14 hr h3) (h.get 0)
  have hlen:=h.len
  rw [Z0n,Z0n]
  refine OptR.ite QI (fun _=> OptR.ite (by rw [hlen]) (fun _=> ⟨Z49 hab (h.take _),h.drop _⟩) (fun _=> trivial)) fun k0=> OptR.ite QI (fun _=> ?_) fun k1=> OptR.ite QI (fun _=> ⟨Z49 hab rfl,h⟩) fun k2=> OptR.ite (by rw [hlen]) (fun _=> trivial) fun _=> ?_
  ·rw [Zj7 l h]
   exact OptR.ite QI (fun _=> ⟨hab,h.drop _⟩) (fun _=> trivial)
  ·have h03:k=0\/k=1\/k=2\/k=3:=by
    have r:=YX hr
    generalize ho:OpOf.mk k n l e=o at r
    cases r <;> (injection ho with h1;subst h1;decide)
   exact (he (by show k=3;omega)).map fun x y h'=> ⟨Z49 hab (Zb3.2 h'),h.drop _⟩
end
theorem Z8J:∀ (ks:List Kid),(ZS ks).length=ks.length
 | []=> rfl
 | k ::r=> by simp only [ZS,Qw,Z8J r]
theorem ZdN{α β:Type}{f:α->β}(d:α){a b:List α}(hl:a.length=b.length)(h:∀ i:Nat,i < a.length->f (a.getD i d)=f (b.getD i d)):a.map f=b.map f:=by
 apply List.ext_getElem (by simpa using hl)
 intro i h1 h2
 have h1':i < a.length:=by simpa using h1
 have h2':i < b.length:=by simpa using h2
 have:=h i h1'
 simpa [Qp,Q0 h1',Q0 h2'] using this
theorem Ze6{α β:Type}{f:α->β}{d:α}{a b:List α}(h:a.map f=b.map f)(i:Nat):f (a.getD i d)=f (b.getD i d):=by
 have e:=congrArg (fun l=> l[i]?.getD (f d)) h
 simp only [Qe] at e
 rw [Qp,Qp]
 cases h1:a[i]? <;> cases h2:b[i]? <;> simp_all
theorem Z25(t:Tree):(Z3 t).kind=t.kind:=by
 obtain ⟨k,w,ks⟩:=t
 simp only [Z3]
 by_cases h0:k=0
 ·rw [if_pos h0,h0];try rfl
 ·rw [if_neg h0]
  by_cases h1:k=1
  ·rw [if_pos h1,h1];try rfl
  ·rw [if_neg h1];try rfl
theorem Z8M:∀ (l:List Int),∃ r,l=trim l++r
 | []=> ⟨[],rfl⟩
 | x ::r=> by
  obtain ⟨s,hs⟩:=Z8M r
  simp only [trim]
  split
  ·rename_i e
   split
   ·exact ⟨x ::r,rfl⟩
   ·exact ⟨r,rfl⟩
  ·rename_i y t e
   rw [e] at hs
   exact ⟨s,by rw [hs];rfl⟩
theorem Z6N:∀ (l:List Tree),∃ r,l=ZO l++r
 | []=> ⟨[],rfl⟩
 | x ::r=> by
  obtain ⟨s,hs⟩:=Z6N r
  simp only [ZO]
  split
  ·rename_i e
   split
   ·exact ⟨x ::r,rfl⟩
   ·exact ⟨r,rfl⟩
  ·rename_i y t e
   rw [e] at hs
   exact ⟨s,by rw [hs];rfl⟩
theorem Z9l{list d:Int}:∀ (a b:List Tree),Y7 list (a++b) d=true->Y7 list a d=true
 | [],_,_=> rfl
 | t ::r,b,h=> by
  simp only [Qt,Y7,Q1] at h ⊢
  exact ⟨h.1,Z9l r b h.2⟩
theorem Z0D:∀ (l:List Tree),(ZN l).length=l.length
 | []=> rfl
 | t ::r=> by simp only [ZN,Qw,Z0D r]
theorem Zj3{list:Int}{t:Tree}(h:Z3E list t=true):Z3E list (Z3 t)=true:=by
 unfold Z3E at h ⊢
 rw [Z25]
 split at h
 ·rename_i hl
  rw [if_pos hl]
  simp only [Q1,decide_eq_true_eq] at h ⊢
  obtain ⟨⟨h1,h2,h3⟩,h4⟩:=h
  obtain ⟨k,w,ks⟩:=t
  simp only [Tree.kind_mk,Tree.kids_mk,Tree.words_mk] at h1 h2 h3 h4
  have:ks=[]:=QV.1 h2
  subst this
  subst h1
  exact ⟨⟨rfl,rfl,h3⟩,h4⟩
 ·rename_i hl
  rw [if_neg hl]
  exact h
mutual
theorem Z1x:∀ (t:Tree) (d:Int),Z9 t d=true->Z9 (Z3 t) d=true
 | .mk k w ks,d,h=> by
  have ih:=fun (list:Int) (h:Y7 list ks (d - 1)=true)=> Z3h ks list (d - 1) h
  simp only [Z9] at h
  simp only [Z3]
  by_cases h0:k=0
  ·rw [if_pos h0];simp [Tree.nil,Z9]
  ·rw [if_neg h0] at h ⊢
   by_cases h10:k=10
   ·subst h10
    rw [if_pos rfl] at h
    rw [if_neg (by decide)]
    simp only [decide_eq_true_eq] at h
    simp only [Z9]
    rw [if_neg (by decide),if_pos trivial,Z0D]
    simpa using h
   ·rw [if_neg h10] at h
    by_cases hd:d=0
    ·rw [if_pos hd] at h;cases h
    ·rw [if_neg hd] at h
     by_cases h1:k=1
     ·subst h1
      rw [if_pos rfl] at h
      rw [if_pos rfl]
      simp only [Q1,decide_eq_true_eq] at h
      simp only [Z9]
      rw [if_neg (by decide),if_neg (by decide),if_neg hd,if_pos trivial]
      simp only [Q1,decide_eq_true_eq]
      obtain ⟨r1,e1⟩:=Z8M w
      obtain ⟨r2,e2⟩:=Z6N (ZN ks)
      have l1:=congrArg List.length e1
      have l2:=congrArg List.length e2
      rw [Z0D] at l2
      simp only [Qf] at l1 l2
      refine ⟨⟨by omega,by omega⟩,?_⟩
      have:=ih 1 h.2
      rw [e2] at this
      exact Z9l _ _ this
     ·rw [if_neg h1] at h ⊢
      simp only [Q1,decide_eq_true_eq] at h
      simp only [Z9]
      rw [if_neg h0,if_neg h10,if_neg hd,if_neg h1,Z0D]
      simp only [Q1,decide_eq_true_eq]
      exact ⟨h.1,ih k h.2⟩
theorem Z3h:∀ (l:List Tree) (list d:Int),Y7 list l d=true->Y7 list (ZN l) d=true
 | [],_,_,_=> rfl
 | t ::r,list,d,h=> by
  simp only [Y7,Q1] at h
  have h1:=Z1x t d h.1.2
  have h2:=Z3h r list d h.2
  simp only [ZN,Y7,Q1]
  exact ⟨⟨Zj3 h.1.1,h1⟩,h2⟩
end
theorem Z8L(e:Edit):(ZF e).kind=e.kind:=by cases e;rfl
theorem Zih(e:Edit):(ZF e).old=e.new:=by cases e;rfl
theorem Zii(e:Edit):(ZF e).new=e.old:=by cases e;rfl
theorem Z2k:∀ (l:List WEdit) (last:Int),Zk last (l.map Yt)=Zk last l
 | [],_=> rfl
 | w ::r,last=> by
  simp only [QL,Zk,Z2k r]
  have h1:(Yt w).at_=w.at_:=rfl
  have h2:(Yt w).mask=w.mask:=rfl
  have h3:(Yt w).old=w.new:=rfl
  have h4:(Yt w).new=w.old:=rfl
  rw [h1,h2,h3,h4,Xn,Xn,Xn,Xn]
  congr 1
  rw [<-Xn,<-Xn,Bool.and_comm (J8 w.new w.mask)]
theorem Zez(o:Op):Zt (ZX o)=Zt o/\((ZX o).kind=2↔o.kind=1)/\((ZX o).kind=1↔o.kind=2):=by
 rw [YK]
 by_cases h1:o.kind=1
 ·rw [if_pos h1];simp [Zt,h1]
 ·rw [if_neg h1]
  by_cases h2:o.kind=2
  ·rw [if_pos h2];simp [Zt,h2]
  ·rw [if_neg h2]
   by_cases h3:o.kind=3
   ·rw [if_pos h3];simp [Zt,h3]
   ·rw [if_neg h3];simp [Zt,h1,h2]
theorem Z67:∀ (l:List Op) (n:Int),Jy (ZW l) n=Jx l n/\Jx (ZW l) n=Jy l n
 | [],_=> ⟨rfl,rfl⟩
 | o ::r,n=> by
  obtain ⟨h1,h2,h3⟩:=Zez o
  simp only [ZW,Jy,Jx]
  rw [h1]
  constructor
  ·rw [(Z67 r _).1]
   congr 2
   by_cases h:o.kind=1
   ·rw [if_pos (h2.2 h),if_pos h]
   ·rw [if_neg (fun x=> h (h2.1 x)),if_neg h]
  ·rw [(Z67 r _).2]
   congr 2
   by_cases h:o.kind=2
   ·rw [if_pos (h3.2 h),if_pos h]
   ·rw [if_neg (fun x=> h (h3.1 x)),if_neg h]
theorem Z4M:∀ (l:List Op),(ZW l).length=l.length
 | []=> rfl
 | o ::r=> by simp only [ZW,Qw,Z4M r]
theorem ZnV{list d:Int}{o:Op}(h:Zb list o d=true)(hi:Z4 o.e d=true->Z4 (ZF o.e) d=true):Zb list (ZX o) d=true:=by
 have h':=h
 rw [YW] at h
 by_cases k0:o.kind=0
 ·have e:ZX o=o:=by rw [YK,if_neg (by omega),if_neg (by omega),if_neg (by omega)]
  rw [e];exact h'
 ·rw [if_neg k0] at h
  split at h
  ·cases h
  ·rename_i hk
   by_cases k3:o.kind=3
   ·rw [if_neg (by omega)] at h
    have e:ZX o=⟨o.kind,o.n,o.l,ZF o.e⟩:=by rw [YK,if_neg (by omega),if_neg (by omega),if_pos k3]
    rw [e,YW]
    simp only
    rw [if_neg k0,if_neg hk,if_neg (by omega),Z8L,Zih,Zii]
    simp only [Q1,decide_eq_true_eq] at h ⊢
    refine ⟨⟨h.1.1,hi h.1.2⟩,?_⟩
    omega
   ·rw [if_pos (by omega)] at h
    have hk':o.kind=1\/o.kind=2:=by omega
    rcases hk' with k | k
    ·have e:ZX o=⟨2,o.n,o.l,o.e⟩:=by rw [YK,if_pos k]
     rw [e,YW]
     simp only
     rw [if_neg (by decide),if_neg (by omega),if_pos (by decide)]
     exact h
    ·have e:ZX o=⟨1,o.n,o.l,o.e⟩:=by rw [YK,if_neg (by omega),if_pos k]
     rw [e,YW]
     simp only
     rw [if_neg (by decide),if_neg (by omega),if_pos (by decide)]
     exact h
mutual
theorem YY:∀ (e:Edit) (d:Int),Z4 e d=true->Z4 (ZF e) d=true
 | .mk k o n w ks l os,d,h=> by
  have h1:=Z2z ks
  have h2:=Z5H l os
  simp only [Z4] at h
  simp only [ZF,Z4]
  split at h
  ·cases h
  ·rename_i a
   rw [if_neg a]
   split at h
   ·cases h
   ·rename_i b
    rw [if_neg (by rw [X4,Z8J,Z4M];intro hc;apply b;rcases hc with x | x | x;exact Or.inl ⟨x.1,fun y=> x.2 ⟨y.2,y.1⟩⟩;exact Or.inr (Or.inl x);exact Or.inr (Or.inr x))]
    split at h
    ·rename_i c
     rw [if_pos c]
     simp only [Q1,decide_eq_true_eq] at h ⊢
     exact ⟨⟨h.1.2,h.1.1⟩,h.2.2,h.2.1⟩
    ·rename_i c
     rw [if_neg c]
     simp only [Q1,decide_eq_true_eq] at h ⊢
     obtain ⟨⟨⟨⟨x1,x2⟩,x3⟩,x4⟩,x5⟩:=h
     refine ⟨⟨⟨⟨by rw [Z2k];exact x1,h1 _ _ x2⟩,x3⟩,h2 _ x4⟩,?_⟩
     rw [(Z67 os 0).1,(Z67 os 0).2]
     exact ⟨x5.2,x5.1⟩
theorem Z2z:∀ (ks:List (KidOf Edit)) (last d:Int),Zp last ks d=true->Zp last (ZS ks) d=true
 | [],_,_,_=> rfl
 | k ::r,last,d,h=> by
  simp only [Zp,Q1] at h
  have h1:=Zat k last d h.1
  have h2:=Z2z r k.at_ d h.2
  simp only [ZS,Zp,Q1]
  exact ⟨h1,by rw [Z8K];exact h2⟩
theorem Zat:∀ (k:KidOf Edit) (last d:Int),YI last k d=true->YI last (Ys k) d=true
 | ⟨a,e⟩,last,d,h=> by
  simp only [YI,Q1] at h
  have h1:=YY e d h.2
  simp only [Ys,YI,Q1]
  rw [Z8L]
  exact ⟨h.1,h1⟩
theorem Z5H(list:Int):∀ (os:List (OpOf Edit)) (d:Int),Zs list os d=true->Zs list (ZW os) d=true
 | [],_,_=> rfl
 | o ::r,d,h=> by
  simp only [Zs,Q1] at h
  have h1:=ZbQ list o d h.1
  have h2:=Z5H list r d h.2
  simp only [ZW,Zs,Q1]
  exact ⟨h1,h2⟩
theorem ZbQ(list:Int):∀ (o:OpOf Edit) (d:Int),Zb list o d=true->Zb list (ZX o) d=true
 | ⟨k,n,l,e⟩,d,h=> ZnV (o:=⟨k,n,l,e⟩) h (fun he=> YY e d he)
end
theorem Z80:∀ (l:List Tree),Ze (Z5 l)<=Ze l
 | []=> by simp [Z5,Ze]
 | t ::r=> by
  have h:=Z80 r
  have h2:=J0 t
  simp only [Z5] at h
  simp only [Z5,QL,Ze]
  omega
theorem Z7d:Zm Tree.nil=1:=by simp [Tree.nil,Zm,Ze]
theorem Z79(e:Edit):(ZI e).kind=e.kind:=by
 rw [Z5P]
 split
 ·try rfl
 ·split
  ·try rfl
  ·split <;> rfl
theorem ZdE(e:Edit)(h:e.kind=1):(ZI e).old=Z3 e.old/\(ZI e).new=Z3 e.new:=by
 rw [Z5P,if_pos h]
 exact ⟨rfl,rfl⟩
theorem ZeP{D list:Int}{t:Tree}(hD:D≠0)(h:Z9 (.mk list [] [t]) D=true):Z9 (.mk list [] [Z3 t]) D=true:=by
 have key:=fun (k d:Int) (h:Y7 k [t] d=true)=> Z3h [t] k d h
 simp only [ZN] at key
 simp only [Z9] at h ⊢
 split at h
 ·simp at h
 ·rename_i h0
  rw [if_neg h0]
  split at h
  ·simp at h
  ·rename_i h1
   rw [if_neg h1]
   try rw [if_neg hD] at h
   try rw [if_neg hD]
   split at h
   ·rename_i h2
    rw [if_pos h2]
    simp only [Q1] at h ⊢
    exact ⟨h.1,key _ _ h.2⟩
   ·rename_i h2
    rw [if_neg h2]
    simp only [Q1] at h ⊢
    exact ⟨h.1,key _ _ h.2⟩
theorem Z1D{D list:Int}(hD:D≠0):∀ {l:List Tree},YM D list l=true->YM D list (Z5 l)=true
 | [],_=> rfl
 | t ::r,h=> by
  simp only [YM,Q1] at h
  have h2:=Z1D hD h.2
  simp only [Z5] at h2
  simp only [Z5,QL,YM,Q1]
  exact ⟨ZeP hD h.1,h2⟩
theorem Z30{D list:Int}:∀ {a b:List Tree},YM D list a=true->YM D list b=true->YM D list (a++b)=true
 | [],_,_,h=> h
 | t ::r,b,h,h2=> by
  simp only [YM,Q1] at h
  simp only [Qt,YM,Q1]
  exact ⟨h.1,Z30 h.2 h2⟩
def rOp(list:Int)(d:Int)(o:Op):Prop:=(o.kind=0->1<=o.n/\o.l.length=0/\Z0f o.e=true)/\(o.kind≠0->Zb list o d=true)
theorem Zl0{list d:Int}{o:Op}(h:Zb list o d=true):rOp list d o:=by
 refine ⟨fun hk=> ?_,fun _=> h⟩
 obtain ⟨k,n,l,e⟩:=o
 simp only at hk
 subst hk
 simp only [Zb,if_true,Q1,decide_eq_true_eq] at h
 exact ⟨h.1.1,h.1.2.2,h.2⟩
theorem Zqw{list d:Int}{o:Op}(h:rOp list d o)(hn:o.kind=0->o.n<=1048576):Zb list o d=true:=by
 by_cases hk:o.kind=0
 ·have h1:=h.1 hk
  have h2:=hn hk
  obtain ⟨k,n,l,e⟩:=o
  simp only at hk h1 h2
  subst hk
  simp only [Zb,if_true,Q1,decide_eq_true_eq]
  exact ⟨⟨h1.1,h2,h1.2.1⟩,h1.2.2⟩
 ·exact h.2 hk
theorem Z3e{list:Int}:∀ {os:List Op} {d:Int},Zs list os d=true↔∀ o∈os,Zb list o d=true
 | [],d=> by simp [Zs]
 | o ::r,d=> by
  simp only [Zs,Q1,Qc,forall_eq_or_imp]
  rw [Z3e (os:=r)]
theorem Z4R:Z0f Edit.nil=true:=rfl
structure OkW (list d:Int) (w:Wst):Prop where
 out:∀ o∈w.out,rOp list d o
 gone:YM (dT d) list w.gone=true
 brought:YM (dT d) list w.brought=true
theorem Z77{list d:Int}{w:Wst}(h:OkW list d w):OkW list d (Z2 w):=by
 refine ⟨?_,rfl,rfl⟩
 simp only [Z2,Jz]
 intro o ho
 rcases Q9.1 ho with ho | ho
 ·exact h.out o ho
 rcases Q9.1 ho with ho | ho
 ·split at ho
  ·cases ho
  ·rename_i hl
   simp only [Q7] at ho
   subst ho
   refine ⟨fun hk=> (by cases hk),fun _=> ?_⟩
   simp only [Zb]
   rw [if_neg (by decide),if_neg (by decide),if_pos (by decide),h.gone,Z4R]
   simp only [Xp,QM,decide_eq_true_eq]
   omega
 ·split at ho
  ·cases ho
  ·rename_i hl
   simp only [Q7] at ho
   subst ho
   refine ⟨fun hk=> (by cases hk),fun _=> ?_⟩
   simp only [Zb]
   rw [if_neg (by decide),if_neg (by decide),if_pos (by decide),h.brought,Z4R]
   simp only [Xp,QM,decide_eq_true_eq]
   omega
theorem ZdB{list d:Int}{w:Wst}{n:Int}(h:OkW list d w)(hn:1<=n):OkW list d (ZK w n):=by
 have hf:=Z77 h
 refine ⟨?_,rfl,rfl⟩
 simp only [ZK]
 intro o ho
 rcases J6 (Z2 w).out n with e | ⟨a,q,e1,e2,e3⟩
 ·rw [e] at ho
  rcases Q9.1 ho with ho | ho
  ·exact hf.out o ho
  ·simp only [Q7] at ho
   subst ho
   exact ⟨fun _=> ⟨hn,rfl,Z4R⟩,fun hk=> absurd rfl hk⟩
 ·rw [e3] at ho
  rcases Q9.1 ho with ho | ho
  ·exact hf.out o (by rw [e1];exact Q9.2 (Or.inl ho))
  ·simp only [Q7] at ho
   subst ho
   have hq:=(hf.out q (by rw [e1];simp)).1 e2
   exact ⟨fun _=> ⟨by simp only;omega,hq.2⟩,fun hk=> absurd e2 hk⟩
theorem ZqB{list d:Int}{w:Wst}{o:Op}(h:OkW list d w)(hr:Zb list o d=true)(hi:Z4 o.e d=true->Z4 (ZI o.e) d=true):OkW list d (Z0i list o w):=by
 obtain ⟨k,n,l,e⟩:=o
 have hr0:=hr
 rw [Zb] at hr
 rw [Z1Z]
 simp only at hi ⊢
 split at hr
 ·rename_i hk
  rw [if_pos hk]
  simp only [Q1,decide_eq_true_eq] at hr
  exact ZdB h hr.1.1
 ·rename_i hk
  rw [if_neg hk]
  split at hr
  ·cases hr
  ·rename_i hn
   split at hr
   ·rename_i h3
    simp only [Q1,decide_eq_true_eq] at hr
    by_cases k1:k=1
    ·rw [if_pos k1]
     exact ⟨h.out,Z30 h.gone (Z1D (Zq6 d) hr.1.1),h.brought⟩
    ·rw [if_neg k1,if_pos (by omega)]
     exact ⟨h.out,h.gone,Z30 h.brought (Z1D (Zq6 d) hr.1.1)⟩
   ·rename_i h3
    rw [if_neg (by omega),if_neg (by omega),if_pos (by omega)]
    split
    ·exact ZdB h (by decide)
    ·have hf:=Z77 h
     refine ⟨?_,rfl,rfl⟩
     intro o ho
     rcases Q9.1 ho with ho | ho
     ·exact hf.out o ho
     ·simp only [Q7] at ho
      subst ho
      refine ⟨fun hk=> (by cases hk),fun _=> ?_⟩
      simp only [Q1,decide_eq_true_eq] at hr
      simp only [Zb]
      rw [if_neg (by decide),if_neg (by decide),if_neg (by decide),Z79,hi hr.1.2]
      simp only [Xp,Q1,decide_eq_true_eq]
      refine ⟨⟨rfl,hr.1.1.2⟩,?_⟩
      rcases hr.2 with h | h | h
      ·exact Or.inl h
      ·exact Or.inr (Or.inl h)
      ·rw [(ZdE e h.1).1,(ZdE e h.1).2,Z25,Z25]
       exact Or.inr (Or.inr h)
def Z0s:List Op->Int
 | []=> 0
 | o ::r=> (if o.kind=2 then 0 else Zt o)+Z0s r
def Z0Y:List Op->Int
 | []=> 0
 | o ::r=> (if o.kind=1 then 0 else Zt o)+Z0Y r
theorem Z1Q:∀ (a b:List Op),Z0s (a++b)=Z0s a+Z0s b
 | [],b=> by simp [Z0s]
 | o ::r,b=> by simp only [Qt,Z0s,Z1Q r b];omega
theorem Z1P:∀ (a b:List Op),Z0Y (a++b)=Z0Y a+Z0Y b
 | [],b=> by simp [Z0Y]
 | o ::r,b=> by simp only [Qt,Z0Y,Z1P r b];omega
theorem Z68:∀ (l:List Op) (n:Int),(∀ o∈l,0<=Zt o)->0<=n->n<=1048576->Jy l n=min (n+Z0s l) 1048576/\0<=Z0s l
 | [],n,_,h1,h2=> by simp only [Jy,Z0s];omega
 | o ::r,n,h,h1,h2=> by
  have ho:=h o (Qa ..)
  simp only [Jy,Z0s]
  have hx:0<=(if o.kind=2 then n else n+Zt o)/\(if o.kind=2 then n else n+Zt o)=n+(if o.kind=2 then 0 else Zt o):=by split <;> omega
  have hy:0<=(if o.kind=2 then 0 else Zt o):=by split <;> omega
  rw [hx.2]
  rw [hx.2] at hx
  generalize (if o.kind=2 then 0 else Zt o)=y at*
  obtain ⟨e1,e2⟩:=Z68 r (min (n+y) 1048576) (fun x hx=> h x (Q5 _ hx)) (by omega) (by omega)
  rw [e1]
  omega
theorem Za1:∀ (l:List Op) (n:Int),(∀ o∈l,0<=Zt o)->0<=n->n<=1048576->Jx l n=min (n+Z0Y l) 1048576/\0<=Z0Y l
 | [],n,_,h1,h2=> by simp only [Jx,Z0Y];omega
 | o ::r,n,h,h1,h2=> by
  have ho:=h o (Qa ..)
  simp only [Jx,Z0Y]
  have hx:0<=(if o.kind=1 then n else n+Zt o)/\(if o.kind=1 then n else n+Zt o)=n+(if o.kind=1 then 0 else Zt o):=by split <;> omega
  have hy:0<=(if o.kind=1 then 0 else Zt o):=by split <;> omega
  rw [hx.2]
  rw [hx.2] at hx
  generalize (if o.kind=1 then 0 else Zt o)=y at*
  obtain ⟨e1,e2⟩:=Za1 r (min (n+y) 1048576) (fun x hx=> h x (Q5 _ hx)) (by omega) (by omega)
  rw [e1]
  omega
theorem Z5K{list d:Int}{o:Op}(h:rOp list d o):0<=Zt o:=by
 unfold Zt
 split
 ·decide
 ·by_cases hk:o.kind=0
  ·have:=(h.1 hk).1;omega
  ·have hr:=h.2 hk
   obtain ⟨k,n,l,e⟩:=o
   simp only at hk ⊢
   rw [Zb,if_neg hk] at hr
   split at hr
   ·cases hr
   ·omega
theorem Zd5:∀ {l:List Op} {o:Op},(∀ o∈l,0<=Zt o)->o∈l->o.kind≠2->Zt o<=Z0s l
 | a ::r,o,h,ho,hk=> by
  have hr:=(Z68 r 0 (fun x hx=> h x (Q5 _ hx)) (by decide) (by decide)).2
  have ha:=h a (Qa ..)
  simp only [Z0s]
  rcases Qc.1 ho with rfl | ho
  ·rw [if_neg hk];omega
  ·have:=Zd5 (fun x hx=> h x (Q5 _ hx)) ho hk
   split <;> omega
def sA(w:Wst):Int:=Z0s w.out+w.gone.length
def sB(w:Wst):Int:=Z0Y w.out+w.brought.length
theorem Z6Q(w:Wst):Z0s (Z2 w).out=sA w/\Z0Y (Z2 w).out=sB w:=by
 simp only [Z2,Jz,sA,sB,Z1Q,Z1P]
 constructor
 ·by_cases hg:w.gone.length=0
  ·rw [if_pos hg]
   by_cases hb:w.brought.length=0
   ·rw [if_pos hb];simp [Z0s];omega
   ·rw [if_neg hb];simp [Z0s];omega
  ·rw [if_neg hg]
   by_cases hb:w.brought.length=0
   ·rw [if_pos hb];simp [Z0s,Zt]
   ·rw [if_neg hb];simp [Z0s,Zt]
 ·by_cases hg:w.gone.length=0
  ·rw [if_pos hg]
   by_cases hb:w.brought.length=0
   ·rw [if_pos hb];simp [Z0Y];omega
   ·rw [if_neg hb];simp [Z0Y,Zt]
  ·rw [if_neg hg]
   by_cases hb:w.brought.length=0
   ·rw [if_pos hb];simp [Z0Y];omega
   ·rw [if_neg hb];simp [Z0Y,Zt]
theorem Zd4(w:Wst)(n:Int):sA (ZK w n)=sA w+n/\sB (ZK w n)=sB w+n:=by
 have hf:=Z6Q w
 simp only [ZK]
 have e1:∀ x,sA ⟨x,[],[]⟩=Z0s x:=fun x=> by simp [sA]
 have e2:∀ x,sB ⟨x,[],[]⟩=Z0Y x:=fun x=> by simp [sB]
 rw [e1,e2,<-hf.1,<-hf.2]
 rcases J6 (Z2 w).out n with e | ⟨a,q,e1,e2,e3⟩
 ·rw [e,Z1Q,Z1P]
  simp [Z0s,Z0Y,Zt]
 ·rw [e3,e1,Z1Q,Z1P,Z1Q,Z1P]
  simp only [Z0s,Z0Y,Zt,e2]
  simp
  omega
theorem Zqp{list d:Int}{w:Wst}{o:Op}(hr:Zb list o d=true):sA (Z0i list o w)=sA w+(if o.kind=2 then 0 else Zt o)/\sB (Z0i list o w)=sB w+(if o.kind=1 then 0 else Zt o):=by
 have hl:∀ l,((Z5 l).length:Int)=l.length:=fun l=> by simp [Z5]
 obtain ⟨k,n,l,e⟩:=o
 rw [Zb] at hr
 rw [Z1Z]
 simp only [Zt]
 split at hr
 ·rename_i hk
  subst hk
  rw [if_pos rfl]
  simp only [Q1,decide_eq_true_eq] at hr
  have:=Zd4 w n
  simp
  omega
 ·rename_i hk
  rw [if_neg hk]
  split at hr
  ·cases hr
  ·rename_i hn
   split at hr
   ·rename_i h3
    by_cases k1:k=1
    ·subst k1
     rw [if_pos rfl]
     simp only [sA,sB,Qf]
     simp [hl]
     omega
    ·have k2:k=2:=by omega
     subst k2
     rw [if_neg k1,if_pos rfl]
     simp only [sA,sB,Qf]
     simp [hl]
     omega
   ·rename_i h3
    have k3:k=3:=by omega
    subst k3
    rw [if_neg (by omega),if_neg (by omega),if_pos rfl]
    split
    ·have:=Zd4 w 1
     simp
     omega
    ·have:=Z6Q w
     simp only [sA,sB,Z1Q,Z1P,Z0s,Z0Y,Zt] at this ⊢
     simp
     omega
mutual
theorem Z15:∀ (e:Edit) (d:Int),Z4 e d=true->Z4 (ZI e) d=true
 | .mk k o n w ks l os,d,h=> by
  have h1:=Z7F ks
  have h2:=ZgX l os
  have h4:=Zgn l os
  rw [Z4] at h
  split at h
  ·cases h
  ·rename_i a
   split at h
   ·cases h
   ·rename_i b
    have nn:ZJ Tree.nil=true:=rfl
    by_cases k1:k=1
    ·subst k1
     rw [if_pos rfl] at h
     have hl:l=0:=by
      apply QQ
      intro hl
      exact b (.inr (.inr ⟨by decide,.inl hl⟩))
     simp only [Q1,decide_eq_true_eq] at h
     rw [ZI,if_pos rfl,Z4,if_neg a,if_neg (by simp [hl]),if_pos rfl]
     simp only [Q1,decide_eq_true_eq]
     rw [Z25,Z25]
     exact ⟨⟨Z1x _ _ h.1.1,Z1x _ _ h.1.2⟩,h.2⟩
    ·rw [if_neg k1] at h
     simp only [Q1,decide_eq_true_eq] at h
     obtain ⟨⟨⟨⟨x1,x2⟩,x3⟩,x4⟩,x5⟩:=h
     rw [ZI,if_neg k1]
     by_cases k2:k=2
     ·have hl:l=0:=by
       apply QQ
       intro hl
       exact b (.inr (.inr ⟨by omega,.inl hl⟩))
      rw [if_pos k2,Z4,if_neg a,if_neg (by simp [nn,hl,k2]),if_neg k1]
      simp only [Q1,decide_eq_true_eq]
      exact ⟨⟨⟨⟨x1,h1 _ _ x2⟩,x3⟩,rfl⟩,by decide⟩
     ·rw [if_neg k2]
      by_cases k3:k=3
      ·rw [if_pos k3,Z4,if_neg a,if_neg (by simp [nn,k3]),if_neg k1]
       simp only [Q1,decide_eq_true_eq]
       have hall:=Z3e.1 x4
       obtain ⟨y1,y2⟩:=Z68 os 0 (fun o ho=> Z5K (Zl0 (hall o ho))) (by decide) (by decide)
       obtain ⟨z1,z2⟩:=Za1 os 0 (fun o ho=> Z5K (Zl0 (hall o ho))) (by decide) (by decide)
       have hw:=h2 (d - 1) W0 x4 ⟨fun o ho=> (by cases ho),rfl,rfl⟩
       have hs:=h4 (d - 1) W0 x4
       have hff:=Z77 hw
       have hsf:=Z6Q (Yd l os W0)
       have e0:sA W0=0/\sB W0=0:=⟨rfl,rfl⟩
       have hA:=Z68 (Z2 (Yd l os W0)).out 0 (fun o ho=> Z5K (hff.out o ho)) (by decide) (by decide)
       have hB:=Za1 (Z2 (Yd l os W0)).out 0 (fun o ho=> Z5K (hff.out o ho)) (by decide) (by decide)
       refine ⟨⟨⟨⟨rfl,rfl⟩,x3⟩,Z3e.2 (fun o ho=> Zqw (hff.out o ho) (fun hk=> ?_))⟩,?_,?_⟩
       ·have hm:=Zd5 (fun o ho=> Z5K (hff.out o ho)) ho (by omega)
        unfold Zt at hm
        rw [if_neg (by omega)] at hm
        omega
       ·show Jy (Z2 (Yd l os W0)).out 0 < 1048576
        omega
       ·show Jx (Z2 (Yd l os W0)).out 0 < 1048576
        omega
      ·have hl:l=0:=by
        apply QQ
        intro hl
        exact b (.inr (.inr ⟨k3,.inl hl⟩))
       rw [if_neg k3,Z4,if_neg a,if_neg (by simp [nn,hl]),if_neg k1]
       simp only [Q1,decide_eq_true_eq]
       exact ⟨⟨⟨⟨rfl,rfl⟩,x3⟩,rfl⟩,by decide⟩
theorem Z7F:∀ (ks:List (KidOf Edit)) (last d:Int),Zp last ks d=true->Zp last (Jh ks) d=true
 | [],_,_,_=> rfl
 | k ::r,last,d,h=> by
  simp only [Zp,Q1] at h
  have h1:=ZbT k last d h.1
  have h2:=Z7F r k.at_ d h.2
  simp only [Jh,Zp,Q1]
  exact ⟨h1,by rw [Zb2];exact h2⟩
theorem ZbT:∀ (k:KidOf Edit) (last d:Int),YI last k d=true->YI last (Z1h k) d=true
 | ⟨a,e⟩,last,d,h=> by
  simp only [YI,Q1] at h
  have h1:=Z15 e d h.2
  simp only [Z1h,YI,Q1]
  rw [Z79]
  exact ⟨h.1,h1⟩
theorem ZgX(list:Int):∀ (os:List (OpOf Edit)) (d:Int) (w:Wst),Zs list os d=true->OkW list d w->OkW list d (Yd list os w)
 | [],_,_,_,hw=> hw
 | o ::r,d,w,h,hw=> by
  simp only [Zs,Q1] at h
  have h1:=ZiF list o d w h.1 hw
  exact ZgX list r d _ h.2 h1
theorem ZiF(list:Int):∀ (o:OpOf Edit) (d:Int) (w:Wst),Zb list o d=true->OkW list d w->OkW list d (Z0i list o w)
 | ⟨k,n,l,e⟩,d,w,h,hw=> ZqB (o:=⟨k,n,l,e⟩) hw h (fun he=> Z15 e d he)
theorem Zgn(list:Int):∀ (os:List (OpOf Edit)) (d:Int) (w:Wst),Zs list os d=true->sA (Yd list os w)=sA w+Z0s os/\sB (Yd list os w)=sB w+Z0Y os
 | [],_,_,_=> by simp [Yd,Z0s,Z0Y]
 | o ::r,d,w,h=> by
  simp only [Zs,Q1] at h
  have h1:=Zqp (w:=w) h.1
  have h2:=Zgn list r d (Z0i list o w) h.2
  simp only [Yd,Z0s,Z0Y]
  omega
end
theorem Z3d:∀ {a b:List Tree},ZQ (a++b)↔ZQ a/\ZQ b
 | [],b=> by simp [ZQ]
 | t ::r,b=> by simp only [Qt,ZQ];rw [Z3d (a:=r),and_assoc]
mutual
theorem Z0g:∀ (t:Tree),rng t->rng (Z3 t)
 | .mk k w ks,h=> by
  simp only [rng] at h
  obtain ⟨h1,h2,h3⟩:=h
  have h4:=ZaP ks h3
  simp only [Z3]
  split
  ·simp only [Tree.nil,rng,ZQ]
   exact ⟨by decide,by simp,trivial⟩
  ·split
   ·obtain ⟨r1,e1⟩:=Z8M w
    obtain ⟨r2,e2⟩:=Z6N (ZN ks)
    simp only [rng]
    refine ⟨by decide,fun x hx=> h2 x (by rw [e1];exact Q9.2 (Or.inl hx)),?_⟩
    rw [e2] at h4
    exact (Z3d.1 h4).1
   ·simp only [rng]
    exact ⟨h1,h2,h4⟩
theorem ZaP:∀ (l:List Tree),ZQ l->ZQ (ZN l)
 | [],_=> trivial
 | t ::r,h=> by
  simp only [ZQ] at h
  have h1:=Z0g t h.1
  have h2:=ZaP r h.2
  simp only [ZN,ZQ]
  exact ⟨h1,h2⟩
end
theorem Z4U:∀ {l:List Tree},ZQ l->ZQ (Z5 l)
 | [],_=> trivial
 | t ::r,h=> by
  simp only [ZQ] at h
  have h2:=Z4U h.2
  simp only [Z5] at h2
  simp only [Z5,QL,ZQ]
  exact ⟨Z0g t h.1,h2⟩
theorem Z0h:rng Tree.nil:=by
 simp only [Tree.nil,rng,ZQ]
 exact ⟨by decide,by simp,trivial⟩
mutual
theorem Z6W:∀ (e:Edit),Yk e->Yk (ZF e)
 | .mk k o n w ks l os,h=> by
  simp only [Yk] at h
  obtain ⟨h1,h2,h3,h4,h5,h6,h7⟩:=h
  have i6:=Z9j ks h6
  have i7:=Z9i os h7
  simp only [ZF,Yk]
  refine ⟨h1,h3,h2,fun x hx=> ?_,h5,i6,i7⟩
  obtain ⟨y,hy,rfl⟩:=Xh.1 hx
  have:=h4 y hy
  simp only [ZeL,Yt] at this ⊢
  exact ⟨this.1,this.2.1,this.2.2.2,this.2.2.1⟩
theorem Z9j:∀ (ks:List (KidOf Edit)),JB ks->JB (ZS ks)
 | [],_=> trivial
 | k ::r,h=> by
  simp only [JB] at h
  have h1:=Zdc k h.1
  have h2:=Z9j r h.2
  simp only [ZS,JB]
  exact ⟨h1,h2⟩
theorem Zdc:∀ (k:KidOf Edit),Z0t k->Z0t (Ys k)
 | ⟨a,e⟩,h=> by
  simp only [Z0t] at h
  have h2:=Z6W e h.2
  simp only [Ys,Z0t]
  exact ⟨h.1,h2⟩
theorem Z9i:∀ (os:List (OpOf Edit)),JK os->JK (ZW os)
 | [],_=> trivial
 | o ::r,h=> by
  simp only [JK] at h
  have h1:=ZeM o h.1
  have h2:=Z9i r h.2
  simp only [ZW,JK]
  exact ⟨h1,h2⟩
theorem ZeM:∀ (o:OpOf Edit),Jg o->Jg (ZX o)
 | ⟨k,n,l,e⟩,h=> by
  simp only [Jg] at h
  have h4:=Z6W e h.2.2.2
  simp only [ZX]
  split
  ·simp only [Jg];exact ⟨by unfold InR;omega,h.2⟩
  ·split
   ·simp only [Jg];exact ⟨by unfold InR;omega,h.2⟩
   ·split
    ·simp only [Jg];exact ⟨h.1,h.2.1,h.2.2.1,h4⟩
    ·simp only [Jg];exact h
end
structure RngW (w:Wst):Prop where
 out:∀ o∈w.out,ZQ o.l/\Yk o.e
 gone:ZQ w.gone
 brought:ZQ w.brought
theorem Z3Z:Yk Edit.nil:=by
 simp only [Edit.nil,Yk,JB,JK]
 exact ⟨by unfold InR;omega,Z0h,Z0h,by simp,by unfold InR;omega,trivial,trivial⟩
theorem Z4T{w:Wst}(h:RngW w):RngW (Z2 w):=by
 refine ⟨?_,trivial,trivial⟩
 simp only [Z2,Jz]
 intro o ho
 rcases Q9.1 ho with ho | ho
 ·exact h.out o ho
 rcases Q9.1 ho with ho | ho
 ·split at ho
  ·cases ho
  ·simp only [Q7] at ho
   subst ho
   exact ⟨h.gone,Z3Z⟩
 ·split at ho
  ·cases ho
  ·simp only [Q7] at ho
   subst ho
   exact ⟨h.brought,Z3Z⟩
theorem ZaM{w:Wst}{n:Int}(h:RngW w):RngW (ZK w n):=by
 have hf:=Z4T h
 refine ⟨?_,trivial,trivial⟩
 simp only [ZK]
 intro o ho
 rcases J6 (Z2 w).out n with e | ⟨a,q,e1,e2,e3⟩
 ·rw [e] at ho
  rcases Q9.1 ho with ho | ho
  ·exact hf.out o ho
  ·simp only [Q7] at ho
   subst ho
   exact ⟨trivial,Z3Z⟩
 ·rw [e3] at ho
  rcases Q9.1 ho with ho | ho
  ·exact hf.out o (by rw [e1];exact Q9.2 (Or.inl ho))
  ·simp only [Q7] at ho
   subst ho
   exact hf.out q (by rw [e1];simp)
theorem Zgy{list:Int}{w:Wst}{o:Op}(h:RngW w)(hl:ZQ o.l)(he:Yk (ZI o.e)):RngW (Z0i list o w):=by
 rw [Z1Z]
 split
 ·exact ZaM h
 ·split
  ·exact ⟨h.out,Z3d.2 ⟨h.gone,Z4U hl⟩,h.brought⟩
  ·split
   ·exact ⟨h.out,h.gone,Z3d.2 ⟨h.brought,Z4U hl⟩⟩
   ·split
    ·split
     ·exact ZaM h
     ·refine ⟨?_,trivial,trivial⟩
      intro o ho
      rcases Q9.1 ho with ho | ho
      ·exact (Z4T h).out o ho
      ·simp only [Q7] at ho
       subst ho
       exact ⟨trivial,he⟩
    ·exact h
theorem Z7E:∀ {os:List Op},(∀ o∈os,Jg o)->JK os
 | [],_=> trivial
 | o ::r,h=> by
  simp only [JK]
  exact ⟨h o (Qa ..),Z7E (fun x hx=> h x (Q5 _ hx))⟩
theorem Zde{list d:Int}{o:Op}(h:Zb list o d=true)(hl:ZQ o.l)(he:Yk o.e):Jg o:=by
 have hn:=Z40 h
 obtain ⟨k,n,l,e⟩:=o
 simp only at hn hl he
 simp only [Jg]
 refine ⟨?_,by unfold InR;omega,hl,he⟩
 rw [Zb] at h
 unfold InR
 split at h
 ·omega
 ·split at h
  ·cases h
  ·omega
mutual
theorem Z3Y:∀ (e:Edit) (d:Int),Z4 e d=true->Yk e->Yk (ZI e)
 | .mk k o n w ks l os,d,hr,h=> by
  have hin:=Z6X hr
  have hout:=Z6X (Z15 _ _ hr)
  simp only [Edit.kids_mk,Edit.ops_mk,Edit.list_mk] at hin
  simp only [Yk] at h
  obtain ⟨h1,h2,h3,h4,h5,h6,h7⟩:=h
  have i6:=ZaO ks (d - 1) (fun k hk=> (hin.1 k hk).1) h6
  have i7:=ZaN l os (d - 1) hin.2 h7 W0 ⟨fun o ho=> (by cases ho),trivial,trivial⟩
  rw [ZI] at hout ⊢
  by_cases k1:k=1
  ·rw [if_pos k1]
   simp only [Yk]
   exact ⟨h1,Z0g o h2,Z0g n h3,by simp,h5,trivial,trivial⟩
  ·rw [if_neg k1] at hout ⊢
   by_cases k2:k=2
   ·rw [if_pos k2]
    simp only [Yk]
    exact ⟨h1,Z0h,Z0h,h4,h5,i6,trivial⟩
   ·rw [if_neg k2] at hout ⊢
    by_cases k3:k=3
    ·rw [if_pos k3] at hout ⊢
     simp only [Yk]
     refine ⟨h1,Z0h,Z0h,by simp,h5,trivial,Z7E (fun q hq=> ?_)⟩
     have hx:=hout.2 q hq
     have hy:=(Z4T i7).out q hq
     exact Zde hx hy.1 hy.2
    ·rw [if_neg k3]
     simp only [Yk]
     exact ⟨h1,Z0h,Z0h,by simp,h5,trivial,trivial⟩
theorem ZaO:∀ (ks:List (KidOf Edit)) (d:Int),(∀ k∈ks,Z4 k.e d=true)->JB ks->JB (Jh ks)
 | [],_,_,_=> trivial
 | k ::r,d,hr,h=> by
  simp only [JB] at h
  have h1:=ZeN k d (hr k (Qa ..)) h.1
  have h2:=ZaO r d (fun x hx=> hr x (Q5 _ hx)) h.2
  simp only [Jh,JB]
  exact ⟨h1,h2⟩
theorem ZeN:∀ (k:KidOf Edit) (d:Int),Z4 k.e d=true->Z0t k->Z0t (Z1h k)
 | ⟨a,e⟩,d,hr,h=> by
  simp only [Z0t] at h
  have h2:=Z3Y e d hr h.2
  simp only [Z1h,Z0t]
  exact ⟨h.1,h2⟩
theorem ZaN(list:Int):∀ (os:List (OpOf Edit)) (d:Int),(∀ o∈os,Zb list o d=true)->JK os->∀ (w:Wst),RngW w->RngW (Yd list os w)
 | [],_,_,_,w,hw=> hw
 | o ::r,d,hr,h,w,hw=> by
  simp only [JK] at h
  have h1:=Ziv list o d (hr o (Qa ..)) h.1 w hw
  exact ZaN list r d (fun x hx=> hr x (Q5 _ hx)) h.2 _ h1
theorem Ziv(list:Int):∀ (o:OpOf Edit) (d:Int),Zb list o d=true->Jg o->∀ (w:Wst),RngW w->RngW (Z0i list o w)
 | ⟨k,n,l,e⟩,d,hr,h,w,hw=> by
  simp only [Jg] at h
  by_cases k3:k=3
  ·have he:Z4 e d=true:=by
    rw [Zb,if_neg (by omega),] at hr
    split at hr
    ·cases hr
    ·rw [if_neg (by omega)] at hr
     simp only [Q1] at hr
     exact hr.1.2
   exact Zgy (o:=⟨k,n,l,e⟩) hw h.2.2.1 (Z3Y e d he h.2.2.2)
  ·have hs:Yk (ZI Edit.nil):=by
    show Yk (.mk 0 Tree.nil Tree.nil [] [] 0 [])
    exact Z3Z
   have e2:Z0i list ⟨k,n,l,e⟩ w=Z0i list ⟨k,n,l,Edit.nil⟩ w:=by
    simp only [Z0i]
    rw [if_neg k3,if_neg k3]
   rw [e2]
   exact Zgy (o:=⟨k,n,l,Edit.nil⟩) hw h.2.2.1 hs
end
end Go.AM.Ytpjenobkibfpcaa
