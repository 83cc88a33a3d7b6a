import Derived.Test.YtpjenobkibfpcaaKE07
import Derived.Test.YtpjenobkibfpcaaKD20
set_option linter.unusedSimpArgs false
set_option linter.unusedVariables false
namespace Go.AM.Ytpjenobkibfpcaa
open Go.AM Go.Proofs
theorem Zgu{a b:Tree}(h:Z7 a=Z7 b)(h0:a.kind≠0)(i:Nat):a.words.getD i 0=b.words.getD i 0:=by
 obtain ⟨_,h2⟩:=(YP a b).1 h
 rcases h2 with h2 | ⟨h2,_⟩
 ·exact absurd h2 h0
 ·split at h2
  ·exact h2 i
  ·rw [h2.1]
theorem Zjj{a b:Tree}(h:Z7 a=Z7 b)(h0:a.kind≠0)(i:Nat):Z7 (a.kids.getD i Tree.nil)=Z7 (b.kids.getD i Tree.nil):=by
 obtain ⟨_,h2⟩:=(YP a b).1 h
 rcases h2 with h2 | ⟨_,h2⟩
 ·exact absurd h2 h0
 ·exact h2 i
theorem ZcW(t:Tree)(i:Int):Zq (Z00 t i)≤Zq t∧(i < t.kids.length→0≤i→Zq (Z00 t i) < Zq t):=by
 obtain ⟨k,w,ks⟩:=t
 unfold Z00
 have h1:Zq Tree.nil=1:=by simp [Tree.nil,Zq,Zg]
 split
 ·simp only [h1,Zq];omega
 ·simp only [Tree.kids_mk]
  by_cases hi:i.toNat < ks.length
  ·have:=Z2b hi
   simp only [Zq];omega
  ·rw [List.getD,List.getElem?_eq_none (by omega)]
   simp only [Option.getD_none,h1,Zq];omega
theorem Zg2:Contract Try.prog cfg 106 Jg:=by
 refine ZsL Zwv Znq c91 ?_
 rintro N a b _ hp hN
 have la:a.words.length+a.kids.length < Zq a:=by obtain ⟨k,w,ks⟩:=a;have:=ZD ks;simp only [Zq,Tree.words_mk,Tree.kids_mk];omega
 have lb:b.words.length+b.kids.length < Zq b:=by obtain ⟨k,w,ks⟩:=b;have:=ZD ks;simp only [Zq,Tree.words_mk,Tree.kids_mk];omega
 simp only [Z1G,Zej] at hp hN
 have no:¬Z7 a=Z7 b→JB cfg Try.f106.ntmps Try.f106.results.toList (Z76 (a,b,())) [] .ret (⟨[(4,.c (.bool false))],[],[]⟩:LSt U):=by
  intro h
  have e:Jo (Z7 a) (Z7 b)=false:=Z1p.2 h
  simp only [Z76,e]
  exact ⟨⟨rfl,⟨rfl,trivial⟩,trivial⟩,trivial⟩
 refine Zyx N _ _ _ ?_;(try simp only [vcT,forall_eq])
 (simp only [vcS]);(try simp only [vcT])
 refine ⟨fun hc=> ?_,fun hc=> ?_⟩
 ·have e:Jo (Z7 a) (Z7 b)=(a.kind==b.kind):=by
   by_cases hk:a.kind=b.kind
   ·have h0:a.kind=0:=by rcases hc with h | h;exact absurd hk h;exact h
    rw [Jd.2 ((YP a b).2 ⟨hk,.inl h0⟩)]
    simp [hk]
   ·rw [Z1p.2 (fun h=> hk ((YP a b).1 h).1)]
    simp [hk]
  simp only [Z76,e]
  exact ⟨⟨rfl,⟨rfl,trivial⟩,trivial⟩,trivial⟩
 ·refine ⟨fun _=> by simp only [Zcr];omega,fun h h'=> ⟨h,h'⟩,fun hd=> no ?_,fun hd=> ?_⟩
  ·intro h
   obtain ⟨_,h2⟩:=(YP a b).1 h
   rcases h2 with h2 | ⟨h2,_⟩
   ·exact hc.2 h2
   ·rw [if_neg hd.1] at h2
    rcases hd.2 with h3 | h3
    ·exact h3 (by omega)
    ·exact h3 h2.1
  ·refine Ze (ι:=Int) (fun p=> Z6v a b p) (fun p=> 0≤p∧p≤2000000000000∧∀ j:Nat,j < p.toNat→a.words.getD j 0=b.words.getD j 0) (fun p=> (2000000000000 - p).toNat) 0 rfl ⟨by omega,by omega,fun j hj=> by simp at hj⟩ ?_
   rintro i ⟨h1,h2,h3⟩
   refine Zod N _ _ _ _ _ ?_;(try simp only [vcT,forall_eq])
   (simp only [vcS]);(try simp only [vcT])
   have wa:∀ t:Tree,JO t i=t.words.getD i.toNat 0:=fun t=> by unfold JO;rw [if_neg (by omega)]
   refine ⟨fun hi=> ⟨trivial,trivial,fun hn=> no fun h=> hn ?_,fun he=> ⟨?_,?_⟩⟩,fun hi=> ?_⟩
   ·rw [wa,wa]
    exact Zgu h hc.2 _
   ·unfold InR;split at hi <;> omega
   ·refine ⟨i+1,rfl,⟨by omega,by split at hi <;> omega,fun j hj=> ?_⟩,by split at hi <;> omega⟩
    by_cases hj':j < i.toNat
    ·exact h3 j hj'
    ·have:j=i.toNat:=by omega
     rw [this,←wa,←wa]
     exact he
   ·have hw:∀ j:Nat,a.words.getD j 0=b.words.getD j 0:=fun j=> by
     by_cases hj:j < i.toNat
     ·exact h3 j hj
     ·split at hi <;> rw [List.getD,List.getD,List.getElem?_eq_none (by omega),List.getElem?_eq_none (by omega)]
    refine Ze (ι:=Int) (fun p=> Z6u a b p) (fun p=> 0≤p∧p≤2000000000000∧∀ j:Nat,j < p.toNat→Z7 (a.kids.getD j Tree.nil)=Z7 (b.kids.getD j Tree.nil)) (fun p=> (2000000000000 - p).toNat) 0 rfl ⟨by omega,by omega,fun j hj=> by simp at hj⟩ ?_
    rintro q ⟨h5,h6,h7⟩
    refine Zoc N _ _ _ _ _ ?_;(try simp only [vcT,forall_eq])
    (simp only [vcS]);(try simp only [vcT])
    have ka:∀ t:Tree,Z00 t q=t.kids.getD q.toNat Tree.nil:=fun t=> by unfold Z00;rw [if_neg (by omega)]
    have ma:=ZcW a q
    have mb:=ZcW b q
    try (simp only [Tree.eta,Edit.eta,Tree.kind_mk,Tree.words_mk,Tree.kids_mk])
    refine ⟨fun hq=> ⟨trivial,trivial,?_,?_,fun hn=> no fun h=> ?_,fun he=> ⟨?_,?_⟩⟩,fun hq=> ?_⟩
    ·simp only [Z1G];omega
    ·simp only [Zej];split at hq <;> omega
    ·rw [Z1p] at hn
     apply hn
     rw [ka,ka]
     exact Zjj h hc.2 _
    ·unfold InR;split at hq <;> omega
    ·refine ⟨q+1,rfl,⟨by omega,by split at hq <;> omega,fun j hj=> ?_⟩,by split at hq <;> omega⟩
     by_cases hj':j < q.toNat
     ·exact h7 j hj'
     ·have:j=q.toNat:=by omega
      rw [this,←ka,←ka]
      exact Jd.1 he
    ·have hk:∀ j:Nat,Z7 (a.kids.getD j Tree.nil)=Z7 (b.kids.getD j Tree.nil):=fun j=> by
      by_cases hj:j < q.toNat
      ·exact h7 j hj
      ·split at hq <;> rw [List.getD,List.getD,List.getElem?_eq_none (by omega),List.getElem?_eq_none (by omega)]
     have e:Jo (Z7 a) (Z7 b)=true:=by
      rw [Jd,YP]
      refine ⟨hc.1,.inr ⟨?_,hk⟩⟩
      split
      ·exact hw
      ·rename_i h1
       rcases hd with hd | hd
       ·exact absurd hd h1
       ·exact ⟨hd.2,by have:=hd.1;omega⟩
     simp only [Z76,e]
     exact ⟨⟨rfl,⟨rfl,trivial⟩,trivial⟩,trivial⟩
end Go.AM.Ytpjenobkibfpcaa
namespace Go.AM.Ytpjenobkibfpcaa
open Go.AM Go.Proofs
mutual
theorem Z0D:∀ (t:Tree) (d l:Int),0≤ZH t d l→(Zq t:Int)+ZH t d l≤l
 | .mk _ w ks,d,l,h=> by
  simp only [ZH] at h ⊢
  split at h
  ·omega
  ·rename_i hc
   rw [if_neg hc]
   have:=Z3r ks (d - 1) (l - 1 - w.length) h
   simp only [Zq]
   omega
theorem Z3r:∀ (ks:List Tree) (d l:Int),0≤Zy ks d l→(Zg ks:Int)+Zy ks d l≤l
 | [],d,l,h=> by simp [Zy,Zg]
 | t ::r,d,l,h=> by
  simp only [Zy] at h ⊢
  split at h
  ·omega
  ·rename_i hc
   rw [if_neg hc]
   have h1:=Z3r r d (ZH t d l) h
   have h3:=(Z0E r d (ZH t d l) (YT t d l).1).2
   have h2:=Z0D t d l (by omega)
   simp only [Zg]
   omega
end
end Go.AM.Ytpjenobkibfpcaa
namespace Go.AM.Ytpjenobkibfpcaa
open Go.AM Go.Proofs
theorem Z4{n k:Nat}{rs:List ResultVar}{b b':Bool}(hr:rs=[ResultVar.tmp k])(h:b=b'):JB cfg n rs (.c (.bool b')) [] .ret (⟨[(k,.c (.bool b))],[],[]⟩:LSt U):=by
 subst hr h
 have hk:Nat.beq k k=true:=Nat.beq_refl k
 simp [JB,Zx2,ZeL,ZeK,Z73,Z9i,LSt.toF,Zdx,hk,Zcw,Z3s,YH,Z0a,leR,leL,leC,ZnD]
theorem Yy{n k:Nat}{rs:List ResultVar}{K:IntKind}{b b':Int}(hr:rs=[ResultVar.tmp k])(h:b=b'):JB cfg n rs (.c (.int K b')) [] .ret (⟨[(k,.c (.int K b))],[],[]⟩:LSt U):=by
 subst hr h
 have hk:Nat.beq k k=true:=Nat.beq_refl k
 simp [JB,Zx2,ZeL,ZeK,Z73,Z9i,LSt.toF,Zdx,hk,Zcw,Z3s,YH,Z0a,leR,leL,leC,ZnD]
theorem ZwF:Contract Try.prog cfg 116 Z7T:=by
 refine ZsJ ?_
 intro c _ _
 refine Zyt _ _ ?_
 (simp only [vcS])
 refine ⟨fun h=> Yy rfl ?_,fun h=> ⟨fun h=> Yy rfl ?_,fun h=> ⟨fun h=> Yy rfl ?_,fun h=> ⟨fun h=> Yy rfl ?_,fun h=> ⟨fun h=> Yy rfl ?_,fun h=> ⟨fun h=> Yy rfl ?_,fun h=> Yy rfl ?_⟩⟩⟩⟩⟩⟩ <;> simp only [wd] <;> simp [*]
theorem ZnN(c:Int): -1≤wd c∧wd c≤64:=by
 unfold wd
 repeat' split
 all_goals omega
theorem Zid(n:Int)(h0:0≤n)(h1:n < 18446744073709551616):IntKind.wrap .u64 (Int.tdiv n 2)=n / 2:=by
 rw [Int.tdiv_eq_ediv_of_nonneg h0]
 simp [IntKind.wrap,IntKind.signed,IntKind.bits]
 omega
theorem Zph{w:Nat}{n m:Int}(h:0≤n):(n / 2 < 2 ^ w)↔n < 2 ^ (w+1):=by
 have:(2:Int) ^ (w+1)=2 ^ w*2:=by rw [Int.pow_succ]
 omega
theorem c79:Contract Try.prog cfg 79 ZbG:=by
 refine Zvq ZwF ?_
 intro c n _ hp
 simp only [Zh8] at hp
 have hw:=ZnN c
 refine ZzG _ _ _ ?_
 (simp only [vcS])
 refine ⟨trivial,fun h=> Z4 rfl ?_,fun h=> ?_⟩
 ·simp only [ZaZ]
  simp
  omega
 ·refine Ze (ι:=Int × Int) (fun p=> Z2R c n p.1 p.2) (fun p=> 0≤p.2∧p.2≤wd c∧0≤p.1∧p.1 < 18446744073709551616∧(n < 2 ^ (wd c).toNat↔p.1 < 2 ^ (wd c - p.2).toNat)) (fun p=> (wd c - p.2).toNat) (n,0) rfl ⟨by dsimp only;omega,by dsimp only;omega,by dsimp only;omega,by dsimp only;omega,by simp⟩ ?_
  rintro ⟨m,i⟩ ⟨h1,h2,h3,h4,h5⟩
  dsimp only at*
  refine Zry _ _ _ _ _ _ ?_
  (simp only [vcS])
  refine ⟨fun hc=> ⟨by omega,by unfold InR;omega,(IntKind.wrap .u64 (Int.tdiv m 2),i+1),rfl,?_,by dsimp only;omega⟩,fun hc=> Z4 rfl ?_⟩
  ·rw [Zid m h3 h4]
   refine ⟨by dsimp only;omega,by dsimp only;omega,by dsimp only;omega,by dsimp only;omega,?_⟩
   dsimp only
   rw [h5,show (wd c - i).toNat=(wd c - (i+1)).toNat+1 by omega]
   exact (Zph (m:=0) h3).symm
  ·have e:(wd c - i).toNat=0:=by omega
   rw [e] at h5
   simp only [ZaZ]
   rw [Bool.eq_iff_iff]
   simp
   omega
theorem Zwi:Contract Try.prog cfg 194 Z7G:=by
 refine Zsf ?_
 intro c _ _
 refine ZxR _ _ ?_
 (simp only [vcS])
 have hw:=ZnN c
 refine ⟨fun h=> ?_,fun h=> ⟨by omega,?_⟩⟩
 ·have e:wd c= -1:=by unfold wd;(repeat' split) <;> omega
  simp only [ZiC,e]
  exact ⟨⟨rfl,⟨⟨rfl,rfl⟩,trivial⟩,rfl,⟨rfl,trivial⟩,trivial⟩,trivial⟩
 ·have hc:c=0∨c=1∨c=2∨c=3∨c=4∨c=5:=by omega
  rcases hc with rfl | rfl | rfl | rfl | rfl | rfl <;> exact ⟨⟨rfl,⟨⟨rfl,rfl⟩,trivial⟩,rfl,⟨rfl,trivial⟩,trivial⟩,trivial⟩
theorem Zqy(n:Int)(w:Nat)(h:0≤n):(Int.fdiv n (2 ^ w)=0)↔n < 2 ^ w:=by
 have hp:(0:Int) < 2 ^ w:=Int.pow_pos (by omega)
 rw [Int.fdiv_eq_ediv_of_nonneg _ (by omega)]
 constructor
 ·intro h1
  have:=Int.lt_ediv_add_one_mul_self n hp
  rw [h1] at this
  simpa using this
 ·intro h1
  exact Int.ediv_eq_zero_of_lt h h1
theorem Zwp:Contract Try.prog cfg 183 Z7L:=by
 refine Zso Zwi ?_
 intro c n _ hp
 simp only [Zcn] at hp
 have hw:=ZnN c
 refine Zy0 _ _ _ ?_
 refine ⟨trivial,fun h=> by split <;> omega,Z4 rfl ?_⟩
 simp only [ZaZ]
 by_cases h0:0≤wd c
 ·rw [if_neg (by omega)]
  simp only [h0,decide_true,cond_true,true_and]
  by_cases h64:wd c=64
  ·simp [h64]
   omega
  ·have:((wd c)==64)=false:=by simpa using h64
   rw [this,cond_false,Bool.eq_iff_iff]
   have hm:min (wd c).toNat (IntKind.bits .u64)=(wd c).toNat:=by
    show min (wd c).toNat 64=_
    omega
   rw [hm]
   simp only [beq_iff_eq,decide_eq_true_eq]
   exact Zqy n _ hp.1
 ·simp [h0]
theorem c92:Contract Try.prog cfg 92 Z3q:=by
 refine Zvl ?_
 intro c _ _
 refine Zzz _ _ ?_
 refine Z4 rfl ?_
 rw [Bool.eq_iff_iff]
 (simp only [vcS])
theorem Zg1:Contract Try.prog cfg 120 Z1c:=by
 refine ZsH ?_
 intro c _ _
 refine Zyq _ _ ?_
 refine Z4 rfl ?_
 rw [Bool.eq_iff_iff]
 (simp only [vcS])
theorem ZgO{t:Tree}(h:rng t){i:Nat}(hi:i < t.words.length):0≤t.words.getD i 0∧t.words.getD i 0 < 18446744073709551616:=by
 obtain ⟨k,w,ks⟩:=t
 simp only [rng] at h
 simp only [Tree.words_mk] at*
 have hg:w.getD i 0∈w:=by
  simp only [List.getD,List.getElem?_eq_getElem hi,Option.getD_some]
  exact List.getElem_mem hi
 exact h.2.1 _ hg
theorem Zws:Contract Try.prog cfg 162 Z7N:=by
 refine Zss Zg1 Zwp ?_
 intro l t _ hp
 simp only [Zco] at hp
 refine Zy6 _ _ _ ?_
 (simp only [vcS])
 refine ⟨trivial,fun hd=> ⟨fun _=> by unfold InR;omega,fun h=> by omega,fun h=> ZgO hp (by omega),Z4 rfl ?_⟩,fun hd=> ⟨fun h=> Z4 rfl ?_,fun h=> Z4 rfl ?_⟩⟩
 ·simp only [Jz,if_pos hd,Int.toNat_zero]
  rw [Bool.eq_iff_iff]
  (simp only [vcS])
  constructor <;> (rintro ⟨h1,h2⟩;exact ⟨by omega,h2⟩)
 ·simp only [Jz,if_neg hd,if_pos h]
  rw [Bool.eq_iff_iff]
  (simp only [vcS])
 ·simp only [Jz,if_neg hd,if_neg h]
  rw [Bool.eq_iff_iff]
  (simp only [vcS])
theorem Zaa{l:Int}{ks:List Tree}{i:Int}{d:Int}(h0:0≤i)(h:i < ks.length):
  Y7 l (ks.drop i.toNat) d=((Jz l (ks.getD i.toNat Tree.nil) && Z9 (ks.getD i.toNat Tree.nil) d) && Y7 l (ks.drop (i+1).toNat) d):=by
 have e:(i+1).toNat=i.toNat+1:=by omega
 rw [List.drop_eq_getElem_cons (by omega),e]
 simp only [Y7,List.getD,List.getElem?_eq_getElem (show i.toNat < ks.length by omega),Option.getD_some]
theorem Zc5:∀ {ks:List Tree} {i:Nat},Yb ks→i < ks.length→rng (ks.getD i Tree.nil)
 | t ::_,0,h,_=> by simp only [Yb] at h;exact h.1
 | _ ::r,i+1,h,hi=> by simp only [Yb] at h;exact Zc5 (ks:=r) (i:=i) h.2 (by simpa using hi)
theorem ZhK(t:Tree):Jz 1 t=decide (t.kind≠10):=by simp [Jz]
theorem ZwE:Contract Try.prog cfg 117 Z7S:=by
 refine ZsI c92 Zws ?_
 rintro N ⟨k,ws,ks⟩ d _ hp hN
 simp only [Z3y,Z6M,Zq,rng] at hp hN
 have key:∀ b,d≠0→Z9 (.mk k ws ks) d=(b && Y7 k ks (d - 1))→b=true→
   Zl (awp cfg (Z1 (YR N)) (ZJ cfg (Z1 (YR N))) Try.f117.ntmps Z1I (cd Try.f117 [1,1,0,1,0,0])) (J5 (.mk k ws ks) d 0) (AExit.inBlock 1 (Z7Y cfg (Z1 (YR N)) (ZJ cfg (Z1 (YR N))) Try.f117.ntmps Z1I (cd Try.f117 [1,1,1]) (JB cfg Try.f117.ntmps Try.f117.results.toList (Zfj (.mk k ws ks,d,())) []))):=by
  intro b hd0 hb hbt
  subst hbt
  rw [Bool.true_and] at hb
  refine Ze (ι:=Int) (fun p=> J5 (.mk k ws ks) d p) (fun p=> 0≤p∧p≤ks.length∧Z9 (.mk k ws ks) d=Y7 k (ks.drop p.toNat) (d - 1)) (fun p=> ((ks.length:Int) - p).toNat) 0 rfl ⟨by omega,by omega,by simpa using hb⟩ ?_
  rintro i ⟨h1,h2,h3⟩
  refine Zo5 N _ _ _ _ _ ?_
  (simp only [vcS])
  (simp only [Tree.eta,Edit.eta,Tree.kind_mk,Tree.words_mk,Tree.kids_mk])
  refine ⟨fun hi=> ⟨⟨by omega,hi⟩,?_⟩,fun hi=> ?_⟩
  ·have hd:=Zaa (l:=k) (d:=d - 1) h1 hi
   have hm:=Z2b (ks:=ks) (i:=i.toNat) (by omega)
   have hr:=Zc5 (i:=i.toNat) hp.2.1.2.2 (by omega)
   rw [hd] at h3
   have hlen:=ZD ks
   generalize ks.getD i.toNat Tree.nil=y at*
   have hpre:Z3y (y,d - 1,()):=⟨by dsimp only;omega,hr,by dsimp only;omega,by dsimp only;omega⟩
   have hmu:Z6M (y,d - 1,()) < N:=by simp only [Z6M];omega
   have hin:InR (d - 1):=by unfold InR;omega
   refine ⟨fun hk=> ⟨hr,fun _=> hin,fun _=> hpre,fun _=> hmu,fun hc=> Z4 rfl ?_,fun hc=> ⟨by unfold InR;omega,i+1,rfl,⟨by omega,by omega,?_⟩,by omega⟩⟩,fun hk=> ⟨fun _=> hin,fun _=> hpre,fun _=> hmu,fun hc=> Z4 rfl ?_,fun hc=> ⟨by unfold InR;omega,i+1,rfl,⟨by omega,by omega,?_⟩,by omega⟩⟩⟩
   ·rw [h3]
    rcases hc with hc | hc <;> simp [hc]
   ·rw [h3,hc.1,hc.2];try rfl
   ·subst hk
    rw [h3,ZhK]
    rcases hc with hc | hc <;> simp [hc]
   ·subst hk
    rw [h3,ZhK,hc.2]
    simp [hc.1]
  ·rw [List.drop_eq_nil_of_le (by omega)] at h3
   simp only [Y7] at h3
   exact Z4 rfl h3.symm
 refine Zys N _ _ _ ?_
 (simp only [vcS])
 (simp only [Tree.eta,Edit.eta,Tree.kind_mk,Tree.words_mk,Tree.kids_mk])
 have hk0:∀ h0:k=0,Z9 (.mk k ws ks) d=decide (ws.length=0∧ks.length=0):=fun h0=> by simp only [Z9,if_pos h0]
 have hk10:∀ (_:¬k=0) (h10:k=10),Z9 (.mk k ws ks) d=decide (ws.length=1∧ks.length=0):=fun h0 h10=> by simp only [Z9,if_neg h0,if_pos h10]
 refine ⟨fun h0=> Z4 rfl ?_,fun h0=> ⟨fun h10=> Z4 rfl ?_,fun h10=> ⟨fun hd=> Z4 rfl ?_,fun hd=> ⟨fun h1=> ⟨fun hc=> Z4 rfl ?_,fun hc=> key true hd ?_ rfl⟩,fun h1=> ⟨trivial,fun hc=> Z4 rfl ?_,fun hc=> key true hd ?_ rfl⟩⟩⟩⟩⟩
 ·rw [hk0 h0,Bool.eq_iff_iff];(simp only [vcS]);omega
 ·rw [hk10 h0 h10,Bool.eq_iff_iff];(simp only [vcS]);omega
 ·simp only [Z9,if_neg h0,if_neg h10,if_pos hd]
 ·simp only [Z9,if_neg h0,if_neg h10,if_neg hd,if_pos h1]
  rw [decide_eq_false (by omega)];try rfl
 ·simp only [Z9,if_neg h0,if_neg h10,if_neg hd,if_pos h1]
  rw [decide_eq_true (by omega),h1]
 ·simp only [Z9,if_neg h0,if_neg h10,if_neg hd,if_neg h1]
  rw [decide_eq_false (by omega)];try rfl
 ·simp only [Z9,if_neg h0,if_neg h10,if_neg hd,if_neg h1]
  rw [decide_eq_true (by omega)]
theorem c80:Contract Try.prog cfg 80 Z5c:=by
 refine Zvp ZwE ?_
 intro t _ hp
 refine ZzF _ _ ?_
 (simp only [Tree.eta,Edit.eta,Tree.kind_mk,Tree.words_mk,Tree.kids_mk])
 exact ⟨⟨hp.1,hp.2,by dsimp only;omega,by dsimp only;omega⟩,Z4 rfl rfl⟩
theorem ZgV{y:Tree}{d:Int}(h:Z9 y d=true)(hk:y.kind=10):y.words.length=1∧y.kids.length=0:=by
 obtain ⟨k,w,ks⟩:=y
 simp only [Tree.kind_mk] at hk
 subst hk
 simpa [Z9] using h
theorem c37:Contract Try.prog cfg 37 Z4r:=by
 refine ZvE c79 ?_
 rintro N ⟨k,ws,ks⟩ d _ hp hN
 simp only [Z55,Zhs,Zq,rng] at hp hN
 refine ZzZ N _ _ _ ?_
 (simp only [vcS])
 (simp only [Tree.eta,Edit.eta,Tree.kind_mk,Tree.words_mk,Tree.kids_mk])
 refine ⟨fun h0=> Z4 rfl ?_,fun h0=> ⟨fun h10=> Z4 rfl ?_,fun h10=> ⟨fun hc=> Z4 rfl ?_,fun hc=> ⟨fun hw=> Z4 rfl ?_,fun hw=> ?_⟩⟩⟩⟩
 ·simp only [Z9,if_pos h0]
  rw [Bool.eq_iff_iff];(simp only [vcS]);omega
 ·simp only [Z9,if_neg h0,if_pos h10]
  rw [Bool.eq_iff_iff];(simp only [vcS]);omega
 ·simp only [Z9,if_neg h0,if_neg h10]
  split
  ·try rfl
  ·split
   ·rw [decide_eq_false (by omega)];try rfl
   ·have:¬(2≤k∧k≤9∧ws.length=0∧ks.length < 1048576):=by omega
    rw [decide_eq_false this];try rfl
 ·simp only [Z9,if_neg h0,if_neg h10]
  rw [if_neg (by omega),if_neg (by omega)]
  have:¬(2≤k∧k≤9∧ws.length=0∧ks.length < 1048576):=by omega
  rw [decide_eq_false this];try rfl
 ·have hb:Z9 (.mk k ws ks) d=Y7 k ks (d - 1):=by
   simp only [Z9,if_neg h0,if_neg h10]
   rw [if_neg (by omega)]
   split
   ·rename_i h1
    rw [decide_eq_true (by omega),h1];try rfl
   ·have:2≤k∧k≤9∧ws.length=0∧ks.length < 1048576:=by omega
    rw [decide_eq_true this];try rfl
  refine Ze (ι:=Int) (fun p=> Z2T (.mk k ws ks) d p) (fun p=> 0≤p∧p≤ks.length∧Z9 (.mk k ws ks) d=Y7 k (ks.drop p.toNat) (d - 1)) (fun p=> ((ks.length:Int) - p).toNat) 0 rfl ⟨by omega,by omega,by simpa using hb⟩ ?_
  rintro i ⟨h1,h2,h3⟩
  refine ZrS N _ _ _ _ _ ?_
  (simp only [vcS])
  (simp only [Tree.eta,Edit.eta,Tree.kind_mk,Tree.words_mk,Tree.kids_mk])
  refine ⟨fun hi=> ?_,fun hi=> ?_⟩
  ·have hd:=Zaa (l:=k) (d:=d - 1) h1 hi
   have hm:=Z2b (ks:=ks) (i:=i.toNat) (by omega)
   have hr:=Zc5 (i:=i.toNat) hp.2.1.2.2 (by omega)
   rw [hd] at h3
   have hlen:=ZD ks
   generalize ks.getD i.toNat Tree.nil=y at*
   have hpre:Z55 (y,d - 1,()):=⟨by dsimp only;omega,hr,by dsimp only;omega,by dsimp only;omega⟩
   have hmu:Zhs (y,d - 1,()) < N:=by simp only [Zhs];omega
   have hin:InR (d - 1):=by unfold InR;omega
   refine ⟨⟨h1,hi⟩,hin,hpre,hmu,fun hf=> Z4 rfl ?_,fun hf=> ?_⟩
   ·rw [h3,hf];simp
   ·have hdata:((bif decide (2≤k) then decide (k≤7) else false)=(y.kind==10))↔((2≤k∧k≤7)↔y.kind=10):=by
     rw [Bool.eq_iff_iff];(simp only [vcS])
    have hat:=ZgV hf
    have hkb:Jz k y=true↔(((2≤k∧k≤7)↔y.kind=10)∧(¬k=9∨y.kind=1))∧((¬2≤k∨¬k≤7)∨ZaZ (k - 2) (y.words.getD 0 0)=true):=by
     unfold Jz
     by_cases hk:2≤k∧k≤7
     ·rw [if_pos hk]
      (simp only [vcS])
      constructor
      ·rintro ⟨h4,h5⟩;exact ⟨⟨by omega,by omega⟩,.inr h5⟩
      ·rintro ⟨⟨h4,_⟩,h5⟩
       have:=hat (by omega)
       exact ⟨by omega,by rcases h5 with h5 | h5;omega;exact h5⟩
     ·rw [if_neg hk]
      by_cases h9:k=9
      ·rw [if_pos h9]
       (simp only [vcS])
       constructor
       ·intro h4;exact ⟨⟨by omega,by omega⟩,.inl (by omega)⟩
       ·rintro ⟨⟨_,h4⟩,_⟩;omega
      ·rw [if_neg h9]
       (simp only [vcS])
       constructor
       ·intro h4;exact ⟨⟨by omega,by omega⟩,.inl (by omega)⟩
       ·rintro ⟨⟨h4,_⟩,_⟩;omega
    have hone:∀ (h4:(((bif decide (2≤k) then decide (k≤7) else false)=(y.kind==10)∧(¬k=9∨y.kind=1))∧2≤k∧k≤7)),y.words.length=1:=fun h4=> (hat ((hdata.1 h4.1.1).1 h4.2)).1
    simp only [Int.toNat_zero]
    refine ⟨fun h4=> by unfold InR;omega,fun h4=> by have:=hone h4;omega,fun h4=> ZgO hr (by have:=hone h4;omega),fun h4=> Z4 rfl ?_,fun h4=> ⟨by unfold InR;omega,i+1,rfl,⟨by omega,by omega,?_⟩,by omega⟩⟩
    ·have hno:Jz k y=false:=by
      cases hkk:Jz k y with
      | false=> rfl
      | true=>
       exfalso
       obtain ⟨h5,h6⟩:=hkb.1 hkk
       rcases h4 with h4 | ⟨h4,h7⟩
       ·rcases h4 with h4 | h4
        ·exact h4 (hdata.2 h5.1)
        ·omega
       ·rcases h6 with h6 | h6
        ·omega
        ·rw [h7] at h6;cases h6
     rw [h3,hno];try rfl
    ·rw [h3,hkb.2 ⟨⟨hdata.1 h4.1.1,h4.1.2⟩,h4.2⟩,hf];try rfl
  ·rw [List.drop_eq_nil_of_le (by omega)] at h3
   simp only [Y7] at h3
   exact Z4 rfl h3.symm
theorem Zev{t:Tree}(h:0≤ZH t 80 3000):Zq t≤20000000000:=by
 have:=Z0D t 80 3000 h
 omega
end Go.AM.Ytpjenobkibfpcaa
namespace Go.AM.Ytpjenobkibfpcaa
open Go.AM Go.Proofs
noncomputable section
def ZqZ:ArgL (Int × Unit):=(.cons (J3 .u64) .nil)
def Zh9(a:Int × Unit):Prop:=0≤a.1∧a.1 < 18446744073709551616
def ZoC(a:Int × Unit):V U:= .agg [.int .u8 (Zd a.1 0),.int .u8 (Zd a.1 1),.int .u8 (Zd a.1 2),.int .u8 (Zd a.1 3),.int .u8 (Zd a.1 4),.int .u8 (Zd a.1 5),.int .u8 (Zd a.1 6),.int .u8 (Zd a.1 7)]
def ZbJ:Fs U:=fs ZqZ (fun a=> [Zh9 a]) ZoC
def ZqY:ArgL (Int × Int × Unit):=(.cons (J3 .u8) (.cons (J3 .i64) .nil))
def Zkr(a:Int × Int × Unit):Prop:=(0≤a.1∧a.1 < 256)∧0≤a.2.1∧a.2.1≤8
def Zuj(a:Int × Int × Unit):V U:= .c (.bool (YC a.1 a.2.1))
def ZbI:Fs U:=fs ZqY (fun a=> [Zkr a]) Zuj
def ZqX:ArgL (List Int × Int × Unit):=(.cons (aSl .u8) (.cons (J3 .i64) .nil))
def Zpe(a:List Int × Int × Unit):Prop:=a.2.1=0∧a.1.length=8∧∀ x∈a.1,0≤x∧x < 256
def Zui(a:List Int × Int × Unit):V U:= .c (.int .u64 (of8 (fun i=> a.1.getD i 0)))
def ZbH:Fs U:=fs ZqX (fun a=> [Zpe a]) Zui
def ZlT:ArgL (Int × Int × Int × Unit):=(.cons (J3 .u64) (.cons (J3 .u64) (.cons (J3 .u8) .nil)))
def Zft(a:Int × Int × Int × Unit):Prop:=(0≤a.1∧a.1 < 18446744073709551616)∧(0≤a.2.1∧a.2.1 < 18446744073709551616)∧(0≤a.2.2.1∧a.2.2.1 < 256)
def Zp2(a:Int × Int × Int × Unit):V U:= .c (.int .u64 (mix a.1 a.2.1 a.2.2.1))
def Z7W:Fs U:=fs ZlT (fun a=> [Zft a]) Zp2
def Zr3:ArgL (Tree × Unit):=(.cons (aEl .tree) .nil)
def Z5s(a:Tree × Unit):Prop:=Zq a.1≤20000000000
def Zum(a:Tree × Unit):V U:= .c (.bool (ZT a.1))
def Z4q:Fs U:=fs Zr3 (fun a=> [Z5s a]) Zum
def Zr2:ArgL (Int × Int × Unit):=(.cons (J3 .u64) (.cons (J3 .u8) .nil))
def Zks(a:Int × Int × Unit):Prop:=(0≤a.1∧a.1 < 18446744073709551616)∧(0≤a.2.1∧a.2.1 < 256)
def Zul(a:Int × Int × Unit):V U:= .c (.bool (ZK a.1 a.2.1))
def Z9d:Fs U:=fs Zr2 (fun a=> [Zks a]) Zul
def ZlS:ArgL (Edit × Unit):=(.cons (aEl .edit) .nil)
def Z7c(a:Edit × Unit):Prop:=Zc a.1≤20000000000
def Zp1(a:Edit × Unit):V U:= .c (.bool (Z0V a.1))
def Z64:Fs U:=fs ZlS (fun a=> [Z7c a]) Zp1
def Zr1:ArgL (Edit × Unit):=(.cons (aEl .edit) .nil)
def Zha(a:Edit × Unit):Prop:=Zc a.1≤20000000000∧∀ o∈Edit.ops a.1,0≤o.n∧o.n≤1048576
def ZoD(a:Edit × Unit):V U:= .tup [(false,[ci (Z0d a.1.ops 0)]),(false,[ci (Z0c a.1.ops 0)])]
def Z4p:Fs U:=fs Zr1 (fun a=> [Zha a]) ZoD
def Zjw:ArgL (Edit × Int × Int × Unit):=(.cons (aEl .edit) (.cons (J3 .i64) (.cons (J3 .i64) .nil)))
def Zci(a:Edit × Int × Int × Unit):Prop:=Z2r a.1∧0≤a.2.1∧a.2.1≤4611686018427387904∧-1≤a.2.2.1∧a.2.2.1≤4611686018427387904
def Zhp(a:Edit × Int × Int × Unit):Nat:=Zc a.1
def Zke(a:Edit × Int × Int × Unit):V U:= .c (ci (Z0Q a.1 a.2.1 a.2.2.1))
def ZbE:Fs U:=fs Zjw (fun a=> [Zci a]) Zke
def Zr4:ArgL (Edit × Unit):=(.cons (aEl .edit) .nil)
def Zpf(a:Edit × Unit):Prop:=Z2r a.1
def Zun(a:Edit × Unit):V U:= .c (.bool (decide (0≤Z0Q a.1 80 3000)))
def ZbL:Fs U:=fs Zr4 (fun a=> [Zpf a]) Zun
def Zje:List (FuncId × Fs U):=[]
def ZsY:Zh U:=lvl [([0,2],[2]),([0,2,3],[2,3]),([0,2,3,4],[2,3]),([0,2,3,4,7],[2,3]),([0,2,3,4],[2,3]),([0,2,3,4],[2,3]),([0,2,3,4],[2,3]),([2],[2])]
def Z5Q(w x0 x4 ml3_0 ml3_1 ml3_2 ml3_3 ml3_4 ml3_5 ml3_6 ml3_7:Int):LSt U:=(L2 [(0,.c (.int .u64 x0)),(2,.ptr (.loc 2) 0),(3,.ptr (.loc 3) 0),(4,.c (ci x4))] [(.loc 2,zc0),(.loc 3,[.int .u8 ml3_0,.int .u8 ml3_1,.int .u8 ml3_2,.int .u8 ml3_3,.int .u8 ml3_4,.int .u8 ml3_5,.int .u8 ml3_6,.int .u8 ml3_7])])
abbrev A67(p:List Nat):=AW (Z1 Zje) Try.f67 ZsY p
abbrev S67(p:List Nat):=SW (Z1 Zje) Try.f67 ZsY p
theorem ZzM(w:Int)(Q:QT)(h:(Zl (A67 [1,1,0,1,0,0]) (Z5Q w w 0 0 0 0 0 0 0 0 0) (xB 0 (S67 [1,1,1] Q)))):
  A67 [] (L2 [(0,.c (.int .u64 w))] []) Q:=
 Eq.mpr (by kernel_rfl) h
theorem ZrF(w x0 x4 ml3_0 ml3_1 ml3_2 ml3_3 ml3_4 ml3_5 ml3_6 ml3_7:Int)(N0:NT)(Q:QT)(h:let z0:=IntKind.wrap .u8 (Int.tmod x0 256);(((decide (x4 < 8))=true→((256:Int)≠0)∧((0:Int)≤x4∧x4 < ((8:Nat):Int))∧(((256:Int)≠0)∧((InR (x4+1))∧(N0 (Z5Q w (IntKind.wrap .u64 (Int.tdiv x0 256)) (x4+1) (Z1C x4 0 z0 ml3_0) (Z1C x4 1 z0 ml3_1) (Z1C x4 2 z0 ml3_2) (Z1C x4 3 z0 ml3_3) (Z1C x4 4 z0 ml3_4) (Z1C x4 5 z0 ml3_5) (Z1C x4 6 z0 ml3_6) (Z1C x4 7 z0 ml3_7))))))∧((decide (x4 < 8))=false→(Q .ret (L2 [(2,.ptr (.loc 2) 0)] [(.loc 2,[.int .u8 ml3_0,.int .u8 ml3_1,.int .u8 ml3_2,.int .u8 ml3_3,.int .u8 ml3_4,.int .u8 ml3_5,.int .u8 ml3_6,.int .u8 ml3_7])]))))):
  A67 [1,1,0,1,0,0] (Z5Q w x0 x4 ml3_0 ml3_1 ml3_2 ml3_3 ml3_4 ml3_5 ml3_6 ml3_7) (xT N0 (xB 0 (S67 [1,1,1] Q))):=
 Eq.mpr (by kernel_rfl) h
def Zxk(w:Int):Prop:=AW (Z1 Zje) Try.f67 ZsY [] (Zn (ZqZ.can (w,())) []) (EQ Try.f67 (ZoC (w,())) [])
theorem Zvv(hb:∀ (w:Int) (_:Unit),Zh9 (w,())→Zxk w):CT 67 ZbJ:=
 Z6 (l:=[]) Zo rfl trivial ZsY Try.func67 rfl rfl 1 (fun _=> rfl) (by decide) (fun ⟨w,_⟩=> hb w ())
def Zjd:List (FuncId × Fs U):=[]
def ZsX:Zh U:=lvl [([0,1],[]),([0,1,5],[]),([0,1,5,8],[]),([0,1,5],[]),([0,1,5],[]),([4],[])]
def Z8J(m i x0 x5:Int):LSt U:=(L2 [(0,.c (.int .u8 x0)),(1,.c (ci i)),(5,.c (ci x5))] [])
abbrev A68(p:List Nat):=AW (Z1 Zjd) Try.f68 ZsX p
abbrev S68(p:List Nat):=SW (Z1 Zjd) Try.f68 ZsX p
theorem ZzL(m i:Int)(Q:QT)(h:(Zl (A68 [1,0,1,0,0]) (Z8J m i m 0) (xB 0 (S68 [1,1] Q)))):
  A68 [] (L2 [(0,.c (.int .u8 m)),(1,.c (ci i))] []) Q:=
 Eq.mpr (by kernel_rfl) h
theorem ZrE(m i x0 x5:Int)(N0:NT)(Q:QT)(h:(((decide (x5 < i))=true→((2:Int)≠0)∧((InR (x5+1))∧(N0 (Z8J m i (IntKind.wrap .u8 (Int.tdiv x0 2)) (x5+1)))))∧((decide (x5 < i))=false→((2:Int)≠0)∧(Q .ret (L2 [(4,.c (.bool (((Int.tmod x0 2):Int)==1)))] []))))):
  A68 [1,0,1,0,0] (Z8J m i x0 x5) (xT N0 (xB 0 (S68 [1,1] Q))):=
 Eq.mpr (by kernel_rfl) h
def Zxj(m i:Int):Prop:=AW (Z1 Zjd) Try.f68 ZsX [] (Zn (ZqY.can (m,i,())) []) (EQ Try.f68 (Zuj (m,i,())) [])
theorem Zvu(hb:∀ (m:Int) (i:Int) (_:Unit),Zkr (m,i,())→Zxj m i):CT 68 ZbI:=
 Z6 (l:=[]) Zo rfl trivial ZsX Try.func68 rfl rfl 2 (fun _=> rfl) (by decide) (fun ⟨m,i,_⟩=> hb m i ())
def Zjc:List (FuncId × Fs U):=[]
def ZsW:Zh U:=lvl [([0,1],[]),([0,1,5],[]),([0,1,5,6],[]),([0,1,5,6,8],[]),([0,1,5,6],[]),([0,1,5,6],[]),([4],[])]
def Z8I(b:List Int)(from_ x5 x6:Int):LSt U:=(L2 [(0,.c (sU .u8 b .unk)),(1,.c (ci from_)),(5,.c (.int .u64 x5)),(6,.c (ci x6))] [])
abbrev A69(p:List Nat):=AW (Z1 Zjc) Try.f69 ZsW p
abbrev S69(p:List Nat):=SW (Z1 Zjc) Try.f69 ZsW p
theorem ZzK(b:List Int)(from_:Int)(Q:QT)(h:(Zl (A69 [1,1,0,1,0,0]) (Z8I b from_ 0 7) (xB 0 (S69 [1,1,1] Q)))):
  A69 [] (L2 [(0,.c (sU .u8 b .unk)),(1,.c (ci from_))] []) Q:=
 Eq.mpr (by kernel_rfl) h
theorem ZrD(b:List Int)(from_ x5 x6:Int)(N0:NT)(Q:QT)(h:(((decide ((0:Int)≤x6))=true→(InR (from_+x6))∧((0:Int)≤(from_+x6)∧(from_+x6) < (b.length:Int))∧((InR (x6 - 1))∧(N0 (Z8I b from_ (IntKind.wrap .u64 (((IntKind.wrap .u64 (x5*256)):Int)+(IntKind.wrap .u64 (List.getD b (Int.toNat (from_+x6)) (0:Int))))) (x6 - 1)))))∧((decide ((0:Int)≤x6))=false→(Q .ret (L2 [(4,.c (.int .u64 x5))] []))))):
  A69 [1,1,0,1,0,0] (Z8I b from_ x5 x6) (xT N0 (xB 0 (S69 [1,1,1] Q))):=
 Eq.mpr (by kernel_rfl) h
def Zxi(b:List Int)(from_:Int):Prop:=AW (Z1 Zjc) Try.f69 ZsW [] (Zn (ZqX.can (b,from_,())) []) (EQ Try.f69 (Zui (b,from_,())) [])
theorem Zvt(hb:∀ (b:List Int) (from_:Int) (_:Unit),Zpe (b,from_,())→Zxi b from_):CT 69 ZbH:=
 Z6 (l:=[]) Zo rfl trivial ZsW Try.func69 rfl rfl 2 (fun _=> rfl) (by decide) (fun ⟨b,from_,_⟩=> hb b from_ ())
def ZfR:List (FuncId × Fs U):=[(67,ZbJ),(68,ZbI),(69,ZbH)]
def ZkR:Zh U:=lvl [([0,1,2],[]),([2,7,8],[7,8]),([2,7,8,9],[7,8]),([2,7,8,9,15],[7,8]),([2,7,8,9],[7,8]),([2,7,8,9,20],[7,8]),([2,7,8,9],[7,8]),([6],[])]
def Z2p(a b m x9 ml7_0 ml7_1 ml7_2 ml7_3 ml7_4 ml7_5 ml7_6 ml7_7:Int):LSt U:=(L2 [(2,.c (.int .u8 m)),(7,.ptr (.loc 7) 0),(8,.ptr (.loc 8) 0),(9,.c (ci x9))] [(.loc 7,[.int .u8 ml7_0,.int .u8 ml7_1,.int .u8 ml7_2,.int .u8 ml7_3,.int .u8 ml7_4,.int .u8 ml7_5,.int .u8 ml7_6,.int .u8 ml7_7]),(.loc 8,[.int .u8 (Zd b 0),.int .u8 (Zd b 1),.int .u8 (Zd b 2),.int .u8 (Zd b 3),.int .u8 (Zd b 4),.int .u8 (Zd b 5),.int .u8 (Zd b 6),.int .u8 (Zd b 7)])])
abbrev ZxM(p:List Nat):=AW (Z1 ZfR) Try.f103 ZkR p
abbrev Zzi(p:List Nat):=SW (Z1 ZfR) Try.f103 ZkR p
theorem ZyA(a b m:Int)(Q:QT)(h:((Zh9 (a,()))∧(Zh9 (b,()))∧(Zl (ZxM [1,1,0,1,0,0]) (Z2p a b m 0 (Zd a 0) (Zd a 1) (Zd a 2) (Zd a 3) (Zd a 4) (Zd a 5) (Zd a 6) (Zd a 7)) (xB 0 (Zzi [1,1,1] Q))))):
  ZxM [] (L2 [(0,.c (.int .u64 a)),(1,.c (.int .u64 b)),(2,.c (.int .u8 m))] []) Q:=
 Eq.mpr (by kernel_rfl) h
theorem Zof(a b m x9 ml7_0 ml7_1 ml7_2 ml7_3 ml7_4 ml7_5 ml7_6 ml7_7:Int)(N0:NT)(Q:QT)(h:let z0:=List.getD [Zd b 0,Zd b 1,Zd b 2,Zd b 3,Zd b 4,Zd b 5,Zd b 6,Zd b 7] x9.toNat 0;(((decide (x9 < 8))=true→(Zkr (m,x9,()))∧(((YC m x9)=true→((0:Int)≤x9∧x9 < ((8:Nat):Int))∧((0:Int)≤x9∧x9 < ((8:Nat):Int))∧((InR (x9+1))∧(N0 (Z2p a b m (x9+1) (Z1C x9 0 z0 ml7_0) (Z1C x9 1 z0 ml7_1) (Z1C x9 2 z0 ml7_2) (Z1C x9 3 z0 ml7_3) (Z1C x9 4 z0 ml7_4) (Z1C x9 5 z0 ml7_5) (Z1C x9 6 z0 ml7_6) (Z1C x9 7 z0 ml7_7)))))∧((YC m x9)=false→(InR (x9+1))∧(N0 (Z2p a b m (x9+1) ml7_0 ml7_1 ml7_2 ml7_3 ml7_4 ml7_5 ml7_6 ml7_7)))))∧((decide (x9 < 8))=false→(Zpe (([ml7_0,ml7_1,ml7_2,ml7_3,ml7_4,ml7_5,ml7_6,ml7_7]),0,()))∧(Q .ret (L2 [(6,.c (.int .u64 (of8 (fun i=> ([ml7_0,ml7_1,ml7_2,ml7_3,ml7_4,ml7_5,ml7_6,ml7_7]).getD i 0))))] []))))):
  ZxM [1,1,0,1,0,0] (Z2p a b m x9 ml7_0 ml7_1 ml7_2 ml7_3 ml7_4 ml7_5 ml7_6 ml7_7) (xT N0 (xB 0 (Zzi [1,1,1] Q))):=
 Eq.mpr (by kernel_rfl) h
def Zua(a b m:Int):Prop:=AW (Z1 ZfR) Try.f103 ZkR [] (Zn (ZlT.can (a,b,m,())) []) (EQ Try.f103 (Zp2 (a,b,m,())) [])
theorem ZsO(c67:CT 67 ZbJ)(c68:CT 68 ZbI)(c69:CT 69 ZbH)(hb:∀ (a:Int) (b:Int) (m:Int) (_:Unit),Zft (a,b,m,())→Zua a b m):CT 103 Z7W:=
 Z6 (l:=[(67,ZbJ),(68,ZbI),(69,ZbH)]) Zo rfl (⟨c67,c68,c69,trivial⟩) ZkR Try.func103 rfl rfl 3 (fun _=> rfl) (by decide) (fun ⟨a,b,m,_⟩=> hb a b m ())
def Zqh:List (FuncId × Fs U):=[]
def ZvU:Zh U:=lvl [([1],[1]),([2],[])]
abbrev A62(p:List Nat):=AW (Z1 Zqh) Try.f62 ZvU p
theorem ZzR(t:Tree)(Q:QT)(h:((Tr ((t.kind==0)=true))∧(Tr ((t.kind==0)=true))∧(Tr ((t.kind==0)=true))∧(Tr ((t.kind==0)=true))∧(Tr ((t.kind==0)=true))∧(Tr ((t.kind==0)=true))∧((t.kind==0)=true→InR (((t.words.length:Int):Int)+(t.kids.length:Int)))∧(Tr ((t.kind==0)=true))∧(Tr ((t.kind==0)=true))∧(Q .ret (L2 [(2,.c (.bool (bif (t.kind==0) then (((((t.words.length:Int):Int)+(t.kids.length:Int)):Int)==0) else false)))] [])))):
  A62 [] (L2 [(0,.agg (enc .tree t))] []) Q:=
 Eq.mpr (by kernel_rfl) h
def Zxp(t:Tree):Prop:=AW (Z1 Zqh) Try.f62 ZvU [] (Zn (Zr3.can (t,())) []) (EQ Try.f62 (Zum (t,())) [])
theorem Zvz(hb:∀ (t:Tree) (_:Unit),Z5s (t,())→Zxp t):CT 62 Z4q:=
 Z6 (l:=[]) Zo rfl trivial ZvU Try.func62 rfl rfl 1 (fun _=> rfl) (by decide) (fun ⟨t,_⟩=> hb t ())
def Zqg:List (FuncId × Fs U):=[(103,Z7W)]
def ZvT:Zh U:=lvl [([0,1],[]),([4],[])]
abbrev A63(p:List Nat):=AW (Z1 Zqg) Try.f63 ZvT p
theorem ZzQ(w m:Int)(Q:QT)(h:((Zft (w,0,m,()))∧(Q .ret (L2 [(4,.c (.bool (((mix w 0 m):Int)==0)))] [])))):
  A63 [] (L2 [(0,.c (.int .u64 w)),(1,.c (.int .u8 m))] []) Q:=
 Eq.mpr (by kernel_rfl) h
def Zxo(w m:Int):Prop:=AW (Z1 Zqg) Try.f63 ZvT [] (Zn (Zr2.can (w,m,())) []) (EQ Try.f63 (Zul (w,m,())) [])
theorem Zvy(ZwJ:CT 103 Z7W)(hb:∀ (w:Int) (m:Int) (_:Unit),Zks (w,m,())→Zxo w m):CT 63 Z9d:=
 Z6 (l:=[(103,Z7W)]) Zo rfl (⟨ZwJ,trivial⟩) ZvT Try.func63 rfl rfl 2 (fun _=> rfl) (by decide) (fun ⟨w,m,_⟩=> hb w m ())
def Zli:List (FuncId × Fs U):=[(62,Z4q)]
def Zq3:Zh U:=lvl [([1],[1]),([2],[])]
abbrev ZAt(p:List Nat):=AW (Z1 Zli) Try.f104 Zq3 p
theorem Zyz(e:Edit)(Q:QT)(h:∀ y_1,y_1=(e.new)→∀ y_2,y_2=(e.old)→let z2:=bif (e.kind==0) then (ZT y_2) else false;let z0:=bif z2 then (ZT y_1) else false;let z1:=bif z0 then (((((((e.words.length:Int):Int)+(e.kids.length:Int)):Int)+(e.ops.length:Int)):Int)==0) else false;((Tr ((e.kind==0)=true))∧(Tr ((e.kind==0)=true))∧((e.kind==0)=true→Z5s (y_2,()))∧(Tr ((e.kind==0)=true))∧(Tr (z2=true))∧(Tr (z2=true))∧(z2=true→Z5s (y_1,()))∧(Tr (z2=true))∧(Tr (z0=true))∧(Tr (z0=true))∧(Tr (z0=true))∧(Tr (z0=true))∧(Tr (z0=true))∧(Tr (z0=true))∧(z0=true→InR (((e.words.length:Int):Int)+(e.kids.length:Int)))∧(Tr (z0=true))∧(Tr (z0=true))∧(Tr (z0=true))∧(Tr (z0=true))∧(z0=true→InR (((((e.words.length:Int):Int)+(e.kids.length:Int)):Int)+(e.ops.length:Int)))∧(Tr (z0=true))∧(Tr (z0=true))∧(Tr (z1=true))∧(Tr (z1=true))∧(Tr (z1=true))∧(Q .ret (L2 [(2,.c (.bool (bif z1 then (e.list==0) else false)))] [])))):
  ZAt [] (L2 [(0,.agg (enc .edit e))] []) Q:=
 Eq.mpr (by kernel_rfl) (h _ (Zi _) _ (Zi _))
def Zu9(e:Edit):Prop:=AW (Z1 Zli) Try.f104 Zq3 [] (Zn (ZlS.can (e,())) []) (EQ Try.f104 (Zp1 (e,())) [])
theorem ZsN(c62:CT 62 Z4q)(hb:∀ (e:Edit) (_:Unit),Z7c (e,())→Zu9 e):CT 104 Z64:=
 Z6 (l:=[(62,Z4q)]) Zo rfl (⟨c62,trivial⟩) Zq3 Try.func104 rfl rfl 1 (fun _=> rfl) (by decide) (fun ⟨e,_⟩=> hb e ())
def Zjf:List (FuncId × Fs U):=[]
def ZsZ:Zh U:=lvl [([1],[1]),([1,4,5],[1]),([1,4,5,6],[1]),([1,4,5,6,13],[1]),([1,4,5,6],[1]),([1,4,5,6,7],[1,7]),([1,4,5,6,7,8],[1,7]),([1,4,5,6,7,8,29],[1,7]),([1,4,5,6,7,8,29],[1,7]),([1,4,5,6,7,8,32],[1,7]),([1,4,5,6,7,8,32],[1,7]),([1,4,5,6,8,38],[1]),([1,4,5,6,8,38],[1]),([1,4,5,6,43],[1]),([1,4,5,6,43],[1]),([1,4,5,6,45],[1]),([1,4,5,6],[1]),([2,3],[])]
def Z2S(e:Edit)(x4 x5 x6:Int):LSt U:=(L2 [(1,.ptr (.loc 1) 0),(4,.c (ci x4)),(5,.c (ci x5)),(6,.c (ci x6))] [(.loc 1,(enc .edit e))])
def Z8N(e:Edit)(x4 x5 x6 x8_a:Int):LSt U:=(L2 [(1,.ptr (.loc 1) 0),(4,.c (ci x4)),(5,.c (ci x5)),(6,.c (ci x6)),(7,.ptr (.loc 7) 0),(8,.c (ci x8_a)),(29,.c (.bool (((OpOf.kind (e.ops.getD x6.toNat Op.nil)):Int)==3)))] [(.loc 1,(enc .edit e)),(.loc 7,(enc .op (e.ops.getD x6.toNat Op.nil)))])
def Z8M(e:Edit)(x5 x6 x8_a x4_b:Int):LSt U:=(L2 [(1,.ptr (.loc 1) 0),(4,.c (ci x4_b)),(5,.c (ci x5)),(6,.c (ci x6)),(7,.ptr (.loc 7) 0),(8,.c (ci x8_a)),(32,.c (.bool (((OpOf.kind (e.ops.getD x6.toNat Op.nil)):Int) !=2)))] [(.loc 1,(enc .edit e)),(.loc 7,(enc .op (e.ops.getD x6.toNat Op.nil)))])
def Z8L(e:Edit)(x6 x8_a x4_b x5_c:Int):LSt U:=(L2 [(1,.ptr (.loc 1) 0),(4,.c (ci x4_b)),(5,.c (ci x5_c)),(6,.c (ci x6)),(8,.c (ci x8_a)),(38,.c (.bool (((OpOf.kind (e.ops.getD x6.toNat Op.nil)):Int) !=1)))] [(.loc 1,(enc .edit e))])
def Z8K(e:Edit)(x6 x4_b x5_c x4_d:Int):LSt U:=(L2 [(1,.ptr (.loc 1) 0),(4,.c (ci x4_d)),(5,.c (ci x5_c)),(6,.c (ci x6)),(43,.c (.bool (decide ((1048576:Int) < x4_b))))] [(.loc 1,(enc .edit e))])
abbrev A65(p:List Nat):=AW (Z1 Zjf) Try.f65 ZsZ p
abbrev S65(p:List Nat):=SW (Z1 Zjf) Try.f65 ZsZ p
theorem ZzO(e:Edit)(Q:QT)(h:(Zl (A65 [1,1,0,1,0,0]) (Z2S e 0 0 0) (xB 0 (S65 [1,1,1] Q)))):
  A65 [] (L2 [(0,.agg (enc .edit e))] []) Q:=
 Eq.mpr (by kernel_rfl) h
abbrev ZwV(e:Edit)(x4 x5 x6:Int)(N0:NT)(Q:QT):Prop:=A65 [1,1,0,1,0,0] (Z2S e x4 x5 x6) (xT N0 (xB 0 (S65 [1,1,1] Q)))
theorem ZrG(e:Edit)(x4 x5 x6:Int)(N0:NT)(Q:QT)(h:let z2:=decide (x6 < (e.ops.length:Int));let z1:=xB 1 (S65 [1,1,0,1,0,0,1,1] (xT N0 (xB 0 (S65 [1,1,1] Q))));let z0:=e.ops.getD x6.toNat Op.nil;((z2=true→((0:Int)≤x6∧x6 < (e.ops.length:Int))∧((InR (((OpOf.n z0):Int)+((OpOf.l z0).length:Int)))∧(((((OpOf.kind z0):Int)==3)=true→(A65 [1,1,0,1,0,0,1,0,0,1,1,1] (Z8N e x4 x5 x6 1) z1))∧((((OpOf.kind z0):Int)==3)=false→A65 [1,1,0,1,0,0,1,0,0,1,1,1] (Z8N e x4 x5 x6 (((OpOf.n z0):Int)+((OpOf.l z0).length:Int))) z1))))∧(z2=false→(Q .ret (L2 [(2,.c (ci x4)),(3,.c (ci x5))] []))))):
  A65 [1,1,0,1,0,0] (Z2S e x4 x5 x6) (xT N0 (xB 0 (S65 [1,1,1] Q))):=
 Eq.mpr (by kernel_rfl) h
abbrev ZwZ(e:Edit)(x4 x5 x6 x8_a:Int)(N0:NT)(Q:QT):Prop:=A65 [1,1,0,1,0,0,1,0,0,1,1,1] (Z8N e x4 x5 x6 x8_a) (xB 1 (S65 [1,1,0,1,0,0,1,1] (xT N0 (xB 0 (S65 [1,1,1] Q)))))
theorem ZrK(e:Edit)(x4 x5 x6 x8_a:Int)(N0:NT)(Q:QT)(h:let z1:=((OpOf.kind (e.ops.getD x6.toNat Op.nil)):Int) !=2;let z0:=xB 1 (S65 [1,1,0,1,0,0,1,1] (xT N0 (xB 0 (S65 [1,1,1] Q))));((z1=true→(InR (x4+x8_a))∧(A65 [1,1,0,1,0,0,1,0,0,1,1,1,1] (Z8M e x5 x6 x8_a (x4+x8_a)) z0))∧(z1=false→A65 [1,1,0,1,0,0,1,0,0,1,1,1,1] (Z8M e x5 x6 x8_a x4) z0))):
  A65 [1,1,0,1,0,0,1,0,0,1,1,1] (Z8N e x4 x5 x6 x8_a) (xB 1 (S65 [1,1,0,1,0,0,1,1] (xT N0 (xB 0 (S65 [1,1,1] Q))))):=
 Eq.mpr (by kernel_rfl) h
abbrev ZwY(e:Edit)(x5 x6 x8_a x4_b:Int)(N0:NT)(Q:QT):Prop:=A65 [1,1,0,1,0,0,1,0,0,1,1,1,1] (Z8M e x5 x6 x8_a x4_b) (xB 1 (S65 [1,1,0,1,0,0,1,1] (xT N0 (xB 0 (S65 [1,1,1] Q)))))
theorem ZrJ(e:Edit)(x5 x6 x8_a x4_b:Int)(N0:NT)(Q:QT)(h:let z1:=((OpOf.kind (e.ops.getD x6.toNat Op.nil)):Int) !=1;let z0:=xB 1 (S65 [1,1,0,1,0,0,1,1] (xT N0 (xB 0 (S65 [1,1,1] Q))));((z1=true→(InR (x5+x8_a))∧(A65 [1,1,0,1,0,0,1,0,0,1,1,1,1,1] (Z8L e x6 x8_a x4_b (x5+x8_a)) z0))∧(z1=false→A65 [1,1,0,1,0,0,1,0,0,1,1,1,1,1] (Z8L e x6 x8_a x4_b x5) z0))):
  A65 [1,1,0,1,0,0,1,0,0,1,1,1,1] (Z8M e x5 x6 x8_a x4_b) (xB 1 (S65 [1,1,0,1,0,0,1,1] (xT N0 (xB 0 (S65 [1,1,1] Q))))):=
 Eq.mpr (by kernel_rfl) h
abbrev ZwX(e:Edit)(x6 x8_a x4_b x5_c:Int)(N0:NT)(Q:QT):Prop:=A65 [1,1,0,1,0,0,1,0,0,1,1,1,1,1] (Z8L e x6 x8_a x4_b x5_c) (xB 1 (S65 [1,1,0,1,0,0,1,1] (xT N0 (xB 0 (S65 [1,1,1] Q)))))
theorem ZrI(e:Edit)(x6 x8_a x4_b x5_c:Int)(N0:NT)(Q:QT)(h:let z1:=decide ((1048576:Int) < x4_b);let z0:=xB 1 (S65 [1,1,0,1,0,0,1,1] (xT N0 (xB 0 (S65 [1,1,1] Q))));((z1=true→(A65 [1,1,0,1,0,0,1,0,0,1,1,1,1,1,1] (Z8K e x6 x4_b x5_c 1048576) z0))∧(z1=false→A65 [1,1,0,1,0,0,1,0,0,1,1,1,1,1,1] (Z8K e x6 x4_b x5_c x4_b) z0))):
  A65 [1,1,0,1,0,0,1,0,0,1,1,1,1,1] (Z8L e x6 x8_a x4_b x5_c) (xB 1 (S65 [1,1,0,1,0,0,1,1] (xT N0 (xB 0 (S65 [1,1,1] Q))))):=
 Eq.mpr (by kernel_rfl) h
abbrev ZwW(e:Edit)(x6 x4_b x5_c x4_d:Int)(N0:NT)(Q:QT):Prop:=A65 [1,1,0,1,0,0,1,0,0,1,1,1,1,1,1] (Z8K e x6 x4_b x5_c x4_d) (xB 1 (S65 [1,1,0,1,0,0,1,1] (xT N0 (xB 0 (S65 [1,1,1] Q)))))
theorem ZrH(e:Edit)(x6 x4_b x5_c x4_d:Int)(N0:NT)(Q:QT)(h:let z0:=decide ((1048576:Int) < x5_c);((z0=true→((InR (x6+1))∧(N0 (Z2S e x4_d 1048576 (x6+1)))))∧(z0=false→(InR (x6+1))∧(N0 (Z2S e x4_d x5_c (x6+1)))))):
  A65 [1,1,0,1,0,0,1,0,0,1,1,1,1,1,1] (Z8K e x6 x4_b x5_c x4_d) (xB 1 (S65 [1,1,0,1,0,0,1,1] (xT N0 (xB 0 (S65 [1,1,1] Q))))):=
 Eq.mpr (by kernel_rfl) h
def Zxm(e:Edit):Prop:=AW (Z1 Zjf) Try.f65 ZsZ [] (Zn (Zr1.can (e,())) []) (EQ Try.f65 (ZoD (e,())) [])
theorem Zvx(hb:∀ (e:Edit) (_:Unit),Zha (e,())→Zxm e):CT 65 Z4p:=
 Z6 (l:=[]) Zo rfl trivial ZsZ Try.func65 rfl rfl 1 (fun _=> rfl) (by decide) (fun ⟨e,_⟩=> hb e ())
def Zj7(N:Nat):List (FuncId × Fs U):=(90,fs Zjw (fun a=> [Zci a,Zhp a < N]) Zke) ::[(78,Z5d)]
def ZsR:Zh U:=lvl [([1,2,3],[3]),([1,2,3],[3]),([1,2,3,25],[3]),([6],[]),([1,2,3],[3]),([1,2,3,31],[3]),([1,2,3,31],[3]),([1,2,3,7],[3]),([1,2,3,7,44],[3]),([1,2,3,7],[3]),([1,2,3,7],[3]),([1,2,3,8],[3]),([1,2,3,8,65],[3]),([1,2,3,8],[3]),([1,2,3,8,9],[3]),([1,2,3,8,9,80],[3]),([1,2,3,8,9],[3]),([1,2,3,8,9],[3]),([1,2,3,8,95],[3]),([1,2,3,8],[3]),([6],[])]
def Z8D(e:Edit)(d n x2:Int):LSt U:=(L2 [(1,.c (ci d)),(2,.c (ci x2)),(3,.ptr (.loc 3) 0),(31,.c (.bool (decide ((0:Int)≤(ZH (Tree.mk e.old.kind e.old.words e.old.kids) 80 ((((((n:Int) - 1):Int) - (e.words.length:Int)):Int) - (e.ops.length:Int)))))))] [(.loc 3,(enc .edit e))])
def Z8C(e:Edit)(d n x2_a x7_a:Int):LSt U:=(L2 [(1,.c (ci d)),(2,.c (ci x2_a)),(3,.ptr (.loc 3) 0),(7,.c (ci x7_a))] [(.loc 3,(enc .edit e))])
def Z5P(e:Edit)(d n x2_b x8_b:Int):LSt U:=(L2 [(1,.c (ci d)),(2,.c (ci x2_b)),(3,.ptr (.loc 3) 0),(8,.c (ci x8_b))] [(.loc 3,(enc .edit e))])
def Z8B(e:Edit)(d n x8_b x2_c x9_c:Int):LSt U:=(L2 [(1,.c (ci d)),(2,.c (ci x2_c)),(3,.ptr (.loc 3) 0),(8,.c (ci x8_b)),(9,.c (ci x9_c))] [(.loc 3,(enc .edit e))])
abbrev A90(N:Nat)(p:List Nat):=AW (Z1 (Zj7 N)) Try.f90 ZsR p
abbrev S90(N:Nat)(p:List Nat):=SW (Z1 (Zj7 N)) Try.f90 ZsR p
theorem ZzB(N:Nat)(e:Edit)(d n:Int)(Q:QT)(h:∀ y_1,y_1=(e.new)→∀ y_2,y_2=(e.old)→∀ y_3,y_3=(ZH y_2 80 (((((n - 1):Int) - (e.words.length:Int)):Int) - (e.ops.length:Int)))→let z0:=bif (d==0) then true else (decide (((((((n - 1):Int) - (e.words.length:Int)):Int) - (e.ops.length:Int)):Int) < 0));((InR (n - 1))∧(InR (((n - 1):Int) - (e.words.length:Int)))∧(InR (((((n - 1):Int) - (e.words.length:Int)):Int) - (e.ops.length:Int)))∧((Tr ((!(d==0))=true))∧((d==0)=false→(!(d==0))=true)∧((z0=true→(Q .ret (L2 [(6,.c (ci (-1)))] [])))∧(z0=false→(Z85 (y_2,80,(((((n - 1):Int) - (e.words.length:Int)):Int) - (e.ops.length:Int)),()))∧(((decide ((0:Int)≤y_3))=true→(Z85 (y_1,80,y_3,()))∧(A90 N [1,1,1,1,1] (Z8D e d n (ZH y_1 80 y_3)) Q))∧((decide ((0:Int)≤y_3))=false→A90 N [1,1,1,1,1] (Z8D e d n y_3) Q))))))):
  A90 N [] (L2 [(0,.agg (enc .edit e)),(1,.c (ci d)),(2,.c (ci n))] []) Q:=
 Eq.mpr (by kernel_rfl) (h _ (Zi _) _ (Zi _) _ rfl)
abbrev ZwU(N:Nat)(e:Edit)(d n x2:Int)(Q:QT):Prop:=A90 N [1,1,1,1,1] (Z8D e d n x2) Q
theorem Zrw(N:Nat)(e:Edit)(d n x2:Int)(Q:QT)(h:(Zl (A90 N [1,1,1,1,1,0,1,0,0]) (Z8C e d n x2 0) (xB 0 (S90 N [1,1,1,1,1,1] Q)))):
  A90 N [1,1,1,1,1] (Z8D e d n x2) Q:=
 Eq.mpr (by kernel_rfl) h
theorem Zrv(N:Nat)(e:Edit)(d n x2_a x7_a:Int)(N1:NT)(Q:QT)(h:∀ y_1,y_1=(e.kids.getD x7_a.toNat (KidOf.mk 0 Edit.nil))→∀ y_2,y_2=(y_1.e)→let z0:=decide (x7_a < (e.kids.length:Int));let z1:=bif z0 then (decide ((0:Int)≤x2_a)) else false;(Tr (z0=true))∧(Tr (z0=true))∧((z1=true→((0:Int)≤x7_a∧x7_a < (e.kids.length:Int))∧(InR (d - 1))∧(Zci (y_2,(d - 1),x2_a,()))∧(Zhp (y_2,(d - 1),x2_a,()) < N)∧((InR (x7_a+1))∧(N1 (Z8C e d n (Z0Q y_2 (d - 1) x2_a) (x7_a+1)))))∧(z1=false→(Zl (A90 N [1,1,1,1,1,1,0,1,0,0]) (Z5P e d n x2_a 0) (xB 2 (S90 N [1,1,1,1,1,1,1] Q)))))):
  A90 N [1,1,1,1,1,0,1,0,0] (Z8C e d n x2_a x7_a) (xT N1 (xB 0 (S90 N [1,1,1,1,1,1] Q))):=
 Eq.mpr (by kernel_rfl) (h _ rfl _ (Zf _))
theorem Zru(N:Nat)(e:Edit)(d n x2_b x8_b:Int)(N2:NT)(Q:QT)(h:let z0:=decide (x8_b < (e.ops.length:Int));let z1:=bif z0 then (decide ((0:Int)≤x2_b)) else false;(Tr (z0=true))∧(Tr (z0=true))∧((z1=true→(Zl (A90 N [1,1,1,1,1,1,0,1,0,0,1,0,0,0,1,0,0]) (Z8B e d n x8_b x2_b 0) (xB 4 (S90 N [1,1,1,1,1,1,0,1,0,0,1,0,0,1] (xB 3 (S90 N [1,1,1,1,1,1,0,1,0,0,1,1] (xT N2 (xB 2 (S90 N [1,1,1,1,1,1,1] Q)))))))))∧(z1=false→(Q .ret (L2 [(6,.c (ci x2_b))] []))))):
  A90 N [1,1,1,1,1,1,0,1,0,0] (Z5P e d n x2_b x8_b) (xT N2 (xB 2 (S90 N [1,1,1,1,1,1,1] Q))):=
 Eq.mpr (by kernel_rfl) h
theorem Zrt(N:Nat)(e:Edit)(d n x8_b x2_c x9_c:Int)(N3 N2:NT)(Q:QT)(h:∀ y_1,y_1=(e.ops.getD x8_b.toNat Op.nil)→∀ y_2,y_2=(y_1.e)→∀ y_3,y_3=(y_1.l.getD x9_c.toNat Tree.nil)→let z1:=decide ((0:Int)≤x2_c);let z0:=decide (x9_c < (y_1.l.length:Int));((0:Int)≤x8_b∧x8_b < (e.ops.length:Int))∧(Tr (z0=true))∧(Tr (z0=true))∧(((bif z0 then z1 else false)=true→((0:Int)≤x8_b∧x8_b < (e.ops.length:Int))∧((0:Int)≤x9_c∧x9_c < (y_1.l.length:Int))∧(Z85 (y_3,80,x2_c,()))∧((InR (x9_c+1))∧(N3 (Z8B e d n x8_b (ZH y_3 80 x2_c) (x9_c+1)))))∧((bif z0 then z1 else false)=false→((z1=true→((0:Int)≤x8_b∧x8_b < (e.ops.length:Int))∧(InR (d - 1))∧(Zci (y_2,(d - 1),x2_c,()))∧(Zhp (y_2,(d - 1),x2_c,()) < N)∧((InR (x8_b+1))∧(N2 (Z5P e d n (Z0Q y_2 (d - 1) x2_c) (x8_b+1)))))∧(z1=false→(InR (x8_b+1))∧(N2 (Z5P e d n x2_c (x8_b+1)))))))):
  A90 N [1,1,1,1,1,1,0,1,0,0,1,0,0,0,1,0,0] (Z8B e d n x8_b x2_c x9_c) (xT N3 (xB 4 (S90 N [1,1,1,1,1,1,0,1,0,0,1,0,0,1] (xB 3 (S90 N [1,1,1,1,1,1,0,1,0,0,1,1] (xT N2 (xB 2 (S90 N [1,1,1,1,1,1,1] Q)))))))):=
 Eq.mpr (by kernel_rfl) (h _ rfl _ (Zf _) _ (Zi _))
def Zx9(N:Nat)(e:Edit)(d n:Int):Prop:=AW (Z1 (Zj7 N)) Try.f90 ZsR [] (Zn (Zjw.can (e,d,n,())) []) (EQ Try.f90 (Zke (e,d,n,())) [])
theorem Zvn(c78:CT 78 Z5d)(hb:∀ (N:Nat) (e:Edit) (d:Int) (n:Int) (_:Unit),Zci (e,d,n,())→Zhp (e,d,n,()) < N+1→Zx9 N e d n):CT 90 ZbE:=
 Jw (μ:=Zhp) (l:=[(78,Z5d)]) Zo rfl (⟨c78,trivial⟩) ZsR Try.func90 rfl rfl 3 (fun _=> rfl) (by decide) (fun N ⟨e,d,n,_⟩=> hb N e d n ())
def Zqi:List (FuncId × Fs U):=[(90,ZbE)]
def ZvW:Zh U:=lvl [([1],[1]),([2],[])]
abbrev A54(p:List Nat):=AW (Z1 Zqi) Try.f54 ZvW p
theorem ZzV(e:Edit)(Q:QT)(h:let z0:=Edit.mk e.kind (Tree.mk e.old.kind e.old.words e.old.kids) (Tree.mk e.new.kind e.new.words e.new.kids) e.words e.kids e.list e.ops;((Zci (z0,80,3000,()))∧(Q .ret (L2 [(2,.c (.bool (decide ((0:Int)≤(Z0Q z0 80 3000)))))] [])))):
  A54 [] (L2 [(0,.agg (enc .edit e))] []) Q:=
 Eq.mpr (by kernel_rfl) h
def Zxt(e:Edit):Prop:=AW (Z1 Zqi) Try.f54 ZvW [] (Zn (Zr4.can (e,())) []) (EQ Try.f54 (Zun (e,())) [])
theorem ZvB(c90:CT 90 ZbE)(hb:∀ (e:Edit) (_:Unit),Zpf (e,())→Zxt e):CT 54 ZbL:=
 Z6 (l:=[(90,ZbE)]) Zo rfl (⟨c90,trivial⟩) ZvW Try.func54 rfl rfl 1 (fun _=> rfl) (by decide) (fun ⟨e,_⟩=> hb e ())
end
end Go.AM.Ytpjenobkibfpcaa
namespace Go.AM.Ytpjenobkibfpcaa
open Go.AM Go.Proofs
noncomputable section
def Zg9:ArgL (Edit × Int × Unit):=(.cons (aEl .edit) (.cons (J3 .i64) .nil))
def Zag(a:Edit × Int × Unit):Prop:=(Zc a.1≤20000000000∧ZS a.1)∧0≤a.2.1∧a.2.1≤1000
def Zfz(a:Edit × Int × Unit):Nat:=2*Zc a.1
def Zki(a:Edit × Int × Unit):V U:= .c (.bool (Z0 a.1 a.2.1))
def ZbR:Fs U:=fs Zg9 (fun a=> [Zag a]) Zki
def Zg6:ArgL (Int × Op × Int × Unit):=(.cons (J3 .i64) (.cons (aEl .op) (.cons (J3 .i64) .nil)))
def Zec(a:Int × Op × Int × Unit):Prop:=(Zx a.2.1≤20000000000∧YA a.2.1∧isI a.1)∧0≤a.2.2.1∧a.2.2.1≤1000
def ZmQ(a:Int × Op × Int × Unit):Nat:=2*Zx a.2.1+1
def Zkf(a:Int × Op × Int × Unit):V U:= .c (.bool (Za a.1 a.2.1 a.2.2.1))
def Zot:Fs U:=fs Zg6 (fun a=> [Zec a]) Zkf
def Zjz:ArgL (Edit × Unit):=(.cons (aEl .edit) .nil)
def Zcj(a:Edit × Unit):Prop:=(Zc a.1≤20000000000∧ZS a.1)∧∃ d,Z0 a.1 d=true
def Zhq(a:Edit × Unit):Nat:=Zc a.1
def ZoE(a:Edit × Unit):V U:= .c (.bool (Z0O a.1))
def ZbK:Fs U:=fs Zjz (fun a=> [Zcj a]) ZoE
def Zrc:ArgL (Edit × Unit):=(.cons (aEl .edit) .nil)
def Zhc(a:Edit × Unit):Prop:=Z2r a.1∧ZS a.1
def Zus(a:Edit × Unit):V U:= .c (.bool (Z0u a.1))
def ZbT:Fs U:=fs Zrc (fun a=> [Zhc a]) Zus
def Zji(N:Nat):List (FuncId × Fs U):=(23,fs Zg9 (fun a=> [Zag a,Zfz a < N]) Zki) ::(64,fs Zg6 (fun a=> [Zec a,ZmQ a < N]) Zkf) ::[(62,Z4q),(63,Z9d),(104,Z64),(37,Z4r),(65,Z4p)]
def Zt3:Zh U:=lvl [([1,2],[2]),([1,2,24],[2]),([4],[]),([1,2,69],[2]),([4],[]),([1,2,72],[2]),([4],[]),([1,2,5],[2]),([1,2,5,6],[2]),([1,2,5,6,97],[2]),([1,2,5,6],[2]),([1,2,5,6,7],[2,7]),([1,2,6,7,134],[2,7]),([4],[]),([1,2,5,6],[2]),([1,2,5],[2]),([1,2,5,8],[2]),([1,2,5,8,141],[2]),([1,2,5,8],[2]),([1,2,5,8,9],[2,9]),([1,2,8,9,171],[2,9]),([4],[]),([1,2,5,8],[2]),([1,2,186],[2]),([4],[]),([1,2,10],[2]),([1,2,10,191],[2]),([1,2,10],[2]),([1,2,10,204],[2]),([4],[]),([11,12],[]),([4],[])]
def Z8W(e:Edit)(d x5 x6:Int):LSt U:=(L2 [(1,.c (ci d)),(2,.ptr (.loc 2) 0),(5,.c (ci x5)),(6,.c (ci x6))] [(.loc 2,(enc .edit e))])
def Z8V(e:Edit)(d x5_a x8_a:Int):LSt U:=(L2 [(1,.c (ci d)),(2,.ptr (.loc 2) 0),(5,.c (ci x5_a)),(8,.c (ci x8_a))] [(.loc 2,(enc .edit e))])
def Z8U(e:Edit)(d x10_b:Int):LSt U:=(L2 [(1,.c (ci d)),(2,.ptr (.loc 2) 0),(10,.c (ci x10_b))] [(.loc 2,(enc .edit e))])
abbrev A23(N:Nat)(p:List Nat):=AW (Z1 (Zji N)) Try.f23 Zt3 p
abbrev S23(N:Nat)(p:List Nat):=SW (Z1 (Zji N)) Try.f23 Zt3 p
theorem ZA3(N:Nat)(e:Edit)(d:Int)(Q:QT)(h:∀ y_1,y_1=(e.new)→∀ y_2,y_2=(e.old)→let z11:=Q .ret (L2 [(4,.c (.bool false))] []);let z8:=(e.kind !=1) && (ZT y_2);let z3:=bif (d==0) then true else (decide (e.kind < 0));let z10:=bif z3 then true else (decide ((3:Int) < e.kind));let z2:=bif (Z9 y_2 64) then (Z9 y_1 64) else false;let z6:=bif z2 then (e.old.kind !=10) else false;let z1:=bif (e.kind !=1) then (!(bif (ZT y_2) then (ZT y_1) else false)) else false;let z5:=(!z1) && (e.kind !=2);let z0:=bif z1 then true else (bif (e.kind !=2) then (decide ((0:Int) < (((e.words.length:Int):Int)+(e.kids.length:Int)))) else false);let z7:=bif z0 then true else (bif (e.kind !=3) then (bif (e.list !=0) then true else (decide ((0:Int) < (e.ops.length:Int)))) else false);let z4:=(!z0) && (e.kind !=3);let z9:=z4 && (!(e.list !=0));((Tr ((!(d==0))=true))∧(Tr ((!(d==0))=true))∧((d==0)=false→(!(d==0))=true)∧(Tr ((!z3)=true))∧(Tr ((!z3)=true))∧(z3=false→(!z3)=true)∧((z10=true→z11)∧(z10=false→(Tr ((e.kind !=1)=true))∧(Tr ((e.kind !=1)=true))∧((e.kind !=1)=true→Z5s (y_2,()))∧(Tr ((e.kind !=1)=true))∧(Tr (z8=true))∧(Tr (z8=true))∧(z8=true→Z5s (y_1,()))∧((e.kind !=1)=true→(True→(e.kind !=1)=true))∧((e.kind !=1)=true→((ZT y_2)=true→z8=true))∧(Tr ((e.kind !=1)=true))∧(Tr ((e.kind !=1)=true))∧(Tr ((!z1)=true))∧(Tr ((!z1)=true))∧(Tr ((!z1)=true))∧(Tr (z5=true))∧(Tr (z5=true))∧(Tr (z5=true))∧(Tr (z5=true))∧(Tr (z5=true))∧(Tr (z5=true))∧(z5=true→InR (((e.words.length:Int):Int)+(e.kids.length:Int)))∧(Tr (z5=true))∧((!z1)=true→(True→(!z1)=true))∧((!z1)=true→((e.kind !=2)=true→z5=true))∧(z1=false→(!z1)=true)∧(Tr ((!z0)=true))∧(Tr ((!z0)=true))∧(Tr ((!z0)=true))∧(Tr (z4=true))∧(Tr (z4=true))∧(Tr (z4=true))∧(Tr (z9=true))∧(Tr (z9=true))∧(Tr (z9=true))∧(z4=true→(True→z4=true))∧(z4=true→((e.list !=0)=false→z9=true))∧((!z0)=true→(True→(!z0)=true))∧((!z0)=true→((e.kind !=3)=true→z4=true))∧(z0=false→(!z0)=true)∧((z7=true→z11)∧(z7=false→(((e.kind==1)=true→(Z55 (y_2,64,()))∧(Tr ((Z9 y_2 64)=true))∧(Tr ((Z9 y_2 64)=true))∧((Z9 y_2 64)=true→Z55 (y_1,64,()))∧(Tr ((Z9 y_2 64)=true))∧(Tr (z2=true))∧(Tr (z2=true))∧(Tr (z2=true))∧(Tr (z2=true))∧(Tr (z6=true))∧(Tr (z6=true))∧(Tr (z6=true))∧(Tr (z6=true))∧(Q .ret (L2 [(4,.c (.bool (bif z6 then (e.new.kind !=10) else false)))] [])))∧((e.kind==1)=false→(Zl (A23 N [1,1,1,1,1,0,1,0,0]) (Z8W e d (-1) 0) (xB 0 (S23 N [1,1,1,1,1,1] Q))))))))))):
  A23 N [] (L2 [(0,.agg (enc .edit e)),(1,.c (ci d))] []) Q:=
 Eq.mpr (by kernel_rfl) (h _ (Zi _) _ (Zi _))
theorem ZrV(N:Nat)(e:Edit)(d x5 x6:Int)(N0:NT)(Q:QT)(h:∀ y_1,y_1=(e.words.getD x6.toNat (WEdit.mk 0 0 0 0))→let z5:=decide (x6 < (e.words.length:Int));let z3:=decide (y_1.at_≤x5);let z2:=bif z3 then true else (decide ((65534:Int) < y_1.at_));let z0:=bif z2 then true else (y_1.mask==0);let z1:=bif z0 then true else (!(ZK y_1.old y_1.mask));let z4:=bif z1 then true else (!(ZK y_1.new y_1.mask));((z5=true→((0:Int)≤x6∧x6 < (e.words.length:Int))∧((Tr ((!z3)=true))∧(Tr ((!z3)=true))∧(z3=false→(!z3)=true)∧(Tr ((!z2)=true))∧(Tr ((!z2)=true))∧(z2=false→(!z2)=true)∧(Tr ((!z0)=true))∧(Tr ((!z0)=true))∧(Tr ((!z0)=true))∧(Tr ((!z0)=true))∧((!z0)=true→Zks (y_1.old,y_1.mask,()))∧(Tr ((!z0)=true))∧(z0=false→(!z0)=true)∧(Tr ((!z1)=true))∧(Tr ((!z1)=true))∧(Tr ((!z1)=true))∧(Tr ((!z1)=true))∧((!z1)=true→Zks (y_1.new,y_1.mask,()))∧(Tr ((!z1)=true))∧(z1=false→(!z1)=true)∧((z4=true→(Q .ret (L2 [(4,.c (.bool false))] [])))∧(z4=false→((InR (x6+1))∧(N0 (Z8W e d y_1.at_ (x6+1))))))))∧(z5=false→(Zl (A23 N [1,1,1,1,1,1,1,0,1,0,0]) (Z8V e d (-1) 0) (xB 2 (S23 N [1,1,1,1,1,1,1,1] Q)))))):
  A23 N [1,1,1,1,1,0,1,0,0] (Z8W e d x5 x6) (xT N0 (xB 0 (S23 N [1,1,1,1,1,1] Q))):=
 Eq.mpr (by kernel_rfl) (h _ rfl)
theorem ZrU(N:Nat)(e:Edit)(d x5_a x8_a:Int)(N1:NT)(Q:QT)(h:∀ y_1,y_1=(e.kids.getD x8_a.toNat (KidOf.mk 0 Edit.nil))→∀ y_2,y_2=(y_1.e)→let z8:=decide (x8_a < (e.kids.length:Int));let z7:=decide (e.list < 2);let z6:=Q .ret (L2 [(4,.c (.bool false))] []);let z4:=(e.kind==3) && (!z7);let z3:=decide (y_1.at_≤x5_a);let z2:=bif (e.kind==3) then (bif z7 then true else (decide ((9:Int) < e.list))) else false;let z1:=bif z3 then true else (decide ((65534:Int) < y_1.at_));let z0:=bif z1 then true else (y_1.e.kind==0);let z5:=bif z0 then true else (!(Z0 y_2 (d - 1)));((z8=true→((0:Int)≤x8_a∧x8_a < (e.kids.length:Int))∧((Tr ((!z3)=true))∧(Tr ((!z3)=true))∧(z3=false→(!z3)=true)∧(Tr ((!z1)=true))∧(Tr ((!z1)=true))∧(Tr ((!z1)=true))∧(z1=false→(!z1)=true)∧(Tr ((!z0)=true))∧(Tr ((!z0)=true))∧((!z0)=true→InR (d - 1))∧(Tr ((!z0)=true))∧(Tr ((!z0)=true))∧((!z0)=true→Zag (y_2,(d - 1),()))∧((!z0)=true→Zfz (y_2,(d - 1),()) < N)∧(Tr ((!z0)=true))∧(z0=false→(!z0)=true)∧((z5=true→z6)∧(z5=false→((InR (x8_a+1))∧(N1 (Z8V e d y_1.at_ (x8_a+1))))))))∧(z8=false→(Tr ((e.kind==3)=true))∧(Tr ((e.kind==3)=true))∧(Tr ((e.kind==3)=true))∧(Tr (z4=true))∧(Tr (z4=true))∧((e.kind==3)=true→(True→(e.kind==3)=true))∧((e.kind==3)=true→(z7=false→z4=true))∧(Tr ((e.kind==3)=true))∧((z2=true→z6)∧(z2=false→(Zl (A23 N [1,1,1,1,1,1,1,1,1,0,1,0,0]) (Z8U e d 0) (xB 4 (S23 N [1,1,1,1,1,1,1,1,1,1] Q)))))))):
  A23 N [1,1,1,1,1,1,1,0,1,0,0] (Z8V e d x5_a x8_a) (xT N1 (xB 2 (S23 N [1,1,1,1,1,1,1,1] Q))):=
 Eq.mpr (by kernel_rfl) (h _ rfl _ (Zf _))
theorem ZrT(N:Nat)(e:Edit)(d x10_b:Int)(N2:NT)(Q:QT)(h:∀ y_1,y_1=e→∀ y_2,y_2=(e.ops.getD x10_b.toNat Op.nil)→∀ y_3,y_3=y_2→let z2:= !(Za e.list y_3 (d - 1));let z1:=decide (x10_b < (e.ops.length:Int));let z0:=decide (((Z0d y_1.ops 0):Int) < 1048576);((z1=true→((0:Int)≤x10_b∧x10_b < (e.ops.length:Int))∧(InR (d - 1))∧(Zec (e.list,y_3,(d - 1),()))∧(ZmQ (e.list,y_3,(d - 1),()) < N)∧((z2=true→(Q .ret (L2 [(4,.c (.bool false))] [])))∧(z2=false→(InR (x10_b+1))∧(N2 (Z8U e d (x10_b+1))))))∧(z1=false→(Zha (y_1,()))∧((Tr (z0=true))∧(Tr (z0=true))∧(Q .ret (L2 [(4,.c (.bool (bif z0 then (decide (((Z0c y_1.ops 0):Int) < 1048576)) else false)))] [])))))):
  A23 N [1,1,1,1,1,1,1,1,1,0,1,0,0] (Z8U e d x10_b) (xT N2 (xB 4 (S23 N [1,1,1,1,1,1,1,1,1,1] Q))):=
 Eq.mpr (by kernel_rfl) (h _ (Zf _) _ rfl _ (Jh _))
def ZxB(N:Nat)(e:Edit)(d:Int):Prop:=AW (Z1 (Zji N)) Try.f23 Zt3 [] (Zn (Zg9.can (e,d,())) []) (EQ Try.f23 (Zki (e,d,())) [])
abbrev Zzt:Prop:=∀ (N:Nat) (e:Edit) (d:Int) (_:Unit),Zag (e,d,())→Zfz (e,d,()) < N+1→ZxB N e d
def Zjg(N:Nat):List (FuncId × Fs U):=(23,fs Zg9 (fun a=> [Zag a,Zfz a < N]) Zki) ::(64,fs Zg6 (fun a=> [Zec a,ZmQ a < N]) Zkf) ::[(62,Z4q),(63,Z9d),(104,Z64),(37,Z4r),(65,Z4p)]
def Zt0:Zh U:=lvl [([0,2,4],[4]),([0,2,4,10],[4]),([6],[]),([0,2,4,42],[4]),([6],[]),([0,2,4,45],[4]),([0,4,7],[4]),([0,4,7,50],[4]),([0,4,7],[4]),([0,4,7,62],[4]),([6],[]),([6],[]),([0,4,92],[4]),([6],[]),([6],[])]
def Z8O(list:Int)(o:Op)(d x7:Int):LSt U:=(L2 [(0,.c (ci list)),(4,.ptr (.loc 4) 0),(7,.c (ci x7))] [(.loc 4,(enc .op o))])
abbrev A64(N:Nat)(p:List Nat):=AW (Z1 (Zjg N)) Try.f64 Zt0 p
abbrev S64(N:Nat)(p:List Nat):=SW (Z1 (Zjg N)) Try.f64 Zt0 p
theorem ZzP(N:Nat)(list:Int)(o:Op)(d:Int)(Q:QT)(h:∀ y_1,y_1=(o.e)→let z12:=Q .ret (L2 [(6,.c (.bool false))] []);let z9:=decide ((1:Int)≤o.n);let z5:=bif (o.n !=0) then true else (decide (o.kind < 0));let z10:=bif z5 then true else (decide ((3:Int) < o.kind));let z4:=decide ((0:Int) < (o.l.length:Int));let z7:=bif z4 then true else (o.e.kind==0);let z3:=bif (o.e.kind==1) then (o.e.old.kind==1) else false;let z2:=bif z9 then (decide (o.n≤1048576)) else false;let z6:=bif z2 then (((o.l.length:Int):Int)==0) else false;let z1:=bif (list==8) then true else (o.e.kind==2);let z8:=(!z1) && (o.e.kind==1);let z0:=bif z7 then true else (decide (list≤7));let z11:=bif z0 then true else (!(Z0 y_1 d));(((o.kind==0)=true→(Tr (z9=true))∧(Tr (z9=true))∧(Tr (z9=true))∧(Tr (z2=true))∧(Tr (z2=true))∧(Tr (z2=true))∧(Tr (z2=true))∧(Tr (z6=true))∧(Tr (z6=true))∧(z6=true→Z7c (y_1,()))∧(Tr (z6=true))∧(Q .ret (L2 [(6,.c (.bool (bif z6 then (Z0V y_1) else false)))] [])))∧((o.kind==0)=false→(Tr ((!(o.n !=0))=true))∧(Tr ((!(o.n !=0))=true))∧((o.n !=0)=false→(!(o.n !=0))=true)∧(Tr ((!z5)=true))∧(Tr ((!z5)=true))∧(z5=false→(!z5)=true)∧((z10=true→z12)∧(z10=false→(((decide (o.kind < 3))=true→(Zl (A64 N [1,1,1,0,1,0,0,1,0,0]) (Z8O list o d 0) (xB 0 (S64 N [1,1,1,0,1,0,1] (S64 N [1,1,1,1] Q)))))∧((decide (o.kind < 3))=false→(Tr ((!z4)=true))∧(Tr ((!z4)=true))∧(Tr ((!z4)=true))∧(z4=false→(!z4)=true)∧(Tr ((!z7)=true))∧(z7=false→(!z7)=true)∧(Tr ((!z0)=true))∧(Tr ((!z0)=true))∧(Tr ((!z0)=true))∧((!z0)=true→Zag (y_1,d,()))∧((!z0)=true→Zfz (y_1,d,()) < N)∧(Tr ((!z0)=true))∧(z0=false→(!z0)=true)∧((z11=true→z12)∧(z11=false→(Tr ((!(list==8))=true))∧(Tr ((!(list==8))=true))∧(Tr ((!(list==8))=true))∧((list==8)=false→(!(list==8))=true)∧(Tr ((!z1)=true))∧(Tr ((!z1)=true))∧(Tr ((!z1)=true))∧(Tr ((!z1)=true))∧(Tr (z8=true))∧(Tr (z8=true))∧(Tr (z8=true))∧(Tr (z8=true))∧((!z1)=true→(True→(!z1)=true))∧((!z1)=true→((o.e.kind==1)=true→z8=true))∧(Tr ((!z1)=true))∧(Tr (((!z1) && z3)=true))∧(Tr (((!z1) && z3)=true))∧(Tr (((!z1) && z3)=true))∧(Tr (((!z1) && z3)=true))∧((!z1)=true→(True→(!z1)=true))∧((!z1)=true→(z3=true→((!z1) && z3)=true))∧(z1=false→(!z1)=true)∧(Q .ret (L2 [(6,.c (.bool (bif z1 then true else (bif z3 then (o.e.new.kind==1) else false))))] []))))))))))):
  A64 N [] (L2 [(0,.c (ci list)),(1,.agg (enc .op o)),(2,.c (ci d))] []) Q:=
 Eq.mpr (by kernel_rfl) (h _ (Zf _))
theorem ZrL(N:Nat)(list:Int)(o:Op)(d x7:Int)(N0:NT)(Q:QT)(h:let z3:=decide (x7 < (o.l.length:Int));let z2:=Tree.mk list [] (List.drop x7.toNat (List.take (Int.toNat (x7+1)) o.l));let z1:=Edit.mk o.e.kind (Tree.mk o.e.old.kind o.e.old.words o.e.old.kids) (Tree.mk o.e.new.kind o.e.new.words o.e.new.kids) o.e.words o.e.kids o.e.list o.e.ops;let z0:=decide ((0:Int) < (o.l.length:Int));((z3=true→(InR (x7+1))∧((0:Int)≤x7∧x7≤(x7+1)∧(x7+1)≤(o.l.length:Int))∧(Z55 (z2,64,()))∧(((!(Z9 z2 64))=true→(Q .ret (L2 [(6,.c (.bool false))] [])))∧((!(Z9 z2 64))=false→(InR (x7+1))∧(N0 (Z8O list o d (x7+1))))))∧(z3=false→(Tr (z0=true))∧(Tr (z0=true))∧(z0=true→Z7c (z1,()))∧(Tr (z0=true))∧(Q .ret (L2 [(6,.c (.bool (bif z0 then (Z0V z1) else false)))] []))))):
  A64 N [1,1,1,0,1,0,0,1,0,0] (Z8O list o d x7) (xT N0 (xB 0 (S64 N [1,1,1,0,1,0,1] (S64 N [1,1,1,1] Q)))):=
 Eq.mpr (by kernel_rfl) h
def Zxn(N:Nat)(list:Int)(o:Op)(d:Int):Prop:=AW (Z1 (Zjg N)) Try.f64 Zt0 [] (Zn (Zg6.can (list,o,d,())) []) (EQ Try.f64 (Zkf (list,o,d,())) [])
abbrev Zzp:Prop:=∀ (N:Nat) (list:Int) (o:Op) (d:Int) (_:Unit),Zec (list,o,d,())→ZmQ (list,o,d,()) < N+1→Zxn N list o d
def Zjh(N:Nat):List (FuncId × Fs U):=(55,fs Zjz (fun a=> [Zcj a,Zhq a < N]) ZoE) ::[(65,Z4p)]
def Zt1:Zh U:=lvl [([1],[1]),([1,3,4],[1]),([1,17],[1]),([2],[]),([1,5],[1]),([1,5,22],[1]),([1,5],[1]),([1,5,32],[1]),([2],[]),([1,6],[1]),([1,6,37],[1]),([1,6],[1]),([1,6,47],[1]),([2],[]),([2],[])]
def Z8Q(e:Edit)(x5:Int):LSt U:=(L2 [(1,.ptr (.loc 1) 0),(5,.c (ci x5))] [(.loc 1,(enc .edit e))])
def Z8P(e:Edit)(x6_a:Int):LSt U:=(L2 [(1,.ptr (.loc 1) 0),(6,.c (ci x6_a))] [(.loc 1,(enc .edit e))])
abbrev A55(N:Nat)(p:List Nat):=AW (Z1 (Zjh N)) Try.f55 Zt1 p
abbrev S55(N:Nat)(p:List Nat):=SW (Z1 (Zjh N)) Try.f55 Zt1 p
theorem ZzU(N:Nat)(e:Edit)(Q:QT)(h:∀ y_1,y_1=e→let z0:=decide ((2000:Int) < (Z0d y_1.ops 0));let z1:=bif z0 then true else (decide ((2000:Int) < (Z0c y_1.ops 0)));((Zha (y_1,()))∧((Tr ((!z0)=true))∧(z0=false→(!z0)=true)∧((z1=true→(Q .ret (L2 [(2,.c (.bool false))] [])))∧(z1=false→(Zl (A55 N [1,1,1,0,1,0,0]) (Z8Q e 0) (xB 0 (S55 N [1,1,1,1] Q)))))))):
  A55 N [] (L2 [(0,.agg (enc .edit e))] []) Q:=
 Eq.mpr (by kernel_rfl) (h _ (Zf _))
theorem ZrO(N:Nat)(e:Edit)(x5:Int)(N0:NT)(Q:QT)(h:∀ y_1,y_1=(e.kids.getD x5.toNat (KidOf.mk 0 Edit.nil))→∀ y_2,y_2=(y_1.e)→let z0:=decide (x5 < (e.kids.length:Int));((z0=true→((0:Int)≤x5∧x5 < (e.kids.length:Int))∧(Zcj (y_2,()))∧(Zhq (y_2,()) < N)∧(((!(Z0O y_2))=true→(Q .ret (L2 [(2,.c (.bool false))] [])))∧((!(Z0O y_2))=false→(InR (x5+1))∧(N0 (Z8Q e (x5+1))))))∧(z0=false→(Zl (A55 N [1,1,1,1,0,1,0,0]) (Z8P e 0) (xB 2 (S55 N [1,1,1,1,1] Q)))))):
  A55 N [1,1,1,0,1,0,0] (Z8Q e x5) (xT N0 (xB 0 (S55 N [1,1,1,1] Q))):=
 Eq.mpr (by kernel_rfl) (h _ rfl _ (Zf _))
theorem ZrN(N:Nat)(e:Edit)(x6_a:Int)(N1:NT)(Q:QT)(h:∀ y_1,y_1=(e.ops.getD x6_a.toNat Op.nil)→∀ y_2,y_2=(y_1.e)→let z0:=decide (x6_a < (e.ops.length:Int));((z0=true→((0:Int)≤x6_a∧x6_a < (e.ops.length:Int))∧(Zcj (y_2,()))∧(Zhq (y_2,()) < N)∧(((!(Z0O y_2))=true→(Q .ret (L2 [(2,.c (.bool false))] [])))∧((!(Z0O y_2))=false→(InR (x6_a+1))∧(N1 (Z8P e (x6_a+1))))))∧(z0=false→(Q .ret (L2 [(2,.c (.bool true))] []))))):
  A55 N [1,1,1,1,0,1,0,0] (Z8P e x6_a) (xT N1 (xB 2 (S55 N [1,1,1,1,1] Q))):=
 Eq.mpr (by kernel_rfl) (h _ rfl _ (Zf _))
def Zxs(N:Nat)(e:Edit):Prop:=AW (Z1 (Zjh N)) Try.f55 Zt1 [] (Zn (Zjz.can (e,())) []) (EQ Try.f55 (ZoE (e,())) [])
theorem ZvA(c65:CT 65 Z4p)(hb:∀ (N:Nat) (e:Edit) (_:Unit),Zcj (e,())→Zhq (e,()) < N+1→Zxs N e):CT 55 ZbK:=
 Jw (μ:=Zhq) (l:=[(65,Z4p)]) Zo rfl (⟨c65,trivial⟩) Zt1 Try.func55 rfl rfl 1 (fun _=> rfl) (by decide) (fun N ⟨e,_⟩=> hb N e ())
def Zqq:List (FuncId × Fs U):=[(54,ZbL),(23,ZbR),(55,ZbK)]
def Zw4:Zh U:=lvl [([1],[1]),([2],[])]
abbrev A15(p:List Nat):=AW (Z1 Zqq) Try.f15 Zw4 p
theorem ZA6(e:Edit)(Q:QT)(h:∀ y_1,y_1=e→let z1:=decide (0≤Z0Q y_1 80 3000);let z0:=bif z1 then (Z0 y_1 64) else false;((Zpf (y_1,()))∧(Tr (z1=true))∧(z1=true→Zag (y_1,64,()))∧(Tr (z1=true))∧(Tr (z0=true))∧(z0=true→Zcj (y_1,()))∧(Tr (z0=true))∧(Q .ret (L2 [(2,.c (.bool (bif z0 then (Z0O y_1) else false)))] [])))):
  A15 [] (L2 [(0,.agg (enc .edit e))] []) Q:=
 Eq.mpr (by kernel_rfl) (h _ (Zf _))
def ZxE(e:Edit):Prop:=AW (Z1 Zqq) Try.f15 Zw4 [] (Zn (Zrc.can (e,())) []) (EQ Try.f15 (Zus (e,())) [])
theorem ZvK(c54:CT 54 ZbL)(c23:CT 23 ZbR)(c55:CT 55 ZbK)(hb:∀ (e:Edit) (_:Unit),Zhc (e,())→ZxE e):CT 15 ZbT:=
 Z6 (l:=[(54,ZbL),(23,ZbR),(55,ZbK)]) Zo rfl (⟨c54,c23,c55,trivial⟩) Zw4 Try.func15 rfl rfl 1 (fun _=> rfl) (by decide) (fun ⟨e,_⟩=> hb e ())
theorem ZmZ(c62:CT 62 Z4q)(c63:CT 63 Z9d)(ZwI:CT 104 Z64)(c37:CT 37 Z4r)(c65:CT 65 Z4p)(ha:Zzt)(hb:Zzp):CT 23 ZbR∧CT 64 Zot:=
 Z3F (μA:=Zfz) (μB:=ZmQ) (l:=[(62,Z4q),(63,Z9d),(104,Z64),(37,Z4r),(65,Z4p)]) Zo rfl (⟨c62,c63,ZwI,c37,c65,trivial⟩) Zt3 Zt0 Try.func23 Try.func64 rfl rfl rfl rfl 2 3 (fun _=> rfl) (fun _=> rfl) (by decide) (by decide) (fun N ⟨e,d,_⟩=> ha N e d ()) (fun N ⟨list,o,d,_⟩=> hb N list o d ())
end
end Go.AM.Ytpjenobkibfpcaa
namespace Go.AM.Ytpjenobkibfpcaa
open Go.AM Go.Proofs
theorem Z59{n:Int}(h0:0≤n)(h1:n < 18446744073709551616):IntKind.wrap .u64 n=n:=by
 simp [IntKind.wrap,IntKind.signed,IntKind.bits];omega
theorem Zb2{n:Int}(h0:0≤n)(h1:n < 256):IntKind.wrap .u8 n=n:=by
 simp [IntKind.wrap,IntKind.signed,IntKind.bits];omega
theorem ZlW{i:Int}{j:Nat}{v:Int}{F G:Nat→Int}(hi:0≤i)(hv:v=F i.toNat):Z1C i j v (if (j:Int) < i then F j else G j)=if (j:Int) < i+1 then F j else G j:=by
 unfold Z1C
 by_cases h:i=j
 ·subst h
  rw [if_pos rfl,if_pos (by omega),hv]
  simp
 ·rw [if_neg h]
  by_cases h2:(j:Int) < i
  ·rw [if_pos h2,if_pos (by omega)]
  ·rw [if_neg h2,if_neg (by omega)]
theorem Zt9{i:Int}{j:Nat}{F G:Nat→Int}(h:F i.toNat=G i.toNat)(hi:0≤i):(if (j:Int) < i then F j else G j)=if (j:Int) < i+1 then F j else G j:=by
 by_cases h2:(j:Int) < i
 ·rw [if_pos h2,if_pos (by omega)]
 ·by_cases h3:(j:Int)=i
  ·subst h3
   rw [if_neg h2,if_pos (by omega)]
   simpa using h.symm
  ·rw [if_neg h2,if_neg (by omega)]
theorem Z0S(w:Int)(i:Nat):0≤Zd w i∧Zd w i < 256:=by
 unfold Zd
 omega
theorem Z5X{w:Int}(h:0≤w)(i:Nat):0≤w / 256 ^ i:=Int.ediv_nonneg h (Int.le_of_lt (Int.pow_pos (by omega)))
theorem Zd4{w:Int}(h:0≤w)(i:Nat):w / 256 ^ i≤w:=Int.ediv_le_self _ h
theorem ZfY(w:Int)(i:Nat):w / 256 ^ i / 256=w / 256 ^ (i+1):=by
 rw [Int.ediv_ediv_of_nonneg (Int.le_of_lt (Int.pow_pos (by omega))),Int.pow_succ]
theorem c67:Contract Try.prog cfg 67 ZbJ:=by
 refine Zvv ?_
 intro w _ hp
 simp only [Zh9] at hp
 refine ZzM _ _ ?_;(try simp only [vcT,forall_eq])
 refine Ze (ι:=Int) (fun i=> Z5Q w (w / 256 ^ i.toNat) i (if ((0:Nat):Int) < i then Zd w 0 else 0) (if ((1:Nat):Int) < i then Zd w 1 else 0) (if ((2:Nat):Int) < i then Zd w 2 else 0) (if ((3:Nat):Int) < i then Zd w 3 else 0)
  (if ((4:Nat):Int) < i then Zd w 4 else 0) (if ((5:Nat):Int) < i then Zd w 5 else 0) (if ((6:Nat):Int) < i then Zd w 6 else 0) (if ((7:Nat):Int) < i then Zd w 7 else 0)) (fun i=> 0≤i∧i≤8) (fun i=> (8 - i).toNat) 0 ?_ ⟨by omega,by omega⟩ ?_
 ·simp [Z5Q]
 ·rintro i ⟨h1,h2⟩
  refine ZrF _ _ _ _ _ _ _ _ _ _ _ _ _ ?_;(try simp only [vcT,forall_eq])
  (simp only [vcS]);(try simp only [vcT])
  refine ⟨fun hc=> ⟨by omega,⟨h1,by omega⟩,by omega,by unfold InR;omega,i+1,?_,⟨by omega,by omega⟩,by omega⟩,fun hc=> ?_⟩
  ·have hd:=Z5X hp.1 i.toNat
   have hl:=Zd4 hp.1 i.toNat
   have e1:IntKind.wrap .u64 (Int.tdiv (w / 256 ^ i.toNat) 256)=w / 256 ^ (i+1).toNat:=by
    rw [Int.tdiv_eq_ediv_of_nonneg hd,ZfY,show i.toNat+1=(i+1).toNat by omega]
    exact Z59 (Z5X hp.1 _) (Int.lt_of_le_of_lt (Zd4 hp.1 _) hp.2)
   have e2:IntKind.wrap .u8 (Int.tmod (w / 256 ^ i.toNat) 256)=Zd w i.toNat:=by
    rw [Int.tmod_eq_emod_of_nonneg hd]
    exact Zb2 (Z0S w _).1 (Z0S w _).2
   rw [e1]
   have st:∀ j:Nat,Z1C i j (IntKind.wrap .u8 (Int.tmod (w / 256 ^ i.toNat) 256)) (if (j:Int) < i then Zd w j else 0)=if (j:Int) < i+1 then Zd w j else 0:=fun j=> ZlW (F:=Zd w) (G:=fun _=> 0) h1 e2
   rw [st 0,st 1,st 2,st 3,st 4,st 5,st 6,st 7]
  ·have:i=8:=by omega
   subst this
   simp only [ZoC]
   exact ⟨⟨rfl,⟨⟨rfl,rfl⟩,⟨rfl,rfl⟩,⟨rfl,rfl⟩,⟨rfl,rfl⟩,⟨rfl,rfl⟩,⟨rfl,rfl⟩,⟨rfl,rfl⟩,⟨rfl,rfl⟩,trivial⟩,trivial⟩,trivial⟩
theorem c68:Contract Try.prog cfg 68 ZbI:=by
 refine Zvu ?_
 intro m i _ hp
 simp only [Zkr] at hp
 refine ZzL _ _ _ ?_;(try simp only [vcT,forall_eq])
 refine Ze (ι:=Int) (fun k=> Z8J m i (m / 2 ^ k.toNat) k) (fun k=> 0≤k∧k≤i) (fun k=> (i - k).toNat) 0 ?_ ⟨by omega,by omega⟩ ?_
 ·simp
 ·rintro k ⟨h1,h2⟩
  refine ZrE _ _ _ _ _ _ ?_;(try simp only [vcT,forall_eq])
  have hd:0≤m / 2 ^ k.toNat:=Int.ediv_nonneg hp.1.1 (Int.le_of_lt (Int.pow_pos (by omega)))
  have hl:m / 2 ^ k.toNat≤m:=Int.ediv_le_self _ hp.1.1
  (simp only [vcS])
  refine ⟨fun hc=> ⟨by omega,by unfold InR;omega,k+1,?_,⟨by omega,by omega⟩,by omega⟩,fun hc=> ⟨by omega,Z4 rfl ?_⟩⟩
  ·have e:IntKind.wrap .u8 (Int.tdiv (m / 2 ^ k.toNat) 2)=m / 2 ^ (k+1).toNat:=by
    rw [Int.tdiv_eq_ediv_of_nonneg hd,Int.ediv_ediv_of_nonneg (Int.le_of_lt (Int.pow_pos (by omega))),show (2:Int) ^ k.toNat*2=2 ^ (k+1).toNat by rw [←Int.pow_succ];congr 1;omega]
    refine Zb2 (Int.ediv_nonneg hp.1.1 (Int.le_of_lt (Int.pow_pos (by omega)))) (Int.lt_of_le_of_lt (Int.ediv_le_self _ hp.1.1) hp.1.2)
   rw [e]
  ·have:k=i:=by omega
   subst this
   rw [Int.tmod_eq_emod_of_nonneg hd]
   try rfl
def ZaQ(f:Nat→Int):Nat→Int
 | 0=> 0
 | k+1=> f (7 - k)+256*ZaQ f k
theorem Zbx{f:Nat→Int}(h:∀ i,0≤f i∧f i < 256):∀ k,0≤ZaQ f k∧ZaQ f k < 256 ^ k
 | 0=> by simp [ZaQ]
 | k+1=> by
  have:=Zbx h k
  have h2:=h (7 - k)
  simp only [ZaQ,Int.pow_succ]
  omega
theorem Zv6(f:Nat→Int):ZaQ f 8=of8 f:=by simp [ZaQ,of8]
theorem c69:Contract Try.prog cfg 69 ZbH:=by
 refine Zvt ?_
 intro b z _ hp
 obtain ⟨rfl,hl,hb⟩:=hp
 dsimp only at hl hb
 refine ZzK _ _ _ ?_;(try simp only [vcT,forall_eq])
 have hf:∀ i,0≤b.getD i 0∧b.getD i 0 < 256:=by
  intro i
  by_cases hi:i < b.length
  ·have:b.getD i 0∈b:=by
    simp only [List.getD,List.getElem?_eq_getElem hi,Option.getD_some]
    exact List.getElem_mem hi
   exact hb _ this
  ·rw [List.getD,List.getElem?_eq_none (by omega)];simp
 refine Ze (ι:=Int) (fun i=> Z8I b 0 (ZaQ (fun i=> b.getD i 0) (7 - i).toNat) i) (fun i=> -1≤i∧i≤7) (fun i=> (i+1).toNat) 7 rfl ⟨by omega,by omega⟩ ?_
 rintro i ⟨h1,h2⟩
 refine ZrD _ _ _ _ _ _ ?_;(try simp only [vcT,forall_eq])
 (simp only [vcS]);(try simp only [vcT])
 have hr:=Zbx (f:=fun i=> b.getD i 0) hf (7 - i).toNat
 refine ⟨fun hc=> ⟨by unfold InR;omega,by omega,by unfold InR;omega,i - 1,?_,⟨by omega,by omega⟩,by omega⟩,fun hc=> Yy rfl ?_⟩
 ·have hp7:(256:Int) ^ (7 - i).toNat≤256 ^ 7:=by
   have:(256:Int) ^ (7 - i).toNat=((256 ^ (7 - i).toNat:Nat):Int):=by simp
   rw [this]
   have h7:(256:Nat) ^ (7 - i).toNat≤256 ^ 7:=Nat.pow_le_pow_right (by omega) (by omega)
   have:((256:Nat) ^ 7:Nat)=72057594037927936:=by decide
   omega
  have e7:(256:Int) ^ 7=72057594037927936:=by decide
  have hfi:=hf i.toNat
  have e:ZaQ (fun i=> b.getD i 0) (7 - (i - 1)).toNat=b.getD i.toNat 0+256*ZaQ (fun i=> b.getD i 0) (7 - i).toNat:=by
   rw [show (7 - (i - 1)).toNat=(7 - i).toNat+1 by omega]
   simp only [ZaQ]
   rw [show 7 - (7 - i).toNat=i.toNat by omega]
  rw [e,show (0+i).toNat=i.toNat by omega,Z59 (n:=ZaQ (fun i=> b.getD i 0) (7 - i).toNat*256) (by omega) (by omega),Z59 (n:=b.getD i.toNat 0) (by omega) (by omega),Z59 (by omega) (by omega)]
  congr 1
  omega
 ·have:i= -1:=by omega
  subst this
  exact Zv6 _
theorem ZyL(f:Nat→Int){i:Nat}(h:i < 8):List.getD [f 0,f 1,f 2,f 3,f 4,f 5,f 6,f 7] i 0=f i:=by
 match i,h with
 | 0,_=> rfl
 | 1,_=> rfl
 | 2,_=> rfl
 | 3,_=> rfl
 | 4,_=> rfl
 | 5,_=> rfl
 | 6,_=> rfl
 | 7,_=> rfl
theorem Z5F(a b m:Int)(i:Nat):0≤Yx a b m i∧Yx a b m i < 256:=by
 unfold Yx
 split
 ·exact Z0S _ _
 ·exact Z0S _ _
theorem ZwJ:Contract Try.prog cfg 103 Z7W:=by
 refine ZsO c67 c68 c69 ?_
 intro a b m _ hp
 simp only [Zft] at hp
 refine ZyA _ _ _ _ ?_;(try simp only [vcT,forall_eq])
 refine ⟨hp.1,hp.2.1,?_⟩
 refine Ze (ι:=Int) (fun i=> Z2p a b m i (if ((0:Nat):Int) < i then Yx a b m 0 else Zd a 0) (if ((1:Nat):Int) < i then Yx a b m 1 else Zd a 1) (if ((2:Nat):Int) < i then Yx a b m 2 else Zd a 2) (if ((3:Nat):Int) < i then Yx a b m 3 else Zd a 3)
  (if ((4:Nat):Int) < i then Yx a b m 4 else Zd a 4) (if ((5:Nat):Int) < i then Yx a b m 5 else Zd a 5) (if ((6:Nat):Int) < i then Yx a b m 6 else Zd a 6) (if ((7:Nat):Int) < i then Yx a b m 7 else Zd a 7)) (fun i=> 0≤i∧i≤8) (fun i=> (8 - i).toNat) 0 ?_ ⟨by omega,by omega⟩ ?_
 ·simp [Z2p]
 ·rintro i ⟨h1,h2⟩
  refine Zof _ _ _ _ _ _ _ _ _ _ _ _ _ _ ?_;(try simp only [vcT,forall_eq])
  (simp only [vcS]);(try simp only [vcT])
  refine ⟨fun hc=> ⟨⟨hp.2.2,h1,by dsimp only;omega⟩,fun hn=> ⟨⟨h1,by omega⟩,⟨h1,by omega⟩,by unfold InR;omega,i+1,?_,⟨by omega,by omega⟩,by omega⟩,fun hn=> ⟨by unfold InR;omega,i+1,?_,⟨by omega,by omega⟩,by omega⟩⟩,fun hc=> ?_⟩
  ·rw [ZyL (Zd b) (by omega)]
   have hv:Zd b i.toNat=Yx a b m i.toNat:=by
    unfold Yx
    rw [show ((i.toNat:Nat):Int)=i by omega,hn]
    try rfl
   have st:∀ j:Nat,Z1C i j (Zd b i.toNat) (if (j:Int) < i then Yx a b m j else Zd a j)=if (j:Int) < i+1 then Yx a b m j else Zd a j:=fun j=> ZlW (F:=Yx a b m) (G:=Zd a) h1 hv
   rw [st 0,st 1,st 2,st 3,st 4,st 5,st 6,st 7]
  ·have hv:Yx a b m i.toNat=Zd a i.toNat:=by
    unfold Yx
    rw [show ((i.toNat:Nat):Int)=i by omega,hn]
    try rfl
   have st:∀ j:Nat,(if (j:Int) < i then Yx a b m j else Zd a j)=if (j:Int) < i+1 then Yx a b m j else Zd a j:=fun j=> Zt9 (F:=Yx a b m) (G:=Zd a) hv h1
   rw [st 0,st 1,st 2,st 3,st 4,st 5,st 6,st 7]
  ·have:i=8:=by omega
   subst this
   refine ⟨⟨rfl,rfl,?_⟩,Yy rfl ?_⟩
   ·intro x hx
    simp at hx
    rcases hx with rfl | rfl | rfl | rfl | rfl | rfl | rfl | rfl <;> exact Z5F _ _ _ _
   ·try rfl
end Go.AM.Ytpjenobkibfpcaa
namespace Go.AM.Ytpjenobkibfpcaa
open Go.AM Go.Proofs
theorem Zne{α:Type}{l:List α}{i:Nat}(h:i < l.length)(d:α):l.drop i=l.getD i d ::l.drop (i+1):=by
 rw [List.drop_eq_getElem_cons h]
 simp [List.getD,h]
theorem YU{α:Type}{l:List α}{i:Int}(h0:0≤i)(h:i < l.length)(d:α):l.drop i.toNat=l.getD i.toNat d ::l.drop (i+1).toNat:=by
 rw [Zne (by omega) d,show i.toNat+1=(i+1).toNat by omega]
theorem Zm{α:Type}{l:List α}{i:Nat}(h:i < l.length)(d:α):l.getD i d∈l:=by
 simp only [List.getD,List.getElem?_eq_getElem h,Option.getD_some]
 exact List.getElem_mem h
theorem Yh(t:Tree):1≤Zq t:=by cases t;simp only [Zq];omega
theorem Z40(e:Edit):1≤Zc e:=by cases e;simp only [Zc];omega
theorem Z3Z(k:Kid):YQ k=Zc k.e:=by cases k;rfl
theorem ZW(o:Op):Zx o=Zg o.l+Zc o.e:=by cases o;rfl
theorem YW:∀ {ks:List Tree} {t:Tree},t∈ks→Zq t≤Zg ks
 | x ::r,t,h=> by
  simp only [Zg]
  rcases List.mem_cons.1 h with rfl | h
  ·omega
  ·have:=YW h;omega
theorem JX:∀ {ks:List Kid} {k:Kid},k∈ks→Zc k.e≤Zw ks
 | x ::r,k,h=> by
  simp only [Zw,Z3Z]
  rcases List.mem_cons.1 h with rfl | h
  ·omega
  ·have:=JX h;omega
theorem Yq:∀ {os:List Op} {o:Op},o∈os→Zx o≤Zs os
 | x ::r,o,h=> by
  simp only [Zs]
  rcases List.mem_cons.1 h with rfl | h
  ·omega
  ·have:=Yq h;omega
theorem Yi:∀ (ks:List Kid),ks.length≤Zw ks
 | []=> by simp [Zw]
 | k ::r=> by
  have:=Yi r
  have:=Z40 k.e
  simp only [Zw,Z3Z,List.length_cons]
  omega
theorem massOs_len:∀ (os:List Op),os.length≤Zs os
 | []=> by simp [Zs]
 | o ::r=> by
  have:=massOs_len r
  have:=Z40 o.e
  simp only [Zs,ZW,List.length_cons]
  omega
theorem ZbV:∀ {ks:List Tree} {t:Tree},JQ ks→t∈ks→JK t
 | x ::r,t,hs,h=> by
  simp only [JQ] at hs
  rcases List.mem_cons.1 h with rfl | h
  ·exact hs.1
  ·exact ZbV hs.2 h
theorem Za0:∀ {ks:List Kid} {k:Kid},Z66 ks→k∈ks→Z2r k.e
 | x ::r,k,hs,h=> by
  simp only [Z66] at hs
  rcases List.mem_cons.1 h with rfl | h
  ·have:=hs.1;obtain ⟨a,e⟩:=k;exact this
  ·exact Za0 hs.2 h
theorem Z9Z:∀ {os:List Op} {o:Op},Z65 os→o∈os→o.l.length≤17592186044416∧JQ o.l∧Z2r o.e
 | x ::r,o,hs,h=> by
  simp only [Z65] at hs
  rcases List.mem_cons.1 h with rfl | h
  ·have:=hs.1;obtain ⟨a,b,c,e⟩:=o;exact this
  ·exact Z9Z hs.2 h
theorem YX:∀ {ks:List Tree} {t:Tree},Yb ks→t∈ks→rng t
 | x ::r,t,hs,h=> by
  simp only [Yb] at hs
  rcases List.mem_cons.1 h with rfl | h
  ·exact hs.1
  ·exact YX hs.2 h
theorem YB:∀ {ks:List Kid} {k:Kid},JT ks→k∈ks→isI k.at_∧ZS k.e
 | x ::r,k,hs,h=> by
  simp only [JT] at hs
  rcases List.mem_cons.1 h with rfl | h
  ·have:=hs.1;obtain ⟨a,e⟩:=k;exact this
  ·exact YB hs.2 h
theorem JE:∀ {os:List Op} {o:Op},JL os→o∈os→YA o
 | x ::r,o,hs,h=> by
  simp only [JL] at hs
  rcases List.mem_cons.1 h with rfl | h
  ·exact hs.1
  ·exact JE hs.2 h
theorem Z04{o:Op}(h:YA o):isI o.kind∧isI o.n∧Yb o.l∧ZS o.e:=by obtain ⟨a,b,c,e⟩:=o;exact h
theorem Zn2(k:Kid)(d n:Int):Z3k k d n=Z0Q k.e d n:=by cases k;rfl
theorem Zq6(o:Op)(d n:Int):Z5L o d n=if Zy o.l 80 n < 0 then Zy o.l 80 n else Z0Q o.e d (Zy o.l 80 n):=by cases o;rfl
theorem Z9g(t:Tree)(n:Int)(h: -1≤n): -1≤sh1 t n∧sh1 t n≤n:=by
 unfold sh1
 split
 ·omega
 ·have:=YT t 80 n;omega
mutual
theorem Z1y:∀ (e:Edit) (d n:Int),-1≤Z0Q e d n∧Z0Q e d n≤max n (-1)
 | .mk _ o nw w ks _ os,d,n=> by
  simp only [Z0Q]
  split
  ·omega
  ·have h1:=YT o 80 (n - 1 - w.length - os.length)
   have h2:=Z9g nw _ h1.1
   have h3:=Z1V ks (d - 1) _ h2.1
   have h4:=Z1U os (d - 1) _ h3.1
   omega
theorem Z1V:∀ (ks:List (KidOf Edit)) (d n:Int),-1≤n→-1≤JZ ks d n∧JZ ks d n≤n
 | [],d,n,h=> by simp only [JZ];omega
 | k ::r,d,n,h=> by
  simp only [JZ]
  split
  ·omega
  ·have h1:=Z6N k d n
   have h2:=Z1V r d _ h1.1
   omega
theorem Z6N:∀ (k:KidOf Edit) (d n:Int),-1≤Z3k k d n∧Z3k k d n≤max n (-1)
 | ⟨_,e⟩,d,n=> by
  simp only [Z3k]
  exact Z1y e d n
theorem Z1U:∀ (os:List (OpOf Edit)) (d n:Int),-1≤n→-1≤Z0e os d n∧Z0e os d n≤n
 | [],d,n,h=> by simp only [Z0e];omega
 | o ::r,d,n,h=> by
  simp only [Z0e]
  split
  ·omega
  ·have h1:=Z8y o d n h
   have h2:=Z1U r d _ h1.1
   omega
theorem Z8y:∀ (o:OpOf Edit) (d n:Int),-1≤n→-1≤Z5L o d n∧Z5L o d n≤n
 | ⟨_,_,l,e⟩,d,n,h=> by
  simp only [Z5L]
  have h1:=Z0E l 80 n h
  split
  ·omega
  ·have h2:=Z1y e d (Zy l 80 n)
   omega
end
theorem Zow{t:Tree}{n:Int}(h:0≤sh1 t n):(Zq t:Int)+sh1 t n≤n:=by
 unfold sh1 at*
 split at h
 ·omega
 ·rename_i hn
  rw [if_neg hn]
  exact Z0D t 80 n h
mutual
theorem Z7p:∀ (e:Edit) (d n:Int),0≤Z0Q e d n→(Zc e:Int)+Z0Q e d n≤n
 | .mk _ o nw w ks _ os,d,n,h=> by
  simp only [Z0Q] at h ⊢
  split at h
  ·omega
  ·rename_i hc
   rw [if_neg hc]
   have r1:=YT o 80 (n - 1 - w.length - os.length)
   have r2:=Z9g nw _ r1.1
   have r3:=Z1V ks (d - 1) _ r2.1
   have r4:=Z1U os (d - 1) _ r3.1
   have m4:=ZaB os (d - 1) _ h
   have m3:=ZaC ks (d - 1) (sh1 nw (ZH o 80 (n - 1 - w.length - os.length))) (by omega)
   have m2:=Zow (t:=nw) (n:=ZH o 80 (n - 1 - w.length - os.length)) (by omega)
   have m1:=Z0D o 80 (n - 1 - w.length - os.length) (by omega)
   simp only [Zc]
   omega
theorem ZaC:∀ (ks:List (KidOf Edit)) (d n:Int),0≤JZ ks d n→(Zw ks:Int)+JZ ks d n≤n
 | [],d,n,h=> by simp only [JZ,Zw];omega
 | k ::r,d,n,h=> by
  simp only [JZ] at h ⊢
  split at h
  ·omega
  ·rename_i hc
   rw [if_neg hc]
   have r1:=Z6N k d n
   have r2:=Z1V r d _ r1.1
   have m2:=ZaC r d _ h
   have m1:=ZfE k d n (by omega)
   simp only [Zw]
   omega
theorem ZfE:∀ (k:KidOf Edit) (d n:Int),0≤Z3k k d n→(YQ k:Int)+Z3k k d n≤n
 | ⟨_,e⟩,d,n,h=> by
  simp only [Z3k,YQ] at h ⊢
  exact Z7p e d n h
theorem ZaB:∀ (os:List (OpOf Edit)) (d n:Int),0≤Z0e os d n→(Zs os:Int)+Z0e os d n≤n
 | [],d,n,h=> by simp only [Z0e,Zs];omega
 | o ::r,d,n,h=> by
  simp only [Z0e] at h ⊢
  split at h
  ·omega
  ·rename_i hc
   rw [if_neg hc]
   have r1:=Z8y o d n (by omega)
   have r2:=Z1U r d _ r1.1
   have m2:=ZaB r d _ h
   have m1:=ZhG o d n (by omega)
   simp only [Zs]
   omega
theorem ZhG:∀ (o:OpOf Edit) (d n:Int),0≤Z5L o d n→(Zx o:Int)+Z5L o d n≤n
 | ⟨_,_,l,e⟩,d,n,h=> by
  simp only [Z5L,Zx] at h ⊢
  split at h
  ·omega
  ·rename_i hc
   rw [if_neg hc]
   have m2:=Z7p e d _ h
   have r2:=Z1y e d (Zy l 80 n)
   have m1:=Z3r l 80 n (by omega)
   omega
end
theorem Z9J{e:Edit}(h:0≤Z0Q e 80 3000):Zc e≤3000:=by
 have:=Z7p e 80 3000 h
 omega
end Go.AM.Ytpjenobkibfpcaa
namespace Go.AM.Ytpjenobkibfpcaa
open Go.AM Go.Proofs
theorem ZhD(t:Tree):t.words.length+t.kids.length < Zq t:=by
 obtain ⟨k,w,ks⟩:=t
 have:=ZD ks
 simp only [Zq,Tree.words_mk,Tree.kids_mk]
 omega
theorem Yr(e:Edit):Zq e.old+Zq e.new+e.words.length+e.ops.length+Zw e.kids+Zs e.ops < Zc e:=by
 obtain ⟨k,o,n,w,ks,l,os⟩:=e
 simp only [Zc,Edit.old_mk,Edit.new_mk,Edit.words_mk,Edit.ops_mk,Edit.kids_mk]
 omega
theorem c62:Contract Try.prog cfg 62 Z4q:=by
 refine Zvz ?_
 intro t _ hp
 simp only [Z5s] at hp
 have:=ZhD t
 refine ZzR t _ ?_;(try simp only [vcT,forall_eq])
 refine ⟨fun _=> by unfold InR;omega,Z4 rfl ?_⟩
 rw [Bool.eq_iff_iff]
 simp only [ZT]
 (simp only [vcS])
 omega
theorem c63:Contract Try.prog cfg 63 Z9d:=by
 refine Zvy ZwJ ?_
 intro w m _ hp
 refine ZzQ _ _ _ ?_;(try simp only [vcT,forall_eq])
 refine ⟨⟨hp.1,by dsimp only;omega,hp.2⟩,Z4 rfl ?_⟩
 try rfl
theorem ZwI:Contract Try.prog cfg 104 Z64:=by
 refine ZsN c62 ?_
 intro e _ hp
 simp only [Z7c] at hp
 have h1:=Yr e
 have h2:=Yi e.kids
 refine Zyz e _ ?_;(try simp only [vcT,forall_eq])
 try (simp only [Tree.eta,Edit.eta,Tree.kind_mk,Tree.words_mk,Tree.kids_mk])
 refine ⟨fun _=> by simp only [Z5s];omega,fun _=> by simp only [Z5s];omega,fun _=> by unfold InR;omega,fun _=> by unfold InR;omega,Z4 rfl ?_⟩
 rw [Bool.eq_iff_iff]
 simp only [Z0V]
 (simp only [vcS])
 constructor
 ·rintro ⟨⟨⟨⟨h3,h4⟩,h5⟩,h6⟩,h7⟩;exact ⟨⟨⟨h3,h4⟩,h5⟩,by omega⟩
 ·rintro ⟨⟨⟨h3,h4⟩,h5⟩,h6⟩;exact ⟨⟨⟨⟨h3,h4⟩,h5⟩,by omega⟩,by omega⟩
theorem Zw6 (e:Edit) (x4 x5 i:Int) (N0:LSt U→Prop) (Q:AExit→LSt U→Prop) (h1:0≤x4∧x4≤1048576) (h2:0≤x5∧x5≤1048576) (hi:0≤i) (hlen:e.ops.length≤20000000000)
  (ho:∀ o∈e.ops,(0≤o.n∧o.n≤1048576)∧o.l.length≤20000000000)
  (h:i < e.ops.length→N0 (Z2S e (min (if (e.ops.getD i.toNat Op.nil).kind=2 then x4 else x4+Z2 (e.ops.getD i.toNat Op.nil)) 1048576) (min (if (e.ops.getD i.toNat Op.nil).kind=1 then x5 else x5+Z2 (e.ops.getD i.toNat Op.nil)) 1048576) (i+1)))
  (h':¬i < e.ops.length→Q .ret (⟨[(2,.c (.int .i64 x4)),(3,.c (.int .i64 x5))],[],[]⟩:LSt U)):ZwV e x4 x5 i N0 Q:=by
 refine ZrG _ _ _ _ _ _ ?_;(try simp only [vcT,forall_eq])
 (simp only [vcS]);(try simp only [vcT])
 refine ⟨fun hc=> ?_,h'⟩
 have hn:=h hc
 have hm:=ho _ (Zm (l:=e.ops) (i:=i.toNat) (by omega) Op.nil)
 have k1:∀ k,k=Z2 (e.ops.getD i.toNat Op.nil)→ZwZ e x4 x5 i k N0 Q:=by
  intro k hk
  have hkr:0≤k∧k≤60000000000:=by
   rw [hk];unfold Z2;split <;> omega
  have k2:∀ y,y=(if (e.ops.getD i.toNat Op.nil).kind=2 then x4 else x4+k)→ZwY e x5 i k y N0 Q:=by
   intro y hy
   have hyr:0≤y∧y≤100000000000:=by rw [hy];split <;> omega
   have k3:∀ z,z=(if (e.ops.getD i.toNat Op.nil).kind=1 then x5 else x5+k)→ZwX e i k y z N0 Q:=by
    intro z hz
    have hzr:0≤z∧z≤100000000000:=by rw [hz];split <;> omega
    have k4:∀ u,u=min y 1048576→ZwW e i y z u N0 Q:=by
     intro u hu
     refine ZrH _ _ _ _ _ _ _ ?_;(try simp only [vcT,forall_eq])
     (simp only [vcS]);(try simp only [vcT])
     rw [←hk,←hy,←hz,←hu] at hn
     refine ⟨fun hq=> ⟨by unfold InR;omega,?_⟩,fun hq=> ⟨by unfold InR;omega,?_⟩⟩
     ·rw [show min z 1048576=1048576 by omega] at hn;exact hn
     ·rw [show min z 1048576=z by omega] at hn;exact hn
    refine ZrI _ _ _ _ _ _ _ ?_;(try simp only [vcT,forall_eq])
    (simp only [vcS]);(try simp only [vcT])
    exact ⟨fun hq=> k4 _ (by omega),fun hq=> k4 _ (by omega)⟩
   refine ZrJ _ _ _ _ _ _ _ ?_;(try simp only [vcT,forall_eq])
   (simp only [vcS]);(try simp only [vcT])
   exact ⟨fun hq=> ⟨by unfold InR;omega,k3 _ (by rw [if_neg hq])⟩,fun hq=> k3 _ (by rw [if_pos hq])⟩
  refine ZrK _ _ _ _ _ _ _ ?_;(try simp only [vcT,forall_eq])
  (simp only [vcS]);(try simp only [vcT])
  exact ⟨fun hq=> ⟨by unfold InR;omega,k2 _ (by rw [if_neg hq])⟩,fun hq=> k2 _ (by rw [if_pos hq])⟩
 exact ⟨⟨hi,hc⟩,by unfold InR;omega,fun hq=> k1 _ (by unfold Z2;rw [if_pos hq]),fun hq=> k1 _ (by unfold Z2;rw [if_neg hq])⟩
theorem c65:Contract Try.prog cfg 65 Z4p:=by
 refine Zvx ?_
 intro e _ hp
 simp only [Zha] at hp
 have h1:=Yr e
 refine ZzO e _ ?_;(try simp only [vcT,forall_eq])
 refine Ze (ι:=Int × Int × Int) (fun p=> Z2S e p.1 p.2.1 p.2.2) (fun p=> 0≤p.2.2∧p.2.2≤e.ops.length∧(0≤p.1∧p.1≤1048576)∧(0≤p.2.1∧p.2.1≤1048576)∧Z0d (e.ops.drop p.2.2.toNat) p.1=Z0d e.ops 0∧Z0c (e.ops.drop p.2.2.toNat) p.2.1=Z0c e.ops 0) (fun p=> ((e.ops.length:Int) - p.2.2).toNat) (0,0,0) rfl ⟨by dsimp only;omega,by dsimp only;omega,by dsimp only;omega,by dsimp only;omega,by simp,by simp⟩ ?_
 rintro ⟨x4,x5,i⟩ ⟨h2,h3,h4,h5,h6,h7⟩
 dsimp only at*
 have ho:∀ o∈e.ops,(0≤o.n∧o.n≤1048576)∧o.l.length≤20000000000:=by
  intro o hm
  refine ⟨hp.2 o hm,?_⟩
  have a1:=Yq hm
  have a2:=ZD o.l
  rw [ZW] at a1
  omega
 refine Zw6 e x4 x5 i _ _ h4 h5 h2 (by omega) ho (fun hc=> ⟨(_,_,i+1),rfl,⟨by dsimp only;omega,by dsimp only;omega,?_,?_,?_,?_⟩,by dsimp only;omega⟩) (fun hc=> ?_)
 ·have hm:=ho _ (Zm (l:=e.ops) (i:=i.toNat) (by omega) Op.nil)
  dsimp only
  unfold Z2
  split <;> (try split) <;> omega
 ·have hm:=ho _ (Zm (l:=e.ops) (i:=i.toNat) (by omega) Op.nil)
  dsimp only
  unfold Z2
  split <;> (try split) <;> omega
 ·rw [YU h2 hc Op.nil] at h6
  exact h6
 ·rw [YU h2 hc Op.nil] at h7
  exact h7
 ·rw [List.drop_of_length_le (by omega)] at h6 h7
  simp only [Z0d,Z0c] at h6 h7
  simp only [ZoD,←h6,←h7]
  exact ⟨⟨rfl,⟨⟨rfl,rfl⟩,trivial⟩,rfl,⟨⟨rfl,rfl⟩,trivial⟩,trivial⟩,trivial⟩
theorem Zj3{l:List Kid}{d n:Int}(h:n < 0):JZ l d n=n:=by cases l <;> simp [JZ,h]
theorem Zj2{l:List Op}{d n:Int}(h:n < 0):Z0e l d n=n:=by cases l <;> simp [Z0e,h]
theorem Zf0{l:List Tree}{d n:Int}(h:n < 0):Zy l d n=n:=by cases l <;> simp [Zy,h]
theorem Zmm{e:Edit}(h:Z2r e):JK e.old∧JK e.new∧e.words.length≤17592186044416∧e.kids.length≤17592186044416∧e.ops.length≤17592186044416∧Z66 e.kids∧Z65 e.ops:=by
 obtain ⟨k,o,n,w,ks,l,os⟩:=e;exact h
theorem Zq7(e:Edit)(d n:Int):Z0Q e d n=if d=0∨n - 1 - e.words.length - e.ops.length < 0 then -1 else Z0e e.ops (d - 1) (JZ e.kids (d - 1) (sh1 e.new (ZH e.old 80 (n - 1 - e.words.length - e.ops.length)))):=by
 obtain ⟨k,o,nw,w,ks,l,os⟩:=e;rfl
theorem c90:Contract Try.prog cfg 90 ZbE:=by
 refine Zvn c78 ?_
 rintro N e d n _ hp hN
 simp only [Zci,Zhp] at hp hN
 obtain ⟨hs,hd0,hd1,hn0,hn1⟩:=hp
 obtain ⟨so,sn,lw,lk,lo,sk,sos⟩:=Zmm hs
 have hme:=Yr e
 have hres:=Zq7 e d n
 refine ZzB N e d n _ ?_;(try simp only [vcT,forall_eq])
 (simp only [vcS]);(try simp only [vcT])
 try (simp only [Tree.eta,Edit.eta,Tree.kind_mk,Tree.words_mk,Tree.kids_mk])
 refine ⟨by unfold InR;omega,by unfold InR;omega,by unfold InR;omega,fun hc=> Yy rfl (by rw [hres,if_pos hc]),fun hc=> ?_⟩
 rw [if_neg (by omega)] at hres
 have r1:=YT e.old 80 (n - 1 - e.words.length - e.ops.length)
 have p68:∀ t m,JK t→-1≤m→m≤4611686018427387904→Z85 (t,80,m,()):=fun t m h1 h2 h3=> ⟨h1,by dsimp only;omega,by dsimp only;omega,h2,h3⟩
 have k0:∀ x,x=sh1 e.new (ZH e.old 80 (n - 1 - e.words.length - e.ops.length))→ZwU N e d n x (JB cfg Try.f90.ntmps Try.f90.results.toList (Zke (e,d,n,())) []):=by
  intro x hx
  have rx:=Z9g e.new _ r1.1
  rw [←hx] at rx hres
  refine Zrw N e d n x _ ?_;(try simp only [vcT,forall_eq])
  refine Ze (ι:=Int × Int) (fun p=> Z8C e d n p.1 p.2) (fun p=> 0≤p.2∧p.2≤e.kids.length∧-1≤p.1∧p.1≤4611686018427387904∧JZ (e.kids.drop p.2.toNat) (d - 1) p.1=JZ e.kids (d - 1) x) (fun p=> ((e.kids.length:Int) - p.2).toNat) (x,0) rfl ⟨by dsimp only;omega,by dsimp only;omega,by dsimp only;omega,by dsimp only;omega,by simp⟩ ?_
  rintro ⟨y,i⟩ ⟨h1,h2,h3,h4,h5⟩
  dsimp only at*
  refine Zrv N e d n y i _ _ ?_;(try simp only [vcT,forall_eq])
  (simp only [vcS]);(try simp only [vcT])
  try (simp only [Tree.eta,Edit.eta,Tree.kind_mk,Tree.words_mk,Tree.kids_mk])
  refine ⟨fun hi=> ?_,fun hi=> ?_⟩
  ·have hmem:=Zm (l:=e.kids) (i:=i.toNat) (by omega) (KidOf.mk 0 Edit.nil)
   have hsm:=Za0 sk hmem
   have hmm:=JX hmem
   rw [YU h1 hi.1 (KidOf.mk 0 Edit.nil)] at h5
   simp only [JZ] at h5
   rw [if_neg (by omega),Zn2] at h5
   have rr:=Z1y (e.kids.getD i.toNat (KidOf.mk 0 Edit.nil)).e (d - 1) y
   exact ⟨⟨h1,hi.1⟩,by unfold InR;omega,⟨hsm,by dsimp only;omega,by dsimp only;omega,h3,h4⟩,by simp only [Zhp];omega,by unfold InR;omega,(_,i+1),rfl,⟨by dsimp only;omega,by dsimp only;omega,by dsimp only;omega,by dsimp only;omega,h5⟩,by dsimp only;omega⟩
  ·have hy:JZ e.kids (d - 1) x=y:=by
    rw [←h5]
    by_cases hlt:i < e.kids.length
    ·exact Zj3 (by omega)
    ·rw [List.drop_of_length_le (by omega)];try rfl
   rw [hy] at hres
   refine Ze (ι:=Int × Int) (fun p=> Z5P e d n p.1 p.2) (fun p=> 0≤p.2∧p.2≤e.ops.length∧-1≤p.1∧p.1≤4611686018427387904∧Z0e (e.ops.drop p.2.toNat) (d - 1) p.1=Z0e e.ops (d - 1) y) (fun p=> ((e.ops.length:Int) - p.2).toNat) (y,0) rfl ⟨by dsimp only;omega,by dsimp only;omega,h3,h4,by simp⟩ ?_
   rintro ⟨z,j⟩ ⟨h6,h7,h8,h9,h10⟩
   dsimp only at*
   refine Zru N e d n z j _ _ ?_;(try simp only [vcT,forall_eq])
   (simp only [vcS]);(try simp only [vcT])
   refine ⟨fun hj=> ?_,fun hj=> ?_⟩
   ·have hmem:=Zm (l:=e.ops) (i:=j.toNat) (by omega) Op.nil
    have hsm:=Z9Z sos hmem
    have hmm:=Yq hmem
    rw [ZW] at hmm
    rw [YU h6 hj.1 Op.nil] at h10
    simp only [Z0e] at h10
    rw [if_neg (by omega),Zq6] at h10
    refine Ze (ι:=Int × Int) (fun p=> Z8B e d n j p.1 p.2) (fun p=> 0≤p.2∧p.2≤(e.ops.getD j.toNat Op.nil).l.length∧-1≤p.1∧p.1≤4611686018427387904∧Zy ((e.ops.getD j.toNat Op.nil).l.drop p.2.toNat) 80 p.1=Zy (e.ops.getD j.toNat Op.nil).l 80 z) (fun p=> (((e.ops.getD j.toNat Op.nil).l.length:Int) - p.2).toNat) (z,0) rfl ⟨by dsimp only;omega,by dsimp only;omega,h8,h9,by simp⟩ ?_
    rintro ⟨u,k⟩ ⟨g1,g2,g3,g4,g5⟩
    dsimp only at*
    refine Zrt N e d n j u k _ _ _ ?_;(try simp only [vcT,forall_eq])
    (simp only [vcS]);(try simp only [vcT])
    try (simp only [Tree.eta,Edit.eta,Tree.kind_mk,Tree.words_mk,Tree.kids_mk])
    refine ⟨⟨h6,hj.1⟩,fun hk=> ?_,fun hk=> ?_⟩
    ·have hmt:=Zm (l:=(e.ops.getD j.toNat Op.nil).l) (i:=k.toNat) (by omega) Tree.nil
     rw [YU g1 hk.1 Tree.nil] at g5
     simp only [Zy] at g5
     rw [if_neg (by omega)] at g5
     have rr:=YT ((e.ops.getD j.toNat Op.nil).l.getD k.toNat Tree.nil) 80 u
     exact ⟨⟨h6,hj.1⟩,⟨g1,hk.1⟩,p68 _ _ (ZbV hsm.2.1 hmt) g3 g4,by unfold InR;omega,(_,k+1),rfl,⟨by dsimp only;omega,by dsimp only;omega,by dsimp only;omega,by dsimp only;omega,g5⟩,by dsimp only;omega⟩
    ·have hu:Zy (e.ops.getD j.toNat Op.nil).l 80 z=u:=by
      rw [←g5]
      by_cases hlt:k < (e.ops.getD j.toNat Op.nil).l.length
      ·exact Zf0 (by omega)
      ·rw [List.drop_of_length_le (by omega)];try rfl
     rw [hu] at h10
     have rr:=Z1y (e.ops.getD j.toNat Op.nil).e (d - 1) u
     refine ⟨fun hq=> ⟨⟨h6,hj.1⟩,by unfold InR;omega,⟨hsm.2.2,by dsimp only;omega,by dsimp only;omega,g3,g4⟩,by simp only [Zhp];omega,by unfold InR;omega,(_,j+1),rfl,⟨by dsimp only;omega,by dsimp only;omega,by dsimp only;omega,by dsimp only;omega,?_⟩,by dsimp only;omega⟩,
      fun hq=> ⟨by unfold InR;omega,(_,j+1),rfl,⟨by dsimp only;omega,by dsimp only;omega,by dsimp only;omega,by dsimp only;omega,?_⟩,by dsimp only;omega⟩⟩
     ·rw [if_neg (by omega)] at h10;exact h10
     ·rw [if_pos (by omega)] at h10;exact h10
   ·refine Yy rfl ?_
    rw [hres,←h10]
    by_cases hlt:j < e.ops.length
    ·exact (Zj2 (by omega)).symm
    ·rw [List.drop_of_length_le (by omega)];try rfl
 refine ⟨p68 _ _ so (by omega) (by omega),fun hq=> ⟨p68 _ _ sn r1.1 (by omega),k0 _ ?_⟩,fun hq=> k0 _ ?_⟩
 ·unfold sh1;rw [if_neg (by omega)]
 ·unfold sh1;rw [if_pos (by omega)]
theorem c54:Contract Try.prog cfg 54 ZbL:=by
 refine ZvB c90 ?_
 intro e _ hp
 refine ZzV e _ ?_;(try simp only [vcT,forall_eq])
 try (simp only [Tree.eta,Edit.eta,Tree.kind_mk,Tree.words_mk,Tree.kids_mk])
 exact ⟨⟨hp,by dsimp only;omega,by dsimp only;omega,by dsimp only;omega,by dsimp only;omega⟩,Z4 rfl rfl⟩
end Go.AM.Ytpjenobkibfpcaa
