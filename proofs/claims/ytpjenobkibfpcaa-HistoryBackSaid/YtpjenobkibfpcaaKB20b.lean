import Derived.Test.YtpjenobkibfpcaaKL07
import Derived.Test.YtpjenobkibfpcaaKD20
set_option linter.unusedSimpArgs false
set_option linter.unusedVariables false
namespace Go.AM.Ytpjenobkibfpcaa
open Go.AM Go.Proofs
theorem Z0{n k:Nat}{rs:List ResultVar}{b b':Bool}(hr:rs=[ResultVar.tmp k])(h:b=b'):YA cfg n rs (.c (.bool b')) [] .ret (⟨[(k,.c (.bool b))],[],[]⟩:LSt U):=by
 subst hr h
 have hk:Nat.beq k k=true:=XG k
 simp [YA,Zsp,ZbA,Zbz,Z4W,Z6Y,LSt.toF,Zaw,hk,Z9G,Z1I,Yi,Ji,leR,leL,leC,Zjw]
theorem Yz{n k:Nat}{rs:List ResultVar}{K:IntKind}{b b':Int}(hr:rs=[ResultVar.tmp k])(h:b=b'):YA cfg n rs (.c (.int K b')) [] .ret (⟨[(k,.c (.int K b))],[],[]⟩:LSt U):=by
 subst hr h
 have hk:Nat.beq k k=true:=XG k
 simp [YA,Zsp,ZbA,Zbz,Z4W,Z6Y,LSt.toF,Zaw,hk,Z9G,Z1I,Yi,Ji,leR,leL,leC,Zjw]
theorem Zs4:Contract Try.prog cfg 116 Z5A:=by
 refine Zom ?_
 intro c _ _
 refine ZtD _ _ ?_;(try simp only [vcT,forall_eq])
 (simp only [vcS]);(try simp only [vcT])
 refine ⟨fun h=> Yz rfl ?_,fun h=> ⟨fun h=> Yz rfl ?_,fun h=> ⟨fun h=> Yz rfl ?_,fun h=> ⟨fun h=> Yz rfl ?_,fun h=> ⟨fun h=> Yz rfl ?_,fun h=> ⟨fun h=> Yz rfl ?_,fun h=> Yz rfl ?_⟩⟩⟩⟩⟩⟩ <;> simp only [wd] <;> simp [*]
theorem ZjF(c:Int): -1<=wd c/\wd c<=64:=by
 unfold wd
 repeat' split
 all_goals omega
theorem Zev(n:Int)(h0:0<=n)(h1:n < 18446744073709551616):IntKind.wrap .u64 (Int.tdiv n 2)=n / 2:=by
 rw [Xo h0]
 simp [IntKind.wrap,IntKind.signed,IntKind.bits]
 omega
theorem Zl9{w:Nat}{n m:Int}(h:0<=n):(n / 2 < 2 ^ w)↔n < 2 ^ (w+1):=by
 have:(2:Int) ^ (w+1)=2 ^ w*2:=by rw [XV]
 omega
theorem c79:Contract Try.prog cfg 79 Z8W:=by
 refine ZqO Zs4 ?_
 intro c n _ hp
 simp only [ZgN] at hp
 have hw:=ZjF c
 refine ZuQ _ _ _ ?_;(try simp only [vcT,forall_eq])
 (simp only [vcS]);(try simp only [vcT])
 refine ⟨trivial,fun h=> Z0 rfl ?_,fun h=> ?_⟩
 ·simp only [Zcr]
  simp
  omega
 ·refine Za (ι:=Int × Int) (fun p=> Z6g c n p.1 p.2) (fun p=> 0<=p.2/\p.2<=wd c/\0<=p.1/\p.1 < 18446744073709551616/\(n < 2 ^ (wd c).toNat↔p.1 < 2 ^ (wd c - p.2).toNat)) (fun p=> (wd c - p.2).toNat) (n,0) rfl ⟨by dsimp only;omega,by dsimp only;omega,by dsimp only;omega,by dsimp only;omega,by simp⟩ ?_
  rintro ⟨m,i⟩ ⟨h1,h2,h3,h4,h5⟩
  dsimp only at*
  refine Znm _ _ _ _ _ _ ?_;(try simp only [vcT,forall_eq])
  (simp only [vcS]);(try simp only [vcT])
  refine ⟨fun hc=> ⟨by omega,by unfold InR;omega,(IntKind.wrap .u64 (Int.tdiv m 2),i+1),rfl,?_,by dsimp only;omega⟩,fun hc=> Z0 rfl ?_⟩
  ·rw [Zev m h3 h4]
   refine ⟨by dsimp only;omega,by dsimp only;omega,by dsimp only;omega,by dsimp only;omega,?_⟩
   dsimp only
   rw [h5,show (wd c - i).toNat=(wd c - (i+1)).toNat+1 by omega]
   exact (Zl9 (m:=0) h3).symm
  ·have e:(wd c - i).toNat=0:=by omega
   rw [e] at h5
   simp only [Zcr]
   rw [Qd]
   simp
   omega
theorem ZrN:Contract Try.prog cfg 194 Z5r:=by
 refine Zo1 ?_
 intro c _ _
 refine Ztd _ _ ?_;(try simp only [vcT,forall_eq])
 (simp only [vcS]);(try simp only [vcT])
 have hw:=ZjF c
 refine ⟨fun h=> ?_,fun h=> ⟨by omega,?_⟩⟩
 ·have e:wd c= -1:=by unfold wd;(repeat' split) <;> omega
  simp only [ZeW,e]
  exact ⟨⟨rfl,⟨⟨rfl,rfl⟩,trivial⟩,rfl,⟨rfl,trivial⟩,trivial⟩,trivial⟩
 ·have hc:c=0\/c=1\/c=2\/c=3\/c=4\/c=5:=by omega
  rcases hc with rfl | rfl | rfl | rfl | rfl | rfl <;> exact ⟨⟨rfl,⟨⟨rfl,rfl⟩,trivial⟩,rfl,⟨rfl,trivial⟩,trivial⟩,trivial⟩
theorem Zmo(n:Int)(w:Nat)(h:0<=n):(Int.fdiv n (2 ^ w)=0)↔n < 2 ^ w:=by
 have hp:(0:Int) < 2 ^ w:=Xy (by omega)
 rw [Int.fdiv_eq_ediv_of_nonneg _ (by omega)]
 constructor
 ·intro h1
  have:=Int.lt_ediv_add_one_mul_self n hp
  rw [h1] at this
  simpa using this
 ·intro h1
  exact Int.ediv_eq_zero_of_lt h h1
theorem ZrS:Contract Try.prog cfg 183 Z8W:=by
 refine Zo6 ZrN ?_
 intro c n _ hp
 simp only [ZgN] at hp
 have hw:=ZjF c
 refine Zti _ _ _ ?_;(try simp only [vcT,forall_eq])
 refine ⟨trivial,fun h=> by split <;> omega,fun a b=> by simp only [a,b];rfl,Z0 rfl ?_⟩
 simp only [Zcr]
 by_cases h0:0<=wd c
 ·rw [if_neg (by omega)]
  simp only [h0,decide_true,cond_true,true_and]
  by_cases h64:wd c=64
  ·simp [h64]
   omega
  ·have:((wd c)==64)=false:=by simpa using h64
   rw [this,cond_false,Qd]
   have hm:min (wd c).toNat (IntKind.bits .u64)=(wd c).toNat:=by
    show min (wd c).toNat 64=_
    omega
   rw [hm]
   simp only [beq_iff_eq,decide_eq_true_eq]
   exact Zmo n _ hp.1
 ·simp [h0]
theorem c92:Contract Try.prog cfg 92 Z1E:=by
 refine ZqG ?_
 intro c _ _
 refine ZuH _ _ ?_;(try simp only [vcT,forall_eq])
 refine Z0 rfl ?_
 rw [Qd]
 (simp only [vcS])
theorem Zjk:Contract Try.prog cfg 120 Z1s:=by
 refine Zok ?_
 intro c _ _
 refine ZtA _ _ ?_;(try simp only [vcT,forall_eq])
 refine Z0 rfl ?_
 rw [Qd]
 (simp only [vcS])
theorem Zd9{t:Tree}(h:rng t){i:Nat}(hi:i < t.words.length):0<=t.words.getD i 0/\t.words.getD i 0 < 18446744073709551616:=by
 obtain ⟨k,w,ks⟩:=t
 simp only [rng] at h
 simp only [Tree.words_mk] at*
 have hg:w.getD i 0∈w:=by
  simp only [List.getD,Q0 hi,QX]
  exact XA hi
 exact h.2.1 _ hg
theorem ZrV:Contract Try.prog cfg 162 Z5w:=by
 refine Zo9 Zjk ZrS ?_
 intro l t _ hp
 simp only [Zc6] at hp
 refine Ztn _ _ _ ?_;(try simp only [vcT,forall_eq])
 (simp only [vcS]);(try simp only [vcT])
 refine ⟨trivial,fun hd=> ⟨fun _=> by unfold InR;omega,fun h=> by omega,fun h=> Zd9 hp (by omega),Z0 rfl ?_⟩,fun hd=> ⟨fun h=> Z0 rfl ?_,fun h=> Z0 rfl ?_⟩⟩
 ·simp only [Z3E,if_pos hd,Int.toNat_zero]
  rw [Qd]
  (simp only [vcS])
  constructor <;> (rintro ⟨h1,h2⟩;exact ⟨by omega,h2⟩)
 ·simp only [Z3E,if_neg hd,if_pos h]
  rw [Qd]
  (simp only [vcS])
 ·simp only [Z3E,if_neg hd,if_neg h]
  rw [Qd]
  (simp only [vcS])
theorem Z7H{l:Int}{ks:List Tree}{i:Int}{d:Int}(h0:0<=i)(h:i < ks.length):
  Y7 l (ks.drop i.toNat) d=((Z3E l (ks.getD i.toNat Tree.nil) && Z9 (ks.getD i.toNat Tree.nil) d) && Y7 l (ks.drop (i+1).toNat) d):=by
 have e:(i+1).toNat=i.toNat+1:=by omega
 rw [QJ (by omega),e]
 simp only [Y7,List.getD,Q0 (show i.toNat < ks.length by omega),QX]
theorem Z9k:∀ {ks:List Tree} {i:Nat},ZQ ks->i < ks.length->rng (ks.getD i Tree.nil)
 | t ::_,0,h,_=> by simp only [ZQ] at h;exact h.1
 | _ ::r,i+1,h,hi=> by simp only [ZQ] at h;exact Z9k (ks:=r) (i:=i) h.2 (by simpa using hi)
theorem Ze1(t:Tree):Z3E 1 t=decide (t.kind≠10):=by simp [Z3E]
theorem Zs3:Contract Try.prog cfg 117 Z5z:=by
 refine Zol c92 ZrV ?_
 rintro N ⟨k,ws,ks⟩ d _ hp hN
 simp only [Z3q,Z7U,Zm,rng] at hp hN
 have key:∀ b,d≠0->Z9 (.mk k ws ks) d=(b && Y7 k ks (d - 1))->b=true->
   Zh (awp cfg (Z1 (Z2L N)) (ZC cfg (Z1 (Z2L N))) Try.f117.ntmps Zbf (cd Try.f117 [1,1,0,1,0,0])) (Z2a (.mk k ws ks) d 0) (AExit.inBlock 1 (Z9h cfg (Z1 (Z2L N)) (ZC cfg (Z1 (Z2L N))) Try.f117.ntmps Zbf (cd Try.f117 [1,1,1]) (YA cfg Try.f117.ntmps Try.f117.results.toList (Zc0 (.mk k ws ks,d,())) []))):=by
  intro b hd0 hb hbt
  subst hbt
  rw [QM] at hb
  refine Za (ι:=Int) (fun p=> Z2a (.mk k ws ks) d p) (fun p=> 0<=p/\p<=ks.length/\Z9 (.mk k ws ks) d=Y7 k (ks.drop p.toNat) (d - 1)) (fun p=> ((ks.length:Int) - p).toNat) 0 rfl ⟨by omega,by omega,by simpa using hb⟩ ?_
  rintro i ⟨h1,h2,h3⟩
  refine ZjT N _ _ _ _ _ ?_;(try simp only [vcT,forall_eq])
  (simp only [vcS]);(try simp only [vcT])
  try (simp only [Tree.eta,Edit.eta,Tree.kind_mk,Tree.words_mk,Tree.kids_mk])
  refine ⟨fun hi=> ⟨⟨by omega,hi⟩,?_⟩,fun hi=> ?_⟩
  ·have hd:=Z7H (l:=k) (d:=d - 1) h1 hi
   have hm:=Jc (ks:=ks) (i:=i.toNat) (by omega)
   have hr:=Z9k (i:=i.toNat) hp.2.1.2.2 (by omega)
   rw [hd] at h3
   have hlen:=Zw ks
   generalize ks.getD i.toNat Tree.nil=y at*
   have hpre:Z3q (y,d - 1,()):=⟨by dsimp only;omega,hr,by dsimp only;omega,by dsimp only;omega⟩
   have hmu:Z7U (y,d - 1,()) < N:=by simp only [Z7U];omega
   have hin:InR (d - 1):=by unfold InR;omega
   refine ⟨fun hk=> ⟨hr,fun _=> hin,fun _=> hpre,fun _=> hmu,fun hc=> Z0 rfl ?_,fun hc=> ⟨by unfold InR;omega,i+1,rfl,⟨by omega,by omega,?_⟩,by omega⟩⟩,fun hk=> ⟨fun _=> hin,fun _=> hpre,fun _=> hmu,fun hc=> Z0 rfl ?_,fun hc=> ⟨by unfold InR;omega,i+1,rfl,⟨by omega,by omega,?_⟩,by omega⟩⟩⟩
   ·rw [h3]
    rcases hc with hc | hc <;> simp [hc]
   ·rw [h3,hc.1,hc.2];try rfl
   ·subst hk
    rw [h3,Ze1]
    rcases hc with hc | hc <;> simp [hc]
   ·subst hk
    rw [h3,Ze1,hc.2]
    simp [hc.1]
  ·rw [Qr (by omega)] at h3
   simp only [Y7] at h3
   exact Z0 rfl h3.symm
 refine ZtC N _ _ _ ?_;(try simp only [vcT,forall_eq])
 (simp only [vcS]);(try simp only [vcT])
 try (simp only [Tree.eta,Edit.eta,Tree.kind_mk,Tree.words_mk,Tree.kids_mk])
 have hk0:∀ h0:k=0,Z9 (.mk k ws ks) d=decide (ws.length=0/\ks.length=0):=fun h0=> by simp only [Z9,if_pos h0]
 have hk10:∀ (_:¬k=0) (h10:k=10),Z9 (.mk k ws ks) d=decide (ws.length=1/\ks.length=0):=fun h0 h10=> by simp only [Z9,if_neg h0,if_pos h10]
 refine ⟨fun h0=> Z0 rfl ?_,fun h0=> ⟨fun h10=> Z0 rfl ?_,fun h10=> ⟨fun hd=> Z0 rfl ?_,fun hd=> ⟨fun h1=> ⟨fun hc=> Z0 rfl ?_,fun hc=> key true hd ?_ rfl⟩,fun h1=> ⟨trivial,fun hc=> Z0 rfl ?_,fun hc=> key true hd ?_ rfl⟩⟩⟩⟩⟩
 ·rw [hk0 h0,Qd];(simp only [vcS]);omega
 ·rw [hk10 h0 h10,Qd];(simp only [vcS]);omega
 ·simp only [Z9,if_neg h0,if_neg h10,if_pos hd]
 ·simp only [Z9,if_neg h0,if_neg h10,if_neg hd,if_pos h1]
  rw [decide_eq_false (by omega)];try rfl
 ·simp only [Z9,if_neg h0,if_neg h10,if_neg hd,if_pos h1]
  rw [decide_eq_true (by omega),h1]
 ·simp only [Z9,if_neg h0,if_neg h10,if_neg hd,if_neg h1]
  rw [decide_eq_false (by omega)];try rfl
 ·simp only [Z9,if_neg h0,if_neg h10,if_neg hd,if_neg h1]
  rw [decide_eq_true (by omega)]
theorem c80:Contract Try.prog cfg 80 JI:=by
 refine ZqN Zs3 ?_
 intro t _ hp
 refine ZuP _ _ ?_;(try simp only [vcT,forall_eq])
 try (simp only [Tree.eta,Edit.eta,Tree.kind_mk,Tree.words_mk,Tree.kids_mk])
 exact ⟨⟨hp.1,hp.2,by dsimp only;omega,by dsimp only;omega⟩,Z0 rfl rfl⟩
theorem Zdd{y:Tree}{d:Int}(h:Z9 y d=true)(hk:y.kind=10):y.words.length=1/\y.kids.length=0:=by
 obtain ⟨k,w,ks⟩:=y
 simp only [Tree.kind_mk] at hk
 subst hk
 simpa [Z9] using h
theorem c37:Contract Try.prog cfg 37 Z5z:=by
 refine Zrb c79 ?_
 rintro N ⟨k,ws,ks⟩ d _ hp hN
 simp only [Z3q,Z7U,Zm,rng] at hp hN
 refine Zvg N _ _ _ ?_;(try simp only [vcT,forall_eq])
 (simp only [vcS]);(try simp only [vcT])
 try (simp only [Tree.eta,Edit.eta,Tree.kind_mk,Tree.words_mk,Tree.kids_mk])
 refine ⟨fun h0=> Z0 rfl ?_,fun h0=> ⟨fun h10=> Z0 rfl ?_,fun h10=> ⟨fun a b=> ⟨a,b⟩,fun hc=> Z0 rfl ?_,fun hc=> ⟨fun hw=> Z0 rfl ?_,fun hw=> ?_⟩⟩⟩⟩
 ·simp only [Z9,if_pos h0]
  rw [Qd];(simp only [vcS]);omega
 ·simp only [Z9,if_neg h0,if_pos h10]
  rw [Qd];(simp only [vcS]);omega
 ·simp only [Z9,if_neg h0,if_neg h10]
  split
  ·try rfl
  ·split
   ·rw [decide_eq_false (by omega)];try rfl
   ·have:¬(2<=k/\k<=9/\ws.length=0/\ks.length < 1048576):=by omega
    rw [decide_eq_false this];try rfl
 ·simp only [Z9,if_neg h0,if_neg h10]
  rw [if_neg (by omega),if_neg (by omega)]
  have:¬(2<=k/\k<=9/\ws.length=0/\ks.length < 1048576):=by omega
  rw [decide_eq_false this];try rfl
 ·have hb:Z9 (.mk k ws ks) d=Y7 k ks (d - 1):=by
   simp only [Z9,if_neg h0,if_neg h10]
   rw [if_neg (by omega)]
   split
   ·rename_i h1
    rw [decide_eq_true (by omega),h1];try rfl
   ·have:2<=k/\k<=9/\ws.length=0/\ks.length < 1048576:=by omega
    rw [decide_eq_true this];try rfl
  refine Za (ι:=Int) (fun p=> Z6v (.mk k ws ks) d p) (fun p=> 0<=p/\p<=ks.length/\Z9 (.mk k ws ks) d=Y7 k (ks.drop p.toNat) (d - 1)) (fun p=> ((ks.length:Int) - p).toNat) 0 rfl ⟨by omega,by omega,by simpa using hb⟩ ?_
  rintro i ⟨h1,h2,h3⟩
  refine ZnF N _ _ _ _ _ ?_;(try simp only [vcT,forall_eq])
  (simp only [vcS]);(try simp only [vcT])
  try (simp only [Tree.eta,Edit.eta,Tree.kind_mk,Tree.words_mk,Tree.kids_mk])
  refine ⟨fun hi=> ?_,fun hi=> ?_⟩
  ·have hd:=Z7H (l:=k) (d:=d - 1) h1 hi
   have hm:=Jc (ks:=ks) (i:=i.toNat) (by omega)
   have hr:=Z9k (i:=i.toNat) hp.2.1.2.2 (by omega)
   rw [hd] at h3
   have hlen:=Zw ks
   generalize ks.getD i.toNat Tree.nil=y at*
   have hpre:Z3q (y,d - 1,()):=⟨by dsimp only;omega,hr,by dsimp only;omega,by dsimp only;omega⟩
   have hmu:Z7U (y,d - 1,()) < N:=by simp only [Z7U];omega
   have hin:InR (d - 1):=by unfold InR;omega
   refine ⟨⟨h1,hi⟩,hin,hpre,hmu,fun hf=> Z0 rfl ?_,fun hf=> ?_⟩
   ·rw [h3,hf];simp
   ·have hdata:((bif decide (2<=k) then decide (k<=7) else false)=(y.kind==10))↔((2<=k/\k<=7)↔y.kind=10):=by
     rw [Qd];(simp only [vcS])
    have hat:=Zdd hf
    have hkb:Z3E k y=true↔(((2<=k/\k<=7)↔y.kind=10)/\(¬k=9\/y.kind=1))/\((¬2<=k\/¬k<=7)\/Zcr (k - 2) (y.words.getD 0 0)=true):=by
     unfold Z3E
     by_cases hk:2<=k/\k<=7
     ·rw [if_pos hk]
      (simp only [vcS])
      constructor
      ·rintro ⟨h4,h5⟩;exact ⟨⟨by omega,by omega⟩,.inr h5⟩
      ·rintro ⟨⟨h4,_⟩,h5⟩
       have:=hat (by omega)
       exact ⟨by omega,by rcases h5 with h5 | h5;omega;exact h5⟩
     ·rw [if_neg hk]
      by_cases h9:k=9
      ·rw [if_pos h9]
       (simp only [vcS])
       constructor
       ·intro h4;exact ⟨⟨by omega,by omega⟩,.inl (by omega)⟩
       ·rintro ⟨⟨_,h4⟩,_⟩;omega
      ·rw [if_neg h9]
       (simp only [vcS])
       constructor
       ·intro h4;exact ⟨⟨by omega,by omega⟩,.inl (by omega)⟩
       ·rintro ⟨⟨h4,_⟩,_⟩;omega
    have hone:∀ (h4:(((bif decide (2<=k) then decide (k<=7) else false)=(y.kind==10)/\(¬k=9\/y.kind=1))/\2<=k/\k<=7)),y.words.length=1:=fun h4=> (hat ((hdata.1 h4.1.1).1 h4.2)).1
    simp only [Int.toNat_zero]
    refine ⟨fun a b=> ⟨a,b⟩,fun h4=> by unfold InR;omega,fun h4=> by have:=hone h4;omega,fun h4=> Zd9 hr (by have:=hone h4;omega),fun a b=> ⟨a,b⟩,fun h4=> Z0 rfl ?_,fun h4=> ⟨by unfold InR;omega,i+1,rfl,⟨by omega,by omega,?_⟩,by omega⟩⟩
    ·have hno:Z3E k y=false:=by
      cases hkk:Z3E k y with
      | false=> rfl
      | true=>
       exfalso
       obtain ⟨h5,h6⟩:=hkb.1 hkk
       rcases h4 with h4 | ⟨h4,h7⟩
       ·rcases h4 with h4 | h4
        ·exact h4 (hdata.2 h5.1)
        ·omega
       ·rcases h6 with h6 | h6
        ·omega
        ·rw [h7] at h6;cases h6
     rw [h3,hno];try rfl
    ·rw [h3,hkb.2 ⟨⟨hdata.1 h4.1.1,h4.1.2⟩,h4.2⟩,hf];try rfl
  ·rw [Qr (by omega)] at h3
   simp only [Y7] at h3
   exact Z0 rfl h3.symm
theorem Z7p{t:Tree}(h:0<=Zr t 80 3000):Zm t<=20000000000:=by
 have:=J9 t 80 3000 h
 omega
noncomputable section
def ZmO:ArgL (Int × Unit):=(.cons (Yq .u64) .nil)
def Zds(a:Int × Unit):Prop:=0<=a.1/\a.1 < 18446744073709551616
def Zkr(a:Int × Unit):V U:= .agg [.int .u8 (Zd a.1 0),.int .u8 (Zd a.1 1),.int .u8 (Zd a.1 2),.int .u8 (Zd a.1 3),.int .u8 (Zd a.1 4),.int .u8 (Zd a.1 5),.int .u8 (Zd a.1 6),.int .u8 (Zd a.1 7)]
def Z90:Fs U:=fs ZmO (fun a=> [Zds a]) Zkr
def ZmN:ArgL (Int × Int × Unit):=(.cons (Yq .u8) (.cons (Yq .i64) .nil))
def ZgO(a:Int × Int × Unit):Prop:=(0<=a.1/\a.1 < 256)/\0<=a.2.1/\a.2.1<=8
def ZpH(a:Int × Int × Unit):V U:= .c (.bool (Z7R a.1 a.2.1))
def Z8Z:Fs U:=fs ZmN (fun a=> [ZgO a]) ZpH
def ZmM:ArgL (List Int × Int × Unit):=(.cons (aSl .u8) (.cons (Yq .i64) .nil))
def Zl4(a:List Int × Int × Unit):Prop:=a.2.1=0/\a.1.length=8/\∀ x∈a.1,0<=x/\x < 256
def ZpG(a:List Int × Int × Unit):V U:= .c (.int .u64 (of8 (fun i=> a.1.getD i 0)))
def Z8Y:Fs U:=fs ZmM (fun a=> [Zl4 a]) ZpG
def ZhX:ArgL (Int × Int × Int × Unit):=(.cons (Yq .u64) (.cons (Yq .u64) (.cons (Yq .u8) .nil)))
def Zc7(a:Int × Int × Int × Unit):Prop:=(0<=a.1/\a.1 < 18446744073709551616)/\(0<=a.2.1/\a.2.1 < 18446744073709551616)/\(0<=a.2.2.1/\a.2.2.1 < 256)
def ZkS(a:Int × Int × Int × Unit):V U:= .c (.int .u64 (mix a.1 a.2.1 a.2.2.1))
def Z5D:Fs U:=fs ZhX (fun a=> [Zc7 a]) ZkS
def Z3n(a:Tree × Unit):Prop:=Zm a.1<=20000000000
def ZpK(a:Tree × Unit):V U:= .c (.bool (ZJ a.1))
def Z2q:Fs U:=fs ZmX (fun a=> [Z3n a]) ZpK
def ZmR:ArgL (Int × Int × Unit):=(.cons (Yq .u64) (.cons (Yq .u8) .nil))
def ZgP(a:Int × Int × Unit):Prop:=(0<=a.1/\a.1 < 18446744073709551616)/\(0<=a.2.1/\a.2.1 < 256)
def ZpJ(a:Int × Int × Unit):V U:= .c (.bool (J8 a.1 a.2.1))
def Z6T:Fs U:=fs ZmR (fun a=> [ZgP a]) ZpJ
def ZhW:ArgL (Edit × Unit):=(.cons (aEl .edit) .nil)
def Z52(a:Edit × Unit):Prop:=ZD a.1<=20000000000
def ZkR(a:Edit × Unit):V U:= .c (.bool (Z0f a.1))
def Z3U:Fs U:=fs ZhW (fun a=> [Z52 a]) ZkR
def Zdt(a:Edit × Unit):Prop:=ZD a.1<=20000000000/\∀ o∈Edit.ops a.1,0<=o.n/\o.n<=1048576
def Zks(a:Edit × Unit):V U:= .tup [(false,[ci (Jy a.1.ops 0)]),(false,[ci (Jx a.1.ops 0)])]
def Z2p:Fs U:=fs ZhW (fun a=> [Zdt a]) Zks
def ZfT:ArgL (Edit × Int × Int × Unit):=(.cons (aEl .edit) (.cons (Yq .i64) (.cons (Yq .i64) .nil)))
def Z9t(a:Edit × Int × Int × Unit):Prop:=Z1F a.1/\0<=a.2.1/\a.2.1<=4611686018427387904/\-1<=a.2.2.1/\a.2.2.1<=4611686018427387904
def ZdH(a:Edit × Int × Int × Unit):Nat:=ZD a.1
def ZgE(a:Edit × Int × Int × Unit):V U:= .c (ci (Jo a.1 a.2.1 a.2.2.1))
def Z8S:Fs U:=fs ZfT (fun a=> [Z9t a]) ZgE
def Zl5(a:Edit × Unit):Prop:=Z1F a.1
def ZpL(a:Edit × Unit):V U:= .c (.bool (decide (0<=Jo a.1 80 3000)))
def Z92:Fs U:=fs ZhW (fun a=> [Zl5 a]) ZpL
def ZoA:Zc U:=lvl [([0,2],[2]),([0,2,3],[2,3]),([0,2,3,4],[2,3]),([0,2,3,4,7],[2,3]),([0,2,3,4],[2,3]),([0,2,3,4],[2,3]),([0,2,3,4],[2,3]),([2],[2])]
def Z3G(w x0 x4 ml3_0 ml3_1 ml3_2 ml3_3 ml3_4 ml3_5 ml3_6 ml3_7:Int):LSt U:=(L2 [(0,.c (.int .u64 x0)),pL 2,pL 3,pI 4 x4] [(.loc 2,zc0),(.loc 3,[.int .u8 ml3_0,.int .u8 ml3_1,.int .u8 ml3_2,.int .u8 ml3_3,.int .u8 ml3_4,.int .u8 ml3_5,.int .u8 ml3_6,.int .u8 ml3_7])])
abbrev A67(p:List Nat):=AW (Z1 Zfw) Try.f67 ZoA p
abbrev S67(p:List Nat):=SW (Z1 Zfw) Try.f67 ZoA p
theorem ZuX(w:Int)(Q:QT)(h:(Zh (A67 [1,1,0,1,0,0]) (Z3G w w 0 0 0 0 0 0 0 0 0) (xB 0 (S67 [1,1,1] Q)))):
  A67 [] (L2 [(0,.c (.int .u64 w))] []) Q:=
 Eq.mpr (by kernel_rfl) h
theorem Znu(w x0 x4 ml3_0 ml3_1 ml3_2 ml3_3 ml3_4 ml3_5 ml3_6 ml3_7:Int)(N0:NT)(Q:QT)(h:let z0:=IntKind.wrap .u8 (Int.tmod x0 256);(((decide (x4 < 8))=true->((256:Int)≠0)/\((0:Int)<=x4/\x4 < ((8:Nat):Int))/\(((256:Int)≠0)/\((InR (x4+1))/\(N0 (Z3G w (IntKind.wrap .u64 (Int.tdiv x0 256)) (x4+1) (Z0r x4 0 z0 ml3_0) (Z0r x4 1 z0 ml3_1) (Z0r x4 2 z0 ml3_2) (Z0r x4 3 z0 ml3_3) (Z0r x4 4 z0 ml3_4) (Z0r x4 5 z0 ml3_5) (Z0r x4 6 z0 ml3_6) (Z0r x4 7 z0 ml3_7))))))/\((decide (x4 < 8))=false->(Q .ret (L2 [pL 2] [(.loc 2,[.int .u8 ml3_0,.int .u8 ml3_1,.int .u8 ml3_2,.int .u8 ml3_3,.int .u8 ml3_4,.int .u8 ml3_5,.int .u8 ml3_6,.int .u8 ml3_7])]))))):
  A67 [1,1,0,1,0,0] (Z3G w x0 x4 ml3_0 ml3_1 ml3_2 ml3_3 ml3_4 ml3_5 ml3_6 ml3_7) (xT N0 (xB 0 (S67 [1,1,1] Q))):=
 Eq.mpr (by kernel_rfl) h
def ZsH(w:Int):Prop:=AW (Z1 Zfw) Try.f67 ZoA [] (Zg (ZmO.can (w,())) []) (EQ Try.f67 (Zkr (w,())) [])
theorem ZqU(hb:∀ (w:Int) (_:Unit),Zds (w,())->ZsH w):CT 67 Z90:=
 Z7 (l:=[]) Zj rfl trivial ZoA Try.func67 rfl rfl 1 (fun _=> rfl) (by decide) (fun ⟨w,_⟩=> hb w ())
def Zoz:Zc U:=lvl [([0,1],[]),([0,1,5],[]),([0,1,5,8],[]),([0,1,5],[]),([0,1,5],[]),([4],[])]
def Z6n(m i x0 x5:Int):LSt U:=(L2 [(0,.c (.int .u8 x0)),pI 1 i,pI 5 x5] [])
abbrev A68(p:List Nat):=AW (Z1 Zfw) Try.f68 Zoz p
abbrev S68(p:List Nat):=SW (Z1 Zfw) Try.f68 Zoz p
theorem ZuW(m i:Int)(Q:QT)(h:(Zh (A68 [1,0,1,0,0]) (Z6n m i m 0) (xB 0 (S68 [1,1] Q)))):
  A68 [] (L2 [(0,.c (.int .u8 m)),pI 1 i] []) Q:=
 Eq.mpr (by kernel_rfl) h
theorem Znt(m i x0 x5:Int)(N0:NT)(Q:QT)(h:(((decide (x5 < i))=true->((2:Int)≠0)/\((InR (x5+1))/\(N0 (Z6n m i (IntKind.wrap .u8 (Int.tdiv x0 2)) (x5+1)))))/\((decide (x5 < i))=false->((2:Int)≠0)/\(Q .ret (L2 [pB 4 (((Int.tmod x0 2):Int)==1)] []))))):
  A68 [1,0,1,0,0] (Z6n m i x0 x5) (xT N0 (xB 0 (S68 [1,1] Q))):=
 Eq.mpr (by kernel_rfl) h
def ZsG(m i:Int):Prop:=AW (Z1 Zfw) Try.f68 Zoz [] (Zg (ZmN.can (m,i,())) []) (EQ Try.f68 (ZpH (m,i,())) [])
theorem ZqT(hb:∀ (m:Int) (i:Int) (_:Unit),ZgO (m,i,())->ZsG m i):CT 68 Z8Z:=
 Z7 (l:=[]) Zj rfl trivial Zoz Try.func68 rfl rfl 2 (fun _=> rfl) (by decide) (fun ⟨m,i,_⟩=> hb m i ())
def Zoy:Zc U:=lvl [([0,1],[]),([0,1,5],[]),([0,1,5,6],[]),([0,1,5,6,8],[]),([0,1,5,6],[]),([0,1,5,6],[]),([4],[])]
def Z6m(b:List Int)(from_ x5 x6:Int):LSt U:=(L2 [(0,.c (sU .u8 b .unk)),pI 1 from_,(5,.c (.int .u64 x5)),pI 6 x6] [])
abbrev A69(p:List Nat):=AW (Z1 Zfw) Try.f69 Zoy p
abbrev S69(p:List Nat):=SW (Z1 Zfw) Try.f69 Zoy p
theorem ZuV(b:List Int)(from_:Int)(Q:QT)(h:(Zh (A69 [1,1,0,1,0,0]) (Z6m b from_ 0 7) (xB 0 (S69 [1,1,1] Q)))):
  A69 [] (L2 [(0,.c (sU .u8 b .unk)),pI 1 from_] []) Q:=
 Eq.mpr (by kernel_rfl) h
theorem Zns(b:List Int)(from_ x5 x6:Int)(N0:NT)(Q:QT)(h:(((decide ((0:Int)<=x6))=true->(InR (from_+x6))/\((0:Int)<=(from_+x6)/\(from_+x6) < (b.length:Int))/\((InR (x6 - 1))/\(N0 (Z6m b from_ (IntKind.wrap .u64 (((IntKind.wrap .u64 (x5*256)):Int)+(IntKind.wrap .u64 (List.getD b (Int.toNat (from_+x6)) (0:Int))))) (x6 - 1)))))/\((decide ((0:Int)<=x6))=false->(Q .ret (L2 [(4,.c (.int .u64 x5))] []))))):
  A69 [1,1,0,1,0,0] (Z6m b from_ x5 x6) (xT N0 (xB 0 (S69 [1,1,1] Q))):=
 Eq.mpr (by kernel_rfl) h
def ZsF(b:List Int)(from_:Int):Prop:=AW (Z1 Zfw) Try.f69 Zoy [] (Zg (ZmM.can (b,from_,())) []) (EQ Try.f69 (ZpG (b,from_,())) [])
theorem ZqS(hb:∀ (b:List Int) (from_:Int) (_:Unit),Zl4 (b,from_,())->ZsF b from_):CT 69 Z8Y:=
 Z7 (l:=[]) Zj rfl trivial Zoy Try.func69 rfl rfl 2 (fun _=> rfl) (by decide) (fun ⟨b,from_,_⟩=> hb b from_ ())
def Zcp:List (FuncId × Fs U):=[(67,Z90),(68,Z8Z),(69,Z8Y)]
def Zh5:Zc U:=lvl [([0,1,2],[]),([2,7,8],[7,8]),([2,7,8,9],[7,8]),([2,7,8,9,15],[7,8]),([2,7,8,9],[7,8]),([2,7,8,9,20],[7,8]),([2,7,8,9],[7,8]),([6],[])]
def Z0X(a b m x9 ml7_0 ml7_1 ml7_2 ml7_3 ml7_4 ml7_5 ml7_6 ml7_7:Int):LSt U:=(L2 [(2,.c (.int .u8 m)),pL 7,pL 8,pI 9 x9] [(.loc 7,[.int .u8 ml7_0,.int .u8 ml7_1,.int .u8 ml7_2,.int .u8 ml7_3,.int .u8 ml7_4,.int .u8 ml7_5,.int .u8 ml7_6,.int .u8 ml7_7]),(.loc 8,[.int .u8 (Zd b 0),.int .u8 (Zd b 1),.int .u8 (Zd b 2),.int .u8 (Zd b 3),.int .u8 (Zd b 4),.int .u8 (Zd b 5),.int .u8 (Zd b 6),.int .u8 (Zd b 7)])])
abbrev Zt8(p:List Nat):=AW (Z1 Zcp) Try.f103 Zh5 p
abbrev Zuy(p:List Nat):=SW (Z1 Zcp) Try.f103 Zh5 p
theorem ZtK(a b m:Int)(Q:QT)(h:((Zds (a,()))/\(Zds (b,()))/\(Zh (Zt8 [1,1,0,1,0,0]) (Z0X a b m 0 (Zd a 0) (Zd a 1) (Zd a 2) (Zd a 3) (Zd a 4) (Zd a 5) (Zd a 6) (Zd a 7)) (xB 0 (Zuy [1,1,1] Q))))):
  Zt8 [] (L2 [(0,.c (.int .u64 a)),(1,.c (.int .u64 b)),(2,.c (.int .u8 m))] []) Q:=
 Eq.mpr (by kernel_rfl) h
theorem Zk3(a b m x9 ml7_0 ml7_1 ml7_2 ml7_3 ml7_4 ml7_5 ml7_6 ml7_7:Int)(N0:NT)(Q:QT)(h:let z0:=List.getD [Zd b 0,Zd b 1,Zd b 2,Zd b 3,Zd b 4,Zd b 5,Zd b 6,Zd b 7] x9.toNat 0;(((decide (x9 < 8))=true->(ZgO (m,x9,()))/\(((Z7R m x9)=true->((0:Int)<=x9/\x9 < ((8:Nat):Int))/\((0:Int)<=x9/\x9 < ((8:Nat):Int))/\((InR (x9+1))/\(N0 (Z0X a b m (x9+1) (Z0r x9 0 z0 ml7_0) (Z0r x9 1 z0 ml7_1) (Z0r x9 2 z0 ml7_2) (Z0r x9 3 z0 ml7_3) (Z0r x9 4 z0 ml7_4) (Z0r x9 5 z0 ml7_5) (Z0r x9 6 z0 ml7_6) (Z0r x9 7 z0 ml7_7)))))/\((Z7R m x9)=false->(InR (x9+1))/\(N0 (Z0X a b m (x9+1) ml7_0 ml7_1 ml7_2 ml7_3 ml7_4 ml7_5 ml7_6 ml7_7)))))/\((decide (x9 < 8))=false->(Zl4 (([ml7_0,ml7_1,ml7_2,ml7_3,ml7_4,ml7_5,ml7_6,ml7_7]),0,()))/\(Q .ret (L2 [(6,.c (.int .u64 (of8 (fun i=> ([ml7_0,ml7_1,ml7_2,ml7_3,ml7_4,ml7_5,ml7_6,ml7_7]).getD i 0))))] []))))):
  Zt8 [1,1,0,1,0,0] (Z0X a b m x9 ml7_0 ml7_1 ml7_2 ml7_3 ml7_4 ml7_5 ml7_6 ml7_7) (xT N0 (xB 0 (Zuy [1,1,1] Q))):=
 Eq.mpr (by kernel_rfl) h
def ZpA(a b m:Int):Prop:=AW (Z1 Zcp) Try.f103 Zh5 [] (Zg (ZhX.can (a,b,m,())) []) (EQ Try.f103 (ZkS (a,b,m,())) [])
theorem Zor(c67:CT 67 Z90)(c68:CT 68 Z8Z)(c69:CT 69 Z8Y)(hb:∀ (a:Int) (b:Int) (m:Int) (_:Unit),Zc7 (a,b,m,())->ZpA a b m):CT 103 Z5D:=
 Z7 (l:=[(67,Z90),(68,Z8Z),(69,Z8Y)]) Zj rfl (⟨c67,c68,c69,trivial⟩) Zh5 Try.func103 rfl rfl 3 (fun _=> rfl) (by decide) (fun ⟨a,b,m,_⟩=> hb a b m ())
abbrev A62(p:List Nat):=AW (Z1 Zfw) Try.f62 ZrB p
theorem Zv2(t:Tree)(Q:QT)(h:((Tr ((t.kind==0)=true))/\(Tr ((t.kind==0)=true))/\(Tr ((t.kind==0)=true))/\(Tr ((t.kind==0)=true))/\(Tr ((t.kind==0)=true))/\(Tr ((t.kind==0)=true))/\((t.kind==0)=true->InR (((t.words.length:Int):Int)+(t.kids.length:Int)))/\(Tr ((t.kind==0)=true))/\(Tr ((t.kind==0)=true))/\(Q .ret (L2 [(2,.c (.bool (bif (t.kind==0) then (((((t.words.length:Int):Int)+(t.kids.length:Int)):Int)==0) else false)))] [])))):
  A62 [] (L2 [(0,.agg (enc .tree t))] []) Q:=
 Eq.mpr (by kernel_rfl) h
def ZsM(t:Tree):Prop:=AW (Z1 Zfw) Try.f62 ZrB [] (Zg (ZmX.can (t,())) []) (EQ Try.f62 (ZpK (t,())) [])
theorem ZqY(hb:∀ (t:Tree) (_:Unit),Z3n (t,())->ZsM t):CT 62 Z2q:=
 Z7 (l:=[]) Zj rfl trivial ZrB Try.func62 rfl rfl 1 (fun _=> rfl) (by decide) (fun ⟨t,_⟩=> hb t ())
def Zm7:List (FuncId × Fs U):=[(103,Z5D)]
def Zrp:Zc U:=lvl [([0,1],[]),([4],[])]
abbrev A63(p:List Nat):=AW (Z1 Zm7) Try.f63 Zrp p
theorem Zv1(w m:Int)(Q:QT)(h:((Zc7 (w,0,m,()))/\(Q .ret (L2 [pB 4 (((mix w 0 m):Int)==0)] [])))):
  A63 [] (L2 [(0,.c (.int .u64 w)),(1,.c (.int .u8 m))] []) Q:=
 Eq.mpr (by kernel_rfl) h
def ZsL(w m:Int):Prop:=AW (Z1 Zm7) Try.f63 Zrp [] (Zg (ZmR.can (w,m,())) []) (EQ Try.f63 (ZpJ (w,m,())) [])
theorem ZqX(Zs8:CT 103 Z5D)(hb:∀ (w:Int) (m:Int) (_:Unit),ZgP (w,m,())->ZsL w m):CT 63 Z6T:=
 Z7 (l:=[(103,Z5D)]) Zj rfl (⟨Zs8,trivial⟩) Zrp Try.func63 rfl rfl 2 (fun _=> rfl) (by decide) (fun ⟨w,m,_⟩=> hb w m ())
def Zht:List (FuncId × Fs U):=[(62,Z2q)]
abbrev ZvD(p:List Nat):=AW (Z1 Zht) Try.f104 ZrB p
theorem ZtJ(e:Edit)(Q:QT)(h:∀ y_1,y_1=(e.new)->∀ y_2,y_2=(e.old)->let z2:=bif (e.kind==0) then (ZJ y_2) else false;let z0:=bif z2 then (ZJ y_1) else false;let z1:=bif z0 then (((((((e.words.length:Int):Int)+(e.kids.length:Int)):Int)+(e.ops.length:Int)):Int)==0) else false;((Tr ((e.kind==0)=true))/\(Tr ((e.kind==0)=true))/\((e.kind==0)=true->Z3n (y_2,()))/\(Tr ((e.kind==0)=true))/\(Tr (z2=true))/\(Tr (z2=true))/\(z2=true->Z3n (y_1,()))/\(Tr (z2=true))/\(Tr (z0=true))/\(Tr (z0=true))/\(Tr (z0=true))/\(Tr (z0=true))/\(Tr (z0=true))/\(Tr (z0=true))/\(z0=true->InR (((e.words.length:Int):Int)+(e.kids.length:Int)))/\(Tr (z0=true))/\(Tr (z0=true))/\(Tr (z0=true))/\(Tr (z0=true))/\(z0=true->InR (((((e.words.length:Int):Int)+(e.kids.length:Int)):Int)+(e.ops.length:Int)))/\(Tr (z0=true))/\(Tr (z0=true))/\(Tr (z1=true))/\(Tr (z1=true))/\(Tr (z1=true))/\(Q .ret (L2 [(2,.c (.bool (bif z1 then (e.list==0) else false)))] [])))):
  ZvD [] (L2 [(0,.agg (enc .edit e))] []) Q:=
 Eq.mpr (by kernel_rfl) (h _ (Z8 _) _ (Z8 _))
def Zpz(e:Edit):Prop:=AW (Z1 Zht) Try.f104 ZrB [] (Zg (ZhW.can (e,())) []) (EQ Try.f104 (ZkR (e,())) [])
theorem Zoq(c62:CT 62 Z2q)(hb:∀ (e:Edit) (_:Unit),Z52 (e,())->Zpz e):CT 104 Z3U:=
 Z7 (l:=[(62,Z2q)]) Zj rfl (⟨c62,trivial⟩) ZrB Try.func104 rfl rfl 1 (fun _=> rfl) (by decide) (fun ⟨e,_⟩=> hb e ())
def ZoB:Zc U:=lvl [([1],[1]),([1,4,5],[1]),([1,4,5,6],[1]),([1,4,5,6,13],[1]),([1,4,5,6],[1]),([1,4,5,6,7],[1,7]),([1,4,5,6,7,8],[1,7]),([1,4,5,6,7,8,29],[1,7]),([1,4,5,6,7,8,29],[1,7]),([1,4,5,6,7,8,32],[1,7]),([1,4,5,6,7,8,32],[1,7]),([1,4,5,6,8,38],[1]),([1,4,5,6,8,38],[1]),([1,4,5,6,43],[1]),([1,4,5,6,43],[1]),([1,4,5,6,45],[1]),([1,4,5,6],[1]),([2,3],[])]
def Z1m(e:Edit)(x4 x5 x6:Int):LSt U:=(L2 [pL 1,pI 4 x4,pI 5 x5,pI 6 x6] [(.loc 1,(enc .edit e))])
def Z6r(e:Edit)(x4 x5 x6 x8_a:Int):LSt U:=(L2 [pL 1,pI 4 x4,pI 5 x5,pI 6 x6,pL 7,pI 8 x8_a,(29,.c (.bool (((OpOf.kind (e.ops.getD x6.toNat Op.nil)):Int)==3)))] [(.loc 1,(enc .edit e)),(.loc 7,(enc .op (e.ops.getD x6.toNat Op.nil)))])
def Z6q(e:Edit)(x5 x6 x8_a x4_b:Int):LSt U:=(L2 [pL 1,pI 4 x4_b,pI 5 x5,pI 6 x6,pL 7,pI 8 x8_a,(32,.c (.bool (((OpOf.kind (e.ops.getD x6.toNat Op.nil)):Int) !=2)))] [(.loc 1,(enc .edit e)),(.loc 7,(enc .op (e.ops.getD x6.toNat Op.nil)))])
def Z6p(e:Edit)(x6 x8_a x4_b x5_c:Int):LSt U:=(L2 [pL 1,pI 4 x4_b,pI 5 x5_c,pI 6 x6,pI 8 x8_a,(38,.c (.bool (((OpOf.kind (e.ops.getD x6.toNat Op.nil)):Int) !=1)))] [(.loc 1,(enc .edit e))])
def Z6o(e:Edit)(x6 x4_b x5_c x4_d:Int):LSt U:=(L2 [pL 1,pI 4 x4_d,pI 5 x5_c,pI 6 x6,pB 43 (decide ((1048576:Int) < x4_b))] [(.loc 1,(enc .edit e))])
abbrev A65(p:List Nat):=AW (Z1 Zfw) Try.f65 ZoB p
abbrev S65(p:List Nat):=SW (Z1 Zfw) Try.f65 ZoB p
theorem ZuZ(e:Edit)(Q:QT)(h:(Zh (A65 [1,1,0,1,0,0]) (Z1m e 0 0 0) (xB 0 (S65 [1,1,1] Q)))):
  A65 [] (L2 [(0,.agg (enc .edit e))] []) Q:=
 Eq.mpr (by kernel_rfl) h
abbrev Zsi(e:Edit)(x4 x5 x6:Int)(N0:NT)(Q:QT):Prop:=A65 [1,1,0,1,0,0] (Z1m e x4 x5 x6) (xT N0 (xB 0 (S65 [1,1,1] Q)))
theorem Znv(e:Edit)(x4 x5 x6:Int)(N0:NT)(Q:QT)(h:let z2:=decide (x6 < (e.ops.length:Int));let z1:=xB 1 (S65 [1,1,0,1,0,0,1,1] (xT N0 (xB 0 (S65 [1,1,1] Q))));let z0:=e.ops.getD x6.toNat Op.nil;((z2=true->((0:Int)<=x6/\x6 < (e.ops.length:Int))/\((InR (((OpOf.n z0):Int)+((OpOf.l z0).length:Int)))/\(((((OpOf.kind z0):Int)==3)=true->(A65 [1,1,0,1,0,0,1,0,0,1,1,1] (Z6r e x4 x5 x6 1) z1))/\((((OpOf.kind z0):Int)==3)=false->A65 [1,1,0,1,0,0,1,0,0,1,1,1] (Z6r e x4 x5 x6 (((OpOf.n z0):Int)+((OpOf.l z0).length:Int))) z1))))/\(z2=false->(Q .ret (L2 [pI 2 x4,pI 3 x5] []))))):
  A65 [1,1,0,1,0,0] (Z1m e x4 x5 x6) (xT N0 (xB 0 (S65 [1,1,1] Q))):=
 Eq.mpr (by kernel_rfl) h
abbrev Zsm(e:Edit)(x4 x5 x6 x8_a:Int)(N0:NT)(Q:QT):Prop:=A65 [1,1,0,1,0,0,1,0,0,1,1,1] (Z6r e x4 x5 x6 x8_a) (xB 1 (S65 [1,1,0,1,0,0,1,1] (xT N0 (xB 0 (S65 [1,1,1] Q)))))
theorem Znz(e:Edit)(x4 x5 x6 x8_a:Int)(N0:NT)(Q:QT)(h:let z1:=((OpOf.kind (e.ops.getD x6.toNat Op.nil)):Int) !=2;let z0:=xB 1 (S65 [1,1,0,1,0,0,1,1] (xT N0 (xB 0 (S65 [1,1,1] Q))));((z1=true->(InR (x4+x8_a))/\(A65 [1,1,0,1,0,0,1,0,0,1,1,1,1] (Z6q e x5 x6 x8_a (x4+x8_a)) z0))/\(z1=false->A65 [1,1,0,1,0,0,1,0,0,1,1,1,1] (Z6q e x5 x6 x8_a x4) z0))):
  A65 [1,1,0,1,0,0,1,0,0,1,1,1] (Z6r e x4 x5 x6 x8_a) (xB 1 (S65 [1,1,0,1,0,0,1,1] (xT N0 (xB 0 (S65 [1,1,1] Q))))):=
 Eq.mpr (by kernel_rfl) h
abbrev Zsl(e:Edit)(x5 x6 x8_a x4_b:Int)(N0:NT)(Q:QT):Prop:=A65 [1,1,0,1,0,0,1,0,0,1,1,1,1] (Z6q e x5 x6 x8_a x4_b) (xB 1 (S65 [1,1,0,1,0,0,1,1] (xT N0 (xB 0 (S65 [1,1,1] Q)))))
theorem Zny(e:Edit)(x5 x6 x8_a x4_b:Int)(N0:NT)(Q:QT)(h:let z1:=((OpOf.kind (e.ops.getD x6.toNat Op.nil)):Int) !=1;let z0:=xB 1 (S65 [1,1,0,1,0,0,1,1] (xT N0 (xB 0 (S65 [1,1,1] Q))));((z1=true->(InR (x5+x8_a))/\(A65 [1,1,0,1,0,0,1,0,0,1,1,1,1,1] (Z6p e x6 x8_a x4_b (x5+x8_a)) z0))/\(z1=false->A65 [1,1,0,1,0,0,1,0,0,1,1,1,1,1] (Z6p e x6 x8_a x4_b x5) z0))):
  A65 [1,1,0,1,0,0,1,0,0,1,1,1,1] (Z6q e x5 x6 x8_a x4_b) (xB 1 (S65 [1,1,0,1,0,0,1,1] (xT N0 (xB 0 (S65 [1,1,1] Q))))):=
 Eq.mpr (by kernel_rfl) h
abbrev Zsk(e:Edit)(x6 x8_a x4_b x5_c:Int)(N0:NT)(Q:QT):Prop:=A65 [1,1,0,1,0,0,1,0,0,1,1,1,1,1] (Z6p e x6 x8_a x4_b x5_c) (xB 1 (S65 [1,1,0,1,0,0,1,1] (xT N0 (xB 0 (S65 [1,1,1] Q)))))
theorem Znx(e:Edit)(x6 x8_a x4_b x5_c:Int)(N0:NT)(Q:QT)(h:let z1:=decide ((1048576:Int) < x4_b);let z0:=xB 1 (S65 [1,1,0,1,0,0,1,1] (xT N0 (xB 0 (S65 [1,1,1] Q))));((z1=true->(A65 [1,1,0,1,0,0,1,0,0,1,1,1,1,1,1] (Z6o e x6 x4_b x5_c 1048576) z0))/\(z1=false->A65 [1,1,0,1,0,0,1,0,0,1,1,1,1,1,1] (Z6o e x6 x4_b x5_c x4_b) z0))):
  A65 [1,1,0,1,0,0,1,0,0,1,1,1,1,1] (Z6p e x6 x8_a x4_b x5_c) (xB 1 (S65 [1,1,0,1,0,0,1,1] (xT N0 (xB 0 (S65 [1,1,1] Q))))):=
 Eq.mpr (by kernel_rfl) h
abbrev Zsj(e:Edit)(x6 x4_b x5_c x4_d:Int)(N0:NT)(Q:QT):Prop:=A65 [1,1,0,1,0,0,1,0,0,1,1,1,1,1,1] (Z6o e x6 x4_b x5_c x4_d) (xB 1 (S65 [1,1,0,1,0,0,1,1] (xT N0 (xB 0 (S65 [1,1,1] Q)))))
theorem Znw(e:Edit)(x6 x4_b x5_c x4_d:Int)(N0:NT)(Q:QT)(h:let z0:=decide ((1048576:Int) < x5_c);((z0=true->((InR (x6+1))/\(N0 (Z1m e x4_d 1048576 (x6+1)))))/\(z0=false->(InR (x6+1))/\(N0 (Z1m e x4_d x5_c (x6+1)))))):
  A65 [1,1,0,1,0,0,1,0,0,1,1,1,1,1,1] (Z6o e x6 x4_b x5_c x4_d) (xB 1 (S65 [1,1,0,1,0,0,1,1] (xT N0 (xB 0 (S65 [1,1,1] Q))))):=
 Eq.mpr (by kernel_rfl) h
def ZsJ(e:Edit):Prop:=AW (Z1 Zfw) Try.f65 ZoB [] (Zg (ZhW.can (e,())) []) (EQ Try.f65 (Zks (e,())) [])
theorem ZqW(hb:∀ (e:Edit) (_:Unit),Zdt (e,())->ZsJ e):CT 65 Z2p:=
 Z7 (l:=[]) Zj rfl trivial ZoB Try.func65 rfl rfl 1 (fun _=> rfl) (by decide) (fun ⟨e,_⟩=> hb e ())
def Zfs(N:Nat):List (FuncId × Fs U):=(90,fs ZfT (fun a=> [Z9t a,ZdH a < N]) ZgE) ::[(78,Z32)]
def Zos:Zc U:=lvl [([1,2,3],[3]),([1,2,3],[3]),([1,2,3,25],[3]),([6],[]),([1,2,3],[3]),([1,2,3,31],[3]),([1,2,3,31],[3]),([1,2,3,7],[3]),([1,2,3,7,44],[3]),([1,2,3,7],[3]),([1,2,3,7],[3]),([1,2,3,8],[3]),([1,2,3,8,65],[3]),([1,2,3,8],[3]),([1,2,3,8,9],[3]),([1,2,3,8,9,80],[3]),([1,2,3,8,9],[3]),([1,2,3,8,9],[3]),([1,2,3,8,95],[3]),([1,2,3,8],[3]),([6],[])]
def Z6e(e:Edit)(d n x2:Int):LSt U:=(L2 [pI 1 d,pI 2 x2,pL 3,(31,.c (.bool (decide ((0:Int)<=(Zr (Tree.mk e.old.kind e.old.words e.old.kids) 80 ((((((n:Int) - 1):Int) - (e.words.length:Int)):Int) - (e.ops.length:Int)))))))] [(.loc 3,(enc .edit e))])
def Z6d(e:Edit)(d n x2_a x7_a:Int):LSt U:=(L2 [pI 1 d,pI 2 x2_a,pL 3,pI 7 x7_a] [(.loc 3,(enc .edit e))])
def Z3F(e:Edit)(d n x2_b x8_b:Int):LSt U:=(L2 [pI 1 d,pI 2 x2_b,pL 3,pI 8 x8_b] [(.loc 3,(enc .edit e))])
def Z6c(e:Edit)(d n x8_b x2_c x9_c:Int):LSt U:=(L2 [pI 1 d,pI 2 x2_c,pL 3,pI 8 x8_b,pI 9 x9_c] [(.loc 3,(enc .edit e))])
abbrev A90(N:Nat)(p:List Nat):=AW (Z1 (Zfs N)) Try.f90 Zos p
abbrev S90(N:Nat)(p:List Nat):=SW (Z1 (Zfs N)) Try.f90 Zos p
theorem ZuJ(N:Nat)(e:Edit)(d n:Int)(Q:QT)(h:∀ y_1,y_1=(e.new)->∀ y_2,y_2=(e.old)->∀ y_3,y_3=(Zr y_2 80 (((((n - 1):Int) - (e.words.length:Int)):Int) - (e.ops.length:Int)))->let z0:=bif (d==0) then true else (decide (((((((n - 1):Int) - (e.words.length:Int)):Int) - (e.ops.length:Int)):Int) < 0));((InR (n - 1))/\(InR (((n - 1):Int) - (e.words.length:Int)))/\(InR (((((n - 1):Int) - (e.words.length:Int)):Int) - (e.ops.length:Int)))/\((Tr ((!(d==0))=true))/\((d==0)=false->(!(d==0))=true)/\((z0=true->(Q .ret (L2 [pI 6 (-1)] [])))/\(z0=false->(Z5M (y_2,80,(((((n - 1):Int) - (e.words.length:Int)):Int) - (e.ops.length:Int)),()))/\(((decide ((0:Int)<=y_3))=true->(Z5M (y_1,80,y_3,()))/\(A90 N [1,1,1,1,1] (Z6e e d n (Zr y_1 80 y_3)) Q))/\((decide ((0:Int)<=y_3))=false->A90 N [1,1,1,1,1] (Z6e e d n y_3) Q))))))):
  A90 N [] (L2 [(0,.agg (enc .edit e)),pI 1 d,pI 2 n] []) Q:=
 Eq.mpr (by kernel_rfl) (h _ (Z8 _) _ (Z8 _) _ rfl)
abbrev Zsh(N:Nat)(e:Edit)(d n x2:Int)(Q:QT):Prop:=A90 N [1,1,1,1,1] (Z6e e d n x2) Q
theorem Znk(N:Nat)(e:Edit)(d n x2:Int)(Q:QT)(h:(Zh (A90 N [1,1,1,1,1,0,1,0,0]) (Z6d e d n x2 0) (xB 0 (S90 N [1,1,1,1,1,1] Q)))):
  A90 N [1,1,1,1,1] (Z6e e d n x2) Q:=
 Eq.mpr (by kernel_rfl) h
theorem Znj(N:Nat)(e:Edit)(d n x2_a x7_a:Int)(N1:NT)(Q:QT)(h:∀ y_1,y_1=(e.kids.getD x7_a.toNat (KidOf.mk 0 Edit.nil))->∀ y_2,y_2=(y_1.e)->let z0:=decide (x7_a < (e.kids.length:Int));let z1:=bif z0 then (decide ((0:Int)<=x2_a)) else false;(Tr (z0=true))/\(Tr (z0=true))/\((z1=true->((0:Int)<=x7_a/\x7_a < (e.kids.length:Int))/\(InR (d - 1))/\(Z9t (y_2,(d - 1),x2_a,()))/\(ZdH (y_2,(d - 1),x2_a,()) < N)/\((InR (x7_a+1))/\(N1 (Z6d e d n (Jo y_2 (d - 1) x2_a) (x7_a+1)))))/\(z1=false->(Zh (A90 N [1,1,1,1,1,1,0,1,0,0]) (Z3F e d n x2_a 0) (xB 2 (S90 N [1,1,1,1,1,1,1] Q)))))):
  A90 N [1,1,1,1,1,0,1,0,0] (Z6d e d n x2_a x7_a) (xT N1 (xB 0 (S90 N [1,1,1,1,1,1] Q))):=
 Eq.mpr (by kernel_rfl) (h _ rfl _ (Zf _))
theorem Zni(N:Nat)(e:Edit)(d n x2_b x8_b:Int)(N2:NT)(Q:QT)(h:let z0:=decide (x8_b < (e.ops.length:Int));let z1:=bif z0 then (decide ((0:Int)<=x2_b)) else false;(Tr (z0=true))/\(Tr (z0=true))/\((z1=true->(Zh (A90 N [1,1,1,1,1,1,0,1,0,0,1,0,0,0,1,0,0]) (Z6c e d n x8_b x2_b 0) (xB 4 (S90 N [1,1,1,1,1,1,0,1,0,0,1,0,0,1] (xB 3 (S90 N [1,1,1,1,1,1,0,1,0,0,1,1] (xT N2 (xB 2 (S90 N [1,1,1,1,1,1,1] Q)))))))))/\(z1=false->(Q .ret (L2 [pI 6 x2_b] []))))):
  A90 N [1,1,1,1,1,1,0,1,0,0] (Z3F e d n x2_b x8_b) (xT N2 (xB 2 (S90 N [1,1,1,1,1,1,1] Q))):=
 Eq.mpr (by kernel_rfl) h
theorem Znh(N:Nat)(e:Edit)(d n x8_b x2_c x9_c:Int)(N3 N2:NT)(Q:QT)(h:∀ y_1,y_1=(e.ops.getD x8_b.toNat Op.nil)->∀ y_2,y_2=(y_1.e)->∀ y_3,y_3=(y_1.l.getD x9_c.toNat Tree.nil)->let z1:=decide ((0:Int)<=x2_c);let z0:=decide (x9_c < (y_1.l.length:Int));((0:Int)<=x8_b/\x8_b < (e.ops.length:Int))/\(Tr (z0=true))/\(Tr (z0=true))/\(((bif z0 then z1 else false)=true->((0:Int)<=x8_b/\x8_b < (e.ops.length:Int))/\((0:Int)<=x9_c/\x9_c < (y_1.l.length:Int))/\(Z5M (y_3,80,x2_c,()))/\((InR (x9_c+1))/\(N3 (Z6c e d n x8_b (Zr y_3 80 x2_c) (x9_c+1)))))/\((bif z0 then z1 else false)=false->((z1=true->((0:Int)<=x8_b/\x8_b < (e.ops.length:Int))/\(InR (d - 1))/\(Z9t (y_2,(d - 1),x2_c,()))/\(ZdH (y_2,(d - 1),x2_c,()) < N)/\((InR (x8_b+1))/\(N2 (Z3F e d n (Jo y_2 (d - 1) x2_c) (x8_b+1)))))/\(z1=false->(InR (x8_b+1))/\(N2 (Z3F e d n x2_c (x8_b+1)))))))):
  A90 N [1,1,1,1,1,1,0,1,0,0,1,0,0,0,1,0,0] (Z6c e d n x8_b x2_c x9_c) (xT N3 (xB 4 (S90 N [1,1,1,1,1,1,0,1,0,0,1,0,0,1] (xB 3 (S90 N [1,1,1,1,1,1,0,1,0,0,1,1] (xT N2 (xB 2 (S90 N [1,1,1,1,1,1,1] Q)))))))):=
 Eq.mpr (by kernel_rfl) (h _ rfl _ (Zf _) _ (Z8 _))
def Zst(N:Nat)(e:Edit)(d n:Int):Prop:=AW (Z1 (Zfs N)) Try.f90 Zos [] (Zg (ZfT.can (e,d,n,())) []) (EQ Try.f90 (ZgE (e,d,n,())) [])
theorem ZqI(c78:CT 78 Z32)(hb:∀ (N:Nat) (e:Edit) (d:Int) (n:Int) (_:Unit),Z9t (e,d,n,())->ZdH (e,d,n,()) < N+1->Zst N e d n):CT 90 Z8S:=
 Yb (μ:=ZdH) (l:=[(78,Z32)]) Zj rfl (⟨c78,trivial⟩) Zos Try.func90 rfl rfl 3 (fun _=> rfl) (by decide) (fun N ⟨e,d,n,_⟩=> hb N e d n ())
def Zm9:List (FuncId × Fs U):=[(90,Z8S)]
abbrev A54(p:List Nat):=AW (Z1 Zm9) Try.f54 ZrB p
theorem Zv5(e:Edit)(Q:QT)(h:let z0:=Edit.mk e.kind (Tree.mk e.old.kind e.old.words e.old.kids) (Tree.mk e.new.kind e.new.words e.new.kids) e.words e.kids e.list e.ops;((Z9t (z0,80,3000,()))/\(Q .ret (L2 [(2,.c (.bool (decide ((0:Int)<=(Jo z0 80 3000)))))] [])))):
  A54 [] (L2 [(0,.agg (enc .edit e))] []) Q:=
 Eq.mpr (by kernel_rfl) h
def ZsP(e:Edit):Prop:=AW (Z1 Zm9) Try.f54 ZrB [] (Zg (ZhW.can (e,())) []) (EQ Try.f54 (ZpL (e,())) [])
theorem Zr0(c90:CT 90 Z8S)(hb:∀ (e:Edit) (_:Unit),Zl5 (e,())->ZsP e):CT 54 Z92:=
 Z7 (l:=[(90,Z8S)]) Zj rfl (⟨c90,trivial⟩) ZrB Try.func54 rfl rfl 1 (fun _=> rfl) (by decide) (fun ⟨e,_⟩=> hb e ())
end
noncomputable section
def ZcI:ArgL (Edit × Int × Unit):=(.cons (aEl .edit) (.cons (Yq .i64) .nil))
def Z7L(a:Edit × Int × Unit):Prop:=(ZD a.1<=20000000000/\Yk a.1)/\0<=a.2.1/\a.2.1<=1000
def Zcb(a:Edit × Int × Unit):Nat:=2*ZD a.1
def ZgI(a:Edit × Int × Unit):V U:= .c (.bool (Z4 a.1 a.2.1))
def Z9a:Fs U:=fs ZcI (fun a=> [Z7L a]) ZgI
def ZcG:ArgL (Int × Op × Int × Unit):=(.cons (Yq .i64) (.cons (aEl .op) (.cons (Yq .i64) .nil)))
def Zb0(a:Int × Op × Int × Unit):Prop:=(Yp a.2.1<=20000000000/\Jg a.2.1/\InR a.1)/\0<=a.2.2.1/\a.2.2.1<=1000
def ZiM(a:Int × Op × Int × Unit):Nat:=2*Yp a.2.1+1
def ZgG(a:Int × Op × Int × Unit):V U:= .c (.bool (Zb a.1 a.2.1 a.2.2.1))
def Zke:Fs U:=fs ZcG (fun a=> [Zb0 a]) ZgG
def Z9v(a:Edit × Unit):Prop:=(ZD a.1<=20000000000/\Yk a.1)/\∃ d,Z4 a.1 d=true
def ZdI(a:Edit × Unit):Nat:=ZD a.1
def Zkt(a:Edit × Unit):V U:= .c (.bool (JR a.1))
def Z91:Fs U:=fs ZhW (fun a=> [Z9v a]) Zkt
def ZfH(N:Nat):List (FuncId × Fs U):=(23,fs ZcI (fun a=> [Z7L a,Zcb a < N]) ZgI) ::(64,fs ZcG (fun a=> [Zb0 a,ZiM a < N]) ZgG) ::[(62,Z2q),(63,Z6T),(104,Z3U),(37,Z5z),(65,Z2p)]
def ZoH:Zc U:=lvl [([1,2],[2]),([1,2,24],[2]),([4],[]),([1,2,69],[2]),([4],[]),([1,2,72],[2]),([4],[]),([1,2,5],[2]),([1,2,5,6],[2]),([1,2,5,6,97],[2]),([1,2,5,6],[2]),([1,2,5,6,7],[2,7]),([1,2,6,7,134],[2,7]),([4],[]),([1,2,5,6],[2]),([1,2,5],[2]),([1,2,5,8],[2]),([1,2,5,8,141],[2]),([1,2,5,8],[2]),([1,2,5,8,9],[2,9]),([1,2,8,9,171],[2,9]),([4],[]),([1,2,5,8],[2]),([1,2,186],[2]),([4],[]),([1,2,10],[2]),([1,2,10,191],[2]),([1,2,10],[2]),([1,2,10,204],[2]),([4],[]),([11,12],[]),([4],[])]
def Z6z(e:Edit)(d x5 x6:Int):LSt U:=(L2 [pI 1 d,pL 2,pI 5 x5,pI 6 x6] [(.loc 2,(enc .edit e))])
def Z6y(e:Edit)(d x5_a x8_a:Int):LSt U:=(L2 [pI 1 d,pL 2,pI 5 x5_a,pI 8 x8_a] [(.loc 2,(enc .edit e))])
def Z6x(e:Edit)(d x10_b:Int):LSt U:=(L2 [pI 1 d,pL 2,pI 10 x10_b] [(.loc 2,(enc .edit e))])
abbrev A23(N:Nat)(p:List Nat):=AW (Z1 (ZfH N)) Try.f23 ZoH p
abbrev S23(N:Nat)(p:List Nat):=SW (Z1 (ZfH N)) Try.f23 ZoH p
theorem Zvk(N:Nat)(e:Edit)(d:Int)(Q:QT)(h:∀ y_1,y_1=(e.new)->∀ y_2,y_2=(e.old)->let z8:=(e.kind !=1) && (ZJ y_2);let z3:=bif (d==0) then true else (decide (e.kind < 0));let z10:=bif z3 then true else (decide ((3:Int) < e.kind));let z2:=bif (Z9 y_2 64) then (Z9 y_1 64) else false;let z6:=bif z2 then (e.old.kind !=10) else false;let z1:=bif (e.kind !=1) then (!(bif (ZJ y_2) then (ZJ y_1) else false)) else false;let z5:=(!z1) && (e.kind !=2);let z0:=bif z1 then true else (bif (e.kind !=2) then (decide ((0:Int) < (((e.words.length:Int):Int)+(e.kids.length:Int)))) else false);let z7:=bif z0 then true else (bif (e.kind !=3) then (bif (e.list !=0) then true else (decide ((0:Int) < (e.ops.length:Int)))) else false);let z4:=(!z0) && (e.kind !=3);let z9:=z4 && (!(e.list !=0));((Tr ((!(d==0))=true))/\(Tr ((!(d==0))=true))/\((d==0)=false->(!(d==0))=true)/\(Tr ((!z3)=true))/\(Tr ((!z3)=true))/\(z3=false->(!z3)=true)/\((z10=true->(Q .ret (L2 [pB 4 false] [])))/\(z10=false->(Tr ((e.kind !=1)=true))/\(Tr ((e.kind !=1)=true))/\((e.kind !=1)=true->Z3n (y_2,()))/\(Tr ((e.kind !=1)=true))/\(Tr (z8=true))/\(Tr (z8=true))/\(z8=true->Z3n (y_1,()))/\((e.kind !=1)=true->(True->(e.kind !=1)=true))/\((e.kind !=1)=true->((ZJ y_2)=true->z8=true))/\(Tr ((e.kind !=1)=true))/\(Tr ((e.kind !=1)=true))/\(Tr ((!z1)=true))/\(Tr ((!z1)=true))/\(Tr ((!z1)=true))/\(Tr (z5=true))/\(Tr (z5=true))/\(Tr (z5=true))/\(Tr (z5=true))/\(Tr (z5=true))/\(Tr (z5=true))/\(z5=true->InR (((e.words.length:Int):Int)+(e.kids.length:Int)))/\(Tr (z5=true))/\((!z1)=true->(True->(!z1)=true))/\((!z1)=true->((e.kind !=2)=true->z5=true))/\(z1=false->(!z1)=true)/\(Tr ((!z0)=true))/\(Tr ((!z0)=true))/\(Tr ((!z0)=true))/\(Tr (z4=true))/\(Tr (z4=true))/\(Tr (z4=true))/\(Tr (z9=true))/\(Tr (z9=true))/\(Tr (z9=true))/\(z4=true->(True->z4=true))/\(z4=true->((e.list !=0)=false->z9=true))/\((!z0)=true->(True->(!z0)=true))/\((!z0)=true->((e.kind !=3)=true->z4=true))/\(z0=false->(!z0)=true)/\((z7=true->(Q .ret (L2 [pB 4 false] [])))/\(z7=false->(((e.kind==1)=true->(Z3q (y_2,64,()))/\(Tr ((Z9 y_2 64)=true))/\(Tr ((Z9 y_2 64)=true))/\((Z9 y_2 64)=true->Z3q (y_1,64,()))/\(Tr ((Z9 y_2 64)=true))/\(Tr (z2=true))/\(Tr (z2=true))/\(Tr (z2=true))/\(Tr (z2=true))/\(Tr (z6=true))/\(Tr (z6=true))/\(Tr (z6=true))/\(Tr (z6=true))/\(Q .ret (L2 [(4,.c (.bool (bif z6 then (e.new.kind !=10) else false)))] [])))/\((e.kind==1)=false->(Zh (A23 N [1,1,1,1,1,0,1,0,0]) (Z6z e d (-1) 0) (xB 0 (S23 N [1,1,1,1,1,1] Q))))))))))):
  A23 N [] (L2 [(0,.agg (enc .edit e)),pI 1 d] []) Q:=
 Eq.mpr (by kernel_rfl) (h _ (Z8 _) _ (Z8 _))
theorem ZnJ(N:Nat)(e:Edit)(d x5 x6:Int)(N0:NT)(Q:QT)(h:∀ y_1,y_1=(e.words.getD x6.toNat (WEdit.mk 0 0 0 0))->let z5:=decide (x6 < (e.words.length:Int));let z3:=decide (y_1.at_<=x5);let z2:=bif z3 then true else (decide ((65534:Int) < y_1.at_));let z0:=bif z2 then true else (y_1.mask==0);let z1:=bif z0 then true else (!(J8 y_1.old y_1.mask));let z4:=bif z1 then true else (!(J8 y_1.new y_1.mask));((z5=true->((0:Int)<=x6/\x6 < (e.words.length:Int))/\((Tr ((!z3)=true))/\(Tr ((!z3)=true))/\(z3=false->(!z3)=true)/\(Tr ((!z2)=true))/\(Tr ((!z2)=true))/\(z2=false->(!z2)=true)/\(Tr ((!z0)=true))/\(Tr ((!z0)=true))/\(Tr ((!z0)=true))/\(Tr ((!z0)=true))/\((!z0)=true->ZgP (y_1.old,y_1.mask,()))/\(Tr ((!z0)=true))/\(z0=false->(!z0)=true)/\(Tr ((!z1)=true))/\(Tr ((!z1)=true))/\(Tr ((!z1)=true))/\(Tr ((!z1)=true))/\((!z1)=true->ZgP (y_1.new,y_1.mask,()))/\(Tr ((!z1)=true))/\(z1=false->(!z1)=true)/\((z4=true->(Q .ret (L2 [pB 4 false] [])))/\(z4=false->((InR (x6+1))/\(N0 (Z6z e d y_1.at_ (x6+1))))))))/\(z5=false->(Zh (A23 N [1,1,1,1,1,1,1,0,1,0,0]) (Z6y e d (-1) 0) (xB 2 (S23 N [1,1,1,1,1,1,1,1] Q)))))):
  A23 N [1,1,1,1,1,0,1,0,0] (Z6z e d x5 x6) (xT N0 (xB 0 (S23 N [1,1,1,1,1,1] Q))):=
 Eq.mpr (by kernel_rfl) (h _ rfl)
theorem ZnI(N:Nat)(e:Edit)(d x5_a x8_a:Int)(N1:NT)(Q:QT)(h:∀ y_1,y_1=(e.kids.getD x8_a.toNat (KidOf.mk 0 Edit.nil))->∀ y_2,y_2=(y_1.e)->let z7:=decide (x8_a < (e.kids.length:Int));let z6:=decide (e.list < 2);let z4:=(e.kind==3) && (!z6);let z3:=decide (y_1.at_<=x5_a);let z2:=bif (e.kind==3) then (bif z6 then true else (decide ((9:Int) < e.list))) else false;let z1:=bif z3 then true else (decide ((65534:Int) < y_1.at_));let z0:=bif z1 then true else (y_1.e.kind==0);let z5:=bif z0 then true else (!(Z4 y_2 (d - 1)));((z7=true->((0:Int)<=x8_a/\x8_a < (e.kids.length:Int))/\((Tr ((!z3)=true))/\(Tr ((!z3)=true))/\(z3=false->(!z3)=true)/\(Tr ((!z1)=true))/\(Tr ((!z1)=true))/\(Tr ((!z1)=true))/\(z1=false->(!z1)=true)/\(Tr ((!z0)=true))/\(Tr ((!z0)=true))/\((!z0)=true->InR (d - 1))/\(Tr ((!z0)=true))/\(Tr ((!z0)=true))/\((!z0)=true->Z7L (y_2,(d - 1),()))/\((!z0)=true->Zcb (y_2,(d - 1),()) < N)/\(Tr ((!z0)=true))/\(z0=false->(!z0)=true)/\((z5=true->(Q .ret (L2 [pB 4 false] [])))/\(z5=false->((InR (x8_a+1))/\(N1 (Z6y e d y_1.at_ (x8_a+1))))))))/\(z7=false->(Tr ((e.kind==3)=true))/\(Tr ((e.kind==3)=true))/\(Tr ((e.kind==3)=true))/\(Tr (z4=true))/\(Tr (z4=true))/\((e.kind==3)=true->(True->(e.kind==3)=true))/\((e.kind==3)=true->(z6=false->z4=true))/\(Tr ((e.kind==3)=true))/\((z2=true->(Q .ret (L2 [pB 4 false] [])))/\(z2=false->(Zh (A23 N [1,1,1,1,1,1,1,1,1,0,1,0,0]) (Z6x e d 0) (xB 4 (S23 N [1,1,1,1,1,1,1,1,1,1] Q)))))))):
  A23 N [1,1,1,1,1,1,1,0,1,0,0] (Z6y e d x5_a x8_a) (xT N1 (xB 2 (S23 N [1,1,1,1,1,1,1,1] Q))):=
 Eq.mpr (by kernel_rfl) (h _ rfl _ (Zf _))
theorem ZnH(N:Nat)(e:Edit)(d x10_b:Int)(N2:NT)(Q:QT)(h:∀ y_1,y_1=e->∀ y_2,y_2=(e.ops.getD x10_b.toNat Op.nil)->∀ y_3,y_3=y_2->let z2:= !(Zb e.list y_3 (d - 1));let z1:=decide (x10_b < (e.ops.length:Int));let z0:=decide (((Jy y_1.ops 0):Int) < 1048576);((z1=true->((0:Int)<=x10_b/\x10_b < (e.ops.length:Int))/\(InR (d - 1))/\(Zb0 (e.list,y_3,(d - 1),()))/\(ZiM (e.list,y_3,(d - 1),()) < N)/\((z2=true->(Q .ret (L2 [pB 4 false] [])))/\(z2=false->(InR (x10_b+1))/\(N2 (Z6x e d (x10_b+1))))))/\(z1=false->(Zdt (y_1,()))/\((Tr (z0=true))/\(Tr (z0=true))/\(Q .ret (L2 [(4,.c (.bool (bif z0 then (decide (((Jx y_1.ops 0):Int) < 1048576)) else false)))] [])))))):
  A23 N [1,1,1,1,1,1,1,1,1,0,1,0,0] (Z6x e d x10_b) (xT N2 (xB 4 (S23 N [1,1,1,1,1,1,1,1,1,1] Q))):=
 Eq.mpr (by kernel_rfl) (h _ (Zf _) _ rfl _ (Z43 _))
def Zt4(N:Nat)(e:Edit)(d:Int):Prop:=AW (Z1 (ZfH N)) Try.f23 ZoH [] (Zg (ZcI.can (e,d,())) []) (EQ Try.f23 (ZgI (e,d,())) [])
abbrev ZuE:Prop:=∀ (N:Nat) (e:Edit) (d:Int) (_:Unit),Z7L (e,d,())->Zcb (e,d,()) < N+1->Zt4 N e d
def ZoC:Zc U:=lvl [([0,2,4],[4]),([0,2,4,10],[4]),([6],[]),([0,2,4,42],[4]),([6],[]),([0,2,4,45],[4]),([0,4,7],[4]),([0,4,7,50],[4]),([0,4,7],[4]),([0,4,7,62],[4]),([6],[]),([6],[]),([0,4,92],[4]),([6],[]),([6],[])]
def Z6s(list:Int)(o:Op)(d x7:Int):LSt U:=(L2 [pI 0 list,pL 4,pI 7 x7] [(.loc 4,(enc .op o))])
abbrev A64(N:Nat)(p:List Nat):=AW (Z1 (ZfH N)) Try.f64 ZoC p
abbrev S64(N:Nat)(p:List Nat):=SW (Z1 (ZfH N)) Try.f64 ZoC p
theorem Zv0(N:Nat)(list:Int)(o:Op)(d:Int)(Q:QT)(h:∀ y_1,y_1=(o.e)->let z9:=decide ((1:Int)<=o.n);let z5:=bif (o.n !=0) then true else (decide (o.kind < 0));let z10:=bif z5 then true else (decide ((3:Int) < o.kind));let z4:=decide ((0:Int) < (o.l.length:Int));let z7:=bif z4 then true else (o.e.kind==0);let z3:=bif (o.e.kind==1) then (o.e.old.kind==1) else false;let z2:=bif z9 then (decide (o.n<=1048576)) else false;let z6:=bif z2 then (((o.l.length:Int):Int)==0) else false;let z1:=bif (list==8) then true else (o.e.kind==2);let z8:=(!z1) && (o.e.kind==1);let z0:=bif z7 then true else (decide (list<=7));let z11:=bif z0 then true else (!(Z4 y_1 d));(((o.kind==0)=true->(Tr (z9=true))/\(Tr (z9=true))/\(Tr (z9=true))/\(Tr (z2=true))/\(Tr (z2=true))/\(Tr (z2=true))/\(Tr (z2=true))/\(Tr (z6=true))/\(Tr (z6=true))/\(z6=true->Z52 (y_1,()))/\(Tr (z6=true))/\(Q .ret (L2 [(6,.c (.bool (bif z6 then (Z0f y_1) else false)))] [])))/\((o.kind==0)=false->(Tr ((!(o.n !=0))=true))/\(Tr ((!(o.n !=0))=true))/\((o.n !=0)=false->(!(o.n !=0))=true)/\(Tr ((!z5)=true))/\(Tr ((!z5)=true))/\(z5=false->(!z5)=true)/\((z10=true->(Q .ret (L2 [pB 6 false] [])))/\(z10=false->(((decide (o.kind < 3))=true->(Zh (A64 N [1,1,1,0,1,0,0,1,0,0]) (Z6s list o d 0) (xB 0 (S64 N [1,1,1,0,1,0,1] (S64 N [1,1,1,1] Q)))))/\((decide (o.kind < 3))=false->(Tr ((!z4)=true))/\(Tr ((!z4)=true))/\(Tr ((!z4)=true))/\(z4=false->(!z4)=true)/\(Tr ((!z7)=true))/\(z7=false->(!z7)=true)/\(Tr ((!z0)=true))/\(Tr ((!z0)=true))/\(Tr ((!z0)=true))/\((!z0)=true->Z7L (y_1,d,()))/\((!z0)=true->Zcb (y_1,d,()) < N)/\(Tr ((!z0)=true))/\(z0=false->(!z0)=true)/\((z11=true->(Q .ret (L2 [pB 6 false] [])))/\(z11=false->(Tr ((!(list==8))=true))/\(Tr ((!(list==8))=true))/\(Tr ((!(list==8))=true))/\((list==8)=false->(!(list==8))=true)/\(Tr ((!z1)=true))/\(Tr ((!z1)=true))/\(Tr ((!z1)=true))/\(Tr ((!z1)=true))/\(Tr (z8=true))/\(Tr (z8=true))/\(Tr (z8=true))/\(Tr (z8=true))/\((!z1)=true->(True->(!z1)=true))/\((!z1)=true->((o.e.kind==1)=true->z8=true))/\(Tr ((!z1)=true))/\(Tr (((!z1) && z3)=true))/\(Tr (((!z1) && z3)=true))/\(Tr (((!z1) && z3)=true))/\(Tr (((!z1) && z3)=true))/\((!z1)=true->(True->(!z1)=true))/\((!z1)=true->(z3=true->((!z1) && z3)=true))/\(z1=false->(!z1)=true)/\(Q .ret (L2 [(6,.c (.bool (bif z1 then true else (bif z3 then (o.e.new.kind==1) else false))))] []))))))))))):
  A64 N [] (L2 [pI 0 list,(1,.agg (enc .op o)),pI 2 d] []) Q:=
 Eq.mpr (by kernel_rfl) (h _ (Zf _))
theorem ZnA(N:Nat)(list:Int)(o:Op)(d x7:Int)(N0:NT)(Q:QT)(h:let z3:=decide (x7 < (o.l.length:Int));let z2:=Tree.mk list [] (List.drop x7.toNat (List.take (Int.toNat (x7+1)) o.l));let z1:=Edit.mk o.e.kind (Tree.mk o.e.old.kind o.e.old.words o.e.old.kids) (Tree.mk o.e.new.kind o.e.new.words o.e.new.kids) o.e.words o.e.kids o.e.list o.e.ops;let z0:=decide ((0:Int) < (o.l.length:Int));((z3=true->(InR (x7+1))/\((0:Int)<=x7/\x7<=(x7+1)/\(x7+1)<=(o.l.length:Int))/\(Z3q (z2,64,()))/\(((!(Z9 z2 64))=true->(Q .ret (L2 [pB 6 false] [])))/\((!(Z9 z2 64))=false->(InR (x7+1))/\(N0 (Z6s list o d (x7+1))))))/\(z3=false->(Tr (z0=true))/\(Tr (z0=true))/\(z0=true->Z52 (z1,()))/\(Tr (z0=true))/\(Q .ret (L2 [(6,.c (.bool (bif z0 then (Z0f z1) else false)))] []))))):
  A64 N [1,1,1,0,1,0,0,1,0,0] (Z6s list o d x7) (xT N0 (xB 0 (S64 N [1,1,1,0,1,0,1] (S64 N [1,1,1,1] Q)))):=
 Eq.mpr (by kernel_rfl) h
def ZsK(N:Nat)(list:Int)(o:Op)(d:Int):Prop:=AW (Z1 (ZfH N)) Try.f64 ZoC [] (Zg (ZcG.can (list,o,d,())) []) (EQ Try.f64 (ZgG (list,o,d,())) [])
abbrev ZuC:Prop:=∀ (N:Nat) (list:Int) (o:Op) (d:Int) (_:Unit),Zb0 (list,o,d,())->ZiM (list,o,d,()) < N+1->ZsK N list o d
def ZfD(N:Nat):List (FuncId × Fs U):=(55,fs ZhW (fun a=> [Z9v a,ZdI a < N]) Zkt) ::[(65,Z2p)]
def ZoD:Zc U:=lvl [([1],[1]),([1,3,4],[1]),([1,17],[1]),([2],[]),([1,5],[1]),([1,5,22],[1]),([1,5],[1]),([1,5,32],[1]),([2],[]),([1,6],[1]),([1,6,37],[1]),([1,6],[1]),([1,6,47],[1]),([2],[]),([2],[])]
def Z6u(e:Edit)(x5:Int):LSt U:=(L2 [pL 1,pI 5 x5] [(.loc 1,(enc .edit e))])
def Z6t(e:Edit)(x6_a:Int):LSt U:=(L2 [pL 1,pI 6 x6_a] [(.loc 1,(enc .edit e))])
abbrev A55(N:Nat)(p:List Nat):=AW (Z1 (ZfD N)) Try.f55 ZoD p
abbrev S55(N:Nat)(p:List Nat):=SW (Z1 (ZfD N)) Try.f55 ZoD p
theorem Zv4(N:Nat)(e:Edit)(Q:QT)(h:∀ y_1,y_1=e->let z0:=decide ((2000:Int) < (Jy y_1.ops 0));let z1:=bif z0 then true else (decide ((2000:Int) < (Jx y_1.ops 0)));((Zdt (y_1,()))/\((Tr ((!z0)=true))/\(z0=false->(!z0)=true)/\((z1=true->(Q .ret (L2 [pB 2 false] [])))/\(z1=false->(Zh (A55 N [1,1,1,0,1,0,0]) (Z6u e 0) (xB 0 (S55 N [1,1,1,1] Q)))))))):
  A55 N [] (L2 [(0,.agg (enc .edit e))] []) Q:=
 Eq.mpr (by kernel_rfl) (h _ (Zf _))
theorem ZnD(N:Nat)(e:Edit)(x5:Int)(N0:NT)(Q:QT)(h:∀ y_1,y_1=(e.kids.getD x5.toNat (KidOf.mk 0 Edit.nil))->∀ y_2,y_2=(y_1.e)->let z0:=decide (x5 < (e.kids.length:Int));((z0=true->((0:Int)<=x5/\x5 < (e.kids.length:Int))/\(Z9v (y_2,()))/\(ZdI (y_2,()) < N)/\(((!(JR y_2))=true->(Q .ret (L2 [pB 2 false] [])))/\((!(JR y_2))=false->(InR (x5+1))/\(N0 (Z6u e (x5+1))))))/\(z0=false->(Zh (A55 N [1,1,1,1,0,1,0,0]) (Z6t e 0) (xB 2 (S55 N [1,1,1,1,1] Q)))))):
  A55 N [1,1,1,0,1,0,0] (Z6u e x5) (xT N0 (xB 0 (S55 N [1,1,1,1] Q))):=
 Eq.mpr (by kernel_rfl) (h _ rfl _ (Zf _))
theorem ZnC(N:Nat)(e:Edit)(x6_a:Int)(N1:NT)(Q:QT)(h:∀ y_1,y_1=(e.ops.getD x6_a.toNat Op.nil)->∀ y_2,y_2=(y_1.e)->let z0:=decide (x6_a < (e.ops.length:Int));((z0=true->((0:Int)<=x6_a/\x6_a < (e.ops.length:Int))/\(Z9v (y_2,()))/\(ZdI (y_2,()) < N)/\(((!(JR y_2))=true->(Q .ret (L2 [pB 2 false] [])))/\((!(JR y_2))=false->(InR (x6_a+1))/\(N1 (Z6t e (x6_a+1))))))/\(z0=false->(Q .ret (L2 [pB 2 true] []))))):
  A55 N [1,1,1,1,0,1,0,0] (Z6t e x6_a) (xT N1 (xB 2 (S55 N [1,1,1,1,1] Q))):=
 Eq.mpr (by kernel_rfl) (h _ rfl _ (Zf _))
def ZsO(N:Nat)(e:Edit):Prop:=AW (Z1 (ZfD N)) Try.f55 ZoD [] (Zg (ZhW.can (e,())) []) (EQ Try.f55 (Zkt (e,())) [])
theorem ZqZ(c65:CT 65 Z2p)(hb:∀ (N:Nat) (e:Edit) (_:Unit),Z9v (e,())->ZdI (e,()) < N+1->ZsO N e):CT 55 Z91:=
 Yb (μ:=ZdI) (l:=[(65,Z2p)]) Zj rfl (⟨c65,trivial⟩) ZoD Try.func55 rfl rfl 1 (fun _=> rfl) (by decide) (fun N ⟨e,_⟩=> hb N e ())
theorem ZiV(c62:CT 62 Z2q)(c63:CT 63 Z6T)(Zs7:CT 104 Z3U)(c37:CT 37 Z5z)(c65:CT 65 Z2p)(ha:ZuE)(hb:ZuC):CT 23 Z9a/\CT 64 Zke:=
 Z1M (μA:=Zcb) (μB:=ZiM) (l:=[(62,Z2q),(63,Z6T),(104,Z3U),(37,Z5z),(65,Z2p)]) Zj rfl (⟨c62,c63,Zs7,c37,c65,trivial⟩) ZoH ZoC Try.func23 Try.func64 rfl rfl rfl rfl 2 3 (fun _=> rfl) (fun _=> rfl) (by decide) (by decide) (fun N ⟨e,d,_⟩=> ha N e d ()) (fun N ⟨list,o,d,_⟩=> hb N list o d ())
end
theorem Z2Z{n:Int}(h0:0<=n)(h1:n < 18446744073709551616):IntKind.wrap .u64 n=n:=by
 simp [IntKind.wrap,IntKind.signed,IntKind.bits];omega
theorem Zgh{n:Int}(h0:0<=n)(h1:n < 256):IntKind.wrap .u8 n=n:=by
 simp [IntKind.wrap,IntKind.signed,IntKind.bits];omega
theorem ZhY{i:Int}{j:Nat}{v:Int}{F G:Nat->Int}(hi:0<=i)(hv:v=F i.toNat):Z0r i j v (if (j:Int) < i then F j else G j)=if (j:Int) < i+1 then F j else G j:=by
 unfold Z0r
 by_cases h:i=j
 ·subst h
  rw [if_pos rfl,if_pos (by omega),hv]
  simp
 ·rw [if_neg h]
  by_cases h2:(j:Int) < i
  ·rw [if_pos h2,if_pos (by omega)]
  ·rw [if_neg h2,if_neg (by omega)]
theorem ZoN{i:Int}{j:Nat}{F G:Nat->Int}(h:F i.toNat=G i.toNat)(hi:0<=i):(if (j:Int) < i then F j else G j)=if (j:Int) < i+1 then F j else G j:=by
 by_cases h2:(j:Int) < i
 ·rw [if_pos h2,if_pos (by omega)]
 ·by_cases h3:(j:Int)=i
  ·subst h3
   rw [if_neg h2,if_pos (by omega)]
   simpa using h.symm
  ·rw [if_neg h2,if_neg (by omega)]
theorem JV(w:Int)(i:Nat):0<=Zd w i/\Zd w i < 256:=by
 unfold Zd
 omega
theorem Z3O{w:Int}(h:0<=w)(i:Nat):0<=w / 256 ^ i:=XX h (XI (Xy (by omega)))
theorem Zac{w:Int}(h:0<=w)(i:Nat):w / 256 ^ i<=w:=XW _ h
theorem Zcw(w:Int)(i:Nat):w / 256 ^ i / 256=w / 256 ^ (i+1):=by
 rw [Int.ediv_ediv_of_nonneg (XI (Xy (by omega))),XV]
theorem c67:Contract Try.prog cfg 67 Z90:=by
 refine ZqU ?_
 intro w _ hp
 simp only [Zds] at hp
 refine ZuX _ _ ?_;(try simp only [vcT,forall_eq])
 refine Za (ι:=Int) (fun i=> Z3G w (w / 256 ^ i.toNat) i (if ((0:Nat):Int) < i then Zd w 0 else 0) (if ((1:Nat):Int) < i then Zd w 1 else 0) (if ((2:Nat):Int) < i then Zd w 2 else 0) (if ((3:Nat):Int) < i then Zd w 3 else 0)
  (if ((4:Nat):Int) < i then Zd w 4 else 0) (if ((5:Nat):Int) < i then Zd w 5 else 0) (if ((6:Nat):Int) < i then Zd w 6 else 0) (if ((7:Nat):Int) < i then Zd w 7 else 0)) (fun i=> 0<=i/\i<=8) (fun i=> (8 - i).toNat) 0 ?_ ⟨by omega,by omega⟩ ?_
 ·simp [Z3G]
 ·rintro i ⟨h1,h2⟩
  refine Znu _ _ _ _ _ _ _ _ _ _ _ _ _ ?_;(try simp only [vcT,forall_eq])
  (simp only [vcS]);(try simp only [vcT])
  refine ⟨fun hc=> ⟨by omega,⟨h1,by omega⟩,by omega,by unfold InR;omega,i+1,?_,⟨by omega,by omega⟩,by omega⟩,fun hc=> ?_⟩
  ·have hd:=Z3O hp.1 i.toNat
   have hl:=Zac hp.1 i.toNat
   have e1:IntKind.wrap .u64 (Int.tdiv (w / 256 ^ i.toNat) 256)=w / 256 ^ (i+1).toNat:=by
    rw [Xo hd,Zcw,show i.toNat+1=(i+1).toNat by omega]
    exact Z2Z (Z3O hp.1 _) (Int.lt_of_le_of_lt (Zac hp.1 _) hp.2)
   have e2:IntKind.wrap .u8 (Int.tmod (w / 256 ^ i.toNat) 256)=Zd w i.toNat:=by
    rw [Int.tmod_eq_emod_of_nonneg hd]
    exact Zgh (JV w _).1 (JV w _).2
   rw [e1]
   have st:∀ j:Nat,Z0r i j (IntKind.wrap .u8 (Int.tmod (w / 256 ^ i.toNat) 256)) (if (j:Int) < i then Zd w j else 0)=if (j:Int) < i+1 then Zd w j else 0:=fun j=> ZhY (F:=Zd w) (G:=fun _=> 0) h1 e2
   rw [st 0,st 1,st 2,st 3,st 4,st 5,st 6,st 7]
  ·have:i=8:=by omega
   subst this
   simp only [Zkr]
   exact ⟨⟨rfl,⟨⟨rfl,rfl⟩,⟨rfl,rfl⟩,⟨rfl,rfl⟩,⟨rfl,rfl⟩,⟨rfl,rfl⟩,⟨rfl,rfl⟩,⟨rfl,rfl⟩,⟨rfl,rfl⟩,trivial⟩,trivial⟩,trivial⟩
theorem c68:Contract Try.prog cfg 68 Z8Z:=by
 refine ZqT ?_
 intro m i _ hp
 simp only [ZgO] at hp
 refine ZuW _ _ _ ?_;(try simp only [vcT,forall_eq])
 refine Za (ι:=Int) (fun k=> Z6n m i (m / 2 ^ k.toNat) k) (fun k=> 0<=k/\k<=i) (fun k=> (i - k).toNat) 0 ?_ ⟨by omega,by omega⟩ ?_
 ·simp
 ·rintro k ⟨h1,h2⟩
  refine Znt _ _ _ _ _ _ ?_;(try simp only [vcT,forall_eq])
  have hd:0<=m / 2 ^ k.toNat:=XX hp.1.1 (XI (Xy (by omega)))
  have hl:m / 2 ^ k.toNat<=m:=XW _ hp.1.1
  (simp only [vcS])
  refine ⟨fun hc=> ⟨by omega,by unfold InR;omega,k+1,?_,⟨by omega,by omega⟩,by omega⟩,fun hc=> ⟨by omega,Z0 rfl ?_⟩⟩
  ·have e:IntKind.wrap .u8 (Int.tdiv (m / 2 ^ k.toNat) 2)=m / 2 ^ (k+1).toNat:=by
    rw [Xo hd,Int.ediv_ediv_of_nonneg (XI (Xy (by omega))),show (2:Int) ^ k.toNat*2=2 ^ (k+1).toNat by rw [<-XV];congr 1;omega]
    refine Zgh (XX hp.1.1 (XI (Xy (by omega)))) (Int.lt_of_le_of_lt (XW _ hp.1.1) hp.1.2)
   rw [e]
  ·have:k=i:=by omega
   subst this
   rw [Int.tmod_eq_emod_of_nonneg hd]
   try rfl
def Z8k(f:Nat->Int):Nat->Int
 | 0=> 0
 | k+1=> f (7 - k)+256*Z8k f k
theorem Z8P{f:Nat->Int}(h:∀ i,0<=f i/\f i < 256):∀ k,0<=Z8k f k/\Z8k f k < 256 ^ k
 | 0=> by simp [Z8k]
 | k+1=> by
  have:=Z8P h k
  have h2:=h (7 - k)
  simp only [Z8k,XV]
  omega
theorem Zqo(f:Nat->Int):Z8k f 8=of8 f:=by simp [Z8k,of8]
theorem c69:Contract Try.prog cfg 69 Z8Y:=by
 refine ZqS ?_
 intro b z _ hp
 obtain ⟨rfl,hl,hb⟩:=hp
 dsimp only at hl hb
 refine ZuV _ _ _ ?_;(try simp only [vcT,forall_eq])
 have hf:∀ i,0<=b.getD i 0/\b.getD i 0 < 256:=by
  intro i
  by_cases hi:i < b.length
  ·have:b.getD i 0∈b:=by
    simp only [List.getD,Q0 hi,QX]
    exact XA hi
   exact hb _ this
  ·rw [List.getD,Ql (by omega)];simp
 refine Za (ι:=Int) (fun i=> Z6m b 0 (Z8k (fun i=> b.getD i 0) (7 - i).toNat) i) (fun i=> -1<=i/\i<=7) (fun i=> (i+1).toNat) 7 rfl ⟨by omega,by omega⟩ ?_
 rintro i ⟨h1,h2⟩
 refine Zns _ _ _ _ _ _ ?_;(try simp only [vcT,forall_eq])
 (simp only [vcS]);(try simp only [vcT])
 have hr:=Z8P (f:=fun i=> b.getD i 0) hf (7 - i).toNat
 refine ⟨fun hc=> ⟨by unfold InR;omega,by omega,by unfold InR;omega,i - 1,?_,⟨by omega,by omega⟩,by omega⟩,fun hc=> Yz rfl ?_⟩
 ·have hp7:(256:Int) ^ (7 - i).toNat<=256 ^ 7:=by
   have:(256:Int) ^ (7 - i).toNat=((256 ^ (7 - i).toNat:Nat):Int):=by simp
   rw [this]
   have h7:(256:Nat) ^ (7 - i).toNat<=256 ^ 7:=Nat.pow_le_pow_right (by omega) (by omega)
   have:((256:Nat) ^ 7:Nat)=72057594037927936:=by decide
   omega
  have e7:(256:Int) ^ 7=72057594037927936:=by decide
  have hfi:=hf i.toNat
  have e:Z8k (fun i=> b.getD i 0) (7 - (i - 1)).toNat=b.getD i.toNat 0+256*Z8k (fun i=> b.getD i 0) (7 - i).toNat:=by
   rw [show (7 - (i - 1)).toNat=(7 - i).toNat+1 by omega]
   simp only [Z8k]
   rw [show 7 - (7 - i).toNat=i.toNat by omega]
  rw [e,show (0+i).toNat=i.toNat by omega,Z2Z (n:=Z8k (fun i=> b.getD i 0) (7 - i).toNat*256) (by omega) (by omega),Z2Z (n:=b.getD i.toNat 0) (by omega) (by omega),Z2Z (by omega) (by omega)]
  congr 1
  omega
 ·have:i= -1:=by omega
  subst this
  exact Zqo _
theorem Zu2(f:Nat->Int){i:Nat}(h:i < 8):List.getD [f 0,f 1,f 2,f 3,f 4,f 5,f 6,f 7] i 0=f i:=by
 match i,h with
 | 0,_=> rfl
 | 1,_=> rfl
 | 2,_=> rfl
 | 3,_=> rfl
 | 4,_=> rfl
 | 5,_=> rfl
 | 6,_=> rfl
 | 7,_=> rfl
theorem Z3y(a b m:Int)(i:Nat):0<=Ye a b m i/\Ye a b m i < 256:=by
 unfold Ye
 split
 ·exact JV _ _
 ·exact JV _ _
theorem Zs8:Contract Try.prog cfg 103 Z5D:=by
 refine Zor c67 c68 c69 ?_
 intro a b m _ hp
 simp only [Zc7] at hp
 refine ZtK _ _ _ _ ?_;(try simp only [vcT,forall_eq])
 refine ⟨hp.1,hp.2.1,?_⟩
 refine Za (ι:=Int) (fun i=> Z0X a b m i (if ((0:Nat):Int) < i then Ye a b m 0 else Zd a 0) (if ((1:Nat):Int) < i then Ye a b m 1 else Zd a 1) (if ((2:Nat):Int) < i then Ye a b m 2 else Zd a 2) (if ((3:Nat):Int) < i then Ye a b m 3 else Zd a 3)
  (if ((4:Nat):Int) < i then Ye a b m 4 else Zd a 4) (if ((5:Nat):Int) < i then Ye a b m 5 else Zd a 5) (if ((6:Nat):Int) < i then Ye a b m 6 else Zd a 6) (if ((7:Nat):Int) < i then Ye a b m 7 else Zd a 7)) (fun i=> 0<=i/\i<=8) (fun i=> (8 - i).toNat) 0 ?_ ⟨by omega,by omega⟩ ?_
 ·simp [Z0X]
 ·rintro i ⟨h1,h2⟩
  refine Zk3 _ _ _ _ _ _ _ _ _ _ _ _ _ _ ?_;(try simp only [vcT,forall_eq])
  (simp only [vcS]);(try simp only [vcT])
  refine ⟨fun hc=> ⟨⟨hp.2.2,h1,by dsimp only;omega⟩,fun hn=> ⟨⟨h1,by omega⟩,⟨h1,by omega⟩,by unfold InR;omega,i+1,?_,⟨by omega,by omega⟩,by omega⟩,fun hn=> ⟨by unfold InR;omega,i+1,?_,⟨by omega,by omega⟩,by omega⟩⟩,fun hc=> ?_⟩
  ·rw [Zu2 (Zd b) (by omega)]
   have hv:Zd b i.toNat=Ye a b m i.toNat:=by
    unfold Ye
    rw [show ((i.toNat:Nat):Int)=i by omega,hn]
    try rfl
   have st:∀ j:Nat,Z0r i j (Zd b i.toNat) (if (j:Int) < i then Ye a b m j else Zd a j)=if (j:Int) < i+1 then Ye a b m j else Zd a j:=fun j=> ZhY (F:=Ye a b m) (G:=Zd a) h1 hv
   rw [st 0,st 1,st 2,st 3,st 4,st 5,st 6,st 7]
  ·have hv:Ye a b m i.toNat=Zd a i.toNat:=by
    unfold Ye
    rw [show ((i.toNat:Nat):Int)=i by omega,hn]
    try rfl
   have st:∀ j:Nat,(if (j:Int) < i then Ye a b m j else Zd a j)=if (j:Int) < i+1 then Ye a b m j else Zd a j:=fun j=> ZoN (F:=Ye a b m) (G:=Zd a) hv h1
   rw [st 0,st 1,st 2,st 3,st 4,st 5,st 6,st 7]
  ·have:i=8:=by omega
   subst this
   refine ⟨⟨rfl,rfl,?_⟩,Yz rfl ?_⟩
   ·intro x hx
    simp at hx
    rcases hx with rfl | rfl | rfl | rfl | rfl | rfl | rfl | rfl <;> exact Z3y _ _ _ _
   ·try rfl
theorem Zjc{α:Type}{l:List α}{i:Nat}(h:i < l.length)(d:α):l.drop i=l.getD i d ::l.drop (i+1):=by
 rw [QJ h]
 simp [List.getD,h]
theorem Yr{α:Type}{l:List α}{i:Int}(h0:0<=i)(h:i < l.length)(d:α):l.drop i.toNat=l.getD i.toNat d ::l.drop (i+1).toNat:=by
 rw [Zjc (by omega) d,show i.toNat+1=(i+1).toNat by omega]
theorem Zl{α:Type}{l:List α}{i:Nat}(h:i < l.length)(d:α):l.getD i d∈l:=by
 simp only [List.getD,Q0 h,QX]
 exact XA h
theorem Z1i(t:Tree):1<=Zm t:=by cases t;simp only [Zm];omega
theorem Z22(e:Edit):1<=ZD e:=by cases e;simp only [ZD];omega
theorem Zbc(k:Kid):JQ k=ZD k.e:=by cases k;rfl
theorem Jn(o:Op):Yp o=Ze o.l+ZD o.e:=by cases o;rfl
theorem JE:∀ {ks:List Tree} {t:Tree},t∈ks->Zm t<=Ze ks
 | x ::r,t,h=> by
  simp only [Ze]
  rcases Qc.1 h with rfl | h
  ·omega
  ·have:=JE h;omega
theorem J3:∀ {ks:List Kid} {k:Kid},k∈ks->ZD k.e<=Yy ks
 | x ::r,k,h=> by
  simp only [Yy,Zbc]
  rcases Qc.1 h with rfl | h
  ·omega
  ·have:=J3 h;omega
theorem Yn:∀ {os:List Op} {o:Op},o∈os->Yp o<=ZE os
 | x ::r,o,h=> by
  simp only [ZE]
  rcases Qc.1 h with rfl | h
  ·omega
  ·have:=Yn h;omega
theorem Yg:∀ (ks:List Kid),ks.length<=Yy ks
 | []=> by simp [Yy]
 | k ::r=> by
  have:=Yg r
  have:=Z22 k.e
  simp only [Yy,Zbc,Qw]
  omega
theorem Yo:∀ (os:List Op),os.length<=ZE os
 | []=> by simp [ZE]
 | o ::r=> by
  have:=Yo r
  have:=Z22 o.e
  simp only [ZE,Jn,Qw]
  omega
theorem Z9c:∀ {ks:List Tree} {t:Tree},Z11 ks->t∈ks->Z12 t
 | x ::r,t,hs,h=> by
  simp only [Z11] at hs
  rcases Qc.1 h with rfl | h
  ·exact hs.1
  ·exact Z9c hs.2 h
theorem Z7A:∀ {ks:List Kid} {k:Kid},Z3W ks->k∈ks->Z1F k.e
 | x ::r,k,hs,h=> by
  simp only [Z3W] at hs
  rcases Qc.1 h with rfl | h
  ·have:=hs.1;obtain ⟨a,e⟩:=k;exact this
  ·exact Z7A hs.2 h
theorem Z7z:∀ {os:List Op} {o:Op},Z3V os->o∈os->o.l.length<=17592186044416/\Z11 o.l/\Z1F o.e
 | x ::r,o,hs,h=> by
  simp only [Z3V] at hs
  rcases Qc.1 h with rfl | h
  ·have:=hs.1;obtain ⟨a,b,c,e⟩:=o;exact this
  ·exact Z7z hs.2 h
theorem JL:∀ {ks:List Tree} {t:Tree},ZQ ks->t∈ks->rng t
 | x ::r,t,hs,h=> by
  simp only [ZQ] at hs
  rcases Qc.1 h with rfl | h
  ·exact hs.1
  ·exact JL hs.2 h
theorem Z1W:∀ {ks:List Kid} {k:Kid},JB ks->k∈ks->InR k.at_/\Yk k.e
 | x ::r,k,hs,h=> by
  simp only [JB] at hs
  rcases Qc.1 h with rfl | h
  ·have:=hs.1;obtain ⟨a,e⟩:=k;exact this
  ·exact Z1W hs.2 h
theorem Z1V:∀ {os:List Op} {o:Op},JK os->o∈os->Jg o
 | x ::r,o,hs,h=> by
  simp only [JK] at hs
  rcases Qc.1 h with rfl | h
  ·exact hs.1
  ·exact Z1V hs.2 h
theorem Z8s{o:Op}(h:Jg o):InR o.kind/\InR o.n/\ZQ o.l/\Yk o.e:=by obtain ⟨a,b,c,e⟩:=o;exact h
theorem ZiZ(k:Kid)(d n:Int):Z1A k d n=Jo k.e d n:=by cases k;rfl
theorem ZlV(o:Op)(d n:Int):Z3C o d n=if Zo o.l 80 n < 0 then Zo o.l 80 n else Jo o.e d (Zo o.l 80 n):=by cases o;rfl
theorem Z6V(t:Tree)(n:Int)(h: -1<=n): -1<=sh1 t n/\sh1 t n<=n:=by
 unfold sh1
 split
 ·omega
 ·have:=Yc t 80 n;omega
mutual
theorem Z0m:∀ (e:Edit) (d n:Int),-1<=Jo e d n/\Jo e d n<=max n (-1)
 | .mk _ o nw w ks _ os,d,n=> by
  simp only [Jo]
  split
  ·omega
  ·have h1:=Yc o 80 (n - 1 - w.length - os.length)
   have h2:=Z6V nw _ h1.1
   have h3:=Z0F ks (d - 1) _ h2.1
   have h4:=Z0E os (d - 1) _ h3.1
   omega
theorem Z0F:∀ (ks:List (KidOf Edit)) (d n:Int),-1<=n->-1<=J4 ks d n/\J4 ks d n<=n
 | [],d,n,h=> by simp only [J4];omega
 | k ::r,d,n,h=> by
  simp only [J4]
  split
  ·omega
  ·have h1:=Z4E k d n
   have h2:=Z0F r d _ h1.1
   omega
theorem Z4E:∀ (k:KidOf Edit) (d n:Int),-1<=Z1A k d n/\Z1A k d n<=max n (-1)
 | ⟨_,e⟩,d,n=> by
  simp only [Z1A]
  exact Z0m e d n
theorem Z0E:∀ (os:List (OpOf Edit)) (d n:Int),-1<=n->-1<=Jl os d n/\Jl os d n<=n
 | [],d,n,h=> by simp only [Jl];omega
 | o ::r,d,n,h=> by
  simp only [Jl]
  split
  ·omega
  ·have h1:=Z69 o d n h
   have h2:=Z0E r d _ h1.1
   omega
theorem Z69:∀ (o:OpOf Edit) (d n:Int),-1<=n->-1<=Z3C o d n/\Z3C o d n<=n
 | ⟨_,_,l,e⟩,d,n,h=> by
  simp only [Z3C]
  have h1:=JJ l 80 n h
  split
  ·omega
  ·have h2:=Z0m e d (Zo l 80 n)
   omega
end
theorem Zkh{t:Tree}{n:Int}(h:0<=sh1 t n):(Zm t:Int)+sh1 t n<=n:=by
 unfold sh1 at*
 split at h
 ·omega
 ·rename_i hn
  rw [if_neg hn]
  exact J9 t 80 n h
mutual
theorem Z5d:∀ (e:Edit) (d n:Int),0<=Jo e d n->(ZD e:Int)+Jo e d n<=n
 | .mk _ o nw w ks _ os,d,n,h=> by
  simp only [Jo] at h ⊢
  split at h
  ·omega
  ·rename_i hc
   rw [if_neg hc]
   have r1:=Yc o 80 (n - 1 - w.length - os.length)
   have r2:=Z6V nw _ r1.1
   have r3:=Z0F ks (d - 1) _ r2.1
   have r4:=Z0E os (d - 1) _ r3.1
   have m4:=Z84 os (d - 1) _ h
   have m3:=Z85 ks (d - 1) (sh1 nw (Zr o 80 (n - 1 - w.length - os.length))) (by omega)
   have m2:=Zkh (t:=nw) (n:=Zr o 80 (n - 1 - w.length - os.length)) (by omega)
   have m1:=J9 o 80 (n - 1 - w.length - os.length) (by omega)
   simp only [ZD]
   omega
theorem Z85:∀ (ks:List (KidOf Edit)) (d n:Int),0<=J4 ks d n->(Yy ks:Int)+J4 ks d n<=n
 | [],d,n,h=> by simp only [J4,Yy];omega
 | k ::r,d,n,h=> by
  simp only [J4] at h ⊢
  split at h
  ·omega
  ·rename_i hc
   rw [if_neg hc]
   have r1:=Z4E k d n
   have r2:=Z0F r d _ r1.1
   have m2:=Z85 r d _ h
   have m1:=Zcj k d n (by omega)
   simp only [Yy]
   omega
theorem Zcj:∀ (k:KidOf Edit) (d n:Int),0<=Z1A k d n->(JQ k:Int)+Z1A k d n<=n
 | ⟨_,e⟩,d,n,h=> by
  simp only [Z1A,JQ] at h ⊢
  exact Z5d e d n h
theorem Z84:∀ (os:List (OpOf Edit)) (d n:Int),0<=Jl os d n->(ZE os:Int)+Jl os d n<=n
 | [],d,n,h=> by simp only [Jl,ZE];omega
 | o ::r,d,n,h=> by
  simp only [Jl] at h ⊢
  split at h
  ·omega
  ·rename_i hc
   rw [if_neg hc]
   have r1:=Z69 o d n (by omega)
   have r2:=Z0E r d _ r1.1
   have m2:=Z84 r d _ h
   have m1:=ZdX o d n (by omega)
   simp only [ZE]
   omega
theorem ZdX:∀ (o:OpOf Edit) (d n:Int),0<=Z3C o d n->(Yp o:Int)+Z3C o d n<=n
 | ⟨_,_,l,e⟩,d,n,h=> by
  simp only [Z3C,Yp] at h ⊢
  split at h
  ·omega
  ·rename_i hc
   rw [if_neg hc]
   have m2:=Z5d e d _ h
   have r2:=Z0m e d (Zo l 80 n)
   have m1:=Z1G l 80 n (by omega)
   omega
end
theorem Z7o{e:Edit}(h:0<=Jo e 80 3000):ZD e<=3000:=by
 have:=Z5d e 80 3000 h
 omega
theorem ZdU(t:Tree):t.words.length+t.kids.length < Zm t:=by
 obtain ⟨k,w,ks⟩:=t
 have:=Zw ks
 simp only [Zm,Tree.words_mk,Tree.kids_mk]
 omega
theorem ZZ(e:Edit):Zm e.old+Zm e.new+e.words.length+e.ops.length+Yy e.kids+ZE e.ops < ZD e:=by
 obtain ⟨k,o,n,w,ks,l,os⟩:=e
 simp only [ZD,Edit.old_mk,Edit.new_mk,Edit.words_mk,Edit.ops_mk,Edit.kids_mk]
 omega
theorem c62:Contract Try.prog cfg 62 Z2q:=by
 refine ZqY ?_
 intro t _ hp
 simp only [Z3n] at hp
 have:=ZdU t
 refine Zv2 t _ ?_;(try simp only [vcT,forall_eq])
 refine ⟨fun _=> by unfold InR;omega,Z0 rfl ?_⟩
 rw [Qd]
 simp only [ZJ]
 (simp only [vcS])
 omega
theorem c63:Contract Try.prog cfg 63 Z6T:=by
 refine ZqX Zs8 ?_
 intro w m _ hp
 refine Zv1 _ _ _ ?_;(try simp only [vcT,forall_eq])
 refine ⟨⟨hp.1,by dsimp only;omega,hp.2⟩,Z0 rfl ?_⟩
 try rfl
theorem Zs7:Contract Try.prog cfg 104 Z3U:=by
 refine Zoq c62 ?_
 intro e _ hp
 simp only [Z52] at hp
 have h1:=ZZ e
 have h2:=Yg e.kids
 refine ZtJ e _ ?_;(try simp only [vcT,forall_eq])
 try (simp only [Tree.eta,Edit.eta,Tree.kind_mk,Tree.words_mk,Tree.kids_mk])
 refine ⟨fun _=> by simp only [Z3n];omega,fun _=> by simp only [Z3n];omega,fun _=> by unfold InR;omega,fun _=> by unfold InR;omega,Z0 rfl ?_⟩
 rw [Qd]
 simp only [Z0f]
 (simp only [vcS])
 constructor
 ·rintro ⟨⟨⟨⟨h3,h4⟩,h5⟩,h6⟩,h7⟩;exact ⟨⟨⟨h3,h4⟩,h5⟩,by omega⟩
 ·rintro ⟨⟨⟨h3,h4⟩,h5⟩,h6⟩;exact ⟨⟨⟨⟨h3,h4⟩,h5⟩,by omega⟩,by omega⟩
theorem ZrD (e:Edit) (x4 x5 i:Int) (N0:LSt U->Prop) (Q:AExit->LSt U->Prop) (h1:0<=x4/\x4<=1048576) (h2:0<=x5/\x5<=1048576) (hi:0<=i) (hlen:e.ops.length<=20000000000)
  (ho:∀ o∈e.ops,(0<=o.n/\o.n<=1048576)/\o.l.length<=20000000000)
  (h:i < e.ops.length->N0 (Z1m e (min (if (e.ops.getD i.toNat Op.nil).kind=2 then x4 else x4+Zt (e.ops.getD i.toNat Op.nil)) 1048576) (min (if (e.ops.getD i.toNat Op.nil).kind=1 then x5 else x5+Zt (e.ops.getD i.toNat Op.nil)) 1048576) (i+1)))
  (h':¬i < e.ops.length->Q .ret (⟨[(2,.c (.int .i64 x4)),(3,.c (.int .i64 x5))],[],[]⟩:LSt U)):Zsi e x4 x5 i N0 Q:=by
 refine Znv _ _ _ _ _ _ ?_;(try simp only [vcT,forall_eq])
 (simp only [vcS]);(try simp only [vcT])
 refine ⟨fun hc=> ?_,h'⟩
 have hn:=h hc
 have hm:=ho _ (Zl (l:=e.ops) (i:=i.toNat) (by omega) Op.nil)
 have k1:∀ k,k=Zt (e.ops.getD i.toNat Op.nil)->Zsm e x4 x5 i k N0 Q:=by
  intro k hk
  have hkr:0<=k/\k<=60000000000:=by
   rw [hk];unfold Zt;split <;> omega
  have k2:∀ y,y=(if (e.ops.getD i.toNat Op.nil).kind=2 then x4 else x4+k)->Zsl e x5 i k y N0 Q:=by
   intro y hy
   have hyr:0<=y/\y<=100000000000:=by rw [hy];split <;> omega
   have k3:∀ z,z=(if (e.ops.getD i.toNat Op.nil).kind=1 then x5 else x5+k)->Zsk e i k y z N0 Q:=by
    intro z hz
    have hzr:0<=z/\z<=100000000000:=by rw [hz];split <;> omega
    have k4:∀ u,u=min y 1048576->Zsj e i y z u N0 Q:=by
     intro u hu
     refine Znw _ _ _ _ _ _ _ ?_;(try simp only [vcT,forall_eq])
     (simp only [vcS]);(try simp only [vcT])
     rw [<-hk,<-hy,<-hz,<-hu] at hn
     refine ⟨fun hq=> ⟨by unfold InR;omega,?_⟩,fun hq=> ⟨by unfold InR;omega,?_⟩⟩
     ·rw [show min z 1048576=1048576 by omega] at hn;exact hn
     ·rw [show min z 1048576=z by omega] at hn;exact hn
    refine Znx _ _ _ _ _ _ _ ?_;(try simp only [vcT,forall_eq])
    (simp only [vcS]);(try simp only [vcT])
    exact ⟨fun hq=> k4 _ (by omega),fun hq=> k4 _ (by omega)⟩
   refine Zny _ _ _ _ _ _ _ ?_;(try simp only [vcT,forall_eq])
   (simp only [vcS]);(try simp only [vcT])
   exact ⟨fun hq=> ⟨by unfold InR;omega,k3 _ (by rw [if_neg hq])⟩,fun hq=> k3 _ (by rw [if_pos hq])⟩
  refine Znz _ _ _ _ _ _ _ ?_;(try simp only [vcT,forall_eq])
  (simp only [vcS]);(try simp only [vcT])
  exact ⟨fun hq=> ⟨by unfold InR;omega,k2 _ (by rw [if_neg hq])⟩,fun hq=> k2 _ (by rw [if_pos hq])⟩
 exact ⟨⟨hi,hc⟩,by unfold InR;omega,fun hq=> k1 _ (by unfold Zt;rw [if_pos hq]),fun hq=> k1 _ (by unfold Zt;rw [if_neg hq])⟩
theorem c65:Contract Try.prog cfg 65 Z2p:=by
 refine ZqW ?_
 intro e _ hp
 simp only [Zdt] at hp
 have h1:=ZZ e
 refine ZuZ e _ ?_;(try simp only [vcT,forall_eq])
 refine Za (ι:=Int × Int × Int) (fun p=> Z1m e p.1 p.2.1 p.2.2) (fun p=> 0<=p.2.2/\p.2.2<=e.ops.length/\(0<=p.1/\p.1<=1048576)/\(0<=p.2.1/\p.2.1<=1048576)/\Jy (e.ops.drop p.2.2.toNat) p.1=Jy e.ops 0/\Jx (e.ops.drop p.2.2.toNat) p.2.1=Jx e.ops 0) (fun p=> ((e.ops.length:Int) - p.2.2).toNat) (0,0,0) rfl ⟨by dsimp only;omega,by dsimp only;omega,by dsimp only;omega,by dsimp only;omega,by simp,by simp⟩ ?_
 rintro ⟨x4,x5,i⟩ ⟨h2,h3,h4,h5,h6,h7⟩
 dsimp only at*
 have ho:∀ o∈e.ops,(0<=o.n/\o.n<=1048576)/\o.l.length<=20000000000:=by
  intro o hm
  refine ⟨hp.2 o hm,?_⟩
  have a1:=Yn hm
  have a2:=Zw o.l
  rw [Jn] at a1
  omega
 refine ZrD e x4 x5 i _ _ h4 h5 h2 (by omega) ho (fun hc=> ⟨(_,_,i+1),rfl,⟨by dsimp only;omega,by dsimp only;omega,?_,?_,?_,?_⟩,by dsimp only;omega⟩) (fun hc=> ?_)
 ·have hm:=ho _ (Zl (l:=e.ops) (i:=i.toNat) (by omega) Op.nil)
  dsimp only
  unfold Zt
  split <;> (try split) <;> omega
 ·have hm:=ho _ (Zl (l:=e.ops) (i:=i.toNat) (by omega) Op.nil)
  dsimp only
  unfold Zt
  split <;> (try split) <;> omega
 ·rw [Yr h2 hc Op.nil] at h6
  exact h6
 ·rw [Yr h2 hc Op.nil] at h7
  exact h7
 ·rw [Qb (by omega)] at h6 h7
  simp only [Jy,Jx] at h6 h7
  simp only [Zks,<-h6,<-h7]
  exact ⟨⟨rfl,⟨⟨rfl,rfl⟩,trivial⟩,rfl,⟨⟨rfl,rfl⟩,trivial⟩,trivial⟩,trivial⟩
theorem Zfr{l:List Kid}{d n:Int}(h:n < 0):J4 l d n=n:=by cases l <;> simp [J4,h]
theorem Zfq{l:List Op}{d n:Int}(h:n < 0):Jl l d n=n:=by cases l <;> simp [Jl,h]
theorem ZbM{l:List Tree}{d n:Int}(h:n < 0):Zo l d n=n:=by cases l <;> simp [Zo,h]
theorem Zio{e:Edit}(h:Z1F e):Z12 e.old/\Z12 e.new/\e.words.length<=17592186044416/\e.kids.length<=17592186044416/\e.ops.length<=17592186044416/\Z3W e.kids/\Z3V e.ops:=by
 obtain ⟨k,o,n,w,ks,l,os⟩:=e;exact h
theorem ZlW(e:Edit)(d n:Int):Jo e d n=if d=0\/n - 1 - e.words.length - e.ops.length < 0 then -1 else Jl e.ops (d - 1) (J4 e.kids (d - 1) (sh1 e.new (Zr e.old 80 (n - 1 - e.words.length - e.ops.length)))):=by
 obtain ⟨k,o,nw,w,ks,l,os⟩:=e;rfl
theorem c90:Contract Try.prog cfg 90 Z8S:=by
 refine ZqI c78 ?_
 rintro N e d n _ hp hN
 simp only [Z9t,ZdH] at hp hN
 obtain ⟨hs,hd0,hd1,hn0,hn1⟩:=hp
 obtain ⟨so,sn,lw,lk,lo,sk,sos⟩:=Zio hs
 have hme:=ZZ e
 have hres:=ZlW e d n
 refine ZuJ N e d n _ ?_;(try simp only [vcT,forall_eq])
 (simp only [vcS]);(try simp only [vcT])
 try (simp only [Tree.eta,Edit.eta,Tree.kind_mk,Tree.words_mk,Tree.kids_mk])
 refine ⟨by unfold InR;omega,by unfold InR;omega,by unfold InR;omega,fun hc=> Yz rfl (by rw [hres,if_pos hc]),fun hc=> ?_⟩
 rw [if_neg (by omega)] at hres
 have r1:=Yc e.old 80 (n - 1 - e.words.length - e.ops.length)
 have p68:∀ t m,Z12 t->-1<=m->m<=4611686018427387904->Z5M (t,80,m,()):=fun t m h1 h2 h3=> ⟨h1,by dsimp only;omega,by dsimp only;omega,h2,h3⟩
 have k0:∀ x,x=sh1 e.new (Zr e.old 80 (n - 1 - e.words.length - e.ops.length))->Zsh N e d n x (YA cfg Try.f90.ntmps Try.f90.results.toList (ZgE (e,d,n,())) []):=by
  intro x hx
  have rx:=Z6V e.new _ r1.1
  rw [<-hx] at rx hres
  refine Znk N e d n x _ ?_;(try simp only [vcT,forall_eq])
  refine Za (ι:=Int × Int) (fun p=> Z6d e d n p.1 p.2) (fun p=> 0<=p.2/\p.2<=e.kids.length/\-1<=p.1/\p.1<=4611686018427387904/\J4 (e.kids.drop p.2.toNat) (d - 1) p.1=J4 e.kids (d - 1) x) (fun p=> ((e.kids.length:Int) - p.2).toNat) (x,0) rfl ⟨by dsimp only;omega,by dsimp only;omega,by dsimp only;omega,by dsimp only;omega,by simp⟩ ?_
  rintro ⟨y,i⟩ ⟨h1,h2,h3,h4,h5⟩
  dsimp only at*
  refine Znj N e d n y i _ _ ?_;(try simp only [vcT,forall_eq])
  (simp only [vcS]);(try simp only [vcT])
  try (simp only [Tree.eta,Edit.eta,Tree.kind_mk,Tree.words_mk,Tree.kids_mk])
  refine ⟨fun hi=> ?_,fun hi=> ?_⟩
  ·have hmem:=Zl (l:=e.kids) (i:=i.toNat) (by omega) (KidOf.mk 0 Edit.nil)
   have hsm:=Z7A sk hmem
   have hmm:=J3 hmem
   rw [Yr h1 hi.1 (KidOf.mk 0 Edit.nil)] at h5
   simp only [J4] at h5
   rw [if_neg (by omega),ZiZ] at h5
   have rr:=Z0m (e.kids.getD i.toNat (KidOf.mk 0 Edit.nil)).e (d - 1) y
   exact ⟨⟨h1,hi.1⟩,by unfold InR;omega,⟨hsm,by dsimp only;omega,by dsimp only;omega,h3,h4⟩,by simp only [ZdH];omega,by unfold InR;omega,(_,i+1),rfl,⟨by dsimp only;omega,by dsimp only;omega,by dsimp only;omega,by dsimp only;omega,h5⟩,by dsimp only;omega⟩
  ·have hy:J4 e.kids (d - 1) x=y:=by
    rw [<-h5]
    by_cases hlt:i < e.kids.length
    ·exact Zfr (by omega)
    ·rw [Qb (by omega)];try rfl
   rw [hy] at hres
   refine Za (ι:=Int × Int) (fun p=> Z3F e d n p.1 p.2) (fun p=> 0<=p.2/\p.2<=e.ops.length/\-1<=p.1/\p.1<=4611686018427387904/\Jl (e.ops.drop p.2.toNat) (d - 1) p.1=Jl e.ops (d - 1) y) (fun p=> ((e.ops.length:Int) - p.2).toNat) (y,0) rfl ⟨by dsimp only;omega,by dsimp only;omega,h3,h4,by simp⟩ ?_
   rintro ⟨z,j⟩ ⟨h6,h7,h8,h9,h10⟩
   dsimp only at*
   refine Zni N e d n z j _ _ ?_;(try simp only [vcT,forall_eq])
   (simp only [vcS]);(try simp only [vcT])
   refine ⟨fun hj=> ?_,fun hj=> ?_⟩
   ·have hmem:=Zl (l:=e.ops) (i:=j.toNat) (by omega) Op.nil
    have hsm:=Z7z sos hmem
    have hmm:=Yn hmem
    rw [Jn] at hmm
    rw [Yr h6 hj.1 Op.nil] at h10
    simp only [Jl] at h10
    rw [if_neg (by omega),ZlV] at h10
    refine Za (ι:=Int × Int) (fun p=> Z6c e d n j p.1 p.2) (fun p=> 0<=p.2/\p.2<=(e.ops.getD j.toNat Op.nil).l.length/\-1<=p.1/\p.1<=4611686018427387904/\Zo ((e.ops.getD j.toNat Op.nil).l.drop p.2.toNat) 80 p.1=Zo (e.ops.getD j.toNat Op.nil).l 80 z) (fun p=> (((e.ops.getD j.toNat Op.nil).l.length:Int) - p.2).toNat) (z,0) rfl ⟨by dsimp only;omega,by dsimp only;omega,h8,h9,by simp⟩ ?_
    rintro ⟨u,k⟩ ⟨g1,g2,g3,g4,g5⟩
    dsimp only at*
    refine Znh N e d n j u k _ _ _ ?_;(try simp only [vcT,forall_eq])
    (simp only [vcS]);(try simp only [vcT])
    try (simp only [Tree.eta,Edit.eta,Tree.kind_mk,Tree.words_mk,Tree.kids_mk])
    refine ⟨⟨h6,hj.1⟩,fun hk=> ?_,fun hk=> ?_⟩
    ·have hmt:=Zl (l:=(e.ops.getD j.toNat Op.nil).l) (i:=k.toNat) (by omega) Tree.nil
     rw [Yr g1 hk.1 Tree.nil] at g5
     simp only [Zo] at g5
     rw [if_neg (by omega)] at g5
     have rr:=Yc ((e.ops.getD j.toNat Op.nil).l.getD k.toNat Tree.nil) 80 u
     exact ⟨⟨h6,hj.1⟩,⟨g1,hk.1⟩,p68 _ _ (Z9c hsm.2.1 hmt) g3 g4,by unfold InR;omega,(_,k+1),rfl,⟨by dsimp only;omega,by dsimp only;omega,by dsimp only;omega,by dsimp only;omega,g5⟩,by dsimp only;omega⟩
    ·have hu:Zo (e.ops.getD j.toNat Op.nil).l 80 z=u:=by
      rw [<-g5]
      by_cases hlt:k < (e.ops.getD j.toNat Op.nil).l.length
      ·exact ZbM (by omega)
      ·rw [Qb (by omega)];try rfl
     rw [hu] at h10
     have rr:=Z0m (e.ops.getD j.toNat Op.nil).e (d - 1) u
     refine ⟨fun hq=> ⟨⟨h6,hj.1⟩,by unfold InR;omega,⟨hsm.2.2,by dsimp only;omega,by dsimp only;omega,g3,g4⟩,by simp only [ZdH];omega,by unfold InR;omega,(_,j+1),rfl,⟨by dsimp only;omega,by dsimp only;omega,by dsimp only;omega,by dsimp only;omega,?_⟩,by dsimp only;omega⟩,
      fun hq=> ⟨by unfold InR;omega,(_,j+1),rfl,⟨by dsimp only;omega,by dsimp only;omega,by dsimp only;omega,by dsimp only;omega,?_⟩,by dsimp only;omega⟩⟩
     ·rw [if_neg (by omega)] at h10;exact h10
     ·rw [if_pos (by omega)] at h10;exact h10
   ·refine Yz rfl ?_
    rw [hres,<-h10]
    by_cases hlt:j < e.ops.length
    ·exact (Zfq (by omega)).symm
    ·rw [Qb (by omega)];try rfl
 refine ⟨p68 _ _ so (by omega) (by omega),fun hq=> ⟨p68 _ _ sn r1.1 (by omega),k0 _ ?_⟩,fun hq=> k0 _ ?_⟩
 ·unfold sh1;rw [if_neg (by omega)]
 ·unfold sh1;rw [if_pos (by omega)]
theorem c54:Contract Try.prog cfg 54 Z92:=by
 refine Zr0 c90 ?_
 intro e _ hp
 refine Zv5 e _ ?_;(try simp only [vcT,forall_eq])
 try (simp only [Tree.eta,Edit.eta,Tree.kind_mk,Tree.words_mk,Tree.kids_mk])
 exact ⟨⟨hp,by dsimp only;omega,by dsimp only;omega,by dsimp only;omega,by dsimp only;omega⟩,Z0 rfl rfl⟩
end Go.AM.Ytpjenobkibfpcaa
