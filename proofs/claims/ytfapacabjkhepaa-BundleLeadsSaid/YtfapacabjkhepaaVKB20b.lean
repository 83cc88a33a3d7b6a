import Derived.Test.YtfapacabjkhepaaVKL07
import Derived.Test.YtfapacabjkhepaaVKD20
set_option linter.unusedSimpArgs false
set_option linter.unusedVariables false
namespace Go.AM.Ytfapacabjkhepaa
open Go.AM Go.Proofs
theorem Z4{n k:Nat}{rs:List ResultVar}{b b':Bool}(hr:rs=[ResultVar.tmp k])(h:b=b'):Yv cfg n rs (.c (.bool b')) [] .ret (⟨[(k,.c (.bool b))],[],[]⟩:LSt U):=by
 subst hr h
 have hk:Nat.beq k k=true:=XP k
 simp [Yv,ZxF,ZeZ,ZeY,Z6P,Z9n,LSt.toF,ZdF,hk,ZcB,Z2V,J3,Z0h,leR,leL,leC,Znh]
theorem Ym{n k:Nat}{rs:List ResultVar}{K:IntKind}{b b':Int}(hr:rs=[ResultVar.tmp k])(h:b=b'):Yv cfg n rs (.c (.int K b')) [] .ret (⟨[(k,.c (.int K b))],[],[]⟩:LSt U):=by
 subst hr h
 have hk:Nat.beq k k=true:=XP k
 simp [Yv,ZxF,ZeZ,ZeY,Z6P,Z9n,LSt.toF,ZdF,hk,ZcB,Z2V,J3,Z0h,leR,leL,leC,Znh]
theorem c49:Contract Try.prog cfg 49 ZbQ:=by
 refine Zw4 ?_
 intro c _ _
 refine ZB1 _ _ ?_;(try simp only [iB,vcT,forall_eq])
 (simp only [iB,vcS]);(try simp only [iB,vcT])
 refine ⟨fun h=> Ym rfl ?_,fun h=> ⟨fun h=> Ym rfl ?_,fun h=> ⟨fun h=> Ym rfl ?_,fun h=> ⟨fun h=> Ym rfl ?_,fun h=> ⟨fun h=> Ym rfl ?_,fun h=> ⟨fun h=> Ym rfl ?_,fun h=> Ym rfl ?_⟩⟩⟩⟩⟩⟩ <;> simp only [wd] <;> simp [*]
theorem Zns(c:Int): -1<=wd c/\wd c<=64:=by
 unfold wd
 repeat' split
 all_goals omega
theorem Ziq(n:Int)(h0:0<=n)(h1:n < 18446744073709551616):IntKind.wrap .u64 (Int.tdiv n 2)=n / 2:=by
 rw [Xz h0]
 simp [IntKind.wrap,IntKind.signed,IntKind.bits]
 omega
theorem Zos{w:Nat}{n m:Int}(h:0<=n):(n / 2 < 2 ^ w)↔n < 2 ^ (w+1):=by
 have:(2:Int) ^ (w+1)=2 ^ w*2:=by rw [K6]
 omega
theorem c33:Contract Try.prog cfg 33 ZbX:=by
 refine Zwd c49 ?_
 intro c n _ hp
 simp only [Zld] at hp
 have hw:=Zns c
 refine ZBh _ _ _ ?_;(try simp only [iB,vcT,forall_eq])
 (simp only [iB,vcS]);(try simp only [iB,vcT])
 refine ⟨trivial,fun h=> Z4 rfl ?_,fun h=> ?_⟩
 .simp only [ZfV]
  simp
  omega
 .refine Zb (ι:=Int × Int) (fun p=> Z8n c n p.1 p.2) (fun p=> 0<=p.2/\p.2<=wd c/\0<=p.1/\p.1 < 18446744073709551616/\(n < 2 ^ (wd c).toNat↔p.1 < 2 ^ (wd c - p.2).toNat)) (fun p=> (wd c - p.2).toNat) (n,0) rfl ⟨V3,V3,V3,V3,by simp⟩ ?_
  rintro ⟨m,i⟩ ⟨h1,h2,h3,h4,h5⟩
  dsimp only at*
  refine Zs7 _ _ _ _ _ _ ?_;(try simp only [iB,vcT,forall_eq])
  (simp only [iB,vcS]);(try simp only [iB,vcT])
  refine ⟨fun hc=> ⟨V0,V4,(IntKind.wrap .u64 (Int.tdiv m 2),i+1),rfl,?_,V3⟩,fun hc=> Z4 rfl ?_⟩
  .rw [Ziq m h3 h4]
   refine ⟨V3,V3,V3,V3,?_⟩
   dsimp only
   rw [h5,show (wd c - i).toNat=(wd c - (i+1)).toNat+1 by omega]
   exact (Zos (m:=0) h3).symm
  .have e:(wd c - i).toNat=0:=V0
   rw [e] at h5
   simp only [ZfV]
   rw [Qk]
   simp
   omega
theorem c84:Contract Try.prog cfg 84 ZbH:=by
 refine ZvE ?_
 intro c _ _
 refine ZAt _ _ ?_;(try simp only [iB,vcT,forall_eq])
 (simp only [iB,vcS]);(try simp only [iB,vcT])
 have hw:=Zns c
 refine ⟨fun h=> ?_,fun h=> ⟨V0,?_⟩⟩
 .have e:wd c= -1:=by unfold wd;(repeat' split) <;> omega
  simp only [Zo0,e]
  exact ⟨⟨rfl,⟨⟨rfl,rfl⟩,trivial⟩,rfl,⟨rfl,trivial⟩,trivial⟩,trivial⟩
 .have hc:c=0\/c=1\/c=2\/c=3\/c=4\/c=5:=V0
  rcases hc with rfl | rfl | rfl | rfl | rfl | rfl <;> exact ⟨⟨rfl,⟨⟨rfl,rfl⟩,trivial⟩,rfl,⟨rfl,trivial⟩,trivial⟩,trivial⟩
theorem ZpX(n:Int)(w:Nat)(h:0<=n):(Int.fdiv n (2 ^ w)=0)↔n < 2 ^ w:=by
 have hp:(0:Int) < 2 ^ w:=XI V0
 rw [Int.fdiv_eq_ediv_of_nonneg _ V0]
 constructor
 .intro h1
  have:=Int.lt_ediv_add_one_mul_self n hp
  rw [h1] at this
  simpa using this
 .intro h1
  exact Int.ediv_eq_zero_of_lt h h1
theorem c72:Contract Try.prog cfg 72 ZbX:=by
 refine ZvM c84 ?_
 intro c n _ hp
 simp only [Zld] at hp
 have hw:=Zns c
 refine ZAE _ _ _ ?_;(try simp only [iB,vcT,forall_eq])
 refine ⟨trivial,fun h=> by split <;> omega,fun a b=> by simp only [a,b];rfl,Z4 rfl ?_⟩
 simp only [ZfV]
 by_cases h0:0<=wd c
 .rw [JI]
  simp only [h0,decide_true,cond_true,true_and]
  by_cases h64:wd c=64
  .simp [h64]
   omega
  .have:((wd c)==64)=false:=by simpa using h64
   rw [this,cond_false,Qk]
   have hm:min (wd c).toNat (IntKind.bits .u64)=(wd c).toNat:=by
    show min (wd c).toNat 64=_
    omega
   rw [hm]
   simp only [beq_iff_eq,decide_eq_true_eq]
   exact ZpX n _ hp.1
 .simp [h0]
theorem c52:Contract Try.prog cfg 52 Z2T:=by
 refine Zw1 ?_
 intro c _ _
 refine ZAY _ _ ?_;(try simp only [iB,vcT,forall_eq])
 refine Z4 rfl ?_
 rw [Qk]
 (simp only [iB,vcS])
theorem c71:Contract Try.prog cfg 71 Z4Q:=by
 refine ZvN ?_
 intro c _ _
 refine ZAF _ _ ?_;(try simp only [iB,vcT,forall_eq])
 refine Z4 rfl ?_
 rw [Qk]
 (simp only [iB,vcS])
theorem ZgH{t:Tree}(h:rng t){i:Nat}(hi:i < t.words.length):0<=t.words.getD i 0/\t.words.getD i 0 < 18446744073709551616:=by
 obtain ⟨k,w,ks⟩:=t
 simp only [rng] at h
 simp only [Tree.words_mk] at*
 have hg:w.getD i 0∈w:=by
  simp only [List.getD,Q2 hi,QW]
  exact Xx hi
 exact h.2.1 _ hg
theorem c53:Contract Try.prog cfg 53 ZbP:=by
 refine Zw0 c71 c72 ?_
 intro l t _ hp
 simp only [Zlc] at hp
 refine ZAX _ _ _ ?_;(try simp only [iB,vcT,forall_eq])
 (simp only [iB,vcS]);(try simp only [iB,vcT])
 refine ⟨trivial,fun hd=> ⟨fun _=> by unfold InR;omega,fun h=> by omega,fun h=> ZgH hp V0,Z4 rfl ?_⟩,fun hd=> ⟨fun h=> Z4 rfl ?_,fun h=> Z4 rfl ?_⟩⟩
 .simp only [Z0r,if_pos hd,Int.toNat_zero]
  rw [Qk]
  (simp only [iB,vcS])
  constructor <;> (rintro ⟨h1,h2⟩;exact ⟨V0,h2⟩)
 .simp only [Z0r,if_neg hd,if_pos h]
  rw [Qk]
  (simp only [iB,vcS])
 .simp only [Z0r,if_neg hd,if_neg h]
  rw [Qk]
  (simp only [iB,vcS])
theorem Zah{l:Int}{ks:List Tree}{i:Int}{d:Int}(h0:0<=i)(h:i < ks.length):
  Ya l (ks.drop i.toNat) d=((Z0r l (ks.getD i.toNat Tree.nil) && Z9 (ks.getD i.toNat Tree.nil) d) && Ya l (ks.drop (i+1).toNat) d):=by
 have e:(i+1).toNat=i.toNat+1:=V0
 rw [QL V0,e]
 simp only [Ya,List.getD,Q2 (show i.toNat < ks.length by omega),QW]
theorem Zcg:∀ {ks:List Tree} {i:Nat},Yg ks->i < ks.length->rng (ks.getD i Tree.nil)
 | t ::_,0,h,_=> by simp only [Yg] at h;exact h.1
 | _ ::r,i+1,h,hi=> by simp only [Yg] at h;exact Zcg (ks:=r) (i:=i) h.2 (by simpa using hi)
theorem ZhS(t:Tree):Z0r 1 t=decide (t.kind≠10):=by simp [Z0r]
theorem c38:Contract Try.prog cfg 38 ZbV:=by
 refine Zwa c52 c53 ?_
 rintro N ⟨k,ws,ks⟩ d _ hp hN
 simp only [Zar,Zhy,Zn,rng] at hp hN
 have key:∀ b,d≠0->Z9 (.mk k ws ks) d=(b && Ya k ks (d - 1))->b=true->
   Zi (awp cfg (Z2 (Z78 N)) (ZV cfg (Z2 (Z78 N))) Try.f38.ntmps ZmI (cd Try.f38 [1,1,0,1,0,0])) (Z3M (.mk k ws ks) d 0) (AExit.inBlock 1 (Zcb cfg (Z2 (Z78 N)) (ZV cfg (Z2 (Z78 N))) Try.f38.ntmps ZmI (cd Try.f38 [1,1,1]) (Yv cfg Try.f38.ntmps Try.f38.results.toList (ZkU (.mk k ws ks,d,())) []))):=by
  intro b hd0 hb hbt
  subst hbt
  rw [QH] at hb
  refine Zb (ι:=Int) (fun p=> Z3M (.mk k ws ks) d p) (fun p=> 0<=p/\p<=ks.length/\Z9 (.mk k ws ks) d=Ya k (ks.drop p.toNat) (d - 1)) (fun p=> ((ks.length:Int) - p).toNat) 0 rfl ⟨V0,V0,by simpa using hb⟩ ?_
  rintro i ⟨h1,h2,h3⟩
  refine Zs2 N _ _ _ _ _ ?_;(try simp only [iB,vcT,forall_eq])
  (simp only [iB,vcS]);(try simp only [iB,vcT])
  try (simp only [Tree.eta,Edit.eta,Tree.kind_mk,Tree.words_mk,Tree.kids_mk])
  refine ⟨fun hi=> ⟨⟨V0,hi⟩,?_⟩,fun hi=> ?_⟩
  .have hd:=Zah (l:=k) (d:=d - 1) h1 hi
   have hm:=Z0a (ks:=ks) (i:=i.toNat) V0
   have hr:=Zcg (i:=i.toNat) hp.2.1.2.2 V0
   rw [hd] at h3
   have hlen:=Zw ks
   generalize ks.getD i.toNat Tree.nil=y at*
   have hpre:Zar (y,d - 1,()):=⟨V3,hr,V3,V3⟩
   have hmu:Zhy (y,d - 1,()) < N:=by simp only [Zhy];omega
   have hin:InR (d - 1):=V4
   refine ⟨fun hk=> ⟨hr,fun _=> hin,fun _=> hpre,fun _=> hmu,fun hc=> Z4 rfl ?_,fun hc=> ⟨V4,i+1,rfl,⟨V0,V0,?_⟩,V0⟩⟩,fun hk=> ⟨fun _=> hin,fun _=> hpre,fun _=> hmu,fun hc=> Z4 rfl ?_,fun hc=> ⟨V4,i+1,rfl,⟨V0,V0,?_⟩,V0⟩⟩⟩
   .rw [h3]
    rcases hc with hc | hc <;> simp [hc]
   .rw [h3,hc.1,hc.2];try rfl
   .subst hk
    rw [h3,ZhS]
    rcases hc with hc | hc <;> simp [hc]
   .subst hk
    rw [h3,ZhS,hc.2]
    simp [hc.1]
  .rw [QB V0] at h3
   simp only [Ya] at h3
   exact Z4 rfl h3.symm
 refine ZBc N _ _ _ ?_;(try simp only [iB,vcT,forall_eq])
 (simp only [iB,vcS]);(try simp only [iB,vcT])
 try (simp only [Tree.eta,Edit.eta,Tree.kind_mk,Tree.words_mk,Tree.kids_mk])
 have hk0:∀ h0:k=0,Z9 (.mk k ws ks) d=decide (ws.length=0/\ks.length=0):=fun h0=> by simp only [Z9,if_pos h0]
 have hk10:∀ (_:¬k=0) (h10:k=10),Z9 (.mk k ws ks) d=decide (ws.length=1/\ks.length=0):=fun h0 h10=> by simp only [Z9,if_neg h0,if_pos h10]
 refine ⟨fun h0=> Z4 rfl ?_,fun h0=> ⟨fun h10=> Z4 rfl ?_,fun h10=> ⟨fun hd=> Z4 rfl ?_,fun hd=> ⟨fun h1=> ⟨fun hc=> Z4 rfl ?_,fun hc=> key true hd ?_ rfl⟩,fun h1=> ⟨trivial,fun hc=> Z4 rfl ?_,fun hc=> key true hd ?_ rfl⟩⟩⟩⟩⟩
 .rw [hk0 h0,Qk];(simp only [iB,vcS]);omega
 .rw [hk10 h0 h10,Qk];(simp only [iB,vcS]);omega
 .simp only [Z9,if_neg h0,if_neg h10,if_pos hd]
 .simp only [Z9,if_neg h0,if_neg h10,if_neg hd,if_pos h1]
  rw [decide_eq_false V0];try rfl
 .simp only [Z9,if_neg h0,if_neg h10,if_neg hd,if_pos h1]
  rw [decide_eq_true V0,h1]
 .simp only [Z9,if_neg h0,if_neg h10,if_neg hd,if_neg h1]
  rw [decide_eq_false V0];try rfl
 .simp only [Z9,if_neg h0,if_neg h10,if_neg hd,if_neg h1]
  rw [decide_eq_true V0]
theorem c20:Contract Try.prog cfg 20 Z1Z:=by
 refine Zwo c38 ?_
 intro t _ hp
 refine ZBu _ _ ?_;(try simp only [iB,vcT,forall_eq])
 try (simp only [Tree.eta,Edit.eta,Tree.kind_mk,Tree.words_mk,Tree.kids_mk])
 exact ⟨⟨hp.1,hp.2,V3,V3⟩,Z4 rfl rfl⟩
theorem ZgO{y:Tree}{d:Int}(h:Z9 y d=true)(hk:y.kind=10):y.words.length=1/\y.kids.length=0:=by
 obtain ⟨k,w,ks⟩:=y
 simp only [Tree.kind_mk] at hk
 subst hk
 simpa [Z9] using h
theorem c17:Contract Try.prog cfg 17 ZbV:=by
 refine Zwq c33 ?_
 rintro N ⟨k,ws,ks⟩ d _ hp hN
 simp only [Zar,Zhy,Zn,rng] at hp hN
 refine ZBx N _ _ _ ?_;(try simp only [iB,vcT,forall_eq])
 (simp only [iB,vcS]);(try simp only [iB,vcT])
 try (simp only [Tree.eta,Edit.eta,Tree.kind_mk,Tree.words_mk,Tree.kids_mk])
 refine ⟨fun h0=> Z4 rfl ?_,fun h0=> ⟨fun h10=> Z4 rfl ?_,fun h10=> ⟨fun a b=> ⟨a,b⟩,fun hc=> Z4 rfl ?_,fun hc=> ⟨fun hw=> Z4 rfl ?_,fun hw=> ?_⟩⟩⟩⟩
 .simp only [Z9,if_pos h0]
  rw [Qk];(simp only [iB,vcS]);omega
 .simp only [Z9,if_neg h0,if_pos h10]
  rw [Qk];(simp only [iB,vcS]);omega
 .simp only [Z9,if_neg h0,if_neg h10]
  split
  .try rfl
  .split
   .rw [decide_eq_false V0];try rfl
   .have:¬(2<=k/\k<=9/\ws.length=0/\ks.length < 1048576):=V0
    rw [decide_eq_false this];try rfl
 .simp only [Z9,if_neg h0,if_neg h10]
  rw [JI,JI]
  have:¬(2<=k/\k<=9/\ws.length=0/\ks.length < 1048576):=V0
  rw [decide_eq_false this];try rfl
 .have hb:Z9 (.mk k ws ks) d=Ya k ks (d - 1):=by
   simp only [Z9,if_neg h0,if_neg h10]
   rw [JI]
   split
   .rename_i h1
    rw [decide_eq_true V0,h1];try rfl
   .have:2<=k/\k<=9/\ws.length=0/\ks.length < 1048576:=V0
    rw [decide_eq_true this];try rfl
  refine Zb (ι:=Int) (fun p=> Z8C (.mk k ws ks) d p) (fun p=> 0<=p/\p<=ks.length/\Z9 (.mk k ws ks) d=Ya k (ks.drop p.toNat) (d - 1)) (fun p=> ((ks.length:Int) - p).toNat) 0 rfl ⟨V0,V0,by simpa using hb⟩ ?_
  rintro i ⟨h1,h2,h3⟩
  refine Zsp N _ _ _ _ _ ?_;(try simp only [iB,vcT,forall_eq])
  (simp only [iB,vcS]);(try simp only [iB,vcT])
  try (simp only [Tree.eta,Edit.eta,Tree.kind_mk,Tree.words_mk,Tree.kids_mk])
  refine ⟨fun hi=> ?_,fun hi=> ?_⟩
  .have hd:=Zah (l:=k) (d:=d - 1) h1 hi
   have hm:=Z0a (ks:=ks) (i:=i.toNat) V0
   have hr:=Zcg (i:=i.toNat) hp.2.1.2.2 V0
   rw [hd] at h3
   have hlen:=Zw ks
   generalize ks.getD i.toNat Tree.nil=y at*
   have hpre:Zar (y,d - 1,()):=⟨V3,hr,V3,V3⟩
   have hmu:Zhy (y,d - 1,()) < N:=by simp only [Zhy];omega
   have hin:InR (d - 1):=V4
   refine ⟨⟨h1,hi⟩,hin,hpre,hmu,fun hf=> Z4 rfl ?_,fun hf=> ?_⟩
   .rw [h3,hf];simp
   .have hdata:((bif decide (2<=k) then decide (k<=7) else false)=(y.kind==10))↔((2<=k/\k<=7)↔y.kind=10):=by
     rw [Qk];(simp only [iB,vcS])
    have hat:=ZgO hf
    have hkb:Z0r k y=true↔(((2<=k/\k<=7)↔y.kind=10)/\(¬k=9\/y.kind=1))/\((¬2<=k\/¬k<=7)\/ZfV (k - 2) (y.words.getD 0 0)=true):=by
     unfold Z0r
     by_cases hk:2<=k/\k<=7
     .rw [if_pos hk]
      (simp only [iB,vcS])
      constructor
      .rintro ⟨h4,h5⟩;exact ⟨⟨V0,V0⟩,.inr h5⟩
      .rintro ⟨⟨h4,_⟩,h5⟩
       have:=hat V0
       exact ⟨V0,by rcases h5 with h5 | h5;omega;exact h5⟩
     .rw [if_neg hk]
      by_cases h9:k=9
      .rw [if_pos h9]
       (simp only [iB,vcS])
       constructor
       .intro h4;exact ⟨⟨V0,V0⟩,.inl V0⟩
       .rintro ⟨⟨_,h4⟩,_⟩;omega
      .rw [if_neg h9]
       (simp only [iB,vcS])
       constructor
       .intro h4;exact ⟨⟨V0,V0⟩,.inl V0⟩
       .rintro ⟨⟨h4,_⟩,_⟩;omega
    have hone:∀ (h4:(((bif decide (2<=k) then decide (k<=7) else false)=(y.kind==10)/\(¬k=9\/y.kind=1))/\2<=k/\k<=7)),y.words.length=1:=fun h4=> (hat ((hdata.1 h4.1.1).1 h4.2)).1
    simp only [Int.toNat_zero]
    refine ⟨fun a b=> ⟨a,b⟩,fun h4=> by unfold InR;omega,fun h4=> by have:=hone h4;omega,fun h4=> ZgH hr (by have:=hone h4;omega),fun a b=> ⟨a,b⟩,fun h4=> Z4 rfl ?_,fun h4=> ⟨V4,i+1,rfl,⟨V0,V0,?_⟩,V0⟩⟩
    .have hno:Z0r k y=false:=by
      cases hkk:Z0r k y with
      | false=> rfl
      | true=>
       exfalso
       obtain ⟨h5,h6⟩:=hkb.1 hkk
       rcases h4 with h4 | ⟨h4,h7⟩
       .rcases h4 with h4 | h4
        .exact h4 (hdata.2 h5.1)
        .omega
       .rcases h6 with h6 | h6
        .omega
        .rw [h7] at h6;cases h6
     rw [h3,hno];try rfl
    .rw [h3,hkb.2 ⟨⟨hdata.1 h4.1.1,h4.1.2⟩,h4.2⟩,hf];try rfl
  .rw [QB V0] at h3
   simp only [Ya] at h3
   exact Z4 rfl h3.symm
noncomputable section
def Zqz:ArgL (Int × Unit):=(.cons (Yu .u64) .nil)
def Zh7(a:Int × Unit):Prop:=0<=a.1/\a.1 < 18446744073709551616
def Zo2(a:Int × Unit):V U:= .agg [.int .u8 (Zg a.1 0),.int .u8 (Zg a.1 1),.int .u8 (Zg a.1 2),.int .u8 (Zg a.1 3),.int .u8 (Zg a.1 4),.int .u8 (Zg a.1 5),.int .u8 (Zg a.1 6),.int .u8 (Zg a.1 7)]
def ZbN:Fs U:=fs Zqz (fun a=> [Zh7 a]) Zo2
def Zqy:ArgL (Int × Int × Unit):=(.cons (Yu .u8) (.cons (Yu .i64) .nil))
def Zlb(a:Int × Int × Unit):Prop:=(0<=a.1/\a.1 < 256)/\0<=a.2.1/\a.2.1<=8
def Zu5(a:Int × Int × Unit):V U:= .c (.bool (YT a.1 a.2.1))
def ZbM:Fs U:=fs Zqy (fun a=> [Zlb a]) Zu5
def Zqx:ArgL (List Int × Int × Unit):=(.cons (aSl .u8) (.cons (Yu .i64) .nil))
def Zop(a:List Int × Int × Unit):Prop:=a.2.1=0/\a.1.length=8/\∀ x∈a.1,0<=x/\x < 256
def Zu4(a:List Int × Int × Unit):V U:= .c (.int .u64 (of8 (fun i=> a.1.getD i 0)))
def ZbL:Fs U:=fs Zqx (fun a=> [Zop a]) Zu4
def ZqP:ArgL (Int × Int × Int × Unit):=(.cons (Yu .u64) (.cons (Yu .u64) (.cons (Yu .u8) .nil)))
def Zaq(a:Int × Int × Int × Unit):Prop:=(0<=a.1/\a.1 < 18446744073709551616)/\(0<=a.2.1/\a.2.1 < 18446744073709551616)/\(0<=a.2.2.1/\a.2.2.1 < 256)
def Zug(a:Int × Int × Int × Unit):V U:= .c (.int .u64 (mix a.1 a.2.1 a.2.2.1))
def Z49:Fs U:=fs ZqP (fun a=> [Zaq a]) Zug
def Z5c(a:Tree × Unit):Prop:=Zn a.1<=20000000000
def Zul(a:Tree × Unit):V U:= .c (.bool (ZR a.1))
def Z4b:Fs U:=fs Zr5 (fun a=> [Z5c a]) Zul
def ZqW:ArgL (Int × Int × Unit):=(.cons (Yu .u64) (.cons (Yu .u8) .nil))
def Zle(a:Int × Int × Unit):Prop:=(0<=a.1/\a.1 < 18446744073709551616)/\(0<=a.2.1/\a.2.1 < 256)
def Zuk(a:Int × Int × Unit):V U:= .c (.bool (ZM a.1 a.2.1))
def Z9g:Fs U:=fs ZqW (fun a=> [Zle a]) Zuk
def ZqO:ArgL (Edit × Unit):=(.cons (aEl .edit) .nil)
def Zcu(a:Edit × Unit):Prop:=Zd a.1<=20000000000
def Zuf(a:Edit × Unit):V U:= .c (.bool (Z11 a.1))
def Z9e:Fs U:=fs ZqO (fun a=> [Zcu a]) Zuf
def Zhg(a:Edit × Unit):Prop:=Zd a.1<=20000000000/\∀ o∈Edit.ops a.1,0<=o.n/\o.n<=1048576
def Zo5(a:Edit × Unit):V U:= .tup [(false,[ci (Z0m a.1.ops 0)]),(false,[ci (Z0l a.1.ops 0)])]
def Z4a:Fs U:=fs ZqO (fun a=> [Zhg a]) Zo5
def Zkb:ArgL (Edit × Int × Int × Unit):=(.cons (aEl .edit) (.cons (Yu .i64) (.cons (Yu .i64) .nil)))
def Zcw(a:Edit × Int × Int × Unit):Prop:=Z1z a.1/\0<=a.2.1/\a.2.1<=4611686018427387904/\-1<=a.2.2.1/\a.2.2.1<=4611686018427387904
def ZhB(a:Edit × Int × Int × Unit):Nat:=Zd a.1
def ZkW(a:Edit × Int × Int × Unit):V U:= .c (ci (Z0q a.1 a.2.1 a.2.2.1))
def ZbY:Fs U:=fs Zkb (fun a=> [Zcw a]) ZkW
def Zlg(a:Edit × Unit):Prop:=Z1z a.1
def Zuo(a:Edit × Unit):V U:= .c (.bool (decide (0<=Z0q a.1 80 3000)))
def Z4U:Fs U:=fs ZqO (fun a=> [Zlg a]) Zuo
def Zt0:Ze U:=lvl [([0,2],[2]),([0,2,3],[2,3]),([0,2,3,4],[2,3]),([0,2,3,4,7],[2,3]),([0,2,3,4],[2,3]),([0,2,3,4],[2,3]),([0,2,3,4],[2,3]),([2],[2])]
def Z5y(w x0 x4 ml3_0 ml3_1 ml3_2 ml3_3 ml3_4 ml3_5 ml3_6 ml3_7:Int):LSt U:=(L2 [(0,.c (.int .u64 x0)),pL 2,pL 3,pI 4 x4] [(.loc 2,zc0),(.loc 3,[.int .u8 ml3_0,.int .u8 ml3_1,.int .u8 ml3_2,.int .u8 ml3_3,.int .u8 ml3_4,.int .u8 ml3_5,.int .u8 ml3_6,.int .u8 ml3_7])])
abbrev A68(p:List Nat):=AW (Z2 ZjE) Try.f68 Zt0 p
abbrev S68(p:List Nat):=SW (Z2 ZjE) Try.f68 Zt0 p
theorem ZAI(w:Int)(Q:QT)(h:(Zi (A68 [1,1,0,1,0,0]) (Z5y w w 0 0 0 0 0 0 0 0 0) (xB 0 (S68 [1,1,1] Q)))):
  A68 [] (L2 [(0,.c (.int .u64 w))] []) Q:=
 Eq.mpr V5 h
theorem ZrI(w x0 x4 ml3_0 ml3_1 ml3_2 ml3_3 ml3_4 ml3_5 ml3_6 ml3_7:Int)(N0:NT)(Q:QT)(h:let z0:=IntKind.wrap .u8 (Int.tmod x0 256);(iB (decide (x4 < 8)) (((256:Int)≠0)/\((0:Int)<=x4/\x4 < ((8:Nat):Int))/\(((256:Int)≠0)/\((InR (x4+1))/\(N0 (Z5y w (IntKind.wrap .u64 (Int.tdiv x0 256)) (x4+1) (Z1v x4 0 z0 ml3_0) (Z1v x4 1 z0 ml3_1) (Z1v x4 2 z0 ml3_2) (Z1v x4 3 z0 ml3_3) (Z1v x4 4 z0 ml3_4) (Z1v x4 5 z0 ml3_5) (Z1v x4 6 z0 ml3_6) (Z1v x4 7 z0 ml3_7)))))) ((Q .ret (L2 [pL 2] [(.loc 2,[.int .u8 ml3_0,.int .u8 ml3_1,.int .u8 ml3_2,.int .u8 ml3_3,.int .u8 ml3_4,.int .u8 ml3_5,.int .u8 ml3_6,.int .u8 ml3_7])]))))):
  A68 [1,1,0,1,0,0] (Z5y w x0 x4 ml3_0 ml3_1 ml3_2 ml3_3 ml3_4 ml3_5 ml3_6 ml3_7) (xT N0 (xB 0 (S68 [1,1,1] Q))):=
 Eq.mpr V5 h
def Zya(w:Int):Prop:=AW (Z2 ZjE) Try.f68 Zt0 [] (Zj (Zqz.can (w,())) []) (EQ Try.f68 (Zo2 (w,())) [])
theorem ZvQ(hb:∀ (w:Int) (_:Unit),Zh7 (w,())->Zya w):CT 68 ZbN:=
 Z3 (l:=[]) Zk rfl trivial Zt0 Try.func68 rfl rfl 1 (fun _=> rfl) V2 (fun ⟨w,_⟩=> hb w ())
def ZsZ:Ze U:=lvl [([0,1],[]),([0,1,5],[]),([0,1,5,8],[]),([0,1,5],[]),([0,1,5],[]),([4],[])]
def Z8d(m i x0 x5:Int):LSt U:=(L2 [(0,.c (.int .u8 x0)),pI 1 i,pI 5 x5] [])
abbrev A69(p:List Nat):=AW (Z2 ZjE) Try.f69 ZsZ p
abbrev S69(p:List Nat):=SW (Z2 ZjE) Try.f69 ZsZ p
theorem ZAH(m i:Int)(Q:QT)(h:(Zi (A69 [1,0,1,0,0]) (Z8d m i m 0) (xB 0 (S69 [1,1] Q)))):
  A69 [] (L2 [(0,.c (.int .u8 m)),pI 1 i] []) Q:=
 Eq.mpr V5 h
theorem ZrH(m i x0 x5:Int)(N0:NT)(Q:QT)(h:(iB (decide (x5 < i)) (((2:Int)≠0)/\((InR (x5+1))/\(N0 (Z8d m i (IntKind.wrap .u8 (Int.tdiv x0 2)) (x5+1))))) (((2:Int)≠0)/\(Q .ret (L2 [pB 4 (((Int.tmod x0 2):Int)==1)] []))))):
  A69 [1,0,1,0,0] (Z8d m i x0 x5) (xT N0 (xB 0 (S69 [1,1] Q))):=
 Eq.mpr V5 h
def Zy9(m i:Int):Prop:=AW (Z2 ZjE) Try.f69 ZsZ [] (Zj (Zqy.can (m,i,())) []) (EQ Try.f69 (Zu5 (m,i,())) [])
theorem ZvP(hb:∀ (m:Int) (i:Int) (_:Unit),Zlb (m,i,())->Zy9 m i):CT 69 ZbM:=
 Z3 (l:=[]) Zk rfl trivial ZsZ Try.func69 rfl rfl 2 (fun _=> rfl) V2 (fun ⟨m,i,_⟩=> hb m i ())
def ZsY:Ze U:=lvl [([0,1],[]),([0,1,5],[]),([0,1,5,6],[]),([0,1,5,6,8],[]),([0,1,5,6],[]),([0,1,5,6],[]),([4],[])]
def Z8c(b:List Int)(from_ x5 x6:Int):LSt U:=(L2 [(0,.c (sU .u8 b .unk)),pI 1 from_,(5,.c (.int .u64 x5)),pI 6 x6] [])
abbrev A70(p:List Nat):=AW (Z2 ZjE) Try.f70 ZsY p
abbrev S70(p:List Nat):=SW (Z2 ZjE) Try.f70 ZsY p
theorem ZAG(b:List Int)(from_:Int)(Q:QT)(h:(Zi (A70 [1,1,0,1,0,0]) (Z8c b from_ 0 7) (xB 0 (S70 [1,1,1] Q)))):
  A70 [] (L2 [(0,.c (sU .u8 b .unk)),pI 1 from_] []) Q:=
 Eq.mpr V5 h
theorem ZrG(b:List Int)(from_ x5 x6:Int)(N0:NT)(Q:QT)(h:(iB (decide ((0:Int)<=x6)) ((InR (from_+x6))/\((0:Int)<=(from_+x6)/\(from_+x6) < (b.length:Int))/\((InR (x6 - 1))/\(N0 (Z8c b from_ (IntKind.wrap .u64 (((IntKind.wrap .u64 (x5*256)):Int)+(IntKind.wrap .u64 (List.getD b (Int.toNat (from_+x6)) (0:Int))))) (x6 - 1))))) ((Q .ret (L2 [(4,.c (.int .u64 x5))] []))))):
  A70 [1,1,0,1,0,0] (Z8c b from_ x5 x6) (xT N0 (xB 0 (S70 [1,1,1] Q))):=
 Eq.mpr V5 h
def Zy8(b:List Int)(from_:Int):Prop:=AW (Z2 ZjE) Try.f70 ZsY [] (Zj (Zqx.can (b,from_,())) []) (EQ Try.f70 (Zu4 (b,from_,())) [])
theorem ZvO(hb:∀ (b:List Int) (from_:Int) (_:Unit),Zop (b,from_,())->Zy8 b from_):CT 70 ZbL:=
 Z3 (l:=[]) Zk rfl trivial ZsY Try.func70 rfl rfl 2 (fun _=> rfl) V2 (fun ⟨b,from_,_⟩=> hb b from_ ())
def Zjt:List (FuncId × Fs U):=[(68,ZbN),(69,ZbM),(70,ZbL)]
def Zt2:Ze U:=lvl [([0,1,2],[]),([2,7,8],[7,8]),([2,7,8,9],[7,8]),([2,7,8,9,15],[7,8]),([2,7,8,9],[7,8]),([2,7,8,9,20],[7,8]),([2,7,8,9],[7,8]),([6],[])]
def Z3G(a b m x9 ml7_0 ml7_1 ml7_2 ml7_3 ml7_4 ml7_5 ml7_6 ml7_7:Int):LSt U:=(L2 [(2,.c (.int .u8 m)),pL 7,pL 8,pI 9 x9] [(.loc 7,[.int .u8 ml7_0,.int .u8 ml7_1,.int .u8 ml7_2,.int .u8 ml7_3,.int .u8 ml7_4,.int .u8 ml7_5,.int .u8 ml7_6,.int .u8 ml7_7]),(.loc 8,[.int .u8 (Zg b 0),.int .u8 (Zg b 1),.int .u8 (Zg b 2),.int .u8 (Zg b 3),.int .u8 (Zg b 4),.int .u8 (Zg b 5),.int .u8 (Zg b 6),.int .u8 (Zg b 7)])])
abbrev A47(p:List Nat):=AW (Z2 Zjt) Try.f47 Zt2 p
abbrev S47(p:List Nat):=SW (Z2 Zjt) Try.f47 Zt2 p
theorem ZB3(a b m:Int)(Q:QT)(h:((Zh7 (a,()))/\(Zh7 (b,()))/\(Zi (A47 [1,1,0,1,0,0]) (Z3G a b m 0 (Zg a 0) (Zg a 1) (Zg a 2) (Zg a 3) (Zg a 4) (Zg a 5) (Zg a 6) (Zg a 7)) (xB 0 (S47 [1,1,1] Q))))):
  A47 [] (L2 [(0,.c (.int .u64 a)),(1,.c (.int .u64 b)),(2,.c (.int .u8 m))] []) Q:=
 Eq.mpr V5 h
theorem ZrP(a b m x9 ml7_0 ml7_1 ml7_2 ml7_3 ml7_4 ml7_5 ml7_6 ml7_7:Int)(N0:NT)(Q:QT)(h:let z0:=List.getD [Zg b 0,Zg b 1,Zg b 2,Zg b 3,Zg b 4,Zg b 5,Zg b 6,Zg b 7] x9.toNat 0;(iB (decide (x9 < 8)) ((Zlb (m,x9,()))/\(iB (YT m x9) (((0:Int)<=x9/\x9 < ((8:Nat):Int))/\((0:Int)<=x9/\x9 < ((8:Nat):Int))/\((InR (x9+1))/\(N0 (Z3G a b m (x9+1) (Z1v x9 0 z0 ml7_0) (Z1v x9 1 z0 ml7_1) (Z1v x9 2 z0 ml7_2) (Z1v x9 3 z0 ml7_3) (Z1v x9 4 z0 ml7_4) (Z1v x9 5 z0 ml7_5) (Z1v x9 6 z0 ml7_6) (Z1v x9 7 z0 ml7_7))))) ((InR (x9+1))/\(N0 (Z3G a b m (x9+1) ml7_0 ml7_1 ml7_2 ml7_3 ml7_4 ml7_5 ml7_6 ml7_7))))) ((Zop (([ml7_0,ml7_1,ml7_2,ml7_3,ml7_4,ml7_5,ml7_6,ml7_7]),0,()))/\(Q .ret (L2 [(6,.c (.int .u64 (of8 (fun i=> ([ml7_0,ml7_1,ml7_2,ml7_3,ml7_4,ml7_5,ml7_6,ml7_7]).getD i 0))))] []))))):
  A47 [1,1,0,1,0,0] (Z3G a b m x9 ml7_0 ml7_1 ml7_2 ml7_3 ml7_4 ml7_5 ml7_6 ml7_7) (xT N0 (xB 0 (S47 [1,1,1] Q))):=
 Eq.mpr V5 h
def Zyv(a b m:Int):Prop:=AW (Z2 Zjt) Try.f47 Zt2 [] (Zj (ZqP.can (a,b,m,())) []) (EQ Try.f47 (Zug (a,b,m,())) [])
theorem Zw6(c68:CT 68 ZbN)(c69:CT 69 ZbM)(c70:CT 70 ZbL)(hb:∀ (a:Int) (b:Int) (m:Int) (_:Unit),Zaq (a,b,m,())->Zyv a b m):CT 47 Z49:=
 Z3 (l:=[(68,ZbN),(69,ZbM),(70,ZbL)]) Zk rfl (⟨c68,c69,c70,trivial⟩) Zt2 Try.func47 rfl rfl 3 (fun _=> rfl) V2 (fun ⟨a,b,m,_⟩=> hb a b m ())
abbrev A29(p:List Nat):=AW (Z2 ZjE) Try.f29 Zxi p
theorem ZBl(t:Tree)(Q:QT)(h:((Tt (t.kind==0))/\(Tt (t.kind==0))/\(Tt (t.kind==0))/\(Tt (t.kind==0))/\(Tt (t.kind==0))/\(Tt (t.kind==0))/\((t.kind==0)=true->InR (((t.words.length:Int):Int)+(t.kids.length:Int)))/\(Tt (t.kind==0))/\(Tt (t.kind==0))/\(Q .ret (L2 [(2,.c (.bool (bif (t.kind==0) then (((((t.words.length:Int):Int)+(t.kids.length:Int)):Int)==0) else false)))] [])))):
  A29 [] (L2 [(0,.agg (enc .tree t))] []) Q:=
 Eq.mpr V5 h
def ZyN(t:Tree):Prop:=AW (Z2 ZjE) Try.f29 Zxi [] (Zj (Zr5.can (t,())) []) (EQ Try.f29 (Zul (t,())) [])
theorem Zwg(hb:∀ (t:Tree) (_:Unit),Z5c (t,())->ZyN t):CT 29 Z4b:=
 Z3 (l:=[]) Zk rfl trivial Zxi Try.func29 rfl rfl 1 (fun _=> rfl) V2 (fun ⟨t,_⟩=> hb t ())
def ZpI:List (FuncId × Fs U):=[(47,Z49)]
def Zx9:Ze U:=lvl [([0,1],[]),([4],[])]
abbrev A30(p:List Nat):=AW (Z2 ZpI) Try.f30 Zx9 p
theorem ZBk(w m:Int)(Q:QT)(h:((Zaq (w,0,m,()))/\(Q .ret (L2 [pB 4 (((mix w 0 m):Int)==0)] [])))):
  A30 [] (L2 [(0,.c (.int .u64 w)),(1,.c (.int .u8 m))] []) Q:=
 Eq.mpr V5 h
def ZyM(w m:Int):Prop:=AW (Z2 ZpI) Try.f30 Zx9 [] (Zj (ZqW.can (w,m,())) []) (EQ Try.f30 (Zuk (w,m,())) [])
theorem Zwf(c47:CT 47 Z49)(hb:∀ (w:Int) (m:Int) (_:Unit),Zle (w,m,())->ZyM w m):CT 30 Z9g:=
 Z3 (l:=[(47,Z49)]) Zk rfl (⟨c47,trivial⟩) Zx9 Try.func30 rfl rfl 2 (fun _=> rfl) V2 (fun ⟨w,m,_⟩=> hb w m ())
def ZpD:List (FuncId × Fs U):=[(29,Z4b)]
abbrev A48(p:List Nat):=AW (Z2 ZpD) Try.f48 Zxi p
theorem ZB2(e:Edit)(Q:QT)(h:∀ y_1,y_1=(e.new)->∀ y_2,y_2=(e.old)->let z2:=bif (e.kind==0) then (ZR y_2) else false;let z0:=bif z2 then (ZR y_1) else false;let z1:=bif z0 then (((((((e.words.length:Int):Int)+(e.kids.length:Int)):Int)+(e.ops.length:Int)):Int)==0) else false;((Tt (e.kind==0))/\(Tt (e.kind==0))/\((e.kind==0)=true->Z5c (y_2,()))/\(Tt (e.kind==0))/\(Tt z2)/\(Tt z2)/\(z2=true->Z5c (y_1,()))/\(Tt z2)/\(Tt z0)/\(Tt z0)/\(Tt z0)/\(Tt z0)/\(Tt z0)/\(Tt z0)/\(z0=true->InR (((e.words.length:Int):Int)+(e.kids.length:Int)))/\(Tt z0)/\(Tt z0)/\(Tt z0)/\(Tt z0)/\(z0=true->InR (((((e.words.length:Int):Int)+(e.kids.length:Int)):Int)+(e.ops.length:Int)))/\(Tt z0)/\(Tt z0)/\(Tt z1)/\(Tt z1)/\(Tt z1)/\(Q .ret (L2 [(2,.c (.bool (bif z1 then (e.list==0) else false)))] [])))):
  A48 [] (L2 [(0,.agg (enc .edit e))] []) Q:=
 Eq.mpr V5 (h _ (Za _) _ (Za _))
def Zyu(e:Edit):Prop:=AW (Z2 ZpD) Try.f48 Zxi [] (Zj (ZqO.can (e,())) []) (EQ Try.f48 (Zuf (e,())) [])
theorem Zw5(c29:CT 29 Z4b)(hb:∀ (e:Edit) (_:Unit),Zcu (e,())->Zyu e):CT 48 Z9e:=
 Z3 (l:=[(29,Z4b)]) Zk rfl (⟨c29,trivial⟩) Zxi Try.func48 rfl rfl 1 (fun _=> rfl) V2 (fun ⟨e,_⟩=> hb e ())
def Zta:Ze U:=lvl [([1],[1]),([1,4,5],[1]),([1,4,5,6],[1]),([1,4,5,6,13],[1]),([1,4,5,6],[1]),([1,4,5,6,7],[1,7]),([1,4,5,6,7,8],[1,7]),([1,4,5,6,7,8,29],[1,7]),([1,4,5,6,7,8,29],[1,7]),([1,4,5,6,7,8,32],[1,7]),([1,4,5,6,7,8,32],[1,7]),([1,4,5,6,8,38],[1]),([1,4,5,6,8,38],[1]),([1,4,5,6,43],[1]),([1,4,5,6,43],[1]),([1,4,5,6,45],[1]),([1,4,5,6],[1]),([2,3],[])]
def Z2m(e:Edit)(x4 x5 x6:Int):LSt U:=(L2 [pL 1,pI 4 x4,pI 5 x5,pI 6 x6] [(.loc 1,(enc .edit e))])
def Z8r(e:Edit)(x4 x5 x6 x8_a:Int):LSt U:=(L2 [pL 1,pI 4 x4,pI 5 x5,pI 6 x6,pL 7,pI 8 x8_a,(29,.c (.bool (((OpOf.kind (e.ops.getD x6.toNat Op.nil)):Int)==3)))] [(.loc 1,(enc .edit e)),(.loc 7,(enc .op (e.ops.getD x6.toNat Op.nil)))])
def Z8q(e:Edit)(x5 x6 x8_a x4_b:Int):LSt U:=(L2 [pL 1,pI 4 x4_b,pI 5 x5,pI 6 x6,pL 7,pI 8 x8_a,(32,.c (.bool (((OpOf.kind (e.ops.getD x6.toNat Op.nil)):Int) !=2)))] [(.loc 1,(enc .edit e)),(.loc 7,(enc .op (e.ops.getD x6.toNat Op.nil)))])
def Z8p(e:Edit)(x6 x8_a x4_b x5_c:Int):LSt U:=(L2 [pL 1,pI 4 x4_b,pI 5 x5_c,pI 6 x6,pI 8 x8_a,(38,.c (.bool (((OpOf.kind (e.ops.getD x6.toNat Op.nil)):Int) !=1)))] [(.loc 1,(enc .edit e))])
def Z8o(e:Edit)(x6 x4_b x5_c x4_d:Int):LSt U:=(L2 [pL 1,pI 4 x4_d,pI 5 x5_c,pI 6 x6,pB 43 (decide ((1048576:Int) < x4_b))] [(.loc 1,(enc .edit e))])
abbrev A32(p:List Nat):=AW (Z2 ZjE) Try.f32 Zta p
abbrev S32(p:List Nat):=SW (Z2 ZjE) Try.f32 Zta p
theorem ZBi(e:Edit)(Q:QT)(h:(Zi (A32 [1,1,0,1,0,0]) (Z2m e 0 0 0) (xB 0 (S32 [1,1,1] Q)))):
  A32 [] (L2 [(0,.agg (enc .edit e))] []) Q:=
 Eq.mpr V5 h
abbrev Zxx(e:Edit)(x4 x5 x6:Int)(N0:NT)(Q:QT):Prop:=A32 [1,1,0,1,0,0] (Z2m e x4 x5 x6) (xT N0 (xB 0 (S32 [1,1,1] Q)))
theorem Zs8(e:Edit)(x4 x5 x6:Int)(N0:NT)(Q:QT)(h:let z1:=xB 1 (S32 [1,1,0,1,0,0,1,1] (xT N0 (xB 0 (S32 [1,1,1] Q))));let z0:=e.ops.getD x6.toNat Op.nil;(iB (decide (x6 < (e.ops.length:Int))) (((0:Int)<=x6/\x6 < (e.ops.length:Int))/\((InR (((OpOf.n z0):Int)+((OpOf.l z0).length:Int)))/\(iB (((OpOf.kind z0):Int)==3) ((A32 [1,1,0,1,0,0,1,0,0,1,1,1] (Z8r e x4 x5 x6 1) z1)) (A32 [1,1,0,1,0,0,1,0,0,1,1,1] (Z8r e x4 x5 x6 (((OpOf.n z0):Int)+((OpOf.l z0).length:Int))) z1)))) ((Q .ret (L2 [pI 2 x4,pI 3 x5] []))))):
  A32 [1,1,0,1,0,0] (Z2m e x4 x5 x6) (xT N0 (xB 0 (S32 [1,1,1] Q))):=
 Eq.mpr V5 h
abbrev ZxB(e:Edit)(x4 x5 x6 x8_a:Int)(N0:NT)(Q:QT):Prop:=A32 [1,1,0,1,0,0,1,0,0,1,1,1] (Z8r e x4 x5 x6 x8_a) (xB 1 (S32 [1,1,0,1,0,0,1,1] (xT N0 (xB 0 (S32 [1,1,1] Q)))))
theorem Zsc(e:Edit)(x4 x5 x6 x8_a:Int)(N0:NT)(Q:QT)(h:let z0:=xB 1 (S32 [1,1,0,1,0,0,1,1] (xT N0 (xB 0 (S32 [1,1,1] Q))));(iB (((OpOf.kind (e.ops.getD x6.toNat Op.nil)):Int) !=2) ((InR (x4+x8_a))/\(A32 [1,1,0,1,0,0,1,0,0,1,1,1,1] (Z8q e x5 x6 x8_a (x4+x8_a)) z0)) (A32 [1,1,0,1,0,0,1,0,0,1,1,1,1] (Z8q e x5 x6 x8_a x4) z0))):
  A32 [1,1,0,1,0,0,1,0,0,1,1,1] (Z8r e x4 x5 x6 x8_a) (xB 1 (S32 [1,1,0,1,0,0,1,1] (xT N0 (xB 0 (S32 [1,1,1] Q))))):=
 Eq.mpr V5 h
abbrev ZxA(e:Edit)(x5 x6 x8_a x4_b:Int)(N0:NT)(Q:QT):Prop:=A32 [1,1,0,1,0,0,1,0,0,1,1,1,1] (Z8q e x5 x6 x8_a x4_b) (xB 1 (S32 [1,1,0,1,0,0,1,1] (xT N0 (xB 0 (S32 [1,1,1] Q)))))
theorem Zsb(e:Edit)(x5 x6 x8_a x4_b:Int)(N0:NT)(Q:QT)(h:let z0:=xB 1 (S32 [1,1,0,1,0,0,1,1] (xT N0 (xB 0 (S32 [1,1,1] Q))));(iB (((OpOf.kind (e.ops.getD x6.toNat Op.nil)):Int) !=1) ((InR (x5+x8_a))/\(A32 [1,1,0,1,0,0,1,0,0,1,1,1,1,1] (Z8p e x6 x8_a x4_b (x5+x8_a)) z0)) (A32 [1,1,0,1,0,0,1,0,0,1,1,1,1,1] (Z8p e x6 x8_a x4_b x5) z0))):
  A32 [1,1,0,1,0,0,1,0,0,1,1,1,1] (Z8q e x5 x6 x8_a x4_b) (xB 1 (S32 [1,1,0,1,0,0,1,1] (xT N0 (xB 0 (S32 [1,1,1] Q))))):=
 Eq.mpr V5 h
abbrev Zxz(e:Edit)(x6 x8_a x4_b x5_c:Int)(N0:NT)(Q:QT):Prop:=A32 [1,1,0,1,0,0,1,0,0,1,1,1,1,1] (Z8p e x6 x8_a x4_b x5_c) (xB 1 (S32 [1,1,0,1,0,0,1,1] (xT N0 (xB 0 (S32 [1,1,1] Q)))))
theorem Zsa(e:Edit)(x6 x8_a x4_b x5_c:Int)(N0:NT)(Q:QT)(h:let z0:=xB 1 (S32 [1,1,0,1,0,0,1,1] (xT N0 (xB 0 (S32 [1,1,1] Q))));(iB (decide ((1048576:Int) < x4_b)) ((A32 [1,1,0,1,0,0,1,0,0,1,1,1,1,1,1] (Z8o e x6 x4_b x5_c 1048576) z0)) (A32 [1,1,0,1,0,0,1,0,0,1,1,1,1,1,1] (Z8o e x6 x4_b x5_c x4_b) z0))):
  A32 [1,1,0,1,0,0,1,0,0,1,1,1,1,1] (Z8p e x6 x8_a x4_b x5_c) (xB 1 (S32 [1,1,0,1,0,0,1,1] (xT N0 (xB 0 (S32 [1,1,1] Q))))):=
 Eq.mpr V5 h
abbrev Zxy(e:Edit)(x6 x4_b x5_c x4_d:Int)(N0:NT)(Q:QT):Prop:=A32 [1,1,0,1,0,0,1,0,0,1,1,1,1,1,1] (Z8o e x6 x4_b x5_c x4_d) (xB 1 (S32 [1,1,0,1,0,0,1,1] (xT N0 (xB 0 (S32 [1,1,1] Q)))))
theorem Zs9(e:Edit)(x6 x4_b x5_c x4_d:Int)(N0:NT)(Q:QT)(h:(iB (decide ((1048576:Int) < x5_c)) (((InR (x6+1))/\(N0 (Z2m e x4_d 1048576 (x6+1))))) ((InR (x6+1))/\(N0 (Z2m e x4_d x5_c (x6+1)))))):
  A32 [1,1,0,1,0,0,1,0,0,1,1,1,1,1,1] (Z8o e x6 x4_b x5_c x4_d) (xB 1 (S32 [1,1,0,1,0,0,1,1] (xT N0 (xB 0 (S32 [1,1,1] Q))))):=
 Eq.mpr V5 h
def ZyK(e:Edit):Prop:=AW (Z2 ZjE) Try.f32 Zta [] (Zj (ZqO.can (e,())) []) (EQ Try.f32 (Zo5 (e,())) [])
theorem Zwe(hb:∀ (e:Edit) (_:Unit),Zhg (e,())->ZyK e):CT 32 Z4a:=
 Z3 (l:=[]) Zk rfl trivial Zta Try.func32 rfl rfl 1 (fun _=> rfl) V2 (fun ⟨e,_⟩=> hb e ())
def ZjD(N:Nat):List (FuncId × Fs U):=(28,fs Zkb (fun a=> [Zcw a,ZhB a < N]) ZkW) ::[(25,Z4R)]
def Ztc:Ze U:=lvl [([1,2,3],[3]),([1,2,3],[3]),([1,2,3,25],[3]),([6],[]),([1,2,3],[3]),([1,2,3,31],[3]),([1,2,3,31],[3]),([1,2,3,7],[3]),([1,2,3,7,44],[3]),([1,2,3,7],[3]),([1,2,3,7],[3]),([1,2,3,8],[3]),([1,2,3,8,65],[3]),([1,2,3,8],[3]),([1,2,3,8,9],[3]),([1,2,3,8,9,80],[3]),([1,2,3,8,9],[3]),([1,2,3,8,9],[3]),([1,2,3,8,95],[3]),([1,2,3,8],[3]),([6],[])]
def Z8v(e:Edit)(d n x2:Int):LSt U:=(L2 [pI 1 d,pI 2 x2,pL 3,(31,.c (.bool (decide ((0:Int)<=(ZF (Tree.mk e.old.kind e.old.words e.old.kids) 80 ((((((n:Int) - 1):Int) - (e.words.length:Int)):Int) - (e.ops.length:Int)))))))] [(.loc 3,(enc .edit e))])
def Z8u(e:Edit)(d n x2_a x7_a:Int):LSt U:=(L2 [pI 1 d,pI 2 x2_a,pL 3,pI 7 x7_a] [(.loc 3,(enc .edit e))])
def Z5A(e:Edit)(d n x2_b x8_b:Int):LSt U:=(L2 [pI 1 d,pI 2 x2_b,pL 3,pI 8 x8_b] [(.loc 3,(enc .edit e))])
def Z8t(e:Edit)(d n x8_b x2_c x9_c:Int):LSt U:=(L2 [pI 1 d,pI 2 x2_c,pL 3,pI 8 x8_b,pI 9 x9_c] [(.loc 3,(enc .edit e))])
abbrev A28(N:Nat)(p:List Nat):=AW (Z2 (ZjD N)) Try.f28 Ztc p
abbrev S28(N:Nat)(p:List Nat):=SW (Z2 (ZjD N)) Try.f28 Ztc p
theorem ZBm(N:Nat)(e:Edit)(d n:Int)(Q:QT)(h:∀ y_1,y_1=(e.new)->∀ y_2,y_2=(e.old)->∀ y_3,y_3=(ZF y_2 80 (((((n - 1):Int) - (e.words.length:Int)):Int) - (e.ops.length:Int)))->((InR (n - 1))/\(InR (((n - 1):Int) - (e.words.length:Int)))/\(InR (((((n - 1):Int) - (e.words.length:Int)):Int) - (e.ops.length:Int)))/\((Tt (!(d==0)))/\((d==0)=false->(!(d==0))=true)/\(iB (bif (d==0) then true else (decide (((((((n - 1):Int) - (e.words.length:Int)):Int) - (e.ops.length:Int)):Int) < 0))) ((Q .ret (L2 [pI 6 (-1)] []))) ((Z7M (y_2,80,(((((n - 1):Int) - (e.words.length:Int)):Int) - (e.ops.length:Int)),()))/\(iB (decide ((0:Int)<=y_3)) ((Z7M (y_1,80,y_3,()))/\(A28 N [1,1,1,1,1] (Z8v e d n (ZF y_1 80 y_3)) Q)) (A28 N [1,1,1,1,1] (Z8v e d n y_3) Q))))))):
  A28 N [] (L2 [(0,.agg (enc .edit e)),pI 1 d,pI 2 n] []) Q:=
 Eq.mpr V5 (h _ (Za _) _ (Za _) _ rfl)
abbrev ZxC(N:Nat)(e:Edit)(d n x2:Int)(Q:QT):Prop:=A28 N [1,1,1,1,1] (Z8v e d n x2) Q
theorem Zsh(N:Nat)(e:Edit)(d n x2:Int)(Q:QT)(h:(Zi (A28 N [1,1,1,1,1,0,1,0,0]) (Z8u e d n x2 0) (xB 0 (S28 N [1,1,1,1,1,1] Q)))):
  A28 N [1,1,1,1,1] (Z8v e d n x2) Q:=
 Eq.mpr V5 h
theorem Zsg(N:Nat)(e:Edit)(d n x2_a x7_a:Int)(N1:NT)(Q:QT)(h:∀ y_1,y_1=(e.kids.getD x7_a.toNat (KidOf.mk 0 Edit.nil))->∀ y_2,y_2=(y_1.e)->let z0:=decide (x7_a < (e.kids.length:Int));(Tt z0)/\(Tt z0)/\(iB (bif z0 then (decide ((0:Int)<=x2_a)) else false) (((0:Int)<=x7_a/\x7_a < (e.kids.length:Int))/\(InR (d - 1))/\(Zcw (y_2,(d - 1),x2_a,()))/\(ZhB (y_2,(d - 1),x2_a,()) < N)/\((InR (x7_a+1))/\(N1 (Z8u e d n (Z0q y_2 (d - 1) x2_a) (x7_a+1))))) ((Zi (A28 N [1,1,1,1,1,1,0,1,0,0]) (Z5A e d n x2_a 0) (xB 2 (S28 N [1,1,1,1,1,1,1] Q)))))):
  A28 N [1,1,1,1,1,0,1,0,0] (Z8u e d n x2_a x7_a) (xT N1 (xB 0 (S28 N [1,1,1,1,1,1] Q))):=
 Eq.mpr V5 (h _ rfl _ (Zf _))
theorem Zsf(N:Nat)(e:Edit)(d n x2_b x8_b:Int)(N2:NT)(Q:QT)(h:let z0:=decide (x8_b < (e.ops.length:Int));(Tt z0)/\(Tt z0)/\(iB (bif z0 then (decide ((0:Int)<=x2_b)) else false) ((Zi (A28 N [1,1,1,1,1,1,0,1,0,0,1,0,0,0,1,0,0]) (Z8t e d n x8_b x2_b 0) (xB 4 (S28 N [1,1,1,1,1,1,0,1,0,0,1,0,0,1] (xB 3 (S28 N [1,1,1,1,1,1,0,1,0,0,1,1] (xT N2 (xB 2 (S28 N [1,1,1,1,1,1,1] Q))))))))) ((Q .ret (L2 [pI 6 x2_b] []))))):
  A28 N [1,1,1,1,1,1,0,1,0,0] (Z5A e d n x2_b x8_b) (xT N2 (xB 2 (S28 N [1,1,1,1,1,1,1] Q))):=
 Eq.mpr V5 h
theorem Zse(N:Nat)(e:Edit)(d n x8_b x2_c x9_c:Int)(N3 N2:NT)(Q:QT)(h:∀ y_1,y_1=(e.ops.getD x8_b.toNat Op.nil)->∀ y_2,y_2=(y_1.e)->∀ y_3,y_3=(y_1.l.getD x9_c.toNat Tree.nil)->let z0:=decide (x9_c < (y_1.l.length:Int));((0:Int)<=x8_b/\x8_b < (e.ops.length:Int))/\(Tt z0)/\(Tt z0)/\(iB (bif z0 then (decide ((0:Int)<=x2_c)) else false) (((0:Int)<=x8_b/\x8_b < (e.ops.length:Int))/\((0:Int)<=x9_c/\x9_c < (y_1.l.length:Int))/\(Z7M (y_3,80,x2_c,()))/\((InR (x9_c+1))/\(N3 (Z8t e d n x8_b (ZF y_3 80 x2_c) (x9_c+1))))) ((iB (decide ((0:Int)<=x2_c)) (((0:Int)<=x8_b/\x8_b < (e.ops.length:Int))/\(InR (d - 1))/\(Zcw (y_2,(d - 1),x2_c,()))/\(ZhB (y_2,(d - 1),x2_c,()) < N)/\((InR (x8_b+1))/\(N2 (Z5A e d n (Z0q y_2 (d - 1) x2_c) (x8_b+1))))) ((InR (x8_b+1))/\(N2 (Z5A e d n x2_c (x8_b+1)))))))):
  A28 N [1,1,1,1,1,1,0,1,0,0,1,0,0,0,1,0,0] (Z8t e d n x8_b x2_c x9_c) (xT N3 (xB 4 (S28 N [1,1,1,1,1,1,0,1,0,0,1,0,0,1] (xB 3 (S28 N [1,1,1,1,1,1,0,1,0,0,1,1] (xT N2 (xB 2 (S28 N [1,1,1,1,1,1,1] Q)))))))):=
 Eq.mpr V5 (h _ rfl _ (Zf _) _ (Za _))
def ZyO(N:Nat)(e:Edit)(d n:Int):Prop:=AW (Z2 (ZjD N)) Try.f28 Ztc [] (Zj (Zkb.can (e,d,n,())) []) (EQ Try.f28 (ZkW (e,d,n,())) [])
theorem Zwh(c25:CT 25 Z4R)(hb:∀ (N:Nat) (e:Edit) (d:Int) (n:Int) (_:Unit),Zcw (e,d,n,())->ZhB (e,d,n,()) < N+1->ZyO N e d n):CT 28 ZbY:=
 YO (μ:=ZhB) (l:=[(25,Z4R)]) Zk rfl (⟨c25,trivial⟩) Ztc Try.func28 rfl rfl 3 (fun _=> rfl) V2 (fun N ⟨e,d,n,_⟩=> hb N e d n ())
def ZpN:List (FuncId × Fs U):=[(28,ZbY)]
abbrev A14(p:List Nat):=AW (Z2 ZpN) Try.f14 Zxi p
theorem ZBA(e:Edit)(Q:QT)(h:let z0:=Edit.mk e.kind (Tree.mk e.old.kind e.old.words e.old.kids) (Tree.mk e.new.kind e.new.words e.new.kids) e.words e.kids e.list e.ops;((Zcw (z0,80,3000,()))/\(Q .ret (L2 [(2,.c (.bool (decide ((0:Int)<=(Z0q z0 80 3000)))))] [])))):
  A14 [] (L2 [(0,.agg (enc .edit e))] []) Q:=
 Eq.mpr V5 h
def Zz2(e:Edit):Prop:=AW (Z2 ZpN) Try.f14 Zxi [] (Zj (ZqO.can (e,())) []) (EQ Try.f14 (Zuo (e,())) [])
theorem Zws(c28:CT 28 ZbY)(hb:∀ (e:Edit) (_:Unit),Zlg (e,())->Zz2 e):CT 14 Z4U:=
 Z3 (l:=[(28,ZbY)]) Zk rfl (⟨c28,trivial⟩) Zxi Try.func14 rfl rfl 1 (fun _=> rfl) V2 (fun ⟨e,_⟩=> hb e ())
end
noncomputable section
def Zgd:ArgL (Edit × Int × Unit):=(.cons (aEl .edit) (.cons (Yu .i64) .nil))
def Z6n(a:Edit × Int × Unit):Prop:=(Zd a.1<=20000000000/\ZK a.1)/\0<=a.2.1/\a.2.1<=1000
def ZfG(a:Edit × Int × Unit):Nat:=2*Zd a.1
def ZkY(a:Edit × Int × Unit):V U:= .c (.bool (Z0 a.1 a.2.1))
def Z20:Fs U:=fs Zgd (fun a=> [Z6n a]) ZkY
def Zgc:ArgL (Int × Op × Int × Unit):=(.cons (Yu .i64) (.cons (aEl .op) (.cons (Yu .i64) .nil)))
def Zes(a:Int × Op × Int × Unit):Prop:=(ZA a.2.1<=20000000000/\YD a.2.1/\InR a.1)/\0<=a.2.2.1/\a.2.2.1<=1000
def Zmu(a:Int × Op × Int × Unit):Nat:=2*ZA a.2.1+1
def ZkV(a:Int × Op × Int × Unit):V U:= .c (.bool (Zc a.1 a.2.1 a.2.2.1))
def ZnO:Fs U:=fs Zgc (fun a=> [Zes a]) ZkV
def Zas(a:Edit × Unit):Prop:=(Zd a.1<=20000000000/\ZK a.1)/\∃ d,Z0 a.1 d=true
def ZhC(a:Edit × Unit):Nat:=Zd a.1
def Zo8(a:Edit × Unit):V U:= .c (.bool (Z1C a.1))
def Z4T:Fs U:=fs ZqO (fun a=> [Zas a]) Zo8
def Zli(a:Edit × Unit):Prop:=Z1z a.1/\ZK a.1
def Zuq(a:Edit × Unit):V U:= .c (.bool (Z10 a.1))
def Zc3:Fs U:=fs ZqO (fun a=> [Zli a]) Zuq
def ZjL(N:Nat):List (FuncId × Fs U):=(15,fs Zgd (fun a=> [Z6n a,ZfG a < N]) ZkY) ::(31,fs Zgc (fun a=> [Zes a,Zmu a < N]) ZkV) ::[(29,Z4b),(30,Z9g),(48,Z9e),(17,ZbV),(32,Z4a)]
def Ztk:Ze U:=lvl [([1,2],[2]),([1,2,24],[2]),([4],[]),([1,2,69],[2]),([4],[]),([1,2,72],[2]),([4],[]),([1,2,5],[2]),([1,2,5,6],[2]),([1,2,5,6,97],[2]),([1,2,5,6],[2]),([1,2,5,6,7],[2,7]),([1,2,6,7,134],[2,7]),([4],[]),([1,2,5,6],[2]),([1,2,5],[2]),([1,2,5,8],[2]),([1,2,5,8,141],[2]),([1,2,5,8],[2]),([1,2,5,8,9],[2,9]),([1,2,8,9,171],[2,9]),([4],[]),([1,2,5,8],[2]),([1,2,186],[2]),([4],[]),([1,2,10],[2]),([1,2,10,191],[2]),([1,2,10],[2]),([1,2,10,204],[2]),([4],[]),([11,12],[]),([4],[])]
def Z8H(e:Edit)(d x5 x6:Int):LSt U:=(L2 [pI 1 d,pL 2,pI 5 x5,pI 6 x6] [(.loc 2,(enc .edit e))])
def Z8G(e:Edit)(d x5_a x8_a:Int):LSt U:=(L2 [pI 1 d,pL 2,pI 5 x5_a,pI 8 x8_a] [(.loc 2,(enc .edit e))])
def Z8F(e:Edit)(d x10_b:Int):LSt U:=(L2 [pI 1 d,pL 2,pI 10 x10_b] [(.loc 2,(enc .edit e))])
abbrev A15(N:Nat)(p:List Nat):=AW (Z2 (ZjL N)) Try.f15 Ztk p
abbrev S15(N:Nat)(p:List Nat):=SW (Z2 (ZjL N)) Try.f15 Ztk p
theorem ZBz(N:Nat)(e:Edit)(d:Int)(Q:QT)(h:∀ y_1,y_1=(e.new)->∀ y_2,y_2=(e.old)->let z9:=(Q .ret (L2 [pB 4 false] []));let z7:=(e.kind !=1) && (ZR y_2);let z4:=bif (d==0) then true else (decide (e.kind < 0));let z2:=bif (Z9 y_2 64) then (Z9 y_1 64) else false;let z6:=bif z2 then (e.old.kind !=10) else false;let z1:=bif (e.kind !=1) then (!(bif (ZR y_2) then (ZR y_1) else false)) else false;let z5:=(!z1) && (e.kind !=2);let z0:=bif z1 then true else (bif (e.kind !=2) then (decide ((0:Int) < (((e.words.length:Int):Int)+(e.kids.length:Int)))) else false);let z3:=(!z0) && (e.kind !=3);let z8:=z3 && (!(e.list !=0));((Tt (!(d==0)))/\(Tt (!(d==0)))/\((d==0)=false->(!(d==0))=true)/\(Tt (!z4))/\(Tt (!z4))/\(z4=false->(!z4)=true)/\(iB (bif z4 then true else (decide ((3:Int) < e.kind))) z9 ((Tt (e.kind !=1))/\(Tt (e.kind !=1))/\((e.kind !=1)=true->Z5c (y_2,()))/\(Tt (e.kind !=1))/\(Tt z7)/\(Tt z7)/\(z7=true->Z5c (y_1,()))/\((e.kind !=1)=true->(True->(e.kind !=1)=true))/\((e.kind !=1)=true->((ZR y_2)=true->z7=true))/\(Tt (e.kind !=1))/\(Tt (e.kind !=1))/\(Tt (!z1))/\(Tt (!z1))/\(Tt (!z1))/\(Tt z5)/\(Tt z5)/\(Tt z5)/\(Tt z5)/\(Tt z5)/\(Tt z5)/\(z5=true->InR (((e.words.length:Int):Int)+(e.kids.length:Int)))/\(Tt z5)/\((!z1)=true->(True->(!z1)=true))/\((!z1)=true->((e.kind !=2)=true->z5=true))/\(z1=false->(!z1)=true)/\(Tt (!z0))/\(Tt (!z0))/\(Tt (!z0))/\(Tt z3)/\(Tt z3)/\(Tt z3)/\(Tt z8)/\(Tt z8)/\(Tt z8)/\(z3=true->(True->z3=true))/\(z3=true->((e.list !=0)=false->z8=true))/\((!z0)=true->(True->(!z0)=true))/\((!z0)=true->((e.kind !=3)=true->z3=true))/\(z0=false->(!z0)=true)/\(iB (bif z0 then true else (bif (e.kind !=3) then (bif (e.list !=0) then true else (decide ((0:Int) < (e.ops.length:Int)))) else false)) z9 ((iB (e.kind==1) ((Zar (y_2,64,()))/\(Tt (Z9 y_2 64))/\(Tt (Z9 y_2 64))/\((Z9 y_2 64)=true->Zar (y_1,64,()))/\(Tt (Z9 y_2 64))/\(Tt z2)/\(Tt z2)/\(Tt z2)/\(Tt z2)/\(Tt z6)/\(Tt z6)/\(Tt z6)/\(Tt z6)/\(Q .ret (L2 [(4,.c (.bool (bif z6 then (e.new.kind !=10) else false)))] []))) ((Zi (A15 N [1,1,1,1,1,0,1,0,0]) (Z8H e d (-1) 0) (xB 0 (S15 N [1,1,1,1,1,1] Q))))))))))):
  A15 N [] (L2 [(0,.agg (enc .edit e)),pI 1 d] []) Q:=
 Eq.mpr V5 (h _ (Za _) _ (Za _))
theorem Zsu(N:Nat)(e:Edit)(d x5 x6:Int)(N0:NT)(Q:QT)(h:∀ y_1,y_1=(e.words.getD x6.toNat (WEdit.mk 0 0 0 0))->let z3:=decide (y_1.at_<=x5);let z2:=bif z3 then true else (decide ((65534:Int) < y_1.at_));let z0:=bif z2 then true else (y_1.mask==0);let z1:=bif z0 then true else (!(ZM y_1.old y_1.mask));(iB (decide (x6 < (e.words.length:Int))) (((0:Int)<=x6/\x6 < (e.words.length:Int))/\((Tt (!z3))/\(Tt (!z3))/\(z3=false->(!z3)=true)/\(Tt (!z2))/\(Tt (!z2))/\(z2=false->(!z2)=true)/\(Tt (!z0))/\(Tt (!z0))/\(Tt (!z0))/\(Tt (!z0))/\((!z0)=true->Zle (y_1.old,y_1.mask,()))/\(Tt (!z0))/\(z0=false->(!z0)=true)/\(Tt (!z1))/\(Tt (!z1))/\(Tt (!z1))/\(Tt (!z1))/\((!z1)=true->Zle (y_1.new,y_1.mask,()))/\(Tt (!z1))/\(z1=false->(!z1)=true)/\(iB (bif z1 then true else (!(ZM y_1.new y_1.mask))) ((Q .ret (L2 [pB 4 false] []))) (((InR (x6+1))/\(N0 (Z8H e d y_1.at_ (x6+1)))))))) ((Zi (A15 N [1,1,1,1,1,1,1,0,1,0,0]) (Z8G e d (-1) 0) (xB 2 (S15 N [1,1,1,1,1,1,1,1] Q)))))):
  A15 N [1,1,1,1,1,0,1,0,0] (Z8H e d x5 x6) (xT N0 (xB 0 (S15 N [1,1,1,1,1,1] Q))):=
 Eq.mpr V5 (h _ rfl)
theorem Zst(N:Nat)(e:Edit)(d x5_a x8_a:Int)(N1:NT)(Q:QT)(h:∀ y_1,y_1=(e.kids.getD x8_a.toNat (KidOf.mk 0 Edit.nil))->∀ y_2,y_2=(y_1.e)->let z5:=(Q .ret (L2 [pB 4 false] []));let z4:=decide (e.list < 2);let z3:=(e.kind==3) && (!z4);let z2:=decide (y_1.at_<=x5_a);let z0:=bif z2 then true else (decide ((65534:Int) < y_1.at_));let z1:=bif z0 then true else (y_1.e.kind==0);(iB (decide (x8_a < (e.kids.length:Int))) (((0:Int)<=x8_a/\x8_a < (e.kids.length:Int))/\((Tt (!z2))/\(Tt (!z2))/\(z2=false->(!z2)=true)/\(Tt (!z0))/\(Tt (!z0))/\(Tt (!z0))/\(z0=false->(!z0)=true)/\(Tt (!z1))/\(Tt (!z1))/\((!z1)=true->InR (d - 1))/\(Tt (!z1))/\(Tt (!z1))/\((!z1)=true->Z6n (y_2,(d - 1),()))/\((!z1)=true->ZfG (y_2,(d - 1),()) < N)/\(Tt (!z1))/\(z1=false->(!z1)=true)/\(iB (bif z1 then true else (!(Z0 y_2 (d - 1)))) z5 (((InR (x8_a+1))/\(N1 (Z8G e d y_1.at_ (x8_a+1)))))))) ((Tt (e.kind==3))/\(Tt (e.kind==3))/\(Tt (e.kind==3))/\(Tt z3)/\(Tt z3)/\((e.kind==3)=true->(True->(e.kind==3)=true))/\((e.kind==3)=true->(z4=false->z3=true))/\(Tt (e.kind==3))/\(iB (bif (e.kind==3) then (bif z4 then true else (decide ((9:Int) < e.list))) else false) z5 ((Zi (A15 N [1,1,1,1,1,1,1,1,1,0,1,0,0]) (Z8F e d 0) (xB 4 (S15 N [1,1,1,1,1,1,1,1,1,1] Q)))))))):
  A15 N [1,1,1,1,1,1,1,0,1,0,0] (Z8G e d x5_a x8_a) (xT N1 (xB 2 (S15 N [1,1,1,1,1,1,1,1] Q))):=
 Eq.mpr V5 (h _ rfl _ (Zf _))
theorem Zss(N:Nat)(e:Edit)(d x10_b:Int)(N2:NT)(Q:QT)(h:∀ y_1,y_1=e->∀ y_2,y_2=(e.ops.getD x10_b.toNat Op.nil)->∀ y_3,y_3=y_2->let z0:=decide (((Z0m y_1.ops 0):Int) < 1048576);(iB (decide (x10_b < (e.ops.length:Int))) (((0:Int)<=x10_b/\x10_b < (e.ops.length:Int))/\(InR (d - 1))/\(Zes (e.list,y_3,(d - 1),()))/\(Zmu (e.list,y_3,(d - 1),()) < N)/\(iB (!(Zc e.list y_3 (d - 1))) ((Q .ret (L2 [pB 4 false] []))) ((InR (x10_b+1))/\(N2 (Z8F e d (x10_b+1)))))) ((Zhg (y_1,()))/\((Tt z0)/\(Tt z0)/\(Q .ret (L2 [(4,.c (.bool (bif z0 then (decide (((Z0l y_1.ops 0):Int) < 1048576)) else false)))] [])))))):
  A15 N [1,1,1,1,1,1,1,1,1,0,1,0,0] (Z8F e d x10_b) (xT N2 (xB 4 (S15 N [1,1,1,1,1,1,1,1,1,1] Q))):=
 Eq.mpr V5 (h _ (Zf _) _ rfl _ (Jy _))
def Zz1(N:Nat)(e:Edit)(d:Int):Prop:=AW (Z2 (ZjL N)) Try.f15 Ztk [] (Zj (Zgd.can (e,d,())) []) (EQ Try.f15 (ZkY (e,d,())) [])
abbrev ZA5:Prop:=∀ (N:Nat) (e:Edit) (d:Int) (_:Unit),Z6n (e,d,())->ZfG (e,d,()) < N+1->Zz1 N e d
def Ztb:Ze U:=lvl [([0,2,4],[4]),([0,2,4,10],[4]),([6],[]),([0,2,4,42],[4]),([6],[]),([0,2,4,45],[4]),([0,4,7],[4]),([0,4,7,50],[4]),([0,4,7],[4]),([0,4,7,62],[4]),([6],[]),([6],[]),([0,4,92],[4]),([6],[]),([6],[])]
def Z8s(list:Int)(o:Op)(d x7:Int):LSt U:=(L2 [pI 0 list,pL 4,pI 7 x7] [(.loc 4,(enc .op o))])
abbrev A31(N:Nat)(p:List Nat):=AW (Z2 (ZjL N)) Try.f31 Ztb p
abbrev S31(N:Nat)(p:List Nat):=SW (Z2 (ZjL N)) Try.f31 Ztb p
theorem ZBj(N:Nat)(list:Int)(o:Op)(d:Int)(Q:QT)(h:∀ y_1,y_1=(o.e)->let z10:=(Q .ret (L2 [pB 6 false] []));let z9:=decide ((1:Int)<=o.n);let z6:=bif (o.n !=0) then true else (decide (o.kind < 0));let z4:=decide ((0:Int) < (o.l.length:Int));let z7:=bif z4 then true else (o.e.kind==0);let z3:=bif (o.e.kind==1) then (o.e.old.kind==1) else false;let z2:=bif z9 then (decide (o.n<=1048576)) else false;let z5:=bif z2 then (((o.l.length:Int):Int)==0) else false;let z1:=bif z7 then true else (decide (list<=7));let z0:=bif (list==8) then true else (o.e.kind==2);let z8:=(!z0) && (o.e.kind==1);(iB (o.kind==0) ((Tt z9)/\(Tt z9)/\(Tt z9)/\(Tt z2)/\(Tt z2)/\(Tt z2)/\(Tt z2)/\(Tt z5)/\(Tt z5)/\(z5=true->Zcu (y_1,()))/\(Tt z5)/\(Q .ret (L2 [(6,.c (.bool (bif z5 then (Z11 y_1) else false)))] []))) ((Tt (!(o.n !=0)))/\(Tt (!(o.n !=0)))/\((o.n !=0)=false->(!(o.n !=0))=true)/\(Tt (!z6))/\(Tt (!z6))/\(z6=false->(!z6)=true)/\(iB (bif z6 then true else (decide ((3:Int) < o.kind))) z10 ((iB (decide (o.kind < 3)) ((Zi (A31 N [1,1,1,0,1,0,0,1,0,0]) (Z8s list o d 0) (xB 0 (S31 N [1,1,1,0,1,0,1] (S31 N [1,1,1,1] Q))))) ((Tt (!z4))/\(Tt (!z4))/\(Tt (!z4))/\(z4=false->(!z4)=true)/\(Tt (!z7))/\(z7=false->(!z7)=true)/\(Tt (!z1))/\(Tt (!z1))/\(Tt (!z1))/\((!z1)=true->Z6n (y_1,d,()))/\((!z1)=true->ZfG (y_1,d,()) < N)/\(Tt (!z1))/\(z1=false->(!z1)=true)/\(iB (bif z1 then true else (!(Z0 y_1 d))) z10 ((Tt (!(list==8)))/\(Tt (!(list==8)))/\(Tt (!(list==8)))/\((list==8)=false->(!(list==8))=true)/\(Tt (!z0))/\(Tt (!z0))/\(Tt (!z0))/\(Tt (!z0))/\(Tt z8)/\(Tt z8)/\(Tt z8)/\(Tt z8)/\((!z0)=true->(True->(!z0)=true))/\((!z0)=true->((o.e.kind==1)=true->z8=true))/\(Tt (!z0))/\(Tt ((!z0) && z3))/\(Tt ((!z0) && z3))/\(Tt ((!z0) && z3))/\(Tt ((!z0) && z3))/\((!z0)=true->(True->(!z0)=true))/\((!z0)=true->(z3=true->((!z0) && z3)=true))/\(z0=false->(!z0)=true)/\(Q .ret (L2 [(6,.c (.bool (bif z0 then true else (bif z3 then (o.e.new.kind==1) else false))))] []))))))))))):
  A31 N [] (L2 [pI 0 list,(1,.agg (enc .op o)),pI 2 d] []) Q:=
 Eq.mpr V5 (h _ (Zf _))
theorem Zsd(N:Nat)(list:Int)(o:Op)(d x7:Int)(N0:NT)(Q:QT)(h:let z2:=Tree.mk list [] (List.drop x7.toNat (List.take (Int.toNat (x7+1)) o.l));let z1:=Edit.mk o.e.kind (Tree.mk o.e.old.kind o.e.old.words o.e.old.kids) (Tree.mk o.e.new.kind o.e.new.words o.e.new.kids) o.e.words o.e.kids o.e.list o.e.ops;let z0:=decide ((0:Int) < (o.l.length:Int));(iB (decide (x7 < (o.l.length:Int))) ((InR (x7+1))/\((0:Int)<=x7/\x7<=(x7+1)/\(x7+1)<=(o.l.length:Int))/\(Zar (z2,64,()))/\(iB (!(Z9 z2 64)) ((Q .ret (L2 [pB 6 false] []))) ((InR (x7+1))/\(N0 (Z8s list o d (x7+1)))))) ((Tt z0)/\(Tt z0)/\(z0=true->Zcu (z1,()))/\(Tt z0)/\(Q .ret (L2 [(6,.c (.bool (bif z0 then (Z11 z1) else false)))] []))))):
  A31 N [1,1,1,0,1,0,0,1,0,0] (Z8s list o d x7) (xT N0 (xB 0 (S31 N [1,1,1,0,1,0,1] (S31 N [1,1,1,1] Q)))):=
 Eq.mpr V5 h
def ZyL(N:Nat)(list:Int)(o:Op)(d:Int):Prop:=AW (Z2 (ZjL N)) Try.f31 Ztb [] (Zj (Zgc.can (list,o,d,())) []) (EQ Try.f31 (ZkV (list,o,d,())) [])
abbrev ZA2:Prop:=∀ (N:Nat) (list:Int) (o:Op) (d:Int) (_:Unit),Zes (list,o,d,())->Zmu (list,o,d,()) < N+1->ZyL N list o d
def ZjK(N:Nat):List (FuncId × Fs U):=(16,fs ZqO (fun a=> [Zas a,ZhC a < N]) Zo8) ::[(32,Z4a)]
def Ztj:Ze U:=lvl [([1],[1]),([1,3,4],[1]),([1,17],[1]),([2],[]),([1,5],[1]),([1,5,22],[1]),([1,5],[1]),([1,5,32],[1]),([2],[]),([1,6],[1]),([1,6,37],[1]),([1,6],[1]),([1,6,47],[1]),([2],[]),([2],[])]
def Z8E(e:Edit)(x5:Int):LSt U:=(L2 [pL 1,pI 5 x5] [(.loc 1,(enc .edit e))])
def Z8D(e:Edit)(x6_a:Int):LSt U:=(L2 [pL 1,pI 6 x6_a] [(.loc 1,(enc .edit e))])
abbrev A16(N:Nat)(p:List Nat):=AW (Z2 (ZjK N)) Try.f16 Ztj p
abbrev S16(N:Nat)(p:List Nat):=SW (Z2 (ZjK N)) Try.f16 Ztj p
theorem ZBy(N:Nat)(e:Edit)(Q:QT)(h:∀ y_1,y_1=e->let z0:=decide ((2000:Int) < (Z0m y_1.ops 0));((Zhg (y_1,()))/\((Tt (!z0))/\(z0=false->(!z0)=true)/\(iB (bif z0 then true else (decide ((2000:Int) < (Z0l y_1.ops 0)))) ((Q .ret (L2 [pB 2 false] []))) ((Zi (A16 N [1,1,1,0,1,0,0]) (Z8E e 0) (xB 0 (S16 N [1,1,1,1] Q)))))))):
  A16 N [] (L2 [(0,.agg (enc .edit e))] []) Q:=
 Eq.mpr V5 (h _ (Zf _))
theorem Zsr(N:Nat)(e:Edit)(x5:Int)(N0:NT)(Q:QT)(h:∀ y_1,y_1=(e.kids.getD x5.toNat (KidOf.mk 0 Edit.nil))->∀ y_2,y_2=(y_1.e)->(iB (decide (x5 < (e.kids.length:Int))) (((0:Int)<=x5/\x5 < (e.kids.length:Int))/\(Zas (y_2,()))/\(ZhC (y_2,()) < N)/\(iB (!(Z1C y_2)) ((Q .ret (L2 [pB 2 false] []))) ((InR (x5+1))/\(N0 (Z8E e (x5+1)))))) ((Zi (A16 N [1,1,1,1,0,1,0,0]) (Z8D e 0) (xB 2 (S16 N [1,1,1,1,1] Q)))))):
  A16 N [1,1,1,0,1,0,0] (Z8E e x5) (xT N0 (xB 0 (S16 N [1,1,1,1] Q))):=
 Eq.mpr V5 (h _ rfl _ (Zf _))
theorem Zsq(N:Nat)(e:Edit)(x6_a:Int)(N1:NT)(Q:QT)(h:∀ y_1,y_1=(e.ops.getD x6_a.toNat Op.nil)->∀ y_2,y_2=(y_1.e)->(iB (decide (x6_a < (e.ops.length:Int))) (((0:Int)<=x6_a/\x6_a < (e.ops.length:Int))/\(Zas (y_2,()))/\(ZhC (y_2,()) < N)/\(iB (!(Z1C y_2)) ((Q .ret (L2 [pB 2 false] []))) ((InR (x6_a+1))/\(N1 (Z8D e (x6_a+1)))))) ((Q .ret (L2 [pB 2 true] []))))):
  A16 N [1,1,1,1,0,1,0,0] (Z8D e x6_a) (xT N1 (xB 2 (S16 N [1,1,1,1,1] Q))):=
 Eq.mpr V5 (h _ rfl _ (Zf _))
def Zz0(N:Nat)(e:Edit):Prop:=AW (Z2 (ZjK N)) Try.f16 Ztj [] (Zj (ZqO.can (e,())) []) (EQ Try.f16 (Zo8 (e,())) [])
theorem Zwr(c32:CT 32 Z4a)(hb:∀ (N:Nat) (e:Edit) (_:Unit),Zas (e,())->ZhC (e,()) < N+1->Zz0 N e):CT 16 Z4T:=
 YO (μ:=ZhC) (l:=[(32,Z4a)]) Zk rfl (⟨c32,trivial⟩) Ztj Try.func16 rfl rfl 1 (fun _=> rfl) V2 (fun N ⟨e,_⟩=> hb N e ())
def ZpQ:List (FuncId × Fs U):=[(14,Z4U),(15,Z20),(16,Z4T)]
abbrev A10(p:List Nat):=AW (Z2 ZpQ) Try.f10 Zxi p
theorem ZBE(e:Edit)(Q:QT)(h:∀ y_1,y_1=e->let z1:=decide (0<=Z0q y_1 80 3000);let z0:=bif z1 then (Z0 y_1 64) else false;((Zlg (y_1,()))/\(Tt z1)/\(z1=true->Z6n (y_1,64,()))/\(Tt z1)/\(Tt z0)/\(z0=true->Zas (y_1,()))/\(Tt z0)/\(Q .ret (L2 [(2,.c (.bool (bif z0 then (Z1C y_1) else false)))] [])))):
  A10 [] (L2 [(0,.agg (enc .edit e))] []) Q:=
 Eq.mpr V5 (h _ (Zf _))
def Zz6(e:Edit):Prop:=AW (Z2 ZpQ) Try.f10 Zxi [] (Zj (ZqO.can (e,())) []) (EQ Try.f10 (Zuq (e,())) [])
theorem Zww(c14:CT 14 Z4U)(c15:CT 15 Z20)(c16:CT 16 Z4T)(hb:∀ (e:Edit) (_:Unit),Zli (e,())->Zz6 e):CT 10 Zc3:=
 Z3 (l:=[(14,Z4U),(15,Z20),(16,Z4T)]) Zk rfl (⟨c14,c15,c16,trivial⟩) Zxi Try.func10 rfl rfl 1 (fun _=> rfl) V2 (fun ⟨e,_⟩=> hb e ())
theorem ZmH(c29:CT 29 Z4b)(c30:CT 30 Z9g)(c48:CT 48 Z9e)(c17:CT 17 ZbV)(c32:CT 32 Z4a)(ha:ZA5)(hb:ZA2):CT 15 Z20/\CT 31 ZnO:=
 Z37 (μA:=ZfG) (μB:=Zmu) (l:=[(29,Z4b),(30,Z9g),(48,Z9e),(17,ZbV),(32,Z4a)]) Zk rfl (⟨c29,c30,c48,c17,c32,trivial⟩) Ztk Ztb Try.func15 Try.func31 rfl rfl rfl rfl 2 3 (fun _=> rfl) (fun _=> rfl) V2 V2 (fun N ⟨e,d,_⟩=> ha N e d ()) (fun N ⟨list,o,d,_⟩=> hb N list o d ())
end
theorem Z4N{n:Int}(h0:0<=n)(h1:n < 18446744073709551616):IntKind.wrap .u64 n=n:=by
 simp [IntKind.wrap,IntKind.signed,IntKind.bits];omega
theorem Zb9{n:Int}(h0:0<=n)(h1:n < 256):IntKind.wrap .u8 n=n:=by
 simp [IntKind.wrap,IntKind.signed,IntKind.bits];omega
theorem ZlP{i:Int}{j:Nat}{v:Int}{F G:Nat->Int}(hi:0<=i)(hv:v=F i.toNat):Z1v i j v (if (j:Int) < i then F j else G j)=if (j:Int) < i+1 then F j else G j:=by
 unfold Z1v
 by_cases h:i=j
 .subst h
  rw [if_pos rfl,V1,hv]
  simp
 .rw [if_neg h]
  by_cases h2:(j:Int) < i
  .rw [if_pos h2,V1]
  .rw [if_neg h2,JI]
theorem Ztr{i:Int}{j:Nat}{F G:Nat->Int}(h:F i.toNat=G i.toNat)(hi:0<=i):(if (j:Int) < i then F j else G j)=if (j:Int) < i+1 then F j else G j:=by
 by_cases h2:(j:Int) < i
 .rw [if_pos h2,V1]
 .by_cases h3:(j:Int)=i
  .subst h3
   rw [if_neg h2,V1]
   simpa using h.symm
  .rw [if_neg h2,JI]
theorem Z0X(w:Int)(i:Nat):0<=Zg w i/\Zg w i < 256:=by
 unfold Zg
 omega
theorem Z5J{w:Int}(h:0<=w)(i:Nat):0<=w / 256 ^ i:=Kg h (XT (XI V0))
theorem Zda{w:Int}(h:0<=w)(i:Nat):w / 256 ^ i<=w:=Ka _ h
theorem ZfZ(w:Int)(i:Nat):w / 256 ^ i / 256=w / 256 ^ (i+1):=by
 rw [Int.ediv_ediv_of_nonneg (XT (XI V0)),K6]
theorem c68:Contract Try.prog cfg 68 ZbN:=by
 refine ZvQ ?_
 intro w _ hp
 simp only [Zh7] at hp
 refine ZAI _ _ ?_;(try simp only [iB,vcT,forall_eq])
 refine Zb (ι:=Int) (fun i=> Z5y w (w / 256 ^ i.toNat) i (if ((0:Nat):Int) < i then Zg w 0 else 0) (if ((1:Nat):Int) < i then Zg w 1 else 0) (if ((2:Nat):Int) < i then Zg w 2 else 0) (if ((3:Nat):Int) < i then Zg w 3 else 0)
  (if ((4:Nat):Int) < i then Zg w 4 else 0) (if ((5:Nat):Int) < i then Zg w 5 else 0) (if ((6:Nat):Int) < i then Zg w 6 else 0) (if ((7:Nat):Int) < i then Zg w 7 else 0)) (fun i=> 0<=i/\i<=8) (fun i=> (8 - i).toNat) 0 ?_ ⟨V0,V0⟩ ?_
 .simp [Z5y]
 .rintro i ⟨h1,h2⟩
  refine ZrI _ _ _ _ _ _ _ _ _ _ _ _ _ ?_;(try simp only [iB,vcT,forall_eq])
  (simp only [iB,vcS]);(try simp only [iB,vcT])
  refine ⟨fun hc=> ⟨V0,⟨h1,V0⟩,V0,V4,i+1,?_,⟨V0,V0⟩,V0⟩,fun hc=> ?_⟩
  .have hd:=Z5J hp.1 i.toNat
   have hl:=Zda hp.1 i.toNat
   have e1:IntKind.wrap .u64 (Int.tdiv (w / 256 ^ i.toNat) 256)=w / 256 ^ (i+1).toNat:=by
    rw [Xz hd,ZfZ,show i.toNat+1=(i+1).toNat by omega]
    exact Z4N (Z5J hp.1 _) (XC (Zda hp.1 _) hp.2)
   have e2:IntKind.wrap .u8 (Int.tmod (w / 256 ^ i.toNat) 256)=Zg w i.toNat:=by
    rw [Int.tmod_eq_emod_of_nonneg hd]
    exact Zb9 (Z0X w _).1 (Z0X w _).2
   rw [e1]
   have st:∀ j:Nat,Z1v i j (IntKind.wrap .u8 (Int.tmod (w / 256 ^ i.toNat) 256)) (if (j:Int) < i then Zg w j else 0)=if (j:Int) < i+1 then Zg w j else 0:=fun j=> ZlP (F:=Zg w) (G:=fun _=> 0) h1 e2
   rw [st 0,st 1,st 2,st 3,st 4,st 5,st 6,st 7]
  .have:i=8:=V0
   subst this
   simp only [Zo2]
   exact ⟨⟨rfl,⟨⟨rfl,rfl⟩,⟨rfl,rfl⟩,⟨rfl,rfl⟩,⟨rfl,rfl⟩,⟨rfl,rfl⟩,⟨rfl,rfl⟩,⟨rfl,rfl⟩,⟨rfl,rfl⟩,trivial⟩,trivial⟩,trivial⟩
theorem c69:Contract Try.prog cfg 69 ZbM:=by
 refine ZvP ?_
 intro m i _ hp
 simp only [Zlb] at hp
 refine ZAH _ _ _ ?_;(try simp only [iB,vcT,forall_eq])
 refine Zb (ι:=Int) (fun k=> Z8d m i (m / 2 ^ k.toNat) k) (fun k=> 0<=k/\k<=i) (fun k=> (i - k).toNat) 0 ?_ ⟨V0,V0⟩ ?_
 .simp
 .rintro k ⟨h1,h2⟩
  refine ZrH _ _ _ _ _ _ ?_;(try simp only [iB,vcT,forall_eq])
  have hd:0<=m / 2 ^ k.toNat:=Kg hp.1.1 (XT (XI V0))
  have hl:m / 2 ^ k.toNat<=m:=Ka _ hp.1.1
  (simp only [iB,vcS])
  refine ⟨fun hc=> ⟨V0,V4,k+1,?_,⟨V0,V0⟩,V0⟩,fun hc=> ⟨V0,Z4 rfl ?_⟩⟩
  .have e:IntKind.wrap .u8 (Int.tdiv (m / 2 ^ k.toNat) 2)=m / 2 ^ (k+1).toNat:=by
    rw [Xz hd,Int.ediv_ediv_of_nonneg (XT (XI V0)),show (2:Int) ^ k.toNat*2=2 ^ (k+1).toNat by rw [<-K6];congr 1;omega]
    refine Zb9 (Kg hp.1.1 (XT (XI V0))) (XC (Ka _ hp.1.1) hp.1.2)
   rw [e]
  .have:k=i:=V0
   subst this
   rw [Int.tmod_eq_emod_of_nonneg hd]
   try rfl
def Zb1(f:Nat->Int):Nat->Int
 | 0=> 0
 | k+1=> f (7 - k)+256*Zb1 f k
theorem Zbx{f:Nat->Int}(h:∀ i,0<=f i/\f i < 256):∀ k,0<=Zb1 f k/\Zb1 f k < 256 ^ k
 | 0=> by simp [Zb1]
 | k+1=> by
  have:=Zbx h k
  have h2:=h (7 - k)
  simp only [Zb1,K6]
  omega
theorem Zv6(f:Nat->Int):Zb1 f 8=of8 f:=by simp [Zb1,of8]
theorem c70:Contract Try.prog cfg 70 ZbL:=by
 refine ZvO ?_
 intro b z _ hp
 obtain ⟨rfl,hl,hb⟩:=hp
 dsimp only at hl hb
 refine ZAG _ _ _ ?_;(try simp only [iB,vcT,forall_eq])
 have hf:∀ i,0<=b.getD i 0/\b.getD i 0 < 256:=by
  intro i
  by_cases hi:i < b.length
  .have:b.getD i 0∈b:=by
    simp only [List.getD,Q2 hi,QW]
    exact Xx hi
   exact hb _ this
  .rw [List.getD,Qq V0];simp
 refine Zb (ι:=Int) (fun i=> Z8c b 0 (Zb1 (fun i=> b.getD i 0) (7 - i).toNat) i) (fun i=> -1<=i/\i<=7) (fun i=> (i+1).toNat) 7 rfl ⟨V0,V0⟩ ?_
 rintro i ⟨h1,h2⟩
 refine ZrG _ _ _ _ _ _ ?_;(try simp only [iB,vcT,forall_eq])
 (simp only [iB,vcS]);(try simp only [iB,vcT])
 have hr:=Zbx (f:=fun i=> b.getD i 0) hf (7 - i).toNat
 refine ⟨fun hc=> ⟨V4,V0,V4,i - 1,?_,⟨V0,V0⟩,V0⟩,fun hc=> Ym rfl ?_⟩
 .have hp7:(256:Int) ^ (7 - i).toNat<=256 ^ 7:=by
   have:(256:Int) ^ (7 - i).toNat=((256 ^ (7 - i).toNat:Nat):Int):=by simp
   rw [this]
   have h7:(256:Nat) ^ (7 - i).toNat<=256 ^ 7:=Nat.pow_le_pow_right V0 V0
   have:((256:Nat) ^ 7:Nat)=72057594037927936:=V2
   omega
  have e7:(256:Int) ^ 7=72057594037927936:=V2
  have hfi:=hf i.toNat
  have e:Zb1 (fun i=> b.getD i 0) (7 - (i - 1)).toNat=b.getD i.toNat 0+256*Zb1 (fun i=> b.getD i 0) (7 - i).toNat:=by
   rw [show (7 - (i - 1)).toNat=(7 - i).toNat+1 by omega]
   simp only [Zb1]
   rw [show 7 - (7 - i).toNat=i.toNat by omega]
  rw [e,show (0+i).toNat=i.toNat by omega,Z4N (n:=Zb1 (fun i=> b.getD i 0) (7 - i).toNat*256) V0 V0,Z4N (n:=b.getD i.toNat 0) V0 V0,Z4N V0 V0]
  congr 1
  omega
 .have:i= -1:=V0
  subst this
  exact Zv6 _
theorem ZzB(f:Nat->Int){i:Nat}(h:i < 8):List.getD [f 0,f 1,f 2,f 3,f 4,f 5,f 6,f 7] i 0=f i:=by
 match i,h with
 | 0,_=> rfl
 | 1,_=> rfl
 | 2,_=> rfl
 | 3,_=> rfl
 | 4,_=> rfl
 | 5,_=> rfl
 | 6,_=> rfl
 | 7,_=> rfl
theorem Z5m(a b m:Int)(i:Nat):0<=YA a b m i/\YA a b m i < 256:=by
 unfold YA
 split
 .exact Z0X _ _
 .exact Z0X _ _
theorem c47:Contract Try.prog cfg 47 Z49:=by
 refine Zw6 c68 c69 c70 ?_
 intro a b m _ hp
 simp only [Zaq] at hp
 refine ZB3 _ _ _ _ ?_;(try simp only [iB,vcT,forall_eq])
 refine ⟨hp.1,hp.2.1,?_⟩
 refine Zb (ι:=Int) (fun i=> Z3G a b m i (if ((0:Nat):Int) < i then YA a b m 0 else Zg a 0) (if ((1:Nat):Int) < i then YA a b m 1 else Zg a 1) (if ((2:Nat):Int) < i then YA a b m 2 else Zg a 2) (if ((3:Nat):Int) < i then YA a b m 3 else Zg a 3)
  (if ((4:Nat):Int) < i then YA a b m 4 else Zg a 4) (if ((5:Nat):Int) < i then YA a b m 5 else Zg a 5) (if ((6:Nat):Int) < i then YA a b m 6 else Zg a 6) (if ((7:Nat):Int) < i then YA a b m 7 else Zg a 7)) (fun i=> 0<=i/\i<=8) (fun i=> (8 - i).toNat) 0 ?_ ⟨V0,V0⟩ ?_
 .simp [Z3G]
 .rintro i ⟨h1,h2⟩
  refine ZrP _ _ _ _ _ _ _ _ _ _ _ _ _ _ ?_;(try simp only [iB,vcT,forall_eq])
  (simp only [iB,vcS]);(try simp only [iB,vcT])
  refine ⟨fun hc=> ⟨⟨hp.2.2,h1,V3⟩,fun hn=> ⟨⟨h1,V0⟩,⟨h1,V0⟩,V4,i+1,?_,⟨V0,V0⟩,V0⟩,fun hn=> ⟨V4,i+1,?_,⟨V0,V0⟩,V0⟩⟩,fun hc=> ?_⟩
  .rw [ZzB (Zg b) V0]
   have hv:Zg b i.toNat=YA a b m i.toNat:=by
    unfold YA
    rw [show ((i.toNat:Nat):Int)=i by omega,hn]
    try rfl
   have st:∀ j:Nat,Z1v i j (Zg b i.toNat) (if (j:Int) < i then YA a b m j else Zg a j)=if (j:Int) < i+1 then YA a b m j else Zg a j:=fun j=> ZlP (F:=YA a b m) (G:=Zg a) h1 hv
   rw [st 0,st 1,st 2,st 3,st 4,st 5,st 6,st 7]
  .have hv:YA a b m i.toNat=Zg a i.toNat:=by
    unfold YA
    rw [show ((i.toNat:Nat):Int)=i by omega,hn]
    try rfl
   have st:∀ j:Nat,(if (j:Int) < i then YA a b m j else Zg a j)=if (j:Int) < i+1 then YA a b m j else Zg a j:=fun j=> Ztr (F:=YA a b m) (G:=Zg a) hv h1
   rw [st 0,st 1,st 2,st 3,st 4,st 5,st 6,st 7]
  .have:i=8:=V0
   subst this
   refine ⟨⟨rfl,rfl,?_⟩,Ym rfl ?_⟩
   .intro x hx
    simp at hx
    rcases hx with rfl | rfl | rfl | rfl | rfl | rfl | rfl | rfl <;> exact Z5m _ _ _ _
   .try rfl
theorem Zn0{α:Type}{l:List α}{i:Nat}(h:i < l.length)(d:α):l.drop i=l.getD i d ::l.drop (i+1):=by
 rw [QL h]
 simp [List.getD,h]
theorem YB{α:Type}{l:List α}{i:Int}(h0:0<=i)(h:i < l.length)(d:α):l.drop i.toNat=l.getD i.toNat d ::l.drop (i+1).toNat:=by
 rw [Zn0 V0 d,show i.toNat+1=(i+1).toNat by omega]
theorem Zh{α:Type}{l:List α}{i:Nat}(h:i < l.length)(d:α):l.getD i d∈l:=by
 simp only [List.getD,Q2 h,QW]
 exact Xx h
theorem YY(t:Tree):1<=Zn t:=by cases t;simp only [Zn];omega
theorem Z3r(e:Edit):1<=Zd e:=by cases e;simp only [Zd];omega
theorem Z60(k:Kid):Yw k=Zd k.e:=by cases k;rfl
theorem ZW(o:Op):ZA o=Zl o.l+Zd o.e:=by cases o;rfl
theorem J5:∀ {ks:List Tree} {t:Tree},t∈ks->Zn t<=Zl ks
 | x ::r,t,h=> by
  simp only [Zl]
  rcases Q6.1 h with rfl | h
  .omega
  .have:=J5 h;omega
theorem JA:∀ {ks:List Kid} {k:Kid},k∈ks->Zd k.e<=Zx ks
 | x ::r,k,h=> by
  simp only [Zx,Z60]
  rcases Q6.1 h with rfl | h
  .omega
  .have:=JA h;omega
theorem Yl:∀ {os:List Op} {o:Op},o∈os->ZA o<=Zr os
 | x ::r,o,h=> by
  simp only [Zr]
  rcases Q6.1 h with rfl | h
  .omega
  .have:=Yl h;omega
theorem Yb:∀ (ks:List Kid),ks.length<=Zx ks
 | []=> by simp [Zx]
 | k ::r=> by
  have:=Yb r
  have:=Z3r k.e
  simp only [Zx,Z60,Q7]
  omega
theorem ZU:∀ (os:List Op),os.length<=Zr os
 | []=> by simp [Zr]
 | o ::r=> by
  have:=ZU r
  have:=Z3r o.e
  simp only [Zr,ZW,Q7]
  omega
theorem Zc7:∀ {ks:List Tree} {t:Tree},Z22 ks->t∈ks->Z23 t
 | x ::r,t,hs,h=> by
  simp only [Z22] at hs
  rcases Q6.1 h with rfl | h
  .exact hs.1
  .exact Zc7 hs.2 h
theorem Za7:∀ {ks:List Kid} {k:Kid},Z4e ks->k∈ks->Z1z k.e
 | x ::r,k,hs,h=> by
  simp only [Z4e] at hs
  rcases Q6.1 h with rfl | h
  .have:=hs.1;obtain ⟨a,e⟩:=k;exact this
  .exact Za7 hs.2 h
theorem Za6:∀ {os:List Op} {o:Op},Z4d os->o∈os->o.l.length<=17592186044416/\Z22 o.l/\Z1z o.e
 | x ::r,o,hs,h=> by
  simp only [Z4d] at hs
  rcases Q6.1 h with rfl | h
  .have:=hs.1;obtain ⟨a,b,c,e⟩:=o;exact this
  .exact Za6 hs.2 h
theorem Ja:∀ {ks:List Tree} {t:Tree},Yg ks->t∈ks->rng t
 | x ::r,t,hs,h=> by
  simp only [Yg] at hs
  rcases Q6.1 h with rfl | h
  .exact hs.1
  .exact Ja hs.2 h
theorem YU:∀ {ks:List Kid} {k:Kid},JX ks->k∈ks->InR k.at_/\ZK k.e
 | x ::r,k,hs,h=> by
  simp only [JX] at hs
  rcases Q6.1 h with rfl | h
  .have:=hs.1;obtain ⟨a,e⟩:=k;exact this
  .exact YU hs.2 h
theorem Z08:∀ {os:List Op} {o:Op},JP os->o∈os->YD o
 | x ::r,o,hs,h=> by
  simp only [JP] at hs
  rcases Q6.1 h with rfl | h
  .exact hs.1
  .exact Z08 hs.2 h
theorem JQ{o:Op}(h:YD o):InR o.kind/\InR o.n/\Yg o.l/\ZK o.e:=by obtain ⟨a,b,c,e⟩:=o;exact h
theorem ZmM(k:Kid)(d n:Int):Z2L k d n=Z0q k.e d n:=by cases k;rfl
theorem Zp0(o:Op)(d n:Int):Z5t o d n=if Zy o.l 80 n < 0 then Zy o.l 80 n else Z0q o.e d (Zy o.l 80 n):=by cases o;rfl
theorem Z9k(t:Tree)(n:Int)(h: -1<=n): -1<=sh1 t n/\sh1 t n<=n:=by
 unfold sh1
 split
 .omega
 .have:=YR t 80 n;omega
mutual
theorem Z1q:∀ (e:Edit) (d n:Int),-1<=Z0q e d n/\Z0q e d n<=max n (-1)
 | .mk _ o nw w ks _ os,d,n=> by
  simp only [Z0q]
  split
  .omega
  .have h1:=YR o 80 (n - 1 - w.length - os.length)
   have h2:=Z9k nw _ h1.1
   have h3:=Z1O ks (d - 1) _ h2.1
   have h4:=Z1N os (d - 1) _ h3.1
   omega
theorem Z1O:∀ (ks:List (KidOf Edit)) (d n:Int),-1<=n->-1<=Z03 ks d n/\Z03 ks d n<=n
 | [],d,n,h=> by simp only [Z03];omega
 | k ::r,d,n,h=> by
  simp only [Z03]
  split
  .omega
  .have h1:=Z6q k d n
   have h2:=Z1O r d _ h1.1
   omega
theorem Z6q:∀ (k:KidOf Edit) (d n:Int),-1<=Z2L k d n/\Z2L k d n<=max n (-1)
 | ⟨_,e⟩,d,n=> by
  simp only [Z2L]
  exact Z1q e d n
theorem Z1N:∀ (os:List (OpOf Edit)) (d n:Int),-1<=n->-1<=Z0n os d n/\Z0n os d n<=n
 | [],d,n,h=> by simp only [Z0n];omega
 | o ::r,d,n,h=> by
  simp only [Z0n]
  split
  .omega
  .have h1:=Z87 o d n h
   have h2:=Z1N r d _ h1.1
   omega
theorem Z87:∀ (o:OpOf Edit) (d n:Int),-1<=n->-1<=Z5t o d n/\Z5t o d n<=n
 | ⟨_,_,l,e⟩,d,n,h=> by
  simp only [Z5t]
  have h1:=Z0M l 80 n h
  split
  .omega
  .have h2:=Z1q e d (Zy l 80 n)
   omega
end
theorem ZnR{t:Tree}{n:Int}(h:0<=sh1 t n):(Zn t:Int)+sh1 t n<=n:=by
 unfold sh1 at*
 split at h
 .omega
 .rename_i hn
  rw [if_neg hn]
  exact Z1J t 80 n h
mutual
theorem Z76:∀ (e:Edit) (d n:Int),0<=Z0q e d n->(Zd e:Int)+Z0q e d n<=n
 | .mk _ o nw w ks _ os,d,n,h=> by
  simp only [Z0q] at h ⊢
  split at h
  .omega
  .rename_i hc
   rw [if_neg hc]
   have r1:=YR o 80 (n - 1 - w.length - os.length)
   have r2:=Z9k nw _ r1.1
   have r3:=Z1O ks (d - 1) _ r2.1
   have r4:=Z1N os (d - 1) _ r3.1
   have m4:=ZaK os (d - 1) _ h
   have m3:=ZaL ks (d - 1) (sh1 nw (ZF o 80 (n - 1 - w.length - os.length))) V0
   have m2:=ZnR (t:=nw) (n:=ZF o 80 (n - 1 - w.length - os.length)) V0
   have m1:=Z1J o 80 (n - 1 - w.length - os.length) V0
   simp only [Zd]
   omega
theorem ZaL:∀ (ks:List (KidOf Edit)) (d n:Int),0<=Z03 ks d n->(Zx ks:Int)+Z03 ks d n<=n
 | [],d,n,h=> by simp only [Z03,Zx];omega
 | k ::r,d,n,h=> by
  simp only [Z03] at h ⊢
  split at h
  .omega
  .rename_i hc
   rw [if_neg hc]
   have r1:=Z6q k d n
   have r2:=Z1O r d _ r1.1
   have m2:=ZaL r d _ h
   have m1:=ZfR k d n V0
   simp only [Zx]
   omega
theorem ZfR:∀ (k:KidOf Edit) (d n:Int),0<=Z2L k d n->(Yw k:Int)+Z2L k d n<=n
 | ⟨_,e⟩,d,n,h=> by
  simp only [Z2L,Yw] at h ⊢
  exact Z76 e d n h
theorem ZaK:∀ (os:List (OpOf Edit)) (d n:Int),0<=Z0n os d n->(Zr os:Int)+Z0n os d n<=n
 | [],d,n,h=> by simp only [Z0n,Zr];omega
 | o ::r,d,n,h=> by
  simp only [Z0n] at h ⊢
  split at h
  .omega
  .rename_i hc
   rw [if_neg hc]
   have r1:=Z87 o d n V0
   have r2:=Z1N r d _ r1.1
   have m2:=ZaK r d _ h
   have m1:=ZhO o d n V0
   simp only [Zr]
   omega
theorem ZhO:∀ (o:OpOf Edit) (d n:Int),0<=Z5t o d n->(ZA o:Int)+Z5t o d n<=n
 | ⟨_,_,l,e⟩,d,n,h=> by
  simp only [Z5t,ZA] at h ⊢
  split at h
  .omega
  .rename_i hc
   rw [if_neg hc]
   have m2:=Z76 e d _ h
   have r2:=Z1q e d (Zy l 80 n)
   have m1:=Z2U l 80 n V0
   omega
end
theorem Z3N{e:Edit}(h:0<=Z0q e 80 3000):Zd e<=3000:=by
 have:=Z76 e 80 3000 h
 omega
theorem ZhL(t:Tree):t.words.length+t.kids.length < Zn t:=by
 obtain ⟨k,w,ks⟩:=t
 have:=Zw ks
 simp only [Zn,Tree.words_mk,Tree.kids_mk]
 omega
theorem Y3(e:Edit):Zn e.old+Zn e.new+e.words.length+e.ops.length+Zx e.kids+Zr e.ops < Zd e:=by
 obtain ⟨k,o,n,w,ks,l,os⟩:=e
 simp only [Zd,Edit.old_mk,Edit.new_mk,Edit.words_mk,Edit.ops_mk,Edit.kids_mk]
 omega
theorem c29:Contract Try.prog cfg 29 Z4b:=by
 refine Zwg ?_
 intro t _ hp
 simp only [Z5c] at hp
 have:=ZhL t
 refine ZBl t _ ?_;(try simp only [iB,vcT,forall_eq])
 refine ⟨fun _=> by unfold InR;omega,Z4 rfl ?_⟩
 rw [Qk]
 simp only [ZR]
 (simp only [iB,vcS])
 omega
theorem c30:Contract Try.prog cfg 30 Z9g:=by
 refine Zwf c47 ?_
 intro w m _ hp
 refine ZBk _ _ _ ?_;(try simp only [iB,vcT,forall_eq])
 refine ⟨⟨hp.1,V3,hp.2⟩,Z4 rfl ?_⟩
 try rfl
theorem c48:Contract Try.prog cfg 48 Z9e:=by
 refine Zw5 c29 ?_
 intro e _ hp
 simp only [Zcu] at hp
 have h1:=Y3 e
 have h2:=Yb e.kids
 refine ZB2 e _ ?_;(try simp only [iB,vcT,forall_eq])
 try (simp only [Tree.eta,Edit.eta,Tree.kind_mk,Tree.words_mk,Tree.kids_mk])
 refine ⟨fun _=> by simp only [Z5c];omega,fun _=> by simp only [Z5c];omega,fun _=> by unfold InR;omega,fun _=> by unfold InR;omega,Z4 rfl ?_⟩
 rw [Qk]
 simp only [Z11]
 (simp only [iB,vcS])
 constructor
 .rintro ⟨⟨⟨⟨h3,h4⟩,h5⟩,h6⟩,h7⟩;exact ⟨⟨⟨h3,h4⟩,h5⟩,V0⟩
 .rintro ⟨⟨⟨h3,h4⟩,h5⟩,h6⟩;exact ⟨⟨⟨⟨h3,h4⟩,h5⟩,V0⟩,V0⟩
theorem Zxk (e:Edit) (x4 x5 i:Int) (N0:LSt U->Prop) (Q:AExit->LSt U->Prop) (h1:0<=x4/\x4<=1048576) (h2:0<=x5/\x5<=1048576) (hi:0<=i) (hlen:e.ops.length<=20000000000)
  (ho:∀ o∈e.ops,(0<=o.n/\o.n<=1048576)/\o.l.length<=20000000000)
  (h:i < e.ops.length->N0 (Z2m e (min (if (e.ops.getD i.toNat Op.nil).kind=2 then x4 else x4+Z5 (e.ops.getD i.toNat Op.nil)) 1048576) (min (if (e.ops.getD i.toNat Op.nil).kind=1 then x5 else x5+Z5 (e.ops.getD i.toNat Op.nil)) 1048576) (i+1)))
  (h':¬i < e.ops.length->Q .ret (⟨[(2,.c (.int .i64 x4)),(3,.c (.int .i64 x5))],[],[]⟩:LSt U)):Zxx e x4 x5 i N0 Q:=by
 refine Zs8 _ _ _ _ _ _ ?_;(try simp only [iB,vcT,forall_eq])
 (simp only [iB,vcS]);(try simp only [iB,vcT])
 refine ⟨fun hc=> ?_,h'⟩
 have hn:=h hc
 have hm:=ho _ (Zh (l:=e.ops) (i:=i.toNat) V0 Op.nil)
 have k1:∀ k,k=Z5 (e.ops.getD i.toNat Op.nil)->ZxB e x4 x5 i k N0 Q:=by
  intro k hk
  have hkr:0<=k/\k<=60000000000:=by
   rw [hk];unfold Z5;split <;> omega
  have k2:∀ y,y=(if (e.ops.getD i.toNat Op.nil).kind=2 then x4 else x4+k)->ZxA e x5 i k y N0 Q:=by
   intro y hy
   have hyr:0<=y/\y<=100000000000:=by rw [hy];split <;> omega
   have k3:∀ z,z=(if (e.ops.getD i.toNat Op.nil).kind=1 then x5 else x5+k)->Zxz e i k y z N0 Q:=by
    intro z hz
    have hzr:0<=z/\z<=100000000000:=by rw [hz];split <;> omega
    have k4:∀ u,u=min y 1048576->Zxy e i y z u N0 Q:=by
     intro u hu
     refine Zs9 _ _ _ _ _ _ _ ?_;(try simp only [iB,vcT,forall_eq])
     (simp only [iB,vcS]);(try simp only [iB,vcT])
     rw [<-hk,<-hy,<-hz,<-hu] at hn
     refine ⟨fun hq=> ⟨V4,?_⟩,fun hq=> ⟨V4,?_⟩⟩
     .rw [show min z 1048576=1048576 by omega] at hn;exact hn
     .rw [show min z 1048576=z by omega] at hn;exact hn
    refine Zsa _ _ _ _ _ _ _ ?_;(try simp only [iB,vcT,forall_eq])
    (simp only [iB,vcS]);(try simp only [iB,vcT])
    exact ⟨fun hq=> k4 _ V0,fun hq=> k4 _ V0⟩
   refine Zsb _ _ _ _ _ _ _ ?_;(try simp only [iB,vcT,forall_eq])
   (simp only [iB,vcS]);(try simp only [iB,vcT])
   exact ⟨fun hq=> ⟨V4,k3 _ (by rw [if_neg hq])⟩,fun hq=> k3 _ (by rw [if_pos hq])⟩
  refine Zsc _ _ _ _ _ _ _ ?_;(try simp only [iB,vcT,forall_eq])
  (simp only [iB,vcS]);(try simp only [iB,vcT])
  exact ⟨fun hq=> ⟨V4,k2 _ (by rw [if_neg hq])⟩,fun hq=> k2 _ (by rw [if_pos hq])⟩
 exact ⟨⟨hi,hc⟩,V4,fun hq=> k1 _ (by unfold Z5;rw [if_pos hq]),fun hq=> k1 _ (by unfold Z5;rw [if_neg hq])⟩
theorem c32:Contract Try.prog cfg 32 Z4a:=by
 refine Zwe ?_
 intro e _ hp
 simp only [Zhg] at hp
 have h1:=Y3 e
 refine ZBi e _ ?_;(try simp only [iB,vcT,forall_eq])
 refine Zb (ι:=Int × Int × Int) (fun p=> Z2m e p.1 p.2.1 p.2.2) (fun p=> 0<=p.2.2/\p.2.2<=e.ops.length/\(0<=p.1/\p.1<=1048576)/\(0<=p.2.1/\p.2.1<=1048576)/\Z0m (e.ops.drop p.2.2.toNat) p.1=Z0m e.ops 0/\Z0l (e.ops.drop p.2.2.toNat) p.2.1=Z0l e.ops 0) (fun p=> ((e.ops.length:Int) - p.2.2).toNat) (0,0,0) rfl ⟨V3,V3,V3,V3,by simp,by simp⟩ ?_
 rintro ⟨x4,x5,i⟩ ⟨h2,h3,h4,h5,h6,h7⟩
 dsimp only at*
 have ho:∀ o∈e.ops,(0<=o.n/\o.n<=1048576)/\o.l.length<=20000000000:=by
  intro o hm
  refine ⟨hp.2 o hm,?_⟩
  have a1:=Yl hm
  have a2:=Zw o.l
  rw [ZW] at a1
  omega
 refine Zxk e x4 x5 i _ _ h4 h5 h2 V0 ho (fun hc=> ⟨(_,_,i+1),rfl,⟨V3,V3,?_,?_,?_,?_⟩,V3⟩) (fun hc=> ?_)
 .have hm:=ho _ (Zh (l:=e.ops) (i:=i.toNat) V0 Op.nil)
  dsimp only
  unfold Z5
  split <;> (try split) <;> omega
 .have hm:=ho _ (Zh (l:=e.ops) (i:=i.toNat) V0 Op.nil)
  dsimp only
  unfold Z5
  split <;> (try split) <;> omega
 .rw [YB h2 hc Op.nil] at h6
  exact h6
 .rw [YB h2 hc Op.nil] at h7
  exact h7
 .rw [Q8 V0] at h6 h7
  simp only [Z0m,Z0l] at h6 h7
  simp only [Zo5,<-h6,<-h7]
  exact ⟨⟨rfl,⟨⟨rfl,rfl⟩,trivial⟩,rfl,⟨⟨rfl,rfl⟩,trivial⟩,trivial⟩,trivial⟩
theorem Zjj{l:List Kid}{d n:Int}(h:n < 0):Z03 l d n=n:=by cases l <;> simp [Z03,h]
theorem Zji{l:List Op}{d n:Int}(h:n < 0):Z0n l d n=n:=by cases l <;> simp [Z0n,h]
theorem Zff{l:List Tree}{d n:Int}(h:n < 0):Zy l d n=n:=by cases l <;> simp [Zy,h]
theorem Zm2{e:Edit}(h:Z1z e):Z23 e.old/\Z23 e.new/\e.words.length<=17592186044416/\e.kids.length<=17592186044416/\e.ops.length<=17592186044416/\Z4e e.kids/\Z4d e.ops:=by
 obtain ⟨k,o,n,w,ks,l,os⟩:=e;exact h
theorem Zp1(e:Edit)(d n:Int):Z0q e d n=if d=0\/n - 1 - e.words.length - e.ops.length < 0 then -1 else Z0n e.ops (d - 1) (Z03 e.kids (d - 1) (sh1 e.new (ZF e.old 80 (n - 1 - e.words.length - e.ops.length)))):=by
 obtain ⟨k,o,nw,w,ks,l,os⟩:=e;rfl
theorem c28:Contract Try.prog cfg 28 ZbY:=by
 refine Zwh c25 ?_
 rintro N e d n _ hp hN
 simp only [Zcw,ZhB] at hp hN
 obtain ⟨hs,hd0,hd1,hn0,hn1⟩:=hp
 obtain ⟨so,sn,lw,lk,lo,sk,sos⟩:=Zm2 hs
 have hme:=Y3 e
 have hres:=Zp1 e d n
 refine ZBm N e d n _ ?_;(try simp only [iB,vcT,forall_eq])
 (simp only [iB,vcS]);(try simp only [iB,vcT])
 try (simp only [Tree.eta,Edit.eta,Tree.kind_mk,Tree.words_mk,Tree.kids_mk])
 refine ⟨V4,V4,V4,fun hc=> Ym rfl (by rw [hres,if_pos hc]),fun hc=> ?_⟩
 rw [JI] at hres
 have r1:=YR e.old 80 (n - 1 - e.words.length - e.ops.length)
 have p68:∀ t m,Z23 t->-1<=m->m<=4611686018427387904->Z7M (t,80,m,()):=fun t m h1 h2 h3=> ⟨h1,V3,V3,h2,h3⟩
 have k0:∀ x,x=sh1 e.new (ZF e.old 80 (n - 1 - e.words.length - e.ops.length))->ZxC N e d n x (Yv cfg Try.f28.ntmps Try.f28.results.toList (ZkW (e,d,n,())) []):=by
  intro x hx
  have rx:=Z9k e.new _ r1.1
  rw [<-hx] at rx hres
  refine Zsh N e d n x _ ?_;(try simp only [iB,vcT,forall_eq])
  refine Zb (ι:=Int × Int) (fun p=> Z8u e d n p.1 p.2) (fun p=> 0<=p.2/\p.2<=e.kids.length/\-1<=p.1/\p.1<=4611686018427387904/\Z03 (e.kids.drop p.2.toNat) (d - 1) p.1=Z03 e.kids (d - 1) x) (fun p=> ((e.kids.length:Int) - p.2).toNat) (x,0) rfl ⟨V3,V3,V3,V3,by simp⟩ ?_
  rintro ⟨y,i⟩ ⟨h1,h2,h3,h4,h5⟩
  dsimp only at*
  refine Zsg N e d n y i _ _ ?_;(try simp only [iB,vcT,forall_eq])
  (simp only [iB,vcS]);(try simp only [iB,vcT])
  try (simp only [Tree.eta,Edit.eta,Tree.kind_mk,Tree.words_mk,Tree.kids_mk])
  refine ⟨fun hi=> ?_,fun hi=> ?_⟩
  .have hmem:=Zh (l:=e.kids) (i:=i.toNat) V0 (KidOf.mk 0 Edit.nil)
   have hsm:=Za7 sk hmem
   have hmm:=JA hmem
   rw [YB h1 hi.1 (KidOf.mk 0 Edit.nil)] at h5
   simp only [Z03] at h5
   rw [JI,ZmM] at h5
   have rr:=Z1q (e.kids.getD i.toNat (KidOf.mk 0 Edit.nil)).e (d - 1) y
   exact ⟨⟨h1,hi.1⟩,V4,⟨hsm,V3,V3,h3,h4⟩,by simp only [ZhB];omega,V4,(_,i+1),rfl,⟨V3,V3,V3,V3,h5⟩,V3⟩
  .have hy:Z03 e.kids (d - 1) x=y:=by
    rw [<-h5]
    by_cases hlt:i < e.kids.length
    .exact Zjj V0
    .rw [Q8 V0];try rfl
   rw [hy] at hres
   refine Zb (ι:=Int × Int) (fun p=> Z5A e d n p.1 p.2) (fun p=> 0<=p.2/\p.2<=e.ops.length/\-1<=p.1/\p.1<=4611686018427387904/\Z0n (e.ops.drop p.2.toNat) (d - 1) p.1=Z0n e.ops (d - 1) y) (fun p=> ((e.ops.length:Int) - p.2).toNat) (y,0) rfl ⟨V3,V3,h3,h4,by simp⟩ ?_
   rintro ⟨z,j⟩ ⟨h6,h7,h8,h9,h10⟩
   dsimp only at*
   refine Zsf N e d n z j _ _ ?_;(try simp only [iB,vcT,forall_eq])
   (simp only [iB,vcS]);(try simp only [iB,vcT])
   refine ⟨fun hj=> ?_,fun hj=> ?_⟩
   .have hmem:=Zh (l:=e.ops) (i:=j.toNat) V0 Op.nil
    have hsm:=Za6 sos hmem
    have hmm:=Yl hmem
    rw [ZW] at hmm
    rw [YB h6 hj.1 Op.nil] at h10
    simp only [Z0n] at h10
    rw [JI,Zp0] at h10
    refine Zb (ι:=Int × Int) (fun p=> Z8t e d n j p.1 p.2) (fun p=> 0<=p.2/\p.2<=(e.ops.getD j.toNat Op.nil).l.length/\-1<=p.1/\p.1<=4611686018427387904/\Zy ((e.ops.getD j.toNat Op.nil).l.drop p.2.toNat) 80 p.1=Zy (e.ops.getD j.toNat Op.nil).l 80 z) (fun p=> (((e.ops.getD j.toNat Op.nil).l.length:Int) - p.2).toNat) (z,0) rfl ⟨V3,V3,h8,h9,by simp⟩ ?_
    rintro ⟨u,k⟩ ⟨g1,g2,g3,g4,g5⟩
    dsimp only at*
    refine Zse N e d n j u k _ _ _ ?_;(try simp only [iB,vcT,forall_eq])
    (simp only [iB,vcS]);(try simp only [iB,vcT])
    try (simp only [Tree.eta,Edit.eta,Tree.kind_mk,Tree.words_mk,Tree.kids_mk])
    refine ⟨⟨h6,hj.1⟩,fun hk=> ?_,fun hk=> ?_⟩
    .have hmt:=Zh (l:=(e.ops.getD j.toNat Op.nil).l) (i:=k.toNat) V0 Tree.nil
     rw [YB g1 hk.1 Tree.nil] at g5
     simp only [Zy] at g5
     rw [JI] at g5
     have rr:=YR ((e.ops.getD j.toNat Op.nil).l.getD k.toNat Tree.nil) 80 u
     exact ⟨⟨h6,hj.1⟩,⟨g1,hk.1⟩,p68 _ _ (Zc7 hsm.2.1 hmt) g3 g4,V4,(_,k+1),rfl,⟨V3,V3,V3,V3,g5⟩,V3⟩
    .have hu:Zy (e.ops.getD j.toNat Op.nil).l 80 z=u:=by
      rw [<-g5]
      by_cases hlt:k < (e.ops.getD j.toNat Op.nil).l.length
      .exact Zff V0
      .rw [Q8 V0];try rfl
     rw [hu] at h10
     have rr:=Z1q (e.ops.getD j.toNat Op.nil).e (d - 1) u
     refine ⟨fun hq=> ⟨⟨h6,hj.1⟩,V4,⟨hsm.2.2,V3,V3,g3,g4⟩,by simp only [ZhB];omega,V4,(_,j+1),rfl,⟨V3,V3,V3,V3,?_⟩,V3⟩,
      fun hq=> ⟨V4,(_,j+1),rfl,⟨V3,V3,V3,V3,?_⟩,V3⟩⟩
     .rw [JI] at h10;exact h10
     .rw [V1] at h10;exact h10
   .refine Ym rfl ?_
    rw [hres,<-h10]
    by_cases hlt:j < e.ops.length
    .exact (Zji V0).symm
    .rw [Q8 V0];try rfl
 refine ⟨p68 _ _ so V0 V0,fun hq=> ⟨p68 _ _ sn r1.1 V0,k0 _ ?_⟩,fun hq=> k0 _ ?_⟩
 .unfold sh1;rw [JI]
 .unfold sh1;rw [V1]
theorem c14:Contract Try.prog cfg 14 Z4U:=by
 refine Zws c28 ?_
 intro e _ hp
 refine ZBA e _ ?_;(try simp only [iB,vcT,forall_eq])
 try (simp only [Tree.eta,Edit.eta,Tree.kind_mk,Tree.words_mk,Tree.kids_mk])
 exact ⟨⟨hp,V3,V3,V3,V3⟩,Z4 rfl rfl⟩
end Go.AM.Ytfapacabjkhepaa
