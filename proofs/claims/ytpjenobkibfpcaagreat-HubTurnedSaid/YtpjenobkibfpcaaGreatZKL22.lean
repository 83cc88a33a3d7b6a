import Derived.Test.YtpjenobkibfpcaaGreatZKL07
set_option linter.unusedSimpArgs false
set_option linter.unusedVariables false
namespace Go.AM.YtpjenobkibfpcaaGreat
open Go.AM Go.Proofs
theorem Z4{n k:Nat}{rs:List ResultVar}{b b':Bool}(hr:rs=[ResultVar.tmp k])(h:b=b'):ZX cfg n rs (.c (.bool b')) [] .ret (⟨[(k,.c (.bool b))],[],[]⟩:LSt U):=by
 subst hr h
 have d:Nat.beq k k=true:=Nat.beq_refl k
 simp [ZX,ZDP,Zgz,Zgy,Z7l,Z9U,LSt.toF,Zfh,d,Ze6,Z3Y,YQ,JW,leR,leL,leC,Zre]
theorem YZ{n k:Nat}{rs:List ResultVar}{K:IntKind}{b b':Int}(hr:rs=[ResultVar.tmp k])(h:b=b'):ZX cfg n rs (.c (.int K b')) [] .ret (⟨[(k,.c (.int K b))],[],[]⟩:LSt U):=by
 subst hr h
 have d:Nat.beq k k=true:=Nat.beq_refl k
 simp [ZX,ZDP,Zgz,Zgy,Z7l,Z9U,LSt.toF,Zfh,d,Ze6,Z3Y,YQ,JW,leR,leL,leC,Zre]
theorem ZDr:Contract Tryz.prog cfg 129 Z8q:=by
 refine Zy7 ?_
 intro c _ _
 refine ZFx _ _ ?_;(try simp only [iB,vcT,forall_eq])
 (simp only [iB,vcS]);(try simp only [iB,vcT])
 refine ⟨fun h=> YZ rfl ?_,fun h=> ⟨fun h=> YZ rfl ?_,fun h=> ⟨fun h=> YZ rfl ?_,fun h=> ⟨fun h=> YZ rfl ?_,fun h=> ⟨fun h=> YZ rfl ?_,fun h=> ⟨fun h=> YZ rfl ?_,fun h=> YZ rfl ?_⟩⟩⟩⟩⟩⟩ <;> simp only [wd] <;> simp [*]
theorem Zro(c:Int): -1<=wd c/\wd c<=64:=by
 unfold wd
 omega
theorem ZkL(n:Int)(h0:0<=n)(h1:n < 18446744073709551616):IntKind.wrap .u64 (Int.tdiv n 2)=n / 2:=by
 rw [XI h0]
 simp [IntKind.wrap,IntKind.signed,IntKind.bits]
 omega
theorem c81:Contract Tryz.prog cfg 81 ZcY:=by
 refine ZBM ZDr ?_
 intro c n _ u
 simp only [Znl] at u
 have hw:=Zro c
 refine ZH4 _ _ _ ?_;(try simp only [iB,vcT,forall_eq])
 (simp only [iB,vcS]);(try simp only [iB,vcT])
 refine ⟨trivial,fun h=> Z4 rfl ?_,fun h=> ?_⟩
 .simp only [Zie]
  simp
  omega
 .refine Ze (ι:=Int × Int) (fun p=> Z9e c n p.1 p.2) (fun p=> 0<=p.2/\p.2<=wd c/\0<=p.1/\p.1 < 18446744073709551616/\(n < 2 ^ (wd c).toNat↔p.1 < 2 ^ (wd c - p.2).toNat)) (fun p=> (wd c - p.2).toNat) (n,0) rfl ⟨V0,V0,V0,V0,by simp⟩ ?_
  rintro ⟨m,i⟩ ⟨h1,h2,s,h4,d⟩
  dsimp only at*
  refine Zwt _ _ _ _ _ _ ?_;(try simp only [iB,vcT,forall_eq])
  (simp only [iB,vcS]);(try simp only [iB,vcT])
  refine ⟨fun hc=> ⟨V0,V2,(IntKind.wrap .u64 (Int.tdiv m 2),i+1),rfl,?_,V0⟩,fun hc=> Z4 rfl ?_⟩
  .rw [ZkL m s h4]
   refine ⟨V0,V0,V0,V0,?_⟩
   dsimp only
   rw [d,show (wd c - i).toNat=(wd c - (i+1)).toNat+1 by omega]
   omega
  .have e:(wd c - i).toNat=0:=V0
   rw [e] at d
   simp only [Zie]
   grind
theorem ZCN:Contract Tryz.prog cfg 232 Z82:=by
 refine Zxh ?_
 intro c _ _
 refine ZEF _ _ ?_;(try simp only [iB,vcT,forall_eq])
 (simp only [iB,vcS]);(try simp only [iB,vcT])
 have d:=Zro c
 refine ⟨fun h=> ?_,fun h=> ⟨V0,?_⟩⟩
 .have e:wd c= -1:=by unfold wd;omega
  simp only [Zl5,e]
  exact ⟨⟨rfl,⟨⟨rfl,rfl⟩,trivial⟩,rfl,⟨rfl,trivial⟩,trivial⟩,trivial⟩
 .have hc:c=0\/c=1\/c=2\/c=3\/c=4\/c=5:=V0
  rcases hc with rfl | rfl | rfl | rfl | rfl | rfl <;> exact ⟨⟨rfl,⟨⟨rfl,rfl⟩,trivial⟩,rfl,⟨rfl,trivial⟩,trivial⟩,trivial⟩
theorem Zvh(n:Int)(w:Nat)(h:0<=n):(Int.fdiv n (2 ^ w)=0)↔n < 2 ^ w:=by
 have s:(0:Int) < 2 ^ w:=XV V0
 rw [Int.fdiv_eq_ediv_of_nonneg _ V0]
 constructor
 .intro d
  have:=Int.lt_ediv_add_one_mul_self n s
  grind
 .intro d
  exact Int.ediv_eq_zero_of_lt h d
theorem ZCT:Contract Tryz.prog cfg 221 ZcY:=by
 refine Zxp ZCN ?_
 intro c n _ d
 simp only [Znl] at d
 have u:=Zro c
 refine ZEN _ _ _ ?_;(try simp only [iB,vcT,forall_eq])
 refine ⟨trivial,fun h=> by omega,fun a b=> by grind,Z4 rfl ?_⟩
 simp only [Zie]
 by_cases h0:0<=wd c
 .rw [Jk]
  simp only [h0,decide_true,cond_true,true_and]
  by_cases h64:wd c=64
  .grind
  .have:((wd c)==64)=false:=by simpa using h64
   rw [this,cond_false,Qo]
   have s:min (wd c).toNat (IntKind.bits .u64)=(wd c).toNat:=by
    show min (wd c).toNat 64=_
    omega
   rw [s]
   simp only [beq_iff_eq,decide_eq_true_eq]
   exact Zvh n _ d.1
 .simp [h0]
theorem Zr3:Contract Tryz.prog cfg 125 Z1c:=by
 refine Zy8 ?_
 intro c _ _
 refine ZFz _ _ ?_;(try simp only [iB,vcT,forall_eq])
 refine Z4 rfl ?_
 rw [Qo]
 (simp only [iB,vcS])
theorem ZqX:Contract Tryz.prog cfg 220 Z2G:=by
 refine Zxq ?_
 intro c _ _
 refine ZEO _ _ ?_;(try simp only [iB,vcT,forall_eq])
 refine Z4 rfl ?_
 rw [Qo]
 (simp only [iB,vcS])
theorem Zj5{t:Tree}(h:rng t){i:Nat}(hi:i < t.words.length):0<=t.words.getD i 0/\t.words.getD i 0 < 18446744073709551616:=by
 obtain ⟨k,w,ks⟩:=t
 simp only [rng] at h
 simp_all
theorem ZDa:Contract Tryz.prog cfg 181 Z8l:=by
 refine ZxK ZqX ZCT ?_
 intro l t _ s
 simp only [ZhD] at s
 refine ZF8 _ _ _ ?_;(try simp only [iB,vcT,forall_eq])
 (simp only [iB,vcS]);(try simp only [iB,vcT])
 refine ⟨trivial,fun d=> ⟨fun _=> by unfold InR;omega,fun h=> by omega,fun h=> Zj5 s V0,Z4 rfl ?_⟩,fun d=> ⟨fun h=> Z4 rfl ?_,fun h=> Z4 rfl ?_⟩⟩
 .simp only [Z1x,if_pos d,Int.toNat_zero]
  grind
 .simp only [Z1x,if_neg d,if_pos h]
  grind
 .simp only [Z1x,if_neg d,if_neg h]
  grind
theorem ZaX{l:Int}{ks:List Tree}{i:Int}{d:Int}(h0:0<=i)(h:i < ks.length):
  Y2 l (ks.drop i.toNat) d=((Z1x l (ks.getD i.toNat Tree.nil) && Zb (ks.getD i.toNat Tree.nil) d) && Y2 l (ks.drop (i+1).toNat) d):=by
 have e:(i+1).toNat=i.toNat+1:=V0
 rw [QI V0,e]
 simp only [Y2,List.getD,Q0 (show i.toNat < ks.length by omega),XH]
theorem Zdp:∀ {ks:List Tree} {i:Nat},Y6 ks->i < ks.length->rng (ks.getD i Tree.nil)
 | t ::_,0,h,_=> by simp only [Y6] at h;exact h.1
 | _ ::r,i+1,h,hi=> by simp only [Y6] at h;exact Zdp (ks:=r) (i:=i) h.2 (by simpa using hi)
theorem Zk7(t:Tree):Z1x 1 t=decide (t.kind≠10):=by simp [Z1x]
theorem ZDq:Contract Tryz.prog cfg 130 Z8p:=by
 refine Zy6 Zr3 ZDa ?_
 rintro N ⟨k,ws,ks⟩ d _ hp hN
 simp only [Z54,Zb8,Zj,rng] at hp hN
 have ah:∀ b,d≠0->Zb (.mk k ws ks) d=(b && Y2 k ks (d - 1))->b=true->
   Zp (awp cfg (Z1 (Z4b N)) (Jf cfg (Z1 (Z4b N))) Tryz.f130.ntmps Zga (cd Tryz.f130 [1,1,0,1,0,0])) (Z3z (.mk k ws ks) d 0) (AExit.inBlock 1 (ZFZ cfg (Z1 (Z4b N)) (Jf cfg (Z1 (Z4b N))) Tryz.f130.ntmps Zga (cd Tryz.f130 [1,1,1]) (ZX cfg Tryz.f130.ntmps Tryz.f130.results.toList (Zhg (.mk k ws ks,d,())) []))):=by
  intro b ay hb am
  subst am
  rw [QB] at hb
  refine Ze (ι:=Int) (fun p=> Z3z (.mk k ws ks) d p) (fun p=> 0<=p/\p<=ks.length/\Zb (.mk k ws ks) d=Y2 k (ks.drop p.toNat) (d - 1)) (fun p=> ((ks.length:Int) - p).toNat) 0 rfl ⟨V0,V0,by simpa using hb⟩ ?_
  rintro i ⟨h1,h2,h3⟩
  refine ZrG N _ _ _ _ _ ?_;(try simp only [iB,vcT,forall_eq])
  (simp only [iB,vcS]);(try simp only [iB,vcT])
  try (simp only [vE])
  refine ⟨fun hi=> ⟨⟨V0,hi⟩,?_⟩,fun hi=> ?_⟩
  .have u:=ZaX (l:=k) (d:=d - 1) h1 hi
   have hm:=Z0o (ks:=ks) (i:=i.toNat) V0
   have hr:=Zdp (i:=i.toNat) hp.2.1.2.2 V0
   rw [u] at h3
   have ao:=Zs ks
   generalize ks.getD i.toNat Tree.nil=y at*
   have ab:Z54 (y,d - 1,()):=⟨V5,hr,V5,V5⟩
   have aj:Zb8 (y,d - 1,()) < N:=by simp only [Zb8];omega
   have ai:InR (d - 1):=V2
   refine ⟨fun hk=> ⟨hr,fun _=> ai,fun _=> ab,fun _=> aj,fun hc=> Z4 rfl ?_,fun hc=> ⟨V2,i+1,rfl,⟨V0,V0,?_⟩,V0⟩⟩,fun hk=> ⟨fun _=> ai,fun _=> ab,fun _=> aj,fun hc=> Z4 rfl ?_,fun hc=> ⟨V2,i+1,rfl,⟨V0,V0,?_⟩,V0⟩⟩⟩
   .grind
   .grind
   .subst hk
    rw [h3,Zk7]
    grind
   .subst hk
    rw [h3,Zk7,hc.2]
    simp [hc.1]
  .rw [QA V0] at h3
   simp only [Y2] at h3
   exact Z4 rfl h3.symm
 refine ZFw N _ _ _ ?_;(try simp only [iB,vcT,forall_eq])
 (simp only [iB,vcS]);(try simp only [iB,vcT])
 try (simp only [vE])
 have aw:∀ s:k=0,Zb (.mk k ws ks) d=decide (ws.length=0/\ks.length=0):=fun s=> by simp only [Zb,if_pos s]
 have au:∀ (_:¬k=0) (h:k=10),Zb (.mk k ws ks) d=decide (ws.length=1/\ks.length=0):=fun s h=> by simp only [Zb,if_neg s,if_pos h]
 refine ⟨fun s=> Z4 rfl ?_,fun s=> ⟨fun h=> Z4 rfl ?_,fun h=> ⟨fun u=> Z4 rfl ?_,fun u=> ⟨fun h1=> ⟨fun hc=> Z4 rfl ?_,fun hc=> ah true u ?_ rfl⟩,fun h1=> ⟨trivial,fun hc=> Z4 rfl ?_,fun hc=> ah true u ?_ rfl⟩⟩⟩⟩⟩
 .grind
 .grind
 .simp only [Zb,if_neg s,if_neg h,if_pos u]
 .simp only [Zb,if_neg s,if_neg h,if_neg u,if_pos h1]
  grind
 .simp only [Zb,if_neg s,if_neg h,if_neg u,if_pos h1]
  grind
 .simp only [Zb,if_neg s,if_neg h,if_neg u,if_neg h1]
  grind
 .simp only [Zb,if_neg s,if_neg h,if_neg u,if_neg h1]
  grind
theorem c82:Contract Tryz.prog cfg 82 Z0s:=by
 refine ZBL ZDq ?_
 intro t _ d
 refine ZH3 _ _ ?_;(try simp only [iB,vcT,forall_eq])
 try (simp only [vE])
 exact ⟨⟨d.1,d.2,by grind,by grind⟩,Z4 rfl rfl⟩
theorem Zja{y:Tree}{d:Int}(h:Zb y d=true)(hk:y.kind=10):y.words.length=1/\y.kids.length=0:=by
 obtain ⟨k,w,ks⟩:=y
 simp only [Tree.kind_mk] at hk
 subst hk
 simpa [Zb] using h
theorem c31:Contract Tryz.prog cfg 31 Z8p:=by
 refine ZC2 c81 ?_
 rintro N ⟨k,ws,ks⟩ d _ hp hN
 simp only [Z54,Zb8,Zj,rng] at hp hN
 refine ZHp N _ _ _ ?_;(try simp only [iB,vcT,forall_eq])
 (simp only [iB,vcS]);(try simp only [iB,vcT])
 try (simp only [vE])
 refine ⟨fun h0=> Z4 rfl ?_,fun h0=> ⟨fun u=> Z4 rfl ?_,fun u=> ⟨fun a b=> ⟨a,b⟩,fun hc=> Z4 rfl ?_,fun hc=> ⟨fun hw=> Z4 rfl ?_,fun hw=> ?_⟩⟩⟩⟩
 .simp only [Zb,if_pos h0]
  rw [Qo];(simp only [iB,vcS]);omega
 .simp only [Zb,if_neg h0,if_pos u]
  rw [Qo];(simp only [iB,vcS]);omega
 .simp only [Zb,if_neg h0,if_neg u]
  split
  .try rfl
  .split
   .rw [decide_eq_false V0];try rfl
   .have:¬(2<=k/\k<=9/\ws.length=0/\ks.length < 1048576):=V0
    rw [decide_eq_false this];try rfl
 .simp only [Zb,if_neg h0,if_neg u]
  rw [Jk,Jk]
  have:¬(2<=k/\k<=9/\ws.length=0/\ks.length < 1048576):=V0
  rw [decide_eq_false this];try rfl
 .have hb:Zb (.mk k ws ks) d=Y2 k ks (d - 1):=by
   simp only [Zb,if_neg h0,if_neg u]
   rw [Jk]
   split
   .rename_i h1
    rw [decide_eq_true V0,h1];try rfl
   .have:2<=k/\k<=9/\ws.length=0/\ks.length < 1048576:=V0
    rw [decide_eq_true this];try rfl
  refine Ze (ι:=Int) (fun p=> Z9r (.mk k ws ks) d p) (fun p=> 0<=p/\p<=ks.length/\Zb (.mk k ws ks) d=Y2 k (ks.drop p.toNat) (d - 1)) (fun p=> ((ks.length:Int) - p).toNat) 0 rfl ⟨V0,V0,by simpa using hb⟩ ?_
  rintro i ⟨h1,h2,h3⟩
  refine ZwG N _ _ _ _ _ ?_;(try simp only [iB,vcT,forall_eq])
  (simp only [iB,vcS]);(try simp only [iB,vcT])
  try (simp only [vE])
  refine ⟨fun hi=> ?_,fun hi=> ?_⟩
  .have hd:=ZaX (l:=k) (d:=d - 1) h1 hi
   have hm:=Z0o (ks:=ks) (i:=i.toNat) V0
   have hr:=Zdp (i:=i.toNat) hp.2.1.2.2 V0
   rw [hd] at h3
   have av:=Zs ks
   generalize ks.getD i.toNat Tree.nil=y at*
   have aj:Z54 (y,d - 1,()):=⟨V5,hr,V5,V5⟩
   have au:Zb8 (y,d - 1,()) < N:=by simp only [Zb8];omega
   have ar:InR (d - 1):=V2
   refine ⟨⟨h1,hi⟩,ar,aj,au,fun hf=> Z4 rfl ?_,fun hf=> ?_⟩
   .rw [h3,hf];simp
   .have s:((bif decide (2<=k) then decide (k<=7) else false)=(y.kind==10))↔((2<=k/\k<=7)↔y.kind=10):=by
     rw [Qo];(simp only [iB,vcS])
    have al:=Zja hf
    have ai:Z1x k y=true↔(((2<=k/\k<=7)↔y.kind=10)/\(¬k=9\/y.kind=1))/\((¬2<=k\/¬k<=7)\/Zie (k - 2) (y.words.getD 0 0)=true):=by
     unfold Z1x
     by_cases hk:2<=k/\k<=7
     .rw [if_pos hk]
      (simp only [iB,vcS])
      constructor
      .rintro ⟨h,h5⟩;exact ⟨⟨V0,V0⟩,.inr h5⟩
      .rintro ⟨⟨h,_⟩,h5⟩
       have:=al V0
       exact ⟨V0,by rcases h5 with h5 | h5;omega;exact h5⟩
     .rw [if_neg hk]
      by_cases h9:k=9
      .rw [if_pos h9]
       (simp only [iB,vcS])
       constructor
       .intro h;exact ⟨⟨V0,V0⟩,.inl V0⟩
       .rintro ⟨⟨_,h⟩,_⟩;omega
      .rw [if_neg h9]
       (simp only [iB,vcS])
       constructor
       .intro h;exact ⟨⟨V0,V0⟩,.inl V0⟩
       .rintro ⟨⟨h,_⟩,_⟩;omega
    have ab:∀ (h:(((bif decide (2<=k) then decide (k<=7) else false)=(y.kind==10)/\(¬k=9\/y.kind=1))/\2<=k/\k<=7)),y.words.length=1:=fun h=> (al ((s.1 h.1.1).1 h.2)).1
    simp only [Int.toNat_zero]
    refine ⟨fun a b=> ⟨a,b⟩,fun h=> by unfold InR;omega,fun h=> by have:=ab h;omega,fun h=> Zj5 hr (by have:=ab h;omega),fun a b=> ⟨a,b⟩,fun h=> Z4 rfl ?_,fun h=> ⟨V2,i+1,rfl,⟨V0,V0,?_⟩,V0⟩⟩
    .have ao:Z1x k y=false:=by
      cases hkk:Z1x k y with
      | false=> rfl
      | true=>
       exfalso
       obtain ⟨h5,h6⟩:=ai.1 hkk
       rcases h with h | ⟨h,h7⟩
       .rcases h with h | h
        .exact h (s.2 h5.1)
        .omega
       .rcases h6 with h6 | h6
        .omega
        .rw [h7] at h6;cases h6
     rw [h3,ao];try rfl
    .rw [h3,ai.2 ⟨⟨s.1 h.1.1,h.1.2⟩,h.2⟩,hf];try rfl
  .rw [QA V0] at h3
   simp only [Y2] at h3
   exact Z4 rfl h3.symm
theorem Zgj{t:Tree}(h:0<=ZD t 80 3000):Zj t<=20000000000:=by
 have:=Z0v t 80 3000 h
 omega
noncomputable section
def Zpd:ArgL (Int × Unit):=(.cons (Yr .u64) .nil)
def ZdP(a:Int × Unit):Prop:=0<=a.1/\a.1 < 18446744073709551616
def Zlc(a:Int × Unit):V U:= .agg (zb8 Zk a.1)
def Z8k:Fs U:=fs Zpd (fun a=> [ZdP a]) Zlc
def Zpc:ArgL (Int × Int × Unit):=(.cons (Yr .u8) (.cons (Yr .i64) .nil))
def ZhC(a:Int × Int × Unit):Prop:=(0<=a.1/\a.1 < 256)/\0<=a.2.1/\a.2.1<=8
def ZsG(a:Int × Int × Unit):V U:= .c (.bool (Z0n a.1 a.2.1))
def Z8j:Fs U:=fs Zpc (fun a=> [ZhC a]) ZsG
def Zpb:ArgL (List Int × Int × Unit):=(.cons (aSl .u8) (.cons (Yr .i64) .nil))
def Zlp(a:List Int × Int × Unit):Prop:=a.2.1=0/\a.1.length=8/\∀ x∈a.1,0<=x/\x < 256
def ZsF(a:List Int × Int × Unit):V U:= .c (.int .u64 (of8 (fun i=> a.1.getD i 0)))
def Z8i:Fs U:=fs Zpb (fun a=> [Zlp a]) ZsF
def Zpt:ArgL (Int × Int × Int × Unit):=(.cons (Yr .u64) (.cons (Yr .u64) (.cons (Yr .u8) .nil)))
def ZhG(a:Int × Int × Int × Unit):Prop:=(0<=a.1/\a.1 < 18446744073709551616)/\(0<=a.2.1/\a.2.1 < 18446744073709551616)/\(0<=a.2.2.1/\a.2.2.1 < 256)
def ZsR(a:Int × Int × Int × Unit):V U:= .c (.int .u64 (mix a.1 a.2.1 a.2.2.1))
def Z8o:Fs U:=fs Zpt (fun a=> [ZhG a]) ZsR
def Z51(a:Tree × Unit):Prop:=Zj a.1<=20000000000
def ZAl(a:Tree × Unit):V U:= .c (.bool (Ye a.1))
def Z3P:Fs U:=fs Zw0 (fun a=> [Z51 a]) ZAl
def ZpC:ArgL (Int × Int × Unit):=(.cons (Yr .u64) (.cons (Yr .u8) .nil))
def ZhI(a:Int × Int × Unit):Prop:=(0<=a.1/\a.1 < 18446744073709551616)/\(0<=a.2.1/\a.2.1 < 256)
def ZsY(a:Int × Int × Unit):V U:= .c (.bool (Yf a.1 a.2.1))
def Z5L:Fs U:=fs ZpC (fun a=> [ZhI a]) ZsY
def Zps:ArgL (Edit × Unit):=(.cons (aEl .edit) .nil)
def Z7y(a:Edit × Unit):Prop:=Za a.1<=20000000000
def ZsQ(a:Edit × Unit):V U:= .c (.bool (Z0U a.1))
def Z5K:Fs U:=fs Zps (fun a=> [Z7y a]) ZsQ
def Ze4(a:Edit × Unit):Prop:=Za a.1<=20000000000/\∀ o∈Edit.ops a.1,0<=o.n/\o.n<=1048576
def Zlg(a:Edit × Unit):V U:= .tup [(false,[ci (Z0Q a.1.ops 0)]),(false,[ci (Z0P a.1.ops 0)])]
def Z1N:Fs U:=fs Zps (fun a=> [Ze4 a]) Zlg
def Zmg:ArgL (Edit × Int × Int × Unit):=(.cons (aEl .edit) (.cons (Yr .i64) (.cons (Yr .i64) .nil)))
def ZdG(a:Edit × Int × Int × Unit):Prop:=Z2g a.1/\0<=a.2.1/\a.2.1<=4611686018427387904/\-1<=a.2.2.1/\a.2.2.1<=4611686018427387904
def ZjK(a:Edit × Int × Int × Unit):Nat:=Za a.1
def Zn8(a:Edit × Int × Int × Unit):V U:= .c (ci (Z0G a.1 a.2.1 a.2.2.1))
def ZcX:Fs U:=fs Zmg (fun a=> [ZdG a]) Zn8
def Zte(a:Edit × Unit):Prop:=Z2g a.1
def ZAq(a:Edit × Unit):V U:= .c (.bool (decide (0<=Z0G a.1 80 3000)))
def Zda:Fs U:=fs Zps (fun a=> [Zte a]) ZAq
def ZnN:Zc U:=lvl [([0,2],[2]),([0,2,3],[2,3]),([0,2,3,4],[2,3]),([0,2,3,4,7],[2,3]),([0,2,3,4],[2,3]),([0,2,3,4],[2,3]),([0,2,3,4],[2,3]),([2],[2])]
def Z3y(w x0 x4 d u ab af ae h aa s:Int):LSt U:=(L2 [(0,.c (.int .u64 x0)),pL 2,pL 3,pI 4 x4] [(.loc 2,zc0),(.loc 3,(zi8 [d,u,ab,af,ae,h,aa,s]))])
abbrev ZEw(p:List Nat):=AW (Z1 ZlW) Tryz.f186 ZnN p
abbrev ZGJ(p:List Nat):=SW (Z1 ZlW) Tryz.f186 ZnN p
theorem ZF7(w:Int)(Q:QT)(h:(Zp (ZEw [1,1,0,1,0,0]) (Z3y w w 0 0 0 0 0 0 0 0 0) (xB 0 (ZGJ [1,1,1] Q)))):
  ZEw [] (L2 [(0,.c (.int .u64 w))] []) Q:=
 Eq.mpr V4 h
theorem Zry(w x0 x4 d aa ae ah af s ab u:Int)(N0:NT)(Q:QT)(h:let z0:=IntKind.wrap .u8 (Int.tmod x0 256);(iB (decide (x4 < 8)) (((256:Int)≠0)/\((0:Int)<=x4/\x4 < ((8:Nat):Int))/\(((256:Int)≠0)/\((InR (x4+1))/\(N0 (Z3y w (IntKind.wrap .u64 (Int.tdiv x0 256)) (x4+1) (Z1u x4 0 z0 d) (Z1u x4 1 z0 aa) (Z1u x4 2 z0 ae) (Z1u x4 3 z0 ah) (Z1u x4 4 z0 af) (Z1u x4 5 z0 s) (Z1u x4 6 z0 ab) (Z1u x4 7 z0 u)))))) ((Q .ret (L2 [pL 2] [(.loc 2,(zi8 [d,aa,ae,ah,af,s,ab,u]))]))))):
  ZEw [1,1,0,1,0,0] (Z3y w x0 x4 d aa ae ah af s ab u) (xT N0 (xB 0 (ZGJ [1,1,1] Q))):=
 Eq.mpr V4 h
def Zzw(w:Int):Prop:=AW (Z1 ZlW) Tryz.f186 ZnN [] (Zf (Zpd.can (w,())) []) (EQ Tryz.f186 (Zlc (w,())) [])
theorem ZxJ(hb:∀ (w:Int) (_:Unit),ZdP (w,())->Zzw w):CT 186 Z8k:=
 Z0 (l:=[]) Zh rfl trivial ZnN Tryz.func186 rfl rfl 1 (fun _=> rfl) V3 (fun ⟨w,_⟩=> hb w ())
def ZnM:Zc U:=lvl [([0,1],[]),([0,1,5],[]),([0,1,5,8],[]),([0,1,5],[]),([0,1,5],[]),([4],[])]
def Z6j(m i x0 d:Int):LSt U:=(L2 [(0,.c (.int .u8 x0)),pI 1 i,pI 5 d] [])
abbrev ZEv(p:List Nat):=AW (Z1 ZlW) Tryz.f187 ZnM p
abbrev ZGI(p:List Nat):=SW (Z1 ZlW) Tryz.f187 ZnM p
theorem ZF6(m i:Int)(Q:QT)(h:(Zp (ZEv [1,0,1,0,0]) (Z6j m i m 0) (xB 0 (ZGI [1,1] Q)))):
  ZEv [] (L2 [(0,.c (.int .u8 m)),pI 1 i] []) Q:=
 Eq.mpr V4 h
theorem Zrx(m i x0 d:Int)(N0:NT)(Q:QT)(h:(iB (decide (d < i)) (((2:Int)≠0)/\((InR (d+1))/\(N0 (Z6j m i (IntKind.wrap .u8 (Int.tdiv x0 2)) (d+1))))) (((2:Int)≠0)/\(Q .ret (L2 [pB 4 (((Int.tmod x0 2):Int)==1)] []))))):
  ZEv [1,0,1,0,0] (Z6j m i x0 d) (xT N0 (xB 0 (ZGI [1,1] Q))):=
 Eq.mpr V4 h
def Zzv(m i:Int):Prop:=AW (Z1 ZlW) Tryz.f187 ZnM [] (Zf (Zpc.can (m,i,())) []) (EQ Tryz.f187 (ZsG (m,i,())) [])
theorem ZxI(hb:∀ (m:Int) (i:Int) (_:Unit),ZhC (m,i,())->Zzv m i):CT 187 Z8j:=
 Z0 (l:=[]) Zh rfl trivial ZnM Tryz.func187 rfl rfl 2 (fun _=> rfl) V3 (fun ⟨m,i,_⟩=> hb m i ())
def ZnL:Zc U:=lvl [([0,1],[]),([0,1,5],[]),([0,1,5,6],[]),([0,1,5,6,8],[]),([0,1,5,6],[]),([0,1,5,6],[]),([4],[])]
def Z6i(b:List Int)(from_ h d:Int):LSt U:=(L2 [(0,.c (sU .u8 b .unk)),pI 1 from_,(5,.c (.int .u64 h)),pI 6 d] [])
abbrev ZEu(p:List Nat):=AW (Z1 ZlW) Tryz.f188 ZnL p
abbrev ZGH(p:List Nat):=SW (Z1 ZlW) Tryz.f188 ZnL p
theorem ZF5(b:List Int)(from_:Int)(Q:QT)(h:(Zp (ZEu [1,1,0,1,0,0]) (Z6i b from_ 0 7) (xB 0 (ZGH [1,1,1] Q)))):
  ZEu [] (L2 [(0,.c (sU .u8 b .unk)),pI 1 from_] []) Q:=
 Eq.mpr V4 h
theorem Zrw(b:List Int)(from_ s d:Int)(N0:NT)(Q:QT)(h:(iB (decide ((0:Int)<=d)) ((InR (from_+d))/\((0:Int)<=(from_+d)/\(from_+d) < (b.length:Int))/\((InR (d - 1))/\(N0 (Z6i b from_ (IntKind.wrap .u64 (((IntKind.wrap .u64 (s*256)):Int)+(IntKind.wrap .u64 (List.getD b (Int.toNat (from_+d)) (0:Int))))) (d - 1))))) ((Q .ret (L2 [(4,.c (.int .u64 s))] []))))):
  ZEu [1,1,0,1,0,0] (Z6i b from_ s d) (xT N0 (xB 0 (ZGH [1,1,1] Q))):=
 Eq.mpr V4 h
def Zzu(b:List Int)(from_:Int):Prop:=AW (Z1 ZlW) Tryz.f188 ZnL [] (Zf (Zpb.can (b,from_,())) []) (EQ Tryz.f188 (ZsF (b,from_,())) [])
theorem ZxH(hb:∀ (b:List Int) (d:Int) (_:Unit),Zlp (b,d,())->Zzu b d):CT 188 Z8i:=
 Z0 (l:=[]) Zh rfl trivial ZnL Tryz.func188 rfl rfl 2 (fun _=> rfl) V3 (fun ⟨b,d,_⟩=> hb b d ())
def Zi4:List (FuncId × Fs U):=[(186,Z8k),(187,Z8j),(188,Z8i)]
def ZnP:Zc U:=lvl [([0,1,2],[]),([2,7,8],[7,8]),([2,7,8,9],[7,8]),([2,7,8,9,15],[7,8]),([2,7,8,9],[7,8]),([2,7,8,9,20],[7,8]),([2,7,8,9],[7,8]),([6],[])]
def Z2a(a b m x9 s d ab h aa ae af u:Int):LSt U:=(L2 [(2,.c (.int .u8 m)),pL 7,pL 8,pI 9 x9] [(.loc 7,(zi8 [s,d,ab,h,aa,ae,af,u])),(.loc 8,(zb8 Zk b))])
abbrev ZEy(p:List Nat):=AW (Z1 Zi4) Tryz.f136 ZnP p
abbrev ZGL(p:List Nat):=SW (Z1 Zi4) Tryz.f136 ZnP p
theorem ZFv(a b m:Int)(Q:QT)(h:((ZdP (a,()))/\(ZdP (b,()))/\(Zp (ZEy [1,1,0,1,0,0]) (Z2a a b m 0 (Zk a 0) (Zk a 1) (Zk a 2) (Zk a 3) (Zk a 4) (Zk a 5) (Zk a 6) (Zk a 7)) (xB 0 (ZGL [1,1,1] Q))))):
  ZEy [] (L2 [(0,.c (.int .u64 a)),(1,.c (.int .u64 b)),(2,.c (.int .u8 m))] []) Q:=
 Eq.mpr V4 h
theorem ZrF(a b m x9 u d ae s ab af ah aa:Int)(N0:NT)(Q:QT)(h:let z0:=List.getD [Zk b 0,Zk b 1,Zk b 2,Zk b 3,Zk b 4,Zk b 5,Zk b 6,Zk b 7] x9.toNat 0;(iB (decide (x9 < 8)) ((ZhC (m,x9,()))/\(iB (Z0n m x9) (((0:Int)<=x9/\x9 < ((8:Nat):Int))/\((0:Int)<=x9/\x9 < ((8:Nat):Int))/\((InR (x9+1))/\(N0 (Z2a a b m (x9+1) (Z1u x9 0 z0 u) (Z1u x9 1 z0 d) (Z1u x9 2 z0 ae) (Z1u x9 3 z0 s) (Z1u x9 4 z0 ab) (Z1u x9 5 z0 af) (Z1u x9 6 z0 ah) (Z1u x9 7 z0 aa))))) ((InR (x9+1))/\(N0 (Z2a a b m (x9+1) u d ae s ab af ah aa))))) ((Zlp (([u,d,ae,s,ab,af,ah,aa]),0,()))/\(Q .ret (L2 [(6,.c (.int .u64 (of8 (fun i=> ([u,d,ae,s,ab,af,ah,aa]).getD i 0))))] []))))):
  ZEy [1,1,0,1,0,0] (Z2a a b m x9 u d ae s ab af ah aa) (xT N0 (xB 0 (ZGL [1,1,1] Q))):=
 Eq.mpr V4 h
def ZzU(a b m:Int):Prop:=AW (Z1 Zi4) Tryz.f136 ZnP [] (Zf (Zpt.can (a,b,m,())) []) (EQ Tryz.f136 (ZsR (a,b,m,())) [])
theorem Zy5(ZD9:CT 186 Z8k)(ZD8:CT 187 Z8j)(ZD7:CT 188 Z8i)(hb:∀ (a:Int) (b:Int) (m:Int) (_:Unit),ZhG (a,b,m,())->ZzU a b m):CT 136 Z8o:=
 Z0 (l:=[(186,Z8k),(187,Z8j),(188,Z8i)]) Zh rfl (⟨ZD9,ZD8,ZD7,trivial⟩) ZnP Tryz.func136 rfl rfl 3 (fun _=> rfl) V3 (fun ⟨a,b,m,_⟩=> hb a b m ())
abbrev A99(p:List Nat):=AW (Z1 ZlW) Tryz.f99 ZCr p
theorem ZGX(t:Tree)(Q:QT)(h:((Tt (t.kind==0))/\(Tt (t.kind==0))/\(Tt (t.kind==0))/\(Tt (t.kind==0))/\(Tt (t.kind==0))/\(Tt (t.kind==0))/\((t.kind==0)=true->InR (((t.words.length:Int):Int)+(t.kids.length:Int)))/\(Tt (t.kind==0))/\(Tt (t.kind==0))/\(Q .ret (L2 [(2,.c (.bool (bif (t.kind==0) then (((((t.words.length:Int):Int)+(t.kids.length:Int)):Int)==0) else false)))] [])))):
  A99 [] (L2 [(0,.agg (enc .tree t))] []) Q:=
 Eq.mpr V4 h
def ZDQ(t:Tree):Prop:=AW (Z1 ZlW) Tryz.f99 ZCr [] (Zf (Zw0.can (t,())) []) (EQ Tryz.f99 (ZAl (t,())) [])
theorem ZBF(hb:∀ (t:Tree) (_:Unit),Z51 (t,())->ZDQ t):CT 99 Z3P:=
 Z0 (l:=[]) Zh rfl trivial ZCr Tryz.func99 rfl rfl 1 (fun _=> rfl) V3 (fun ⟨t,_⟩=> hb t ())
def ZoK:List (FuncId × Fs U):=[(136,Z8o)]
def ZuA:Zc U:=lvl [([0,1],[]),([4],[])]
abbrev ZIy(p:List Nat):=AW (Z1 ZoK) Tryz.f100 ZuA p
theorem ZFP(w m:Int)(Q:QT)(h:((ZhG (w,0,m,()))/\(Q .ret (L2 [pB 4 (((mix w 0 m):Int)==0)] [])))):
  ZIy [] (L2 [(0,.c (.int .u64 w)),(1,.c (.int .u8 m))] []) Q:=
 Eq.mpr V4 h
def ZAe(w m:Int):Prop:=AW (Z1 ZoK) Tryz.f100 ZuA [] (Zf (ZpC.can (w,m,())) []) (EQ Tryz.f100 (ZsY (w,m,())) [])
theorem Zyh(ZDp:CT 136 Z8o)(hb:∀ (w:Int) (m:Int) (_:Unit),ZhI (w,m,())->ZAe w m):CT 100 Z5L:=
 Z0 (l:=[(136,Z8o)]) Zh rfl (⟨ZDp,trivial⟩) ZuA Tryz.func100 rfl rfl 2 (fun _=> rfl) V3 (fun ⟨w,m,_⟩=> hb w m ())
def ZoC:List (FuncId × Fs U):=[(99,Z3P)]
abbrev ZIs(p:List Nat):=AW (Z1 ZoC) Tryz.f137 ZCr p
theorem ZFu(e:Edit)(Q:QT)(h:∀ d,d=(e.new)->∀ s,s=(e.old)->let z2:=bif (e.kind==0) then (Ye s) else false;let z0:=bif z2 then (Ye d) else false;let z1:=bif z0 then (((((((e.words.length:Int):Int)+(e.kids.length:Int)):Int)+(e.ops.length:Int)):Int)==0) else false;((Tt (e.kind==0))/\(Tt (e.kind==0))/\((e.kind==0)=true->Z51 (s,()))/\(Tt (e.kind==0))/\(Tt z2)/\(Tt z2)/\(z2=true->Z51 (d,()))/\(Tt z2)/\(Tt z0)/\(Tt z0)/\(Tt z0)/\(Tt z0)/\(Tt z0)/\(Tt z0)/\(z0=true->InR (((e.words.length:Int):Int)+(e.kids.length:Int)))/\(Tt z0)/\(Tt z0)/\(Tt z0)/\(Tt z0)/\(z0=true->InR (((((e.words.length:Int):Int)+(e.kids.length:Int)):Int)+(e.ops.length:Int)))/\(Tt z0)/\(Tt z0)/\(Tt z1)/\(Tt z1)/\(Tt z1)/\(Q .ret (L2 [(2,.c (.bool (bif z1 then (e.list==0) else false)))] [])))):
  ZIs [] (L2 [(0,.agg (enc .edit e))] []) Q:=
 Eq.mpr V4 (h _ (Z7 _) _ (Z7 _))
def ZzT(e:Edit):Prop:=AW (Z1 ZoC) Tryz.f137 ZCr [] (Zf (Zps.can (e,())) []) (EQ Tryz.f137 (ZsQ (e,())) [])
theorem Zy4(c99:CT 99 Z3P)(hb:∀ (e:Edit) (_:Unit),Z7y (e,())->ZzT e):CT 137 Z5K:=
 Z0 (l:=[(99,Z3P)]) Zh rfl (⟨c99,trivial⟩) ZCr Tryz.func137 rfl rfl 1 (fun _=> rfl) V3 (fun ⟨e,_⟩=> hb e ())
def ZnV:Zc U:=lvl [([1],[1]),([1,4,5],[1]),([1,4,5,6],[1]),([1,4,5,6,13],[1]),([1,4,5,6],[1]),([1,4,5,6,7],[1,7]),([1,4,5,6,7,8],[1,7]),([1,4,5,6,7,8,29],[1,7]),([1,4,5,6,7,8,29],[1,7]),([1,4,5,6,7,8,32],[1,7]),([1,4,5,6,7,8,32],[1,7]),([1,4,5,6,8,38],[1]),([1,4,5,6,8,38],[1]),([1,4,5,6,43],[1]),([1,4,5,6,43],[1]),([1,4,5,6,45],[1]),([1,4,5,6],[1]),([2,3],[])]
def Z16(e:Edit)(d s h:Int):LSt U:=(L2 [pL 1,pI 4 d,pI 5 s,pI 6 h] [(.loc 1,(enc .edit e))])
def Z6E(e:Edit)(s u h d:Int):LSt U:=(L2 [pL 1,pI 4 s,pI 5 u,pI 6 h,pL 7,pI 8 d,(29,.c (.bool (((OpOf.kind (e.ops.getD h.toNat Op.nil)):Int)==3)))] [(.loc 1,(enc .edit e)),(.loc 7,(enc .op (e.ops.getD h.toNat Op.nil)))])
def Z6D(e:Edit)(u s d h:Int):LSt U:=(L2 [pL 1,pI 4 h,pI 5 u,pI 6 s,pL 7,pI 8 d,(32,.c (.bool (((OpOf.kind (e.ops.getD s.toNat Op.nil)):Int) !=2)))] [(.loc 1,(enc .edit e)),(.loc 7,(enc .op (e.ops.getD s.toNat Op.nil)))])
def Z6C(e:Edit)(u d s h:Int):LSt U:=(L2 [pL 1,pI 4 s,pI 5 h,pI 6 u,pI 8 d,(38,.c (.bool (((OpOf.kind (e.ops.getD u.toNat Op.nil)):Int) !=1)))] [(.loc 1,(enc .edit e))])
def Z6B(e:Edit)(u h d s:Int):LSt U:=(L2 [pL 1,pI 4 s,pI 5 d,pI 6 u,pB 43 (decide ((1048576:Int) < h))] [(.loc 1,(enc .edit e))])
abbrev Z3M(p:List Nat):=AW (Z1 ZlW) Tryz.f102 ZnV p
abbrev Z1a(p:List Nat):=SW (Z1 ZlW) Tryz.f102 ZnV p
theorem ZFN(e:Edit)(Q:QT)(h:(Zp (Z3M [1,1,0,1,0,0]) (Z16 e 0 0 0) (xB 0 (Z1a [1,1,1] Q)))):
  Z3M [] (L2 [(0,.agg (enc .edit e))] []) Q:=
 Eq.mpr V4 h
abbrev ZyW(e:Edit)(d s h:Int)(N0:NT)(Q:QT):Prop:=Z3M [1,1,0,1,0,0] (Z16 e d s h) (xT N0 (xB 0 (Z1a [1,1,1] Q)))
theorem ZrY(e:Edit)(s u d:Int)(N0:NT)(Q:QT)(h:let z1:=xB 1 (Z1a [1,1,0,1,0,0,1,1] (xT N0 (xB 0 (Z1a [1,1,1] Q))));let z0:=e.ops.getD d.toNat Op.nil;(iB (decide (d < (e.ops.length:Int))) (((0:Int)<=d/\d < (e.ops.length:Int))/\((InR (((OpOf.n z0):Int)+((OpOf.l z0).length:Int)))/\(iB (((OpOf.kind z0):Int)==3) ((Z3M [1,1,0,1,0,0,1,0,0,1,1,1] (Z6E e s u d 1) z1)) (Z3M [1,1,0,1,0,0,1,0,0,1,1,1] (Z6E e s u d (((OpOf.n z0):Int)+((OpOf.l z0).length:Int))) z1)))) ((Q .ret (L2 [pI 2 s,pI 3 u] []))))):
  Z3M [1,1,0,1,0,0] (Z16 e s u d) (xT N0 (xB 0 (Z1a [1,1,1] Q))):=
 Eq.mpr V4 h
abbrev Zz0(e:Edit)(h u s d:Int)(N0:NT)(Q:QT):Prop:=Z3M [1,1,0,1,0,0,1,0,0,1,1,1] (Z6E e h u s d) (xB 1 (Z1a [1,1,0,1,0,0,1,1] (xT N0 (xB 0 (Z1a [1,1,1] Q)))))
theorem Zs2(e:Edit)(s x5 u d:Int)(N0:NT)(Q:QT)(h:let z0:=xB 1 (Z1a [1,1,0,1,0,0,1,1] (xT N0 (xB 0 (Z1a [1,1,1] Q))));(iB (((OpOf.kind (e.ops.getD u.toNat Op.nil)):Int) !=2) ((InR (s+d))/\(Z3M [1,1,0,1,0,0,1,0,0,1,1,1,1] (Z6D e x5 u d (s+d)) z0)) (Z3M [1,1,0,1,0,0,1,0,0,1,1,1,1] (Z6D e x5 u d s) z0))):
  Z3M [1,1,0,1,0,0,1,0,0,1,1,1] (Z6E e s x5 u d) (xB 1 (Z1a [1,1,0,1,0,0,1,1] (xT N0 (xB 0 (Z1a [1,1,1] Q))))):=
 Eq.mpr V4 h
abbrev ZyZ(e:Edit)(u s d h:Int)(N0:NT)(Q:QT):Prop:=Z3M [1,1,0,1,0,0,1,0,0,1,1,1,1] (Z6D e u s d h) (xB 1 (Z1a [1,1,0,1,0,0,1,1] (xT N0 (xB 0 (Z1a [1,1,1] Q)))))
theorem Zs1(e:Edit)(x5 u d s:Int)(N0:NT)(Q:QT)(h:let z0:=xB 1 (Z1a [1,1,0,1,0,0,1,1] (xT N0 (xB 0 (Z1a [1,1,1] Q))));(iB (((OpOf.kind (e.ops.getD u.toNat Op.nil)):Int) !=1) ((InR (x5+d))/\(Z3M [1,1,0,1,0,0,1,0,0,1,1,1,1,1] (Z6C e u d s (x5+d)) z0)) (Z3M [1,1,0,1,0,0,1,0,0,1,1,1,1,1] (Z6C e u d s x5) z0))):
  Z3M [1,1,0,1,0,0,1,0,0,1,1,1,1] (Z6D e x5 u d s) (xB 1 (Z1a [1,1,0,1,0,0,1,1] (xT N0 (xB 0 (Z1a [1,1,1] Q))))):=
 Eq.mpr V4 h
abbrev ZyY(e:Edit)(u d s h:Int)(N0:NT)(Q:QT):Prop:=Z3M [1,1,0,1,0,0,1,0,0,1,1,1,1,1] (Z6C e u d s h) (xB 1 (Z1a [1,1,0,1,0,0,1,1] (xT N0 (xB 0 (Z1a [1,1,1] Q)))))
theorem Zs0(e:Edit)(x6 u d s:Int)(N0:NT)(Q:QT)(h:let z0:=xB 1 (Z1a [1,1,0,1,0,0,1,1] (xT N0 (xB 0 (Z1a [1,1,1] Q))));(iB (decide ((1048576:Int) < d)) ((Z3M [1,1,0,1,0,0,1,0,0,1,1,1,1,1,1] (Z6B e x6 d s 1048576) z0)) (Z3M [1,1,0,1,0,0,1,0,0,1,1,1,1,1,1] (Z6B e x6 d s d) z0))):
  Z3M [1,1,0,1,0,0,1,0,0,1,1,1,1,1] (Z6C e x6 u d s) (xB 1 (Z1a [1,1,0,1,0,0,1,1] (xT N0 (xB 0 (Z1a [1,1,1] Q))))):=
 Eq.mpr V4 h
abbrev ZyX(e:Edit)(u h d s:Int)(N0:NT)(Q:QT):Prop:=Z3M [1,1,0,1,0,0,1,0,0,1,1,1,1,1,1] (Z6B e u h d s) (xB 1 (Z1a [1,1,0,1,0,0,1,1] (xT N0 (xB 0 (Z1a [1,1,1] Q)))))
theorem ZrZ(e:Edit)(x6 u d s:Int)(N0:NT)(Q:QT)(h:(iB (decide ((1048576:Int) < d)) (((InR (x6+1))/\(N0 (Z16 e s 1048576 (x6+1))))) ((InR (x6+1))/\(N0 (Z16 e s d (x6+1)))))):
  Z3M [1,1,0,1,0,0,1,0,0,1,1,1,1,1,1] (Z6B e x6 u d s) (xB 1 (Z1a [1,1,0,1,0,0,1,1] (xT N0 (xB 0 (Z1a [1,1,1] Q))))):=
 Eq.mpr V4 h
def ZAc(e:Edit):Prop:=AW (Z1 ZlW) Tryz.f102 ZnV [] (Zf (Zps.can (e,())) []) (EQ Tryz.f102 (Zlg (e,())) [])
theorem Zyg(hb:∀ (e:Edit) (_:Unit),Ze4 (e,())->ZAc e):CT 102 Z1N:=
 Z0 (l:=[]) Zh rfl trivial ZnV Tryz.func102 rfl rfl 1 (fun _=> rfl) V3 (fun ⟨e,_⟩=> hb e ())
def ZlT(N:Nat):List (FuncId × Fs U):=(91,fs Zmg (fun a=> [ZdG a,ZjK a < N]) Zn8) ::[(80,Z4I)]
def Zyj:Zc U:=lvl [([1,2,3],[3]),([1,2,3],[3]),([1,2,3,25],[3]),([6],[]),([1,2,3],[3]),([1,2,3,31],[3]),([1,2,3,31],[3]),([1,2,3,7],[3]),([1,2,3,7,44],[3]),([1,2,3,7],[3]),([1,2,3,7],[3]),([1,2,3,8],[3]),([1,2,3,8,65],[3]),([1,2,3,8],[3]),([1,2,3,8,9],[3]),([1,2,3,8,9,80],[3]),([1,2,3,8,9],[3]),([1,2,3,8,9],[3]),([1,2,3,8,95],[3]),([1,2,3,8],[3]),([6],[])]
def Z9d(e:Edit)(d n h:Int):LSt U:=(L2 [pI 1 d,pI 2 h,pL 3,(31,.c (.bool (decide ((0:Int)<=(ZD (Tree.mk e.old.kind e.old.words e.old.kids) 80 ((((((n:Int) - 1):Int) - (e.words.length:Int)):Int) - (e.ops.length:Int)))))))] [(.loc 3,(enc .edit e))])
def Z9c(e:Edit)(d n s h:Int):LSt U:=(L2 [pI 1 d,pI 2 s,pL 3,pI 7 h] [(.loc 3,(enc .edit e))])
def Z5o(e:Edit)(d n s h:Int):LSt U:=(L2 [pI 1 d,pI 2 s,pL 3,pI 8 h] [(.loc 3,(enc .edit e))])
def Z9b(e:Edit)(d n s u h:Int):LSt U:=(L2 [pI 1 d,pI 2 u,pL 3,pI 8 s,pI 9 h] [(.loc 3,(enc .edit e))])
abbrev A91(N:Nat)(p:List Nat):=AW (Z1 (ZlT N)) Tryz.f91 Zyj p
abbrev S91(N:Nat)(p:List Nat):=SW (Z1 (ZlT N)) Tryz.f91 Zyj p
theorem ZH1(N:Nat)(e:Edit)(d n:Int)(Q:QT)(h:∀ u,u=(e.new)->∀ aa,aa=(e.old)->∀ s,s=(ZD aa 80 (((((n - 1):Int) - (e.words.length:Int)):Int) - (e.ops.length:Int)))->((InR (n - 1))/\(InR (((n - 1):Int) - (e.words.length:Int)))/\(InR (((((n - 1):Int) - (e.words.length:Int)):Int) - (e.ops.length:Int)))/\((Tt (!(d==0)))/\((d==0)=false->(!(d==0))=true)/\(iB (bif (d==0) then true else (decide (((((((n - 1):Int) - (e.words.length:Int)):Int) - (e.ops.length:Int)):Int) < 0))) ((Q .ret (L2 [pI 6 (-1)] []))) ((Z8G (aa,80,(((((n - 1):Int) - (e.words.length:Int)):Int) - (e.ops.length:Int)),()))/\(iB (decide ((0:Int)<=s)) ((Z8G (u,80,s,()))/\(A91 N [1,1,1,1,1] (Z9d e d n (ZD u 80 s)) Q)) (A91 N [1,1,1,1,1] (Z9d e d n s) Q))))))):
  A91 N [] (L2 [(0,.agg (enc .edit e)),pI 1 d,pI 2 n] []) Q:=
 Eq.mpr V4 (h _ (Z7 _) _ (Z7 _) _ rfl)
abbrev ZDL(N:Nat)(e:Edit)(d n h:Int)(Q:QT):Prop:=A91 N [1,1,1,1,1] (Z9d e d n h) Q
theorem Zws(N:Nat)(e:Edit)(d n s:Int)(Q:QT)(h:(Zp (A91 N [1,1,1,1,1,0,1,0,0]) (Z9c e d n s 0) (xB 0 (S91 N [1,1,1,1,1,1] Q)))):
  A91 N [1,1,1,1,1] (Z9d e d n s) Q:=
 Eq.mpr V4 h
theorem Zwr(N:Nat)(e:Edit)(d n u s:Int)(N1:NT)(Q:QT)(h:∀ ab,ab=(e.kids.getD s.toNat (KidOf.mk 0 Edit.nil))->∀ aa,aa=(ab.e)->let z0:=decide (s < (e.kids.length:Int));(Tt z0)/\(Tt z0)/\(iB (bif z0 then (decide ((0:Int)<=u)) else false) (((0:Int)<=s/\s < (e.kids.length:Int))/\(InR (d - 1))/\(ZdG (aa,(d - 1),u,()))/\(ZjK (aa,(d - 1),u,()) < N)/\((InR (s+1))/\(N1 (Z9c e d n (Z0G aa (d - 1) u) (s+1))))) ((Zp (A91 N [1,1,1,1,1,1,0,1,0,0]) (Z5o e d n u 0) (xB 2 (S91 N [1,1,1,1,1,1,1] Q)))))):
  A91 N [1,1,1,1,1,0,1,0,0] (Z9c e d n u s) (xT N1 (xB 0 (S91 N [1,1,1,1,1,1] Q))):=
 Eq.mpr V4 (h _ rfl _ (Z6 _))
theorem Zwq(N:Nat)(e:Edit)(d n s u:Int)(N2:NT)(Q:QT)(h:let z0:=decide (u < (e.ops.length:Int));(Tt z0)/\(Tt z0)/\(iB (bif z0 then (decide ((0:Int)<=s)) else false) ((Zp (A91 N [1,1,1,1,1,1,0,1,0,0,1,0,0,0,1,0,0]) (Z9b e d n u s 0) (xB 4 (S91 N [1,1,1,1,1,1,0,1,0,0,1,0,0,1] (xB 3 (S91 N [1,1,1,1,1,1,0,1,0,0,1,1] (xT N2 (xB 2 (S91 N [1,1,1,1,1,1,1] Q))))))))) ((Q .ret (L2 [pI 6 s] []))))):
  A91 N [1,1,1,1,1,1,0,1,0,0] (Z5o e d n s u) (xT N2 (xB 2 (S91 N [1,1,1,1,1,1,1] Q))):=
 Eq.mpr V4 h
theorem Zwp(N:Nat)(e:Edit)(d n s u aa:Int)(N3 N2:NT)(Q:QT)(h:∀ ab,ab=(e.ops.getD s.toNat Op.nil)->∀ ae,ae=(ab.e)->∀ af,af=(ab.l.getD aa.toNat Tree.nil)->let z0:=decide (aa < (ab.l.length:Int));((0:Int)<=s/\s < (e.ops.length:Int))/\(Tt z0)/\(Tt z0)/\(iB (bif z0 then (decide ((0:Int)<=u)) else false) (((0:Int)<=s/\s < (e.ops.length:Int))/\((0:Int)<=aa/\aa < (ab.l.length:Int))/\(Z8G (af,80,u,()))/\((InR (aa+1))/\(N3 (Z9b e d n s (ZD af 80 u) (aa+1))))) ((iB (decide ((0:Int)<=u)) (((0:Int)<=s/\s < (e.ops.length:Int))/\(InR (d - 1))/\(ZdG (ae,(d - 1),u,()))/\(ZjK (ae,(d - 1),u,()) < N)/\((InR (s+1))/\(N2 (Z5o e d n (Z0G ae (d - 1) u) (s+1))))) ((InR (s+1))/\(N2 (Z5o e d n u (s+1)))))))):
  A91 N [1,1,1,1,1,1,0,1,0,0,1,0,0,0,1,0,0] (Z9b e d n s u aa) (xT N3 (xB 4 (S91 N [1,1,1,1,1,1,0,1,0,0,1,0,0,1] (xB 3 (S91 N [1,1,1,1,1,1,0,1,0,0,1,1] (xT N2 (xB 2 (S91 N [1,1,1,1,1,1,1] Q)))))))):=
 Eq.mpr V4 (h _ rfl _ (Z6 _) _ (Z7 _))
def ZDU(N:Nat)(e:Edit)(d n:Int):Prop:=AW (Z1 (ZlT N)) Tryz.f91 Zyj [] (Zf (Zmg.can (e,d,n,())) []) (EQ Tryz.f91 (Zn8 (e,d,n,())) [])
theorem ZBJ(c80:CT 80 Z4I)(hb:∀ (N:Nat) (e:Edit) (d:Int) (n:Int) (_:Unit),ZdG (e,d,n,())->ZjK (e,d,n,()) < N+1->ZDU N e d n):CT 91 ZcX:=
 J0 (μ:=ZjK) (l:=[(80,Z4I)]) Zh rfl (⟨c80,trivial⟩) Zyj Tryz.func91 rfl rfl 3 (fun _=> rfl) V3 (fun N ⟨e,d,n,_⟩=> hb N e d n ())
def Zv4:List (FuncId × Fs U):=[(91,ZcX)]
abbrev A45(p:List Nat):=AW (Z1 Zv4) Tryz.f45 ZCr p
theorem ZHo(e:Edit)(Q:QT)(h:let z0:=Edit.mk e.kind (Tree.mk e.old.kind e.old.words e.old.kids) (Tree.mk e.new.kind e.new.words e.new.kids) e.words e.kids e.list e.ops;((ZdG (z0,80,3000,()))/\(Q .ret (L2 [(2,.c (.bool (decide ((0:Int)<=(Z0G z0 80 3000)))))] [])))):
  A45 [] (L2 [(0,.agg (enc .edit e))] []) Q:=
 Eq.mpr V4 h
def ZEh(e:Edit):Prop:=AW (Z1 Zv4) Tryz.f45 ZCr [] (Zf (Zps.can (e,())) []) (EQ Tryz.f45 (ZAq (e,())) [])
theorem ZC1(c91:CT 91 ZcX)(hb:∀ (e:Edit) (_:Unit),Zte (e,())->ZEh e):CT 45 Zda:=
 Z0 (l:=[(91,ZcX)]) Zh rfl (⟨c91,trivial⟩) ZCr Tryz.func45 rfl rfl 1 (fun _=> rfl) V3 (fun ⟨e,_⟩=> hb e ())
end
noncomputable section
def Zim:ArgL (Edit × Int × Unit):=(.cons (aEl .edit) (.cons (Yr .i64) .nil))
def Zb0(a:Edit × Int × Unit):Prop:=(Za a.1<=20000000000/\Yp a.1)/\0<=a.2.1/\a.2.1<=1000
def ZhP(a:Edit × Int × Unit):Nat:=2*Za a.1
def Zna(a:Edit × Int × Unit):V U:= .c (.bool (Z5 a.1 a.2.1))
def Zd2:Fs U:=fs Zim (fun a=> [Zb0 a]) Zna
def Zcz:ArgL (Int × Op × Int × Unit):=(.cons (Yr .i64) (.cons (aEl .op) (.cons (Yr .i64) .nil)))
def Za5(a:Int × Op × Int × Unit):Prop:=(Zy a.2.1<=20000000000/\Z1j a.2.1/\InR a.1)/\0<=a.2.2.1/\a.2.2.1<=1000
def Zg3(a:Int × Op × Int × Unit):Nat:=2*Zy a.2.1+1
def Zhh(a:Int × Op × Int × Unit):V U:= .c (.bool (Zg a.1 a.2.1 a.2.2.1))
def ZmS:Fs U:=fs Zcz (fun a=> [Za5 a]) Zhh
def ZdI(a:Edit × Unit):Prop:=(Za a.1<=20000000000/\Yp a.1)/\∃ d,Z5 a.1 d=true
def ZjL(a:Edit × Unit):Nat:=Za a.1
def Zsm(a:Edit × Unit):V U:= .c (.bool (Yn a.1))
def Zd1:Fs U:=fs Zps (fun a=> [ZdI a]) Zsm
def Zjs(a:Edit × Unit):Prop:=Z2g a.1/\Yp a.1
def ZAt(a:Edit × Unit):V U:= .c (.bool (Z0R a.1))
def Zdd:Fs U:=fs Zps (fun a=> [Zjs a]) ZAt
def ZlZ(N:Nat):List (FuncId × Fs U):=(64,fs Zim (fun a=> [Zb0 a,ZhP a < N]) Zna) ::(101,fs Zcz (fun a=> [Za5 a,Zg3 a < N]) Zhh) ::[(99,Z3P),(100,Z5L),(137,Z5K),(31,Z8p),(102,Z1N)]
def Zyp:Zc U:=lvl [([1,2],[2]),([1,2,24],[2]),([4],[]),([1,2,69],[2]),([4],[]),([1,2,72],[2]),([4],[]),([1,2,5],[2]),([1,2,5,6],[2]),([1,2,5,6,97],[2]),([1,2,5,6],[2]),([1,2,5,6,7],[2,7]),([1,2,6,7,134],[2,7]),([4],[]),([1,2,5,6],[2]),([1,2,5],[2]),([1,2,5,8],[2]),([1,2,5,8,141],[2]),([1,2,5,8],[2]),([1,2,5,8,9],[2,9]),([1,2,8,9,171],[2,9]),([4],[]),([1,2,5,8],[2]),([1,2,186],[2]),([4],[]),([1,2,10],[2]),([1,2,10,191],[2]),([1,2,10],[2]),([1,2,10,204],[2]),([4],[]),([11,12],[]),([4],[])]
def Z9p(e:Edit)(d s h:Int):LSt U:=(L2 [pI 1 d,pL 2,pI 5 s,pI 6 h] [(.loc 2,(enc .edit e))])
def Z9o(e:Edit)(d s h:Int):LSt U:=(L2 [pI 1 d,pL 2,pI 5 s,pI 8 h] [(.loc 2,(enc .edit e))])
def Z9n(e:Edit)(d h:Int):LSt U:=(L2 [pI 1 d,pL 2,pI 10 h] [(.loc 2,(enc .edit e))])
abbrev A64(N:Nat)(p:List Nat):=AW (Z1 (ZlZ N)) Tryz.f64 Zyp p
abbrev S64(N:Nat)(p:List Nat):=SW (Z1 (ZlZ N)) Tryz.f64 Zyp p
theorem ZHd(N:Nat)(e:Edit)(d:Int)(Q:QT)(h:∀ u,u=(e.new)->∀ s,s=(e.old)->let z9:=(Q .ret (L2 [pB 4 false] []));let z7:=(e.kind !=1) && (Ye s);let z4:=bif (d==0) then true else (decide (e.kind < 0));let z2:=bif (Zb s 64) then (Zb u 64) else false;let z6:=bif z2 then (e.old.kind !=10) else false;let z1:=bif (e.kind !=1) then (!(bif (Ye s) then (Ye u) else false)) else false;let z5:=(!z1) && (e.kind !=2);let z0:=bif z1 then true else (bif (e.kind !=2) then (decide ((0:Int) < (((e.words.length:Int):Int)+(e.kids.length:Int)))) else false);let z3:=(!z0) && (e.kind !=3);let z8:=z3 && (!(e.list !=0));((Tt (!(d==0)))/\(Tt (!(d==0)))/\((d==0)=false->(!(d==0))=true)/\(Tt (!z4))/\(Tt (!z4))/\(z4=false->(!z4)=true)/\(iB (bif z4 then true else (decide ((3:Int) < e.kind))) z9 ((Tt (e.kind !=1))/\(Tt (e.kind !=1))/\((e.kind !=1)=true->Z51 (s,()))/\(Tt (e.kind !=1))/\(Tt z7)/\(Tt z7)/\(z7=true->Z51 (u,()))/\((e.kind !=1)=true->(True->(e.kind !=1)=true))/\((e.kind !=1)=true->((Ye s)=true->z7=true))/\(Tt (e.kind !=1))/\(Tt (e.kind !=1))/\(Tt (!z1))/\(Tt (!z1))/\(Tt (!z1))/\(Tt z5)/\(Tt z5)/\(Tt z5)/\(Tt z5)/\(Tt z5)/\(Tt z5)/\(z5=true->InR (((e.words.length:Int):Int)+(e.kids.length:Int)))/\(Tt z5)/\((!z1)=true->(True->(!z1)=true))/\((!z1)=true->((e.kind !=2)=true->z5=true))/\(z1=false->(!z1)=true)/\(Tt (!z0))/\(Tt (!z0))/\(Tt (!z0))/\(Tt z3)/\(Tt z3)/\(Tt z3)/\(Tt z8)/\(Tt z8)/\(Tt z8)/\(z3=true->(True->z3=true))/\(z3=true->((e.list !=0)=false->z8=true))/\((!z0)=true->(True->(!z0)=true))/\((!z0)=true->((e.kind !=3)=true->z3=true))/\(z0=false->(!z0)=true)/\(iB (bif z0 then true else (bif (e.kind !=3) then (bif (e.list !=0) then true else (decide ((0:Int) < (e.ops.length:Int)))) else false)) z9 ((iB (e.kind==1) ((Z54 (s,64,()))/\(Tt (Zb s 64))/\(Tt (Zb s 64))/\((Zb s 64)=true->Z54 (u,64,()))/\(Tt (Zb s 64))/\(Tt z2)/\(Tt z2)/\(Tt z2)/\(Tt z2)/\(Tt z6)/\(Tt z6)/\(Tt z6)/\(Tt z6)/\(Q .ret (L2 [(4,.c (.bool (bif z6 then (e.new.kind !=10) else false)))] []))) ((Zp (A64 N [1,1,1,1,1,0,1,0,0]) (Z9p e d (-1) 0) (xB 0 (S64 N [1,1,1,1,1,1] Q))))))))))):
  A64 N [] (L2 [(0,.agg (enc .edit e)),pI 1 d] []) Q:=
 Eq.mpr V4 (h _ (Z7 _) _ (Z7 _))
theorem ZwE(N:Nat)(e:Edit)(d x5 u:Int)(N0:NT)(Q:QT)(h:∀ s,s=(e.words.getD u.toNat (WEdit.mk 0 0 0 0))->let z3:=decide (s.at_<=x5);let z2:=bif z3 then true else (decide ((65534:Int) < s.at_));let z0:=bif z2 then true else (s.mask==0);let z1:=bif z0 then true else (!(Yf s.old s.mask));(iB (decide (u < (e.words.length:Int))) (((0:Int)<=u/\u < (e.words.length:Int))/\((Tt (!z3))/\(Tt (!z3))/\(z3=false->(!z3)=true)/\(Tt (!z2))/\(Tt (!z2))/\(z2=false->(!z2)=true)/\(Tt (!z0))/\(Tt (!z0))/\(Tt (!z0))/\(Tt (!z0))/\((!z0)=true->ZhI (s.old,s.mask,()))/\(Tt (!z0))/\(z0=false->(!z0)=true)/\(Tt (!z1))/\(Tt (!z1))/\(Tt (!z1))/\(Tt (!z1))/\((!z1)=true->ZhI (s.new,s.mask,()))/\(Tt (!z1))/\(z1=false->(!z1)=true)/\(iB (bif z1 then true else (!(Yf s.new s.mask))) ((Q .ret (L2 [pB 4 false] []))) (((InR (u+1))/\(N0 (Z9p e d s.at_ (u+1)))))))) ((Zp (A64 N [1,1,1,1,1,1,1,0,1,0,0]) (Z9o e d (-1) 0) (xB 2 (S64 N [1,1,1,1,1,1,1,1] Q)))))):
  A64 N [1,1,1,1,1,0,1,0,0] (Z9p e d x5 u) (xT N0 (xB 0 (S64 N [1,1,1,1,1,1] Q))):=
 Eq.mpr V4 (h _ rfl)
theorem ZwD(N:Nat)(e:Edit)(d ab s:Int)(N1:NT)(Q:QT)(h:∀ u,u=(e.kids.getD s.toNat (KidOf.mk 0 Edit.nil))->∀ aa,aa=(u.e)->let z5:=(Q .ret (L2 [pB 4 false] []));let z4:=decide (e.list < 2);let z3:=(e.kind==3) && (!z4);let z2:=decide (u.at_<=ab);let z0:=bif z2 then true else (decide ((65534:Int) < u.at_));let z1:=bif z0 then true else (u.e.kind==0);(iB (decide (s < (e.kids.length:Int))) (((0:Int)<=s/\s < (e.kids.length:Int))/\((Tt (!z2))/\(Tt (!z2))/\(z2=false->(!z2)=true)/\(Tt (!z0))/\(Tt (!z0))/\(Tt (!z0))/\(z0=false->(!z0)=true)/\(Tt (!z1))/\(Tt (!z1))/\((!z1)=true->InR (d - 1))/\(Tt (!z1))/\(Tt (!z1))/\((!z1)=true->Zb0 (aa,(d - 1),()))/\((!z1)=true->ZhP (aa,(d - 1),()) < N)/\(Tt (!z1))/\(z1=false->(!z1)=true)/\(iB (bif z1 then true else (!(Z5 aa (d - 1)))) z5 (((InR (s+1))/\(N1 (Z9o e d u.at_ (s+1)))))))) ((Tt (e.kind==3))/\(Tt (e.kind==3))/\(Tt (e.kind==3))/\(Tt z3)/\(Tt z3)/\((e.kind==3)=true->(True->(e.kind==3)=true))/\((e.kind==3)=true->(z4=false->z3=true))/\(Tt (e.kind==3))/\(iB (bif (e.kind==3) then (bif z4 then true else (decide ((9:Int) < e.list))) else false) z5 ((Zp (A64 N [1,1,1,1,1,1,1,1,1,0,1,0,0]) (Z9n e d 0) (xB 4 (S64 N [1,1,1,1,1,1,1,1,1,1] Q)))))))):
  A64 N [1,1,1,1,1,1,1,0,1,0,0] (Z9o e d ab s) (xT N1 (xB 2 (S64 N [1,1,1,1,1,1,1,1] Q))):=
 Eq.mpr V4 (h _ rfl _ (Z6 _))
theorem ZwC(N:Nat)(e:Edit)(d s:Int)(N2:NT)(Q:QT)(h:∀ aa,aa=e->∀ ab,ab=(e.ops.getD s.toNat Op.nil)->∀ u,u=ab->let z0:=decide (((Z0Q aa.ops 0):Int) < 1048576);(iB (decide (s < (e.ops.length:Int))) (((0:Int)<=s/\s < (e.ops.length:Int))/\(InR (d - 1))/\(Za5 (e.list,u,(d - 1),()))/\(Zg3 (e.list,u,(d - 1),()) < N)/\(iB (!(Zg e.list u (d - 1))) ((Q .ret (L2 [pB 4 false] []))) ((InR (s+1))/\(N2 (Z9n e d (s+1)))))) ((Ze4 (aa,()))/\((Tt z0)/\(Tt z0)/\(Q .ret (L2 [(4,.c (.bool (bif z0 then (decide (((Z0P aa.ops 0):Int) < 1048576)) else false)))] [])))))):
  A64 N [1,1,1,1,1,1,1,1,1,0,1,0,0] (Z9n e d s) (xT N2 (xB 4 (S64 N [1,1,1,1,1,1,1,1,1,1] Q))):=
 Eq.mpr V4 (h _ (Z6 _) _ rfl _ (YE _))
def ZE6(N:Nat)(e:Edit)(d:Int):Prop:=AW (Z1 (ZlZ N)) Tryz.f64 Zyp [] (Zf (Zim.can (e,d,())) []) (EQ Tryz.f64 (Zna (e,d,())) [])
abbrev ZGS:Prop:=∀ (N:Nat) (e:Edit) (d:Int) (_:Unit),Zb0 (e,d,())->ZhP (e,d,()) < N+1->ZE6 N e d
def ZnW:Zc U:=lvl [([0,2,4],[4]),([0,2,4,10],[4]),([6],[]),([0,2,4,42],[4]),([6],[]),([0,2,4,45],[4]),([0,4,7],[4]),([0,4,7,50],[4]),([0,4,7],[4]),([0,4,7,62],[4]),([6],[]),([6],[]),([0,4,92],[4]),([6],[]),([6],[])]
def Z6F(list:Int)(o:Op)(d h:Int):LSt U:=(L2 [pI 0 list,pL 4,pI 7 h] [(.loc 4,(enc .op o))])
abbrev ZEB(N:Nat)(p:List Nat):=AW (Z1 (ZlZ N)) Tryz.f101 ZnW p
abbrev Zz2(N:Nat)(p:List Nat):=SW (Z1 (ZlZ N)) Tryz.f101 ZnW p
theorem ZFO(N:Nat)(list:Int)(o:Op)(d:Int)(Q:QT)(h:∀ s,s=(o.e)->let z10:=(Q .ret (L2 [pB 6 false] []));let z9:=decide ((1:Int)<=o.n);let z6:=bif (o.n !=0) then true else (decide (o.kind < 0));let z4:=decide ((0:Int) < (o.l.length:Int));let z7:=bif z4 then true else (o.e.kind==0);let z3:=bif (o.e.kind==1) then (o.e.old.kind==1) else false;let z2:=bif z9 then (decide (o.n<=1048576)) else false;let z5:=bif z2 then (((o.l.length:Int):Int)==0) else false;let z1:=bif z7 then true else (decide (list<=7));let z0:=bif (list==8) then true else (o.e.kind==2);let z8:=(!z0) && (o.e.kind==1);(iB (o.kind==0) ((Tt z9)/\(Tt z9)/\(Tt z9)/\(Tt z2)/\(Tt z2)/\(Tt z2)/\(Tt z2)/\(Tt z5)/\(Tt z5)/\(z5=true->Z7y (s,()))/\(Tt z5)/\(Q .ret (L2 [(6,.c (.bool (bif z5 then (Z0U s) else false)))] []))) ((Tt (!(o.n !=0)))/\(Tt (!(o.n !=0)))/\((o.n !=0)=false->(!(o.n !=0))=true)/\(Tt (!z6))/\(Tt (!z6))/\(z6=false->(!z6)=true)/\(iB (bif z6 then true else (decide ((3:Int) < o.kind))) z10 ((iB (decide (o.kind < 3)) ((Zp (ZEB N [1,1,1,0,1,0,0,1,0,0]) (Z6F list o d 0) (xB 0 (Zz2 N [1,1,1,0,1,0,1] (Zz2 N [1,1,1,1] Q))))) ((Tt (!z4))/\(Tt (!z4))/\(Tt (!z4))/\(z4=false->(!z4)=true)/\(Tt (!z7))/\(z7=false->(!z7)=true)/\(Tt (!z1))/\(Tt (!z1))/\(Tt (!z1))/\((!z1)=true->Zb0 (s,d,()))/\((!z1)=true->ZhP (s,d,()) < N)/\(Tt (!z1))/\(z1=false->(!z1)=true)/\(iB (bif z1 then true else (!(Z5 s d))) z10 ((Tt (!(list==8)))/\(Tt (!(list==8)))/\(Tt (!(list==8)))/\((list==8)=false->(!(list==8))=true)/\(Tt (!z0))/\(Tt (!z0))/\(Tt (!z0))/\(Tt (!z0))/\(Tt z8)/\(Tt z8)/\(Tt z8)/\(Tt z8)/\((!z0)=true->(True->(!z0)=true))/\((!z0)=true->((o.e.kind==1)=true->z8=true))/\(Tt (!z0))/\(Tt ((!z0) && z3))/\(Tt ((!z0) && z3))/\(Tt ((!z0) && z3))/\(Tt ((!z0) && z3))/\((!z0)=true->(True->(!z0)=true))/\((!z0)=true->(z3=true->((!z0) && z3)=true))/\(z0=false->(!z0)=true)/\(Q .ret (L2 [(6,.c (.bool (bif z0 then true else (bif z3 then (o.e.new.kind==1) else false))))] []))))))))))):
  ZEB N [] (L2 [pI 0 list,(1,.agg (enc .op o)),pI 2 d] []) Q:=
 Eq.mpr V4 (h _ (Z6 _))
theorem Zs3(N:Nat)(list:Int)(o:Op)(d s:Int)(N0:NT)(Q:QT)(h:let z2:=Tree.mk list [] (List.drop s.toNat (List.take (Int.toNat (s+1)) o.l));let z1:=Edit.mk o.e.kind (Tree.mk o.e.old.kind o.e.old.words o.e.old.kids) (Tree.mk o.e.new.kind o.e.new.words o.e.new.kids) o.e.words o.e.kids o.e.list o.e.ops;let z0:=decide ((0:Int) < (o.l.length:Int));(iB (decide (s < (o.l.length:Int))) ((InR (s+1))/\((0:Int)<=s/\s<=(s+1)/\(s+1)<=(o.l.length:Int))/\(Z54 (z2,64,()))/\(iB (!(Zb z2 64)) ((Q .ret (L2 [pB 6 false] []))) ((InR (s+1))/\(N0 (Z6F list o d (s+1)))))) ((Tt z0)/\(Tt z0)/\(z0=true->Z7y (z1,()))/\(Tt z0)/\(Q .ret (L2 [(6,.c (.bool (bif z0 then (Z0U z1) else false)))] []))))):
  ZEB N [1,1,1,0,1,0,0,1,0,0] (Z6F list o d s) (xT N0 (xB 0 (Zz2 N [1,1,1,0,1,0,1] (Zz2 N [1,1,1,1] Q)))):=
 Eq.mpr V4 h
def ZAd(N:Nat)(list:Int)(o:Op)(d:Int):Prop:=AW (Z1 (ZlZ N)) Tryz.f101 ZnW [] (Zf (Zcz.can (list,o,d,())) []) (EQ Tryz.f101 (Zhh (list,o,d,())) [])
abbrev ZB3:Prop:=∀ (N:Nat) (list:Int) (o:Op) (d:Int) (_:Unit),Za5 (list,o,d,())->Zg3 (list,o,d,()) < N+1->ZAd N list o d
def ZlY(N:Nat):List (FuncId × Fs U):=(65,fs Zps (fun a=> [ZdI a,ZjL a < N]) Zsm) ::[(102,Z1N)]
def Zyo:Zc U:=lvl [([1],[1]),([1,3,4],[1]),([1,17],[1]),([2],[]),([1,5],[1]),([1,5,22],[1]),([1,5],[1]),([1,5,32],[1]),([2],[]),([1,6],[1]),([1,6,37],[1]),([1,6],[1]),([1,6,47],[1]),([2],[]),([2],[])]
def Z9m(e:Edit)(d:Int):LSt U:=(L2 [pL 1,pI 5 d] [(.loc 1,(enc .edit e))])
def Z9l(e:Edit)(d:Int):LSt U:=(L2 [pL 1,pI 6 d] [(.loc 1,(enc .edit e))])
abbrev A65(N:Nat)(p:List Nat):=AW (Z1 (ZlY N)) Tryz.f65 Zyo p
abbrev S65(N:Nat)(p:List Nat):=SW (Z1 (ZlY N)) Tryz.f65 Zyo p
theorem ZHc(N:Nat)(e:Edit)(Q:QT)(h:∀ d,d=e->let z0:=decide ((2000:Int) < (Z0Q d.ops 0));((Ze4 (d,()))/\((Tt (!z0))/\(z0=false->(!z0)=true)/\(iB (bif z0 then true else (decide ((2000:Int) < (Z0P d.ops 0)))) ((Q .ret (L2 [pB 2 false] []))) ((Zp (A65 N [1,1,1,0,1,0,0]) (Z9m e 0) (xB 0 (S65 N [1,1,1,1] Q)))))))):
  A65 N [] (L2 [(0,.agg (enc .edit e))] []) Q:=
 Eq.mpr V4 (h _ (Z6 _))
theorem ZwB(N:Nat)(e:Edit)(s:Int)(N0:NT)(Q:QT)(h:∀ u,u=(e.kids.getD s.toNat (KidOf.mk 0 Edit.nil))->∀ d,d=(u.e)->(iB (decide (s < (e.kids.length:Int))) (((0:Int)<=s/\s < (e.kids.length:Int))/\(ZdI (d,()))/\(ZjL (d,()) < N)/\(iB (!(Yn d)) ((Q .ret (L2 [pB 2 false] []))) ((InR (s+1))/\(N0 (Z9m e (s+1)))))) ((Zp (A65 N [1,1,1,1,0,1,0,0]) (Z9l e 0) (xB 2 (S65 N [1,1,1,1,1] Q)))))):
  A65 N [1,1,1,0,1,0,0] (Z9m e s) (xT N0 (xB 0 (S65 N [1,1,1,1] Q))):=
 Eq.mpr V4 (h _ rfl _ (Z6 _))
theorem ZwA(N:Nat)(e:Edit)(d:Int)(N1:NT)(Q:QT)(h:∀ u,u=(e.ops.getD d.toNat Op.nil)->∀ s,s=(u.e)->(iB (decide (d < (e.ops.length:Int))) (((0:Int)<=d/\d < (e.ops.length:Int))/\(ZdI (s,()))/\(ZjL (s,()) < N)/\(iB (!(Yn s)) ((Q .ret (L2 [pB 2 false] []))) ((InR (d+1))/\(N1 (Z9l e (d+1)))))) ((Q .ret (L2 [pB 2 true] []))))):
  A65 N [1,1,1,1,0,1,0,0] (Z9l e d) (xT N1 (xB 2 (S65 N [1,1,1,1,1] Q))):=
 Eq.mpr V4 (h _ rfl _ (Z6 _))
def ZE5(N:Nat)(e:Edit):Prop:=AW (Z1 (ZlY N)) Tryz.f65 Zyo [] (Zf (Zps.can (e,())) []) (EQ Tryz.f65 (Zsm (e,())) [])
theorem ZBQ(Zr4:CT 102 Z1N)(hb:∀ (N:Nat) (e:Edit) (_:Unit),ZdI (e,())->ZjL (e,()) < N+1->ZE5 N e):CT 65 Zd1:=
 J0 (μ:=ZjL) (l:=[(102,Z1N)]) Zh rfl (⟨Zr4,trivial⟩) Zyo Tryz.func65 rfl rfl 1 (fun _=> rfl) V3 (fun N ⟨e,_⟩=> hb N e ())
def Zv9:List (FuncId × Fs U):=[(45,Zda),(64,Zd2),(65,Zd1)]
abbrev A14(p:List Nat):=AW (Z1 Zv9) Tryz.f14 ZCr p
theorem ZHv(e:Edit)(Q:QT)(h:∀ d,d=e->let z1:=decide (0<=Z0G d 80 3000);let z0:=bif z1 then (Z5 d 64) else false;((Zte (d,()))/\(Tt z1)/\(z1=true->Zb0 (d,64,()))/\(Tt z1)/\(Tt z0)/\(z0=true->ZdI (d,()))/\(Tt z0)/\(Q .ret (L2 [(2,.c (.bool (bif z0 then (Yn d) else false)))] [])))):
  A14 [] (L2 [(0,.agg (enc .edit e))] []) Q:=
 Eq.mpr V4 (h _ (Z6 _))
def ZEo(e:Edit):Prop:=AW (Z1 Zv9) Tryz.f14 ZCr [] (Zf (Zps.can (e,())) []) (EQ Tryz.f14 (ZAt (e,())) [])
theorem ZC8(c45:CT 45 Zda)(c64:CT 64 Zd2)(c65:CT 65 Zd1)(hb:∀ (e:Edit) (_:Unit),Zjs (e,())->ZEo e):CT 14 Zdd:=
 Z0 (l:=[(45,Zda),(64,Zd2),(65,Zd1)]) Zh rfl (⟨c45,c64,c65,trivial⟩) ZCr Tryz.func14 rfl rfl 1 (fun _=> rfl) V3 (fun ⟨e,_⟩=> hb e ())
theorem Zqx(c99:CT 99 Z3P)(ZDy:CT 100 Z5L)(ZDo:CT 137 Z5K)(c31:CT 31 Z8p)(Zr4:CT 102 Z1N)(ha:ZGS)(hb:ZB3):CT 64 Zd2/\CT 101 ZmS:=
 Z78 (μA:=ZhP) (μB:=Zg3) (l:=[(99,Z3P),(100,Z5L),(137,Z5K),(31,Z8p),(102,Z1N)]) Zh rfl (⟨c99,ZDy,ZDo,c31,Zr4,trivial⟩) Zyp ZnW Tryz.func64 Tryz.func101 rfl rfl rfl rfl 2 3 (fun _=> rfl) (fun _=> rfl) V3 V3 (fun N ⟨e,d,_⟩=> ha N e d ()) (fun N ⟨list,o,d,_⟩=> hb N list o d ())
end
theorem Z4A{n:Int}(h0:0<=n)(h1:n < 18446744073709551616):IntKind.wrap .u64 n=n:=by
 simp [IntKind.wrap,IntKind.signed,IntKind.bits];omega
theorem Z5C{n:Int}(h0:0<=n)(h1:n < 256):IntKind.wrap .u8 n=n:=by
 simp [IntKind.wrap,IntKind.signed,IntKind.bits];omega
theorem ZpF{i:Int}{j:Nat}{v:Int}{F G:Nat->Int}(hi:0<=i)(hv:v=F i.toNat):Z1u i j v (if (j:Int) < i then F j else G j)=if (j:Int) < i+1 then F j else G j:=by
 unfold Z1u
 grind
theorem Z0M(w:Int)(i:Nat):0<=Zk w i/\Zk w i < 256:=by
 unfold Zk
 omega
theorem Z5v{w:Int}(h:0<=w)(i:Nat):0<=w / 256 ^ i:=Kj h (XN (XV V0))
theorem ZeS{w:Int}(h:0<=w)(i:Nat):w / 256 ^ i<=w:=Kg _ h
theorem Zig(w:Int)(i:Nat):w / 256 ^ i / 256=w / 256 ^ (i+1):=by
 rw [Int.ediv_ediv_of_nonneg (XN (XV V0)),Int.pow_succ]
theorem ZD9:Contract Tryz.prog cfg 186 Z8k:=by
 refine ZxJ ?_
 intro w _ d
 simp only [ZdP] at d
 refine ZF7 _ _ ?_;(try simp only [iB,vcT,forall_eq])
 refine Ze (ι:=Int) (fun i=> Z3y w (w / 256 ^ i.toNat) i (if ((0:Nat):Int) < i then Zk w 0 else 0) (if ((1:Nat):Int) < i then Zk w 1 else 0) (if ((2:Nat):Int) < i then Zk w 2 else 0) (if ((3:Nat):Int) < i then Zk w 3 else 0)
  (if ((4:Nat):Int) < i then Zk w 4 else 0) (if ((5:Nat):Int) < i then Zk w 5 else 0) (if ((6:Nat):Int) < i then Zk w 6 else 0) (if ((7:Nat):Int) < i then Zk w 7 else 0)) (fun i=> 0<=i/\i<=8) (fun i=> (8 - i).toNat) 0 ?_ ⟨V0,V0⟩ ?_
 .simp [Z3y]
 .rintro i ⟨h,h2⟩
  refine Zry _ _ _ _ _ _ _ _ _ _ _ _ _ ?_;(try simp only [iB,vcT,forall_eq])
  (simp only [iB,vcS]);(try simp only [iB,vcT])
  refine ⟨fun hc=> ⟨V0,⟨h,V0⟩,V0,V2,i+1,?_,⟨V0,V0⟩,V0⟩,fun hc=> ?_⟩
  .have s:=Z5v d.1 i.toNat
   have hl:=ZeS d.1 i.toNat
   have e1:IntKind.wrap .u64 (Int.tdiv (w / 256 ^ i.toNat) 256)=w / 256 ^ (i+1).toNat:=by
    rw [XI s,Zig,show i.toNat+1=(i+1).toNat by omega]
    exact Z4A (Z5v d.1 _) (Int.lt_of_le_of_lt (ZeS d.1 _) d.2)
   have e2:IntKind.wrap .u8 (Int.tmod (w / 256 ^ i.toNat) 256)=Zk w i.toNat:=by
    rw [Int.tmod_eq_emod_of_nonneg s]
    exact Z5C (Z0M w _).1 (Z0M w _).2
   rw [e1]
   have u:∀ j:Nat,Z1u i j (IntKind.wrap .u8 (Int.tmod (w / 256 ^ i.toNat) 256)) (if (j:Int) < i then Zk w j else 0)=if (j:Int) < i+1 then Zk w j else 0:=fun j=> ZpF (F:=Zk w) (G:=fun _=> 0) h e2
   grind
  .have:i=8:=V0
   subst this
   simp only [Zlc]
   exact ⟨⟨rfl,⟨⟨rfl,rfl⟩,⟨rfl,rfl⟩,⟨rfl,rfl⟩,⟨rfl,rfl⟩,⟨rfl,rfl⟩,⟨rfl,rfl⟩,⟨rfl,rfl⟩,⟨rfl,rfl⟩,trivial⟩,trivial⟩,trivial⟩
theorem ZD8:Contract Tryz.prog cfg 187 Z8j:=by
 refine ZxI ?_
 intro m i _ d
 simp only [ZhC] at d
 refine ZF6 _ _ _ ?_;(try simp only [iB,vcT,forall_eq])
 refine Ze (ι:=Int) (fun k=> Z6j m i (m / 2 ^ k.toNat) k) (fun k=> 0<=k/\k<=i) (fun k=> (i - k).toNat) 0 ?_ ⟨V0,V0⟩ ?_
 .simp
 .rintro k ⟨s,u⟩
  refine Zrx _ _ _ _ _ _ ?_;(try simp only [iB,vcT,forall_eq])
  have h:0<=m / 2 ^ k.toNat:=Kj d.1.1 (XN (XV V0))
  have hl:m / 2 ^ k.toNat<=m:=Kg _ d.1.1
  (simp only [iB,vcS])
  refine ⟨fun hc=> ⟨V0,V2,k+1,?_,⟨V0,V0⟩,V0⟩,fun hc=> ⟨V0,Z4 rfl ?_⟩⟩
  .have e:IntKind.wrap .u8 (Int.tdiv (m / 2 ^ k.toNat) 2)=m / 2 ^ (k+1).toNat:=by
    rw [XI h,Int.ediv_ediv_of_nonneg (XN (XV V0)),show (2:Int) ^ k.toNat*2=2 ^ (k+1).toNat by rw [<-Int.pow_succ];congr 1;omega]
    refine Z5C (Kj d.1.1 (XN (XV V0))) (Int.lt_of_le_of_lt (Kg _ d.1.1) d.1.2)
   rw [e]
  .have:k=i:=V0
   subst this
   rw [Int.tmod_eq_emod_of_nonneg h]
   try rfl
def ZbB(f:Nat->Int):Nat->Int
 | 0=> 0
 | k+1=> f (7 - k)+256*ZbB f k
theorem ZcK{f:Nat->Int}(h:∀ i,0<=f i/\f i < 256):∀ k,0<=ZbB f k/\ZbB f k < 256 ^ k
 | 0=> by simp [ZbB]
 | k+1=> by
  have:=ZcK h k
  have d:=h (7 - k)
  simp only [ZbB,Int.pow_succ]
  omega
theorem ZBe(f:Nat->Int):ZbB f 8=of8 f:=by simp [ZbB,of8]
theorem ZD7:Contract Tryz.prog cfg 188 Z8i:=by
 refine ZxH ?_
 intro b z _ h
 obtain ⟨rfl,hl,u⟩:=h
 dsimp only at hl u
 refine ZF5 _ _ _ ?_;(try simp only [iB,vcT,forall_eq])
 have hf:∀ i,0<=b.getD i 0/\b.getD i 0 < 256:=by
  intro i
  by_cases hi:i < b.length
  .simp_all
  .grind
 refine Ze (ι:=Int) (fun i=> Z6i b 0 (ZbB (fun i=> b.getD i 0) (7 - i).toNat) i) (fun i=> -1<=i/\i<=7) (fun i=> (i+1).toNat) 7 rfl ⟨V0,V0⟩ ?_
 rintro i ⟨h1,h2⟩
 refine Zrw _ _ _ _ _ _ ?_;(try simp only [iB,vcT,forall_eq])
 (simp only [iB,vcS]);(try simp only [iB,vcT])
 have hr:=ZcK (f:=fun i=> b.getD i 0) hf (7 - i).toNat
 refine ⟨fun hc=> ⟨V2,V0,V2,i - 1,?_,⟨V0,V0⟩,V0⟩,fun hc=> YZ rfl ?_⟩
 .have d:(256:Int) ^ (7 - i).toNat<=256 ^ 7:=by
   have:(256:Int) ^ (7 - i).toNat=((256 ^ (7 - i).toNat:Nat):Int):=by simp
   rw [this]
   have h7:(256:Nat) ^ (7 - i).toNat<=256 ^ 7:=Nat.pow_le_pow_right V0 V0
   have:((256:Nat) ^ 7:Nat)=72057594037927936:=V3
   omega
  have e7:(256:Int) ^ 7=72057594037927936:=V3
  have s:=hf i.toNat
  have e:ZbB (fun i=> b.getD i 0) (7 - (i - 1)).toNat=b.getD i.toNat 0+256*ZbB (fun i=> b.getD i 0) (7 - i).toNat:=by
   rw [show (7 - (i - 1)).toNat=(7 - i).toNat+1 by omega]
   simp only [ZbB]
   grind
  rw [e,show (0+i).toNat=i.toNat by omega,Z4A (n:=ZbB (fun i=> b.getD i 0) (7 - i).toNat*256) V0 V0,Z4A (n:=b.getD i.toNat 0) V0 V0,Z4A V0 V0]
  grind
 .have:i= -1:=V0
  subst this
  exact ZBe _
theorem ZGm(f:Nat->Int){i:Nat}(h:i < 8):List.getD [f 0,f 1,f 2,f 3,f 4,f 5,f 6,f 7] i 0=f i:=by
 match i,h with
 | 0,_=> rfl
 | 1,_=> rfl
 | 2,_=> rfl
 | 3,_=> rfl
 | 4,_=> rfl
 | 5,_=> rfl
 | 6,_=> rfl
 | 7,_=> rfl
theorem Z5c(a b m:Int)(i:Nat):0<=Jp a b m i/\Jp a b m i < 256:=by
 unfold Jp
 split
 .exact Z0M _ _
 .exact Z0M _ _
theorem ZDp:Contract Tryz.prog cfg 136 Z8o:=by
 refine Zy5 ZD9 ZD8 ZD7 ?_
 intro a b m _ h
 simp only [ZhG] at h
 refine ZFv _ _ _ _ ?_;(try simp only [iB,vcT,forall_eq])
 refine ⟨h.1,h.2.1,?_⟩
 refine Ze (ι:=Int) (fun i=> Z2a a b m i (if ((0:Nat):Int) < i then Jp a b m 0 else Zk a 0) (if ((1:Nat):Int) < i then Jp a b m 1 else Zk a 1) (if ((2:Nat):Int) < i then Jp a b m 2 else Zk a 2) (if ((3:Nat):Int) < i then Jp a b m 3 else Zk a 3)
  (if ((4:Nat):Int) < i then Jp a b m 4 else Zk a 4) (if ((5:Nat):Int) < i then Jp a b m 5 else Zk a 5) (if ((6:Nat):Int) < i then Jp a b m 6 else Zk a 6) (if ((7:Nat):Int) < i then Jp a b m 7 else Zk a 7)) (fun i=> 0<=i/\i<=8) (fun i=> (8 - i).toNat) 0 ?_ ⟨V0,V0⟩ ?_
 .simp [Z2a]
 .rintro i ⟨d,h2⟩
  refine ZrF _ _ _ _ _ _ _ _ _ _ _ _ _ _ ?_;(try simp only [iB,vcT,forall_eq])
  (simp only [iB,vcS]);(try simp only [iB,vcT])
  refine ⟨fun hc=> ⟨⟨h.2.2,d,V0⟩,fun s=> ⟨⟨d,V0⟩,⟨d,V0⟩,V2,i+1,?_,⟨V0,V0⟩,V0⟩,fun s=> ⟨V2,i+1,?_,⟨V0,V0⟩,V0⟩⟩,fun hc=> ?_⟩
  .rw [ZGm (Zk b) V0]
   have u:Zk b i.toNat=Jp a b m i.toNat:=by
    unfold Jp
    rw [show ((i.toNat:Nat):Int)=i by omega,s]
    try rfl
   have st:∀ j:Nat,Z1u i j (Zk b i.toNat) (if (j:Int) < i then Jp a b m j else Zk a j)=if (j:Int) < i+1 then Jp a b m j else Zk a j:=fun j=> ZpF (F:=Jp a b m) (G:=Zk a) d u
   grind
  .have u:Jp a b m i.toNat=Zk a i.toNat:=by
    unfold Jp
    rw [show ((i.toNat:Nat):Int)=i by omega,s]
    try rfl
   grind
  .have:i=8:=V0
   subst this
   refine ⟨⟨rfl,rfl,?_⟩,YZ rfl ?_⟩
   .intro x hx
    simp at hx
    rcases hx with rfl | rfl | rfl | rfl | rfl | rfl | rfl | rfl <;> exact Z5c _ _ _ _
   .try rfl
theorem ZqP{α:Type}{l:List α}{i:Nat}(h:i < l.length)(d:α):l.drop i=l.getD i d ::l.drop (i+1):=by
 simp_all
theorem YJ{α:Type}{l:List α}{i:Int}(h0:0<=i)(h:i < l.length)(d:α):l.drop i.toNat=l.getD i.toNat d ::l.drop (i+1).toNat:=by
 rw [ZqP V0 d,show i.toNat+1=(i+1).toNat by omega]
theorem Zo{α:Type}{l:List α}{i:Nat}(h:i < l.length)(d:α):l.getD i d∈l:=by
 grind
theorem JH(t:Tree):1<=Zj t:=by cases t;simp only [Zj];omega
theorem Z65(e:Edit):1<=Za e:=by cases e;simp only [Za];omega
theorem Zai(k:Kid):Z07 k=Za k.e:=by cases k;rfl
theorem ZV(o:Op):Zy o=Zd o.l+Za o.e:=by cases o;rfl
theorem Jr:∀ {ks:List Tree} {t:Tree},t∈ks->Zj t<=Zd ks
 | x ::r,t,h=> by
  simp only [Zd]
  rcases Q9.1 h with rfl | h
  .omega
  .have:=Jr h;omega
theorem Z0f:∀ {ks:List Kid} {k:Kid},k∈ks->Za k.e<=ZR ks
 | x ::r,k,h=> by
  simp only [ZR,Zai]
  rcases Q9.1 h with rfl | h
  .omega
  .have:=Z0f h;omega
theorem Yy:∀ {os:List Op} {o:Op},o∈os->Zy o<=Zl os
 | x ::r,o,h=> by
  simp only [Zl]
  rcases Q9.1 h with rfl | h
  .omega
  .have:=Yy h;omega
theorem Yz:∀ (ks:List Kid),ks.length<=ZR ks
 | []=> by simp [ZR]
 | k ::r=> by
  have:=Yz r
  have:=Z65 k.e
  simp only [ZR,Zai,Qs]
  omega
theorem Y5:∀ (os:List Op),os.length<=Zl os
 | []=> by simp [Zl]
 | o ::r=> by
  have:=Y5 r
  have:=Z65 o.e
  simp only [Zl,ZV,Qs]
  omega
theorem Zdf:∀ {ks:List Tree} {t:Tree},Z2Y ks->t∈ks->Z2J t
 | x ::r,t,hs,h=> by
  simp only [Z2Y] at hs
  rcases Q9.1 h with rfl | h
  .exact hs.1
  .exact Zdf hs.2 h
theorem ZaN:∀ {ks:List Kid} {k:Kid},Z5N ks->k∈ks->Z2g k.e
 | x ::r,k,hs,h=> by
  simp only [Z5N] at hs
  rcases Q9.1 h with rfl | h
  .have:=hs.1;obtain ⟨a,e⟩:=k;exact this
  .exact ZaN hs.2 h
theorem ZaM:∀ {os:List Op} {o:Op},Z5M os->o∈os->o.l.length<=17592186044416/\Z2Y o.l/\Z2g o.e
 | x ::r,o,hs,h=> by
  simp only [Z5M] at hs
  rcases Q9.1 h with rfl | h
  .have:=hs.1;obtain ⟨a,b,c,e⟩:=o;exact this
  .exact ZaM hs.2 h
theorem YV:∀ {ks:List Tree} {t:Tree},Y6 ks->t∈ks->rng t
 | x ::r,t,hs,h=> by
  simp only [Y6] at hs
  rcases Q9.1 h with rfl | h
  .exact hs.1
  .exact YV hs.2 h
theorem Ys:∀ {ks:List Kid} {k:Kid},Z2O ks->k∈ks->InR k.at_/\Yp k.e
 | x ::r,k,hs,h=> by
  simp only [Z2O] at hs
  rcases Q9.1 h with rfl | h
  .have:=hs.1;obtain ⟨a,e⟩:=k;exact this
  .exact Ys hs.2 h
theorem Z0Z:∀ {os:List Op} {o:Op},Z1A os->o∈os->Z1j o
 | x ::r,o,hs,h=> by
  simp only [Z1A] at hs
  rcases Q9.1 h with rfl | h
  .exact hs.1
  .exact Z0Z hs.2 h
theorem Z1d{o:Op}(h:Z1j o):InR o.kind/\InR o.n/\Y6 o.l/\Yp o.e:=by obtain ⟨a,b,c,e⟩:=o;exact h
theorem ZqA(k:Kid)(d n:Int):Z2U k d n=Z0G k.e d n:=by cases k;rfl
theorem ZuH(o:Op)(d n:Int):Z5m o d n=if Zu o.l 80 n < 0 then Zu o.l 80 n else Z0G o.e d (Zu o.l 80 n):=by cases o;rfl
theorem Z9R(t:Tree)(n:Int)(h: -1<=n): -1<=sh1 t n/\sh1 t n<=n:=by
 unfold sh1
 split
 .omega
 .have:=YH t 80 n;omega
mutual
theorem Z1r:∀ (e:Edit) (d n:Int),-1<=Z0G e d n/\Z0G e d n<=max n (-1)
 | .mk _ o nw w ks _ os,d,n=> by
  simp only [Z0G]
  split
  .omega
  .have u:=YH o 80 (n - 1 - w.length - os.length)
   have h:=Z9R nw _ u.1
   have s:=Z1U ks (d - 1) _ h.1
   have h4:=Z1T os (d - 1) _ s.1
   omega
theorem Z1U:∀ (ks:List (KidOf Edit)) (d n:Int),-1<=n->-1<=JJ ks d n/\JJ ks d n<=n
 | [],d,n,h=> by simp only [JJ];omega
 | k ::r,d,n,h=> by
  simp only [JJ]
  split
  .omega
  .have s:=Z75 k d n
   have u:=Z1U r d _ s.1
   omega
theorem Z75:∀ (k:KidOf Edit) (d n:Int),-1<=Z2U k d n/\Z2U k d n<=max n (-1)
 | ⟨_,e⟩,d,n=> by
  simp only [Z2U]
  exact Z1r e d n
theorem Z1T:∀ (os:List (OpOf Edit)) (d n:Int),-1<=n->-1<=Z00 os d n/\Z00 os d n<=n
 | [],d,n,h=> by simp only [Z00];omega
 | o ::r,d,n,h=> by
  simp only [Z00]
  split
  .omega
  .have s:=Z93 o d n h
   have u:=Z1T r d _ s.1
   omega
theorem Z93:∀ (o:OpOf Edit) (d n:Int),-1<=n->-1<=Z5m o d n/\Z5m o d n<=n
 | ⟨_,_,l,e⟩,d,n,h=> by
  simp only [Z5m]
  have u:=Z0w l 80 n h
  split
  .omega
  .have s:=Z1r e d (Zu l 80 n)
   omega
end
theorem Zsf{t:Tree}{n:Int}(h:0<=sh1 t n):(Zj t:Int)+sh1 t n<=n:=by
 unfold sh1 at*
 split at h
 .omega
 .rename_i d
  rw [if_neg d]
  exact Z0v t 80 n h
mutual
theorem Z7L:∀ (e:Edit) (d n:Int),0<=Z0G e d n->(Za e:Int)+Z0G e d n<=n
 | .mk _ o nw w ks _ os,d,n,h=> by
  simp only [Z0G] at h ⊢
  split at h
  .omega
  .rename_i hc
   rw [if_neg hc]
   have s:=YH o 80 (n - 1 - w.length - os.length)
   have u:=Z9R nw _ s.1
   have r3:=Z1U ks (d - 1) _ u.1
   have r4:=Z1T os (d - 1) _ r3.1
   have m4:=Zbj os (d - 1) _ h
   have m3:=Zbk ks (d - 1) (sh1 nw (ZD o 80 (n - 1 - w.length - os.length))) V0
   have m2:=Zsf (t:=nw) (n:=ZD o 80 (n - 1 - w.length - os.length)) V0
   have m1:=Z0v o 80 (n - 1 - w.length - os.length) V0
   simp only [Za]
   omega
theorem Zbk:∀ (ks:List (KidOf Edit)) (d n:Int),0<=JJ ks d n->(ZR ks:Int)+JJ ks d n<=n
 | [],d,n,h=> by simp only [JJ,ZR];omega
 | k ::r,d,n,h=> by
  simp only [JJ] at h ⊢
  split at h
  .omega
  .rename_i hc
   rw [if_neg hc]
   have s:=Z75 k d n
   have u:=Z1U r d _ s.1
   have m2:=Zbk r d _ h
   have m1:=ZhT k d n V0
   simp only [ZR]
   omega
theorem ZhT:∀ (k:KidOf Edit) (d n:Int),0<=Z2U k d n->(Z07 k:Int)+Z2U k d n<=n
 | ⟨_,e⟩,d,n,h=> by
  simp only [Z2U,Z07] at h ⊢
  exact Z7L e d n h
theorem Zbj:∀ (os:List (OpOf Edit)) (d n:Int),0<=Z00 os d n->(Zl os:Int)+Z00 os d n<=n
 | [],d,n,h=> by simp only [Z00,Zl];omega
 | o ::r,d,n,h=> by
  simp only [Z00] at h ⊢
  split at h
  .omega
  .rename_i hc
   rw [if_neg hc]
   have s:=Z93 o d n V0
   have u:=Z1T r d _ s.1
   have m2:=Zbj r d _ h
   have m1:=ZjY o d n V0
   simp only [Zl]
   omega
theorem ZjY:∀ (o:OpOf Edit) (d n:Int),0<=Z5m o d n->(Zy o:Int)+Z5m o d n<=n
 | ⟨_,_,l,e⟩,d,n,h=> by
  simp only [Z5m,Zy] at h ⊢
  split at h
  .omega
  .rename_i hc
   rw [if_neg hc]
   have u:=Z7L e d _ h
   have s:=Z1r e d (Zu l 80 n)
   have m1:=Z2Z l 80 n V0
   omega
end
theorem ZaA{e:Edit}(h:0<=Z0G e 80 3000):Za e<=3000:=by
 have:=Z7L e 80 3000 h
 omega
theorem ZjV(t:Tree):t.words.length+t.kids.length < Zj t:=by
 obtain ⟨k,w,ks⟩:=t
 have:=Zs ks
 simp only [Zj,Tree.words_mk,Tree.kids_mk]
 omega
theorem Yt(e:Edit):Zj e.old+Zj e.new+e.words.length+e.ops.length+ZR e.kids+Zl e.ops < Za e:=by
 obtain ⟨k,o,n,w,ks,l,os⟩:=e
 simp only [Za,Edit.old_mk,Edit.new_mk,Edit.words_mk,Edit.ops_mk,Edit.kids_mk]
 omega
theorem c99:Contract Tryz.prog cfg 99 Z3P:=by
 refine ZBF ?_
 intro t _ d
 simp only [Z51] at d
 have:=ZjV t
 refine ZGX t _ ?_;(try simp only [iB,vcT,forall_eq])
 refine ⟨fun _=> by unfold InR;omega,Z4 rfl ?_⟩
 rw [Qo]
 simp only [Ye]
 grind
theorem ZDy:Contract Tryz.prog cfg 100 Z5L:=by
 refine Zyh ZDp ?_
 intro w m _ d
 refine ZFP _ _ _ ?_;(try simp only [iB,vcT,forall_eq])
 refine ⟨⟨d.1,by grind,d.2⟩,Z4 rfl ?_⟩
 try rfl
theorem ZDo:Contract Tryz.prog cfg 137 Z5K:=by
 refine Zy4 c99 ?_
 intro e _ d
 simp only [Z7y] at d
 have s:=Yt e
 have h:=Yz e.kids
 refine ZFu e _ ?_;(try simp only [iB,vcT,forall_eq])
 try (simp only [vE])
 refine ⟨fun _=> by simp only [Z51];omega,fun _=> by simp only [Z51];omega,fun _=> by unfold InR;omega,fun _=> by unfold InR;omega,Z4 rfl ?_⟩
 rw [Qo]
 simp only [Z0U]
 grind
theorem ZCx (e:Edit) (x4 s i:Int) (N0:LSt U->Prop) (Q:AExit->LSt U->Prop) (h1:0<=x4/\x4<=1048576) (h2:0<=s/\s<=1048576) (hi:0<=i) (hlen:e.ops.length<=20000000000)
  (ho:∀ o∈e.ops,(0<=o.n/\o.n<=1048576)/\o.l.length<=20000000000)
  (h:i < e.ops.length->N0 (Z16 e (min (if (e.ops.getD i.toNat Op.nil).kind=2 then x4 else x4+Z2 (e.ops.getD i.toNat Op.nil)) 1048576) (min (if (e.ops.getD i.toNat Op.nil).kind=1 then s else s+Z2 (e.ops.getD i.toNat Op.nil)) 1048576) (i+1)))
  (h':¬i < e.ops.length->Q .ret (⟨[(2,.c (.int .i64 x4)),(3,.c (.int .i64 s))],[],[]⟩:LSt U)):ZyW e x4 s i N0 Q:=by
 refine ZrY _ _ _ _ _ _ ?_;(try simp only [iB,vcT,forall_eq])
 (simp only [iB,vcS]);(try simp only [iB,vcT])
 refine ⟨fun hc=> ?_,h'⟩
 have hn:=h hc
 have hm:=ho _ (Zo (l:=e.ops) (i:=i.toNat) V0 Op.nil)
 have k1:∀ k,k=Z2 (e.ops.getD i.toNat Op.nil)->Zz0 e x4 s i k N0 Q:=by
  intro k hk
  have aq:0<=k/\k<=60000000000:=by
   rw [hk];unfold Z2;split <;> omega
  have k2:∀ y,y=(if (e.ops.getD i.toNat Op.nil).kind=2 then x4 else x4+k)->ZyZ e s i k y N0 Q:=by
   intro y hy
   have al:0<=y/\y<=100000000000:=by rw [hy];split <;> omega
   have k3:∀ z,z=(if (e.ops.getD i.toNat Op.nil).kind=1 then s else s+k)->ZyY e i k y z N0 Q:=by
    intro z hz
    have am:0<=z/\z<=100000000000:=by rw [hz];split <;> omega
    have k4:∀ u,u=min y 1048576->ZyX e i y z u N0 Q:=by
     intro u hu
     refine ZrZ _ _ _ _ _ _ _ ?_;(try simp only [iB,vcT,forall_eq])
     (simp only [iB,vcS]);(try simp only [iB,vcT])
     rw [<-hk,<-hy,<-hz,<-hu] at hn
     refine ⟨fun d=> ⟨V2,?_⟩,fun d=> ⟨V2,?_⟩⟩
     .rw [show min z 1048576=1048576 by omega] at hn;exact hn
     .rw [show min z 1048576=z by omega] at hn;exact hn
    refine Zs0 _ _ _ _ _ _ _ ?_;(try simp only [iB,vcT,forall_eq])
    (simp only [iB,vcS]);(try simp only [iB,vcT])
    exact ⟨fun d=> k4 _ V0,fun d=> k4 _ V0⟩
   refine Zs1 _ _ _ _ _ _ _ ?_;(try simp only [iB,vcT,forall_eq])
   (simp only [iB,vcS]);(try simp only [iB,vcT])
   exact ⟨fun d=> ⟨V2,k3 _ (by rw [if_neg d])⟩,fun d=> k3 _ (by rw [if_pos d])⟩
  refine Zs2 _ _ _ _ _ _ _ ?_;(try simp only [iB,vcT,forall_eq])
  (simp only [iB,vcS]);(try simp only [iB,vcT])
  exact ⟨fun d=> ⟨V2,k2 _ (by rw [if_neg d])⟩,fun d=> k2 _ (by rw [if_pos d])⟩
 exact ⟨⟨hi,hc⟩,V2,fun d=> k1 _ (by unfold Z2;rw [if_pos d]),fun d=> k1 _ (by unfold Z2;rw [if_neg d])⟩
theorem Zr4:Contract Tryz.prog cfg 102 Z1N:=by
 refine Zyg ?_
 intro e _ hp
 simp only [Ze4] at hp
 have h1:=Yt e
 refine ZFN e _ ?_;(try simp only [iB,vcT,forall_eq])
 refine Ze (ι:=Int × Int × Int) (fun p=> Z16 e p.1 p.2.1 p.2.2) (fun p=> 0<=p.2.2/\p.2.2<=e.ops.length/\(0<=p.1/\p.1<=1048576)/\(0<=p.2.1/\p.2.1<=1048576)/\Z0Q (e.ops.drop p.2.2.toNat) p.1=Z0Q e.ops 0/\Z0P (e.ops.drop p.2.2.toNat) p.2.1=Z0P e.ops 0) (fun p=> ((e.ops.length:Int) - p.2.2).toNat) (0,0,0) rfl ⟨by grind,by grind,V0,by grind,by simp,by simp⟩ ?_
 rintro ⟨x4,x5,i⟩ ⟨h2,h3,h4,h5,h,d⟩
 dsimp only at*
 have u:∀ o∈e.ops,(0<=o.n/\o.n<=1048576)/\o.l.length<=20000000000:=by
  intro o s
  refine ⟨hp.2 o s,?_⟩
  have a1:=Yy s
  have a2:=Zs o.l
  rw [ZV] at a1
  omega
 refine ZCx e x4 x5 i _ _ h4 h5 h2 V0 u (fun hc=> ⟨(_,_,i+1),rfl,⟨by grind,by grind,?_,?_,?_,?_⟩,by grind⟩) (fun hc=> ?_)
 .have s:=u _ (Zo (l:=e.ops) (i:=i.toNat) V0 Op.nil)
  dsimp only
  unfold Z2
  omega
 .have s:=u _ (Zo (l:=e.ops) (i:=i.toNat) V0 Op.nil)
  dsimp only
  unfold Z2
  omega
 .rw [YJ h2 hc Op.nil] at h
  exact h
 .rw [YJ h2 hc Op.nil] at d
  exact d
 .rw [Qd V0] at h d
  simp only [Z0Q,Z0P] at h d
  simp only [Zlg,<-h,<-d]
  exact ⟨⟨rfl,⟨⟨rfl,rfl⟩,trivial⟩,rfl,⟨⟨rfl,rfl⟩,trivial⟩,trivial⟩,trivial⟩
theorem ZlQ{l:List Kid}{d n:Int}(h:n < 0):JJ l d n=n:=by cases l <;> simp [JJ,h]
theorem ZlP{l:List Op}{d n:Int}(h:n < 0):Z00 l d n=n:=by cases l <;> simp [Z00,h]
theorem ZgP{l:List Tree}{d n:Int}(h:n < 0):Zu l d n=n:=by cases l <;> simp [Zu,h]
theorem ZpV{e:Edit}(h:Z2g e):Z2J e.old/\Z2J e.new/\e.words.length<=17592186044416/\e.kids.length<=17592186044416/\e.ops.length<=17592186044416/\Z5N e.kids/\Z5M e.ops:=by
 obtain ⟨k,o,n,w,ks,l,os⟩:=e;exact h
theorem ZuI(e:Edit)(d n:Int):Z0G e d n=if d=0\/n - 1 - e.words.length - e.ops.length < 0 then -1 else Z00 e.ops (d - 1) (JJ e.kids (d - 1) (sh1 e.new (ZD e.old 80 (n - 1 - e.words.length - e.ops.length)))):=by
 obtain ⟨k,o,h,w,ks,l,os⟩:=e;rfl
theorem c91:Contract Tryz.prog cfg 91 ZcX:=by
 refine ZBJ c80 ?_
 rintro N e d n _ hp hN
 simp only [ZdG,ZjK] at hp hN
 obtain ⟨hs,bc,be,bh,bg⟩:=hp
 obtain ⟨so,sn,lw,lk,lo,sk,ar⟩:=ZpV hs
 have bf:=Yt e
 have aa:=ZuI e d n
 refine ZH1 N e d n _ ?_;(try simp only [iB,vcT,forall_eq])
 (simp only [iB,vcS]);(try simp only [iB,vcT])
 try (simp only [vE])
 refine ⟨V2,V2,V2,fun hc=> YZ rfl (by rw [aa,if_pos hc]),fun hc=> ?_⟩
 rw [Jk] at aa
 have r1:=YH e.old 80 (n - 1 - e.words.length - e.ops.length)
 have ae:∀ t m,Z2J t->-1<=m->m<=4611686018427387904->Z8G (t,80,m,()):=fun t m h1 h2 h3=> ⟨h1,V5,V5,h2,h3⟩
 have k0:∀ x,x=sh1 e.new (ZD e.old 80 (n - 1 - e.words.length - e.ops.length))->ZDL N e d n x (ZX cfg Tryz.f91.ntmps Tryz.f91.results.toList (Zn8 (e,d,n,())) []):=by
  intro x hx
  have rx:=Z9R e.new _ r1.1
  rw [<-hx] at rx aa
  refine Zws N e d n x _ ?_;(try simp only [iB,vcT,forall_eq])
  refine Ze (ι:=Int × Int) (fun p=> Z9c e d n p.1 p.2) (fun p=> 0<=p.2/\p.2<=e.kids.length/\-1<=p.1/\p.1<=4611686018427387904/\JJ (e.kids.drop p.2.toNat) (d - 1) p.1=JJ e.kids (d - 1) x) (fun p=> ((e.kids.length:Int) - p.2).toNat) (x,0) rfl ⟨V5,V5,V5,V5,by simp⟩ ?_
  rintro ⟨y,i⟩ ⟨h1,h2,h3,h4,h5⟩
  dsimp only at*
  refine Zwr N e d n y i _ _ ?_;(try simp only [iB,vcT,forall_eq])
  (simp only [iB,vcS]);(try simp only [iB,vcT])
  try (simp only [vE])
  refine ⟨fun hi=> ?_,fun hi=> ?_⟩
  .have s:=Zo (l:=e.kids) (i:=i.toNat) V0 (KidOf.mk 0 Edit.nil)
   have ab:=ZaN sk s
   have af:=Z0f s
   rw [YJ h1 hi.1 (KidOf.mk 0 Edit.nil)] at h5
   simp only [JJ] at h5
   rw [Jk,ZqA] at h5
   have rr:=Z1r (e.kids.getD i.toNat (KidOf.mk 0 Edit.nil)).e (d - 1) y
   exact ⟨⟨h1,hi.1⟩,V2,⟨ab,V5,V5,h3,h4⟩,by simp only [ZjK];omega,V2,(_,i+1),rfl,⟨V5,V5,V5,V5,h5⟩,V5⟩
  .have hy:JJ e.kids (d - 1) x=y:=by
    rw [<-h5]
    by_cases hlt:i < e.kids.length
    .exact ZlQ V0
    .rw [Qd V0];try rfl
   rw [hy] at aa
   refine Ze (ι:=Int × Int) (fun p=> Z5o e d n p.1 p.2) (fun p=> 0<=p.2/\p.2<=e.ops.length/\-1<=p.1/\p.1<=4611686018427387904/\Z00 (e.ops.drop p.2.toNat) (d - 1) p.1=Z00 e.ops (d - 1) y) (fun p=> ((e.ops.length:Int) - p.2).toNat) (y,0) rfl ⟨V5,V5,h3,h4,by simp⟩ ?_
   rintro ⟨z,j⟩ ⟨h6,h7,h8,h9,h⟩
   dsimp only at*
   refine Zwq N e d n z j _ _ ?_;(try simp only [iB,vcT,forall_eq])
   (simp only [iB,vcS]);(try simp only [iB,vcT])
   refine ⟨fun hj=> ?_,fun hj=> ?_⟩
   .have s:=Zo (l:=e.ops) (i:=j.toNat) V0 Op.nil
    have ab:=ZaM ar s
    have af:=Yy s
    rw [ZV] at af
    rw [YJ h6 hj.1 Op.nil] at h
    simp only [Z00] at h
    rw [Jk,ZuH] at h
    refine Ze (ι:=Int × Int) (fun p=> Z9b e d n j p.1 p.2) (fun p=> 0<=p.2/\p.2<=(e.ops.getD j.toNat Op.nil).l.length/\-1<=p.1/\p.1<=4611686018427387904/\Zu ((e.ops.getD j.toNat Op.nil).l.drop p.2.toNat) 80 p.1=Zu (e.ops.getD j.toNat Op.nil).l 80 z) (fun p=> (((e.ops.getD j.toNat Op.nil).l.length:Int) - p.2).toNat) (z,0) rfl ⟨V5,V5,h8,h9,by simp⟩ ?_
    rintro ⟨u,k⟩ ⟨g1,g2,g3,g4,g5⟩
    dsimp only at*
    refine Zwp N e d n j u k _ _ _ ?_;(try simp only [iB,vcT,forall_eq])
    (simp only [iB,vcS]);(try simp only [iB,vcT])
    try (simp only [vE])
    refine ⟨⟨h6,hj.1⟩,fun hk=> ?_,fun hk=> ?_⟩
    .have ao:=Zo (l:=(e.ops.getD j.toNat Op.nil).l) (i:=k.toNat) V0 Tree.nil
     rw [YJ g1 hk.1 Tree.nil] at g5
     simp only [Zu] at g5
     rw [Jk] at g5
     have rr:=YH ((e.ops.getD j.toNat Op.nil).l.getD k.toNat Tree.nil) 80 u
     exact ⟨⟨h6,hj.1⟩,⟨g1,hk.1⟩,ae _ _ (Zdf ab.2.1 ao) g3 g4,V2,(_,k+1),rfl,⟨V5,V5,V5,V5,g5⟩,V5⟩
    .have hu:Zu (e.ops.getD j.toNat Op.nil).l 80 z=u:=by
      rw [<-g5]
      by_cases hlt:k < (e.ops.getD j.toNat Op.nil).l.length
      .exact ZgP V0
      .rw [Qd V0];try rfl
     rw [hu] at h
     have rr:=Z1r (e.ops.getD j.toNat Op.nil).e (d - 1) u
     refine ⟨fun hq=> ⟨⟨h6,hj.1⟩,V2,⟨ab.2.2,V5,V5,g3,g4⟩,by simp only [ZjK];omega,V2,(_,j+1),rfl,⟨V5,V5,V5,V5,?_⟩,V5⟩,
      fun hq=> ⟨V2,(_,j+1),rfl,⟨V5,V5,V5,V5,?_⟩,V5⟩⟩
     .rw [Jk] at h;exact h
     .rw [Yu] at h;exact h
   .refine YZ rfl ?_
    rw [aa,<-h]
    by_cases hlt:j < e.ops.length
    .exact (ZlP V0).symm
    .rw [Qd V0];try rfl
 refine ⟨ae _ _ so V0 V0,fun hq=> ⟨ae _ _ sn r1.1 V0,k0 _ ?_⟩,fun hq=> k0 _ ?_⟩
 .unfold sh1;rw [Jk]
 .unfold sh1;rw [Yu]
theorem c45:Contract Tryz.prog cfg 45 Zda:=by
 refine ZC1 c91 ?_
 intro e _ d
 refine ZHo e _ ?_;(try simp only [iB,vcT,forall_eq])
 try (simp only [vE])
 exact ⟨⟨d,by grind,by grind,by grind,by grind⟩,Z4 rfl rfl⟩
theorem Z3f(e:Edit)(d:Int):Z5 e d=
  if d=0\/e.kind < 0\/3 < e.kind then false
  else if (e.kind≠1/\¬(Ye e.old=true/\Ye e.new=true))\/(e.kind≠2/\¬(e.words.length=0/\e.kids.length=0))\/(e.kind≠3/\(e.list≠0\/e.ops.length≠0)) then false
  else if e.kind=1 then Zb e.old (dT d) && Zb e.new (dT d) && decide (e.old.kind≠10/\e.new.kind≠10)
  else ZK (-1) e.words && Zw (-1) e.kids (d - 1) && decide (¬(e.kind=3/\(e.list < 2\/9 < e.list))) && Zz e.list e.ops (d - 1) && decide (Z0Q e.ops 0 < 1048576/\Z0P e.ops 0 < 1048576):=by
 obtain ⟨k,o,h,w,ks,l,os⟩:=e;rfl
theorem Z2Q(last:Int)(k:Kid)(d:Int):JD last k d=(decide (last < k.at_/\k.at_<=65534/\k.e.kind≠0) && Z5 k.e d):=by cases k;rfl
theorem Z2i(list:Int)(o:Op)(d:Int):Zg list o d=
  if o.kind=0 then decide (1<=o.n/\o.n<=1048576/\o.l.length=0) && Z0U o.e
  else if o.n≠0\/o.kind < 0\/3 < o.kind then false
  else if o.kind < 3 then Y9 (dT d) list o.l && decide (0 < o.l.length) && Z0U o.e
  else decide (o.l.length=0/\o.e.kind≠0/\7 < list) && Z5 o.e d && decide (list=8\/o.e.kind=2\/o.e.kind=1/\o.e.old.kind=1/\o.e.new.kind=1):=by
 cases o;rfl
theorem Z5S{list:Int}{o:Op}{d:Int}(h:Zg list o d=true):0<=o.n/\o.n<=1048576:=by
 rw [Z2i] at h
 grind
theorem rightOs_mem{list d:Int}:∀ {os:List Op} {o:Op},Zz list os d=true->o∈os->Zg list o d=true
 | x ::r,o,h,hm=> by
  simp only [Zz,Q4] at h
  rcases Q9.1 hm with rfl | hm
  .exact h.1
  .exact rightOs_mem h.2 hm
theorem ZaW{d:Int}:∀ {ks:List Kid} {last:Int} {k:Kid},Zw last ks d=true->k∈ks->Z5 k.e d=true/\k.e.kind≠0
 | x ::r,last,k,h,hm=> by
  simp only [Zw,Q4] at h
  rcases Q9.1 hm with rfl | hm
  .have:=h.1;rw [Z2Q] at this;grind
  .exact ZaW h.2 hm
theorem Z3X{e:Edit}(h:Yp e):InR e.kind/\rng e.old/\rng e.new/\(∀ x∈e.words,Zdo x)/\InR e.list/\Z2O e.kids/\Z1A e.ops:=by
 obtain ⟨k,o,n,w,ks,l,os⟩:=e;exact h
theorem b64:ZGS:=by
 intro N e d _ hp hN
 simp only [Zb0,ZhP] at hp hN
 obtain ⟨⟨hm,hr⟩,ay,a7⟩:=hp
 obtain ⟨ik,ro,rn,au,il,rk,ax⟩:=Z3X hr
 have ba:=Yt e
 have bd:=Yz e.kids
 have a4:=Y5 e.ops
 have s:=Z3f e d
 rw [ZoR ay] at s
 refine ZHd N e d _ ?_;(try simp only [iB,vcT,forall_eq])
 (simp only [iB,vcS]);(try simp only [iB,vcT]);(try simp only [vcU])
 try (simp only [vE])
 refine ⟨fun hc=> Z4 rfl (by rw [s,Yu]),fun hc=> ?_⟩
 rw [Jk] at s
 refine ⟨fun _=> by simp only [Z51];omega,fun _=> by simp only [Z51];omega,fun _=> by unfold InR;omega,fun hf=> Z4 rfl ?_,fun hf=> ⟨fun h1=> ⟨⟨V5,ro,V5,V5⟩,fun _=> ⟨V5,rn,V5,V5⟩,Z4 rfl ?_⟩,fun h1=> ?_⟩⟩
 .rw [s,if_pos]
  rcases hf with (hf | hf) | hf
  .left
   refine ⟨hf.1,fun h=> ?_⟩
   rcases hf.2 with h2 | h2
   .rw [h.1] at h2;cases h2
   .rw [h.2] at h2;cases h2
  .right;left;omega
  .right;right;omega
 .rw [s,if_neg,if_pos h1,Qo]
  ·(simp only [iB,vcS])
   constructor
   .rintro ⟨⟨⟨h2,h3⟩,h4⟩,h5⟩;exact ⟨⟨h2,h3⟩,h4,h5⟩
   .rintro ⟨⟨h2,h3⟩,h4,h5⟩;exact ⟨⟨⟨h2,h3⟩,h4⟩,h5⟩
  .intro h
   rcases h with h | h | h
   .exact h.1 h1
   .omega
   .omega
 .rw [if_neg,if_neg h1] at s
  .refine Ze (ι:=Int × Int) (fun p=> Z9p e d p.1 p.2) (fun p=> 0<=p.2/\p.2<=e.words.length/\ZK p.1 (e.words.drop p.2.toNat)=ZK (-1) e.words) (fun p=> ((e.words.length:Int) - p.2).toNat) (-1,0) rfl ⟨V5,V5,by simp⟩ ?_
   rintro ⟨af,i⟩ ⟨h2,h3,h4⟩
   dsimp only at*
   refine ZwE N e d af i _ _ ?_;(try simp only [iB,vcT,forall_eq])
   (simp only [iB,vcS]);(try simp only [iB,vcT]);(try simp only [vcU])
   try (simp only [vE])
   refine ⟨fun hi=> ?_,fun hi=> ?_⟩
   .have u:=Zo (l:=e.words) (i:=i.toNat) V0 (WEdit.mk 0 0 0 0)
    have aj:=au _ u
    rw [YJ h2 hi (WEdit.mk 0 0 0 0)] at h4
    simp only [ZK] at h4
    generalize e.words.getD i.toNat (WEdit.mk 0 0 0 0)=w at*
    obtain ⟨_,am,a1,aw⟩:=aj
    refine ⟨⟨h2,hi⟩,fun _=> ⟨a1,am⟩,fun _=> ⟨aw,am⟩,fun hq=> Z4 rfl ?_,fun hq=> ⟨V2,(_,i+1),rfl,⟨V5,V5,?_⟩,V5⟩⟩
    .rw [s,<-h4]
     rcases hq with (hq | hq) | hq
     .rw [decide_eq_false V0];try rfl
     .rw [hq];simp
     .rw [hq];simp
    .dsimp only
     rw [<-h4,decide_eq_true V0,hq.1.2,hq.2];try rfl
   .have hw:ZK (-1) e.words=true:=by
     rw [<-h4,Qd V0];try rfl
    rw [hw,QB] at s
    refine Ze (ι:=Int × Int) (fun p=> Z9o e d p.1 p.2) (fun p=> 0<=p.2/\p.2<=e.kids.length/\Zw p.1 (e.kids.drop p.2.toNat) (d - 1)=Zw (-1) e.kids (d - 1)) (fun p=> ((e.kids.length:Int) - p.2).toNat) (-1,0) rfl ⟨V5,V5,by simp⟩ ?_
    rintro ⟨af,i⟩ ⟨h2,h3,h4⟩
    dsimp only at*
    refine ZwD N e d af i _ _ ?_;(try simp only [iB,vcT,forall_eq])
    (simp only [iB,vcS]);(try simp only [iB,vcT]);(try simp only [vcU])
    try (simp only [vE])
    refine ⟨fun hi=> ?_,fun hi=> ?_⟩
    .have u:=Zo (l:=e.kids) (i:=i.toNat) V0 (KidOf.mk 0 Edit.nil)
     have aj:=Ys rk u
     have av:=Z0f u
     rw [YJ h2 hi (KidOf.mk 0 Edit.nil)] at h4
     simp only [Zw,Z2Q] at h4
     generalize e.kids.getD i.toNat (KidOf.mk 0 Edit.nil)=w at*
     refine ⟨⟨h2,hi⟩,fun _=> by unfold InR;omega,fun _=> ⟨⟨V5,aj.2⟩,V5,V5⟩,fun _=> by simp only [ZhP];omega,fun hq=> Z4 rfl ?_,fun hq=> ⟨V2,(_,i+1),rfl,⟨V5,V5,?_⟩,V5⟩⟩
     .rw [s,<-h4]
      rcases hq with hq | hq
      .rw [decide_eq_false V0];try rfl
      .rw [hq];simp
     .dsimp only
      rw [<-h4,decide_eq_true V0,hq.2];try rfl
    .have hw:Zw (-1) e.kids (d - 1)=true:=by
      rw [<-h4,Qd V0];try rfl
     rw [hw,QB] at s
     refine ⟨fun hq=> Z4 rfl (by rw [s,decide_eq_false V0];rfl),fun hq=> ?_⟩
     rw [decide_eq_true V0,QB] at s
     refine Ze (ι:=Int) (fun p=> Z9n e d p) (fun p=> 0<=p/\p<=e.ops.length/\Zz e.list (e.ops.drop p.toNat) (d - 1)=Zz e.list e.ops (d - 1)) (fun p=> ((e.ops.length:Int) - p).toNat) 0 rfl ⟨V0,V0,by simp⟩ ?_
     rintro j ⟨h5,h6,h7⟩
     refine ZwC N e d j _ _ ?_;(try simp only [iB,vcT,forall_eq])
     (simp only [iB,vcS]);(try simp only [iB,vcT]);(try simp only [vcU])
     try (simp only [vE])
     refine ⟨fun hj=> ?_,fun hj=> ?_⟩
     .have u:=Zo (l:=e.ops) (i:=j.toNat) V0 Op.nil
      have a0:=Z0Z ax u
      have av:=Yy u
      rw [YJ h5 hj Op.nil] at h7
      simp only [Zz] at h7
      generalize e.ops.getD j.toNat Op.nil=o at*
      refine ⟨⟨h5,hj⟩,V2,⟨⟨by show Zy o<=20000000000;omega,a0,il⟩,V5,V5⟩,?_,fun hq=> Z4 rfl ?_,fun hq=> ⟨V2,j+1,rfl,⟨V0,V0,?_⟩,V0⟩⟩
      .show 2*Zy o+1 < N
       omega
      .have ah:Zg e.list o (d - 1)=false:=hq
       rw [s,<-h7,ah];try rfl
      .have ah:Zg e.list o (d - 1)=true:=hq
       rw [<-h7,ah];try rfl
     .have hw:Zz e.list e.ops (d - 1)=true:=by
       rw [<-h7,Qd V0];try rfl
      rw [hw,QB] at s
      refine ⟨⟨hm,fun o ho=> Z5S (rightOs_mem hw ho)⟩,Z4 rfl ?_⟩
      rw [s,Qo]
      (simp only [iB,vcS])
  .intro h
   rcases h with h | h | h
   .rcases hf.1.1 with h2 | h2
    .exact h1 h2
    .exact h.2 h2
   .omega
   .omega
theorem Zfl{l:List Tree}{i:Int}(h0:0<=i)(h:i < l.length):List.drop i.toNat (l.take (i+1).toNat)=[l.getD i.toNat Tree.nil]:=by
 rw [List.drop_take,show (i+1).toNat - i.toNat=1 by omega,YJ h0 h Tree.nil]
 try rfl
theorem ZHE:ZB3:=by
 intro N list o d _ hp hN
 simp only [Za5,Zg3] at hp hN
 obtain ⟨⟨hm,hr,ai⟩,ae,aj⟩:=hp
 obtain ⟨ik,a0,rl,re⟩:=Z1d hr
 rw [ZV] at hm hN
 have ar:=Zs o.l
 have az:=Z65 o.e
 have h:=Z2i list o d
 rw [ZoR ae,Z9M] at h
 refine ZFO N list o d _ ?_;(try simp only [iB,vcT,forall_eq])
 (simp only [iB,vcS]);(try simp only [iB,vcT]);(try simp only [vcU])
 try (simp only [vE])
 refine ⟨fun h0=> ⟨fun _=> by simp only [Z7y];omega,Z4 rfl ?_⟩,fun h0=> ⟨fun hc=> Z4 rfl ?_,fun hc=> ⟨fun h3=> ?_,fun h3=> ⟨fun _=> ⟨⟨V5,re⟩,ae,aj⟩,fun _=> by simp only [ZhP];omega,fun s=> Z4 rfl ?_,fun s=> Z4 rfl ?_⟩⟩⟩⟩
 .rw [h,if_pos h0,Qo]
  (simp only [iB,vcS])
  constructor
  .rintro ⟨h1,h2⟩;exact ⟨V0,h2⟩
  .rintro ⟨h1,h2⟩;exact ⟨V0,h2⟩
 .rw [h,if_neg h0,Yu]
 .rw [if_neg h0,Jk,if_pos h3] at h
  refine Ze (ι:=Int) (fun p=> Z6F list o d p) (fun p=> 0<=p/\p<=o.l.length/\Jt list (o.l.drop p.toNat)=Jt list o.l) (fun p=> ((o.l.length:Int) - p).toNat) 0 rfl ⟨V0,V0,by simp⟩ ?_
  rintro i ⟨h4,h5,h6⟩
  refine Zs3 N list o d i _ _ ?_;(try simp only [iB,vcT,forall_eq])
  (simp only [iB,vcS]);(try simp only [iB,vcT]);(try simp only [vcU])
  try (simp only [vE])
  refine ⟨fun hi=> ?_,fun hi=> ?_⟩
  .have u:=Zo (l:=o.l) (i:=i.toNat) V0 Tree.nil
   have ak:=YV rl u
   have ax:=Jr u
   rw [Zfl h4 hi]
   rw [YJ h4 hi Tree.nil] at h6
   simp only [Jt] at h6
   generalize o.l.getD i.toNat Tree.nil=t at*
   refine ⟨V2,V0,⟨by simp only [Zj,Zd,List.length_nil];omega,⟨ai,fun x hx=> (by cases hx),ak,trivial⟩,V5,V5⟩,fun s=> Z4 rfl ?_,fun s=> ⟨V2,i+1,rfl,⟨V0,V0,?_⟩,V0⟩⟩
   .rw [h,<-h6,s];try rfl
   .rw [<-h6,s];try rfl
  .have hw:Jt list o.l=true:=by
    rw [<-h6,Qd V0];try rfl
   rw [hw,QB] at h
   refine ⟨fun _=> by simp only [Z7y];omega,Z4 rfl ?_⟩
   rw [h,Qo]
   (simp only [iB,vcS])
   simp only [Int.natCast_pos]
 .rw [h,if_neg h0,Jk,if_neg h3]
  rcases s with s | s
  .have:¬(o.l.length=0/\o.e.kind≠0/\7 < list):=V0
   rw [decide_eq_false this];try rfl
  .rw [s];simp
 .rw [h,if_neg h0,Jk,if_neg h3,s.2]
  have:o.l.length=0/\o.e.kind≠0/\7 < list:=V0
  rw [decide_eq_true this,Qo]
  (simp only [iB,vcS])
  simp only [true_and,Xm,decide_eq_true_eq,and_assoc,or_assoc]
theorem ZCM:Contract Tryz.prog cfg 64 Zd2/\Contract Tryz.prog cfg 101 ZmS:=Zqx c99 ZDy ZDo c31 Zr4 b64 ZHE
theorem Z66(e:Edit):Yn e=(decide (Z0Q e.ops 0<=2000/\Z0P e.ops 0<=2000) && Jm e.kids && ZQ e.ops):=by
 obtain ⟨k,o,d,w,ks,l,os⟩:=e;rfl
theorem Zbi(k:Kid):ZjU k=Yn k.e:=by cases k;rfl
theorem ZeD(o:Op):Zcn o=Yn o.e:=by cases o;rfl
theorem Z9S{e:Edit}{d:Int}(h:Z5 e d=true):(∀ k∈e.kids,Z5 k.e (d - 1)=true/\k.e.kind≠0)/\∀ o∈e.ops,Zg e.list o (d - 1)=true:=by
 rw [Z3f] at h
 split at h
 .cases h
 .split at h
  .cases h
  .rename_i h1 h2
   split at h
   .grind
   .simp only [Q4] at h
    exact ⟨fun k s=> ZaW h.1.1.1.2 s,fun o u=> rightOs_mem h.1.2 u⟩
theorem Zj0{e:Edit}(h:Z0U e=true):e.kind=0/\Ye e.old=true/\Ye e.new=true/\e.words=[]/\e.kids=[]/\e.ops=[]/\e.list=0:=by
 simp only [Z0U,Q4,decide_eq_true_eq] at h
 grind
theorem ZaP{e:Edit}(h:Z0U e=true)(d:Int)(hd:d≠0):Z5 e d=true:=by
 obtain ⟨u,h2,s,h4,h5,h6,h7⟩:=Zj0 h
 rw [Z3f,u,h2,s,h4,h5,h6,h7,Jk,if_neg (by simp),Jk]
 try rfl
theorem Zfe{list:Int}{o:Op}{d:Int}(h:Zg list o d=true):∃ d',Z5 o.e d'=true:=by
 rw [Z2i] at h
 split at h
 .simp only [Q4] at h
  exact ⟨1,ZaP h.2 1 V0⟩
 .split at h
  .cases h
  .split at h
   .simp only [Q4] at h
    exact ⟨1,ZaP h.2 1 V0⟩
   grind
theorem c65:Contract Tryz.prog cfg 65 Zd1:=by
 refine ZBQ Zr4 ?_
 intro N e _ hp hN
 simp only [ZdI,ZjL] at hp hN
 obtain ⟨⟨hm,hr⟩,dd,aj⟩:=hp
 obtain ⟨ik,ro,rn,au,il,rk,ah⟩:=Z3X hr
 have az:=Yt e
 have a2:=Yz e.kids
 have aw:=Y5 e.ops
 have u:=Z66 e
 obtain ⟨ak,af⟩:=Z9S aj
 refine ZHc N e _ ?_;(try simp only [iB,vcT,forall_eq])
 (simp only [iB,vcS]);(try simp only [iB,vcT]);(try simp only [vcU])
 try (simp only [vE])
 refine ⟨⟨hm,fun o ho=> Z5S (af o ho)⟩,fun hq=> Z4 rfl (by grind),fun hq=> ?_⟩
 rw [decide_eq_true V0,QB] at u
 refine Ze (ι:=Int) (fun p=> Z9m e p) (fun p=> 0<=p/\p<=e.kids.length/\Jm (e.kids.drop p.toNat)=Jm e.kids) (fun p=> ((e.kids.length:Int) - p).toNat) 0 rfl ⟨V0,V0,by simp⟩ ?_
 rintro i ⟨h4,h5,h6⟩
 refine ZwB N e i _ _ ?_;(try simp only [iB,vcT,forall_eq])
 (simp only [iB,vcS]);(try simp only [iB,vcT]);(try simp only [vcU])
 try (simp only [vE])
 refine ⟨fun s=> ?_,fun s=> ?_⟩
 .have d:=Zo (l:=e.kids) (i:=i.toNat) V0 (KidOf.mk 0 Edit.nil)
  have aa:=Ys rk d
  have ab:=Z0f d
  have h:=ak _ d
  rw [YJ h4 s (KidOf.mk 0 Edit.nil)] at h6
  simp only [Jm,Zbi] at h6
  generalize e.kids.getD i.toNat (KidOf.mk 0 Edit.nil)=k at*
  refine ⟨⟨h4,s⟩,⟨⟨by grind,aa.2⟩,_,h.1⟩,by simp only [ZjL];omega,fun hq=> Z4 rfl (by grind),fun hq=> ⟨V2,i+1,rfl,⟨V0,V0,by grind⟩,V0⟩⟩
 .have hw:Jm e.kids=true:=by
   rw [<-h6,Qd V0];try rfl
  rw [hw,QB] at u
  refine Ze (ι:=Int) (fun p=> Z9l e p) (fun p=> 0<=p/\p<=e.ops.length/\ZQ (e.ops.drop p.toNat)=ZQ e.ops) (fun p=> ((e.ops.length:Int) - p).toNat) 0 rfl ⟨V0,V0,by simp⟩ ?_
  rintro j ⟨g4,g5,g6⟩
  refine ZwA N e j _ _ ?_;(try simp only [iB,vcT,forall_eq])
  (simp only [iB,vcS]);(try simp only [iB,vcT]);(try simp only [vcU])
  try (simp only [vE])
  refine ⟨fun s=> ?_,fun s=> ?_⟩
  .have d:=Zo (l:=e.ops) (i:=j.toNat) V0 Op.nil
   have aa:=Z1d (Z0Z ah d)
   have ab:=Yy d
   have h:=Zfe (af _ d)
   rw [ZV] at ab
   rw [YJ g4 s Op.nil] at g6
   simp only [ZQ,ZeD] at g6
   generalize e.ops.getD j.toNat Op.nil=o at*
   refine ⟨⟨g4,s⟩,⟨⟨by grind,aa.2.2.2⟩,h⟩,by simp only [ZjL];omega,fun hq=> Z4 rfl (by grind),fun hq=> ⟨V2,j+1,rfl,⟨V0,V0,by grind⟩,V0⟩⟩
  .refine Z4 rfl ?_
   rw [u,<-g6,Qd V0];try rfl
theorem c14:Contract Tryz.prog cfg 14 Zdd:=by
 refine ZC8 c45 ZCM.1 c65 ?_
 intro e _ d
 simp only [Zjs] at d
 refine ZHv e _ ?_;(try simp only [iB,vcT,forall_eq])
 try (simp only [vE])
 refine ⟨d.1,fun hf=> ?_,fun hf=> ?_,Z4 rfl ?_⟩
 .have:=ZaA (by simpa using hf)
  exact ⟨⟨by grind,d.2⟩,by grind,by grind⟩
 .simp only [Zmd,decide_eq_true_eq] at hf
  have:=ZaA hf.1
  exact ⟨⟨by grind,d.2⟩,64,hf.2⟩
 .show _=Z0R e
  simp only [Z0R]
  grind
end Go.AM.YtpjenobkibfpcaaGreat
namespace Go.AM
noncomputable def eqX{α:Type}(a b:α):Bool:=@decide (a=b) (Classical.propDecidable _)
theorem Z1e{α:Type}{a b:α}:eqX a b=true↔a=b:=by unfold eqX;grind
@[simp] theorem ZGs {α:Type} (a:α):eqX a a=true:=Z1e.2 rfl
def Zt(o:Op)(n:Int):Op:=if Z2 o<=n then o else if o.kind=0 then ⟨o.kind,n,o.l,o.e⟩ else ⟨o.kind,o.n,o.l.take n.toNat,o.e⟩
def YR(o:Op)(n:Int):Op:=if o.kind=0 then ⟨o.kind,o.n - n,o.l,o.e⟩ else ⟨o.kind,o.n,o.l.drop n.toNat,o.e⟩
def ZC(l:List Op)(n:Int):List Op:=if Z2 (l.getD 0 Op.nil)<=n then l.drop 1 else YR (l.getD 0 Op.nil) n ::l.drop 1
def sgl(a:Int)(l:List Op):Bool:=decide (l.length≠0/\(l.getD 0 Op.nil).kind=a)
def ZP(o:Op):Prop:=
 (o.kind=0/\o.l=[]/\(1<=o.n/\o.n<=1048576)/\o.e=Edit.nil)\/((o.kind=1\/o.kind=2)/\o.n=0/\o.l≠[]/\o.e=Edit.nil)\/(o.kind=3/\o.n=0/\o.l=[])
def Zab(l:List Op):Prop:=(∀ o∈l,ZP o)/\Zl l<=20000000000
theorem Yh(l:List Op)(n:Int)(h:l.length≠0):(ZC l n).length<=l.length:=by
 unfold ZC
 grind
theorem Yg(l:List Op)(n:Int)(h:l.length≠0)(hn:Z2 (l.getD 0 Op.nil)<=n):(ZC l n).length < l.length:=by
 unfold ZC
 grind
def ZM(ap aq:Int)(p q:List Op)(out:List Piece):List Piece × Bool × List Op × List Op:=
 if h:sgl ap p=true then ZM ap aq (p.drop 1) q (out++[⟨1,p.getD 0 Op.nil,Op.nil⟩])
 else if h2:sgl aq q=true then ZM ap aq p (q.drop 1) (out++[⟨2,Op.nil,q.getD 0 Op.nil⟩])
 else if h3:p.length=0\/q.length=0 then
  if decide (p.length=0)=decide (q.length=0) then (out,true,p,q) else ([],false,p,q)
 else
  ZM ap aq (ZC p (min (Z2 (p.getD 0 Op.nil)) (Z2 (q.getD 0 Op.nil)))) (ZC q (min (Z2 (p.getD 0 Op.nil)) (Z2 (q.getD 0 Op.nil))))
   (out++[⟨0,Zt (p.getD 0 Op.nil) (min (Z2 (p.getD 0 Op.nil)) (Z2 (q.getD 0 Op.nil))),Zt (q.getD 0 Op.nil) (min (Z2 (p.getD 0 Op.nil)) (Z2 (q.getD 0 Op.nil)))⟩])
termination_by p.length+q.length
decreasing_by
 .have:=(of_decide_eq_true h).1;grind
 .have:=(of_decide_eq_true h2).1;grind
 .rcases Int.le_total (Z2 (p.getD 0 Op.nil)) (Z2 (q.getD 0 Op.nil)) with hm | hm
  .have a:=Yg p _ V0 (X7 (Z2 (p.getD 0 Op.nil)))
   have b:=Yh q (Z2 (p.getD 0 Op.nil)) V0
   grind
  .have a:=Yg q _ V0 (X7 (Z2 (q.getD 0 Op.nil)))
   have b:=Yh p (Z2 (q.getD 0 Op.nil)) V0
   grind
def ZgF(i alone:Int)(o:Op):List AUnit:=
 (if o.kind=0 then List.replicate o.n.toNat ⟨i,0,Tree.nil,Edit.nil,false⟩ else [])
  ++(o.l.map (fun t=> ⟨i,o.kind,t,Edit.nil,decide (o.kind=alone)⟩)
  ++(if o.kind=3 then [⟨i,3,Tree.nil,o.e,false⟩] else []))
def Z7N:List Op->Int
 | []=> 0
 | o ::r=> Z2 o+Z7N r
def opU(u:AUnit):Op:=if u.kind=0 then ⟨0,1,[],Edit.nil⟩ else if u.kind=3 then ⟨3,0,[],u.e⟩ else ⟨u.kind,0,[u.t],Edit.nil⟩
end Go.AM
namespace Go.AM.YtpjenobkibfpcaaGreat
open Go.AM Go.Proofs
noncomputable section
def ZoX:ArgL (Op × Unit):=(.cons (aEl .op) .nil)
def Z52(a:Op × Unit):Prop:=Zy a.1<=20000000000/\0<=OpOf.n a.1/\OpOf.n a.1<=1048576
def Zsx(a:Op × Unit):V U:= .c (ci (Z2 a.1))
def Z2F:Fs U:=fs ZoX (fun a=> [Z52 a]) Zsx
def Zio:ArgM ((List Op × Int × Unit) × Unit):=(.obj 0 (.cons (cSl .op) (.cons (JN .i64) .nil)) .nil)
def Z30(a:(List Op × Int × Unit) × Unit):Prop:=(a.1.1).length<=120000000000
def Zsw(a:(List Op × Int × Unit) × Unit):V U:= .c (.bool (decide ((a.1.1).length=0)))
def Zn3(a:(List Op × Int × Unit) × Unit):List (List (C U)):=[[sU .op a.1.1 .unk,ci a.1.2.1]]
def Z2E:Fs U:=fsX Zio (fun a=> [Z30 a]) Zsw Zn3
def Zsy(a:(List Op × Int × Unit) × Unit):V U:= .c (.bool (sgl a.1.2.1 a.1.1))
def Z86:Fs U:=fsX Zio (fun a=> [Z30 a]) Zsy Zn3
def Zip:ArgM ((List Op × Int × Unit) × Int × Unit):=(.obj 0 (.cons (cSl .op) (.cons (JN .i64) .nil)) (.cons (Yr .i64) .nil))
def Z7t(a:(List Op × Int × Unit) × Int × Unit):Prop:=Zab a.1.1/\(a.1.1).length≠0/\1<=a.2.1/\a.2.1<=120000000000
def Zdx(a:(List Op × Int × Unit) × Int × Unit):V U:= .agg (enc .op (Zt ((a.1.1).getD 0 Op.nil) a.2.1))
def Z8x(a:(List Op × Int × Unit) × Int × Unit):List (List (C U)):=[[sU .op (ZC a.1.1 a.2.1) .unk,ci a.1.2.1]]
def Z85:Fs U:=fsX Zip (fun a=> [Z7t a]) Zdx Z8x
def Ziu:ArgM ((List Op × Int × Unit) × (List Op × Int × Unit) × Unit):=(.obj 0 (.cons (cSl .op) (.cons (JN .i64) .nil)) (.obj 1 (.cons (cSl .op) (.cons (JN .i64) .nil)) .nil))
def Zhx(a:(List Op × Int × Unit) × (List Op × Int × Unit) × Unit):Prop:=Zab a.1.1/\Zab a.2.1.1
def Zh9(a:(List Op × Int × Unit) × (List Op × Int × Unit) × Unit):V U:= .tup [(false,[sU .piece ((ZM a.1.2.1 a.2.1.2.1 a.1.1 a.2.1.1 []).1) .unk]),(false,[.bool ((ZM a.1.2.1 a.2.1.2.1 a.1.1 a.2.1.1 []).2.1)])]
def Zc3(a:(List Op × Int × Unit) × (List Op × Int × Unit) × Unit):List (List (C U)):=[[sU .op ((ZM a.1.2.1 a.2.1.2.1 a.1.1 a.2.1.1 []).2.2.1) .unk,ci a.1.2.1],[sU .op ((ZM a.1.2.1 a.2.1.2.1 a.1.1 a.2.1.1 []).2.2.2) .unk,ci a.2.1.2.1]]
def Z5H:Fs U:=fsX Ziu (fun a=> [Zhx a]) Zh9 Zc3
def Zpo:ArgL (List Op × List Op × Unit):=(.cons (aSl .op) (.cons (aSl .op) .nil))
def Zlq(a:List Op × List Op × Unit):Prop:=Zab a.1/\Zab a.2.1
def ZsO(a:List Op × List Op × Unit):V U:= .tup [(false,[sU .piece ((ZM 2 2 a.1 a.2.1 []).1) .unk]),(false,[.bool ((ZM 2 2 a.1 a.2.1 []).2.1)])]
def ZbS:Fs U:=fs Zpo (fun a=> [Zlq a]) ZsO
def ZtS:Zc U:=lvl [([1],[1]),([1,5],[1]),([2],[]),([2],[])]
abbrev ZI2(p:List Nat):=AW (Z1 ZlW) Tryz.f228 ZtS p
theorem ZEJ(o:Op)(Q:QT)(h:(iB (o.kind==3) ((Q .ret (L2 [pI 2 1] []))) ((InR (o.n+(o.l.length:Int)))/\(Q .ret (L2 [pI 2 (o.n+(o.l.length:Int))] []))))):
  ZI2 [] (L2 [(0,.agg (enc .op o))] []) Q:=
 Eq.mpr V4 h
def Zz8(o:Op):Prop:=AW (Z1 ZlW) Tryz.f228 ZtS [] (Zf (ZoX.can (o,())) []) (EQ Tryz.f228 (Zsx (o,())) [])
theorem Zxl(hb:∀ (o:Op) (_:Unit),Z52 (o,())->Zz8 o):CT 228 Z2F:=
 Z0 (l:=[]) Zh rfl trivial ZtS Tryz.func228 rfl rfl 1 (fun _=> rfl) V3 (fun ⟨o,_⟩=> hb o ())
def ZtR:Zc U:=lvk [([0],[((.x 0),[])]),([2],[((.x 0),[])])]
abbrev ZI1(p:List Nat):=AW (Z1 ZlW) Tryz.f229 ZtR p
theorem ZEI(l:List Op)(alone:Int)(Q:QT)(h:(Q .ret (L2 [pB 2 (((l.length:Int):Int)==0)] [(.x 0,[sU .op l .unk,ci alone])]))):
  ZI1 [] (L2 [(0,.ptr (.x 0) 0)] [(.x 0,[sU .op l .unk,ci alone])]) Q:=
 Eq.mpr V4 h
def Zz7(l:List Op)(alone:Int):Prop:=AW (Z1 ZlW) Tryz.f229 ZtR [] (Zf (Zio.can ((l,alone,()),())) (Zio.canX ((l,alone,()),()))) (EQ Tryz.f229 (Zsw ((l,alone,()),())) (Zn3 ((l,alone,()),())))
theorem Zxk(hb:∀ (l:List Op) (alone:Int) (_:Unit),Z30 ((l,alone,()),())->Zz7 l alone):CT 229 Z2E:=
 Zq (l:=[]) Zh rfl trivial ZtR Tryz.func229 rfl rfl 1 (fun _=> rfl) V3 (fun ⟨⟨l,alone,_⟩,_⟩=> hb l alone ())
def Zo4:List (FuncId × Fs U):=[(229,Z2E)]
abbrev ZI4(p:List Nat):=AW (Z1 Zo4) Tryz.f226 ZtR p
theorem ZEL(l:List Op)(alone:Int)(Q:QT)(h:let z0:= !(decide (l.length=0));((Z30 ((l,alone,()),()))/\(Tt z0)/\(Tt z0)/\(Tt z0)/\(Tt z0)/\(z0=true->(0:Int)<=0/\0 < (l.length:Int))/\(Tt z0)/\(Tt z0)/\(Tt z0)/\(Tt z0)/\(Tt z0)/\(Tt z0)/\(Tt z0)/\(Tt z0)/\(Q .ret (L2 [(2,.c (.bool (bif z0 then (((OpOf.kind (List.getD l (Int.toNat 0) Op.nil)):Int)==alone) else false)))] [(.x 0,[sU .op l .unk,ci alone])])))):
  ZI4 [] (L2 [(0,.ptr (.x 0) 0)] [(.x 0,[sU .op l .unk,ci alone])]) Q:=
 Eq.mpr V4 h
def Zza(l:List Op)(alone:Int):Prop:=AW (Z1 Zo4) Tryz.f226 ZtR [] (Zf (Zio.can ((l,alone,()),())) (Zio.canX ((l,alone,()),()))) (EQ Tryz.f226 (Zsy ((l,alone,()),())) (Zn3 ((l,alone,()),())))
theorem Zxn(ZqV:CT 229 Z2E)(hb:∀ (l:List Op) (alone:Int) (_:Unit),Z30 ((l,alone,()),())->Zza l alone):CT 226 Z86:=
 Zq (l:=[(229,Z2E)]) Zh rfl (⟨ZqV,trivial⟩) ZtR Tryz.func226 rfl rfl 1 (fun _=> rfl) V3 (fun ⟨⟨l,alone,_⟩,_⟩=> hb l alone ())
def Zo3:List (FuncId × Fs U):=[(228,Z2F)]
def ZtT:Zc U:=lvk [([0,1,4],[4,((.x 0),[])]),([0,1,4,5],[4,5,((.x 0),[])]),([0,1,4,5,17],[4,5,((.x 0),[])]),([4,5],[4,5,((.x 0),[])]),([4],[4,((.x 0),[])]),([0,1,4,5,6,7],[4,5,6,7,((.x 0),[])]),([0,1,4,5,6,7,31],[4,5,6,7,((.x 0),[])]),([0,4,6,7],[4,6,7,((.x 0),[])]),([0,4,6,7],[4,6,7,((.x 0),[])]),([4,6],[4,6,((.x 0),[])]),([4],[4,((.x 0),[])])]
abbrev ZI3(p:List Nat):=AW (Z1 Zo3) Tryz.f227 ZtT p
theorem ZEK(l:List Op)(alone n:Int)(Q:QT)(h:∀ d,d=(List.getD l (Int.toNat 0) Op.nil)->∀ u,u=d->∀ s,s=(d.e)->let z0:=List.drop (Int.toNat 1) l;(((0:Int)<=0/\0 < (l.length:Int))/\((Z52 (u,()))/\(iB (decide (((Z2 u):Int)<=n)) (((0:Int)<=1/\1<=(l.length:Int))/\(Q .ret (L2 [pL 4] [(.loc 4,(enc .op d)),(.x 0,[sU .op z0 .unk,ci alone])]))) ((iB (d.kind==0) ((InR (d.n - n))/\(((0:Int)<=1/\1<=(l.length:Int))/\((([(OpOf.mk d.kind (d.n - n) d.l s)]).length+z0.length)*240<=140737488355328)/\(Q .ret (L2 [pL 4] [(.loc 4,([ci d.kind,ci n,sU .tree d.l .unk]++enc .edit d.e)),(.x 0,[sU .op (([(OpOf.mk d.kind (d.n - n) d.l s)])++z0) (.own (.x 0 0)),ci alone])])))) (((0:Int)<=n/\n<=(d.l.length:Int))/\(n=n)/\((0:Int)<=n/\n<=(d.l.length:Int))/\(((0:Int)<=1/\1<=(l.length:Int))/\((([(OpOf.mk d.kind d.n (List.drop n.toNat d.l) s)]).length+z0.length)*240<=140737488355328)/\(Q .ret (L2 [pL 4] [(.loc 4,([ci d.kind,ci d.n,sU .tree (List.take n.toNat d.l) .full]++enc .edit d.e)),(.x 0,[sU .op (([(OpOf.mk d.kind d.n (List.drop n.toNat d.l) s)])++z0) (.own (.x 0 0)),ci alone])])))))))))):
  ZI3 [] (L2 [(0,.ptr (.x 0) 0),pI 1 n] [(.x 0,[sU .op l .unk,ci alone])]) Q:=
 Eq.mpr V4 (h _ rfl _ (YE _) _ (Z6 _))
def Zz9(l:List Op)(alone n:Int):Prop:=AW (Z1 Zo3) Tryz.f227 ZtT [] (Zf (Zip.can ((l,alone,()),n,())) (Zip.canX ((l,alone,()),n,()))) (EQ Tryz.f227 (Zdx ((l,alone,()),n,())) (Z8x ((l,alone,()),n,())))
theorem Zxm(ZqW:CT 228 Z2F)(hb:∀ (l:List Op) (alone:Int) (n:Int) (_:Unit),Z7t ((l,alone,()),n,())->Zz9 l alone n):CT 227 Z85:=
 Zq (l:=[(228,Z2F)]) Zh rfl (⟨ZqW,trivial⟩) ZtT Tryz.func227 rfl rfl 2 (fun _=> rfl) V3 (fun ⟨⟨l,alone,_⟩,n,_⟩=> hb l alone n ())
def Zoh:List (FuncId × Fs U):=[(226,Z86),(227,Z85),(228,Z2F),(229,Z2E)]
def Zu7:Zc U:=lvk [([0,1],[((.x 0),[]),((.x 1),[])]),([0,1,(6,[.own .piece])],[((.x 0),[]),((.x 1),[])]),([0,1,6,7],[((.x 0),[]),((.x 1),[])]),([0,1,(6,[.own .piece])],[((.x 0),[]),((.x 1),[])]),([0,1,6,33],[((.x 0),[]),((.x 1),[])]),([0,1,(6,[.own .piece])],[((.x 0),[]),((.x 1),[])]),([0,1,6,49],[((.x 0),[]),((.x 1),[])]),([0,1,(6,[.own .piece])],[((.x 0),[]),((.x 1),[])]),([0,1,6,65],[((.x 0),[]),((.x 1),[])]),([6,76],[((.x 0),[]),((.x 1),[])]),([4,5],[((.x 0),[]),((.x 1),[])]),([4,5],[((.x 0),[]),((.x 1),[])])]
def Z29(pl:List Op)(pa:Int)(ql:List Op)(qa:Int)(mx0_0 mx1_0:List Op)(mx1_1:Int)(d:List Piece):LSt U:=(L2 [(0,.ptr (.x 0) 0),(1,.ptr (.x 1) 0),(6,.c (sU .piece d (.own (.e 6 0))))] [(.x 0,[sU .op mx0_0 .unk,ci pa]),(.x 1,[sU .op mx1_0 .unk,ci mx1_1])])
abbrev ZEr(p:List Nat):=AW (Z1 Zoh) Tryz.f193 Zu7 p
theorem ZF0(pl:List Op)(pa:Int)(ql:List Op)(qa:Int)(Q:QT)(h:(Zp (ZEr [1,1,0,0]) (Z29 pl pa ql qa pl ql qa []) (xB 0 Q))):
  ZEr [] (L2 [(0,.ptr (.x 0) 0),(1,.ptr (.x 1) 0)] [(.x 0,[sU .op pl .unk,ci pa]),(.x 1,[sU .op ql .unk,ci qa])]) Q:=
 Eq.mpr V4 h
theorem Zrt(pl:List Op)(pa:Int)(ql:List Op)(qa:Int)(mx0_0 mx1_0:List Op)(mx1_1:Int)(x6:List Piece)(N0:NT)(Q:QT)(h:∀ aj,aj=(List.getD mx0_0 (Int.toNat 0) Op.nil)->∀ ah,ah=(List.getD mx1_0 (Int.toNat 0) Op.nil)->∀ af,af=(Edit.mk 0 (Tree.mk 0 [] []) (Tree.mk 0 [] []) [] [] 0 [])->∀ ak,ak=(List.getD (bif (!(decide (mx0_0.length=0))) then mx1_0 else mx1_0) (Int.toNat 0) Op.nil)->∀ d,d=aj->∀ u,u=ah->∀ s,s=ak->∀ al,al=(Zt (mx0_0.getD 0 Op.nil) (Z2 d))->∀ ai,ai=(Zt (mx1_0.getD 0 Op.nil) (Z2 u))->∀ aa,aa=(Zt (mx0_0.getD 0 Op.nil) (if ((Z2 s):Int) < (Z2 d) then (Z2 s) else (Z2 d)))->∀ ab,ab=(Zt ((bif (!(decide (mx0_0.length=0))) then mx1_0 else mx1_0).getD 0 Op.nil) (if ((Z2 s):Int) < (Z2 d) then (Z2 s) else (Z2 d)))->let z5:=Z30 ((mx0_0,pa,()),());let z4:=Piece.mk 2 (OpOf.mk 0 0 [] af) ai;let z3:=Piece.mk 1 al (OpOf.mk 0 0 [] af);let z0:=decide (mx0_0.length=0);let z2:=bif (!z0) then mx1_1 else mx1_1;let z1:=bif (!z0) then mx1_0 else mx1_0;(Z30 ((mx0_0,pa,()),()))/\(iB (sgl pa mx0_0) (((0:Int)<=0/\0 < (mx0_0.length:Int))/\(Z52 (d,()))/\(Z7t ((mx0_0,pa,()),(Z2 d),()))/\((x6.length+([z3]).length)*488<=140737488355328)/\(N0 (Z29 pl pa ql qa (ZC mx0_0 (Z2 d)) mx1_0 mx1_1 (x6++([z3]))))) ((Z30 ((mx1_0,mx1_1,()),()))/\(iB (sgl mx1_1 mx1_0) (((0:Int)<=0/\0 < (mx1_0.length:Int))/\(Z52 (u,()))/\(Z7t ((mx1_0,mx1_1,()),(Z2 u),()))/\((x6.length+([z4]).length)*488<=140737488355328)/\(N0 (Z29 pl pa ql qa mx0_0 (ZC mx1_0 (Z2 u)) mx1_1 (x6++([z4]))))) (z5/\(Tt (!z0))/\((!z0)=true->Z30 ((mx1_0,mx1_1,()),()))/\(z0=false->(!z0)=true)/\(iB (bif z0 then true else (decide (mx1_0.length=0))) (z5/\(Z30 ((z1,z2,()),()))/\(iB (z0 !=(decide (z1.length=0))) ((Q .ret (L2 [(4,.c (.nils)),pB 5 false] [(.x 0,[sU .op mx0_0 .unk,ci pa]),(.x 1,[sU .op z1 .unk,ci z2])]))) ((Q .ret (L2 [(4,.c (sU .piece x6 (.own (.e 4 0)))),pB 5 true] [(.x 0,[sU .op mx0_0 .unk,ci pa]),(.x 1,[sU .op z1 .unk,ci z2])]))))) (((0:Int)<=0/\0 < (mx0_0.length:Int))/\(Z52 (d,()))/\((0:Int)<=0/\0 < (z1.length:Int))/\(Z52 (s,()))/\((Z7t ((mx0_0,pa,()),(if ((Z2 s):Int) < (Z2 d) then (Z2 s) else (Z2 d)),()))/\(Z7t ((z1,z2,()),(if ((Z2 s):Int) < (Z2 d) then (Z2 s) else (Z2 d)),()))/\((x6.length+([(Piece.mk 0 aa ab)]).length)*488<=140737488355328)/\(N0 (Z29 pl pa ql qa (ZC mx0_0 (if ((Z2 s):Int) < (Z2 d) then (Z2 s) else (Z2 d))) (ZC z1 (if ((Z2 s):Int) < (Z2 d) then (Z2 s) else (Z2 d))) z2 (x6++([(Piece.mk 0 aa ab)])))))))))))):
  ZEr [1,1,0,0] (Z29 pl pa ql qa mx0_0 mx1_0 mx1_1 x6) (xT N0 (xB 0 Q)):=
 Eq.mpr V4 (h _ rfl _ rfl _ rfl _ rfl _ (YE _) _ (YE _) _ (YE _) _ (YE _) _ (YE _) _ (YE _) _ (YE _))
def Zzp(pl:List Op)(pa:Int)(ql:List Op)(qa:Int):Prop:=AW (Z1 Zoh) Tryz.f193 Zu7 [] (Zf (Ziu.can ((pl,pa,()),(ql,qa,()),())) (Ziu.canX ((pl,pa,()),(ql,qa,()),()))) (EQ Tryz.f193 (Zh9 ((pl,pa,()),(ql,qa,()),())) (Zc3 ((pl,pa,()),(ql,qa,()),())))
theorem ZxC(ZCR:CT 226 Z86)(ZCQ:CT 227 Z85)(ZqW:CT 228 Z2F)(ZqV:CT 229 Z2E)(hb:∀ (h:List Op) (u:Int) (d:List Op) (s:Int) (_:Unit),Zhx ((h,u,()),(d,s,()),())->Zzp h u d s):CT 193 Z5H:=
 Zq (l:=[(226,Z86),(227,Z85),(228,Z2F),(229,Z2E)]) Zh rfl (⟨ZCR,ZCQ,ZqW,ZqV,trivial⟩) Zu7 Tryz.func193 rfl rfl 2 (fun _=> rfl) V3 (fun ⟨⟨h,u,_⟩,⟨d,s,_⟩,_⟩=> hb h u d s ())
def Zow:List (FuncId × Fs U):=[(193,Z5H)]
def Zum:Zc U:=lvl [([0,1],[]),([4,5],[])]
abbrev ZIm(p:List Nat):=AW (Z1 Zow) Tryz.f143 Zum p
theorem ZFo(p q:List Op)(Q:QT)(h:((Zhx ((p,2,()),(q,2,()),()))/\(Q .ret (L2 [(4,.c (sU .piece ((ZM 2 2 p q []).1) .unk)),pB 5 ((ZM 2 2 p q []).2.1)] [])))):
  ZIm [] (L2 [(0,.c (sU .op p .unk)),(1,.c (sU .op q .unk))] []) Q:=
 Eq.mpr V4 h
def ZzN(p q:List Op):Prop:=AW (Z1 Zow) Tryz.f143 Zum [] (Zf (Zpo.can (p,q,())) []) (EQ Tryz.f143 (ZsO (p,q,())) [])
theorem ZxY(ZvC:CT 193 Z5H)(hb:∀ (p:List Op) (q:List Op) (_:Unit),Zlq (p,q,())->ZzN p q):CT 143 ZbS:=
 Z0 (l:=[(193,Z5H)]) Zh rfl (⟨ZvC,trivial⟩) Zum Tryz.func143 rfl rfl 2 (fun _=> rfl) V3 (fun ⟨p,q,_⟩=> hb p q ())
end
theorem Zts{o:Op}(h:Zy o<=20000000000):o.l.length<=20000000000:=by
 have:=Zs o.l
 rw [ZV] at h
 omega
theorem Za7{o:Op}(h:ZP o):0<=o.n/\o.n<=1048576:=by
 unfold ZP at h
 omega
theorem Y4(o:Op):Z2 o=if o.kind=3 then 1 else o.n+o.l.length:=rfl
theorem ZqW:Contract Tryz.prog cfg 228 Z2F:=by
 refine Zxl ?_
 intro o _ h
 simp only [Z52] at h
 have hl:=Zts h.1
 refine ZEJ _ _ ?_;(try simp only [iB,vcT,forall_eq])
 (simp only [iB,vcS]);(try simp only [iB,vcT])
 exact ⟨fun d=> YZ rfl (by rw [Y4,if_pos d]),fun d=> ⟨V2,YZ rfl (by rw [Y4,if_neg d])⟩⟩
theorem ZqV:Contract Tryz.prog cfg 229 Z2E:=by
 refine Zxk ?_
 intro l d _ h
 refine ZEI _ _ _ ?_;(try simp only [iB,vcT,forall_eq])
 have e:((l.length:Int)==0)=decide (l.length=0):=by rw [Qo];(simp only [iB,vcS]);omega
 rw [e]
 exact V1
theorem ZCR:Contract Tryz.prog cfg 226 Z86:=by
 refine Zxn ZqV ?_
 intro l d _ s
 refine ZEL _ _ _ ?_;(try simp only [iB,vcT,forall_eq])
 have e:(bif (!(decide (l.length=0))) then ((OpOf.kind (List.getD l (Int.toNat 0) Op.nil))==d) else false)=sgl d l:=by
  rw [Qo]
  simp only [sgl]
  (simp only [iB,vcS])
  try rfl
 rw [e]
 refine ⟨s,fun h=> ⟨V0,?_⟩,V1⟩
 grind
theorem ZDi(ZvC:Contract Tryz.prog cfg 193 Z5H):Contract Tryz.prog cfg 143 ZbS:=by
 refine ZxY ZvC ?_
 intro p q _ d
 refine ZFo _ _ _ ?_;(try simp only [iB,vcT,forall_eq])
 refine ⟨d,?_⟩
 exact V1
theorem ZCQ:Contract Tryz.prog cfg 227 Z85:=by
 refine Zxm ZqW ?_
 intro l al n _ hp
 simp only [Z7t] at hp
 obtain ⟨⟨ho,hm⟩,hl,h1,h2⟩:=hp
 have d:=Zo (l:=l) (i:=0) V0 Op.nil
 have h:=ho _ d
 have ah:=Yy d
 have ae:=Y5 l
 refine ZEK _ _ _ _ ?_;(try simp only [iB,vcT])
 rintro y rfl _ rfl _ rfl
 have e0:(Int.toNat 0)=0:=rfl
 have e1:(Int.toNat 1)=1:=rfl
 simp only [e0,e1]
 have hT:∀ o r,Zt (l.getD 0 Op.nil) n=o->ZC l n=r->True:=fun _ _ _ _=> trivial
 have ab:=Za7 h
 have aj:=Y4 (l.getD 0 Op.nil)
 (simp only [iB,vcS])
 generalize hy:l.getD 0 Op.nil=y at*
 refine ⟨⟨V0,V0⟩,⟨by grind,ab⟩,fun hc=> ⟨⟨V0,V0⟩,?_⟩,fun hc=> ⟨fun s=> ⟨V2,⟨V0,V0⟩,by simp;omega,?_⟩,fun s=> ?_⟩⟩
 .have t1:Zt y n=y:=by rw [Zt,if_pos hc]
  have u:ZC l n=l.drop 1:=by rw [ZC,hy,if_pos hc]
  simp only [Zdx,Z8x,hy,t1,u]
  exact V1
 .have t1:Zt y n=⟨y.kind,n,y.l,y.e⟩:=by rw [Zt,if_neg hc,if_pos s]
  have u:ZC l n=⟨y.kind,y.n - n,y.l,y.e⟩ ::l.drop 1:=by rw [ZC,hy,if_neg hc,YR,if_pos s]
  simp only [Zdx,Z8x,hy,t1,u]
  exact V1
 .have t1:Zt y n=⟨y.kind,y.n,y.l.take n.toNat,y.e⟩:=by rw [Zt,if_neg hc,if_neg s]
  have u:ZC l n=⟨y.kind,y.n,y.l.drop n.toNat,y.e⟩ ::l.drop 1:=by rw [ZC,hy,if_neg hc,YR,if_neg s]
  simp only [Zdx,Z8x,hy,t1,u]
  unfold ZP at h
  refine ⟨?_,?_,⟨V0,V0⟩,by simp;omega,?_⟩
  .omega
  .omega
  ·exact V1
theorem Z2s(n:Nat):∀ (l:List Tree),Zd (l.drop n)<=Zd l:=by
 induction n with
 | zero=> intro l;simp
 | succ n ih=>
  intro l
  cases l with
  | nil=> simp
  | cons t r=> simp only [QH,Zd];grind
theorem Zer(n:Nat):∀ (l:List Tree),Zd (l.take n)<=Zd l:=by
 induction n with
 | zero=> intro l;simp [Zd]
 | succ n ih=>
  intro l
  cases l with
  | nil=> simp
  | cons t r=> simp only [List.take_succ_cons,Zd];grind
theorem ZB{o:Op}(h:ZP o):1<=Z2 o:=by
 have:=Y4 o
 unfold ZP at h
 have hl:o.l≠[]->0 < o.l.length:=XJ.2
 grind
theorem Z8P{o:Op}(h:ZP o)(hm:Zy o<=20000000000):Z2 o<=20000000000:=by
 have:=Y4 o
 have:=Zts hm
 have:=Za7 h
 unfold ZP at h
 grind
theorem Z5f(o:Op)(r:List Op):Zl (o ::r)=Zy o+Zl r:=rfl
theorem Z5Y{l:List Op}(h:Zab l):Zab (l.drop 1):=by
 cases l with
 | nil=> exact h
 | cons o r=>
  obtain ⟨u,d⟩:=h
  rw [Z5f] at d
  exact ⟨fun x s=> u x (Q7 _ s),by grind⟩
theorem Zaa{l:List Op}(h:Zab l)(hl:l.length≠0):ZP (l.getD 0 Op.nil)/\Zy (l.getD 0 Op.nil)<=20000000000/\Zy (l.getD 0 Op.nil)<=Zl l:=by
 have d:=Zo (l:=l) (i:=0) V0 Op.nil
 have:=Yy d
 exact ⟨h.1 _ d,by have:=h.2;omega,this⟩
theorem Z9G{o:Op}{n:Int}(h:ZP o)(h1:1<=n)(h2:¬Z2 o<=n):ZP (YR o n)/\Zy (YR o n)<=Zy o:=by
 have hl:=Y4 o
 unfold YR
 unfold ZP at*
 by_cases hk:o.kind=0
 .rw [if_pos hk]
  refine ⟨Or.inl ?_,by simp only [ZV];omega⟩
  grind
 .rw [if_neg hk]
  have:=Z2s n.toNat o.l
  refine ⟨Or.inr ?_,by simp only [ZV];omega⟩
  rcases h with h | h | h
  .omega
  .obtain ⟨a,b,c,d⟩:=h
   rw [Jk] at hl
   refine Or.inl ⟨a,b,?_,d⟩
   intro s
   have:=congrArg List.length s
   grind
  omega
theorem Ze9{l:List Op}{n:Int}(h:Zab l)(hl:l.length≠0)(h1:1<=n):Zab (ZC l n):=by
 unfold ZC
 split
 .exact Z5Y h
 .rename_i hc
  obtain ⟨a,b,c⟩:=Zaa h hl
  obtain ⟨d,e⟩:=Z9G a h1 hc
  have u:=Z5Y h
  refine ⟨fun x s=> ?_,?_⟩
  .rcases Q9.1 s with rfl | s
   .exact d
   .exact u.1 _ s
  .rw [Z5f]
   obtain _ | ⟨o,r⟩:=l
   .simp at hl
   .have:=h.2
    rw [Z5f] at this
    grind
theorem Zfx(l:List Op):ZC l (Z2 (l.getD 0 Op.nil))=l.drop 1:=by rw [ZC,if_pos (X7 _)]
theorem Zfy(o:Op):Zt o (Z2 o)=o:=by rw [Zt,if_pos (X7 _)]
theorem ZmW{a:Int}{l:List Op}(h:sgl a l=true):l.length≠0:=(of_decide_eq_true h).1
theorem Zfo{α:Type}(b:Bool)(x:α):(bif b then x else x)=x:=by grind
theorem ZvC:Contract Tryz.prog cfg 193 Z5H:=by
 refine ZxC ZCR ZCQ ZqW ZqV ?_
 intro pl pa ql qa _ hp
 simp only [Zhx] at hp
 have bc:=Y5 pl
 have be:=Y5 ql
 have hP:=hp.1.2
 have hQ:=hp.2.2
 refine ZF0 _ _ _ _ _ ?_;(try simp only [iB,vcT,forall_eq])
 refine Ze (ι:=List Op × List Op × List Piece) (fun s=> Z29 pl pa ql qa s.1 s.2.1 qa s.2.2) (fun s=> Zab s.1/\Zab s.2.1/\s.2.2.length+s.1.length+s.2.1.length<=40000000000/\ZM pa qa s.1 s.2.1 s.2.2=ZM pa qa pl ql []) (fun s=> s.1.length+s.2.1.length) (pl,ql,[]) rfl ⟨hp.1,hp.2,by simp;omega,rfl⟩ ?_
 rintro ⟨p,q,out⟩ ⟨h1,h2,h3,d⟩
 refine Zrt _ _ _ _ _ _ _ _ _ _ ?_;(try simp only [iB,vcT])
 have e0:(Int.toNat 0)=0:=rfl
 simp only [e0,Zfo]
 dsimp only at h1 h2 h3 d
 rintro z1 aj z2 af y3 a7 z4 a9 u rfl y2 rfl y4 rfl y8 av y9 au a0 ab a6 ai
 have ey:y4=y2:=a9.trans af.symm
 rw [ey] at ab ai ⊢
 have e3:(OpOf.mk 0 0 [] y3:Op)=Op.nil:=by rw [a7];try rfl
 rw [<-aj,Zfy] at av
 rw [<-af,Zfy] at au
 have ae:∀ a b:Int,(if a < b then a else b)=min b a:=by intro a b;omega
 rw [<-aj,ae] at ab
 rw [<-af,ae] at ai
 simp only [ae,e3,av,au]
 (simp only [iB,vcS])
 have o1:p.length≠0->ZP u/\Zy u<=20000000000:=fun h=> by have:=Zaa h1 h;grind
 have o2:q.length≠0->ZP y2/\Zy y2<=20000000000:=fun h=> by have:=Zaa h2 h;grind
 have tp:ZC p (Z2 u)=p.drop 1:=by rw [aj];exact Zfx p
 have tq:ZC q (Z2 y2)=q.drop 1:=by rw [af];exact Zfx q
 have bj:=Y5 p
 have bh:=Y5 q
 have bd:=h1.2
 have bi:=h2.2
 rw [ZM] at d
 rw [<-aj,<-af] at d
 refine ⟨by simp only [Z30];omega,fun hs=> ?_,fun hs=> ?_⟩
 .have hl:=ZmW hs
  obtain ⟨oa,ob⟩:=o1 hl
  have oc:=ZB oa
  have od:=Z8P oa ob
  rw [dif_pos hs] at d
  refine ⟨⟨V0,V0⟩,⟨ob,Za7 oa⟩,⟨h1,hl,oc,by grind⟩,by simp;omega,(p.drop 1,q,out++[⟨1,u,Op.nil⟩]),by rw [tp],⟨Z5Y h1,h2,by simp;omega,d⟩,by simp;omega⟩
 .rw [dif_neg (by grind)] at d
  refine ⟨by simp only [Z30];omega,fun aq=> ?_,fun aq=> ?_⟩
  .have hl:=ZmW aq
   obtain ⟨oa,ob⟩:=o2 hl
   have oc:=ZB oa
   have od:=Z8P oa ob
   rw [dif_pos aq] at d
   refine ⟨⟨V0,V0⟩,⟨ob,Za7 oa⟩,⟨h2,hl,oc,by grind⟩,by simp;omega,(p,q.drop 1,out++[⟨2,Op.nil,y2⟩]),by rw [tq],⟨h1,Z5Y h2,by simp;omega,d⟩,by simp;omega⟩
  .rw [dif_neg (by grind)] at d
   refine ⟨by simp only [Z30];omega,fun _=> by simp only [Z30];omega,fun h=> h,fun hd=> ⟨by simp only [Z30];omega,by simp only [Z30];omega,fun he=> ?_,fun he=> ?_⟩,fun hd=> ?_⟩
   .rw [dif_pos hd,if_neg he] at d
    simp only [Zh9,Zc3,<-d]
    exact V1
   .rw [dif_pos hd,if_pos he] at d
    simp only [Zh9,Zc3,<-d]
    exact V1
   .obtain ⟨oa,ob⟩:=o1 hd.1
    obtain ⟨oc,od⟩:=o2 hd.2
    have a1:=ZB oa
    have a2:=Z8P oa ob
    have a3:=ZB oc
    have a4:=Z8P oc od
    rw [dif_neg V0,<-ab,<-ai] at d
    have c1:=Yh p (min (Z2 u) (Z2 y2)) hd.1
    have c2:=Yh q (min (Z2 u) (Z2 y2)) hd.2
    have c3:Z2 u<=min (Z2 u) (Z2 y2)->(ZC p (min (Z2 u) (Z2 y2))).length < p.length:=fun h=> Yg p _ hd.1 (by grind)
    have c4:Z2 y2<=min (Z2 u) (Z2 y2)->(ZC q (min (Z2 u) (Z2 y2))).length < q.length:=fun h=> Yg q _ hd.2 (by grind)
    refine ⟨⟨V0,V0⟩,⟨ob,Za7 oa⟩,⟨V0,V0⟩,⟨od,Za7 oc⟩,⟨h1,hd.1,by grind,by grind⟩,⟨h2,hd.2,by grind,by grind⟩,by simp;omega,
     (ZC p (min (Z2 u) (Z2 y2)),ZC q (min (Z2 u) (Z2 y2)),out++[⟨0,a0,a6⟩]),rfl,⟨Ze9 h1 hd.1 V0,Ze9 h2 hd.2 V0,by simp;omega,d⟩,by grind⟩
theorem Zvj{α:Type}{a b:α}(h:¬a=b):eqX a b=false:=by rw [<-Kh,Z1e];exact h
def vu(u:AUnit):Op × Bool:=(opU u,u.alone)
def vs(a:Int)(o:Op):List (Op × Bool):=(ZgF 0 a o).map vu
theorem ZcE{a n:Int}{o:Op}(h:ZP o)(h1:1<=n)(hn:¬Z2 o<=n):vs a o=vs a (Zt o n)++vs a (YR o n)/\ZP (Zt o n)/\Z2 (Zt o n)=n/\Zy (Zt o n)<=Zy o:=by
 have hl:=Y4 o
 rcases h with ⟨k0,k1,k2,k3⟩ | ⟨k0,k1,k2,k3⟩ | ⟨k0,k1,k2⟩
 .have e1:Zt o n=⟨o.kind,n,o.l,o.e⟩:=by rw [Zt,if_neg hn,if_pos k0]
  have e2:YR o n=⟨o.kind,o.n - n,o.l,o.e⟩:=by rw [YR,if_pos k0]
  rw [Jk,k1] at hl
  simp only [Qh] at hl
  rw [e1,e2]
  refine ⟨?_,Or.inl ⟨k0,k1,by grind,k3⟩,?_,by simp [ZV]⟩
  .simp only [vs,ZgF,k0,k1]
   simp only [if_true,Ke,QV,List.map_append,List.map_replicate]
   rw [if_neg V3]
   simp only [Ke,Qn]
   rw [List.replicate_append_replicate]
   grind
  .rw [Y4]
   grind
 .have e1:Zt o n=⟨o.kind,o.n,o.l.take n.toNat,o.e⟩:=by rw [Zt,if_neg hn,Jk]
  have e2:YR o n=⟨o.kind,o.n,o.l.drop n.toNat,o.e⟩:=by rw [YR,Jk]
  rw [Jk] at hl
  have s:=Zer n.toNat o.l
  rw [e1,e2]
  refine ⟨?_,Or.inr (Or.inl ⟨k0,k1,?_,k3⟩),?_,by simp only [ZV];omega⟩
  .simp only [vs,ZgF]
   rw [Jk,Jk]
   simp_all
  .intro d
   have:=congrArg List.length d
   grind
  .rw [Y4]
   grind
 omega
theorem YT{a:Int}{l:List Op}:sgl a l=true↔(l.length≠0/\(l.getD 0 Op.nil).kind=a):=by unfold sgl;grind
theorem JA(o:Op)(n:Int):(Zt o n).kind=o.kind:=by
 unfold Zt;grind
theorem ZjJ{t:Tree}(h:Ye t=true):t=Tree.nil:=by
 obtain ⟨k,w,ks⟩:=t
 have:=of_decide_eq_true h
 simp at this
 obtain ⟨rfl,rfl,rfl⟩:=this
 try rfl
theorem ZfC{e:Edit}(h:Z0U e=true):e=Edit.nil:=by
 obtain ⟨s,h2,d,h4,h5,h6,u⟩:=Zj0 h
 obtain ⟨k,o,n,w,ks,l,os⟩:=e
 simp at s h2 d h4 h5 h6 u
 subst s h4 h5 h6 u
 rw [ZjJ h2,ZjJ d]
 try rfl
theorem Zdr{list:Int}{o:Op}{d:Int}(h:Zg list o d=true):ZP o:=by
 rw [Z2i] at h
 unfold ZP
 split at h
 .rename_i s
  simp only [Q4,decide_eq_true_eq] at h
  exact Or.inl ⟨s,Qq.1 h.1.2.2,⟨h.1.1,h.1.2.1⟩,ZfC h.2⟩
 .split at h
  .cases h
  .rename_i s u
   split at h
   .simp only [Q4,decide_eq_true_eq] at h
    refine Or.inr (Or.inl ⟨V0,V0,?_,ZfC h.2⟩)
    grind
   grind
end Go.AM.YtpjenobkibfpcaaGreat
namespace Go.AM
def Zbs(list:Int)(e:Edit):Bool:=decide (e.kind=0\/(list=9/\e.kind=2/\e.words.length=0/\e.kids.length=0))
def Z8(l:List Tree):List Tree:=l.map Z3
def ZFR(w:WEdit):WEdit:=⟨w.at_,w.mask,w.new,w.old⟩
mutual
def ZmB:Edit->Edit
 | .mk k o n w ks l os=> .mk k n o (w.map ZFR) (Zs9 ks) l (Zs8 os)
def Zs9:List (KidOf Edit)->List (KidOf Edit)
 | []=> []
 | k ::r=> ZwL k ::Zs9 r
def ZwL:KidOf Edit->KidOf Edit
 | ⟨a,e⟩=> ⟨a,ZmB e⟩
def Zs8:List (OpOf Edit)->List (OpOf Edit)
 | []=> []
 | o ::r=> ZBd o ::Zs8 r
def ZBd:OpOf Edit->OpOf Edit
 | ⟨k,n,l,e⟩=> if k=1 then ⟨2,n,l,e⟩ else if k=2 then ⟨1,n,l,e⟩ else if k=3 then ⟨k,n,l,ZmB e⟩ else ⟨k,n,l,e⟩
end
def Yk{α:Type}(z:α)(l:List α)(i:Nat)(x:α):List α:=(l++List.replicate (i+1 - l.length) z).set i x
def wsD(tw:List Int):List WEdit->List Int->Option (List Int)
 | [],out=> some out
 | w ::r,out=> if mix 0 (tw.getD w.at_.toNat 0) w.mask=w.old then wsD tw r (Yk 0 out w.at_.toNat (mix (tw.getD w.at_.toNat 0) w.new w.mask)) else none
noncomputable def Jw(l rest:List Tree):Bool:=decide (l.length<=rest.length) && eqX (Z8 l) (Z8 (rest.take l.length))
def Z3B(r:Option (List Tree × List Tree)):Option (List Tree):=r.bind fun x=> if x.2.length=0 then some x.1 else none
def nrD(r:Bool)(t:Tree):Tree:=if r then Z3 t else t
mutual
noncomputable def doE(r:Bool):Edit->Tree->Option Tree
 | .mk k o n w ks l os,t=>
  (if k=0 then some t
  else if k=1 then (if ZY (Z3 o) (Z3 t)=true then some n else none)
  else if k=2 then (if t.kind=1 then (wsD t.words w t.words).bind fun a=> (JQ r t.kids ks t.kids).map fun b=> .mk 1 a b else none)
  else if k=3 then (if t.kind=l then (Z3B (ZL r os t.kids [])).map fun b=> .mk l [] b else none)
  else none).map (nrD r)
noncomputable def JQ(r:Bool)(tk:List Tree):List (KidOf Edit)->List Tree->Option (List Tree)
 | [],out=> some out
 | k ::s,out=> (Z2A r tk k).bind fun u=> JQ r tk s (Yk Tree.nil out k.at_.toNat u)
noncomputable def Z2A(r:Bool)(tk:List Tree):KidOf Edit->Option Tree
 | ⟨a,e⟩=> doE r e (tk.getD a.toNat Tree.nil)
noncomputable def ZL(r:Bool):List (OpOf Edit)->List Tree->List Tree->Option (List Tree × List Tree)
 | [],rest,out=> some (out,rest)
 | o ::s,rest,out=> (Z4h r o rest out).bind fun x=> ZL r s x.2 x.1
noncomputable def Z4h(r:Bool):OpOf Edit->List Tree->List Tree->Option (List Tree × List Tree)
 | ⟨k,n,l,e⟩,rest,out=>
  if k=0 then (if n.toNat<=rest.length then some (out++rest.take n.toNat,rest.drop n.toNat) else none)
  else if k=1 then (if Jw l rest=true then some (out,rest.drop l.length) else none)
  else if k=2 then some (out++l,rest)
  else if rest.length=0 then none else (doE r e (rest.getD 0 Tree.nil)).map fun u=> (out++[u],rest.drop 1)
end
theorem Z0I(r:Bool)(e:Edit)(t:Tree):doE r e t=(if e.kind=0 then some t
  else if e.kind=1 then (if ZY (Z3 e.old) (Z3 t)=true then some e.new else none)
  else if e.kind=2 then (if t.kind=1 then (wsD t.words e.words t.words).bind fun a=> (JQ r t.kids e.kids t.kids).map fun b=> .mk 1 a b else none)
  else if e.kind=3 then (if t.kind=e.list then (Z3B (ZL r e.ops t.kids [])).map fun b=> .mk e.list [] b else none)
  else none).map (nrD r):=by cases e;rfl
noncomputable def Zq8(r:Bool)(e:Edit)(t:Tree):Option Tree:=
 if e.kind=0 then some t
 else if e.kind=1 then (if ZY (Z3 e.old) (Z3 t)=true then some e.new else none)
 else if e.kind=2 then (if t.kind=1 then (wsD t.words e.words t.words).bind fun a=> (JQ r t.kids e.kids t.kids).map fun b=> .mk 1 a b else none)
 else if e.kind=3 then (if t.kind=e.list then (Z3B (ZL r e.ops t.kids [])).map fun b=> .mk e.list [] b else none)
 else none
theorem Z9A(r:Bool)(e:Edit)(t:Tree):doE r e t=(Zq8 r e t).map (nrD r):=Z0I r e t
theorem ZeR(r:Bool)(tk:List Tree)(k:Kid):Z2A r tk k=doE r k.e (tk.getD k.at_.toNat Tree.nil):=by cases k;rfl
theorem Yv(r:Bool)(o:Op)(rest out:List Tree):Z4h r o rest out=if o.kind=0 then (if o.n.toNat<=rest.length then some (out++rest.take o.n.toNat,rest.drop o.n.toNat) else none)
  else if o.kind=1 then (if Jw o.l rest=true then some (out,rest.drop o.l.length) else none)
  else if o.kind=2 then some (out++o.l,rest)
  else if rest.length=0 then none else (doE r o.e (rest.getD 0 Tree.nil)).map fun u=> (out++[u],rest.drop 1):=by cases o;rfl
noncomputable def ZbD(r:Bool)(e:Edit)(t:Tree):Option Tree:=
 if t.kind=1 then (wsD t.words e.words t.words).bind fun a=> (JQ r t.kids e.kids t.kids).map fun b=> .mk 1 a b else none
noncomputable def Z6T(r:Bool)(e:Edit)(t:Tree):Option (List Tree × List Tree):=if t.kind=e.list then ZL r e.ops t.kids [] else none
def Z1o(o:Option Tree):Tree:=o.getD Tree.nil
def ZuB(e:Edit)(o:Option (List Tree × List Tree)):Tree:=match o with | some x=> .mk e.list [] x.1 | none=> Tree.nil
noncomputable def ZbE(e:Edit)(t:Tree):Tree:=
 if e.kind=0 then t else if e.kind=1 then e.new else if e.kind=2 then Z1o (ZbD false e t) else if e.kind=3 then ZuB e (Z6T false e t) else Tree.nil
theorem YL(o:Option Tree):o.map (nrD false)=o:=by cases o <;> rfl
theorem Za8{e:Edit}{t u:Tree}(h:doE false e t=some u):ZbE e t=u:=by
 rw [Z0I,YL] at h
 unfold ZbE
 split
 .grind
 .rename_i s;rw [if_neg s] at h
  split
  .grind
  .rename_i h1;rw [if_neg h1] at h
   split
   .rename_i d;rw [if_pos d] at h
    unfold Z1o ZbD
    rw [h];try rfl
   .rename_i d;rw [if_neg d] at h
    split
    .rename_i h3;rw [if_pos h3] at h
     unfold ZuB Z6T
     split at h
     .rename_i h4;rw [if_pos h4]
      revert h
      cases ZL false e.ops t.kids [] with
      | none=> intro h;cases h
      | some x=>
       intro h
       simp only [Z3B,Qm] at h
       grind
     .cases h
    grind
structure Wst where
 out:List Op
 gone:List Tree
 brought:List Tree
def Jo(out:List Op)(g b:List Tree):List Op:=
 out++((if g.length=0 then [] else [⟨1,0,g,Edit.nil⟩])++(if b.length=0 then [] else [⟨2,0,b,Edit.nil⟩]))
def YD:List Op->Int->List Op
 | [],n=> [⟨0,n,[],Edit.nil⟩]
 | [o],n=> if o.kind=0 then [⟨o.kind,o.n+n,o.l,o.e⟩] else [o,⟨0,n,[],Edit.nil⟩]
 | o ::p ::r,n=> o ::YD (p ::r) n
def Z9(w:Wst):Wst:=⟨Jo w.out w.gone w.brought,[],[]⟩
def ZU(w:Wst)(n:Int):Wst:=⟨YD (Z9 w).out n,[],[]⟩
mutual
def Zi:Edit->Edit
 | .mk k o n w ks l os=>
  if k=1 then .mk k (Z3 o) (Z3 n) [] [] l []
  else if k=2 then .mk k Tree.nil Tree.nil w (Jc ks) l []
  else if k=3 then .mk k Tree.nil Tree.nil [] [] l (Z9 (ZA l os ⟨[],[],[]⟩)).out
  else .mk k Tree.nil Tree.nil [] [] l []
def Jc:List (KidOf Edit)->List (KidOf Edit)
 | []=> []
 | k ::r=> JY k ::Jc r
def JY:KidOf Edit->KidOf Edit
 | ⟨a,e⟩=> ⟨a,Zi e⟩
def ZA(list:Int):List (OpOf Edit)->Wst->Wst
 | [],s=> s
 | o ::r,s=> ZA list r (JS list o s)
def JS(list:Int):OpOf Edit->Wst->Wst
 | ⟨k,n,l,e⟩,s=>
  if k=0 then ZU s n
  else if k=1 then ⟨s.out,s.gone++Z8 l,s.brought⟩
  else if k=2 then ⟨s.out,s.gone,s.brought++Z8 l⟩
  else if k=3 then (if Zbs list (Zi e)=true then ZU s 1 else ⟨(Z9 s).out++[⟨3,0,[],Zi e⟩],[],[]⟩)
  else s
end
theorem Z46(e:Edit):Zi e=if e.kind=1 then .mk e.kind (Z3 e.old) (Z3 e.new) [] [] e.list []
  else if e.kind=2 then .mk e.kind Tree.nil Tree.nil e.words (Jc e.kids) e.list []
  else if e.kind=3 then .mk e.kind Tree.nil Tree.nil [] [] e.list (Z9 (ZA e.list e.ops ⟨[],[],[]⟩)).out
  else .mk e.kind Tree.nil Tree.nil [] [] e.list []:=by cases e;rfl
theorem ZfX(k:Kid):JY k=⟨k.at_,Zi k.e⟩:=by cases k;rfl
theorem YW(list:Int)(o:Op)(s:Wst):JS list o s=if o.kind=0 then ZU s o.n
  else if o.kind=1 then ⟨s.out,s.gone++Z8 o.l,s.brought⟩
  else if o.kind=2 then ⟨s.out,s.gone,s.brought++Z8 o.l⟩
  else if o.kind=3 then (if Zbs list (Zi o.e)=true then ZU s 1 else ⟨(Z9 s).out++[⟨3,0,[],Zi o.e⟩],[],[]⟩)
  else s:=by cases o;rfl
end Go.AM
namespace Go.AM.YtpjenobkibfpcaaGreat
open Go.AM Go.Proofs
theorem Zdk(a b:Tree):ZY a b=ZY b a:=by simp [ZY,eq_comm]
theorem Zdj(a:Tree):ZY a a=true:=by simp [ZY]
theorem ZpQ(l:List Int):trim (trim l)=trim l:=by
 induction l with
 | nil=> rfl
 | cons x r ih=>
  rw [Z1Y]
  split
  .try rfl
  .rename_i h
   rw [Z1Y,ih,if_neg h]
theorem ZkQ(l:List Tree):Y3 (Y3 l)=Y3 l:=by
 induction l with
 | nil=> rfl
 | cons x r ih=>
  rw [Jz]
  split
  .try rfl
  .rename_i h
   rw [Jz,ih,if_neg h]
def Normed:List Tree->Prop
 | []=> True
 | t ::r=> Z3 t=t/\Normed r
theorem Normed.eq:∀ {l:List Tree},Normed l->Yd l=l
 | [],_=> rfl
 | t ::r,h=> by simp only [Yd,h.1,Normed.eq h.2]
theorem Normed.trim:∀ {l:List Tree},Normed l->Normed (Y3 l)
 | [],_=> trivial
 | t ::r,h=> by
  rw [Jz]
  split
  .trivial
  .exact ⟨h.1,Normed.trim h.2⟩
mutual
theorem Yb:∀ (t:Tree),Z3 (Z3 t)=Z3 t
 | .mk k w ks=> by
  have h:=Z8R ks
  by_cases h0:k=0
  .simp [Z3,h0,Tree.nil]
  .by_cases h1:k=1
   .subst h1
    simp only [Z3,if_neg h0,if_true,ZpQ,h.trim.eq,ZkQ]
   .simp only [Z3,if_neg h0,if_neg h1,h.eq]
theorem Z8R:∀ (ks:List Tree),Normed (Yd ks)
 | []=> trivial
 | t ::r=> ⟨Yb t,Z8R r⟩
end
theorem Jl(list:Int):∀ (a b:List Op) (s:Wst),ZA list (a++b) s=ZA list b (ZA list a s)
 | [],b,s=> rfl
 | o ::r,b,s=> by simp only [Qw,ZA,Jl list r]
theorem Zbn:∀ (l:List Op) (m n:Int),YD (YD l m) n=YD l (m+n)
 | [],m,n=> by simp [YD]
 | [o],m,n=> by
  by_cases h:o.kind=0
  .simp [YD,h,Int.add_assoc]
  .simp [YD,h]
 | o ::p ::r,m,n=> by
  have d:=Zbn (p ::r) m n
  cases hk:YD (p ::r) m with
  | nil=> cases r <;> simp [YD] at hk;grind
  | cons x y=>
   rw [hk] at d
   simp only [YD]
   rw [hk]
   simp only [YD]
   rw [d]
theorem YI:∀ (l:List Op) (n:Int),YD l n=l++[⟨0,n,[],Edit.nil⟩]\/∃ a o,l=a++[o]/\o.kind=0/\YD l n=a++[⟨o.kind,o.n+n,o.l,o.e⟩]
 | [],n=> Or.inl rfl
 | [o],n=> by
  by_cases h:o.kind=0
  .exact Or.inr ⟨[],o,rfl,h,by simp [YD,h]⟩
  .exact Or.inl (by simp [YD,h])
 | o ::p ::r,n=> by
  rcases YI (p ::r) n with h | ⟨a,q,h1,h2,h3⟩
  .exact Or.inl (by simp only [YD,h,Qw])
  .exact Or.inr ⟨o ::a,q,by rw [h1];rfl,h2,by simp only [YD,h3,Qw]⟩
def W0:Wst:=⟨[],[],[]⟩
def Stb(list:Int)(w:Wst):Prop:=ZA list w.out W0=⟨w.out,[],[]⟩/\Z8 w.gone=w.gone/\Z8 w.brought=w.brought
theorem Z9O{list:Int}{w:Wst}(h:Stb list w):ZA list (Z9 w).out W0=w:=by
 obtain ⟨u,s,d⟩:=h
 obtain ⟨out,g,b⟩:=w
 simp only [Z9,Jo]
 rw [Jl,u,Jl]
 simp only at s d
 by_cases hg:g.length=0
 .rw [if_pos hg]
  have:g=[]:=Qq.1 hg
  subst this
  by_cases hb:b.length=0
  .rw [if_pos hb]
   have:b=[]:=Qq.1 hb
   subst this
   try rfl
  .rw [if_neg hb]
   simp [ZA,YW,d]
 .rw [if_neg hg]
  by_cases hb:b.length=0
  .rw [if_pos hb]
   have:b=[]:=Qq.1 hb
   subst this
   simp [ZA,YW,s]
  .rw [if_neg hb]
   simp [ZA,YW,s,d]
theorem Zec(list:Int)(o:Op)(s:Wst)(h:o.kind=0):ZA list [o] s=ZU s o.n:=by
 simp only [ZA,YW,h,if_true]
theorem ZiV{list:Int}{w:Wst}(h:Stb list w)(n:Int):Stb list (ZU w n):=by
 have hf:=Z9O h
 refine ⟨?_,rfl,rfl⟩
 show ZA list (YD (Z9 w).out n) W0=⟨YD (Z9 w).out n,[],[]⟩
 rcases YI (Z9 w).out n with e | ⟨a,o,e1,e2,e3⟩
 .rw [e,Jl,hf,Zec _ _ _ rfl]
  show (⟨YD (Z9 w).out n,[],[]⟩:Wst)=_
  rw [e]
 .rw [e1,Jl,Zec _ _ _ e2] at hf
  rw [e3,Jl,Zec list ⟨o.kind,o.n+n,o.l,o.e⟩ _ e2]
  have d:YD (Z9 (ZA list a W0)).out o.n=w.out/\w.gone=[]/\w.brought=[]:=by
   rw [<-hf];exact ⟨rfl,rfl,rfl⟩
  have s:(Z9 w).out=w.out:=by simp [Z9,Jo,d.2.1,d.2.2]
  show (⟨YD (Z9 (ZA list a W0)).out (o.n+n),[],[]⟩:Wst)=_
  rw [<-Zbn,d.1,<-e3,s]
theorem Z2S(l:List Tree):Z8 (Z8 l)=Z8 l:=by
 simp only [Z8,List.map_map]
 congr 1
 funext t
 exact Yb t
theorem Yj(a b:List Tree):Z8 (a++b)=Z8 a++Z8 b:=by simp [Z8]
theorem ZBl{list:Int}{w:Wst}{o:Op}(h:Stb list w)(hi:Zi (Zi o.e)=Zi o.e):Stb list (JS list o w):=by
 rw [YW]
 by_cases k0:o.kind=0
 .rw [if_pos k0];exact ZiV h _
 .rw [if_neg k0]
  by_cases k1:o.kind=1
  .rw [if_pos k1]
   exact ⟨h.1,by simp only [Yj,Z2S,h.2.1],h.2.2⟩
  .rw [if_neg k1]
   by_cases k2:o.kind=2
   .rw [if_pos k2]
    exact ⟨h.1,h.2.1,by simp only [Yj,Z2S,h.2.2]⟩
   .rw [if_neg k2]
    by_cases k3:o.kind=3
    .rw [if_pos k3]
     by_cases hd:Zbs list (Zi o.e)=true
     .rw [if_pos hd];exact ZiV h _
     .rw [if_neg hd]
      refine ⟨?_,rfl,rfl⟩
      have hf:=Z9O h
      show ZA list ((Z9 w).out++[⟨3,0,[],Zi o.e⟩]) W0=_
      rw [Jl,hf]
      simp only [ZA,YW]
      grind
    grind
mutual
theorem Z3j:∀ (e:Edit),Zi (Zi e)=Zi e
 | .mk k o n w ks l os=> by
  have s:=Zee ks
  have d:=ZfW l os W0 ⟨rfl,rfl,rfl⟩
  have h:=Z9O d
  rw [Zi]
  by_cases k1:k=1
  .rw [if_pos k1,Zi,if_pos k1,Yb,Yb]
  .rw [if_neg k1]
   by_cases k2:k=2
   .rw [if_pos k2,Zi,if_neg k1,if_pos k2,s]
   .rw [if_neg k2]
    by_cases k3:k=3
    .rw [if_pos k3,Zi,if_neg k1,if_neg k2,if_pos k3]
     show Edit.mk k Tree.nil Tree.nil [] [] l (Z9 (ZA l (Z9 (ZA l os W0)).out W0)).out=Edit.mk k Tree.nil Tree.nil [] [] l (Z9 (ZA l os W0)).out
     rw [h]
    .rw [if_neg k3,Zi,if_neg k1,if_neg k2,if_neg k3]
theorem Zee:∀ (ks:List (KidOf Edit)),Jc (Jc ks)=Jc ks
 | []=> rfl
 | k ::r=> by
  have h:=ZjH k
  have d:=Zee r
  simp only [Jc]
  rw [h,d]
theorem ZjH:∀ (k:KidOf Edit),JY (JY k)=JY k
 | ⟨a,e⟩=> by
  have h:=Z3j e
  simp only [JY]
  rw [h]
theorem ZfW(list:Int):∀ (os:List (OpOf Edit)) (w:Wst),Stb list w->Stb list (ZA list os w)
 | [],w,h=> h
 | o ::r,w,h=> by
  have d:=Zql list o w h
  exact ZfW list r _ d
theorem Zql(list:Int):∀ (o:OpOf Edit) (w:Wst),Stb list w->Stb list (JS list o w)
 | ⟨k,n,l,e⟩,w,h=> ZBl (o:=⟨k,n,l,e⟩) h (Z3j e)
end
end Go.AM.YtpjenobkibfpcaaGreat
