import Derived.Test.YtpjenobkibfpcaaGreatZKL07
set_option linter.unusedSimpArgs false
set_option linter.unusedVariables false
namespace Go.AM.YtpjenobkibfpcaaGreat
open Go.AM Go.Proofs
theorem Z5{n k:Nat}{rs:List ResultVar}{b b':Bool}(hr:rs=[ResultVar.tmp k])(h:b=b'):Y7 cfg n rs (.c (.bool b')) [] .ret (⟨[(k,.c (.bool b))],[],[]⟩:LSt U):=by
 subst hr h
 have s:Nat.beq k k=true:=Nat.beq_refl k
 simp [Y7,ZHO,Zj6,Zj5,Z9d,Zc6,LSt.toF,ZhB,s,Zgp,Z5H,Js,Z0G,leR,leL,leC,ZuF]
theorem Jb{n k:Nat}{rs:List ResultVar}{K:IntKind}{b b':Int}(hr:rs=[ResultVar.tmp k])(h:b=b'):Y7 cfg n rs (.c (.int K b')) [] .ret (⟨[(k,.c (.int K b))],[],[]⟩:LSt U):=by
 subst hr h
 have s:Nat.beq k k=true:=Nat.beq_refl k
 simp [Y7,ZHO,Zj6,Zj5,Z9d,Zc6,LSt.toF,ZhB,s,Zgp,Z5H,Js,Z0G,leR,leL,leC,ZuF]
theorem ZHl:Contract Tryz.prog cfg 129 Zap:=by
 refine ZBG ?_
 intro c _ _
 refine ZJL _ _ ?_;(try simp only [iB,vcT,forall_eq])
 (simp only [iB,vcS]);(try simp only [iB,vcT])
 refine ⟨fun h=> Jb rfl ?_,fun h=> ⟨fun h=> Jb rfl ?_,fun h=> ⟨fun h=> Jb rfl ?_,fun h=> ⟨fun h=> Jb rfl ?_,fun h=> ⟨fun h=> Jb rfl ?_,fun h=> ⟨fun h=> Jb rfl ?_,fun h=> Jb rfl ?_⟩⟩⟩⟩⟩⟩ <;> simp only [wd] <;> simp [*]
theorem ZuO(c:Int): -1<=wd c/\wd c<=64:=by
 unfold wd
 omega
theorem Zng(n:Int)(h0:0<=n)(h1:n < 18446744073709551616):IntKind.wrap .u64 (Int.tdiv n 2)=n / 2:=by
 rw [XL h0]
 simp [IntKind.wrap,IntKind.signed,IntKind.bits]
 omega
theorem c81:Contract Tryz.prog cfg 81 Zfh:=by
 refine ZFF ZHl ?_
 intro c n _ hp
 simp only [Zqc] at hp
 have hw:=ZuO c
 refine ZLd _ _ _ ?_;(try simp only [iB,vcT,forall_eq])
 (simp only [iB,vcS]);(try simp only [iB,vcT])
 refine ⟨trivial,fun h=> Z5 rfl ?_,fun h=> ?_⟩
 .simp only [ZkP]
  simp
  omega
 .refine Zc (ι:=Int × Int) (fun p=> Zbn c n p.1 p.2) (fun p=> 0<=p.2/\p.2<=wd c/\0<=p.1/\p.1 < 18446744073709551616/\(n < 2 ^ (wd c).toNat↔p.1 < 2 ^ (wd c - p.2).toNat)) (fun p=> (wd c - p.2).toNat) (n,0) rfl ⟨JX,JX,JX,JX,by simp⟩ ?_
  rintro ⟨m,i⟩ ⟨h1,h2,h3,u,s⟩
  dsimp only at*
  refine ZA2 _ _ _ _ _ _ ?_;(try simp only [iB,vcT,forall_eq])
  (simp only [iB,vcS]);(try simp only [iB,vcT])
  refine ⟨fun hc=> ⟨JX,V1,(IntKind.wrap .u64 (Int.tdiv m 2),i+1),rfl,?_,JX⟩,fun hc=> Z5 rfl ?_⟩
  .rw [Zng m h3 u]
   refine ⟨JX,JX,JX,JX,?_⟩
   dsimp only
   rw [s,show (wd c - i).toNat=(wd c - (i+1)).toNat+1 by omega]
   omega
  .have e:(wd c - i).toNat=0:=JX
   rw [e] at s
   simp only [ZkP]
   grind
theorem ZGB:Contract Tryz.prog cfg 232 Z9X:=by
 refine ZAK ?_
 intro c _ _
 refine ZIG _ _ ?_;(try simp only [iB,vcT,forall_eq])
 (simp only [iB,vcS]);(try simp only [iB,vcT])
 have s:=ZuO c
 refine ⟨fun h=> ?_,fun h=> ⟨JX,?_⟩⟩
 .have e:wd c= -1:=by unfold wd;omega
  simp only [ZnE,e]
  exact ⟨⟨rfl,⟨⟨rfl,rfl⟩,trivial⟩,rfl,⟨rfl,trivial⟩,trivial⟩,trivial⟩
 .have hc:c=0\/c=1\/c=2\/c=3\/c=4\/c=5:=JX
  rcases hc with rfl | rfl | rfl | rfl | rfl | rfl <;> exact ⟨⟨rfl,⟨⟨rfl,rfl⟩,trivial⟩,rfl,⟨rfl,trivial⟩,trivial⟩,trivial⟩
theorem ZyZ(n:Int)(w:Nat)(h:0<=n):(Int.fdiv n (2 ^ w)=0)↔n < 2 ^ w:=by
 have u:(0:Int) < 2 ^ w:=XZ JX
 rw [Int.fdiv_eq_ediv_of_nonneg _ JX]
 constructor
 .intro s
  have:=Int.lt_ediv_add_one_mul_self n u
  grind
 .intro s
  exact Int.ediv_eq_zero_of_lt h s
theorem ZGH:Contract Tryz.prog cfg 221 Zfh:=by
 refine ZAS ZGB ?_
 intro c n _ s
 simp only [Zqc] at s
 have hw:=ZuO c
 refine ZIO _ _ _ ?_;(try simp only [iB,vcT,forall_eq])
 refine ⟨trivial,fun h=> by omega,fun a b=> by grind,Z5 rfl ?_⟩
 simp only [ZkP]
 by_cases h0:0<=wd c
 .rw [J3]
  simp only [h0,decide_true,cond_true,true_and]
  by_cases h64:wd c=64
  .grind
  .have:((wd c)==64)=false:=by simpa using h64
   rw [this,cond_false,Qs]
   have u:min (wd c).toNat (IntKind.bits .u64)=(wd c).toNat:=by
    show min (wd c).toNat 64=_
    omega
   rw [u]
   simp only [beq_iff_eq,decide_eq_true_eq]
   exact ZyZ n _ s.1
 .simp [h0]
theorem Zuu:Contract Tryz.prog cfg 125 Z2b:=by
 refine ZBH ?_
 intro c _ _
 refine ZJN _ _ ?_;(try simp only [iB,vcT,forall_eq])
 refine Z5 rfl ?_
 rw [Qs]
 (simp only [iB,vcS])
theorem Zuo:Contract Tryz.prog cfg 220 Z42:=by
 refine ZAT ?_
 intro c _ _
 refine ZIP _ _ ?_;(try simp only [iB,vcT,forall_eq])
 refine Z5 rfl ?_
 rw [Qs]
 (simp only [iB,vcS])
theorem ZlK{t:Tree}(h:rng t){i:Nat}(hi:i < t.words.length):0<=t.words.getD i 0/\t.words.getD i 0 < 18446744073709551616:=by
 obtain ⟨k,w,ks⟩:=t
 simp only [rng] at h
 simp_all
theorem ZH3:Contract Tryz.prog cfg 181 Zaj:=by
 refine ZBi Zuo ZGH ?_
 intro l t _ u
 simp only [Zkc] at u
 refine ZJi _ _ _ ?_;(try simp only [iB,vcT,forall_eq])
 (simp only [iB,vcS]);(try simp only [iB,vcT])
 refine ⟨trivial,fun s=> ⟨fun _=> by unfold InR;omega,fun h=> by omega,fun h=> ZlK u JX,Z5 rfl ?_⟩,fun s=> ⟨fun h=> Z5 rfl ?_,fun h=> Z5 rfl ?_⟩⟩
 .simp only [Z0V,if_pos s,Int.toNat_zero]
  grind
 .simp only [Z0V,if_neg s,if_pos h]
  grind
 .simp only [Z0V,if_neg s,if_neg h]
  grind
theorem Zd8{l:Int}{ks:List Tree}{i:Int}{d:Int}(h0:0<=i)(h:i < ks.length):
  Yl l (ks.drop i.toNat) d=((Z0V l (ks.getD i.toNat Tree.nil) && Zd (ks.getD i.toNat Tree.nil) d) && Yl l (ks.drop (i+1).toNat) d):=by
 have e:(i+1).toNat=i.toNat+1:=JX
 rw [QI JX,e]
 simp only [Yl,List.getD,Q4 (show i.toNat < ks.length by omega),Xq]
theorem ZfF:∀ {ks:List Tree} {i:Nat},Yx ks->i < ks.length->rng (ks.getD i Tree.nil)
 | t ::_,0,h,_=> by simp only [Yx] at h;exact h.1
 | _ ::r,i+1,h,hi=> by simp only [Yx] at h;exact ZfF (ks:=r) (i:=i) h.2 (by simpa using hi)
theorem ZmH(t:Tree):Z0V 1 t=decide (t.kind≠10):=by simp [Z0V]
theorem ZHk:Contract Tryz.prog cfg 130 Zao:=by
 refine ZBF Zuu ZH3 ?_
 rintro N ⟨k,ws,ks⟩ d _ hp hN
 simp only [Z6V,Zdj,Zo,rng] at hp hN
 have aj:∀ b,d≠0->Zd (.mk k ws ks) d=(b && Yl k ks (d - 1))->b=true->
   Zp (awp cfg (Z2 (Z5W N)) (Z00 cfg (Z2 (Z5W N))) Tryz.f130.ntmps ZiB (cd Tryz.f130 [1,1,0,1,0,0])) (Z56 (.mk k ws ks) d 0) (AExit.inBlock 1 (ZKd cfg (Z2 (Z5W N)) (Z00 cfg (Z2 (Z5W N))) Tryz.f130.ntmps ZiB (cd Tryz.f130 [1,1,1]) (Y7 cfg Tryz.f130.ntmps Tryz.f130.results.toList (ZjR (.mk k ws ks,d,())) []))):=by
  intro b aw hb ak
  subst ak
  rw [QL] at hb
  refine Zc (ι:=Int) (fun p=> Z56 (.mk k ws ks) d p) (fun p=> 0<=p/\p<=ks.length/\Zd (.mk k ws ks) d=Yl k (ks.drop p.toNat) (d - 1)) (fun p=> ((ks.length:Int) - p).toNat) 0 rfl ⟨JX,JX,by simpa using hb⟩ ?_
  rintro i ⟨h1,h2,h3⟩
  refine Zvd N _ _ _ _ _ ?_;(try simp only [iB,vcT,forall_eq])
  (simp only [iB,vcS]);(try simp only [iB,vcT])
  try (simp only [vE])
  refine ⟨fun hi=> ⟨⟨JX,hi⟩,?_⟩,fun hi=> ?_⟩
  .have u:=Zd8 (l:=k) (d:=d - 1) h1 hi
   have hm:=Z1l (ks:=ks) (i:=i.toNat) JX
   have hr:=ZfF (i:=i.toNat) hp.2.1.2.2 JX
   rw [u] at h3
   have ao:=Zy ks
   generalize ks.getD i.toNat Tree.nil=y at*
   have ab:Z6V (y,d - 1,()):=⟨V4,hr,V4,V4⟩
   have ah:Zdj (y,d - 1,()) < N:=by simp only [Zdj];omega
   have ai:InR (d - 1):=V1
   refine ⟨fun hk=> ⟨hr,fun _=> ai,fun _=> ab,fun _=> ah,fun hc=> Z5 rfl ?_,fun hc=> ⟨V1,i+1,rfl,⟨JX,JX,?_⟩,JX⟩⟩,fun hk=> ⟨fun _=> ai,fun _=> ab,fun _=> ah,fun hc=> Z5 rfl ?_,fun hc=> ⟨V1,i+1,rfl,⟨JX,JX,?_⟩,JX⟩⟩⟩
   .grind
   .grind
   .subst hk
    rw [h3,ZmH]
    grind
   .subst hk
    rw [h3,ZmH,hc.2]
    simp [hc.1]
  .rw [QE JX] at h3
   simp only [Yl] at h3
   exact Z5 rfl h3.symm
 refine ZJK N _ _ _ ?_;(try simp only [iB,vcT,forall_eq])
 (simp only [iB,vcS]);(try simp only [iB,vcT])
 try (simp only [vE])
 have ay:∀ s:k=0,Zd (.mk k ws ks) d=decide (ws.length=0/\ks.length=0):=fun s=> by simp only [Zd,if_pos s]
 have au:∀ (_:¬k=0) (h:k=10),Zd (.mk k ws ks) d=decide (ws.length=1/\ks.length=0):=fun s h=> by simp only [Zd,if_neg s,if_pos h]
 refine ⟨fun s=> Z5 rfl ?_,fun s=> ⟨fun h=> Z5 rfl ?_,fun h=> ⟨fun u=> Z5 rfl ?_,fun u=> ⟨fun h1=> ⟨fun hc=> Z5 rfl ?_,fun hc=> aj true u ?_ rfl⟩,fun h1=> ⟨trivial,fun hc=> Z5 rfl ?_,fun hc=> aj true u ?_ rfl⟩⟩⟩⟩⟩
 .grind
 .grind
 .simp only [Zd,if_neg s,if_neg h,if_pos u]
 .simp only [Zd,if_neg s,if_neg h,if_neg u,if_pos h1]
  grind
 .simp only [Zd,if_neg s,if_neg h,if_neg u,if_pos h1]
  grind
 .simp only [Zd,if_neg s,if_neg h,if_neg u,if_neg h1]
  grind
 .simp only [Zd,if_neg s,if_neg h,if_neg u,if_neg h1]
  grind
theorem c82:Contract Tryz.prog cfg 82 Z1s:=by
 refine ZFE ZHk ?_
 intro t _ h
 refine ZLc _ _ ?_;(try simp only [iB,vcT,forall_eq])
 try (simp only [vE])
 exact ⟨⟨h.1,h.2,by grind,by grind⟩,Z5 rfl rfl⟩
theorem ZlP{y:Tree}{d:Int}(h:Zd y d=true)(hk:y.kind=10):y.words.length=1/\y.kids.length=0:=by
 obtain ⟨k,w,ks⟩:=y
 simp only [Tree.kind_mk] at hk
 subst hk
 simpa [Zd] using h
theorem c31:Contract Tryz.prog cfg 31 Zao:=by
 refine ZFU c81 ?_
 rintro N ⟨k,ws,ks⟩ d _ hp hN
 simp only [Z6V,Zdj,Zo,rng] at hp hN
 refine ZLx N _ _ _ ?_;(try simp only [iB,vcT,forall_eq])
 (simp only [iB,vcS]);(try simp only [iB,vcT])
 try (simp only [vE])
 refine ⟨fun h0=> Z5 rfl ?_,fun h0=> ⟨fun u=> Z5 rfl ?_,fun u=> ⟨fun a b=> ⟨a,b⟩,fun hc=> Z5 rfl ?_,fun hc=> ⟨fun hw=> Z5 rfl ?_,fun hw=> ?_⟩⟩⟩⟩
 .simp only [Zd,if_pos h0]
  rw [Qs];(simp only [iB,vcS]);omega
 .simp only [Zd,if_neg h0,if_pos u]
  rw [Qs];(simp only [iB,vcS]);omega
 .simp only [Zd,if_neg h0,if_neg u]
  split
  .try rfl
  .split
   .rw [decide_eq_false JX];try rfl
   .have:¬(2<=k/\k<=9/\ws.length=0/\ks.length < 1048576):=JX
    rw [decide_eq_false this];try rfl
 .simp only [Zd,if_neg h0,if_neg u]
  rw [J3,J3]
  have:¬(2<=k/\k<=9/\ws.length=0/\ks.length < 1048576):=JX
  rw [decide_eq_false this];try rfl
 .have hb:Zd (.mk k ws ks) d=Yl k ks (d - 1):=by
   simp only [Zd,if_neg h0,if_neg u]
   rw [J3]
   split
   .rename_i h1
    rw [decide_eq_true JX,h1];try rfl
   .have:2<=k/\k<=9/\ws.length=0/\ks.length < 1048576:=JX
    rw [decide_eq_true this];try rfl
  refine Zc (ι:=Int) (fun p=> ZbA (.mk k ws ks) d p) (fun p=> 0<=p/\p<=ks.length/\Zd (.mk k ws ks) d=Yl k (ks.drop p.toNat) (d - 1)) (fun p=> ((ks.length:Int) - p).toNat) 0 rfl ⟨JX,JX,by simpa using hb⟩ ?_
  rintro i ⟨h1,h2,h3⟩
  refine ZAf N _ _ _ _ _ ?_;(try simp only [iB,vcT,forall_eq])
  (simp only [iB,vcS]);(try simp only [iB,vcT])
  try (simp only [vE])
  refine ⟨fun hi=> ?_,fun hi=> ?_⟩
  .have hd:=Zd8 (l:=k) (d:=d - 1) h1 hi
   have hm:=Z1l (ks:=ks) (i:=i.toNat) JX
   have hr:=ZfF (i:=i.toNat) hp.2.1.2.2 JX
   rw [hd] at h3
   have av:=Zy ks
   generalize ks.getD i.toNat Tree.nil=y at*
   have ak:Z6V (y,d - 1,()):=⟨V4,hr,V4,V4⟩
   have aq:Zdj (y,d - 1,()) < N:=by simp only [Zdj];omega
   have ar:InR (d - 1):=V1
   refine ⟨⟨h1,hi⟩,ar,ak,aq,fun hf=> Z5 rfl ?_,fun hf=> ?_⟩
   .rw [h3,hf];simp
   .have s:((bif decide (2<=k) then decide (k<=7) else false)=(y.kind==10))↔((2<=k/\k<=7)↔y.kind=10):=by
     rw [Qs];(simp only [iB,vcS])
    have aj:=ZlP hf
    have al:Z0V k y=true↔(((2<=k/\k<=7)↔y.kind=10)/\(¬k=9\/y.kind=1))/\((¬2<=k\/¬k<=7)\/ZkP (k - 2) (y.words.getD 0 0)=true):=by
     unfold Z0V
     by_cases hk:2<=k/\k<=7
     .rw [if_pos hk]
      (simp only [iB,vcS])
      constructor
      .rintro ⟨h,h5⟩;exact ⟨⟨JX,JX⟩,.inr h5⟩
      .rintro ⟨⟨h,_⟩,h5⟩
       have:=aj JX
       exact ⟨JX,by rcases h5 with h5 | h5;omega;exact h5⟩
     .rw [if_neg hk]
      by_cases h9:k=9
      .rw [if_pos h9]
       (simp only [iB,vcS])
       constructor
       .intro h;exact ⟨⟨JX,JX⟩,.inl JX⟩
       .rintro ⟨⟨_,h⟩,_⟩;omega
      .rw [if_neg h9]
       (simp only [iB,vcS])
       constructor
       .intro h;exact ⟨⟨JX,JX⟩,.inl JX⟩
       .rintro ⟨⟨h,_⟩,_⟩;omega
    have aa:∀ (h:(((bif decide (2<=k) then decide (k<=7) else false)=(y.kind==10)/\(¬k=9\/y.kind=1))/\2<=k/\k<=7)),y.words.length=1:=fun h=> (aj ((s.1 h.1.1).1 h.2)).1
    simp only [Int.toNat_zero]
    refine ⟨fun a b=> ⟨a,b⟩,fun h=> by unfold InR;omega,fun h=> by have:=aa h;omega,fun h=> ZlK hr (by have:=aa h;omega),fun a b=> ⟨a,b⟩,fun h=> Z5 rfl ?_,fun h=> ⟨V1,i+1,rfl,⟨JX,JX,?_⟩,JX⟩⟩
    .have ao:Z0V k y=false:=by
      cases hkk:Z0V k y with
      | false=> rfl
      | true=>
       exfalso
       obtain ⟨h5,h6⟩:=al.1 hkk
       rcases h with h | ⟨h,h7⟩
       .rcases h with h | h
        .exact h (s.2 h5.1)
        .omega
       .rcases h6 with h6 | h6
        .omega
        .rw [h7] at h6;cases h6
     rw [h3,ao];try rfl
    .rw [h3,al.2 ⟨⟨s.1 h.1.1,h.1.2⟩,h.2⟩,hf];try rfl
  .rw [QE JX] at h3
   simp only [Yl] at h3
   exact Z5 rfl h3.symm
theorem Zuc{t:Tree}(h:0<=ZK t 80 3000):Zo t<=20000000000:=by
 have:=Z0x t 80 3000 h
 omega
noncomputable section
def Zsr:ArgL (Int × Unit):=(.cons (Jj .u64) .nil)
def Zg6(a:Int × Unit):Prop:=0<=a.1/\a.1 < 18446744073709551616
def ZnL(a:Int × Unit):V U:= .agg (zb8 Zl a.1)
def Zai:Fs U:=fs Zsr (fun a=> [Zg6 a]) ZnL
def Zsq:ArgL (Int × Int × Unit):=(.cons (Jj .u8) (.cons (Jj .i64) .nil))
def Zkb(a:Int × Int × Unit):Prop:=(0<=a.1/\a.1 < 256)/\0<=a.2.1/\a.2.1<=8
def Zwg(a:Int × Int × Unit):V U:= .c (.bool (Ys a.1 a.2.1))
def Zah:Fs U:=fs Zsq (fun a=> [Zkb a]) Zwg
def Zsp:ArgL (List Int × Int × Unit):=(.cons (aSl .u8) (.cons (Jj .i64) .nil))
def Zo2(a:List Int × Int × Unit):Prop:=a.2.1=0/\a.1.length=8/\∀ x∈a.1,0<=x/\x < 256
def Zwf(a:List Int × Int × Unit):V U:= .c (.int .u64 (of8 (fun i=> a.1.getD i 0)))
def Zag:Fs U:=fs Zsp (fun a=> [Zo2 a]) Zwf
def ZsI:ArgL (Int × Int × Int × Unit):=(.cons (Jj .u64) (.cons (Jj .u64) (.cons (Jj .u8) .nil)))
def Zkf(a:Int × Int × Int × Unit):Prop:=(0<=a.1/\a.1 < 18446744073709551616)/\(0<=a.2.1/\a.2.1 < 18446744073709551616)/\(0<=a.2.2.1/\a.2.2.1 < 256)
def Zws(a:Int × Int × Int × Unit):V U:= .c (.int .u64 (mix a.1 a.2.1 a.2.2.1))
def Zam:Fs U:=fs ZsI (fun a=> [Zkf a]) Zws
def Z6S(a:Tree × Unit):Prop:=Zo a.1<=20000000000
def ZEg(a:Tree × Unit):V U:= .c (.bool (YM a.1))
def Z5q:Fs U:=fs Zzy (fun a=> [Z6S a]) ZEg
def ZsR:ArgL (Int × Int × Unit):=(.cons (Jj .u64) (.cons (Jj .u8) .nil))
def Zkh(a:Int × Int × Unit):Prop:=(0<=a.1/\a.1 < 18446744073709551616)/\(0<=a.2.1/\a.2.1 < 256)
def Zwz(a:Int × Int × Unit):V U:= .c (.bool (ZG a.1 a.2.1))
def Z7y:Fs U:=fs ZsR (fun a=> [Zkh a]) Zwz
def ZsH:ArgL (Edit × Unit):=(.cons (aEl .edit) .nil)
def Z9q(a:Edit × Unit):Prop:=Z8 a.1<=20000000000
def Zwr(a:Edit × Unit):V U:= .c (.bool (Z1M a.1))
def Z7w:Fs U:=fs ZsH (fun a=> [Z9q a]) Zwr
def Zgl(a:Edit × Unit):Prop:=Z8 a.1<=20000000000/\∀ o∈Edit.ops a.1,0<=o.n/\o.n<=1048576
def ZnP(a:Edit × Unit):V U:= .tup [(false,[ci (Z1C a.1.ops 0)]),(false,[ci (Z1B a.1.ops 0)])]
def Z2P:Fs U:=fs ZsH (fun a=> [Zgl a]) ZnP
def ZoX:ArgL (Edit × Int × Int × Unit):=(.cons (aEl .edit) (.cons (Jj .i64) (.cons (Jj .i64) .nil)))
def ZfX(a:Edit × Int × Int × Unit):Prop:=Z2x a.1/\0<=a.2.1/\a.2.1<=4611686018427387904/\-1<=a.2.2.1/\a.2.2.1<=4611686018427387904
def Zmh(a:Edit × Int × Int × Unit):Nat:=Z8 a.1
def ZpX(a:Edit × Int × Int × Unit):V U:= .c (ci (Z0D a.1 a.2.1 a.2.2.1))
def Zfg:Fs U:=fs ZoX (fun a=> [ZfX a]) ZpX
def Zqd(a:Edit × Unit):Prop:=Z2x a.1
def ZEj(a:Edit × Unit):V U:= .c (.bool (decide (0<=Z0D a.1 80 3000)))
def Z6u:Fs U:=fs ZsH (fun a=> [Zqd a]) ZEj
def ZqJ:Za U:=lvl [([0,2],[2]),([0,2,3],[2,3]),([0,2,3,4],[2,3]),([0,2,3,4,7],[2,3]),([0,2,3,4],[2,3]),([0,2,3,4],[2,3]),([0,2,3,4],[2,3]),([2],[2])]
def Z54(w x0 x4 aa s ae af u h ah ab:Int):LSt U:=(L2 [(0,.c (.int .u64 x0)),pL 2,pL 3,pI 4 x4] [(.loc 2,zc0),(.loc 3,(zi8 [aa,s,ae,af,u,h,ah,ab]))])
abbrev ZIx(p:List Nat):=AW (Z2 ZoA) Tryz.f186 ZqJ p
abbrev ZKT(p:List Nat):=SW (Z2 ZoA) Tryz.f186 ZqJ p
theorem ZJg(w:Int)(Q:QT)(h:(Zp (ZIx [1,1,0,1,0,0]) (Z54 w w 0 0 0 0 0 0 0 0 0) (xB 0 (ZKT [1,1,1] Q)))):
  ZIx [] (L2 [(0,.c (.int .u64 w))] []) Q:=
 Eq.mpr V3 h
theorem Zv1(w x0 x4 ab u af ah aa s ai ae:Int)(N0:NT)(Q:QT)(h:let z0:=IntKind.wrap .u8 (Int.tmod x0 256);(iB (decide (x4 < 8)) (((256:Int)≠0)/\((0:Int)<=x4/\x4 < ((8:Nat):Int))/\(((256:Int)≠0)/\((InR (x4+1))/\(N0 (Z54 w (IntKind.wrap .u64 (Int.tdiv x0 256)) (x4+1) (Z2w x4 0 z0 ab) (Z2w x4 1 z0 u) (Z2w x4 2 z0 af) (Z2w x4 3 z0 ah) (Z2w x4 4 z0 aa) (Z2w x4 5 z0 s) (Z2w x4 6 z0 ai) (Z2w x4 7 z0 ae)))))) ((Q .ret (L2 [pL 2] [(.loc 2,(zi8 [ab,u,af,ah,aa,s,ai,ae]))]))))):
  ZIx [1,1,0,1,0,0] (Z54 w x0 x4 ab u af ah aa s ai ae) (xT N0 (xB 0 (ZKT [1,1,1] Q))):=
 Eq.mpr V3 h
def ZDp(w:Int):Prop:=AW (Z2 ZoA) Tryz.f186 ZqJ [] (Zf (Zsr.can (w,())) []) (EQ Tryz.f186 (ZnL (w,())) [])
theorem ZBh(hb:∀ (w:Int) (_:Unit),Zg6 (w,())->ZDp w):CT 186 Zai:=
 Z1 (l:=[]) Ze rfl trivial ZqJ Tryz.func186 rfl rfl 1 (fun _=> rfl) V2 (fun ⟨w,_⟩=> hb w ())
def ZqI:Za U:=lvl [([0,1],[]),([0,1,5],[]),([0,1,5,8],[]),([0,1,5],[]),([0,1,5],[]),([4],[])]
def Z84(m i x0 h:Int):LSt U:=(L2 [(0,.c (.int .u8 x0)),pI 1 i,pI 5 h] [])
abbrev ZIw(p:List Nat):=AW (Z2 ZoA) Tryz.f187 ZqI p
abbrev ZKS(p:List Nat):=SW (Z2 ZoA) Tryz.f187 ZqI p
theorem ZJf(m i:Int)(Q:QT)(h:(Zp (ZIw [1,0,1,0,0]) (Z84 m i m 0) (xB 0 (ZKS [1,1] Q)))):
  ZIw [] (L2 [(0,.c (.int .u8 m)),pI 1 i] []) Q:=
 Eq.mpr V3 h
theorem Zv0(m i x0 s:Int)(N0:NT)(Q:QT)(h:(iB (decide (s < i)) (((2:Int)≠0)/\((InR (s+1))/\(N0 (Z84 m i (IntKind.wrap .u8 (Int.tdiv x0 2)) (s+1))))) (((2:Int)≠0)/\(Q .ret (L2 [pB 4 (((Int.tmod x0 2):Int)==1)] []))))):
  ZIw [1,0,1,0,0] (Z84 m i x0 s) (xT N0 (xB 0 (ZKS [1,1] Q))):=
 Eq.mpr V3 h
def ZDo(m i:Int):Prop:=AW (Z2 ZoA) Tryz.f187 ZqI [] (Zf (Zsq.can (m,i,())) []) (EQ Tryz.f187 (Zwg (m,i,())) [])
theorem ZBg(hb:∀ (m:Int) (i:Int) (_:Unit),Zkb (m,i,())->ZDo m i):CT 187 Zah:=
 Z1 (l:=[]) Ze rfl trivial ZqI Tryz.func187 rfl rfl 2 (fun _=> rfl) V2 (fun ⟨m,i,_⟩=> hb m i ())
def ZqH:Za U:=lvl [([0,1],[]),([0,1,5],[]),([0,1,5,6],[]),([0,1,5,6,8],[]),([0,1,5,6],[]),([0,1,5,6],[]),([4],[])]
def Z83(b:List Int)(from_ s h:Int):LSt U:=(L2 [(0,.c (sU .u8 b .unk)),pI 1 from_,(5,.c (.int .u64 s)),pI 6 h] [])
abbrev ZIv(p:List Nat):=AW (Z2 ZoA) Tryz.f188 ZqH p
abbrev ZKR(p:List Nat):=SW (Z2 ZoA) Tryz.f188 ZqH p
theorem ZJe(b:List Int)(from_:Int)(Q:QT)(h:(Zp (ZIv [1,1,0,1,0,0]) (Z83 b from_ 0 7) (xB 0 (ZKR [1,1,1] Q)))):
  ZIv [] (L2 [(0,.c (sU .u8 b .unk)),pI 1 from_] []) Q:=
 Eq.mpr V3 h
theorem ZuZ(b:List Int)(from_ u s:Int)(N0:NT)(Q:QT)(h:(iB (decide ((0:Int)<=s)) ((InR (from_+s))/\((0:Int)<=(from_+s)/\(from_+s) < (b.length:Int))/\((InR (s - 1))/\(N0 (Z83 b from_ (IntKind.wrap .u64 (((IntKind.wrap .u64 (u*256)):Int)+(IntKind.wrap .u64 (List.getD b (Int.toNat (from_+s)) (0:Int))))) (s - 1))))) ((Q .ret (L2 [(4,.c (.int .u64 u))] []))))):
  ZIv [1,1,0,1,0,0] (Z83 b from_ u s) (xT N0 (xB 0 (ZKR [1,1,1] Q))):=
 Eq.mpr V3 h
def ZDn(b:List Int)(from_:Int):Prop:=AW (Z2 ZoA) Tryz.f188 ZqH [] (Zf (Zsp.can (b,from_,())) []) (EQ Tryz.f188 (Zwf (b,from_,())) [])
theorem ZBf(hb:∀ (b:List Int) (h:Int) (_:Unit),Zo2 (b,h,())->ZDn b h):CT 188 Zag:=
 Z1 (l:=[]) Ze rfl trivial ZqH Tryz.func188 rfl rfl 2 (fun _=> rfl) V2 (fun ⟨b,h,_⟩=> hb b h ())
def ZkF:List (FuncId × Fs U):=[(186,Zai),(187,Zah),(188,Zag)]
def ZqM:Za U:=lvl [([0,1,2],[]),([2,7,8],[7,8]),([2,7,8,9],[7,8]),([2,7,8,9,15],[7,8]),([2,7,8,9],[7,8]),([2,7,8,9,20],[7,8]),([2,7,8,9],[7,8]),([6],[])]
def Z3k(a b m x9 u h af s ae ah ab aa:Int):LSt U:=(L2 [(2,.c (.int .u8 m)),pL 7,pL 8,pI 9 x9] [(.loc 7,(zi8 [u,h,af,s,ae,ah,ab,aa])),(.loc 8,(zb8 Zl b))])
abbrev ZIA(p:List Nat):=AW (Z2 ZkF) Tryz.f136 ZqM p
abbrev ZKW(p:List Nat):=SW (Z2 ZkF) Tryz.f136 ZqM p
theorem ZJI(a b m:Int)(Q:QT)(h:((Zg6 (a,()))/\(Zg6 (b,()))/\(Zp (ZIA [1,1,0,1,0,0]) (Z3k a b m 0 (Zl a 0) (Zl a 1) (Zl a 2) (Zl a 3) (Zl a 4) (Zl a 5) (Zl a 6) (Zl a 7)) (xB 0 (ZKW [1,1,1] Q))))):
  ZIA [] (L2 [(0,.c (.int .u64 a)),(1,.c (.int .u64 b)),(2,.c (.int .u8 m))] []) Q:=
 Eq.mpr V3 h
theorem Zv9(a b m x9 aa s ah u af ai ae ab:Int)(N0:NT)(Q:QT)(h:let z0:=List.getD [Zl b 0,Zl b 1,Zl b 2,Zl b 3,Zl b 4,Zl b 5,Zl b 6,Zl b 7] x9.toNat 0;(iB (decide (x9 < 8)) ((Zkb (m,x9,()))/\(iB (Ys m x9) (((0:Int)<=x9/\x9 < ((8:Nat):Int))/\((0:Int)<=x9/\x9 < ((8:Nat):Int))/\((InR (x9+1))/\(N0 (Z3k a b m (x9+1) (Z2w x9 0 z0 aa) (Z2w x9 1 z0 s) (Z2w x9 2 z0 ah) (Z2w x9 3 z0 u) (Z2w x9 4 z0 af) (Z2w x9 5 z0 ai) (Z2w x9 6 z0 ae) (Z2w x9 7 z0 ab))))) ((InR (x9+1))/\(N0 (Z3k a b m (x9+1) aa s ah u af ai ae ab))))) ((Zo2 (([aa,s,ah,u,af,ai,ae,ab]),0,()))/\(Q .ret (L2 [(6,.c (.int .u64 (of8 (fun i=> ([aa,s,ah,u,af,ai,ae,ab]).getD i 0))))] []))))):
  ZIA [1,1,0,1,0,0] (Z3k a b m x9 aa s ah u af ai ae ab) (xT N0 (xB 0 (ZKW [1,1,1] Q))):=
 Eq.mpr V3 h
def ZDR(a b m:Int):Prop:=AW (Z2 ZkF) Tryz.f136 ZqM [] (Zf (ZsI.can (a,b,m,())) []) (EQ Tryz.f136 (Zws (a,b,m,())) [])
theorem ZBE(ZH2:CT 186 Zai)(ZH1:CT 187 Zah)(ZH0:CT 188 Zag)(hb:∀ (a:Int) (b:Int) (m:Int) (_:Unit),Zkf (a,b,m,())->ZDR a b m):CT 136 Zam:=
 Z1 (l:=[(186,Zai),(187,Zah),(188,Zag)]) Ze rfl (⟨ZH2,ZH1,ZH0,trivial⟩) ZqM Tryz.func136 rfl rfl 3 (fun _=> rfl) V2 (fun ⟨a,b,m,_⟩=> hb a b m ())
abbrev A99(p:List Nat):=AW (Z2 ZoA) Tryz.f99 ZGj p
theorem ZL7(t:Tree)(Q:QT)(h:((Tt (t.kind==0))/\(Tt (t.kind==0))/\(Tt (t.kind==0))/\(Tt (t.kind==0))/\(Tt (t.kind==0))/\(Tt (t.kind==0))/\((t.kind==0)=true->InR (((t.words.length:Int):Int)+(t.kids.length:Int)))/\(Tt (t.kind==0))/\(Tt (t.kind==0))/\(Q .ret (L2 [(2,.c (.bool (bif (t.kind==0) then (((((t.words.length:Int):Int)+(t.kids.length:Int)):Int)==0) else false)))] [])))):
  A99 [] (L2 [(0,.agg (enc .tree t))] []) Q:=
 Eq.mpr V3 h
def ZHP(t:Tree):Prop:=AW (Z2 ZoA) Tryz.f99 ZGj [] (Zf (Zzy.can (t,())) []) (EQ Tryz.f99 (ZEg (t,())) [])
theorem ZFz(hb:∀ (t:Tree) (_:Unit),Z6S (t,())->ZHP t):CT 99 Z5q:=
 Z1 (l:=[]) Ze rfl trivial ZGj Tryz.func99 rfl rfl 1 (fun _=> rfl) V2 (fun ⟨t,_⟩=> hb t ())
def ZrR:List (FuncId × Fs U):=[(136,Zam)]
def Zyg:Za U:=lvl [([0,1],[]),([4],[])]
abbrev ZMU(p:List Nat):=AW (Z2 ZrR) Tryz.f100 Zyg p
theorem ZK4(w m:Int)(Q:QT)(h:((Zkf (w,0,m,()))/\(Q .ret (L2 [pB 4 (((mix w 0 m):Int)==0)] [])))):
  ZMU [] (L2 [(0,.c (.int .u64 w)),(1,.c (.int .u8 m))] []) Q:=
 Eq.mpr V3 h
def ZEd(w m:Int):Prop:=AW (Z2 ZrR) Tryz.f100 Zyg [] (Zf (ZsR.can (w,m,())) []) (EQ Tryz.f100 (Zwz (w,m,())) [])
theorem ZBQ(ZHj:CT 136 Zam)(hb:∀ (w:Int) (m:Int) (_:Unit),Zkh (w,m,())->ZEd w m):CT 100 Z7y:=
 Z1 (l:=[(136,Zam)]) Ze rfl (⟨ZHj,trivial⟩) Zyg Tryz.func100 rfl rfl 2 (fun _=> rfl) V2 (fun ⟨w,m,_⟩=> hb w m ())
def ZrJ:List (FuncId × Fs U):=[(99,Z5q)]
abbrev ZMN(p:List Nat):=AW (Z2 ZrJ) Tryz.f137 ZGj p
theorem ZJH(e:Edit)(Q:QT)(h:∀ s,s=(e.new)->∀ u,u=(e.old)->let z2:=bif (e.kind==0) then (YM u) else false;let z0:=bif z2 then (YM s) else false;let z1:=bif z0 then (((((((e.words.length:Int):Int)+(e.kids.length:Int)):Int)+(e.ops.length:Int)):Int)==0) else false;((Tt (e.kind==0))/\(Tt (e.kind==0))/\((e.kind==0)=true->Z6S (u,()))/\(Tt (e.kind==0))/\(Tt z2)/\(Tt z2)/\(z2=true->Z6S (s,()))/\(Tt z2)/\(Tt z0)/\(Tt z0)/\(Tt z0)/\(Tt z0)/\(Tt z0)/\(Tt z0)/\(z0=true->InR (((e.words.length:Int):Int)+(e.kids.length:Int)))/\(Tt z0)/\(Tt z0)/\(Tt z0)/\(Tt z0)/\(z0=true->InR (((((e.words.length:Int):Int)+(e.kids.length:Int)):Int)+(e.ops.length:Int)))/\(Tt z0)/\(Tt z0)/\(Tt z1)/\(Tt z1)/\(Tt z1)/\(Q .ret (L2 [(2,.c (.bool (bif z1 then (e.list==0) else false)))] [])))):
  ZMN [] (L2 [(0,.agg (enc .edit e))] []) Q:=
 Eq.mpr V3 (h _ (Z9 _) _ (Z9 _))
def ZDQ(e:Edit):Prop:=AW (Z2 ZrJ) Tryz.f137 ZGj [] (Zf (ZsH.can (e,())) []) (EQ Tryz.f137 (Zwr (e,())) [])
theorem ZBD(c99:CT 99 Z5q)(hb:∀ (e:Edit) (_:Unit),Z9q (e,())->ZDQ e):CT 137 Z7w:=
 Z1 (l:=[(99,Z5q)]) Ze rfl (⟨c99,trivial⟩) ZGj Tryz.func137 rfl rfl 1 (fun _=> rfl) V2 (fun ⟨e,_⟩=> hb e ())
def ZqS:Za U:=lvl [([1],[1]),([1,4,5],[1]),([1,4,5,6],[1]),([1,4,5,6,13],[1]),([1,4,5,6],[1]),([1,4,5,6,7],[1,7]),([1,4,5,6,7,8],[1,7]),([1,4,5,6,7,8,29],[1,7]),([1,4,5,6,7,8,29],[1,7]),([1,4,5,6,7,8,32],[1,7]),([1,4,5,6,7,8,32],[1,7]),([1,4,5,6,8,38],[1]),([1,4,5,6,8,38],[1]),([1,4,5,6,43],[1]),([1,4,5,6,43],[1]),([1,4,5,6,45],[1]),([1,4,5,6],[1]),([2,3],[])]
def Z1Y(e:Edit)(s u h:Int):LSt U:=(L2 [pL 1,pI 4 s,pI 5 u,pI 6 h] [(.loc 1,(enc .edit e))])
def Z8s(e:Edit)(u x5 s h:Int):LSt U:=(L2 [pL 1,pI 4 u,pI 5 x5,pI 6 s,pL 7,pI 8 h,(29,.c (.bool (((OpOf.kind (e.ops.getD s.toNat Op.nil)):Int)==3)))] [(.loc 1,(enc .edit e)),(.loc 7,(enc .op (e.ops.getD s.toNat Op.nil)))])
def Z8r(e:Edit)(x5 u s h:Int):LSt U:=(L2 [pL 1,pI 4 h,pI 5 x5,pI 6 u,pL 7,pI 8 s,(32,.c (.bool (((OpOf.kind (e.ops.getD u.toNat Op.nil)):Int) !=2)))] [(.loc 1,(enc .edit e)),(.loc 7,(enc .op (e.ops.getD u.toNat Op.nil)))])
def Z8q(e:Edit)(x6 s h u:Int):LSt U:=(L2 [pL 1,pI 4 h,pI 5 u,pI 6 x6,pI 8 s,(38,.c (.bool (((OpOf.kind (e.ops.getD x6.toNat Op.nil)):Int) !=1)))] [(.loc 1,(enc .edit e))])
def Z8p(e:Edit)(x6 s h u:Int):LSt U:=(L2 [pL 1,pI 4 u,pI 5 h,pI 6 x6,pB 43 (decide ((1048576:Int) < s))] [(.loc 1,(enc .edit e))])
abbrev Z5k(p:List Nat):=AW (Z2 ZoA) Tryz.f102 ZqS p
abbrev Z27(p:List Nat):=SW (Z2 ZoA) Tryz.f102 ZqS p
theorem ZK2(e:Edit)(Q:QT)(h:(Zp (Z5k [1,1,0,1,0,0]) (Z1Y e 0 0 0) (xB 0 (Z27 [1,1,1] Q)))):
  Z5k [] (L2 [(0,.agg (enc .edit e))] []) Q:=
 Eq.mpr V3 h
abbrev ZCG(e:Edit)(s u h:Int)(N0:NT)(Q:QT):Prop:=Z5k [1,1,0,1,0,0] (Z1Y e s u h) (xT N0 (xB 0 (Z27 [1,1,1] Q)))
theorem Zvv(e:Edit)(u x5 s:Int)(N0:NT)(Q:QT)(h:let z1:=xB 1 (Z27 [1,1,0,1,0,0,1,1] (xT N0 (xB 0 (Z27 [1,1,1] Q))));let z0:=e.ops.getD s.toNat Op.nil;(iB (decide (s < (e.ops.length:Int))) (((0:Int)<=s/\s < (e.ops.length:Int))/\((InR (((OpOf.n z0):Int)+((OpOf.l z0).length:Int)))/\(iB (((OpOf.kind z0):Int)==3) ((Z5k [1,1,0,1,0,0,1,0,0,1,1,1] (Z8s e u x5 s 1) z1)) (Z5k [1,1,0,1,0,0,1,0,0,1,1,1] (Z8s e u x5 s (((OpOf.n z0):Int)+((OpOf.l z0).length:Int))) z1)))) ((Q .ret (L2 [pI 2 u,pI 3 x5] []))))):
  Z5k [1,1,0,1,0,0] (Z1Y e u x5 s) (xT N0 (xB 0 (Z27 [1,1,1] Q))):=
 Eq.mpr V3 h
abbrev ZCK(e:Edit)(u x5 s h:Int)(N0:NT)(Q:QT):Prop:=Z5k [1,1,0,1,0,0,1,0,0,1,1,1] (Z8s e u x5 s h) (xB 1 (Z27 [1,1,0,1,0,0,1,1] (xT N0 (xB 0 (Z27 [1,1,1] Q)))))
theorem Zvz(e:Edit)(x4 x5 u s:Int)(N0:NT)(Q:QT)(h:let z0:=xB 1 (Z27 [1,1,0,1,0,0,1,1] (xT N0 (xB 0 (Z27 [1,1,1] Q))));(iB (((OpOf.kind (e.ops.getD u.toNat Op.nil)):Int) !=2) ((InR (x4+s))/\(Z5k [1,1,0,1,0,0,1,0,0,1,1,1,1] (Z8r e x5 u s (x4+s)) z0)) (Z5k [1,1,0,1,0,0,1,0,0,1,1,1,1] (Z8r e x5 u s x4) z0))):
  Z5k [1,1,0,1,0,0,1,0,0,1,1,1] (Z8s e x4 x5 u s) (xB 1 (Z27 [1,1,0,1,0,0,1,1] (xT N0 (xB 0 (Z27 [1,1,1] Q))))):=
 Eq.mpr V3 h
abbrev ZCJ(e:Edit)(x5 u s h:Int)(N0:NT)(Q:QT):Prop:=Z5k [1,1,0,1,0,0,1,0,0,1,1,1,1] (Z8r e x5 u s h) (xB 1 (Z27 [1,1,0,1,0,0,1,1] (xT N0 (xB 0 (Z27 [1,1,1] Q)))))
theorem Zvy(e:Edit)(x5 x6 s u:Int)(N0:NT)(Q:QT)(h:let z0:=xB 1 (Z27 [1,1,0,1,0,0,1,1] (xT N0 (xB 0 (Z27 [1,1,1] Q))));(iB (((OpOf.kind (e.ops.getD x6.toNat Op.nil)):Int) !=1) ((InR (x5+s))/\(Z5k [1,1,0,1,0,0,1,0,0,1,1,1,1,1] (Z8q e x6 s u (x5+s)) z0)) (Z5k [1,1,0,1,0,0,1,0,0,1,1,1,1,1] (Z8q e x6 s u x5) z0))):
  Z5k [1,1,0,1,0,0,1,0,0,1,1,1,1] (Z8r e x5 x6 s u) (xB 1 (Z27 [1,1,0,1,0,0,1,1] (xT N0 (xB 0 (Z27 [1,1,1] Q))))):=
 Eq.mpr V3 h
abbrev ZCI(e:Edit)(x6 s h u:Int)(N0:NT)(Q:QT):Prop:=Z5k [1,1,0,1,0,0,1,0,0,1,1,1,1,1] (Z8q e x6 s h u) (xB 1 (Z27 [1,1,0,1,0,0,1,1] (xT N0 (xB 0 (Z27 [1,1,1] Q)))))
theorem Zvx(e:Edit)(x6 aa s u:Int)(N0:NT)(Q:QT)(h:let z0:=xB 1 (Z27 [1,1,0,1,0,0,1,1] (xT N0 (xB 0 (Z27 [1,1,1] Q))));(iB (decide ((1048576:Int) < s)) ((Z5k [1,1,0,1,0,0,1,0,0,1,1,1,1,1,1] (Z8p e x6 s u 1048576) z0)) (Z5k [1,1,0,1,0,0,1,0,0,1,1,1,1,1,1] (Z8p e x6 s u s) z0))):
  Z5k [1,1,0,1,0,0,1,0,0,1,1,1,1,1] (Z8q e x6 aa s u) (xB 1 (Z27 [1,1,0,1,0,0,1,1] (xT N0 (xB 0 (Z27 [1,1,1] Q))))):=
 Eq.mpr V3 h
abbrev ZCH(e:Edit)(x6 s h u:Int)(N0:NT)(Q:QT):Prop:=Z5k [1,1,0,1,0,0,1,0,0,1,1,1,1,1,1] (Z8p e x6 s h u) (xB 1 (Z27 [1,1,0,1,0,0,1,1] (xT N0 (xB 0 (Z27 [1,1,1] Q)))))
theorem Zvw(e:Edit)(x6 ab s u:Int)(N0:NT)(Q:QT)(h:(iB (decide ((1048576:Int) < s)) (((InR (x6+1))/\(N0 (Z1Y e u 1048576 (x6+1))))) ((InR (x6+1))/\(N0 (Z1Y e u s (x6+1)))))):
  Z5k [1,1,0,1,0,0,1,0,0,1,1,1,1,1,1] (Z8p e x6 ab s u) (xB 1 (Z27 [1,1,0,1,0,0,1,1] (xT N0 (xB 0 (Z27 [1,1,1] Q))))):=
 Eq.mpr V3 h
def ZEb(e:Edit):Prop:=AW (Z2 ZoA) Tryz.f102 ZqS [] (Zf (ZsH.can (e,())) []) (EQ Tryz.f102 (ZnP (e,())) [])
theorem ZBP(hb:∀ (e:Edit) (_:Unit),Zgl (e,())->ZEb e):CT 102 Z2P:=
 Z1 (l:=[]) Ze rfl trivial ZqS Tryz.func102 rfl rfl 1 (fun _=> rfl) V2 (fun ⟨e,_⟩=> hb e ())
def Zox(N:Nat):List (FuncId × Fs U):=(91,fs ZoX (fun a=> [ZfX a,Zmh a < N]) ZpX) ::[(80,Z6r)]
def ZBR:Za U:=lvl [([1,2,3],[3]),([1,2,3],[3]),([1,2,3,25],[3]),([6],[]),([1,2,3],[3]),([1,2,3,31],[3]),([1,2,3,31],[3]),([1,2,3,7],[3]),([1,2,3,7,44],[3]),([1,2,3,7],[3]),([1,2,3,7],[3]),([1,2,3,8],[3]),([1,2,3,8,65],[3]),([1,2,3,8],[3]),([1,2,3,8,9],[3]),([1,2,3,8,9,80],[3]),([1,2,3,8,9],[3]),([1,2,3,8,9],[3]),([1,2,3,8,95],[3]),([1,2,3,8],[3]),([6],[])]
def Zbm(e:Edit)(d n h:Int):LSt U:=(L2 [pI 1 d,pI 2 h,pL 3,(31,.c (.bool (decide ((0:Int)<=(ZK (Tree.mk e.old.kind e.old.words e.old.kids) 80 ((((((n:Int) - 1):Int) - (e.words.length:Int)):Int) - (e.ops.length:Int)))))))] [(.loc 3,(enc .edit e))])
def Zbl(e:Edit)(d n s h:Int):LSt U:=(L2 [pI 1 d,pI 2 s,pL 3,pI 7 h] [(.loc 3,(enc .edit e))])
def Z7e(e:Edit)(d n s h:Int):LSt U:=(L2 [pI 1 d,pI 2 s,pL 3,pI 8 h] [(.loc 3,(enc .edit e))])
def Zbk(e:Edit)(d n h u s:Int):LSt U:=(L2 [pI 1 d,pI 2 u,pL 3,pI 8 h,pI 9 s] [(.loc 3,(enc .edit e))])
abbrev A91(N:Nat)(p:List Nat):=AW (Z2 (Zox N)) Tryz.f91 ZBR p
abbrev S91(N:Nat)(p:List Nat):=SW (Z2 (Zox N)) Tryz.f91 ZBR p
theorem ZL8(N:Nat)(e:Edit)(d n:Int)(Q:QT)(h:∀ u,u=(e.new)->∀ aa,aa=(e.old)->∀ s,s=(ZK aa 80 (((((n - 1):Int) - (e.words.length:Int)):Int) - (e.ops.length:Int)))->((InR (n - 1))/\(InR (((n - 1):Int) - (e.words.length:Int)))/\(InR (((((n - 1):Int) - (e.words.length:Int)):Int) - (e.ops.length:Int)))/\((Tt (!(d==0)))/\((d==0)=false->(!(d==0))=true)/\(iB (bif (d==0) then true else (decide (((((((n - 1):Int) - (e.words.length:Int)):Int) - (e.ops.length:Int)):Int) < 0))) ((Q .ret (L2 [pI 6 (-1)] []))) ((ZaH (aa,80,(((((n - 1):Int) - (e.words.length:Int)):Int) - (e.ops.length:Int)),()))/\(iB (decide ((0:Int)<=s)) ((ZaH (u,80,s,()))/\(A91 N [1,1,1,1,1] (Zbm e d n (ZK u 80 s)) Q)) (A91 N [1,1,1,1,1] (Zbm e d n s) Q))))))):
  A91 N [] (L2 [(0,.agg (enc .edit e)),pI 1 d,pI 2 n] []) Q:=
 Eq.mpr V3 (h _ (Z9 _) _ (Z9 _) _ rfl)
abbrev ZHK(N:Nat)(e:Edit)(d n h:Int)(Q:QT):Prop:=A91 N [1,1,1,1,1] (Zbm e d n h) Q
theorem ZA1(N:Nat)(e:Edit)(d n s:Int)(Q:QT)(h:(Zp (A91 N [1,1,1,1,1,0,1,0,0]) (Zbl e d n s 0) (xB 0 (S91 N [1,1,1,1,1,1] Q)))):
  A91 N [1,1,1,1,1] (Zbm e d n s) Q:=
 Eq.mpr V3 h
theorem ZA0(N:Nat)(e:Edit)(d n u s:Int)(N1:NT)(Q:QT)(h:∀ ab,ab=(e.kids.getD s.toNat (KidOf.mk 0 Edit.nil))->∀ aa,aa=(ab.e)->let z0:=decide (s < (e.kids.length:Int));(Tt z0)/\(Tt z0)/\(iB (bif z0 then (decide ((0:Int)<=u)) else false) (((0:Int)<=s/\s < (e.kids.length:Int))/\(InR (d - 1))/\(ZfX (aa,(d - 1),u,()))/\(Zmh (aa,(d - 1),u,()) < N)/\((InR (s+1))/\(N1 (Zbl e d n (Z0D aa (d - 1) u) (s+1))))) ((Zp (A91 N [1,1,1,1,1,1,0,1,0,0]) (Z7e e d n u 0) (xB 2 (S91 N [1,1,1,1,1,1,1] Q)))))):
  A91 N [1,1,1,1,1,0,1,0,0] (Zbl e d n u s) (xT N1 (xB 0 (S91 N [1,1,1,1,1,1] Q))):=
 Eq.mpr V3 (h _ rfl _ (Z7 _))
theorem ZzZ(N:Nat)(e:Edit)(d n s u:Int)(N2:NT)(Q:QT)(h:let z0:=decide (u < (e.ops.length:Int));(Tt z0)/\(Tt z0)/\(iB (bif z0 then (decide ((0:Int)<=s)) else false) ((Zp (A91 N [1,1,1,1,1,1,0,1,0,0,1,0,0,0,1,0,0]) (Zbk e d n u s 0) (xB 4 (S91 N [1,1,1,1,1,1,0,1,0,0,1,0,0,1] (xB 3 (S91 N [1,1,1,1,1,1,0,1,0,0,1,1] (xT N2 (xB 2 (S91 N [1,1,1,1,1,1,1] Q))))))))) ((Q .ret (L2 [pI 6 s] []))))):
  A91 N [1,1,1,1,1,1,0,1,0,0] (Z7e e d n s u) (xT N2 (xB 2 (S91 N [1,1,1,1,1,1,1] Q))):=
 Eq.mpr V3 h
theorem ZzY(N:Nat)(e:Edit)(d n s u aa:Int)(N3 N2:NT)(Q:QT)(h:∀ ab,ab=(e.ops.getD s.toNat Op.nil)->∀ ae,ae=(ab.e)->∀ af,af=(ab.l.getD aa.toNat Tree.nil)->let z0:=decide (aa < (ab.l.length:Int));((0:Int)<=s/\s < (e.ops.length:Int))/\(Tt z0)/\(Tt z0)/\(iB (bif z0 then (decide ((0:Int)<=u)) else false) (((0:Int)<=s/\s < (e.ops.length:Int))/\((0:Int)<=aa/\aa < (ab.l.length:Int))/\(ZaH (af,80,u,()))/\((InR (aa+1))/\(N3 (Zbk e d n s (ZK af 80 u) (aa+1))))) ((iB (decide ((0:Int)<=u)) (((0:Int)<=s/\s < (e.ops.length:Int))/\(InR (d - 1))/\(ZfX (ae,(d - 1),u,()))/\(Zmh (ae,(d - 1),u,()) < N)/\((InR (s+1))/\(N2 (Z7e e d n (Z0D ae (d - 1) u) (s+1))))) ((InR (s+1))/\(N2 (Z7e e d n u (s+1)))))))):
  A91 N [1,1,1,1,1,1,0,1,0,0,1,0,0,0,1,0,0] (Zbk e d n s u aa) (xT N3 (xB 4 (S91 N [1,1,1,1,1,1,0,1,0,0,1,0,0,1] (xB 3 (S91 N [1,1,1,1,1,1,0,1,0,0,1,1] (xT N2 (xB 2 (S91 N [1,1,1,1,1,1,1] Q)))))))):=
 Eq.mpr V3 (h _ rfl _ (Z7 _) _ (Z9 _))
def ZHQ(N:Nat)(e:Edit)(d n:Int):Prop:=AW (Z2 (Zox N)) Tryz.f91 ZBR [] (Zf (ZoX.can (e,d,n,())) []) (EQ Tryz.f91 (ZpX (e,d,n,())) [])
theorem ZFA(c80:CT 80 Z6r)(hb:∀ (N:Nat) (e:Edit) (d:Int) (n:Int) (_:Unit),ZfX (e,d,n,())->Zmh (e,d,n,()) < N+1->ZHQ N e d n):CT 91 Zfg:=
 Jz (μ:=Zmh) (l:=[(80,Z6r)]) Ze rfl (⟨c80,trivial⟩) ZBR Tryz.func91 rfl rfl 3 (fun _=> rfl) V2 (fun N ⟨e,d,n,_⟩=> hb N e d n ())
def ZyG:List (FuncId × Fs U):=[(91,Zfg)]
abbrev A45(p:List Nat):=AW (Z2 ZyG) Tryz.f45 ZGj p
theorem ZLo(e:Edit)(Q:QT)(h:let z0:=Edit.mk e.kind (Tree.mk e.old.kind e.old.words e.old.kids) (Tree.mk e.new.kind e.new.words e.new.kids) e.words e.kids e.list e.ops;((ZfX (z0,80,3000,()))/\(Q .ret (L2 [(2,.c (.bool (decide ((0:Int)<=(Z0D z0 80 3000)))))] [])))):
  A45 [] (L2 [(0,.agg (enc .edit e))] []) Q:=
 Eq.mpr V3 h
def ZI6(e:Edit):Prop:=AW (Z2 ZyG) Tryz.f45 ZGj [] (Zf (ZsH.can (e,())) []) (EQ Tryz.f45 (ZEj (e,())) [])
theorem ZFL(c91:CT 91 Zfg)(hb:∀ (e:Edit) (_:Unit),Zqd (e,())->ZI6 e):CT 45 Z6u:=
 Z1 (l:=[(91,Zfg)]) Ze rfl (⟨c91,trivial⟩) ZGj Tryz.func45 rfl rfl 1 (fun _=> rfl) V2 (fun ⟨e,_⟩=> hb e ())
end
noncomputable section
def ZkZ:ArgL (Edit × Int × Unit):=(.cons (aEl .edit) (.cons (Jj .i64) .nil))
def ZaJ(a:Edit × Int × Unit):Prop:=(Z8 a.1<=20000000000/\ZZ a.1)/\0<=a.2.1/\a.2.1<=1000
def Zko(a:Edit × Int × Unit):Nat:=2*Z8 a.1
def Zq0(a:Edit × Int × Unit):V U:= .c (.bool (Z3 a.1 a.2.1))
def Z6t:Fs U:=fs ZkZ (fun a=> [ZaJ a]) Zq0
def ZeU:ArgL (Int × Op × Int × Unit):=(.cons (Jj .i64) (.cons (aEl .op) (.cons (Jj .i64) .nil)))
def Zch(a:Int × Op × Int × Unit):Prop:=(Zu a.2.1<=20000000000/\YZ a.2.1/\InR a.1)/\0<=a.2.2.1/\a.2.2.1<=1000
def Ziu(a:Int × Op × Int × Unit):Nat:=2*Zu a.2.1+1
def ZjS(a:Int × Op × Int × Unit):V U:= .c (.bool (Zb a.1 a.2.1 a.2.2.1))
def ZpF:Fs U:=fs ZeU (fun a=> [Zch a]) ZjS
def Zdb(a:Edit × Unit):Prop:=(Z8 a.1<=20000000000/\ZZ a.1)/\∃ d,Z3 a.1 d=true
def Zmi(a:Edit × Unit):Nat:=Z8 a.1
def ZvU(a:Edit × Unit):V U:= .c (.bool (Z1V a.1))
def Z6s:Fs U:=fs ZsH (fun a=> [Zdb a]) ZvU
def Zql(a:Edit × Unit):Prop:=Z2x a.1/\ZZ a.1
def ZEn(a:Edit × Unit):V U:= .c (.bool (Z2X a.1))
def Zfs:Fs U:=fs ZsH (fun a=> [Zql a]) ZEn
def ZoD(N:Nat):List (FuncId × Fs U):=(64,fs ZkZ (fun a=> [ZaJ a,Zko a < N]) Zq0) ::(101,fs ZeU (fun a=> [Zch a,Ziu a < N]) ZjS) ::[(99,Z5q),(100,Z7y),(137,Z7w),(31,Zao),(102,Z2P)]
def ZBX:Za U:=lvl [([1,2],[2]),([1,2,24],[2]),([4],[]),([1,2,69],[2]),([4],[]),([1,2,72],[2]),([4],[]),([1,2,5],[2]),([1,2,5,6],[2]),([1,2,5,6,97],[2]),([1,2,5,6],[2]),([1,2,5,6,7],[2,7]),([1,2,6,7,134],[2,7]),([4],[]),([1,2,5,6],[2]),([1,2,5],[2]),([1,2,5,8],[2]),([1,2,5,8,141],[2]),([1,2,5,8],[2]),([1,2,5,8,9],[2,9]),([1,2,8,9,171],[2,9]),([4],[]),([1,2,5,8],[2]),([1,2,186],[2]),([4],[]),([1,2,10],[2]),([1,2,10,191],[2]),([1,2,10],[2]),([1,2,10,204],[2]),([4],[]),([11,12],[]),([4],[])]
def Zby(e:Edit)(d s h:Int):LSt U:=(L2 [pI 1 d,pL 2,pI 5 s,pI 6 h] [(.loc 2,(enc .edit e))])
def Zbx(e:Edit)(d h s:Int):LSt U:=(L2 [pI 1 d,pL 2,pI 5 h,pI 8 s] [(.loc 2,(enc .edit e))])
def Zbw(e:Edit)(d h:Int):LSt U:=(L2 [pI 1 d,pL 2,pI 10 h] [(.loc 2,(enc .edit e))])
abbrev A64(N:Nat)(p:List Nat):=AW (Z2 (ZoD N)) Tryz.f64 ZBX p
abbrev S64(N:Nat)(p:List Nat):=SW (Z2 (ZoD N)) Tryz.f64 ZBX p
theorem ZLn(N:Nat)(e:Edit)(d:Int)(Q:QT)(h:∀ u,u=(e.new)->∀ s,s=(e.old)->let z9:=(Q .ret (L2 [pB 4 false] []));let z7:=(e.kind !=1) && (YM s);let z4:=bif (d==0) then true else (decide (e.kind < 0));let z2:=bif (Zd s 64) then (Zd u 64) else false;let z6:=bif z2 then (e.old.kind !=10) else false;let z1:=bif (e.kind !=1) then (!(bif (YM s) then (YM u) else false)) else false;let z5:=(!z1) && (e.kind !=2);let z0:=bif z1 then true else (bif (e.kind !=2) then (decide ((0:Int) < (((e.words.length:Int):Int)+(e.kids.length:Int)))) else false);let z3:=(!z0) && (e.kind !=3);let z8:=z3 && (!(e.list !=0));((Tt (!(d==0)))/\(Tt (!(d==0)))/\((d==0)=false->(!(d==0))=true)/\(Tt (!z4))/\(Tt (!z4))/\(z4=false->(!z4)=true)/\(iB (bif z4 then true else (decide ((3:Int) < e.kind))) z9 ((Tt (e.kind !=1))/\(Tt (e.kind !=1))/\((e.kind !=1)=true->Z6S (s,()))/\(Tt (e.kind !=1))/\(Tt z7)/\(Tt z7)/\(z7=true->Z6S (u,()))/\((e.kind !=1)=true->(True->(e.kind !=1)=true))/\((e.kind !=1)=true->((YM s)=true->z7=true))/\(Tt (e.kind !=1))/\(Tt (e.kind !=1))/\(Tt (!z1))/\(Tt (!z1))/\(Tt (!z1))/\(Tt z5)/\(Tt z5)/\(Tt z5)/\(Tt z5)/\(Tt z5)/\(Tt z5)/\(z5=true->InR (((e.words.length:Int):Int)+(e.kids.length:Int)))/\(Tt z5)/\((!z1)=true->(True->(!z1)=true))/\((!z1)=true->((e.kind !=2)=true->z5=true))/\(z1=false->(!z1)=true)/\(Tt (!z0))/\(Tt (!z0))/\(Tt (!z0))/\(Tt z3)/\(Tt z3)/\(Tt z3)/\(Tt z8)/\(Tt z8)/\(Tt z8)/\(z3=true->(True->z3=true))/\(z3=true->((e.list !=0)=false->z8=true))/\((!z0)=true->(True->(!z0)=true))/\((!z0)=true->((e.kind !=3)=true->z3=true))/\(z0=false->(!z0)=true)/\(iB (bif z0 then true else (bif (e.kind !=3) then (bif (e.list !=0) then true else (decide ((0:Int) < (e.ops.length:Int)))) else false)) z9 ((iB (e.kind==1) ((Z6V (s,64,()))/\(Tt (Zd s 64))/\(Tt (Zd s 64))/\((Zd s 64)=true->Z6V (u,64,()))/\(Tt (Zd s 64))/\(Tt z2)/\(Tt z2)/\(Tt z2)/\(Tt z2)/\(Tt z6)/\(Tt z6)/\(Tt z6)/\(Tt z6)/\(Q .ret (L2 [(4,.c (.bool (bif z6 then (e.new.kind !=10) else false)))] []))) ((Zp (A64 N [1,1,1,1,1,0,1,0,0]) (Zby e d (-1) 0) (xB 0 (S64 N [1,1,1,1,1,1] Q))))))))))):
  A64 N [] (L2 [(0,.agg (enc .edit e)),pI 1 d] []) Q:=
 Eq.mpr V3 (h _ (Z9 _) _ (Z9 _))
theorem ZAd(N:Nat)(e:Edit)(d x5 u:Int)(N0:NT)(Q:QT)(h:∀ s,s=(e.words.getD u.toNat (WEdit.mk 0 0 0 0))->let z3:=decide (s.at_<=x5);let z2:=bif z3 then true else (decide ((65534:Int) < s.at_));let z0:=bif z2 then true else (s.mask==0);let z1:=bif z0 then true else (!(ZG s.old s.mask));(iB (decide (u < (e.words.length:Int))) (((0:Int)<=u/\u < (e.words.length:Int))/\((Tt (!z3))/\(Tt (!z3))/\(z3=false->(!z3)=true)/\(Tt (!z2))/\(Tt (!z2))/\(z2=false->(!z2)=true)/\(Tt (!z0))/\(Tt (!z0))/\(Tt (!z0))/\(Tt (!z0))/\((!z0)=true->Zkh (s.old,s.mask,()))/\(Tt (!z0))/\(z0=false->(!z0)=true)/\(Tt (!z1))/\(Tt (!z1))/\(Tt (!z1))/\(Tt (!z1))/\((!z1)=true->Zkh (s.new,s.mask,()))/\(Tt (!z1))/\(z1=false->(!z1)=true)/\(iB (bif z1 then true else (!(ZG s.new s.mask))) ((Q .ret (L2 [pB 4 false] []))) (((InR (u+1))/\(N0 (Zby e d s.at_ (u+1)))))))) ((Zp (A64 N [1,1,1,1,1,1,1,0,1,0,0]) (Zbx e d (-1) 0) (xB 2 (S64 N [1,1,1,1,1,1,1,1] Q)))))):
  A64 N [1,1,1,1,1,0,1,0,0] (Zby e d x5 u) (xT N0 (xB 0 (S64 N [1,1,1,1,1,1] Q))):=
 Eq.mpr V3 (h _ rfl)
theorem ZAc(N:Nat)(e:Edit)(d ab s:Int)(N1:NT)(Q:QT)(h:∀ u,u=(e.kids.getD s.toNat (KidOf.mk 0 Edit.nil))->∀ aa,aa=(u.e)->let z5:=(Q .ret (L2 [pB 4 false] []));let z4:=decide (e.list < 2);let z3:=(e.kind==3) && (!z4);let z2:=decide (u.at_<=ab);let z0:=bif z2 then true else (decide ((65534:Int) < u.at_));let z1:=bif z0 then true else (u.e.kind==0);(iB (decide (s < (e.kids.length:Int))) (((0:Int)<=s/\s < (e.kids.length:Int))/\((Tt (!z2))/\(Tt (!z2))/\(z2=false->(!z2)=true)/\(Tt (!z0))/\(Tt (!z0))/\(Tt (!z0))/\(z0=false->(!z0)=true)/\(Tt (!z1))/\(Tt (!z1))/\((!z1)=true->InR (d - 1))/\(Tt (!z1))/\(Tt (!z1))/\((!z1)=true->ZaJ (aa,(d - 1),()))/\((!z1)=true->Zko (aa,(d - 1),()) < N)/\(Tt (!z1))/\(z1=false->(!z1)=true)/\(iB (bif z1 then true else (!(Z3 aa (d - 1)))) z5 (((InR (s+1))/\(N1 (Zbx e d u.at_ (s+1)))))))) ((Tt (e.kind==3))/\(Tt (e.kind==3))/\(Tt (e.kind==3))/\(Tt z3)/\(Tt z3)/\((e.kind==3)=true->(True->(e.kind==3)=true))/\((e.kind==3)=true->(z4=false->z3=true))/\(Tt (e.kind==3))/\(iB (bif (e.kind==3) then (bif z4 then true else (decide ((9:Int) < e.list))) else false) z5 ((Zp (A64 N [1,1,1,1,1,1,1,1,1,0,1,0,0]) (Zbw e d 0) (xB 4 (S64 N [1,1,1,1,1,1,1,1,1,1] Q)))))))):
  A64 N [1,1,1,1,1,1,1,0,1,0,0] (Zbx e d ab s) (xT N1 (xB 2 (S64 N [1,1,1,1,1,1,1,1] Q))):=
 Eq.mpr V3 (h _ rfl _ (Z7 _))
theorem ZAb(N:Nat)(e:Edit)(d s:Int)(N2:NT)(Q:QT)(h:∀ u,u=e->∀ ab,ab=(e.ops.getD s.toNat Op.nil)->∀ aa,aa=ab->let z0:=decide (((Z1C u.ops 0):Int) < 1048576);(iB (decide (s < (e.ops.length:Int))) (((0:Int)<=s/\s < (e.ops.length:Int))/\(InR (d - 1))/\(Zch (e.list,aa,(d - 1),()))/\(Ziu (e.list,aa,(d - 1),()) < N)/\(iB (!(Zb e.list aa (d - 1))) ((Q .ret (L2 [pB 4 false] []))) ((InR (s+1))/\(N2 (Zbw e d (s+1)))))) ((Zgl (u,()))/\((Tt z0)/\(Tt z0)/\(Q .ret (L2 [(4,.c (.bool (bif z0 then (decide (((Z1B u.ops 0):Int) < 1048576)) else false)))] [])))))):
  A64 N [1,1,1,1,1,1,1,1,1,0,1,0,0] (Zbw e d s) (xT N2 (xB 4 (S64 N [1,1,1,1,1,1,1,1,1,1] Q))):=
 Eq.mpr V3 (h _ (Z7 _) _ rfl _ (YB _))
def ZI5(N:Nat)(e:Edit)(d:Int):Prop:=AW (Z2 (ZoD N)) Tryz.f64 ZBX [] (Zf (ZkZ.can (e,d,())) []) (EQ Tryz.f64 (Zq0 (e,d,())) [])
abbrev ZL3:Prop:=∀ (N:Nat) (e:Edit) (d:Int) (_:Unit),ZaJ (e,d,())->Zko (e,d,()) < N+1->ZI5 N e d
def ZqT:Za U:=lvl [([0,2,4],[4]),([0,2,4,10],[4]),([6],[]),([0,2,4,42],[4]),([6],[]),([0,2,4,45],[4]),([0,4,7],[4]),([0,4,7,50],[4]),([0,4,7],[4]),([0,4,7,62],[4]),([6],[]),([6],[]),([0,4,92],[4]),([6],[]),([6],[])]
def Z8t(list:Int)(o:Op)(d h:Int):LSt U:=(L2 [pI 0 list,pL 4,pI 7 h] [(.loc 4,(enc .op o))])
abbrev ZID(N:Nat)(p:List Nat):=AW (Z2 (ZoD N)) Tryz.f101 ZqT p
abbrev ZCN(N:Nat)(p:List Nat):=SW (Z2 (ZoD N)) Tryz.f101 ZqT p
theorem ZK3(N:Nat)(list:Int)(o:Op)(d:Int)(Q:QT)(h:∀ s,s=(o.e)->let z10:=(Q .ret (L2 [pB 6 false] []));let z9:=decide ((1:Int)<=o.n);let z6:=bif (o.n !=0) then true else (decide (o.kind < 0));let z4:=decide ((0:Int) < (o.l.length:Int));let z7:=bif z4 then true else (o.e.kind==0);let z3:=bif (o.e.kind==1) then (o.e.old.kind==1) else false;let z2:=bif z9 then (decide (o.n<=1048576)) else false;let z5:=bif z2 then (((o.l.length:Int):Int)==0) else false;let z1:=bif z7 then true else (decide (list<=7));let z0:=bif (list==8) then true else (o.e.kind==2);let z8:=(!z0) && (o.e.kind==1);(iB (o.kind==0) ((Tt z9)/\(Tt z9)/\(Tt z9)/\(Tt z2)/\(Tt z2)/\(Tt z2)/\(Tt z2)/\(Tt z5)/\(Tt z5)/\(z5=true->Z9q (s,()))/\(Tt z5)/\(Q .ret (L2 [(6,.c (.bool (bif z5 then (Z1M s) else false)))] []))) ((Tt (!(o.n !=0)))/\(Tt (!(o.n !=0)))/\((o.n !=0)=false->(!(o.n !=0))=true)/\(Tt (!z6))/\(Tt (!z6))/\(z6=false->(!z6)=true)/\(iB (bif z6 then true else (decide ((3:Int) < o.kind))) z10 ((iB (decide (o.kind < 3)) ((Zp (ZID N [1,1,1,0,1,0,0,1,0,0]) (Z8t list o d 0) (xB 0 (ZCN N [1,1,1,0,1,0,1] (ZCN N [1,1,1,1] Q))))) ((Tt (!z4))/\(Tt (!z4))/\(Tt (!z4))/\(z4=false->(!z4)=true)/\(Tt (!z7))/\(z7=false->(!z7)=true)/\(Tt (!z1))/\(Tt (!z1))/\(Tt (!z1))/\((!z1)=true->ZaJ (s,d,()))/\((!z1)=true->Zko (s,d,()) < N)/\(Tt (!z1))/\(z1=false->(!z1)=true)/\(iB (bif z1 then true else (!(Z3 s d))) z10 ((Tt (!(list==8)))/\(Tt (!(list==8)))/\(Tt (!(list==8)))/\((list==8)=false->(!(list==8))=true)/\(Tt (!z0))/\(Tt (!z0))/\(Tt (!z0))/\(Tt (!z0))/\(Tt z8)/\(Tt z8)/\(Tt z8)/\(Tt z8)/\((!z0)=true->(True->(!z0)=true))/\((!z0)=true->((o.e.kind==1)=true->z8=true))/\(Tt (!z0))/\(Tt ((!z0) && z3))/\(Tt ((!z0) && z3))/\(Tt ((!z0) && z3))/\(Tt ((!z0) && z3))/\((!z0)=true->(True->(!z0)=true))/\((!z0)=true->(z3=true->((!z0) && z3)=true))/\(z0=false->(!z0)=true)/\(Q .ret (L2 [(6,.c (.bool (bif z0 then true else (bif z3 then (o.e.new.kind==1) else false))))] []))))))))))):
  ZID N [] (L2 [pI 0 list,(1,.agg (enc .op o)),pI 2 d] []) Q:=
 Eq.mpr V3 (h _ (Z7 _))
theorem ZvA(N:Nat)(list:Int)(o:Op)(d s:Int)(N0:NT)(Q:QT)(h:let z2:=Tree.mk list [] (List.drop s.toNat (List.take (Int.toNat (s+1)) o.l));let z1:=Edit.mk o.e.kind (Tree.mk o.e.old.kind o.e.old.words o.e.old.kids) (Tree.mk o.e.new.kind o.e.new.words o.e.new.kids) o.e.words o.e.kids o.e.list o.e.ops;let z0:=decide ((0:Int) < (o.l.length:Int));(iB (decide (s < (o.l.length:Int))) ((InR (s+1))/\((0:Int)<=s/\s<=(s+1)/\(s+1)<=(o.l.length:Int))/\(Z6V (z2,64,()))/\(iB (!(Zd z2 64)) ((Q .ret (L2 [pB 6 false] []))) ((InR (s+1))/\(N0 (Z8t list o d (s+1)))))) ((Tt z0)/\(Tt z0)/\(z0=true->Z9q (z1,()))/\(Tt z0)/\(Q .ret (L2 [(6,.c (.bool (bif z0 then (Z1M z1) else false)))] []))))):
  ZID N [1,1,1,0,1,0,0,1,0,0] (Z8t list o d s) (xT N0 (xB 0 (ZCN N [1,1,1,0,1,0,1] (ZCN N [1,1,1,1] Q)))):=
 Eq.mpr V3 h
def ZEc(N:Nat)(list:Int)(o:Op)(d:Int):Prop:=AW (Z2 (ZoD N)) Tryz.f101 ZqT [] (Zf (ZeU.can (list,o,d,())) []) (EQ Tryz.f101 (ZjS (list,o,d,())) [])
abbrev ZF4:Prop:=∀ (N:Nat) (list:Int) (o:Op) (d:Int) (_:Unit),Zch (list,o,d,())->Ziu (list,o,d,()) < N+1->ZEc N list o d
def ZoC(N:Nat):List (FuncId × Fs U):=(65,fs ZsH (fun a=> [Zdb a,Zmi a < N]) ZvU) ::[(102,Z2P)]
def ZBW:Za U:=lvl [([1],[1]),([1,3,4],[1]),([1,17],[1]),([2],[]),([1,5],[1]),([1,5,22],[1]),([1,5],[1]),([1,5,32],[1]),([2],[]),([1,6],[1]),([1,6,37],[1]),([1,6],[1]),([1,6,47],[1]),([2],[]),([2],[])]
def Zbv(e:Edit)(h:Int):LSt U:=(L2 [pL 1,pI 5 h] [(.loc 1,(enc .edit e))])
def Zbu(e:Edit)(h:Int):LSt U:=(L2 [pL 1,pI 6 h] [(.loc 1,(enc .edit e))])
abbrev A65(N:Nat)(p:List Nat):=AW (Z2 (ZoC N)) Tryz.f65 ZBW p
abbrev S65(N:Nat)(p:List Nat):=SW (Z2 (ZoC N)) Tryz.f65 ZBW p
theorem ZLm(N:Nat)(e:Edit)(Q:QT)(h:∀ s,s=e->let z0:=decide ((2000:Int) < (Z1C s.ops 0));((Zgl (s,()))/\((Tt (!z0))/\(z0=false->(!z0)=true)/\(iB (bif z0 then true else (decide ((2000:Int) < (Z1B s.ops 0)))) ((Q .ret (L2 [pB 2 false] []))) ((Zp (A65 N [1,1,1,0,1,0,0]) (Zbv e 0) (xB 0 (S65 N [1,1,1,1] Q)))))))):
  A65 N [] (L2 [(0,.agg (enc .edit e))] []) Q:=
 Eq.mpr V3 (h _ (Z7 _))
theorem ZAa(N:Nat)(e:Edit)(u:Int)(N0:NT)(Q:QT)(h:∀ aa,aa=(e.kids.getD u.toNat (KidOf.mk 0 Edit.nil))->∀ s,s=(aa.e)->(iB (decide (u < (e.kids.length:Int))) (((0:Int)<=u/\u < (e.kids.length:Int))/\(Zdb (s,()))/\(Zmi (s,()) < N)/\(iB (!(Z1V s)) ((Q .ret (L2 [pB 2 false] []))) ((InR (u+1))/\(N0 (Zbv e (u+1)))))) ((Zp (A65 N [1,1,1,1,0,1,0,0]) (Zbu e 0) (xB 2 (S65 N [1,1,1,1,1] Q)))))):
  A65 N [1,1,1,0,1,0,0] (Zbv e u) (xT N0 (xB 0 (S65 N [1,1,1,1] Q))):=
 Eq.mpr V3 (h _ rfl _ (Z7 _))
theorem ZA9(N:Nat)(e:Edit)(s:Int)(N1:NT)(Q:QT)(h:∀ aa,aa=(e.ops.getD s.toNat Op.nil)->∀ u,u=(aa.e)->(iB (decide (s < (e.ops.length:Int))) (((0:Int)<=s/\s < (e.ops.length:Int))/\(Zdb (u,()))/\(Zmi (u,()) < N)/\(iB (!(Z1V u)) ((Q .ret (L2 [pB 2 false] []))) ((InR (s+1))/\(N1 (Zbu e (s+1)))))) ((Q .ret (L2 [pB 2 true] []))))):
  A65 N [1,1,1,1,0,1,0,0] (Zbu e s) (xT N1 (xB 2 (S65 N [1,1,1,1,1] Q))):=
 Eq.mpr V3 (h _ rfl _ (Z7 _))
def ZI4(N:Nat)(e:Edit):Prop:=AW (Z2 (ZoC N)) Tryz.f65 ZBW [] (Zf (ZsH.can (e,())) []) (EQ Tryz.f65 (ZvU (e,())) [])
theorem ZFK(Zuv:CT 102 Z2P)(hb:∀ (N:Nat) (e:Edit) (_:Unit),Zdb (e,())->Zmi (e,()) < N+1->ZI4 N e):CT 65 Z6s:=
 Jz (μ:=Zmi) (l:=[(102,Z2P)]) Ze rfl (⟨Zuv,trivial⟩) ZBW Tryz.func65 rfl rfl 1 (fun _=> rfl) V2 (fun N ⟨e,_⟩=> hb N e ())
def ZyS:List (FuncId × Fs U):=[(45,Z6u),(64,Z6t),(65,Z6s)]
abbrev A14(p:List Nat):=AW (Z2 ZyS) Tryz.f14 ZGj p
theorem ZLE(e:Edit)(Q:QT)(h:∀ s,s=e->let z1:=decide (0<=Z0D s 80 3000);let z0:=bif z1 then (Z3 s 64) else false;((Zqd (s,()))/\(Tt z1)/\(z1=true->ZaJ (s,64,()))/\(Tt z1)/\(Tt z0)/\(z0=true->Zdb (s,()))/\(Tt z0)/\(Q .ret (L2 [(2,.c (.bool (bif z0 then (Z1V s) else false)))] [])))):
  A14 [] (L2 [(0,.agg (enc .edit e))] []) Q:=
 Eq.mpr V3 (h _ (Z7 _))
def ZIm(e:Edit):Prop:=AW (Z2 ZyS) Tryz.f14 ZGj [] (Zf (ZsH.can (e,())) []) (EQ Tryz.f14 (ZEn (e,())) [])
theorem ZG1(c45:CT 45 Z6u)(c64:CT 64 Z6t)(c65:CT 65 Z6s)(hb:∀ (e:Edit) (_:Unit),Zql (e,())->ZIm e):CT 14 Zfs:=
 Z1 (l:=[(45,Z6u),(64,Z6t),(65,Z6s)]) Ze rfl (⟨c45,c64,c65,trivial⟩) ZGj Tryz.func14 rfl rfl 1 (fun _=> rfl) V2 (fun ⟨e,_⟩=> hb e ())
theorem ZtT(c99:CT 99 Z5q)(ZHt:CT 100 Z7y)(ZHi:CT 137 Z7w)(c31:CT 31 Zao)(Zuv:CT 102 Z2P)(ha:ZL3)(hb:ZF4):CT 64 Z6t/\CT 101 ZpF:=
 Z4z (μA:=Zko) (μB:=Ziu) (l:=[(99,Z5q),(100,Z7y),(137,Z7w),(31,Zao),(102,Z2P)]) Ze rfl (⟨c99,ZHt,ZHi,c31,Zuv,trivial⟩) ZBX ZqT Tryz.func64 Tryz.func101 rfl rfl rfl rfl 2 3 (fun _=> rfl) (fun _=> rfl) V2 V2 (fun N ⟨e,d,_⟩=> ha N e d ()) (fun N ⟨list,o,d,_⟩=> hb N list o d ())
end
theorem Z6m{n:Int}(h0:0<=n)(h1:n < 18446744073709551616):IntKind.wrap .u64 n=n:=by
 simp [IntKind.wrap,IntKind.signed,IntKind.bits];omega
theorem Z5m{n:Int}(h0:0<=n)(h1:n < 256):IntKind.wrap .u8 n=n:=by
 simp [IntKind.wrap,IntKind.signed,IntKind.bits];omega
theorem ZsU{i:Int}{j:Nat}{v:Int}{F G:Nat->Int}(hi:0<=i)(hv:v=F i.toNat):Z2w i j v (if (j:Int) < i then F j else G j)=if (j:Int) < i+1 then F j else G j:=by
 unfold Z2w
 grind
theorem Z1J(w:Int)(i:Nat):0<=Zl w i/\Zl w i < 256:=by
 unfold Zl
 omega
theorem Z7l{w:Int}(h:0<=w)(i:Nat):0<=w / 256 ^ i:=Kr h (XQ (XZ JX))
theorem Zhd{w:Int}(h:0<=w)(i:Nat):w / 256 ^ i<=w:=Kq _ h
theorem ZkS(w:Int)(i:Nat):w / 256 ^ i / 256=w / 256 ^ (i+1):=by
 rw [Int.ediv_ediv_of_nonneg (XQ (XZ JX)),Int.pow_succ]
theorem ZH2:Contract Tryz.prog cfg 186 Zai:=by
 refine ZBh ?_
 intro w _ h
 simp only [Zg6] at h
 refine ZJg _ _ ?_;(try simp only [iB,vcT,forall_eq])
 refine Zc (ι:=Int) (fun i=> Z54 w (w / 256 ^ i.toNat) i (if ((0:Nat):Int) < i then Zl w 0 else 0) (if ((1:Nat):Int) < i then Zl w 1 else 0) (if ((2:Nat):Int) < i then Zl w 2 else 0) (if ((3:Nat):Int) < i then Zl w 3 else 0)
  (if ((4:Nat):Int) < i then Zl w 4 else 0) (if ((5:Nat):Int) < i then Zl w 5 else 0) (if ((6:Nat):Int) < i then Zl w 6 else 0) (if ((7:Nat):Int) < i then Zl w 7 else 0)) (fun i=> 0<=i/\i<=8) (fun i=> (8 - i).toNat) 0 ?_ ⟨JX,JX⟩ ?_
 .simp [Z54]
 .rintro i ⟨u,h2⟩
  refine Zv1 _ _ _ _ _ _ _ _ _ _ _ _ _ ?_;(try simp only [iB,vcT,forall_eq])
  (simp only [iB,vcS]);(try simp only [iB,vcT])
  refine ⟨fun hc=> ⟨JX,⟨u,JX⟩,JX,V1,i+1,?_,⟨JX,JX⟩,JX⟩,fun hc=> ?_⟩
  .have s:=Z7l h.1 i.toNat
   have hl:=Zhd h.1 i.toNat
   have e1:IntKind.wrap .u64 (Int.tdiv (w / 256 ^ i.toNat) 256)=w / 256 ^ (i+1).toNat:=by
    rw [XL s,ZkS,show i.toNat+1=(i+1).toNat by omega]
    exact Z6m (Z7l h.1 _) (Int.lt_of_le_of_lt (Zhd h.1 _) h.2)
   have e2:IntKind.wrap .u8 (Int.tmod (w / 256 ^ i.toNat) 256)=Zl w i.toNat:=by
    rw [Int.tmod_eq_emod_of_nonneg s]
    exact Z5m (Z1J w _).1 (Z1J w _).2
   rw [e1]
   have st:∀ j:Nat,Z2w i j (IntKind.wrap .u8 (Int.tmod (w / 256 ^ i.toNat) 256)) (if (j:Int) < i then Zl w j else 0)=if (j:Int) < i+1 then Zl w j else 0:=fun j=> ZsU (F:=Zl w) (G:=fun _=> 0) u e2
   grind
  .have:i=8:=JX
   subst this
   simp only [ZnL]
   exact ⟨⟨rfl,⟨⟨rfl,rfl⟩,⟨rfl,rfl⟩,⟨rfl,rfl⟩,⟨rfl,rfl⟩,⟨rfl,rfl⟩,⟨rfl,rfl⟩,⟨rfl,rfl⟩,⟨rfl,rfl⟩,trivial⟩,trivial⟩,trivial⟩
theorem ZH1:Contract Tryz.prog cfg 187 Zah:=by
 refine ZBg ?_
 intro m i _ h
 simp only [Zkb] at h
 refine ZJf _ _ _ ?_;(try simp only [iB,vcT,forall_eq])
 refine Zc (ι:=Int) (fun k=> Z84 m i (m / 2 ^ k.toNat) k) (fun k=> 0<=k/\k<=i) (fun k=> (i - k).toNat) 0 ?_ ⟨JX,JX⟩ ?_
 .simp
 .rintro k ⟨u,h2⟩
  refine Zv0 _ _ _ _ _ _ ?_;(try simp only [iB,vcT,forall_eq])
  have s:0<=m / 2 ^ k.toNat:=Kr h.1.1 (XQ (XZ JX))
  have hl:m / 2 ^ k.toNat<=m:=Kq _ h.1.1
  (simp only [iB,vcS])
  refine ⟨fun hc=> ⟨JX,V1,k+1,?_,⟨JX,JX⟩,JX⟩,fun hc=> ⟨JX,Z5 rfl ?_⟩⟩
  .have e:IntKind.wrap .u8 (Int.tdiv (m / 2 ^ k.toNat) 2)=m / 2 ^ (k+1).toNat:=by
    rw [XL s,Int.ediv_ediv_of_nonneg (XQ (XZ JX)),show (2:Int) ^ k.toNat*2=2 ^ (k+1).toNat by rw [<-Int.pow_succ];congr 1;omega]
    refine Z5m (Kr h.1.1 (XQ (XZ JX))) (Int.lt_of_le_of_lt (Kq _ h.1.1) h.1.2)
   rw [e]
  .have:k=i:=JX
   subst this
   rw [Int.tmod_eq_emod_of_nonneg s]
   try rfl
def ZdP(f:Nat->Int):Nat->Int
 | 0=> 0
 | k+1=> f (7 - k)+256*ZdP f k
theorem Zf5{f:Nat->Int}(h:∀ i,0<=f i/\f i < 256):∀ k,0<=ZdP f k/\ZdP f k < 256 ^ k
 | 0=> by simp [ZdP]
 | k+1=> by
  have:=Zf5 h k
  have s:=h (7 - k)
  simp only [ZdP,Int.pow_succ]
  omega
theorem ZFf(f:Nat->Int):ZdP f 8=of8 f:=by simp [ZdP,of8]
theorem ZH0:Contract Tryz.prog cfg 188 Zag:=by
 refine ZBf ?_
 intro b z _ u
 obtain ⟨rfl,hl,s⟩:=u
 dsimp only at hl s
 refine ZJe _ _ _ ?_;(try simp only [iB,vcT,forall_eq])
 have hf:∀ i,0<=b.getD i 0/\b.getD i 0 < 256:=by
  intro i
  by_cases hi:i < b.length
  .simp_all
  .grind
 refine Zc (ι:=Int) (fun i=> Z83 b 0 (ZdP (fun i=> b.getD i 0) (7 - i).toNat) i) (fun i=> -1<=i/\i<=7) (fun i=> (i+1).toNat) 7 rfl ⟨JX,JX⟩ ?_
 rintro i ⟨h1,h2⟩
 refine ZuZ _ _ _ _ _ _ ?_;(try simp only [iB,vcT,forall_eq])
 (simp only [iB,vcS]);(try simp only [iB,vcT])
 have hr:=Zf5 (f:=fun i=> b.getD i 0) hf (7 - i).toNat
 refine ⟨fun hc=> ⟨V1,JX,V1,i - 1,?_,⟨JX,JX⟩,JX⟩,fun hc=> Jb rfl ?_⟩
 .have aa:(256:Int) ^ (7 - i).toNat<=256 ^ 7:=by
   have:(256:Int) ^ (7 - i).toNat=((256 ^ (7 - i).toNat:Nat):Int):=by simp
   rw [this]
   have h7:(256:Nat) ^ (7 - i).toNat<=256 ^ 7:=Nat.pow_le_pow_right JX JX
   have:((256:Nat) ^ 7:Nat)=72057594037927936:=V2
   omega
  have e7:(256:Int) ^ 7=72057594037927936:=V2
  have h:=hf i.toNat
  have e:ZdP (fun i=> b.getD i 0) (7 - (i - 1)).toNat=b.getD i.toNat 0+256*ZdP (fun i=> b.getD i 0) (7 - i).toNat:=by
   rw [show (7 - (i - 1)).toNat=(7 - i).toNat+1 by omega]
   simp only [ZdP]
   grind
  rw [e,show (0+i).toNat=i.toNat by omega,Z6m (n:=ZdP (fun i=> b.getD i 0) (7 - i).toNat*256) JX JX,Z6m (n:=b.getD i.toNat 0) JX JX,Z6m JX JX]
  grind
 .have:i= -1:=JX
  subst this
  exact ZFf _
theorem ZKx(f:Nat->Int){i:Nat}(h:i < 8):List.getD [f 0,f 1,f 2,f 3,f 4,f 5,f 6,f 7] i 0=f i:=by
 match i,h with
 | 0,_=> rfl
 | 1,_=> rfl
 | 2,_=> rfl
 | 3,_=> rfl
 | 4,_=> rfl
 | 5,_=> rfl
 | 6,_=> rfl
 | 7,_=> rfl
theorem Z74(a b m:Int)(i:Nat):0<=Jf a b m i/\Jf a b m i < 256:=by
 unfold Jf
 split
 .exact Z1J _ _
 .exact Z1J _ _
theorem ZHj:Contract Tryz.prog cfg 136 Zam:=by
 refine ZBE ZH2 ZH1 ZH0 ?_
 intro a b m _ s
 simp only [Zkf] at s
 refine ZJI _ _ _ _ ?_;(try simp only [iB,vcT,forall_eq])
 refine ⟨s.1,s.2.1,?_⟩
 refine Zc (ι:=Int) (fun i=> Z3k a b m i (if ((0:Nat):Int) < i then Jf a b m 0 else Zl a 0) (if ((1:Nat):Int) < i then Jf a b m 1 else Zl a 1) (if ((2:Nat):Int) < i then Jf a b m 2 else Zl a 2) (if ((3:Nat):Int) < i then Jf a b m 3 else Zl a 3)
  (if ((4:Nat):Int) < i then Jf a b m 4 else Zl a 4) (if ((5:Nat):Int) < i then Jf a b m 5 else Zl a 5) (if ((6:Nat):Int) < i then Jf a b m 6 else Zl a 6) (if ((7:Nat):Int) < i then Jf a b m 7 else Zl a 7)) (fun i=> 0<=i/\i<=8) (fun i=> (8 - i).toNat) 0 ?_ ⟨JX,JX⟩ ?_
 .simp [Z3k]
 .rintro i ⟨h,h2⟩
  refine Zv9 _ _ _ _ _ _ _ _ _ _ _ _ _ _ ?_;(try simp only [iB,vcT,forall_eq])
  (simp only [iB,vcS]);(try simp only [iB,vcT])
  refine ⟨fun hc=> ⟨⟨s.2.2,h,JX⟩,fun u=> ⟨⟨h,JX⟩,⟨h,JX⟩,V1,i+1,?_,⟨JX,JX⟩,JX⟩,fun u=> ⟨V1,i+1,?_,⟨JX,JX⟩,JX⟩⟩,fun hc=> ?_⟩
  .rw [ZKx (Zl b) JX]
   have hv:Zl b i.toNat=Jf a b m i.toNat:=by
    unfold Jf
    rw [show ((i.toNat:Nat):Int)=i by omega,u]
    try rfl
   have st:∀ j:Nat,Z2w i j (Zl b i.toNat) (if (j:Int) < i then Jf a b m j else Zl a j)=if (j:Int) < i+1 then Jf a b m j else Zl a j:=fun j=> ZsU (F:=Jf a b m) (G:=Zl a) h hv
   grind
  .have hv:Jf a b m i.toNat=Zl a i.toNat:=by
    unfold Jf
    rw [show ((i.toNat:Nat):Int)=i by omega,u]
    try rfl
   grind
  .have:i=8:=JX
   subst this
   refine ⟨⟨rfl,rfl,?_⟩,Jb rfl ?_⟩
   .intro x hx
    simp at hx
    rcases hx with rfl | rfl | rfl | rfl | rfl | rfl | rfl | rfl <;> exact Z74 _ _ _ _
   .try rfl
theorem Zue{α:Type}{l:List α}{i:Nat}(h:i < l.length)(d:α):l.drop i=l.getD i d ::l.drop (i+1):=by
 simp_all
theorem YE{α:Type}{l:List α}{i:Int}(h0:0<=i)(h:i < l.length)(d:α):l.drop i.toNat=l.getD i.toNat d ::l.drop (i+1).toNat:=by
 rw [Zue JX d,show i.toNat+1=(i+1).toNat by omega]
theorem Zk{α:Type}{l:List α}{i:Nat}(h:i < l.length)(d:α):l.getD i d∈l:=by
 grind
theorem Jp(t:Tree):1<=Zo t:=by cases t;simp only [Zo];omega
theorem Z3f(e:Edit):1<=Z8 e:=by cases e;simp only [Z8];omega
theorem Z7O(k:Kid):YO k=Z8 k.e:=by cases k;rfl
theorem Y5(o:Op):Zu o=Zg o.l+Z8 o.e:=by cases o;rfl
theorem J2:∀ {ks:List Tree} {t:Tree},t∈ks->Zo t<=Zg ks
 | x ::r,t,h=> by
  simp only [Zg]
  rcases Qa.1 h with rfl | h
  .omega
  .have:=J2 h;omega
theorem Z0n:∀ {ks:List Kid} {k:Kid},k∈ks->Z8 k.e<=Zx ks
 | x ::r,k,h=> by
  simp only [Zx,Z7O]
  rcases Qa.1 h with rfl | h
  .omega
  .have:=Z0n h;omega
theorem YJ:∀ {os:List Op} {o:Op},o∈os->Zu o<=Zt os
 | x ::r,o,h=> by
  simp only [Zt]
  rcases Qa.1 h with rfl | h
  .omega
  .have:=YJ h;omega
theorem Yb:∀ (ks:List Kid),ks.length<=Zx ks
 | []=> by simp [Zx]
 | k ::r=> by
  have:=Yb r
  have:=Z3f k.e
  simp only [Zx,Z7O,Qm]
  omega
theorem Yo:∀ (os:List Op),os.length<=Zt os
 | []=> by simp [Zt]
 | o ::r=> by
  have:=Yo r
  have:=Z3f o.e
  simp only [Zt,Y5,Qm]
  omega
theorem Zfu:∀ {ks:List Tree} {t:Tree},Z3p ks->t∈ks->Z3q t
 | x ::r,t,hs,h=> by
  simp only [Z3p] at hs
  rcases Qa.1 h with rfl | h
  .exact hs.1
  .exact Zfu hs.2 h
theorem ZcZ:∀ {ks:List Kid} {k:Kid},Z5z ks->k∈ks->Z2x k.e
 | x ::r,k,hs,h=> by
  simp only [Z5z] at hs
  rcases Qa.1 h with rfl | h
  .have:=hs.1;obtain ⟨a,e⟩:=k;exact this
  .exact ZcZ hs.2 h
theorem ZcY:∀ {os:List Op} {o:Op},Z5y os->o∈os->o.l.length<=17592186044416/\Z3p o.l/\Z2x o.e
 | x ::r,o,hs,h=> by
  simp only [Z5y] at hs
  rcases Qa.1 h with rfl | h
  .have:=hs.1;obtain ⟨a,b,c,e⟩:=o;exact this
  .exact ZcY hs.2 h
theorem YC:∀ {ks:List Tree} {t:Tree},Yx ks->t∈ks->rng t
 | x ::r,t,hs,h=> by
  simp only [Yx] at hs
  rcases Qa.1 h with rfl | h
  .exact hs.1
  .exact YC hs.2 h
theorem Y6:∀ {ks:List Kid} {k:Kid},Z0P ks->k∈ks->InR k.at_/\ZZ k.e
 | x ::r,k,hs,h=> by
  simp only [Z0P] at hs
  rcases Qa.1 h with rfl | h
  .have:=hs.1;obtain ⟨a,e⟩:=k;exact this
  .exact Y6 hs.2 h
theorem Z0z:∀ {os:List Op} {o:Op},Z0j os->o∈os->YZ o
 | x ::r,o,hs,h=> by
  simp only [Z0j] at hs
  rcases Qa.1 h with rfl | h
  .exact hs.1
  .exact Z0z hs.2 h
theorem Jr{o:Op}(h:YZ o):InR o.kind/\InR o.n/\Yx o.l/\ZZ o.e:=by obtain ⟨a,b,c,e⟩:=o;exact h
theorem ZtY(k:Kid)(d n:Int):Z4g k d n=Z0D k.e d n:=by cases k;rfl
theorem Zyp(o:Op)(d n:Int):Z7b o d n=if ZD o.l 80 n < 0 then ZD o.l 80 n else Z0D o.e d (ZD o.l 80 n):=by cases o;rfl
theorem Zc3(t:Tree)(n:Int)(h: -1<=n): -1<=sh1 t n/\sh1 t n<=n:=by
 unfold sh1
 split
 .omega
 .have:=Je t 80 n;omega
mutual
theorem Z2t:∀ (e:Edit) (d n:Int),-1<=Z0D e d n/\Z0D e d n<=max n (-1)
 | .mk _ o nw w ks _ os,d,n=> by
  simp only [Z0D]
  split
  .omega
  .have u:=Je o 80 (n - 1 - w.length - os.length)
   have s:=Zc3 nw _ u.1
   have h:=Z2U ks (d - 1) _ s.1
   have h4:=Z2T os (d - 1) _ h.1
   omega
theorem Z2U:∀ (ks:List (KidOf Edit)) (d n:Int),-1<=n->-1<=Z0p ks d n/\Z0p ks d n<=n
 | [],d,n,h=> by simp only [Z0p];omega
 | k ::r,d,n,h=> by
  simp only [Z0p]
  split
  .omega
  .have s:=Z8T k d n
   have u:=Z2U r d _ s.1
   omega
theorem Z8T:∀ (k:KidOf Edit) (d n:Int),-1<=Z4g k d n/\Z4g k d n<=max n (-1)
 | ⟨_,e⟩,d,n=> by
  simp only [Z4g]
  exact Z2t e d n
theorem Z2T:∀ (os:List (OpOf Edit)) (d n:Int),-1<=n->-1<=Z0J os d n/\Z0J os d n<=n
 | [],d,n,h=> by simp only [Z0J];omega
 | o ::r,d,n,h=> by
  simp only [Z0J]
  split
  .omega
  .have s:=Zbe o d n h
   have u:=Z2T r d _ s.1
   omega
theorem Zbe:∀ (o:OpOf Edit) (d n:Int),-1<=n->-1<=Z7b o d n/\Z7b o d n<=n
 | ⟨_,_,l,e⟩,d,n,h=> by
  simp only [Z7b]
  have u:=Z1u l 80 n h
  split
  .omega
  .have s:=Z2t e d (ZD l 80 n)
   omega
end
theorem ZvN{t:Tree}{n:Int}(h:0<=sh1 t n):(Zo t:Int)+sh1 t n<=n:=by
 unfold sh1 at*
 split at h
 .omega
 .rename_i s
  rw [if_neg s]
  exact Z0x t 80 n h
mutual
theorem Z9E:∀ (e:Edit) (d n:Int),0<=Z0D e d n->(Z8 e:Int)+Z0D e d n<=n
 | .mk _ o nw w ks _ os,d,n,h=> by
  simp only [Z0D] at h ⊢
  split at h
  .omega
  .rename_i hc
   rw [if_neg hc]
   have r1:=Je o 80 (n - 1 - w.length - os.length)
   have u:=Zc3 nw _ r1.1
   have s:=Z2U ks (d - 1) _ u.1
   have r4:=Z2T os (d - 1) _ s.1
   have m4:=Zdw os (d - 1) _ h
   have m3:=Zdx ks (d - 1) (sh1 nw (ZK o 80 (n - 1 - w.length - os.length))) JX
   have m2:=ZvN (t:=nw) (n:=ZK o 80 (n - 1 - w.length - os.length)) JX
   have m1:=Z0x o 80 (n - 1 - w.length - os.length) JX
   simp only [Z8]
   omega
theorem Zdx:∀ (ks:List (KidOf Edit)) (d n:Int),0<=Z0p ks d n->(Zx ks:Int)+Z0p ks d n<=n
 | [],d,n,h=> by simp only [Z0p,Zx];omega
 | k ::r,d,n,h=> by
  simp only [Z0p] at h ⊢
  split at h
  .omega
  .rename_i hc
   rw [if_neg hc]
   have s:=Z8T k d n
   have u:=Z2U r d _ s.1
   have m2:=Zdx r d _ h
   have m1:=Zkr k d n JX
   simp only [Zx]
   omega
theorem Zkr:∀ (k:KidOf Edit) (d n:Int),0<=Z4g k d n->(YO k:Int)+Z4g k d n<=n
 | ⟨_,e⟩,d,n,h=> by
  simp only [Z4g,YO] at h ⊢
  exact Z9E e d n h
theorem Zdw:∀ (os:List (OpOf Edit)) (d n:Int),0<=Z0J os d n->(Zt os:Int)+Z0J os d n<=n
 | [],d,n,h=> by simp only [Z0J,Zt];omega
 | o ::r,d,n,h=> by
  simp only [Z0J] at h ⊢
  split at h
  .omega
  .rename_i hc
   rw [if_neg hc]
   have s:=Zbe o d n JX
   have u:=Z2T r d _ s.1
   have m2:=Zdw r d _ h
   have m1:=Zmz o d n JX
   simp only [Zt]
   omega
theorem Zmz:∀ (o:OpOf Edit) (d n:Int),0<=Z7b o d n->(Zu o:Int)+Z7b o d n<=n
 | ⟨_,_,l,e⟩,d,n,h=> by
  simp only [Z7b,Zu] at h ⊢
  split at h
  .omega
  .rename_i hc
   rw [if_neg hc]
   have s:=Z9E e d _ h
   have u:=Z2t e d (ZD l 80 n)
   have m1:=Z4l l 80 n JX
   omega
end
theorem Z57{e:Edit}(h:0<=Z0D e 80 3000):Z8 e<=3000:=by
 have:=Z9E e 80 3000 h
 omega
theorem Zmw(t:Tree):t.words.length+t.kids.length < Zo t:=by
 obtain ⟨k,w,ks⟩:=t
 have:=Zy ks
 simp only [Zo,Tree.words_mk,Tree.kids_mk]
 omega
theorem YK(e:Edit):Zo e.old+Zo e.new+e.words.length+e.ops.length+Zx e.kids+Zt e.ops < Z8 e:=by
 obtain ⟨k,o,n,w,ks,l,os⟩:=e
 simp only [Z8,Edit.old_mk,Edit.new_mk,Edit.words_mk,Edit.ops_mk,Edit.kids_mk]
 omega
theorem c99:Contract Tryz.prog cfg 99 Z5q:=by
 refine ZFz ?_
 intro t _ h
 simp only [Z6S] at h
 have:=Zmw t
 refine ZL7 t _ ?_;(try simp only [iB,vcT,forall_eq])
 refine ⟨fun _=> by unfold InR;omega,Z5 rfl ?_⟩
 rw [Qs]
 simp only [YM]
 grind
theorem ZHt:Contract Tryz.prog cfg 100 Z7y:=by
 refine ZBQ ZHj ?_
 intro w m _ h
 refine ZK4 _ _ _ ?_;(try simp only [iB,vcT,forall_eq])
 refine ⟨⟨h.1,by grind,h.2⟩,Z5 rfl ?_⟩
 try rfl
theorem ZHi:Contract Tryz.prog cfg 137 Z7w:=by
 refine ZBD c99 ?_
 intro e _ h
 simp only [Z9q] at h
 have u:=YK e
 have s:=Yb e.kids
 refine ZJH e _ ?_;(try simp only [iB,vcT,forall_eq])
 try (simp only [vE])
 refine ⟨fun _=> by simp only [Z6S];omega,fun _=> by simp only [Z6S];omega,fun _=> by unfold InR;omega,fun _=> by unfold InR;omega,Z5 rfl ?_⟩
 rw [Qs]
 simp only [Z1M]
 grind
theorem ZGp (e:Edit) (x4 x5 i:Int) (N0:LSt U->Prop) (Q:AExit->LSt U->Prop) (h1:0<=x4/\x4<=1048576) (h2:0<=x5/\x5<=1048576) (hi:0<=i) (hlen:e.ops.length<=20000000000)
  (ho:∀ o∈e.ops,(0<=o.n/\o.n<=1048576)/\o.l.length<=20000000000)
  (h:i < e.ops.length->N0 (Z1Y e (min (if (e.ops.getD i.toNat Op.nil).kind=2 then x4 else x4+Z4 (e.ops.getD i.toNat Op.nil)) 1048576) (min (if (e.ops.getD i.toNat Op.nil).kind=1 then x5 else x5+Z4 (e.ops.getD i.toNat Op.nil)) 1048576) (i+1)))
  (h':¬i < e.ops.length->Q .ret (⟨[(2,.c (.int .i64 x4)),(3,.c (.int .i64 x5))],[],[]⟩:LSt U)):ZCG e x4 x5 i N0 Q:=by
 refine Zvv _ _ _ _ _ _ ?_;(try simp only [iB,vcT,forall_eq])
 (simp only [iB,vcS]);(try simp only [iB,vcT])
 refine ⟨fun hc=> ?_,h'⟩
 have hn:=h hc
 have hm:=ho _ (Zk (l:=e.ops) (i:=i.toNat) JX Op.nil)
 have k1:∀ k,k=Z4 (e.ops.getD i.toNat Op.nil)->ZCK e x4 x5 i k N0 Q:=by
  intro k hk
  have aq:0<=k/\k<=60000000000:=by
   rw [hk];unfold Z4;split <;> omega
  have k2:∀ y,y=(if (e.ops.getD i.toNat Op.nil).kind=2 then x4 else x4+k)->ZCJ e x5 i k y N0 Q:=by
   intro y hy
   have am:0<=y/\y<=100000000000:=by rw [hy];split <;> omega
   have k3:∀ z,z=(if (e.ops.getD i.toNat Op.nil).kind=1 then x5 else x5+k)->ZCI e i k y z N0 Q:=by
    intro z hz
    have ao:0<=z/\z<=100000000000:=by rw [hz];split <;> omega
    have k4:∀ u,u=min y 1048576->ZCH e i y z u N0 Q:=by
     intro u hu
     refine Zvw _ _ _ _ _ _ _ ?_;(try simp only [iB,vcT,forall_eq])
     (simp only [iB,vcS]);(try simp only [iB,vcT])
     rw [<-hk,<-hy,<-hz,<-hu] at hn
     refine ⟨fun s=> ⟨V1,?_⟩,fun s=> ⟨V1,?_⟩⟩
     .rw [show min z 1048576=1048576 by omega] at hn;exact hn
     .rw [show min z 1048576=z by omega] at hn;exact hn
    refine Zvx _ _ _ _ _ _ _ ?_;(try simp only [iB,vcT,forall_eq])
    (simp only [iB,vcS]);(try simp only [iB,vcT])
    exact ⟨fun s=> k4 _ JX,fun s=> k4 _ JX⟩
   refine Zvy _ _ _ _ _ _ _ ?_;(try simp only [iB,vcT,forall_eq])
   (simp only [iB,vcS]);(try simp only [iB,vcT])
   exact ⟨fun s=> ⟨V1,k3 _ (by rw [if_neg s])⟩,fun s=> k3 _ (by rw [if_pos s])⟩
  refine Zvz _ _ _ _ _ _ _ ?_;(try simp only [iB,vcT,forall_eq])
  (simp only [iB,vcS]);(try simp only [iB,vcT])
  exact ⟨fun s=> ⟨V1,k2 _ (by rw [if_neg s])⟩,fun s=> k2 _ (by rw [if_pos s])⟩
 exact ⟨⟨hi,hc⟩,V1,fun s=> k1 _ (by unfold Z4;rw [if_pos s]),fun s=> k1 _ (by unfold Z4;rw [if_neg s])⟩
theorem Zuv:Contract Tryz.prog cfg 102 Z2P:=by
 refine ZBP ?_
 intro e _ hp
 simp only [Zgl] at hp
 have h1:=YK e
 refine ZK2 e _ ?_;(try simp only [iB,vcT,forall_eq])
 refine Zc (ι:=Int × Int × Int) (fun p=> Z1Y e p.1 p.2.1 p.2.2) (fun p=> 0<=p.2.2/\p.2.2<=e.ops.length/\(0<=p.1/\p.1<=1048576)/\(0<=p.2.1/\p.2.1<=1048576)/\Z1C (e.ops.drop p.2.2.toNat) p.1=Z1C e.ops 0/\Z1B (e.ops.drop p.2.2.toNat) p.2.1=Z1B e.ops 0) (fun p=> ((e.ops.length:Int) - p.2.2).toNat) (0,0,0) rfl ⟨by grind,by grind,JX,by grind,by simp,by simp⟩ ?_
 rintro ⟨x4,x5,i⟩ ⟨h2,h3,h4,h5,h,s⟩
 dsimp only at*
 have ho:∀ o∈e.ops,(0<=o.n/\o.n<=1048576)/\o.l.length<=20000000000:=by
  intro o u
  refine ⟨hp.2 o u,?_⟩
  have a1:=YJ u
  have a2:=Zy o.l
  rw [Y5] at a1
  omega
 refine ZGp e x4 x5 i _ _ h4 h5 h2 JX ho (fun hc=> ⟨(_,_,i+1),rfl,⟨by grind,by grind,?_,?_,?_,?_⟩,by grind⟩) (fun hc=> ?_)
 .have u:=ho _ (Zk (l:=e.ops) (i:=i.toNat) JX Op.nil)
  dsimp only
  unfold Z4
  omega
 .have u:=ho _ (Zk (l:=e.ops) (i:=i.toNat) JX Op.nil)
  dsimp only
  unfold Z4
  omega
 .rw [YE h2 hc Op.nil] at h
  exact h
 .rw [YE h2 hc Op.nil] at s
  exact s
 .rw [Qc JX] at h s
  simp only [Z1C,Z1B] at h s
  simp only [ZnP,<-h,<-s]
  exact ⟨⟨rfl,⟨⟨rfl,rfl⟩,trivial⟩,rfl,⟨⟨rfl,rfl⟩,trivial⟩,trivial⟩,trivial⟩
theorem Zov{l:List Kid}{d n:Int}(h:n < 0):Z0p l d n=n:=by cases l <;> simp [Z0p,h]
theorem Zou{l:List Op}{d n:Int}(h:n < 0):Z0J l d n=n:=by cases l <;> simp [Z0J,h]
theorem Zjn{l:List Tree}{d n:Int}(h:n < 0):ZD l d n=n:=by cases l <;> simp [ZD,h]
theorem Ztb{e:Edit}(h:Z2x e):Z3q e.old/\Z3q e.new/\e.words.length<=17592186044416/\e.kids.length<=17592186044416/\e.ops.length<=17592186044416/\Z5z e.kids/\Z5y e.ops:=by
 obtain ⟨k,o,n,w,ks,l,os⟩:=e;exact h
theorem Zyq(e:Edit)(d n:Int):Z0D e d n=if d=0\/n - 1 - e.words.length - e.ops.length < 0 then -1 else Z0J e.ops (d - 1) (Z0p e.kids (d - 1) (sh1 e.new (ZK e.old 80 (n - 1 - e.words.length - e.ops.length)))):=by
 obtain ⟨k,o,h,w,ks,l,os⟩:=e;rfl
theorem c91:Contract Tryz.prog cfg 91 Zfg:=by
 refine ZFA c80 ?_
 rintro N e d n _ hp hN
 simp only [ZfX,Zmh] at hp hN
 obtain ⟨hs,a8,bb,bh,a5⟩:=hp
 obtain ⟨so,sn,lw,lk,lo,sk,ao⟩:=Ztb hs
 have bf:=YK e
 have aa:=Zyq e d n
 refine ZL8 N e d n _ ?_;(try simp only [iB,vcT,forall_eq])
 (simp only [iB,vcS]);(try simp only [iB,vcT])
 try (simp only [vE])
 refine ⟨V1,V1,V1,fun hc=> Jb rfl (by rw [aa,if_pos hc]),fun hc=> ?_⟩
 rw [J3] at aa
 have r1:=Je e.old 80 (n - 1 - e.words.length - e.ops.length)
 have ae:∀ t m,Z3q t->-1<=m->m<=4611686018427387904->ZaH (t,80,m,()):=fun t m h1 h2 h3=> ⟨h1,V4,V4,h2,h3⟩
 have k0:∀ x,x=sh1 e.new (ZK e.old 80 (n - 1 - e.words.length - e.ops.length))->ZHK N e d n x (Y7 cfg Tryz.f91.ntmps Tryz.f91.results.toList (ZpX (e,d,n,())) []):=by
  intro x hx
  have rx:=Zc3 e.new _ r1.1
  rw [<-hx] at rx aa
  refine ZA1 N e d n x _ ?_;(try simp only [iB,vcT,forall_eq])
  refine Zc (ι:=Int × Int) (fun p=> Zbl e d n p.1 p.2) (fun p=> 0<=p.2/\p.2<=e.kids.length/\-1<=p.1/\p.1<=4611686018427387904/\Z0p (e.kids.drop p.2.toNat) (d - 1) p.1=Z0p e.kids (d - 1) x) (fun p=> ((e.kids.length:Int) - p.2).toNat) (x,0) rfl ⟨V4,V4,V4,V4,by simp⟩ ?_
  rintro ⟨y,i⟩ ⟨h1,h2,h3,h4,h5⟩
  dsimp only at*
  refine ZA0 N e d n y i _ _ ?_;(try simp only [iB,vcT,forall_eq])
  (simp only [iB,vcS]);(try simp only [iB,vcT])
  try (simp only [vE])
  refine ⟨fun hi=> ?_,fun hi=> ?_⟩
  .have s:=Zk (l:=e.kids) (i:=i.toNat) JX (KidOf.mk 0 Edit.nil)
   have ab:=ZcZ sk s
   have af:=Z0n s
   rw [YE h1 hi.1 (KidOf.mk 0 Edit.nil)] at h5
   simp only [Z0p] at h5
   rw [J3,ZtY] at h5
   have rr:=Z2t (e.kids.getD i.toNat (KidOf.mk 0 Edit.nil)).e (d - 1) y
   exact ⟨⟨h1,hi.1⟩,V1,⟨ab,V4,V4,h3,h4⟩,by simp only [Zmh];omega,V1,(_,i+1),rfl,⟨V4,V4,V4,V4,h5⟩,V4⟩
  .have hy:Z0p e.kids (d - 1) x=y:=by
    rw [<-h5]
    by_cases hlt:i < e.kids.length
    .exact Zov JX
    .rw [Qc JX];try rfl
   rw [hy] at aa
   refine Zc (ι:=Int × Int) (fun p=> Z7e e d n p.1 p.2) (fun p=> 0<=p.2/\p.2<=e.ops.length/\-1<=p.1/\p.1<=4611686018427387904/\Z0J (e.ops.drop p.2.toNat) (d - 1) p.1=Z0J e.ops (d - 1) y) (fun p=> ((e.ops.length:Int) - p.2).toNat) (y,0) rfl ⟨V4,V4,h3,h4,by simp⟩ ?_
   rintro ⟨z,j⟩ ⟨h6,h7,h8,h9,h⟩
   dsimp only at*
   refine ZzZ N e d n z j _ _ ?_;(try simp only [iB,vcT,forall_eq])
   (simp only [iB,vcS]);(try simp only [iB,vcT])
   refine ⟨fun hj=> ?_,fun hj=> ?_⟩
   .have s:=Zk (l:=e.ops) (i:=j.toNat) JX Op.nil
    have ab:=ZcY ao s
    have af:=YJ s
    rw [Y5] at af
    rw [YE h6 hj.1 Op.nil] at h
    simp only [Z0J] at h
    rw [J3,Zyp] at h
    refine Zc (ι:=Int × Int) (fun p=> Zbk e d n j p.1 p.2) (fun p=> 0<=p.2/\p.2<=(e.ops.getD j.toNat Op.nil).l.length/\-1<=p.1/\p.1<=4611686018427387904/\ZD ((e.ops.getD j.toNat Op.nil).l.drop p.2.toNat) 80 p.1=ZD (e.ops.getD j.toNat Op.nil).l 80 z) (fun p=> (((e.ops.getD j.toNat Op.nil).l.length:Int) - p.2).toNat) (z,0) rfl ⟨V4,V4,h8,h9,by simp⟩ ?_
    rintro ⟨u,k⟩ ⟨g1,g2,g3,g4,g5⟩
    dsimp only at*
    refine ZzY N e d n j u k _ _ _ ?_;(try simp only [iB,vcT,forall_eq])
    (simp only [iB,vcS]);(try simp only [iB,vcT])
    try (simp only [vE])
    refine ⟨⟨h6,hj.1⟩,fun hk=> ?_,fun hk=> ?_⟩
    .have av:=Zk (l:=(e.ops.getD j.toNat Op.nil).l) (i:=k.toNat) JX Tree.nil
     rw [YE g1 hk.1 Tree.nil] at g5
     simp only [ZD] at g5
     rw [J3] at g5
     have rr:=Je ((e.ops.getD j.toNat Op.nil).l.getD k.toNat Tree.nil) 80 u
     exact ⟨⟨h6,hj.1⟩,⟨g1,hk.1⟩,ae _ _ (Zfu ab.2.1 av) g3 g4,V1,(_,k+1),rfl,⟨V4,V4,V4,V4,g5⟩,V4⟩
    .have hu:ZD (e.ops.getD j.toNat Op.nil).l 80 z=u:=by
      rw [<-g5]
      by_cases hlt:k < (e.ops.getD j.toNat Op.nil).l.length
      .exact Zjn JX
      .rw [Qc JX];try rfl
     rw [hu] at h
     have rr:=Z2t (e.ops.getD j.toNat Op.nil).e (d - 1) u
     refine ⟨fun hq=> ⟨⟨h6,hj.1⟩,V1,⟨ab.2.2,V4,V4,g3,g4⟩,by simp only [Zmh];omega,V1,(_,j+1),rfl,⟨V4,V4,V4,V4,?_⟩,V4⟩,
      fun hq=> ⟨V1,(_,j+1),rfl,⟨V4,V4,V4,V4,?_⟩,V4⟩⟩
     .rw [J3] at h;exact h
     .rw [Jq] at h;exact h
   .refine Jb rfl ?_
    rw [aa,<-h]
    by_cases hlt:j < e.ops.length
    .exact (Zou JX).symm
    .rw [Qc JX];try rfl
 refine ⟨ae _ _ so JX JX,fun hq=> ⟨ae _ _ sn r1.1 JX,k0 _ ?_⟩,fun hq=> k0 _ ?_⟩
 .unfold sh1;rw [J3]
 .unfold sh1;rw [Jq]
theorem c45:Contract Tryz.prog cfg 45 Z6u:=by
 refine ZFL c91 ?_
 intro e _ h
 refine ZLo e _ ?_;(try simp only [iB,vcT,forall_eq])
 try (simp only [vE])
 exact ⟨⟨h,by grind,by grind,by grind,by grind⟩,Z5 rfl rfl⟩
theorem Z4M(e:Edit)(d:Int):Z3 e d=
  if d=0\/e.kind < 0\/3 < e.kind then false
  else if (e.kind≠1/\¬(YM e.old=true/\YM e.new=true))\/(e.kind≠2/\¬(e.words.length=0/\e.kids.length=0))\/(e.kind≠3/\(e.list≠0\/e.ops.length≠0)) then false
  else if e.kind=1 then Zd e.old (dT d) && Zd e.new (dT d) && decide (e.old.kind≠10/\e.new.kind≠10)
  else ZL (-1) e.words && Zw (-1) e.kids (d - 1) && decide (¬(e.kind=3/\(e.list < 2\/9 < e.list))) && Zz e.list e.ops (d - 1) && decide (Z1C e.ops 0 < 1048576/\Z1B e.ops 0 < 1048576):=by
 obtain ⟨k,o,h,w,ks,l,os⟩:=e;rfl
theorem Z4b(last:Int)(k:Kid)(d:Int):Jl last k d=(decide (last < k.at_/\k.at_<=65534/\k.e.kind≠0) && Z3 k.e d):=by cases k;rfl
theorem JW(list:Int)(o:Op)(d:Int):Zb list o d=
  if o.kind=0 then decide (1<=o.n/\o.n<=1048576/\o.l.length=0) && Z1M o.e
  else if o.n≠0\/o.kind < 0\/3 < o.kind then false
  else if o.kind < 3 then YF (dT d) list o.l && decide (0 < o.l.length) && Z1M o.e
  else decide (o.l.length=0/\o.e.kind≠0/\7 < list) && Z3 o.e d && decide (list=8\/o.e.kind=2\/o.e.kind=1/\o.e.old.kind=1/\o.e.new.kind=1):=by
 cases o;rfl
theorem Z7B{list:Int}{o:Op}{d:Int}(h:Zb list o d=true):0<=o.n/\o.n<=1048576:=by
 rw [JW] at h
 grind
theorem rightOs_mem{list d:Int}:∀ {os:List Op} {o:Op},Zz list os d=true->o∈os->Zb list o d=true
 | x ::r,o,h,hm=> by
  simp only [Zz,Q6] at h
  rcases Qa.1 hm with rfl | hm
  .exact h.1
  .exact rightOs_mem h.2 hm
theorem Zd7{d:Int}:∀ {ks:List Kid} {last:Int} {k:Kid},Zw last ks d=true->k∈ks->Z3 k.e d=true/\k.e.kind≠0
 | x ::r,last,k,h,hm=> by
  simp only [Zw,Q6] at h
  rcases Qa.1 hm with rfl | hm
  .have:=h.1;rw [Z4b] at this;grind
  .exact Zd7 h.2 hm
theorem Z5E{e:Edit}(h:ZZ e):InR e.kind/\rng e.old/\rng e.new/\(∀ x∈e.words,Z0O x)/\InR e.list/\Z0P e.kids/\Z0j e.ops:=by
 obtain ⟨k,o,n,w,ks,l,os⟩:=e;exact h
theorem b64:ZL3:=by
 intro N e d _ hp hN
 simp only [ZaJ,Zko] at hp hN
 obtain ⟨⟨hm,hr⟩,a0,bb⟩:=hp
 obtain ⟨ik,ro,rn,ay,il,rk,aw⟩:=Z5E hr
 have bc:=YK e
 have a4:=Yb e.kids
 have ba:=Yo e.ops
 have s:=Z4M e d
 rw [ZrX a0] at s
 refine ZLn N e d _ ?_;(try simp only [iB,vcT,forall_eq])
 (simp only [iB,vcS]);(try simp only [iB,vcT]);(try simp only [vcU])
 try (simp only [vE])
 refine ⟨fun hc=> Z5 rfl (by rw [s,Jq]),fun hc=> ?_⟩
 rw [J3] at s
 refine ⟨fun _=> by simp only [Z6S];omega,fun _=> by simp only [Z6S];omega,fun _=> by unfold InR;omega,fun hf=> Z5 rfl ?_,fun hf=> ⟨fun h1=> ⟨⟨V4,ro,V4,V4⟩,fun _=> ⟨V4,rn,V4,V4⟩,Z5 rfl ?_⟩,fun h1=> ?_⟩⟩
 .rw [s,if_pos]
  rcases hf with (hf | hf) | hf
  .left
   refine ⟨hf.1,fun h=> ?_⟩
   rcases hf.2 with h2 | h2
   .rw [h.1] at h2;cases h2
   .rw [h.2] at h2;cases h2
  .right;left;omega
  .right;right;omega
 .rw [s,if_neg,if_pos h1,Qs]
  ·(simp only [iB,vcS])
   constructor
   .rintro ⟨⟨⟨h2,h3⟩,h4⟩,h5⟩;exact ⟨⟨h2,h3⟩,h4,h5⟩
   .rintro ⟨⟨h2,h3⟩,h4,h5⟩;exact ⟨⟨⟨h2,h3⟩,h4⟩,h5⟩
  .intro h
   rcases h with h | h | h
   .exact h.1 h1
   .omega
   .omega
 .rw [if_neg,if_neg h1] at s
  .refine Zc (ι:=Int × Int) (fun p=> Zby e d p.1 p.2) (fun p=> 0<=p.2/\p.2<=e.words.length/\ZL p.1 (e.words.drop p.2.toNat)=ZL (-1) e.words) (fun p=> ((e.words.length:Int) - p.2).toNat) (-1,0) rfl ⟨V4,V4,by simp⟩ ?_
   rintro ⟨af,i⟩ ⟨h2,h3,h4⟩
   dsimp only at*
   refine ZAd N e d af i _ _ ?_;(try simp only [iB,vcT,forall_eq])
   (simp only [iB,vcS]);(try simp only [iB,vcT]);(try simp only [vcU])
   try (simp only [vE])
   refine ⟨fun hi=> ?_,fun hi=> ?_⟩
   .have u:=Zk (l:=e.words) (i:=i.toNat) JX (WEdit.mk 0 0 0 0)
    have aj:=ay _ u
    rw [YE h2 hi (WEdit.mk 0 0 0 0)] at h4
    simp only [ZL] at h4
    generalize e.words.getD i.toNat (WEdit.mk 0 0 0 0)=w at*
    obtain ⟨_,ar,az,a1⟩:=aj
    refine ⟨⟨h2,hi⟩,fun _=> ⟨az,ar⟩,fun _=> ⟨a1,ar⟩,fun hq=> Z5 rfl ?_,fun hq=> ⟨V1,(_,i+1),rfl,⟨V4,V4,?_⟩,V4⟩⟩
    .rw [s,<-h4]
     rcases hq with (hq | hq) | hq
     .rw [decide_eq_false JX];try rfl
     .rw [hq];simp
     .rw [hq];simp
    .dsimp only
     rw [<-h4,decide_eq_true JX,hq.1.2,hq.2];try rfl
   .have hw:ZL (-1) e.words=true:=by
     rw [<-h4,Qc JX];try rfl
    rw [hw,QL] at s
    refine Zc (ι:=Int × Int) (fun p=> Zbx e d p.1 p.2) (fun p=> 0<=p.2/\p.2<=e.kids.length/\Zw p.1 (e.kids.drop p.2.toNat) (d - 1)=Zw (-1) e.kids (d - 1)) (fun p=> ((e.kids.length:Int) - p.2).toNat) (-1,0) rfl ⟨V4,V4,by simp⟩ ?_
    rintro ⟨af,i⟩ ⟨h2,h3,h4⟩
    dsimp only at*
    refine ZAc N e d af i _ _ ?_;(try simp only [iB,vcT,forall_eq])
    (simp only [iB,vcS]);(try simp only [iB,vcT]);(try simp only [vcU])
    try (simp only [vE])
    refine ⟨fun hi=> ?_,fun hi=> ?_⟩
    .have u:=Zk (l:=e.kids) (i:=i.toNat) JX (KidOf.mk 0 Edit.nil)
     have aj:=Y6 rk u
     have au:=Z0n u
     rw [YE h2 hi (KidOf.mk 0 Edit.nil)] at h4
     simp only [Zw,Z4b] at h4
     generalize e.kids.getD i.toNat (KidOf.mk 0 Edit.nil)=w at*
     refine ⟨⟨h2,hi⟩,fun _=> by unfold InR;omega,fun _=> ⟨⟨V4,aj.2⟩,V4,V4⟩,fun _=> by simp only [Zko];omega,fun hq=> Z5 rfl ?_,fun hq=> ⟨V1,(_,i+1),rfl,⟨V4,V4,?_⟩,V4⟩⟩
     .rw [s,<-h4]
      rcases hq with hq | hq
      .rw [decide_eq_false JX];try rfl
      .rw [hq];simp
     .dsimp only
      rw [<-h4,decide_eq_true JX,hq.2];try rfl
    .have hw:Zw (-1) e.kids (d - 1)=true:=by
      rw [<-h4,Qc JX];try rfl
     rw [hw,QL] at s
     refine ⟨fun hq=> Z5 rfl (by rw [s,decide_eq_false JX];rfl),fun hq=> ?_⟩
     rw [decide_eq_true JX,QL] at s
     refine Zc (ι:=Int) (fun p=> Zbw e d p) (fun p=> 0<=p/\p<=e.ops.length/\Zz e.list (e.ops.drop p.toNat) (d - 1)=Zz e.list e.ops (d - 1)) (fun p=> ((e.ops.length:Int) - p).toNat) 0 rfl ⟨JX,JX,by simp⟩ ?_
     rintro j ⟨h5,h6,h7⟩
     refine ZAb N e d j _ _ ?_;(try simp only [iB,vcT,forall_eq])
     (simp only [iB,vcS]);(try simp only [iB,vcT]);(try simp only [vcU])
     try (simp only [vE])
     refine ⟨fun hj=> ?_,fun hj=> ?_⟩
     .have u:=Zk (l:=e.ops) (i:=j.toNat) JX Op.nil
      have av:=Z0z aw u
      have au:=YJ u
      rw [YE h5 hj Op.nil] at h7
      simp only [Zz] at h7
      generalize e.ops.getD j.toNat Op.nil=o at*
      refine ⟨⟨h5,hj⟩,V1,⟨⟨by show Zu o<=20000000000;omega,av,il⟩,V4,V4⟩,?_,fun hq=> Z5 rfl ?_,fun hq=> ⟨V1,j+1,rfl,⟨JX,JX,?_⟩,JX⟩⟩
      .show 2*Zu o+1 < N
       omega
      .have ah:Zb e.list o (d - 1)=false:=hq
       rw [s,<-h7,ah];try rfl
      .have ah:Zb e.list o (d - 1)=true:=hq
       rw [<-h7,ah];try rfl
     .have hw:Zz e.list e.ops (d - 1)=true:=by
       rw [<-h7,Qc JX];try rfl
      rw [hw,QL] at s
      refine ⟨⟨hm,fun o ho=> Z7B (rightOs_mem hw ho)⟩,Z5 rfl ?_⟩
      rw [s,Qs]
      (simp only [iB,vcS])
  .intro h
   rcases h with h | h | h
   .rcases hf.1.1 with h2 | h2
    .exact h1 h2
    .exact h.2 h2
   .omega
   .omega
theorem ZhF{l:List Tree}{i:Int}(h0:0<=i)(h:i < l.length):List.drop i.toNat (l.take (i+1).toNat)=[l.getD i.toNat Tree.nil]:=by
 rw [List.drop_take,show (i+1).toNat - i.toNat=1 by omega,YE h0 h Tree.nil]
 try rfl
theorem ZLQ:ZF4:=by
 intro N list o d _ hp hN
 simp only [Zch,Ziu] at hp hN
 obtain ⟨⟨hm,hr,ah⟩,ae,aj⟩:=hp
 obtain ⟨ik,ay,rl,re⟩:=Jr hr
 rw [Y5] at hm hN
 have a1:=Zy o.l
 have au:=Z3f o.e
 have h:=JW list o d
 rw [ZrX ae,ZbW] at h
 refine ZK3 N list o d _ ?_;(try simp only [iB,vcT,forall_eq])
 (simp only [iB,vcS]);(try simp only [iB,vcT]);(try simp only [vcU])
 try (simp only [vE])
 refine ⟨fun h0=> ⟨fun _=> by simp only [Z9q];omega,Z5 rfl ?_⟩,fun h0=> ⟨fun hc=> Z5 rfl ?_,fun hc=> ⟨fun h3=> ?_,fun h3=> ⟨fun _=> ⟨⟨V4,re⟩,ae,aj⟩,fun _=> by simp only [Zko];omega,fun s=> Z5 rfl ?_,fun s=> Z5 rfl ?_⟩⟩⟩⟩
 .rw [h,if_pos h0,Qs]
  (simp only [iB,vcS])
  constructor
  .rintro ⟨h1,h2⟩;exact ⟨JX,h2⟩
  .rintro ⟨h1,h2⟩;exact ⟨JX,h2⟩
 .rw [h,if_neg h0,Jq]
 .rw [if_neg h0,J3,if_pos h3] at h
  refine Zc (ι:=Int) (fun p=> Z8t list o d p) (fun p=> 0<=p/\p<=o.l.length/\Z08 list (o.l.drop p.toNat)=Z08 list o.l) (fun p=> ((o.l.length:Int) - p).toNat) 0 rfl ⟨JX,JX,by simp⟩ ?_
  rintro i ⟨h4,h5,h6⟩
  refine ZvA N list o d i _ _ ?_;(try simp only [iB,vcT,forall_eq])
  (simp only [iB,vcS]);(try simp only [iB,vcT]);(try simp only [vcU])
  try (simp only [vE])
  refine ⟨fun hi=> ?_,fun hi=> ?_⟩
  .have u:=Zk (l:=o.l) (i:=i.toNat) JX Tree.nil
   have ai:=YC rl u
   have a2:=J2 u
   rw [ZhF h4 hi]
   rw [YE h4 hi Tree.nil] at h6
   simp only [Z08] at h6
   generalize o.l.getD i.toNat Tree.nil=t at*
   refine ⟨V1,JX,⟨by simp only [Zo,Zg,List.length_nil];omega,⟨ah,fun x hx=> (by cases hx),ai,trivial⟩,V4,V4⟩,fun s=> Z5 rfl ?_,fun s=> ⟨V1,i+1,rfl,⟨JX,JX,?_⟩,JX⟩⟩
   .rw [h,<-h6,s];try rfl
   .rw [<-h6,s];try rfl
  .have hw:Z08 list o.l=true:=by
    rw [<-h6,Qc JX];try rfl
   rw [hw,QL] at h
   refine ⟨fun _=> by simp only [Z9q];omega,Z5 rfl ?_⟩
   rw [h,Qs]
   (simp only [iB,vcS])
   simp only [Int.natCast_pos]
 .rw [h,if_neg h0,J3,if_neg h3]
  rcases s with s | s
  .have:¬(o.l.length=0/\o.e.kind≠0/\7 < list):=JX
   rw [decide_eq_false this];try rfl
  .rw [s];simp
 .rw [h,if_neg h0,J3,if_neg h3,s.2]
  have:o.l.length=0/\o.e.kind≠0/\7 < list:=JX
  rw [decide_eq_true this,Qs]
  (simp only [iB,vcS])
  simp only [true_and,K4,decide_eq_true_eq,and_assoc,or_assoc]
theorem Zzd:Contract Tryz.prog cfg 64 Z6t/\Contract Tryz.prog cfg 101 ZpF:=ZtT c99 ZHt ZHi c31 Zuv b64 ZLQ
theorem ZtW(e:Edit):Z1V e=(decide (Z1C e.ops 0<=2000/\Z1B e.ops 0<=2000) && Z5U e.kids && Z7P e.ops):=by
 obtain ⟨k,o,h,w,ks,l,os⟩:=e;rfl
theorem Zmu(k:Kid):Zmv k=Z1V k.e:=by cases k;rfl
theorem Zoo(o:Op):ZqW o=Z1V o.e:=by cases o;rfl
theorem Zc5{e:Edit}{d:Int}(h:Z3 e d=true):(∀ k∈e.kids,Z3 k.e (d - 1)=true/\k.e.kind≠0)/\∀ o∈e.ops,Zb e.list o (d - 1)=true:=by
 rw [Z4M] at h
 split at h
 .cases h
 .split at h
  .cases h
  .rename_i h1 h2
   split at h
   .grind
   .simp only [Q6] at h
    exact ⟨fun k u=> Zd7 h.1.1.1.2 u,fun o s=> rightOs_mem h.1.2 s⟩
theorem ZlF{e:Edit}(h:Z1M e=true):e.kind=0/\YM e.old=true/\YM e.new=true/\e.words=[]/\e.kids=[]/\e.ops=[]/\e.list=0:=by
 simp only [Z1M,Q6,decide_eq_true_eq] at h
 grind
theorem Zd1{e:Edit}(h:Z1M e=true)(d:Int)(hd:d≠0):Z3 e d=true:=by
 obtain ⟨u,h2,h3,h4,h5,s,h7⟩:=ZlF h
 rw [Z4M,u,h2,h3,h4,h5,s,h7,J3,if_neg (by simp),J3]
 try rfl
theorem Zhy{list:Int}{o:Op}{d:Int}(h:Zb list o d=true):∃ d',Z3 o.e d'=true:=by
 rw [JW] at h
 split at h
 .simp only [Q6] at h
  exact ⟨1,Zd1 h.2 1 JX⟩
 .split at h
  .cases h
  .split at h
   .simp only [Q6] at h
    exact ⟨1,Zd1 h.2 1 JX⟩
   grind
theorem c65:Contract Tryz.prog cfg 65 Z6s:=by
 refine ZFK Zuv ?_
 intro N e _ hp hN
 simp only [Zdb,Zmi] at hp hN
 obtain ⟨⟨hm,hr⟩,dd,aj⟩:=hp
 obtain ⟨ik,ro,rn,ax,il,rk,ak⟩:=Z5E hr
 have a2:=YK e
 have aw:=Yb e.kids
 have a1:=Yo e.ops
 have s:=ZtW e
 obtain ⟨al,af⟩:=Zc5 aj
 refine ZLm N e _ ?_;(try simp only [iB,vcT,forall_eq])
 (simp only [iB,vcS]);(try simp only [iB,vcT]);(try simp only [vcU])
 try (simp only [vE])
 refine ⟨⟨hm,fun o ho=> Z7B (af o ho)⟩,fun hq=> Z5 rfl (by grind),fun hq=> ?_⟩
 rw [decide_eq_true JX,QL] at s
 refine Zc (ι:=Int) (fun p=> Zbv e p) (fun p=> 0<=p/\p<=e.kids.length/\Z5U (e.kids.drop p.toNat)=Z5U e.kids) (fun p=> ((e.kids.length:Int) - p).toNat) 0 rfl ⟨JX,JX,by simp⟩ ?_
 rintro i ⟨h4,h5,h6⟩
 refine ZAa N e i _ _ ?_;(try simp only [iB,vcT,forall_eq])
 (simp only [iB,vcS]);(try simp only [iB,vcT]);(try simp only [vcU])
 try (simp only [vE])
 refine ⟨fun hi=> ?_,fun hi=> ?_⟩
 .have h:=Zk (l:=e.kids) (i:=i.toNat) JX (KidOf.mk 0 Edit.nil)
  have u:=Y6 rk h
  have ae:=Z0n h
  have ab:=al _ h
  rw [YE h4 hi (KidOf.mk 0 Edit.nil)] at h6
  simp only [Z5U,Zmu] at h6
  generalize e.kids.getD i.toNat (KidOf.mk 0 Edit.nil)=k at*
  refine ⟨⟨h4,hi⟩,⟨⟨by grind,u.2⟩,_,ab.1⟩,by simp only [Zmi];omega,fun hq=> Z5 rfl (by grind),fun hq=> ⟨V1,i+1,rfl,⟨JX,JX,by grind⟩,JX⟩⟩
 .have hw:Z5U e.kids=true:=by
   rw [<-h6,Qc JX];try rfl
  rw [hw,QL] at s
  refine Zc (ι:=Int) (fun p=> Zbu e p) (fun p=> 0<=p/\p<=e.ops.length/\Z7P (e.ops.drop p.toNat)=Z7P e.ops) (fun p=> ((e.ops.length:Int) - p).toNat) 0 rfl ⟨JX,JX,by simp⟩ ?_
  rintro j ⟨g4,g5,g6⟩
  refine ZA9 N e j _ _ ?_;(try simp only [iB,vcT,forall_eq])
  (simp only [iB,vcS]);(try simp only [iB,vcT]);(try simp only [vcU])
  try (simp only [vE])
  refine ⟨fun hi=> ?_,fun hi=> ?_⟩
  .have h:=Zk (l:=e.ops) (i:=j.toNat) JX Op.nil
   have u:=Jr (Z0z ak h)
   have ae:=YJ h
   have ab:=Zhy (af _ h)
   rw [Y5] at ae
   rw [YE g4 hi Op.nil] at g6
   simp only [Z7P,Zoo] at g6
   generalize e.ops.getD j.toNat Op.nil=o at*
   refine ⟨⟨g4,hi⟩,⟨⟨by grind,u.2.2.2⟩,ab⟩,by simp only [Zmi];omega,fun hq=> Z5 rfl (by grind),fun hq=> ⟨V1,j+1,rfl,⟨JX,JX,by grind⟩,JX⟩⟩
  .refine Z5 rfl ?_
   rw [s,<-g6,Qc JX];try rfl
theorem c14:Contract Tryz.prog cfg 14 Zfs:=by
 refine ZG1 c45 Zzd.1 c65 ?_
 intro e _ h
 simp only [Zql] at h
 refine ZLE e _ ?_;(try simp only [iB,vcT,forall_eq])
 try (simp only [vE])
 refine ⟨h.1,fun hf=> ?_,fun hf=> ?_,Z5 rfl ?_⟩
 .have:=Z57 (by simpa using hf)
  exact ⟨⟨by grind,h.2⟩,by grind,by grind⟩
 .simp only [Zzm,decide_eq_true_eq] at hf
  have:=Z57 hf.1
  exact ⟨⟨by grind,h.2⟩,64,hf.2⟩
 .show _=Z2X e
  simp only [Z2X]
  grind
end Go.AM.YtpjenobkibfpcaaGreat
namespace Go.AM
noncomputable def eqX{α:Type}(a b:α):Bool:=@decide (a=b) (Classical.propDecidable _)
theorem Z0c{α:Type}{a b:α}:eqX a b=true↔a=b:=by unfold eqX;grind
@[simp] theorem ZKC {α:Type} (a:α):eqX a a=true:=Z0c.2 rfl
def ZB(o:Op)(n:Int):Op:=if Z4 o<=n then o else if o.kind=0 then ⟨o.kind,n,o.l,o.e⟩ else ⟨o.kind,o.n,o.l.take n.toNat,o.e⟩
def Jt(o:Op)(n:Int):Op:=if o.kind=0 then ⟨o.kind,o.n - n,o.l,o.e⟩ else ⟨o.kind,o.n,o.l.drop n.toNat,o.e⟩
def ZF(l:List Op)(n:Int):List Op:=if Z4 (l.getD 0 Op.nil)<=n then l.drop 1 else Jt (l.getD 0 Op.nil) n ::l.drop 1
def sgl(a:Int)(l:List Op):Bool:=decide (l.length≠0/\(l.getD 0 Op.nil).kind=a)
def ZX(o:Op):Prop:=
 (o.kind=0/\o.l=[]/\(1<=o.n/\o.n<=1048576)/\o.e=Edit.nil)\/((o.kind=1\/o.kind=2)/\o.n=0/\o.l≠[]/\o.e=Edit.nil)\/(o.kind=3/\o.n=0/\o.l=[])
def Z9y(l:List Op):Prop:=(∀ o∈l,ZX o)/\Zt l<=20000000000
theorem Yi(l:List Op)(n:Int)(h:l.length≠0):(ZF l n).length<=l.length:=by
 unfold ZF
 grind
theorem Yh(l:List Op)(n:Int)(h:l.length≠0)(hn:Z4 (l.getD 0 Op.nil)<=n):(ZF l n).length < l.length:=by
 unfold ZF
 grind
def ZA(ap aq:Int)(p q:List Op)(out:List Piece):List Piece × Bool × List Op × List Op:=
 if h:sgl ap p=true then ZA ap aq (p.drop 1) q (out++[⟨1,p.getD 0 Op.nil,Op.nil⟩])
 else if h2:sgl aq q=true then ZA ap aq p (q.drop 1) (out++[⟨2,Op.nil,q.getD 0 Op.nil⟩])
 else if h3:p.length=0\/q.length=0 then
  if decide (p.length=0)=decide (q.length=0) then (out,true,p,q) else ([],false,p,q)
 else
  ZA ap aq (ZF p (min (Z4 (p.getD 0 Op.nil)) (Z4 (q.getD 0 Op.nil)))) (ZF q (min (Z4 (p.getD 0 Op.nil)) (Z4 (q.getD 0 Op.nil))))
   (out++[⟨0,ZB (p.getD 0 Op.nil) (min (Z4 (p.getD 0 Op.nil)) (Z4 (q.getD 0 Op.nil))),ZB (q.getD 0 Op.nil) (min (Z4 (p.getD 0 Op.nil)) (Z4 (q.getD 0 Op.nil)))⟩])
termination_by p.length+q.length
decreasing_by
 .have:=(of_decide_eq_true h).1;grind
 .have:=(of_decide_eq_true h2).1;grind
 .rcases Kp (Z4 (p.getD 0 Op.nil)) (Z4 (q.getD 0 Op.nil)) with hm | hm
  .have a:=Yh p _ JX (Xa (Z4 (p.getD 0 Op.nil)))
   have b:=Yi q (Z4 (p.getD 0 Op.nil)) JX
   grind
  .have a:=Yh q _ JX (Xa (Z4 (q.getD 0 Op.nil)))
   have b:=Yi p (Z4 (q.getD 0 Op.nil)) JX
   grind
def Zjd(i alone:Int)(o:Op):List AUnit:=
 (if o.kind=0 then List.replicate o.n.toNat ⟨i,0,Tree.nil,Edit.nil,false⟩ else [])
  ++(o.l.map (fun t=> ⟨i,o.kind,t,Edit.nil,decide (o.kind=alone)⟩)
  ++(if o.kind=3 then [⟨i,3,Tree.nil,o.e,false⟩] else []))
def opU(u:AUnit):Op:=if u.kind=0 then ⟨0,1,[],Edit.nil⟩ else if u.kind=3 then ⟨3,0,[],u.e⟩ else ⟨u.kind,0,[u.t],Edit.nil⟩
end Go.AM
namespace Go.AM.YtpjenobkibfpcaaGreat
open Go.AM Go.Proofs
noncomputable section
def Zs6:ArgL (Op × Unit):=(.cons (aEl .op) .nil)
def Z6T(a:Op × Unit):Prop:=Zu a.1<=20000000000/\0<=OpOf.n a.1/\OpOf.n a.1<=1048576
def Zw4(a:Op × Unit):V U:= .c (ci (Z4 a.1))
def Z41:Fs U:=fs Zs6 (fun a=> [Z6T a]) Zw4
def Zl1:ArgM ((List Op × Int × Unit) × Unit):=(.obj 0 (.cons (cSl .op) (.cons (Z67 .i64) .nil)) .nil)
def Z4o(a:(List Op × Int × Unit) × Unit):Prop:=(a.1.1).length<=120000000000
def Zw3(a:(List Op × Int × Unit) × Unit):V U:= .c (.bool (decide ((a.1.1).length=0)))
def ZpT(a:(List Op × Int × Unit) × Unit):List (List (C U)):=[[sU .op a.1.1 .unk,ci a.1.2.1]]
def Z40:Fs U:=fsX Zl1 (fun a=> [Z4o a]) Zw3 ZpT
def Zw5(a:(List Op × Int × Unit) × Unit):V U:= .c (.bool (sgl a.1.2.1 a.1.1))
def Za1:Fs U:=fsX Zl1 (fun a=> [Z4o a]) Zw5 ZpT
def Zl2:ArgM ((List Op × Int × Unit) × Int × Unit):=(.obj 0 (.cons (cSl .op) (.cons (Z67 .i64) .nil)) (.cons (Jj .i64) .nil))
def Z9k(a:(List Op × Int × Unit) × Int × Unit):Prop:=Z9y a.1.1/\(a.1.1).length≠0/\1<=a.2.1/\a.2.1<=120000000000
def ZfK(a:(List Op × Int × Unit) × Int × Unit):V U:= .agg (enc .op (ZB ((a.1.1).getD 0 Op.nil) a.2.1))
def Zax(a:(List Op × Int × Unit) × Int × Unit):List (List (C U)):=[[sU .op (ZF a.1.1 a.2.1) .unk,ci a.1.2.1]]
def Za0:Fs U:=fsX Zl2 (fun a=> [Z9k a]) ZfK Zax
def Zl7:ArgM ((List Op × Int × Unit) × (List Op × Int × Unit) × Unit):=(.obj 0 (.cons (cSl .op) (.cons (Z67 .i64) .nil)) (.obj 1 (.cons (cSl .op) (.cons (Z67 .i64) .nil)) .nil))
def Zg5(a:(List Op × Int × Unit) × (List Op × Int × Unit) × Unit):Prop:=Z9y a.1.1/\Z9y a.2.1.1
def ZjK(a:(List Op × Int × Unit) × (List Op × Int × Unit) × Unit):V U:= .tup [(false,[sU .piece ((ZA a.1.2.1 a.2.1.2.1 a.1.1 a.2.1.1 []).1) .unk]),(false,[.bool ((ZA a.1.2.1 a.2.1.2.1 a.1.1 a.2.1.1 []).2.1)])]
def Zek(a:(List Op × Int × Unit) × (List Op × Int × Unit) × Unit):List (List (C U)):=[[sU .op ((ZA a.1.2.1 a.2.1.2.1 a.1.1 a.2.1.1 []).2.2.1) .unk,ci a.1.2.1],[sU .op ((ZA a.1.2.1 a.2.1.2.1 a.1.1 a.2.1.1 []).2.2.2) .unk,ci a.2.1.2.1]]
def Z2a:Fs U:=fsX Zl7 (fun a=> [Zg5 a]) ZjK Zek
def ZsD:ArgL (List Op × List Op × Unit):=(.cons (aSl .op) (.cons (aSl .op) .nil))
def Zo4(a:List Op × List Op × Unit):Prop:=Z9y a.1/\Z9y a.2.1
def Zwp(a:List Op × List Op × Unit):V U:= .tup [(false,[sU .piece ((ZA 2 2 a.1 a.2.1 []).1) .unk]),(false,[.bool ((ZA 2 2 a.1 a.2.1 []).2.1)])]
def Ze8:Fs U:=fs ZsD (fun a=> [Zo4 a]) Zwp
def Zwb(a:List Op × List Op × Unit):V U:= .tup [(false,[sU .piece ((ZA 1 2 a.1 a.2.1 []).1) .unk]),(false,[.bool ((ZA 1 2 a.1 a.2.1 []).2.1)])]
def Z2J:Fs U:=fs ZsD (fun a=> [Zo4 a]) Zwb
def Zxp:Za U:=lvl [([1],[1]),([1,5],[1]),([2],[]),([2],[])]
abbrev ZMg(p:List Nat):=AW (Z2 ZoA) Tryz.f228 Zxp p
theorem ZIK(o:Op)(Q:QT)(h:(iB (o.kind==3) ((Q .ret (L2 [pI 2 1] []))) ((InR (o.n+(o.l.length:Int)))/\(Q .ret (L2 [pI 2 (o.n+(o.l.length:Int))] []))))):
  ZMg [] (L2 [(0,.agg (enc .op o))] []) Q:=
 Eq.mpr V3 h
def ZCT(o:Op):Prop:=AW (Z2 ZoA) Tryz.f228 Zxp [] (Zf (Zs6.can (o,())) []) (EQ Tryz.f228 (Zw4 (o,())) [])
theorem ZAO(hb:∀ (o:Op) (_:Unit),Z6T (o,())->ZCT o):CT 228 Z41:=
 Z1 (l:=[]) Ze rfl trivial Zxp Tryz.func228 rfl rfl 1 (fun _=> rfl) V2 (fun ⟨o,_⟩=> hb o ())
def Zxo:Za U:=lvk [([0],[((.x 0),[])]),([2],[((.x 0),[])])]
abbrev ZMf(p:List Nat):=AW (Z2 ZoA) Tryz.f229 Zxo p
theorem ZIJ(l:List Op)(alone:Int)(Q:QT)(h:(Q .ret (L2 [pB 2 (((l.length:Int):Int)==0)] [(.x 0,[sU .op l .unk,ci alone])]))):
  ZMf [] (L2 [(0,.ptr (.x 0) 0)] [(.x 0,[sU .op l .unk,ci alone])]) Q:=
 Eq.mpr V3 h
def ZCS(l:List Op)(alone:Int):Prop:=AW (Z2 ZoA) Tryz.f229 Zxo [] (Zf (Zl1.can ((l,alone,()),())) (Zl1.canX ((l,alone,()),()))) (EQ Tryz.f229 (Zw3 ((l,alone,()),())) (ZpT ((l,alone,()),())))
theorem ZAN(hb:∀ (l:List Op) (alone:Int) (_:Unit),Z4o ((l,alone,()),())->ZCS l alone):CT 229 Z40:=
 Zv (l:=[]) Ze rfl trivial Zxo Tryz.func229 rfl rfl 1 (fun _=> rfl) V2 (fun ⟨⟨l,alone,_⟩,_⟩=> hb l alone ())
def Zr3:List (FuncId × Fs U):=[(229,Z40)]
abbrev ZMi(p:List Nat):=AW (Z2 Zr3) Tryz.f226 Zxo p
theorem ZIM(l:List Op)(alone:Int)(Q:QT)(h:let z0:= !(decide (l.length=0));((Z4o ((l,alone,()),()))/\(Tt z0)/\(Tt z0)/\(Tt z0)/\(Tt z0)/\(z0=true->(0:Int)<=0/\0 < (l.length:Int))/\(Tt z0)/\(Tt z0)/\(Tt z0)/\(Tt z0)/\(Tt z0)/\(Tt z0)/\(Tt z0)/\(Tt z0)/\(Q .ret (L2 [(2,.c (.bool (bif z0 then (((OpOf.kind (List.getD l (Int.toNat 0) Op.nil)):Int)==alone) else false)))] [(.x 0,[sU .op l .unk,ci alone])])))):
  ZMi [] (L2 [(0,.ptr (.x 0) 0)] [(.x 0,[sU .op l .unk,ci alone])]) Q:=
 Eq.mpr V3 h
def ZCV(l:List Op)(alone:Int):Prop:=AW (Z2 Zr3) Tryz.f226 Zxo [] (Zf (Zl1.can ((l,alone,()),())) (Zl1.canX ((l,alone,()),()))) (EQ Tryz.f226 (Zw5 ((l,alone,()),())) (ZpT ((l,alone,()),())))
theorem ZAQ(Zum:CT 229 Z40)(hb:∀ (l:List Op) (alone:Int) (_:Unit),Z4o ((l,alone,()),())->ZCV l alone):CT 226 Za1:=
 Zv (l:=[(229,Z40)]) Ze rfl (⟨Zum,trivial⟩) Zxo Tryz.func226 rfl rfl 1 (fun _=> rfl) V2 (fun ⟨⟨l,alone,_⟩,_⟩=> hb l alone ())
def Zr2:List (FuncId × Fs U):=[(228,Z41)]
def Zxq:Za U:=lvk [([0,1,4],[4,((.x 0),[])]),([0,1,4,5],[4,5,((.x 0),[])]),([0,1,4,5,17],[4,5,((.x 0),[])]),([4,5],[4,5,((.x 0),[])]),([4],[4,((.x 0),[])]),([0,1,4,5,6,7],[4,5,6,7,((.x 0),[])]),([0,1,4,5,6,7,31],[4,5,6,7,((.x 0),[])]),([0,4,6,7],[4,6,7,((.x 0),[])]),([0,4,6,7],[4,6,7,((.x 0),[])]),([4,6],[4,6,((.x 0),[])]),([4],[4,((.x 0),[])])]
abbrev ZMh(p:List Nat):=AW (Z2 Zr2) Tryz.f227 Zxq p
theorem ZIL(l:List Op)(alone n:Int)(Q:QT)(h:∀ s,s=(List.getD l (Int.toNat 0) Op.nil)->∀ aa,aa=s->∀ u,u=(s.e)->let z0:=List.drop (Int.toNat 1) l;(((0:Int)<=0/\0 < (l.length:Int))/\((Z6T (aa,()))/\(iB (decide (((Z4 aa):Int)<=n)) (((0:Int)<=1/\1<=(l.length:Int))/\(Q .ret (L2 [pL 4] [(.loc 4,(enc .op s)),(.x 0,[sU .op z0 .unk,ci alone])]))) ((iB (s.kind==0) ((InR (s.n - n))/\(((0:Int)<=1/\1<=(l.length:Int))/\((([(OpOf.mk s.kind (s.n - n) s.l u)]).length+z0.length)*240<=140737488355328)/\(Q .ret (L2 [pL 4] [(.loc 4,([ci s.kind,ci n,sU .tree s.l .unk]++enc .edit s.e)),(.x 0,[sU .op (([(OpOf.mk s.kind (s.n - n) s.l u)])++z0) (.own (.x 0 0)),ci alone])])))) (((0:Int)<=n/\n<=(s.l.length:Int))/\(n=n)/\((0:Int)<=n/\n<=(s.l.length:Int))/\(((0:Int)<=1/\1<=(l.length:Int))/\((([(OpOf.mk s.kind s.n (List.drop n.toNat s.l) u)]).length+z0.length)*240<=140737488355328)/\(Q .ret (L2 [pL 4] [(.loc 4,([ci s.kind,ci s.n,sU .tree (List.take n.toNat s.l) .full]++enc .edit s.e)),(.x 0,[sU .op (([(OpOf.mk s.kind s.n (List.drop n.toNat s.l) u)])++z0) (.own (.x 0 0)),ci alone])])))))))))):
  ZMh [] (L2 [(0,.ptr (.x 0) 0),pI 1 n] [(.x 0,[sU .op l .unk,ci alone])]) Q:=
 Eq.mpr V3 (h _ rfl _ (YB _) _ (Z7 _))
def ZCU(l:List Op)(alone n:Int):Prop:=AW (Z2 Zr2) Tryz.f227 Zxq [] (Zf (Zl2.can ((l,alone,()),n,())) (Zl2.canX ((l,alone,()),n,()))) (EQ Tryz.f227 (ZfK ((l,alone,()),n,())) (Zax ((l,alone,()),n,())))
theorem ZAP(Zun:CT 228 Z41)(hb:∀ (l:List Op) (alone:Int) (n:Int) (_:Unit),Z9k ((l,alone,()),n,())->ZCU l alone n):CT 227 Za0:=
 Zv (l:=[(228,Z41)]) Ze rfl (⟨Zun,trivial⟩) Zxq Tryz.func227 rfl rfl 2 (fun _=> rfl) V2 (fun ⟨⟨l,alone,_⟩,n,_⟩=> hb l alone n ())
def Zrl:List (FuncId × Fs U):=[(226,Za1),(227,Za0),(228,Z41),(229,Z40)]
def ZxJ:Za U:=lvk [([0,1],[((.x 0),[]),((.x 1),[])]),([0,1,(6,[.own .piece])],[((.x 0),[]),((.x 1),[])]),([0,1,6,7],[((.x 0),[]),((.x 1),[])]),([0,1,(6,[.own .piece])],[((.x 0),[]),((.x 1),[])]),([0,1,6,33],[((.x 0),[]),((.x 1),[])]),([0,1,(6,[.own .piece])],[((.x 0),[]),((.x 1),[])]),([0,1,6,49],[((.x 0),[]),((.x 1),[])]),([0,1,(6,[.own .piece])],[((.x 0),[]),((.x 1),[])]),([0,1,6,65],[((.x 0),[]),((.x 1),[])]),([6,76],[((.x 0),[]),((.x 1),[])]),([4,5],[((.x 0),[]),((.x 1),[])]),([4,5],[((.x 0),[]),((.x 1),[])])]
def Z3j(pl:List Op)(pa:Int)(ql:List Op)(qa:Int)(mx0_0 mx1_0:List Op)(mx1_1:Int)(h:List Piece):LSt U:=(L2 [(0,.ptr (.x 0) 0),(1,.ptr (.x 1) 0),(6,.c (sU .piece h (.own (.e 6 0))))] [(.x 0,[sU .op mx0_0 .unk,ci pa]),(.x 1,[sU .op mx1_0 .unk,ci mx1_1])])
abbrev ZIs(p:List Nat):=AW (Z2 Zrl) Tryz.f193 ZxJ p
theorem ZJ9(pl:List Op)(pa:Int)(ql:List Op)(qa:Int)(Q:QT)(h:(Zp (ZIs [1,1,0,0]) (Z3j pl pa ql qa pl ql qa []) (xB 0 Q))):
  ZIs [] (L2 [(0,.ptr (.x 0) 0),(1,.ptr (.x 1) 0)] [(.x 0,[sU .op pl .unk,ci pa]),(.x 1,[sU .op ql .unk,ci qa])]) Q:=
 Eq.mpr V3 h
theorem ZuW(pl:List Op)(pa:Int)(ql:List Op)(qa:Int)(mx0_0 mx1_0:List Op)(mx1_1:Int)(x6:List Piece)(N0:NT)(Q:QT)(h:∀ ak,ak=(List.getD mx0_0 (Int.toNat 0) Op.nil)->∀ aj,aj=(List.getD mx1_0 (Int.toNat 0) Op.nil)->∀ ah,ah=(Edit.mk 0 (Tree.mk 0 [] []) (Tree.mk 0 [] []) [] [] 0 [])->∀ am,am=(List.getD (bif (!(decide (mx0_0.length=0))) then mx1_0 else mx1_0) (Int.toNat 0) Op.nil)->∀ s,s=ak->∀ aa,aa=aj->∀ u,u=am->∀ al,al=(ZB (mx0_0.getD 0 Op.nil) (Z4 s))->∀ ai,ai=(ZB (mx1_0.getD 0 Op.nil) (Z4 aa))->∀ ab,ab=(ZB (mx0_0.getD 0 Op.nil) (if ((Z4 u):Int) < (Z4 s) then (Z4 u) else (Z4 s)))->∀ ae,ae=(ZB ((bif (!(decide (mx0_0.length=0))) then mx1_0 else mx1_0).getD 0 Op.nil) (if ((Z4 u):Int) < (Z4 s) then (Z4 u) else (Z4 s)))->let z5:=Z4o ((mx0_0,pa,()),());let z4:=Piece.mk 2 (OpOf.mk 0 0 [] ah) ai;let z3:=Piece.mk 1 al (OpOf.mk 0 0 [] ah);let z0:=decide (mx0_0.length=0);let z2:=bif (!z0) then mx1_1 else mx1_1;let z1:=bif (!z0) then mx1_0 else mx1_0;(Z4o ((mx0_0,pa,()),()))/\(iB (sgl pa mx0_0) (((0:Int)<=0/\0 < (mx0_0.length:Int))/\(Z6T (s,()))/\(Z9k ((mx0_0,pa,()),(Z4 s),()))/\((x6.length+([z3]).length)*488<=140737488355328)/\(N0 (Z3j pl pa ql qa (ZF mx0_0 (Z4 s)) mx1_0 mx1_1 (x6++([z3]))))) ((Z4o ((mx1_0,mx1_1,()),()))/\(iB (sgl mx1_1 mx1_0) (((0:Int)<=0/\0 < (mx1_0.length:Int))/\(Z6T (aa,()))/\(Z9k ((mx1_0,mx1_1,()),(Z4 aa),()))/\((x6.length+([z4]).length)*488<=140737488355328)/\(N0 (Z3j pl pa ql qa mx0_0 (ZF mx1_0 (Z4 aa)) mx1_1 (x6++([z4]))))) (z5/\(Tt (!z0))/\((!z0)=true->Z4o ((mx1_0,mx1_1,()),()))/\(z0=false->(!z0)=true)/\(iB (bif z0 then true else (decide (mx1_0.length=0))) (z5/\(Z4o ((z1,z2,()),()))/\(iB (z0 !=(decide (z1.length=0))) ((Q .ret (L2 [(4,.c (.nils)),pB 5 false] [(.x 0,[sU .op mx0_0 .unk,ci pa]),(.x 1,[sU .op z1 .unk,ci z2])]))) ((Q .ret (L2 [(4,.c (sU .piece x6 (.own (.e 4 0)))),pB 5 true] [(.x 0,[sU .op mx0_0 .unk,ci pa]),(.x 1,[sU .op z1 .unk,ci z2])]))))) (((0:Int)<=0/\0 < (mx0_0.length:Int))/\(Z6T (s,()))/\((0:Int)<=0/\0 < (z1.length:Int))/\(Z6T (u,()))/\((Z9k ((mx0_0,pa,()),(if ((Z4 u):Int) < (Z4 s) then (Z4 u) else (Z4 s)),()))/\(Z9k ((z1,z2,()),(if ((Z4 u):Int) < (Z4 s) then (Z4 u) else (Z4 s)),()))/\((x6.length+([(Piece.mk 0 ab ae)]).length)*488<=140737488355328)/\(N0 (Z3j pl pa ql qa (ZF mx0_0 (if ((Z4 u):Int) < (Z4 s) then (Z4 u) else (Z4 s))) (ZF z1 (if ((Z4 u):Int) < (Z4 s) then (Z4 u) else (Z4 s))) z2 (x6++([(Piece.mk 0 ab ae)])))))))))))):
  ZIs [1,1,0,0] (Z3j pl pa ql qa mx0_0 mx1_0 mx1_1 x6) (xT N0 (xB 0 Q)):=
 Eq.mpr V3 (h _ rfl _ rfl _ rfl _ rfl _ (YB _) _ (YB _) _ (YB _) _ (YB _) _ (YB _) _ (YB _) _ (YB _))
def ZDi(pl:List Op)(pa:Int)(ql:List Op)(qa:Int):Prop:=AW (Z2 Zrl) Tryz.f193 ZxJ [] (Zf (Zl7.can ((pl,pa,()),(ql,qa,()),())) (Zl7.canX ((pl,pa,()),(ql,qa,()),()))) (EQ Tryz.f193 (ZjK ((pl,pa,()),(ql,qa,()),())) (Zek ((pl,pa,()),(ql,qa,()),())))
theorem ZBa(ZGF:CT 226 Za1)(ZGE:CT 227 Za0)(Zun:CT 228 Z41)(Zum:CT 229 Z40)(hb:∀ (s:List Op) (pa:Int) (h:List Op) (u:Int) (_:Unit),Zg5 ((s,pa,()),(h,u,()),())->ZDi s pa h u):CT 193 Z2a:=
 Zv (l:=[(226,Za1),(227,Za0),(228,Z41),(229,Z40)]) Ze rfl (⟨ZGF,ZGE,Zun,Zum,trivial⟩) ZxJ Tryz.func193 rfl rfl 2 (fun _=> rfl) V2 (fun ⟨⟨s,pa,_⟩,⟨h,u,_⟩,_⟩=> hb s pa h u ())
def ZrD:List (FuncId × Fs U):=[(193,Z2a)]
def Zy1:Za U:=lvl [([0,1],[]),([4,5],[])]
abbrev ZMH(p:List Nat):=AW (Z2 ZrD) Tryz.f143 Zy1 p
theorem ZJB(p q:List Op)(Q:QT)(h:((Zg5 ((p,2,()),(q,2,()),()))/\(Q .ret (L2 [(4,.c (sU .piece ((ZA 2 2 p q []).1) .unk)),pB 5 ((ZA 2 2 p q []).2.1)] [])))):
  ZMH [] (L2 [(0,.c (sU .op p .unk)),(1,.c (sU .op q .unk))] []) Q:=
 Eq.mpr V3 h
def ZDK(p q:List Op):Prop:=AW (Z2 ZrD) Tryz.f143 Zy1 [] (Zf (ZsD.can (p,q,())) []) (EQ Tryz.f143 (Zwp (p,q,())) [])
theorem ZBx(ZhI:CT 193 Z2a)(hb:∀ (p:List Op) (q:List Op) (_:Unit),Zo4 (p,q,())->ZDK p q):CT 143 Ze8:=
 Z1 (l:=[(193,Z2a)]) Ze rfl (⟨ZhI,trivial⟩) Zy1 Tryz.func143 rfl rfl 2 (fun _=> rfl) V2 (fun ⟨p,q,_⟩=> hb p q ())
abbrev ZMl(p:List Nat):=AW (Z2 ZrD) Tryz.f209 Zy1 p
theorem ZIW(p q:List Op)(Q:QT)(h:((Zg5 ((p,1,()),(q,2,()),()))/\(Q .ret (L2 [(4,.c (sU .piece ((ZA 1 2 p q []).1) .unk)),pB 5 ((ZA 1 2 p q []).2.1)] [])))):
  ZMl [] (L2 [(0,.c (sU .op p .unk)),(1,.c (sU .op q .unk))] []) Q:=
 Eq.mpr V3 h
def ZD5(p q:List Op):Prop:=AW (Z2 ZrD) Tryz.f209 Zy1 [] (Zf (ZsD.can (p,q,())) []) (EQ Tryz.f209 (Zwb (p,q,())) [])
theorem ZAZ(ZhI:CT 193 Z2a)(hb:∀ (p:List Op) (q:List Op) (_:Unit),Zo4 (p,q,())->ZD5 p q):CT 209 Z2J:=
 Z1 (l:=[(193,Z2a)]) Ze rfl (⟨ZhI,trivial⟩) Zy1 Tryz.func209 rfl rfl 2 (fun _=> rfl) V2 (fun ⟨p,q,_⟩=> hb p q ())
end
theorem Zx1{o:Op}(h:Zu o<=20000000000):o.l.length<=20000000000:=by
 have:=Zy o.l
 rw [Y5] at h
 omega
theorem Zcl{o:Op}(h:ZX o):0<=o.n/\o.n<=1048576:=by
 unfold ZX at h
 omega
theorem Yy(o:Op):Z4 o=if o.kind=3 then 1 else o.n+o.l.length:=rfl
theorem Zun:Contract Tryz.prog cfg 228 Z41:=by
 refine ZAO ?_
 intro o _ s
 simp only [Z6T] at s
 have hl:=Zx1 s.1
 refine ZIK _ _ ?_;(try simp only [iB,vcT,forall_eq])
 (simp only [iB,vcS]);(try simp only [iB,vcT])
 exact ⟨fun h=> Jb rfl (by rw [Yy,if_pos h]),fun h=> ⟨V1,Jb rfl (by rw [Yy,if_neg h])⟩⟩
theorem Zum:Contract Tryz.prog cfg 229 Z40:=by
 refine ZAN ?_
 intro l h _ s
 refine ZIJ _ _ _ ?_;(try simp only [iB,vcT,forall_eq])
 have e:((l.length:Int)==0)=decide (l.length=0):=by rw [Qs];(simp only [iB,vcS]);omega
 rw [e]
 exact V0
theorem ZGF:Contract Tryz.prog cfg 226 Za1:=by
 refine ZAQ Zum ?_
 intro l s _ u
 refine ZIM _ _ _ ?_;(try simp only [iB,vcT,forall_eq])
 have e:(bif (!(decide (l.length=0))) then ((OpOf.kind (List.getD l (Int.toNat 0) Op.nil))==s) else false)=sgl s l:=by
  rw [Qs]
  simp only [sgl]
  (simp only [iB,vcS])
  try rfl
 rw [e]
 refine ⟨u,fun h=> ⟨JX,?_⟩,V0⟩
 grind
theorem ZHc(ZhI:Contract Tryz.prog cfg 193 Z2a):Contract Tryz.prog cfg 143 Ze8:=by
 refine ZBx ZhI ?_
 intro p q _ h
 refine ZJB _ _ _ ?_;(try simp only [iB,vcT,forall_eq])
 refine ⟨h,?_⟩
 exact V0
theorem ZGN(ZhI:Contract Tryz.prog cfg 193 Z2a):Contract Tryz.prog cfg 209 Z2J:=by
 refine ZAZ ZhI ?_
 intro p q _ h
 refine ZIW _ _ _ ?_;(try simp only [iB,vcT,forall_eq])
 refine ⟨h,?_⟩
 exact V0
theorem ZGE:Contract Tryz.prog cfg 227 Za0:=by
 refine ZAP Zun ?_
 intro l al n _ hp
 simp only [Z9k] at hp
 obtain ⟨⟨ho,hm⟩,hl,h1,h2⟩:=hp
 have h:=Zk (l:=l) (i:=0) JX Op.nil
 have ab:=ho _ h
 have ai:=YJ h
 have af:=Yo l
 refine ZIL _ _ _ _ ?_;(try simp only [iB,vcT])
 rintro y rfl _ rfl _ rfl
 have e0:(Int.toNat 0)=0:=rfl
 have e1:(Int.toNat 1)=1:=rfl
 simp only [e0,e1]
 have hT:∀ o r,ZB (l.getD 0 Op.nil) n=o->ZF l n=r->True:=fun _ _ _ _=> trivial
 have ae:=Zcl ab
 have ak:=Yy (l.getD 0 Op.nil)
 (simp only [iB,vcS])
 generalize hy:l.getD 0 Op.nil=y at*
 refine ⟨⟨JX,JX⟩,⟨by grind,ae⟩,fun hc=> ⟨⟨JX,JX⟩,?_⟩,fun hc=> ⟨fun u=> ⟨V1,⟨JX,JX⟩,by simp;omega,?_⟩,fun u=> ?_⟩⟩
 .have s:ZB y n=y:=by rw [ZB,if_pos hc]
  have t2:ZF l n=l.drop 1:=by rw [ZF,hy,if_pos hc]
  simp only [ZfK,Zax,hy,s,t2]
  exact V0
 .have s:ZB y n=⟨y.kind,n,y.l,y.e⟩:=by rw [ZB,if_neg hc,if_pos u]
  have t2:ZF l n=⟨y.kind,y.n - n,y.l,y.e⟩ ::l.drop 1:=by rw [ZF,hy,if_neg hc,Jt,if_pos u]
  simp only [ZfK,Zax,hy,s,t2]
  exact V0
 .have s:ZB y n=⟨y.kind,y.n,y.l.take n.toNat,y.e⟩:=by rw [ZB,if_neg hc,if_neg u]
  have t2:ZF l n=⟨y.kind,y.n,y.l.drop n.toNat,y.e⟩ ::l.drop 1:=by rw [ZF,hy,if_neg hc,Jt,if_neg u]
  simp only [ZfK,Zax,hy,s,t2]
  unfold ZX at ab
  refine ⟨?_,?_,⟨JX,JX⟩,by simp;omega,?_⟩
  .omega
  .omega
  ·exact V0
theorem Z3G(n:Nat):∀ (l:List Tree),Zg (l.drop n)<=Zg l:=by
 induction n with
 | zero=> intro l;simp
 | succ n ih=>
  intro l
  cases l with
  | nil=> simp
  | cons t r=> simp only [Qw,Zg];grind
theorem ZgM(n:Nat):∀ (l:List Tree),Zg (l.take n)<=Zg l:=by
 induction n with
 | zero=> intro l;simp [Zg]
 | succ n ih=>
  intro l
  cases l with
  | nil=> simp
  | cons t r=> simp only [List.take_succ_cons,Zg];grind
theorem ZJ{o:Op}(h:ZX o):1<=Z4 o:=by
 have:=Yy o
 unfold ZX at h
 have hl:o.l≠[]->0 < o.l.length:=XM.2
 grind
theorem ZaR{o:Op}(h:ZX o)(hm:Zu o<=20000000000):Z4 o<=20000000000:=by
 have:=Yy o
 have:=Zx1 hm
 have:=Zcl h
 unfold ZX at h
 grind
theorem Z77(o:Op)(r:List Op):Zt (o ::r)=Zu o+Zt r:=rfl
theorem Z7I{l:List Op}(h:Z9y l):Z9y (l.drop 1):=by
 cases l with
 | nil=> exact h
 | cons o r=>
  obtain ⟨h1,s⟩:=h
  rw [Z77] at s
  exact ⟨fun x u=> h1 x (Q0 _ u),by grind⟩
theorem Zco{l:List Op}(h:Z9y l)(hl:l.length≠0):ZX (l.getD 0 Op.nil)/\Zu (l.getD 0 Op.nil)<=20000000000/\Zu (l.getD 0 Op.nil)<=Zt l:=by
 have s:=Zk (l:=l) (i:=0) JX Op.nil
 have:=YJ s
 exact ⟨h.1 _ s,by have:=h.2;omega,this⟩
theorem ZbN{o:Op}{n:Int}(h:ZX o)(h1:1<=n)(h2:¬Z4 o<=n):ZX (Jt o n)/\Zu (Jt o n)<=Zu o:=by
 have hl:=Yy o
 unfold Jt
 unfold ZX at*
 by_cases hk:o.kind=0
 .rw [if_pos hk]
  refine ⟨Or.inl ?_,by simp only [Y5];omega⟩
  grind
 .rw [if_neg hk]
  have:=Z3G n.toNat o.l
  refine ⟨Or.inr ?_,by simp only [Y5];omega⟩
  rcases h with h | h | h
  .omega
  .obtain ⟨a,b,c,d⟩:=h
   rw [J3] at hl
   refine Or.inl ⟨a,b,?_,d⟩
   intro s
   have:=congrArg List.length s
   grind
  omega
theorem Zgv{l:List Op}{n:Int}(h:Z9y l)(hl:l.length≠0)(h1:1<=n):Z9y (ZF l n):=by
 unfold ZF
 split
 .exact Z7I h
 .rename_i hc
  obtain ⟨a,b,c⟩:=Zco h hl
  obtain ⟨d,e⟩:=ZbN a h1 hc
  have u:=Z7I h
  refine ⟨fun x s=> ?_,?_⟩
  .rcases Qa.1 s with rfl | s
   .exact d
   .exact u.1 _ s
  .rw [Z77]
   obtain _ | ⟨o,r⟩:=l
   .simp at hl
   .have:=h.2
    rw [Z77] at this
    grind
theorem ZhV(l:List Op):ZF l (Z4 (l.getD 0 Op.nil))=l.drop 1:=by rw [ZF,if_pos (Xa _)]
theorem ZhW(o:Op):ZB o (Z4 o)=o:=by rw [ZB,if_pos (Xa _)]
theorem ZpJ{a:Int}{l:List Op}(h:sgl a l=true):l.length≠0:=(of_decide_eq_true h).1
theorem ZhH{α:Type}(b:Bool)(x:α):(bif b then x else x)=x:=by grind
theorem ZhI:Contract Tryz.prog cfg 193 Z2a:=by
 refine ZBa ZGF ZGE Zun Zum ?_
 intro pl pa ql qa _ hp
 simp only [Zg5] at hp
 have be:=Yo pl
 have bh:=Yo ql
 have hP:=hp.1.2
 have hQ:=hp.2.2
 refine ZJ9 _ _ _ _ _ ?_;(try simp only [iB,vcT,forall_eq])
 refine Zc (ι:=List Op × List Op × List Piece) (fun s=> Z3j pl pa ql qa s.1 s.2.1 qa s.2.2) (fun s=> Z9y s.1/\Z9y s.2.1/\s.2.2.length+s.1.length+s.2.1.length<=40000000000/\ZA pa qa s.1 s.2.1 s.2.2=ZA pa qa pl ql []) (fun s=> s.1.length+s.2.1.length) (pl,ql,[]) rfl ⟨hp.1,hp.2,by simp;omega,rfl⟩ ?_
 rintro ⟨p,q,out⟩ ⟨h1,h2,h3,u⟩
 refine ZuW _ _ _ _ _ _ _ _ _ _ ?_;(try simp only [iB,vcT])
 have e0:(Int.toNat 0)=0:=rfl
 simp only [e0,ZhH]
 dsimp only at h1 h2 h3 u
 rintro z1 ak z2 af y3 bb z4 a8 y1 rfl y2 rfl y4 rfl y8 aw y9 av a9 ah a6 ae
 have ey:y4=y2:=a8.trans af.symm
 rw [ey] at ah ae ⊢
 have e3:(OpOf.mk 0 0 [] y3:Op)=Op.nil:=by rw [bb];try rfl
 rw [<-ak,ZhW] at aw
 rw [<-af,ZhW] at av
 have aj:∀ a b:Int,(if a < b then a else b)=min b a:=by intro a b;omega
 rw [<-ak,aj] at ah
 rw [<-af,aj] at ae
 simp only [aj,e3,aw,av]
 (simp only [iB,vcS])
 have o1:p.length≠0->ZX y1/\Zu y1<=20000000000:=fun h=> by have:=Zco h1 h;grind
 have o2:q.length≠0->ZX y2/\Zu y2<=20000000000:=fun h=> by have:=Zco h2 h;grind
 have tp:ZF p (Z4 y1)=p.drop 1:=by rw [ak];exact ZhV p
 have tq:ZF q (Z4 y2)=q.drop 1:=by rw [af];exact ZhV q
 have bc:=Yo p
 have bj:=Yo q
 have bk:=h1.2
 have bf:=h2.2
 rw [ZA] at u
 rw [<-ak,<-af] at u
 refine ⟨by simp only [Z4o];omega,fun hs=> ?_,fun hs=> ?_⟩
 .have hl:=ZpJ hs
  obtain ⟨oa,ob⟩:=o1 hl
  have oc:=ZJ oa
  have od:=ZaR oa ob
  rw [dif_pos hs] at u
  refine ⟨⟨JX,JX⟩,⟨ob,Zcl oa⟩,⟨h1,hl,oc,by grind⟩,by simp;omega,(p.drop 1,q,out++[⟨1,y1,Op.nil⟩]),by rw [tp],⟨Z7I h1,h2,by simp;omega,u⟩,by simp;omega⟩
 .rw [dif_neg (by grind)] at u
  refine ⟨by simp only [Z4o];omega,fun ar=> ?_,fun ar=> ?_⟩
  .have hl:=ZpJ ar
   obtain ⟨oa,ob⟩:=o2 hl
   have oc:=ZJ oa
   have od:=ZaR oa ob
   rw [dif_pos ar] at u
   refine ⟨⟨JX,JX⟩,⟨ob,Zcl oa⟩,⟨h2,hl,oc,by grind⟩,by simp;omega,(p,q.drop 1,out++[⟨2,Op.nil,y2⟩]),by rw [tq],⟨h1,Z7I h2,by simp;omega,u⟩,by simp;omega⟩
  .rw [dif_neg (by grind)] at u
   refine ⟨by simp only [Z4o];omega,fun _=> by simp only [Z4o];omega,fun h=> h,fun hd=> ⟨by simp only [Z4o];omega,by simp only [Z4o];omega,fun he=> ?_,fun he=> ?_⟩,fun hd=> ?_⟩
   .rw [dif_pos hd,if_neg he] at u
    simp only [ZjK,Zek,<-u]
    exact V0
   .rw [dif_pos hd,if_pos he] at u
    simp only [ZjK,Zek,<-u]
    exact V0
   .obtain ⟨oa,ob⟩:=o1 hd.1
    obtain ⟨oc,od⟩:=o2 hd.2
    have a1:=ZJ oa
    have a2:=ZaR oa ob
    have a3:=ZJ oc
    have a4:=ZaR oc od
    rw [dif_neg JX,<-ah,<-ae] at u
    have c1:=Yi p (min (Z4 y1) (Z4 y2)) hd.1
    have c2:=Yi q (min (Z4 y1) (Z4 y2)) hd.2
    have c3:Z4 y1<=min (Z4 y1) (Z4 y2)->(ZF p (min (Z4 y1) (Z4 y2))).length < p.length:=fun h=> Yh p _ hd.1 (by grind)
    have c4:Z4 y2<=min (Z4 y1) (Z4 y2)->(ZF q (min (Z4 y1) (Z4 y2))).length < q.length:=fun h=> Yh q _ hd.2 (by grind)
    refine ⟨⟨JX,JX⟩,⟨ob,Zcl oa⟩,⟨JX,JX⟩,⟨od,Zcl oc⟩,⟨h1,hd.1,by grind,by grind⟩,⟨h2,hd.2,by grind,by grind⟩,by simp;omega,
     (ZF p (min (Z4 y1) (Z4 y2)),ZF q (min (Z4 y1) (Z4 y2)),out++[⟨0,a9,a6⟩]),rfl,⟨Zgv h1 hd.1 JX,Zgv h2 hd.2 JX,by simp;omega,u⟩,by grind⟩
theorem Zz1{α:Type}{a b:α}(h:¬a=b):eqX a b=false:=by rw [<-K7,Z0c];exact h
def vu(u:AUnit):Op × Bool:=(opU u,u.alone)
def vs(a:Int)(o:Op):List (Op × Bool):=(Zjd 0 a o).map vu
theorem Z9O{a n:Int}{o:Op}(h:ZX o)(h1:1<=n)(hn:¬Z4 o<=n):vs a o=vs a (ZB o n)++vs a (Jt o n)/\ZX (ZB o n)/\Z4 (ZB o n)=n/\Zu (ZB o n)<=Zu o:=by
 have hl:=Yy o
 rcases h with ⟨k0,k1,k2,k3⟩ | ⟨k0,k1,k2,k3⟩ | ⟨k0,k1,k2⟩
 .have e1:ZB o n=⟨o.kind,n,o.l,o.e⟩:=by rw [ZB,if_neg hn,if_pos k0]
  have e2:Jt o n=⟨o.kind,o.n - n,o.l,o.e⟩:=by rw [Jt,if_pos k0]
  rw [J3,k1] at hl
  simp only [Qp] at hl
  rw [e1,e2]
  refine ⟨?_,Or.inl ⟨k0,k1,by grind,k3⟩,?_,by simp [Y5]⟩
  .simp only [vs,Zjd,k0,k1]
   simp only [if_true,Kd,Qt,List.map_append,List.map_replicate]
   rw [if_neg V2]
   simp only [Kd,Ql]
   rw [List.replicate_append_replicate]
   grind
  .rw [Yy]
   grind
 .have e1:ZB o n=⟨o.kind,o.n,o.l.take n.toNat,o.e⟩:=by rw [ZB,if_neg hn,J3]
  have e2:Jt o n=⟨o.kind,o.n,o.l.drop n.toNat,o.e⟩:=by rw [Jt,J3]
  rw [J3] at hl
  have u:=ZgM n.toNat o.l
  rw [e1,e2]
  refine ⟨?_,Or.inr (Or.inl ⟨k0,k1,?_,k3⟩),?_,by simp only [Y5];omega⟩
  .simp only [vs,Zjd]
   rw [J3,J3]
   simp_all
  .intro s
   have:=congrArg List.length s
   grind
  .rw [Yy]
   grind
 omega
theorem Yw{a:Int}{l:List Op}:sgl a l=true↔(l.length≠0/\(l.getD 0 Op.nil).kind=a):=by unfold sgl;grind
theorem JU(o:Op)(n:Int):(ZB o n).kind=o.kind:=by
 unfold ZB;grind
theorem Zmg{t:Tree}(h:YM t=true):t=Tree.nil:=by
 obtain ⟨k,w,ks⟩:=t
 have:=of_decide_eq_true h
 simp at this
 obtain ⟨rfl,rfl,rfl⟩:=this
 try rfl
theorem ZhZ{e:Edit}(h:Z1M e=true):e=Edit.nil:=by
 obtain ⟨u,h2,h3,h4,h5,s,h7⟩:=ZlF h
 obtain ⟨k,o,n,w,ks,l,os⟩:=e
 simp at u h2 h3 h4 h5 s h7
 subst u h4 h5 s h7
 rw [Zmg h2,Zmg h3]
 try rfl
theorem Z99{list:Int}{o:Op}{d:Int}(h:Zb list o d=true):ZX o:=by
 rw [JW] at h
 unfold ZX
 split at h
 .rename_i s
  simp only [Q6,decide_eq_true_eq] at h
  exact Or.inl ⟨s,QW.1 h.1.2.2,⟨h.1.1,h.1.2.1⟩,ZhZ h.2⟩
 .split at h
  .cases h
  .rename_i s u
   split at h
   .simp only [Q6,decide_eq_true_eq] at h
    refine Or.inr (Or.inl ⟨JX,JX,?_,ZhZ h.2⟩)
    grind
   grind
end Go.AM.YtpjenobkibfpcaaGreat
namespace Go.AM
def Zh6(list:Int)(e:Edit):Bool:=decide (e.kind=0\/(list=9/\e.kind=2/\e.words.length=0/\e.kids.length=0))
def Z6(l:List Tree):List Tree:=l.map Z0
def Jk(w:WEdit):WEdit:=⟨w.at_,w.mask,w.new,w.old⟩
mutual
def Zn:Edit->Edit
 | .mk k o n w ks l os=> .mk k n o (w.map Jk) (Y9 ks) l (Ye os)
def Y9:List (KidOf Edit)->List (KidOf Edit)
 | []=> []
 | k ::r=> YY k ::Y9 r
def YY:KidOf Edit->KidOf Edit
 | ⟨a,e⟩=> ⟨a,Zn e⟩
def Ye:List (OpOf Edit)->List (OpOf Edit)
 | []=> []
 | o ::r=> Y8 o ::Ye r
def Y8:OpOf Edit->OpOf Edit
 | ⟨k,n,l,e⟩=> if k=1 then ⟨2,n,l,e⟩ else if k=2 then ⟨1,n,l,e⟩ else if k=3 then ⟨k,n,l,Zn e⟩ else ⟨k,n,l,e⟩
end
mutual
def nE:Edit->Edit
 | .mk k o n w ks l os=> .mk k (Z0 o) (Z0 n) w (nKs ks) l (nOs os)
def nKs:List (KidOf Edit)->List (KidOf Edit)
 | []=> []
 | k ::r=> ZLH k ::nKs r
def ZLH:KidOf Edit->KidOf Edit
 | ⟨a,e⟩=> ⟨a,nE e⟩
def nOs:List (OpOf Edit)->List (OpOf Edit)
 | []=> []
 | o ::r=> nOp o ::nOs r
def nOp:OpOf Edit->OpOf Edit
 | ⟨k,n,l,e⟩=> ⟨k,n,Z6 l,nE e⟩
end
def YG{α:Type}(z:α)(l:List α)(i:Nat)(x:α):List α:=(l++List.replicate (i+1 - l.length) z).set i x
def wsD(tw:List Int):List WEdit->List Int->Option (List Int)
 | [],out=> some out
 | w ::r,out=> if mix 0 (tw.getD w.at_.toNat 0) w.mask=w.old then wsD tw r (YG 0 out w.at_.toNat (mix (tw.getD w.at_.toNat 0) w.new w.mask)) else none
noncomputable def JT(l rest:List Tree):Bool:=decide (l.length<=rest.length) && eqX (Z6 l) (Z6 (rest.take l.length))
def Z22(r:Option (List Tree × List Tree)):Option (List Tree):=r.bind fun x=> if x.2.length=0 then some x.1 else none
def nrD(r:Bool)(t:Tree):Tree:=if r then Z0 t else t
mutual
noncomputable def doE(r:Bool):Edit->Tree->Option Tree
 | .mk k o n w ks l os,t=>
  (if k=0 then some t
  else if k=1 then (if Yf (Z0 o) (Z0 t)=true then some n else none)
  else if k=2 then (if t.kind=1 then (wsD t.words w t.words).bind fun a=> (Jy r t.kids ks t.kids).map fun b=> .mk 1 a b else none)
  else if k=3 then (if t.kind=l then (Z22 (ZM r os t.kids [])).map fun b=> .mk l [] b else none)
  else none).map (nrD r)
noncomputable def Jy(r:Bool)(tk:List Tree):List (KidOf Edit)->List Tree->Option (List Tree)
 | [],out=> some out
 | k ::s,out=> (Z2v r tk k).bind fun u=> Jy r tk s (YG Tree.nil out k.at_.toNat u)
noncomputable def Z2v(r:Bool)(tk:List Tree):KidOf Edit->Option Tree
 | ⟨a,e⟩=> doE r e (tk.getD a.toNat Tree.nil)
noncomputable def ZM(r:Bool):List (OpOf Edit)->List Tree->List Tree->Option (List Tree × List Tree)
 | [],rest,out=> some (out,rest)
 | o ::s,rest,out=> (Z2C r o rest out).bind fun x=> ZM r s x.2 x.1
noncomputable def Z2C(r:Bool):OpOf Edit->List Tree->List Tree->Option (List Tree × List Tree)
 | ⟨k,n,l,e⟩,rest,out=>
  if k=0 then (if n.toNat<=rest.length then some (out++rest.take n.toNat,rest.drop n.toNat) else none)
  else if k=1 then (if JT l rest=true then some (out,rest.drop l.length) else none)
  else if k=2 then some (out++l,rest)
  else if rest.length=0 then none else (doE r e (rest.getD 0 Tree.nil)).map fun u=> (out++[u],rest.drop 1)
end
theorem Z18(r:Bool)(e:Edit)(t:Tree):doE r e t=(if e.kind=0 then some t
  else if e.kind=1 then (if Yf (Z0 e.old) (Z0 t)=true then some e.new else none)
  else if e.kind=2 then (if t.kind=1 then (wsD t.words e.words t.words).bind fun a=> (Jy r t.kids e.kids t.kids).map fun b=> .mk 1 a b else none)
  else if e.kind=3 then (if t.kind=e.list then (Z22 (ZM r e.ops t.kids [])).map fun b=> .mk e.list [] b else none)
  else none).map (nrD r):=by cases e;rfl
noncomputable def ZjV(r:Bool)(e:Edit)(t:Tree):Option Tree:=
 if e.kind=0 then some t
 else if e.kind=1 then (if Yf (Z0 e.old) (Z0 t)=true then some e.new else none)
 else if e.kind=2 then (if t.kind=1 then (wsD t.words e.words t.words).bind fun a=> (Jy r t.kids e.kids t.kids).map fun b=> .mk 1 a b else none)
 else if e.kind=3 then (if t.kind=e.list then (Z22 (ZM r e.ops t.kids [])).map fun b=> .mk e.list [] b else none)
 else none
theorem Z63(r:Bool)(e:Edit)(t:Tree):doE r e t=(ZjV r e t).map (nrD r):=Z18 r e t
theorem Z5a(r:Bool)(tk:List Tree)(k:Kid):Z2v r tk k=doE r k.e (tk.getD k.at_.toNat Tree.nil):=by cases k;rfl
theorem YP(r:Bool)(o:Op)(rest out:List Tree):Z2C r o rest out=if o.kind=0 then (if o.n.toNat<=rest.length then some (out++rest.take o.n.toNat,rest.drop o.n.toNat) else none)
  else if o.kind=1 then (if JT o.l rest=true then some (out,rest.drop o.l.length) else none)
  else if o.kind=2 then some (out++o.l,rest)
  else if rest.length=0 then none else (doE r o.e (rest.getD 0 Tree.nil)).map fun u=> (out++[u],rest.drop 1):=by cases o;rfl
noncomputable def ZdQ(r:Bool)(e:Edit)(t:Tree):Option Tree:=
 if t.kind=1 then (wsD t.words e.words t.words).bind fun a=> (Jy r t.kids e.kids t.kids).map fun b=> .mk 1 a b else none
noncomputable def Z8H(r:Bool)(e:Edit)(t:Tree):Option (List Tree × List Tree):=if t.kind=e.list then ZM r e.ops t.kids [] else none
def Z1h(o:Option Tree):Tree:=o.getD Tree.nil
def Zyh(e:Edit)(o:Option (List Tree × List Tree)):Tree:=match o with | some x=> .mk e.list [] x.1 | none=> Tree.nil
noncomputable def ZdS(e:Edit)(t:Tree):Tree:=
 if e.kind=0 then t else if e.kind=1 then e.new else if e.kind=2 then Z1h (ZdQ false e t) else if e.kind=3 then Zyh e (Z8H false e t) else Tree.nil
theorem YA(o:Option Tree):o.map (nrD false)=o:=by cases o <;> rfl
theorem Zcm{e:Edit}{t u:Tree}(h:doE false e t=some u):ZdS e t=u:=by
 rw [Z18,YA] at h
 unfold ZdS
 split
 .grind
 .rename_i h0;rw [if_neg h0] at h
  split
  .grind
  .rename_i h1;rw [if_neg h1] at h
   split
   .rename_i s;rw [if_pos s] at h
    unfold Z1h ZdQ
    rw [h];try rfl
   .rename_i s;rw [if_neg s] at h
    split
    .rename_i h3;rw [if_pos h3] at h
     unfold Zyh Z8H
     split at h
     .rename_i h4;rw [if_pos h4]
      revert h
      cases ZM false e.ops t.kids [] with
      | none=> intro h;cases h
      | some x=>
       intro h
       simp only [Z22,Qn] at h
       grind
     .cases h
    grind
structure Wst where
 out:List Op
 gone:List Tree
 brought:List Tree
def Z0L(out:List Op)(g b:List Tree):List Op:=
 out++((if g.length=0 then [] else [⟨1,0,g,Edit.nil⟩])++(if b.length=0 then [] else [⟨2,0,b,Edit.nil⟩]))
def Z2u:List Op->Int->List Op
 | [],n=> [⟨0,n,[],Edit.nil⟩]
 | [o],n=> if o.kind=0 then [⟨o.kind,o.n+n,o.l,o.e⟩] else [o,⟨0,n,[],Edit.nil⟩]
 | o ::p ::r,n=> o ::Z2u (p ::r) n
def Zi(w:Wst):Wst:=⟨Z0L w.out w.gone w.brought,[],[]⟩
def Yr(w:Wst)(n:Int):Wst:=⟨Z2u (Zi w).out n,[],[]⟩
mutual
def Zj:Edit->Edit
 | .mk k o n w ks l os=>
  if k=1 then .mk k (Z0 o) (Z0 n) [] [] l []
  else if k=2 then .mk k Tree.nil Tree.nil w (Z0R ks) l []
  else if k=3 then .mk k Tree.nil Tree.nil [] [] l (Zi (J1 l os ⟨[],[],[]⟩)).out
  else .mk k Tree.nil Tree.nil [] [] l []
def Z0R:List (KidOf Edit)->List (KidOf Edit)
 | []=> []
 | k ::r=> Z1T k ::Z0R r
def Z1T:KidOf Edit->KidOf Edit
 | ⟨a,e⟩=> ⟨a,Zj e⟩
def J1(list:Int):List (OpOf Edit)->Wst->Wst
 | [],s=> s
 | o ::r,s=> J1 list r (Z1i list o s)
def Z1i(list:Int):OpOf Edit->Wst->Wst
 | ⟨k,n,l,e⟩,s=>
  if k=0 then Yr s n
  else if k=1 then ⟨s.out,s.gone++Z6 l,s.brought⟩
  else if k=2 then ⟨s.out,s.gone,s.brought++Z6 l⟩
  else if k=3 then (if Zh6 list (Zj e)=true then Yr s 1 else ⟨(Zi s).out++[⟨3,0,[],Zj e⟩],[],[]⟩)
  else s
end
theorem ZaT(e:Edit):Zj e=if e.kind=1 then .mk e.kind (Z0 e.old) (Z0 e.new) [] [] e.list []
  else if e.kind=2 then .mk e.kind Tree.nil Tree.nil e.words (Z0R e.kids) e.list []
  else if e.kind=3 then .mk e.kind Tree.nil Tree.nil [] [] e.list (Zi (J1 e.list e.ops ⟨[],[],[]⟩)).out
  else .mk e.kind Tree.nil Tree.nil [] [] e.list []:=by cases e;rfl
theorem Zio(k:Kid):Z1T k=⟨k.at_,Zj k.e⟩:=by cases k;rfl
theorem Z4Q(list:Int)(o:Op)(s:Wst):Z1i list o s=if o.kind=0 then Yr s o.n
  else if o.kind=1 then ⟨s.out,s.gone++Z6 o.l,s.brought⟩
  else if o.kind=2 then ⟨s.out,s.gone,s.brought++Z6 o.l⟩
  else if o.kind=3 then (if Zh6 list (Zj o.e)=true then Yr s 1 else ⟨(Zi s).out++[⟨3,0,[],Zj o.e⟩],[],[]⟩)
  else s:=by cases o;rfl
end Go.AM
namespace Go.AM.YtpjenobkibfpcaaGreat
open Go.AM Go.Proofs
theorem Zfz(a b:Tree):Yf a b=Yf b a:=by simp [Yf,eq_comm]
theorem Zfy(a:Tree):Yf a a=true:=by simp [Yf]
theorem Zt6(l:List Int):trim (trim l)=trim l:=by
 induction l with
 | nil=> rfl
 | cons x r ih=>
  rw [Z38]
  split
  .try rfl
  .rename_i h
   rw [Z38,ih,if_neg h]
theorem Znn(l:List Tree):Yp (Yp l)=Yp l:=by
 induction l with
 | nil=> rfl
 | cons x r ih=>
  rw [Z0g]
  split
  .try rfl
  .rename_i h
   rw [Z0g,ih,if_neg h]
def Normed:List Tree->Prop
 | []=> True
 | t ::r=> Z0 t=t/\Normed r
theorem Normed.eq:∀ {l:List Tree},Normed l->Yz l=l
 | [],_=> rfl
 | t ::r,h=> by simp only [Yz,h.1,Normed.eq h.2]
theorem Normed.trim:∀ {l:List Tree},Normed l->Normed (Yp l)
 | [],_=> trivial
 | t ::r,h=> by
  rw [Z0g]
  split
  .trivial
  .exact ⟨h.1,Normed.trim h.2⟩
mutual
theorem ZI:∀ (t:Tree),Z0 (Z0 t)=Z0 t
 | .mk k w ks=> by
  have h:=ZaV ks
  by_cases h0:k=0
  .simp [Z0,h0,Tree.nil]
  .by_cases h1:k=1
   .subst h1
    simp only [Z0,if_neg h0,if_true,Zt6,h.trim.eq,Znn]
   .simp only [Z0,if_neg h0,if_neg h1,h.eq]
theorem ZaV:∀ (ks:List Tree),Normed (Yz ks)
 | []=> trivial
 | t ::r=> ⟨ZI t,ZaV r⟩
end
end Go.AM.YtpjenobkibfpcaaGreat
