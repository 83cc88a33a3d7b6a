import Derived.Test.YtfapacabjkhepaaGreatWKL07
import Derived.Test.YtfapacabjkhepaaGreatWKD20
set_option linter.unusedSimpArgs false
set_option linter.unusedVariables false
namespace Go.AM.YtfapacabjkhepaaGreat
open Go.AM Go.Proofs
theorem Z6{n k:Nat}{rs:List ResultVar}{b b':Bool}(hr:rs=[ResultVar.tmp k])(h:b=b'):Y2 cfg n rs (.c (.bool b')) [] .ret (⟨[(k,.c (.bool b))],[],[]⟩:LSt U):=by
 subst hr h
 have hk:Nat.beq k k=true:=Nat.beq_refl k
 simp [Y2,ZFs,Zia,Zi9,Z8L,ZbG,LSt.toF,ZgQ,hk,ZfF,Z5k,J6,Z0j,leR,leL,leC,Zsz]
theorem Ys{n k:Nat}{rs:List ResultVar}{K:IntKind}{b b':Int}(hr:rs=[ResultVar.tmp k])(h:b=b'):Y2 cfg n rs (.c (.int K b')) [] .ret (⟨[(k,.c (.int K b))],[],[]⟩:LSt U):=by
 subst hr h
 have hk:Nat.beq k k=true:=Nat.beq_refl k
 simp [Y2,ZFs,Zia,Zi9,Z8L,ZbG,LSt.toF,ZgQ,hk,ZfF,Z5k,J6,Z0j,leR,leL,leC,Zsz]
theorem c83:Contract Tryz.prog cfg 83 Zeu:=by
 refine ZD4 ?_
 intro c _ _
 refine ZIK _ _ ?_;(try simp only [iB,vcT,forall_eq])
 (simp only [iB,vcS]);(try simp only [iB,vcT])
 refine ⟨fun h=> Ys rfl ?_,fun h=> ⟨fun h=> Ys rfl ?_,fun h=> ⟨fun h=> Ys rfl ?_,fun h=> ⟨fun h=> Ys rfl ?_,fun h=> ⟨fun h=> Ys rfl ?_,fun h=> ⟨fun h=> Ys rfl ?_,fun h=> Ys rfl ?_⟩⟩⟩⟩⟩⟩ <;> simp only [wd] <;> simp [*]
theorem ZsI(c:Int): -1<=wd c/\wd c<=64:=by
 unfold wd
 omega
theorem Zma(n:Int)(h0:0<=n)(h1:n < 18446744073709551616):IntKind.wrap .u64 (Int.tdiv n 2)=n / 2:=by
 rw [XB h0]
 simp [IntKind.wrap,IntKind.signed,IntKind.bits]
 omega
theorem c49:Contract Tryz.prog cfg 49 ZeF:=by
 refine ZDi c83 ?_
 intro c n _ hp
 simp only [Zpa] at hp
 have hw:=ZsI c
 refine ZJ6 _ _ _ ?_;(try simp only [iB,vcT,forall_eq])
 (simp only [iB,vcS]);(try simp only [iB,vcT])
 refine ⟨trivial,fun h=> Z6 rfl ?_,fun h=> ?_⟩
 .simp only [Zjp]
  simp
  omega
 .refine Z4 (ι:=Int × Int) (fun p=> ZaS c n p.1 p.2) (fun p=> 0<=p.2/\p.2<=wd c/\0<=p.1/\p.1 < 18446744073709551616/\(n < 2 ^ (wd c).toNat↔p.1 < 2 ^ (wd c - p.2).toNat)) (fun p=> (wd c - p.2).toNat) (n,0) rfl ⟨YL,YL,YL,YL,by simp⟩ ?_
  rintro ⟨m,i⟩ ⟨h1,h2,h3,h4,h5⟩
  dsimp only at*
  refine Zyc _ _ _ _ _ _ ?_;(try simp only [iB,vcT,forall_eq])
  (simp only [iB,vcS]);(try simp only [iB,vcT])
  refine ⟨fun hc=> ⟨YL,V3,(IntKind.wrap .u64 (Int.tdiv m 2),i+1),rfl,?_,YL⟩,fun hc=> Z6 rfl ?_⟩
  .rw [Zma m h3 h4]
   refine ⟨YL,YL,YL,YL,?_⟩
   dsimp only
   rw [h5,show (wd c - i).toNat=(wd c - (i+1)).toNat+1 by omega]
   omega
  .have e:(wd c - i).toNat=0:=YL
   rw [e] at h5
   simp only [Zjp]
   grind
theorem ZEC:Contract Tryz.prog cfg 150 Z9C:=by
 refine Zzf ?_
 intro c _ _
 refine ZH5 _ _ ?_;(try simp only [iB,vcT,forall_eq])
 (simp only [iB,vcS]);(try simp only [iB,vcT])
 have hw:=ZsI c
 refine ⟨fun h=> ?_,fun h=> ⟨YL,?_⟩⟩
 .have e:wd c= -1:=by unfold wd;omega
  simp only [Zms,e]
  exact ⟨⟨rfl,⟨⟨rfl,rfl⟩,trivial⟩,rfl,⟨rfl,trivial⟩,trivial⟩,trivial⟩
 .have hc:c=0\/c=1\/c=2\/c=3\/c=4\/c=5:=YL
  rcases hc with rfl | rfl | rfl | rfl | rfl | rfl <;> exact ⟨⟨rfl,⟨⟨rfl,rfl⟩,trivial⟩,rfl,⟨rfl,trivial⟩,trivial⟩,trivial⟩
theorem Zwl(n:Int)(w:Nat)(h:0<=n):(Int.fdiv n (2 ^ w)=0)↔n < 2 ^ w:=by
 have hp:(0:Int) < 2 ^ w:=XK YL
 rw [Int.fdiv_eq_ediv_of_nonneg _ YL]
 constructor
 .intro h1
  have:=Int.lt_ediv_add_one_mul_self n hp
  grind
 .intro h1
  exact Int.ediv_eq_zero_of_lt h h1
theorem ZEJ:Contract Tryz.prog cfg 134 ZeF:=by
 refine Zzn ZEC ?_
 intro c n _ hp
 simp only [Zpa] at hp
 have hw:=ZsI c
 refine ZHi _ _ _ ?_;(try simp only [iB,vcT,forall_eq])
 refine ⟨trivial,fun h=> by omega,fun a b=> by grind,Z6 rfl ?_⟩
 simp only [Zjp]
 by_cases h0:0<=wd c
 .rw [V0]
  simp only [h0,decide_true,cond_true,true_and]
  by_cases h64:wd c=64
  .grind
  .have:((wd c)==64)=false:=by simpa using h64
   rw [this,cond_false,Qr]
   have hm:min (wd c).toNat (IntKind.bits .u64)=(wd c).toNat:=by
    show min (wd c).toNat 64=_
    omega
   rw [hm]
   simp only [beq_iff_eq,decide_eq_true_eq]
   exact Zwl n _ hp.1
 .simp [h0]
theorem c93:Contract Tryz.prog cfg 93 Z3S:=by
 refine ZD1 ?_
 intro c _ _
 refine ZIH _ _ ?_;(try simp only [iB,vcT,forall_eq])
 refine Z6 rfl ?_
 rw [Qr]
 (simp only [iB,vcS])
theorem Zso:Contract Tryz.prog cfg 128 Z3y:=by
 refine Zzr ?_
 intro c _ _
 refine ZHm _ _ ?_;(try simp only [iB,vcT,forall_eq])
 refine Z6 rfl ?_
 rw [Qr]
 (simp only [iB,vcS])
theorem Zkm{t:Tree}(h:rng t){i:Nat}(hi:i < t.words.length):0<=t.words.getD i 0/\t.words.getD i 0 < 18446744073709551616:=by
 obtain ⟨k,w,ks⟩:=t
 simp only [rng] at h
 simp_all
theorem c94:Contract Tryz.prog cfg 94 Zet:=by
 refine ZD0 Zso ZEJ ?_
 intro l t _ hp
 simp only [Zp7] at hp
 refine ZIG _ _ _ ?_;(try simp only [iB,vcT,forall_eq])
 (simp only [iB,vcS]);(try simp only [iB,vcT])
 refine ⟨trivial,fun hd=> ⟨fun _=> by unfold InR;omega,fun h=> by omega,fun h=> Zkm hp YL,Z6 rfl ?_⟩,fun hd=> ⟨fun h=> Z6 rfl ?_,fun h=> Z6 rfl ?_⟩⟩
 .simp only [Z0L,if_pos hd,Int.toNat_zero]
  grind
 .simp only [Z0L,if_neg hd,if_pos h]
  grind
 .simp only [Z0L,if_neg hd,if_neg h]
  grind
theorem ZcN{l:Int}{ks:List Tree}{i:Int}{d:Int}(h0:0<=i)(h:i < ks.length):
  Yv l (ks.drop i.toNat) d=((Z0L l (ks.getD i.toNat Tree.nil) && Ze (ks.getD i.toNat Tree.nil) d) && Yv l (ks.drop (i+1).toNat) d):=by
 have e:(i+1).toNat=i.toNat+1:=YL
 rw [QL YL,e]
 simp only [Yv,List.getD,Q4 (show i.toNat < ks.length by omega),Xg]
theorem Zf1:∀ {ks:List Tree} {i:Nat},Yl ks->i < ks.length->rng (ks.getD i Tree.nil)
 | t ::_,0,h,_=> by simp only [Yl] at h;exact h.1
 | _ ::r,i+1,h,hi=> by simp only [Yl] at h;exact Zf1 (ks:=r) (i:=i) h.2 (by simpa using hi)
theorem Zlv(t:Tree):Z0L 1 t=decide (t.kind≠10):=by simp [Z0L]
theorem c61:Contract Tryz.prog cfg 61 ZeD:=by
 refine ZDc c93 c94 ?_
 rintro N ⟨k,ws,ks⟩ d _ hp hN
 simp only [ZcX,Zl7,Zm,rng] at hp hN
 have key:∀ b,d≠0->Ze (.mk k ws ks) d=(b && Yv k ks (d - 1))->b=true->
   Zj (awp cfg (Z1 (Z9a N)) (Z09 cfg (Z1 (Z9a N))) Tryz.f61.ntmps ZrW (cd Tryz.f61 [1,1,0,1,0,0])) (Z4H (.mk k ws ks) d 0) (AExit.inBlock 1 (ZHz cfg (Z1 (Z9a N)) (Z09 cfg (Z1 (Z9a N))) Tryz.f61.ntmps ZrW (cd Tryz.f61 [1,1,1]) (Y2 cfg Tryz.f61.ntmps Tryz.f61.results.toList (ZoR (.mk k ws ks,d,())) []))):=by
  intro b hd0 hb hbt
  subst hbt
  rw [QX] at hb
  refine Z4 (ι:=Int) (fun p=> Z4H (.mk k ws ks) d p) (fun p=> 0<=p/\p<=ks.length/\Ze (.mk k ws ks) d=Yv k (ks.drop p.toNat) (d - 1)) (fun p=> ((ks.length:Int) - p).toNat) 0 rfl ⟨YL,YL,by simpa using hb⟩ ?_
  rintro i ⟨h1,h2,h3⟩
  refine Zy0 N _ _ _ _ _ ?_;(try simp only [iB,vcT,forall_eq])
  (simp only [iB,vcS]);(try simp only [iB,vcT])
  try (simp only [Tree.eta,Edit.eta,Tree.kind_mk,Tree.words_mk,Tree.kids_mk])
  refine ⟨fun hi=> ⟨⟨YL,hi⟩,?_⟩,fun hi=> ?_⟩
  .have hd:=ZcN (l:=k) (d:=d - 1) h1 hi
   have hm:=Z0e (ks:=ks) (i:=i.toNat) YL
   have hr:=Zf1 (i:=i.toNat) hp.2.1.2.2 YL
   rw [hd] at h3
   have hlen:=Zv ks
   generalize ks.getD i.toNat Tree.nil=y at*
   have hpre:ZcX (y,d - 1,()):=⟨V5,hr,V5,V5⟩
   have hmu:Zl7 (y,d - 1,()) < N:=by simp only [Zl7];omega
   have hin:InR (d - 1):=V3
   refine ⟨fun hk=> ⟨hr,fun _=> hin,fun _=> hpre,fun _=> hmu,fun hc=> Z6 rfl ?_,fun hc=> ⟨V3,i+1,rfl,⟨YL,YL,?_⟩,YL⟩⟩,fun hk=> ⟨fun _=> hin,fun _=> hpre,fun _=> hmu,fun hc=> Z6 rfl ?_,fun hc=> ⟨V3,i+1,rfl,⟨YL,YL,?_⟩,YL⟩⟩⟩
   .grind
   .grind
   .subst hk
    rw [h3,Zlv]
    grind
   .subst hk
    rw [h3,Zlv,hc.2]
    simp [hc.1]
  .rw [QA YL] at h3
   simp only [Yv] at h3
   exact Z6 rfl h3.symm
 refine ZIZ N _ _ _ ?_;(try simp only [iB,vcT,forall_eq])
 (simp only [iB,vcS]);(try simp only [iB,vcT])
 try (simp only [Tree.eta,Edit.eta,Tree.kind_mk,Tree.words_mk,Tree.kids_mk])
 have hk0:∀ h0:k=0,Ze (.mk k ws ks) d=decide (ws.length=0/\ks.length=0):=fun h0=> by simp only [Ze,if_pos h0]
 have hk10:∀ (_:¬k=0) (h10:k=10),Ze (.mk k ws ks) d=decide (ws.length=1/\ks.length=0):=fun h0 h10=> by simp only [Ze,if_neg h0,if_pos h10]
 refine ⟨fun h0=> Z6 rfl ?_,fun h0=> ⟨fun h10=> Z6 rfl ?_,fun h10=> ⟨fun hd=> Z6 rfl ?_,fun hd=> ⟨fun h1=> ⟨fun hc=> Z6 rfl ?_,fun hc=> key true hd ?_ rfl⟩,fun h1=> ⟨trivial,fun hc=> Z6 rfl ?_,fun hc=> key true hd ?_ rfl⟩⟩⟩⟩⟩
 .grind
 .grind
 .simp only [Ze,if_neg h0,if_neg h10,if_pos hd]
 .simp only [Ze,if_neg h0,if_neg h10,if_neg hd,if_pos h1]
  grind
 .simp only [Ze,if_neg h0,if_neg h10,if_neg hd,if_pos h1]
  grind
 .simp only [Ze,if_neg h0,if_neg h10,if_neg hd,if_neg h1]
  grind
 .simp only [Ze,if_neg h0,if_neg h10,if_neg hd,if_neg h1]
  grind
theorem c30:Contract Tryz.prog cfg 30 Z31:=by
 refine ZDu c61 ?_
 intro t _ hp
 refine ZJl _ _ ?_;(try simp only [iB,vcT,forall_eq])
 try (simp only [Tree.eta,Edit.eta,Tree.kind_mk,Tree.words_mk,Tree.kids_mk])
 exact ⟨⟨hp.1,hp.2,by grind,by grind⟩,Z6 rfl rfl⟩
theorem Zks{y:Tree}{d:Int}(h:Ze y d=true)(hk:y.kind=10):y.words.length=1/\y.kids.length=0:=by
 obtain ⟨k,w,ks⟩:=y
 simp only [Tree.kind_mk] at hk
 subst hk
 simpa [Ze] using h
theorem c20:Contract Tryz.prog cfg 20 ZeD:=by
 refine ZDA c49 ?_
 rintro N ⟨k,ws,ks⟩ d _ hp hN
 simp only [ZcX,Zl7,Zm,rng] at hp hN
 refine ZJs N _ _ _ ?_;(try simp only [iB,vcT,forall_eq])
 (simp only [iB,vcS]);(try simp only [iB,vcT])
 try (simp only [Tree.eta,Edit.eta,Tree.kind_mk,Tree.words_mk,Tree.kids_mk])
 refine ⟨fun h0=> Z6 rfl ?_,fun h0=> ⟨fun h10=> Z6 rfl ?_,fun h10=> ⟨fun a b=> ⟨a,b⟩,fun hc=> Z6 rfl ?_,fun hc=> ⟨fun hw=> Z6 rfl ?_,fun hw=> ?_⟩⟩⟩⟩
 .simp only [Ze,if_pos h0]
  rw [Qr];(simp only [iB,vcS]);omega
 .simp only [Ze,if_neg h0,if_pos h10]
  rw [Qr];(simp only [iB,vcS]);omega
 .simp only [Ze,if_neg h0,if_neg h10]
  split
  .try rfl
  .split
   .rw [decide_eq_false YL];try rfl
   .have:¬(2<=k/\k<=9/\ws.length=0/\ks.length < 1048576):=YL
    rw [decide_eq_false this];try rfl
 .simp only [Ze,if_neg h0,if_neg h10]
  rw [V0,V0]
  have:¬(2<=k/\k<=9/\ws.length=0/\ks.length < 1048576):=YL
  rw [decide_eq_false this];try rfl
 .have hb:Ze (.mk k ws ks) d=Yv k ks (d - 1):=by
   simp only [Ze,if_neg h0,if_neg h10]
   rw [V0]
   split
   .rename_i h1
    rw [decide_eq_true YL,h1];try rfl
   .have:2<=k/\k<=9/\ws.length=0/\ks.length < 1048576:=YL
    rw [decide_eq_true this];try rfl
  refine Z4 (ι:=Int) (fun p=> Zb9 (.mk k ws ks) d p) (fun p=> 0<=p/\p<=ks.length/\Ze (.mk k ws ks) d=Yv k (ks.drop p.toNat) (d - 1)) (fun p=> ((ks.length:Int) - p).toNat) 0 rfl ⟨YL,YL,by simpa using hb⟩ ?_
  rintro i ⟨h1,h2,h3⟩
  refine Zyu N _ _ _ _ _ ?_;(try simp only [iB,vcT,forall_eq])
  (simp only [iB,vcS]);(try simp only [iB,vcT])
  try (simp only [Tree.eta,Edit.eta,Tree.kind_mk,Tree.words_mk,Tree.kids_mk])
  refine ⟨fun hi=> ?_,fun hi=> ?_⟩
  .have hd:=ZcN (l:=k) (d:=d - 1) h1 hi
   have hm:=Z0e (ks:=ks) (i:=i.toNat) YL
   have hr:=Zf1 (i:=i.toNat) hp.2.1.2.2 YL
   rw [hd] at h3
   have hlen:=Zv ks
   generalize ks.getD i.toNat Tree.nil=y at*
   have hpre:ZcX (y,d - 1,()):=⟨V5,hr,V5,V5⟩
   have hmu:Zl7 (y,d - 1,()) < N:=by simp only [Zl7];omega
   have hin:InR (d - 1):=V3
   refine ⟨⟨h1,hi⟩,hin,hpre,hmu,fun hf=> Z6 rfl ?_,fun hf=> ?_⟩
   .rw [h3,hf];simp
   .have hdata:((bif decide (2<=k) then decide (k<=7) else false)=(y.kind==10))↔((2<=k/\k<=7)↔y.kind=10):=by
     rw [Qr];(simp only [iB,vcS])
    have hat:=Zks hf
    have hkb:Z0L k y=true↔(((2<=k/\k<=7)↔y.kind=10)/\(¬k=9\/y.kind=1))/\((¬2<=k\/¬k<=7)\/Zjp (k - 2) (y.words.getD 0 0)=true):=by
     unfold Z0L
     by_cases hk:2<=k/\k<=7
     .rw [if_pos hk]
      (simp only [iB,vcS])
      constructor
      .rintro ⟨h4,h5⟩;exact ⟨⟨YL,YL⟩,.inr h5⟩
      .rintro ⟨⟨h4,_⟩,h5⟩
       have:=hat YL
       exact ⟨YL,by rcases h5 with h5 | h5;omega;exact h5⟩
     .rw [if_neg hk]
      by_cases h9:k=9
      .rw [if_pos h9]
       (simp only [iB,vcS])
       constructor
       .intro h4;exact ⟨⟨YL,YL⟩,.inl YL⟩
       .rintro ⟨⟨_,h4⟩,_⟩;omega
      .rw [if_neg h9]
       (simp only [iB,vcS])
       constructor
       .intro h4;exact ⟨⟨YL,YL⟩,.inl YL⟩
       .rintro ⟨⟨h4,_⟩,_⟩;omega
    have hone:∀ (h4:(((bif decide (2<=k) then decide (k<=7) else false)=(y.kind==10)/\(¬k=9\/y.kind=1))/\2<=k/\k<=7)),y.words.length=1:=fun h4=> (hat ((hdata.1 h4.1.1).1 h4.2)).1
    simp only [Int.toNat_zero]
    refine ⟨fun a b=> ⟨a,b⟩,fun h4=> by unfold InR;omega,fun h4=> by have:=hone h4;omega,fun h4=> Zkm hr (by have:=hone h4;omega),fun a b=> ⟨a,b⟩,fun h4=> Z6 rfl ?_,fun h4=> ⟨V3,i+1,rfl,⟨YL,YL,?_⟩,YL⟩⟩
    .have hno:Z0L k y=false:=by
      cases hkk:Z0L k y with
      | false=> rfl
      | true=>
       exfalso
       obtain ⟨h5,h6⟩:=hkb.1 hkk
       rcases h4 with h4 | ⟨h4,h7⟩
       .rcases h4 with h4 | h4
        .exact h4 (hdata.2 h5.1)
        .omega
       .rcases h6 with h6 | h6
        .omega
        .rw [h7] at h6;cases h6
     rw [h3,hno];try rfl
    .rw [h3,hkb.2 ⟨⟨hdata.1 h4.1.1,h4.1.2⟩,h4.2⟩,hf];try rfl
  .rw [QA YL] at h3
   simp only [Yv] at h3
   exact Z6 rfl h3.symm
noncomputable section
def ZqW:ArgL (Int × Unit):=(.cons (Ya .u64) .nil)
def Z5u(a:Int × Unit):Prop:=0<=a.1/\a.1 < 18446744073709551616
def Zmt(a:Int × Unit):V U:= .agg [.int .u8 (Z0 a.1 0),.int .u8 (Z0 a.1 1),.int .u8 (Z0 a.1 2),.int .u8 (Z0 a.1 3),.int .u8 (Z0 a.1 4),.int .u8 (Z0 a.1 5),.int .u8 (Z0 a.1 6),.int .u8 (Z0 a.1 7)]
def Z3x:Fs U:=fs ZqW (fun a=> [Z5u a]) Zmt
def ZqV:ArgL (Int × Int × Unit):=(.cons (Ya .u8) (.cons (Ya .i64) .nil))
def ZbR(a:Int × Int × Unit):Prop:=(0<=a.1/\a.1 < 256)/\0<=a.2.1/\a.2.1<=8
def Zuh(a:Int × Int × Unit):V U:= .c (.bool (ZB a.1 a.2.1))
def Z3w:Fs U:=fs ZqV (fun a=> [ZbR a]) Zuh
def ZqU:ArgL (List Int × Int × Unit):=(.cons (aSl .u8) (.cons (Ya .i64) .nil))
def ZfB(a:List Int × Int × Unit):Prop:=a.2.1=0/\a.1.length=8/\∀ x∈a.1,0<=x/\x < 256
def Zug(a:List Int × Int × Unit):V U:= .c (.int .u64 (of8 (fun i=> a.1.getD i 0)))
def Z3v:Fs U:=fs ZqU (fun a=> [ZfB a]) Zug
def ZwT:ArgL (Int × Int × Int × Unit):=(.cons (Ya .u64) (.cons (Ya .u64) (.cons (Ya .u8) .nil)))
def ZcW(a:Int × Int × Int × Unit):Prop:=(0<=a.1/\a.1 < 18446744073709551616)/\(0<=a.2.1/\a.2.1 < 18446744073709551616)/\(0<=a.2.2.1/\a.2.2.1 < 256)
def ZBv(a:Int × Int × Int × Unit):V U:= .c (.int .u64 (mix a.1 a.2.1 a.2.2.1))
def Z53:Fs U:=fs ZwT (fun a=> [ZcW a]) ZBv
def Z6d(a:Tree × Unit):Prop:=Zm a.1<=20000000000
def ZBz(a:Tree × Unit):V U:= .c (.bool (Yz a.1))
def Z56:Fs U:=fs Zxh (fun a=> [Z6d a]) ZBz
def Zx2:ArgL (Int × Int × Unit):=(.cons (Ya .u64) (.cons (Ya .u8) .nil))
def Zp9(a:Int × Int × Unit):Prop:=(0<=a.1/\a.1 < 18446744073709551616)/\(0<=a.2.1/\a.2.1 < 256)
def ZBy(a:Int × Int × Unit):V U:= .c (.bool (Y9 a.1 a.2.1))
def ZbD:Fs U:=fs Zx2 (fun a=> [Zp9 a]) ZBy
def ZwS:ArgL (Edit × Unit):=(.cons (aEl .edit) .nil)
def Zfl(a:Edit × Unit):Prop:=Z8 a.1<=20000000000
def ZBu(a:Edit × Unit):V U:= .c (.bool (Z1k a.1))
def ZbB:Fs U:=fs ZwS (fun a=> [Zfl a]) ZBu
def ZkO(a:Edit × Unit):Prop:=Z8 a.1<=20000000000/\∀ o∈Edit.ops a.1,0<=o.n/\o.n<=1048576
def ZtR(a:Edit × Unit):V U:= .tup [(false,[ci (Z1i a.1.ops 0)]),(false,[ci (Z1h a.1.ops 0)])]
def Z55:Fs U:=fs ZwS (fun a=> [ZkO a]) ZtR
def ZnW:ArgL (Edit × Int × Int × Unit):=(.cons (aEl .edit) (.cons (Ya .i64) (.cons (Ya .i64) .nil)))
def Zfo(a:Edit × Int × Int × Unit):Prop:=Z3V a.1/\0<=a.2.1/\a.2.1<=4611686018427387904/\-1<=a.2.2.1/\a.2.2.1<=4611686018427387904
def Zl8(a:Edit × Int × Int × Unit):Nat:=Z8 a.1
def ZoT(a:Edit × Int × Int × Unit):V U:= .c (ci (Z0X a.1 a.2.1 a.2.2.1))
def ZeE:Fs U:=fs ZnW (fun a=> [Zfo a]) ZoT
def ZuD(a:Edit × Unit):Prop:=Z3V a.1
def ZBE(a:Edit × Unit):V U:= .c (.bool (decide (0<=Z0X a.1 80 3000)))
def ZeL:Fs U:=fs ZwS (fun a=> [ZuD a]) ZBE
def ZpC:Zd U:=lvl [([0,2],[2]),([0,2,3],[2,3]),([0,2,3,4],[2,3]),([0,2,3,4,7],[2,3]),([0,2,3,4],[2,3]),([0,2,3,4],[2,3]),([0,2,3,4],[2,3]),([2],[2])]
def Z4N(w x0 x4 ml3_0 ml3_1 ml3_2 ml3_3 ml3_4 ml3_5 ml3_6 ml3_7:Int):LSt U:=(L2 [(0,.c (.int .u64 x0)),pL 2,pL 3,pI 4 x4] [(.loc 2,zc0),(.loc 3,[.int .u8 ml3_0,.int .u8 ml3_1,.int .u8 ml3_2,.int .u8 ml3_3,.int .u8 ml3_4,.int .u8 ml3_5,.int .u8 ml3_6,.int .u8 ml3_7])])
abbrev ZGB(p:List Nat):=AW (Z1 Znz) Tryz.f131 ZpC p
abbrev ZIg(p:List Nat):=SW (Z1 Znz) Tryz.f131 ZpC p
theorem ZHl(w:Int)(Q:QT)(h:(Zj (ZGB [1,1,0,1,0,0]) (Z4N w w 0 0 0 0 0 0 0 0 0) (xB 0 (ZIg [1,1,1] Q)))):
  ZGB [] (L2 [(0,.c (.int .u64 w))] []) Q:=
 Eq.mpr V4 h
theorem Ztj(w x0 x4 ml3_0 ml3_1 ml3_2 ml3_3 ml3_4 ml3_5 ml3_6 ml3_7:Int)(N0:NT)(Q:QT)(h:let z0:=IntKind.wrap .u8 (Int.tmod x0 256);(iB (decide (x4 < 8)) (((256:Int)≠0)/\((0:Int)<=x4/\x4 < ((8:Nat):Int))/\(((256:Int)≠0)/\((InR (x4+1))/\(N0 (Z4N w (IntKind.wrap .u64 (Int.tdiv x0 256)) (x4+1) (Yf x4 0 z0 ml3_0) (Yf x4 1 z0 ml3_1) (Yf x4 2 z0 ml3_2) (Yf x4 3 z0 ml3_3) (Yf x4 4 z0 ml3_4) (Yf x4 5 z0 ml3_5) (Yf x4 6 z0 ml3_6) (Yf x4 7 z0 ml3_7)))))) ((Q .ret (L2 [pL 2] [(.loc 2,[.int .u8 ml3_0,.int .u8 ml3_1,.int .u8 ml3_2,.int .u8 ml3_3,.int .u8 ml3_4,.int .u8 ml3_5,.int .u8 ml3_6,.int .u8 ml3_7])]))))):
  ZGB [1,1,0,1,0,0] (Z4N w x0 x4 ml3_0 ml3_1 ml3_2 ml3_3 ml3_4 ml3_5 ml3_6 ml3_7) (xT N0 (xB 0 (ZIg [1,1,1] Q))):=
 Eq.mpr V4 h
def ZB9(w:Int):Prop:=AW (Z1 Znz) Tryz.f131 ZpC [] (Zg (ZqW.can (w,())) []) (EQ Tryz.f131 (Zmt (w,())) [])
theorem Zzq(hb:∀ (w:Int) (_:Unit),Z5u (w,())->ZB9 w):CT 131 Z3x:=
 Z2 (l:=[]) Zi rfl trivial ZpC Tryz.func131 rfl rfl 1 (fun _=> rfl) V2 (fun ⟨w,_⟩=> hb w ())
def ZpB:Zd U:=lvl [([0,1],[]),([0,1,5],[]),([0,1,5,8],[]),([0,1,5],[]),([0,1,5],[]),([4],[])]
def Z7O(m i x0 x5:Int):LSt U:=(L2 [(0,.c (.int .u8 x0)),pI 1 i,pI 5 x5] [])
abbrev ZGA(p:List Nat):=AW (Z1 Znz) Tryz.f132 ZpB p
abbrev ZIf(p:List Nat):=SW (Z1 Znz) Tryz.f132 ZpB p
theorem ZHk(m i:Int)(Q:QT)(h:(Zj (ZGA [1,0,1,0,0]) (Z7O m i m 0) (xB 0 (ZIf [1,1] Q)))):
  ZGA [] (L2 [(0,.c (.int .u8 m)),pI 1 i] []) Q:=
 Eq.mpr V4 h
theorem Zti(m i x0 x5:Int)(N0:NT)(Q:QT)(h:(iB (decide (x5 < i)) (((2:Int)≠0)/\((InR (x5+1))/\(N0 (Z7O m i (IntKind.wrap .u8 (Int.tdiv x0 2)) (x5+1))))) (((2:Int)≠0)/\(Q .ret (L2 [pB 4 (((Int.tmod x0 2):Int)==1)] []))))):
  ZGA [1,0,1,0,0] (Z7O m i x0 x5) (xT N0 (xB 0 (ZIf [1,1] Q))):=
 Eq.mpr V4 h
def ZB8(m i:Int):Prop:=AW (Z1 Znz) Tryz.f132 ZpB [] (Zg (ZqV.can (m,i,())) []) (EQ Tryz.f132 (Zuh (m,i,())) [])
theorem Zzp(hb:∀ (m:Int) (i:Int) (_:Unit),ZbR (m,i,())->ZB8 m i):CT 132 Z3w:=
 Z2 (l:=[]) Zi rfl trivial ZpB Tryz.func132 rfl rfl 2 (fun _=> rfl) V2 (fun ⟨m,i,_⟩=> hb m i ())
def ZpA:Zd U:=lvl [([0,1],[]),([0,1,5],[]),([0,1,5,6],[]),([0,1,5,6,8],[]),([0,1,5,6],[]),([0,1,5,6],[]),([4],[])]
def Z7N(b:List Int)(from_ x5 x6:Int):LSt U:=(L2 [(0,.c (sU .u8 b .unk)),pI 1 from_,(5,.c (.int .u64 x5)),pI 6 x6] [])
abbrev ZGz(p:List Nat):=AW (Z1 Znz) Tryz.f133 ZpA p
abbrev ZIe(p:List Nat):=SW (Z1 Znz) Tryz.f133 ZpA p
theorem ZHj(b:List Int)(from_:Int)(Q:QT)(h:(Zj (ZGz [1,1,0,1,0,0]) (Z7N b from_ 0 7) (xB 0 (ZIe [1,1,1] Q)))):
  ZGz [] (L2 [(0,.c (sU .u8 b .unk)),pI 1 from_] []) Q:=
 Eq.mpr V4 h
theorem Zth(b:List Int)(from_ x5 x6:Int)(N0:NT)(Q:QT)(h:(iB (decide ((0:Int)<=x6)) ((InR (from_+x6))/\((0:Int)<=(from_+x6)/\(from_+x6) < (b.length:Int))/\((InR (x6 - 1))/\(N0 (Z7N b from_ (IntKind.wrap .u64 (((IntKind.wrap .u64 (x5*256)):Int)+(IntKind.wrap .u64 (List.getD b (Int.toNat (from_+x6)) (0:Int))))) (x6 - 1))))) ((Q .ret (L2 [(4,.c (.int .u64 x5))] []))))):
  ZGz [1,1,0,1,0,0] (Z7N b from_ x5 x6) (xT N0 (xB 0 (ZIe [1,1,1] Q))):=
 Eq.mpr V4 h
def ZB7(b:List Int)(from_:Int):Prop:=AW (Z1 Znz) Tryz.f133 ZpA [] (Zg (ZqU.can (b,from_,())) []) (EQ Tryz.f133 (Zug (b,from_,())) [])
theorem Zzo(hb:∀ (b:List Int) (from_:Int) (_:Unit),ZfB (b,from_,())->ZB7 b from_):CT 133 Z3v:=
 Z2 (l:=[]) Zi rfl trivial ZpA Tryz.func133 rfl rfl 2 (fun _=> rfl) V2 (fun ⟨b,from_,_⟩=> hb b from_ ())
def Znh:List (FuncId × Fs U):=[(131,Z3x),(132,Z3w),(133,Z3v)]
def Zzy:Zd U:=lvl [([0,1,2],[]),([2,7,8],[7,8]),([2,7,8,9],[7,8]),([2,7,8,9,15],[7,8]),([2,7,8,9],[7,8]),([2,7,8,9,20],[7,8]),([2,7,8,9],[7,8]),([6],[])]
def Z4F(a b m x9 ml7_0 ml7_1 ml7_2 ml7_3 ml7_4 ml7_5 ml7_6 ml7_7:Int):LSt U:=(L2 [(2,.c (.int .u8 m)),pL 7,pL 8,pI 9 x9] [(.loc 7,[.int .u8 ml7_0,.int .u8 ml7_1,.int .u8 ml7_2,.int .u8 ml7_3,.int .u8 ml7_4,.int .u8 ml7_5,.int .u8 ml7_6,.int .u8 ml7_7]),(.loc 8,[.int .u8 (Z0 b 0),.int .u8 (Z0 b 1),.int .u8 (Z0 b 2),.int .u8 (Z0 b 3),.int .u8 (Z0 b 4),.int .u8 (Z0 b 5),.int .u8 (Z0 b 6),.int .u8 (Z0 b 7)])])
abbrev A91(p:List Nat):=AW (Z1 Znh) Tryz.f91 Zzy p
abbrev S91(p:List Nat):=SW (Z1 Znh) Tryz.f91 Zzy p
theorem ZIJ(a b m:Int)(Q:QT)(h:((Z5u (a,()))/\(Z5u (b,()))/\(Zj (A91 [1,1,0,1,0,0]) (Z4F a b m 0 (Z0 a 0) (Z0 a 1) (Z0 a 2) (Z0 a 3) (Z0 a 4) (Z0 a 5) (Z0 a 6) (Z0 a 7)) (xB 0 (S91 [1,1,1] Q))))):
  A91 [] (L2 [(0,.c (.int .u64 a)),(1,.c (.int .u64 b)),(2,.c (.int .u8 m))] []) Q:=
 Eq.mpr V4 h
theorem ZxK(a b m x9 ml7_0 ml7_1 ml7_2 ml7_3 ml7_4 ml7_5 ml7_6 ml7_7:Int)(N0:NT)(Q:QT)(h:let z0:=List.getD [Z0 b 0,Z0 b 1,Z0 b 2,Z0 b 3,Z0 b 4,Z0 b 5,Z0 b 6,Z0 b 7] x9.toNat 0;(iB (decide (x9 < 8)) ((ZbR (m,x9,()))/\(iB (ZB m x9) (((0:Int)<=x9/\x9 < ((8:Nat):Int))/\((0:Int)<=x9/\x9 < ((8:Nat):Int))/\((InR (x9+1))/\(N0 (Z4F a b m (x9+1) (Yf x9 0 z0 ml7_0) (Yf x9 1 z0 ml7_1) (Yf x9 2 z0 ml7_2) (Yf x9 3 z0 ml7_3) (Yf x9 4 z0 ml7_4) (Yf x9 5 z0 ml7_5) (Yf x9 6 z0 ml7_6) (Yf x9 7 z0 ml7_7))))) ((InR (x9+1))/\(N0 (Z4F a b m (x9+1) ml7_0 ml7_1 ml7_2 ml7_3 ml7_4 ml7_5 ml7_6 ml7_7))))) ((ZfB (([ml7_0,ml7_1,ml7_2,ml7_3,ml7_4,ml7_5,ml7_6,ml7_7]),0,()))/\(Q .ret (L2 [(6,.c (.int .u64 (of8 (fun i=> ([ml7_0,ml7_1,ml7_2,ml7_3,ml7_4,ml7_5,ml7_6,ml7_7]).getD i 0))))] []))))):
  A91 [1,1,0,1,0,0] (Z4F a b m x9 ml7_0 ml7_1 ml7_2 ml7_3 ml7_4 ml7_5 ml7_6 ml7_7) (xT N0 (xB 0 (S91 [1,1,1] Q))):=
 Eq.mpr V4 h
def ZFB(a b m:Int):Prop:=AW (Z1 Znh) Tryz.f91 Zzy [] (Zg (ZwT.can (a,b,m,())) []) (EQ Tryz.f91 (ZBv (a,b,m,())) [])
theorem ZD3(Zsn:CT 131 Z3x)(Zsm:CT 132 Z3w)(Zsl:CT 133 Z3v)(hb:∀ (a:Int) (b:Int) (m:Int) (_:Unit),ZcW (a,b,m,())->ZFB a b m):CT 91 Z53:=
 Z2 (l:=[(131,Z3x),(132,Z3w),(133,Z3v)]) Zi rfl (⟨Zsn,Zsm,Zsl,trivial⟩) Zzy Tryz.func91 rfl rfl 3 (fun _=> rfl) V2 (fun ⟨a,b,m,_⟩=> hb a b m ())
abbrev A57(p:List Nat):=AW (Z1 Znz) Tryz.f57 ZE4 p
theorem ZJ3(t:Tree)(Q:QT)(h:((Tt (t.kind==0))/\(Tt (t.kind==0))/\(Tt (t.kind==0))/\(Tt (t.kind==0))/\(Tt (t.kind==0))/\(Tt (t.kind==0))/\((t.kind==0)=true->InR (((t.words.length:Int):Int)+(t.kids.length:Int)))/\(Tt (t.kind==0))/\(Tt (t.kind==0))/\(Q .ret (L2 [(2,.c (.bool (bif (t.kind==0) then (((((t.words.length:Int):Int)+(t.kids.length:Int)):Int)==0) else false)))] [])))):
  A57 [] (L2 [(0,.agg (enc .tree t))] []) Q:=
 Eq.mpr V4 h
def ZFV(t:Tree):Prop:=AW (Z1 Znz) Tryz.f57 ZE4 [] (Zg (Zxh.can (t,())) []) (EQ Tryz.f57 (ZBz (t,())) [])
theorem ZDf(hb:∀ (t:Tree) (_:Unit),Z6d (t,())->ZFV t):CT 57 Z56:=
 Z2 (l:=[]) Zi rfl trivial ZE4 Tryz.func57 rfl rfl 1 (fun _=> rfl) V2 (fun ⟨t,_⟩=> hb t ())
def Zw1:List (FuncId × Fs U):=[(91,Z53)]
def ZDT:Zd U:=lvl [([0,1],[]),([4],[])]
abbrev A58(p:List Nat):=AW (Z1 Zw1) Tryz.f58 ZDT p
theorem ZJ2(w m:Int)(Q:QT)(h:((ZcW (w,0,m,()))/\(Q .ret (L2 [pB 4 (((mix w 0 m):Int)==0)] [])))):
  A58 [] (L2 [(0,.c (.int .u64 w)),(1,.c (.int .u8 m))] []) Q:=
 Eq.mpr V4 h
def ZFU(w m:Int):Prop:=AW (Z1 Zw1) Tryz.f58 ZDT [] (Zg (Zx2.can (w,m,())) []) (EQ Tryz.f58 (ZBy (w,m,())) [])
theorem ZDe(c91:CT 91 Z53)(hb:∀ (w:Int) (m:Int) (_:Unit),Zp9 (w,m,())->ZFU w m):CT 58 ZbD:=
 Z2 (l:=[(91,Z53)]) Zi rfl (⟨c91,trivial⟩) ZDT Tryz.func58 rfl rfl 2 (fun _=> rfl) V2 (fun ⟨w,m,_⟩=> hb w m ())
def ZvT:List (FuncId × Fs U):=[(57,Z56)]
abbrev A92(p:List Nat):=AW (Z1 ZvT) Tryz.f92 ZE4 p
theorem ZII(e:Edit)(Q:QT)(h:∀ y_1,y_1=(e.new)->∀ y_2,y_2=(e.old)->let z2:=bif (e.kind==0) then (Yz y_2) else false;let z0:=bif z2 then (Yz y_1) else false;let z1:=bif z0 then (((((((e.words.length:Int):Int)+(e.kids.length:Int)):Int)+(e.ops.length:Int)):Int)==0) else false;((Tt (e.kind==0))/\(Tt (e.kind==0))/\((e.kind==0)=true->Z6d (y_2,()))/\(Tt (e.kind==0))/\(Tt z2)/\(Tt z2)/\(z2=true->Z6d (y_1,()))/\(Tt z2)/\(Tt z0)/\(Tt z0)/\(Tt z0)/\(Tt z0)/\(Tt z0)/\(Tt z0)/\(z0=true->InR (((e.words.length:Int):Int)+(e.kids.length:Int)))/\(Tt z0)/\(Tt z0)/\(Tt z0)/\(Tt z0)/\(z0=true->InR (((((e.words.length:Int):Int)+(e.kids.length:Int)):Int)+(e.ops.length:Int)))/\(Tt z0)/\(Tt z0)/\(Tt z1)/\(Tt z1)/\(Tt z1)/\(Q .ret (L2 [(2,.c (.bool (bif z1 then (e.list==0) else false)))] [])))):
  A92 [] (L2 [(0,.agg (enc .edit e))] []) Q:=
 Eq.mpr V4 (h _ (Za _) _ (Za _))
def ZFA(e:Edit):Prop:=AW (Z1 ZvT) Tryz.f92 ZE4 [] (Zg (ZwS.can (e,())) []) (EQ Tryz.f92 (ZBu (e,())) [])
theorem ZD2(c57:CT 57 Z56)(hb:∀ (e:Edit) (_:Unit),Zfl (e,())->ZFA e):CT 92 ZbB:=
 Z2 (l:=[(57,Z56)]) Zi rfl (⟨c57,trivial⟩) ZE4 Tryz.func92 rfl rfl 1 (fun _=> rfl) V2 (fun ⟨e,_⟩=> hb e ())
def ZzD:Zd U:=lvl [([1],[1]),([1,4,5],[1]),([1,4,5,6],[1]),([1,4,5,6,13],[1]),([1,4,5,6],[1]),([1,4,5,6,7],[1,7]),([1,4,5,6,7,8],[1,7]),([1,4,5,6,7,8,29],[1,7]),([1,4,5,6,7,8,29],[1,7]),([1,4,5,6,7,8,32],[1,7]),([1,4,5,6,7,8,32],[1,7]),([1,4,5,6,8,38],[1]),([1,4,5,6,8,38],[1]),([1,4,5,6,43],[1]),([1,4,5,6,43],[1]),([1,4,5,6,45],[1]),([1,4,5,6],[1]),([2,3],[])]
def Z3j(e:Edit)(x4 x5 x6:Int):LSt U:=(L2 [pL 1,pI 4 x4,pI 5 x5,pI 6 x6] [(.loc 1,(enc .edit e))])
def ZaM(e:Edit)(x4 x5 x6 x8_a:Int):LSt U:=(L2 [pL 1,pI 4 x4,pI 5 x5,pI 6 x6,pL 7,pI 8 x8_a,(29,.c (.bool (((OpOf.kind (e.ops.getD x6.toNat Op.nil)):Int)==3)))] [(.loc 1,(enc .edit e)),(.loc 7,(enc .op (e.ops.getD x6.toNat Op.nil)))])
def ZaL(e:Edit)(x5 x6 x8_a x4_b:Int):LSt U:=(L2 [pL 1,pI 4 x4_b,pI 5 x5,pI 6 x6,pL 7,pI 8 x8_a,(32,.c (.bool (((OpOf.kind (e.ops.getD x6.toNat Op.nil)):Int) !=2)))] [(.loc 1,(enc .edit e)),(.loc 7,(enc .op (e.ops.getD x6.toNat Op.nil)))])
def ZaK(e:Edit)(x6 x8_a x4_b x5_c:Int):LSt U:=(L2 [pL 1,pI 4 x4_b,pI 5 x5_c,pI 6 x6,pI 8 x8_a,(38,.c (.bool (((OpOf.kind (e.ops.getD x6.toNat Op.nil)):Int) !=1)))] [(.loc 1,(enc .edit e))])
def ZaJ(e:Edit)(x6 x4_b x5_c x4_d:Int):LSt U:=(L2 [pL 1,pI 4 x4_d,pI 5 x5_c,pI 6 x6,pB 43 (decide ((1048576:Int) < x4_b))] [(.loc 1,(enc .edit e))])
abbrev A60(p:List Nat):=AW (Z1 Znz) Tryz.f60 ZzD p
abbrev S60(p:List Nat):=SW (Z1 Znz) Tryz.f60 ZzD p
theorem ZJ0(e:Edit)(Q:QT)(h:(Zj (A60 [1,1,0,1,0,0]) (Z3j e 0 0 0) (xB 0 (S60 [1,1,1] Q)))):
  A60 [] (L2 [(0,.agg (enc .edit e))] []) Q:=
 Eq.mpr V4 h
abbrev ZFj(e:Edit)(x4 x5 x6:Int)(N0:NT)(Q:QT):Prop:=A60 [1,1,0,1,0,0] (Z3j e x4 x5 x6) (xT N0 (xB 0 (S60 [1,1,1] Q)))
theorem Zy1(e:Edit)(x4 x5 x6:Int)(N0:NT)(Q:QT)(h:let z1:=xB 1 (S60 [1,1,0,1,0,0,1,1] (xT N0 (xB 0 (S60 [1,1,1] Q))));let z0:=e.ops.getD x6.toNat Op.nil;(iB (decide (x6 < (e.ops.length:Int))) (((0:Int)<=x6/\x6 < (e.ops.length:Int))/\((InR (((OpOf.n z0):Int)+((OpOf.l z0).length:Int)))/\(iB (((OpOf.kind z0):Int)==3) ((A60 [1,1,0,1,0,0,1,0,0,1,1,1] (ZaM e x4 x5 x6 1) z1)) (A60 [1,1,0,1,0,0,1,0,0,1,1,1] (ZaM e x4 x5 x6 (((OpOf.n z0):Int)+((OpOf.l z0).length:Int))) z1)))) ((Q .ret (L2 [pI 2 x4,pI 3 x5] []))))):
  A60 [1,1,0,1,0,0] (Z3j e x4 x5 x6) (xT N0 (xB 0 (S60 [1,1,1] Q))):=
 Eq.mpr V4 h
abbrev ZFn(e:Edit)(x4 x5 x6 x8_a:Int)(N0:NT)(Q:QT):Prop:=A60 [1,1,0,1,0,0,1,0,0,1,1,1] (ZaM e x4 x5 x6 x8_a) (xB 1 (S60 [1,1,0,1,0,0,1,1] (xT N0 (xB 0 (S60 [1,1,1] Q)))))
theorem Zy5(e:Edit)(x4 x5 x6 x8_a:Int)(N0:NT)(Q:QT)(h:let z0:=xB 1 (S60 [1,1,0,1,0,0,1,1] (xT N0 (xB 0 (S60 [1,1,1] Q))));(iB (((OpOf.kind (e.ops.getD x6.toNat Op.nil)):Int) !=2) ((InR (x4+x8_a))/\(A60 [1,1,0,1,0,0,1,0,0,1,1,1,1] (ZaL e x5 x6 x8_a (x4+x8_a)) z0)) (A60 [1,1,0,1,0,0,1,0,0,1,1,1,1] (ZaL e x5 x6 x8_a x4) z0))):
  A60 [1,1,0,1,0,0,1,0,0,1,1,1] (ZaM e x4 x5 x6 x8_a) (xB 1 (S60 [1,1,0,1,0,0,1,1] (xT N0 (xB 0 (S60 [1,1,1] Q))))):=
 Eq.mpr V4 h
abbrev ZFm(e:Edit)(x5 x6 x8_a x4_b:Int)(N0:NT)(Q:QT):Prop:=A60 [1,1,0,1,0,0,1,0,0,1,1,1,1] (ZaL e x5 x6 x8_a x4_b) (xB 1 (S60 [1,1,0,1,0,0,1,1] (xT N0 (xB 0 (S60 [1,1,1] Q)))))
theorem Zy4(e:Edit)(x5 x6 x8_a x4_b:Int)(N0:NT)(Q:QT)(h:let z0:=xB 1 (S60 [1,1,0,1,0,0,1,1] (xT N0 (xB 0 (S60 [1,1,1] Q))));(iB (((OpOf.kind (e.ops.getD x6.toNat Op.nil)):Int) !=1) ((InR (x5+x8_a))/\(A60 [1,1,0,1,0,0,1,0,0,1,1,1,1,1] (ZaK e x6 x8_a x4_b (x5+x8_a)) z0)) (A60 [1,1,0,1,0,0,1,0,0,1,1,1,1,1] (ZaK e x6 x8_a x4_b x5) z0))):
  A60 [1,1,0,1,0,0,1,0,0,1,1,1,1] (ZaL e x5 x6 x8_a x4_b) (xB 1 (S60 [1,1,0,1,0,0,1,1] (xT N0 (xB 0 (S60 [1,1,1] Q))))):=
 Eq.mpr V4 h
abbrev ZFl(e:Edit)(x6 x8_a x4_b x5_c:Int)(N0:NT)(Q:QT):Prop:=A60 [1,1,0,1,0,0,1,0,0,1,1,1,1,1] (ZaK e x6 x8_a x4_b x5_c) (xB 1 (S60 [1,1,0,1,0,0,1,1] (xT N0 (xB 0 (S60 [1,1,1] Q)))))
theorem Zy3(e:Edit)(x6 x8_a x4_b x5_c:Int)(N0:NT)(Q:QT)(h:let z0:=xB 1 (S60 [1,1,0,1,0,0,1,1] (xT N0 (xB 0 (S60 [1,1,1] Q))));(iB (decide ((1048576:Int) < x4_b)) ((A60 [1,1,0,1,0,0,1,0,0,1,1,1,1,1,1] (ZaJ e x6 x4_b x5_c 1048576) z0)) (A60 [1,1,0,1,0,0,1,0,0,1,1,1,1,1,1] (ZaJ e x6 x4_b x5_c x4_b) z0))):
  A60 [1,1,0,1,0,0,1,0,0,1,1,1,1,1] (ZaK e x6 x8_a x4_b x5_c) (xB 1 (S60 [1,1,0,1,0,0,1,1] (xT N0 (xB 0 (S60 [1,1,1] Q))))):=
 Eq.mpr V4 h
abbrev ZFk(e:Edit)(x6 x4_b x5_c x4_d:Int)(N0:NT)(Q:QT):Prop:=A60 [1,1,0,1,0,0,1,0,0,1,1,1,1,1,1] (ZaJ e x6 x4_b x5_c x4_d) (xB 1 (S60 [1,1,0,1,0,0,1,1] (xT N0 (xB 0 (S60 [1,1,1] Q)))))
theorem Zy2(e:Edit)(x6 x4_b x5_c x4_d:Int)(N0:NT)(Q:QT)(h:(iB (decide ((1048576:Int) < x5_c)) (((InR (x6+1))/\(N0 (Z3j e x4_d 1048576 (x6+1))))) ((InR (x6+1))/\(N0 (Z3j e x4_d x5_c (x6+1)))))):
  A60 [1,1,0,1,0,0,1,0,0,1,1,1,1,1,1] (ZaJ e x6 x4_b x5_c x4_d) (xB 1 (S60 [1,1,0,1,0,0,1,1] (xT N0 (xB 0 (S60 [1,1,1] Q))))):=
 Eq.mpr V4 h
def ZFS(e:Edit):Prop:=AW (Z1 Znz) Tryz.f60 ZzD [] (Zg (ZwS.can (e,())) []) (EQ Tryz.f60 (ZtR (e,())) [])
theorem ZDd(hb:∀ (e:Edit) (_:Unit),ZkO (e,())->ZFS e):CT 60 Z55:=
 Z2 (l:=[]) Zi rfl trivial ZzD Tryz.func60 rfl rfl 1 (fun _=> rfl) V2 (fun ⟨e,_⟩=> hb e ())
def Zno(N:Nat):List (FuncId × Fs U):=(56,fs ZnW (fun a=> [Zfo a,Zl8 a < N]) ZoT) ::[(50,Z61)]
def ZzF:Zd U:=lvl [([1,2,3],[3]),([1,2,3],[3]),([1,2,3,25],[3]),([6],[]),([1,2,3],[3]),([1,2,3,31],[3]),([1,2,3,31],[3]),([1,2,3,7],[3]),([1,2,3,7,44],[3]),([1,2,3,7],[3]),([1,2,3,7],[3]),([1,2,3,8],[3]),([1,2,3,8,65],[3]),([1,2,3,8],[3]),([1,2,3,8,9],[3]),([1,2,3,8,9,80],[3]),([1,2,3,8,9],[3]),([1,2,3,8,9],[3]),([1,2,3,8,95],[3]),([1,2,3,8],[3]),([6],[])]
def ZaQ(e:Edit)(d n x2:Int):LSt U:=(L2 [pI 1 d,pI 2 x2,pL 3,(31,.c (.bool (decide ((0:Int)<=(ZJ (Tree.mk e.old.kind e.old.words e.old.kids) 80 ((((((n:Int) - 1):Int) - (e.words.length:Int)):Int) - (e.ops.length:Int)))))))] [(.loc 3,(enc .edit e))])
def ZaP(e:Edit)(d n x2_a x7_a:Int):LSt U:=(L2 [pI 1 d,pI 2 x2_a,pL 3,pI 7 x7_a] [(.loc 3,(enc .edit e))])
def Z6G(e:Edit)(d n x2_b x8_b:Int):LSt U:=(L2 [pI 1 d,pI 2 x2_b,pL 3,pI 8 x8_b] [(.loc 3,(enc .edit e))])
def ZaO(e:Edit)(d n x8_b x2_c x9_c:Int):LSt U:=(L2 [pI 1 d,pI 2 x2_c,pL 3,pI 8 x8_b,pI 9 x9_c] [(.loc 3,(enc .edit e))])
abbrev A56(N:Nat)(p:List Nat):=AW (Z1 (Zno N)) Tryz.f56 ZzF p
abbrev S56(N:Nat)(p:List Nat):=SW (Z1 (Zno N)) Tryz.f56 ZzF p
theorem ZJ4(N:Nat)(e:Edit)(d n:Int)(Q:QT)(h:∀ y_1,y_1=(e.new)->∀ y_2,y_2=(e.old)->∀ y_3,y_3=(ZJ y_2 80 (((((n - 1):Int) - (e.words.length:Int)):Int) - (e.ops.length:Int)))->((InR (n - 1))/\(InR (((n - 1):Int) - (e.words.length:Int)))/\(InR (((((n - 1):Int) - (e.words.length:Int)):Int) - (e.ops.length:Int)))/\((Tt (!(d==0)))/\((d==0)=false->(!(d==0))=true)/\(iB (bif (d==0) then true else (decide (((((((n - 1):Int) - (e.words.length:Int)):Int) - (e.ops.length:Int)):Int) < 0))) ((Q .ret (L2 [pI 6 (-1)] []))) ((Z9Y (y_2,80,(((((n - 1):Int) - (e.words.length:Int)):Int) - (e.ops.length:Int)),()))/\(iB (decide ((0:Int)<=y_3)) ((Z9Y (y_1,80,y_3,()))/\(A56 N [1,1,1,1,1] (ZaQ e d n (ZJ y_1 80 y_3)) Q)) (A56 N [1,1,1,1,1] (ZaQ e d n y_3) Q))))))):
  A56 N [] (L2 [(0,.agg (enc .edit e)),pI 1 d,pI 2 n] []) Q:=
 Eq.mpr V4 (h _ (Za _) _ (Za _) _ rfl)
abbrev ZFo(N:Nat)(e:Edit)(d n x2:Int)(Q:QT):Prop:=A56 N [1,1,1,1,1] (ZaQ e d n x2) Q
theorem Zya(N:Nat)(e:Edit)(d n x2:Int)(Q:QT)(h:(Zj (A56 N [1,1,1,1,1,0,1,0,0]) (ZaP e d n x2 0) (xB 0 (S56 N [1,1,1,1,1,1] Q)))):
  A56 N [1,1,1,1,1] (ZaQ e d n x2) Q:=
 Eq.mpr V4 h
theorem Zy9(N:Nat)(e:Edit)(d n x2_a x7_a:Int)(N1:NT)(Q:QT)(h:∀ y_1,y_1=(e.kids.getD x7_a.toNat (KidOf.mk 0 Edit.nil))->∀ y_2,y_2=(y_1.e)->let z0:=decide (x7_a < (e.kids.length:Int));(Tt z0)/\(Tt z0)/\(iB (bif z0 then (decide ((0:Int)<=x2_a)) else false) (((0:Int)<=x7_a/\x7_a < (e.kids.length:Int))/\(InR (d - 1))/\(Zfo (y_2,(d - 1),x2_a,()))/\(Zl8 (y_2,(d - 1),x2_a,()) < N)/\((InR (x7_a+1))/\(N1 (ZaP e d n (Z0X y_2 (d - 1) x2_a) (x7_a+1))))) ((Zj (A56 N [1,1,1,1,1,1,0,1,0,0]) (Z6G e d n x2_a 0) (xB 2 (S56 N [1,1,1,1,1,1,1] Q)))))):
  A56 N [1,1,1,1,1,0,1,0,0] (ZaP e d n x2_a x7_a) (xT N1 (xB 0 (S56 N [1,1,1,1,1,1] Q))):=
 Eq.mpr V4 (h _ rfl _ (Z7 _))
theorem Zy8(N:Nat)(e:Edit)(d n x2_b x8_b:Int)(N2:NT)(Q:QT)(h:let z0:=decide (x8_b < (e.ops.length:Int));(Tt z0)/\(Tt z0)/\(iB (bif z0 then (decide ((0:Int)<=x2_b)) else false) ((Zj (A56 N [1,1,1,1,1,1,0,1,0,0,1,0,0,0,1,0,0]) (ZaO e d n x8_b x2_b 0) (xB 4 (S56 N [1,1,1,1,1,1,0,1,0,0,1,0,0,1] (xB 3 (S56 N [1,1,1,1,1,1,0,1,0,0,1,1] (xT N2 (xB 2 (S56 N [1,1,1,1,1,1,1] Q))))))))) ((Q .ret (L2 [pI 6 x2_b] []))))):
  A56 N [1,1,1,1,1,1,0,1,0,0] (Z6G e d n x2_b x8_b) (xT N2 (xB 2 (S56 N [1,1,1,1,1,1,1] Q))):=
 Eq.mpr V4 h
theorem Zy7(N:Nat)(e:Edit)(d n x8_b x2_c x9_c:Int)(N3 N2:NT)(Q:QT)(h:∀ y_1,y_1=(e.ops.getD x8_b.toNat Op.nil)->∀ y_2,y_2=(y_1.e)->∀ y_3,y_3=(y_1.l.getD x9_c.toNat Tree.nil)->let z0:=decide (x9_c < (y_1.l.length:Int));((0:Int)<=x8_b/\x8_b < (e.ops.length:Int))/\(Tt z0)/\(Tt z0)/\(iB (bif z0 then (decide ((0:Int)<=x2_c)) else false) (((0:Int)<=x8_b/\x8_b < (e.ops.length:Int))/\((0:Int)<=x9_c/\x9_c < (y_1.l.length:Int))/\(Z9Y (y_3,80,x2_c,()))/\((InR (x9_c+1))/\(N3 (ZaO e d n x8_b (ZJ y_3 80 x2_c) (x9_c+1))))) ((iB (decide ((0:Int)<=x2_c)) (((0:Int)<=x8_b/\x8_b < (e.ops.length:Int))/\(InR (d - 1))/\(Zfo (y_2,(d - 1),x2_c,()))/\(Zl8 (y_2,(d - 1),x2_c,()) < N)/\((InR (x8_b+1))/\(N2 (Z6G e d n (Z0X y_2 (d - 1) x2_c) (x8_b+1))))) ((InR (x8_b+1))/\(N2 (Z6G e d n x2_c (x8_b+1)))))))):
  A56 N [1,1,1,1,1,1,0,1,0,0,1,0,0,0,1,0,0] (ZaO e d n x8_b x2_c x9_c) (xT N3 (xB 4 (S56 N [1,1,1,1,1,1,0,1,0,0,1,0,0,1] (xB 3 (S56 N [1,1,1,1,1,1,0,1,0,0,1,1] (xT N2 (xB 2 (S56 N [1,1,1,1,1,1,1] Q)))))))):=
 Eq.mpr V4 (h _ rfl _ (Z7 _) _ (Za _))
def ZFW(N:Nat)(e:Edit)(d n:Int):Prop:=AW (Z1 (Zno N)) Tryz.f56 ZzF [] (Zg (ZnW.can (e,d,n,())) []) (EQ Tryz.f56 (ZoT (e,d,n,())) [])
theorem ZDg(c50:CT 50 Z61)(hb:∀ (N:Nat) (e:Edit) (d:Int) (n:Int) (_:Unit),Zfo (e,d,n,())->Zl8 (e,d,n,()) < N+1->ZFW N e d n):CT 56 ZeE:=
 Yi (μ:=Zl8) (l:=[(50,Z61)]) Zi rfl (⟨c50,trivial⟩) ZzF Tryz.func56 rfl rfl 3 (fun _=> rfl) V2 (fun N ⟨e,d,n,_⟩=> hb N e d n ())
def Zw9:List (FuncId × Fs U):=[(56,ZeE)]
abbrev A27(p:List Nat):=AW (Z1 Zw9) Tryz.f27 ZE4 p
theorem ZJo(e:Edit)(Q:QT)(h:let z0:=Edit.mk e.kind (Tree.mk e.old.kind e.old.words e.old.kids) (Tree.mk e.new.kind e.new.words e.new.kids) e.words e.kids e.list e.ops;((Zfo (z0,80,3000,()))/\(Q .ret (L2 [(2,.c (.bool (decide ((0:Int)<=(Z0X z0 80 3000)))))] [])))):
  A27 [] (L2 [(0,.agg (enc .edit e))] []) Q:=
 Eq.mpr V4 h
def ZGg(e:Edit):Prop:=AW (Z1 Zw9) Tryz.f27 ZE4 [] (Zg (ZwS.can (e,())) []) (EQ Tryz.f27 (ZBE (e,())) [])
theorem ZDw(c56:CT 56 ZeE)(hb:∀ (e:Edit) (_:Unit),ZuD (e,())->ZGg e):CT 27 ZeL:=
 Z2 (l:=[(56,ZeE)]) Zi rfl (⟨c56,trivial⟩) ZE4 Tryz.func27 rfl rfl 1 (fun _=> rfl) V2 (fun ⟨e,_⟩=> hb e ())
end
noncomputable section
def ZjF:ArgL (Edit × Int × Unit):=(.cons (aEl .edit) (.cons (Ya .i64) .nil))
def Z9Z(a:Edit × Int × Unit):Prop:=(Z8 a.1<=20000000000/\YI a.1)/\0<=a.2.1/\a.2.1<=1000
def Zj0(a:Edit × Int × Unit):Nat:=2*Z8 a.1
def ZoY(a:Edit × Int × Unit):V U:= .c (.bool (Z9 a.1 a.2.1))
def Z62:Fs U:=fs ZjF (fun a=> [Z9Z a]) ZoY
def ZjC:ArgL (Int × Op × Int × Unit):=(.cons (Ya .i64) (.cons (aEl .op) (.cons (Ya .i64) .nil)))
def Zhs(a:Int × Op × Int × Unit):Prop:=(Zt a.2.1<=20000000000/\YJ a.2.1/\InR a.1)/\0<=a.2.2.1/\a.2.2.1<=1000
def ZrJ(a:Int × Op × Int × Unit):Nat:=2*Zt a.2.1+1
def ZoS(a:Int × Op × Int × Unit):V U:= .c (.bool (Zc a.1 a.2.1 a.2.2.1))
def ZtH:Fs U:=fs ZjC (fun a=> [Zhs a]) ZoS
def Zfr(a:Edit × Unit):Prop:=(Z8 a.1<=20000000000/\YI a.1)/\∃ d,Z9 a.1 d=true
def Zl9(a:Edit × Unit):Nat:=Z8 a.1
def ZtU(a:Edit × Unit):V U:= .c (.bool (Z2d a.1))
def ZeK:Fs U:=fs ZwS (fun a=> [Zfr a]) ZtU
def Zny(N:Nat):List (FuncId × Fs U):=(28,fs ZjF (fun a=> [Z9Z a,Zj0 a < N]) ZoY) ::(59,fs ZjC (fun a=> [Zhs a,ZrJ a < N]) ZoS) ::[(57,Z56),(58,ZbD),(92,ZbB),(20,ZeD),(60,Z55)]
def ZzP:Zd U:=lvl [([1,2],[2]),([1,2,24],[2]),([4],[]),([1,2,69],[2]),([4],[]),([1,2,72],[2]),([4],[]),([1,2,5],[2]),([1,2,5,6],[2]),([1,2,5,6,97],[2]),([1,2,5,6],[2]),([1,2,5,6,7],[2,7]),([1,2,6,7,134],[2,7]),([4],[]),([1,2,5,6],[2]),([1,2,5],[2]),([1,2,5,8],[2]),([1,2,5,8,141],[2]),([1,2,5,8],[2]),([1,2,5,8,9],[2,9]),([1,2,8,9,171],[2,9]),([4],[]),([1,2,5,8],[2]),([1,2,186],[2]),([4],[]),([1,2,10],[2]),([1,2,10,191],[2]),([1,2,10],[2]),([1,2,10,204],[2]),([4],[]),([11,12],[]),([4],[])]
def Zb7(e:Edit)(d x5 x6:Int):LSt U:=(L2 [pI 1 d,pL 2,pI 5 x5,pI 6 x6] [(.loc 2,(enc .edit e))])
def Zb6(e:Edit)(d x5_a x8_a:Int):LSt U:=(L2 [pI 1 d,pL 2,pI 5 x5_a,pI 8 x8_a] [(.loc 2,(enc .edit e))])
def Zb5(e:Edit)(d x10_b:Int):LSt U:=(L2 [pI 1 d,pL 2,pI 10 x10_b] [(.loc 2,(enc .edit e))])
abbrev A28(N:Nat)(p:List Nat):=AW (Z1 (Zny N)) Tryz.f28 ZzP p
abbrev S28(N:Nat)(p:List Nat):=SW (Z1 (Zny N)) Tryz.f28 ZzP p
theorem ZJn(N:Nat)(e:Edit)(d:Int)(Q:QT)(h:∀ y_1,y_1=(e.new)->∀ y_2,y_2=(e.old)->let z9:=(Q .ret (L2 [pB 4 false] []));let z7:=(e.kind !=1) && (Yz y_2);let z4:=bif (d==0) then true else (decide (e.kind < 0));let z2:=bif (Ze y_2 64) then (Ze y_1 64) else false;let z6:=bif z2 then (e.old.kind !=10) else false;let z1:=bif (e.kind !=1) then (!(bif (Yz y_2) then (Yz y_1) else false)) else false;let z5:=(!z1) && (e.kind !=2);let z0:=bif z1 then true else (bif (e.kind !=2) then (decide ((0:Int) < (((e.words.length:Int):Int)+(e.kids.length:Int)))) else false);let z3:=(!z0) && (e.kind !=3);let z8:=z3 && (!(e.list !=0));((Tt (!(d==0)))/\(Tt (!(d==0)))/\((d==0)=false->(!(d==0))=true)/\(Tt (!z4))/\(Tt (!z4))/\(z4=false->(!z4)=true)/\(iB (bif z4 then true else (decide ((3:Int) < e.kind))) z9 ((Tt (e.kind !=1))/\(Tt (e.kind !=1))/\((e.kind !=1)=true->Z6d (y_2,()))/\(Tt (e.kind !=1))/\(Tt z7)/\(Tt z7)/\(z7=true->Z6d (y_1,()))/\((e.kind !=1)=true->(True->(e.kind !=1)=true))/\((e.kind !=1)=true->((Yz y_2)=true->z7=true))/\(Tt (e.kind !=1))/\(Tt (e.kind !=1))/\(Tt (!z1))/\(Tt (!z1))/\(Tt (!z1))/\(Tt z5)/\(Tt z5)/\(Tt z5)/\(Tt z5)/\(Tt z5)/\(Tt z5)/\(z5=true->InR (((e.words.length:Int):Int)+(e.kids.length:Int)))/\(Tt z5)/\((!z1)=true->(True->(!z1)=true))/\((!z1)=true->((e.kind !=2)=true->z5=true))/\(z1=false->(!z1)=true)/\(Tt (!z0))/\(Tt (!z0))/\(Tt (!z0))/\(Tt z3)/\(Tt z3)/\(Tt z3)/\(Tt z8)/\(Tt z8)/\(Tt z8)/\(z3=true->(True->z3=true))/\(z3=true->((e.list !=0)=false->z8=true))/\((!z0)=true->(True->(!z0)=true))/\((!z0)=true->((e.kind !=3)=true->z3=true))/\(z0=false->(!z0)=true)/\(iB (bif z0 then true else (bif (e.kind !=3) then (bif (e.list !=0) then true else (decide ((0:Int) < (e.ops.length:Int)))) else false)) z9 ((iB (e.kind==1) ((ZcX (y_2,64,()))/\(Tt (Ze y_2 64))/\(Tt (Ze y_2 64))/\((Ze y_2 64)=true->ZcX (y_1,64,()))/\(Tt (Ze y_2 64))/\(Tt z2)/\(Tt z2)/\(Tt z2)/\(Tt z2)/\(Tt z6)/\(Tt z6)/\(Tt z6)/\(Tt z6)/\(Q .ret (L2 [(4,.c (.bool (bif z6 then (e.new.kind !=10) else false)))] []))) ((Zj (A28 N [1,1,1,1,1,0,1,0,0]) (Zb7 e d (-1) 0) (xB 0 (S28 N [1,1,1,1,1,1] Q))))))))))):
  A28 N [] (L2 [(0,.agg (enc .edit e)),pI 1 d] []) Q:=
 Eq.mpr V4 (h _ (Za _) _ (Za _))
theorem Zys(N:Nat)(e:Edit)(d x5 x6:Int)(N0:NT)(Q:QT)(h:∀ y_1,y_1=(e.words.getD x6.toNat (WEdit.mk 0 0 0 0))->let z3:=decide (y_1.at_<=x5);let z2:=bif z3 then true else (decide ((65534:Int) < y_1.at_));let z0:=bif z2 then true else (y_1.mask==0);let z1:=bif z0 then true else (!(Y9 y_1.old y_1.mask));(iB (decide (x6 < (e.words.length:Int))) (((0:Int)<=x6/\x6 < (e.words.length:Int))/\((Tt (!z3))/\(Tt (!z3))/\(z3=false->(!z3)=true)/\(Tt (!z2))/\(Tt (!z2))/\(z2=false->(!z2)=true)/\(Tt (!z0))/\(Tt (!z0))/\(Tt (!z0))/\(Tt (!z0))/\((!z0)=true->Zp9 (y_1.old,y_1.mask,()))/\(Tt (!z0))/\(z0=false->(!z0)=true)/\(Tt (!z1))/\(Tt (!z1))/\(Tt (!z1))/\(Tt (!z1))/\((!z1)=true->Zp9 (y_1.new,y_1.mask,()))/\(Tt (!z1))/\(z1=false->(!z1)=true)/\(iB (bif z1 then true else (!(Y9 y_1.new y_1.mask))) ((Q .ret (L2 [pB 4 false] []))) (((InR (x6+1))/\(N0 (Zb7 e d y_1.at_ (x6+1)))))))) ((Zj (A28 N [1,1,1,1,1,1,1,0,1,0,0]) (Zb6 e d (-1) 0) (xB 2 (S28 N [1,1,1,1,1,1,1,1] Q)))))):
  A28 N [1,1,1,1,1,0,1,0,0] (Zb7 e d x5 x6) (xT N0 (xB 0 (S28 N [1,1,1,1,1,1] Q))):=
 Eq.mpr V4 (h _ rfl)
theorem Zyr(N:Nat)(e:Edit)(d x5_a x8_a:Int)(N1:NT)(Q:QT)(h:∀ y_1,y_1=(e.kids.getD x8_a.toNat (KidOf.mk 0 Edit.nil))->∀ y_2,y_2=(y_1.e)->let z5:=(Q .ret (L2 [pB 4 false] []));let z4:=decide (e.list < 2);let z3:=(e.kind==3) && (!z4);let z2:=decide (y_1.at_<=x5_a);let z0:=bif z2 then true else (decide ((65534:Int) < y_1.at_));let z1:=bif z0 then true else (y_1.e.kind==0);(iB (decide (x8_a < (e.kids.length:Int))) (((0:Int)<=x8_a/\x8_a < (e.kids.length:Int))/\((Tt (!z2))/\(Tt (!z2))/\(z2=false->(!z2)=true)/\(Tt (!z0))/\(Tt (!z0))/\(Tt (!z0))/\(z0=false->(!z0)=true)/\(Tt (!z1))/\(Tt (!z1))/\((!z1)=true->InR (d - 1))/\(Tt (!z1))/\(Tt (!z1))/\((!z1)=true->Z9Z (y_2,(d - 1),()))/\((!z1)=true->Zj0 (y_2,(d - 1),()) < N)/\(Tt (!z1))/\(z1=false->(!z1)=true)/\(iB (bif z1 then true else (!(Z9 y_2 (d - 1)))) z5 (((InR (x8_a+1))/\(N1 (Zb6 e d y_1.at_ (x8_a+1)))))))) ((Tt (e.kind==3))/\(Tt (e.kind==3))/\(Tt (e.kind==3))/\(Tt z3)/\(Tt z3)/\((e.kind==3)=true->(True->(e.kind==3)=true))/\((e.kind==3)=true->(z4=false->z3=true))/\(Tt (e.kind==3))/\(iB (bif (e.kind==3) then (bif z4 then true else (decide ((9:Int) < e.list))) else false) z5 ((Zj (A28 N [1,1,1,1,1,1,1,1,1,0,1,0,0]) (Zb5 e d 0) (xB 4 (S28 N [1,1,1,1,1,1,1,1,1,1] Q)))))))):
  A28 N [1,1,1,1,1,1,1,0,1,0,0] (Zb6 e d x5_a x8_a) (xT N1 (xB 2 (S28 N [1,1,1,1,1,1,1,1] Q))):=
 Eq.mpr V4 (h _ rfl _ (Z7 _))
theorem Zyq(N:Nat)(e:Edit)(d x10_b:Int)(N2:NT)(Q:QT)(h:∀ y_1,y_1=e->∀ y_2,y_2=(e.ops.getD x10_b.toNat Op.nil)->∀ y_3,y_3=y_2->let z0:=decide (((Z1i y_1.ops 0):Int) < 1048576);(iB (decide (x10_b < (e.ops.length:Int))) (((0:Int)<=x10_b/\x10_b < (e.ops.length:Int))/\(InR (d - 1))/\(Zhs (e.list,y_3,(d - 1),()))/\(ZrJ (e.list,y_3,(d - 1),()) < N)/\(iB (!(Zc e.list y_3 (d - 1))) ((Q .ret (L2 [pB 4 false] []))) ((InR (x10_b+1))/\(N2 (Zb5 e d (x10_b+1)))))) ((ZkO (y_1,()))/\((Tt z0)/\(Tt z0)/\(Q .ret (L2 [(4,.c (.bool (bif z0 then (decide (((Z1h y_1.ops 0):Int) < 1048576)) else false)))] [])))))):
  A28 N [1,1,1,1,1,1,1,1,1,0,1,0,0] (Zb5 e d x10_b) (xT N2 (xB 4 (S28 N [1,1,1,1,1,1,1,1,1,1] Q))):=
 Eq.mpr V4 (h _ (Z7 _) _ rfl _ (YP _))
def ZGf(N:Nat)(e:Edit)(d:Int):Prop:=AW (Z1 (Zny N)) Tryz.f28 ZzP [] (Zg (ZjF.can (e,d,())) []) (EQ Tryz.f28 (ZoY (e,d,())) [])
abbrev ZIu:Prop:=∀ (N:Nat) (e:Edit) (d:Int) (_:Unit),Z9Z (e,d,())->Zj0 (e,d,()) < N+1->ZGf N e d
def ZzE:Zd U:=lvl [([0,2,4],[4]),([0,2,4,10],[4]),([6],[]),([0,2,4,42],[4]),([6],[]),([0,2,4,45],[4]),([0,4,7],[4]),([0,4,7,50],[4]),([0,4,7],[4]),([0,4,7,62],[4]),([6],[]),([6],[]),([0,4,92],[4]),([6],[]),([6],[])]
def ZaN(list:Int)(o:Op)(d x7:Int):LSt U:=(L2 [pI 0 list,pL 4,pI 7 x7] [(.loc 4,(enc .op o))])
abbrev A59(N:Nat)(p:List Nat):=AW (Z1 (Zny N)) Tryz.f59 ZzE p
abbrev S59(N:Nat)(p:List Nat):=SW (Z1 (Zny N)) Tryz.f59 ZzE p
theorem ZJ1(N:Nat)(list:Int)(o:Op)(d:Int)(Q:QT)(h:∀ y_1,y_1=(o.e)->let z10:=(Q .ret (L2 [pB 6 false] []));let z9:=decide ((1:Int)<=o.n);let z6:=bif (o.n !=0) then true else (decide (o.kind < 0));let z4:=decide ((0:Int) < (o.l.length:Int));let z7:=bif z4 then true else (o.e.kind==0);let z3:=bif (o.e.kind==1) then (o.e.old.kind==1) else false;let z2:=bif z9 then (decide (o.n<=1048576)) else false;let z5:=bif z2 then (((o.l.length:Int):Int)==0) else false;let z1:=bif z7 then true else (decide (list<=7));let z0:=bif (list==8) then true else (o.e.kind==2);let z8:=(!z0) && (o.e.kind==1);(iB (o.kind==0) ((Tt z9)/\(Tt z9)/\(Tt z9)/\(Tt z2)/\(Tt z2)/\(Tt z2)/\(Tt z2)/\(Tt z5)/\(Tt z5)/\(z5=true->Zfl (y_1,()))/\(Tt z5)/\(Q .ret (L2 [(6,.c (.bool (bif z5 then (Z1k y_1) else false)))] []))) ((Tt (!(o.n !=0)))/\(Tt (!(o.n !=0)))/\((o.n !=0)=false->(!(o.n !=0))=true)/\(Tt (!z6))/\(Tt (!z6))/\(z6=false->(!z6)=true)/\(iB (bif z6 then true else (decide ((3:Int) < o.kind))) z10 ((iB (decide (o.kind < 3)) ((Zj (A59 N [1,1,1,0,1,0,0,1,0,0]) (ZaN list o d 0) (xB 0 (S59 N [1,1,1,0,1,0,1] (S59 N [1,1,1,1] Q))))) ((Tt (!z4))/\(Tt (!z4))/\(Tt (!z4))/\(z4=false->(!z4)=true)/\(Tt (!z7))/\(z7=false->(!z7)=true)/\(Tt (!z1))/\(Tt (!z1))/\(Tt (!z1))/\((!z1)=true->Z9Z (y_1,d,()))/\((!z1)=true->Zj0 (y_1,d,()) < N)/\(Tt (!z1))/\(z1=false->(!z1)=true)/\(iB (bif z1 then true else (!(Z9 y_1 d))) z10 ((Tt (!(list==8)))/\(Tt (!(list==8)))/\(Tt (!(list==8)))/\((list==8)=false->(!(list==8))=true)/\(Tt (!z0))/\(Tt (!z0))/\(Tt (!z0))/\(Tt (!z0))/\(Tt z8)/\(Tt z8)/\(Tt z8)/\(Tt z8)/\((!z0)=true->(True->(!z0)=true))/\((!z0)=true->((o.e.kind==1)=true->z8=true))/\(Tt (!z0))/\(Tt ((!z0) && z3))/\(Tt ((!z0) && z3))/\(Tt ((!z0) && z3))/\(Tt ((!z0) && z3))/\((!z0)=true->(True->(!z0)=true))/\((!z0)=true->(z3=true->((!z0) && z3)=true))/\(z0=false->(!z0)=true)/\(Q .ret (L2 [(6,.c (.bool (bif z0 then true else (bif z3 then (o.e.new.kind==1) else false))))] []))))))))))):
  A59 N [] (L2 [pI 0 list,(1,.agg (enc .op o)),pI 2 d] []) Q:=
 Eq.mpr V4 (h _ (Z7 _))
theorem Zy6(N:Nat)(list:Int)(o:Op)(d x7:Int)(N0:NT)(Q:QT)(h:let z2:=Tree.mk list [] (List.drop x7.toNat (List.take (Int.toNat (x7+1)) o.l));let z1:=Edit.mk o.e.kind (Tree.mk o.e.old.kind o.e.old.words o.e.old.kids) (Tree.mk o.e.new.kind o.e.new.words o.e.new.kids) o.e.words o.e.kids o.e.list o.e.ops;let z0:=decide ((0:Int) < (o.l.length:Int));(iB (decide (x7 < (o.l.length:Int))) ((InR (x7+1))/\((0:Int)<=x7/\x7<=(x7+1)/\(x7+1)<=(o.l.length:Int))/\(ZcX (z2,64,()))/\(iB (!(Ze z2 64)) ((Q .ret (L2 [pB 6 false] []))) ((InR (x7+1))/\(N0 (ZaN list o d (x7+1)))))) ((Tt z0)/\(Tt z0)/\(z0=true->Zfl (z1,()))/\(Tt z0)/\(Q .ret (L2 [(6,.c (.bool (bif z0 then (Z1k z1) else false)))] []))))):
  A59 N [1,1,1,0,1,0,0,1,0,0] (ZaN list o d x7) (xT N0 (xB 0 (S59 N [1,1,1,0,1,0,1] (S59 N [1,1,1,1] Q)))):=
 Eq.mpr V4 h
def ZFT(N:Nat)(list:Int)(o:Op)(d:Int):Prop:=AW (Z1 (Zny N)) Tryz.f59 ZzE [] (Zg (ZjC.can (list,o,d,())) []) (EQ Tryz.f59 (ZoS (list,o,d,())) [])
abbrev ZIq:Prop:=∀ (N:Nat) (list:Int) (o:Op) (d:Int) (_:Unit),Zhs (list,o,d,())->ZrJ (list,o,d,()) < N+1->ZFT N list o d
def Znx(N:Nat):List (FuncId × Fs U):=(29,fs ZwS (fun a=> [Zfr a,Zl9 a < N]) ZtU) ::[(60,Z55)]
def ZzO:Zd U:=lvl [([1],[1]),([1,3,4],[1]),([1,17],[1]),([2],[]),([1,5],[1]),([1,5,22],[1]),([1,5],[1]),([1,5,32],[1]),([2],[]),([1,6],[1]),([1,6,37],[1]),([1,6],[1]),([1,6,47],[1]),([2],[]),([2],[])]
def Zb4(e:Edit)(x5:Int):LSt U:=(L2 [pL 1,pI 5 x5] [(.loc 1,(enc .edit e))])
def Zb3(e:Edit)(x6_a:Int):LSt U:=(L2 [pL 1,pI 6 x6_a] [(.loc 1,(enc .edit e))])
abbrev A29(N:Nat)(p:List Nat):=AW (Z1 (Znx N)) Tryz.f29 ZzO p
abbrev S29(N:Nat)(p:List Nat):=SW (Z1 (Znx N)) Tryz.f29 ZzO p
theorem ZJm(N:Nat)(e:Edit)(Q:QT)(h:∀ y_1,y_1=e->let z0:=decide ((2000:Int) < (Z1i y_1.ops 0));((ZkO (y_1,()))/\((Tt (!z0))/\(z0=false->(!z0)=true)/\(iB (bif z0 then true else (decide ((2000:Int) < (Z1h y_1.ops 0)))) ((Q .ret (L2 [pB 2 false] []))) ((Zj (A29 N [1,1,1,0,1,0,0]) (Zb4 e 0) (xB 0 (S29 N [1,1,1,1] Q)))))))):
  A29 N [] (L2 [(0,.agg (enc .edit e))] []) Q:=
 Eq.mpr V4 (h _ (Z7 _))
theorem Zyp(N:Nat)(e:Edit)(x5:Int)(N0:NT)(Q:QT)(h:∀ y_1,y_1=(e.kids.getD x5.toNat (KidOf.mk 0 Edit.nil))->∀ y_2,y_2=(y_1.e)->(iB (decide (x5 < (e.kids.length:Int))) (((0:Int)<=x5/\x5 < (e.kids.length:Int))/\(Zfr (y_2,()))/\(Zl9 (y_2,()) < N)/\(iB (!(Z2d y_2)) ((Q .ret (L2 [pB 2 false] []))) ((InR (x5+1))/\(N0 (Zb4 e (x5+1)))))) ((Zj (A29 N [1,1,1,1,0,1,0,0]) (Zb3 e 0) (xB 2 (S29 N [1,1,1,1,1] Q)))))):
  A29 N [1,1,1,0,1,0,0] (Zb4 e x5) (xT N0 (xB 0 (S29 N [1,1,1,1] Q))):=
 Eq.mpr V4 (h _ rfl _ (Z7 _))
theorem Zyo(N:Nat)(e:Edit)(x6_a:Int)(N1:NT)(Q:QT)(h:∀ y_1,y_1=(e.ops.getD x6_a.toNat Op.nil)->∀ y_2,y_2=(y_1.e)->(iB (decide (x6_a < (e.ops.length:Int))) (((0:Int)<=x6_a/\x6_a < (e.ops.length:Int))/\(Zfr (y_2,()))/\(Zl9 (y_2,()) < N)/\(iB (!(Z2d y_2)) ((Q .ret (L2 [pB 2 false] []))) ((InR (x6_a+1))/\(N1 (Zb3 e (x6_a+1)))))) ((Q .ret (L2 [pB 2 true] []))))):
  A29 N [1,1,1,1,0,1,0,0] (Zb3 e x6_a) (xT N1 (xB 2 (S29 N [1,1,1,1,1] Q))):=
 Eq.mpr V4 (h _ rfl _ (Z7 _))
def ZGe(N:Nat)(e:Edit):Prop:=AW (Z1 (Znx N)) Tryz.f29 ZzO [] (Zg (ZwS.can (e,())) []) (EQ Tryz.f29 (ZtU (e,())) [])
theorem ZDv(c60:CT 60 Z55)(hb:∀ (N:Nat) (e:Edit) (_:Unit),Zfr (e,())->Zl9 (e,()) < N+1->ZGe N e):CT 29 ZeK:=
 Yi (μ:=Zl9) (l:=[(60,Z55)]) Zi rfl (⟨c60,trivial⟩) ZzO Tryz.func29 rfl rfl 1 (fun _=> rfl) V2 (fun N ⟨e,_⟩=> hb N e ())
theorem ZrV(c57:CT 57 Z56)(c58:CT 58 ZbD)(c92:CT 92 ZbB)(c20:CT 20 ZeD)(c60:CT 60 Z55)(ha:ZIu)(hb:ZIq):CT 28 Z62/\CT 59 ZtH:=
 Z1Q (μA:=Zj0) (μB:=ZrJ) (l:=[(57,Z56),(58,ZbD),(92,ZbB),(20,ZeD),(60,Z55)]) Zi rfl (⟨c57,c58,c92,c20,c60,trivial⟩) ZzP ZzE Tryz.func28 Tryz.func59 rfl rfl rfl rfl 2 3 (fun _=> rfl) (fun _=> rfl) V2 V2 (fun N ⟨e,d,_⟩=> ha N e d ()) (fun N ⟨list,o,d,_⟩=> hb N list o d ())
end
theorem Z5U{n:Int}(h0:0<=n)(h1:n < 18446744073709551616):IntKind.wrap .u64 n=n:=by
 simp [IntKind.wrap,IntKind.signed,IntKind.bits];omega
theorem Z9j{n:Int}(h0:0<=n)(h1:n < 256):IntKind.wrap .u8 n=n:=by
 simp [IntKind.wrap,IntKind.signed,IntKind.bits];omega
theorem ZjQ{i:Int}{j:Nat}{v:Int}{F G:Nat->Int}(hi:0<=i)(hv:v=F i.toNat):Yf i j v (if (j:Int) < i then F j else G j)=if (j:Int) < i+1 then F j else G j:=by
 unfold Yf
 grind
theorem ZA1{i:Int}{j:Nat}{F G:Nat->Int}(h:F i.toNat=G i.toNat)(hi:0<=i):(if (j:Int) < i then F j else G j)=if (j:Int) < i+1 then F j else G j:=by
 grind
theorem Z0f(w:Int)(i:Nat):0<=Z0 w i/\Z0 w i < 256:=by
 unfold Z0
 omega
theorem Z6O{w:Int}(h:0<=w)(i:Nat):0<=w / 256 ^ i:=K3 h (XT (XK YL))
theorem Zgr{w:Int}(h:0<=w)(i:Nat):w / 256 ^ i<=w:=K2 _ h
theorem Zjt(w:Int)(i:Nat):w / 256 ^ i / 256=w / 256 ^ (i+1):=by
 rw [Int.ediv_ediv_of_nonneg (XT (XK YL)),K1]
theorem Zsn:Contract Tryz.prog cfg 131 Z3x:=by
 refine Zzq ?_
 intro w _ hp
 simp only [Z5u] at hp
 refine ZHl _ _ ?_;(try simp only [iB,vcT,forall_eq])
 refine Z4 (ι:=Int) (fun i=> Z4N w (w / 256 ^ i.toNat) i (if ((0:Nat):Int) < i then Z0 w 0 else 0) (if ((1:Nat):Int) < i then Z0 w 1 else 0) (if ((2:Nat):Int) < i then Z0 w 2 else 0) (if ((3:Nat):Int) < i then Z0 w 3 else 0)
  (if ((4:Nat):Int) < i then Z0 w 4 else 0) (if ((5:Nat):Int) < i then Z0 w 5 else 0) (if ((6:Nat):Int) < i then Z0 w 6 else 0) (if ((7:Nat):Int) < i then Z0 w 7 else 0)) (fun i=> 0<=i/\i<=8) (fun i=> (8 - i).toNat) 0 ?_ ⟨YL,YL⟩ ?_
 .simp [Z4N]
 .rintro i ⟨h1,h2⟩
  refine Ztj _ _ _ _ _ _ _ _ _ _ _ _ _ ?_;(try simp only [iB,vcT,forall_eq])
  (simp only [iB,vcS]);(try simp only [iB,vcT])
  refine ⟨fun hc=> ⟨YL,⟨h1,YL⟩,YL,V3,i+1,?_,⟨YL,YL⟩,YL⟩,fun hc=> ?_⟩
  .have hd:=Z6O hp.1 i.toNat
   have hl:=Zgr hp.1 i.toNat
   have e1:IntKind.wrap .u64 (Int.tdiv (w / 256 ^ i.toNat) 256)=w / 256 ^ (i+1).toNat:=by
    rw [XB hd,Zjt,show i.toNat+1=(i+1).toNat by omega]
    exact Z5U (Z6O hp.1 _) (Int.lt_of_le_of_lt (Zgr hp.1 _) hp.2)
   have e2:IntKind.wrap .u8 (Int.tmod (w / 256 ^ i.toNat) 256)=Z0 w i.toNat:=by
    rw [Int.tmod_eq_emod_of_nonneg hd]
    exact Z9j (Z0f w _).1 (Z0f w _).2
   rw [e1]
   have st:∀ j:Nat,Yf i j (IntKind.wrap .u8 (Int.tmod (w / 256 ^ i.toNat) 256)) (if (j:Int) < i then Z0 w j else 0)=if (j:Int) < i+1 then Z0 w j else 0:=fun j=> ZjQ (F:=Z0 w) (G:=fun _=> 0) h1 e2
   grind
  .have:i=8:=YL
   subst this
   simp only [Zmt]
   exact ⟨⟨rfl,⟨⟨rfl,rfl⟩,⟨rfl,rfl⟩,⟨rfl,rfl⟩,⟨rfl,rfl⟩,⟨rfl,rfl⟩,⟨rfl,rfl⟩,⟨rfl,rfl⟩,⟨rfl,rfl⟩,trivial⟩,trivial⟩,trivial⟩
theorem Zsm:Contract Tryz.prog cfg 132 Z3w:=by
 refine Zzp ?_
 intro m i _ hp
 simp only [ZbR] at hp
 refine ZHk _ _ _ ?_;(try simp only [iB,vcT,forall_eq])
 refine Z4 (ι:=Int) (fun k=> Z7O m i (m / 2 ^ k.toNat) k) (fun k=> 0<=k/\k<=i) (fun k=> (i - k).toNat) 0 ?_ ⟨YL,YL⟩ ?_
 .simp
 .rintro k ⟨h1,h2⟩
  refine Zti _ _ _ _ _ _ ?_;(try simp only [iB,vcT,forall_eq])
  have hd:0<=m / 2 ^ k.toNat:=K3 hp.1.1 (XT (XK YL))
  have hl:m / 2 ^ k.toNat<=m:=K2 _ hp.1.1
  (simp only [iB,vcS])
  refine ⟨fun hc=> ⟨YL,V3,k+1,?_,⟨YL,YL⟩,YL⟩,fun hc=> ⟨YL,Z6 rfl ?_⟩⟩
  .have e:IntKind.wrap .u8 (Int.tdiv (m / 2 ^ k.toNat) 2)=m / 2 ^ (k+1).toNat:=by
    rw [XB hd,Int.ediv_ediv_of_nonneg (XT (XK YL)),show (2:Int) ^ k.toNat*2=2 ^ (k+1).toNat by rw [<-K1];congr 1;omega]
    refine Z9j (K3 hp.1.1 (XT (XK YL))) (Int.lt_of_le_of_lt (K2 _ hp.1.1) hp.1.2)
   rw [e]
  .have:k=i:=YL
   subst this
   rw [Int.tmod_eq_emod_of_nonneg hd]
   try rfl
def ZdB(f:Nat->Int):Nat->Int
 | 0=> 0
 | k+1=> f (7 - k)+256*ZdB f k
theorem Zeo{f:Nat->Int}(h:∀ i,0<=f i/\f i < 256):∀ k,0<=ZdB f k/\ZdB f k < 256 ^ k
 | 0=> by simp [ZdB]
 | k+1=> by
  have:=Zeo h k
  have h2:=h (7 - k)
  simp only [ZdB,K1]
  omega
theorem ZCA(f:Nat->Int):ZdB f 8=of8 f:=by simp [ZdB,of8]
theorem Zsl:Contract Tryz.prog cfg 133 Z3v:=by
 refine Zzo ?_
 intro b z _ hp
 obtain ⟨rfl,hl,hb⟩:=hp
 dsimp only at hl hb
 refine ZHj _ _ _ ?_;(try simp only [iB,vcT,forall_eq])
 have hf:∀ i,0<=b.getD i 0/\b.getD i 0 < 256:=by
  intro i
  by_cases hi:i < b.length
  .simp_all
  .grind
 refine Z4 (ι:=Int) (fun i=> Z7N b 0 (ZdB (fun i=> b.getD i 0) (7 - i).toNat) i) (fun i=> -1<=i/\i<=7) (fun i=> (i+1).toNat) 7 rfl ⟨YL,YL⟩ ?_
 rintro i ⟨h1,h2⟩
 refine Zth _ _ _ _ _ _ ?_;(try simp only [iB,vcT,forall_eq])
 (simp only [iB,vcS]);(try simp only [iB,vcT])
 have hr:=Zeo (f:=fun i=> b.getD i 0) hf (7 - i).toNat
 refine ⟨fun hc=> ⟨V3,YL,V3,i - 1,?_,⟨YL,YL⟩,YL⟩,fun hc=> Ys rfl ?_⟩
 .have hp7:(256:Int) ^ (7 - i).toNat<=256 ^ 7:=by
   have:(256:Int) ^ (7 - i).toNat=((256 ^ (7 - i).toNat:Nat):Int):=by simp
   rw [this]
   have h7:(256:Nat) ^ (7 - i).toNat<=256 ^ 7:=Nat.pow_le_pow_right YL YL
   have:((256:Nat) ^ 7:Nat)=72057594037927936:=V2
   omega
  have e7:(256:Int) ^ 7=72057594037927936:=V2
  have hfi:=hf i.toNat
  have e:ZdB (fun i=> b.getD i 0) (7 - (i - 1)).toNat=b.getD i.toNat 0+256*ZdB (fun i=> b.getD i 0) (7 - i).toNat:=by
   rw [show (7 - (i - 1)).toNat=(7 - i).toNat+1 by omega]
   simp only [ZdB]
   grind
  rw [e,show (0+i).toNat=i.toNat by omega,Z5U (n:=ZdB (fun i=> b.getD i 0) (7 - i).toNat*256) YL YL,Z5U (n:=b.getD i.toNat 0) YL YL,Z5U YL YL]
  grind
 .have:i= -1:=YL
  subst this
  exact ZCA _
theorem Zqe(f:Nat->Int){i:Nat}(h:i < 8):List.getD [f 0,f 1,f 2,f 3,f 4,f 5,f 6,f 7] i 0=f i:=by
 match i,h with
 | 0,_=> rfl
 | 1,_=> rfl
 | 2,_=> rfl
 | 3,_=> rfl
 | 4,_=> rfl
 | 5,_=> rfl
 | 6,_=> rfl
 | 7,_=> rfl
theorem Z6t(a b m:Int)(i:Nat):0<=Je a b m i/\Je a b m i < 256:=by
 unfold Je
 split
 .exact Z0f _ _
 .exact Z0f _ _
theorem c91:Contract Tryz.prog cfg 91 Z53:=by
 refine ZD3 Zsn Zsm Zsl ?_
 intro a b m _ hp
 simp only [ZcW] at hp
 refine ZIJ _ _ _ _ ?_;(try simp only [iB,vcT,forall_eq])
 refine ⟨hp.1,hp.2.1,?_⟩
 refine Z4 (ι:=Int) (fun i=> Z4F a b m i (if ((0:Nat):Int) < i then Je a b m 0 else Z0 a 0) (if ((1:Nat):Int) < i then Je a b m 1 else Z0 a 1) (if ((2:Nat):Int) < i then Je a b m 2 else Z0 a 2) (if ((3:Nat):Int) < i then Je a b m 3 else Z0 a 3)
  (if ((4:Nat):Int) < i then Je a b m 4 else Z0 a 4) (if ((5:Nat):Int) < i then Je a b m 5 else Z0 a 5) (if ((6:Nat):Int) < i then Je a b m 6 else Z0 a 6) (if ((7:Nat):Int) < i then Je a b m 7 else Z0 a 7)) (fun i=> 0<=i/\i<=8) (fun i=> (8 - i).toNat) 0 ?_ ⟨YL,YL⟩ ?_
 .simp [Z4F]
 .rintro i ⟨h1,h2⟩
  refine ZxK _ _ _ _ _ _ _ _ _ _ _ _ _ _ ?_;(try simp only [iB,vcT,forall_eq])
  (simp only [iB,vcS]);(try simp only [iB,vcT])
  refine ⟨fun hc=> ⟨⟨hp.2.2,h1,YL⟩,fun hn=> ⟨⟨h1,YL⟩,⟨h1,YL⟩,V3,i+1,?_,⟨YL,YL⟩,YL⟩,fun hn=> ⟨V3,i+1,?_,⟨YL,YL⟩,YL⟩⟩,fun hc=> ?_⟩
  .rw [Zqe (Z0 b) YL]
   have hv:Z0 b i.toNat=Je a b m i.toNat:=by
    unfold Je
    rw [show ((i.toNat:Nat):Int)=i by omega,hn]
    try rfl
   have st:∀ j:Nat,Yf i j (Z0 b i.toNat) (if (j:Int) < i then Je a b m j else Z0 a j)=if (j:Int) < i+1 then Je a b m j else Z0 a j:=fun j=> ZjQ (F:=Je a b m) (G:=Z0 a) h1 hv
   grind
  .have hv:Je a b m i.toNat=Z0 a i.toNat:=by
    unfold Je
    rw [show ((i.toNat:Nat):Int)=i by omega,hn]
    try rfl
   grind
  .have:i=8:=YL
   subst this
   refine ⟨⟨rfl,rfl,?_⟩,Ys rfl ?_⟩
   .intro x hx
    simp at hx
    rcases hx with rfl | rfl | rfl | rfl | rfl | rfl | rfl | rfl <;> exact Z6t _ _ _ _
   .try rfl
theorem Zsc{α:Type}{l:List α}{i:Nat}(h:i < l.length)(d:α):l.drop i=l.getD i d ::l.drop (i+1):=by
 simp_all
theorem ZH{α:Type}{l:List α}{i:Int}(h0:0<=i)(h:i < l.length)(d:α):l.drop i.toNat=l.getD i.toNat d ::l.drop (i+1).toNat:=by
 rw [Zsc YL d,show i.toNat+1=(i+1).toNat by omega]
theorem Zf{α:Type}{l:List α}{i:Nat}(h:i < l.length)(d:α):l.getD i d∈l:=by
 grind
theorem ZR(t:Tree):1<=Zm t:=by cases t;simp only [Zm];omega
theorem Z4z(e:Edit):1<=Z8 e:=by cases e;simp only [Z8];omega
theorem Z4y(k:Kid):J4 k=Z8 k.e:=by cases k;rfl
theorem ZG(o:Op):Zt o=Zk o.l+Z8 o.e:=by cases o;rfl
theorem Yx:∀ {ks:List Tree} {t:Tree},t∈ks->Zm t<=Zk ks
 | x ::r,t,h=> by
  simp only [Zk]
  rcases Q9.1 h with rfl | h
  .omega
  .have:=Yx h;omega
theorem Yw:∀ {ks:List Kid} {k:Kid},k∈ks->Z8 k.e<=Zy ks
 | x ::r,k,h=> by
  simp only [Zy,Z4y]
  rcases Q9.1 h with rfl | h
  .omega
  .have:=Yw h;omega
theorem ZI:∀ {os:List Op} {o:Op},o∈os->Zt o<=Zn os
 | x ::r,o,h=> by
  simp only [Zn]
  rcases Q9.1 h with rfl | h
  .omega
  .have:=ZI h;omega
theorem Y1:∀ (ks:List Kid),ks.length<=Zy ks
 | []=> by simp [Zy]
 | k ::r=> by
  have:=Y1 r
  have:=Z4z k.e
  simp only [Zy,Z4y,Q7]
  omega
theorem ZF:∀ (os:List Op),os.length<=Zn os
 | []=> by simp [Zn]
 | o ::r=> by
  have:=ZF r
  have:=Z4z o.e
  simp only [Zn,ZG,Q7]
  omega
theorem ZeT:∀ {ks:List Tree} {t:Tree},Z3U ks->t∈ks->Z3z t
 | x ::r,t,hs,h=> by
  simp only [Z3U] at hs
  rcases Q9.1 h with rfl | h
  .exact hs.1
  .exact ZeT hs.2 h
theorem ZcE:∀ {ks:List Kid} {k:Kid},Z78 ks->k∈ks->Z3V k.e
 | x ::r,k,hs,h=> by
  simp only [Z78] at hs
  rcases Q9.1 h with rfl | h
  .have:=hs.1;obtain ⟨a,e⟩:=k;exact this
  .exact ZcE hs.2 h
theorem ZcD:∀ {os:List Op} {o:Op},Z77 os->o∈os->o.l.length<=17592186044416/\Z3U o.l/\Z3V o.e
 | x ::r,o,hs,h=> by
  simp only [Z77] at hs
  rcases Q9.1 h with rfl | h
  .have:=hs.1;obtain ⟨a,b,c,e⟩:=o;exact this
  .exact ZcD hs.2 h
theorem YZ:∀ {ks:List Tree} {t:Tree},Yl ks->t∈ks->rng t
 | x ::r,t,hs,h=> by
  simp only [Yl] at hs
  rcases Q9.1 h with rfl | h
  .exact hs.1
  .exact YZ hs.2 h
theorem YK:∀ {ks:List Kid} {k:Kid},Z1l ks->k∈ks->InR k.at_/\YI k.e
 | x ::r,k,hs,h=> by
  simp only [Z1l] at hs
  rcases Q9.1 h with rfl | h
  .have:=hs.1;obtain ⟨a,e⟩:=k;exact this
  .exact YK hs.2 h
theorem JN:∀ {os:List Op} {o:Op},Z0Q os->o∈os->YJ o
 | x ::r,o,hs,h=> by
  simp only [Z0Q] at hs
  rcases Q9.1 h with rfl | h
  .exact hs.1
  .exact JN hs.2 h
theorem Jr{o:Op}(h:YJ o):InR o.kind/\InR o.n/\Yl o.l/\YI o.e:=by obtain ⟨a,b,c,e⟩:=o;exact h
theorem ZrZ(k:Kid)(d n:Int):Z3N k d n=Z0X k.e d n:=by cases k;rfl
theorem ZvK(o:Op)(d n:Int):Z6z o d n=if ZA o.l 80 n < 0 then ZA o.l 80 n else Z0X o.e d (ZA o.l 80 n):=by cases o;rfl
theorem ZbE(t:Tree)(n:Int)(h: -1<=n): -1<=sh1 t n/\sh1 t n<=n:=by
 unfold sh1
 split
 .omega
 .have:=YV t 80 n;omega
mutual
theorem Z1Z:∀ (e:Edit) (d n:Int),-1<=Z0X e d n/\Z0X e d n<=max n (-1)
 | .mk _ o nw w ks _ os,d,n=> by
  simp only [Z0X]
  split
  .omega
  .have h1:=YV o 80 (n - 1 - w.length - os.length)
   have h2:=ZbE nw _ h1.1
   have h3:=Z2x ks (d - 1) _ h2.1
   have h4:=Z2w os (d - 1) _ h3.1
   omega
theorem Z2x:∀ (ks:List (KidOf Edit)) (d n:Int),-1<=n->-1<=Z07 ks d n/\Z07 ks d n<=n
 | [],d,n,h=> by simp only [Z07];omega
 | k ::r,d,n,h=> by
  simp only [Z07]
  split
  .omega
  .have h1:=Z8p k d n
   have h2:=Z2x r d _ h1.1
   omega
theorem Z8p:∀ (k:KidOf Edit) (d n:Int),-1<=Z3N k d n/\Z3N k d n<=max n (-1)
 | ⟨_,e⟩,d,n=> by
  simp only [Z3N]
  exact Z1Z e d n
theorem Z2w:∀ (os:List (OpOf Edit)) (d n:Int),-1<=n->-1<=Z0m os d n/\Z0m os d n<=n
 | [],d,n,h=> by simp only [Z0m];omega
 | o ::r,d,n,h=> by
  simp only [Z0m]
  split
  .omega
  .have h1:=Zaw o d n h
   have h2:=Z2w r d _ h1.1
   omega
theorem Zaw:∀ (o:OpOf Edit) (d n:Int),-1<=n->-1<=Z6z o d n/\Z6z o d n<=n
 | ⟨_,_,l,e⟩,d,n,h=> by
  simp only [Z6z]
  have h1:=Z15 l 80 n h
  split
  .omega
  .have h2:=Z1Z e d (ZA l 80 n)
   omega
end
theorem ZtK{t:Tree}{n:Int}(h:0<=sh1 t n):(Zm t:Int)+sh1 t n<=n:=by
 unfold sh1 at*
 split at h
 .omega
 .rename_i hn
  rw [if_neg hn]
  exact Z2q t 80 n h
mutual
theorem Z98:∀ (e:Edit) (d n:Int),0<=Z0X e d n->(Z8 e:Int)+Z0X e d n<=n
 | .mk _ o nw w ks _ os,d,n,h=> by
  simp only [Z0X] at h ⊢
  split at h
  .omega
  .rename_i hc
   rw [if_neg hc]
   have r1:=YV o 80 (n - 1 - w.length - os.length)
   have r2:=ZbE nw _ r1.1
   have r3:=Z2x ks (d - 1) _ r2.1
   have r4:=Z2w os (d - 1) _ r3.1
   have m4:=Zdi os (d - 1) _ h
   have m3:=Zdj ks (d - 1) (sh1 nw (ZJ o 80 (n - 1 - w.length - os.length))) YL
   have m2:=ZtK (t:=nw) (n:=ZJ o 80 (n - 1 - w.length - os.length)) YL
   have m1:=Z2q o 80 (n - 1 - w.length - os.length) YL
   simp only [Z8]
   omega
theorem Zdj:∀ (ks:List (KidOf Edit)) (d n:Int),0<=Z07 ks d n->(Zy ks:Int)+Z07 ks d n<=n
 | [],d,n,h=> by simp only [Z07,Zy];omega
 | k ::r,d,n,h=> by
  simp only [Z07] at h ⊢
  split at h
  .omega
  .rename_i hc
   rw [if_neg hc]
   have r1:=Z8p k d n
   have r2:=Z2x r d _ r1.1
   have m2:=Zdj r d _ h
   have m1:=Zj5 k d n YL
   simp only [Zy]
   omega
theorem Zj5:∀ (k:KidOf Edit) (d n:Int),0<=Z3N k d n->(J4 k:Int)+Z3N k d n<=n
 | ⟨_,e⟩,d,n,h=> by
  simp only [Z3N,J4] at h ⊢
  exact Z98 e d n h
theorem Zdi:∀ (os:List (OpOf Edit)) (d n:Int),0<=Z0m os d n->(Zn os:Int)+Z0m os d n<=n
 | [],d,n,h=> by simp only [Z0m,Zn];omega
 | o ::r,d,n,h=> by
  simp only [Z0m] at h ⊢
  split at h
  .omega
  .rename_i hc
   rw [if_neg hc]
   have r1:=Zaw o d n YL
   have r2:=Z2w r d _ r1.1
   have m2:=Zdi r d _ h
   have m1:=Zlp o d n YL
   simp only [Zn]
   omega
theorem Zlp:∀ (o:OpOf Edit) (d n:Int),0<=Z6z o d n->(Zt o:Int)+Z6z o d n<=n
 | ⟨_,_,l,e⟩,d,n,h=> by
  simp only [Z6z,Zt] at h ⊢
  split at h
  .omega
  .rename_i hc
   rw [if_neg hc]
   have m2:=Z98 e d _ h
   have r2:=Z1Z e d (ZA l 80 n)
   have m1:=Z3W l 80 n YL
   omega
end
theorem Zcn{e:Edit}(h:0<=Z0X e 80 3000):Z8 e<=3000:=by
 have:=Z98 e 80 3000 h
 omega
theorem Zlm(t:Tree):t.words.length+t.kids.length < Zm t:=by
 obtain ⟨k,w,ks⟩:=t
 have:=Zv ks
 simp only [Zm,Tree.words_mk,Tree.kids_mk]
 omega
theorem ZT(e:Edit):Zm e.old+Zm e.new+e.words.length+e.ops.length+Zy e.kids+Zn e.ops < Z8 e:=by
 obtain ⟨k,o,n,w,ks,l,os⟩:=e
 simp only [Z8,Edit.old_mk,Edit.new_mk,Edit.words_mk,Edit.ops_mk,Edit.kids_mk]
 omega
theorem c57:Contract Tryz.prog cfg 57 Z56:=by
 refine ZDf ?_
 intro t _ hp
 simp only [Z6d] at hp
 have:=Zlm t
 refine ZJ3 t _ ?_;(try simp only [iB,vcT,forall_eq])
 refine ⟨fun _=> by unfold InR;omega,Z6 rfl ?_⟩
 rw [Qr]
 simp only [Yz]
 grind
theorem c58:Contract Tryz.prog cfg 58 ZbD:=by
 refine ZDe c91 ?_
 intro w m _ hp
 refine ZJ2 _ _ _ ?_;(try simp only [iB,vcT,forall_eq])
 refine ⟨⟨hp.1,by grind,hp.2⟩,Z6 rfl ?_⟩
 try rfl
theorem c92:Contract Tryz.prog cfg 92 ZbB:=by
 refine ZD2 c57 ?_
 intro e _ hp
 simp only [Zfl] at hp
 have h1:=ZT e
 have h2:=Y1 e.kids
 refine ZII e _ ?_;(try simp only [iB,vcT,forall_eq])
 try (simp only [Tree.eta,Edit.eta,Tree.kind_mk,Tree.words_mk,Tree.kids_mk])
 refine ⟨fun _=> by simp only [Z6d];omega,fun _=> by simp only [Z6d];omega,fun _=> by unfold InR;omega,fun _=> by unfold InR;omega,Z6 rfl ?_⟩
 rw [Qr]
 simp only [Z1k]
 grind
theorem ZE8 (e:Edit) (x4 x5 i:Int) (N0:LSt U->Prop) (Q:AExit->LSt U->Prop) (h1:0<=x4/\x4<=1048576) (h2:0<=x5/\x5<=1048576) (hi:0<=i) (hlen:e.ops.length<=20000000000)
  (ho:∀ o∈e.ops,(0<=o.n/\o.n<=1048576)/\o.l.length<=20000000000)
  (h:i < e.ops.length->N0 (Z3j e (min (if (e.ops.getD i.toNat Op.nil).kind=2 then x4 else x4+Z3 (e.ops.getD i.toNat Op.nil)) 1048576) (min (if (e.ops.getD i.toNat Op.nil).kind=1 then x5 else x5+Z3 (e.ops.getD i.toNat Op.nil)) 1048576) (i+1)))
  (h':¬i < e.ops.length->Q .ret (⟨[(2,.c (.int .i64 x4)),(3,.c (.int .i64 x5))],[],[]⟩:LSt U)):ZFj e x4 x5 i N0 Q:=by
 refine Zy1 _ _ _ _ _ _ ?_;(try simp only [iB,vcT,forall_eq])
 (simp only [iB,vcS]);(try simp only [iB,vcT])
 refine ⟨fun hc=> ?_,h'⟩
 have hn:=h hc
 have hm:=ho _ (Zf (l:=e.ops) (i:=i.toNat) YL Op.nil)
 have k1:∀ k,k=Z3 (e.ops.getD i.toNat Op.nil)->ZFn e x4 x5 i k N0 Q:=by
  intro k hk
  have hkr:0<=k/\k<=60000000000:=by
   rw [hk];unfold Z3;split <;> omega
  have k2:∀ y,y=(if (e.ops.getD i.toNat Op.nil).kind=2 then x4 else x4+k)->ZFm e x5 i k y N0 Q:=by
   intro y hy
   have hyr:0<=y/\y<=100000000000:=by rw [hy];split <;> omega
   have k3:∀ z,z=(if (e.ops.getD i.toNat Op.nil).kind=1 then x5 else x5+k)->ZFl e i k y z N0 Q:=by
    intro z hz
    have hzr:0<=z/\z<=100000000000:=by rw [hz];split <;> omega
    have k4:∀ u,u=min y 1048576->ZFk e i y z u N0 Q:=by
     intro u hu
     refine Zy2 _ _ _ _ _ _ _ ?_;(try simp only [iB,vcT,forall_eq])
     (simp only [iB,vcS]);(try simp only [iB,vcT])
     rw [<-hk,<-hy,<-hz,<-hu] at hn
     refine ⟨fun hq=> ⟨V3,?_⟩,fun hq=> ⟨V3,?_⟩⟩
     .rw [show min z 1048576=1048576 by omega] at hn;exact hn
     .rw [show min z 1048576=z by omega] at hn;exact hn
    refine Zy3 _ _ _ _ _ _ _ ?_;(try simp only [iB,vcT,forall_eq])
    (simp only [iB,vcS]);(try simp only [iB,vcT])
    exact ⟨fun hq=> k4 _ YL,fun hq=> k4 _ YL⟩
   refine Zy4 _ _ _ _ _ _ _ ?_;(try simp only [iB,vcT,forall_eq])
   (simp only [iB,vcS]);(try simp only [iB,vcT])
   exact ⟨fun hq=> ⟨V3,k3 _ (by rw [if_neg hq])⟩,fun hq=> k3 _ (by rw [if_pos hq])⟩
  refine Zy5 _ _ _ _ _ _ _ ?_;(try simp only [iB,vcT,forall_eq])
  (simp only [iB,vcS]);(try simp only [iB,vcT])
  exact ⟨fun hq=> ⟨V3,k2 _ (by rw [if_neg hq])⟩,fun hq=> k2 _ (by rw [if_pos hq])⟩
 exact ⟨⟨hi,hc⟩,V3,fun hq=> k1 _ (by unfold Z3;rw [if_pos hq]),fun hq=> k1 _ (by unfold Z3;rw [if_neg hq])⟩
theorem c60:Contract Tryz.prog cfg 60 Z55:=by
 refine ZDd ?_
 intro e _ hp
 simp only [ZkO] at hp
 have h1:=ZT e
 refine ZJ0 e _ ?_;(try simp only [iB,vcT,forall_eq])
 refine Z4 (ι:=Int × Int × Int) (fun p=> Z3j e p.1 p.2.1 p.2.2) (fun p=> 0<=p.2.2/\p.2.2<=e.ops.length/\(0<=p.1/\p.1<=1048576)/\(0<=p.2.1/\p.2.1<=1048576)/\Z1i (e.ops.drop p.2.2.toNat) p.1=Z1i e.ops 0/\Z1h (e.ops.drop p.2.2.toNat) p.2.1=Z1h e.ops 0) (fun p=> ((e.ops.length:Int) - p.2.2).toNat) (0,0,0) rfl ⟨by grind,by grind,YL,by grind,by simp,by simp⟩ ?_
 rintro ⟨x4,x5,i⟩ ⟨h2,h3,h4,h5,h6,h7⟩
 dsimp only at*
 have ho:∀ o∈e.ops,(0<=o.n/\o.n<=1048576)/\o.l.length<=20000000000:=by
  intro o hm
  refine ⟨hp.2 o hm,?_⟩
  have a1:=ZI hm
  have a2:=Zv o.l
  rw [ZG] at a1
  omega
 refine ZE8 e x4 x5 i _ _ h4 h5 h2 YL ho (fun hc=> ⟨(_,_,i+1),rfl,⟨by grind,by grind,?_,?_,?_,?_⟩,by grind⟩) (fun hc=> ?_)
 .have hm:=ho _ (Zf (l:=e.ops) (i:=i.toNat) YL Op.nil)
  dsimp only
  unfold Z3
  omega
 .have hm:=ho _ (Zf (l:=e.ops) (i:=i.toNat) YL Op.nil)
  dsimp only
  unfold Z3
  omega
 .rw [ZH h2 hc Op.nil] at h6
  exact h6
 .rw [ZH h2 hc Op.nil] at h7
  exact h7
 .rw [Q6 YL] at h6 h7
  simp only [Z1i,Z1h] at h6 h7
  simp only [ZtR,<-h6,<-h7]
  exact ⟨⟨rfl,⟨⟨rfl,rfl⟩,trivial⟩,rfl,⟨⟨rfl,rfl⟩,trivial⟩,trivial⟩,trivial⟩
theorem Znf{l:List Kid}{d n:Int}(h:n < 0):Z07 l d n=n:=by cases l <;> simp [Z07,h]
theorem Zne{l:List Op}{d n:Int}(h:n < 0):Z0m l d n=n:=by cases l <;> simp [Z0m,h]
theorem Zin{l:List Tree}{d n:Int}(h:n < 0):ZA l d n=n:=by cases l <;> simp [ZA,h]
theorem Zrh{e:Edit}(h:Z3V e):Z3z e.old/\Z3z e.new/\e.words.length<=17592186044416/\e.kids.length<=17592186044416/\e.ops.length<=17592186044416/\Z78 e.kids/\Z77 e.ops:=by
 obtain ⟨k,o,n,w,ks,l,os⟩:=e;exact h
theorem ZvL(e:Edit)(d n:Int):Z0X e d n=if d=0\/n - 1 - e.words.length - e.ops.length < 0 then -1 else Z0m e.ops (d - 1) (Z07 e.kids (d - 1) (sh1 e.new (ZJ e.old 80 (n - 1 - e.words.length - e.ops.length)))):=by
 obtain ⟨k,o,nw,w,ks,l,os⟩:=e;rfl
theorem c56:Contract Tryz.prog cfg 56 ZeE:=by
 refine ZDg c50 ?_
 rintro N e d n _ hp hN
 simp only [Zfo,Zl8] at hp hN
 obtain ⟨hs,hd0,hd1,hn0,hn1⟩:=hp
 obtain ⟨so,sn,lw,lk,lo,sk,sos⟩:=Zrh hs
 have hme:=ZT e
 have hres:=ZvL e d n
 refine ZJ4 N e d n _ ?_;(try simp only [iB,vcT,forall_eq])
 (simp only [iB,vcS]);(try simp only [iB,vcT])
 try (simp only [Tree.eta,Edit.eta,Tree.kind_mk,Tree.words_mk,Tree.kids_mk])
 refine ⟨V3,V3,V3,fun hc=> Ys rfl (by rw [hres,if_pos hc]),fun hc=> ?_⟩
 rw [V0] at hres
 have r1:=YV e.old 80 (n - 1 - e.words.length - e.ops.length)
 have p68:∀ t m,Z3z t->-1<=m->m<=4611686018427387904->Z9Y (t,80,m,()):=fun t m h1 h2 h3=> ⟨h1,V5,V5,h2,h3⟩
 have k0:∀ x,x=sh1 e.new (ZJ e.old 80 (n - 1 - e.words.length - e.ops.length))->ZFo N e d n x (Y2 cfg Tryz.f56.ntmps Tryz.f56.results.toList (ZoT (e,d,n,())) []):=by
  intro x hx
  have rx:=ZbE e.new _ r1.1
  rw [<-hx] at rx hres
  refine Zya N e d n x _ ?_;(try simp only [iB,vcT,forall_eq])
  refine Z4 (ι:=Int × Int) (fun p=> ZaP e d n p.1 p.2) (fun p=> 0<=p.2/\p.2<=e.kids.length/\-1<=p.1/\p.1<=4611686018427387904/\Z07 (e.kids.drop p.2.toNat) (d - 1) p.1=Z07 e.kids (d - 1) x) (fun p=> ((e.kids.length:Int) - p.2).toNat) (x,0) rfl ⟨V5,V5,V5,V5,by simp⟩ ?_
  rintro ⟨y,i⟩ ⟨h1,h2,h3,h4,h5⟩
  dsimp only at*
  refine Zy9 N e d n y i _ _ ?_;(try simp only [iB,vcT,forall_eq])
  (simp only [iB,vcS]);(try simp only [iB,vcT])
  try (simp only [Tree.eta,Edit.eta,Tree.kind_mk,Tree.words_mk,Tree.kids_mk])
  refine ⟨fun hi=> ?_,fun hi=> ?_⟩
  .have hmem:=Zf (l:=e.kids) (i:=i.toNat) YL (KidOf.mk 0 Edit.nil)
   have hsm:=ZcE sk hmem
   have hmm:=Yw hmem
   rw [ZH h1 hi.1 (KidOf.mk 0 Edit.nil)] at h5
   simp only [Z07] at h5
   rw [V0,ZrZ] at h5
   have rr:=Z1Z (e.kids.getD i.toNat (KidOf.mk 0 Edit.nil)).e (d - 1) y
   exact ⟨⟨h1,hi.1⟩,V3,⟨hsm,V5,V5,h3,h4⟩,by simp only [Zl8];omega,V3,(_,i+1),rfl,⟨V5,V5,V5,V5,h5⟩,V5⟩
  .have hy:Z07 e.kids (d - 1) x=y:=by
    rw [<-h5]
    by_cases hlt:i < e.kids.length
    .exact Znf YL
    .rw [Q6 YL];try rfl
   rw [hy] at hres
   refine Z4 (ι:=Int × Int) (fun p=> Z6G e d n p.1 p.2) (fun p=> 0<=p.2/\p.2<=e.ops.length/\-1<=p.1/\p.1<=4611686018427387904/\Z0m (e.ops.drop p.2.toNat) (d - 1) p.1=Z0m e.ops (d - 1) y) (fun p=> ((e.ops.length:Int) - p.2).toNat) (y,0) rfl ⟨V5,V5,h3,h4,by simp⟩ ?_
   rintro ⟨z,j⟩ ⟨h6,h7,h8,h9,h10⟩
   dsimp only at*
   refine Zy8 N e d n z j _ _ ?_;(try simp only [iB,vcT,forall_eq])
   (simp only [iB,vcS]);(try simp only [iB,vcT])
   refine ⟨fun hj=> ?_,fun hj=> ?_⟩
   .have hmem:=Zf (l:=e.ops) (i:=j.toNat) YL Op.nil
    have hsm:=ZcD sos hmem
    have hmm:=ZI hmem
    rw [ZG] at hmm
    rw [ZH h6 hj.1 Op.nil] at h10
    simp only [Z0m] at h10
    rw [V0,ZvK] at h10
    refine Z4 (ι:=Int × Int) (fun p=> ZaO e d n j p.1 p.2) (fun p=> 0<=p.2/\p.2<=(e.ops.getD j.toNat Op.nil).l.length/\-1<=p.1/\p.1<=4611686018427387904/\ZA ((e.ops.getD j.toNat Op.nil).l.drop p.2.toNat) 80 p.1=ZA (e.ops.getD j.toNat Op.nil).l 80 z) (fun p=> (((e.ops.getD j.toNat Op.nil).l.length:Int) - p.2).toNat) (z,0) rfl ⟨V5,V5,h8,h9,by simp⟩ ?_
    rintro ⟨u,k⟩ ⟨g1,g2,g3,g4,g5⟩
    dsimp only at*
    refine Zy7 N e d n j u k _ _ _ ?_;(try simp only [iB,vcT,forall_eq])
    (simp only [iB,vcS]);(try simp only [iB,vcT])
    try (simp only [Tree.eta,Edit.eta,Tree.kind_mk,Tree.words_mk,Tree.kids_mk])
    refine ⟨⟨h6,hj.1⟩,fun hk=> ?_,fun hk=> ?_⟩
    .have hmt:=Zf (l:=(e.ops.getD j.toNat Op.nil).l) (i:=k.toNat) YL Tree.nil
     rw [ZH g1 hk.1 Tree.nil] at g5
     simp only [ZA] at g5
     rw [V0] at g5
     have rr:=YV ((e.ops.getD j.toNat Op.nil).l.getD k.toNat Tree.nil) 80 u
     exact ⟨⟨h6,hj.1⟩,⟨g1,hk.1⟩,p68 _ _ (ZeT hsm.2.1 hmt) g3 g4,V3,(_,k+1),rfl,⟨V5,V5,V5,V5,g5⟩,V5⟩
    .have hu:ZA (e.ops.getD j.toNat Op.nil).l 80 z=u:=by
      rw [<-g5]
      by_cases hlt:k < (e.ops.getD j.toNat Op.nil).l.length
      .exact Zin YL
      .rw [Q6 YL];try rfl
     rw [hu] at h10
     have rr:=Z1Z (e.ops.getD j.toNat Op.nil).e (d - 1) u
     refine ⟨fun hq=> ⟨⟨h6,hj.1⟩,V3,⟨hsm.2.2,V5,V5,g3,g4⟩,by simp only [Zl8];omega,V3,(_,j+1),rfl,⟨V5,V5,V5,V5,?_⟩,V5⟩,
      fun hq=> ⟨V3,(_,j+1),rfl,⟨V5,V5,V5,V5,?_⟩,V5⟩⟩
     .rw [V0] at h10;exact h10
     .rw [V1] at h10;exact h10
   .refine Ys rfl ?_
    rw [hres,<-h10]
    by_cases hlt:j < e.ops.length
    .exact (Zne YL).symm
    .rw [Q6 YL];try rfl
 refine ⟨p68 _ _ so YL YL,fun hq=> ⟨p68 _ _ sn r1.1 YL,k0 _ ?_⟩,fun hq=> k0 _ ?_⟩
 .unfold sh1;rw [V0]
 .unfold sh1;rw [V1]
theorem c27:Contract Tryz.prog cfg 27 ZeL:=by
 refine ZDw c56 ?_
 intro e _ hp
 refine ZJo e _ ?_;(try simp only [iB,vcT,forall_eq])
 try (simp only [Tree.eta,Edit.eta,Tree.kind_mk,Tree.words_mk,Tree.kids_mk])
 exact ⟨⟨hp,by grind,by grind,by grind,by grind⟩,Z6 rfl rfl⟩
end Go.AM.YtfapacabjkhepaaGreat
