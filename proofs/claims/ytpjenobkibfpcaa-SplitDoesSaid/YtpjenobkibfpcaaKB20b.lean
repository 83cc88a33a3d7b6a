import Derived.Test.YtpjenobkibfpcaaKC34
import Derived.Test.YtpjenobkibfpcaaKD20
set_option linter.unusedSimpArgs false
set_option linter.unusedVariables false
namespace Go.AM.Ytpjenobkibfpcaa
open Go.AM Go.Proofs
mutual
theorem Z0t:∀ (t:Tree) (d l:Int),0≤ZC t d l→(Zk t:Int)+ZC t d l≤l
 | .mk _ w ks,d,l,h=> by
  simp only [ZC] at h ⊢
  split at h
  ·omega
  ·rename_i hc
   rw [if_neg hc]
   have:=Z2X ks (d - 1) (l - 1 - w.length) h
   simp only [Zk]
   omega
theorem Z2X:∀ (ks:List Tree) (d l:Int),0≤Zv ks d l→(Za ks:Int)+Zv ks d l≤l
 | [],d,l,h=> by simp [Zv,Za]
 | t ::r,d,l,h=> by
  simp only [Zv] at h ⊢
  split at h
  ·omega
  ·rename_i hc
   rw [if_neg hc]
   have h1:=Z2X r d (ZC t d l) h
   have h3:=(Z0u r d (ZC t d l) (YE t d l).1).2
   have h2:=Z0t t d l (by omega)
   simp only [Za]
   omega
end
end Go.AM.Ytpjenobkibfpcaa
namespace Go.AM.Ytpjenobkibfpcaa
open Go.AM Go.Proofs
theorem Zl{n k:Nat}{rs:List ResultVar}{b b':Bool}(hr:rs=[ResultVar.tmp k])(h:b=b'):Jv cfg n rs (.c (.bool b')) [] .ret (⟨[(k,.c (.bool b))],[],[]⟩:LSt U):=by
 subst hr h
 have hk:Nat.beq k k=true:=Nat.beq_refl k
 simp [Jv,ZvE,Zek,Zej,Z6y,Z8P,LSt.toF,ZcY,hk,ZbR,Z2Z,Yy,JZ,leR,leL,leC,ZmD]
theorem Yf{n k:Nat}{rs:List ResultVar}{K:IntKind}{b b':Int}(hr:rs=[ResultVar.tmp k])(h:b=b'):Jv cfg n rs (.c (.int K b')) [] .ret (⟨[(k,.c (.int K b))],[],[]⟩:LSt U):=by
 subst hr h
 have hk:Nat.beq k k=true:=Nat.beq_refl k
 simp [Jv,ZvE,Zek,Zej,Z6y,Z8P,LSt.toF,ZcY,hk,ZbR,Z2Z,Yy,JZ,leR,leL,leC,ZmD]
theorem Zvk:Contract Try.prog cfg 116 Z7e:=by
 refine Zrx ?_
 intro c _ _
 refine ZwU _ _ ?_
 (simp only [vcS])
 refine ⟨fun h=> Yf rfl ?_,fun h=> ⟨fun h=> Yf rfl ?_,fun h=> ⟨fun h=> Yf rfl ?_,fun h=> ⟨fun h=> Yf rfl ?_,fun h=> ⟨fun h=> Yf rfl ?_,fun h=> ⟨fun h=> Yf rfl ?_,fun h=> Yf rfl ?_⟩⟩⟩⟩⟩⟩ <;> simp only [wd] <;> simp [*]
theorem Zwu(c:Int): -1≤wd c∧wd c≤64:=by
 unfold wd
 repeat' split
 all_goals omega
theorem ZhB(n:Int)(h0:0≤n)(h1:n < 18446744073709551616):IntKind.wrap .u64 (Int.tdiv n 2)=n / 2:=by
 rw [Int.tdiv_eq_ediv_of_nonneg h0]
 simp [IntKind.wrap,IntKind.signed,IntKind.bits]
 omega
theorem Zoc{w:Nat}{n m:Int}(h:0≤n):(n / 2 < 2 ^ w)↔n < 2 ^ (w+1):=by
 have:(2:Int) ^ (w+1)=2 ^ w*2:=by rw [Int.pow_succ]
 omega
theorem c79:Contract Try.prog cfg 79 Zb6:=by
 refine Zuc Zvk ?_
 intro c n _ hp
 simp only [Zgv] at hp
 have hw:=Zwu c
 refine ZxU _ _ _ ?_
 (simp only [vcS])
 refine ⟨trivial,fun h=> Zl rfl ?_,fun h=> ?_⟩
 ·simp only [Zhh]
  simp
  omega
 ·refine Zb (ι:=Int × Int) (fun p=> Z2r c n p.1 p.2) (fun p=> 0≤p.2∧p.2≤wd c∧0≤p.1∧p.1 < 18446744073709551616∧(n < 2 ^ (wd c).toNat↔p.1 < 2 ^ (wd c - p.2).toNat)) (fun p=> (wd c - p.2).toNat) (n,0) rfl ⟨by dsimp only;omega,by dsimp only;omega,by dsimp only;omega,by dsimp only;omega,by simp⟩ ?_
  rintro ⟨m,i⟩ ⟨h1,h2,h3,h4,h5⟩
  dsimp only at*
  refine Zqt _ _ _ _ _ _ ?_
  (simp only [vcS])
  refine ⟨fun hc=> ⟨by omega,by unfold InR;omega,(IntKind.wrap .u64 (Int.tdiv m 2),i+1),rfl,?_,by dsimp only;omega⟩,fun hc=> Zl rfl ?_⟩
  ·rw [ZhB m h3 h4]
   refine ⟨by dsimp only;omega,by dsimp only;omega,by dsimp only;omega,by dsimp only;omega,?_⟩
   dsimp only
   rw [h5,show (wd c - i).toNat=(wd c - (i+1)).toNat+1 by omega]
   exact (Zoc (m:=0) h3).symm
  ·have e:(wd c - i).toNat=0:=by omega
   rw [e] at h5
   simp only [Zhh]
   rw [Bool.eq_iff_iff]
   simp
   omega
theorem Znv{t:Tree}(h:rng t){i:Nat}(hi:i < t.words.length):0≤t.words.getD i 0∧t.words.getD i 0 < 18446744073709551616:=by
 obtain ⟨k,w,ks⟩:=t
 simp only [rng] at h
 simp only [Tree.words_mk] at*
 have hg:w.getD i 0∈w:=by
  simp only [List.getD,List.getElem?_eq_getElem hi,Option.getD_some]
  exact List.getElem_mem hi
 exact h.2.1 _ hg
theorem Zgj{l:Int}{ks:List Tree}{i:Int}{d:Int}(h0:0≤i)(h:i < ks.length):
  Yd l (ks.drop i.toNat) d=((Z1t l (ks.getD i.toNat Tree.nil) && Ze (ks.getD i.toNat Tree.nil) d) && Yd l (ks.drop (i+1).toNat) d):=by
 have e:(i+1).toNat=i.toNat+1:=by omega
 rw [List.drop_eq_getElem_cons (by omega),e]
 simp only [Yd,List.getD,List.getElem?_eq_getElem (show i.toNat < ks.length by omega),Option.getD_some]
theorem Zgf:∀ {ks:List Tree} {i:Nat},Y7 ks→i < ks.length→rng (ks.getD i Tree.nil)
 | t ::_,0,h,_=> by simp only [Y7] at h;exact h.1
 | _ ::r,i+1,h,hi=> by simp only [Y7] at h;exact Zgf (ks:=r) (i:=i) h.2 (by simpa using hi)
theorem Zgg{y:Tree}{d:Int}(h:Ze y d=true)(hk:y.kind=10):y.words.length=1∧y.kids.length=0:=by
 obtain ⟨k,w,ks⟩:=y
 simp only [Tree.kind_mk] at hk
 subst hk
 simpa [Ze] using h
theorem c37:Contract Try.prog cfg 37 Z3Q:=by
 refine Zuu c79 ?_
 rintro N ⟨k,ws,ks⟩ d _ hp hN
 simp only [Z4k,ZgQ,Zk,rng] at hp hN
 refine Zyg N _ _ _ ?_
 (simp only [vcS])
 (simp only [Tree.eta,Edit.eta,Tree.kind_mk,Tree.words_mk,Tree.kids_mk])
 refine ⟨fun h0=> Zl rfl ?_,fun h0=> ⟨fun h10=> Zl rfl ?_,fun h10=> ⟨fun hc=> Zl rfl ?_,fun hc=> ⟨fun hw=> Zl rfl ?_,fun hw=> ?_⟩⟩⟩⟩
 ·simp only [Ze,if_pos h0]
  rw [Bool.eq_iff_iff];(simp only [vcS]);omega
 ·simp only [Ze,if_neg h0,if_pos h10]
  rw [Bool.eq_iff_iff];(simp only [vcS]);omega
 ·simp only [Ze,if_neg h0,if_neg h10]
  split
  ·try rfl
  ·split
   ·rw [decide_eq_false (by omega)];try rfl
   ·have:¬(2≤k∧k≤9∧ws.length=0∧ks.length < 1048576):=by omega
    rw [decide_eq_false this];try rfl
 ·simp only [Ze,if_neg h0,if_neg h10]
  rw [if_neg (by omega),if_neg (by omega)]
  have:¬(2≤k∧k≤9∧ws.length=0∧ks.length < 1048576):=by omega
  rw [decide_eq_false this];try rfl
 ·have hb:Ze (.mk k ws ks) d=Yd k ks (d - 1):=by
   simp only [Ze,if_neg h0,if_neg h10]
   rw [if_neg (by omega)]
   split
   ·rename_i h1
    rw [decide_eq_true (by omega),h1];try rfl
   ·have:2≤k∧k≤9∧ws.length=0∧ks.length < 1048576:=by omega
    rw [decide_eq_true this];try rfl
  refine Zb (ι:=Int) (fun p=> Z2t (.mk k ws ks) d p) (fun p=> 0≤p∧p≤ks.length∧Ze (.mk k ws ks) d=Yd k (ks.drop p.toNat) (d - 1)) (fun p=> ((ks.length:Int) - p).toNat) 0 rfl ⟨by omega,by omega,by simpa using hb⟩ ?_
  rintro i ⟨h1,h2,h3⟩
  refine ZqO N _ _ _ _ _ ?_
  (simp only [vcS])
  (simp only [Tree.eta,Edit.eta,Tree.kind_mk,Tree.words_mk,Tree.kids_mk])
  refine ⟨fun hi=> ?_,fun hi=> ?_⟩
  ·have hd:=Zgj (l:=k) (d:=d - 1) h1 hi
   have hm:=Z0o (ks:=ks) (i:=i.toNat) (by omega)
   have hr:=Zgf (i:=i.toNat) hp.2.1.2.2 (by omega)
   rw [hd] at h3
   have hlen:=ZD ks
   generalize ks.getD i.toNat Tree.nil=y at*
   have hpre:Z4k (y,d - 1,()):=⟨by dsimp only;omega,hr,by dsimp only;omega,by dsimp only;omega⟩
   have hmu:ZgQ (y,d - 1,()) < N:=by simp only [ZgQ];omega
   have hin:InR (d - 1):=by unfold InR;omega
   refine ⟨⟨h1,hi⟩,hin,hpre,hmu,fun hf=> Zl rfl ?_,fun hf=> ?_⟩
   ·rw [h3,hf];simp
   ·have hdata:((bif decide (2≤k) then decide (k≤7) else false)=(y.kind==10))↔((2≤k∧k≤7)↔y.kind=10):=by
     rw [Bool.eq_iff_iff];(simp only [vcS])
    have hat:=Zgg hf
    have hkb:Z1t k y=true↔(((2≤k∧k≤7)↔y.kind=10)∧(¬k=9∨y.kind=1))∧((¬2≤k∨¬k≤7)∨Zhh (k - 2) (y.words.getD 0 0)=true):=by
     unfold Z1t
     by_cases hk:2≤k∧k≤7
     ·rw [if_pos hk]
      (simp only [vcS])
      constructor
      ·rintro ⟨h4,h5⟩;exact ⟨⟨by omega,by omega⟩,.inr h5⟩
      ·rintro ⟨⟨h4,_⟩,h5⟩
       have:=hat (by omega)
       exact ⟨by omega,by rcases h5 with h5 | h5;omega;exact h5⟩
     ·rw [if_neg hk]
      by_cases h9:k=9
      ·rw [if_pos h9]
       (simp only [vcS])
       constructor
       ·intro h4;exact ⟨⟨by omega,by omega⟩,.inl (by omega)⟩
       ·rintro ⟨⟨_,h4⟩,_⟩;omega
      ·rw [if_neg h9]
       (simp only [vcS])
       constructor
       ·intro h4;exact ⟨⟨by omega,by omega⟩,.inl (by omega)⟩
       ·rintro ⟨⟨h4,_⟩,_⟩;omega
    have hone:∀ (h4:(((bif decide (2≤k) then decide (k≤7) else false)=(y.kind==10)∧(¬k=9∨y.kind=1))∧2≤k∧k≤7)),y.words.length=1:=fun h4=> (hat ((hdata.1 h4.1.1).1 h4.2)).1
    simp only [Int.toNat_zero]
    refine ⟨fun h4=> by unfold InR;omega,fun h4=> by have:=hone h4;omega,fun h4=> Znv hr (by have:=hone h4;omega),fun h4=> Zl rfl ?_,fun h4=> ⟨by unfold InR;omega,i+1,rfl,⟨by omega,by omega,?_⟩,by omega⟩⟩
    ·have hno:Z1t k y=false:=by
      cases hkk:Z1t k y with
      | false=> rfl
      | true=>
       exfalso
       obtain ⟨h5,h6⟩:=hkb.1 hkk
       rcases h4 with h4 | ⟨h4,h7⟩
       ·rcases h4 with h4 | h4
        ·exact h4 (hdata.2 h5.1)
        ·omega
       ·rcases h6 with h6 | h6
        ·omega
        ·rw [h7] at h6;cases h6
     rw [h3,hno];try rfl
    ·rw [h3,hkb.2 ⟨⟨hdata.1 h4.1.1,h4.1.2⟩,h4.2⟩,hf];try rfl
  ·rw [List.drop_eq_nil_of_le (by omega)] at h3
   simp only [Yd] at h3
   exact Zl rfl h3.symm
theorem Ze4{t:Tree}(h:0≤ZC t 80 3000):Zk t≤20000000000:=by
 have:=Z0t t 80 3000 h
 omega
end Go.AM.Ytpjenobkibfpcaa
namespace Go.AM.Ytpjenobkibfpcaa
open Go.AM Go.Proofs
noncomputable section
def ZpM:ArgL (Int × Unit):=(.cons (Z04 .u64) .nil)
def Zgw(a:Int × Unit):Prop:=0≤a.1∧a.1 < 18446744073709551616
def ZnB(a:Int × Unit):V U:= .agg [.int .u8 (Zd a.1 0),.int .u8 (Zd a.1 1),.int .u8 (Zd a.1 2),.int .u8 (Zd a.1 3),.int .u8 (Zd a.1 4),.int .u8 (Zd a.1 5),.int .u8 (Zd a.1 6),.int .u8 (Zd a.1 7)]
def Zba:Fs U:=fs ZpM (fun a=> [Zgw a]) ZnB
def ZpL:ArgL (Int × Int × Unit):=(.cons (Z04 .u8) (.cons (Z04 .i64) .nil))
def ZjS(a:Int × Int × Unit):Prop:=(0≤a.1∧a.1 < 256)∧0≤a.2.1∧a.2.1≤8
def Zt1(a:Int × Int × Unit):V U:= .c (.bool (JY a.1 a.2.1))
def Zb9:Fs U:=fs ZpL (fun a=> [ZjS a]) Zt1
def ZpK:ArgL (List Int × Int × Unit):=(.cons (aSl .u8) (.cons (Z04 .i64) .nil))
def Zo7(a:List Int × Int × Unit):Prop:=a.2.1=0∧a.1.length=8∧∀ x∈a.1,0≤x∧x < 256
def Zt0(a:List Int × Int × Unit):V U:= .c (.int .u64 (of8 (fun i=> a.1.getD i 0)))
def Zb8:Fs U:=fs ZpK (fun a=> [Zo7 a]) Zt0
def Zl0:ArgL (Int × Int × Int × Unit):=(.cons (Z04 .u64) (.cons (Z04 .u64) (.cons (Z04 .u8) .nil)))
def ZeX(a:Int × Int × Int × Unit):Prop:=(0≤a.1∧a.1 < 18446744073709551616)∧(0≤a.2.1∧a.2.1 < 18446744073709551616)∧(0≤a.2.2.1∧a.2.2.1 < 256)
def ZnU(a:Int × Int × Int × Unit):V U:= .c (.int .u64 (mix a.1 a.2.1 a.2.2.1))
def Z7h:Fs U:=fs Zl0 (fun a=> [ZeX a]) ZnU
def ZpQ:ArgL (Tree × Unit):=(.cons (aEl .tree) .nil)
def Z4F(a:Tree × Unit):Prop:=Zk a.1≤20000000000
def Zt4(a:Tree × Unit):V U:= .c (.bool (J7 a.1))
def Z3P:Fs U:=fs ZpQ (fun a=> [Z4F a]) Zt4
def ZpP:ArgL (Int × Int × Unit):=(.cons (Z04 .u64) (.cons (Z04 .u8) .nil))
def ZjT(a:Int × Int × Unit):Prop:=(0≤a.1∧a.1 < 18446744073709551616)∧(0≤a.2.1∧a.2.1 < 256)
def Zt3(a:Int × Int × Unit):V U:= .c (.bool (Yl a.1 a.2.1))
def Z8K:Fs U:=fs ZpP (fun a=> [ZjT a]) Zt3
def ZkZ:ArgL (Edit × Unit):=(.cons (aEl .edit) .nil)
def Z6E(a:Edit × Unit):Prop:=Z6 a.1≤20000000000
def ZnT(a:Edit × Unit):V U:= .c (.bool (Z1v a.1))
def Z5q:Fs U:=fs ZkZ (fun a=> [Z6E a]) ZnT
def ZpO:ArgL (Edit × Unit):=(.cons (aEl .edit) .nil)
def Zgx(a:Edit × Unit):Prop:=Z6 a.1≤20000000000∧∀ o∈Edit.ops a.1,0≤o.n∧o.n≤1048576
def ZnC(a:Edit × Unit):V U:= .tup [(false,[ci (Yj a.1.ops 0)]),(false,[ci (Jk a.1.ops 0)])]
def Z3O:Fs U:=fs ZpO (fun a=> [Zgx a]) ZnC
def ZiX:ArgL (Edit × Int × Int × Unit):=(.cons (aEl .edit) (.cons (Z04 .i64) (.cons (Z04 .i64) .nil)))
def ZbH(a:Edit × Int × Int × Unit):Prop:=Z2W a.1∧0≤a.2.1∧a.2.1≤4611686018427387904∧-1≤a.2.2.1∧a.2.2.1≤4611686018427387904
def ZgO(a:Edit × Int × Int × Unit):Nat:=Z6 a.1
def ZjC(a:Edit × Int × Int × Unit):V U:= .c (ci (Z0E a.1 a.2.1 a.2.2.1))
def Zb1:Fs U:=fs ZiX (fun a=> [ZbH a]) ZjC
def ZpR:ArgL (Edit × Unit):=(.cons (aEl .edit) .nil)
def Zo8(a:Edit × Unit):Prop:=Z2W a.1
def Zt5(a:Edit × Unit):V U:= .c (.bool (decide (0≤Z0E a.1 80 3000)))
def Zbc:Fs U:=fs ZpR (fun a=> [Zo8 a]) Zt5
def ZiD:List (FuncId × Fs U):=[]
def ZrN:Zg U:=lvl [([0,2],[2]),([0,2,3],[2,3]),([0,2,3,4],[2,3]),([0,2,3,4,7],[2,3]),([0,2,3,4],[2,3]),([0,2,3,4],[2,3]),([0,2,3,4],[2,3]),([2],[2])]
def Z55(w x0 x4 ml3_0 ml3_1 ml3_2 ml3_3 ml3_4 ml3_5 ml3_6 ml3_7:Int):LSt U:=(L2 [(0,.c (.int .u64 x0)),(2,.ptr (.loc 2) 0),(3,.ptr (.loc 3) 0),(4,.c (ci x4))] [(.loc 2,zc0),(.loc 3,[.int .u8 ml3_0,.int .u8 ml3_1,.int .u8 ml3_2,.int .u8 ml3_3,.int .u8 ml3_4,.int .u8 ml3_5,.int .u8 ml3_6,.int .u8 ml3_7])])
abbrev A67(p:List Nat):=AW (Z2 ZiD) Try.f67 ZrN p
abbrev S67(p:List Nat):=SW (Z2 ZiD) Try.f67 ZrN p
theorem Zy1(w:Int)(Q:QT)(h:(Zj (A67 [1,1,0,1,0,0]) (Z55 w w 0 0 0 0 0 0 0 0 0) (xB 0 (S67 [1,1,1] Q)))):
  A67 [] (L2 [(0,.c (.int .u64 w))] []) Q:=
 Eq.mpr (by kernel_rfl) h
theorem ZqB(w x0 x4 ml3_0 ml3_1 ml3_2 ml3_3 ml3_4 ml3_5 ml3_6 ml3_7:Int)(N0:NT)(Q:QT)(h:let z0:=IntKind.wrap .u8 (Int.tmod x0 256);(((decide (x4 < 8))=true→((256:Int)≠0)∧((0:Int)≤x4∧x4 < ((8:Nat):Int))∧(((256:Int)≠0)∧((InR (x4+1))∧(N0 (Z55 w (IntKind.wrap .u64 (Int.tdiv x0 256)) (x4+1) (Z1p x4 0 z0 ml3_0) (Z1p x4 1 z0 ml3_1) (Z1p x4 2 z0 ml3_2) (Z1p x4 3 z0 ml3_3) (Z1p x4 4 z0 ml3_4) (Z1p x4 5 z0 ml3_5) (Z1p x4 6 z0 ml3_6) (Z1p x4 7 z0 ml3_7))))))∧((decide (x4 < 8))=false→(Q .ret (L2 [(2,.ptr (.loc 2) 0)] [(.loc 2,[.int .u8 ml3_0,.int .u8 ml3_1,.int .u8 ml3_2,.int .u8 ml3_3,.int .u8 ml3_4,.int .u8 ml3_5,.int .u8 ml3_6,.int .u8 ml3_7])]))))):
  A67 [1,1,0,1,0,0] (Z55 w x0 x4 ml3_0 ml3_1 ml3_2 ml3_3 ml3_4 ml3_5 ml3_6 ml3_7) (xT N0 (xB 0 (S67 [1,1,1] Q))):=
 Eq.mpr (by kernel_rfl) h
def ZvX(w:Int):Prop:=AW (Z2 ZiD) Try.f67 ZrN [] (Zo (ZpM.can (w,())) []) (EQ Try.f67 (ZnB (w,())) [])
theorem Zui(hb:∀ (w:Int) (_:Unit),Zgw (w,())→ZvX w):CT 67 Zba:=
 Z8 (l:=[]) Zr rfl trivial ZrN Try.func67 rfl rfl 1 (fun _=> rfl) (by decide) (fun ⟨w,_⟩=> hb w ())
def ZiC:List (FuncId × Fs U):=[]
def ZrM:Zg U:=lvl [([0,1],[]),([0,1,5],[]),([0,1,5,8],[]),([0,1,5],[]),([0,1,5],[]),([4],[])]
def Z8e(m i x0 x5:Int):LSt U:=(L2 [(0,.c (.int .u8 x0)),(1,.c (ci i)),(5,.c (ci x5))] [])
abbrev A68(p:List Nat):=AW (Z2 ZiC) Try.f68 ZrM p
abbrev S68(p:List Nat):=SW (Z2 ZiC) Try.f68 ZrM p
theorem Zy0(m i:Int)(Q:QT)(h:(Zj (A68 [1,0,1,0,0]) (Z8e m i m 0) (xB 0 (S68 [1,1] Q)))):
  A68 [] (L2 [(0,.c (.int .u8 m)),(1,.c (ci i))] []) Q:=
 Eq.mpr (by kernel_rfl) h
theorem ZqA(m i x0 x5:Int)(N0:NT)(Q:QT)(h:(((decide (x5 < i))=true→((2:Int)≠0)∧((InR (x5+1))∧(N0 (Z8e m i (IntKind.wrap .u8 (Int.tdiv x0 2)) (x5+1)))))∧((decide (x5 < i))=false→((2:Int)≠0)∧(Q .ret (L2 [(4,.c (.bool (((Int.tmod x0 2):Int)==1)))] []))))):
  A68 [1,0,1,0,0] (Z8e m i x0 x5) (xT N0 (xB 0 (S68 [1,1] Q))):=
 Eq.mpr (by kernel_rfl) h
def ZvW(m i:Int):Prop:=AW (Z2 ZiC) Try.f68 ZrM [] (Zo (ZpL.can (m,i,())) []) (EQ Try.f68 (Zt1 (m,i,())) [])
theorem Zuh(hb:∀ (m:Int) (i:Int) (_:Unit),ZjS (m,i,())→ZvW m i):CT 68 Zb9:=
 Z8 (l:=[]) Zr rfl trivial ZrM Try.func68 rfl rfl 2 (fun _=> rfl) (by decide) (fun ⟨m,i,_⟩=> hb m i ())
def ZiB:List (FuncId × Fs U):=[]
def ZrL:Zg U:=lvl [([0,1],[]),([0,1,5],[]),([0,1,5,6],[]),([0,1,5,6,8],[]),([0,1,5,6],[]),([0,1,5,6],[]),([4],[])]
def Z8d(b:List Int)(from_ x5 x6:Int):LSt U:=(L2 [(0,.c (sU .u8 b .unk)),(1,.c (ci from_)),(5,.c (.int .u64 x5)),(6,.c (ci x6))] [])
abbrev A69(p:List Nat):=AW (Z2 ZiB) Try.f69 ZrL p
abbrev S69(p:List Nat):=SW (Z2 ZiB) Try.f69 ZrL p
theorem ZxZ(b:List Int)(from_:Int)(Q:QT)(h:(Zj (A69 [1,1,0,1,0,0]) (Z8d b from_ 0 7) (xB 0 (S69 [1,1,1] Q)))):
  A69 [] (L2 [(0,.c (sU .u8 b .unk)),(1,.c (ci from_))] []) Q:=
 Eq.mpr (by kernel_rfl) h
theorem Zqz(b:List Int)(from_ x5 x6:Int)(N0:NT)(Q:QT)(h:(((decide ((0:Int)≤x6))=true→(InR (from_+x6))∧((0:Int)≤(from_+x6)∧(from_+x6) < (b.length:Int))∧((InR (x6 - 1))∧(N0 (Z8d b from_ (IntKind.wrap .u64 (((IntKind.wrap .u64 (x5*256)):Int)+(IntKind.wrap .u64 (List.getD b (Int.toNat (from_+x6)) (0:Int))))) (x6 - 1)))))∧((decide ((0:Int)≤x6))=false→(Q .ret (L2 [(4,.c (.int .u64 x5))] []))))):
  A69 [1,1,0,1,0,0] (Z8d b from_ x5 x6) (xT N0 (xB 0 (S69 [1,1,1] Q))):=
 Eq.mpr (by kernel_rfl) h
def ZvV(b:List Int)(from_:Int):Prop:=AW (Z2 ZiB) Try.f69 ZrL [] (Zo (ZpK.can (b,from_,())) []) (EQ Try.f69 (Zt0 (b,from_,())) [])
theorem Zug(hb:∀ (b:List Int) (from_:Int) (_:Unit),Zo7 (b,from_,())→ZvV b from_):CT 69 Zb8:=
 Z8 (l:=[]) Zr rfl trivial ZrL Try.func69 rfl rfl 2 (fun _=> rfl) (by decide) (fun ⟨b,from_,_⟩=> hb b from_ ())
def Zfl:List (FuncId × Fs U):=[(67,Zba),(68,Zb9),(69,Zb8)]
def Zkg:Zg U:=lvl [([0,1,2],[]),([2,7,8],[7,8]),([2,7,8,9],[7,8]),([2,7,8,9,15],[7,8]),([2,7,8,9],[7,8]),([2,7,8,9,20],[7,8]),([2,7,8,9],[7,8]),([6],[])]
def Z25(a b m x9 ml7_0 ml7_1 ml7_2 ml7_3 ml7_4 ml7_5 ml7_6 ml7_7:Int):LSt U:=(L2 [(2,.c (.int .u8 m)),(7,.ptr (.loc 7) 0),(8,.ptr (.loc 8) 0),(9,.c (ci x9))] [(.loc 7,[.int .u8 ml7_0,.int .u8 ml7_1,.int .u8 ml7_2,.int .u8 ml7_3,.int .u8 ml7_4,.int .u8 ml7_5,.int .u8 ml7_6,.int .u8 ml7_7]),(.loc 8,[.int .u8 (Zd b 0),.int .u8 (Zd b 1),.int .u8 (Zd b 2),.int .u8 (Zd b 3),.int .u8 (Zd b 4),.int .u8 (Zd b 5),.int .u8 (Zd b 6),.int .u8 (Zd b 7)])])
abbrev Zwq(p:List Nat):=AW (Z2 Zfl) Try.f103 Zkg p
abbrev Zxy(p:List Nat):=SW (Z2 Zfl) Try.f103 Zkg p
theorem Zx1(a b m:Int)(Q:QT)(h:((Zgw (a,()))∧(Zgw (b,()))∧(Zj (Zwq [1,1,0,1,0,0]) (Z25 a b m 0 (Zd a 0) (Zd a 1) (Zd a 2) (Zd a 3) (Zd a 4) (Zd a 5) (Zd a 6) (Zd a 7)) (xB 0 (Zxy [1,1,1] Q))))):
  Zwq [] (L2 [(0,.c (.int .u64 a)),(1,.c (.int .u64 b)),(2,.c (.int .u8 m))] []) Q:=
 Eq.mpr (by kernel_rfl) h
theorem Znb(a b m x9 ml7_0 ml7_1 ml7_2 ml7_3 ml7_4 ml7_5 ml7_6 ml7_7:Int)(N0:NT)(Q:QT)(h:let z0:=List.getD [Zd b 0,Zd b 1,Zd b 2,Zd b 3,Zd b 4,Zd b 5,Zd b 6,Zd b 7] x9.toNat 0;(((decide (x9 < 8))=true→(ZjS (m,x9,()))∧(((JY m x9)=true→((0:Int)≤x9∧x9 < ((8:Nat):Int))∧((0:Int)≤x9∧x9 < ((8:Nat):Int))∧((InR (x9+1))∧(N0 (Z25 a b m (x9+1) (Z1p x9 0 z0 ml7_0) (Z1p x9 1 z0 ml7_1) (Z1p x9 2 z0 ml7_2) (Z1p x9 3 z0 ml7_3) (Z1p x9 4 z0 ml7_4) (Z1p x9 5 z0 ml7_5) (Z1p x9 6 z0 ml7_6) (Z1p x9 7 z0 ml7_7)))))∧((JY m x9)=false→(InR (x9+1))∧(N0 (Z25 a b m (x9+1) ml7_0 ml7_1 ml7_2 ml7_3 ml7_4 ml7_5 ml7_6 ml7_7)))))∧((decide (x9 < 8))=false→(Zo7 (([ml7_0,ml7_1,ml7_2,ml7_3,ml7_4,ml7_5,ml7_6,ml7_7]),0,()))∧(Q .ret (L2 [(6,.c (.int .u64 (of8 (fun i=> ([ml7_0,ml7_1,ml7_2,ml7_3,ml7_4,ml7_5,ml7_6,ml7_7]).getD i 0))))] []))))):
  Zwq [1,1,0,1,0,0] (Z25 a b m x9 ml7_0 ml7_1 ml7_2 ml7_3 ml7_4 ml7_5 ml7_6 ml7_7) (xT N0 (xB 0 (Zxy [1,1,1] Q))):=
 Eq.mpr (by kernel_rfl) h
def ZsS(a b m:Int):Prop:=AW (Z2 Zfl) Try.f103 Zkg [] (Zo (Zl0.can (a,b,m,())) []) (EQ Try.f103 (ZnU (a,b,m,())) [])
theorem ZrC(c67:CT 67 Zba)(c68:CT 68 Zb9)(c69:CT 69 Zb8)(hb:∀ (a:Int) (b:Int) (m:Int) (_:Unit),ZeX (a,b,m,())→ZsS a b m):CT 103 Z7h:=
 Z8 (l:=[(67,Zba),(68,Zb9),(69,Zb8)]) Zr rfl (⟨c67,c68,c69,trivial⟩) Zkg Try.func103 rfl rfl 3 (fun _=> rfl) (by decide) (fun ⟨a,b,m,_⟩=> hb a b m ())
def Zp7:List (FuncId × Fs U):=[]
def ZuK:Zg U:=lvl [([1],[1]),([2],[])]
abbrev A62(p:List Nat):=AW (Z2 Zp7) Try.f62 ZuK p
theorem Zy6(t:Tree)(Q:QT)(h:((Tr ((t.kind==0)=true))∧(Tr ((t.kind==0)=true))∧(Tr ((t.kind==0)=true))∧(Tr ((t.kind==0)=true))∧(Tr ((t.kind==0)=true))∧(Tr ((t.kind==0)=true))∧((t.kind==0)=true→InR (((t.words.length:Int):Int)+(t.kids.length:Int)))∧(Tr ((t.kind==0)=true))∧(Tr ((t.kind==0)=true))∧(Q .ret (L2 [(2,.c (.bool (bif (t.kind==0) then (((((t.words.length:Int):Int)+(t.kids.length:Int)):Int)==0) else false)))] [])))):
  A62 [] (L2 [(0,.agg (enc .tree t))] []) Q:=
 Eq.mpr (by kernel_rfl) h
def Zw2(t:Tree):Prop:=AW (Z2 Zp7) Try.f62 ZuK [] (Zo (ZpQ.can (t,())) []) (EQ Try.f62 (Zt4 (t,())) [])
theorem Zum(hb:∀ (t:Tree) (_:Unit),Z4F (t,())→Zw2 t):CT 62 Z3P:=
 Z8 (l:=[]) Zr rfl trivial ZuK Try.func62 rfl rfl 1 (fun _=> rfl) (by decide) (fun ⟨t,_⟩=> hb t ())
def Zp6:List (FuncId × Fs U):=[(103,Z7h)]
def ZuJ:Zg U:=lvl [([0,1],[]),([4],[])]
abbrev A63(p:List Nat):=AW (Z2 Zp6) Try.f63 ZuJ p
theorem Zy5(w m:Int)(Q:QT)(h:((ZeX (w,0,m,()))∧(Q .ret (L2 [(4,.c (.bool (((mix w 0 m):Int)==0)))] [])))):
  A63 [] (L2 [(0,.c (.int .u64 w)),(1,.c (.int .u8 m))] []) Q:=
 Eq.mpr (by kernel_rfl) h
def Zw1(w m:Int):Prop:=AW (Z2 Zp6) Try.f63 ZuJ [] (Zo (ZpP.can (w,m,())) []) (EQ Try.f63 (Zt3 (w,m,())) [])
theorem Zul(Zvo:CT 103 Z7h)(hb:∀ (w:Int) (m:Int) (_:Unit),ZjT (w,m,())→Zw1 w m):CT 63 Z8K:=
 Z8 (l:=[(103,Z7h)]) Zr rfl (⟨Zvo,trivial⟩) ZuJ Try.func63 rfl rfl 2 (fun _=> rfl) (by decide) (fun ⟨w,m,_⟩=> hb w m ())
def ZkB:List (FuncId × Fs U):=[(62,Z3P)]
def ZoR:Zg U:=lvl [([1],[1]),([2],[])]
abbrev ZyL(p:List Nat):=AW (Z2 ZkB) Try.f104 ZoR p
theorem Zx0(e:Edit)(Q:QT)(h:∀ y_1,y_1=(e.new)→∀ y_2,y_2=(e.old)→let z2:=bif (e.kind==0) then (J7 y_2) else false;let z0:=bif z2 then (J7 y_1) else false;let z1:=bif z0 then (((((((e.words.length:Int):Int)+(e.kids.length:Int)):Int)+(e.ops.length:Int)):Int)==0) else false;((Tr ((e.kind==0)=true))∧(Tr ((e.kind==0)=true))∧((e.kind==0)=true→Z4F (y_2,()))∧(Tr ((e.kind==0)=true))∧(Tr (z2=true))∧(Tr (z2=true))∧(z2=true→Z4F (y_1,()))∧(Tr (z2=true))∧(Tr (z0=true))∧(Tr (z0=true))∧(Tr (z0=true))∧(Tr (z0=true))∧(Tr (z0=true))∧(Tr (z0=true))∧(z0=true→InR (((e.words.length:Int):Int)+(e.kids.length:Int)))∧(Tr (z0=true))∧(Tr (z0=true))∧(Tr (z0=true))∧(Tr (z0=true))∧(z0=true→InR (((((e.words.length:Int):Int)+(e.kids.length:Int)):Int)+(e.ops.length:Int)))∧(Tr (z0=true))∧(Tr (z0=true))∧(Tr (z1=true))∧(Tr (z1=true))∧(Tr (z1=true))∧(Q .ret (L2 [(2,.c (.bool (bif z1 then (e.list==0) else false)))] [])))):
  ZyL [] (L2 [(0,.agg (enc .edit e))] []) Q:=
 Eq.mpr (by kernel_rfl) (h _ (Zf _) _ (Zf _))
def ZsR(e:Edit):Prop:=AW (Z2 ZkB) Try.f104 ZoR [] (Zo (ZkZ.can (e,())) []) (EQ Try.f104 (ZnT (e,())) [])
theorem ZrB(c62:CT 62 Z3P)(hb:∀ (e:Edit) (_:Unit),Z6E (e,())→ZsR e):CT 104 Z5q:=
 Z8 (l:=[(62,Z3P)]) Zr rfl (⟨c62,trivial⟩) ZoR Try.func104 rfl rfl 1 (fun _=> rfl) (by decide) (fun ⟨e,_⟩=> hb e ())
def ZiE:List (FuncId × Fs U):=[]
def ZrO:Zg U:=lvl [([1],[1]),([1,4,5],[1]),([1,4,5,6],[1]),([1,4,5,6,13],[1]),([1,4,5,6],[1]),([1,4,5,6,7],[1,7]),([1,4,5,6,7,8],[1,7]),([1,4,5,6,7,8,29],[1,7]),([1,4,5,6,7,8,29],[1,7]),([1,4,5,6,7,8,32],[1,7]),([1,4,5,6,7,8,32],[1,7]),([1,4,5,6,8,38],[1]),([1,4,5,6,8,38],[1]),([1,4,5,6,43],[1]),([1,4,5,6,43],[1]),([1,4,5,6,45],[1]),([1,4,5,6],[1]),([2,3],[])]
def Z2s(e:Edit)(x4 x5 x6:Int):LSt U:=(L2 [(1,.ptr (.loc 1) 0),(4,.c (ci x4)),(5,.c (ci x5)),(6,.c (ci x6))] [(.loc 1,(enc .edit e))])
def Z8i(e:Edit)(x4 x5 x6 x8_a:Int):LSt U:=(L2 [(1,.ptr (.loc 1) 0),(4,.c (ci x4)),(5,.c (ci x5)),(6,.c (ci x6)),(7,.ptr (.loc 7) 0),(8,.c (ci x8_a)),(29,.c (.bool (((OpOf.kind (e.ops.getD x6.toNat Op.nil)):Int)==3)))] [(.loc 1,(enc .edit e)),(.loc 7,(enc .op (e.ops.getD x6.toNat Op.nil)))])
def Z8h(e:Edit)(x5 x6 x8_a x4_b:Int):LSt U:=(L2 [(1,.ptr (.loc 1) 0),(4,.c (ci x4_b)),(5,.c (ci x5)),(6,.c (ci x6)),(7,.ptr (.loc 7) 0),(8,.c (ci x8_a)),(32,.c (.bool (((OpOf.kind (e.ops.getD x6.toNat Op.nil)):Int) !=2)))] [(.loc 1,(enc .edit e)),(.loc 7,(enc .op (e.ops.getD x6.toNat Op.nil)))])
def Z8g(e:Edit)(x6 x8_a x4_b x5_c:Int):LSt U:=(L2 [(1,.ptr (.loc 1) 0),(4,.c (ci x4_b)),(5,.c (ci x5_c)),(6,.c (ci x6)),(8,.c (ci x8_a)),(38,.c (.bool (((OpOf.kind (e.ops.getD x6.toNat Op.nil)):Int) !=1)))] [(.loc 1,(enc .edit e))])
def Z8f(e:Edit)(x6 x4_b x5_c x4_d:Int):LSt U:=(L2 [(1,.ptr (.loc 1) 0),(4,.c (ci x4_d)),(5,.c (ci x5_c)),(6,.c (ci x6)),(43,.c (.bool (decide ((1048576:Int) < x4_b))))] [(.loc 1,(enc .edit e))])
abbrev A65(p:List Nat):=AW (Z2 ZiE) Try.f65 ZrO p
abbrev S65(p:List Nat):=SW (Z2 ZiE) Try.f65 ZrO p
theorem Zy3(e:Edit)(Q:QT)(h:(Zj (A65 [1,1,0,1,0,0]) (Z2s e 0 0 0) (xB 0 (S65 [1,1,1] Q)))):
  A65 [] (L2 [(0,.agg (enc .edit e))] []) Q:=
 Eq.mpr (by kernel_rfl) h
abbrev Zvx(e:Edit)(x4 x5 x6:Int)(N0:NT)(Q:QT):Prop:=A65 [1,1,0,1,0,0] (Z2s e x4 x5 x6) (xT N0 (xB 0 (S65 [1,1,1] Q)))
theorem ZqC(e:Edit)(x4 x5 x6:Int)(N0:NT)(Q:QT)(h:let z2:=decide (x6 < (e.ops.length:Int));let z1:=xB 1 (S65 [1,1,0,1,0,0,1,1] (xT N0 (xB 0 (S65 [1,1,1] Q))));let z0:=e.ops.getD x6.toNat Op.nil;((z2=true→((0:Int)≤x6∧x6 < (e.ops.length:Int))∧((InR (((OpOf.n z0):Int)+((OpOf.l z0).length:Int)))∧(((((OpOf.kind z0):Int)==3)=true→(A65 [1,1,0,1,0,0,1,0,0,1,1,1] (Z8i e x4 x5 x6 1) z1))∧((((OpOf.kind z0):Int)==3)=false→A65 [1,1,0,1,0,0,1,0,0,1,1,1] (Z8i e x4 x5 x6 (((OpOf.n z0):Int)+((OpOf.l z0).length:Int))) z1))))∧(z2=false→(Q .ret (L2 [(2,.c (ci x4)),(3,.c (ci x5))] []))))):
  A65 [1,1,0,1,0,0] (Z2s e x4 x5 x6) (xT N0 (xB 0 (S65 [1,1,1] Q))):=
 Eq.mpr (by kernel_rfl) h
abbrev ZvB(e:Edit)(x4 x5 x6 x8_a:Int)(N0:NT)(Q:QT):Prop:=A65 [1,1,0,1,0,0,1,0,0,1,1,1] (Z8i e x4 x5 x6 x8_a) (xB 1 (S65 [1,1,0,1,0,0,1,1] (xT N0 (xB 0 (S65 [1,1,1] Q)))))
theorem ZqG(e:Edit)(x4 x5 x6 x8_a:Int)(N0:NT)(Q:QT)(h:let z1:=((OpOf.kind (e.ops.getD x6.toNat Op.nil)):Int) !=2;let z0:=xB 1 (S65 [1,1,0,1,0,0,1,1] (xT N0 (xB 0 (S65 [1,1,1] Q))));((z1=true→(InR (x4+x8_a))∧(A65 [1,1,0,1,0,0,1,0,0,1,1,1,1] (Z8h e x5 x6 x8_a (x4+x8_a)) z0))∧(z1=false→A65 [1,1,0,1,0,0,1,0,0,1,1,1,1] (Z8h e x5 x6 x8_a x4) z0))):
  A65 [1,1,0,1,0,0,1,0,0,1,1,1] (Z8i e x4 x5 x6 x8_a) (xB 1 (S65 [1,1,0,1,0,0,1,1] (xT N0 (xB 0 (S65 [1,1,1] Q))))):=
 Eq.mpr (by kernel_rfl) h
abbrev ZvA(e:Edit)(x5 x6 x8_a x4_b:Int)(N0:NT)(Q:QT):Prop:=A65 [1,1,0,1,0,0,1,0,0,1,1,1,1] (Z8h e x5 x6 x8_a x4_b) (xB 1 (S65 [1,1,0,1,0,0,1,1] (xT N0 (xB 0 (S65 [1,1,1] Q)))))
theorem ZqF(e:Edit)(x5 x6 x8_a x4_b:Int)(N0:NT)(Q:QT)(h:let z1:=((OpOf.kind (e.ops.getD x6.toNat Op.nil)):Int) !=1;let z0:=xB 1 (S65 [1,1,0,1,0,0,1,1] (xT N0 (xB 0 (S65 [1,1,1] Q))));((z1=true→(InR (x5+x8_a))∧(A65 [1,1,0,1,0,0,1,0,0,1,1,1,1,1] (Z8g e x6 x8_a x4_b (x5+x8_a)) z0))∧(z1=false→A65 [1,1,0,1,0,0,1,0,0,1,1,1,1,1] (Z8g e x6 x8_a x4_b x5) z0))):
  A65 [1,1,0,1,0,0,1,0,0,1,1,1,1] (Z8h e x5 x6 x8_a x4_b) (xB 1 (S65 [1,1,0,1,0,0,1,1] (xT N0 (xB 0 (S65 [1,1,1] Q))))):=
 Eq.mpr (by kernel_rfl) h
abbrev Zvz(e:Edit)(x6 x8_a x4_b x5_c:Int)(N0:NT)(Q:QT):Prop:=A65 [1,1,0,1,0,0,1,0,0,1,1,1,1,1] (Z8g e x6 x8_a x4_b x5_c) (xB 1 (S65 [1,1,0,1,0,0,1,1] (xT N0 (xB 0 (S65 [1,1,1] Q)))))
theorem ZqE(e:Edit)(x6 x8_a x4_b x5_c:Int)(N0:NT)(Q:QT)(h:let z1:=decide ((1048576:Int) < x4_b);let z0:=xB 1 (S65 [1,1,0,1,0,0,1,1] (xT N0 (xB 0 (S65 [1,1,1] Q))));((z1=true→(A65 [1,1,0,1,0,0,1,0,0,1,1,1,1,1,1] (Z8f e x6 x4_b x5_c 1048576) z0))∧(z1=false→A65 [1,1,0,1,0,0,1,0,0,1,1,1,1,1,1] (Z8f e x6 x4_b x5_c x4_b) z0))):
  A65 [1,1,0,1,0,0,1,0,0,1,1,1,1,1] (Z8g e x6 x8_a x4_b x5_c) (xB 1 (S65 [1,1,0,1,0,0,1,1] (xT N0 (xB 0 (S65 [1,1,1] Q))))):=
 Eq.mpr (by kernel_rfl) h
abbrev Zvy(e:Edit)(x6 x4_b x5_c x4_d:Int)(N0:NT)(Q:QT):Prop:=A65 [1,1,0,1,0,0,1,0,0,1,1,1,1,1,1] (Z8f e x6 x4_b x5_c x4_d) (xB 1 (S65 [1,1,0,1,0,0,1,1] (xT N0 (xB 0 (S65 [1,1,1] Q)))))
theorem ZqD(e:Edit)(x6 x4_b x5_c x4_d:Int)(N0:NT)(Q:QT)(h:let z0:=decide ((1048576:Int) < x5_c);((z0=true→((InR (x6+1))∧(N0 (Z2s e x4_d 1048576 (x6+1)))))∧(z0=false→(InR (x6+1))∧(N0 (Z2s e x4_d x5_c (x6+1)))))):
  A65 [1,1,0,1,0,0,1,0,0,1,1,1,1,1,1] (Z8f e x6 x4_b x5_c x4_d) (xB 1 (S65 [1,1,0,1,0,0,1,1] (xT N0 (xB 0 (S65 [1,1,1] Q))))):=
 Eq.mpr (by kernel_rfl) h
def ZvZ(e:Edit):Prop:=AW (Z2 ZiE) Try.f65 ZrO [] (Zo (ZpO.can (e,())) []) (EQ Try.f65 (ZnC (e,())) [])
theorem Zuk(hb:∀ (e:Edit) (_:Unit),Zgx (e,())→ZvZ e):CT 65 Z3O:=
 Z8 (l:=[]) Zr rfl trivial ZrO Try.func65 rfl rfl 1 (fun _=> rfl) (by decide) (fun ⟨e,_⟩=> hb e ())
def Ziu(N:Nat):List (FuncId × Fs U):=(90,fs ZiX (fun a=> [ZbH a,ZgO a < N]) ZjC) ::[(78,Z4s)]
def ZrE:Zg U:=lvl [([1,2,3],[3]),([1,2,3],[3]),([1,2,3,25],[3]),([6],[]),([1,2,3],[3]),([1,2,3,31],[3]),([1,2,3,31],[3]),([1,2,3,7],[3]),([1,2,3,7,44],[3]),([1,2,3,7],[3]),([1,2,3,7],[3]),([1,2,3,8],[3]),([1,2,3,8,65],[3]),([1,2,3,8],[3]),([1,2,3,8,9],[3]),([1,2,3,8,9,80],[3]),([1,2,3,8,9],[3]),([1,2,3,8,9],[3]),([1,2,3,8,95],[3]),([1,2,3,8],[3]),([6],[])]
def Z82(e:Edit)(d n x2:Int):LSt U:=(L2 [(1,.c (ci d)),(2,.c (ci x2)),(3,.ptr (.loc 3) 0),(31,.c (.bool (decide ((0:Int)≤(ZC (Tree.mk e.old.kind e.old.words e.old.kids) 80 ((((((n:Int) - 1):Int) - (e.words.length:Int)):Int) - (e.ops.length:Int)))))))] [(.loc 3,(enc .edit e))])
def Z81(e:Edit)(d n x2_a x7_a:Int):LSt U:=(L2 [(1,.c (ci d)),(2,.c (ci x2_a)),(3,.ptr (.loc 3) 0),(7,.c (ci x7_a))] [(.loc 3,(enc .edit e))])
def Z54(e:Edit)(d n x2_b x8_b:Int):LSt U:=(L2 [(1,.c (ci d)),(2,.c (ci x2_b)),(3,.ptr (.loc 3) 0),(8,.c (ci x8_b))] [(.loc 3,(enc .edit e))])
def Z80(e:Edit)(d n x8_b x2_c x9_c:Int):LSt U:=(L2 [(1,.c (ci d)),(2,.c (ci x2_c)),(3,.ptr (.loc 3) 0),(8,.c (ci x8_b)),(9,.c (ci x9_c))] [(.loc 3,(enc .edit e))])
abbrev A90(N:Nat)(p:List Nat):=AW (Z2 (Ziu N)) Try.f90 ZrE p
abbrev S90(N:Nat)(p:List Nat):=SW (Z2 (Ziu N)) Try.f90 ZrE p
theorem ZxO(N:Nat)(e:Edit)(d n:Int)(Q:QT)(h:∀ y_1,y_1=(e.new)→∀ y_2,y_2=(e.old)→∀ y_3,y_3=(ZC y_2 80 (((((n - 1):Int) - (e.words.length:Int)):Int) - (e.ops.length:Int)))→let z0:=bif (d==0) then true else (decide (((((((n - 1):Int) - (e.words.length:Int)):Int) - (e.ops.length:Int)):Int) < 0));((InR (n - 1))∧(InR (((n - 1):Int) - (e.words.length:Int)))∧(InR (((((n - 1):Int) - (e.words.length:Int)):Int) - (e.ops.length:Int)))∧((Tr ((!(d==0))=true))∧((d==0)=false→(!(d==0))=true)∧((z0=true→(Q .ret (L2 [(6,.c (ci (-1)))] [])))∧(z0=false→(Z7v (y_2,80,(((((n - 1):Int) - (e.words.length:Int)):Int) - (e.ops.length:Int)),()))∧(((decide ((0:Int)≤y_3))=true→(Z7v (y_1,80,y_3,()))∧(A90 N [1,1,1,1,1] (Z82 e d n (ZC y_1 80 y_3)) Q))∧((decide ((0:Int)≤y_3))=false→A90 N [1,1,1,1,1] (Z82 e d n y_3) Q))))))):
  A90 N [] (L2 [(0,.agg (enc .edit e)),(1,.c (ci d)),(2,.c (ci n))] []) Q:=
 Eq.mpr (by kernel_rfl) (h _ (Zf _) _ (Zf _) _ rfl)
abbrev Zvw(N:Nat)(e:Edit)(d n x2:Int)(Q:QT):Prop:=A90 N [1,1,1,1,1] (Z82 e d n x2) Q
theorem Zqn(N:Nat)(e:Edit)(d n x2:Int)(Q:QT)(h:(Zj (A90 N [1,1,1,1,1,0,1,0,0]) (Z81 e d n x2 0) (xB 0 (S90 N [1,1,1,1,1,1] Q)))):
  A90 N [1,1,1,1,1] (Z82 e d n x2) Q:=
 Eq.mpr (by kernel_rfl) h
theorem Zqm(N:Nat)(e:Edit)(d n x2_a x7_a:Int)(N1:NT)(Q:QT)(h:∀ y_1,y_1=(e.kids.getD x7_a.toNat (KidOf.mk 0 Edit.nil))→∀ y_2,y_2=(y_1.e)→let z0:=decide (x7_a < (e.kids.length:Int));let z1:=bif z0 then (decide ((0:Int)≤x2_a)) else false;(Tr (z0=true))∧(Tr (z0=true))∧((z1=true→((0:Int)≤x7_a∧x7_a < (e.kids.length:Int))∧(InR (d - 1))∧(ZbH (y_2,(d - 1),x2_a,()))∧(ZgO (y_2,(d - 1),x2_a,()) < N)∧((InR (x7_a+1))∧(N1 (Z81 e d n (Z0E y_2 (d - 1) x2_a) (x7_a+1)))))∧(z1=false→(Zj (A90 N [1,1,1,1,1,1,0,1,0,0]) (Z54 e d n x2_a 0) (xB 2 (S90 N [1,1,1,1,1,1,1] Q)))))):
  A90 N [1,1,1,1,1,0,1,0,0] (Z81 e d n x2_a x7_a) (xT N1 (xB 0 (S90 N [1,1,1,1,1,1] Q))):=
 Eq.mpr (by kernel_rfl) (h _ rfl _ (Z9 _))
theorem Zql(N:Nat)(e:Edit)(d n x2_b x8_b:Int)(N2:NT)(Q:QT)(h:let z0:=decide (x8_b < (e.ops.length:Int));let z1:=bif z0 then (decide ((0:Int)≤x2_b)) else false;(Tr (z0=true))∧(Tr (z0=true))∧((z1=true→(Zj (A90 N [1,1,1,1,1,1,0,1,0,0,1,0,0,0,1,0,0]) (Z80 e d n x8_b x2_b 0) (xB 4 (S90 N [1,1,1,1,1,1,0,1,0,0,1,0,0,1] (xB 3 (S90 N [1,1,1,1,1,1,0,1,0,0,1,1] (xT N2 (xB 2 (S90 N [1,1,1,1,1,1,1] Q)))))))))∧(z1=false→(Q .ret (L2 [(6,.c (ci x2_b))] []))))):
  A90 N [1,1,1,1,1,1,0,1,0,0] (Z54 e d n x2_b x8_b) (xT N2 (xB 2 (S90 N [1,1,1,1,1,1,1] Q))):=
 Eq.mpr (by kernel_rfl) h
theorem Zqk(N:Nat)(e:Edit)(d n x8_b x2_c x9_c:Int)(N3 N2:NT)(Q:QT)(h:∀ y_1,y_1=(e.ops.getD x8_b.toNat Op.nil)→∀ y_2,y_2=(y_1.e)→∀ y_3,y_3=(y_1.l.getD x9_c.toNat Tree.nil)→let z1:=decide ((0:Int)≤x2_c);let z0:=decide (x9_c < (y_1.l.length:Int));((0:Int)≤x8_b∧x8_b < (e.ops.length:Int))∧(Tr (z0=true))∧(Tr (z0=true))∧(((bif z0 then z1 else false)=true→((0:Int)≤x8_b∧x8_b < (e.ops.length:Int))∧((0:Int)≤x9_c∧x9_c < (y_1.l.length:Int))∧(Z7v (y_3,80,x2_c,()))∧((InR (x9_c+1))∧(N3 (Z80 e d n x8_b (ZC y_3 80 x2_c) (x9_c+1)))))∧((bif z0 then z1 else false)=false→((z1=true→((0:Int)≤x8_b∧x8_b < (e.ops.length:Int))∧(InR (d - 1))∧(ZbH (y_2,(d - 1),x2_c,()))∧(ZgO (y_2,(d - 1),x2_c,()) < N)∧((InR (x8_b+1))∧(N2 (Z54 e d n (Z0E y_2 (d - 1) x2_c) (x8_b+1)))))∧(z1=false→(InR (x8_b+1))∧(N2 (Z54 e d n x2_c (x8_b+1)))))))):
  A90 N [1,1,1,1,1,1,0,1,0,0,1,0,0,0,1,0,0] (Z80 e d n x8_b x2_c x9_c) (xT N3 (xB 4 (S90 N [1,1,1,1,1,1,0,1,0,0,1,0,0,1] (xB 3 (S90 N [1,1,1,1,1,1,0,1,0,0,1,1] (xT N2 (xB 2 (S90 N [1,1,1,1,1,1,1] Q)))))))):=
 Eq.mpr (by kernel_rfl) (h _ rfl _ (Z9 _) _ (Zf _))
def ZvK(N:Nat)(e:Edit)(d n:Int):Prop:=AW (Z2 (Ziu N)) Try.f90 ZrE [] (Zo (ZiX.can (e,d,n,())) []) (EQ Try.f90 (ZjC (e,d,n,())) [])
theorem Zu7(c78:CT 78 Z4s)(hb:∀ (N:Nat) (e:Edit) (d:Int) (n:Int) (_:Unit),ZbH (e,d,n,())→ZgO (e,d,n,()) < N+1→ZvK N e d n):CT 90 Zb1:=
 YD (μ:=ZgO) (l:=[(78,Z4s)]) Zr rfl (⟨c78,trivial⟩) ZrE Try.func90 rfl rfl 3 (fun _=> rfl) (by decide) (fun N ⟨e,d,n,_⟩=> hb N e d n ())
def Zp8:List (FuncId × Fs U):=[(90,Zb1)]
def ZuM:Zg U:=lvl [([1],[1]),([2],[])]
abbrev A54(p:List Nat):=AW (Z2 Zp8) Try.f54 ZuM p
theorem Zya(e:Edit)(Q:QT)(h:let z0:=Edit.mk e.kind (Tree.mk e.old.kind e.old.words e.old.kids) (Tree.mk e.new.kind e.new.words e.new.kids) e.words e.kids e.list e.ops;((ZbH (z0,80,3000,()))∧(Q .ret (L2 [(2,.c (.bool (decide ((0:Int)≤(Z0E z0 80 3000)))))] [])))):
  A54 [] (L2 [(0,.agg (enc .edit e))] []) Q:=
 Eq.mpr (by kernel_rfl) h
def Zw6(e:Edit):Prop:=AW (Z2 Zp8) Try.f54 ZuM [] (Zo (ZpR.can (e,())) []) (EQ Try.f54 (Zt5 (e,())) [])
theorem Zuo(c90:CT 90 Zb1)(hb:∀ (e:Edit) (_:Unit),Zo8 (e,())→Zw6 e):CT 54 Zbc:=
 Z8 (l:=[(90,Zb1)]) Zr rfl (⟨c90,trivial⟩) ZuM Try.func54 rfl rfl 1 (fun _=> rfl) (by decide) (fun ⟨e,_⟩=> hb e ())
end
end Go.AM.Ytpjenobkibfpcaa
namespace Go.AM.Ytpjenobkibfpcaa
open Go.AM Go.Proofs
noncomputable section
def ZfE:ArgL (Edit × Int × Unit):=(.cons (aEl .edit) (.cons (Z04 .i64) .nil))
def Z9N(a:Edit × Int × Unit):Prop:=(Z6 a.1≤20000000000∧Ym a.1)∧0≤a.2.1∧a.2.1≤1000
def Zf6(a:Edit × Int × Unit):Nat:=2*Z6 a.1
def ZjH(a:Edit × Int × Unit):V U:= .c (.bool (Z4 a.1 a.2.1))
def Zbk:Fs U:=fs ZfE (fun a=> [Z9N a]) ZjH
def ZfC:ArgL (Int × Op × Int × Unit):=(.cons (Z04 .i64) (.cons (aEl .op) (.cons (Z04 .i64) .nil)))
def ZdL(a:Int × Op × Int × Unit):Prop:=(Zn a.2.1≤20000000000∧Yb a.2.1∧isI a.1)∧0≤a.2.2.1∧a.2.2.1≤1000
def ZlS(a:Int × Op × Int × Unit):Nat:=2*Zn a.2.1+1
def ZjE(a:Int × Op × Int × Unit):V U:= .c (.bool (Z7 a.1 a.2.1 a.2.2.1))
def Znk:Fs U:=fs ZfC (fun a=> [ZdL a]) ZjE
def Zj0:ArgL (Edit × Unit):=(.cons (aEl .edit) .nil)
def ZbI(a:Edit × Unit):Prop:=(Z6 a.1≤20000000000∧Ym a.1)∧∃ d,Z4 a.1 d=true
def ZgP(a:Edit × Unit):Nat:=Z6 a.1
def ZnD(a:Edit × Unit):V U:= .c (.bool (Yq a.1))
def Zbb:Fs U:=fs Zj0 (fun a=> [ZbI a]) ZnD
def ZpZ:ArgL (Edit × Unit):=(.cons (aEl .edit) .nil)
def ZjV(a:Edit × Unit):Prop:=Z2W a.1∧Ym a.1
def Zt9(a:Edit × Unit):V U:= .c (.bool (Z06 a.1))
def Zbm:Fs U:=fs ZpZ (fun a=> [ZjV a]) Zt9
def ZiJ(N:Nat):List (FuncId × Fs U):=(23,fs ZfE (fun a=> [Z9N a,Zf6 a < N]) ZjH) ::(64,fs ZfC (fun a=> [ZdL a,ZlS a < N]) ZjE) ::[(62,Z3P),(63,Z8K),(104,Z5q),(37,Z3Q),(65,Z3O)]
def ZrT:Zg U:=lvl [([1,2],[2]),([1,2,24],[2]),([4],[]),([1,2,69],[2]),([4],[]),([1,2,72],[2]),([4],[]),([1,2,5],[2]),([1,2,5,6],[2]),([1,2,5,6,97],[2]),([1,2,5,6],[2]),([1,2,5,6,7],[2,7]),([1,2,6,7,134],[2,7]),([4],[]),([1,2,5,6],[2]),([1,2,5],[2]),([1,2,5,8],[2]),([1,2,5,8,141],[2]),([1,2,5,8],[2]),([1,2,5,8,9],[2,9]),([1,2,8,9,171],[2,9]),([4],[]),([1,2,5,8],[2]),([1,2,186],[2]),([4],[]),([1,2,10],[2]),([1,2,10,191],[2]),([1,2,10],[2]),([1,2,10,204],[2]),([4],[]),([11,12],[]),([4],[])]
def Z8p(e:Edit)(d x5 x6:Int):LSt U:=(L2 [(1,.c (ci d)),(2,.ptr (.loc 2) 0),(5,.c (ci x5)),(6,.c (ci x6))] [(.loc 2,(enc .edit e))])
def Z8o(e:Edit)(d x5_a x8_a:Int):LSt U:=(L2 [(1,.c (ci d)),(2,.ptr (.loc 2) 0),(5,.c (ci x5_a)),(8,.c (ci x8_a))] [(.loc 2,(enc .edit e))])
def Z8n(e:Edit)(d x10_b:Int):LSt U:=(L2 [(1,.c (ci d)),(2,.ptr (.loc 2) 0),(10,.c (ci x10_b))] [(.loc 2,(enc .edit e))])
abbrev A23(N:Nat)(p:List Nat):=AW (Z2 (ZiJ N)) Try.f23 ZrT p
abbrev S23(N:Nat)(p:List Nat):=SW (Z2 (ZiJ N)) Try.f23 ZrT p
theorem Zyl(N:Nat)(e:Edit)(d:Int)(Q:QT)(h:∀ y_1,y_1=(e.new)→∀ y_2,y_2=(e.old)→let z11:=Q .ret (L2 [(4,.c (.bool false))] []);let z8:=(e.kind !=1) && (J7 y_2);let z3:=bif (d==0) then true else (decide (e.kind < 0));let z10:=bif z3 then true else (decide ((3:Int) < e.kind));let z2:=bif (Ze y_2 64) then (Ze y_1 64) else false;let z6:=bif z2 then (e.old.kind !=10) else false;let z1:=bif (e.kind !=1) then (!(bif (J7 y_2) then (J7 y_1) else false)) else false;let z5:=(!z1) && (e.kind !=2);let z0:=bif z1 then true else (bif (e.kind !=2) then (decide ((0:Int) < (((e.words.length:Int):Int)+(e.kids.length:Int)))) else false);let z7:=bif z0 then true else (bif (e.kind !=3) then (bif (e.list !=0) then true else (decide ((0:Int) < (e.ops.length:Int)))) else false);let z4:=(!z0) && (e.kind !=3);let z9:=z4 && (!(e.list !=0));((Tr ((!(d==0))=true))∧(Tr ((!(d==0))=true))∧((d==0)=false→(!(d==0))=true)∧(Tr ((!z3)=true))∧(Tr ((!z3)=true))∧(z3=false→(!z3)=true)∧((z10=true→z11)∧(z10=false→(Tr ((e.kind !=1)=true))∧(Tr ((e.kind !=1)=true))∧((e.kind !=1)=true→Z4F (y_2,()))∧(Tr ((e.kind !=1)=true))∧(Tr (z8=true))∧(Tr (z8=true))∧(z8=true→Z4F (y_1,()))∧((e.kind !=1)=true→(True→(e.kind !=1)=true))∧((e.kind !=1)=true→((J7 y_2)=true→z8=true))∧(Tr ((e.kind !=1)=true))∧(Tr ((e.kind !=1)=true))∧(Tr ((!z1)=true))∧(Tr ((!z1)=true))∧(Tr ((!z1)=true))∧(Tr (z5=true))∧(Tr (z5=true))∧(Tr (z5=true))∧(Tr (z5=true))∧(Tr (z5=true))∧(Tr (z5=true))∧(z5=true→InR (((e.words.length:Int):Int)+(e.kids.length:Int)))∧(Tr (z5=true))∧((!z1)=true→(True→(!z1)=true))∧((!z1)=true→((e.kind !=2)=true→z5=true))∧(z1=false→(!z1)=true)∧(Tr ((!z0)=true))∧(Tr ((!z0)=true))∧(Tr ((!z0)=true))∧(Tr (z4=true))∧(Tr (z4=true))∧(Tr (z4=true))∧(Tr (z9=true))∧(Tr (z9=true))∧(Tr (z9=true))∧(z4=true→(True→z4=true))∧(z4=true→((e.list !=0)=false→z9=true))∧((!z0)=true→(True→(!z0)=true))∧((!z0)=true→((e.kind !=3)=true→z4=true))∧(z0=false→(!z0)=true)∧((z7=true→z11)∧(z7=false→(((e.kind==1)=true→(Z4k (y_2,64,()))∧(Tr ((Ze y_2 64)=true))∧(Tr ((Ze y_2 64)=true))∧((Ze y_2 64)=true→Z4k (y_1,64,()))∧(Tr ((Ze y_2 64)=true))∧(Tr (z2=true))∧(Tr (z2=true))∧(Tr (z2=true))∧(Tr (z2=true))∧(Tr (z6=true))∧(Tr (z6=true))∧(Tr (z6=true))∧(Tr (z6=true))∧(Q .ret (L2 [(4,.c (.bool (bif z6 then (e.new.kind !=10) else false)))] [])))∧((e.kind==1)=false→(Zj (A23 N [1,1,1,1,1,0,1,0,0]) (Z8p e d (-1) 0) (xB 0 (S23 N [1,1,1,1,1,1] Q))))))))))):
  A23 N [] (L2 [(0,.agg (enc .edit e)),(1,.c (ci d))] []) Q:=
 Eq.mpr (by kernel_rfl) (h _ (Zf _) _ (Zf _))
theorem ZqS(N:Nat)(e:Edit)(d x5 x6:Int)(N0:NT)(Q:QT)(h:∀ y_1,y_1=(e.words.getD x6.toNat (WEdit.mk 0 0 0 0))→let z5:=decide (x6 < (e.words.length:Int));let z3:=decide (y_1.at_≤x5);let z2:=bif z3 then true else (decide ((65534:Int) < y_1.at_));let z0:=bif z2 then true else (y_1.mask==0);let z1:=bif z0 then true else (!(Yl y_1.old y_1.mask));let z4:=bif z1 then true else (!(Yl y_1.new y_1.mask));((z5=true→((0:Int)≤x6∧x6 < (e.words.length:Int))∧((Tr ((!z3)=true))∧(Tr ((!z3)=true))∧(z3=false→(!z3)=true)∧(Tr ((!z2)=true))∧(Tr ((!z2)=true))∧(z2=false→(!z2)=true)∧(Tr ((!z0)=true))∧(Tr ((!z0)=true))∧(Tr ((!z0)=true))∧(Tr ((!z0)=true))∧((!z0)=true→ZjT (y_1.old,y_1.mask,()))∧(Tr ((!z0)=true))∧(z0=false→(!z0)=true)∧(Tr ((!z1)=true))∧(Tr ((!z1)=true))∧(Tr ((!z1)=true))∧(Tr ((!z1)=true))∧((!z1)=true→ZjT (y_1.new,y_1.mask,()))∧(Tr ((!z1)=true))∧(z1=false→(!z1)=true)∧((z4=true→(Q .ret (L2 [(4,.c (.bool false))] [])))∧(z4=false→((InR (x6+1))∧(N0 (Z8p e d y_1.at_ (x6+1))))))))∧(z5=false→(Zj (A23 N [1,1,1,1,1,1,1,0,1,0,0]) (Z8o e d (-1) 0) (xB 2 (S23 N [1,1,1,1,1,1,1,1] Q)))))):
  A23 N [1,1,1,1,1,0,1,0,0] (Z8p e d x5 x6) (xT N0 (xB 0 (S23 N [1,1,1,1,1,1] Q))):=
 Eq.mpr (by kernel_rfl) (h _ rfl)
theorem ZqR(N:Nat)(e:Edit)(d x5_a x8_a:Int)(N1:NT)(Q:QT)(h:∀ y_1,y_1=(e.kids.getD x8_a.toNat (KidOf.mk 0 Edit.nil))→∀ y_2,y_2=(y_1.e)→let z8:=decide (x8_a < (e.kids.length:Int));let z7:=decide (e.list < 2);let z6:=Q .ret (L2 [(4,.c (.bool false))] []);let z4:=(e.kind==3) && (!z7);let z3:=decide (y_1.at_≤x5_a);let z2:=bif (e.kind==3) then (bif z7 then true else (decide ((9:Int) < e.list))) else false;let z1:=bif z3 then true else (decide ((65534:Int) < y_1.at_));let z0:=bif z1 then true else (y_1.e.kind==0);let z5:=bif z0 then true else (!(Z4 y_2 (d - 1)));((z8=true→((0:Int)≤x8_a∧x8_a < (e.kids.length:Int))∧((Tr ((!z3)=true))∧(Tr ((!z3)=true))∧(z3=false→(!z3)=true)∧(Tr ((!z1)=true))∧(Tr ((!z1)=true))∧(Tr ((!z1)=true))∧(z1=false→(!z1)=true)∧(Tr ((!z0)=true))∧(Tr ((!z0)=true))∧((!z0)=true→InR (d - 1))∧(Tr ((!z0)=true))∧(Tr ((!z0)=true))∧((!z0)=true→Z9N (y_2,(d - 1),()))∧((!z0)=true→Zf6 (y_2,(d - 1),()) < N)∧(Tr ((!z0)=true))∧(z0=false→(!z0)=true)∧((z5=true→z6)∧(z5=false→((InR (x8_a+1))∧(N1 (Z8o e d y_1.at_ (x8_a+1))))))))∧(z8=false→(Tr ((e.kind==3)=true))∧(Tr ((e.kind==3)=true))∧(Tr ((e.kind==3)=true))∧(Tr (z4=true))∧(Tr (z4=true))∧((e.kind==3)=true→(True→(e.kind==3)=true))∧((e.kind==3)=true→(z7=false→z4=true))∧(Tr ((e.kind==3)=true))∧((z2=true→z6)∧(z2=false→(Zj (A23 N [1,1,1,1,1,1,1,1,1,0,1,0,0]) (Z8n e d 0) (xB 4 (S23 N [1,1,1,1,1,1,1,1,1,1] Q)))))))):
  A23 N [1,1,1,1,1,1,1,0,1,0,0] (Z8o e d x5_a x8_a) (xT N1 (xB 2 (S23 N [1,1,1,1,1,1,1,1] Q))):=
 Eq.mpr (by kernel_rfl) (h _ rfl _ (Z9 _))
theorem ZqQ(N:Nat)(e:Edit)(d x10_b:Int)(N2:NT)(Q:QT)(h:∀ y_1,y_1=e→∀ y_2,y_2=(e.ops.getD x10_b.toNat Op.nil)→∀ y_3,y_3=y_2→let z2:= !(Z7 e.list y_3 (d - 1));let z1:=decide (x10_b < (e.ops.length:Int));let z0:=decide (((Yj y_1.ops 0):Int) < 1048576);((z1=true→((0:Int)≤x10_b∧x10_b < (e.ops.length:Int))∧(InR (d - 1))∧(ZdL (e.list,y_3,(d - 1),()))∧(ZlS (e.list,y_3,(d - 1),()) < N)∧((z2=true→(Q .ret (L2 [(4,.c (.bool false))] [])))∧(z2=false→(InR (x10_b+1))∧(N2 (Z8n e d (x10_b+1))))))∧(z1=false→(Zgx (y_1,()))∧((Tr (z0=true))∧(Tr (z0=true))∧(Q .ret (L2 [(4,.c (.bool (bif z0 then (decide (((Jk y_1.ops 0):Int) < 1048576)) else false)))] [])))))):
  A23 N [1,1,1,1,1,1,1,1,1,0,1,0,0] (Z8n e d x10_b) (xT N2 (xB 4 (S23 N [1,1,1,1,1,1,1,1,1,1] Q))):=
 Eq.mpr (by kernel_rfl) (h _ (Z9 _) _ rfl _ (J4 _))
def Zwh(N:Nat)(e:Edit)(d:Int):Prop:=AW (Z2 (ZiJ N)) Try.f23 ZrT [] (Zo (ZfE.can (e,d,())) []) (EQ Try.f23 (ZjH (e,d,())) [])
abbrev ZxH:Prop:=∀ (N:Nat) (e:Edit) (d:Int) (_:Unit),Z9N (e,d,())→Zf6 (e,d,()) < N+1→Zwh N e d
def ZiF(N:Nat):List (FuncId × Fs U):=(23,fs ZfE (fun a=> [Z9N a,Zf6 a < N]) ZjH) ::(64,fs ZfC (fun a=> [ZdL a,ZlS a < N]) ZjE) ::[(62,Z3P),(63,Z8K),(104,Z5q),(37,Z3Q),(65,Z3O)]
def ZrP:Zg U:=lvl [([0,2,4],[4]),([0,2,4,10],[4]),([6],[]),([0,2,4,42],[4]),([6],[]),([0,2,4,45],[4]),([0,4,7],[4]),([0,4,7,50],[4]),([0,4,7],[4]),([0,4,7,62],[4]),([6],[]),([6],[]),([0,4,92],[4]),([6],[]),([6],[])]
def Z8j(list:Int)(o:Op)(d x7:Int):LSt U:=(L2 [(0,.c (ci list)),(4,.ptr (.loc 4) 0),(7,.c (ci x7))] [(.loc 4,(enc .op o))])
abbrev A64(N:Nat)(p:List Nat):=AW (Z2 (ZiF N)) Try.f64 ZrP p
abbrev S64(N:Nat)(p:List Nat):=SW (Z2 (ZiF N)) Try.f64 ZrP p
theorem Zy4(N:Nat)(list:Int)(o:Op)(d:Int)(Q:QT)(h:∀ y_1,y_1=(o.e)→let z12:=Q .ret (L2 [(6,.c (.bool false))] []);let z9:=decide ((1:Int)≤o.n);let z5:=bif (o.n !=0) then true else (decide (o.kind < 0));let z10:=bif z5 then true else (decide ((3:Int) < o.kind));let z4:=decide ((0:Int) < (o.l.length:Int));let z7:=bif z4 then true else (o.e.kind==0);let z3:=bif (o.e.kind==1) then (o.e.old.kind==1) else false;let z2:=bif z9 then (decide (o.n≤1048576)) else false;let z6:=bif z2 then (((o.l.length:Int):Int)==0) else false;let z1:=bif (list==8) then true else (o.e.kind==2);let z8:=(!z1) && (o.e.kind==1);let z0:=bif z7 then true else (decide (list≤7));let z11:=bif z0 then true else (!(Z4 y_1 d));(((o.kind==0)=true→(Tr (z9=true))∧(Tr (z9=true))∧(Tr (z9=true))∧(Tr (z2=true))∧(Tr (z2=true))∧(Tr (z2=true))∧(Tr (z2=true))∧(Tr (z6=true))∧(Tr (z6=true))∧(z6=true→Z6E (y_1,()))∧(Tr (z6=true))∧(Q .ret (L2 [(6,.c (.bool (bif z6 then (Z1v y_1) else false)))] [])))∧((o.kind==0)=false→(Tr ((!(o.n !=0))=true))∧(Tr ((!(o.n !=0))=true))∧((o.n !=0)=false→(!(o.n !=0))=true)∧(Tr ((!z5)=true))∧(Tr ((!z5)=true))∧(z5=false→(!z5)=true)∧((z10=true→z12)∧(z10=false→(((decide (o.kind < 3))=true→(Zj (A64 N [1,1,1,0,1,0,0,1,0,0]) (Z8j list o d 0) (xB 0 (S64 N [1,1,1,0,1,0,1] (S64 N [1,1,1,1] Q)))))∧((decide (o.kind < 3))=false→(Tr ((!z4)=true))∧(Tr ((!z4)=true))∧(Tr ((!z4)=true))∧(z4=false→(!z4)=true)∧(Tr ((!z7)=true))∧(z7=false→(!z7)=true)∧(Tr ((!z0)=true))∧(Tr ((!z0)=true))∧(Tr ((!z0)=true))∧((!z0)=true→Z9N (y_1,d,()))∧((!z0)=true→Zf6 (y_1,d,()) < N)∧(Tr ((!z0)=true))∧(z0=false→(!z0)=true)∧((z11=true→z12)∧(z11=false→(Tr ((!(list==8))=true))∧(Tr ((!(list==8))=true))∧(Tr ((!(list==8))=true))∧((list==8)=false→(!(list==8))=true)∧(Tr ((!z1)=true))∧(Tr ((!z1)=true))∧(Tr ((!z1)=true))∧(Tr ((!z1)=true))∧(Tr (z8=true))∧(Tr (z8=true))∧(Tr (z8=true))∧(Tr (z8=true))∧((!z1)=true→(True→(!z1)=true))∧((!z1)=true→((o.e.kind==1)=true→z8=true))∧(Tr ((!z1)=true))∧(Tr (((!z1) && z3)=true))∧(Tr (((!z1) && z3)=true))∧(Tr (((!z1) && z3)=true))∧(Tr (((!z1) && z3)=true))∧((!z1)=true→(True→(!z1)=true))∧((!z1)=true→(z3=true→((!z1) && z3)=true))∧(z1=false→(!z1)=true)∧(Q .ret (L2 [(6,.c (.bool (bif z1 then true else (bif z3 then (o.e.new.kind==1) else false))))] []))))))))))):
  A64 N [] (L2 [(0,.c (ci list)),(1,.agg (enc .op o)),(2,.c (ci d))] []) Q:=
 Eq.mpr (by kernel_rfl) (h _ (Z9 _))
theorem ZqH(N:Nat)(list:Int)(o:Op)(d x7:Int)(N0:NT)(Q:QT)(h:let z3:=decide (x7 < (o.l.length:Int));let z2:=Tree.mk list [] (List.drop x7.toNat (List.take (Int.toNat (x7+1)) o.l));let z1:=Edit.mk o.e.kind (Tree.mk o.e.old.kind o.e.old.words o.e.old.kids) (Tree.mk o.e.new.kind o.e.new.words o.e.new.kids) o.e.words o.e.kids o.e.list o.e.ops;let z0:=decide ((0:Int) < (o.l.length:Int));((z3=true→(InR (x7+1))∧((0:Int)≤x7∧x7≤(x7+1)∧(x7+1)≤(o.l.length:Int))∧(Z4k (z2,64,()))∧(((!(Ze z2 64))=true→(Q .ret (L2 [(6,.c (.bool false))] [])))∧((!(Ze z2 64))=false→(InR (x7+1))∧(N0 (Z8j list o d (x7+1))))))∧(z3=false→(Tr (z0=true))∧(Tr (z0=true))∧(z0=true→Z6E (z1,()))∧(Tr (z0=true))∧(Q .ret (L2 [(6,.c (.bool (bif z0 then (Z1v z1) else false)))] []))))):
  A64 N [1,1,1,0,1,0,0,1,0,0] (Z8j list o d x7) (xT N0 (xB 0 (S64 N [1,1,1,0,1,0,1] (S64 N [1,1,1,1] Q)))):=
 Eq.mpr (by kernel_rfl) h
def Zw0(N:Nat)(list:Int)(o:Op)(d:Int):Prop:=AW (Z2 (ZiF N)) Try.f64 ZrP [] (Zo (ZfC.can (list,o,d,())) []) (EQ Try.f64 (ZjE (list,o,d,())) [])
abbrev ZxE:Prop:=∀ (N:Nat) (list:Int) (o:Op) (d:Int) (_:Unit),ZdL (list,o,d,())→ZlS (list,o,d,()) < N+1→Zw0 N list o d
def ZiG(N:Nat):List (FuncId × Fs U):=(55,fs Zj0 (fun a=> [ZbI a,ZgP a < N]) ZnD) ::[(65,Z3O)]
def ZrQ:Zg U:=lvl [([1],[1]),([1,3,4],[1]),([1,17],[1]),([2],[]),([1,5],[1]),([1,5,22],[1]),([1,5],[1]),([1,5,32],[1]),([2],[]),([1,6],[1]),([1,6,37],[1]),([1,6],[1]),([1,6,47],[1]),([2],[]),([2],[])]
def Z8l(e:Edit)(x5:Int):LSt U:=(L2 [(1,.ptr (.loc 1) 0),(5,.c (ci x5))] [(.loc 1,(enc .edit e))])
def Z8k(e:Edit)(x6_a:Int):LSt U:=(L2 [(1,.ptr (.loc 1) 0),(6,.c (ci x6_a))] [(.loc 1,(enc .edit e))])
abbrev A55(N:Nat)(p:List Nat):=AW (Z2 (ZiG N)) Try.f55 ZrQ p
abbrev S55(N:Nat)(p:List Nat):=SW (Z2 (ZiG N)) Try.f55 ZrQ p
theorem Zy9(N:Nat)(e:Edit)(Q:QT)(h:∀ y_1,y_1=e→let z0:=decide ((2000:Int) < (Yj y_1.ops 0));let z1:=bif z0 then true else (decide ((2000:Int) < (Jk y_1.ops 0)));((Zgx (y_1,()))∧((Tr ((!z0)=true))∧(z0=false→(!z0)=true)∧((z1=true→(Q .ret (L2 [(2,.c (.bool false))] [])))∧(z1=false→(Zj (A55 N [1,1,1,0,1,0,0]) (Z8l e 0) (xB 0 (S55 N [1,1,1,1] Q)))))))):
  A55 N [] (L2 [(0,.agg (enc .edit e))] []) Q:=
 Eq.mpr (by kernel_rfl) (h _ (Z9 _))
theorem ZqK(N:Nat)(e:Edit)(x5:Int)(N0:NT)(Q:QT)(h:∀ y_1,y_1=(e.kids.getD x5.toNat (KidOf.mk 0 Edit.nil))→∀ y_2,y_2=(y_1.e)→let z0:=decide (x5 < (e.kids.length:Int));((z0=true→((0:Int)≤x5∧x5 < (e.kids.length:Int))∧(ZbI (y_2,()))∧(ZgP (y_2,()) < N)∧(((!(Yq y_2))=true→(Q .ret (L2 [(2,.c (.bool false))] [])))∧((!(Yq y_2))=false→(InR (x5+1))∧(N0 (Z8l e (x5+1))))))∧(z0=false→(Zj (A55 N [1,1,1,1,0,1,0,0]) (Z8k e 0) (xB 2 (S55 N [1,1,1,1,1] Q)))))):
  A55 N [1,1,1,0,1,0,0] (Z8l e x5) (xT N0 (xB 0 (S55 N [1,1,1,1] Q))):=
 Eq.mpr (by kernel_rfl) (h _ rfl _ (Z9 _))
theorem ZqJ(N:Nat)(e:Edit)(x6_a:Int)(N1:NT)(Q:QT)(h:∀ y_1,y_1=(e.ops.getD x6_a.toNat Op.nil)→∀ y_2,y_2=(y_1.e)→let z0:=decide (x6_a < (e.ops.length:Int));((z0=true→((0:Int)≤x6_a∧x6_a < (e.ops.length:Int))∧(ZbI (y_2,()))∧(ZgP (y_2,()) < N)∧(((!(Yq y_2))=true→(Q .ret (L2 [(2,.c (.bool false))] [])))∧((!(Yq y_2))=false→(InR (x6_a+1))∧(N1 (Z8k e (x6_a+1))))))∧(z0=false→(Q .ret (L2 [(2,.c (.bool true))] []))))):
  A55 N [1,1,1,1,0,1,0,0] (Z8k e x6_a) (xT N1 (xB 2 (S55 N [1,1,1,1,1] Q))):=
 Eq.mpr (by kernel_rfl) (h _ rfl _ (Z9 _))
def Zw5(N:Nat)(e:Edit):Prop:=AW (Z2 (ZiG N)) Try.f55 ZrQ [] (Zo (Zj0.can (e,())) []) (EQ Try.f55 (ZnD (e,())) [])
theorem Zun(c65:CT 65 Z3O)(hb:∀ (N:Nat) (e:Edit) (_:Unit),ZbI (e,())→ZgP (e,()) < N+1→Zw5 N e):CT 55 Zbb:=
 YD (μ:=ZgP) (l:=[(65,Z3O)]) Zr rfl (⟨c65,trivial⟩) ZrQ Try.func55 rfl rfl 1 (fun _=> rfl) (by decide) (fun N ⟨e,_⟩=> hb N e ())
def Zpg:List (FuncId × Fs U):=[(54,Zbc),(23,Zbk),(55,Zbb)]
def ZuU:Zg U:=lvl [([1],[1]),([2],[])]
abbrev A15(p:List Nat):=AW (Z2 Zpg) Try.f15 ZuU p
theorem Zyn(e:Edit)(Q:QT)(h:∀ y_1,y_1=e→let z1:=decide (0≤Z0E y_1 80 3000);let z0:=bif z1 then (Z4 y_1 64) else false;((Zo8 (y_1,()))∧(Tr (z1=true))∧(z1=true→Z9N (y_1,64,()))∧(Tr (z1=true))∧(Tr (z0=true))∧(z0=true→ZbI (y_1,()))∧(Tr (z0=true))∧(Q .ret (L2 [(2,.c (.bool (bif z0 then (Yq y_1) else false)))] [])))):
  A15 [] (L2 [(0,.agg (enc .edit e))] []) Q:=
 Eq.mpr (by kernel_rfl) (h _ (Z9 _))
def Zwj(e:Edit):Prop:=AW (Z2 Zpg) Try.f15 ZuU [] (Zo (ZpZ.can (e,())) []) (EQ Try.f15 (Zt9 (e,())) [])
theorem ZuA(c54:CT 54 Zbc)(c23:CT 23 Zbk)(c55:CT 55 Zbb)(hb:∀ (e:Edit) (_:Unit),ZjV (e,())→Zwj e):CT 15 Zbm:=
 Z8 (l:=[(54,Zbc),(23,Zbk),(55,Zbb)]) Zr rfl (⟨c54,c23,c55,trivial⟩) ZuU Try.func15 rfl rfl 1 (fun _=> rfl) (by decide) (fun ⟨e,_⟩=> hb e ())
theorem Zm1(c62:CT 62 Z3P)(c63:CT 63 Z8K)(Zvn:CT 104 Z5q)(c37:CT 37 Z3Q)(c65:CT 65 Z3O)(ha:ZxH)(hb:ZxE):CT 23 Zbk∧CT 64 Znk:=
 Z1d (μA:=Zf6) (μB:=ZlS) (l:=[(62,Z3P),(63,Z8K),(104,Z5q),(37,Z3Q),(65,Z3O)]) Zr rfl (⟨c62,c63,Zvn,c37,c65,trivial⟩) ZrT ZrP Try.func23 Try.func64 rfl rfl rfl rfl 2 3 (fun _=> rfl) (fun _=> rfl) (by decide) (by decide) (fun N ⟨e,d,_⟩=> ha N e d ()) (fun N ⟨list,o,d,_⟩=> hb N list o d ())
end
end Go.AM.Ytpjenobkibfpcaa
namespace Go.AM.Ytpjenobkibfpcaa
open Go.AM Go.Proofs
theorem Z4o{n:Int}(h0:0≤n)(h1:n < 18446744073709551616):IntKind.wrap .u64 n=n:=by
 simp [IntKind.wrap,IntKind.signed,IntKind.bits];omega
theorem Zav{n:Int}(h0:0≤n)(h1:n < 256):IntKind.wrap .u8 n=n:=by
 simp [IntKind.wrap,IntKind.signed,IntKind.bits];omega
theorem Zl2{i:Int}{j:Nat}{v:Int}{F G:Nat→Int}(hi:0≤i)(hv:v=F i.toNat):Z1p i j v (if (j:Int) < i then F j else G j)=if (j:Int) < i+1 then F j else G j:=by
 unfold Z1p
 by_cases h:i=j
 ·subst h
  rw [if_pos rfl,if_pos (by omega),hv]
  simp
 ·rw [if_neg h]
  by_cases h2:(j:Int) < i
  ·rw [if_pos h2,if_pos (by omega)]
  ·rw [if_neg h2,if_neg (by omega)]
theorem Zs0{i:Int}{j:Nat}{F G:Nat→Int}(h:F i.toNat=G i.toNat)(hi:0≤i):(if (j:Int) < i then F j else G j)=if (j:Int) < i+1 then F j else G j:=by
 by_cases h2:(j:Int) < i
 ·rw [if_pos h2,if_pos (by omega)]
 ·by_cases h3:(j:Int)=i
  ·subst h3
   rw [if_neg h2,if_pos (by omega)]
   simpa using h.symm
  ·rw [if_neg h2,if_neg (by omega)]
theorem Z0K(w:Int)(i:Nat):0≤Zd w i∧Zd w i < 256:=by
 unfold Zd
 omega
theorem Z5d{w:Int}(h:0≤w)(i:Nat):0≤w / 256 ^ i:=Int.ediv_nonneg h (Int.le_of_lt (Int.pow_pos (by omega)))
theorem Zcy{w:Int}(h:0≤w)(i:Nat):w / 256 ^ i≤w:=Int.ediv_le_self _ h
theorem Zft(w:Int)(i:Nat):w / 256 ^ i / 256=w / 256 ^ (i+1):=by
 rw [Int.ediv_ediv_of_nonneg (Int.le_of_lt (Int.pow_pos (by omega))),Int.pow_succ]
theorem c67:Contract Try.prog cfg 67 Zba:=by
 refine Zui ?_
 intro w _ hp
 simp only [Zgw] at hp
 refine Zy1 _ _ ?_;(try simp only [vcT,forall_eq])
 refine Zb (ι:=Int) (fun i=> Z55 w (w / 256 ^ i.toNat) i (if ((0:Nat):Int) < i then Zd w 0 else 0) (if ((1:Nat):Int) < i then Zd w 1 else 0) (if ((2:Nat):Int) < i then Zd w 2 else 0) (if ((3:Nat):Int) < i then Zd w 3 else 0)
  (if ((4:Nat):Int) < i then Zd w 4 else 0) (if ((5:Nat):Int) < i then Zd w 5 else 0) (if ((6:Nat):Int) < i then Zd w 6 else 0) (if ((7:Nat):Int) < i then Zd w 7 else 0)) (fun i=> 0≤i∧i≤8) (fun i=> (8 - i).toNat) 0 ?_ ⟨by omega,by omega⟩ ?_
 ·simp [Z55]
 ·rintro i ⟨h1,h2⟩
  refine ZqB _ _ _ _ _ _ _ _ _ _ _ _ _ ?_;(try simp only [vcT,forall_eq])
  (simp only [vcS]);(try simp only [vcT])
  refine ⟨fun hc=> ⟨by omega,⟨h1,by omega⟩,by omega,by unfold InR;omega,i+1,?_,⟨by omega,by omega⟩,by omega⟩,fun hc=> ?_⟩
  ·have hd:=Z5d hp.1 i.toNat
   have hl:=Zcy hp.1 i.toNat
   have e1:IntKind.wrap .u64 (Int.tdiv (w / 256 ^ i.toNat) 256)=w / 256 ^ (i+1).toNat:=by
    rw [Int.tdiv_eq_ediv_of_nonneg hd,Zft,show i.toNat+1=(i+1).toNat by omega]
    exact Z4o (Z5d hp.1 _) (Int.lt_of_le_of_lt (Zcy hp.1 _) hp.2)
   have e2:IntKind.wrap .u8 (Int.tmod (w / 256 ^ i.toNat) 256)=Zd w i.toNat:=by
    rw [Int.tmod_eq_emod_of_nonneg hd]
    exact Zav (Z0K w _).1 (Z0K w _).2
   rw [e1]
   have st:∀ j:Nat,Z1p i j (IntKind.wrap .u8 (Int.tmod (w / 256 ^ i.toNat) 256)) (if (j:Int) < i then Zd w j else 0)=if (j:Int) < i+1 then Zd w j else 0:=fun j=> Zl2 (F:=Zd w) (G:=fun _=> 0) h1 e2
   rw [st 0,st 1,st 2,st 3,st 4,st 5,st 6,st 7]
  ·have:i=8:=by omega
   subst this
   simp only [ZnB]
   exact ⟨⟨rfl,⟨⟨rfl,rfl⟩,⟨rfl,rfl⟩,⟨rfl,rfl⟩,⟨rfl,rfl⟩,⟨rfl,rfl⟩,⟨rfl,rfl⟩,⟨rfl,rfl⟩,⟨rfl,rfl⟩,trivial⟩,trivial⟩,trivial⟩
theorem c68:Contract Try.prog cfg 68 Zb9:=by
 refine Zuh ?_
 intro m i _ hp
 simp only [ZjS] at hp
 refine Zy0 _ _ _ ?_;(try simp only [vcT,forall_eq])
 refine Zb (ι:=Int) (fun k=> Z8e m i (m / 2 ^ k.toNat) k) (fun k=> 0≤k∧k≤i) (fun k=> (i - k).toNat) 0 ?_ ⟨by omega,by omega⟩ ?_
 ·simp
 ·rintro k ⟨h1,h2⟩
  refine ZqA _ _ _ _ _ _ ?_;(try simp only [vcT,forall_eq])
  have hd:0≤m / 2 ^ k.toNat:=Int.ediv_nonneg hp.1.1 (Int.le_of_lt (Int.pow_pos (by omega)))
  have hl:m / 2 ^ k.toNat≤m:=Int.ediv_le_self _ hp.1.1
  (simp only [vcS])
  refine ⟨fun hc=> ⟨by omega,by unfold InR;omega,k+1,?_,⟨by omega,by omega⟩,by omega⟩,fun hc=> ⟨by omega,Zl rfl ?_⟩⟩
  ·have e:IntKind.wrap .u8 (Int.tdiv (m / 2 ^ k.toNat) 2)=m / 2 ^ (k+1).toNat:=by
    rw [Int.tdiv_eq_ediv_of_nonneg hd,Int.ediv_ediv_of_nonneg (Int.le_of_lt (Int.pow_pos (by omega))),show (2:Int) ^ k.toNat*2=2 ^ (k+1).toNat by rw [←Int.pow_succ];congr 1;omega]
    refine Zav (Int.ediv_nonneg hp.1.1 (Int.le_of_lt (Int.pow_pos (by omega)))) (Int.lt_of_le_of_lt (Int.ediv_le_self _ hp.1.1) hp.1.2)
   rw [e]
  ·have:k=i:=by omega
   subst this
   rw [Int.tmod_eq_emod_of_nonneg hd]
   try rfl
def Zal(f:Nat→Int):Nat→Int
 | 0=> 0
 | k+1=> f (7 - k)+256*Zal f k
theorem ZaZ{f:Nat→Int}(h:∀ i,0≤f i∧f i < 256):∀ k,0≤Zal f k∧Zal f k < 256 ^ k
 | 0=> by simp [Zal]
 | k+1=> by
  have:=ZaZ h k
  have h2:=h (7 - k)
  simp only [Zal,Int.pow_succ]
  omega
theorem ZtO(f:Nat→Int):Zal f 8=of8 f:=by simp [Zal,of8]
theorem c69:Contract Try.prog cfg 69 Zb8:=by
 refine Zug ?_
 intro b z _ hp
 obtain ⟨rfl,hl,hb⟩:=hp
 dsimp only at hl hb
 refine ZxZ _ _ _ ?_;(try simp only [vcT,forall_eq])
 have hf:∀ i,0≤b.getD i 0∧b.getD i 0 < 256:=by
  intro i
  by_cases hi:i < b.length
  ·have:b.getD i 0∈b:=by
    simp only [List.getD,List.getElem?_eq_getElem hi,Option.getD_some]
    exact List.getElem_mem hi
   exact hb _ this
  ·rw [List.getD,List.getElem?_eq_none (by omega)];simp
 refine Zb (ι:=Int) (fun i=> Z8d b 0 (Zal (fun i=> b.getD i 0) (7 - i).toNat) i) (fun i=> -1≤i∧i≤7) (fun i=> (i+1).toNat) 7 rfl ⟨by omega,by omega⟩ ?_
 rintro i ⟨h1,h2⟩
 refine Zqz _ _ _ _ _ _ ?_;(try simp only [vcT,forall_eq])
 (simp only [vcS]);(try simp only [vcT])
 have hr:=ZaZ (f:=fun i=> b.getD i 0) hf (7 - i).toNat
 refine ⟨fun hc=> ⟨by unfold InR;omega,by omega,by unfold InR;omega,i - 1,?_,⟨by omega,by omega⟩,by omega⟩,fun hc=> Yf rfl ?_⟩
 ·have hp7:(256:Int) ^ (7 - i).toNat≤256 ^ 7:=by
   have:(256:Int) ^ (7 - i).toNat=((256 ^ (7 - i).toNat:Nat):Int):=by simp
   rw [this]
   have h7:(256:Nat) ^ (7 - i).toNat≤256 ^ 7:=Nat.pow_le_pow_right (by omega) (by omega)
   have:((256:Nat) ^ 7:Nat)=72057594037927936:=by decide
   omega
  have e7:(256:Int) ^ 7=72057594037927936:=by decide
  have hfi:=hf i.toNat
  have e:Zal (fun i=> b.getD i 0) (7 - (i - 1)).toNat=b.getD i.toNat 0+256*Zal (fun i=> b.getD i 0) (7 - i).toNat:=by
   rw [show (7 - (i - 1)).toNat=(7 - i).toNat+1 by omega]
   simp only [Zal]
   rw [show 7 - (7 - i).toNat=i.toNat by omega]
  rw [e,show (0+i).toNat=i.toNat by omega,Z4o (n:=Zal (fun i=> b.getD i 0) (7 - i).toNat*256) (by omega) (by omega),Z4o (n:=b.getD i.toNat 0) (by omega) (by omega),Z4o (by omega) (by omega)]
  congr 1
  omega
 ·have:i= -1:=by omega
  subst this
  exact ZtO _
theorem Zxd(f:Nat→Int){i:Nat}(h:i < 8):List.getD [f 0,f 1,f 2,f 3,f 4,f 5,f 6,f 7] i 0=f i:=by
 match i,h with
 | 0,_=> rfl
 | 1,_=> rfl
 | 2,_=> rfl
 | 3,_=> rfl
 | 4,_=> rfl
 | 5,_=> rfl
 | 6,_=> rfl
 | 7,_=> rfl
theorem Z4S(a b m:Int)(i:Nat):0≤YU a b m i∧YU a b m i < 256:=by
 unfold YU
 split
 ·exact Z0K _ _
 ·exact Z0K _ _
theorem Zvo:Contract Try.prog cfg 103 Z7h:=by
 refine ZrC c67 c68 c69 ?_
 intro a b m _ hp
 simp only [ZeX] at hp
 refine Zx1 _ _ _ _ ?_;(try simp only [vcT,forall_eq])
 refine ⟨hp.1,hp.2.1,?_⟩
 refine Zb (ι:=Int) (fun i=> Z25 a b m i (if ((0:Nat):Int) < i then YU a b m 0 else Zd a 0) (if ((1:Nat):Int) < i then YU a b m 1 else Zd a 1) (if ((2:Nat):Int) < i then YU a b m 2 else Zd a 2) (if ((3:Nat):Int) < i then YU a b m 3 else Zd a 3)
  (if ((4:Nat):Int) < i then YU a b m 4 else Zd a 4) (if ((5:Nat):Int) < i then YU a b m 5 else Zd a 5) (if ((6:Nat):Int) < i then YU a b m 6 else Zd a 6) (if ((7:Nat):Int) < i then YU a b m 7 else Zd a 7)) (fun i=> 0≤i∧i≤8) (fun i=> (8 - i).toNat) 0 ?_ ⟨by omega,by omega⟩ ?_
 ·simp [Z25]
 ·rintro i ⟨h1,h2⟩
  refine Znb _ _ _ _ _ _ _ _ _ _ _ _ _ _ ?_;(try simp only [vcT,forall_eq])
  (simp only [vcS]);(try simp only [vcT])
  refine ⟨fun hc=> ⟨⟨hp.2.2,h1,by dsimp only;omega⟩,fun hn=> ⟨⟨h1,by omega⟩,⟨h1,by omega⟩,by unfold InR;omega,i+1,?_,⟨by omega,by omega⟩,by omega⟩,fun hn=> ⟨by unfold InR;omega,i+1,?_,⟨by omega,by omega⟩,by omega⟩⟩,fun hc=> ?_⟩
  ·rw [Zxd (Zd b) (by omega)]
   have hv:Zd b i.toNat=YU a b m i.toNat:=by
    unfold YU
    rw [show ((i.toNat:Nat):Int)=i by omega,hn]
    try rfl
   have st:∀ j:Nat,Z1p i j (Zd b i.toNat) (if (j:Int) < i then YU a b m j else Zd a j)=if (j:Int) < i+1 then YU a b m j else Zd a j:=fun j=> Zl2 (F:=YU a b m) (G:=Zd a) h1 hv
   rw [st 0,st 1,st 2,st 3,st 4,st 5,st 6,st 7]
  ·have hv:YU a b m i.toNat=Zd a i.toNat:=by
    unfold YU
    rw [show ((i.toNat:Nat):Int)=i by omega,hn]
    try rfl
   have st:∀ j:Nat,(if (j:Int) < i then YU a b m j else Zd a j)=if (j:Int) < i+1 then YU a b m j else Zd a j:=fun j=> Zs0 (F:=YU a b m) (G:=Zd a) hv h1
   rw [st 0,st 1,st 2,st 3,st 4,st 5,st 6,st 7]
  ·have:i=8:=by omega
   subst this
   refine ⟨⟨rfl,rfl,?_⟩,Yf rfl ?_⟩
   ·intro x hx
    simp at hx
    rcases hx with rfl | rfl | rfl | rfl | rfl | rfl | rfl | rfl <;> exact Z4S _ _ _ _
   ·try rfl
end Go.AM.Ytpjenobkibfpcaa
namespace Go.AM.Ytpjenobkibfpcaa
open Go.AM Go.Proofs
theorem Zmf{α:Type}{l:List α}{i:Nat}(h:i < l.length)(d:α):l.drop i=l.getD i d ::l.drop (i+1):=by
 rw [List.drop_eq_getElem_cons h]
 simp [List.getD,h]
theorem Ys{α:Type}{l:List α}{i:Int}(h0:0≤i)(h:i < l.length)(d:α):l.drop i.toNat=l.getD i.toNat d ::l.drop (i+1).toNat:=by
 rw [Zmf (by omega) d,show i.toNat+1=(i+1).toNat by omega]
theorem Zh{α:Type}{l:List α}{i:Nat}(h:i < l.length)(d:α):l.getD i d∈l:=by
 simp only [List.getD,List.getElem?_eq_getElem h,Option.getD_some]
 exact List.getElem_mem h
theorem Y8(t:Tree):1≤Zk t:=by cases t;simp only [Zk];omega
theorem Z5N(e:Edit):1≤Z6 e:=by cases e;simp only [Z6];omega
theorem Z3l(k:Kid):ZO k=Z6 k.e:=by cases k;rfl
theorem ZZ(o:Op):Zn o=Za o.l+Z6 o.e:=by cases o;rfl
theorem J8:∀ {ks:List Tree} {t:Tree},t∈ks→Zk t≤Za ks
 | x ::r,t,h=> by
  simp only [Za]
  rcases List.mem_cons.1 h with rfl | h
  ·omega
  ·have:=J8 h;omega
theorem JJ:∀ {ks:List Kid} {k:Kid},k∈ks→Z6 k.e≤Zi ks
 | x ::r,k,h=> by
  simp only [Zi,Z3l]
  rcases List.mem_cons.1 h with rfl | h
  ·omega
  ·have:=JJ h;omega
theorem Yv:∀ {os:List Op} {o:Op},o∈os→Zn o≤Zc os
 | x ::r,o,h=> by
  simp only [Zc]
  rcases List.mem_cons.1 h with rfl | h
  ·omega
  ·have:=Yv h;omega
theorem Yw:∀ (ks:List Kid),ks.length≤Zi ks
 | []=> by simp [Zi]
 | k ::r=> by
  have:=Yw r
  have:=Z5N k.e
  simp only [Zi,Z3l,List.length_cons]
  omega
theorem Y9:∀ (os:List Op),os.length≤Zc os
 | []=> by simp [Zc]
 | o ::r=> by
  have:=Y9 r
  have:=Z5N o.e
  simp only [Zc,ZZ,List.length_cons]
  omega
theorem Zbo:∀ {ks:List Tree} {t:Tree},Z27 ks→t∈ks→Z28 t
 | x ::r,t,hs,h=> by
  simp only [Z27] at hs
  rcases List.mem_cons.1 h with rfl | h
  ·exact hs.1
  ·exact Zbo hs.2 h
theorem Z9A:∀ {ks:List Kid} {k:Kid},Z5s ks→k∈ks→Z2W k.e
 | x ::r,k,hs,h=> by
  simp only [Z5s] at hs
  rcases List.mem_cons.1 h with rfl | h
  ·have:=hs.1;obtain ⟨a,e⟩:=k;exact this
  ·exact Z9A hs.2 h
theorem Z9z:∀ {os:List Op} {o:Op},Z5r os→o∈os→o.l.length≤17592186044416∧Z27 o.l∧Z2W o.e
 | x ::r,o,hs,h=> by
  simp only [Z5r] at hs
  rcases List.mem_cons.1 h with rfl | h
  ·have:=hs.1;obtain ⟨a,b,c,e⟩:=o;exact this
  ·exact Z9z hs.2 h
theorem Jh:∀ {ks:List Tree} {t:Tree},Y7 ks→t∈ks→rng t
 | x ::r,t,hs,h=> by
  simp only [Y7] at hs
  rcases List.mem_cons.1 h with rfl | h
  ·exact hs.1
  ·exact Jh hs.2 h
theorem Jm:∀ {ks:List Kid} {k:Kid},Z0k ks→k∈ks→isI k.at_∧Ym k.e
 | x ::r,k,hs,h=> by
  simp only [Z0k] at hs
  rcases List.mem_cons.1 h with rfl | h
  ·have:=hs.1;obtain ⟨a,e⟩:=k;exact this
  ·exact Jm hs.2 h
theorem Z0Y:∀ {os:List Op} {o:Op},JC os→o∈os→Yb o
 | x ::r,o,hs,h=> by
  simp only [JC] at hs
  rcases List.mem_cons.1 h with rfl | h
  ·exact hs.1
  ·exact Z0Y hs.2 h
theorem Z0w{o:Op}(h:Yb o):isI o.kind∧isI o.n∧Y7 o.l∧Ym o.e:=by obtain ⟨a,b,c,e⟩:=o;exact h
theorem Zm4(k:Kid)(d n:Int):Z2R k d n=Z0E k.e d n:=by cases k;rfl
theorem ZoV(o:Op)(d n:Int):Z51 o d n=if Zv o.l 80 n < 0 then Zv o.l 80 n else Z0E o.e d (Zv o.l 80 n):=by cases o;rfl
theorem Z8M(t:Tree)(n:Int)(h: -1≤n): -1≤sh1 t n∧sh1 t n≤n:=by
 unfold sh1
 split
 ·omega
 ·have:=YE t 80 n;omega
mutual
theorem Z1m:∀ (e:Edit) (d n:Int),-1≤Z0E e d n∧Z0E e d n≤max n (-1)
 | .mk _ o nw w ks _ os,d,n=> by
  simp only [Z0E]
  split
  ·omega
  ·have h1:=YE o 80 (n - 1 - w.length - os.length)
   have h2:=Z8M nw _ h1.1
   have h3:=Z1G ks (d - 1) _ h2.1
   have h4:=Z1F os (d - 1) _ h3.1
   omega
theorem Z1G:∀ (ks:List (KidOf Edit)) (d n:Int),-1≤n→-1≤JL ks d n∧JL ks d n≤n
 | [],d,n,h=> by simp only [JL];omega
 | k ::r,d,n,h=> by
  simp only [JL]
  split
  ·omega
  ·have h1:=Z6h k d n
   have h2:=Z1G r d _ h1.1
   omega
theorem Z6h:∀ (k:KidOf Edit) (d n:Int),-1≤Z2R k d n∧Z2R k d n≤max n (-1)
 | ⟨_,e⟩,d,n=> by
  simp only [Z2R]
  exact Z1m e d n
theorem Z1F:∀ (os:List (OpOf Edit)) (d n:Int),-1≤n→-1≤Z01 os d n∧Z01 os d n≤n
 | [],d,n,h=> by simp only [Z01];omega
 | o ::r,d,n,h=> by
  simp only [Z01]
  split
  ·omega
  ·have h1:=Z7X o d n h
   have h2:=Z1F r d _ h1.1
   omega
theorem Z7X:∀ (o:OpOf Edit) (d n:Int),-1≤n→-1≤Z51 o d n∧Z51 o d n≤n
 | ⟨_,_,l,e⟩,d,n,h=> by
  simp only [Z51]
  have h1:=Z0u l 80 n h
  split
  ·omega
  ·have h2:=Z1m e d (Zv l 80 n)
   omega
end
theorem Znq{t:Tree}{n:Int}(h:0≤sh1 t n):(Zk t:Int)+sh1 t n≤n:=by
 unfold sh1 at*
 split at h
 ·omega
 ·rename_i hn
  rw [if_neg hn]
  exact Z0t t 80 n h
mutual
theorem Z6T:∀ (e:Edit) (d n:Int),0≤Z0E e d n→(Z6 e:Int)+Z0E e d n≤n
 | .mk _ o nw w ks _ os,d,n,h=> by
  simp only [Z0E] at h ⊢
  split at h
  ·omega
  ·rename_i hc
   rw [if_neg hc]
   have r1:=YE o 80 (n - 1 - w.length - os.length)
   have r2:=Z8M nw _ r1.1
   have r3:=Z1G ks (d - 1) _ r2.1
   have r4:=Z1F os (d - 1) _ r3.1
   have m4:=Za7 os (d - 1) _ h
   have m3:=Za8 ks (d - 1) (sh1 nw (ZC o 80 (n - 1 - w.length - os.length))) (by omega)
   have m2:=Znq (t:=nw) (n:=ZC o 80 (n - 1 - w.length - os.length)) (by omega)
   have m1:=Z0t o 80 (n - 1 - w.length - os.length) (by omega)
   simp only [Z6]
   omega
theorem Za8:∀ (ks:List (KidOf Edit)) (d n:Int),0≤JL ks d n→(Zi ks:Int)+JL ks d n≤n
 | [],d,n,h=> by simp only [JL,Zi];omega
 | k ::r,d,n,h=> by
  simp only [JL] at h ⊢
  split at h
  ·omega
  ·rename_i hc
   rw [if_neg hc]
   have r1:=Z6h k d n
   have r2:=Z1G r d _ r1.1
   have m2:=Za8 r d _ h
   have m1:=Zfb k d n (by omega)
   simp only [Zi]
   omega
theorem Zfb:∀ (k:KidOf Edit) (d n:Int),0≤Z2R k d n→(ZO k:Int)+Z2R k d n≤n
 | ⟨_,e⟩,d,n,h=> by
  simp only [Z2R,ZO] at h ⊢
  exact Z6T e d n h
theorem Za7:∀ (os:List (OpOf Edit)) (d n:Int),0≤Z01 os d n→(Zc os:Int)+Z01 os d n≤n
 | [],d,n,h=> by simp only [Z01,Zc];omega
 | o ::r,d,n,h=> by
  simp only [Z01] at h ⊢
  split at h
  ·omega
  ·rename_i hc
   rw [if_neg hc]
   have r1:=Z7X o d n (by omega)
   have r2:=Z1F r d _ r1.1
   have m2:=Za7 r d _ h
   have m1:=Zh7 o d n (by omega)
   simp only [Zc]
   omega
theorem Zh7:∀ (o:OpOf Edit) (d n:Int),0≤Z51 o d n→(Zn o:Int)+Z51 o d n≤n
 | ⟨_,_,l,e⟩,d,n,h=> by
  simp only [Z51,Zn] at h ⊢
  split at h
  ·omega
  ·rename_i hc
   rw [if_neg hc]
   have m2:=Z6T e d _ h
   have r2:=Z1m e d (Zv l 80 n)
   have m1:=Z2X l 80 n (by omega)
   omega
end
theorem Z9m{e:Edit}(h:0≤Z0E e 80 3000):Z6 e≤3000:=by
 have:=Z6T e 80 3000 h
 omega
end Go.AM.Ytpjenobkibfpcaa
namespace Go.AM.Ytpjenobkibfpcaa
open Go.AM Go.Proofs
theorem ZoU(t:Tree):t.words.length+t.kids.length < Zk t:=by
 obtain ⟨k,w,ks⟩:=t
 have:=ZD ks
 simp only [Zk,Tree.words_mk,Tree.kids_mk]
 omega
theorem YI(e:Edit):Zk e.old+Zk e.new+e.words.length+e.ops.length+Zi e.kids+Zc e.ops < Z6 e:=by
 obtain ⟨k,o,n,w,ks,l,os⟩:=e
 simp only [Z6,Edit.old_mk,Edit.new_mk,Edit.words_mk,Edit.ops_mk,Edit.kids_mk]
 omega
theorem c62:Contract Try.prog cfg 62 Z3P:=by
 refine Zum ?_
 intro t _ hp
 simp only [Z4F] at hp
 have:=ZoU t
 refine Zy6 t _ ?_;(try simp only [vcT,forall_eq])
 refine ⟨fun _=> by unfold InR;omega,Zl rfl ?_⟩
 rw [Bool.eq_iff_iff]
 simp only [J7]
 (simp only [vcS])
 omega
theorem c63:Contract Try.prog cfg 63 Z8K:=by
 refine Zul Zvo ?_
 intro w m _ hp
 refine Zy5 _ _ _ ?_;(try simp only [vcT,forall_eq])
 refine ⟨⟨hp.1,by dsimp only;omega,hp.2⟩,Zl rfl ?_⟩
 try rfl
theorem Zvn:Contract Try.prog cfg 104 Z5q:=by
 refine ZrB c62 ?_
 intro e _ hp
 simp only [Z6E] at hp
 have h1:=YI e
 have h2:=Yw e.kids
 refine Zx0 e _ ?_;(try simp only [vcT,forall_eq])
 try (simp only [Tree.eta,Edit.eta,Tree.kind_mk,Tree.words_mk,Tree.kids_mk])
 refine ⟨fun _=> by simp only [Z4F];omega,fun _=> by simp only [Z4F];omega,fun _=> by unfold InR;omega,fun _=> by unfold InR;omega,Zl rfl ?_⟩
 rw [Bool.eq_iff_iff]
 simp only [Z1v]
 (simp only [vcS])
 constructor
 ·rintro ⟨⟨⟨⟨h3,h4⟩,h5⟩,h6⟩,h7⟩;exact ⟨⟨⟨h3,h4⟩,h5⟩,by omega⟩
 ·rintro ⟨⟨⟨h3,h4⟩,h5⟩,h6⟩;exact ⟨⟨⟨⟨h3,h4⟩,h5⟩,by omega⟩,by omega⟩
theorem ZuV (e:Edit) (x4 x5 i:Int) (N0:LSt U→Prop) (Q:AExit→LSt U→Prop) (h1:0≤x4∧x4≤1048576) (h2:0≤x5∧x5≤1048576) (hi:0≤i) (hlen:e.ops.length≤20000000000)
  (ho:∀ o∈e.ops,(0≤o.n∧o.n≤1048576)∧o.l.length≤20000000000)
  (h:i < e.ops.length→N0 (Z2s e (min (if (e.ops.getD i.toNat Op.nil).kind=2 then x4 else x4+Z0 (e.ops.getD i.toNat Op.nil)) 1048576) (min (if (e.ops.getD i.toNat Op.nil).kind=1 then x5 else x5+Z0 (e.ops.getD i.toNat Op.nil)) 1048576) (i+1)))
  (h':¬i < e.ops.length→Q .ret (⟨[(2,.c (.int .i64 x4)),(3,.c (.int .i64 x5))],[],[]⟩:LSt U)):Zvx e x4 x5 i N0 Q:=by
 refine ZqC _ _ _ _ _ _ ?_;(try simp only [vcT,forall_eq])
 (simp only [vcS]);(try simp only [vcT])
 refine ⟨fun hc=> ?_,h'⟩
 have hn:=h hc
 have hm:=ho _ (Zh (l:=e.ops) (i:=i.toNat) (by omega) Op.nil)
 have k1:∀ k,k=Z0 (e.ops.getD i.toNat Op.nil)→ZvB e x4 x5 i k N0 Q:=by
  intro k hk
  have hkr:0≤k∧k≤60000000000:=by
   rw [hk];unfold Z0;split <;> omega
  have k2:∀ y,y=(if (e.ops.getD i.toNat Op.nil).kind=2 then x4 else x4+k)→ZvA e x5 i k y N0 Q:=by
   intro y hy
   have hyr:0≤y∧y≤100000000000:=by rw [hy];split <;> omega
   have k3:∀ z,z=(if (e.ops.getD i.toNat Op.nil).kind=1 then x5 else x5+k)→Zvz e i k y z N0 Q:=by
    intro z hz
    have hzr:0≤z∧z≤100000000000:=by rw [hz];split <;> omega
    have k4:∀ u,u=min y 1048576→Zvy e i y z u N0 Q:=by
     intro u hu
     refine ZqD _ _ _ _ _ _ _ ?_;(try simp only [vcT,forall_eq])
     (simp only [vcS]);(try simp only [vcT])
     rw [←hk,←hy,←hz,←hu] at hn
     refine ⟨fun hq=> ⟨by unfold InR;omega,?_⟩,fun hq=> ⟨by unfold InR;omega,?_⟩⟩
     ·rw [show min z 1048576=1048576 by omega] at hn;exact hn
     ·rw [show min z 1048576=z by omega] at hn;exact hn
    refine ZqE _ _ _ _ _ _ _ ?_;(try simp only [vcT,forall_eq])
    (simp only [vcS]);(try simp only [vcT])
    exact ⟨fun hq=> k4 _ (by omega),fun hq=> k4 _ (by omega)⟩
   refine ZqF _ _ _ _ _ _ _ ?_;(try simp only [vcT,forall_eq])
   (simp only [vcS]);(try simp only [vcT])
   exact ⟨fun hq=> ⟨by unfold InR;omega,k3 _ (by rw [if_neg hq])⟩,fun hq=> k3 _ (by rw [if_pos hq])⟩
  refine ZqG _ _ _ _ _ _ _ ?_;(try simp only [vcT,forall_eq])
  (simp only [vcS]);(try simp only [vcT])
  exact ⟨fun hq=> ⟨by unfold InR;omega,k2 _ (by rw [if_neg hq])⟩,fun hq=> k2 _ (by rw [if_pos hq])⟩
 exact ⟨⟨hi,hc⟩,by unfold InR;omega,fun hq=> k1 _ (by unfold Z0;rw [if_pos hq]),fun hq=> k1 _ (by unfold Z0;rw [if_neg hq])⟩
theorem c65:Contract Try.prog cfg 65 Z3O:=by
 refine Zuk ?_
 intro e _ hp
 simp only [Zgx] at hp
 have h1:=YI e
 refine Zy3 e _ ?_;(try simp only [vcT,forall_eq])
 refine Zb (ι:=Int × Int × Int) (fun p=> Z2s e p.1 p.2.1 p.2.2) (fun p=> 0≤p.2.2∧p.2.2≤e.ops.length∧(0≤p.1∧p.1≤1048576)∧(0≤p.2.1∧p.2.1≤1048576)∧Yj (e.ops.drop p.2.2.toNat) p.1=Yj e.ops 0∧Jk (e.ops.drop p.2.2.toNat) p.2.1=Jk e.ops 0) (fun p=> ((e.ops.length:Int) - p.2.2).toNat) (0,0,0) rfl ⟨by dsimp only;omega,by dsimp only;omega,by dsimp only;omega,by dsimp only;omega,by simp,by simp⟩ ?_
 rintro ⟨x4,x5,i⟩ ⟨h2,h3,h4,h5,h6,h7⟩
 dsimp only at*
 have ho:∀ o∈e.ops,(0≤o.n∧o.n≤1048576)∧o.l.length≤20000000000:=by
  intro o hm
  refine ⟨hp.2 o hm,?_⟩
  have a1:=Yv hm
  have a2:=ZD o.l
  rw [ZZ] at a1
  omega
 refine ZuV e x4 x5 i _ _ h4 h5 h2 (by omega) ho (fun hc=> ⟨(_,_,i+1),rfl,⟨by dsimp only;omega,by dsimp only;omega,?_,?_,?_,?_⟩,by dsimp only;omega⟩) (fun hc=> ?_)
 ·have hm:=ho _ (Zh (l:=e.ops) (i:=i.toNat) (by omega) Op.nil)
  dsimp only
  unfold Z0
  split <;> (try split) <;> omega
 ·have hm:=ho _ (Zh (l:=e.ops) (i:=i.toNat) (by omega) Op.nil)
  dsimp only
  unfold Z0
  split <;> (try split) <;> omega
 ·rw [Ys h2 hc Op.nil] at h6
  exact h6
 ·rw [Ys h2 hc Op.nil] at h7
  exact h7
 ·rw [List.drop_of_length_le (by omega)] at h6 h7
  simp only [Yj,Jk] at h6 h7
  simp only [ZnC,←h6,←h7]
  exact ⟨⟨rfl,⟨⟨rfl,rfl⟩,trivial⟩,rfl,⟨⟨rfl,rfl⟩,trivial⟩,trivial⟩,trivial⟩
theorem Zir{l:List Kid}{d n:Int}(h:n < 0):JL l d n=n:=by cases l <;> simp [JL,h]
theorem Ziq{l:List Op}{d n:Int}(h:n < 0):Z01 l d n=n:=by cases l <;> simp [Z01,h]
theorem Zex{l:List Tree}{d n:Int}(h:n < 0):Zv l d n=n:=by cases l <;> simp [Zv,h]
theorem Zln{e:Edit}(h:Z2W e):Z28 e.old∧Z28 e.new∧e.words.length≤17592186044416∧e.kids.length≤17592186044416∧e.ops.length≤17592186044416∧Z5s e.kids∧Z5r e.ops:=by
 obtain ⟨k,o,n,w,ks,l,os⟩:=e;exact h
theorem ZoW(e:Edit)(d n:Int):Z0E e d n=if d=0∨n - 1 - e.words.length - e.ops.length < 0 then -1 else Z01 e.ops (d - 1) (JL e.kids (d - 1) (sh1 e.new (ZC e.old 80 (n - 1 - e.words.length - e.ops.length)))):=by
 obtain ⟨k,o,nw,w,ks,l,os⟩:=e;rfl
theorem c90:Contract Try.prog cfg 90 Zb1:=by
 refine Zu7 c78 ?_
 rintro N e d n _ hp hN
 simp only [ZbH,ZgO] at hp hN
 obtain ⟨hs,hd0,hd1,hn0,hn1⟩:=hp
 obtain ⟨so,sn,lw,lk,lo,sk,sos⟩:=Zln hs
 have hme:=YI e
 have hres:=ZoW e d n
 refine ZxO N e d n _ ?_;(try simp only [vcT,forall_eq])
 (simp only [vcS]);(try simp only [vcT])
 try (simp only [Tree.eta,Edit.eta,Tree.kind_mk,Tree.words_mk,Tree.kids_mk])
 refine ⟨by unfold InR;omega,by unfold InR;omega,by unfold InR;omega,fun hc=> Yf rfl (by rw [hres,if_pos hc]),fun hc=> ?_⟩
 rw [if_neg (by omega)] at hres
 have r1:=YE e.old 80 (n - 1 - e.words.length - e.ops.length)
 have p68:∀ t m,Z28 t→-1≤m→m≤4611686018427387904→Z7v (t,80,m,()):=fun t m h1 h2 h3=> ⟨h1,by dsimp only;omega,by dsimp only;omega,h2,h3⟩
 have k0:∀ x,x=sh1 e.new (ZC e.old 80 (n - 1 - e.words.length - e.ops.length))→Zvw N e d n x (Jv cfg Try.f90.ntmps Try.f90.results.toList (ZjC (e,d,n,())) []):=by
  intro x hx
  have rx:=Z8M e.new _ r1.1
  rw [←hx] at rx hres
  refine Zqn N e d n x _ ?_;(try simp only [vcT,forall_eq])
  refine Zb (ι:=Int × Int) (fun p=> Z81 e d n p.1 p.2) (fun p=> 0≤p.2∧p.2≤e.kids.length∧-1≤p.1∧p.1≤4611686018427387904∧JL (e.kids.drop p.2.toNat) (d - 1) p.1=JL e.kids (d - 1) x) (fun p=> ((e.kids.length:Int) - p.2).toNat) (x,0) rfl ⟨by dsimp only;omega,by dsimp only;omega,by dsimp only;omega,by dsimp only;omega,by simp⟩ ?_
  rintro ⟨y,i⟩ ⟨h1,h2,h3,h4,h5⟩
  dsimp only at*
  refine Zqm N e d n y i _ _ ?_;(try simp only [vcT,forall_eq])
  (simp only [vcS]);(try simp only [vcT])
  try (simp only [Tree.eta,Edit.eta,Tree.kind_mk,Tree.words_mk,Tree.kids_mk])
  refine ⟨fun hi=> ?_,fun hi=> ?_⟩
  ·have hmem:=Zh (l:=e.kids) (i:=i.toNat) (by omega) (KidOf.mk 0 Edit.nil)
   have hsm:=Z9A sk hmem
   have hmm:=JJ hmem
   rw [Ys h1 hi.1 (KidOf.mk 0 Edit.nil)] at h5
   simp only [JL] at h5
   rw [if_neg (by omega),Zm4] at h5
   have rr:=Z1m (e.kids.getD i.toNat (KidOf.mk 0 Edit.nil)).e (d - 1) y
   exact ⟨⟨h1,hi.1⟩,by unfold InR;omega,⟨hsm,by dsimp only;omega,by dsimp only;omega,h3,h4⟩,by simp only [ZgO];omega,by unfold InR;omega,(_,i+1),rfl,⟨by dsimp only;omega,by dsimp only;omega,by dsimp only;omega,by dsimp only;omega,h5⟩,by dsimp only;omega⟩
  ·have hy:JL e.kids (d - 1) x=y:=by
    rw [←h5]
    by_cases hlt:i < e.kids.length
    ·exact Zir (by omega)
    ·rw [List.drop_of_length_le (by omega)];try rfl
   rw [hy] at hres
   refine Zb (ι:=Int × Int) (fun p=> Z54 e d n p.1 p.2) (fun p=> 0≤p.2∧p.2≤e.ops.length∧-1≤p.1∧p.1≤4611686018427387904∧Z01 (e.ops.drop p.2.toNat) (d - 1) p.1=Z01 e.ops (d - 1) y) (fun p=> ((e.ops.length:Int) - p.2).toNat) (y,0) rfl ⟨by dsimp only;omega,by dsimp only;omega,h3,h4,by simp⟩ ?_
   rintro ⟨z,j⟩ ⟨h6,h7,h8,h9,h10⟩
   dsimp only at*
   refine Zql N e d n z j _ _ ?_;(try simp only [vcT,forall_eq])
   (simp only [vcS]);(try simp only [vcT])
   refine ⟨fun hj=> ?_,fun hj=> ?_⟩
   ·have hmem:=Zh (l:=e.ops) (i:=j.toNat) (by omega) Op.nil
    have hsm:=Z9z sos hmem
    have hmm:=Yv hmem
    rw [ZZ] at hmm
    rw [Ys h6 hj.1 Op.nil] at h10
    simp only [Z01] at h10
    rw [if_neg (by omega),ZoV] at h10
    refine Zb (ι:=Int × Int) (fun p=> Z80 e d n j p.1 p.2) (fun p=> 0≤p.2∧p.2≤(e.ops.getD j.toNat Op.nil).l.length∧-1≤p.1∧p.1≤4611686018427387904∧Zv ((e.ops.getD j.toNat Op.nil).l.drop p.2.toNat) 80 p.1=Zv (e.ops.getD j.toNat Op.nil).l 80 z) (fun p=> (((e.ops.getD j.toNat Op.nil).l.length:Int) - p.2).toNat) (z,0) rfl ⟨by dsimp only;omega,by dsimp only;omega,h8,h9,by simp⟩ ?_
    rintro ⟨u,k⟩ ⟨g1,g2,g3,g4,g5⟩
    dsimp only at*
    refine Zqk N e d n j u k _ _ _ ?_;(try simp only [vcT,forall_eq])
    (simp only [vcS]);(try simp only [vcT])
    try (simp only [Tree.eta,Edit.eta,Tree.kind_mk,Tree.words_mk,Tree.kids_mk])
    refine ⟨⟨h6,hj.1⟩,fun hk=> ?_,fun hk=> ?_⟩
    ·have hmt:=Zh (l:=(e.ops.getD j.toNat Op.nil).l) (i:=k.toNat) (by omega) Tree.nil
     rw [Ys g1 hk.1 Tree.nil] at g5
     simp only [Zv] at g5
     rw [if_neg (by omega)] at g5
     have rr:=YE ((e.ops.getD j.toNat Op.nil).l.getD k.toNat Tree.nil) 80 u
     exact ⟨⟨h6,hj.1⟩,⟨g1,hk.1⟩,p68 _ _ (Zbo hsm.2.1 hmt) g3 g4,by unfold InR;omega,(_,k+1),rfl,⟨by dsimp only;omega,by dsimp only;omega,by dsimp only;omega,by dsimp only;omega,g5⟩,by dsimp only;omega⟩
    ·have hu:Zv (e.ops.getD j.toNat Op.nil).l 80 z=u:=by
      rw [←g5]
      by_cases hlt:k < (e.ops.getD j.toNat Op.nil).l.length
      ·exact Zex (by omega)
      ·rw [List.drop_of_length_le (by omega)];try rfl
     rw [hu] at h10
     have rr:=Z1m (e.ops.getD j.toNat Op.nil).e (d - 1) u
     refine ⟨fun hq=> ⟨⟨h6,hj.1⟩,by unfold InR;omega,⟨hsm.2.2,by dsimp only;omega,by dsimp only;omega,g3,g4⟩,by simp only [ZgO];omega,by unfold InR;omega,(_,j+1),rfl,⟨by dsimp only;omega,by dsimp only;omega,by dsimp only;omega,by dsimp only;omega,?_⟩,by dsimp only;omega⟩,
      fun hq=> ⟨by unfold InR;omega,(_,j+1),rfl,⟨by dsimp only;omega,by dsimp only;omega,by dsimp only;omega,by dsimp only;omega,?_⟩,by dsimp only;omega⟩⟩
     ·rw [if_neg (by omega)] at h10;exact h10
     ·rw [if_pos (by omega)] at h10;exact h10
   ·refine Yf rfl ?_
    rw [hres,←h10]
    by_cases hlt:j < e.ops.length
    ·exact (Ziq (by omega)).symm
    ·rw [List.drop_of_length_le (by omega)];try rfl
 refine ⟨p68 _ _ so (by omega) (by omega),fun hq=> ⟨p68 _ _ sn r1.1 (by omega),k0 _ ?_⟩,fun hq=> k0 _ ?_⟩
 ·unfold sh1;rw [if_neg (by omega)]
 ·unfold sh1;rw [if_pos (by omega)]
theorem c54:Contract Try.prog cfg 54 Zbc:=by
 refine Zuo c90 ?_
 intro e _ hp
 refine Zya e _ ?_;(try simp only [vcT,forall_eq])
 try (simp only [Tree.eta,Edit.eta,Tree.kind_mk,Tree.words_mk,Tree.kids_mk])
 exact ⟨⟨hp,by dsimp only;omega,by dsimp only;omega,by dsimp only;omega,by dsimp only;omega⟩,Zl rfl rfl⟩
end Go.AM.Ytpjenobkibfpcaa
