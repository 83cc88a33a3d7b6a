import Derived.Test.YtpjenobkibfpcaaKC34
import Derived.Test.YtpjenobkibfpcaaKD20
set_option linter.unusedSimpArgs false
set_option linter.unusedVariables false
namespace Go.AM.Ytpjenobkibfpcaa
open Go.AM Go.Proofs
mutual
theorem Z51:∀ (t:Tree) (d l:Int),0≤ZZ t d l→(Zo t:Int)+ZZ t d l≤l
 | .mk _ w ks,d,l,h=> by
  simp only [ZZ] at h ⊢
  split at h
  ·omega
  ·rename_i hc
   rw [if_neg hc]
   have:=Z3Q ks (d - 1) (l - 1 - w.length) h
   simp only [Zo]
   omega
theorem Z3Q:∀ (ks:List Tree) (d l:Int),0≤Zw ks d l→(Zf ks:Int)+Zw ks d l≤l
 | [],d,l,h=> by simp [Zw,Zf]
 | t ::r,d,l,h=> by
  simp only [Zw] at h ⊢
  split at h
  ·omega
  ·rename_i hc
   rw [if_neg hc]
   have h1:=Z3Q r d (ZZ t d l) h
   have h3:=(Z0Z r d (ZZ t d l) (YZ t d l).1).2
   have h2:=Z51 t d l (by omega)
   simp only [Zf]
   omega
end
end Go.AM.Ytpjenobkibfpcaa
namespace Go.AM.Ytpjenobkibfpcaa
open Go.AM Go.Proofs
theorem Zi{n k:Nat}{rs:List ResultVar}{b b':Bool}(hr:rs=[ResultVar.tmp k])(h:b=b'):Ys cfg n rs (.c (.bool b')) [] .ret (⟨[(k,.c (.bool b))],[],[]⟩:LSt U):=by
 subst hr h
 have hk:Nat.beq k k=true:=Nat.beq_refl k
 simp [Ys,ZzI,Zgr,Zgq,Z8j,ZaK,LSt.toF,Zf8,hk,ZdZ,Z3R,YP,Z0c,leR,leL,leC,ZpE]
theorem Yn{n k:Nat}{rs:List ResultVar}{K:IntKind}{b b':Int}(hr:rs=[ResultVar.tmp k])(h:b=b'):Ys cfg n rs (.c (.int K b')) [] .ret (⟨[(k,.c (.int K b))],[],[]⟩:LSt U):=by
 subst hr h
 have hk:Nat.beq k k=true:=Nat.beq_refl k
 simp [Ys,ZzI,Zgr,Zgq,Z8j,ZaK,LSt.toF,Zf8,hk,ZdZ,Z3R,YP,Z0c,leR,leL,leC,ZpE]
theorem Zzi:Contract Try.prog cfg 116 Z93:=by
 refine Zvb ?_
 intro c _ _
 refine ZBd _ _ ?_
 (simp only [vcS])
 refine ⟨fun h=> Yn rfl ?_,fun h=> ⟨fun h=> Yn rfl ?_,fun h=> ⟨fun h=> Yn rfl ?_,fun h=> ⟨fun h=> Yn rfl ?_,fun h=> ⟨fun h=> Yn rfl ?_,fun h=> ⟨fun h=> Yn rfl ?_,fun h=> Yn rfl ?_⟩⟩⟩⟩⟩⟩ <;> simp only [wd] <;> simp [*]
theorem ZAC(c:Int): -1≤wd c∧wd c≤64:=by
 unfold wd
 repeat' split
 all_goals omega
theorem ZjR(n:Int)(h0:0≤n)(h1:n < 18446744073709551616):IntKind.wrap .u64 (Int.tdiv n 2)=n / 2:=by
 rw [Int.tdiv_eq_ediv_of_nonneg h0]
 simp [IntKind.wrap,IntKind.signed,IntKind.bits]
 omega
theorem ZrA{w:Nat}{n m:Int}(h:0≤n):(n / 2 < 2 ^ w)↔n < 2 ^ (w+1):=by
 have:(2:Int) ^ (w+1)=2 ^ w*2:=by rw [Int.pow_succ]
 omega
theorem c79:Contract Try.prog cfg 79 Zdf:=by
 refine Zy6 Zzi ?_
 intro c n _ hp
 simp only [ZiH] at hp
 have hw:=ZAC c
 refine ZCn _ _ _ ?_
 (simp only [vcS])
 refine ⟨trivial,fun h=> Zi rfl ?_,fun h=> ?_⟩
 ·simp only [Zjv]
  simp
  omega
 ·refine Z6 (ι:=Int × Int) (fun p=> Z3h c n p.1 p.2) (fun p=> 0≤p.2∧p.2≤wd c∧0≤p.1∧p.1 < 18446744073709551616∧(n < 2 ^ (wd c).toNat↔p.1 < 2 ^ (wd c - p.2).toNat)) (fun p=> (wd c - p.2).toNat) (n,0) rfl ⟨by dsimp only;omega,by dsimp only;omega,by dsimp only;omega,by dsimp only;omega,by simp⟩ ?_
  rintro ⟨m,i⟩ ⟨h1,h2,h3,h4,h5⟩
  dsimp only at*
  refine ZtX _ _ _ _ _ _ ?_
  (simp only [vcS])
  refine ⟨fun hc=> ⟨by omega,by unfold InR;omega,(IntKind.wrap .u64 (Int.tdiv m 2),i+1),rfl,?_,by dsimp only;omega⟩,fun hc=> Zi rfl ?_⟩
  ·rw [ZjR m h3 h4]
   refine ⟨by dsimp only;omega,by dsimp only;omega,by dsimp only;omega,by dsimp only;omega,?_⟩
   dsimp only
   rw [h5,show (wd c - i).toNat=(wd c - (i+1)).toNat+1 by omega]
   exact (ZrA (m:=0) h3).symm
  ·have e:(wd c - i).toNat=0:=by omega
   rw [e] at h5
   simp only [Zjv]
   rw [Bool.eq_iff_iff]
   simp
   omega
theorem ZqS{t:Tree}(h:rng t){i:Nat}(hi:i < t.words.length):0≤t.words.getD i 0∧t.words.getD i 0 < 18446744073709551616:=by
 obtain ⟨k,w,ks⟩:=t
 simp only [rng] at h
 simp only [Tree.words_mk] at*
 have hg:w.getD i 0∈w:=by
  simp only [List.getD,List.getElem?_eq_getElem hi,Option.getD_some]
  exact List.getElem_mem hi
 exact h.2.1 _ hg
theorem Ziu{l:Int}{ks:List Tree}{i:Int}{d:Int}(h0:0≤i)(h:i < ks.length):
  YU l (ks.drop i.toNat) d=((Z2o l (ks.getD i.toNat Tree.nil) && Zl (ks.getD i.toNat Tree.nil) d) && YU l (ks.drop (i+1).toNat) d):=by
 have e:(i+1).toNat=i.toNat+1:=by omega
 rw [List.drop_eq_getElem_cons (by omega),e]
 simp only [YU,List.getD,List.getElem?_eq_getElem (show i.toNat < ks.length by omega),Option.getD_some]
theorem Ziq:∀ {ks:List Tree} {i:Nat},Yp ks→i < ks.length→rng (ks.getD i Tree.nil)
 | t ::_,0,h,_=> by simp only [Yp] at h;exact h.1
 | _ ::r,i+1,h,hi=> by simp only [Yp] at h;exact Ziq (ks:=r) (i:=i) h.2 (by simpa using hi)
theorem Zir{y:Tree}{d:Int}(h:Zl y d=true)(hk:y.kind=10):y.words.length=1∧y.kids.length=0:=by
 obtain ⟨k,w,ks⟩:=y
 simp only [Tree.kind_mk] at hk
 subst hk
 simpa [Zl] using h
theorem c37:Contract Try.prog cfg 37 ZaD:=by
 refine Zyl c79 ?_
 rintro N ⟨k,ws,ks⟩ d _ hp hN
 simp only [Z7Y,Zj5,Zo,rng] at hp hN
 refine ZCI N _ _ _ ?_
 (simp only [vcS])
 (simp only [Tree.eta,Edit.eta,Tree.kind_mk,Tree.words_mk,Tree.kids_mk])
 refine ⟨fun h0=> Zi rfl ?_,fun h0=> ⟨fun h10=> Zi rfl ?_,fun h10=> ⟨fun hc=> Zi rfl ?_,fun hc=> ⟨fun hw=> Zi rfl ?_,fun hw=> ?_⟩⟩⟩⟩
 ·simp only [Zl,if_pos h0]
  rw [Bool.eq_iff_iff];(simp only [vcS]);omega
 ·simp only [Zl,if_neg h0,if_pos h10]
  rw [Bool.eq_iff_iff];(simp only [vcS]);omega
 ·simp only [Zl,if_neg h0,if_neg h10]
  split
  ·try rfl
  ·split
   ·rw [decide_eq_false (by omega)];try rfl
   ·have:¬(2≤k∧k≤9∧ws.length=0∧ks.length < 1048576):=by omega
    rw [decide_eq_false this];try rfl
 ·simp only [Zl,if_neg h0,if_neg h10]
  rw [if_neg (by omega),if_neg (by omega)]
  have:¬(2≤k∧k≤9∧ws.length=0∧ks.length < 1048576):=by omega
  rw [decide_eq_false this];try rfl
 ·have hb:Zl (.mk k ws ks) d=YU k ks (d - 1):=by
   simp only [Zl,if_neg h0,if_neg h10]
   rw [if_neg (by omega)]
   split
   ·rename_i h1
    rw [decide_eq_true (by omega),h1];try rfl
   ·have:2≤k∧k≤9∧ws.length=0∧ks.length < 1048576:=by omega
    rw [decide_eq_true this];try rfl
  refine Z6 (ι:=Int) (fun p=> Z3j (.mk k ws ks) d p) (fun p=> 0≤p∧p≤ks.length∧Zl (.mk k ws ks) d=YU k (ks.drop p.toNat) (d - 1)) (fun p=> ((ks.length:Int) - p).toNat) 0 rfl ⟨by omega,by omega,by simpa using hb⟩ ?_
  rintro i ⟨h1,h2,h3⟩
  refine Zuj N _ _ _ _ _ ?_
  (simp only [vcS])
  (simp only [Tree.eta,Edit.eta,Tree.kind_mk,Tree.words_mk,Tree.kids_mk])
  refine ⟨fun hi=> ?_,fun hi=> ?_⟩
  ·have hd:=Ziu (l:=k) (d:=d - 1) h1 hi
   have hm:=Z0O (ks:=ks) (i:=i.toNat) (by omega)
   have hr:=Ziq (i:=i.toNat) hp.2.1.2.2 (by omega)
   rw [hd] at h3
   have hlen:=ZA ks
   generalize ks.getD i.toNat Tree.nil=y at*
   have hpre:Z7Y (y,d - 1,()):=⟨by dsimp only;omega,hr,by dsimp only;omega,by dsimp only;omega⟩
   have hmu:Zj5 (y,d - 1,()) < N:=by simp only [Zj5];omega
   have hin:InR (d - 1):=by unfold InR;omega
   refine ⟨⟨h1,hi⟩,hin,hpre,hmu,fun hf=> Zi rfl ?_,fun hf=> ?_⟩
   ·rw [h3,hf];simp
   ·have hdata:((bif decide (2≤k) then decide (k≤7) else false)=(y.kind==10))↔((2≤k∧k≤7)↔y.kind=10):=by
     rw [Bool.eq_iff_iff];(simp only [vcS])
    have hat:=Zir hf
    have hkb:Z2o k y=true↔(((2≤k∧k≤7)↔y.kind=10)∧(¬k=9∨y.kind=1))∧((¬2≤k∨¬k≤7)∨Zjv (k - 2) (y.words.getD 0 0)=true):=by
     unfold Z2o
     by_cases hk:2≤k∧k≤7
     ·rw [if_pos hk]
      (simp only [vcS])
      constructor
      ·rintro ⟨h4,h5⟩;exact ⟨⟨by omega,by omega⟩,.inr h5⟩
      ·rintro ⟨⟨h4,_⟩,h5⟩
       have:=hat (by omega)
       exact ⟨by omega,by rcases h5 with h5 | h5;omega;exact h5⟩
     ·rw [if_neg hk]
      by_cases h9:k=9
      ·rw [if_pos h9]
       (simp only [vcS])
       constructor
       ·intro h4;exact ⟨⟨by omega,by omega⟩,.inl (by omega)⟩
       ·rintro ⟨⟨_,h4⟩,_⟩;omega
      ·rw [if_neg h9]
       (simp only [vcS])
       constructor
       ·intro h4;exact ⟨⟨by omega,by omega⟩,.inl (by omega)⟩
       ·rintro ⟨⟨h4,_⟩,_⟩;omega
    have hone:∀ (h4:(((bif decide (2≤k) then decide (k≤7) else false)=(y.kind==10)∧(¬k=9∨y.kind=1))∧2≤k∧k≤7)),y.words.length=1:=fun h4=> (hat ((hdata.1 h4.1.1).1 h4.2)).1
    simp only [Int.toNat_zero]
    refine ⟨fun h4=> by unfold InR;omega,fun h4=> by have:=hone h4;omega,fun h4=> ZqS hr (by have:=hone h4;omega),fun h4=> Zi rfl ?_,fun h4=> ⟨by unfold InR;omega,i+1,rfl,⟨by omega,by omega,?_⟩,by omega⟩⟩
    ·have hno:Z2o k y=false:=by
      cases hkk:Z2o k y with
      | false=> rfl
      | true=>
       exfalso
       obtain ⟨h5,h6⟩:=hkb.1 hkk
       rcases h4 with h4 | ⟨h4,h7⟩
       ·rcases h4 with h4 | h4
        ·exact h4 (hdata.2 h5.1)
        ·omega
       ·rcases h6 with h6 | h6
        ·omega
        ·rw [h7] at h6;cases h6
     rw [h3,hno];try rfl
    ·rw [h3,hkb.2 ⟨⟨hdata.1 h4.1.1,h4.1.2⟩,h4.2⟩,hf];try rfl
  ·rw [List.drop_eq_nil_of_le (by omega)] at h3
   simp only [YU] at h3
   exact Zi rfl h3.symm
end Go.AM.Ytpjenobkibfpcaa
namespace Go.AM.Ytpjenobkibfpcaa
open Go.AM Go.Proofs
noncomputable section
def Zti:ArgL (Int × Unit):=(.cons (JI .u64) .nil)
def Z9m(a:Int × Unit):Prop:=0≤a.1∧a.1 < 18446744073709551616
def ZqW(a:Int × Unit):V U:= .agg [.int .u8 (Z0 a.1 0),.int .u8 (Z0 a.1 1),.int .u8 (Z0 a.1 2),.int .u8 (Z0 a.1 3),.int .u8 (Z0 a.1 4),.int .u8 (Z0 a.1 5),.int .u8 (Z0 a.1 6),.int .u8 (Z0 a.1 7)]
def Z5K:Fs U:=fs Zti (fun a=> [Z9m a]) ZqW
def Zth:ArgL (Int × Int × Unit):=(.cons (JI .u8) (.cons (JI .i64) .nil))
def ZfL(a:Int × Int × Unit):Prop:=(0≤a.1∧a.1 < 256)∧0≤a.2.1∧a.2.1≤8
def ZwP(a:Int × Int × Unit):V U:= .c (.bool (Zx a.1 a.2.1))
def Z5J:Fs U:=fs Zth (fun a=> [ZfL a]) ZwP
def Ztg:ArgL (List Int × Int × Unit):=(.cons (aSl .u8) (.cons (JI .i64) .nil))
def ZiI(a:List Int × Int × Unit):Prop:=a.2.1=0∧a.1.length=8∧∀ x∈a.1,0≤x∧x < 256
def ZwO(a:List Int × Int × Unit):V U:= .c (.int .u64 (of8 (fun i=> a.1.getD i 0)))
def Z5I:Fs U:=fs Ztg (fun a=> [ZiI a]) ZwO
def ZnW:ArgL (Int × Int × Int × Unit):=(.cons (JI .u64) (.cons (JI .u64) (.cons (JI .u8) .nil)))
def Z66(a:Int × Int × Int × Unit):Prop:=(0≤a.1∧a.1 < 18446744073709551616)∧(0≤a.2.1∧a.2.1 < 18446744073709551616)∧(0≤a.2.2.1∧a.2.2.1 < 256)
def Zri(a:Int × Int × Int × Unit):V U:= .c (.int .u64 (mix a.1 a.2.1 a.2.2.1))
def Z2d:Fs U:=fs ZnW (fun a=> [Z66 a]) Zri
def Ztm:ArgL (Tree × Unit):=(.cons (aEl .tree) .nil)
def Z61(a:Tree × Unit):Prop:=Zo a.1≤20000000000
def ZwS(a:Tree × Unit):V U:= .c (.bool (JR a.1))
def Z4S:Fs U:=fs Ztm (fun a=> [Z61 a]) ZwS
def Ztl:ArgL (Int × Int × Unit):=(.cons (JI .u64) (.cons (JI .u8) .nil))
def Zmn(a:Int × Int × Unit):Prop:=(0≤a.1∧a.1 < 18446744073709551616)∧(0≤a.2.1∧a.2.1 < 256)
def ZwR(a:Int × Int × Unit):V U:= .c (.bool (Yl a.1 a.2.1))
def ZaA:Fs U:=fs Ztl (fun a=> [Zmn a]) ZwR
def ZnV:ArgL (Edit × Unit):=(.cons (aEl .edit) .nil)
def Z8o(a:Edit × Unit):Prop:=Z5 a.1≤20000000000
def Zrh(a:Edit × Unit):V U:= .c (.bool (Z24 a.1))
def Z6T:Fs U:=fs ZnV (fun a=> [Z8o a]) Zrh
def Ztk:ArgL (Edit × Unit):=(.cons (aEl .edit) .nil)
def ZiJ(a:Edit × Unit):Prop:=Z5 a.1≤20000000000∧∀ o∈Edit.ops a.1,0≤o.n∧o.n≤1048576
def ZqX(a:Edit × Unit):V U:= .tup [(false,[ci (Z2l a.1.ops 0)]),(false,[ci (Z2k a.1.ops 0)])]
def Z4R:Fs U:=fs Ztk (fun a=> [ZiJ a]) ZqX
def Zle:ArgL (Edit × Int × Int × Unit):=(.cons (aEl .edit) (.cons (JI .i64) (.cons (JI .i64) .nil)))
def ZdP(a:Edit × Int × Int × Unit):Prop:=Z2Y a.1∧0≤a.2.1∧a.2.1≤4611686018427387904∧-1≤a.2.2.1∧a.2.2.1≤4611686018427387904
def Zj1(a:Edit × Int × Int × Unit):Nat:=Z5 a.1
def Zm8(a:Edit × Int × Int × Unit):V U:= .c (ci (Z18 a.1 a.2.1 a.2.2.1))
def Zdd:Fs U:=fs Zle (fun a=> [ZdP a]) Zm8
def Zto:ArgL (Edit × Unit):=(.cons (aEl .edit) .nil)
def Zrw(a:Edit × Unit):Prop:=Z2Y a.1
def ZwU(a:Edit × Unit):V U:= .c (.bool (decide (0≤Z18 a.1 80 3000)))
def Zdk:Fs U:=fs Zto (fun a=> [Zrw a]) ZwU
def ZkR:List (FuncId × Fs U):=[]
def Zvr:Zj U:=lvl [([0,2],[2]),([0,2,3],[2,3]),([0,2,3,4],[2,3]),([0,2,3,4,7],[2,3]),([0,2,3,4],[2,3]),([0,2,3,4],[2,3]),([0,2,3,4],[2,3]),([2],[2])]
def Z6s(w x0 x4 ml3_0 ml3_1 ml3_2 ml3_3 ml3_4 ml3_5 ml3_6 ml3_7:Int):LSt U:=(L2 [(0,.c (.int .u64 x0)),(2,.ptr (.loc 2) 0),(3,.ptr (.loc 3) 0),(4,.c (ci x4))] [(.loc 2,zc0),(.loc 3,[.int .u8 ml3_0,.int .u8 ml3_1,.int .u8 ml3_2,.int .u8 ml3_3,.int .u8 ml3_4,.int .u8 ml3_5,.int .u8 ml3_6,.int .u8 ml3_7])])
abbrev A67(p:List Nat):=AW (Z1 ZkR) Try.f67 Zvr p
abbrev S67(p:List Nat):=SW (Z1 ZkR) Try.f67 Zvr p
theorem ZCv(w:Int)(Q:QT)(h:(Ze (A67 [1,1,0,1,0,0]) (Z6s w w 0 0 0 0 0 0 0 0 0) (xB 0 (S67 [1,1,1] Q)))):
  A67 [] (L2 [(0,.c (.int .u64 w))] []) Q:=
 Eq.mpr (by kernel_rfl) h
theorem Zu7(w x0 x4 ml3_0 ml3_1 ml3_2 ml3_3 ml3_4 ml3_5 ml3_6 ml3_7:Int)(N0:NT)(Q:QT)(h:let z0:=IntKind.wrap .u8 (Int.tmod x0 256);(((decide (x4 < 8))=true→((256:Int)≠0)∧((0:Int)≤x4∧x4 < ((8:Nat):Int))∧(((256:Int)≠0)∧((InR (x4+1))∧(N0 (Z6s w (IntKind.wrap .u64 (Int.tdiv x0 256)) (x4+1) (Ye x4 0 z0 ml3_0) (Ye x4 1 z0 ml3_1) (Ye x4 2 z0 ml3_2) (Ye x4 3 z0 ml3_3) (Ye x4 4 z0 ml3_4) (Ye x4 5 z0 ml3_5) (Ye x4 6 z0 ml3_6) (Ye x4 7 z0 ml3_7))))))∧((decide (x4 < 8))=false→(Q .ret (L2 [(2,.ptr (.loc 2) 0)] [(.loc 2,[.int .u8 ml3_0,.int .u8 ml3_1,.int .u8 ml3_2,.int .u8 ml3_3,.int .u8 ml3_4,.int .u8 ml3_5,.int .u8 ml3_6,.int .u8 ml3_7])]))))):
  A67 [1,1,0,1,0,0] (Z6s w x0 x4 ml3_0 ml3_1 ml3_2 ml3_3 ml3_4 ml3_5 ml3_6 ml3_7) (xT N0 (xB 0 (S67 [1,1,1] Q))):=
 Eq.mpr (by kernel_rfl) h
def ZA0(w:Int):Prop:=AW (Z1 ZkR) Try.f67 Zvr [] (Zk (Zti.can (w,())) []) (EQ Try.f67 (ZqW (w,())) [])
theorem Zyc(hb:∀ (w:Int) (_:Unit),Z9m (w,())→ZA0 w):CT 67 Z5K:=
 Z7 (l:=[]) Zm rfl trivial Zvr Try.func67 rfl rfl 1 (fun _=> rfl) (by decide) (fun ⟨w,_⟩=> hb w ())
def ZkQ:List (FuncId × Fs U):=[]
def Zvq:Zj U:=lvl [([0,1],[]),([0,1,5],[]),([0,1,5,8],[]),([0,1,5],[]),([0,1,5],[]),([4],[])]
def Za1(m i x0 x5:Int):LSt U:=(L2 [(0,.c (.int .u8 x0)),(1,.c (ci i)),(5,.c (ci x5))] [])
abbrev A68(p:List Nat):=AW (Z1 ZkQ) Try.f68 Zvq p
abbrev S68(p:List Nat):=SW (Z1 ZkQ) Try.f68 Zvq p
theorem ZCu(m i:Int)(Q:QT)(h:(Ze (A68 [1,0,1,0,0]) (Za1 m i m 0) (xB 0 (S68 [1,1] Q)))):
  A68 [] (L2 [(0,.c (.int .u8 m)),(1,.c (ci i))] []) Q:=
 Eq.mpr (by kernel_rfl) h
theorem Zu6(m i x0 x5:Int)(N0:NT)(Q:QT)(h:(((decide (x5 < i))=true→((2:Int)≠0)∧((InR (x5+1))∧(N0 (Za1 m i (IntKind.wrap .u8 (Int.tdiv x0 2)) (x5+1)))))∧((decide (x5 < i))=false→((2:Int)≠0)∧(Q .ret (L2 [(4,.c (.bool (((Int.tmod x0 2):Int)==1)))] []))))):
  A68 [1,0,1,0,0] (Za1 m i x0 x5) (xT N0 (xB 0 (S68 [1,1] Q))):=
 Eq.mpr (by kernel_rfl) h
def ZzZ(m i:Int):Prop:=AW (Z1 ZkQ) Try.f68 Zvq [] (Zk (Zth.can (m,i,())) []) (EQ Try.f68 (ZwP (m,i,())) [])
theorem Zyb(hb:∀ (m:Int) (i:Int) (_:Unit),ZfL (m,i,())→ZzZ m i):CT 68 Z5J:=
 Z7 (l:=[]) Zm rfl trivial Zvq Try.func68 rfl rfl 2 (fun _=> rfl) (by decide) (fun ⟨m,i,_⟩=> hb m i ())
def ZkP:List (FuncId × Fs U):=[]
def Zvp:Zj U:=lvl [([0,1],[]),([0,1,5],[]),([0,1,5,6],[]),([0,1,5,6,8],[]),([0,1,5,6],[]),([0,1,5,6],[]),([4],[])]
def Za0(b:List Int)(from_ x5 x6:Int):LSt U:=(L2 [(0,.c (sU .u8 b .unk)),(1,.c (ci from_)),(5,.c (.int .u64 x5)),(6,.c (ci x6))] [])
abbrev A69(p:List Nat):=AW (Z1 ZkP) Try.f69 Zvp p
abbrev S69(p:List Nat):=SW (Z1 ZkP) Try.f69 Zvp p
theorem ZCt(b:List Int)(from_:Int)(Q:QT)(h:(Ze (A69 [1,1,0,1,0,0]) (Za0 b from_ 0 7) (xB 0 (S69 [1,1,1] Q)))):
  A69 [] (L2 [(0,.c (sU .u8 b .unk)),(1,.c (ci from_))] []) Q:=
 Eq.mpr (by kernel_rfl) h
theorem Zu5(b:List Int)(from_ x5 x6:Int)(N0:NT)(Q:QT)(h:(((decide ((0:Int)≤x6))=true→(InR (from_+x6))∧((0:Int)≤(from_+x6)∧(from_+x6) < (b.length:Int))∧((InR (x6 - 1))∧(N0 (Za0 b from_ (IntKind.wrap .u64 (((IntKind.wrap .u64 (x5*256)):Int)+(IntKind.wrap .u64 (List.getD b (Int.toNat (from_+x6)) (0:Int))))) (x6 - 1)))))∧((decide ((0:Int)≤x6))=false→(Q .ret (L2 [(4,.c (.int .u64 x5))] []))))):
  A69 [1,1,0,1,0,0] (Za0 b from_ x5 x6) (xT N0 (xB 0 (S69 [1,1,1] Q))):=
 Eq.mpr (by kernel_rfl) h
def ZzY(b:List Int)(from_:Int):Prop:=AW (Z1 ZkP) Try.f69 Zvp [] (Zk (Ztg.can (b,from_,())) []) (EQ Try.f69 (ZwO (b,from_,())) [])
theorem Zya(hb:∀ (b:List Int) (from_:Int) (_:Unit),ZiI (b,from_,())→ZzY b from_):CT 69 Z5I:=
 Z7 (l:=[]) Zm rfl trivial Zvp Try.func69 rfl rfl 2 (fun _=> rfl) (by decide) (fun ⟨b,from_,_⟩=> hb b from_ ())
def Zhu:List (FuncId × Fs U):=[(67,Z5K),(68,Z5J),(69,Z5I)]
def ZmQ:Zj U:=lvl [([0,1,2],[]),([2,7,8],[7,8]),([2,7,8,9],[7,8]),([2,7,8,9,15],[7,8]),([2,7,8,9],[7,8]),([2,7,8,9,20],[7,8]),([2,7,8,9],[7,8]),([6],[])]
def Z2S(a b m x9 ml7_0 ml7_1 ml7_2 ml7_3 ml7_4 ml7_5 ml7_6 ml7_7:Int):LSt U:=(L2 [(2,.c (.int .u8 m)),(7,.ptr (.loc 7) 0),(8,.ptr (.loc 8) 0),(9,.c (ci x9))] [(.loc 7,[.int .u8 ml7_0,.int .u8 ml7_1,.int .u8 ml7_2,.int .u8 ml7_3,.int .u8 ml7_4,.int .u8 ml7_5,.int .u8 ml7_6,.int .u8 ml7_7]),(.loc 8,[.int .u8 (Z0 b 0),.int .u8 (Z0 b 1),.int .u8 (Z0 b 2),.int .u8 (Z0 b 3),.int .u8 (Z0 b 4),.int .u8 (Z0 b 5),.int .u8 (Z0 b 6),.int .u8 (Z0 b 7)])])
abbrev ZAy(p:List Nat):=AW (Z1 Zhu) Try.f103 ZmQ p
abbrev ZBZ(p:List Nat):=SW (Z1 Zhu) Try.f103 ZmQ p
theorem ZBl(a b m:Int)(Q:QT)(h:((Z9m (a,()))∧(Z9m (b,()))∧(Ze (ZAy [1,1,0,1,0,0]) (Z2S a b m 0 (Z0 a 0) (Z0 a 1) (Z0 a 2) (Z0 a 3) (Z0 a 4) (Z0 a 5) (Z0 a 6) (Z0 a 7)) (xB 0 (ZBZ [1,1,1] Q))))):
  ZAy [] (L2 [(0,.c (.int .u64 a)),(1,.c (.int .u64 b)),(2,.c (.int .u8 m))] []) Q:=
 Eq.mpr (by kernel_rfl) h
theorem Zqt(a b m x9 ml7_0 ml7_1 ml7_2 ml7_3 ml7_4 ml7_5 ml7_6 ml7_7:Int)(N0:NT)(Q:QT)(h:let z0:=List.getD [Z0 b 0,Z0 b 1,Z0 b 2,Z0 b 3,Z0 b 4,Z0 b 5,Z0 b 6,Z0 b 7] x9.toNat 0;(((decide (x9 < 8))=true→(ZfL (m,x9,()))∧(((Zx m x9)=true→((0:Int)≤x9∧x9 < ((8:Nat):Int))∧((0:Int)≤x9∧x9 < ((8:Nat):Int))∧((InR (x9+1))∧(N0 (Z2S a b m (x9+1) (Ye x9 0 z0 ml7_0) (Ye x9 1 z0 ml7_1) (Ye x9 2 z0 ml7_2) (Ye x9 3 z0 ml7_3) (Ye x9 4 z0 ml7_4) (Ye x9 5 z0 ml7_5) (Ye x9 6 z0 ml7_6) (Ye x9 7 z0 ml7_7)))))∧((Zx m x9)=false→(InR (x9+1))∧(N0 (Z2S a b m (x9+1) ml7_0 ml7_1 ml7_2 ml7_3 ml7_4 ml7_5 ml7_6 ml7_7)))))∧((decide (x9 < 8))=false→(ZiI (([ml7_0,ml7_1,ml7_2,ml7_3,ml7_4,ml7_5,ml7_6,ml7_7]),0,()))∧(Q .ret (L2 [(6,.c (.int .u64 (of8 (fun i=> ([ml7_0,ml7_1,ml7_2,ml7_3,ml7_4,ml7_5,ml7_6,ml7_7]).getD i 0))))] []))))):
  ZAy [1,1,0,1,0,0] (Z2S a b m x9 ml7_0 ml7_1 ml7_2 ml7_3 ml7_4 ml7_5 ml7_6 ml7_7) (xT N0 (xB 0 (ZBZ [1,1,1] Q))):=
 Eq.mpr (by kernel_rfl) h
def ZwG(a b m:Int):Prop:=AW (Z1 Zhu) Try.f103 ZmQ [] (Zk (ZnW.can (a,b,m,())) []) (EQ Try.f103 (Zri (a,b,m,())) [])
theorem Zvh(c67:CT 67 Z5K)(c68:CT 68 Z5J)(c69:CT 69 Z5I)(hb:∀ (a:Int) (b:Int) (m:Int) (_:Unit),Z66 (a,b,m,())→ZwG a b m):CT 103 Z2d:=
 Z7 (l:=[(67,Z5K),(68,Z5J),(69,Z5I)]) Zm rfl (⟨c67,c68,c69,trivial⟩) ZmQ Try.func103 rfl rfl 3 (fun _=> rfl) (by decide) (fun ⟨a,b,m,_⟩=> hb a b m ())
def Zsz:List (FuncId × Fs U):=[]
def ZyD:Zj U:=lvl [([1],[1]),([2],[])]
abbrev A62(p:List Nat):=AW (Z1 Zsz) Try.f62 ZyD p
theorem ZCA(t:Tree)(Q:QT)(h:((Tr ((t.kind==0)=true))∧(Tr ((t.kind==0)=true))∧(Tr ((t.kind==0)=true))∧(Tr ((t.kind==0)=true))∧(Tr ((t.kind==0)=true))∧(Tr ((t.kind==0)=true))∧((t.kind==0)=true→InR (((t.words.length:Int):Int)+(t.kids.length:Int)))∧(Tr ((t.kind==0)=true))∧(Tr ((t.kind==0)=true))∧(Q .ret (L2 [(2,.c (.bool (bif (t.kind==0) then (((((t.words.length:Int):Int)+(t.kids.length:Int)):Int)==0) else false)))] [])))):
  A62 [] (L2 [(0,.agg (enc .tree t))] []) Q:=
 Eq.mpr (by kernel_rfl) h
def ZA5(t:Tree):Prop:=AW (Z1 Zsz) Try.f62 ZyD [] (Zk (Ztm.can (t,())) []) (EQ Try.f62 (ZwS (t,())) [])
theorem Zyg(hb:∀ (t:Tree) (_:Unit),Z61 (t,())→ZA5 t):CT 62 Z4S:=
 Z7 (l:=[]) Zm rfl trivial ZyD Try.func62 rfl rfl 1 (fun _=> rfl) (by decide) (fun ⟨t,_⟩=> hb t ())
def Zsy:List (FuncId × Fs U):=[(103,Z2d)]
def ZyC:Zj U:=lvl [([0,1],[]),([4],[])]
abbrev A63(p:List Nat):=AW (Z1 Zsy) Try.f63 ZyC p
theorem ZCz(w m:Int)(Q:QT)(h:((Z66 (w,0,m,()))∧(Q .ret (L2 [(4,.c (.bool (((mix w 0 m):Int)==0)))] [])))):
  A63 [] (L2 [(0,.c (.int .u64 w)),(1,.c (.int .u8 m))] []) Q:=
 Eq.mpr (by kernel_rfl) h
def ZA4(w m:Int):Prop:=AW (Z1 Zsy) Try.f63 ZyC [] (Zk (Ztl.can (w,m,())) []) (EQ Try.f63 (ZwR (w,m,())) [])
theorem Zyf(Zpp:CT 103 Z2d)(hb:∀ (w:Int) (m:Int) (_:Unit),Zmn (w,m,())→ZA4 w m):CT 63 ZaA:=
 Z7 (l:=[(103,Z2d)]) Zm rfl (⟨Zpp,trivial⟩) ZyC Try.func63 rfl rfl 2 (fun _=> rfl) (by decide) (fun ⟨w,m,_⟩=> hb w m ())
def Znh:List (FuncId × Fs U):=[(62,Z4S)]
def Zsj:Zj U:=lvl [([1],[1]),([2],[])]
abbrev ZDn(p:List Nat):=AW (Z1 Znh) Try.f104 Zsj p
theorem ZBk(e:Edit)(Q:QT)(h:∀ y_1,y_1=(e.new)→∀ y_2,y_2=(e.old)→let z2:=bif (e.kind==0) then (JR y_2) else false;let z0:=bif z2 then (JR y_1) else false;let z1:=bif z0 then (((((((e.words.length:Int):Int)+(e.kids.length:Int)):Int)+(e.ops.length:Int)):Int)==0) else false;((Tr ((e.kind==0)=true))∧(Tr ((e.kind==0)=true))∧((e.kind==0)=true→Z61 (y_2,()))∧(Tr ((e.kind==0)=true))∧(Tr (z2=true))∧(Tr (z2=true))∧(z2=true→Z61 (y_1,()))∧(Tr (z2=true))∧(Tr (z0=true))∧(Tr (z0=true))∧(Tr (z0=true))∧(Tr (z0=true))∧(Tr (z0=true))∧(Tr (z0=true))∧(z0=true→InR (((e.words.length:Int):Int)+(e.kids.length:Int)))∧(Tr (z0=true))∧(Tr (z0=true))∧(Tr (z0=true))∧(Tr (z0=true))∧(z0=true→InR (((((e.words.length:Int):Int)+(e.kids.length:Int)):Int)+(e.ops.length:Int)))∧(Tr (z0=true))∧(Tr (z0=true))∧(Tr (z1=true))∧(Tr (z1=true))∧(Tr (z1=true))∧(Q .ret (L2 [(2,.c (.bool (bif z1 then (e.list==0) else false)))] [])))):
  ZDn [] (L2 [(0,.agg (enc .edit e))] []) Q:=
 Eq.mpr (by kernel_rfl) (h _ (Zb _) _ (Zb _))
def ZwF(e:Edit):Prop:=AW (Z1 Znh) Try.f104 Zsj [] (Zk (ZnV.can (e,())) []) (EQ Try.f104 (Zrh (e,())) [])
theorem Zvg(c62:CT 62 Z4S)(hb:∀ (e:Edit) (_:Unit),Z8o (e,())→ZwF e):CT 104 Z6T:=
 Z7 (l:=[(62,Z4S)]) Zm rfl (⟨c62,trivial⟩) Zsj Try.func104 rfl rfl 1 (fun _=> rfl) (by decide) (fun ⟨e,_⟩=> hb e ())
def ZkS:List (FuncId × Fs U):=[]
def Zvs:Zj U:=lvl [([1],[1]),([1,4,5],[1]),([1,4,5,6],[1]),([1,4,5,6,13],[1]),([1,4,5,6],[1]),([1,4,5,6,7],[1,7]),([1,4,5,6,7,8],[1,7]),([1,4,5,6,7,8,29],[1,7]),([1,4,5,6,7,8,29],[1,7]),([1,4,5,6,7,8,32],[1,7]),([1,4,5,6,7,8,32],[1,7]),([1,4,5,6,8,38],[1]),([1,4,5,6,8,38],[1]),([1,4,5,6,43],[1]),([1,4,5,6,43],[1]),([1,4,5,6,45],[1]),([1,4,5,6],[1]),([2,3],[])]
def Z3i(e:Edit)(x4 x5 x6:Int):LSt U:=(L2 [(1,.ptr (.loc 1) 0),(4,.c (ci x4)),(5,.c (ci x5)),(6,.c (ci x6))] [(.loc 1,(enc .edit e))])
def Za5(e:Edit)(x4 x5 x6 x8_a:Int):LSt U:=(L2 [(1,.ptr (.loc 1) 0),(4,.c (ci x4)),(5,.c (ci x5)),(6,.c (ci x6)),(7,.ptr (.loc 7) 0),(8,.c (ci x8_a)),(29,.c (.bool (((OpOf.kind (e.ops.getD x6.toNat Op.nil)):Int)==3)))] [(.loc 1,(enc .edit e)),(.loc 7,(enc .op (e.ops.getD x6.toNat Op.nil)))])
def Za4(e:Edit)(x5 x6 x8_a x4_b:Int):LSt U:=(L2 [(1,.ptr (.loc 1) 0),(4,.c (ci x4_b)),(5,.c (ci x5)),(6,.c (ci x6)),(7,.ptr (.loc 7) 0),(8,.c (ci x8_a)),(32,.c (.bool (((OpOf.kind (e.ops.getD x6.toNat Op.nil)):Int) !=2)))] [(.loc 1,(enc .edit e)),(.loc 7,(enc .op (e.ops.getD x6.toNat Op.nil)))])
def Za3(e:Edit)(x6 x8_a x4_b x5_c:Int):LSt U:=(L2 [(1,.ptr (.loc 1) 0),(4,.c (ci x4_b)),(5,.c (ci x5_c)),(6,.c (ci x6)),(8,.c (ci x8_a)),(38,.c (.bool (((OpOf.kind (e.ops.getD x6.toNat Op.nil)):Int) !=1)))] [(.loc 1,(enc .edit e))])
def Za2(e:Edit)(x6 x4_b x5_c x4_d:Int):LSt U:=(L2 [(1,.ptr (.loc 1) 0),(4,.c (ci x4_d)),(5,.c (ci x5_c)),(6,.c (ci x6)),(43,.c (.bool (decide ((1048576:Int) < x4_b))))] [(.loc 1,(enc .edit e))])
abbrev A65(p:List Nat):=AW (Z1 ZkS) Try.f65 Zvs p
abbrev S65(p:List Nat):=SW (Z1 ZkS) Try.f65 Zvs p
theorem ZCx(e:Edit)(Q:QT)(h:(Ze (A65 [1,1,0,1,0,0]) (Z3i e 0 0 0) (xB 0 (S65 [1,1,1] Q)))):
  A65 [] (L2 [(0,.agg (enc .edit e))] []) Q:=
 Eq.mpr (by kernel_rfl) h
abbrev ZzC(e:Edit)(x4 x5 x6:Int)(N0:NT)(Q:QT):Prop:=A65 [1,1,0,1,0,0] (Z3i e x4 x5 x6) (xT N0 (xB 0 (S65 [1,1,1] Q)))
theorem Zu8(e:Edit)(x4 x5 x6:Int)(N0:NT)(Q:QT)(h:let z2:=decide (x6 < (e.ops.length:Int));let z1:=xB 1 (S65 [1,1,0,1,0,0,1,1] (xT N0 (xB 0 (S65 [1,1,1] Q))));let z0:=e.ops.getD x6.toNat Op.nil;((z2=true→((0:Int)≤x6∧x6 < (e.ops.length:Int))∧((InR (((OpOf.n z0):Int)+((OpOf.l z0).length:Int)))∧(((((OpOf.kind z0):Int)==3)=true→(A65 [1,1,0,1,0,0,1,0,0,1,1,1] (Za5 e x4 x5 x6 1) z1))∧((((OpOf.kind z0):Int)==3)=false→A65 [1,1,0,1,0,0,1,0,0,1,1,1] (Za5 e x4 x5 x6 (((OpOf.n z0):Int)+((OpOf.l z0).length:Int))) z1))))∧(z2=false→(Q .ret (L2 [(2,.c (ci x4)),(3,.c (ci x5))] []))))):
  A65 [1,1,0,1,0,0] (Z3i e x4 x5 x6) (xT N0 (xB 0 (S65 [1,1,1] Q))):=
 Eq.mpr (by kernel_rfl) h
abbrev ZzG(e:Edit)(x4 x5 x6 x8_a:Int)(N0:NT)(Q:QT):Prop:=A65 [1,1,0,1,0,0,1,0,0,1,1,1] (Za5 e x4 x5 x6 x8_a) (xB 1 (S65 [1,1,0,1,0,0,1,1] (xT N0 (xB 0 (S65 [1,1,1] Q)))))
theorem Zuc(e:Edit)(x4 x5 x6 x8_a:Int)(N0:NT)(Q:QT)(h:let z1:=((OpOf.kind (e.ops.getD x6.toNat Op.nil)):Int) !=2;let z0:=xB 1 (S65 [1,1,0,1,0,0,1,1] (xT N0 (xB 0 (S65 [1,1,1] Q))));((z1=true→(InR (x4+x8_a))∧(A65 [1,1,0,1,0,0,1,0,0,1,1,1,1] (Za4 e x5 x6 x8_a (x4+x8_a)) z0))∧(z1=false→A65 [1,1,0,1,0,0,1,0,0,1,1,1,1] (Za4 e x5 x6 x8_a x4) z0))):
  A65 [1,1,0,1,0,0,1,0,0,1,1,1] (Za5 e x4 x5 x6 x8_a) (xB 1 (S65 [1,1,0,1,0,0,1,1] (xT N0 (xB 0 (S65 [1,1,1] Q))))):=
 Eq.mpr (by kernel_rfl) h
abbrev ZzF(e:Edit)(x5 x6 x8_a x4_b:Int)(N0:NT)(Q:QT):Prop:=A65 [1,1,0,1,0,0,1,0,0,1,1,1,1] (Za4 e x5 x6 x8_a x4_b) (xB 1 (S65 [1,1,0,1,0,0,1,1] (xT N0 (xB 0 (S65 [1,1,1] Q)))))
theorem Zub(e:Edit)(x5 x6 x8_a x4_b:Int)(N0:NT)(Q:QT)(h:let z1:=((OpOf.kind (e.ops.getD x6.toNat Op.nil)):Int) !=1;let z0:=xB 1 (S65 [1,1,0,1,0,0,1,1] (xT N0 (xB 0 (S65 [1,1,1] Q))));((z1=true→(InR (x5+x8_a))∧(A65 [1,1,0,1,0,0,1,0,0,1,1,1,1,1] (Za3 e x6 x8_a x4_b (x5+x8_a)) z0))∧(z1=false→A65 [1,1,0,1,0,0,1,0,0,1,1,1,1,1] (Za3 e x6 x8_a x4_b x5) z0))):
  A65 [1,1,0,1,0,0,1,0,0,1,1,1,1] (Za4 e x5 x6 x8_a x4_b) (xB 1 (S65 [1,1,0,1,0,0,1,1] (xT N0 (xB 0 (S65 [1,1,1] Q))))):=
 Eq.mpr (by kernel_rfl) h
abbrev ZzE(e:Edit)(x6 x8_a x4_b x5_c:Int)(N0:NT)(Q:QT):Prop:=A65 [1,1,0,1,0,0,1,0,0,1,1,1,1,1] (Za3 e x6 x8_a x4_b x5_c) (xB 1 (S65 [1,1,0,1,0,0,1,1] (xT N0 (xB 0 (S65 [1,1,1] Q)))))
theorem Zua(e:Edit)(x6 x8_a x4_b x5_c:Int)(N0:NT)(Q:QT)(h:let z1:=decide ((1048576:Int) < x4_b);let z0:=xB 1 (S65 [1,1,0,1,0,0,1,1] (xT N0 (xB 0 (S65 [1,1,1] Q))));((z1=true→(A65 [1,1,0,1,0,0,1,0,0,1,1,1,1,1,1] (Za2 e x6 x4_b x5_c 1048576) z0))∧(z1=false→A65 [1,1,0,1,0,0,1,0,0,1,1,1,1,1,1] (Za2 e x6 x4_b x5_c x4_b) z0))):
  A65 [1,1,0,1,0,0,1,0,0,1,1,1,1,1] (Za3 e x6 x8_a x4_b x5_c) (xB 1 (S65 [1,1,0,1,0,0,1,1] (xT N0 (xB 0 (S65 [1,1,1] Q))))):=
 Eq.mpr (by kernel_rfl) h
abbrev ZzD(e:Edit)(x6 x4_b x5_c x4_d:Int)(N0:NT)(Q:QT):Prop:=A65 [1,1,0,1,0,0,1,0,0,1,1,1,1,1,1] (Za2 e x6 x4_b x5_c x4_d) (xB 1 (S65 [1,1,0,1,0,0,1,1] (xT N0 (xB 0 (S65 [1,1,1] Q)))))
theorem Zu9(e:Edit)(x6 x4_b x5_c x4_d:Int)(N0:NT)(Q:QT)(h:let z0:=decide ((1048576:Int) < x5_c);((z0=true→((InR (x6+1))∧(N0 (Z3i e x4_d 1048576 (x6+1)))))∧(z0=false→(InR (x6+1))∧(N0 (Z3i e x4_d x5_c (x6+1)))))):
  A65 [1,1,0,1,0,0,1,0,0,1,1,1,1,1,1] (Za2 e x6 x4_b x5_c x4_d) (xB 1 (S65 [1,1,0,1,0,0,1,1] (xT N0 (xB 0 (S65 [1,1,1] Q))))):=
 Eq.mpr (by kernel_rfl) h
def ZA2(e:Edit):Prop:=AW (Z1 ZkS) Try.f65 Zvs [] (Zk (Ztk.can (e,())) []) (EQ Try.f65 (ZqX (e,())) [])
theorem Zye(hb:∀ (e:Edit) (_:Unit),ZiJ (e,())→ZA2 e):CT 65 Z4R:=
 Z7 (l:=[]) Zm rfl trivial Zvs Try.func65 rfl rfl 1 (fun _=> rfl) (by decide) (fun ⟨e,_⟩=> hb e ())
def ZkK(N:Nat):List (FuncId × Fs U):=(90,fs Zle (fun a=> [ZdP a,Zj1 a < N]) Zm8) ::[(78,Zdg)]
def Zvk:Zj U:=lvl [([1,2,3],[3]),([1,2,3],[3]),([1,2,3,25],[3]),([6],[]),([1,2,3],[3]),([1,2,3,31],[3]),([1,2,3,31],[3]),([1,2,3,7],[3]),([1,2,3,7,44],[3]),([1,2,3,7],[3]),([1,2,3,7],[3]),([1,2,3,8],[3]),([1,2,3,8,65],[3]),([1,2,3,8],[3]),([1,2,3,8,9],[3]),([1,2,3,8,9,80],[3]),([1,2,3,8,9],[3]),([1,2,3,8,9],[3]),([1,2,3,8,95],[3]),([1,2,3,8],[3]),([6],[])]
def Z9T(e:Edit)(d n x2:Int):LSt U:=(L2 [(1,.c (ci d)),(2,.c (ci x2)),(3,.ptr (.loc 3) 0),(31,.c (.bool (decide ((0:Int)≤(ZZ (Tree.mk e.old.kind e.old.words e.old.kids) 80 ((((((n:Int) - 1):Int) - (e.words.length:Int)):Int) - (e.ops.length:Int)))))))] [(.loc 3,(enc .edit e))])
def Z9S(e:Edit)(d n x2_a x7_a:Int):LSt U:=(L2 [(1,.c (ci d)),(2,.c (ci x2_a)),(3,.ptr (.loc 3) 0),(7,.c (ci x7_a))] [(.loc 3,(enc .edit e))])
def Z6r(e:Edit)(d n x2_b x8_b:Int):LSt U:=(L2 [(1,.c (ci d)),(2,.c (ci x2_b)),(3,.ptr (.loc 3) 0),(8,.c (ci x8_b))] [(.loc 3,(enc .edit e))])
def Z9R(e:Edit)(d n x8_b x2_c x9_c:Int):LSt U:=(L2 [(1,.c (ci d)),(2,.c (ci x2_c)),(3,.ptr (.loc 3) 0),(8,.c (ci x8_b)),(9,.c (ci x9_c))] [(.loc 3,(enc .edit e))])
abbrev A90(N:Nat)(p:List Nat):=AW (Z1 (ZkK N)) Try.f90 Zvk p
abbrev S90(N:Nat)(p:List Nat):=SW (Z1 (ZkK N)) Try.f90 Zvk p
theorem ZCk(N:Nat)(e:Edit)(d n:Int)(Q:QT)(h:∀ y_1,y_1=(e.new)→∀ y_2,y_2=(e.old)→∀ y_3,y_3=(ZZ y_2 80 (((((n - 1):Int) - (e.words.length:Int)):Int) - (e.ops.length:Int)))→let z0:=bif (d==0) then true else (decide (((((((n - 1):Int) - (e.words.length:Int)):Int) - (e.ops.length:Int)):Int) < 0));((InR (n - 1))∧(InR (((n - 1):Int) - (e.words.length:Int)))∧(InR (((((n - 1):Int) - (e.words.length:Int)):Int) - (e.ops.length:Int)))∧((Tr ((!(d==0))=true))∧((d==0)=false→(!(d==0))=true)∧((z0=true→(Q .ret (L2 [(6,.c (ci (-1)))] [])))∧(z0=false→(ZbM (y_2,80,(((((n - 1):Int) - (e.words.length:Int)):Int) - (e.ops.length:Int)),()))∧(((decide ((0:Int)≤y_3))=true→(ZbM (y_1,80,y_3,()))∧(A90 N [1,1,1,1,1] (Z9T e d n (ZZ y_1 80 y_3)) Q))∧((decide ((0:Int)≤y_3))=false→A90 N [1,1,1,1,1] (Z9T e d n y_3) Q))))))):
  A90 N [] (L2 [(0,.agg (enc .edit e)),(1,.c (ci d)),(2,.c (ci n))] []) Q:=
 Eq.mpr (by kernel_rfl) (h _ (Zb _) _ (Zb _) _ rfl)
abbrev ZzB(N:Nat)(e:Edit)(d n x2:Int)(Q:QT):Prop:=A90 N [1,1,1,1,1] (Z9T e d n x2) Q
theorem ZtV(N:Nat)(e:Edit)(d n x2:Int)(Q:QT)(h:(Ze (A90 N [1,1,1,1,1,0,1,0,0]) (Z9S e d n x2 0) (xB 0 (S90 N [1,1,1,1,1,1] Q)))):
  A90 N [1,1,1,1,1] (Z9T e d n x2) Q:=
 Eq.mpr (by kernel_rfl) h
theorem ZtU(N:Nat)(e:Edit)(d n x2_a x7_a:Int)(N1:NT)(Q:QT)(h:∀ y_1,y_1=(e.kids.getD x7_a.toNat (KidOf.mk 0 Edit.nil))→∀ y_2,y_2=(y_1.e)→let z0:=decide (x7_a < (e.kids.length:Int));let z1:=bif z0 then (decide ((0:Int)≤x2_a)) else false;(Tr (z0=true))∧(Tr (z0=true))∧((z1=true→((0:Int)≤x7_a∧x7_a < (e.kids.length:Int))∧(InR (d - 1))∧(ZdP (y_2,(d - 1),x2_a,()))∧(Zj1 (y_2,(d - 1),x2_a,()) < N)∧((InR (x7_a+1))∧(N1 (Z9S e d n (Z18 y_2 (d - 1) x2_a) (x7_a+1)))))∧(z1=false→(Ze (A90 N [1,1,1,1,1,1,0,1,0,0]) (Z6r e d n x2_a 0) (xB 2 (S90 N [1,1,1,1,1,1,1] Q)))))):
  A90 N [1,1,1,1,1,0,1,0,0] (Z9S e d n x2_a x7_a) (xT N1 (xB 0 (S90 N [1,1,1,1,1,1] Q))):=
 Eq.mpr (by kernel_rfl) (h _ rfl _ (Z9 _))
theorem ZtT(N:Nat)(e:Edit)(d n x2_b x8_b:Int)(N2:NT)(Q:QT)(h:let z0:=decide (x8_b < (e.ops.length:Int));let z1:=bif z0 then (decide ((0:Int)≤x2_b)) else false;(Tr (z0=true))∧(Tr (z0=true))∧((z1=true→(Ze (A90 N [1,1,1,1,1,1,0,1,0,0,1,0,0,0,1,0,0]) (Z9R e d n x8_b x2_b 0) (xB 4 (S90 N [1,1,1,1,1,1,0,1,0,0,1,0,0,1] (xB 3 (S90 N [1,1,1,1,1,1,0,1,0,0,1,1] (xT N2 (xB 2 (S90 N [1,1,1,1,1,1,1] Q)))))))))∧(z1=false→(Q .ret (L2 [(6,.c (ci x2_b))] []))))):
  A90 N [1,1,1,1,1,1,0,1,0,0] (Z6r e d n x2_b x8_b) (xT N2 (xB 2 (S90 N [1,1,1,1,1,1,1] Q))):=
 Eq.mpr (by kernel_rfl) h
theorem ZtS(N:Nat)(e:Edit)(d n x8_b x2_c x9_c:Int)(N3 N2:NT)(Q:QT)(h:∀ y_1,y_1=(e.ops.getD x8_b.toNat Op.nil)→∀ y_2,y_2=(y_1.e)→∀ y_3,y_3=(y_1.l.getD x9_c.toNat Tree.nil)→let z1:=decide ((0:Int)≤x2_c);let z0:=decide (x9_c < (y_1.l.length:Int));((0:Int)≤x8_b∧x8_b < (e.ops.length:Int))∧(Tr (z0=true))∧(Tr (z0=true))∧(((bif z0 then z1 else false)=true→((0:Int)≤x8_b∧x8_b < (e.ops.length:Int))∧((0:Int)≤x9_c∧x9_c < (y_1.l.length:Int))∧(ZbM (y_3,80,x2_c,()))∧((InR (x9_c+1))∧(N3 (Z9R e d n x8_b (ZZ y_3 80 x2_c) (x9_c+1)))))∧((bif z0 then z1 else false)=false→((z1=true→((0:Int)≤x8_b∧x8_b < (e.ops.length:Int))∧(InR (d - 1))∧(ZdP (y_2,(d - 1),x2_c,()))∧(Zj1 (y_2,(d - 1),x2_c,()) < N)∧((InR (x8_b+1))∧(N2 (Z6r e d n (Z18 y_2 (d - 1) x2_c) (x8_b+1)))))∧(z1=false→(InR (x8_b+1))∧(N2 (Z6r e d n x2_c (x8_b+1)))))))):
  A90 N [1,1,1,1,1,1,0,1,0,0,1,0,0,0,1,0,0] (Z9R e d n x8_b x2_c x9_c) (xT N3 (xB 4 (S90 N [1,1,1,1,1,1,0,1,0,0,1,0,0,1] (xB 3 (S90 N [1,1,1,1,1,1,0,1,0,0,1,1] (xT N2 (xB 2 (S90 N [1,1,1,1,1,1,1] Q)))))))):=
 Eq.mpr (by kernel_rfl) (h _ rfl _ (Z9 _) _ (Zb _))
def ZzP(N:Nat)(e:Edit)(d n:Int):Prop:=AW (Z1 (ZkK N)) Try.f90 Zvk [] (Zk (Zle.can (e,d,n,())) []) (EQ Try.f90 (Zm8 (e,d,n,())) [])
theorem Zy3(c78:CT 78 Zdg)(hb:∀ (N:Nat) (e:Edit) (d:Int) (n:Int) (_:Unit),ZdP (e,d,n,())→Zj1 (e,d,n,()) < N+1→ZzP N e d n):CT 90 Zdd:=
 YB (μ:=Zj1) (l:=[(78,Zdg)]) Zm rfl (⟨c78,trivial⟩) Zvk Try.func90 rfl rfl 3 (fun _=> rfl) (by decide) (fun N ⟨e,d,n,_⟩=> hb N e d n ())
def ZsA:List (FuncId × Fs U):=[(90,Zdd)]
def ZyG:Zj U:=lvl [([1],[1]),([2],[])]
abbrev A54(p:List Nat):=AW (Z1 ZsA) Try.f54 ZyG p
theorem ZCG(e:Edit)(Q:QT)(h:let z0:=Edit.mk e.kind (Tree.mk e.old.kind e.old.words e.old.kids) (Tree.mk e.new.kind e.new.words e.new.kids) e.words e.kids e.list e.ops;((ZdP (z0,80,3000,()))∧(Q .ret (L2 [(2,.c (.bool (decide ((0:Int)≤(Z18 z0 80 3000)))))] [])))):
  A54 [] (L2 [(0,.agg (enc .edit e))] []) Q:=
 Eq.mpr (by kernel_rfl) h
def ZAb(e:Edit):Prop:=AW (Z1 ZsA) Try.f54 ZyG [] (Zk (Zto.can (e,())) []) (EQ Try.f54 (ZwU (e,())) [])
theorem Zyj(c90:CT 90 Zdd)(hb:∀ (e:Edit) (_:Unit),Zrw (e,())→ZAb e):CT 54 Zdk:=
 Z7 (l:=[(90,Zdd)]) Zm rfl (⟨c90,trivial⟩) ZyG Try.func54 rfl rfl 1 (fun _=> rfl) (by decide) (fun ⟨e,_⟩=> hb e ())
end
end Go.AM.Ytpjenobkibfpcaa
namespace Go.AM.Ytpjenobkibfpcaa
open Go.AM Go.Proofs
noncomputable section
def ZhL:ArgL (Edit × Int × Unit):=(.cons (aEl .edit) (.cons (JI .i64) .nil))
def ZbP(a:Edit × Int × Unit):Prop:=(Z5 a.1≤20000000000∧YT a.1)∧0≤a.2.1∧a.2.1≤1000
def Zh7(a:Edit × Int × Unit):Nat:=2*Z5 a.1
def Zmd(a:Edit × Int × Unit):V U:= .c (.bool (Za a.1 a.2.1))
def Zdm:Fs U:=fs ZhL (fun a=> [ZbP a]) Zmd
def ZhI:ArgL (Int × Op × Int × Unit):=(.cons (JI .i64) (.cons (aEl .op) (.cons (JI .i64) .nil)))
def ZfM(a:Int × Op × Int × Unit):Prop:=(Zs a.2.1≤20000000000∧YH a.2.1∧isI a.1)∧0≤a.2.2.1∧a.2.2.1≤1000
def ZoT(a:Int × Op × Int × Unit):Nat:=2*Zs a.2.1+1
def Zm9(a:Int × Op × Int × Unit):V U:= .c (.bool (Zc a.1 a.2.1 a.2.2.1))
def ZqK:Fs U:=fs ZhI (fun a=> [ZfM a]) Zm9
def Zlh:ArgL (Edit × Unit):=(.cons (aEl .edit) .nil)
def ZdQ(a:Edit × Unit):Prop:=(Z5 a.1≤20000000000∧YT a.1)∧∃ d,Za a.1 d=true
def Zj4(a:Edit × Unit):Nat:=Z5 a.1
def ZqY(a:Edit × Unit):V U:= .c (.bool (Z17 a.1))
def Zdj:Fs U:=fs Zlh (fun a=> [ZdQ a]) ZqY
def Ztv:ArgL (Edit × Unit):=(.cons (aEl .edit) .nil)
def ZiL(a:Edit × Unit):Prop:=Z2Y a.1∧YT a.1
def ZwW(a:Edit × Unit):V U:= .c (.bool (Z0g a.1))
def Zdq:Fs U:=fs Ztv (fun a=> [ZiL a]) ZwW
def ZkZ(N:Nat):List (FuncId × Fs U):=(23,fs ZhL (fun a=> [ZbP a,Zh7 a < N]) Zmd) ::(64,fs ZhI (fun a=> [ZfM a,ZoT a < N]) Zm9) ::[(62,Z4S),(63,ZaA),(104,Z6T),(37,ZaD),(65,Z4R)]
def Zvz:Zj U:=lvl [([1,2],[2]),([1,2,24],[2]),([4],[]),([1,2,69],[2]),([4],[]),([1,2,72],[2]),([4],[]),([1,2,5],[2]),([1,2,5,6],[2]),([1,2,5,6,97],[2]),([1,2,5,6],[2]),([1,2,5,6,7],[2,7]),([1,2,6,7,134],[2,7]),([4],[]),([1,2,5,6],[2]),([1,2,5],[2]),([1,2,5,8],[2]),([1,2,5,8,141],[2]),([1,2,5,8],[2]),([1,2,5,8,9],[2,9]),([1,2,8,9,171],[2,9]),([4],[]),([1,2,5,8],[2]),([1,2,186],[2]),([4],[]),([1,2,10],[2]),([1,2,10,191],[2]),([1,2,10],[2]),([1,2,10,204],[2]),([4],[]),([11,12],[]),([4],[])]
def Zae(e:Edit)(d x5 x6:Int):LSt U:=(L2 [(1,.c (ci d)),(2,.ptr (.loc 2) 0),(5,.c (ci x5)),(6,.c (ci x6))] [(.loc 2,(enc .edit e))])
def Zad(e:Edit)(d x5_a x8_a:Int):LSt U:=(L2 [(1,.c (ci d)),(2,.ptr (.loc 2) 0),(5,.c (ci x5_a)),(8,.c (ci x8_a))] [(.loc 2,(enc .edit e))])
def Zac(e:Edit)(d x10_b:Int):LSt U:=(L2 [(1,.c (ci d)),(2,.ptr (.loc 2) 0),(10,.c (ci x10_b))] [(.loc 2,(enc .edit e))])
abbrev A23(N:Nat)(p:List Nat):=AW (Z1 (ZkZ N)) Try.f23 Zvz p
abbrev S23(N:Nat)(p:List Nat):=SW (Z1 (ZkZ N)) Try.f23 Zvz p
theorem ZCO(N:Nat)(e:Edit)(d:Int)(Q:QT)(h:∀ y_1,y_1=(e.new)→∀ y_2,y_2=(e.old)→let z11:=Q .ret (L2 [(4,.c (.bool false))] []);let z8:=(e.kind !=1) && (JR y_2);let z3:=bif (d==0) then true else (decide (e.kind < 0));let z10:=bif z3 then true else (decide ((3:Int) < e.kind));let z2:=bif (Zl y_2 64) then (Zl y_1 64) else false;let z6:=bif z2 then (e.old.kind !=10) else false;let z1:=bif (e.kind !=1) then (!(bif (JR y_2) then (JR y_1) else false)) else false;let z5:=(!z1) && (e.kind !=2);let z0:=bif z1 then true else (bif (e.kind !=2) then (decide ((0:Int) < (((e.words.length:Int):Int)+(e.kids.length:Int)))) else false);let z7:=bif z0 then true else (bif (e.kind !=3) then (bif (e.list !=0) then true else (decide ((0:Int) < (e.ops.length:Int)))) else false);let z4:=(!z0) && (e.kind !=3);let z9:=z4 && (!(e.list !=0));((Tr ((!(d==0))=true))∧(Tr ((!(d==0))=true))∧((d==0)=false→(!(d==0))=true)∧(Tr ((!z3)=true))∧(Tr ((!z3)=true))∧(z3=false→(!z3)=true)∧((z10=true→z11)∧(z10=false→(Tr ((e.kind !=1)=true))∧(Tr ((e.kind !=1)=true))∧((e.kind !=1)=true→Z61 (y_2,()))∧(Tr ((e.kind !=1)=true))∧(Tr (z8=true))∧(Tr (z8=true))∧(z8=true→Z61 (y_1,()))∧((e.kind !=1)=true→(True→(e.kind !=1)=true))∧((e.kind !=1)=true→((JR y_2)=true→z8=true))∧(Tr ((e.kind !=1)=true))∧(Tr ((e.kind !=1)=true))∧(Tr ((!z1)=true))∧(Tr ((!z1)=true))∧(Tr ((!z1)=true))∧(Tr (z5=true))∧(Tr (z5=true))∧(Tr (z5=true))∧(Tr (z5=true))∧(Tr (z5=true))∧(Tr (z5=true))∧(z5=true→InR (((e.words.length:Int):Int)+(e.kids.length:Int)))∧(Tr (z5=true))∧((!z1)=true→(True→(!z1)=true))∧((!z1)=true→((e.kind !=2)=true→z5=true))∧(z1=false→(!z1)=true)∧(Tr ((!z0)=true))∧(Tr ((!z0)=true))∧(Tr ((!z0)=true))∧(Tr (z4=true))∧(Tr (z4=true))∧(Tr (z4=true))∧(Tr (z9=true))∧(Tr (z9=true))∧(Tr (z9=true))∧(z4=true→(True→z4=true))∧(z4=true→((e.list !=0)=false→z9=true))∧((!z0)=true→(True→(!z0)=true))∧((!z0)=true→((e.kind !=3)=true→z4=true))∧(z0=false→(!z0)=true)∧((z7=true→z11)∧(z7=false→(((e.kind==1)=true→(Z7Y (y_2,64,()))∧(Tr ((Zl y_2 64)=true))∧(Tr ((Zl y_2 64)=true))∧((Zl y_2 64)=true→Z7Y (y_1,64,()))∧(Tr ((Zl y_2 64)=true))∧(Tr (z2=true))∧(Tr (z2=true))∧(Tr (z2=true))∧(Tr (z2=true))∧(Tr (z6=true))∧(Tr (z6=true))∧(Tr (z6=true))∧(Tr (z6=true))∧(Q .ret (L2 [(4,.c (.bool (bif z6 then (e.new.kind !=10) else false)))] [])))∧((e.kind==1)=false→(Ze (A23 N [1,1,1,1,1,0,1,0,0]) (Zae e d (-1) 0) (xB 0 (S23 N [1,1,1,1,1,1] Q))))))))))):
  A23 N [] (L2 [(0,.agg (enc .edit e)),(1,.c (ci d))] []) Q:=
 Eq.mpr (by kernel_rfl) (h _ (Zb _) _ (Zb _))
theorem Zuq(N:Nat)(e:Edit)(d x5 x6:Int)(N0:NT)(Q:QT)(h:∀ y_1,y_1=(e.words.getD x6.toNat (WEdit.mk 0 0 0 0))→let z5:=decide (x6 < (e.words.length:Int));let z3:=decide (y_1.at_≤x5);let z2:=bif z3 then true else (decide ((65534:Int) < y_1.at_));let z0:=bif z2 then true else (y_1.mask==0);let z1:=bif z0 then true else (!(Yl y_1.old y_1.mask));let z4:=bif z1 then true else (!(Yl y_1.new y_1.mask));((z5=true→((0:Int)≤x6∧x6 < (e.words.length:Int))∧((Tr ((!z3)=true))∧(Tr ((!z3)=true))∧(z3=false→(!z3)=true)∧(Tr ((!z2)=true))∧(Tr ((!z2)=true))∧(z2=false→(!z2)=true)∧(Tr ((!z0)=true))∧(Tr ((!z0)=true))∧(Tr ((!z0)=true))∧(Tr ((!z0)=true))∧((!z0)=true→Zmn (y_1.old,y_1.mask,()))∧(Tr ((!z0)=true))∧(z0=false→(!z0)=true)∧(Tr ((!z1)=true))∧(Tr ((!z1)=true))∧(Tr ((!z1)=true))∧(Tr ((!z1)=true))∧((!z1)=true→Zmn (y_1.new,y_1.mask,()))∧(Tr ((!z1)=true))∧(z1=false→(!z1)=true)∧((z4=true→(Q .ret (L2 [(4,.c (.bool false))] [])))∧(z4=false→((InR (x6+1))∧(N0 (Zae e d y_1.at_ (x6+1))))))))∧(z5=false→(Ze (A23 N [1,1,1,1,1,1,1,0,1,0,0]) (Zad e d (-1) 0) (xB 2 (S23 N [1,1,1,1,1,1,1,1] Q)))))):
  A23 N [1,1,1,1,1,0,1,0,0] (Zae e d x5 x6) (xT N0 (xB 0 (S23 N [1,1,1,1,1,1] Q))):=
 Eq.mpr (by kernel_rfl) (h _ rfl)
theorem Zup(N:Nat)(e:Edit)(d x5_a x8_a:Int)(N1:NT)(Q:QT)(h:∀ y_1,y_1=(e.kids.getD x8_a.toNat (KidOf.mk 0 Edit.nil))→∀ y_2,y_2=(y_1.e)→let z8:=decide (x8_a < (e.kids.length:Int));let z7:=decide (e.list < 2);let z6:=Q .ret (L2 [(4,.c (.bool false))] []);let z4:=(e.kind==3) && (!z7);let z3:=decide (y_1.at_≤x5_a);let z2:=bif (e.kind==3) then (bif z7 then true else (decide ((9:Int) < e.list))) else false;let z1:=bif z3 then true else (decide ((65534:Int) < y_1.at_));let z0:=bif z1 then true else (y_1.e.kind==0);let z5:=bif z0 then true else (!(Za y_2 (d - 1)));((z8=true→((0:Int)≤x8_a∧x8_a < (e.kids.length:Int))∧((Tr ((!z3)=true))∧(Tr ((!z3)=true))∧(z3=false→(!z3)=true)∧(Tr ((!z1)=true))∧(Tr ((!z1)=true))∧(Tr ((!z1)=true))∧(z1=false→(!z1)=true)∧(Tr ((!z0)=true))∧(Tr ((!z0)=true))∧((!z0)=true→InR (d - 1))∧(Tr ((!z0)=true))∧(Tr ((!z0)=true))∧((!z0)=true→ZbP (y_2,(d - 1),()))∧((!z0)=true→Zh7 (y_2,(d - 1),()) < N)∧(Tr ((!z0)=true))∧(z0=false→(!z0)=true)∧((z5=true→z6)∧(z5=false→((InR (x8_a+1))∧(N1 (Zad e d y_1.at_ (x8_a+1))))))))∧(z8=false→(Tr ((e.kind==3)=true))∧(Tr ((e.kind==3)=true))∧(Tr ((e.kind==3)=true))∧(Tr (z4=true))∧(Tr (z4=true))∧((e.kind==3)=true→(True→(e.kind==3)=true))∧((e.kind==3)=true→(z7=false→z4=true))∧(Tr ((e.kind==3)=true))∧((z2=true→z6)∧(z2=false→(Ze (A23 N [1,1,1,1,1,1,1,1,1,0,1,0,0]) (Zac e d 0) (xB 4 (S23 N [1,1,1,1,1,1,1,1,1,1] Q)))))))):
  A23 N [1,1,1,1,1,1,1,0,1,0,0] (Zad e d x5_a x8_a) (xT N1 (xB 2 (S23 N [1,1,1,1,1,1,1,1] Q))):=
 Eq.mpr (by kernel_rfl) (h _ rfl _ (Z9 _))
theorem Zuo(N:Nat)(e:Edit)(d x10_b:Int)(N2:NT)(Q:QT)(h:∀ y_1,y_1=e→∀ y_2,y_2=(e.ops.getD x10_b.toNat Op.nil)→∀ y_3,y_3=y_2→let z2:= !(Zc e.list y_3 (d - 1));let z1:=decide (x10_b < (e.ops.length:Int));let z0:=decide (((Z2l y_1.ops 0):Int) < 1048576);((z1=true→((0:Int)≤x10_b∧x10_b < (e.ops.length:Int))∧(InR (d - 1))∧(ZfM (e.list,y_3,(d - 1),()))∧(ZoT (e.list,y_3,(d - 1),()) < N)∧((z2=true→(Q .ret (L2 [(4,.c (.bool false))] [])))∧(z2=false→(InR (x10_b+1))∧(N2 (Zac e d (x10_b+1))))))∧(z1=false→(ZiJ (y_1,()))∧((Tr (z0=true))∧(Tr (z0=true))∧(Q .ret (L2 [(4,.c (.bool (bif z0 then (decide (((Z2k y_1.ops 0):Int) < 1048576)) else false)))] [])))))):
  A23 N [1,1,1,1,1,1,1,1,1,0,1,0,0] (Zac e d x10_b) (xT N2 (xB 4 (S23 N [1,1,1,1,1,1,1,1,1,1] Q))):=
 Eq.mpr (by kernel_rfl) (h _ (Z9 _) _ rfl _ (J6 _))
def ZAj(N:Nat)(e:Edit)(d:Int):Prop:=AW (Z1 (ZkZ N)) Try.f23 Zvz [] (Zk (ZhL.can (e,d,())) []) (EQ Try.f23 (Zmd (e,d,())) [])
abbrev ZCb:Prop:=∀ (N:Nat) (e:Edit) (d:Int) (_:Unit),ZbP (e,d,())→Zh7 (e,d,()) < N+1→ZAj N e d
def ZkT(N:Nat):List (FuncId × Fs U):=(23,fs ZhL (fun a=> [ZbP a,Zh7 a < N]) Zmd) ::(64,fs ZhI (fun a=> [ZfM a,ZoT a < N]) Zm9) ::[(62,Z4S),(63,ZaA),(104,Z6T),(37,ZaD),(65,Z4R)]
def Zvt:Zj U:=lvl [([0,2,4],[4]),([0,2,4,10],[4]),([6],[]),([0,2,4,42],[4]),([6],[]),([0,2,4,45],[4]),([0,4,7],[4]),([0,4,7,50],[4]),([0,4,7],[4]),([0,4,7,62],[4]),([6],[]),([6],[]),([0,4,92],[4]),([6],[]),([6],[])]
def Za6(list:Int)(o:Op)(d x7:Int):LSt U:=(L2 [(0,.c (ci list)),(4,.ptr (.loc 4) 0),(7,.c (ci x7))] [(.loc 4,(enc .op o))])
abbrev A64(N:Nat)(p:List Nat):=AW (Z1 (ZkT N)) Try.f64 Zvt p
abbrev S64(N:Nat)(p:List Nat):=SW (Z1 (ZkT N)) Try.f64 Zvt p
theorem ZCy(N:Nat)(list:Int)(o:Op)(d:Int)(Q:QT)(h:∀ y_1,y_1=(o.e)→let z12:=Q .ret (L2 [(6,.c (.bool false))] []);let z9:=decide ((1:Int)≤o.n);let z5:=bif (o.n !=0) then true else (decide (o.kind < 0));let z10:=bif z5 then true else (decide ((3:Int) < o.kind));let z4:=decide ((0:Int) < (o.l.length:Int));let z7:=bif z4 then true else (o.e.kind==0);let z3:=bif (o.e.kind==1) then (o.e.old.kind==1) else false;let z2:=bif z9 then (decide (o.n≤1048576)) else false;let z6:=bif z2 then (((o.l.length:Int):Int)==0) else false;let z1:=bif (list==8) then true else (o.e.kind==2);let z8:=(!z1) && (o.e.kind==1);let z0:=bif z7 then true else (decide (list≤7));let z11:=bif z0 then true else (!(Za y_1 d));(((o.kind==0)=true→(Tr (z9=true))∧(Tr (z9=true))∧(Tr (z9=true))∧(Tr (z2=true))∧(Tr (z2=true))∧(Tr (z2=true))∧(Tr (z2=true))∧(Tr (z6=true))∧(Tr (z6=true))∧(z6=true→Z8o (y_1,()))∧(Tr (z6=true))∧(Q .ret (L2 [(6,.c (.bool (bif z6 then (Z24 y_1) else false)))] [])))∧((o.kind==0)=false→(Tr ((!(o.n !=0))=true))∧(Tr ((!(o.n !=0))=true))∧((o.n !=0)=false→(!(o.n !=0))=true)∧(Tr ((!z5)=true))∧(Tr ((!z5)=true))∧(z5=false→(!z5)=true)∧((z10=true→z12)∧(z10=false→(((decide (o.kind < 3))=true→(Ze (A64 N [1,1,1,0,1,0,0,1,0,0]) (Za6 list o d 0) (xB 0 (S64 N [1,1,1,0,1,0,1] (S64 N [1,1,1,1] Q)))))∧((decide (o.kind < 3))=false→(Tr ((!z4)=true))∧(Tr ((!z4)=true))∧(Tr ((!z4)=true))∧(z4=false→(!z4)=true)∧(Tr ((!z7)=true))∧(z7=false→(!z7)=true)∧(Tr ((!z0)=true))∧(Tr ((!z0)=true))∧(Tr ((!z0)=true))∧((!z0)=true→ZbP (y_1,d,()))∧((!z0)=true→Zh7 (y_1,d,()) < N)∧(Tr ((!z0)=true))∧(z0=false→(!z0)=true)∧((z11=true→z12)∧(z11=false→(Tr ((!(list==8))=true))∧(Tr ((!(list==8))=true))∧(Tr ((!(list==8))=true))∧((list==8)=false→(!(list==8))=true)∧(Tr ((!z1)=true))∧(Tr ((!z1)=true))∧(Tr ((!z1)=true))∧(Tr ((!z1)=true))∧(Tr (z8=true))∧(Tr (z8=true))∧(Tr (z8=true))∧(Tr (z8=true))∧((!z1)=true→(True→(!z1)=true))∧((!z1)=true→((o.e.kind==1)=true→z8=true))∧(Tr ((!z1)=true))∧(Tr (((!z1) && z3)=true))∧(Tr (((!z1) && z3)=true))∧(Tr (((!z1) && z3)=true))∧(Tr (((!z1) && z3)=true))∧((!z1)=true→(True→(!z1)=true))∧((!z1)=true→(z3=true→((!z1) && z3)=true))∧(z1=false→(!z1)=true)∧(Q .ret (L2 [(6,.c (.bool (bif z1 then true else (bif z3 then (o.e.new.kind==1) else false))))] []))))))))))):
  A64 N [] (L2 [(0,.c (ci list)),(1,.agg (enc .op o)),(2,.c (ci d))] []) Q:=
 Eq.mpr (by kernel_rfl) (h _ (Z9 _))
theorem Zud(N:Nat)(list:Int)(o:Op)(d x7:Int)(N0:NT)(Q:QT)(h:let z3:=decide (x7 < (o.l.length:Int));let z2:=Tree.mk list [] (List.drop x7.toNat (List.take (Int.toNat (x7+1)) o.l));let z1:=Edit.mk o.e.kind (Tree.mk o.e.old.kind o.e.old.words o.e.old.kids) (Tree.mk o.e.new.kind o.e.new.words o.e.new.kids) o.e.words o.e.kids o.e.list o.e.ops;let z0:=decide ((0:Int) < (o.l.length:Int));((z3=true→(InR (x7+1))∧((0:Int)≤x7∧x7≤(x7+1)∧(x7+1)≤(o.l.length:Int))∧(Z7Y (z2,64,()))∧(((!(Zl z2 64))=true→(Q .ret (L2 [(6,.c (.bool false))] [])))∧((!(Zl z2 64))=false→(InR (x7+1))∧(N0 (Za6 list o d (x7+1))))))∧(z3=false→(Tr (z0=true))∧(Tr (z0=true))∧(z0=true→Z8o (z1,()))∧(Tr (z0=true))∧(Q .ret (L2 [(6,.c (.bool (bif z0 then (Z24 z1) else false)))] []))))):
  A64 N [1,1,1,0,1,0,0,1,0,0] (Za6 list o d x7) (xT N0 (xB 0 (S64 N [1,1,1,0,1,0,1] (S64 N [1,1,1,1] Q)))):=
 Eq.mpr (by kernel_rfl) h
def ZA3(N:Nat)(list:Int)(o:Op)(d:Int):Prop:=AW (Z1 (ZkT N)) Try.f64 Zvt [] (Zk (ZhI.can (list,o,d,())) []) (EQ Try.f64 (Zm9 (list,o,d,())) [])
abbrev ZC6:Prop:=∀ (N:Nat) (list:Int) (o:Op) (d:Int) (_:Unit),ZfM (list,o,d,())→ZoT (list,o,d,()) < N+1→ZA3 N list o d
def ZkV(N:Nat):List (FuncId × Fs U):=(55,fs Zlh (fun a=> [ZdQ a,Zj4 a < N]) ZqY) ::[(65,Z4R)]
def Zvv:Zj U:=lvl [([1],[1]),([1,3,4],[1]),([1,17],[1]),([2],[]),([1,5],[1]),([1,5,22],[1]),([1,5],[1]),([1,5,32],[1]),([2],[]),([1,6],[1]),([1,6,37],[1]),([1,6],[1]),([1,6,47],[1]),([2],[]),([2],[])]
def Za9(e:Edit)(x5:Int):LSt U:=(L2 [(1,.ptr (.loc 1) 0),(5,.c (ci x5))] [(.loc 1,(enc .edit e))])
def Za8(e:Edit)(x6_a:Int):LSt U:=(L2 [(1,.ptr (.loc 1) 0),(6,.c (ci x6_a))] [(.loc 1,(enc .edit e))])
abbrev A55(N:Nat)(p:List Nat):=AW (Z1 (ZkV N)) Try.f55 Zvv p
abbrev S55(N:Nat)(p:List Nat):=SW (Z1 (ZkV N)) Try.f55 Zvv p
theorem ZCF(N:Nat)(e:Edit)(Q:QT)(h:∀ y_1,y_1=e→let z0:=decide ((2000:Int) < (Z2l y_1.ops 0));let z1:=bif z0 then true else (decide ((2000:Int) < (Z2k y_1.ops 0)));((ZiJ (y_1,()))∧((Tr ((!z0)=true))∧(z0=false→(!z0)=true)∧((z1=true→(Q .ret (L2 [(2,.c (.bool false))] [])))∧(z1=false→(Ze (A55 N [1,1,1,0,1,0,0]) (Za9 e 0) (xB 0 (S55 N [1,1,1,1] Q)))))))):
  A55 N [] (L2 [(0,.agg (enc .edit e))] []) Q:=
 Eq.mpr (by kernel_rfl) (h _ (Z9 _))
theorem Zuh(N:Nat)(e:Edit)(x5:Int)(N0:NT)(Q:QT)(h:∀ y_1,y_1=(e.kids.getD x5.toNat (KidOf.mk 0 Edit.nil))→∀ y_2,y_2=(y_1.e)→let z0:=decide (x5 < (e.kids.length:Int));((z0=true→((0:Int)≤x5∧x5 < (e.kids.length:Int))∧(ZdQ (y_2,()))∧(Zj4 (y_2,()) < N)∧(((!(Z17 y_2))=true→(Q .ret (L2 [(2,.c (.bool false))] [])))∧((!(Z17 y_2))=false→(InR (x5+1))∧(N0 (Za9 e (x5+1))))))∧(z0=false→(Ze (A55 N [1,1,1,1,0,1,0,0]) (Za8 e 0) (xB 2 (S55 N [1,1,1,1,1] Q)))))):
  A55 N [1,1,1,0,1,0,0] (Za9 e x5) (xT N0 (xB 0 (S55 N [1,1,1,1] Q))):=
 Eq.mpr (by kernel_rfl) (h _ rfl _ (Z9 _))
theorem Zug(N:Nat)(e:Edit)(x6_a:Int)(N1:NT)(Q:QT)(h:∀ y_1,y_1=(e.ops.getD x6_a.toNat Op.nil)→∀ y_2,y_2=(y_1.e)→let z0:=decide (x6_a < (e.ops.length:Int));((z0=true→((0:Int)≤x6_a∧x6_a < (e.ops.length:Int))∧(ZdQ (y_2,()))∧(Zj4 (y_2,()) < N)∧(((!(Z17 y_2))=true→(Q .ret (L2 [(2,.c (.bool false))] [])))∧((!(Z17 y_2))=false→(InR (x6_a+1))∧(N1 (Za8 e (x6_a+1))))))∧(z0=false→(Q .ret (L2 [(2,.c (.bool true))] []))))):
  A55 N [1,1,1,1,0,1,0,0] (Za8 e x6_a) (xT N1 (xB 2 (S55 N [1,1,1,1,1] Q))):=
 Eq.mpr (by kernel_rfl) (h _ rfl _ (Z9 _))
def ZAa(N:Nat)(e:Edit):Prop:=AW (Z1 (ZkV N)) Try.f55 Zvv [] (Zk (Zlh.can (e,())) []) (EQ Try.f55 (ZqY (e,())) [])
theorem Zyi(c65:CT 65 Z4R)(hb:∀ (N:Nat) (e:Edit) (_:Unit),ZdQ (e,())→Zj4 (e,()) < N+1→ZAa N e):CT 55 Zdj:=
 YB (μ:=Zj4) (l:=[(65,Z4R)]) Zm rfl (⟨c65,trivial⟩) Zvv Try.func55 rfl rfl 1 (fun _=> rfl) (by decide) (fun N ⟨e,_⟩=> hb N e ())
def ZsG:List (FuncId × Fs U):=[(54,Zdk),(23,Zdm),(55,Zdj)]
def ZyM:Zj U:=lvl [([1],[1]),([2],[])]
abbrev A15(p:List Nat):=AW (Z1 ZsG) Try.f15 ZyM p
theorem ZCT(e:Edit)(Q:QT)(h:∀ y_1,y_1=e→let z1:=decide (0≤Z18 y_1 80 3000);let z0:=bif z1 then (Za y_1 64) else false;((Zrw (y_1,()))∧(Tr (z1=true))∧(z1=true→ZbP (y_1,64,()))∧(Tr (z1=true))∧(Tr (z0=true))∧(z0=true→ZdQ (y_1,()))∧(Tr (z0=true))∧(Q .ret (L2 [(2,.c (.bool (bif z0 then (Z17 y_1) else false)))] [])))):
  A15 [] (L2 [(0,.agg (enc .edit e))] []) Q:=
 Eq.mpr (by kernel_rfl) (h _ (Z9 _))
def ZAo(e:Edit):Prop:=AW (Z1 ZsG) Try.f15 ZyM [] (Zk (Ztv.can (e,())) []) (EQ Try.f15 (ZwW (e,())) [])
theorem Zyu(c54:CT 54 Zdk)(c23:CT 23 Zdm)(c55:CT 55 Zdj)(hb:∀ (e:Edit) (_:Unit),ZiL (e,())→ZAo e):CT 15 Zdq:=
 Z7 (l:=[(54,Zdk),(23,Zdm),(55,Zdj)]) Zm rfl (⟨c54,c23,c55,trivial⟩) ZyM Try.func15 rfl rfl 1 (fun _=> rfl) (by decide) (fun ⟨e,_⟩=> hb e ())
theorem Zp2(c62:CT 62 Z4S)(c63:CT 63 ZaA)(Zzm:CT 104 Z6T)(c37:CT 37 ZaD)(c65:CT 65 Z4R)(ha:ZCb)(hb:ZC6):CT 23 Zdm∧CT 64 ZqK:=
 Z1I (μA:=Zh7) (μB:=ZoT) (l:=[(62,Z4S),(63,ZaA),(104,Z6T),(37,ZaD),(65,Z4R)]) Zm rfl (⟨c62,c63,Zzm,c37,c65,trivial⟩) Zvz Zvt Try.func23 Try.func64 rfl rfl rfl rfl 2 3 (fun _=> rfl) (fun _=> rfl) (by decide) (by decide) (fun N ⟨e,d,_⟩=> ha N e d ()) (fun N ⟨list,o,d,_⟩=> hb N list o d ())
end
end Go.AM.Ytpjenobkibfpcaa
namespace Go.AM.Ytpjenobkibfpcaa
open Go.AM Go.Proofs
theorem Z5B{n:Int}(h0:0≤n)(h1:n < 18446744073709551616):IntKind.wrap .u64 n=n:=by
 simp [IntKind.wrap,IntKind.signed,IntKind.bits];omega
theorem Z8L{n:Int}(h0:0≤n)(h1:n < 256):IntKind.wrap .u8 n=n:=by
 simp [IntKind.wrap,IntKind.signed,IntKind.bits];omega
theorem ZhV{i:Int}{j:Nat}{v:Int}{F G:Nat→Int}(hi:0≤i)(hv:v=F i.toNat):Ye i j v (if (j:Int) < i then F j else G j)=if (j:Int) < i+1 then F j else G j:=by
 unfold Ye
 by_cases h:i=j
 ·subst h
  rw [if_pos rfl,if_pos (by omega),hv]
  simp
 ·rw [if_neg h]
  by_cases h2:(j:Int) < i
  ·rw [if_pos h2,if_pos (by omega)]
  ·rw [if_neg h2,if_neg (by omega)]
theorem Znk{i:Int}{j:Nat}{F G:Nat→Int}(h:F i.toNat=G i.toNat)(hi:0≤i):(if (j:Int) < i then F j else G j)=if (j:Int) < i+1 then F j else G j:=by
 by_cases h2:(j:Int) < i
 ·rw [if_pos h2,if_pos (by omega)]
 ·by_cases h3:(j:Int)=i
  ·subst h3
   rw [if_neg h2,if_pos (by omega)]
   simpa using h.symm
  ·rw [if_neg h2,if_neg (by omega)]
theorem Z0a(w:Int)(i:Nat):0≤Z0 w i∧Z0 w i < 256:=by
 unfold Z0
 omega
theorem Z6A{w:Int}(h:0≤w)(i:Nat):0≤w / 256 ^ i:=Int.ediv_nonneg h (Int.le_of_lt (Int.pow_pos (by omega)))
theorem ZeJ{w:Int}(h:0≤w)(i:Nat):w / 256 ^ i≤w:=Int.ediv_le_self _ h
theorem ZhB(w:Int)(i:Nat):w / 256 ^ i / 256=w / 256 ^ (i+1):=by
 rw [Int.ediv_ediv_of_nonneg (Int.le_of_lt (Int.pow_pos (by omega))),Int.pow_succ]
theorem c67:Contract Try.prog cfg 67 Z5K:=by
 refine Zyc ?_
 intro w _ hp
 simp only [Z9m] at hp
 refine ZCv _ _ ?_;(try simp only [vcT,forall_eq])
 refine Z6 (ι:=Int) (fun i=> Z6s w (w / 256 ^ i.toNat) i (if ((0:Nat):Int) < i then Z0 w 0 else 0) (if ((1:Nat):Int) < i then Z0 w 1 else 0) (if ((2:Nat):Int) < i then Z0 w 2 else 0) (if ((3:Nat):Int) < i then Z0 w 3 else 0)
  (if ((4:Nat):Int) < i then Z0 w 4 else 0) (if ((5:Nat):Int) < i then Z0 w 5 else 0) (if ((6:Nat):Int) < i then Z0 w 6 else 0) (if ((7:Nat):Int) < i then Z0 w 7 else 0)) (fun i=> 0≤i∧i≤8) (fun i=> (8 - i).toNat) 0 ?_ ⟨by omega,by omega⟩ ?_
 ·simp [Z6s]
 ·rintro i ⟨h1,h2⟩
  refine Zu7 _ _ _ _ _ _ _ _ _ _ _ _ _ ?_;(try simp only [vcT,forall_eq])
  (simp only [vcS]);(try simp only [vcT])
  refine ⟨fun hc=> ⟨by omega,⟨h1,by omega⟩,by omega,by unfold InR;omega,i+1,?_,⟨by omega,by omega⟩,by omega⟩,fun hc=> ?_⟩
  ·have hd:=Z6A hp.1 i.toNat
   have hl:=ZeJ hp.1 i.toNat
   have e1:IntKind.wrap .u64 (Int.tdiv (w / 256 ^ i.toNat) 256)=w / 256 ^ (i+1).toNat:=by
    rw [Int.tdiv_eq_ediv_of_nonneg hd,ZhB,show i.toNat+1=(i+1).toNat by omega]
    exact Z5B (Z6A hp.1 _) (Int.lt_of_le_of_lt (ZeJ hp.1 _) hp.2)
   have e2:IntKind.wrap .u8 (Int.tmod (w / 256 ^ i.toNat) 256)=Z0 w i.toNat:=by
    rw [Int.tmod_eq_emod_of_nonneg hd]
    exact Z8L (Z0a w _).1 (Z0a w _).2
   rw [e1]
   have st:∀ j:Nat,Ye i j (IntKind.wrap .u8 (Int.tmod (w / 256 ^ i.toNat) 256)) (if (j:Int) < i then Z0 w j else 0)=if (j:Int) < i+1 then Z0 w j else 0:=fun j=> ZhV (F:=Z0 w) (G:=fun _=> 0) h1 e2
   rw [st 0,st 1,st 2,st 3,st 4,st 5,st 6,st 7]
  ·have:i=8:=by omega
   subst this
   simp only [ZqW]
   exact ⟨⟨rfl,⟨⟨rfl,rfl⟩,⟨rfl,rfl⟩,⟨rfl,rfl⟩,⟨rfl,rfl⟩,⟨rfl,rfl⟩,⟨rfl,rfl⟩,⟨rfl,rfl⟩,⟨rfl,rfl⟩,trivial⟩,trivial⟩,trivial⟩
theorem c68:Contract Try.prog cfg 68 Z5J:=by
 refine Zyb ?_
 intro m i _ hp
 simp only [ZfL] at hp
 refine ZCu _ _ _ ?_;(try simp only [vcT,forall_eq])
 refine Z6 (ι:=Int) (fun k=> Za1 m i (m / 2 ^ k.toNat) k) (fun k=> 0≤k∧k≤i) (fun k=> (i - k).toNat) 0 ?_ ⟨by omega,by omega⟩ ?_
 ·simp
 ·rintro k ⟨h1,h2⟩
  refine Zu6 _ _ _ _ _ _ ?_;(try simp only [vcT,forall_eq])
  have hd:0≤m / 2 ^ k.toNat:=Int.ediv_nonneg hp.1.1 (Int.le_of_lt (Int.pow_pos (by omega)))
  have hl:m / 2 ^ k.toNat≤m:=Int.ediv_le_self _ hp.1.1
  (simp only [vcS])
  refine ⟨fun hc=> ⟨by omega,by unfold InR;omega,k+1,?_,⟨by omega,by omega⟩,by omega⟩,fun hc=> ⟨by omega,Zi rfl ?_⟩⟩
  ·have e:IntKind.wrap .u8 (Int.tdiv (m / 2 ^ k.toNat) 2)=m / 2 ^ (k+1).toNat:=by
    rw [Int.tdiv_eq_ediv_of_nonneg hd,Int.ediv_ediv_of_nonneg (Int.le_of_lt (Int.pow_pos (by omega))),show (2:Int) ^ k.toNat*2=2 ^ (k+1).toNat by rw [←Int.pow_succ];congr 1;omega]
    refine Z8L (Int.ediv_nonneg hp.1.1 (Int.le_of_lt (Int.pow_pos (by omega)))) (Int.lt_of_le_of_lt (Int.ediv_le_self _ hp.1.1) hp.1.2)
   rw [e]
  ·have:k=i:=by omega
   subst this
   rw [Int.tmod_eq_emod_of_nonneg hd]
   try rfl
def Zcr(f:Nat→Int):Nat→Int
 | 0=> 0
 | k+1=> f (7 - k)+256*Zcr f k
theorem Zd9{f:Nat→Int}(h:∀ i,0≤f i∧f i < 256):∀ k,0≤Zcr f k∧Zcr f k < 256 ^ k
 | 0=> by simp [Zcr]
 | k+1=> by
  have:=Zd9 h k
  have h2:=h (7 - k)
  simp only [Zcr,Int.pow_succ]
  omega
theorem ZxI(f:Nat→Int):Zcr f 8=of8 f:=by simp [Zcr,of8]
theorem c69:Contract Try.prog cfg 69 Z5I:=by
 refine Zya ?_
 intro b z _ hp
 obtain ⟨rfl,hl,hb⟩:=hp
 dsimp only at hl hb
 refine ZCt _ _ _ ?_;(try simp only [vcT,forall_eq])
 have hf:∀ i,0≤b.getD i 0∧b.getD i 0 < 256:=by
  intro i
  by_cases hi:i < b.length
  ·have:b.getD i 0∈b:=by
    simp only [List.getD,List.getElem?_eq_getElem hi,Option.getD_some]
    exact List.getElem_mem hi
   exact hb _ this
  ·rw [List.getD,List.getElem?_eq_none (by omega)];simp
 refine Z6 (ι:=Int) (fun i=> Za0 b 0 (Zcr (fun i=> b.getD i 0) (7 - i).toNat) i) (fun i=> -1≤i∧i≤7) (fun i=> (i+1).toNat) 7 rfl ⟨by omega,by omega⟩ ?_
 rintro i ⟨h1,h2⟩
 refine Zu5 _ _ _ _ _ _ ?_;(try simp only [vcT,forall_eq])
 (simp only [vcS]);(try simp only [vcT])
 have hr:=Zd9 (f:=fun i=> b.getD i 0) hf (7 - i).toNat
 refine ⟨fun hc=> ⟨by unfold InR;omega,by omega,by unfold InR;omega,i - 1,?_,⟨by omega,by omega⟩,by omega⟩,fun hc=> Yn rfl ?_⟩
 ·have hp7:(256:Int) ^ (7 - i).toNat≤256 ^ 7:=by
   have:(256:Int) ^ (7 - i).toNat=((256 ^ (7 - i).toNat:Nat):Int):=by simp
   rw [this]
   have h7:(256:Nat) ^ (7 - i).toNat≤256 ^ 7:=Nat.pow_le_pow_right (by omega) (by omega)
   have:((256:Nat) ^ 7:Nat)=72057594037927936:=by decide
   omega
  have e7:(256:Int) ^ 7=72057594037927936:=by decide
  have hfi:=hf i.toNat
  have e:Zcr (fun i=> b.getD i 0) (7 - (i - 1)).toNat=b.getD i.toNat 0+256*Zcr (fun i=> b.getD i 0) (7 - i).toNat:=by
   rw [show (7 - (i - 1)).toNat=(7 - i).toNat+1 by omega]
   simp only [Zcr]
   rw [show 7 - (7 - i).toNat=i.toNat by omega]
  rw [e,show (0+i).toNat=i.toNat by omega,Z5B (n:=Zcr (fun i=> b.getD i 0) (7 - i).toNat*256) (by omega) (by omega),Z5B (n:=b.getD i.toNat 0) (by omega) (by omega),Z5B (by omega) (by omega)]
  congr 1
  omega
 ·have:i= -1:=by omega
  subst this
  exact ZxI _
theorem Znl(f:Nat→Int){i:Nat}(h:i < 8):List.getD [f 0,f 1,f 2,f 3,f 4,f 5,f 6,f 7] i 0=f i:=by
 match i,h with
 | 0,_=> rfl
 | 1,_=> rfl
 | 2,_=> rfl
 | 3,_=> rfl
 | 4,_=> rfl
 | 5,_=> rfl
 | 6,_=> rfl
 | 7,_=> rfl
theorem Z6i(a b m:Int)(i:Nat):0≤J0 a b m i∧J0 a b m i < 256:=by
 unfold J0
 split
 ·exact Z0a _ _
 ·exact Z0a _ _
theorem Zpp:Contract Try.prog cfg 103 Z2d:=by
 refine Zvh c67 c68 c69 ?_
 intro a b m _ hp
 simp only [Z66] at hp
 refine ZBl _ _ _ _ ?_;(try simp only [vcT,forall_eq])
 refine ⟨hp.1,hp.2.1,?_⟩
 refine Z6 (ι:=Int) (fun i=> Z2S a b m i (if ((0:Nat):Int) < i then J0 a b m 0 else Z0 a 0) (if ((1:Nat):Int) < i then J0 a b m 1 else Z0 a 1) (if ((2:Nat):Int) < i then J0 a b m 2 else Z0 a 2) (if ((3:Nat):Int) < i then J0 a b m 3 else Z0 a 3)
  (if ((4:Nat):Int) < i then J0 a b m 4 else Z0 a 4) (if ((5:Nat):Int) < i then J0 a b m 5 else Z0 a 5) (if ((6:Nat):Int) < i then J0 a b m 6 else Z0 a 6) (if ((7:Nat):Int) < i then J0 a b m 7 else Z0 a 7)) (fun i=> 0≤i∧i≤8) (fun i=> (8 - i).toNat) 0 ?_ ⟨by omega,by omega⟩ ?_
 ·simp [Z2S]
 ·rintro i ⟨h1,h2⟩
  refine Zqt _ _ _ _ _ _ _ _ _ _ _ _ _ _ ?_;(try simp only [vcT,forall_eq])
  (simp only [vcS]);(try simp only [vcT])
  refine ⟨fun hc=> ⟨⟨hp.2.2,h1,by dsimp only;omega⟩,fun hn=> ⟨⟨h1,by omega⟩,⟨h1,by omega⟩,by unfold InR;omega,i+1,?_,⟨by omega,by omega⟩,by omega⟩,fun hn=> ⟨by unfold InR;omega,i+1,?_,⟨by omega,by omega⟩,by omega⟩⟩,fun hc=> ?_⟩
  ·rw [Znl (Z0 b) (by omega)]
   have hv:Z0 b i.toNat=J0 a b m i.toNat:=by
    unfold J0
    rw [show ((i.toNat:Nat):Int)=i by omega,hn]
    try rfl
   have st:∀ j:Nat,Ye i j (Z0 b i.toNat) (if (j:Int) < i then J0 a b m j else Z0 a j)=if (j:Int) < i+1 then J0 a b m j else Z0 a j:=fun j=> ZhV (F:=J0 a b m) (G:=Z0 a) h1 hv
   rw [st 0,st 1,st 2,st 3,st 4,st 5,st 6,st 7]
  ·have hv:J0 a b m i.toNat=Z0 a i.toNat:=by
    unfold J0
    rw [show ((i.toNat:Nat):Int)=i by omega,hn]
    try rfl
   have st:∀ j:Nat,(if (j:Int) < i then J0 a b m j else Z0 a j)=if (j:Int) < i+1 then J0 a b m j else Z0 a j:=fun j=> Znk (F:=J0 a b m) (G:=Z0 a) hv h1
   rw [st 0,st 1,st 2,st 3,st 4,st 5,st 6,st 7]
  ·have:i=8:=by omega
   subst this
   refine ⟨⟨rfl,rfl,?_⟩,Yn rfl ?_⟩
   ·intro x hx
    simp at hx
    rcases hx with rfl | rfl | rfl | rfl | rfl | rfl | rfl | rfl <;> exact Z6i _ _ _ _
   ·try rfl
end Go.AM.Ytpjenobkibfpcaa
namespace Go.AM.Ytpjenobkibfpcaa
open Go.AM Go.Proofs
theorem Zpf{α:Type}{l:List α}{i:Nat}(h:i < l.length)(d:α):l.drop i=l.getD i d ::l.drop (i+1):=by
 rw [List.drop_eq_getElem_cons h]
 simp [List.getD,h]
theorem Y1{α:Type}{l:List α}{i:Int}(h0:0≤i)(h:i < l.length)(d:α):l.drop i.toNat=l.getD i.toNat d ::l.drop (i+1).toNat:=by
 rw [Zpf (by omega) d,show i.toNat+1=(i+1).toNat by omega]
theorem Zg{α:Type}{l:List α}{i:Nat}(h:i < l.length)(d:α):l.getD i d∈l:=by
 simp only [List.getD,List.getElem?_eq_getElem h,Option.getD_some]
 exact List.getElem_mem h
theorem ZQ(t:Tree):1≤Zo t:=by cases t;simp only [Zo];omega
theorem Z7h(e:Edit):1≤Z5 e:=by cases e;simp only [Z5];omega
theorem Z4l(k:Kid):YI k=Z5 k.e:=by cases k;rfl
theorem ZI(o:Op):Zs o=Zf o.l+Z5 o.e:=by cases o;rfl
theorem YJ:∀ {ks:List Tree} {t:Tree},t∈ks→Zo t≤Zf ks
 | x ::r,t,h=> by
  simp only [Zf]
  rcases List.mem_cons.1 h with rfl | h
  ·omega
  ·have:=YJ h;omega
theorem YM:∀ {ks:List Kid} {k:Kid},k∈ks→Z5 k.e≤Zt ks
 | x ::r,k,h=> by
  simp only [Zt,Z4l]
  rcases List.mem_cons.1 h with rfl | h
  ·omega
  ·have:=YM h;omega
theorem ZL:∀ {os:List Op} {o:Op},o∈os→Zs o≤Zh os
 | x ::r,o,h=> by
  simp only [Zh]
  rcases List.mem_cons.1 h with rfl | h
  ·omega
  ·have:=ZL h;omega
theorem Ym:∀ (ks:List Kid),ks.length≤Zt ks
 | []=> by simp [Zt]
 | k ::r=> by
  have:=Ym r
  have:=Z7h k.e
  simp only [Zt,Z4l,List.length_cons]
  omega
theorem ZM:∀ (os:List Op),os.length≤Zh os
 | []=> by simp [Zh]
 | o ::r=> by
  have:=ZM r
  have:=Z7h o.e
  simp only [Zh,ZI,List.length_cons]
  omega
theorem Zds:∀ {ks:List Tree} {t:Tree},Z3P ks→t∈ks→Z5P t
 | x ::r,t,hs,h=> by
  simp only [Z3P] at hs
  rcases List.mem_cons.1 h with rfl | h
  ·exact hs.1
  ·exact Zds hs.2 h
theorem Zbw:∀ {ks:List Kid} {k:Kid},Z6V ks→k∈ks→Z2Y k.e
 | x ::r,k,hs,h=> by
  simp only [Z6V] at hs
  rcases List.mem_cons.1 h with rfl | h
  ·have:=hs.1;obtain ⟨a,e⟩:=k;exact this
  ·exact Zbw hs.2 h
theorem Zbv:∀ {os:List Op} {o:Op},Z6U os→o∈os→o.l.length≤17592186044416∧Z3P o.l∧Z2Y o.e
 | x ::r,o,hs,h=> by
  simp only [Z6U] at hs
  rcases List.mem_cons.1 h with rfl | h
  ·have:=hs.1;obtain ⟨a,b,c,e⟩:=o;exact this
  ·exact Zbv hs.2 h
theorem Jd:∀ {ks:List Tree} {t:Tree},Yp ks→t∈ks→rng t
 | x ::r,t,hs,h=> by
  simp only [Yp] at hs
  rcases List.mem_cons.1 h with rfl | h
  ·exact hs.1
  ·exact Jd hs.2 h
theorem J1:∀ {ks:List Kid} {k:Kid},Z11 ks→k∈ks→isI k.at_∧YT k.e
 | x ::r,k,hs,h=> by
  simp only [Z11] at hs
  rcases List.mem_cons.1 h with rfl | h
  ·have:=hs.1;obtain ⟨a,e⟩:=k;exact this
  ·exact J1 hs.2 h
theorem Z06:∀ {os:List Op} {o:Op},Z0j os→o∈os→YH o
 | x ::r,o,hs,h=> by
  simp only [Z0j] at hs
  rcases List.mem_cons.1 h with rfl | h
  ·exact hs.1
  ·exact Z06 hs.2 h
theorem JD{o:Op}(h:YH o):isI o.kind∧isI o.n∧Yp o.l∧YT o.e:=by obtain ⟨a,b,c,e⟩:=o;exact h
theorem Zp5(k:Kid)(d n:Int):Z3H k d n=Z18 k.e d n:=by cases k;rfl
theorem Zso(o:Op)(d n:Int):Z6n o d n=if Zw o.l 80 n < 0 then Zw o.l 80 n else Z18 o.e d (Zw o.l 80 n):=by cases o;rfl
theorem ZaE(t:Tree)(n:Int)(h: -1≤n): -1≤sh1 t n∧sh1 t n≤n:=by
 unfold sh1
 split
 ·omega
 ·have:=YZ t 80 n;omega
mutual
theorem Z1S:∀ (e:Edit) (d n:Int),-1≤Z18 e d n∧Z18 e d n≤max n (-1)
 | .mk _ o nw w ks _ os,d,n=> by
  simp only [Z18]
  split
  ·omega
  ·have h1:=YZ o 80 (n - 1 - w.length - os.length)
   have h2:=ZaE nw _ h1.1
   have h3:=Z2n ks (d - 1) _ h2.1
   have h4:=Z2m os (d - 1) _ h3.1
   omega
theorem Z2n:∀ (ks:List (KidOf Edit)) (d n:Int),-1≤n→-1≤Z02 ks d n∧Z02 ks d n≤n
 | [],d,n,h=> by simp only [Z02];omega
 | k ::r,d,n,h=> by
  simp only [Z02]
  split
  ·omega
  ·have h1:=Z83 k d n
   have h2:=Z2n r d _ h1.1
   omega
theorem Z83:∀ (k:KidOf Edit) (d n:Int),-1≤Z3H k d n∧Z3H k d n≤max n (-1)
 | ⟨_,e⟩,d,n=> by
  simp only [Z3H]
  exact Z1S e d n
theorem Z2m:∀ (os:List (OpOf Edit)) (d n:Int),-1≤n→-1≤Z0f os d n∧Z0f os d n≤n
 | [],d,n,h=> by simp only [Z0f];omega
 | o ::r,d,n,h=> by
  simp only [Z0f]
  split
  ·omega
  ·have h1:=Z9P o d n h
   have h2:=Z2m r d _ h1.1
   omega
theorem Z9P:∀ (o:OpOf Edit) (d n:Int),-1≤n→-1≤Z6n o d n∧Z6n o d n≤n
 | ⟨_,_,l,e⟩,d,n,h=> by
  simp only [Z6n]
  have h1:=Z0Z l 80 n h
  split
  ·omega
  ·have h2:=Z1S e d (Zw l 80 n)
   omega
end
theorem ZqN{t:Tree}{n:Int}(h:0≤sh1 t n):(Zo t:Int)+sh1 t n≤n:=by
 unfold sh1 at*
 split at h
 ·omega
 ·rename_i hn
  rw [if_neg hn]
  exact Z51 t 80 n h
mutual
theorem Z8B:∀ (e:Edit) (d n:Int),0≤Z18 e d n→(Z5 e:Int)+Z18 e d n≤n
 | .mk _ o nw w ks _ os,d,n,h=> by
  simp only [Z18] at h ⊢
  split at h
  ·omega
  ·rename_i hc
   rw [if_neg hc]
   have r1:=YZ o 80 (n - 1 - w.length - os.length)
   have r2:=ZaE nw _ r1.1
   have r3:=Z2n ks (d - 1) _ r2.1
   have r4:=Z2m os (d - 1) _ r3.1
   have m4:=Zcc os (d - 1) _ h
   have m3:=Zcd ks (d - 1) (sh1 nw (ZZ o 80 (n - 1 - w.length - os.length))) (by omega)
   have m2:=ZqN (t:=nw) (n:=ZZ o 80 (n - 1 - w.length - os.length)) (by omega)
   have m1:=Z51 o 80 (n - 1 - w.length - os.length) (by omega)
   simp only [Z5]
   omega
theorem Zcd:∀ (ks:List (KidOf Edit)) (d n:Int),0≤Z02 ks d n→(Zt ks:Int)+Z02 ks d n≤n
 | [],d,n,h=> by simp only [Z02,Zt];omega
 | k ::r,d,n,h=> by
  simp only [Z02] at h ⊢
  split at h
  ·omega
  ·rename_i hc
   rw [if_neg hc]
   have r1:=Z83 k d n
   have r2:=Z2n r d _ r1.1
   have m2:=Zcd r d _ h
   have m1:=Zhd k d n (by omega)
   simp only [Zt]
   omega
theorem Zhd:∀ (k:KidOf Edit) (d n:Int),0≤Z3H k d n→(YI k:Int)+Z3H k d n≤n
 | ⟨_,e⟩,d,n,h=> by
  simp only [Z3H,YI] at h ⊢
  exact Z8B e d n h
theorem Zcc:∀ (os:List (OpOf Edit)) (d n:Int),0≤Z0f os d n→(Zh os:Int)+Z0f os d n≤n
 | [],d,n,h=> by simp only [Z0f,Zh];omega
 | o ::r,d,n,h=> by
  simp only [Z0f] at h ⊢
  split at h
  ·omega
  ·rename_i hc
   rw [if_neg hc]
   have r1:=Z9P o d n (by omega)
   have r2:=Z2m r d _ r1.1
   have m2:=Zcc r d _ h
   have m1:=Zjk o d n (by omega)
   simp only [Zh]
   omega
theorem Zjk:∀ (o:OpOf Edit) (d n:Int),0≤Z6n o d n→(Zs o:Int)+Z6n o d n≤n
 | ⟨_,_,l,e⟩,d,n,h=> by
  simp only [Z6n,Zs] at h ⊢
  split at h
  ·omega
  ·rename_i hc
   rw [if_neg hc]
   have m2:=Z8B e d _ h
   have r2:=Z1S e d (Zw l 80 n)
   have m1:=Z3Q l 80 n (by omega)
   omega
end
theorem Zbj{e:Edit}(h:0≤Z18 e 80 3000):Z5 e≤3000:=by
 have:=Z8B e 80 3000 h
 omega
end Go.AM.Ytpjenobkibfpcaa
namespace Go.AM.Ytpjenobkibfpcaa
open Go.AM Go.Proofs
theorem Zsn(t:Tree):t.words.length+t.kids.length < Zo t:=by
 obtain ⟨k,w,ks⟩:=t
 have:=ZA ks
 simp only [Zo,Tree.words_mk,Tree.kids_mk]
 omega
theorem Yg(e:Edit):Zo e.old+Zo e.new+e.words.length+e.ops.length+Zt e.kids+Zh e.ops < Z5 e:=by
 obtain ⟨k,o,n,w,ks,l,os⟩:=e
 simp only [Z5,Edit.old_mk,Edit.new_mk,Edit.words_mk,Edit.ops_mk,Edit.kids_mk]
 omega
theorem c62:Contract Try.prog cfg 62 Z4S:=by
 refine Zyg ?_
 intro t _ hp
 simp only [Z61] at hp
 have:=Zsn t
 refine ZCA t _ ?_;(try simp only [vcT,forall_eq])
 refine ⟨fun _=> by unfold InR;omega,Zi rfl ?_⟩
 rw [Bool.eq_iff_iff]
 simp only [JR]
 (simp only [vcS])
 omega
theorem c63:Contract Try.prog cfg 63 ZaA:=by
 refine Zyf Zpp ?_
 intro w m _ hp
 refine ZCz _ _ _ ?_;(try simp only [vcT,forall_eq])
 refine ⟨⟨hp.1,by dsimp only;omega,hp.2⟩,Zi rfl ?_⟩
 try rfl
theorem Zzm:Contract Try.prog cfg 104 Z6T:=by
 refine Zvg c62 ?_
 intro e _ hp
 simp only [Z8o] at hp
 have h1:=Yg e
 have h2:=Ym e.kids
 refine ZBk e _ ?_;(try simp only [vcT,forall_eq])
 try (simp only [Tree.eta,Edit.eta,Tree.kind_mk,Tree.words_mk,Tree.kids_mk])
 refine ⟨fun _=> by simp only [Z61];omega,fun _=> by simp only [Z61];omega,fun _=> by unfold InR;omega,fun _=> by unfold InR;omega,Zi rfl ?_⟩
 rw [Bool.eq_iff_iff]
 simp only [Z24]
 (simp only [vcS])
 constructor
 ·rintro ⟨⟨⟨⟨h3,h4⟩,h5⟩,h6⟩,h7⟩;exact ⟨⟨⟨h3,h4⟩,h5⟩,by omega⟩
 ·rintro ⟨⟨⟨h3,h4⟩,h5⟩,h6⟩;exact ⟨⟨⟨⟨h3,h4⟩,h5⟩,by omega⟩,by omega⟩
theorem ZyN (e:Edit) (x4 x5 i:Int) (N0:LSt U→Prop) (Q:AExit→LSt U→Prop) (h1:0≤x4∧x4≤1048576) (h2:0≤x5∧x5≤1048576) (hi:0≤i) (hlen:e.ops.length≤20000000000)
  (ho:∀ o∈e.ops,(0≤o.n∧o.n≤1048576)∧o.l.length≤20000000000)
  (h:i < e.ops.length→N0 (Z3i e (min (if (e.ops.getD i.toNat Op.nil).kind=2 then x4 else x4+Z2 (e.ops.getD i.toNat Op.nil)) 1048576) (min (if (e.ops.getD i.toNat Op.nil).kind=1 then x5 else x5+Z2 (e.ops.getD i.toNat Op.nil)) 1048576) (i+1)))
  (h':¬i < e.ops.length→Q .ret (⟨[(2,.c (.int .i64 x4)),(3,.c (.int .i64 x5))],[],[]⟩:LSt U)):ZzC e x4 x5 i N0 Q:=by
 refine Zu8 _ _ _ _ _ _ ?_;(try simp only [vcT,forall_eq])
 (simp only [vcS]);(try simp only [vcT])
 refine ⟨fun hc=> ?_,h'⟩
 have hn:=h hc
 have hm:=ho _ (Zg (l:=e.ops) (i:=i.toNat) (by omega) Op.nil)
 have k1:∀ k,k=Z2 (e.ops.getD i.toNat Op.nil)→ZzG e x4 x5 i k N0 Q:=by
  intro k hk
  have hkr:0≤k∧k≤60000000000:=by
   rw [hk];unfold Z2;split <;> omega
  have k2:∀ y,y=(if (e.ops.getD i.toNat Op.nil).kind=2 then x4 else x4+k)→ZzF e x5 i k y N0 Q:=by
   intro y hy
   have hyr:0≤y∧y≤100000000000:=by rw [hy];split <;> omega
   have k3:∀ z,z=(if (e.ops.getD i.toNat Op.nil).kind=1 then x5 else x5+k)→ZzE e i k y z N0 Q:=by
    intro z hz
    have hzr:0≤z∧z≤100000000000:=by rw [hz];split <;> omega
    have k4:∀ u,u=min y 1048576→ZzD e i y z u N0 Q:=by
     intro u hu
     refine Zu9 _ _ _ _ _ _ _ ?_;(try simp only [vcT,forall_eq])
     (simp only [vcS]);(try simp only [vcT])
     rw [←hk,←hy,←hz,←hu] at hn
     refine ⟨fun hq=> ⟨by unfold InR;omega,?_⟩,fun hq=> ⟨by unfold InR;omega,?_⟩⟩
     ·rw [show min z 1048576=1048576 by omega] at hn;exact hn
     ·rw [show min z 1048576=z by omega] at hn;exact hn
    refine Zua _ _ _ _ _ _ _ ?_;(try simp only [vcT,forall_eq])
    (simp only [vcS]);(try simp only [vcT])
    exact ⟨fun hq=> k4 _ (by omega),fun hq=> k4 _ (by omega)⟩
   refine Zub _ _ _ _ _ _ _ ?_;(try simp only [vcT,forall_eq])
   (simp only [vcS]);(try simp only [vcT])
   exact ⟨fun hq=> ⟨by unfold InR;omega,k3 _ (by rw [if_neg hq])⟩,fun hq=> k3 _ (by rw [if_pos hq])⟩
  refine Zuc _ _ _ _ _ _ _ ?_;(try simp only [vcT,forall_eq])
  (simp only [vcS]);(try simp only [vcT])
  exact ⟨fun hq=> ⟨by unfold InR;omega,k2 _ (by rw [if_neg hq])⟩,fun hq=> k2 _ (by rw [if_pos hq])⟩
 exact ⟨⟨hi,hc⟩,by unfold InR;omega,fun hq=> k1 _ (by unfold Z2;rw [if_pos hq]),fun hq=> k1 _ (by unfold Z2;rw [if_neg hq])⟩
theorem c65:Contract Try.prog cfg 65 Z4R:=by
 refine Zye ?_
 intro e _ hp
 simp only [ZiJ] at hp
 have h1:=Yg e
 refine ZCx e _ ?_;(try simp only [vcT,forall_eq])
 refine Z6 (ι:=Int × Int × Int) (fun p=> Z3i e p.1 p.2.1 p.2.2) (fun p=> 0≤p.2.2∧p.2.2≤e.ops.length∧(0≤p.1∧p.1≤1048576)∧(0≤p.2.1∧p.2.1≤1048576)∧Z2l (e.ops.drop p.2.2.toNat) p.1=Z2l e.ops 0∧Z2k (e.ops.drop p.2.2.toNat) p.2.1=Z2k e.ops 0) (fun p=> ((e.ops.length:Int) - p.2.2).toNat) (0,0,0) rfl ⟨by dsimp only;omega,by dsimp only;omega,by dsimp only;omega,by dsimp only;omega,by simp,by simp⟩ ?_
 rintro ⟨x4,x5,i⟩ ⟨h2,h3,h4,h5,h6,h7⟩
 dsimp only at*
 have ho:∀ o∈e.ops,(0≤o.n∧o.n≤1048576)∧o.l.length≤20000000000:=by
  intro o hm
  refine ⟨hp.2 o hm,?_⟩
  have a1:=ZL hm
  have a2:=ZA o.l
  rw [ZI] at a1
  omega
 refine ZyN e x4 x5 i _ _ h4 h5 h2 (by omega) ho (fun hc=> ⟨(_,_,i+1),rfl,⟨by dsimp only;omega,by dsimp only;omega,?_,?_,?_,?_⟩,by dsimp only;omega⟩) (fun hc=> ?_)
 ·have hm:=ho _ (Zg (l:=e.ops) (i:=i.toNat) (by omega) Op.nil)
  dsimp only
  unfold Z2
  split <;> (try split) <;> omega
 ·have hm:=ho _ (Zg (l:=e.ops) (i:=i.toNat) (by omega) Op.nil)
  dsimp only
  unfold Z2
  split <;> (try split) <;> omega
 ·rw [Y1 h2 hc Op.nil] at h6
  exact h6
 ·rw [Y1 h2 hc Op.nil] at h7
  exact h7
 ·rw [List.drop_of_length_le (by omega)] at h6 h7
  simp only [Z2l,Z2k] at h6 h7
  simp only [ZqX,←h6,←h7]
  exact ⟨⟨rfl,⟨⟨rfl,rfl⟩,trivial⟩,rfl,⟨⟨rfl,rfl⟩,trivial⟩,trivial⟩,trivial⟩
theorem ZkH{l:List Kid}{d n:Int}(h:n < 0):Z02 l d n=n:=by cases l <;> simp [Z02,h]
theorem ZkG{l:List Op}{d n:Int}(h:n < 0):Z0f l d n=n:=by cases l <;> simp [Z0f,h]
theorem ZgA{l:List Tree}{d n:Int}(h:n < 0):Zw l d n=n:=by cases l <;> simp [Zw,h]
theorem Zoo{e:Edit}(h:Z2Y e):Z5P e.old∧Z5P e.new∧e.words.length≤17592186044416∧e.kids.length≤17592186044416∧e.ops.length≤17592186044416∧Z6V e.kids∧Z6U e.ops:=by
 obtain ⟨k,o,n,w,ks,l,os⟩:=e;exact h
theorem Zsp(e:Edit)(d n:Int):Z18 e d n=if d=0∨n - 1 - e.words.length - e.ops.length < 0 then -1 else Z0f e.ops (d - 1) (Z02 e.kids (d - 1) (sh1 e.new (ZZ e.old 80 (n - 1 - e.words.length - e.ops.length)))):=by
 obtain ⟨k,o,nw,w,ks,l,os⟩:=e;rfl
theorem c90:Contract Try.prog cfg 90 Zdd:=by
 refine Zy3 c78 ?_
 rintro N e d n _ hp hN
 simp only [ZdP,Zj1] at hp hN
 obtain ⟨hs,hd0,hd1,hn0,hn1⟩:=hp
 obtain ⟨so,sn,lw,lk,lo,sk,sos⟩:=Zoo hs
 have hme:=Yg e
 have hres:=Zsp e d n
 refine ZCk N e d n _ ?_;(try simp only [vcT,forall_eq])
 (simp only [vcS]);(try simp only [vcT])
 try (simp only [Tree.eta,Edit.eta,Tree.kind_mk,Tree.words_mk,Tree.kids_mk])
 refine ⟨by unfold InR;omega,by unfold InR;omega,by unfold InR;omega,fun hc=> Yn rfl (by rw [hres,if_pos hc]),fun hc=> ?_⟩
 rw [if_neg (by omega)] at hres
 have r1:=YZ e.old 80 (n - 1 - e.words.length - e.ops.length)
 have p68:∀ t m,Z5P t→-1≤m→m≤4611686018427387904→ZbM (t,80,m,()):=fun t m h1 h2 h3=> ⟨h1,by dsimp only;omega,by dsimp only;omega,h2,h3⟩
 have k0:∀ x,x=sh1 e.new (ZZ e.old 80 (n - 1 - e.words.length - e.ops.length))→ZzB N e d n x (Ys cfg Try.f90.ntmps Try.f90.results.toList (Zm8 (e,d,n,())) []):=by
  intro x hx
  have rx:=ZaE e.new _ r1.1
  rw [←hx] at rx hres
  refine ZtV N e d n x _ ?_;(try simp only [vcT,forall_eq])
  refine Z6 (ι:=Int × Int) (fun p=> Z9S e d n p.1 p.2) (fun p=> 0≤p.2∧p.2≤e.kids.length∧-1≤p.1∧p.1≤4611686018427387904∧Z02 (e.kids.drop p.2.toNat) (d - 1) p.1=Z02 e.kids (d - 1) x) (fun p=> ((e.kids.length:Int) - p.2).toNat) (x,0) rfl ⟨by dsimp only;omega,by dsimp only;omega,by dsimp only;omega,by dsimp only;omega,by simp⟩ ?_
  rintro ⟨y,i⟩ ⟨h1,h2,h3,h4,h5⟩
  dsimp only at*
  refine ZtU N e d n y i _ _ ?_;(try simp only [vcT,forall_eq])
  (simp only [vcS]);(try simp only [vcT])
  try (simp only [Tree.eta,Edit.eta,Tree.kind_mk,Tree.words_mk,Tree.kids_mk])
  refine ⟨fun hi=> ?_,fun hi=> ?_⟩
  ·have hmem:=Zg (l:=e.kids) (i:=i.toNat) (by omega) (KidOf.mk 0 Edit.nil)
   have hsm:=Zbw sk hmem
   have hmm:=YM hmem
   rw [Y1 h1 hi.1 (KidOf.mk 0 Edit.nil)] at h5
   simp only [Z02] at h5
   rw [if_neg (by omega),Zp5] at h5
   have rr:=Z1S (e.kids.getD i.toNat (KidOf.mk 0 Edit.nil)).e (d - 1) y
   exact ⟨⟨h1,hi.1⟩,by unfold InR;omega,⟨hsm,by dsimp only;omega,by dsimp only;omega,h3,h4⟩,by simp only [Zj1];omega,by unfold InR;omega,(_,i+1),rfl,⟨by dsimp only;omega,by dsimp only;omega,by dsimp only;omega,by dsimp only;omega,h5⟩,by dsimp only;omega⟩
  ·have hy:Z02 e.kids (d - 1) x=y:=by
    rw [←h5]
    by_cases hlt:i < e.kids.length
    ·exact ZkH (by omega)
    ·rw [List.drop_of_length_le (by omega)];try rfl
   rw [hy] at hres
   refine Z6 (ι:=Int × Int) (fun p=> Z6r e d n p.1 p.2) (fun p=> 0≤p.2∧p.2≤e.ops.length∧-1≤p.1∧p.1≤4611686018427387904∧Z0f (e.ops.drop p.2.toNat) (d - 1) p.1=Z0f e.ops (d - 1) y) (fun p=> ((e.ops.length:Int) - p.2).toNat) (y,0) rfl ⟨by dsimp only;omega,by dsimp only;omega,h3,h4,by simp⟩ ?_
   rintro ⟨z,j⟩ ⟨h6,h7,h8,h9,h10⟩
   dsimp only at*
   refine ZtT N e d n z j _ _ ?_;(try simp only [vcT,forall_eq])
   (simp only [vcS]);(try simp only [vcT])
   refine ⟨fun hj=> ?_,fun hj=> ?_⟩
   ·have hmem:=Zg (l:=e.ops) (i:=j.toNat) (by omega) Op.nil
    have hsm:=Zbv sos hmem
    have hmm:=ZL hmem
    rw [ZI] at hmm
    rw [Y1 h6 hj.1 Op.nil] at h10
    simp only [Z0f] at h10
    rw [if_neg (by omega),Zso] at h10
    refine Z6 (ι:=Int × Int) (fun p=> Z9R e d n j p.1 p.2) (fun p=> 0≤p.2∧p.2≤(e.ops.getD j.toNat Op.nil).l.length∧-1≤p.1∧p.1≤4611686018427387904∧Zw ((e.ops.getD j.toNat Op.nil).l.drop p.2.toNat) 80 p.1=Zw (e.ops.getD j.toNat Op.nil).l 80 z) (fun p=> (((e.ops.getD j.toNat Op.nil).l.length:Int) - p.2).toNat) (z,0) rfl ⟨by dsimp only;omega,by dsimp only;omega,h8,h9,by simp⟩ ?_
    rintro ⟨u,k⟩ ⟨g1,g2,g3,g4,g5⟩
    dsimp only at*
    refine ZtS N e d n j u k _ _ _ ?_;(try simp only [vcT,forall_eq])
    (simp only [vcS]);(try simp only [vcT])
    try (simp only [Tree.eta,Edit.eta,Tree.kind_mk,Tree.words_mk,Tree.kids_mk])
    refine ⟨⟨h6,hj.1⟩,fun hk=> ?_,fun hk=> ?_⟩
    ·have hmt:=Zg (l:=(e.ops.getD j.toNat Op.nil).l) (i:=k.toNat) (by omega) Tree.nil
     rw [Y1 g1 hk.1 Tree.nil] at g5
     simp only [Zw] at g5
     rw [if_neg (by omega)] at g5
     have rr:=YZ ((e.ops.getD j.toNat Op.nil).l.getD k.toNat Tree.nil) 80 u
     exact ⟨⟨h6,hj.1⟩,⟨g1,hk.1⟩,p68 _ _ (Zds hsm.2.1 hmt) g3 g4,by unfold InR;omega,(_,k+1),rfl,⟨by dsimp only;omega,by dsimp only;omega,by dsimp only;omega,by dsimp only;omega,g5⟩,by dsimp only;omega⟩
    ·have hu:Zw (e.ops.getD j.toNat Op.nil).l 80 z=u:=by
      rw [←g5]
      by_cases hlt:k < (e.ops.getD j.toNat Op.nil).l.length
      ·exact ZgA (by omega)
      ·rw [List.drop_of_length_le (by omega)];try rfl
     rw [hu] at h10
     have rr:=Z1S (e.ops.getD j.toNat Op.nil).e (d - 1) u
     refine ⟨fun hq=> ⟨⟨h6,hj.1⟩,by unfold InR;omega,⟨hsm.2.2,by dsimp only;omega,by dsimp only;omega,g3,g4⟩,by simp only [Zj1];omega,by unfold InR;omega,(_,j+1),rfl,⟨by dsimp only;omega,by dsimp only;omega,by dsimp only;omega,by dsimp only;omega,?_⟩,by dsimp only;omega⟩,
      fun hq=> ⟨by unfold InR;omega,(_,j+1),rfl,⟨by dsimp only;omega,by dsimp only;omega,by dsimp only;omega,by dsimp only;omega,?_⟩,by dsimp only;omega⟩⟩
     ·rw [if_neg (by omega)] at h10;exact h10
     ·rw [if_pos (by omega)] at h10;exact h10
   ·refine Yn rfl ?_
    rw [hres,←h10]
    by_cases hlt:j < e.ops.length
    ·exact (ZkG (by omega)).symm
    ·rw [List.drop_of_length_le (by omega)];try rfl
 refine ⟨p68 _ _ so (by omega) (by omega),fun hq=> ⟨p68 _ _ sn r1.1 (by omega),k0 _ ?_⟩,fun hq=> k0 _ ?_⟩
 ·unfold sh1;rw [if_neg (by omega)]
 ·unfold sh1;rw [if_pos (by omega)]
theorem c54:Contract Try.prog cfg 54 Zdk:=by
 refine Zyj c90 ?_
 intro e _ hp
 refine ZCG e _ ?_;(try simp only [vcT,forall_eq])
 try (simp only [Tree.eta,Edit.eta,Tree.kind_mk,Tree.words_mk,Tree.kids_mk])
 exact ⟨⟨hp,by dsimp only;omega,by dsimp only;omega,by dsimp only;omega,by dsimp only;omega⟩,Zi rfl rfl⟩
end Go.AM.Ytpjenobkibfpcaa
