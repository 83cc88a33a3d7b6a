import Derived.Test.YtpjenobkibfpcaaGreatZKG22a
import Derived.Test.YtpjenobkibfpcaaGreatZKD20
import Derived.Test.YtpjenobkibfpcaaGreatZKRB07
set_option linter.unusedSimpArgs false
set_option linter.unusedVariables false
namespace Go.AM.YtpjenobkibfpcaaGreat
open Go.AM Go.Proofs
theorem ZBM:Contract Tryz.prog cfg 180 Z8X:=by
 refine ZwQ c41 ?_
 intro l _ hp
 simp only [ZaT] at hp
 have hl:=ZA l
 refine ZDF _ _ ?_
 refine Za (ι:=Int × List Tree) (fun s=> Z2W l s.1 s.2) (fun s=> 0≤s.1∧s.1≤l.length∧s.2.length=s.1∧s.2++Zb (l.drop s.1.toNat)=Zb l) (fun s=> ((l.length:Int) - s.1).toNat) (0,[]) rfl ⟨by simp,by simp,by simp,by simp⟩ ?_
 rintro ⟨i,out⟩ ⟨h1,h2,h3,h4⟩
 dsimp only at h1 h2 h3 h4
 refine Zrs _ _ _ _ _ ?_
 (simp only [vcS])
 (simp only [Tree.eta,Edit.eta,Tree.kind_mk,Tree.words_mk,Tree.kids_mk])
 refine ⟨fun hi=> ?_,fun hi=> ?_⟩
 ·have hm:=YO (Zi (l:=l) (i:=i.toNat) (by omega) Tree.nil)
  rw [Y3 h1 hi Tree.nil] at h4
  simp only [Zb,List.map_cons] at h4
  refine ⟨⟨h1,hi⟩,by simp only [Z3g];omega,by simp;omega,by unfold InR;omega,(i+1,out++[Zd (l.getD i.toNat Tree.nil)]),rfl,⟨by dsimp only;omega,by dsimp only;omega,by simp;omega,?_⟩,by dsimp only;omega⟩
  simp only [List.append_assoc,List.cons_append,List.nil_append]
  exact h4
 ·rw [List.drop_of_length_le (by omega)] at h4
  simp only [Zb,List.map_nil,List.append_nil] at h4
  rw [h4]
  (repeat' (first | exact trivial | exact rfl | apply And.intro))
theorem ZgD{kind:Int}{l:List Op}{i:Int}(h0:0≤i)(h:i < l.length):YS kind (l.drop i.toNat)=if (l.getD i.toNat Op.nil).kind=1∨(l.getD i.toNat Op.nil).kind=2 then (if (l.getD i.toNat Op.nil).kind=kind then Zb (l.getD i.toNat Op.nil).l else [])++YS kind (l.drop (i+1).toNat) else []:=by
 rw [Y3 h0 h Op.nil,YS]
theorem ZgF{l:List Op}{i:Int}(h0:0≤i)(h:i < l.length):Y0 (l.drop i.toNat)=if (l.getD i.toNat Op.nil).kind=1∨(l.getD i.toNat Op.nil).kind=2 then 1+Y0 (l.drop (i+1).toNat) else 0:=by
 rw [Y3 h0 h Op.nil,Y0]
theorem Zk7(n:Nat):∀ (l:List Op),Zg (l.drop n)≤Zg l:=by
 induction n with
 | zero=> intro l;simp
 | succ n ih=>
  intro l
  cases l with
  | nil=> simp
  | cons t r=> simp only [List.drop_succ_cons,Zg];have:=ih r;omega
theorem ZBZ:Contract Tryz.prog cfg 127 Z6O:=by
 refine Zx9 ZBM ?_
 intro l from_ kind _ hp
 simp only [Z5k] at hp
 obtain ⟨hm,hf0,hf1⟩:=hp
 have hl:=ZQ l
 refine ZE2 _ _ _ _ ?_
 refine Za (ι:=Int × List Tree) (fun s=> Z0S l from_ kind s.1 s.2) (fun s=> from_≤s.1∧s.1≤l.length∧s.2.length+Zg (l.drop s.1.toNat)≤Zg l∧s.2++YS kind (l.drop s.1.toNat)=YS kind (l.drop from_.toNat)∧s.1+Y0 (l.drop s.1.toNat)=from_+Y0 (l.drop from_.toNat)) (fun s=> ((l.length:Int) - s.1).toNat) (from_,[]) rfl ⟨by simp,by simpa using hf1,by have:=Zk7 from_.toNat l;simpa using this,by simp,rfl⟩ ?_
 rintro ⟨i,out⟩ ⟨h1,h2,h3,h4,h5⟩
 dsimp only at h1 h2 h3 h4 h5
 refine ZrF _ _ _ _ _ _ _ ?_
 rintro y hy
 (simp only [vcS])
 refine ⟨fun hi=> ⟨by omega,hi⟩,fun hi=> ⟨by omega,hi.1⟩,fun hi=> ?_,fun hi=> ?_⟩
 ·obtain ⟨hi,hk⟩:=hi
  have hmem:=ZW (Zi (l:=l) (i:=i.toNat) (by omega) Op.nil)
  have hd:=congrArg Zg (Y3 (show 0≤i by omega) hi Op.nil)
  rw [Z3P] at hd
  rw [ZgD (by omega) hi] at h4
  rw [ZgF (by omega) hi] at h5
  rw [←hy] at h4 h5 hmem hd
  rw [if_pos hk] at h4 h5
  rw [ZN] at hmem hd
  have hkl:=ZA y.l
  have hyl:(Zb y.l).length=y.l.length:=by simp [Zb]
  refine ⟨⟨by omega,hi⟩,fun hq=> ⟨⟨by omega,hi⟩,by simp only [ZaT];omega,by rw [hyl];omega,by unfold InR;omega,(i+1,out++Zb y.l),rfl,⟨by dsimp only;omega,by dsimp only;omega,by simp;omega,?_,by dsimp only;omega⟩,by dsimp only;omega⟩,fun hq=> ⟨by unfold InR;omega,(i+1,out),rfl,⟨by dsimp only;omega,by dsimp only;omega,by dsimp only;omega,?_,by dsimp only;omega⟩,by dsimp only;omega⟩⟩
  ·rw [if_pos hq,←List.append_assoc] at h4;exact h4
  ·rw [if_neg hq,List.nil_append] at h4;exact h4
 ·have e1:YS kind (l.drop i.toNat)=[]∧Y0 (l.drop i.toNat)=0:=by
   by_cases hc:i < l.length
   ·rw [ZgD (by omega) hc,ZgF (by omega) hc,←hy,if_neg (by omega),if_neg (by omega)]
    exact ⟨rfl,rfl⟩
   ·rw [List.drop_of_length_le (by omega)]
    exact ⟨rfl,rfl⟩
  rw [e1.1,List.append_nil] at h4
  rw [e1.2] at h5
  have e2:i=from_+Y0 (l.drop from_.toNat):=by omega
  simp only [Zlq,←h4,←e2]
  (repeat' (first | exact trivial | exact rfl | apply And.intro))
theorem Zmk(k:Kid):Z6D k=Jc k.e:=by cases k;rfl
theorem ZqQ(o:Op):Zav o=if o.kind=3 then 1+Jc o.e else 1:=by cases o;rfl
theorem ZqR(e:Edit):Jc e=1+e.words.length+Z1O e.kids+JV e.ops:=by cases e;rfl
mutual
theorem Z4Q:∀ (e:Edit),1≤Jc e∧Jc e≤Z9 e
 | .mk k o n w ks l os=> by
  have h1:=Z8x ks
  have h2:=Zf9 os
  simp only [Jc,Z9]
  omega
theorem Z8x:∀ (ks:List (KidOf Edit)),0≤Z1O ks∧Z1O ks≤Zq ks
 | []=> by simp [Z1O,Zq]
 | k ::r=> by
  have h1:=ZkC k
  have h2:=Z8x r
  simp only [Z1O,Zq]
  omega
theorem ZkC:∀ (k:KidOf Edit),0≤Z6D k∧Z6D k≤Yd k
 | ⟨_,e⟩=> by
  have h1:=Z4Q e
  simp only [Z6D,Yd]
  omega
theorem Zf9:∀ (os:List (OpOf Edit)),0≤JV os∧JV os≤Zg os+os.length
 | []=> by simp [JV,Zg]
 | o ::r=> by
  have h1:=Zfa o
  have h2:=Zf9 r
  simp only [JV,Zg,List.length_cons]
  omega
theorem Zfa:∀ (o:OpOf Edit),1≤Zav o∧Zav o≤Zw o+1
 | ⟨k,_,_,e⟩=> by
  have h1:=Z4Q e
  simp only [Zav,Zw]
  split <;> omega
end
theorem JL(o:Op):J8 o=if o.kind=1 then ⟨2,o.n,o.l,o.e⟩ else if o.kind=2 then ⟨1,o.n,o.l,o.e⟩ else if o.kind=3 then ⟨o.kind,o.n,o.l,ZS o.e⟩ else ⟨o.kind,o.n,o.l,o.e⟩:=by cases o;rfl
theorem Zs6(e:Edit):ZS e= .mk e.kind e.new e.old (e.words.map Z5K) (JZ e.kids) e.list (Jt e.ops):=by cases e;rfl
theorem Zda(k:Kid):Z1D k=⟨k.at_,ZS k.e⟩:=by cases k;rfl
theorem ZG8:ZzY:=by
 intro N o _ hp hN
 simp only [Z67,Zc4] at hp hN
 rw [ZN] at hp hN
 have hpos:=Z4v o.e
 refine ZDD _ _ _ ?_
 rintro y hy
 (simp only [vcS])
 refine ⟨fun h=> ?_,fun h=> ⟨fun h2=> ?_,fun h2=> ⟨fun h3=> ⟨by simp only [Z0Z,hy];omega,by simp only [Z6h,hy];omega,?_⟩,fun h3=> ?_⟩⟩⟩
 ·have e:J8 o=⟨2,o.n,o.l,o.e⟩:=by rw [JL,if_pos h]
  simp only [Z60,e]
  (repeat' (first | exact trivial | exact rfl | apply And.intro))
 ·have e:J8 o=⟨1,o.n,o.l,o.e⟩:=by rw [JL,if_neg h,if_pos h2]
  simp only [Z60,e]
  (repeat' (first | exact trivial | exact rfl | apply And.intro))
 ·have e:J8 o=⟨o.kind,o.n,o.l,ZS o.e⟩:=by rw [JL,if_neg h,if_neg h2,if_pos h3]
  simp only [Z60,e]
  rw [hy]
  (repeat' (first | exact trivial | exact rfl | apply And.intro))
 ·have e:J8 o=⟨o.kind,o.n,o.l,o.e⟩:=by rw [JL,if_neg h,if_neg h2,if_neg h3]
  simp only [Z60,e]
  (repeat' (first | exact trivial | exact rfl | apply And.intro))
theorem ZG9:ZA2:=by
 intro N e _ hp hN
 simp only [Z0Z,Z6h] at hp hN
 have h1:=Yg e
 have h2:=Y2 e.kids
 have h3:=ZQ e.ops
 have ha:=Zs6 e
 refine ZDZ _ _ _ ?_
 refine Za (ι:=Int × List WEdit) (fun s=> Z31 e s.1 s.2) (fun s=> 0≤s.1∧s.1≤e.words.length∧s.2.length=s.1∧s.2++(e.words.drop s.1.toNat).map Z5K=e.words.map Z5K) (fun s=> ((e.words.length:Int) - s.1).toNat) (0,[]) rfl ⟨by simp,by simp,by simp,by simp⟩ ?_
 rintro ⟨i,ws⟩ ⟨g1,g2,g3,g4⟩
 dsimp only at g1 g2 g3 g4
 refine ZrD _ _ _ _ _ _ ?_
 (simp only [vcS])
 refine ⟨fun hi=> ?_,fun hi=> ?_⟩
 ·rw [Y3 g1 hi (WEdit.mk 0 0 0 0)] at g4
  simp only [List.map_cons] at g4
  refine ⟨⟨g1,hi⟩,by simp;omega,by unfold InR;omega,(i+1,ws++[Z5K (e.words.getD i.toNat (WEdit.mk 0 0 0 0))]),rfl,⟨by dsimp only;omega,by dsimp only;omega,by simp;omega,?_⟩,by dsimp only;omega⟩
  simp only [List.append_assoc,List.cons_append,List.nil_append]
  exact g4
 ·rw [List.drop_of_length_le (by omega)] at g4
  simp only [List.map_nil,List.append_nil] at g4
  refine Za (ι:=Int × List Kid) (fun s=> Z30 e ws s.1 s.2) (fun s=> 0≤s.1∧s.1≤e.kids.length∧s.2.length=s.1∧s.2++JZ (e.kids.drop s.1.toNat)=JZ e.kids) (fun s=> ((e.kids.length:Int) - s.1).toNat) (0,[]) rfl ⟨by simp,by simp,by simp,by simp⟩ ?_
  rintro ⟨j,ks⟩ ⟨f1,f2,f3,f4⟩
  dsimp only at f1 f2 f3 f4
  refine ZrC _ _ _ _ _ _ _ ?_
  rintro y1 hy1 y2 hy2 y3 hy3
  (simp only [vcS])
  refine ⟨fun hj=> ?_,fun hj=> ?_⟩
  ·have hm:=YQ (Zi (l:=e.kids) (i:=j.toNat) (by omega) (KidOf.mk 0 Edit.nil))
   rw [Y3 f1 hj (KidOf.mk 0 Edit.nil)] at f4
   rw [←hy1] at f4 hm
   simp only [JZ,Zda] at f4
   rw [←hy2] at f4 hm
   rw [←hy3] at f4
   refine ⟨⟨f1,hj⟩,by simp only [Z0Z];omega,by simp only [Z6h];omega,by simp;omega,by unfold InR;omega,(j+1,ks++[⟨y1.at_,y3⟩]),rfl,⟨by dsimp only;omega,by dsimp only;omega,by simp;omega,?_⟩,by dsimp only;omega⟩
   simp only [List.append_assoc,List.cons_append,List.nil_append]
   exact f4
  ·rw [List.drop_of_length_le (by omega)] at f4
   simp only [JZ,List.append_nil] at f4
   refine Za (ι:=Int × List Op) (fun s=> Z2Z e ws ks s.1 s.2) (fun s=> 0≤s.1∧s.1≤e.ops.length∧s.2.length=s.1∧s.2++Jt (e.ops.drop s.1.toNat)=Jt e.ops) (fun s=> ((e.ops.length:Int) - s.1).toNat) (0,[]) rfl ⟨by simp,by simp,by simp,by simp⟩ ?_
   rintro ⟨k,os⟩ ⟨d1,d2,d3,d4⟩
   dsimp only at d1 d2 d3 d4
   refine ZrB _ _ _ _ _ _ _ _ ?_
   rintro z1 hz1 z2 hz2 z3 hz3
   (simp only [vcS])
   refine ⟨fun hj=> ?_,fun hj=> ?_⟩
   ·have hm:=ZW (Zi (l:=e.ops) (i:=k.toNat) (by omega) Op.nil)
    rw [Y3 d1 hj Op.nil] at d4
    rw [←hz1,←hz2] at d4 hm
    simp only [Jt] at d4
    rw [←hz3] at d4
    refine ⟨⟨d1,hj⟩,by simp only [Z67];omega,by simp only [Zc4];omega,by simp;omega,by unfold InR;omega,(k+1,os++[z3]),rfl,⟨by dsimp only;omega,by dsimp only;omega,by simp;omega,?_⟩,by dsimp only;omega⟩
    simp only [List.append_assoc,List.cons_append,List.nil_append]
    exact d4
   ·rw [List.drop_of_length_le (by omega)] at d4
    simp only [Jt,List.append_nil] at d4
    rw [g4,f4,d4]
    simp only [ZdW,ha]
    (repeat' (first | exact trivial | exact rfl | apply And.intro))
theorem ZuO:Contract Tryz.prog cfg 131 Z92∧Contract Tryz.prog cfg 182 ZmM:=Zkf ZG9 ZG8
end Go.AM.YtpjenobkibfpcaaGreat
namespace Go.AM.YtpjenobkibfpcaaGreat
open Go.AM Go.Proofs
theorem JD(list:Int):∀ (a b:List Op) (s:Wst),Zr list (a++b) s=Zr list b (Zr list a s)
 | [],b,s=> rfl
 | o ::r,b,s=> by simp only [List.cons_append,Zr,JD list r]
theorem Z6r:∀ (l:List Op) (m n:Int),Ye (Ye l m) n=Ye l (m+n)
 | [],m,n=> by simp [Ye]
 | [o],m,n=> by
  by_cases h:o.kind=0
  ·simp [Ye,h,Int.add_assoc]
  ·simp [Ye,h]
 | o ::p ::r,m,n=> by
  have ih:=Z6r (p ::r) m n
  cases hk:Ye (p ::r) m with
  | nil=> cases r <;> simp [Ye] at hk;split at hk <;> cases hk
  | cons x y=>
   rw [hk] at ih
   simp only [Ye]
   rw [hk]
   simp only [Ye]
   rw [ih]
theorem Jk:∀ (l:List Op) (n:Int),Ye l n=l++[⟨0,n,[],Edit.nil⟩]∨∃ a o,l=a++[o]∧o.kind=0∧Ye l n=a++[⟨o.kind,o.n+n,o.l,o.e⟩]
 | [],n=> Or.inl rfl
 | [o],n=> by
  by_cases h:o.kind=0
  ·exact Or.inr ⟨[],o,rfl,h,by simp [Ye,h]⟩
  ·exact Or.inl (by simp [Ye,h])
 | o ::p ::r,n=> by
  rcases Jk (p ::r) n with h | ⟨a,q,h1,h2,h3⟩
  ·exact Or.inl (by simp only [Ye,h,List.cons_append])
  ·exact Or.inr ⟨o ::a,q,by rw [h1];rfl,h2,by simp only [Ye,h3,List.cons_append]⟩
def W0:Wst:=⟨[],[],[]⟩
def Stb(list:Int)(w:Wst):Prop:=Zr list w.out W0=⟨w.out,[],[]⟩∧Zb w.gone=w.gone∧Zb w.brought=w.brought
theorem ZaF{list:Int}{w:Wst}(h:Stb list w):Zr list (Z1 w).out W0=w:=by
 obtain ⟨h1,h2,h3⟩:=h
 obtain ⟨out,g,b⟩:=w
 simp only [Z1,YD]
 rw [JD,h1,JD]
 simp only at h2 h3
 by_cases hg:g.length=0
 ·rw [if_pos hg]
  have:g=[]:=List.length_eq_zero_iff.1 hg
  subst this
  by_cases hb:b.length=0
  ·rw [if_pos hb]
   have:b=[]:=List.length_eq_zero_iff.1 hb
   subst this
   try rfl
  ·rw [if_neg hb]
   simp [Zr,YE,h3]
 ·rw [if_neg hg]
  by_cases hb:b.length=0
  ·rw [if_pos hb]
   have:b=[]:=List.length_eq_zero_iff.1 hb
   subst this
   simp [Zr,YE,h2]
  ·rw [if_neg hb]
   simp [Zr,YE,h2,h3]
theorem Zes(list:Int)(o:Op)(s:Wst)(h:o.kind=0):Zr list [o] s=ZG s o.n:=by
 simp only [Zr,YE,h,if_true]
theorem Zj3{list:Int}{w:Wst}(h:Stb list w)(n:Int):Stb list (ZG w n):=by
 have hf:=ZaF h
 refine ⟨?_,rfl,rfl⟩
 show Zr list (Ye (Z1 w).out n) W0=⟨Ye (Z1 w).out n,[],[]⟩
 rcases Jk (Z1 w).out n with e | ⟨a,o,e1,e2,e3⟩
 ·rw [e,JD,hf,Zes _ _ _ rfl]
  show (⟨Ye (Z1 w).out n,[],[]⟩:Wst)=_
  rw [e]
 ·rw [e1,JD,Zes _ _ _ e2] at hf
  rw [e3,JD,Zes list ⟨o.kind,o.n+n,o.l,o.e⟩ _ e2]
  have ho:Ye (Z1 (Zr list a W0)).out o.n=w.out∧w.gone=[]∧w.brought=[]:=by
   rw [←hf];exact ⟨rfl,rfl,rfl⟩
  have hw:(Z1 w).out=w.out:=by simp [Z1,YD,ho.2.1,ho.2.2]
  show (⟨Ye (Z1 (Zr list a W0)).out (o.n+n),[],[]⟩:Wst)=_
  rw [←Z6r,ho.1,←e3,hw]
theorem Z3O(l:List Tree):Zb (Zb l)=Zb l:=by
 simp only [Zb,List.map_map]
 congr 1
 funext t
 exact Z5q t
theorem JN(a b:List Tree):Zb (a++b)=Zb a++Zb b:=by simp [Zb]
theorem ZAk{list:Int}{w:Wst}{o:Op}(h:Stb list w)(hi:Zv (Zv o.e)=Zv o.e):Stb list (Z0r list o w):=by
 rw [YE]
 by_cases k0:o.kind=0
 ·rw [if_pos k0];exact Zj3 h _
 ·rw [if_neg k0]
  by_cases k1:o.kind=1
  ·rw [if_pos k1]
   exact ⟨h.1,by simp only [JN,Z3O,h.2.1],h.2.2⟩
  ·rw [if_neg k1]
   by_cases k2:o.kind=2
   ·rw [if_pos k2]
    exact ⟨h.1,h.2.1,by simp only [JN,Z3O,h.2.2]⟩
   ·rw [if_neg k2]
    by_cases k3:o.kind=3
    ·rw [if_pos k3]
     by_cases hd:Z0k list (Zv o.e)=true
     ·rw [if_pos hd];exact Zj3 h _
     ·rw [if_neg hd]
      refine ⟨?_,rfl,rfl⟩
      have hf:=ZaF h
      show Zr list ((Z1 w).out++[⟨3,0,[],Zv o.e⟩]) W0=_
      rw [JD,hf]
      simp only [Zr,YE]
      rw [if_neg (by decide),if_neg (by decide),if_neg (by decide),if_pos trivial,hi,if_neg hd]
    ·rw [if_neg k3];exact h
mutual
theorem Z78:∀ (e:Edit),Zv (Zv e)=Zv e
 | .mk k o n w ks l os=> by
  have h1:=Zeu ks
  have h2:=Zgi l os W0 ⟨rfl,rfl,rfl⟩
  have h3:=ZaF h2
  rw [Zv]
  by_cases k1:k=1
  ·rw [if_pos k1,Zv,if_pos k1,Z5q,Z5q]
  ·rw [if_neg k1]
   by_cases k2:k=2
   ·rw [if_pos k2,Zv,if_neg k1,if_pos k2,h1]
   ·rw [if_neg k2]
    by_cases k3:k=3
    ·rw [if_pos k3,Zv,if_neg k1,if_neg k2,if_pos k3]
     show Edit.mk k Tree.nil Tree.nil [] [] l (Z1 (Zr l (Z1 (Zr l os W0)).out W0)).out=Edit.mk k Tree.nil Tree.nil [] [] l (Z1 (Zr l os W0)).out
     rw [h3]
    ·rw [if_neg k3,Zv,if_neg k1,if_neg k2,if_neg k3]
theorem Zeu:∀ (ks:List (KidOf Edit)),J3 (J3 ks)=J3 ks
 | []=> rfl
 | k ::r=> by
  have h1:=ZjU k
  have h2:=Zeu r
  simp only [J3]
  rw [h1,h2]
theorem ZjU:∀ (k:KidOf Edit),Z0F (Z0F k)=Z0F k
 | ⟨a,e⟩=> by
  have h:=Z78 e
  simp only [Z0F]
  rw [h]
theorem Zgi(list:Int):∀ (os:List (OpOf Edit)) (w:Wst),Stb list w→Stb list (Zr list os w)
 | [],w,h=> h
 | o ::r,w,h=> by
  have h1:=Zqn list o w h
  exact Zgi list r _ h1
theorem Zqn(list:Int):∀ (o:OpOf Edit) (w:Wst),Stb list w→Stb list (Z0r list o w)
 | ⟨k,n,l,e⟩,w,h=> ZAk (o:=⟨k,n,l,e⟩) h (Z78 e)
end
end Go.AM.YtpjenobkibfpcaaGreat
namespace Go.AM
theorem Z9y{t:Tree}(h:ZZ t=true):t=Tree.nil:=by
 obtain ⟨k,w,ks⟩:=t
 simp only [ZZ,decide_eq_true_eq] at h
 obtain ⟨h1,h2,h3⟩:=h
 have h1:k=0:=h1
 rw [h1,List.eq_nil_of_length_eq_zero (l:=w) h2,List.eq_nil_of_length_eq_zero (l:=ks) h3]
 try rfl
theorem Zj7{e:Edit}(h:Z1g e=true):e=Edit.nil:=by
 obtain ⟨k,o,n,w,ks,l,os⟩:=e
 simp only [Z1g,Bool.and_eq_true,decide_eq_true_eq] at h
 obtain ⟨⟨⟨h1,h2⟩,h3⟩,h4,h5,h6,h7⟩:=h
 have h1:k=0:=h1
 have h7:l=0:=h7
 rw [h1,h7,Z9y (t:=o) h2,Z9y (t:=n) h3,List.eq_nil_of_length_eq_zero (l:=w) h4,List.eq_nil_of_length_eq_zero (l:=ks) h5,List.eq_nil_of_length_eq_zero (l:=os) h6]
 try rfl
structure RightE (e:Edit) (d:Int):Prop where
 d0:d≠0
 kind:0≤e.kind∧e.kind≤3
 none:e.kind≠1→e.old=Tree.nil∧e.new=Tree.nil
 words0:e.kind≠2→e.words=[]∧e.kids=[]
 ops0:e.kind≠3→e.list=0∧e.ops=[]
 rep:e.kind=1→Ze e.old (dT d)=true∧Ze e.new (dT d)=true∧e.old.kind≠10∧e.new.kind≠10
 words:Zs (-1) e.words=true
 kids:Zx (-1) e.kids (d - 1)=true
 list:e.kind=3→2≤e.list∧e.list≤9
 ops:Zp e.list e.ops (d - 1)=true
 len:Ym e.ops 0 < 1048576∧Jb e.ops 0 < 1048576
theorem Zz{e:Edit}{d:Int}(h:Z2 e d=true):RightE e d:=by
 obtain ⟨k,o,n,w,ks,l,os⟩:=e
 rw [Z2] at h
 split at h
 ·cases h
 ·rename_i a
  split at h
  ·cases h
  ·rename_i b
   have b1:k≠1→o=Tree.nil∧n=Tree.nil:=by
    intro hk
    by_cases x:ZZ o=true∧ZZ n=true
    ·exact ⟨Z9y x.1,Z9y x.2⟩
    ·exact absurd (.inl ⟨hk,x⟩) b
   have b2:k≠2→w=[]∧ks=[]:=by
    intro hk
    by_cases x:w.length=0∧ks.length=0
    ·exact ⟨List.eq_nil_of_length_eq_zero x.1,List.eq_nil_of_length_eq_zero x.2⟩
    ·exact absurd (.inr (.inl ⟨hk,x⟩)) b
   have b3:k≠3→l=0∧os=[]:=by
    intro hk
    by_cases x:l≠0∨os.length≠0
    ·exact absurd (.inr (.inr ⟨hk,x⟩)) b
    ·exact ⟨by omega,List.eq_nil_of_length_eq_zero (by omega)⟩
   split at h
   ·rename_i c
    simp only [Bool.and_eq_true,decide_eq_true_eq] at h
    obtain ⟨⟨h1,h2⟩,h3,h4⟩:=h
    have c2:=b2 (by omega)
    have c3:=b3 (by omega)
    obtain ⟨rfl,rfl⟩:=c2
    obtain ⟨rfl,rfl⟩:=c3
    exact ⟨by omega,⟨by show 0≤k;omega,by show k≤3;omega⟩,b1,b2,b3,fun _=> ⟨h1,h2,h3,h4⟩,rfl,rfl,fun e=> by have e:k=3:=e;omega,rfl,by show Ym [] 0 < _∧Jb [] 0 < _;simp [Ym,Jb]⟩
   ·rename_i c
    simp only [Bool.and_eq_true,decide_eq_true_eq] at h
    obtain ⟨⟨⟨⟨h1,h2⟩,h3⟩,h4⟩,h5⟩:=h
    exact ⟨by omega,⟨by show 0≤k;omega,by show k≤3;omega⟩,b1,b2,b3,fun e=> absurd e c,h1,h2,fun e=> by have e:k=3:=e;show 2≤l∧l≤9;omega,h4,h5⟩
theorem Y1:∀ {ks:List Kid} {last d:Int},Zx last ks d=true→∀ k∈ks,(last < k.at_∧k.at_≤65534∧k.e.kind≠0)∧Z2 k.e d=true
 | [],_,_,_,_,hk=> by cases hk
 | ⟨a,e⟩ ::r,last,d,h,k,hk=> by
  simp only [Zx,YT,Bool.and_eq_true,decide_eq_true_eq] at h
  obtain ⟨⟨h1,h2⟩,h3⟩:=h
  rcases List.mem_cons.1 hk with rfl | hk
  ·exact ⟨h1,h2⟩
  ·have:=Y1 h3 k hk
   have h1:last < a∧a≤65534∧e.kind≠0:=h1
   have h4:a < k.at_:=this.1.1
   exact ⟨⟨by omega,this.1.2⟩,this.2⟩
theorem rightOs_mem{list:Int}:∀ {os:List Op} {d:Int},Zp list os d=true→∀ o∈os,Zc list o d=true
 | [],_,_,_,ho=> by cases ho
 | a ::r,d,h,o,ho=> by
  simp only [Zp,Bool.and_eq_true] at h
  rcases List.mem_cons.1 ho with rfl | ho
  ·exact h.1
  ·exact rightOs_mem h.2 o ho
theorem JX:∀ {ws:List WEdit} {last:Int},Zs last ws=true→∀ w∈ws,last < w.at_∧w.at_≤65534∧w.mask≠0∧Yu w.old w.mask=true∧Yu w.new w.mask=true
 | [],_,_,_,hw=> by cases hw
 | a ::r,last,h,w,hw=> by
  simp only [Zs,Bool.and_eq_true,decide_eq_true_eq] at h
  obtain ⟨⟨⟨h1,h2⟩,h3⟩,h4⟩:=h
  rcases List.mem_cons.1 hw with rfl | hw
  ·exact ⟨h1.1,h1.2.1,h1.2.2,h2,h3⟩
  ·have:=JX h4 w hw
   exact ⟨by omega,this.2⟩
inductive RightOp (list:Int) (d:Int):Op→Prop
 | keep (n:Int):1≤n→n≤1048576→RightOp list d ⟨0,n,[],Edit.nil⟩
 | gone (l:List Tree):YH (dT d) list l=true→0 < l.length→RightOp list d ⟨1,0,l,Edit.nil⟩
 | come (l:List Tree):YH (dT d) list l=true→0 < l.length→RightOp list d ⟨2,0,l,Edit.nil⟩
 | into (e:Edit):Z2 e d=true→e.kind≠0→7 < list→(list=8∨e.kind=2∨e.kind=1∧e.old.kind=1∧e.new.kind=1)→RightOp list d ⟨3,0,[],e⟩
theorem ZC{list:Int}{o:Op}{d:Int}(h:Zc list o d=true):RightOp list d o:=by
 obtain ⟨k,n,l,e⟩:=o
 rw [Zc] at h
 split at h
 ·rename_i hk
  simp only [Bool.and_eq_true,decide_eq_true_eq] at h
  obtain ⟨⟨h1,h2,h3⟩,h4⟩:=h
  rw [hk,Zj7 h4,List.eq_nil_of_length_eq_zero h3]
  exact .keep n h1 h2
 ·rename_i h0
  split at h
  ·cases h
  ·rename_i h1
   have hn:n=0:=by omega
   subst hn
   split at h
   ·rename_i h2
    simp only [Bool.and_eq_true,decide_eq_true_eq] at h
    obtain ⟨⟨h3,h4⟩,h5⟩:=h
    rw [Zj7 h5]
    by_cases hk:k=1
    ·rw [hk];exact .gone l h3 h4
    ·rw [show k=2 by omega];exact .come l h3 h4
   ·rename_i h2
    simp only [Bool.and_eq_true,decide_eq_true_eq] at h
    obtain ⟨⟨⟨h3,h4,h5⟩,h6⟩,h7⟩:=h
    rw [show k=3 by omega,List.eq_nil_of_length_eq_zero h3]
    exact .into e h6 h4 h5 h7
theorem Jm{l d:Int}{o:Op}(h:Zc l o d=true)(hk:o.kind=3):Z2 o.e d=true:=by
 have r:=ZC h
 cases r with
 | into e h1=> exact h1
 | keep | gone | come=> exact absurd hk (by simp)
end Go.AM
namespace Go.AM.YtpjenobkibfpcaaGreat
open Go.AM Go.Proofs
theorem Z42{α:Type}(z:α)(l:List α)(i:Nat)(x:α):(Yj z l i x).length=max l.length (i+1):=by
 simp only [Yj,List.length_set,List.length_append,List.length_replicate];omega
theorem Z3F{α:Type}(z:α)(l:List α)(i:Nat)(x:α)(j:Nat):(Yj z l i x).getD j z=if j=i then x else l.getD j z:=by
 simp only [Yj,List.getD_eq_getElem?_getD,List.getElem?_set,List.length_append,List.length_replicate]
 by_cases h:j=i
 ·subst h;rw [if_pos rfl,if_pos rfl,if_pos (by omega)];try rfl
 ·rw [if_neg (fun e=> h e.symm),if_neg h]
  by_cases hl:j < l.length
  ·rw [List.getElem?_append_left hl]
  ·rw [List.getElem?_append_right (by omega),List.getElem?_eq_none (l:=l) (by omega),List.getElem?_replicate]
   split <;> rfl
theorem Zl8{α β:Type}(f:α→β)(z:α)(l:List α)(i:Nat)(x:α):(Yj z l i x).map f=Yj (f z) (l.map f) i (f x):=by
 simp [Yj,List.map_set]
theorem Zgm:∀ l:List Tree,Ys l=Zb l
 | []=> rfl
 | t ::r=> by simp [Ys,Zb,Zgm r]
theorem Zew(l:List Tree)(i:Nat)(x:Tree):Zb (Yj Tree.nil l i x)=Yj Tree.nil (Zb l) i (Zd x):=by
 rw [Zb,Zl8,Zgl];try rfl
theorem Zqo{a b:List Tree}{i:Nat}{x y:Tree}(h:Zb a=Zb b)(hx:Zd x=Zd y):Zb (Yj Tree.nil a i x)=Zb (Yj Tree.nil b i y):=by
 rw [Zew,Zew,h,hx]
theorem Z4s{a b c d:List Tree}(h:Zb a=Zb b)(hx:Zb c=Zb d):Zb (a++c)=Zb (b++d):=by
 rw [JN,JN,h,hx]
theorem ZjV(k:Int)(w:List Int){a b:List Tree}(h:Zb a=Zb b):Zd (.mk k w a)=Zd (.mk k w b):=by
 simp only [Zd,Zgm,h]
theorem Z79{a b:List Tree}(h:Zb a=Zb b):a.length=b.length:=by
 have:=congrArg List.length h
 simpa [Zb] using this
theorem Zgk{a b:Tree}:Zb [a]=Zb [b]↔Zd a=Zd b:=by simp [Zb]
def ZfE{α β:Type}(R:α→β→Prop):Option α→Option β→Prop
 | none,none=> True
 | some a,some b=> R a b
 | _,_=> False
def Eqv(x y:Tree):Prop:=Zd x=Zd y
def EqvL(x y:List Tree):Prop:=Zb x=Zb y
theorem EqvL.take{x y:List Tree}(h:EqvL x y)(n:Nat):EqvL (x.take n) (y.take n):=by unfold EqvL Zb at*;rw [List.map_take,List.map_take,h]
theorem EqvL.drop{x y:List Tree}(h:EqvL x y)(n:Nat):EqvL (x.drop n) (y.drop n):=by unfold EqvL Zb at*;rw [List.map_drop,List.map_drop,h]
end Go.AM.YtpjenobkibfpcaaGreat
namespace Go.AM.YtpjenobkibfpcaaGreat
open Go.AM Go.Proofs
theorem Zd9:∀ (ks:List Kid),(JZ ks).length=ks.length
 | []=> rfl
 | k ::r=> by simp only [JZ,List.length_cons,Zd9 r]
end Go.AM.YtpjenobkibfpcaaGreat
namespace Go.AM.YtpjenobkibfpcaaGreat
open Go.AM Go.Proofs
noncomputable section
noncomputable section
def Zmw:ArgL (Edit × Unit):=(.cons (aEl .edit) .nil)
def Z66(a:Edit × Unit):Prop:=Z9 a.1≤20000000000
def Zfu(a:Edit × Unit):Nat:=Z9 a.1
def Zsw(a:Edit × Unit):V U:= .c (ci (Jc a.1))
def Zdy:Fs U:=fs Zmw (fun a=> [Z66 a]) Zsw
def Z18(N:Nat):List (FuncId × Fs U):=(22,fs Zmw (fun a=> [Z66 a,Zfu a < N]) Zsw) ::[]
def Zbh:Zj U:=lvl [([1],[1]),([1,3],[1]),([1,3,4],[1]),([1,3,4,18],[1]),([1,3,4],[1]),([1,3,4],[1]),([1,3,5],[1]),([1,3,5,34],[1]),([1,3,5],[1]),([1,3,5,43],[1]),([1,3,5],[1]),([2],[])]
def Z4F(e:Edit)(x3 x4:Int):LSt U:=(L2 [(1,.ptr (.loc 1) 0),(3,.c (ci x3)),(4,.c (ci x4))] [(.loc 1,(enc .edit e))])
def Z23(e:Edit)(x3_a x5_a:Int):LSt U:=(L2 [(1,.ptr (.loc 1) 0),(3,.c (ci x3_a)),(5,.c (ci x5_a))] [(.loc 1,(enc .edit e))])
abbrev W22(N:Nat)(e:Edit)(Q:QT):=AW (Z0 (Z18 N)) Tryz.f22 Zbh [] (L2 [(0,.agg (enc .edit e))] []) Q
abbrev Zfk(N:Nat):=awp cfg (Z0 (Z18 N)) (ZB cfg (Z0 (Z18 N))) Tryz.f22.ntmps Zbh
abbrev ZdJ(N:Nat):=Z5a cfg (Z0 (Z18 N)) (ZB cfg (Z0 (Z18 N))) Tryz.f22.ntmps Zbh
theorem ZFY(N:Nat)(e:Edit)(Q:QT)(h:(InR ((1:Int)+(e.words.length:Int)))∧(InR ((((1:Int)+(e.words.length:Int)):Int)+(e.ops.length:Int)))∧(Zf (AW (Z0 (Z18 N)) Tryz.f22 Zbh [1,1,0,1,0,0]) (Z4F e ((((1:Int)+(e.words.length:Int)):Int)+(e.ops.length:Int)) 0) (xB 0 (SW (Z0 (Z18 N)) Tryz.f22 Zbh [1,1,1] Q)))):
  W22 N e Q:=by
 have e_:(W22 N e Q)=((InR ((1:Int)+(e.words.length:Int)))∧(InR ((((1:Int)+(e.words.length:Int)):Int)+(e.ops.length:Int)))∧(Zf (Zfk N (cd Tryz.f22 [1,1,0,1,0,0])) (Z4F e ((((1:Int)+(e.words.length:Int)):Int)+(e.ops.length:Int)) 0) (xB 0 (ZdJ N (cd Tryz.f22 [1,1,1]) Q)))):=by kernel_rfl
 exact e_.mpr ⟨h.1,h.2.1,h.2.2⟩
abbrev Zvh(N:Nat)(e:Edit)(x3 x4:Int)(N0:NT)(Q:QT):=AW (Z0 (Z18 N)) Tryz.f22 Zbh [1,1,0,1,0,0] (Z4F e x3 x4) (xT N0 (xB 0 (SW (Z0 (Z18 N)) Tryz.f22 Zbh [1,1,1] Q)))
theorem Zw0(N:Nat)(e:Edit)(x3 x4:Int)(N0:NT)(Q:QT)(h:∀ y_1,y_1=(e.kids.getD x4.toNat (KidOf.mk 0 Edit.nil))→∀ y_2,y_2=(y_1.e)→((decide (x4 < (e.kids.length:Int)))=true→((0:Int)≤x4∧x4 < (e.kids.length:Int))∧(Z66 (y_2,()))∧(Zfu (y_2,()) < N)∧(InR (x3+(Jc y_2)))∧((InR (x4+1))∧(N0 (Z4F e (x3+(Jc y_2)) (x4+1)))))∧((decide (x4 < (e.kids.length:Int)))=false→Zf (AW (Z0 (Z18 N)) Tryz.f22 Zbh [1,1,1,0,1,0,0]) (Z23 e x3 0) (xB 2 (SW (Z0 (Z18 N)) Tryz.f22 Zbh [1,1,1,1] Q)))):
  Zvh N e x3 x4 N0 Q:=by
 have e_:(Zvh N e x3 x4 N0 Q)=(let y_1:=(e.kids.getD x4.toNat (KidOf.mk 0 Edit.nil));let y_2:=(Yv y_1.e);(((decide ((x4:Int) < (e.kids.length:Int)))=true→((0:Int)≤x4∧x4 < (e.kids.length:Int))∧(Z66 (y_2,()))∧(Zfu (y_2,()) < N)∧(InR ((x3:Int)+(Jc y_2)))∧((InR ((x4:Int)+1))∧(N0 (Z4F e ((x3:Int)+(Jc y_2)) ((x4:Int)+1)))))∧((decide ((x4:Int) < (e.kids.length:Int)))=false→(Zf (Zfk N (cd Tryz.f22 [1,1,1,0,1,0,0])) (Z23 e x3 0) (xB 2 (ZdJ N (cd Tryz.f22 [1,1,1,1]) Q)))))):=by kernel_rfl
 exact e_.mpr (by intro y_1 y_2;have hh:=h y_1 rfl y_2 (Z6 _);exact ⟨fun c_1=> ⟨(hh.1 c_1).1,(hh.1 c_1).2.1,(hh.1 c_1).2.2.1,(hh.1 c_1).2.2.2.1,⟨(hh.1 c_1).2.2.2.2.1,(hh.1 c_1).2.2.2.2.2⟩⟩,fun c_1=> (hh.2 c_1)⟩)
abbrev Zvg(N:Nat)(e:Edit)(x3_a x5_a:Int)(N1:NT)(Q:QT):=AW (Z0 (Z18 N)) Tryz.f22 Zbh [1,1,1,0,1,0,0] (Z23 e x3_a x5_a) (xT N1 (xB 2 (SW (Z0 (Z18 N)) Tryz.f22 Zbh [1,1,1,1] Q)))
theorem ZvZ(N:Nat)(e:Edit)(x3_a x5_a:Int)(N1:NT)(Q:QT)(h:∀ y_1,y_1=(e.ops.getD x5_a.toNat Op.nil)→∀ y_2,y_2=(y_1.e)→((decide (x5_a < (e.ops.length:Int)))=true→((0:Int)≤x5_a∧x5_a < (e.ops.length:Int))∧(((y_1.kind==3)=true→((0:Int)≤x5_a∧x5_a < (e.ops.length:Int))∧(Z66 (y_2,()))∧(Zfu (y_2,()) < N)∧(InR (x3_a+(Jc y_2)))∧((InR (x5_a+1))∧(N1 (Z23 e (x3_a+(Jc y_2)) (x5_a+1)))))∧((y_1.kind==3)=false→(InR (x5_a+1))∧(N1 (Z23 e x3_a (x5_a+1))))))∧((decide (x5_a < (e.ops.length:Int)))=false→Q .ret (L2 [(2,.c (ci x3_a))] []))):
  Zvg N e x3_a x5_a N1 Q:=by
 have e_:(Zvg N e x3_a x5_a N1 Q)=(let y_1:=(e.ops.getD x5_a.toNat Op.nil);let y_2:=(Yv y_1.e);(((decide ((x5_a:Int) < (e.ops.length:Int)))=true→((0:Int)≤x5_a∧x5_a < (e.ops.length:Int))∧(((y_1.kind==3)=true→((0:Int)≤x5_a∧x5_a < (e.ops.length:Int))∧(Z66 (y_2,()))∧(Zfu (y_2,()) < N)∧(InR ((x3_a:Int)+(Jc y_2)))∧((InR ((x5_a:Int)+1))∧(N1 (Z23 e ((x3_a:Int)+(Jc y_2)) ((x5_a:Int)+1)))))∧((y_1.kind==3)=false→(InR ((x5_a:Int)+1))∧(N1 (Z23 e x3_a ((x5_a:Int)+1))))))∧((decide ((x5_a:Int) < (e.ops.length:Int)))=false→(Q .ret (L2 [(2,.c (ci x3_a))] []))))):=by kernel_rfl
 exact e_.mpr (by intro y_1 y_2;have hh:=h y_1 rfl y_2 (Z6 _);exact ⟨fun c_2=> ⟨(hh.1 c_2).1,⟨fun c_3=> ⟨((hh.1 c_2).2.1 c_3).1,((hh.1 c_2).2.1 c_3).2.1,((hh.1 c_2).2.1 c_3).2.2.1,((hh.1 c_2).2.1 c_3).2.2.2.1,⟨((hh.1 c_2).2.1 c_3).2.2.2.2.1,((hh.1 c_2).2.1 c_3).2.2.2.2.2⟩⟩,fun c_3=> ⟨((hh.1 c_2).2.2 c_3).1,((hh.1 c_2).2.2 c_3).2⟩⟩⟩,fun c_2=> (hh.2 c_2)⟩)
def ZCS(N:Nat)(e:Edit):Prop:=AW (Z0 (Z18 N)) Tryz.f22 Zbh [] (Zl (Zmw.can (e,())) []) (EQ Tryz.f22 (Zsw (e,())) [])
theorem ZAZ(hb:∀ (N:Nat) (e:Edit) (_:Unit),Z66 (e,())→Zfu (e,()) < N+1→ZCS N e):CT 22 Zdy:=
 Yo (μ:=Zfu) (l:=[]) Zo rfl trivial Zbh Tryz.func22 rfl rfl 1 (fun _=> rfl) (by decide) (fun N ⟨e,_⟩=> hb N e ())
end
end
end Go.AM.YtpjenobkibfpcaaGreat
namespace Go.AM.YtpjenobkibfpcaaGreat
open Go.AM Go.Proofs
theorem Z6C:∀ (os:List Op),(os.length:Int)≤JV os
 | []=> by simp [JV]
 | o ::r=> by
  have h1:=Zfa o
  have h2:=Z6C r
  simp only [JV,List.length_cons]
  omega
theorem c22:Contract Tryz.prog cfg 22 Zdy:=by
 refine ZAZ ?_
 intro N e _ hp hN
 simp only [Z66,Zfu] at hp hN
 have h1:=Yg e
 have h2:=Y2 e.kids
 have h3:=ZQ e.ops
 have hc:=Z4Q e
 have ha:=ZqR e
 have hol:=Z6C e.ops
 refine ZFY _ _ _ ?_
 refine ⟨by unfold InR;dsimp only;omega,by unfold InR;dsimp only;omega,?_⟩
 refine Za (ι:=Int × Int) (fun s=> Z4F e s.1 s.2) (fun s=> 1≤s.1∧0≤s.2∧s.2≤e.kids.length∧s.1+Z1O (e.kids.drop s.2.toNat)+JV e.ops - e.ops.length=Jc e) (fun s=> ((e.kids.length:Int) - s.2).toNat) (1+e.words.length+e.ops.length,0) rfl ⟨by dsimp only;omega,by simp,by simp,by simp;omega⟩ ?_
 rintro ⟨n,i⟩ ⟨g0,g1,g2,g3⟩
 dsimp only at g0 g1 g2 g3
 refine Zw0 _ _ _ _ _ _ ?_
 rintro y1 hy1 y2 hy2
 (simp only [vcS])
 refine ⟨fun hi=> ?_,fun hi=> ?_⟩
 ·have hm:=YQ (Zi (l:=e.kids) (i:=i.toNat) (by omega) (KidOf.mk 0 Edit.nil))
  rw [Y3 g1 hi (KidOf.mk 0 Edit.nil)] at g3
  rw [←hy1] at g3 hm
  simp only [Z1O,Zmk] at g3
  rw [←hy2] at g3 hm
  have h5:=Z4Q y2
  have h6:=Z8x (e.kids.drop (i+1).toNat)
  refine ⟨⟨g1,hi⟩,by simp only [Z66];omega,by simp only [Zfu];omega,by unfold InR;omega,by unfold InR;omega,(n+Jc y2,i+1),rfl,⟨by dsimp only;omega,by dsimp only;omega,by dsimp only;omega,by dsimp only;omega⟩,by dsimp only;omega⟩
 ·rw [List.drop_of_length_le (by omega)] at g3
  simp only [Z1O] at g3
  refine Za (ι:=Int × Int) (fun s=> Z23 e s.1 s.2) (fun s=> 1≤s.1∧0≤s.2∧s.2≤e.ops.length∧s.1+JV (e.ops.drop s.2.toNat) - (e.ops.length - s.2)=Jc e) (fun s=> ((e.ops.length:Int) - s.2).toNat) (n,0) rfl ⟨by dsimp only;omega,by simp,by simp,by simp;omega⟩ ?_
  rintro ⟨m,j⟩ ⟨f0,f1,f2,f3⟩
  dsimp only at f0 f1 f2 f3
  refine ZvZ _ _ _ _ _ _ ?_
  rintro z1 hz1 z2 hz2
  (simp only [vcS])
  refine ⟨fun hj=> ?_,fun hj=> ?_⟩
  ·have hm:=ZW (Zi (l:=e.ops) (i:=j.toNat) (by omega) Op.nil)
   have h7:=Z6C (e.ops.drop (j+1).toNat)
   rw [List.length_drop] at h7
   rw [Y3 f1 hj Op.nil] at f3
   rw [←hz1] at f3 hm
   simp only [JV,ZqQ] at f3
   rw [ZN] at hm
   rw [←hz2] at f3 hm
   have h5:=Z4Q z2
   refine ⟨⟨f1,hj⟩,fun hq=> ?_,fun hq=> ?_⟩
   ·rw [if_pos hq] at f3
    refine ⟨⟨f1,hj⟩,by simp only [Z66];omega,by simp only [Zfu];omega,by unfold InR;omega,by unfold InR;omega,(m+Jc z2,j+1),rfl,⟨by dsimp only;omega,by dsimp only;omega,by dsimp only;omega,by dsimp only;omega⟩,by dsimp only;omega⟩
   ·rw [if_neg hq] at f3
    refine ⟨by unfold InR;omega,(m,j+1),rfl,⟨by dsimp only;omega,by dsimp only;omega,by dsimp only;omega,by dsimp only;omega⟩,by dsimp only;omega⟩
  ·rw [List.drop_of_length_le (by omega)] at f3
   simp only [JV] at f3
   exact YF rfl (by show m=Jc e;omega)
theorem Zkd{α β:Type}{f:α→β}(d:α){a b:List α}(hl:a.length=b.length)(h:∀ i:Nat,i < a.length→f (a.getD i d)=f (b.getD i d)):a.map f=b.map f:=by
 apply List.ext_getElem (by simpa using hl)
 intro i h1 h2
 have h1':i < a.length:=by simpa using h1
 have h2':i < b.length:=by simpa using h2
 have:=h i h1'
 simpa [List.getD_eq_getElem?_getD,List.getElem?_eq_getElem h1',List.getElem?_eq_getElem h2'] using this
theorem Zco{α β:Type}{f:α→β}{d:α}{a b:List α}(h:a.map f=b.map f)(i:Nat):f (a.getD i d)=f (b.getD i d):=by
 have e:=congrArg (fun l=> l[i]?.getD (f d)) h
 simp only [List.getElem?_map] at e
 rw [List.getD_eq_getElem?_getD,List.getD_eq_getElem?_getD]
 cases h1:a[i]? <;> cases h2:b[i]? <;> simp_all
end Go.AM.YtpjenobkibfpcaaGreat
namespace Go.AM.YtpjenobkibfpcaaGreat
open Go.AM Go.Proofs
theorem Z2Q(t:Tree):(Zd t).kind=t.kind:=by
 obtain ⟨k,w,ks⟩:=t
 simp only [Zd]
 by_cases h0:k=0
 ·rw [if_pos h0,h0];try rfl
 ·rw [if_neg h0]
  by_cases h1:k=1
  ·rw [if_pos h1,h1];try rfl
  ·rw [if_neg h1];try rfl
theorem Zdb:∀ (l:List Int),∃ r,l=trim l++r
 | []=> ⟨[],rfl⟩
 | x ::r=> by
  obtain ⟨s,hs⟩:=Zdb r
  simp only [trim]
  split
  ·rename_i e
   split
   ·exact ⟨x ::r,rfl⟩
   ·exact ⟨r,rfl⟩
  ·rename_i y t e
   rw [e] at hs
   exact ⟨s,by rw [hs];rfl⟩
theorem ZaC:∀ (l:List Tree),∃ r,l=Yw l++r
 | []=> ⟨[],rfl⟩
 | x ::r=> by
  obtain ⟨s,hs⟩:=ZaC r
  simp only [Yw]
  split
  ·rename_i e
   split
   ·exact ⟨x ::r,rfl⟩
   ·exact ⟨r,rfl⟩
  ·rename_i y t e
   rw [e] at hs
   exact ⟨s,by rw [hs];rfl⟩
theorem ZdR{list d:Int}:∀ (a b:List Tree),YJ list (a++b) d=true→YJ list a d=true
 | [],_,_=> rfl
 | t ::r,b,h=> by
  simp only [List.cons_append,YJ,Bool.and_eq_true] at h ⊢
  exact ⟨h.1,ZdR r b h.2⟩
theorem Z2s:∀ (l:List Tree),(Ys l).length=l.length
 | []=> rfl
 | t ::r=> by simp only [Ys,List.length_cons,Z2s r]
theorem ZqG{list:Int}{t:Tree}(h:JR list t=true):JR list (Zd t)=true:=by
 unfold JR at h ⊢
 rw [Z2Q]
 split at h
 ·rename_i hl
  rw [if_pos hl]
  simp only [Bool.and_eq_true,decide_eq_true_eq] at h ⊢
  obtain ⟨⟨h1,h2,h3⟩,h4⟩:=h
  obtain ⟨k,w,ks⟩:=t
  simp only [Tree.kind_mk,Tree.kids_mk,Tree.words_mk] at h1 h2 h3 h4
  have:ks=[]:=List.length_eq_zero_iff.1 h2
  subst this
  subst h1
  exact ⟨⟨rfl,rfl,h3⟩,h4⟩
 ·rename_i hl
  rw [if_neg hl]
  exact h
mutual
theorem Z3K:∀ (t:Tree) (d:Int),Ze t d=true→Ze (Zd t) d=true
 | .mk k w ks,d,h=> by
  have ih:=fun (list:Int) (h:YJ list ks (d - 1)=true)=> Z5Y ks list (d - 1) h
  simp only [Ze] at h
  simp only [Zd]
  by_cases h0:k=0
  ·rw [if_pos h0];simp [Tree.nil,Ze]
  ·rw [if_neg h0] at h ⊢
   by_cases h10:k=10
   ·subst h10
    rw [if_pos rfl] at h
    rw [if_neg (by decide)]
    simp only [decide_eq_true_eq] at h
    simp only [Ze]
    rw [if_neg (by decide),if_pos trivial,Z2s]
    simpa using h
   ·rw [if_neg h10] at h
    by_cases hd:d=0
    ·rw [if_pos hd] at h;cases h
    ·rw [if_neg hd] at h
     by_cases h1:k=1
     ·subst h1
      rw [if_pos rfl] at h
      rw [if_pos rfl]
      simp only [Bool.and_eq_true,decide_eq_true_eq] at h
      simp only [Ze]
      rw [if_neg (by decide),if_neg (by decide),if_neg hd,if_pos trivial]
      simp only [Bool.and_eq_true,decide_eq_true_eq]
      obtain ⟨r1,e1⟩:=Zdb w
      obtain ⟨r2,e2⟩:=ZaC (Ys ks)
      have l1:=congrArg List.length e1
      have l2:=congrArg List.length e2
      rw [Z2s] at l2
      simp only [List.length_append] at l1 l2
      refine ⟨⟨by omega,by omega⟩,?_⟩
      have:=ih 1 h.2
      rw [e2] at this
      exact ZdR _ _ this
     ·rw [if_neg h1] at h ⊢
      simp only [Bool.and_eq_true,decide_eq_true_eq] at h
      simp only [Ze]
      rw [if_neg h0,if_neg h10,if_neg hd,if_neg h1,Z2s]
      simp only [Bool.and_eq_true,decide_eq_true_eq]
      exact ⟨h.1,ih k h.2⟩
theorem Z5Y:∀ (l:List Tree) (list d:Int),YJ list l d=true→YJ list (Ys l) d=true
 | [],_,_,_=> rfl
 | t ::r,list,d,h=> by
  simp only [YJ,Bool.and_eq_true] at h
  have h1:=Z3K t d h.1.2
  have h2:=Z5Y r list d h.2
  simp only [Ys,YJ,Bool.and_eq_true]
  exact ⟨⟨ZqG h.1.1,h1⟩,h2⟩
end
end Go.AM.YtpjenobkibfpcaaGreat
namespace Go.AM.YtpjenobkibfpcaaGreat
open Go.AM Go.Proofs
theorem Z1k(e:Edit):(ZS e).kind=e.kind:=by cases e;rfl
theorem ZfJ(e:Edit):(ZS e).old=e.new:=by cases e;rfl
theorem ZfK(e:Edit):(ZS e).new=e.old:=by cases e;rfl
theorem Z8z:∀ (l:List WEdit) (last:Int),Zs last (l.map Z5K)=Zs last l
 | [],_=> rfl
 | w ::r,last=> by
  simp only [List.map_cons,Zs,Z8z r]
  have h1:(Z5K w).at_=w.at_:=rfl
  have h2:(Z5K w).mask=w.mask:=rfl
  have h3:(Z5K w).old=w.new:=rfl
  have h4:(Z5K w).new=w.old:=rfl
  rw [h1,h2,h3,h4,Bool.and_assoc,Bool.and_assoc,Bool.and_assoc,Bool.and_assoc]
  congr 1
  rw [←Bool.and_assoc,←Bool.and_assoc,Bool.and_comm (Yu w.new w.mask)]
theorem Zl0(o:Op):Z3 (J8 o)=Z3 o∧((J8 o).kind=2↔o.kind=1)∧((J8 o).kind=1↔o.kind=2):=by
 rw [JL]
 by_cases h1:o.kind=1
 ·rw [if_pos h1];simp [Z3,h1]
 ·rw [if_neg h1]
  by_cases h2:o.kind=2
  ·rw [if_pos h2];simp [Z3,h2]
  ·rw [if_neg h2]
   by_cases h3:o.kind=3
   ·rw [if_pos h3];simp [Z3,h3]
   ·rw [if_neg h3];simp [Z3,h1,h2]
theorem Z9V:∀ (l:List Op) (n:Int),Ym (Jt l) n=Jb l n∧Jb (Jt l) n=Ym l n
 | [],_=> ⟨rfl,rfl⟩
 | o ::r,n=> by
  obtain ⟨h1,h2,h3⟩:=Zl0 o
  simp only [Jt,Ym,Jb]
  rw [h1]
  constructor
  ·rw [(Z9V r _).1]
   congr 2
   by_cases h:o.kind=1
   ·rw [if_pos (h2.2 h),if_pos h]
   ·rw [if_neg (fun x=> h (h2.1 x)),if_neg h]
  ·rw [(Z9V r _).2]
   congr 2
   by_cases h:o.kind=2
   ·rw [if_pos (h3.2 h),if_pos h]
   ·rw [if_neg (fun x=> h (h3.1 x)),if_neg h]
theorem Z7Y:∀ (l:List Op),(Jt l).length=l.length
 | []=> rfl
 | o ::r=> by simp only [Jt,List.length_cons,Z7Y r]
theorem Zwm{list d:Int}{o:Op}(h:Zc list o d=true)(hi:Z2 o.e d=true→Z2 (ZS o.e) d=true):Zc list (J8 o) d=true:=by
 have h':=h
 rw [Jn] at h
 by_cases k0:o.kind=0
 ·have e:J8 o=o:=by rw [JL,if_neg (by omega),if_neg (by omega),if_neg (by omega)]
  rw [e];exact h'
 ·rw [if_neg k0] at h
  split at h
  ·cases h
  ·rename_i hk
   by_cases k3:o.kind=3
   ·rw [if_neg (by omega)] at h
    have e:J8 o=⟨o.kind,o.n,o.l,ZS o.e⟩:=by rw [JL,if_neg (by omega),if_neg (by omega),if_pos k3]
    rw [e,Jn]
    simp only
    rw [if_neg k0,if_neg hk,if_neg (by omega),Z1k,ZfJ,ZfK]
    simp only [Bool.and_eq_true,decide_eq_true_eq] at h ⊢
    refine ⟨⟨h.1.1,hi h.1.2⟩,?_⟩
    omega
   ·rw [if_pos (by omega)] at h
    have hk':o.kind=1∨o.kind=2:=by omega
    rcases hk' with k | k
    ·have e:J8 o=⟨2,o.n,o.l,o.e⟩:=by rw [JL,if_pos k]
     rw [e,Jn]
     simp only
     rw [if_neg (by decide),if_neg (by omega),if_pos (by decide)]
     exact h
    ·have e:J8 o=⟨1,o.n,o.l,o.e⟩:=by rw [JL,if_neg (by omega),if_pos k]
     rw [e,Jn]
     simp only
     rw [if_neg (by decide),if_neg (by omega),if_pos (by decide)]
     exact h
mutual
theorem Z03:∀ (e:Edit) (d:Int),Z2 e d=true→Z2 (ZS e) d=true
 | .mk k o n w ks l os,d,h=> by
  have h1:=Z9k ks
  have h2:=Z9g l os
  simp only [Z2] at h
  simp only [ZS,Z2]
  split at h
  ·cases h
  ·rename_i a
   rw [if_neg a]
   split at h
   ·cases h
   ·rename_i b
    rw [if_neg (by rw [List.length_map,Zd9,Z7Y];intro hc;apply b;rcases hc with x | x | x;exact Or.inl ⟨x.1,fun y=> x.2 ⟨y.2,y.1⟩⟩;exact Or.inr (Or.inl x);exact Or.inr (Or.inr x))]
    split at h
    ·rename_i c
     rw [if_pos c]
     simp only [Bool.and_eq_true,decide_eq_true_eq] at h ⊢
     exact ⟨⟨h.1.2,h.1.1⟩,h.2.2,h.2.1⟩
    ·rename_i c
     rw [if_neg c]
     simp only [Bool.and_eq_true,decide_eq_true_eq] at h ⊢
     obtain ⟨⟨⟨⟨x1,x2⟩,x3⟩,x4⟩,x5⟩:=h
     refine ⟨⟨⟨⟨by rw [Z8z];exact x1,h1 _ _ x2⟩,x3⟩,h2 _ x4⟩,?_⟩
     rw [(Z9V os 0).1,(Z9V os 0).2]
     exact ⟨x5.2,x5.1⟩
theorem Z9k:∀ (ks:List (KidOf Edit)) (last d:Int),Zx last ks d=true→Zx last (JZ ks) d=true
 | [],_,_,_=> rfl
 | k ::r,last,d,h=> by
  simp only [Zx,Bool.and_eq_true] at h
  have h1:=Zfq k last d h.1
  have h2:=Z9k r k.at_ d h.2
  simp only [JZ,Zx,Bool.and_eq_true]
  exact ⟨h1,by rw [Zda];exact h2⟩
theorem Zfq:∀ (k:KidOf Edit) (last d:Int),YT last k d=true→YT last (Z1D k) d=true
 | ⟨a,e⟩,last,d,h=> by
  simp only [YT,Bool.and_eq_true] at h
  have h1:=Z03 e d h.2
  simp only [Z1D,YT,Bool.and_eq_true]
  rw [Z1k]
  exact ⟨h.1,h1⟩
theorem Z9g(list:Int):∀ (os:List (OpOf Edit)) (d:Int),Zp list os d=true→Zp list (Jt os) d=true
 | [],_,_=> rfl
 | o ::r,d,h=> by
  simp only [Zp,Bool.and_eq_true] at h
  have h1:=Zha list o d h.1
  have h2:=Z9g list r d h.2
  simp only [Jt,Zp,Bool.and_eq_true]
  exact ⟨h1,h2⟩
theorem Zha(list:Int):∀ (o:OpOf Edit) (d:Int),Zc list o d=true→Zc list (J8 o) d=true
 | ⟨k,n,l,e⟩,d,h=> Zwm (o:=⟨k,n,l,e⟩) h (fun he=> Z03 e d he)
end
end Go.AM.YtpjenobkibfpcaaGreat
namespace Go.AM.YtpjenobkibfpcaaGreat
open Go.AM Go.Proofs
theorem Zbf:∀ (a b:List Tree),Zh (a++b)=Zh a+Zh b
 | [],b=> by simp [Zh]
 | t ::r,b=> by simp only [List.cons_append,Zh,Zbf r b];omega
theorem Z09:∀ (a b:List Op),Zg (a++b)=Zg a+Zg b
 | [],b=> by simp [Zg]
 | t ::r,b=> by simp only [List.cons_append,Zg,Z09 r b];omega
theorem Z6m:∀ (l:List Tree),Zh (Zb l)≤Zh l
 | []=> by simp [Zb,Zh]
 | t ::r=> by
  have h:=Z6m r
  have h2:=Ja t
  simp only [Zb] at h
  simp only [Zb,List.map_cons,Zh]
  omega
theorem Z7c:Z9 Edit.nil=3:=by simp [Edit.nil,Tree.nil,Z9,Zu,Zh,Zq,Zg]
theorem Z0Q:Zu Tree.nil=1:=by simp [Tree.nil,Zu,Zh]
theorem Z7b(t:Tree):1≤Zu t:=by cases t;simp only [Zu];omega
theorem Z0a:∀ (e:Edit),3≤Z9 e
 | .mk k o n w ks l os=> by
  have h1:=Z7b o
  have h2:=Z7b n
  simp only [Z9];omega
def Z6a(w:Wst):Nat:=Zg w.out+w.out.length+Zh w.gone+Zh w.brought+(if w.gone.length=0 then 0 else 4)+(if w.brought.length=0 then 0 else 4)
theorem Z0H(o:Op):Zg [o]=Zw o:=by simp [Zg]
theorem Z2O(k n:Int)(l:List Tree)(e:Edit):Zw (OpOf.mk k n l e)=Zh l+Z9 e:=rfl
theorem Zb3(w:Wst):Zg (Z1 w).out+(Z1 w).out.length=Z6a w:=by
 simp only [Z1,YD,Z6a]
 rw [Z09,Z09,List.length_append,List.length_append]
 by_cases hg:w.gone.length=0
 ·have e:w.gone=[]:=List.length_eq_zero_iff.1 hg
  rw [if_pos hg,if_pos hg,e]
  by_cases hb:w.brought.length=0
  ·have e2:w.brought=[]:=List.length_eq_zero_iff.1 hb
   rw [if_pos hb,if_pos hb,e2];simp [Zg,Zh]
  ·rw [if_neg hb,if_neg hb,Z0H,Z2O,Z7c];simp [Zg,Zh];omega
 ·rw [if_neg hg,if_neg hg,Z0H,Z2O,Z7c]
  by_cases hb:w.brought.length=0
  ·have e2:w.brought=[]:=List.length_eq_zero_iff.1 hb
   rw [if_pos hb,if_pos hb,e2];simp [Zg,Zh];omega
  ·rw [if_neg hb,if_neg hb,Z0H,Z2O,Z7c];simp;omega
theorem ZjL(w:Wst)(n:Int):Z6a (ZG w n)≤Z6a w+4:=by
 have h:=Zb3 w
 have e:Z6a (ZG w n)=Zg (Ye (Z1 w).out n)+(Ye (Z1 w).out n).length:=by simp [Z6a,ZG,Zh]
 rw [e]
 rcases Jk (Z1 w).out n with e | ⟨a,o,e1,_,e3⟩
 ·rw [e,Z09,List.length_append,Z0H,Z2O,Z7c];simp [Zh];omega
 ·rw [e3,Z09,List.length_append,Z0H]
  rw [e1,Z09,List.length_append,Z0H] at h
  obtain ⟨k,m,l,e⟩:=o
  simp only [Z2O] at h ⊢
  simp at h ⊢
  omega
theorem ZAu{list:Int}{w:Wst}{o:Op}(hi:Z9 (Zv o.e)≤Z9 o.e):Z6a (Z0r list o w)≤Z6a w+Zw o+1:=by
 have h3:=Z0a o.e
 have hm:Zw o=Zh o.l+Z9 o.e:=by cases o;rfl
 have hn:=Z6m o.l
 have hl:(Zb o.l).length=o.l.length:=by simp [Zb]
 rw [YE]
 split
 ·have:=ZjL w o.n;omega
 ·split
  ·simp only [Z6a,Zbf,List.length_append,hl]
   split <;> split <;> split <;> omega
  ·split
   ·simp only [Z6a,Zbf,List.length_append,hl]
    split <;> split <;> split <;> omega
   ·split
    ·split
     ·have:=ZjL w 1;omega
     ·have:=Zb3 w
      have e:Z6a ⟨(Z1 w).out++[⟨3,0,[],Zv o.e⟩],[],[]⟩=Zg ((Z1 w).out++[(⟨3,0,[],Zv o.e⟩:Op)])+((Z1 w).out++[(⟨3,0,[],Zv o.e⟩:Op)]).length:=by simp [Z6a,Zh]
      rw [e,Z09,List.length_append,Z0H,Z2O]
      simp [Zh];omega
    ·omega
mutual
theorem Z4w:∀ (e:Edit),Z9 (Zv e)≤Z9 e
 | .mk k o n w ks l os=> by
  have h1:=ZeJ ks
  have h2:=Znx l os W0
  have h3:=Zb3 (Zr l os W0)
  have e0:Z6a W0=0:=rfl
  have po:=Z7b o
  have pn:=Z7b n
  have mo:=Ja o
  have mn:=Ja n
  rw [Zv]
  split
  ·simp only [Z9,Zq,Zg,List.length_nil];omega
  ·split
   ·simp only [Z9,Zq,Zg,List.length_nil,Z0Q];omega
   ·split
    ·simp only [Z9,Zq,List.length_nil,Z0Q]
     show 1+1+1+0+(Z1 (Zr l os W0)).out.length+0+Zg (Z1 (Zr l os W0)).out≤_
     omega
    ·simp only [Z9,Zq,Zg,List.length_nil,Z0Q];omega
theorem ZeJ:∀ (ks:List (KidOf Edit)),Zq (J3 ks)≤Zq ks
 | []=> Nat.le_refl _
 | k ::r=> by
  have h1:=Zk9 k
  have h2:=ZeJ r
  simp only [J3,Zq];omega
theorem Zk9:∀ (k:KidOf Edit),Yd (Z0F k)≤Yd k
 | ⟨a,e⟩=> by
  have h:=Z4w e
  simp only [Z0F,Yd];exact h
theorem Znx(list:Int):∀ (os:List (OpOf Edit)) (w:Wst),Z6a (Zr list os w)≤Z6a w+Zg os+os.length
 | [],w=> by simp [Zr,Zg]
 | o ::r,w=> by
  have h1:=Zqf list o w
  have h2:=Znx list r (Z0r list o w)
  simp only [Zr,Zg,List.length_cons];omega
theorem Zqf(list:Int):∀ (o:OpOf Edit) (w:Wst),Z6a (Z0r list o w)≤Z6a w+Zw o+1
 | ⟨k,n,l,e⟩,_=> ZAu (o:=⟨k,n,l,e⟩) (Z4w e)
end
end Go.AM.YtpjenobkibfpcaaGreat
namespace Go.AM.YtpjenobkibfpcaaGreat
open Go.AM Go.Proofs
theorem Z77(e:Edit):(Zv e).kind=e.kind:=by
 rw [Z2r]
 split
 ·try rfl
 ·split
  ·try rfl
  ·split <;> rfl
theorem Z9v(e:Edit)(h:e.kind=1):(Zv e).old=Zd e.old∧(Zv e).new=Zd e.new:=by
 rw [Z2r,if_pos h]
 exact ⟨rfl,rfl⟩
theorem Zlj{D list:Int}{t:Tree}(hD:D≠0)(h:Ze (.mk list [] [t]) D=true):Ze (.mk list [] [Zd t]) D=true:=by
 have key:=fun (k d:Int) (h:YJ k [t] d=true)=> Z5Y [t] k d h
 simp only [Ys] at key
 simp only [Ze] at h ⊢
 split at h
 ·simp at h
 ·rename_i h0
  rw [if_neg h0]
  split at h
  ·simp at h
  ·rename_i h1
   rw [if_neg h1]
   try rw [if_neg hD] at h
   try rw [if_neg hD]
   split at h
   ·rename_i h2
    rw [if_pos h2]
    simp only [Bool.and_eq_true] at h ⊢
    exact ⟨h.1,key _ _ h.2⟩
   ·rename_i h2
    rw [if_neg h2]
    simp only [Bool.and_eq_true] at h ⊢
    exact ⟨h.1,key _ _ h.2⟩
theorem Z3Y{D list:Int}(hD:D≠0):∀ {l:List Tree},YH D list l=true→YH D list (Zb l)=true
 | [],_=> rfl
 | t ::r,h=> by
  simp only [YH,Bool.and_eq_true] at h
  have h2:=Z3Y hD h.2
  simp only [Zb] at h2
  simp only [Zb,List.map_cons,YH,Bool.and_eq_true]
  exact ⟨Zlj hD h.1,h2⟩
theorem Z5L{D list:Int}:∀ {a b:List Tree},YH D list a=true→YH D list b=true→YH D list (a++b)=true
 | [],_,_,h=> h
 | t ::r,b,h,h2=> by
  simp only [YH,Bool.and_eq_true] at h
  simp only [List.cons_append,YH,Bool.and_eq_true]
  exact ⟨h.1,Z5L h.2 h2⟩
def rOp(list:Int)(d:Int)(o:Op):Prop:=(o.kind=0→1≤o.n∧o.l.length=0∧Z1g o.e=true)∧(o.kind≠0→Zc list o d=true)
theorem Ya{list d:Int}{o:Op}(h:Zc list o d=true):rOp list d o:=by
 refine ⟨fun hk=> ?_,fun _=> h⟩
 obtain ⟨k,n,l,e⟩:=o
 simp only at hk
 subst hk
 simp only [Zc,if_true,Bool.and_eq_true,decide_eq_true_eq] at h
 exact ⟨h.1.1,h.1.2.2,h.2⟩
theorem ZAr{list d:Int}{o:Op}(h:rOp list d o)(hn:o.kind=0→o.n≤1048576):Zc list o d=true:=by
 by_cases hk:o.kind=0
 ·have h1:=h.1 hk
  have h2:=hn hk
  obtain ⟨k,n,l,e⟩:=o
  simp only at hk h1 h2
  subst hk
  simp only [Zc,if_true,Bool.and_eq_true,decide_eq_true_eq]
  exact ⟨⟨h1.1,h2,h1.2.1⟩,h1.2.2⟩
 ·exact h.2 hk
theorem Yb{list:Int}:∀ {os:List Op} {d:Int},Zp list os d=true↔∀ o∈os,Zc list o d=true
 | [],d=> by simp [Zp]
 | o ::r,d=> by
  simp only [Zp,Bool.and_eq_true,List.mem_cons,forall_eq_or_imp]
  rw [Yb (os:=r)]
theorem Z38:Z1g Edit.nil=true:=rfl
structure OkW (list d:Int) (w:Wst):Prop where
 out:∀ o∈w.out,rOp list d o
 gone:YH (dT d) list w.gone=true
 brought:YH (dT d) list w.brought=true
theorem Zb9{list d:Int}{w:Wst}(h:OkW list d w):OkW list d (Z1 w):=by
 refine ⟨?_,rfl,rfl⟩
 simp only [Z1,YD]
 intro o ho
 rcases List.mem_append.1 ho with ho | ho
 ·exact h.out o ho
 rcases List.mem_append.1 ho with ho | ho
 ·split at ho
  ·cases ho
  ·rename_i hl
   simp only [List.mem_singleton] at ho
   subst ho
   refine ⟨fun hk=> (by cases hk),fun _=> ?_⟩
   simp only [Zc]
   rw [if_neg (by decide),if_neg (by decide),if_pos (by decide),h.gone,Z38]
   simp only [Bool.and_true,Bool.true_and,decide_eq_true_eq]
   omega
 ·split at ho
  ·cases ho
  ·rename_i hl
   simp only [List.mem_singleton] at ho
   subst ho
   refine ⟨fun hk=> (by cases hk),fun _=> ?_⟩
   simp only [Zc]
   rw [if_neg (by decide),if_neg (by decide),if_pos (by decide),h.brought,Z38]
   simp only [Bool.and_true,Bool.true_and,decide_eq_true_eq]
   omega
theorem ZjT{list d:Int}{w:Wst}{n:Int}(h:OkW list d w)(hn:1≤n):OkW list d (ZG w n):=by
 have hf:=Zb9 h
 refine ⟨?_,rfl,rfl⟩
 simp only [ZG]
 intro o ho
 rcases Jk (Z1 w).out n with e | ⟨a,q,e1,e2,e3⟩
 ·rw [e] at ho
  rcases List.mem_append.1 ho with ho | ho
  ·exact hf.out o ho
  ·simp only [List.mem_singleton] at ho
   subst ho
   exact ⟨fun _=> ⟨hn,rfl,Z38⟩,fun hk=> absurd rfl hk⟩
 ·rw [e3] at ho
  rcases List.mem_append.1 ho with ho | ho
  ·exact hf.out o (by rw [e1];exact List.mem_append.2 (Or.inl ho))
  ·simp only [List.mem_singleton] at ho
   subst ho
   have hq:=(hf.out q (by rw [e1];simp)).1 e2
   exact ⟨fun _=> ⟨by simp only;omega,hq.2⟩,fun hk=> absurd e2 hk⟩
theorem ZAy{list d:Int}{w:Wst}{o:Op}(h:OkW list d w)(hr:Zc list o d=true)(hi:Z2 o.e d=true→Z2 (Zv o.e) d=true):OkW list d (Z0r list o w):=by
 obtain ⟨k,n,l,e⟩:=o
 have hr0:=hr
 rw [Zc] at hr
 rw [YE]
 simp only at hi ⊢
 split at hr
 ·rename_i hk
  rw [if_pos hk]
  simp only [Bool.and_eq_true,decide_eq_true_eq] at hr
  exact ZjT h hr.1.1
 ·rename_i hk
  rw [if_neg hk]
  split at hr
  ·cases hr
  ·rename_i hn
   split at hr
   ·rename_i h3
    simp only [Bool.and_eq_true,decide_eq_true_eq] at hr
    by_cases k1:k=1
    ·rw [if_pos k1]
     exact ⟨h.out,Z5L h.gone (Z3Y (ZzK d) hr.1.1),h.brought⟩
    ·rw [if_neg k1,if_pos (by omega)]
     exact ⟨h.out,h.gone,Z5L h.brought (Z3Y (ZzK d) hr.1.1)⟩
   ·rename_i h3
    rw [if_neg (by omega),if_neg (by omega),if_pos (by omega)]
    split
    ·exact ZjT h (by decide)
    ·have hf:=Zb9 h
     refine ⟨?_,rfl,rfl⟩
     intro o ho
     rcases List.mem_append.1 ho with ho | ho
     ·exact hf.out o ho
     ·simp only [List.mem_singleton] at ho
      subst ho
      refine ⟨fun hk=> (by cases hk),fun _=> ?_⟩
      simp only [Bool.and_eq_true,decide_eq_true_eq] at hr
      simp only [Zc]
      rw [if_neg (by decide),if_neg (by decide),if_neg (by decide),Z77,hi hr.1.2]
      simp only [Bool.and_true,Bool.and_eq_true,decide_eq_true_eq]
      refine ⟨⟨rfl,hr.1.1.2⟩,?_⟩
      rcases hr.2 with h | h | h
      ·exact Or.inl h
      ·exact Or.inr (Or.inl h)
      ·rw [(Z9v e h.1).1,(Z9v e h.1).2,Z2Q,Z2Q]
       exact Or.inr (Or.inr h)
def ZH:List Op→Int
 | []=> 0
 | o ::r=> (if o.kind=2 then 0 else Z3 o)+ZH r
def Yf:List Op→Int
 | []=> 0
 | o ::r=> (if o.kind=1 then 0 else Z3 o)+Yf r
theorem Z36:∀ (a b:List Op),ZH (a++b)=ZH a+ZH b
 | [],b=> by simp [ZH]
 | o ::r,b=> by simp only [List.cons_append,ZH,Z36 r b];omega
theorem Z1Q:∀ (a b:List Op),Yf (a++b)=Yf a+Yf b
 | [],b=> by simp [Yf]
 | o ::r,b=> by simp only [List.cons_append,Yf,Z1Q r b];omega
theorem Yl:∀ (l:List Op) (n:Int),(∀ o∈l,0≤Z3 o)→0≤n→n≤1048576→Ym l n=min (n+ZH l) 1048576∧0≤ZH l
 | [],n,_,h1,h2=> by simp only [Ym,ZH];omega
 | o ::r,n,h,h1,h2=> by
  have ho:=h o (List.mem_cons_self ..)
  simp only [Ym,ZH]
  have hx:0≤(if o.kind=2 then n else n+Z3 o)∧(if o.kind=2 then n else n+Z3 o)=n+(if o.kind=2 then 0 else Z3 o):=by split <;> omega
  have hy:0≤(if o.kind=2 then 0 else Z3 o):=by split <;> omega
  rw [hx.2]
  rw [hx.2] at hx
  generalize (if o.kind=2 then 0 else Z3 o)=y at*
  obtain ⟨e1,e2⟩:=Yl r (min (n+y) 1048576) (fun x hx=> h x (List.mem_cons_of_mem _ hx)) (by omega) (by omega)
  rw [e1]
  omega
theorem YW:∀ (l:List Op) (n:Int),(∀ o∈l,0≤Z3 o)→0≤n→n≤1048576→Jb l n=min (n+Yf l) 1048576∧0≤Yf l
 | [],n,_,h1,h2=> by simp only [Jb,Yf];omega
 | o ::r,n,h,h1,h2=> by
  have ho:=h o (List.mem_cons_self ..)
  simp only [Jb,Yf]
  have hx:0≤(if o.kind=1 then n else n+Z3 o)∧(if o.kind=1 then n else n+Z3 o)=n+(if o.kind=1 then 0 else Z3 o):=by split <;> omega
  have hy:0≤(if o.kind=1 then 0 else Z3 o):=by split <;> omega
  rw [hx.2]
  rw [hx.2] at hx
  generalize (if o.kind=1 then 0 else Z3 o)=y at*
  obtain ⟨e1,e2⟩:=YW r (min (n+y) 1048576) (fun x hx=> h x (List.mem_cons_of_mem _ hx)) (by omega) (by omega)
  rw [e1]
  omega
theorem ZM{list d:Int}{o:Op}(h:rOp list d o):0≤Z3 o:=by
 unfold Z3
 split
 ·decide
 ·by_cases hk:o.kind=0
  ·have:=(h.1 hk).1;omega
  ·have hr:=h.2 hk
   obtain ⟨k,n,l,e⟩:=o
   simp only at hk ⊢
   rw [Zc,if_neg hk] at hr
   split at hr
   ·cases hr
   ·omega
theorem Zj2:∀ {l:List Op} {o:Op},(∀ o∈l,0≤Z3 o)→o∈l→o.kind≠2→Z3 o≤ZH l
 | a ::r,o,h,ho,hk=> by
  have hr:=(Yl r 0 (fun x hx=> h x (List.mem_cons_of_mem _ hx)) (by decide) (by decide)).2
  have ha:=h a (List.mem_cons_self ..)
  simp only [ZH]
  rcases List.mem_cons.1 ho with rfl | ho
  ·rw [if_neg hk];omega
  ·have:=Zj2 (fun x hx=> h x (List.mem_cons_of_mem _ hx)) ho hk
   split <;> omega
def sA(w:Wst):Int:=ZH w.out+w.gone.length
def sB(w:Wst):Int:=Yf w.out+w.brought.length
theorem Z6H(w:Wst):ZH (Z1 w).out=sA w∧Yf (Z1 w).out=sB w:=by
 simp only [Z1,YD,sA,sB,Z36,Z1Q]
 constructor
 ·by_cases hg:w.gone.length=0
  ·rw [if_pos hg]
   by_cases hb:w.brought.length=0
   ·rw [if_pos hb];simp [ZH];omega
   ·rw [if_neg hb];simp [ZH];omega
  ·rw [if_neg hg]
   by_cases hb:w.brought.length=0
   ·rw [if_pos hb];simp [ZH,Z3]
   ·rw [if_neg hb];simp [ZH,Z3]
 ·by_cases hg:w.gone.length=0
  ·rw [if_pos hg]
   by_cases hb:w.brought.length=0
   ·rw [if_pos hb];simp [Yf];omega
   ·rw [if_neg hb];simp [Yf,Z3]
  ·rw [if_neg hg]
   by_cases hb:w.brought.length=0
   ·rw [if_pos hb];simp [Yf];omega
   ·rw [if_neg hb];simp [Yf,Z3]
theorem Zj1(w:Wst)(n:Int):sA (ZG w n)=sA w+n∧sB (ZG w n)=sB w+n:=by
 have hf:=Z6H w
 simp only [ZG]
 have e1:∀ x,sA ⟨x,[],[]⟩=ZH x:=fun x=> by simp [sA]
 have e2:∀ x,sB ⟨x,[],[]⟩=Yf x:=fun x=> by simp [sB]
 rw [e1,e2,←hf.1,←hf.2]
 rcases Jk (Z1 w).out n with e | ⟨a,q,e1,e2,e3⟩
 ·rw [e,Z36,Z1Q]
  simp [ZH,Yf,Z3]
 ·rw [e3,e1,Z36,Z1Q,Z36,Z1Q]
  simp only [ZH,Yf,Z3,e2]
  simp
  omega
theorem ZAj{list d:Int}{w:Wst}{o:Op}(hr:Zc list o d=true):sA (Z0r list o w)=sA w+(if o.kind=2 then 0 else Z3 o)∧sB (Z0r list o w)=sB w+(if o.kind=1 then 0 else Z3 o):=by
 have hl:∀ l,((Zb l).length:Int)=l.length:=fun l=> by simp [Zb]
 obtain ⟨k,n,l,e⟩:=o
 rw [Zc] at hr
 rw [YE]
 simp only [Z3]
 split at hr
 ·rename_i hk
  subst hk
  rw [if_pos rfl]
  simp only [Bool.and_eq_true,decide_eq_true_eq] at hr
  have:=Zj1 w n
  simp
  omega
 ·rename_i hk
  rw [if_neg hk]
  split at hr
  ·cases hr
  ·rename_i hn
   split at hr
   ·rename_i h3
    by_cases k1:k=1
    ·subst k1
     rw [if_pos rfl]
     simp only [sA,sB,List.length_append]
     simp [hl]
     omega
    ·have k2:k=2:=by omega
     subst k2
     rw [if_neg k1,if_pos rfl]
     simp only [sA,sB,List.length_append]
     simp [hl]
     omega
   ·rename_i h3
    have k3:k=3:=by omega
    subst k3
    rw [if_neg (by omega),if_neg (by omega),if_pos rfl]
    split
    ·have:=Zj1 w 1
     simp
     omega
    ·have:=Z6H w
     simp only [sA,sB,Z36,Z1Q,ZH,Yf,Z3] at this ⊢
     simp
     omega
mutual
theorem Jo:∀ (e:Edit) (d:Int),Z2 e d=true→Z2 (Zv e) d=true
 | .mk k o n w ks l os,d,h=> by
  have h1:=ZbL ks
  have h2:=ZnB l os
  have h4:=Zh1 l os
  rw [Z2] at h
  split at h
  ·cases h
  ·rename_i a
   split at h
   ·cases h
   ·rename_i b
    have nn:ZZ Tree.nil=true:=rfl
    by_cases k1:k=1
    ·subst k1
     rw [if_pos rfl] at h
     have hl:l=0:=by
      apply Classical.byContradiction
      intro hl
      exact b (.inr (.inr ⟨by decide,.inl hl⟩))
     simp only [Bool.and_eq_true,decide_eq_true_eq] at h
     rw [Zv,if_pos rfl,Z2,if_neg a,if_neg (by simp [hl]),if_pos rfl]
     simp only [Bool.and_eq_true,decide_eq_true_eq]
     rw [Z2Q,Z2Q]
     exact ⟨⟨Z3K _ _ h.1.1,Z3K _ _ h.1.2⟩,h.2⟩
    ·rw [if_neg k1] at h
     simp only [Bool.and_eq_true,decide_eq_true_eq] at h
     obtain ⟨⟨⟨⟨x1,x2⟩,x3⟩,x4⟩,x5⟩:=h
     rw [Zv,if_neg k1]
     by_cases k2:k=2
     ·have hl:l=0:=by
       apply Classical.byContradiction
       intro hl
       exact b (.inr (.inr ⟨by omega,.inl hl⟩))
      rw [if_pos k2,Z2,if_neg a,if_neg (by simp [nn,hl,k2]),if_neg k1]
      simp only [Bool.and_eq_true,decide_eq_true_eq]
      exact ⟨⟨⟨⟨x1,h1 _ _ x2⟩,x3⟩,rfl⟩,by decide⟩
     ·rw [if_neg k2]
      by_cases k3:k=3
      ·rw [if_pos k3,Z2,if_neg a,if_neg (by simp [nn,k3]),if_neg k1]
       simp only [Bool.and_eq_true,decide_eq_true_eq]
       have hall:=Yb.1 x4
       obtain ⟨y1,y2⟩:=Yl os 0 (fun o ho=> ZM (Ya (hall o ho))) (by decide) (by decide)
       obtain ⟨z1,z2⟩:=YW os 0 (fun o ho=> ZM (Ya (hall o ho))) (by decide) (by decide)
       have hw:=h2 (d - 1) W0 x4 ⟨fun o ho=> (by cases ho),rfl,rfl⟩
       have hs:=h4 (d - 1) W0 x4
       have hff:=Zb9 hw
       have hsf:=Z6H (Zr l os W0)
       have e0:sA W0=0∧sB W0=0:=⟨rfl,rfl⟩
       have hA:=Yl (Z1 (Zr l os W0)).out 0 (fun o ho=> ZM (hff.out o ho)) (by decide) (by decide)
       have hB:=YW (Z1 (Zr l os W0)).out 0 (fun o ho=> ZM (hff.out o ho)) (by decide) (by decide)
       refine ⟨⟨⟨⟨rfl,rfl⟩,x3⟩,Yb.2 (fun o ho=> ZAr (hff.out o ho) (fun hk=> ?_))⟩,?_,?_⟩
       ·have hm:=Zj2 (fun o ho=> ZM (hff.out o ho)) ho (by omega)
        unfold Z3 at hm
        rw [if_neg (by omega)] at hm
        omega
       ·show Ym (Z1 (Zr l os W0)).out 0 < 1048576
        omega
       ·show Jb (Z1 (Zr l os W0)).out 0 < 1048576
        omega
      ·have hl:l=0:=by
        apply Classical.byContradiction
        intro hl
        exact b (.inr (.inr ⟨k3,.inl hl⟩))
       rw [if_neg k3,Z2,if_neg a,if_neg (by simp [nn,hl]),if_neg k1]
       simp only [Bool.and_eq_true,decide_eq_true_eq]
       exact ⟨⟨⟨⟨rfl,rfl⟩,x3⟩,rfl⟩,by decide⟩
theorem ZbL:∀ (ks:List (KidOf Edit)) (last d:Int),Zx last ks d=true→Zx last (J3 ks) d=true
 | [],_,_,_=> rfl
 | k ::r,last,d,h=> by
  simp only [Zx,Bool.and_eq_true] at h
  have h1:=Zhc k last d h.1
  have h2:=ZbL r k.at_ d h.2
  simp only [J3,Zx,Bool.and_eq_true]
  exact ⟨h1,by rw [Z76];exact h2⟩
theorem Zhc:∀ (k:KidOf Edit) (last d:Int),YT last k d=true→YT last (Z0F k) d=true
 | ⟨a,e⟩,last,d,h=> by
  simp only [YT,Bool.and_eq_true] at h
  have h1:=Jo e d h.2
  simp only [Z0F,YT,Bool.and_eq_true]
  rw [Z77]
  exact ⟨h.1,h1⟩
theorem ZnB(list:Int):∀ (os:List (OpOf Edit)) (d:Int) (w:Wst),Zp list os d=true→OkW list d w→OkW list d (Zr list os w)
 | [],_,_,_,hw=> hw
 | o ::r,d,w,h,hw=> by
  simp only [Zp,Bool.and_eq_true] at h
  have h1:=Zql list o d w h.1 hw
  exact ZnB list r d _ h.2 h1
theorem Zql(list:Int):∀ (o:OpOf Edit) (d:Int) (w:Wst),Zc list o d=true→OkW list d w→OkW list d (Z0r list o w)
 | ⟨k,n,l,e⟩,d,w,h,hw=> ZAy (o:=⟨k,n,l,e⟩) hw h (fun he=> Jo e d he)
theorem Zh1(list:Int):∀ (os:List (OpOf Edit)) (d:Int) (w:Wst),Zp list os d=true→sA (Zr list os w)=sA w+ZH os∧sB (Zr list os w)=sB w+Yf os
 | [],_,_,_=> by simp [Zr,ZH,Yf]
 | o ::r,d,w,h=> by
  simp only [Zp,Bool.and_eq_true] at h
  have h1:=ZAj (w:=w) h.1
  have h2:=Zh1 list r d (Z0r list o w) h.2
  simp only [Zr,ZH,Yf]
  omega
end
end Go.AM.YtpjenobkibfpcaaGreat
namespace Go.AM.YtpjenobkibfpcaaGreat
open Go.AM Go.Proofs
theorem Z5W:∀ {a b:List Tree},Yq (a++b)↔Yq a∧Yq b
 | [],b=> by simp [Yq]
 | t ::r,b=> by simp only [List.cons_append,Yq];rw [Z5W (a:=r),and_assoc]
mutual
theorem Z0X:∀ (t:Tree),rng t→rng (Zd t)
 | .mk k w ks,h=> by
  simp only [rng] at h
  obtain ⟨h1,h2,h3⟩:=h
  have h4:=Zg1 ks h3
  simp only [Zd]
  split
  ·simp only [Tree.nil,rng,Yq]
   exact ⟨by decide,by simp,trivial⟩
  ·split
   ·obtain ⟨r1,e1⟩:=Zdb w
    obtain ⟨r2,e2⟩:=ZaC (Ys ks)
    simp only [rng]
    refine ⟨by decide,fun x hx=> h2 x (by rw [e1];exact List.mem_append.2 (Or.inl hx)),?_⟩
    rw [e2] at h4
    exact (Z5W.1 h4).1
   ·simp only [rng]
    exact ⟨h1,h2,h4⟩
theorem Zg1:∀ (l:List Tree),Yq l→Yq (Ys l)
 | [],_=> trivial
 | t ::r,h=> by
  simp only [Yq] at h
  have h1:=Z0X t h.1
  have h2:=Zg1 r h.2
  simp only [Ys,Yq]
  exact ⟨h1,h2⟩
end
theorem Z83:∀ {l:List Tree},Yq l→Yq (Zb l)
 | [],_=> trivial
 | t ::r,h=> by
  simp only [Yq] at h
  have h2:=Z83 h.2
  simp only [Zb] at h2
  simp only [Zb,List.map_cons,Yq]
  exact ⟨Z0X t h.1,h2⟩
theorem Z1U:rng Tree.nil:=by
 simp only [Tree.nil,rng,Yq]
 exact ⟨by decide,by simp,trivial⟩
mutual
theorem Z6V:∀ (e:Edit),YI e→YI (ZS e)
 | .mk k o n w ks l os,h=> by
  simp only [YI] at h
  obtain ⟨h1,h2,h3,h4,h5,h6,h7⟩:=h
  have i6:=ZdM ks h6
  have i7:=ZdL os h7
  simp only [ZS,YI]
  refine ⟨h1,h3,h2,fun x hx=> ?_,h5,i6,i7⟩
  obtain ⟨y,hy,rfl⟩:=List.mem_map.1 hx
  have:=h4 y hy
  simp only [Z39,Z5K] at this ⊢
  exact ⟨this.1,this.2.1,this.2.2.2,this.2.2.1⟩
theorem ZdM:∀ (ks:List (KidOf Edit)),Z0q ks→Z0q (JZ ks)
 | [],_=> trivial
 | k ::r,h=> by
  simp only [Z0q] at h
  have h1:=Zjp k h.1
  have h2:=ZdM r h.2
  simp only [JZ,Z0q]
  exact ⟨h1,h2⟩
theorem Zjp:∀ (k:KidOf Edit),Z1n k→Z1n (Z1D k)
 | ⟨a,e⟩,h=> by
  simp only [Z1n] at h
  have h2:=Z6V e h.2
  simp only [Z1D,Z1n]
  exact ⟨h.1,h2⟩
theorem ZdL:∀ (os:List (OpOf Edit)),Z02 os→Z02 (Jt os)
 | [],_=> trivial
 | o ::r,h=> by
  simp only [Z02] at h
  have h1:=Zlf o h.1
  have h2:=ZdL r h.2
  simp only [Jt,Z02]
  exact ⟨h1,h2⟩
theorem Zlf:∀ (o:OpOf Edit),Yz o→Yz (J8 o)
 | ⟨k,n,l,e⟩,h=> by
  simp only [Yz] at h
  have h4:=Z6V e h.2.2.2
  simp only [J8]
  split
  ·simp only [Yz];exact ⟨by unfold isI;omega,h.2⟩
  ·split
   ·simp only [Yz];exact ⟨by unfold isI;omega,h.2⟩
   ·split
    ·simp only [Yz];exact ⟨h.1,h.2.1,h.2.2.1,h4⟩
    ·simp only [Yz];exact h
end
structure RngW (w:Wst):Prop where
 out:∀ o∈w.out,Yq o.l∧YI o.e
 gone:Yq w.gone
 brought:Yq w.brought
theorem Z6W:YI Edit.nil:=by
 simp only [Edit.nil,YI,Z0q,Z02]
 exact ⟨by unfold isI;omega,Z1U,Z1U,by simp,by unfold isI;omega,trivial,trivial⟩
theorem Z82{w:Wst}(h:RngW w):RngW (Z1 w):=by
 refine ⟨?_,trivial,trivial⟩
 simp only [Z1,YD]
 intro o ho
 rcases List.mem_append.1 ho with ho | ho
 ·exact h.out o ho
 rcases List.mem_append.1 ho with ho | ho
 ·split at ho
  ·cases ho
  ·simp only [List.mem_singleton] at ho
   subst ho
   exact ⟨h.gone,Z6W⟩
 ·split at ho
  ·cases ho
  ·simp only [List.mem_singleton] at ho
   subst ho
   exact ⟨h.brought,Z6W⟩
theorem ZfY{w:Wst}{n:Int}(h:RngW w):RngW (ZG w n):=by
 have hf:=Z82 h
 refine ⟨?_,trivial,trivial⟩
 simp only [ZG]
 intro o ho
 rcases Jk (Z1 w).out n with e | ⟨a,q,e1,e2,e3⟩
 ·rw [e] at ho
  rcases List.mem_append.1 ho with ho | ho
  ·exact hf.out o ho
  ·simp only [List.mem_singleton] at ho
   subst ho
   exact ⟨trivial,Z6W⟩
 ·rw [e3] at ho
  rcases List.mem_append.1 ho with ho | ho
  ·exact hf.out o (by rw [e1];exact List.mem_append.2 (Or.inl ho))
  ·simp only [List.mem_singleton] at ho
   subst ho
   exact hf.out q (by rw [e1];simp)
theorem Zn7{list:Int}{w:Wst}{o:Op}(h:RngW w)(hl:Yq o.l)(he:YI (Zv o.e)):RngW (Z0r list o w):=by
 rw [YE]
 split
 ·exact ZfY h
 ·split
  ·exact ⟨h.out,Z5W.2 ⟨h.gone,Z83 hl⟩,h.brought⟩
  ·split
   ·exact ⟨h.out,h.gone,Z5W.2 ⟨h.brought,Z83 hl⟩⟩
   ·split
    ·split
     ·exact ZfY h
     ·refine ⟨?_,trivial,trivial⟩
      intro o ho
      rcases List.mem_append.1 ho with ho | ho
      ·exact (Z82 h).out o ho
      ·simp only [List.mem_singleton] at ho
       subst ho
       exact ⟨trivial,he⟩
    ·exact h
theorem ZbI:∀ {os:List Op},(∀ o∈os,Yz o)→Z02 os
 | [],_=> trivial
 | o ::r,h=> by
  simp only [Z02]
  exact ⟨h o (List.mem_cons_self ..),ZbI (fun x hx=> h x (List.mem_cons_of_mem _ hx))⟩
theorem Zjs{list d:Int}{o:Op}(h:Zc list o d=true)(hl:Yq o.l)(he:YI o.e):Yz o:=by
 have hn:=Z4n h
 obtain ⟨k,n,l,e⟩:=o
 simp only at hn hl he
 simp only [Yz]
 refine ⟨?_,by unfold isI;omega,hl,he⟩
 rw [Zc] at h
 unfold isI
 split at h
 ·omega
 ·split at h
  ·cases h
  ·omega
mutual
theorem Z2L:∀ (e:Edit) (d:Int),Z2 e d=true→YI e→YI (Zv e)
 | .mk k o n w ks l os,d,hr,h=> by
  have hin:=Z6X hr
  have hout:=Z6X (Jo _ _ hr)
  simp only [Edit.kids_mk,Edit.ops_mk,Edit.list_mk] at hin
  simp only [YI] at h
  obtain ⟨h1,h2,h3,h4,h5,h6,h7⟩:=h
  have i6:=Zg0 ks (d - 1) (fun k hk=> (hin.1 k hk).1) h6
  have i7:=ZfZ l os (d - 1) hin.2 h7 W0 ⟨fun o ho=> (by cases ho),trivial,trivial⟩
  rw [Zv] at hout ⊢
  by_cases k1:k=1
  ·rw [if_pos k1]
   simp only [YI]
   exact ⟨h1,Z0X o h2,Z0X n h3,by simp,h5,trivial,trivial⟩
  ·rw [if_neg k1] at hout ⊢
   by_cases k2:k=2
   ·rw [if_pos k2]
    simp only [YI]
    exact ⟨h1,Z1U,Z1U,h4,h5,i6,trivial⟩
   ·rw [if_neg k2] at hout ⊢
    by_cases k3:k=3
    ·rw [if_pos k3] at hout ⊢
     simp only [YI]
     refine ⟨h1,Z1U,Z1U,by simp,h5,trivial,ZbI (fun q hq=> ?_)⟩
     have hx:=hout.2 q hq
     have hy:=(Z82 i7).out q hq
     exact Zjs hx hy.1 hy.2
    ·rw [if_neg k3]
     simp only [YI]
     exact ⟨h1,Z1U,Z1U,by simp,h5,trivial,trivial⟩
theorem Zg0:∀ (ks:List (KidOf Edit)) (d:Int),(∀ k∈ks,Z2 k.e d=true)→Z0q ks→Z0q (J3 ks)
 | [],_,_,_=> trivial
 | k ::r,d,hr,h=> by
  simp only [Z0q] at h
  have h1:=Zlg k d (hr k (List.mem_cons_self ..)) h.1
  have h2:=Zg0 r d (fun x hx=> hr x (List.mem_cons_of_mem _ hx)) h.2
  simp only [J3,Z0q]
  exact ⟨h1,h2⟩
theorem Zlg:∀ (k:KidOf Edit) (d:Int),Z2 k.e d=true→Z1n k→Z1n (Z0F k)
 | ⟨a,e⟩,d,hr,h=> by
  simp only [Z1n] at h
  have h2:=Z2L e d hr h.2
  simp only [Z0F,Z1n]
  exact ⟨h.1,h2⟩
theorem ZfZ(list:Int):∀ (os:List (OpOf Edit)) (d:Int),(∀ o∈os,Zc list o d=true)→Z02 os→∀ (w:Wst),RngW w→RngW (Zr list os w)
 | [],_,_,_,w,hw=> hw
 | o ::r,d,hr,h,w,hw=> by
  simp only [Z02] at h
  have h1:=Zq7 list o d (hr o (List.mem_cons_self ..)) h.1 w hw
  exact ZfZ list r d (fun x hx=> hr x (List.mem_cons_of_mem _ hx)) h.2 _ h1
theorem Zq7(list:Int):∀ (o:OpOf Edit) (d:Int),Zc list o d=true→Yz o→∀ (w:Wst),RngW w→RngW (Z0r list o w)
 | ⟨k,n,l,e⟩,d,hr,h,w,hw=> by
  simp only [Yz] at h
  by_cases k3:k=3
  ·have he:Z2 e d=true:=by
    rw [Zc,if_neg (by omega),] at hr
    split at hr
    ·cases hr
    ·rw [if_neg (by omega)] at hr
     simp only [Bool.and_eq_true] at hr
     exact hr.1.2
   exact Zn7 (o:=⟨k,n,l,e⟩) hw h.2.2.1 (Z2L e d he h.2.2.2)
  ·have hs:YI (Zv Edit.nil):=by
    show YI (.mk 0 Tree.nil Tree.nil [] [] 0 [])
    exact Z6W
   have e2:Z0r list ⟨k,n,l,e⟩ w=Z0r list ⟨k,n,l,Edit.nil⟩ w:=by
    simp only [Z0r]
    rw [if_neg k3,if_neg k3]
   rw [e2]
   exact Zn7 (o:=⟨k,n,l,Edit.nil⟩) hw h.2.2.1 hs
end
end Go.AM.YtpjenobkibfpcaaGreat
namespace Go.AM.YtpjenobkibfpcaaGreat
open Go.AM Go.Proofs
theorem ZAC(t:Tree):t.words.length+Zh t.kids+1=Zu t:=by obtain ⟨k,w,ks⟩:=t;simp only [Zu,Tree.words_mk,Tree.kids_mk];omega
theorem Zgu:∀ (l:List Tree) (i:Nat) (x:Tree),i < l.length→Zh (l.set i x)+Zu (l.getD i Tree.nil)=Zh l+Zu x
 | [],i,x,h=> by simp at h
 | a ::r,0,x,_=> by simp only [List.set_cons_zero,Zh,List.getD_cons_zero];omega
 | a ::r,i+1,x,h=> by
  have:=Zgu r i x (by simpa using h)
  simp only [List.set_cons_succ,Zh,List.getD_cons_succ];omega
theorem ZlN(n:Nat):Zh (List.replicate n Tree.nil)=n:=by
 induction n with
 | zero=> rfl
 | succ n ih=> rw [List.replicate_succ,Zh,ih];simp [Tree.nil,Zu,Zh];omega
theorem JO:∀ (a b:List Tree),Zh (a++b)=Zh a+Zh b
 | [],b=> by simp [Zh]
 | t ::r,b=> by simp only [List.cons_append,Zh,JO r b];omega
theorem Zqy(l:List Tree)(i:Nat)(x:Tree):Zh (Yj Tree.nil l i x)+Zu (l.getD i Tree.nil)≤Zh l+Zu x+(i+1):=by
 have h:=Zgu (l++List.replicate (i+1 - l.length) Tree.nil) i x (by simp;omega)
 have e:(l++List.replicate (i+1 - l.length) Tree.nil).getD i Tree.nil=l.getD i Tree.nil:=by
  by_cases hi:i < l.length
  ·simp only [List.getD_eq_getElem?_getD];rw [List.getElem?_append_left hi]
  ·simp only [List.getD_eq_getElem?_getD]
   rw [List.getElem?_append_right (by omega),List.getElem?_eq_none (l:=l) (by omega),List.getElem?_replicate]
   split <;> rfl
 rw [e,JO,ZlN] at h
 simp only [Yj]
 omega
theorem ZgW{tw:List Int}:∀ {ws:List WEdit} {last:Int} {out a:List Int},Zs last ws=true→wsD tw ws out=some a→a.length≤max out.length 65535
 | [],_,out,a,_,h=> by rw [wsD] at h;cases h;omega
 | w ::r,last,out,a,hw,h=> by
  have h1:=JX hw w List.mem_cons_self
  simp only [Zs,Bool.and_eq_true] at hw
  rw [wsD] at h
  split at h
  ·have:=ZgW hw.2 h
   rw [Z42] at this
   omega
  ·cases h
theorem Z5b{last d:Int}{k:Kid}{r:List Kid}(h:Zx last (k ::r) d=true):(last < k.at_∧k.at_≤65534)∧Z2 k.e d=true∧Zx k.at_ r d=true:=by
 have:=Y1 h k List.mem_cons_self
 simp only [Zx,Bool.and_eq_true] at h
 exact ⟨⟨this.1.1,this.1.2.1⟩,this.2,h.2⟩
theorem Zrf{tw:List Int}{ws:List WEdit}{last:Int}{out a:List Int}(hw:Zs last ws=true)(h:wsD tw ws out=some a):a.length≤out.length+65600*ws.length:=by
 cases ws with
 | nil=> rw [wsD] at h;cases h;omega
 | cons w r=>
  have:=ZgW hw h
  simp only [List.length_cons]
  omega
theorem Zev(r:Bool)(v:Tree):Zu (nrD r v)≤Zu v:=by
 unfold nrD
 split
 ·exact Ja v
 ·exact Nat.le_refl _
mutual
theorem ZeH(r:Bool):∀ (e:Edit) (d:Int) (t v:Tree),Z2 e d=true→ZAq r e t=some v→Zu v+18≤Zu t+ctE e
 | .mk k o n w ks l os,d,t,v,hr,hv=> by
  have ri:=Zz hr
  have h1:=Zgt r ks t.kids
  have h2:=Zgs r l os
  have ht:=ZAC t
  have po:=YA o
  have pn:=YA n
  have pt:=YA t
  unfold ZAq at hv
  simp only [ctE]
  split at hv
  ·cases hv;omega
  ·split at hv
   ·split at hv
    ·cases hv
     show Zu n+18≤_
     omega
    ·cases hv
   ·split at hv
    ·split at hv
     ·obtain ⟨a,ha,hb⟩:=Option.bind_eq_some_iff.1 hv
      obtain ⟨b,hb,e⟩:=Option.map_eq_some_iff.1 hb
      have l1:=Zrf ri.words ha
      simp only [Edit.words_mk] at l1
      have l2:=h1 t.kids b _ (-1) (by omega) ri.kids (fun j _=> rfl) hb
      rw [←e]
      simp only [Zu]
      omega
     ·cases hv
    ·split at hv
     ·split at hv
      ·obtain ⟨b,hb,e⟩:=Option.map_eq_some_iff.1 hv
       unfold Z4f at hb
       obtain ⟨x,hx,hy⟩:=Option.bind_eq_some_iff.1 hb
       have l2:=h2 _ t.kids [] x (fun o ho=> Go.AM.rightOs_mem ri.ops o ho) hx
       split at hy
       ·cases hy
        rw [←e]
        simp only [Zu,List.length_nil]
        simp only [Zh] at l2
        omega
       ·cases hy
      ·cases hv
     ·cases hv
theorem Zgt(r:Bool):∀ (ks:List (KidOf Edit)) (tk out b:List Tree) (d last:Int),-1≤last→Zx last ks d=true→(∀ j:Nat,last < (j:Int)→out.getD j Tree.nil=tk.getD j Tree.nil)→Z2c r tk ks out=some b→Zh b≤Zh out+Z0L ks
 | [],tk,out,b,d,last,_,_,_,h=> by rw [Z2c] at h;cases h;simp
 | k ::s,tk,out,b,d,last,hl,hr,hj,h=> by
  obtain ⟨h1,h2,h3⟩:=Z5b hr
  rw [Z2c] at h
  obtain ⟨u,hu,hb⟩:=Option.bind_eq_some_iff.1 h
  have m1:=ZlL r k tk u d h2 hu
  have m2:=Zqy out k.at_.toNat u
  rw [hj k.at_.toNat (by omega)] at m2
  have m3:=Zgt r s tk _ b d k.at_ (by omega) h3 (fun j hj'=> by
   rw [Z3F,if_neg (by omega)]
   exact hj j (by omega)) hb
  have m4:k.at_.toNat+1≤65600:=by omega
  have e1:Z0L (k ::s)=65600+ctE k.e+Z0L s:=by obtain ⟨a,e⟩:=k;rfl
  rw [e1]
  omega
theorem ZlL(r:Bool):∀ (k:KidOf Edit) (tk:List Tree) (u:Tree) (d:Int),Z2 k.e d=true→ZgH r tk k=some u→Zu u+18≤Zu (tk.getD k.at_.toNat Tree.nil)+ctE k.e
 | ⟨a,e⟩,tk,u,d,hr,h=> by
  rw [ZgH,Zik] at h
  obtain ⟨v,hv,hu⟩:=Option.map_eq_some_iff.1 h
  have:=ZeH r e d (tk.getD a.toNat Tree.nil) v hr hv
  have hvu:=Zev r v
  rw [hu] at hvu
  dsimp only
  omega
theorem Zgs(r:Bool)(l:Int):∀ (os:List (OpOf Edit)) (d:Int) (rest out:List Tree) (x:List Tree × List Tree),(∀ o∈os,Zc l o d=true)→J0 r os rest out=some x→Zh x.1+Zh x.2≤Zh out+Zh rest+J7 os
 | [],d,rest,out,x,_,h=> by rw [J0] at h;cases h;simp
 | o ::s,d,rest,out,x,hr,h=> by
  rw [J0] at h
  obtain ⟨y,hy,hx⟩:=Option.bind_eq_some_iff.1 h
  have m1:=Zqu r l o d rest out y (hr o List.mem_cons_self) hy
  have m2:=Zgs r l s d _ _ x (fun q hq=> hr q (List.mem_cons_of_mem _ hq)) hx
  rw [J7]
  omega
theorem Zqu(r:Bool)(l:Int):∀ (o:OpOf Edit) (d:Int) (rest out:List Tree) (x:List Tree × List Tree),Zc l o d=true→Zmi r o rest out=some x→Zh x.1+Zh x.2≤Zh out+Zh rest+Z3t o
 | ⟨k,n,L,e⟩,d,rest,out,x,hr,h=> by
  have he:=ZeH r e d (rest.getD 0 Tree.nil)
  rw [Zmi] at h
  simp only [Z3t]
  split at h
  ·split at h
   ·cases h
    have:=JO (rest.take n.toNat) (rest.drop n.toNat)
    rw [List.take_append_drop] at this
    dsimp only
    rw [JO];omega
   ·cases h
  ·split at h
   ·split at h
    ·cases h
     have:=Z3o L.length rest
     dsimp only;omega
    ·cases h
   ·split at h
    ·cases h
     dsimp only
     rw [JO];omega
    ·split at h
     ·cases h
     ·obtain ⟨u,hu,e2⟩:=Option.map_eq_some_iff.1 h
      cases e2
      have hk:k=3:=by
       have ra:=ZC hr
       generalize ho:OpOf.mk k n L e=o at ra
       cases ra <;> (injection ho with h1;try omega)
      rw [Zik] at hu
      obtain ⟨v,hv,hu⟩:=Option.map_eq_some_iff.1 hu
      have:=he v (Jm hr hk) hv
      have hvu:=Zev r v
      rw [hu] at hvu
      cases rest with
      | nil=> contradiction
      | cons a q=>
       rw [JO]
       simp only [Zh,List.drop_succ_cons,List.drop_zero,List.getD_cons_zero] at this ⊢
       omega
end
theorem Z9I(r:Bool)(e:Edit)(d:Int)(t u:Tree)(hr:Z2 e d=true)(h:doE r e t=some u):Zu u+18≤Zu t+ctE e:=by
 rw [Zik] at h
 obtain ⟨v,hv,hu⟩:=Option.map_eq_some_iff.1 h
 have:=ZeH r e d t v hr hv
 have hvu:=Zev r v
 rw [hu] at hvu
 omega
theorem ZAz{f:Nat→Int}(h:∀ i,0≤f i∧f i < 256):isW (of8 f):=by
 have h0:=h 0;have h1:=h 1;have h2:=h 2;have h3:=h 3;have h4:=h 4;have h5:=h 5;have h6:=h 6;have h7:=h 7
 unfold isW of8
 omega
theorem ZhO(a b m:Int):isW (mix a b m):=ZAz (Z6i a b m)
theorem Z9e{l:List Tree}(h:∀ t∈l,rng t):Yq l:=by
 induction l with
 | nil=> exact trivial
 | cons a r ih=> exact ⟨h a List.mem_cons_self,ih fun t ht=> h t (List.mem_cons_of_mem _ ht)⟩
theorem Z0M:rng Tree.nil:=⟨by decide,by simp,trivial⟩
theorem Z81{α:Type}{z x y:α}{l:List α}{i:Nat}(h:y∈Yj z l i x):y∈l∨y=z∨y=x:=by
 rcases List.mem_or_eq_of_mem_set h with h | h
 ·rcases List.mem_append.1 h with h | h
  ·exact .inl h
  ·exact .inr (.inl (List.eq_of_mem_replicate h))
 ·exact .inr (.inr h)
theorem Zn6{ks:List Tree}(h:Yq ks)(i:Nat):rng (ks.getD i Tree.nil):=by
 by_cases hi:i < ks.length
 ·exact JI h (Zi hi _)
 ·rw [List.getD_eq_getElem?_getD,List.getElem?_eq_none (by omega)]
  exact Z0M
theorem Zrg{tw:List Int}:∀ {ws:List WEdit} {out a:List Int},(∀ x∈out,isW x)→wsD tw ws out=some a→∀ x∈a,isW x
 | [],out,a,h,hw=> by rw [wsD] at hw;cases hw;exact h
 | w ::r,out,a,h,hw=> by
  rw [wsD] at hw
  split at hw
  ·refine Zrg (fun x hx=> ?_) hw
   rcases Z81 hx with hx | rfl | rfl
   ·exact h x hx
   ·exact ⟨by omega,by omega⟩
   ·exact ZhO _ _ _
  ·cases hw
mutual
theorem ZaJ(r:Bool):∀ (e:Edit) (t u:Tree),YI e→rng t→doE r e t=some u→rng u
 | .mk k o n w ks l os,t,u,hr,ht,h=> by
  have h1:=Zjm r ks
  have h2:=Zjl r os
  simp only [YI] at hr
  obtain ⟨r1,r2,r3,r4,r5,r6,r7⟩:=hr
  have hta:isI t.kind∧(∀ x∈t.words,isW x)∧Yq t.kids:=by obtain ⟨k,w,ks⟩:=t;exact ht
  rw [Z4g] at h
  obtain ⟨v,hv,hu⟩:=Option.map_eq_some_iff.1 h
  suffices rng v by
   rw [←hu];unfold nrD
   split
   ·exact Z0X v this
   ·exact this
  clear h hu
  split at hv
  ·cases hv;exact ht
  ·split at hv
   ·split at hv
    ·cases hv;exact r3
    ·cases hv
   ·split at hv
    ·split at hv
     ·obtain ⟨a,ha,hb⟩:=Option.bind_eq_some_iff.1 hv
      obtain ⟨b,hb,e⟩:=Option.map_eq_some_iff.1 hb
      rw [←e]
      exact ⟨by decide,Zrg hta.2.1 ha,h1 _ _ _ r6 hta.2.2 hta.2.2 hb⟩
     ·cases hv
    ·split at hv
     ·split at hv
      ·obtain ⟨b,hb,e⟩:=Option.map_eq_some_iff.1 hv
       unfold Z4f at hb
       obtain ⟨x,hx,hy⟩:=Option.bind_eq_some_iff.1 hb
       split at hy
       ·cases hy
        rw [←e]
        exact ⟨r5,by simp,(h2 _ [] _ r7 hta.2.2 trivial hx).1⟩
       ·cases hy
      ·cases hv
     ·cases hv
theorem Zjm(r:Bool):∀ (ks:List (KidOf Edit)) (tk out b:List Tree),Z0q ks→Yq tk→Yq out→Z2c r tk ks out=some b→Yq b
 | [],tk,out,b,_,_,ho,h=> by rw [Z2c] at h;cases h;exact ho
 | k ::s,tk,out,b,hk,ht,ho,h=> by
  rw [Z2c] at h
  obtain ⟨u,hu,hb⟩:=Option.bind_eq_some_iff.1 h
  have m1:=Zq6 r k tk u hk.1 ht hu
  refine Zjm r s tk _ b hk.2 ht (Z9e fun x hx=> ?_) hb
  rcases Z81 hx with hx | rfl | rfl
  ·exact JI ho hx
  ·exact Z0M
  ·exact m1
theorem Zq6(r:Bool):∀ (k:KidOf Edit) (tk:List Tree) (u:Tree),Z1n k→Yq tk→ZgH r tk k=some u→rng u
 | ⟨a,e⟩,tk,u,hr,ht,h=> by
  rw [ZgH] at h
  exact ZaJ r e _ u hr.2 (Zn6 ht _) h
theorem Zjl(r:Bool):∀ (os:List (OpOf Edit)) (rest out:List Tree) (x:List Tree × List Tree),Z02 os→Yq rest→Yq out→J0 r os rest out=some x→Yq x.1∧Yq x.2
 | [],rest,out,x,_,hr,ho,h=> by rw [J0] at h;cases h;exact ⟨ho,hr⟩
 | o ::s,rest,out,x,hs,hr,ho,h=> by
  rw [J0] at h
  obtain ⟨y,hy,hx⟩:=Option.bind_eq_some_iff.1 h
  have m1:=Zsi r o rest out y hs.1 hr ho hy
  exact Zjl r s _ _ x hs.2 m1.2 m1.1 hx
theorem Zsi(r:Bool):∀ (o:OpOf Edit) (rest out:List Tree) (x:List Tree × List Tree),Yz o→Yq rest→Yq out→Zmi r o rest out=some x→Yq x.1∧Yq x.2
 | ⟨k,n,L,e⟩,rest,out,x,hs,hr,ho,h=> by
  have he:=ZaJ r e (rest.getD 0 Tree.nil)
  simp only [Yz] at hs
  have hd:∀ n,Yq (rest.drop n):=fun n=> Z9e fun t ht=> JI hr (List.mem_of_mem_drop ht)
  have hap:∀ l,Yq l→Yq (out++l):=fun l hl=> Z5W.2 ⟨ho,hl⟩
  rw [Zmi] at h
  split at h
  ·split at h
   ·cases h
    exact ⟨hap _ (Z9e fun t ht=> JI hr (List.mem_of_mem_take ht)),hd _⟩
   ·cases h
  ·split at h
   ·split at h
    ·cases h
     exact ⟨ho,hd _⟩
    ·cases h
   ·split at h
    ·cases h
     exact ⟨hap _ hs.2.2.1,hr⟩
    ·split at h
     ·cases h
     ·obtain ⟨u,hu,e2⟩:=Option.map_eq_some_iff.1 h
      cases e2
      exact ⟨hap _ ⟨he u hs.2.2.2 (Zn6 hr 0) hu,trivial⟩,hd _⟩
end
end Go.AM.YtpjenobkibfpcaaGreat
namespace Go.AM.YtpjenobkibfpcaaGreat
open Go.AM Go.Proofs
section
variable {α β:Type} (z:α) (f:β→Option α) (p:β→Int)
def asc(last:Int):List β→Prop
 | []=> True
 | w ::r=> last < p w∧asc (p w) r
variable {z f p} {l0:List α} {ws:List β} {n a i:Int} {out:List α}
theorem Zmn{last:Int}:∀ {l:List β},asc p last l→∀ w∈l,last < p w
 | [],_,_,hw=> by cases hw
 | b ::r,h,w,hw=> by
  rcases List.mem_cons.1 hw with rfl | hw
  ·exact h.1
  ·have:=Zmn h.2 w hw
   have:=h.1
   omega
end
theorem ZaA:∀ {ws:List WEdit} {last:Int},Zs last ws=true→asc WEdit.at_ last ws
 | [],_,_=> trivial
 | w ::r,last,h=> by
  have h1:=JX h w List.mem_cons_self
  simp only [Zs,Bool.and_eq_true] at h
  exact ⟨h1.1,ZaA h.2⟩
theorem ZeV:∀ {ks:List Kid} {last d:Int},Zx last ks d=true→asc KidOf.at_ last ks
 | [],_,_,_=> trivial
 | k ::r,last,d,h=> by
  obtain ⟨h1,_,h3⟩:=Z5b h
  exact ⟨h1.1,ZeV h3⟩
end Go.AM.YtpjenobkibfpcaaGreat
namespace Go.AM.YtpjenobkibfpcaaGreat
open Go.AM Go.Proofs
theorem Z4Z{x y x' y':Int}(h:x+256*y=x'+256*y')(hx:0≤x∧x < 256)(hx':0≤x'∧x' < 256):x=x'∧y=y':=by omega
theorem Zwo{f g:Nat→Int}(hf:∀ i,0≤f i∧f i < 256)(hg:∀ i,0≤g i∧g i < 256)(h:of8 f=of8 g):∀ i,i < 8→f i=g i:=by
 unfold of8 at h
 obtain ⟨h0,h⟩:=Z4Z h (hf 0) (hg 0)
 obtain ⟨h1,h⟩:=Z4Z h (hf 1) (hg 1)
 obtain ⟨h2,h⟩:=Z4Z h (hf 2) (hg 2)
 obtain ⟨h3,h⟩:=Z4Z h (hf 3) (hg 3)
 obtain ⟨h4,h⟩:=Z4Z h (hf 4) (hg 4)
 obtain ⟨h5,h⟩:=Z4Z h (hf 5) (hg 5)
 obtain ⟨h6,h7⟩:=Z4Z h (hf 6) (hg 6)
 intro i hi
 match i,hi with
 | 0,_=> exact h0
 | 1,_=> exact h1
 | 2,_=> exact h2
 | 3,_=> exact h3
 | 4,_=> exact h4
 | 5,_=> exact h5
 | 6,_=> exact h6
 | 7,_=> exact h7
theorem Zqm{a:Int}(h:isW a):of8 (Zn a)=a:=by
 obtain ⟨h0,h1⟩:=h
 simp only [of8,Zn]
 omega
theorem Zk3{a b m:Int}{i:Nat}(h:i < 8):Zn (mix a b m) i=Ji a b m i:=
 Zwo (fun i=> Z1c _ i) (Z6i a b m) (by rw [Zqm (ZhO a b m)];rfl) i h
section
variable {α β:Type} {z:α} {f:β→Option α} {p:β→Int}
end
end Go.AM.YtpjenobkibfpcaaGreat
namespace Go.AM.YtpjenobkibfpcaaGreat
open Go.AM Go.Proofs
theorem Zbn(l rest:List Tree):Z5F l rest=true↔l.length≤rest.length∧Zb l=Zb (rest.take l.length):=by
 unfold Z5F
 rw [Bool.and_eq_true,decide_eq_true_eq,Z1a]
end Go.AM.YtpjenobkibfpcaaGreat
