import Derived.Test.YtpjenobkibfpcaaKG22e
import Derived.Test.YtpjenobkibfpcaaKL22m
import Derived.Test.YtpjenobkibfpcaaKB21b
import Derived.Test.YtpjenobkibfpcaaCD25s
import Derived.Test.YtpjenobkibfpcaaKD24
set_option linter.unusedSimpArgs false
set_option linter.unusedVariables false
namespace Go.AM.Ytpjenobkibfpcaa
open Go.AM Go.Proofs
theorem Zc9:∀ (l:List Op),0≤ZH l∧(ZH l < l.length→(l.getD (ZH l).toNat Op.nil).kind≠1∧(l.getD (ZH l).toNat Op.nil).kind≠2)
 | []=> by simp [ZH]
 | o ::r=> by
  obtain ⟨h1,h2⟩:=Zc9 r
  rw [ZH]
  split
  ·rename_i hk
   refine ⟨by omega,fun h=> ?_⟩
   rw [show (1+ZH r).toNat=(ZH r).toNat+1 by omega,List.getD_cons_succ]
   exact h2 (by simp at h;omega)
  ·rename_i hk
   refine ⟨by omega,fun _=> ?_⟩
   simp only [Int.toNat_zero,List.getD_cons_zero]
   omega
theorem ZiE:∀ (l:List Op),ZH l≤l.length
 | []=> by simp [ZH]
 | o ::r=> by
  have:=ZiE r
  rw [ZH]
  split <;> simp <;> omega
theorem ZgM(l:List Op)(i k:Nat):(l.drop i).getD k Op.nil=l.getD (i+k) Op.nil:=by
 simp [List.getD,List.getElem?_drop]
theorem ZcC{list:Int}{o:Op}{d:Int}(h:Zf list o d=true):o.kind=0∨o.kind=1∨o.kind=2∨o.kind=3:=by
 obtain ⟨k,n,l,e⟩:=o
 show k=0∨k=1∨k=2∨k=3
 rw [Zf] at h
 split at h
 ·omega
 ·split at h
  ·cases h
  ·omega
theorem b76:Zw7:=by
 intro N list l _ hp hN
 simp only [Z8p,ZeG] at hp hN
 obtain ⟨p1,p3⟩:=hp
 have hl:=Y3 l
 refine Zwp _ _ _ _ ?_
 refine Za (ι:=Int × List Op) (fun s=> ZQ list l s.1 s.2)
  (fun s=> 0≤s.1∧s.1≤l.length∧(Z1 (Zo list (l.drop s.1.toNat) ⟨s.2,[],[]⟩)).out=(Z1 (Zo list l ⟨[],[],[]⟩)).out∧s.2.length≤3*s.1∧∀ o∈s.2,0≤o.n∧o.n≤s.1*1048576)
  (fun s=> ((l.length:Int) - s.1).toNat) (0,[]) rfl ⟨by simp,by simp,by simp,by simp,by simp⟩ ?_
 rintro ⟨i,out⟩ ⟨g1,g2,g3,g4,g6⟩
 dsimp only at g1 g2 g3 g4 g6
 have key:i < l.length→∀ F,F=(Z1 ⟨out,Yo 1 (l.drop i.toNat),Yo 2 (l.drop i.toNat)⟩).out→
   Zhe N list l i F (fun s2=> ∃ j:Int × List Op,s2=ZQ list l j.1 j.2∧(0≤j.1∧j.1≤l.length∧(Z1 (Zo list (l.drop j.1.toNat) ⟨j.2,[],[]⟩)).out=(Z1 (Zo list l ⟨[],[],[]⟩)).out∧j.2.length≤3*j.1∧∀ o∈j.2,0≤o.n∧o.n≤j.1*1048576)∧((l.length:Int) - j.1).toNat < ((l.length:Int) - i).toNat) (Jg cfg Try.f76.ntmps Try.f76.results.toList (Za7 (list,l,())) []):=by
  intro hi F hF
  obtain ⟨q1,q2⟩:=Zc9 (l.drop i.toNat)
  have q3:=ZiE (l.drop i.toNat)
  rw [List.length_drop] at q2 q3
  rw [ZgM,show i.toNat+(ZH (l.drop i.toNat)).toNat=(i+ZH (l.drop i.toNat)).toNat by omega] at q2
  rw [ZbS,List.drop_drop,show i.toNat+(ZH (l.drop i.toNat)).toNat=(i+ZH (l.drop i.toNat)).toNat by omega] at g3
  simp only [List.nil_append] at g3
  have hfl:=Z4Z ⟨out,Yo 1 (l.drop i.toNat),Yo 2 (l.drop i.toNat)⟩
  have hfm:=Z4Y ⟨out,Yo 1 (l.drop i.toNat),Yo 2 (l.drop i.toNat)⟩
  have hflush:Z1 ⟨out,Yo 1 (l.drop i.toNat),Yo 2 (l.drop i.toNat)⟩=⟨F,[],[]⟩:=by rw [hF];try rfl
  have hkeep:∀ n,Zy ⟨out,Yo 1 (l.drop i.toNat),Yo 2 (l.drop i.toNat)⟩ n=⟨Y8 F n,[],[]⟩:=by intro n;rw [hF];try rfl
  rw [←hF] at hfl hfm
  simp only at hfl hfm
  refine Zoo _ _ _ _ _ _ _ ?_
  rintro y1 hy1 y2 hy2 y3 hy3 y4 hy4 y5 hy5 y6 hy6
  generalize hj:i+ZH (l.drop i.toNat)=j at*
  have hy:y2=Edit.nil:=hy2
  subst hy
  have hFn:∀ o∈F,0≤o.n∧o.n≤i*1048576:=by
   intro o ho
   rcases hfm o ho with h1 | h1
   ·exact g6 o h1
   ·omega
  simp only [show ((0:Int)==0)=true from rfl,show ((3:Int)==0)=false from rfl,cond_true,cond_false]
  (simp only [vcS])
  refine ⟨fun hjl=> ?_,fun hjl=> ?_⟩
  ·rw [List.drop_of_length_le (by omega)] at g3
   simp only [Zo,hflush] at g3
   simp only [Za7]
   rw [←g3]
   (repeat' (first | exact trivial | exact rfl | apply And.intro))
  ·have hmem:=Zl (l:=l) (i:=j.toNat) (by omega) Op.nil
   have hm:=Y2 hmem
   obtain ⟨d,hr2⟩:=p3 _ hmem
   have hq:=q2 (by omega)
   rw [←hy1] at hm hr2 hq
   have hkind:=ZcC hr2
   rw [ZR (by omega) (by omega) Op.nil,←hy1,Zo,Yq] at g3
   have hmo:=Yg y1
   have hlast:(F.length:Int) - 1=((F.length - 1:Nat):Int)∨F.length=0:=by omega
   have e2:((F.length:Int) - 1).toNat=F.length - 1:=by omega
   rw [e2] at hy3 ⊢
   have hk3:0 < F.length→0≤y3.n∧y3.n≤i*1048576:=fun h=> by
    rw [hy3];exact hFn _ (Zl (by omega) _)
   have keeps:∀ n:Int,0≤n∧n≤1048576→(Z1 (Zo list (l.drop (j+1).toNat) ⟨Y8 F n,[],[]⟩)).out=(Z1 (Zo list l ⟨[],[],[]⟩)).out→
     ((0 < F.length∧y3.kind=0→∃ q:Int × List Op,ZQ list l (j+1) (F.set (F.length - 1) ⟨y3.kind,y3.n+n,y3.l,y5⟩)=ZQ list l q.1 q.2∧(0≤q.1∧q.1≤l.length∧(Z1 (Zo list (l.drop q.1.toNat) ⟨q.2,[],[]⟩)).out=(Z1 (Zo list l ⟨[],[],[]⟩)).out∧q.2.length≤3*q.1∧∀ o∈q.2,0≤o.n∧o.n≤q.1*1048576)∧((l.length:Int) - q.1).toNat < ((l.length:Int) - i).toNat)∧
      (¬(0 < F.length∧y3.kind=0)→∃ q:Int × List Op,ZQ list l (j+1) (F++[⟨0,n,[],Edit.nil⟩])=ZQ list l q.1 q.2∧(0≤q.1∧q.1≤l.length∧(Z1 (Zo list (l.drop q.1.toNat) ⟨q.2,[],[]⟩)).out=(Z1 (Zo list l ⟨[],[],[]⟩)).out∧q.2.length≤3*q.1∧∀ o∈q.2,0≤o.n∧o.n≤q.1*1048576)∧((l.length:Int) - q.1).toNat < ((l.length:Int) - i).toNat)):=by
    intro n hn hg
    rw [Z4b,←hy3,←hy5] at hg
    refine ⟨fun hc=> ?_,fun hc=> ?_⟩
    ·rw [if_pos ⟨by omega,hc.2⟩] at hg
     refine ⟨(j+1,_),rfl,⟨by dsimp only;omega,by dsimp only;omega,hg,by dsimp only;rw [List.length_set];omega,fun o ho=> ?_⟩,by dsimp only;omega⟩
     dsimp only at ho ⊢
     have hk4:=hk3 (by omega)
     rcases List.mem_or_eq_of_mem_set ho with ho | rfl
     ·have:=hFn o ho;omega
     ·simp only;omega
    ·rw [if_neg (fun h=> hc ⟨by omega,h.2⟩)] at hg
     refine ⟨(j+1,_),rfl,⟨by dsimp only;omega,by dsimp only;omega,hg,by dsimp only;rw [List.length_append,List.length_singleton];omega,fun o ho=> ?_⟩,by dsimp only;omega⟩
     dsimp only at ho ⊢
     rcases List.mem_append.1 ho with ho | ho
     ·have:=hFn o ho;omega
     ·simp only [List.mem_singleton] at ho
      subst ho
      simp only;omega
   refine ⟨by omega,by omega,fun hk=> ?_,fun hk=> ?_⟩
   ·rw [if_neg (by omega),if_neg (by omega),if_neg (by omega),if_pos hk] at g3
    rw [←hy4,←hy6,hkeep,hflush] at g3
    have hre:=Z6b hr2 hk
    rw [←hy4] at hre
    have hmE:Zg y4≤ZX y1:=by rw [hmo,hy4];omega
    refine ⟨by omega,by simp only [Z3o];exact ⟨by omega,d,hre⟩,by simp only [ZaC];omega,by simp only [Z6h],fun hq=> ?_,fun hq=> ?_⟩
    ·rw [if_pos hq] at g3
     have hK:=keeps 1 (by omega) g3
     refine ⟨by unfold InR;omega,by omega,fun hc=> ?_,fun hc=> ?_⟩
     ·have hk4:=hk3 (by omega)
      exact ⟨by unfold InR;omega,by unfold InR;omega,by omega,by unfold InR;omega,by omega,by omega,by unfold InR;omega,hK.1 ⟨by omega,hc.2⟩⟩
     ·exact ⟨by simp only [List.length_singleton];omega,by unfold InR;omega,hK.2 (fun h=> by omega)⟩
    ·rw [if_neg (by rw [hq];simp)] at g3
     refine ⟨fun h=> (nomatch h),fun h=> (nomatch h),fun h=> (nomatch h),fun _=> ⟨by simp only [List.length_singleton];omega,by unfold InR;omega,(j+1,F++[⟨3,0,[],y6⟩]),rfl,⟨by dsimp only;omega,by dsimp only;omega,g3,by dsimp only;rw [List.length_append,List.length_singleton];omega,fun o ho=> ?_⟩,by dsimp only;omega⟩⟩
     dsimp only at ho ⊢
     rcases List.mem_append.1 ho with ho | ho
     ·have:=hFn o ho;omega
     ·simp only [List.mem_singleton] at ho
      subst ho
      simp only;omega
   ·have hk0:y1.kind=0:=by omega
    rw [if_pos hk0,hkeep] at g3
    have h1:=Z6a hr2 hk0
    have hK:=keeps y1.n (by omega) g3
    refine ⟨by unfold InR;omega,by omega,fun hc=> ?_,fun hc=> ?_⟩
    ·have hk4:=hk3 (by omega)
     exact ⟨by unfold InR;omega,by unfold InR;omega,by omega,by unfold InR;omega,by omega,by omega,by unfold InR;omega,hK.1 ⟨by omega,hc.2⟩⟩
    ·exact ⟨by simp only [List.length_singleton];omega,by unfold InR;omega,hK.2 (fun h=> by omega)⟩
 refine Zon _ _ _ _ _ _ _ ?_
 rintro y1 hy1
 have hy:y1=Edit.nil:=hy1
 subst hy
 (simp only [vcS])
 refine ⟨fun hi=> ?_,fun hi=> ?_⟩
 ·have kk:=key hi
  simp only [Z1,YD] at kk
  refine ⟨by simp only [Z37];omega,by simp only [Z37];omega,fun h1=> ⟨by simp only [List.length_singleton];omega,fun h2=> ⟨by simp only [List.length_append,List.length_singleton];omega,?_⟩,fun h2=> ?_⟩,fun h1=> ⟨fun h2=> ⟨by simp only [List.length_singleton];omega,?_⟩,fun h2=> ?_⟩⟩
  ·refine kk _ ?_
   rw [if_neg (by omega),if_neg (by omega)];simp
  ·refine kk _ ?_
   rw [if_neg (by omega),if_pos (by omega)];simp
  ·refine kk _ ?_
   rw [if_pos (by omega),if_neg (by omega)];simp
  ·refine kk _ ?_
   rw [if_pos (by omega),if_pos (by omega)];simp
 ·rw [List.drop_of_length_le (by omega)] at g3
  have:(Z1 (Zo list [] ⟨out,[],[]⟩)).out=out:=by simp [Zo,Z1,YD]
  rw [this] at g3
  simp only [Za7]
  rw [←g3]
  (repeat' (first | exact trivial | exact rfl | apply And.intro))
theorem ZfN{e:Edit}{d:Int}(h:Z4 e d=true):(e.kind=0∨e.kind=1∨e.kind=2∨e.kind=3)∧(e.kind≠3→e.list=0):=by
 obtain ⟨k,o,n,w,ks,l,os⟩:=e
 show (k=0∨k=1∨k=2∨k=3)∧(k≠3→l=0)
 rw [Z4] at h
 split at h
 ·cases h
 ·split at h
  ·cases h
  ·rename_i h1 h2
   refine ⟨by omega,fun hk=> ?_⟩
   apply Classical.byContradiction
   intro hl
   exact h2 (.inr (.inr ⟨hk,.inl hl⟩))
theorem b32:Zwb:=by
 intro N e _ hp hN
 simp only [Z3o,ZaC] at hp hN
 obtain ⟨p1,d,p3⟩:=hp
 have h1:=Y6 e
 have h2:=Y4 e.kids
 have h3:=Y3 e.ops
 have ha:=Z3a e
 obtain ⟨hkd,hli⟩:=ZfN p3
 refine ZwN _ _ _ ?_
 (simp only [vcS])
 (simp only [Tree.eta,Edit.eta,Tree.kind_mk,Tree.words_mk,Tree.kids_mk])
 refine ⟨fun hk=> ⟨by simp only [Z0t];omega,by simp only [Z0t];omega,?_⟩,fun hk=> ⟨fun hk2=> ⟨by simp;omega,?_⟩,fun hk2=> ⟨fun hk3=> ⟨?_,by simp only [ZeG];omega,?_⟩,fun hk3=> ?_⟩⟩⟩
 ·rw [if_pos hk] at ha
  simp only [Z8l,ha]
  (repeat' (first | exact trivial | exact rfl | apply And.intro))
  ·exact hk.symm
  ·exact (hli (by omega)).symm
 ·rw [if_neg hk,if_pos hk2] at ha
  refine Za (ι:=Int × List Kid) (fun s=> Z2C e s.1 s.2) (fun s=> 0≤s.1∧s.1≤e.kids.length∧s.2.length=s.1∧s.2++Yj (e.kids.drop s.1.toNat)=Yj e.kids) (fun s=> ((e.kids.length:Int) - s.1).toNat) (0,[]) rfl ⟨by simp,by simp,by simp,by simp⟩ ?_
  rintro ⟨j,ks⟩ ⟨f1,f2,f3,f4⟩
  dsimp only at f1 f2 f3 f4
  refine ZoK _ _ _ _ _ _ ?_
  rintro y1 hy1 y2 hy2 y3 hy3
  (simp only [vcS])
  refine ⟨fun hj=> ?_,fun hj=> ?_⟩
  ·have hmem:=Zl (l:=e.kids) (i:=j.toNat) (by omega) (KidOf.mk 0 Edit.nil)
   have hm:=YC hmem
   have hr:=Zc6 p3 hk2 _ hmem
   rw [ZR f1 hj (KidOf.mk 0 Edit.nil)] at f4
   rw [←hy1] at f4 hm hr
   simp only [Yj,Z7H] at f4
   rw [←hy2] at f4 hm hr
   rw [←hy3] at f4
   refine ⟨⟨f1,hj⟩,⟨f1,hj⟩,by simp only [Z3o];exact ⟨by omega,hr⟩,by simp only [ZaC];omega,by simp;omega,by unfold InR;omega,(j+1,ks++[⟨y1.at_,y3⟩]),rfl,⟨by dsimp only;omega,by dsimp only;omega,by simp;omega,?_⟩,by dsimp only;omega⟩
   simp only [List.append_assoc,List.cons_append,List.nil_append]
   exact f4
  ·rw [List.drop_of_length_le (by omega)] at f4
   simp only [Yj,List.append_nil] at f4
   rw [f4]
   simp only [Z8l,ha]
   (repeat' (first | exact trivial | exact rfl | apply And.intro))
   ·exact hk2.symm
   ·exact (hli (by omega)).symm
 ·simp only [Z8p]
  exact ⟨by omega,fun o ho=> Zet p3 hk3 o ho⟩
 ·rw [if_neg hk,if_neg hk2,if_pos hk3] at ha
  simp only [Z8l,ha]
  (repeat' (first | exact trivial | exact rfl | apply And.intro))
  exact hk3.symm
 ·rw [if_neg hk,if_neg hk2,if_neg hk3] at ha
  simp only [Z8l,ha]
  (repeat' (first | exact trivial | exact rfl | apply And.intro))
  ·show 0=e.kind
   omega
  ·exact (hli hk3).symm
theorem Zth:Contract Try.prog cfg 32 Z9M∧Contract Try.prog cfg 76 Zlo:=Zk7 c45 ZtD Znt b32 b76
end Go.AM.Ytpjenobkibfpcaa
namespace Go.AM.Ytpjenobkibfpcaa
open Go.AM Go.Proofs
theorem Zqi{n:Nat}{rs:List ResultVar}{r r':V U}{X:List (List (C U))}{e:AExit}{s:LSt U}(hr:r=r')(h:Jg cfg n rs r' X e s):Jg cfg n rs r X e s:=by rw [hr];exact h
end Go.AM.Ytpjenobkibfpcaa
namespace Go.AM
def Z3q(list:Int):List Tree→Int→Int
 | [],_=> -1
 | t ::r,i=> if Z9 (Tree.mk list [] [t]) 64=true then Z3q list r (i+1) else i
theorem Zch(list:Int):∀ (l:List Tree) (i:Int),0≤i→(0≤Z3q list l i↔YN list l=false)
 | [],i,_=> by simp [Z3q,YN]
 | t ::r,i,hi=> by
  have ih:=Zch list r (i+1) (by omega)
  rw [Z3q,YN]
  by_cases h:Z9 (Tree.mk list [] [t]) 64=true
  ·rw [if_pos h,h,Bool.true_and];exact ih
  ·rw [if_neg h]
   simp only [Bool.not_eq_true] at h
   rw [h,Bool.false_and]
   exact ⟨fun _=> rfl,fun _=> hi⟩
end Go.AM
namespace Go.AM.Ytpjenobkibfpcaa
open Go.AM Go.Proofs
noncomputable section
noncomputable section
def Zdt:ArgM (Tree × (Int × Unit) × Unit):=(.cons (aEl .tree) (.obj 0 (.cons (ZgQ .i64) .nil) .nil))
def Z7t(a:Tree × (Int × Unit) × Unit):Prop:=Zj a.1≤18000000000∧rng a.1∧isI a.2.1.1
def ZfS(a:Tree × (Int × Unit) × Unit):V U:= .c (.bool (!(Z9 (Tree.mk a.2.1.1 [] [a.1]) 64)))
def ZcG(a:Tree × (Int × Unit) × Unit):List (List (C U)):=[[ci a.2.1.1]]
def Z5X:Fs U:=fsX Zdt (fun a=> [Z7t a]) ZfS ZcG
def Zds:ArgM (List Tree × (Int × Unit) × Unit):=(.cons (aSl .tree) (.clo 185 0 (.cons (ZgQ .i64) .nil) .nil))
def Zae(a:List Tree × (Int × Unit) × Unit):Prop:=Zb a.1≤18000000000∧ZW a.1∧isI a.2.1.1
def ZcK(a:List Tree × (Int × Unit) × Unit):V U:= .c (ci (Z3q a.2.1.1 a.1 0))
def Z99(a:List Tree × (Int × Unit) × Unit):List (List (C U)):=[[ci a.2.1.1]]
def Z5U:Fs U:=fsX Zds (fun a=> [Zae a]) ZcK Z99
def Zdu:ArgM (List Tree × (Int × Unit) × Unit):=(.cons (aSl .tree) (.clo 185 0 (.cons (ZgQ .i64) .nil) .nil))
def Z34(a:List Tree × (Int × Unit) × Unit):Prop:=Zb a.1≤18000000000∧ZW a.1∧isI a.2.1.1
def ZfT(a:List Tree × (Int × Unit) × Unit):V U:= .c (.bool (!(YN a.2.1.1 a.1)))
def ZcH(a:List Tree × (Int × Unit) × Unit):List (List (C U)):=[[ci a.2.1.1]]
def Z2V:Fs U:=fsX Zdu (fun a=> [Z34 a]) ZfT ZcH
def Zio:List (FuncId × Fs U):=[(186,Z5W)]
def ZmA:Zi U:=fun i=> match i with
 | 0=> ([(1,[]),(2,[])],[(.loc 2,[]),(.x 0,[])])
 | 1=> ([(3,[])],[(.x 0,[])])
 | _=> ([],[])
abbrev ZvM(t:Tree)(list:Int)(Q:QT):=AW (Z0 Zio) Try.f185 ZmA [] (L2 [(0,.agg (enc .tree t)),(1,.ptr (.x 0) 0)] [(.x 0,[ci list])]) Q
theorem ZuS(t:Tree)(list:Int)(Q:QT)(h:(Zaf (list,(Tree.mk t.kind t.words t.kids),()))∧(Q .ret (L2 [(3,.c (.bool (!(Z9 (Tree.mk list [] [(Tree.mk t.kind t.words t.kids)]) 64))))] [(.x 0,[ci list])]))):
  ZvM t list Q:=by
 have e_:(ZvM t list Q)=(type_of% h):=by kernel_rfl
 exact e_.mpr ⟨h.1,h.2⟩
def Zqz(t:Tree)(list:Int):Prop:=AW (Z0 Zio) Try.f185 ZmA [] (Zm (Zdt.can (t,(list,()),())) (Zdt.canX (t,(list,()),()))) (EQ Try.f185 (ZfS (t,(list,()),())) (ZcG (t,(list,()),())))
theorem Zpj(Ztm:CT 186 Z5W)(hb:∀ (t:Tree) (list:Int) (_:Unit),Z7t (t,(list,()),())→Zqz t list):CT 185 Z5X:=
 J9 (l:=[(186,Z5W)]) Zk rfl (⟨Ztm,trivial⟩) ZmA Try.func185 rfl rfl 2 (fun _=> rfl) (by decide) (fun ⟨t,⟨list,_⟩,_⟩=> hb t list ())
def Z0h:List (FuncId × Fs U):=[(185,Z5X)]
def Z6t:Zi U:=fun i=> match i with
 | 0=> ([(0,[]),(1,[])],[(.x 0,[])])
 | 1=> ([(0,[]),(1,[]),(7,[]),(8,[])],[(.x 0,[])])
 | 2=> ([(0,[]),(1,[]),(7,[]),(8,[]),(9,[])],[(.x 0,[])])
 | 3=> ([(0,[]),(1,[]),(5,[]),(7,[]),(8,[])],[(.x 0,[])])
 | 4=> ([(0,[]),(1,[]),(5,[]),(7,[]),(8,[]),(16,[])],[(.x 0,[])])
 | 5=> ([(4,[])],[(.x 0,[])])
 | 6=> ([(0,[]),(1,[]),(7,[]),(8,[])],[(.x 0,[])])
 | 7=> ([(4,[])],[(.x 0,[])])
 | _=> ([],[])
def Z1b(l:List Tree)(list x8:Int):LSt U:=(L2 [(0,.c (sU .tree l .unk)),(1,.clo 185 [(.x 0)]),(7,.c (ci (l.length:Int))),(8,.c (ci x8))] [(.x 0,[ci list])])
abbrev ZvJ(l:List Tree)(list:Int)(Q:QT):=AW (Z0 Z0h) Try.f195 Z6t [] (L2 [(0,.c (sU .tree l .unk)),(1,.clo 185 [(.x 0)])] [(.x 0,[ci list])]) Q
abbrev Zh6:=awp cfg (Z0 Z0h) (Zx cfg (Z0 Z0h)) Try.f195.ntmps Z6t
abbrev ZfC:=Z3H cfg (Z0 Z0h) (Zx cfg (Z0 Z0h)) Try.f195.ntmps Z6t
theorem ZuO(l:List Tree)(list:Int)(Q:QT)(h:Zh (AW (Z0 Z0h) Try.f195 Z6t [1,0,1,0,0]) (Z1b l list 0) (xB 0 (SW (Z0 Z0h) Try.f195 Z6t [1,1] Q))):
  ZvJ l list Q:=by
 have e_:(ZvJ l list Q)=(Zh (Zh6 (cd Try.f195 [1,0,1,0,0])) (Z1b l list 0) (xB 0 (ZfC (cd Try.f195 [1,1]) Q))):=by kernel_rfl
 exact e_.mpr h
abbrev Zjf(l:List Tree)(list x8:Int)(N0:NT)(Q:QT):=AW (Z0 Z0h) Try.f195 Z6t [1,0,1,0,0] (Z1b l list x8) (xT N0 (xB 0 (SW (Z0 Z0h) Try.f195 Z6t [1,1] Q)))
theorem ZkW(l:List Tree)(list x8:Int)(N0:NT)(Q:QT)(h:((decide (x8 < (l.length:Int)))=true→((0:Int)≤x8∧x8 < (l.length:Int))∧(Z7t ((Tree.mk (Tree.kind (l.getD x8.toNat Tree.nil)) (Tree.words (l.getD x8.toNat Tree.nil)) (Tree.kids (l.getD x8.toNat Tree.nil))),(list,()),()))∧(((!(Z9 (Tree.mk list [] [(Tree.mk (Tree.kind (l.getD x8.toNat Tree.nil)) (Tree.words (l.getD x8.toNat Tree.nil)) (Tree.kids (l.getD x8.toNat Tree.nil)))]) 64))=true→Q .ret (L2 [(4,.c (ci x8))] [(.x 0,[ci list])]))∧((!(Z9 (Tree.mk list [] [(Tree.mk (Tree.kind (l.getD x8.toNat Tree.nil)) (Tree.words (l.getD x8.toNat Tree.nil)) (Tree.kids (l.getD x8.toNat Tree.nil)))]) 64))=false→(InR (x8+1))∧(N0 (Z1b l list (x8+1))))))∧((decide (x8 < (l.length:Int)))=false→Q .ret (L2 [(4,.c (ci (-1)))] [(.x 0,[ci list])]))):
  Zjf l list x8 N0 Q:=by
 have e_:(Zjf l list x8 N0 Q)=(let zz0:=(!(Z9 (Tree.mk list [] [(Tree.mk (Tree.kind (l.getD x8.toNat Tree.nil)) (Tree.words (l.getD x8.toNat Tree.nil)) (Tree.kids (l.getD x8.toNat Tree.nil)))]) 64));(((decide ((x8:Int) < (l.length:Int)))=true→(((0:Int)≤x8∧x8 < (l.length:Int))∧(Z7t ((Tree.mk (Tree.kind (l.getD x8.toNat Tree.nil)) (Tree.words (l.getD x8.toNat Tree.nil)) (Tree.kids (l.getD x8.toNat Tree.nil))),(list,()),()))∧((zz0=true→(Q .ret (L2 [(4,.c (ci x8))] [(.x 0,[ci list])])))∧(zz0=false→(InR ((x8:Int)+1))∧(N0 (Z1b l list ((x8:Int)+1)))))))∧((decide ((x8:Int) < (l.length:Int)))=false→(Q .ret (L2 [(4,.c (ci (-1)))] [(.x 0,[ci list])]))))):=by kernel_rfl
 exact e_.mpr ⟨fun c_1=> ⟨(h.1 c_1).1,(h.1 c_1).2.1,⟨fun c_2=> ((h.1 c_1).2.2.1 c_2),fun c_2=> ⟨((h.1 c_1).2.2.2 c_2).1,((h.1 c_1).2.2.2 c_2).2⟩⟩⟩,fun c_1=> (h.2 c_1)⟩
def Zqv(l:List Tree)(list:Int):Prop:=AW (Z0 Z0h) Try.f195 Z6t [] (Zm (Zds.can (l,(list,()),())) (Zds.canX (l,(list,()),()))) (EQ Try.f195 (ZcK (l,(list,()),())) (Z99 (l,(list,()),())))
theorem Zpf(Ztn:CT 185 Z5X)(hb:∀ (l:List Tree) (list:Int) (_:Unit),Zae (l,(list,()),())→Zqv l list):CT 195 Z5U:=
 J9 (l:=[(185,Z5X)]) Zk rfl (⟨Ztn,trivial⟩) Z6t Try.func195 rfl rfl 2 (fun _=> rfl) (by decide) (fun ⟨l,⟨list,_⟩,_⟩=> hb l list ())
def Zip:List (FuncId × Fs U):=[(195,Z5U)]
def ZmB:Zi U:=fun i=> match i with
 | 0=> ([(0,[]),(1,[])],[(.x 0,[])])
 | 1=> ([(4,[])],[(.x 0,[])])
 | _=> ([],[])
abbrev ZvN(l:List Tree)(list:Int)(Q:QT):=AW (Z0 Zip) Try.f184 ZmB [] (L2 [(0,.c (sU .tree l .unk)),(1,.clo 185 [(.x 0)])] [(.x 0,[ci list])]) Q
theorem ZuT(l:List Tree)(list:Int)(Q:QT)(h:(Zae (l,(list,()),()))∧(Q .ret (L2 [(4,.c (.bool (decide ((0:Int)≤(Z3q list l 0)))))] [(.x 0,[ci list])]))):
  ZvN l list Q:=by
 have e_:(ZvN l list Q)=(type_of% h):=by kernel_rfl
 exact e_.mpr ⟨h.1,h.2⟩
def ZqA(l:List Tree)(list:Int):Prop:=AW (Z0 Zip) Try.f184 ZmB [] (Zm (Zdu.can (l,(list,()),())) (Zdu.canX (l,(list,()),()))) (EQ Try.f184 (ZfT (l,(list,()),())) (ZcH (l,(list,()),())))
theorem Zpk(Ztj:CT 195 Z5U)(hb:∀ (l:List Tree) (list:Int) (_:Unit),Z34 (l,(list,()),())→ZqA l list):CT 184 Z2V:=
 J9 (l:=[(195,Z5U)]) Zk rfl (⟨Ztj,trivial⟩) ZmB Try.func184 rfl rfl 2 (fun _=> rfl) (by decide) (fun ⟨l,⟨list,_⟩,_⟩=> hb l list ())
end
end
end Go.AM.Ytpjenobkibfpcaa
namespace Go.AM.Ytpjenobkibfpcaa
open Go.AM Go.Proofs
theorem Ztn:Contract Try.prog cfg 185 Z5X:=by
 refine Zpj Ztm ?_
 intro t list _ hp
 simp only [Z7t] at hp
 refine ZuS _ _ _ ?_
 (simp only [Tree.eta,Edit.eta,Tree.kind_mk,Tree.words_mk,Tree.kids_mk])
 refine ⟨by simp only [Zaf];exact hp,?_⟩
 simp only [ZfS,ZcG]
 (repeat' (first | exact trivial | exact rfl | apply And.intro))
theorem Zb9{list:Int}{l:List Tree}:∀ (i:Nat),(∀ t∈l.take i,Z9 (Tree.mk list [] [t]) 64=true)→i≤l.length→Z3q list l 0=Z3q list (l.drop i) i
 | 0,_,_=> by simp
 | i+1,h,hi=> by
  have ih:=Zb9 i (fun t ht=> h t (by rw [List.take_add_one];exact List.mem_append.2 (Or.inl ht))) (by omega)
  rw [ih]
  have e:l.drop i=l.getD i Tree.nil ::l.drop (i+1):=by
   have:=ZR (l:=l) (i:=(i:Int)) (by omega) (by omega) Tree.nil
   simpa using this
  have hm:l.getD i Tree.nil∈l.take (i+1):=by
   rw [List.mem_take_iff_getElem]
   exact ⟨i,by omega,by simp [List.getD,List.getElem?_eq_getElem (show i < l.length by omega)]⟩
  rw [e,Z3q,if_pos (h _ hm)]
  simp
theorem Ztj:Contract Try.prog cfg 195 Z5U:=by
 refine Zpf Ztn ?_
 intro l list _ hp
 simp only [Zae] at hp
 refine ZuO _ _ _ ?_
 refine Za (ι:=Int) (fun s=> Z1b l list s) (fun s=> 0≤s∧s≤l.length∧∀ t∈l.take s.toNat,Z9 (Tree.mk list [] [t]) 64=true) (fun s=> ((l.length:Int) - s).toNat) 0 rfl ⟨by simp,by simp,by simp⟩ ?_
 rintro i ⟨g1,g2,g3⟩
 have hb:=Zb9 (list:=list) (l:=l) i.toNat g3 (by omega)
 have hl:=Zs l
 refine ZkW _ _ _ _ _ ?_
 (simp only [vcS])
 (simp only [Tree.eta,Edit.eta,Tree.kind_mk,Tree.words_mk,Tree.kids_mk])
 refine ⟨fun hi=> ⟨⟨g1,hi⟩,?_,fun hc=> ?_,fun hc=> ?_⟩,fun hi=> ?_⟩
 ·have hm:=Zl (l:=l) (i:=i.toNat) (by omega) Tree.nil
  simp only [Z7t]
  have h1:=YG hm
  exact ⟨by omega,JI hp.2.1 hm,hp.2.2⟩
 ·rw [ZR g1 hi Tree.nil,Z3q,if_neg (by rw [hc];decide)] at hb
  simp only [ZcK,Z99]
  rw [hb,show ((i.toNat:Nat):Int)=i by omega]
  (repeat' (first | exact trivial | exact rfl | apply And.intro))
 ·refine ⟨by unfold InR;omega,i+1,rfl,⟨by omega,by omega,fun t ht=> ?_⟩,by omega⟩
  rw [show (i+1).toNat=i.toNat+1 by omega,List.take_add_one] at ht
  rcases List.mem_append.1 ht with ht | ht
  ·exact g3 t ht
  ·have e:l[i.toNat]?=some (l.getD i.toNat Tree.nil):=by
    simp [List.getD,List.getElem?_eq_getElem (show i.toNat < l.length by omega)]
   rw [e] at ht
   simp only [Option.toList_some,List.mem_singleton] at ht
   subst ht
   exact hc
 ·rw [List.drop_of_length_le (by omega)] at hb
  simp only [ZcK,Z99]
  rw [hb,Z3q]
  (repeat' (first | exact trivial | exact rfl | apply And.intro))
theorem Zto:Contract Try.prog cfg 184 Z2V:=by
 refine Zpk Ztj ?_
 intro l list _ hp
 simp only [Z34] at hp
 refine ZuT _ _ _ ?_
 have hb:=Zch list l 0 (by decide)
 refine ⟨by simp only [Zae];exact hp,?_⟩
 have e:decide (0≤Z3q list l 0)= !(YN list l):=by
  rw [Bool.eq_iff_iff,decide_eq_true_eq,hb]
  cases YN list l <;> simp
 simp only [ZfT,ZcH]
 rw [e]
 (repeat' (first | exact trivial | exact rfl | apply And.intro))
end Go.AM.Ytpjenobkibfpcaa
namespace Go.AM.Ytpjenobkibfpcaa
open Go.AM Go.Proofs
noncomputable section
abbrev ZG(p:Prop):Prop:=p→p
def ZiT:ArgL (Tree × Unit):=(.cons (aEl .tree) .nil)
def Z35(a:Tree × Unit):Prop:=Zj a.1≤20000000000
def ZlK(a:Tree × Unit):V U:= .c (.bool (ZM a.1))
def Z5Z:Fs U:=fs ZiT (fun a=> [Z35 a]) ZlK
def Zj3:ArgL (Edit × Unit):=(.cons (aEl .edit) .nil)
def Z7z(a:Edit × Unit):Prop:=Zg a.1≤20000000000
def ZlS(a:Edit × Unit):V U:= .c (.bool (Z0A a.1))
def Z2Z:Fs U:=fs Zj3 (fun a=> [Z7z a]) ZlS
def Zir:List (FuncId × Fs U):=[]
def ZmD:Zi U:=lvl [([1],[1]),([2],[])]
abbrev ZvP(t:Tree)(Q:QT):=AW (Z0 Zir) Try.f167 ZmD [] (L2 [(0,.agg (enc .tree t))] []) Q
theorem ZuW(t:Tree)(Q:QT)(h:((t.kind==0)=true→InR (((t.words.length:Int):Int)+(t.kids.length:Int)))∧(Q .ret (L2 [(2,.c (.bool (bif (t.kind==0) then (((((t.words.length:Int):Int)+(t.kids.length:Int)):Int)==0) else false)))] []))):
  ZvP t Q:=by
 have e_:(ZvP t Q)=((ZG ((t.kind==0)=true))∧(ZG ((t.kind==0)=true))∧(ZG ((t.kind==0)=true))∧(ZG ((t.kind==0)=true))∧(ZG ((t.kind==0)=true))∧(ZG ((t.kind==0)=true))∧((t.kind==0)=true→InR ((t.words.length:Int)+(t.kids.length:Int)))∧(ZG ((t.kind==0)=true))∧(ZG ((t.kind==0)=true))∧(Q .ret (L2 [(2,.c (.bool (bif (t.kind==0) then ((((t.words.length:Int)+(t.kids.length:Int)):Int)==0) else false)))] []))):=by kernel_rfl
 exact e_.mpr ⟨id,id,id,id,id,id,h.1,id,(by generalize ((t.kind:Int)==0)=b0;revert b0;decide),h.2⟩
def ZqD(t:Tree):Prop:=AW (Z0 Zir) Try.f167 ZmD [] (Zm (ZiT.can (t,())) []) (EQ Try.f167 (ZlK (t,())) [])
theorem Zpm(hb:∀ (t:Tree) (_:Unit),Z35 (t,())→ZqD t):CT 167 Z5Z:=
 Z3 (l:=[]) Zk rfl trivial ZmD Try.func167 rfl rfl 1 (fun _=> rfl) (by decide) (fun ⟨t,_⟩=> hb t ())
def Zix:List (FuncId × Fs U):=[(167,Z5Z)]
def ZmJ:Zi U:=lvl [([1],[1]),([1,3],[1]),([1,4],[1]),([2],[]),([1,21],[1]),([2],[]),([2],[])]
abbrev Zw0(e:Edit)(Q:QT):=AW (Z0 Zix) Try.f121 ZmJ [] (L2 [(0,.agg (enc .edit e))] []) Q
theorem Zvb(e:Edit)(Q:QT)(h:∀ y_1,y_1=(e.new)→∀ y_2,y_2=(e.old)→((e.kind !=1)=true→Z35 (y_2,()))∧(((e.kind !=1) && (ZM y_2))=true→Z35 (y_1,()))∧(((bif (e.kind !=1) then (!(bif (ZM y_2) then (ZM y_1) else false)) else false)=true→Q .ret (L2 [(2,.c (.bool false))] []))∧((bif (e.kind !=1) then (!(bif (ZM y_2) then (ZM y_1) else false)) else false)=false→((e.kind !=2)=true→InR (((e.words.length:Int):Int)+(e.kids.length:Int)))∧(((bif (e.kind !=2) then (decide ((0:Int) < (((e.words.length:Int):Int)+(e.kids.length:Int)))) else false)=true→Q .ret (L2 [(2,.c (.bool false))] []))∧((bif (e.kind !=2) then (decide ((0:Int) < (((e.words.length:Int):Int)+(e.kids.length:Int)))) else false)=false→Q .ret (L2 [(2,.c (.bool (bif (e.kind==3) then true else (bif (e.list==0) then (((e.ops.length:Int):Int)==0) else false))))] [])))))):
  Zw0 e Q:=by
 have e_:(Zw0 e Q)=(let y_1:=(Z3R e.new);let y_2:=(Z3R e.old);let zz2:=(bif (e.kind !=1) then (!(bif (ZM y_2) then (ZM y_1) else false)) else false);let zz1:=(bif (e.kind !=2) then (decide ((0:Int) < ((e.words.length:Int)+(e.kids.length:Int)))) else false);let zz0:=(!(e.kind==3));((ZG ((e.kind !=1)=true))∧(ZG ((e.kind !=1)=true))∧(ZG ((e.kind !=1)=true))∧((e.kind !=1)=true→Z35 (y_2,()))∧(ZG ((e.kind !=1)=true))∧(ZG (((e.kind !=1) && (ZM y_2))=true))∧(ZG (((e.kind !=1) && (ZM y_2))=true))∧(ZG (((e.kind !=1) && (ZM y_2))=true))∧(((e.kind !=1) && (ZM y_2))=true→Z35 (y_1,()))∧((e.kind !=1)=true→(True→(e.kind !=1)=true))∧((e.kind !=1)=true→((ZM y_2)=true→((e.kind !=1) && (ZM y_2))=true))∧(ZG ((e.kind !=1)=true))∧(ZG ((e.kind !=1)=true))∧((zz2=true→(Q .ret (L2 [(2,.c (.bool false))] [])))∧(zz2=false→(ZG ((e.kind !=2)=true))∧(ZG ((e.kind !=2)=true))∧(ZG ((e.kind !=2)=true))∧(ZG ((e.kind !=2)=true))∧(ZG ((e.kind !=2)=true))∧(ZG ((e.kind !=2)=true))∧((e.kind !=2)=true→InR ((e.words.length:Int)+(e.kids.length:Int)))∧(ZG ((e.kind !=2)=true))∧(ZG ((e.kind !=2)=true))∧((zz1=true→(Q .ret (L2 [(2,.c (.bool false))] [])))∧(zz1=false→(ZG (zz0=true))∧(ZG (zz0=true))∧(ZG (zz0=true))∧(ZG ((zz0 && (e.list==0))=true))∧(ZG ((zz0 && (e.list==0))=true))∧(ZG ((zz0 && (e.list==0))=true))∧(zz0=true→(True→zz0=true))∧(zz0=true→((e.list==0)=true→(zz0 && (e.list==0))=true))∧((e.kind==3)=false→zz0=true)∧(Q .ret (L2 [(2,.c (.bool (bif (e.kind==3) then true else (bif (e.list==0) then ((e.ops.length:Int)==0) else false))))] [])))))))):=by kernel_rfl
 exact e_.mpr (by intro y_1 y_2;have hh:=h y_1 (Zc _) y_2 (Zc _);exact ⟨id,id,id,hh.1,id,id,id,id,hh.2.1,(by generalize ((e.kind:Int) !=1)=b0;revert b0;decide),(by generalize (ZM y_2)=b0;generalize ((e.kind:Int) !=1)=b1;revert b0 b1;decide),id,(by generalize ((e.kind:Int) !=1)=b0;revert b0;decide),⟨fun c_1=> (hh.2.2.1 c_1),fun c_1=> ⟨id,id,id,id,id,id,(hh.2.2.2 c_1).1,id,(by generalize ((e.kind:Int) !=2)=b0;revert b0;decide),⟨fun c_2=> ((hh.2.2.2 c_1).2.1 c_2),fun c_2=> ⟨id,id,id,id,id,id,(by generalize ((e.kind:Int)==3)=b0;revert b0;decide),(by generalize ((e.kind:Int)==3)=b0;generalize ((e.list:Int)==0)=b1;revert b0 b1;decide),(by generalize ((e.kind:Int)==3)=b0;revert b0;decide),((hh.2.2.2 c_1).2.2 c_2)⟩⟩⟩⟩⟩)
def ZqS(e:Edit):Prop:=AW (Z0 Zix) Try.f121 ZmJ [] (Zm (Zj3.can (e,())) []) (EQ Try.f121 (ZlS (e,())) [])
theorem Zpz(Ztq:CT 167 Z5Z)(hb:∀ (e:Edit) (_:Unit),Z7z (e,())→ZqS e):CT 121 Z2Z:=
 Z3 (l:=[(167,Z5Z)]) Zk rfl (⟨Ztq,trivial⟩) ZmJ Try.func121 rfl rfl 1 (fun _=> rfl) (by decide) (fun ⟨e,_⟩=> hb e ())
end
end Go.AM.Ytpjenobkibfpcaa
namespace Go.AM.Ytpjenobkibfpcaa
open Go.AM Go.Proofs
theorem Ztq:Contract Try.prog cfg 167 Z5Z:=by
 refine Zpm ?_
 intro t _ hp
 simp only [Z35] at hp
 have:=ZeV t
 refine ZuW t _ ?_
 refine ⟨fun _=> by unfold InR;omega,Z2 rfl ?_⟩
 rw [Bool.eq_iff_iff]
 simp only [ZM]
 (simp only [vcS])
 omega
theorem ZtA:Contract Try.prog cfg 121 Z2Z:=by
 refine Zpz Ztq ?_
 intro e _ hp
 simp only [Z7z] at hp
 have h1:=Y6 e
 have h2:=Y4 e.kids
 refine Zvb e _ ?_
 rintro y1 rfl y2 rfl
 (simp only [vcS])
 refine ⟨fun _=> by simp only [Z35];omega,fun _=> by simp only [Z35];omega,fun h=> ?_,fun h=> ⟨fun _=> by unfold InR;omega,fun h3=> ?_,fun h3=> ?_⟩⟩
 ·refine Z2 rfl ?_
  show false=Z0A e
  unfold Z0A
  rw [if_pos (Or.inl ⟨h.1,fun hn=> by have:=h.2;rw [hn.1,hn.2] at this;revert this;decide⟩)]
 ·refine Z2 rfl ?_
  show false=Z0A e
  unfold Z0A
  rw [if_pos (Or.inr (Or.inl ⟨h3.1,by omega⟩))]
 ·refine Z2 rfl ?_
  show _=Z0A e
  unfold Z0A
  have g1:¬(e.kind≠1∧¬(ZM e.old=true∧ZM e.new=true)):=by
   intro hc
   rcases h with h | h
   ·exact hc.1 (by simpa using h)
   ·exact hc.2 (by simpa using h)
  have g2:¬(e.kind≠2∧¬(e.words.length=0∧e.kids.length=0)):=by omega
  by_cases g3:e.kind≠3∧(e.list≠0∨e.ops.length≠0)
  ·rw [if_pos (Or.inr (Or.inr g3)),Bool.eq_iff_iff]
   (simp only [vcS])
   constructor
   ·intro h;omega
   ·intro h;cases h
  ·rw [if_neg (by rintro (x | x | x) <;> contradiction),Bool.eq_iff_iff]
   (simp only [vcS])
   constructor
   ·intro _;first | trivial | rfl
   ·intro _;omega
end Go.AM.Ytpjenobkibfpcaa
namespace Go.AM.Ytpjenobkibfpcaa
open Go.AM Go.Proofs
noncomputable section
abbrev Z8(p:Prop):Prop:=p→p
noncomputable section
def Z5Q:ArgL (Edit × Int × Unit):=(.cons (aEl .edit) (.cons (Yt .i64) .nil))
def YU(a:Edit × Int × Unit):Prop:=(Zg a.1≤18000000000∧Y1 a.1)∧0≤a.2.1∧a.2.1≤1000
def Z2a(a:Edit × Int × Unit):Nat:=4*Zg a.1
def Za6(a:Edit × Int × Unit):V U:= .c (.bool (Z4 a.1 a.2.1))
def Z9w:Fs U:=fs Z5Q (fun a=> [YU a]) Za6
def Z3k:ArgL (List Kid × Int × Unit):=(.cons (aSl .kid) (.cons (Yt .i64) .nil))
def Z1x(a:List Kid × Int × Unit):Prop:=(ZN a.1≤18000000000∧Z1T a.1)∧0≤a.2.1∧a.2.1≤1000
def Z5f(a:List Kid × Int × Unit):Nat:=4*ZN a.1+2
def Z3Q(a:List Kid × Int × Unit):V U:= .c (.bool (ZE (-1) a.1 a.2.1))
def Zhp:Fs U:=fs Z3k (fun a=> [Z1x a]) Z3Q
def Z3j:ArgL (Edit × Int × Unit):=(.cons (aEl .edit) (.cons (Yt .i64) .nil))
def Z1w(a:Edit × Int × Unit):Prop:=(Zg a.1≤18000000000∧Y1 a.1∧2≤Edit.list a.1∧Edit.list a.1≤9)∧0≤a.2.1∧a.2.1≤1000
def Z5e(a:Edit × Int × Unit):Nat:=4*Zd a.1.ops+2
def Z5u(a:Edit × Int × Unit):V U:= .c (.bool (ZB a.1.list a.1.ops a.2.1 && decide (JX a.1.ops 0 < 1048576∧JW a.1.ops 0 < 1048576)))
def Zho:Fs U:=fs Z3j (fun a=> [Z1w a]) Z5u
def Z3i:ArgL (Int × Op × Int × Unit):=(.cons (Yt .i64) (.cons (aEl .op) (.cons (Yt .i64) .nil)))
def Z1v(a:Int × Op × Int × Unit):Prop:=(ZX a.2.1≤18000000000∧Z00 a.2.1∧2≤a.1∧a.1≤9)∧0≤a.2.2.1∧a.2.2.1≤1000
def Z5d(a:Int × Op × Int × Unit):Nat:=4*ZX a.2.1+1
def Z5t(a:Int × Op × Int × Unit):V U:= .c (.bool (Zf a.1 a.2.1 a.2.2.1))
def Zhn:Fs U:=fs Z3i (fun a=> [Z1v a]) Z5t
def ZnP:ArgL (Edit × Unit):=(.cons (aEl .edit) .nil)
def ZhT(a:Edit × Unit):Prop:=Zg a.1≤18000000000∧Y1 a.1
def Zrg(a:Edit × Unit):V U:= .c (.bool (Z4 a.1 64))
def Z9K:Fs U:=fs ZnP (fun a=> [ZhT a]) Zrg
def Z5M(N:Nat):List (FuncId × Fs U):=(89,fs Z5Q (fun a=> [YU a,Z2a a < N]) Za6) ::(124,fs Z3k (fun a=> [Z1x a,Z5f a < N]) Z3Q) ::(125,fs Z3j (fun a=> [Z1w a,Z5e a < N]) Z5u) ::(168,fs Z3i (fun a=> [Z1v a,Z5d a < N]) Z5t) ::[(121,Z2Z),(122,Z2Y),(123,Z2X),(92,Z03),(184,Z2V),(187,Z2U),(164,Z2W)]
def ZsU:Zi U:=lvl [([1,2],[2]),([1,2,11],[2]),([4],[]),([1,2,13],[2]),([1,2,13,14],[2]),([4],[]),([1,2,13,16],[2]),([4],[]),([1,2,13,26],[2]),([4],[]),([1,2,38],[2]),([4],[]),([4],[])]
abbrev W89(N:Nat)(e:Edit)(d:Int)(Q:QT):=AW (Z0 (Z5M N)) Try.f89 ZsU [] (L2 [(0,.agg (enc .edit e)),(1,.c (ci d))] []) Q
theorem Zwk(N:Nat)(e:Edit)(d:Int)(Q:QT)(h:∀ y_1,y_1=e→∀ y_2,y_2=(e.new)→∀ y_3,y_3=(e.old)→(Z7z (y_1,()))∧(((bif (!(Z0A y_1)) then true else (d==0))=true→Q .ret (L2 [(4,.c (.bool false))] []))∧((bif (!(Z0A y_1)) then true else (d==0))=false→((e.kind==0)=true→Q .ret (L2 [(4,.c (.bool true))] []))∧((e.kind==0)=false→((e.kind==1)=true→(Z3U (y_3,()))∧((decide (Tree.kind y_3≠10) && Z9 y_3 64)=true→Z3U (y_2,()))∧(Q .ret (L2 [(4,.c (.bool (bif (decide (Tree.kind y_3≠10) && Z9 y_3 64) then (decide (Tree.kind y_2≠10) && Z9 y_2 64) else false)))] [])))∧((e.kind==1)=false→((e.kind==2)=true→(Z7y (e.words,()))∧((Zu (-1) e.words)=true→InR (d - 1))∧((Zu (-1) e.words)=true→Z1x (e.kids,(d - 1),()))∧((Zu (-1) e.words)=true→Z5f (e.kids,(d - 1),()) < N)∧(Q .ret (L2 [(4,.c (.bool (bif (Zu (-1) e.words) then (ZE (-1) e.kids (d - 1)) else false)))] [])))∧((e.kind==2)=false→((e.kind==3)=true→(Z8n (e.list,()))∧((decide (2≤e.list∧e.list≤9))=true→InR (d - 1))∧((decide (2≤e.list∧e.list≤9))=true→Z1w (y_1,(d - 1),()))∧((decide (2≤e.list∧e.list≤9))=true→Z5e (y_1,(d - 1),()) < N)∧(Q .ret (L2 [(4,.c (.bool (bif (decide (2≤e.list∧e.list≤9)) then (ZB y_1.list y_1.ops (d - 1) && decide (JX y_1.ops 0 < 1048576∧JW y_1.ops 0 < 1048576)) else false)))] [])))∧((e.kind==3)=false→Q .ret (L2 [(4,.c (.bool false))] [])))))))):
  W89 N e d Q:=by
 have e_:(W89 N e d Q)=(let y_1:=(YF e);let y_2:=(Z3R e.new);let y_3:=(Z3R e.old);let zz1:=(decide (Tree.kind y_3≠10) && Z9 y_3 64);let zz0:=(decide (2≤e.list∧e.list≤9));((Z7z (y_1,()))∧(Z8 ((!(!(Z0A y_1)))=true))∧((!(Z0A y_1))=false→(!(!(Z0A y_1)))=true)∧(((bif (!(Z0A y_1)) then true else ((d:Int)==0))=true→(Q .ret (L2 [(4,.c (.bool false))] [])))∧((bif (!(Z0A y_1)) then true else ((d:Int)==0))=false→(((e.kind==0)=true→(Q .ret (L2 [(4,.c (.bool true))] [])))∧((e.kind==0)=false→(((e.kind==1)=true→(Z3U (y_3,()))∧(Z8 (zz1=true))∧(Z8 (zz1=true))∧(zz1=true→Z3U (y_2,()))∧(Z8 (zz1=true))∧(Q .ret (L2 [(4,.c (.bool (bif zz1 then (decide (Tree.kind y_2≠10) && Z9 y_2 64) else false)))] [])))∧((e.kind==1)=false→(((e.kind==2)=true→(Z7y (e.words,()))∧(Z8 ((Zu (-1) e.words)=true))∧(Z8 ((Zu (-1) e.words)=true))∧((Zu (-1) e.words)=true→InR ((d:Int) - 1))∧(Z8 ((Zu (-1) e.words)=true))∧(Z8 ((Zu (-1) e.words)=true))∧((Zu (-1) e.words)=true→Z1x (e.kids,((d:Int) - 1),()))∧((Zu (-1) e.words)=true→Z5f (e.kids,((d:Int) - 1),()) < N)∧(Z8 ((Zu (-1) e.words)=true))∧(Q .ret (L2 [(4,.c (.bool (bif (Zu (-1) e.words) then (ZE (-1) e.kids ((d:Int) - 1)) else false)))] [])))∧((e.kind==2)=false→(((e.kind==3)=true→(Z8n (e.list,()))∧(Z8 (zz0=true))∧(zz0=true→InR ((d:Int) - 1))∧(Z8 (zz0=true))∧(Z8 (zz0=true))∧(zz0=true→Z1w (y_1,((d:Int) - 1),()))∧(zz0=true→Z5e (y_1,((d:Int) - 1),()) < N)∧(Z8 (zz0=true))∧(Q .ret (L2 [(4,.c (.bool (bif zz0 then (ZB y_1.list y_1.ops ((d:Int) - 1) && decide (JX y_1.ops 0 < 1048576∧JW y_1.ops 0 < 1048576)) else false)))] [])))∧((e.kind==3)=false→(Q .ret (L2 [(4,.c (.bool false))] [])))))))))))))):=by kernel_rfl
 exact e_.mpr (by intro y_1 y_2 y_3;have hh:=h y_1 (Ze _) y_2 (Zc _) y_3 (Zc _);exact ⟨hh.1,id,(by generalize (Z0A y_1)=b0;revert b0;decide),⟨fun c_1=> (hh.2.1 c_1),fun c_1=> ⟨fun c_2=> ((hh.2.2 c_1).1 c_2),fun c_2=> ⟨fun c_3=> ⟨(((hh.2.2 c_1).2 c_2).1 c_3).1,id,id,(((hh.2.2 c_1).2 c_2).1 c_3).2.1,(by generalize (decide (Tree.kind y_3≠10))=b0;generalize (Z9 y_3 64)=b1;revert b0 b1;decide),(((hh.2.2 c_1).2 c_2).1 c_3).2.2⟩,fun c_3=> ⟨fun c_4=> ⟨((((hh.2.2 c_1).2 c_2).2 c_3).1 c_4).1,id,id,((((hh.2.2 c_1).2 c_2).2 c_3).1 c_4).2.1,id,id,((((hh.2.2 c_1).2 c_2).2 c_3).1 c_4).2.2.1,((((hh.2.2 c_1).2 c_2).2 c_3).1 c_4).2.2.2.1,(by generalize (Zu (-1) e.words)=b0;revert b0;decide),((((hh.2.2 c_1).2 c_2).2 c_3).1 c_4).2.2.2.2⟩,fun c_4=> ⟨fun c_5=> ⟨(((((hh.2.2 c_1).2 c_2).2 c_3).2 c_4).1 c_5).1,id,(((((hh.2.2 c_1).2 c_2).2 c_3).2 c_4).1 c_5).2.1,id,id,(((((hh.2.2 c_1).2 c_2).2 c_3).2 c_4).1 c_5).2.2.1,(((((hh.2.2 c_1).2 c_2).2 c_3).2 c_4).1 c_5).2.2.2.1,(by generalize (decide (2≤e.list∧e.list≤9))=b0;revert b0;decide),(((((hh.2.2 c_1).2 c_2).2 c_3).2 c_4).1 c_5).2.2.2.2⟩,fun c_5=> (((((hh.2.2 c_1).2 c_2).2 c_3).2 c_4).2 c_5)⟩⟩⟩⟩⟩⟩)
def Zu4(N:Nat)(e:Edit)(d:Int):Prop:=AW (Z0 (Z5M N)) Try.f89 ZsU [] (Zm (Z5Q.can (e,d,())) []) (EQ Try.f89 (Za6 (e,d,())) [])
abbrev Zw6:Prop:=∀ (N:Nat) (e:Edit) (d:Int) (_:Unit),YU (e,d,())→Z2a (e,d,()) < N+1→Zu4 N e d
def Z0l(N:Nat):List (FuncId × Fs U):=(89,fs Z5Q (fun a=> [YU a,Z2a a < N]) Za6) ::(124,fs Z3k (fun a=> [Z1x a,Z5f a < N]) Z3Q) ::(125,fs Z3j (fun a=> [Z1w a,Z5e a < N]) Z5u) ::(168,fs Z3i (fun a=> [Z1v a,Z5d a < N]) Z5t) ::[(121,Z2Z),(122,Z2Y),(123,Z2X),(92,Z03),(184,Z2V),(187,Z2U),(164,Z2W)]
def Z6x:Zi U:=lvl [([0,1],[]),([0,1,7,8,9],[]),([0,1,7,8,9,10],[]),([0,1,5,6,7,8,9],[6]),([0,1,7,8,9,49],[]),([4],[]),([0,1,7,8,9],[]),([4],[])]
def Z1f(l:List Kid)(d x9:Int):LSt U:=(L2 [(0,.c (sU .kid l .unk)),(1,.c (ci d)),(7,.c (sU .kid l .unk)),(8,.c (ci (l.length:Int))),(9,.c (ci x9))] [])
abbrev ZvX(N:Nat)(l:List Kid)(d:Int)(Q:QT):=AW (Z0 (Z0l N)) Try.f124 Z6x [] (L2 [(0,.c (sU .kid l .unk)),(1,.c (ci d))] []) Q
abbrev Zha(N:Nat):=awp cfg (Z0 (Z0l N)) (Zx cfg (Z0 (Z0l N))) Try.f124.ntmps Z6x
abbrev ZfG(N:Nat):=Z3H cfg (Z0 (Z0l N)) (Zx cfg (Z0 (Z0l N))) Try.f124.ntmps Z6x
theorem Zv8(N:Nat)(l:List Kid)(d:Int)(Q:QT)(h:Zh (AW (Z0 (Z0l N)) Try.f124 Z6x [1,0,1,0,0]) (Z1f l d 0) (xB 0 (SW (Z0 (Z0l N)) Try.f124 Z6x [1,1] Q))):
  ZvX N l d Q:=by
 have e_:(ZvX N l d Q)=(Zh (Zha N (cd Try.f124 [1,0,1,0,0])) (Z1f l d 0) (xB 0 (ZfG N (cd Try.f124 [1,1]) Q))):=by kernel_rfl
 exact e_.mpr h
abbrev Zjl(N:Nat)(l:List Kid)(d x9:Int)(N0:NT)(Q:QT):=AW (Z0 (Z0l N)) Try.f124 Z6x [1,0,1,0,0] (Z1f l d x9) (xT N0 (xB 0 (SW (Z0 (Z0l N)) Try.f124 Z6x [1,1] Q)))
theorem Zl5(N:Nat)(l:List Kid)(d x9:Int)(N0:NT)(Q:QT)(h:∀ y_1,y_1=(l.getD x9.toNat (KidOf.mk 0 Edit.nil))→∀ y_2,y_2=(List.getD l (Int.toNat (x9 - 1)) (KidOf.mk 0 Edit.nil))→∀ y_3,y_3=(y_1.e)→((decide (x9 < (l.length:Int)))=true→((0:Int)≤x9∧x9 < (l.length:Int))∧((((!(bif (decide (y_1.at_ < 0)) then true else (decide ((65535:Int)≤y_1.at_)))) && (decide ((0:Int) < x9)))=true→InR (x9 - 1))∧(((!(bif (decide (y_1.at_ < 0)) then true else (decide ((65535:Int)≤y_1.at_)))) && (decide ((0:Int) < x9)))=true→(0:Int)≤(x9 - 1)∧(x9 - 1) < (l.length:Int))∧((!(bif (bif (bif (decide (y_1.at_ < 0)) then true else (decide ((65535:Int)≤y_1.at_))) then true else (bif (decide ((0:Int) < x9)) then (decide (y_1.at_≤y_2.at_)) else false)) then true else (y_1.e.kind==0)))=true→YU (y_3,d,()))∧((!(bif (bif (bif (decide (y_1.at_ < 0)) then true else (decide ((65535:Int)≤y_1.at_))) then true else (bif (decide ((0:Int) < x9)) then (decide (y_1.at_≤y_2.at_)) else false)) then true else (y_1.e.kind==0)))=true→Z2a (y_3,d,()) < N)∧(((bif (bif (bif (bif (decide (y_1.at_ < 0)) then true else (decide ((65535:Int)≤y_1.at_))) then true else (bif (decide ((0:Int) < x9)) then (decide (y_1.at_≤y_2.at_)) else false)) then true else (y_1.e.kind==0)) then true else (!(Z4 y_3 d)))=true→Q .ret (L2 [(4,.c (.bool false))] []))∧((bif (bif (bif (bif (decide (y_1.at_ < 0)) then true else (decide ((65535:Int)≤y_1.at_))) then true else (bif (decide ((0:Int) < x9)) then (decide (y_1.at_≤y_2.at_)) else false)) then true else (y_1.e.kind==0)) then true else (!(Z4 y_3 d)))=false→(InR (x9+1))∧(N0 (Z1f l d (x9+1)))))))∧((decide (x9 < (l.length:Int)))=false→Q .ret (L2 [(4,.c (.bool true))] []))):
  Zjl N l d x9 N0 Q:=by
 have e_:(Zjl N l d x9 N0 Q)=(let y_1:=(l.getD x9.toNat (KidOf.mk 0 Edit.nil));let y_2:=(List.getD l (Int.toNat ((x9:Int) - 1)) (KidOf.mk 0 Edit.nil));let y_3:=(YF y_1.e);let zz4:=(decide (y_1.at_ < 0));let zz3:=(decide ((0:Int) < x9));let zz2:=((y_1.e.kind:Int)==0);let zz1:=(bif zz3 then (decide (y_1.at_≤y_2.at_)) else false);let zz0:=(bif zz4 then true else (decide ((65535:Int)≤y_1.at_)));(((decide ((x9:Int) < (l.length:Int)))=true→((0:Int)≤x9∧x9 < (l.length:Int))∧((Z8 ((!zz4)=true))∧(Z8 ((!zz4)=true))∧(zz4=false→(!zz4)=true)∧(Z8 ((!zz0)=true))∧(Z8 ((!zz0)=true))∧(Z8 (((!zz0) && zz3)=true))∧(((!zz0) && zz3)=true→InR ((x9:Int) - 1))∧(Z8 (((!zz0) && zz3)=true))∧(Z8 (((!zz0) && zz3)=true))∧(((!zz0) && zz3)=true→(0:Int)≤((x9:Int) - 1)∧((x9:Int) - 1) < (l.length:Int))∧(Z8 (((!zz0) && zz3)=true))∧(Z8 (((!zz0) && zz3)=true))∧(Z8 (((!zz0) && zz3)=true))∧(Z8 (((!zz0) && zz3)=true))∧(Z8 (((!zz0) && zz3)=true))∧((!zz0)=true→(True→(!zz0)=true))∧((!zz0)=true→(zz3=true→((!zz0) && zz3)=true))∧(zz0=false→(!zz0)=true)∧(Z8 ((!(bif zz0 then true else zz1))=true))∧(Z8 ((!(bif zz0 then true else zz1))=true))∧(Z8 ((!(bif zz0 then true else zz1))=true))∧((bif zz0 then true else zz1)=false→(!(bif zz0 then true else zz1))=true)∧(Z8 ((!(bif (bif zz0 then true else zz1) then true else zz2))=true))∧(Z8 ((!(bif (bif zz0 then true else zz1) then true else zz2))=true))∧(Z8 ((!(bif (bif zz0 then true else zz1) then true else zz2))=true))∧((!(bif (bif zz0 then true else zz1) then true else zz2))=true→YU (y_3,d,()))∧((!(bif (bif zz0 then true else zz1) then true else zz2))=true→Z2a (y_3,d,()) < N)∧(Z8 ((!(bif (bif zz0 then true else zz1) then true else zz2))=true))∧((bif (bif zz0 then true else zz1) then true else zz2)=false→(!(bif (bif zz0 then true else zz1) then true else zz2))=true)∧(((bif (bif (bif zz0 then true else zz1) then true else zz2) then true else (!(Z4 y_3 d)))=true→(Q .ret (L2 [(4,.c (.bool false))] [])))∧((bif (bif (bif zz0 then true else zz1) then true else zz2) then true else (!(Z4 y_3 d)))=false→(InR ((x9:Int)+1))∧(N0 (Z1f l d ((x9:Int)+1)))))))∧((decide ((x9:Int) < (l.length:Int)))=false→(Q .ret (L2 [(4,.c (.bool true))] []))))):=by kernel_rfl
 exact e_.mpr (by intro y_1 y_2 y_3;have hh:=h y_1 rfl y_2 rfl y_3 (Ze _);exact ⟨fun c_6=> ⟨(hh.1 c_6).1,⟨id,id,(by generalize (decide ((y_1.at_:Int) < 0))=b0;revert b0;decide),id,id,id,(hh.1 c_6).2.1,id,id,(hh.1 c_6).2.2.1,id,id,id,id,id,(by generalize (decide ((65535:Int)≤y_1.at_))=b0;generalize (decide ((y_1.at_:Int) < 0))=b1;revert b0 b1;decide),(by generalize (decide ((65535:Int)≤y_1.at_))=b0;generalize (decide ((y_1.at_:Int) < 0))=b1;generalize (decide ((0:Int) < x9))=b2;revert b0 b1 b2;decide),(by generalize (decide ((65535:Int)≤y_1.at_))=b0;generalize (decide ((y_1.at_:Int) < 0))=b1;revert b0 b1;decide),id,id,id,(by generalize (decide ((y_1.at_:Int)≤y_2.at_))=b0;generalize (decide ((65535:Int)≤y_1.at_))=b1;generalize (decide ((y_1.at_:Int) < 0))=b2;generalize (decide ((0:Int) < x9))=b3;revert b0 b1 b2 b3;decide),id,id,id,(hh.1 c_6).2.2.2.1,(hh.1 c_6).2.2.2.2.1,id,(by generalize (decide ((y_1.at_:Int)≤y_2.at_))=b0;generalize (decide ((65535:Int)≤y_1.at_))=b1;generalize ((y_1.e.kind:Int)==0)=b2;generalize (decide ((y_1.at_:Int) < 0))=b3;generalize (decide ((0:Int) < x9))=b4;revert b0 b1 b2 b3 b4;decide),⟨fun c_7=> ((hh.1 c_6).2.2.2.2.2.1 c_7),fun c_7=> ⟨((hh.1 c_6).2.2.2.2.2.2 c_7).1,((hh.1 c_6).2.2.2.2.2.2 c_7).2⟩⟩⟩⟩,fun c_6=> (hh.2 c_6)⟩)
def ZqP(N:Nat)(l:List Kid)(d:Int):Prop:=AW (Z0 (Z0l N)) Try.f124 Z6x [] (Zm (Z3k.can (l,d,())) []) (EQ Try.f124 (Z3Q (l,d,())) [])
abbrev ZrI:Prop:=∀ (N:Nat) (l:List Kid) (d:Int) (_:Unit),Z1x (l,d,())→Z5f (l,d,()) < N+1→ZqP N l d
def Z0k(N:Nat):List (FuncId × Fs U):=(89,fs Z5Q (fun a=> [YU a,Z2a a < N]) Za6) ::(124,fs Z3k (fun a=> [Z1x a,Z5f a < N]) Z3Q) ::(125,fs Z3j (fun a=> [Z1w a,Z5e a < N]) Z5u) ::(168,fs Z3i (fun a=> [Z1v a,Z5d a < N]) Z5t) ::[(121,Z2Z),(122,Z2Y),(123,Z2X),(92,Z03),(184,Z2V),(187,Z2U),(164,Z2W)]
def Z6w:Zi U:=lvl [([1,2],[2]),([1,2,10,11,12],[2]),([1,2,10,11,12,13],[2]),([1,2,6,10,11,12],[2,6]),([1,2,10,11,12,21],[2]),([4],[]),([1,2,10,11,12],[2]),([7,8],[]),([4],[])]
def Z1e(e:Edit)(d x12:Int):LSt U:=(L2 [(1,.c (ci d)),(2,.ptr (.loc 2) 0),(10,.c (sU .op e.ops .unk)),(11,.c (ci (e.ops.length:Int))),(12,.c (ci x12))] [(.loc 2,(enc .edit e))])
abbrev ZvW(N:Nat)(e:Edit)(d:Int)(Q:QT):=AW (Z0 (Z0k N)) Try.f125 Z6w [] (L2 [(0,.agg (enc .edit e)),(1,.c (ci d))] []) Q
abbrev Zh9(N:Nat):=awp cfg (Z0 (Z0k N)) (Zx cfg (Z0 (Z0k N))) Try.f125.ntmps Z6w
abbrev ZfF(N:Nat):=Z3H cfg (Z0 (Z0k N)) (Zx cfg (Z0 (Z0k N))) Try.f125.ntmps Z6w
theorem Zv7(N:Nat)(e:Edit)(d:Int)(Q:QT)(h:Zh (AW (Z0 (Z0k N)) Try.f125 Z6w [1,0,1,0,0]) (Z1e e d 0) (xB 0 (SW (Z0 (Z0k N)) Try.f125 Z6w [1,1] Q))):
  ZvW N e d Q:=by
 have e_:(ZvW N e d Q)=(Zh (Zh9 N (cd Try.f125 [1,0,1,0,0])) (Z1e e d 0) (xB 0 (ZfF N (cd Try.f125 [1,1]) Q))):=by kernel_rfl
 exact e_.mpr h
abbrev Zjk(N:Nat)(e:Edit)(d x12:Int)(N0:NT)(Q:QT):=AW (Z0 (Z0k N)) Try.f125 Z6w [1,0,1,0,0] (Z1e e d x12) (xT N0 (xB 0 (SW (Z0 (Z0k N)) Try.f125 Z6w [1,1] Q)))
theorem Zl4(N:Nat)(e:Edit)(d x12:Int)(N0:NT)(Q:QT)(h:∀ y_1,y_1=e→∀ y_2,y_2=(e.ops.getD x12.toNat Op.nil)→∀ y_3,y_3=y_2→((decide (x12 < (e.ops.length:Int)))=true→((0:Int)≤x12∧x12 < (e.ops.length:Int))∧((Z1v (e.list,y_3,d,()))∧(Z5d (e.list,y_3,d,()) < N)∧(((!(Zf e.list y_3 d))=true→Q .ret (L2 [(4,.c (.bool false))] []))∧((!(Zf e.list y_3 d))=false→(InR (x12+1))∧(N0 (Z1e e d (x12+1)))))))∧((decide (x12 < (e.ops.length:Int)))=false→(Z7u (y_1,()))∧(Q .ret (L2 [(4,.c (.bool (bif (decide (((Z0w y_1.ops 0):Int) < 1048576)) then (decide (((Z0I y_1.ops 0):Int) < 1048576)) else false)))] [])))):
  Zjk N e d x12 N0 Q:=by
 have e_:(Zjk N e d x12 N0 Q)=(let y_1:=(YF e);let y_2:=(e.ops.getD x12.toNat Op.nil);let y_3:=(Zm0 y_2);let zz0:=(decide (((Z0w y_1.ops 0):Int) < 1048576));(((decide ((x12:Int) < (e.ops.length:Int)))=true→((0:Int)≤x12∧x12 < (e.ops.length:Int))∧((Z1v (e.list,y_3,d,()))∧(Z5d (e.list,y_3,d,()) < N)∧(((!(Zf e.list y_3 d))=true→(Q .ret (L2 [(4,.c (.bool false))] [])))∧((!(Zf e.list y_3 d))=false→(InR ((x12:Int)+1))∧(N0 (Z1e e d ((x12:Int)+1)))))))∧((decide ((x12:Int) < (e.ops.length:Int)))=false→(Z7u (y_1,()))∧((Z8 (zz0=true))∧(Z8 (zz0=true))∧(Q .ret (L2 [(4,.c (.bool (bif zz0 then (decide (((Z0I y_1.ops 0):Int) < 1048576)) else false)))] [])))))):=by kernel_rfl
 exact e_.mpr (by intro y_1 y_2 y_3;have hh:=h y_1 (Ze _) y_2 rfl y_3 (Z9b _);exact ⟨fun c_8=> ⟨(hh.1 c_8).1,⟨(hh.1 c_8).2.1,(hh.1 c_8).2.2.1,⟨fun c_9=> ((hh.1 c_8).2.2.2.1 c_9),fun c_9=> ⟨((hh.1 c_8).2.2.2.2 c_9).1,((hh.1 c_8).2.2.2.2 c_9).2⟩⟩⟩⟩,fun c_8=> ⟨(hh.2 c_8).1,⟨id,(by generalize (decide (((Z0w y_1.ops 0):Int) < 1048576))=b0;revert b0;decide),(hh.2 c_8).2⟩⟩⟩)
def ZqO(N:Nat)(e:Edit)(d:Int):Prop:=AW (Z0 (Z0k N)) Try.f125 Z6w [] (Zm (Z3j.can (e,d,())) []) (EQ Try.f125 (Z5u (e,d,())) [])
abbrev ZrH:Prop:=∀ (N:Nat) (e:Edit) (d:Int) (_:Unit),Z1w (e,d,())→Z5e (e,d,()) < N+1→ZqO N e d
def Ziq(N:Nat):List (FuncId × Fs U):=(89,fs Z5Q (fun a=> [YU a,Z2a a < N]) Za6) ::(124,fs Z3k (fun a=> [Z1x a,Z5f a < N]) Z3Q) ::(125,fs Z3j (fun a=> [Z1w a,Z5e a < N]) Z5u) ::(168,fs Z3i (fun a=> [Z1v a,Z5d a < N]) Z5t) ::[(121,Z2Z),(122,Z2Y),(123,Z2X),(92,Z03),(184,Z2V),(187,Z2U),(164,Z2W)]
def ZmC:Zi U:=lvl [([2,3,4],[3,4]),([2,3,4,8],[3,4]),([2,3,4,8,9],[3,4]),([2,3,4,8,11],[3,4]),([2,3,4,8,13],[3,4]),([2,3,4,15],[3,4]),([6],[]),([6],[]),([6],[]),([6],[])]
abbrev ZvO(N:Nat)(list:Int)(o:Op)(d:Int)(Q:QT):=AW (Z0 (Ziq N)) Try.f168 ZmC [] (L2 [(0,.c (ci list)),(1,.agg (enc .op o)),(2,.c (ci d))] []) Q
theorem ZuV(N:Nat)(list:Int)(o:Op)(d:Int)(Q:QT)(h:∀ y_1,y_1=(o.e)→∀ y_2,y_2=(.bool (bif (bif (bif (bif (o.n==0) then (decide ((0:Int) < (o.l.length:Int))) else false) then (Z4 y_1 1) else false) then (o.e.kind==0) else false) then (!(!(YN list o.l))) else false))→((o.kind==0)=true→((bif (bif (decide ((1:Int)≤o.n)) then (decide (o.n≤1048576)) else false) then (((o.l.length:Int):Int)==0) else false)=true→YU (y_1,1,()))∧((bif (bif (decide ((1:Int)≤o.n)) then (decide (o.n≤1048576)) else false) then (((o.l.length:Int):Int)==0) else false)=true→Z2a (y_1,1,()) < N)∧(Q .ret (L2 [(6,.c (.bool (bif (bif (bif (bif (decide ((1:Int)≤o.n)) then (decide (o.n≤1048576)) else false) then (((o.l.length:Int):Int)==0) else false) then (Z4 y_1 1) else false) then (o.e.kind==0) else false)))] [])))∧((o.kind==0)=false→((o.kind==1)=true→((bif (o.n==0) then (decide ((0:Int) < (o.l.length:Int))) else false)=true→YU (y_1,1,()))∧((bif (o.n==0) then (decide ((0:Int) < (o.l.length:Int))) else false)=true→Z2a (y_1,1,()) < N)∧((bif (bif (bif (o.n==0) then (decide ((0:Int) < (o.l.length:Int))) else false) then (Z4 y_1 1) else false) then (o.e.kind==0) else false)=true→Z34 (o.l,(list,()),()))∧(Q .ret (L2 [(6,.c y_2)] [])))∧((o.kind==1)=false→((o.kind==2)=true→((bif (o.n==0) then (decide ((0:Int) < (o.l.length:Int))) else false)=true→YU (y_1,1,()))∧((bif (o.n==0) then (decide ((0:Int) < (o.l.length:Int))) else false)=true→Z2a (y_1,1,()) < N)∧((bif (bif (bif (o.n==0) then (decide ((0:Int) < (o.l.length:Int))) else false) then (Z4 y_1 1) else false) then (o.e.kind==0) else false)=true→Z34 (o.l,(list,()),()))∧(Q .ret (L2 [(6,.c y_2)] [])))∧((o.kind==2)=false→((o.kind==3)=true→((bif (o.n==0) then (((o.l.length:Int):Int)==0) else false)=true→ZcR (list,y_1,()))∧((bif (bif (o.n==0) then (((o.l.length:Int):Int)==0) else false) then (Yi list y_1) else false)=true→YU (y_1,d,()))∧((bif (bif (o.n==0) then (((o.l.length:Int):Int)==0) else false) then (Yi list y_1) else false)=true→Z2a (y_1,d,()) < N)∧(Q .ret (L2 [(6,.c (.bool (bif (bif (bif (o.n==0) then (((o.l.length:Int):Int)==0) else false) then (Yi list y_1) else false) then (Z4 y_1 d) else false)))] [])))∧((o.kind==3)=false→Q .ret (L2 [(6,.c (.bool false))] [])))))):
  ZvO N list o d Q:=by
 have e_:(ZvO N list o d Q)=(let y_1:=(YF o.e);let y_2:=(.bool (bif (bif (bif (bif (o.n==0) then (decide ((0:Int) < (o.l.length:Int))) else false) then (Z4 y_1 1) else false) then ((o.e.kind:Int)==0) else false) then (!(!(YN list o.l))) else false));let zz5:=(decide ((1:Int)≤o.n));let zz4:=(bif zz5 then (decide (o.n≤1048576)) else false);let zz3:=((o.e.kind:Int)==0);let zz2:=(bif (o.n==0) then ((o.l.length:Int)==0) else false);let zz1:=(bif zz4 then ((o.l.length:Int)==0) else false);let zz0:=(bif (o.n==0) then (decide ((0:Int) < (o.l.length:Int))) else false);(((o.kind==0)=true→(Z8 (zz5=true))∧(Z8 (zz5=true))∧(Z8 (zz5=true))∧(Z8 (zz4=true))∧(Z8 (zz4=true))∧(Z8 (zz4=true))∧(Z8 (zz4=true))∧(Z8 (zz1=true))∧(Z8 (zz1=true))∧(zz1=true→YU (y_1,1,()))∧(zz1=true→Z2a (y_1,1,()) < N)∧(Z8 (zz1=true))∧(Z8 ((bif zz1 then (Z4 y_1 1) else false)=true))∧(Z8 ((bif zz1 then (Z4 y_1 1) else false)=true))∧(Z8 ((bif zz1 then (Z4 y_1 1) else false)=true))∧(Z8 ((bif zz1 then (Z4 y_1 1) else false)=true))∧(Q .ret (L2 [(6,.c (.bool (bif (bif zz1 then (Z4 y_1 1) else false) then zz3 else false)))] [])))∧((o.kind==0)=false→(((o.kind==1)=true→(Z8 ((o.n==0)=true))∧(Z8 ((o.n==0)=true))∧(Z8 ((o.n==0)=true))∧(Z8 ((o.n==0)=true))∧(Z8 (zz0=true))∧(Z8 (zz0=true))∧(zz0=true→YU (y_1,1,()))∧(zz0=true→Z2a (y_1,1,()) < N)∧(Z8 (zz0=true))∧(Z8 ((bif zz0 then (Z4 y_1 1) else false)=true))∧(Z8 ((bif zz0 then (Z4 y_1 1) else false)=true))∧(Z8 ((bif zz0 then (Z4 y_1 1) else false)=true))∧(Z8 ((bif zz0 then (Z4 y_1 1) else false)=true))∧(Z8 ((bif (bif zz0 then (Z4 y_1 1) else false) then zz3 else false)=true))∧(Z8 ((bif (bif zz0 then (Z4 y_1 1) else false) then zz3 else false)=true))∧(Z8 ((bif (bif zz0 then (Z4 y_1 1) else false) then zz3 else false)=true))∧((bif (bif zz0 then (Z4 y_1 1) else false) then zz3 else false)=true→Z34 (o.l,(list,()),()))∧(Z8 ((bif (bif zz0 then (Z4 y_1 1) else false) then zz3 else false)=true))∧(Z8 ((bif (bif zz0 then (Z4 y_1 1) else false) then zz3 else false)=true))∧(Q .ret (L2 [(6,.c y_2)] [])))∧((o.kind==1)=false→(((o.kind==2)=true→(Z8 ((o.n==0)=true))∧(Z8 ((o.n==0)=true))∧(Z8 ((o.n==0)=true))∧(Z8 ((o.n==0)=true))∧(Z8 (zz0=true))∧(Z8 (zz0=true))∧(zz0=true→YU (y_1,1,()))∧(zz0=true→Z2a (y_1,1,()) < N)∧(Z8 (zz0=true))∧(Z8 ((bif zz0 then (Z4 y_1 1) else false)=true))∧(Z8 ((bif zz0 then (Z4 y_1 1) else false)=true))∧(Z8 ((bif zz0 then (Z4 y_1 1) else false)=true))∧(Z8 ((bif zz0 then (Z4 y_1 1) else false)=true))∧(Z8 ((bif (bif zz0 then (Z4 y_1 1) else false) then zz3 else false)=true))∧(Z8 ((bif (bif zz0 then (Z4 y_1 1) else false) then zz3 else false)=true))∧(Z8 ((bif (bif zz0 then (Z4 y_1 1) else false) then zz3 else false)=true))∧((bif (bif zz0 then (Z4 y_1 1) else false) then zz3 else false)=true→Z34 (o.l,(list,()),()))∧(Z8 ((bif (bif zz0 then (Z4 y_1 1) else false) then zz3 else false)=true))∧(Z8 ((bif (bif zz0 then (Z4 y_1 1) else false) then zz3 else false)=true))∧(Q .ret (L2 [(6,.c y_2)] [])))∧((o.kind==2)=false→(((o.kind==3)=true→(Z8 ((o.n==0)=true))∧(Z8 ((o.n==0)=true))∧(Z8 ((o.n==0)=true))∧(Z8 ((o.n==0)=true))∧(Z8 (zz2=true))∧(Z8 (zz2=true))∧(Z8 (zz2=true))∧(zz2=true→ZcR (list,y_1,()))∧(Z8 (zz2=true))∧(Z8 ((bif zz2 then (Yi list y_1) else false)=true))∧(Z8 ((bif zz2 then (Yi list y_1) else false)=true))∧(Z8 ((bif zz2 then (Yi list y_1) else false)=true))∧((bif zz2 then (Yi list y_1) else false)=true→YU (y_1,d,()))∧((bif zz2 then (Yi list y_1) else false)=true→Z2a (y_1,d,()) < N)∧(Z8 ((bif zz2 then (Yi list y_1) else false)=true))∧(Q .ret (L2 [(6,.c (.bool (bif (bif zz2 then (Yi list y_1) else false) then (Z4 y_1 d) else false)))] [])))∧((o.kind==3)=false→(Q .ret (L2 [(6,.c (.bool false))] []))))))))))):=by kernel_rfl
 exact e_.mpr (by intro y_1 y_2;have hh:=h y_1 (Ze _) y_2 rfl;exact ⟨fun c_10=> ⟨id,id,(by generalize (decide ((1:Int)≤o.n))=b0;revert b0;decide),id,id,id,(by generalize (decide ((o.n:Int)≤1048576))=b0;generalize (decide ((1:Int)≤o.n))=b1;revert b0 b1;decide),id,id,(hh.1 c_10).1,(hh.1 c_10).2.1,(by generalize (((o.l.length:Int):Int)==0)=b0;generalize (decide ((o.n:Int)≤1048576))=b1;generalize (decide ((1:Int)≤o.n))=b2;revert b0 b1 b2;decide),id,id,id,(by generalize (Z4 y_1 1)=b0;generalize (((o.l.length:Int):Int)==0)=b1;generalize (decide ((o.n:Int)≤1048576))=b2;generalize (decide ((1:Int)≤o.n))=b3;revert b0 b1 b2 b3;decide),(hh.1 c_10).2.2⟩,fun c_10=> ⟨fun c_11=> ⟨id,id,id,(by generalize ((o.n:Int)==0)=b0;revert b0;decide),id,id,((hh.2 c_10).1 c_11).1,((hh.2 c_10).1 c_11).2.1,(by generalize (decide ((0:Int) < (o.l.length:Int)))=b0;generalize ((o.n:Int)==0)=b1;revert b0 b1;decide),id,id,id,(by generalize (Z4 y_1 1)=b0;generalize (decide ((0:Int) < (o.l.length:Int)))=b1;generalize ((o.n:Int)==0)=b2;revert b0 b1 b2;decide),id,id,id,((hh.2 c_10).1 c_11).2.2.1,id,(by generalize (Z4 y_1 1)=b0;generalize (decide ((0:Int) < (o.l.length:Int)))=b1;generalize ((o.e.kind:Int)==0)=b2;generalize ((o.n:Int)==0)=b3;revert b0 b1 b2 b3;decide),((hh.2 c_10).1 c_11).2.2.2⟩,fun c_11=> ⟨fun c_12=> ⟨id,id,id,(by generalize ((o.n:Int)==0)=b0;revert b0;decide),id,id,(((hh.2 c_10).2 c_11).1 c_12).1,(((hh.2 c_10).2 c_11).1 c_12).2.1,(by generalize (decide ((0:Int) < (o.l.length:Int)))=b0;generalize ((o.n:Int)==0)=b1;revert b0 b1;decide),id,id,id,(by generalize (Z4 y_1 1)=b0;generalize (decide ((0:Int) < (o.l.length:Int)))=b1;generalize ((o.n:Int)==0)=b2;revert b0 b1 b2;decide),id,id,id,(((hh.2 c_10).2 c_11).1 c_12).2.2.1,id,(by generalize (Z4 y_1 1)=b0;generalize (decide ((0:Int) < (o.l.length:Int)))=b1;generalize ((o.e.kind:Int)==0)=b2;generalize ((o.n:Int)==0)=b3;revert b0 b1 b2 b3;decide),(((hh.2 c_10).2 c_11).1 c_12).2.2.2⟩,fun c_12=> ⟨fun c_13=> ⟨id,id,id,(by generalize ((o.n:Int)==0)=b0;revert b0;decide),id,id,id,((((hh.2 c_10).2 c_11).2 c_12).1 c_13).1,(by generalize (((o.l.length:Int):Int)==0)=b0;generalize ((o.n:Int)==0)=b1;revert b0 b1;decide),id,id,id,((((hh.2 c_10).2 c_11).2 c_12).1 c_13).2.1,((((hh.2 c_10).2 c_11).2 c_12).1 c_13).2.2.1,(by generalize (Yi list y_1)=b0;generalize (((o.l.length:Int):Int)==0)=b1;generalize ((o.n:Int)==0)=b2;revert b0 b1 b2;decide),((((hh.2 c_10).2 c_11).2 c_12).1 c_13).2.2.2⟩,fun c_13=> ((((hh.2 c_10).2 c_11).2 c_12).2 c_13)⟩⟩⟩⟩)
def ZqC(N:Nat)(list:Int)(o:Op)(d:Int):Prop:=AW (Z0 (Ziq N)) Try.f168 ZmC [] (Zm (Z3i.can (list,o,d,())) []) (EQ Try.f168 (Z5t (list,o,d,())) [])
abbrev ZrG:Prop:=∀ (N:Nat) (list:Int) (o:Op) (d:Int) (_:Unit),Z1v (list,o,d,())→Z5d (list,o,d,()) < N+1→ZqC N list o d
def Zn2:List (FuncId × Fs U):=[(89,Z9w)]
def Zt2:Zi U:=lvl [([1],[1]),([2],[])]
abbrev W52(e:Edit)(Q:QT):=AW (Z0 Zn2) Try.f52 Zt2 [] (L2 [(0,.agg (enc .edit e))] []) Q
theorem ZwJ(e:Edit)(Q:QT)(h:(YU ((Edit.mk e.kind (Tree.mk e.old.kind e.old.words e.old.kids) (Tree.mk e.new.kind e.new.words e.new.kids) e.words e.kids e.list e.ops),64,()))∧(Q .ret (L2 [(2,.c (.bool (Z4 (Edit.mk e.kind (Tree.mk e.old.kind e.old.words e.old.kids) (Tree.mk e.new.kind e.new.words e.new.kids) e.words e.kids e.list e.ops) 64)))] []))):
  W52 e Q:=by
 have e_:(W52 e Q)=(type_of% h):=by kernel_rfl
 exact e_.mpr ⟨h.1,h.2⟩
def Zut(e:Edit):Prop:=AW (Z0 Zn2) Try.f52 Zt2 [] (Zm (ZnP.can (e,())) []) (EQ Try.f52 (Zrg (e,())) [])
theorem ZsD(c89:CT 89 Z9w)(hb:∀ (e:Edit) (_:Unit),ZhT (e,())→Zut e):CT 52 Z9K:=
 Z3 (l:=[(89,Z9w)]) Zk rfl (⟨c89,trivial⟩) Zt2 Try.func52 rfl rfl 1 (fun _=> rfl) (by decide) (fun ⟨e,_⟩=> hb e ())
theorem Zpd(ZtA:CT 121 Z2Z)(Ztz:CT 122 Z2Y)(Zty:CT 123 Z2X)(c92:CT 92 Z03)(Zto:CT 184 Z2V)(Ztl:CT 187 Z2U)(Ztr:CT 164 Z2W)(b89:Zw6)(ZtL:ZrI)(ZtK:ZrH)(ZtJ:ZrG):
  CT 89 Z9w∧CT 124 Zhp∧CT 125 Zho∧CT 168 Zhn:=by
 have h87 : ∃ fn, Try.prog.funcs[(89 : FuncId)]? = some fn ∧ fn.body.isSome = true ∧ (fn.name == "runtime.NumGoroutine") = false := ⟨Try.f89, Try.func89, rfl, rfl⟩
 have h121 : ∃ fn, Try.prog.funcs[(124 : FuncId)]? = some fn ∧ fn.body.isSome = true ∧ (fn.name == "runtime.NumGoroutine") = false := ⟨Try.f124, Try.func124, rfl, rfl⟩
 have h122 : ∃ fn, Try.prog.funcs[(125 : FuncId)]? = some fn ∧ fn.body.isSome = true ∧ (fn.name == "runtime.NumGoroutine") = false := ⟨Try.f125, Try.func125, rfl, rfl⟩
 have h132 : ∃ fn, Try.prog.funcs[(168 : FuncId)]? = some fn ∧ fn.body.isSome = true ∧ (fn.name == "runtime.NumGoroutine") = false := ⟨Try.f168, Try.func168, rfl, rfl⟩
 have key:∀ N,CT 89 (fs Z5Q (fun a=> [YU a,Z2a a < N]) Za6)∧CT 124 (fs Z3k (fun a=> [Z1x a,Z5f a < N]) Z3Q)∧CT 125 (fs Z3j (fun a=> [Z1w a,Z5e a < N]) Z5u)∧CT 168 (fs Z3i (fun a=> [Z1v a,Z5d a < N]) Z5t):=by
  intro N
  induction N with
  | zero=> exact ⟨Z0W h87,Z0W h121,Z0W h122,Z0W h132⟩
  | succ N ih=>
   have kn:=JQ (l:=Z5M N) ⟨ih.1,ih.2.1,ih.2.2.1,ih.2.2.2,ZtA,Ztz,Zty,c92,Zto,Ztl,Ztr,trivial⟩
   exact ⟨Y9 (Γ:=Z0 (Z5M N)) Zk rfl kn ZsU Try.func89 rfl rfl (fun a=> by show 2≤_;decide) (fun ⟨e,d,_⟩ h=> b89 N e d () h.1 h.2.1),
    Y9 (Γ:=Z0 (Z5M N)) Zk rfl kn Z6x Try.func124 rfl rfl (fun a=> by show 2≤_;decide) (fun ⟨l,d,_⟩ h=> ZtL N l d () h.1 h.2.1),
    Y9 (Γ:=Z0 (Z5M N)) Zk rfl kn Z6w Try.func125 rfl rfl (fun a=> by show 2≤_;decide) (fun ⟨e,d,_⟩ h=> ZtK N e d () h.1 h.2.1),
    Y9 (Γ:=Z0 (Z5M N)) Zk rfl kn ZmC Try.func168 rfl rfl (fun a=> by show 3≤_;decide) (fun ⟨list,o,d,_⟩ h=> ZtJ N list o d () h.1 h.2.1)⟩
 exact ⟨Z0X h87 fun N=> (key N).1,Z0X h121 fun N=> (key N).2.1,Z0X h122 fun N=> (key N).2.2.1,Z0X h132 fun N=> (key N).2.2.2⟩
end
end
end Go.AM.Ytpjenobkibfpcaa
namespace Go.AM.Ytpjenobkibfpcaa
open Go.AM Go.Proofs
theorem ZjD{e:Edit}:(Z4 e 1=true∧e.kind=0)↔JZ e=true:=by
 rw [Z2n]
 simp only [JZ,Bool.and_eq_true,decide_eq_true_eq]
 by_cases hk:e.kind=0
 ·rw [if_neg (by omega)]
  by_cases hb:ZM e.old=true∧ZM e.new=true
  ·by_cases hw:e.words.length=0∧e.kids.length=0
   ·by_cases hl:e.list=0∧e.ops.length=0
    ·have h1:e.words=[]:=List.length_eq_zero_iff.1 hw.1
     have h2:e.kids=[]:=List.length_eq_zero_iff.1 hw.2
     have h3:e.ops=[]:=List.length_eq_zero_iff.1 hl.2
     rw [if_neg (fun h=> by rcases h with h | h | h;exact h.2 hb;exact h.2 hw;omega),if_neg (by omega),h1,h2,h3]
     simp only [Zu,ZE,ZB,JX,JW,Bool.true_and,Bool.and_true,Bool.and_eq_true,decide_eq_true_eq]
     refine ⟨fun _=> ⟨⟨⟨hk,hb.1⟩,hb.2⟩,rfl,rfl,rfl,hl.1⟩,fun _=> by simp [hk]⟩
    ·rw [if_pos (Or.inr (Or.inr ⟨by omega,by omega⟩))]
     refine ⟨fun h=> (nomatch h.1),fun h=> absurd ⟨h.2.2.2.2,h.2.2.2.1⟩ hl⟩
   ·rw [if_pos (Or.inr (Or.inl ⟨by omega,hw⟩))]
    refine ⟨fun h=> (nomatch h.1),fun h=> absurd ⟨h.2.1,h.2.2.1⟩ hw⟩
  ·rw [if_pos (Or.inl ⟨by omega,hb⟩)]
   refine ⟨fun h=> (nomatch h.1),fun h=> absurd ⟨h.1.1.2,h.1.2⟩ hb⟩
 ·exact ⟨fun h=> absurd h.2 hk,fun h=> absurd h.1.1.1 hk⟩
theorem b89:Zw6:=by
 intro N e d _ hp hN
 simp only [YU,Z2a] at hp hN
 obtain ⟨⟨hm,hr⟩,hd0,hd1⟩:=hp
 obtain ⟨ik,ro,rn,rw',il,rk,ros⟩:=Z0O hr
 have hme:=Y6 e
 have hkl:=Y4 e.kids
 have hol:=Y3 e.ops
 have hat:=Z2n e d
 rw [ZiK hd0] at hat
 refine Zwk N e d _ ?_
 rintro y1 hy1 y2 hy2 y3 hy3
 subst hy1 hy2 hy3
 (simp only [vcS])
 have hbare:Z0A y1=true↔¬((y1.kind≠1∧¬(ZM y1.old=true∧ZM y1.new=true))∨(y1.kind≠2∧¬(y1.words.length=0∧y1.kids.length=0))∨(y1.kind≠3∧(y1.list≠0∨y1.ops.length≠0))):=by
  unfold Z0A
  split
  ·rename_i h;exact ⟨fun h=> (nomatch h),fun h2=> absurd h h2⟩
  ·rename_i h;exact ⟨fun _=> h,fun _=> rfl⟩
 refine ⟨by simp only [Z7z];omega,fun hc=> Z2 rfl ?_,fun hc=> ?_⟩
 ·rcases hc with hc | hc
  ·rw [hat]
   split
   ·try rfl
   ·rw [if_pos (Classical.byContradiction fun h=> by rw [hbare.2 h] at hc;cases hc)]
  ·rw [hat,if_pos (Or.inl hc)]
 have hb:=hbare.1 hc.1
 have hr2:¬(y1.kind=0∨y1.kind=1∨y1.kind=2∨y1.kind=3)→Z4 y1 d=false:=fun h=> by rw [hat,if_pos (by omega)]
 by_cases hk:y1.kind=0∨y1.kind=1∨y1.kind=2∨y1.kind=3
 ·rw [if_neg (by omega),if_neg hb] at hat
  have hw:y1.kind≠2→y1.words=[]∧y1.kids=[]:=by
   intro h
   have:y1.words.length=0∧y1.kids.length=0:=Classical.byContradiction fun h2=> hb (Or.inr (Or.inl ⟨h,h2⟩))
   exact ⟨List.length_eq_zero_iff.1 this.1,List.length_eq_zero_iff.1 this.2⟩
  have ho:y1.kind≠3→y1.list=0∧y1.ops=[]:=by
   intro h
   have:y1.list=0∧y1.ops.length=0:=by
    constructor
    ·exact Classical.byContradiction fun h2=> hb (Or.inr (Or.inr ⟨h,Or.inl h2⟩))
    ·exact Classical.byContradiction fun h2=> hb (Or.inr (Or.inr ⟨h,Or.inr h2⟩))
   exact ⟨this.1,List.length_eq_zero_iff.1 this.2⟩
  refine ⟨fun h0=> Z2 rfl ?_,fun h0=> ⟨fun h1=> ⟨by simp only [Z3U];exact ⟨by omega,ro⟩,fun _=> by simp only [Z3U];exact ⟨by omega,rn⟩,Z2 rfl ?_⟩,fun h1=> ⟨fun h2=> ⟨by simp only [Z7y];exact ⟨by omega,rw'⟩,fun _=> by unfold InR;omega,fun _=> by simp only [Z1x];exact ⟨⟨by omega,rk⟩,by omega,by omega⟩,fun _=> by simp only [Z5f];omega,Z2 rfl ?_⟩,fun h2=> ⟨fun h3=> ⟨trivial,fun _=> by unfold InR;omega,fun hl=> by simp only [Z1w];exact ⟨⟨by omega,hr,hl⟩,by omega,by omega⟩,fun _=> by simp only [Z5e];omega,Z2 rfl ?_⟩,fun h3=> ?_⟩⟩⟩⟩
  ·rw [hat,if_neg (by omega),(hw (by omega)).1,(hw (by omega)).2,(ho (by omega)).1,(ho (by omega)).2]
   simp [Zu,ZE,ZB,JX,JW]
   omega
  ·rw [hat,if_pos h1,Bool.eq_iff_iff]
   (simp only [vcS])
   exact ⟨fun h=> ⟨⟨h.1.2,h.2.2⟩,h.1.1,h.2.1⟩,fun h=> ⟨⟨h.2.1,h.1.1⟩,h.2.2,h.1.2⟩⟩
  ·rw [hat,if_neg h1,(ho (by omega)).1,(ho (by omega)).2,Bool.eq_iff_iff]
   simp only [ZB,JX,JW]
   (simp only [vcS])
   constructor
   ·rintro ⟨a,b⟩
    exact ⟨⟨⟨⟨a,b⟩,by omega⟩,trivial⟩,by decide⟩
   ·rintro ⟨⟨⟨⟨a,b⟩,_⟩,_⟩,_⟩
    exact ⟨a,b⟩
  ·rw [hat,if_neg h1,(hw (by omega)).1,(hw (by omega)).2,Bool.eq_iff_iff]
   simp only [Zu,ZE]
   (simp only [vcS])
   constructor
   ·rintro ⟨a,b,c⟩
    exact ⟨⟨⟨⟨trivial,trivial⟩,by omega⟩,b⟩,c⟩
   ·rintro ⟨⟨⟨_,a⟩,b⟩,c⟩
    exact ⟨by omega,b,c⟩
  ·omega
 ·have he:=hr2 hk
  refine ⟨fun h0=> by omega,fun h0=> ⟨fun h1=> by omega,fun h1=> ⟨fun h2=> by omega,fun h2=> ⟨fun h3=> by omega,fun h3=> Z2 rfl ?_⟩⟩⟩⟩
  rw [he]
theorem ZtL:ZrI:=by
 intro N l d _ hp hN
 simp only [Z1x,Z5f] at hp hN
 obtain ⟨⟨hm,hr⟩,hd0,hd1⟩:=hp
 have hl:=Y4 l
 refine Zv8 N l d _ ?_
 refine Za (ι:=Int) (fun i=> Z1f l d i) (fun i=> 0≤i∧i≤l.length∧∃ last,-1≤last∧(i=0→last= -1)∧(0 < i→last=(l.getD (i - 1).toNat (KidOf.mk 0 Edit.nil)).at_)∧ZE last (l.drop i.toNat) d=ZE (-1) l d) (fun i=> ((l.length:Int) - i).toNat) 0 rfl ⟨by omega,by omega,-1,by omega,fun _=> rfl,fun h=> by omega,by simp⟩ ?_
 rintro i ⟨g1,g2,last,g3,g4,g5,g6⟩
 refine Zl5 N l d i _ _ ?_
 rintro y1 hy1 y2 hy2 y3 hy3
 (simp only [vcS])
 refine ⟨fun hi=> ?_,fun hi=> ?_⟩
 ·have hmem:=Zl (l:=l) (i:=i.toNat) (by omega) (KidOf.mk 0 Edit.nil)
  have hmk:=YC hmem
  have hrk:=Z14 hr hmem
  rw [ZR g1 hi (KidOf.mk 0 Edit.nil)] at g6
  rw [←hy1] at g6 hmk hrk
  rw [←hy2] at g5
  rw [←hy3] at hmk hrk
  simp only [ZE,Z3M] at g6
  rw [←hy3] at g6
  have hk:y1.e.kind=y3.kind:=by rw [hy3]
  rw [hk]
  have gl:(¬0 < i∨¬y1.at_≤y2.at_)∧¬y1.at_ < 0↔last < y1.at_∧¬y1.at_ < 0:=by
   by_cases h0:0 < i
   ·have:=g5 h0;omega
   ·have:=g4 (by omega);omega
  refine ⟨⟨g1,hi⟩,fun _=> by unfold InR;omega,fun _=> by omega,fun _=> ?_,fun _=> by simp only [Z2a];omega,fun hc=> Z2 rfl ?_,fun hc=> ⟨by unfold InR;omega,i+1,rfl,⟨by omega,by omega,y1.at_,by omega,fun h=> by omega,fun _=> by rw [show (i+1 - 1).toNat=i.toNat by omega,←hy1],?_⟩,by omega⟩⟩
  ·simp only [YU]
   exact ⟨⟨by omega,hrk.2⟩,hd0,hd1⟩
  ·rw [←g6]
   by_cases hr:Z4 y3 d=true
   ·rw [decide_eq_false (fun h=> ?_)]
    ·try rfl
    ·rcases hc with hc | hc
     ·rcases hc with (hc | hc) | hc
      ·omega
      ·by_cases h0:0 < i
       ·have:=g5 h0;omega
       ·omega
      ·exact h.2.2 hc
     ·rw [hr] at hc;cases hc
   ·simp only [Bool.not_eq_true] at hr
    rw [hr];simp
  ·rw [←g6,hc.2,decide_eq_true (show last < y1.at_∧y1.at_≤65534∧y3.kind≠0 by
    refine ⟨?_,by omega,hc.1.2⟩
    by_cases h0:0 < i
    ·have:=g5 h0;omega
    ·have:=g4 (by omega);omega)]
   try rfl
 ·rw [List.drop_of_length_le (by omega)] at g6
  simp only [Z3Q]
  rw [←g6]
  exact Z2 rfl rfl
theorem Z5a{list d:Int}:∀ {os:List Op},(∀ o∈os,Zf list o d=true)→ZB list os d=true
 | [],_=> rfl
 | o ::r,h=> by
  simp only [ZB,Bool.and_eq_true]
  exact ⟨h o (List.mem_cons_self ..),Z5a (fun x hx=> h x (List.mem_cons_of_mem _ hx))⟩
theorem ZtK:ZrH:=by
 intro N e d _ hp hN
 simp only [Z1w,Z5e] at hp hN
 obtain ⟨⟨hm,hr,hl⟩,hd0,hd1⟩:=hp
 obtain ⟨ik,ro,rn,rw',il,rk,ros⟩:=Z0O hr
 have hme:=Y6 e
 have hol:=Y3 e.ops
 refine Zv7 N e d _ ?_
 refine Za (ι:=Int) (fun i=> Z1e e d i) (fun i=> 0≤i∧i≤e.ops.length∧∀ o∈e.ops.take i.toNat,Zf e.list o d=true) (fun i=> ((e.ops.length:Int) - i).toNat) 0 rfl ⟨by omega,by omega,by simp⟩ ?_
 rintro i ⟨g1,g2,g3⟩
 refine Zl4 N e d i _ _ ?_
 rintro y1 hy1 y2 hy2 y3 hy3
 subst hy1 hy3
 (simp only [vcS])
 refine ⟨fun hi=> ?_,fun hi=> ?_⟩
 ·have hmem:=Zl (l:=y1.ops) (i:=i.toNat) (by omega) Op.nil
  have hmo:=Y2 hmem
  have hro:=Z13 ros hmem
  rw [←hy2] at hmem hmo hro
  refine ⟨⟨g1,hi⟩,?_,by simp only [Z5d];omega,fun hc=> Z2 rfl ?_,fun hc=> ⟨by unfold InR;omega,i+1,rfl,⟨by omega,by omega,fun o ho=> ?_⟩,by omega⟩⟩
  ·simp only [Z1v]
   exact ⟨⟨by omega,hro,hl⟩,hd0,hd1⟩
  ·have:ZB y1.list y1.ops d=false:=by
    rw [←Bool.not_eq_true]
    intro h
    have:=rightOs_mem h hmem
    rw [hc] at this;cases this
   rw [this,Bool.false_and]
  ·rw [show (i+1).toNat=i.toNat+1 by omega,List.take_add_one] at ho
   rcases List.mem_append.1 ho with ho | ho
   ·exact g3 o ho
   ·have e:y1.ops[i.toNat]?=some y3:=by
     rw [hy2]
     simp [List.getD,List.getElem?_eq_getElem (show i.toNat < y1.ops.length by omega)]
    rw [e] at ho
    simp only [Option.toList_some,List.mem_singleton] at ho
    subst ho
    exact hc
 ·rw [List.take_of_length_le (by omega)] at g3
  have hall:ZB y1.list y1.ops d=true:=Z5a g3
  have hb:∀ o∈y1.ops,(0≤o.n∧o.n≤1048576)∧o.l.length≤20000000000:=by
   intro o ho
   refine ⟨Z4C (g3 o ho),?_⟩
   have h1:=Y2 ho
   rw [Yg] at h1
   have h2:=Zs o.l
   omega
  refine ⟨by simp only [Z7u];omega,Z2 rfl ?_⟩
  rw [ZeX _ _ hb (by decide) (by decide),ZeW _ _ hb (by decide) (by decide),hall,Bool.true_and]
  by_cases h1:JX y1.ops 0 < 1048576 <;> by_cases h2:JW y1.ops 0 < 1048576 <;> simp [h1,h2]
theorem ZtJ:ZrG:=by
 intro N list o d _ hp hN
 simp only [Z1v,Z5d] at hp hN
 obtain ⟨⟨hm,hr,hil⟩,hd0,hd1⟩:=hp
 obtain ⟨ik,inn,rl,re⟩:=Z98 hr
 rw [Yg] at hm hN
 have hll:=Zs o.l
 have hep:=Z1a o.e
 have hat:=Js list o d
 rw [ZiK hd0,Z7i] at hat
 have hs:=ZjD (e:=o.e)
 refine ZuV N list o d _ ?_
 rintro y1 hy1 y2 hy2
 subst hy1
 (simp only [vcS])
 have hp87:YU (o.e,1,()):=by simp only [YU];exact ⟨⟨by omega,re⟩,by omega,by omega⟩
 have hm87:Z2a (o.e,1,()) < N:=by simp only [Z2a];omega
 have hp135:Z34 (o.l,(list,()),()):=by simp only [Z34];exact ⟨by omega,rl,by unfold isI;omega⟩
 have h12:o.kind=1∨o.kind=2→y2= .bool (Zf list o d):=by
  intro hk
  rw [hy2,hat,if_neg (by omega)]
  congr 1
  rw [Bool.eq_iff_iff]
  (simp only [vcS])
  by_cases hn:o.n=0
  ·rw [if_neg (by omega),if_pos (by omega)]
   (simp only [vcS])
   constructor
   ·rintro ⟨⟨⟨⟨h1,h2⟩,h3⟩,h4⟩,h5⟩
    exact ⟨⟨h5,by omega⟩,hs.1 ⟨h3,h4⟩⟩
   ·rintro ⟨⟨h5,h2⟩,h3⟩
    have:=hs.2 h3
    exact ⟨⟨⟨⟨hn,by omega⟩,this.1⟩,this.2⟩,h5⟩
  ·rw [if_pos (by omega)]
   exact ⟨fun h=> absurd h.1.1.1.1 hn,fun h=> (nomatch h)⟩
 refine ⟨fun hk=> ⟨fun _=> hp87,fun _=> hm87,Z2 rfl ?_⟩,fun hk=> ⟨fun hk1=> ⟨fun _=> hp87,fun _=> hm87,fun _=> hp135,?_⟩,fun hk1=> ⟨fun hk2=> ⟨fun _=> hp87,fun _=> hm87,fun _=> hp135,?_⟩,fun hk2=> ⟨fun hk3=> ⟨fun _=> trivial,fun _=> ?_,fun _=> by simp only [Z2a];omega,Z2 rfl ?_⟩,fun hk3=> Z2 rfl ?_⟩⟩⟩⟩
 ·rw [hat,if_pos hk,Bool.eq_iff_iff]
  (simp only [vcS])
  constructor
  ·rintro ⟨⟨⟨h1,h2⟩,h3⟩,h4⟩
   exact ⟨⟨h1.1,h1.2,by omega⟩,hs.1 ⟨h3,h4⟩⟩
  ·rintro ⟨⟨h1,h2,h3⟩,h4⟩
   have:=hs.2 h4
   exact ⟨⟨⟨⟨h1,h2⟩,by omega⟩,this.1⟩,this.2⟩
 ·rw [h12 (Or.inl hk1)]
  exact Z2 rfl rfl
 ·rw [h12 (Or.inr hk2)]
  exact Z2 rfl rfl
 ·simp only [YU];exact ⟨⟨by omega,re⟩,hd0,hd1⟩
 ·rw [hat,if_neg hk,Bool.eq_iff_iff]
  by_cases hn:o.n=0
  ·rw [if_neg (by omega),if_neg (by omega)]
   have hw:Yi list o.e=true↔(o.e.kind≠0∧7 < list)∧(list=8∨o.e.kind=2∨o.e.kind=1∧o.e.old.kind=1∧o.e.new.kind=1):=by
    unfold Yi
    split
    ·exact ⟨fun h=> (nomatch h),fun h=> by omega⟩
    ·split
     ·exact ⟨fun _=> ⟨by omega,by omega⟩,fun _=> rfl⟩
     ·rw [decide_eq_true_eq]
      exact ⟨fun h=> ⟨by omega,Or.inr (Or.inr h)⟩,fun h=> by omega⟩
   (simp only [vcS])
   rw [hw]
   constructor
   ·rintro ⟨⟨h1,h2⟩,h3⟩
    exact ⟨⟨⟨by omega,h2.1⟩,h3⟩,h2.2⟩
   ·rintro ⟨⟨⟨h1,h2⟩,h3⟩,h4⟩
    exact ⟨⟨⟨hn,by omega⟩,h2,h4⟩,h3⟩
  ·rw [if_pos (by omega)]
   (simp only [vcS])
   exact ⟨fun h=> absurd h.1.1.1 hn,fun h=> (nomatch h)⟩
 ·rw [hat,if_neg hk]
  by_cases hn:o.n≠0∨o.kind < 0∨3 < o.kind
  ·rw [if_pos hn]
  ·exfalso;omega
theorem Zx5:Contract Try.prog cfg 89 Z9w∧Contract Try.prog cfg 124 Zhp∧Contract Try.prog cfg 125 Zho∧Contract Try.prog cfg 168 Zhn:=
 Zpd ZtA Ztz Zty c92 Zto Ztl Ztr b89 ZtL ZtK ZtJ
theorem c52:Contract Try.prog cfg 52 Z9K:=by
 refine ZsD Zx5.1 ?_
 intro e _ hp
 simp only [ZhT] at hp
 refine ZwJ _ _ ?_
 (simp only [Tree.eta,Edit.eta,Tree.kind_mk,Tree.words_mk,Tree.kids_mk])
 refine ⟨by simp only [YU];exact ⟨hp,by omega,by omega⟩,?_⟩
 exact Z2 rfl rfl
end Go.AM.Ytpjenobkibfpcaa
namespace Go.AM.Ytpjenobkibfpcaa
open Go.AM Go.Proofs
theorem kids_sum:∀ {l:List Op},(∀ o∈l,Z7C o)→Z2d l≤YQ l+YW l
 | [],_=> by simp [Z2d,YQ,YW]
 | o ::r,h=> by
  have h1:=Z7D (h o List.mem_cons_self)
  have h2:=kids_sum fun x hx=> h x (List.mem_cons_of_mem _ hx)
  simp only [Z2d,YQ,YW]
  split <;> split <;> omega
end Go.AM.Ytpjenobkibfpcaa
namespace Go.AM.Ytpjenobkibfpcaa
open Go.AM Go.Proofs
theorem Znd{t:Tree}(h:Z2F t=true)(hr:rng t):Zj t≤20000000000∧RT_ t∧Z9 t 64=true∧t.kind≠10:=by
 unfold Z2F at h
 simp only [Bool.and_eq_true,decide_eq_true_eq] at h
 exact ⟨Zcc h.1.1,⟨⟨64,h.1.2⟩,hr⟩,h.1.2,h.2⟩
theorem ZvD{t:Tree}(h:Z2F t=true):Zj t≤3000:=by
 unfold Z2F at h
 simp only [Bool.and_eq_true,decide_eq_true_eq] at h
 have:=JG t 80 3000 h.1.1
 omega
theorem Znc{e:Edit}(h:JY e=true):Zg e≤3000∧Z4 e 64=true:=by
 simp only [JY,Bool.and_eq_true,decide_eq_true_eq] at h
 exact ⟨Z82 h.1.1,h.1.2⟩
theorem Zg4{r:Bool}{e:Edit}{t:Tree}(hr:∃ d,Z4 e d=true)(ht:Zj t+ctE e≤200000000000):Zj (Z3Y (doE r e t))≤1000000000000:=by
 cases h:doE r e t with
 | none=> simp [Z3Y,Tree.nil,Zj,Zb]
 | some u=> exact Zff hr ht h
theorem Zg3(o:Option Tree):Z3Y (o.map Z6)=Z6 (Z3Y o):=by cases o;exact Z7K.symm;rfl
end Go.AM.Ytpjenobkibfpcaa
namespace Go.AM.Ytpjenobkibfpcaa
open Go.AM Go.Proofs
mutual
theorem Z58:∀ t:Tree,Zj t≤17592186044416→Z1n t
 | .mk k w ks,h=> by
  simp only [Zj] at h
  have:=Zs ks
  exact ⟨by omega,by omega,Z3F ks (by omega)⟩
theorem Z3F:∀ l:List Tree,Zb l≤17592186044416→Z1m l
 | [],_=> trivial
 | t ::r,h=> by
  simp only [Zb] at h
  exact ⟨Z58 t (by omega),Z3F r (by omega)⟩
end
theorem Zga{e:Edit}{t:Tree}(hr:∃ d,Z4 e d=true)(ht:Zj t+ctE e≤200000000000):Zj (Z3Y ((doE false e t).map Z6))≤1000000000000:=by
 rw [Zg3]
 exact Nat.le_trans (Jt _) (Zg4 hr ht)
end Go.AM.Ytpjenobkibfpcaa
namespace Go.AM.Ytpjenobkibfpcaa
open Go.AM Go.Proofs
theorem Znb{e:Edit}(h:JY e=true)(g:Y1 e):Zvo e∧Zg e≤3000∧Z4 e 64=true:=by
 obtain ⟨m,r⟩:=Znc h
 have hl:JO e=true:=by
  simp only [JY,Bool.and_eq_true] at h
  exact h.2
 have:=Zlj _ e (Nat.le_refl _) ⟨64,r⟩ hl
 exact ⟨⟨by omega,g,64,r⟩,m,r⟩
end Go.AM.Ytpjenobkibfpcaa
namespace Go.AM.Ytpjenobkibfpcaa
open Go.AM Go.Proofs
noncomputable section
def Zny:ArgL (Int × Unit):=(.cons (Yt .i64) .nil)
def ZbN(a:Int × Unit):Prop:=True
def ZhC(a:Int × Unit):V U:= .c (sU .op (YE a.1) (.own (.r 0 0)))
def Z9u:Fs U:=fs Zny (fun a=> [ZbN a]) ZhC
def ZgY:ArgL (Tree × List PStep × Edit × Unit):=(.cons (aEl .tree) (.cons (aSl .step) (.cons (aEl .edit) .nil)))
def Z6f(a:Tree × List PStep × Edit × Unit):Prop:=(Zj a.1≤1000000000)∧(a.2.1).length≤70
def ZeH(a:Tree × List PStep × Edit × Unit):Nat:=(a.2.1).length
def Z3P(a:Tree × List PStep × Edit × Unit):V U:= .tup [(true,(enc .edit ((Zp ZU a.2.2.1 a.2.1 a.1).1))),(false,[.bool ((Zp ZU a.2.2.1 a.2.1 a.1).2)])]
def Z9H:Fs U:=fs ZgY (fun a=> [Z6f a]) Z3P
def ZnF:ArgL (List Op × Int × Unit):=(.cons (aSl .op) (.cons (Yt .i64) .nil))
def ZhQ(a:List Op × Int × Unit):Prop:=Zx1 a.1∧0≤a.2.1
def Ze8(a:List Op × Int × Unit):V U:= .tup [(true,(enc .op ((YL a.1 a.2.1 0 0).1))),(false,[ci ((YL a.1 a.2.1 0 0).2.1)]),(false,[.bool ((YL a.1 a.2.1 0 0).2.2)])]
def Z9A:Fs U:=fs ZnF (fun a=> [ZhQ a]) Ze8
def ZgV:ArgM (Kid × (Int × Int × Unit) × Unit):=(.cons (aEl .kid) (.obj 0 (.cons (ZgQ .i64) (.cons (ZgQ .i64) .nil)) .nil))
def Zmb(a:Kid × (Int × Int × Unit) × Unit):Prop:=True
def ZlB(a:Kid × (Int × Int × Unit) × Unit):V U:= .c (.bool (decide (KidOf.at_ a.1=a.2.1.2.1)))
def Zlz(a:Kid × (Int × Int × Unit) × Unit):List (List (C U)):=[[ci a.2.1.1,ci a.2.1.2.1]]
def Z9B:Fs U:=fsX ZgV (fun a=> [Zmb a]) ZlB Zlz
def ZgW:ArgM (List Kid × (Int × Int × Unit) × Unit):=(.cons (aSl .kid) (.clo 73 0 (.cons (ZgQ .i64) (.cons (ZgQ .i64) .nil)) .nil))
def Zej(a:List Kid × (Int × Int × Unit) × Unit):Prop:=(a.1).length≤1000000000000
def ZhF(a:List Kid × (Int × Int × Unit) × Unit):V U:= .c (ci (Z0y a.1 a.2.1.2.1 0))
def ZcF(a:List Kid × (Int × Int × Unit) × Unit):List (List (C U)):=[[ci a.2.1.1,ci a.2.1.2.1]]
def Z9C:Fs U:=fsX ZgW (fun a=> [Zej a]) ZhF ZcF
def ZmT:List (FuncId × Fs U):=[]
def ZsS:Zi U:=lvl [([0],[]),([0,4],[]),([2],[]),([2],[])]
abbrev A93(p:List Nat):=AW (Z0 ZmT) Try.f93 ZsS p
theorem Zwg(n:Int)(Q:QT)(h:(((n==0)=true→(Q .ret (L2 [(2,.c (.nils))] [])))∧((n==0)=false→(Q .ret (L2 [(2,.c (sU .op ([(OpOf.mk 0 n [] (Edit.mk 0 (Tree.mk 0 [] []) (Tree.mk 0 [] []) [] [] 0 []))]) .full))] []))))):
  A93 [] (L2 [(0,.c (ci n))] []) Q:=
 Eq.mpr (by kernel_rfl) h
def Zu0(n:Int):Prop:=AW (Z0 ZmT) Try.f93 ZsS [] (Zm (Zny.can (n,())) []) (EQ Try.f93 (ZhC (n,())) [])
theorem Zsf(hb:∀ (n:Int) (_:Unit),ZbN (n,())→Zu0 n):CT 93 Z9u:=
 Z3 (l:=[]) Zk rfl trivial ZsS Try.func93 rfl rfl 1 (fun _=> rfl) (by decide) (fun ⟨n,_⟩=> hb n ())
def Zn0(N:Nat):List (FuncId × Fs U):=(56,fs ZgY (fun a=> [Z6f a,ZeH a < N]) Z3P) ::[(91,Z0C),(92,Z03),(93,Z9u)]
def Zt0:Zi U:=lvl [([1,3,5,6],[3,5,6]),([1,3,5,6,16],[3,5,6]),([6,7],[6]),([1,3,5,6,8],[3,5,6,8]),([1,3,5,6,8,31],[3,5,6,8]),([6,7],[6]),([1,3,5,6,8,33],[3,5,6,8]),([6,8,9,10],[6,8,9]),([6,8,9,10,59],[6,8,9]),([6,7],[6]),([6,7],[6]),([1,3,5,6,8,68],[3,5,6,8]),([3,6,8,11,12],[3,6,8,11]),([3,6,8,11,12,99],[3,6,8,11]),([6,7],[6]),([3,6,8,13],[3,6,8]),([6,7],[6]),([6,7],[6])]
abbrev A56(N:Nat)(p:List Nat):=AW (Z0 (Zn0 N)) Try.f56 Zt0 p
theorem ZwG(N:Nat)(t:Tree)(l:List PStep)(e:Edit)(Q:QT)(h:∀ y_1,y_1=e→∀ y_2,y_2=t→∀ y_3,y_3=(List.getD l (Int.toNat 0) (PStep.mk 0 0))→∀ y_4,y_4=(YI y_2 (PStep.at_ y_3))→∀ y_5,y_5=(List.getD t.kids (Int.toNat (PStep.at_ y_3)) Tree.nil)→∀ y_6,y_6=y_5→∀ y_7,y_7=((Zp ZU y_1 (List.drop (Int.toNat 1) l) y_4).1)→∀ y_8,y_8=((Zp ZU y_1 (List.drop (Int.toNat 1) l) y_6).1)→let z13:=((l.length:Int):Int)==0;let z12:=YE (PStep.at_ y_3);let z8:=YE (((((t.kids.length:Int):Int) - (PStep.at_ y_3)):Int) - 1);let z7:=Q .ret (L2 [(6,.ptr (.loc 6) 0),(7,.c (.bool false))] [(.loc 6,zc1)]);let z6:=bif (t.kind==1) then (decide (((PStep.at_ y_3):Int) < 65535)) else false;let z4:=((PStep.kind y_3):Int) !=0;let z11:=bif z4 then true else (decide (((PStep.at_ y_3):Int) < 0));let z1:=decide (2≤t.kind∧t.kind≤9);let z5:=bif z1 then (decide (((PStep.at_ y_3):Int) < (t.kids.length:Int))) else false;let z0:=List.drop (Int.toNat 1) l;let z3:=Zp ZU y_1 z0 y_6;let z10:=bif (!(z3.2)) then true else (((Edit.kind (z3.1)):Int)==0);let z2:=Zp ZU y_1 z0 y_4;let z9:=bif (!(z2.2)) then true else (((Edit.kind (z2.1)):Int)==0);((z13=true→(Q .ret (L2 [(6,.ptr (.loc 6) 0),(7,.c (.bool (t.kind !=10)))] [(.loc 6,(enc .edit e))])))∧(z13=false→((0:Int)≤0∧0 < (l.length:Int))∧((Tr ((!z4)=true))∧(Tr ((!z4)=true))∧(z4=false→(!z4)=true)∧((z11=true→z7)∧(z11=false→(Tr ((t.kind==1)=true))∧(Tr ((t.kind==1)=true))∧(Tr ((t.kind==1)=true))∧((z6=true→(Z8o (y_2,(PStep.at_ y_3),()))∧((0:Int)≤1∧1≤(l.length:Int))∧(Z6f (y_4,z0,y_1,()))∧(ZeH (y_4,z0,y_1,()) < N)∧((Tr ((!(!(z2.2)))=true))∧(Tr ((!(!(z2.2)))=true))∧((!(z2.2))=false→(!(!(z2.2)))=true)∧((z9=true→(Q .ret (L2 [(6,.ptr (.loc 6) 0),(7,.c (.bool (z2.2)))] [(.loc 6,zc1)])))∧(z9=false→(Q .ret (L2 [(6,.ptr (.loc 6) 0),(7,.c (.bool true))] [(.loc 6,[ci 2,ci 0,.nils,.nils,ci 0,.nils,.nils,.nils,sU .kid ([(KidOf.mk (PStep.at_ y_3) y_7)]) .full,ci 0,.nils])]))))))∧(z6=false→(Z8n (t.kind,()))∧(Tr (z1=true))∧(Tr (z1=true))∧(Tr (z1=true))∧(Tr (z1=true))∧(Tr (z1=true))∧(Tr (z1=true))∧((z5=true→((0:Int)≤(PStep.at_ y_3)∧(PStep.at_ y_3) < (t.kids.length:Int))∧((0:Int)≤1∧1≤(l.length:Int))∧(Z6f (y_6,z0,y_1,()))∧(ZeH (y_6,z0,y_1,()) < N)∧((Tr ((!(!(z3.2)))=true))∧(Tr ((!(!(z3.2)))=true))∧((!(z3.2))=false→(!(!(z3.2)))=true)∧((z10=true→(Q .ret (L2 [(6,.ptr (.loc 6) 0),(7,.c (.bool (z3.2)))] [(.loc 6,zc1)])))∧(z10=false→(ZbN ((PStep.at_ y_3),()))∧((z12.length+([(OpOf.mk 3 0 [] y_8)]).length)*240≤140737488355328)∧((InR (((t.kids.length:Int):Int) - (PStep.at_ y_3)))∧(InR (((((t.kids.length:Int):Int) - (PStep.at_ y_3)):Int) - 1))∧(ZbN ((((((t.kids.length:Int):Int) - (PStep.at_ y_3)):Int) - 1),()))∧(((z12++([(OpOf.mk 3 0 [] y_8)])).length+z8.length)*240≤140737488355328)∧(Q .ret (L2 [(6,.ptr (.loc 6) 0),(7,.c (.bool true))] [(.loc 6,[ci 3,ci 0,.nils,.nils,ci 0,.nils,.nils,.nils,.nils,ci t.kind,sU .op ((z12++([(OpOf.mk 3 0 [] y_8)]))++z8) (.own (.l 6 10))])])))))))∧(z5=false→z7)))))))))):
  A56 N [] (L2 [(0,.agg (enc .tree t)),(1,.c (sU .step l .unk)),(2,.agg (enc .edit e))] []) Q:=
 Eq.mpr (by kernel_rfl) (h _ (Ze _) _ (Zc _) _ rfl _ (Zc _) _ rfl _ (Zc _) _ (Ze _) _ (Ze _))
def Zuq(N:Nat)(t:Tree)(l:List PStep)(e:Edit):Prop:=AW (Z0 (Zn0 N)) Try.f56 Zt0 [] (Zm (ZgY.can (t,l,e,())) []) (EQ Try.f56 (Z3P (t,l,e,())) [])
theorem ZsA(c91:CT 91 Z0C)(c92:CT 92 Z03)(c93:CT 93 Z9u)(hb:∀ (N:Nat) (t:Tree) (l:List PStep) (e:Edit) (_:Unit),Z6f (t,l,e,())→ZeH (t,l,e,()) < N+1→Zuq N t l e):CT 56 Z9H:=
 ZS (μ:=ZeH) (l:=[(91,Z0C),(92,Z03),(93,Z9u)]) Zk rfl (⟨c91,c92,c93,trivial⟩) Zt0 Try.func56 rfl rfl 3 (fun _=> rfl) (by decide) (fun N ⟨t,l,e,_⟩=> hb N t l e ())
def Zgs:List (FuncId × Fs U):=[]
def ZpP:Zi U:=lvl [([0,1,4],[4]),([0,1,4,7,8],[4]),([1,4,7,8,12,13,14],[4]),([1,4,7,8,12,13,14,15],[4]),([1,4,7,8,10,12,13,14],[4,10]),([1,4,7,8,10,11,12,13,14],[4,10]),([1,4,7,8,10,11,12,13,14,26],[4,10]),([1,4,7,8,10,11,12,13,14],[4,10]),([1,4,7,8,10,11,12,13,14,29],[4,10]),([1,4,7,8,12,13,14],[4]),([1,4,7,8,10,11,12,13,14,37],[4,10]),([4,5,6],[4]),([1,4,7,8,10,11,12,13,14],[4,10]),([1,4,7,8,11,12,13,14,52],[4]),([1,4,7,8,12,13,14],[4]),([1,4,7,8,12,13,14],[4]),([4,5,6],[4])]
def JS(l:List Op)(at_ x8 x14 x7:Int):LSt U:=(L2 [(1,.c (ci at_)),(4,.ptr (.loc 4) 0),(7,.c (ci x7)),(8,.c (ci x8)),(12,.c (sU .op l .unk)),(13,.c (ci (l.length:Int))),(14,.c (ci x14))] [(.loc 4,zc2)])
abbrev A74(p:List Nat):=AW (Z0 Zgs) Try.f74 ZpP p
abbrev S74(p:List Nat):=SW (Z0 Zgs) Try.f74 ZpP p
theorem Zwr(l:List Op)(at_:Int)(Q:QT)(h:(Zh (A74 [1,1,0,1,0,0]) (JS l at_ 0 0 0) (xB 0 (S74 [1,1,1] Q)))):
  A74 [] (L2 [(0,.c (sU .op l .unk)),(1,.c (ci at_))] []) Q:=
 Eq.mpr (by kernel_rfl) h
theorem Zoq(l:List Op)(at_ x8 x14 x7:Int)(N0:NT)(Q:QT)(h:∀ y_1,y_1=(l.getD x14.toNat Op.nil)→let z5:=InR (((x8+at_):Int) - x7);let z4:=decide (x14 < (l.length:Int));let z3:=InR (x7+(y_1.n+(y_1.l.length:Int)));let z2:=InR (x8+(y_1.n+(y_1.l.length:Int)));let z1:=decide (at_ < (x7+(y_1.n+(y_1.l.length:Int))));let z0:=Q .ret (L2 [(4,.ptr (.loc 4) 0),(5,.c (ci (((x8+at_):Int) - x7))),(6,.c (.bool (y_1.kind !=1)))] [(.loc 4,(enc .op y_1))]);((z4=true→((0:Int)≤x14∧x14 < (l.length:Int))∧((InR (y_1.n+(y_1.l.length:Int)))∧(((y_1.kind==3)=true→(((y_1.kind==2)=true→(InR (x8+1))∧((InR (x14+1))∧(N0 (JS l at_ (x8+1) (x14+1) x7))))∧((y_1.kind==2)=false→(InR (x7+1))∧(((decide (at_ < (x7+1)))=true→(InR (x8+at_))∧z5∧z0)∧((decide (at_ < (x7+1)))=false→(InR (x7+1))∧(((y_1.kind !=1)=true→(InR (x8+1))∧((InR (x14+1))∧(N0 (JS l at_ (x8+1) (x14+1) (x7+1)))))∧((y_1.kind !=1)=false→(InR (x14+1))∧(N0 (JS l at_ x8 (x14+1) (x7+1))))))))))∧((y_1.kind==3)=false→(((y_1.kind==2)=true→z2∧((InR (x14+1))∧(N0 (JS l at_ (x8+(y_1.n+(y_1.l.length:Int))) (x14+1) x7))))∧((y_1.kind==2)=false→z3∧((z1=true→(InR (x8+at_))∧z5∧z0)∧(z1=false→z3∧(((y_1.kind !=1)=true→z2∧((InR (x14+1))∧(N0 (JS l at_ (x8+(y_1.n+(y_1.l.length:Int))) (x14+1) (x7+(y_1.n+(y_1.l.length:Int)))))))∧((y_1.kind !=1)=false→(InR (x14+1))∧(N0 (JS l at_ x8 (x14+1) (x7+(y_1.n+(y_1.l.length:Int)))))))))))))))∧(z4=false→(Q .ret (L2 [(4,.ptr (.loc 4) 0),(5,.c (ci 0)),(6,.c (.bool false))] [(.loc 4,zc2)]))))):
  A74 [1,1,0,1,0,0] (JS l at_ x8 x14 x7) (xT N0 (xB 0 (S74 [1,1,1] Q))):=
 Eq.mpr (by kernel_rfl) (h _ rfl)
def Zub(l:List Op)(at_:Int):Prop:=AW (Z0 Zgs) Try.f74 ZpP [] (Zm (ZnF.can (l,at_,())) []) (EQ Try.f74 (Ze8 (l,at_,())) [])
theorem Zso(hb:∀ (l:List Op) (at_:Int) (_:Unit),ZhQ (l,at_,())→Zub l at_):CT 74 Z9A:=
 Z3 (l:=[]) Zk rfl trivial ZpP Try.func74 rfl rfl 2 (fun _=> rfl) (by decide) (fun ⟨l,at_,_⟩=> hb l at_ ())
def ZmV:List (FuncId × Fs U):=[]
def ZsV:Zi U:=fun i=> match i with
 | 0=> ([(1,[]),(2,[])],[(.loc 2,[]),(.x 0,[])])
 | 1=> ([(3,[])],[(.x 0,[])])
 | _=> ([],[])
abbrev A73(p:List Nat):=AW (Z0 ZmV) Try.f73 ZsV p
theorem Zws(k:Kid)(kind at_:Int)(Q:QT)(h:(Q .ret (L2 [(3,.c (.bool (k.at_==at_)))] [(.x 0,[ci kind,ci at_])]))):
  A73 [] (L2 [(0,.agg (enc .kid k)),(1,.ptr (.x 0) 0)] [(.x 0,[ci kind,ci at_])]) Q:=
 Eq.mpr (by kernel_rfl) h
def Zuc(k:Kid)(kind at_:Int):Prop:=AW (Z0 ZmV) Try.f73 ZsV [] (Zm (ZgV.can (k,(kind,at_,()),())) (ZgV.canX (k,(kind,at_,()),()))) (EQ Try.f73 (ZlB (k,(kind,at_,()),())) (Zlz (k,(kind,at_,()),())))
theorem Zsp(hb:∀ (k:Kid) (kind:Int) (at_:Int) (_:Unit),Zmb (k,(kind,at_,()),())→Zuc k kind at_):CT 73 Z9B:=
 J9 (l:=[]) Zk rfl trivial ZsV Try.func73 rfl rfl 2 (fun _=> rfl) (by decide) (fun ⟨k,⟨kind,at_,_⟩,_⟩=> hb k kind at_ ())
def Zgt:List (FuncId × Fs U):=[(73,Z9B)]
def ZpQ:Zi U:=fun i=> match i with
 | 0=> ([(0,[]),(1,[])],[(.x 0,[])])
 | 1=> ([(0,[]),(1,[]),(7,[]),(8,[])],[(.x 0,[])])
 | 2=> ([(0,[]),(1,[]),(7,[]),(8,[]),(9,[])],[(.x 0,[])])
 | 3=> ([(0,[]),(1,[]),(5,[]),(7,[]),(8,[])],[(.x 0,[])])
 | 4=> ([(0,[]),(1,[]),(5,[]),(7,[]),(8,[]),(16,[])],[(.x 0,[])])
 | 5=> ([(4,[])],[(.x 0,[])])
 | 6=> ([(0,[]),(1,[]),(7,[]),(8,[])],[(.x 0,[])])
 | 7=> ([(4,[])],[(.x 0,[])])
 | _=> ([],[])
def Z6L(l:List Kid)(kind at_ x8:Int):LSt U:=(L2 [(0,.c (sU .kid l .unk)),(1,.clo 73 [(.x 0)]),(7,.c (ci (l.length:Int))),(8,.c (ci x8))] [(.x 0,[ci kind,ci at_])])
abbrev A72(p:List Nat):=AW (Z0 Zgt) Try.f72 ZpQ p
abbrev S72(p:List Nat):=SW (Z0 Zgt) Try.f72 ZpQ p
theorem Zwt(l:List Kid)(kind at_:Int)(Q:QT)(h:(Zh (A72 [1,0,1,0,0]) (Z6L l kind at_ 0) (xB 0 (S72 [1,1] Q)))):
  A72 [] (L2 [(0,.c (sU .kid l .unk)),(1,.clo 73 [(.x 0)])] [(.x 0,[ci kind,ci at_])]) Q:=
 Eq.mpr (by kernel_rfl) h
theorem Zor(l:List Kid)(kind at_ x8:Int)(N0:NT)(Q:QT)(h:∀ y_1,y_1=(l.getD x8.toNat (KidOf.mk 0 Edit.nil))→∀ y_2,y_2=y_1→let z1:=decide (KidOf.at_ y_2=at_);let z0:=decide (x8 < (l.length:Int));((z0=true→(((0:Int)≤x8∧x8 < (l.length:Int))∧(Zmb (y_2,(kind,at_,()),()))∧((z1=true→(Q .ret (L2 [(4,.c (ci x8))] [(.x 0,[ci kind,ci at_])])))∧(z1=false→(InR (x8+1))∧(N0 (Z6L l kind at_ (x8+1)))))))∧(z0=false→(Q .ret (L2 [(4,.c (ci (-1)))] [(.x 0,[ci kind,ci at_])]))))):
  A72 [1,0,1,0,0] (Z6L l kind at_ x8) (xT N0 (xB 0 (S72 [1,1] Q))):=
 Eq.mpr (by kernel_rfl) (h _ rfl _ (Zm1 _))
def Zud(l:List Kid)(kind at_:Int):Prop:=AW (Z0 Zgt) Try.f72 ZpQ [] (Zm (ZgW.can (l,(kind,at_,()),())) (ZgW.canX (l,(kind,at_,()),()))) (EQ Try.f72 (ZhF (l,(kind,at_,()),())) (ZcF (l,(kind,at_,()),())))
theorem Zsq(c73:CT 73 Z9B)(hb:∀ (l:List Kid) (kind:Int) (at_:Int) (_:Unit),Zej (l,(kind,at_,()),())→Zud l kind at_):CT 72 Z9C:=
 J9 (l:=[(73,Z9B)]) Zk rfl (⟨c73,trivial⟩) ZpQ Try.func72 rfl rfl 2 (fun _=> rfl) (by decide) (fun ⟨l,⟨kind,at_,_⟩,_⟩=> hb l kind at_ ())
end
end Go.AM.Ytpjenobkibfpcaa
