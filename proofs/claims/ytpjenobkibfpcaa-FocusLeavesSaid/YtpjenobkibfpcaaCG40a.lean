import Derived.Test.YtpjenobkibfpcaaKG22e
import Derived.Test.YtpjenobkibfpcaaKL22m
import Derived.Test.YtpjenobkibfpcaaKB21b
import Derived.Test.YtpjenobkibfpcaaCD25s
import Derived.Test.YtpjenobkibfpcaaKD24
set_option linter.unusedSimpArgs false
set_option linter.unusedVariables false
namespace Go.AM.Ytpjenobkibfpcaa
open Go.AM Go.Proofs
theorem Zcd:∀ (l:List Op),0≤ZI l∧(ZI l < l.length→(l.getD (ZI l).toNat Op.nil).kind≠1∧(l.getD (ZI l).toNat Op.nil).kind≠2)
 | []=> by simp [ZI]
 | o ::r=> by
  obtain ⟨h1,h2⟩:=Zcd r
  rw [ZI]
  split
  ·rename_i hk
   refine ⟨by omega,fun h=> ?_⟩
   rw [show (1+ZI r).toNat=(ZI r).toNat+1 by omega,List.getD_cons_succ]
   exact h2 (by simp at h;omega)
  ·rename_i hk
   refine ⟨by omega,fun _=> ?_⟩
   simp only [Int.toNat_zero,List.getD_cons_zero]
   omega
theorem ZiI:∀ (l:List Op),ZI l≤l.length
 | []=> by simp [ZI]
 | o ::r=> by
  have:=ZiI r
  rw [ZI]
  split <;> simp <;> omega
theorem ZgQ(l:List Op)(i k:Nat):(l.drop i).getD k Op.nil=l.getD (i+k) Op.nil:=by
 simp [List.getD,List.getElem?_drop]
theorem ZcG{list:Int}{o:Op}{d:Int}(h:Zf list o d=true):o.kind=0∨o.kind=1∨o.kind=2∨o.kind=3:=by
 obtain ⟨k,n,l,e⟩:=o
 show k=0∨k=1∨k=2∨k=3
 rw [Zf] at h
 split at h
 ·omega
 ·split at h
  ·cases h
  ·omega
theorem b76:Zw9:=by
 intro N list l _ hp hN
 simp only [Z8u,ZeJ] at hp hN
 obtain ⟨p1,p3⟩:=hp
 have hl:=Y3 l
 refine Zwr _ _ _ _ ?_
 refine Za (ι:=Int × List Op) (fun s=> ZQ list l s.1 s.2)
  (fun s=> 0≤s.1∧s.1≤l.length∧(Z1 (Zo list (l.drop s.1.toNat) ⟨s.2,[],[]⟩)).out=(Z1 (Zo list l ⟨[],[],[]⟩)).out∧s.2.length≤3*s.1∧∀ o∈s.2,0≤o.n∧o.n≤s.1*1048576)
  (fun s=> ((l.length:Int) - s.1).toNat) (0,[]) rfl ⟨by simp,by simp,by simp,by simp,by simp⟩ ?_
 rintro ⟨i,out⟩ ⟨g1,g2,g3,g4,g6⟩
 dsimp only at g1 g2 g3 g4 g6
 have key:i < l.length→∀ F,F=(Z1 ⟨out,Yo 1 (l.drop i.toNat),Yo 2 (l.drop i.toNat)⟩).out→
   Zhi N list l i F (fun s2=> ∃ j:Int × List Op,s2=ZQ list l j.1 j.2∧(0≤j.1∧j.1≤l.length∧(Z1 (Zo list (l.drop j.1.toNat) ⟨j.2,[],[]⟩)).out=(Z1 (Zo list l ⟨[],[],[]⟩)).out∧j.2.length≤3*j.1∧∀ o∈j.2,0≤o.n∧o.n≤j.1*1048576)∧((l.length:Int) - j.1).toNat < ((l.length:Int) - i).toNat) (Jg cfg Try.f76.ntmps Try.f76.results.toList (Zac (list,l,())) []):=by
  intro hi F hF
  obtain ⟨q1,q2⟩:=Zcd (l.drop i.toNat)
  have q3:=ZiI (l.drop i.toNat)
  rw [List.length_drop] at q2 q3
  rw [ZgQ,show i.toNat+(ZI (l.drop i.toNat)).toNat=(i+ZI (l.drop i.toNat)).toNat by omega] at q2
  rw [ZbW,List.drop_drop,show i.toNat+(ZI (l.drop i.toNat)).toNat=(i+ZI (l.drop i.toNat)).toNat by omega] at g3
  simp only [List.nil_append] at g3
  have hfl:=Z51 ⟨out,Yo 1 (l.drop i.toNat),Yo 2 (l.drop i.toNat)⟩
  have hfm:=Z50 ⟨out,Yo 1 (l.drop i.toNat),Yo 2 (l.drop i.toNat)⟩
  have hflush:Z1 ⟨out,Yo 1 (l.drop i.toNat),Yo 2 (l.drop i.toNat)⟩=⟨F,[],[]⟩:=by rw [hF];try rfl
  have hkeep:∀ n,Zy ⟨out,Yo 1 (l.drop i.toNat),Yo 2 (l.drop i.toNat)⟩ n=⟨Y8 F n,[],[]⟩:=by intro n;rw [hF];try rfl
  rw [←hF] at hfl hfm
  simp only at hfl hfm
  refine Zoq _ _ _ _ _ _ _ ?_
  rintro y1 hy1 y2 hy2 y3 hy3 y4 hy4 y5 hy5 y6 hy6
  generalize hj:i+ZI (l.drop i.toNat)=j at*
  have hy:y2=Edit.nil:=hy2
  subst hy
  have hFn:∀ o∈F,0≤o.n∧o.n≤i*1048576:=by
   intro o ho
   rcases hfm o ho with h1 | h1
   ·exact g6 o h1
   ·omega
  simp only [show ((0:Int)==0)=true from rfl,show ((3:Int)==0)=false from rfl,cond_true,cond_false]
  (simp only [vcS])
  refine ⟨fun hjl=> ?_,fun hjl=> ?_⟩
  ·rw [List.drop_of_length_le (by omega)] at g3
   simp only [Zo,hflush] at g3
   simp only [Zac]
   rw [←g3]
   (repeat' (first | exact trivial | exact rfl | apply And.intro))
  ·have hmem:=Zl (l:=l) (i:=j.toNat) (by omega) Op.nil
   have hm:=Y2 hmem
   obtain ⟨d,hr2⟩:=p3 _ hmem
   have hq:=q2 (by omega)
   rw [←hy1] at hm hr2 hq
   have hkind:=ZcG hr2
   rw [ZR (by omega) (by omega) Op.nil,←hy1,Zo,Yq] at g3
   have hmo:=Yg y1
   have hlast:(F.length:Int) - 1=((F.length - 1:Nat):Int)∨F.length=0:=by omega
   have e2:((F.length:Int) - 1).toNat=F.length - 1:=by omega
   rw [e2] at hy3 ⊢
   have hk3:0 < F.length→0≤y3.n∧y3.n≤i*1048576:=fun h=> by
    rw [hy3];exact hFn _ (Zl (by omega) _)
   have keeps:∀ n:Int,0≤n∧n≤1048576→(Z1 (Zo list (l.drop (j+1).toNat) ⟨Y8 F n,[],[]⟩)).out=(Z1 (Zo list l ⟨[],[],[]⟩)).out→
     ((0 < F.length∧y3.kind=0→∃ q:Int × List Op,ZQ list l (j+1) (F.set (F.length - 1) ⟨y3.kind,y3.n+n,y3.l,y5⟩)=ZQ list l q.1 q.2∧(0≤q.1∧q.1≤l.length∧(Z1 (Zo list (l.drop q.1.toNat) ⟨q.2,[],[]⟩)).out=(Z1 (Zo list l ⟨[],[],[]⟩)).out∧q.2.length≤3*q.1∧∀ o∈q.2,0≤o.n∧o.n≤q.1*1048576)∧((l.length:Int) - q.1).toNat < ((l.length:Int) - i).toNat)∧
      (¬(0 < F.length∧y3.kind=0)→∃ q:Int × List Op,ZQ list l (j+1) (F++[⟨0,n,[],Edit.nil⟩])=ZQ list l q.1 q.2∧(0≤q.1∧q.1≤l.length∧(Z1 (Zo list (l.drop q.1.toNat) ⟨q.2,[],[]⟩)).out=(Z1 (Zo list l ⟨[],[],[]⟩)).out∧q.2.length≤3*q.1∧∀ o∈q.2,0≤o.n∧o.n≤q.1*1048576)∧((l.length:Int) - q.1).toNat < ((l.length:Int) - i).toNat)):=by
    intro n hn hg
    rw [Z4e,←hy3,←hy5] at hg
    refine ⟨fun hc=> ?_,fun hc=> ?_⟩
    ·rw [if_pos ⟨by omega,hc.2⟩] at hg
     refine ⟨(j+1,_),rfl,⟨by dsimp only;omega,by dsimp only;omega,hg,by dsimp only;rw [List.length_set];omega,fun o ho=> ?_⟩,by dsimp only;omega⟩
     dsimp only at ho ⊢
     have hk4:=hk3 (by omega)
     rcases List.mem_or_eq_of_mem_set ho with ho | rfl
     ·have:=hFn o ho;omega
     ·simp only;omega
    ·rw [if_neg (fun h=> hc ⟨by omega,h.2⟩)] at hg
     refine ⟨(j+1,_),rfl,⟨by dsimp only;omega,by dsimp only;omega,hg,by dsimp only;rw [List.length_append,List.length_singleton];omega,fun o ho=> ?_⟩,by dsimp only;omega⟩
     dsimp only at ho ⊢
     rcases List.mem_append.1 ho with ho | ho
     ·have:=hFn o ho;omega
     ·simp only [List.mem_singleton] at ho
      subst ho
      simp only;omega
   refine ⟨by omega,by omega,fun hk=> ?_,fun hk=> ?_⟩
   ·rw [if_neg (by omega),if_neg (by omega),if_neg (by omega),if_pos hk] at g3
    rw [←hy4,←hy6,hkeep,hflush] at g3
    have hre:=Z6g hr2 hk
    rw [←hy4] at hre
    have hmE:Zg y4≤ZX y1:=by rw [hmo,hy4];omega
    refine ⟨by omega,by simp only [Z3r];exact ⟨by omega,d,hre⟩,by simp only [ZaH];omega,by simp only [Z6m],fun hq=> ?_,fun hq=> ?_⟩
    ·rw [if_pos hq] at g3
     have hK:=keeps 1 (by omega) g3
     refine ⟨by unfold InR;omega,by omega,fun hc=> ?_,fun hc=> ?_⟩
     ·have hk4:=hk3 (by omega)
      exact ⟨by unfold InR;omega,by unfold InR;omega,by omega,by unfold InR;omega,by omega,by omega,by unfold InR;omega,hK.1 ⟨by omega,hc.2⟩⟩
     ·exact ⟨by simp only [List.length_singleton];omega,by unfold InR;omega,hK.2 (fun h=> by omega)⟩
    ·rw [if_neg (by rw [hq];simp)] at g3
     refine ⟨fun h=> (nomatch h),fun h=> (nomatch h),fun h=> (nomatch h),fun _=> ⟨by simp only [List.length_singleton];omega,by unfold InR;omega,(j+1,F++[⟨3,0,[],y6⟩]),rfl,⟨by dsimp only;omega,by dsimp only;omega,g3,by dsimp only;rw [List.length_append,List.length_singleton];omega,fun o ho=> ?_⟩,by dsimp only;omega⟩⟩
     dsimp only at ho ⊢
     rcases List.mem_append.1 ho with ho | ho
     ·have:=hFn o ho;omega
     ·simp only [List.mem_singleton] at ho
      subst ho
      simp only;omega
   ·have hk0:y1.kind=0:=by omega
    rw [if_pos hk0,hkeep] at g3
    have h1:=Z6f hr2 hk0
    have hK:=keeps y1.n (by omega) g3
    refine ⟨by unfold InR;omega,by omega,fun hc=> ?_,fun hc=> ?_⟩
    ·have hk4:=hk3 (by omega)
     exact ⟨by unfold InR;omega,by unfold InR;omega,by omega,by unfold InR;omega,by omega,by omega,by unfold InR;omega,hK.1 ⟨by omega,hc.2⟩⟩
    ·exact ⟨by simp only [List.length_singleton];omega,by unfold InR;omega,hK.2 (fun h=> by omega)⟩
 refine Zop _ _ _ _ _ _ _ ?_
 rintro y1 hy1
 have hy:y1=Edit.nil:=hy1
 subst hy
 (simp only [vcS])
 refine ⟨fun hi=> ?_,fun hi=> ?_⟩
 ·have kk:=key hi
  simp only [Z1,YD] at kk
  refine ⟨by simp only [Z3a];omega,by simp only [Z3a];omega,fun h1=> ⟨by simp only [List.length_singleton];omega,fun h2=> ⟨by simp only [List.length_append,List.length_singleton];omega,?_⟩,fun h2=> ?_⟩,fun h1=> ⟨fun h2=> ⟨by simp only [List.length_singleton];omega,?_⟩,fun h2=> ?_⟩⟩
  ·refine kk _ ?_
   rw [if_neg (by omega),if_neg (by omega)];simp
  ·refine kk _ ?_
   rw [if_neg (by omega),if_pos (by omega)];simp
  ·refine kk _ ?_
   rw [if_pos (by omega),if_neg (by omega)];simp
  ·refine kk _ ?_
   rw [if_pos (by omega),if_pos (by omega)];simp
 ·rw [List.drop_of_length_le (by omega)] at g3
  have:(Z1 (Zo list [] ⟨out,[],[]⟩)).out=out:=by simp [Zo,Z1,YD]
  rw [this] at g3
  simp only [Zac]
  rw [←g3]
  (repeat' (first | exact trivial | exact rfl | apply And.intro))
theorem ZfR{e:Edit}{d:Int}(h:Z4 e d=true):(e.kind=0∨e.kind=1∨e.kind=2∨e.kind=3)∧(e.kind≠3→e.list=0):=by
 obtain ⟨k,o,n,w,ks,l,os⟩:=e
 show (k=0∨k=1∨k=2∨k=3)∧(k≠3→l=0)
 rw [Z4] at h
 split at h
 ·cases h
 ·split at h
  ·cases h
  ·rename_i h1 h2
   refine ⟨by omega,fun hk=> ?_⟩
   apply Classical.byContradiction
   intro hl
   exact h2 (.inr (.inr ⟨hk,.inl hl⟩))
theorem b32:Zwd:=by
 intro N e _ hp hN
 simp only [Z3r,ZaH] at hp hN
 obtain ⟨p1,d,p3⟩:=hp
 have h1:=Y6 e
 have h2:=Y4 e.kids
 have h3:=Y3 e.ops
 have ha:=Z3d e
 obtain ⟨hkd,hli⟩:=ZfR p3
 refine ZwP _ _ _ ?_
 (simp only [vcS])
 (simp only [Tree.eta,Edit.eta,Tree.kind_mk,Tree.words_mk,Tree.kids_mk])
 refine ⟨fun hk=> ⟨by simp only [Z0u];omega,by simp only [Z0u];omega,?_⟩,fun hk=> ⟨fun hk2=> ⟨by simp;omega,?_⟩,fun hk2=> ⟨fun hk3=> ⟨?_,by simp only [ZeJ];omega,?_⟩,fun hk3=> ?_⟩⟩⟩
 ·rw [if_pos hk] at ha
  simp only [Z8q,ha]
  (repeat' (first | exact trivial | exact rfl | apply And.intro))
  ·exact hk.symm
  ·exact (hli (by omega)).symm
 ·rw [if_neg hk,if_pos hk2] at ha
  refine Za (ι:=Int × List Kid) (fun s=> Z2D e s.1 s.2) (fun s=> 0≤s.1∧s.1≤e.kids.length∧s.2.length=s.1∧s.2++Yj (e.kids.drop s.1.toNat)=Yj e.kids) (fun s=> ((e.kids.length:Int) - s.1).toNat) (0,[]) rfl ⟨by simp,by simp,by simp,by simp⟩ ?_
  rintro ⟨j,ks⟩ ⟨f1,f2,f3,f4⟩
  dsimp only at f1 f2 f3 f4
  refine ZoM _ _ _ _ _ _ ?_
  rintro y1 hy1 y2 hy2 y3 hy3
  (simp only [vcS])
  refine ⟨fun hj=> ?_,fun hj=> ?_⟩
  ·have hmem:=Zl (l:=e.kids) (i:=j.toNat) (by omega) (KidOf.mk 0 Edit.nil)
   have hm:=YC hmem
   have hr:=Zca p3 hk2 _ hmem
   rw [ZR f1 hj (KidOf.mk 0 Edit.nil)] at f4
   rw [←hy1] at f4 hm hr
   simp only [Yj,Z7M] at f4
   rw [←hy2] at f4 hm hr
   rw [←hy3] at f4
   refine ⟨⟨f1,hj⟩,⟨f1,hj⟩,by simp only [Z3r];exact ⟨by omega,hr⟩,by simp only [ZaH];omega,by simp;omega,by unfold InR;omega,(j+1,ks++[⟨y1.at_,y3⟩]),rfl,⟨by dsimp only;omega,by dsimp only;omega,by simp;omega,?_⟩,by dsimp only;omega⟩
   simp only [List.append_assoc,List.cons_append,List.nil_append]
   exact f4
  ·rw [List.drop_of_length_le (by omega)] at f4
   simp only [Yj,List.append_nil] at f4
   rw [f4]
   simp only [Z8q,ha]
   (repeat' (first | exact trivial | exact rfl | apply And.intro))
   ·exact hk2.symm
   ·exact (hli (by omega)).symm
 ·simp only [Z8u]
  exact ⟨by omega,fun o ho=> Zew p3 hk3 o ho⟩
 ·rw [if_neg hk,if_neg hk2,if_pos hk3] at ha
  simp only [Z8q,ha]
  (repeat' (first | exact trivial | exact rfl | apply And.intro))
  exact hk3.symm
 ·rw [if_neg hk,if_neg hk2,if_neg hk3] at ha
  simp only [Z8q,ha]
  (repeat' (first | exact trivial | exact rfl | apply And.intro))
  ·show 0=e.kind
   omega
  ·exact (hli hk3).symm
theorem Ztj:Contract Try.prog cfg 32 Z9R∧Contract Try.prog cfg 76 Zlr:=Zkb c45 ZtF Znv b32 b76
end Go.AM.Ytpjenobkibfpcaa
namespace Go.AM.Ytpjenobkibfpcaa
open Go.AM Go.Proofs
theorem Zqk{n:Nat}{rs:List ResultVar}{r r':V U}{X:List (List (C U))}{e:AExit}{s:LSt U}(hr:r=r')(h:Jg cfg n rs r' X e s):Jg cfg n rs r X e s:=by rw [hr];exact h
end Go.AM.Ytpjenobkibfpcaa
namespace Go.AM
def Z3t(list:Int):List Tree→Int→Int
 | [],_=> -1
 | t ::r,i=> if Z9 (Tree.mk list [] [t]) 64=true then Z3t list r (i+1) else i
theorem Zcl(list:Int):∀ (l:List Tree) (i:Int),0≤i→(0≤Z3t list l i↔YN list l=false)
 | [],i,_=> by simp [Z3t,YN]
 | t ::r,i,hi=> by
  have ih:=Zcl list r (i+1) (by omega)
  rw [Z3t,YN]
  by_cases h:Z9 (Tree.mk list [] [t]) 64=true
  ·rw [if_pos h,h,Bool.true_and];exact ih
  ·rw [if_neg h]
   simp only [Bool.not_eq_true] at h
   rw [h,Bool.false_and]
   exact ⟨fun _=> rfl,fun _=> hi⟩
end Go.AM
namespace Go.AM.Ytpjenobkibfpcaa
open Go.AM Go.Proofs
noncomputable section
noncomputable section
def Zdw:ArgM (Tree × (Int × Unit) × Unit):=(.cons (aEl .tree) (.obj 0 (.cons (ZgU .i64) .nil) .nil))
def Z7y(a:Tree × (Int × Unit) × Unit):Prop:=Zj a.1≤18000000000∧rng a.1∧isI a.2.1.1
def ZfW(a:Tree × (Int × Unit) × Unit):V U:= .c (.bool (!(Z9 (Tree.mk a.2.1.1 [] [a.1]) 64)))
def ZcK(a:Tree × (Int × Unit) × Unit):List (List (C U)):=[[ci a.2.1.1]]
def Z62:Fs U:=fsX Zdw (fun a=> [Z7y a]) ZfW ZcK
def Zdv:ArgM (List Tree × (Int × Unit) × Unit):=(.cons (aSl .tree) (.clo 185 0 (.cons (ZgU .i64) .nil) .nil))
def Zaj(a:List Tree × (Int × Unit) × Unit):Prop:=Zb a.1≤18000000000∧ZW a.1∧isI a.2.1.1
def ZcO(a:List Tree × (Int × Unit) × Unit):V U:= .c (ci (Z3t a.2.1.1 a.1 0))
def Z9d(a:List Tree × (Int × Unit) × Unit):List (List (C U)):=[[ci a.2.1.1]]
def Z5Z:Fs U:=fsX Zdv (fun a=> [Zaj a]) ZcO Z9d
def Zdx:ArgM (List Tree × (Int × Unit) × Unit):=(.cons (aSl .tree) (.clo 185 0 (.cons (ZgU .i64) .nil) .nil))
def Z37(a:List Tree × (Int × Unit) × Unit):Prop:=Zb a.1≤18000000000∧ZW a.1∧isI a.2.1.1
def ZfX(a:List Tree × (Int × Unit) × Unit):V U:= .c (.bool (!(YN a.2.1.1 a.1)))
def ZcL(a:List Tree × (Int × Unit) × Unit):List (List (C U)):=[[ci a.2.1.1]]
def Z2Y:Fs U:=fsX Zdx (fun a=> [Z37 a]) ZfX ZcL
def Zis:List (FuncId × Fs U):=[(186,Z61)]
def ZmD:Zi U:=fun i=> match i with
 | 0=> ([(1,[]),(2,[])],[(.loc 2,[]),(.x 0,[])])
 | 1=> ([(3,[])],[(.x 0,[])])
 | _=> ([],[])
abbrev ZvO(t:Tree)(list:Int)(Q:QT):=AW (Z0 Zis) Try.f185 ZmD [] (L2 [(0,.agg (enc .tree t)),(1,.ptr (.x 0) 0)] [(.x 0,[ci list])]) Q
theorem ZuU(t:Tree)(list:Int)(Q:QT)(h:(Zak (list,(Tree.mk t.kind t.words t.kids),()))∧(Q .ret (L2 [(3,.c (.bool (!(Z9 (Tree.mk list [] [(Tree.mk t.kind t.words t.kids)]) 64))))] [(.x 0,[ci list])]))):
  ZvO t list Q:=by
 have e_:(ZvO t list Q)=(type_of% h):=by kernel_rfl
 exact e_.mpr ⟨h.1,h.2⟩
def ZqB(t:Tree)(list:Int):Prop:=AW (Z0 Zis) Try.f185 ZmD [] (Zm (Zdw.can (t,(list,()),())) (Zdw.canX (t,(list,()),()))) (EQ Try.f185 (ZfW (t,(list,()),())) (ZcK (t,(list,()),())))
theorem Zpl(Zto:CT 186 Z61)(hb:∀ (t:Tree) (list:Int) (_:Unit),Z7y (t,(list,()),())→ZqB t list):CT 185 Z62:=
 J9 (l:=[(186,Z61)]) Zk rfl (⟨Zto,trivial⟩) ZmD Try.func185 rfl rfl 2 (fun _=> rfl) (by decide) (fun ⟨t,⟨list,_⟩,_⟩=> hb t list ())
def Z0h:List (FuncId × Fs U):=[(185,Z62)]
def Z6y:Zi U:=fun i=> match i with
 | 0=> ([(0,[]),(1,[])],[(.x 0,[])])
 | 1=> ([(0,[]),(1,[]),(7,[]),(8,[])],[(.x 0,[])])
 | 2=> ([(0,[]),(1,[]),(7,[]),(8,[]),(9,[])],[(.x 0,[])])
 | 3=> ([(0,[]),(1,[]),(5,[]),(7,[]),(8,[])],[(.x 0,[])])
 | 4=> ([(0,[]),(1,[]),(5,[]),(7,[]),(8,[]),(16,[])],[(.x 0,[])])
 | 5=> ([(4,[])],[(.x 0,[])])
 | 6=> ([(0,[]),(1,[]),(7,[]),(8,[])],[(.x 0,[])])
 | 7=> ([(4,[])],[(.x 0,[])])
 | _=> ([],[])
def Z1c(l:List Tree)(list x8:Int):LSt U:=(L2 [(0,.c (sU .tree l .unk)),(1,.clo 185 [(.x 0)]),(7,.c (ci (l.length:Int))),(8,.c (ci x8))] [(.x 0,[ci list])])
abbrev ZvL(l:List Tree)(list:Int)(Q:QT):=AW (Z0 Z0h) Try.f195 Z6y [] (L2 [(0,.c (sU .tree l .unk)),(1,.clo 185 [(.x 0)])] [(.x 0,[ci list])]) Q
abbrev Zha:=awp cfg (Z0 Z0h) (Zx cfg (Z0 Z0h)) Try.f195.ntmps Z6y
abbrev ZfG:=Z3K cfg (Z0 Z0h) (Zx cfg (Z0 Z0h)) Try.f195.ntmps Z6y
theorem ZuQ(l:List Tree)(list:Int)(Q:QT)(h:Zh (AW (Z0 Z0h) Try.f195 Z6y [1,0,1,0,0]) (Z1c l list 0) (xB 0 (SW (Z0 Z0h) Try.f195 Z6y [1,1] Q))):
  ZvL l list Q:=by
 have e_:(ZvL l list Q)=(Zh (Zha (cd Try.f195 [1,0,1,0,0])) (Z1c l list 0) (xB 0 (ZfG (cd Try.f195 [1,1]) Q))):=by kernel_rfl
 exact e_.mpr h
abbrev Zjj(l:List Tree)(list x8:Int)(N0:NT)(Q:QT):=AW (Z0 Z0h) Try.f195 Z6y [1,0,1,0,0] (Z1c l list x8) (xT N0 (xB 0 (SW (Z0 Z0h) Try.f195 Z6y [1,1] Q)))
theorem ZkZ(l:List Tree)(list x8:Int)(N0:NT)(Q:QT)(h:((decide (x8 < (l.length:Int)))=true→((0:Int)≤x8∧x8 < (l.length:Int))∧(Z7y ((Tree.mk (Tree.kind (l.getD x8.toNat Tree.nil)) (Tree.words (l.getD x8.toNat Tree.nil)) (Tree.kids (l.getD x8.toNat Tree.nil))),(list,()),()))∧(((!(Z9 (Tree.mk list [] [(Tree.mk (Tree.kind (l.getD x8.toNat Tree.nil)) (Tree.words (l.getD x8.toNat Tree.nil)) (Tree.kids (l.getD x8.toNat Tree.nil)))]) 64))=true→Q .ret (L2 [(4,.c (ci x8))] [(.x 0,[ci list])]))∧((!(Z9 (Tree.mk list [] [(Tree.mk (Tree.kind (l.getD x8.toNat Tree.nil)) (Tree.words (l.getD x8.toNat Tree.nil)) (Tree.kids (l.getD x8.toNat Tree.nil)))]) 64))=false→(InR (x8+1))∧(N0 (Z1c l list (x8+1))))))∧((decide (x8 < (l.length:Int)))=false→Q .ret (L2 [(4,.c (ci (-1)))] [(.x 0,[ci list])]))):
  Zjj l list x8 N0 Q:=by
 have e_:(Zjj l list x8 N0 Q)=(let zz0:=(!(Z9 (Tree.mk list [] [(Tree.mk (Tree.kind (l.getD x8.toNat Tree.nil)) (Tree.words (l.getD x8.toNat Tree.nil)) (Tree.kids (l.getD x8.toNat Tree.nil)))]) 64));(((decide ((x8:Int) < (l.length:Int)))=true→(((0:Int)≤x8∧x8 < (l.length:Int))∧(Z7y ((Tree.mk (Tree.kind (l.getD x8.toNat Tree.nil)) (Tree.words (l.getD x8.toNat Tree.nil)) (Tree.kids (l.getD x8.toNat Tree.nil))),(list,()),()))∧((zz0=true→(Q .ret (L2 [(4,.c (ci x8))] [(.x 0,[ci list])])))∧(zz0=false→(InR ((x8:Int)+1))∧(N0 (Z1c l list ((x8:Int)+1)))))))∧((decide ((x8:Int) < (l.length:Int)))=false→(Q .ret (L2 [(4,.c (ci (-1)))] [(.x 0,[ci list])]))))):=by kernel_rfl
 exact e_.mpr ⟨fun c_1=> ⟨(h.1 c_1).1,(h.1 c_1).2.1,⟨fun c_2=> ((h.1 c_1).2.2.1 c_2),fun c_2=> ⟨((h.1 c_1).2.2.2 c_2).1,((h.1 c_1).2.2.2 c_2).2⟩⟩⟩,fun c_1=> (h.2 c_1)⟩
def Zqx(l:List Tree)(list:Int):Prop:=AW (Z0 Z0h) Try.f195 Z6y [] (Zm (Zdv.can (l,(list,()),())) (Zdv.canX (l,(list,()),()))) (EQ Try.f195 (ZcO (l,(list,()),())) (Z9d (l,(list,()),())))
theorem Zph(Ztp:CT 185 Z62)(hb:∀ (l:List Tree) (list:Int) (_:Unit),Zaj (l,(list,()),())→Zqx l list):CT 195 Z5Z:=
 J9 (l:=[(185,Z62)]) Zk rfl (⟨Ztp,trivial⟩) Z6y Try.func195 rfl rfl 2 (fun _=> rfl) (by decide) (fun ⟨l,⟨list,_⟩,_⟩=> hb l list ())
def Zit:List (FuncId × Fs U):=[(195,Z5Z)]
def ZmE:Zi U:=fun i=> match i with
 | 0=> ([(0,[]),(1,[])],[(.x 0,[])])
 | 1=> ([(4,[])],[(.x 0,[])])
 | _=> ([],[])
abbrev ZvP(l:List Tree)(list:Int)(Q:QT):=AW (Z0 Zit) Try.f184 ZmE [] (L2 [(0,.c (sU .tree l .unk)),(1,.clo 185 [(.x 0)])] [(.x 0,[ci list])]) Q
theorem ZuV(l:List Tree)(list:Int)(Q:QT)(h:(Zaj (l,(list,()),()))∧(Q .ret (L2 [(4,.c (.bool (decide ((0:Int)≤(Z3t list l 0)))))] [(.x 0,[ci list])]))):
  ZvP l list Q:=by
 have e_:(ZvP l list Q)=(type_of% h):=by kernel_rfl
 exact e_.mpr ⟨h.1,h.2⟩
def ZqC(l:List Tree)(list:Int):Prop:=AW (Z0 Zit) Try.f184 ZmE [] (Zm (Zdx.can (l,(list,()),())) (Zdx.canX (l,(list,()),()))) (EQ Try.f184 (ZfX (l,(list,()),())) (ZcL (l,(list,()),())))
theorem Zpm(Ztl:CT 195 Z5Z)(hb:∀ (l:List Tree) (list:Int) (_:Unit),Z37 (l,(list,()),())→ZqC l list):CT 184 Z2Y:=
 J9 (l:=[(195,Z5Z)]) Zk rfl (⟨Ztl,trivial⟩) ZmE Try.func184 rfl rfl 2 (fun _=> rfl) (by decide) (fun ⟨l,⟨list,_⟩,_⟩=> hb l list ())
end
end
end Go.AM.Ytpjenobkibfpcaa
namespace Go.AM.Ytpjenobkibfpcaa
open Go.AM Go.Proofs
theorem Ztp:Contract Try.prog cfg 185 Z62:=by
 refine Zpl Zto ?_
 intro t list _ hp
 simp only [Z7y] at hp
 refine ZuU _ _ _ ?_
 (simp only [Tree.eta,Edit.eta,Tree.kind_mk,Tree.words_mk,Tree.kids_mk])
 refine ⟨by simp only [Zak];exact hp,?_⟩
 simp only [ZfW,ZcK]
 (repeat' (first | exact trivial | exact rfl | apply And.intro))
theorem Zbd{list:Int}{l:List Tree}:∀ (i:Nat),(∀ t∈l.take i,Z9 (Tree.mk list [] [t]) 64=true)→i≤l.length→Z3t list l 0=Z3t list (l.drop i) i
 | 0,_,_=> by simp
 | i+1,h,hi=> by
  have ih:=Zbd i (fun t ht=> h t (by rw [List.take_add_one];exact List.mem_append.2 (Or.inl ht))) (by omega)
  rw [ih]
  have e:l.drop i=l.getD i Tree.nil ::l.drop (i+1):=by
   have:=ZR (l:=l) (i:=(i:Int)) (by omega) (by omega) Tree.nil
   simpa using this
  have hm:l.getD i Tree.nil∈l.take (i+1):=by
   rw [List.mem_take_iff_getElem]
   exact ⟨i,by omega,by simp [List.getD,List.getElem?_eq_getElem (show i < l.length by omega)]⟩
  rw [e,Z3t,if_pos (h _ hm)]
  simp
theorem Ztl:Contract Try.prog cfg 195 Z5Z:=by
 refine Zph Ztp ?_
 intro l list _ hp
 simp only [Zaj] at hp
 refine ZuQ _ _ _ ?_
 refine Za (ι:=Int) (fun s=> Z1c l list s) (fun s=> 0≤s∧s≤l.length∧∀ t∈l.take s.toNat,Z9 (Tree.mk list [] [t]) 64=true) (fun s=> ((l.length:Int) - s).toNat) 0 rfl ⟨by simp,by simp,by simp⟩ ?_
 rintro i ⟨g1,g2,g3⟩
 have hb:=Zbd (list:=list) (l:=l) i.toNat g3 (by omega)
 have hl:=Zs l
 refine ZkZ _ _ _ _ _ ?_
 (simp only [vcS])
 (simp only [Tree.eta,Edit.eta,Tree.kind_mk,Tree.words_mk,Tree.kids_mk])
 refine ⟨fun hi=> ⟨⟨g1,hi⟩,?_,fun hc=> ?_,fun hc=> ?_⟩,fun hi=> ?_⟩
 ·have hm:=Zl (l:=l) (i:=i.toNat) (by omega) Tree.nil
  simp only [Z7y]
  have h1:=YG hm
  exact ⟨by omega,JJ hp.2.1 hm,hp.2.2⟩
 ·rw [ZR g1 hi Tree.nil,Z3t,if_neg (by rw [hc];decide)] at hb
  simp only [ZcO,Z9d]
  rw [hb,show ((i.toNat:Nat):Int)=i by omega]
  (repeat' (first | exact trivial | exact rfl | apply And.intro))
 ·refine ⟨by unfold InR;omega,i+1,rfl,⟨by omega,by omega,fun t ht=> ?_⟩,by omega⟩
  rw [show (i+1).toNat=i.toNat+1 by omega,List.take_add_one] at ht
  rcases List.mem_append.1 ht with ht | ht
  ·exact g3 t ht
  ·have e:l[i.toNat]?=some (l.getD i.toNat Tree.nil):=by
    simp [List.getD,List.getElem?_eq_getElem (show i.toNat < l.length by omega)]
   rw [e] at ht
   simp only [Option.toList_some,List.mem_singleton] at ht
   subst ht
   exact hc
 ·rw [List.drop_of_length_le (by omega)] at hb
  simp only [ZcO,Z9d]
  rw [hb,Z3t]
  (repeat' (first | exact trivial | exact rfl | apply And.intro))
theorem Ztq:Contract Try.prog cfg 184 Z2Y:=by
 refine Zpm Ztl ?_
 intro l list _ hp
 simp only [Z37] at hp
 refine ZuV _ _ _ ?_
 have hb:=Zcl list l 0 (by decide)
 refine ⟨by simp only [Zaj];exact hp,?_⟩
 have e:decide (0≤Z3t list l 0)= !(YN list l):=by
  rw [Bool.eq_iff_iff,decide_eq_true_eq,hb]
  cases YN list l <;> simp
 simp only [ZfX,ZcL]
 rw [e]
 (repeat' (first | exact trivial | exact rfl | apply And.intro))
end Go.AM.Ytpjenobkibfpcaa
namespace Go.AM.Ytpjenobkibfpcaa
open Go.AM Go.Proofs
noncomputable section
abbrev ZH(p:Prop):Prop:=p→p
def ZiX:ArgL (Tree × Unit):=(.cons (aEl .tree) .nil)
def Z38(a:Tree × Unit):Prop:=Zj a.1≤20000000000
def ZlN(a:Tree × Unit):V U:= .c (.bool (ZM a.1))
def Z64:Fs U:=fs ZiX (fun a=> [Z38 a]) ZlN
def Zj7:ArgL (Edit × Unit):=(.cons (aEl .edit) .nil)
def Z7E(a:Edit × Unit):Prop:=Zg a.1≤20000000000
def ZlV(a:Edit × Unit):V U:= .c (.bool (Z0B a.1))
def Z32:Fs U:=fs Zj7 (fun a=> [Z7E a]) ZlV
def Ziv:List (FuncId × Fs U):=[]
def ZmG:Zi U:=lvl [([1],[1]),([2],[])]
abbrev ZvR(t:Tree)(Q:QT):=AW (Z0 Ziv) Try.f167 ZmG [] (L2 [(0,.agg (enc .tree t))] []) Q
theorem ZuY(t:Tree)(Q:QT)(h:((t.kind==0)=true→InR (((t.words.length:Int):Int)+(t.kids.length:Int)))∧(Q .ret (L2 [(2,.c (.bool (bif (t.kind==0) then (((((t.words.length:Int):Int)+(t.kids.length:Int)):Int)==0) else false)))] []))):
  ZvR t Q:=by
 have e_:(ZvR t Q)=((ZH ((t.kind==0)=true))∧(ZH ((t.kind==0)=true))∧(ZH ((t.kind==0)=true))∧(ZH ((t.kind==0)=true))∧(ZH ((t.kind==0)=true))∧(ZH ((t.kind==0)=true))∧((t.kind==0)=true→InR ((t.words.length:Int)+(t.kids.length:Int)))∧(ZH ((t.kind==0)=true))∧(ZH ((t.kind==0)=true))∧(Q .ret (L2 [(2,.c (.bool (bif (t.kind==0) then ((((t.words.length:Int)+(t.kids.length:Int)):Int)==0) else false)))] []))):=by kernel_rfl
 exact e_.mpr ⟨id,id,id,id,id,id,h.1,id,(by generalize ((t.kind:Int)==0)=b0;revert b0;decide),h.2⟩
def ZqF(t:Tree):Prop:=AW (Z0 Ziv) Try.f167 ZmG [] (Zm (ZiX.can (t,())) []) (EQ Try.f167 (ZlN (t,())) [])
theorem Zpo(hb:∀ (t:Tree) (_:Unit),Z38 (t,())→ZqF t):CT 167 Z64:=
 Z3 (l:=[]) Zk rfl trivial ZmG Try.func167 rfl rfl 1 (fun _=> rfl) (by decide) (fun ⟨t,_⟩=> hb t ())
def ZiB:List (FuncId × Fs U):=[(167,Z64)]
def ZmM:Zi U:=lvl [([1],[1]),([1,3],[1]),([1,4],[1]),([2],[]),([1,21],[1]),([2],[]),([2],[])]
abbrev Zw2(e:Edit)(Q:QT):=AW (Z0 ZiB) Try.f121 ZmM [] (L2 [(0,.agg (enc .edit e))] []) Q
theorem Zvd(e:Edit)(Q:QT)(h:∀ y_1,y_1=(e.new)→∀ y_2,y_2=(e.old)→((e.kind !=1)=true→Z38 (y_2,()))∧(((e.kind !=1) && (ZM y_2))=true→Z38 (y_1,()))∧(((bif (e.kind !=1) then (!(bif (ZM y_2) then (ZM y_1) else false)) else false)=true→Q .ret (L2 [(2,.c (.bool false))] []))∧((bif (e.kind !=1) then (!(bif (ZM y_2) then (ZM y_1) else false)) else false)=false→((e.kind !=2)=true→InR (((e.words.length:Int):Int)+(e.kids.length:Int)))∧(((bif (e.kind !=2) then (decide ((0:Int) < (((e.words.length:Int):Int)+(e.kids.length:Int)))) else false)=true→Q .ret (L2 [(2,.c (.bool false))] []))∧((bif (e.kind !=2) then (decide ((0:Int) < (((e.words.length:Int):Int)+(e.kids.length:Int)))) else false)=false→Q .ret (L2 [(2,.c (.bool (bif (e.kind==3) then true else (bif (e.list==0) then (((e.ops.length:Int):Int)==0) else false))))] [])))))):
  Zw2 e Q:=by
 have e_:(Zw2 e Q)=(let y_1:=(Z3T e.new);let y_2:=(Z3T e.old);let zz2:=(bif (e.kind !=1) then (!(bif (ZM y_2) then (ZM y_1) else false)) else false);let zz1:=(bif (e.kind !=2) then (decide ((0:Int) < ((e.words.length:Int)+(e.kids.length:Int)))) else false);let zz0:=(!(e.kind==3));((ZH ((e.kind !=1)=true))∧(ZH ((e.kind !=1)=true))∧(ZH ((e.kind !=1)=true))∧((e.kind !=1)=true→Z38 (y_2,()))∧(ZH ((e.kind !=1)=true))∧(ZH (((e.kind !=1) && (ZM y_2))=true))∧(ZH (((e.kind !=1) && (ZM y_2))=true))∧(ZH (((e.kind !=1) && (ZM y_2))=true))∧(((e.kind !=1) && (ZM y_2))=true→Z38 (y_1,()))∧((e.kind !=1)=true→(True→(e.kind !=1)=true))∧((e.kind !=1)=true→((ZM y_2)=true→((e.kind !=1) && (ZM y_2))=true))∧(ZH ((e.kind !=1)=true))∧(ZH ((e.kind !=1)=true))∧((zz2=true→(Q .ret (L2 [(2,.c (.bool false))] [])))∧(zz2=false→(ZH ((e.kind !=2)=true))∧(ZH ((e.kind !=2)=true))∧(ZH ((e.kind !=2)=true))∧(ZH ((e.kind !=2)=true))∧(ZH ((e.kind !=2)=true))∧(ZH ((e.kind !=2)=true))∧((e.kind !=2)=true→InR ((e.words.length:Int)+(e.kids.length:Int)))∧(ZH ((e.kind !=2)=true))∧(ZH ((e.kind !=2)=true))∧((zz1=true→(Q .ret (L2 [(2,.c (.bool false))] [])))∧(zz1=false→(ZH (zz0=true))∧(ZH (zz0=true))∧(ZH (zz0=true))∧(ZH ((zz0 && (e.list==0))=true))∧(ZH ((zz0 && (e.list==0))=true))∧(ZH ((zz0 && (e.list==0))=true))∧(zz0=true→(True→zz0=true))∧(zz0=true→((e.list==0)=true→(zz0 && (e.list==0))=true))∧((e.kind==3)=false→zz0=true)∧(Q .ret (L2 [(2,.c (.bool (bif (e.kind==3) then true else (bif (e.list==0) then ((e.ops.length:Int)==0) else false))))] [])))))))):=by kernel_rfl
 exact e_.mpr (by intro y_1 y_2;have hh:=h y_1 (Zc _) y_2 (Zc _);exact ⟨id,id,id,hh.1,id,id,id,id,hh.2.1,(by generalize ((e.kind:Int) !=1)=b0;revert b0;decide),(by generalize (ZM y_2)=b0;generalize ((e.kind:Int) !=1)=b1;revert b0 b1;decide),id,(by generalize ((e.kind:Int) !=1)=b0;revert b0;decide),⟨fun c_1=> (hh.2.2.1 c_1),fun c_1=> ⟨id,id,id,id,id,id,(hh.2.2.2 c_1).1,id,(by generalize ((e.kind:Int) !=2)=b0;revert b0;decide),⟨fun c_2=> ((hh.2.2.2 c_1).2.1 c_2),fun c_2=> ⟨id,id,id,id,id,id,(by generalize ((e.kind:Int)==3)=b0;revert b0;decide),(by generalize ((e.kind:Int)==3)=b0;generalize ((e.list:Int)==0)=b1;revert b0 b1;decide),(by generalize ((e.kind:Int)==3)=b0;revert b0;decide),((hh.2.2.2 c_1).2.2 c_2)⟩⟩⟩⟩⟩)
def ZqU(e:Edit):Prop:=AW (Z0 ZiB) Try.f121 ZmM [] (Zm (Zj7.can (e,())) []) (EQ Try.f121 (ZlV (e,())) [])
theorem ZpB(Zts:CT 167 Z64)(hb:∀ (e:Edit) (_:Unit),Z7E (e,())→ZqU e):CT 121 Z32:=
 Z3 (l:=[(167,Z64)]) Zk rfl (⟨Zts,trivial⟩) ZmM Try.func121 rfl rfl 1 (fun _=> rfl) (by decide) (fun ⟨e,_⟩=> hb e ())
end
end Go.AM.Ytpjenobkibfpcaa
namespace Go.AM.Ytpjenobkibfpcaa
open Go.AM Go.Proofs
theorem Zts:Contract Try.prog cfg 167 Z64:=by
 refine Zpo ?_
 intro t _ hp
 simp only [Z38] at hp
 have:=ZeY t
 refine ZuY t _ ?_
 refine ⟨fun _=> by unfold InR;omega,Z2 rfl ?_⟩
 rw [Bool.eq_iff_iff]
 simp only [ZM]
 (simp only [vcS])
 omega
theorem ZtC:Contract Try.prog cfg 121 Z32:=by
 refine ZpB Zts ?_
 intro e _ hp
 simp only [Z7E] at hp
 have h1:=Y6 e
 have h2:=Y4 e.kids
 refine Zvd e _ ?_
 rintro y1 rfl y2 rfl
 (simp only [vcS])
 refine ⟨fun _=> by simp only [Z38];omega,fun _=> by simp only [Z38];omega,fun h=> ?_,fun h=> ⟨fun _=> by unfold InR;omega,fun h3=> ?_,fun h3=> ?_⟩⟩
 ·refine Z2 rfl ?_
  show false=Z0B e
  unfold Z0B
  rw [if_pos (Or.inl ⟨h.1,fun hn=> by have:=h.2;rw [hn.1,hn.2] at this;revert this;decide⟩)]
 ·refine Z2 rfl ?_
  show false=Z0B e
  unfold Z0B
  rw [if_pos (Or.inr (Or.inl ⟨h3.1,by omega⟩))]
 ·refine Z2 rfl ?_
  show _=Z0B e
  unfold Z0B
  have g1:¬(e.kind≠1∧¬(ZM e.old=true∧ZM e.new=true)):=by
   intro hc
   rcases h with h | h
   ·exact hc.1 (by simpa using h)
   ·exact hc.2 (by simpa using h)
  have g2:¬(e.kind≠2∧¬(e.words.length=0∧e.kids.length=0)):=by omega
  by_cases g3:e.kind≠3∧(e.list≠0∨e.ops.length≠0)
  ·rw [if_pos (Or.inr (Or.inr g3)),Bool.eq_iff_iff]
   (simp only [vcS])
   constructor
   ·intro h;omega
   ·intro h;cases h
  ·rw [if_neg (by rintro (x | x | x) <;> contradiction),Bool.eq_iff_iff]
   (simp only [vcS])
   constructor
   ·intro _;first | trivial | rfl
   ·intro _;omega
end Go.AM.Ytpjenobkibfpcaa
namespace Go.AM.Ytpjenobkibfpcaa
open Go.AM Go.Proofs
noncomputable section
abbrev Z8(p:Prop):Prop:=p→p
noncomputable section
def Z5V:ArgL (Edit × Int × Unit):=(.cons (aEl .edit) (.cons (Yt .i64) .nil))
def YU(a:Edit × Int × Unit):Prop:=(Zg a.1≤18000000000∧Y1 a.1)∧0≤a.2.1∧a.2.1≤1000
def Z2b(a:Edit × Int × Unit):Nat:=4*Zg a.1
def Zab(a:Edit × Int × Unit):V U:= .c (.bool (Z4 a.1 a.2.1))
def Z9B:Fs U:=fs Z5V (fun a=> [YU a]) Zab
def Z3n:ArgL (List Kid × Int × Unit):=(.cons (aSl .kid) (.cons (Yt .i64) .nil))
def Z1x(a:List Kid × Int × Unit):Prop:=(ZN a.1≤18000000000∧Z1U a.1)∧0≤a.2.1∧a.2.1≤1000
def Z5h(a:List Kid × Int × Unit):Nat:=4*ZN a.1+2
def Z3S(a:List Kid × Int × Unit):V U:= .c (.bool (ZE (-1) a.1 a.2.1))
def Zht:Fs U:=fs Z3n (fun a=> [Z1x a]) Z3S
def Z3m:ArgL (Edit × Int × Unit):=(.cons (aEl .edit) (.cons (Yt .i64) .nil))
def Z1w(a:Edit × Int × Unit):Prop:=(Zg a.1≤18000000000∧Y1 a.1∧2≤Edit.list a.1∧Edit.list a.1≤9)∧0≤a.2.1∧a.2.1≤1000
def Z5g(a:Edit × Int × Unit):Nat:=4*Zd a.1.ops+2
def Z5y(a:Edit × Int × Unit):V U:= .c (.bool (ZB a.1.list a.1.ops a.2.1 && decide (JY a.1.ops 0 < 1048576∧JX a.1.ops 0 < 1048576)))
def Zhs:Fs U:=fs Z3m (fun a=> [Z1w a]) Z5y
def Z3l:ArgL (Int × Op × Int × Unit):=(.cons (Yt .i64) (.cons (aEl .op) (.cons (Yt .i64) .nil)))
def Z1v(a:Int × Op × Int × Unit):Prop:=(ZX a.2.1≤18000000000∧Z01 a.2.1∧2≤a.1∧a.1≤9)∧0≤a.2.2.1∧a.2.2.1≤1000
def Z5f(a:Int × Op × Int × Unit):Nat:=4*ZX a.2.1+1
def Z5x(a:Int × Op × Int × Unit):V U:= .c (.bool (Zf a.1 a.2.1 a.2.2.1))
def Zhr:Fs U:=fs Z3l (fun a=> [Z1v a]) Z5x
def ZnR:ArgL (Edit × Unit):=(.cons (aEl .edit) .nil)
def ZhX(a:Edit × Unit):Prop:=Zg a.1≤18000000000∧Y1 a.1
def Zri(a:Edit × Unit):V U:= .c (.bool (Z4 a.1 64))
def Z9P:Fs U:=fs ZnR (fun a=> [ZhX a]) Zri
def Z5Q(N:Nat):List (FuncId × Fs U):=(89,fs Z5V (fun a=> [YU a,Z2b a < N]) Zab) ::(124,fs Z3n (fun a=> [Z1x a,Z5h a < N]) Z3S) ::(125,fs Z3m (fun a=> [Z1w a,Z5g a < N]) Z5y) ::(168,fs Z3l (fun a=> [Z1v a,Z5f a < N]) Z5x) ::[(121,Z32),(122,Z31),(123,Z30),(92,Z04),(184,Z2Y),(187,Z2X),(164,Z2Z)]
def ZsW:Zi U:=lvl [([1,2],[2]),([1,2,11],[2]),([4],[]),([1,2,13],[2]),([1,2,13,14],[2]),([4],[]),([1,2,13,16],[2]),([4],[]),([1,2,13,26],[2]),([4],[]),([1,2,38],[2]),([4],[]),([4],[])]
abbrev W89(N:Nat)(e:Edit)(d:Int)(Q:QT):=AW (Z0 (Z5Q N)) Try.f89 ZsW [] (L2 [(0,.agg (enc .edit e)),(1,.c (ci d))] []) Q
theorem Zwm(N:Nat)(e:Edit)(d:Int)(Q:QT)(h:∀ y_1,y_1=e→∀ y_2,y_2=(e.new)→∀ y_3,y_3=(e.old)→(Z7E (y_1,()))∧(((bif (!(Z0B y_1)) then true else (d==0))=true→Q .ret (L2 [(4,.c (.bool false))] []))∧((bif (!(Z0B y_1)) then true else (d==0))=false→((e.kind==0)=true→Q .ret (L2 [(4,.c (.bool true))] []))∧((e.kind==0)=false→((e.kind==1)=true→(Z3W (y_3,()))∧((decide (Tree.kind y_3≠10) && Z9 y_3 64)=true→Z3W (y_2,()))∧(Q .ret (L2 [(4,.c (.bool (bif (decide (Tree.kind y_3≠10) && Z9 y_3 64) then (decide (Tree.kind y_2≠10) && Z9 y_2 64) else false)))] [])))∧((e.kind==1)=false→((e.kind==2)=true→(Z7D (e.words,()))∧((Zu (-1) e.words)=true→InR (d - 1))∧((Zu (-1) e.words)=true→Z1x (e.kids,(d - 1),()))∧((Zu (-1) e.words)=true→Z5h (e.kids,(d - 1),()) < N)∧(Q .ret (L2 [(4,.c (.bool (bif (Zu (-1) e.words) then (ZE (-1) e.kids (d - 1)) else false)))] [])))∧((e.kind==2)=false→((e.kind==3)=true→(Z8s (e.list,()))∧((decide (2≤e.list∧e.list≤9))=true→InR (d - 1))∧((decide (2≤e.list∧e.list≤9))=true→Z1w (y_1,(d - 1),()))∧((decide (2≤e.list∧e.list≤9))=true→Z5g (y_1,(d - 1),()) < N)∧(Q .ret (L2 [(4,.c (.bool (bif (decide (2≤e.list∧e.list≤9)) then (ZB y_1.list y_1.ops (d - 1) && decide (JY y_1.ops 0 < 1048576∧JX y_1.ops 0 < 1048576)) else false)))] [])))∧((e.kind==3)=false→Q .ret (L2 [(4,.c (.bool false))] [])))))))):
  W89 N e d Q:=by
 have e_:(W89 N e d Q)=(let y_1:=(YF e);let y_2:=(Z3T e.new);let y_3:=(Z3T e.old);let zz1:=(decide (Tree.kind y_3≠10) && Z9 y_3 64);let zz0:=(decide (2≤e.list∧e.list≤9));((Z7E (y_1,()))∧(Z8 ((!(!(Z0B y_1)))=true))∧((!(Z0B y_1))=false→(!(!(Z0B y_1)))=true)∧(((bif (!(Z0B y_1)) then true else ((d:Int)==0))=true→(Q .ret (L2 [(4,.c (.bool false))] [])))∧((bif (!(Z0B y_1)) then true else ((d:Int)==0))=false→(((e.kind==0)=true→(Q .ret (L2 [(4,.c (.bool true))] [])))∧((e.kind==0)=false→(((e.kind==1)=true→(Z3W (y_3,()))∧(Z8 (zz1=true))∧(Z8 (zz1=true))∧(zz1=true→Z3W (y_2,()))∧(Z8 (zz1=true))∧(Q .ret (L2 [(4,.c (.bool (bif zz1 then (decide (Tree.kind y_2≠10) && Z9 y_2 64) else false)))] [])))∧((e.kind==1)=false→(((e.kind==2)=true→(Z7D (e.words,()))∧(Z8 ((Zu (-1) e.words)=true))∧(Z8 ((Zu (-1) e.words)=true))∧((Zu (-1) e.words)=true→InR ((d:Int) - 1))∧(Z8 ((Zu (-1) e.words)=true))∧(Z8 ((Zu (-1) e.words)=true))∧((Zu (-1) e.words)=true→Z1x (e.kids,((d:Int) - 1),()))∧((Zu (-1) e.words)=true→Z5h (e.kids,((d:Int) - 1),()) < N)∧(Z8 ((Zu (-1) e.words)=true))∧(Q .ret (L2 [(4,.c (.bool (bif (Zu (-1) e.words) then (ZE (-1) e.kids ((d:Int) - 1)) else false)))] [])))∧((e.kind==2)=false→(((e.kind==3)=true→(Z8s (e.list,()))∧(Z8 (zz0=true))∧(zz0=true→InR ((d:Int) - 1))∧(Z8 (zz0=true))∧(Z8 (zz0=true))∧(zz0=true→Z1w (y_1,((d:Int) - 1),()))∧(zz0=true→Z5g (y_1,((d:Int) - 1),()) < N)∧(Z8 (zz0=true))∧(Q .ret (L2 [(4,.c (.bool (bif zz0 then (ZB y_1.list y_1.ops ((d:Int) - 1) && decide (JY y_1.ops 0 < 1048576∧JX y_1.ops 0 < 1048576)) else false)))] [])))∧((e.kind==3)=false→(Q .ret (L2 [(4,.c (.bool false))] [])))))))))))))):=by kernel_rfl
 exact e_.mpr (by intro y_1 y_2 y_3;have hh:=h y_1 (Ze _) y_2 (Zc _) y_3 (Zc _);exact ⟨hh.1,id,(by generalize (Z0B y_1)=b0;revert b0;decide),⟨fun c_1=> (hh.2.1 c_1),fun c_1=> ⟨fun c_2=> ((hh.2.2 c_1).1 c_2),fun c_2=> ⟨fun c_3=> ⟨(((hh.2.2 c_1).2 c_2).1 c_3).1,id,id,(((hh.2.2 c_1).2 c_2).1 c_3).2.1,(by generalize (decide (Tree.kind y_3≠10))=b0;generalize (Z9 y_3 64)=b1;revert b0 b1;decide),(((hh.2.2 c_1).2 c_2).1 c_3).2.2⟩,fun c_3=> ⟨fun c_4=> ⟨((((hh.2.2 c_1).2 c_2).2 c_3).1 c_4).1,id,id,((((hh.2.2 c_1).2 c_2).2 c_3).1 c_4).2.1,id,id,((((hh.2.2 c_1).2 c_2).2 c_3).1 c_4).2.2.1,((((hh.2.2 c_1).2 c_2).2 c_3).1 c_4).2.2.2.1,(by generalize (Zu (-1) e.words)=b0;revert b0;decide),((((hh.2.2 c_1).2 c_2).2 c_3).1 c_4).2.2.2.2⟩,fun c_4=> ⟨fun c_5=> ⟨(((((hh.2.2 c_1).2 c_2).2 c_3).2 c_4).1 c_5).1,id,(((((hh.2.2 c_1).2 c_2).2 c_3).2 c_4).1 c_5).2.1,id,id,(((((hh.2.2 c_1).2 c_2).2 c_3).2 c_4).1 c_5).2.2.1,(((((hh.2.2 c_1).2 c_2).2 c_3).2 c_4).1 c_5).2.2.2.1,(by generalize (decide (2≤e.list∧e.list≤9))=b0;revert b0;decide),(((((hh.2.2 c_1).2 c_2).2 c_3).2 c_4).1 c_5).2.2.2.2⟩,fun c_5=> (((((hh.2.2 c_1).2 c_2).2 c_3).2 c_4).2 c_5)⟩⟩⟩⟩⟩⟩)
def Zu6(N:Nat)(e:Edit)(d:Int):Prop:=AW (Z0 (Z5Q N)) Try.f89 ZsW [] (Zm (Z5V.can (e,d,())) []) (EQ Try.f89 (Zab (e,d,())) [])
abbrev Zw8:Prop:=∀ (N:Nat) (e:Edit) (d:Int) (_:Unit),YU (e,d,())→Z2b (e,d,()) < N+1→Zu6 N e d
def Z0l(N:Nat):List (FuncId × Fs U):=(89,fs Z5V (fun a=> [YU a,Z2b a < N]) Zab) ::(124,fs Z3n (fun a=> [Z1x a,Z5h a < N]) Z3S) ::(125,fs Z3m (fun a=> [Z1w a,Z5g a < N]) Z5y) ::(168,fs Z3l (fun a=> [Z1v a,Z5f a < N]) Z5x) ::[(121,Z32),(122,Z31),(123,Z30),(92,Z04),(184,Z2Y),(187,Z2X),(164,Z2Z)]
def Z6C:Zi U:=lvl [([0,1],[]),([0,1,7,8,9],[]),([0,1,7,8,9,10],[]),([0,1,5,6,7,8,9],[6]),([0,1,7,8,9,49],[]),([4],[]),([0,1,7,8,9],[]),([4],[])]
def Z1g(l:List Kid)(d x9:Int):LSt U:=(L2 [(0,.c (sU .kid l .unk)),(1,.c (ci d)),(7,.c (sU .kid l .unk)),(8,.c (ci (l.length:Int))),(9,.c (ci x9))] [])
abbrev ZvZ(N:Nat)(l:List Kid)(d:Int)(Q:QT):=AW (Z0 (Z0l N)) Try.f124 Z6C [] (L2 [(0,.c (sU .kid l .unk)),(1,.c (ci d))] []) Q
abbrev Zhe(N:Nat):=awp cfg (Z0 (Z0l N)) (Zx cfg (Z0 (Z0l N))) Try.f124.ntmps Z6C
abbrev ZfK(N:Nat):=Z3K cfg (Z0 (Z0l N)) (Zx cfg (Z0 (Z0l N))) Try.f124.ntmps Z6C
theorem Zva(N:Nat)(l:List Kid)(d:Int)(Q:QT)(h:Zh (AW (Z0 (Z0l N)) Try.f124 Z6C [1,0,1,0,0]) (Z1g l d 0) (xB 0 (SW (Z0 (Z0l N)) Try.f124 Z6C [1,1] Q))):
  ZvZ N l d Q:=by
 have e_:(ZvZ N l d Q)=(Zh (Zhe N (cd Try.f124 [1,0,1,0,0])) (Z1g l d 0) (xB 0 (ZfK N (cd Try.f124 [1,1]) Q))):=by kernel_rfl
 exact e_.mpr h
abbrev Zjp(N:Nat)(l:List Kid)(d x9:Int)(N0:NT)(Q:QT):=AW (Z0 (Z0l N)) Try.f124 Z6C [1,0,1,0,0] (Z1g l d x9) (xT N0 (xB 0 (SW (Z0 (Z0l N)) Try.f124 Z6C [1,1] Q)))
theorem Zl8(N:Nat)(l:List Kid)(d x9:Int)(N0:NT)(Q:QT)(h:∀ y_1,y_1=(l.getD x9.toNat (KidOf.mk 0 Edit.nil))→∀ y_2,y_2=(List.getD l (Int.toNat (x9 - 1)) (KidOf.mk 0 Edit.nil))→∀ y_3,y_3=(y_1.e)→((decide (x9 < (l.length:Int)))=true→((0:Int)≤x9∧x9 < (l.length:Int))∧((((!(bif (decide (y_1.at_ < 0)) then true else (decide ((65535:Int)≤y_1.at_)))) && (decide ((0:Int) < x9)))=true→InR (x9 - 1))∧(((!(bif (decide (y_1.at_ < 0)) then true else (decide ((65535:Int)≤y_1.at_)))) && (decide ((0:Int) < x9)))=true→(0:Int)≤(x9 - 1)∧(x9 - 1) < (l.length:Int))∧((!(bif (bif (bif (decide (y_1.at_ < 0)) then true else (decide ((65535:Int)≤y_1.at_))) then true else (bif (decide ((0:Int) < x9)) then (decide (y_1.at_≤y_2.at_)) else false)) then true else (y_1.e.kind==0)))=true→YU (y_3,d,()))∧((!(bif (bif (bif (decide (y_1.at_ < 0)) then true else (decide ((65535:Int)≤y_1.at_))) then true else (bif (decide ((0:Int) < x9)) then (decide (y_1.at_≤y_2.at_)) else false)) then true else (y_1.e.kind==0)))=true→Z2b (y_3,d,()) < N)∧(((bif (bif (bif (bif (decide (y_1.at_ < 0)) then true else (decide ((65535:Int)≤y_1.at_))) then true else (bif (decide ((0:Int) < x9)) then (decide (y_1.at_≤y_2.at_)) else false)) then true else (y_1.e.kind==0)) then true else (!(Z4 y_3 d)))=true→Q .ret (L2 [(4,.c (.bool false))] []))∧((bif (bif (bif (bif (decide (y_1.at_ < 0)) then true else (decide ((65535:Int)≤y_1.at_))) then true else (bif (decide ((0:Int) < x9)) then (decide (y_1.at_≤y_2.at_)) else false)) then true else (y_1.e.kind==0)) then true else (!(Z4 y_3 d)))=false→(InR (x9+1))∧(N0 (Z1g l d (x9+1)))))))∧((decide (x9 < (l.length:Int)))=false→Q .ret (L2 [(4,.c (.bool true))] []))):
  Zjp N l d x9 N0 Q:=by
 have e_:(Zjp N l d x9 N0 Q)=(let y_1:=(l.getD x9.toNat (KidOf.mk 0 Edit.nil));let y_2:=(List.getD l (Int.toNat ((x9:Int) - 1)) (KidOf.mk 0 Edit.nil));let y_3:=(YF y_1.e);let zz4:=(decide (y_1.at_ < 0));let zz3:=(decide ((0:Int) < x9));let zz2:=((y_1.e.kind:Int)==0);let zz1:=(bif zz3 then (decide (y_1.at_≤y_2.at_)) else false);let zz0:=(bif zz4 then true else (decide ((65535:Int)≤y_1.at_)));(((decide ((x9:Int) < (l.length:Int)))=true→((0:Int)≤x9∧x9 < (l.length:Int))∧((Z8 ((!zz4)=true))∧(Z8 ((!zz4)=true))∧(zz4=false→(!zz4)=true)∧(Z8 ((!zz0)=true))∧(Z8 ((!zz0)=true))∧(Z8 (((!zz0) && zz3)=true))∧(((!zz0) && zz3)=true→InR ((x9:Int) - 1))∧(Z8 (((!zz0) && zz3)=true))∧(Z8 (((!zz0) && zz3)=true))∧(((!zz0) && zz3)=true→(0:Int)≤((x9:Int) - 1)∧((x9:Int) - 1) < (l.length:Int))∧(Z8 (((!zz0) && zz3)=true))∧(Z8 (((!zz0) && zz3)=true))∧(Z8 (((!zz0) && zz3)=true))∧(Z8 (((!zz0) && zz3)=true))∧(Z8 (((!zz0) && zz3)=true))∧((!zz0)=true→(True→(!zz0)=true))∧((!zz0)=true→(zz3=true→((!zz0) && zz3)=true))∧(zz0=false→(!zz0)=true)∧(Z8 ((!(bif zz0 then true else zz1))=true))∧(Z8 ((!(bif zz0 then true else zz1))=true))∧(Z8 ((!(bif zz0 then true else zz1))=true))∧((bif zz0 then true else zz1)=false→(!(bif zz0 then true else zz1))=true)∧(Z8 ((!(bif (bif zz0 then true else zz1) then true else zz2))=true))∧(Z8 ((!(bif (bif zz0 then true else zz1) then true else zz2))=true))∧(Z8 ((!(bif (bif zz0 then true else zz1) then true else zz2))=true))∧((!(bif (bif zz0 then true else zz1) then true else zz2))=true→YU (y_3,d,()))∧((!(bif (bif zz0 then true else zz1) then true else zz2))=true→Z2b (y_3,d,()) < N)∧(Z8 ((!(bif (bif zz0 then true else zz1) then true else zz2))=true))∧((bif (bif zz0 then true else zz1) then true else zz2)=false→(!(bif (bif zz0 then true else zz1) then true else zz2))=true)∧(((bif (bif (bif zz0 then true else zz1) then true else zz2) then true else (!(Z4 y_3 d)))=true→(Q .ret (L2 [(4,.c (.bool false))] [])))∧((bif (bif (bif zz0 then true else zz1) then true else zz2) then true else (!(Z4 y_3 d)))=false→(InR ((x9:Int)+1))∧(N0 (Z1g l d ((x9:Int)+1)))))))∧((decide ((x9:Int) < (l.length:Int)))=false→(Q .ret (L2 [(4,.c (.bool true))] []))))):=by kernel_rfl
 exact e_.mpr (by intro y_1 y_2 y_3;have hh:=h y_1 rfl y_2 rfl y_3 (Ze _);exact ⟨fun c_6=> ⟨(hh.1 c_6).1,⟨id,id,(by generalize (decide ((y_1.at_:Int) < 0))=b0;revert b0;decide),id,id,id,(hh.1 c_6).2.1,id,id,(hh.1 c_6).2.2.1,id,id,id,id,id,(by generalize (decide ((65535:Int)≤y_1.at_))=b0;generalize (decide ((y_1.at_:Int) < 0))=b1;revert b0 b1;decide),(by generalize (decide ((65535:Int)≤y_1.at_))=b0;generalize (decide ((y_1.at_:Int) < 0))=b1;generalize (decide ((0:Int) < x9))=b2;revert b0 b1 b2;decide),(by generalize (decide ((65535:Int)≤y_1.at_))=b0;generalize (decide ((y_1.at_:Int) < 0))=b1;revert b0 b1;decide),id,id,id,(by generalize (decide ((y_1.at_:Int)≤y_2.at_))=b0;generalize (decide ((65535:Int)≤y_1.at_))=b1;generalize (decide ((y_1.at_:Int) < 0))=b2;generalize (decide ((0:Int) < x9))=b3;revert b0 b1 b2 b3;decide),id,id,id,(hh.1 c_6).2.2.2.1,(hh.1 c_6).2.2.2.2.1,id,(by generalize (decide ((y_1.at_:Int)≤y_2.at_))=b0;generalize (decide ((65535:Int)≤y_1.at_))=b1;generalize ((y_1.e.kind:Int)==0)=b2;generalize (decide ((y_1.at_:Int) < 0))=b3;generalize (decide ((0:Int) < x9))=b4;revert b0 b1 b2 b3 b4;decide),⟨fun c_7=> ((hh.1 c_6).2.2.2.2.2.1 c_7),fun c_7=> ⟨((hh.1 c_6).2.2.2.2.2.2 c_7).1,((hh.1 c_6).2.2.2.2.2.2 c_7).2⟩⟩⟩⟩,fun c_6=> (hh.2 c_6)⟩)
def ZqR(N:Nat)(l:List Kid)(d:Int):Prop:=AW (Z0 (Z0l N)) Try.f124 Z6C [] (Zm (Z3n.can (l,d,())) []) (EQ Try.f124 (Z3S (l,d,())) [])
abbrev ZrK:Prop:=∀ (N:Nat) (l:List Kid) (d:Int) (_:Unit),Z1x (l,d,())→Z5h (l,d,()) < N+1→ZqR N l d
def Z0k(N:Nat):List (FuncId × Fs U):=(89,fs Z5V (fun a=> [YU a,Z2b a < N]) Zab) ::(124,fs Z3n (fun a=> [Z1x a,Z5h a < N]) Z3S) ::(125,fs Z3m (fun a=> [Z1w a,Z5g a < N]) Z5y) ::(168,fs Z3l (fun a=> [Z1v a,Z5f a < N]) Z5x) ::[(121,Z32),(122,Z31),(123,Z30),(92,Z04),(184,Z2Y),(187,Z2X),(164,Z2Z)]
def Z6B:Zi U:=lvl [([1,2],[2]),([1,2,10,11,12],[2]),([1,2,10,11,12,13],[2]),([1,2,6,10,11,12],[2,6]),([1,2,10,11,12,21],[2]),([4],[]),([1,2,10,11,12],[2]),([7,8],[]),([4],[])]
def Z1f(e:Edit)(d x12:Int):LSt U:=(L2 [(1,.c (ci d)),(2,.ptr (.loc 2) 0),(10,.c (sU .op e.ops .unk)),(11,.c (ci (e.ops.length:Int))),(12,.c (ci x12))] [(.loc 2,(enc .edit e))])
abbrev ZvY(N:Nat)(e:Edit)(d:Int)(Q:QT):=AW (Z0 (Z0k N)) Try.f125 Z6B [] (L2 [(0,.agg (enc .edit e)),(1,.c (ci d))] []) Q
abbrev Zhd(N:Nat):=awp cfg (Z0 (Z0k N)) (Zx cfg (Z0 (Z0k N))) Try.f125.ntmps Z6B
abbrev ZfJ(N:Nat):=Z3K cfg (Z0 (Z0k N)) (Zx cfg (Z0 (Z0k N))) Try.f125.ntmps Z6B
theorem Zv9(N:Nat)(e:Edit)(d:Int)(Q:QT)(h:Zh (AW (Z0 (Z0k N)) Try.f125 Z6B [1,0,1,0,0]) (Z1f e d 0) (xB 0 (SW (Z0 (Z0k N)) Try.f125 Z6B [1,1] Q))):
  ZvY N e d Q:=by
 have e_:(ZvY N e d Q)=(Zh (Zhd N (cd Try.f125 [1,0,1,0,0])) (Z1f e d 0) (xB 0 (ZfJ N (cd Try.f125 [1,1]) Q))):=by kernel_rfl
 exact e_.mpr h
abbrev Zjo(N:Nat)(e:Edit)(d x12:Int)(N0:NT)(Q:QT):=AW (Z0 (Z0k N)) Try.f125 Z6B [1,0,1,0,0] (Z1f e d x12) (xT N0 (xB 0 (SW (Z0 (Z0k N)) Try.f125 Z6B [1,1] Q)))
theorem Zl7(N:Nat)(e:Edit)(d x12:Int)(N0:NT)(Q:QT)(h:∀ y_1,y_1=e→∀ y_2,y_2=(e.ops.getD x12.toNat Op.nil)→∀ y_3,y_3=y_2→((decide (x12 < (e.ops.length:Int)))=true→((0:Int)≤x12∧x12 < (e.ops.length:Int))∧((Z1v (e.list,y_3,d,()))∧(Z5f (e.list,y_3,d,()) < N)∧(((!(Zf e.list y_3 d))=true→Q .ret (L2 [(4,.c (.bool false))] []))∧((!(Zf e.list y_3 d))=false→(InR (x12+1))∧(N0 (Z1f e d (x12+1)))))))∧((decide (x12 < (e.ops.length:Int)))=false→(Z7z (y_1,()))∧(Q .ret (L2 [(4,.c (.bool (bif (decide (((Z0x y_1.ops 0):Int) < 1048576)) then (decide (((Z0J y_1.ops 0):Int) < 1048576)) else false)))] [])))):
  Zjo N e d x12 N0 Q:=by
 have e_:(Zjo N e d x12 N0 Q)=(let y_1:=(YF e);let y_2:=(e.ops.getD x12.toNat Op.nil);let y_3:=(Zm3 y_2);let zz0:=(decide (((Z0x y_1.ops 0):Int) < 1048576));(((decide ((x12:Int) < (e.ops.length:Int)))=true→((0:Int)≤x12∧x12 < (e.ops.length:Int))∧((Z1v (e.list,y_3,d,()))∧(Z5f (e.list,y_3,d,()) < N)∧(((!(Zf e.list y_3 d))=true→(Q .ret (L2 [(4,.c (.bool false))] [])))∧((!(Zf e.list y_3 d))=false→(InR ((x12:Int)+1))∧(N0 (Z1f e d ((x12:Int)+1)))))))∧((decide ((x12:Int) < (e.ops.length:Int)))=false→(Z7z (y_1,()))∧((Z8 (zz0=true))∧(Z8 (zz0=true))∧(Q .ret (L2 [(4,.c (.bool (bif zz0 then (decide (((Z0J y_1.ops 0):Int) < 1048576)) else false)))] [])))))):=by kernel_rfl
 exact e_.mpr (by intro y_1 y_2 y_3;have hh:=h y_1 (Ze _) y_2 rfl y_3 (Z9f _);exact ⟨fun c_8=> ⟨(hh.1 c_8).1,⟨(hh.1 c_8).2.1,(hh.1 c_8).2.2.1,⟨fun c_9=> ((hh.1 c_8).2.2.2.1 c_9),fun c_9=> ⟨((hh.1 c_8).2.2.2.2 c_9).1,((hh.1 c_8).2.2.2.2 c_9).2⟩⟩⟩⟩,fun c_8=> ⟨(hh.2 c_8).1,⟨id,(by generalize (decide (((Z0x y_1.ops 0):Int) < 1048576))=b0;revert b0;decide),(hh.2 c_8).2⟩⟩⟩)
def ZqQ(N:Nat)(e:Edit)(d:Int):Prop:=AW (Z0 (Z0k N)) Try.f125 Z6B [] (Zm (Z3m.can (e,d,())) []) (EQ Try.f125 (Z5y (e,d,())) [])
abbrev ZrJ:Prop:=∀ (N:Nat) (e:Edit) (d:Int) (_:Unit),Z1w (e,d,())→Z5g (e,d,()) < N+1→ZqQ N e d
def Ziu(N:Nat):List (FuncId × Fs U):=(89,fs Z5V (fun a=> [YU a,Z2b a < N]) Zab) ::(124,fs Z3n (fun a=> [Z1x a,Z5h a < N]) Z3S) ::(125,fs Z3m (fun a=> [Z1w a,Z5g a < N]) Z5y) ::(168,fs Z3l (fun a=> [Z1v a,Z5f a < N]) Z5x) ::[(121,Z32),(122,Z31),(123,Z30),(92,Z04),(184,Z2Y),(187,Z2X),(164,Z2Z)]
def ZmF:Zi U:=lvl [([2,3,4],[3,4]),([2,3,4,8],[3,4]),([2,3,4,8,9],[3,4]),([2,3,4,8,11],[3,4]),([2,3,4,8,13],[3,4]),([2,3,4,15],[3,4]),([6],[]),([6],[]),([6],[]),([6],[])]
abbrev ZvQ(N:Nat)(list:Int)(o:Op)(d:Int)(Q:QT):=AW (Z0 (Ziu N)) Try.f168 ZmF [] (L2 [(0,.c (ci list)),(1,.agg (enc .op o)),(2,.c (ci d))] []) Q
theorem ZuX(N:Nat)(list:Int)(o:Op)(d:Int)(Q:QT)(h:∀ y_1,y_1=(o.e)→∀ y_2,y_2=(.bool (bif (bif (bif (bif (o.n==0) then (decide ((0:Int) < (o.l.length:Int))) else false) then (Z4 y_1 1) else false) then (o.e.kind==0) else false) then (!(!(YN list o.l))) else false))→((o.kind==0)=true→((bif (bif (decide ((1:Int)≤o.n)) then (decide (o.n≤1048576)) else false) then (((o.l.length:Int):Int)==0) else false)=true→YU (y_1,1,()))∧((bif (bif (decide ((1:Int)≤o.n)) then (decide (o.n≤1048576)) else false) then (((o.l.length:Int):Int)==0) else false)=true→Z2b (y_1,1,()) < N)∧(Q .ret (L2 [(6,.c (.bool (bif (bif (bif (bif (decide ((1:Int)≤o.n)) then (decide (o.n≤1048576)) else false) then (((o.l.length:Int):Int)==0) else false) then (Z4 y_1 1) else false) then (o.e.kind==0) else false)))] [])))∧((o.kind==0)=false→((o.kind==1)=true→((bif (o.n==0) then (decide ((0:Int) < (o.l.length:Int))) else false)=true→YU (y_1,1,()))∧((bif (o.n==0) then (decide ((0:Int) < (o.l.length:Int))) else false)=true→Z2b (y_1,1,()) < N)∧((bif (bif (bif (o.n==0) then (decide ((0:Int) < (o.l.length:Int))) else false) then (Z4 y_1 1) else false) then (o.e.kind==0) else false)=true→Z37 (o.l,(list,()),()))∧(Q .ret (L2 [(6,.c y_2)] [])))∧((o.kind==1)=false→((o.kind==2)=true→((bif (o.n==0) then (decide ((0:Int) < (o.l.length:Int))) else false)=true→YU (y_1,1,()))∧((bif (o.n==0) then (decide ((0:Int) < (o.l.length:Int))) else false)=true→Z2b (y_1,1,()) < N)∧((bif (bif (bif (o.n==0) then (decide ((0:Int) < (o.l.length:Int))) else false) then (Z4 y_1 1) else false) then (o.e.kind==0) else false)=true→Z37 (o.l,(list,()),()))∧(Q .ret (L2 [(6,.c y_2)] [])))∧((o.kind==2)=false→((o.kind==3)=true→((bif (o.n==0) then (((o.l.length:Int):Int)==0) else false)=true→ZcV (list,y_1,()))∧((bif (bif (o.n==0) then (((o.l.length:Int):Int)==0) else false) then (Yi list y_1) else false)=true→YU (y_1,d,()))∧((bif (bif (o.n==0) then (((o.l.length:Int):Int)==0) else false) then (Yi list y_1) else false)=true→Z2b (y_1,d,()) < N)∧(Q .ret (L2 [(6,.c (.bool (bif (bif (bif (o.n==0) then (((o.l.length:Int):Int)==0) else false) then (Yi list y_1) else false) then (Z4 y_1 d) else false)))] [])))∧((o.kind==3)=false→Q .ret (L2 [(6,.c (.bool false))] [])))))):
  ZvQ N list o d Q:=by
 have e_:(ZvQ N list o d Q)=(let y_1:=(YF o.e);let y_2:=(.bool (bif (bif (bif (bif (o.n==0) then (decide ((0:Int) < (o.l.length:Int))) else false) then (Z4 y_1 1) else false) then ((o.e.kind:Int)==0) else false) then (!(!(YN list o.l))) else false));let zz5:=(decide ((1:Int)≤o.n));let zz4:=(bif zz5 then (decide (o.n≤1048576)) else false);let zz3:=((o.e.kind:Int)==0);let zz2:=(bif (o.n==0) then ((o.l.length:Int)==0) else false);let zz1:=(bif zz4 then ((o.l.length:Int)==0) else false);let zz0:=(bif (o.n==0) then (decide ((0:Int) < (o.l.length:Int))) else false);(((o.kind==0)=true→(Z8 (zz5=true))∧(Z8 (zz5=true))∧(Z8 (zz5=true))∧(Z8 (zz4=true))∧(Z8 (zz4=true))∧(Z8 (zz4=true))∧(Z8 (zz4=true))∧(Z8 (zz1=true))∧(Z8 (zz1=true))∧(zz1=true→YU (y_1,1,()))∧(zz1=true→Z2b (y_1,1,()) < N)∧(Z8 (zz1=true))∧(Z8 ((bif zz1 then (Z4 y_1 1) else false)=true))∧(Z8 ((bif zz1 then (Z4 y_1 1) else false)=true))∧(Z8 ((bif zz1 then (Z4 y_1 1) else false)=true))∧(Z8 ((bif zz1 then (Z4 y_1 1) else false)=true))∧(Q .ret (L2 [(6,.c (.bool (bif (bif zz1 then (Z4 y_1 1) else false) then zz3 else false)))] [])))∧((o.kind==0)=false→(((o.kind==1)=true→(Z8 ((o.n==0)=true))∧(Z8 ((o.n==0)=true))∧(Z8 ((o.n==0)=true))∧(Z8 ((o.n==0)=true))∧(Z8 (zz0=true))∧(Z8 (zz0=true))∧(zz0=true→YU (y_1,1,()))∧(zz0=true→Z2b (y_1,1,()) < N)∧(Z8 (zz0=true))∧(Z8 ((bif zz0 then (Z4 y_1 1) else false)=true))∧(Z8 ((bif zz0 then (Z4 y_1 1) else false)=true))∧(Z8 ((bif zz0 then (Z4 y_1 1) else false)=true))∧(Z8 ((bif zz0 then (Z4 y_1 1) else false)=true))∧(Z8 ((bif (bif zz0 then (Z4 y_1 1) else false) then zz3 else false)=true))∧(Z8 ((bif (bif zz0 then (Z4 y_1 1) else false) then zz3 else false)=true))∧(Z8 ((bif (bif zz0 then (Z4 y_1 1) else false) then zz3 else false)=true))∧((bif (bif zz0 then (Z4 y_1 1) else false) then zz3 else false)=true→Z37 (o.l,(list,()),()))∧(Z8 ((bif (bif zz0 then (Z4 y_1 1) else false) then zz3 else false)=true))∧(Z8 ((bif (bif zz0 then (Z4 y_1 1) else false) then zz3 else false)=true))∧(Q .ret (L2 [(6,.c y_2)] [])))∧((o.kind==1)=false→(((o.kind==2)=true→(Z8 ((o.n==0)=true))∧(Z8 ((o.n==0)=true))∧(Z8 ((o.n==0)=true))∧(Z8 ((o.n==0)=true))∧(Z8 (zz0=true))∧(Z8 (zz0=true))∧(zz0=true→YU (y_1,1,()))∧(zz0=true→Z2b (y_1,1,()) < N)∧(Z8 (zz0=true))∧(Z8 ((bif zz0 then (Z4 y_1 1) else false)=true))∧(Z8 ((bif zz0 then (Z4 y_1 1) else false)=true))∧(Z8 ((bif zz0 then (Z4 y_1 1) else false)=true))∧(Z8 ((bif zz0 then (Z4 y_1 1) else false)=true))∧(Z8 ((bif (bif zz0 then (Z4 y_1 1) else false) then zz3 else false)=true))∧(Z8 ((bif (bif zz0 then (Z4 y_1 1) else false) then zz3 else false)=true))∧(Z8 ((bif (bif zz0 then (Z4 y_1 1) else false) then zz3 else false)=true))∧((bif (bif zz0 then (Z4 y_1 1) else false) then zz3 else false)=true→Z37 (o.l,(list,()),()))∧(Z8 ((bif (bif zz0 then (Z4 y_1 1) else false) then zz3 else false)=true))∧(Z8 ((bif (bif zz0 then (Z4 y_1 1) else false) then zz3 else false)=true))∧(Q .ret (L2 [(6,.c y_2)] [])))∧((o.kind==2)=false→(((o.kind==3)=true→(Z8 ((o.n==0)=true))∧(Z8 ((o.n==0)=true))∧(Z8 ((o.n==0)=true))∧(Z8 ((o.n==0)=true))∧(Z8 (zz2=true))∧(Z8 (zz2=true))∧(Z8 (zz2=true))∧(zz2=true→ZcV (list,y_1,()))∧(Z8 (zz2=true))∧(Z8 ((bif zz2 then (Yi list y_1) else false)=true))∧(Z8 ((bif zz2 then (Yi list y_1) else false)=true))∧(Z8 ((bif zz2 then (Yi list y_1) else false)=true))∧((bif zz2 then (Yi list y_1) else false)=true→YU (y_1,d,()))∧((bif zz2 then (Yi list y_1) else false)=true→Z2b (y_1,d,()) < N)∧(Z8 ((bif zz2 then (Yi list y_1) else false)=true))∧(Q .ret (L2 [(6,.c (.bool (bif (bif zz2 then (Yi list y_1) else false) then (Z4 y_1 d) else false)))] [])))∧((o.kind==3)=false→(Q .ret (L2 [(6,.c (.bool false))] []))))))))))):=by kernel_rfl
 exact e_.mpr (by intro y_1 y_2;have hh:=h y_1 (Ze _) y_2 rfl;exact ⟨fun c_10=> ⟨id,id,(by generalize (decide ((1:Int)≤o.n))=b0;revert b0;decide),id,id,id,(by generalize (decide ((o.n:Int)≤1048576))=b0;generalize (decide ((1:Int)≤o.n))=b1;revert b0 b1;decide),id,id,(hh.1 c_10).1,(hh.1 c_10).2.1,(by generalize (((o.l.length:Int):Int)==0)=b0;generalize (decide ((o.n:Int)≤1048576))=b1;generalize (decide ((1:Int)≤o.n))=b2;revert b0 b1 b2;decide),id,id,id,(by generalize (Z4 y_1 1)=b0;generalize (((o.l.length:Int):Int)==0)=b1;generalize (decide ((o.n:Int)≤1048576))=b2;generalize (decide ((1:Int)≤o.n))=b3;revert b0 b1 b2 b3;decide),(hh.1 c_10).2.2⟩,fun c_10=> ⟨fun c_11=> ⟨id,id,id,(by generalize ((o.n:Int)==0)=b0;revert b0;decide),id,id,((hh.2 c_10).1 c_11).1,((hh.2 c_10).1 c_11).2.1,(by generalize (decide ((0:Int) < (o.l.length:Int)))=b0;generalize ((o.n:Int)==0)=b1;revert b0 b1;decide),id,id,id,(by generalize (Z4 y_1 1)=b0;generalize (decide ((0:Int) < (o.l.length:Int)))=b1;generalize ((o.n:Int)==0)=b2;revert b0 b1 b2;decide),id,id,id,((hh.2 c_10).1 c_11).2.2.1,id,(by generalize (Z4 y_1 1)=b0;generalize (decide ((0:Int) < (o.l.length:Int)))=b1;generalize ((o.e.kind:Int)==0)=b2;generalize ((o.n:Int)==0)=b3;revert b0 b1 b2 b3;decide),((hh.2 c_10).1 c_11).2.2.2⟩,fun c_11=> ⟨fun c_12=> ⟨id,id,id,(by generalize ((o.n:Int)==0)=b0;revert b0;decide),id,id,(((hh.2 c_10).2 c_11).1 c_12).1,(((hh.2 c_10).2 c_11).1 c_12).2.1,(by generalize (decide ((0:Int) < (o.l.length:Int)))=b0;generalize ((o.n:Int)==0)=b1;revert b0 b1;decide),id,id,id,(by generalize (Z4 y_1 1)=b0;generalize (decide ((0:Int) < (o.l.length:Int)))=b1;generalize ((o.n:Int)==0)=b2;revert b0 b1 b2;decide),id,id,id,(((hh.2 c_10).2 c_11).1 c_12).2.2.1,id,(by generalize (Z4 y_1 1)=b0;generalize (decide ((0:Int) < (o.l.length:Int)))=b1;generalize ((o.e.kind:Int)==0)=b2;generalize ((o.n:Int)==0)=b3;revert b0 b1 b2 b3;decide),(((hh.2 c_10).2 c_11).1 c_12).2.2.2⟩,fun c_12=> ⟨fun c_13=> ⟨id,id,id,(by generalize ((o.n:Int)==0)=b0;revert b0;decide),id,id,id,((((hh.2 c_10).2 c_11).2 c_12).1 c_13).1,(by generalize (((o.l.length:Int):Int)==0)=b0;generalize ((o.n:Int)==0)=b1;revert b0 b1;decide),id,id,id,((((hh.2 c_10).2 c_11).2 c_12).1 c_13).2.1,((((hh.2 c_10).2 c_11).2 c_12).1 c_13).2.2.1,(by generalize (Yi list y_1)=b0;generalize (((o.l.length:Int):Int)==0)=b1;generalize ((o.n:Int)==0)=b2;revert b0 b1 b2;decide),((((hh.2 c_10).2 c_11).2 c_12).1 c_13).2.2.2⟩,fun c_13=> ((((hh.2 c_10).2 c_11).2 c_12).2 c_13)⟩⟩⟩⟩)
def ZqE(N:Nat)(list:Int)(o:Op)(d:Int):Prop:=AW (Z0 (Ziu N)) Try.f168 ZmF [] (Zm (Z3l.can (list,o,d,())) []) (EQ Try.f168 (Z5x (list,o,d,())) [])
abbrev ZrI:Prop:=∀ (N:Nat) (list:Int) (o:Op) (d:Int) (_:Unit),Z1v (list,o,d,())→Z5f (list,o,d,()) < N+1→ZqE N list o d
def Zn5:List (FuncId × Fs U):=[(89,Z9B)]
def Zt4:Zi U:=lvl [([1],[1]),([2],[])]
abbrev W52(e:Edit)(Q:QT):=AW (Z0 Zn5) Try.f52 Zt4 [] (L2 [(0,.agg (enc .edit e))] []) Q
theorem ZwL(e:Edit)(Q:QT)(h:(YU ((Edit.mk e.kind (Tree.mk e.old.kind e.old.words e.old.kids) (Tree.mk e.new.kind e.new.words e.new.kids) e.words e.kids e.list e.ops),64,()))∧(Q .ret (L2 [(2,.c (.bool (Z4 (Edit.mk e.kind (Tree.mk e.old.kind e.old.words e.old.kids) (Tree.mk e.new.kind e.new.words e.new.kids) e.words e.kids e.list e.ops) 64)))] []))):
  W52 e Q:=by
 have e_:(W52 e Q)=(type_of% h):=by kernel_rfl
 exact e_.mpr ⟨h.1,h.2⟩
def Zuv(e:Edit):Prop:=AW (Z0 Zn5) Try.f52 Zt4 [] (Zm (ZnR.can (e,())) []) (EQ Try.f52 (Zri (e,())) [])
theorem ZsF(c89:CT 89 Z9B)(hb:∀ (e:Edit) (_:Unit),ZhX (e,())→Zuv e):CT 52 Z9P:=
 Z3 (l:=[(89,Z9B)]) Zk rfl (⟨c89,trivial⟩) Zt4 Try.func52 rfl rfl 1 (fun _=> rfl) (by decide) (fun ⟨e,_⟩=> hb e ())
theorem Zpf(ZtC:CT 121 Z32)(ZtB:CT 122 Z31)(ZtA:CT 123 Z30)(c92:CT 92 Z04)(Ztq:CT 184 Z2Y)(Ztn:CT 187 Z2X)(Ztt:CT 164 Z2Z)(b89:Zw8)(ZtN:ZrK)(ZtM:ZrJ)(ZtL:ZrI):
  CT 89 Z9B∧CT 124 Zht∧CT 125 Zhs∧CT 168 Zhr:=by
 have h87 : ∃ fn, Try.prog.funcs[(89 : FuncId)]? = some fn ∧ fn.body.isSome = true ∧ (fn.name == "runtime.NumGoroutine") = false := ⟨Try.f89, Try.func89, rfl, rfl⟩
 have h121 : ∃ fn, Try.prog.funcs[(124 : FuncId)]? = some fn ∧ fn.body.isSome = true ∧ (fn.name == "runtime.NumGoroutine") = false := ⟨Try.f124, Try.func124, rfl, rfl⟩
 have h122 : ∃ fn, Try.prog.funcs[(125 : FuncId)]? = some fn ∧ fn.body.isSome = true ∧ (fn.name == "runtime.NumGoroutine") = false := ⟨Try.f125, Try.func125, rfl, rfl⟩
 have h132 : ∃ fn, Try.prog.funcs[(168 : FuncId)]? = some fn ∧ fn.body.isSome = true ∧ (fn.name == "runtime.NumGoroutine") = false := ⟨Try.f168, Try.func168, rfl, rfl⟩
 have key:∀ N,CT 89 (fs Z5V (fun a=> [YU a,Z2b a < N]) Zab)∧CT 124 (fs Z3n (fun a=> [Z1x a,Z5h a < N]) Z3S)∧CT 125 (fs Z3m (fun a=> [Z1w a,Z5g a < N]) Z5y)∧CT 168 (fs Z3l (fun a=> [Z1v a,Z5f a < N]) Z5x):=by
  intro N
  induction N with
  | zero=> exact ⟨Z0X h87,Z0X h121,Z0X h122,Z0X h132⟩
  | succ N ih=>
   have kn:=JS (l:=Z5Q N) ⟨ih.1,ih.2.1,ih.2.2.1,ih.2.2.2,ZtC,ZtB,ZtA,c92,Ztq,Ztn,Ztt,trivial⟩
   exact ⟨Y9 (Γ:=Z0 (Z5Q N)) Zk rfl kn ZsW Try.func89 rfl rfl (fun a=> by show 2≤_;decide) (fun ⟨e,d,_⟩ h=> b89 N e d () h.1 h.2.1),
    Y9 (Γ:=Z0 (Z5Q N)) Zk rfl kn Z6C Try.func124 rfl rfl (fun a=> by show 2≤_;decide) (fun ⟨l,d,_⟩ h=> ZtN N l d () h.1 h.2.1),
    Y9 (Γ:=Z0 (Z5Q N)) Zk rfl kn Z6B Try.func125 rfl rfl (fun a=> by show 2≤_;decide) (fun ⟨e,d,_⟩ h=> ZtM N e d () h.1 h.2.1),
    Y9 (Γ:=Z0 (Z5Q N)) Zk rfl kn ZmF Try.func168 rfl rfl (fun a=> by show 3≤_;decide) (fun ⟨list,o,d,_⟩ h=> ZtL N list o d () h.1 h.2.1)⟩
 exact ⟨Z0Y h87 fun N=> (key N).1,Z0Y h121 fun N=> (key N).2.1,Z0Y h122 fun N=> (key N).2.2.1,Z0Y h132 fun N=> (key N).2.2.2⟩
end
end
end Go.AM.Ytpjenobkibfpcaa
namespace Go.AM.Ytpjenobkibfpcaa
open Go.AM Go.Proofs
theorem ZjH{e:Edit}:(Z4 e 1=true∧e.kind=0)↔Z00 e=true:=by
 rw [Z2o]
 simp only [Z00,Bool.and_eq_true,decide_eq_true_eq]
 by_cases hk:e.kind=0
 ·rw [if_neg (by omega)]
  by_cases hb:ZM e.old=true∧ZM e.new=true
  ·by_cases hw:e.words.length=0∧e.kids.length=0
   ·by_cases hl:e.list=0∧e.ops.length=0
    ·have h1:e.words=[]:=List.length_eq_zero_iff.1 hw.1
     have h2:e.kids=[]:=List.length_eq_zero_iff.1 hw.2
     have h3:e.ops=[]:=List.length_eq_zero_iff.1 hl.2
     rw [if_neg (fun h=> by rcases h with h | h | h;exact h.2 hb;exact h.2 hw;omega),if_neg (by omega),h1,h2,h3]
     simp only [Zu,ZE,ZB,JY,JX,Bool.true_and,Bool.and_true,Bool.and_eq_true,decide_eq_true_eq]
     refine ⟨fun _=> ⟨⟨⟨hk,hb.1⟩,hb.2⟩,rfl,rfl,rfl,hl.1⟩,fun _=> by simp [hk]⟩
    ·rw [if_pos (Or.inr (Or.inr ⟨by omega,by omega⟩))]
     refine ⟨fun h=> (nomatch h.1),fun h=> absurd ⟨h.2.2.2.2,h.2.2.2.1⟩ hl⟩
   ·rw [if_pos (Or.inr (Or.inl ⟨by omega,hw⟩))]
    refine ⟨fun h=> (nomatch h.1),fun h=> absurd ⟨h.2.1,h.2.2.1⟩ hw⟩
  ·rw [if_pos (Or.inl ⟨by omega,hb⟩)]
   refine ⟨fun h=> (nomatch h.1),fun h=> absurd ⟨h.1.1.2,h.1.2⟩ hb⟩
 ·exact ⟨fun h=> absurd h.2 hk,fun h=> absurd h.1.1.1 hk⟩
theorem b89:Zw8:=by
 intro N e d _ hp hN
 simp only [YU,Z2b] at hp hN
 obtain ⟨⟨hm,hr⟩,hd0,hd1⟩:=hp
 obtain ⟨ik,ro,rn,rw',il,rk,ros⟩:=Z0P hr
 have hme:=Y6 e
 have hkl:=Y4 e.kids
 have hol:=Y3 e.ops
 have hat:=Z2o e d
 rw [ZiO hd0] at hat
 refine Zwm N e d _ ?_
 rintro y1 hy1 y2 hy2 y3 hy3
 subst hy1 hy2 hy3
 (simp only [vcS])
 have hbare:Z0B y1=true↔¬((y1.kind≠1∧¬(ZM y1.old=true∧ZM y1.new=true))∨(y1.kind≠2∧¬(y1.words.length=0∧y1.kids.length=0))∨(y1.kind≠3∧(y1.list≠0∨y1.ops.length≠0))):=by
  unfold Z0B
  split
  ·rename_i h;exact ⟨fun h=> (nomatch h),fun h2=> absurd h h2⟩
  ·rename_i h;exact ⟨fun _=> h,fun _=> rfl⟩
 refine ⟨by simp only [Z7E];omega,fun hc=> Z2 rfl ?_,fun hc=> ?_⟩
 ·rcases hc with hc | hc
  ·rw [hat]
   split
   ·try rfl
   ·rw [if_pos (Classical.byContradiction fun h=> by rw [hbare.2 h] at hc;cases hc)]
  ·rw [hat,if_pos (Or.inl hc)]
 have hb:=hbare.1 hc.1
 have hr2:¬(y1.kind=0∨y1.kind=1∨y1.kind=2∨y1.kind=3)→Z4 y1 d=false:=fun h=> by rw [hat,if_pos (by omega)]
 by_cases hk:y1.kind=0∨y1.kind=1∨y1.kind=2∨y1.kind=3
 ·rw [if_neg (by omega),if_neg hb] at hat
  have hw:y1.kind≠2→y1.words=[]∧y1.kids=[]:=by
   intro h
   have:y1.words.length=0∧y1.kids.length=0:=Classical.byContradiction fun h2=> hb (Or.inr (Or.inl ⟨h,h2⟩))
   exact ⟨List.length_eq_zero_iff.1 this.1,List.length_eq_zero_iff.1 this.2⟩
  have ho:y1.kind≠3→y1.list=0∧y1.ops=[]:=by
   intro h
   have:y1.list=0∧y1.ops.length=0:=by
    constructor
    ·exact Classical.byContradiction fun h2=> hb (Or.inr (Or.inr ⟨h,Or.inl h2⟩))
    ·exact Classical.byContradiction fun h2=> hb (Or.inr (Or.inr ⟨h,Or.inr h2⟩))
   exact ⟨this.1,List.length_eq_zero_iff.1 this.2⟩
  refine ⟨fun h0=> Z2 rfl ?_,fun h0=> ⟨fun h1=> ⟨by simp only [Z3W];exact ⟨by omega,ro⟩,fun _=> by simp only [Z3W];exact ⟨by omega,rn⟩,Z2 rfl ?_⟩,fun h1=> ⟨fun h2=> ⟨by simp only [Z7D];exact ⟨by omega,rw'⟩,fun _=> by unfold InR;omega,fun _=> by simp only [Z1x];exact ⟨⟨by omega,rk⟩,by omega,by omega⟩,fun _=> by simp only [Z5h];omega,Z2 rfl ?_⟩,fun h2=> ⟨fun h3=> ⟨trivial,fun _=> by unfold InR;omega,fun hl=> by simp only [Z1w];exact ⟨⟨by omega,hr,hl⟩,by omega,by omega⟩,fun _=> by simp only [Z5g];omega,Z2 rfl ?_⟩,fun h3=> ?_⟩⟩⟩⟩
  ·rw [hat,if_neg (by omega),(hw (by omega)).1,(hw (by omega)).2,(ho (by omega)).1,(ho (by omega)).2]
   simp [Zu,ZE,ZB,JY,JX]
   omega
  ·rw [hat,if_pos h1,Bool.eq_iff_iff]
   (simp only [vcS])
   exact ⟨fun h=> ⟨⟨h.1.2,h.2.2⟩,h.1.1,h.2.1⟩,fun h=> ⟨⟨h.2.1,h.1.1⟩,h.2.2,h.1.2⟩⟩
  ·rw [hat,if_neg h1,(ho (by omega)).1,(ho (by omega)).2,Bool.eq_iff_iff]
   simp only [ZB,JY,JX]
   (simp only [vcS])
   constructor
   ·rintro ⟨a,b⟩
    exact ⟨⟨⟨⟨a,b⟩,by omega⟩,trivial⟩,by decide⟩
   ·rintro ⟨⟨⟨⟨a,b⟩,_⟩,_⟩,_⟩
    exact ⟨a,b⟩
  ·rw [hat,if_neg h1,(hw (by omega)).1,(hw (by omega)).2,Bool.eq_iff_iff]
   simp only [Zu,ZE]
   (simp only [vcS])
   constructor
   ·rintro ⟨a,b,c⟩
    exact ⟨⟨⟨⟨trivial,trivial⟩,by omega⟩,b⟩,c⟩
   ·rintro ⟨⟨⟨_,a⟩,b⟩,c⟩
    exact ⟨by omega,b,c⟩
  ·omega
 ·have he:=hr2 hk
  refine ⟨fun h0=> by omega,fun h0=> ⟨fun h1=> by omega,fun h1=> ⟨fun h2=> by omega,fun h2=> ⟨fun h3=> by omega,fun h3=> Z2 rfl ?_⟩⟩⟩⟩
  rw [he]
theorem ZtN:ZrK:=by
 intro N l d _ hp hN
 simp only [Z1x,Z5h] at hp hN
 obtain ⟨⟨hm,hr⟩,hd0,hd1⟩:=hp
 have hl:=Y4 l
 refine Zva N l d _ ?_
 refine Za (ι:=Int) (fun i=> Z1g l d i) (fun i=> 0≤i∧i≤l.length∧∃ last,-1≤last∧(i=0→last= -1)∧(0 < i→last=(l.getD (i - 1).toNat (KidOf.mk 0 Edit.nil)).at_)∧ZE last (l.drop i.toNat) d=ZE (-1) l d) (fun i=> ((l.length:Int) - i).toNat) 0 rfl ⟨by omega,by omega,-1,by omega,fun _=> rfl,fun h=> by omega,by simp⟩ ?_
 rintro i ⟨g1,g2,last,g3,g4,g5,g6⟩
 refine Zl8 N l d i _ _ ?_
 rintro y1 hy1 y2 hy2 y3 hy3
 (simp only [vcS])
 refine ⟨fun hi=> ?_,fun hi=> ?_⟩
 ·have hmem:=Zl (l:=l) (i:=i.toNat) (by omega) (KidOf.mk 0 Edit.nil)
  have hmk:=YC hmem
  have hrk:=Z15 hr hmem
  rw [ZR g1 hi (KidOf.mk 0 Edit.nil)] at g6
  rw [←hy1] at g6 hmk hrk
  rw [←hy2] at g5
  rw [←hy3] at hmk hrk
  simp only [ZE,Z3O] at g6
  rw [←hy3] at g6
  have hk:y1.e.kind=y3.kind:=by rw [hy3]
  rw [hk]
  have gl:(¬0 < i∨¬y1.at_≤y2.at_)∧¬y1.at_ < 0↔last < y1.at_∧¬y1.at_ < 0:=by
   by_cases h0:0 < i
   ·have:=g5 h0;omega
   ·have:=g4 (by omega);omega
  refine ⟨⟨g1,hi⟩,fun _=> by unfold InR;omega,fun _=> by omega,fun _=> ?_,fun _=> by simp only [Z2b];omega,fun hc=> Z2 rfl ?_,fun hc=> ⟨by unfold InR;omega,i+1,rfl,⟨by omega,by omega,y1.at_,by omega,fun h=> by omega,fun _=> by rw [show (i+1 - 1).toNat=i.toNat by omega,←hy1],?_⟩,by omega⟩⟩
  ·simp only [YU]
   exact ⟨⟨by omega,hrk.2⟩,hd0,hd1⟩
  ·rw [←g6]
   by_cases hr:Z4 y3 d=true
   ·rw [decide_eq_false (fun h=> ?_)]
    ·try rfl
    ·rcases hc with hc | hc
     ·rcases hc with (hc | hc) | hc
      ·omega
      ·by_cases h0:0 < i
       ·have:=g5 h0;omega
       ·omega
      ·exact h.2.2 hc
     ·rw [hr] at hc;cases hc
   ·simp only [Bool.not_eq_true] at hr
    rw [hr];simp
  ·rw [←g6,hc.2,decide_eq_true (show last < y1.at_∧y1.at_≤65534∧y3.kind≠0 by
    refine ⟨?_,by omega,hc.1.2⟩
    by_cases h0:0 < i
    ·have:=g5 h0;omega
    ·have:=g4 (by omega);omega)]
   try rfl
 ·rw [List.drop_of_length_le (by omega)] at g6
  simp only [Z3S]
  rw [←g6]
  exact Z2 rfl rfl
theorem Z5c{list d:Int}:∀ {os:List Op},(∀ o∈os,Zf list o d=true)→ZB list os d=true
 | [],_=> rfl
 | o ::r,h=> by
  simp only [ZB,Bool.and_eq_true]
  exact ⟨h o (List.mem_cons_self ..),Z5c (fun x hx=> h x (List.mem_cons_of_mem _ hx))⟩
theorem ZtM:ZrJ:=by
 intro N e d _ hp hN
 simp only [Z1w,Z5g] at hp hN
 obtain ⟨⟨hm,hr,hl⟩,hd0,hd1⟩:=hp
 obtain ⟨ik,ro,rn,rw',il,rk,ros⟩:=Z0P hr
 have hme:=Y6 e
 have hol:=Y3 e.ops
 refine Zv9 N e d _ ?_
 refine Za (ι:=Int) (fun i=> Z1f e d i) (fun i=> 0≤i∧i≤e.ops.length∧∀ o∈e.ops.take i.toNat,Zf e.list o d=true) (fun i=> ((e.ops.length:Int) - i).toNat) 0 rfl ⟨by omega,by omega,by simp⟩ ?_
 rintro i ⟨g1,g2,g3⟩
 refine Zl7 N e d i _ _ ?_
 rintro y1 hy1 y2 hy2 y3 hy3
 subst hy1 hy3
 (simp only [vcS])
 refine ⟨fun hi=> ?_,fun hi=> ?_⟩
 ·have hmem:=Zl (l:=y1.ops) (i:=i.toNat) (by omega) Op.nil
  have hmo:=Y2 hmem
  have hro:=Z14 ros hmem
  rw [←hy2] at hmem hmo hro
  refine ⟨⟨g1,hi⟩,?_,by simp only [Z5f];omega,fun hc=> Z2 rfl ?_,fun hc=> ⟨by unfold InR;omega,i+1,rfl,⟨by omega,by omega,fun o ho=> ?_⟩,by omega⟩⟩
  ·simp only [Z1v]
   exact ⟨⟨by omega,hro,hl⟩,hd0,hd1⟩
  ·have:ZB y1.list y1.ops d=false:=by
    rw [←Bool.not_eq_true]
    intro h
    have:=rightOs_mem h hmem
    rw [hc] at this;cases this
   rw [this,Bool.false_and]
  ·rw [show (i+1).toNat=i.toNat+1 by omega,List.take_add_one] at ho
   rcases List.mem_append.1 ho with ho | ho
   ·exact g3 o ho
   ·have e:y1.ops[i.toNat]?=some y3:=by
     rw [hy2]
     simp [List.getD,List.getElem?_eq_getElem (show i.toNat < y1.ops.length by omega)]
    rw [e] at ho
    simp only [Option.toList_some,List.mem_singleton] at ho
    subst ho
    exact hc
 ·rw [List.take_of_length_le (by omega)] at g3
  have hall:ZB y1.list y1.ops d=true:=Z5c g3
  have hb:∀ o∈y1.ops,(0≤o.n∧o.n≤1048576)∧o.l.length≤20000000000:=by
   intro o ho
   refine ⟨Z4E (g3 o ho),?_⟩
   have h1:=Y2 ho
   rw [Yg] at h1
   have h2:=Zs o.l
   omega
  refine ⟨by simp only [Z7z];omega,Z2 rfl ?_⟩
  rw [Zf0 _ _ hb (by decide) (by decide),ZeZ _ _ hb (by decide) (by decide),hall,Bool.true_and]
  by_cases h1:JY y1.ops 0 < 1048576 <;> by_cases h2:JX y1.ops 0 < 1048576 <;> simp [h1,h2]
theorem ZtL:ZrI:=by
 intro N list o d _ hp hN
 simp only [Z1v,Z5f] at hp hN
 obtain ⟨⟨hm,hr,hil⟩,hd0,hd1⟩:=hp
 obtain ⟨ik,inn,rl,re⟩:=Z9c hr
 rw [Yg] at hm hN
 have hll:=Zs o.l
 have hep:=Z1b o.e
 have hat:=Jt list o d
 rw [ZiO hd0,Z7n] at hat
 have hs:=ZjH (e:=o.e)
 refine ZuX N list o d _ ?_
 rintro y1 hy1 y2 hy2
 subst hy1
 (simp only [vcS])
 have hp87:YU (o.e,1,()):=by simp only [YU];exact ⟨⟨by omega,re⟩,by omega,by omega⟩
 have hm87:Z2b (o.e,1,()) < N:=by simp only [Z2b];omega
 have hp135:Z37 (o.l,(list,()),()):=by simp only [Z37];exact ⟨by omega,rl,by unfold isI;omega⟩
 have h12:o.kind=1∨o.kind=2→y2= .bool (Zf list o d):=by
  intro hk
  rw [hy2,hat,if_neg (by omega)]
  congr 1
  rw [Bool.eq_iff_iff]
  (simp only [vcS])
  by_cases hn:o.n=0
  ·rw [if_neg (by omega),if_pos (by omega)]
   (simp only [vcS])
   constructor
   ·rintro ⟨⟨⟨⟨h1,h2⟩,h3⟩,h4⟩,h5⟩
    exact ⟨⟨h5,by omega⟩,hs.1 ⟨h3,h4⟩⟩
   ·rintro ⟨⟨h5,h2⟩,h3⟩
    have:=hs.2 h3
    exact ⟨⟨⟨⟨hn,by omega⟩,this.1⟩,this.2⟩,h5⟩
  ·rw [if_pos (by omega)]
   exact ⟨fun h=> absurd h.1.1.1.1 hn,fun h=> (nomatch h)⟩
 refine ⟨fun hk=> ⟨fun _=> hp87,fun _=> hm87,Z2 rfl ?_⟩,fun hk=> ⟨fun hk1=> ⟨fun _=> hp87,fun _=> hm87,fun _=> hp135,?_⟩,fun hk1=> ⟨fun hk2=> ⟨fun _=> hp87,fun _=> hm87,fun _=> hp135,?_⟩,fun hk2=> ⟨fun hk3=> ⟨fun _=> trivial,fun _=> ?_,fun _=> by simp only [Z2b];omega,Z2 rfl ?_⟩,fun hk3=> Z2 rfl ?_⟩⟩⟩⟩
 ·rw [hat,if_pos hk,Bool.eq_iff_iff]
  (simp only [vcS])
  constructor
  ·rintro ⟨⟨⟨h1,h2⟩,h3⟩,h4⟩
   exact ⟨⟨h1.1,h1.2,by omega⟩,hs.1 ⟨h3,h4⟩⟩
  ·rintro ⟨⟨h1,h2,h3⟩,h4⟩
   have:=hs.2 h4
   exact ⟨⟨⟨⟨h1,h2⟩,by omega⟩,this.1⟩,this.2⟩
 ·rw [h12 (Or.inl hk1)]
  exact Z2 rfl rfl
 ·rw [h12 (Or.inr hk2)]
  exact Z2 rfl rfl
 ·simp only [YU];exact ⟨⟨by omega,re⟩,hd0,hd1⟩
 ·rw [hat,if_neg hk,Bool.eq_iff_iff]
  by_cases hn:o.n=0
  ·rw [if_neg (by omega),if_neg (by omega)]
   have hw:Yi list o.e=true↔(o.e.kind≠0∧7 < list)∧(list=8∨o.e.kind=2∨o.e.kind=1∧o.e.old.kind=1∧o.e.new.kind=1):=by
    unfold Yi
    split
    ·exact ⟨fun h=> (nomatch h),fun h=> by omega⟩
    ·split
     ·exact ⟨fun _=> ⟨by omega,by omega⟩,fun _=> rfl⟩
     ·rw [decide_eq_true_eq]
      exact ⟨fun h=> ⟨by omega,Or.inr (Or.inr h)⟩,fun h=> by omega⟩
   (simp only [vcS])
   rw [hw]
   constructor
   ·rintro ⟨⟨h1,h2⟩,h3⟩
    exact ⟨⟨⟨by omega,h2.1⟩,h3⟩,h2.2⟩
   ·rintro ⟨⟨⟨h1,h2⟩,h3⟩,h4⟩
    exact ⟨⟨⟨hn,by omega⟩,h2,h4⟩,h3⟩
  ·rw [if_pos (by omega)]
   (simp only [vcS])
   exact ⟨fun h=> absurd h.1.1.1 hn,fun h=> (nomatch h)⟩
 ·rw [hat,if_neg hk]
  by_cases hn:o.n≠0∨o.kind < 0∨3 < o.kind
  ·rw [if_pos hn]
  ·exfalso;omega
theorem Zx7:Contract Try.prog cfg 89 Z9B∧Contract Try.prog cfg 124 Zht∧Contract Try.prog cfg 125 Zhs∧Contract Try.prog cfg 168 Zhr:=
 Zpf ZtC ZtB ZtA c92 Ztq Ztn Ztt b89 ZtN ZtM ZtL
theorem c52:Contract Try.prog cfg 52 Z9P:=by
 refine ZsF Zx7.1 ?_
 intro e _ hp
 simp only [ZhX] at hp
 refine ZwL _ _ ?_
 (simp only [Tree.eta,Edit.eta,Tree.kind_mk,Tree.words_mk,Tree.kids_mk])
 refine ⟨by simp only [YU];exact ⟨hp,by omega,by omega⟩,?_⟩
 exact Z2 rfl rfl
end Go.AM.Ytpjenobkibfpcaa
namespace Go.AM.Ytpjenobkibfpcaa
open Go.AM Go.Proofs
theorem kids_sum:∀ {l:List Op},(∀ o∈l,Z7H o)→Z2e l≤YQ l+YW l
 | [],_=> by simp [Z2e,YQ,YW]
 | o ::r,h=> by
  have h1:=Z7I (h o List.mem_cons_self)
  have h2:=kids_sum fun x hx=> h x (List.mem_cons_of_mem _ hx)
  simp only [Z2e,YQ,YW]
  split <;> split <;> omega
end Go.AM.Ytpjenobkibfpcaa
namespace Go.AM.Ytpjenobkibfpcaa
open Go.AM Go.Proofs
theorem Znf{t:Tree}(h:Z2G t=true)(hr:rng t):Zj t≤20000000000∧RT_ t∧Z9 t 64=true∧t.kind≠10:=by
 unfold Z2G at h
 simp only [Bool.and_eq_true,decide_eq_true_eq] at h
 exact ⟨Zcg h.1.1,⟨⟨64,h.1.2⟩,hr⟩,h.1.2,h.2⟩
theorem ZvF{t:Tree}(h:Z2G t=true):Zj t≤3000:=by
 unfold Z2G at h
 simp only [Bool.and_eq_true,decide_eq_true_eq] at h
 have:=JH t 80 3000 h.1.1
 omega
theorem Zne{e:Edit}(h:JZ e=true):Zg e≤3000∧Z4 e 64=true:=by
 simp only [JZ,Bool.and_eq_true,decide_eq_true_eq] at h
 exact ⟨Z87 h.1.1,h.1.2⟩
theorem Zg8{r:Bool}{e:Edit}{t:Tree}(hr:∃ d,Z4 e d=true)(ht:Zj t+ctE e≤200000000000):Zj (Z40 (doE r e t))≤1000000000000:=by
 cases h:doE r e t with
 | none=> simp [Z40,Tree.nil,Zj,Zb]
 | some u=> exact Zfj hr ht h
theorem Zg7(o:Option Tree):Z40 (o.map Z6)=Z6 (Z40 o):=by cases o;exact Z7P.symm;rfl
end Go.AM.Ytpjenobkibfpcaa
namespace Go.AM.Ytpjenobkibfpcaa
open Go.AM Go.Proofs
mutual
theorem Z5a:∀ t:Tree,Zj t≤17592186044416→Z1n t
 | .mk k w ks,h=> by
  simp only [Zj] at h
  have:=Zs ks
  exact ⟨by omega,by omega,Z3I ks (by omega)⟩
theorem Z3I:∀ l:List Tree,Zb l≤17592186044416→Z1m l
 | [],_=> trivial
 | t ::r,h=> by
  simp only [Zb] at h
  exact ⟨Z5a t (by omega),Z3I r (by omega)⟩
end
theorem Zge{e:Edit}{t:Tree}(hr:∃ d,Z4 e d=true)(ht:Zj t+ctE e≤200000000000):Zj (Z40 ((doE false e t).map Z6))≤1000000000000:=by
 rw [Zg7]
 exact Nat.le_trans (Ju _) (Zg8 hr ht)
end Go.AM.Ytpjenobkibfpcaa
namespace Go.AM.Ytpjenobkibfpcaa
open Go.AM Go.Proofs
theorem Znd{e:Edit}(h:JZ e=true)(g:Y1 e):Zvq e∧Zg e≤3000∧Z4 e 64=true:=by
 obtain ⟨m,r⟩:=Zne h
 have hl:JQ e=true:=by
  simp only [JZ,Bool.and_eq_true] at h
  exact h.2
 have:=Zlm _ e (Nat.le_refl _) ⟨64,r⟩ hl
 exact ⟨⟨by omega,g,64,r⟩,m,r⟩
end Go.AM.Ytpjenobkibfpcaa
namespace Go.AM.Ytpjenobkibfpcaa
open Go.AM Go.Proofs
noncomputable section
def ZnA:ArgL (Int × Unit):=(.cons (Yt .i64) .nil)
def ZbR(a:Int × Unit):Prop:=True
def ZhG(a:Int × Unit):V U:= .c (sU .op (YE a.1) (.own (.r 0 0)))
def Z9z:Fs U:=fs ZnA (fun a=> [ZbR a]) ZhG
def Zh2:ArgL (Tree × List PStep × Edit × Unit):=(.cons (aEl .tree) (.cons (aSl .step) (.cons (aEl .edit) .nil)))
def Z6k(a:Tree × List PStep × Edit × Unit):Prop:=(Zj a.1≤1000000000)∧(a.2.1).length≤70
def ZeK(a:Tree × List PStep × Edit × Unit):Nat:=(a.2.1).length
def Z3R(a:Tree × List PStep × Edit × Unit):V U:= .tup [(true,(enc .edit ((Zp ZU a.2.2.1 a.2.1 a.1).1))),(false,[.bool ((Zp ZU a.2.2.1 a.2.1 a.1).2)])]
def Z9M:Fs U:=fs Zh2 (fun a=> [Z6k a]) Z3R
def ZnH:ArgL (List Op × Int × Unit):=(.cons (aSl .op) (.cons (Yt .i64) .nil))
def ZhU(a:List Op × Int × Unit):Prop:=Zx3 a.1∧0≤a.2.1
def Zeb(a:List Op × Int × Unit):V U:= .tup [(true,(enc .op ((YL a.1 a.2.1 0 0).1))),(false,[ci ((YL a.1 a.2.1 0 0).2.1)]),(false,[.bool ((YL a.1 a.2.1 0 0).2.2)])]
def Z9F:Fs U:=fs ZnH (fun a=> [ZhU a]) Zeb
def ZgZ:ArgM (Kid × (Int × Int × Unit) × Unit):=(.cons (aEl .kid) (.obj 0 (.cons (ZgU .i64) (.cons (ZgU .i64) .nil)) .nil))
def Zme(a:Kid × (Int × Int × Unit) × Unit):Prop:=True
def ZlE(a:Kid × (Int × Int × Unit) × Unit):V U:= .c (.bool (decide (KidOf.at_ a.1=a.2.1.2.1)))
def ZlC(a:Kid × (Int × Int × Unit) × Unit):List (List (C U)):=[[ci a.2.1.1,ci a.2.1.2.1]]
def Z9G:Fs U:=fsX ZgZ (fun a=> [Zme a]) ZlE ZlC
def Zh0:ArgM (List Kid × (Int × Int × Unit) × Unit):=(.cons (aSl .kid) (.clo 73 0 (.cons (ZgU .i64) (.cons (ZgU .i64) .nil)) .nil))
def Zem(a:List Kid × (Int × Int × Unit) × Unit):Prop:=(a.1).length≤1000000000000
def ZhJ(a:List Kid × (Int × Int × Unit) × Unit):V U:= .c (ci (Z0z a.1 a.2.1.2.1 0))
def ZcJ(a:List Kid × (Int × Int × Unit) × Unit):List (List (C U)):=[[ci a.2.1.1,ci a.2.1.2.1]]
def Z9H:Fs U:=fsX Zh0 (fun a=> [Zem a]) ZhJ ZcJ
def ZmW:List (FuncId × Fs U):=[]
def ZsU:Zi U:=lvl [([0],[]),([0,4],[]),([2],[]),([2],[])]
abbrev A93(p:List Nat):=AW (Z0 ZmW) Try.f93 ZsU p
theorem Zwi(n:Int)(Q:QT)(h:(((n==0)=true→(Q .ret (L2 [(2,.c (.nils))] [])))∧((n==0)=false→(Q .ret (L2 [(2,.c (sU .op ([(OpOf.mk 0 n [] (Edit.mk 0 (Tree.mk 0 [] []) (Tree.mk 0 [] []) [] [] 0 []))]) .full))] []))))):
  A93 [] (L2 [(0,.c (ci n))] []) Q:=
 Eq.mpr (by kernel_rfl) h
def Zu2(n:Int):Prop:=AW (Z0 ZmW) Try.f93 ZsU [] (Zm (ZnA.can (n,())) []) (EQ Try.f93 (ZhG (n,())) [])
theorem Zsh(hb:∀ (n:Int) (_:Unit),ZbR (n,())→Zu2 n):CT 93 Z9z:=
 Z3 (l:=[]) Zk rfl trivial ZsU Try.func93 rfl rfl 1 (fun _=> rfl) (by decide) (fun ⟨n,_⟩=> hb n ())
def Zn3(N:Nat):List (FuncId × Fs U):=(56,fs Zh2 (fun a=> [Z6k a,ZeK a < N]) Z3R) ::[(91,Z0D),(92,Z04),(93,Z9z)]
def Zt2:Zi U:=lvl [([1,3,5,6],[3,5,6]),([1,3,5,6,16],[3,5,6]),([6,7],[6]),([1,3,5,6,8],[3,5,6,8]),([1,3,5,6,8,31],[3,5,6,8]),([6,7],[6]),([1,3,5,6,8,33],[3,5,6,8]),([6,8,9,10],[6,8,9]),([6,8,9,10,59],[6,8,9]),([6,7],[6]),([6,7],[6]),([1,3,5,6,8,68],[3,5,6,8]),([3,6,8,11,12],[3,6,8,11]),([3,6,8,11,12,99],[3,6,8,11]),([6,7],[6]),([3,6,8,13],[3,6,8]),([6,7],[6]),([6,7],[6])]
abbrev A56(N:Nat)(p:List Nat):=AW (Z0 (Zn3 N)) Try.f56 Zt2 p
theorem ZwI(N:Nat)(t:Tree)(l:List PStep)(e:Edit)(Q:QT)(h:∀ y_1,y_1=e→∀ y_2,y_2=t→∀ y_3,y_3=(List.getD l (Int.toNat 0) (PStep.mk 0 0))→∀ y_4,y_4=(YI y_2 (PStep.at_ y_3))→∀ y_5,y_5=(List.getD t.kids (Int.toNat (PStep.at_ y_3)) Tree.nil)→∀ y_6,y_6=y_5→∀ y_7,y_7=((Zp ZU y_1 (List.drop (Int.toNat 1) l) y_4).1)→∀ y_8,y_8=((Zp ZU y_1 (List.drop (Int.toNat 1) l) y_6).1)→let z13:=((l.length:Int):Int)==0;let z12:=YE (PStep.at_ y_3);let z8:=YE (((((t.kids.length:Int):Int) - (PStep.at_ y_3)):Int) - 1);let z7:=Q .ret (L2 [(6,.ptr (.loc 6) 0),(7,.c (.bool false))] [(.loc 6,zc1)]);let z6:=bif (t.kind==1) then (decide (((PStep.at_ y_3):Int) < 65535)) else false;let z4:=((PStep.kind y_3):Int) !=0;let z11:=bif z4 then true else (decide (((PStep.at_ y_3):Int) < 0));let z1:=decide (2≤t.kind∧t.kind≤9);let z5:=bif z1 then (decide (((PStep.at_ y_3):Int) < (t.kids.length:Int))) else false;let z0:=List.drop (Int.toNat 1) l;let z3:=Zp ZU y_1 z0 y_6;let z10:=bif (!(z3.2)) then true else (((Edit.kind (z3.1)):Int)==0);let z2:=Zp ZU y_1 z0 y_4;let z9:=bif (!(z2.2)) then true else (((Edit.kind (z2.1)):Int)==0);((z13=true→(Q .ret (L2 [(6,.ptr (.loc 6) 0),(7,.c (.bool (t.kind !=10)))] [(.loc 6,(enc .edit e))])))∧(z13=false→((0:Int)≤0∧0 < (l.length:Int))∧((Tr ((!z4)=true))∧(Tr ((!z4)=true))∧(z4=false→(!z4)=true)∧((z11=true→z7)∧(z11=false→(Tr ((t.kind==1)=true))∧(Tr ((t.kind==1)=true))∧(Tr ((t.kind==1)=true))∧((z6=true→(Z8t (y_2,(PStep.at_ y_3),()))∧((0:Int)≤1∧1≤(l.length:Int))∧(Z6k (y_4,z0,y_1,()))∧(ZeK (y_4,z0,y_1,()) < N)∧((Tr ((!(!(z2.2)))=true))∧(Tr ((!(!(z2.2)))=true))∧((!(z2.2))=false→(!(!(z2.2)))=true)∧((z9=true→(Q .ret (L2 [(6,.ptr (.loc 6) 0),(7,.c (.bool (z2.2)))] [(.loc 6,zc1)])))∧(z9=false→(Q .ret (L2 [(6,.ptr (.loc 6) 0),(7,.c (.bool true))] [(.loc 6,[ci 2,ci 0,.nils,.nils,ci 0,.nils,.nils,.nils,sU .kid ([(KidOf.mk (PStep.at_ y_3) y_7)]) .full,ci 0,.nils])]))))))∧(z6=false→(Z8s (t.kind,()))∧(Tr (z1=true))∧(Tr (z1=true))∧(Tr (z1=true))∧(Tr (z1=true))∧(Tr (z1=true))∧(Tr (z1=true))∧((z5=true→((0:Int)≤(PStep.at_ y_3)∧(PStep.at_ y_3) < (t.kids.length:Int))∧((0:Int)≤1∧1≤(l.length:Int))∧(Z6k (y_6,z0,y_1,()))∧(ZeK (y_6,z0,y_1,()) < N)∧((Tr ((!(!(z3.2)))=true))∧(Tr ((!(!(z3.2)))=true))∧((!(z3.2))=false→(!(!(z3.2)))=true)∧((z10=true→(Q .ret (L2 [(6,.ptr (.loc 6) 0),(7,.c (.bool (z3.2)))] [(.loc 6,zc1)])))∧(z10=false→(ZbR ((PStep.at_ y_3),()))∧((z12.length+([(OpOf.mk 3 0 [] y_8)]).length)*240≤140737488355328)∧((InR (((t.kids.length:Int):Int) - (PStep.at_ y_3)))∧(InR (((((t.kids.length:Int):Int) - (PStep.at_ y_3)):Int) - 1))∧(ZbR ((((((t.kids.length:Int):Int) - (PStep.at_ y_3)):Int) - 1),()))∧(((z12++([(OpOf.mk 3 0 [] y_8)])).length+z8.length)*240≤140737488355328)∧(Q .ret (L2 [(6,.ptr (.loc 6) 0),(7,.c (.bool true))] [(.loc 6,[ci 3,ci 0,.nils,.nils,ci 0,.nils,.nils,.nils,.nils,ci t.kind,sU .op ((z12++([(OpOf.mk 3 0 [] y_8)]))++z8) (.own (.l 6 10))])])))))))∧(z5=false→z7)))))))))):
  A56 N [] (L2 [(0,.agg (enc .tree t)),(1,.c (sU .step l .unk)),(2,.agg (enc .edit e))] []) Q:=
 Eq.mpr (by kernel_rfl) (h _ (Ze _) _ (Zc _) _ rfl _ (Zc _) _ rfl _ (Zc _) _ (Ze _) _ (Ze _))
def Zus(N:Nat)(t:Tree)(l:List PStep)(e:Edit):Prop:=AW (Z0 (Zn3 N)) Try.f56 Zt2 [] (Zm (Zh2.can (t,l,e,())) []) (EQ Try.f56 (Z3R (t,l,e,())) [])
theorem ZsC(c91:CT 91 Z0D)(c92:CT 92 Z04)(c93:CT 93 Z9z)(hb:∀ (N:Nat) (t:Tree) (l:List PStep) (e:Edit) (_:Unit),Z6k (t,l,e,())→ZeK (t,l,e,()) < N+1→Zus N t l e):CT 56 Z9M:=
 ZS (μ:=ZeK) (l:=[(91,Z0D),(92,Z04),(93,Z9z)]) Zk rfl (⟨c91,c92,c93,trivial⟩) Zt2 Try.func56 rfl rfl 3 (fun _=> rfl) (by decide) (fun N ⟨t,l,e,_⟩=> hb N t l e ())
def Zgw:List (FuncId × Fs U):=[]
def ZpR:Zi U:=lvl [([0,1,4],[4]),([0,1,4,7,8],[4]),([1,4,7,8,12,13,14],[4]),([1,4,7,8,12,13,14,15],[4]),([1,4,7,8,10,12,13,14],[4,10]),([1,4,7,8,10,11,12,13,14],[4,10]),([1,4,7,8,10,11,12,13,14,26],[4,10]),([1,4,7,8,10,11,12,13,14],[4,10]),([1,4,7,8,10,11,12,13,14,29],[4,10]),([1,4,7,8,12,13,14],[4]),([1,4,7,8,10,11,12,13,14,37],[4,10]),([4,5,6],[4]),([1,4,7,8,10,11,12,13,14],[4,10]),([1,4,7,8,11,12,13,14,52],[4]),([1,4,7,8,12,13,14],[4]),([1,4,7,8,12,13,14],[4]),([4,5,6],[4])]
def JU(l:List Op)(at_ x8 x14 x7:Int):LSt U:=(L2 [(1,.c (ci at_)),(4,.ptr (.loc 4) 0),(7,.c (ci x7)),(8,.c (ci x8)),(12,.c (sU .op l .unk)),(13,.c (ci (l.length:Int))),(14,.c (ci x14))] [(.loc 4,zc2)])
abbrev A74(p:List Nat):=AW (Z0 Zgw) Try.f74 ZpR p
abbrev S74(p:List Nat):=SW (Z0 Zgw) Try.f74 ZpR p
theorem Zwt(l:List Op)(at_:Int)(Q:QT)(h:(Zh (A74 [1,1,0,1,0,0]) (JU l at_ 0 0 0) (xB 0 (S74 [1,1,1] Q)))):
  A74 [] (L2 [(0,.c (sU .op l .unk)),(1,.c (ci at_))] []) Q:=
 Eq.mpr (by kernel_rfl) h
theorem Zos(l:List Op)(at_ x8 x14 x7:Int)(N0:NT)(Q:QT)(h:∀ y_1,y_1=(l.getD x14.toNat Op.nil)→let z5:=InR (((x8+at_):Int) - x7);let z4:=decide (x14 < (l.length:Int));let z3:=InR (x7+(y_1.n+(y_1.l.length:Int)));let z2:=InR (x8+(y_1.n+(y_1.l.length:Int)));let z1:=decide (at_ < (x7+(y_1.n+(y_1.l.length:Int))));let z0:=Q .ret (L2 [(4,.ptr (.loc 4) 0),(5,.c (ci (((x8+at_):Int) - x7))),(6,.c (.bool (y_1.kind !=1)))] [(.loc 4,(enc .op y_1))]);((z4=true→((0:Int)≤x14∧x14 < (l.length:Int))∧((InR (y_1.n+(y_1.l.length:Int)))∧(((y_1.kind==3)=true→(((y_1.kind==2)=true→(InR (x8+1))∧((InR (x14+1))∧(N0 (JU l at_ (x8+1) (x14+1) x7))))∧((y_1.kind==2)=false→(InR (x7+1))∧(((decide (at_ < (x7+1)))=true→(InR (x8+at_))∧z5∧z0)∧((decide (at_ < (x7+1)))=false→(InR (x7+1))∧(((y_1.kind !=1)=true→(InR (x8+1))∧((InR (x14+1))∧(N0 (JU l at_ (x8+1) (x14+1) (x7+1)))))∧((y_1.kind !=1)=false→(InR (x14+1))∧(N0 (JU l at_ x8 (x14+1) (x7+1))))))))))∧((y_1.kind==3)=false→(((y_1.kind==2)=true→z2∧((InR (x14+1))∧(N0 (JU l at_ (x8+(y_1.n+(y_1.l.length:Int))) (x14+1) x7))))∧((y_1.kind==2)=false→z3∧((z1=true→(InR (x8+at_))∧z5∧z0)∧(z1=false→z3∧(((y_1.kind !=1)=true→z2∧((InR (x14+1))∧(N0 (JU l at_ (x8+(y_1.n+(y_1.l.length:Int))) (x14+1) (x7+(y_1.n+(y_1.l.length:Int)))))))∧((y_1.kind !=1)=false→(InR (x14+1))∧(N0 (JU l at_ x8 (x14+1) (x7+(y_1.n+(y_1.l.length:Int)))))))))))))))∧(z4=false→(Q .ret (L2 [(4,.ptr (.loc 4) 0),(5,.c (ci 0)),(6,.c (.bool false))] [(.loc 4,zc2)]))))):
  A74 [1,1,0,1,0,0] (JU l at_ x8 x14 x7) (xT N0 (xB 0 (S74 [1,1,1] Q))):=
 Eq.mpr (by kernel_rfl) (h _ rfl)
def Zud(l:List Op)(at_:Int):Prop:=AW (Z0 Zgw) Try.f74 ZpR [] (Zm (ZnH.can (l,at_,())) []) (EQ Try.f74 (Zeb (l,at_,())) [])
theorem Zsq(hb:∀ (l:List Op) (at_:Int) (_:Unit),ZhU (l,at_,())→Zud l at_):CT 74 Z9F:=
 Z3 (l:=[]) Zk rfl trivial ZpR Try.func74 rfl rfl 2 (fun _=> rfl) (by decide) (fun ⟨l,at_,_⟩=> hb l at_ ())
def ZmY:List (FuncId × Fs U):=[]
def ZsX:Zi U:=fun i=> match i with
 | 0=> ([(1,[]),(2,[])],[(.loc 2,[]),(.x 0,[])])
 | 1=> ([(3,[])],[(.x 0,[])])
 | _=> ([],[])
abbrev A73(p:List Nat):=AW (Z0 ZmY) Try.f73 ZsX p
theorem Zwu(k:Kid)(kind at_:Int)(Q:QT)(h:(Q .ret (L2 [(3,.c (.bool (k.at_==at_)))] [(.x 0,[ci kind,ci at_])]))):
  A73 [] (L2 [(0,.agg (enc .kid k)),(1,.ptr (.x 0) 0)] [(.x 0,[ci kind,ci at_])]) Q:=
 Eq.mpr (by kernel_rfl) h
def Zue(k:Kid)(kind at_:Int):Prop:=AW (Z0 ZmY) Try.f73 ZsX [] (Zm (ZgZ.can (k,(kind,at_,()),())) (ZgZ.canX (k,(kind,at_,()),()))) (EQ Try.f73 (ZlE (k,(kind,at_,()),())) (ZlC (k,(kind,at_,()),())))
theorem Zsr(hb:∀ (k:Kid) (kind:Int) (at_:Int) (_:Unit),Zme (k,(kind,at_,()),())→Zue k kind at_):CT 73 Z9G:=
 J9 (l:=[]) Zk rfl trivial ZsX Try.func73 rfl rfl 2 (fun _=> rfl) (by decide) (fun ⟨k,⟨kind,at_,_⟩,_⟩=> hb k kind at_ ())
def Zgx:List (FuncId × Fs U):=[(73,Z9G)]
def ZpS:Zi U:=fun i=> match i with
 | 0=> ([(0,[]),(1,[])],[(.x 0,[])])
 | 1=> ([(0,[]),(1,[]),(7,[]),(8,[])],[(.x 0,[])])
 | 2=> ([(0,[]),(1,[]),(7,[]),(8,[]),(9,[])],[(.x 0,[])])
 | 3=> ([(0,[]),(1,[]),(5,[]),(7,[]),(8,[])],[(.x 0,[])])
 | 4=> ([(0,[]),(1,[]),(5,[]),(7,[]),(8,[]),(16,[])],[(.x 0,[])])
 | 5=> ([(4,[])],[(.x 0,[])])
 | 6=> ([(0,[]),(1,[]),(7,[]),(8,[])],[(.x 0,[])])
 | 7=> ([(4,[])],[(.x 0,[])])
 | _=> ([],[])
def Z6Q(l:List Kid)(kind at_ x8:Int):LSt U:=(L2 [(0,.c (sU .kid l .unk)),(1,.clo 73 [(.x 0)]),(7,.c (ci (l.length:Int))),(8,.c (ci x8))] [(.x 0,[ci kind,ci at_])])
abbrev A72(p:List Nat):=AW (Z0 Zgx) Try.f72 ZpS p
abbrev S72(p:List Nat):=SW (Z0 Zgx) Try.f72 ZpS p
theorem Zwv(l:List Kid)(kind at_:Int)(Q:QT)(h:(Zh (A72 [1,0,1,0,0]) (Z6Q l kind at_ 0) (xB 0 (S72 [1,1] Q)))):
  A72 [] (L2 [(0,.c (sU .kid l .unk)),(1,.clo 73 [(.x 0)])] [(.x 0,[ci kind,ci at_])]) Q:=
 Eq.mpr (by kernel_rfl) h
theorem Zot(l:List Kid)(kind at_ x8:Int)(N0:NT)(Q:QT)(h:∀ y_1,y_1=(l.getD x8.toNat (KidOf.mk 0 Edit.nil))→∀ y_2,y_2=y_1→let z1:=decide (KidOf.at_ y_2=at_);let z0:=decide (x8 < (l.length:Int));((z0=true→(((0:Int)≤x8∧x8 < (l.length:Int))∧(Zme (y_2,(kind,at_,()),()))∧((z1=true→(Q .ret (L2 [(4,.c (ci x8))] [(.x 0,[ci kind,ci at_])])))∧(z1=false→(InR (x8+1))∧(N0 (Z6Q l kind at_ (x8+1)))))))∧(z0=false→(Q .ret (L2 [(4,.c (ci (-1)))] [(.x 0,[ci kind,ci at_])]))))):
  A72 [1,0,1,0,0] (Z6Q l kind at_ x8) (xT N0 (xB 0 (S72 [1,1] Q))):=
 Eq.mpr (by kernel_rfl) (h _ rfl _ (Zm4 _))
def Zuf(l:List Kid)(kind at_:Int):Prop:=AW (Z0 Zgx) Try.f72 ZpS [] (Zm (Zh0.can (l,(kind,at_,()),())) (Zh0.canX (l,(kind,at_,()),()))) (EQ Try.f72 (ZhJ (l,(kind,at_,()),())) (ZcJ (l,(kind,at_,()),())))
theorem Zss(c73:CT 73 Z9G)(hb:∀ (l:List Kid) (kind:Int) (at_:Int) (_:Unit),Zem (l,(kind,at_,()),())→Zuf l kind at_):CT 72 Z9H:=
 J9 (l:=[(73,Z9G)]) Zk rfl (⟨c73,trivial⟩) ZpS Try.func72 rfl rfl 2 (fun _=> rfl) (by decide) (fun ⟨l,⟨kind,at_,_⟩,_⟩=> hb l kind at_ ())
end
end Go.AM.Ytpjenobkibfpcaa
