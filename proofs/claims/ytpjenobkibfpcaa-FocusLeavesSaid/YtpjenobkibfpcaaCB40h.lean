import Derived.Test.YtpjenobkibfpcaaCG40a
import Derived.Test.YtpjenobkibfpcaaKL22m
import Derived.Test.YtpjenobkibfpcaaCD25s
import Derived.Test.YtpjenobkibfpcaaKD24
import Derived.Test.YtpjenobkibfpcaaKB21b
set_option linter.unusedSimpArgs false
set_option linter.unusedVariables false
namespace Go.AM.Ytpjenobkibfpcaa
open Go.AM Go.Proofs
theorem c93:Contract Try.prog cfg 93 Z9z:=by
 refine Zsh ?_
 intro n _ _
 refine Zwi _ _ ?_
 (simp only [vcT,vcS])
 refine ⟨fun h=> ?_,fun h=> ?_⟩
 ·simp only [ZhG,YE,if_pos h]
  (repeat' (first | exact trivial | exact rfl | apply And.intro))
 ·simp only [ZhG,YE,if_neg h]
  (repeat' (first | exact trivial | exact rfl | apply And.intro))
theorem c73:Contract Try.prog cfg 73 Z9G:=by
 refine Zsr ?_
 intro k kd at_ _ _
 refine Zwu _ _ _ _ ?_
 refine Zqk (r':= .c (.bool (k.at_==at_))) ?_ (by (repeat' (first | exact trivial | exact rfl | apply And.intro)))
 simp only [ZlE]
 congr 2
theorem c72:Contract Try.prog cfg 72 Z9H:=by
 refine Zss c73 ?_
 intro l kind at_ _ hp
 simp only [Zem] at hp
 refine Zwv _ _ _ _ ?_
 refine Za (ι:=Int) (fun i=> Z6Q l kind at_ i) (fun i=> 0≤i∧i≤l.length∧Z0z (l.drop i.toNat) at_ i=Z0z l at_ 0) (fun i=> ((l.length:Int) - i).toNat) 0 rfl ⟨by omega,by omega,rfl⟩ ?_
 rintro i ⟨h1,h2,h3⟩
 refine Zot _ _ _ _ _ _ ?_
 rintro y1 hy1 y2 rfl
 (simp only [vcT,vcS])
 refine ⟨fun hi=> ⟨⟨h1,hi⟩,trivial,fun he=> ?_,fun he=> ⟨by unfold InR;omega,i+1,rfl,⟨by omega,by omega,?_⟩,by omega⟩⟩,fun hi=> ?_⟩
 ·rw [ZR h1 hi ⟨0,Edit.nil⟩,←hy1,Z0z,if_pos he] at h3
  simp only [ZhJ,ZcJ,←h3]
  (repeat' (first | exact trivial | exact rfl | apply And.intro))
 ·rw [ZR h1 hi ⟨0,Edit.nil⟩,←hy1,Z0z,if_neg he] at h3
  exact h3
 ·rw [List.drop_of_length_le (by omega),Z0z] at h3
  simp only [ZhJ,ZcJ,←h3]
  (repeat' (first | exact trivial | exact rfl | apply And.intro))
theorem c74:Contract Try.prog cfg 74 Z9F:=by
 refine Zsq ?_
 intro l at_ _ hp
 simp only [ZhU] at hp
 obtain ⟨⟨ho,hm⟩,ha⟩:=hp
 have hl:=Y3 l
 refine Zwt _ _ _ ?_
 refine Za (ι:=Int × Int × Int) (fun s=> JU l at_ s.1 s.2.1 s.2.2) (fun s=> (0≤s.2.1∧s.2.1≤l.length)∧(0≤s.1∧0≤s.2.2∧s.2.2+Zd (l.drop s.2.1.toNat)≤1048576*s.2.1+Zd l∧s.1+Zd (l.drop s.2.1.toNat)≤1048576*s.2.1+Zd l)∧YL (l.drop s.2.1.toNat) at_ s.2.2 s.1=YL l at_ 0 0) (fun s=> ((l.length:Int) - s.2.1).toNat) (0,0,0) rfl ⟨⟨by dsimp only;omega,by dsimp only;omega⟩,⟨by dsimp only;omega,by dsimp only;omega,by simp,by simp⟩,rfl⟩ ?_
 rintro ⟨to,i,from_⟩ ⟨⟨h1,h2⟩,⟨h3,h4,h5,h6⟩,h7⟩
 dsimp only at h1 h2 h3 h4 h5 h6 h7
 refine Zos _ _ _ _ _ _ _ ?_
 rintro y hy
 dsimp only at hy
 (simp only [vcT,vcS])
 refine ⟨fun hi=> ?_,fun hi=> ?_⟩
 ·have hmem:y∈l:=by rw [hy];exact Zl (by omega) _
  have hok:=ho y hmem
  have hn:=Zs9 hok
  have e:=ZR h1 hi Op.nil
  rw [←hy] at e
  have hm0:Zd (l.drop i.toNat)=ZX y+Zd (l.drop (i+1).toNat):=by rw [e];try rfl
  have hyl:y.l.length≤ZX y:=by have:=Zs y.l;have:=Yg y;omega
  have hy1:1≤ZX y:=by have:=Z1b y.e;have:=Yg y;omega
  rw [e,YL] at h7
  refine ⟨⟨h1,hi⟩,by unfold InR;omega,fun h3k=> ?_,fun h3k=> ?_⟩
  ·have ol:Zr y=1:=by unfold Zr;rw [if_pos h3k]
   rw [if_neg (by omega),ol] at h7
   refine ⟨fun h=> by omega,fun h2k=> ⟨by unfold InR;omega,fun hc=> ?_,fun hc=> ?_⟩⟩
   ·rw [if_pos hc] at h7
    refine ⟨by unfold InR;omega,by unfold InR;omega,?_⟩
    simp only [Zeb,←h7]
    (repeat' (first | exact trivial | exact rfl | apply And.intro))
   ·rw [if_neg hc,if_neg (by omega)] at h7
    exact ⟨by unfold InR;omega,fun hk=> ⟨by unfold InR;omega,by unfold InR;omega,(to+1,i+1,from_+1),rfl,⟨⟨by dsimp only;omega,by dsimp only;omega⟩,⟨by dsimp only;omega,by dsimp only;omega,by dsimp only;omega,by dsimp only;omega⟩,h7⟩,by dsimp only;omega⟩,fun hk=> by omega⟩
  ·have ol:Zr y=y.n+y.l.length:=by unfold Zr;rw [if_neg h3k]
   rw [ol] at h7
   refine ⟨fun h=> ?_,fun h2k=> ⟨by unfold InR;omega,fun hc=> ?_,fun hc=> ?_⟩⟩
   ·rw [if_pos h] at h7
    exact ⟨by unfold InR;omega,by unfold InR;omega,(to+(y.n+y.l.length),i+1,from_),rfl,⟨⟨by dsimp only;omega,by dsimp only;omega⟩,⟨by dsimp only;omega,by dsimp only;omega,by dsimp only;omega,by dsimp only;omega⟩,h7⟩,by dsimp only;omega⟩
   ·rw [if_neg h2k,if_pos hc] at h7
    refine ⟨by unfold InR;omega,by unfold InR;omega,?_⟩
    simp only [Zeb,←h7]
    (repeat' (first | exact trivial | exact rfl | apply And.intro))
   ·rw [if_neg h2k,if_neg hc] at h7
    refine ⟨by unfold InR;omega,fun hk=> ?_,fun hk=> ?_⟩
    ·rw [if_neg hk] at h7
     exact ⟨by unfold InR;omega,by unfold InR;omega,(to+(y.n+y.l.length),i+1,from_+(y.n+y.l.length)),rfl,⟨⟨by dsimp only;omega,by dsimp only;omega⟩,⟨by dsimp only;omega,by dsimp only;omega,by dsimp only;omega,by dsimp only;omega⟩,h7⟩,by dsimp only;omega⟩
    ·rw [if_pos hk] at h7
     exact ⟨by unfold InR;omega,(to,i+1,from_+(y.n+y.l.length)),rfl,⟨⟨by dsimp only;omega,by dsimp only;omega⟩,⟨by dsimp only;omega,by dsimp only;omega,by dsimp only;omega,by dsimp only;omega⟩,h7⟩,by dsimp only;omega⟩
 ·rw [List.drop_of_length_le (by omega),YL] at h7
  simp only [Zeb,←h7]
  (repeat' (first | exact trivial | exact rfl | apply And.intro))
end Go.AM.Ytpjenobkibfpcaa
namespace Go.AM.Ytpjenobkibfpcaa
open Go.AM Go.Proofs
theorem YK(out:List Op):Z1 ⟨out,[],[]⟩=⟨out,[],[]⟩:=by simp [Z1,YD]
end Go.AM.Ytpjenobkibfpcaa
namespace Go.AM.Ytpjenobkibfpcaa
open Go.AM Go.Proofs
theorem Zkj(t:Tree){i:Int}(h:0≤i):YI t i=t.kids.getD i.toNat Tree.nil:=by unfold YI;rw [if_neg (by omega)]
theorem Z2w(t:Tree)(i:Nat):Zj (t.kids.getD i Tree.nil)≤Zj t:=by
 by_cases hi:i < t.kids.length
 ·have:=YG (Zl hi Tree.nil);have:=Z7W t;omega
 ·rw [List.getD_eq_getElem?_getD,List.getElem?_eq_none (by omega)]
  have:=Z0w t
  simp [Tree.nil,Zj,Zb];omega
theorem Z3x{f:Int→Int→Edit→List Op}{e:Edit}{s:PStep}{l:List PStep}{t:Tree}(h:¬Z0A s t):Zp f e (s ::l) t=(Edit.nil,false):=by rw [Zp,if_neg h]
theorem Z1k{f:Int→Int→Edit→List Op}{e:Edit}{s:PStep}{l:List PStep}{t:Tree}(h:Z0A s t)(h2:(Zp f e l (t.kids.getD s.at_.toNat Tree.nil)).2=false∨(Zp f e l (t.kids.getD s.at_.toNat Tree.nil)).1.kind=0):
  Zp f e (s ::l) t=(Edit.nil,(Zp f e l (t.kids.getD s.at_.toNat Tree.nil)).2):=by rw [Zp,if_pos h,if_pos h2]
theorem Z4s{f:Int→Int→Edit→List Op}{e:Edit}{s:PStep}{l:List PStep}{t:Tree}(h:Z0A s t)(h2:¬((Zp f e l (t.kids.getD s.at_.toNat Tree.nil)).2=false∨(Zp f e l (t.kids.getD s.at_.toNat Tree.nil)).1.kind=0))(h3:t.kind=1):
  Zp f e (s ::l) t=(.mk 2 Tree.nil Tree.nil [] [⟨s.at_,(Zp f e l (t.kids.getD s.at_.toNat Tree.nil)).1⟩] 0 [],true):=by rw [Zp,if_pos h,if_neg h2,if_pos h3]
theorem Z4t{f:Int→Int→Edit→List Op}{e:Edit}{s:PStep}{l:List PStep}{t:Tree}(h:Z0A s t)(h2:¬((Zp f e l (t.kids.getD s.at_.toNat Tree.nil)).2=false∨(Zp f e l (t.kids.getD s.at_.toNat Tree.nil)).1.kind=0))(h3:¬t.kind=1):
  Zp f e (s ::l) t=(.mk 3 Tree.nil Tree.nil [] [] t.kind (f t.kids.length s.at_ (Zp f e l (t.kids.getD s.at_.toNat Tree.nil)).1),true):=by rw [Zp,if_pos h,if_neg h2,if_neg h3]
theorem Z4Q(n:Int):(YE n).length≤1:=by unfold YE;split <;> simp
theorem c56:Contract Try.prog cfg 56 Z9M:=by
 refine ZsC c91 c92 c93 ?_
 intro N t l e _ hp hN
 simp only [Z6k,ZeK] at hp hN
 have hkl:=Z7W t
 have hkk:=Zs t.kids
 refine ZwI _ _ _ _ _ ?_
 rintro y1 rfl y2 rfl y3 hy3 y4 hy4 y5 hy5 y6 rfl y7 hy7 y8 hy8
 cases l with
 | nil=>
  (simp only [vcT,vcS])
  refine ⟨fun _=> ?_,fun h=> absurd rfl h⟩
  simp only [Z3R,Zp]
  (repeat' (first | exact trivial | exact rfl | apply And.intro))
 | cons s l=>
  have hs:y3=s:=hy3
  subst hs
  have e1:List.drop (Int.toNat 1) (y3 ::l)=l:=rfl
  rw [e1] at hy7 hy8
  rw [e1]
  (simp only [vcT,vcS])
  try simp only [vcU]
  simp only [List.length_cons] at hp hN
  refine ⟨fun h=> by simp only [List.length_cons] at h;omega,fun _=> ⟨⟨by omega,by simp only [List.length_cons];omega⟩,fun hb=> ?_,fun hb=> ⟨fun h1=> ?_,fun h1=> ?_⟩⟩⟩
  ·rw [show Z3R (y2,y3 ::l,y1,())=_ from rfl]
   simp only [Z3R,Z3x (show ¬Z0A y3 y2 from fun h=> by unfold Z0A at h;omega)]
   (repeat' (first | exact trivial | exact rfl | apply And.intro))
  ·have hf:Z0A y3 y2:=⟨hb.1,by omega,.inl h1⟩
   have hk:y4=y2.kids.getD y3.at_.toNat Tree.nil:=by rw [hy4,Zkj y2 (by omega)]
   have hm:=Z2w y2 y3.at_.toNat
   rw [←hk] at hm
   refine ⟨by simp only [Z8t],⟨by omega,by simp only [List.length_cons];omega⟩,by simp only [Z6k];omega,by simp only [ZeK];omega,fun h2=> ?_,fun h2=> ?_⟩
   ·rw [hk] at h2 ⊢
    simp only [Z3R,Z1k hf h2]
    (repeat' (first | exact trivial | exact rfl | apply And.intro))
   ·have h2':¬((Zp ZU y1 l y4).2=false∨(Zp ZU y1 l y4).1.kind=0):=by rw [h2.1];rintro (h | h);cases h;exact h2.2 h
    rw [hk] at h2'
    rw [hy7,hk]
    simp only [Z3R,Z4s hf h2' h1.1]
    (repeat' (first | exact trivial | exact rfl | apply And.intro))
  ·refine ⟨by simp only [Z8s],fun h2=> ?_,fun h2=> ?_⟩
   ·have hf:Z0A y3 y2:=⟨hb.1,by omega,.inr h2⟩
    have hm:=Z2w y2 y3.at_.toNat
    rw [←hy5] at hm
    have h3:¬y2.kind=1:=by omega
    refine ⟨⟨by omega,h2.2⟩,⟨by omega,by simp only [List.length_cons];omega⟩,by simp only [Z6k];omega,by simp only [ZeK];omega,fun h4=> ?_,fun h4=> ?_⟩
    ·rw [hy5] at h4 ⊢
     simp only [Z3R,Z1k hf h4]
     (repeat' (first | exact trivial | exact rfl | apply And.intro))
    ·have h2':¬((Zp ZU y1 l y6).2=false∨(Zp ZU y1 l y6).1.kind=0):=by rw [h4.1];rintro (h | h);cases h;exact h4.2 h
     have k1:=Z4Q y3.at_
     have k2:=Z4Q (y2.kids.length - y3.at_ - 1)
     refine ⟨by simp only [ZbR],by simp only [List.length_cons,List.length_nil];omega,by unfold InR;omega,by unfold InR;omega,by simp only [ZbR],by simp only [List.length_append,List.length_cons,List.length_nil];omega,?_⟩
     rw [hy5] at h2'
     rw [hy8,hy5]
     simp only [Z3R,Z4t hf h2' h3,ZU]
     (repeat' (first | exact trivial | exact rfl | apply And.intro))
   ·simp only [Z3R,Z3x (show ¬Z0A y3 y2 from fun h=> by unfold Z0A at h;omega)]
    (repeat' (first | exact trivial | exact rfl | apply And.intro))
end Go.AM.Ytpjenobkibfpcaa
namespace Go.AM.Ytpjenobkibfpcaa
open Go.AM Go.Proofs
noncomputable section
def ZnX:ArgL (Tree × List PStep × Edit × Unit):=(.cons (aEl .tree) (.cons (aSl .step) (.cons (aEl .edit) .nil)))
def Zer(a:Tree × List PStep × Edit × Unit):Prop:=((Zj a.1≤1000000000∧rng a.1)∧(Zg a.2.2.1≤1000000000∧Y1 a.2.2.1))∧(∀ s∈a.2.1,isI s.kind∧isI s.at_)∧(a.2.1).length≤70
def ZhO(a:Tree × List PStep × Edit × Unit):V U:= .tup [(true,(enc .edit ((Je ZU a.2.2.1 a.2.1 a.1).1))),(false,[.bool ((Je ZU a.2.2.1 a.2.1 a.1).2)])]
def Z3H:Fs U:=fs ZnX (fun a=> [Zer a]) ZhO
def ZnV:ArgL (Edit × List PStep × Unit):=(.cons (aEl .edit) (.cons (aSl .step) .nil))
def Zeq(a:Edit × List PStep × Unit):Prop:=(Zg a.1≤1000000000∧Y1 a.1∧∃ d,Z4 a.1 d=true)∧(a.2.1).length≤70
def Zee(a:Edit × List PStep × Unit):V U:= .tup [(true,(enc .edit ((Z2v a.1 a.2.1).1))),(false,[sU .step ((Z2v a.1 a.2.1).2.1) .unk]),(false,[.bool ((Z2v a.1 a.2.1).2.2)])]
def Z3F:Fs U:=fs ZnV (fun a=> [Zeq a]) Zee
def Zn8:List (FuncId × Fs U):=[(56,Z9M),(52,Z9P),(57,Z3E)]
def Zt7:Zi U:=lvl [([1,3,5,6],[3,5,6]),([6,8,9],[6,8]),([6,8,23],[6,8]),([6,7],[6]),([6,7],[6])]
abbrev A17(p:List Nat):=AW (Z0 Zn8) Try.f17 Zt7 p
theorem ZwY(t:Tree)(l:List PStep)(e:Edit)(Q:QT)(h:∀ y_1,y_1=e→∀ y_2,y_2=t→∀ y_3,y_3=((Zp ZU y_1 l y_2).1)→let z0:= !((Zp ZU y_1 l y_2).2);let z1:=bif z0 then true else (!(Z4 y_3 64));((Z6k (y_2,l,y_1,()))∧((Tr ((!z0)=true))∧((!z0)=true→ZhX (y_3,()))∧(Tr ((!z0)=true))∧(z0=false→(!z0)=true)∧((z1=true→(Q .ret (L2 [(6,.ptr (.loc 6) 0),(7,.c (.bool false))] [(.loc 6,zc1)])))∧(z1=false→(Z2q (y_3,()))∧(Q .ret (L2 [(6,.ptr (.loc 6) 0),(7,.c (.bool true))] [(.loc 6,(enc .edit (Zz y_3)))]))))))):
  A17 [] (L2 [(0,.agg (enc .tree t)),(1,.c (sU .step l .unk)),(2,.agg (enc .edit e))] []) Q:=
 Eq.mpr (by kernel_rfl) (h _ (Ze _) _ (Zc _) _ (Ze _))
def ZuI(t:Tree)(l:List PStep)(e:Edit):Prop:=AW (Z0 Zn8) Try.f17 Zt7 [] (Zm (ZnX.can (t,l,e,())) []) (EQ Try.f17 (ZhO (t,l,e,())) [])
theorem ZsQ(c56:CT 56 Z9M)(c52:CT 52 Z9P)(c57:CT 57 Z3E)(hb:∀ (t:Tree) (l:List PStep) (e:Edit) (_:Unit),Zer (t,l,e,())→ZuI t l e):CT 17 Z3H:=
 Z3 (l:=[(56,Z9M),(52,Z9P),(57,Z3E)]) Zk rfl (⟨c56,c52,c57,trivial⟩) Zt7 Try.func17 rfl rfl 3 (fun _=> rfl) (by decide) (fun ⟨t,l,e,_⟩=> hb t l e ())
def ZgL:List (FuncId × Fs U):=[(72,Z9H),(74,Z9F),(57,Z3E)]
def Zq6:Zi U:=fun i=> match i with
 | 0=> ([(1,[]),(2,[]),(4,[])],[(.loc 2,[]),(.loc 4,[])])
 | 1=> ([(1,[]),(2,[]),(4,[]),(7,[])],[(.loc 2,[]),(.loc 4,[])])
 | 2=> ([(2,[]),(4,[]),(7,[.own .step]),(14,[]),(15,[]),(16,[])],[(.loc 2,[.any,.any,.unk .u64,.unk .tree,.any,.unk .u64,.unk .tree,.unk .wedit,.unk .kid,.any,.unk .op]),(.loc 4,[])])
 | 3=> ([(2,[]),(4,[]),(7,[]),(14,[]),(15,[]),(16,[]),(17,[])],[(.loc 2,[]),(.loc 4,[])])
 | 4=> ([(2,[]),(4,[]),(7,[]),(9,[]),(14,[]),(15,[]),(16,[])],[(.loc 2,[]),(.loc 4,[]),(.loc 9,[])])
 | 5=> ([(2,[]),(4,[]),(7,[]),(9,[]),(14,[]),(15,[]),(16,[]),(20,[])],[(.loc 2,[]),(.loc 4,[]),(.loc 9,[])])
 | 6=> ([(4,[]),(5,[]),(6,[])],[(.loc 4,[])])
 | 7=> ([(2,[]),(4,[]),(7,[]),(9,[]),(14,[]),(15,[]),(16,[]),(35,[])],[(.loc 2,[]),(.loc 4,[]),(.loc 9,[])])
 | 8=> ([(2,[]),(4,[]),(7,[]),(9,[]),(10,[]),(14,[]),(15,[]),(16,[])],[(.loc 2,[]),(.loc 4,[]),(.loc 9,[])])
 | 9=> ([(2,[]),(4,[]),(7,[]),(9,[]),(10,[]),(14,[]),(15,[]),(16,[]),(44,[])],[(.loc 2,[]),(.loc 4,[]),(.loc 9,[])])
 | 10=> ([(2,[]),(4,[]),(7,[]),(9,[]),(14,[]),(15,[]),(16,[])],[(.loc 2,[]),(.loc 4,[]),(.loc 9,[])])
 | 11=> ([(2,[]),(4,[]),(7,[]),(9,[]),(14,[]),(15,[]),(16,[])],[(.loc 2,[]),(.loc 4,[]),(.loc 9,[])])
 | 12=> ([(2,[]),(4,[]),(7,[]),(9,[]),(14,[]),(15,[]),(16,[]),(52,[])],[(.loc 2,[]),(.loc 4,[]),(.loc 9,[])])
 | 13=> ([(2,[]),(4,[]),(7,[]),(9,[]),(11,[]),(12,[]),(13,[]),(14,[]),(15,[]),(16,[])],[(.loc 2,[]),(.loc 4,[]),(.loc 9,[]),(.loc 11,[])])
 | 14=> ([(2,[]),(4,[]),(7,[]),(9,[]),(11,[]),(12,[]),(14,[]),(15,[]),(16,[]),(66,[])],[(.loc 2,[]),(.loc 4,[]),(.loc 9,[]),(.loc 11,[])])
 | 15=> ([(4,[]),(5,[]),(6,[])],[(.loc 4,[])])
 | 16=> ([(2,[]),(4,[]),(7,[]),(9,[]),(14,[]),(15,[]),(16,[])],[(.loc 2,[]),(.loc 4,[]),(.loc 9,[])])
 | 17=> ([(2,[]),(4,[]),(7,[]),(14,[]),(15,[]),(16,[])],[(.loc 2,[]),(.loc 4,[])])
 | 18=> ([(2,[]),(4,[]),(7,[.own .step]),(14,[]),(15,[]),(16,[])],[(.loc 2,[.any,.any,.unk .u64,.unk .tree,.any,.unk .u64,.unk .tree,.unk .wedit,.unk .kid,.any,.unk .op]),(.loc 4,[])])
 | 19=> ([(4,[]),(5,[]),(6,[])],[(.loc 4,[])])
 | _=> ([],[])
def Z1I(e:Edit)(l:List PStep)(x16 ml2_0 ml2_1 ml2_4 ml2_9:Int)(ml2_2:List Int)(ml2_3:List Tree)(ml2_5:List Int)(ml2_6:List Tree)(ml2_7:List WEdit)(ml2_8:List Kid)(ml2_10:List Op)(x7:List PStep):LSt U:=(L2 [(2,.ptr (.loc 2) 0),(4,.ptr (.loc 4) 0),(7,.c (sU .step x7 (.own (.e 7 0)))),(14,.c (sU .step l .unk)),(15,.c (ci (l.length:Int))),(16,.c (ci x16))] [(.loc 2,[ci ml2_0,ci ml2_1,sU .u64 ml2_2 .unk,sU .tree ml2_3 .unk,ci ml2_4,sU .u64 ml2_5 .unk,sU .tree ml2_6 .unk,sU .wedit ml2_7 .unk,sU .kid ml2_8 .unk,ci ml2_9,sU .op ml2_10 .unk]),(.loc 4,zc1)])
abbrev A27(p:List Nat):=AW (Z0 ZgL) Try.f27 Zq6 p
abbrev S27(p:List Nat):=SW (Z0 ZgL) Try.f27 Zq6 p
theorem ZwU(e:Edit)(l:List PStep)(Q:QT)(h:(Zh (A27 [1,1,0,1,0,0]) (Z1I e l 0 e.kind e.old.kind e.new.kind e.list e.old.words e.old.kids e.new.words e.new.kids e.words e.kids e.ops []) (xB 0 (S27 [1,1,1] Q)))):
  A27 [] (L2 [(0,.agg (enc .edit e)),(1,.c (sU .step l .unk))] []) Q:=
 Eq.mpr (by kernel_rfl) h
theorem ZoQ(e:Edit)(l:List PStep)(x16 ml2_0 ml2_1 ml2_4 ml2_9:Int)(ml2_2:List Int)(ml2_3:List Tree)(ml2_5:List Int)(ml2_6:List Tree)(ml2_7:List WEdit)(ml2_8:List Kid)(ml2_10:List Op)(x7:List PStep)(N0:NT)(Q:QT)(h:∀ y_1,y_1=(l.getD x16.toNat (PStep.mk 0 0))→∀ y_2,y_2=(Edit.mk ml2_0 (Tree.mk ml2_1 ml2_2 ml2_3) (Tree.mk ml2_4 ml2_5 ml2_6) ml2_7 ml2_8 ml2_9 ml2_10)→∀ y_3,y_3=y_1→∀ y_4,y_4=(List.getD ml2_8 (Int.toNat (Z0z ml2_8 (PStep.at_ y_1) 0)) (KidOf.mk 0 Edit.nil))→let z8:=decide (x16 < (l.length:Int));let z5:=Z0z ml2_8 (PStep.at_ y_1) 0;let z4:=Q .ret (L2 [(4,.ptr (.loc 4) 0),(5,.c (.nils)),(6,.c (.bool false))] [(.loc 4,zc1)]);let z3:=((PStep.kind y_1):Int) !=0;let z2:=YL ml2_10 (PStep.at_ y_1) 0 0;let z7:=PStep.mk (PStep.kind y_1) (z2.2.1);let z1:=OpOf.e (z2.1);let z0:=bif z3 then true else (decide (((PStep.at_ y_1):Int) < 0));let z6:=bif z0 then true else (ml2_0==1);((z8=true→((0:Int)≤x16∧x16 < (l.length:Int))∧((Tr ((!z3)=true))∧(Tr ((!z3)=true))∧(z3=false→(!z3)=true)∧(Tr ((!z0)=true))∧(Tr ((!z0)=true))∧(z0=false→(!z0)=true)∧((z6=true→z4)∧(z6=false→(((ml2_0==2)=true→(Zem (ml2_8,((PStep.kind y_1),(PStep.at_ y_1),()),()))∧(((decide ((z5:Int) < 0))=true→(((x7.length+([y_3]).length)*16≤140737488355328)∧((InR (x16+1))∧(N0 (Z1I e l (x16+1) 0 0 0 0 [] [] [] [] [] [] [] (x7++([y_3])))))))∧((decide ((z5:Int) < 0))=false→((0:Int)≤z5∧z5 < (ml2_8.length:Int))∧(((x7.length+([y_3]).length)*16≤140737488355328)∧((InR (x16+1))∧(N0 (Z1I e l (x16+1) y_4.e.kind y_4.e.old.kind y_4.e.new.kind y_4.e.list y_4.e.old.words y_4.e.old.kids y_4.e.new.words y_4.e.new.kids y_4.e.words y_4.e.kids y_4.e.ops (x7++([y_3])))))))))∧((ml2_0==2)=false→(((ml2_0==3)=true→(ZhU (ml2_10,(PStep.at_ y_1),()))∧(((!(z2.2.2))=true→z4)∧((!(z2.2.2))=false→(((x7.length+([z7]).length)*16≤140737488355328)∧((InR (x16+1))∧(N0 (Z1I e l (x16+1) (Edit.kind z1) (Tree.kind (Edit.old z1)) (Tree.kind (Edit.new z1)) (Edit.list z1) (Tree.words (Edit.old z1)) (Tree.kids (Edit.old z1)) (Tree.words (Edit.new z1)) (Tree.kids (Edit.new z1)) (Edit.words z1) (Edit.kids z1) (Edit.ops z1) (x7++([z7])))))))))∧((ml2_0==3)=false→((x7.length+([y_3]).length)*16≤140737488355328)∧((InR (x16+1))∧(N0 (Z1I e l (x16+1) ml2_0 ml2_1 ml2_4 ml2_9 ml2_2 ml2_3 ml2_5 ml2_6 ml2_7 ml2_8 ml2_10 (x7++([y_3])))))))))))))∧(z8=false→(Z2q (y_2,()))∧(Q .ret (L2 [(4,.ptr (.loc 4) 0),(5,.c (sU .step x7 (.own (.e 5 0)))),(6,.c (.bool true))] [(.loc 4,(enc .edit (Zz y_2)))]))))):
  A27 [1,1,0,1,0,0] (Z1I e l x16 ml2_0 ml2_1 ml2_4 ml2_9 ml2_2 ml2_3 ml2_5 ml2_6 ml2_7 ml2_8 ml2_10 x7) (xT N0 (xB 0 (S27 [1,1,1] Q))):=
 Eq.mpr (by kernel_rfl) (h _ rfl _ rfl _ (ZjQ _) _ rfl)
def ZuE(e:Edit)(l:List PStep):Prop:=AW (Z0 ZgL) Try.f27 Zq6 [] (Zm (ZnV.can (e,l,())) []) (EQ Try.f27 (Zee (e,l,())) [])
theorem ZsN(c72:CT 72 Z9H)(c74:CT 74 Z9F)(c57:CT 57 Z3E)(hb:∀ (e:Edit) (l:List PStep) (_:Unit),Zeq (e,l,())→ZuE e l):CT 27 Z3F:=
 Z3 (l:=[(72,Z9H),(74,Z9F),(57,Z3E)]) Zk rfl (⟨c72,c74,c57,trivial⟩) Zq6 Try.func27 rfl rfl 2 (fun _=> rfl) (by decide) (fun ⟨e,l,_⟩=> hb e l ())
end
end Go.AM.Ytpjenobkibfpcaa
namespace Go.AM.Ytpjenobkibfpcaa
open Go.AM Go.Proofs
theorem ZaL(n:Int):Zd (YE n)≤3:=by
 unfold YE
 split
 ·simp [Zd]
 ·simp only [Zd,ZX,Zb,Z09];omega
theorem Zc2(len i:Int)(x:Edit):(ZU len i x).length+Zd (ZU len i x)≤Zg x+9:=by
 have h1:=Z4Q i
 have h2:=Z4Q (len - i - 1)
 have h3:=ZaL i
 have h4:=ZaL (len - i - 1)
 simp only [ZU,List.length_append,List.length_cons,List.length_nil,J6,Zd,ZX,Zb]
 omega
theorem Z5M{f:Int→Int→Edit→List Op}(hf:∀ (len i:Int) (x:Edit),0≤i→i < len→((f len i x).length+Zd (f len i x):Int)≤Zg x+4*len+9)(e:Edit):∀ (l:List PStep) (t:Tree),(Zg (Zp f e l t).1:Int)≤Zg e+4*Zj t+12*l.length
 | [],t=> by rw [Zp];simp only [List.length_nil];omega
 | s ::l,t=> by
  have ih:=Z5M hf e l (t.kids.getD s.at_.toNat Tree.nil)
  have he:=Z1b e
  have ht:=Z0w t
  by_cases h:Z0A s t
  ·by_cases h2:(Zp f e l (t.kids.getD s.at_.toNat Tree.nil)).2=false∨(Zp f e l (t.kids.getD s.at_.toNat Tree.nil)).1.kind=0
   ·rw [Z1k h h2];simp only [Z09,List.length_cons];omega
   ·by_cases h3:t.kind=1
    ·have:=Z2w t s.at_.toNat
     rw [Z4s h h2 h3]
     simp only [Zg,Tree.nil,Zj,Zb,ZN,JN,Zd,List.length_nil,List.length_cons] at ih this ⊢
     omega
    ·rw [Z4t h h2 h3]
     have hlt:s.at_ < t.kids.length:=by
      rcases h.2.2 with h4 | h4
      ·exact absurd h4.1 h3
      ·exact h4.2
     have h0:0≤s.at_:=h.2.1
     have hm:=hf t.kids.length s.at_ (Zp f e l (t.kids.getD s.at_.toNat Tree.nil)).1 h0 hlt
     have hk:Zj (t.kids.getD s.at_.toNat Tree.nil)+t.kids.length≤Zj t:=by
      have h5:=Zl (l:=t.kids) (i:=s.at_.toNat) (by omega) Tree.nil
      have h6:=Z7W t
      have h7:=massK_sum h5
      omega
     simp only [Zg,Tree.nil,Zj,Zb,ZN,List.length_nil,List.length_cons] at ih hm hk ⊢
     omega
  ·rw [Z3x h];simp only [Z09,List.length_cons];omega
where
 massK_sum:∀ {ks:List Tree} {k:Tree},k∈ks→Zj k+ks.length≤Zb ks+1
  | a ::r,k,h=> by
   have h1:=Zs r
   have h2:=Z0w a
   rcases List.mem_cons.1 h with rfl | h
   ·simp only [Zb,List.length_cons];omega
   ·have:=massK_sum h;simp only [Zb,List.length_cons];omega
theorem Z0s:Y1 Edit.nil:=by simp [Edit.nil,Y1,Tree.nil,rng,ZW,Z1U,Z1T,isI]
theorem ZbH:∀ {l:List Op},(∀ o∈l,Z01 o)→Z1T l
 | [],_=> trivial
 | o ::r,h=> ⟨h o List.mem_cons_self,ZbH fun x hx=> h x (List.mem_cons_of_mem _ hx)⟩
theorem ZbE{n:Int}(h:isI n):∀ o∈YE n,Z01 o:=by
 unfold YE
 split
 ·simp
 ·intro o ho
  simp only [List.mem_singleton] at ho
  subst ho
  exact ⟨by unfold isI;omega,h,trivial,Z0s⟩
theorem Z7u{f:Int→Int→Edit→List Op}(hf:∀ (len i:Int) (x:Edit),0≤i→i < len→len≤1000000000→Y1 x→∀ o∈f len i x,Z01 o){e:Edit}(he:Y1 e):∀ (l:List PStep) (t:Tree),Zj t≤1000000000→Y1 (Zp f e l t).1
 | [],t,_=> by rw [Zp];exact he
 | s ::l,t,hm=> by
  have hk:=Z2w t s.at_.toNat
  have ih:=Z7u hf he l (t.kids.getD s.at_.toNat Tree.nil) (by omega)
  by_cases h:Z0A s t
  ·by_cases h2:(Zp f e l (t.kids.getD s.at_.toNat Tree.nil)).2=false∨(Zp f e l (t.kids.getD s.at_.toNat Tree.nil)).1.kind=0
   ·rw [Z1k h h2];exact Z0s
   ·have hlen:=Zs t.kids
    have hmk:=Z7W t
    have hn:rng Tree.nil:=by simp [Tree.nil,rng,ZW,isI]
    obtain ⟨f1,f2,f3⟩:=h
    by_cases h3:t.kind=1
    ·rw [Z4s ⟨f1,f2,f3⟩ h2 h3]
     exact ⟨by unfold isI;omega,hn,hn,by simp,by unfold isI;omega,⟨⟨by unfold isI;omega,ih⟩,trivial⟩,trivial⟩
    ·rw [Z4t ⟨f1,f2,f3⟩ h2 h3]
     exact ⟨by unfold isI;omega,hn,hn,by simp,by unfold isI;omega,trivial,ZbH (hf _ _ _ f2 (by omega) (by omega) ih)⟩
  ·rw [Z3x h];exact Z0s
theorem Ze1(len i:Int)(x:Edit)(h0:0≤i)(h1:i < len)(h2:len≤1000000000)(hx:Y1 x):∀ o∈ZU len i x,Z01 o:=by
 intro o ho
 simp only [ZU,List.mem_append,List.mem_singleton] at ho
 rcases ho with (ho | rfl) | ho
 ·exact ZbE (by unfold isI;omega) o ho
 ·exact ⟨by unfold isI;omega,by unfold isI;omega,trivial,hx⟩
 ·exact ZbE (by unfold isI;omega) o ho
theorem c17:Contract Try.prog cfg 17 Z3H:=by
 refine ZsQ c56 c52 Zns.1 ?_
 intro t l e _ hp
 simp only [Zer] at hp
 obtain ⟨⟨⟨hm,hr⟩,hme,hre⟩,hs,hl⟩:=hp
 have m1:=Z5M (f:=ZU) (fun len i x _ _=> by have:=Zc2 len i x;omega) e l t
 have r1:=Z7u (f:=ZU) Ze1 hre l t hm
 refine ZwY _ _ _ _ ?_
 rintro y1 rfl y2 rfl y3 hy3
 rw [←hy3] at m1 r1
 (simp only [vcT,vcS])
 try simp only [vcU]
 refine ⟨⟨hm,hl⟩,fun _=> ⟨by dsimp only;omega,r1⟩,fun h=> ?_,fun h=> ⟨⟨by dsimp only;omega,64,h.2⟩,?_⟩⟩
 ·have e:Je ZU y1 l y2=(Edit.nil,false):=by
   rw [Je,if_neg]
   rw [←hy3]
   rintro ⟨a,b⟩
   rcases h with h | h
   ·rw [h] at a;cases a
   ·rw [h] at b;cases b
  simp only [ZhO,e]
  (repeat' (first | exact trivial | exact rfl | apply And.intro))
 ·have e:Je ZU y1 l y2=(Zz y3,true):=by
   rw [hy3] at h ⊢
   rw [Je,if_pos h]
  simp only [ZhO,e]
  (repeat' (first | exact trivial | exact rfl | apply And.intro))
end Go.AM.Ytpjenobkibfpcaa
namespace Go.AM.Ytpjenobkibfpcaa
open Go.AM Go.Proofs
theorem Z83(at_:Int):∀ (l:List Kid) (i:Int),(Z0z l at_ i= -1∧Z5R l at_=Edit.nil)∨(i≤Z0z l at_ i∧Z0z l at_ i < i+l.length∧(l.getD (Z0z l at_ i - i).toNat ⟨0,Edit.nil⟩).e=Z5R l at_)
 | [],i=> .inl ⟨rfl,rfl⟩
 | k ::r,i=> by
  by_cases h:k.at_=at_
  ·refine .inr ?_
   have e:Z5R (k ::r) at_=k.e:=by unfold Z5R;rw [List.find?_cons_of_pos (by simpa using h)];try rfl
   rw [Z0z,if_pos h,e,show (i - i).toNat=0 by omega]
   exact ⟨by omega,by simp only [List.length_cons];omega,rfl⟩
  ·have e:Z5R (k ::r) at_=Z5R r at_:=by unfold Z5R;rw [List.find?_cons_of_neg (by simpa using h)]
   rw [Z0z,if_neg h,e]
   rcases Z83 at_ r (i+1) with h1 | ⟨h1,h2,h3⟩
   ·exact .inl h1
   ·refine .inr ⟨by omega,by simp only [List.length_cons];omega,?_⟩
    rw [show (Z0z r at_ (i+1) - i).toNat=(Z0z r at_ (i+1) - (i+1)).toNat+1 by omega,List.getD_cons_succ]
    exact h3
theorem Z52:∀ (l:List Op) (a f t:Int),(YL l a f t).2.2=true→(YL l a f t).1∈l
 | [],a,f,t,h=> by rw [YL] at h;cases h
 | o ::r,a,f,t,h=> by
  rw [YL] at h ⊢
  split at h
  ·rename_i h2;rw [if_pos h2];exact List.mem_cons_of_mem _ (Z52 r _ _ _ h)
  ·rename_i h2;rw [if_neg h2]
   split at h
   ·rename_i h3;rw [if_pos h3];exact List.mem_cons_self
   ·rename_i h3;rw [if_neg h3];exact List.mem_cons_of_mem _ (Z52 r _ _ _ h)
theorem Z0Q:Z4 Edit.nil 64=true:=Z1Q (by rfl) 64 (by decide)
theorem ZiG{e:Edit}{d:Int}(h:Z4 e d=true)(hg:Y1 e)(at_:Int):Zg (Z5R e.kids at_)≤Zg e∧Y1 (Z5R e.kids at_)∧∃ d,Z4 (Z5R e.kids at_) d=true:=by
 unfold Z5R
 cases hf:e.kids.find? (fun k=> decide (k.at_=at_)) with
 | none=> exact ⟨by have:=massE_pos2 e;simp only [Option.map_none,Option.getD_none,Z09];omega,Z0s,64,Z0Q⟩
 | some k=>
  have hm:=List.mem_of_find?_eq_some hf
  exact ⟨Nat.le_of_lt (Z7X hm),(Z15 (Z0P hg).2.2.2.2.2.1 hm).2,d - 1,((Z2n h).1 k hm).1⟩
where
 massE_pos2 (e:Edit):3≤Zg e:=by
  obtain ⟨k,o,n,w,ks,l,os⟩:=e
  have:=Z0w o
  have:=Z0w n
  simp only [Zg];omega
theorem Zrr{e:Edit}{d:Int}(h:Z4 e d=true)(hg:Y1 e){o:Op}(hm:o∈e.ops):Zg o.e≤Zg e∧Y1 o.e∧∃ d,Z4 o.e d=true:=by
 refine ⟨?_,?_,?_⟩
 ·have:=ZaN hm
  omega
 ·have:=Z14 (Z0P hg).2.2.2.2.2.2 hm
  obtain ⟨k,n,l,x⟩:=o
  exact this.2.2.2
 ·have h2:=(Z2n h).2 o hm
  by_cases h3:o.kind=3
  ·exact ⟨d - 1,by
    rw [Jt,if_neg (by omega)] at h2
    split at h2
    ·cases h2
    ·rw [if_neg (by omega)] at h2
     simp only [Bool.and_eq_true] at h2
     exact h2.1.2⟩
  ·refine ⟨64,Z1Q ?_ 64 (by decide)⟩
   rw [Jt] at h2
   split at h2
   ·simp only [Bool.and_eq_true] at h2;exact h2.2
   ·split at h2
    ·cases h2
    ·split at h2
     ·simp only [Bool.and_eq_true] at h2;exact h2.2
     ·omega
theorem Zi7{e:Edit}{l:List PStep}(h:Z0G l e []=(Edit.nil,[],false)):Z2v e l=(Edit.nil,[],false):=by rw [Z2v,h,if_neg (by decide)]
theorem c27:Contract Try.prog cfg 27 Z3F:=by
 refine ZsN c72 c74 Zns.1 ?_
 intro e l _ hp
 simp only [Zeq] at hp
 refine ZwU _ _ _ ?_
 refine Za (ι:=Int × Edit × List PStep) (fun s=> Z1I e l s.1 s.2.1.kind s.2.1.old.kind s.2.1.new.kind s.2.1.list s.2.1.old.words s.2.1.old.kids s.2.1.new.words s.2.1.new.kids s.2.1.words s.2.1.kids s.2.1.ops s.2.2) (fun s=> (0≤s.1∧s.1≤l.length)∧s.2.2.length=s.1∧(Zg s.2.1≤1000000000∧Y1 s.2.1∧∃ d,Z4 s.2.1 d=true)∧Z0G (l.drop s.1.toNat) s.2.1 s.2.2=Z0G l e []) (fun s=> ((l.length:Int) - s.1).toNat) (0,e,[]) rfl ⟨⟨by dsimp only;omega,by dsimp only;omega⟩,rfl,hp.1,rfl⟩ ?_
 rintro ⟨i,f,m⟩ ⟨⟨h1,h2⟩,h3,h4,h5⟩
 dsimp only at h1 h2 h3 h4 h5
 refine ZoQ _ _ _ _ _ _ _ _ _ _ _ _ _ _ _ _ _ ?_
 rintro y1 hy1 y2 hy2 y3 rfl y4 hy4
 dsimp only at hy1 hy2 hy4
 have e2:y2=f:=by rw [hy2];obtain ⟨k,⟨_,_,_⟩,⟨_,_,_⟩,w,ks,l,os⟩:=f;rfl
 subst e2
 obtain ⟨g1,g2,d,g3⟩:=h4
 (simp only [vcT,vcS])
 try simp only [vcU]
 refine ⟨fun hi=> ⟨⟨h1,hi⟩,?_⟩,fun hi=> ?_⟩
 ·rw [ZR h1 hi ⟨0,0⟩,←hy1,Z0G] at h5
  refine ⟨fun hb=> ?_,fun hb=> ⟨fun hk=> ⟨?_,fun hx=> ?_,fun hx=> ?_⟩,fun hk=> ⟨fun hk3=> ⟨?_,fun hx=> ?_,fun hx=> ?_⟩,fun hk3=> ?_⟩⟩⟩
  ·rw [if_pos (by omega)] at h5
   simp only [Zee,Zi7 h5.symm]
   (repeat' (first | exact trivial | exact rfl | apply And.intro))
  ·simp only [Zem]
   have:=Y4 y2.kids
   have:=massE_kidsle y2
   omega
  ·rw [if_neg (by omega),if_pos hk] at h5
   rcases Z83 y3.at_ y2.kids 0 with h | h
   ·rw [h.2] at h5
    exact ⟨by simp only [List.length_cons,List.length_nil];omega,by unfold InR;omega,(i+1,Edit.nil,m++[y3]),rfl,⟨⟨by dsimp only;omega,by dsimp only;omega⟩,by simp;omega,⟨by dsimp only;rw [Z09];omega,Z0s,64,Z0Q⟩,h5⟩,by dsimp only;omega⟩
   ·omega
  ·rw [if_neg (by omega),if_pos hk] at h5
   rcases Z83 y3.at_ y2.kids 0 with h | h
   ·omega
   ·have e4:y4.e=Z5R y2.kids y3.at_:=by rw [hy4,←h.2.2,Int.sub_zero]
    have ok:=ZiG g3 g2 y3.at_
    rw [←e4] at h5 ok
    exact ⟨⟨h.1,by omega⟩,by simp only [List.length_cons,List.length_nil];omega,by unfold InR;omega,(i+1,y4.e,m++[y3]),rfl,⟨⟨by dsimp only;omega,by dsimp only;omega⟩,by simp;omega,⟨by dsimp only;omega,ok.2⟩,h5⟩,by dsimp only;omega⟩
  ·exact ⟨⟨Zaa g3,by have:=massE_opsle y2;dsimp only;omega⟩,by dsimp only;omega⟩
  ·rw [if_neg (by omega),if_neg hk,if_pos hk3,if_neg (by rw [hx];decide)] at h5
   simp only [Zee,Zi7 h5.symm]
   (repeat' (first | exact trivial | exact rfl | apply And.intro))
  ·rw [if_neg (by omega),if_neg hk,if_pos hk3,if_pos hx] at h5
   have ok:=Zrr g3 g2 (Z52 _ _ _ _ hx)
   exact ⟨by simp only [List.length_cons,List.length_nil];omega,by unfold InR;omega,(i+1,(YL y2.ops y3.at_ 0 0).1.e,m++[⟨y3.kind,(YL y2.ops y3.at_ 0 0).2.1⟩]),rfl,⟨⟨by dsimp only;omega,by dsimp only;omega⟩,by simp;omega,⟨by dsimp only;omega,ok.2⟩,h5⟩,by dsimp only;omega⟩
  ·rw [if_neg (by omega),if_neg hk,if_neg hk3] at h5
   exact ⟨by simp only [List.length_cons,List.length_nil];omega,by unfold InR;omega,(i+1,y2,m++[y3]),rfl,⟨⟨by dsimp only;omega,by dsimp only;omega⟩,by simp;omega,⟨g1,g2,d,g3⟩,h5⟩,by dsimp only;omega⟩
 ·rw [List.drop_of_length_le (by omega),Z0G] at h5
  refine ⟨⟨by dsimp only;omega,d,g3⟩,?_⟩
  have en:Z2v e l=(Zz y2,m,true):=by rw [Z2v,←h5,if_pos rfl]
  simp only [Zee,en]
  (repeat' (first | exact trivial | exact rfl | apply And.intro))
where
 massE_kidsle (e:Edit):ZN e.kids≤Zg e:=by obtain ⟨k,o,n,w,ks,l,os⟩:=e;simp only [Zg,Edit.kids_mk];omega
 massE_opsle (e:Edit):Zd e.ops≤Zg e:=by obtain ⟨k,o,n,w,ks,l,os⟩:=e;simp only [Zg,Edit.ops_mk];omega
end Go.AM.Ytpjenobkibfpcaa
namespace Go.AM.Ytpjenobkibfpcaa
open Go.AM Go.Proofs
noncomputable section
def ZnY:ArgL Unit:= .nil
def Zan(a:Unit):Prop:=True
def Zrk(a:Unit):V U:= .c (.bool true)
def Z9Y:Fs U:=fs ZnY (fun a=> [Zan a]) Zrk
def Zo0:ArgL (Tree × Unit):=(.cons (aEl .tree) .nil)
def Zes(a:Tree × Unit):Prop:=Z1n a.1∧rng a.1
def Zrm(a:Tree × Unit):V U:= .c (.bool (Z2G a.1))
def Za0:Fs U:=fs Zo0 (fun a=> [Zes a]) Zrm
def Zn9:List (FuncId × Fs U):=[(17,Z3H),(27,Z3F)]
def Zt8:Zi U:=lvl [([],[]),([1],[1]),([2,3],[2]),([2,3,4,5,6],[2,4]),([0],[])]
abbrev A16(p:List Nat):=AW (Z0 Zn9) Try.f16 Zt8 p
theorem ZwZ(Q:QT)(h:∀ y_1,y_1=(Tree.mk 8 [] ([(Tree.mk 0 [] []),(Tree.mk 1 ([1]) []),(Tree.mk 0 [] [])]))→∀ y_2,y_2=(Edit.mk 2 (Tree.mk 0 [] []) (Tree.mk 0 [] []) ([(WEdit.mk 0 1 1 2)]) [] 0 [])→∀ y_3,y_3=((Je ZU y_2 ([(PStep.mk 0 1)]) y_1).1)→∀ y_4,y_4=(List.getD (Edit.ops ((Je ZU y_2 ([(PStep.mk 0 1)]) y_1).1)) (Int.toNat 1) Op.nil)→let z7:=Z2v y_3 ([(PStep.mk 0 1)]);let z5:=Je ZU y_2 ([(PStep.mk 0 1)]) y_1;let z4:=bif (z5.2) then (z7.2.2) else false;let z2:=bif z4 then (((Edit.kind (z5.1)):Int)==3) else false;let z0:=bif z2 then ((((Edit.ops (z5.1)).length:Int):Int)==3) else false;let z6:=bif z0 then (y_4.kind==3) else false;let z3:=bif z6 then (((Edit.kind (z7.1)):Int)==2) else false;let z1:=bif z3 then ((((z7.2.1).length:Int):Int)==1) else false;((Zer (y_1,([(PStep.mk 0 1)]),y_2,()))∧((Zeq (y_3,([(PStep.mk 0 1)]),()))∧((Tr ((z5.2)=true))∧(Tr (z4=true))∧(Tr (z4=true))∧(Tr (z4=true))∧(Tr (z2=true))∧(Tr (z2=true))∧(Tr (z2=true))∧(Tr (z2=true))∧(Tr (z0=true))∧(Tr (z0=true))∧(z0=true→(0:Int)≤1∧1 < ((Edit.ops (z5.1)).length:Int))∧(Tr (z0=true))∧(Tr (z0=true))∧(Tr (z0=true))∧(Tr (z0=true))∧(Tr (z6=true))∧(Tr (z6=true))∧(Tr (z6=true))∧(Tr (z3=true))∧(Tr (z3=true))∧(Tr (z3=true))∧(Tr (z1=true))∧(z1=true→(0:Int)≤0∧0 < ((z7.2.1).length:Int))∧(Tr (z1=true))∧(Tr (z1=true))∧(Tr (z1=true))∧(Tr (z1=true))∧(Q .ret (L2 [(0,.c (.bool (bif z1 then (((PStep.at_ (List.getD (z7.2.1) (Int.toNat 0) (PStep.mk 0 0))):Int)==1) else false)))] [])))))):
  A16 [] (L2 [] []) Q:=
 Eq.mpr (by kernel_rfl) (h _ rfl _ rfl _ (Ze _) _ rfl)
def ZuJ:Prop:=AW (Z0 Zn9) Try.f16 Zt8 [] (Zm (ZnY.can ()) []) (EQ Try.f16 (Zrk ()) [])
theorem ZsR(c17:CT 17 Z3H)(c27:CT 27 Z3F)(hb:∀ (_:Unit),Zan ()→ZuJ):CT 16 Z9Y:=
 Z3 (l:=[(17,Z3H),(27,Z3F)]) Zk rfl (⟨c17,c27,trivial⟩) Zt8 Try.func16 rfl rfl 0 (fun _=> rfl) (by decide) (fun _=> hb ())
def Znb:List (FuncId × Fs U):=[(36,Z9Q),(37,Z2W)]
def Zta:Zi U:=lvl [([1],[1]),([2],[])]
abbrev A14(p:List Nat):=AW (Z0 Znb) Try.f14 Zta p
theorem Zx1(t:Tree)(Q:QT)(h:let z2:=Tree.mk t.kind t.words t.kids;let z1:=decide (0≤ZA z2 80 3000);let z0:=bif z1 then (Z9 z2 64) else false;((ZhY (z2,()))∧(Tr (z1=true))∧(z1=true→Z3q (z2,64,()))∧(Tr (z1=true))∧(Tr (z0=true))∧(Tr (z0=true))∧(Tr (z0=true))∧(Q .ret (L2 [(2,.c (.bool (bif z0 then (t.kind !=10) else false)))] [])))):
  A14 [] (L2 [(0,.agg (enc .tree t))] []) Q:=
 Eq.mpr (by kernel_rfl) h
def ZuL(t:Tree):Prop:=AW (Z0 Znb) Try.f14 Zta [] (Zm (Zo0.can (t,())) []) (EQ Try.f14 (Zrm (t,())) [])
theorem ZsT(c36:CT 36 Z9Q)(c37:CT 37 Z2W)(hb:∀ (t:Tree) (_:Unit),Zes (t,())→ZuL t):CT 14 Za0:=
 Z3 (l:=[(36,Z9Q),(37,Z2W)]) Zk rfl (⟨c36,c37,trivial⟩) Zta Try.func14 rfl rfl 1 (fun _=> rfl) (by decide) (fun ⟨t,_⟩=> hb t ())
end
end Go.AM.Ytpjenobkibfpcaa
namespace Go.AM.Ytpjenobkibfpcaa
open Go.AM Go.Proofs
def awE:Edit:= .mk 2 (.mk 0 [] []) (.mk 0 [] []) [⟨0,1,1,2⟩] [] 0 []
def awT:Tree:= .mk 8 [] [.mk 0 [] [],.mk 1 [1] [],.mk 0 [] []]
def awX:Edit:= .mk 3 Tree.nil Tree.nil [] [] 8 [⟨0,1,[],Edit.nil⟩,⟨3,0,[],awE⟩,⟨0,1,[],Edit.nil⟩]
theorem ZiS:Je ZU awE [⟨0,1⟩] awT=(awX,true):=by kernel_rfl
theorem ZtQ:Z2v awX [⟨0,1⟩]=(awE,[⟨0,1⟩],true):=by kernel_rfl
theorem Znz:Z4 awX 64=true:=by kernel_rfl
theorem c16:Contract Try.prog cfg 16 Z9Y:=by
 refine ZsR c17 c27 ?_
 intro _ _
 refine ZwZ _ ?_
 rintro y1 h1 y2 h2 y3 h3 y4 h4
 have e1:y1=awT:=h1
 have e2:y2=awE:=h2
 rw [e1,e2,ZiS] at h3 h4
 have e3:y3=awX:=h3
 have e4:y4=⟨3,0,[],awE⟩:=h4
 rw [e1,e2,e3,e4,ZiS,ZtQ]
 (simp only [vcT,vcS])
 have rn:rng (.mk 0 [] []):=⟨by decide,by simp,trivial⟩
 have re:Y1 awE:=⟨by unfold isI;omega,rn,rn,by simp [ZlB,isI,isW],by unfold isI;omega,trivial,trivial⟩
 have rt:rng awT:=⟨by decide,by simp,rn,⟨by decide,by simp,trivial⟩,rn,trivial⟩
 have ro:Z01 ⟨0,1,[],Edit.nil⟩:=⟨by unfold isI;omega,by unfold isI;omega,trivial,Z0s⟩
 have rx:Y1 awX:=⟨by unfold isI;omega,rn,rn,by simp,by unfold isI;omega,trivial,ro,⟨by unfold isI;omega,by unfold isI;omega,trivial,re⟩,ro,trivial⟩
 refine ⟨⟨⟨⟨?_,rt⟩,?_,re⟩,by simp [isI],by decide⟩,⟨⟨?_,rx,64,Znz⟩,by decide⟩,?_⟩
 ·show Zj awT≤1000000000
  rw [show Zj awT=5 by kernel_rfl];decide
 ·show Zg awE≤1000000000
  rw [show Zg awE=4 by kernel_rfl];decide
 ·show Zg awX≤1000000000
  rw [show Zg awX=16 by kernel_rfl];decide
 refine ⟨fun _=> ⟨by decide,?_⟩,fun _=> ⟨by decide,by simp⟩,Z2 rfl ?_⟩
 ·show (1:Int) < ((3:Nat):Int);decide
 ·kernel_rfl
theorem c14:Contract Try.prog cfg 14 Za0:=by
 refine ZsT c36 c37 ?_
 intro t _ hp
 simp only [Zes] at hp
 refine Zx1 _ _ ?_
 (simp only [Tree.eta,Edit.eta,Tree.kind_mk,Tree.words_mk,Tree.kids_mk])
 (simp only [vcT,vcS])
 refine ⟨by simp only [ZhY];exact hp.1,fun h=> by simp only [Z3q];exact ⟨Nat.le_trans (Zcg h) (by decide),hp.2,by omega,by omega⟩,Z2 rfl ?_⟩
 unfold Z2G
 rw [Bool.eq_iff_iff]
 simp only [ZgV,Bool.and_eq_true,decide_eq_true_eq,bne_iff_ne]
end Go.AM.Ytpjenobkibfpcaa
namespace Go.AM
def Yh:List PStep→Tree→Tree × Bool
 | [],t=> (Z6 t,true)
 | s ::l,t=> if s.at_ < 0∨(t.kind=1∧65535≤s.at_) then (Tree.nil,false)
  else if s.kind=0 then (if s.at_ < t.kids.length then Yh l (t.kids.getD s.at_.toNat Tree.nil) else if t.kind=1 then Yh l Tree.nil else (Tree.nil,false))
  else if s.kind=1 then (if l.length=0∧t.kind=1 then (.mk 1 (if s.at_ < t.words.length∧t.words.getD s.at_.toNat 0≠0 then [t.words.getD s.at_.toNat 0] else []) [],true) else (Tree.nil,false))
  else if s.kind=2 then (if l.length=0∧(2≤t.kind∧t.kind≤9)∧s.at_≤t.kids.length then (.mk t.kind [] [],true) else (Tree.nil,false))
  else (Tree.nil,false)
end Go.AM
namespace Go.AM.Ytpjenobkibfpcaa
open Go.AM Go.Proofs
theorem Z7e{s:PStep}{l:List PStep}{t:Tree}(h0:s.kind=0):Yh (s ::l) t=if s.at_ < 0∨(t.kind=1∧65535≤s.at_)∨(¬s.at_ < t.kids.length∧¬t.kind=1) then (Tree.nil,false) else Yh l (t.kids.getD s.at_.toNat Tree.nil):=by
 rw [Yh]
 by_cases h1:s.at_ < 0∨(t.kind=1∧65535≤s.at_)
 ·rw [if_pos h1,if_pos (by omega)]
 ·rw [if_neg h1,if_pos h0]
  by_cases h2:s.at_ < t.kids.length
  ·rw [if_pos h2,if_neg (by omega)]
  ·rw [if_neg h2]
   by_cases h3:t.kind=1
   ·rw [if_pos h3,if_neg (by omega),List.getD_eq_getElem?_getD,List.getElem?_eq_none (by omega)];try rfl
   ·rw [if_neg h3,if_pos (by omega)]
theorem Zql(x:Tree):doE false Edit.nil x=some x:=by rw [Z0e,Yx,if_pos (by rfl)]
theorem Zjt{t:Tree}(h:RT_ t)(h0:t.kind=0):t.kids=[]:=by
 obtain ⟨⟨d,h⟩,_⟩:=h
 obtain ⟨k,w,ks⟩:=t
 have h0:k=0:=h0
 rw [Z9,if_pos h0] at h
 simp only [decide_eq_true_eq] at h
 exact List.eq_nil_of_length_eq_zero h.2
theorem Zfb:∀ {l:List PStep} {a b:Tree},(∀ s∈l,s.kind=0)→RT_ a→RT_ b→Eqv a b→Yh l a=Yh l b
 | [],a,b,_,_,_,h=> by rw [Yh,Yh,h]
 | s ::l,a,b,hl,ha,hb,h=> by
  have h0:=hl s List.mem_cons_self
  obtain ⟨hk,hx⟩:=(Yd a b).1 h
  rw [Z7e h0,Z7e h0]
  by_cases hz:a.kind=0
  ·rw [Zjt ha hz,Zjt hb (by omega),←hk]
  ·have hy:=hx.resolve_left hz
   have ih:=Zfb (fun x hx=> hl x (List.mem_cons_of_mem _ hx)) (ZdI ha.kids.1 s.at_.toNat) (ZdI hb.kids.1 s.at_.toNat) (hy.2 s.at_.toNat)
   rw [ih,←hk]
   by_cases h1:a.kind=1
   ·simp only [h1,not_true_eq_false,and_false]
   ·have h2:=hy.1
    rw [if_neg h1] at h2
    rw [h2.2]
theorem Zqg{s:PStep}{l:List PStep}{t:Tree}(h0:s.kind=0)(h:(Yh (s ::l) t).2=true):0≤s.at_∧¬(t.kind=1∧65535≤s.at_)∧(s.at_ < t.kids.length∨t.kind=1)∧Yh (s ::l) t=Yh l (t.kids.getD s.at_.toNat Tree.nil):=by
 rw [Z7e h0] at h ⊢
 split at h
 ·cases h
 ·rename_i h1
  rw [if_neg h1]
  exact ⟨by omega,by omega,by omega,rfl⟩
theorem ZiH{s:PStep}{l:List PStep}{t:Tree}(h0:s.kind=0)(h1:0≤s.at_)(h2:¬(t.kind=1∧65535≤s.at_))(h3:s.at_ < t.kids.length∨t.kind=1):Yh (s ::l) t=Yh l (t.kids.getD s.at_.toNat Tree.nil):=by
 rw [Z7e h0,if_neg (by omega)]
end Go.AM.Ytpjenobkibfpcaa
namespace Go.AM.Ytpjenobkibfpcaa
open Go.AM Go.Proofs
instance decStep:DecidableEq PStep:=fun a b=> decidable_of_iff (a.kind=b.kind∧a.at_=b.at_) (by cases a;cases b;simp)
def Z1J:List PStep→List PStep→Bool
 | s ::l,p ::m=> if s=p then Z1J l m else true
 | _,_=> false
theorem Z2R{f:Int→Int→Edit→List Op}{e:Edit}{s:PStep}{l:List PStep}{t:Tree}(h:(Zp f e (s ::l) t).2=true):
  Z0A s t∧(Zp f e l (t.kids.getD s.at_.toNat Tree.nil)).2=true∧
   ((Zp f e l (t.kids.getD s.at_.toNat Tree.nil)).1.kind=0∧(Zp f e (s ::l) t).1=Edit.nil∨
    (Zp f e l (t.kids.getD s.at_.toNat Tree.nil)).1.kind≠0∧t.kind=1∧(Zp f e (s ::l) t).1= .mk 2 Tree.nil Tree.nil [] [⟨s.at_,(Zp f e l (t.kids.getD s.at_.toNat Tree.nil)).1⟩] 0 []∨
    (Zp f e l (t.kids.getD s.at_.toNat Tree.nil)).1.kind≠0∧t.kind≠1∧s.at_ < t.kids.length∧(Zp f e (s ::l) t).1= .mk 3 Tree.nil Tree.nil [] [] t.kind (f t.kids.length s.at_ (Zp f e l (t.kids.getD s.at_.toNat Tree.nil)).1)):=by
 by_cases hf:Z0A s t
 ·by_cases h2:(Zp f e l (t.kids.getD s.at_.toNat Tree.nil)).2=false∨(Zp f e l (t.kids.getD s.at_.toNat Tree.nil)).1.kind=0
  ·rw [Z1k hf h2] at h ⊢
   exact ⟨hf,h,.inl ⟨h2.resolve_left (by rw [h];decide),rfl⟩⟩
  ·have h3:(Zp f e l (t.kids.getD s.at_.toNat Tree.nil)).2=true:=by
    cases hb:(Zp f e l (t.kids.getD s.at_.toNat Tree.nil)).2
    ·exact absurd (.inl hb) h2
    ·try rfl
   have h4:(Zp f e l (t.kids.getD s.at_.toNat Tree.nil)).1.kind≠0:=fun h0=> h2 (.inr h0)
   by_cases h5:t.kind=1
   ·exact ⟨hf,h3,.inr (.inl ⟨h4,h5,by rw [Z4s hf h2 h5]⟩)⟩
   ·have hlt:s.at_ < t.kids.length:=by
     rcases hf.2.2 with h6 | h6
     ·exact absurd h6.1 h5
     ·exact h6.2
    exact ⟨hf,h3,.inr (.inr ⟨h4,h5,hlt,by rw [Z4t hf h2 h5]⟩)⟩
 ·rw [Z3x hf] at h;cases h
theorem Z3y{f:Int→Int→Edit→List Op}{e:Edit}:∀ {l:List PStep} {t:Tree},(Zp f e l t).2=true→∀ s∈l,s.kind=0∧0≤s.at_
 | [],_,_,s,hs=> by cases hs
 | s ::l,t,h,x,hx=> by
  obtain ⟨⟨h1,h2,_⟩,h3,_⟩:=Z2R h
  rcases List.mem_cons.1 hx with rfl | hx
  ·exact ⟨h1,h2⟩
  ·exact Z3y h3 x hx
theorem Zd2{e:Edit}(h0:e.kind=0):∀ (l m:List PStep),(∀ s∈l,s.kind=0∧0≤s.at_)→Z0G l e m=(e,m++l,true)
 | [],m,_=> by rw [Z0G,List.append_nil]
 | s ::l,m,h=> by
  have hs:=h s List.mem_cons_self
  rw [Z0G,if_neg (by omega),if_neg (by omega),if_neg (by omega),Zd2 h0 l _ fun x hx=> h x (List.mem_cons_of_mem _ hx)]
  simp
theorem Zbo(a:Int)(x:Edit):Zz (.mk 2 Tree.nil Tree.nil [] [⟨a,x⟩] 0 [])= .mk 2 Tree.nil Tree.nil [] [⟨a,Zz x⟩] 0 []:=by
 rw [Zz,if_neg (by decide),if_pos rfl,Yj,Jj,Yj]
theorem Zcb(list:Int)(n:Int)(w:Wst):Zo list (YE n) w=if n=0 then w else Zy w n:=by
 unfold YE
 split
 ·try rfl
 ·simp only [Zo,JD,if_true]
theorem Z2A(n:Int):Zy ⟨[],[],[]⟩ n=⟨[⟨0,n,[],Edit.nil⟩],[],[]⟩:=rfl
theorem Zqd(out:List Op)(x:Edit)(n:Int):Zy ⟨out++[⟨3,0,[],x⟩],[],[]⟩ n=⟨out++[⟨3,0,[],x⟩]++[⟨0,n,[],Edit.nil⟩],[],[]⟩:=by
 rw [Zy,YK]
 dsimp only
 rw [ZaW,if_neg (show ¬(3:Int)=0 by decide)]
 simp
theorem Zpb(list:Int){len i:Int}(h0:0≤i)(h1:i < len)(x:Edit):(Z1 (Zo list (ZU len i x) ⟨[],[],[]⟩)).out=
  if Jf list (Zz x)=true then [⟨0,len,[],Edit.nil⟩] else YE i++⟨3,0,[],Zz x⟩ ::YE (len - i - 1):=by
 unfold ZU
 rw [Z7L,Z7L,Zcb,Zcb]
 simp only [Zo,Yq,if_neg (show ¬(3:Int)=0 by decide),if_neg (show ¬(3:Int)=1 by decide),if_neg (show ¬(3:Int)=2 by decide),if_true]
 by_cases hi:Jf list (Zz x)=true
 ·rw [if_pos hi,if_pos hi]
  by_cases hz:i=0
  ·subst hz
   rw [if_pos rfl,Z2A]
   split
   ·rw [YK];dsimp only;rw [show len=1 by omega]
   ·rw [show (⟨[⟨0,1,[],Edit.nil⟩],[],[]⟩:Wst)=Zy ⟨[],[],[]⟩ 1 by rfl,Z4c,Z2A,YK]
    dsimp only;rw [show 1+(len - 0 - 1)=len by omega]
  ·rw [if_neg hz,Z4c]
   split
   ·rw [Z2A,YK];dsimp only;rw [show i+1=len by omega]
   ·rw [Z4c,Z2A,YK];dsimp only;rw [show i+1+(len - i - 1)=len by omega]
 ·rw [if_neg hi,if_neg hi]
  have hk:(Z1 (if i=0 then (⟨[],[],[]⟩:Wst) else Zy ⟨[],[],[]⟩ i)).out=YE i:=by
   unfold YE
   split
   ·try rfl
   ·rw [Z2A,YK]
  rw [hk]
  by_cases hz:len - i - 1=0
  ·rw [if_pos hz,YK,hz];simp [YE]
  ·rw [if_neg hz,Zqd,YK];dsimp only;simp [YE,hz]
theorem Zau(n:Int):Zr ⟨0,n,[],Edit.nil⟩=n:=by simp only [Zr,if_neg (show ¬(0:Int)=3 by decide),List.length_nil];omega
theorem Zkr{len i:Int}(h0:0≤i)(h1:i < len):YL [⟨0,len,[],Edit.nil⟩] i 0 0=(⟨0,len,[],Edit.nil⟩,i,true):=by
 rw [YL,if_neg (show ¬(0:Int)=2 by decide),Zau,if_pos (by omega)]
 simp
theorem Zni{len i:Int}(h0:0≤i)(x:Edit)(r:List Op):YL (YE i++⟨3,0,[],x⟩ ::r) i 0 0=(⟨3,0,[],x⟩,i,true):=by
 have h3:∀ f:Int,f≤i→i < f+1→YL (⟨3,0,[],x⟩ ::r) i f i=(⟨3,0,[],x⟩,i+i - f,true):=by
  intro f h1 h2
  rw [YL,if_neg (show ¬(3:Int)=2 by decide),show Zr ⟨3,0,[],x⟩=1 from rfl,if_pos (by omega)];try rfl
 unfold YE
 split
 ·rename_i hz
  subst hz
  exact h3 0 (by omega) (by omega)
 ·rw [List.cons_append,YL,if_neg (show ¬(0:Int)=2 by decide),Zau,if_neg (by omega),if_neg (show ¬(0:Int)=1 by decide),List.nil_append,Int.zero_add,h3 i (by omega) (by omega)]
  rw [show i+i - i=i by omega]
def Z8U(e:Edit):Bool:=decide (e.kind=2∧e.words.length+e.kids.length=0)
theorem Zk0{list:Int}{x:Edit}(h:Jf list (Zz x)=true)(h0:x.kind≠0):Z8U x=true:=by
 unfold Jf at h
 unfold Z8U
 simp only [decide_eq_true_eq] at h ⊢
 rw [Z2t] at h
 rcases h with h | ⟨_,h2,h3,h4⟩
 ·exact absurd h h0
 ·rw [Z3d,if_neg (by omega),if_pos h2] at h3 h4
  have h5:∀ ks:List Kid,(Yj ks).length=ks.length:=by
   intro ks
   induction ks with
   | nil=> rfl
   | cons a r ih=> rw [Yj,List.length_cons,List.length_cons,ih]
  have h3:x.words.length=0:=h3
  have h4:(Yj x.kids).length=0:=h4
  rw [h5] at h4
  exact ⟨h2,by omega⟩
theorem ZdM{e:Edit}:∀ (l:List PStep) (t:Tree) (m:List PStep),(Zp ZU e l t).2=true→
  ∃ z,Z0G l (Zz (Zp ZU e l t).1) m=(z,m++l,true)∧((Zp ZU e l t).1.kind≠0→Z8U e=false→z=Zz e)
 | [],t,m,h=> by rw [Zp,Z0G];exact ⟨_,by rw [List.append_nil],fun _ _=> rfl⟩
 | s ::l,t,m,h=> by
  obtain ⟨⟨f1,f2,f3⟩,h2,h3⟩:=Z2R h
  obtain ⟨z,i1,i2⟩:=ZdM l (t.kids.getD s.at_.toNat Tree.nil) (m++[s]) h2
  rcases h3 with ⟨h4,h5⟩ | ⟨h4,h5,h6⟩ | ⟨h4,h5,h6,h7⟩
  ·rw [h5,Zd2 (by rfl) _ _ (Z3y h)]
   exact ⟨_,rfl,fun h0=> absurd rfl h0⟩
  ·rw [h6,Zbo,Z0G,if_neg (by simp only [Edit.kind_mk];omega),if_pos (by rfl),show Z5R (Edit.mk 2 Tree.nil Tree.nil [] [⟨s.at_,Zz (Zp ZU e l (t.kids.getD s.at_.toNat Tree.nil)).1⟩] 0 []).kids s.at_=Zz (Zp ZU e l (t.kids.getD s.at_.toNat Tree.nil)).1 by rw [Edit.kids_mk];simp [Z5R],i1]
   exact ⟨z,by simp,fun _=> i2 h4⟩
  ·rw [h7,Zsd]
   rw [Zpb t.kind f2 h6]
   rw [Z0G,if_neg (by simp only [Edit.kind_mk];omega),if_neg (by simp only [Edit.kind_mk];omega),if_pos (by rfl)]
   rw [Edit.ops_mk]
   by_cases hi:Jf t.kind (Zz (Zp ZU e l (t.kids.getD s.at_.toNat Tree.nil)).1)=true
   ·rw [if_pos hi,Zkr f2 h6,if_pos rfl]
    dsimp only
    rw [Zd2 rfl l _ fun x hx=> Z3y h x (List.mem_cons_of_mem _ hx)]
    refine ⟨Edit.nil,by simp,fun _ hx=> ?_⟩
    exfalso
    have hy:=Zk0 hi h4
    cases l with
    | nil=> rw [Zp] at hy;rw [hx] at hy;cases hy
    | cons s' l=>
     obtain ⟨_,_,k3⟩:=Z2R h2
     rcases k3 with ⟨k4,k5⟩ | ⟨k4,k5,k6⟩ | ⟨k4,k5,k6,k7⟩
     ·rw [k5] at h4;exact absurd rfl h4
     ·rw [k6] at hy;exact absurd hy (by simp [Z8U,Edit.kind_mk])
     ·rw [k7] at hy;exact absurd hy (by simp [Z8U,Edit.kind_mk])
   ·rw [if_neg hi,Zni (len:=t.kids.length) f2,if_pos rfl]
    dsimp only
    rw [show (⟨s.kind,s.at_⟩:PStep)=s by cases s;rfl,i1]
    exact ⟨z,by simp,fun _=> i2 h4⟩
theorem Zlw{len i:Int}{x:Edit}{s d:List Tree}(h0:0≤i)(h1:i < len)(h:Run (ZU len i x) s d):s.length=len→d.length=s.length∧doE false x (s.getD i.toNat Tree.nil)=some (d.getD i.toNat Tree.nil)∧∀ j:Nat,j≠i.toNat→d.getD j Tree.nil=s.getD j Tree.nil:=by
 intro hs
 have hk:∀ {n:Int} {r:List Op} {s d:List Tree},0≤n→Run (YE n++r) s d→∃ a s' d',s=a++s'∧d=a++d'∧(a.length:Int)=n∧Run r s' d':=by
  intro n r s d hn h
  unfold YE at h
  split at h
  ·exact ⟨[],s,d,rfl,rfl,by simp;omega,h⟩
  ·exact (Zlx rfl).1 h
 unfold ZU at h
 rw [List.append_assoc] at h
 obtain ⟨a,s1,d1,rfl,rfl,ha,h⟩:=hk h0 h
 rw [List.singleton_append] at h
 obtain ⟨y,s2,z,d2,rfl,rfl,hy,h⟩:=(Zly rfl).1 h
 rw [←List.append_nil (YE _)] at h
 obtain ⟨b,s3,d3,rfl,rfl,hb,h⟩:=hk (by omega) h
 obtain ⟨rfl,rfl⟩:=Zp4 h
 have hl:i.toNat=a.length:=by omega
 refine ⟨by simp,?_,fun j hj=> ?_⟩
 ·rw [hl]
  simpa using hy
 ·simp only [List.getD_eq_getElem?_getD]
  by_cases hja:j < a.length
  ·rw [List.getElem?_append_left hja,List.getElem?_append_left hja]
  ·rw [List.getElem?_append_right (by omega),List.getElem?_append_right (by omega)]
   obtain ⟨k,hk⟩:∃ k,j - a.length=k+1:=⟨j - a.length - 1,by omega⟩
   rw [hk,List.getElem?_cons_succ,List.getElem?_cons_succ]
theorem Z3w{e:Edit}:∀ (l other:List PStep) (t v:Tree),(Zp ZU e l t).2=true→Z1J l other=true→(∀ s∈other,s.kind=0)→
  doE false (Zp ZU e l t).1 t=some v→(Yh other t).2=true→Yh other v=Yh other t
 | [],other,t,v,_,h,_,_,_=> by simp [Z1J] at h
 | s ::l,[],t,v,_,h,_,_,_=> by simp [Z1J] at h
 | s ::l,p ::other,t,v,hw,ha,hk,hv,hp=> by
  obtain ⟨⟨f1,f2,f3⟩,h2,h3⟩:=Z2R hw
  have hk0:=hk p List.mem_cons_self
  obtain ⟨p1,p2,p3,p4⟩:=Zqg hk0 hp
  rw [p4] at hp ⊢
  have hne:s≠p→p.at_.toNat≠s.at_.toNat:=by
   intro hx hy
   apply hx
   cases s;cases p
   dsimp only at*
   rw [PStep.mk.injEq]
   exact ⟨by omega,by omega⟩
  rw [Z1J] at ha
  have fin:∀ b:List Tree,(s=p→Yh other (b.getD p.at_.toNat Tree.nil)=Yh other (t.kids.getD p.at_.toNat Tree.nil))→(s≠p→b.getD p.at_.toNat Tree.nil=t.kids.getD p.at_.toNat Tree.nil)→Yh other (b.getD p.at_.toNat Tree.nil)=Yh other (t.kids.getD p.at_.toNat Tree.nil):=by
   intro b x y
   by_cases hx:s=p
   ·exact x hx
   ·rw [y hx]
  rcases h3 with ⟨h4,h5⟩ | ⟨h4,h5,h6⟩ | ⟨h4,h5,h6,h7⟩
  ·rw [h5,Zql] at hv
   cases hv
   exact p4
  ·rw [h6,ZvI,if_pos h5] at hv
   obtain ⟨a,ha',hv⟩:=Option.bind_eq_some_iff.1 hv
   obtain ⟨b,hb,rfl⟩:=Option.map_eq_some_iff.1 hv
   rw [JB,Zb7] at hb
   obtain ⟨w,hw',hb⟩:=Option.bind_eq_some_iff.1 hb
   rw [JB] at hb
   cases hb
   rw [ZiH hk0 p1 (by rw [Tree.kind_mk];omega) (.inr rfl)]
   rw [Tree.kids_mk]
   refine fin _ (fun hx=> ?_) (fun hx=> ?_)
   ·subst hx
    rw [if_pos rfl] at ha
    rw [YZ,if_pos rfl]
    exact Z3w l other _ w h2 ha (fun x hx=> hk x (List.mem_cons_of_mem _ hx)) hw' hp
   ·rw [YZ,if_neg (hne hx)]
  ·rw [h7,ZvH,if_pos rfl] at hv
   obtain ⟨b,hb,rfl⟩:=Option.map_eq_some_iff.1 hv
   have hkk:∀ o∈ZU t.kids.length s.at_ (Zp ZU e l (t.kids.getD s.at_.toNat Tree.nil)).1,kOk o:=by
    intro o ho
    simp only [ZU,List.mem_append,List.mem_singleton] at ho
    have hq:∀ n:Int,0≤n→o∈YE n→kOk o:=by
     intro n hn ho
     unfold YE at ho
     split at ho
     ·cases ho
     ·rw [List.mem_singleton] at ho
      subst ho
      exact .inl ⟨rfl,hn⟩
    rcases ho with (ho | rfl) | ho
    ·exact hq _ f2 ho
    ·exact .inr (.inr (.inr rfl))
    ·exact hq _ (by omega) ho
   obtain ⟨r1,r2,r3⟩:=Zlw f2 h6 ((Zin hkk).1 hb) rfl
   rw [ZiH hk0 p1 (by rw [Tree.kind_mk];omega) (.inl (by rw [Tree.kids_mk,r1];omega))]
   rw [Tree.kids_mk]
   refine fin _ (fun hx=> ?_) (fun hx=> r3 _ (hne hx))
   subst hx
   rw [if_pos rfl] at ha
   exact Z3w l other _ _ h2 ha (fun x hx=> hk x (List.mem_cons_of_mem _ hx)) r2 hp
end Go.AM.Ytpjenobkibfpcaa
namespace Go.AM.Ytpjenobkibfpcaa
open Go.AM Go.Proofs
noncomputable section
def Zh7:ArgL (Tree × List PStep × Unit):=(.cons (aEl .tree) (.cons (aSl .step) .nil))
def Z8v(a:Tree × List PStep × Unit):Prop:=Zj a.1≤1000000000000∧(a.2.1).length≤1000
def ZeN(a:Tree × List PStep × Unit):Nat:=(a.2.1).length
def Z1W(a:Tree × List PStep × Unit):V U:= .tup [(true,(enc .tree ((Yh a.2.1 a.1).1))),(false,[.bool ((Yh a.2.1 a.1).2)])]
def Z9U:Fs U:=fs Zh7 (fun a=> [Z8v a]) Z1W
def ZnU:ArgL (List PStep × Unit):=(.cons (aSl .step) .nil)
def Zi0(a:List PStep × Unit):Prop:=(a.1).length≤1000
def ZhL(a:List PStep × Unit):V U:= .c (.bool (decide (∀ s∈a.1,PStep.kind s=0)))
def Z9T:Fs U:=fs ZnU (fun a=> [Zi0 a]) ZhL
def ZnT:ArgL (List PStep × List PStep × Unit):=(.cons (aSl .step) (.cons (aSl .step) .nil))
def ZhZ(a:List PStep × List PStep × Unit):Prop:=(a.1).length≤1000
def Zed(a:List PStep × List PStep × Unit):V U:= .c (.bool (eqX a.1 a.2.1))
def Z9S:Fs U:=fs ZnT (fun a=> [ZhZ a]) Zed
def ZgK(N:Nat):List (FuncId × Fs U):=(28,fs Zh7 (fun a=> [Z8v a,ZeN a < N]) Z1W) ::[(45,Z0E)]
def Zq5:Zi U:=fun i=> match i with
 | 0=> ([(1,[]),(2,[]),(4,[])],[(.loc 2,[]),(.loc 4,[])])
 | 1=> ([(1,[]),(2,[]),(4,[]),(11,[])],[(.loc 2,[]),(.loc 4,[])])
 | 2=> ([(4,[]),(5,[])],[(.loc 4,[])])
 | 3=> ([(1,[]),(2,[]),(4,[]),(6,[])],[(.loc 2,[]),(.loc 4,[]),(.loc 6,[])])
 | 4=> ([(1,[]),(2,[]),(4,[]),(6,[]),(7,[])],[(.loc 2,[]),(.loc 4,[]),(.loc 6,[])])
 | 5=> ([(1,[]),(2,[]),(4,[]),(6,[]),(7,[]),(37,[])],[(.loc 2,[]),(.loc 4,[]),(.loc 6,[])])
 | 6=> ([(4,[]),(5,[])],[(.loc 4,[])])
 | 7=> ([(1,[]),(2,[]),(4,[]),(6,[]),(7,[]),(40,[])],[(.loc 2,[]),(.loc 4,[]),(.loc 6,[])])
 | 8=> ([(1,[]),(2,[]),(4,[]),(6,[]),(7,[]),(40,[]),(41,[])],[(.loc 2,[]),(.loc 4,[]),(.loc 6,[])])
 | 9=> ([(1,[]),(2,[]),(4,[]),(6,[]),(48,[])],[(.loc 2,[]),(.loc 4,[]),(.loc 6,[])])
 | 10=> ([(4,[]),(5,[])],[(.loc 4,[])])
 | 11=> ([(1,[]),(2,[]),(4,[]),(6,[]),(7,[]),(62,[]),(78,[]),(104,[]),(119,[])],[(.loc 2,[]),(.loc 4,[]),(.loc 6,[])])
 | 12=> ([(4,[]),(5,[])],[(.loc 4,[])])
 | 13=> ([(1,[]),(2,[]),(4,[]),(6,[]),(7,[]),(40,[]),(69,[])],[(.loc 2,[]),(.loc 4,[]),(.loc 6,[])])
 | 14=> ([(1,[]),(2,[]),(4,[]),(6,[]),(7,[]),(62,[]),(78,[]),(104,[]),(119,[])],[(.loc 2,[]),(.loc 4,[]),(.loc 6,[])])
 | 15=> ([(2,[]),(4,[]),(6,[]),(8,[])],[(.loc 2,[]),(.loc 4,[]),(.loc 6,[]),(.loc 8,[])])
 | 16=> ([(2,[]),(4,[]),(6,[]),(8,[]),(94,[])],[(.loc 2,[]),(.loc 4,[]),(.loc 6,[]),(.loc 8,[.any,.own .u64])])
 | 17=> ([(2,[]),(4,[]),(6,[]),(8,[]),(94,[])],[(.loc 2,[]),(.loc 4,[]),(.loc 6,[]),(.loc 8,[.any,.own .u64])])
 | 18=> ([(4,[]),(5,[])],[(.loc 4,[])])
 | 19=> ([(1,[]),(2,[]),(4,[]),(6,[]),(7,[]),(62,[]),(78,[]),(104,[]),(119,[])],[(.loc 2,[]),(.loc 4,[]),(.loc 6,[])])
 | 20=> ([(1,[]),(2,[]),(4,[]),(6,[]),(7,[]),(62,[]),(78,[]),(104,[]),(119,[])],[(.loc 2,[]),(.loc 4,[]),(.loc 6,[])])
 | 21=> ([(4,[]),(5,[])],[(.loc 4,[])])
 | 22=> ([(4,[]),(5,[])],[(.loc 4,[])])
 | _=> ([],[])
def Z4i(t:Tree)(l:List PStep)(v62 v78 v119 v7 v104:V U):LSt U:=(L2 [(1,.c (sU .step l .unk)),(2,.ptr (.loc 2) 0),(4,.ptr (.loc 4) 0),(6,.ptr (.loc 6) 0),(7,v7),(62,v62),(78,v78),(104,v104),(119,v119)] [(.loc 2,(enc .tree t)),(.loc 4,[ci 0,.nils,.nils]),(.loc 6,(enc .step (List.getD l (Int.toNat 0) (PStep.mk 0 0))))])
def Zb0(t:Tree)(l:List PStep)(ml8_1_a:List Int):LSt U:=(L2 [(2,.ptr (.loc 2) 0),(4,.ptr (.loc 4) 0),(6,.ptr (.loc 6) 0),(8,.ptr (.loc 8) 0),(94,.c (.bool (bif (decide (((PStep.at_ (List.getD l (Int.toNat 0) (PStep.mk 0 0))):Int) < (t.words.length:Int))) then (((List.getD t.words (Int.toNat (PStep.at_ (List.getD l (Int.toNat 0) (PStep.mk 0 0)))) (0:Int)):Int) !=0) else false)))] [(.loc 2,(enc .tree t)),(.loc 4,[ci 0,.nils,.nils]),(.loc 6,(enc .step (List.getD l (Int.toNat 0) (PStep.mk 0 0)))),(.loc 8,[ci 1,sU .u64 ml8_1_a (.own (.l 8 1)),.nils])])
abbrev A28(N:Nat)(p:List Nat):=AW (Z0 (ZgK N)) Try.f28 Zq5 p
abbrev S28(N:Nat)(p:List Nat):=SW (Z0 (ZgK N)) Try.f28 Zq5 p
theorem ZwT(N:Nat)(t:Tree)(l:List PStep)(Q:QT)(h:∀ y_1,y_1=t→∀ y_2,y_2=(List.getD l (Int.toNat 0) (PStep.mk 0 0))→∀ y_3,y_3=(.bool (bif (decide ((2:Int)≤t.kind)) then (decide (t.kind≤9)) else false))→∀ y_4,y_4=(List.getD t.kids (Int.toNat (PStep.at_ y_2)) Tree.nil)→∀ y_5,y_5=y_4→let z16:=((PStep.kind y_2):Int)==1;let z15:=((PStep.kind y_2):Int)==0;let z14:=((l.length:Int):Int)==0;let z13:=xB 0 (S28 N [1,1,1,1,1,1] Q);let z11:=decide (((PStep.at_ y_2):Int) < (t.kids.length:Int));let z9:=((PStep.kind y_2):Int)==2;let z8:=decide ((2:Int)≤t.kind);let z4:=List.drop (Int.toNat 1) l;let z3:=((l.length:Int):Int)==1;let z10:=bif z3 then (t.kind==1) else false;let z2:=decide (((PStep.at_ y_2):Int) < 0);let z12:=(!z2) && (t.kind==1);let z6:=bif z2 then true else (bif (t.kind==1) then (decide ((65535:Int)≤(PStep.at_ y_2))) else false);let z1:=decide (((PStep.at_ y_2):Int) < (t.words.length:Int));let z7:=bif z1 then (((List.getD t.words (Int.toNat (PStep.at_ y_2)) (0:Int)):Int) !=0) else false;let z0:=bif z3 then (bif z8 then (decide (t.kind≤9)) else false) else false;let z5:=bif z0 then (decide (((PStep.at_ y_2):Int)≤(t.kids.length:Int))) else false;((z14=true→(Z0u (y_1,()))∧(Q .ret (L2 [(4,.ptr (.loc 4) 0),(5,.c (.bool true))] [(.loc 4,(enc .tree (Z6 y_1)))])))∧(z14=false→((0:Int)≤0∧0 < (l.length:Int))∧((Tr (z8=true))∧(Tr (z8=true))∧(Tr (z8=true))∧((Tr ((!z2)=true))∧(Tr ((!z2)=true))∧(Tr ((!z2)=true))∧(Tr (z12=true))∧(Tr (z12=true))∧((!z2)=true→(True→(!z2)=true))∧((!z2)=true→((t.kind==1)=true→z12=true))∧(z2=false→(!z2)=true)∧((z6=true→(Q .ret (L2 [(4,.ptr (.loc 4) 0),(5,.c (.bool false))] [(.loc 4,[ci 0,.nils,.nils])])))∧(z6=false→((z15=true→((z11=true→((0:Int)≤(PStep.at_ y_2)∧(PStep.at_ y_2) < (t.kids.length:Int))∧((0:Int)≤1∧1≤(l.length:Int))∧(Z8v (y_5,z4,()))∧(ZeN (y_5,z4,()) < N)∧(Q .ret (L2 [(4,.ptr (.loc 4) 0),(5,.c (.bool ((Yh z4 y_5).2)))] [(.loc 4,(enc .tree ((Yh z4 y_5).1)))])))∧(z11=false→(((t.kind==1)=true→((0:Int)≤1∧1≤(l.length:Int))∧(Z8v ((Tree.mk 0 [] []),z4,()))∧(ZeN ((Tree.mk 0 [] []),z4,()) < N)∧(Q .ret (L2 [(4,.ptr (.loc 4) 0),(5,.c (.bool ((Yh z4 (Tree.mk 0 [] [])).2)))] [(.loc 4,(enc .tree ((Yh z4 (Tree.mk 0 [] [])).1)))])))∧((t.kind==1)=false→A28 N [1,1,1,1,1,1] (Z4i t l (.c (.bool (t.kind==1))) .junk .junk .junk .junk) Q)))))∧(z15=false→((z16=true→(Tr (z3=true))∧(Tr (z3=true))∧(Tr (z3=true))∧((z10=true→((Tr (z1=true))∧(Tr (z1=true))∧(Tr (z1=true))∧(Tr (z1=true))∧(z1=true→(0:Int)≤(PStep.at_ y_2)∧(PStep.at_ y_2) < (t.words.length:Int))∧(Tr (z1=true))∧(Tr (z1=true))∧(Tr (z1=true))∧((z7=true→((0:Int)≤(PStep.at_ y_2)∧(PStep.at_ y_2) < (t.words.length:Int))∧(A28 N [1,1,1,1,1,0,1,0,1,1,1,0,1,0,1,1] (Zb0 t l ([List.getD t.words (Int.toNat (PStep.at_ y_2)) (0:Int)])) z13))∧(z7=false→A28 N [1,1,1,1,1,0,1,0,1,1,1,0,1,0,1,1] (Zb0 t l []) z13))))∧(z10=false→A28 N [1,1,1,1,1,1] (Z4i t l .junk (.c (.bool z10)) .junk (.c y_3) .junk) Q)))∧(z16=false→((z9=true→(Tr (z3=true))∧(Tr (z0=true))∧(Tr (z0=true))∧(Tr (z0=true))∧(Tr (z0=true))∧(Tr (z0=true))∧(Tr (z0=true))∧((z5=true→(Q .ret (L2 [(4,.ptr (.loc 4) 0),(5,.c (.bool true))] [(.loc 4,[ci t.kind,.nils,.nils])])))∧(z5=false→A28 N [1,1,1,1,1,1] (Z4i t l .junk .junk (.c (.bool z5)) (.c y_3) (.c (.bool z9))) Q)))∧(z9=false→A28 N [1,1,1,1,1,1] (Z4i t l .junk .junk .junk (.c y_3) (.c (.bool z9))) Q))))))))))))):
  A28 N [] (L2 [(0,.agg (enc .tree t)),(1,.c (sU .step l .unk))] []) Q:=
 Eq.mpr (by kernel_rfl) (h _ (Zc _) _ rfl _ rfl _ rfl _ (Zc _))
theorem Z9b(N:Nat)(t:Tree)(l:List PStep)(v62 v78 v119 v7 v104:V U)(Q:QT)(h:(Q .ret (L2 [(4,.ptr (.loc 4) 0),(5,.c (.bool false))] [(.loc 4,[ci 0,.nils,.nils])]))):
  A28 N [1,1,1,1,1,1] (Z4i t l v62 v78 v119 v7 v104) Q:=
 Eq.mpr (by kernel_rfl) h
theorem Zhm(N:Nat)(t:Tree)(l:List PStep)(ml8_1_a:List Int)(Q:QT)(h:(Q .ret (L2 [(4,.ptr (.loc 4) 0),(5,.c (.bool true))] [(.loc 4,[ci 1,sU .u64 ml8_1_a (.own (.l 4 1)),.nils])]))):
  A28 N [1,1,1,1,1,0,1,0,1,1,1,0,1,0,1,1] (Zb0 t l ml8_1_a) (xB 0 (S28 N [1,1,1,1,1,1] Q)):=
 Eq.mpr (by kernel_rfl) h
def ZuD(N:Nat)(t:Tree)(l:List PStep):Prop:=AW (Z0 (ZgK N)) Try.f28 Zq5 [] (Zm (Zh7.can (t,l,())) []) (EQ Try.f28 (Z1W (t,l,())) [])
theorem ZsM(c45:CT 45 Z0E)(hb:∀ (N:Nat) (t:Tree) (l:List PStep) (_:Unit),Z8v (t,l,())→ZeN (t,l,()) < N+1→ZuD N t l):CT 28 Z9U:=
 ZS (μ:=ZeN) (l:=[(45,Z0E)]) Zk rfl (⟨c45,trivial⟩) Zq5 Try.func28 rfl rfl 2 (fun _=> rfl) (by decide) (fun N ⟨t,l,_⟩=> hb N t l ())
def ZgI:List (FuncId × Fs U):=[]
def Zq3:Zi U:=lvl [([0],[]),([0,3],[]),([0,3,7],[]),([0,3],[]),([0,3,15],[]),([2],[]),([2],[])]
def Z75(l:List PStep)(x3:Int):LSt U:=(L2 [(0,.c (sU .step l .unk)),(3,.c (ci x3))] [])
abbrev A30(p:List Nat):=AW (Z0 ZgI) Try.f30 Zq3 p
abbrev S30(p:List Nat):=SW (Z0 ZgI) Try.f30 Zq3 p
theorem ZwR(l:List PStep)(Q:QT)(h:(Zh (A30 [1,0,1,0,0]) (Z75 l 0) (xB 0 (S30 [1,1] Q)))):
  A30 [] (L2 [(0,.c (sU .step l .unk))] []) Q:=
 Eq.mpr (by kernel_rfl) h
theorem ZoO(l:List PStep)(x3:Int)(N0:NT)(Q:QT)(h:let z1:=decide (x3 < (l.length:Int));let z0:=((PStep.kind (l.getD x3.toNat (PStep.mk 0 0))):Int) !=0;((z1=true→((0:Int)≤x3∧x3 < (l.length:Int))∧((z0=true→(Q .ret (L2 [(2,.c (.bool false))] [])))∧(z0=false→(InR (x3+1))∧(N0 (Z75 l (x3+1))))))∧(z1=false→(Q .ret (L2 [(2,.c (.bool true))] []))))):
  A30 [1,0,1,0,0] (Z75 l x3) (xT N0 (xB 0 (S30 [1,1] Q))):=
 Eq.mpr (by kernel_rfl) h
def ZuB(l:List PStep):Prop:=AW (Z0 ZgI) Try.f30 Zq3 [] (Zm (ZnU.can (l,())) []) (EQ Try.f30 (ZhL (l,())) [])
theorem ZsK(hb:∀ (l:List PStep) (_:Unit),Zi0 (l,())→ZuB l):CT 30 Z9T:=
 Z3 (l:=[]) Zk rfl trivial Zq3 Try.func30 rfl rfl 1 (fun _=> rfl) (by decide) (fun ⟨l,_⟩=> hb l ())
def ZgH:List (FuncId × Fs U):=[]
def Zq2:Zi U:=lvl [([0,1],[]),([0,1,10],[]),([4],[]),([0,1,5],[]),([0,1,5,14],[]),([0,1,5],[]),([0,1,5,25],[]),([4],[]),([4],[])]
def Z74(a b:List PStep)(x5:Int):LSt U:=(L2 [(0,.c (sU .step a .unk)),(1,.c (sU .step b .unk)),(5,.c (ci x5))] [])
abbrev A31(p:List Nat):=AW (Z0 ZgH) Try.f31 Zq2 p
abbrev S31(p:List Nat):=SW (Z0 ZgH) Try.f31 Zq2 p
theorem ZwQ(a b:List PStep)(Q:QT)(h:let z0:=((a.length:Int):Int) !=(b.length:Int);((z0=true→(Q .ret (L2 [(4,.c (.bool false))] [])))∧(z0=false→(Zh (A31 [1,1,0,1,0,0]) (Z74 a b 0) (xB 0 (S31 [1,1,1] Q)))))):
  A31 [] (L2 [(0,.c (sU .step a .unk)),(1,.c (sU .step b .unk))] []) Q:=
 Eq.mpr (by kernel_rfl) h
theorem ZoN(a b:List PStep)(x5:Int)(N0:NT)(Q:QT)(h:let z3:=decide (x5 < (a.length:Int));let z2:=b.getD x5.toNat (PStep.mk 0 0);let z1:=a.getD x5.toNat (PStep.mk 0 0);let z0:= !((((PStep.kind z1):Int)==(PStep.kind z2)) && ((((PStep.at_ z1):Int)==(PStep.at_ z2)) && true));((z3=true→((0:Int)≤x5∧x5 < (a.length:Int))∧((0:Int)≤x5∧x5 < (b.length:Int))∧((z0=true→(Q .ret (L2 [(4,.c (.bool false))] [])))∧(z0=false→(InR (x5+1))∧(N0 (Z74 a b (x5+1))))))∧(z3=false→(Q .ret (L2 [(4,.c (.bool true))] []))))):
  A31 [1,1,0,1,0,0] (Z74 a b x5) (xT N0 (xB 0 (S31 [1,1,1] Q))):=
 Eq.mpr (by kernel_rfl) h
def ZuA(a b:List PStep):Prop:=AW (Z0 ZgH) Try.f31 Zq2 [] (Zm (ZnT.can (a,b,())) []) (EQ Try.f31 (Zed (a,b,())) [])
theorem ZsJ(hb:∀ (a:List PStep) (b:List PStep) (_:Unit),ZhZ (a,b,())→ZuA a b):CT 31 Z9S:=
 Z3 (l:=[]) Zk rfl trivial Zq2 Try.func31 rfl rfl 2 (fun _=> rfl) (by decide) (fun ⟨a,b,_⟩=> hb a b ())
end
end Go.AM.Ytpjenobkibfpcaa
namespace Go.AM.Ytpjenobkibfpcaa
open Go.AM Go.Proofs
noncomputable section
def ZrC:ArgL (Tree × List PStep × Edit × List PStep × Unit):=(.cons (aEl .tree) (.cons (aSl .step) (.cons (aEl .edit) (.cons (aSl .step) .nil))))
def Zp9(a:Tree × List PStep × Edit × List PStep × Unit):Prop:=((Z1n a.1∧rng a.1)∧(∀ s∈a.2.1,isI (PStep.kind s)∧isI (PStep.at_ s)))∧(Z27 a.2.2.1∧Y1 a.2.2.1)∧(∀ s∈a.2.2.2.1,isI (PStep.kind s)∧isI (PStep.at_ s))
def Zec(a:Tree × List PStep × Edit × List PStep × Unit):V U:= .c (.bool true)
def Zhq:Fs U:=fs ZrC (fun a=> [Zp9 a]) Zec
def ZmZ:List (FuncId × Fs U):=[(14,Za0),(15,Z9Z),(16,Z9Y),(17,Z3H),(19,Z9X),(26,Z9V),(27,Z3F),(28,Z9U),(29,Z1l),(30,Z9T),(31,Z9S),(32,Z9R)]
def lv7:Zi U:=lvl [([1,3,4,6],[4,6]),([1,3,4,6,44],[4,6]),([8],[]),([1,3,4,6,9,10],[4,6,9]),([1,3,4,6,9,54],[4,6,9]),([8],[]),([1,3,4,6,9,11,12,13],[4,6,9,11]),([1,3,4,6,9,11,12,13,14],[4,6,9,11]),([1,3,4,9,99],[4,9]),([8],[]),([1,3,4,9,15],[4,9]),([1,3,4,9,15,120],[4,9]),([1,3,4,9,15],[4,9]),([3,4,9,132],[4,9]),([8],[]),([3,4,16,17],[4,16]),([3,4,16,146],[4,16]),([8],[]),([3,16,18,19],[16,18]),([18,19,20,21],[18,20]),([8],[])]
def Z9k(t:Tree)(l:List PStep)(e:Edit)(o:List PStep)(x15:Int):LSt U:=(L2 [(1,.c (sU .step l .unk)),(3,.c (sU .step o .unk)),(4,.ptr (.loc 4) 0),(9,.ptr (.loc 9) 0),(15,.c (ci x15))] [(.loc 4,(enc .tree t)),(.loc 9,(enc .edit ((Je ZU (Edit.mk e.kind (Tree.mk e.old.kind e.old.words e.old.kids) (Tree.mk e.new.kind e.new.words e.new.kids) e.words e.kids e.list e.ops) l (Tree.mk t.kind t.words t.kids)).1)))])
abbrev A7(p:List Nat):=AW (Z0 ZmZ) Try.f7 lv7 p
abbrev S7(p:List Nat):=SW (Z0 ZmZ) Try.f7 lv7 p
theorem vc7(t:Tree)(l:List PStep)(e:Edit)(o:List PStep)(Q:QT)(h:∀ y_1,y_1=e→∀ y_2,y_2=t→∀ y_3,y_3=(Zz y_1)→∀ y_4,y_4=((Je ZU y_1 l y_2).1)→∀ y_5,y_5=((Z2v y_4 l).1)→let z8:=Q .ret (L2 [(8,.c (.bool true))] []);let z7:=Je ZU y_1 l y_2;let z5:= !((Z2v y_4 l).2.2);let z4:=((Edit.kind (z7.1)):Int) !=0;let z3:=bif (!(Z2G y_2)) then true else (!(JZ y_1));let z2:=bif z3 then true else (decide ((70:Int) < (l.length:Int)));let z1:=bif z5 then true else (!(eqX ((Z2v y_4 l).2.1) l));let z0:=bif z4 then (!(bif (e.kind==2) then (((((e.words.length:Int):Int)+(e.kids.length:Int)):Int)==0) else false)) else false;let z6:=bif z1 then true else (bif z0 then (!(eqX y_5 y_3)) else false);((Zes (y_2,()))∧(Tr ((!(!(Z2G y_2)))=true))∧((!(!(Z2G y_2)))=true→Zi2 (y_1,()))∧(Tr ((!(!(Z2G y_2)))=true))∧((!(Z2G y_2))=false→(!(!(Z2G y_2)))=true)∧(Tr ((!z3)=true))∧(Tr ((!z3)=true))∧(z3=false→(!z3)=true)∧(Tr ((!z2)=true))∧(Tr ((!z2)=true))∧(z2=false→(!z2)=true)∧(Tr ((!(bif z2 then true else (decide ((70:Int) < (o.length:Int)))))=true))∧((!(bif z2 then true else (decide ((70:Int) < (o.length:Int)))))=true→Zi0 (o,()))∧(Tr ((!(bif z2 then true else (decide ((70:Int) < (o.length:Int)))))=true))∧((bif z2 then true else (decide ((70:Int) < (o.length:Int))))=false→(!(bif z2 then true else (decide ((70:Int) < (o.length:Int)))))=true)∧(((bif (bif z2 then true else (decide ((70:Int) < (o.length:Int)))) then true else (!(decide (∀ s∈o,PStep.kind s=0))))=true→(Zan ())∧z8)∧((bif (bif z2 then true else (decide ((70:Int) < (o.length:Int)))) then true else (!(decide (∀ s∈o,PStep.kind s=0))))=false→(Zer (y_2,l,y_1,()))∧(((!(z7.2))=true→(Zan ())∧z8)∧((!(z7.2))=false→(Zeq (y_4,l,()))∧((Tr ((e.kind==2)=true))∧(Tr ((e.kind==2)=true))∧(Tr ((e.kind==2)=true))∧(Tr ((e.kind==2)=true))∧(Tr ((e.kind==2)=true))∧(Tr ((e.kind==2)=true))∧((e.kind==2)=true→InR (((e.words.length:Int):Int)+(e.kids.length:Int)))∧(Tr ((e.kind==2)=true))∧(Tr ((e.kind==2)=true))∧((Tr ((!z5)=true))∧(Tr ((!z5)=true))∧((!z5)=true→ZhZ (((Z2v y_4 l).2.1),l,()))∧(Tr ((!z5)=true))∧(z5=false→(!z5)=true)∧(Tr ((!z1)=true))∧(Tr ((!z1)=true))∧(Tr ((!z1)=true))∧(Tr (((!z1) && z4)=true))∧((!z1)=true→(True→(!z1)=true))∧((!z1)=true→(z4=true→((!z1) && z4)=true))∧(Tr ((!z1)=true))∧(Tr (((!z1) && z0)=true))∧(((!z1) && z0)=true→Z3r (y_1,()))∧(Tr (((!z1) && z0)=true))∧(Tr (((!z1) && z0)=true))∧(((!z1) && z0)=true→Z6l (y_5,y_3,()))∧(Tr (((!z1) && z0)=true))∧((!z1)=true→(True→(!z1)=true))∧((!z1)=true→(z0=true→((!z1) && z0)=true))∧(z1=false→(!z1)=true)∧((z6=true→(Q .ret (L2 [(8,.c (.bool false))] [])))∧(z6=false→(Zh (A7 [1,1,1,1,1,1,1,1,0,0,0]) (Z9k t l e o 0) (xB 0 (S7 [1,1,1,1,1,1,1,1,1] Q))))))))))))):
  A7 [] (L2 [(0,.agg (enc .tree t)),(1,.c (sU .step l .unk)),(2,.agg (enc .edit e)),(3,.c (sU .step o .unk))] []) Q:=
 Eq.mpr (by kernel_rfl) (h _ (Ze _) _ (Zc _) _ (Ze _) _ (Ze _) _ (Ze _))
theorem ZrO(t:Tree)(l:List PStep)(e:Edit)(o:List PStep)(x15:Int)(N0:NT)(Q:QT)(h:∀ y_1,y_1=e→∀ y_2,y_2=t→∀ y_3,y_3=(l.getD x15.toNat (PStep.mk 0 0))→∀ y_4,y_4=(o.getD x15.toNat (PStep.mk 0 0))→∀ y_5,y_5=((Yh o y_2).1)→∀ y_6,y_6=((Je ZU y_1 l y_2).1)→∀ y_7,y_7=(Z40 ((doE false y_6 y_2).map Z6))→∀ y_8,y_8=((Yh o y_7).1)→let z9:=Q .ret (L2 [(8,.c (.bool true))] []);let z6:=decide (x15 < (l.length:Int));let z4:=x15==(l.length:Int);let z8:=bif z4 then true else (x15==(o.length:Int));let z2:= !((doE false y_6 y_2).isSome);let z10:=bif z2 then true else (!(Z2G y_7));let z1:= !((Yh o y_2).2);let z7:=(!z1) && ((Yh o y_7).2);let z3:=bif z1 then true else (bif ((Yh o y_7).2) then (Yv y_5 y_8) else false);let z0:=bif z6 then (decide (x15 < (o.length:Int))) else false;let z5:=bif z0 then ((((PStep.kind y_3):Int)==(PStep.kind y_4)) && ((((PStep.at_ y_3):Int)==(PStep.at_ y_4)) && true)) else false;(Tr (z6=true))∧(Tr (z6=true))∧(Tr (z6=true))∧(Tr (z6=true))∧(Tr (z0=true))∧(Tr (z0=true))∧(z0=true→(0:Int)≤x15∧x15 < (l.length:Int))∧(Tr (z0=true))∧(Tr (z0=true))∧(Tr (z0=true))∧(z0=true→(0:Int)≤x15∧x15 < (o.length:Int))∧(Tr (z0=true))∧(Tr (z0=true))∧(Tr (z0=true))∧(Tr (z0=true))∧((z5=true→(InR (x15+1))∧(N0 (Z9k t l e o (x15+1))))∧(z5=false→(Tr ((!z4)=true))∧(Tr ((!z4)=true))∧(Tr ((!z4)=true))∧(z4=false→(!z4)=true)∧((z8=true→(Zan ())∧z9)∧(z8=false→(Zi1 (y_6,y_2,()))∧((Tr ((!z2)=true))∧((!z2)=true→Zes (y_7,()))∧(Tr ((!z2)=true))∧(z2=false→(!z2)=true)∧((z10=true→(Zan ())∧z9)∧(z10=false→(Z8v (y_2,o,()))∧((Z8v (y_7,o,()))∧((Tr ((!z1)=true))∧(Tr (z7=true))∧(Tr (z7=true))∧(z7=true→Z2r (y_5,y_8,()))∧((!z1)=true→(True→(!z1)=true))∧((!z1)=true→(((Yh o y_7).2)=true→z7=true))∧(z1=false→(!z1)=true)∧(z3=true→Zan ())∧(Tr (z3=true))∧(Q .ret (L2 [(8,.c (.bool (bif z3 then true else false)))] [])))))))))))):
  A7 [1,1,1,1,1,1,1,1,0,0,0] (Z9k t l e o x15) (xT N0 (xB 0 (S7 [1,1,1,1,1,1,1,1,1] Q))):=
 Eq.mpr (by kernel_rfl) (h _ (Ze _) _ (Zc _) _ rfl _ rfl _ (Zc _) _ (Ze _) _ (Zc _) _ (Zc _))
def Zwf(t:Tree)(l:List PStep)(e:Edit)(o:List PStep):Prop:=AW (Z0 ZmZ) Try.f7 lv7 [] (Zm (ZrC.can (t,l,e,o,())) []) (EQ Try.f7 (Zec (t,l,e,o,())) [])
theorem Zvw(c14:CT 14 Za0)(c15:CT 15 Z9Z)(c16:CT 16 Z9Y)(c17:CT 17 Z3H)(c19:CT 19 Z9X)(c26:CT 26 Z9V)(c27:CT 27 Z3F)(c28:CT 28 Z9U)(c29:CT 29 Z1l)(c30:CT 30 Z9T)(c31:CT 31 Z9S)(c32:CT 32 Z9R)(hb:∀ (t:Tree) (l:List PStep) (e:Edit) (o:List PStep) (_:Unit),Zp9 (t,l,e,o,())→Zwf t l e o):CT 7 Zhq:=
 Z3 (l:=[(14,Za0),(15,Z9Z),(16,Z9Y),(17,Z3H),(19,Z9X),(26,Z9V),(27,Z3F),(28,Z9U),(29,Z1l),(30,Z9T),(31,Z9S),(32,Z9R)]) Zk rfl (⟨c14,c15,c16,c17,c19,c26,c27,c28,c29,c30,c31,c32,trivial⟩) lv7 Try.func7 rfl rfl 4 (fun _=> rfl) (by decide) (fun ⟨t,l,e,o,_⟩=> hb t l e o ())
end
end Go.AM.Ytpjenobkibfpcaa
namespace Go.AM.Ytpjenobkibfpcaa
open Go.AM Go.Proofs
theorem c28:Contract Try.prog cfg 28 Z9U:=by
 refine ZsM c45 ?_
 intro N t l _ hp hN
 simp only [Z8v,ZeN] at hp hN
 refine ZwT _ _ _ _ ?_
 rintro y1 rfl y2 hy2 y3 hy3 y4 hy4 y5 rfl
 cases l with
 | nil=>
  (simp only [vcT,vcS])
  refine ⟨fun _=> ⟨by simp only [Z0u];exact hp.1,?_⟩,fun h=> absurd rfl h⟩
  simp only [Z1W,Yh]
  (repeat' (first | exact trivial | exact rfl | apply And.intro))
 | cons s l=>
  have e2:y2=s:=hy2
  subst e2
  dsimp only at hy4
  have hm:Zj y5≤1000000000000:=by have:=Z2w y1 y2.at_.toNat;rw [hy4];omega
  rw [List.length_cons] at hp hN
  (simp only [vcT,vcS])
  have hnil:∀ a:Bool,y2.at_ < 0∨(y1.kind=1∧65535≤y2.at_)→Yh (y2 ::l) y1=(Tree.nil,false):=fun _ h=> by rw [Yh,if_pos h]
  refine ⟨fun h=> ?_,fun _=> ⟨by simp only [List.length_cons];omega,fun a b=> ⟨a,b⟩,fun h=> ?_,fun h=> ⟨fun h0=> ⟨fun hk=> ⟨⟨by omega,hk⟩,by simp only [List.length_cons];omega,⟨hm,by simp only [List.drop_succ_cons,List.drop_zero,Int.toNat_one];omega⟩,by simp only [ZeN,List.drop_succ_cons,List.drop_zero,Int.toNat_one];omega,?_⟩,fun hk=> ⟨fun h1=> ⟨by simp only [List.length_cons];omega,⟨by simp [Zj,Zb],by simp only [List.drop_succ_cons,List.drop_zero,Int.toNat_one];omega⟩,by simp only [ZeN,List.drop_succ_cons,List.drop_zero,Int.toNat_one];omega,?_⟩,fun h1=> ?_⟩⟩,fun h0=> ⟨fun h1=> ⟨fun hl=> ⟨fun hw=> ⟨by omega,hw⟩,fun hw=> ⟨⟨by omega,hw.1⟩,?_⟩,fun hw=> ?_⟩,fun hl=> ?_⟩,fun h1=> ⟨fun h2=> ⟨fun hl=> ?_,fun hl=> ?_⟩,fun h2=> ?_⟩⟩⟩⟩⟩
  ·simp only [List.length_cons] at h;omega
  ·simp only [Z1W,hnil true h]
   (repeat' (first | exact trivial | exact rfl | apply And.intro))
  ·simp only [Z1W,Yh,if_neg (show ¬(y2.at_ < 0∨(y1.kind=1∧65535≤y2.at_)) by omega),if_pos h0,if_pos hk,←hy4]
   (repeat' (first | exact trivial | exact rfl | apply And.intro))
  ·simp only [Z1W,Yh,if_neg (show ¬(y2.at_ < 0∨(y1.kind=1∧65535≤y2.at_)) by omega),if_pos h0,if_neg hk,if_pos h1]
   (repeat' (first | exact trivial | exact rfl | apply And.intro))
  ·refine Z9b _ _ _ _ _ _ _ _ _ ?_
   simp only [Z1W,Yh,if_neg (show ¬(y2.at_ < 0∨(y1.kind=1∧65535≤y2.at_)) by omega),if_pos h0,if_neg hk,if_neg h1]
   (repeat' (first | exact trivial | exact rfl | apply And.intro))
  ·refine Zhm _ _ _ _ _ ?_
   simp only [List.length_cons] at hl
   simp only [Z1W,Yh,if_neg (show ¬(y2.at_ < 0∨(y1.kind=1∧65535≤y2.at_)) by omega),if_neg h0,if_pos h1,if_pos (show l.length=0∧y1.kind=1 by omega),if_pos (show y2.at_ < y1.words.length∧y1.words.getD y2.at_.toNat 0≠0 from hw)]
   (repeat' (first | exact trivial | exact rfl | apply And.intro))
  ·refine Zhm _ _ _ _ _ ?_
   simp only [List.length_cons] at hl
   simp only [Z1W,Yh,if_neg (show ¬(y2.at_ < 0∨(y1.kind=1∧65535≤y2.at_)) by omega),if_neg h0,if_pos h1,if_pos (show l.length=0∧y1.kind=1 by omega),if_neg (show ¬(y2.at_ < y1.words.length∧y1.words.getD y2.at_.toNat 0≠0) by omega)]
   (repeat' (first | exact trivial | exact rfl | apply And.intro))
  ·refine Z9b _ _ _ _ _ _ _ _ _ ?_
   simp only [List.length_cons] at hl
   simp only [Z1W,Yh,if_neg (show ¬(y2.at_ < 0∨(y1.kind=1∧65535≤y2.at_)) by omega),if_neg h0,if_pos h1,if_neg (show ¬(l.length=0∧y1.kind=1) by omega)]
   (repeat' (first | exact trivial | exact rfl | apply And.intro))
  ·simp only [List.length_cons] at hl
   simp only [Z1W,Yh,if_neg (show ¬(y2.at_ < 0∨(y1.kind=1∧65535≤y2.at_)) by omega),if_neg h0,if_neg h1,if_pos h2,if_pos (show l.length=0∧(2≤y1.kind∧y1.kind≤9)∧y2.at_≤y1.kids.length by omega)]
   (repeat' (first | exact trivial | exact rfl | apply And.intro))
  ·refine Z9b _ _ _ _ _ _ _ _ _ ?_
   simp only [List.length_cons] at hl
   simp only [Z1W,Yh,if_neg (show ¬(y2.at_ < 0∨(y1.kind=1∧65535≤y2.at_)) by omega),if_neg h0,if_neg h1,if_pos h2,if_neg (show ¬(l.length=0∧(2≤y1.kind∧y1.kind≤9)∧y2.at_≤y1.kids.length) by omega)]
   (repeat' (first | exact trivial | exact rfl | apply And.intro))
  ·refine Z9b _ _ _ _ _ _ _ _ _ ?_
   simp only [Z1W,Yh,if_neg (show ¬(y2.at_ < 0∨(y1.kind=1∧65535≤y2.at_)) by omega),if_neg h0,if_neg h1,if_neg h2]
   (repeat' (first | exact trivial | exact rfl | apply And.intro))
theorem c30:Contract Try.prog cfg 30 Z9T:=by
 refine ZsK ?_
 intro l _ hp
 simp only [Zi0] at hp
 refine ZwR _ _ ?_
 refine Za (ι:=Int) (fun i=> Z75 l i) (fun i=> (0≤i∧i≤l.length)∧((∀ s∈l,s.kind=0)↔∀ s∈l.drop i.toNat,s.kind=0)) (fun i=> ((l.length:Int) - i).toNat) 0 rfl ⟨⟨by omega,by omega⟩,by simp⟩ ?_
 rintro i ⟨⟨h1,h2⟩,h3⟩
 refine ZoO _ _ _ _ ?_
 (simp only [vcT,vcS])
 refine ⟨fun hi=> ⟨⟨h1,hi⟩,fun hk=> ?_,fun hk=> ?_⟩,fun hi=> ?_⟩
 ·rw [ZR h1 hi ⟨0,0⟩] at h3
  have:¬∀ s∈l,s.kind=0:=fun h=> hk ((h3.1 h) _ List.mem_cons_self)
  simp only [ZhL,decide_eq_false this]
  (repeat' (first | exact trivial | exact rfl | apply And.intro))
 ·rw [ZR h1 hi ⟨0,0⟩] at h3
  refine ⟨by unfold InR;omega,i+1,rfl,⟨⟨by omega,by omega⟩,?_⟩,by omega⟩
  rw [h3]
  exact ⟨fun h s hs=> h s (List.mem_cons_of_mem _ hs),fun h s hs=> by
   rcases List.mem_cons.1 hs with rfl | hs
   ·exact hk
   ·exact h s hs⟩
 ·rw [List.drop_of_length_le (by omega)] at h3
  simp only [ZhL,decide_eq_true (h3.2 (fun _ h=> by cases h))]
  (repeat' (first | exact trivial | exact rfl | apply And.intro))
theorem c31:Contract Try.prog cfg 31 Z9S:=by
 refine ZsJ ?_
 intro a b _ hp
 simp only [ZhZ] at hp
 refine ZwQ _ _ _ ?_
 (simp only [vcT,vcS])
 refine ⟨fun h=> ?_,fun h=> ?_⟩
 ·have:eqX a b=false:=by unfold eqX;rw [decide_eq_false_iff_not];exact fun e=> h (by rw [e])
  simp only [Zed,this]
  (repeat' (first | exact trivial | exact rfl | apply And.intro))
 refine Za (ι:=Int) (fun i=> Z74 a b i) (fun i=> (0≤i∧i≤a.length)∧(a=b↔a.drop i.toNat=b.drop i.toNat)) (fun i=> ((a.length:Int) - i).toNat) 0 rfl ⟨⟨by omega,by omega⟩,by simp⟩ ?_
 rintro i ⟨⟨h1,h2⟩,h3⟩
 refine ZoN _ _ _ _ _ ?_
 (simp only [vcT,vcS])
 have hx:∀ hi:i < a.length,a.drop i.toNat=a.getD i.toNat ⟨0,0⟩ ::a.drop (i+1).toNat∧b.drop i.toNat=b.getD i.toNat ⟨0,0⟩ ::b.drop (i+1).toNat:=fun hi=> ⟨ZR h1 hi _,ZR h1 (by omega) _⟩
 refine ⟨fun hi=> ⟨⟨h1,hi⟩,⟨h1,by omega⟩,fun hk=> ?_,fun hk=> ⟨by unfold InR;omega,i+1,rfl,⟨⟨by omega,by omega⟩,?_⟩,by omega⟩⟩,fun hi=> ?_⟩
 ·have:eqX a b=false:=by
   unfold eqX
   rw [decide_eq_false_iff_not]
   intro e
   rw [e] at hk
   exact absurd (hk rfl rfl) (by decide)
  simp only [Zed,this]
  (repeat' (first | exact trivial | exact rfl | apply And.intro))
 ·rw [h3,(hx hi).1,(hx hi).2]
  have e:a.getD i.toNat ⟨0,0⟩=b.getD i.toNat ⟨0,0⟩:=by
   generalize a.getD i.toNat ⟨0,0⟩=x at hk ⊢
   generalize b.getD i.toNat ⟨0,0⟩=y at hk ⊢
   cases x;cases y
   rw [PStep.mk.injEq];exact hk
  rw [e]
  simp
 ·rw [List.drop_of_length_le (by omega),List.drop_of_length_le (by omega)] at h3
  have:eqX a b=true:=by
   rw [h3.2 rfl]
   exact Z2I _
  simp only [Zed,this]
  (repeat' (first | exact trivial | exact rfl | apply And.intro))
end Go.AM.Ytpjenobkibfpcaa
namespace Go.AM.Ytpjenobkibfpcaa
open Go.AM Go.Proofs
theorem Zd1:∀ (l:List PStep) (e:Edit) (d:Int) (m:List PStep),Z4 e d=true→Y1 e→(Zg (Z0G l e m).1≤Zg e∧Y1 (Z0G l e m).1∧∃ d,Z4 (Z0G l e m).1 d=true)∧(Z0G l e m).2.1.length≤m.length+l.length
 | [],e,d,m,hr,hg=> by rw [Z0G];exact ⟨⟨Nat.le_refl _,hg,d,hr⟩,by simp⟩
 | s ::l,e,d,m,hr,hg=> by
  have hno:(Zg Edit.nil≤Zg e∧Y1 Edit.nil∧∃ d,Z4 Edit.nil d=true)∧([]:List PStep).length≤m.length+(s ::l).length:=by
   have:=Z46 e
   exact ⟨⟨by rw [Z09];omega,Z0s,64,Z0Q⟩,by simp⟩
  rw [Z0G]
  split
  ·exact hno
  ·split
   ·obtain ⟨h1,h2,d',h3⟩:=ZiG hr hg s.at_
    have ih:=Zd1 l _ d' (m++[s]) h3 h2
    simp only [List.length_append,List.length_cons,List.length_nil] at ih ⊢
    exact ⟨⟨by omega,ih.1.2⟩,by omega⟩
   ·split
    ·split
     ·rename_i h4
      obtain ⟨h1,h2,d',h3⟩:=Zrr hr hg (Z52 _ _ _ _ h4)
      have ih:=Zd1 l _ d' (m++[⟨s.kind,(YL e.ops s.at_ 0 0).2.1⟩]) h3 h2
      simp only [List.length_append,List.length_cons,List.length_nil] at ih ⊢
      exact ⟨⟨by omega,ih.1.2⟩,by omega⟩
     ·exact hno
    ·have ih:=Zd1 l e d (m++[s]) hr hg
     simp only [List.length_append,List.length_cons,List.length_nil] at ih ⊢
     exact ⟨ih.1,by omega⟩
theorem Zpd{l:List PStep}{e:Edit}{d:Int}(hr:Z4 e d=true)(hg:Y1 e):Zg (Z2v e l).1≤Zg e∧Y1 (Z2v e l).1∧(∃ d,Z4 (Z2v e l).1 d=true)∧(Z2v e l).2.1.length≤l.length:=by
 obtain ⟨⟨h1,h2,d',h3⟩,h4⟩:=Zd1 l e d [] hr hg
 unfold Z2v
 split
 ·have:=Z4P (Z0G l e []).1
  exact ⟨by dsimp only;omega,Z4C _ d' h3 h2,⟨d',Z1r _ _ h3⟩,by simpa using h4⟩
 ·have:=Z46 e
  exact ⟨by dsimp only;rw [Z09];omega,Z0s,⟨64,Z0Q⟩,by simp⟩
theorem Z84:∀ (l:List PStep) (t:Tree),Zj (Yh l t).1≤Zj t+1
 | [],t=> by rw [Yh];have:=Ju t;dsimp only;omega
 | s ::l,t=> by
  have h1:=Z0w t
  have hz:Zj Tree.nil≤Zj t+1:=by simp only [Tree.nil,Zj,Zb,List.length_nil];omega
  rw [Yh]
  split
  ·exact hz
  ·split
   ·split
    ·have:=Z84 l (t.kids.getD s.at_.toNat Tree.nil)
     have:=Z2w t s.at_.toNat
     omega
    ·split
     ·have:=Z84 l Tree.nil
      simp only [Tree.nil,Zj,Zb,List.length_nil] at this ⊢
      omega
     ·exact hz
   ·split
    ·split
     ·simp only [Zj,Zb]
      split <;> simp only [List.length_cons,List.length_nil] <;> omega
     ·exact hz
    ·split
     ·split
      ·simp only [Zj,Zb,List.length_nil];omega
      ·exact hz
     ·exact hz
theorem Zhw{o:Option Tree}(h:o.isSome=true):∃ v,o=some v:=by cases o with | none=> cases h | some v=> exact ⟨v,rfl⟩
end Go.AM.Ytpjenobkibfpcaa
namespace Go.AM.Ytpjenobkibfpcaa
open Go.AM Go.Proofs
theorem Zcu{e:Edit}{l:List PStep}{t:Tree}(hw:(Je ZU e l t).2=true):(Zp ZU e l t).2=true∧Z4 (Zp ZU e l t).1 64=true∧(Je ZU e l t).1=Zz (Zp ZU e l t).1:=by
 unfold Je at hw ⊢
 split at hw
 ·rename_i h
  rw [if_pos h]
  exact ⟨h.1,h.2,rfl⟩
 ·cases hw
theorem ZdL{e:Edit}{l:List PStep}{t:Tree}(hw:(Je ZU e l t).2=true):∃ z,Z2v (Je ZU e l t).1 l=(Zz z,l,true)∧((Je ZU e l t).1.kind≠0→Z8U e=false→Zz z=Zz e):=by
 obtain ⟨h1,h2,h3⟩:=Zcu hw
 obtain ⟨z,i1,i2⟩:=ZdM l t [] h1
 rw [h3]
 refine ⟨z,by rw [Z2v,i1,if_pos rfl,List.nil_append],fun k0 hi=> ?_⟩
 rw [Z2t] at k0
 rw [i2 k0 hi,Z7N]
theorem Z9s{e:Edit}{l o:List PStep}{t v:Tree}(hw:(Je ZU e l t).2=true)(ht:RT_ t)(hg:Y1 (Zp ZU e l t).1)(hv:doE false (Je ZU e l t).1 t=some v)(ha:Z1J l o=true)(hk:∀ s∈o,s.kind=0)(hp:(Yh o t).2=true):Yh o (Z6 v)=Yh o t:=by
 obtain ⟨h1,h2,h3⟩:=Zcu hw
 rw [h3] at hv
 have q:=Zga _ 64 t h2 ht
 rw [hv] at q
 cases hx:doE false (Zp ZU e l t).1 t with
 | none=> rw [hx] at q;exact absurd q id
 | some v'=>
  rw [hx] at q
  have hr:=Zfg h2 ht hg hx
  have hn:Z6 v=Z6 v':=q
  rw [←Z3w l o t v' h1 ha hk hx hp,hn]
  exact Zfb hk ⟨⟨_,Z1V _ _ hr.1.choose_spec⟩,Z1p _ hr.2⟩ hr (Znk v')
theorem c7:Contract Try.prog cfg 7 Zhq:=by
 refine Zvw c14 c15 c16 c17 c19 c26 c27 c28 c29 c30 c31 Ztj.1 ?_
 intro t l e o _ hp
 simp only [Zp9] at hp
 obtain ⟨⟨⟨ht,hr⟩,hl⟩,⟨he,hre⟩,ho⟩:=hp
 refine vc7 _ _ _ _ _ ?_
 rintro y1 rfl y2 rfl y3 hy3 y4 hy4 y5 hy5
 dsimp only at hy3 hy4 hy5
 (simp only [vcT,vcS])
 refine ⟨⟨ht,hr⟩,fun _=> ⟨he,hre⟩,fun h=> by show o.length≤1000;omega,fun _=> ⟨trivial,by simp only [Zec];(repeat' (first | exact trivial | exact rfl | apply And.intro))⟩,fun hg=> ?_⟩
 obtain ⟨⟨⟨⟨g1,g2⟩,g3⟩,g4⟩,g5⟩:=hg
 obtain ⟨_,rt,r64,_⟩:=Znf g1 hr
 have hm:=ZvF g1
 obtain ⟨_,gm,gr⟩:=Znd g2 hre
 have m1:=Z5M (f:=ZU) (fun len i x _ _=> by have:=Zc2 len i x;omega) y1 l y2
 have r1:=Z7u (f:=ZU) Ze1 hre l y2 (by omega)
 refine ⟨⟨⟨⟨by dsimp only;omega,hr⟩,by dsimp only;omega,hre⟩,hl,by dsimp only;omega⟩,fun _=> ⟨trivial,by simp only [Zec];(repeat' (first | exact trivial | exact rfl | apply And.intro))⟩,fun hw=> ?_⟩
 obtain ⟨w1,w2,w3⟩:=Zcu hw
 rw [←hy4] at w3
 have m4:Zg y4≤100000:=by have:=Z4P (Zp ZU y1 l y2).1;rw [w3];omega
 have rr4:Z4 y4 64=true:=by rw [w3];exact Z1r _ _ w2
 have rg4:Y1 y4:=by rw [w3];exact Z4C _ 64 w2 r1
 obtain ⟨z,n1,n2⟩:=ZdL hw
 rw [←hy4] at n1 n2
 have m5:Zg y5≤20000000000:=by have:=(Zpd (l:=l) rr4 rg4).1;rw [hy5];omega
 have hcnt:y1.words.length+y1.kids.length≤3000:=by
  have h1:Zg y1=1+Zj y1.old+Zj y1.new+y1.words.length+y1.ops.length+ZN y1.kids+Zd y1.ops:=by cases y1;rfl
  have h2:=Y4 y1.kids
  omega
 refine ⟨⟨⟨by dsimp only;omega,rg4,64,rr4⟩,by dsimp only;omega⟩,fun _=> by unfold InR;omega,fun _=> by rw [n1];show l.length≤1000;omega,fun a b=> ⟨a,b⟩,fun _=> ⟨by dsimp only;omega,64,gr⟩,fun _=> m5,fun a b=> ⟨a,b⟩,fun h=> ?_,fun h=> ?_⟩
 ·exfalso
  rw [n1] at h hy5
  have e:eqX l l=true:=Z2I l
  rcases h with h | h
  ·rcases h with h | h
   ·cases h
   ·rw [show (Zz z,l,true).2.1=l from rfl,e] at h;cases h
  ·have hi:Z8U y1=false:=by
    unfold Z8U
    exact decide_eq_false fun hx=> by
     rcases h.1.2 with h2 | h2
     ·exact h2 hx.1
     ·exact h2 (by omega)
   have:=n2 (by rw [hy4];exact h.1.1) hi
   rw [hy5,hy3] at h
   rw [show (Zz z,l,true).1=Zz z from rfl,this,Z2I] at h
   cases h.2
 refine Za (ι:=Int) (fun i=> Z9k y2 l y1 o i) (fun i=> (0≤i∧i≤l.length∧i≤o.length)∧Z1J l o=Z1J (l.drop i.toNat) (o.drop i.toNat)) (fun i=> ((l.length:Int) - i).toNat) 0 rfl ⟨⟨by omega,by omega,by omega⟩,by simp⟩ ?_
 rintro i ⟨⟨h1,h2,h3⟩,h4⟩
 refine ZrO _ _ _ _ _ _ _ ?_
 rintro a1 rfl a2 rfl a3 ha3 a4 ha4 a5 ha5 a6 ha6 a7 ha7 a8 ha8
 (simp only [vcT,vcS])
 refine ⟨fun h=> ⟨h1,h.1⟩,fun h=> ⟨h1,h.2⟩,fun h=> ⟨by unfold InR;omega,i+1,rfl,⟨⟨by omega,by omega,by omega⟩,?_⟩,by omega⟩,fun h=> ⟨fun _=> ⟨trivial,by simp only [Zec];(repeat' (first | exact trivial | exact rfl | apply And.intro))⟩,fun hne=> ?_⟩⟩
 ·rw [h4,ZR h1 h.1.1 ⟨0,0⟩,ZR h1 h.1.2 ⟨0,0⟩,←ha3,←ha4,Z1J,if_pos]
  cases a3;cases a4
  rw [PStep.mk.injEq];exact h.2
 ·have hap:Z1J l o=true:=by
   rw [h4,ZR h1 (by omega) ⟨0,0⟩,ZR h1 (by omega) ⟨0,0⟩,←ha3,←ha4,Z1J,if_neg]
   intro e
   rcases h with h | h
   ·omega
   ·exact absurd (h (by rw [e]) (by rw [e])) (by decide)
  have e6:a6=y4:=by rw [ha6,hy4]
  have hct:=Zdl y4
  rw [e6] at ha7 ⊢
  have m7:Zj a7≤1000000000000:=by rw [ha7];exact Zge ⟨64,rr4⟩ (by omega)
  refine ⟨⟨⟨by dsimp only;omega,rg4,64,rr4⟩,by dsimp only;omega,hr⟩,fun hs=> ?_,fun _=> ⟨trivial,by simp only [Zec];(repeat' (first | exact trivial | exact rfl | apply And.intro))⟩,fun hs=> ?_⟩
  ·obtain ⟨v,hv⟩:=Zhw hs
   rw [hv] at ha7
   have hv':=Zfg rr4 rt rg4 hv
   exact ⟨Z5a _ (by dsimp only;omega),by rw [ha7];exact Z1p _ hv'.2⟩
  ·obtain ⟨v,hv⟩:=Zhw hs.1
   rw [hv] at ha7
   have ha7:a7=Z6 v:=ha7
   have m5':=Z84 o a2
   rw [←ha5] at m5'
   refine ⟨⟨by dsimp only;omega,by dsimp only;omega⟩,⟨by dsimp only;omega,by dsimp only;omega⟩,fun _=> by show Zj a5≤1000000000000;omega,fun a b=> ⟨a,b⟩,fun _=> trivial,?_⟩
   cases hb:(Yh o a2).2 with
   | false=>
    simp only [Zec]
    (repeat' (first | exact trivial | exact rfl | apply And.intro))
   | true=>
    have hq:=Z9s hw rt r1 (by rw [←hy4];exact hv) hap g5 hb
    rw [←ha7] at hq
    rw [hq,hb,ha8,hq,←ha5,ZfF]
    simp only [Zec]
    (repeat' (first | exact trivial | exact rfl | apply And.intro))
end Go.AM.Ytpjenobkibfpcaa
