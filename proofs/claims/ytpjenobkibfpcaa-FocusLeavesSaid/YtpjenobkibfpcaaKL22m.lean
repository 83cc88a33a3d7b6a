import Derived.Test.YtpjenobkibfpcaaKD24
import Derived.Test.YtpjenobkibfpcaaKD20
import Derived.Test.YtpjenobkibfpcaaKRB07
import Derived.Test.YtpjenobkibfpcaaKB07
set_option linter.unusedSimpArgs false
set_option linter.unusedVariables false
namespace Go.AM.Ytpjenobkibfpcaa
open Go.AM Go.Proofs
noncomputable section
def ZnP:ArgL (List Tree × List Tree × Unit):=(.cons (aSl .tree) (.cons (aSl .tree) .nil))
def Zep(a:List Tree × List Tree × Unit):Prop:=Zb a.1≤20000000000
def Zrg(a:List Tree × List Tree × Unit):V U:= .c (.bool (eqX a.1 a.2.1))
def Z9L:Fs U:=fs ZnP (fun a=> [Zep a]) Zrg
def Zh8:ArgL (Edit × Edit × Unit):=(.cons (aEl .edit) (.cons (aEl .edit) .nil))
def Z6l(a:Edit × Edit × Unit):Prop:=Zg a.1≤20000000000
def ZeO(a:Edit × Edit × Unit):Nat:=Zg a.1
def ZlJ(a:Edit × Edit × Unit):V U:= .c (.bool (eqX a.1 a.2.1))
def Z9X:Fs U:=fs Zh8 (fun a=> [Z6l a]) ZlJ
def ZgE:List (FuncId × Fs U):=[(29,Z1l)]
def ZpZ:Zi U:=lvl [([0,1],[]),([0,1,10],[]),([4],[]),([0,1,5],[]),([0,1,5,14],[]),([0,1,5],[]),([0,1,5,26],[]),([4],[]),([4],[])]
def Z71(a b:List Tree)(x5:Int):LSt U:=(L2 [(0,.c (sU .tree a .unk)),(1,.c (sU .tree b .unk)),(5,.c (ci x5))] [])
abbrev A59(p:List Nat):=AW (Z0 ZgE) Try.f59 ZpZ p
abbrev S59(p:List Nat):=SW (Z0 ZgE) Try.f59 ZpZ p
theorem ZwG(a b:List Tree)(Q:QT)(h:let z0:=((a.length:Int):Int) !=(b.length:Int);((z0=true→(Q .ret (L2 [(4,.c (.bool false))] [])))∧(z0=false→(Zh (A59 [1,1,0,1,0,0]) (Z71 a b 0) (xB 0 (S59 [1,1,1] Q)))))):
  A59 [] (L2 [(0,.c (sU .tree a .unk)),(1,.c (sU .tree b .unk))] []) Q:=
 Eq.mpr (by kernel_rfl) h
theorem ZoG(a b:List Tree)(x5:Int)(N0:NT)(Q:QT)(h:let z5:=decide (x5 < (a.length:Int));let z4:=a.getD x5.toNat Tree.nil;let z3:=b.getD x5.toNat Tree.nil;let z2:=Tree.mk (Tree.kind z3) (Tree.words z3) (Tree.kids z3);let z1:=Tree.mk (Tree.kind z4) (Tree.words z4) (Tree.kids z4);let z0:= !(Yv z1 z2);((z5=true→((0:Int)≤x5∧x5 < (a.length:Int))∧((0:Int)≤x5∧x5 < (b.length:Int))∧(Z2r (z1,z2,()))∧((z0=true→(Q .ret (L2 [(4,.c (.bool false))] [])))∧(z0=false→(InR (x5+1))∧(N0 (Z71 a b (x5+1))))))∧(z5=false→(Q .ret (L2 [(4,.c (.bool true))] []))))):
  A59 [1,1,0,1,0,0] (Z71 a b x5) (xT N0 (xB 0 (S59 [1,1,1] Q))):=
 Eq.mpr (by kernel_rfl) h
def Zuq(a b:List Tree):Prop:=AW (Z0 ZgE) Try.f59 ZpZ [] (Zm (ZnP.can (a,b,())) []) (EQ Try.f59 (Zrg (a,b,())) [])
theorem ZsB(c29:CT 29 Z1l)(hb:∀ (a:List Tree) (b:List Tree) (_:Unit),Zep (a,b,())→Zuq a b):CT 59 Z9L:=
 Z3 (l:=[(29,Z1l)]) Zk rfl (⟨c29,trivial⟩) ZpZ Try.func59 rfl rfl 2 (fun _=> rfl) (by decide) (fun ⟨a,b,_⟩=> hb a b ())
def ZgN(N:Nat):List (FuncId × Fs U):=(19,fs Zh8 (fun a=> [Z6l a,ZeO a < N]) ZlJ) ::[(29,Z1l),(59,Z9L)]
def Zq8:Zi U:=lvl [([2,3],[2,3]),([2,3,64],[2,3]),([4],[]),([2,3,5],[2,3]),([2,3,5,69],[2,3]),([2,3,5],[2,3]),([2,3,5,82],[2,3]),([4],[]),([2,3,6],[2,3]),([2,3,6,87],[2,3]),([2,3,6],[2,3]),([2,3,6,118],[2,3]),([4],[]),([2,3,7],[2,3]),([2,3,7,123],[2,3]),([2,3,7],[2,3]),([2,3,7,8,9],[2,3,8,9]),([2,3,7,163],[2,3]),([4],[]),([4],[])]
def Z7c(a b:Edit)(x5:Int):LSt U:=(L2 [(2,.ptr (.loc 2) 0),(3,.ptr (.loc 3) 0),(5,.c (ci x5))] [(.loc 2,(enc .edit a)),(.loc 3,(enc .edit b))])
def Z7b(a b:Edit)(x6_a:Int):LSt U:=(L2 [(2,.ptr (.loc 2) 0),(3,.ptr (.loc 3) 0),(6,.c (ci x6_a))] [(.loc 2,(enc .edit a)),(.loc 3,(enc .edit b))])
def Z7a(a b:Edit)(x7_b:Int):LSt U:=(L2 [(2,.ptr (.loc 2) 0),(3,.ptr (.loc 3) 0),(7,.c (ci x7_b))] [(.loc 2,(enc .edit a)),(.loc 3,(enc .edit b))])
abbrev A19(N:Nat)(p:List Nat):=AW (Z0 (ZgN N)) Try.f19 Zq8 p
abbrev S19(N:Nat)(p:List Nat):=SW (Z0 (ZgN N)) Try.f19 Zq8 p
theorem ZwX(N:Nat)(a b:Edit)(Q:QT)(h:∀ y_1,y_1=(a.new)→∀ y_2,y_2=(b.new)→∀ y_3,y_3=(a.old)→∀ y_4,y_4=(b.old)→let z5:=a.kind !=b.kind;let z3:=bif z5 then true else (a.list !=b.list);let z1:=bif z3 then true else (!(Yv y_3 y_4));let z4:=bif z1 then true else (!(Yv y_1 y_2));let z0:=bif z4 then true else (((a.words.length:Int):Int) !=(b.words.length:Int));let z2:=bif z0 then true else (((a.kids.length:Int):Int) !=(b.kids.length:Int));let z6:=bif z2 then true else (((a.ops.length:Int):Int) !=(b.ops.length:Int));((Tr ((!z5)=true))∧(Tr ((!z5)=true))∧(Tr ((!z5)=true))∧(Tr ((!z5)=true))∧(z5=false→(!z5)=true)∧(Tr ((!z3)=true))∧(Tr ((!z3)=true))∧(Tr ((!z3)=true))∧(Tr ((!z3)=true))∧((!z3)=true→Z2r (y_3,y_4,()))∧(Tr ((!z3)=true))∧(z3=false→(!z3)=true)∧(Tr ((!z1)=true))∧(Tr ((!z1)=true))∧(Tr ((!z1)=true))∧(Tr ((!z1)=true))∧((!z1)=true→Z2r (y_1,y_2,()))∧(Tr ((!z1)=true))∧(z1=false→(!z1)=true)∧(Tr ((!z4)=true))∧(Tr ((!z4)=true))∧(Tr ((!z4)=true))∧(Tr ((!z4)=true))∧(Tr ((!z4)=true))∧(Tr ((!z4)=true))∧(z4=false→(!z4)=true)∧(Tr ((!z0)=true))∧(Tr ((!z0)=true))∧(Tr ((!z0)=true))∧(Tr ((!z0)=true))∧(Tr ((!z0)=true))∧(Tr ((!z0)=true))∧(z0=false→(!z0)=true)∧(Tr ((!z2)=true))∧(Tr ((!z2)=true))∧(Tr ((!z2)=true))∧(Tr ((!z2)=true))∧(Tr ((!z2)=true))∧(Tr ((!z2)=true))∧(z2=false→(!z2)=true)∧((z6=true→(Q .ret (L2 [(4,.c (.bool false))] [])))∧(z6=false→(Zh (A19 N [1,1,0,1,0,0]) (Z7c a b 0) (xB 0 (S19 N [1,1,1] Q))))))):
  A19 N [] (L2 [(0,.agg (enc .edit a)),(1,.agg (enc .edit b))] []) Q:=
 Eq.mpr (by kernel_rfl) (h _ (Zc _) _ (Zc _) _ (Zc _) _ (Zc _))
theorem ZoW(N:Nat)(a b:Edit)(x5:Int)(N0:NT)(Q:QT)(h:let z3:=decide (x5 < (a.words.length:Int));let z2:=b.words.getD x5.toNat (WEdit.mk 0 0 0 0);let z1:=a.words.getD x5.toNat (WEdit.mk 0 0 0 0);let z0:= !((((WEdit.at_ z1):Int)==(WEdit.at_ z2)) && ((((WEdit.mask z1):Int)==(WEdit.mask z2)) && ((((WEdit.old z1):Int)==(WEdit.old z2)) && ((((WEdit.new z1):Int)==(WEdit.new z2)) && true))));((z3=true→((0:Int)≤x5∧x5 < (a.words.length:Int))∧((0:Int)≤x5∧x5 < (b.words.length:Int))∧((z0=true→(Q .ret (L2 [(4,.c (.bool false))] [])))∧(z0=false→(InR (x5+1))∧(N0 (Z7c a b (x5+1))))))∧(z3=false→(Zh (A19 N [1,1,1,0,1,0,0]) (Z7b a b 0) (xB 2 (S19 N [1,1,1,1] Q)))))):
  A19 N [1,1,0,1,0,0] (Z7c a b x5) (xT N0 (xB 0 (S19 N [1,1,1] Q))):=
 Eq.mpr (by kernel_rfl) h
theorem ZoV(N:Nat)(a b:Edit)(x6_a:Int)(N1:NT)(Q:QT)(h:∀ y_1,y_1=(a.kids.getD x6_a.toNat (KidOf.mk 0 Edit.nil))→∀ y_2,y_2=(b.kids.getD x6_a.toNat (KidOf.mk 0 Edit.nil))→∀ y_3,y_3=(y_1.e)→∀ y_4,y_4=(y_2.e)→let z2:=decide (x6_a < (a.kids.length:Int));let z0:=y_1.at_ !=y_2.at_;let z1:=bif z0 then true else (!(eqX y_3 y_4));((z2=true→((0:Int)≤x6_a∧x6_a < (a.kids.length:Int))∧((0:Int)≤x6_a∧x6_a < (b.kids.length:Int))∧(Tr ((!z0)=true))∧(Tr ((!z0)=true))∧(Tr ((!z0)=true))∧((!z0)=true→(0:Int)≤x6_a∧x6_a < (a.kids.length:Int))∧(Tr ((!z0)=true))∧(Tr ((!z0)=true))∧(Tr ((!z0)=true))∧(Tr ((!z0)=true))∧(Tr ((!z0)=true))∧((!z0)=true→(0:Int)≤x6_a∧x6_a < (b.kids.length:Int))∧(Tr ((!z0)=true))∧(Tr ((!z0)=true))∧(Tr ((!z0)=true))∧(Tr ((!z0)=true))∧((!z0)=true→Z6l (y_3,y_4,()))∧((!z0)=true→ZeO (y_3,y_4,()) < N)∧(Tr ((!z0)=true))∧(z0=false→(!z0)=true)∧((z1=true→(Q .ret (L2 [(4,.c (.bool false))] [])))∧(z1=false→(InR (x6_a+1))∧(N1 (Z7b a b (x6_a+1))))))∧(z2=false→(Zh (A19 N [1,1,1,1,0,1,0,0]) (Z7a a b 0) (xB 4 (S19 N [1,1,1,1,1] Q)))))):
  A19 N [1,1,1,0,1,0,0] (Z7b a b x6_a) (xT N1 (xB 2 (S19 N [1,1,1,1] Q))):=
 Eq.mpr (by kernel_rfl) (h _ rfl _ rfl _ (Ze _) _ (Ze _))
theorem ZoU(N:Nat)(a b:Edit)(x7_b:Int)(N2:NT)(Q:QT)(h:∀ y_1,y_1=(a.ops.getD x7_b.toNat Op.nil)→∀ y_2,y_2=(b.ops.getD x7_b.toNat Op.nil)→∀ y_3,y_3=(y_1.e)→∀ y_4,y_4=(y_2.e)→let z4:=decide (x7_b < (a.ops.length:Int));let z2:=y_1.kind !=y_2.kind;let z0:=bif z2 then true else (y_1.n !=y_2.n);let z1:=bif z0 then true else (!(eqX y_1.l y_2.l));let z3:=bif z1 then true else (!(eqX y_3 y_4));((z4=true→((0:Int)≤x7_b∧x7_b < (a.ops.length:Int))∧((0:Int)≤x7_b∧x7_b < (b.ops.length:Int))∧((Tr ((!z2)=true))∧(Tr ((!z2)=true))∧(Tr ((!z2)=true))∧(Tr ((!z2)=true))∧(z2=false→(!z2)=true)∧(Tr ((!z0)=true))∧(Tr ((!z0)=true))∧(Tr ((!z0)=true))∧(Tr ((!z0)=true))∧((!z0)=true→Zep (y_1.l,y_2.l,()))∧(Tr ((!z0)=true))∧(z0=false→(!z0)=true)∧(Tr ((!z1)=true))∧(Tr ((!z1)=true))∧(Tr ((!z1)=true))∧(Tr ((!z1)=true))∧((!z1)=true→Z6l (y_3,y_4,()))∧((!z1)=true→ZeO (y_3,y_4,()) < N)∧(Tr ((!z1)=true))∧(z1=false→(!z1)=true)∧((z3=true→(Q .ret (L2 [(4,.c (.bool false))] [])))∧(z3=false→(InR (x7_b+1))∧(N2 (Z7a a b (x7_b+1)))))))∧(z4=false→(Q .ret (L2 [(4,.c (.bool true))] []))))):
  A19 N [1,1,1,1,0,1,0,0] (Z7a a b x7_b) (xT N2 (xB 4 (S19 N [1,1,1,1,1] Q))):=
 Eq.mpr (by kernel_rfl) (h _ rfl _ rfl _ (Ze _) _ (Ze _))
def ZuH(N:Nat)(a b:Edit):Prop:=AW (Z0 (ZgN N)) Try.f19 Zq8 [] (Zm (Zh8.can (a,b,())) []) (EQ Try.f19 (ZlJ (a,b,())) [])
theorem ZsP(c29:CT 29 Z1l)(c59:CT 59 Z9L)(hb:∀ (N:Nat) (a:Edit) (b:Edit) (_:Unit),Z6l (a,b,())→ZeO (a,b,()) < N+1→ZuH N a b):CT 19 Z9X:=
 ZS (μ:=ZeO) (l:=[(29,Z1l),(59,Z9L)]) Zk rfl (⟨c29,c59,trivial⟩) Zq8 Try.func19 rfl rfl 2 (fun _=> rfl) (by decide) (fun N ⟨a,b,_⟩=> hb N a b ())
end
end Go.AM.Ytpjenobkibfpcaa
namespace Go.AM.Ytpjenobkibfpcaa
open Go.AM Go.Proofs
theorem Z09:Zg Edit.nil=3:=by simp [Edit.nil,Zg,ZN,Zd,Tree.nil,Zj,Zb]
theorem Zs9{o:Op}(h:Z7H o):0≤o.n∧o.n≤1048576:=by
 unfold Z7H at h
 omega
theorem Z6p(o:Op):Zr o=if o.kind=3 then 1 else o.n+o.l.length:=rfl
theorem Z3f(n:Nat):∀ (l:List Tree),Zb (l.drop n)≤Zb l:=by
 induction n with
 | zero=> intro l;simp
 | succ n ih=>
  intro l
  cases l with
  | nil=> simp
  | cons t r=> simp only [List.drop_succ_cons,Zb];have:=ih r;omega
theorem Zgg(n:Nat):∀ (l:List Tree),Zb (l.take n)≤Zb l:=by
 induction n with
 | zero=> intro l;simp [Zb]
 | succ n ih=>
  intro l
  cases l with
  | nil=> simp
  | cons t r=> simp only [List.take_succ_cons,Zb];have:=ih r;omega
theorem Z7I{o:Op}(h:Z7H o):1≤Zr o:=by
 have:=Z6p o
 unfold Z7H at h
 have hl:o.l≠[]→0 < o.l.length:=List.length_pos_iff.2
 rcases h with ⟨h1,h2,h3,h4⟩ | ⟨h1,h2,h3,h4⟩ | ⟨h1,h2,h3⟩
 ·rw [h2] at this;simp at this;split at this <;> omega
 ·have:=hl h3;split at* <;> omega
 ·rw [if_pos h1] at this;omega
theorem ZeS(o:Op)(r:List Op):Zd (o ::r)=ZX o+Zd r:=rfl
end Go.AM.Ytpjenobkibfpcaa
namespace Go.AM.Ytpjenobkibfpcaa
open Go.AM Go.Proofs
theorem Z3i{α:Type}{a b:α}(h:¬a=b):eqX a b=false:=by rw [←Bool.not_eq_true,Z0p];exact h
theorem Z0T{α:Type}(d:α){a b:List α}(hl:a.length=b.length)(h:∀ i:Nat,i < a.length→a.getD i d=b.getD i d):a=b:=by
 apply List.ext_getElem hl
 intro i h1 h2
 have:=h i h1
 simpa [List.getD_eq_getElem?_getD,List.getElem?_eq_getElem h1,List.getElem?_eq_getElem h2] using this
theorem c59:Contract Try.prog cfg 59 Z9L:=by
 refine ZsB c29 ?_
 intro a b _ hp
 simp only [Zep] at hp
 refine ZwG _ _ _ ?_;(try simp only [vcT,forall_eq])
 (simp only [vcS]);(try simp only [vcT])
 refine ⟨fun hc=> Z2 rfl (Z3i (a:=a) (b:=b) (fun h=> hc (by rw [h]))).symm,fun hc=> ?_⟩
 have hl:a.length=b.length:=by omega
 have hla:=Zs a
 refine Za (ι:=Int) (fun i=> Z71 a b i) (fun i=> 0≤i∧i≤a.length∧∀ j:Nat,(j:Int) < i→a.getD j Tree.nil=b.getD j Tree.nil) (fun i=> ((a.length:Int) - i).toNat) 0 rfl ⟨by omega,by omega,by intro j hj;omega⟩ ?_
 rintro i ⟨h1,h2,h3⟩
 refine ZoG _ _ _ _ _ ?_;(try simp only [vcT,forall_eq])
 (simp only [vcS]);(try simp only [vcT])
 try (simp only [Tree.eta,Edit.eta,Tree.kind_mk,Tree.words_mk,Tree.kids_mk])
 refine ⟨fun hi=> ⟨⟨h1,hi⟩,⟨h1,by omega⟩,?_,fun hq=> ?_,fun hq=> ⟨by unfold InR;omega,i+1,rfl,⟨by omega,by omega,?_⟩,by omega⟩⟩,fun hi=> ?_⟩
 ·have:=YG (Zl (l:=a) (i:=i.toNat) (by omega) Tree.nil)
  simp only [Z2r];omega
 ·refine Z2 rfl (Z3i (a:=a) (b:=b) (fun h=> ?_)).symm
  rw [h,Yz] at hq
  exact hq rfl
 ·intro j hj
  by_cases hj2:(j:Int) < i
  ·exact h3 j hj2
  ·rw [J0,show i.toNat=j by omega] at hq
   exact hq
 ·refine Z2 rfl (Z0p (a:=a) (b:=b).2 (Z0T Tree.nil hl (fun j hj=> h3 j (by omega)))).symm
theorem Znm{a b:Edit}(h1:a.kind=b.kind)(h2:a.old=b.old)(h3:a.new=b.new)(h4:a.words=b.words)(h5:a.kids=b.kids)(h6:a.list=b.list)(h7:a.ops=b.ops):a=b:=by
 cases a;cases b;simp_all
theorem Zqa{a b:Kid}(h1:a.at_=b.at_)(h2:a.e=b.e):a=b:=by cases a;cases b;simp_all
theorem Zs8{a b:Op}(h1:a.kind=b.kind)(h2:a.n=b.n)(h3:a.l=b.l)(h4:a.e=b.e):a=b:=by cases a;cases b;simp_all
theorem Zjw{a b:WEdit}(h1:a.at_=b.at_)(h2:a.mask=b.mask)(h3:a.old=b.old)(h4:a.new=b.new):a=b:=by cases a;cases b;simp_all
theorem c19:Contract Try.prog cfg 19 Z9X:=by
 refine ZsP c29 c59 ?_
 intro N a b _ hp hN
 simp only [Z6l,ZeO] at hp hN
 have hme:=Y6 a
 have hkl:=Y4 a.kids
 have hol:=Y3 a.ops
 have neq:∀ {P:Prop},(a=b→P)→¬P→eqX a b=false:=fun h1 h2=> Z3i (fun h=> h2 (h1 h))
 refine ZwX N a b _ ?_;(try simp only [vcT])
 rintro y1 rfl y2 rfl y3 rfl y4 rfl
 (simp only [vcS]);(try simp only [vcT])
 refine ⟨fun _=> ?_,fun _=> ?_,fun hc=> ?_,fun hc=> ?_⟩
 ·simp only [Z2r];omega
 ·simp only [Z2r];omega
 ·refine Z2 rfl (Z3i (a:=a) (b:=b) (fun h=> ?_)).symm
  rw [h] at hc
  simp only [Yz] at hc
  simp at hc
 ·simp only [J0,Classical.not_not] at hc
  obtain ⟨⟨⟨⟨⟨⟨h1,h2⟩,h3⟩,h4⟩,h5⟩,h6⟩,h7⟩:=hc
  refine Za (ι:=Int) (fun i=> Z7c a b i) (fun i=> 0≤i∧i≤a.words.length∧∀ j:Nat,(j:Int) < i→a.words.getD j (WEdit.mk 0 0 0 0)=b.words.getD j (WEdit.mk 0 0 0 0)) (fun i=> ((a.words.length:Int) - i).toNat) 0 rfl ⟨by omega,by omega,by intro j hj;omega⟩ ?_
  rintro i ⟨g1,g2,g3⟩
  refine ZoW _ _ _ _ _ _ ?_;(try simp only [vcT,forall_eq])
  (simp only [vcS]);(try simp only [vcT])
  try simp only [and_true]
  refine ⟨fun hi=> ⟨⟨g1,hi⟩,⟨g1,by omega⟩,fun hq=> ?_,fun hq=> ⟨by unfold InR;omega,i+1,rfl,⟨by omega,by omega,?_⟩,by omega⟩⟩,fun hi=> ?_⟩
  ·refine Z2 rfl (Z3i (a:=a) (b:=b) (fun h=> ?_)).symm
   rw [h] at hq
   simp at hq
  ·intro j hj
   by_cases hj2:(j:Int) < i
   ·exact g3 j hj2
   ·rw [show i.toNat=j by omega] at hq
    exact Zjw hq.1 hq.2.1 hq.2.2.1 hq.2.2.2
  ·have hw:a.words=b.words:=Z0T (WEdit.mk 0 0 0 0) (by omega) (fun j hj=> g3 j (by omega))
   refine Za (ι:=Int) (fun i=> Z7b a b i) (fun i=> 0≤i∧i≤a.kids.length∧∀ j:Nat,(j:Int) < i→a.kids.getD j (KidOf.mk 0 Edit.nil)=b.kids.getD j (KidOf.mk 0 Edit.nil)) (fun i=> ((a.kids.length:Int) - i).toNat) 0 rfl ⟨by omega,by omega,by intro j hj;omega⟩ ?_
   rintro i ⟨g1,g2,g3⟩
   refine ZoV _ _ _ _ _ _ ?_;(try simp only [vcT])
   rintro y1 hy1 y2 hy2 y3 hy3 y4 hy4
   (simp only [vcS]);(try simp only [vcT])
   refine ⟨fun hi=> ⟨⟨g1,hi⟩,⟨g1,by omega⟩,fun _=> ⟨g1,hi⟩,fun _=> ⟨g1,by omega⟩,fun _=> ?_,fun _=> ?_,fun hq=> ?_,fun hq=> ⟨by unfold InR;omega,i+1,rfl,⟨by omega,by omega,?_⟩,by omega⟩⟩,fun hi=> ?_⟩
   ·have:=YC (Zl (l:=a.kids) (i:=i.toNat) (by omega) (KidOf.mk 0 Edit.nil))
    rw [←hy1,←hy3] at this
    simp only [Z6l];omega
   ·have:=YC (Zl (l:=a.kids) (i:=i.toNat) (by omega) (KidOf.mk 0 Edit.nil))
    rw [←hy1,←hy3] at this
    simp only [ZeO];omega
   ·refine Z2 rfl (Z3i (a:=a) (b:=b) (fun h=> ?_)).symm
    rw [h] at hy1
    rw [hy3,hy4,hy1,hy2,Z2I] at hq
    simp at hq
   ·intro j hj
    by_cases hj2:(j:Int) < i
    ·exact g3 j hj2
    ·rw [Z0p,hy3,hy4,hy1,hy2,show i.toNat=j by omega] at hq
     exact Zqa (by simpa using hq.1) hq.2
   ·have hk:a.kids=b.kids:=Z0T (KidOf.mk 0 Edit.nil) (by omega) (fun j hj=> g3 j (by omega))
    refine Za (ι:=Int) (fun i=> Z7a a b i) (fun i=> 0≤i∧i≤a.ops.length∧∀ j:Nat,(j:Int) < i→a.ops.getD j Op.nil=b.ops.getD j Op.nil) (fun i=> ((a.ops.length:Int) - i).toNat) 0 rfl ⟨by omega,by omega,by intro j hj;omega⟩ ?_
    rintro i ⟨g1,g2,g3⟩
    refine ZoU _ _ _ _ _ _ ?_;(try simp only [vcT])
    rintro y1 hy1 y2 hy2 y3 hy3 y4 hy4
    (simp only [vcS]);(try simp only [vcT])
    refine ⟨fun hi=> ⟨⟨g1,hi⟩,⟨g1,by omega⟩,fun _=> ?_,fun _=> ?_,fun _=> ?_,fun hq=> ?_,fun hq=> ⟨by unfold InR;omega,i+1,rfl,⟨by omega,by omega,?_⟩,by omega⟩⟩,fun hi=> ?_⟩
    ·have:=Y2 (Zl (l:=a.ops) (i:=i.toNat) (by omega) Op.nil)
     rw [←hy1,Yg] at this
     simp only [Zep];omega
    ·have:=Y2 (Zl (l:=a.ops) (i:=i.toNat) (by omega) Op.nil)
     rw [←hy1,Yg,←hy3] at this
     simp only [Z6l];omega
    ·have:=Y2 (Zl (l:=a.ops) (i:=i.toNat) (by omega) Op.nil)
     rw [←hy1,Yg,←hy3] at this
     simp only [ZeO];omega
    ·refine Z2 rfl (Z3i (a:=a) (b:=b) (fun h=> ?_)).symm
     rw [h] at hy1
     rw [hy3,hy4,hy1,hy2,Z2I,Z2I] at hq
     simp at hq
    ·intro j hj
     by_cases hj2:(j:Int) < i
     ·exact g3 j hj2
     ·rw [Z0p,Z0p,hy3,hy4,hy1,hy2,show i.toNat=j by omega] at hq
      obtain ⟨⟨⟨q1,q2⟩,q3⟩,q4⟩:=hq
      exact Zs8 (by simpa using q1) (by simpa using q2) q3 q4
    ·have ho:a.ops=b.ops:=Z0T Op.nil (by omega) (fun j hj=> g3 j (by omega))
     exact Z2 rfl (Z0p (a:=a) (b:=b).2 (Znm h1 h3 h4 hw hk h2 ho)).symm
end Go.AM.Ytpjenobkibfpcaa
namespace Go.AM.Ytpjenobkibfpcaa
open Go.AM Go.Proofs
theorem ZeF{t:Tree}(h:ZM t=true):t=Tree.nil:=by
 obtain ⟨k,w,ks⟩:=t
 have:=of_decide_eq_true h
 simp at this
 obtain ⟨rfl,rfl,rfl⟩:=this
 try rfl
theorem ZbC{e:Edit}(h:Z00 e=true):e=Edit.nil:=by
 obtain ⟨h1,h2,h3,h4,h5,h6,h7⟩:=ZdY h
 obtain ⟨k,o,n,w,ks,l,os⟩:=e
 simp at h1 h2 h3 h4 h5 h6 h7
 subst h1 h4 h5 h6 h7
 rw [ZeF h2,ZeF h3]
 try rfl
theorem ZfU{list:Int}{o:Op}{d:Int}(h:Zf list o d=true):Z7H o:=by
 rw [Jt] at h
 unfold Z7H
 split at h
 ·rename_i h0
  simp only [Bool.and_eq_true,decide_eq_true_eq] at h
  exact Or.inl ⟨h0,List.length_eq_zero_iff.1 h.1.2.2,⟨h.1.1,h.1.2.1⟩,ZbC h.2⟩
 ·split at h
  ·cases h
  ·rename_i h0 h1
   split at h
   ·simp only [Bool.and_eq_true,decide_eq_true_eq] at h
    refine Or.inr (Or.inl ⟨by omega,by omega,?_,ZbC h.2⟩)
    exact List.length_pos_iff.1 h.1.2
   ·simp only [Bool.and_eq_true,decide_eq_true_eq] at h
    exact Or.inr (Or.inr ⟨by omega,by omega,List.length_eq_zero_iff.1 h.1.1.1⟩)
end Go.AM.Ytpjenobkibfpcaa
namespace Go.AM
def Jf(list:Int)(e:Edit):Bool:=decide (e.kind=0∨(list=9∧e.kind=2∧e.words.length=0∧e.kids.length=0))
def Z5(l:List Tree):List Tree:=l.map Z6
def Yo(kind:Int):List Op→List Tree
 | []=> []
 | o ::r=> if o.kind=1∨o.kind=2 then (if o.kind=kind then Z5 o.l else [])++Yo kind r else []
def ZI:List Op→Int
 | []=> 0
 | o ::r=> if o.kind=1∨o.kind=2 then 1+ZI r else 0
end Go.AM
namespace Go.AM
structure Wst where
 out:List Op
 gone:List Tree
 brought:List Tree
def YD(out:List Op)(g b:List Tree):List Op:=
 out++((if g.length=0 then [] else [⟨1,0,g,Edit.nil⟩])++(if b.length=0 then [] else [⟨2,0,b,Edit.nil⟩]))
def Y8:List Op→Int→List Op
 | [],n=> [⟨0,n,[],Edit.nil⟩]
 | [o],n=> if o.kind=0 then [⟨o.kind,o.n+n,o.l,o.e⟩] else [o,⟨0,n,[],Edit.nil⟩]
 | o ::p ::r,n=> o ::Y8 (p ::r) n
def Z1(w:Wst):Wst:=⟨YD w.out w.gone w.brought,[],[]⟩
def Zy(w:Wst)(n:Int):Wst:=⟨Y8 (Z1 w).out n,[],[]⟩
mutual
def Zz:Edit→Edit
 | .mk k o n w ks l os=>
  if k=1 then .mk k (Z6 o) (Z6 n) [] [] l []
  else if k=2 then .mk k Tree.nil Tree.nil w (Yj ks) l []
  else if k=3 then .mk k Tree.nil Tree.nil [] [] l (Z1 (Zo l os ⟨[],[],[]⟩)).out
  else .mk k Tree.nil Tree.nil [] [] l []
def Yj:List (KidOf Edit)→List (KidOf Edit)
 | []=> []
 | k ::r=> Jj k ::Yj r
def Jj:KidOf Edit→KidOf Edit
 | ⟨a,e⟩=> ⟨a,Zz e⟩
def Zo(list:Int):List (OpOf Edit)→Wst→Wst
 | [],s=> s
 | o ::r,s=> Zo list r (JD list o s)
def JD(list:Int):OpOf Edit→Wst→Wst
 | ⟨k,n,l,e⟩,s=>
  if k=0 then Zy s n
  else if k=1 then ⟨s.out,s.gone++Z5 l,s.brought⟩
  else if k=2 then ⟨s.out,s.gone,s.brought++Z5 l⟩
  else if k=3 then (if Jf list (Zz e)=true then Zy s 1 else ⟨(Z1 s).out++[⟨3,0,[],Zz e⟩],[],[]⟩)
  else s
end
theorem Z3d(e:Edit):Zz e=if e.kind=1 then .mk e.kind (Z6 e.old) (Z6 e.new) [] [] e.list []
  else if e.kind=2 then .mk e.kind Tree.nil Tree.nil e.words (Yj e.kids) e.list []
  else if e.kind=3 then .mk e.kind Tree.nil Tree.nil [] [] e.list (Z1 (Zo e.list e.ops ⟨[],[],[]⟩)).out
  else .mk e.kind Tree.nil Tree.nil [] [] e.list []:=by cases e;rfl
theorem Z7M(k:Kid):Jj k=⟨k.at_,Zz k.e⟩:=by cases k;rfl
theorem Yq(list:Int)(o:Op)(s:Wst):JD list o s=if o.kind=0 then Zy s o.n
  else if o.kind=1 then ⟨s.out,s.gone++Z5 o.l,s.brought⟩
  else if o.kind=2 then ⟨s.out,s.gone,s.brought++Z5 o.l⟩
  else if o.kind=3 then (if Jf list (Zz o.e)=true then Zy s 1 else ⟨(Z1 s).out++[⟨3,0,[],Zz o.e⟩],[],[]⟩)
  else s:=by cases o;rfl
theorem ZbW(list:Int):∀ (l:List Op) (s:Wst),Zo list l s=Zo list (l.drop (ZI l).toNat) ⟨s.out,s.gone++Yo 1 l,s.brought++Yo 2 l⟩
 | [],s=> by simp [Zo,Yo,ZI]
 | o ::r,s=> by
  by_cases h:o.kind=1∨o.kind=2
  ·have hg:0≤ZI r:=gapN_nonneg r
   rw [ZI,if_pos h,Yo,Yo,if_pos h,if_pos h,show (1+ZI r).toNat=(ZI r).toNat+1 by omega,List.drop_succ_cons,Zo,Yq,ZbW list r]
   rcases h with h | h
   ·rw [if_neg (by omega),if_pos h,if_pos h,if_neg (by omega)]
    simp
   ·rw [if_neg (by omega),if_neg (by omega),if_pos h,if_neg (by omega),if_pos h]
    simp
  ·rw [ZI,if_neg h,Yo,Yo,if_neg h,if_neg h]
   simp
where
 gapN_nonneg:∀ (l:List Op),0≤ZI l
  | []=> by simp [ZI]
  | o ::r=> by
   have:=gapN_nonneg r
   rw [ZI];split <;> omega
end Go.AM
namespace Go.AM
def Yl{α:Type}(z:α)(l:List α)(i:Nat)(x:α):List α:=(l++List.replicate (i+1 - l.length) z).set i x
def wsD(tw:List Int):List WEdit→List Int→Option (List Int)
 | [],out=> some out
 | w ::r,out=> if mix 0 (tw.getD w.at_.toNat 0) w.mask=w.old then wsD tw r (Yl 0 out w.at_.toNat (mix (tw.getD w.at_.toNat 0) w.new w.mask)) else none
noncomputable def YV(l rest:List Tree):Bool:=decide (l.length≤rest.length) && eqX (Z5 l) (Z5 (rest.take l.length))
def Z2J(r:Option (List Tree × List Tree)):Option (List Tree):=r.bind fun x=> if x.2.length=0 then some x.1 else none
def nrD(r:Bool)(t:Tree):Tree:=if r then Z6 t else t
mutual
noncomputable def doE(r:Bool):Edit→Tree→Option Tree
 | .mk k o n w ks l os,t=>
  (if k=0 then some t
  else if k=1 then (if Yv (Z6 o) (Z6 t)=true then some n else none)
  else if k=2 then (if t.kind=1 then (wsD t.words w t.words).bind fun a=> (JB r t.kids ks t.kids).map fun b=> .mk 1 a b else none)
  else if k=3 then (if t.kind=l then (Z2J (ZK r os t.kids [])).map fun b=> .mk l [] b else none)
  else none).map (nrD r)
noncomputable def JB(r:Bool)(tk:List Tree):List (KidOf Edit)→List Tree→Option (List Tree)
 | [],out=> some out
 | k ::s,out=> (Z23 r tk k).bind fun u=> JB r tk s (Yl Tree.nil out k.at_.toNat u)
noncomputable def Z23(r:Bool)(tk:List Tree):KidOf Edit→Option Tree
 | ⟨a,e⟩=> doE r e (tk.getD a.toNat Tree.nil)
noncomputable def ZK(r:Bool):List (OpOf Edit)→List Tree→List Tree→Option (List Tree × List Tree)
 | [],rest,out=> some (out,rest)
 | o ::s,rest,out=> (Z3j r o rest out).bind fun x=> ZK r s x.2 x.1
noncomputable def Z3j(r:Bool):OpOf Edit→List Tree→List Tree→Option (List Tree × List Tree)
 | ⟨k,n,l,e⟩,rest,out=>
  if k=0 then (if n.toNat≤rest.length then some (out++rest.take n.toNat,rest.drop n.toNat) else none)
  else if k=1 then (if YV l rest=true then some (out,rest.drop l.length) else none)
  else if k=2 then some (out++l,rest)
  else if rest.length=0 then none else (doE r e (rest.getD 0 Tree.nil)).map fun u=> (out++[u],rest.drop 1)
end
theorem Z0e(r:Bool)(e:Edit)(t:Tree):doE r e t=(if e.kind=0 then some t
  else if e.kind=1 then (if Yv (Z6 e.old) (Z6 t)=true then some e.new else none)
  else if e.kind=2 then (if t.kind=1 then (wsD t.words e.words t.words).bind fun a=> (JB r t.kids e.kids t.kids).map fun b=> .mk 1 a b else none)
  else if e.kind=3 then (if t.kind=e.list then (Z2J (ZK r e.ops t.kids [])).map fun b=> .mk e.list [] b else none)
  else none).map (nrD r):=by cases e;rfl
noncomputable def Zg5(r:Bool)(e:Edit)(t:Tree):Option Tree:=
 if e.kind=0 then some t
 else if e.kind=1 then (if Yv (Z6 e.old) (Z6 t)=true then some e.new else none)
 else if e.kind=2 then (if t.kind=1 then (wsD t.words e.words t.words).bind fun a=> (JB r t.kids e.kids t.kids).map fun b=> .mk 1 a b else none)
 else if e.kind=3 then (if t.kind=e.list then (Z2J (ZK r e.ops t.kids [])).map fun b=> .mk e.list [] b else none)
 else none
theorem Z7i(r:Bool)(e:Edit)(t:Tree):doE r e t=(Zg5 r e t).map (nrD r):=Z0e r e t
theorem Zb7(r:Bool)(tk:List Tree)(k:Kid):Z23 r tk k=doE r k.e (tk.getD k.at_.toNat Tree.nil):=by cases k;rfl
theorem Yk(r:Bool)(o:Op)(rest out:List Tree):Z3j r o rest out=if o.kind=0 then (if o.n.toNat≤rest.length then some (out++rest.take o.n.toNat,rest.drop o.n.toNat) else none)
  else if o.kind=1 then (if YV o.l rest=true then some (out,rest.drop o.l.length) else none)
  else if o.kind=2 then some (out++o.l,rest)
  else if rest.length=0 then none else (doE r o.e (rest.getD 0 Tree.nil)).map fun u=> (out++[u],rest.drop 1):=by cases o;rfl
noncomputable def Z92(r:Bool)(e:Edit)(t:Tree):Option Tree:=
 if t.kind=1 then (wsD t.words e.words t.words).bind fun a=> (JB r t.kids e.kids t.kids).map fun b=> .mk 1 a b else none
noncomputable def Z58(r:Bool)(e:Edit)(t:Tree):Option (List Tree × List Tree):=if t.kind=e.list then ZK r e.ops t.kids [] else none
def Z40(o:Option Tree):Tree:=o.getD Tree.nil
def ZmP(e:Edit)(o:Option (List Tree × List Tree)):Tree:=match o with | some x=> .mk e.list [] x.1 | none=> Tree.nil
noncomputable def Z93(e:Edit)(t:Tree):Tree:=
 if e.kind=0 then t else if e.kind=1 then e.new else if e.kind=2 then Z40 (Z92 false e t) else if e.kind=3 then ZmP e (Z58 false e t) else Tree.nil
theorem Yx(o:Option Tree):o.map (nrD false)=o:=by cases o <;> rfl
theorem Z7J{e:Edit}{t u:Tree}(h:doE false e t=some u):Z93 e t=u:=by
 rw [Z0e,Yx] at h
 unfold Z93
 split
 ·rename_i h0;rw [if_pos h0] at h;exact Option.some.inj h
 ·rename_i h0;rw [if_neg h0] at h
  split
  ·rename_i h1;rw [if_pos h1] at h
   split at h
   ·exact Option.some.inj h
   ·cases h
  ·rename_i h1;rw [if_neg h1] at h
   split
   ·rename_i h2;rw [if_pos h2] at h
    unfold Z40 Z92
    rw [h];try rfl
   ·rename_i h2;rw [if_neg h2] at h
    split
    ·rename_i h3;rw [if_pos h3] at h
     unfold ZmP Z58
     split at h
     ·rename_i h4;rw [if_pos h4]
      revert h
      cases ZK false e.ops t.kids [] with
      | none=> intro h;cases h
      | some x=>
       intro h
       simp only [Z2J,Option.bind_some] at h
       split at h
       ·exact Option.some.inj h
       ·cases h
     ·cases h
    ·rename_i h3;rw [if_neg h3] at h;cases h
end Go.AM
namespace Go.AM
def JW(m:Nat):Nat→Nat
 | 0=> 0
 | i+1=> JW m i+if m / 2 ^ i % 2=1 then 255*2 ^ (8*i) else 0
def Zbk:Nat→Nat→Nat
 | 0,_=> 0
 | k+1,m=> (if m % 2=1 then 255 else 0)+256*Zbk k (m / 2)
def Z8y:Nat→Nat→Nat→Nat
 | 0,_,_=> 0
 | k+1,a,m=> (if m % 2=1 then a % 256 else 0)+256*Z8y k (a / 256) (m / 2)
def ZeP:Nat→Nat→Nat→Nat→Nat
 | 0,_,_,_=> 0
 | k+1,a,b,m=> (if m % 2=1 then b % 256 else a % 256)+256*ZeP k (a / 256) (b / 256) (m / 2)
theorem ZkH(x y u v:Nat)(hu:u < 256)(hv:v < 256):(u+256*x) &&& (v+256*y)=(u &&& v)+256*(x &&& y):=by
 have h:u &&& v < 256:=Nat.and_lt_two_pow (n:=8) u hv
 apply Nat.eq_of_testBit_eq
 intro j
 rw [Nat.add_comm u,Nat.add_comm v,Nat.add_comm (u &&& v),Nat.testBit_and]
 rw [show (256:Nat)=2 ^ 8 from rfl,Nat.testBit_two_pow_mul_add _ hu,Nat.testBit_two_pow_mul_add _ hv,Nat.testBit_two_pow_mul_add _ h]
 split <;> rw [Nat.testBit_and]
theorem Zmm(x y u v:Nat)(hu:u < 256)(hv:v < 256):(u+256*x) ||| (v+256*y)=(u ||| v)+256*(x ||| y):=by
 have h:u ||| v < 256:=Nat.or_lt_two_pow (n:=8) hu hv
 apply Nat.eq_of_testBit_eq
 intro j
 rw [Nat.add_comm u,Nat.add_comm v,Nat.add_comm (u ||| v),Nat.testBit_or]
 rw [show (256:Nat)=2 ^ 8 from rfl,Nat.testBit_two_pow_mul_add _ hu,Nat.testBit_two_pow_mul_add _ hv,Nat.testBit_two_pow_mul_add _ h]
 split <;> rw [Nat.testBit_or]
theorem Zbg:∀ (k a m:Nat),a &&& Zbk k m=Z8y k a m
 | 0,a,m=> by simp [Zbk,Z8y]
 | k+1,a,m=> by
  have e:a=a % 256+256*(a / 256):=by omega
  simp only [Zbk,Z8y]
  rw [←Zbg k (a / 256) (m / 2)]
  have h:a &&& ((if m % 2=1 then 255 else 0)+256*Zbk k (m / 2))=(a % 256+256*(a / 256)) &&& ((if m % 2=1 then 255 else 0)+256*Zbk k (m / 2)):=by rw [←e]
  rw [h,ZkH _ _ _ _ (by omega) (by split <;> omega)]
  congr 1
  split
  ·have:=Nat.and_two_pow_sub_one_eq_mod (a % 256) 8
   simp only [show (2:Nat) ^ 8 - 1=255 from rfl,show (2:Nat) ^ 8=256 from rfl,Nat.mod_mod] at this
   exact this
  ·simp
theorem Zi5:∀ (k a b m n:Nat),(∀ i < k,m / 2 ^ i % 2+n / 2 ^ i % 2=1)→Z8y k a n ||| Z8y k b m=ZeP k a b m
 | 0,a,b,m,n,_=> by simp [Z8y,ZeP]
 | k+1,a,b,m,n,h=> by
  simp only [Z8y,ZeP]
  have h0:=h 0 (by omega)
  simp only [Nat.pow_zero,Nat.div_one] at h0
  rw [Zmm _ _ _ _ (by split <;> omega) (by split <;> omega),Zi5 k (a / 256) (b / 256) (m / 2) (n / 2) (fun i hi=> by
   have:=h (i+1) (by omega)
   rw [Nat.div_div_eq_div_mul,Nat.div_div_eq_div_mul]
   rw [Nat.pow_succ,Nat.mul_comm] at this
   exact this)]
  congr 1
  by_cases hm:m % 2=1
  ·rw [if_pos hm,if_pos hm,if_neg (by omega)];simp
  ·rw [if_neg hm,if_neg hm,if_pos (by omega)];simp
theorem Zhl:∀ m:Fin 256,JW m.1 8=Zbk 8 m.1:=by decide+kernel
theorem ZkX:∀ m:Fin 256,2 ^ 64 - 1 - Zbk 8 m.1=Zbk 8 (255 - m.1):=by decide+kernel
theorem Znx:∀ m:Fin 256,∀ i:Fin 8,m.1 / 2 ^ i.1 % 2+(255 - m.1) / 2 ^ i.1 % 2=1:=by decide+kernel
theorem Zog:∀ m:Fin 256,Zbk 8 m.1 < 2 ^ 64:=by decide+kernel
theorem Zmv(a b m:Nat)(hm:m < 256):(a &&& (2 ^ 64 - 1 - JW m 8)) ||| (b &&& JW m 8)=ZeP 8 a b m:=by
 have h1:=Zhl ⟨m,hm⟩
 have h2:=ZkX ⟨m,hm⟩
 simp only at h1 h2
 rw [h1,h2,Zbg,Zbg]
 exact Zi5 8 a b m (255 - m) (fun i hi=> Znx ⟨m,hm⟩ ⟨i,hi⟩)
def ofK:Nat→(Nat→Nat)→Nat
 | 0,_=> 0
 | k+1,f=> f 0+256*ofK k (fun i=> f (i+1))
theorem ZbU:∀ (k:Nat) {f g:Nat→Nat},(∀ i,f i=g i)→ofK k f=ofK k g
 | 0,_,_,_=> rfl
 | k+1,f,g,h=> by simp only [ofK,h 0,ZbU k (fun i=> h (i+1))]
theorem Zi9:∀ (k a b m:Nat),ZeP k a b m=ofK k (fun i=> if m / 2 ^ i % 2=1 then b / 256 ^ i % 256 else a / 256 ^ i % 256)
 | 0,_,_,_=> rfl
 | k+1,a,b,m=> by
  simp only [ZeP,ofK,Nat.pow_zero,Nat.div_one]
  rw [Zi9 k,ZbU k (g:=fun i=> if m / 2 ^ (i+1) % 2=1 then b / 256 ^ (i+1) % 256 else a / 256 ^ (i+1) % 256) (fun i=> ?_)]
  rw [Nat.div_div_eq_div_mul,Nat.div_div_eq_div_mul,Nat.div_div_eq_div_mul,Nat.pow_succ',Nat.pow_succ']
theorem Zmw(a b m:Nat):((ZeP 8 a b m:Nat):Int)=mix a b m:=by
 have nm:∀ i:Nat,ZbZ (m:Int) (i:Int)=decide (m / 2 ^ i % 2=1):=by
  intro i
  unfold ZbZ
  rw [decide_eq_decide,Int.toNat_natCast]
  have:((m:Int) / 2 ^ i % 2:Int)=((m / 2 ^ i % 2:Nat):Int):=by rw [Int.natCast_emod,Int.natCast_ediv,Int.natCast_pow];try rfl
  rw [this];omega
 have by_:∀ (x i:Nat),Zn (x:Int) i=((x / 256 ^ i % 256:Nat):Int):=by
  intro x i
  unfold Zn
  rw [Int.natCast_emod,Int.natCast_ediv,Int.natCast_pow]
  try rfl
 have mx:∀ i:Nat,YS (a:Int) (b:Int) (m:Int) i=((if m / 2 ^ i % 2=1 then b / 256 ^ i % 256 else a / 256 ^ i % 256:Nat):Int):=by
  intro i
  unfold YS
  rw [nm,by_,by_]
  by_cases h:m / 2 ^ i % 2=1
  ·rw [decide_eq_true h,if_pos rfl,if_pos h]
  ·rw [decide_eq_false h,if_neg Bool.false_ne_true,if_neg h]
 rw [Zi9]
 generalize hf:(fun i=> if m / 2 ^ i % 2=1 then b / 256 ^ i % 256 else a / 256 ^ i % 256)=f
 have hx:∀ i,YS (a:Int) (b:Int) (m:Int) i=(f i:Int):=by intro i;rw [mx,←hf]
 have e:ofK 8 f=f 0+256*(f 1+256*(f 2+256*(f 3+256*(f 4+256*(f 5+256*(f 6+256*(f 7+256*0))))))):=rfl
 rw [e]
 simp only [mix,of8,hx]
 omega
def Yi(list:Int)(e:Edit):Bool:=
 if (2≤list∧list≤7)∨e.kind=0 then false else if list=8∨e.kind=2 then true else decide (e.kind=1∧e.old.kind=1∧e.new.kind=1)
end Go.AM
namespace Go.AM
def Z5R(l:List Kid)(at_:Int):Edit:=((l.find? (fun k=> decide (k.at_=at_))).map KidOf.e).getD Edit.nil
end Go.AM
namespace Go.AM
instance:Inhabited PStep:=⟨⟨0,0⟩⟩
def YE(n:Int):List Op:=if n=0 then [] else [⟨0,n,[],Edit.nil⟩]
def ZU(len at_:Int)(x:Edit):List Op:=(YE at_++[⟨3,0,[],x⟩])++YE (len - at_ - 1)
def Z0A(s:PStep)(t:Tree):Prop:=s.kind=0∧0≤s.at_∧(t.kind=1∧s.at_ < 65535∨(2≤t.kind∧t.kind≤9)∧s.at_ < t.kids.length)
instance (s:PStep) (t:Tree):Decidable (Z0A s t):=by unfold Z0A;infer_instance
def Zp(f:Int→Int→Edit→List Op)(e:Edit):List PStep→Tree→Edit × Bool
 | [],t=> (e,t.kind !=10)
 | s ::l,t=> if Z0A s t then
   (if (Zp f e l (t.kids.getD s.at_.toNat Tree.nil)).2=false∨(Zp f e l (t.kids.getD s.at_.toNat Tree.nil)).1.kind=0 then (Edit.nil,(Zp f e l (t.kids.getD s.at_.toNat Tree.nil)).2)
   else if t.kind=1 then (.mk 2 Tree.nil Tree.nil [] [⟨s.at_,(Zp f e l (t.kids.getD s.at_.toNat Tree.nil)).1⟩] 0 [],true)
   else (.mk 3 Tree.nil Tree.nil [] [] t.kind (f t.kids.length s.at_ (Zp f e l (t.kids.getD s.at_.toNat Tree.nil)).1),true))
  else (Edit.nil,false)
def Je(f:Int→Int→Edit→List Op)(e:Edit)(l:List PStep)(t:Tree):Edit × Bool:=
 if (Zp f e l t).2=true∧Z4 (Zp f e l t).1 64=true then (Zz (Zp f e l t).1,true) else (Edit.nil,false)
def YL:List Op→Int→Int→Int→Op × Int × Bool
 | [],_,_,_=> (Op.nil,0,false)
 | o ::r,at_,from_,to=> if o.kind=2 then YL r at_ from_ (to+Zr o)
  else if at_ < from_+Zr o then (o,to+at_ - from_,o.kind !=1)
  else YL r at_ (from_+Zr o) (if o.kind=1 then to else to+Zr o)
def Z0G:List PStep→Edit→List PStep→Edit × List PStep × Bool
 | [],e,m=> (e,m,true)
 | s ::l,e,m=> if s.kind≠0∨s.at_ < 0∨e.kind=1 then (Edit.nil,[],false)
  else if e.kind=2 then Z0G l (Z5R e.kids s.at_) (m++[s])
  else if e.kind=3 then (if (YL e.ops s.at_ 0 0).2.2=true then Z0G l (YL e.ops s.at_ 0 0).1.e (m++[⟨s.kind,(YL e.ops s.at_ 0 0).2.1⟩]) else (Edit.nil,[],false))
  else Z0G l e (m++[s])
def Z2v(e:Edit)(l:List PStep):Edit × List PStep × Bool:=if (Z0G l e []).2.2=true then (Zz (Z0G l e []).1,(Z0G l e []).2.1,true) else (Edit.nil,[],false)
def Z0z:List Kid→Int→Int→Int
 | [],_,_=> -1
 | k ::r,at_,i=> if k.at_=at_ then i else Z0z r at_ (i+1)
end Go.AM
namespace Go.AM.Ytpjenobkibfpcaa
open Go.AM Go.Proofs
theorem ZfF(a:Tree):Yv a a=true:=by simp [Yv]
theorem ZjA(l:List Int):trim (trim l)=trim l:=by
 induction l with
 | nil=> rfl
 | cons x r ih=>
  rw [Z13]
  split
  ·try rfl
  ·rename_i h
   rw [Z13,ih,if_neg h]
theorem ZfB(l:List Tree):ZY (ZY l)=ZY l:=by
 induction l with
 | nil=> rfl
 | cons x r ih=>
  rw [YY]
  split
  ·try rfl
  ·rename_i h
   rw [YY,ih,if_neg h]
def Normed:List Tree→Prop
 | []=> True
 | t ::r=> Z6 t=t∧Normed r
theorem Normed.eq:∀ {l:List Tree},Normed l→ZV l=l
 | [],_=> rfl
 | t ::r,h=> by simp only [ZV,h.1,Normed.eq h.2]
theorem Normed.trim:∀ {l:List Tree},Normed l→Normed (ZY l)
 | [],_=> trivial
 | t ::r,h=> by
  rw [YY]
  split
  ·trivial
  ·exact ⟨h.1,Normed.trim h.2⟩
mutual
theorem Jv:∀ (t:Tree),Z6 (Z6 t)=Z6 t
 | .mk k w ks=> by
  have h:=Z6r ks
  by_cases h0:k=0
  ·simp [Z6,h0,Tree.nil]
  ·by_cases h1:k=1
   ·subst h1
    simp only [Z6,if_neg h0,if_true,ZjA,h.trim.eq,ZfB]
   ·simp only [Z6,if_neg h0,if_neg h1,h.eq]
theorem Z6r:∀ (ks:List Tree),Normed (ZV ks)
 | []=> trivial
 | t ::r=> ⟨Jv t,Z6r r⟩
end
end Go.AM.Ytpjenobkibfpcaa
namespace Go.AM.Ytpjenobkibfpcaa
open Go.AM Go.Proofs
noncomputable section
abbrev Jq(p:Prop):Prop:=p→p
noncomputable section
def Zj0:ArgL (List Tree × Unit):=(.cons (aSl .tree) .nil)
def Z7A(a:List Tree × Unit):Prop:=Zb a.1≤20000000000
def ZlQ(a:List Tree × Unit):V U:= .c (sU .tree (Z5 a.1) .unk)
def Z66:Fs U:=fs Zj0 (fun a=> [Z7A a]) ZlQ
def Zja:ArgL (List Op × Int × Int × Unit):=(.cons (aSl .op) (.cons (Yt .i64) (.cons (Yt .i64) .nil)))
def Z3a(a:List Op × Int × Int × Unit):Prop:=Zd a.1≤20000000000∧0≤a.2.1∧a.2.1≤(a.1).length
def ZfZ(a:List Op × Int × Int × Unit):V U:= .tup [(false,[sU .tree (Yo a.2.2.1 ((a.1).drop (a.2.1).toNat)) .unk]),(false,[ci (a.2.1+ZI ((a.1).drop (a.2.1).toNat))])]
def Z4x:Fs U:=fs Zja (fun a=> [Z3a a]) ZfZ
def Z0i:List (FuncId × Fs U):=[(45,Z0E)]
def Z6z:Zi U:=fun i=> match i with
 | 0=> ([(0,[])],[])
 | 1=> ([(0,[]),(3,[])],[])
 | 2=> ([(0,[]),(3,[.own .tree]),(4,[])],[])
 | 3=> ([(0,[]),(3,[]),(4,[]),(8,[])],[])
 | 4=> ([(0,[]),(3,[.own .tree]),(4,[])],[])
 | 5=> ([(0,[]),(3,[]),(4,[])],[])
 | 6=> ([(2,[])],[])
 | _=> ([],[])
def Z1d(l:List Tree)(x4:Int)(x3:List Tree):LSt U:=(L2 [(0,.c (sU .tree l .unk)),(3,.c (sU .tree x3 (.own (.e 3 0)))),(4,.c (ci x4))] [])
abbrev ZvT(l:List Tree)(Q:QT):=AW (Z0 Z0i) Try.f152 Z6z [] (L2 [(0,.c (sU .tree l .unk))] []) Q
abbrev Zhb:=awp cfg (Z0 Z0i) (Zx cfg (Z0 Z0i)) Try.f152.ntmps Z6z
abbrev ZfH:=Z3K cfg (Z0 Z0i) (Zx cfg (Z0 Z0i)) Try.f152.ntmps Z6z
theorem Zv1(l:List Tree)(Q:QT)(h:Zh (AW (Z0 Z0i) Try.f152 Z6z [1,1,0,1,0,0]) (Z1d l 0 []) (xB 0 (SW (Z0 Z0i) Try.f152 Z6z [1,1,1] Q))):
  ZvT l Q:=by
 have e_:(ZvT l Q)=(Zh (Zhb (cd Try.f152 [1,1,0,1,0,0])) (Z1d l 0 []) (xB 0 (ZfH (cd Try.f152 [1,1,1]) Q))):=by kernel_rfl
 exact e_.mpr h
abbrev Zjl(l:List Tree)(x4:Int)(x3:List Tree)(N0:NT)(Q:QT):=AW (Z0 Z0i) Try.f152 Z6z [1,1,0,1,0,0] (Z1d l x4 x3) (xT N0 (xB 0 (SW (Z0 Z0i) Try.f152 Z6z [1,1,1] Q)))
theorem Zl3(l:List Tree)(x4:Int)(x3:List Tree)(N0:NT)(Q:QT)(h:((decide (x4 < (l.length:Int)))=true→((0:Int)≤x4∧x4 < (l.length:Int))∧(Z0u ((Tree.mk (Tree.kind (l.getD x4.toNat Tree.nil)) (Tree.words (l.getD x4.toNat Tree.nil)) (Tree.kids (l.getD x4.toNat Tree.nil))),()))∧((x3.length+([(Tree.mk (Tree.kind (Z6 (Tree.mk (Tree.kind (l.getD x4.toNat Tree.nil)) (Tree.words (l.getD x4.toNat Tree.nil)) (Tree.kids (l.getD x4.toNat Tree.nil))))) (Tree.words (Z6 (Tree.mk (Tree.kind (l.getD x4.toNat Tree.nil)) (Tree.words (l.getD x4.toNat Tree.nil)) (Tree.kids (l.getD x4.toNat Tree.nil))))) (Tree.kids (Z6 (Tree.mk (Tree.kind (l.getD x4.toNat Tree.nil)) (Tree.words (l.getD x4.toNat Tree.nil)) (Tree.kids (l.getD x4.toNat Tree.nil))))))]).length)*56≤140737488355328)∧((InR (x4+1))∧(N0 (Z1d l (x4+1) (x3++([(Tree.mk (Tree.kind (Z6 (Tree.mk (Tree.kind (l.getD x4.toNat Tree.nil)) (Tree.words (l.getD x4.toNat Tree.nil)) (Tree.kids (l.getD x4.toNat Tree.nil))))) (Tree.words (Z6 (Tree.mk (Tree.kind (l.getD x4.toNat Tree.nil)) (Tree.words (l.getD x4.toNat Tree.nil)) (Tree.kids (l.getD x4.toNat Tree.nil))))) (Tree.kids (Z6 (Tree.mk (Tree.kind (l.getD x4.toNat Tree.nil)) (Tree.words (l.getD x4.toNat Tree.nil)) (Tree.kids (l.getD x4.toNat Tree.nil))))))]))))))∧((decide (x4 < (l.length:Int)))=false→Q .ret (L2 [(2,.c (sU .tree x3 (.own (.e 2 0))))] []))):
  Zjl l x4 x3 N0 Q:=by
 have e_:(Zjl l x4 x3 N0 Q)=(((decide ((x4:Int) < (l.length:Int)))=true→((0:Int)≤x4∧x4 < (l.length:Int))∧(Z0u ((Tree.mk (Tree.kind (l.getD x4.toNat Tree.nil)) (Tree.words (l.getD x4.toNat Tree.nil)) (Tree.kids (l.getD x4.toNat Tree.nil))),()))∧((x3.length+([(Tree.mk (Tree.kind (Z6 (Tree.mk (Tree.kind (l.getD x4.toNat Tree.nil)) (Tree.words (l.getD x4.toNat Tree.nil)) (Tree.kids (l.getD x4.toNat Tree.nil))))) (Tree.words (Z6 (Tree.mk (Tree.kind (l.getD x4.toNat Tree.nil)) (Tree.words (l.getD x4.toNat Tree.nil)) (Tree.kids (l.getD x4.toNat Tree.nil))))) (Tree.kids (Z6 (Tree.mk (Tree.kind (l.getD x4.toNat Tree.nil)) (Tree.words (l.getD x4.toNat Tree.nil)) (Tree.kids (l.getD x4.toNat Tree.nil))))))]).length)*56≤140737488355328)∧((InR ((x4:Int)+1))∧(N0 (Z1d l ((x4:Int)+1) (x3++([(Tree.mk (Tree.kind (Z6 (Tree.mk (Tree.kind (l.getD x4.toNat Tree.nil)) (Tree.words (l.getD x4.toNat Tree.nil)) (Tree.kids (l.getD x4.toNat Tree.nil))))) (Tree.words (Z6 (Tree.mk (Tree.kind (l.getD x4.toNat Tree.nil)) (Tree.words (l.getD x4.toNat Tree.nil)) (Tree.kids (l.getD x4.toNat Tree.nil))))) (Tree.kids (Z6 (Tree.mk (Tree.kind (l.getD x4.toNat Tree.nil)) (Tree.words (l.getD x4.toNat Tree.nil)) (Tree.kids (l.getD x4.toNat Tree.nil))))))]))))))∧((decide ((x4:Int) < (l.length:Int)))=false→(Q .ret (L2 [(2,.c (sU .tree x3 (.own (.e 2 0))))] [])))):=by kernel_rfl
 exact e_.mpr ⟨fun c_1=> ⟨(h.1 c_1).1,(h.1 c_1).2.1,(h.1 c_1).2.2.1,⟨(h.1 c_1).2.2.2.1,(h.1 c_1).2.2.2.2⟩⟩,fun c_1=> (h.2 c_1)⟩
def ZqI(l:List Tree):Prop:=AW (Z0 Z0i) Try.f152 Z6z [] (Zm (Zj0.can (l,())) []) (EQ Try.f152 (ZlQ (l,())) [])
theorem Zpr(c45:CT 45 Z0E)(hb:∀ (l:List Tree) (_:Unit),Z7A (l,())→ZqI l):CT 152 Z66:=
 Z3 (l:=[(45,Z0E)]) Zk rfl (⟨c45,trivial⟩) Z6z Try.func152 rfl rfl 1 (fun _=> rfl) (by decide) (fun ⟨l,_⟩=> hb l ())
def Z0n:List (FuncId × Fs U):=[(152,Z66)]
def Z6E:Zi U:=fun i=> match i with
 | 0=> ([(0,[]),(1,[]),(2,[])],[])
 | 1=> ([(0,[]),(1,[]),(2,[]),(8,[])],[])
 | 2=> ([(0,[]),(2,[]),(8,[.own .tree]),(9,[])],[])
 | 3=> ([(0,[]),(2,[]),(8,[]),(9,[]),(30,[])],[])
 | 4=> ([(0,[]),(2,[]),(8,[]),(9,[]),(37,[])],[])
 | 5=> ([(0,[]),(2,[]),(8,[]),(9,[])],[])
 | 6=> ([(0,[]),(2,[]),(8,[.own .tree]),(9,[])],[])
 | 7=> ([(6,[]),(7,[])],[])
 | _=> ([],[])
def JF(l:List Op)(from_ kind x9:Int)(x8:List Tree):LSt U:=(L2 [(0,.c (sU .op l .unk)),(2,.c (ci kind)),(8,.c (sU .tree x8 (.own (.e 8 0)))),(9,.c (ci x9))] [])
abbrev Zw3(l:List Op)(from_ kind:Int)(Q:QT):=AW (Z0 Z0n) Try.f110 Z6E [] (L2 [(0,.c (sU .op l .unk)),(1,.c (ci from_)),(2,.c (ci kind))] []) Q
abbrev Zhg:=awp cfg (Z0 Z0n) (Zx cfg (Z0 Z0n)) Try.f110.ntmps Z6E
abbrev ZfM:=Z3K cfg (Z0 Z0n) (Zx cfg (Z0 Z0n)) Try.f110.ntmps Z6E
theorem Zvh(l:List Op)(from_ kind:Int)(Q:QT)(h:Zh (AW (Z0 Z0n) Try.f110 Z6E [1,1,1,0,0,0]) (JF l from_ kind from_ []) (xB 0 (SW (Z0 Z0n) Try.f110 Z6E [1,1,1,1] Q))):
  Zw3 l from_ kind Q:=by
 have e_:(Zw3 l from_ kind Q)=(Zh (Zhg (cd Try.f110 [1,1,1,0,0,0])) (JF l from_ kind from_ []) (xB 0 (ZfM (cd Try.f110 [1,1,1,1]) Q))):=by kernel_rfl
 exact e_.mpr h
abbrev Zjr(l:List Op)(from_ kind x9:Int)(x8:List Tree)(N0:NT)(Q:QT):=AW (Z0 Z0n) Try.f110 Z6E [1,1,1,0,0,0] (JF l from_ kind x9 x8) (xT N0 (xB 0 (SW (Z0 Z0n) Try.f110 Z6E [1,1,1,1] Q)))
theorem Zlb(l:List Op)(from_ kind x9:Int)(x8:List Tree)(N0:NT)(Q:QT)(h:∀ y_1,y_1=(l.getD x9.toNat Op.nil)→((decide (x9 < (l.length:Int)))=true→(0:Int)≤x9∧x9 < (l.length:Int))∧(((decide (x9 < (l.length:Int))) && (!(y_1.kind==1)))=true→(0:Int)≤x9∧x9 < (l.length:Int))∧(((bif (decide (x9 < (l.length:Int))) then (bif (y_1.kind==1) then true else (y_1.kind==2)) else false)=true→((0:Int)≤x9∧x9 < (l.length:Int))∧(((y_1.kind==kind)=true→((0:Int)≤x9∧x9 < (l.length:Int))∧(Z7A (y_1.l,()))∧((x8.length+(Z5 y_1.l).length)*56≤140737488355328)∧((InR (x9+1))∧(N0 (JF l from_ kind (x9+1) (x8++(Z5 y_1.l))))))∧((y_1.kind==kind)=false→(InR (x9+1))∧(N0 (JF l from_ kind (x9+1) x8)))))∧((bif (decide (x9 < (l.length:Int))) then (bif (y_1.kind==1) then true else (y_1.kind==2)) else false)=false→Q .ret (L2 [(6,.c (sU .tree x8 (.own (.e 6 0)))),(7,.c (ci x9))] [])))):
  Zjr l from_ kind x9 x8 N0 Q:=by
 have e_:(Zjr l from_ kind x9 x8 N0 Q)=(let y_1:=(l.getD x9.toNat Op.nil);let zz1:=(y_1.kind==1);let zz0:=(decide ((x9:Int) < (l.length:Int)));(Jq (zz0=true))∧(Jq (zz0=true))∧(zz0=true→(0:Int)≤x9∧x9 < (l.length:Int))∧(Jq (zz0=true))∧(Jq (zz0=true))∧(Jq (zz0=true))∧(Jq (zz0=true))∧(Jq ((zz0 && (!zz1))=true))∧(Jq ((zz0 && (!zz1))=true))∧((zz0 && (!zz1))=true→(0:Int)≤x9∧x9 < (l.length:Int))∧(Jq ((zz0 && (!zz1))=true))∧(Jq ((zz0 && (!zz1))=true))∧(Jq ((zz0 && (!zz1))=true))∧(zz0=true→(True→zz0=true))∧(zz0=true→(zz1=false→(zz0 && (!zz1))=true))∧(Jq (zz0=true))∧(((bif zz0 then (bif zz1 then true else (y_1.kind==2)) else false)=true→((0:Int)≤x9∧x9 < (l.length:Int))∧(((y_1.kind==kind)=true→((0:Int)≤x9∧x9 < (l.length:Int))∧(Z7A (y_1.l,()))∧((x8.length+(Z5 y_1.l).length)*56≤140737488355328)∧((InR ((x9:Int)+1))∧(N0 (JF l from_ kind ((x9:Int)+1) (x8++(Z5 y_1.l))))))∧((y_1.kind==kind)=false→(InR ((x9:Int)+1))∧(N0 (JF l from_ kind ((x9:Int)+1) x8)))))∧((bif zz0 then (bif zz1 then true else (y_1.kind==2)) else false)=false→(Q .ret (L2 [(6,.c (sU .tree x8 (.own (.e 6 0)))),(7,.c (ci x9))] []))))):=by kernel_rfl
 exact e_.mpr (by intro y_1;have hh:=h y_1 rfl;exact ⟨id,id,hh.1,id,id,id,id,id,id,hh.2.1,id,id,id,(by generalize (decide ((x9:Int) < (l.length:Int)))=b0;revert b0;decide),(by generalize ((y_1.kind:Int)==1)=b0;generalize (decide ((x9:Int) < (l.length:Int)))=b1;revert b0 b1;decide),(by generalize (decide ((x9:Int) < (l.length:Int)))=b0;revert b0;decide),⟨fun c_2=> ⟨(hh.2.2.1 c_2).1,⟨fun c_3=> ⟨((hh.2.2.1 c_2).2.1 c_3).1,((hh.2.2.1 c_2).2.1 c_3).2.1,((hh.2.2.1 c_2).2.1 c_3).2.2.1,⟨((hh.2.2.1 c_2).2.1 c_3).2.2.2.1,((hh.2.2.1 c_2).2.1 c_3).2.2.2.2⟩⟩,fun c_3=> ⟨((hh.2.2.1 c_2).2.2 c_3).1,((hh.2.2.1 c_2).2.2 c_3).2⟩⟩⟩,fun c_2=> (hh.2.2.2 c_2)⟩⟩)
def ZqY(l:List Op)(from_ kind:Int):Prop:=AW (Z0 Z0n) Try.f110 Z6E [] (Zm (Zja.can (l,from_,kind,())) []) (EQ Try.f110 (ZfZ (l,from_,kind,())) [])
theorem ZpF(Ztv:CT 152 Z66)(hb:∀ (l:List Op) (from_:Int) (kind:Int) (_:Unit),Z3a (l,from_,kind,())→ZqY l from_ kind):CT 110 Z4x:=
 Z3 (l:=[(152,Z66)]) Zk rfl (⟨Ztv,trivial⟩) Z6E Try.func110 rfl rfl 3 (fun _=> rfl) (by decide) (fun ⟨l,from_,kind,_⟩=> hb l from_ kind ())
end
end
end Go.AM.Ytpjenobkibfpcaa
namespace Go.AM.Ytpjenobkibfpcaa
open Go.AM Go.Proofs
theorem Ztv:Contract Try.prog cfg 152 Z66:=by
 refine Zpr c45 ?_
 intro l _ hp
 simp only [Z7A] at hp
 have hl:=Zs l
 refine Zv1 _ _ ?_
 refine Za (ι:=Int × List Tree) (fun s=> Z1d l s.1 s.2) (fun s=> 0≤s.1∧s.1≤l.length∧s.2.length=s.1∧s.2++Z5 (l.drop s.1.toNat)=Z5 l) (fun s=> ((l.length:Int) - s.1).toNat) (0,[]) rfl ⟨by simp,by simp,by simp,by simp⟩ ?_
 rintro ⟨i,out⟩ ⟨h1,h2,h3,h4⟩
 dsimp only at h1 h2 h3 h4
 refine Zl3 _ _ _ _ _ ?_
 (simp only [vcS])
 (simp only [Tree.eta,Edit.eta,Tree.kind_mk,Tree.words_mk,Tree.kids_mk])
 refine ⟨fun hi=> ?_,fun hi=> ?_⟩
 ·have hm:=YG (Zl (l:=l) (i:=i.toNat) (by omega) Tree.nil)
  rw [ZR h1 hi Tree.nil] at h4
  simp only [Z5,List.map_cons] at h4
  refine ⟨⟨h1,hi⟩,by simp only [Z0u];omega,by simp;omega,by unfold InR;omega,(i+1,out++[Z6 (l.getD i.toNat Tree.nil)]),rfl,⟨by dsimp only;omega,by dsimp only;omega,by simp;omega,?_⟩,by dsimp only;omega⟩
  simp only [List.append_assoc,List.cons_append,List.nil_append]
  exact h4
 ·rw [List.drop_of_length_le (by omega)] at h4
  simp only [Z5,List.map_nil,List.append_nil] at h4
  rw [h4]
  (repeat' (first | exact trivial | exact rfl | apply And.intro))
theorem Zcc{kind:Int}{l:List Op}{i:Int}(h0:0≤i)(h:i < l.length):Yo kind (l.drop i.toNat)=if (l.getD i.toNat Op.nil).kind=1∨(l.getD i.toNat Op.nil).kind=2 then (if (l.getD i.toNat Op.nil).kind=kind then Z5 (l.getD i.toNat Op.nil).l else [])++Yo kind (l.drop (i+1).toNat) else []:=by
 rw [ZR h0 h Op.nil,Yo]
theorem Zce{l:List Op}{i:Int}(h0:0≤i)(h:i < l.length):ZI (l.drop i.toNat)=if (l.getD i.toNat Op.nil).kind=1∨(l.getD i.toNat Op.nil).kind=2 then 1+ZI (l.drop (i+1).toNat) else 0:=by
 rw [ZR h0 h Op.nil,ZI]
theorem ZeR(n:Nat):∀ (l:List Op),Zd (l.drop n)≤Zd l:=by
 induction n with
 | zero=> intro l;simp
 | succ n ih=>
  intro l
  cases l with
  | nil=> simp
  | cons t r=> simp only [List.drop_succ_cons,Zd];have:=ih r;omega
theorem ZtF:Contract Try.prog cfg 110 Z4x:=by
 refine ZpF Ztv ?_
 intro l from_ kind _ hp
 simp only [Z3a] at hp
 obtain ⟨hm,hf0,hf1⟩:=hp
 have hl:=Y3 l
 refine Zvh _ _ _ _ ?_
 refine Za (ι:=Int × List Tree) (fun s=> JF l from_ kind s.1 s.2) (fun s=> from_≤s.1∧s.1≤l.length∧s.2.length+Zd (l.drop s.1.toNat)≤Zd l∧s.2++Yo kind (l.drop s.1.toNat)=Yo kind (l.drop from_.toNat)∧s.1+ZI (l.drop s.1.toNat)=from_+ZI (l.drop from_.toNat)) (fun s=> ((l.length:Int) - s.1).toNat) (from_,[]) rfl ⟨by simp,by simpa using hf1,by have:=ZeR from_.toNat l;simpa using this,by simp,rfl⟩ ?_
 rintro ⟨i,out⟩ ⟨h1,h2,h3,h4,h5⟩
 dsimp only at h1 h2 h3 h4 h5
 refine Zlb _ _ _ _ _ _ _ ?_
 rintro y hy
 (simp only [vcS])
 refine ⟨fun hi=> ⟨by omega,hi⟩,fun hi=> ⟨by omega,hi.1⟩,fun hi=> ?_,fun hi=> ?_⟩
 ·obtain ⟨hi,hk⟩:=hi
  have hmem:=Y2 (Zl (l:=l) (i:=i.toNat) (by omega) Op.nil)
  have hd:=congrArg Zd (ZR (show 0≤i by omega) hi Op.nil)
  rw [ZeS] at hd
  rw [Zcc (by omega) hi] at h4
  rw [Zce (by omega) hi] at h5
  rw [←hy] at h4 h5 hmem hd
  rw [if_pos hk] at h4 h5
  rw [Yg] at hmem hd
  have hkl:=Zs y.l
  have hyl:(Z5 y.l).length=y.l.length:=by simp [Z5]
  refine ⟨⟨by omega,hi⟩,fun hq=> ⟨⟨by omega,hi⟩,by simp only [Z7A];omega,by rw [hyl];omega,by unfold InR;omega,(i+1,out++Z5 y.l),rfl,⟨by dsimp only;omega,by dsimp only;omega,by simp;omega,?_,by dsimp only;omega⟩,by dsimp only;omega⟩,fun hq=> ⟨by unfold InR;omega,(i+1,out),rfl,⟨by dsimp only;omega,by dsimp only;omega,by dsimp only;omega,?_,by dsimp only;omega⟩,by dsimp only;omega⟩⟩
  ·rw [if_pos hq,←List.append_assoc] at h4;exact h4
  ·rw [if_neg hq,List.nil_append] at h4;exact h4
 ·have e1:Yo kind (l.drop i.toNat)=[]∧ZI (l.drop i.toNat)=0:=by
   by_cases hc:i < l.length
   ·rw [Zcc (by omega) hc,Zce (by omega) hc,←hy,if_neg (by omega),if_neg (by omega)]
    exact ⟨rfl,rfl⟩
   ·rw [List.drop_of_length_le (by omega)]
    exact ⟨rfl,rfl⟩
  rw [e1.1,List.append_nil] at h4
  rw [e1.2] at h5
  have e2:i=from_+ZI (l.drop from_.toNat):=by omega
  simp only [ZfZ,←h4,←e2]
  (repeat' (first | exact trivial | exact rfl | apply And.intro))
end Go.AM.Ytpjenobkibfpcaa
namespace Go.AM.Ytpjenobkibfpcaa
open Go.AM Go.Proofs
theorem YO(list:Int):∀ (a b:List Op) (s:Wst),Zo list (a++b) s=Zo list b (Zo list a s)
 | [],b,s=> rfl
 | o ::r,b,s=> by simp only [List.cons_append,Zo,YO list r]
theorem Z4d:∀ (l:List Op) (m n:Int),Y8 (Y8 l m) n=Y8 l (m+n)
 | [],m,n=> by simp [Y8]
 | [o],m,n=> by
  by_cases h:o.kind=0
  ·simp [Y8,h,Int.add_assoc]
  ·simp [Y8,h]
 | o ::p ::r,m,n=> by
  have ih:=Z4d (p ::r) m n
  cases hk:Y8 (p ::r) m with
  | nil=> cases r <;> simp [Y8] at hk;split at hk <;> cases hk
  | cons x y=>
   rw [hk] at ih
   simp only [Y8]
   rw [hk]
   simp only [Y8]
   rw [ih]
theorem YJ:∀ (l:List Op) (n:Int),Y8 l n=l++[⟨0,n,[],Edit.nil⟩]∨∃ a o,l=a++[o]∧o.kind=0∧Y8 l n=a++[⟨o.kind,o.n+n,o.l,o.e⟩]
 | [],n=> Or.inl rfl
 | [o],n=> by
  by_cases h:o.kind=0
  ·exact Or.inr ⟨[],o,rfl,h,by simp [Y8,h]⟩
  ·exact Or.inl (by simp [Y8,h])
 | o ::p ::r,n=> by
  rcases YJ (p ::r) n with h | ⟨a,q,h1,h2,h3⟩
  ·exact Or.inl (by simp only [Y8,h,List.cons_append])
  ·exact Or.inr ⟨o ::a,q,by rw [h1];rfl,h2,by simp only [Y8,h3,List.cons_append]⟩
def W0:Wst:=⟨[],[],[]⟩
def Stb(list:Int)(w:Wst):Prop:=Zo list w.out W0=⟨w.out,[],[]⟩∧Z5 w.gone=w.gone∧Z5 w.brought=w.brought
theorem Z7q{list:Int}{w:Wst}(h:Stb list w):Zo list (Z1 w).out W0=w:=by
 obtain ⟨h1,h2,h3⟩:=h
 obtain ⟨out,g,b⟩:=w
 simp only [Z1,YD]
 rw [YO,h1,YO]
 simp only at h2 h3
 by_cases hg:g.length=0
 ·rw [if_pos hg]
  have:g=[]:=List.length_eq_zero_iff.1 hg
  subst this
  by_cases hb:b.length=0
  ·rw [if_pos hb]
   have:b=[]:=List.length_eq_zero_iff.1 hb
   subst this
   try rfl
  ·rw [if_neg hb]
   simp [Zo,Yq,h3]
 ·rw [if_neg hg]
  by_cases hb:b.length=0
  ·rw [if_pos hb]
   have:b=[]:=List.length_eq_zero_iff.1 hb
   subst this
   simp [Zo,Yq,h2]
  ·rw [if_neg hb]
   simp [Zo,Yq,h2,h3]
theorem Zaw(list:Int)(o:Op)(s:Wst)(h:o.kind=0):Zo list [o] s=Zy s o.n:=by
 simp only [Zo,Yq,h,if_true]
theorem ZdU{list:Int}{w:Wst}(h:Stb list w)(n:Int):Stb list (Zy w n):=by
 have hf:=Z7q h
 refine ⟨?_,rfl,rfl⟩
 show Zo list (Y8 (Z1 w).out n) W0=⟨Y8 (Z1 w).out n,[],[]⟩
 rcases YJ (Z1 w).out n with e | ⟨a,o,e1,e2,e3⟩
 ·rw [e,YO,hf,Zaw _ _ _ rfl]
  show (⟨Y8 (Z1 w).out n,[],[]⟩:Wst)=_
  rw [e]
 ·rw [e1,YO,Zaw _ _ _ e2] at hf
  rw [e3,YO,Zaw list ⟨o.kind,o.n+n,o.l,o.e⟩ _ e2]
  have ho:Y8 (Z1 (Zo list a W0)).out o.n=w.out∧w.gone=[]∧w.brought=[]:=by
   rw [←hf];exact ⟨rfl,rfl,rfl⟩
  have hw:(Z1 w).out=w.out:=by simp [Z1,YD,ho.2.1,ho.2.2]
  show (⟨Y8 (Z1 (Zo list a W0)).out (o.n+n),[],[]⟩:Wst)=_
  rw [←Z4d,ho.1,←e3,hw]
theorem Z1Y(l:List Tree):Z5 (Z5 l)=Z5 l:=by
 simp only [Z5,List.map_map]
 congr 1
 funext t
 exact Jv t
theorem Yc(a b:List Tree):Z5 (a++b)=Z5 a++Z5 b:=by simp [Z5]
theorem ZrW{list:Int}{w:Wst}{o:Op}(h:Stb list w)(hi:Zz (Zz o.e)=Zz o.e):Stb list (JD list o w):=by
 rw [Yq]
 by_cases k0:o.kind=0
 ·rw [if_pos k0];exact ZdU h _
 ·rw [if_neg k0]
  by_cases k1:o.kind=1
  ·rw [if_pos k1]
   exact ⟨h.1,by simp only [Yc,Z1Y,h.2.1],h.2.2⟩
  ·rw [if_neg k1]
   by_cases k2:o.kind=2
   ·rw [if_pos k2]
    exact ⟨h.1,h.2.1,by simp only [Yc,Z1Y,h.2.2]⟩
   ·rw [if_neg k2]
    by_cases k3:o.kind=3
    ·rw [if_pos k3]
     by_cases hd:Jf list (Zz o.e)=true
     ·rw [if_pos hd];exact ZdU h _
     ·rw [if_neg hd]
      refine ⟨?_,rfl,rfl⟩
      have hf:=Z7q h
      show Zo list ((Z1 w).out++[⟨3,0,[],Zz o.e⟩]) W0=_
      rw [YO,hf]
      simp only [Zo,Yq]
      rw [if_neg (by decide),if_neg (by decide),if_neg (by decide),if_pos trivial,hi,if_neg hd]
    ·rw [if_neg k3];exact h
mutual
theorem Z7N:∀ (e:Edit),Zz (Zz e)=Zz e
 | .mk k o n w ks l os=> by
  have h1:=Zay ks
  have h2:=ZbV l os W0 ⟨rfl,rfl,rfl⟩
  have h3:=Z7q h2
  rw [Zz]
  by_cases k1:k=1
  ·rw [if_pos k1,Zz,if_pos k1,Jv,Jv]
  ·rw [if_neg k1]
   by_cases k2:k=2
   ·rw [if_pos k2,Zz,if_neg k1,if_pos k2,h1]
   ·rw [if_neg k2]
    by_cases k3:k=3
    ·rw [if_pos k3,Zz,if_neg k1,if_neg k2,if_pos k3]
     show Edit.mk k Tree.nil Tree.nil [] [] l (Z1 (Zo l (Z1 (Zo l os W0)).out W0)).out=Edit.mk k Tree.nil Tree.nil [] [] l (Z1 (Zo l os W0)).out
     rw [h3]
    ·rw [if_neg k3,Zz,if_neg k1,if_neg k2,if_neg k3]
theorem Zay:∀ (ks:List (KidOf Edit)),Yj (Yj ks)=Yj ks
 | []=> rfl
 | k ::r=> by
  have h1:=ZeD k
  have h2:=Zay r
  simp only [Yj]
  rw [h1,h2]
theorem ZeD:∀ (k:KidOf Edit),Jj (Jj k)=Jj k
 | ⟨a,e⟩=> by
  have h:=Z7N e
  simp only [Jj]
  rw [h]
theorem ZbV(list:Int):∀ (os:List (OpOf Edit)) (w:Wst),Stb list w→Stb list (Zo list os w)
 | [],w,h=> h
 | o ::r,w,h=> by
  have h1:=ZjZ list o w h
  exact ZbV list r _ h1
theorem ZjZ(list:Int):∀ (o:OpOf Edit) (w:Wst),Stb list w→Stb list (JD list o w)
 | ⟨k,n,l,e⟩,w,h=> ZrW (o:=⟨k,n,l,e⟩) h (Z7N e)
end
end Go.AM.Ytpjenobkibfpcaa
namespace Go.AM
theorem Z6t{t:Tree}(h:ZM t=true):t=Tree.nil:=by
 obtain ⟨k,w,ks⟩:=t
 simp only [ZM,decide_eq_true_eq] at h
 obtain ⟨h1,h2,h3⟩:=h
 have h1:k=0:=h1
 rw [h1,List.eq_nil_of_length_eq_zero (l:=w) h2,List.eq_nil_of_length_eq_zero (l:=ks) h3]
 try rfl
theorem ZdX{e:Edit}(h:Z00 e=true):e=Edit.nil:=by
 obtain ⟨k,o,n,w,ks,l,os⟩:=e
 simp only [Z00,Bool.and_eq_true,decide_eq_true_eq] at h
 obtain ⟨⟨⟨h1,h2⟩,h3⟩,h4,h5,h6,h7⟩:=h
 have h1:k=0:=h1
 have h7:l=0:=h7
 rw [h1,h7,Z6t (t:=o) h2,Z6t (t:=n) h3,List.eq_nil_of_length_eq_zero (l:=w) h4,List.eq_nil_of_length_eq_zero (l:=ks) h5,List.eq_nil_of_length_eq_zero (l:=os) h6]
 try rfl
structure RightE (e:Edit) (d:Int):Prop where
 d0:d≠0
 kind:0≤e.kind∧e.kind≤3
 none:e.kind≠1→e.old=Tree.nil∧e.new=Tree.nil
 words0:e.kind≠2→e.words=[]∧e.kids=[]
 ops0:e.kind≠3→e.list=0∧e.ops=[]
 rep:e.kind=1→Z9 e.old (dT d)=true∧Z9 e.new (dT d)=true∧e.old.kind≠10∧e.new.kind≠10
 words:Zu (-1) e.words=true
 kids:ZE (-1) e.kids (d - 1)=true
 list:e.kind=3→2≤e.list∧e.list≤9
 ops:ZB e.list e.ops (d - 1)=true
 len:JY e.ops 0 < 1048576∧JX e.ops 0 < 1048576
theorem J3{e:Edit}{d:Int}(h:Z4 e d=true):RightE e d:=by
 obtain ⟨k,o,n,w,ks,l,os⟩:=e
 rw [Z4] at h
 split at h
 ·cases h
 ·rename_i a
  split at h
  ·cases h
  ·rename_i b
   have b1:k≠1→o=Tree.nil∧n=Tree.nil:=by
    intro hk
    by_cases x:ZM o=true∧ZM n=true
    ·exact ⟨Z6t x.1,Z6t x.2⟩
    ·exact absurd (.inl ⟨hk,x⟩) b
   have b2:k≠2→w=[]∧ks=[]:=by
    intro hk
    by_cases x:w.length=0∧ks.length=0
    ·exact ⟨List.eq_nil_of_length_eq_zero x.1,List.eq_nil_of_length_eq_zero x.2⟩
    ·exact absurd (.inr (.inl ⟨hk,x⟩)) b
   have b3:k≠3→l=0∧os=[]:=by
    intro hk
    by_cases x:l≠0∨os.length≠0
    ·exact absurd (.inr (.inr ⟨hk,x⟩)) b
    ·exact ⟨by omega,List.eq_nil_of_length_eq_zero (by omega)⟩
   split at h
   ·rename_i c
    simp only [Bool.and_eq_true,decide_eq_true_eq] at h
    obtain ⟨⟨h1,h2⟩,h3,h4⟩:=h
    have c2:=b2 (by omega)
    have c3:=b3 (by omega)
    obtain ⟨rfl,rfl⟩:=c2
    obtain ⟨rfl,rfl⟩:=c3
    exact ⟨by omega,⟨by show 0≤k;omega,by show k≤3;omega⟩,b1,b2,b3,fun _=> ⟨h1,h2,h3,h4⟩,rfl,rfl,fun e=> by have e:k=3:=e;omega,rfl,by show JY [] 0 < _∧JX [] 0 < _;simp [JY,JX]⟩
   ·rename_i c
    simp only [Bool.and_eq_true,decide_eq_true_eq] at h
    obtain ⟨⟨⟨⟨h1,h2⟩,h3⟩,h4⟩,h5⟩:=h
    exact ⟨by omega,⟨by show 0≤k;omega,by show k≤3;omega⟩,b1,b2,b3,fun e=> absurd e c,h1,h2,fun e=> by have e:k=3:=e;show 2≤l∧l≤9;omega,h4,h5⟩
theorem J2:∀ {ks:List Kid} {last d:Int},ZE last ks d=true→∀ k∈ks,(last < k.at_∧k.at_≤65534∧k.e.kind≠0)∧Z4 k.e d=true
 | [],_,_,_,_,hk=> by cases hk
 | ⟨a,e⟩ ::r,last,d,h,k,hk=> by
  simp only [ZE,Z0t,Bool.and_eq_true,decide_eq_true_eq] at h
  obtain ⟨⟨h1,h2⟩,h3⟩:=h
  rcases List.mem_cons.1 hk with rfl | hk
  ·exact ⟨h1,h2⟩
  ·have:=J2 h3 k hk
   have h1:last < a∧a≤65534∧e.kind≠0:=h1
   have h4:a < k.at_:=this.1.1
   exact ⟨⟨by omega,this.1.2⟩,this.2⟩
theorem rightOs_mem{list:Int}:∀ {os:List Op} {d:Int},ZB list os d=true→∀ o∈os,Zf list o d=true
 | [],_,_,_,ho=> by cases ho
 | a ::r,d,h,o,ho=> by
  simp only [ZB,Bool.and_eq_true] at h
  rcases List.mem_cons.1 ho with rfl | ho
  ·exact h.1
  ·exact rightOs_mem h.2 o ho
theorem Z3z:∀ {ws:List WEdit} {last:Int},Zu last ws=true→∀ w∈ws,last < w.at_∧w.at_≤65534∧w.mask≠0∧Z0g w.old w.mask=true∧Z0g w.new w.mask=true
 | [],_,_,_,hw=> by cases hw
 | a ::r,last,h,w,hw=> by
  simp only [Zu,Bool.and_eq_true,decide_eq_true_eq] at h
  obtain ⟨⟨⟨h1,h2⟩,h3⟩,h4⟩:=h
  rcases List.mem_cons.1 hw with rfl | hw
  ·exact ⟨h1.1,h1.2.1,h1.2.2,h2,h3⟩
  ·have:=Z3z h4 w hw
   exact ⟨by omega,this.2⟩
inductive RightOp (list:Int) (d:Int):Op→Prop
 | keep (n:Int):1≤n→n≤1048576→RightOp list d ⟨0,n,[],Edit.nil⟩
 | gone (l:List Tree):YB (dT d) list l=true→0 < l.length→RightOp list d ⟨1,0,l,Edit.nil⟩
 | come (l:List Tree):YB (dT d) list l=true→0 < l.length→RightOp list d ⟨2,0,l,Edit.nil⟩
 | into (e:Edit):Z4 e d=true→e.kind≠0→7 < list→(list=8∨e.kind=2∨e.kind=1∧e.old.kind=1∧e.new.kind=1)→RightOp list d ⟨3,0,[],e⟩
theorem Yf{list:Int}{o:Op}{d:Int}(h:Zf list o d=true):RightOp list d o:=by
 obtain ⟨k,n,l,e⟩:=o
 rw [Zf] at h
 split at h
 ·rename_i hk
  simp only [Bool.and_eq_true,decide_eq_true_eq] at h
  obtain ⟨⟨h1,h2,h3⟩,h4⟩:=h
  rw [hk,ZdX h4,List.eq_nil_of_length_eq_zero h3]
  exact .keep n h1 h2
 ·rename_i h0
  split at h
  ·cases h
  ·rename_i h1
   have hn:n=0:=by omega
   subst hn
   split at h
   ·rename_i h2
    simp only [Bool.and_eq_true,decide_eq_true_eq] at h
    obtain ⟨⟨h3,h4⟩,h5⟩:=h
    rw [ZdX h5]
    by_cases hk:k=1
    ·rw [hk];exact .gone l h3 h4
    ·rw [show k=2 by omega];exact .come l h3 h4
   ·rename_i h2
    simp only [Bool.and_eq_true,decide_eq_true_eq] at h
    obtain ⟨⟨⟨h3,h4,h5⟩,h6⟩,h7⟩:=h
    rw [show k=3 by omega,List.eq_nil_of_length_eq_zero h3]
    exact .into e h6 h4 h5 h7
theorem ZfS{e:Edit}{d:Int}(h:Z4 e d=true):(∀ k∈e.kids,∃ d,Z4 k.e d=true)∧(∀ o∈e.ops,∃ l d,Zf l o d=true)∧(e.kind=3→2≤e.list∧e.list≤9):=by
 have r:=J3 h
 exact ⟨fun k hk=> ⟨_,(J2 r.kids k hk).2⟩,fun o ho=> ⟨_,_,rightOs_mem r.ops o ho⟩,r.list⟩
theorem Z33{l d:Int}{o:Op}(h:Zf l o d=true)(hk:o.kind=3):Z4 o.e d=true:=by
 have r:=Yf h
 cases r with
 | into e h1=> exact h1
 | keep | gone | come=> exact absurd hk (by simp)
end Go.AM
namespace Go.AM.Ytpjenobkibfpcaa
open Go.AM Go.Proofs
theorem Z5b{α:Type}(z:α)(l:List α)(i:Nat)(x:α):(Yl z l i x).length=max l.length (i+1):=by
 simp only [Yl,List.length_set,List.length_append,List.length_replicate];omega
theorem YZ{α:Type}(z:α)(l:List α)(i:Nat)(x:α)(j:Nat):(Yl z l i x).getD j z=if j=i then x else l.getD j z:=by
 simp only [Yl,List.getD_eq_getElem?_getD,List.getElem?_set,List.length_append,List.length_replicate]
 by_cases h:j=i
 ·subst h;rw [if_pos rfl,if_pos rfl,if_pos (by omega)];try rfl
 ·rw [if_neg (fun e=> h e.symm),if_neg h]
  by_cases hl:j < l.length
  ·rw [List.getElem?_append_left hl]
  ·rw [List.getElem?_append_right (by omega),List.getElem?_eq_none (l:=l) (by omega),List.getElem?_replicate]
   split <;> rfl
theorem ZfE{α β:Type}(f:α→β)(z:α)(l:List α)(i:Nat)(x:α):(Yl z l i x).map f=Yl (f z) (l.map f) i (f x):=by
 simp [Yl,List.map_set]
theorem Z2u:∀ l:List Tree,ZV l=Z5 l
 | []=> rfl
 | t ::r=> by simp [ZV,Z5,Z2u r]
theorem ZaB(l:List Tree)(i:Nat)(x:Tree):Z5 (Yl Tree.nil l i x)=Yl Tree.nil (Z5 l) i (Z6 x):=by
 rw [Z5,ZfE,Z7P];try rfl
theorem Zk1{a b:List Tree}{i:Nat}{x y:Tree}(h:Z5 a=Z5 b)(hx:Z6 x=Z6 y):Z5 (Yl Tree.nil a i x)=Z5 (Yl Tree.nil b i y):=by
 rw [ZaB,ZaB,h,hx]
theorem Z4L{a b c d:List Tree}(h:Z5 a=Z5 b)(hx:Z5 c=Z5 d):Z5 (a++c)=Z5 (b++d):=by
 rw [Yc,Yc,h,hx]
theorem ZaC(k:Int)(w:List Int){a b:List Tree}(h:Z5 a=Z5 b):Z6 (.mk k w a)=Z6 (.mk k w b):=by
 simp only [Z6,Z2u,h]
theorem Z7O{a b:List Tree}(h:Z5 a=Z5 b):a.length=b.length:=by
 have:=congrArg List.length h
 simpa [Z5] using this
theorem ZbX{a b:Tree}:Z5 [a]=Z5 [b]↔Z6 a=Z6 b:=by simp [Z5]
def OptR{α β:Type}(R:α→β→Prop):Option α→Option β→Prop
 | none,none=> True
 | some a,some b=> R a b
 | _,_=> False
theorem OptR.rfl'{α:Type}(a:Option α):OptR Eq a a:=by cases a;exact trivial;exact rfl
theorem OptR.bind{α β γ δ:Type}{R:α→β→Prop}{S:γ→δ→Prop}{a:Option α}{b:Option β}{f:α→Option γ}{g:β→Option δ}(h:OptR R a b)(hf:∀ x y,R x y→OptR S (f x) (g y)):OptR S (a.bind f) (b.bind g):=by
 cases a <;> cases b <;> first | exact trivial | exact h.elim | exact hf _ _ h
theorem OptR.map{α β γ δ:Type}{R:α→β→Prop}{S:γ→δ→Prop}{a:Option α}{b:Option β}{f:α→γ}{g:β→δ}(h:OptR R a b)(hf:∀ x y,R x y→S (f x) (g y)):OptR S (a.map f) (b.map g):=by
 cases a <;> cases b <;> first | exact trivial | exact h.elim | exact hf _ _ h
theorem OptR.ite{α β:Type}{R:α→β→Prop}{p q:Prop} [Decidable p] [Decidable q] {a c:Option α}{b d:Option β}(h:p↔q)(h1:p→OptR R a b)(h2:¬p→OptR R c d):OptR R (if p then a else c) (if q then b else d):=by
 by_cases hp:p
 ·rw [if_pos hp,if_pos (h.1 hp)];exact h1 hp
 ·rw [if_neg hp,if_neg (fun hq=> hp (h.2 hq))];exact h2 hp
def Eqv(x y:Tree):Prop:=Z6 x=Z6 y
def EqvL(x y:List Tree):Prop:=Z5 x=Z5 y
theorem EqvL.take{x y:List Tree}(h:EqvL x y)(n:Nat):EqvL (x.take n) (y.take n):=by unfold EqvL Z5 at*;rw [List.map_take,List.map_take,h]
theorem EqvL.drop{x y:List Tree}(h:EqvL x y)(n:Nat):EqvL (x.drop n) (y.drop n):=by unfold EqvL Z5 at*;rw [List.map_drop,List.map_drop,h]
theorem EqvL.len{x y:List Tree}(h:EqvL x y):x.length=y.length:=Z7O h
theorem ZaA(l:List Tree)(i:Nat):(Z5 l).getD i Tree.nil=Z6 (l.getD i Tree.nil):=by rw [←Z2u];exact Jw l i
theorem EqvL.get{x y:List Tree}(h:EqvL x y)(i:Nat):Eqv (x.getD i Tree.nil) (y.getD i Tree.nil):=by
 unfold Eqv;rw [←ZaA,←ZaA,h]
theorem Zfe{a b:Option (List Tree × List Tree)}(h:OptR (fun x y=> EqvL x.1 y.1∧EqvL x.2 y.2) a b):OptR EqvL (Z2J a) (Z2J b):=by
 unfold Z2J
 refine h.bind fun x y hxy=> ?_
 exact OptR.ite (by rw [hxy.2.len]) (fun _=> hxy.1) (fun _=> trivial)
def Zo7(a b:List Int):Prop:=∀ i:Nat,a.getD i 0=b.getD i 0
def ZkR(a b:List Tree):Prop:=∀ i:Nat,Eqv (a.getD i Tree.nil) (b.getD i Tree.nil)
theorem Zb3{a b:Tree}(ha:a.kind=1)(hb:b.kind=1):Eqv a b↔Zo7 a.words b.words∧ZkR a.kids b.kids:=by
 unfold Eqv Zo7 ZkR
 rw [Yd,ha,hb]
 simp [Eqv]
theorem Znl{a b:Tree}(h0:a.kind≠0)(h1:a.kind≠1):Eqv a b↔a.kind=b.kind∧a.words=b.words∧EqvL a.kids b.kids:=by
 unfold Eqv EqvL
 rw [Yd,if_neg h1,←Z2u,←Z2u,Z6s]
 simp [h0,and_assoc]
theorem Eqv.kind{a b:Tree}(h:Eqv a b):a.kind=b.kind:=((Yd a b).1 h).1
theorem Zhj{tw tv:List Int}(h:Zo7 tw tv):∀ (ws:List WEdit) (a b:List Int),Zo7 a b→OptR Zo7 (wsD tw ws a) (wsD tv ws b)
 | [],_,_,hab=> hab
 | w ::r,a,b,hab=> by
  rw [wsD,wsD,h w.at_.toNat]
  refine OptR.ite Iff.rfl (fun _=> Zhj h r _ _ fun i=> ?_) (fun _=> trivial)
  rw [YZ,YZ]
  split
  ·try rfl
  ·exact hab i
theorem Zkn(l:List Tree){a b:List Tree}(h:EqvL a b):YV l a=YV l b:=by
 unfold YV
 rw [h.len,show Z5 (a.take l.length)=Z5 (b.take l.length) from h.take _]
mutual
theorem ZiN:∀ (e:Edit) (d:Int) (t s:Tree),Z4 e d=true→Eqv t s→OptR Eqv (doE false e t) (doE false e s)
 | .mk k o n w ks l os,d,t,s,hr,h=> by
  have h1:=Zfi ks t.kids s.kids
  have h2:=Zb6 os t.kids s.kids [] []
  have hk:=h.kind
  have hrt:=ZfS hr
  rw [Z0e,Z0e,Yx,Yx]
  show OptR Eqv (if k=0 then _ else _) (if k=0 then _ else _)
  refine OptR.ite Iff.rfl (fun _=> h) fun _=> OptR.ite Iff.rfl (fun _=> ?_) fun _=> OptR.ite Iff.rfl (fun k2=> ?_) fun _=> OptR.ite Iff.rfl (fun k3=> ?_) (fun _=> trivial)
  ·rw [show Z6 t=Z6 s from h]
   exact OptR.ite Iff.rfl (fun _=> rfl) (fun _=> trivial)
  ·refine OptR.ite (by rw [hk]) (fun ht=> ?_) (fun _=> trivial)
   have hs:s.kind=1:=by rw [←hk];exact ht
   obtain ⟨hw,hks⟩:=(Zb3 ht hs).1 h
   refine (Zhj hw w t.words s.words hw).bind fun a b hab=> ?_
   refine (h1 hks hrt.1 t.kids s.kids hks).map fun x y hxy=> ?_
   exact (Zb3 rfl rfl).2 ⟨hab,hxy⟩
  ·refine OptR.ite (by rw [hk]) (fun ht=> ?_) (fun _=> trivial)
   have hl:=hrt.2.2
   have hos:=hrt.2.1
   replace ht:t.kind=l:=ht
   replace hl:2≤l∧l≤9:=hl k3
   obtain ⟨_,_,hks⟩:=(Znl (by omega) (by omega)).1 h
   exact (Zfe (h2 hks rfl hos)).map fun x y hxy=> ZaC _ _ hxy
theorem Zfi:∀ (ks:List (KidOf Edit)) (tk sk:List Tree),ZkR tk sk→(∀ k∈ks,∃ d,Z4 k.e d=true)→∀ a b,ZkR a b→OptR ZkR (JB false tk ks a) (JB false sk ks b)
 | [],_,_,_,_,_,_,hab=> hab
 | k ::r,tk,sk,h,hr,a,b,hab=> by
  rw [JB,JB]
  obtain ⟨d,hd⟩:=hr k List.mem_cons_self
  refine (Zkw k d tk sk h hd).bind fun x y hxy=> Zfi r tk sk h (fun q hq=> hr q (List.mem_cons_of_mem _ hq)) _ _ fun i=> ?_
  rw [YZ,YZ]
  split
  ·exact hxy
  ·exact hab i
theorem Zkw:∀ (k:KidOf Edit) (d:Int) (tk sk:List Tree),ZkR tk sk→Z4 k.e d=true→OptR Eqv (Z23 false tk k) (Z23 false sk k)
 | ⟨a,e⟩,d,tk,sk,h,hr=> by rw [Z23,Z23];exact ZiN e d _ _ hr (h _)
theorem Zb6:∀ (os:List (OpOf Edit)) (rt rs a b:List Tree),EqvL rt rs→EqvL a b→(∀ o∈os,∃ l d,Zf l o d=true)→OptR (fun x y=> EqvL x.1 y.1∧EqvL x.2 y.2) (ZK false os rt a) (ZK false os rs b)
 | [],_,_,_,_,h,hab,_=> ⟨hab,h⟩
 | o ::r,rt,rs,a,b,h,hab,hr=> by
  rw [ZK,ZK]
  refine (Znp o rt rs a b h hab (hr o List.mem_cons_self)).bind fun x y hxy=> Zb6 r _ _ _ _ hxy.2 hxy.1 (fun q hq=> hr q (List.mem_cons_of_mem _ hq))
theorem Znp:∀ (o:OpOf Edit) (rt rs a b:List Tree),EqvL rt rs→EqvL a b→(∃ l d,Zf l o d=true)→OptR (fun x y=> EqvL x.1 y.1∧EqvL x.2 y.2) (Z3j false o rt a) (Z3j false o rs b)
 | ⟨k,n,l,e⟩,rt,rs,a,b,h,hab,hr=> by
  obtain ⟨li,d,hr⟩:=hr
  have he:=fun h3=> ZiN e d (rt.getD 0 Tree.nil) (rs.getD 0 Tree.nil) (Z33 hr h3) (h.get 0)
  have hlen:=h.len
  rw [Z3j,Z3j]
  refine OptR.ite Iff.rfl (fun _=> OptR.ite (by rw [hlen]) (fun _=> ⟨Z4L hab (h.take _),h.drop _⟩) (fun _=> trivial)) fun k0=> OptR.ite Iff.rfl (fun _=> ?_) fun k1=> OptR.ite Iff.rfl (fun _=> ⟨Z4L hab rfl,h⟩) fun k2=> OptR.ite (by rw [hlen]) (fun _=> trivial) fun _=> ?_
  ·rw [Zkn l h]
   exact OptR.ite Iff.rfl (fun _=> ⟨hab,h.drop _⟩) (fun _=> trivial)
  ·have h03:k=0∨k=1∨k=2∨k=3:=by
    have r:=Yf hr
    generalize ho:OpOf.mk k n l e=o at r
    cases r <;> (injection ho with h1;subst h1;decide)
   exact (he (by show k=3;omega)).map fun x y h'=> ⟨Z4L hab (ZbX.2 h'),h.drop _⟩
end
end Go.AM.Ytpjenobkibfpcaa
namespace Go.AM.Ytpjenobkibfpcaa
open Go.AM Go.Proofs
theorem ZeU{α β:Type}{f:α→β}(d:α){a b:List α}(hl:a.length=b.length)(h:∀ i:Nat,i < a.length→f (a.getD i d)=f (b.getD i d)):a.map f=b.map f:=by
 apply List.ext_getElem (by simpa using hl)
 intro i h1 h2
 have h1':i < a.length:=by simpa using h1
 have h2':i < b.length:=by simpa using h2
 have:=h i h1'
 simpa [List.getD_eq_getElem?_getD,List.getElem?_eq_getElem h1',List.getElem?_eq_getElem h2'] using this
theorem Zfc{α β:Type}{f:α→β}{d:α}{a b:List α}(h:a.map f=b.map f)(i:Nat):f (a.getD i d)=f (b.getD i d):=by
 have e:=congrArg (fun l=> l[i]?.getD (f d)) h
 simp only [List.getElem?_map] at e
 rw [List.getD_eq_getElem?_getD,List.getD_eq_getElem?_getD]
 cases h1:a[i]? <;> cases h2:b[i]? <;> simp_all
end Go.AM.Ytpjenobkibfpcaa
namespace Go.AM.Ytpjenobkibfpcaa
open Go.AM Go.Proofs
theorem Z2z(t:Tree):(Z6 t).kind=t.kind:=by
 obtain ⟨k,w,ks⟩:=t
 simp only [Z6]
 by_cases h0:k=0
 ·rw [if_pos h0,h0];try rfl
 ·rw [if_neg h0]
  by_cases h1:k=1
  ·rw [if_pos h1,h1];try rfl
  ·rw [if_neg h1];try rfl
theorem Z9u:∀ (l:List Int),∃ r,l=trim l++r
 | []=> ⟨[],rfl⟩
 | x ::r=> by
  obtain ⟨s,hs⟩:=Z9u r
  simp only [trim]
  split
  ·rename_i e
   split
   ·exact ⟨x ::r,rfl⟩
   ·exact ⟨r,rfl⟩
  ·rename_i y t e
   rw [e] at hs
   exact ⟨s,by rw [hs];rfl⟩
theorem Z7m:∀ (l:List Tree),∃ r,l=ZY l++r
 | []=> ⟨[],rfl⟩
 | x ::r=> by
  obtain ⟨s,hs⟩:=Z7m r
  simp only [ZY]
  split
  ·rename_i e
   split
   ·exact ⟨x ::r,rfl⟩
   ·exact ⟨r,rfl⟩
  ·rename_i y t e
   rw [e] at hs
   exact ⟨s,by rw [hs];rfl⟩
theorem Za9{list d:Int}:∀ (a b:List Tree),ZT list (a++b) d=true→ZT list a d=true
 | [],_,_=> rfl
 | t ::r,b,h=> by
  simp only [List.cons_append,ZT,Bool.and_eq_true] at h ⊢
  exact ⟨h.1,Za9 r b h.2⟩
theorem Z0R:∀ (l:List Tree),(ZV l).length=l.length
 | []=> rfl
 | t ::r=> by simp only [ZV,List.length_cons,Z0R r]
theorem Zkh{list:Int}{t:Tree}(h:Jz list t=true):Jz list (Z6 t)=true:=by
 unfold Jz at h ⊢
 rw [Z2z]
 split at h
 ·rename_i hl
  rw [if_pos hl]
  simp only [Bool.and_eq_true,decide_eq_true_eq] at h ⊢
  obtain ⟨⟨h1,h2,h3⟩,h4⟩:=h
  obtain ⟨k,w,ks⟩:=t
  simp only [Tree.kind_mk,Tree.kids_mk,Tree.words_mk] at h1 h2 h3 h4
  have:ks=[]:=List.length_eq_zero_iff.1 h2
  subst this
  subst h1
  exact ⟨⟨rfl,rfl,h3⟩,h4⟩
 ·rename_i hl
  rw [if_neg hl]
  exact h
mutual
theorem Z1V:∀ (t:Tree) (d:Int),Z9 t d=true→Z9 (Z6 t) d=true
 | .mk k w ks,d,h=> by
  have ih:=fun (list:Int) (h:ZT list ks (d - 1)=true)=> Z3P ks list (d - 1) h
  simp only [Z9] at h
  simp only [Z6]
  by_cases h0:k=0
  ·rw [if_pos h0];simp [Tree.nil,Z9]
  ·rw [if_neg h0] at h ⊢
   by_cases h10:k=10
   ·subst h10
    rw [if_pos rfl] at h
    rw [if_neg (by decide)]
    simp only [decide_eq_true_eq] at h
    simp only [Z9]
    rw [if_neg (by decide),if_pos trivial,Z0R]
    simpa using h
   ·rw [if_neg h10] at h
    by_cases hd:d=0
    ·rw [if_pos hd] at h;cases h
    ·rw [if_neg hd] at h
     by_cases h1:k=1
     ·subst h1
      rw [if_pos rfl] at h
      rw [if_pos rfl]
      simp only [Bool.and_eq_true,decide_eq_true_eq] at h
      simp only [Z9]
      rw [if_neg (by decide),if_neg (by decide),if_neg hd,if_pos trivial]
      simp only [Bool.and_eq_true,decide_eq_true_eq]
      obtain ⟨r1,e1⟩:=Z9u w
      obtain ⟨r2,e2⟩:=Z7m (ZV ks)
      have l1:=congrArg List.length e1
      have l2:=congrArg List.length e2
      rw [Z0R] at l2
      simp only [List.length_append] at l1 l2
      refine ⟨⟨by omega,by omega⟩,?_⟩
      have:=ih 1 h.2
      rw [e2] at this
      exact Za9 _ _ this
     ·rw [if_neg h1] at h ⊢
      simp only [Bool.and_eq_true,decide_eq_true_eq] at h
      simp only [Z9]
      rw [if_neg h0,if_neg h10,if_neg hd,if_neg h1,Z0R]
      simp only [Bool.and_eq_true,decide_eq_true_eq]
      exact ⟨h.1,ih k h.2⟩
theorem Z3P:∀ (l:List Tree) (list d:Int),ZT list l d=true→ZT list (ZV l) d=true
 | [],_,_,_=> rfl
 | t ::r,list,d,h=> by
  simp only [ZT,Bool.and_eq_true] at h
  have h1:=Z1V t d h.1.2
  have h2:=Z3P r list d h.2
  simp only [ZV,ZT,Bool.and_eq_true]
  exact ⟨⟨Zkh h.1.1,h1⟩,h2⟩
end
end Go.AM.Ytpjenobkibfpcaa
namespace Go.AM.Ytpjenobkibfpcaa
open Go.AM Go.Proofs
theorem Z7V:∀ (a b:List Tree),Zb (a++b)=Zb a+Zb b
 | [],b=> by simp [Zb]
 | t ::r,b=> by simp only [List.cons_append,Zb,Z7V r b];omega
theorem J6:∀ (a b:List Op),Zd (a++b)=Zd a+Zd b
 | [],b=> by simp [Zd]
 | t ::r,b=> by simp only [List.cons_append,Zd,J6 r b];omega
theorem Z8J:∀ (l:List Tree),Zb (Z5 l)≤Zb l
 | []=> by simp [Z5,Zb]
 | t ::r=> by
  have h:=Z8J r
  have h2:=Ju t
  simp only [Z5] at h
  simp only [Z5,List.map_cons,Zb]
  omega
theorem Z4O:Zg Edit.nil=3:=by simp [Edit.nil,Tree.nil,Zg,Zj,Zb,ZN,Zd]
theorem Z7T:Zj Tree.nil=1:=by simp [Tree.nil,Zj,Zb]
theorem Z4N(t:Tree):1≤Zj t:=by cases t;simp only [Zj];omega
theorem Z46:∀ (e:Edit),3≤Zg e
 | .mk k o n w ks l os=> by
  have h1:=Z4N o
  have h2:=Z4N n
  simp only [Zg];omega
def Z3X(w:Wst):Nat:=Zd w.out+w.out.length+Zb w.gone+Zb w.brought+(if w.gone.length=0 then 0 else 4)+(if w.brought.length=0 then 0 else 4)
theorem Jy(o:Op):Zd [o]=ZX o:=by simp [Zd]
theorem Z19(k n:Int)(l:List Tree)(e:Edit):ZX (OpOf.mk k n l e)=Zb l+Zg e:=rfl
theorem Z7G(w:Wst):Zd (Z1 w).out+(Z1 w).out.length=Z3X w:=by
 simp only [Z1,YD,Z3X]
 rw [J6,J6,List.length_append,List.length_append]
 by_cases hg:w.gone.length=0
 ·have e:w.gone=[]:=List.length_eq_zero_iff.1 hg
  rw [if_pos hg,if_pos hg,e]
  by_cases hb:w.brought.length=0
  ·have e2:w.brought=[]:=List.length_eq_zero_iff.1 hb
   rw [if_pos hb,if_pos hb,e2];simp [Zd,Zb]
  ·rw [if_neg hb,if_neg hb,Jy,Z19,Z4O];simp [Zd,Zb];omega
 ·rw [if_neg hg,if_neg hg,Jy,Z19,Z4O]
  by_cases hb:w.brought.length=0
  ·have e2:w.brought=[]:=List.length_eq_zero_iff.1 hb
   rw [if_pos hb,if_pos hb,e2];simp [Zd,Zb];omega
  ·rw [if_neg hb,if_neg hb,Jy,Z19,Z4O];simp;omega
theorem Zet(w:Wst)(n:Int):Z3X (Zy w n)≤Z3X w+4:=by
 have h:=Z7G w
 have e:Z3X (Zy w n)=Zd (Y8 (Z1 w).out n)+(Y8 (Z1 w).out n).length:=by simp [Z3X,Zy,Zb]
 rw [e]
 rcases YJ (Z1 w).out n with e | ⟨a,o,e1,_,e3⟩
 ·rw [e,J6,List.length_append,Jy,Z19,Z4O];simp [Zb];omega
 ·rw [e3,J6,List.length_append,Jy]
  rw [e1,J6,List.length_append,Jy] at h
  obtain ⟨k,m,l,e⟩:=o
  simp only [Z19] at h ⊢
  simp at h ⊢
  omega
theorem Zs7{list:Int}{w:Wst}{o:Op}(hi:Zg (Zz o.e)≤Zg o.e):Z3X (JD list o w)≤Z3X w+ZX o+1:=by
 have h3:=Z46 o.e
 have hm:ZX o=Zb o.l+Zg o.e:=by cases o;rfl
 have hn:=Z8J o.l
 have hl:(Z5 o.l).length=o.l.length:=by simp [Z5]
 rw [Yq]
 split
 ·have:=Zet w o.n;omega
 ·split
  ·simp only [Z3X,Z7V,List.length_append,hl]
   split <;> split <;> split <;> omega
  ·split
   ·simp only [Z3X,Z7V,List.length_append,hl]
    split <;> split <;> split <;> omega
   ·split
    ·split
     ·have:=Zet w 1;omega
     ·have:=Z7G w
      have e:Z3X ⟨(Z1 w).out++[⟨3,0,[],Zz o.e⟩],[],[]⟩=Zd ((Z1 w).out++[(⟨3,0,[],Zz o.e⟩:Op)])+((Z1 w).out++[(⟨3,0,[],Zz o.e⟩:Op)]).length:=by simp [Z3X,Zb]
      rw [e,J6,List.length_append,Jy,Z19]
      simp [Zb];omega
    ·omega
mutual
theorem Z4P:∀ (e:Edit),Zg (Zz e)≤Zg e
 | .mk k o n w ks l os=> by
  have h1:=ZaM ks
  have h2:=Zi3 l os W0
  have h3:=Z7G (Zo l os W0)
  have e0:Z3X W0=0:=rfl
  have po:=Z4N o
  have pn:=Z4N n
  have mo:=Ju o
  have mn:=Ju n
  rw [Zz]
  split
  ·simp only [Zg,ZN,Zd,List.length_nil];omega
  ·split
   ·simp only [Zg,ZN,Zd,List.length_nil,Z7T];omega
   ·split
    ·simp only [Zg,ZN,List.length_nil,Z7T]
     show 1+1+1+0+(Z1 (Zo l os W0)).out.length+0+Zd (Z1 (Zo l os W0)).out≤_
     omega
    ·simp only [Zg,ZN,Zd,List.length_nil,Z7T];omega
theorem ZaM:∀ (ks:List (KidOf Edit)),ZN (Yj ks)≤ZN ks
 | []=> Nat.le_refl _
 | k ::r=> by
  have h1:=ZeT k
  have h2:=ZaM r
  simp only [Yj,ZN];omega
theorem ZeT:∀ (k:KidOf Edit),JN (Jj k)≤JN k
 | ⟨a,e⟩=> by
  have h:=Z4P e
  simp only [Jj,JN];exact h
theorem Zi3(list:Int):∀ (os:List (OpOf Edit)) (w:Wst),Z3X (Zo list os w)≤Z3X w+Zd os+os.length
 | [],w=> by simp [Zo,Zd]
 | o ::r,w=> by
  have h1:=ZjT list o w
  have h2:=Zi3 list r (JD list o w)
  simp only [Zo,Zd,List.length_cons];omega
theorem ZjT(list:Int):∀ (o:OpOf Edit) (w:Wst),Z3X (JD list o w)≤Z3X w+ZX o+1
 | ⟨k,n,l,e⟩,_=> Zs7 (o:=⟨k,n,l,e⟩) (Z4P e)
end
end Go.AM.Ytpjenobkibfpcaa
