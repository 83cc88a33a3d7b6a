import Derived.Test.YtpjenobkibfpcaaKG20x
import Derived.Test.YtpjenobkibfpcaaKL07
import Derived.Test.YtpjenobkibfpcaaKL23r
set_option linter.unusedSimpArgs false
set_option linter.unusedVariables false
namespace Go.AM.Ytpjenobkibfpcaa
open Go.AM Go.Proofs
theorem Zd0{n:Int}(h:InR n):wr n=n:=by
 unfold InR at h
 simp [wr,IntKind.wrap,IntKind.signed,IntKind.bits]
 split <;> omega
theorem Zfp{l:List Op}{i:Int}(n:Int)(h0:0<=i)(h:i < l.length):Z0l (l.drop i.toNat) n=Z0l (l.drop (i+1).toNat) (if (l.getD i.toNat Op.nil).kind=2 then n else ZcE (wr (n+Z02 (l.getD i.toNat Op.nil)))):=by
 rw [Yr h0 h Op.nil,Z0l]
theorem Zfo{l:List Op}{i:Int}(n:Int)(h0:0<=i)(h:i < l.length):Z0w (l.drop i.toNat) n=Z0w (l.drop (i+1).toNat) (if (l.getD i.toNat Op.nil).kind=1 then n else ZcE (wr (n+Z02 (l.getD i.toNat Op.nil)))):=by
 rw [Yr h0 h Op.nil,Z0w]
theorem ZrU:Contract Try.prog cfg 164 Z2u:=by
 refine Zo8 ?_
 intro e _ hp
 simp only [Z52] at hp
 have h1:=ZZ e
 have h2:=Yo e.ops
 refine Ztl _ _ ?_
 refine Za (ι:=Int × Int × Int) (fun s=> YL e s.1 s.2.1 s.2.2) (fun s=> (0<=s.2.2/\s.2.2<=e.ops.length)/\Z0l (e.ops.drop s.2.2.toNat) s.1=Z0l e.ops 0/\Z0w (e.ops.drop s.2.2.toNat) s.2.1=Z0w e.ops 0) (fun s=> ((e.ops.length:Int) - s.2.2).toNat) (0,0,0) rfl ⟨⟨by simp,by simp⟩,rfl,rfl⟩ ?_
 rintro ⟨n,m,i⟩ ⟨⟨g1,g2⟩,g3,g4⟩
 dsimp only at g1 g2 g3 g4
 refine ZjH _ _ _ _ _ _ ?_
 (simp only [vcS])
 refine ⟨fun hi=> ⟨⟨g1,hi⟩,?_⟩,fun hi=> ?_⟩
 ·rw [Zfp _ g1 hi] at g3
  rw [Zfo _ g1 hi] at g4
  have hk:IntKind.wrap .i64 (i+1)=i+1:=Zd0 (by unfold InR;omega)
  generalize hy:e.ops.getD i.toNat Op.nil=y at*
  have key:∀ k:Int,k=Z02 y->∀ (Q':AExit->LSt U->Prop),ZcV e n m i k (fun s2=> ∃ j:Int × Int × Int,s2=YL e j.1 j.2.1 j.2.2/\((0<=j.2.2/\j.2.2<=e.ops.length)/\Z0l (e.ops.drop j.2.2.toNat) j.1=Z0l e.ops 0/\Z0w (e.ops.drop j.2.2.toNat) j.2.1=Z0w e.ops 0)/\((e.ops.length:Int) - j.2.2).toNat < ((e.ops.length:Int) - i).toNat) Q':=by
   rintro k rfl Q'
   have step2:∀ a:Int,a=(if y.kind=2 then n else ZcE (wr (n+Z02 y)))->ZcU e m i (Z02 y) a (fun s2=> ∃ j:Int × Int × Int,s2=YL e j.1 j.2.1 j.2.2/\((0<=j.2.2/\j.2.2<=e.ops.length)/\Z0l (e.ops.drop j.2.2.toNat) j.1=Z0l e.ops 0/\Z0w (e.ops.drop j.2.2.toNat) j.2.1=Z0w e.ops 0)/\((e.ops.length:Int) - j.2.2).toNat < ((e.ops.length:Int) - i).toNat) Q':=by
    rintro a ha
    refine ZjI _ _ _ _ _ _ _ ?_
    rw [hy,hk]
    (simp only [vcS])
    rw [<-ha] at g3
    refine ⟨fun hb=> ⟨(a,_,i+1),rfl,⟨⟨by dsimp only;omega,by dsimp only;omega⟩,g3,?_⟩,by dsimp only;omega⟩,fun hb=> ⟨(a,_,i+1),rfl,⟨⟨by dsimp only;omega,by dsimp only;omega⟩,g3,?_⟩,by dsimp only;omega⟩⟩
    ·rw [if_neg hb] at g4;exact g4
    ·rw [if_pos hb] at g4;exact g4
   refine ZjJ _ _ _ _ _ _ _ ?_
   rw [hy]
   (simp only [vcS])
   exact ⟨fun hb=> step2 _ (by rw [if_neg hb];rfl),fun hb=> step2 _ (by rw [if_pos hb])⟩
  exact ⟨fun hb=> key _ (by unfold Z02;rw [if_pos hb]) _,fun hb=> key _ (by unfold Z02;rw [if_neg hb];rfl) _⟩
 ·rw [Qb (by omega)] at g3 g4
  simp only [Z0l,Z0w] at g3 g4
  rw [g3,g4]
  (repeat' (first | exact trivial | exact rfl | apply And.intro))
theorem ZdW:∀ (l:List Op) (n:Int),(∀ o∈l,(0<=o.n/\o.n<=1048576)/\o.l.length<=20000000000)->0<=n->n<=1048576->Z0l l n=Jy l n
 | [],_,_,_,_=> rfl
 | o ::r,n,h,h0,hn=> by
  have ho:=h o (Qa ..)
  have hl:=Z9I o
  have ew:Z02 o=Zt o:=by
   unfold Z02;rw [hl]
   split
   ·try rfl
   ·exact Zd0 (by unfold InR;omega)
  have hb:0<=Zt o/\Zt o<=60000000000:=by rw [hl];split <;> omega
  simp only [Z0l,Jy]
  rw [ew,Zd0 (by unfold InR;omega)]
  have e2:(if o.kind=2 then n else ZcE (n+Zt o))=min (if o.kind=2 then n else n+Zt o) 1048576:=by
   unfold ZcE;split
   ·omega
   ·split <;> omega
  rw [e2]
  exact ZdW r _ (fun x hx=> h x (Q5 _ hx)) (by split <;> omega) (by omega)
theorem ZdV:∀ (l:List Op) (n:Int),(∀ o∈l,(0<=o.n/\o.n<=1048576)/\o.l.length<=20000000000)->0<=n->n<=1048576->Z0w l n=Jx l n
 | [],_,_,_,_=> rfl
 | o ::r,n,h,h0,hn=> by
  have ho:=h o (Qa ..)
  have hl:=Z9I o
  have ew:Z02 o=Zt o:=by
   unfold Z02;rw [hl]
   split
   ·try rfl
   ·exact Zd0 (by unfold InR;omega)
  have hb:0<=Zt o/\Zt o<=60000000000:=by rw [hl];split <;> omega
  simp only [Z0w,Jx]
  rw [ew,Zd0 (by unfold InR;omega)]
  have e2:(if o.kind=1 then n else ZcE (n+Zt o))=min (if o.kind=1 then n else n+Zt o) 1048576:=by
   unfold ZcE;split
   ·omega
   ·split <;> omega
  rw [e2]
  exact ZdV r _ (fun x hx=> h x (Q5 _ hx)) (by split <;> omega) (by omega)
noncomputable section
noncomputable section
def ZhL:ArgL (List Tree × List Tree × Unit × Unit):=(.cons (aSl .tree) (.cons (aSl .tree) (.cons (aFn 106) .nil)))
def Z9A(a:List Tree × List Tree × Unit × Unit):Prop:=Ze a.1<=1000000000000/\Ze a.2.1<=1000000000000
def ZkI(a:List Tree × List Tree × Unit × Unit):V U:= .c (.bool (eqX (Z5 a.1) (Z5 a.2.1)))
def Z3R:Fs U:=fs ZhL (fun a=> [Z9A a]) ZkI
def Z08:List (FuncId × Fs U):=[(106,Z0C)]
def Z5Z:Zc U:=lvl [([0,1,2],[]),([0,1,2,14],[]),([6],[]),([1,2,15,16,17],[]),([1,2,15,16,17,18],[]),([1,2,7,8,15,16,17],[8]),([1,2,8,9,15,16,17],[8,9]),([1,2,15,16,17,30],[]),([6],[]),([1,2,15,16,17],[]),([6],[])]
def Z0P(a b:List Tree)(f:Unit)(x17:Int):LSt U:=(L2 [(1,.c (sU .tree b .unk)),(2,.fn 106),(15,.c (sU .tree a .unk)),pI 16 (a.length:Int),pI 17 x17] [])
abbrev Zul(a b:List Tree)(f:Unit)(Q:QT):=AW (Z1 Z08) Try.f151 Z5Z [] (L2 [(0,.c (sU .tree a .unk)),(1,.c (sU .tree b .unk)),(2,.fn 106)] []) Q
abbrev Zg9:=awp cfg (Z1 Z08) (ZC cfg (Z1 Z08)) Try.f151.ntmps Z5Z
abbrev ZeG:=Z9h cfg (Z1 Z08) (ZC cfg (Z1 Z08)) Try.f151.ntmps Z5Z
theorem Zto(a b:List Tree)(f:Unit)(Q:QT)(h:((((a.length:Int):Int) !=(b.length:Int))=true->Q .ret (L2 [pB 6 false] []))/\((((a.length:Int):Int) !=(b.length:Int))=false->Zh (AW (Z1 Z08) Try.f151 Z5Z [1,1,0,1,0,0]) (Z0P a b f 0) (xB 0 (SW (Z1 Z08) Try.f151 Z5Z [1,1,1] Q)))):
  Zul a b f Q:=by
 have e_:(Zul a b f Q)=((((a.length:Int) !=(b.length:Int))=true->(Q .ret (L2 [pB 6 false] [])))/\(((a.length:Int) !=(b.length:Int))=false->(Zh (Zg9 (cd Try.f151 [1,1,0,1,0,0])) (Z0P a b f 0) (xB 0 (ZeG (cd Try.f151 [1,1,1]) Q))))):=by kernel_rfl
 exact e_.mpr ⟨fun c_4=> (h.1 c_4),fun c_4=> (h.2 c_4)⟩
abbrev Zi4(a b:List Tree)(f:Unit)(x17:Int)(N0:NT)(Q:QT):=AW (Z1 Z08) Try.f151 Z5Z [1,1,0,1,0,0] (Z0P a b f x17) (xT N0 (xB 0 (SW (Z1 Z08) Try.f151 Z5Z [1,1,1] Q)))
theorem ZjK(a b:List Tree)(f:Unit)(x17:Int)(N0:NT)(Q:QT)(h:((decide (x17 < (a.length:Int)))=true->((0:Int)<=x17/\x17 < (a.length:Int))/\(((0:Int)<=x17/\x17 < (b.length:Int))/\((Z1e ((Tree.mk (Tree.kind (a.getD x17.toNat Tree.nil)) (Tree.words (a.getD x17.toNat Tree.nil)) (Tree.kids (a.getD x17.toNat Tree.nil))),(Tree.mk (Tree.kind (b.getD x17.toNat Tree.nil)) (Tree.words (b.getD x17.toNat Tree.nil)) (Tree.kids (b.getD x17.toNat Tree.nil))),()))/\(((!(Yf (Z3 (Tree.mk (Tree.kind (a.getD x17.toNat Tree.nil)) (Tree.words (a.getD x17.toNat Tree.nil)) (Tree.kids (a.getD x17.toNat Tree.nil)))) (Z3 (Tree.mk (Tree.kind (b.getD x17.toNat Tree.nil)) (Tree.words (b.getD x17.toNat Tree.nil)) (Tree.kids (b.getD x17.toNat Tree.nil))))))=true->Q .ret (L2 [pB 6 false] []))/\((!(Yf (Z3 (Tree.mk (Tree.kind (a.getD x17.toNat Tree.nil)) (Tree.words (a.getD x17.toNat Tree.nil)) (Tree.kids (a.getD x17.toNat Tree.nil)))) (Z3 (Tree.mk (Tree.kind (b.getD x17.toNat Tree.nil)) (Tree.words (b.getD x17.toNat Tree.nil)) (Tree.kids (b.getD x17.toNat Tree.nil))))))=false->(InR (x17+1))/\(N0 (Z0P a b f (x17+1))))))))/\((decide (x17 < (a.length:Int)))=false->Q .ret (L2 [pB 6 true] []))):
  Zi4 a b f x17 N0 Q:=by
 have e_:(Zi4 a b f x17 N0 Q)=(let zz0:=(!(Yf (Z3 (Tree.mk (Tree.kind (a.getD x17.toNat Tree.nil)) (Tree.words (a.getD x17.toNat Tree.nil)) (Tree.kids (a.getD x17.toNat Tree.nil)))) (Z3 (Tree.mk (Tree.kind (b.getD x17.toNat Tree.nil)) (Tree.words (b.getD x17.toNat Tree.nil)) (Tree.kids (b.getD x17.toNat Tree.nil))))));(((decide ((x17:Int) < (a.length:Int)))=true->((0:Int)<=x17/\x17 < (a.length:Int))/\(((0:Int)<=x17/\x17 < (b.length:Int))/\((Z1e ((Tree.mk (Tree.kind (a.getD x17.toNat Tree.nil)) (Tree.words (a.getD x17.toNat Tree.nil)) (Tree.kids (a.getD x17.toNat Tree.nil))),(Tree.mk (Tree.kind (b.getD x17.toNat Tree.nil)) (Tree.words (b.getD x17.toNat Tree.nil)) (Tree.kids (b.getD x17.toNat Tree.nil))),()))/\((zz0=true->(Q .ret (L2 [pB 6 false] [])))/\(zz0=false->(InR ((x17:Int)+1))/\(N0 (Z0P a b f ((x17:Int)+1))))))))/\((decide ((x17:Int) < (a.length:Int)))=false->(Q .ret (L2 [pB 6 true] []))))):=by kernel_rfl
 exact e_.mpr ⟨fun c_5=> ⟨(h.1 c_5).1,⟨(h.1 c_5).2.1,⟨(h.1 c_5).2.2.1,⟨fun c_6=> ((h.1 c_5).2.2.2.1 c_6),fun c_6=> ⟨((h.1 c_5).2.2.2.2 c_6).1,((h.1 c_5).2.2.2.2 c_6).2⟩⟩⟩⟩⟩,fun c_5=> (h.2 c_5)⟩
def Zpe(a b:List Tree)(f:Unit):Prop:=AW (Z1 Z08) Try.f151 Z5Z [] (Zg (ZhL.can (a,b,f,())) []) (EQ Try.f151 (ZkI (a,b,f,())) [])
theorem Zoa(Zjl:CT 106 Z0C)(hb:∀ (a:List Tree) (b:List Tree) (f:Unit) (_:Unit),Z9A (a,b,f,())->Zpe a b f):CT 151 Z3R:=
 Z7 (l:=[(106,Z0C)]) Zj rfl (⟨Zjl,trivial⟩) Z5Z Try.func151 rfl rfl 3 (fun _=> rfl) (by decide) (fun ⟨a,b,f,_⟩=> hb a b f ())
end
end
theorem ZrW:Contract Try.prog cfg 151 Z3R:=by
 refine Zoa Zjl ?_
 intro a b f _ hp
 simp only [Z9A] at hp
 refine Zto a b f _ ?_
 (simp only [vcS])
 refine ⟨fun hc=> Z0 rfl (Zmp (a:=Z5 a) (b:=Z5 b) (fun h=> hc (by have:=congrArg List.length h;simp [Z5] at this;omega))).symm,fun hc=> ?_⟩
 have hl:a.length=b.length:=by omega
 have hla:=Zw a
 refine Za (ι:=Int) (fun i=> Z0P a b f i) (fun i=> 0<=i/\i<=a.length/\∀ j:Nat,(j:Int) < i->Z3 (a.getD j Tree.nil)=Z3 (b.getD j Tree.nil)) (fun i=> ((a.length:Int) - i).toNat) 0 rfl ⟨by omega,by omega,by intro j hj;omega⟩ ?_
 rintro i ⟨h1,h2,h3⟩
 refine ZjK a b f _ _ _ ?_
 (simp only [vcS])
 (simp only [Tree.eta,Edit.eta,Tree.kind_mk,Tree.words_mk,Tree.kids_mk])
 refine ⟨fun hi=> ⟨⟨h1,hi⟩,⟨h1,by omega⟩,?_,fun hq=> ?_,fun hq=> ⟨by unfold InR;omega,i+1,rfl,⟨by omega,by omega,?_⟩,by omega⟩⟩,fun hi=> ?_⟩
 ·have:=JE (Zl (l:=a) (i:=i.toNat) (by omega) Tree.nil)
  have:=JE (Zl (l:=b) (i:=i.toNat) (by omega) Tree.nil)
  simp only [Z1e];omega
 ·refine Z0 rfl (Zmp (a:=Z5 a) (b:=Z5 b) (fun h=> ?_)).symm
  have h5:=Ze6 (d:=Tree.nil) h i.toNat
  rw [YV] at hq
  exact hq h5
 ·intro j hj
  by_cases hj2:(j:Int) < i
  ·exact h3 j hj2
  ·rw [Jt,show i.toNat=j by omega] at hq
   exact hq
 ·exact Z0 rfl (Z6G (a:=Z5 a) (b:=Z5 b).2 (ZdN Tree.nil hl (fun j hj=> h3 j (by omega)))).symm
noncomputable section
def Z5J(a:List Int × Unit):List Int:=a.1
def Z1S:Fs U:=fsL ZmG (fun a=> [Zdp a]) .u64 Z5J
def ZhM:ArgL (List Tree × Unit):=(.cons (aSl .tree) .nil)
def Z9B(a:List Tree × Unit):Prop:=a.1.length<=1000000000000
def Z8u(a:List Tree × Unit):List Tree:=a.1
def Z3S:Fs U:=fsL ZhM (fun a=> [Z9B a]) .tree Z8u
def Z7t:ArgL (Edit × Tree × Unit):=(.cons (aEl .edit) (.cons (aEl .tree) .nil))
def Z1Y(a:Edit × Tree × Unit):Prop:=(ZD a.1<=20000000000/\Yk a.1/\∃ d,Z4 a.1 d=true)/\Zm a.2.1+ctE a.1<=200000000000/\rng a.2.1
def Zav(a:Edit × Tree × Unit):Nat:=2*ZD a.1+1
def Z3i(a:Edit × Tree × Unit):V U:= .tup [(true,(enc .tree (Z8m a.1 a.2.1))),(false,[.bool ((doE false a.1 a.2.1).isSome)])]
def Z6S:Fs U:=fs Z7t (fun a=> [Z1Y a]) Z3i
def Z2H(a:Edit × Tree × Unit):Prop:=Edit.kind a.1=2/\(ZD a.1<=20000000000/\Yk a.1/\∃ d,Z4 a.1 d=true)/\Zm a.2.1+ctE a.1<=200000000000/\rng a.2.1
def Z7W(a:Edit × Tree × Unit):Nat:=2*ZD a.1
def Z2B(a:Edit × Tree × Unit):V U:= .tup [(true,(enc .tree (Z9H (Z8l false a.1 a.2.1)))),(false,[.bool ((Z8l false a.1 a.2.1).isSome)])]
def Zgt:Fs U:=fs Z7t (fun a=> [Z2H a]) Z2B
def Z2G(a:Edit × Tree × Unit):Prop:=Edit.kind a.1=3/\(ZD a.1<=20000000000/\Yk a.1/\∃ d,Z4 a.1 d=true)/\Zm a.2.1+ctE a.1<=200000000000/\rng a.2.1
def Z2A(a:Edit × Tree × Unit):V U:= .tup [(true,(enc .tree (ZlP a.1 (Z4u false a.1 a.2.1)))),(false,[.bool ((Z2Y (Z4u false a.1 a.2.1)).isSome)])]
def Zgs:Fs U:=fs Z7t (fun a=> [Z2G a]) Z2A
def Zfk:Zc U:=fun i=> match i with
 | 0=> ([(0,[])],[])
 | 1=> ([(0,[]),(4,[])],[])
 | 2=> ([(2,[.wr .u64])],[])
 | 3=> ([(2,[.wr .u64])],[])
 | _=> ([],[])
abbrev ZuF(p:List Nat):=AW (Za2 Zfw) Try.f109 Zfk p
theorem Zqn(l:List Int)(Q:QT)(h:(((l=[])->(Q .ret (⟨[(2,.c (.mref (.e 2 0)))],[],[(.e 2 0,LC.mk (U:=U) .u64 [] 0)]⟩:LSt U)))/\(True->((([]:List Int).length+l.length)*8<=140737488355328)/\(Q .ret (⟨[(2,.c (.mref (.e 2 0)))],[],[(.e 2 0,LC.mk (U:=U) .u64 (([]:List Int)++l) (([]:List Int).length))]⟩:LSt U))))):
  ZuF [] (L2 [(0,.c (sU .u64 l .unk))] []) Q:=
 Eq.mpr (by kernel_rfl) h
def Zn9(l:List Int):Prop:=AW (Za2 Zfw) Try.f109 Zfk [] (Zg (ZmG.can (l,())) []) (Z1O cfg Try.f109.ntmps Try.f109.results.toList (.c (.mref (.r 0 0))) [] [(.r 0 0,LC.mk (U:=U) .u64 (Z5J (l,())) 0)])
theorem Zlu(hb:∀ (l:List Int) (_:Unit),Zdp (l,())->Zn9 l):CT 109 Z1S:=
 Z3P (l:=[]) Zj rfl trivial Zfk Try.func109 rfl rfl 1 (fun _=> rfl) (by decide) (fun ⟨l,_⟩=> hb l ())
def ZlF:Zc U:=fun i=> match i with
 | 0=> ([(0,[])],[])
 | 1=> ([(0,[]),(4,[])],[])
 | 2=> ([(2,[.wr .tree])],[])
 | 3=> ([(2,[.wr .tree])],[])
 | _=> ([],[])
abbrev Zvy(p:List Nat):=AW (Za2 Zfw) Try.f150 ZlF p
theorem Ztp(l:List Tree)(Q:QT)(h:(((l=[])->(Q .ret (⟨[(2,.c (.mref (.e 2 0)))],[],[(.e 2 0,LC.mk (U:=U) .tree [] 0)]⟩:LSt U)))/\(True->((([]:List Tree).length+l.length)*56<=140737488355328)/\(Q .ret (⟨[(2,.c (.mref (.e 2 0)))],[],[(.e 2 0,LC.mk (U:=U) .tree (([]:List Tree)++l) (([]:List Tree).length))]⟩:LSt U))))):
  Zvy [] (L2 [(0,.c (sU .tree l .unk))] []) Q:=
 Eq.mpr (by kernel_rfl) h
def Zpf(l:List Tree):Prop:=AW (Za2 Zfw) Try.f150 ZlF [] (Zg (ZhM.can (l,())) []) (Z1O cfg Try.f150.ntmps Try.f150.results.toList (.c (.mref (.r 0 0))) [] [(.r 0 0,LC.mk (U:=U) .tree (Z8u (l,())) 0)])
theorem Zob(hb:∀ (l:List Tree) (_:Unit),Z9B (l,())->Zpf l):CT 150 Z3S:=
 Z3P (l:=[]) Zj rfl trivial ZlF Try.func150 rfl rfl 1 (fun _=> rfl) (by decide) (fun ⟨l,_⟩=> hb l ())
def Z7h(N:Nat):List (FuncId × Fs U):=(70,fs Z7t (fun a=> [Z1Y a,Zav a < N]) Z3i) ::(107,fs Z7t (fun a=> [Z2H a,Z7W a < N]) Z2B) ::(108,fs Z7t (fun a=> [Z2G a,Z7W a < N]) Z2A) ::[(106,Z0C),(149,Z0A),(91,Z2n),(151,Z3R),(150,Z3S),(66,Z5D),(109,Z1S)]
def Zrn:Zc U:=lvl [([2,3,4],[2,3,4]),([2,3,4,7],[2,3,4]),([2,3,4,7,8],[2,3,4]),([4,5],[4]),([2,3,4,7,11],[2,3,4]),([4,5],[4]),([2,3,4,7,19],[2,3,4]),([4,5],[4]),([2,3,4,26],[2,3,4]),([4,5],[4]),([4,5],[4])]
abbrev A70(N:Nat)(p:List Nat):=AW (Z1 (Z7h N)) Try.f70 Zrn p
theorem ZuU(N:Nat)(e:Edit)(t:Tree)(Q:QT)(h:∀ y_1,y_1=e->∀ y_2,y_2=t->∀ y_3,y_3=(e.old)->(((e.kind==0)=true->(Q .ret (L2 [pL 4,pB 5 true] [(.loc 4,(enc .tree t))])))/\((e.kind==0)=false->(((e.kind==1)=true->(Z1e (y_3,y_2,()))/\(Q .ret (L2 [pL 4,pB 5 (Yf (Z3 y_3) (Z3 y_2))] [(.loc 4,(enc .tree e.new))])))/\((e.kind==1)=false->(((e.kind==2)=true->(Z2H (y_1,y_2,()))/\(Z7W (y_1,y_2,()) < N)/\(Q .ret (L2 [pL 4,pB 5 ((Z8l false y_1 y_2).isSome)] [(.loc 4,(enc .tree (Z9H (Z8l false y_1 y_2))))])))/\((e.kind==2)=false->(((e.kind==3)=true->(Z2G (y_1,y_2,()))/\(Z7W (y_1,y_2,()) < N)/\(Q .ret (L2 [pL 4,pB 5 ((Z2Y (Z4u false y_1 y_2)).isSome)] [(.loc 4,(enc .tree (ZlP y_1 (Z4u false y_1 y_2))))])))/\((e.kind==3)=false->(Q .ret (L2 [pL 4,pB 5 false] [(.loc 4,[ci 0,.nils,.nils])]))))))))))):
  A70 N [] (L2 [(0,.agg (enc .edit e)),(1,.agg (enc .tree t))] []) Q:=
 Eq.mpr (by kernel_rfl) (h _ (Zf _) _ (Z8 _) _ (Z8 _))
def ZsE(N:Nat)(e:Edit)(t:Tree):Prop:=AW (Z1 (Z7h N)) Try.f70 Zrn [] (Zg (Z7t.can (e,t,())) []) (EQ Try.f70 (Z3i (e,t,())) [])
abbrev ZuB:Prop:=∀ (N:Nat) (e:Edit) (t:Tree) (_:Unit),Z1Y (e,t,())->Zav (e,t,()) < N+1->ZsE N e t
def Zh3:Zc U:=fun i=> match i with
 | 0=> ([(2,[]),(3,[]),(4,[])],[(.loc 2,[]),(.loc 3,[]),(.loc 4,[])])
 | 1=> ([(2,[]),(3,[]),(4,[]),(16,[])],[(.loc 2,[]),(.loc 3,[]),(.loc 4,[])])
 | 2=> ([(4,[]),(5,[])],[(.loc 4,[])])
 | 3=> ([(2,[]),(3,[]),(4,[]),(6,[])],[(.loc 2,[]),(.loc 3,[]),(.loc 4,[]),(.loc 6,[.any,.wr .u64,.wr .tree])])
 | 4=> ([(2,[]),(3,[]),(4,[]),(6,[]),(26,[]),(27,[]),(28,[])],[(.loc 2,[]),(.loc 3,[]),(.loc 4,[]),(.loc 6,[.any,.wr .u64,.wr .tree])])
 | 5=> ([(2,[]),(3,[]),(4,[]),(6,[]),(26,[]),(27,[]),(28,[]),(29,[])],[(.loc 2,[]),(.loc 3,[]),(.loc 4,[]),(.loc 6,[.any,.wr .u64,.wr .tree])])
 | 6=> ([(2,[]),(3,[]),(4,[]),(6,[]),(8,[]),(26,[]),(27,[]),(28,[])],[(.loc 2,[]),(.loc 3,[]),(.loc 4,[]),(.loc 6,[.any,.wr .u64,.wr .tree]),(.loc 8,[])])
 | 7=> ([(2,[]),(3,[]),(4,[]),(6,[]),(8,[]),(9,[]),(26,[]),(27,[]),(28,[])],[(.loc 2,[]),(.loc 3,[]),(.loc 4,[]),(.loc 6,[.any,.wr .u64,.wr .tree]),(.loc 8,[])])
 | 8=> ([(2,[]),(3,[]),(4,[]),(6,[]),(8,[]),(9,[]),(26,[]),(27,[]),(28,[]),(42,[])],[(.loc 2,[]),(.loc 3,[]),(.loc 4,[]),(.loc 6,[.any,.wr .u64,.wr .tree]),(.loc 8,[])])
 | 9=> ([(4,[]),(5,[])],[(.loc 4,[])])
 | 10=> ([(2,[]),(3,[]),(4,[]),(6,[]),(8,[]),(9,[]),(26,[]),(27,[]),(28,[]),(42,[]),(49,[])],[(.loc 2,[]),(.loc 3,[]),(.loc 4,[]),(.loc 6,[.any,.wr .u64,.wr .tree]),(.loc 8,[])])
 | 11=> ([(2,[]),(3,[]),(4,[]),(6,[]),(8,[]),(9,[]),(26,[]),(27,[]),(28,[]),(42,[])],[(.loc 2,[]),(.loc 3,[]),(.loc 4,[]),(.loc 6,[.any,.wr .u64,.wr .tree]),(.loc 8,[])])
 | 12=> ([(2,[]),(3,[]),(4,[]),(6,[]),(26,[]),(27,[]),(28,[])],[(.loc 2,[]),(.loc 3,[]),(.loc 4,[]),(.loc 6,[.any,.wr .u64,.wr .tree])])
 | 13=> ([(2,[]),(3,[]),(4,[]),(6,[]),(26,[]),(27,[]),(28,[])],[(.loc 2,[]),(.loc 3,[]),(.loc 4,[]),(.loc 6,[.any,.wr .u64,.wr .tree])])
 | 14=> ([(3,[]),(4,[]),(6,[]),(68,[]),(69,[]),(70,[])],[(.loc 3,[]),(.loc 4,[]),(.loc 6,[.any,.wr .u64,.wr .tree])])
 | 15=> ([(3,[]),(4,[]),(6,[]),(68,[]),(69,[]),(70,[]),(71,[])],[(.loc 3,[]),(.loc 4,[]),(.loc 6,[.any,.wr .u64,.wr .tree])])
 | 16=> ([(3,[]),(4,[]),(6,[]),(11,[]),(68,[]),(69,[]),(70,[])],[(.loc 3,[]),(.loc 4,[]),(.loc 6,[.any,.wr .u64,.wr .tree]),(.loc 11,[])])
 | 17=> ([(3,[]),(4,[]),(6,[]),(11,[]),(12,[]),(13,[]),(68,[]),(69,[]),(70,[])],[(.loc 3,[]),(.loc 4,[]),(.loc 6,[.any,.wr .u64,.wr .tree]),(.loc 11,[]),(.loc 12,[])])
 | 18=> ([(3,[]),(4,[]),(6,[]),(11,[]),(12,[]),(68,[]),(69,[]),(70,[]),(85,[])],[(.loc 3,[]),(.loc 4,[]),(.loc 6,[.any,.wr .u64,.wr .tree]),(.loc 11,[]),(.loc 12,[])])
 | 19=> ([(4,[]),(5,[])],[(.loc 4,[])])
 | 20=> ([(3,[]),(4,[]),(6,[]),(11,[]),(12,[]),(68,[]),(69,[]),(70,[]),(85,[]),(92,[])],[(.loc 3,[]),(.loc 4,[]),(.loc 6,[.any,.wr .u64,.wr .tree]),(.loc 11,[]),(.loc 12,[])])
 | 21=> ([(3,[]),(4,[]),(6,[]),(11,[]),(12,[]),(68,[]),(69,[]),(70,[]),(85,[])],[(.loc 3,[]),(.loc 4,[]),(.loc 6,[.any,.wr .u64,.wr .tree]),(.loc 11,[]),(.loc 12,[])])
 | 22=> ([(3,[]),(4,[]),(6,[]),(68,[]),(69,[]),(70,[])],[(.loc 3,[]),(.loc 4,[]),(.loc 6,[.any,.wr .u64,.wr .tree])])
 | 23=> ([(3,[]),(4,[]),(6,[]),(68,[]),(69,[]),(70,[])],[(.loc 3,[]),(.loc 4,[]),(.loc 6,[.any,.wr .u64,.wr .tree])])
 | 24=> ([(4,[]),(5,[])],[(.loc 4,[])])
 | _=> ([],[])
def Z4j(e:Edit)(t:Tree)(x28:Int)(rl_6_1:List Int):LSt U:=(⟨[pL 2,pL 3,pL 4,pL 6,(26,.c (sU .wedit e.words .unk)),pI 27 (e.words.length:Int),pI 28 x28],[(.loc 2,(enc .edit e)),(.loc 3,(enc .tree t)),(.loc 4,[ci 0,.nils,.nils]),(.loc 6,[ci 1,.mref (.l 6 1),.mref (.l 6 2)])],[(.l 6 1,LC.mk (U:=U) .u64 rl_6_1 0),(.l 6 2,LC.mk (U:=U) .tree t.kids 0)]⟩:LSt U)
def Z4i(e:Edit)(t:Tree)(x28:Int)(rl_6_1_a:List Int):LSt U:=(⟨[pL 2,pL 3,pL 4,pL 6,pL 8,(9,.c (.int .u64 (YS (Tree.mk t.kind t.words t.kids) (WEdit.at_ (e.words.getD x28.toNat (WEdit.mk 0 0 0 0)))))),(26,.c (sU .wedit e.words .unk)),pI 27 (e.words.length:Int),pI 28 x28,(42,.c (.bool (((mix 0 (YS (Tree.mk t.kind t.words t.kids) (WEdit.at_ (e.words.getD x28.toNat (WEdit.mk 0 0 0 0)))) (WEdit.mask (e.words.getD x28.toNat (WEdit.mk 0 0 0 0)))):Int) !=(WEdit.old (e.words.getD x28.toNat (WEdit.mk 0 0 0 0))))))],[(.loc 2,(enc .edit e)),(.loc 3,(enc .tree t)),(.loc 4,[ci 0,.nils,.nils]),(.loc 6,[ci 1,.mref (.l 6 1),.mref (.l 6 2)]),(.loc 8,(enc .wedit (e.words.getD x28.toNat (WEdit.mk 0 0 0 0))))],[(.l 6 1,LC.mk (U:=U) .u64 rl_6_1_a 0),(.l 6 2,LC.mk (U:=U) .tree t.kids 0)]⟩:LSt U)
def Z4h(e:Edit)(t:Tree)(rl_6_1:List Int)(x70_b:Int)(rl_6_2_b:List Tree):LSt U:=(⟨[pL 3,pL 4,pL 6,(68,.c (sU .kid e.kids .unk)),pI 69 (e.kids.length:Int),pI 70 x70_b],[(.loc 3,(enc .tree t)),(.loc 4,[ci 0,.nils,.nils]),(.loc 6,[ci 1,.mref (.l 6 1),.mref (.l 6 2)])],[(.l 6 1,LC.mk (U:=U) .u64 rl_6_1 0),(.l 6 2,LC.mk (U:=U) .tree rl_6_2_b 0)]⟩:LSt U)
def Z4g(e:Edit)(t:Tree)(rl_6_1:List Int)(x70_b:Int)(rl_6_2_c:List Tree):LSt U:=(⟨[pL 3,pL 4,pL 6,pL 11,pL 12,(68,.c (sU .kid e.kids .unk)),pI 69 (e.kids.length:Int),pI 70 x70_b,(85,.c (.bool (!((doE false (Edit.mk (Edit.kind (KidOf.e (e.kids.getD x70_b.toNat (KidOf.mk 0 Edit.nil)))) (Tree.mk (Tree.kind (Edit.old (KidOf.e (e.kids.getD x70_b.toNat (KidOf.mk 0 Edit.nil))))) (Tree.words (Edit.old (KidOf.e (e.kids.getD x70_b.toNat (KidOf.mk 0 Edit.nil))))) (Tree.kids (Edit.old (KidOf.e (e.kids.getD x70_b.toNat (KidOf.mk 0 Edit.nil)))))) (Tree.mk (Tree.kind (Edit.new (KidOf.e (e.kids.getD x70_b.toNat (KidOf.mk 0 Edit.nil))))) (Tree.words (Edit.new (KidOf.e (e.kids.getD x70_b.toNat (KidOf.mk 0 Edit.nil))))) (Tree.kids (Edit.new (KidOf.e (e.kids.getD x70_b.toNat (KidOf.mk 0 Edit.nil)))))) (Edit.words (KidOf.e (e.kids.getD x70_b.toNat (KidOf.mk 0 Edit.nil)))) (Edit.kids (KidOf.e (e.kids.getD x70_b.toNat (KidOf.mk 0 Edit.nil)))) (Edit.list (KidOf.e (e.kids.getD x70_b.toNat (KidOf.mk 0 Edit.nil)))) (Edit.ops (KidOf.e (e.kids.getD x70_b.toNat (KidOf.mk 0 Edit.nil))))) (Tree.mk (Tree.kind (J5 (Tree.mk t.kind t.words t.kids) (KidOf.at_ (e.kids.getD x70_b.toNat (KidOf.mk 0 Edit.nil))))) (Tree.words (J5 (Tree.mk t.kind t.words t.kids) (KidOf.at_ (e.kids.getD x70_b.toNat (KidOf.mk 0 Edit.nil))))) (Tree.kids (J5 (Tree.mk t.kind t.words t.kids) (KidOf.at_ (e.kids.getD x70_b.toNat (KidOf.mk 0 Edit.nil))))))).isSome))))],[(.loc 3,(enc .tree t)),(.loc 4,[ci 0,.nils,.nils]),(.loc 6,[ci 1,.mref (.l 6 1),.mref (.l 6 2)]),(.loc 11,(enc .kid (e.kids.getD x70_b.toNat (KidOf.mk 0 Edit.nil)))),(.loc 12,(enc .tree (Z8m (Edit.mk (Edit.kind (KidOf.e (e.kids.getD x70_b.toNat (KidOf.mk 0 Edit.nil)))) (Tree.mk (Tree.kind (Edit.old (KidOf.e (e.kids.getD x70_b.toNat (KidOf.mk 0 Edit.nil))))) (Tree.words (Edit.old (KidOf.e (e.kids.getD x70_b.toNat (KidOf.mk 0 Edit.nil))))) (Tree.kids (Edit.old (KidOf.e (e.kids.getD x70_b.toNat (KidOf.mk 0 Edit.nil)))))) (Tree.mk (Tree.kind (Edit.new (KidOf.e (e.kids.getD x70_b.toNat (KidOf.mk 0 Edit.nil))))) (Tree.words (Edit.new (KidOf.e (e.kids.getD x70_b.toNat (KidOf.mk 0 Edit.nil))))) (Tree.kids (Edit.new (KidOf.e (e.kids.getD x70_b.toNat (KidOf.mk 0 Edit.nil)))))) (Edit.words (KidOf.e (e.kids.getD x70_b.toNat (KidOf.mk 0 Edit.nil)))) (Edit.kids (KidOf.e (e.kids.getD x70_b.toNat (KidOf.mk 0 Edit.nil)))) (Edit.list (KidOf.e (e.kids.getD x70_b.toNat (KidOf.mk 0 Edit.nil)))) (Edit.ops (KidOf.e (e.kids.getD x70_b.toNat (KidOf.mk 0 Edit.nil))))) (Tree.mk (Tree.kind (J5 (Tree.mk t.kind t.words t.kids) (KidOf.at_ (e.kids.getD x70_b.toNat (KidOf.mk 0 Edit.nil))))) (Tree.words (J5 (Tree.mk t.kind t.words t.kids) (KidOf.at_ (e.kids.getD x70_b.toNat (KidOf.mk 0 Edit.nil))))) (Tree.kids (J5 (Tree.mk t.kind t.words t.kids) (KidOf.at_ (e.kids.getD x70_b.toNat (KidOf.mk 0 Edit.nil)))))))))],[(.l 6 1,LC.mk (U:=U) .u64 rl_6_1 0),(.l 6 2,LC.mk (U:=U) .tree rl_6_2_c 0)]⟩:LSt U)
abbrev ZcZ(N:Nat)(p:List Nat):=AW (Z1 (Z7h N)) Try.f107 Zh3 p
abbrev Z4v(N:Nat)(p:List Nat):=SW (Z1 (Z7h N)) Try.f107 Zh3 p
theorem ZtG(N:Nat)(e:Edit)(t:Tree)(Q:QT)(h:(((t.kind !=1)=true->(Q .ret (L2 [pL 4,pB 5 false] [(.loc 4,[ci 0,.nils,.nils])])))/\((t.kind !=1)=false->(Zdp (t.words,()))/\(Z9B (t.kids,()))/\(Zh (ZcZ N [1,1,1,0,1,0,0]) (Z4j e t 0 t.words) (xB 0 (Z4v N [1,1,1,1] Q)))))):
  ZcZ N [] (L2 [(0,.agg (enc .edit e)),(1,.agg (enc .tree t))] []) Q:=
 Eq.mpr (by kernel_rfl) h
theorem ZjZ(N:Nat)(e:Edit)(t:Tree)(x28:Int)(rl_6_1:List Int)(N0:NT)(Q:QT)(h:∀ y_1,y_1=t->∀ y_2,y_2=(e.words.getD x28.toNat (WEdit.mk 0 0 0 0))->let z1:=decide (x28 < (e.words.length:Int));let z0:=((mix 0 (YS y_1 y_2.at_) y_2.mask):Int) !=y_2.old;((z1=true->((0:Int)<=x28/\x28 < (e.words.length:Int))/\((Z72 (y_1,y_2.at_,()))/\((Zc7 (0,(YS y_1 y_2.at_),y_2.mask,()))/\((z0=true->(Q .ret (L2 [pL 4,pB 5 false] [(.loc 4,[ci 0,.nils,.nils])])))/\(z0=false->Zh (ZcZ N [1,1,1,0,1,0,0,1,1,0,0,1,1,1,0,0,0]) (Z4i e t x28 rl_6_1) (xB 2 (Z4v N [1,1,1,0,1,0,0,1,1,0,0,1,1,1,1] (xB 1 (Z4v N [1,1,1,0,1,0,0,1,1,1] (xT N0 (xB 0 (Z4v N [1,1,1,1] Q))))))))))))/\(z1=false->(Zh (ZcZ N [1,1,1,1,0,1,0,0]) (Z4h e t rl_6_1 0 t.kids) (xB 4 (Z4v N [1,1,1,1,1] Q)))))):
  ZcZ N [1,1,1,0,1,0,0] (Z4j e t x28 rl_6_1) (xT N0 (xB 0 (Z4v N [1,1,1,1] Q))):=
 Eq.mpr (by kernel_rfl) (h _ (Z8 _) _ rfl)
theorem ZjY(N:Nat)(e:Edit)(t:Tree)(x28:Int)(rl_6_1_a:List Int)(N1 N0:NT)(Q:QT)(h:let z0:=e.words.getD x28.toNat (WEdit.mk 0 0 0 0);let z2:=YS (Tree.mk t.kind t.words t.kids) (WEdit.at_ z0);let z1:=decide (((rl_6_1_a.length:Int):Int)<=(WEdit.at_ z0));((z1=true->((rl_6_1_a.length+([0]).length)*8<=140737488355328)/\(N1 (Z4i e t x28 (rl_6_1_a++([0])))))/\(z1=false->(Zc7 (z2,(WEdit.new z0),(WEdit.mask z0),()))/\((0:Int)<=(WEdit.at_ z0)/\(WEdit.at_ z0) < (rl_6_1_a.length:Int))/\((0:Nat)<=(Int.toNat (WEdit.at_ z0)))/\((InR (x28+1))/\(N0 (Z4j e t (x28+1) (List.set rl_6_1_a (Int.toNat (WEdit.at_ z0)) (mix z2 (WEdit.new z0) (WEdit.mask z0))))))))):
  ZcZ N [1,1,1,0,1,0,0,1,1,0,0,1,1,1,0,0,0] (Z4i e t x28 rl_6_1_a) (xT N1 (xB 2 (Z4v N [1,1,1,0,1,0,0,1,1,0,0,1,1,1,1] (xB 1 (Z4v N [1,1,1,0,1,0,0,1,1,1] (xT N0 (xB 0 (Z4v N [1,1,1,1] Q)))))))):=
 Eq.mpr (by kernel_rfl) h
theorem ZjX(N:Nat)(e:Edit)(t:Tree)(rl_6_1:List Int)(x70_b:Int)(rl_6_2_b:List Tree)(N2:NT)(Q:QT)(h:∀ y_1,y_1=t->∀ y_2,y_2=(e.kids.getD x70_b.toNat (KidOf.mk 0 Edit.nil))->∀ y_3,y_3=(y_2.e)->∀ y_4,y_4=(J5 y_1 y_2.at_)->let z1:= !((doE false y_3 y_4).isSome);let z0:=decide (x70_b < (e.kids.length:Int));((z0=true->((0:Int)<=x70_b/\x70_b < (e.kids.length:Int))/\((Z72 (y_1,y_2.at_,()))/\(Z1Y (y_3,y_4,()))/\(Zav (y_3,y_4,()) < N)/\((z1=true->(Q .ret (L2 [pL 4,pB 5 false] [(.loc 4,[ci 0,.nils,.nils])])))/\(z1=false->Zh (ZcZ N [1,1,1,1,0,1,0,0,1,1,0,0,1,1,1,0,0,0]) (Z4g e t rl_6_1 x70_b rl_6_2_b) (xB 6 (Z4v N [1,1,1,1,0,1,0,0,1,1,0,0,1,1,1,1] (xB 5 (Z4v N [1,1,1,1,0,1,0,0,1,1,1] (xT N2 (xB 4 (Z4v N [1,1,1,1,1] Q)))))))))))/\(z0=false->(Q .ret (L2 [pL 4,pB 5 true] [(.loc 4,[ci 1,sU .u64 rl_6_1 (.own (.l 4 1)),sU .tree rl_6_2_b (.own (.l 4 2))])]))))):
  ZcZ N [1,1,1,1,0,1,0,0] (Z4h e t rl_6_1 x70_b rl_6_2_b) (xT N2 (xB 4 (Z4v N [1,1,1,1,1] Q))):=
 Eq.mpr (by kernel_rfl) (h _ (Z8 _) _ rfl _ (Zf _) _ (Z8 _))
theorem ZjW(N:Nat)(e:Edit)(t:Tree)(rl_6_1:List Int)(x70_b:Int)(rl_6_2_c:List Tree)(N3 N2:NT)(Q:QT)(h:∀ y_1,y_1=t->∀ y_2,y_2=(e.kids.getD x70_b.toNat (KidOf.mk 0 Edit.nil))->∀ y_3,y_3=(y_2.e)->∀ y_4,y_4=(J5 y_1 y_2.at_)->∀ y_5,y_5=(Z8m y_3 y_4)->let z0:=decide (((rl_6_2_c.length:Int):Int)<=y_2.at_);((z0=true->((rl_6_2_c.length+([(Tree.mk 0 [] [])]).length)*56<=140737488355328)/\(N3 (Z4g e t rl_6_1 x70_b (rl_6_2_c++([(Tree.mk 0 [] [])])))))/\(z0=false->((0:Int)<=y_2.at_/\y_2.at_ < (rl_6_2_c.length:Int))/\((0:Nat)<=(Int.toNat y_2.at_))/\((InR (x70_b+1))/\(N2 (Z4h e t rl_6_1 (x70_b+1) (List.set rl_6_2_c (Int.toNat y_2.at_) y_5))))))):
  ZcZ N [1,1,1,1,0,1,0,0,1,1,0,0,1,1,1,0,0,0] (Z4g e t rl_6_1 x70_b rl_6_2_c) (xT N3 (xB 6 (Z4v N [1,1,1,1,0,1,0,0,1,1,0,0,1,1,1,1] (xB 5 (Z4v N [1,1,1,1,0,1,0,0,1,1,1] (xT N2 (xB 4 (Z4v N [1,1,1,1,1] Q)))))))):=
 Eq.mpr (by kernel_rfl) (h _ (Z8 _) _ rfl _ (Zf _) _ (Z8 _) _ (Z8 _))
def Zpw(N:Nat)(e:Edit)(t:Tree):Prop:=AW (Z1 (Z7h N)) Try.f107 Zh3 [] (Zg (Z7t.can (e,t,())) []) (EQ Try.f107 (Z2B (e,t,())) [])
abbrev Zqj:Prop:=∀ (N:Nat) (e:Edit) (t:Tree) (_:Unit),Z2H (e,t,())->Z7W (e,t,()) < N+1->Zpw N e t
def Zh2:Zc U:=fun i=> match i with
 | 0=> ([(2,[]),(3,[]),(4,[])],[(.loc 2,[]),(.loc 3,[]),(.loc 4,[])])
 | 1=> ([(2,[]),(3,[]),(4,[]),(18,[])],[(.loc 2,[]),(.loc 3,[]),(.loc 4,[])])
 | 2=> ([(4,[]),(5,[])],[(.loc 4,[])])
 | 3=> ([(2,[]),(3,[]),(4,[]),(6,[])],[(.loc 2,[]),(.loc 3,[]),(.loc 4,[]),(.loc 6,[])])
 | 4=> ([(2,[]),(4,[]),(6,[]),(7,[])],[(.loc 2,[]),(.loc 4,[]),(.loc 6,[])])
 | 5=> ([(4,[]),(6,[]),(7,[]),(26,[]),(27,[]),(28,[])],[(.loc 4,[]),(.loc 6,[.any,.any,.own .tree])])
 | 6=> ([(4,[]),(6,[]),(7,[]),(26,[]),(27,[]),(28,[]),(29,[])],[(.loc 4,[]),(.loc 6,[])])
 | 7=> ([(4,[]),(6,[]),(7,[]),(9,[]),(26,[]),(27,[]),(28,[])],[(.loc 4,[]),(.loc 6,[]),(.loc 9,[])])
 | 8=> ([(4,[]),(6,[]),(7,[]),(9,[]),(10,[]),(26,[]),(27,[]),(28,[])],[(.loc 4,[]),(.loc 6,[]),(.loc 9,[])])
 | 9=> ([(4,[]),(6,[]),(7,[]),(9,[]),(10,[]),(26,[]),(27,[]),(28,[]),(35,[])],[(.loc 4,[]),(.loc 6,[]),(.loc 9,[])])
 | 10=> ([(4,[]),(6,[]),(7,[]),(9,[]),(10,[]),(26,[]),(27,[]),(28,[]),(35,[]),(36,[])],[(.loc 4,[]),(.loc 6,[]),(.loc 9,[])])
 | 11=> ([(4,[]),(6,[]),(7,[]),(26,[]),(27,[]),(28,[]),(97,[])],[(.loc 4,[]),(.loc 6,[])])
 | 12=> ([(4,[]),(6,[]),(7,[]),(9,[]),(10,[]),(26,[]),(27,[]),(28,[]),(35,[]),(44,[])],[(.loc 4,[]),(.loc 6,[]),(.loc 9,[])])
 | 13=> ([(4,[]),(6,[]),(7,[]),(9,[]),(10,[]),(26,[]),(27,[]),(28,[]),(49,[])],[(.loc 4,[]),(.loc 6,[]),(.loc 9,[])])
 | 14=> ([(4,[]),(6,[]),(7,[]),(9,[]),(10,[]),(26,[]),(27,[]),(28,[]),(49,[])],[(.loc 4,[]),(.loc 6,[]),(.loc 9,[])])
 | 15=> ([(4,[]),(6,[]),(7,[]),(9,[]),(10,[]),(26,[]),(27,[]),(28,[]),(49,[])],[(.loc 4,[]),(.loc 6,[]),(.loc 9,[])])
 | 16=> ([(4,[]),(6,[]),(7,[]),(9,[]),(10,[]),(26,[]),(27,[]),(28,[]),(54,[])],[(.loc 4,[]),(.loc 6,[]),(.loc 9,[])])
 | 17=> ([(4,[]),(5,[])],[(.loc 4,[])])
 | 18=> ([(4,[]),(6,[]),(7,[]),(9,[]),(10,[]),(26,[]),(27,[]),(28,[])],[(.loc 4,[]),(.loc 6,[]),(.loc 9,[])])
 | 19=> ([(4,[]),(6,[]),(7,[]),(9,[]),(11,[]),(26,[]),(27,[]),(28,[])],[(.loc 4,[]),(.loc 6,[]),(.loc 9,[])])
 | 20=> ([(4,[]),(6,[]),(7,[]),(12,[]),(13,[]),(26,[]),(27,[]),(28,[])],[(.loc 4,[]),(.loc 6,[]),(.loc 12,[])])
 | 21=> ([(4,[]),(6,[]),(7,[]),(12,[]),(26,[]),(27,[]),(28,[]),(72,[])],[(.loc 4,[]),(.loc 6,[]),(.loc 12,[])])
 | 22=> ([(4,[]),(5,[])],[(.loc 4,[])])
 | 23=> ([(4,[]),(6,[]),(7,[]),(26,[]),(27,[]),(28,[]),(97,[])],[(.loc 4,[]),(.loc 6,[])])
 | 24=> ([(4,[]),(6,[]),(7,[]),(9,[]),(11,[]),(26,[]),(27,[]),(28,[]),(80,[])],[(.loc 4,[]),(.loc 6,[]),(.loc 9,[])])
 | 25=> ([(4,[]),(6,[]),(7,[]),(26,[]),(27,[]),(28,[]),(97,[])],[(.loc 4,[]),(.loc 6,[])])
 | 26=> ([(4,[]),(6,[]),(7,[]),(9,[]),(11,[]),(26,[]),(27,[]),(28,[]),(89,[])],[(.loc 4,[]),(.loc 6,[]),(.loc 9,[])])
 | 27=> ([(4,[]),(6,[]),(7,[]),(26,[]),(27,[]),(28,[]),(97,[])],[(.loc 4,[]),(.loc 6,[])])
 | 28=> ([(4,[]),(5,[])],[(.loc 4,[])])
 | 29=> ([(4,[]),(6,[]),(7,[]),(26,[]),(27,[]),(28,[])],[(.loc 4,[]),(.loc 6,[.any,.any,.own .tree])])
 | 30=> ([(4,[]),(5,[])],[(.loc 4,[])])
 | _=> ([],[])
def Z04(e:Edit)(t:Tree)(x28:Int)(x7 ml6_2:List Tree):LSt U:=(L2 [pL 4,pL 6,(7,.c (sU .tree x7 .unk)),(26,.c (sU .op e.ops .unk)),pI 27 (e.ops.length:Int),pI 28 x28] [(.loc 4,[ci 0,.nils,.nils]),(.loc 6,[ci t.kind,.nils,sU .tree ml6_2 (.own (.l 6 2))])])
def Z0W(e:Edit)(t:Tree)(x28:Int)(x7_a ml6_2_a:List Tree)(v97_a:V U):LSt U:=(L2 [pL 4,pL 6,(7,.c (sU .tree x7_a .unk)),(26,.c (sU .op e.ops .unk)),pI 27 (e.ops.length:Int),pI 28 x28,(97,v97_a)] [(.loc 4,[ci 0,.nils,.nils]),(.loc 6,[ci t.kind,.nils,sU .tree ml6_2_a (.own (.l 6 2))])])
def Z4f(e:Edit)(t:Tree)(x28:Int)(x7 ml6_2:List Tree)(x10_b:Int)(v49_b:V U):LSt U:=(L2 [pL 4,pL 6,(7,.c (sU .tree x7 .unk)),pL 9,pI 10 x10_b,(26,.c (sU .op e.ops .unk)),pI 27 (e.ops.length:Int),pI 28 x28,(49,v49_b)] [(.loc 4,[ci 0,.nils,.nils]),(.loc 6,[ci t.kind,.nils,sU .tree ml6_2 (.own (.l 6 2))]),(.loc 9,(enc .op (e.ops.getD x28.toNat Op.nil)))])
abbrev Z7v(N:Nat)(p:List Nat):=AW (Z1 (Z7h N)) Try.f108 Zh2 p
abbrev ZcW(N:Nat)(p:List Nat):=SW (Z1 (Z7h N)) Try.f108 Zh2 p
theorem ZtF(N:Nat)(e:Edit)(t:Tree)(Q:QT)(h:(((t.kind !=e.list)=true->(Q .ret (L2 [pL 4,pB 5 false] [(.loc 4,[ci 0,.nils,.nils])])))/\((t.kind !=e.list)=false->(Zh (Z7v N [1,1,1,1,0,1,0,0]) (Z04 e t 0 t.kids []) (xB 0 (ZcW N [1,1,1,1,1] Q)))))):
  Z7v N [] (L2 [(0,.agg (enc .edit e)),(1,.agg (enc .tree t))] []) Q:=
 Eq.mpr (by kernel_rfl) h
theorem ZjU(N:Nat)(e:Edit)(t:Tree)(x28:Int)(x7 ml6_2:List Tree)(N0:NT)(Q:QT)(h:∀ y_1,y_1=(e.ops.getD x28.toNat Op.nil)->let z2:=decide (x28 < (e.ops.length:Int));let z1:=xT N0 (xB 0 (ZcW N [1,1,1,1,1] Q));let z0:=xB 1 (ZcW N [1,1,1,1,0,1,0,0,1,1,1] z1);((z2=true->((0:Int)<=x28/\x28 < (e.ops.length:Int))/\(((y_1.kind==2)=true->((ml6_2.length+y_1.l.length)*56<=140737488355328)/\(Z7v N [1,1,1,1,0,1,0,0,1,1,1] (Z0W e t x28 x7 (ml6_2++y_1.l) .junk) z1))/\((y_1.kind==2)=false->(((y_1.kind==1)=true->(Z7v N [1,1,1,1,0,1,0,0,1,1,0,0,1,1,1] (Z4f e t x28 x7 ml6_2 (y_1.l.length:Int) .junk) z0))/\((y_1.kind==1)=false->(((y_1.kind==3)=true->(Z7v N [1,1,1,1,0,1,0,0,1,1,0,0,1,1,1] (Z4f e t x28 x7 ml6_2 1 (.c (.bool (y_1.kind==3)))) z0))/\((y_1.kind==3)=false->Z7v N [1,1,1,1,0,1,0,0,1,1,0,0,1,1,1] (Z4f e t x28 x7 ml6_2 y_1.n (.c (.bool (y_1.kind==3)))) z0)))))))/\(z2=false->(Q .ret (L2 [pL 4,pB 5 (((x7.length:Int):Int)==0)] [(.loc 4,[ci t.kind,.nils,sU .tree ml6_2 (.own (.l 4 2))])]))))):
  Z7v N [1,1,1,1,0,1,0,0] (Z04 e t x28 x7 ml6_2) (xT N0 (xB 0 (ZcW N [1,1,1,1,1] Q))):=
 Eq.mpr (by kernel_rfl) (h _ rfl)
theorem ZjV(N:Nat)(e:Edit)(t:Tree)(x28:Int)(x7_a ml6_2_a:List Tree)(v97_a:V U)(N0:NT)(Q:QT)(h:(InR (x28+1))/\(N0 (Z04 e t (x28+1) x7_a ml6_2_a))):
  Z7v N [1,1,1,1,0,1,0,0,1,1,1] (Z0W e t x28 x7_a ml6_2_a v97_a) (xT N0 (xB 0 (ZcW N [1,1,1,1,1] Q))):=
 Eq.mpr (by kernel_rfl) h
theorem Z8I(N:Nat)(e:Edit)(t:Tree)(x28:Int)(x7 ml6_2:List Tree)(x10_b:Int)(v49_b:V U)(N0:NT)(Q:QT)(h:∀ y_1,y_1=(e.ops.getD x28.toNat Op.nil)->∀ y_2,y_2=(List.getD (List.take x10_b.toNat x7) (Int.toNat 0) Tree.nil)->∀ y_3,y_3=y_2->∀ y_4,y_4=(y_1.e)->∀ y_5,y_5=(eqX (Z5 y_1.l) (Z5 (List.take x10_b.toNat x7)))->∀ y_6,y_6=(Z8m y_4 y_3)->let z5:= !((doE false y_4 y_3).isSome);let z4:=decide (((x7.length:Int):Int) < x10_b);let z3:=List.drop x10_b.toNat x7;let z2:=List.take x10_b.toNat x7;let z1:=xT N0 (xB 0 (ZcW N [1,1,1,1,1] Q));let z0:=Q .ret (L2 [pL 4,pB 5 false] [(.loc 4,[ci 0,.nils,.nils])]);((z4=true->z0)/\(z4=false->(((0:Int)<=x10_b/\x10_b<=(x7.length:Int))/\((0:Int)<=x10_b/\x10_b<=(x7.length:Int))/\(((y_1.kind==0)=true->((ml6_2.length+z2.length)*56<=140737488355328)/\(Z7v N [1,1,1,1,0,1,0,0,1,1,1] (Z0W e t x28 z3 (ml6_2++z2) .junk) z1))/\((y_1.kind==0)=false->(((y_1.kind==1)=true->(Z9A (y_1.l,z2,(),()))/\(((!y_5)=true->z0)/\((!y_5)=false->Z7v N [1,1,1,1,0,1,0,0,1,1,1] (Z0W e t x28 z3 ml6_2 (.c (.bool (!y_5)))) z1)))/\((y_1.kind==1)=false->((0:Int)<=0/\0 < (z2.length:Int))/\(Z1Y (y_4,y_3,()))/\(Zav (y_4,y_3,()) < N)/\((z5=true->z0)/\(z5=false->((ml6_2.length+([y_6]).length)*56<=140737488355328)/\(Z7v N [1,1,1,1,0,1,0,0,1,1,1] (Z0W e t x28 z3 (ml6_2++([y_6])) .junk) z1))))))))))):
  Z7v N [1,1,1,1,0,1,0,0,1,1,0,0,1,1,1] (Z4f e t x28 x7 ml6_2 x10_b v49_b) (xB 1 (ZcW N [1,1,1,1,0,1,0,0,1,1,1] (xT N0 (xB 0 (ZcW N [1,1,1,1,1] Q))))):=
 Eq.mpr (by kernel_rfl) (h _ rfl _ rfl _ (Z8 _) _ (Zf _) _ rfl _ (Z8 _))
def Zpv(N:Nat)(e:Edit)(t:Tree):Prop:=AW (Z1 (Z7h N)) Try.f108 Zh2 [] (Zg (Z7t.can (e,t,())) []) (EQ Try.f108 (Z2A (e,t,())) [])
abbrev Zqi:Prop:=∀ (N:Nat) (e:Edit) (t:Tree) (_:Unit),Z2G (e,t,())->Z7W (e,t,()) < N+1->Zpv N e t
theorem ZnZ(Zjl:CT 106 Z0C)(Zji:CT 149 Z0A)(c91:CT 91 Z2n)(ZrW:CT 151 Z3R)(ZrX:CT 150 Z3S)(c66:CT 66 Z5D)(ZmA:CT 109 Z1S)(b70:ZuB)(Zsf:Zqj)(Zse:Zqi):
  CT 70 Z6S/\CT 107 Zgt/\CT 108 Zgs:=by
 have h82 : ∃ fn, Try.prog.funcs[(70 : FuncId)]? = some fn ∧ fn.body.isSome = true ∧ (fn.name == "runtime.NumGoroutine") = false := ⟨Try.f70, Try.func70, rfl, rfl⟩
 have h113 : ∃ fn, Try.prog.funcs[(107 : FuncId)]? = some fn ∧ fn.body.isSome = true ∧ (fn.name == "runtime.NumGoroutine") = false := ⟨Try.f107, Try.func107, rfl, rfl⟩
 have h114 : ∃ fn, Try.prog.funcs[(108 : FuncId)]? = some fn ∧ fn.body.isSome = true ∧ (fn.name == "runtime.NumGoroutine") = false := ⟨Try.f108, Try.func108, rfl, rfl⟩
 have key:∀ N,CT 70 (fs Z7t (fun a=> [Z1Y a,Zav a < N]) Z3i)/\CT 107 (fs Z7t (fun a=> [Z2H a,Z7W a < N]) Z2B)/\CT 108 (fs Z7t (fun a=> [Z2G a,Z7W a < N]) Z2A):=by
  intro N
  induction N with
  | zero=> exact ⟨Z0G h82,Z0G h113,Z0G h114⟩
  | succ N ih=>
   have kn:=Jq (l:=Z7h N) ⟨ih.1,ih.2.1,ih.2.2,Zjl,Zji,c91,ZrW,ZrX,c66,ZmA,trivial⟩
   exact ⟨ZV (Γ:=Z1 (Z7h N)) Zj rfl kn Zrn Try.func70 rfl rfl (fun a=> by show 2<=_;decide) (fun ⟨e,t,_⟩ h=> b70 N e t () h.1 h.2.1),
    ZV (Γ:=Z1 (Z7h N)) Zj rfl kn Zh3 Try.func107 rfl rfl (fun a=> by show 2<=_;decide) (fun ⟨e,t,_⟩ h=> Zsf N e t () h.1 h.2.1),
    ZV (Γ:=Z1 (Z7h N)) Zj rfl kn Zh2 Try.func108 rfl rfl (fun a=> by show 2<=_;decide) (fun ⟨e,t,_⟩ h=> Zse N e t () h.1 h.2.1)⟩
 exact ⟨Z0H h82 fun N=> (key N).1,Z0H h113 fun N=> (key N).2.1,Z0H h114 fun N=> (key N).2.2⟩
end
noncomputable section
def ZgH(a:Edit × Tree × Unit):V U:= .tup [(true,(enc .tree (Z9H ((doE false a.1 a.2.1).map Z3)))),(false,[.bool ((doE false a.1 a.2.1).isSome)])]
def Z99:Fs U:=fs Z7t (fun a=> [Z1Y a]) ZgH
def Zmk:List (FuncId × Fs U):=[(71,Z94),(70,Z6S)]
def ZrC:Zc U:=lvl [([2,3,4],[2,3,4]),([4,6,7],[4,6]),([4,6,15],[4,6]),([4,5],[4]),([4,5],[4])]
abbrev A26(p:List Nat):=AW (Z1 Zmk) Try.f26 ZrC p
theorem Zvj(e:Edit)(t:Tree)(Q:QT)(h:∀ y_1,y_1=e->∀ y_2,y_2=t->∀ y_3,y_3=(Z8m y_1 y_2)->let z0:= !((doE false y_1 y_2).isSome);((Z1Y (y_1,y_2,()))/\((z0=true->(Q .ret (L2 [pL 4,pB 5 false] [(.loc 4,[ci 0,.nils,.nils])])))/\(z0=false->(Z9w (y_3,()))/\(Q .ret (L2 [pL 4,pB 5 true] [(.loc 4,(enc .tree (Z3 y_3)))])))))):
  A26 [] (L2 [(0,.agg (enc .edit e)),(1,.agg (enc .tree t))] []) Q:=
 Eq.mpr (by kernel_rfl) (h _ (Zf _) _ (Z8 _) _ (Z8 _))
def Zt3(e:Edit)(t:Tree):Prop:=AW (Z1 Zmk) Try.f26 ZrC [] (Zg (Z7t.can (e,t,())) []) (EQ Try.f26 (ZgH (e,t,())) [])
theorem Zre(c71:CT 71 Z94)(c70:CT 70 Z6S)(hb:∀ (e:Edit) (t:Tree) (_:Unit),Z1Y (e,t,())->Zt3 e t):CT 26 Z99:=
 Z7 (l:=[(71,Z94),(70,Z6S)]) Zj rfl (⟨c71,c70,trivial⟩) ZrC Try.func26 rfl rfl 2 (fun _=> rfl) (by decide) (fun ⟨e,t,_⟩=> hb e t ())
end
theorem ZmA:Contract Try.prog cfg 109 Z1S:=by
 refine Zlu ?_
 intro l _ hp
 simp only [Zdp] at hp
 refine Zqn _ _ ⟨fun h=> ?_,fun _=> ⟨by simp only [Qx];omega,?_⟩⟩
 ·subst h
  simp only [Z5J]
  (repeat' (first | exact trivial | exact rfl | apply And.intro))
 ·simp only [Z5J]
  (repeat' (first | exact trivial | exact rfl | apply And.intro))
theorem ZrX:Contract Try.prog cfg 150 Z3S:=by
 refine Zob ?_
 intro l _ hp
 simp only [Z9B] at hp
 refine Ztp _ _ ⟨fun h=> ?_,fun _=> ⟨by simp only [Qx];omega,?_⟩⟩
 ·subst h
  simp only [Z8u]
  (repeat' (first | exact trivial | exact rfl | apply And.intro))
 ·simp only [Z8u]
  (repeat' (first | exact trivial | exact rfl | apply And.intro))
theorem ZaL{α:Type}(z:α){l:List α}{i:Nat}(h:i < l.length)(x:α):Y4 z l i x=l.set i x:=by
 simp only [Y4];rw [show i+1 - l.length=0 by omega];simp
theorem Z7B{α:Type}(z:α){l:List α}{i:Nat}(h:l.length<=i)(x:α):Y4 z (l++[z]) i x=Y4 z l i x:=by
 simp only [Y4,Qf,Xm,Qj]
 rw [show i+1 - l.length=(i+1 - (l.length+1))+1 by omega,List.replicate_succ]
 try rfl
theorem Zlr(t:Tree):t.words.length+Ze t.kids+1=Zm t:=by obtain ⟨k,w,ks⟩:=t;simp only [Zm,Tree.words_mk,Tree.kids_mk];omega
theorem Zkm{t:Tree}(h:rng t):InR t.kind/\(∀ x∈t.words,isW x)/\ZQ t.kids:=by obtain ⟨k,w,ks⟩:=t;exact h
theorem Zgw{ks:List Tree}(h:ZQ ks)(i:Nat):rng (ks.getD i Tree.nil):=by
 by_cases hi:i < ks.length
 ·exact JL h (Zl hi _)
 ·rw [Qp,Ql (by omega)]
  refine ⟨by decide,by simp [Tree.nil],trivial⟩
theorem ZdL(ks:List Tree)(i:Nat):Zm (ks.getD i Tree.nil)<=Ze ks+1:=by
 by_cases hi:i < ks.length
 ·have:=JE (Zl hi Tree.nil);omega
 ·rw [Qp,Ql (by omega)]
  simp [Tree.nil,Zm,Ze]
theorem Zj4(t:Tree){i:Int}(h:0<=i):J5 t i=t.kids.getD i.toNat Tree.nil:=by unfold J5;rw [if_neg (by omega)]
theorem Zey(t:Tree){i:Int}(h:0<=i):YS t i=t.words.getD i.toNat 0:=by unfold YS;rw [if_neg (by omega)]
theorem Znc{l:List Int}(h:∀ x∈l,isW x)(i:Nat):isW (l.getD i 0):=by
 by_cases hi:i < l.length
 ·exact h _ (Zl hi _)
 ·rw [Qp,Ql (by omega)];show 0<=(0:Int)/\(0:Int) < _;omega
theorem b70:ZuB:=by
 intro N e t _ hp hN
 simp only [Z1Y,Zav] at hp hN
 obtain ⟨⟨p1,p2,d,p3⟩,p4,p5⟩:=hp
 have h1:=ZZ e
 have h2:=Z2y p2
 have hd:=Z3N false e t
 rw [Ja] at hd
 refine ZuU _ _ _ _ ?_
 rintro y1 hy1 y2 hy2 y3 hy3
 subst hy1 hy2 hy3
 (simp only [vcT,vcS])
 refine ⟨fun hk=> ?_,fun hk=> ⟨fun hk1=> ⟨by simp only [Z1e];omega,?_⟩,fun hk1=> ⟨fun hk2=> ⟨by simp only [Z2H];exact ⟨hk2,⟨p1,p2,d,p3⟩,p4,p5⟩,by simp only [Z7W];omega,?_⟩,fun hk2=> ⟨fun hk3=> ⟨by simp only [Z2G];exact ⟨hk3,⟨p1,p2,d,p3⟩,p4,p5⟩,by simp only [Z7W];omega,?_⟩,fun hk3=> ?_⟩⟩⟩⟩
 ·rw [if_pos hk] at hd
  simp only [Z3i,Z8m,if_pos hk,hd]
  (repeat' (first | exact trivial | exact rfl | apply And.intro))
 ·rw [if_neg hk,if_pos hk1] at hd
  simp only [Z3i,Z8m,if_neg hk,if_pos hk1,hd]
  cases Yf (Z3 y1.old) (Z3 y2) <;> (repeat' (first | exact trivial | exact rfl | apply And.intro))
 ·rw [if_neg hk,if_neg hk1,if_pos hk2] at hd
  simp only [Z3i,Z8m,if_neg hk,if_neg hk1,if_pos hk2,hd]
  (repeat' (first | exact trivial | exact rfl | apply And.intro))
 ·rw [if_neg hk,if_neg hk1,if_neg hk2,if_pos hk3] at hd
  simp only [Z3i,Z8m,if_neg hk,if_neg hk1,if_neg hk2,if_pos hk3,hd]
  have e2:(if y2.kind=y1.list then (Z2Y (ZH false y1.ops y2.kids [])).map fun b=> Tree.mk y1.list [] b else none).isSome=(Z2Y (Z4u false y1 y2)).isSome:=by
   unfold Z4u
   split
   ·cases Z2Y (ZH false y1.ops y2.kids []) <;> rfl
   ·try rfl
  rw [e2]
  (repeat' (first | exact trivial | exact rfl | apply And.intro))
 ·rw [if_neg hk,if_neg hk1,if_neg hk2,if_neg hk3] at hd
  simp only [Z3i,Z8m,if_neg hk,if_neg hk1,if_neg hk2,if_neg hk3,hd]
  (repeat' (first | exact trivial | exact rfl | apply And.intro))
theorem Zsf:Zqj:=by
 intro N e t _ hp hN
 simp only [Z2H,Z7W] at hp hN
 obtain ⟨k2,⟨p1,p2,d,p3⟩,p4,p5⟩:=hp
 have h1:=ZZ e
 have h2:=Yg e.kids
 have h3:=Zlr t
 have h4:=Zw t.kids
 have r2:=Z2y p2
 have rt:=Zkm p5
 have ri:=Z01 p3
 refine ZtG _ _ _ _ ?_
 (simp only [vcT,vcS])
 have no:Z8l false e t=none->YA cfg Try.f107.ntmps Try.f107.results.toList (Z2B (e,t,())) [] .ret (⟨[(4,.ptr (.loc 4) 0),(5,.c (.bool false))],[((.loc 4),[.int .i64 0,.nils,.nils])],[]⟩:LSt U):=by
  intro hs
  simp only [Z2B,hs]
  (repeat' (first | exact trivial | exact rfl | apply And.intro))
 refine ⟨fun hk=> no (by unfold Z8l;rw [if_neg hk]),fun hk=> ?_⟩
 have hk:t.kind=1:=by simpa using hk
 refine ⟨by simp only [Zdp];omega,by simp only [Z9B];omega,?_⟩
 refine Za (ι:=Int × List Int) (fun s=> Z4j e t s.1 s.2) (fun s=> 0<=s.1/\s.1<=e.words.length/\wsD t.words (e.words.drop s.1.toNat) s.2=wsD t.words e.words t.words/\s.2.length<=t.words.length+65536) (fun s=> ((e.words.length:Int) - s.1).toNat) (0,t.words) rfl ⟨by simp,by simp,by simp,by simp⟩ ?_
 rintro ⟨i,out⟩ ⟨f1,f2,f3,f4⟩
 dsimp only at f1 f2 f3 f4
 refine ZjZ _ _ _ _ _ _ _ ?_
 rintro y1 hy1 y2 hy2
 subst hy1
 (simp only [vcT,vcS])
 refine ⟨fun hi=> ?_,fun hi=> ?_⟩
 ·have hmem:=Zl (l:=e.words) (i:=i.toNat) (by omega) (WEdit.mk 0 0 0 0)
  rw [Yr f1 hi (WEdit.mk 0 0 0 0),<-hy2] at f3
  rw [<-hy2] at hmem
  have hw:=Z0e ri.words y2 hmem
  obtain ⟨g1,g2,g3,g4⟩:=r2.2.2.2.1 y2 hmem
  have hat:YS y1 y2.at_=y1.words.getD y2.at_.toNat 0:=Zey y1 (by omega)
  have hwi:=Znc rt.2.1 y2.at_.toNat
  rw [wsD] at f3
  rw [hat]
  unfold isW at g3 g4 hwi
  refine ⟨⟨f1,hi⟩,by simp only [Z72],by simp only [Zc7];omega,fun hne=> no ?_,fun heq=> ?_⟩
  ·rw [if_neg hne] at f3
   unfold Z8l
   rw [if_pos hk,<-f3]
   try rfl
  ·have heq:mix 0 (y1.words.getD y2.at_.toNat 0) y2.mask=y2.old:=by simpa using heq
   rw [if_pos heq] at f3
   refine Za (ι:=List Int) (fun s=> Z4i e y1 i s) (fun s=> (∀ v,Y4 0 s y2.at_.toNat v=Y4 0 out y2.at_.toNat v)/\s.length<=y1.words.length+65536) (fun s=> (y2.at_+1 - s.length).toNat) out rfl ⟨fun v=> rfl,f4⟩ ?_
   rintro s ⟨q1,q2⟩
   refine ZjY _ _ _ _ _ _ _ _ ?_
   (simp only [Tree.eta,Edit.eta,Tree.kind_mk,Tree.words_mk,Tree.kids_mk])
   rw [<-hy2,hat]
   (simp only [vcT,vcS])
   refine ⟨fun hl=> ⟨by simp;omega,s++[0],rfl,⟨fun v=> ?_,by simp;omega⟩,by simp;omega⟩,fun hl=> ?_⟩
   ·rw [Z7B 0 (by omega),q1]
   ·have hl:y2.at_ < s.length:=by omega
    refine ⟨by simp only [Zc7];omega,by omega,by omega,by unfold InR;omega,(i+1,s.set y2.at_.toNat (mix (y1.words.getD y2.at_.toNat 0) y2.new y2.mask)),rfl,⟨by dsimp only;omega,by dsimp only;omega,?_,by simp only [List.length_set];omega⟩,by dsimp only;omega⟩
    dsimp only
    rw [<-f3,<-ZaL 0 (by omega),q1]
 ·rw [Qb (by omega),wsD] at f3
  refine Za (ι:=Int × List Tree) (fun s=> Z4h e y1 out s.1 s.2) (fun s=> 0<=s.1/\s.1<=e.kids.length/\Je false y1.kids (e.kids.drop s.1.toNat) s.2=Je false y1.kids e.kids y1.kids/\s.2.length<=y1.kids.length+65536) (fun s=> ((e.kids.length:Int) - s.1).toNat) (0,y1.kids) rfl ⟨by simp,by simp,by simp,by simp⟩ ?_
  rintro ⟨j,ks⟩ ⟨e1,e2,e3,e4⟩
  dsimp only at e1 e2 e3 e4
  refine ZjX _ _ _ _ _ _ _ _ ?_
  rintro y1 hy1 y2 hy2 y3 hy3 y4 hy4
  subst hy1
  (simp only [vcT,vcS])
  refine ⟨fun hj=> ?_,fun hj=> ?_⟩
  ·have hmem:=Zl (l:=e.kids) (i:=j.toNat) (by omega) (KidOf.mk 0 Edit.nil)
   rw [Yr e1 hj (KidOf.mk 0 Edit.nil),<-hy2] at e3
   rw [<-hy2] at hmem
   have hk2:=JC ri.kids y2 hmem
   have hm:=J3 hmem
   have hct:=Zei hmem
   have hca:=ZfP e
   have hr:=(Z1W r2.2.2.2.2.2.1 hmem).2
   have hat:J5 y1 y2.at_=y1.kids.getD y2.at_.toNat Tree.nil:=Zj4 y1 (by omega)
   rw [hat] at hy4
   have hm4:=ZdL y1.kids y2.at_.toNat
   have hr4:=Zgw rt.2.2 y2.at_.toNat
   rw [Je,Zab,<-hy4,<-hy3] at e3
   rw [<-hy4] at hm4 hr4
   rw [<-hy3] at hm hr hk2 hct
   refine ⟨⟨e1,hj⟩,by simp only [Z72],by simp only [Z1Y];exact ⟨⟨by omega,hr,_,hk2.2⟩,by omega,hr4⟩,by simp only [Zav];omega,fun hne=> no ?_,fun heq=> ?_⟩
   ·have hne:doE false y3 y4=none:=by simpa using hne
    rw [hne] at e3
    unfold Z8l
    rw [if_pos hk,<-f3,<-e3]
    try rfl
   ·obtain ⟨u,hu⟩:=QN.1 heq
    rw [hu,Qh] at e3
    refine Za (ι:=List Tree) (fun s=> Z4g e y1 out j s) (fun s=> (∀ v,Y4 Tree.nil s y2.at_.toNat v=Y4 Tree.nil ks y2.at_.toNat v)/\s.length<=y1.kids.length+65536) (fun s=> (y2.at_+1 - s.length).toNat) ks rfl ⟨fun v=> rfl,e4⟩ ?_
    rintro s ⟨q1,q2⟩
    refine ZjW _ _ _ _ _ _ _ _ _ ?_
    rintro z1 hz1 z2 hz2 z3 hz3 z4 hz4 z5 hz5
    rw [<-hy2] at hz2
    subst hz1 hz2
    rw [<-hy3] at hz3
    subst hz3
    rw [hat,<-hy4] at hz4
    subst hz4
    rw [Z76 hu] at hz5
    subst hz5
    (simp only [vcT,vcS])
    refine ⟨fun hl=> ⟨by simp;omega,s++[Tree.nil],rfl,⟨fun v=> ?_,by simp;omega⟩,by simp;omega⟩,fun hl=> ?_⟩
    ·rw [Z7B Tree.nil (by omega),q1]
    ·have hl:z2.at_ < s.length:=by omega
     refine ⟨by omega,by omega,by unfold InR;omega,(j+1,s.set z2.at_.toNat z5),rfl,⟨by dsimp only;omega,by dsimp only;omega,?_,by simp only [List.length_set];omega⟩,by dsimp only;omega⟩
     dsimp only
     rw [<-e3,<-ZaL Tree.nil (by omega),q1]
  ·rw [Qb (by omega),Je] at e3
   have hs:Z8l false e y1=some (.mk 1 out ks):=by
    unfold Z8l
    rw [if_pos hk,<-f3,<-e3]
    try rfl
   simp only [Z2B,hs]
   (repeat' (first | exact trivial | exact rfl | apply And.intro))
theorem Zjd(r:Bool)(o:Op)(s:List Op)(rest out:List Tree):ZH r (o ::s) rest out=(Z0n r o rest out).bind fun x=> ZH r s x.2 x.1:=by rw [ZH]
theorem Z0K{ks:List Tree}(h:ZQ ks)(n:Nat):ZQ (ks.drop n):=by
 induction n generalizing ks with
 | zero=> exact h
 | succ n ih=> cases ks with
  | nil=> exact h
  | cons a r=> exact ih h.2
theorem Zse:Zqi:=by
 intro N e t _ hp hN
 simp only [Z2G,Z7W] at hp hN
 obtain ⟨k3,⟨p1,p2,d,p3⟩,p4,p5⟩:=hp
 have h1:=ZZ e
 have h2:=Yo e.ops
 have h3:=Zlr t
 have h4:=Zw t.kids
 have r2:=Z2y p2
 have rt:=Zkm p5
 have ri:=Z01 p3
 refine ZtF _ _ _ _ ?_
 (simp only [vcT,vcS])
 have no:Z4u false e t=none->YA cfg Try.f108.ntmps Try.f108.results.toList (Z2A (e,t,())) [] .ret (⟨[(4,.ptr (.loc 4) 0),(5,.c (.bool false))],[((.loc 4),[.int .i64 0,.nils,.nils])],[]⟩:LSt U):=by
  intro hs
  simp only [Z2A,hs]
  (repeat' (first | exact trivial | exact rfl | apply And.intro))
 refine ⟨fun hk=> no (by unfold Z4u;rw [if_neg hk]),fun hk=> ?_⟩
 have hk:t.kind=e.list:=by simpa using hk
 have hl0:Z4u false e t=ZH false e.ops t.kids []:=by unfold Z4u;rw [if_pos hk]
 refine Za (ι:=Int × List Tree × List Tree) (fun s=> Z04 e t s.1 s.2.2 s.2.1)
  (fun s=> 0<=s.1/\s.1<=e.ops.length/\ZH false (e.ops.drop s.1.toNat) s.2.2 s.2.1=Z4u false e t/\s.2.1.length+s.2.2.length+ZE (e.ops.drop s.1.toNat)<=t.kids.length+ZE e.ops/\Ze s.2.2<=Ze t.kids/\ZQ s.2.2)
  (fun s=> ((e.ops.length:Int) - s.1).toNat) (0,[],t.kids) rfl ⟨by simp,by simp,by simp [hl0],by simp,by simp,rt.2.2⟩ ?_
 rintro ⟨i,out,rest⟩ ⟨f1,f2,f3,f4,f5,f6⟩
 dsimp only at f1 f2 f3 f4 f5 f6
 refine ZjU _ _ _ _ _ _ _ _ ?_
 rintro y1 hy1
 (simp only [vcT,vcS])
 refine ⟨fun hi=> ?_,fun hi=> ?_⟩
 ·have hmem:=Zl (l:=e.ops) (i:=i.toNat) (by omega) Op.nil
  rw [Yr f1 hi Op.nil,<-hy1] at f3 f4
  rw [<-hy1] at hmem
  have hr:=Go.AM.rightOs_mem ri.ops y1 hmem
  have hm:=Yn hmem
  have hct:=Zeh hmem
  have hca:=ZfP e
  have hme:=Jn y1
  have hro:=Z8s (Z1V r2.2.2.2.2.2.2 hmem)
  have hml:=Zw y1.l
  simp only [ZE] at f4
  rw [Zjd,YG] at f3
  have go:∀ (x:List Tree) (m:List Tree) (v:V U) N0 Q',ZH false (e.ops.drop (i+1).toNat) x m=Z4u false e t->m.length+x.length+ZE (e.ops.drop (i+1).toNat)<=t.kids.length+ZE e.ops->Ze x<=Ze t.kids->ZQ x->
    (∀ s2,s2=Z04 e t (i+1) x m->N0 s2)->Z7v N [1,1,1,1,0,1,0,0,1,1,1] (Z0W e t i x m v) (AExit.then N0 (AExit.inBlock 0 (ZcW N [1,1,1,1,1] Q'))):=by
   intro x m v N0 Q' a1 a2 a3 a4 a5
   exact ZjV _ _ _ _ _ _ _ _ _ ⟨by unfold InR;omega,a5 _ rfl⟩
  have fin:∀ (x m:List Tree),ZH false (e.ops.drop (i+1).toNat) x m=Z4u false e t->m.length+x.length+ZE (e.ops.drop (i+1).toNat)<=t.kids.length+ZE e.ops->Ze x<=Ze t.kids->ZQ x->∀ s2,s2=Z04 e t (i+1) x m->
    ∃ j:Int × List Tree × List Tree,s2=Z04 e t j.1 j.2.2 j.2.1/\(0<=j.1/\j.1<=e.ops.length/\ZH false (e.ops.drop j.1.toNat) j.2.2 j.2.1=Z4u false e t/\j.2.1.length+j.2.2.length+ZE (e.ops.drop j.1.toNat)<=t.kids.length+ZE e.ops/\Ze j.2.2<=Ze t.kids/\ZQ j.2.2)/\((e.ops.length:Int) - j.1).toNat < ((e.ops.length:Int) - i).toNat:=by
   rintro x m a1 a2 a3 a4 _ rfl
   exact ⟨(i+1,m,x),rfl,⟨by dsimp only;omega,by dsimp only;omega,a1,a2,a3,a4⟩,by dsimp only;omega⟩
  have r1:=YX hr
  have ht:∀ n:Nat,(rest.take n).length<=rest.length/\(rest.take n).length+(rest.drop n).length=rest.length:=by
   intro n
   simp only [Qg,X5];omega
  refine ⟨⟨f1,hi⟩,fun hk2=> ⟨by omega,?_⟩,fun hk2=> ⟨fun hk1=> ?_,fun hk1=> ⟨fun hk3=> ?_,fun hk3=> ?_⟩⟩⟩
  ·rw [if_neg (by omega),if_neg (by omega),if_pos hk2,Qh] at f3
   exact go _ _ _ _ _ f3 (by simp only [Qf];omega) f5 f6 (fin _ _ f3 (by simp only [Qf];omega) f5 f6)
  ·refine Z8I _ _ _ _ _ _ _ _ _ _ ?_
   rintro z1 hz1 z2 hz2 z3 hz3 z4 hz4 z5 hz5 z6 hz6
   rw [<-hy1] at hz1
   subst hz1
   rw [if_neg (by omega),if_pos hk1] at f3
   (simp only [vcT,vcS])
   rw [QZ] at hz5
   rw [QZ]
   refine ⟨fun hs=> no ?_,fun hs=> ⟨by omega,by omega,fun h=> by omega,fun _=> ⟨fun _=> ⟨?_,fun hq=> no ?_,fun hq=> ?_⟩,fun h=> absurd hk1 h⟩⟩⟩
   ·have:YJ z1.l rest=false:=by unfold YJ;rw [decide_eq_false (by omega)];try rfl
    rw [this,if_neg (by simp)] at f3
    exact f3.symm
   ·have:=Zfh z1.l.length rest
    simp only [Z9A];omega
   ·have:YJ z1.l rest=false:=by unfold YJ;rw [<-hz5,hq];simp
    rw [this,if_neg (by simp)] at f3
    exact f3.symm
   ·have:YJ z1.l rest=true:=by unfold YJ;rw [<-hz5,hq,decide_eq_true (by omega)];try rfl
    rw [this,if_pos rfl,Qh] at f3
    have hd:=Z2J z1.l.length rest
    have ht1:=ht z1.l.length
    exact go _ _ _ _ _ f3 (by omega) (by omega) (Z0K f6 _) (fin _ _ f3 (by omega) (by omega) (Z0K f6 _))
  ·refine Z8I _ _ _ _ _ _ _ _ _ _ ?_
   rintro z1 hz1 z2 hz2 z3 hz3 z4 hz4 z5 hz5 z6 hz6
   rw [<-hy1] at hz1
   subst hz1
   rw [if_neg (by omega),if_neg hk1,if_neg hk2] at f3
   (simp only [vcT,vcS])
   rw [show Int.toNat 1=1 from rfl]
   refine ⟨fun hs=> no ?_,fun hs=> ⟨by omega,by omega,fun h=> by omega,fun _=> ⟨fun h=> absurd h hk1,fun _=> ?_⟩⟩⟩
   ·rw [if_pos (by omega)] at f3
    exact f3.symm
   ·have hz:z3=rest.getD 0 Tree.nil:=by
     rw [hz3,hz2]
     cases rest with
     | nil=> rfl
     | cons a r=> rfl
    rw [if_neg (by omega),<-hz,<-hz4] at f3
    have hm3:=ZdL rest 0
    have hr3:=Zgw f6 0
    rw [<-hz] at hm3 hr3
    have hre:=Z14 hr hk3
    rw [<-hz4] at hre hme hro hct
    refine ⟨?_,by simp only [Z1Y];exact ⟨⟨by omega,hro.2.2.2,_,hre⟩,by omega,hr3⟩,by simp only [Zav];omega,fun hne=> no ?_,fun heq=> ?_⟩
    ·simp only [Qg];omega
    ·have hne:doE false z4 z3=none:=by simpa using hne
     rw [hne] at f3
     exact f3.symm
    ·obtain ⟨u,hu⟩:=QN.1 heq
     rw [Z76 hu] at hz6
     subst hz6
     rw [hu,Q8,Qh] at f3
     have hd:=Z2J 1 rest
     have ht1:=ht 1
     have ht2:(rest.take 1).length=1:=by simp only [Qg];omega
     refine ⟨by simp only [Xm];omega,?_⟩
     exact go _ _ _ _ _ f3 (by simp only [Qf,Xm];omega) (by omega) (Z0K f6 _) (fin _ _ f3 (by simp only [Qf,Xm];omega) (by omega) (Z0K f6 _))
  ·have hk0:y1.kind=0:=by cases r1 <;> first | rfl | (exfalso;simp at hk1 hk2 hk3)
   refine Z8I _ _ _ _ _ _ _ _ _ _ ?_
   rintro z1 hz1 z2 hz2 z3 hz3 z4 hz4 z5 hz5 z6 hz6
   rw [<-hy1] at hz1
   subst hz1
   rw [if_pos hk0] at f3
   have hn:1<=z1.n/\z1.n<=1048576:=by cases r1 <;> first | (constructor <;> assumption) | (exfalso;simp at hk1 hk2 hk3 hk0)
   (simp only [vcT,vcS])
   refine ⟨fun hs=> no ?_,fun hs=> ⟨by omega,by omega,fun _=> ⟨?_,?_⟩,fun h=> absurd hk0 h⟩⟩
   ·rw [if_neg (by omega)] at f3
    exact f3.symm
   ·have:=(ht z1.n.toNat).1
    omega
   ·rw [if_pos (by omega),Qh] at f3
    have hd:=Z2J z1.n.toNat rest
    have ht1:=ht z1.n.toNat
    exact go _ _ _ _ _ f3 (by simp only [Qf];omega) (by omega) (Z0K f6 _) (fin _ _ f3 (by simp only [Qf];omega) (by omega) (Z0K f6 _))
 ·rw [Qb (by omega),ZH] at f3
  simp only [Z2A,<-f3,ZlP,Z2Y,Qh,hk]
  by_cases hr:rest.length=0
  ·rw [if_pos hr,hr]
   (repeat' (first | exact trivial | exact rfl | apply And.intro))
  ·rw [if_neg hr,show ((rest.length:Int)==0)=false by rw [beq_eq_false_iff_ne];omega]
   (repeat' (first | exact trivial | exact rfl | apply And.intro))
theorem Zvq:Contract Try.prog cfg 70 Z6S/\Contract Try.prog cfg 107 Zgt/\Contract Try.prog cfg 108 Zgs:=ZnZ Zjl Zji c91 ZrW ZrX c66 ZmA b70 Zsf Zse
theorem c70:Contract Try.prog cfg 70 Z6S:=Zvq.1
theorem Zmt{r:Bool}{e:Edit}{t u:Tree}(hr:∃ d,Z4 e d=true)(ht:Zm t+ctE e<=200000000000)(h:doE r e t=some u):Zm u<=1000000000000:=by
 obtain ⟨d,hr⟩:=hr
 have:=Zce r e d t u hr h
 omega
theorem c26:Contract Try.prog cfg 26 Z99:=by
 refine Zre c71 c70 ?_
 intro e t _ hp
 simp only [Z1Y] at hp
 refine Zvj _ _ _ ?_
 rintro y1 hy1 y2 hy2 y3 hy3
 subst hy1 hy2
 (simp only [vcT,vcS])
 refine ⟨by simp only [Z1Y];exact hp,fun hn=> ?_,fun hs=> ?_⟩
 ·have hn:doE false y1 y2=none:=by simpa using hn
  simp only [ZgH,hn]
  (repeat' (first | exact trivial | exact rfl | apply And.intro))
 ·obtain ⟨u,hu⟩:=QN.1 hs
  rw [Z76 hu] at hy3
  subst hy3
  have:=Zmt hp.1.2.2 hp.2.1 hu
  refine ⟨by simp only [Z9w];exact this,?_⟩
  simp only [ZgH,hu]
  (repeat' (first | exact trivial | exact rfl | apply And.intro))
noncomputable section
def Z8D:ArgM ((List Op × List Tree × List Tree × Unit) × Unit):=(.obj 0 (.cons (cWr .op 0 0) (.cons (Zel .tree 0 1) (.cons (Zel .tree 0 2) .nil))) .nil)
def Z0u(a:(List Op × List Tree × List Tree × Unit) × Unit):Prop:=(a.1.1).length<=200000000000/\(a.1.2.1).length<=200000000000/\(a.1.2.2.1).length<=200000000000
def Z6Z(a:(List Op × List Tree × List Tree × Unit) × Unit):V U:= .tup []
def Z41(a:(List Op × List Tree × List Tree × Unit) × Unit):List (List (C U)):=[[.mref (.x 0 0),sU .tree ((Z2 (Wst.mk a.1.1 a.1.2.1 a.1.2.2.1)).gone) (.own (.x 0 1)),sU .tree ((Z2 (Wst.mk a.1.1 a.1.2.1 a.1.2.2.1)).brought) (.own (.x 0 2))]]
def Z42(a:(List Op × List Tree × List Tree × Unit) × Unit):List (Tok × LC U):=[(.x 0 0,LC.mk (U:=U) .op ((Z2 (Wst.mk a.1.1 a.1.2.1 a.1.2.2.1)).out) 0)]
def Z0B:Fs U:=ZfL Z8D (fun a=> [Z0u a]) Z6Z Z41 Z42
def Z8F:ArgM ((List Op × List Tree × List Tree × Unit) × Int × Unit):=(.obj 0 (.cons (cWr .op 0 0) (.cons (Zel .tree 0 1) (.cons (Zel .tree 0 2) .nil))) (.cons (Yq .i64) .nil))
def Z2F(a:(List Op × List Tree × List Tree × Unit) × Int × Unit):Prop:=(a.1.1).length<=200000000000/\(a.1.2.1).length<=200000000000/\(a.1.2.2.1).length<=200000000000/\(∀ o∈a.1.1,0<=o.n/\o.n<=100000000000000000)/\0<=a.2.1/\a.2.1<=1048576
def ZeZ(a:(List Op × List Tree × List Tree × Unit) × Int × Unit):V U:= .tup []
def ZbW(a:(List Op × List Tree × List Tree × Unit) × Int × Unit):List (List (C U)):=[[.mref (.x 0 0),sU .tree ((ZK (Wst.mk a.1.1 a.1.2.1 a.1.2.2.1) a.2.1).gone) (.own (.x 0 1)),sU .tree ((ZK (Wst.mk a.1.1 a.1.2.1 a.1.2.2.1) a.2.1).brought) (.own (.x 0 2))]]
def ZbX(a:(List Op × List Tree × List Tree × Unit) × Int × Unit):List (Tok × LC U):=[(.x 0 0,LC.mk (U:=U) .op ((ZK (Wst.mk a.1.1 a.1.2.1 a.1.2.2.1) a.2.1).out) 0)]
def Z3T:Fs U:=ZfL Z8F (fun a=> [Z2F a]) ZeZ ZbW ZbX
def Z8E:ArgM ((List Op × List Tree × List Tree × Unit) × List Tree × Unit):=(.objAt 0 1 (.cons (cWr .op 0 0) (.cons (Zel .tree 0 1) (.cons (Zel .tree 0 2) .nil))) (.cons (aSl .tree) .nil))
def Z73(a:(List Op × List Tree × List Tree × Unit) × List Tree × Unit):Prop:=(a.1.1).length<=200000000000/\(a.1.2.1).length<=200000000000/\(a.1.2.2.1).length<=200000000000/\Ze a.2.1<=20000000000
def ZkJ(a:(List Op × List Tree × List Tree × Unit) × List Tree × Unit):V U:= .tup []
def ZgB(a:(List Op × List Tree × List Tree × Unit) × List Tree × Unit):List (List (C U)):=[[.mref (.x 0 0),sU .tree ((Wst.mk a.1.1 (a.1.2.1++Z5 a.2.1) a.1.2.2.1).gone) (.own (.x 0 1)),sU .tree ((Wst.mk a.1.1 (a.1.2.1++Z5 a.2.1) a.1.2.2.1).brought) (.own (.x 0 2))]]
def ZgC(a:(List Op × List Tree × List Tree × Unit) × List Tree × Unit):List (Tok × LC U):=[(.x 0 0,LC.mk (U:=U) .op ((Wst.mk a.1.1 (a.1.2.1++Z5 a.2.1) a.1.2.2.1).out) 0)]
def ZbI:Fs U:=ZfL Z8E (fun a=> [Z73 a]) ZkJ ZgB ZgC
def Z6K:ArgM ((List Op × List Tree × List Tree × Unit) × List Tree × Unit):=(.objAt 0 2 (.cons (cWr .op 0 0) (.cons (Zel .tree 0 1) (.cons (Zel .tree 0 2) .nil))) (.cons (aSl .tree) .nil))
def Zdf(a:(List Op × List Tree × List Tree × Unit) × List Tree × Unit):List (List (C U)):=[[.mref (.x 0 0),sU .tree ((Wst.mk a.1.1 a.1.2.1 (a.1.2.2.1++Z5 a.2.1)).gone) (.own (.x 0 1)),sU .tree ((Wst.mk a.1.1 a.1.2.1 (a.1.2.2.1++Z5 a.2.1)).brought) (.own (.x 0 2))]]
def Zdg(a:(List Op × List Tree × List Tree × Unit) × List Tree × Unit):List (Tok × LC U):=[(.x 0 0,LC.mk (U:=U) .op ((Wst.mk a.1.1 a.1.2.1 (a.1.2.2.1++Z5 a.2.1)).out) 0)]
def Z9b:Fs U:=ZfL Z6K (fun a=> [Z73 a]) ZkJ Zdf Zdg
def Z45(a:Int × Edit × Unit):Prop:=a.2.1.words.length<=20000000000/\a.2.1.kids.length<=20000000000
def ZgJ(a:Int × Edit × Unit):V U:= .c (.bool (Z4G a.1 a.2.1))
def Z1R:Fs U:=fs ZhF (fun a=> [Z45 a]) ZgJ
def ZlH:Zc U:=fun i=> match i with
 | 0=> ([(0,[]),(7,[])],[(.x 0,[.wr .op])])
 | 1=> ([(0,[])],[(.x 0,[.wr .op])])
 | 2=> ([(0,[]),(28,[])],[(.x 0,[.wr .op])])
 | 3=> ([(0,[])],[(.x 0,[.wr .op])])
 | 4=> ([],[(.x 0,[.wr .op])])
 | _=> ([],[])
abbrev Zum(wo:List Op)(wg wb:List Tree)(Q:QT):=AW (Z1 Zfw) Try.f129 ZlH [] (⟨[(0,.ptr (.x 0) 0)],[(.x 0,[.mref (.x 0 0),sU .tree wg (.own (.x 0 1)),sU .tree wb (.own (.x 0 2))])],[(.x 0 0,LC.mk (U:=U) .op wo 0)]⟩:LSt U) Q
theorem Zts(wo:List Op)(wg wb:List Tree)(Q:QT)(h:∀ y_1,y_1=(Edit.mk 0 (Tree.mk 0 [] []) (Tree.mk 0 [] []) [] [] 0 [])->∀ y_2,y_2=(List.set (wo++([(OpOf.mk 0 0 [] y_1:Op)])) (Int.toNat (wo.length:Int)) (OpOf.mk 1 0 wg y_1:Op))->((decide ((0:Int) < (wg.length:Int)))=true->((wo.length+([(OpOf.mk 0 0 [] y_1:Op)]).length)*240<=140737488355328)/\((0:Int)<=(wo.length:Int)/\(wo.length:Int) < ((wo++([(OpOf.mk 0 0 [] y_1:Op)])).length:Int))/\((0:Nat)<=(Int.toNat (wo.length:Int)))/\(((decide ((0:Int) < (wb.length:Int)))=true->((y_2.length+([(OpOf.mk 0 0 [] y_1:Op)]).length)*240<=140737488355328)/\((0:Int)<=(y_2.length:Int)/\(y_2.length:Int) < ((y_2++([(OpOf.mk 0 0 [] y_1:Op)])).length:Int))/\((0:Nat)<=(Int.toNat (y_2.length:Int)))/\(Q .normal (⟨[],[(.x 0,[.mref (.x 0 0),.nils,.nils])],[(.x 0 0,LC.mk (U:=U) .op (List.set (y_2++([(OpOf.mk 0 0 [] y_1:Op)])) (Int.toNat (y_2.length:Int)) (OpOf.mk 2 0 wb y_1:Op)) 0)]⟩:LSt U)))/\((decide ((0:Int) < (wb.length:Int)))=false->Q .normal (⟨[],[(.x 0,[.mref (.x 0 0),.nils,.nils])],[(.x 0 0,LC.mk (U:=U) .op y_2 0)]⟩:LSt U))))/\((decide ((0:Int) < (wg.length:Int)))=false->((decide ((0:Int) < (wb.length:Int)))=true->((wo.length+([(OpOf.mk 0 0 [] y_1:Op)]).length)*240<=140737488355328)/\((0:Int)<=(wo.length:Int)/\(wo.length:Int) < ((wo++([(OpOf.mk 0 0 [] y_1:Op)])).length:Int))/\((0:Nat)<=(Int.toNat (wo.length:Int)))/\(Q .normal (⟨[],[(.x 0,[.mref (.x 0 0),.nils,.nils])],[(.x 0 0,LC.mk (U:=U) .op (List.set (wo++([(OpOf.mk 0 0 [] y_1:Op)])) (Int.toNat (wo.length:Int)) (OpOf.mk 2 0 wb y_1:Op)) 0)]⟩:LSt U)))/\((decide ((0:Int) < (wb.length:Int)))=false->Q .normal (⟨[],[(.x 0,[.mref (.x 0 0),.nils,.nils])],[(.x 0 0,LC.mk (U:=U) .op wo 0)]⟩:LSt U)))):
  Zum wo wg wb Q:=by
 have e_:(Zum wo wg wb Q)=(let y_1:=(Edit.mk 0 (Tree.mk 0 [] []) (Tree.mk 0 [] []) [] [] 0 []);let y_2:=(List.set (wo++([(OpOf.mk 0 0 [] y_1:Op)])) (Int.toNat (wo.length:Int)) (OpOf.mk 1 0 wg y_1:Op));let zz0:=(decide ((0:Int) < (wb.length:Int)));(((decide ((0:Int) < (wg.length:Int)))=true->((wo.length+([(OpOf.mk 0 0 [] y_1:Op)]).length)*240<=140737488355328)/\((0:Int)<=(wo.length:Int)/\(wo.length:Int) < ((wo++([(OpOf.mk 0 0 [] y_1:Op)])).length:Int))/\((0:Nat)<=(Int.toNat (wo.length:Int)))/\((zz0=true->((y_2.length+([(OpOf.mk 0 0 [] y_1:Op)]).length)*240<=140737488355328)/\((0:Int)<=(y_2.length:Int)/\(y_2.length:Int) < ((y_2++([(OpOf.mk 0 0 [] y_1:Op)])).length:Int))/\((0:Nat)<=(Int.toNat (y_2.length:Int)))/\(Q .normal (⟨[],[(.x 0,[.mref (.x 0 0),.nils,.nils])],[(.x 0 0,LC.mk (U:=U) .op (List.set (y_2++([(OpOf.mk 0 0 [] y_1:Op)])) (Int.toNat (y_2.length:Int)) (OpOf.mk 2 0 wb y_1:Op)) 0)]⟩:LSt U)))/\(zz0=false->(Q .normal (⟨[],[(.x 0,[.mref (.x 0 0),.nils,.nils])],[(.x 0 0,LC.mk (U:=U) .op y_2 0)]⟩:LSt U)))))/\((decide ((0:Int) < (wg.length:Int)))=false->((zz0=true->((wo.length+([(OpOf.mk 0 0 [] y_1:Op)]).length)*240<=140737488355328)/\((0:Int)<=(wo.length:Int)/\(wo.length:Int) < ((wo++([(OpOf.mk 0 0 [] y_1:Op)])).length:Int))/\((0:Nat)<=(Int.toNat (wo.length:Int)))/\(Q .normal (⟨[],[(.x 0,[.mref (.x 0 0),.nils,.nils])],[(.x 0 0,LC.mk (U:=U) .op (List.set (wo++([(OpOf.mk 0 0 [] y_1:Op)])) (Int.toNat (wo.length:Int)) (OpOf.mk 2 0 wb y_1:Op)) 0)]⟩:LSt U)))/\(zz0=false->(Q .normal (⟨[],[(.x 0,[.mref (.x 0 0),.nils,.nils])],[(.x 0 0,LC.mk (U:=U) .op wo 0)]⟩:LSt U))))))):=by kernel_rfl
 exact e_.mpr (by intro y_1 y_2;have hh:=h y_1 rfl y_2 rfl;exact ⟨fun c_1=> ⟨(hh.1 c_1).1,(hh.1 c_1).2.1,(hh.1 c_1).2.2.1,⟨fun c_2=> ⟨((hh.1 c_1).2.2.2.1 c_2).1,((hh.1 c_1).2.2.2.1 c_2).2.1,((hh.1 c_1).2.2.2.1 c_2).2.2.1,((hh.1 c_1).2.2.2.1 c_2).2.2.2⟩,fun c_2=> ((hh.1 c_1).2.2.2.2 c_2)⟩⟩,fun c_1=> ⟨fun c_3=> ⟨((hh.2 c_1).1 c_3).1,((hh.2 c_1).1 c_3).2.1,((hh.2 c_1).1 c_3).2.2.1,((hh.2 c_1).1 c_3).2.2.2⟩,fun c_3=> ((hh.2 c_1).2 c_3)⟩⟩)
def Zpi(wo:List Op)(wg wb:List Tree):Prop:=AW (Z1 Zfw) Try.f129 ZlH [] (JT (Z8D.can ((wo,wg,wb,()),())) (Z8D.canX ((wo,wg,wb,()),())) (Z8D.canL ((wo,wg,wb,()),()))) (Z1O cfg Try.f129.ntmps Try.f129.results.toList (Z6Z ((wo,wg,wb,()),())) (Z41 ((wo,wg,wb,()),())) (Z42 ((wo,wg,wb,()),())))
theorem Zoe(hb:∀ (wo:List Op) (wg:List Tree) (wb:List Tree) (_:Unit),Z0u ((wo,wg,wb,()),())->Zpi wo wg wb):CT 129 Z0B:=
 Jr (l:=[]) Zj rfl trivial ZlH Try.func129 rfl rfl 1 (fun _=> rfl) (by decide) (fun ⟨⟨wo,wg,wb,_⟩,_⟩=> hb wo wg wb ())
def Zhn:List (FuncId × Fs U):=[(129,Z0B)]
def ZlI:Zc U:=fun i=> match i with
 | 0=> ([(0,[]),(1,[])],[(.x 0,[.wr .op])])
 | 1=> ([(0,[]),(1,[]),(4,[])],[(.x 0,[.wr .op])])
 | 2=> ([(0,[]),(1,[]),(4,[]),(25,[])],[(.x 0,[.wr .op])])
 | 3=> ([],[(.x 0,[.wr .op])])
 | 4=> ([],[(.x 0,[.wr .op])])
 | _=> ([],[])
abbrev Zuo(wo:List Op)(wg wb:List Tree)(n:Int)(Q:QT):=AW (Z1 Zhn) Try.f126 ZlI [] (⟨[(0,.ptr (.x 0) 0),pI 1 n],[(.x 0,[.mref (.x 0 0),sU .tree wg (.own (.x 0 1)),sU .tree wb (.own (.x 0 2))])],[(.x 0 0,LC.mk (U:=U) .op wo 0)]⟩:LSt U) Q
theorem Ztu(wo:List Op)(wg wb:List Tree)(n:Int)(Q:QT)(h:∀ y_1,y_1=(Edit.mk 0 (Tree.mk 0 [] []) (Tree.mk 0 [] []) [] [] 0 [])->∀ y_2,y_2=(Int.toNat (((((Z2 (Wst.mk wo wg wb)).out).length:Int):Int) - 1))->∀ y_3,y_3=(List.getD ((Z2 (Wst.mk wo wg wb)).out) y_2 Op.nil)->∀ y_4,y_4=(y_3.e)->(Z0u ((wo,wg,wb,()),()))/\((InR (((((Z2 (Wst.mk wo wg wb)).out).length:Int):Int) - 1))/\(((decide ((0:Int)<=(((((Z2 (Wst.mk wo wg wb)).out).length:Int):Int) - 1)))=true->(0:Int)<=(((((Z2 (Wst.mk wo wg wb)).out).length:Int):Int) - 1)/\(((((Z2 (Wst.mk wo wg wb)).out).length:Int):Int) - 1) < (((Z2 (Wst.mk wo wg wb)).out).length:Int))/\(((bif (decide ((0:Int)<=(((((Z2 (Wst.mk wo wg wb)).out).length:Int):Int) - 1))) then (y_3.kind==0) else false)=true->((0:Int)<=(((((Z2 (Wst.mk wo wg wb)).out).length:Int):Int) - 1)/\(((((Z2 (Wst.mk wo wg wb)).out).length:Int):Int) - 1) < (((Z2 (Wst.mk wo wg wb)).out).length:Int))/\(InR (y_3.n+n))/\((0:Int)<=(((((Z2 (Wst.mk wo wg wb)).out).length:Int):Int) - 1)/\(((((Z2 (Wst.mk wo wg wb)).out).length:Int):Int) - 1) < (((Z2 (Wst.mk wo wg wb)).out).length:Int))/\((0:Nat)<=y_2)/\(Q .ret (⟨[],[(.x 0,[.mref (.x 0 0),sU .tree ((Z2 (Wst.mk wo wg wb)).gone) (.own (.x 0 1)),sU .tree ((Z2 (Wst.mk wo wg wb)).brought) (.own (.x 0 2))])],[(.x 0 0,LC.mk (U:=U) .op (List.set ((Z2 (Wst.mk wo wg wb)).out) y_2 (OpOf.mk y_3.kind (y_3.n+n) y_3.l y_4:Op)) 0)]⟩:LSt U)))/\((bif (decide ((0:Int)<=(((((Z2 (Wst.mk wo wg wb)).out).length:Int):Int) - 1))) then (y_3.kind==0) else false)=false->((((Z2 (Wst.mk wo wg wb)).out).length+([(OpOf.mk 0 0 [] y_1:Op)]).length)*240<=140737488355328)/\((0:Int)<=(((Z2 (Wst.mk wo wg wb)).out).length:Int)/\(((Z2 (Wst.mk wo wg wb)).out).length:Int) < ((((Z2 (Wst.mk wo wg wb)).out)++([(OpOf.mk 0 0 [] y_1:Op)])).length:Int))/\((0:Nat)<=(Int.toNat (((Z2 (Wst.mk wo wg wb)).out).length:Int)))/\(Q .normal (⟨[],[(.x 0,[.mref (.x 0 0),sU .tree ((Z2 (Wst.mk wo wg wb)).gone) (.own (.x 0 1)),sU .tree ((Z2 (Wst.mk wo wg wb)).brought) (.own (.x 0 2))])],[(.x 0 0,LC.mk (U:=U) .op (List.set (((Z2 (Wst.mk wo wg wb)).out)++([(OpOf.mk 0 0 [] y_1:Op)])) (Int.toNat (((Z2 (Wst.mk wo wg wb)).out).length:Int)) (OpOf.mk 0 n [] y_1:Op)) 0)]⟩:LSt U))))))):
  Zuo wo wg wb n Q:=by
 have e_:(Zuo wo wg wb n Q)=(let y_1:=(Edit.mk 0 (Tree.mk 0 [] []) (Tree.mk 0 [] []) [] [] 0 []);let y_2:=(Int.toNat (((((Z2 (Wst.mk wo wg wb)).out).length:Int):Int) - 1));let y_3:=(List.getD ((Z2 (Wst.mk wo wg wb)).out) y_2 Op.nil);let y_4:=(Yw y_3.e);let zz0:=(decide ((0:Int)<=(((((Z2 (Wst.mk wo wg wb)).out).length:Int):Int) - 1)));(Z0u ((wo,wg,wb,()),()))/\((InR (((((Z2 (Wst.mk wo wg wb)).out).length:Int):Int) - 1))/\((Tr (zz0=true))/\(Tr (zz0=true))/\(Tr (zz0=true))/\(Tr (zz0=true))/\(Tr (zz0=true))/\(zz0=true->(0:Int)<=(((((Z2 (Wst.mk wo wg wb)).out).length:Int):Int) - 1)/\(((((Z2 (Wst.mk wo wg wb)).out).length:Int):Int) - 1) < (((Z2 (Wst.mk wo wg wb)).out).length:Int))/\(Tr (zz0=true))/\(Tr (zz0=true))/\(Tr (zz0=true))/\(Tr (zz0=true))/\(((bif zz0 then (y_3.kind==0) else false)=true->((0:Int)<=(((((Z2 (Wst.mk wo wg wb)).out).length:Int):Int) - 1)/\(((((Z2 (Wst.mk wo wg wb)).out).length:Int):Int) - 1) < (((Z2 (Wst.mk wo wg wb)).out).length:Int))/\(InR (y_3.n+n))/\((0:Int)<=(((((Z2 (Wst.mk wo wg wb)).out).length:Int):Int) - 1)/\(((((Z2 (Wst.mk wo wg wb)).out).length:Int):Int) - 1) < (((Z2 (Wst.mk wo wg wb)).out).length:Int))/\((0:Nat)<=y_2)/\(Q .ret (⟨[],[(.x 0,[.mref (.x 0 0),sU .tree ((Z2 (Wst.mk wo wg wb)).gone) (.own (.x 0 1)),sU .tree ((Z2 (Wst.mk wo wg wb)).brought) (.own (.x 0 2))])],[(.x 0 0,LC.mk (U:=U) .op (List.set ((Z2 (Wst.mk wo wg wb)).out) y_2 (OpOf.mk y_3.kind (y_3.n+n) y_3.l y_4:Op)) 0)]⟩:LSt U)))/\((bif zz0 then (y_3.kind==0) else false)=false->((((Z2 (Wst.mk wo wg wb)).out).length+([(OpOf.mk 0 0 [] y_1:Op)]).length)*240<=140737488355328)/\((0:Int)<=(((Z2 (Wst.mk wo wg wb)).out).length:Int)/\(((Z2 (Wst.mk wo wg wb)).out).length:Int) < ((((Z2 (Wst.mk wo wg wb)).out)++([(OpOf.mk 0 0 [] y_1:Op)])).length:Int))/\((0:Nat)<=(Int.toNat (((Z2 (Wst.mk wo wg wb)).out).length:Int)))/\(Q .normal (⟨[],[(.x 0,[.mref (.x 0 0),sU .tree ((Z2 (Wst.mk wo wg wb)).gone) (.own (.x 0 1)),sU .tree ((Z2 (Wst.mk wo wg wb)).brought) (.own (.x 0 2))])],[(.x 0 0,LC.mk (U:=U) .op (List.set (((Z2 (Wst.mk wo wg wb)).out)++([(OpOf.mk 0 0 [] y_1:Op)])) (Int.toNat (((Z2 (Wst.mk wo wg wb)).out).length:Int)) (OpOf.mk 0 n [] y_1:Op)) 0)]⟩:LSt U))))))):=by kernel_rfl
 exact e_.mpr (by intro y_1 y_2 y_3 y_4;have hh:=h y_1 rfl y_2 rfl y_3 rfl y_4 (Zf _);exact ⟨hh.1,⟨hh.2.1,⟨id,id,id,id,id,hh.2.2.1,id,id,id,(by generalize (decide ((0:Int)<=(((((Z2 (Wst.mk wo wg wb)).out).length:Int):Int) - 1)))=b0;revert b0;decide),⟨fun c_4=> ⟨(hh.2.2.2.1 c_4).1,(hh.2.2.2.1 c_4).2.1,(hh.2.2.2.1 c_4).2.2.1,(hh.2.2.2.1 c_4).2.2.2.1,(hh.2.2.2.1 c_4).2.2.2.2⟩,fun c_4=> ⟨(hh.2.2.2.2 c_4).1,(hh.2.2.2.2 c_4).2.1,(hh.2.2.2.2 c_4).2.2.1,(hh.2.2.2.2 c_4).2.2.2⟩⟩⟩⟩⟩)
def Zpk(wo:List Op)(wg wb:List Tree)(n:Int):Prop:=AW (Z1 Zhn) Try.f126 ZlI [] (JT (Z8F.can ((wo,wg,wb,()),n,())) (Z8F.canX ((wo,wg,wb,()),n,())) (Z8F.canL ((wo,wg,wb,()),n,()))) (Z1O cfg Try.f126.ntmps Try.f126.results.toList (ZeZ ((wo,wg,wb,()),n,())) (ZbW ((wo,wg,wb,()),n,())) (ZbX ((wo,wg,wb,()),n,())))
theorem Zog(Zjj:CT 129 Z0B)(hb:∀ (wo:List Op) (wg:List Tree) (wb:List Tree) (n:Int) (_:Unit),Z2F ((wo,wg,wb,()),n,())->Zpk wo wg wb n):CT 126 Z3T:=
 Jr (l:=[(129,Z0B)]) Zj rfl (⟨Zjj,trivial⟩) ZlI Try.func126 rfl rfl 2 (fun _=> rfl) (by decide) (fun ⟨⟨wo,wg,wb,_⟩,n,_⟩=> hb wo wg wb n ())
def Z8z:List (FuncId × Fs U):=[(71,Z94)]
def ZdR:Zc U:=fun i=> match i with
 | 0=> ([(0,[]),(6,[]),(7,[]),(8,[])],[(.x 0,[.wr .op])])
 | 1=> ([(0,[]),(6,[]),(7,[]),(8,[]),(9,[])],[(.x 0,[.wr .op])])
 | 2=> ([(0,[]),(5,[]),(6,[]),(7,[]),(8,[])],[(.loc 5,[]),(.x 0,[.wr .op])])
 | 3=> ([(0,[]),(6,[]),(7,[]),(8,[])],[(.x 0,[.wr .op])])
 | 4=> ([(0,[]),(6,[]),(7,[]),(8,[])],[(.x 0,[.wr .op])])
 | _=> ([],[])
def Z4e(wo:List Op)(wg wb l:List Tree)(x8:Int)(mx0_1:List Tree):LSt U:=(⟨[(0,.ptr (.x 0) 1),(6,.c (sU .tree l .unk)),pI 7 (l.length:Int),pI 8 x8],[(.x 0,[.mref (.x 0 0),sU .tree mx0_1 (.own (.x 0 1)),sU .tree wb (.own (.x 0 2))])],[(.x 0 0,LC.mk (U:=U) .op wo 0)]⟩:LSt U)
abbrev Zun(wo:List Op)(wg wb l:List Tree)(Q:QT):=AW (Z1 Z8z) Try.f127 ZdR [] (⟨[(0,.ptr (.x 0) 1),(1,.c (sU .tree l .unk))],[(.x 0,[.mref (.x 0 0),sU .tree wg (.own (.x 0 1)),sU .tree wb (.own (.x 0 2))])],[(.x 0 0,LC.mk (U:=U) .op wo 0)]⟩:LSt U) Q
theorem Ztt(wo:List Op)(wg wb l:List Tree)(Q:QT)(h:Zh (AW (Z1 Z8z) Try.f127 ZdR [1,0,0]) (Z4e wo wg wb l 0 wg) (xB 0 Q)):
  Zun wo wg wb l Q:=by
 have e_:(Zun wo wg wb l Q)=(type_of% h):=by kernel_rfl
 exact e_.mpr h
abbrev Zi5(wo:List Op)(wg wb l:List Tree)(x8:Int)(mx0_1:List Tree)(N0:NT)(Q:QT):=AW (Z1 Z8z) Try.f127 ZdR [1,0,0] (Z4e wo wg wb l x8 mx0_1) (xT N0 (xB 0 Q))
theorem ZjM(wo:List Op)(wg wb l:List Tree)(x8:Int)(mx0_1:List Tree)(N0:NT)(Q:QT)(h:((decide (x8 < (l.length:Int)))=true->((0:Int)<=x8/\x8 < (l.length:Int))/\((Z9w ((Tree.mk (Tree.kind (l.getD x8.toNat Tree.nil)) (Tree.words (l.getD x8.toNat Tree.nil)) (Tree.kids (l.getD x8.toNat Tree.nil))),()))/\((mx0_1.length+([(Tree.mk 0 [] [])]).length)*56<=140737488355328)/\((0:Int)<=(mx0_1.length:Int)/\(mx0_1.length:Int) < ((mx0_1++([(Tree.mk 0 [] [])])).length:Int))/\(mx0_1.length<=(Int.toNat (mx0_1.length:Int)))/\((InR (x8+1))/\(N0 (Z4e wo wg wb l (x8+1) (List.set (mx0_1++([(Tree.mk 0 [] [])])) (Int.toNat (mx0_1.length:Int)) (Tree.mk (Tree.kind (Z3 (Tree.mk (Tree.kind (l.getD x8.toNat Tree.nil)) (Tree.words (l.getD x8.toNat Tree.nil)) (Tree.kids (l.getD x8.toNat Tree.nil))))) (Tree.words (Z3 (Tree.mk (Tree.kind (l.getD x8.toNat Tree.nil)) (Tree.words (l.getD x8.toNat Tree.nil)) (Tree.kids (l.getD x8.toNat Tree.nil))))) (Tree.kids (Z3 (Tree.mk (Tree.kind (l.getD x8.toNat Tree.nil)) (Tree.words (l.getD x8.toNat Tree.nil)) (Tree.kids (l.getD x8.toNat Tree.nil))))))))))))/\((decide (x8 < (l.length:Int)))=false->Q .normal (⟨[(0,.ptr (.x 0) 1),(6,.c (sU .tree l .unk)),pI 7 (l.length:Int),pI 8 x8,pB 9 (decide (x8 < (l.length:Int)))],[(.x 0,[.mref (.x 0 0),sU .tree mx0_1 (.own (.x 0 1)),sU .tree wb (.own (.x 0 2))])],[(.x 0 0,LC.mk (U:=U) .op wo 0)]⟩:LSt U))):
  Zi5 wo wg wb l x8 mx0_1 N0 Q:=by
 have e_:(Zi5 wo wg wb l x8 mx0_1 N0 Q)=(type_of% h):=by kernel_rfl
 exact e_.mpr ⟨fun c_5=> ⟨(h.1 c_5).1,⟨(h.1 c_5).2.1,(h.1 c_5).2.2.1,(h.1 c_5).2.2.2.1,(h.1 c_5).2.2.2.2.1,⟨(h.1 c_5).2.2.2.2.2.1,(h.1 c_5).2.2.2.2.2.2⟩⟩⟩,fun c_5=> (h.2 c_5)⟩
def Zpj(wo:List Op)(wg wb l:List Tree):Prop:=AW (Z1 Z8z) Try.f127 ZdR [] (JT (Z8E.can ((wo,wg,wb,()),l,())) (Z8E.canX ((wo,wg,wb,()),l,())) (Z8E.canL ((wo,wg,wb,()),l,()))) (Z1O cfg Try.f127.ntmps Try.f127.results.toList (ZkJ ((wo,wg,wb,()),l,())) (ZgB ((wo,wg,wb,()),l,())) (ZgC ((wo,wg,wb,()),l,())))
theorem Zof(c71:CT 71 Z94)(hb:∀ (wo:List Op) (wg:List Tree) (wb:List Tree) (l:List Tree) (_:Unit),Z73 ((wo,wg,wb,()),l,())->Zpj wo wg wb l):CT 127 ZbI:=
 Jr (l:=[(71,Z94)]) Zj rfl (⟨c71,trivial⟩) ZdR Try.func127 rfl rfl 2 (fun _=> rfl) (by decide) (fun ⟨⟨wo,wg,wb,_⟩,l,_⟩=> hb wo wg wb l ())
def Z9Z:Zc U:=fun i=> match i with
 | 0=> ([(0,[]),(6,[]),(7,[]),(8,[])],[(.x 0,[.wr .op])])
 | 1=> ([(0,[]),(6,[]),(7,[]),(8,[]),(9,[])],[(.x 0,[.wr .op])])
 | 2=> ([(0,[]),(5,[]),(6,[]),(7,[]),(8,[])],[(.loc 5,[]),(.x 0,[.wr .op])])
 | 3=> ([(0,[]),(6,[]),(7,[]),(8,[])],[(.x 0,[.wr .op])])
 | 4=> ([(0,[]),(6,[]),(7,[]),(8,[])],[(.x 0,[.wr .op])])
 | _=> ([],[])
def Z2M(wo:List Op)(wg wb l:List Tree)(x8:Int)(mx0_2:List Tree):LSt U:=(⟨[(0,.ptr (.x 0) 2),(6,.c (sU .tree l .unk)),pI 7 (l.length:Int),pI 8 x8],[(.x 0,[.mref (.x 0 0),sU .tree wg (.own (.x 0 1)),sU .tree mx0_2 (.own (.x 0 2))])],[(.x 0 0,LC.mk (U:=U) .op wo 0)]⟩:LSt U)
abbrev Zqa(wo:List Op)(wg wb l:List Tree)(Q:QT):=AW (Z1 Z8z) Try.f127 Z9Z [] (⟨[(0,.ptr (.x 0) 2),(1,.c (sU .tree l .unk))],[(.x 0,[.mref (.x 0 0),sU .tree wg (.own (.x 0 1)),sU .tree wb (.own (.x 0 2))])],[(.x 0 0,LC.mk (U:=U) .op wo 0)]⟩:LSt U) Q
theorem Zqm(wo:List Op)(wg wb l:List Tree)(Q:QT)(h:Zh (AW (Z1 Z8z) Try.f127 Z9Z [1,0,0]) (Z2M wo wg wb l 0 wb) (xB 0 Q)):
  Zqa wo wg wb l Q:=by
 have e_:(Zqa wo wg wb l Q)=(type_of% h):=by kernel_rfl
 exact e_.mpr h
abbrev Zes(wo:List Op)(wg wb l:List Tree)(x8:Int)(mx0_2:List Tree)(N0:NT)(Q:QT):=AW (Z1 Z8z) Try.f127 Z9Z [1,0,0] (Z2M wo wg wb l x8 mx0_2) (xT N0 (xB 0 Q))
theorem Zif(wo:List Op)(wg wb l:List Tree)(x8:Int)(mx0_2:List Tree)(N0:NT)(Q:QT)(h:((decide (x8 < (l.length:Int)))=true->((0:Int)<=x8/\x8 < (l.length:Int))/\((Z9w ((Tree.mk (Tree.kind (l.getD x8.toNat Tree.nil)) (Tree.words (l.getD x8.toNat Tree.nil)) (Tree.kids (l.getD x8.toNat Tree.nil))),()))/\((mx0_2.length+([(Tree.mk 0 [] [])]).length)*56<=140737488355328)/\((0:Int)<=(mx0_2.length:Int)/\(mx0_2.length:Int) < ((mx0_2++([(Tree.mk 0 [] [])])).length:Int))/\(mx0_2.length<=(Int.toNat (mx0_2.length:Int)))/\((InR (x8+1))/\(N0 (Z2M wo wg wb l (x8+1) (List.set (mx0_2++([(Tree.mk 0 [] [])])) (Int.toNat (mx0_2.length:Int)) (Tree.mk (Tree.kind (Z3 (Tree.mk (Tree.kind (l.getD x8.toNat Tree.nil)) (Tree.words (l.getD x8.toNat Tree.nil)) (Tree.kids (l.getD x8.toNat Tree.nil))))) (Tree.words (Z3 (Tree.mk (Tree.kind (l.getD x8.toNat Tree.nil)) (Tree.words (l.getD x8.toNat Tree.nil)) (Tree.kids (l.getD x8.toNat Tree.nil))))) (Tree.kids (Z3 (Tree.mk (Tree.kind (l.getD x8.toNat Tree.nil)) (Tree.words (l.getD x8.toNat Tree.nil)) (Tree.kids (l.getD x8.toNat Tree.nil))))))))))))/\((decide (x8 < (l.length:Int)))=false->Q .normal (⟨[(0,.ptr (.x 0) 2),(6,.c (sU .tree l .unk)),pI 7 (l.length:Int),pI 8 x8,pB 9 (decide (x8 < (l.length:Int)))],[(.x 0,[.mref (.x 0 0),sU .tree wg (.own (.x 0 1)),sU .tree mx0_2 (.own (.x 0 2))])],[(.x 0 0,LC.mk (U:=U) .op wo 0)]⟩:LSt U))):
  Zes wo wg wb l x8 mx0_2 N0 Q:=by
 have e_:(Zes wo wg wb l x8 mx0_2 N0 Q)=(type_of% h):=by kernel_rfl
 exact e_.mpr ⟨fun c_6=> ⟨(h.1 c_6).1,⟨(h.1 c_6).2.1,(h.1 c_6).2.2.1,(h.1 c_6).2.2.2.1,(h.1 c_6).2.2.2.2.1,⟨(h.1 c_6).2.2.2.2.2.1,(h.1 c_6).2.2.2.2.2.2⟩⟩⟩,fun c_6=> (h.2 c_6)⟩
def Zn8(wo:List Op)(wg wb l:List Tree):Prop:=AW (Z1 Z8z) Try.f127 Z9Z [] (JT (Z6K.can ((wo,wg,wb,()),l,())) (Z6K.canX ((wo,wg,wb,()),l,())) (Z6K.canL ((wo,wg,wb,()),l,()))) (Z1O cfg Try.f127.ntmps Try.f127.results.toList (ZkJ ((wo,wg,wb,()),l,())) (Zdf ((wo,wg,wb,()),l,())) (Zdg ((wo,wg,wb,()),l,())))
theorem Zlt(c71:CT 71 Z94)(hb:∀ (wo:List Op) (wg:List Tree) (wb:List Tree) (l:List Tree) (_:Unit),Z73 ((wo,wg,wb,()),l,())->Zn8 wo wg wb l):CT 127 Z9b:=
 Jr (l:=[(71,Z94)]) Zj rfl (⟨c71,trivial⟩) Z9Z Try.func127 rfl rfl 2 (fun _=> rfl) (by decide) (fun ⟨⟨wo,wg,wb,_⟩,l,_⟩=> hb wo wg wb l ())
abbrev Zq9(list:Int)(e:Edit)(Q:QT):=AW (Z1 Zfw) Try.f128 Zlx [] (L2 [pI 0 list,(1,.agg (enc .edit e))] []) Q
theorem Zql(list:Int)(e:Edit)(Q:QT)(h:(((!(e.kind==0)) && (bif (list==9) then (e.kind==2) else false))=true->InR (((e.words.length:Int):Int)+(e.kids.length:Int)))/\(Q .ret (L2 [(4,.c (.bool (bif (e.kind==0) then true else (bif (bif (list==9) then (e.kind==2) else false) then (((((e.words.length:Int):Int)+(e.kids.length:Int)):Int)==0) else false))))] []))):
  Zq9 list e Q:=by
 have e_:(Zq9 list e Q)=(let zz1:=(!(e.kind==0));let zz0:=(bif ((list:Int)==9) then (e.kind==2) else false);((Tr (zz1=true))/\(Tr (zz1=true))/\(Tr ((zz1 && ((list:Int)==9))=true))/\(Tr ((zz1 && ((list:Int)==9))=true))/\(zz1=true->(True->zz1=true))/\(zz1=true->(((list:Int)==9)=true->(zz1 && ((list:Int)==9))=true))/\(Tr (zz1=true))/\(Tr ((zz1 && zz0)=true))/\(Tr ((zz1 && zz0)=true))/\(Tr ((zz1 && zz0)=true))/\(Tr ((zz1 && zz0)=true))/\(Tr ((zz1 && zz0)=true))/\(Tr ((zz1 && zz0)=true))/\((zz1 && zz0)=true->InR ((e.words.length:Int)+(e.kids.length:Int)))/\(Tr ((zz1 && zz0)=true))/\(zz1=true->(True->zz1=true))/\(zz1=true->(zz0=true->(zz1 && zz0)=true))/\((e.kind==0)=false->zz1=true)/\(Q .ret (L2 [(4,.c (.bool (bif (e.kind==0) then true else (bif zz0 then ((((e.words.length:Int)+(e.kids.length:Int)):Int)==0) else false))))] [])))):=by kernel_rfl
 exact e_.mpr ⟨id,id,id,id,(by generalize ((e.kind:Int)==0)=b0;revert b0;decide),(by generalize ((e.kind:Int)==0)=b0;generalize ((list:Int)==9)=b1;revert b0 b1;decide),id,id,id,id,id,id,id,h.1,id,(by generalize ((e.kind:Int)==0)=b0;revert b0;decide),(by generalize ((e.kind:Int)==2)=b0;generalize ((e.kind:Int)==0)=b1;generalize ((list:Int)==9)=b2;revert b0 b1 b2;decide),(by generalize ((e.kind:Int)==0)=b0;revert b0;decide),h.2⟩
def Zn7(list:Int)(e:Edit):Prop:=AW (Z1 Zfw) Try.f128 Zlx [] (Zg (ZhF.can (list,e,())) []) (EQ Try.f128 (ZgJ (list,e,())) [])
theorem Zls(hb:∀ (list:Int) (e:Edit) (_:Unit),Z45 (list,e,())->Zn7 list e):CT 128 Z1R:=
 Z7 (l:=[]) Zj rfl trivial Zlx Try.func128 rfl rfl 2 (fun _=> rfl) (by decide) (fun ⟨list,e,_⟩=> hb list e ())
end
theorem Z13{α:Type}(l:List α)(z x:α):(l++[z]).set (Int.toNat (l.length:Int)) x=l++[x]:=by
 rw [QZ,List.set_append_right _ _ (QF _)]
 simp
theorem Z6b:∀ (F:List Op) (n:Int),Z0x F n=if F.length≠0/\(F.getD (F.length - 1) Op.nil).kind=0 then F.set (F.length - 1) ⟨(F.getD (F.length - 1) Op.nil).kind,(F.getD (F.length - 1) Op.nil).n+n,(F.getD (F.length - 1) Op.nil).l,(F.getD (F.length - 1) Op.nil).e⟩ else F++[⟨0,n,[],Edit.nil⟩]
 | [],n=> by simp [Z0x]
 | [o],n=> by simp [Z0x]
 | o ::p ::r,n=> by
  have ih:=Z6b (p ::r) n
  have e:(o ::p ::r).length - 1=((p ::r).length - 1)+1:=by simp
  rw [Z0x,ih,e]
  simp only [XK,List.set_cons_succ]
  by_cases h:(p ::r).length≠0/\((p ::r).getD ((p ::r).length - 1) Op.nil).kind=0
  ·rw [if_pos h,if_pos ⟨by simp,h.2⟩]
  ·have h':¬((p ::r).getD ((p ::r).length - 1) Op.nil).kind=0:=fun e=> h ⟨by simp,e⟩
   rw [if_neg h,if_neg (fun e=> h' e.2)]
   try rfl
theorem Z7m(s:Wst):(Z2 s).out.length<=s.out.length+2:=by
 simp only [Z2,Jz]
 split <;> split <;> simp
theorem Z7l(s:Wst):∀ o∈(Z2 s).out,o∈s.out\/o.n=0:=by
 intro o ho
 simp only [Z2,Jz,Q9] at ho
 rcases ho with h | h | h
 ·exact .inl h
 ·split at h
  ·cases h
  ·simp only [Q7] at h;subst h;exact .inr rfl
 ·split at h
  ·cases h
  ·simp only [Q7] at h;subst h;exact .inr rfl
theorem Zjj:Contract Try.prog cfg 129 Z0B:=by
 refine Zoe ?_
 intro wo wg wb _ hp
 simp only [Z0u] at hp
 refine Zts wo wg wb _ ?_
 rintro y1 hy1 y2 hy2
 have hy:y1=Edit.nil:=hy1
 subst hy
 rw [Z13] at hy2
 subst hy2
 (simp only [vcS])
 refine ⟨fun h1=> ⟨by simp;omega,by simp;omega,by omega,fun h2=> ⟨by simp;omega,by simp;omega,by omega,?_⟩,fun h2=> ?_⟩,fun h1=> ⟨fun h2=> ⟨by simp;omega,by simp;omega,by omega,?_⟩,fun h2=> ?_⟩⟩
 ·rw [Z13]
  have e:Z2 ⟨wo,wg,wb⟩=⟨wo++[⟨1,0,wg,Edit.nil⟩]++[⟨2,0,wb,Edit.nil⟩],[],[]⟩:=by
   simp only [Z2,Jz];rw [if_neg (by omega),if_neg (by omega)];simp
  simp only [Z6Z,Z41,Z42,e]
  (repeat' (first | exact trivial | exact rfl | apply And.intro))
 ·have e:Z2 ⟨wo,wg,wb⟩=⟨wo++[⟨1,0,wg,Edit.nil⟩],[],[]⟩:=by
   simp only [Z2,Jz];rw [if_neg (by omega),if_pos (by omega)];simp
  simp only [Z6Z,Z41,Z42,e]
  (repeat' (first | exact trivial | exact rfl | apply And.intro))
 ·rw [Z13]
  have e:Z2 ⟨wo,wg,wb⟩=⟨wo++[⟨2,0,wb,Edit.nil⟩],[],[]⟩:=by
   simp only [Z2,Jz];rw [if_pos (by omega),if_neg (by omega)];simp
  simp only [Z6Z,Z41,Z42,e]
  (repeat' (first | exact trivial | exact rfl | apply And.intro))
 ·have e:Z2 ⟨wo,wg,wb⟩=⟨wo,[],[]⟩:=by
   simp only [Z2,Jz];rw [if_pos (by omega),if_pos (by omega)];simp
  simp only [Z6Z,Z41,Z42,e]
  (repeat' (first | exact trivial | exact rfl | apply And.intro))
theorem ZrZ:Contract Try.prog cfg 126 Z3T:=by
 refine Zog Zjj ?_
 intro wo wg wb n _ hp
 simp only [Z2F] at hp
 obtain ⟨p1,p2,p3,p4,p5,p6⟩:=hp
 have hfl:=Z7m ⟨wo,wg,wb⟩
 have hfm:=Z7l ⟨wo,wg,wb⟩
 have hg:(Z2 ⟨wo,wg,wb⟩).gone=[]:=rfl
 have hb:(Z2 ⟨wo,wg,wb⟩).brought=[]:=rfl
 have hk:=Z6b (Z2 ⟨wo,wg,wb⟩).out n
 have hkw:ZK ⟨wo,wg,wb⟩ n=⟨Z0x (Z2 ⟨wo,wg,wb⟩).out n,[],[]⟩:=rfl
 refine Ztu wo wg wb n _ ?_
 simp only [hg,hb,ZeZ,ZbW,ZbX,hkw]
 generalize (Z2 ⟨wo,wg,wb⟩).out=F at*
 simp only at hfl hfm
 rintro y1 hy1 y2 hy2 y3 hy3 y4 hy4
 have hy:y1=Edit.nil:=hy1
 subst hy
 have e2:y2=F.length - 1:=by omega
 subst e2
 rw [<-hy3,<-hy4] at hk
 (simp only [vcS])
 refine ⟨by simp only [Z0u];exact ⟨p1,p2,p3⟩,by unfold InR;omega,fun h=> ⟨h,by omega⟩,fun h=> ?_,fun h=> ?_⟩
 ·have hy3n:0<=y3.n/\y3.n<=100000000000000000:=by
   have hm:y3∈F:=by rw [hy3];exact Zl (by omega) _
   rcases hfm y3 hm with h1 | h1
   ·exact p4 y3 h1
   ·omega
  rw [if_pos ⟨by omega,h.2⟩] at hk
  rw [hk]
  refine ⟨by omega,by unfold InR;omega,by omega,by omega,?_⟩
  (repeat' (first | exact trivial | exact rfl | apply And.intro))
 ·rw [if_neg (by omega)] at hk
  rw [hk,Z13]
  refine ⟨by simp;omega,by simp;omega,by omega,?_⟩
  (repeat' (first | exact trivial | exact rfl | apply And.intro))
theorem Zvr:Contract Try.prog cfg 127 ZbI:=by
 refine Zof c71 ?_
 intro wo wg wb l _ hp
 simp only [Z73] at hp
 obtain ⟨p1,p2,p3,p4⟩:=hp
 have hl:=Zw l
 refine Ztt _ _ _ _ _ ?_
 refine Za (ι:=Int × List Tree) (fun s=> Z4e wo wg wb l s.1 s.2) (fun s=> 0<=s.1/\s.1<=l.length/\s.2.length=wg.length+s.1/\s.2++Z5 (l.drop s.1.toNat)=wg++Z5 l) (fun s=> ((l.length:Int) - s.1).toNat) (0,wg) rfl ⟨by simp,by simp,by simp,by simp⟩ ?_
 rintro ⟨i,out⟩ ⟨h1,h2,h3,h4⟩
 dsimp only at h1 h2 h3 h4
 refine ZjM _ _ _ _ _ _ _ _ ?_
 (simp only [vcS])
 (simp only [Tree.eta,Edit.eta,Tree.kind_mk,Tree.words_mk,Tree.kids_mk])
 refine ⟨fun hi=> ?_,fun hi=> ?_⟩
 ·have hm:=JE (Zl (l:=l) (i:=i.toNat) (by omega) Tree.nil)
  rw [Yr h1 hi Tree.nil] at h4
  simp only [Z5,QL] at h4
  rw [Z13]
  refine ⟨⟨h1,hi⟩,by simp only [Z9w];omega,by simp;omega,by simp;omega,by omega,by unfold InR;omega,(i+1,out++[Z3 (l.getD i.toNat Tree.nil)]),rfl,⟨by dsimp only;omega,by dsimp only;omega,by simp;omega,?_⟩,by dsimp only;omega⟩
  simp only [Qj,Qt,X3]
  exact h4
 ·rw [Qb (by omega)] at h4
  simp only [Z5,List.map_nil,QH] at h4
  rw [h4]
  (repeat' (first | exact trivial | exact rfl | apply And.intro))
theorem Zu9:Contract Try.prog cfg 127 Z9b:=by
 refine Zlt c71 ?_
 intro wo wg wb l _ hp
 simp only [Z73] at hp
 obtain ⟨p1,p2,p3,p4⟩:=hp
 have hl:=Zw l
 refine Zqm _ _ _ _ _ ?_
 refine Za (ι:=Int × List Tree) (fun s=> Z2M wo wg wb l s.1 s.2) (fun s=> 0<=s.1/\s.1<=l.length/\s.2.length=wb.length+s.1/\s.2++Z5 (l.drop s.1.toNat)=wb++Z5 l) (fun s=> ((l.length:Int) - s.1).toNat) (0,wb) rfl ⟨by simp,by simp,by simp,by simp⟩ ?_
 rintro ⟨i,out⟩ ⟨h1,h2,h3,h4⟩
 dsimp only at h1 h2 h3 h4
 refine Zif _ _ _ _ _ _ _ _ ?_
 (simp only [vcS])
 (simp only [Tree.eta,Edit.eta,Tree.kind_mk,Tree.words_mk,Tree.kids_mk])
 refine ⟨fun hi=> ?_,fun hi=> ?_⟩
 ·have hm:=JE (Zl (l:=l) (i:=i.toNat) (by omega) Tree.nil)
  rw [Yr h1 hi Tree.nil] at h4
  simp only [Z5,QL] at h4
  rw [Z13]
  refine ⟨⟨h1,hi⟩,by simp only [Z9w];omega,by simp;omega,by simp;omega,by omega,by unfold InR;omega,(i+1,out++[Z3 (l.getD i.toNat Tree.nil)]),rfl,⟨by dsimp only;omega,by dsimp only;omega,by simp;omega,?_⟩,by dsimp only;omega⟩
  simp only [Qj,Qt,X3]
  exact h4
 ·rw [Qb (by omega)] at h4
  simp only [Z5,List.map_nil,QH] at h4
  rw [h4]
  (repeat' (first | exact trivial | exact rfl | apply And.intro))
theorem Zmz:Contract Try.prog cfg 128 Z1R:=by
 refine Zls ?_
 intro list e _ hp
 simp only [Z45] at hp
 refine Zql _ _ _ ?_
 refine ⟨fun _=> by unfold InR;dsimp only;omega,Z0 rfl ?_⟩
 rw [Qd]
 simp only [Z4G]
 (simp only [vcS])
 omega
noncomputable def Z3a:Fs U:=ZrH ZbI Z9b
theorem Zmx:Contract Try.prog cfg 127 Z3a:=Zej Zvr Zu9
end Go.AM.Ytpjenobkibfpcaa
