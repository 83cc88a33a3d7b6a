import Derived.Test.YtfapacabjkhepaaVKG20x
import Derived.Test.YtfapacabjkhepaaVKL07
import Derived.Test.YtfapacabjkhepaaVKL21n
set_option linter.unusedSimpArgs false
set_option linter.unusedVariables false
namespace Go.AM.Ytfapacabjkhepaa
open Go.AM Go.Proofs
theorem Zgm{n:Int}(h:InR n):wr n=n:=by
 unfold InR at h
 simp [wr,IntKind.wrap,IntKind.signed,IntKind.bits]
 split <;> omega
theorem Zjh{l:List Op}{i:Int}(n:Int)(h0:0<=i)(h:i < l.length):Z1p (l.drop i.toNat) n=Z1p (l.drop (i+1).toNat) (if (l.getD i.toNat Op.nil).kind=2 then n else Zg3 (wr (n+Z17 (l.getD i.toNat Op.nil)))):=by
 rw [YB h0 h Op.nil,Z1p]
theorem Zjg{l:List Op}{i:Int}(n:Int)(h0:0<=i)(h:i < l.length):Z1E (l.drop i.toNat) n=Z1E (l.drop (i+1).toNat) (if (l.getD i.toNat Op.nil).kind=1 then n else Zg3 (wr (n+Z17 (l.getD i.toNat Op.nil)))):=by
 rw [YB h0 h Op.nil,Z1E]
theorem c75:Contract Try.prog cfg 75 Z6E:=by
 refine ZvK ?_
 intro e _ hp
 simp only [Zcu] at hp
 have h1:=Y3 e
 have h2:=ZU e.ops
 refine ZAB _ _ ?_
 refine Zb (ι:=Int × Int × Int) (fun s=> Z0s e s.1 s.2.1 s.2.2) (fun s=> (0<=s.2.2/\s.2.2<=e.ops.length)/\Z1p (e.ops.drop s.2.2.toNat) s.1=Z1p e.ops 0/\Z1E (e.ops.drop s.2.2.toNat) s.2.1=Z1E e.ops 0) (fun s=> ((e.ops.length:Int) - s.2.2).toNat) (0,0,0) rfl ⟨⟨by simp,by simp⟩,rfl,rfl⟩ ?_
 rintro ⟨n,m,i⟩ ⟨⟨g1,g2⟩,g3,g4⟩
 dsimp only at g1 g2 g3 g4
 refine ZrD _ _ _ _ _ _ ?_
 (simp only [iB,vcS])
 refine ⟨fun hi=> ⟨⟨g1,hi⟩,?_⟩,fun hi=> ?_⟩
 .rw [Zjh _ g1 hi] at g3
  rw [Zjg _ g1 hi] at g4
  have hk:IntKind.wrap .i64 (i+1)=i+1:=Zgm V4
  generalize hy:e.ops.getD i.toNat Op.nil=y at*
  have key:∀ k:Int,k=Z17 y->∀ (Q':AExit->LSt U->Prop),Zkt e n m i k (fun s2=> ∃ j:Int × Int × Int,s2=Z0s e j.1 j.2.1 j.2.2/\((0<=j.2.2/\j.2.2<=e.ops.length)/\Z1p (e.ops.drop j.2.2.toNat) j.1=Z1p e.ops 0/\Z1E (e.ops.drop j.2.2.toNat) j.2.1=Z1E e.ops 0)/\((e.ops.length:Int) - j.2.2).toNat < ((e.ops.length:Int) - i).toNat) Q':=by
   rintro k rfl Q'
   have step2:∀ a:Int,a=(if y.kind=2 then n else Zg3 (wr (n+Z17 y)))->Zks e m i (Z17 y) a (fun s2=> ∃ j:Int × Int × Int,s2=Z0s e j.1 j.2.1 j.2.2/\((0<=j.2.2/\j.2.2<=e.ops.length)/\Z1p (e.ops.drop j.2.2.toNat) j.1=Z1p e.ops 0/\Z1E (e.ops.drop j.2.2.toNat) j.2.1=Z1E e.ops 0)/\((e.ops.length:Int) - j.2.2).toNat < ((e.ops.length:Int) - i).toNat) Q':=by
    rintro a ha
    refine ZrE _ _ _ _ _ _ _ ?_
    rw [hy,hk]
    (simp only [iB,vcS])
    rw [<-ha] at g3
    refine ⟨fun hb=> ⟨(a,_,i+1),rfl,⟨⟨V3,V3⟩,g3,?_⟩,V3⟩,fun hb=> ⟨(a,_,i+1),rfl,⟨⟨V3,V3⟩,g3,?_⟩,V3⟩⟩
    .rw [if_neg hb] at g4;exact g4
    .rw [if_pos hb] at g4;exact g4
   refine ZrF _ _ _ _ _ _ _ ?_
   rw [hy]
   (simp only [iB,vcS])
   exact ⟨fun hb=> step2 _ (by rw [if_neg hb];rfl),fun hb=> step2 _ (by rw [if_pos hb])⟩
  exact ⟨fun hb=> key _ (by unfold Z17;rw [if_pos hb]) _,fun hb=> key _ (by unfold Z17;rw [if_neg hb];rfl) _⟩
 .rw [Q8 V0] at g3 g4
  simp only [Z1p,Z1E] at g3 g4
  rw [g3,g4]
  exact Y6
theorem ZhN:∀ (l:List Op) (n:Int),(∀ o∈l,(0<=o.n/\o.n<=1048576)/\o.l.length<=20000000000)->0<=n->n<=1048576->Z1p l n=Z0m l n
 | [],_,_,_,_=> rfl
 | o ::r,n,h,h0,hn=> by
  have ho:=h o (Q4 ..)
  have hl:=YX o
  have ew:Z17 o=Z5 o:=by
   unfold Z17;rw [hl]
   split
   .try rfl
   .exact Zgm V4
  have hb:0<=Z5 o/\Z5 o<=60000000000:=by rw [hl];split <;> omega
  simp only [Z1p,Z0m]
  rw [ew,Zgm V4]
  have e2:(if o.kind=2 then n else Zg3 (n+Z5 o))=min (if o.kind=2 then n else n+Z5 o) 1048576:=by
   unfold Zg3;split
   .omega
   .split <;> omega
  rw [e2]
  exact ZhN r _ (fun x hx=> h x (Q0 _ hx)) (by split <;> omega) V0
theorem ZhM:∀ (l:List Op) (n:Int),(∀ o∈l,(0<=o.n/\o.n<=1048576)/\o.l.length<=20000000000)->0<=n->n<=1048576->Z1E l n=Z0l l n
 | [],_,_,_,_=> rfl
 | o ::r,n,h,h0,hn=> by
  have ho:=h o (Q4 ..)
  have hl:=YX o
  have ew:Z17 o=Z5 o:=by
   unfold Z17;rw [hl]
   split
   .try rfl
   .exact Zgm V4
  have hb:0<=Z5 o/\Z5 o<=60000000000:=by rw [hl];split <;> omega
  simp only [Z1E,Z0l]
  rw [ew,Zgm V4]
  have e2:(if o.kind=1 then n else Zg3 (n+Z5 o))=min (if o.kind=1 then n else n+Z5 o) 1048576:=by
   unfold Zg3;split
   .omega
   .split <;> omega
  rw [e2]
  exact ZhM r _ (fun x hx=> h x (Q0 _ hx)) (by split <;> omega) V0
noncomputable section
noncomputable section
def ZqA:ArgL (List Tree × List Tree × Unit × Unit):=(.cons (aSl .tree) (.cons (aSl .tree) (.cons (aFn 44) .nil)))
def Zh8(a:List Tree × List Tree × Unit × Unit):Prop:=Zl a.1<=1000000000000/\Zl a.2.1<=1000000000000
def Zu6(a:List Tree × List Tree × Unit × Unit):V U:= .c (.bool (eqX (Z7 a.1) (Z7 a.2.1)))
def Z99:Fs U:=fs ZqA (fun a=> [Zh8 a]) Zu6
def Z31:List (FuncId × Fs U):=[(44,Z0g)]
def ZfK:Ze U:=lvl [([0,1,2],[]),([0,1,2,14],[]),([6],[]),([1,2,15,16,17],[]),([1,2,15,16,17,18],[]),([1,2,7,8,15,16,17],[8]),([1,2,8,9,15,16,17],[8,9]),([1,2,15,16,17,30],[]),([6],[]),([1,2,15,16,17],[]),([6],[])]
def Z3C(a b:List Tree)(f:Unit)(x17:Int):LSt U:=(L2 [(1,.c (sU .tree b .unk)),(2,.fn 44),(15,.c (sU .tree a .unk)),pI 16 (a.length:Int),pI 17 x17] [])
abbrev W67(a b:List Tree)(f:Unit)(Q:QT):=AW (Z2 Z31) Try.f67 ZfK [] (L2 [(0,.c (sU .tree a .unk)),(1,.c (sU .tree b .unk)),(2,.fn 44)] []) Q
abbrev Zkm:=awp cfg (Z2 Z31) (ZV cfg (Z2 Z31)) Try.f67.ntmps ZfK
abbrev ZiI:=Zcb cfg (Z2 Z31) (ZV cfg (Z2 Z31)) Try.f67.ntmps ZfK
theorem ZAJ(a b:List Tree)(f:Unit)(Q:QT)(h:((((a.length:Int):Int) !=(b.length:Int))=true->Q .ret (L2 [pB 6 false] []))/\((((a.length:Int):Int) !=(b.length:Int))=false->Zi (AW (Z2 Z31) Try.f67 ZfK [1,1,0,1,0,0]) (Z3C a b f 0) (xB 0 (SW (Z2 Z31) Try.f67 ZfK [1,1,1] Q)))):
  W67 a b f Q:=by
 have e_:(W67 a b f Q)=((((a.length:Int) !=(b.length:Int))=true->(Q .ret (L2 [pB 6 false] [])))/\(((a.length:Int) !=(b.length:Int))=false->(Zi (Zkm (cd Try.f67 [1,1,0,1,0,0])) (Z3C a b f 0) (xB 0 (ZiI (cd Try.f67 [1,1,1]) Q))))):=V5
 exact e_.mpr ⟨fun c_4=> (h.1 c_4),fun c_4=> (h.2 c_4)⟩
abbrev Zrd(a b:List Tree)(f:Unit)(x17:Int)(N0:NT)(Q:QT):=AW (Z2 Z31) Try.f67 ZfK [1,1,0,1,0,0] (Z3C a b f x17) (xT N0 (xB 0 (SW (Z2 Z31) Try.f67 ZfK [1,1,1] Q)))
theorem ZrJ(a b:List Tree)(f:Unit)(x17:Int)(N0:NT)(Q:QT)(h:((decide (x17 < (a.length:Int)))=true->((0:Int)<=x17/\x17 < (a.length:Int))/\(((0:Int)<=x17/\x17 < (b.length:Int))/\((Z4G ((Tree.mk (Tree.kind (a.getD x17.toNat Tree.nil)) (Tree.words (a.getD x17.toNat Tree.nil)) (Tree.kids (a.getD x17.toNat Tree.nil))),(Tree.mk (Tree.kind (b.getD x17.toNat Tree.nil)) (Tree.words (b.getD x17.toNat Tree.nil)) (Tree.kids (b.getD x17.toNat Tree.nil))),()))/\(((!(Yp (Z1 (Tree.mk (Tree.kind (a.getD x17.toNat Tree.nil)) (Tree.words (a.getD x17.toNat Tree.nil)) (Tree.kids (a.getD x17.toNat Tree.nil)))) (Z1 (Tree.mk (Tree.kind (b.getD x17.toNat Tree.nil)) (Tree.words (b.getD x17.toNat Tree.nil)) (Tree.kids (b.getD x17.toNat Tree.nil))))))=true->Q .ret (L2 [pB 6 false] []))/\((!(Yp (Z1 (Tree.mk (Tree.kind (a.getD x17.toNat Tree.nil)) (Tree.words (a.getD x17.toNat Tree.nil)) (Tree.kids (a.getD x17.toNat Tree.nil)))) (Z1 (Tree.mk (Tree.kind (b.getD x17.toNat Tree.nil)) (Tree.words (b.getD x17.toNat Tree.nil)) (Tree.kids (b.getD x17.toNat Tree.nil))))))=false->(InR (x17+1))/\(N0 (Z3C a b f (x17+1))))))))/\((decide (x17 < (a.length:Int)))=false->Q .ret (L2 [pB 6 true] []))):
  Zrd a b f x17 N0 Q:=by
 have e_:(Zrd a b f x17 N0 Q)=(let zz0:=(!(Yp (Z1 (Tree.mk (Tree.kind (a.getD x17.toNat Tree.nil)) (Tree.words (a.getD x17.toNat Tree.nil)) (Tree.kids (a.getD x17.toNat Tree.nil)))) (Z1 (Tree.mk (Tree.kind (b.getD x17.toNat Tree.nil)) (Tree.words (b.getD x17.toNat Tree.nil)) (Tree.kids (b.getD x17.toNat Tree.nil))))));(((decide ((x17:Int) < (a.length:Int)))=true->((0:Int)<=x17/\x17 < (a.length:Int))/\(((0:Int)<=x17/\x17 < (b.length:Int))/\((Z4G ((Tree.mk (Tree.kind (a.getD x17.toNat Tree.nil)) (Tree.words (a.getD x17.toNat Tree.nil)) (Tree.kids (a.getD x17.toNat Tree.nil))),(Tree.mk (Tree.kind (b.getD x17.toNat Tree.nil)) (Tree.words (b.getD x17.toNat Tree.nil)) (Tree.kids (b.getD x17.toNat Tree.nil))),()))/\((zz0=true->(Q .ret (L2 [pB 6 false] [])))/\(zz0=false->(InR ((x17:Int)+1))/\(N0 (Z3C a b f ((x17:Int)+1))))))))/\((decide ((x17:Int) < (a.length:Int)))=false->(Q .ret (L2 [pB 6 true] []))))):=V5
 exact e_.mpr ⟨fun c_5=> ⟨(h.1 c_5).1,⟨(h.1 c_5).2.1,⟨(h.1 c_5).2.2.1,⟨fun c_6=> ((h.1 c_5).2.2.2.1 c_6),fun c_6=> ⟨((h.1 c_5).2.2.2.2 c_6).1,((h.1 c_5).2.2.2.2 c_6).2⟩⟩⟩⟩⟩,fun c_5=> (h.2 c_5)⟩
def Zyb(a b:List Tree)(f:Unit):Prop:=AW (Z2 Z31) Try.f67 ZfK [] (Zj (ZqA.can (a,b,f,())) []) (EQ Try.f67 (Zu6 (a,b,f,())) [])
theorem ZvR(c44:CT 44 Z0g)(hb:∀ (a:List Tree) (b:List Tree) (f:Unit) (_:Unit),Zh8 (a,b,f,())->Zyb a b f):CT 67 Z99:=
 Z3 (l:=[(44,Z0g)]) Zk rfl (⟨c44,trivial⟩) ZfK Try.func67 rfl rfl 3 (fun _=> rfl) V2 (fun ⟨a,b,f,_⟩=> hb a b f ())
end
end
theorem c67:Contract Try.prog cfg 67 Z99:=by
 refine ZvR c44 ?_
 intro a b f _ hp
 simp only [Zh8] at hp
 refine ZAJ a b f _ ?_
 (simp only [iB,vcS])
 refine ⟨fun hc=> Z4 rfl (ZjS (a:=Z7 a) (b:=Z7 b) (fun h=> hc (by have:=congrArg List.length h;simp [Z7] at this;omega))).symm,fun hc=> ?_⟩
 have hl:a.length=b.length:=V0
 have hla:=Zw a
 refine Zb (ι:=Int) (fun i=> Z3C a b f i) (fun i=> 0<=i/\i<=a.length/\∀ j:Nat,(j:Int) < i->Z1 (a.getD j Tree.nil)=Z1 (b.getD j Tree.nil)) (fun i=> ((a.length:Int) - i).toNat) 0 rfl ⟨V0,V0,by intro j hj;omega⟩ ?_
 rintro i ⟨h1,h2,h3⟩
 refine ZrJ a b f _ _ _ ?_
 (simp only [iB,vcS])
 (simp only [Tree.eta,Edit.eta,Tree.kind_mk,Tree.words_mk,Tree.kids_mk])
 refine ⟨fun hi=> ⟨⟨h1,hi⟩,⟨h1,V0⟩,?_,fun hq=> ?_,fun hq=> ⟨V4,i+1,rfl,⟨V0,V0,?_⟩,V0⟩⟩,fun hi=> ?_⟩
 .have:=J5 (Zh (l:=a) (i:=i.toNat) V0 Tree.nil)
  have:=J5 (Zh (l:=b) (i:=i.toNat) V0 Tree.nil)
  simp only [Z4G];omega
 .refine Z4 rfl (ZjS (a:=Z7 a) (b:=Z7 b) (fun h=> ?_)).symm
  have h5:=Z5D (d:=Tree.nil) h i.toNat
  rw [J8] at hq
  exact hq h5
 .intro j hj
  by_cases hj2:(j:Int) < i
  .exact h3 j hj2
  .rw [Yk,show i.toNat=j by omega] at hq
   exact hq
 .exact Z4 rfl (Z1f (a:=Z7 a) (b:=Z7 b).2 (ZaG Tree.nil hl (fun j hj=> h3 j V0))).symm
noncomputable section
def Z7y(a:List Int × Unit):List Int:=a.1
def Z3d:Fs U:=fsL ZqT (fun a=> [Zhf a]) .u64 Z7y
def ZqC:ArgL (List Tree × Unit):=(.cons (aSl .tree) .nil)
def Zh9(a:List Tree × Unit):Prop:=a.1.length<=1000000000000
def Zfu(a:List Tree × Unit):List Tree:=a.1
def Z9a:Fs U:=fsL ZqC (fun a=> [Zh9 a]) .tree Zfu
def Z9W:ArgL (Edit × Tree × Unit):=(.cons (aEl .edit) (.cons (aEl .tree) .nil))
def Z3j(a:Edit × Tree × Unit):Prop:=(Zd a.1<=20000000000/\ZK a.1/\∃ d,Z0 a.1 d=true)/\Zn a.2.1+ctE a.1<=200000000000/\rng a.2.1
def ZdD(a:Edit × Tree × Unit):Nat:=2*Zd a.1+1
def Z57(a:Edit × Tree × Unit):V U:= .tup [(true,(enc .tree (Zb3 a.1 a.2.1))),(false,[.bool ((doE false a.1 a.2.1).isSome)])]
def Z9h:Fs U:=fs Z9W (fun a=> [Z3j a]) Z57
def Z7J(a:Edit × Tree × Unit):Prop:=Edit.kind a.1=2/\(Zd a.1<=20000000000/\ZK a.1/\∃ d,Z0 a.1 d=true)/\Zn a.2.1+ctE a.1<=200000000000/\rng a.2.1
def Zhx(a:Edit × Tree × Unit):Nat:=2*Zd a.1
def Z7B(a:Edit × Tree × Unit):V U:= .tup [(true,(enc .tree (Z00 (Z1X false a.1 a.2.1)))),(false,[.bool ((Z1X false a.1 a.2.1).isSome)])]
def ZnL:Fs U:=fs Z9W (fun a=> [Z7J a]) Z7B
def Z7I(a:Edit × Tree × Unit):Prop:=Edit.kind a.1=3/\(Zd a.1<=20000000000/\ZK a.1/\∃ d,Z0 a.1 d=true)/\Zn a.2.1+ctE a.1<=200000000000/\rng a.2.1
def Z7A(a:Edit × Tree × Unit):V U:= .tup [(true,(enc .tree (ZfQ a.1 (Z0j false a.1 a.2.1)))),(false,[.bool ((Z0d (Z0j false a.1 a.2.1)).isSome)])]
def ZnK:Fs U:=fs Z9W (fun a=> [Z7I a]) Z7A
def Zjc:Ze U:=lvk [([0],[]),([0,4],[]),([(2,[.wr .u64])],[]),([(2,[.wr .u64])],[])]
abbrev ZAd(p:List Nat):=AW (ZcX ZjE) Try.f40 Zjc p
theorem Zv5(l:List Int)(Q:QT)(h:(((l=[])->(Q .ret (⟨[(2,.c (.mref (.e 2 0)))],[],[(.e 2 0,LC.mk (U:=U) .u64 [] 0)]⟩:LSt U)))/\(True->((([]:List Int).length+l.length)*8<=140737488355328)/\(Q .ret (⟨[(2,.c (.mref (.e 2 0)))],[],[(.e 2 0,LC.mk (U:=U) .u64 (([]:List Int)++l) (([]:List Int).length))]⟩:LSt U))))):
  ZAd [] (L2 [(0,.c (sU .u64 l .unk))] []) Q:=
 Eq.mpr V5 h
def Zrq(l:List Int):Prop:=AW (ZcX ZjE) Try.f40 Zjc [] (Zj (ZqT.can (l,())) []) (Z38 cfg Try.f40.ntmps Try.f40.results.toList (.c (.mref (.r 0 0))) [] [(.r 0 0,LC.mk (U:=U) .u64 (Z7y (l,())) 0)])
theorem ZoP(hb:∀ (l:List Int) (_:Unit),Zhf (l,())->Zrq l):CT 40 Z3d:=
 Z5L (l:=[]) Zk rfl trivial Zjc Try.func40 rfl rfl 1 (fun _=> rfl) V2 (fun ⟨l,_⟩=> hb l ())
def ZwS:Ze U:=lvk [([0],[]),([0,4],[]),([(2,[.wr .tree])],[]),([(2,[.wr .tree])],[])]
abbrev A65(p:List Nat):=AW (ZcX ZjE) Try.f65 ZwS p
theorem ZAL(l:List Tree)(Q:QT)(h:(((l=[])->(Q .ret (⟨[(2,.c (.mref (.e 2 0)))],[],[(.e 2 0,LC.mk (U:=U) .tree [] 0)]⟩:LSt U)))/\(True->((([]:List Tree).length+l.length)*56<=140737488355328)/\(Q .ret (⟨[(2,.c (.mref (.e 2 0)))],[],[(.e 2 0,LC.mk (U:=U) .tree (([]:List Tree)++l) (([]:List Tree).length))]⟩:LSt U))))):
  A65 [] (L2 [(0,.c (sU .tree l .unk))] []) Q:=
 Eq.mpr V5 h
def Zyd(l:List Tree):Prop:=AW (ZcX ZjE) Try.f65 ZwS [] (Zj (ZqC.can (l,())) []) (Z38 cfg Try.f65.ntmps Try.f65.results.toList (.c (.mref (.r 0 0))) [] [(.r 0 0,LC.mk (U:=U) .tree (Zfu (l,())) 0)])
theorem ZvT(hb:∀ (l:List Tree) (_:Unit),Zh9 (l,())->Zyd l):CT 65 Z9a:=
 Z5L (l:=[]) Zk rfl trivial ZwS Try.func65 rfl rfl 1 (fun _=> rfl) V2 (fun ⟨l,_⟩=> hb l ())
def Z9C(N:Nat):List (FuncId × Fs U):=(26,fs Z9W (fun a=> [Z3j a,ZdD a < N]) Z57) ::(45,fs Z9W (fun a=> [Z7J a,Zhx a < N]) Z7B) ::(46,fs Z9W (fun a=> [Z7I a,Zhx a < N]) Z7A) ::[(44,Z0g),(63,Z48),(64,Z47),(67,Z99),(65,Z9a),(66,Z49),(40,Z3d)]
def Zxb:Ze U:=lvl [([2,3,4],[2,3,4]),([2,3,4,7],[2,3,4]),([2,3,4,7,8],[2,3,4]),([4,5],[4]),([2,3,4,7,11],[2,3,4]),([4,5],[4]),([2,3,4,7,19],[2,3,4]),([4,5],[4]),([2,3,4,26],[2,3,4]),([4,5],[4]),([4,5],[4])]
abbrev A26(N:Nat)(p:List Nat):=AW (Z2 (Z9C N)) Try.f26 Zxb p
theorem ZBo(N:Nat)(e:Edit)(t:Tree)(Q:QT)(h:∀ y_1,y_1=e->∀ y_2,y_2=t->∀ y_3,y_3=(e.old)->(iB (e.kind==0) ((Q .ret (L2 [pL 4,pB 5 true] [(.loc 4,(enc .tree t))]))) ((iB (e.kind==1) ((Z4G (y_3,y_2,()))/\(Q .ret (L2 [pL 4,pB 5 (Yp (Z1 y_3) (Z1 y_2))] [(.loc 4,(enc .tree e.new))]))) ((iB (e.kind==2) ((Z7J (y_1,y_2,()))/\(Zhx (y_1,y_2,()) < N)/\(Q .ret (L2 [pL 4,pB 5 ((Z1X false y_1 y_2).isSome)] [(.loc 4,(enc .tree (Z00 (Z1X false y_1 y_2))))]))) ((iB (e.kind==3) ((Z7I (y_1,y_2,()))/\(Zhx (y_1,y_2,()) < N)/\(Q .ret (L2 [pL 4,pB 5 ((Z0d (Z0j false y_1 y_2)).isSome)] [(.loc 4,(enc .tree (ZfQ y_1 (Z0j false y_1 y_2))))]))) ((Q .ret (L2 [pL 4,pB 5 false] [(.loc 4,[ci 0,.nils,.nils])]))))))))))):
  A26 N [] (L2 [(0,.agg (enc .edit e)),(1,.agg (enc .tree t))] []) Q:=
 Eq.mpr V5 (h _ (Zf _) _ (Za _) _ (Za _))
def ZyQ(N:Nat)(e:Edit)(t:Tree):Prop:=AW (Z2 (Z9C N)) Try.f26 Zxb [] (Zj (Z9W.can (e,t,())) []) (EQ Try.f26 (Z57 (e,t,())) [])
abbrev ZA3:Prop:=∀ (N:Nat) (e:Edit) (t:Tree) (_:Unit),Z3j (e,t,())->ZdD (e,t,()) < N+1->ZyQ N e t
def Zt4:Ze U:=lvk [([2,3,4],[2,3,4]),([2,3,4,16],[2,3,4]),([4,5],[4]),([2,3,4,6],[2,3,4,((.loc 6),[.any,.wr .u64,.wr .tree])]),([2,3,4,6,26,27,28],[2,3,4,((.loc 6),[.any,.wr .u64,.wr .tree])]),([2,3,4,6,26,27,28,29],[2,3,4,((.loc 6),[.any,.wr .u64,.wr .tree])]),([2,3,4,6,8,26,27,28],[2,3,4,((.loc 6),[.any,.wr .u64,.wr .tree]),8]),([2,3,4,6,8,9,26,27,28],[2,3,4,((.loc 6),[.any,.wr .u64,.wr .tree]),8]),([2,3,4,6,8,9,26,27,28,42],[2,3,4,((.loc 6),[.any,.wr .u64,.wr .tree]),8]),([4,5],[4]),([2,3,4,6,8,9,26,27,28,42,49],[2,3,4,((.loc 6),[.any,.wr .u64,.wr .tree]),8]),([2,3,4,6,8,9,26,27,28,42],[2,3,4,((.loc 6),[.any,.wr .u64,.wr .tree]),8]),([2,3,4,6,26,27,28],[2,3,4,((.loc 6),[.any,.wr .u64,.wr .tree])]),([2,3,4,6,26,27,28],[2,3,4,((.loc 6),[.any,.wr .u64,.wr .tree])]),([3,4,6,68,69,70],[3,4,((.loc 6),[.any,.wr .u64,.wr .tree])]),([3,4,6,68,69,70,71],[3,4,((.loc 6),[.any,.wr .u64,.wr .tree])]),([3,4,6,11,68,69,70],[3,4,((.loc 6),[.any,.wr .u64,.wr .tree]),11]),([3,4,6,11,12,13,68,69,70],[3,4,((.loc 6),[.any,.wr .u64,.wr .tree]),11,12]),([3,4,6,11,12,68,69,70,85],[3,4,((.loc 6),[.any,.wr .u64,.wr .tree]),11,12]),([4,5],[4]),([3,4,6,11,12,68,69,70,85,92],[3,4,((.loc 6),[.any,.wr .u64,.wr .tree]),11,12]),([3,4,6,11,12,68,69,70,85],[3,4,((.loc 6),[.any,.wr .u64,.wr .tree]),11,12]),([3,4,6,68,69,70],[3,4,((.loc 6),[.any,.wr .u64,.wr .tree])]),([3,4,6,68,69,70],[3,4,((.loc 6),[.any,.wr .u64,.wr .tree])]),([4,5],[4])]
def Z8j(e:Edit)(t:Tree)(x28:Int)(rl_6_1:List Int):LSt U:=(⟨[pL 2,pL 3,pL 4,pL 6,(26,.c (sU .wedit e.words .unk)),pI 27 (e.words.length:Int),pI 28 x28],[(.loc 2,(enc .edit e)),(.loc 3,(enc .tree t)),(.loc 4,[ci 0,.nils,.nils]),(.loc 6,[ci 1,.mref (.l 6 1),.mref (.l 6 2)])],[(.l 6 1,LC.mk (U:=U) .u64 rl_6_1 0),(.l 6 2,LC.mk (U:=U) .tree t.kids 0)]⟩:LSt U)
def Z8i(e:Edit)(t:Tree)(x28:Int)(rl_6_1_a:List Int):LSt U:=(⟨[pL 2,pL 3,pL 4,pL 6,pL 8,(9,.c (.int .u64 (Yy (Tree.mk t.kind t.words t.kids) (WEdit.at_ (e.words.getD x28.toNat (WEdit.mk 0 0 0 0)))))),(26,.c (sU .wedit e.words .unk)),pI 27 (e.words.length:Int),pI 28 x28,(42,.c (.bool (((mix 0 (Yy (Tree.mk t.kind t.words t.kids) (WEdit.at_ (e.words.getD x28.toNat (WEdit.mk 0 0 0 0)))) (WEdit.mask (e.words.getD x28.toNat (WEdit.mk 0 0 0 0)))):Int) !=(WEdit.old (e.words.getD x28.toNat (WEdit.mk 0 0 0 0))))))],[(.loc 2,(enc .edit e)),(.loc 3,(enc .tree t)),(.loc 4,[ci 0,.nils,.nils]),(.loc 6,[ci 1,.mref (.l 6 1),.mref (.l 6 2)]),(.loc 8,(enc .wedit (e.words.getD x28.toNat (WEdit.mk 0 0 0 0))))],[(.l 6 1,LC.mk (U:=U) .u64 rl_6_1_a 0),(.l 6 2,LC.mk (U:=U) .tree t.kids 0)]⟩:LSt U)
def Z8h(e:Edit)(t:Tree)(rl_6_1:List Int)(x70_b:Int)(rl_6_2_b:List Tree):LSt U:=(⟨[pL 3,pL 4,pL 6,(68,.c (sU .kid e.kids .unk)),pI 69 (e.kids.length:Int),pI 70 x70_b],[(.loc 3,(enc .tree t)),(.loc 4,[ci 0,.nils,.nils]),(.loc 6,[ci 1,.mref (.l 6 1),.mref (.l 6 2)])],[(.l 6 1,LC.mk (U:=U) .u64 rl_6_1 0),(.l 6 2,LC.mk (U:=U) .tree rl_6_2_b 0)]⟩:LSt U)
def Z8g(e:Edit)(t:Tree)(rl_6_1:List Int)(x70_b:Int)(rl_6_2_c:List Tree):LSt U:=(⟨[pL 3,pL 4,pL 6,pL 11,pL 12,(68,.c (sU .kid e.kids .unk)),pI 69 (e.kids.length:Int),pI 70 x70_b,(85,.c (.bool (!((doE false (Edit.mk (Edit.kind (KidOf.e (e.kids.getD x70_b.toNat (KidOf.mk 0 Edit.nil)))) (Tree.mk (Tree.kind (Edit.old (KidOf.e (e.kids.getD x70_b.toNat (KidOf.mk 0 Edit.nil))))) (Tree.words (Edit.old (KidOf.e (e.kids.getD x70_b.toNat (KidOf.mk 0 Edit.nil))))) (Tree.kids (Edit.old (KidOf.e (e.kids.getD x70_b.toNat (KidOf.mk 0 Edit.nil)))))) (Tree.mk (Tree.kind (Edit.new (KidOf.e (e.kids.getD x70_b.toNat (KidOf.mk 0 Edit.nil))))) (Tree.words (Edit.new (KidOf.e (e.kids.getD x70_b.toNat (KidOf.mk 0 Edit.nil))))) (Tree.kids (Edit.new (KidOf.e (e.kids.getD x70_b.toNat (KidOf.mk 0 Edit.nil)))))) (Edit.words (KidOf.e (e.kids.getD x70_b.toNat (KidOf.mk 0 Edit.nil)))) (Edit.kids (KidOf.e (e.kids.getD x70_b.toNat (KidOf.mk 0 Edit.nil)))) (Edit.list (KidOf.e (e.kids.getD x70_b.toNat (KidOf.mk 0 Edit.nil)))) (Edit.ops (KidOf.e (e.kids.getD x70_b.toNat (KidOf.mk 0 Edit.nil))))) (Tree.mk (Tree.kind (Jt (Tree.mk t.kind t.words t.kids) (KidOf.at_ (e.kids.getD x70_b.toNat (KidOf.mk 0 Edit.nil))))) (Tree.words (Jt (Tree.mk t.kind t.words t.kids) (KidOf.at_ (e.kids.getD x70_b.toNat (KidOf.mk 0 Edit.nil))))) (Tree.kids (Jt (Tree.mk t.kind t.words t.kids) (KidOf.at_ (e.kids.getD x70_b.toNat (KidOf.mk 0 Edit.nil))))))).isSome))))],[(.loc 3,(enc .tree t)),(.loc 4,[ci 0,.nils,.nils]),(.loc 6,[ci 1,.mref (.l 6 1),.mref (.l 6 2)]),(.loc 11,(enc .kid (e.kids.getD x70_b.toNat (KidOf.mk 0 Edit.nil)))),(.loc 12,(enc .tree (Zb3 (Edit.mk (Edit.kind (KidOf.e (e.kids.getD x70_b.toNat (KidOf.mk 0 Edit.nil)))) (Tree.mk (Tree.kind (Edit.old (KidOf.e (e.kids.getD x70_b.toNat (KidOf.mk 0 Edit.nil))))) (Tree.words (Edit.old (KidOf.e (e.kids.getD x70_b.toNat (KidOf.mk 0 Edit.nil))))) (Tree.kids (Edit.old (KidOf.e (e.kids.getD x70_b.toNat (KidOf.mk 0 Edit.nil)))))) (Tree.mk (Tree.kind (Edit.new (KidOf.e (e.kids.getD x70_b.toNat (KidOf.mk 0 Edit.nil))))) (Tree.words (Edit.new (KidOf.e (e.kids.getD x70_b.toNat (KidOf.mk 0 Edit.nil))))) (Tree.kids (Edit.new (KidOf.e (e.kids.getD x70_b.toNat (KidOf.mk 0 Edit.nil)))))) (Edit.words (KidOf.e (e.kids.getD x70_b.toNat (KidOf.mk 0 Edit.nil)))) (Edit.kids (KidOf.e (e.kids.getD x70_b.toNat (KidOf.mk 0 Edit.nil)))) (Edit.list (KidOf.e (e.kids.getD x70_b.toNat (KidOf.mk 0 Edit.nil)))) (Edit.ops (KidOf.e (e.kids.getD x70_b.toNat (KidOf.mk 0 Edit.nil))))) (Tree.mk (Tree.kind (Jt (Tree.mk t.kind t.words t.kids) (KidOf.at_ (e.kids.getD x70_b.toNat (KidOf.mk 0 Edit.nil))))) (Tree.words (Jt (Tree.mk t.kind t.words t.kids) (KidOf.at_ (e.kids.getD x70_b.toNat (KidOf.mk 0 Edit.nil))))) (Tree.kids (Jt (Tree.mk t.kind t.words t.kids) (KidOf.at_ (e.kids.getD x70_b.toNat (KidOf.mk 0 Edit.nil)))))))))],[(.l 6 1,LC.mk (U:=U) .u64 rl_6_1 0),(.l 6 2,LC.mk (U:=U) .tree rl_6_2_c 0)]⟩:LSt U)
abbrev A45(N:Nat)(p:List Nat):=AW (Z2 (Z9C N)) Try.f45 Zt4 p
abbrev S45(N:Nat)(p:List Nat):=SW (Z2 (Z9C N)) Try.f45 Zt4 p
theorem ZB5(N:Nat)(e:Edit)(t:Tree)(Q:QT)(h:(iB (t.kind !=1) ((Q .ret (L2 [pL 4,pB 5 false] [(.loc 4,[ci 0,.nils,.nils])]))) ((Zhf (t.words,()))/\(Zh9 (t.kids,()))/\(Zi (A45 N [1,1,1,0,1,0,0]) (Z8j e t 0 t.words) (xB 0 (S45 N [1,1,1,1] Q)))))):
  A45 N [] (L2 [(0,.agg (enc .edit e)),(1,.agg (enc .tree t))] []) Q:=
 Eq.mpr V5 h
theorem ZrV(N:Nat)(e:Edit)(t:Tree)(x28:Int)(rl_6_1:List Int)(N0:NT)(Q:QT)(h:∀ y_1,y_1=t->∀ y_2,y_2=(e.words.getD x28.toNat (WEdit.mk 0 0 0 0))->(iB (decide (x28 < (e.words.length:Int))) (((0:Int)<=x28/\x28 < (e.words.length:Int))/\((Zep (y_1,y_2.at_,()))/\((Zaq (0,(Yy y_1 y_2.at_),y_2.mask,()))/\(iB (((mix 0 (Yy y_1 y_2.at_) y_2.mask):Int) !=y_2.old) ((Q .ret (L2 [pL 4,pB 5 false] [(.loc 4,[ci 0,.nils,.nils])]))) (Zi (A45 N [1,1,1,0,1,0,0,1,1,0,0,1,1,1,0,0,0]) (Z8i e t x28 rl_6_1) (xB 2 (S45 N [1,1,1,0,1,0,0,1,1,0,0,1,1,1,1] (xB 1 (S45 N [1,1,1,0,1,0,0,1,1,1] (xT N0 (xB 0 (S45 N [1,1,1,1] Q)))))))))))) ((Zi (A45 N [1,1,1,1,0,1,0,0]) (Z8h e t rl_6_1 0 t.kids) (xB 4 (S45 N [1,1,1,1,1] Q)))))):
  A45 N [1,1,1,0,1,0,0] (Z8j e t x28 rl_6_1) (xT N0 (xB 0 (S45 N [1,1,1,1] Q))):=
 Eq.mpr V5 (h _ (Za _) _ rfl)
theorem ZrU(N:Nat)(e:Edit)(t:Tree)(x28:Int)(rl_6_1_a:List Int)(N1 N0:NT)(Q:QT)(h:let z0:=e.words.getD x28.toNat (WEdit.mk 0 0 0 0);let z1:=Yy (Tree.mk t.kind t.words t.kids) (WEdit.at_ z0);(iB (decide (((rl_6_1_a.length:Int):Int)<=(WEdit.at_ z0))) (((rl_6_1_a.length+([0]).length)*8<=140737488355328)/\(N1 (Z8i e t x28 (rl_6_1_a++([0]))))) ((Zaq (z1,(WEdit.new z0),(WEdit.mask z0),()))/\((0:Int)<=(WEdit.at_ z0)/\(WEdit.at_ z0) < (rl_6_1_a.length:Int))/\((0:Nat)<=(Int.toNat (WEdit.at_ z0)))/\((InR (x28+1))/\(N0 (Z8j e t (x28+1) (List.set rl_6_1_a (Int.toNat (WEdit.at_ z0)) (mix z1 (WEdit.new z0) (WEdit.mask z0))))))))):
  A45 N [1,1,1,0,1,0,0,1,1,0,0,1,1,1,0,0,0] (Z8i e t x28 rl_6_1_a) (xT N1 (xB 2 (S45 N [1,1,1,0,1,0,0,1,1,0,0,1,1,1,1] (xB 1 (S45 N [1,1,1,0,1,0,0,1,1,1] (xT N0 (xB 0 (S45 N [1,1,1,1] Q)))))))):=
 Eq.mpr V5 h
theorem ZrT(N:Nat)(e:Edit)(t:Tree)(rl_6_1:List Int)(x70_b:Int)(rl_6_2_b:List Tree)(N2:NT)(Q:QT)(h:∀ y_1,y_1=t->∀ y_2,y_2=(e.kids.getD x70_b.toNat (KidOf.mk 0 Edit.nil))->∀ y_3,y_3=(y_2.e)->∀ y_4,y_4=(Jt y_1 y_2.at_)->(iB (decide (x70_b < (e.kids.length:Int))) (((0:Int)<=x70_b/\x70_b < (e.kids.length:Int))/\((Zep (y_1,y_2.at_,()))/\(Z3j (y_3,y_4,()))/\(ZdD (y_3,y_4,()) < N)/\(iB (!((doE false y_3 y_4).isSome)) ((Q .ret (L2 [pL 4,pB 5 false] [(.loc 4,[ci 0,.nils,.nils])]))) (Zi (A45 N [1,1,1,1,0,1,0,0,1,1,0,0,1,1,1,0,0,0]) (Z8g e t rl_6_1 x70_b rl_6_2_b) (xB 6 (S45 N [1,1,1,1,0,1,0,0,1,1,0,0,1,1,1,1] (xB 5 (S45 N [1,1,1,1,0,1,0,0,1,1,1] (xT N2 (xB 4 (S45 N [1,1,1,1,1] Q))))))))))) ((Q .ret (L2 [pL 4,pB 5 true] [(.loc 4,[ci 1,sU .u64 rl_6_1 (.own (.l 4 1)),sU .tree rl_6_2_b (.own (.l 4 2))])]))))):
  A45 N [1,1,1,1,0,1,0,0] (Z8h e t rl_6_1 x70_b rl_6_2_b) (xT N2 (xB 4 (S45 N [1,1,1,1,1] Q))):=
 Eq.mpr V5 (h _ (Za _) _ rfl _ (Zf _) _ (Za _))
theorem ZrS(N:Nat)(e:Edit)(t:Tree)(rl_6_1:List Int)(x70_b:Int)(rl_6_2_c:List Tree)(N3 N2:NT)(Q:QT)(h:∀ y_1,y_1=t->∀ y_2,y_2=(e.kids.getD x70_b.toNat (KidOf.mk 0 Edit.nil))->∀ y_3,y_3=(y_2.e)->∀ y_4,y_4=(Jt y_1 y_2.at_)->∀ y_5,y_5=(Zb3 y_3 y_4)->(iB (decide (((rl_6_2_c.length:Int):Int)<=y_2.at_)) (((rl_6_2_c.length+([(Tree.mk 0 [] [])]).length)*56<=140737488355328)/\(N3 (Z8g e t rl_6_1 x70_b (rl_6_2_c++([(Tree.mk 0 [] [])]))))) (((0:Int)<=y_2.at_/\y_2.at_ < (rl_6_2_c.length:Int))/\((0:Nat)<=(Int.toNat y_2.at_))/\((InR (x70_b+1))/\(N2 (Z8h e t rl_6_1 (x70_b+1) (List.set rl_6_2_c (Int.toNat y_2.at_) y_5))))))):
  A45 N [1,1,1,1,0,1,0,0,1,1,0,0,1,1,1,0,0,0] (Z8g e t rl_6_1 x70_b rl_6_2_c) (xT N3 (xB 6 (S45 N [1,1,1,1,0,1,0,0,1,1,0,0,1,1,1,1] (xB 5 (S45 N [1,1,1,1,0,1,0,0,1,1,1] (xT N2 (xB 4 (S45 N [1,1,1,1,1] Q)))))))):=
 Eq.mpr V5 (h _ (Za _) _ rfl _ (Zf _) _ (Za _) _ (Za _))
def Zyx(N:Nat)(e:Edit)(t:Tree):Prop:=AW (Z2 (Z9C N)) Try.f45 Zt4 [] (Zj (Z9W.can (e,t,())) []) (EQ Try.f45 (Z7B (e,t,())) [])
abbrev ZzW:Prop:=∀ (N:Nat) (e:Edit) (t:Tree) (_:Unit),Z7J (e,t,())->Zhx (e,t,()) < N+1->Zyx N e t
def Zt3:Ze U:=lvk [([2,3,4],[2,3,4]),([2,3,4,18],[2,3,4]),([4,5],[4]),([2,3,4,6],[2,3,4,6]),([2,4,6,7],[2,4,6]),([4,6,7,26,27,28],[4,((.loc 6),[.any,.any,.own .tree])]),([4,6,7,26,27,28,29],[4,6]),([4,6,7,9,26,27,28],[4,6,9]),([4,6,7,9,10,26,27,28],[4,6,9]),([4,6,7,9,10,26,27,28,35],[4,6,9]),([4,6,7,9,10,26,27,28,35,36],[4,6,9]),([4,6,7,26,27,28,97],[4,6]),([4,6,7,9,10,26,27,28,35,44],[4,6,9]),([4,6,7,9,10,26,27,28,49],[4,6,9]),([4,6,7,9,10,26,27,28,49],[4,6,9]),([4,6,7,9,10,26,27,28,49],[4,6,9]),([4,6,7,9,10,26,27,28,54],[4,6,9]),([4,5],[4]),([4,6,7,9,10,26,27,28],[4,6,9]),([4,6,7,9,11,26,27,28],[4,6,9]),([4,6,7,12,13,26,27,28],[4,6,12]),([4,6,7,12,26,27,28,72],[4,6,12]),([4,5],[4]),([4,6,7,26,27,28,97],[4,6]),([4,6,7,9,11,26,27,28,80],[4,6,9]),([4,6,7,26,27,28,97],[4,6]),([4,6,7,9,11,26,27,28,89],[4,6,9]),([4,6,7,26,27,28,97],[4,6]),([4,5],[4]),([4,6,7,26,27,28],[4,((.loc 6),[.any,.any,.own .tree])]),([4,5],[4])]
def Z2j(e:Edit)(t:Tree)(x28:Int)(x7 ml6_2:List Tree):LSt U:=(L2 [pL 4,pL 6,(7,.c (sU .tree x7 .unk)),(26,.c (sU .op e.ops .unk)),pI 27 (e.ops.length:Int),pI 28 x28] [(.loc 4,[ci 0,.nils,.nils]),(.loc 6,[ci t.kind,.nils,sU .tree ml6_2 (.own (.l 6 2))])])
def Z3H(e:Edit)(t:Tree)(x28:Int)(x7_a ml6_2_a:List Tree)(v97_a:V U):LSt U:=(L2 [pL 4,pL 6,(7,.c (sU .tree x7_a .unk)),(26,.c (sU .op e.ops .unk)),pI 27 (e.ops.length:Int),pI 28 x28,(97,v97_a)] [(.loc 4,[ci 0,.nils,.nils]),(.loc 6,[ci t.kind,.nils,sU .tree ml6_2_a (.own (.l 6 2))])])
def Z8f(e:Edit)(t:Tree)(x28:Int)(x7 ml6_2:List Tree)(x10_b:Int)(v49_b:V U):LSt U:=(L2 [pL 4,pL 6,(7,.c (sU .tree x7 .unk)),pL 9,pI 10 x10_b,(26,.c (sU .op e.ops .unk)),pI 27 (e.ops.length:Int),pI 28 x28,(49,v49_b)] [(.loc 4,[ci 0,.nils,.nils]),(.loc 6,[ci t.kind,.nils,sU .tree ml6_2 (.own (.l 6 2))]),(.loc 9,(enc .op (e.ops.getD x28.toNat Op.nil)))])
abbrev A46(N:Nat)(p:List Nat):=AW (Z2 (Z9C N)) Try.f46 Zt3 p
abbrev S46(N:Nat)(p:List Nat):=SW (Z2 (Z9C N)) Try.f46 Zt3 p
theorem ZB4(N:Nat)(e:Edit)(t:Tree)(Q:QT)(h:(iB (t.kind !=e.list) ((Q .ret (L2 [pL 4,pB 5 false] [(.loc 4,[ci 0,.nils,.nils])]))) ((Zi (A46 N [1,1,1,1,0,1,0,0]) (Z2j e t 0 t.kids []) (xB 0 (S46 N [1,1,1,1,1] Q)))))):
  A46 N [] (L2 [(0,.agg (enc .edit e)),(1,.agg (enc .tree t))] []) Q:=
 Eq.mpr V5 h
theorem ZrQ(N:Nat)(e:Edit)(t:Tree)(x28:Int)(x7 ml6_2:List Tree)(N0:NT)(Q:QT)(h:∀ y_1,y_1=(e.ops.getD x28.toNat Op.nil)->let z1:=xT N0 (xB 0 (S46 N [1,1,1,1,1] Q));let z0:=xB 1 (S46 N [1,1,1,1,0,1,0,0,1,1,1] z1);(iB (decide (x28 < (e.ops.length:Int))) (((0:Int)<=x28/\x28 < (e.ops.length:Int))/\(iB (y_1.kind==2) (((ml6_2.length+y_1.l.length)*56<=140737488355328)/\(A46 N [1,1,1,1,0,1,0,0,1,1,1] (Z3H e t x28 x7 (ml6_2++y_1.l) .junk) z1)) ((iB (y_1.kind==1) ((A46 N [1,1,1,1,0,1,0,0,1,1,0,0,1,1,1] (Z8f e t x28 x7 ml6_2 (y_1.l.length:Int) .junk) z0)) ((iB (y_1.kind==3) ((A46 N [1,1,1,1,0,1,0,0,1,1,0,0,1,1,1] (Z8f e t x28 x7 ml6_2 1 (.c (.bool (y_1.kind==3)))) z0)) (A46 N [1,1,1,1,0,1,0,0,1,1,0,0,1,1,1] (Z8f e t x28 x7 ml6_2 y_1.n (.c (.bool (y_1.kind==3)))) z0))))))) ((Q .ret (L2 [pL 4,pB 5 (((x7.length:Int):Int)==0)] [(.loc 4,[ci t.kind,.nils,sU .tree ml6_2 (.own (.l 4 2))])]))))):
  A46 N [1,1,1,1,0,1,0,0] (Z2j e t x28 x7 ml6_2) (xT N0 (xB 0 (S46 N [1,1,1,1,1] Q))):=
 Eq.mpr V5 (h _ rfl)
theorem ZrR(N:Nat)(e:Edit)(t:Tree)(x28:Int)(x7_a ml6_2_a:List Tree)(v97_a:V U)(N0:NT)(Q:QT)(h:(InR (x28+1))/\(N0 (Z2j e t (x28+1) x7_a ml6_2_a))):
  A46 N [1,1,1,1,0,1,0,0,1,1,1] (Z3H e t x28 x7_a ml6_2_a v97_a) (xT N0 (xB 0 (S46 N [1,1,1,1,1] Q))):=
 Eq.mpr V5 h
theorem Zf4(N:Nat)(e:Edit)(t:Tree)(x28:Int)(x7 ml6_2:List Tree)(x10_b:Int)(v49_b:V U)(N0:NT)(Q:QT)(h:∀ y_1,y_1=(e.ops.getD x28.toNat Op.nil)->∀ y_2,y_2=(List.getD (List.take x10_b.toNat x7) (Int.toNat 0) Tree.nil)->∀ y_3,y_3=y_2->∀ y_4,y_4=(y_1.e)->∀ y_5,y_5=(eqX (Z7 y_1.l) (Z7 (List.take x10_b.toNat x7)))->∀ y_6,y_6=(Zb3 y_4 y_3)->let z3:=List.drop x10_b.toNat x7;let z2:=List.take x10_b.toNat x7;let z1:=xT N0 (xB 0 (S46 N [1,1,1,1,1] Q));let z0:=(Q .ret (L2 [pL 4,pB 5 false] [(.loc 4,[ci 0,.nils,.nils])]));(iB (decide (((x7.length:Int):Int) < x10_b)) z0 ((((0:Int)<=x10_b/\x10_b<=(x7.length:Int))/\((0:Int)<=x10_b/\x10_b<=(x7.length:Int))/\(iB (y_1.kind==0) (((ml6_2.length+z2.length)*56<=140737488355328)/\(A46 N [1,1,1,1,0,1,0,0,1,1,1] (Z3H e t x28 z3 (ml6_2++z2) .junk) z1)) ((iB (y_1.kind==1) ((Zh8 (y_1.l,z2,(),()))/\(iB (!y_5) z0 (A46 N [1,1,1,1,0,1,0,0,1,1,1] (Z3H e t x28 z3 ml6_2 (.c (.bool (!y_5)))) z1))) (((0:Int)<=0/\0 < (z2.length:Int))/\(Z3j (y_4,y_3,()))/\(ZdD (y_4,y_3,()) < N)/\(iB (!((doE false y_4 y_3).isSome)) z0 (((ml6_2.length+([y_6]).length)*56<=140737488355328)/\(A46 N [1,1,1,1,0,1,0,0,1,1,1] (Z3H e t x28 z3 (ml6_2++([y_6])) .junk) z1))))))))))):
  A46 N [1,1,1,1,0,1,0,0,1,1,0,0,1,1,1] (Z8f e t x28 x7 ml6_2 x10_b v49_b) (xB 1 (S46 N [1,1,1,1,0,1,0,0,1,1,1] (xT N0 (xB 0 (S46 N [1,1,1,1,1] Q))))):=
 Eq.mpr V5 (h _ rfl _ rfl _ (Za _) _ (Zf _) _ rfl _ (Za _))
def Zyw(N:Nat)(e:Edit)(t:Tree):Prop:=AW (Z2 (Z9C N)) Try.f46 Zt3 [] (Zj (Z9W.can (e,t,())) []) (EQ Try.f46 (Z7A (e,t,())) [])
abbrev ZzV:Prop:=∀ (N:Nat) (e:Edit) (t:Tree) (_:Unit),Z7I (e,t,())->Zhx (e,t,()) < N+1->Zyw N e t
theorem ZsP(c44:CT 44 Z0g)(c63:CT 63 Z48)(c64:CT 64 Z47)(c67:CT 67 Z99)(c65:CT 65 Z9a)(c66:CT 66 Z49)(Zqf:CT 40 Z3d)(b26:ZA3)(b45:ZzW)(b46:ZzV):
  CT 26 Z9h/\CT 45 ZnL/\CT 46 ZnK:=by
 have h82 : ∃ fn, Try.prog.funcs[(26 : FuncId)]? = some fn ∧ fn.body.isSome = true ∧ (fn.name == "runtime.NumGoroutine") = false := ⟨Try.f26, Try.func26, rfl, rfl⟩
 have h113 : ∃ fn, Try.prog.funcs[(45 : FuncId)]? = some fn ∧ fn.body.isSome = true ∧ (fn.name == "runtime.NumGoroutine") = false := ⟨Try.f45, Try.func45, rfl, rfl⟩
 have h114 : ∃ fn, Try.prog.funcs[(46 : FuncId)]? = some fn ∧ fn.body.isSome = true ∧ (fn.name == "runtime.NumGoroutine") = false := ⟨Try.f46, Try.func46, rfl, rfl⟩
 have key:∀ N,CT 26 (fs Z9W (fun a=> [Z3j a,ZdD a < N]) Z57)/\CT 45 (fs Z9W (fun a=> [Z7J a,Zhx a < N]) Z7B)/\CT 46 (fs Z9W (fun a=> [Z7I a,Zhx a < N]) Z7A):=by
  intro N
  induction N with
  | zero=> exact ⟨J1 h82,J1 h113,J1 h114⟩
  | succ N ih=>
   have kn:=Z0b (l:=Z9C N) ⟨ih.1,ih.2.1,ih.2.2,c44,c63,c64,c67,c65,c66,Zqf,trivial⟩
   exact ⟨ZB (Γ:=Z2 (Z9C N)) Zk rfl kn Zxb Try.func26 rfl rfl (fun a=> by show 2<=_;decide) (fun ⟨e,t,_⟩ h=> b26 N e t () h.1 h.2.1),
    ZB (Γ:=Z2 (Z9C N)) Zk rfl kn Zt4 Try.func45 rfl rfl (fun a=> by show 2<=_;decide) (fun ⟨e,t,_⟩ h=> b45 N e t () h.1 h.2.1),
    ZB (Γ:=Z2 (Z9C N)) Zk rfl kn Zt3 Try.func46 rfl rfl (fun a=> by show 2<=_;decide) (fun ⟨e,t,_⟩ h=> b46 N e t () h.1 h.2.1)⟩
 exact ⟨J2 h82 fun N=> (key N).1,J2 h113 fun N=> (key N).2.1,J2 h114 fun N=> (key N).2.2⟩
end
noncomputable section
def ZkZ(a:Edit × Tree × Unit):V U:= .tup [(true,(enc .tree (Z00 ((doE false a.1 a.2.1).map Z1)))),(false,[.bool ((doE false a.1 a.2.1).isSome)])]
def Z0z:Fs U:=fs Z9W (fun a=> [Z3j a]) ZkZ
def Zhd(a:Tree × Int × Unit):Prop:=0<=a.2.1
def Z9d:Fs U:=fs ZqE (fun a=> [Zhd a]) ZkS
def Z9c:Fs U:=fs ZqE (fun a=> [Zhd a]) ZkR
def Z6h(a:Edit × Tree × Unit):V U:= .tup [(true,(enc .tree (Z00 (doE true a.1 a.2.1)))),(false,[.bool ((doE true a.1 a.2.1).isSome)])]
def Z9i:Fs U:=fs Z9W (fun a=> [Z3j a]) Z6h
def Z6g(a:Edit × Tree × Unit):V U:= .tup [(true,(enc .tree (Z00 (Z1X true a.1 a.2.1)))),(false,[.bool ((Z1X true a.1 a.2.1).isSome)])]
def ZnN:Fs U:=fs Z9W (fun a=> [Z7J a]) Z6g
def Z7C(a:Edit × Tree × Unit):V U:= .tup [(true,(enc .tree (ZfQ a.1 (Z0j true a.1 a.2.1)))),(false,[.bool ((Z0d (Z0j true a.1 a.2.1)).isSome)])]
def ZnM:Fs U:=fs Z9W (fun a=> [Z7I a]) Z7C
def ZpO:List (FuncId × Fs U):=[(22,Z1y),(26,Z9h)]
def Zxh:Ze U:=lvl [([2,3,4],[2,3,4]),([4,6,7],[4,6]),([4,6,15],[4,6]),([4,5],[4]),([4,5],[4])]
abbrev A12(p:List Nat):=AW (Z2 ZpO) Try.f12 Zxh p
theorem ZBC(e:Edit)(t:Tree)(Q:QT)(h:∀ y_1,y_1=e->∀ y_2,y_2=t->∀ y_3,y_3=(Zb3 y_1 y_2)->((Z3j (y_1,y_2,()))/\(iB (!((doE false y_1 y_2).isSome)) ((Q .ret (L2 [pL 4,pB 5 false] [(.loc 4,[ci 0,.nils,.nils])]))) ((Z0P (y_3,()))/\(Q .ret (L2 [pL 4,pB 5 true] [(.loc 4,(enc .tree (Z1 y_3)))])))))):
  A12 [] (L2 [(0,.agg (enc .edit e)),(1,.agg (enc .tree t))] []) Q:=
 Eq.mpr V5 (h _ (Zf _) _ (Za _) _ (Za _))
def Zz4(e:Edit)(t:Tree):Prop:=AW (Z2 ZpO) Try.f12 Zxh [] (Zj (Z9W.can (e,t,())) []) (EQ Try.f12 (ZkZ (e,t,())) [])
theorem Zwu(c22:CT 22 Z1y)(c26:CT 26 Z9h)(hb:∀ (e:Edit) (t:Tree) (_:Unit),Z3j (e,t,())->Zz4 e t):CT 12 Z0z:=
 Z3 (l:=[(22,Z1y),(26,Z9h)]) Zk rfl (⟨c22,c26,trivial⟩) Zxh Try.func12 rfl rfl 2 (fun _=> rfl) V2 (fun ⟨e,t,_⟩=> hb e t ())
def Zx2:Ze U:=lvl [([1,2],[2]),([1,2,9],[2]),([4],[]),([4],[])]
abbrev A50(p:List Nat):=AW (Z2 ZjE) Try.f50 Zx2 p
theorem ZB0(t:Tree)(i:Int)(Q:QT)(h:(iB (decide (i < (t.words.length:Int))) (((0:Int)<=i/\i < (t.words.length:Int))/\(Q .ret (L2 [(4,.c (.int .u64 (t.words.getD i.toNat (0:Int))))] []))) ((Q .ret (L2 [(4,.c (.int .u64 0))] []))))):
  A50 [] (L2 [(0,.agg (enc .tree t)),pI 1 i] []) Q:=
 Eq.mpr V5 h
def Zys(t:Tree)(i:Int):Prop:=AW (Z2 ZjE) Try.f50 Zx2 [] (Zj (ZqE.can (t,i,())) []) (EQ Try.f50 (ZkS (t,i,())) [])
theorem Zw3(hb:∀ (t:Tree) (i:Int) (_:Unit),Zhd (t,i,())->Zys t i):CT 50 Z9d:=
 Z3 (l:=[]) Zk rfl trivial Zx2 Try.func50 rfl rfl 2 (fun _=> rfl) V2 (fun ⟨t,i,_⟩=> hb t i ())
def Zx1:Ze U:=lvl [([1,2,4],[2,4]),([1,2,4,9],[2,4]),([4],[4]),([4],[4])]
abbrev A51(p:List Nat):=AW (Z2 ZjE) Try.f51 Zx1 p
theorem ZAZ(t:Tree)(i:Int)(Q:QT)(h:(iB (decide (i < (t.kids.length:Int))) (((0:Int)<=i/\i < (t.kids.length:Int))/\(Q .ret (L2 [pL 4] [(.loc 4,(enc .tree (t.kids.getD i.toNat Tree.nil)))]))) ((Q .ret (L2 [pL 4] [(.loc 4,[ci 0,.nils,.nils])]))))):
  A51 [] (L2 [(0,.agg (enc .tree t)),pI 1 i] []) Q:=
 Eq.mpr V5 h
def Zyr(t:Tree)(i:Int):Prop:=AW (Z2 ZjE) Try.f51 Zx1 [] (Zj (ZqE.can (t,i,())) []) (EQ Try.f51 (ZkR (t,i,())) [])
theorem Zw2(hb:∀ (t:Tree) (i:Int) (_:Unit),Zhd (t,i,())->Zyr t i):CT 51 Z9c:=
 Z3 (l:=[]) Zk rfl trivial Zx1 Try.func51 rfl rfl 2 (fun _=> rfl) V2 (fun ⟨t,i,_⟩=> hb t i ())
def Z9D(N:Nat):List (FuncId × Fs U):=(19,fs Z9W (fun a=> [Z3j a,ZdD a < N]) Z6h) ::(36,fs Z9W (fun a=> [Z7J a,Zhx a < N]) Z6g) ::(37,fs Z9W (fun a=> [Z7I a,Zhx a < N]) Z7C) ::[(18,Z1y),(35,Z0g),(50,Z9d),(47,Z49),(51,Z9c)]
def Zxf:Ze U:=lvl [([2,3,4],[2,3,4]),([2,3,4,6],[2,3,4,6]),([2,3,4,6,10],[2,3,4,6]),([4,6,7],[4,6]),([2,3,4,6,10,11],[2,3,4,6]),([4,6,7],[4,6]),([2,3,4,6,10,13],[2,3,4,6]),([2,3,4,6],[2,3,4,6]),([4,6,7],[4,6]),([2,3,4,6,10,21],[2,3,4,6]),([4,6,7],[4,6]),([2,3,4,6,29],[2,3,4,6]),([4,6,7],[4,6]),([4,6,38],[4,6]),([4,5],[4]),([4,5],[4])]
abbrev A19(N:Nat)(p:List Nat):=AW (Z2 (Z9D N)) Try.f19 Zxf p
theorem ZBv(N:Nat)(e:Edit)(t:Tree)(Q:QT)(h:∀ y_1,y_1=e->∀ y_2,y_2=t->∀ y_3,y_3=(e.new)->∀ y_4,y_4=(e.old)->∀ y_5,y_5=(Z00 (Z1X true y_1 y_2))->∀ y_6,y_6=(ZfQ y_1 (Z0j true y_1 y_2))->let z1:=Q .ret (L2 [pL 4,pB 5 true] [(.loc 4,(enc .tree (Z1 y_2)))]);let z0:=(Q .ret (L2 [pL 4,pB 5 false] [(.loc 4,[ci 0,.nils,.nils])]));(iB (e.kind==0) ((iB (!true) z0 ((Z0P (y_2,()))/\z1))) ((iB (e.kind==1) (((Z4G (y_4,y_2,()))/\(iB (!(Yp (Z1 y_4) (Z1 y_2))) z0 ((Z0P (y_3,()))/\(Q .ret (L2 [pL 4,pB 5 true] [(.loc 4,(enc .tree (Z1 y_3)))])))))) ((iB (e.kind==2) ((Z7J (y_1,y_2,()))/\(Zhx (y_1,y_2,()) < N)/\(iB (!((Z1X true y_1 y_2).isSome)) z0 ((Z0P (y_5,()))/\(Q .ret (L2 [pL 4,pB 5 true] [(.loc 4,(enc .tree (Z1 y_5)))]))))) ((iB (e.kind==3) ((Z7I (y_1,y_2,()))/\(Zhx (y_1,y_2,()) < N)/\(iB (!((Z0d (Z0j true y_1 y_2)).isSome)) z0 ((Z0P (y_6,()))/\(Q .ret (L2 [pL 4,pB 5 true] [(.loc 4,(enc .tree (Z1 y_6)))]))))) ((iB (!false) z0 ((Z0P (y_2,()))/\z1))))))))))):
  A19 N [] (L2 [(0,.agg (enc .edit e)),(1,.agg (enc .tree t))] []) Q:=
 Eq.mpr V5 (h _ (Zf _) _ (Za _) _ (Za _) _ (Za _) _ (Za _) _ (Za _))
def ZyX(N:Nat)(e:Edit)(t:Tree):Prop:=AW (Z2 (Z9D N)) Try.f19 Zxf [] (Zj (Z9W.can (e,t,())) []) (EQ Try.f19 (Z6h (e,t,())) [])
abbrev ZA4:Prop:=∀ (N:Nat) (e:Edit) (t:Tree) (_:Unit),Z3j (e,t,())->ZdD (e,t,()) < N+1->ZyX N e t
def Zt7:Ze U:=lvk [([2,3,4],[2,3,4]),([2,3,4,21],[2,3,4]),([4,5],[4]),([2,3,4,6],[2,3,4,6]),([2,3,4,6,7,8],[2,3,4,6]),([2,3,4,6,7,8,9],[2,3,4,6]),([2,3,4,6,7,8,9,45],[2,3,4,6]),([2,3,4,6,7,8],[2,3,4,6]),([2,3,4,6,7,8,10],[2,3,4,6]),([2,3,4,6,7,8,10,69],[2,3,4,6]),([2,3,4,6,7,8],[2,3,4,6]),([2,3,4,6,7,8,11],[2,3,4,6]),([2,3,4,6,7,8,11,12],[2,3,4,((.loc 6),[.any,.own .u64])]),([2,3,4,6,7,8,11,12,80],[2,3,4,6]),([2,3,4,6,7,8,11,12],[2,3,4,((.loc 6),[.any,.own .u64])]),([2,3,4,6,7,8,11,12,13],[2,3,4,6]),([2,3,4,6,7,8,11,12,13,100],[2,3,4,6]),([2,3,4,6,7,8,11,12,13,14],[2,3,4,6,14]),([2,3,4,6,7,8,11,12,13,14,112],[2,3,4,6,14]),([4,5],[4]),([2,3,4,6,7,8,11,12,13],[2,3,4,6]),([2,3,4,6,7,8,11,12,13],[2,3,4,6]),([2,3,4,6,7,8,11,12],[2,3,4,6]),([2,3,4,6,8,11],[2,3,4,6]),([2,3,4,6,8,11,15],[2,3,4,((.loc 6),[.any,.any,.own .tree])]),([2,3,4,6,8,11,15,130],[2,3,4,6]),([2,3,4,6,8,11,15],[2,3,4,((.loc 6),[.any,.any,.own .tree])]),([2,3,4,6,8,11,15,16],[2,3,4,6,16]),([2,3,4,6,8,11,15,16,150],[2,3,4,6,16]),([2,3,4,6,8,11,15,16,17,18],[2,3,4,6,16,17]),([2,3,4,6,8,11,15,16,17,163],[2,3,4,6,16,17]),([4,5],[4]),([2,3,4,6,8,11,15,16],[2,3,4,6,16]),([2,3,4,6,8,11,15,16],[2,3,4,6,16]),([2,3,4,6,8,11,15],[2,3,4,6]),([4,5],[4])]
def Z0U(e:Edit)(t:Tree)(x8 x7 x11 x12:Int)(ml6_1:List Int):LSt U:=(L2 [pL 2,pL 3,pL 4,pL 6,pI 7 x7,pI 8 x8,pI 11 x11,pI 12 x12] [(.loc 2,(enc .edit e)),(.loc 3,(enc .tree t)),(.loc 4,[ci 0,.nils,.nils]),(.loc 6,[ci 1,sU .u64 ml6_1 (.own (.l 6 1)),.nils])])
def Z5z(e:Edit)(t:Tree)(x8:Int)(ml6_1:List Int)(x11_a x15_a:Int)(ml6_2_a:List Tree):LSt U:=(L2 [pL 2,pL 3,pL 4,pL 6,pI 8 x8,pI 11 x11_a,pI 15 x15_a] [(.loc 2,(enc .edit e)),(.loc 3,(enc .tree t)),(.loc 4,[ci 0,.nils,.nils]),(.loc 6,[ci 1,sU .u64 ml6_1 (.own (.l 6 1)),sU .tree ml6_2_a (.own (.l 6 2))])])
abbrev A36(N:Nat)(p:List Nat):=AW (Z2 (Z9D N)) Try.f36 Zt7 p
abbrev S36(N:Nat)(p:List Nat):=SW (Z2 (Z9D N)) Try.f36 Zt7 p
theorem ZBe(N:Nat)(e:Edit)(t:Tree)(Q:QT)(h:∀ y_1,y_1=(List.getD e.words (Int.toNat (((e.words.length:Int):Int) - 1)) (WEdit.mk 0 0 0 0))->∀ y_2,y_2=(List.getD e.kids (Int.toNat (((e.kids.length:Int):Int) - 1)) (KidOf.mk 0 Edit.nil))->let z5:=InR (((e.kids.length:Int):Int) - 1);let z3:=xB 0 (S36 N [1,1,1,1,1,1,1,1] Q);let z2:=A36 N [1,1,1,1,1,1,1,0,1,0,0];let z1:=decide ((0:Int) < (e.words.length:Int));let z0:=decide ((0:Int) < (e.kids.length:Int));let z4:=bif z0 then (decide (((t.kids.length:Int):Int)<=y_2.at_)) else false;(iB (t.kind !=1) ((Q .ret (L2 [pL 4,pB 5 false] [(.loc 4,[ci 0,.nils,.nils])]))) (((Tt z1)/\(Tt z1)/\(z1=true->InR (((e.words.length:Int):Int) - 1))/\(Tt z1)/\(Tt z1)/\(z1=true->(0:Int)<=(((e.words.length:Int):Int) - 1)/\(((e.words.length:Int):Int) - 1) < (e.words.length:Int))/\(Tt z1)/\(Tt z1)/\(Tt z1)/\(Tt z1)/\(Tt z1)/\(iB (bif z1 then (decide (((t.words.length:Int):Int)<=y_1.at_)) else false) ((InR (((e.words.length:Int):Int) - 1))/\((0:Int)<=(((e.words.length:Int):Int) - 1)/\(((e.words.length:Int):Int) - 1) < (e.words.length:Int))/\(InR (y_1.at_+1))/\((Tt z0)/\(Tt z0)/\(z0=true->InR (((e.kids.length:Int):Int) - 1))/\(Tt z0)/\(Tt z0)/\(z0=true->(0:Int)<=(((e.kids.length:Int):Int) - 1)/\(((e.kids.length:Int):Int) - 1) < (e.kids.length:Int))/\(Tt z0)/\(Tt z0)/\(Tt z0)/\(Tt z0)/\(Tt z0)/\(iB z4 (z5/\((0:Int)<=(((e.kids.length:Int):Int) - 1)/\(((e.kids.length:Int):Int) - 1) < (e.kids.length:Int))/\(InR (y_2.at_+1))/\(Zi z2 (Z0U e t (y_2.at_+1) (y_1.at_+1) 0 0 []) z3)) ((Zi z2 (Z0U e t (t.kids.length:Int) (y_1.at_+1) 0 0 []) z3))))) (((Tt z0)/\(Tt z0)/\(z0=true->InR (((e.kids.length:Int):Int) - 1))/\(Tt z0)/\(Tt z0)/\(z0=true->(0:Int)<=(((e.kids.length:Int):Int) - 1)/\(((e.kids.length:Int):Int) - 1) < (e.kids.length:Int))/\(Tt z0)/\(Tt z0)/\(Tt z0)/\(Tt z0)/\(Tt z0)/\(iB z4 (z5/\((0:Int)<=(((e.kids.length:Int):Int) - 1)/\(((e.kids.length:Int):Int) - 1) < (e.kids.length:Int))/\(InR (y_2.at_+1))/\(Zi z2 (Z0U e t (y_2.at_+1) (t.words.length:Int) 0 0 []) z3)) ((Zi z2 (Z0U e t (t.kids.length:Int) (t.words.length:Int) 0 0 []) z3)))))))))):
  A36 N [] (L2 [(0,.agg (enc .edit e)),(1,.agg (enc .tree t))] []) Q:=
 Eq.mpr V5 (h _ rfl _ rfl)
theorem Zs5(N:Nat)(e:Edit)(t:Tree)(x8 x7 x11 x12:Int)(ml6_1:List Int)(N0:NT)(Q:QT)(h:∀ y_1,y_1=t->∀ y_2,y_2=(e.words.getD x11.toNat (WEdit.mk 0 0 0 0))->let z0:=decide (x11 < (e.words.length:Int));(iB (decide (x12 < x7)) ((Zhd (y_1,x12,()))/\((Tt z0)/\(Tt z0)/\(Tt z0)/\(z0=true->(0:Int)<=x11/\x11 < (e.words.length:Int))/\(Tt z0)/\(Tt z0)/\(Tt z0)/\(Tt z0)/\(Tt z0)/\(iB (bif z0 then (y_2.at_==x12) else false) (((0:Int)<=x11/\x11 < (e.words.length:Int))/\((Zaq (0,(Yy y_1 x12),y_2.mask,()))/\(iB (((mix 0 (Yy y_1 x12) y_2.mask):Int) !=y_2.old) ((Q .ret (L2 [pL 4,pB 5 false] [(.loc 4,[ci 0,.nils,.nils])]))) ((Zaq ((Yy y_1 x12),y_2.new,y_2.mask,()))/\((InR (x11+1))/\(((ml6_1.length+([mix (Yy y_1 x12) y_2.new y_2.mask]).length)*8<=140737488355328)/\((InR (x12+1))/\(N0 (Z0U e t x8 x7 (x11+1) (x12+1) (ml6_1++([mix (Yy y_1 x12) y_2.new y_2.mask]))))))))))) (((ml6_1.length+([Yy y_1 x12]).length)*8<=140737488355328)/\((InR (x12+1))/\(N0 (Z0U e t x8 x7 x11 (x12+1) (ml6_1++([Yy y_1 x12]))))))))) ((Zi (A36 N [1,1,1,1,1,1,1,1,1,0,1,0,0]) (Z5z e t x8 ml6_1 0 0 []) (xB 2 (S36 N [1,1,1,1,1,1,1,1,1,1] Q)))))):
  A36 N [1,1,1,1,1,1,1,0,1,0,0] (Z0U e t x8 x7 x11 x12 ml6_1) (xT N0 (xB 0 (S36 N [1,1,1,1,1,1,1,1] Q))):=
 Eq.mpr V5 (h _ (Za _) _ rfl)
theorem Zs4(N:Nat)(e:Edit)(t:Tree)(x8:Int)(ml6_1:List Int)(x11_a x15_a:Int)(ml6_2_a:List Tree)(N1:NT)(Q:QT)(h:∀ y_1,y_1=t->∀ y_2,y_2=(e.kids.getD x11_a.toNat (KidOf.mk 0 Edit.nil))->∀ y_3,y_3=(y_2.e)->∀ y_4,y_4=(Jt y_1 x15_a)->∀ y_5,y_5=(Z00 (doE true y_3 y_4))->let z0:=decide (x11_a < (e.kids.length:Int));(iB (decide (x15_a < x8)) ((Zhd (y_1,x15_a,()))/\((Tt z0)/\(Tt z0)/\(Tt z0)/\(z0=true->(0:Int)<=x11_a/\x11_a < (e.kids.length:Int))/\(Tt z0)/\(Tt z0)/\(Tt z0)/\(Tt z0)/\(Tt z0)/\(iB (bif z0 then (y_2.at_==x15_a) else false) (((0:Int)<=x11_a/\x11_a < (e.kids.length:Int))/\(Z3j (y_3,y_4,()))/\(ZdD (y_3,y_4,()) < N)/\(iB (!((doE true y_3 y_4).isSome)) ((Q .ret (L2 [pL 4,pB 5 false] [(.loc 4,[ci 0,.nils,.nils])]))) (((InR (x11_a+1))/\(((ml6_2_a.length+([y_5]).length)*56<=140737488355328)/\((InR (x15_a+1))/\(N1 (Z5z e t x8 ml6_1 (x11_a+1) (x15_a+1) (ml6_2_a++([y_5])))))))))) (((ml6_2_a.length+([y_4]).length)*56<=140737488355328)/\((InR (x15_a+1))/\(N1 (Z5z e t x8 ml6_1 x11_a (x15_a+1) (ml6_2_a++([y_4]))))))))) ((Q .ret (L2 [pL 4,pB 5 true] [(.loc 4,[ci 1,sU .u64 ml6_1 (.own (.l 4 1)),sU .tree ml6_2_a (.own (.l 4 2))])]))))):
  A36 N [1,1,1,1,1,1,1,1,1,0,1,0,0] (Z5z e t x8 ml6_1 x11_a x15_a ml6_2_a) (xT N1 (xB 2 (S36 N [1,1,1,1,1,1,1,1,1,1] Q))):=
 Eq.mpr V5 (h _ (Za _) _ rfl _ (Zf _) _ (Za _) _ (Za _))
def ZyG(N:Nat)(e:Edit)(t:Tree):Prop:=AW (Z2 (Z9D N)) Try.f36 Zt7 [] (Zj (Z9W.can (e,t,())) []) (EQ Try.f36 (Z6g (e,t,())) [])
abbrev ZA1:Prop:=∀ (N:Nat) (e:Edit) (t:Tree) (_:Unit),Z7J (e,t,())->Zhx (e,t,()) < N+1->ZyG N e t
def Zt6:Ze U:=lvk [([2,3,4],[2,3,4]),([2,3,4,18],[2,3,4]),([4,5],[4]),([2,3,4,6],[2,3,4,6]),([2,3,4,6,7],[2,3,4,6]),([2,3,4,6,7,8],[2,3,4,((.loc 6),[.any,.any,.own .tree])]),([2,3,4,6,7,8,27],[2,3,4,6]),([2,3,4,6,7,8],[2,3,4,((.loc 6),[.any,.any,.own .tree])]),([2,3,4,6,7,8,9],[2,3,4,6,9]),([2,3,4,6,7,8,9,10],[2,3,4,((.loc 6),[.any,.any,.own .tree]),9]),([2,3,4,6,7,8,9,10,43],[2,3,4,6,9]),([2,3,4,6,7,8,9,10],[2,3,4,((.loc 6),[.any,.any,.own .tree]),9]),([2,3,4,6,7,8,9,10,50],[2,3,4,6,9]),([4,5],[4]),([2,3,4,6,7,8,9,10],[2,3,4,6,9]),([2,3,4,6,7,8,9,10],[2,3,4,6,9]),([2,3,4,6,7,8,9,11],[2,3,4,((.loc 6),[.any,.any,.own .tree]),9]),([2,3,4,6,7,8,9,11,68],[2,3,4,6,9]),([2,3,4,6,7,8,9,11],[2,3,4,((.loc 6),[.any,.any,.own .tree]),9]),([2,3,4,6,7,8,9,11,73],[2,3,4,6,9]),([2,3,4,6,7,8,9,11],[2,3,4,6,9]),([2,3,4,6,7,8,9,11,102],[2,3,4,6,9]),([4,5],[4]),([2,3,4,6,7,8,9,11],[2,3,4,6,9]),([2,3,4,6,7,8,9,108],[2,3,4,6,9]),([2,3,4,6,7,8,9,113],[2,3,4,6,9]),([4,5],[4]),([2,3,4,6,7,8,12,13],[2,3,4,6,12]),([2,3,4,6,7,8,12,127],[2,3,4,6,12]),([4,5],[4]),([2,3,4,6,7,8],[2,3,4,6]),([2,3,4,6,7,8],[2,3,4,6]),([4,5],[4])]
def Z2l(e:Edit)(t:Tree)(x7 x8:Int)(ml6_2:List Tree):LSt U:=(L2 [pL 2,pL 3,pL 4,pL 6,pI 7 x7,pI 8 x8] [(.loc 2,(enc .edit e)),(.loc 3,(enc .tree t)),(.loc 4,[ci 0,.nils,.nils]),(.loc 6,[ci t.kind,.nils,sU .tree ml6_2 (.own (.l 6 2))])])
def Z2k(e:Edit)(t:Tree)(x8 x7_a x10_a:Int)(ml6_2_a:List Tree):LSt U:=(L2 [pL 2,pL 3,pL 4,pL 6,pI 7 x7_a,pI 8 x8,pL 9,pI 10 x10_a] [(.loc 2,(enc .edit e)),(.loc 3,(enc .tree t)),(.loc 4,[ci 0,.nils,.nils]),(.loc 6,[ci t.kind,.nils,sU .tree ml6_2_a (.own (.l 6 2))]),(.loc 9,(enc .op (e.ops.getD x8.toNat Op.nil)))])
def Z1t(e:Edit)(t:Tree)(x8 x11_b x7_b:Int)(ml6_2_b:List Tree):LSt U:=(L2 [pL 2,pL 3,pL 4,pL 6,pI 7 x7_b,pI 8 x8,pL 9,pI 11 x11_b] [(.loc 2,(enc .edit e)),(.loc 3,(enc .tree t)),(.loc 4,[ci 0,.nils,.nils]),(.loc 6,[ci t.kind,.nils,sU .tree ml6_2_b (.own (.l 6 2))]),(.loc 9,(enc .op (e.ops.getD x8.toNat Op.nil)))])
abbrev A37(N:Nat)(p:List Nat):=AW (Z2 (Z9D N)) Try.f37 Zt6 p
abbrev S37(N:Nat)(p:List Nat):=SW (Z2 (Z9D N)) Try.f37 Zt6 p
theorem ZBd(N:Nat)(e:Edit)(t:Tree)(Q:QT)(h:(iB (t.kind !=e.list) ((Q .ret (L2 [pL 4,pB 5 false] [(.loc 4,[ci 0,.nils,.nils])]))) ((Zi (A37 N [1,1,1,1,0,1,0,0]) (Z2l e t 0 0 []) (xB 0 (S37 N [1,1,1,1,1] Q)))))):
  A37 N [] (L2 [(0,.agg (enc .edit e)),(1,.agg (enc .tree t))] []) Q:=
 Eq.mpr V5 h
theorem Zs3(N:Nat)(e:Edit)(t:Tree)(x7 x8:Int)(ml6_2:List Tree)(N0:NT)(Q:QT)(h:(iB (decide (x8 < (e.ops.length:Int))) (((0:Int)<=x8/\x8 < (e.ops.length:Int))/\(Zi (A37 N [1,1,1,1,0,1,0,0,1,0,0,1,0,1,0,0]) (Z2k e t x8 x7 0 ml6_2) (xB 2 (S37 N [1,1,1,1,0,1,0,0,1,0,0,1,1] (xB 1 (S37 N [1,1,1,1,0,1,0,0,1,1] (xT N0 (xB 0 (S37 N [1,1,1,1,1] Q))))))))) ((Q .ret (L2 [pL 4,pB 5 (x7==(t.kids.length:Int))] [(.loc 4,[ci t.kind,.nils,sU .tree ml6_2 (.own (.l 4 2))])]))))):
  A37 N [1,1,1,1,0,1,0,0] (Z2l e t x7 x8 ml6_2) (xT N0 (xB 0 (S37 N [1,1,1,1,1] Q))):=
 Eq.mpr V5 h
theorem Zbb(N:Nat)(e:Edit)(t:Tree)(x8 x7_a x10_a:Int)(ml6_2_a:List Tree)(N1 N0:NT)(Q:QT)(h:∀ y_1,y_1=(e.ops.getD x8.toNat Op.nil)->∀ y_2,y_2=(t.kids.getD x7_a.toNat Tree.nil)->let z0:=decide (x10_a < y_1.n);(Tt z0)/\(Tt z0)/\(Tt z0)/\(iB (bif z0 then (y_1.kind==0) else false) ((iB (decide (((t.kids.length:Int):Int)<=x7_a)) ((Q .ret (L2 [pL 4,pB 5 false] [(.loc 4,[ci 0,.nils,.nils])]))) (((0:Int)<=x7_a/\x7_a < (t.kids.length:Int))/\((ml6_2_a.length+([y_2]).length)*56<=140737488355328)/\((InR (x7_a+1))/\((InR (x10_a+1))/\(N1 (Z2k e t x8 (x7_a+1) (x10_a+1) (ml6_2_a++([y_2]))))))))) ((Zi (A37 N [1,1,1,1,0,1,0,0,1,0,0,1,1,0,1,0,0]) (Z1t e t x8 0 x7_a ml6_2_a) (xB 4 (S37 N [1,1,1,1,0,1,0,0,1,0,0,1,1,1] (xB 1 (S37 N [1,1,1,1,0,1,0,0,1,1] (xT N0 (xB 0 (S37 N [1,1,1,1,1] Q))))))))))):
  A37 N [1,1,1,1,0,1,0,0,1,0,0,1,0,1,0,0] (Z2k e t x8 x7_a x10_a ml6_2_a) (xT N1 (xB 2 (S37 N [1,1,1,1,0,1,0,0,1,0,0,1,1] (xB 1 (S37 N [1,1,1,1,0,1,0,0,1,1] (xT N0 (xB 0 (S37 N [1,1,1,1,1] Q)))))))):=
 Eq.mpr V5 (h _ rfl _ (Za _))
theorem Zba(N:Nat)(e:Edit)(t:Tree)(x8 x11_b x7_b:Int)(ml6_2_b:List Tree)(N2 N0:NT)(Q:QT)(h:∀ y_1,y_1=(e.ops.getD x8.toNat Op.nil)->∀ y_2,y_2=(t.kids.getD x7_b.toNat Tree.nil)->∀ y_3,y_3=y_2->∀ y_4,y_4=(y_1.e)->∀ y_5,y_5=(y_1.l.getD x11_b.toNat Tree.nil)->∀ y_6,y_6=y_5->∀ y_7,y_7=(Z00 (doE true y_4 y_3))->let z1:=(Q .ret (L2 [pL 4,pB 5 false] [(.loc 4,[ci 0,.nils,.nils])]));let z0:=decide (((t.kids.length:Int):Int)<=x7_b);(iB (decide (x11_b < (y_1.l.length:Int))) ((iB (y_1.kind==2) (((0:Int)<=x11_b/\x11_b < (y_1.l.length:Int))/\((ml6_2_b.length+([y_6]).length)*56<=140737488355328)/\((InR (x11_b+1))/\(N2 (Z1t e t x8 (x11_b+1) x7_b (ml6_2_b++([y_6])))))) ((Tt (!z0))/\(Tt (!z0))/\(Tt (!z0))/\((!z0)=true->(0:Int)<=x7_b/\x7_b < (t.kids.length:Int))/\(Tt (!z0))/\(Tt (!z0))/\(Tt (!z0))/\(Tt (!z0))/\((!z0)=true->(0:Int)<=x11_b/\x11_b < (y_1.l.length:Int))/\(Tt (!z0))/\(Tt (!z0))/\(Tt (!z0))/\((!z0)=true->Z4G (y_3,y_6,()))/\(Tt (!z0))/\(z0=false->(!z0)=true)/\(iB (bif z0 then true else (!(Yp (Z1 y_3) (Z1 y_6)))) z1 ((InR (x7_b+1))/\((InR (x11_b+1))/\(N2 (Z1t e t x8 (x11_b+1) (x7_b+1) ml6_2_b)))))))) ((iB (y_1.kind==3) ((iB z0 z1 (((0:Int)<=x7_b/\x7_b < (t.kids.length:Int))/\(Z3j (y_4,y_3,()))/\(ZdD (y_4,y_3,()) < N)/\(iB (!((doE true y_4 y_3).isSome)) z1 (((ml6_2_b.length+([y_7]).length)*56<=140737488355328)/\((InR (x7_b+1))/\((InR (x8+1))/\(N0 (Z2l e t (x7_b+1) (x8+1) (ml6_2_b++([y_7]))))))))))) ((InR (x8+1))/\(N0 (Z2l e t x7_b (x8+1) ml6_2_b))))))):
  A37 N [1,1,1,1,0,1,0,0,1,0,0,1,1,0,1,0,0] (Z1t e t x8 x11_b x7_b ml6_2_b) (xT N2 (xB 4 (S37 N [1,1,1,1,0,1,0,0,1,0,0,1,1,1] (xB 1 (S37 N [1,1,1,1,0,1,0,0,1,1] (xT N0 (xB 0 (S37 N [1,1,1,1,1] Q)))))))):=
 Eq.mpr V5 (h _ rfl _ rfl _ (Za _) _ (Zf _) _ rfl _ (Za _) _ (Za _))
def ZyF(N:Nat)(e:Edit)(t:Tree):Prop:=AW (Z2 (Z9D N)) Try.f37 Zt6 [] (Zj (Z9W.can (e,t,())) []) (EQ Try.f37 (Z7C (e,t,())) [])
abbrev ZA0:Prop:=∀ (N:Nat) (e:Edit) (t:Tree) (_:Unit),Z7I (e,t,())->Zhx (e,t,()) < N+1->ZyF N e t
theorem ZsQ(c18:CT 18 Z1y)(c35:CT 35 Z0g)(c50:CT 50 Z9d)(c47:CT 47 Z49)(c51:CT 51 Z9c)(b19:ZA4)(b36:ZA1)(b37:ZA0):
  CT 19 Z9i/\CT 36 ZnN/\CT 37 ZnM:=by
 have h53 : ∃ fn, Try.prog.funcs[(19 : FuncId)]? = some fn ∧ fn.body.isSome = true ∧ (fn.name == "runtime.NumGoroutine") = false := ⟨Try.f19, Try.func19, rfl, rfl⟩
 have h83 : ∃ fn, Try.prog.funcs[(36 : FuncId)]? = some fn ∧ fn.body.isSome = true ∧ (fn.name == "runtime.NumGoroutine") = false := ⟨Try.f36, Try.func36, rfl, rfl⟩
 have h84 : ∃ fn, Try.prog.funcs[(37 : FuncId)]? = some fn ∧ fn.body.isSome = true ∧ (fn.name == "runtime.NumGoroutine") = false := ⟨Try.f37, Try.func37, rfl, rfl⟩
 have key:∀ N,CT 19 (fs Z9W (fun a=> [Z3j a,ZdD a < N]) Z6h)/\CT 36 (fs Z9W (fun a=> [Z7J a,Zhx a < N]) Z6g)/\CT 37 (fs Z9W (fun a=> [Z7I a,Zhx a < N]) Z7C):=by
  intro N
  induction N with
  | zero=> exact ⟨J1 h53,J1 h83,J1 h84⟩
  | succ N ih=>
   have kn:=Z0b (l:=Z9D N) ⟨ih.1,ih.2.1,ih.2.2,c18,c35,c50,c47,c51,trivial⟩
   exact ⟨ZB (Γ:=Z2 (Z9D N)) Zk rfl kn Zxf Try.func19 rfl rfl (fun a=> by show 2<=_;decide) (fun ⟨e,t,_⟩ h=> b19 N e t () h.1 h.2.1),
    ZB (Γ:=Z2 (Z9D N)) Zk rfl kn Zt7 Try.func36 rfl rfl (fun a=> by show 2<=_;decide) (fun ⟨e,t,_⟩ h=> b36 N e t () h.1 h.2.1),
    ZB (Γ:=Z2 (Z9D N)) Zk rfl kn Zt6 Try.func37 rfl rfl (fun a=> by show 2<=_;decide) (fun ⟨e,t,_⟩ h=> b37 N e t () h.1 h.2.1)⟩
 exact ⟨J2 h53 fun N=> (key N).1,J2 h83 fun N=> (key N).2.1,J2 h84 fun N=> (key N).2.2⟩
end
theorem Zqf:Contract Try.prog cfg 40 Z3d:=by
 refine ZoP ?_
 intro l _ hp
 simp only [Zhf] at hp
 refine Zv5 _ _ ⟨fun h=> ?_,fun _=> ⟨by simp only [Qn];omega,?_⟩⟩
 .subst h
  simp only [Z7y]
  exact Y6
 .simp only [Z7y]
  exact Y6
theorem c65:Contract Try.prog cfg 65 Z9a:=by
 refine ZvT ?_
 intro l _ hp
 simp only [Zh9] at hp
 refine ZAL _ _ ⟨fun h=> ?_,fun _=> ⟨by simp only [Qn];omega,?_⟩⟩
 .subst h
  simp only [Zfu]
  exact Y6
 .simp only [Zfu]
  exact Y6
theorem Ze0{α:Type}(z:α){l:List α}{i:Nat}(h:i < l.length)(x:α):Y5 z l i x=l.set i x:=by
 simp only [Y5];rw [show i+1 - l.length=0 by omega];simp
theorem Za8{α:Type}(z:α){l:List α}{i:Nat}(h:l.length<=i)(x:α):Y5 z (l++[z]) i x=Y5 z l i x:=by
 simp only [Y5,Qh,QU,Qa]
 rw [show i+1 - l.length=(i+1 - (l.length+1))+1 by omega,XV]
 try rfl
theorem ZoM(t:Tree):t.words.length+Zl t.kids+1=Zn t:=by obtain ⟨k,w,ks⟩:=t;simp only [Zn,Tree.words_mk,Tree.kids_mk];omega
theorem Zfl{t:Tree}(h:rng t):InR t.kind/\(∀ x∈t.words,isW x)/\Yg t.kids:=by obtain ⟨k,w,ks⟩:=t;exact h
theorem Zbd{ks:List Tree}(h:Yg ks)(i:Nat):rng (ks.getD i Tree.nil):=by
 by_cases hi:i < ks.length
 .exact Ja h (Zh hi _)
 .rw [Qd,Qq V0]
  refine ⟨V2,by simp [Tree.nil],trivial⟩
theorem Z3p(ks:List Tree)(i:Nat):Zn (ks.getD i Tree.nil)<=Zl ks+1:=by
 by_cases hi:i < ks.length
 .have:=J5 (Zh hi Tree.nil);omega
 .rw [Qd,Qq V0]
  simp [Tree.nil,Zn,Zl]
theorem Z9E(t:Tree){i:Int}(h:0<=i):Jt t i=t.kids.getD i.toNat Tree.nil:=by unfold Jt;rw [JI]
theorem Z3Z(t:Tree){i:Int}(h:0<=i):Yy t i=t.words.getD i.toNat 0:=by unfold Yy;rw [JI]
theorem Zkw{l:List Int}(h:∀ x∈l,isW x)(i:Nat):isW (l.getD i 0):=by
 by_cases hi:i < l.length
 .exact h _ (Zh hi _)
 .rw [Qd,Qq V0];show 0<=(0:Int)/\(0:Int) < _;omega
theorem b26:ZA3:=by
 intro N e t _ hp hN
 simp only [Z3j,ZdD] at hp hN
 obtain ⟨⟨p1,p2,d,p3⟩,p4,p5⟩:=hp
 have h1:=Y3 e
 have h2:=Z1K p2
 have hd:=JO false e t
 rw [Ye] at hd
 refine ZBo _ _ _ _ ?_
 rintro y1 hy1 y2 hy2 y3 hy3
 subst hy1 hy2 hy3
 (simp only [iB,vcT,vcS])
 refine ⟨fun hk=> ?_,fun hk=> ⟨fun hk1=> ⟨by simp only [Z4G];omega,?_⟩,fun hk1=> ⟨fun hk2=> ⟨by simp only [Z7J];exact ⟨hk2,⟨p1,p2,d,p3⟩,p4,p5⟩,by simp only [Zhx];omega,?_⟩,fun hk2=> ⟨fun hk3=> ⟨by simp only [Z7I];exact ⟨hk3,⟨p1,p2,d,p3⟩,p4,p5⟩,by simp only [Zhx];omega,?_⟩,fun hk3=> ?_⟩⟩⟩⟩
 .rw [if_pos hk] at hd
  simp only [Z57,Zb3,if_pos hk,hd]
  exact Y6
 .rw [if_neg hk,if_pos hk1] at hd
  simp only [Z57,Zb3,if_neg hk,if_pos hk1,hd]
  cases Yp (Z1 y1.old) (Z1 y2) <;> (repeat' (first | exact trivial | exact rfl | apply And.intro))
 .rw [if_neg hk,if_neg hk1,if_pos hk2] at hd
  simp only [Z57,Zb3,if_neg hk,if_neg hk1,if_pos hk2,hd]
  exact Y6
 .rw [if_neg hk,if_neg hk1,if_neg hk2,if_pos hk3] at hd
  simp only [Z57,Zb3,if_neg hk,if_neg hk1,if_neg hk2,if_pos hk3,hd]
  have e2:(if y2.kind=y1.list then (Z0d (ZC false y1.ops y2.kids [])).map fun b=> Tree.mk y1.list [] b else none).isSome=(Z0d (Z0j false y1 y2)).isSome:=by
   unfold Z0j
   split
   .cases Z0d (ZC false y1.ops y2.kids []) <;> rfl
   .try rfl
  rw [e2]
  exact Y6
 .rw [if_neg hk,if_neg hk1,if_neg hk2,if_neg hk3] at hd
  simp only [Z57,Zb3,if_neg hk,if_neg hk1,if_neg hk2,if_neg hk3,hd]
  exact Y6
theorem b45:ZzW:=by
 intro N e t _ hp hN
 simp only [Z7J,Zhx] at hp hN
 obtain ⟨k2,⟨p1,p2,d,p3⟩,p4,p5⟩:=hp
 have h1:=Y3 e
 have h2:=Yb e.kids
 have h3:=ZoM t
 have h4:=Zw t.kids
 have r2:=Z1K p2
 have rt:=Zfl p5
 have ri:=Zs p3
 refine ZB5 _ _ _ _ ?_
 (simp only [iB,vcT,vcS])
 have no:Z1X false e t=none->Yv cfg Try.f45.ntmps Try.f45.results.toList (Z7B (e,t,())) [] .ret (⟨[(4,.ptr (.loc 4) 0),(5,.c (.bool false))],[((.loc 4),[.int .i64 0,.nils,.nils])],[]⟩:LSt U):=by
  intro hs
  simp only [Z7B,hs]
  exact Y6
 refine ⟨fun hk=> no (by unfold Z1X;rw [if_neg hk]),fun hk=> ?_⟩
 have hk:t.kind=1:=by simpa using hk
 refine ⟨by simp only [Zhf];omega,by simp only [Zh9];omega,?_⟩
 refine Zb (ι:=Int × List Int) (fun s=> Z8j e t s.1 s.2) (fun s=> 0<=s.1/\s.1<=e.words.length/\wsD t.words (e.words.drop s.1.toNat) s.2=wsD t.words e.words t.words/\s.2.length<=t.words.length+65536) (fun s=> ((e.words.length:Int) - s.1).toNat) (0,t.words) rfl ⟨by simp,by simp,by simp,by simp⟩ ?_
 rintro ⟨i,out⟩ ⟨f1,f2,f3,f4⟩
 dsimp only at f1 f2 f3 f4
 refine ZrV _ _ _ _ _ _ _ ?_
 rintro y1 hy1 y2 hy2
 subst hy1
 (simp only [iB,vcT,vcS])
 refine ⟨fun hi=> ?_,fun hi=> ?_⟩
 .have hmem:=Zh (l:=e.words) (i:=i.toNat) V0 (WEdit.mk 0 0 0 0)
  rw [YB f1 hi (WEdit.mk 0 0 0 0),<-hy2] at f3
  rw [<-hy2] at hmem
  have hw:=YQ ri.words y2 hmem
  obtain ⟨g1,g2,g3,g4⟩:=r2.2.2.2.1 y2 hmem
  have hat:Yy y1 y2.at_=y1.words.getD y2.at_.toNat 0:=Z3Z y1 V0
  have hwi:=Zkw rt.2.1 y2.at_.toNat
  rw [wsD] at f3
  rw [hat]
  unfold isW at g3 g4 hwi
  refine ⟨⟨f1,hi⟩,by simp only [Zep],by simp only [Zaq];omega,fun hne=> no ?_,fun heq=> ?_⟩
  .rw [if_neg hne] at f3
   unfold Z1X
   rw [if_pos hk,<-f3]
   try rfl
  .have heq:mix 0 (y1.words.getD y2.at_.toNat 0) y2.mask=y2.old:=by simpa using heq
   rw [if_pos heq] at f3
   refine Zb (ι:=List Int) (fun s=> Z8i e y1 i s) (fun s=> (∀ v,Y5 0 s y2.at_.toNat v=Y5 0 out y2.at_.toNat v)/\s.length<=y1.words.length+65536) (fun s=> (y2.at_+1 - s.length).toNat) out rfl ⟨fun v=> rfl,f4⟩ ?_
   rintro s ⟨q1,q2⟩
   refine ZrU _ _ _ _ _ _ _ _ ?_
   (simp only [Tree.eta,Edit.eta,Tree.kind_mk,Tree.words_mk,Tree.kids_mk])
   rw [<-hy2,hat]
   (simp only [iB,vcT,vcS])
   refine ⟨fun hl=> ⟨by simp;omega,s++[0],rfl,⟨fun v=> ?_,by simp;omega⟩,by simp;omega⟩,fun hl=> ?_⟩
   .rw [Za8 0 V0,q1]
   .have hl:y2.at_ < s.length:=V0
    refine ⟨by simp only [Zaq];omega,V0,V0,V4,(i+1,s.set y2.at_.toNat (mix (y1.words.getD y2.at_.toNat 0) y2.new y2.mask)),rfl,⟨V3,V3,?_,by simp only [List.length_set];omega⟩,V3⟩
    dsimp only
    rw [<-f3,<-Ze0 0 V0,q1]
 .rw [Q8 V0,wsD] at f3
  refine Zb (ι:=Int × List Tree) (fun s=> Z8h e y1 out s.1 s.2) (fun s=> 0<=s.1/\s.1<=e.kids.length/\Je false y1.kids (e.kids.drop s.1.toNat) s.2=Je false y1.kids e.kids y1.kids/\s.2.length<=y1.kids.length+65536) (fun s=> ((e.kids.length:Int) - s.1).toNat) (0,y1.kids) rfl ⟨by simp,by simp,by simp,by simp⟩ ?_
  rintro ⟨j,ks⟩ ⟨e1,e2,e3,e4⟩
  dsimp only at e1 e2 e3 e4
  refine ZrT _ _ _ _ _ _ _ _ ?_
  rintro y1 hy1 y2 hy2 y3 hy3 y4 hy4
  subst hy1
  (simp only [iB,vcT,vcS])
  refine ⟨fun hj=> ?_,fun hj=> ?_⟩
  .have hmem:=Zh (l:=e.kids) (i:=j.toNat) V0 (KidOf.mk 0 Edit.nil)
   rw [YB e1 hj (KidOf.mk 0 Edit.nil),<-hy2] at e3
   rw [<-hy2] at hmem
   have hk2:=ZP ri.kids y2 hmem
   have hm:=JA hmem
   have hct:=Zde hmem
   have hca:=Z2p e
   have hr:=(YU r2.2.2.2.2.2.1 hmem).2
   have hat:Jt y1 y2.at_=y1.kids.getD y2.at_.toNat Tree.nil:=Z9E y1 V0
   rw [hat] at hy4
   have hm4:=Z3p y1.kids y2.at_.toNat
   have hr4:=Zbd rt.2.2 y2.at_.toNat
   rw [Je,Z3Q,<-hy4,<-hy3] at e3
   rw [<-hy4] at hm4 hr4
   rw [<-hy3] at hm hr hk2 hct
   refine ⟨⟨e1,hj⟩,by simp only [Zep],by simp only [Z3j];exact ⟨⟨V0,hr,_,hk2.2⟩,V0,hr4⟩,by simp only [ZdD];omega,fun hne=> no ?_,fun heq=> ?_⟩
   .have hne:doE false y3 y4=none:=by simpa using hne
    rw [hne] at e3
    unfold Z1X
    rw [if_pos hk,<-f3,<-e3]
    try rfl
   .obtain ⟨u,hu⟩:=QD.1 heq
    rw [hu,Qe] at e3
    refine Zb (ι:=List Tree) (fun s=> Z8g e y1 out j s) (fun s=> (∀ v,Y5 Tree.nil s y2.at_.toNat v=Y5 Tree.nil ks y2.at_.toNat v)/\s.length<=y1.kids.length+65536) (fun s=> (y2.at_+1 - s.length).toNat) ks rfl ⟨fun v=> rfl,e4⟩ ?_
    rintro s ⟨q1,q2⟩
    refine ZrS _ _ _ _ _ _ _ _ _ ?_
    rintro z1 hz1 z2 hz2 z3 hz3 z4 hz4 z5 hz5
    rw [<-hy2] at hz2
    subst hz1 hz2
    rw [<-hy3] at hz3
    subst hz3
    rw [hat,<-hy4] at hz4
    subst hz4
    rw [Z9q hu] at hz5
    subst hz5
    (simp only [iB,vcT,vcS])
    refine ⟨fun hl=> ⟨by simp;omega,s++[Tree.nil],rfl,⟨fun v=> ?_,by simp;omega⟩,by simp;omega⟩,fun hl=> ?_⟩
    .rw [Za8 Tree.nil V0,q1]
    .have hl:z2.at_ < s.length:=V0
     refine ⟨V0,V0,V4,(j+1,s.set z2.at_.toNat z5),rfl,⟨V3,V3,?_,by simp only [List.length_set];omega⟩,V3⟩
     dsimp only
     rw [<-e3,<-Ze0 Tree.nil V0,q1]
  .rw [Q8 V0,Je] at e3
   have hs:Z1X false e y1=some (.mk 1 out ks):=by
    unfold Z1X
    rw [if_pos hk,<-f3,<-e3]
    try rfl
   simp only [Z7B,hs]
   exact Y6
theorem ZeK(r:Bool)(o:Op)(s:List Op)(rest out:List Tree):ZC r (o ::s) rest out=(Z0K r o rest out).bind fun x=> ZC r s x.2 x.1:=by rw [ZC]
theorem Z1S{ks:List Tree}(h:Yg ks)(n:Nat):Yg (ks.drop n):=by
 induction n generalizing ks with
 | zero=> exact h
 | succ n ih=> cases ks with
  | nil=> exact h
  | cons a r=> exact ih h.2
theorem b46:ZzV:=by
 intro N e t _ hp hN
 simp only [Z7I,Zhx] at hp hN
 obtain ⟨k3,⟨p1,p2,d,p3⟩,p4,p5⟩:=hp
 have h1:=Y3 e
 have h2:=ZU e.ops
 have h3:=ZoM t
 have h4:=Zw t.kids
 have r2:=Z1K p2
 have rt:=Zfl p5
 have ri:=Zs p3
 refine ZB4 _ _ _ _ ?_
 (simp only [iB,vcT,vcS])
 have no:Z0j false e t=none->Yv cfg Try.f46.ntmps Try.f46.results.toList (Z7A (e,t,())) [] .ret (⟨[(4,.ptr (.loc 4) 0),(5,.c (.bool false))],[((.loc 4),[.int .i64 0,.nils,.nils])],[]⟩:LSt U):=by
  intro hs
  simp only [Z7A,hs]
  exact Y6
 refine ⟨fun hk=> no (by unfold Z0j;rw [if_neg hk]),fun hk=> ?_⟩
 have hk:t.kind=e.list:=by simpa using hk
 have hl0:Z0j false e t=ZC false e.ops t.kids []:=by unfold Z0j;rw [if_pos hk]
 refine Zb (ι:=Int × List Tree × List Tree) (fun s=> Z2j e t s.1 s.2.2 s.2.1)
  (fun s=> 0<=s.1/\s.1<=e.ops.length/\ZC false (e.ops.drop s.1.toNat) s.2.2 s.2.1=Z0j false e t/\s.2.1.length+s.2.2.length+Zr (e.ops.drop s.1.toNat)<=t.kids.length+Zr e.ops/\Zl s.2.2<=Zl t.kids/\Yg s.2.2)
  (fun s=> ((e.ops.length:Int) - s.1).toNat) (0,[],t.kids) rfl ⟨by simp,by simp,by simp [hl0],by simp,by simp,rt.2.2⟩ ?_
 rintro ⟨i,out,rest⟩ ⟨f1,f2,f3,f4,f5,f6⟩
 dsimp only at f1 f2 f3 f4 f5 f6
 refine ZrQ _ _ _ _ _ _ _ _ ?_
 rintro y1 hy1
 (simp only [iB,vcT,vcS])
 refine ⟨fun hi=> ?_,fun hi=> ?_⟩
 .have hmem:=Zh (l:=e.ops) (i:=i.toNat) V0 Op.nil
  rw [YB f1 hi Op.nil,<-hy1] at f3 f4
  rw [<-hy1] at hmem
  have hr:=Go.AM.rightOs_mem ri.ops y1 hmem
  have hm:=Yl hmem
  have hct:=Z8T hmem
  have hca:=Z2p e
  have hme:=ZW y1
  have hro:=JQ (Z08 r2.2.2.2.2.2.2 hmem)
  have hml:=Zw y1.l
  simp only [Zr] at f4
  rw [ZeK,Yx] at f3
  have go:∀ (x:List Tree) (m:List Tree) (v:V U) N0 Q',ZC false (e.ops.drop (i+1).toNat) x m=Z0j false e t->m.length+x.length+Zr (e.ops.drop (i+1).toNat)<=t.kids.length+Zr e.ops->Zl x<=Zl t.kids->Yg x->
    (∀ s2,s2=Z2j e t (i+1) x m->N0 s2)->A46 N [1,1,1,1,0,1,0,0,1,1,1] (Z3H e t i x m v) (AExit.then N0 (AExit.inBlock 0 (S46 N [1,1,1,1,1] Q'))):=by
   intro x m v N0 Q' a1 a2 a3 a4 a5
   exact ZrR _ _ _ _ _ _ _ _ _ ⟨V4,a5 _ rfl⟩
  have fin:∀ (x m:List Tree),ZC false (e.ops.drop (i+1).toNat) x m=Z0j false e t->m.length+x.length+Zr (e.ops.drop (i+1).toNat)<=t.kids.length+Zr e.ops->Zl x<=Zl t.kids->Yg x->∀ s2,s2=Z2j e t (i+1) x m->
    ∃ j:Int × List Tree × List Tree,s2=Z2j e t j.1 j.2.2 j.2.1/\(0<=j.1/\j.1<=e.ops.length/\ZC false (e.ops.drop j.1.toNat) j.2.2 j.2.1=Z0j false e t/\j.2.1.length+j.2.2.length+Zr (e.ops.drop j.1.toNat)<=t.kids.length+Zr e.ops/\Zl j.2.2<=Zl t.kids/\Yg j.2.2)/\((e.ops.length:Int) - j.1).toNat < ((e.ops.length:Int) - i).toNat:=by
   rintro x m a1 a2 a3 a4 _ rfl
   exact ⟨(i+1,m,x),rfl,⟨V3,V3,a1,a2,a3,a4⟩,V3⟩
  have r1:=ZT hr
  have ht:∀ n:Nat,(rest.take n).length<=rest.length/\(rest.take n).length+(rest.drop n).length=rest.length:=by
   intro n
   simp only [Qj,QI];omega
  refine ⟨⟨f1,hi⟩,fun hk2=> ⟨V0,?_⟩,fun hk2=> ⟨fun hk1=> ?_,fun hk1=> ⟨fun hk3=> ?_,fun hk3=> ?_⟩⟩⟩
  .rw [JI,JI,if_pos hk2,Qe] at f3
   exact go _ _ _ _ _ f3 (by simp only [Qh];omega) f5 f6 (fin _ _ f3 (by simp only [Qh];omega) f5 f6)
  .refine Zf4 _ _ _ _ _ _ _ _ _ _ ?_
   rintro z1 hz1 z2 hz2 z3 hz3 z4 hz4 z5 hz5 z6 hz6
   rw [<-hy1] at hz1
   subst hz1
   rw [JI,if_pos hk1] at f3
   (simp only [iB,vcT,vcS])
   rw [QY] at hz5
   rw [QY]
   refine ⟨fun hs=> no ?_,fun hs=> ⟨V0,V0,fun h=> by omega,fun _=> ⟨fun _=> ⟨?_,fun hq=> no ?_,fun hq=> ?_⟩,fun h=> absurd hk1 h⟩⟩⟩
   .have:Jd z1.l rest=false:=by unfold Jd;rw [decide_eq_false V0];try rfl
    rw [this,if_neg (by simp)] at f3
    exact f3.symm
   .have:=ZcT z1.l.length rest
    simp only [Zh8];omega
   .have:Jd z1.l rest=false:=by unfold Jd;rw [<-hz5,hq];simp
    rw [this,if_neg (by simp)] at f3
    exact f3.symm
   .have:Jd z1.l rest=true:=by unfold Jd;rw [<-hz5,hq,decide_eq_true V0];try rfl
    rw [this,if_pos rfl,Qe] at f3
    have hd:=Z2f z1.l.length rest
    have ht1:=ht z1.l.length
    exact go _ _ _ _ _ f3 V0 V0 (Z1S f6 _) (fin _ _ f3 V0 V0 (Z1S f6 _))
  .refine Zf4 _ _ _ _ _ _ _ _ _ _ ?_
   rintro z1 hz1 z2 hz2 z3 hz3 z4 hz4 z5 hz5 z6 hz6
   rw [<-hy1] at hz1
   subst hz1
   rw [JI,if_neg hk1,if_neg hk2] at f3
   (simp only [iB,vcT,vcS])
   rw [show Int.toNat 1=1 from rfl]
   refine ⟨fun hs=> no ?_,fun hs=> ⟨V0,V0,fun h=> by omega,fun _=> ⟨fun h=> absurd h hk1,fun _=> ?_⟩⟩⟩
   .rw [V1] at f3
    exact f3.symm
   .have hz:z3=rest.getD 0 Tree.nil:=by
     rw [hz3,hz2]
     cases rest with
     | nil=> rfl
     | cons a r=> rfl
    rw [JI,<-hz,<-hz4] at f3
    have hm3:=Z3p rest 0
    have hr3:=Zbd f6 0
    rw [<-hz] at hm3 hr3
    have hre:=Jv hr hk3
    rw [<-hz4] at hre hme hro hct
    refine ⟨?_,by simp only [Z3j];exact ⟨⟨V0,hro.2.2.2,_,hre⟩,V0,hr3⟩,by simp only [ZdD];omega,fun hne=> no ?_,fun heq=> ?_⟩
    .simp only [Qj];omega
    .have hne:doE false z4 z3=none:=by simpa using hne
     rw [hne] at f3
     exact f3.symm
    .obtain ⟨u,hu⟩:=QD.1 heq
     rw [Z9q hu] at hz6
     subst hz6
     rw [hu,Qf,Qe] at f3
     have hd:=Z2f 1 rest
     have ht1:=ht 1
     have ht2:(rest.take 1).length=1:=by simp only [Qj];omega
     refine ⟨by simp only [QU];omega,?_⟩
     exact go _ _ _ _ _ f3 (by simp only [Qh,QU];omega) V0 (Z1S f6 _) (fin _ _ f3 (by simp only [Qh,QU];omega) V0 (Z1S f6 _))
  .have hk0:y1.kind=0:=by cases r1 <;> first | rfl | (exfalso;simp at hk1 hk2 hk3)
   refine Zf4 _ _ _ _ _ _ _ _ _ _ ?_
   rintro z1 hz1 z2 hz2 z3 hz3 z4 hz4 z5 hz5 z6 hz6
   rw [<-hy1] at hz1
   subst hz1
   rw [if_pos hk0] at f3
   have hn:1<=z1.n/\z1.n<=1048576:=by cases r1 <;> first | (constructor <;> assumption) | (exfalso;simp at hk1 hk2 hk3 hk0)
   (simp only [iB,vcT,vcS])
   refine ⟨fun hs=> no ?_,fun hs=> ⟨V0,V0,fun _=> ⟨?_,?_⟩,fun h=> absurd hk0 h⟩⟩
   .rw [JI] at f3
    exact f3.symm
   .have:=(ht z1.n.toNat).1
    omega
   .rw [V1,Qe] at f3
    have hd:=Z2f z1.n.toNat rest
    have ht1:=ht z1.n.toNat
    exact go _ _ _ _ _ f3 (by simp only [Qh];omega) V0 (Z1S f6 _) (fin _ _ f3 (by simp only [Qh];omega) V0 (Z1S f6 _))
 .rw [Q8 V0,ZC] at f3
  simp only [Z7A,<-f3,ZfQ,Z0d,Qe,hk]
  by_cases hr:rest.length=0
  .rw [if_pos hr,hr]
   exact Y6
  .rw [if_neg hr,show ((rest.length:Int)==0)=false by rw [beq_eq_false_iff_ne];omega]
   exact Y6
theorem ZBJ:Contract Try.prog cfg 26 Z9h/\Contract Try.prog cfg 45 ZnL/\Contract Try.prog cfg 46 ZnK:=ZsP c44 c63 c64 c67 c65 c66 Zqf b26 b45 b46
theorem c26:Contract Try.prog cfg 26 Z9h:=ZBJ.1
theorem Zq7{r:Bool}{e:Edit}{t u:Tree}(hr:∃ d,Z0 e d=true)(ht:Zn t+ctE e<=200000000000)(h:doE r e t=some u):Zn u<=1000000000000:=by
 obtain ⟨d,hr⟩:=hr
 have:=Z5Y r e d t u hr h
 omega
theorem c12:Contract Try.prog cfg 12 Z0z:=by
 refine Zwu c22 c26 ?_
 intro e t _ hp
 simp only [Z3j] at hp
 refine ZBC _ _ _ ?_
 rintro y1 hy1 y2 hy2 y3 hy3
 subst hy1 hy2
 (simp only [iB,vcT,vcS])
 refine ⟨by simp only [Z3j];exact hp,fun hn=> ?_,fun hs=> ?_⟩
 .have hn:doE false y1 y2=none:=by simpa using hn
  simp only [ZkZ,hn]
  exact Y6
 .obtain ⟨u,hu⟩:=QD.1 hs
  rw [Z9q hu] at hy3
  subst hy3
  have:=Zq7 hp.1.2.2 hp.2.1 hu
  refine ⟨by simp only [Z0P];exact this,?_⟩
  simp only [ZkZ,hu]
  exact Y6
theorem c50:Contract Try.prog cfg 50 Z9d:=by
 refine Zw3 ?_
 intro t i _ hp
 simp only [Zhd] at hp
 refine ZB0 _ _ _ ?_
 (simp only [iB,vcT,vcS])
 refine ⟨fun h=> ⟨⟨hp,h⟩,Ym rfl (Z3Z t hp).symm⟩,fun h=> Ym rfl ?_⟩
 rw [Z3Z t hp,Qd,Qq V0]
 try rfl
theorem c51:Contract Try.prog cfg 51 Z9c:=by
 refine Zw2 ?_
 intro t i _ hp
 simp only [Zhd] at hp
 have hk:=Z9E t hp
 refine ZAZ _ _ _ ?_
 (simp only [iB,vcT,vcS])
 simp only [ZkR,hk]
 refine ⟨fun h=> ⟨⟨hp,h⟩,?_⟩,fun h=> ?_⟩
 ·exact Y6
 .rw [Qd,Qq V0]
  exact Y6
theorem ZoU{r:Bool}{e:Edit}{t:Tree}{l:List Tree}(h:Z0d (Z0j r e t)=some l):ZfQ e (Z0j r e t)= .mk e.list [] l:=by
 unfold Z0d at h
 obtain ⟨x,hx,hy⟩:=Ql.1 h
 rw [hx]
 split at hy
 .cases hy;rfl
 .cases hy
theorem b19:ZA4:=by
 intro N e t _ hp hN
 simp only [Z3j,ZdD] at hp hN
 obtain ⟨⟨p1,p2,d,p3⟩,p4,p5⟩:=hp
 have h1:=Y3 e
 have ri:=Zs p3
 have hd:=Z2N true e t
 have hm:=Z83 true e d t
 refine ZBv _ _ _ _ ?_
 rintro y1 hy1 y2 hy2 y3 hy3 y4 hy4 y5 hy5 y6 hy6
 subst hy1 hy2 hy3 hy4
 (simp only [iB,vcT,vcS])
 simp only [iB,vcF]
 have big:∀ v,Z7D true y1 y2=some v->Zn v<=1000000000000:=fun v hv=> by have:=hm v p3 hv;omega
 have no:Z7D true y1 y2=none->Yv cfg Try.f19.ntmps Try.f19.results.toList (Z6h (y1,y2,())) [] .ret (⟨[(4,.ptr (.loc 4) 0),(5,.c (.bool false))],[((.loc 4),[.int .i64 0,.nils,.nils])],[]⟩:LSt U):=by
  intro h
  rw [h] at hd
  simp only [Z6h,hd]
  exact Y6
 have yes:∀ v,Z7D true y1 y2=some v->Yv cfg Try.f19.ntmps Try.f19.results.toList (Z6h (y1,y2,())) [] .ret (⟨[(4,.ptr (.loc 4) 0),(5,.c (.bool true))],[((.loc 4),[.int .i64 (Tree.kind (Z1 v)),.slice (U:=U) .u64 (Tree.words (Z1 v)) .unk,.slice (U:=U) .tree (Tree.kids (Z1 v)) .unk])],[]⟩:LSt U):=by
  intro v h
  rw [h] at hd
  simp only [Z6h,hd]
  exact Y6
 unfold Z7D at big no yes
 refine ⟨fun hk=> ?_,fun hk=> ⟨fun hk1=> ?_,fun hk1=> ⟨fun hk2=> ?_,fun hk2=> ⟨fun hk3=> ?_,fun hk3=> ?_⟩⟩⟩⟩
 .rw [if_pos hk] at big no yes
  exact ⟨by simp only [Z0P];omega,yes _ rfl⟩
 .rw [if_neg hk,if_pos hk1] at big no yes
  refine ⟨by simp only [Z4G];omega,fun hs=> no (by rw [hs];rfl),fun hs=> ?_⟩
  rw [if_pos hs] at big yes
  exact ⟨by simp only [Z0P];exact big _ rfl,yes _ rfl⟩
 .rw [if_neg hk,if_neg hk1,if_pos hk2] at big no yes
  refine ⟨by simp only [Z7J];exact ⟨hk2,⟨p1,p2,d,p3⟩,p4,p5⟩,by simp only [Zhx];omega,fun hs=> no ?_,fun hs=> ?_⟩
  .have hs:Z1X true y1 y2=none:=by simpa using hs
   exact hs
  .obtain ⟨u,hu⟩:=QD.1 hs
   have e5:y5=u:=by rw [hy5,hu];try rfl
   subst e5
   exact ⟨by simp only [Z0P];exact big _ hu,yes _ hu⟩
 .rw [if_neg hk,if_neg hk1,if_neg hk2,if_pos hk3] at big no yes
  have e2:∀ o,Z0d (Z0j true y1 y2)=o->(if y2.kind=y1.list then (Z0d (ZC true y1.ops y2.kids [])).map fun b=> Tree.mk y1.list [] b else none)=o.map fun b=> Tree.mk y1.list [] b:=by
   intro o ho
   unfold Z0j at ho
   split
   .rename_i h;rw [if_pos h] at ho;rw [ho]
   .rename_i h;rw [if_neg h] at ho;rw [<-ho];try rfl
  refine ⟨by simp only [Z7I];exact ⟨hk3,⟨p1,p2,d,p3⟩,p4,p5⟩,by simp only [Zhx];omega,fun hs=> no ?_,fun hs=> ?_⟩
  .have hs:Z0d (Z0j true y1 y2)=none:=by simpa using hs
   rw [e2 _ hs];try rfl
  .obtain ⟨l,hl⟩:=QD.1 hs
   have e6:y6= .mk y1.list [] l:=by rw [hy6,ZoU hl]
   subst e6
   have e3:=e2 _ hl
   exact ⟨by simp only [Z0P];exact big _ e3,yes _ e3⟩
 .rw [if_neg hk,if_neg hk1,if_neg hk2,if_neg hk3] at no
  exact no rfl
end Go.AM.Ytfapacabjkhepaa
