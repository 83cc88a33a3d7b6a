import Derived.Test.YtpjenobkibfpcaaGreatZKG20x
import Derived.Test.YtpjenobkibfpcaaGreatZKL07
import Derived.Test.YtpjenobkibfpcaaGreatZCD25
import Derived.Test.YtpjenobkibfpcaaGreatZKM07
set_option linter.unusedSimpArgs false
set_option linter.unusedVariables false
namespace Go.AM.YtpjenobkibfpcaaGreat
open Go.AM Go.Proofs
theorem Zlm{n:Int}(h:InR n):wr n=n:=by
 unfold InR at h
 simp [wr,IntKind.wrap,IntKind.signed,IntKind.bits]
 omega
theorem Zot{l:List Op}{i:Int}(n:Int)(h0:0<=i)(h:i < l.length):Z3N (l.drop i.toNat) n=Z3N (l.drop (i+1).toNat) (if (l.getD i.toNat Op.nil).kind=2 then n else ZkW (wr (n+Z1S (l.getD i.toNat Op.nil)))):=by
 rw [YE h0 h Op.nil,Z3N]
theorem Zos{l:List Op}{i:Int}(n:Int)(h0:0<=i)(h:i < l.length):Z3L (l.drop i.toNat) n=Z3L (l.drop (i+1).toNat) (if (l.getD i.toNat Op.nil).kind=1 then n else ZkW (wr (n+Z1S (l.getD i.toNat Op.nil)))):=by
 rw [YE h0 h Op.nil,Z3L]
theorem ZH7:Contract Tryz.prog cfg 169 Z5u:=by
 refine ZBq ?_
 intro e _ hp
 simp only [Z9q] at hp
 have h1:=YK e
 have h2:=Yo e.ops
 refine ZJr _ _ ?_
 refine Zc (ι:=Int × Int × Int) (fun s=> Z1W e s.1 s.2.1 s.2.2) (fun s=> (0<=s.2.2/\s.2.2<=e.ops.length)/\Z3N (e.ops.drop s.2.2.toNat) s.1=Z3N e.ops 0/\Z3L (e.ops.drop s.2.2.toNat) s.2.1=Z3L e.ops 0) (fun s=> ((e.ops.length:Int) - s.2.2).toNat) (0,0,0) rfl ⟨⟨by simp,by simp⟩,rfl,rfl⟩ ?_
 rintro ⟨n,m,i⟩ ⟨⟨g1,g2⟩,g3,g4⟩
 dsimp only at g1 g2 g3 g4
 refine Zv4 _ _ _ _ _ _ ?_
 (simp only [iB,vcS])
 refine ⟨fun hi=> ⟨⟨g1,hi⟩,?_⟩,fun hi=> ?_⟩
 .rw [Zot _ g1 hi] at g3
  rw [Zos _ g1 hi] at g4
  have hk:IntKind.wrap .i64 (i+1)=i+1:=Zlm V1
  generalize hy:e.ops.getD i.toNat Op.nil=y at*
  have ae:∀ k:Int,k=Z1S y->∀ (Q':AExit->LSt U->Prop),ZsZ e n m i k (fun s2=> ∃ j:Int × Int × Int,s2=Z1W e j.1 j.2.1 j.2.2/\((0<=j.2.2/\j.2.2<=e.ops.length)/\Z3N (e.ops.drop j.2.2.toNat) j.1=Z3N e.ops 0/\Z3L (e.ops.drop j.2.2.toNat) j.2.1=Z3L e.ops 0)/\((e.ops.length:Int) - j.2.2).toNat < ((e.ops.length:Int) - i).toNat) Q':=by
   rintro k rfl Q'
   have h:∀ a:Int,a=(if y.kind=2 then n else ZkW (wr (n+Z1S y)))->ZsY e m i (Z1S y) a (fun s2=> ∃ j:Int × Int × Int,s2=Z1W e j.1 j.2.1 j.2.2/\((0<=j.2.2/\j.2.2<=e.ops.length)/\Z3N (e.ops.drop j.2.2.toNat) j.1=Z3N e.ops 0/\Z3L (e.ops.drop j.2.2.toNat) j.2.1=Z3L e.ops 0)/\((e.ops.length:Int) - j.2.2).toNat < ((e.ops.length:Int) - i).toNat) Q':=by
    rintro a ha
    refine Zv5 _ _ _ _ _ _ _ ?_
    rw [hy,hk]
    (simp only [iB,vcS])
    rw [<-ha] at g3
    refine ⟨fun u=> ⟨(a,_,i+1),rfl,⟨⟨V4,V4⟩,g3,?_⟩,V4⟩,fun u=> ⟨(a,_,i+1),rfl,⟨⟨V4,V4⟩,g3,?_⟩,V4⟩⟩
    .rw [if_neg u] at g4;exact g4
    .rw [if_pos u] at g4;exact g4
   refine Zv6 _ _ _ _ _ _ _ ?_
   rw [hy]
   (simp only [iB,vcS])
   exact ⟨fun u=> h _ (by rw [if_neg u];rfl),fun u=> h _ (by rw [if_pos u])⟩
  exact ⟨fun u=> ae _ (by unfold Z1S;rw [if_pos u]) _,fun u=> ae _ (by unfold Z1S;rw [if_neg u];rfl) _⟩
 .rw [Qc JX] at g3 g4
  simp only [Z3N,Z3L] at g3 g4
  rw [g3,g4]
  exact V0
theorem Zmy:∀ (l:List Op) (n:Int),(∀ o∈l,(0<=o.n/\o.n<=1048576)/\o.l.length<=20000000000)->0<=n->n<=1048576->Z3N l n=Z1C l n
 | [],_,_,_,_=> rfl
 | o ::r,n,h,h0,hn=> by
  have ho:=h o (Q7 ..)
  have hl:=Yy o
  have u:Z1S o=Z4 o:=by
   unfold Z1S;rw [hl]
   split
   .try rfl
   .exact Zlm V1
  have hb:0<=Z4 o/\Z4 o<=60000000000:=by rw [hl];split <;> omega
  simp only [Z3N,Z1C]
  rw [u,Zlm V1]
  have e2:(if o.kind=2 then n else ZkW (n+Z4 o))=min (if o.kind=2 then n else n+Z4 o) 1048576:=by
   unfold ZkW;split
   .omega
   .omega
  rw [e2]
  exact Zmy r _ (fun x s=> h x (Q0 _ s)) JX JX
theorem Zmx:∀ (l:List Op) (n:Int),(∀ o∈l,(0<=o.n/\o.n<=1048576)/\o.l.length<=20000000000)->0<=n->n<=1048576->Z3L l n=Z1B l n
 | [],_,_,_,_=> rfl
 | o ::r,n,h,h0,hn=> by
  have ho:=h o (Q7 ..)
  have hl:=Yy o
  have u:Z1S o=Z4 o:=by
   unfold Z1S;rw [hl]
   split
   .try rfl
   .exact Zlm V1
  have hb:0<=Z4 o/\Z4 o<=60000000000:=by rw [hl];split <;> omega
  simp only [Z3L,Z1B]
  rw [u,Zlm V1]
  have e2:(if o.kind=1 then n else ZkW (n+Z4 o))=min (if o.kind=1 then n else n+Z4 o) 1048576:=by
   unfold ZkW;split
   .omega
   .omega
  rw [e2]
  exact Zmx r _ (fun x s=> h x (Q0 _ s)) JX JX
noncomputable section
def Zsu:ArgL (List Tree × List Tree × Unit × Unit):=(.cons (aSl .tree) (.cons (aSl .tree) (.cons (aFn 114) .nil)))
def Z9o(a:List Tree × List Tree × Unit × Unit):Prop:=Zg a.1<=1000000000000/\Zg a.2.1<=1000000000000
def Zwj(a:List Tree × List Tree × Unit × Unit):V U:= .c (.bool (eqX (Z6 a.1) (Z6 a.2.1)))
def Z1t:Fs U:=fs Zsu (fun a=> [Z9o a]) Zwj
def Z7S:List (FuncId × Fs U):=[(114,YN)]
def ZgR:Za U:=lvl [([0,1,2],[]),([0,1,2,14],[]),([6],[]),([1,2,15,16,17],[]),([1,2,15,16,17,18],[]),([1,2,7,8,15,16,17],[8]),([1,2,8,9,15,16,17],[8,9]),([1,2,15,16,17,30],[]),([6],[]),([1,2,15,16,17],[]),([6],[])]
def Z85(a b:List Tree)(f:Unit)(h:Int):LSt U:=(L2 [(1,.c (sU .tree b .unk)),(2,.fn 114),(15,.c (sU .tree a .unk)),pI 16 (a.length:Int),pI 17 h] [])
abbrev ZM0(a b:List Tree)(f:Unit)(Q:QT):=AW (Z2 Z7S) Tryz.f177 ZgR [] (L2 [(0,.c (sU .tree a .unk)),(1,.c (sU .tree b .unk)),(2,.fn 114)] []) Q
theorem ZJl(a b:List Tree)(f:Unit)(Q:QT)(h:iB (((a.length:Int):Int) !=(b.length:Int)) (Q .ret (L2 [pB 6 false] [])) (Zp (AW (Z2 Z7S) Tryz.f177 ZgR [1,1,0,1,0,0]) (Z85 a b f 0) (xB 0 (SW (Z2 Z7S) Tryz.f177 ZgR [1,1,1] Q)))):
  ZM0 a b f Q:=
 Eq.mpr V3 h
abbrev ZCw(a b:List Tree)(f:Unit)(h:Int)(N0:NT)(Q:QT):=AW (Z2 Z7S) Tryz.f177 ZgR [1,1,0,1,0,0] (Z85 a b f h) (xT N0 (xB 0 (SW (Z2 Z7S) Tryz.f177 ZgR [1,1,1] Q)))
theorem Zv2(a b:List Tree)(f:Unit)(s:Int)(N0:NT)(Q:QT)(h:let z3:=a.getD s.toNat Tree.nil;let z2:=b.getD s.toNat Tree.nil;let z1:=Tree.mk (Tree.kind z2) (Tree.words z2) (Tree.kids z2);let z0:=Tree.mk (Tree.kind z3) (Tree.words z3) (Tree.kids z3);iB (decide (s < (a.length:Int))) (((0:Int)<=s/\s < (a.length:Int))/\(((0:Int)<=s/\s < (b.length:Int))/\((Z2z (z0,z1,()))/\(iB (!(Yf (Z0 z0) (Z0 z1))) (Q .ret (L2 [pB 6 false] [])) ((InR (s+1))/\(N0 (Z85 a b f (s+1)))))))) (Q .ret (L2 [pB 6 true] []))):
  ZCw a b f s N0 Q:=
 Eq.mpr V3 h
def ZDu(a b:List Tree)(f:Unit):Prop:=AW (Z2 Z7S) Tryz.f177 ZgR [] (Zf (Zsu.can (a,b,f,())) []) (EQ Tryz.f177 (Zwj (a,b,f,())) [])
theorem ZBk(Z9K:CT 114 YN)(hb:∀ (a:List Tree) (b:List Tree) (f:Unit) (_:Unit),Z9o (a,b,f,())->ZDu a b f):CT 177 Z1t:=
 Z1 (l:=[(114,YN)]) Ze rfl (⟨Z9K,trivial⟩) ZgR Tryz.func177 rfl rfl 3 (fun _=> rfl) V2 (fun ⟨a,b,f,_⟩=> hb a b f ())
end
theorem ZkX:Contract Tryz.prog cfg 177 Z1t:=by
 refine ZBk Z9K ?_
 intro a b f _ hp
 simp only [Z9o] at hp
 refine ZJl a b f _ ?_
 (simp only [iB,vcS])
 refine ⟨fun hc=> Z5 rfl (Zz1 (a:=Z6 a) (b:=Z6 b) (fun h=> hc (by have:=congrArg List.length h;simp [Z6] at this;omega))).symm,fun hc=> ?_⟩
 have hl:a.length=b.length:=JX
 have ai:=Zy a
 refine Zc (ι:=Int) (fun i=> Z85 a b f i) (fun i=> 0<=i/\i<=a.length/\∀ j:Nat,(j:Int) < i->Z0 (a.getD j Tree.nil)=Z0 (b.getD j Tree.nil)) (fun i=> ((a.length:Int) - i).toNat) 0 rfl ⟨JX,JX,JX⟩ ?_
 rintro i ⟨u,h2,h3⟩
 refine Zv2 a b f _ _ _ ?_
 (simp only [iB,vcS])
 (simp only [vE])
 refine ⟨fun hi=> ⟨⟨u,hi⟩,⟨u,JX⟩,?_,fun s=> ?_,fun s=> ⟨V1,i+1,rfl,⟨JX,JX,?_⟩,JX⟩⟩,fun hi=> ?_⟩
 .have:=J2 (Zk (l:=a) (i:=i.toNat) JX Tree.nil)
  have:=J2 (Zk (l:=b) (i:=i.toNat) JX Tree.nil)
  simp only [Z2z];omega
 .refine Z5 rfl (Zz1 (a:=Z6 a) (b:=Z6 b) (fun h=> ?_)).symm
  have h5:=ZdF (d:=Tree.nil) h i.toNat
  rw [JQ] at s
  exact s h5
 .intro j hj
  by_cases hj2:(j:Int) < i
  .exact h3 j hj2
  .rw [J6,show i.toNat=j by omega] at s
   exact s
 .exact Z5 rfl (Z0c (a:=Z6 a) (b:=Z6 b).2 (Zmo Tree.nil hl (fun j hj=> h3 j JX))).symm
noncomputable section
def ZaE(a:List Int × Unit):List Int:=a.1
def Z4G:Fs U:=fsL ZsO (fun a=> [Zgi a]) .u64 ZaE
def Zsw:ArgL (List Tree × Unit):=(.cons (aSl .tree) .nil)
def Zg7(a:List Tree × Unit):Prop:=a.1.length<=1000000000000
def Zeq(a:List Tree × Unit):List Tree:=a.1
def Z7u:Fs U:=fsL Zsw (fun a=> [Zg7 a]) .tree Zeq
def ZcQ:ArgL (Edit × Tree × Unit):=(.cons (aEl .edit) (.cons (aEl .tree) .nil))
def Z4N(a:Edit × Tree × Unit):Prop:=(Z8 a.1<=20000000000/\ZZ a.1/\∃ d,Z3 a.1 d=true)/\Zo a.2.1+ctE a.1<=200000000000/\rng a.2.1
def ZhA(a:Edit × Tree × Unit):Nat:=2*Z8 a.1+1
def Z6N(a:Edit × Tree × Unit):V U:= .tup [(true,(enc .tree (ZdS a.1 a.2.1))),(false,[.bool ((doE false a.1 a.2.1).isSome)])]
def ZbZ:Fs U:=fs ZcQ (fun a=> [Z4N a]) Z6N
def Z5O(a:Edit × Tree × Unit):Prop:=Edit.kind a.1=2/\(Z8 a.1<=20000000000/\ZZ a.1/\∃ d,Z3 a.1 d=true)/\Zo a.2.1+ctE a.1<=200000000000/\rng a.2.1
def Zdl(a:Edit × Tree × Unit):Nat:=2*Z8 a.1
def Z5K(a:Edit × Tree × Unit):V U:= .tup [(true,(enc .tree (Z1h (ZdQ false a.1 a.2.1)))),(false,[.bool ((ZdQ false a.1 a.2.1).isSome)])]
def ZpB:Fs U:=fs ZcQ (fun a=> [Z5O a]) Z5K
def Z5N(a:Edit × Tree × Unit):Prop:=Edit.kind a.1=3/\(Z8 a.1<=20000000000/\ZZ a.1/\∃ d,Z3 a.1 d=true)/\Zo a.2.1+ctE a.1<=200000000000/\rng a.2.1
def Z5J(a:Edit × Tree × Unit):V U:= .tup [(true,(enc .tree (Zyh a.1 (Z8H false a.1 a.2.1)))),(false,[.bool ((Z22 (Z8H false a.1 a.2.1)).isSome)])]
def ZpA:Fs U:=fs ZcQ (fun a=> [Z5N a]) Z5J
def Zon:Za U:=lvk [([0],[]),([0,4],[]),([(2,[.wr .u64])],[]),([(2,[.wr .u64])],[])]
abbrev ZL6(p:List Nat):=AW (Z3Q ZoA) Tryz.f117 Zon p
theorem ZFe(l:List Int)(Q:QT)(h:(((l=[])->(Q .ret (⟨[(2,.c (.mref (.e 2 0)))],[],[(.e 2 0,LC.mk (U:=U) .u64 [] 0)]⟩:LSt U)))/\(True->((([]:List Int).length+l.length)*8<=140737488355328)/\(Q .ret (⟨[(2,.c (.mref (.e 2 0)))],[],[(.e 2 0,LC.mk (U:=U) .u64 (([]:List Int)++l) (([]:List Int).length))]⟩:LSt U))))):
  ZL6 [] (L2 [(0,.c (sU .u64 l .unk))] []) Q:=
 Eq.mpr V3 h
def ZzQ(l:List Int):Prop:=AW (Z3Q ZoA) Tryz.f117 Zon [] (Zf (ZsO.can (l,())) []) (Z1a cfg Tryz.f117.ntmps Tryz.f117.results.toList (.c (.mref (.r 0 0))) [] [(.r 0 0,LC.mk (U:=U) .u64 (ZaE (l,())) 0)])
theorem Zxm(hb:∀ (l:List Int) (_:Unit),Zgi (l,())->ZzQ l):CT 117 Z4G:=
 Z1H (l:=[]) Ze rfl trivial Zon Tryz.func117 rfl rfl 1 (fun _=> rfl) V2 (fun ⟨l,_⟩=> hb l ())
def ZxR:Za U:=lvk [([0],[]),([0,4],[]),([(2,[.wr .tree])],[]),([(2,[.wr .tree])],[])]
abbrev ZMz(p:List Nat):=AW (Z3Q ZoA) Tryz.f175 ZxR p
theorem ZJn(l:List Tree)(Q:QT)(h:(((l=[])->(Q .ret (⟨[(2,.c (.mref (.e 2 0)))],[],[(.e 2 0,LC.mk (U:=U) .tree [] 0)]⟩:LSt U)))/\(True->((([]:List Tree).length+l.length)*56<=140737488355328)/\(Q .ret (⟨[(2,.c (.mref (.e 2 0)))],[],[(.e 2 0,LC.mk (U:=U) .tree (([]:List Tree)++l) (([]:List Tree).length))]⟩:LSt U))))):
  ZMz [] (L2 [(0,.c (sU .tree l .unk))] []) Q:=
 Eq.mpr V3 h
def ZDw(l:List Tree):Prop:=AW (Z3Q ZoA) Tryz.f175 ZxR [] (Zf (Zsw.can (l,())) []) (Z1a cfg Tryz.f175.ntmps Tryz.f175.results.toList (.c (.mref (.r 0 0))) [] [(.r 0 0,LC.mk (U:=U) .tree (Zeq (l,())) 0)])
theorem ZBm(hb:∀ (l:List Tree) (_:Unit),Zg7 (l,())->ZDw l):CT 175 Z7u:=
 Z1H (l:=[]) Ze rfl trivial ZxR Tryz.func175 rfl rfl 1 (fun _=> rfl) V2 (fun ⟨l,_⟩=> hb l ())
def Zcx(N:Nat):List (FuncId × Fs U):=(74,fs ZcQ (fun a=> [Z4N a,ZhA a < N]) Z6N) ::(115,fs ZcQ (fun a=> [Z5O a,Zdl a < N]) Z5K) ::(116,fs ZcQ (fun a=> [Z5N a,Zdl a < N]) Z5J) ::[(114,YN),(173,Z2M),(174,Z2L),(177,Z1t),(175,Z7u),(176,Zam),(117,Z4G)]
def ZG8:Za U:=lvl [([2,3,4],[2,3,4]),([2,3,4,7],[2,3,4]),([2,3,4,7,8],[2,3,4]),([4,5],[4]),([2,3,4,7,11],[2,3,4]),([4,5],[4]),([2,3,4,7,19],[2,3,4]),([4,5],[4]),([2,3,4,26],[2,3,4]),([4,5],[4]),([4,5],[4])]
abbrev A74(N:Nat)(p:List Nat):=AW (Z2 (Zcx N)) Tryz.f74 ZG8 p
theorem ZLi(N:Nat)(e:Edit)(t:Tree)(Q:QT)(h:∀ u,u=e->∀ s,s=t->∀ aa,aa=(e.old)->(iB (e.kind==0) ((Q .ret (L2 [pL 4,pB 5 true] [(.loc 4,(enc .tree t))]))) ((iB (e.kind==1) ((Z2z (aa,s,()))/\(Q .ret (L2 [pL 4,pB 5 (Yf (Z0 aa) (Z0 s))] [(.loc 4,(enc .tree e.new))]))) ((iB (e.kind==2) ((Z5O (u,s,()))/\(Zdl (u,s,()) < N)/\(Q .ret (L2 [pL 4,pB 5 ((ZdQ false u s).isSome)] [(.loc 4,(enc .tree (Z1h (ZdQ false u s))))]))) ((iB (e.kind==3) ((Z5N (u,s,()))/\(Zdl (u,s,()) < N)/\(Q .ret (L2 [pL 4,pB 5 ((Z22 (Z8H false u s)).isSome)] [(.loc 4,(enc .tree (Zyh u (Z8H false u s))))]))) ((Q .ret (L2 [pL 4,pB 5 false] [(.loc 4,[ci 0,.nils,.nils])]))))))))))):
  A74 N [] (L2 [(0,.agg (enc .edit e)),(1,.agg (enc .tree t))] []) Q:=
 Eq.mpr V3 (h _ (Z7 _) _ (Z9 _) _ (Z9 _))
def ZI0(N:Nat)(e:Edit)(t:Tree):Prop:=AW (Z2 (Zcx N)) Tryz.f74 ZG8 [] (Zf (ZcQ.can (e,t,())) []) (EQ Tryz.f74 (Z6N (e,t,())) [])
abbrev ZL0:Prop:=∀ (N:Nat) (e:Edit) (t:Tree) (_:Unit),Z4N (e,t,())->ZhA (e,t,()) < N+1->ZI0 N e t
def ZqO:Za U:=lvk [([2,3,4],[2,3,4]),([2,3,4,16],[2,3,4]),([4,5],[4]),([2,3,4,6],[2,3,4,((.loc 6),[.any,.wr .u64,.wr .tree])]),([2,3,4,6,26,27,28],[2,3,4,((.loc 6),[.any,.wr .u64,.wr .tree])]),([2,3,4,6,26,27,28,29],[2,3,4,((.loc 6),[.any,.wr .u64,.wr .tree])]),([2,3,4,6,8,26,27,28],[2,3,4,((.loc 6),[.any,.wr .u64,.wr .tree]),8]),([2,3,4,6,8,9,26,27,28],[2,3,4,((.loc 6),[.any,.wr .u64,.wr .tree]),8]),([2,3,4,6,8,9,26,27,28,42],[2,3,4,((.loc 6),[.any,.wr .u64,.wr .tree]),8]),([4,5],[4]),([2,3,4,6,8,9,26,27,28,42,49],[2,3,4,((.loc 6),[.any,.wr .u64,.wr .tree]),8]),([2,3,4,6,8,9,26,27,28,42],[2,3,4,((.loc 6),[.any,.wr .u64,.wr .tree]),8]),([2,3,4,6,26,27,28],[2,3,4,((.loc 6),[.any,.wr .u64,.wr .tree])]),([2,3,4,6,26,27,28],[2,3,4,((.loc 6),[.any,.wr .u64,.wr .tree])]),([3,4,6,68,69,70],[3,4,((.loc 6),[.any,.wr .u64,.wr .tree])]),([3,4,6,68,69,70,71],[3,4,((.loc 6),[.any,.wr .u64,.wr .tree])]),([3,4,6,11,68,69,70],[3,4,((.loc 6),[.any,.wr .u64,.wr .tree]),11]),([3,4,6,11,12,13,68,69,70],[3,4,((.loc 6),[.any,.wr .u64,.wr .tree]),11,12]),([3,4,6,11,12,68,69,70,85],[3,4,((.loc 6),[.any,.wr .u64,.wr .tree]),11,12]),([4,5],[4]),([3,4,6,11,12,68,69,70,85,92],[3,4,((.loc 6),[.any,.wr .u64,.wr .tree]),11,12]),([3,4,6,11,12,68,69,70,85],[3,4,((.loc 6),[.any,.wr .u64,.wr .tree]),11,12]),([3,4,6,68,69,70],[3,4,((.loc 6),[.any,.wr .u64,.wr .tree])]),([3,4,6,68,69,70],[3,4,((.loc 6),[.any,.wr .u64,.wr .tree])]),([4,5],[4])]
def Z8i(e:Edit)(t:Tree)(s:Int)(h:List Int):LSt U:=(⟨[pL 2,pL 3,pL 4,pL 6,(26,.c (sU .wedit e.words .unk)),pI 27 (e.words.length:Int),pI 28 s],[(.loc 2,(enc .edit e)),(.loc 3,(enc .tree t)),(.loc 4,[ci 0,.nils,.nils]),(.loc 6,[ci 1,.mref (.l 6 1),.mref (.l 6 2)])],[(.l 6 1,LC.mk (U:=U) .u64 h 0),(.l 6 2,LC.mk (U:=U) .tree t.kids 0)]⟩:LSt U)
def Z8h(e:Edit)(t:Tree)(h:Int)(s:List Int):LSt U:=(⟨[pL 2,pL 3,pL 4,pL 6,pL 8,(9,.c (.int .u64 (Z0f (Tree.mk t.kind t.words t.kids) (WEdit.at_ (e.words.getD h.toNat (WEdit.mk 0 0 0 0)))))),(26,.c (sU .wedit e.words .unk)),pI 27 (e.words.length:Int),pI 28 h,(42,.c (.bool (((mix 0 (Z0f (Tree.mk t.kind t.words t.kids) (WEdit.at_ (e.words.getD h.toNat (WEdit.mk 0 0 0 0)))) (WEdit.mask (e.words.getD h.toNat (WEdit.mk 0 0 0 0)))):Int) !=(WEdit.old (e.words.getD h.toNat (WEdit.mk 0 0 0 0))))))],[(.loc 2,(enc .edit e)),(.loc 3,(enc .tree t)),(.loc 4,[ci 0,.nils,.nils]),(.loc 6,[ci 1,.mref (.l 6 1),.mref (.l 6 2)]),(.loc 8,(enc .wedit (e.words.getD h.toNat (WEdit.mk 0 0 0 0))))],[(.l 6 1,LC.mk (U:=U) .u64 s 0),(.l 6 2,LC.mk (U:=U) .tree t.kids 0)]⟩:LSt U)
def Z8g(e:Edit)(t:Tree)(s:List Int)(u:Int)(h:List Tree):LSt U:=(⟨[pL 3,pL 4,pL 6,(68,.c (sU .kid e.kids .unk)),pI 69 (e.kids.length:Int),pI 70 u],[(.loc 3,(enc .tree t)),(.loc 4,[ci 0,.nils,.nils]),(.loc 6,[ci 1,.mref (.l 6 1),.mref (.l 6 2)])],[(.l 6 1,LC.mk (U:=U) .u64 s 0),(.l 6 2,LC.mk (U:=U) .tree h 0)]⟩:LSt U)
def Z8f(e:Edit)(t:Tree)(u:List Int)(h:Int)(s:List Tree):LSt U:=(⟨[pL 3,pL 4,pL 6,pL 11,pL 12,(68,.c (sU .kid e.kids .unk)),pI 69 (e.kids.length:Int),pI 70 h,(85,.c (.bool (!((doE false (Edit.mk (Edit.kind (KidOf.e (e.kids.getD h.toNat (KidOf.mk 0 Edit.nil)))) (Tree.mk (Tree.kind (Edit.old (KidOf.e (e.kids.getD h.toNat (KidOf.mk 0 Edit.nil))))) (Tree.words (Edit.old (KidOf.e (e.kids.getD h.toNat (KidOf.mk 0 Edit.nil))))) (Tree.kids (Edit.old (KidOf.e (e.kids.getD h.toNat (KidOf.mk 0 Edit.nil)))))) (Tree.mk (Tree.kind (Edit.new (KidOf.e (e.kids.getD h.toNat (KidOf.mk 0 Edit.nil))))) (Tree.words (Edit.new (KidOf.e (e.kids.getD h.toNat (KidOf.mk 0 Edit.nil))))) (Tree.kids (Edit.new (KidOf.e (e.kids.getD h.toNat (KidOf.mk 0 Edit.nil)))))) (Edit.words (KidOf.e (e.kids.getD h.toNat (KidOf.mk 0 Edit.nil)))) (Edit.kids (KidOf.e (e.kids.getD h.toNat (KidOf.mk 0 Edit.nil)))) (Edit.list (KidOf.e (e.kids.getD h.toNat (KidOf.mk 0 Edit.nil)))) (Edit.ops (KidOf.e (e.kids.getD h.toNat (KidOf.mk 0 Edit.nil))))) (Tree.mk (Tree.kind (Z0q (Tree.mk t.kind t.words t.kids) (KidOf.at_ (e.kids.getD h.toNat (KidOf.mk 0 Edit.nil))))) (Tree.words (Z0q (Tree.mk t.kind t.words t.kids) (KidOf.at_ (e.kids.getD h.toNat (KidOf.mk 0 Edit.nil))))) (Tree.kids (Z0q (Tree.mk t.kind t.words t.kids) (KidOf.at_ (e.kids.getD h.toNat (KidOf.mk 0 Edit.nil))))))).isSome))))],[(.loc 3,(enc .tree t)),(.loc 4,[ci 0,.nils,.nils]),(.loc 6,[ci 1,.mref (.l 6 1),.mref (.l 6 2)]),(.loc 11,(enc .kid (e.kids.getD h.toNat (KidOf.mk 0 Edit.nil)))),(.loc 12,(enc .tree (ZdS (Edit.mk (Edit.kind (KidOf.e (e.kids.getD h.toNat (KidOf.mk 0 Edit.nil)))) (Tree.mk (Tree.kind (Edit.old (KidOf.e (e.kids.getD h.toNat (KidOf.mk 0 Edit.nil))))) (Tree.words (Edit.old (KidOf.e (e.kids.getD h.toNat (KidOf.mk 0 Edit.nil))))) (Tree.kids (Edit.old (KidOf.e (e.kids.getD h.toNat (KidOf.mk 0 Edit.nil)))))) (Tree.mk (Tree.kind (Edit.new (KidOf.e (e.kids.getD h.toNat (KidOf.mk 0 Edit.nil))))) (Tree.words (Edit.new (KidOf.e (e.kids.getD h.toNat (KidOf.mk 0 Edit.nil))))) (Tree.kids (Edit.new (KidOf.e (e.kids.getD h.toNat (KidOf.mk 0 Edit.nil)))))) (Edit.words (KidOf.e (e.kids.getD h.toNat (KidOf.mk 0 Edit.nil)))) (Edit.kids (KidOf.e (e.kids.getD h.toNat (KidOf.mk 0 Edit.nil)))) (Edit.list (KidOf.e (e.kids.getD h.toNat (KidOf.mk 0 Edit.nil)))) (Edit.ops (KidOf.e (e.kids.getD h.toNat (KidOf.mk 0 Edit.nil))))) (Tree.mk (Tree.kind (Z0q (Tree.mk t.kind t.words t.kids) (KidOf.at_ (e.kids.getD h.toNat (KidOf.mk 0 Edit.nil))))) (Tree.words (Z0q (Tree.mk t.kind t.words t.kids) (KidOf.at_ (e.kids.getD h.toNat (KidOf.mk 0 Edit.nil))))) (Tree.kids (Z0q (Tree.mk t.kind t.words t.kids) (KidOf.at_ (e.kids.getD h.toNat (KidOf.mk 0 Edit.nil)))))))))],[(.l 6 1,LC.mk (U:=U) .u64 u 0),(.l 6 2,LC.mk (U:=U) .tree s 0)]⟩:LSt U)
abbrev Zll(N:Nat)(p:List Nat):=AW (Z2 (Zcx N)) Tryz.f115 ZqO p
abbrev Z8I(N:Nat)(p:List Nat):=SW (Z2 (Zcx N)) Tryz.f115 ZqO p
theorem ZJU(N:Nat)(e:Edit)(t:Tree)(Q:QT)(h:(iB (t.kind !=1) ((Q .ret (L2 [pL 4,pB 5 false] [(.loc 4,[ci 0,.nils,.nils])]))) ((Zgi (t.words,()))/\(Zg7 (t.kids,()))/\(Zp (Zll N [1,1,1,0,1,0,0]) (Z8i e t 0 t.words) (xB 0 (Z8I N [1,1,1,1] Q)))))):
  Zll N [] (L2 [(0,.agg (enc .edit e)),(1,.agg (enc .tree t))] []) Q:=
 Eq.mpr V3 h
theorem Zvm(N:Nat)(e:Edit)(t:Tree)(aa:Int)(s:List Int)(N0:NT)(Q:QT)(h:∀ ab,ab=t->∀ u,u=(e.words.getD aa.toNat (WEdit.mk 0 0 0 0))->(iB (decide (aa < (e.words.length:Int))) (((0:Int)<=aa/\aa < (e.words.length:Int))/\((Zcc (ab,u.at_,()))/\((Zkf (0,(Z0f ab u.at_),u.mask,()))/\(iB (((mix 0 (Z0f ab u.at_) u.mask):Int) !=u.old) ((Q .ret (L2 [pL 4,pB 5 false] [(.loc 4,[ci 0,.nils,.nils])]))) (Zp (Zll N [1,1,1,0,1,0,0,1,1,0,0,1,1,1,0,0,0]) (Z8h e t aa s) (xB 2 (Z8I N [1,1,1,0,1,0,0,1,1,0,0,1,1,1,1] (xB 1 (Z8I N [1,1,1,0,1,0,0,1,1,1] (xT N0 (xB 0 (Z8I N [1,1,1,1] Q)))))))))))) ((Zp (Zll N [1,1,1,1,0,1,0,0]) (Z8g e t s 0 t.kids) (xB 4 (Z8I N [1,1,1,1,1] Q)))))):
  Zll N [1,1,1,0,1,0,0] (Z8i e t aa s) (xT N0 (xB 0 (Z8I N [1,1,1,1] Q))):=
 Eq.mpr V3 (h _ (Z9 _) _ rfl)
theorem Zvl(N:Nat)(e:Edit)(t:Tree)(u:Int)(s:List Int)(N1 N0:NT)(Q:QT)(h:let z0:=e.words.getD u.toNat (WEdit.mk 0 0 0 0);let z1:=Z0f (Tree.mk t.kind t.words t.kids) (WEdit.at_ z0);(iB (decide (((s.length:Int):Int)<=(WEdit.at_ z0))) (((s.length+([0]).length)*8<=140737488355328)/\(N1 (Z8h e t u (s++([0]))))) ((Zkf (z1,(WEdit.new z0),(WEdit.mask z0),()))/\((0:Int)<=(WEdit.at_ z0)/\(WEdit.at_ z0) < (s.length:Int))/\((0:Nat)<=(Int.toNat (WEdit.at_ z0)))/\((InR (u+1))/\(N0 (Z8i e t (u+1) (List.set s (Int.toNat (WEdit.at_ z0)) (mix z1 (WEdit.new z0) (WEdit.mask z0))))))))):
  Zll N [1,1,1,0,1,0,0,1,1,0,0,1,1,1,0,0,0] (Z8h e t u s) (xT N1 (xB 2 (Z8I N [1,1,1,0,1,0,0,1,1,0,0,1,1,1,1] (xB 1 (Z8I N [1,1,1,0,1,0,0,1,1,1] (xT N0 (xB 0 (Z8I N [1,1,1,1] Q)))))))):=
 Eq.mpr V3 h
theorem Zvk(N:Nat)(e:Edit)(t:Tree)(aa:List Int)(u:Int)(s:List Tree)(N2:NT)(Q:QT)(h:∀ ah,ah=t->∀ ab,ab=(e.kids.getD u.toNat (KidOf.mk 0 Edit.nil))->∀ ae,ae=(ab.e)->∀ af,af=(Z0q ah ab.at_)->(iB (decide (u < (e.kids.length:Int))) (((0:Int)<=u/\u < (e.kids.length:Int))/\((Zcc (ah,ab.at_,()))/\(Z4N (ae,af,()))/\(ZhA (ae,af,()) < N)/\(iB (!((doE false ae af).isSome)) ((Q .ret (L2 [pL 4,pB 5 false] [(.loc 4,[ci 0,.nils,.nils])]))) (Zp (Zll N [1,1,1,1,0,1,0,0,1,1,0,0,1,1,1,0,0,0]) (Z8f e t aa u s) (xB 6 (Z8I N [1,1,1,1,0,1,0,0,1,1,0,0,1,1,1,1] (xB 5 (Z8I N [1,1,1,1,0,1,0,0,1,1,1] (xT N2 (xB 4 (Z8I N [1,1,1,1,1] Q))))))))))) ((Q .ret (L2 [pL 4,pB 5 true] [(.loc 4,[ci 1,sU .u64 aa (.own (.l 4 1)),sU .tree s (.own (.l 4 2))])]))))):
  Zll N [1,1,1,1,0,1,0,0] (Z8g e t aa u s) (xT N2 (xB 4 (Z8I N [1,1,1,1,1] Q))):=
 Eq.mpr V3 (h _ (Z9 _) _ rfl _ (Z7 _) _ (Z9 _))
theorem Zvj(N:Nat)(e:Edit)(t:Tree)(aa:List Int)(u:Int)(s:List Tree)(N3 N2:NT)(Q:QT)(h:∀ ae,ae=t->∀ ab,ab=(e.kids.getD u.toNat (KidOf.mk 0 Edit.nil))->∀ af,af=(ab.e)->∀ ai,ai=(Z0q ae ab.at_)->∀ ah,ah=(ZdS af ai)->(iB (decide (((s.length:Int):Int)<=ab.at_)) (((s.length+([(Tree.mk 0 [] [])]).length)*56<=140737488355328)/\(N3 (Z8f e t aa u (s++([(Tree.mk 0 [] [])]))))) (((0:Int)<=ab.at_/\ab.at_ < (s.length:Int))/\((0:Nat)<=(Int.toNat ab.at_))/\((InR (u+1))/\(N2 (Z8g e t aa (u+1) (List.set s (Int.toNat ab.at_) ah))))))):
  Zll N [1,1,1,1,0,1,0,0,1,1,0,0,1,1,1,0,0,0] (Z8f e t aa u s) (xT N3 (xB 6 (Z8I N [1,1,1,1,0,1,0,0,1,1,0,0,1,1,1,1] (xB 5 (Z8I N [1,1,1,1,0,1,0,0,1,1,1] (xT N2 (xB 4 (Z8I N [1,1,1,1,1] Q)))))))):=
 Eq.mpr V3 (h _ (Z9 _) _ rfl _ (Z7 _) _ (Z9 _) _ (Z9 _))
def ZE3(N:Nat)(e:Edit)(t:Tree):Prop:=AW (Z2 (Zcx N)) Tryz.f115 ZqO [] (Zf (ZcQ.can (e,t,())) []) (EQ Tryz.f115 (Z5K (e,t,())) [])
abbrev ZEZ:Prop:=∀ (N:Nat) (e:Edit) (t:Tree) (_:Unit),Z5O (e,t,())->Zdl (e,t,()) < N+1->ZE3 N e t
def ZqN:Za U:=lvk [([2,3,4],[2,3,4]),([2,3,4,18],[2,3,4]),([4,5],[4]),([2,3,4,6],[2,3,4,6]),([2,4,6,7],[2,4,6]),([4,6,7,26,27,28],[4,((.loc 6),[.any,.any,.own .tree])]),([4,6,7,26,27,28,29],[4,6]),([4,6,7,9,26,27,28],[4,6,9]),([4,6,7,9,10,26,27,28],[4,6,9]),([4,6,7,9,10,26,27,28,35],[4,6,9]),([4,6,7,9,10,26,27,28,35,36],[4,6,9]),([4,6,7,26,27,28,97],[4,6]),([4,6,7,9,10,26,27,28,35,44],[4,6,9]),([4,6,7,9,10,26,27,28,49],[4,6,9]),([4,6,7,9,10,26,27,28,49],[4,6,9]),([4,6,7,9,10,26,27,28,49],[4,6,9]),([4,6,7,9,10,26,27,28,54],[4,6,9]),([4,5],[4]),([4,6,7,9,10,26,27,28],[4,6,9]),([4,6,7,9,11,26,27,28],[4,6,9]),([4,6,7,12,13,26,27,28],[4,6,12]),([4,6,7,12,26,27,28,72],[4,6,12]),([4,5],[4]),([4,6,7,26,27,28,97],[4,6]),([4,6,7,9,11,26,27,28,80],[4,6,9]),([4,6,7,26,27,28,97],[4,6]),([4,6,7,9,11,26,27,28,89],[4,6,9]),([4,6,7,26,27,28,97],[4,6]),([4,5],[4]),([4,6,7,26,27,28],[4,((.loc 6),[.any,.any,.own .tree])]),([4,5],[4])]
def Z1X(e:Edit)(t:Tree)(s:Int)(u h:List Tree):LSt U:=(L2 [pL 4,pL 6,(7,.c (sU .tree u .unk)),(26,.c (sU .op e.ops .unk)),pI 27 (e.ops.length:Int),pI 28 s] [(.loc 4,[ci 0,.nils,.nils]),(.loc 6,[ci t.kind,.nils,sU .tree h (.own (.l 6 2))])])
def Z3l(e:Edit)(t:Tree)(aa:Int)(u h:List Tree)(s:V U):LSt U:=(L2 [pL 4,pL 6,(7,.c (sU .tree u .unk)),(26,.c (sU .op e.ops .unk)),pI 27 (e.ops.length:Int),pI 28 aa,(97,s)] [(.loc 4,[ci 0,.nils,.nils]),(.loc 6,[ci t.kind,.nils,sU .tree h (.own (.l 6 2))])])
def Z8e(e:Edit)(t:Tree)(aa:Int)(x7 u:List Tree)(h:Int)(s:V U):LSt U:=(L2 [pL 4,pL 6,(7,.c (sU .tree x7 .unk)),pL 9,pI 10 h,(26,.c (sU .op e.ops .unk)),pI 27 (e.ops.length:Int),pI 28 aa,(49,s)] [(.loc 4,[ci 0,.nils,.nils]),(.loc 6,[ci t.kind,.nils,sU .tree u (.own (.l 6 2))]),(.loc 9,(enc .op (e.ops.getD aa.toNat Op.nil)))])
abbrev ZcR(N:Nat)(p:List Nat):=AW (Z2 (Zcx N)) Tryz.f116 ZqN p
abbrev Zlj(N:Nat)(p:List Nat):=SW (Z2 (Zcx N)) Tryz.f116 ZqN p
theorem ZJT(N:Nat)(e:Edit)(t:Tree)(Q:QT)(h:(iB (t.kind !=e.list) ((Q .ret (L2 [pL 4,pB 5 false] [(.loc 4,[ci 0,.nils,.nils])]))) ((Zp (ZcR N [1,1,1,1,0,1,0,0]) (Z1X e t 0 t.kids []) (xB 0 (Zlj N [1,1,1,1,1] Q)))))):
  ZcR N [] (L2 [(0,.agg (enc .edit e)),(1,.agg (enc .tree t))] []) Q:=
 Eq.mpr V3 h
theorem Zvh(N:Nat)(e:Edit)(t:Tree)(aa:Int)(x7 s:List Tree)(N0:NT)(Q:QT)(h:∀ u,u=(e.ops.getD aa.toNat Op.nil)->let z1:=xT N0 (xB 0 (Zlj N [1,1,1,1,1] Q));let z0:=xB 1 (Zlj N [1,1,1,1,0,1,0,0,1,1,1] z1);(iB (decide (aa < (e.ops.length:Int))) (((0:Int)<=aa/\aa < (e.ops.length:Int))/\(iB (u.kind==2) (((s.length+u.l.length)*56<=140737488355328)/\(ZcR N [1,1,1,1,0,1,0,0,1,1,1] (Z3l e t aa x7 (s++u.l) .junk) z1)) ((iB (u.kind==1) ((ZcR N [1,1,1,1,0,1,0,0,1,1,0,0,1,1,1] (Z8e e t aa x7 s (u.l.length:Int) .junk) z0)) ((iB (u.kind==3) ((ZcR N [1,1,1,1,0,1,0,0,1,1,0,0,1,1,1] (Z8e e t aa x7 s 1 (.c (.bool (u.kind==3)))) z0)) (ZcR N [1,1,1,1,0,1,0,0,1,1,0,0,1,1,1] (Z8e e t aa x7 s u.n (.c (.bool (u.kind==3)))) z0))))))) ((Q .ret (L2 [pL 4,pB 5 (((x7.length:Int):Int)==0)] [(.loc 4,[ci t.kind,.nils,sU .tree s (.own (.l 4 2))])]))))):
  ZcR N [1,1,1,1,0,1,0,0] (Z1X e t aa x7 s) (xT N0 (xB 0 (Zlj N [1,1,1,1,1] Q))):=
 Eq.mpr V3 (h _ rfl)
theorem Zvi(N:Nat)(e:Edit)(t:Tree)(aa:Int)(u s:List Tree)(ab:V U)(N0:NT)(Q:QT)(h:(InR (aa+1))/\(N0 (Z1X e t (aa+1) u s))):
  ZcR N [1,1,1,1,0,1,0,0,1,1,1] (Z3l e t aa u s ab) (xT N0 (xB 0 (Zlj N [1,1,1,1,1] Q))):=
 Eq.mpr V3 h
theorem ZeY(N:Nat)(e:Edit)(t:Tree)(ab:Int)(x7 u:List Tree)(s:Int)(aj:V U)(N0:NT)(Q:QT)(h:∀ aa,aa=(e.ops.getD ab.toNat Op.nil)->∀ al,al=(List.getD (List.take s.toNat x7) (Int.toNat 0) Tree.nil)->∀ ae,ae=al->∀ af,af=(aa.e)->∀ ak,ak=(eqX (Z6 aa.l) (Z6 (List.take s.toNat x7)))->∀ ai,ai=(ZdS af ae)->let z3:=List.drop s.toNat x7;let z2:=List.take s.toNat x7;let z1:=xT N0 (xB 0 (Zlj N [1,1,1,1,1] Q));let z0:=(Q .ret (L2 [pL 4,pB 5 false] [(.loc 4,[ci 0,.nils,.nils])]));(iB (decide (((x7.length:Int):Int) < s)) z0 ((((0:Int)<=s/\s<=(x7.length:Int))/\((0:Int)<=s/\s<=(x7.length:Int))/\(iB (aa.kind==0) (((u.length+z2.length)*56<=140737488355328)/\(ZcR N [1,1,1,1,0,1,0,0,1,1,1] (Z3l e t ab z3 (u++z2) .junk) z1)) ((iB (aa.kind==1) ((Z9o (aa.l,z2,(),()))/\(iB (!ak) z0 (ZcR N [1,1,1,1,0,1,0,0,1,1,1] (Z3l e t ab z3 u (.c (.bool (!ak)))) z1))) (((0:Int)<=0/\0 < (z2.length:Int))/\(Z4N (af,ae,()))/\(ZhA (af,ae,()) < N)/\(iB (!((doE false af ae).isSome)) z0 (((u.length+([ai]).length)*56<=140737488355328)/\(ZcR N [1,1,1,1,0,1,0,0,1,1,1] (Z3l e t ab z3 (u++([ai])) .junk) z1))))))))))):
  ZcR N [1,1,1,1,0,1,0,0,1,1,0,0,1,1,1] (Z8e e t ab x7 u s aj) (xB 1 (Zlj N [1,1,1,1,0,1,0,0,1,1,1] (xT N0 (xB 0 (Zlj N [1,1,1,1,1] Q))))):=
 Eq.mpr V3 (h _ rfl _ rfl _ (Z9 _) _ (Z7 _) _ rfl _ (Z9 _))
def ZE2(N:Nat)(e:Edit)(t:Tree):Prop:=AW (Z2 (Zcx N)) Tryz.f116 ZqN [] (Zf (ZcQ.can (e,t,())) []) (EQ Tryz.f116 (Z5J (e,t,())) [])
abbrev ZEY:Prop:=∀ (N:Nat) (e:Edit) (t:Tree) (_:Unit),Z5N (e,t,())->Zdl (e,t,()) < N+1->ZE2 N e t
theorem ZAI(Z9K:CT 114 YN)(Zus:CT 173 Z2M)(Zur:CT 174 Z2L)(ZkX:CT 177 Z1t)(ZH5:CT 175 Z7u)(Z9J:CT 176 Zam)(Zzj:CT 117 Z4G)(b74:ZL0)(ZHF:ZEZ)(ZHE:ZEY):
  CT 74 ZbZ/\CT 115 ZpB/\CT 116 ZpA:=by
 have ab:FK 74:=⟨Tryz.f74,Tryz.func74,rfl,rfl⟩
 have s:FK 115:=⟨Tryz.f115,Tryz.func115,rfl,rfl⟩
 have u:FK 116:=⟨Tryz.f116,Tryz.func116,rfl,rfl⟩
 have aa:∀ N,CT 74 (fs ZcQ (fun a=> [Z4N a,ZhA a < N]) Z6N)/\CT 115 (fs ZcQ (fun a=> [Z5O a,Zdl a < N]) Z5K)/\CT 116 (fs ZcQ (fun a=> [Z5N a,Zdl a < N]) Z5J):=by
  intro N
  induction N with
  | zero=> exact ⟨JY ab,JY s,JY u⟩
  | succ N ih=>
   have kn:=Z0a (l:=Zcx N) ⟨ih.1,ih.2.1,ih.2.2,Z9K,Zus,Zur,ZkX,ZH5,Z9J,Zzj,trivial⟩
   exact ⟨ZO (Γ:=Z2 (Zcx N)) Ze rfl kn ZG8 Tryz.func74 rfl rfl (fun a=> by show 2<=_;decide) (fun ⟨e,t,_⟩ h=> b74 N e t () h.1 h.2.1),
    ZO (Γ:=Z2 (Zcx N)) Ze rfl kn ZqO Tryz.func115 rfl rfl (fun a=> by show 2<=_;decide) (fun ⟨e,t,_⟩ h=> ZHF N e t () h.1 h.2.1),
    ZO (Γ:=Z2 (Zcx N)) Ze rfl kn ZqN Tryz.func116 rfl rfl (fun a=> by show 2<=_;decide) (fun ⟨e,t,_⟩ h=> ZHE N e t () h.1 h.2.1)⟩
 exact ⟨JZ ab fun N=> (aa N).1,JZ s fun N=> (aa N).2.1,JZ u fun N=> (aa N).2.2⟩
end
noncomputable section
def Zq1(a:Edit × Tree × Unit):V U:= .tup [(true,(enc .tree (Z1h ((doE false a.1 a.2.1).map Z0)))),(false,[.bool ((doE false a.1 a.2.1).isSome)])]
def JD:Fs U:=fs ZcQ (fun a=> [Z4N a]) Zq1
def ZyQ:List (FuncId × Fs U):=[(75,Z07),(74,ZbZ)]
def ZGl:Za U:=lvl [([2,3,4],[2,3,4]),([4,6,7],[4,6]),([4,6,15],[4,6]),([4,5],[4]),([4,5],[4])]
abbrev A25(p:List Nat):=AW (Z2 ZyQ) Tryz.f25 ZGl p
theorem ZLB(e:Edit)(t:Tree)(Q:QT)(h:∀ s,s=e->∀ u,u=t->∀ aa,aa=(ZdS s u)->((Z4N (s,u,()))/\(iB (!((doE false s u).isSome)) ((Q .ret (L2 [pL 4,pB 5 false] [(.loc 4,[ci 0,.nils,.nils])]))) ((Z2l (aa,()))/\(Q .ret (L2 [pL 4,pB 5 true] [(.loc 4,(enc .tree (Z0 aa)))])))))):
  A25 [] (L2 [(0,.agg (enc .edit e)),(1,.agg (enc .tree t))] []) Q:=
 Eq.mpr V3 (h _ (Z7 _) _ (Z9 _) _ (Z9 _))
def ZIj(e:Edit)(t:Tree):Prop:=AW (Z2 ZyQ) Tryz.f25 ZGl [] (Zf (ZcQ.can (e,t,())) []) (EQ Tryz.f25 (Zq1 (e,t,())) [])
theorem ZFY(c75:CT 75 Z07)(c74:CT 74 ZbZ)(hb:∀ (e:Edit) (t:Tree) (_:Unit),Z4N (e,t,())->ZIj e t):CT 25 JD:=
 Z1 (l:=[(75,Z07),(74,ZbZ)]) Ze rfl (⟨c75,c74,trivial⟩) ZGl Tryz.func25 rfl rfl 2 (fun _=> rfl) V2 (fun ⟨e,t,_⟩=> hb e t ())
end
theorem Zzj:Contract Tryz.prog cfg 117 Z4G:=by
 refine Zxm ?_
 intro l _ s
 simp only [Zgi] at s
 refine ZFe _ _ ⟨fun h=> ?_,fun _=> ⟨by simp only [Qp];omega,?_⟩⟩
 .subst h
  simp only [ZaE]
  exact V0
 .simp only [ZaE]
  exact V0
theorem ZH5:Contract Tryz.prog cfg 175 Z7u:=by
 refine ZBm ?_
 intro l _ s
 simp only [Zg7] at s
 refine ZJn _ _ ⟨fun h=> ?_,fun _=> ⟨by simp only [Qp];omega,?_⟩⟩
 .subst h
  simp only [Zeq]
  exact V0
 .simp only [Zeq]
  exact V0
theorem ZhX{α:Type}(z:α){l:List α}{i:Nat}(h:i < l.length)(x:α):YG z l i x=l.set i x:=by
 simp only [YG];rw [show i+1 - l.length=0 by omega];simp
theorem Zd0{α:Type}(z:α){l:List α}{i:Nat}(h:l.length<=i)(x:α):YG z (l++[z]) i x=YG z l i x:=by
 simp only [YG,Qk,XJ,Qo]
 rw [show i+1 - l.length=(i+1 - (l.length+1))+1 by omega,Kg]
 try rfl
theorem Zxg(t:Tree):t.words.length+Zg t.kids+1=Zo t:=by obtain ⟨k,w,ks⟩:=t;simp only [Zo,Tree.words_mk,Tree.kids_mk];omega
theorem ZvR{t:Tree}(h:rng t):InR t.kind/\(∀ x∈t.words,isW x)/\Yx t.kids:=by obtain ⟨k,w,ks⟩:=t;exact h
theorem ZpN{ks:List Tree}(h:Yx ks)(i:Nat):rng (ks.getD i Tree.nil):=by
 by_cases hi:i < ks.length
 .exact YC h (Zk hi _)
 .rw [Qq,QQ JX]
  trivial
theorem Zml(ks:List Tree)(i:Nat):Zo (ks.getD i Tree.nil)<=Zg ks+1:=by
 by_cases hi:i < ks.length
 .have:=J2 (Zk hi Tree.nil);omega
 .rw [Qq,QQ JX]
  simp [Tree.nil,Zo,Zg]
theorem Zu3(t:Tree){i:Int}(h:0<=i):Z0q t i=t.kids.getD i.toNat Tree.nil:=by unfold Z0q;grind
theorem Znj(t:Tree){i:Int}(h:0<=i):Z0f t i=t.words.getD i.toNat 0:=by unfold Z0f;omega
theorem ZzV{l:List Int}(h:∀ x∈l,isW x)(i:Nat):isW (l.getD i 0):=by
 by_cases hi:i < l.length
 .grind
 .rw [Qq,QQ JX];trivial
theorem b74:ZL0:=by
 intro N e t _ hp hN
 simp only [Z4N,ZhA] at hp hN
 obtain ⟨⟨p1,p2,d,p3⟩,p4,p5⟩:=hp
 have h1:=YK e
 have h2:=Z5E p2
 have u:=Z18 false e t
 rw [YA] at u
 refine ZLi _ _ _ _ ?_
 rintro y1 ai y2 ah y3 aj
 subst ai ah aj
 (simp only [iB,vcT,vcS])
 refine ⟨fun hk=> ?_,fun hk=> ⟨fun h=> ⟨by simp only [Z2z];omega,?_⟩,fun h=> ⟨fun s=> ⟨by simp only [Z5O];grind,by simp only [Zdl];omega,?_⟩,fun s=> ⟨fun ab=> ⟨by simp only [Z5N];grind,by simp only [Zdl];omega,?_⟩,fun ab=> ?_⟩⟩⟩⟩
 .rw [if_pos hk] at u
  simp only [Z6N,ZdS,if_pos hk,u]
  exact V0
 .rw [if_neg hk,if_pos h] at u
  simp only [Z6N,ZdS,if_neg hk,if_pos h,u]
  cases Yf (Z0 y1.old) (Z0 y2) <;> (repeat' (first | exact trivial | exact rfl | apply And.intro))
 .rw [if_neg hk,if_neg h,if_pos s] at u
  simp only [Z6N,ZdS,if_neg hk,if_neg h,if_pos s,u]
  exact V0
 .rw [if_neg hk,if_neg h,if_neg s,if_pos ab] at u
  simp only [Z6N,ZdS,if_neg hk,if_neg h,if_neg s,if_pos ab,u]
  have e2:(if y2.kind=y1.list then (Z22 (ZM false y1.ops y2.kids [])).map fun b=> Tree.mk y1.list [] b else none).isSome=(Z22 (Z8H false y1 y2)).isSome:=by
   unfold Z8H
   split
   .grind
   .try rfl
  rw [e2]
  exact V0
 .rw [if_neg hk,if_neg h,if_neg s,if_neg ab] at u
  simp only [Z6N,ZdS,if_neg hk,if_neg h,if_neg s,if_neg ab,u]
  exact V0
theorem ZHF:ZEZ:=by
 intro N e t _ hp hN
 simp only [Z5O,Zdl] at hp hN
 obtain ⟨k2,⟨p1,p2,d,p3⟩,p4,p5⟩:=hp
 have h1:=YK e
 have h2:=Yb e.kids
 have h3:=Zxg t
 have h4:=Zy t.kids
 have r2:=Z5E p2
 have rt:=ZvR p5
 have ri:=Zh p3
 refine ZJU _ _ _ _ ?_
 (simp only [iB,vcT,vcS])
 have no:ZdQ false e t=none->Y7 cfg Tryz.f115.ntmps Tryz.f115.results.toList (Z5K (e,t,())) [] .ret (⟨[(4,.ptr (.loc 4) 0),(5,.c (.bool false))],[((.loc 4),[.int .i64 0,.nils,.nils])],[]⟩:LSt U):=by
  intro hs
  simp only [Z5K,hs]
  exact V0
 refine ⟨fun hk=> no (by unfold ZdQ;rw [if_neg hk]),fun hk=> ?_⟩
 have hk:t.kind=1:=by simpa using hk
 refine ⟨by simp only [Zgi];omega,by simp only [Zg7];omega,?_⟩
 refine Zc (ι:=Int × List Int) (fun s=> Z8i e t s.1 s.2) (fun s=> 0<=s.1/\s.1<=e.words.length/\wsD t.words (e.words.drop s.1.toNat) s.2=wsD t.words e.words t.words/\s.2.length<=t.words.length+65536) (fun s=> ((e.words.length:Int) - s.1).toNat) (0,t.words) rfl ⟨by simp,by simp,by simp,by simp⟩ ?_
 rintro ⟨i,out⟩ ⟨f1,f2,f3,f4⟩
 dsimp only at f1 f2 f3 f4
 refine Zvm _ _ _ _ _ _ _ ?_
 rintro y1 am y2 ae
 subst am
 (simp only [iB,vcT,vcS])
 refine ⟨fun hi=> ?_,fun hi=> ?_⟩
 .have h:=Zk (l:=e.words) (i:=i.toNat) JX (WEdit.mk 0 0 0 0)
  rw [YE f1 hi (WEdit.mk 0 0 0 0),<-ae] at f3
  rw [<-ae] at h
  have hw:=YQ ri.words y2 h
  obtain ⟨g1,g2,g3,g4⟩:=r2.2.2.2.1 y2 h
  have ah:Z0f y1 y2.at_=y1.words.getD y2.at_.toNat 0:=Znj y1 JX
  have a0:=ZzV rt.2.1 y2.at_.toNat
  rw [wsD] at f3
  rw [ah]
  unfold isW at g3 g4 a0
  refine ⟨⟨f1,hi⟩,by simp only [Zcc],by simp only [Zkf];omega,fun af=> no ?_,fun ai=> ?_⟩
  .rw [if_neg af] at f3
   unfold ZdQ
   rw [if_pos hk,<-f3]
   try rfl
  .have ai:mix 0 (y1.words.getD y2.at_.toNat 0) y2.mask=y2.old:=by simpa using ai
   rw [if_pos ai] at f3
   refine Zc (ι:=List Int) (fun s=> Z8h e y1 i s) (fun s=> (∀ v,YG 0 s y2.at_.toNat v=YG 0 out y2.at_.toNat v)/\s.length<=y1.words.length+65536) (fun s=> (y2.at_+1 - s.length).toNat) out rfl ⟨fun v=> rfl,f4⟩ ?_
   rintro s ⟨q1,q2⟩
   refine Zvl _ _ _ _ _ _ _ _ ?_
   (simp only [vE])
   rw [<-ae,ah]
   (simp only [iB,vcT,vcS])
   refine ⟨fun hl=> ⟨by simp;omega,s++[0],rfl,⟨fun v=> ?_,by simp;omega⟩,by simp;omega⟩,fun hl=> ?_⟩
   .rw [Zd0 0 JX,q1]
   .have hl:y2.at_ < s.length:=JX
    refine ⟨by simp only [Zkf];omega,JX,JX,V1,(i+1,s.set y2.at_.toNat (mix (y1.words.getD y2.at_.toNat 0) y2.new y2.mask)),rfl,⟨V4,V4,?_,by simp only [List.length_set];omega⟩,V4⟩
    dsimp only
    rw [<-f3,<-ZhX 0 JX,q1]
 .rw [Qc JX,wsD] at f3
  refine Zc (ι:=Int × List Tree) (fun s=> Z8g e y1 out s.1 s.2) (fun s=> 0<=s.1/\s.1<=e.kids.length/\Jy false y1.kids (e.kids.drop s.1.toNat) s.2=Jy false y1.kids e.kids y1.kids/\s.2.length<=y1.kids.length+65536) (fun s=> ((e.kids.length:Int) - s.1).toNat) (0,y1.kids) rfl ⟨by simp,by simp,by simp,by simp⟩ ?_
  rintro ⟨j,ks⟩ ⟨e1,e2,e3,e4⟩
  dsimp only at e1 e2 e3 e4
  refine Zvk _ _ _ _ _ _ _ _ ?_
  rintro y1 am y2 ae y3 ao y4 ak
  subst am
  (simp only [iB,vcT,vcS])
  refine ⟨fun hj=> ?_,fun hj=> ?_⟩
  .have h:=Zk (l:=e.kids) (i:=j.toNat) JX (KidOf.mk 0 Edit.nil)
   rw [YE e1 hj (KidOf.mk 0 Edit.nil),<-ae] at e3
   rw [<-ae] at h
   have ay:=Zs ri.kids y2 h
   have hm:=Z0n h
   have a1:=Zhg h
   have bo:=Z23 e
   have hr:=(Y6 r2.2.2.2.2.2.1 h).2
   have ah:Z0q y1 y2.at_=y1.kids.getD y2.at_.toNat Tree.nil:=Zu3 y1 JX
   rw [ah] at ak
   have a2:=Zml y1.kids y2.at_.toNat
   have aw:=ZpN rt.2.2 y2.at_.toNat
   rw [Jy,Z5a,<-ak,<-ao] at e3
   rw [<-ak] at a2 aw
   rw [<-ao] at hm hr ay a1
   refine ⟨⟨e1,hj⟩,by simp only [Zcc],by simp only [Z4N];exact ⟨⟨JX,hr,_,ay.2⟩,JX,aw⟩,by simp only [ZhA];omega,fun af=> no ?_,fun ai=> ?_⟩
   .have af:doE false y3 y4=none:=by simpa using af
    rw [af] at e3
    unfold ZdQ
    rw [if_pos hk,<-f3,<-e3]
    try rfl
   .obtain ⟨u,hu⟩:=X4.1 ai
    rw [hu,Qn] at e3
    refine Zc (ι:=List Tree) (fun s=> Z8f e y1 out j s) (fun s=> (∀ v,YG Tree.nil s y2.at_.toNat v=YG Tree.nil ks y2.at_.toNat v)/\s.length<=y1.kids.length+65536) (fun s=> (y2.at_+1 - s.length).toNat) ks rfl ⟨fun v=> rfl,e4⟩ ?_
    rintro s ⟨q1,q2⟩
    refine Zvj _ _ _ _ _ _ _ _ _ ?_
    rintro z1 a5 z2 av z3 ar z4 aq z5 ax
    rw [<-ae] at av
    subst a5 av
    rw [<-ao] at ar
    subst ar
    rw [ah,<-ak] at aq
    subst aq
    rw [Zcm hu] at ax
    subst ax
    (simp only [iB,vcT,vcS])
    refine ⟨fun hl=> ⟨by simp;omega,s++[Tree.nil],rfl,⟨fun v=> ?_,by simp;omega⟩,by simp;omega⟩,fun hl=> ?_⟩
    .rw [Zd0 Tree.nil JX,q1]
    .have hl:z2.at_ < s.length:=JX
     refine ⟨JX,JX,V1,(j+1,s.set z2.at_.toNat z5),rfl,⟨V4,V4,?_,by simp only [List.length_set];omega⟩,V4⟩
     dsimp only
     rw [<-e3,<-ZhX Tree.nil JX,q1]
  .rw [Qc JX,Jy] at e3
   have hs:ZdQ false e y1=some (.mk 1 out ks):=by
    unfold ZdQ
    rw [if_pos hk,<-f3,<-e3]
    try rfl
   simp only [Z5K,hs]
   exact V0
theorem Zuf(r:Bool)(o:Op)(s:List Op)(rest out:List Tree):ZM r (o ::s) rest out=(Z2C r o rest out).bind fun x=> ZM r s x.2 x.1:=by rw [ZM]
theorem Z39{ks:List Tree}(h:Yx ks)(n:Nat):Yx (ks.drop n):=by
 induction n generalizing ks with
 | zero=> exact h
 | succ n ih=> cases ks with
  | nil=> exact h
  | cons a r=> exact ih h.2
theorem ZHE:ZEY:=by
 intro N e t _ hp hN
 simp only [Z5N,Zdl] at hp hN
 obtain ⟨k3,⟨p1,p2,d,p3⟩,p4,p5⟩:=hp
 have h1:=YK e
 have h2:=Yo e.ops
 have h3:=Zxg t
 have h4:=Zy t.kids
 have r2:=Z5E p2
 have rt:=ZvR p5
 have ri:=Zh p3
 refine ZJT _ _ _ _ ?_
 (simp only [iB,vcT,vcS])
 have no:Z8H false e t=none->Y7 cfg Tryz.f116.ntmps Tryz.f116.results.toList (Z5J (e,t,())) [] .ret (⟨[(4,.ptr (.loc 4) 0),(5,.c (.bool false))],[((.loc 4),[.int .i64 0,.nils,.nils])],[]⟩:LSt U):=by
  intro hs
  simp only [Z5J,hs]
  exact V0
 refine ⟨fun hk=> no (by unfold Z8H;rw [if_neg hk]),fun hk=> ?_⟩
 have hk:t.kind=e.list:=by simpa using hk
 have bk:Z8H false e t=ZM false e.ops t.kids []:=by unfold Z8H;rw [if_pos hk]
 refine Zc (ι:=Int × List Tree × List Tree) (fun s=> Z1X e t s.1 s.2.2 s.2.1)
  (fun s=> 0<=s.1/\s.1<=e.ops.length/\ZM false (e.ops.drop s.1.toNat) s.2.2 s.2.1=Z8H false e t/\s.2.1.length+s.2.2.length+Zt (e.ops.drop s.1.toNat)<=t.kids.length+Zt e.ops/\Zg s.2.2<=Zg t.kids/\Yx s.2.2)
  (fun s=> ((e.ops.length:Int) - s.1).toNat) (0,[],t.kids) rfl ⟨by simp,by simp,by simp [bk],by simp,by simp,rt.2.2⟩ ?_
 rintro ⟨i,out,aa⟩ ⟨f1,f2,f3,f4,f5,f6⟩
 dsimp only at f1 f2 f3 f4 f5 f6
 refine Zvh _ _ _ _ _ _ _ _ ?_
 rintro y1 aj
 (simp only [iB,vcT,vcS])
 refine ⟨fun hi=> ?_,fun hi=> ?_⟩
 .have ae:=Zk (l:=e.ops) (i:=i.toNat) JX Op.nil
  rw [YE f1 hi Op.nil,<-aj] at f3 f4
  rw [<-aj] at ae
  have hr:=Go.AM.rightOs_mem ri.ops y1 ae
  have hm:=YJ ae
  have bg:=Zhf ae
  have cc:=Z23 e
  have bh:=Y5 y1
  have ba:=Jr (Z0z r2.2.2.2.2.2.2 ae)
  have b4:=Zy y1.l
  simp only [Zt] at f4
  rw [Zuf,YP] at f3
  have go:∀ (x:List Tree) (m:List Tree) (v:V U) N0 Q',ZM false (e.ops.drop (i+1).toNat) x m=Z8H false e t->m.length+x.length+Zt (e.ops.drop (i+1).toNat)<=t.kids.length+Zt e.ops->Zg x<=Zg t.kids->Yx x->
    (∀ s2,s2=Z1X e t (i+1) x m->N0 s2)->ZcR N [1,1,1,1,0,1,0,0,1,1,1] (Z3l e t i x m v) (AExit.then N0 (AExit.inBlock 0 (Zlj N [1,1,1,1,1] Q'))):=by
   intro x m v N0 Q' a1 a2 a3 a4 a5
   exact Zvi _ _ _ _ _ _ _ _ _ ⟨V1,a5 _ rfl⟩
  have fin:∀ (x m:List Tree),ZM false (e.ops.drop (i+1).toNat) x m=Z8H false e t->m.length+x.length+Zt (e.ops.drop (i+1).toNat)<=t.kids.length+Zt e.ops->Zg x<=Zg t.kids->Yx x->∀ s2,s2=Z1X e t (i+1) x m->
    ∃ j:Int × List Tree × List Tree,s2=Z1X e t j.1 j.2.2 j.2.1/\(0<=j.1/\j.1<=e.ops.length/\ZM false (e.ops.drop j.1.toNat) j.2.2 j.2.1=Z8H false e t/\j.2.1.length+j.2.2.length+Zt (e.ops.drop j.1.toNat)<=t.kids.length+Zt e.ops/\Zg j.2.2<=Zg t.kids/\Yx j.2.2)/\((e.ops.length:Int) - j.1).toNat < ((e.ops.length:Int) - i).toNat:=by
   rintro x m a1 a2 a3 a4 _ rfl
   exact ⟨(i+1,m,x),rfl,⟨V4,V4,a1,a2,a3,a4⟩,V4⟩
  have r1:=ZN hr
  have ht:∀ n:Nat,(aa.take n).length<=aa.length/\(aa.take n).length+(aa.drop n).length=aa.length:=by
   intro n
   simp only [Qr,X9];omega
  refine ⟨⟨f1,hi⟩,fun al=> ⟨JX,?_⟩,fun al=> ⟨fun ah=> ?_,fun ah=> ⟨fun aq=> ?_,fun aq=> ?_⟩⟩⟩
  .rw [J3,J3,if_pos al,Qn] at f3
   exact go _ _ _ _ _ f3 (by simp only [Qk];omega) f5 f6 (fin _ _ f3 (by simp only [Qk];omega) f5 f6)
  .refine ZeY _ _ _ _ _ _ _ _ _ _ ?_
   rintro z1 af z2 ax z3 aw z4 ar z5 ak z6 ao
   rw [<-aj] at af
   subst af
   rw [J3,if_pos ah] at f3
   (simp only [iB,vcT,vcS])
   rw [Xh] at ak
   rw [Xh]
   refine ⟨fun hs=> no ?_,fun hs=> ⟨JX,JX,fun h=> by omega,fun _=> ⟨fun _=> ⟨?_,fun hq=> no ?_,fun hq=> ?_⟩,fun h=> absurd ah h⟩⟩⟩
   .have:JT z1.l aa=false:=by unfold JT;rw [decide_eq_false JX];try rfl
    rw [this,if_neg (by simp)] at f3
    exact f3.symm
   .have:=ZgM z1.l.length aa
    simp only [Z9o];omega
   .have:JT z1.l aa=false:=by unfold JT;rw [<-ak,hq];simp
    rw [this,if_neg (by simp)] at f3
    exact f3.symm
   .have:JT z1.l aa=true:=by unfold JT;rw [<-ak,hq,decide_eq_true JX];try rfl
    rw [this,if_pos rfl,Qn] at f3
    have hd:=Z3G z1.l.length aa
    have a9:=ht z1.l.length
    exact go _ _ _ _ _ f3 JX JX (Z39 f6 _) (fin _ _ f3 JX JX (Z39 f6 _))
  .refine ZeY _ _ _ _ _ _ _ _ _ _ ?_
   rintro z1 af z2 ax z3 aw z4 ar z5 ak z6 ao
   rw [<-aj] at af
   subst af
   rw [J3,if_neg ah,if_neg al] at f3
   (simp only [iB,vcT,vcS])
   rw [show Int.toNat 1=1 from rfl]
   refine ⟨fun hs=> no ?_,fun hs=> ⟨JX,JX,fun h=> by omega,fun _=> ⟨fun h=> absurd h ah,fun _=> ?_⟩⟩⟩
   .rw [Jq] at f3
    exact f3.symm
   .have hz:z3=aa.getD 0 Tree.nil:=by
     rw [aw,ax]
     cases aa with
     | nil=> rfl
     | cons a r=> rfl
    rw [J3,<-hz,<-ar] at f3
    have bo:=Zml aa 0
    have a7:=ZpN f6 0
    rw [<-hz] at bo a7
    have a8:=YH hr aq
    rw [<-ar] at a8 bh ba bg
    refine ⟨?_,by simp only [Z4N];exact ⟨⟨JX,ba.2.2.2,_,a8⟩,JX,a7⟩,by simp only [ZhA];omega,fun av=> no ?_,fun bj=> ?_⟩
    .simp only [Qr];omega
    .have av:doE false z4 z3=none:=by simpa using av
     rw [av] at f3
     exact f3.symm
    .obtain ⟨u,hu⟩:=X4.1 bj
     rw [Zcm hu] at ao
     subst ao
     rw [hu,Qi,Qn] at f3
     have hd:=Z3G 1 aa
     have a9:=ht 1
     have b7:(aa.take 1).length=1:=by simp only [Qr];omega
     refine ⟨by simp only [XJ];omega,?_⟩
     exact go _ _ _ _ _ f3 (by simp only [Qk,XJ];omega) JX (Z39 f6 _) (fin _ _ f3 (by simp only [Qk,XJ];omega) JX (Z39 f6 _))
  .have ay:y1.kind=0:=by cases r1 <;> first | rfl | (exfalso;simp at ah al aq)
   refine ZeY _ _ _ _ _ _ _ _ _ _ ?_
   rintro z1 af z2 ax z3 aw z4 ar z5 ak z6 ao
   rw [<-aj] at af
   subst af
   rw [if_pos ay] at f3
   have hn:1<=z1.n/\z1.n<=1048576:=by cases r1 <;> first | (constructor <;> assumption) | (exfalso;simp at ah al aq ay)
   (simp only [iB,vcT,vcS])
   refine ⟨fun hs=> no ?_,fun hs=> ⟨JX,JX,fun _=> ⟨?_,?_⟩,fun h=> absurd ay h⟩⟩
   .rw [J3] at f3
    exact f3.symm
   .have:=(ht z1.n.toNat).1
    omega
   .rw [Jq,Qn] at f3
    have hd:=Z3G z1.n.toNat aa
    have a9:=ht z1.n.toNat
    exact go _ _ _ _ _ f3 (by simp only [Qk];omega) JX (Z39 f6 _) (fin _ _ f3 (by simp only [Qk];omega) JX (Z39 f6 _))
 .rw [Qc JX,ZM] at f3
  simp only [Z5J,<-f3,Zyh,Z22,Qn,hk]
  by_cases hr:aa.length=0
  .rw [if_pos hr,hr]
   exact V0
  .rw [if_neg hr,show ((aa.length:Int)==0)=false by rw [beq_eq_false_iff_ne];omega]
   exact V0
theorem ZLK:Contract Tryz.prog cfg 74 ZbZ/\Contract Tryz.prog cfg 115 ZpB/\Contract Tryz.prog cfg 116 ZpA:=ZAI Z9K Zus Zur ZkX ZH5 Z9J Zzj b74 ZHF ZHE
theorem c74:Contract Tryz.prog cfg 74 ZbZ:=ZLK.1
theorem ZmY{r:Bool}{e:Edit}{t u:Tree}(s:∃ d,Z3 e d=true)(ht:Zo t+ctE e<=200000000000)(h:doE r e t=some u):Zo u<=1000000000000:=by
 obtain ⟨d,s⟩:=s
 have:=Z5S r e d t u s h
 omega
theorem c25:Contract Tryz.prog cfg 25 JD:=by
 refine ZFY c75 c74 ?_
 intro e t _ s
 simp only [Z4N] at s
 refine ZLB _ _ _ ?_
 rintro y1 af y2 aa y3 h
 subst af aa
 (simp only [iB,vcT,vcS])
 refine ⟨by simp only [Z4N];exact s,fun hn=> ?_,fun hs=> ?_⟩
 .have hn:doE false y1 y2=none:=by simpa using hn
  simp only [Zq1,hn]
  exact V0
 .obtain ⟨u,hu⟩:=X4.1 hs
  rw [Zcm hu] at h
  subst h
  have:=ZmY s.1.2.2 s.2.1 hu
  refine ⟨by simp only [Z2l];exact this,?_⟩
  simp only [Zq1,hu]
  exact V0
noncomputable section
def ZeO:ArgM ((List Op × List Tree × List Tree × Unit) × Unit):=(.obj 0 (.cons (cWr .op 0 0) (.cons (Z5d .tree 0 1) (.cons (Z5d .tree 0 2) .nil))) .nil)
def Z6U(a:(List Op × List Tree × List Tree × Unit) × Unit):Prop:=(a.1.1).length<=200000000000/\(a.1.2.1).length<=200000000000/\(a.1.2.2.1).length<=200000000000
def Zc7(a:(List Op × List Tree × List Tree × Unit) × Unit):V U:= .tup []
def Z7C(a:(List Op × List Tree × List Tree × Unit) × Unit):List (List (C U)):=[[.mref (.x 0 0),sU .tree ((Zi (Wst.mk a.1.1 a.1.2.1 a.1.2.2.1)).gone) (.own (.x 0 1)),sU .tree ((Zi (Wst.mk a.1.1 a.1.2.1 a.1.2.2.1)).brought) (.own (.x 0 2))]]
def Z7D(a:(List Op × List Tree × List Tree × Unit) × Unit):List (Tok × LC U):=[(.x 0 0,LC.mk (U:=U) .op ((Zi (Wst.mk a.1.1 a.1.2.1 a.1.2.2.1)).out) 0)]
def Z2O:Fs U:=ZhC ZeO (fun a=> [Z6U a]) Zc7 Z7C Z7D
def ZeQ:ArgM ((List Op × List Tree × List Tree × Unit) × Int × Unit):=(.obj 0 (.cons (cWr .op 0 0) (.cons (Z5d .tree 0 1) (.cons (Z5d .tree 0 2) .nil))) (.cons (Jj .i64) .nil))
def Z9p(a:(List Op × List Tree × List Tree × Unit) × Int × Unit):Prop:=(a.1.1).length<=200000000000/\(a.1.2.1).length<=200000000000/\(a.1.2.2.1).length<=200000000000/\(∀ o∈a.1.1,0<=o.n/\o.n<=100000000000000000)/\0<=a.2.1/\a.2.1<=1048576
def ZnM(a:(List Op × List Tree × List Tree × Unit) × Int × Unit):V U:= .tup []
def ZjA(a:(List Op × List Tree × List Tree × Unit) × Int × Unit):List (List (C U)):=[[.mref (.x 0 0),sU .tree ((Yr (Wst.mk a.1.1 a.1.2.1 a.1.2.2.1) a.2.1).gone) (.own (.x 0 1)),sU .tree ((Yr (Wst.mk a.1.1 a.1.2.1 a.1.2.2.1) a.2.1).brought) (.own (.x 0 2))]]
def ZjB(a:(List Op × List Tree × List Tree × Unit) × Int × Unit):List (Tok × LC U):=[(.x 0 0,LC.mk (U:=U) .op ((Yr (Wst.mk a.1.1 a.1.2.1 a.1.2.2.1) a.2.1).out) 0)]
def Z7v:Fs U:=ZhC ZeQ (fun a=> [Z9p a]) ZnM ZjA ZjB
def ZeP:ArgM ((List Op × List Tree × List Tree × Unit) × List Tree × Unit):=(.objAt 0 1 (.cons (cWr .op 0 0) (.cons (Z5d .tree 0 1) (.cons (Z5d .tree 0 2) .nil))) (.cons (aSl .tree) .nil))
def Zga(a:(List Op × List Tree × List Tree × Unit) × List Tree × Unit):Prop:=(a.1.1).length<=200000000000/\(a.1.2.1).length<=200000000000/\(a.1.2.2.1).length<=200000000000/\Zg a.2.1<=20000000000
def Zwn(a:(List Op × List Tree × List Tree × Unit) × List Tree × Unit):V U:= .tup []
def ZpV(a:(List Op × List Tree × List Tree × Unit) × List Tree × Unit):List (List (C U)):=[[.mref (.x 0 0),sU .tree ((Wst.mk a.1.1 (a.1.2.1++Z6 a.2.1) a.1.2.2.1).gone) (.own (.x 0 1)),sU .tree ((Wst.mk a.1.1 (a.1.2.1++Z6 a.2.1) a.1.2.2.1).brought) (.own (.x 0 2))]]
def ZpW(a:(List Op × List Tree × List Tree × Unit) × List Tree × Unit):List (Tok × LC U):=[(.x 0 0,LC.mk (U:=U) .op ((Wst.mk a.1.1 (a.1.2.1++Z6 a.2.1) a.1.2.2.1).out) 0)]
def Zjk:Fs U:=ZhC ZeP (fun a=> [Zga a]) Zwn ZpV ZpW
def ZbP:ArgM ((List Op × List Tree × List Tree × Unit) × List Tree × Unit):=(.objAt 0 2 (.cons (cWr .op 0 0) (.cons (Z5d .tree 0 1) (.cons (Z5d .tree 0 2) .nil))) (.cons (aSl .tree) .nil))
def ZlS(a:(List Op × List Tree × List Tree × Unit) × List Tree × Unit):List (List (C U)):=[[.mref (.x 0 0),sU .tree ((Wst.mk a.1.1 a.1.2.1 (a.1.2.2.1++Z6 a.2.1)).gone) (.own (.x 0 1)),sU .tree ((Wst.mk a.1.1 a.1.2.1 (a.1.2.2.1++Z6 a.2.1)).brought) (.own (.x 0 2))]]
def ZlT(a:(List Op × List Tree × List Tree × Unit) × List Tree × Unit):List (Tok × LC U):=[(.x 0 0,LC.mk (U:=U) .op ((Wst.mk a.1.1 a.1.2.1 (a.1.2.2.1++Z6 a.2.1)).out) 0)]
def Zft:Fs U:=ZhC ZbP (fun a=> [Zga a]) Zwn ZlS ZlT
def ZaK(a:Int × Edit × Unit):Prop:=a.2.1.words.length<=20000000000/\a.2.1.kids.length<=20000000000
def Zq5(a:Int × Edit × Unit):V U:= .c (.bool (Zh6 a.1 a.2.1))
def Z4F:Fs U:=fs Zsa (fun a=> [ZaK a]) Zq5
def ZxW:Za U:=lvk [([0,7],[((.x 0),[.wr .op])]),([0],[((.x 0),[.wr .op])]),([0,28],[((.x 0),[.wr .op])]),([0],[((.x 0),[.wr .op])]),([],[((.x 0),[.wr .op])])]
abbrev ZM3(wo:List Op)(wg wb:List Tree)(Q:QT):=AW (Z2 ZoA) Tryz.f150 ZxW [] (⟨[(0,.ptr (.x 0) 0)],[(.x 0,[.mref (.x 0 0),sU .tree wg (.own (.x 0 1)),sU .tree wb (.own (.x 0 2))])],[(.x 0 0,LC.mk (U:=U) .op wo 0)]⟩:LSt U) Q
theorem ZJv(wo:List Op)(wg wb:List Tree)(Q:QT)(h:∀ s,s=(Edit.mk 0 (Tree.mk 0 [] []) (Tree.mk 0 [] []) [] [] 0 [])->∀ u,u=(List.set (wo++([(OpOf.mk 0 0 [] s:Op)])) (Int.toNat (wo.length:Int)) (OpOf.mk 1 0 wg s:Op))->let z0:=decide ((0:Int) < (wb.length:Int));iB (decide ((0:Int) < (wg.length:Int))) (((wo.length+([(OpOf.mk 0 0 [] s:Op)]).length)*240<=140737488355328)/\((0:Int)<=(wo.length:Int)/\(wo.length:Int) < ((wo++([(OpOf.mk 0 0 [] s:Op)])).length:Int))/\((0:Nat)<=(Int.toNat (wo.length:Int)))/\(iB z0 (((u.length+([(OpOf.mk 0 0 [] s:Op)]).length)*240<=140737488355328)/\((0:Int)<=(u.length:Int)/\(u.length:Int) < ((u++([(OpOf.mk 0 0 [] s:Op)])).length:Int))/\((0:Nat)<=(Int.toNat (u.length:Int)))/\(Q .normal (⟨[],[(.x 0,[.mref (.x 0 0),.nils,.nils])],[(.x 0 0,LC.mk (U:=U) .op (List.set (u++([(OpOf.mk 0 0 [] s:Op)])) (Int.toNat (u.length:Int)) (OpOf.mk 2 0 wb s:Op)) 0)]⟩:LSt U))) (Q .normal (⟨[],[(.x 0,[.mref (.x 0 0),.nils,.nils])],[(.x 0 0,LC.mk (U:=U) .op u 0)]⟩:LSt U)))) (iB z0 (((wo.length+([(OpOf.mk 0 0 [] s:Op)]).length)*240<=140737488355328)/\((0:Int)<=(wo.length:Int)/\(wo.length:Int) < ((wo++([(OpOf.mk 0 0 [] s:Op)])).length:Int))/\((0:Nat)<=(Int.toNat (wo.length:Int)))/\(Q .normal (⟨[],[(.x 0,[.mref (.x 0 0),.nils,.nils])],[(.x 0 0,LC.mk (U:=U) .op (List.set (wo++([(OpOf.mk 0 0 [] s:Op)])) (Int.toNat (wo.length:Int)) (OpOf.mk 2 0 wb s:Op)) 0)]⟩:LSt U))) (Q .normal (⟨[],[(.x 0,[.mref (.x 0 0),.nils,.nils])],[(.x 0 0,LC.mk (U:=U) .op wo 0)]⟩:LSt U)))):
  ZM3 wo wg wb Q:=
 Eq.mpr V3 (h _ rfl _ rfl)
def ZDE(wo:List Op)(wg wb:List Tree):Prop:=AW (Z2 ZoA) Tryz.f150 ZxW [] (Z0s (ZeO.can ((wo,wg,wb,()),())) (ZeO.canX ((wo,wg,wb,()),())) (ZeO.canL ((wo,wg,wb,()),()))) (Z1a cfg Tryz.f150.ntmps Tryz.f150.results.toList (Zc7 ((wo,wg,wb,()),())) (Z7C ((wo,wg,wb,()),())) (Z7D ((wo,wg,wb,()),())))
theorem ZBs(hb:∀ (h:List Op) (u:List Tree) (s:List Tree) (_:Unit),Z6U ((h,u,s,()),())->ZDE h u s):CT 150 Z2O:=
 J8 (l:=[]) Ze rfl trivial ZxW Tryz.func150 rfl rfl 1 (fun _=> rfl) V2 (fun ⟨⟨h,u,s,_⟩,_⟩=> hb h u s ())
def Zrz:List (FuncId × Fs U):=[(150,Z2O)]
def ZxX:Za U:=lvk [([0,1],[((.x 0),[.wr .op])]),([0,1,4],[((.x 0),[.wr .op])]),([0,1,4,25],[((.x 0),[.wr .op])]),([],[((.x 0),[.wr .op])]),([],[((.x 0),[.wr .op])])]
abbrev ZM5(wo:List Op)(wg wb:List Tree)(n:Int)(Q:QT):=AW (Z2 Zrz) Tryz.f147 ZxX [] (⟨[(0,.ptr (.x 0) 0),pI 1 n],[(.x 0,[.mref (.x 0 0),sU .tree wg (.own (.x 0 1)),sU .tree wb (.own (.x 0 2))])],[(.x 0 0,LC.mk (U:=U) .op wo 0)]⟩:LSt U) Q
theorem ZJx(wo:List Op)(wg wb:List Tree)(n:Int)(Q:QT)(h:∀ u,u=(Edit.mk 0 (Tree.mk 0 [] []) (Tree.mk 0 [] []) [] [] 0 [])->∀ aa,aa=(Int.toNat (((((Zi (Wst.mk wo wg wb)).out).length:Int):Int) - 1))->∀ s,s=(List.getD ((Zi (Wst.mk wo wg wb)).out) aa Op.nil)->∀ ab,ab=(s.e)->let z1:=Zi (Wst.mk wo wg wb);let z0:=decide ((0:Int)<=((((z1.out).length:Int):Int) - 1));((Z6U ((wo,wg,wb,()),()))/\((InR ((((z1.out).length:Int):Int) - 1))/\((Tt z0)/\(Tt z0)/\(Tt z0)/\(Tt z0)/\(Tt z0)/\(z0=true->(0:Int)<=((((z1.out).length:Int):Int) - 1)/\((((z1.out).length:Int):Int) - 1) < ((z1.out).length:Int))/\(Tt z0)/\(Tt z0)/\(Tt z0)/\(Tt z0)/\(iB (bif z0 then (s.kind==0) else false) (((0:Int)<=((((z1.out).length:Int):Int) - 1)/\((((z1.out).length:Int):Int) - 1) < ((z1.out).length:Int))/\(InR (s.n+n))/\((0:Int)<=((((z1.out).length:Int):Int) - 1)/\((((z1.out).length:Int):Int) - 1) < ((z1.out).length:Int))/\((0:Nat)<=aa)/\(Q .ret (⟨[],[(.x 0,[.mref (.x 0 0),sU .tree (z1.gone) (.own (.x 0 1)),sU .tree (z1.brought) (.own (.x 0 2))])],[(.x 0 0,LC.mk (U:=U) .op (List.set (z1.out) aa (OpOf.mk s.kind (s.n+n) s.l ab:Op)) 0)]⟩:LSt U))) ((((z1.out).length+([(OpOf.mk 0 0 [] u:Op)]).length)*240<=140737488355328)/\((0:Int)<=((z1.out).length:Int)/\((z1.out).length:Int) < (((z1.out)++([(OpOf.mk 0 0 [] u:Op)])).length:Int))/\((0:Nat)<=(Int.toNat ((z1.out).length:Int)))/\(Q .normal (⟨[],[(.x 0,[.mref (.x 0 0),sU .tree (z1.gone) (.own (.x 0 1)),sU .tree (z1.brought) (.own (.x 0 2))])],[(.x 0 0,LC.mk (U:=U) .op (List.set ((z1.out)++([(OpOf.mk 0 0 [] u:Op)])) (Int.toNat ((z1.out).length:Int)) (OpOf.mk 0 n [] u:Op)) 0)]⟩:LSt U)))))))):
  ZM5 wo wg wb n Q:=
 Eq.mpr V3 (h _ rfl _ rfl _ rfl _ (Z7 _))
def ZDG(wo:List Op)(wg wb:List Tree)(n:Int):Prop:=AW (Z2 Zrz) Tryz.f147 ZxX [] (Z0s (ZeQ.can ((wo,wg,wb,()),n,())) (ZeQ.canX ((wo,wg,wb,()),n,())) (ZeQ.canL ((wo,wg,wb,()),n,()))) (Z1a cfg Tryz.f147.ntmps Tryz.f147.results.toList (ZnM ((wo,wg,wb,()),n,())) (ZjA ((wo,wg,wb,()),n,())) (ZjB ((wo,wg,wb,()),n,())))
theorem ZBu(Zut:CT 150 Z2O)(hb:∀ (h:List Op) (u:List Tree) (s:List Tree) (n:Int) (_:Unit),Z9p ((h,u,s,()),n,())->ZDG h u s n):CT 147 Z7v:=
 J8 (l:=[(150,Z2O)]) Ze rfl (⟨Zut,trivial⟩) ZxX Tryz.func147 rfl rfl 2 (fun _=> rfl) V2 (fun ⟨⟨h,u,s,_⟩,n,_⟩=> hb h u s n ())
def ZeG:List (FuncId × Fs U):=[(75,Z07)]
def Zms:Za U:=lvk [([0,6,7,8],[((.x 0),[.wr .op])]),([0,6,7,8,9],[((.x 0),[.wr .op])]),([0,5,6,7,8],[5,((.x 0),[.wr .op])]),([0,6,7,8],[((.x 0),[.wr .op])]),([0,6,7,8],[((.x 0),[.wr .op])])]
def Z87(wo:List Op)(wg wb l:List Tree)(h:Int)(mx0_1:List Tree):LSt U:=(⟨[(0,.ptr (.x 0) 1),(6,.c (sU .tree l .unk)),pI 7 (l.length:Int),pI 8 h],[(.x 0,[.mref (.x 0 0),sU .tree mx0_1 (.own (.x 0 1)),sU .tree wb (.own (.x 0 2))])],[(.x 0 0,LC.mk (U:=U) .op wo 0)]⟩:LSt U)
abbrev ZM4(wo:List Op)(wg wb l:List Tree)(Q:QT):=AW (Z2 ZeG) Tryz.f148 Zms [] (⟨[(0,.ptr (.x 0) 1),(1,.c (sU .tree l .unk))],[(.x 0,[.mref (.x 0 0),sU .tree wg (.own (.x 0 1)),sU .tree wb (.own (.x 0 2))])],[(.x 0 0,LC.mk (U:=U) .op wo 0)]⟩:LSt U) Q
theorem ZJw(wo:List Op)(wg wb l:List Tree)(Q:QT)(h:Zp (AW (Z2 ZeG) Tryz.f148 Zms [1,0,0]) (Z87 wo wg wb l 0 wg) (xB 0 Q)):
  ZM4 wo wg wb l Q:=
 Eq.mpr V3 h
abbrev ZCy(wo:List Op)(wg wb l:List Tree)(h:Int)(mx0_1:List Tree)(N0:NT)(Q:QT):=AW (Z2 ZeG) Tryz.f148 Zms [1,0,0] (Z87 wo wg wb l h mx0_1) (xT N0 (xB 0 Q))
theorem Zv8(wo:List Op)(wg wb l:List Tree)(s:Int)(mx0_1:List Tree)(N0:NT)(Q:QT)(h:let z2:=decide (s < (l.length:Int));let z1:=l.getD s.toNat Tree.nil;let z0:=Tree.mk (Tree.kind z1) (Tree.words z1) (Tree.kids z1);iB z2 (((0:Int)<=s/\s < (l.length:Int))/\((Z2l (z0,()))/\((mx0_1.length+([(Tree.mk 0 [] [])]).length)*56<=140737488355328)/\((0:Int)<=(mx0_1.length:Int)/\(mx0_1.length:Int) < ((mx0_1++([(Tree.mk 0 [] [])])).length:Int))/\(mx0_1.length<=(Int.toNat (mx0_1.length:Int)))/\((InR (s+1))/\(N0 (Z87 wo wg wb l (s+1) (List.set (mx0_1++([(Tree.mk 0 [] [])])) (Int.toNat (mx0_1.length:Int)) (Tree.mk (Tree.kind (Z0 z0)) (Tree.words (Z0 z0)) (Tree.kids (Z0 z0))))))))) (Q .normal (⟨[(0,.ptr (.x 0) 1),(6,.c (sU .tree l .unk)),pI 7 (l.length:Int),pI 8 s,pB 9 z2],[(.x 0,[.mref (.x 0 0),sU .tree mx0_1 (.own (.x 0 1)),sU .tree wb (.own (.x 0 2))])],[(.x 0 0,LC.mk (U:=U) .op wo 0)]⟩:LSt U))):
  ZCy wo wg wb l s mx0_1 N0 Q:=
 Eq.mpr V3 h
def ZDF(wo:List Op)(wg wb l:List Tree):Prop:=AW (Z2 ZeG) Tryz.f148 Zms [] (Z0s (ZeP.can ((wo,wg,wb,()),l,())) (ZeP.canX ((wo,wg,wb,()),l,())) (ZeP.canL ((wo,wg,wb,()),l,()))) (Z1a cfg Tryz.f148.ntmps Tryz.f148.results.toList (Zwn ((wo,wg,wb,()),l,())) (ZpV ((wo,wg,wb,()),l,())) (ZpW ((wo,wg,wb,()),l,())))
theorem ZBt(c75:CT 75 Z07)(hb:∀ (h:List Op) (u:List Tree) (s:List Tree) (l:List Tree) (_:Unit),Zga ((h,u,s,()),l,())->ZDF h u s l):CT 148 Zjk:=
 J8 (l:=[(75,Z07)]) Ze rfl (⟨c75,trivial⟩) Zms Tryz.func148 rfl rfl 2 (fun _=> rfl) V2 (fun ⟨⟨h,u,s,_⟩,l,_⟩=> hb h u s l ())
def Z60(wo:List Op)(wg wb l:List Tree)(h:Int)(mx0_2:List Tree):LSt U:=(⟨[(0,.ptr (.x 0) 2),(6,.c (sU .tree l .unk)),pI 7 (l.length:Int),pI 8 h],[(.x 0,[.mref (.x 0 0),sU .tree wg (.own (.x 0 1)),sU .tree mx0_2 (.own (.x 0 2))])],[(.x 0 0,LC.mk (U:=U) .op wo 0)]⟩:LSt U)
abbrev ZKK(wo:List Op)(wg wb l:List Tree)(Q:QT):=AW (Z2 ZeG) Tryz.f148 Zms [] (⟨[(0,.ptr (.x 0) 2),(1,.c (sU .tree l .unk))],[(.x 0,[.mref (.x 0 0),sU .tree wg (.own (.x 0 1)),sU .tree wb (.own (.x 0 2))])],[(.x 0 0,LC.mk (U:=U) .op wo 0)]⟩:LSt U) Q
theorem ZFd(wo:List Op)(wg wb l:List Tree)(Q:QT)(h:Zp (AW (Z2 ZeG) Tryz.f148 Zms [1,0,0]) (Z60 wo wg wb l 0 wb) (xB 0 Q)):
  ZKK wo wg wb l Q:=
 Eq.mpr V3 h
abbrev ZzH(wo:List Op)(wg wb l:List Tree)(h:Int)(mx0_2:List Tree)(N0:NT)(Q:QT):=AW (Z2 ZeG) Tryz.f148 Zms [1,0,0] (Z60 wo wg wb l h mx0_2) (xT N0 (xB 0 Q))
theorem Zt2(wo:List Op)(wg wb l:List Tree)(s:Int)(mx0_2:List Tree)(N0:NT)(Q:QT)(h:let z2:=decide (s < (l.length:Int));let z1:=l.getD s.toNat Tree.nil;let z0:=Tree.mk (Tree.kind z1) (Tree.words z1) (Tree.kids z1);iB z2 (((0:Int)<=s/\s < (l.length:Int))/\((Z2l (z0,()))/\((mx0_2.length+([(Tree.mk 0 [] [])]).length)*56<=140737488355328)/\((0:Int)<=(mx0_2.length:Int)/\(mx0_2.length:Int) < ((mx0_2++([(Tree.mk 0 [] [])])).length:Int))/\(mx0_2.length<=(Int.toNat (mx0_2.length:Int)))/\((InR (s+1))/\(N0 (Z60 wo wg wb l (s+1) (List.set (mx0_2++([(Tree.mk 0 [] [])])) (Int.toNat (mx0_2.length:Int)) (Tree.mk (Tree.kind (Z0 z0)) (Tree.words (Z0 z0)) (Tree.kids (Z0 z0))))))))) (Q .normal (⟨[(0,.ptr (.x 0) 2),(6,.c (sU .tree l .unk)),pI 7 (l.length:Int),pI 8 s,pB 9 z2],[(.x 0,[.mref (.x 0 0),sU .tree wg (.own (.x 0 1)),sU .tree mx0_2 (.own (.x 0 2))])],[(.x 0 0,LC.mk (U:=U) .op wo 0)]⟩:LSt U))):
  ZzH wo wg wb l s mx0_2 N0 Q:=
 Eq.mpr V3 h
def ZzP(wo:List Op)(wg wb l:List Tree):Prop:=AW (Z2 ZeG) Tryz.f148 Zms [] (Z0s (ZbP.can ((wo,wg,wb,()),l,())) (ZbP.canX ((wo,wg,wb,()),l,())) (ZbP.canL ((wo,wg,wb,()),l,()))) (Z1a cfg Tryz.f148.ntmps Tryz.f148.results.toList (Zwn ((wo,wg,wb,()),l,())) (ZlS ((wo,wg,wb,()),l,())) (ZlT ((wo,wg,wb,()),l,())))
theorem Zxk(c75:CT 75 Z07)(hb:∀ (h:List Op) (u:List Tree) (s:List Tree) (l:List Tree) (_:Unit),Zga ((h,u,s,()),l,())->ZzP h u s l):CT 148 Zft:=
 J8 (l:=[(75,Z07)]) Ze rfl (⟨c75,trivial⟩) Zms Tryz.func148 rfl rfl 2 (fun _=> rfl) V2 (fun ⟨⟨h,u,s,_⟩,l,_⟩=> hb h u s l ())
abbrev ZKJ(list:Int)(e:Edit)(Q:QT):=AW (Z2 ZoA) Tryz.f149 Zxv [] (L2 [pI 0 list,(1,.agg (enc .edit e))] []) Q
theorem ZFc(list:Int)(e:Edit)(Q:QT)(h:let z2:=(!(e.kind==0)) && (list==9);let z1:=bif (list==9) then (e.kind==2) else false;let z0:=(!(e.kind==0)) && z1;((Tt (!(e.kind==0)))/\(Tt (!(e.kind==0)))/\(Tt z2)/\(Tt z2)/\((!(e.kind==0))=true->(True->(!(e.kind==0))=true))/\((!(e.kind==0))=true->((list==9)=true->z2=true))/\(Tt (!(e.kind==0)))/\(Tt z0)/\(Tt z0)/\(Tt z0)/\(Tt z0)/\(Tt z0)/\(Tt z0)/\(z0=true->InR (((e.words.length:Int):Int)+(e.kids.length:Int)))/\(Tt z0)/\((!(e.kind==0))=true->(True->(!(e.kind==0))=true))/\((!(e.kind==0))=true->(z1=true->z0=true))/\((e.kind==0)=false->(!(e.kind==0))=true)/\(Q .ret (L2 [(4,.c (.bool (bif (e.kind==0) then true else (bif z1 then (((((e.words.length:Int):Int)+(e.kids.length:Int)):Int)==0) else false))))] [])))):
  ZKJ list e Q:=
 Eq.mpr V3 h
def ZzO(list:Int)(e:Edit):Prop:=AW (Z2 ZoA) Tryz.f149 Zxv [] (Zf (Zsa.can (list,e,())) []) (EQ Tryz.f149 (Zq5 (list,e,())) [])
theorem Zxj(hb:∀ (list:Int) (e:Edit) (_:Unit),ZaK (list,e,())->ZzO list e):CT 149 Z4F:=
 Z1 (l:=[]) Ze rfl trivial Zxv Tryz.func149 rfl rfl 2 (fun _=> rfl) V2 (fun ⟨list,e,_⟩=> hb list e ())
end
theorem Z2j{α:Type}(l:List α)(z x:α):(l++[z]).set (Int.toNat (l.length:Int)) x=l++[x]:=by
 simp_all
theorem Zbi:∀ (F:List Op) (n:Int),Z2u F n=if F.length≠0/\(F.getD (F.length - 1) Op.nil).kind=0 then F.set (F.length - 1) ⟨(F.getD (F.length - 1) Op.nil).kind,(F.getD (F.length - 1) Op.nil).n+n,(F.getD (F.length - 1) Op.nil).l,(F.getD (F.length - 1) Op.nil).e⟩ else F++[⟨0,n,[],Edit.nil⟩]
 | [],n=> by simp [Z2u]
 | [o],n=> by simp [Z2u]
 | o ::p ::r,n=> by
  have h:=Zbi (p ::r) n
  have e:(o ::p ::r).length - 1=((p ::r).length - 1)+1:=by simp
  rw [Z2u,h,e]
  grind
theorem ZcH(s:Wst):(Zi s).out.length<=s.out.length+2:=by
 simp only [Zi,Z0L]
 grind
theorem ZcG(s:Wst):∀ o∈(Zi s).out,o∈s.out\/o.n=0:=by
 intro o h
 simp only [Zi,Z0L,Qj] at h
 grind
theorem Zut:Contract Tryz.prog cfg 150 Z2O:=by
 refine ZBs ?_
 intro h s u _ hp
 simp only [Z6U] at hp
 refine ZJv h s u _ ?_
 rintro y1 ab y2 aa
 have hy:y1=Edit.nil:=ab
 subst hy
 rw [Z2j] at aa
 subst aa
 (simp only [iB,vcS])
 refine ⟨fun h1=> ⟨by simp;omega,by simp;omega,JX,fun h2=> ⟨by simp;omega,by simp;omega,JX,?_⟩,fun h2=> ?_⟩,fun h1=> ⟨fun h2=> ⟨by simp;omega,by simp;omega,JX,?_⟩,fun h2=> ?_⟩⟩
 .rw [Z2j]
  have e:Zi ⟨h,s,u⟩=⟨h++[⟨1,0,s,Edit.nil⟩]++[⟨2,0,u,Edit.nil⟩],[],[]⟩:=by
   simp only [Zi,Z0L];rw [J3,J3];simp
  simp only [Zc7,Z7C,Z7D,e]
  exact V0
 .have e:Zi ⟨h,s,u⟩=⟨h++[⟨1,0,s,Edit.nil⟩],[],[]⟩:=by
   simp only [Zi,Z0L];rw [J3,Jq];simp
  simp only [Zc7,Z7C,Z7D,e]
  exact V0
 .rw [Z2j]
  have e:Zi ⟨h,s,u⟩=⟨h++[⟨2,0,u,Edit.nil⟩],[],[]⟩:=by
   simp only [Zi,Z0L];rw [Jq,J3];simp
  simp only [Zc7,Z7C,Z7D,e]
  exact V0
 .have e:Zi ⟨h,s,u⟩=⟨h,[],[]⟩:=by
   simp only [Zi,Z0L];rw [Jq,Jq];simp
  simp only [Zc7,Z7C,Z7D,e]
  exact V0
theorem ZH9:Contract Tryz.prog cfg 147 Z7v:=by
 refine ZBu Zut ?_
 intro s u wb n _ hp
 simp only [Z9p] at hp
 obtain ⟨p1,p2,p3,p4,p5,p6⟩:=hp
 have ak:=ZcH ⟨s,u,wb⟩
 have af:=ZcG ⟨s,u,wb⟩
 have hg:(Zi ⟨s,u,wb⟩).gone=[]:=rfl
 have hb:(Zi ⟨s,u,wb⟩).brought=[]:=rfl
 have hk:=Zbi (Zi ⟨s,u,wb⟩).out n
 have aj:Yr ⟨s,u,wb⟩ n=⟨Z2u (Zi ⟨s,u,wb⟩).out n,[],[]⟩:=rfl
 refine ZJx s u wb n _ ?_
 simp only [hg,hb,ZnM,ZjA,ZjB,aj]
 generalize (Zi ⟨s,u,wb⟩).out=F at*
 simp only at ak af
 rintro y1 ai y2 aw y3 ah y4 al
 have hy:y1=Edit.nil:=ai
 subst hy
 have e2:y2=F.length - 1:=JX
 subst e2
 rw [<-ah,<-al] at hk
 simp only [iB,vcT,vcS,aiT,true_and]
 refine ⟨by simp only [Z6U];exact ⟨p1,p2,p3⟩,V1,fun h=> ⟨h,JX⟩,fun h=> ?_,fun h=> ?_⟩
 .have ao:0<=y3.n/\y3.n<=100000000000000000:=by
   have hm:y3∈F:=by rw [ah];exact Zk JX _
   rcases af y3 hm with h1 | h1
   .exact p4 y3 h1
   .omega
  rw [if_pos ⟨JX,h.2⟩] at hk
  rw [hk]
  refine ⟨JX,V1,JX,JX,?_⟩
  exact V0
 .rw [J3] at hk
  rw [hk,Z2j]
  refine ⟨by simp;omega,by simp;omega,JX,?_⟩
  exact V0
theorem ZLM:Contract Tryz.prog cfg 148 Zjk:=by
 refine ZBt c75 ?_
 intro wo u wb l _ hp
 simp only [Zga] at hp
 obtain ⟨p1,p2,p3,p4⟩:=hp
 have hl:=Zy l
 refine ZJw _ _ _ _ _ ?_
 refine Zc (ι:=Int × List Tree) (fun s=> Z87 wo u wb l s.1 s.2) (fun s=> 0<=s.1/\s.1<=l.length/\s.2.length=u.length+s.1/\s.2++Z6 (l.drop s.1.toNat)=u++Z6 l) (fun s=> ((l.length:Int) - s.1).toNat) (0,u) rfl ⟨by simp,by simp,by simp,by simp⟩ ?_
 rintro ⟨i,out⟩ ⟨h1,h2,h3,h⟩
 dsimp only at h1 h2 h3 h
 refine Zv8 _ _ _ _ _ _ _ _ ?_
 (simp only [iB,vcS])
 (simp only [vE])
 refine ⟨fun hi=> ?_,fun hi=> ?_⟩
 .have hm:=J2 (Zk (l:=l) (i:=i.toNat) JX Tree.nil)
  rw [YE h1 hi Tree.nil] at h
  simp only [Z6,Xb] at h
  rw [Z2j]
  refine ⟨⟨h1,hi⟩,by simp only [Z2l];omega,by simp;omega,by simp;omega,JX,V1,(i+1,out++[Z0 (l.getD i.toNat Tree.nil)]),rfl,⟨V4,V4,by simp;omega,?_⟩,V4⟩
  simp only [Qo,QA,Qt]
  exact h
 .rw [Qc JX] at h
  simp only [Z6,Kd,Ql] at h
  rw [h]
  exact V0
theorem ZKE:Contract Tryz.prog cfg 148 Zft:=by
 refine Zxk c75 ?_
 intro wo wg u l _ hp
 simp only [Zga] at hp
 obtain ⟨p1,p2,p3,p4⟩:=hp
 have hl:=Zy l
 refine ZFd _ _ _ _ _ ?_
 refine Zc (ι:=Int × List Tree) (fun s=> Z60 wo wg u l s.1 s.2) (fun s=> 0<=s.1/\s.1<=l.length/\s.2.length=u.length+s.1/\s.2++Z6 (l.drop s.1.toNat)=u++Z6 l) (fun s=> ((l.length:Int) - s.1).toNat) (0,u) rfl ⟨by simp,by simp,by simp,by simp⟩ ?_
 rintro ⟨i,out⟩ ⟨h1,h2,h3,h⟩
 dsimp only at h1 h2 h3 h
 refine Zt2 _ _ _ _ _ _ _ _ ?_
 (simp only [iB,vcS])
 (simp only [vE])
 refine ⟨fun hi=> ?_,fun hi=> ?_⟩
 .have hm:=J2 (Zk (l:=l) (i:=i.toNat) JX Tree.nil)
  rw [YE h1 hi Tree.nil] at h
  simp only [Z6,Xb] at h
  rw [Z2j]
  refine ⟨⟨h1,hi⟩,by simp only [Z2l];omega,by simp;omega,by simp;omega,JX,V1,(i+1,out++[Z0 (l.getD i.toNat Tree.nil)]),rfl,⟨V4,V4,by simp;omega,?_⟩,V4⟩
  simp only [Qo,QA,Qt]
  exact h
 .rw [Qc JX] at h
  simp only [Z6,Kd,Ql] at h
  rw [h]
  exact V0
theorem Zzi:Contract Tryz.prog cfg 149 Z4F:=by
 refine Zxj ?_
 intro list e _ h
 simp only [ZaK] at h
 refine ZFc _ _ _ ?_
 simp only [iB,vcT,vcS,aiT,true_and]
 refine ⟨fun _=> by unfold InR;grind,Z5 rfl ?_⟩
 rw [Qs]
 simp only [Zh6]
 grind
noncomputable def Z6B:Fs U:=ZGw Zjk Zft
theorem Zze:Contract Tryz.prog cfg 148 Z6B:=Zn3 ZLM ZKE
noncomputable section
def Z1g(a:Edit × Unit):Prop:=Z8 a.1<=20000000000/\∃ d,Z3 a.1 d=true
def Zd9(a:Edit × Unit):V U:= .agg (enc .edit (Zj a.1))
def Z0h:Fs U:=fs ZsH (fun a=> [Z1g a]) Zd9
def ZeT:ArgL (Int × List Op × Unit):=(.cons (Jj .i64) (.cons (aSl .op) .nil))
def Z9r(a:Int × List Op × Unit):Prop:=Zt a.2.1<=20000000000/\∀ o∈a.2.1,∃ d,Zb a.1 o d=true
def ZgG(a:Int × List Op × Unit):Nat:=2*Zt a.2.1+1
def ZfO(a:Int × List Op × Unit):V U:= .c (sU .op ((Zi (J1 a.1 a.2.1 (Wst.mk [] [] []))).out) .unk)
def ZpC:Fs U:=fs ZeT (fun a=> [Z9r a]) ZfO
def Zcy(N:Nat):List (FuncId × Fs U):=(67,fs ZsH (fun a=> [Z1g a,Zb4 a < N]) Zd9) ::(107,fs ZeT (fun a=> [Z9r a,ZgG a < N]) ZfO) ::[(75,Z07),(149,Z4F),(147,Z7v),(150,Z2O),(148,Z6B)]
def Zok:Za U:=lvk [([1,2],[1,2]),([1,2,3],[1,2,3]),([1,2,3,12],[1,2,3]),([1,2,3,12,13],[1,2,3]),([2,3],[2,3]),([1,2,3,12,23],[1,2,3]),([1,2,3],[1,2,3]),([2,3,32,33,34],[2,((.loc 3),(an 8 [.own .kid]))]),([2,3,32,33,34,35],[2,3]),([2,3,5,32,33,34],[2,3,5]),([2,3,32,33,34],[2,3]),([2,3,32,33,34],[2,((.loc 3),(an 8 [.own .kid]))]),([1,2,3,50],[1,2,3]),([2,3],[2,3]),([2],[2])]
def Zbt(e:Edit)(s:Int)(h:List Kid):LSt U:=(L2 [pL 2,pL 3,(32,.c (sU .kid e.kids .unk)),pI 33 (e.kids.length:Int),pI 34 s] [(.loc 2,zc1),(.loc 3,[ci e.kind,ci 0,.nils,.nils,ci 0,.nils,.nils,sU .wedit (([]:List WEdit)++e.words) (.own (.l 3 7)),sU .kid h (.own (.l 3 8)),ci e.list,.nils])])
abbrev W67(N:Nat)(e:Edit)(Q:QT):=AW (Z2 (Zcy N)) Tryz.f67 Zok [] (L2 [(0,.agg (enc .edit e))] []) Q
theorem ZLk(N:Nat)(e:Edit)(Q:QT)(h:let z1:=Tree.mk e.new.kind e.new.words e.new.kids;let z0:=Tree.mk e.old.kind e.old.words e.old.kids;iB (e.kind==1) ((Z2l (z0,()))/\(Z2l (z1,()))/\(Q .ret (L2 [pL 2] [(.loc 2,([ci e.kind]++enc .tree (Z0 z0)++enc .tree (Z0 z1)++[.nils,.nils,ci e.list,.nils]))]))) (iB (e.kind==2) (((([]:List WEdit).length+e.words.length)*32<=140737488355328)/\(Zp (AW (Z2 (Zcy N)) Tryz.f67 Zok [1,1,0,1,0,1,1,1,0,1,1,0,0]) (Zbt e 0 []) (xB 1 (xB 0 (SW (Z2 (Zcy N)) Tryz.f67 Zok [1,1,1] Q))))) (iB (e.kind==3) ((Z9r (e.list,e.ops,()))/\(ZgG (e.list,e.ops,()) < N)/\(Q .ret (L2 [pL 2] [(.loc 2,[ci e.kind,ci 0,.nils,.nils,ci 0,.nils,.nils,.nils,.nils,ci e.list,sU .op ((Zi (J1 e.list e.ops (Wst.mk [] [] []))).out) .unk])]))) (Q .ret (L2 [pL 2] [(.loc 2,[ci e.kind,ci 0,.nils,.nils,ci 0,.nils,.nils,.nils,.nils,ci e.list,.nils])]))))):
  W67 N e Q:=
 Eq.mpr V3 h
abbrev ZHL(N:Nat)(e:Edit)(s:Int)(h:List Kid)(N0:NT)(Q:QT):=AW (Z2 (Zcy N)) Tryz.f67 Zok [1,1,0,1,0,1,1,1,0,1,1,0,0] (Zbt e s h) (xT N0 (xB 1 (xB 0 (SW (Z2 (Zcy N)) Tryz.f67 Zok [1,1,1] Q))))
theorem ZA8(N:Nat)(e:Edit)(u:Int)(s:List Kid)(N0:NT)(Q:QT)(h:∀ ab,ab=(e.kids.getD u.toNat (KidOf.mk 0 Edit.nil))->∀ aa,aa=(ab.e)->∀ ae,ae=(Zj aa)->iB (decide (u < (e.kids.length:Int))) (((0:Int)<=u/\u < (e.kids.length:Int))/\((Z1g (aa,()))/\(Zb4 (aa,()) < N)/\((s.length+([(KidOf.mk ab.at_ ae:Kid)]).length)*208<=140737488355328)/\((InR (u+1))/\(N0 (Zbt e (u+1) (s++([(KidOf.mk ab.at_ ae:Kid)]))))))) (Q .ret (L2 [pL 2] [(.loc 2,[ci e.kind,ci 0,.nils,.nils,ci 0,.nils,.nils,sU .wedit (([]:List WEdit)++e.words) (.own (.l 2 7)),sU .kid s (.own (.l 2 8)),ci e.list,.nils])]))):
  ZHL N e u s N0 Q:=
 Eq.mpr V3 (h _ rfl _ (Z7 _) _ (Z7 _))
def ZI2(N:Nat)(e:Edit):Prop:=AW (Z2 (Zcy N)) Tryz.f67 Zok [] (Zf (ZsH.can (e,())) []) (EQ Tryz.f67 (Zd9 (e,())) [])
abbrev ZL1:Prop:=∀ (N:Nat) (e:Edit) (_:Unit),Z1g (e,())->Zb4 (e,()) < N+1->ZI2 N e
def ZgW:Za U:=lvk [([0,1],[]),([0,1,5],[((.loc 10),[.wr .op])]),([0,5,11,12,13],[((.loc 10),[.wr .op,.own .tree,.own .tree])]),([0,5,11,12,13,14],[((.loc 10),[.wr .op])]),([0,5,7,11,12,13],[7,((.loc 10),[.wr .op])]),([0,5,7,11,12,13,18],[7,((.loc 10),[.wr .op])]),([0,5,7,11,12,13,18,19],[7,((.loc 10),[.wr .op])]),([0,5,11,12,13],[((.loc 10),[.wr .op])]),([0,5,7,11,12,13,18,25],[7,((.loc 10),[.wr .op])]),([0,5,11,12,13],[((.loc 10),[.wr .op])]),([0,5,7,11,12,13,18,33],[7,((.loc 10),[.wr .op])]),([0,5,11,12,13],[((.loc 10),[.wr .op])]),([0,5,7,11,12,13,41],[7,((.loc 10),[.wr .op])]),([0,5,8,11,12,13],[8,((.loc 10),[.wr .op])]),([0,5,8,11,12,13,48],[8,((.loc 10),[.wr .op])]),([0,5,11,12,13],[((.loc 10),[.wr .op])]),([0,5,8,11,12,13],[8,((.loc 10),[.wr .op])]),([0,5,11,12,13],[((.loc 10),[.wr .op])]),([0,5,11,12,13],[((.loc 10),[.wr .op,.own .tree,.own .tree])]),([5],[((.loc 10),[.wr .op])]),([4],[])]
def JM(list:Int)(l:List Op)(aa:Int)(h:List Op)(u s:List Tree):LSt U:=(⟨[pI 0 list,(5,.ptr (.loc 10) 0),(11,.c (sU .op l .unk)),pI 12 (l.length:Int),pI 13 aa],[(.loc 10,[.mref (.l 10 0),sU .tree u (.own (.l 10 1)),sU .tree s (.own (.l 10 2))])],[(.l 10 0,LC.mk (U:=U) .op h 0)]⟩:LSt U)
abbrev ZMc(N:Nat)(list:Int)(l:List Op)(Q:QT):=AW (Z2 (Zcy N)) Tryz.f107 ZgW [] (L2 [pI 0 list,(1,.c (sU .op l .unk))] []) Q
theorem ZJX(N:Nat)(list:Int)(l:List Op)(Q:QT)(h:Zp (AW (Z2 (Zcy N)) Tryz.f107 ZgW [1,1,0,1,0,0]) (JM list l 0 [] [] []) (xB 0 (SW (Z2 (Zcy N)) Tryz.f107 ZgW [1,1,1] Q))):
  ZMc N list l Q:=
 Eq.mpr V3 h
abbrev ZCF(N:Nat)(list:Int)(l:List Op)(aa:Int)(h:List Op)(u s:List Tree)(N0:NT)(Q:QT):=AW (Z2 (Zcy N)) Tryz.f107 ZgW [1,1,0,1,0,0] (JM list l aa h u s) (xT N0 (xB 0 (SW (Z2 (Zcy N)) Tryz.f107 ZgW [1,1,1] Q)))
theorem Zvp(N:Nat)(list:Int)(l:List Op)(ab:Int)(s:List Op)(aa u:List Tree)(N0:NT)(Q:QT)(h:∀ ae,ae=(l.getD ab.toNat Op.nil)->∀ af,af=(Edit.mk 0 (Tree.mk 0 [] []) (Tree.mk 0 [] []) [] [] 0 [])->∀ aj,aj=(Int.toNat (((Zi (Wst.mk s aa u)).out).length:Int))->∀ ai,ai=(ae.e)->∀ ah,ah=(Zj ai)->let z3:=Z6U ((s,aa,u,()),());let z2:=Wst.mk s aa (u++Z6 ae.l);let z1:=Wst.mk s (aa++Z6 ae.l) u;let z0:=Wst.mk s aa u;iB (decide (ab < (l.length:Int))) (((0:Int)<=ab/\ab < (l.length:Int))/\(iB (ae.kind==0) ((Z9p ((s,aa,u,()),ae.n,()))/\((InR (ab+1))/\(N0 (JM list l (ab+1) ((Yr z0 ae.n).out) ((Yr z0 ae.n).gone) ((Yr z0 ae.n).brought))))) (iB (ae.kind==1) ((Zga ((s,aa,u,()),ae.l,()))/\((InR (ab+1))/\(N0 (JM list l (ab+1) (z1.out) (z1.gone) (z1.brought))))) (iB (ae.kind==2) ((Zga ((s,aa,u,()),ae.l,()))/\((InR (ab+1))/\(N0 (JM list l (ab+1) (z2.out) (z2.gone) (z2.brought))))) (iB (ae.kind==3) ((Z1g (ai,()))/\(Zb4 (ai,()) < N)/\((ZaK (list,ah,()))/\(iB (Zh6 list ah) ((Z9p ((s,aa,u,()),1,()))/\((InR (ab+1))/\(N0 (JM list l (ab+1) ((Yr z0 1).out) ((Yr z0 1).gone) ((Yr z0 1).brought))))) (z3/\(((((Zi z0).out).length+([(OpOf.mk 0 0 [] af:Op)]).length)*240<=140737488355328)/\((0:Int)<=(((Zi z0).out).length:Int)/\(((Zi z0).out).length:Int) < ((((Zi z0).out)++([(OpOf.mk 0 0 [] af:Op)])).length:Int))/\((0:Nat)<=aj)/\((InR (ab+1))/\(N0 (JM list l (ab+1) (List.set (((Zi z0).out)++([(OpOf.mk 0 0 [] af:Op)])) aj (OpOf.mk 3 0 [] ah:Op)) ((Zi z0).gone) ((Zi z0).brought))))))))) ((InR (ab+1))/\(N0 (JM list l (ab+1) s aa u)))))))) (z3/\(Q .ret (L2 [(4,.c (sU .op ((Zi z0).out) (.own (.e 4 0))))] [])))):
  ZCF N list l ab s aa u N0 Q:=
 Eq.mpr V3 (h _ rfl _ rfl _ rfl _ (Z7 _) _ (Z7 _))
def ZE6(N:Nat)(list:Int)(l:List Op):Prop:=AW (Z2 (Zcy N)) Tryz.f107 ZgW [] (Zf (ZeT.can (list,l,())) []) (EQ Tryz.f107 (ZfO (list,l,())) [])
abbrev ZF1:Prop:=∀ (N:Nat) (list:Int) (l:List Op) (_:Unit),Z9r (list,l,())->ZgG (list,l,()) < N+1->ZE6 N list l
theorem ZtS(c75:CT 75 Z07)(Zzi:CT 149 Z4F)(ZH9:CT 147 Z7v)(Zut:CT 150 Z2O)(Zze:CT 148 Z6B)(ha:ZL1)(hb:ZF1):CT 67 Z0h/\CT 107 ZpC:=
 Z4z (μA:=Zb4) (μB:=ZgG) (l:=[(75,Z07),(149,Z4F),(147,Z7v),(150,Z2O),(148,Z6B)]) Ze rfl (⟨c75,Zzi,ZH9,Zut,Zze,trivial⟩) Zok ZgW Tryz.func67 Tryz.func107 rfl rfl rfl rfl 1 2 (fun _=> rfl) (fun _=> rfl) V2 V2 (fun N ⟨e,_⟩=> ha N e ()) (fun N ⟨list,l,_⟩=> hb N list l ())
end
theorem Zu4(s:Wst)(n:Int):(Yr s n).out.length<=s.out.length+3:=by
 have h:=ZcH s
 simp only [Yr]
 rw [Zbi]
 grind
theorem ZC7{s:Wst}{n B K:Int}(hB:0<=B)(hn:0<=n/\n<=K)(h:∀ o∈s.out,0<=o.n/\o.n<=B):∀ o∈(Yr s n).out,0<=o.n/\o.n<=B+K:=by
 have hF:∀ o∈(Zi s).out,0<=o.n/\o.n<=B:=by
  intro o u
  rcases ZcG s o u with h1 | h1
  .exact h o h1
  .omega
 intro o u
 simp only [Yr] at u
 rw [Zbi] at u
 grind
theorem Zgy:∀ (l:List Kid),(Z0R l).length=l.length
 | []=> rfl
 | k ::r=> by simp [Z0R,Zgy r]
theorem Zoc(e:Edit):(Zj e).words.length<=e.words.length/\(Zj e).kids.length<=e.kids.length:=by
 rw [ZaT]
 split
 .simp
 .split
  .simp [Zgy]
  .split <;> simp
theorem Zju{list:Int}{o:Op}{d:Int}(h:Zb list o d=true)(hk:o.kind=0):1<=o.n/\o.n<=1048576:=by
 obtain ⟨k,n,l,e⟩:=o
 simp only at hk
 subst hk
 simp [Zb] at h
 grind
theorem Zjv{list:Int}{o:Op}{d:Int}(h:Zb list o d=true)(hk:o.kind=3):Z3 o.e d=true:=by
 obtain ⟨k,n,l,e⟩:=o
 simp only at hk
 subst hk
 simp [Zb] at h
 exact h.2.1.2
theorem Zu1{e:Edit}{d:Int}(h:Z3 e d=true)(hk:e.kind=2):∀ k∈e.kids,∃ d,Z3 k.e d=true:=by
 obtain ⟨k,o,n,w,ks,l,os⟩:=e
 change k=2 at hk
 subst hk
 have u:∃ d s,Zw s ks d=true:=by
  unfold Z3 at h
  split at h
  .cases h
  .grind
 obtain ⟨d',s,u⟩:=u
 change ∀ k∈ks,_
 clear h
 induction ks generalizing s with
 | nil=> grind
 | cons a r ih=>
  simp only [Zw,Q6] at u
  intro k hk
  rcases Qa.1 hk with rfl | hk
  .obtain ⟨a,e⟩:=k
   simp only [Jl,Q6] at u
   grind
  grind
theorem Zx0{e:Edit}{d:Int}(h:Z3 e d=true)(hk:e.kind=3):∀ o∈e.ops,∃ d,Zb e.list o d=true:=by
 obtain ⟨k,o,n,w,ks,l,os⟩:=e
 change k=3 at hk
 subst hk
 have s:∃ d,Zz l os d=true:=by
  unfold Z3 at h
  split at h
  .cases h
  .grind
 obtain ⟨u,s⟩:=s
 change ∀ o∈os,∃ d,Zb l o d=true
 clear h
 induction os with
 | nil=> grind
 | cons a r ih=>
  simp only [Zz,Q6] at s
  grind
theorem ZLP:ZF1:=by
 intro N list l _ hp hN
 simp only [Z9r,ZgG] at hp hN
 obtain ⟨p1,p3⟩:=hp
 have hl:=Yo l
 refine ZJX _ _ _ _ ?_
 refine Zc (ι:=Int × Wst) (fun s=> JM list l s.1 s.2.out s.2.gone s.2.brought)
  (fun s=> 0<=s.1/\s.1<=l.length/\J1 list (l.drop s.1.toNat) s.2=J1 list l ⟨[],[],[]⟩/\s.2.out.length<=3*s.1/\s.2.gone.length+s.2.brought.length+Zt (l.drop s.1.toNat)<=Zt l/\∀ o∈s.2.out,0<=o.n/\o.n<=s.1*1048576)
  (fun s=> ((l.length:Int) - s.1).toNat) (0,⟨[],[],[]⟩) rfl ⟨by simp,by simp,by simp,by simp,by simp,by simp⟩ ?_
 rintro ⟨i,s⟩ ⟨g1,g2,h,g4,g5,g6⟩
 dsimp only at g1 g2 h g4 g5 g6
 refine Zvp _ _ _ _ _ _ _ _ _ ?_
 rintro y1 aw y2 av y3 al y4 ai y5 ak
 have hy:y2=Edit.nil:=av
 subst hy
 have es:Wst.mk s.out s.gone s.brought=s:=rfl
 simp only [es] at al ⊢
 (simp only [iB,vcS])
 refine ⟨fun hi=> ?_,fun hi=> ?_⟩
 .have af:=Zk (l:=l) (i:=i.toNat) JX Op.nil
  have hm:=YJ af
  have hr:=p3 _ af
  rw [YE g1 hi Op.nil] at h g5
  rw [<-aw] at h g5 hm hr
  have au:=Y5 y1
  simp only [J1,Z4Q,Zt] at h g5
  rw [<-ai,<-ak] at h
  obtain ⟨d,aj⟩:=hr
  have bf:=ZcH s
  have hP:∀ n:Int,0<=n/\n<=1048576->Z9p ((s.out,s.gone,s.brought,()),n,()):=by
   intro n hn
   simp only [Z9p]
   refine ⟨JX,JX,JX,fun o u=> ?_,JX,JX⟩
   have:=g6 o u
   constructor
   .omega
   .have:i*1048576<=20000000000*1048576:=JX
    omega
  have hK:∀ n:Int,0<=n/\n<=1048576->J1 list (l.drop (i+1).toNat) (Yr s n)=J1 list l ⟨[],[],[]⟩->
    (∃ j:Int × Wst,JM list l (i+1) (Yr s n).out (Yr s n).gone (Yr s n).brought=JM list l j.1 j.2.out j.2.gone j.2.brought/\(0<=j.1/\j.1<=l.length/\J1 list (l.drop j.1.toNat) j.2=J1 list l ⟨[],[],[]⟩/\j.2.out.length<=3*j.1/\j.2.gone.length+j.2.brought.length+Zt (l.drop j.1.toNat)<=Zt l/\∀ o∈j.2.out,0<=o.n/\o.n<=j.1*1048576)/\((l.length:Int) - j.1).toNat < ((l.length:Int) - i).toNat):=by
   intro n hn he
   have h1:=Zu4 s n
   have h2:=ZC7 (s:=s) (n:=n) (B:=i*1048576) (K:=1048576) JX hn g6
   refine ⟨(i+1,Yr s n),rfl,⟨JX,JX,he,by grind,by simp only [Yr,Qp];omega,fun o u=> ?_⟩,JX⟩
   have:=h2 o u
   dsimp only
   omega
  refine ⟨⟨g1,hi⟩,fun hk=> ?_,fun hk=> ⟨fun aa=> ?_,fun aa=> ⟨fun ae=> ?_,fun ae=> ⟨fun ab=> ?_,fun ab=> ?_⟩⟩⟩⟩
  .rw [if_pos hk] at h
   have h1:=Zju aj hk
   exact ⟨hP _ JX,V1,hK _ JX h⟩
  .rw [if_neg hk,if_pos aa] at h
   refine ⟨by simp only [Zga];omega,V1,(i+1,⟨s.out,s.gone++Z6 y1.l,s.brought⟩),rfl,⟨JX,JX,h,by grind,?_,fun o u=> ?_⟩,JX⟩
   .have:=Zy y1.l
    simp only [Qk,Z6,X3];omega
   grind
  .rw [if_neg hk,if_neg aa,if_pos ae] at h
   refine ⟨by simp only [Zga];omega,V1,(i+1,⟨s.out,s.gone,s.brought++Z6 y1.l⟩),rfl,⟨JX,JX,h,by grind,?_,fun o u=> ?_⟩,JX⟩
   .have:=Zy y1.l
    simp only [Qk,Z6,X3];omega
   .have:=g6 o u
    dsimp only;omega
  .rw [if_neg hk,if_neg aa,if_neg ae,if_pos ab] at h
   have ax:=Zjv aj ab
   rw [<-ai] at ax
   have hw:=Zoc y4
   rw [<-ak] at hw
   have h1:=YK y4
   have h2:=Yb y4.kids
   have bh:Z8 y4<=Zu y1:=by rw [au,ai];omega
   refine ⟨by simp only [Z1g];grind,by simp only [Zb4];omega,by simp only [ZaK];omega,fun hq=> ?_,fun hq=> ?_⟩
   .rw [if_pos hq] at h
    exact ⟨hP 1 JX,V1,hK 1 JX h⟩
   .rw [if_neg (by rw [hq];simp)] at h
    rw [al,Z2j]
    refine ⟨by simp only [Z6U];omega,by grind,by grind,JX,V1,(i+1,⟨(Zi s).out++[⟨3,0,[],y5⟩],[],[]⟩),rfl,⟨JX,JX,h,by simp;omega,by simp;omega,fun o u=> ?_⟩,JX⟩
    dsimp only at u ⊢
    rcases Qj.1 u with u | u
    .rcases ZcG s o u with h5 | h5
     .grind
     .omega
    grind
  .rw [if_neg hk,if_neg aa,if_neg ae,if_neg ab] at h
   refine ⟨V1,(i+1,s),rfl,⟨JX,JX,h,by grind,by grind,fun o u=> ?_⟩,JX⟩
   grind
 .rw [Qc JX] at h
  simp only [J1] at h
  refine ⟨by simp only [Z6U];omega,?_⟩
  simp only [ZfO]
  rw [<-h]
  exact V0
theorem b67:ZL1:=by
 intro N e _ hp hN
 simp only [Z1g,Zb4] at hp hN
 obtain ⟨p1,d,p3⟩:=hp
 have h1:=YK e
 have h2:=Yb e.kids
 have h3:=Yo e.ops
 have ha:=ZaT e
 refine ZLk _ _ _ ?_
 (simp only [iB,vcS])
 (simp only [vE])
 refine ⟨fun hk=> ⟨by simp only [Z2l];omega,by simp only [Z2l];omega,?_⟩,fun hk=> ⟨fun h=> ⟨by simp;omega,?_⟩,fun h=> ⟨fun aa=> ⟨?_,by simp only [ZgG];omega,?_⟩,fun aa=> ?_⟩⟩⟩
 .rw [if_pos hk] at ha
  simp only [Zd9,ha]
  exact V0
 .rw [if_neg hk,if_pos h] at ha
  refine Zc (ι:=Int × List Kid) (fun s=> Zbt e s.1 s.2) (fun s=> 0<=s.1/\s.1<=e.kids.length/\s.2.length=s.1/\s.2++Z0R (e.kids.drop s.1.toNat)=Z0R e.kids) (fun s=> ((e.kids.length:Int) - s.1).toNat) (0,[]) rfl ⟨by simp,by simp,by simp,by simp⟩ ?_
  rintro ⟨j,ks⟩ ⟨f1,f2,f3,u⟩
  dsimp only at f1 f2 f3 u
  refine ZA8 _ _ _ _ _ _ ?_
  rintro y1 aj y2 ai y3 ak
  (simp only [iB,vcS])
  refine ⟨fun hj=> ?_,fun hj=> ?_⟩
  .have ae:=Zk (l:=e.kids) (i:=j.toNat) JX (KidOf.mk 0 Edit.nil)
   have hm:=Z0n ae
   have hr:=Zu1 p3 h _ ae
   rw [YE f1 hj (KidOf.mk 0 Edit.nil)] at u
   rw [<-aj] at u hm hr
   simp only [Z0R,Zio] at u
   rw [<-ai] at u hm hr
   rw [<-ak] at u
   refine ⟨⟨f1,hj⟩,by simp only [Z1g];grind,by simp only [Zb4];omega,by simp;omega,V1,(j+1,ks++[⟨y1.at_,y3⟩]),rfl,⟨JX,JX,by simp;omega,?_⟩,JX⟩
   grind
  .rw [Qc JX] at u
   simp only [Z0R,Ql] at u
   rw [u]
   simp only [Zd9,ha]
   exact V0
 .simp only [Z9r]
  exact ⟨JX,fun o ho=> Zx0 p3 aa o ho⟩
 .rw [if_neg hk,if_neg h,if_pos aa] at ha
  simp only [Zd9,ha]
  exact V0
 .rw [if_neg hk,if_neg h,if_neg aa] at ha
  simp only [Zd9,ha]
  exact V0
theorem Zhl:Contract Tryz.prog cfg 67 Z0h/\Contract Tryz.prog cfg 107 ZpC:=ZtS c75 Zzi ZH9 Zut Zze b67 ZLP
noncomputable section
def ZvS(a:Edit × Unit):V U:= .agg (enc .edit (Zj (Zn a.1)))
def Z13:Fs U:=fs ZsH (fun a=> [Z1g a]) ZvS
def ZyA:List (FuncId × Fs U):=[(67,Z0h),(131,Zan)]
def ZG3:Za U:=lvl [([1,2],[1,2]),([2],[2])]
abbrev W85(e:Edit)(Q:QT):=AW (Z2 ZyA) Tryz.f85 ZG3 [] (L2 [(0,.agg (enc .edit e))] []) Q
theorem ZL9(e:Edit)(Q:QT)(h:∀ s,s=e->∀ u,u=(Zn s)->(Z9q (s,()))/\(Z1g (u,()))/\(Q .ret (L2 [pL 2] [(.loc 2,(enc .edit (Zj u)))]))):
  W85 e Q:=
 Eq.mpr V3 (h _ (Z7 _) _ (Z7 _))
def ZHR(e:Edit):Prop:=AW (Z2 ZyA) Tryz.f85 ZG3 [] (Zf (ZsH.can (e,())) []) (EQ Tryz.f85 (ZvS (e,())) [])
theorem ZFB(c67:CT 67 Z0h)(c131:CT 131 Zan)(hb:∀ (e:Edit) (_:Unit),Z1g (e,())->ZHR e):CT 85 Z13:=
 Z1 (l:=[(67,Z0h),(131,Zan)]) Ze rfl (⟨c67,c131,trivial⟩) ZG3 Tryz.func85 rfl rfl 1 (fun _=> rfl) V2 (fun ⟨e,_⟩=> hb e ())
end
mutual
theorem Z9C:∀ (e:Edit),Z8 (Zn e)=Z8 e
 | .mk k o n w ks l os=> by
  have s:=Zdp ks
  have h:=Zdn os
  simp only [Zn,Z8,X3,Z91,s,h]
  omega
theorem Zdp:∀ (ks:List (KidOf Edit)),Zx (Y9 ks)=Zx ks
 | []=> rfl
 | k ::r=> by
  have s:=Zkp k
  have h:=Zdp r
  simp only [Y9,Zx,s,h]
theorem Zkp:∀ (k:KidOf Edit),YO (YY k)=YO k
 | ⟨a,e⟩=> by
  have h:=Z9C e
  trivial
theorem Zdn:∀ (os:List (OpOf Edit)),Zt (Ye os)=Zt os
 | []=> rfl
 | o ::r=> by
  have s:=Zmm o
  have h:=Zdn r
  simp only [Ye,Zt,s,h]
theorem Zmm:∀ (o:OpOf Edit),Zu (Y8 o)=Zu o
 | ⟨k,n,l,e⟩=> by
  have h:=Z9C e
  simp only [Y8]
  split
  .try rfl
  .split
   .try rfl
   .split
    .simp only [Zu,h]
    .try rfl
end
theorem c85:Contract Tryz.prog cfg 85 Z13:=by
 refine ZFB Zhl.1 Zzg.1 ?_
 intro e _ u
 simp only [Z1g] at u
 obtain ⟨hm,d,hr⟩:=u
 refine ZL9 _ _ ?_
 rintro y1 s y2 h
 subst s
 have h1:=Z9C y1
 have h2:=YT _ _ hr
 rw [<-h] at h1 h2
 refine ⟨by simp only [Z9q];omega,by simp only [Z1g];grind,?_⟩
 simp only [ZvS]
 rw [<-h]
 exact V0
noncomputable section
def Zsf:ArgL (WEdit × WEdit × Unit):=(.cons (aEl .wedit) (.cons (aEl .wedit) .nil))
def ZnZ(a:WEdit × WEdit × Unit):Prop:=Z0O a.1/\Z0O a.2.1
def ZjF(a:WEdit × WEdit × Unit):V U:= .tup [(true,(enc .wedit ((Ji a.1 a.2.1).1))),(false,[.bool ((Ji a.1 a.2.1).2)])]
def Za7:Fs U:=fs Zsf (fun a=> [ZnZ a]) ZjF
def Zsg:ArgL (WEdit × Unit):=(.cons (aEl .wedit) .nil)
def Zca(a:WEdit × Unit):Prop:=True
def Zwd(a:WEdit × Unit):V U:= .c (ci a.1.at_)
def Za8:Fs U:=fs Zsg (fun a=> [Zca a]) Zwd
def Zse:ArgL (Kid × Unit):=(.cons (aEl .kid) .nil)
def Zc9(a:Kid × Unit):Prop:=True
def Zwc(a:Kid × Unit):V U:= .c (ci a.1.at_)
def Z2K:Fs U:=fs Zse (fun a=> [Zc9 a]) Zwc
def Zsh:ArgL (List WEdit × List WEdit × Unit × Unit × Unit):=(.cons (aSl .wedit) (.cons (aSl .wedit) (.cons (aFn 204) (.cons (aFn 205) .nil))))
def Zo0(a:List WEdit × List WEdit × Unit × Unit × Unit):Prop:=((∀ x∈a.1,Z0O x)/\(a.1).length<=1000000)/\(∀ x∈a.2.1,Z0O x)/\(a.2.1).length<=1000000
def ZjG(a:List WEdit × List WEdit × Unit × Unit × Unit):V U:= .tup [(false,[sU .wedit (ofO (Zm WEdit.at_ Ji a.1 a.2.1)) .unk]),(false,[.bool ((Zm WEdit.at_ Ji a.1 a.2.1).isSome)])]
def Za9:Fs U:=fs Zsh (fun a=> [Zo0 a]) ZjG
def ZsB:ArgL (List WEdit × List WEdit × Unit):=(.cons (aSl .wedit) (.cons (aSl .wedit) .nil))
def Zo3(a:List WEdit × List WEdit × Unit):Prop:=((∀ x∈a.1,Z0O x)/\(a.1).length<=1000000)/\(∀ x∈a.2.1,Z0O x)/\(a.2.1).length<=1000000
def Zwm(a:List WEdit × List WEdit × Unit):V U:= .tup [(false,[sU .wedit (ofO (Zm WEdit.at_ Ji a.1 a.2.1)) .unk]),(false,[.bool ((Zm WEdit.at_ Ji a.1 a.2.1).isSome)])]
def Z2N:Fs U:=fs ZsB (fun a=> [Zo3 a]) Zwm
def ZxB:Za U:=lvl [([2,3,4],[2,3,4]),([2,3,4,6],[2,3,4]),([2,3,4,20],[2,3,4]),([4,5],[4]),([4,5],[4])]
abbrev ZMo(p:List Nat):=AW (Z2 Z7V) Tryz.f205 ZxB p
theorem ZJ0(p q:WEdit)(Q:QT)(h:let z1:=IntKind.bits .u8;let z0:=IntKind.wrap .u8 (BitVec.ofInt z1 p.mask &&& BitVec.ofInt z1 q.mask).toNat;((Zkf (0,p.new,z0,()))/\(Zkf (0,q.old,z0,()))/\(iB (((mix 0 p.new z0):Int) !=(mix 0 q.old z0)) ((Q .ret (L2 [pL 4,pB 5 false] [(.loc 4,[ci 0,.int .u8 0,.int .u64 0,.int .u64 0])]))) ((Zkf (q.old,p.old,p.mask,()))/\(Zkf (p.new,q.new,q.mask,()))/\(Q .ret (L2 [pL 4,pB 5 true] [(.loc 4,[ci p.at_,.int .u8 (IntKind.wrap .u8 (BitVec.ofInt z1 p.mask ||| BitVec.ofInt z1 q.mask).toNat),.int .u64 (mix q.old p.old p.mask),.int .u64 (mix p.new q.new q.mask)])])))))):
  ZMo [] (L2 [(0,.agg (enc .wedit p)),(1,.agg (enc .wedit q))] []) Q:=
 Eq.mpr V3 h
def ZD9(p q:WEdit):Prop:=AW (Z2 Z7V) Tryz.f205 ZxB [] (Zf (Zsf.can (p,q,())) []) (EQ Tryz.f205 (ZjF (p,q,())) [])
theorem ZB1(Z9J:CT 176 Zam)(hb:∀ (p:WEdit) (q:WEdit) (_:Unit),ZnZ (p,q,())->ZD9 p q):CT 205 Za7:=
 Z1 (l:=[(176,Zam)]) Ze rfl (⟨Z9J,trivial⟩) ZxB Tryz.func205 rfl rfl 2 (fun _=> rfl) V2 (fun ⟨p,q,_⟩=> hb p q ())
abbrev ZMp(p:List Nat):=AW (Z2 ZoA) Tryz.f204 ZGj p
theorem ZJ1(w:WEdit)(Q:QT)(h:(Q .ret (L2 [pI 2 w.at_] []))):
  ZMp [] (L2 [(0,.agg (enc .wedit w))] []) Q:=
 Eq.mpr V3 h
def ZDa(w:WEdit):Prop:=AW (Z2 ZoA) Tryz.f204 ZGj [] (Zf (Zsg.can (w,())) []) (EQ Tryz.f204 (Zwd (w,())) [])
theorem ZB2(hb:∀ (w:WEdit) (_:Unit),Zca (w,())->ZDa w):CT 204 Za8:=
 Z1 (l:=[]) Ze rfl trivial ZGj Tryz.func204 rfl rfl 1 (fun _=> rfl) V2 (fun ⟨w,_⟩=> hb w ())
abbrev ZMn(p:List Nat):=AW (Z2 ZoA) Tryz.f207 ZGj p
theorem ZIY(k:Kid)(Q:QT)(h:(Q .ret (L2 [pI 2 k.at_] []))):
  ZMn [] (L2 [(0,.agg (enc .kid k))] []) Q:=
 Eq.mpr V3 h
def ZD7(k:Kid):Prop:=AW (Z2 ZoA) Tryz.f207 ZGj [] (Zf (Zse.can (k,())) []) (EQ Tryz.f207 (Zwc (k,())) [])
theorem ZB0(hb:∀ (k:Kid) (_:Unit),Zc9 (k,())->ZD7 k):CT 207 Z2K:=
 Z1 (l:=[]) Ze rfl trivial ZGj Tryz.func207 rfl rfl 1 (fun _=> rfl) V2 (fun ⟨k,_⟩=> hb k ())
def Zkx:List (FuncId × Fs U):=[(204,Za8),(205,Za7)]
def ZqE:Za U:=lvk [([0,1,2,3],[]),([0,1,2,3,(10,[.own .wedit])],[]),([0,1,2,3,10,20],[]),([0,1,2,3,10,11,12],[11]),([0,1,2,3,10,11,33],[11]),([8,9],[]),([0,1,2,3,(10,[.own .wedit])],[]),([0,1,2,3,10,42],[]),([0,1,2,3,(10,[.own .wedit])],[]),([0,1,2,3,10,72],[]),([0,1,2,3,(10,[.own .wedit])],[]),([8,9],[])]
def Z3i(p q:List WEdit)(at_ one:Unit)(x0 s h:List WEdit):LSt U:=(L2 [(0,.c (sU .wedit x0 .unk)),(1,.c (sU .wedit s .unk)),(2,.fn 204),(3,.fn 205),(10,.c (sU .wedit h (.own (.e 10 0))))] [])
abbrev ZIr(p:List Nat):=AW (Z2 Zkx) Tryz.f203 ZqE p
abbrev ZKO(p:List Nat):=SW (Z2 Zkx) Tryz.f203 ZqE p
theorem ZJ2(p q:List WEdit)(at_ one:Unit)(Q:QT)(h:(Zp (ZIr [1,1,0,0,0]) (Z3i p q at_ one p q []) (xB 0 (ZKO [1,1,1] Q)))):
  ZIr [] (L2 [(0,.c (sU .wedit p .unk)),(1,.c (sU .wedit q .unk)),(2,.fn 204),(3,.fn 205)] []) Q:=
 Eq.mpr V3 h
theorem ZuV(p q:List WEdit)(at_ one:Unit)(x0 x1 aa:List WEdit)(N0:NT)(Q:QT)(h:∀ ah,ah=(List.getD x0 (Int.toNat 0) (WEdit.mk 0 0 0 0))->∀ af,af=(List.getD x1 (Int.toNat 0) (WEdit.mk 0 0 0 0))->∀ s,s=ah->∀ u,u=af->∀ ae,ae=((Ji s u).1)->let z3:=decide ((0:Int) < (x0.length:Int));let z2:=((x1.length:Int):Int)==0;let z1:=((x0.length:Int):Int)==0;let z0:=(!z2) && z3;(Tt (!z3))/\(Tt (!z3))/\(z3=false->(!z3)=true)/\(iB (bif z3 then true else (decide ((0:Int) < (x1.length:Int)))) ((Tt (!z2))/\(Tt (!z2))/\(Tt (!z2))/\(Tt z0)/\(z0=true->(0:Int)<=0/\0 < (x0.length:Int))/\(Tt z0)/\(Tt z0)/\(Tt z0)/\(z0=true->Zca (s,()))/\(Tt z0)/\(z0=true->(0:Int)<=0/\0 < (x1.length:Int))/\(Tt z0)/\(Tt z0)/\(Tt z0)/\(z0=true->Zca (u,()))/\(Tt z0)/\(Tt z0)/\((!z2)=true->(True->(!z2)=true))/\((!z2)=true->(z3=true->z0=true))/\(z2=false->(!z2)=true)/\(iB (bif z2 then true else (bif z3 then (decide (s.at_ < u.at_)) else false)) (((0:Int)<=0/\0 < (x0.length:Int))/\((aa.length+([s]).length)*32<=140737488355328)/\((0:Int)<=1/\1<=(x0.length:Int))/\(N0 (Z3i p q at_ one (List.drop (Int.toNat 1) x0) x1 (aa++([s]))))) ((Tt (!z1))/\((!z1)=true->(0:Int)<=0/\0 < (x1.length:Int))/\(Tt (!z1))/\(Tt (!z1))/\(Tt (!z1))/\((!z1)=true->Zca (u,()))/\(Tt (!z1))/\((!z1)=true->(0:Int)<=0/\0 < (x0.length:Int))/\(Tt (!z1))/\(Tt (!z1))/\(Tt (!z1))/\((!z1)=true->Zca (s,()))/\(Tt (!z1))/\(Tt (!z1))/\(z1=false->(!z1)=true)/\(iB (bif z1 then true else (decide (u.at_ < s.at_))) (((0:Int)<=0/\0 < (x1.length:Int))/\((aa.length+([u]).length)*32<=140737488355328)/\((0:Int)<=1/\1<=(x1.length:Int))/\(N0 (Z3i p q at_ one x0 (List.drop (Int.toNat 1) x1) (aa++([u]))))) (((0:Int)<=0/\0 < (x0.length:Int))/\((0:Int)<=0/\0 < (x1.length:Int))/\(ZnZ (s,u,()))/\(iB (!((Ji s u).2)) ((Q .ret (L2 [(8,.c (.nils)),pB 9 false] []))) (((aa.length+([ae]).length)*32<=140737488355328)/\((0:Int)<=1/\1<=(x0.length:Int))/\((0:Int)<=1/\1<=(x1.length:Int))/\(N0 (Z3i p q at_ one (List.drop (Int.toNat 1) x0) (List.drop (Int.toNat 1) x1) (aa++([ae]))))))))))) ((Q .ret (L2 [(8,.c (sU .wedit aa (.own (.e 8 0)))),pB 9 true] []))))):
  ZIr [1,1,0,0,0] (Z3i p q at_ one x0 x1 aa) (xT N0 (xB 0 (ZKO [1,1,1] Q))):=
 Eq.mpr V3 (h _ rfl _ rfl _ (Z0m _) _ (Z0m _) _ (Z0m _))
def ZDb(p q:List WEdit)(at_ one:Unit):Prop:=AW (Z2 Zkx) Tryz.f203 ZqE [] (Zf (Zsh.can (p,q,at_,one,())) []) (EQ Tryz.f203 (ZjG (p,q,at_,one,())) [])
theorem ZB3(ZGQ:CT 204 Za8)(ZGP:CT 205 Za7)(hb:∀ (p:List WEdit) (q:List WEdit) (at_:Unit) (one:Unit) (_:Unit),Zo0 (p,q,at_,one,())->ZDb p q at_ one):CT 203 Za9:=
 Z1 (l:=[(204,Za8),(205,Za7)]) Ze rfl (⟨ZGQ,ZGP,trivial⟩) ZqE Tryz.func203 rfl rfl 4 (fun _=> rfl) V2 (fun ⟨p,q,at_,one,_⟩=> hb p q at_ one ())
def Zrx:List (FuncId × Fs U):=[(203,Za9)]
abbrev ZMD(p:List Nat):=AW (Z2 Zrx) Tryz.f164 Zy1 p
theorem ZJu(p q:List WEdit)(Q:QT)(h:((Zo0 (p,q,(),(),()))/\(Q .ret (L2 [(4,.c (sU .wedit (ofO (Zm WEdit.at_ Ji p q)) .unk)),pB 5 ((Zm WEdit.at_ Ji p q).isSome)] [])))):
  ZMD [] (L2 [(0,.c (sU .wedit p .unk)),(1,.c (sU .wedit q .unk))] []) Q:=
 Eq.mpr V3 h
def ZDD(p q:List WEdit):Prop:=AW (Z2 Zrx) Tryz.f164 Zy1 [] (Zf (ZsB.can (p,q,())) []) (EQ Tryz.f164 (Zwm (p,q,())) [])
theorem ZBr(ZGR:CT 203 Za9)(hb:∀ (p:List WEdit) (q:List WEdit) (_:Unit),Zo3 (p,q,())->ZDD p q):CT 164 Z2N:=
 Z1 (l:=[(203,Za9)]) Ze rfl (⟨ZGR,trivial⟩) Zy1 Tryz.func164 rfl rfl 2 (fun _=> rfl) V2 (fun ⟨p,q,_⟩=> hb p q ())
end
noncomputable section
def Z37:ArgL (Edit × Edit × Unit):=(.cons (aEl .edit) (.cons (aEl .edit) .nil))
def Z2A(a:Edit × Edit × Unit):Prop:=Y4 a.1/\Y4 a.2.1
def Z8R(a:Edit × Edit × Unit):Nat:=8*(Z8 a.1+Z8 a.2.1)
def Z3v(a:Edit × Edit × Unit):V U:= .tup [(true,(enc .edit ((Yt a.1 a.2.1).1))),(false,[.bool ((Yt a.1 a.2.1).2)])]
def Z7x:Fs U:=fs Z37 (fun a=> [Z2A a]) Z3v
def Z36:ArgL (List Kid × List Kid × Unit):=(.cons (aSl .kid) (.cons (aSl .kid) .nil))
def Z4u(a:List Kid × List Kid × Unit):Prop:=ZdR a.1/\ZdR a.2.1
def Zb3(a:List Kid × List Kid × Unit):Nat:=8*(Zx a.1+Zx a.2.1)+4
def Z5I(a:List Kid × List Kid × Unit):V U:= .tup [(false,[sU .kid (ofO (Zm KidOf.at_ (Z1I Yt) a.1 a.2.1)) .unk]),(false,[.bool ((Zm KidOf.at_ (Z1I Yt) a.1 a.2.1).isSome)])]
def Zpw:Fs U:=fs Z36 (fun a=> [Z4u a]) Z5I
def Z34:ArgL (List Kid × List Kid × Unit × Unit × Unit):=(.cons (aSl .kid) (.cons (aSl .kid) (.cons (aFn 207) (.cons (aFn 208) .nil))))
def Z4r(a:List Kid × List Kid × Unit × Unit × Unit):Prop:=ZdR a.1/\ZdR a.2.1
def Zb0(a:List Kid × List Kid × Unit × Unit × Unit):Nat:=8*(Zx a.1+Zx a.2.1)+3
def Z3u(a:List Kid × List Kid × Unit × Unit × Unit):V U:= .tup [(false,[sU .kid (ofO (Zm KidOf.at_ (Z1I Yt) a.1 a.2.1)) .unk]),(false,[.bool ((Zm KidOf.at_ (Z1I Yt) a.1 a.2.1).isSome)])]
def Zps:Fs U:=fs Z34 (fun a=> [Z4r a]) Z3u
def Z33:ArgL (Kid × Kid × Unit):=(.cons (aEl .kid) (.cons (aEl .kid) .nil))
def Z4q(a:Kid × Kid × Unit):Prop:=ZyT a.1/\ZyT a.2.1
def ZaZ(a:Kid × Kid × Unit):Nat:=8*(YO a.1+YO a.2.1)+1
def Z4n(a:Kid × Kid × Unit):V U:= .tup [(true,(enc .kid ((Z1I Yt a.1 a.2.1).1))),(false,[.bool ((Z1I Yt a.1 a.2.1).2)])]
def Zpr:Fs U:=fs Z33 (fun a=> [Z4q a]) Z4n
def Z4t(a:List Op × List Op × Unit):Prop:=ZlJ a.1/\ZlJ a.2.1
def Zb2(a:List Op × List Op × Unit):Nat:=8*(Zt a.1+Zt a.2.1)+40
def Z2y(a:List Op × List Op × Unit):V U:= .tup [(false,[sU .op (ofO (Z1n Yt a.1 a.2.1)) .unk]),(false,[.bool ((Z1n Yt a.1 a.2.1).isSome)])]
def Zpv:Fs U:=fs ZsD (fun a=> [Z4t a]) Z2y
def Z32:ArgL (Piece × Unit):=(.cons (aEl .piece) .nil)
def Z4p(a:Piece × Unit):Prop:=PcOk a.1
def ZaY(a:Piece × Unit):Nat:=8*(Zu a.1.p+Zu a.1.q)+1
def Z3t(a:Piece × Unit):V U:= .tup [(true,(enc .op ((ZQ Yt a.1).op))),(false,[.bool ((ZQ Yt a.1).is)]),(false,[.bool ((ZQ Yt a.1).ok)])]
def Zpq:Fs U:=fs Z32 (fun a=> [Z4p a]) Z3t
def Z2V(N:Nat):List (FuncId × Fs U):=(111,fs Z37 (fun a=> [Z2A a,Z8R a < N]) Z3v) ::(165,fs Z36 (fun a=> [Z4u a,Zb3 a < N]) Z5I) ::(206,fs Z34 (fun a=> [Z4r a,Zb0 a < N]) Z3u) ::(208,fs Z33 (fun a=> [Z4q a,ZaZ a < N]) Z4n) ::(166,fs ZsD (fun a=> [Z4t a,Zb2 a < N]) Z2y) ::(210,fs Z32 (fun a=> [Z4p a,ZaY a < N]) Z3t) ::[(25,JD),(85,Z13),(114,YN),(164,Z2N),(207,Z2K),(209,Z2J)]
def Zyd:Za U:=lvl [([2,3,4],[2,3,4]),([2,3,4,15],[2,3,4]),([4,5],[4]),([2,3,4,20],[2,3,4]),([4,5],[4]),([2,3,4,25],[2,3,4]),([2,4,6,7],[2,4,6]),([4,5],[4]),([2,3,4,41],[2,3,4]),([3,4,8,9],[3,4,8]),([4,5],[4]),([2,3,4,58],[2,3,4]),([4,5],[4]),([2,3,4,72],[2,3,4]),([2,3,4,10,11],[2,3,4]),([2,3,4,10,85],[2,3,4]),([4,5],[4]),([4,10,11,12],[4]),([4,5],[4]),([2,4,13,14],[2,4]),([4,5],[4])]
abbrev ZMR(N:Nat)(p:List Nat):=AW (Z2 (Z2V N)) Tryz.f111 Zyd p
theorem ZJW(N:Nat)(p q:Edit)(Q:QT)(h:∀ ae,ae=p->∀ s,s=q->∀ u,u=(p.new)->∀ ab,ab=(q.old)->∀ aa,aa=(Zj (Zn ae))->let z3:=Zm WEdit.at_ Ji p.words q.words;let z2:=Zm KidOf.at_ (Z1I Yt) p.kids q.kids;let z1:=(Q .ret (L2 [pL 4,pB 5 false] [(.loc 4,zc1)]));let z0:=p.kind !=q.kind;(iB (p.kind==0) ((Q .ret (L2 [pL 4,pB 5 true] [(.loc 4,(enc .edit q))]))) ((iB (q.kind==0) ((Q .ret (L2 [pL 4,pB 5 true] [(.loc 4,(enc .edit p))]))) ((iB (p.kind==1) ((Z4N (s,u,()))/\(Q .ret (L2 [pL 4,pB 5 ((doE false s u).isSome)] [(.loc 4,([ci 1]++enc .tree p.old++enc .tree (Z1h ((doE false s u).map Z0))++[.nils,.nils,ci 0,.nils]))]))) ((iB (q.kind==1) ((Z1g (ae,()))/\(Z4N (aa,ab,()))/\(Q .ret (L2 [pL 4,pB 5 ((doE false aa ab).isSome)] [(.loc 4,([ci 1]++enc .tree (Z1h ((doE false aa ab).map Z0))++enc .tree q.new++[.nils,.nils,ci 0,.nils]))]))) ((Tt (!z0))/\(Tt (!z0))/\(Tt (!z0))/\(Tt (!z0))/\(z0=false->(!z0)=true)/\(iB (bif z0 then true else (p.list !=q.list)) z1 ((iB (p.kind==2) ((Zo3 (p.words,q.words,()))/\(iB (!(z3.isSome)) z1 ((Z4u (p.kids,q.kids,()))/\(Zb3 (p.kids,q.kids,()) < N)/\(Q .ret (L2 [pL 4,pB 5 (z2.isSome)] [(.loc 4,[ci 2,ci 0,.nils,.nils,ci 0,.nils,.nils,sU .wedit (ofO z3) .unk,sU .kid (ofO z2) .unk,ci 0,.nils])]))))) ((Z4t (p.ops,q.ops,()))/\(Zb2 (p.ops,q.ops,()) < N)/\(Q .ret (L2 [pL 4,pB 5 ((Z1n Yt p.ops q.ops).isSome)] [(.loc 4,[ci 3,ci 0,.nils,.nils,ci 0,.nils,.nils,.nils,.nils,ci p.list,sU .op (ofO (Z1n Yt p.ops q.ops)) .unk])]))))))))))))))):
  ZMR N [] (L2 [(0,.agg (enc .edit p)),(1,.agg (enc .edit q))] []) Q:=
 Eq.mpr V3 (h _ (Z7 _) _ (Z7 _) _ (Z9 _) _ (Z9 _) _ (Z7 _))
def ZE5(N:Nat)(p q:Edit):Prop:=AW (Z2 (Z2V N)) Tryz.f111 Zyd [] (Zf (Z37.can (p,q,())) []) (EQ Tryz.f111 (Z3v (p,q,())) [])
abbrev ZF0:Prop:=∀ (N:Nat) (p:Edit) (q:Edit) (_:Unit),Z2A (p,q,())->Z8R (p,q,()) < N+1->ZE5 N p q
abbrev ZMC(N:Nat)(p:List Nat):=AW (Z2 (Z2V N)) Tryz.f165 Zy1 p
theorem ZJt(N:Nat)(p q:List Kid)(Q:QT)(h:let z0:=Zm KidOf.at_ (Z1I Yt) p q;((Z4r (p,q,(),(),()))/\(Zb0 (p,q,(),(),()) < N)/\(Q .ret (L2 [(4,.c (sU .kid (ofO z0) .unk)),pB 5 (z0.isSome)] [])))):
  ZMC N [] (L2 [(0,.c (sU .kid p .unk)),(1,.c (sU .kid q .unk))] []) Q:=
 Eq.mpr V3 h
def ZDC(N:Nat)(p q:List Kid):Prop:=AW (Z2 (Z2V N)) Tryz.f165 Zy1 [] (Zf (Z36.can (p,q,())) []) (EQ Tryz.f165 (Z5I (p,q,())) [])
abbrev ZET:Prop:=∀ (N:Nat) (p:List Kid) (q:List Kid) (_:Unit),Z4u (p,q,())->Zb3 (p,q,()) < N+1->ZDC N p q
def ZqD:Za U:=lvk [([0,1,2,3],[]),([0,1,2,3,(10,[.own .kid])],[]),([0,1,2,3,10,20],[]),([0,1,2,3,10,11,12],[11]),([0,1,2,3,10,11,33],[11]),([8,9],[]),([0,1,2,3,(10,[.own .kid])],[]),([0,1,2,3,10,42],[]),([0,1,2,3,(10,[.own .kid])],[]),([0,1,2,3,10,72],[]),([0,1,2,3,(10,[.own .kid])],[]),([8,9],[])]
def Z3h(p q:List Kid)(at_ one:Unit)(x0 s h:List Kid):LSt U:=(L2 [(0,.c (sU .kid x0 .unk)),(1,.c (sU .kid s .unk)),(2,.fn 207),(3,.fn 208),(10,.c (sU .kid h (.own (.e 10 0))))] [])
abbrev ZIq(N:Nat)(p:List Nat):=AW (Z2 (Z2V N)) Tryz.f206 ZqD p
abbrev ZKN(N:Nat)(p:List Nat):=SW (Z2 (Z2V N)) Tryz.f206 ZqD p
theorem ZIZ(N:Nat)(p q:List Kid)(at_ one:Unit)(Q:QT)(h:(Zp (ZIq N [1,1,0,0,0]) (Z3h p q at_ one p q []) (xB 0 (ZKN N [1,1,1] Q)))):
  ZIq N [] (L2 [(0,.c (sU .kid p .unk)),(1,.c (sU .kid q .unk)),(2,.fn 207),(3,.fn 208)] []) Q:=
 Eq.mpr V3 h
theorem ZuU(N:Nat)(p q:List Kid)(at_ one:Unit)(x0 x1 aa:List Kid)(N0:NT)(Q:QT)(h:∀ ah,ah=(List.getD x0 (Int.toNat 0) (KidOf.mk 0 Edit.nil))->∀ af,af=(List.getD x1 (Int.toNat 0) (KidOf.mk 0 Edit.nil))->∀ s,s=ah->∀ u,u=af->∀ ae,ae=((Z1I Yt s u).1)->let z3:=decide ((0:Int) < (x0.length:Int));let z2:=((x1.length:Int):Int)==0;let z1:=((x0.length:Int):Int)==0;let z0:=(!z2) && z3;(Tt (!z3))/\(Tt (!z3))/\(z3=false->(!z3)=true)/\(iB (bif z3 then true else (decide ((0:Int) < (x1.length:Int)))) ((Tt (!z2))/\(Tt (!z2))/\(Tt (!z2))/\(Tt z0)/\(z0=true->(0:Int)<=0/\0 < (x0.length:Int))/\(Tt z0)/\(Tt z0)/\(Tt z0)/\(z0=true->Zc9 (s,()))/\(Tt z0)/\(z0=true->(0:Int)<=0/\0 < (x1.length:Int))/\(Tt z0)/\(Tt z0)/\(Tt z0)/\(z0=true->Zc9 (u,()))/\(Tt z0)/\(Tt z0)/\((!z2)=true->(True->(!z2)=true))/\((!z2)=true->(z3=true->z0=true))/\(z2=false->(!z2)=true)/\(iB (bif z2 then true else (bif z3 then (decide (s.at_ < u.at_)) else false)) (((0:Int)<=0/\0 < (x0.length:Int))/\((aa.length+([s]).length)*208<=140737488355328)/\((0:Int)<=1/\1<=(x0.length:Int))/\(N0 (Z3h p q at_ one (List.drop (Int.toNat 1) x0) x1 (aa++([s]))))) ((Tt (!z1))/\((!z1)=true->(0:Int)<=0/\0 < (x1.length:Int))/\(Tt (!z1))/\(Tt (!z1))/\(Tt (!z1))/\((!z1)=true->Zc9 (u,()))/\(Tt (!z1))/\((!z1)=true->(0:Int)<=0/\0 < (x0.length:Int))/\(Tt (!z1))/\(Tt (!z1))/\(Tt (!z1))/\((!z1)=true->Zc9 (s,()))/\(Tt (!z1))/\(Tt (!z1))/\(z1=false->(!z1)=true)/\(iB (bif z1 then true else (decide (u.at_ < s.at_))) (((0:Int)<=0/\0 < (x1.length:Int))/\((aa.length+([u]).length)*208<=140737488355328)/\((0:Int)<=1/\1<=(x1.length:Int))/\(N0 (Z3h p q at_ one x0 (List.drop (Int.toNat 1) x1) (aa++([u]))))) (((0:Int)<=0/\0 < (x0.length:Int))/\((0:Int)<=0/\0 < (x1.length:Int))/\(Z4q (s,u,()))/\(ZaZ (s,u,()) < N)/\(iB (!((Z1I Yt s u).2)) ((Q .ret (L2 [(8,.c (.nils)),pB 9 false] []))) (((aa.length+([ae]).length)*208<=140737488355328)/\((0:Int)<=1/\1<=(x0.length:Int))/\((0:Int)<=1/\1<=(x1.length:Int))/\(N0 (Z3h p q at_ one (List.drop (Int.toNat 1) x0) (List.drop (Int.toNat 1) x1) (aa++([ae]))))))))))) ((Q .ret (L2 [(8,.c (sU .kid aa (.own (.e 8 0)))),pB 9 true] []))))):
  ZIq N [1,1,0,0,0] (Z3h p q at_ one x0 x1 aa) (xT N0 (xB 0 (ZKN N [1,1,1] Q))):=
 Eq.mpr V3 (h _ rfl _ rfl _ (Z6Q _) _ (Z6Q _) _ (Z6Q _))
def ZD8(N:Nat)(p q:List Kid)(at_ one:Unit):Prop:=AW (Z2 (Z2V N)) Tryz.f206 ZqD [] (Zf (Z34.can (p,q,at_,one,())) []) (EQ Tryz.f206 (Z3u (p,q,at_,one,())) [])
abbrev ZEP:Prop:=∀ (N:Nat) (p:List Kid) (q:List Kid) (at_:Unit) (one:Unit) (_:Unit),Z4r (p,q,at_,one,())->Zb0 (p,q,at_,one,()) < N+1->ZD8 N p q at_ one
def Zxz:Za U:=lvl [([2,3,4],[2,3,4]),([2,4,6,7],[2,4,6]),([4,5],[4])]
abbrev ZMm(N:Nat)(p:List Nat):=AW (Z2 (Z2V N)) Tryz.f208 Zxz p
theorem ZIX(N:Nat)(a b:Kid)(Q:QT)(h:∀ s,s=(a.e)->∀ u,u=(b.e)->((Z2A (s,u,()))/\(Z8R (s,u,()) < N)/\(Q .ret (L2 [pL 4,pB 5 ((Yt s u).2)] [(.loc 4,([ci a.at_]++enc .edit ((Yt s u).1)))])))):
  ZMm N [] (L2 [(0,.agg (enc .kid a)),(1,.agg (enc .kid b))] []) Q:=
 Eq.mpr V3 (h _ (Z7 _) _ (Z7 _))
def ZD6(N:Nat)(a b:Kid):Prop:=AW (Z2 (Z2V N)) Tryz.f208 Zxz [] (Zf (Z33.can (a,b,())) []) (EQ Tryz.f208 (Z4n (a,b,())) [])
abbrev ZEO:Prop:=∀ (N:Nat) (a:Kid) (b:Kid) (_:Unit),Z4q (a,b,())->ZaZ (a,b,()) < N+1->ZD6 N a b
def ZqL:Za U:=lvk [([0,1],[]),([6,7],[]),([6,21],[]),([4,5],[]),([6,8],[]),([(8,[.own .op]),22,23,24],[]),([8,22,23,24,25],[]),([8,10,22,23,24],[10]),([8,11,12,13,22,23,24],[11]),([8,11,12,22,23,24,35],[11]),([4,5],[]),([8,11,22,23,24,36],[11]),([8,22,23,24],[]),([(8,[.own .op]),22,23,24],[]),([4,5],[])]
def Z55(p q:List Op)(h:Int)(s:List Op):LSt U:=(L2 [(8,.c (sU .op s (.own (.e 8 0)))),(22,.c (sU .piece ((ZA 1 2 p q []).1) .unk)),pI 23 (((ZA 1 2 p q []).1).length:Int),pI 24 h] [])
abbrev ZIz(N:Nat)(p:List Nat):=AW (Z2 (Z2V N)) Tryz.f166 ZqL p
abbrev ZKV(N:Nat)(p:List Nat):=SW (Z2 (Z2V N)) Tryz.f166 ZqL p
theorem ZJs(N:Nat)(p q:List Op)(Q:QT)(h:((Zo4 (p,q,()))/\(iB (!((ZA 1 2 p q []).2.1)) ((Q .ret (L2 [(4,.c (.nils)),pB 5 false] []))) ((Zp (ZIz N [1,1,1,1,0,1,0,0]) (Z55 p q 0 []) (xB 0 (ZKV N [1,1,1,1,1] Q))))))):
  ZIz N [] (L2 [(0,.c (sU .op p .unk)),(1,.c (sU .op q .unk))] []) Q:=
 Eq.mpr V3 h
theorem Zv7(N:Nat)(p q:List Op)(s:Int)(x8:List Op)(N0:NT)(Q:QT)(h:∀ ab,ab=(List.getD ((ZA 1 2 p q []).1) s.toNat (Piece.mk 0 Op.nil Op.nil))->∀ u,u=ab->∀ aa,aa=((ZQ Yt u).op)->(iB (decide (s < (((ZA 1 2 p q []).1).length:Int))) (((0:Int)<=s/\s < (((ZA 1 2 p q []).1).length:Int))/\((Z4p (u,()))/\(ZaY (u,()) < N)/\(iB (!((ZQ Yt u).ok)) ((Q .ret (L2 [(4,.c (.nils)),pB 5 false] []))) ((iB ((ZQ Yt u).is) (((x8.length+([aa]).length)*240<=140737488355328)/\((InR (s+1))/\(N0 (Z55 p q (s+1) (x8++([aa])))))) ((InR (s+1))/\(N0 (Z55 p q (s+1) x8)))))))) ((Q .ret (L2 [(4,.c (sU .op x8 (.own (.e 4 0)))),pB 5 true] []))))):
  ZIz N [1,1,1,1,0,1,0,0] (Z55 p q s x8) (xT N0 (xB 0 (ZKV N [1,1,1,1,1] Q))):=
 Eq.mpr V3 (h _ rfl _ (ZnU _) _ (YB _))
def ZDB(N:Nat)(p q:List Op):Prop:=AW (Z2 (Z2V N)) Tryz.f166 ZqL [] (Zf (ZsD.can (p,q,())) []) (EQ Tryz.f166 (Z2y (p,q,())) [])
abbrev ZES:Prop:=∀ (N:Nat) (p:List Op) (q:List Op) (_:Unit),Z4t (p,q,())->Zb2 (p,q,()) < N+1->ZDB N p q
def ZqC:Za U:=lvl [([1,2],[1,2]),([1,2,13],[1,2]),([2,3,4],[2]),([1,2,30],[1,2]),([2,3,4],[2]),([1,2,42],[1,2]),([1,2,55,56,57],[1,2]),([1,2,55,56,57,58],[1,2]),([1,2,5,6,55,56,57],[1,2,6]),([1,2,55,56,57,70],[1,2]),([2,3,4],[2]),([1,2,55,56,57],[1,2]),([2,3,4],[2]),([1,2,74],[1,2]),([2,7,8],[2,7]),([2,3,4],[2]),([1,2,95],[1,2]),([2,9,10],[2,9]),([2,3,4],[2]),([2,11,12],[2,11]),([2,3,4],[2])]
def Z82(x:Piece)(h:Int):LSt U:=(L2 [pL 1,pL 2,(55,.c (sU .tree x.p.l .unk)),pI 56 (x.p.l.length:Int),pI 57 h] [(.loc 1,(enc .piece x)),(.loc 2,zc2)])
abbrev ZIp(N:Nat)(p:List Nat):=AW (Z2 (Z2V N)) Tryz.f210 ZqC p
abbrev ZCL(N:Nat)(p:List Nat):=SW (Z2 (Z2V N)) Tryz.f210 ZqC p
theorem ZIV(N:Nat)(x:Piece)(Q:QT)(h:∀ u,u=(x.p.e)->∀ s,s=(x.q.e)->∀ ah,ah=(List.getD x.p.l (Int.toNat 0) Tree.nil)->∀ aj,aj=(List.getD x.q.l (Int.toNat 0) Tree.nil)->∀ ab,ab=ah->∀ aa,aa=aj->∀ ae,ae=(Zj (Zn u))->∀ ai,ai=(Z1h ((doE false s ab).map Z0))->∀ af,af=(Z1h ((doE false ae aa).map Z0))->let z0:=(!(x.of==1)) && (x.of==0);((Tt (!(x.of==1)))/\(Tt (!(x.of==1)))/\(Tt (!(x.of==1)))/\(Tt z0)/\(Tt z0)/\(Tt z0)/\((!(x.of==1))=true->(True->(!(x.of==1))=true))/\((!(x.of==1))=true->((x.of==0)=true->z0=true))/\((x.of==1)=false->(!(x.of==1))=true)/\(iB (bif (x.of==1) then true else (bif (x.of==0) then (x.q.kind==0) else false)) ((Q .ret (L2 [pL 2,pB 3 true,pB 4 true] [(.loc 2,(enc .op x.p))]))) ((Tt (!(x.of==2)))/\(Tt (!(x.of==2)))/\(Tt (!(x.of==2)))/\((x.of==2)=false->(!(x.of==2))=true)/\(iB (bif (x.of==2) then true else (x.p.kind==0)) ((Q .ret (L2 [pL 2,pB 3 true,pB 4 true] [(.loc 2,(enc .op x.q))]))) ((Tt (x.p.kind==2))/\(Tt (x.p.kind==2))/\(Tt (x.p.kind==2))/\(Tt (x.p.kind==2))/\(iB (bif (x.p.kind==2) then (x.q.kind==1) else false) ((Zp (ZIp N [1,0,0,1,1,1,1,1,0,0,1,0,0]) (Z82 x 0) (xB 1 (ZCL N [1,0,0,1,1,1,1,1,0,1] (xB 0 (ZCL N [1,1] Q)))))) ((iB (x.p.kind==2) (((0:Int)<=0/\0 < (x.p.l.length:Int))/\(Z4N (s,ab,()))/\(Q .ret (L2 [pL 2,pB 3 true,pB 4 ((doE false s ab).isSome)] [(.loc 2,[ci 2,ci 0,sU .tree ([ai]) .full,ci 0,ci 0,.nils,.nils,ci 0,.nils,.nils,.nils,.nils,ci 0,.nils])]))) ((iB (x.q.kind==1) ((Z1g (u,()))/\((0:Int)<=0/\0 < (x.q.l.length:Int))/\(Z4N (ae,aa,()))/\(Q .ret (L2 [pL 2,pB 3 true,pB 4 ((doE false ae aa).isSome)] [(.loc 2,[ci 1,ci 0,sU .tree ([af]) .full,ci 0,ci 0,.nils,.nils,ci 0,.nils,.nils,.nils,.nils,ci 0,.nils])]))) ((Z2A (u,s,()))/\(Z8R (u,s,()) < N)/\(Q .ret (L2 [pL 2,pB 3 true,pB 4 ((Yt u s).2)] [(.loc 2,([ci 3,ci 0,.nils]++enc .edit ((Yt u s).1)))])))))))))))))):
  ZIp N [] (L2 [(0,.agg (enc .piece x))] []) Q:=
 Eq.mpr V3 (h _ (Z7 _) _ (Z7 _) _ rfl _ rfl _ (Z9 _) _ (Z9 _) _ (Z7 _) _ (Z9 _) _ (Z9 _))
theorem ZuT(N:Nat)(x:Piece)(s:Int)(N0:NT)(Q:QT)(h:∀ ae,ae=(x.p.l.getD s.toNat Tree.nil)->∀ ab,ab=(x.q.l.getD s.toNat Tree.nil)->∀ u,u=ae->∀ aa,aa=ab->(iB (decide (s < (x.p.l.length:Int))) (((0:Int)<=s/\s < (x.p.l.length:Int))/\(((0:Int)<=s/\s < (x.q.l.length:Int))/\(Z2z (u,aa,()))/\(iB (!(Yf (Z0 u) (Z0 aa))) ((Q .ret (L2 [pL 2,pB 3 false,pB 4 false] [(.loc 2,zc2)]))) ((InR (s+1))/\(N0 (Z82 x (s+1))))))) ((Q .ret (L2 [pL 2,pB 3 false,pB 4 true] [(.loc 2,zc2)]))))):
  ZIp N [1,0,0,1,1,1,1,1,0,0,1,0,0] (Z82 x s) (xT N0 (xB 1 (ZCL N [1,0,0,1,1,1,1,1,0,1] (xB 0 (ZCL N [1,1] Q))))):=
 Eq.mpr V3 (h _ rfl _ rfl _ (Z9 _) _ (Z9 _))
def ZD4(N:Nat)(x:Piece):Prop:=AW (Z2 (Z2V N)) Tryz.f210 ZqC [] (Zf (Z32.can (x,())) []) (EQ Tryz.f210 (Z3t (x,())) [])
abbrev ZEN:Prop:=∀ (N:Nat) (x:Piece) (_:Unit),Z4p (x,())->ZaY (x,()) < N+1->ZD4 N x
theorem Zxl(c25:CT 25 JD)(c85:CT 85 Z13)(Z9K:CT 114 YN)(ZH8:CT 164 Z2N)(ZGO:CT 207 Z2K)(ZGN:CT 209 Z2J)(ZHG:ZF0)(ZHA:ZET)(ZHx:ZEP)(ZHw:ZEO)(ZHz:ZES)(ZHv:ZEN):
  CT 111 Z7x/\CT 165 Zpw/\CT 206 Zps/\CT 208 Zpr/\CT 166 Zpv/\CT 210 Zpq:=by
 have ai:FK 111:=⟨Tryz.f111,Tryz.func111,rfl,rfl⟩
 have af:FK 165:=⟨Tryz.f165,Tryz.func165,rfl,rfl⟩
 have ab:FK 206:=⟨Tryz.f206,Tryz.func206,rfl,rfl⟩
 have aa:FK 208:=⟨Tryz.f208,Tryz.func208,rfl,rfl⟩
 have ah:FK 166:=⟨Tryz.f166,Tryz.func166,rfl,rfl⟩
 have u:FK 210:=⟨Tryz.f210,Tryz.func210,rfl,rfl⟩
 have s:∀ N,CT 111 (fs Z37 (fun a=> [Z2A a,Z8R a < N]) Z3v)/\CT 165 (fs Z36 (fun a=> [Z4u a,Zb3 a < N]) Z5I)/\CT 206 (fs Z34 (fun a=> [Z4r a,Zb0 a < N]) Z3u)/\CT 208 (fs Z33 (fun a=> [Z4q a,ZaZ a < N]) Z4n)/\CT 166 (fs ZsD (fun a=> [Z4t a,Zb2 a < N]) Z2y)/\CT 210 (fs Z32 (fun a=> [Z4p a,ZaY a < N]) Z3t):=by
  intro N
  induction N with
  | zero=> exact ⟨JY ai,JY af,JY ab,JY aa,JY ah,JY u⟩
  | succ N ih=>
   have kn:=Z0a (l:=Z2V N) ⟨ih.1,ih.2.1,ih.2.2.1,ih.2.2.2.1,ih.2.2.2.2.1,ih.2.2.2.2.2,c25,c85,Z9K,ZH8,ZGO,ZGN,trivial⟩
   exact ⟨ZO (Γ:=Z2 (Z2V N)) Ze rfl kn Zyd Tryz.func111 rfl rfl (fun a=> by show 2<=_;decide) (fun ⟨p,q,_⟩ h=> ZHG N p q () h.1 h.2.1),
    ZO (Γ:=Z2 (Z2V N)) Ze rfl kn Zy1 Tryz.func165 rfl rfl (fun a=> by show 2<=_;decide) (fun ⟨p,q,_⟩ h=> ZHA N p q () h.1 h.2.1),
    ZO (Γ:=Z2 (Z2V N)) Ze rfl kn ZqD Tryz.func206 rfl rfl (fun a=> by show 4<=_;decide) (fun ⟨p,q,at_,one,_⟩ h=> ZHx N p q at_ one () h.1 h.2.1),
    ZO (Γ:=Z2 (Z2V N)) Ze rfl kn Zxz Tryz.func208 rfl rfl (fun a=> by show 2<=_;decide) (fun ⟨a,b,_⟩ h=> ZHw N a b () h.1 h.2.1),
    ZO (Γ:=Z2 (Z2V N)) Ze rfl kn ZqL Tryz.func166 rfl rfl (fun a=> by show 2<=_;decide) (fun ⟨p,q,_⟩ h=> ZHz N p q () h.1 h.2.1),
    ZO (Γ:=Z2 (Z2V N)) Ze rfl kn ZqC Tryz.func210 rfl rfl (fun a=> by show 1<=_;decide) (fun ⟨x,_⟩ h=> ZHv N x () h.1 h.2.1)⟩
 exact ⟨JZ ai fun N=> (s N).1,JZ af fun N=> (s N).2.1,JZ ab fun N=> (s N).2.2.1,JZ aa fun N=> (s N).2.2.2.1,JZ ah fun N=> (s N).2.2.2.2.1,JZ u fun N=> (s N).2.2.2.2.2⟩
end
theorem Z0d{n:Nat}{rs:List ResultVar}{r r':V U}{X:List (List (C U))}{e:AExit}{s:LSt U}(hr:r=r')(h:Y7 cfg n rs r' X e s):Y7 cfg n rs r X e s:=by grind
theorem ZGP:Contract Tryz.prog cfg 205 Za7:=by
 refine ZB1 Z9J ?_
 intro p q _ hp
 obtain ⟨rp,s⟩:=hp
 dsimp only at rp s
 have A:=(Z4i rp.2.1 s.2.1).1
 refine ZJ0 _ _ _ ?_
 (simp only [iB,vcT,vcS])
 have z0:(0:Int)<=0/\(0:Int) < 18446744073709551616:=V2
 refine ⟨⟨z0,rp.2.2.2,A⟩,⟨z0,s.2.2.1,A⟩,fun h=> ?_,fun h=> ⟨⟨s.2.2.1,rp.2.2.1,rp.2.1⟩,⟨rp.2.2.2,s.2.2.2,s.2.1⟩,?_⟩⟩
 .have u:ZcL p q=false:=decide_eq_false h
  refine Z0d (r':= .tup [(true,enc .wedit (⟨0,0,0,0⟩:WEdit)),(false,[.bool false])]) ?_ V0
  simp only [ZjF,Ji]
  rw [u]
  try rfl
 .have u:ZcL p q=true:=decide_eq_true h
  refine Z0d (r':= .tup [(true,enc .wedit (⟨p.at_,orM p.mask q.mask,mix q.old p.old p.mask,mix p.new q.new q.mask⟩:WEdit)),(false,[.bool true])]) ?_ V0
  simp only [ZjF,Ji]
  rw [u]
  try rfl
theorem ZGQ:Contract Tryz.prog cfg 204 Za8:=by
 refine ZB2 ?_
 intro w _ _
 exact ZJ1 _ _ (Jb rfl rfl)
theorem ZGO:Contract Tryz.prog cfg 207 Z2K:=by
 refine ZB0 ?_
 intro w _ _
 exact ZIY _ _ (Jb rfl rfl)
theorem ZgH{α:Type}{at_:α->Int}{one:α->α->α × Bool}{p q:List α}(h:Zm at_ one p q=none):(Zm at_ one p q).isSome=false/\ofO (Zm at_ one p q)=[]:=by rw [h];trivial
structure MInv {α:Type} (at_:α->Int) (one:α->α->α × Bool) (p q x0 x1 out:List α):Prop where
 eq:Zm at_ one p q=(Zm at_ one x0 x1).map (out++·)
 len:out.length+x0.length+x1.length<=p.length+q.length
theorem MInv.left{α:Type}{at_:α->Int}{one:α->α->α × Bool}{p q s out:List α}{a:α}{x0:List α}(h:MInv at_ one p q (a ::x0) s out)(hb:∀ b∈s.head?,at_ a < at_ b):MInv at_ one p q x0 s (out++[a]):=by
 refine ⟨?_,by have:=h.len;grind⟩
 rw [h.eq]
 cases s with
 | nil=>
  rw [Zm]
  have:Zm at_ one x0 []=some x0:=by cases x0 <;> rw [Zm]
  grind
 | cons b r=>
  rw [Zm,if_pos (hb b (by simp))]
  cases Zm at_ one x0 (b ::r) <;> simp
theorem MInv.right{α:Type}{at_:α->Int}{one:α->α->α × Bool}{p q x0 out:List α}{b:α}{s:List α}(h:MInv at_ one p q x0 (b ::s) out)(hb:∀ a∈x0.head?,at_ b < at_ a):MInv at_ one p q x0 s (out++[b]):=by
 refine ⟨?_,by have:=h.len;grind⟩
 rw [h.eq]
 cases x0 with
 | nil=> rw [Zm,Zm];simp
 | cons a r=>
  have:=hb a (by simp)
  rw [Zm,J3,if_pos this]
  cases Zm at_ one (a ::r) s <;> simp
theorem MInv.both{α:Type}{at_:α->Int}{one:α->α->α × Bool}{p q x0 s out:List α}{a b:α}(h:MInv at_ one p q (a ::x0) (b ::s) out)(e:at_ a=at_ b):
  ((one a b).2=true->MInv at_ one p q x0 s (out++[(one a b).1]))/\((one a b).2=false->Zm at_ one p q=none):=by
 refine ⟨fun hc=> ⟨?_,by have:=h.len;grind⟩,fun hc=> ?_⟩
 .rw [h.eq,Zm,J3,J3,if_pos hc]
  cases Zm at_ one x0 s <;> simp
 .rw [h.eq,Zm,J3,J3,if_neg (by grind)]
  try rfl
theorem MInv.done{α:Type}{at_:α->Int}{one:α->α->α × Bool}{p q out:List α}(h:MInv at_ one p q [] [] out):Zm at_ one p q=some out:=by
 rw [h.eq,Zm];simp
theorem MInv.left'{α:Type}{at_:α->Int}{one:α->α->α × Bool}{p q x0 u out:List α}(z:α)(h:MInv at_ one p q x0 u out)(hx:0 < x0.length)(hb:u.length=0\/at_ (x0.getD 0 z) < at_ (u.getD 0 z)):
  MInv at_ one p q (x0.drop 1) u (out++[x0.getD 0 z]):=by
 cases x0 with
 | nil=> simp at hx
 | cons a r=>
  refine h.left fun b aa=> ?_
  cases u with
  | nil=> simp at aa
  | cons c s=>
   grind
theorem MInv.right'{α:Type}{at_:α->Int}{one:α->α->α × Bool}{p q x0 u out:List α}(z:α)(h:MInv at_ one p q x0 u out)(hx:0 < u.length)(hb:x0.length=0\/at_ (u.getD 0 z) < at_ (x0.getD 0 z)):
  MInv at_ one p q x0 (u.drop 1) (out++[u.getD 0 z]):=by
 cases u with
 | nil=> simp at hx
 | cons a r=>
  refine h.right fun b aa=> ?_
  cases x0 with
  | nil=> simp at aa
  | cons c s=>
   grind
theorem MInv.both'{α:Type}{at_:α->Int}{one:α->α->α × Bool}{p q x0 u out:List α}(z:α)(h:MInv at_ one p q x0 u out)(h0:0 < x0.length)(h1:0 < u.length)(e:at_ (x0.getD 0 z)=at_ (u.getD 0 z)):
  ((one (x0.getD 0 z) (u.getD 0 z)).2=true->MInv at_ one p q (x0.drop 1) (u.drop 1) (out++[(one (x0.getD 0 z) (u.getD 0 z)).1]))/\((one (x0.getD 0 z) (u.getD 0 z)).2=false->Zm at_ one p q=none):=by
 cases x0 with
 | nil=> simp at h0
 | cons a r=>
  cases u with
  | nil=> simp at h1
  | cons b s=> exact h.both e
theorem ZGR:Contract Tryz.prog cfg 203 Za9:=by
 refine ZB3 ZGQ ZGP ?_
 rintro p q ⟨⟩ ⟨⟩ _ hp
 obtain ⟨⟨rp,lp⟩,rq,lq⟩:=hp
 dsimp only at rp lp rq lq
 refine ZJ2 p q () () _ ?_
 refine Zc (ι:=List WEdit × List WEdit × List WEdit) (fun x=> Z3i p q () () x.1 x.2.1 x.2.2) (fun x=> MInv WEdit.at_ Ji p q x.1 x.2.1 x.2.2/\(∀ w∈x.1,Z0O w)/\∀ w∈x.2.1,Z0O w) (fun x=> x.1.length+x.2.1.length) (p,q,[]) rfl
  ⟨⟨by simp_all,by simp⟩,rp,rq⟩ ?_
 rintro ⟨x0,u,s⟩ ⟨inv,r0,r1⟩
 dsimp only at inv r0 r1
 have aj:=inv.len
 refine ZuV p q () () _ _ _ _ _ ?_
 intro y1 h1 y2 h2 y3 h3 y4 h4 y5 h5
 subst h3 h4
 (simp only [iB,vcT,vcS])
 have h3:y3=x0.getD 0 ⟨0,0,0,0⟩:=h1
 have h4:y4=u.getD 0 ⟨0,0,0,0⟩:=h2
 have d0:∀ w∈x0.drop 1,Z0O w:=fun w hw=> r0 w (Xf hw)
 have d1:∀ w∈u.drop 1,Z0O w:=fun w hw=> r1 w (Xf hw)
 refine ⟨fun ay=> ⟨fun h=> ⟨JX,JX⟩,fun _=> trivial,fun h=> ⟨JX,JX⟩,fun _=> trivial,fun g1 g2=> ⟨g1,g2⟩,fun hA=> ?_,fun hB=> ?_⟩,fun hE=> ?_⟩
 .refine ⟨⟨JX,JX⟩,by grind,⟨JX,JX⟩,(x0.drop 1,u,s++[y3]),rfl,⟨?_,d0,r1⟩,by grind⟩
  rw [h3]
  exact inv.left' _ JX (by grind)
 .refine ⟨fun h=> ⟨JX,JX⟩,fun _=> trivial,fun h=> ⟨JX,JX⟩,fun _=> trivial,fun hC=> ?_,fun hD=> ?_⟩
  .refine ⟨⟨JX,JX⟩,by grind,⟨JX,JX⟩,(x0,u.drop 1,s++[y4]),rfl,⟨?_,r0,d1⟩,by grind⟩
   rw [h4]
   exact inv.right' _ JX (by grind)
  .have hb:=inv.both' ⟨0,0,0,0⟩ JX JX (by grind)
   rw [<-h3,<-h4] at hb
   have m3:Z0O y3:=by rw [h3];exact r0 _ (Zk JX _)
   have m4:Z0O y4:=by rw [h4];exact r1 _ (Zk JX _)
   refine ⟨⟨JX,JX⟩,⟨JX,JX⟩,⟨m3,m4⟩,fun hc=> ?_,fun hc=> ?_⟩
   .have e:=ZgH (hb.2 hc)
    refine Z0d (r':= .tup [(false,[.slice (U:=U) .wedit [] .unk]),(false,[.bool false])]) ?_ V0
    simp only [ZjG]
    rw [e.1,e.2]
   .refine ⟨by grind,⟨JX,JX⟩,⟨JX,JX⟩,(x0.drop 1,u.drop 1,s++[y5]),rfl,⟨?_,d0,d1⟩,by grind⟩
    grind
 .have e0:x0=[]:=Q5 JX
  have e1:u=[]:=Q5 JX
  subst e0 e1
  have e:=inv.done
  refine Z0d (r':= .tup [(false,[.slice (U:=U) .wedit s .unk]),(false,[.bool true])]) ?_ V0
  simp only [ZjG]
  rw [e]
  try rfl
theorem ZH8:Contract Tryz.prog cfg 164 Z2N:=by
 refine ZBr ZGR ?_
 intro p q _ h
 exact ZJu _ _ _ ⟨h,V0⟩
end Go.AM.YtpjenobkibfpcaaGreat
