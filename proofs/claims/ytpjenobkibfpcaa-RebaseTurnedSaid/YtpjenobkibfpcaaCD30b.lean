import Derived.Test.YtpjenobkibfpcaaKG21b
import Derived.Test.YtpjenobkibfpcaaKL23r
import Derived.Test.YtpjenobkibfpcaaKD24
set_option linter.unusedSimpArgs false
set_option linter.unusedVariables false
namespace Go.AM.Ytpjenobkibfpcaa
open Go.AM Go.Proofs
theorem Zoh:Contract Try.prog cfg 109 Z22:=by
 refine Zn5 ?_
 intro l _ hp
 simp only [ZaK] at hp
 refine Zsx _ _ ⟨fun h=> ?_,fun _=> ⟨by simp only [Qb];omega,?_⟩⟩
 ·subst h
  simp only [Z60]
  (repeat' (first | exact trivial | exact rfl | apply And.intro))
 ·simp only [Z60]
  (repeat' (first | exact trivial | exact rfl | apply And.intro))
theorem Zu6:Contract Try.prog cfg 150 Z3X:=by
 refine Zq8 ?_
 intro l _ hp
 simp only [ZaG] at hp
 refine ZvC _ _ ⟨fun h=> ?_,fun _=> ⟨by simp only [Qb];omega,?_⟩⟩
 ·subst h
  simp only [Z9m]
  (repeat' (first | exact trivial | exact rfl | apply And.intro))
 ·simp only [Z9m]
  (repeat' (first | exact trivial | exact rfl | apply And.intro))
theorem ZbY{α:Type}(z:α){l:List α}{i:Nat}(h:i < l.length)(x:α):J1 z l i x=l.set i x:=by
 simp only [J1];rw [show i+1 - l.length=0 by omega];simp
theorem Z86{α:Type}(z:α){l:List α}{i:Nat}(h:l.length<=i)(x:α):J1 z (l++[z]) i x=J1 z l i x:=by
 simp only [J1,Q6,XA,Qe]
 rw [show i+1 - l.length=(i+1 - (l.length+1))+1 by omega,List.replicate_succ]
 try rfl
theorem Zn2(t:Tree):t.words.length+Z4 t.kids+1=Zj t:=by obtain ⟨k,w,ks⟩:=t;simp only [Zj,Tree.words_mk,Tree.kids_mk];omega
theorem Zm7{t:Tree}(h:rng t):InR t.kind/\(∀ x∈t.words,isW x)/\YG t.kids:=by obtain ⟨k,w,ks⟩:=t;exact h
theorem Zi0{ks:List Tree}(h:YG ks)(i:Nat):rng (ks.getD i Tree.nil):=by
 by_cases hi:i < ks.length
 ·exact Z0p h (Zh hi _)
 ·rw [Qm,Qw (by omega)]
  refine ⟨by decide,by simp [Tree.nil],trivial⟩
theorem ZfB(ks:List Tree)(i:Nat):Zj (ks.getD i Tree.nil)<=Z4 ks+1:=by
 by_cases hi:i < ks.length
 ·have:=YS (Zh hi Tree.nil);omega
 ·rw [Qm,Qw (by omega)]
  simp [Tree.nil,Zj,Z4]
theorem ZkW(t:Tree){i:Int}(h:0<=i):Jf t i=t.kids.getD i.toNat Tree.nil:=by unfold Jf;rw [if_neg (by omega)]
theorem Zgk(t:Tree){i:Int}(h:0<=i):YY t i=t.words.getD i.toNat 0:=by unfold YY;rw [if_neg (by omega)]
theorem ZoQ{l:List Int}(h:∀ x∈l,isW x)(i:Nat):isW (l.getD i 0):=by
 by_cases hi:i < l.length
 ·exact h _ (Zh hi _)
 ·rw [Qm,Qw (by omega)];show 0<=(0:Int)/\(0:Int) < _;omega
theorem b70:ZwF:=by
 intro N e t _ hp hN
 simp only [Z27,ZbE] at hp hN
 obtain ⟨⟨p1,p2,d,p3⟩,p4,p5⟩:=hp
 have h1:=YI e
 have h2:=Z5R p2
 have hd:=Zeb false e t
 rw [Z7x] at hd
 refine ZwT _ _ _ _ ?_
 rintro y1 hy1 y2 hy2 y3 hy3
 subst hy1 hy2 hy3
 (simp only [vcT,vcS])
 refine ⟨fun hk=> ?_,fun hk=> ⟨fun hk1=> ⟨by simp only [Z0y];omega,?_⟩,fun hk1=> ⟨fun hk2=> ⟨by simp only [Z2L];exact ⟨hk2,⟨p1,p2,d,p3⟩,p4,p5⟩,by simp only [Z8o];omega,?_⟩,fun hk2=> ⟨fun hk3=> ⟨by simp only [Z2K];exact ⟨hk3,⟨p1,p2,d,p3⟩,p4,p5⟩,by simp only [Z8o];omega,?_⟩,fun hk3=> ?_⟩⟩⟩⟩
 ·rw [if_pos hk] at hd
  simp only [Z3n,Z8R,if_pos hk,hd]
  (repeat' (first | exact trivial | exact rfl | apply And.intro))
 ·rw [if_neg hk,if_pos hk1] at hd
  simp only [Z3n,Z8R,if_neg hk,if_pos hk1,hd]
  cases Y3 (Z7 y1.old) (Z7 y2) <;> (repeat' (first | exact trivial | exact rfl | apply And.intro))
 ·rw [if_neg hk,if_neg hk1,if_pos hk2] at hd
  simp only [Z3n,Z8R,if_neg hk,if_neg hk1,if_pos hk2,hd]
  (repeat' (first | exact trivial | exact rfl | apply And.intro))
 ·rw [if_neg hk,if_neg hk1,if_neg hk2,if_pos hk3] at hd
  simp only [Z3n,Z8R,if_neg hk,if_neg hk1,if_neg hk2,if_pos hk3,hd]
  have e2:(if y2.kind=y1.list then (Zbk (Z2o false y1.ops y2.kids [])).map fun b=> Tree.mk y1.list [] b else none).isSome=(Zbk (Z4J false y1 y2)).isSome:=by
   unfold Z4J
   split
   ·cases Zbk (Z2o false y1.ops y2.kids []) <;> rfl
   ·try rfl
  rw [e2]
  (repeat' (first | exact trivial | exact rfl | apply And.intro))
 ·rw [if_neg hk,if_neg hk1,if_neg hk2,if_neg hk3] at hd
  simp only [Z3n,Z8R,if_neg hk,if_neg hk1,if_neg hk2,if_neg hk3,hd]
  (repeat' (first | exact trivial | exact rfl | apply And.intro))
theorem Zul:Zst:=by
 intro N e t _ hp hN
 simp only [Z2L,Z8o] at hp hN
 obtain ⟨k2,⟨p1,p2,d,p3⟩,p4,p5⟩:=hp
 have h1:=YI e
 have h2:=YB e.kids
 have h3:=Zn2 t
 have h4:=Zt t.kids
 have r2:=Z5R p2
 have rt:=Zm7 p5
 have ri:=Zr p3
 refine ZvP _ _ _ _ ?_
 (simp only [vcT,vcS])
 have no:Z8P false e t=none->Yw cfg Try.f107.ntmps Try.f107.results.toList (Z2H (e,t,())) [] .ret (⟨[(4,.ptr (.loc 4) 0),(5,.c (.bool false))],[((.loc 4),[.int .i64 0,.nils,.nils])],[]⟩:LSt U):=by
  intro hs
  simp only [Z2H,hs]
  (repeat' (first | exact trivial | exact rfl | apply And.intro))
 refine ⟨fun hk=> no (by unfold Z8P;rw [if_neg hk]),fun hk=> ?_⟩
 have hk:t.kind=1:=by simpa using hk
 refine ⟨by simp only [ZaK];omega,by simp only [ZaG];omega,?_⟩
 refine Za (ι:=Int × List Int) (fun s=> Z4x e t s.1 s.2) (fun s=> 0<=s.1/\s.1<=e.words.length/\wsD t.words (e.words.drop s.1.toNat) s.2=wsD t.words e.words t.words/\s.2.length<=t.words.length+65536) (fun s=> ((e.words.length:Int) - s.1).toNat) (0,t.words) rfl ⟨by simp,by simp,by simp,by simp⟩ ?_
 rintro ⟨i,out⟩ ⟨f1,f2,f3,f4⟩
 dsimp only at f1 f2 f3 f4
 refine ZlP _ _ _ _ _ _ _ ?_
 rintro y1 hy1 y2 hy2
 subst hy1
 (simp only [vcT,vcS])
 refine ⟨fun hi=> ?_,fun hi=> ?_⟩
 ·have hmem:=Zh (l:=e.words) (i:=i.toNat) (by omega) (WEdit.mk 0 0 0 0)
  rw [YL f1 hi (WEdit.mk 0 0 0 0),<-hy2] at f3
  rw [<-hy2] at hmem
  have hw:=JH ri.words y2 hmem
  obtain ⟨g1,g2,g3,g4⟩:=r2.2.2.2.1 y2 hmem
  have hat:YY y1 y2.at_=y1.words.getD y2.at_.toNat 0:=Zgk y1 (by omega)
  have hwi:=ZoQ rt.2.1 y2.at_.toNat
  rw [wsD] at f3
  rw [hat]
  unfold isW at g3 g4 hwi
  refine ⟨⟨f1,hi⟩,by simp only [Z7n],by simp only [ZdE];omega,fun hne=> no ?_,fun heq=> ?_⟩
  ·rw [if_neg hne] at f3
   unfold Z8P
   rw [if_pos hk,<-f3]
   try rfl
  ·have heq:mix 0 (y1.words.getD y2.at_.toNat 0) y2.mask=y2.old:=by simpa using heq
   rw [if_pos heq] at f3
   refine Za (ι:=List Int) (fun s=> Z4w e y1 i s) (fun s=> (∀ v,J1 0 s y2.at_.toNat v=J1 0 out y2.at_.toNat v)/\s.length<=y1.words.length+65536) (fun s=> (y2.at_+1 - s.length).toNat) out rfl ⟨fun v=> rfl,f4⟩ ?_
   rintro s ⟨q1,q2⟩
   refine ZlO _ _ _ _ _ _ _ _ ?_
   (simp only [Tree.eta,Edit.eta,Tree.kind_mk,Tree.words_mk,Tree.kids_mk])
   rw [<-hy2,hat]
   (simp only [vcT,vcS])
   refine ⟨fun hl=> ⟨by simp;omega,s++[0],rfl,⟨fun v=> ?_,by simp;omega⟩,by simp;omega⟩,fun hl=> ?_⟩
   ·rw [Z86 0 (by omega),q1]
   ·have hl:y2.at_ < s.length:=by omega
    refine ⟨by simp only [ZdE];omega,by omega,by omega,by unfold InR;omega,(i+1,s.set y2.at_.toNat (mix (y1.words.getD y2.at_.toNat 0) y2.new y2.mask)),rfl,⟨by dsimp only;omega,by dsimp only;omega,?_,by simp only [List.length_set];omega⟩,by dsimp only;omega⟩
    dsimp only
    rw [<-f3,<-ZbY 0 (by omega),q1]
 ·rw [Qj (by omega),wsD] at f3
  refine Za (ι:=Int × List Tree) (fun s=> Z4v e y1 out s.1 s.2) (fun s=> 0<=s.1/\s.1<=e.kids.length/\Z8W false y1.kids (e.kids.drop s.1.toNat) s.2=Z8W false y1.kids e.kids y1.kids/\s.2.length<=y1.kids.length+65536) (fun s=> ((e.kids.length:Int) - s.1).toNat) (0,y1.kids) rfl ⟨by simp,by simp,by simp,by simp⟩ ?_
  rintro ⟨j,ks⟩ ⟨e1,e2,e3,e4⟩
  dsimp only at e1 e2 e3 e4
  refine ZlN _ _ _ _ _ _ _ _ ?_
  rintro y1 hy1 y2 hy2 y3 hy3 y4 hy4
  subst hy1
  (simp only [vcT,vcS])
  refine ⟨fun hj=> ?_,fun hj=> ?_⟩
  ·have hmem:=Zh (l:=e.kids) (i:=j.toNat) (by omega) (KidOf.mk 0 Edit.nil)
   rw [YL e1 hj (KidOf.mk 0 Edit.nil),<-hy2] at e3
   rw [<-hy2] at hmem
   have hk2:=ZD ri.kids y2 hmem
   have hm:=Jc hmem
   have hct:=Zbq hmem
   have hca:=Z3S e
   have hr:=(YF r2.2.2.2.2.2.1 hmem).2
   have hat:Jf y1 y2.at_=y1.kids.getD y2.at_.toNat Tree.nil:=ZkW y1 (by omega)
   rw [hat] at hy4
   have hm4:=ZfB y1.kids y2.at_.toNat
   have hr4:=Zi0 rt.2.2 y2.at_.toNat
   rw [Z8W,Zoa,<-hy4,<-hy3] at e3
   rw [<-hy4] at hm4 hr4
   rw [<-hy3] at hm hr hk2 hct
   refine ⟨⟨e1,hj⟩,by simp only [Z7n],by simp only [Z27];exact ⟨⟨by omega,hr,_,hk2.2⟩,by omega,hr4⟩,by simp only [ZbE];omega,fun hne=> no ?_,fun heq=> ?_⟩
   ·have hne:doE false y3 y4=none:=by simpa using hne
    rw [hne] at e3
    unfold Z8P
    rw [if_pos hk,<-f3,<-e3]
    try rfl
   ·obtain ⟨u,hu⟩:=QO.1 heq
    rw [hu,Xb] at e3
    refine Za (ι:=List Tree) (fun s=> Z4u e y1 out j s) (fun s=> (∀ v,J1 Tree.nil s y2.at_.toNat v=J1 Tree.nil ks y2.at_.toNat v)/\s.length<=y1.kids.length+65536) (fun s=> (y2.at_+1 - s.length).toNat) ks rfl ⟨fun v=> rfl,e4⟩ ?_
    rintro s ⟨q1,q2⟩
    refine ZlM _ _ _ _ _ _ _ _ _ ?_
    rintro z1 hz1 z2 hz2 z3 hz3 z4 hz4 z5 hz5
    rw [<-hy2] at hz2
    subst hz1 hz2
    rw [<-hy3] at hz3
    subst hz3
    rw [hat,<-hy4] at hz4
    subst hz4
    rw [Z7t hu] at hz5
    subst hz5
    (simp only [vcT,vcS])
    refine ⟨fun hl=> ⟨by simp;omega,s++[Tree.nil],rfl,⟨fun v=> ?_,by simp;omega⟩,by simp;omega⟩,fun hl=> ?_⟩
    ·rw [Z86 Tree.nil (by omega),q1]
    ·have hl:z2.at_ < s.length:=by omega
     refine ⟨by omega,by omega,by unfold InR;omega,(j+1,s.set z2.at_.toNat z5),rfl,⟨by dsimp only;omega,by dsimp only;omega,?_,by simp only [List.length_set];omega⟩,by dsimp only;omega⟩
     dsimp only
     rw [<-e3,<-ZbY Tree.nil (by omega),q1]
  ·rw [Qj (by omega),Z8W] at e3
   have hs:Z8P false e y1=some (.mk 1 out ks):=by
    unfold Z8P
    rw [if_pos hk,<-f3,<-e3]
    try rfl
   simp only [Z2H,hs]
   (repeat' (first | exact trivial | exact rfl | apply And.intro))
theorem Zl5(r:Bool)(o:Op)(s:List Op)(rest out:List Tree):Z2o r (o ::s) rest out=(Zo9 r o rest out).bind fun x=> Z2o r s x.2 x.1:=by rw [Z2o]
theorem Z0V{ks:List Tree}(h:YG ks)(n:Nat):YG (ks.drop n):=by
 induction n generalizing ks with
 | zero=> exact h
 | succ n ih=> cases ks with
  | nil=> exact h
  | cons a r=> exact ih h.2
theorem Zuk:Zss:=by
 intro N e t _ hp hN
 simp only [Z2K,Z8o] at hp hN
 obtain ⟨k3,⟨p1,p2,d,p3⟩,p4,p5⟩:=hp
 have h1:=YI e
 have h2:=Y9 e.ops
 have h3:=Zn2 t
 have h4:=Zt t.kids
 have r2:=Z5R p2
 have rt:=Zm7 p5
 have ri:=Zr p3
 refine ZvO _ _ _ _ ?_
 (simp only [vcT,vcS])
 have no:Z4J false e t=none->Yw cfg Try.f108.ntmps Try.f108.results.toList (Z2G (e,t,())) [] .ret (⟨[(4,.ptr (.loc 4) 0),(5,.c (.bool false))],[((.loc 4),[.int .i64 0,.nils,.nils])],[]⟩:LSt U):=by
  intro hs
  simp only [Z2G,hs]
  (repeat' (first | exact trivial | exact rfl | apply And.intro))
 refine ⟨fun hk=> no (by unfold Z4J;rw [if_neg hk]),fun hk=> ?_⟩
 have hk:t.kind=e.list:=by simpa using hk
 have hl0:Z4J false e t=Z2o false e.ops t.kids []:=by unfold Z4J;rw [if_pos hk]
 refine Za (ι:=Int × List Tree × List Tree) (fun s=> Z0d e t s.1 s.2.2 s.2.1)
  (fun s=> 0<=s.1/\s.1<=e.ops.length/\Z2o false (e.ops.drop s.1.toNat) s.2.2 s.2.1=Z4J false e t/\s.2.1.length+s.2.2.length+Zg (e.ops.drop s.1.toNat)<=t.kids.length+Zg e.ops/\Z4 s.2.2<=Z4 t.kids/\YG s.2.2)
  (fun s=> ((e.ops.length:Int) - s.1).toNat) (0,[],t.kids) rfl ⟨by simp,by simp,by simp [hl0],by simp,by simp,rt.2.2⟩ ?_
 rintro ⟨i,out,rest⟩ ⟨f1,f2,f3,f4,f5,f6⟩
 dsimp only at f1 f2 f3 f4 f5 f6
 refine ZlK _ _ _ _ _ _ _ _ ?_
 rintro y1 hy1
 (simp only [vcT,vcS])
 refine ⟨fun hi=> ?_,fun hi=> ?_⟩
 ·have hmem:=Zh (l:=e.ops) (i:=i.toNat) (by omega) Op.nil
  rw [YL f1 hi Op.nil,<-hy1] at f3 f4
  rw [<-hy1] at hmem
  have hr:=Go.AM.rightOs_mem ri.ops y1 hmem
  have hm:=ZT hmem
  have hct:=Zbp hmem
  have hca:=Z3S e
  have hme:=ZK y1
  have hro:=Z0I (Z0U r2.2.2.2.2.2.2 hmem)
  have hml:=Zt y1.l
  simp only [Zg] at f4
  rw [Zl5,ZqM] at f3
  have go:∀ (x:List Tree) (m:List Tree) (v:V U) N0 Q',Z2o false (e.ops.drop (i+1).toNat) x m=Z4J false e t->m.length+x.length+Zg (e.ops.drop (i+1).toNat)<=t.kids.length+Zg e.ops->Z4 x<=Z4 t.kids->YG x->
    (∀ s2,s2=Z0d e t (i+1) x m->N0 s2)->Z7Z N [1,1,1,1,0,1,0,0,1,1,1] (Z15 e t i x m v) (AExit.then N0 (AExit.inBlock 0 (Zez N [1,1,1,1,1] Q'))):=by
   intro x m v N0 Q' a1 a2 a3 a4 a5
   exact ZlL _ _ _ _ _ _ _ _ _ ⟨by unfold InR;omega,a5 _ rfl⟩
  have fin:∀ (x m:List Tree),Z2o false (e.ops.drop (i+1).toNat) x m=Z4J false e t->m.length+x.length+Zg (e.ops.drop (i+1).toNat)<=t.kids.length+Zg e.ops->Z4 x<=Z4 t.kids->YG x->∀ s2,s2=Z0d e t (i+1) x m->
    ∃ j:Int × List Tree × List Tree,s2=Z0d e t j.1 j.2.2 j.2.1/\(0<=j.1/\j.1<=e.ops.length/\Z2o false (e.ops.drop j.1.toNat) j.2.2 j.2.1=Z4J false e t/\j.2.1.length+j.2.2.length+Zg (e.ops.drop j.1.toNat)<=t.kids.length+Zg e.ops/\Z4 j.2.2<=Z4 t.kids/\YG j.2.2)/\((e.ops.length:Int) - j.1).toNat < ((e.ops.length:Int) - i).toNat:=by
   rintro x m a1 a2 a3 a4 _ rfl
   exact ⟨(i+1,m,x),rfl,⟨by dsimp only;omega,by dsimp only;omega,a1,a2,a3,a4⟩,by dsimp only;omega⟩
  have r1:=J4 hr
  have ht:∀ n:Nat,(rest.take n).length<=rest.length/\(rest.take n).length+(rest.drop n).length=rest.length:=by
   intro n
   simp only [Qk,X7];omega
  refine ⟨⟨f1,hi⟩,fun hk2=> ⟨by omega,?_⟩,fun hk2=> ⟨fun hk1=> ?_,fun hk1=> ⟨fun hk3=> ?_,fun hk3=> ?_⟩⟩⟩
  ·rw [if_neg (by omega),if_neg (by omega),if_pos hk2,Xb] at f3
   exact go _ _ _ _ _ f3 (by simp only [Q6];omega) f5 f6 (fin _ _ f3 (by simp only [Q6];omega) f5 f6)
  ·refine Z9H _ _ _ _ _ _ _ _ _ _ ?_
   rintro z1 hz1 z2 hz2 z3 hz3 z4 hz4 z5 hz5 z6 hz6
   rw [<-hy1] at hz1
   subst hz1
   rw [if_neg (by omega),if_pos hk1] at f3
   (simp only [vcT,vcS])
   rw [QV] at hz5
   rw [QV]
   refine ⟨fun hs=> no ?_,fun hs=> ⟨by omega,by omega,fun h=> by omega,fun _=> ⟨fun _=> ⟨?_,fun hq=> no ?_,fun hq=> ?_⟩,fun h=> absurd hk1 h⟩⟩⟩
   ·have:Z8G z1.l rest=false:=by unfold Z8G;rw [decide_eq_false (by omega)];try rfl
    rw [this,if_neg (by simp)] at f3
    exact f3.symm
   ·have:=Zb3 z1.l.length rest
    simp only [Z57];omega
   ·have:Z8G z1.l rest=false:=by unfold Z8G;rw [<-hz5,hq];simp
    rw [this,if_neg (by simp)] at f3
    exact f3.symm
   ·have:Z8G z1.l rest=true:=by unfold Z8G;rw [<-hz5,hq,decide_eq_true (by omega)];try rfl
    rw [this,if_pos rfl,Xb] at f3
    have hd:=Z1l z1.l.length rest
    have ht1:=ht z1.l.length
    exact go _ _ _ _ _ f3 (by omega) (by omega) (Z0V f6 _) (fin _ _ f3 (by omega) (by omega) (Z0V f6 _))
  ·refine Z9H _ _ _ _ _ _ _ _ _ _ ?_
   rintro z1 hz1 z2 hz2 z3 hz3 z4 hz4 z5 hz5 z6 hz6
   rw [<-hy1] at hz1
   subst hz1
   rw [if_neg (by omega),if_neg hk1,if_neg hk2] at f3
   (simp only [vcT,vcS])
   rw [show Int.toNat 1=1 from rfl]
   refine ⟨fun hs=> no ?_,fun hs=> ⟨by omega,by omega,fun h=> by omega,fun _=> ⟨fun h=> absurd h hk1,fun _=> ?_⟩⟩⟩
   ·rw [if_pos (by omega)] at f3
    exact f3.symm
   ·have hz:z3=rest.getD 0 Tree.nil:=by
     rw [hz3,hz2]
     cases rest with
     | nil=> rfl
     | cons a r=> rfl
    rw [if_neg (by omega),<-hz,<-hz4] at f3
    have hm3:=ZfB rest 0
    have hr3:=Zi0 f6 0
    rw [<-hz] at hm3 hr3
    have hre:=J3 hr hk3
    rw [<-hz4] at hre hme hro hct
    refine ⟨?_,by simp only [Z27];exact ⟨⟨by omega,hro.2.2.2,_,hre⟩,by omega,hr3⟩,by simp only [ZbE];omega,fun hne=> no ?_,fun heq=> ?_⟩
    ·simp only [Qk];omega
    ·have hne:doE false z4 z3=none:=by simpa using hne
     rw [hne] at f3
     exact f3.symm
    ·obtain ⟨u,hu⟩:=QO.1 heq
     rw [Z7t hu] at hz6
     subst hz6
     rw [hu,Q8,Xb] at f3
     have hd:=Z1l 1 rest
     have ht1:=ht 1
     have ht2:(rest.take 1).length=1:=by simp only [Qk];omega
     refine ⟨by simp only [XA];omega,?_⟩
     exact go _ _ _ _ _ f3 (by simp only [Q6,XA];omega) (by omega) (Z0V f6 _) (fin _ _ f3 (by simp only [Q6,XA];omega) (by omega) (Z0V f6 _))
  ·have hk0:y1.kind=0:=by cases r1 <;> first | rfl | (exfalso;simp at hk1 hk2 hk3)
   refine Z9H _ _ _ _ _ _ _ _ _ _ ?_
   rintro z1 hz1 z2 hz2 z3 hz3 z4 hz4 z5 hz5 z6 hz6
   rw [<-hy1] at hz1
   subst hz1
   rw [if_pos hk0] at f3
   have hn:1<=z1.n/\z1.n<=1048576:=by cases r1 <;> first | (constructor <;> assumption) | (exfalso;simp at hk1 hk2 hk3 hk0)
   (simp only [vcT,vcS])
   refine ⟨fun hs=> no ?_,fun hs=> ⟨by omega,by omega,fun _=> ⟨?_,?_⟩,fun h=> absurd hk0 h⟩⟩
   ·rw [if_neg (by omega)] at f3
    exact f3.symm
   ·have:=(ht z1.n.toNat).1
    omega
   ·rw [if_pos (by omega),Xb] at f3
    have hd:=Z1l z1.n.toNat rest
    have ht1:=ht z1.n.toNat
    exact go _ _ _ _ _ f3 (by simp only [Q6];omega) (by omega) (Z0V f6 _) (fin _ _ f3 (by simp only [Q6];omega) (by omega) (Z0V f6 _))
 ·rw [Qj (by omega),Z2o] at f3
  simp only [Z2G,<-f3,ZnC,Zbk,Xb,hk]
  by_cases hr:rest.length=0
  ·rw [if_pos hr,hr]
   (repeat' (first | exact trivial | exact rfl | apply And.intro))
  ·rw [if_neg hr,show ((rest.length:Int)==0)=false by rw [beq_eq_false_iff_ne];omega]
   (repeat' (first | exact trivial | exact rfl | apply And.intro))
theorem Zxh:Contract Try.prog cfg 70 Z79/\Contract Try.prog cfg 107 ZhV/\Contract Try.prog cfg 108 ZhU:=ZpH Z8X Zlc c91 Zee Zu6 c66 Zoh b70 Zul Zuk
theorem c70:Contract Try.prog cfg 70 Z79:=Zxh.1
theorem Zg3{r:Bool}{e:Edit}{t u:Tree}(hr:∃ d,Z6 e d=true)(ht:Zj t+ctE e<=200000000000)(h:doE r e t=some u):Zj u<=1000000000000:=by
 obtain ⟨d,hr⟩:=hr
 have:=ZpF r e d t u hr h
 omega
theorem c26:Contract Try.prog cfg 26 Z3e:=by
 refine Ztn c71 c70 ?_
 intro e t _ hp
 simp only [Z27] at hp
 refine Zxa _ _ _ ?_
 rintro y1 hy1 y2 hy2 y3 hy3
 subst hy1 hy2
 (simp only [vcT,vcS])
 refine ⟨by simp only [Z27];exact hp,fun hn=> ?_,fun hs=> ?_⟩
 ·have hn:doE false y1 y2=none:=by simpa using hn
  simp only [Zia,hn]
  (repeat' (first | exact trivial | exact rfl | apply And.intro))
 ·obtain ⟨u,hu⟩:=QO.1 hs
  rw [Z7t hu] at hy3
  subst hy3
  have:=Zg3 hp.1.2.2 hp.2.1 hu
  refine ⟨by simp only [Z04];exact this,?_⟩
  simp only [Zia,hu]
  (repeat' (first | exact trivial | exact rfl | apply And.intro))
noncomputable section
def Z9B:ArgM ((List Op × List Tree × List Tree × Unit) × Unit):=(.obj 0 (.cons (cWr .op 0 0) (.cons (Z2s .tree 0 1) (.cons (Z2s .tree 0 2) .nil))) .nil)
def Z0x(a:(List Op × List Tree × List Tree × Unit) × Unit):Prop:=(a.1.1).length<=200000000000/\(a.1.2.1).length<=200000000000/\(a.1.2.2.1).length<=200000000000
def Z7j(a:(List Op × List Tree × List Tree × Unit) × Unit):V U:= .tup []
def Z45(a:(List Op × List Tree × List Tree × Unit) × Unit):List (List (C U)):=[[.mref (.x 0 0),sU .tree ((Z0 (Wst.mk a.1.1 a.1.2.1 a.1.2.2.1)).gone) (.own (.x 0 1)),sU .tree ((Z0 (Wst.mk a.1.1 a.1.2.1 a.1.2.2.1)).brought) (.own (.x 0 2))]]
def Z46(a:(List Op × List Tree × List Tree × Unit) × Unit):List (Tok × LC U):=[(.x 0 0,LC.mk (U:=U) .op ((Z0 (Wst.mk a.1.1 a.1.2.1 a.1.2.2.1)).out) 0)]
def Z0H:Fs U:=ZbG Z9B (fun a=> [Z0x a]) Z7j Z45 Z46
def Z9D:ArgM ((List Op × List Tree × List Tree × Unit) × Int × Unit):=(.obj 0 (.cons (cWr .op 0 0) (.cons (Z2s .tree 0 1) (.cons (Z2s .tree 0 2) .nil))) (.cons (Jv .i64) .nil))
def Z2J(a:(List Op × List Tree × List Tree × Unit) × Int × Unit):Prop:=(a.1.1).length<=200000000000/\(a.1.2.1).length<=200000000000/\(a.1.2.2.1).length<=200000000000/\(∀ o∈a.1.1,0<=o.n/\o.n<=100000000000000000)/\0<=a.2.1/\a.2.1<=1048576
def ZgA(a:(List Op × List Tree × List Tree × Unit) × Int × Unit):V U:= .tup []
def Zd8(a:(List Op × List Tree × List Tree × Unit) × Int × Unit):List (List (C U)):=[[.mref (.x 0 0),sU .tree ((ZL (Wst.mk a.1.1 a.1.2.1 a.1.2.2.1) a.2.1).gone) (.own (.x 0 1)),sU .tree ((ZL (Wst.mk a.1.1 a.1.2.1 a.1.2.2.1) a.2.1).brought) (.own (.x 0 2))]]
def Zd9(a:(List Op × List Tree × List Tree × Unit) × Int × Unit):List (Tok × LC U):=[(.x 0 0,LC.mk (U:=U) .op ((ZL (Wst.mk a.1.1 a.1.2.1 a.1.2.2.1) a.2.1).out) 0)]
def Z3Y:Fs U:=ZbG Z9D (fun a=> [Z2J a]) ZgA Zd8 Zd9
def Z9C:ArgM ((List Op × List Tree × List Tree × Unit) × List Tree × Unit):=(.objAt 0 1 (.cons (cWr .op 0 0) (.cons (Z2s .tree 0 1) (.cons (Z2s .tree 0 2) .nil))) (.cons (aSl .tree) .nil))
def Z7o(a:(List Op × List Tree × List Tree × Unit) × List Tree × Unit):Prop:=(a.1.1).length<=200000000000/\(a.1.2.1).length<=200000000000/\(a.1.2.2.1).length<=200000000000/\Z4 a.2.1<=20000000000
def Zml(a:(List Op × List Tree × List Tree × Unit) × List Tree × Unit):V U:= .tup []
def Zi4(a:(List Op × List Tree × List Tree × Unit) × List Tree × Unit):List (List (C U)):=[[.mref (.x 0 0),sU .tree ((Wst.mk a.1.1 (a.1.2.1++Z9 a.2.1) a.1.2.2.1).gone) (.own (.x 0 1)),sU .tree ((Wst.mk a.1.1 (a.1.2.1++Z9 a.2.1) a.1.2.2.1).brought) (.own (.x 0 2))]]
def Zi5(a:(List Op × List Tree × List Tree × Unit) × List Tree × Unit):List (Tok × LC U):=[(.x 0 0,LC.mk (U:=U) .op ((Wst.mk a.1.1 (a.1.2.1++Z9 a.2.1) a.1.2.2.1).out) 0)]
def ZcW:Fs U:=ZbG Z9C (fun a=> [Z7o a]) Zml Zi4 Zi5
def Z74:ArgM ((List Op × List Tree × List Tree × Unit) × List Tree × Unit):=(.objAt 0 2 (.cons (cWr .op 0 0) (.cons (Z2s .tree 0 1) (.cons (Z2s .tree 0 2) .nil))) (.cons (aSl .tree) .nil))
def ZeY(a:(List Op × List Tree × List Tree × Unit) × List Tree × Unit):List (List (C U)):=[[.mref (.x 0 0),sU .tree ((Wst.mk a.1.1 a.1.2.1 (a.1.2.2.1++Z9 a.2.1)).gone) (.own (.x 0 1)),sU .tree ((Wst.mk a.1.1 a.1.2.1 (a.1.2.2.1++Z9 a.2.1)).brought) (.own (.x 0 2))]]
def ZeZ(a:(List Op × List Tree × List Tree × Unit) × List Tree × Unit):List (Tok × LC U):=[(.x 0 0,LC.mk (U:=U) .op ((Wst.mk a.1.1 a.1.2.1 (a.1.2.2.1++Z9 a.2.1)).out) 0)]
def Zad:Fs U:=ZbG Z74 (fun a=> [Z7o a]) Zml ZeY ZeZ
def Zgb:ArgL (Int × Edit × Unit):=(.cons (Jv .i64) (.cons (aEl .edit) .nil))
def Z47(a:Int × Edit × Unit):Prop:=a.2.1.words.length<=20000000000/\a.2.1.kids.length<=20000000000
def Zic(a:Int × Edit × Unit):V U:= .c (.bool (Z8F a.1 a.2.1))
def Z21:Fs U:=fs Zgb (fun a=> [Z47 a]) Zic
def Znv:Ze U:=fun i=> match i with
 | 0=> ([(0,[]),(7,[])],[(.x 0,[.wr .op])])
 | 1=> ([(0,[])],[(.x 0,[.wr .op])])
 | 2=> ([(0,[]),(28,[])],[(.x 0,[.wr .op])])
 | 3=> ([(0,[])],[(.x 0,[.wr .op])])
 | 4=> ([],[(.x 0,[.wr .op])])
 | _=> ([],[])
abbrev Zws(wo:List Op)(wg wb:List Tree)(Q:QT):=AW (Z2 Zhc) Try.f129 Znv [] (⟨[(0,.ptr (.x 0) 0)],[(.x 0,[.mref (.x 0 0),sU .tree wg (.own (.x 0 1)),sU .tree wb (.own (.x 0 2))])],[(.x 0 0,LC.mk (U:=U) .op wo 0)]⟩:LSt U) Q
theorem ZvF(wo:List Op)(wg wb:List Tree)(Q:QT)(h:∀ y_1,y_1=(Edit.mk 0 (Tree.mk 0 [] []) (Tree.mk 0 [] []) [] [] 0 [])->∀ y_2,y_2=(List.set (wo++([(OpOf.mk 0 0 [] y_1:Op)])) (Int.toNat (wo.length:Int)) (OpOf.mk 1 0 wg y_1:Op))->((decide ((0:Int) < (wg.length:Int)))=true->((wo.length+([(OpOf.mk 0 0 [] y_1:Op)]).length)*240<=140737488355328)/\((0:Int)<=(wo.length:Int)/\(wo.length:Int) < ((wo++([(OpOf.mk 0 0 [] y_1:Op)])).length:Int))/\((0:Nat)<=(Int.toNat (wo.length:Int)))/\(((decide ((0:Int) < (wb.length:Int)))=true->((y_2.length+([(OpOf.mk 0 0 [] y_1:Op)]).length)*240<=140737488355328)/\((0:Int)<=(y_2.length:Int)/\(y_2.length:Int) < ((y_2++([(OpOf.mk 0 0 [] y_1:Op)])).length:Int))/\((0:Nat)<=(Int.toNat (y_2.length:Int)))/\(Q .normal (⟨[],[(.x 0,[.mref (.x 0 0),.nils,.nils])],[(.x 0 0,LC.mk (U:=U) .op (List.set (y_2++([(OpOf.mk 0 0 [] y_1:Op)])) (Int.toNat (y_2.length:Int)) (OpOf.mk 2 0 wb y_1:Op)) 0)]⟩:LSt U)))/\((decide ((0:Int) < (wb.length:Int)))=false->Q .normal (⟨[],[(.x 0,[.mref (.x 0 0),.nils,.nils])],[(.x 0 0,LC.mk (U:=U) .op y_2 0)]⟩:LSt U))))/\((decide ((0:Int) < (wg.length:Int)))=false->((decide ((0:Int) < (wb.length:Int)))=true->((wo.length+([(OpOf.mk 0 0 [] y_1:Op)]).length)*240<=140737488355328)/\((0:Int)<=(wo.length:Int)/\(wo.length:Int) < ((wo++([(OpOf.mk 0 0 [] y_1:Op)])).length:Int))/\((0:Nat)<=(Int.toNat (wo.length:Int)))/\(Q .normal (⟨[],[(.x 0,[.mref (.x 0 0),.nils,.nils])],[(.x 0 0,LC.mk (U:=U) .op (List.set (wo++([(OpOf.mk 0 0 [] y_1:Op)])) (Int.toNat (wo.length:Int)) (OpOf.mk 2 0 wb y_1:Op)) 0)]⟩:LSt U)))/\((decide ((0:Int) < (wb.length:Int)))=false->Q .normal (⟨[],[(.x 0,[.mref (.x 0 0),.nils,.nils])],[(.x 0 0,LC.mk (U:=U) .op wo 0)]⟩:LSt U)))):
  Zws wo wg wb Q:=by
 have e_:(Zws wo wg wb Q)=(let y_1:=(Edit.mk 0 (Tree.mk 0 [] []) (Tree.mk 0 [] []) [] [] 0 []);let y_2:=(List.set (wo++([(OpOf.mk 0 0 [] y_1:Op)])) (Int.toNat (wo.length:Int)) (OpOf.mk 1 0 wg y_1:Op));let zz0:=(decide ((0:Int) < (wb.length:Int)));(((decide ((0:Int) < (wg.length:Int)))=true->((wo.length+([(OpOf.mk 0 0 [] y_1:Op)]).length)*240<=140737488355328)/\((0:Int)<=(wo.length:Int)/\(wo.length:Int) < ((wo++([(OpOf.mk 0 0 [] y_1:Op)])).length:Int))/\((0:Nat)<=(Int.toNat (wo.length:Int)))/\((zz0=true->((y_2.length+([(OpOf.mk 0 0 [] y_1:Op)]).length)*240<=140737488355328)/\((0:Int)<=(y_2.length:Int)/\(y_2.length:Int) < ((y_2++([(OpOf.mk 0 0 [] y_1:Op)])).length:Int))/\((0:Nat)<=(Int.toNat (y_2.length:Int)))/\(Q .normal (⟨[],[(.x 0,[.mref (.x 0 0),.nils,.nils])],[(.x 0 0,LC.mk (U:=U) .op (List.set (y_2++([(OpOf.mk 0 0 [] y_1:Op)])) (Int.toNat (y_2.length:Int)) (OpOf.mk 2 0 wb y_1:Op)) 0)]⟩:LSt U)))/\(zz0=false->(Q .normal (⟨[],[(.x 0,[.mref (.x 0 0),.nils,.nils])],[(.x 0 0,LC.mk (U:=U) .op y_2 0)]⟩:LSt U)))))/\((decide ((0:Int) < (wg.length:Int)))=false->((zz0=true->((wo.length+([(OpOf.mk 0 0 [] y_1:Op)]).length)*240<=140737488355328)/\((0:Int)<=(wo.length:Int)/\(wo.length:Int) < ((wo++([(OpOf.mk 0 0 [] y_1:Op)])).length:Int))/\((0:Nat)<=(Int.toNat (wo.length:Int)))/\(Q .normal (⟨[],[(.x 0,[.mref (.x 0 0),.nils,.nils])],[(.x 0 0,LC.mk (U:=U) .op (List.set (wo++([(OpOf.mk 0 0 [] y_1:Op)])) (Int.toNat (wo.length:Int)) (OpOf.mk 2 0 wb y_1:Op)) 0)]⟩:LSt U)))/\(zz0=false->(Q .normal (⟨[],[(.x 0,[.mref (.x 0 0),.nils,.nils])],[(.x 0 0,LC.mk (U:=U) .op wo 0)]⟩:LSt U))))))):=by kernel_rfl
 exact e_.mpr (by intro y_1 y_2;have hh:=h y_1 rfl y_2 rfl;exact ⟨fun c_1=> ⟨(hh.1 c_1).1,(hh.1 c_1).2.1,(hh.1 c_1).2.2.1,⟨fun c_2=> ⟨((hh.1 c_1).2.2.2.1 c_2).1,((hh.1 c_1).2.2.2.1 c_2).2.1,((hh.1 c_1).2.2.2.1 c_2).2.2.1,((hh.1 c_1).2.2.2.1 c_2).2.2.2⟩,fun c_2=> ((hh.1 c_1).2.2.2.2 c_2)⟩⟩,fun c_1=> ⟨fun c_3=> ⟨((hh.2 c_1).1 c_3).1,((hh.2 c_1).1 c_3).2.1,((hh.2 c_1).1 c_3).2.2.1,((hh.2 c_1).1 c_3).2.2.2⟩,fun c_3=> ((hh.2 c_1).2 c_3)⟩⟩)
def Zrs(wo:List Op)(wg wb:List Tree):Prop:=AW (Z2 Zhc) Try.f129 Znv [] (Jh (Z9B.can ((wo,wg,wb,()),())) (Z9B.canX ((wo,wg,wb,()),())) (Z9B.canL ((wo,wg,wb,()),()))) (JG cfg Try.f129.ntmps Try.f129.results.toList (Z7j ((wo,wg,wb,()),())) (Z45 ((wo,wg,wb,()),())) (Z46 ((wo,wg,wb,()),())))
theorem Zqb(hb:∀ (wo:List Op) (wg:List Tree) (wb:List Tree) (_:Unit),Z0x ((wo,wg,wb,()),())->Zrs wo wg wb):CT 129 Z0H:=
 Yb (l:=[]) Zl rfl trivial Znv Try.func129 rfl rfl 1 (fun _=> rfl) (by decide) (fun ⟨⟨wo,wg,wb,_⟩,_⟩=> hb wo wg wb ())
def Zje:List (FuncId × Fs U):=[(129,Z0H)]
def Znw:Ze U:=fun i=> match i with
 | 0=> ([(0,[]),(1,[])],[(.x 0,[.wr .op])])
 | 1=> ([(0,[]),(1,[]),(4,[])],[(.x 0,[.wr .op])])
 | 2=> ([(0,[]),(1,[]),(4,[]),(25,[])],[(.x 0,[.wr .op])])
 | 3=> ([],[(.x 0,[.wr .op])])
 | 4=> ([],[(.x 0,[.wr .op])])
 | _=> ([],[])
abbrev Zwu(wo:List Op)(wg wb:List Tree)(n:Int)(Q:QT):=AW (Z2 Zje) Try.f126 Znw [] (⟨[(0,.ptr (.x 0) 0),pI 1 n],[(.x 0,[.mref (.x 0 0),sU .tree wg (.own (.x 0 1)),sU .tree wb (.own (.x 0 2))])],[(.x 0 0,LC.mk (U:=U) .op wo 0)]⟩:LSt U) Q
theorem ZvH(wo:List Op)(wg wb:List Tree)(n:Int)(Q:QT)(h:∀ y_1,y_1=(Edit.mk 0 (Tree.mk 0 [] []) (Tree.mk 0 [] []) [] [] 0 [])->∀ y_2,y_2=(Int.toNat (((((Z0 (Wst.mk wo wg wb)).out).length:Int):Int) - 1))->∀ y_3,y_3=(List.getD ((Z0 (Wst.mk wo wg wb)).out) y_2 Op.nil)->∀ y_4,y_4=(y_3.e)->(Z0x ((wo,wg,wb,()),()))/\((InR (((((Z0 (Wst.mk wo wg wb)).out).length:Int):Int) - 1))/\(((decide ((0:Int)<=(((((Z0 (Wst.mk wo wg wb)).out).length:Int):Int) - 1)))=true->(0:Int)<=(((((Z0 (Wst.mk wo wg wb)).out).length:Int):Int) - 1)/\(((((Z0 (Wst.mk wo wg wb)).out).length:Int):Int) - 1) < (((Z0 (Wst.mk wo wg wb)).out).length:Int))/\(((bif (decide ((0:Int)<=(((((Z0 (Wst.mk wo wg wb)).out).length:Int):Int) - 1))) then (y_3.kind==0) else false)=true->((0:Int)<=(((((Z0 (Wst.mk wo wg wb)).out).length:Int):Int) - 1)/\(((((Z0 (Wst.mk wo wg wb)).out).length:Int):Int) - 1) < (((Z0 (Wst.mk wo wg wb)).out).length:Int))/\(InR (y_3.n+n))/\((0:Int)<=(((((Z0 (Wst.mk wo wg wb)).out).length:Int):Int) - 1)/\(((((Z0 (Wst.mk wo wg wb)).out).length:Int):Int) - 1) < (((Z0 (Wst.mk wo wg wb)).out).length:Int))/\((0:Nat)<=y_2)/\(Q .ret (⟨[],[(.x 0,[.mref (.x 0 0),sU .tree ((Z0 (Wst.mk wo wg wb)).gone) (.own (.x 0 1)),sU .tree ((Z0 (Wst.mk wo wg wb)).brought) (.own (.x 0 2))])],[(.x 0 0,LC.mk (U:=U) .op (List.set ((Z0 (Wst.mk wo wg wb)).out) y_2 (OpOf.mk y_3.kind (y_3.n+n) y_3.l y_4:Op)) 0)]⟩:LSt U)))/\((bif (decide ((0:Int)<=(((((Z0 (Wst.mk wo wg wb)).out).length:Int):Int) - 1))) then (y_3.kind==0) else false)=false->((((Z0 (Wst.mk wo wg wb)).out).length+([(OpOf.mk 0 0 [] y_1:Op)]).length)*240<=140737488355328)/\((0:Int)<=(((Z0 (Wst.mk wo wg wb)).out).length:Int)/\(((Z0 (Wst.mk wo wg wb)).out).length:Int) < ((((Z0 (Wst.mk wo wg wb)).out)++([(OpOf.mk 0 0 [] y_1:Op)])).length:Int))/\((0:Nat)<=(Int.toNat (((Z0 (Wst.mk wo wg wb)).out).length:Int)))/\(Q .normal (⟨[],[(.x 0,[.mref (.x 0 0),sU .tree ((Z0 (Wst.mk wo wg wb)).gone) (.own (.x 0 1)),sU .tree ((Z0 (Wst.mk wo wg wb)).brought) (.own (.x 0 2))])],[(.x 0 0,LC.mk (U:=U) .op (List.set (((Z0 (Wst.mk wo wg wb)).out)++([(OpOf.mk 0 0 [] y_1:Op)])) (Int.toNat (((Z0 (Wst.mk wo wg wb)).out).length:Int)) (OpOf.mk 0 n [] y_1:Op)) 0)]⟩:LSt U))))))):
  Zwu wo wg wb n Q:=by
 have e_:(Zwu wo wg wb n Q)=(let y_1:=(Edit.mk 0 (Tree.mk 0 [] []) (Tree.mk 0 [] []) [] [] 0 []);let y_2:=(Int.toNat (((((Z0 (Wst.mk wo wg wb)).out).length:Int):Int) - 1));let y_3:=(List.getD ((Z0 (Wst.mk wo wg wb)).out) y_2 Op.nil);let y_4:=(Z1g y_3.e);let zz0:=(decide ((0:Int)<=(((((Z0 (Wst.mk wo wg wb)).out).length:Int):Int) - 1)));(Z0x ((wo,wg,wb,()),()))/\((InR (((((Z0 (Wst.mk wo wg wb)).out).length:Int):Int) - 1))/\((Tr (zz0=true))/\(Tr (zz0=true))/\(Tr (zz0=true))/\(Tr (zz0=true))/\(Tr (zz0=true))/\(zz0=true->(0:Int)<=(((((Z0 (Wst.mk wo wg wb)).out).length:Int):Int) - 1)/\(((((Z0 (Wst.mk wo wg wb)).out).length:Int):Int) - 1) < (((Z0 (Wst.mk wo wg wb)).out).length:Int))/\(Tr (zz0=true))/\(Tr (zz0=true))/\(Tr (zz0=true))/\(Tr (zz0=true))/\(((bif zz0 then (y_3.kind==0) else false)=true->((0:Int)<=(((((Z0 (Wst.mk wo wg wb)).out).length:Int):Int) - 1)/\(((((Z0 (Wst.mk wo wg wb)).out).length:Int):Int) - 1) < (((Z0 (Wst.mk wo wg wb)).out).length:Int))/\(InR (y_3.n+n))/\((0:Int)<=(((((Z0 (Wst.mk wo wg wb)).out).length:Int):Int) - 1)/\(((((Z0 (Wst.mk wo wg wb)).out).length:Int):Int) - 1) < (((Z0 (Wst.mk wo wg wb)).out).length:Int))/\((0:Nat)<=y_2)/\(Q .ret (⟨[],[(.x 0,[.mref (.x 0 0),sU .tree ((Z0 (Wst.mk wo wg wb)).gone) (.own (.x 0 1)),sU .tree ((Z0 (Wst.mk wo wg wb)).brought) (.own (.x 0 2))])],[(.x 0 0,LC.mk (U:=U) .op (List.set ((Z0 (Wst.mk wo wg wb)).out) y_2 (OpOf.mk y_3.kind (y_3.n+n) y_3.l y_4:Op)) 0)]⟩:LSt U)))/\((bif zz0 then (y_3.kind==0) else false)=false->((((Z0 (Wst.mk wo wg wb)).out).length+([(OpOf.mk 0 0 [] y_1:Op)]).length)*240<=140737488355328)/\((0:Int)<=(((Z0 (Wst.mk wo wg wb)).out).length:Int)/\(((Z0 (Wst.mk wo wg wb)).out).length:Int) < ((((Z0 (Wst.mk wo wg wb)).out)++([(OpOf.mk 0 0 [] y_1:Op)])).length:Int))/\((0:Nat)<=(Int.toNat (((Z0 (Wst.mk wo wg wb)).out).length:Int)))/\(Q .normal (⟨[],[(.x 0,[.mref (.x 0 0),sU .tree ((Z0 (Wst.mk wo wg wb)).gone) (.own (.x 0 1)),sU .tree ((Z0 (Wst.mk wo wg wb)).brought) (.own (.x 0 2))])],[(.x 0 0,LC.mk (U:=U) .op (List.set (((Z0 (Wst.mk wo wg wb)).out)++([(OpOf.mk 0 0 [] y_1:Op)])) (Int.toNat (((Z0 (Wst.mk wo wg wb)).out).length:Int)) (OpOf.mk 0 n [] y_1:Op)) 0)]⟩:LSt U))))))):=by kernel_rfl
 exact e_.mpr (by intro y_1 y_2 y_3 y_4;have hh:=h y_1 rfl y_2 rfl y_3 rfl y_4 (Z8 _);exact ⟨hh.1,⟨hh.2.1,⟨id,id,id,id,id,hh.2.2.1,id,id,id,(by generalize (decide ((0:Int)<=(((((Z0 (Wst.mk wo wg wb)).out).length:Int):Int) - 1)))=b0;revert b0;decide),⟨fun c_4=> ⟨(hh.2.2.2.1 c_4).1,(hh.2.2.2.1 c_4).2.1,(hh.2.2.2.1 c_4).2.2.1,(hh.2.2.2.1 c_4).2.2.2.1,(hh.2.2.2.1 c_4).2.2.2.2⟩,fun c_4=> ⟨(hh.2.2.2.2 c_4).1,(hh.2.2.2.2 c_4).2.1,(hh.2.2.2.2 c_4).2.2.1,(hh.2.2.2.2 c_4).2.2.2⟩⟩⟩⟩⟩)
def Zru(wo:List Op)(wg wb:List Tree)(n:Int):Prop:=AW (Z2 Zje) Try.f126 Znw [] (Jh (Z9D.can ((wo,wg,wb,()),n,())) (Z9D.canX ((wo,wg,wb,()),n,())) (Z9D.canL ((wo,wg,wb,()),n,()))) (JG cfg Try.f126.ntmps Try.f126.results.toList (ZgA ((wo,wg,wb,()),n,())) (Zd8 ((wo,wg,wb,()),n,())) (Zd9 ((wo,wg,wb,()),n,())))
theorem Zqd(Zld:CT 129 Z0H)(hb:∀ (wo:List Op) (wg:List Tree) (wb:List Tree) (n:Int) (_:Unit),Z2J ((wo,wg,wb,()),n,())->Zru wo wg wb n):CT 126 Z3Y:=
 Yb (l:=[(129,Z0H)]) Zl rfl (⟨Zld,trivial⟩) Znw Try.func126 rfl rfl 2 (fun _=> rfl) (by decide) (fun ⟨⟨wo,wg,wb,_⟩,n,_⟩=> hb wo wg wb n ())
def Z9t:List (FuncId × Fs U):=[(71,JB)]
def ZfG:Ze U:=fun i=> match i with
 | 0=> ([(0,[]),(6,[]),(7,[]),(8,[])],[(.x 0,[.wr .op])])
 | 1=> ([(0,[]),(6,[]),(7,[]),(8,[]),(9,[])],[(.x 0,[.wr .op])])
 | 2=> ([(0,[]),(5,[]),(6,[]),(7,[]),(8,[])],[(.loc 5,[]),(.x 0,[.wr .op])])
 | 3=> ([(0,[]),(6,[]),(7,[]),(8,[])],[(.x 0,[.wr .op])])
 | 4=> ([(0,[]),(6,[]),(7,[]),(8,[])],[(.x 0,[.wr .op])])
 | _=> ([],[])
def Z4o(wo:List Op)(wg wb l:List Tree)(x8:Int)(mx0_1:List Tree):LSt U:=(⟨[(0,.ptr (.x 0) 1),(6,.c (sU .tree l .unk)),pI 7 (l.length:Int),pI 8 x8],[(.x 0,[.mref (.x 0 0),sU .tree mx0_1 (.own (.x 0 1)),sU .tree wb (.own (.x 0 2))])],[(.x 0 0,LC.mk (U:=U) .op wo 0)]⟩:LSt U)
abbrev Zwt(wo:List Op)(wg wb l:List Tree)(Q:QT):=AW (Z2 Z9t) Try.f127 ZfG [] (⟨[(0,.ptr (.x 0) 1),(1,.c (sU .tree l .unk))],[(.x 0,[.mref (.x 0 0),sU .tree wg (.own (.x 0 1)),sU .tree wb (.own (.x 0 2))])],[(.x 0 0,LC.mk (U:=U) .op wo 0)]⟩:LSt U) Q
theorem ZvG(wo:List Op)(wg wb l:List Tree)(Q:QT)(h:Zm (AW (Z2 Z9t) Try.f127 ZfG [1,0,0]) (Z4o wo wg wb l 0 wg) (xB 0 Q)):
  Zwt wo wg wb l Q:=by
 have e_:(Zwt wo wg wb l Q)=(type_of% h):=by kernel_rfl
 exact e_.mpr h
abbrev ZjZ(wo:List Op)(wg wb l:List Tree)(x8:Int)(mx0_1:List Tree)(N0:NT)(Q:QT):=AW (Z2 Z9t) Try.f127 ZfG [1,0,0] (Z4o wo wg wb l x8 mx0_1) (xT N0 (xB 0 Q))
theorem ZlE(wo:List Op)(wg wb l:List Tree)(x8:Int)(mx0_1:List Tree)(N0:NT)(Q:QT)(h:((decide (x8 < (l.length:Int)))=true->((0:Int)<=x8/\x8 < (l.length:Int))/\((Z04 ((Tree.mk (Tree.kind (l.getD x8.toNat Tree.nil)) (Tree.words (l.getD x8.toNat Tree.nil)) (Tree.kids (l.getD x8.toNat Tree.nil))),()))/\((mx0_1.length+([(Tree.mk 0 [] [])]).length)*56<=140737488355328)/\((0:Int)<=(mx0_1.length:Int)/\(mx0_1.length:Int) < ((mx0_1++([(Tree.mk 0 [] [])])).length:Int))/\(mx0_1.length<=(Int.toNat (mx0_1.length:Int)))/\((InR (x8+1))/\(N0 (Z4o wo wg wb l (x8+1) (List.set (mx0_1++([(Tree.mk 0 [] [])])) (Int.toNat (mx0_1.length:Int)) (Tree.mk (Tree.kind (Z7 (Tree.mk (Tree.kind (l.getD x8.toNat Tree.nil)) (Tree.words (l.getD x8.toNat Tree.nil)) (Tree.kids (l.getD x8.toNat Tree.nil))))) (Tree.words (Z7 (Tree.mk (Tree.kind (l.getD x8.toNat Tree.nil)) (Tree.words (l.getD x8.toNat Tree.nil)) (Tree.kids (l.getD x8.toNat Tree.nil))))) (Tree.kids (Z7 (Tree.mk (Tree.kind (l.getD x8.toNat Tree.nil)) (Tree.words (l.getD x8.toNat Tree.nil)) (Tree.kids (l.getD x8.toNat Tree.nil))))))))))))/\((decide (x8 < (l.length:Int)))=false->Q .normal (⟨[(0,.ptr (.x 0) 1),(6,.c (sU .tree l .unk)),pI 7 (l.length:Int),pI 8 x8,pB 9 (decide (x8 < (l.length:Int)))],[(.x 0,[.mref (.x 0 0),sU .tree mx0_1 (.own (.x 0 1)),sU .tree wb (.own (.x 0 2))])],[(.x 0 0,LC.mk (U:=U) .op wo 0)]⟩:LSt U))):
  ZjZ wo wg wb l x8 mx0_1 N0 Q:=by
 have e_:(ZjZ wo wg wb l x8 mx0_1 N0 Q)=(type_of% h):=by kernel_rfl
 exact e_.mpr ⟨fun c_5=> ⟨(h.1 c_5).1,⟨(h.1 c_5).2.1,(h.1 c_5).2.2.1,(h.1 c_5).2.2.2.1,(h.1 c_5).2.2.2.2.1,⟨(h.1 c_5).2.2.2.2.2.1,(h.1 c_5).2.2.2.2.2.2⟩⟩⟩,fun c_5=> (h.2 c_5)⟩
def Zrt(wo:List Op)(wg wb l:List Tree):Prop:=AW (Z2 Z9t) Try.f127 ZfG [] (Jh (Z9C.can ((wo,wg,wb,()),l,())) (Z9C.canX ((wo,wg,wb,()),l,())) (Z9C.canL ((wo,wg,wb,()),l,()))) (JG cfg Try.f127.ntmps Try.f127.results.toList (Zml ((wo,wg,wb,()),l,())) (Zi4 ((wo,wg,wb,()),l,())) (Zi5 ((wo,wg,wb,()),l,())))
theorem Zqc(c71:CT 71 JB)(hb:∀ (wo:List Op) (wg:List Tree) (wb:List Tree) (l:List Tree) (_:Unit),Z7o ((wo,wg,wb,()),l,())->Zrt wo wg wb l):CT 127 ZcW:=
 Yb (l:=[(71,JB)]) Zl rfl (⟨c71,trivial⟩) ZfG Try.func127 rfl rfl 2 (fun _=> rfl) (by decide) (fun ⟨⟨wo,wg,wb,_⟩,l,_⟩=> hb wo wg wb l ())
def Zb7:Ze U:=fun i=> match i with
 | 0=> ([(0,[]),(6,[]),(7,[]),(8,[])],[(.x 0,[.wr .op])])
 | 1=> ([(0,[]),(6,[]),(7,[]),(8,[]),(9,[])],[(.x 0,[.wr .op])])
 | 2=> ([(0,[]),(5,[]),(6,[]),(7,[]),(8,[])],[(.loc 5,[]),(.x 0,[.wr .op])])
 | 3=> ([(0,[]),(6,[]),(7,[]),(8,[])],[(.x 0,[.wr .op])])
 | 4=> ([(0,[]),(6,[]),(7,[]),(8,[])],[(.x 0,[.wr .op])])
 | _=> ([],[])
def Z2Q(wo:List Op)(wg wb l:List Tree)(x8:Int)(mx0_2:List Tree):LSt U:=(⟨[(0,.ptr (.x 0) 2),(6,.c (sU .tree l .unk)),pI 7 (l.length:Int),pI 8 x8],[(.x 0,[.mref (.x 0 0),sU .tree wg (.own (.x 0 1)),sU .tree mx0_2 (.own (.x 0 2))])],[(.x 0 0,LC.mk (U:=U) .op wo 0)]⟩:LSt U)
abbrev Zsl(wo:List Op)(wg wb l:List Tree)(Q:QT):=AW (Z2 Z9t) Try.f127 Zb7 [] (⟨[(0,.ptr (.x 0) 2),(1,.c (sU .tree l .unk))],[(.x 0,[.mref (.x 0 0),sU .tree wg (.own (.x 0 1)),sU .tree wb (.own (.x 0 2))])],[(.x 0 0,LC.mk (U:=U) .op wo 0)]⟩:LSt U) Q
theorem Zsw(wo:List Op)(wg wb l:List Tree)(Q:QT)(h:Zm (AW (Z2 Z9t) Try.f127 Zb7 [1,0,0]) (Z2Q wo wg wb l 0 wb) (xB 0 Q)):
  Zsl wo wg wb l Q:=by
 have e_:(Zsl wo wg wb l Q)=(type_of% h):=by kernel_rfl
 exact e_.mpr h
abbrev Zgg(wo:List Op)(wg wb l:List Tree)(x8:Int)(mx0_2:List Tree)(N0:NT)(Q:QT):=AW (Z2 Z9t) Try.f127 Zb7 [1,0,0] (Z2Q wo wg wb l x8 mx0_2) (xT N0 (xB 0 Q))
theorem Zk5(wo:List Op)(wg wb l:List Tree)(x8:Int)(mx0_2:List Tree)(N0:NT)(Q:QT)(h:((decide (x8 < (l.length:Int)))=true->((0:Int)<=x8/\x8 < (l.length:Int))/\((Z04 ((Tree.mk (Tree.kind (l.getD x8.toNat Tree.nil)) (Tree.words (l.getD x8.toNat Tree.nil)) (Tree.kids (l.getD x8.toNat Tree.nil))),()))/\((mx0_2.length+([(Tree.mk 0 [] [])]).length)*56<=140737488355328)/\((0:Int)<=(mx0_2.length:Int)/\(mx0_2.length:Int) < ((mx0_2++([(Tree.mk 0 [] [])])).length:Int))/\(mx0_2.length<=(Int.toNat (mx0_2.length:Int)))/\((InR (x8+1))/\(N0 (Z2Q wo wg wb l (x8+1) (List.set (mx0_2++([(Tree.mk 0 [] [])])) (Int.toNat (mx0_2.length:Int)) (Tree.mk (Tree.kind (Z7 (Tree.mk (Tree.kind (l.getD x8.toNat Tree.nil)) (Tree.words (l.getD x8.toNat Tree.nil)) (Tree.kids (l.getD x8.toNat Tree.nil))))) (Tree.words (Z7 (Tree.mk (Tree.kind (l.getD x8.toNat Tree.nil)) (Tree.words (l.getD x8.toNat Tree.nil)) (Tree.kids (l.getD x8.toNat Tree.nil))))) (Tree.kids (Z7 (Tree.mk (Tree.kind (l.getD x8.toNat Tree.nil)) (Tree.words (l.getD x8.toNat Tree.nil)) (Tree.kids (l.getD x8.toNat Tree.nil))))))))))))/\((decide (x8 < (l.length:Int)))=false->Q .normal (⟨[(0,.ptr (.x 0) 2),(6,.c (sU .tree l .unk)),pI 7 (l.length:Int),pI 8 x8,pB 9 (decide (x8 < (l.length:Int)))],[(.x 0,[.mref (.x 0 0),sU .tree wg (.own (.x 0 1)),sU .tree mx0_2 (.own (.x 0 2))])],[(.x 0 0,LC.mk (U:=U) .op wo 0)]⟩:LSt U))):
  Zgg wo wg wb l x8 mx0_2 N0 Q:=by
 have e_:(Zgg wo wg wb l x8 mx0_2 N0 Q)=(type_of% h):=by kernel_rfl
 exact e_.mpr ⟨fun c_6=> ⟨(h.1 c_6).1,⟨(h.1 c_6).2.1,(h.1 c_6).2.2.1,(h.1 c_6).2.2.2.1,(h.1 c_6).2.2.2.2.1,⟨(h.1 c_6).2.2.2.2.2.1,(h.1 c_6).2.2.2.2.2.2⟩⟩⟩,fun c_6=> (h.2 c_6)⟩
def ZoL(wo:List Op)(wg wb l:List Tree):Prop:=AW (Z2 Z9t) Try.f127 Zb7 [] (Jh (Z74.can ((wo,wg,wb,()),l,())) (Z74.canX ((wo,wg,wb,()),l,())) (Z74.canL ((wo,wg,wb,()),l,()))) (JG cfg Try.f127.ntmps Try.f127.results.toList (Zml ((wo,wg,wb,()),l,())) (ZeY ((wo,wg,wb,()),l,())) (ZeZ ((wo,wg,wb,()),l,())))
theorem Zn4(c71:CT 71 JB)(hb:∀ (wo:List Op) (wg:List Tree) (wb:List Tree) (l:List Tree) (_:Unit),Z7o ((wo,wg,wb,()),l,())->ZoL wo wg wb l):CT 127 Zad:=
 Yb (l:=[(71,JB)]) Zl rfl (⟨c71,trivial⟩) Zb7 Try.func127 rfl rfl 2 (fun _=> rfl) (by decide) (fun ⟨⟨wo,wg,wb,_⟩,l,_⟩=> hb wo wg wb l ())
def Zh0:Ze U:=lvl [([0,3],[3]),([4],[])]
abbrev Zsk(list:Int)(e:Edit)(Q:QT):=AW (Z2 Zhc) Try.f128 Zh0 [] (L2 [pI 0 list,(1,.agg (enc .edit e))] []) Q
theorem Zsv(list:Int)(e:Edit)(Q:QT)(h:(((!(e.kind==0)) && (bif (list==9) then (e.kind==2) else false))=true->InR (((e.words.length:Int):Int)+(e.kids.length:Int)))/\(Q .ret (L2 [(4,.c (.bool (bif (e.kind==0) then true else (bif (bif (list==9) then (e.kind==2) else false) then (((((e.words.length:Int):Int)+(e.kids.length:Int)):Int)==0) else false))))] []))):
  Zsk list e Q:=by
 have e_:(Zsk list e Q)=(let zz1:=(!(e.kind==0));let zz0:=(bif ((list:Int)==9) then (e.kind==2) else false);((Tr (zz1=true))/\(Tr (zz1=true))/\(Tr ((zz1 && ((list:Int)==9))=true))/\(Tr ((zz1 && ((list:Int)==9))=true))/\(zz1=true->(True->zz1=true))/\(zz1=true->(((list:Int)==9)=true->(zz1 && ((list:Int)==9))=true))/\(Tr (zz1=true))/\(Tr ((zz1 && zz0)=true))/\(Tr ((zz1 && zz0)=true))/\(Tr ((zz1 && zz0)=true))/\(Tr ((zz1 && zz0)=true))/\(Tr ((zz1 && zz0)=true))/\(Tr ((zz1 && zz0)=true))/\((zz1 && zz0)=true->InR ((e.words.length:Int)+(e.kids.length:Int)))/\(Tr ((zz1 && zz0)=true))/\(zz1=true->(True->zz1=true))/\(zz1=true->(zz0=true->(zz1 && zz0)=true))/\((e.kind==0)=false->zz1=true)/\(Q .ret (L2 [(4,.c (.bool (bif (e.kind==0) then true else (bif zz0 then ((((e.words.length:Int)+(e.kids.length:Int)):Int)==0) else false))))] [])))):=by kernel_rfl
 exact e_.mpr ⟨id,id,id,id,(by generalize ((e.kind:Int)==0)=b0;revert b0;decide),(by generalize ((e.kind:Int)==0)=b0;generalize ((list:Int)==9)=b1;revert b0 b1;decide),id,id,id,id,id,id,id,h.1,id,(by generalize ((e.kind:Int)==0)=b0;revert b0;decide),(by generalize ((e.kind:Int)==2)=b0;generalize ((e.kind:Int)==0)=b1;generalize ((list:Int)==9)=b2;revert b0 b1 b2;decide),(by generalize ((e.kind:Int)==0)=b0;revert b0;decide),h.2⟩
def ZoK(list:Int)(e:Edit):Prop:=AW (Z2 Zhc) Try.f128 Zh0 [] (Zk (Zgb.can (list,e,())) []) (EQ Try.f128 (Zic (list,e,())) [])
theorem Zn3(hb:∀ (list:Int) (e:Edit) (_:Unit),Z47 (list,e,())->ZoK list e):CT 128 Z21:=
 Z3 (l:=[]) Zl rfl trivial Zh0 Try.func128 rfl rfl 2 (fun _=> rfl) (by decide) (fun ⟨list,e,_⟩=> hb list e ())
end
theorem Z0m{α:Type}(l:List α)(z x:α):(l++[z]).set (Int.toNat (l.length:Int)) x=l++[x]:=by
 rw [QV,List.set_append_right _ _ (Qd _)]
 simp
theorem Z6n:∀ (F:List Op) (n:Int),Z0C F n=if F.length≠0/\(F.getD (F.length - 1) Op.nil).kind=0 then F.set (F.length - 1) ⟨(F.getD (F.length - 1) Op.nil).kind,(F.getD (F.length - 1) Op.nil).n+n,(F.getD (F.length - 1) Op.nil).l,(F.getD (F.length - 1) Op.nil).e⟩ else F++[⟨0,n,[],Edit.nil⟩]
 | [],n=> by simp [Z0C]
 | [o],n=> by simp [Z0C]
 | o ::p ::r,n=> by
  have ih:=Z6n (p ::r) n
  have e:(o ::p ::r).length - 1=((p ::r).length - 1)+1:=by simp
  rw [Z0C,ih,e]
  simp only [K4,List.set_cons_succ]
  by_cases h:(p ::r).length≠0/\((p ::r).getD ((p ::r).length - 1) Op.nil).kind=0
  ·rw [if_pos h,if_pos ⟨by simp,h.2⟩]
  ·have h':¬((p ::r).getD ((p ::r).length - 1) Op.nil).kind=0:=fun e=> h ⟨by simp,e⟩
   rw [if_neg h,if_neg (fun e=> h' e.2)]
   try rfl
theorem Z7P(s:Wst):(Z0 s).out.length<=s.out.length+2:=by
 simp only [Z0,Z0e]
 split <;> split <;> simp
theorem Z7O(s:Wst):∀ o∈(Z0 s).out,o∈s.out\/o.n=0:=by
 intro o ho
 simp only [Z0,Z0e,Qf] at ho
 rcases ho with h | h | h
 ·exact .inl h
 ·split at h
  ·cases h
  ·simp only [Qi] at h;subst h;exact .inr rfl
 ·split at h
  ·cases h
  ·simp only [Qi] at h;subst h;exact .inr rfl
theorem Zld:Contract Try.prog cfg 129 Z0H:=by
 refine Zqb ?_
 intro wo wg wb _ hp
 simp only [Z0x] at hp
 refine ZvF wo wg wb _ ?_
 rintro y1 hy1 y2 hy2
 have hy:y1=Edit.nil:=hy1
 subst hy
 rw [Z0m] at hy2
 subst hy2
 (simp only [vcS])
 refine ⟨fun h1=> ⟨by simp;omega,by simp;omega,by omega,fun h2=> ⟨by simp;omega,by simp;omega,by omega,?_⟩,fun h2=> ?_⟩,fun h1=> ⟨fun h2=> ⟨by simp;omega,by simp;omega,by omega,?_⟩,fun h2=> ?_⟩⟩
 ·rw [Z0m]
  have e:Z0 ⟨wo,wg,wb⟩=⟨wo++[⟨1,0,wg,Edit.nil⟩]++[⟨2,0,wb,Edit.nil⟩],[],[]⟩:=by
   simp only [Z0,Z0e];rw [if_neg (by omega),if_neg (by omega)];simp
  simp only [Z7j,Z45,Z46,e]
  (repeat' (first | exact trivial | exact rfl | apply And.intro))
 ·have e:Z0 ⟨wo,wg,wb⟩=⟨wo++[⟨1,0,wg,Edit.nil⟩],[],[]⟩:=by
   simp only [Z0,Z0e];rw [if_neg (by omega),if_pos (by omega)];simp
  simp only [Z7j,Z45,Z46,e]
  (repeat' (first | exact trivial | exact rfl | apply And.intro))
 ·rw [Z0m]
  have e:Z0 ⟨wo,wg,wb⟩=⟨wo++[⟨2,0,wb,Edit.nil⟩],[],[]⟩:=by
   simp only [Z0,Z0e];rw [if_pos (by omega),if_neg (by omega)];simp
  simp only [Z7j,Z45,Z46,e]
  (repeat' (first | exact trivial | exact rfl | apply And.intro))
 ·have e:Z0 ⟨wo,wg,wb⟩=⟨wo,[],[]⟩:=by
   simp only [Z0,Z0e];rw [if_pos (by omega),if_pos (by omega)];simp
  simp only [Z7j,Z45,Z46,e]
  (repeat' (first | exact trivial | exact rfl | apply And.intro))
theorem Zu8:Contract Try.prog cfg 126 Z3Y:=by
 refine Zqd Zld ?_
 intro wo wg wb n _ hp
 simp only [Z2J] at hp
 obtain ⟨p1,p2,p3,p4,p5,p6⟩:=hp
 have hfl:=Z7P ⟨wo,wg,wb⟩
 have hfm:=Z7O ⟨wo,wg,wb⟩
 have hg:(Z0 ⟨wo,wg,wb⟩).gone=[]:=rfl
 have hb:(Z0 ⟨wo,wg,wb⟩).brought=[]:=rfl
 have hk:=Z6n (Z0 ⟨wo,wg,wb⟩).out n
 have hkw:ZL ⟨wo,wg,wb⟩ n=⟨Z0C (Z0 ⟨wo,wg,wb⟩).out n,[],[]⟩:=rfl
 refine ZvH wo wg wb n _ ?_
 simp only [hg,hb,ZgA,Zd8,Zd9,hkw]
 generalize (Z0 ⟨wo,wg,wb⟩).out=F at*
 simp only at hfl hfm
 rintro y1 hy1 y2 hy2 y3 hy3 y4 hy4
 have hy:y1=Edit.nil:=hy1
 subst hy
 have e2:y2=F.length - 1:=by omega
 subst e2
 rw [<-hy3,<-hy4] at hk
 (simp only [vcS])
 refine ⟨by simp only [Z0x];exact ⟨p1,p2,p3⟩,by unfold InR;omega,fun h=> ⟨h,by omega⟩,fun h=> ?_,fun h=> ?_⟩
 ·have hy3n:0<=y3.n/\y3.n<=100000000000000000:=by
   have hm:y3∈F:=by rw [hy3];exact Zh (by omega) _
   rcases hfm y3 hm with h1 | h1
   ·exact p4 y3 h1
   ·omega
  rw [if_pos ⟨by omega,h.2⟩] at hk
  rw [hk]
  refine ⟨by omega,by unfold InR;omega,by omega,by omega,?_⟩
  (repeat' (first | exact trivial | exact rfl | apply And.intro))
 ·rw [if_neg (by omega)] at hk
  rw [hk,Z0m]
  refine ⟨by simp;omega,by simp;omega,by omega,?_⟩
  (repeat' (first | exact trivial | exact rfl | apply And.intro))
theorem Zxi:Contract Try.prog cfg 127 ZcW:=by
 refine Zqc c71 ?_
 intro wo wg wb l _ hp
 simp only [Z7o] at hp
 obtain ⟨p1,p2,p3,p4⟩:=hp
 have hl:=Zt l
 refine ZvG _ _ _ _ _ ?_
 refine Za (ι:=Int × List Tree) (fun s=> Z4o wo wg wb l s.1 s.2) (fun s=> 0<=s.1/\s.1<=l.length/\s.2.length=wg.length+s.1/\s.2++Z9 (l.drop s.1.toNat)=wg++Z9 l) (fun s=> ((l.length:Int) - s.1).toNat) (0,wg) rfl ⟨by simp,by simp,by simp,by simp⟩ ?_
 rintro ⟨i,out⟩ ⟨h1,h2,h3,h4⟩
 dsimp only at h1 h2 h3 h4
 refine ZlE _ _ _ _ _ _ _ _ ?_
 (simp only [vcS])
 (simp only [Tree.eta,Edit.eta,Tree.kind_mk,Tree.words_mk,Tree.kids_mk])
 refine ⟨fun hi=> ?_,fun hi=> ?_⟩
 ·have hm:=YS (Zh (l:=l) (i:=i.toNat) (by omega) Tree.nil)
  rw [YL h1 hi Tree.nil] at h4
  simp only [Z9,QW] at h4
  rw [Z0m]
  refine ⟨⟨h1,hi⟩,by simp only [Z04];omega,by simp;omega,by simp;omega,by omega,by unfold InR;omega,(i+1,out++[Z7 (l.getD i.toNat Tree.nil)]),rfl,⟨by dsimp only;omega,by dsimp only;omega,by simp;omega,?_⟩,by dsimp only;omega⟩
  simp only [Qe,Qs,QH]
  exact h4
 ·rw [Qj (by omega)] at h4
  simp only [Z9,Kg,QN] at h4
  rw [h4]
  (repeat' (first | exact trivial | exact rfl | apply And.intro))
theorem Zwn:Contract Try.prog cfg 127 Zad:=by
 refine Zn4 c71 ?_
 intro wo wg wb l _ hp
 simp only [Z7o] at hp
 obtain ⟨p1,p2,p3,p4⟩:=hp
 have hl:=Zt l
 refine Zsw _ _ _ _ _ ?_
 refine Za (ι:=Int × List Tree) (fun s=> Z2Q wo wg wb l s.1 s.2) (fun s=> 0<=s.1/\s.1<=l.length/\s.2.length=wb.length+s.1/\s.2++Z9 (l.drop s.1.toNat)=wb++Z9 l) (fun s=> ((l.length:Int) - s.1).toNat) (0,wb) rfl ⟨by simp,by simp,by simp,by simp⟩ ?_
 rintro ⟨i,out⟩ ⟨h1,h2,h3,h4⟩
 dsimp only at h1 h2 h3 h4
 refine Zk5 _ _ _ _ _ _ _ _ ?_
 (simp only [vcS])
 (simp only [Tree.eta,Edit.eta,Tree.kind_mk,Tree.words_mk,Tree.kids_mk])
 refine ⟨fun hi=> ?_,fun hi=> ?_⟩
 ·have hm:=YS (Zh (l:=l) (i:=i.toNat) (by omega) Tree.nil)
  rw [YL h1 hi Tree.nil] at h4
  simp only [Z9,QW] at h4
  rw [Z0m]
  refine ⟨⟨h1,hi⟩,by simp only [Z04];omega,by simp;omega,by simp;omega,by omega,by unfold InR;omega,(i+1,out++[Z7 (l.getD i.toNat Tree.nil)]),rfl,⟨by dsimp only;omega,by dsimp only;omega,by simp;omega,?_⟩,by dsimp only;omega⟩
  simp only [Qe,Qs,QH]
  exact h4
 ·rw [Qj (by omega)] at h4
  simp only [Z9,Kg,QN] at h4
  rw [h4]
  (repeat' (first | exact trivial | exact rfl | apply And.intro))
theorem Zog:Contract Try.prog cfg 128 Z21:=by
 refine Zn3 ?_
 intro list e _ hp
 simp only [Z47] at hp
 refine Zsv _ _ _ ?_
 refine ⟨fun _=> by unfold InR;dsimp only;omega,Zb rfl ?_⟩
 rw [Qx]
 simp only [Z8F]
 (simp only [vcS])
 omega
noncomputable def Z3f:Fs U:=ZtH ZcW Zad
theorem Zoe:Contract Try.prog cfg 127 Z3f:=Zg8 Zxi Zwn
noncomputable section
noncomputable section
def Z0B(a:Edit × Unit):Prop:=Z5 a.1<=20000000000/\∃ d,Z6 a.1 d=true
def ZaY(a:Edit × Unit):Nat:=2*Z5 a.1
def Z8e(a:Edit × Unit):V U:= .agg (enc .edit (ZE a.1))
def Za6:Fs U:=fs ZjR (fun a=> [Z0B a]) Z8e
def Zef:ArgL (Int × List Op × Unit):=(.cons (Jv .i64) (.cons (aSl .op) .nil))
def Z8f(a:Int × List Op × Unit):Prop:=Zg a.2.1<=20000000000/\∀ o∈a.2.1,∃ d,Zf a.1 o d=true
def Zfv(a:Int × List Op × Unit):Nat:=2*Zg a.2.1+1
def Zf0(a:Int × List Op × Unit):V U:= .c (sU .op ((Z0 (ZP a.1 a.2.1 (Wst.mk [] [] []))).out) .unk)
def Zm0:Fs U:=fs Zef (fun a=> [Z8f a]) Zf0
def Z1U(N:Nat):List (FuncId × Fs U):=(57,fs ZjR (fun a=> [Z0B a,ZaY a < N]) Z8e) ::(94,fs Zef (fun a=> [Z8f a,Zfv a < N]) Zf0) ::[(71,JB),(128,Z21),(126,Z3Y),(129,Z0H),(127,Z3f)]
def ZdS:Ze U:=fun i=> match i with
 | 0=> ([(1,[]),(2,[])],[(.loc 1,[]),(.loc 2,[])])
 | 1=> ([(1,[]),(2,[]),(3,[])],[(.loc 1,[]),(.loc 2,[]),(.loc 3,[])])
 | 2=> ([(1,[]),(2,[]),(3,[]),(12,[])],[(.loc 1,[]),(.loc 2,[]),(.loc 3,[])])
 | 3=> ([(1,[]),(2,[]),(3,[]),(12,[]),(13,[])],[(.loc 1,[]),(.loc 2,[]),(.loc 3,[])])
 | 4=> ([(2,[]),(3,[])],[(.loc 2,[]),(.loc 3,[])])
 | 5=> ([(1,[]),(2,[]),(3,[]),(12,[]),(23,[])],[(.loc 1,[]),(.loc 2,[]),(.loc 3,[])])
 | 6=> ([(1,[]),(2,[]),(3,[])],[(.loc 1,[]),(.loc 2,[]),(.loc 3,[])])
 | 7=> ([(2,[]),(3,[]),(32,[]),(33,[]),(34,[])],[(.loc 2,[]),(.loc 3,[.any,.any,.any,.any,.any,.any,.any,.any,.own .kid])])
 | 8=> ([(2,[]),(3,[]),(32,[]),(33,[]),(34,[]),(35,[])],[(.loc 2,[]),(.loc 3,[])])
 | 9=> ([(2,[]),(3,[]),(5,[]),(32,[]),(33,[]),(34,[])],[(.loc 2,[]),(.loc 3,[]),(.loc 5,[])])
 | 10=> ([(2,[]),(3,[]),(32,[]),(33,[]),(34,[])],[(.loc 2,[]),(.loc 3,[])])
 | 11=> ([(2,[]),(3,[]),(32,[]),(33,[]),(34,[])],[(.loc 2,[]),(.loc 3,[.any,.any,.any,.any,.any,.any,.any,.any,.own .kid])])
 | 12=> ([(1,[]),(2,[]),(3,[]),(50,[])],[(.loc 1,[]),(.loc 2,[]),(.loc 3,[])])
 | 13=> ([(2,[]),(3,[])],[(.loc 2,[]),(.loc 3,[])])
 | 14=> ([(2,[])],[(.loc 2,[])])
 | _=> ([],[])
def Z2l(e:Edit)(x34:Int)(ml3_8:List Kid):LSt U:=(L2 [pL 2,pL 3,(32,.c (sU .kid e.kids .unk)),pI 33 (e.kids.length:Int),pI 34 x34] [(.loc 2,zc1),(.loc 3,[ci e.kind,ci 0,.nils,.nils,ci 0,.nils,.nils,sU .wedit (([]:List WEdit)++e.words) (.own (.l 3 7)),sU .kid ml3_8 (.own (.l 3 8)),ci e.list,.nils])])
abbrev W57(N:Nat)(e:Edit)(Q:QT):=AW (Z2 (Z1U N)) Try.f57 ZdS [] (L2 [(0,.agg (enc .edit e))] []) Q
abbrev Zlo(N:Nat):=awp cfg (Z2 (Z1U N)) (Yn cfg (Z2 (Z1U N))) Try.f57.ntmps ZdS
abbrev Zkj(N:Nat):=Zm5 cfg (Z2 (Z1U N)) (Yn cfg (Z2 (Z1U N))) Try.f57.ntmps ZdS
theorem Zx3(N:Nat)(e:Edit)(Q:QT)(h:((e.kind==1)=true->(Z04 ((Tree.mk e.old.kind e.old.words e.old.kids),()))/\(Z04 ((Tree.mk e.new.kind e.new.words e.new.kids),()))/\(Q .ret (L2 [pL 2] [(.loc 2,([ci e.kind]++enc .tree (Z7 (Tree.mk e.old.kind e.old.words e.old.kids))++enc .tree (Z7 (Tree.mk e.new.kind e.new.words e.new.kids))++[.nils,.nils,ci e.list,.nils]))])))/\((e.kind==1)=false->((e.kind==2)=true->((([]:List WEdit).length+e.words.length)*32<=140737488355328)/\(Zm (AW (Z2 (Z1U N)) Try.f57 ZdS [1,1,0,1,0,1,1,1,0,1,1,0,0]) (Z2l e 0 []) (xB 1 (xB 0 (SW (Z2 (Z1U N)) Try.f57 ZdS [1,1,1] Q)))))/\((e.kind==2)=false->((e.kind==3)=true->(Z8f (e.list,e.ops,()))/\(Zfv (e.list,e.ops,()) < N)/\(Q .ret (L2 [pL 2] [(.loc 2,[ci e.kind,ci 0,.nils,.nils,ci 0,.nils,.nils,.nils,.nils,ci e.list,sU .op ((Z0 (ZP e.list e.ops (Wst.mk [] [] []))).out) .unk])])))/\((e.kind==3)=false->Q .ret (L2 [pL 2] [(.loc 2,[ci e.kind,ci 0,.nils,.nils,ci 0,.nils,.nils,.nils,.nils,ci e.list,.nils])]))))):
  W57 N e Q:=by
 have e_:(W57 N e Q)=(((e.kind==1)=true->(Z04 ((Tree.mk e.old.kind e.old.words e.old.kids),()))/\(Z04 ((Tree.mk e.new.kind e.new.words e.new.kids),()))/\(Q .ret (L2 [pL 2] [(.loc 2,([ci e.kind]++enc .tree (Z7 (Tree.mk e.old.kind e.old.words e.old.kids))++enc .tree (Z7 (Tree.mk e.new.kind e.new.words e.new.kids))++[.nils,.nils,ci e.list,.nils]))])))/\((e.kind==1)=false->(((e.kind==2)=true->((([]:List WEdit).length+e.words.length)*32<=140737488355328)/\(Zm (Zlo N (cd Try.f57 [1,1,0,1,0,1,1,1,0,1,1,0,0])) (Z2l e 0 []) (xB 1 (xB 0 (Zkj N (cd Try.f57 [1,1,1]) Q)))))/\((e.kind==2)=false->(((e.kind==3)=true->(Z8f (e.list,e.ops,()))/\(Zfv (e.list,e.ops,()) < N)/\(Q .ret (L2 [pL 2] [(.loc 2,[ci e.kind,ci 0,.nils,.nils,ci 0,.nils,.nils,.nils,.nils,ci e.list,sU .op ((Z0 (ZP e.list e.ops (Wst.mk [] [] []))).out) .unk])])))/\((e.kind==3)=false->(Q .ret (L2 [pL 2] [(.loc 2,[ci e.kind,ci 0,.nils,.nils,ci 0,.nils,.nils,.nils,.nils,ci e.list,.nils])])))))))):=by kernel_rfl
 exact e_.mpr ⟨fun c_1=> ⟨(h.1 c_1).1,(h.1 c_1).2.1,(h.1 c_1).2.2⟩,fun c_1=> ⟨fun c_2=> ⟨((h.2 c_1).1 c_2).1,((h.2 c_1).1 c_2).2⟩,fun c_2=> ⟨fun c_3=> ⟨(((h.2 c_1).2 c_2).1 c_3).1,(((h.2 c_1).2 c_2).1 c_3).2.1,(((h.2 c_1).2 c_2).1 c_3).2.2⟩,fun c_3=> (((h.2 c_1).2 c_2).2 c_3)⟩⟩⟩
abbrev ZoG(N:Nat)(e:Edit)(x34:Int)(ml3_8:List Kid)(N0:NT)(Q:QT):=AW (Z2 (Z1U N)) Try.f57 ZdS [1,1,0,1,0,1,1,1,0,1,1,0,0] (Z2l e x34 ml3_8) (xT N0 (xB 1 (xB 0 (SW (Z2 (Z1U N)) Try.f57 ZdS [1,1,1] Q))))
theorem Zpe(N:Nat)(e:Edit)(x34:Int)(ml3_8:List Kid)(N0:NT)(Q:QT)(h:∀ y_1,y_1=(e.kids.getD x34.toNat (KidOf.mk 0 Edit.nil))->∀ y_2,y_2=(y_1.e)->∀ y_3,y_3=(ZE y_2)->((decide (x34 < (e.kids.length:Int)))=true->((0:Int)<=x34/\x34 < (e.kids.length:Int))/\((Z0B (y_2,()))/\(ZaY (y_2,()) < N)/\((ml3_8.length+([(KidOf.mk y_1.at_ y_3:Kid)]).length)*208<=140737488355328)/\((InR (x34+1))/\(N0 (Z2l e (x34+1) (ml3_8++([(KidOf.mk y_1.at_ y_3:Kid)])))))))/\((decide (x34 < (e.kids.length:Int)))=false->Q .ret (L2 [pL 2] [(.loc 2,[ci e.kind,ci 0,.nils,.nils,ci 0,.nils,.nils,sU .wedit (([]:List WEdit)++e.words) (.own (.l 2 7)),sU .kid ml3_8 (.own (.l 2 8)),ci e.list,.nils])]))):
  ZoG N e x34 ml3_8 N0 Q:=by
 have e_:(ZoG N e x34 ml3_8 N0 Q)=(let y_1:=(e.kids.getD x34.toNat (KidOf.mk 0 Edit.nil));let y_2:=(Z1g y_1.e);let y_3:=(Z1g (ZE y_2));(((decide ((x34:Int) < (e.kids.length:Int)))=true->((0:Int)<=x34/\x34 < (e.kids.length:Int))/\((Z0B (y_2,()))/\(ZaY (y_2,()) < N)/\((ml3_8.length+([(KidOf.mk y_1.at_ y_3:Kid)]).length)*208<=140737488355328)/\((InR ((x34:Int)+1))/\(N0 (Z2l e ((x34:Int)+1) (ml3_8++([(KidOf.mk y_1.at_ y_3:Kid)])))))))/\((decide ((x34:Int) < (e.kids.length:Int)))=false->(Q .ret (L2 [pL 2] [(.loc 2,[ci e.kind,ci 0,.nils,.nils,ci 0,.nils,.nils,sU .wedit (([]:List WEdit)++e.words) (.own (.l 2 7)),sU .kid ml3_8 (.own (.l 2 8)),ci e.list,.nils])]))))):=by kernel_rfl
 exact e_.mpr (by intro y_1 y_2 y_3;have hh:=h y_1 rfl y_2 (Z8 _) y_3 (Z8 _);exact ⟨fun c_4=> ⟨(hh.1 c_4).1,⟨(hh.1 c_4).2.1,(hh.1 c_4).2.2.1,(hh.1 c_4).2.2.2.1,⟨(hh.1 c_4).2.2.2.2.1,(hh.1 c_4).2.2.2.2.2⟩⟩⟩,fun c_4=> (hh.2 c_4)⟩)
def ZuN(N:Nat)(e:Edit):Prop:=AW (Z2 (Z1U N)) Try.f57 ZdS [] (Zk (ZjR.can (e,())) []) (EQ Try.f57 (Z8e (e,())) [])
abbrev ZwH:Prop:=∀ (N:Nat) (e:Edit) (_:Unit),Z0B (e,())->ZaY (e,()) < N+1->ZuN N e
def ZdR:Ze U:=fun i=> match i with
 | 0=> ([(0,[]),(1,[])],[])
 | 1=> ([(0,[]),(1,[]),(5,[])],[(.loc 10,[.wr .op])])
 | 2=> ([(0,[]),(5,[]),(11,[]),(12,[]),(13,[])],[(.loc 10,[.wr .op,.own .tree,.own .tree])])
 | 3=> ([(0,[]),(5,[]),(11,[]),(12,[]),(13,[]),(14,[])],[(.loc 10,[.wr .op])])
 | 4=> ([(0,[]),(5,[]),(7,[]),(11,[]),(12,[]),(13,[])],[(.loc 7,[]),(.loc 10,[.wr .op])])
 | 5=> ([(0,[]),(5,[]),(7,[]),(11,[]),(12,[]),(13,[]),(18,[])],[(.loc 7,[]),(.loc 10,[.wr .op])])
 | 6=> ([(0,[]),(5,[]),(7,[]),(11,[]),(12,[]),(13,[]),(18,[]),(19,[])],[(.loc 7,[]),(.loc 10,[.wr .op])])
 | 7=> ([(0,[]),(5,[]),(11,[]),(12,[]),(13,[])],[(.loc 10,[.wr .op])])
 | 8=> ([(0,[]),(5,[]),(7,[]),(11,[]),(12,[]),(13,[]),(18,[]),(25,[])],[(.loc 7,[]),(.loc 10,[.wr .op])])
 | 9=> ([(0,[]),(5,[]),(11,[]),(12,[]),(13,[])],[(.loc 10,[.wr .op])])
 | 10=> ([(0,[]),(5,[]),(7,[]),(11,[]),(12,[]),(13,[]),(18,[]),(33,[])],[(.loc 7,[]),(.loc 10,[.wr .op])])
 | 11=> ([(0,[]),(5,[]),(11,[]),(12,[]),(13,[])],[(.loc 10,[.wr .op])])
 | 12=> ([(0,[]),(5,[]),(7,[]),(11,[]),(12,[]),(13,[]),(41,[])],[(.loc 7,[]),(.loc 10,[.wr .op])])
 | 13=> ([(0,[]),(5,[]),(8,[]),(11,[]),(12,[]),(13,[])],[(.loc 8,[]),(.loc 10,[.wr .op])])
 | 14=> ([(0,[]),(5,[]),(8,[]),(11,[]),(12,[]),(13,[]),(48,[])],[(.loc 8,[]),(.loc 10,[.wr .op])])
 | 15=> ([(0,[]),(5,[]),(11,[]),(12,[]),(13,[])],[(.loc 10,[.wr .op])])
 | 16=> ([(0,[]),(5,[]),(8,[]),(11,[]),(12,[]),(13,[])],[(.loc 8,[]),(.loc 10,[.wr .op])])
 | 17=> ([(0,[]),(5,[]),(11,[]),(12,[]),(13,[])],[(.loc 10,[.wr .op])])
 | 18=> ([(0,[]),(5,[]),(11,[]),(12,[]),(13,[])],[(.loc 10,[.wr .op,.own .tree,.own .tree])])
 | 19=> ([(5,[])],[(.loc 10,[.wr .op])])
 | 20=> ([(4,[])],[])
 | _=> ([],[])
def ZS(list:Int)(l:List Op)(x13:Int)(rl_10_0:List Op)(ml10_1 ml10_2:List Tree):LSt U:=(⟨[pI 0 list,(5,.ptr (.loc 10) 0),(11,.c (sU .op l .unk)),pI 12 (l.length:Int),pI 13 x13],[(.loc 10,[.mref (.l 10 0),sU .tree ml10_1 (.own (.l 10 1)),sU .tree ml10_2 (.own (.l 10 2))])],[(.l 10 0,LC.mk (U:=U) .op rl_10_0 0)]⟩:LSt U)
abbrev W94(N:Nat)(list:Int)(l:List Op)(Q:QT):=AW (Z2 (Z1U N)) Try.f94 ZdR [] (L2 [pI 0 list,(1,.c (sU .op l .unk))] []) Q
abbrev Zln(N:Nat):=awp cfg (Z2 (Z1U N)) (Yn cfg (Z2 (Z1U N))) Try.f94.ntmps ZdR
abbrev Zki(N:Nat):=Zm5 cfg (Z2 (Z1U N)) (Yn cfg (Z2 (Z1U N))) Try.f94.ntmps ZdR
theorem ZwL(N:Nat)(list:Int)(l:List Op)(Q:QT)(h:Zm (AW (Z2 (Z1U N)) Try.f94 ZdR [1,1,0,1,0,0]) (ZS list l 0 [] [] []) (xB 0 (SW (Z2 (Z1U N)) Try.f94 ZdR [1,1,1] Q))):
  W94 N list l Q:=by
 have e_:(W94 N list l Q)=(Zm (Zln N (cd Try.f94 [1,1,0,1,0,0])) (ZS list l 0 [] [] []) (xB 0 (Zki N (cd Try.f94 [1,1,1]) Q))):=by kernel_rfl
 exact e_.mpr h
abbrev ZoF(N:Nat)(list:Int)(l:List Op)(x13:Int)(rl_10_0:List Op)(ml10_1 ml10_2:List Tree)(N0:NT)(Q:QT):=AW (Z2 (Z1U N)) Try.f94 ZdR [1,1,0,1,0,0] (ZS list l x13 rl_10_0 ml10_1 ml10_2) (xT N0 (xB 0 (SW (Z2 (Z1U N)) Try.f94 ZdR [1,1,1] Q)))
theorem ZoT(N:Nat)(list:Int)(l:List Op)(x13:Int)(rl_10_0:List Op)(ml10_1 ml10_2:List Tree)(N0:NT)(Q:QT)(h:∀ y_1,y_1=(l.getD x13.toNat Op.nil)->∀ y_2,y_2=(Edit.mk 0 (Tree.mk 0 [] []) (Tree.mk 0 [] []) [] [] 0 [])->∀ y_3,y_3=(Int.toNat (((Z0 (Wst.mk rl_10_0 ml10_1 ml10_2)).out).length:Int))->∀ y_4,y_4=(y_1.e)->∀ y_5,y_5=(ZE y_4)->((decide (x13 < (l.length:Int)))=true->((0:Int)<=x13/\x13 < (l.length:Int))/\(((y_1.kind==0)=true->(Z2J ((rl_10_0,ml10_1,ml10_2,()),y_1.n,()))/\((InR (x13+1))/\(N0 (ZS list l (x13+1) ((ZL (Wst.mk rl_10_0 ml10_1 ml10_2) y_1.n).out) ((ZL (Wst.mk rl_10_0 ml10_1 ml10_2) y_1.n).gone) ((ZL (Wst.mk rl_10_0 ml10_1 ml10_2) y_1.n).brought)))))/\((y_1.kind==0)=false->((y_1.kind==1)=true->(Z7o ((rl_10_0,ml10_1,ml10_2,()),y_1.l,()))/\((InR (x13+1))/\(N0 (ZS list l (x13+1) ((Wst.mk rl_10_0 (ml10_1++Z9 y_1.l) ml10_2).out) ((Wst.mk rl_10_0 (ml10_1++Z9 y_1.l) ml10_2).gone) ((Wst.mk rl_10_0 (ml10_1++Z9 y_1.l) ml10_2).brought)))))/\((y_1.kind==1)=false->((y_1.kind==2)=true->(Z7o ((rl_10_0,ml10_1,ml10_2,()),y_1.l,()))/\((InR (x13+1))/\(N0 (ZS list l (x13+1) ((Wst.mk rl_10_0 ml10_1 (ml10_2++Z9 y_1.l)).out) ((Wst.mk rl_10_0 ml10_1 (ml10_2++Z9 y_1.l)).gone) ((Wst.mk rl_10_0 ml10_1 (ml10_2++Z9 y_1.l)).brought)))))/\((y_1.kind==2)=false->((y_1.kind==3)=true->(Z0B (y_4,()))/\(ZaY (y_4,()) < N)/\((Z47 (list,y_5,()))/\(((Z8F list y_5)=true->(Z2J ((rl_10_0,ml10_1,ml10_2,()),1,()))/\((InR (x13+1))/\(N0 (ZS list l (x13+1) ((ZL (Wst.mk rl_10_0 ml10_1 ml10_2) 1).out) ((ZL (Wst.mk rl_10_0 ml10_1 ml10_2) 1).gone) ((ZL (Wst.mk rl_10_0 ml10_1 ml10_2) 1).brought)))))/\((Z8F list y_5)=false->(Z0x ((rl_10_0,ml10_1,ml10_2,()),()))/\(((((Z0 (Wst.mk rl_10_0 ml10_1 ml10_2)).out).length+([(OpOf.mk 0 0 [] y_2:Op)]).length)*240<=140737488355328)/\((0:Int)<=(((Z0 (Wst.mk rl_10_0 ml10_1 ml10_2)).out).length:Int)/\(((Z0 (Wst.mk rl_10_0 ml10_1 ml10_2)).out).length:Int) < ((((Z0 (Wst.mk rl_10_0 ml10_1 ml10_2)).out)++([(OpOf.mk 0 0 [] y_2:Op)])).length:Int))/\((0:Nat)<=y_3)/\((InR (x13+1))/\(N0 (ZS list l (x13+1) (List.set (((Z0 (Wst.mk rl_10_0 ml10_1 ml10_2)).out)++([(OpOf.mk 0 0 [] y_2:Op)])) y_3 (OpOf.mk 3 0 [] y_5:Op)) ((Z0 (Wst.mk rl_10_0 ml10_1 ml10_2)).gone) ((Z0 (Wst.mk rl_10_0 ml10_1 ml10_2)).brought)))))))))/\((y_1.kind==3)=false->(InR (x13+1))/\(N0 (ZS list l (x13+1) rl_10_0 ml10_1 ml10_2))))))))/\((decide (x13 < (l.length:Int)))=false->(Z0x ((rl_10_0,ml10_1,ml10_2,()),()))/\(Q .ret (L2 [(4,.c (sU .op ((Z0 (Wst.mk rl_10_0 ml10_1 ml10_2)).out) (.own (.e 4 0))))] [])))):
  ZoF N list l x13 rl_10_0 ml10_1 ml10_2 N0 Q:=by
 have e_:(ZoF N list l x13 rl_10_0 ml10_1 ml10_2 N0 Q)=(let y_1:=(l.getD x13.toNat Op.nil);let y_2:=(Edit.mk 0 (Tree.mk 0 [] []) (Tree.mk 0 [] []) [] [] 0 []);let y_3:=(Int.toNat (((Z0 (Wst.mk rl_10_0 ml10_1 ml10_2)).out).length:Int));let y_4:=(Z1g y_1.e);let y_5:=(Z1g (ZE y_4));(((decide ((x13:Int) < (l.length:Int)))=true->((0:Int)<=x13/\x13 < (l.length:Int))/\(((y_1.kind==0)=true->(Z2J ((rl_10_0,ml10_1,ml10_2,()),y_1.n,()))/\((InR ((x13:Int)+1))/\(N0 (ZS list l ((x13:Int)+1) ((ZL (Wst.mk rl_10_0 ml10_1 ml10_2) y_1.n).out) ((ZL (Wst.mk rl_10_0 ml10_1 ml10_2) y_1.n).gone) ((ZL (Wst.mk rl_10_0 ml10_1 ml10_2) y_1.n).brought)))))/\((y_1.kind==0)=false->(((y_1.kind==1)=true->(Z7o ((rl_10_0,ml10_1,ml10_2,()),y_1.l,()))/\((InR ((x13:Int)+1))/\(N0 (ZS list l ((x13:Int)+1) ((Wst.mk rl_10_0 (ml10_1++Z9 y_1.l) ml10_2).out) ((Wst.mk rl_10_0 (ml10_1++Z9 y_1.l) ml10_2).gone) ((Wst.mk rl_10_0 (ml10_1++Z9 y_1.l) ml10_2).brought)))))/\((y_1.kind==1)=false->(((y_1.kind==2)=true->(Z7o ((rl_10_0,ml10_1,ml10_2,()),y_1.l,()))/\((InR ((x13:Int)+1))/\(N0 (ZS list l ((x13:Int)+1) ((Wst.mk rl_10_0 ml10_1 (ml10_2++Z9 y_1.l)).out) ((Wst.mk rl_10_0 ml10_1 (ml10_2++Z9 y_1.l)).gone) ((Wst.mk rl_10_0 ml10_1 (ml10_2++Z9 y_1.l)).brought)))))/\((y_1.kind==2)=false->(((y_1.kind==3)=true->(Z0B (y_4,()))/\(ZaY (y_4,()) < N)/\((Z47 (list,y_5,()))/\(((Z8F list y_5)=true->(Z2J ((rl_10_0,ml10_1,ml10_2,()),1,()))/\((InR ((x13:Int)+1))/\(N0 (ZS list l ((x13:Int)+1) ((ZL (Wst.mk rl_10_0 ml10_1 ml10_2) 1).out) ((ZL (Wst.mk rl_10_0 ml10_1 ml10_2) 1).gone) ((ZL (Wst.mk rl_10_0 ml10_1 ml10_2) 1).brought)))))/\((Z8F list y_5)=false->(Z0x ((rl_10_0,ml10_1,ml10_2,()),()))/\(((((Z0 (Wst.mk rl_10_0 ml10_1 ml10_2)).out).length+([(OpOf.mk 0 0 [] y_2:Op)]).length)*240<=140737488355328)/\((0:Int)<=(((Z0 (Wst.mk rl_10_0 ml10_1 ml10_2)).out).length:Int)/\(((Z0 (Wst.mk rl_10_0 ml10_1 ml10_2)).out).length:Int) < ((((Z0 (Wst.mk rl_10_0 ml10_1 ml10_2)).out)++([(OpOf.mk 0 0 [] y_2:Op)])).length:Int))/\((0:Nat)<=y_3)/\((InR ((x13:Int)+1))/\(N0 (ZS list l ((x13:Int)+1) (List.set (((Z0 (Wst.mk rl_10_0 ml10_1 ml10_2)).out)++([(OpOf.mk 0 0 [] y_2:Op)])) y_3 (OpOf.mk 3 0 [] y_5:Op)) ((Z0 (Wst.mk rl_10_0 ml10_1 ml10_2)).gone) ((Z0 (Wst.mk rl_10_0 ml10_1 ml10_2)).brought)))))))))/\((y_1.kind==3)=false->(InR ((x13:Int)+1))/\(N0 (ZS list l ((x13:Int)+1) rl_10_0 ml10_1 ml10_2)))))))))))/\((decide ((x13:Int) < (l.length:Int)))=false->(Z0x ((rl_10_0,ml10_1,ml10_2,()),()))/\(Q .ret (L2 [(4,.c (sU .op ((Z0 (Wst.mk rl_10_0 ml10_1 ml10_2)).out) (.own (.e 4 0))))] []))))):=by kernel_rfl
 exact e_.mpr (by intro y_1 y_2 y_3 y_4 y_5;have hh:=h y_1 rfl y_2 rfl y_3 rfl y_4 (Z8 _) y_5 (Z8 _);exact ⟨fun c_5=> ⟨(hh.1 c_5).1,⟨fun c_6=> ⟨((hh.1 c_5).2.1 c_6).1,⟨((hh.1 c_5).2.1 c_6).2.1,((hh.1 c_5).2.1 c_6).2.2⟩⟩,fun c_6=> ⟨fun c_7=> ⟨(((hh.1 c_5).2.2 c_6).1 c_7).1,⟨(((hh.1 c_5).2.2 c_6).1 c_7).2.1,(((hh.1 c_5).2.2 c_6).1 c_7).2.2⟩⟩,fun c_7=> ⟨fun c_8=> ⟨((((hh.1 c_5).2.2 c_6).2 c_7).1 c_8).1,⟨((((hh.1 c_5).2.2 c_6).2 c_7).1 c_8).2.1,((((hh.1 c_5).2.2 c_6).2 c_7).1 c_8).2.2⟩⟩,fun c_8=> ⟨fun c_9=> ⟨(((((hh.1 c_5).2.2 c_6).2 c_7).2 c_8).1 c_9).1,(((((hh.1 c_5).2.2 c_6).2 c_7).2 c_8).1 c_9).2.1,⟨(((((hh.1 c_5).2.2 c_6).2 c_7).2 c_8).1 c_9).2.2.1,⟨fun c_10=> ⟨((((((hh.1 c_5).2.2 c_6).2 c_7).2 c_8).1 c_9).2.2.2.1 c_10).1,⟨((((((hh.1 c_5).2.2 c_6).2 c_7).2 c_8).1 c_9).2.2.2.1 c_10).2.1,((((((hh.1 c_5).2.2 c_6).2 c_7).2 c_8).1 c_9).2.2.2.1 c_10).2.2⟩⟩,fun c_10=> ⟨((((((hh.1 c_5).2.2 c_6).2 c_7).2 c_8).1 c_9).2.2.2.2 c_10).1,⟨((((((hh.1 c_5).2.2 c_6).2 c_7).2 c_8).1 c_9).2.2.2.2 c_10).2.1,((((((hh.1 c_5).2.2 c_6).2 c_7).2 c_8).1 c_9).2.2.2.2 c_10).2.2.1,((((((hh.1 c_5).2.2 c_6).2 c_7).2 c_8).1 c_9).2.2.2.2 c_10).2.2.2.1,⟨((((((hh.1 c_5).2.2 c_6).2 c_7).2 c_8).1 c_9).2.2.2.2 c_10).2.2.2.2.1,((((((hh.1 c_5).2.2 c_6).2 c_7).2 c_8).1 c_9).2.2.2.2 c_10).2.2.2.2.2⟩⟩⟩⟩⟩⟩,fun c_9=> ⟨(((((hh.1 c_5).2.2 c_6).2 c_7).2 c_8).2 c_9).1,(((((hh.1 c_5).2.2 c_6).2 c_7).2 c_8).2 c_9).2⟩⟩⟩⟩⟩⟩,fun c_5=> ⟨(hh.2 c_5).1,(hh.2 c_5).2⟩⟩)
def Zuv(N:Nat)(list:Int)(l:List Op):Prop:=AW (Z2 (Z1U N)) Try.f94 ZdR [] (Zk (Zef.can (list,l,())) []) (EQ Try.f94 (Zf0 (list,l,())) [])
abbrev ZwD:Prop:=∀ (N:Nat) (list:Int) (l:List Op) (_:Unit),Z8f (list,l,())->Zfv (list,l,()) < N+1->Zuv N list l
theorem ZkO(c71:CT 71 JB)(Zog:CT 128 Z21)(Zu8:CT 126 Z3Y)(Zld:CT 129 Z0H)(Zoe:CT 127 Z3f)(ha:ZwH)(hb:ZwD):CT 57 Za6/\CT 94 Zm0:=
 Z4U (μA:=ZaY) (μB:=Zfv) (l:=[(71,JB),(128,Z21),(126,Z3Y),(129,Z0H),(127,Z3f)]) Zl rfl (⟨c71,Zog,Zu8,Zld,Zoe,trivial⟩) ZdS ZdR Try.func57 Try.func94 rfl rfl rfl rfl 1 2 (fun _=> rfl) (fun _=> rfl) (by decide) (by decide) (fun N ⟨e,_⟩=> ha N e ()) (fun N ⟨list,l,_⟩=> hb N list l ())
end
end
theorem ZkX(s:Wst)(n:Int):(ZL s n).out.length<=s.out.length+3:=by
 have h:=Z7P s
 simp only [ZL]
 rw [Z6n]
 split
 ·rw [K1];omega
 ·rw [Q6];simp;omega
theorem ZqF{s:Wst}{n B K:Int}(hB:0<=B)(hn:0<=n/\n<=K)(h:∀ o∈s.out,0<=o.n/\o.n<=B):∀ o∈(ZL s n).out,0<=o.n/\o.n<=B+K:=by
 have hF:∀ o∈(Z0 s).out,0<=o.n/\o.n<=B:=by
  intro o ho
  rcases Z7O s o ho with h1 | h1
  ·exact h o h1
  ·omega
 intro o ho
 simp only [ZL] at ho
 rw [Z6n] at ho
 split at ho
 ·rename_i hc
  rcases List.mem_or_eq_of_mem_set ho with ho | rfl
  ·have:=hF o ho;omega
  ·have:=hF _ (Zh (l:=(Z0 s).out) (i:=(Z0 s).out.length - 1) (by omega) Op.nil)
   simp only;omega
 ·rcases Qf.1 ho with ho | ho
  ·have:=hF o ho;omega
  ·simp only [Qi] at ho;subst ho;simp only;omega
theorem ZaT:∀ (l:List Kid),(JU l).length=l.length
 | []=> rfl
 | k ::r=> by simp [JU,ZaT r]
theorem ZgR(e:Edit):(ZE e).words.length<=e.words.length/\(ZE e).kids.length<=e.kids.length:=by
 rw [Z4c]
 split
 ·simp
 ·split
  ·simp [ZaT]
  ·split <;> simp
theorem Zd4{list:Int}{o:Op}{d:Int}(h:Zf list o d=true)(hk:o.kind=0):1<=o.n/\o.n<=1048576:=by
 obtain ⟨k,n,l,e⟩:=o
 simp only at hk
 subst hk
 simp [Zf] at h
 show 1<=n/\n<=1048576
 omega
theorem Zd5{list:Int}{o:Op}{d:Int}(h:Zf list o d=true)(hk:o.kind=3):Z6 o.e d=true:=by
 obtain ⟨k,n,l,e⟩:=o
 simp only at hk
 subst hk
 simp [Zf] at h
 exact h.2.1.2
theorem ZkU{e:Edit}{d:Int}(h:Z6 e d=true)(hk:e.kind=2):∀ k∈e.kids,∃ d,Z6 k.e d=true:=by
 obtain ⟨k,o,n,w,ks,l,os⟩:=e
 change k=2 at hk
 subst hk
 have hks:∃ d last,Zx last ks d=true:=by
  unfold Z6 at h
  split at h
  ·cases h
  ·split at h
   ·cases h
   ·rw [if_neg (by omega)] at h
    simp only [Q1] at h
    exact ⟨_,_,h.1.1.1.2⟩
 obtain ⟨d',last,hks⟩:=hks
 change ∀ k∈ks,_
 clear h
 induction ks generalizing last with
 | nil=> intro k hk;cases hk
 | cons a r ih=>
  simp only [Zx,Q1] at hks
  intro k hk
  rcases Qc.1 hk with rfl | hk
  ·obtain ⟨a,e⟩:=k
   simp only [J5,Q1] at hks
   exact ⟨_,hks.1.2⟩
  ·exact ih _ hks.2 k hk
theorem ZmO{e:Edit}{d:Int}(h:Z6 e d=true)(hk:e.kind=3):∀ o∈e.ops,∃ d,Zf e.list o d=true:=by
 obtain ⟨k,o,n,w,ks,l,os⟩:=e
 change k=3 at hk
 subst hk
 have hos:∃ d,ZA l os d=true:=by
  unfold Z6 at h
  split at h
  ·cases h
  ·split at h
   ·cases h
   ·rw [if_neg (by omega)] at h
    simp only [Q1] at h
    exact ⟨_,h.1.2⟩
 obtain ⟨d',hos⟩:=hos
 change ∀ o∈os,∃ d,Zf l o d=true
 clear h
 induction os with
 | nil=> intro k hk;cases hk
 | cons a r ih=>
  simp only [ZA,Q1] at hos
  intro k hk
  rcases Qc.1 hk with rfl | hk
  ·exact ⟨_,hos.1⟩
  ·exact ih hos.2 k hk
theorem b94:ZwD:=by
 intro N list l _ hp hN
 simp only [Z8f,Zfv] at hp hN
 obtain ⟨p1,p3⟩:=hp
 have hl:=Y9 l
 refine ZwL _ _ _ _ ?_
 refine Za (ι:=Int × Wst) (fun s=> ZS list l s.1 s.2.out s.2.gone s.2.brought)
  (fun s=> 0<=s.1/\s.1<=l.length/\ZP list (l.drop s.1.toNat) s.2=ZP list l ⟨[],[],[]⟩/\s.2.out.length<=3*s.1/\s.2.gone.length+s.2.brought.length+Zg (l.drop s.1.toNat)<=Zg l/\∀ o∈s.2.out,0<=o.n/\o.n<=s.1*1048576)
  (fun s=> ((l.length:Int) - s.1).toNat) (0,⟨[],[],[]⟩) rfl ⟨by simp,by simp,by simp,by simp,by simp,by simp⟩ ?_
 rintro ⟨i,s⟩ ⟨g1,g2,g3,g4,g5,g6⟩
 dsimp only at g1 g2 g3 g4 g5 g6
 refine ZoT _ _ _ _ _ _ _ _ _ ?_
 rintro y1 hy1 y2 hy2 y3 hy3 y4 hy4 y5 hy5
 have hy:y2=Edit.nil:=hy2
 subst hy
 have es:Wst.mk s.out s.gone s.brought=s:=rfl
 simp only [es] at hy3 ⊢
 (simp only [vcS])
 refine ⟨fun hi=> ?_,fun hi=> ?_⟩
 ·have hmem:=Zh (l:=l) (i:=i.toNat) (by omega) Op.nil
  have hm:=ZT hmem
  have hr:=p3 _ hmem
  rw [YL g1 hi Op.nil] at g3 g5
  rw [<-hy1] at g3 g5 hm hr
  have hmo:=ZK y1
  simp only [ZP,Z2d,Zg] at g3 g5
  rw [<-hy4,<-hy5] at g3
  obtain ⟨d,hr2⟩:=hr
  have hfl:=Z7P s
  have hP:∀ n:Int,0<=n/\n<=1048576->Z2J ((s.out,s.gone,s.brought,()),n,()):=by
   intro n hn
   simp only [Z2J]
   refine ⟨by omega,by omega,by omega,fun o ho=> ?_,by omega,by omega⟩
   have:=g6 o ho
   constructor
   ·omega
   ·have:i*1048576<=20000000000*1048576:=by omega
    omega
  have hK:∀ n:Int,0<=n/\n<=1048576->ZP list (l.drop (i+1).toNat) (ZL s n)=ZP list l ⟨[],[],[]⟩->
    (∃ j:Int × Wst,ZS list l (i+1) (ZL s n).out (ZL s n).gone (ZL s n).brought=ZS list l j.1 j.2.out j.2.gone j.2.brought/\(0<=j.1/\j.1<=l.length/\ZP list (l.drop j.1.toNat) j.2=ZP list l ⟨[],[],[]⟩/\j.2.out.length<=3*j.1/\j.2.gone.length+j.2.brought.length+Zg (l.drop j.1.toNat)<=Zg l/\∀ o∈j.2.out,0<=o.n/\o.n<=j.1*1048576)/\((l.length:Int) - j.1).toNat < ((l.length:Int) - i).toNat):=by
   intro n hn he
   have h1:=ZkX s n
   have h2:=ZqF (s:=s) (n:=n) (B:=i*1048576) (K:=1048576) (by omega) hn g6
   refine ⟨(i+1,ZL s n),rfl,⟨by dsimp only;omega,by dsimp only;omega,he,by dsimp only;omega,by simp only [ZL,List.length_nil];omega,fun o ho=> ?_⟩,by dsimp only;omega⟩
   have:=h2 o ho
   dsimp only
   omega
  refine ⟨⟨g1,hi⟩,fun hk=> ?_,fun hk=> ⟨fun hk1=> ?_,fun hk1=> ⟨fun hk2=> ?_,fun hk2=> ⟨fun hk3=> ?_,fun hk3=> ?_⟩⟩⟩⟩
  ·rw [if_pos hk] at g3
   have h1:=Zd4 hr2 hk
   exact ⟨hP _ (by omega),by unfold InR;omega,hK _ (by omega) g3⟩
  ·rw [if_neg hk,if_pos hk1] at g3
   refine ⟨by simp only [Z7o];omega,by unfold InR;omega,(i+1,⟨s.out,s.gone++Z9 y1.l,s.brought⟩),rfl,⟨by dsimp only;omega,by dsimp only;omega,g3,by dsimp only;omega,?_,fun o ho=> ?_⟩,by dsimp only;omega⟩
   ·have:=Zt y1.l
    simp only [Q6,Z9,X9];omega
   ·have:=g6 o ho
    dsimp only;omega
  ·rw [if_neg hk,if_neg hk1,if_pos hk2] at g3
   refine ⟨by simp only [Z7o];omega,by unfold InR;omega,(i+1,⟨s.out,s.gone,s.brought++Z9 y1.l⟩),rfl,⟨by dsimp only;omega,by dsimp only;omega,g3,by dsimp only;omega,?_,fun o ho=> ?_⟩,by dsimp only;omega⟩
   ·have:=Zt y1.l
    simp only [Q6,Z9,X9];omega
   ·have:=g6 o ho
    dsimp only;omega
  ·rw [if_neg hk,if_neg hk1,if_neg hk2,if_pos hk3] at g3
   have hre:=Zd5 hr2 hk3
   rw [<-hy4] at hre
   have hw:=ZgR y4
   rw [<-hy5] at hw
   have h1:=YI y4
   have h2:=YB y4.kids
   have hmE:Z5 y4<=Zs y1:=by rw [hmo,hy4];omega
   refine ⟨by simp only [Z0B];exact ⟨by omega,d,hre⟩,by simp only [ZaY];omega,by simp only [Z47];omega,fun hq=> ?_,fun hq=> ?_⟩
   ·rw [if_pos hq] at g3
    exact ⟨hP 1 (by omega),by unfold InR;omega,hK 1 (by omega) g3⟩
   ·rw [if_neg (by rw [hq];simp)] at g3
    rw [hy3,Z0m]
    refine ⟨by simp only [Z0x];omega,by simp only [Q9,Qb];omega,by simp only [Q6,Q9,Qb];omega,by omega,by unfold InR;omega,(i+1,⟨(Z0 s).out++[⟨3,0,[],y5⟩],[],[]⟩),rfl,⟨by dsimp only;omega,by dsimp only;omega,g3,by simp;omega,by simp;omega,fun o ho=> ?_⟩,by dsimp only;omega⟩
    dsimp only at ho ⊢
    rcases Qf.1 ho with ho | ho
    ·rcases Z7O s o ho with h5 | h5
     ·have:=g6 o h5;omega
     ·omega
    ·simp only [Qi] at ho
     subst ho
     simp only;omega
  ·rw [if_neg hk,if_neg hk1,if_neg hk2,if_neg hk3] at g3
   refine ⟨by unfold InR;omega,(i+1,s),rfl,⟨by dsimp only;omega,by dsimp only;omega,g3,by dsimp only;omega,by dsimp only;omega,fun o ho=> ?_⟩,by dsimp only;omega⟩
   have:=g6 o ho
   dsimp only;omega
 ·rw [Qj (by omega)] at g3
  simp only [ZP] at g3
  refine ⟨by simp only [Z0x];omega,?_⟩
  simp only [Zf0]
  rw [<-g3]
  (repeat' (first | exact trivial | exact rfl | apply And.intro))
theorem b57:ZwH:=by
 intro N e _ hp hN
 simp only [Z0B,ZaY] at hp hN
 obtain ⟨p1,d,p3⟩:=hp
 have h1:=YI e
 have h2:=YB e.kids
 have h3:=Y9 e.ops
 have ha:=Z4c e
 refine Zx3 _ _ _ ?_
 (simp only [vcS])
 (simp only [Tree.eta,Edit.eta,Tree.kind_mk,Tree.words_mk,Tree.kids_mk])
 refine ⟨fun hk=> ⟨by simp only [Z04];omega,by simp only [Z04];omega,?_⟩,fun hk=> ⟨fun hk2=> ⟨by simp;omega,?_⟩,fun hk2=> ⟨fun hk3=> ⟨?_,by simp only [Zfv];omega,?_⟩,fun hk3=> ?_⟩⟩⟩
 ·rw [if_pos hk] at ha
  simp only [Z8e,ha]
  (repeat' (first | exact trivial | exact rfl | apply And.intro))
 ·rw [if_neg hk,if_pos hk2] at ha
  refine Za (ι:=Int × List Kid) (fun s=> Z2l e s.1 s.2) (fun s=> 0<=s.1/\s.1<=e.kids.length/\s.2.length=s.1/\s.2++JU (e.kids.drop s.1.toNat)=JU e.kids) (fun s=> ((e.kids.length:Int) - s.1).toNat) (0,[]) rfl ⟨by simp,by simp,by simp,by simp⟩ ?_
  rintro ⟨j,ks⟩ ⟨f1,f2,f3,f4⟩
  dsimp only at f1 f2 f3 f4
  refine Zpe _ _ _ _ _ _ ?_
  rintro y1 hy1 y2 hy2 y3 hy3
  (simp only [vcS])
  refine ⟨fun hj=> ?_,fun hj=> ?_⟩
  ·have hmem:=Zh (l:=e.kids) (i:=j.toNat) (by omega) (KidOf.mk 0 Edit.nil)
   have hm:=Jc hmem
   have hr:=ZkU p3 hk2 _ hmem
   rw [YL f1 hj (KidOf.mk 0 Edit.nil)] at f4
   rw [<-hy1] at f4 hm hr
   simp only [JU,Zcg] at f4
   rw [<-hy2] at f4 hm hr
   rw [<-hy3] at f4
   refine ⟨⟨f1,hj⟩,by simp only [Z0B];exact ⟨by omega,hr⟩,by simp only [ZaY];omega,by simp;omega,by unfold InR;omega,(j+1,ks++[⟨y1.at_,y3⟩]),rfl,⟨by dsimp only;omega,by dsimp only;omega,by simp;omega,?_⟩,by dsimp only;omega⟩
   simp only [Qe,Qs,QH]
   exact f4
  ·rw [Qj (by omega)] at f4
   simp only [JU,QN] at f4
   rw [f4]
   simp only [Z8e,ha]
   (repeat' (first | exact trivial | exact rfl | apply And.intro))
 ·simp only [Z8f]
  exact ⟨by omega,fun o ho=> ZmO p3 hk3 o ho⟩
 ·rw [if_neg hk,if_neg hk2,if_pos hk3] at ha
  simp only [Z8e,ha]
  (repeat' (first | exact trivial | exact rfl | apply And.intro))
 ·rw [if_neg hk,if_neg hk2,if_neg hk3] at ha
  simp only [Z8e,ha]
  (repeat' (first | exact trivial | exact rfl | apply And.intro))
theorem ZtK:Contract Try.prog cfg 57 Za6/\Contract Try.prog cfg 94 Zm0:=ZkO c71 Zog Zu8 Zld Zoe b57 b94
theorem ZqL{n:Nat}{rs:List ResultVar}{r r':V U}{X:List (List (C U))}{e:AExit}{s:LSt U}(hr:r=r')(h:Yw cfg n rs r' X e s):Yw cfg n rs r X e s:=by rw [hr];exact h
theorem Zcv(e:Edit):e.words.length+e.ops.length+ZN e.kids+Zg e.ops+Zj e.old+Zj e.new+1=Z5 e:=by obtain ⟨k,o,n,w,ks,l,os⟩:=e;simp only [Z5,Edit.words_mk,Edit.ops_mk,Edit.kids_mk,Edit.old_mk,Edit.new_mk];omega
theorem Zcs(t:Tree):1<=Zj t:=by obtain ⟨k,w,ks⟩:=t;simp only [Zj];omega
theorem JI{e:Edit}(h:JR e):Z5 e<=9000000000:=QY (ZdQ e) h.1
theorem Zig{e:Edit}(h:JR e):Zpu e.ops:=by
 obtain ⟨m,r,d,hr⟩:=h
 have:=Z3S e
 exact ⟨by omega,(Yg r).2.2.2.2,fun o ho=> ⟨_,_,rightOs_mem (Zr hr).ops ho⟩⟩
theorem Zfi{l:List Op}{o:Op}(h:Part l o)(ho:ZO o)(hl:Z1b l):Z1D o:=by
 obtain ⟨o',m,k,e1,_,lt⟩:=h
 have G:=Z0I (Z0U hl m)
 obtain ⟨kk,nn,ll,ee⟩:=o
 have k:kk=o'.kind:=k
 have e1:ee=o'.e:=e1
 have lt:∀ t∈ll,t∈o'.l:=lt
 refine ⟨by rw [k];exact G.1,?_,Zd3 fun t ht=> Z0p G.2.2.1 (lt t ht),by rw [e1];exact G.2.2.2⟩
 rcases ho with h | h | h
 ·have:=h.2.2.1
  unfold InR
  dsimp only at this
  omega
 ·have h2:nn=0:=h.2.1
  rw [h2];exact Yt (by decide) (by decide)
 ·have h2:nn=0:=h.2.1
  rw [h2];exact Yt (by decide) (by decide)
theorem Z9q{l:List Op}{o:Op}(h:Part l o):Z2W o<=YJ l/\Zs o<=Zg l:=by
 obtain ⟨o',m,k,e1,hm,_⟩:=h
 have h1:=Zbp m
 have h2:=ZT m
 have a:=Z1K o
 rw [ZK,ZK,e1] at hm
 rw [e1] at a
 rw [ZK] at h2
 rw [ZK,e1]
 omega
theorem ZaO{l:List Op}{o:Op}(h:Part l o)(hl:∀ o∈l,∃ list d,Zf list o d=true)(k3:o.kind=3):∃ d,Z6 o.e d=true:=by
 obtain ⟨o',m,k,e1,hm,_⟩:=h
 obtain ⟨list,d,hr⟩:=hl o' m
 exact ⟨d,by rw [e1];exact J3 hr (by omega)⟩
theorem ZrK{p:List Op}(hp:Zpu p):Z7w p:=by
 refine ⟨fun o ho=> ?_,?_⟩
 ·obtain ⟨_,_,h⟩:=hp.2.2 o ho
  exact Zal h
 ·have:=Z7A p
  have:=hp.1
  omega
theorem Z77{α:Type}{l:List α}{i:Nat}(h:i < l.length)(d:α):l.take (i+1)=l.take i++[l.getD i d]:=by
 rw [QP h,Qm,Q0 h];try rfl
theorem Z2f(o:Op):Z4 o.l<=Z2W o:=by rw [Z1K];omega
theorem Zif{e:Edit}(h:JR e):Wk e:=by obtain ⟨d,hr⟩:=h.2.2;exact .of hr h.2.1
theorem kids_sum:∀ {l:List Op},(∀ o∈l,ZO o)->Z1V l<=Yy l+Y7 l
 | [],_=> by simp [Z1V,Yy,Y7]
 | o ::r,h=> by
  have h1:=Zw (h o Q5)
  have h2:=kids_sum fun x hx=> h x (Q4 _ hx)
  simp only [Z1V,Yy,Y7]
  split <;> split <;> omega
theorem Z3o:JR Edit.nil:=by
 refine ⟨by decide,?_,1,ZkE⟩
 exact ⟨Yt (by decide) (by decide),Z7d,Z7d,by simp [Edit.nil],Yt (by decide) (by decide),trivial,trivial⟩
theorem Zo3{e:Edit}(h:Jt e=true):Z5 e<=3000/\Z6 e 64=true:=by
 simp only [Jt,Q1,decide_eq_true_eq] at h
 exact ⟨Z7R h.1.1,h.1.2⟩
theorem ZgO{r:Bool}{e:Edit}{t:Tree}(hr:∃ d,Z6 e d=true)(ht:Zj t+ctE e<=200000000000):Zj (Z32 (doE r e t))<=1000000000000:=by
 cases h:doE r e t with
 | none=> simp [Z32,Tree.nil,Zj,Z4]
 | some u=> exact Zg3 hr ht h
theorem ZgN(o:Option Tree):Z32 (o.map Z7)=Z7 (Z32 o):=by cases o;exact Zcj.symm;rfl
theorem ZgW{e:Edit}{t:Tree}(hr:∃ d,Z6 e d=true)(ht:Zj t+ctE e<=200000000000):Zj (Z32 ((doE false e t).map Z7))<=1000000000000:=by
 rw [ZgN]
 exact QY (J8 _) (ZgO hr ht)
theorem ZfW{e:Edit}(h:Jt e=true)(g:Yz e):ZvZ e/\Z5 e<=3000/\Z6 e 64=true:=by
 obtain ⟨m,r⟩:=Zo3 h
 have hl:ZU e=true:=by
  simp only [Jt,Q1] at h
  exact h.2
 have:=ZlU _ e (Qd _) ⟨64,r⟩ hl
 exact ⟨⟨by omega,g,64,r⟩,m,r⟩
noncomputable section
def Zcw(w:WEdit)(m:Int):WEdit × Bool:=
 (⟨w.at_,Z2Z m w.mask,mix 0 w.old (Z2Z m w.mask),mix 0 w.new (Z2Z m w.mask)⟩,decide (Z2Z m w.mask≠0))
def Yx(p q:WEdit):Bool:=decide (mix 0 p.old (Z2Z p.mask q.mask)≠mix 0 q.old (Z2Z p.mask q.mask))
def Z07(p q:WEdit):Bool:=decide (mix 0 p.new (Z2Z p.mask q.mask)≠mix 0 q.new (Z2Z p.mask q.mask))
def Z36(l:List Tree):List Op:=if l=[] then [] else [⟨2,0,l,Edit.nil⟩]
def Z4L(e:Edit):Op:=if e.kind=0 then ⟨0,1,[],Edit.nil⟩ else ⟨3,0,[],e⟩
end
end Go.AM.Ytpjenobkibfpcaa
namespace Go.AM
instance:Inhabited PStep:=⟨⟨0,0⟩⟩
def Jx(n:Int):List Op:=if n=0 then [] else [⟨0,n,[],Edit.nil⟩]
def Zs5(s:PStep)(t:Tree):Prop:=s.kind=0/\0<=s.at_/\(t.kind=1/\s.at_ < 65535\/(2<=t.kind/\t.kind<=9)/\s.at_ < t.kids.length)
instance (s:PStep) (t:Tree):Decidable (Zs5 s t):=by unfold Zs5;infer_instance
end Go.AM
namespace Go.AM.Ytpjenobkibfpcaa
open Go.AM Go.Proofs
noncomputable section
structure Lft where
 x:Edit
 y:Edit
 c:Bool
 a:Bool
def ZkC(m:Int):Int:=IntKind.wrap .u8 (BitVec.ofInt (IntKind.bits .u8) 255 ^^^ BitVec.ofInt (IntKind.bits .u8) m).toNat
def Z3K{α:Type}(at_:α->Int)(l:List α)(n:Int):Option α:=l.foldl (fun o b=> if at_ b=n then some b else o) none
def Jj{α:Type}(at_:α->Int)(f:α->α->α)(q:List α)(a:α):α:=match Z3K at_ q (at_ a) with
 | some b=> f a b
 | none=> a
def Z02{α:Type}(at_:α->Int)(g:α->α->Bool)(p q:List α):Bool:=p.any fun a=> q.any fun b=> decide (at_ a=at_ b) && g a b
def Z3I(a b:WEdit):WEdit:=(Zcw a (ZkC b.mask)).1
def Z3i(e:Edit):Edit:=
 if (e.words.filter fun w=> !decide (w.mask=0)).length+(e.kids.filter fun k=> !decide (k.e.kind=0)).length=0 then Edit.nil
 else .mk e.kind e.old e.new (e.words.filter fun w=> !decide (w.mask=0)) (e.kids.filter fun k=> !decide (k.e.kind=0)) e.list e.ops
def JO(e:Edit)(o n:Tree):Lft:=⟨Edit.nil,Edit.nil,(doB e o).2 && !Y3 (Z7 (doB e o).1) (Z7 n),!(doB e o).2⟩
def Z3b(f:Edit->Edit->Lft)(p q:Edit):Lft:=
 ⟨Z3i (.mk 2 Tree.nil Tree.nil (p.words.map (Jj WEdit.at_ Z3I q.words)) (p.kids.map (Jj KidOf.at_ (fun a b=> ⟨a.at_,(f a.e b.e).x⟩) q.kids)) 0 []),
  Z3i (.mk 2 Tree.nil Tree.nil (q.words.map (Jj WEdit.at_ Z3I p.words)) (q.kids.map (Jj KidOf.at_ (fun b a=> ⟨b.at_,(f a.e b.e).y⟩) p.kids)) 0 []),
  Z02 WEdit.at_ (fun a b=> !Yx a b && Z07 a b) p.words q.words || Z02 KidOf.at_ (fun a b=> (f a.e b.e).c) p.kids q.kids,
  Z02 WEdit.at_ Yx p.words q.words || Z02 KidOf.at_ (fun a b=> (f a.e b.e).a) p.kids q.kids⟩
structure PL where
 x:List Op
 y:List Op
 c:Bool
 a:Bool
def PL.app(s t:PL):PL:=⟨s.x++t.x,s.y++t.y,s.c || t.c,s.a || t.a⟩
def YX(m h:List Tree):PL:=
 if m≠[]/\h≠[] then ⟨Jx h.length,Jx m.length,!Z7S m h,false⟩
 else ⟨Z36 m++Jx h.length,Jx m.length++Z36 h,false,false⟩
def Zz(f:Edit->Edit->Lft)(p q:Op):PL:=
 if p.kind=0/\q.kind=1 then ⟨[],[q],false,false⟩
 else if p.kind=1/\q.kind=0 then ⟨[p],[],false,false⟩
 else if p.kind=0 then ⟨[⟨0,if q.n < 1 then 1 else q.n,[],Edit.nil⟩],[q],false,false⟩
 else if q.kind=0 then ⟨[p],[⟨0,1,[],Edit.nil⟩],false,false⟩
 else if p.kind=1/\q.kind=1 then ⟨[],[],false,!Z7S p.l q.l⟩
 else if p.kind=1 then ⟨[],[],true,!(doE false q.e (p.l.getD 0 Tree.nil)).isSome⟩
 else if q.kind=1 then ⟨[],[],true,!(doE false p.e (q.l.getD 0 Tree.nil)).isSome⟩
 else ⟨[Z4L (f p.e q.e).x],[Z4L (f p.e q.e).y],(f p.e q.e).c,(f p.e q.e).a⟩
def Z0a(f:Edit->Edit->Lft):List Piece->List Tree->List Tree->PL
 | [],m,h=> YX m h
 | x ::r,m,h=>
  if x.of=1 then Z0a f r (m++x.p.l) h
  else if x.of=2 then Z0a f r m (h++x.q.l)
  else ((YX m h).app (Zz f x.p x.q)).app (Z0a f r [] [])
def Z1c(list:Int)(l:List Op):Edit:=if (l.any fun o=> !decide (o.kind=0))=true then .mk 3 Tree.nil Tree.nil [] [] list l else Edit.nil
def Z35(f:Edit->Edit->Lft)(p q:Edit):Lft:=
 if (ZG 2 2 p.ops q.ops []).2.1=true then
  ⟨Z1c p.list (Z0a f (ZG 2 2 p.ops q.ops []).1 [] []).x,Z1c p.list (Z0a f (ZG 2 2 p.ops q.ops []).1 [] []).y,(Z0a f (ZG 2 2 p.ops q.ops []).1 [] []).c,(Z0a f (ZG 2 2 p.ops q.ops []).1 [] []).a⟩
 else ⟨Edit.nil,Edit.nil,false,true⟩
def Ya(f:Edit->Edit->Lft)(p q:Edit):Lft:=
 if p.kind=0\/q.kind=0 then ⟨p,q,false,false⟩
 else if p.kind=1 then JO q p.old p.new
 else if q.kind=1 then JO p q.old q.new
 else if p.kind≠q.kind\/p.list≠q.list then ⟨Edit.nil,Edit.nil,false,true⟩
 else if p.kind=2 then Z3b f p q
 else Z35 f p q
def lbF:Nat->Edit->Edit->Lft
 | 0,_,_=> ⟨Edit.nil,Edit.nil,false,false⟩
 | n+1,p,q=> Ya (lbF n) p q
def lbE(p q:Edit):Lft:=lbF (Z5 p+Z5 q) p q
def lbN(p q:Edit):Edit × Edit × Int:=
 if (lbE (ZE p) (ZE q)).a=true then (Edit.nil,Edit.nil,14)
 else if (lbE (ZE p) (ZE q)).c=true then (Edit.nil,Edit.nil,13)
 else (ZE (lbE (ZE p) (ZE q)).x,ZE (lbE (ZE p) (ZE q)).y,0)
def YC{α:Type}(f:α->Bool):List α->Int->Int
 | [],_=> -1
 | a ::r,i=> if f a=true then i else YC f r (i+1)
end
end Go.AM.Ytpjenobkibfpcaa
