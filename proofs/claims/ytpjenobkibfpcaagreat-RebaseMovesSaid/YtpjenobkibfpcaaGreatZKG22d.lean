import Derived.Test.YtpjenobkibfpcaaGreatZKG21b
import Derived.Test.YtpjenobkibfpcaaGreatZCL25i
import Derived.Test.YtpjenobkibfpcaaGreatZKG22a
set_option linter.unusedSimpArgs false
set_option linter.unusedVariables false
namespace Go.AM.YtpjenobkibfpcaaGreat
open Go.AM Go.Proofs
theorem Zxq:Contract Tryz.prog cfg 117 Z45:=by
 refine ZvY ?_
 intro l _ hp
 simp only [Zl5] at hp
 refine ZCZ _ _ ⟨fun h=> ?_,fun _=> ⟨by simp only [Q8];omega,?_⟩⟩
 .subst h
  simp only [Z9m]
  exact JP
 .simp only [Z9m]
  exact JP
theorem ZEy:Contract Tryz.prog cfg 175 Z6w:=by
 refine Zzm ?_
 intro l _ hp
 simp only [Zf8] at hp
 refine ZGz _ _ ⟨fun h=> ?_,fun _=> ⟨by simp only [Q8];omega,?_⟩⟩
 .subst h
  simp only [Zdo]
  exact JP
 .simp only [Zdo]
  exact JP
theorem ZgJ{α:Type}(z:α){l:List α}{i:Nat}(h:i < l.length)(x:α):Yj z l i x=l.set i x:=by
 simp only [Yj];rw [show i+1 - l.length=0 by omega];simp
theorem ZbM{α:Type}(z:α){l:List α}{i:Nat}(h:l.length<=i)(x:α):Yj z (l++[z]) i x=Yj z l i x:=by
 simp only [Yj,Q7,Qt,Qa]
 rw [show i+1 - l.length=(i+1 - (l.length+1))+1 by omega,XP]
 try rfl
theorem ZvS(t:Tree):t.words.length+Z9 t.kids+1=Zm t:=by obtain ⟨k,w,ks⟩:=t;simp only [Zm,Tree.words_mk,Tree.kids_mk];omega
theorem Zi2{t:Tree}(h:rng t):InR t.kind/\(∀ x∈t.words,isW x)/\Jt t.kids:=by obtain ⟨k,w,ks⟩:=t;exact h
theorem Zde{ks:List Tree}(h:Jt ks)(i:Nat):rng (ks.getD i Tree.nil):=by
 by_cases hi:i < ks.length
 .exact JX h (Ze hi _)
 .rw [Qg,QA YS]
  refine ⟨V1,by simp [Tree.nil],trivial⟩
theorem Z4h(ks:List Tree)(i:Nat):Zm (ks.getD i Tree.nil)<=Z9 ks+1:=by
 by_cases hi:i < ks.length
 .have:=YN (Ze hi Tree.nil);omega
 .rw [Qg,QA YS]
  simp [Tree.nil,Zm,Z9]
theorem Zbn(t:Tree){i:Int}(h:0<=i):JC t i=t.kids.getD i.toNat Tree.nil:=by unfold JC;rw [JL]
theorem Z4J(t:Tree){i:Int}(h:0<=i):YF t i=t.words.getD i.toNat 0:=by unfold YF;rw [JL]
theorem Zol{l:List Int}(h:∀ x∈l,isW x)(i:Nat):isW (l.getD i 0):=by
 by_cases hi:i < l.length
 .exact h _ (Ze hi _)
 .rw [Qg,QA YS];show 0<=(0:Int)/\(0:Int) < _;omega
theorem b74:ZIn:=by
 intro N e t _ hp hN
 simp only [Z4c,Zgr] at hp hN
 obtain ⟨⟨p1,p2,d,p3⟩,p4,p5⟩:=hp
 have h1:=YC e
 have h2:=Z4R p2
 have hd:=Z8y false e t
 rw [Z6Q] at hd
 refine ZID _ _ _ _ ?_
 rintro y1 hy1 y2 hy2 y3 hy3
 subst hy1 hy2 hy3
 (simp only [iB,vcT,vcS])
 refine ⟨fun hk=> ?_,fun hk=> ⟨fun hk1=> ⟨by simp only [Z23];omega,?_⟩,fun hk1=> ⟨fun hk2=> ⟨by simp only [Z52];exact ⟨hk2,⟨p1,p2,d,p3⟩,p4,p5⟩,by simp only [Zca];omega,?_⟩,fun hk2=> ⟨fun hk3=> ⟨by simp only [Z51];exact ⟨hk3,⟨p1,p2,d,p3⟩,p4,p5⟩,by simp only [Zca];omega,?_⟩,fun hk3=> ?_⟩⟩⟩⟩
 .rw [if_pos hk] at hd
  simp only [Z5J,ZcD,if_pos hk,hd]
  exact JP
 .rw [if_neg hk,if_pos hk1] at hd
  simp only [Z5J,ZcD,if_neg hk,if_pos hk1,hd]
  cases ZU (Z4 y1.old) (Z4 y2) <;> (repeat' (first | exact trivial | exact rfl | apply And.intro))
 .rw [if_neg hk,if_neg hk1,if_pos hk2] at hd
  simp only [Z5J,ZcD,if_neg hk,if_neg hk1,if_pos hk2,hd]
  exact JP
 .rw [if_neg hk,if_neg hk1,if_neg hk2,if_pos hk3] at hd
  simp only [Z5J,ZcD,if_neg hk,if_neg hk1,if_neg hk2,if_pos hk3,hd]
  have e2:(if y2.kind=y1.list then (Z3l (Z0Z false y1.ops y2.kids [])).map fun b=> Tree.mk y1.list [] b else none).isSome=(Z3l (Z0o false y1 y2)).isSome:=by
   unfold Z0o
   split
   .cases Z3l (Z0Z false y1.ops y2.kids []) <;> rfl
   .try rfl
  rw [e2]
  exact JP
 .rw [if_neg hk,if_neg hk1,if_neg hk2,if_neg hk3] at hd
  simp only [Z5J,ZcD,if_neg hk,if_neg hk1,if_neg hk2,if_neg hk3,hd]
  exact JP
theorem ZF9:ZCM:=by
 intro N e t _ hp hN
 simp only [Z52,Zca] at hp hN
 obtain ⟨k2,⟨p1,p2,d,p3⟩,p4,p5⟩:=hp
 have h1:=YC e
 have h2:=YQ e.kids
 have h3:=ZvS t
 have h4:=Zq t.kids
 have r2:=Z4R p2
 have rt:=Zi2 p5
 have ri:=Zj p3
 refine ZH9 _ _ _ _ ?_
 (simp only [iB,vcT,vcS])
 have no:Z2U false e t=none->Y3 cfg Tryz.f115.ntmps Tryz.f115.results.toList (Z4V (e,t,())) [] .ret (⟨[(4,.ptr (.loc 4) 0),(5,.c (.bool false))],[((.loc 4),[.int .i64 0,.nils,.nils])],[]⟩:LSt U):=by
  intro hs
  simp only [Z4V,hs]
  exact JP
 refine ⟨fun hk=> no (by unfold Z2U;rw [if_neg hk]),fun hk=> ?_⟩
 have hk:t.kind=1:=by simpa using hk
 refine ⟨by simp only [Zl5];omega,by simp only [Zf8];omega,?_⟩
 refine Z5 (ι:=Int × List Int) (fun s=> Z7o e t s.1 s.2) (fun s=> 0<=s.1/\s.1<=e.words.length/\wsD t.words (e.words.drop s.1.toNat) s.2=wsD t.words e.words t.words/\s.2.length<=t.words.length+65536) (fun s=> ((e.words.length:Int) - s.1).toNat) (0,t.words) rfl ⟨by simp,by simp,by simp,by simp⟩ ?_
 rintro ⟨i,out⟩ ⟨f1,f2,f3,f4⟩
 dsimp only at f1 f2 f3 f4
 refine Zu7 _ _ _ _ _ _ _ ?_
 rintro y1 hy1 y2 hy2
 subst hy1
 (simp only [iB,vcT,vcS])
 refine ⟨fun hi=> ?_,fun hi=> ?_⟩
 .have hmem:=Ze (l:=e.words) (i:=i.toNat) YS (WEdit.mk 0 0 0 0)
  rw [ZQ f1 hi (WEdit.mk 0 0 0 0),<-hy2] at f3
  rw [<-hy2] at hmem
  have hw:=Yu ri.words y2 hmem
  obtain ⟨g1,g2,g3,g4⟩:=r2.2.2.2.1 y2 hmem
  have hat:YF y1 y2.at_=y1.words.getD y2.at_.toNat 0:=Z4J y1 YS
  have hwi:=Zol rt.2.1 y2.at_.toNat
  rw [wsD] at f3
  rw [hat]
  unfold isW at g3 g4 hwi
  refine ⟨⟨f1,hi⟩,by simp only [ZaT],by simp only [Z13];omega,fun hne=> no ?_,fun heq=> ?_⟩
  .rw [if_neg hne] at f3
   unfold Z2U
   rw [if_pos hk,<-f3]
   try rfl
  .have heq:mix 0 (y1.words.getD y2.at_.toNat 0) y2.mask=y2.old:=by simpa using heq
   rw [if_pos heq] at f3
   refine Z5 (ι:=List Int) (fun s=> Z7n e y1 i s) (fun s=> (∀ v,Yj 0 s y2.at_.toNat v=Yj 0 out y2.at_.toNat v)/\s.length<=y1.words.length+65536) (fun s=> (y2.at_+1 - s.length).toNat) out rfl ⟨fun v=> rfl,f4⟩ ?_
   rintro s ⟨q1,q2⟩
   refine Zu6 _ _ _ _ _ _ _ _ ?_
   (simp only [Tree.eta,Edit.eta,Tree.kind_mk,Tree.words_mk,Tree.kids_mk])
   rw [<-hy2,hat]
   (simp only [iB,vcT,vcS])
   refine ⟨fun hl=> ⟨by simp;omega,s++[0],rfl,⟨fun v=> ?_,by simp;omega⟩,by simp;omega⟩,fun hl=> ?_⟩
   .rw [ZbM 0 YS,q1]
   .have hl:y2.at_ < s.length:=YS
    refine ⟨by simp only [Z13];omega,YS,YS,V3,(i+1,s.set y2.at_.toNat (mix (y1.words.getD y2.at_.toNat 0) y2.new y2.mask)),rfl,⟨V2,V2,?_,by simp only [List.length_set];omega⟩,V2⟩
    dsimp only
    rw [<-f3,<-ZgJ 0 YS,q1]
 .rw [Q9 YS,wsD] at f3
  refine Z5 (ι:=Int × List Tree) (fun s=> Z7m e y1 out s.1 s.2) (fun s=> 0<=s.1/\s.1<=e.kids.length/\Z5f false y1.kids (e.kids.drop s.1.toNat) s.2=Z5f false y1.kids e.kids y1.kids/\s.2.length<=y1.kids.length+65536) (fun s=> ((e.kids.length:Int) - s.1).toNat) (0,y1.kids) rfl ⟨by simp,by simp,by simp,by simp⟩ ?_
  rintro ⟨j,ks⟩ ⟨e1,e2,e3,e4⟩
  dsimp only at e1 e2 e3 e4
  refine Zu5 _ _ _ _ _ _ _ _ ?_
  rintro y1 hy1 y2 hy2 y3 hy3 y4 hy4
  subst hy1
  (simp only [iB,vcT,vcS])
  refine ⟨fun hj=> ?_,fun hj=> ?_⟩
  .have hmem:=Ze (l:=e.kids) (i:=j.toNat) YS (KidOf.mk 0 Edit.nil)
   rw [ZQ e1 hj (KidOf.mk 0 Edit.nil),<-hy2] at e3
   rw [<-hy2] at hmem
   have hk2:=Zp ri.kids y2 hmem
   have hm:=Jn hmem
   have hct:=Z6j hmem
   have hca:=JO e
   have hr:=(Yz r2.2.2.2.2.2.1 hmem).2
   have hat:JC y1 y2.at_=y1.kids.getD y2.at_.toNat Tree.nil:=Zbn y1 YS
   rw [hat] at hy4
   have hm4:=Z4h y1.kids y2.at_.toNat
   have hr4:=Zde rt.2.2 y2.at_.toNat
   rw [Z5f,Zm2,<-hy4,<-hy3] at e3
   rw [<-hy4] at hm4 hr4
   rw [<-hy3] at hm hr hk2 hct
   refine ⟨⟨e1,hj⟩,by simp only [ZaT],by simp only [Z4c];exact ⟨⟨YS,hr,_,hk2.2⟩,YS,hr4⟩,by simp only [Zgr];omega,fun hne=> no ?_,fun heq=> ?_⟩
   .have hne:doE false y3 y4=none:=by simpa using hne
    rw [hne] at e3
    unfold Z2U
    rw [if_pos hk,<-f3,<-e3]
    try rfl
   .obtain ⟨u,hu⟩:=QI.1 heq
    rw [hu,QD] at e3
    refine Z5 (ι:=List Tree) (fun s=> Z7l e y1 out j s) (fun s=> (∀ v,Yj Tree.nil s y2.at_.toNat v=Yj Tree.nil ks y2.at_.toNat v)/\s.length<=y1.kids.length+65536) (fun s=> (y2.at_+1 - s.length).toNat) ks rfl ⟨fun v=> rfl,e4⟩ ?_
    rintro s ⟨q1,q2⟩
    refine Zu4 _ _ _ _ _ _ _ _ _ ?_
    rintro z1 hz1 z2 hz2 z3 hz3 z4 hz4 z5 hz5
    rw [<-hy2] at hz2
    subst hz1 hz2
    rw [<-hy3] at hz3
    subst hz3
    rw [hat,<-hy4] at hz4
    subst hz4
    rw [Zb3 hu] at hz5
    subst hz5
    (simp only [iB,vcT,vcS])
    refine ⟨fun hl=> ⟨by simp;omega,s++[Tree.nil],rfl,⟨fun v=> ?_,by simp;omega⟩,by simp;omega⟩,fun hl=> ?_⟩
    .rw [ZbM Tree.nil YS,q1]
    .have hl:z2.at_ < s.length:=YS
     refine ⟨YS,YS,V3,(j+1,s.set z2.at_.toNat z5),rfl,⟨V2,V2,?_,by simp only [List.length_set];omega⟩,V2⟩
     dsimp only
     rw [<-e3,<-ZgJ Tree.nil YS,q1]
  .rw [Q9 YS,Z5f] at e3
   have hs:Z2U false e y1=some (.mk 1 out ks):=by
    unfold Z2U
    rw [if_pos hk,<-f3,<-e3]
    try rfl
   simp only [Z4V,hs]
   exact JP
theorem Zhx(r:Bool)(o:Op)(s:List Op)(rest out:List Tree):Z0Z r (o ::s) rest out=(ZjJ r o rest out).bind fun x=> Z0Z r s x.2 x.1:=by rw [Z0Z]
theorem Z2B{ks:List Tree}(h:Jt ks)(n:Nat):Jt (ks.drop n):=by
 induction n generalizing ks with
 | zero=> exact h
 | succ n ih=> cases ks with
  | nil=> exact h
  | cons a r=> exact ih h.2
theorem ZF8:ZCL:=by
 intro N e t _ hp hN
 simp only [Z51,Zca] at hp hN
 obtain ⟨k3,⟨p1,p2,d,p3⟩,p4,p5⟩:=hp
 have h1:=YC e
 have h2:=Y0 e.ops
 have h3:=ZvS t
 have h4:=Zq t.kids
 have r2:=Z4R p2
 have rt:=Zi2 p5
 have ri:=Zj p3
 refine ZH8 _ _ _ _ ?_
 (simp only [iB,vcT,vcS])
 have no:Z0o false e t=none->Y3 cfg Tryz.f116.ntmps Tryz.f116.results.toList (Z4U (e,t,())) [] .ret (⟨[(4,.ptr (.loc 4) 0),(5,.c (.bool false))],[((.loc 4),[.int .i64 0,.nils,.nils])],[]⟩:LSt U):=by
  intro hs
  simp only [Z4U,hs]
  exact JP
 refine ⟨fun hk=> no (by unfold Z0o;rw [if_neg hk]),fun hk=> ?_⟩
 have hk:t.kind=e.list:=by simpa using hk
 have hl0:Z0o false e t=Z0Z false e.ops t.kids []:=by unfold Z0o;rw [if_pos hk]
 refine Z5 (ι:=Int × List Tree × List Tree) (fun s=> Z1C e t s.1 s.2.2 s.2.1)
  (fun s=> 0<=s.1/\s.1<=e.ops.length/\Z0Z false (e.ops.drop s.1.toNat) s.2.2 s.2.1=Z0o false e t/\s.2.1.length+s.2.2.length+Zg (e.ops.drop s.1.toNat)<=t.kids.length+Zg e.ops/\Z9 s.2.2<=Z9 t.kids/\Jt s.2.2)
  (fun s=> ((e.ops.length:Int) - s.1).toNat) (0,[],t.kids) rfl ⟨by simp,by simp,by simp [hl0],by simp,by simp,rt.2.2⟩ ?_
 rintro ⟨i,out,rest⟩ ⟨f1,f2,f3,f4,f5,f6⟩
 dsimp only at f1 f2 f3 f4 f5 f6
 refine Zu2 _ _ _ _ _ _ _ _ ?_
 rintro y1 hy1
 (simp only [iB,vcT,vcS])
 refine ⟨fun hi=> ?_,fun hi=> ?_⟩
 .have hmem:=Ze (l:=e.ops) (i:=i.toNat) YS Op.nil
  rw [ZQ f1 hi Op.nil,<-hy1] at f3 f4
  rw [<-hy1] at hmem
  have hr:=Go.AM.rightOs_mem ri.ops y1 hmem
  have hm:=ZZ hmem
  have hct:=Z6i hmem
  have hca:=JO e
  have hme:=ZI y1
  have hro:=Z0y (Z0M r2.2.2.2.2.2.2 hmem)
  have hml:=Zq y1.l
  simp only [Zg] at f4
  rw [Zhx,ZqO] at f3
  have go:∀ (x:List Tree) (m:List Tree) (v:V U) N0 Q',Z0Z false (e.ops.drop (i+1).toNat) x m=Z0o false e t->m.length+x.length+Zg (e.ops.drop (i+1).toNat)<=t.kids.length+Zg e.ops->Z9 x<=Z9 t.kids->Jt x->
    (∀ s2,s2=Z1C e t (i+1) x m->N0 s2)->ZbF N [1,1,1,1,0,1,0,0,1,1,1] (Z2R e t i x m v) (AExit.then N0 (AExit.inBlock 0 (Zka N [1,1,1,1,1] Q'))):=by
   intro x m v N0 Q' a1 a2 a3 a4 a5
   exact Zu3 _ _ _ _ _ _ _ _ _ ⟨V3,a5 _ rfl⟩
  have fin:∀ (x m:List Tree),Z0Z false (e.ops.drop (i+1).toNat) x m=Z0o false e t->m.length+x.length+Zg (e.ops.drop (i+1).toNat)<=t.kids.length+Zg e.ops->Z9 x<=Z9 t.kids->Jt x->∀ s2,s2=Z1C e t (i+1) x m->
    ∃ j:Int × List Tree × List Tree,s2=Z1C e t j.1 j.2.2 j.2.1/\(0<=j.1/\j.1<=e.ops.length/\Z0Z false (e.ops.drop j.1.toNat) j.2.2 j.2.1=Z0o false e t/\j.2.1.length+j.2.2.length+Zg (e.ops.drop j.1.toNat)<=t.kids.length+Zg e.ops/\Z9 j.2.2<=Z9 t.kids/\Jt j.2.2)/\((e.ops.length:Int) - j.1).toNat < ((e.ops.length:Int) - i).toNat:=by
   rintro x m a1 a2 a3 a4 _ rfl
   exact ⟨(i+1,m,x),rfl,⟨V2,V2,a1,a2,a3,a4⟩,V2⟩
  have r1:=J1 hr
  have ht:∀ n:Nat,(rest.take n).length<=rest.length/\(rest.take n).length+(rest.drop n).length=rest.length:=by
   intro n
   simp only [Qj,Qk];omega
  refine ⟨⟨f1,hi⟩,fun hk2=> ⟨YS,?_⟩,fun hk2=> ⟨fun hk1=> ?_,fun hk1=> ⟨fun hk3=> ?_,fun hk3=> ?_⟩⟩⟩
  .rw [JL,JL,if_pos hk2,QD] at f3
   exact go _ _ _ _ _ f3 (by simp only [Q7];omega) f5 f6 (fin _ _ f3 (by simp only [Q7];omega) f5 f6)
  .refine ZdZ _ _ _ _ _ _ _ _ _ _ ?_
   rintro z1 hz1 z2 hz2 z3 hz3 z4 hz4 z5 hz5 z6 hz6
   rw [<-hy1] at hz1
   subst hz1
   rw [JL,if_pos hk1] at f3
   (simp only [iB,vcT,vcS])
   rw [Xd] at hz5
   rw [Xd]
   refine ⟨fun hs=> no ?_,fun hs=> ⟨YS,YS,fun h=> by omega,fun _=> ⟨fun _=> ⟨?_,fun hq=> no ?_,fun hq=> ?_⟩,fun h=> absurd hk1 h⟩⟩⟩
   .have:Z5n z1.l rest=false:=by unfold Z5n;rw [decide_eq_false YS];try rfl
    rw [this,if_neg (by simp)] at f3
    exact f3.symm
   .have:=ZfJ z1.l.length rest
    simp only [Z8i];omega
   .have:Z5n z1.l rest=false:=by unfold Z5n;rw [<-hz5,hq];simp
    rw [this,if_neg (by simp)] at f3
    exact f3.symm
   .have:Z5n z1.l rest=true:=by unfold Z5n;rw [<-hz5,hq,decide_eq_true YS];try rfl
    rw [this,if_pos rfl,QD] at f3
    have hd:=Z39 z1.l.length rest
    have ht1:=ht z1.l.length
    exact go _ _ _ _ _ f3 YS YS (Z2B f6 _) (fin _ _ f3 YS YS (Z2B f6 _))
  .refine ZdZ _ _ _ _ _ _ _ _ _ _ ?_
   rintro z1 hz1 z2 hz2 z3 hz3 z4 hz4 z5 hz5 z6 hz6
   rw [<-hy1] at hz1
   subst hz1
   rw [JL,if_neg hk1,if_neg hk2] at f3
   (simp only [iB,vcT,vcS])
   rw [show Int.toNat 1=1 from rfl]
   refine ⟨fun hs=> no ?_,fun hs=> ⟨YS,YS,fun h=> by omega,fun _=> ⟨fun h=> absurd h hk1,fun _=> ?_⟩⟩⟩
   .rw [V0] at f3
    exact f3.symm
   .have hz:z3=rest.getD 0 Tree.nil:=by
     rw [hz3,hz2]
     cases rest with
     | nil=> rfl
     | cons a r=> rfl
    rw [JL,<-hz,<-hz4] at f3
    have hm3:=Z4h rest 0
    have hr3:=Zde f6 0
    rw [<-hz] at hm3 hr3
    have hre:=J5 hr hk3
    rw [<-hz4] at hre hme hro hct
    refine ⟨?_,by simp only [Z4c];exact ⟨⟨YS,hro.2.2.2,_,hre⟩,YS,hr3⟩,by simp only [Zgr];omega,fun hne=> no ?_,fun heq=> ?_⟩
    .simp only [Qj];omega
    .have hne:doE false z4 z3=none:=by simpa using hne
     rw [hne] at f3
     exact f3.symm
    .obtain ⟨u,hu⟩:=QI.1 heq
     rw [Zb3 hu] at hz6
     subst hz6
     rw [hu,Qd,QD] at f3
     have hd:=Z39 1 rest
     have ht1:=ht 1
     have ht2:(rest.take 1).length=1:=by simp only [Qj];omega
     refine ⟨by simp only [Qt];omega,?_⟩
     exact go _ _ _ _ _ f3 (by simp only [Q7,Qt];omega) YS (Z2B f6 _) (fin _ _ f3 (by simp only [Q7,Qt];omega) YS (Z2B f6 _))
  .have hk0:y1.kind=0:=by cases r1 <;> first | rfl | (exfalso;simp at hk1 hk2 hk3)
   refine ZdZ _ _ _ _ _ _ _ _ _ _ ?_
   rintro z1 hz1 z2 hz2 z3 hz3 z4 hz4 z5 hz5 z6 hz6
   rw [<-hy1] at hz1
   subst hz1
   rw [if_pos hk0] at f3
   have hn:1<=z1.n/\z1.n<=1048576:=by cases r1 <;> first | (constructor <;> assumption) | (exfalso;simp at hk1 hk2 hk3 hk0)
   (simp only [iB,vcT,vcS])
   refine ⟨fun hs=> no ?_,fun hs=> ⟨YS,YS,fun _=> ⟨?_,?_⟩,fun h=> absurd hk0 h⟩⟩
   .rw [JL] at f3
    exact f3.symm
   .have:=(ht z1.n.toNat).1
    omega
   .rw [V0,QD] at f3
    have hd:=Z39 z1.n.toNat rest
    have ht1:=ht z1.n.toNat
    exact go _ _ _ _ _ f3 (by simp only [Q7];omega) YS (Z2B f6 _) (fin _ _ f3 (by simp only [Q7];omega) YS (Z2B f6 _))
 .rw [Q9 YS,Z0Z] at f3
  simp only [Z4U,<-f3,Zjb,Z3l,QD,hk]
  by_cases hr:rest.length=0
  .rw [if_pos hr,hr]
   exact JP
  .rw [if_neg hr,show ((rest.length:Int)==0)=false by rw [beq_eq_false_iff_ne];omega]
   exact JP
theorem ZJ0:Contract Tryz.prog cfg 74 ZaC/\Contract Tryz.prog cfg 115 ZoA/\Contract Tryz.prog cfg 116 Zoz:=ZyQ ZcL Zt4 Zt3 ZjO ZEy ZjP Zxq b74 ZF9 ZF8
theorem c74:Contract Tryz.prog cfg 74 ZaC:=ZJ0.1
theorem Zm3{r:Bool}{e:Edit}{t u:Tree}(hr:∃ d,Zb e d=true)(ht:Zm t+ctE e<=200000000000)(h:doE r e t=some u):Zm u<=1000000000000:=by
 obtain ⟨d,hr⟩:=hr
 have:=ZyP r e d t u hr h
 omega
theorem c25:Contract Tryz.prog cfg 25 Z5y:=by
 refine ZDK c75 c74 ?_
 intro e t _ hp
 simp only [Z4c] at hp
 refine ZIP _ _ _ ?_
 rintro y1 hy1 y2 hy2 y3 hy3
 subst hy1 hy2
 (simp only [iB,vcT,vcS])
 refine ⟨by simp only [Z4c];exact hp,fun hn=> ?_,fun hs=> ?_⟩
 .have hn:doE false y1 y2=none:=by simpa using hn
  simp only [ZoS,hn]
  exact JP
 .obtain ⟨u,hu⟩:=QI.1 hs
  rw [Zb3 hu] at hy3
  subst hy3
  have:=Zm3 hp.1.2.2 hp.2.1 hu
  refine ⟨by simp only [Jy];exact this,?_⟩
  simp only [ZoS,hu]
  exact JP
theorem ZEh:Contract Tryz.prog cfg 222 Z6u:=by
 refine Zz0 ?_
 intro t i _ hp
 simp only [Zf4] at hp
 refine ZGb _ _ _ ?_
 (simp only [iB,vcT,vcS])
 refine ⟨fun h=> ⟨⟨hp,h⟩,Yd rfl (Z4J t hp).symm⟩,fun h=> Yd rfl ?_⟩
 rw [Z4J t hp,Qg,QA YS]
 try rfl
theorem ZEg:Contract Tryz.prog cfg 223 Z6t:=by
 refine ZyZ ?_
 intro t i _ hp
 simp only [Zf4] at hp
 have hk:=Zbn t hp
 refine ZGa _ _ _ ?_
 (simp only [iB,vcT,vcS])
 simp only [Zij,hk]
 refine ⟨fun h=> ⟨⟨hp,h⟩,?_⟩,fun h=> ?_⟩
 ·exact JP
 .rw [Qg,QA YS]
  exact JP
theorem ZwI{r:Bool}{e:Edit}{t:Tree}{l:List Tree}(h:Z3l (Z0o r e t)=some l):Zjb e (Z0o r e t)= .mk e.list [] l:=by
 unfold Z3l at h
 obtain ⟨x,hx,hy⟩:=Xp.1 h
 rw [hx]
 split at hy
 .cases hy;rfl
 .cases hy
theorem ZF7:ZCK:=by
 intro N e t _ hp hN
 simp only [Z4c,Zgr] at hp hN
 obtain ⟨⟨p1,p2,d,p3⟩,p4,p5⟩:=hp
 have h1:=YC e
 have ri:=Zj p3
 have hd:=ZdE true e t
 have hm:=Z9H true e d t
 refine ZH4 _ _ _ _ ?_
 rintro y1 hy1 y2 hy2 y3 hy3 y4 hy4 y5 hy5 y6 hy6
 subst hy1 hy2 hy3 hy4
 (simp only [iB,vcT,vcS])
 simp only [iB,vcF]
 have big:∀ v,Zn3 true y1 y2=some v->Zm v<=1000000000000:=fun v hv=> by have:=hm v p3 hv;omega
 have no:Zn3 true y1 y2=none->Y3 cfg Tryz.f135.ntmps Tryz.f135.results.toList (Z3O (y1,y2,())) [] .ret (⟨[(4,.ptr (.loc 4) 0),(5,.c (.bool false))],[((.loc 4),[.int .i64 0,.nils,.nils])],[]⟩:LSt U):=by
  intro h
  rw [h] at hd
  simp only [Z3O,hd]
  exact JP
 have yes:∀ v,Zn3 true y1 y2=some v->Y3 cfg Tryz.f135.ntmps Tryz.f135.results.toList (Z3O (y1,y2,())) [] .ret (⟨[(4,.ptr (.loc 4) 0),(5,.c (.bool true))],[((.loc 4),[.int .i64 (Tree.kind (Z4 v)),.slice (U:=U) .u64 (Tree.words (Z4 v)) .unk,.slice (U:=U) .tree (Tree.kids (Z4 v)) .unk])],[]⟩:LSt U):=by
  intro v h
  rw [h] at hd
  simp only [Z3O,hd]
  exact JP
 unfold Zn3 at big no yes
 refine ⟨fun hk=> ?_,fun hk=> ⟨fun hk1=> ?_,fun hk1=> ⟨fun hk2=> ?_,fun hk2=> ⟨fun hk3=> ?_,fun hk3=> ?_⟩⟩⟩⟩
 .rw [if_pos hk] at big no yes
  exact ⟨by simp only [Jy];omega,yes _ rfl⟩
 .rw [if_neg hk,if_pos hk1] at big no yes
  refine ⟨by simp only [Z23];omega,fun hs=> no (by rw [hs];rfl),fun hs=> ?_⟩
  rw [if_pos hs] at big yes
  exact ⟨by simp only [Jy];exact big _ rfl,yes _ rfl⟩
 .rw [if_neg hk,if_neg hk1,if_pos hk2] at big no yes
  refine ⟨by simp only [Z52];exact ⟨hk2,⟨p1,p2,d,p3⟩,p4,p5⟩,by simp only [Zca];omega,fun hs=> no ?_,fun hs=> ?_⟩
  .have hs:Z2U true y1 y2=none:=by simpa using hs
   exact hs
  .obtain ⟨u,hu⟩:=QI.1 hs
   have e5:y5=u:=by rw [hy5,hu];try rfl
   subst e5
   exact ⟨by simp only [Jy];exact big _ hu,yes _ hu⟩
 .rw [if_neg hk,if_neg hk1,if_neg hk2,if_pos hk3] at big no yes
  have e2:∀ o,Z3l (Z0o true y1 y2)=o->(if y2.kind=y1.list then (Z3l (Z0Z true y1.ops y2.kids [])).map fun b=> Tree.mk y1.list [] b else none)=o.map fun b=> Tree.mk y1.list [] b:=by
   intro o ho
   unfold Z0o at ho
   split
   .rename_i h;rw [if_pos h] at ho;rw [ho]
   .rename_i h;rw [if_neg h] at ho;rw [<-ho];try rfl
  refine ⟨by simp only [Z51];exact ⟨hk3,⟨p1,p2,d,p3⟩,p4,p5⟩,by simp only [Zca];omega,fun hs=> no ?_,fun hs=> ?_⟩
  .have hs:Z3l (Z0o true y1 y2)=none:=by simpa using hs
   rw [e2 _ hs];try rfl
  .obtain ⟨l,hl⟩:=QI.1 hs
   have e6:y6= .mk y1.list [] l:=by rw [hy6,ZwI hl]
   subst e6
   have e3:=e2 _ hl
   exact ⟨by simp only [Jy];exact big _ e3,yes _ e3⟩
 .rw [if_neg hk,if_neg hk1,if_neg hk2,if_neg hk3] at no
  exact no rfl
theorem ZF4:ZCH:=by
 intro N e t _ hp hN
 simp only [Z52,Zca] at hp hN
 obtain ⟨k2,⟨p1,p2,d,p3⟩,p4,p5⟩:=hp
 have h1:=YC e
 have h2:=YQ e.kids
 have h3:=Znp t
 have h4:=Zq t.kids
 have r2:=Z4R p2
 have rt:=Zi2 p5
 have ri:=Zj p3
 have no:Z2U true e t=none->Y3 cfg Tryz.f184.ntmps Tryz.f184.results.toList (Z3N (e,t,())) [] .ret (⟨[(4,.ptr (.loc 4) 0),(5,.c (.bool false))],[((.loc 4),[.int .i64 0,.nils,.nils])],[]⟩:LSt U):=by
  intro hs
  simp only [Z3N,hs]
  exact JP
 refine ZGv _ _ _ _ ?_
 rintro y1 hy1 y2 hy2
 (simp only [iB,vcT,vcS])
 refine ⟨fun hk=> no (by unfold Z2U;rw [if_neg hk]),fun hk=> ?_⟩
 have hk:t.kind=1:=by simpa using hk
 rw [show Int.toNat ((e.words.length:Int) - 1)=e.words.length - 1 by omega] at hy1
 rw [show Int.toNat ((e.kids.length:Int) - 1)=e.kids.length - 1 by omega] at hy2
 have wm:0 < e.words.length->y1∈e.words:=fun h=> by rw [hy1];exact Ze YS _
 have km:0 < e.kids.length->y2∈e.kids:=fun h=> by rw [hy2];exact Ze YS _
 have wr:0 < e.words.length->0<=y1.at_/\y1.at_<=65534:=fun h=> by have:=Yu ri.words y1 (wm h);omega
 have kr:0 < e.kids.length->0<=y2.at_/\y2.at_<=65534:=fun h=> by have:=Zp ri.kids y2 (km h);omega
 have go:∀ n m:Int,n=(if 0 < e.words.length/\(t.words.length:Int)<=y1.at_ then y1.at_+1 else (t.words.length:Int))->m=(if 0 < e.kids.length/\(t.kids.length:Int)<=y2.at_ then y2.at_+1 else (t.kids.length:Int))->
   Zd (Ztl N [1,1,1,1,1,1,1,0,1,0,0]) (Z0h e t m n 0 0 []) (AExit.inBlock 0 (ZxM N [1,1,1,1,1,1,1,1] (Y3 cfg Tryz.f184.ntmps Tryz.f184.results.toList (Z3N (e,t,())) []))):=by
  intro n m hn hm
  have ln:n<=t.words.length+65536:=by
   rw [hn];split
   .rename_i h;have:=wr h.1;omega
   .omega
  have lm:m<=t.kids.length+65536:=by
   rw [hm];split
   .rename_i h;have:=kr h.1;omega
   .omega
  rw [hy1] at hn
  rw [hy2] at hm
  have i0:=Mg.init (z:=0) (f:=fun w=> if mix 0 (t.words.getD w.at_.toNat 0) w.mask=w.old then some (mix (t.words.getD w.at_.toNat 0) w.new w.mask) else none) (WEdit.mk 0 0 0 0) (Z1n ri.words) hn
  have j0:=Mg.init (z:=Tree.nil) (f:=Z5p true t.kids) (KidOf.mk 0 Edit.nil) (Z3e ri.kids) hm
  refine Z5 (ι:=Int × Int × List Int) (fun s=> Z0h e t m n s.1 s.2.1 s.2.2) (fun s=> Mg 0 (fun w=> if mix 0 (t.words.getD w.at_.toNat 0) w.mask=w.old then some (mix (t.words.getD w.at_.toNat 0) w.new w.mask) else none) WEdit.at_ t.words e.words n s.1 s.2.1 s.2.2) (fun s=> (n - s.2.1).toNat) (0,0,[]) rfl i0 ?_
  rintro ⟨a,i,out⟩ hI
  dsimp only at hI
  have q1:=hI.i0;have q2:=hI.a0;have q3:=hI.len
  refine ZtH _ _ _ _ _ _ _ _ _ _ ?_
  rintro z1 hz1 z2 hz2
  subst hz1
  have hw:YF z1 i=z1.words.getD i.toNat 0:=Z4J z1 YS
  have hwi:=Zol rt.2.1 i.toNat
  rw [hw]
  unfold isW at hwi
  (simp only [iB,vcT,vcS])
  refine ⟨fun hi=> ⟨by simp only [Zf4];omega,fun h=> ⟨YS,h⟩,fun hg=> ⟨⟨YS,hg.1⟩,?_⟩,fun hg=> ⟨by simp only [Qt];omega,V3,(a,i+1,out++[z1.words.getD i.toNat 0]),rfl,?_,V2⟩⟩,fun hi=> ?_⟩
  .have hmem:z2∈e.words:=by rw [hz2];exact Ze YS _
   obtain ⟨g1,g2,g3,g4⟩:=r2.2.2.2.1 z2 hmem
   unfold isW at g3 g4
   have hf:∀ v,(if mix 0 (z1.words.getD z2.at_.toNat 0) z2.mask=z2.old then some (mix (z1.words.getD z2.at_.toNat 0) z2.new z2.mask) else none)=v->(fun w:WEdit=> if mix 0 (z1.words.getD w.at_.toNat 0) w.mask=w.old then some (mix (z1.words.getD w.at_.toNat 0) w.new w.mask) else none) (e.words.getD a.toNat (WEdit.mk 0 0 0 0))=v:=by
    intro v hv;rw [<-hz2];exact hv
   rw [hg.2] at hf
   refine ⟨by simp only [Z13];omega,fun hne=> no ?_,fun heq=> ?_⟩
   .have:=hI.none (WEdit.mk 0 0 0 0) hg.1 (hf _ (if_neg hne))
    unfold Z2U
    rw [if_pos hk,Zmq,this]
    try rfl
   .have heq:mix 0 (z1.words.getD i.toNat 0) z2.mask=z2.old:=by simpa using heq
    have:=hI.edit (WEdit.mk 0 0 0 0) hi hg.1 (by rw [<-hz2];exact hg.2) (hf _ (if_pos heq))
    exact ⟨by simp only [Z13];omega,V3,by simp only [List.length_singleton];omega,V3,(a+1,i+1,out++[mix (z1.words.getD i.toNat 0) z2.new z2.mask]),rfl,this,V2⟩
  .refine hI.plain (WEdit.mk 0 0 0 0) hi (fun h=> ?_)
   rw [<-hz2] at h
   rcases hg with hg | hg
   .exact hg h.1
   .exact hg h.2
  .have hws:=hI.fin hi
   rw [<-Zmq] at hws
   refine Z5 (ι:=Int × Int × List Tree) (fun s=> Z4w e z1 m out s.1 s.2.1 s.2.2) (fun s=> Mg Tree.nil (Z5p true z1.kids) KidOf.at_ z1.kids e.kids m s.1 s.2.1 s.2.2) (fun s=> (m - s.2.1).toNat) (0,0,[]) rfl j0 ?_
   rintro ⟨b,j,ks⟩ hJ
   dsimp only at hJ
   have w1:=hJ.i0;have w2:=hJ.a0;have w3:=hJ.len
   refine ZtG _ _ _ _ _ _ _ _ _ _ ?_
   rintro x1 hx1 x2 hx2 x4 hx4 x5 hx5 x6 hx6
   subst hx1
   have hkid:JC x1 j=x1.kids.getD j.toNat Tree.nil:=Zbn x1 YS
   rw [hkid] at hx5
   (simp only [iB,vcT,vcS])
   refine ⟨fun hj=> ⟨by simp only [Zf4];omega,fun h=> ⟨YS,h⟩,fun hg=> ⟨⟨YS,hg.1⟩,?_⟩,fun hg=> ⟨by simp only [Qt];omega,V3,(b,j+1,ks++[x5]),rfl,?_,V2⟩⟩,fun hj=> ?_⟩
   .have hmem:x2∈e.kids:=by rw [hx2];exact Ze YS _
    have hk2:=Zp ri.kids x2 hmem
    have hm:=Jn hmem
    have hct:=Z6j hmem
    have hca:=JO e
    have hr:=(Yz r2.2.2.2.2.2.1 hmem).2
    have hm5:=Z4h x1.kids j.toNat
    have hr5:=Zde rt.2.2 j.toNat
    rw [<-hx5] at hm5 hr5
    rw [<-hx4] at hm hr hk2 hct
    have hf:∀ v,doE true x4 x5=v->Z5p true x1.kids (e.kids.getD b.toNat (KidOf.mk 0 Edit.nil))=v:=by
     intro v hv
     rw [<-hx2,Zm2,hg.2,<-hx5,<-hx4];exact hv
    refine ⟨by simp only [Z4c];exact ⟨⟨YS,hr,_,hk2.2⟩,YS,hr5⟩,by simp only [Zgr];omega,fun hne=> no ?_,fun heq=> ?_⟩
    .have hne:doE true x4 x5=none:=by simpa using hne
     have:=hJ.none (KidOf.mk 0 Edit.nil) hg.1 (hf _ hne)
     unfold Z2U
     rw [if_pos hk,hws,QD,ZjK,this]
     try rfl
    .obtain ⟨u,hu⟩:=QI.1 heq
     have:=hJ.edit (KidOf.mk 0 Edit.nil) hj hg.1 (by rw [<-hx2];exact hg.2) (hf _ hu)
     rw [hu] at hx6
     have e6:x6=u:=hx6
     subst e6
     exact ⟨V3,by simp only [List.length_singleton];omega,V3,(b+1,j+1,ks++[x6]),rfl,this,V2⟩
   .rw [hx5]
    refine hJ.plain (KidOf.mk 0 Edit.nil) hj (fun h=> ?_)
    rw [<-hx2] at h
    rcases hg with hg | hg
    .exact hg h.1
    .exact hg h.2
   .have hks:=hJ.fin hj
    rw [<-ZjK] at hks
    have hs:Z2U true e x1=some (.mk 1 out ks):=by
     unfold Z2U
     rw [if_pos hk,hws,QD,hks]
     try rfl
    simp only [Z3N,hs]
    exact JP
 have kk:∀ n:Int,n=(if 0 < e.words.length/\(t.words.length:Int)<=y1.at_ then y1.at_+1 else (t.words.length:Int))->_:=fun n hn=>
  And.intro (fun (_:(0:Int) < e.kids.length)=> show InR ((e.kids.length:Int) - 1) by unfold InR;omega) (And.intro (fun (_:(0:Int) < e.kids.length)=> show (0:Int)<=(e.kids.length:Int) - 1/\(e.kids.length:Int) - 1 < e.kids.length by omega) (And.intro
   (fun (h:(0:Int) < e.kids.length/\(t.kids.length:Int)<=y2.at_)=> And.intro (show InR ((e.kids.length:Int) - 1) by unfold InR;omega) (And.intro (show (0:Int)<=(e.kids.length:Int) - 1/\(e.kids.length:Int) - 1 < e.kids.length by omega) (And.intro (show InR (y2.at_+1) by have:=kr YS;unfold InR;omega) (go n (y2.at_+1) hn (by rw [if_pos ⟨YS,h.2⟩])))))
   (fun (h:¬(0:Int) < e.kids.length\/¬(t.kids.length:Int)<=y2.at_)=> go n t.kids.length hn (by rw [JL]))))
 refine ⟨fun _=> by unfold InR;omega,fun _=> by omega,fun hw=> ⟨V3,YS,by have:=wr YS;unfold InR;omega,kk _ (by rw [if_pos ⟨YS,hw.2⟩])⟩,fun hw=> kk _ (by rw [JL])⟩
theorem Zgq{list:Int}{o:Op}{d:Int}(h:Zk list o d=true):(o.kind=0/\(1<=o.n/\o.n<=1048576)/\o.l=[])\/(o.kind=1/\o.n=0)\/(o.kind=2/\o.n=0)\/(o.kind=3/\o.n=0/\o.l=[]/\Zb o.e d=true):=by
 have r:=J1 h
 cases r with
 | keep n h1 h2=> exact .inl ⟨rfl,⟨h1,h2⟩,rfl⟩
 | gone=> exact .inr (.inl ⟨rfl,rfl⟩)
 | come=> exact .inr (.inr (.inl ⟨rfl,rfl⟩))
 | into e h1=> exact .inr (.inr (.inr ⟨rfl,rfl,rfl,h1⟩))
theorem ZgH{α:Type}{l:List α}{n:Nat}(h:n < l.length)(d:α):l.take (n+1)=l.take n++[l.getD n d]:=by
 rw [KA,Qg,Q0 h];try rfl
theorem Zg4{α:Type}(l:List α)(m n:Nat)(d:α):(l.drop m).getD n d=l.getD (m+n) d:=by
 rw [Qg,Qg,Qx]
theorem ZF3:ZCG:=by
 intro N e t _ hp hN
 simp only [Z51,Zca] at hp hN
 obtain ⟨k3,⟨p1,p2,d,p3⟩,p4,p5⟩:=hp
 have h1:=YC e
 have h2:=Y0 e.ops
 have h3:=Znp t
 have h4:=Zq t.kids
 have r2:=Z4R p2
 have rt:=Zi2 p5
 have ri:=Zj p3
 refine ZGu _ _ _ _ ?_
 (simp only [iB,vcT,vcS])
 have no:Z0o true e t=none->Y3 cfg Tryz.f185.ntmps Tryz.f185.results.toList (Z4T (e,t,())) [] .ret (⟨[(4,.ptr (.loc 4) 0),(5,.c (.bool false))],[((.loc 4),[.int .i64 0,.nils,.nils])],[]⟩:LSt U):=by
  intro hs
  simp only [Z4T,hs]
  exact JP
 refine ⟨fun hk=> no (by unfold Z0o;rw [if_neg hk]),fun hk=> ?_⟩
 have hk:t.kind=e.list:=by simpa using hk
 have hl0:Z0o true e t=Z0Z true e.ops t.kids []:=by unfold Z0o;rw [if_pos hk]
 refine Z5 (ι:=Int × Int × List Tree) (fun s=> Z1B e t s.1 s.2.1 s.2.2)
  (fun s=> (0<=s.1/\s.1<=t.kids.length)/\(0<=s.2.1/\s.2.1<=e.ops.length)/\Z0Z true (e.ops.drop s.2.1.toNat) (t.kids.drop s.1.toNat) s.2.2=Z0o true e t/\(s.2.2.length:Int)+(t.kids.length - s.1)+Zg (e.ops.drop s.2.1.toNat)<=t.kids.length+Zg e.ops)
  (fun s=> ((e.ops.length:Int) - s.2.1).toNat) (0,0,[]) rfl ⟨by simp,by simp,by simp [hl0],by simp⟩ ?_
 rintro ⟨at_,i,out⟩ ⟨⟨a1,a2⟩,⟨f1,f2⟩,f3,f4⟩
 dsimp only at a1 a2 f1 f2 f3 f4
 refine ZtF _ _ _ _ _ _ _ _ ?_
 (simp only [iB,vcT,vcS])
 refine ⟨fun hi=> ⟨⟨f1,hi⟩,?_⟩,fun hi=> ?_⟩
 .have hmem:=Ze (l:=e.ops) (i:=i.toNat) YS Op.nil
  rw [ZQ f1 hi Op.nil] at f3 f4
  have fin:∀ (a:Int) (m:List Tree),(0<=a/\a<=t.kids.length)->Z0Z true (e.ops.drop (i+1).toNat) (t.kids.drop a.toNat) m=Z0o true e t->(m.length:Int)+(t.kids.length - a)+Zg (e.ops.drop (i+1).toNat)<=t.kids.length+Zg e.ops->∀ s2,s2=Z1B e t a (i+1) m->
    ∃ j:Int × Int × List Tree,s2=Z1B e t j.1 j.2.1 j.2.2/\((0<=j.1/\j.1<=t.kids.length)/\(0<=j.2.1/\j.2.1<=e.ops.length)/\Z0Z true (e.ops.drop j.2.1.toNat) (t.kids.drop j.1.toNat) j.2.2=Z0o true e t/\(j.2.2.length:Int)+(t.kids.length - j.1)+Zg (e.ops.drop j.2.1.toNat)<=t.kids.length+Zg e.ops)/\((e.ops.length:Int) - j.2.1).toNat < ((e.ops.length:Int) - i).toNat:=by
   rintro a m b1 b2 b3 _ rfl
   exact ⟨(a,i+1,m),rfl,⟨b1,⟨V2,V2⟩,b2,b3⟩,V2⟩
  generalize hy:e.ops.getD i.toNat Op.nil=y1 at*
  have hr:=Go.AM.rightOs_mem ri.ops y1 hmem
  have hm:=ZZ hmem
  have hct:=Z6i hmem
  have hca:=JO e
  have hme:=ZI y1
  have hro:=Z0y (Z0M r2.2.2.2.2.2.2 hmem)
  have hml:=Zq y1.l
  simp only [Zg] at f4
  rw [Zhx,ZqO] at f3
  have hrest:(t.kids.drop at_.toNat).length=t.kids.length - at_.toNat:=Qk ..
  rcases Zgq hr with ⟨k0,hn,hl⟩ | ⟨k1,hn⟩ | ⟨k2,hn⟩ | ⟨k3',hn,hl,hre⟩
  ·-- kids are kept
   rw [if_pos k0] at f3
   refine Z5 (ι:=Int × Int × List Tree) (fun s=> Z1A e t i s.1 s.2.1 s.2.2) (fun s=> (0<=s.2.1/\s.2.1<=y1.n)/\s.1=at_+s.2.1/\s.1<=t.kids.length/\s.2.2=out++(t.kids.drop at_.toNat).take s.2.1.toNat) (fun s=> (y1.n - s.2.1).toNat) (at_,0,out) rfl ⟨by simp;omega,by simp,by simp;omega,by simp⟩ ?_
   rintro ⟨a,q,m⟩ ⟨⟨c1,c2⟩,c3,c4,c5⟩
   dsimp only at c1 c2 c3 c4 c5
   refine Z8E _ _ _ _ _ _ _ _ _ _ ?_
   rintro z1 hz1 z2 hz2
   rw [hy] at hz1
   subst hz1
   (simp only [iB,vcT,vcS])
   have hlen:(m.length:Int)<=out.length+q:=by rw [c5];simp only [Q7,Qj];omega
   refine ⟨fun hg=> ⟨fun hx=> no ?_,fun hx=> ⟨YS,by simp only [Qt];omega,V3,V3,(a+1,q+1,m++[z2]),rfl,⟨V2,V2,V2,?_⟩,V2⟩⟩,fun hg=> ?_⟩
   .rw [JL] at f3
    exact f3.symm
   .dsimp only
    rw [show (q+1).toNat=q.toNat+1 by omega,ZgH YS Tree.nil,Zg4,show at_.toNat+q.toNat=a.toNat by omega,<-hz2,c5,Qa]
   .have hq:q=z1.n:=YS
    subst hq
    rw [V0,QD,Xo,show at_.toNat+z1.n.toNat=a.toNat by omega,<-c5] at f3
    dsimp only at f3
    refine Z5 (ι:=Unit) (fun _=> Z0T e t i 0 a m) (fun _=> True) (fun _=> 0) () rfl trivial ?_
    intro _ _
    refine Z8D _ _ _ _ _ _ _ _ _ _ ?_
    rintro w1 hw1 w2 hw2 w3 hw3 w4 hw4 w5 hw5 w6 hw6 w7 hw7
    rw [hy] at hw1
    subst hw1
    rw [hl]
    (simp only [iB,vcT,vcS])
    exact ⟨fun h=> absurd h (by simp),fun _=> ⟨fun h=> absurd h YS,fun _=> ⟨V3,fin _ _ YS f3 YS _ rfl⟩⟩⟩
  ·-- kids are gone
   rw [JL,if_pos k1] at f3
   refine Z5 (ι:=Unit) (fun _=> Z1A e t i at_ 0 out) (fun _=> True) (fun _=> 0) () rfl trivial ?_
   intro _ _
   refine Z8E _ _ _ _ _ _ _ _ _ _ ?_
   rintro z1 hz1 z2 hz2
   rw [hy] at hz1
   subst hz1
   (simp only [iB,vcT,vcS])
   refine ⟨fun hg=> absurd hg.1 YS,fun _=> ?_⟩
   refine Z5 (ι:=Int × Int) (fun s=> Z0T e t i s.1 s.2 out) (fun s=> (0<=s.1/\s.1<=z1.l.length)/\s.2=at_+s.1/\s.2<=t.kids.length/\∀ j:Nat,(j:Int) < s.1->Z4 (t.kids.getD (at_.toNat+j) Tree.nil)=Z4 (z1.l.getD j Tree.nil)) (fun s=> ((z1.l.length:Int) - s.1).toNat) (0,at_) rfl ⟨by simp,by simp,by simp;omega,fun j hj=> by simp at hj;omega⟩ ?_
   rintro ⟨q,a⟩ ⟨⟨c1,c2⟩,c3,c4,c5⟩
   dsimp only at c1 c2 c3 c4 c5
   refine Z8D _ _ _ _ _ _ _ _ _ _ ?_
   rintro w1 hw1 w2 hw2 w3 hw3 w4 hw4 w5 hw5 w6 hw6 w7 hw7
   rw [hy] at hw1
   subst hw1 hw3 hw6
   (simp only [iB,vcT,vcS])
   have bad:Z5n w1.l (t.kids.drop at_.toNat)=false->Z0o true e t=none:=by
    intro h
    rw [h,if_neg (by simp)] at f3
    exact f3.symm
   have m2:=Z4h t.kids a.toNat
   have m5:=Z4h w1.l q.toNat
   rw [<-hw2] at m2
   rw [<-hw5] at m5
   refine ⟨fun hq=> ⟨fun h=> absurd h YS,fun _=> ⟨fun _=> by omega,fun _=> by omega,fun _=> by simp only [Z23];omega,fun h=> no (bad ?_),fun h=> ⟨V3,V3,(q+1,a+1),rfl,⟨V2,V2,V2,fun j hj=> ?_⟩,V2⟩⟩⟩,fun hq=> ⟨fun h=> absurd h YS,fun _=> ⟨V3,?_⟩⟩⟩
   .unfold Z5n
    by_cases hx:w1.l.length<=(t.kids.drop at_.toNat).length
    .rw [decide_eq_true hx,QG]
     refine Z3U fun hh=> ?_
     have h3:ZU (Z4 w3) (Z4 w6)=false:=by
      rcases h with h | h
      .omega
      .exact h
     rw [J0] at h3
     apply h3
     have:=Zct (d:=Tree.nil) hh q.toNat
     rw [hw2,hw5,this,Qg,Qg,X4,V0,Qx,show at_.toNat+q.toNat=a.toNat by omega]
    .rw [decide_eq_false hx];try rfl
   .by_cases hj2:(j:Int) < q
    .exact c5 j hj2
    .have e1:at_.toNat+j=a.toNat:=by dsimp only at hj;omega
     have e2:j=q.toNat:=by dsimp only at hj;omega
     rw [e1,e2,<-hw2,<-hw5]
     exact J4.1 h.2
   .have hq:q=w1.l.length:=YS
    subst hq
    have Z06:Z5n w1.l (t.kids.drop at_.toNat)=true:=by
     unfold Z5n
     rw [decide_eq_true YS,QG,YO]
     refine Zcf Tree.nil (by rw [Qj];omega) fun j hj=> ?_
     rw [<-c5 j YS,Qg,Qg,X4,if_pos hj,Qx]
    rw [Z06,if_pos rfl,QD,Xo,show at_.toNat+w1.l.length=a.toNat by omega] at f3
    dsimp only at f3
    exact fin _ _ YS f3 YS _ rfl
  ·-- kids come
   rw [JL,JL,if_pos k2,QD] at f3
   refine Z5 (ι:=Unit) (fun _=> Z1A e t i at_ 0 out) (fun _=> True) (fun _=> 0) () rfl trivial ?_
   intro _ _
   refine Z8E _ _ _ _ _ _ _ _ _ _ ?_
   rintro z1 hz1 z2 hz2
   rw [hy] at hz1
   subst hz1
   (simp only [iB,vcT,vcS])
   refine ⟨fun hg=> absurd hg.1 YS,fun _=> ?_⟩
   refine Z5 (ι:=Int × List Tree) (fun s=> Z0T e t i s.1 at_ s.2) (fun s=> (0<=s.1/\s.1<=z1.l.length)/\s.2=out++z1.l.take s.1.toNat) (fun s=> ((z1.l.length:Int) - s.1).toNat) (0,out) rfl ⟨by simp,by simp⟩ ?_
   rintro ⟨q,m⟩ ⟨⟨c1,c2⟩,c5⟩
   dsimp only at c1 c2 c5
   refine Z8D _ _ _ _ _ _ _ _ _ _ ?_
   rintro w1 hw1 w2 hw2 w3 hw3 w4 hw4 w5 hw5 w6 hw6 w7 hw7
   rw [hy] at hw1
   subst hw1 hw6
   (simp only [iB,vcT,vcS])
   have hlen:(m.length:Int)<=out.length+q:=by rw [c5];simp only [Q7,Qj];omega
   refine ⟨fun hq=> ⟨fun _=> ⟨YS,by simp only [Qt];omega,V3,(q+1,m++[w6]),rfl,⟨V2,?_⟩,V2⟩,fun h=> absurd k2 h⟩,fun hq=> ⟨fun h=> absurd h YS,fun _=> ⟨V3,?_⟩⟩⟩
   .dsimp only
    rw [show (q+1).toNat=q.toNat+1 by omega,ZgH YS Tree.nil,<-hw5,c5,Qa]
   .rw [show q.toNat=w1.l.length by omega,XY] at c5
    rw [<-c5] at f3
    dsimp only at f3
    exact fin _ _ YS f3 YS _ rfl
  ·-- what is within a kid
   rw [JL,JL,JL] at f3
   refine Z5 (ι:=Unit) (fun _=> Z1A e t i at_ 0 out) (fun _=> True) (fun _=> 0) () rfl trivial ?_
   intro _ _
   refine Z8E _ _ _ _ _ _ _ _ _ _ ?_
   rintro z1 hz1 z2 hz2
   rw [hy] at hz1
   subst hz1
   (simp only [iB,vcT,vcS])
   refine ⟨fun hg=> absurd hg.1 YS,fun _=> ?_⟩
   refine Z5 (ι:=Unit) (fun _=> Z0T e t i 0 at_ out) (fun _=> True) (fun _=> 0) () rfl trivial ?_
   intro _ _
   refine Z8D _ _ _ _ _ _ _ _ _ _ ?_
   rintro w1 hw1 w2 hw2 w3 hw3 w4 hw4 w5 hw5 w6 hw6 w7 hw7
   rw [hy] at hw1
   subst hw1 hw3
   rw [hl]
   (simp only [iB,vcT,vcS])
   have hz:w3=(t.kids.drop at_.toNat).getD 0 Tree.nil:=by rw [Zg4,XX];exact hw2
   have m2:=Z4h t.kids at_.toNat
   have g2:=Zde rt.2.2 at_.toNat
   rw [<-hw2] at m2 g2
   rw [<-hw4] at hre hme hro hct
   refine ⟨fun h=> absurd h (by simp),fun _=> ⟨fun _=> ⟨fun hx=> no ?_,fun hx=> ⟨YS,by simp only [Z4c];exact ⟨⟨YS,hro.2.2.2,_,hre⟩,YS,g2⟩,by simp only [Zgr];omega,fun hne=> no ?_,fun heq=> ?_⟩⟩,fun h=> absurd k3' h⟩⟩
   .rw [V0] at f3
    exact f3.symm
   .rw [JL,<-hz,<-hw4] at f3
    have hne:doE true w4 w3=none:=by simpa using hne
    rw [hne] at f3
    exact f3.symm
   .obtain ⟨u,hu⟩:=QI.1 heq
    rw [hu] at hw7
    have e7:w7=u:=hw7
    subst e7
    rw [JL,<-hz,<-hw4,hu,Qd,QD,Xo,show at_.toNat+1=(at_+1).toNat by omega] at f3
    dsimp only at f3
    exact ⟨by simp only [Qt];omega,V3,V3,fin _ _ YS f3 (by simp only [List.length_append,List.length_singleton];omega) _ rfl⟩
 .rw [Q9 YS,Z0Z] at f3
  simp only [Z4T,<-f3,Zjb,Z3l,QD,hk]
  by_cases hr:at_=t.kids.length
  .rw [if_pos (by rw [Qk];omega),hr]
   simp only [beq_self_eq_true]
   exact JP
  .rw [if_neg (by rw [Qk];omega),show (at_==(t.kids.length:Int))=false by rw [beq_eq_false_iff_ne];omega]
   exact JP
theorem ZHS:Contract Tryz.prog cfg 135 Z3s/\Contract Tryz.prog cfg 184 Zow/\Contract Tryz.prog cfg 185 Zov:=ZvT c41 ZcJ ZEh ZcK ZEg ZF7 ZF4 ZF3
theorem Zt6:Contract Tryz.prog cfg 135 Z3s:=ZHS.1
noncomputable section
def ZdM:ArgM ((List Op × List Tree × List Tree × Unit) × Unit):=(.obj 0 (.cons (cWr .op 0 0) (.cons (Z4C .tree 0 1) (.cons (Z4C .tree 0 2) .nil))) .nil)
def Z22(a:(List Op × List Tree × List Tree × Unit) × Unit):Prop:=(a.1.1).length<=200000000000/\(a.1.2.1).length<=200000000000/\(a.1.2.2.1).length<=200000000000
def ZaN(a:(List Op × List Tree × List Tree × Unit) × Unit):V U:= .tup []
def Z6H(a:(List Op × List Tree × List Tree × Unit) × Unit):List (List (C U)):=[[.mref (.x 0 0),sU .tree ((Z2 (Wst.mk a.1.1 a.1.2.1 a.1.2.2.1)).gone) (.own (.x 0 1)),sU .tree ((Z2 (Wst.mk a.1.1 a.1.2.1 a.1.2.2.1)).brought) (.own (.x 0 2))]]
def Z6I(a:(List Op × List Tree × List Tree × Unit) × Unit):List (Tok × LC U):=[(.x 0 0,LC.mk (U:=U) .op ((Z2 (Wst.mk a.1.1 a.1.2.1 a.1.2.2.1)).out) 0)]
def Z2j:Fs U:=ZcI ZdM (fun a=> [Z22 a]) ZaN Z6H Z6I
def ZdO:ArgM ((List Op × List Tree × List Tree × Unit) × Int × Unit):=(.obj 0 (.cons (cWr .op 0 0) (.cons (Z4C .tree 0 1) (.cons (Z4C .tree 0 2) .nil))) (.cons (J9 .i64) .nil))
def Z4Z(a:(List Op × List Tree × List Tree × Unit) × Int × Unit):Prop:=(a.1.1).length<=200000000000/\(a.1.2.1).length<=200000000000/\(a.1.2.2.1).length<=200000000000/\(∀ o∈a.1.1,0<=o.n/\o.n<=100000000000000000)/\0<=a.2.1/\a.2.1<=1048576
def ZmS(a:(List Op × List Tree × List Tree × Unit) × Int × Unit):V U:= .tup []
def Zi8(a:(List Op × List Tree × List Tree × Unit) × Int × Unit):List (List (C U)):=[[.mref (.x 0 0),sU .tree ((ZM (Wst.mk a.1.1 a.1.2.1 a.1.2.2.1) a.2.1).gone) (.own (.x 0 1)),sU .tree ((ZM (Wst.mk a.1.1 a.1.2.1 a.1.2.2.1) a.2.1).brought) (.own (.x 0 2))]]
def Zi9(a:(List Op × List Tree × List Tree × Unit) × Int × Unit):List (Tok × LC U):=[(.x 0 0,LC.mk (U:=U) .op ((ZM (Wst.mk a.1.1 a.1.2.1 a.1.2.2.1) a.2.1).out) 0)]
def Z6x:Fs U:=ZcI ZdO (fun a=> [Z4Z a]) ZmS Zi8 Zi9
def ZdN:ArgM ((List Op × List Tree × List Tree × Unit) × List Tree × Unit):=(.objAt 0 1 (.cons (cWr .op 0 0) (.cons (Z4C .tree 0 1) (.cons (Z4C .tree 0 2) .nil))) (.cons (aSl .tree) .nil))
def ZaW(a:(List Op × List Tree × List Tree × Unit) × List Tree × Unit):Prop:=(a.1.1).length<=200000000000/\(a.1.2.1).length<=200000000000/\(a.1.2.2.1).length<=200000000000/\Z9 a.2.1<=20000000000
def Zv1(a:(List Op × List Tree × List Tree × Unit) × List Tree × Unit):V U:= .tup []
def ZoO(a:(List Op × List Tree × List Tree × Unit) × List Tree × Unit):List (List (C U)):=[[.mref (.x 0 0),sU .tree ((Wst.mk a.1.1 (a.1.2.1++Z8 a.2.1) a.1.2.2.1).gone) (.own (.x 0 1)),sU .tree ((Wst.mk a.1.1 (a.1.2.1++Z8 a.2.1) a.1.2.2.1).brought) (.own (.x 0 2))]]
def ZoP(a:(List Op × List Tree × List Tree × Unit) × List Tree × Unit):List (Tok × LC U):=[(.x 0 0,LC.mk (U:=U) .op ((Wst.mk a.1.1 (a.1.2.1++Z8 a.2.1) a.1.2.2.1).out) 0)]
def ZhU:Fs U:=ZcI ZdN (fun a=> [ZaW a]) Zv1 ZoO ZoP
def Zar:ArgM ((List Op × List Tree × List Tree × Unit) × List Tree × Unit):=(.objAt 0 2 (.cons (cWr .op 0 0) (.cons (Z4C .tree 0 1) (.cons (Z4C .tree 0 2) .nil))) (.cons (aSl .tree) .nil))
def ZkK(a:(List Op × List Tree × List Tree × Unit) × List Tree × Unit):List (List (C U)):=[[.mref (.x 0 0),sU .tree ((Wst.mk a.1.1 a.1.2.1 (a.1.2.2.1++Z8 a.2.1)).gone) (.own (.x 0 1)),sU .tree ((Wst.mk a.1.1 a.1.2.1 (a.1.2.2.1++Z8 a.2.1)).brought) (.own (.x 0 2))]]
def ZkL(a:(List Op × List Tree × List Tree × Unit) × List Tree × Unit):List (Tok × LC U):=[(.x 0 0,LC.mk (U:=U) .op ((Wst.mk a.1.1 a.1.2.1 (a.1.2.2.1++Z8 a.2.1)).out) 0)]
def Zew:Fs U:=ZcI Zar (fun a=> [ZaW a]) Zv1 ZkK ZkL
def Zmc:ArgL (Int × Edit × Unit):=(.cons (J9 .i64) (.cons (aEl .edit) .nil))
def Z6J(a:Int × Edit × Unit):Prop:=a.2.1.words.length<=20000000000/\a.2.1.kids.length<=20000000000
def ZoV(a:Int × Edit × Unit):V U:= .c (.bool (Z3F a.1 a.2.1))
def Z43:Fs U:=fs Zmc (fun a=> [Z6J a]) ZoV
def Z9t(a:Int × Edit × Unit):Prop:=True
def Z44:Fs U:=fs Zmc (fun a=> [Z9t a]) ZoV
def Zwp:Zc U:=lvk [([0,7],[((.x 0),[.wr .op])]),([0],[((.x 0),[.wr .op])]),([0,28],[((.x 0),[.wr .op])]),([0],[((.x 0),[.wr .op])]),([],[((.x 0),[.wr .op])])]
abbrev ZI1(wo:List Op)(wg wb:List Tree)(Q:QT):=AW (Z0 ZnJ) Tryz.f150 Zwp [] (⟨[(0,.ptr (.x 0) 0)],[(.x 0,[.mref (.x 0 0),sU .tree wg (.own (.x 0 1)),sU .tree wb (.own (.x 0 2))])],[(.x 0 0,LC.mk (U:=U) .op wo 0)]⟩:LSt U) Q
theorem ZGQ(wo:List Op)(wg wb:List Tree)(Q:QT)(h:∀ y_1,y_1=(Edit.mk 0 (Tree.mk 0 [] []) (Tree.mk 0 [] []) [] [] 0 [])->∀ y_2,y_2=(List.set (wo++([(OpOf.mk 0 0 [] y_1:Op)])) (Int.toNat (wo.length:Int)) (OpOf.mk 1 0 wg y_1:Op))->((decide ((0:Int) < (wg.length:Int)))=true->((wo.length+([(OpOf.mk 0 0 [] y_1:Op)]).length)*240<=140737488355328)/\((0:Int)<=(wo.length:Int)/\(wo.length:Int) < ((wo++([(OpOf.mk 0 0 [] y_1:Op)])).length:Int))/\((0:Nat)<=(Int.toNat (wo.length:Int)))/\(((decide ((0:Int) < (wb.length:Int)))=true->((y_2.length+([(OpOf.mk 0 0 [] y_1:Op)]).length)*240<=140737488355328)/\((0:Int)<=(y_2.length:Int)/\(y_2.length:Int) < ((y_2++([(OpOf.mk 0 0 [] y_1:Op)])).length:Int))/\((0:Nat)<=(Int.toNat (y_2.length:Int)))/\(Q .normal (⟨[],[(.x 0,[.mref (.x 0 0),.nils,.nils])],[(.x 0 0,LC.mk (U:=U) .op (List.set (y_2++([(OpOf.mk 0 0 [] y_1:Op)])) (Int.toNat (y_2.length:Int)) (OpOf.mk 2 0 wb y_1:Op)) 0)]⟩:LSt U)))/\((decide ((0:Int) < (wb.length:Int)))=false->Q .normal (⟨[],[(.x 0,[.mref (.x 0 0),.nils,.nils])],[(.x 0 0,LC.mk (U:=U) .op y_2 0)]⟩:LSt U))))/\((decide ((0:Int) < (wg.length:Int)))=false->((decide ((0:Int) < (wb.length:Int)))=true->((wo.length+([(OpOf.mk 0 0 [] y_1:Op)]).length)*240<=140737488355328)/\((0:Int)<=(wo.length:Int)/\(wo.length:Int) < ((wo++([(OpOf.mk 0 0 [] y_1:Op)])).length:Int))/\((0:Nat)<=(Int.toNat (wo.length:Int)))/\(Q .normal (⟨[],[(.x 0,[.mref (.x 0 0),.nils,.nils])],[(.x 0 0,LC.mk (U:=U) .op (List.set (wo++([(OpOf.mk 0 0 [] y_1:Op)])) (Int.toNat (wo.length:Int)) (OpOf.mk 2 0 wb y_1:Op)) 0)]⟩:LSt U)))/\((decide ((0:Int) < (wb.length:Int)))=false->Q .normal (⟨[],[(.x 0,[.mref (.x 0 0),.nils,.nils])],[(.x 0 0,LC.mk (U:=U) .op wo 0)]⟩:LSt U)))):
  ZI1 wo wg wb Q:=by
 have e_:(ZI1 wo wg wb Q)=(let y_1:=(Edit.mk 0 (Tree.mk 0 [] []) (Tree.mk 0 [] []) [] [] 0 []);let y_2:=(List.set (wo++([(OpOf.mk 0 0 [] y_1:Op)])) (Int.toNat (wo.length:Int)) (OpOf.mk 1 0 wg y_1:Op));let zz0:=(decide ((0:Int) < (wb.length:Int)));(((decide ((0:Int) < (wg.length:Int)))=true->((wo.length+([(OpOf.mk 0 0 [] y_1:Op)]).length)*240<=140737488355328)/\((0:Int)<=(wo.length:Int)/\(wo.length:Int) < ((wo++([(OpOf.mk 0 0 [] y_1:Op)])).length:Int))/\((0:Nat)<=(Int.toNat (wo.length:Int)))/\((zz0=true->((y_2.length+([(OpOf.mk 0 0 [] y_1:Op)]).length)*240<=140737488355328)/\((0:Int)<=(y_2.length:Int)/\(y_2.length:Int) < ((y_2++([(OpOf.mk 0 0 [] y_1:Op)])).length:Int))/\((0:Nat)<=(Int.toNat (y_2.length:Int)))/\(Q .normal (⟨[],[(.x 0,[.mref (.x 0 0),.nils,.nils])],[(.x 0 0,LC.mk (U:=U) .op (List.set (y_2++([(OpOf.mk 0 0 [] y_1:Op)])) (Int.toNat (y_2.length:Int)) (OpOf.mk 2 0 wb y_1:Op)) 0)]⟩:LSt U)))/\(zz0=false->(Q .normal (⟨[],[(.x 0,[.mref (.x 0 0),.nils,.nils])],[(.x 0 0,LC.mk (U:=U) .op y_2 0)]⟩:LSt U)))))/\((decide ((0:Int) < (wg.length:Int)))=false->((zz0=true->((wo.length+([(OpOf.mk 0 0 [] y_1:Op)]).length)*240<=140737488355328)/\((0:Int)<=(wo.length:Int)/\(wo.length:Int) < ((wo++([(OpOf.mk 0 0 [] y_1:Op)])).length:Int))/\((0:Nat)<=(Int.toNat (wo.length:Int)))/\(Q .normal (⟨[],[(.x 0,[.mref (.x 0 0),.nils,.nils])],[(.x 0 0,LC.mk (U:=U) .op (List.set (wo++([(OpOf.mk 0 0 [] y_1:Op)])) (Int.toNat (wo.length:Int)) (OpOf.mk 2 0 wb y_1:Op)) 0)]⟩:LSt U)))/\(zz0=false->(Q .normal (⟨[],[(.x 0,[.mref (.x 0 0),.nils,.nils])],[(.x 0 0,LC.mk (U:=U) .op wo 0)]⟩:LSt U))))))):=V4
 exact e_.mpr (by intro y_1 y_2;have hh:=h y_1 rfl y_2 rfl;exact ⟨fun c_1=> ⟨(hh.1 c_1).1,(hh.1 c_1).2.1,(hh.1 c_1).2.2.1,⟨fun c_2=> ⟨((hh.1 c_1).2.2.2.1 c_2).1,((hh.1 c_1).2.2.2.1 c_2).2.1,((hh.1 c_1).2.2.2.1 c_2).2.2.1,((hh.1 c_1).2.2.2.1 c_2).2.2.2⟩,fun c_2=> ((hh.1 c_1).2.2.2.2 c_2)⟩⟩,fun c_1=> ⟨fun c_3=> ⟨((hh.2 c_1).1 c_3).1,((hh.2 c_1).1 c_3).2.1,((hh.2 c_1).1 c_3).2.2.1,((hh.2 c_1).1 c_3).2.2.2⟩,fun c_3=> ((hh.2 c_1).2 c_3)⟩⟩)
def ZBt(wo:List Op)(wg wb:List Tree):Prop:=AW (Z0 ZnJ) Tryz.f150 Zwp [] (JK (ZdM.can ((wo,wg,wb,()),())) (ZdM.canX ((wo,wg,wb,()),())) (ZdM.canL ((wo,wg,wb,()),()))) (Z09 cfg Tryz.f150.ntmps Tryz.f150.results.toList (ZaN ((wo,wg,wb,()),())) (Z6H ((wo,wg,wb,()),())) (Z6I ((wo,wg,wb,()),())))
theorem ZzC(hb:∀ (wo:List Op) (wg:List Tree) (wb:List Tree) (_:Unit),Z22 ((wo,wg,wb,()),())->ZBt wo wg wb):CT 150 Z2j:=
 Yg (l:=[]) Zi rfl trivial Zwp Tryz.func150 rfl rfl 1 (fun _=> rfl) V1 (fun ⟨⟨wo,wg,wb,_⟩,_⟩=> hb wo wg wb ())
def Zqm:List (FuncId × Fs U):=[(150,Z2j)]
def Zwq:Zc U:=lvk [([0,1],[((.x 0),[.wr .op])]),([0,1,4],[((.x 0),[.wr .op])]),([0,1,4,25],[((.x 0),[.wr .op])]),([],[((.x 0),[.wr .op])]),([],[((.x 0),[.wr .op])])]
abbrev ZI3(wo:List Op)(wg wb:List Tree)(n:Int)(Q:QT):=AW (Z0 Zqm) Tryz.f147 Zwq [] (⟨[(0,.ptr (.x 0) 0),pI 1 n],[(.x 0,[.mref (.x 0 0),sU .tree wg (.own (.x 0 1)),sU .tree wb (.own (.x 0 2))])],[(.x 0 0,LC.mk (U:=U) .op wo 0)]⟩:LSt U) Q
theorem ZGS(wo:List Op)(wg wb:List Tree)(n:Int)(Q:QT)(h:∀ y_1,y_1=(Edit.mk 0 (Tree.mk 0 [] []) (Tree.mk 0 [] []) [] [] 0 [])->∀ y_2,y_2=(Int.toNat (((((Z2 (Wst.mk wo wg wb)).out).length:Int):Int) - 1))->∀ y_3,y_3=(List.getD ((Z2 (Wst.mk wo wg wb)).out) y_2 Op.nil)->∀ y_4,y_4=(y_3.e)->(Z22 ((wo,wg,wb,()),()))/\((InR (((((Z2 (Wst.mk wo wg wb)).out).length:Int):Int) - 1))/\(((decide ((0:Int)<=(((((Z2 (Wst.mk wo wg wb)).out).length:Int):Int) - 1)))=true->(0:Int)<=(((((Z2 (Wst.mk wo wg wb)).out).length:Int):Int) - 1)/\(((((Z2 (Wst.mk wo wg wb)).out).length:Int):Int) - 1) < (((Z2 (Wst.mk wo wg wb)).out).length:Int))/\(((bif (decide ((0:Int)<=(((((Z2 (Wst.mk wo wg wb)).out).length:Int):Int) - 1))) then (y_3.kind==0) else false)=true->((0:Int)<=(((((Z2 (Wst.mk wo wg wb)).out).length:Int):Int) - 1)/\(((((Z2 (Wst.mk wo wg wb)).out).length:Int):Int) - 1) < (((Z2 (Wst.mk wo wg wb)).out).length:Int))/\(InR (y_3.n+n))/\((0:Int)<=(((((Z2 (Wst.mk wo wg wb)).out).length:Int):Int) - 1)/\(((((Z2 (Wst.mk wo wg wb)).out).length:Int):Int) - 1) < (((Z2 (Wst.mk wo wg wb)).out).length:Int))/\((0:Nat)<=y_2)/\(Q .ret (⟨[],[(.x 0,[.mref (.x 0 0),sU .tree ((Z2 (Wst.mk wo wg wb)).gone) (.own (.x 0 1)),sU .tree ((Z2 (Wst.mk wo wg wb)).brought) (.own (.x 0 2))])],[(.x 0 0,LC.mk (U:=U) .op (List.set ((Z2 (Wst.mk wo wg wb)).out) y_2 (OpOf.mk y_3.kind (y_3.n+n) y_3.l y_4:Op)) 0)]⟩:LSt U)))/\((bif (decide ((0:Int)<=(((((Z2 (Wst.mk wo wg wb)).out).length:Int):Int) - 1))) then (y_3.kind==0) else false)=false->((((Z2 (Wst.mk wo wg wb)).out).length+([(OpOf.mk 0 0 [] y_1:Op)]).length)*240<=140737488355328)/\((0:Int)<=(((Z2 (Wst.mk wo wg wb)).out).length:Int)/\(((Z2 (Wst.mk wo wg wb)).out).length:Int) < ((((Z2 (Wst.mk wo wg wb)).out)++([(OpOf.mk 0 0 [] y_1:Op)])).length:Int))/\((0:Nat)<=(Int.toNat (((Z2 (Wst.mk wo wg wb)).out).length:Int)))/\(Q .normal (⟨[],[(.x 0,[.mref (.x 0 0),sU .tree ((Z2 (Wst.mk wo wg wb)).gone) (.own (.x 0 1)),sU .tree ((Z2 (Wst.mk wo wg wb)).brought) (.own (.x 0 2))])],[(.x 0 0,LC.mk (U:=U) .op (List.set (((Z2 (Wst.mk wo wg wb)).out)++([(OpOf.mk 0 0 [] y_1:Op)])) (Int.toNat (((Z2 (Wst.mk wo wg wb)).out).length:Int)) (OpOf.mk 0 n [] y_1:Op)) 0)]⟩:LSt U))))))):
  ZI3 wo wg wb n Q:=by
 have e_:(ZI3 wo wg wb n Q)=(let y_1:=(Edit.mk 0 (Tree.mk 0 [] []) (Tree.mk 0 [] []) [] [] 0 []);let y_2:=(Int.toNat (((((Z2 (Wst.mk wo wg wb)).out).length:Int):Int) - 1));let y_3:=(List.getD ((Z2 (Wst.mk wo wg wb)).out) y_2 Op.nil);let y_4:=(JF y_3.e);let zz0:=(decide ((0:Int)<=(((((Z2 (Wst.mk wo wg wb)).out).length:Int):Int) - 1)));(Z22 ((wo,wg,wb,()),()))/\((InR (((((Z2 (Wst.mk wo wg wb)).out).length:Int):Int) - 1))/\((Tr (zz0=true))/\(Tr (zz0=true))/\(Tr (zz0=true))/\(Tr (zz0=true))/\(Tr (zz0=true))/\(zz0=true->(0:Int)<=(((((Z2 (Wst.mk wo wg wb)).out).length:Int):Int) - 1)/\(((((Z2 (Wst.mk wo wg wb)).out).length:Int):Int) - 1) < (((Z2 (Wst.mk wo wg wb)).out).length:Int))/\(Tr (zz0=true))/\(Tr (zz0=true))/\(Tr (zz0=true))/\(Tr (zz0=true))/\(((bif zz0 then (y_3.kind==0) else false)=true->((0:Int)<=(((((Z2 (Wst.mk wo wg wb)).out).length:Int):Int) - 1)/\(((((Z2 (Wst.mk wo wg wb)).out).length:Int):Int) - 1) < (((Z2 (Wst.mk wo wg wb)).out).length:Int))/\(InR (y_3.n+n))/\((0:Int)<=(((((Z2 (Wst.mk wo wg wb)).out).length:Int):Int) - 1)/\(((((Z2 (Wst.mk wo wg wb)).out).length:Int):Int) - 1) < (((Z2 (Wst.mk wo wg wb)).out).length:Int))/\((0:Nat)<=y_2)/\(Q .ret (⟨[],[(.x 0,[.mref (.x 0 0),sU .tree ((Z2 (Wst.mk wo wg wb)).gone) (.own (.x 0 1)),sU .tree ((Z2 (Wst.mk wo wg wb)).brought) (.own (.x 0 2))])],[(.x 0 0,LC.mk (U:=U) .op (List.set ((Z2 (Wst.mk wo wg wb)).out) y_2 (OpOf.mk y_3.kind (y_3.n+n) y_3.l y_4:Op)) 0)]⟩:LSt U)))/\((bif zz0 then (y_3.kind==0) else false)=false->((((Z2 (Wst.mk wo wg wb)).out).length+([(OpOf.mk 0 0 [] y_1:Op)]).length)*240<=140737488355328)/\((0:Int)<=(((Z2 (Wst.mk wo wg wb)).out).length:Int)/\(((Z2 (Wst.mk wo wg wb)).out).length:Int) < ((((Z2 (Wst.mk wo wg wb)).out)++([(OpOf.mk 0 0 [] y_1:Op)])).length:Int))/\((0:Nat)<=(Int.toNat (((Z2 (Wst.mk wo wg wb)).out).length:Int)))/\(Q .normal (⟨[],[(.x 0,[.mref (.x 0 0),sU .tree ((Z2 (Wst.mk wo wg wb)).gone) (.own (.x 0 1)),sU .tree ((Z2 (Wst.mk wo wg wb)).brought) (.own (.x 0 2))])],[(.x 0 0,LC.mk (U:=U) .op (List.set (((Z2 (Wst.mk wo wg wb)).out)++([(OpOf.mk 0 0 [] y_1:Op)])) (Int.toNat (((Z2 (Wst.mk wo wg wb)).out).length:Int)) (OpOf.mk 0 n [] y_1:Op)) 0)]⟩:LSt U))))))):=V4
 exact e_.mpr (by intro y_1 y_2 y_3 y_4;have hh:=h y_1 rfl y_2 rfl y_3 rfl y_4 (Z7 _);exact ⟨hh.1,⟨hh.2.1,⟨id,id,id,id,id,hh.2.2.1,id,id,id,(by generalize (decide ((0:Int)<=(((((Z2 (Wst.mk wo wg wb)).out).length:Int):Int) - 1)))=b0;revert b0;decide),⟨fun c_4=> ⟨(hh.2.2.2.1 c_4).1,(hh.2.2.2.1 c_4).2.1,(hh.2.2.2.1 c_4).2.2.1,(hh.2.2.2.1 c_4).2.2.2.1,(hh.2.2.2.1 c_4).2.2.2.2⟩,fun c_4=> ⟨(hh.2.2.2.2 c_4).1,(hh.2.2.2.2 c_4).2.1,(hh.2.2.2.2 c_4).2.2.1,(hh.2.2.2.2 c_4).2.2.2⟩⟩⟩⟩⟩)
def ZBv(wo:List Op)(wg wb:List Tree)(n:Int):Prop:=AW (Z0 Zqm) Tryz.f147 Zwq [] (JK (ZdO.can ((wo,wg,wb,()),n,())) (ZdO.canX ((wo,wg,wb,()),n,())) (ZdO.canL ((wo,wg,wb,()),n,()))) (Z09 cfg Tryz.f147.ntmps Tryz.f147.results.toList (ZmS ((wo,wg,wb,()),n,())) (Zi8 ((wo,wg,wb,()),n,())) (Zi9 ((wo,wg,wb,()),n,())))
theorem ZzE(Zt5:CT 150 Z2j)(hb:∀ (wo:List Op) (wg:List Tree) (wb:List Tree) (n:Int) (_:Unit),Z4Z ((wo,wg,wb,()),n,())->ZBv wo wg wb n):CT 147 Z6x:=
 Yg (l:=[(150,Z2j)]) Zi rfl (⟨Zt5,trivial⟩) Zwq Tryz.func147 rfl rfl 2 (fun _=> rfl) V1 (fun ⟨⟨wo,wg,wb,_⟩,n,_⟩=> hb wo wg wb n ())
def ZdA:List (FuncId × Fs U):=[(75,Z0l)]
def ZlE:Zc U:=lvk [([0,6,7,8],[((.x 0),[.wr .op])]),([0,6,7,8,9],[((.x 0),[.wr .op])]),([0,5,6,7,8],[5,((.x 0),[.wr .op])]),([0,6,7,8],[((.x 0),[.wr .op])]),([0,6,7,8],[((.x 0),[.wr .op])])]
def Z7j(wo:List Op)(wg wb l:List Tree)(x8:Int)(mx0_1:List Tree):LSt U:=(⟨[(0,.ptr (.x 0) 1),(6,.c (sU .tree l .unk)),pI 7 (l.length:Int),pI 8 x8],[(.x 0,[.mref (.x 0 0),sU .tree mx0_1 (.own (.x 0 1)),sU .tree wb (.own (.x 0 2))])],[(.x 0 0,LC.mk (U:=U) .op wo 0)]⟩:LSt U)
abbrev ZI2(wo:List Op)(wg wb l:List Tree)(Q:QT):=AW (Z0 ZdA) Tryz.f148 ZlE [] (⟨[(0,.ptr (.x 0) 1),(1,.c (sU .tree l .unk))],[(.x 0,[.mref (.x 0 0),sU .tree wg (.own (.x 0 1)),sU .tree wb (.own (.x 0 2))])],[(.x 0 0,LC.mk (U:=U) .op wo 0)]⟩:LSt U) Q
theorem ZGR(wo:List Op)(wg wb l:List Tree)(Q:QT)(h:Zd (AW (Z0 ZdA) Tryz.f148 ZlE [1,0,0]) (Z7j wo wg wb l 0 wg) (xB 0 Q)):
  ZI2 wo wg wb l Q:=by
 have e_:(ZI2 wo wg wb l Q)=(type_of% h):=V4
 exact e_.mpr h
abbrev ZrQ(wo:List Op)(wg wb l:List Tree)(x8:Int)(mx0_1:List Tree)(N0:NT)(Q:QT):=AW (Z0 ZdA) Tryz.f148 ZlE [1,0,0] (Z7j wo wg wb l x8 mx0_1) (xT N0 (xB 0 Q))
theorem ZtZ(wo:List Op)(wg wb l:List Tree)(x8:Int)(mx0_1:List Tree)(N0:NT)(Q:QT)(h:((decide (x8 < (l.length:Int)))=true->((0:Int)<=x8/\x8 < (l.length:Int))/\((Jy ((Tree.mk (Tree.kind (l.getD x8.toNat Tree.nil)) (Tree.words (l.getD x8.toNat Tree.nil)) (Tree.kids (l.getD x8.toNat Tree.nil))),()))/\((mx0_1.length+([(Tree.mk 0 [] [])]).length)*56<=140737488355328)/\((0:Int)<=(mx0_1.length:Int)/\(mx0_1.length:Int) < ((mx0_1++([(Tree.mk 0 [] [])])).length:Int))/\(mx0_1.length<=(Int.toNat (mx0_1.length:Int)))/\((InR (x8+1))/\(N0 (Z7j wo wg wb l (x8+1) (List.set (mx0_1++([(Tree.mk 0 [] [])])) (Int.toNat (mx0_1.length:Int)) (Tree.mk (Tree.kind (Z4 (Tree.mk (Tree.kind (l.getD x8.toNat Tree.nil)) (Tree.words (l.getD x8.toNat Tree.nil)) (Tree.kids (l.getD x8.toNat Tree.nil))))) (Tree.words (Z4 (Tree.mk (Tree.kind (l.getD x8.toNat Tree.nil)) (Tree.words (l.getD x8.toNat Tree.nil)) (Tree.kids (l.getD x8.toNat Tree.nil))))) (Tree.kids (Z4 (Tree.mk (Tree.kind (l.getD x8.toNat Tree.nil)) (Tree.words (l.getD x8.toNat Tree.nil)) (Tree.kids (l.getD x8.toNat Tree.nil))))))))))))/\((decide (x8 < (l.length:Int)))=false->Q .normal (⟨[(0,.ptr (.x 0) 1),(6,.c (sU .tree l .unk)),pI 7 (l.length:Int),pI 8 x8,pB 9 (decide (x8 < (l.length:Int)))],[(.x 0,[.mref (.x 0 0),sU .tree mx0_1 (.own (.x 0 1)),sU .tree wb (.own (.x 0 2))])],[(.x 0 0,LC.mk (U:=U) .op wo 0)]⟩:LSt U))):
  ZrQ wo wg wb l x8 mx0_1 N0 Q:=by
 have e_:(ZrQ wo wg wb l x8 mx0_1 N0 Q)=(type_of% h):=V4
 exact e_.mpr ⟨fun c_5=> ⟨(h.1 c_5).1,⟨(h.1 c_5).2.1,(h.1 c_5).2.2.1,(h.1 c_5).2.2.2.1,(h.1 c_5).2.2.2.2.1,⟨(h.1 c_5).2.2.2.2.2.1,(h.1 c_5).2.2.2.2.2.2⟩⟩⟩,fun c_5=> (h.2 c_5)⟩
def ZBu(wo:List Op)(wg wb l:List Tree):Prop:=AW (Z0 ZdA) Tryz.f148 ZlE [] (JK (ZdN.can ((wo,wg,wb,()),l,())) (ZdN.canX ((wo,wg,wb,()),l,())) (ZdN.canL ((wo,wg,wb,()),l,()))) (Z09 cfg Tryz.f148.ntmps Tryz.f148.results.toList (Zv1 ((wo,wg,wb,()),l,())) (ZoO ((wo,wg,wb,()),l,())) (ZoP ((wo,wg,wb,()),l,())))
theorem ZzD(c75:CT 75 Z0l)(hb:∀ (wo:List Op) (wg:List Tree) (wb:List Tree) (l:List Tree) (_:Unit),ZaW ((wo,wg,wb,()),l,())->ZBu wo wg wb l):CT 148 ZhU:=
 Yg (l:=[(75,Z0l)]) Zi rfl (⟨c75,trivial⟩) ZlE Tryz.func148 rfl rfl 2 (fun _=> rfl) V1 (fun ⟨⟨wo,wg,wb,_⟩,l,_⟩=> hb wo wg wb l ())
def Z5c(wo:List Op)(wg wb l:List Tree)(x8:Int)(mx0_2:List Tree):LSt U:=(⟨[(0,.ptr (.x 0) 2),(6,.c (sU .tree l .unk)),pI 7 (l.length:Int),pI 8 x8],[(.x 0,[.mref (.x 0 0),sU .tree wg (.own (.x 0 1)),sU .tree mx0_2 (.own (.x 0 2))])],[(.x 0 0,LC.mk (U:=U) .op wo 0)]⟩:LSt U)
abbrev ZCB(wo:List Op)(wg wb l:List Tree)(Q:QT):=AW (Z0 ZdA) Tryz.f148 ZlE [] (⟨[(0,.ptr (.x 0) 2),(1,.c (sU .tree l .unk))],[(.x 0,[.mref (.x 0 0),sU .tree wg (.own (.x 0 1)),sU .tree wb (.own (.x 0 2))])],[(.x 0 0,LC.mk (U:=U) .op wo 0)]⟩:LSt U) Q
theorem ZCX(wo:List Op)(wg wb l:List Tree)(Q:QT)(h:Zd (AW (Z0 ZdA) Tryz.f148 ZlE [1,0,0]) (Z5c wo wg wb l 0 wb) (xB 0 Q)):
  ZCB wo wg wb l Q:=by
 have e_:(ZCB wo wg wb l Q)=(type_of% h):=V4
 exact e_.mpr h
abbrev Zmn(wo:List Op)(wg wb l:List Tree)(x8:Int)(mx0_2:List Tree)(N0:NT)(Q:QT):=AW (Z0 ZdA) Tryz.f148 ZlE [1,0,0] (Z5c wo wg wb l x8 mx0_2) (xT N0 (xB 0 Q))
theorem ZrZ(wo:List Op)(wg wb l:List Tree)(x8:Int)(mx0_2:List Tree)(N0:NT)(Q:QT)(h:((decide (x8 < (l.length:Int)))=true->((0:Int)<=x8/\x8 < (l.length:Int))/\((Jy ((Tree.mk (Tree.kind (l.getD x8.toNat Tree.nil)) (Tree.words (l.getD x8.toNat Tree.nil)) (Tree.kids (l.getD x8.toNat Tree.nil))),()))/\((mx0_2.length+([(Tree.mk 0 [] [])]).length)*56<=140737488355328)/\((0:Int)<=(mx0_2.length:Int)/\(mx0_2.length:Int) < ((mx0_2++([(Tree.mk 0 [] [])])).length:Int))/\(mx0_2.length<=(Int.toNat (mx0_2.length:Int)))/\((InR (x8+1))/\(N0 (Z5c wo wg wb l (x8+1) (List.set (mx0_2++([(Tree.mk 0 [] [])])) (Int.toNat (mx0_2.length:Int)) (Tree.mk (Tree.kind (Z4 (Tree.mk (Tree.kind (l.getD x8.toNat Tree.nil)) (Tree.words (l.getD x8.toNat Tree.nil)) (Tree.kids (l.getD x8.toNat Tree.nil))))) (Tree.words (Z4 (Tree.mk (Tree.kind (l.getD x8.toNat Tree.nil)) (Tree.words (l.getD x8.toNat Tree.nil)) (Tree.kids (l.getD x8.toNat Tree.nil))))) (Tree.kids (Z4 (Tree.mk (Tree.kind (l.getD x8.toNat Tree.nil)) (Tree.words (l.getD x8.toNat Tree.nil)) (Tree.kids (l.getD x8.toNat Tree.nil))))))))))))/\((decide (x8 < (l.length:Int)))=false->Q .normal (⟨[(0,.ptr (.x 0) 2),(6,.c (sU .tree l .unk)),pI 7 (l.length:Int),pI 8 x8,pB 9 (decide (x8 < (l.length:Int)))],[(.x 0,[.mref (.x 0 0),sU .tree wg (.own (.x 0 1)),sU .tree mx0_2 (.own (.x 0 2))])],[(.x 0 0,LC.mk (U:=U) .op wo 0)]⟩:LSt U))):
  Zmn wo wg wb l x8 mx0_2 N0 Q:=by
 have e_:(Zmn wo wg wb l x8 mx0_2 N0 Q)=(type_of% h):=V4
 exact e_.mpr ⟨fun c_6=> ⟨(h.1 c_6).1,⟨(h.1 c_6).2.1,(h.1 c_6).2.2.1,(h.1 c_6).2.2.2.1,(h.1 c_6).2.2.2.2.1,⟨(h.1 c_6).2.2.2.2.2.1,(h.1 c_6).2.2.2.2.2.2⟩⟩⟩,fun c_6=> (h.2 c_6)⟩
def ZxS(wo:List Op)(wg wb l:List Tree):Prop:=AW (Z0 ZdA) Tryz.f148 ZlE [] (JK (Zar.can ((wo,wg,wb,()),l,())) (Zar.canX ((wo,wg,wb,()),l,())) (Zar.canL ((wo,wg,wb,()),l,()))) (Z09 cfg Tryz.f148.ntmps Tryz.f148.results.toList (Zv1 ((wo,wg,wb,()),l,())) (ZkK ((wo,wg,wb,()),l,())) (ZkL ((wo,wg,wb,()),l,())))
theorem ZvW(c75:CT 75 Z0l)(hb:∀ (wo:List Op) (wg:List Tree) (wb:List Tree) (l:List Tree) (_:Unit),ZaW ((wo,wg,wb,()),l,())->ZxS wo wg wb l):CT 148 Zew:=
 Yg (l:=[(75,Z0l)]) Zi rfl (⟨c75,trivial⟩) ZlE Tryz.func148 rfl rfl 2 (fun _=> rfl) V1 (fun ⟨⟨wo,wg,wb,_⟩,l,_⟩=> hb wo wg wb l ())
def Znr:Zc U:=lvl [([0,3],[3]),([4],[])]
abbrev ZCA(list:Int)(e:Edit)(Q:QT):=AW (Z0 ZnJ) Tryz.f149 Znr [] (L2 [pI 0 list,(1,.agg (enc .edit e))] []) Q
theorem ZCW(list:Int)(e:Edit)(Q:QT)(h:(((!(e.kind==0)) && (bif (list==9) then (e.kind==2) else false))=true->InR (((e.words.length:Int):Int)+(e.kids.length:Int)))/\(Q .ret (L2 [(4,.c (.bool (bif (e.kind==0) then true else (bif (bif (list==9) then (e.kind==2) else false) then (((((e.words.length:Int):Int)+(e.kids.length:Int)):Int)==0) else false))))] []))):
  ZCA list e Q:=by
 have e_:(ZCA list e Q)=(let zz1:=(!(e.kind==0));let zz0:=(bif ((list:Int)==9) then (e.kind==2) else false);((Tr (zz1=true))/\(Tr (zz1=true))/\(Tr ((zz1 && ((list:Int)==9))=true))/\(Tr ((zz1 && ((list:Int)==9))=true))/\(zz1=true->(True->zz1=true))/\(zz1=true->(((list:Int)==9)=true->(zz1 && ((list:Int)==9))=true))/\(Tr (zz1=true))/\(Tr ((zz1 && zz0)=true))/\(Tr ((zz1 && zz0)=true))/\(Tr ((zz1 && zz0)=true))/\(Tr ((zz1 && zz0)=true))/\(Tr ((zz1 && zz0)=true))/\(Tr ((zz1 && zz0)=true))/\((zz1 && zz0)=true->InR ((e.words.length:Int)+(e.kids.length:Int)))/\(Tr ((zz1 && zz0)=true))/\(zz1=true->(True->zz1=true))/\(zz1=true->(zz0=true->(zz1 && zz0)=true))/\((e.kind==0)=false->zz1=true)/\(Q .ret (L2 [(4,.c (.bool (bif (e.kind==0) then true else (bif zz0 then ((((e.words.length:Int)+(e.kids.length:Int)):Int)==0) else false))))] [])))):=V4
 exact e_.mpr ⟨id,id,id,id,(by generalize ((e.kind:Int)==0)=b0;revert b0;decide),(by generalize ((e.kind:Int)==0)=b0;generalize ((list:Int)==9)=b1;revert b0 b1;decide),id,id,id,id,id,id,id,h.1,id,(by generalize ((e.kind:Int)==0)=b0;revert b0;decide),(by generalize ((e.kind:Int)==2)=b0;generalize ((e.kind:Int)==0)=b1;generalize ((list:Int)==9)=b2;revert b0 b1 b2;decide),(by generalize ((e.kind:Int)==0)=b0;revert b0;decide),h.2⟩
def ZxR(list:Int)(e:Edit):Prop:=AW (Z0 ZnJ) Tryz.f149 Znr [] (Zh (Zmc.can (list,e,())) []) (EQ Tryz.f149 (ZoV (list,e,())) [])
theorem ZvV(hb:∀ (list:Int) (e:Edit) (_:Unit),Z6J (list,e,())->ZxR list e):CT 149 Z43:=
 Z1 (l:=[]) Zi rfl trivial Znr Tryz.func149 rfl rfl 2 (fun _=> rfl) V1 (fun ⟨list,e,_⟩=> hb list e ())
abbrev ZCC(list:Int)(e:Edit)(Q:QT):=AW (Z0 ZnJ) Tryz.f128 Znr [] (L2 [pI 0 list,(1,.agg (enc .edit e))] []) Q
theorem ZCY(list:Int)(e:Edit)(Q:QT)(h:Q .ret (L2 [(4,.c (.bool (bif (e.kind==0) then true else (bif (bif (bif (e.kind==2) then (list==9) else false) then (((e.words.length:Int):Int)==0) else false) then (((e.kids.length:Int):Int)==0) else false))))] [])):
  ZCC list e Q:=by
 have e_:(ZCC list e Q)=(let zz2:=(bif (e.kind==2) then ((list:Int)==9) else false);let zz1:=(!(e.kind==0));let zz0:=(bif zz2 then ((e.words.length:Int)==0) else false);((Tr (zz1=true))/\(Tr (zz1=true))/\(Tr (zz1=true))/\(Tr ((zz1 && (e.kind==2))=true))/\(zz1=true->(True->zz1=true))/\(zz1=true->((e.kind==2)=true->(zz1 && (e.kind==2))=true))/\(Tr (zz1=true))/\(Tr ((zz1 && zz2)=true))/\(Tr ((zz1 && zz2)=true))/\(Tr ((zz1 && zz2)=true))/\(zz1=true->(True->zz1=true))/\(zz1=true->(zz2=true->(zz1 && zz2)=true))/\(Tr (zz1=true))/\(Tr ((zz1 && zz0)=true))/\(Tr ((zz1 && zz0)=true))/\(Tr ((zz1 && zz0)=true))/\(zz1=true->(True->zz1=true))/\(zz1=true->(zz0=true->(zz1 && zz0)=true))/\((e.kind==0)=false->zz1=true)/\(Q .ret (L2 [(4,.c (.bool (bif (e.kind==0) then true else (bif zz0 then ((e.kids.length:Int)==0) else false))))] [])))):=V4
 exact e_.mpr ⟨id,id,id,id,(by generalize ((e.kind:Int)==0)=b0;revert b0;decide),(by generalize ((e.kind:Int)==2)=b0;generalize ((e.kind:Int)==0)=b1;revert b0 b1;decide),id,id,id,id,(by generalize ((e.kind:Int)==0)=b0;revert b0;decide),(by generalize ((e.kind:Int)==2)=b0;generalize ((e.kind:Int)==0)=b1;generalize ((list:Int)==9)=b2;revert b0 b1 b2;decide),id,id,id,id,(by generalize ((e.kind:Int)==0)=b0;revert b0;decide),(by generalize (((e.words.length:Int):Int)==0)=b0;generalize ((e.kind:Int)==2)=b1;generalize ((e.kind:Int)==0)=b2;generalize ((list:Int)==9)=b3;revert b0 b1 b2 b3;decide),(by generalize ((e.kind:Int)==0)=b0;revert b0;decide),h⟩
def ZxT(list:Int)(e:Edit):Prop:=AW (Z0 ZnJ) Tryz.f128 Znr [] (Zh (Zmc.can (list,e,())) []) (EQ Tryz.f128 (ZoV (list,e,())) [])
theorem ZvX(hb:∀ (list:Int) (e:Edit) (_:Unit),Z9t (list,e,())->ZxT list e):CT 128 Z44:=
 Z1 (l:=[]) Zi rfl trivial Znr Tryz.func128 rfl rfl 2 (fun _=> rfl) V1 (fun ⟨list,e,_⟩=> hb list e ())
end
theorem Z1S{α:Type}(l:List α)(z x:α):(l++[z]).set (Int.toNat (l.length:Int)) x=l++[x]:=by
 rw [Xd,Kh _ _ (Qb _)]
 simp
theorem Z69:∀ (F:List Op) (n:Int),Jp F n=if F.length≠0/\(F.getD (F.length - 1) Op.nil).kind=0 then F.set (F.length - 1) ⟨(F.getD (F.length - 1) Op.nil).kind,(F.getD (F.length - 1) Op.nil).n+n,(F.getD (F.length - 1) Op.nil).l,(F.getD (F.length - 1) Op.nil).e⟩ else F++[⟨0,n,[],Edit.nil⟩]
 | [],n=> by simp [Jp]
 | [o],n=> by simp [Jp]
 | o ::p ::r,n=> by
  have ih:=Z69 (p ::r) n
  have e:(o ::p ::r).length - 1=((p ::r).length - 1)+1:=by simp
  rw [Jp,ih,e]
  simp only [K2,List.set_cons_succ]
  by_cases h:(p ::r).length≠0/\((p ::r).getD ((p ::r).length - 1) Op.nil).kind=0
  .rw [if_pos h,if_pos ⟨by simp,h.2⟩]
  .have h':¬((p ::r).getD ((p ::r).length - 1) Op.nil).kind=0:=fun e=> h ⟨by simp,e⟩
   rw [if_neg h,if_neg (fun e=> h' e.2)]
   try rfl
theorem Z7C(s:Wst):(Z2 s).out.length<=s.out.length+2:=by
 simp only [Z2,Z0r]
 split <;> split <;> simp
theorem Z7B(s:Wst):∀ o∈(Z2 s).out,o∈s.out\/o.n=0:=by
 intro o ho
 simp only [Z2,Z0r,Qh] at ho
 rcases ho with h | h | h
 .exact .inl h
 .split at h
  .cases h
  .simp only [Qf] at h;subst h;exact .inr rfl
 .split at h
  .cases h
  .simp only [Qf] at h;subst h;exact .inr rfl
theorem Zt5:Contract Tryz.prog cfg 150 Z2j:=by
 refine ZzC ?_
 intro wo wg wb _ hp
 simp only [Z22] at hp
 refine ZGQ wo wg wb _ ?_
 rintro y1 hy1 y2 hy2
 have hy:y1=Edit.nil:=hy1
 subst hy
 rw [Z1S] at hy2
 subst hy2
 (simp only [iB,vcS])
 refine ⟨fun h1=> ⟨by simp;omega,by simp;omega,YS,fun h2=> ⟨by simp;omega,by simp;omega,YS,?_⟩,fun h2=> ?_⟩,fun h1=> ⟨fun h2=> ⟨by simp;omega,by simp;omega,YS,?_⟩,fun h2=> ?_⟩⟩
 .rw [Z1S]
  have e:Z2 ⟨wo,wg,wb⟩=⟨wo++[⟨1,0,wg,Edit.nil⟩]++[⟨2,0,wb,Edit.nil⟩],[],[]⟩:=by
   simp only [Z2,Z0r];rw [JL,JL];simp
  simp only [ZaN,Z6H,Z6I,e]
  exact JP
 .have e:Z2 ⟨wo,wg,wb⟩=⟨wo++[⟨1,0,wg,Edit.nil⟩],[],[]⟩:=by
   simp only [Z2,Z0r];rw [JL,V0];simp
  simp only [ZaN,Z6H,Z6I,e]
  exact JP
 .rw [Z1S]
  have e:Z2 ⟨wo,wg,wb⟩=⟨wo++[⟨2,0,wb,Edit.nil⟩],[],[]⟩:=by
   simp only [Z2,Z0r];rw [V0,JL];simp
  simp only [ZaN,Z6H,Z6I,e]
  exact JP
 .have e:Z2 ⟨wo,wg,wb⟩=⟨wo,[],[]⟩:=by
   simp only [Z2,Z0r];rw [V0,V0];simp
  simp only [ZaN,Z6H,Z6I,e]
  exact JP
theorem ZEL:Contract Tryz.prog cfg 147 Z6x:=by
 refine ZzE Zt5 ?_
 intro wo wg wb n _ hp
 simp only [Z4Z] at hp
 obtain ⟨p1,p2,p3,p4,p5,p6⟩:=hp
 have hfl:=Z7C ⟨wo,wg,wb⟩
 have hfm:=Z7B ⟨wo,wg,wb⟩
 have hg:(Z2 ⟨wo,wg,wb⟩).gone=[]:=rfl
 have hb:(Z2 ⟨wo,wg,wb⟩).brought=[]:=rfl
 have hk:=Z69 (Z2 ⟨wo,wg,wb⟩).out n
 have hkw:ZM ⟨wo,wg,wb⟩ n=⟨Jp (Z2 ⟨wo,wg,wb⟩).out n,[],[]⟩:=rfl
 refine ZGS wo wg wb n _ ?_
 simp only [hg,hb,ZmS,Zi8,Zi9,hkw]
 generalize (Z2 ⟨wo,wg,wb⟩).out=F at*
 simp only at hfl hfm
 rintro y1 hy1 y2 hy2 y3 hy3 y4 hy4
 have hy:y1=Edit.nil:=hy1
 subst hy
 have e2:y2=F.length - 1:=YS
 subst e2
 rw [<-hy3,<-hy4] at hk
 (simp only [iB,vcS])
 refine ⟨by simp only [Z22];exact ⟨p1,p2,p3⟩,V3,fun h=> ⟨h,YS⟩,fun h=> ?_,fun h=> ?_⟩
 .have hy3n:0<=y3.n/\y3.n<=100000000000000000:=by
   have hm:y3∈F:=by rw [hy3];exact Ze YS _
   rcases hfm y3 hm with h1 | h1
   .exact p4 y3 h1
   .omega
  rw [if_pos ⟨YS,h.2⟩] at hk
  rw [hk]
  refine ⟨YS,V3,YS,YS,?_⟩
  exact JP
 .rw [JL] at hk
  rw [hk,Z1S]
  refine ⟨by simp;omega,by simp;omega,YS,?_⟩
  exact JP
theorem ZJ3:Contract Tryz.prog cfg 148 ZhU:=by
 refine ZzD c75 ?_
 intro wo wg wb l _ hp
 simp only [ZaW] at hp
 obtain ⟨p1,p2,p3,p4⟩:=hp
 have hl:=Zq l
 refine ZGR _ _ _ _ _ ?_
 refine Z5 (ι:=Int × List Tree) (fun s=> Z7j wo wg wb l s.1 s.2) (fun s=> 0<=s.1/\s.1<=l.length/\s.2.length=wg.length+s.1/\s.2++Z8 (l.drop s.1.toNat)=wg++Z8 l) (fun s=> ((l.length:Int) - s.1).toNat) (0,wg) rfl ⟨by simp,by simp,by simp,by simp⟩ ?_
 rintro ⟨i,out⟩ ⟨h1,h2,h3,h4⟩
 dsimp only at h1 h2 h3 h4
 refine ZtZ _ _ _ _ _ _ _ _ ?_
 (simp only [iB,vcS])
 (simp only [Tree.eta,Edit.eta,Tree.kind_mk,Tree.words_mk,Tree.kids_mk])
 refine ⟨fun hi=> ?_,fun hi=> ?_⟩
 .have hm:=YN (Ze (l:=l) (i:=i.toNat) YS Tree.nil)
  rw [ZQ h1 hi Tree.nil] at h4
  simp only [Z8,Qn] at h4
  rw [Z1S]
  refine ⟨⟨h1,hi⟩,by simp only [Jy];omega,by simp;omega,by simp;omega,YS,V3,(i+1,out++[Z4 (l.getD i.toNat Tree.nil)]),rfl,⟨V2,V2,by simp;omega,?_⟩,V2⟩
  simp only [Qa,Qp,Qr]
  exact h4
 .rw [Q9 YS] at h4
  simp only [Z8,QU,Qo] at h4
  rw [h4]
  exact JP
theorem ZHT:Contract Tryz.prog cfg 148 Zew:=by
 refine ZvW c75 ?_
 intro wo wg wb l _ hp
 simp only [ZaW] at hp
 obtain ⟨p1,p2,p3,p4⟩:=hp
 have hl:=Zq l
 refine ZCX _ _ _ _ _ ?_
 refine Z5 (ι:=Int × List Tree) (fun s=> Z5c wo wg wb l s.1 s.2) (fun s=> 0<=s.1/\s.1<=l.length/\s.2.length=wb.length+s.1/\s.2++Z8 (l.drop s.1.toNat)=wb++Z8 l) (fun s=> ((l.length:Int) - s.1).toNat) (0,wb) rfl ⟨by simp,by simp,by simp,by simp⟩ ?_
 rintro ⟨i,out⟩ ⟨h1,h2,h3,h4⟩
 dsimp only at h1 h2 h3 h4
 refine ZrZ _ _ _ _ _ _ _ _ ?_
 (simp only [iB,vcS])
 (simp only [Tree.eta,Edit.eta,Tree.kind_mk,Tree.words_mk,Tree.kids_mk])
 refine ⟨fun hi=> ?_,fun hi=> ?_⟩
 .have hm:=YN (Ze (l:=l) (i:=i.toNat) YS Tree.nil)
  rw [ZQ h1 hi Tree.nil] at h4
  simp only [Z8,Qn] at h4
  rw [Z1S]
  refine ⟨⟨h1,hi⟩,by simp only [Jy];omega,by simp;omega,by simp;omega,YS,V3,(i+1,out++[Z4 (l.getD i.toNat Tree.nil)]),rfl,⟨V2,V2,by simp;omega,?_⟩,V2⟩
  simp only [Qa,Qp,Qr]
  exact h4
 .rw [Q9 YS] at h4
  simp only [Z8,QU,Qo] at h4
  rw [h4]
  exact JP
theorem Zxo:Contract Tryz.prog cfg 149 Z43:=by
 refine ZvV ?_
 intro list e _ hp
 simp only [Z6J] at hp
 refine ZCW _ _ _ ?_
 refine ⟨fun _=> by unfold InR;dsimp only;omega,Zf rfl ?_⟩
 rw [Qs]
 simp only [Z3F]
 (simp only [iB,vcS])
 omega
theorem Zxp:Contract Tryz.prog cfg 128 Z44:=by
 refine ZvX ?_
 intro list e _ hp
 refine ZCY _ _ _ ?_
 refine Zf rfl ?_
 rw [Qs]
 simp only [Z3F]
 (simp only [iB,vcS])
 omega
noncomputable def Z5z:Fs U:=ZE6 ZhU Zew
theorem Zxl:Contract Tryz.prog cfg 148 Z5z:=Zm8 ZJ3 ZHT
noncomputable section
noncomputable section
def Z29(a:Edit × Unit):Prop:=Z3 a.1<=20000000000/\∃ d,Zb a.1 d=true
def ZfD(a:Edit × Unit):Nat:=2*Z3 a.1
def ZbU(a:Edit × Unit):V U:= .agg (enc .edit (Zn a.1))
def Zen:Fs U:=fs Zrz (fun a=> [Z29 a]) ZbU
def ZdS:ArgL (Int × List Op × Unit):=(.cons (J9 .i64) (.cons (aSl .op) .nil))
def Z5N(a:Int × List Op × Unit):Prop:=Zg a.2.1<=20000000000/\∀ o∈a.2.1,∃ d,Zk a.1 o d=true
def Zcb(a:Int × List Op × Unit):Nat:=2*Zg a.2.1+1
def ZeQ(a:Int × List Op × Unit):V U:= .c (sU .op ((Z2 (Zt a.1 a.2.1 (Wst.mk [] [] []))).out) .unk)
def ZoD:Fs U:=fs ZdS (fun a=> [Z5N a]) ZeQ
def Z3S(N:Nat):List (FuncId × Fs U):=(67,fs Zrz (fun a=> [Z29 a,ZfD a < N]) ZbU) ::(107,fs ZdS (fun a=> [Z5N a,Zcb a < N]) ZeQ) ::[(75,Z0l),(149,Z43),(147,Z6x),(150,Z2j),(148,Z5z)]
def Zj9:Zc U:=lvk [([1,2],[1,2]),([1,2,3],[1,2,3]),([1,2,3,12],[1,2,3]),([1,2,3,12,13],[1,2,3]),([2,3],[2,3]),([1,2,3,12,23],[1,2,3]),([1,2,3],[1,2,3]),([2,3,32,33,34],[2,((.loc 3),(an 8 [.own .kid]))]),([2,3,32,33,34,35],[2,3]),([2,3,5,32,33,34],[2,3,5]),([2,3,32,33,34],[2,3]),([2,3,32,33,34],[2,((.loc 3),(an 8 [.own .kid]))]),([1,2,3,50],[1,2,3]),([2,3],[2,3]),([2],[2])]
def Z4r(e:Edit)(x34:Int)(ml3_8:List Kid):LSt U:=(L2 [pL 2,pL 3,(32,.c (sU .kid e.kids .unk)),pI 33 (e.kids.length:Int),pI 34 x34] [(.loc 2,zc1),(.loc 3,[ci e.kind,ci 0,.nils,.nils,ci 0,.nils,.nils,sU .wedit (([]:List WEdit)++e.words) (.own (.l 3 7)),sU .kid ml3_8 (.own (.l 3 8)),ci e.list,.nils])])
abbrev W67(N:Nat)(e:Edit)(Q:QT):=AW (Z0 (Z3S N)) Tryz.f67 Zj9 [] (L2 [(0,.agg (enc .edit e))] []) Q
abbrev Zod(N:Nat):=awp cfg (Z0 (Z3S N)) (Yn cfg (Z0 (Z3S N))) Tryz.f67.ntmps Zj9
abbrev ZmG(N:Nat):=Zi0 cfg (Z0 (Z3S N)) (Yn cfg (Z0 (Z3S N))) Tryz.f67.ntmps Zj9
theorem ZIG(N:Nat)(e:Edit)(Q:QT)(h:((e.kind==1)=true->(Jy ((Tree.mk e.old.kind e.old.words e.old.kids),()))/\(Jy ((Tree.mk e.new.kind e.new.words e.new.kids),()))/\(Q .ret (L2 [pL 2] [(.loc 2,([ci e.kind]++enc .tree (Z4 (Tree.mk e.old.kind e.old.words e.old.kids))++enc .tree (Z4 (Tree.mk e.new.kind e.new.words e.new.kids))++[.nils,.nils,ci e.list,.nils]))])))/\((e.kind==1)=false->((e.kind==2)=true->((([]:List WEdit).length+e.words.length)*32<=140737488355328)/\(Zd (AW (Z0 (Z3S N)) Tryz.f67 Zj9 [1,1,0,1,0,1,1,1,0,1,1,0,0]) (Z4r e 0 []) (xB 1 (xB 0 (SW (Z0 (Z3S N)) Tryz.f67 Zj9 [1,1,1] Q)))))/\((e.kind==2)=false->((e.kind==3)=true->(Z5N (e.list,e.ops,()))/\(Zcb (e.list,e.ops,()) < N)/\(Q .ret (L2 [pL 2] [(.loc 2,[ci e.kind,ci 0,.nils,.nils,ci 0,.nils,.nils,.nils,.nils,ci e.list,sU .op ((Z2 (Zt e.list e.ops (Wst.mk [] [] []))).out) .unk])])))/\((e.kind==3)=false->Q .ret (L2 [pL 2] [(.loc 2,[ci e.kind,ci 0,.nils,.nils,ci 0,.nils,.nils,.nils,.nils,ci e.list,.nils])]))))):
  W67 N e Q:=by
 have e_:(W67 N e Q)=(((e.kind==1)=true->(Jy ((Tree.mk e.old.kind e.old.words e.old.kids),()))/\(Jy ((Tree.mk e.new.kind e.new.words e.new.kids),()))/\(Q .ret (L2 [pL 2] [(.loc 2,([ci e.kind]++enc .tree (Z4 (Tree.mk e.old.kind e.old.words e.old.kids))++enc .tree (Z4 (Tree.mk e.new.kind e.new.words e.new.kids))++[.nils,.nils,ci e.list,.nils]))])))/\((e.kind==1)=false->(((e.kind==2)=true->((([]:List WEdit).length+e.words.length)*32<=140737488355328)/\(Zd (Zod N (cd Tryz.f67 [1,1,0,1,0,1,1,1,0,1,1,0,0])) (Z4r e 0 []) (xB 1 (xB 0 (ZmG N (cd Tryz.f67 [1,1,1]) Q)))))/\((e.kind==2)=false->(((e.kind==3)=true->(Z5N (e.list,e.ops,()))/\(Zcb (e.list,e.ops,()) < N)/\(Q .ret (L2 [pL 2] [(.loc 2,[ci e.kind,ci 0,.nils,.nils,ci 0,.nils,.nils,.nils,.nils,ci e.list,sU .op ((Z2 (Zt e.list e.ops (Wst.mk [] [] []))).out) .unk])])))/\((e.kind==3)=false->(Q .ret (L2 [pL 2] [(.loc 2,[ci e.kind,ci 0,.nils,.nils,ci 0,.nils,.nils,.nils,.nils,ci e.list,.nils])])))))))):=V4
 exact e_.mpr ⟨fun c_1=> ⟨(h.1 c_1).1,(h.1 c_1).2.1,(h.1 c_1).2.2⟩,fun c_1=> ⟨fun c_2=> ⟨((h.2 c_1).1 c_2).1,((h.2 c_1).1 c_2).2⟩,fun c_2=> ⟨fun c_3=> ⟨(((h.2 c_1).2 c_2).1 c_3).1,(((h.2 c_1).2 c_2).1 c_3).2.1,(((h.2 c_1).2 c_2).1 c_3).2.2⟩,fun c_3=> (((h.2 c_1).2 c_2).2 c_3)⟩⟩⟩
abbrev ZxK(N:Nat)(e:Edit)(x34:Int)(ml3_8:List Kid)(N0:NT)(Q:QT):=AW (Z0 (Z3S N)) Tryz.f67 Zj9 [1,1,0,1,0,1,1,1,0,1,1,0,0] (Z4r e x34 ml3_8) (xT N0 (xB 1 (xB 0 (SW (Z0 (Z3S N)) Tryz.f67 Zj9 [1,1,1] Q))))
theorem Zyg(N:Nat)(e:Edit)(x34:Int)(ml3_8:List Kid)(N0:NT)(Q:QT)(h:∀ y_1,y_1=(e.kids.getD x34.toNat (KidOf.mk 0 Edit.nil))->∀ y_2,y_2=(y_1.e)->∀ y_3,y_3=(Zn y_2)->((decide (x34 < (e.kids.length:Int)))=true->((0:Int)<=x34/\x34 < (e.kids.length:Int))/\((Z29 (y_2,()))/\(ZfD (y_2,()) < N)/\((ml3_8.length+([(KidOf.mk y_1.at_ y_3:Kid)]).length)*208<=140737488355328)/\((InR (x34+1))/\(N0 (Z4r e (x34+1) (ml3_8++([(KidOf.mk y_1.at_ y_3:Kid)])))))))/\((decide (x34 < (e.kids.length:Int)))=false->Q .ret (L2 [pL 2] [(.loc 2,[ci e.kind,ci 0,.nils,.nils,ci 0,.nils,.nils,sU .wedit (([]:List WEdit)++e.words) (.own (.l 2 7)),sU .kid ml3_8 (.own (.l 2 8)),ci e.list,.nils])]))):
  ZxK N e x34 ml3_8 N0 Q:=by
 have e_:(ZxK N e x34 ml3_8 N0 Q)=(let y_1:=(e.kids.getD x34.toNat (KidOf.mk 0 Edit.nil));let y_2:=(JF y_1.e);let y_3:=(JF (Zn y_2));(((decide ((x34:Int) < (e.kids.length:Int)))=true->((0:Int)<=x34/\x34 < (e.kids.length:Int))/\((Z29 (y_2,()))/\(ZfD (y_2,()) < N)/\((ml3_8.length+([(KidOf.mk y_1.at_ y_3:Kid)]).length)*208<=140737488355328)/\((InR ((x34:Int)+1))/\(N0 (Z4r e ((x34:Int)+1) (ml3_8++([(KidOf.mk y_1.at_ y_3:Kid)])))))))/\((decide ((x34:Int) < (e.kids.length:Int)))=false->(Q .ret (L2 [pL 2] [(.loc 2,[ci e.kind,ci 0,.nils,.nils,ci 0,.nils,.nils,sU .wedit (([]:List WEdit)++e.words) (.own (.l 2 7)),sU .kid ml3_8 (.own (.l 2 8)),ci e.list,.nils])]))))):=V4
 exact e_.mpr (by intro y_1 y_2 y_3;have hh:=h y_1 rfl y_2 (Z7 _) y_3 (Z7 _);exact ⟨fun c_4=> ⟨(hh.1 c_4).1,⟨(hh.1 c_4).2.1,(hh.1 c_4).2.2.1,(hh.1 c_4).2.2.2.1,⟨(hh.1 c_4).2.2.2.2.1,(hh.1 c_4).2.2.2.2.2⟩⟩⟩,fun c_4=> (hh.2 c_4)⟩)
def ZFt(N:Nat)(e:Edit):Prop:=AW (Z0 (Z3S N)) Tryz.f67 Zj9 [] (Zh (Zrz.can (e,())) []) (EQ Tryz.f67 (ZbU (e,())) [])
abbrev ZIp:Prop:=∀ (N:Nat) (e:Edit) (_:Unit),Z29 (e,())->ZfD (e,()) < N+1->ZFt N e
def Z9M:Zc U:=lvk [([0,1],[]),([0,1,5],[((.loc 10),[.wr .op])]),([0,5,11,12,13],[((.loc 10),[.wr .op,.own .tree,.own .tree])]),([0,5,11,12,13,14],[((.loc 10),[.wr .op])]),([0,5,7,11,12,13],[7,((.loc 10),[.wr .op])]),([0,5,7,11,12,13,18],[7,((.loc 10),[.wr .op])]),([0,5,7,11,12,13,18,19],[7,((.loc 10),[.wr .op])]),([0,5,11,12,13],[((.loc 10),[.wr .op])]),([0,5,7,11,12,13,18,25],[7,((.loc 10),[.wr .op])]),([0,5,11,12,13],[((.loc 10),[.wr .op])]),([0,5,7,11,12,13,18,33],[7,((.loc 10),[.wr .op])]),([0,5,11,12,13],[((.loc 10),[.wr .op])]),([0,5,7,11,12,13,41],[7,((.loc 10),[.wr .op])]),([0,5,8,11,12,13],[8,((.loc 10),[.wr .op])]),([0,5,8,11,12,13,48],[8,((.loc 10),[.wr .op])]),([0,5,11,12,13],[((.loc 10),[.wr .op])]),([0,5,8,11,12,13],[8,((.loc 10),[.wr .op])]),([0,5,11,12,13],[((.loc 10),[.wr .op])]),([0,5,11,12,13],[((.loc 10),[.wr .op,.own .tree,.own .tree])]),([5],[((.loc 10),[.wr .op])]),([4],[])]
def Y8(list:Int)(l:List Op)(x13:Int)(rl_10_0:List Op)(ml10_1 ml10_2:List Tree):LSt U:=(⟨[pI 0 list,(5,.ptr (.loc 10) 0),(11,.c (sU .op l .unk)),pI 12 (l.length:Int),pI 13 x13],[(.loc 10,[.mref (.l 10 0),sU .tree ml10_1 (.own (.l 10 1)),sU .tree ml10_2 (.own (.l 10 2))])],[(.l 10 0,LC.mk (U:=U) .op rl_10_0 0)]⟩:LSt U)
abbrev ZI5(N:Nat)(list:Int)(l:List Op)(Q:QT):=AW (Z0 (Z3S N)) Tryz.f107 Z9M [] (L2 [pI 0 list,(1,.c (sU .op l .unk))] []) Q
abbrev Zmm(N:Nat):=awp cfg (Z0 (Z3S N)) (Yn cfg (Z0 (Z3S N))) Tryz.f107.ntmps Z9M
abbrev ZkB(N:Nat):=Zi0 cfg (Z0 (Z3S N)) (Yn cfg (Z0 (Z3S N))) Tryz.f107.ntmps Z9M
theorem ZHe(N:Nat)(list:Int)(l:List Op)(Q:QT)(h:Zd (AW (Z0 (Z3S N)) Tryz.f107 Z9M [1,1,0,1,0,0]) (Y8 list l 0 [] [] []) (xB 0 (SW (Z0 (Z3S N)) Tryz.f107 Z9M [1,1,1] Q))):
  ZI5 N list l Q:=by
 have e_:(ZI5 N list l Q)=(Zd (Zmm N (cd Tryz.f107 [1,1,0,1,0,0])) (Y8 list l 0 [] [] []) (xB 0 (ZkB N (cd Tryz.f107 [1,1,1]) Q))):=V4
 exact e_.mpr h
abbrev ZrS(N:Nat)(list:Int)(l:List Op)(x13:Int)(rl_10_0:List Op)(ml10_1 ml10_2:List Tree)(N0:NT)(Q:QT):=AW (Z0 (Z3S N)) Tryz.f107 Z9M [1,1,0,1,0,0] (Y8 list l x13 rl_10_0 ml10_1 ml10_2) (xT N0 (xB 0 (SW (Z0 (Z3S N)) Tryz.f107 Z9M [1,1,1] Q)))
theorem Zue(N:Nat)(list:Int)(l:List Op)(x13:Int)(rl_10_0:List Op)(ml10_1 ml10_2:List Tree)(N0:NT)(Q:QT)(h:∀ y_1,y_1=(l.getD x13.toNat Op.nil)->∀ y_2,y_2=(Edit.mk 0 (Tree.mk 0 [] []) (Tree.mk 0 [] []) [] [] 0 [])->∀ y_3,y_3=(Int.toNat (((Z2 (Wst.mk rl_10_0 ml10_1 ml10_2)).out).length:Int))->∀ y_4,y_4=(y_1.e)->∀ y_5,y_5=(Zn y_4)->((decide (x13 < (l.length:Int)))=true->((0:Int)<=x13/\x13 < (l.length:Int))/\(((y_1.kind==0)=true->(Z4Z ((rl_10_0,ml10_1,ml10_2,()),y_1.n,()))/\((InR (x13+1))/\(N0 (Y8 list l (x13+1) ((ZM (Wst.mk rl_10_0 ml10_1 ml10_2) y_1.n).out) ((ZM (Wst.mk rl_10_0 ml10_1 ml10_2) y_1.n).gone) ((ZM (Wst.mk rl_10_0 ml10_1 ml10_2) y_1.n).brought)))))/\((y_1.kind==0)=false->((y_1.kind==1)=true->(ZaW ((rl_10_0,ml10_1,ml10_2,()),y_1.l,()))/\((InR (x13+1))/\(N0 (Y8 list l (x13+1) ((Wst.mk rl_10_0 (ml10_1++Z8 y_1.l) ml10_2).out) ((Wst.mk rl_10_0 (ml10_1++Z8 y_1.l) ml10_2).gone) ((Wst.mk rl_10_0 (ml10_1++Z8 y_1.l) ml10_2).brought)))))/\((y_1.kind==1)=false->((y_1.kind==2)=true->(ZaW ((rl_10_0,ml10_1,ml10_2,()),y_1.l,()))/\((InR (x13+1))/\(N0 (Y8 list l (x13+1) ((Wst.mk rl_10_0 ml10_1 (ml10_2++Z8 y_1.l)).out) ((Wst.mk rl_10_0 ml10_1 (ml10_2++Z8 y_1.l)).gone) ((Wst.mk rl_10_0 ml10_1 (ml10_2++Z8 y_1.l)).brought)))))/\((y_1.kind==2)=false->((y_1.kind==3)=true->(Z29 (y_4,()))/\(ZfD (y_4,()) < N)/\((Z6J (list,y_5,()))/\(((Z3F list y_5)=true->(Z4Z ((rl_10_0,ml10_1,ml10_2,()),1,()))/\((InR (x13+1))/\(N0 (Y8 list l (x13+1) ((ZM (Wst.mk rl_10_0 ml10_1 ml10_2) 1).out) ((ZM (Wst.mk rl_10_0 ml10_1 ml10_2) 1).gone) ((ZM (Wst.mk rl_10_0 ml10_1 ml10_2) 1).brought)))))/\((Z3F list y_5)=false->(Z22 ((rl_10_0,ml10_1,ml10_2,()),()))/\(((((Z2 (Wst.mk rl_10_0 ml10_1 ml10_2)).out).length+([(OpOf.mk 0 0 [] y_2:Op)]).length)*240<=140737488355328)/\((0:Int)<=(((Z2 (Wst.mk rl_10_0 ml10_1 ml10_2)).out).length:Int)/\(((Z2 (Wst.mk rl_10_0 ml10_1 ml10_2)).out).length:Int) < ((((Z2 (Wst.mk rl_10_0 ml10_1 ml10_2)).out)++([(OpOf.mk 0 0 [] y_2:Op)])).length:Int))/\((0:Nat)<=y_3)/\((InR (x13+1))/\(N0 (Y8 list l (x13+1) (List.set (((Z2 (Wst.mk rl_10_0 ml10_1 ml10_2)).out)++([(OpOf.mk 0 0 [] y_2:Op)])) y_3 (OpOf.mk 3 0 [] y_5:Op)) ((Z2 (Wst.mk rl_10_0 ml10_1 ml10_2)).gone) ((Z2 (Wst.mk rl_10_0 ml10_1 ml10_2)).brought)))))))))/\((y_1.kind==3)=false->(InR (x13+1))/\(N0 (Y8 list l (x13+1) rl_10_0 ml10_1 ml10_2))))))))/\((decide (x13 < (l.length:Int)))=false->(Z22 ((rl_10_0,ml10_1,ml10_2,()),()))/\(Q .ret (L2 [(4,.c (sU .op ((Z2 (Wst.mk rl_10_0 ml10_1 ml10_2)).out) (.own (.e 4 0))))] [])))):
  ZrS N list l x13 rl_10_0 ml10_1 ml10_2 N0 Q:=by
 have e_:(ZrS N list l x13 rl_10_0 ml10_1 ml10_2 N0 Q)=(let y_1:=(l.getD x13.toNat Op.nil);let y_2:=(Edit.mk 0 (Tree.mk 0 [] []) (Tree.mk 0 [] []) [] [] 0 []);let y_3:=(Int.toNat (((Z2 (Wst.mk rl_10_0 ml10_1 ml10_2)).out).length:Int));let y_4:=(JF y_1.e);let y_5:=(JF (Zn y_4));(((decide ((x13:Int) < (l.length:Int)))=true->((0:Int)<=x13/\x13 < (l.length:Int))/\(((y_1.kind==0)=true->(Z4Z ((rl_10_0,ml10_1,ml10_2,()),y_1.n,()))/\((InR ((x13:Int)+1))/\(N0 (Y8 list l ((x13:Int)+1) ((ZM (Wst.mk rl_10_0 ml10_1 ml10_2) y_1.n).out) ((ZM (Wst.mk rl_10_0 ml10_1 ml10_2) y_1.n).gone) ((ZM (Wst.mk rl_10_0 ml10_1 ml10_2) y_1.n).brought)))))/\((y_1.kind==0)=false->(((y_1.kind==1)=true->(ZaW ((rl_10_0,ml10_1,ml10_2,()),y_1.l,()))/\((InR ((x13:Int)+1))/\(N0 (Y8 list l ((x13:Int)+1) ((Wst.mk rl_10_0 (ml10_1++Z8 y_1.l) ml10_2).out) ((Wst.mk rl_10_0 (ml10_1++Z8 y_1.l) ml10_2).gone) ((Wst.mk rl_10_0 (ml10_1++Z8 y_1.l) ml10_2).brought)))))/\((y_1.kind==1)=false->(((y_1.kind==2)=true->(ZaW ((rl_10_0,ml10_1,ml10_2,()),y_1.l,()))/\((InR ((x13:Int)+1))/\(N0 (Y8 list l ((x13:Int)+1) ((Wst.mk rl_10_0 ml10_1 (ml10_2++Z8 y_1.l)).out) ((Wst.mk rl_10_0 ml10_1 (ml10_2++Z8 y_1.l)).gone) ((Wst.mk rl_10_0 ml10_1 (ml10_2++Z8 y_1.l)).brought)))))/\((y_1.kind==2)=false->(((y_1.kind==3)=true->(Z29 (y_4,()))/\(ZfD (y_4,()) < N)/\((Z6J (list,y_5,()))/\(((Z3F list y_5)=true->(Z4Z ((rl_10_0,ml10_1,ml10_2,()),1,()))/\((InR ((x13:Int)+1))/\(N0 (Y8 list l ((x13:Int)+1) ((ZM (Wst.mk rl_10_0 ml10_1 ml10_2) 1).out) ((ZM (Wst.mk rl_10_0 ml10_1 ml10_2) 1).gone) ((ZM (Wst.mk rl_10_0 ml10_1 ml10_2) 1).brought)))))/\((Z3F list y_5)=false->(Z22 ((rl_10_0,ml10_1,ml10_2,()),()))/\(((((Z2 (Wst.mk rl_10_0 ml10_1 ml10_2)).out).length+([(OpOf.mk 0 0 [] y_2:Op)]).length)*240<=140737488355328)/\((0:Int)<=(((Z2 (Wst.mk rl_10_0 ml10_1 ml10_2)).out).length:Int)/\(((Z2 (Wst.mk rl_10_0 ml10_1 ml10_2)).out).length:Int) < ((((Z2 (Wst.mk rl_10_0 ml10_1 ml10_2)).out)++([(OpOf.mk 0 0 [] y_2:Op)])).length:Int))/\((0:Nat)<=y_3)/\((InR ((x13:Int)+1))/\(N0 (Y8 list l ((x13:Int)+1) (List.set (((Z2 (Wst.mk rl_10_0 ml10_1 ml10_2)).out)++([(OpOf.mk 0 0 [] y_2:Op)])) y_3 (OpOf.mk 3 0 [] y_5:Op)) ((Z2 (Wst.mk rl_10_0 ml10_1 ml10_2)).gone) ((Z2 (Wst.mk rl_10_0 ml10_1 ml10_2)).brought)))))))))/\((y_1.kind==3)=false->(InR ((x13:Int)+1))/\(N0 (Y8 list l ((x13:Int)+1) rl_10_0 ml10_1 ml10_2)))))))))))/\((decide ((x13:Int) < (l.length:Int)))=false->(Z22 ((rl_10_0,ml10_1,ml10_2,()),()))/\(Q .ret (L2 [(4,.c (sU .op ((Z2 (Wst.mk rl_10_0 ml10_1 ml10_2)).out) (.own (.e 4 0))))] []))))):=V4
 exact e_.mpr (by intro y_1 y_2 y_3 y_4 y_5;have hh:=h y_1 rfl y_2 rfl y_3 rfl y_4 (Z7 _) y_5 (Z7 _);exact ⟨fun c_5=> ⟨(hh.1 c_5).1,⟨fun c_6=> ⟨((hh.1 c_5).2.1 c_6).1,⟨((hh.1 c_5).2.1 c_6).2.1,((hh.1 c_5).2.1 c_6).2.2⟩⟩,fun c_6=> ⟨fun c_7=> ⟨(((hh.1 c_5).2.2 c_6).1 c_7).1,⟨(((hh.1 c_5).2.2 c_6).1 c_7).2.1,(((hh.1 c_5).2.2 c_6).1 c_7).2.2⟩⟩,fun c_7=> ⟨fun c_8=> ⟨((((hh.1 c_5).2.2 c_6).2 c_7).1 c_8).1,⟨((((hh.1 c_5).2.2 c_6).2 c_7).1 c_8).2.1,((((hh.1 c_5).2.2 c_6).2 c_7).1 c_8).2.2⟩⟩,fun c_8=> ⟨fun c_9=> ⟨(((((hh.1 c_5).2.2 c_6).2 c_7).2 c_8).1 c_9).1,(((((hh.1 c_5).2.2 c_6).2 c_7).2 c_8).1 c_9).2.1,⟨(((((hh.1 c_5).2.2 c_6).2 c_7).2 c_8).1 c_9).2.2.1,⟨fun c_10=> ⟨((((((hh.1 c_5).2.2 c_6).2 c_7).2 c_8).1 c_9).2.2.2.1 c_10).1,⟨((((((hh.1 c_5).2.2 c_6).2 c_7).2 c_8).1 c_9).2.2.2.1 c_10).2.1,((((((hh.1 c_5).2.2 c_6).2 c_7).2 c_8).1 c_9).2.2.2.1 c_10).2.2⟩⟩,fun c_10=> ⟨((((((hh.1 c_5).2.2 c_6).2 c_7).2 c_8).1 c_9).2.2.2.2 c_10).1,⟨((((((hh.1 c_5).2.2 c_6).2 c_7).2 c_8).1 c_9).2.2.2.2 c_10).2.1,((((((hh.1 c_5).2.2 c_6).2 c_7).2 c_8).1 c_9).2.2.2.2 c_10).2.2.1,((((((hh.1 c_5).2.2 c_6).2 c_7).2 c_8).1 c_9).2.2.2.2 c_10).2.2.2.1,⟨((((((hh.1 c_5).2.2 c_6).2 c_7).2 c_8).1 c_9).2.2.2.2 c_10).2.2.2.2.1,((((((hh.1 c_5).2.2 c_6).2 c_7).2 c_8).1 c_9).2.2.2.2 c_10).2.2.2.2.2⟩⟩⟩⟩⟩⟩,fun c_9=> ⟨(((((hh.1 c_5).2.2 c_6).2 c_7).2 c_8).2 c_9).1,(((((hh.1 c_5).2.2 c_6).2 c_7).2 c_8).2 c_9).2⟩⟩⟩⟩⟩⟩,fun c_5=> ⟨(hh.2 c_5).1,(hh.2 c_5).2⟩⟩)
def ZBR(N:Nat)(list:Int)(l:List Op):Prop:=AW (Z0 (Z3S N)) Tryz.f107 Z9M [] (Zh (ZdS.can (list,l,())) []) (EQ Tryz.f107 (ZeQ (list,l,())) [])
abbrev ZCP:Prop:=∀ (N:Nat) (list:Int) (l:List Op) (_:Unit),Z5N (list,l,())->Zcb (list,l,()) < N+1->ZBR N list l
theorem ZsF(c75:CT 75 Z0l)(Zxo:CT 149 Z43)(ZEL:CT 147 Z6x)(Zt5:CT 150 Z2j)(Zxl:CT 148 Z5z)(ha:ZIp)(hb:ZCP):CT 67 Zen/\CT 107 ZoD:=
 Z3V (μA:=ZfD) (μB:=Zcb) (l:=[(75,Z0l),(149,Z43),(147,Z6x),(150,Z2j),(148,Z5z)]) Zi rfl (⟨c75,Zxo,ZEL,Zt5,Zxl,trivial⟩) Zj9 Z9M Tryz.func67 Tryz.func107 rfl rfl rfl rfl 1 2 (fun _=> rfl) (fun _=> rfl) V1 V1 (fun N ⟨e,_⟩=> ha N e ()) (fun N ⟨list,l,_⟩=> hb N list l ())
end
end
end Go.AM.YtpjenobkibfpcaaGreat
