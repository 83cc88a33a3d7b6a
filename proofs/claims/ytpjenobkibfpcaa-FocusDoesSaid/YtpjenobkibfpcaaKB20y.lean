import Derived.Test.YtpjenobkibfpcaaKG21a
import Derived.Test.YtpjenobkibfpcaaKL21n
import Derived.Test.YtpjenobkibfpcaaKD22
set_option linter.unusedSimpArgs false
set_option linter.unusedVariables false
namespace Go.AM.Ytpjenobkibfpcaa
open Go.AM Go.Proofs
noncomputable section
def ZlT:ArgL (Edit × Tree × Unit):=(.cons (aEl .edit) (.cons (aEl .tree) .nil))
def Zd6(a:Edit × Tree × Unit):Prop:=(Ze a.1≤20000000000∧ZL a.1∧∃ d,Z3 a.1 d=true)∧Zg a.2.1+ctE a.1≤200000000000∧rng a.2.1
def Zg7(a:Edit × Tree × Unit):V U:= .tup [(true,(enc .tree (Z2R ((doE false a.1 a.2.1).map Z5)))),(false,[.bool ((doE false a.1 a.2.1).isSome)])]
def Z8U:Fs U:=fs ZlT (fun a=> [Zd6 a]) Zg7
def Zl8:List (FuncId × Fs U):=[(71,J9),(70,Z6v)]
def Zqx:Zh U:=lvl [([2,3,4],[2,3,4]),([4,6,7],[4,6]),([4,6,15],[4,6]),([4,5],[4]),([4,5],[4])]
abbrev A26(p:List Nat):=AW (Z0 Zl8) Try.f26 Zqx p
theorem Zu1(e:Edit)(t:Tree)(Q:QT)(h:∀ y_1,y_1=e→∀ y_2,y_2=t→∀ y_3,y_3=(Z86 y_1 y_2)→let z0:= !((doE false y_1 y_2).isSome);((Z1Z (y_1,y_2,()))∧((z0=true→(Q .ret (L2 [(4,.ptr (.loc 4) 0),(5,.c (.bool false))] [(.loc 4,[ci 0,.nils,.nils])])))∧(z0=false→(JJ (y_3,()))∧(Q .ret (L2 [(4,.ptr (.loc 4) 0),(5,.c (.bool true))] [(.loc 4,(enc .tree (Z5 y_3)))])))))):
  A26 [] (L2 [(0,.agg (enc .edit e)),(1,.agg (enc .tree t))] []) Q:=
 Eq.mpr (by kernel_rfl) (h _ (Zm _) _ (Zb _) _ (Zb _))
def ZrY(e:Edit)(t:Tree):Prop:=AW (Z0 Zl8) Try.f26 Zqx [] (Zl (ZlT.can (e,t,())) []) (EQ Try.f26 (Zg7 (e,t,())) [])
theorem Zqg(c71:CT 71 J9)(c70:CT 70 Z6v)(hb:∀ (e:Edit) (t:Tree) (_:Unit),Zd6 (e,t,())→ZrY e t):CT 26 Z8U:=
 Z4 (l:=[(71,J9),(70,Z6v)]) Zk rfl (⟨c71,c70,trivial⟩) Zqx Try.func26 rfl rfl 2 (fun _=> rfl) (by decide) (fun ⟨e,t,_⟩=> hb e t ())
end
end Go.AM.Ytpjenobkibfpcaa
namespace Go.AM.Ytpjenobkibfpcaa
open Go.AM Go.Proofs
theorem Zlw:Contract Try.prog cfg 109 Z1V:=by
 refine ZkC ?_
 intro l _ hp
 simp only [Z5u] at hp
 refine Zpq _ _ ⟨fun h=> ?_,fun _=> ⟨by simp only [List.length_nil];omega,?_⟩⟩
 ·subst h
  simp only [Z5q]
  (repeat' (first | exact trivial | exact rfl | apply And.intro))
 ·simp only [Z5q]
  (repeat' (first | exact trivial | exact rfl | apply And.intro))
theorem ZqW:Contract Try.prog cfg 150 Z3J:=by
 refine Znd ?_
 intro l _ hp
 simp only [Z9n] at hp
 refine Zsk _ _ ⟨fun h=> ?_,fun _=> ⟨by simp only [List.length_nil];omega,?_⟩⟩
 ·subst h
  simp only [Z8h]
  (repeat' (first | exact trivial | exact rfl | apply And.intro))
 ·simp only [Z8h]
  (repeat' (first | exact trivial | exact rfl | apply And.intro))
theorem Zat{α:Type}(z:α){l:List α}{i:Nat}(h:i < l.length)(x:α):Y7 z l i x=l.set i x:=by
 simp only [Y7];rw [show i+1 - l.length=0 by omega];simp
theorem Z7m{α:Type}(z:α){l:List α}{i:Nat}(h:l.length≤i)(x:α):Y7 z (l++[z]) i x=Y7 z l i x:=by
 simp only [Y7,List.length_append,List.length_singleton,List.append_assoc]
 rw [show i+1 - l.length=(i+1 - (l.length+1))+1 by omega,List.replicate_succ]
 try rfl
theorem Z6W(t:Tree):t.words.length+Za t.kids+1=Zg t:=by obtain ⟨k,w,ks⟩:=t;simp only [Zg,Tree.words_mk,Tree.kids_mk];omega
theorem ZjB{t:Tree}(h:rng t):isI t.kind∧(∀ x∈t.words,isW x)∧ZO t.kids:=by obtain ⟨k,w,ks⟩:=t;exact h
theorem ZfV{ks:List Tree}(h:ZO ks)(i:Nat):rng (ks.getD i Tree.nil):=by
 by_cases hi:i < ks.length
 ·exact Jp h (Zp hi _)
 ·rw [List.getD_eq_getElem?_getD,List.getElem?_eq_none (by omega)]
  refine ⟨by decide,by simp [Tree.nil],trivial⟩
theorem Zdt(ks:List Tree)(i:Nat):Zg (ks.getD i Tree.nil)≤Za ks+1:=by
 by_cases hi:i < ks.length
 ·have:=YX (Zp hi Tree.nil);omega
 ·rw [List.getD_eq_getElem?_getD,List.getElem?_eq_none (by omega)]
  simp [Tree.nil,Zg,Za]
theorem Zir(t:Tree){i:Int}(h:0≤i):Yu t i=t.kids.getD i.toNat Tree.nil:=by unfold Yu;rw [if_neg (by omega)]
theorem Ze9(t:Tree){i:Int}(h:0≤i):YI t i=t.words.getD i.toNat 0:=by unfold YI;rw [if_neg (by omega)]
theorem Zm9{l:List Int}(h:∀ x∈l,isW x)(i:Nat):isW (l.getD i 0):=by
 by_cases hi:i < l.length
 ·exact h _ (Zp hi _)
 ·rw [List.getD_eq_getElem?_getD,List.getElem?_eq_none (by omega)];show 0≤(0:Int)∧(0:Int) < _;omega
theorem b70:Ztm:=by
 intro N e t _ hp hN
 simp only [Z1Z,Zah] at hp hN
 obtain ⟨⟨p1,p2,d,p3⟩,p4,p5⟩:=hp
 have h1:=Y5 e
 have h2:=Z0u p2
 have hd:=JB false e t
 rw [Ye] at hd
 refine ZtH _ _ _ _ ?_
 rintro y1 hy1 y2 hy2 y3 hy3
 subst hy1 hy2 hy3
 (simp only [vcT,vcS])
 refine ⟨fun hk=> ?_,fun hk=> ⟨fun hk1=> ⟨by simp only [Z18];omega,?_⟩,fun hk1=> ⟨fun hk2=> ⟨by simp only [Z2E];exact ⟨hk2,⟨p1,p2,d,p3⟩,p4,p5⟩,by simp only [Z7H];omega,?_⟩,fun hk2=> ⟨fun hk3=> ⟨by simp only [Z2D];exact ⟨hk3,⟨p1,p2,d,p3⟩,p4,p5⟩,by simp only [Z7G];omega,?_⟩,fun hk3=> ?_⟩⟩⟩⟩
 ·rw [if_pos hk] at hd
  simp only [Z3a,Z86,if_pos hk,hd]
  (repeat' (first | exact trivial | exact rfl | apply And.intro))
 ·rw [if_neg hk,if_pos hk1] at hd
  simp only [Z3a,Z86,if_neg hk,if_pos hk1,hd]
  cases Yr (Z5 y1.old) (Z5 y2) <;> (repeat' (first | exact trivial | exact rfl | apply And.intro))
 ·rw [if_neg hk,if_neg hk1,if_pos hk2] at hd
  simp only [Z3a,Z86,if_neg hk,if_neg hk1,if_pos hk2,hd]
  (repeat' (first | exact trivial | exact rfl | apply And.intro))
 ·rw [if_neg hk,if_neg hk1,if_neg hk2,if_pos hk3] at hd
  simp only [Z3a,Z86,if_neg hk,if_neg hk1,if_neg hk2,if_pos hk3,hd]
  have e2:(if y2.kind=y1.list then (Z2J (ZE false y1.ops y2.kids [])).map fun b=> Tree.mk y1.list [] b else none).isSome=(Z2J (Z4j false y1 y2)).isSome:=by
   unfold Z4j
   split
   ·cases Z2J (ZE false y1.ops y2.kids []) <;> rfl
   ·try rfl
  rw [e2]
  (repeat' (first | exact trivial | exact rfl | apply And.intro))
 ·rw [if_neg hk,if_neg hk1,if_neg hk2,if_neg hk3] at hd
  simp only [Z3a,Z86,if_neg hk,if_neg hk1,if_neg hk2,if_neg hk3,hd]
  (repeat' (first | exact trivial | exact rfl | apply And.intro))
theorem Zrd:Zpm:=by
 intro N e t _ hp hN
 simp only [Z2E,Z7H] at hp hN
 obtain ⟨k2,⟨p1,p2,d,p3⟩,p4,p5⟩:=hp
 have h1:=Y5 e
 have h2:=Yg e.kids
 have h3:=Z6W t
 have h4:=Zr t.kids
 have r2:=Z0u p2
 have rt:=ZjB p5
 have ri:=Yf p3
 refine ZsA _ _ _ _ ?_
 (simp only [vcT,vcS])
 have no:Z85 false e t=none→J6 cfg Try.f107.ntmps Try.f107.results.toList (Z2y (e,t,())) [] .ret (⟨[(4,.ptr (.loc 4) 0),(5,.c (.bool false))],[((.loc 4),[.int .i64 0,.nils,.nils])],[]⟩:LSt U):=by
  intro hs
  simp only [Z2y,hs]
  (repeat' (first | exact trivial | exact rfl | apply And.intro))
 refine ⟨fun hk=> no (by unfold Z85;rw [if_neg hk]),fun hk=> ?_⟩
 have hk:t.kind=1:=by simpa using hk
 refine ⟨by simp only [Z5u];omega,by simp only [Z9n];omega,?_⟩
 refine Zc (ι:=Int × List Int) (fun s=> Z49 e t s.1 s.2) (fun s=> 0≤s.1∧s.1≤e.words.length∧wsD t.words (e.words.drop s.1.toNat) s.2=wsD t.words e.words t.words∧s.2.length≤t.words.length+65536) (fun s=> ((e.words.length:Int) - s.1).toNat) (0,t.words) rfl ⟨by simp,by simp,by simp,by simp⟩ ?_
 rintro ⟨i,out⟩ ⟨f1,f2,f3,f4⟩
 dsimp only at f1 f2 f3 f4
 refine Zjl _ _ _ _ _ _ _ ?_
 rintro y1 hy1 y2 hy2
 subst hy1
 (simp only [vcT,vcS])
 refine ⟨fun hi=> ?_,fun hi=> ?_⟩
 ·have hmem:=Zp (l:=e.words) (i:=i.toNat) (by omega) (WEdit.mk 0 0 0 0)
  rw [Yn f1 hi (WEdit.mk 0 0 0 0),←hy2] at f3
  rw [←hy2] at hmem
  have hw:=Z2W ri.words y2 hmem
  obtain ⟨g1,g2,g3,g4⟩:=r2.2.2.2.1 y2 hmem
  have hat:YI y1 y2.at_=y1.words.getD y2.at_.toNat 0:=Ze9 y1 (by omega)
  have hwi:=Zm9 rt.2.1 y2.at_.toNat
  rw [wsD] at f3
  rw [hat]
  unfold isW at g3 g4 hwi
  refine ⟨⟨f1,hi⟩,by simp only [Z6E],by simp only [Z3e];omega,fun hne=> no ?_,fun heq=> ?_⟩
  ·rw [if_neg hne] at f3
   unfold Z85
   rw [if_pos hk,←f3]
   try rfl
  ·have heq:mix 0 (y1.words.getD y2.at_.toNat 0) y2.mask=y2.old:=by simpa using heq
   rw [if_pos heq] at f3
   refine Zc (ι:=List Int) (fun s=> Z48 e y1 i s) (fun s=> (∀ v,Y7 0 s y2.at_.toNat v=Y7 0 out y2.at_.toNat v)∧s.length≤y1.words.length+65536) (fun s=> (y2.at_+1 - s.length).toNat) out rfl ⟨fun v=> rfl,f4⟩ ?_
   rintro s ⟨q1,q2⟩
   refine Zjk _ _ _ _ _ _ _ _ ?_
   (simp only [Tree.eta,Edit.eta,Tree.kind_mk,Tree.words_mk,Tree.kids_mk])
   rw [←hy2,hat]
   (simp only [vcT,vcS])
   refine ⟨fun hl=> ⟨by simp;omega,s++[0],rfl,⟨fun v=> ?_,by simp;omega⟩,by simp;omega⟩,fun hl=> ?_⟩
   ·rw [Z7m 0 (by omega),q1]
   ·have hl:y2.at_ < s.length:=by omega
    refine ⟨by simp only [Z3e];omega,by omega,by omega,by unfold InR;omega,(i+1,s.set y2.at_.toNat (mix (y1.words.getD y2.at_.toNat 0) y2.new y2.mask)),rfl,⟨by dsimp only;omega,by dsimp only;omega,?_,by simp only [List.length_set];omega⟩,by dsimp only;omega⟩
    dsimp only
    rw [←f3,←Zat 0 (by omega),q1]
 ·rw [List.drop_of_length_le (by omega),wsD] at f3
  refine Zc (ι:=Int × List Tree) (fun s=> Z47 e y1 out s.1 s.2) (fun s=> 0≤s.1∧s.1≤e.kids.length∧YZ false y1.kids (e.kids.drop s.1.toNat) s.2=YZ false y1.kids e.kids y1.kids∧s.2.length≤y1.kids.length+65536) (fun s=> ((e.kids.length:Int) - s.1).toNat) (0,y1.kids) rfl ⟨by simp,by simp,by simp,by simp⟩ ?_
  rintro ⟨j,ks⟩ ⟨e1,e2,e3,e4⟩
  dsimp only at e1 e2 e3 e4
  refine Zjj _ _ _ _ _ _ _ _ ?_
  rintro y1 hy1 y2 hy2 y3 hy3 y4 hy4
  subst hy1
  (simp only [vcT,vcS])
  refine ⟨fun hj=> ?_,fun hj=> ?_⟩
  ·have hmem:=Zp (l:=e.kids) (i:=j.toNat) (by omega) (KidOf.mk 0 Edit.nil)
   rw [Yn e1 hj (KidOf.mk 0 Edit.nil),←hy2] at e3
   rw [←hy2] at hmem
   have hk2:=YN ri.kids y2 hmem
   have hm:=Jg hmem
   have hct:=ZdX hmem
   have hca:=Zls e
   have hr:=(Z0I r2.2.2.2.2.2.1 hmem).2
   have hat:Yu y1 y2.at_=y1.kids.getD y2.at_.toNat Tree.nil:=Zir y1 (by omega)
   rw [hat] at hy4
   have hm4:=Zdt y1.kids y2.at_.toNat
   have hr4:=ZfV rt.2.2 y2.at_.toNat
   rw [YZ,Z6k,←hy4,←hy3] at e3
   rw [←hy4] at hm4 hr4
   rw [←hy3] at hm hr hk2 hct
   refine ⟨⟨e1,hj⟩,by simp only [Z7v],by simp only [Z1Z];exact ⟨⟨by omega,hr,_,hk2.2⟩,by omega,hr4⟩,by simp only [Zah];omega,fun hne=> no ?_,fun heq=> ?_⟩
   ·have hne:doE false y3 y4=none:=by simpa using hne
    rw [hne] at e3
    unfold Z85
    rw [if_pos hk,←f3,←e3]
    try rfl
   ·obtain ⟨u,hu⟩:=Option.isSome_iff_exists.1 heq
    rw [hu,Option.bind_some] at e3
    refine Zc (ι:=List Tree) (fun s=> Z46 e y1 out j s) (fun s=> (∀ v,Y7 Tree.nil s y2.at_.toNat v=Y7 Tree.nil ks y2.at_.toNat v)∧s.length≤y1.kids.length+65536) (fun s=> (y2.at_+1 - s.length).toNat) ks rfl ⟨fun v=> rfl,e4⟩ ?_
    rintro s ⟨q1,q2⟩
    refine Zji _ _ _ _ _ _ _ _ _ ?_
    rintro z1 hz1 z2 hz2 z3 hz3 z4 hz4 z5 hz5
    rw [←hy2] at hz2
    subst hz1 hz2
    rw [←hy3] at hz3
    subst hz3
    rw [hat,←hy4] at hz4
    subst hz4
    rw [Z6L hu] at hz5
    subst hz5
    (simp only [vcT,vcS])
    refine ⟨fun hl=> ⟨by simp;omega,s++[Tree.nil],rfl,⟨fun v=> ?_,by simp;omega⟩,by simp;omega⟩,fun hl=> ?_⟩
    ·rw [Z7m Tree.nil (by omega),q1]
    ·have hl:z2.at_ < s.length:=by omega
     refine ⟨by omega,by omega,by unfold InR;omega,(j+1,s.set z2.at_.toNat z5),rfl,⟨by dsimp only;omega,by dsimp only;omega,?_,by simp only [List.length_set];omega⟩,by dsimp only;omega⟩
     dsimp only
     rw [←e3,←Zat Tree.nil (by omega),q1]
  ·rw [List.drop_of_length_le (by omega),YZ] at e3
   have hs:Z85 false e y1=some (.mk 1 out ks):=by
    unfold Z85
    rw [if_pos hk,←f3,←e3]
    try rfl
   simp only [Z2y,hs]
   (repeat' (first | exact trivial | exact rfl | apply And.intro))
theorem ZiB(r:Bool)(o:Op)(s:List Op)(rest out:List Tree):ZE r (o ::s) rest out=(Z2K r o rest out).bind fun x=> ZE r s x.2 x.1:=by rw [ZE]
theorem Z0J{ks:List Tree}(h:ZO ks)(n:Nat):ZO (ks.drop n):=by
 induction n generalizing ks with
 | zero=> exact h
 | succ n ih=> cases ks with
  | nil=> exact h
  | cons a r=> exact ih h.2
theorem Zrc:Zpl:=by
 intro N e t _ hp hN
 simp only [Z2D,Z7G] at hp hN
 obtain ⟨k3,⟨p1,p2,d,p3⟩,p4,p5⟩:=hp
 have h1:=Y5 e
 have h2:=Yq e.ops
 have h3:=Z6W t
 have h4:=Zr t.kids
 have r2:=Z0u p2
 have rt:=ZjB p5
 have ri:=Yf p3
 refine Zsz _ _ _ _ ?_
 (simp only [vcT,vcS])
 have no:Z4j false e t=none→J6 cfg Try.f108.ntmps Try.f108.results.toList (Z2x (e,t,())) [] .ret (⟨[(4,.ptr (.loc 4) 0),(5,.c (.bool false))],[((.loc 4),[.int .i64 0,.nils,.nils])],[]⟩:LSt U):=by
  intro hs
  simp only [Z2x,hs]
  (repeat' (first | exact trivial | exact rfl | apply And.intro))
 refine ⟨fun hk=> no (by unfold Z4j;rw [if_neg hk]),fun hk=> ?_⟩
 have hk:t.kind=e.list:=by simpa using hk
 have hl0:Z4j false e t=ZE false e.ops t.kids []:=by unfold Z4j;rw [if_pos hk]
 refine Zc (ι:=Int × List Tree × List Tree) (fun s=> JV e t s.1 s.2.2 s.2.1)
  (fun s=> 0≤s.1∧s.1≤e.ops.length∧ZE false (e.ops.drop s.1.toNat) s.2.2 s.2.1=Z4j false e t∧s.2.1.length+s.2.2.length+Zf (e.ops.drop s.1.toNat)≤t.kids.length+Zf e.ops∧Za s.2.2≤Za t.kids∧ZO s.2.2)
  (fun s=> ((e.ops.length:Int) - s.1).toNat) (0,[],t.kids) rfl ⟨by simp,by simp,by simp [hl0],by simp,by simp,rt.2.2⟩ ?_
 rintro ⟨i,out,rest⟩ ⟨f1,f2,f3,f4,f5,f6⟩
 dsimp only at f1 f2 f3 f4 f5 f6
 refine Zjg _ _ _ _ _ _ _ _ ?_
 rintro y1 hy1
 (simp only [vcT,vcS])
 refine ⟨fun hi=> ?_,fun hi=> ?_⟩
 ·have hmem:=Zp (l:=e.ops) (i:=i.toNat) (by omega) Op.nil
  rw [Yn f1 hi Op.nil,←hy1] at f3 f4
  rw [←hy1] at hmem
  have hr:=Go.AM.rightOs_mem ri.ops y1 hmem
  have hm:=Yy hmem
  have hct:=ZdW hmem
  have hca:=Zls e
  have hme:=YC y1
  have hro:=Z8f (Z0H r2.2.2.2.2.2.2 hmem)
  have hml:=Zr y1.l
  simp only [Zf] at f4
  rw [ZiB,Y6] at f3
  have go:∀ (x:List Tree) (m:List Tree) (v:V U) N0 Q',ZE false (e.ops.drop (i+1).toNat) x m=Z4j false e t→m.length+x.length+Zf (e.ops.drop (i+1).toNat)≤t.kids.length+Zf e.ops→Za x≤Za t.kids→ZO x→
    (∀ s2,s2=JV e t (i+1) x m→N0 s2)→Z7f N [1,1,1,1,0,1,0,0,1,1,1] (Z0U e t i x m v) (AExit.then N0 (AExit.inBlock 0 (Zcv N [1,1,1,1,1] Q'))):=by
   intro x m v N0 Q' a1 a2 a3 a4 a5
   exact Zjh _ _ _ _ _ _ _ _ _ ⟨by unfold InR;omega,a5 _ rfl⟩
  have fin:∀ (x m:List Tree),ZE false (e.ops.drop (i+1).toNat) x m=Z4j false e t→m.length+x.length+Zf (e.ops.drop (i+1).toNat)≤t.kids.length+Zf e.ops→Za x≤Za t.kids→ZO x→∀ s2,s2=JV e t (i+1) x m→
    ∃ j:Int × List Tree × List Tree,s2=JV e t j.1 j.2.2 j.2.1∧(0≤j.1∧j.1≤e.ops.length∧ZE false (e.ops.drop j.1.toNat) j.2.2 j.2.1=Z4j false e t∧j.2.1.length+j.2.2.length+Zf (e.ops.drop j.1.toNat)≤t.kids.length+Zf e.ops∧Za j.2.2≤Za t.kids∧ZO j.2.2)∧((e.ops.length:Int) - j.1).toNat < ((e.ops.length:Int) - i).toNat:=by
   rintro x m a1 a2 a3 a4 _ rfl
   exact ⟨(i+1,m,x),rfl,⟨by dsimp only;omega,by dsimp only;omega,a1,a2,a3,a4⟩,by dsimp only;omega⟩
  have r1:=Y2 hr
  have ht:∀ n:Nat,(rest.take n).length≤rest.length∧(rest.take n).length+(rest.drop n).length=rest.length:=by
   intro n
   simp only [List.length_take,List.length_drop];omega
  refine ⟨⟨f1,hi⟩,fun hk2=> ⟨by omega,?_⟩,fun hk2=> ⟨fun hk1=> ?_,fun hk1=> ⟨fun hk3=> ?_,fun hk3=> ?_⟩⟩⟩
  ·rw [if_neg (by omega),if_neg (by omega),if_pos hk2,Option.bind_some] at f3
   exact go _ _ _ _ _ f3 (by simp only [List.length_append];omega) f5 f6 (fin _ _ f3 (by simp only [List.length_append];omega) f5 f6)
  ·refine Z8u _ _ _ _ _ _ _ _ _ _ ?_
   rintro z1 hz1 z2 hz2 z3 hz3 z4 hz4 z5 hz5 z6 hz6
   rw [←hy1] at hz1
   subst hz1
   rw [if_neg (by omega),if_pos hk1] at f3
   (simp only [vcT,vcS])
   rw [Int.toNat_natCast] at hz5
   rw [Int.toNat_natCast]
   refine ⟨fun hs=> no ?_,fun hs=> ⟨by omega,by omega,fun h=> by omega,fun _=> ⟨fun _=> ⟨?_,fun hq=> no ?_,fun hq=> ?_⟩,fun h=> absurd hk1 h⟩⟩⟩
   ·have:YG z1.l rest=false:=by unfold YG;rw [decide_eq_false (by omega)];try rfl
    rw [this,if_neg (by simp)] at f3
    exact f3.symm
   ·have:=ZeM z1.l.length rest
    simp only [Z9m];omega
   ·have:YG z1.l rest=false:=by unfold YG;rw [←hz5,hq];simp
    rw [this,if_neg (by simp)] at f3
    exact f3.symm
   ·have:YG z1.l rest=true:=by unfold YG;rw [←hz5,hq,decide_eq_true (by omega)];try rfl
    rw [this,if_pos rfl,Option.bind_some] at f3
    have hd:=Z2G z1.l.length rest
    have ht1:=ht z1.l.length
    exact go _ _ _ _ _ f3 (by omega) (by omega) (Z0J f6 _) (fin _ _ f3 (by omega) (by omega) (Z0J f6 _))
  ·refine Z8u _ _ _ _ _ _ _ _ _ _ ?_
   rintro z1 hz1 z2 hz2 z3 hz3 z4 hz4 z5 hz5 z6 hz6
   rw [←hy1] at hz1
   subst hz1
   rw [if_neg (by omega),if_neg hk1,if_neg hk2] at f3
   (simp only [vcT,vcS])
   rw [show Int.toNat 1=1 from rfl]
   refine ⟨fun hs=> no ?_,fun hs=> ⟨by omega,by omega,fun h=> by omega,fun _=> ⟨fun h=> absurd h hk1,fun _=> ?_⟩⟩⟩
   ·rw [if_pos (by omega)] at f3
    exact f3.symm
   ·have hz:z3=rest.getD 0 Tree.nil:=by
     rw [hz3,hz2]
     cases rest with
     | nil=> rfl
     | cons a r=> rfl
    rw [if_neg (by omega),←hz,←hz4] at f3
    have hm3:=Zdt rest 0
    have hr3:=ZfV f6 0
    rw [←hz] at hm3 hr3
    have hre:=Z2w hr hk3
    rw [←hz4] at hre hme hro hct
    refine ⟨?_,by simp only [Z1Z];exact ⟨⟨by omega,hro.2.2.2,_,hre⟩,by omega,hr3⟩,by simp only [Zah];omega,fun hne=> no ?_,fun heq=> ?_⟩
    ·simp only [List.length_take];omega
    ·have hne:doE false z4 z3=none:=by simpa using hne
     rw [hne] at f3
     exact f3.symm
    ·obtain ⟨u,hu⟩:=Option.isSome_iff_exists.1 heq
     rw [Z6L hu] at hz6
     subst hz6
     rw [hu,Option.map_some,Option.bind_some] at f3
     have hd:=Z2G 1 rest
     have ht1:=ht 1
     have ht2:(rest.take 1).length=1:=by simp only [List.length_take];omega
     refine ⟨by simp only [List.length_singleton];omega,?_⟩
     exact go _ _ _ _ _ f3 (by simp only [List.length_append,List.length_singleton];omega) (by omega) (Z0J f6 _) (fin _ _ f3 (by simp only [List.length_append,List.length_singleton];omega) (by omega) (Z0J f6 _))
  ·have hk0:y1.kind=0:=by cases r1 <;> first | rfl | (exfalso;simp at hk1 hk2 hk3)
   refine Z8u _ _ _ _ _ _ _ _ _ _ ?_
   rintro z1 hz1 z2 hz2 z3 hz3 z4 hz4 z5 hz5 z6 hz6
   rw [←hy1] at hz1
   subst hz1
   rw [if_pos hk0] at f3
   have hn:1≤z1.n∧z1.n≤1048576:=by cases r1 <;> first | (constructor <;> assumption) | (exfalso;simp at hk1 hk2 hk3 hk0)
   (simp only [vcT,vcS])
   refine ⟨fun hs=> no ?_,fun hs=> ⟨by omega,by omega,fun _=> ⟨?_,?_⟩,fun h=> absurd hk0 h⟩⟩
   ·rw [if_neg (by omega)] at f3
    exact f3.symm
   ·have:=(ht z1.n.toNat).1
    omega
   ·rw [if_pos (by omega),Option.bind_some] at f3
    have hd:=Z2G z1.n.toNat rest
    have ht1:=ht z1.n.toNat
    exact go _ _ _ _ _ f3 (by simp only [List.length_append];omega) (by omega) (Z0J f6 _) (fin _ _ f3 (by simp only [List.length_append];omega) (by omega) (Z0J f6 _))
 ·rw [List.drop_of_length_le (by omega),ZE] at f3
  simp only [Z2x,←f3,ZkR,Z2J,Option.bind_some,hk]
  by_cases hr:rest.length=0
  ·rw [if_pos hr,hr]
   (repeat' (first | exact trivial | exact rfl | apply And.intro))
  ·rw [if_neg hr,show ((rest.length:Int)==0)=false by rw [beq_eq_false_iff_ne];omega]
   (repeat' (first | exact trivial | exact rfl | apply And.intro))
theorem Zud:Contract Try.prog cfg 70 Z6v∧Contract Try.prog cfg 107 ZfR∧Contract Try.prog cfg 108 ZfQ:=Zn1 ZiI ZiF c91 ZqV ZqW c66 Zlw b70 Zrd Zrc
theorem c70:Contract Try.prog cfg 70 Z6v:=Zud.1
end Go.AM.Ytpjenobkibfpcaa
namespace Go.AM.Ytpjenobkibfpcaa
open Go.AM Go.Proofs
theorem ZdV{r:Bool}{e:Edit}{t u:Tree}(hr:∃ d,Z3 e d=true)(ht:Zg t+ctE e≤200000000000)(h:doE r e t=some u):Zg u≤1000000000000:=by
 obtain ⟨d,hr⟩:=hr
 have:=ZmZ r e d t u hr h
 omega
theorem c26:Contract Try.prog cfg 26 Z8U:=by
 refine Zqg c71 c70 ?_
 intro e t _ hp
 simp only [Zd6] at hp
 refine Zu1 _ _ _ ?_
 rintro y1 hy1 y2 hy2 y3 hy3
 subst hy1 hy2
 (simp only [vcT,vcS])
 refine ⟨by simp only [Z1Z];exact hp,fun hn=> ?_,fun hs=> ?_⟩
 ·have hn:doE false y1 y2=none:=by simpa using hn
  simp only [Zg7,hn]
  (repeat' (first | exact trivial | exact rfl | apply And.intro))
 ·obtain ⟨u,hu⟩:=Option.isSome_iff_exists.1 hs
  rw [Z6L hu] at hy3
  subst hy3
  have:=ZdV hp.1.2.2 hp.2.1 hu
  refine ⟨by simp only [JJ];exact this,?_⟩
  simp only [Zg7,hu]
  (repeat' (first | exact trivial | exact rfl | apply And.intro))
end Go.AM.Ytpjenobkibfpcaa
namespace Go.AM.Ytpjenobkibfpcaa
open Go.AM Go.Proofs
noncomputable section
abbrev Y0(p:Prop):Prop:=p→p
def Z8q:ArgM ((List Op × List Tree × List Tree × Unit) × Unit):=(.obj 0 (.cons (cWr .op 0 0) (.cons (ZdZ .tree 0 1) (.cons (ZdZ .tree 0 2) .nil))) .nil)
def Z0m(a:(List Op × List Tree × List Tree × Unit) × Unit):Prop:=(a.1.1).length≤200000000000∧(a.1.2.1).length≤200000000000∧(a.1.2.2.1).length≤200000000000
def Z6B(a:(List Op × List Tree × List Tree × Unit) × Unit):V U:= .tup []
def Z3S(a:(List Op × List Tree × List Tree × Unit) × Unit):List (List (C U)):=[[.mref (.x 0 0),sU .tree ((Z1 (Wst.mk a.1.1 a.1.2.1 a.1.2.2.1)).gone) (.own (.x 0 1)),sU .tree ((Z1 (Wst.mk a.1.1 a.1.2.1 a.1.2.2.1)).brought) (.own (.x 0 2))]]
def Z3T(a:(List Op × List Tree × List Tree × Unit) × Unit):List (Tok × LC U):=[(.x 0 0,LC.mk (U:=U) .op ((Z1 (Wst.mk a.1.1 a.1.2.1 a.1.2.2.1)).out) 0)]
def Z0s:Fs U:=Zfh Z8q (fun a=> [Z0m a]) Z6B Z3S Z3T
def Z8s:ArgM ((List Op × List Tree × List Tree × Unit) × Int × Unit):=(.obj 0 (.cons (cWr .op 0 0) (.cons (ZdZ .tree 0 1) (.cons (ZdZ .tree 0 2) .nil))) (.cons (Yk .i64) .nil))
def Z2C(a:(List Op × List Tree × List Tree × Unit) × Int × Unit):Prop:=(a.1.1).length≤200000000000∧(a.1.2.1).length≤200000000000∧(a.1.2.2.1).length≤200000000000∧(∀ o∈a.1.1,0≤o.n∧o.n≤100000000000000000)∧0≤a.2.1∧a.2.1≤1048576
def Zev(a:(List Op × List Tree × List Tree × Unit) × Int × Unit):V U:= .tup []
def Zby(a:(List Op × List Tree × List Tree × Unit) × Int × Unit):List (List (C U)):=[[.mref (.x 0 0),sU .tree ((ZI (Wst.mk a.1.1 a.1.2.1 a.1.2.2.1) a.2.1).gone) (.own (.x 0 1)),sU .tree ((ZI (Wst.mk a.1.1 a.1.2.1 a.1.2.2.1) a.2.1).brought) (.own (.x 0 2))]]
def Zbz(a:(List Op × List Tree × List Tree × Unit) × Int × Unit):List (Tok × LC U):=[(.x 0 0,LC.mk (U:=U) .op ((ZI (Wst.mk a.1.1 a.1.2.1 a.1.2.2.1) a.2.1).out) 0)]
def Z3K:Fs U:=Zfh Z8s (fun a=> [Z2C a]) Zev Zby Zbz
def Z8r:ArgM ((List Op × List Tree × List Tree × Unit) × List Tree × Unit):=(.objAt 0 1 (.cons (cWr .op 0 0) (.cons (ZdZ .tree 0 1) (.cons (ZdZ .tree 0 2) .nil))) (.cons (aSl .tree) .nil))
def Z6F(a:(List Op × List Tree × List Tree × Unit) × List Tree × Unit):Prop:=(a.1.1).length≤200000000000∧(a.1.2.1).length≤200000000000∧(a.1.2.2.1).length≤200000000000∧Za a.2.1≤20000000000
def ZjS(a:(List Op × List Tree × List Tree × Unit) × List Tree × Unit):V U:= .tup []
def Zg0(a:(List Op × List Tree × List Tree × Unit) × List Tree × Unit):List (List (C U)):=[[.mref (.x 0 0),sU .tree ((Wst.mk a.1.1 (a.1.2.1++Z8 a.2.1) a.1.2.2.1).gone) (.own (.x 0 1)),sU .tree ((Wst.mk a.1.1 (a.1.2.1++Z8 a.2.1) a.1.2.2.1).brought) (.own (.x 0 2))]]
def Zg1(a:(List Op × List Tree × List Tree × Unit) × List Tree × Unit):List (Tok × LC U):=[(.x 0 0,LC.mk (U:=U) .op ((Wst.mk a.1.1 (a.1.2.1++Z8 a.2.1) a.1.2.2.1).out) 0)]
def Zbl:Fs U:=Zfh Z8r (fun a=> [Z6F a]) ZjS Zg0 Zg1
def Z6m:ArgM ((List Op × List Tree × List Tree × Unit) × List Tree × Unit):=(.objAt 0 2 (.cons (cWr .op 0 0) (.cons (ZdZ .tree 0 1) (.cons (ZdZ .tree 0 2) .nil))) (.cons (aSl .tree) .nil))
def Z3W(a:(List Op × List Tree × List Tree × Unit) × List Tree × Unit):Prop:=(a.1.1).length≤200000000000∧(a.1.2.1).length≤200000000000∧(a.1.2.2.1).length≤200000000000∧Za a.2.1≤20000000000
def Zgb(a:(List Op × List Tree × List Tree × Unit) × List Tree × Unit):V U:= .tup []
def ZcO(a:(List Op × List Tree × List Tree × Unit) × List Tree × Unit):List (List (C U)):=[[.mref (.x 0 0),sU .tree ((Wst.mk a.1.1 a.1.2.1 (a.1.2.2.1++Z8 a.2.1)).gone) (.own (.x 0 1)),sU .tree ((Wst.mk a.1.1 a.1.2.1 (a.1.2.2.1++Z8 a.2.1)).brought) (.own (.x 0 2))]]
def ZcP(a:(List Op × List Tree × List Tree × Unit) × List Tree × Unit):List (Tok × LC U):=[(.x 0 0,LC.mk (U:=U) .op ((Wst.mk a.1.1 a.1.2.1 (a.1.2.2.1++Z8 a.2.1)).out) 0)]
def Z90:Fs U:=Zfh Z6m (fun a=> [Z3W a]) Zgb ZcO ZcP
def Ze1:ArgL (Int × Edit × Unit):=(.cons (Yk .i64) (.cons (aEl .edit) .nil))
def Z3V(a:Int × Edit × Unit):Prop:=a.2.1.words.length≤20000000000∧a.2.1.kids.length≤20000000000
def Zga(a:Int × Edit × Unit):V U:= .c (.bool (Z4w a.1 a.2.1))
def Z1U:Fs U:=fs Ze1 (fun a=> [Z3V a]) Zga
def ZgQ:List (FuncId × Fs U):=[]
def ZkL:Zh U:=fun i=> match i with
 | 0=> ([(0,[]),(7,[])],[(.x 0,[.wr .op])])
 | 1=> ([(0,[])],[(.x 0,[.wr .op])])
 | 2=> ([(0,[]),(28,[])],[(.x 0,[.wr .op])])
 | 3=> ([(0,[])],[(.x 0,[.wr .op])])
 | 4=> ([],[(.x 0,[.wr .op])])
 | _=> ([],[])
abbrev Zt9(wo:List Op)(wg wb:List Tree)(Q:QT):=AW (Z0 ZgQ) Try.f129 ZkL [] (⟨[(0,.ptr (.x 0) 0)],[(.x 0,[.mref (.x 0 0),sU .tree wg (.own (.x 0 1)),sU .tree wb (.own (.x 0 2))])],[(.x 0 0,LC.mk (U:=U) .op wo 0)]⟩:LSt U) Q
theorem Zsn(wo:List Op)(wg wb:List Tree)(Q:QT)(h:∀ y_1,y_1=(Edit.mk 0 (Tree.mk 0 [] []) (Tree.mk 0 [] []) [] [] 0 [])→∀ y_2,y_2=(List.set (wo++([(OpOf.mk 0 0 [] y_1:Op)])) (Int.toNat (wo.length:Int)) (OpOf.mk 1 0 wg y_1:Op))→((decide ((0:Int) < (wg.length:Int)))=true→((wo.length+([(OpOf.mk 0 0 [] y_1:Op)]).length)*240≤140737488355328)∧((0:Int)≤(wo.length:Int)∧(wo.length:Int) < ((wo++([(OpOf.mk 0 0 [] y_1:Op)])).length:Int))∧((0:Nat)≤(Int.toNat (wo.length:Int)))∧(((decide ((0:Int) < (wb.length:Int)))=true→((y_2.length+([(OpOf.mk 0 0 [] y_1:Op)]).length)*240≤140737488355328)∧((0:Int)≤(y_2.length:Int)∧(y_2.length:Int) < ((y_2++([(OpOf.mk 0 0 [] y_1:Op)])).length:Int))∧((0:Nat)≤(Int.toNat (y_2.length:Int)))∧(Q .normal (⟨[],[(.x 0,[.mref (.x 0 0),.nils,.nils])],[(.x 0 0,LC.mk (U:=U) .op (List.set (y_2++([(OpOf.mk 0 0 [] y_1:Op)])) (Int.toNat (y_2.length:Int)) (OpOf.mk 2 0 wb y_1:Op)) 0)]⟩:LSt U)))∧((decide ((0:Int) < (wb.length:Int)))=false→Q .normal (⟨[],[(.x 0,[.mref (.x 0 0),.nils,.nils])],[(.x 0 0,LC.mk (U:=U) .op y_2 0)]⟩:LSt U))))∧((decide ((0:Int) < (wg.length:Int)))=false→((decide ((0:Int) < (wb.length:Int)))=true→((wo.length+([(OpOf.mk 0 0 [] y_1:Op)]).length)*240≤140737488355328)∧((0:Int)≤(wo.length:Int)∧(wo.length:Int) < ((wo++([(OpOf.mk 0 0 [] y_1:Op)])).length:Int))∧((0:Nat)≤(Int.toNat (wo.length:Int)))∧(Q .normal (⟨[],[(.x 0,[.mref (.x 0 0),.nils,.nils])],[(.x 0 0,LC.mk (U:=U) .op (List.set (wo++([(OpOf.mk 0 0 [] y_1:Op)])) (Int.toNat (wo.length:Int)) (OpOf.mk 2 0 wb y_1:Op)) 0)]⟩:LSt U)))∧((decide ((0:Int) < (wb.length:Int)))=false→Q .normal (⟨[],[(.x 0,[.mref (.x 0 0),.nils,.nils])],[(.x 0 0,LC.mk (U:=U) .op wo 0)]⟩:LSt U)))):
  Zt9 wo wg wb Q:=by
 have e_:(Zt9 wo wg wb Q)=(let y_1:=(Edit.mk 0 (Tree.mk 0 [] []) (Tree.mk 0 [] []) [] [] 0 []);let y_2:=(List.set (wo++([(OpOf.mk 0 0 [] y_1:Op)])) (Int.toNat (wo.length:Int)) (OpOf.mk 1 0 wg y_1:Op));let zz0:=(decide ((0:Int) < (wb.length:Int)));(((decide ((0:Int) < (wg.length:Int)))=true→((wo.length+([(OpOf.mk 0 0 [] y_1:Op)]).length)*240≤140737488355328)∧((0:Int)≤(wo.length:Int)∧(wo.length:Int) < ((wo++([(OpOf.mk 0 0 [] y_1:Op)])).length:Int))∧((0:Nat)≤(Int.toNat (wo.length:Int)))∧((zz0=true→((y_2.length+([(OpOf.mk 0 0 [] y_1:Op)]).length)*240≤140737488355328)∧((0:Int)≤(y_2.length:Int)∧(y_2.length:Int) < ((y_2++([(OpOf.mk 0 0 [] y_1:Op)])).length:Int))∧((0:Nat)≤(Int.toNat (y_2.length:Int)))∧(Q .normal (⟨[],[(.x 0,[.mref (.x 0 0),.nils,.nils])],[(.x 0 0,LC.mk (U:=U) .op (List.set (y_2++([(OpOf.mk 0 0 [] y_1:Op)])) (Int.toNat (y_2.length:Int)) (OpOf.mk 2 0 wb y_1:Op)) 0)]⟩:LSt U)))∧(zz0=false→(Q .normal (⟨[],[(.x 0,[.mref (.x 0 0),.nils,.nils])],[(.x 0 0,LC.mk (U:=U) .op y_2 0)]⟩:LSt U)))))∧((decide ((0:Int) < (wg.length:Int)))=false→((zz0=true→((wo.length+([(OpOf.mk 0 0 [] y_1:Op)]).length)*240≤140737488355328)∧((0:Int)≤(wo.length:Int)∧(wo.length:Int) < ((wo++([(OpOf.mk 0 0 [] y_1:Op)])).length:Int))∧((0:Nat)≤(Int.toNat (wo.length:Int)))∧(Q .normal (⟨[],[(.x 0,[.mref (.x 0 0),.nils,.nils])],[(.x 0 0,LC.mk (U:=U) .op (List.set (wo++([(OpOf.mk 0 0 [] y_1:Op)])) (Int.toNat (wo.length:Int)) (OpOf.mk 2 0 wb y_1:Op)) 0)]⟩:LSt U)))∧(zz0=false→(Q .normal (⟨[],[(.x 0,[.mref (.x 0 0),.nils,.nils])],[(.x 0 0,LC.mk (U:=U) .op wo 0)]⟩:LSt U))))))):=by kernel_rfl
 exact e_.mpr (by intro y_1 y_2;have hh:=h y_1 rfl y_2 rfl;exact ⟨fun c_1=> ⟨(hh.1 c_1).1,(hh.1 c_1).2.1,(hh.1 c_1).2.2.1,⟨fun c_2=> ⟨((hh.1 c_1).2.2.2.1 c_2).1,((hh.1 c_1).2.2.2.1 c_2).2.1,((hh.1 c_1).2.2.2.1 c_2).2.2.1,((hh.1 c_1).2.2.2.1 c_2).2.2.2⟩,fun c_2=> ((hh.1 c_1).2.2.2.2 c_2)⟩⟩,fun c_1=> ⟨fun c_3=> ⟨((hh.2 c_1).1 c_3).1,((hh.2 c_1).1 c_3).2.1,((hh.2 c_1).1 c_3).2.2.1,((hh.2 c_1).1 c_3).2.2.2⟩,fun c_3=> ((hh.2 c_1).2 c_3)⟩⟩)
def Zop(wo:List Op)(wg wb:List Tree):Prop:=AW (Z0 ZgQ) Try.f129 ZkL [] (JW (Z8q.can ((wo,wg,wb,()),())) (Z8q.canX ((wo,wg,wb,()),())) (Z8q.canL ((wo,wg,wb,()),()))) (Z1R cfg Try.f129.ntmps Try.f129.results.toList (Z6B ((wo,wg,wb,()),())) (Z3S ((wo,wg,wb,()),())) (Z3T ((wo,wg,wb,()),())))
theorem Zng(hb:∀ (wo:List Op) (wg:List Tree) (wb:List Tree) (_:Unit),Z0m ((wo,wg,wb,()),())→Zop wo wg wb):CT 129 Z0s:=
 J7 (l:=[]) Zk rfl trivial ZkL Try.func129 rfl rfl 1 (fun _=> rfl) (by decide) (fun ⟨⟨wo,wg,wb,_⟩,_⟩=> hb wo wg wb ())
def ZgR:List (FuncId × Fs U):=[(129,Z0s)]
def ZkM:Zh U:=fun i=> match i with
 | 0=> ([(0,[]),(1,[])],[(.x 0,[.wr .op])])
 | 1=> ([(0,[]),(1,[]),(4,[])],[(.x 0,[.wr .op])])
 | 2=> ([(0,[]),(1,[]),(4,[]),(25,[])],[(.x 0,[.wr .op])])
 | 3=> ([],[(.x 0,[.wr .op])])
 | 4=> ([],[(.x 0,[.wr .op])])
 | _=> ([],[])
abbrev Ztb(wo:List Op)(wg wb:List Tree)(n:Int)(Q:QT):=AW (Z0 ZgR) Try.f126 ZkM [] (⟨[(0,.ptr (.x 0) 0),(1,.c (ci n))],[(.x 0,[.mref (.x 0 0),sU .tree wg (.own (.x 0 1)),sU .tree wb (.own (.x 0 2))])],[(.x 0 0,LC.mk (U:=U) .op wo 0)]⟩:LSt U) Q
theorem Zsp(wo:List Op)(wg wb:List Tree)(n:Int)(Q:QT)(h:∀ y_1,y_1=(Edit.mk 0 (Tree.mk 0 [] []) (Tree.mk 0 [] []) [] [] 0 [])→∀ y_2,y_2=(Int.toNat (((((Z1 (Wst.mk wo wg wb)).out).length:Int):Int) - 1))→∀ y_3,y_3=(List.getD ((Z1 (Wst.mk wo wg wb)).out) y_2 Op.nil)→∀ y_4,y_4=(y_3.e)→(Z0m ((wo,wg,wb,()),()))∧((InR (((((Z1 (Wst.mk wo wg wb)).out).length:Int):Int) - 1))∧(((decide ((0:Int)≤(((((Z1 (Wst.mk wo wg wb)).out).length:Int):Int) - 1)))=true→(0:Int)≤(((((Z1 (Wst.mk wo wg wb)).out).length:Int):Int) - 1)∧(((((Z1 (Wst.mk wo wg wb)).out).length:Int):Int) - 1) < (((Z1 (Wst.mk wo wg wb)).out).length:Int))∧(((bif (decide ((0:Int)≤(((((Z1 (Wst.mk wo wg wb)).out).length:Int):Int) - 1))) then (y_3.kind==0) else false)=true→((0:Int)≤(((((Z1 (Wst.mk wo wg wb)).out).length:Int):Int) - 1)∧(((((Z1 (Wst.mk wo wg wb)).out).length:Int):Int) - 1) < (((Z1 (Wst.mk wo wg wb)).out).length:Int))∧(InR (y_3.n+n))∧((0:Int)≤(((((Z1 (Wst.mk wo wg wb)).out).length:Int):Int) - 1)∧(((((Z1 (Wst.mk wo wg wb)).out).length:Int):Int) - 1) < (((Z1 (Wst.mk wo wg wb)).out).length:Int))∧((0:Nat)≤y_2)∧(Q .ret (⟨[],[(.x 0,[.mref (.x 0 0),sU .tree ((Z1 (Wst.mk wo wg wb)).gone) (.own (.x 0 1)),sU .tree ((Z1 (Wst.mk wo wg wb)).brought) (.own (.x 0 2))])],[(.x 0 0,LC.mk (U:=U) .op (List.set ((Z1 (Wst.mk wo wg wb)).out) y_2 (OpOf.mk y_3.kind (y_3.n+n) y_3.l y_4:Op)) 0)]⟩:LSt U)))∧((bif (decide ((0:Int)≤(((((Z1 (Wst.mk wo wg wb)).out).length:Int):Int) - 1))) then (y_3.kind==0) else false)=false→((((Z1 (Wst.mk wo wg wb)).out).length+([(OpOf.mk 0 0 [] y_1:Op)]).length)*240≤140737488355328)∧((0:Int)≤(((Z1 (Wst.mk wo wg wb)).out).length:Int)∧(((Z1 (Wst.mk wo wg wb)).out).length:Int) < ((((Z1 (Wst.mk wo wg wb)).out)++([(OpOf.mk 0 0 [] y_1:Op)])).length:Int))∧((0:Nat)≤(Int.toNat (((Z1 (Wst.mk wo wg wb)).out).length:Int)))∧(Q .normal (⟨[],[(.x 0,[.mref (.x 0 0),sU .tree ((Z1 (Wst.mk wo wg wb)).gone) (.own (.x 0 1)),sU .tree ((Z1 (Wst.mk wo wg wb)).brought) (.own (.x 0 2))])],[(.x 0 0,LC.mk (U:=U) .op (List.set (((Z1 (Wst.mk wo wg wb)).out)++([(OpOf.mk 0 0 [] y_1:Op)])) (Int.toNat (((Z1 (Wst.mk wo wg wb)).out).length:Int)) (OpOf.mk 0 n [] y_1:Op)) 0)]⟩:LSt U))))))):
  Ztb wo wg wb n Q:=by
 have e_:(Ztb wo wg wb n Q)=(let y_1:=(Edit.mk 0 (Tree.mk 0 [] []) (Tree.mk 0 [] []) [] [] 0 []);let y_2:=(Int.toNat (((((Z1 (Wst.mk wo wg wb)).out).length:Int):Int) - 1));let y_3:=(List.getD ((Z1 (Wst.mk wo wg wb)).out) y_2 Op.nil);let y_4:=(Jb y_3.e);let zz0:=(decide ((0:Int)≤(((((Z1 (Wst.mk wo wg wb)).out).length:Int):Int) - 1)));(Z0m ((wo,wg,wb,()),()))∧((InR (((((Z1 (Wst.mk wo wg wb)).out).length:Int):Int) - 1))∧((Y0 (zz0=true))∧(Y0 (zz0=true))∧(Y0 (zz0=true))∧(Y0 (zz0=true))∧(Y0 (zz0=true))∧(zz0=true→(0:Int)≤(((((Z1 (Wst.mk wo wg wb)).out).length:Int):Int) - 1)∧(((((Z1 (Wst.mk wo wg wb)).out).length:Int):Int) - 1) < (((Z1 (Wst.mk wo wg wb)).out).length:Int))∧(Y0 (zz0=true))∧(Y0 (zz0=true))∧(Y0 (zz0=true))∧(Y0 (zz0=true))∧(((bif zz0 then (y_3.kind==0) else false)=true→((0:Int)≤(((((Z1 (Wst.mk wo wg wb)).out).length:Int):Int) - 1)∧(((((Z1 (Wst.mk wo wg wb)).out).length:Int):Int) - 1) < (((Z1 (Wst.mk wo wg wb)).out).length:Int))∧(InR (y_3.n+n))∧((0:Int)≤(((((Z1 (Wst.mk wo wg wb)).out).length:Int):Int) - 1)∧(((((Z1 (Wst.mk wo wg wb)).out).length:Int):Int) - 1) < (((Z1 (Wst.mk wo wg wb)).out).length:Int))∧((0:Nat)≤y_2)∧(Q .ret (⟨[],[(.x 0,[.mref (.x 0 0),sU .tree ((Z1 (Wst.mk wo wg wb)).gone) (.own (.x 0 1)),sU .tree ((Z1 (Wst.mk wo wg wb)).brought) (.own (.x 0 2))])],[(.x 0 0,LC.mk (U:=U) .op (List.set ((Z1 (Wst.mk wo wg wb)).out) y_2 (OpOf.mk y_3.kind (y_3.n+n) y_3.l y_4:Op)) 0)]⟩:LSt U)))∧((bif zz0 then (y_3.kind==0) else false)=false→((((Z1 (Wst.mk wo wg wb)).out).length+([(OpOf.mk 0 0 [] y_1:Op)]).length)*240≤140737488355328)∧((0:Int)≤(((Z1 (Wst.mk wo wg wb)).out).length:Int)∧(((Z1 (Wst.mk wo wg wb)).out).length:Int) < ((((Z1 (Wst.mk wo wg wb)).out)++([(OpOf.mk 0 0 [] y_1:Op)])).length:Int))∧((0:Nat)≤(Int.toNat (((Z1 (Wst.mk wo wg wb)).out).length:Int)))∧(Q .normal (⟨[],[(.x 0,[.mref (.x 0 0),sU .tree ((Z1 (Wst.mk wo wg wb)).gone) (.own (.x 0 1)),sU .tree ((Z1 (Wst.mk wo wg wb)).brought) (.own (.x 0 2))])],[(.x 0 0,LC.mk (U:=U) .op (List.set (((Z1 (Wst.mk wo wg wb)).out)++([(OpOf.mk 0 0 [] y_1:Op)])) (Int.toNat (((Z1 (Wst.mk wo wg wb)).out).length:Int)) (OpOf.mk 0 n [] y_1:Op)) 0)]⟩:LSt U))))))):=by kernel_rfl
 exact e_.mpr (by intro y_1 y_2 y_3 y_4;have hh:=h y_1 rfl y_2 rfl y_3 rfl y_4 (Zm _);exact ⟨hh.1,⟨hh.2.1,⟨id,id,id,id,id,hh.2.2.1,id,id,id,(by generalize (decide ((0:Int)≤(((((Z1 (Wst.mk wo wg wb)).out).length:Int):Int) - 1)))=b0;revert b0;decide),⟨fun c_4=> ⟨(hh.2.2.2.1 c_4).1,(hh.2.2.2.1 c_4).2.1,(hh.2.2.2.1 c_4).2.2.1,(hh.2.2.2.1 c_4).2.2.2.1,(hh.2.2.2.1 c_4).2.2.2.2⟩,fun c_4=> ⟨(hh.2.2.2.2 c_4).1,(hh.2.2.2.2 c_4).2.1,(hh.2.2.2.2 c_4).2.2.1,(hh.2.2.2.2 c_4).2.2.2⟩⟩⟩⟩⟩)
def Zor(wo:List Op)(wg wb:List Tree)(n:Int):Prop:=AW (Z0 ZgR) Try.f126 ZkM [] (JW (Z8s.can ((wo,wg,wb,()),n,())) (Z8s.canX ((wo,wg,wb,()),n,())) (Z8s.canL ((wo,wg,wb,()),n,()))) (Z1R cfg Try.f126.ntmps Try.f126.results.toList (Zev ((wo,wg,wb,()),n,())) (Zby ((wo,wg,wb,()),n,())) (Zbz ((wo,wg,wb,()),n,())))
theorem Zni(ZiG:CT 129 Z0s)(hb:∀ (wo:List Op) (wg:List Tree) (wb:List Tree) (n:Int) (_:Unit),Z2C ((wo,wg,wb,()),n,())→Zor wo wg wb n):CT 126 Z3K:=
 J7 (l:=[(129,Z0s)]) Zk rfl (⟨ZiG,trivial⟩) ZkM Try.func126 rfl rfl 2 (fun _=> rfl) (by decide) (fun ⟨⟨wo,wg,wb,_⟩,n,_⟩=> hb wo wg wb n ())
def Z8m:List (FuncId × Fs U):=[(71,J9)]
def Zdx:Zh U:=fun i=> match i with
 | 0=> ([(0,[]),(6,[]),(7,[]),(8,[])],[(.x 0,[.wr .op])])
 | 1=> ([(0,[]),(6,[]),(7,[]),(8,[]),(9,[])],[(.x 0,[.wr .op])])
 | 2=> ([(0,[]),(5,[]),(6,[]),(7,[]),(8,[])],[(.loc 5,[]),(.x 0,[.wr .op])])
 | 3=> ([(0,[]),(6,[]),(7,[]),(8,[])],[(.x 0,[.wr .op])])
 | 4=> ([(0,[]),(6,[]),(7,[]),(8,[])],[(.x 0,[.wr .op])])
 | _=> ([],[])
def Z44(wo:List Op)(wg wb l:List Tree)(x8:Int)(mx0_1:List Tree):LSt U:=(⟨[(0,.ptr (.x 0) 1),(6,.c (sU .tree l .unk)),(7,.c (ci (l.length:Int))),(8,.c (ci x8))],[(.x 0,[.mref (.x 0 0),sU .tree mx0_1 (.own (.x 0 1)),sU .tree wb (.own (.x 0 2))])],[(.x 0 0,LC.mk (U:=U) .op wo 0)]⟩:LSt U)
abbrev Zta(wo:List Op)(wg wb l:List Tree)(Q:QT):=AW (Z0 Z8m) Try.f127 Zdx [] (⟨[(0,.ptr (.x 0) 1),(1,.c (sU .tree l .unk))],[(.x 0,[.mref (.x 0 0),sU .tree wg (.own (.x 0 1)),sU .tree wb (.own (.x 0 2))])],[(.x 0 0,LC.mk (U:=U) .op wo 0)]⟩:LSt U) Q
theorem Zso(wo:List Op)(wg wb l:List Tree)(Q:QT)(h:Zj (AW (Z0 Z8m) Try.f127 Zdx [1,0,0]) (Z44 wo wg wb l 0 wg) (xB 0 Q)):
  Zta wo wg wb l Q:=by
 have e_:(Zta wo wg wb l Q)=(type_of% h):=by kernel_rfl
 exact e_.mpr h
abbrev Zhz(wo:List Op)(wg wb l:List Tree)(x8:Int)(mx0_1:List Tree)(N0:NT)(Q:QT):=AW (Z0 Z8m) Try.f127 Zdx [1,0,0] (Z44 wo wg wb l x8 mx0_1) (xT N0 (xB 0 Q))
theorem Zjb(wo:List Op)(wg wb l:List Tree)(x8:Int)(mx0_1:List Tree)(N0:NT)(Q:QT)(h:((decide (x8 < (l.length:Int)))=true→((0:Int)≤x8∧x8 < (l.length:Int))∧((JJ ((Tree.mk (Tree.kind (l.getD x8.toNat Tree.nil)) (Tree.words (l.getD x8.toNat Tree.nil)) (Tree.kids (l.getD x8.toNat Tree.nil))),()))∧((mx0_1.length+([(Tree.mk 0 [] [])]).length)*56≤140737488355328)∧((0:Int)≤(mx0_1.length:Int)∧(mx0_1.length:Int) < ((mx0_1++([(Tree.mk 0 [] [])])).length:Int))∧(mx0_1.length≤(Int.toNat (mx0_1.length:Int)))∧((InR (x8+1))∧(N0 (Z44 wo wg wb l (x8+1) (List.set (mx0_1++([(Tree.mk 0 [] [])])) (Int.toNat (mx0_1.length:Int)) (Tree.mk (Tree.kind (Z5 (Tree.mk (Tree.kind (l.getD x8.toNat Tree.nil)) (Tree.words (l.getD x8.toNat Tree.nil)) (Tree.kids (l.getD x8.toNat Tree.nil))))) (Tree.words (Z5 (Tree.mk (Tree.kind (l.getD x8.toNat Tree.nil)) (Tree.words (l.getD x8.toNat Tree.nil)) (Tree.kids (l.getD x8.toNat Tree.nil))))) (Tree.kids (Z5 (Tree.mk (Tree.kind (l.getD x8.toNat Tree.nil)) (Tree.words (l.getD x8.toNat Tree.nil)) (Tree.kids (l.getD x8.toNat Tree.nil))))))))))))∧((decide (x8 < (l.length:Int)))=false→Q .normal (⟨[(0,.ptr (.x 0) 1),(6,.c (sU .tree l .unk)),(7,.c (ci (l.length:Int))),(8,.c (ci x8)),(9,.c (.bool (decide (x8 < (l.length:Int)))))],[(.x 0,[.mref (.x 0 0),sU .tree mx0_1 (.own (.x 0 1)),sU .tree wb (.own (.x 0 2))])],[(.x 0 0,LC.mk (U:=U) .op wo 0)]⟩:LSt U))):
  Zhz wo wg wb l x8 mx0_1 N0 Q:=by
 have e_:(Zhz wo wg wb l x8 mx0_1 N0 Q)=(type_of% h):=by kernel_rfl
 exact e_.mpr ⟨fun c_5=> ⟨(h.1 c_5).1,⟨(h.1 c_5).2.1,(h.1 c_5).2.2.1,(h.1 c_5).2.2.2.1,(h.1 c_5).2.2.2.2.1,⟨(h.1 c_5).2.2.2.2.2.1,(h.1 c_5).2.2.2.2.2.2⟩⟩⟩,fun c_5=> (h.2 c_5)⟩
def Zoq(wo:List Op)(wg wb l:List Tree):Prop:=AW (Z0 Z8m) Try.f127 Zdx [] (JW (Z8r.can ((wo,wg,wb,()),l,())) (Z8r.canX ((wo,wg,wb,()),l,())) (Z8r.canL ((wo,wg,wb,()),l,()))) (Z1R cfg Try.f127.ntmps Try.f127.results.toList (ZjS ((wo,wg,wb,()),l,())) (Zg0 ((wo,wg,wb,()),l,())) (Zg1 ((wo,wg,wb,()),l,())))
theorem Znh(c71:CT 71 J9)(hb:∀ (wo:List Op) (wg:List Tree) (wb:List Tree) (l:List Tree) (_:Unit),Z6F ((wo,wg,wb,()),l,())→Zoq wo wg wb l):CT 127 Zbl:=
 J7 (l:=[(71,J9)]) Zk rfl (⟨c71,trivial⟩) Zdx Try.func127 rfl rfl 2 (fun _=> rfl) (by decide) (fun ⟨⟨wo,wg,wb,_⟩,l,_⟩=> hb wo wg wb l ())
def Z5P:List (FuncId × Fs U):=[(71,J9)]
def Z9K:Zh U:=fun i=> match i with
 | 0=> ([(0,[]),(6,[]),(7,[]),(8,[])],[(.x 0,[.wr .op])])
 | 1=> ([(0,[]),(6,[]),(7,[]),(8,[]),(9,[])],[(.x 0,[.wr .op])])
 | 2=> ([(0,[]),(5,[]),(6,[]),(7,[]),(8,[])],[(.loc 5,[]),(.x 0,[.wr .op])])
 | 3=> ([(0,[]),(6,[]),(7,[]),(8,[])],[(.x 0,[.wr .op])])
 | 4=> ([(0,[]),(6,[]),(7,[]),(8,[])],[(.x 0,[.wr .op])])
 | _=> ([],[])
def Z2H(wo:List Op)(wg wb l:List Tree)(x8:Int)(mx0_2:List Tree):LSt U:=(⟨[(0,.ptr (.x 0) 2),(6,.c (sU .tree l .unk)),(7,.c (ci (l.length:Int))),(8,.c (ci x8))],[(.x 0,[.mref (.x 0 0),sU .tree wg (.own (.x 0 1)),sU .tree mx0_2 (.own (.x 0 2))])],[(.x 0 0,LC.mk (U:=U) .op wo 0)]⟩:LSt U)
abbrev Zpf(wo:List Op)(wg wb l:List Tree)(Q:QT):=AW (Z0 Z5P) Try.f127 Z9K [] (⟨[(0,.ptr (.x 0) 2),(1,.c (sU .tree l .unk))],[(.x 0,[.mref (.x 0 0),sU .tree wg (.own (.x 0 1)),sU .tree wb (.own (.x 0 2))])],[(.x 0 0,LC.mk (U:=U) .op wo 0)]⟩:LSt U) Q
theorem Zpp(wo:List Op)(wg wb l:List Tree)(Q:QT)(h:Zj (AW (Z0 Z5P) Try.f127 Z9K [1,0,0]) (Z2H wo wg wb l 0 wb) (xB 0 Q)):
  Zpf wo wg wb l Q:=by
 have e_:(Zpf wo wg wb l Q)=(type_of% h):=by kernel_rfl
 exact e_.mpr h
abbrev Ze5(wo:List Op)(wg wb l:List Tree)(x8:Int)(mx0_2:List Tree)(N0:NT)(Q:QT):=AW (Z0 Z5P) Try.f127 Z9K [1,0,0] (Z2H wo wg wb l x8 mx0_2) (xT N0 (xB 0 Q))
theorem ZhH(wo:List Op)(wg wb l:List Tree)(x8:Int)(mx0_2:List Tree)(N0:NT)(Q:QT)(h:((decide (x8 < (l.length:Int)))=true→((0:Int)≤x8∧x8 < (l.length:Int))∧((JJ ((Tree.mk (Tree.kind (l.getD x8.toNat Tree.nil)) (Tree.words (l.getD x8.toNat Tree.nil)) (Tree.kids (l.getD x8.toNat Tree.nil))),()))∧((mx0_2.length+([(Tree.mk 0 [] [])]).length)*56≤140737488355328)∧((0:Int)≤(mx0_2.length:Int)∧(mx0_2.length:Int) < ((mx0_2++([(Tree.mk 0 [] [])])).length:Int))∧(mx0_2.length≤(Int.toNat (mx0_2.length:Int)))∧((InR (x8+1))∧(N0 (Z2H wo wg wb l (x8+1) (List.set (mx0_2++([(Tree.mk 0 [] [])])) (Int.toNat (mx0_2.length:Int)) (Tree.mk (Tree.kind (Z5 (Tree.mk (Tree.kind (l.getD x8.toNat Tree.nil)) (Tree.words (l.getD x8.toNat Tree.nil)) (Tree.kids (l.getD x8.toNat Tree.nil))))) (Tree.words (Z5 (Tree.mk (Tree.kind (l.getD x8.toNat Tree.nil)) (Tree.words (l.getD x8.toNat Tree.nil)) (Tree.kids (l.getD x8.toNat Tree.nil))))) (Tree.kids (Z5 (Tree.mk (Tree.kind (l.getD x8.toNat Tree.nil)) (Tree.words (l.getD x8.toNat Tree.nil)) (Tree.kids (l.getD x8.toNat Tree.nil))))))))))))∧((decide (x8 < (l.length:Int)))=false→Q .normal (⟨[(0,.ptr (.x 0) 2),(6,.c (sU .tree l .unk)),(7,.c (ci (l.length:Int))),(8,.c (ci x8)),(9,.c (.bool (decide (x8 < (l.length:Int)))))],[(.x 0,[.mref (.x 0 0),sU .tree wg (.own (.x 0 1)),sU .tree mx0_2 (.own (.x 0 2))])],[(.x 0 0,LC.mk (U:=U) .op wo 0)]⟩:LSt U))):
  Ze5 wo wg wb l x8 mx0_2 N0 Q:=by
 have e_:(Ze5 wo wg wb l x8 mx0_2 N0 Q)=(type_of% h):=by kernel_rfl
 exact e_.mpr ⟨fun c_6=> ⟨(h.1 c_6).1,⟨(h.1 c_6).2.1,(h.1 c_6).2.2.1,(h.1 c_6).2.2.2.1,(h.1 c_6).2.2.2.2.1,⟨(h.1 c_6).2.2.2.2.2.1,(h.1 c_6).2.2.2.2.2.2⟩⟩⟩,fun c_6=> (h.2 c_6)⟩
def Zm6(wo:List Op)(wg wb l:List Tree):Prop:=AW (Z0 Z5P) Try.f127 Z9K [] (JW (Z6m.can ((wo,wg,wb,()),l,())) (Z6m.canX ((wo,wg,wb,()),l,())) (Z6m.canL ((wo,wg,wb,()),l,()))) (Z1R cfg Try.f127.ntmps Try.f127.results.toList (Zgb ((wo,wg,wb,()),l,())) (ZcO ((wo,wg,wb,()),l,())) (ZcP ((wo,wg,wb,()),l,())))
theorem ZkB(c71:CT 71 J9)(hb:∀ (wo:List Op) (wg:List Tree) (wb:List Tree) (l:List Tree) (_:Unit),Z3W ((wo,wg,wb,()),l,())→Zm6 wo wg wb l):CT 127 Z90:=
 J7 (l:=[(71,J9)]) Zk rfl (⟨c71,trivial⟩) Z9K Try.func127 rfl rfl 2 (fun _=> rfl) (by decide) (fun ⟨⟨wo,wg,wb,_⟩,l,_⟩=> hb wo wg wb l ())
def ZdE:List (FuncId × Fs U):=[]
def ZeO:Zh U:=lvl [([0,3],[3]),([4],[])]
abbrev Zpe(list:Int)(e:Edit)(Q:QT):=AW (Z0 ZdE) Try.f128 ZeO [] (L2 [(0,.c (ci list)),(1,.agg (enc .edit e))] []) Q
theorem Zpo(list:Int)(e:Edit)(Q:QT)(h:(((!(e.kind==0)) && (bif (list==9) then (e.kind==2) else false))=true→InR (((e.words.length:Int):Int)+(e.kids.length:Int)))∧(Q .ret (L2 [(4,.c (.bool (bif (e.kind==0) then true else (bif (bif (list==9) then (e.kind==2) else false) then (((((e.words.length:Int):Int)+(e.kids.length:Int)):Int)==0) else false))))] []))):
  Zpe list e Q:=by
 have e_:(Zpe list e Q)=(let zz1:=(!(e.kind==0));let zz0:=(bif ((list:Int)==9) then (e.kind==2) else false);((Y0 (zz1=true))∧(Y0 (zz1=true))∧(Y0 ((zz1 && ((list:Int)==9))=true))∧(Y0 ((zz1 && ((list:Int)==9))=true))∧(zz1=true→(True→zz1=true))∧(zz1=true→(((list:Int)==9)=true→(zz1 && ((list:Int)==9))=true))∧(Y0 (zz1=true))∧(Y0 ((zz1 && zz0)=true))∧(Y0 ((zz1 && zz0)=true))∧(Y0 ((zz1 && zz0)=true))∧(Y0 ((zz1 && zz0)=true))∧(Y0 ((zz1 && zz0)=true))∧(Y0 ((zz1 && zz0)=true))∧((zz1 && zz0)=true→InR ((e.words.length:Int)+(e.kids.length:Int)))∧(Y0 ((zz1 && zz0)=true))∧(zz1=true→(True→zz1=true))∧(zz1=true→(zz0=true→(zz1 && zz0)=true))∧((e.kind==0)=false→zz1=true)∧(Q .ret (L2 [(4,.c (.bool (bif (e.kind==0) then true else (bif zz0 then ((((e.words.length:Int)+(e.kids.length:Int)):Int)==0) else false))))] [])))):=by kernel_rfl
 exact e_.mpr ⟨id,id,id,id,(by generalize ((e.kind:Int)==0)=b0;revert b0;decide),(by generalize ((e.kind:Int)==0)=b0;generalize ((list:Int)==9)=b1;revert b0 b1;decide),id,id,id,id,id,id,id,h.1,id,(by generalize ((e.kind:Int)==0)=b0;revert b0;decide),(by generalize ((e.kind:Int)==2)=b0;generalize ((e.kind:Int)==0)=b1;generalize ((list:Int)==9)=b2;revert b0 b1 b2;decide),(by generalize ((e.kind:Int)==0)=b0;revert b0;decide),h.2⟩
def Zm5(list:Int)(e:Edit):Prop:=AW (Z0 ZdE) Try.f128 ZeO [] (Zl (Ze1.can (list,e,())) []) (EQ Try.f128 (Zga (list,e,())) [])
theorem ZkA(hb:∀ (list:Int) (e:Edit) (_:Unit),Z3V (list,e,())→Zm5 list e):CT 128 Z1U:=
 Z4 (l:=[]) Zk rfl trivial ZeO Try.func128 rfl rfl 2 (fun _=> rfl) (by decide) (fun ⟨list,e,_⟩=> hb list e ())
end
end Go.AM.Ytpjenobkibfpcaa
namespace Go.AM.Ytpjenobkibfpcaa
open Go.AM Go.Proofs
theorem Z0Z{α:Type}(l:List α)(z x:α):(l++[z]).set (Int.toNat (l.length:Int)) x=l++[x]:=by
 rw [Int.toNat_natCast,List.set_append_right _ _ (Nat.le_refl _)]
 simp
theorem Z5Q:∀ (F:List Op) (n:Int),Z0h F n=if F.length≠0∧(F.getD (F.length - 1) Op.nil).kind=0 then F.set (F.length - 1) ⟨(F.getD (F.length - 1) Op.nil).kind,(F.getD (F.length - 1) Op.nil).n+n,(F.getD (F.length - 1) Op.nil).l,(F.getD (F.length - 1) Op.nil).e⟩ else F++[⟨0,n,[],Edit.nil⟩]
 | [],n=> by simp [Z0h]
 | [o],n=> by simp [Z0h]
 | o ::p ::r,n=> by
  have ih:=Z5Q (p ::r) n
  have e:(o ::p ::r).length - 1=((p ::r).length - 1)+1:=by simp
  rw [Z0h,ih,e]
  simp only [List.getD_cons_succ,List.set_cons_succ]
  by_cases h:(p ::r).length≠0∧((p ::r).getD ((p ::r).length - 1) Op.nil).kind=0
  ·rw [if_pos h,if_pos ⟨by simp,h.2⟩]
  ·have h':¬((p ::r).getD ((p ::r).length - 1) Op.nil).kind=0:=fun e=> h ⟨by simp,e⟩
   rw [if_neg h,if_neg (fun e=> h' e.2)]
   try rfl
theorem Z78(s:Wst):(Z1 s).out.length≤s.out.length+2:=by
 simp only [Z1,Ji]
 split <;> split <;> simp
theorem Z77(s:Wst):∀ o∈(Z1 s).out,o∈s.out∨o.n=0:=by
 intro o ho
 simp only [Z1,Ji,List.mem_append] at ho
 rcases ho with h | h | h
 ·exact .inl h
 ·split at h
  ·cases h
  ·simp only [List.mem_singleton] at h;subst h;exact .inr rfl
 ·split at h
  ·cases h
  ·simp only [List.mem_singleton] at h;subst h;exact .inr rfl
theorem ZiG:Contract Try.prog cfg 129 Z0s:=by
 refine Zng ?_
 intro wo wg wb _ hp
 simp only [Z0m] at hp
 refine Zsn wo wg wb _ ?_
 rintro y1 hy1 y2 hy2
 have hy:y1=Edit.nil:=hy1
 subst hy
 rw [Z0Z] at hy2
 subst hy2
 (simp only [vcS])
 refine ⟨fun h1=> ⟨by simp;omega,by simp;omega,by omega,fun h2=> ⟨by simp;omega,by simp;omega,by omega,?_⟩,fun h2=> ?_⟩,fun h1=> ⟨fun h2=> ⟨by simp;omega,by simp;omega,by omega,?_⟩,fun h2=> ?_⟩⟩
 ·rw [Z0Z]
  have e:Z1 ⟨wo,wg,wb⟩=⟨wo++[⟨1,0,wg,Edit.nil⟩]++[⟨2,0,wb,Edit.nil⟩],[],[]⟩:=by
   simp only [Z1,Ji];rw [if_neg (by omega),if_neg (by omega)];simp
  simp only [Z6B,Z3S,Z3T,e]
  (repeat' (first | exact trivial | exact rfl | apply And.intro))
 ·have e:Z1 ⟨wo,wg,wb⟩=⟨wo++[⟨1,0,wg,Edit.nil⟩],[],[]⟩:=by
   simp only [Z1,Ji];rw [if_neg (by omega),if_pos (by omega)];simp
  simp only [Z6B,Z3S,Z3T,e]
  (repeat' (first | exact trivial | exact rfl | apply And.intro))
 ·rw [Z0Z]
  have e:Z1 ⟨wo,wg,wb⟩=⟨wo++[⟨2,0,wb,Edit.nil⟩],[],[]⟩:=by
   simp only [Z1,Ji];rw [if_pos (by omega),if_neg (by omega)];simp
  simp only [Z6B,Z3S,Z3T,e]
  (repeat' (first | exact trivial | exact rfl | apply And.intro))
 ·have e:Z1 ⟨wo,wg,wb⟩=⟨wo,[],[]⟩:=by
   simp only [Z1,Ji];rw [if_pos (by omega),if_pos (by omega)];simp
  simp only [Z6B,Z3S,Z3T,e]
  (repeat' (first | exact trivial | exact rfl | apply And.intro))
theorem ZqY:Contract Try.prog cfg 126 Z3K:=by
 refine Zni ZiG ?_
 intro wo wg wb n _ hp
 simp only [Z2C] at hp
 obtain ⟨p1,p2,p3,p4,p5,p6⟩:=hp
 have hfl:=Z78 ⟨wo,wg,wb⟩
 have hfm:=Z77 ⟨wo,wg,wb⟩
 have hg:(Z1 ⟨wo,wg,wb⟩).gone=[]:=rfl
 have hb:(Z1 ⟨wo,wg,wb⟩).brought=[]:=rfl
 have hk:=Z5Q (Z1 ⟨wo,wg,wb⟩).out n
 have hkw:ZI ⟨wo,wg,wb⟩ n=⟨Z0h (Z1 ⟨wo,wg,wb⟩).out n,[],[]⟩:=rfl
 refine Zsp wo wg wb n _ ?_
 simp only [hg,hb,Zev,Zby,Zbz,hkw]
 generalize (Z1 ⟨wo,wg,wb⟩).out=F at*
 simp only at hfl hfm
 rintro y1 hy1 y2 hy2 y3 hy3 y4 hy4
 have hy:y1=Edit.nil:=hy1
 subst hy
 have e2:y2=F.length - 1:=by omega
 subst e2
 rw [←hy3,←hy4] at hk
 (simp only [vcS])
 refine ⟨by simp only [Z0m];exact ⟨p1,p2,p3⟩,by unfold InR;omega,fun h=> ⟨h,by omega⟩,fun h=> ?_,fun h=> ?_⟩
 ·have hy3n:0≤y3.n∧y3.n≤100000000000000000:=by
   have hm:y3∈F:=by rw [hy3];exact Zp (by omega) _
   rcases hfm y3 hm with h1 | h1
   ·exact p4 y3 h1
   ·omega
  rw [if_pos ⟨by omega,h.2⟩] at hk
  rw [hk]
  refine ⟨by omega,by unfold InR;omega,by omega,by omega,?_⟩
  (repeat' (first | exact trivial | exact rfl | apply And.intro))
 ·rw [if_neg (by omega)] at hk
  rw [hk,Z0Z]
  refine ⟨by simp;omega,by simp;omega,by omega,?_⟩
  (repeat' (first | exact trivial | exact rfl | apply And.intro))
theorem Zue:Contract Try.prog cfg 127 Zbl:=by
 refine Znh c71 ?_
 intro wo wg wb l _ hp
 simp only [Z6F] at hp
 obtain ⟨p1,p2,p3,p4⟩:=hp
 have hl:=Zr l
 refine Zso _ _ _ _ _ ?_
 refine Zc (ι:=Int × List Tree) (fun s=> Z44 wo wg wb l s.1 s.2) (fun s=> 0≤s.1∧s.1≤l.length∧s.2.length=wg.length+s.1∧s.2++Z8 (l.drop s.1.toNat)=wg++Z8 l) (fun s=> ((l.length:Int) - s.1).toNat) (0,wg) rfl ⟨by simp,by simp,by simp,by simp⟩ ?_
 rintro ⟨i,out⟩ ⟨h1,h2,h3,h4⟩
 dsimp only at h1 h2 h3 h4
 refine Zjb _ _ _ _ _ _ _ _ ?_
 (simp only [vcS])
 (simp only [Tree.eta,Edit.eta,Tree.kind_mk,Tree.words_mk,Tree.kids_mk])
 refine ⟨fun hi=> ?_,fun hi=> ?_⟩
 ·have hm:=YX (Zp (l:=l) (i:=i.toNat) (by omega) Tree.nil)
  rw [Yn h1 hi Tree.nil] at h4
  simp only [Z8,List.map_cons] at h4
  rw [Z0Z]
  refine ⟨⟨h1,hi⟩,by simp only [JJ];omega,by simp;omega,by simp;omega,by omega,by unfold InR;omega,(i+1,out++[Z5 (l.getD i.toNat Tree.nil)]),rfl,⟨by dsimp only;omega,by dsimp only;omega,by simp;omega,?_⟩,by dsimp only;omega⟩
  simp only [List.append_assoc,List.cons_append,List.nil_append]
  exact h4
 ·rw [List.drop_of_length_le (by omega)] at h4
  simp only [Z8,List.map_nil,List.append_nil] at h4
  rw [h4]
  (repeat' (first | exact trivial | exact rfl | apply And.intro))
theorem ZsY:Contract Try.prog cfg 127 Z90:=by
 refine ZkB c71 ?_
 intro wo wg wb l _ hp
 simp only [Z3W] at hp
 obtain ⟨p1,p2,p3,p4⟩:=hp
 have hl:=Zr l
 refine Zpp _ _ _ _ _ ?_
 refine Zc (ι:=Int × List Tree) (fun s=> Z2H wo wg wb l s.1 s.2) (fun s=> 0≤s.1∧s.1≤l.length∧s.2.length=wb.length+s.1∧s.2++Z8 (l.drop s.1.toNat)=wb++Z8 l) (fun s=> ((l.length:Int) - s.1).toNat) (0,wb) rfl ⟨by simp,by simp,by simp,by simp⟩ ?_
 rintro ⟨i,out⟩ ⟨h1,h2,h3,h4⟩
 dsimp only at h1 h2 h3 h4
 refine ZhH _ _ _ _ _ _ _ _ ?_
 (simp only [vcS])
 (simp only [Tree.eta,Edit.eta,Tree.kind_mk,Tree.words_mk,Tree.kids_mk])
 refine ⟨fun hi=> ?_,fun hi=> ?_⟩
 ·have hm:=YX (Zp (l:=l) (i:=i.toNat) (by omega) Tree.nil)
  rw [Yn h1 hi Tree.nil] at h4
  simp only [Z8,List.map_cons] at h4
  rw [Z0Z]
  refine ⟨⟨h1,hi⟩,by simp only [JJ];omega,by simp;omega,by simp;omega,by omega,by unfold InR;omega,(i+1,out++[Z5 (l.getD i.toNat Tree.nil)]),rfl,⟨by dsimp only;omega,by dsimp only;omega,by simp;omega,?_⟩,by dsimp only;omega⟩
  simp only [List.append_assoc,List.cons_append,List.nil_append]
  exact h4
 ·rw [List.drop_of_length_le (by omega)] at h4
  simp only [Z8,List.map_nil,List.append_nil] at h4
  rw [h4]
  (repeat' (first | exact trivial | exact rfl | apply And.intro))
theorem Zlv:Contract Try.prog cfg 128 Z1U:=by
 refine ZkA ?_
 intro list e _ hp
 simp only [Z3V] at hp
 refine Zpo _ _ _ ?_
 refine ⟨fun _=> by unfold InR;dsimp only;omega,Z2 rfl ?_⟩
 rw [Bool.eq_iff_iff]
 simp only [Z4w]
 (simp only [vcS])
 omega
noncomputable def Z33:Fs U:=ZqH Zbl Z90
theorem Zlu:Contract Try.prog cfg 127 Z33:=ZdY Zue ZsY
end Go.AM.Ytpjenobkibfpcaa
namespace Go.AM.Ytpjenobkibfpcaa
open Go.AM Go.Proofs
noncomputable section
noncomputable section
def Zch:ArgL (Edit × Unit):=(.cons (aEl .edit) .nil)
def Z20(a:Edit × Unit):Prop:=Ze a.1≤20000000000∧∃ d,Z3 a.1 d=true
def Z9B(a:Edit × Unit):Nat:=2*Ze a.1
def Z7s(a:Edit × Unit):V U:= .agg (enc .edit (Yb a.1))
def Z31:Fs U:=fs Zch (fun a=> [Z20 a]) Z7s
def Zcf:ArgL (Int × List Op × Unit):=(.cons (Yk .i64) (.cons (aSl .op) .nil))
def Z7t(a:Int × List Op × Unit):Prop:=Zf a.2.1≤20000000000∧∀ o∈a.2.1,∃ d,Zd a.1 o d=true
def Zdm(a:Int × List Op × Unit):Nat:=2*Zf a.2.1+1
def ZcQ(a:Int × List Op × Unit):V U:= .c (sU .op ((Z1 (Y3 a.1 a.2.1 (Wst.mk [] [] []))).out) .unk)
def Zju:Fs U:=fs Zcf (fun a=> [Z7t a]) ZcQ
def Z1P(N:Nat):List (FuncId × Fs U):=(57,fs Zch (fun a=> [Z20 a,Z9B a < N]) Z7s) ::(94,fs Zcf (fun a=> [Z7t a,Zdm a < N]) ZcQ) ::[(71,J9),(128,Z1U),(126,Z3K),(129,Z0s),(127,Z33)]
def ZbQ:Zh U:=fun i=> match i with
 | 0=> ([(1,[]),(2,[])],[(.loc 1,[]),(.loc 2,[])])
 | 1=> ([(1,[]),(2,[]),(3,[])],[(.loc 1,[]),(.loc 2,[]),(.loc 3,[])])
 | 2=> ([(1,[]),(2,[]),(3,[]),(12,[])],[(.loc 1,[]),(.loc 2,[]),(.loc 3,[])])
 | 3=> ([(1,[]),(2,[]),(3,[]),(12,[]),(13,[])],[(.loc 1,[]),(.loc 2,[]),(.loc 3,[])])
 | 4=> ([(2,[]),(3,[])],[(.loc 2,[]),(.loc 3,[])])
 | 5=> ([(1,[]),(2,[]),(3,[]),(12,[]),(23,[])],[(.loc 1,[]),(.loc 2,[]),(.loc 3,[])])
 | 6=> ([(1,[]),(2,[]),(3,[])],[(.loc 1,[]),(.loc 2,[]),(.loc 3,[])])
 | 7=> ([(2,[]),(3,[]),(32,[]),(33,[]),(34,[])],[(.loc 2,[]),(.loc 3,[.any,.any,.any,.any,.any,.any,.any,.any,.own .kid])])
 | 8=> ([(2,[]),(3,[]),(32,[]),(33,[]),(34,[]),(35,[])],[(.loc 2,[]),(.loc 3,[])])
 | 9=> ([(2,[]),(3,[]),(5,[]),(32,[]),(33,[]),(34,[])],[(.loc 2,[]),(.loc 3,[]),(.loc 5,[])])
 | 10=> ([(2,[]),(3,[]),(32,[]),(33,[]),(34,[])],[(.loc 2,[]),(.loc 3,[])])
 | 11=> ([(2,[]),(3,[]),(32,[]),(33,[]),(34,[])],[(.loc 2,[]),(.loc 3,[.any,.any,.any,.any,.any,.any,.any,.any,.own .kid])])
 | 12=> ([(1,[]),(2,[]),(3,[]),(50,[])],[(.loc 1,[]),(.loc 2,[]),(.loc 3,[])])
 | 13=> ([(2,[]),(3,[])],[(.loc 2,[]),(.loc 3,[])])
 | 14=> ([(2,[])],[(.loc 2,[])])
 | _=> ([],[])
def Z2a(e:Edit)(x34:Int)(ml3_8:List Kid):LSt U:=(L2 [(2,.ptr (.loc 2) 0),(3,.ptr (.loc 3) 0),(32,.c (sU .kid e.kids .unk)),(33,.c (ci (e.kids.length:Int))),(34,.c (ci x34))] [(.loc 2,zc1),(.loc 3,[ci e.kind,ci 0,.nils,.nils,ci 0,.nils,.nils,sU .wedit (([]:List WEdit)++e.words) (.own (.l 3 7)),sU .kid ml3_8 (.own (.l 3 8)),ci e.list,.nils])])
abbrev W57(N:Nat)(e:Edit)(Q:QT):=AW (Z0 (Z1P N)) Try.f57 ZbQ [] (L2 [(0,.agg (enc .edit e))] []) Q
abbrev ZiT(N:Nat):=awp cfg (Z0 (Z1P N)) (ZA cfg (Z0 (Z1P N))) Try.f57.ntmps ZbQ
abbrev ZhU(N:Nat):=Z6y cfg (Z0 (Z1P N)) (ZA cfg (Z0 (Z1P N))) Try.f57.ntmps ZbQ
theorem ZtQ(N:Nat)(e:Edit)(Q:QT)(h:((e.kind==1)=true→(JJ ((Tree.mk e.old.kind e.old.words e.old.kids),()))∧(JJ ((Tree.mk e.new.kind e.new.words e.new.kids),()))∧(Q .ret (L2 [(2,.ptr (.loc 2) 0)] [(.loc 2,([ci e.kind]++enc .tree (Z5 (Tree.mk e.old.kind e.old.words e.old.kids))++enc .tree (Z5 (Tree.mk e.new.kind e.new.words e.new.kids))++[.nils,.nils,ci e.list,.nils]))])))∧((e.kind==1)=false→((e.kind==2)=true→((([]:List WEdit).length+e.words.length)*32≤140737488355328)∧(Zj (AW (Z0 (Z1P N)) Try.f57 ZbQ [1,1,0,1,0,1,1,1,0,1,1,0,0]) (Z2a e 0 []) (xB 1 (xB 0 (SW (Z0 (Z1P N)) Try.f57 ZbQ [1,1,1] Q)))))∧((e.kind==2)=false→((e.kind==3)=true→(Z7t (e.list,e.ops,()))∧(Zdm (e.list,e.ops,()) < N)∧(Q .ret (L2 [(2,.ptr (.loc 2) 0)] [(.loc 2,[ci e.kind,ci 0,.nils,.nils,ci 0,.nils,.nils,.nils,.nils,ci e.list,sU .op ((Z1 (Y3 e.list e.ops (Wst.mk [] [] []))).out) .unk])])))∧((e.kind==3)=false→Q .ret (L2 [(2,.ptr (.loc 2) 0)] [(.loc 2,[ci e.kind,ci 0,.nils,.nils,ci 0,.nils,.nils,.nils,.nils,ci e.list,.nils])]))))):
  W57 N e Q:=by
 have e_:(W57 N e Q)=(((e.kind==1)=true→(JJ ((Tree.mk e.old.kind e.old.words e.old.kids),()))∧(JJ ((Tree.mk e.new.kind e.new.words e.new.kids),()))∧(Q .ret (L2 [(2,.ptr (.loc 2) 0)] [(.loc 2,([ci e.kind]++enc .tree (Z5 (Tree.mk e.old.kind e.old.words e.old.kids))++enc .tree (Z5 (Tree.mk e.new.kind e.new.words e.new.kids))++[.nils,.nils,ci e.list,.nils]))])))∧((e.kind==1)=false→(((e.kind==2)=true→((([]:List WEdit).length+e.words.length)*32≤140737488355328)∧(Zj (ZiT N (cd Try.f57 [1,1,0,1,0,1,1,1,0,1,1,0,0])) (Z2a e 0 []) (xB 1 (xB 0 (ZhU N (cd Try.f57 [1,1,1]) Q)))))∧((e.kind==2)=false→(((e.kind==3)=true→(Z7t (e.list,e.ops,()))∧(Zdm (e.list,e.ops,()) < N)∧(Q .ret (L2 [(2,.ptr (.loc 2) 0)] [(.loc 2,[ci e.kind,ci 0,.nils,.nils,ci 0,.nils,.nils,.nils,.nils,ci e.list,sU .op ((Z1 (Y3 e.list e.ops (Wst.mk [] [] []))).out) .unk])])))∧((e.kind==3)=false→(Q .ret (L2 [(2,.ptr (.loc 2) 0)] [(.loc 2,[ci e.kind,ci 0,.nils,.nils,ci 0,.nils,.nils,.nils,.nils,ci e.list,.nils])])))))))):=by kernel_rfl
 exact e_.mpr ⟨fun c_1=> ⟨(h.1 c_1).1,(h.1 c_1).2.1,(h.1 c_1).2.2⟩,fun c_1=> ⟨fun c_2=> ⟨((h.2 c_1).1 c_2).1,((h.2 c_1).1 c_2).2⟩,fun c_2=> ⟨fun c_3=> ⟨(((h.2 c_1).2 c_2).1 c_3).1,(((h.2 c_1).2 c_2).1 c_3).2.1,(((h.2 c_1).2 c_2).1 c_3).2.2⟩,fun c_3=> (((h.2 c_1).2 c_2).2 c_3)⟩⟩⟩
abbrev Zm1(N:Nat)(e:Edit)(x34:Int)(ml3_8:List Kid)(N0:NT)(Q:QT):=AW (Z0 (Z1P N)) Try.f57 ZbQ [1,1,0,1,0,1,1,1,0,1,1,0,0] (Z2a e x34 ml3_8) (xT N0 (xB 1 (xB 0 (SW (Z0 (Z1P N)) Try.f57 ZbQ [1,1,1] Q))))
theorem Zmz(N:Nat)(e:Edit)(x34:Int)(ml3_8:List Kid)(N0:NT)(Q:QT)(h:∀ y_1,y_1=(e.kids.getD x34.toNat (KidOf.mk 0 Edit.nil))→∀ y_2,y_2=(y_1.e)→∀ y_3,y_3=(Yb y_2)→((decide (x34 < (e.kids.length:Int)))=true→((0:Int)≤x34∧x34 < (e.kids.length:Int))∧((Z20 (y_2,()))∧(Z9B (y_2,()) < N)∧((ml3_8.length+([(KidOf.mk y_1.at_ y_3:Kid)]).length)*208≤140737488355328)∧((InR (x34+1))∧(N0 (Z2a e (x34+1) (ml3_8++([(KidOf.mk y_1.at_ y_3:Kid)])))))))∧((decide (x34 < (e.kids.length:Int)))=false→Q .ret (L2 [(2,.ptr (.loc 2) 0)] [(.loc 2,[ci e.kind,ci 0,.nils,.nils,ci 0,.nils,.nils,sU .wedit (([]:List WEdit)++e.words) (.own (.l 2 7)),sU .kid ml3_8 (.own (.l 2 8)),ci e.list,.nils])]))):
  Zm1 N e x34 ml3_8 N0 Q:=by
 have e_:(Zm1 N e x34 ml3_8 N0 Q)=(let y_1:=(e.kids.getD x34.toNat (KidOf.mk 0 Edit.nil));let y_2:=(Jb y_1.e);let y_3:=(Jb (Yb y_2));(((decide ((x34:Int) < (e.kids.length:Int)))=true→((0:Int)≤x34∧x34 < (e.kids.length:Int))∧((Z20 (y_2,()))∧(Z9B (y_2,()) < N)∧((ml3_8.length+([(KidOf.mk y_1.at_ y_3:Kid)]).length)*208≤140737488355328)∧((InR ((x34:Int)+1))∧(N0 (Z2a e ((x34:Int)+1) (ml3_8++([(KidOf.mk y_1.at_ y_3:Kid)])))))))∧((decide ((x34:Int) < (e.kids.length:Int)))=false→(Q .ret (L2 [(2,.ptr (.loc 2) 0)] [(.loc 2,[ci e.kind,ci 0,.nils,.nils,ci 0,.nils,.nils,sU .wedit (([]:List WEdit)++e.words) (.own (.l 2 7)),sU .kid ml3_8 (.own (.l 2 8)),ci e.list,.nils])]))))):=by kernel_rfl
 exact e_.mpr (by intro y_1 y_2 y_3;have hh:=h y_1 rfl y_2 (Zm _) y_3 (Zm _);exact ⟨fun c_4=> ⟨(hh.1 c_4).1,⟨(hh.1 c_4).2.1,(hh.1 c_4).2.2.1,(hh.1 c_4).2.2.2.1,⟨(hh.1 c_4).2.2.2.2.1,(hh.1 c_4).2.2.2.2.2⟩⟩⟩,fun c_4=> (hh.2 c_4)⟩)
def ZrN(N:Nat)(e:Edit):Prop:=AW (Z0 (Z1P N)) Try.f57 ZbQ [] (Zl (Zch.can (e,())) []) (EQ Try.f57 (Z7s (e,())) [])
abbrev Zto:Prop:=∀ (N:Nat) (e:Edit) (_:Unit),Z20 (e,())→Z9B (e,()) < N+1→ZrN N e
def Z1O(N:Nat):List (FuncId × Fs U):=(57,fs Zch (fun a=> [Z20 a,Z9B a < N]) Z7s) ::(94,fs Zcf (fun a=> [Z7t a,Zdm a < N]) ZcQ) ::[(71,J9),(128,Z1U),(126,Z3K),(129,Z0s),(127,Z33)]
def ZbP:Zh U:=fun i=> match i with
 | 0=> ([(0,[]),(1,[])],[])
 | 1=> ([(0,[]),(1,[]),(5,[])],[(.loc 10,[.wr .op])])
 | 2=> ([(0,[]),(5,[]),(11,[]),(12,[]),(13,[])],[(.loc 10,[.wr .op,.own .tree,.own .tree])])
 | 3=> ([(0,[]),(5,[]),(11,[]),(12,[]),(13,[]),(14,[])],[(.loc 10,[.wr .op])])
 | 4=> ([(0,[]),(5,[]),(7,[]),(11,[]),(12,[]),(13,[])],[(.loc 7,[]),(.loc 10,[.wr .op])])
 | 5=> ([(0,[]),(5,[]),(7,[]),(11,[]),(12,[]),(13,[]),(18,[])],[(.loc 7,[]),(.loc 10,[.wr .op])])
 | 6=> ([(0,[]),(5,[]),(7,[]),(11,[]),(12,[]),(13,[]),(18,[]),(19,[])],[(.loc 7,[]),(.loc 10,[.wr .op])])
 | 7=> ([(0,[]),(5,[]),(11,[]),(12,[]),(13,[])],[(.loc 10,[.wr .op])])
 | 8=> ([(0,[]),(5,[]),(7,[]),(11,[]),(12,[]),(13,[]),(18,[]),(25,[])],[(.loc 7,[]),(.loc 10,[.wr .op])])
 | 9=> ([(0,[]),(5,[]),(11,[]),(12,[]),(13,[])],[(.loc 10,[.wr .op])])
 | 10=> ([(0,[]),(5,[]),(7,[]),(11,[]),(12,[]),(13,[]),(18,[]),(33,[])],[(.loc 7,[]),(.loc 10,[.wr .op])])
 | 11=> ([(0,[]),(5,[]),(11,[]),(12,[]),(13,[])],[(.loc 10,[.wr .op])])
 | 12=> ([(0,[]),(5,[]),(7,[]),(11,[]),(12,[]),(13,[]),(41,[])],[(.loc 7,[]),(.loc 10,[.wr .op])])
 | 13=> ([(0,[]),(5,[]),(8,[]),(11,[]),(12,[]),(13,[])],[(.loc 8,[]),(.loc 10,[.wr .op])])
 | 14=> ([(0,[]),(5,[]),(8,[]),(11,[]),(12,[]),(13,[]),(48,[])],[(.loc 8,[]),(.loc 10,[.wr .op])])
 | 15=> ([(0,[]),(5,[]),(11,[]),(12,[]),(13,[])],[(.loc 10,[.wr .op])])
 | 16=> ([(0,[]),(5,[]),(8,[]),(11,[]),(12,[]),(13,[])],[(.loc 8,[]),(.loc 10,[.wr .op])])
 | 17=> ([(0,[]),(5,[]),(11,[]),(12,[]),(13,[])],[(.loc 10,[.wr .op])])
 | 18=> ([(0,[]),(5,[]),(11,[]),(12,[]),(13,[])],[(.loc 10,[.wr .op,.own .tree,.own .tree])])
 | 19=> ([(5,[])],[(.loc 10,[.wr .op])])
 | 20=> ([(4,[])],[])
 | _=> ([],[])
def ZX(list:Int)(l:List Op)(x13:Int)(rl_10_0:List Op)(ml10_1 ml10_2:List Tree):LSt U:=(⟨[(0,.c (ci list)),(5,.ptr (.loc 10) 0),(11,.c (sU .op l .unk)),(12,.c (ci (l.length:Int))),(13,.c (ci x13))],[(.loc 10,[.mref (.l 10 0),sU .tree ml10_1 (.own (.l 10 1)),sU .tree ml10_2 (.own (.l 10 2))])],[(.l 10 0,LC.mk (U:=U) .op rl_10_0 0)]⟩:LSt U)
abbrev W94(N:Nat)(list:Int)(l:List Op)(Q:QT):=AW (Z0 (Z1O N)) Try.f94 ZbP [] (L2 [(0,.c (ci list)),(1,.c (sU .op l .unk))] []) Q
abbrev ZiR(N:Nat):=awp cfg (Z0 (Z1O N)) (ZA cfg (Z0 (Z1O N))) Try.f94.ntmps ZbP
abbrev ZhS(N:Nat):=Z6y cfg (Z0 (Z1O N)) (ZA cfg (Z0 (Z1O N))) Try.f94.ntmps ZbP
theorem Zts(N:Nat)(list:Int)(l:List Op)(Q:QT)(h:Zj (AW (Z0 (Z1O N)) Try.f94 ZbP [1,1,0,1,0,0]) (ZX list l 0 [] [] []) (xB 0 (SW (Z0 (Z1O N)) Try.f94 ZbP [1,1,1] Q))):
  W94 N list l Q:=by
 have e_:(W94 N list l Q)=(Zj (ZiR N (cd Try.f94 [1,1,0,1,0,0])) (ZX list l 0 [] [] []) (xB 0 (ZhS N (cd Try.f94 [1,1,1]) Q))):=by kernel_rfl
 exact e_.mpr h
abbrev Zm0(N:Nat)(list:Int)(l:List Op)(x13:Int)(rl_10_0:List Op)(ml10_1 ml10_2:List Tree)(N0:NT)(Q:QT):=AW (Z0 (Z1O N)) Try.f94 ZbP [1,1,0,1,0,0] (ZX list l x13 rl_10_0 ml10_1 ml10_2) (xT N0 (xB 0 (SW (Z0 (Z1O N)) Try.f94 ZbP [1,1,1] Q)))
theorem Zmc(N:Nat)(list:Int)(l:List Op)(x13:Int)(rl_10_0:List Op)(ml10_1 ml10_2:List Tree)(N0:NT)(Q:QT)(h:∀ y_1,y_1=(l.getD x13.toNat Op.nil)→∀ y_2,y_2=(Edit.mk 0 (Tree.mk 0 [] []) (Tree.mk 0 [] []) [] [] 0 [])→∀ y_3,y_3=(Int.toNat (((Z1 (Wst.mk rl_10_0 ml10_1 ml10_2)).out).length:Int))→∀ y_4,y_4=(y_1.e)→∀ y_5,y_5=(Yb y_4)→((decide (x13 < (l.length:Int)))=true→((0:Int)≤x13∧x13 < (l.length:Int))∧(((y_1.kind==0)=true→(Z2C ((rl_10_0,ml10_1,ml10_2,()),y_1.n,()))∧((InR (x13+1))∧(N0 (ZX list l (x13+1) ((ZI (Wst.mk rl_10_0 ml10_1 ml10_2) y_1.n).out) ((ZI (Wst.mk rl_10_0 ml10_1 ml10_2) y_1.n).gone) ((ZI (Wst.mk rl_10_0 ml10_1 ml10_2) y_1.n).brought)))))∧((y_1.kind==0)=false→((y_1.kind==1)=true→(Z6F ((rl_10_0,ml10_1,ml10_2,()),y_1.l,()))∧((InR (x13+1))∧(N0 (ZX list l (x13+1) ((Wst.mk rl_10_0 (ml10_1++Z8 y_1.l) ml10_2).out) ((Wst.mk rl_10_0 (ml10_1++Z8 y_1.l) ml10_2).gone) ((Wst.mk rl_10_0 (ml10_1++Z8 y_1.l) ml10_2).brought)))))∧((y_1.kind==1)=false→((y_1.kind==2)=true→(Z3W ((rl_10_0,ml10_1,ml10_2,()),y_1.l,()))∧((InR (x13+1))∧(N0 (ZX list l (x13+1) ((Wst.mk rl_10_0 ml10_1 (ml10_2++Z8 y_1.l)).out) ((Wst.mk rl_10_0 ml10_1 (ml10_2++Z8 y_1.l)).gone) ((Wst.mk rl_10_0 ml10_1 (ml10_2++Z8 y_1.l)).brought)))))∧((y_1.kind==2)=false→((y_1.kind==3)=true→(Z20 (y_4,()))∧(Z9B (y_4,()) < N)∧((Z3V (list,y_5,()))∧(((Z4w list y_5)=true→(Z2C ((rl_10_0,ml10_1,ml10_2,()),1,()))∧((InR (x13+1))∧(N0 (ZX list l (x13+1) ((ZI (Wst.mk rl_10_0 ml10_1 ml10_2) 1).out) ((ZI (Wst.mk rl_10_0 ml10_1 ml10_2) 1).gone) ((ZI (Wst.mk rl_10_0 ml10_1 ml10_2) 1).brought)))))∧((Z4w list y_5)=false→(Z0m ((rl_10_0,ml10_1,ml10_2,()),()))∧(((((Z1 (Wst.mk rl_10_0 ml10_1 ml10_2)).out).length+([(OpOf.mk 0 0 [] y_2:Op)]).length)*240≤140737488355328)∧((0:Int)≤(((Z1 (Wst.mk rl_10_0 ml10_1 ml10_2)).out).length:Int)∧(((Z1 (Wst.mk rl_10_0 ml10_1 ml10_2)).out).length:Int) < ((((Z1 (Wst.mk rl_10_0 ml10_1 ml10_2)).out)++([(OpOf.mk 0 0 [] y_2:Op)])).length:Int))∧((0:Nat)≤y_3)∧((InR (x13+1))∧(N0 (ZX list l (x13+1) (List.set (((Z1 (Wst.mk rl_10_0 ml10_1 ml10_2)).out)++([(OpOf.mk 0 0 [] y_2:Op)])) y_3 (OpOf.mk 3 0 [] y_5:Op)) ((Z1 (Wst.mk rl_10_0 ml10_1 ml10_2)).gone) ((Z1 (Wst.mk rl_10_0 ml10_1 ml10_2)).brought)))))))))∧((y_1.kind==3)=false→(InR (x13+1))∧(N0 (ZX list l (x13+1) rl_10_0 ml10_1 ml10_2))))))))∧((decide (x13 < (l.length:Int)))=false→(Z0m ((rl_10_0,ml10_1,ml10_2,()),()))∧(Q .ret (L2 [(4,.c (sU .op ((Z1 (Wst.mk rl_10_0 ml10_1 ml10_2)).out) (.own (.e 4 0))))] [])))):
  Zm0 N list l x13 rl_10_0 ml10_1 ml10_2 N0 Q:=by
 have e_:(Zm0 N list l x13 rl_10_0 ml10_1 ml10_2 N0 Q)=(let y_1:=(l.getD x13.toNat Op.nil);let y_2:=(Edit.mk 0 (Tree.mk 0 [] []) (Tree.mk 0 [] []) [] [] 0 []);let y_3:=(Int.toNat (((Z1 (Wst.mk rl_10_0 ml10_1 ml10_2)).out).length:Int));let y_4:=(Jb y_1.e);let y_5:=(Jb (Yb y_4));(((decide ((x13:Int) < (l.length:Int)))=true→((0:Int)≤x13∧x13 < (l.length:Int))∧(((y_1.kind==0)=true→(Z2C ((rl_10_0,ml10_1,ml10_2,()),y_1.n,()))∧((InR ((x13:Int)+1))∧(N0 (ZX list l ((x13:Int)+1) ((ZI (Wst.mk rl_10_0 ml10_1 ml10_2) y_1.n).out) ((ZI (Wst.mk rl_10_0 ml10_1 ml10_2) y_1.n).gone) ((ZI (Wst.mk rl_10_0 ml10_1 ml10_2) y_1.n).brought)))))∧((y_1.kind==0)=false→(((y_1.kind==1)=true→(Z6F ((rl_10_0,ml10_1,ml10_2,()),y_1.l,()))∧((InR ((x13:Int)+1))∧(N0 (ZX list l ((x13:Int)+1) ((Wst.mk rl_10_0 (ml10_1++Z8 y_1.l) ml10_2).out) ((Wst.mk rl_10_0 (ml10_1++Z8 y_1.l) ml10_2).gone) ((Wst.mk rl_10_0 (ml10_1++Z8 y_1.l) ml10_2).brought)))))∧((y_1.kind==1)=false→(((y_1.kind==2)=true→(Z3W ((rl_10_0,ml10_1,ml10_2,()),y_1.l,()))∧((InR ((x13:Int)+1))∧(N0 (ZX list l ((x13:Int)+1) ((Wst.mk rl_10_0 ml10_1 (ml10_2++Z8 y_1.l)).out) ((Wst.mk rl_10_0 ml10_1 (ml10_2++Z8 y_1.l)).gone) ((Wst.mk rl_10_0 ml10_1 (ml10_2++Z8 y_1.l)).brought)))))∧((y_1.kind==2)=false→(((y_1.kind==3)=true→(Z20 (y_4,()))∧(Z9B (y_4,()) < N)∧((Z3V (list,y_5,()))∧(((Z4w list y_5)=true→(Z2C ((rl_10_0,ml10_1,ml10_2,()),1,()))∧((InR ((x13:Int)+1))∧(N0 (ZX list l ((x13:Int)+1) ((ZI (Wst.mk rl_10_0 ml10_1 ml10_2) 1).out) ((ZI (Wst.mk rl_10_0 ml10_1 ml10_2) 1).gone) ((ZI (Wst.mk rl_10_0 ml10_1 ml10_2) 1).brought)))))∧((Z4w list y_5)=false→(Z0m ((rl_10_0,ml10_1,ml10_2,()),()))∧(((((Z1 (Wst.mk rl_10_0 ml10_1 ml10_2)).out).length+([(OpOf.mk 0 0 [] y_2:Op)]).length)*240≤140737488355328)∧((0:Int)≤(((Z1 (Wst.mk rl_10_0 ml10_1 ml10_2)).out).length:Int)∧(((Z1 (Wst.mk rl_10_0 ml10_1 ml10_2)).out).length:Int) < ((((Z1 (Wst.mk rl_10_0 ml10_1 ml10_2)).out)++([(OpOf.mk 0 0 [] y_2:Op)])).length:Int))∧((0:Nat)≤y_3)∧((InR ((x13:Int)+1))∧(N0 (ZX list l ((x13:Int)+1) (List.set (((Z1 (Wst.mk rl_10_0 ml10_1 ml10_2)).out)++([(OpOf.mk 0 0 [] y_2:Op)])) y_3 (OpOf.mk 3 0 [] y_5:Op)) ((Z1 (Wst.mk rl_10_0 ml10_1 ml10_2)).gone) ((Z1 (Wst.mk rl_10_0 ml10_1 ml10_2)).brought)))))))))∧((y_1.kind==3)=false→(InR ((x13:Int)+1))∧(N0 (ZX list l ((x13:Int)+1) rl_10_0 ml10_1 ml10_2)))))))))))∧((decide ((x13:Int) < (l.length:Int)))=false→(Z0m ((rl_10_0,ml10_1,ml10_2,()),()))∧(Q .ret (L2 [(4,.c (sU .op ((Z1 (Wst.mk rl_10_0 ml10_1 ml10_2)).out) (.own (.e 4 0))))] []))))):=by kernel_rfl
 exact e_.mpr (by intro y_1 y_2 y_3 y_4 y_5;have hh:=h y_1 rfl y_2 rfl y_3 rfl y_4 (Zm _) y_5 (Zm _);exact ⟨fun c_5=> ⟨(hh.1 c_5).1,⟨fun c_6=> ⟨((hh.1 c_5).2.1 c_6).1,⟨((hh.1 c_5).2.1 c_6).2.1,((hh.1 c_5).2.1 c_6).2.2⟩⟩,fun c_6=> ⟨fun c_7=> ⟨(((hh.1 c_5).2.2 c_6).1 c_7).1,⟨(((hh.1 c_5).2.2 c_6).1 c_7).2.1,(((hh.1 c_5).2.2 c_6).1 c_7).2.2⟩⟩,fun c_7=> ⟨fun c_8=> ⟨((((hh.1 c_5).2.2 c_6).2 c_7).1 c_8).1,⟨((((hh.1 c_5).2.2 c_6).2 c_7).1 c_8).2.1,((((hh.1 c_5).2.2 c_6).2 c_7).1 c_8).2.2⟩⟩,fun c_8=> ⟨fun c_9=> ⟨(((((hh.1 c_5).2.2 c_6).2 c_7).2 c_8).1 c_9).1,(((((hh.1 c_5).2.2 c_6).2 c_7).2 c_8).1 c_9).2.1,⟨(((((hh.1 c_5).2.2 c_6).2 c_7).2 c_8).1 c_9).2.2.1,⟨fun c_10=> ⟨((((((hh.1 c_5).2.2 c_6).2 c_7).2 c_8).1 c_9).2.2.2.1 c_10).1,⟨((((((hh.1 c_5).2.2 c_6).2 c_7).2 c_8).1 c_9).2.2.2.1 c_10).2.1,((((((hh.1 c_5).2.2 c_6).2 c_7).2 c_8).1 c_9).2.2.2.1 c_10).2.2⟩⟩,fun c_10=> ⟨((((((hh.1 c_5).2.2 c_6).2 c_7).2 c_8).1 c_9).2.2.2.2 c_10).1,⟨((((((hh.1 c_5).2.2 c_6).2 c_7).2 c_8).1 c_9).2.2.2.2 c_10).2.1,((((((hh.1 c_5).2.2 c_6).2 c_7).2 c_8).1 c_9).2.2.2.2 c_10).2.2.1,((((((hh.1 c_5).2.2 c_6).2 c_7).2 c_8).1 c_9).2.2.2.2 c_10).2.2.2.1,⟨((((((hh.1 c_5).2.2 c_6).2 c_7).2 c_8).1 c_9).2.2.2.2 c_10).2.2.2.2.1,((((((hh.1 c_5).2.2 c_6).2 c_7).2 c_8).1 c_9).2.2.2.2 c_10).2.2.2.2.2⟩⟩⟩⟩⟩⟩,fun c_9=> ⟨(((((hh.1 c_5).2.2 c_6).2 c_7).2 c_8).2 c_9).1,(((((hh.1 c_5).2.2 c_6).2 c_7).2 c_8).2 c_9).2⟩⟩⟩⟩⟩⟩,fun c_5=> ⟨(hh.2 c_5).1,(hh.2 c_5).2⟩⟩)
def Zrp(N:Nat)(list:Int)(l:List Op):Prop:=AW (Z0 (Z1O N)) Try.f94 ZbP [] (Zl (Zcf.can (list,l,())) []) (EQ Try.f94 (ZcQ (list,l,())) [])
abbrev Ztk:Prop:=∀ (N:Nat) (list:Int) (l:List Op) (_:Unit),Z7t (list,l,())→Zdm (list,l,()) < N+1→Zrp N list l
theorem Zij(c71:CT 71 J9)(Zlv:CT 128 Z1U)(ZqY:CT 126 Z3K)(ZiG:CT 129 Z0s)(Zlu:CT 127 Z33)(ha:Zto)(hb:Ztk):CT 57 Z31∧CT 94 Zju:=
 Z4x (μA:=Z9B) (μB:=Zdm) (l:=[(71,J9),(128,Z1U),(126,Z3K),(129,Z0s),(127,Z33)]) Zk rfl (⟨c71,Zlv,ZqY,ZiG,Zlu,trivial⟩) ZbQ ZbP Try.func57 Try.func94 rfl rfl rfl rfl 1 2 (fun _=> rfl) (fun _=> rfl) (by decide) (by decide) (fun N ⟨e,_⟩=> ha N e ()) (fun N ⟨list,l,_⟩=> hb N list l ())
end
end
end Go.AM.Ytpjenobkibfpcaa
namespace Go.AM.Ytpjenobkibfpcaa
open Go.AM Go.Proofs
theorem Zit(s:Wst)(n:Int):(ZI s n).out.length≤s.out.length+3:=by
 have h:=Z78 s
 simp only [ZI]
 rw [Z5Q]
 split
 ·rw [List.length_set];omega
 ·rw [List.length_append];simp;omega
theorem ZnQ{s:Wst}{n B K:Int}(hB:0≤B)(hn:0≤n∧n≤K)(h:∀ o∈s.out,0≤o.n∧o.n≤B):∀ o∈(ZI s n).out,0≤o.n∧o.n≤B+K:=by
 have hF:∀ o∈(Z1 s).out,0≤o.n∧o.n≤B:=by
  intro o ho
  rcases Z77 s o ho with h1 | h1
  ·exact h o h1
  ·omega
 intro o ho
 simp only [ZI] at ho
 rw [Z5Q] at ho
 split at ho
 ·rename_i hc
  rcases List.mem_or_eq_of_mem_set ho with ho | rfl
  ·have:=hF o ho;omega
  ·have:=hF _ (Zp (l:=(Z1 s).out) (i:=(Z1 s).out.length - 1) (by omega) Op.nil)
   simp only;omega
 ·rcases List.mem_append.1 ho with ho | ho
  ·have:=hF o ho;omega
  ·simp only [List.mem_singleton] at ho;subst ho;simp only;omega
theorem Z9t:∀ (l:List Kid),(J4 l).length=l.length
 | []=> rfl
 | k ::r=> by simp [J4,Z9t r]
theorem ZeH(e:Edit):(Yb e).words.length≤e.words.length∧(Yb e).kids.length≤e.kids.length:=by
 rw [Z5x]
 split
 ·simp
 ·split
  ·simp [Z9t]
  ·split <;> simp
theorem Zbr{list:Int}{o:Op}{d:Int}(h:Zd list o d=true)(hk:o.kind=0):1≤o.n∧o.n≤1048576:=by
 obtain ⟨k,n,l,e⟩:=o
 simp only at hk
 subst hk
 simp [Zd] at h
 show 1≤n∧n≤1048576
 omega
theorem Zbs{list:Int}{o:Op}{d:Int}(h:Zd list o d=true)(hk:o.kind=3):Z3 o.e d=true:=by
 obtain ⟨k,n,l,e⟩:=o
 simp only at hk
 subst hk
 simp [Zd] at h
 exact h.2.1.2
theorem Zip{e:Edit}{d:Int}(h:Z3 e d=true)(hk:e.kind=2):∀ k∈e.kids,∃ d,Z3 k.e d=true:=by
 obtain ⟨k,o,n,w,ks,l,os⟩:=e
 change k=2 at hk
 subst hk
 have hks:∃ d last,Zv last ks d=true:=by
  unfold Z3 at h
  split at h
  ·cases h
  ·split at h
   ·cases h
   ·rw [if_neg (by omega)] at h
    simp only [Bool.and_eq_true] at h
    exact ⟨_,_,h.1.1.1.2⟩
 obtain ⟨d',last,hks⟩:=hks
 change ∀ k∈ks,_
 clear h
 induction ks generalizing last with
 | nil=> intro k hk;cases hk
 | cons a r ih=>
  simp only [Zv,Bool.and_eq_true] at hks
  intro k hk
  rcases List.mem_cons.1 hk with rfl | hk
  ·obtain ⟨a,e⟩:=k
   simp only [Z0a,Bool.and_eq_true] at hks
   exact ⟨_,hks.1.2⟩
  ·exact ih _ hks.2 k hk
theorem Zko{e:Edit}{d:Int}(h:Z3 e d=true)(hk:e.kind=3):∀ o∈e.ops,∃ d,Zd e.list o d=true:=by
 obtain ⟨k,o,n,w,ks,l,os⟩:=e
 change k=3 at hk
 subst hk
 have hos:∃ d,Zx l os d=true:=by
  unfold Z3 at h
  split at h
  ·cases h
  ·split at h
   ·cases h
   ·rw [if_neg (by omega)] at h
    simp only [Bool.and_eq_true] at h
    exact ⟨_,h.1.2⟩
 obtain ⟨d',hos⟩:=hos
 change ∀ o∈os,∃ d,Zd l o d=true
 clear h
 induction os with
 | nil=> intro k hk;cases hk
 | cons a r ih=>
  simp only [Zx,Bool.and_eq_true] at hos
  intro k hk
  rcases List.mem_cons.1 hk with rfl | hk
  ·exact ⟨_,hos.1⟩
  ·exact ih hos.2 k hk
theorem b94:Ztk:=by
 intro N list l _ hp hN
 simp only [Z7t,Zdm] at hp hN
 obtain ⟨p1,p3⟩:=hp
 have hl:=Yq l
 refine Zts _ _ _ _ ?_
 refine Zc (ι:=Int × Wst) (fun s=> ZX list l s.1 s.2.out s.2.gone s.2.brought)
  (fun s=> 0≤s.1∧s.1≤l.length∧Y3 list (l.drop s.1.toNat) s.2=Y3 list l ⟨[],[],[]⟩∧s.2.out.length≤3*s.1∧s.2.gone.length+s.2.brought.length+Zf (l.drop s.1.toNat)≤Zf l∧∀ o∈s.2.out,0≤o.n∧o.n≤s.1*1048576)
  (fun s=> ((l.length:Int) - s.1).toNat) (0,⟨[],[],[]⟩) rfl ⟨by simp,by simp,by simp,by simp,by simp,by simp⟩ ?_
 rintro ⟨i,s⟩ ⟨g1,g2,g3,g4,g5,g6⟩
 dsimp only at g1 g2 g3 g4 g5 g6
 refine Zmc _ _ _ _ _ _ _ _ _ ?_
 rintro y1 hy1 y2 hy2 y3 hy3 y4 hy4 y5 hy5
 have hy:y2=Edit.nil:=hy2
 subst hy
 have es:Wst.mk s.out s.gone s.brought=s:=rfl
 simp only [es] at hy3 ⊢
 (simp only [vcS])
 refine ⟨fun hi=> ?_,fun hi=> ?_⟩
 ·have hmem:=Zp (l:=l) (i:=i.toNat) (by omega) Op.nil
  have hm:=Yy hmem
  have hr:=p3 _ hmem
  rw [Yn g1 hi Op.nil] at g3 g5
  rw [←hy1] at g3 g5 hm hr
  have hmo:=YC y1
  simp only [Y3,Z1b,Zf] at g3 g5
  rw [←hy4,←hy5] at g3
  obtain ⟨d,hr2⟩:=hr
  have hfl:=Z78 s
  have hP:∀ n:Int,0≤n∧n≤1048576→Z2C ((s.out,s.gone,s.brought,()),n,()):=by
   intro n hn
   simp only [Z2C]
   refine ⟨by omega,by omega,by omega,fun o ho=> ?_,by omega,by omega⟩
   have:=g6 o ho
   constructor
   ·omega
   ·have:i*1048576≤20000000000*1048576:=by omega
    omega
  have hK:∀ n:Int,0≤n∧n≤1048576→Y3 list (l.drop (i+1).toNat) (ZI s n)=Y3 list l ⟨[],[],[]⟩→
    (∃ j:Int × Wst,ZX list l (i+1) (ZI s n).out (ZI s n).gone (ZI s n).brought=ZX list l j.1 j.2.out j.2.gone j.2.brought∧(0≤j.1∧j.1≤l.length∧Y3 list (l.drop j.1.toNat) j.2=Y3 list l ⟨[],[],[]⟩∧j.2.out.length≤3*j.1∧j.2.gone.length+j.2.brought.length+Zf (l.drop j.1.toNat)≤Zf l∧∀ o∈j.2.out,0≤o.n∧o.n≤j.1*1048576)∧((l.length:Int) - j.1).toNat < ((l.length:Int) - i).toNat):=by
   intro n hn he
   have h1:=Zit s n
   have h2:=ZnQ (s:=s) (n:=n) (B:=i*1048576) (K:=1048576) (by omega) hn g6
   refine ⟨(i+1,ZI s n),rfl,⟨by dsimp only;omega,by dsimp only;omega,he,by dsimp only;omega,by simp only [ZI,List.length_nil];omega,fun o ho=> ?_⟩,by dsimp only;omega⟩
   have:=h2 o ho
   dsimp only
   omega
  refine ⟨⟨g1,hi⟩,fun hk=> ?_,fun hk=> ⟨fun hk1=> ?_,fun hk1=> ⟨fun hk2=> ?_,fun hk2=> ⟨fun hk3=> ?_,fun hk3=> ?_⟩⟩⟩⟩
  ·rw [if_pos hk] at g3
   have h1:=Zbr hr2 hk
   exact ⟨hP _ (by omega),by unfold InR;omega,hK _ (by omega) g3⟩
  ·rw [if_neg hk,if_pos hk1] at g3
   refine ⟨by simp only [Z6F];omega,by unfold InR;omega,(i+1,⟨s.out,s.gone++Z8 y1.l,s.brought⟩),rfl,⟨by dsimp only;omega,by dsimp only;omega,g3,by dsimp only;omega,?_,fun o ho=> ?_⟩,by dsimp only;omega⟩
   ·have:=Zr y1.l
    simp only [List.length_append,Z8,List.length_map];omega
   ·have:=g6 o ho
    dsimp only;omega
  ·rw [if_neg hk,if_neg hk1,if_pos hk2] at g3
   refine ⟨by simp only [Z3W];omega,by unfold InR;omega,(i+1,⟨s.out,s.gone,s.brought++Z8 y1.l⟩),rfl,⟨by dsimp only;omega,by dsimp only;omega,g3,by dsimp only;omega,?_,fun o ho=> ?_⟩,by dsimp only;omega⟩
   ·have:=Zr y1.l
    simp only [List.length_append,Z8,List.length_map];omega
   ·have:=g6 o ho
    dsimp only;omega
  ·rw [if_neg hk,if_neg hk1,if_neg hk2,if_pos hk3] at g3
   have hre:=Zbs hr2 hk3
   rw [←hy4] at hre
   have hw:=ZeH y4
   rw [←hy5] at hw
   have h1:=Y5 y4
   have h2:=Yg y4.kids
   have hmE:Ze y4≤ZW y1:=by rw [hmo,hy4];omega
   refine ⟨by simp only [Z20];exact ⟨by omega,d,hre⟩,by simp only [Z9B];omega,by simp only [Z3V];omega,fun hq=> ?_,fun hq=> ?_⟩
   ·rw [if_pos hq] at g3
    exact ⟨hP 1 (by omega),by unfold InR;omega,hK 1 (by omega) g3⟩
   ·rw [if_neg (by rw [hq];simp)] at g3
    rw [hy3,Z0Z]
    refine ⟨by simp only [Z0m];omega,by simp only [List.length_cons,List.length_nil];omega,by simp only [List.length_append,List.length_cons,List.length_nil];omega,by omega,by unfold InR;omega,(i+1,⟨(Z1 s).out++[⟨3,0,[],y5⟩],[],[]⟩),rfl,⟨by dsimp only;omega,by dsimp only;omega,g3,by simp;omega,by simp;omega,fun o ho=> ?_⟩,by dsimp only;omega⟩
    dsimp only at ho ⊢
    rcases List.mem_append.1 ho with ho | ho
    ·rcases Z77 s o ho with h5 | h5
     ·have:=g6 o h5;omega
     ·omega
    ·simp only [List.mem_singleton] at ho
     subst ho
     simp only;omega
  ·rw [if_neg hk,if_neg hk1,if_neg hk2,if_neg hk3] at g3
   refine ⟨by unfold InR;omega,(i+1,s),rfl,⟨by dsimp only;omega,by dsimp only;omega,g3,by dsimp only;omega,by dsimp only;omega,fun o ho=> ?_⟩,by dsimp only;omega⟩
   have:=g6 o ho
   dsimp only;omega
 ·rw [List.drop_of_length_le (by omega)] at g3
  simp only [Y3] at g3
  refine ⟨by simp only [Z0m];omega,?_⟩
  simp only [ZcQ]
  rw [←g3]
  (repeat' (first | exact trivial | exact rfl | apply And.intro))
theorem b57:Zto:=by
 intro N e _ hp hN
 simp only [Z20,Z9B] at hp hN
 obtain ⟨p1,d,p3⟩:=hp
 have h1:=Y5 e
 have h2:=Yg e.kids
 have h3:=Yq e.ops
 have ha:=Z5x e
 refine ZtQ _ _ _ ?_
 (simp only [vcS])
 (simp only [Tree.eta,Edit.eta,Tree.kind_mk,Tree.words_mk,Tree.kids_mk])
 refine ⟨fun hk=> ⟨by simp only [JJ];omega,by simp only [JJ];omega,?_⟩,fun hk=> ⟨fun hk2=> ⟨by simp;omega,?_⟩,fun hk2=> ⟨fun hk3=> ⟨?_,by simp only [Zdm];omega,?_⟩,fun hk3=> ?_⟩⟩⟩
 ·rw [if_pos hk] at ha
  simp only [Z7s,ha]
  (repeat' (first | exact trivial | exact rfl | apply And.intro))
 ·rw [if_neg hk,if_pos hk2] at ha
  refine Zc (ι:=Int × List Kid) (fun s=> Z2a e s.1 s.2) (fun s=> 0≤s.1∧s.1≤e.kids.length∧s.2.length=s.1∧s.2++J4 (e.kids.drop s.1.toNat)=J4 e.kids) (fun s=> ((e.kids.length:Int) - s.1).toNat) (0,[]) rfl ⟨by simp,by simp,by simp,by simp⟩ ?_
  rintro ⟨j,ks⟩ ⟨f1,f2,f3,f4⟩
  dsimp only at f1 f2 f3 f4
  refine Zmz _ _ _ _ _ _ ?_
  rintro y1 hy1 y2 hy2 y3 hy3
  (simp only [vcS])
  refine ⟨fun hj=> ?_,fun hj=> ?_⟩
  ·have hmem:=Zp (l:=e.kids) (i:=j.toNat) (by omega) (KidOf.mk 0 Edit.nil)
   have hm:=Jg hmem
   have hr:=Zip p3 hk2 _ hmem
   rw [Yn f1 hj (KidOf.mk 0 Edit.nil)] at f4
   rw [←hy1] at f4 hm hr
   simp only [J4,ZaN] at f4
   rw [←hy2] at f4 hm hr
   rw [←hy3] at f4
   refine ⟨⟨f1,hj⟩,by simp only [Z20];exact ⟨by omega,hr⟩,by simp only [Z9B];omega,by simp;omega,by unfold InR;omega,(j+1,ks++[⟨y1.at_,y3⟩]),rfl,⟨by dsimp only;omega,by dsimp only;omega,by simp;omega,?_⟩,by dsimp only;omega⟩
   simp only [List.append_assoc,List.cons_append,List.nil_append]
   exact f4
  ·rw [List.drop_of_length_le (by omega)] at f4
   simp only [J4,List.append_nil] at f4
   rw [f4]
   simp only [Z7s,ha]
   (repeat' (first | exact trivial | exact rfl | apply And.intro))
 ·simp only [Z7t]
  exact ⟨by omega,fun o ho=> Zko p3 hk3 o ho⟩
 ·rw [if_neg hk,if_neg hk2,if_pos hk3] at ha
  simp only [Z7s,ha]
  (repeat' (first | exact trivial | exact rfl | apply And.intro))
 ·rw [if_neg hk,if_neg hk2,if_neg hk3] at ha
  simp only [Z7s,ha]
  (repeat' (first | exact trivial | exact rfl | apply And.intro))
theorem Zlt:Contract Try.prog cfg 57 Z31∧Contract Try.prog cfg 94 Zju:=Zij c71 Zlv ZqY ZiG Zlu b57 b94
end Go.AM.Ytpjenobkibfpcaa
namespace Go.AM.Ytpjenobkibfpcaa
open Go.AM Go.Proofs
theorem ZnY{n:Nat}{rs:List ResultVar}{r r':V U}{X:List (List (C U))}{e:AExit}{s:LSt U}(hr:r=r')(h:J6 cfg n rs r' X e s):J6 cfg n rs r X e s:=by rw [hr];exact h
end Go.AM.Ytpjenobkibfpcaa
namespace Go.AM
def Z2T(list:Int):List Tree→Int→Int
 | [],_=> -1
 | t ::r,i=> if Z9 (Tree.mk list [] [t]) 64=true then Z2T list r (i+1) else i
theorem Zb7(list:Int):∀ (l:List Tree) (i:Int),0≤i→(0≤Z2T list l i↔Yw list l=false)
 | [],i,_=> by simp [Z2T,Yw]
 | t ::r,i,hi=> by
  have ih:=Zb7 list r (i+1) (by omega)
  rw [Z2T,Yw]
  by_cases h:Z9 (Tree.mk list [] [t]) 64=true
  ·rw [if_pos h,h,Bool.true_and];exact ih
  ·rw [if_neg h]
   simp only [Bool.not_eq_true] at h
   rw [h,Bool.false_and]
   exact ⟨fun _=> rfl,fun _=> hi⟩
end Go.AM
namespace Go.AM.Ytpjenobkibfpcaa
open Go.AM Go.Proofs
noncomputable section
noncomputable section
def Zck:ArgM (Tree × (Int × Unit) × Unit):=(.cons (aEl .tree) (.obj 0 (.cons (Zfk .i64) .nil) .nil))
def Z6C(a:Tree × (Int × Unit) × Unit):Prop:=Zg a.1≤18000000000∧rng a.1∧isI a.2.1.1
def Zet(a:Tree × (Int × Unit) × Unit):V U:= .c (.bool (!(Z9 (Tree.mk a.2.1.1 [] [a.1]) 64)))
def Zbw(a:Tree × (Int × Unit) × Unit):List (List (C U)):=[[ci a.2.1.1]]
def Z5e:Fs U:=fsX Zck (fun a=> [Z6C a]) Zet Zbw
def Zcj:ArgM (List Tree × (Int × Unit) × Unit):=(.cons (aSl .tree) (.clo 185 0 (.cons (Zfk .i64) .nil) .nil))
def Z9i(a:List Tree × (Int × Unit) × Unit):Prop:=Za a.1≤18000000000∧ZO a.1∧isI a.2.1.1
def ZbA(a:List Tree × (Int × Unit) × Unit):V U:= .c (ci (Z2T a.2.1.1 a.1 0))
def Z8g(a:List Tree × (Int × Unit) × Unit):List (List (C U)):=[[ci a.2.1.1]]
def Z5b:Fs U:=fsX Zcj (fun a=> [Z9i a]) ZbA Z8g
def Zcl:ArgM (List Tree × (Int × Unit) × Unit):=(.cons (aSl .tree) (.clo 185 0 (.cons (Zfk .i64) .nil) .nil))
def Z2A(a:List Tree × (Int × Unit) × Unit):Prop:=Za a.1≤18000000000∧ZO a.1∧isI a.2.1.1
def Zeu(a:List Tree × (Int × Unit) × Unit):V U:= .c (.bool (!(Yw a.2.1.1 a.1)))
def Zbx(a:List Tree × (Int × Unit) × Unit):List (List (C U)):=[[ci a.2.1.1]]
def Z2r:Fs U:=fsX Zcl (fun a=> [Z2A a]) Zeu Zbx
def ZgK:List (FuncId × Fs U):=[(186,Z5d)]
def ZkF:Zh U:=fun i=> match i with
 | 0=> ([(1,[]),(2,[])],[(.loc 2,[]),(.x 0,[])])
 | 1=> ([(3,[])],[(.x 0,[])])
 | _=> ([],[])
abbrev Zt3(t:Tree)(list:Int)(Q:QT):=AW (Z0 ZgK) Try.f185 ZkF [] (L2 [(0,.agg (enc .tree t)),(1,.ptr (.x 0) 0)] [(.x 0,[ci list])]) Q
theorem Zsc(t:Tree)(list:Int)(Q:QT)(h:(Z9j (list,(Tree.mk t.kind t.words t.kids),()))∧(Q .ret (L2 [(3,.c (.bool (!(Z9 (Tree.mk list [] [(Tree.mk t.kind t.words t.kids)]) 64))))] [(.x 0,[ci list])]))):
  Zt3 t list Q:=by
 have e_:(Zt3 t list Q)=(type_of% h):=by kernel_rfl
 exact e_.mpr ⟨h.1,h.2⟩
def Zoe(t:Tree)(list:Int):Prop:=AW (Z0 ZgK) Try.f185 ZkF [] (Zl (Zck.can (t,(list,()),())) (Zck.canX (t,(list,()),()))) (EQ Try.f185 (Zet (t,(list,()),())) (Zbw (t,(list,()),())))
theorem Zn6(ZqO:CT 186 Z5d)(hb:∀ (t:Tree) (list:Int) (_:Unit),Z6C (t,(list,()),())→Zoe t list):CT 185 Z5e:=
 YU (l:=[(186,Z5d)]) Zk rfl (⟨ZqO,trivial⟩) ZkF Try.func185 rfl rfl 2 (fun _=> rfl) (by decide) (fun ⟨t,⟨list,_⟩,_⟩=> hb t list ())
def JZ:List (FuncId × Fs U):=[(185,Z5e)]
def Z5G:Zh U:=fun i=> match i with
 | 0=> ([(0,[]),(1,[])],[(.x 0,[])])
 | 1=> ([(0,[]),(1,[]),(7,[]),(8,[])],[(.x 0,[])])
 | 2=> ([(0,[]),(1,[]),(7,[]),(8,[]),(9,[])],[(.x 0,[])])
 | 3=> ([(0,[]),(1,[]),(5,[]),(7,[]),(8,[])],[(.x 0,[])])
 | 4=> ([(0,[]),(1,[]),(5,[]),(7,[]),(8,[]),(16,[])],[(.x 0,[])])
 | 5=> ([(4,[])],[(.x 0,[])])
 | 6=> ([(0,[]),(1,[]),(7,[]),(8,[])],[(.x 0,[])])
 | 7=> ([(4,[])],[(.x 0,[])])
 | _=> ([],[])
def Z0P(l:List Tree)(list x8:Int):LSt U:=(L2 [(0,.c (sU .tree l .unk)),(1,.clo 185 [(.x 0)]),(7,.c (ci (l.length:Int))),(8,.c (ci x8))] [(.x 0,[ci list])])
abbrev Zt0(l:List Tree)(list:Int)(Q:QT):=AW (Z0 JZ) Try.f195 Z5G [] (L2 [(0,.c (sU .tree l .unk)),(1,.clo 185 [(.x 0)])] [(.x 0,[ci list])]) Q
abbrev Zfz:=awp cfg (Z0 JZ) (ZA cfg (Z0 JZ)) Try.f195.ntmps Z5G
abbrev Zeg:=Z6y cfg (Z0 JZ) (ZA cfg (Z0 JZ)) Try.f195.ntmps Z5G
theorem Zs8(l:List Tree)(list:Int)(Q:QT)(h:Zj (AW (Z0 JZ) Try.f195 Z5G [1,0,1,0,0]) (Z0P l list 0) (xB 0 (SW (Z0 JZ) Try.f195 Z5G [1,1] Q))):
  Zt0 l list Q:=by
 have e_:(Zt0 l list Q)=(Zj (Zfz (cd Try.f195 [1,0,1,0,0])) (Z0P l list 0) (xB 0 (Zeg (cd Try.f195 [1,1]) Q))):=by kernel_rfl
 exact e_.mpr h
abbrev Zhw(l:List Tree)(list x8:Int)(N0:NT)(Q:QT):=AW (Z0 JZ) Try.f195 Z5G [1,0,1,0,0] (Z0P l list x8) (xT N0 (xB 0 (SW (Z0 JZ) Try.f195 Z5G [1,1] Q)))
theorem Zj5(l:List Tree)(list x8:Int)(N0:NT)(Q:QT)(h:((decide (x8 < (l.length:Int)))=true→((0:Int)≤x8∧x8 < (l.length:Int))∧(Z6C ((Tree.mk (Tree.kind (l.getD x8.toNat Tree.nil)) (Tree.words (l.getD x8.toNat Tree.nil)) (Tree.kids (l.getD x8.toNat Tree.nil))),(list,()),()))∧(((!(Z9 (Tree.mk list [] [(Tree.mk (Tree.kind (l.getD x8.toNat Tree.nil)) (Tree.words (l.getD x8.toNat Tree.nil)) (Tree.kids (l.getD x8.toNat Tree.nil)))]) 64))=true→Q .ret (L2 [(4,.c (ci x8))] [(.x 0,[ci list])]))∧((!(Z9 (Tree.mk list [] [(Tree.mk (Tree.kind (l.getD x8.toNat Tree.nil)) (Tree.words (l.getD x8.toNat Tree.nil)) (Tree.kids (l.getD x8.toNat Tree.nil)))]) 64))=false→(InR (x8+1))∧(N0 (Z0P l list (x8+1))))))∧((decide (x8 < (l.length:Int)))=false→Q .ret (L2 [(4,.c (ci (-1)))] [(.x 0,[ci list])]))):
  Zhw l list x8 N0 Q:=by
 have e_:(Zhw l list x8 N0 Q)=(let zz0:=(!(Z9 (Tree.mk list [] [(Tree.mk (Tree.kind (l.getD x8.toNat Tree.nil)) (Tree.words (l.getD x8.toNat Tree.nil)) (Tree.kids (l.getD x8.toNat Tree.nil)))]) 64));(((decide ((x8:Int) < (l.length:Int)))=true→(((0:Int)≤x8∧x8 < (l.length:Int))∧(Z6C ((Tree.mk (Tree.kind (l.getD x8.toNat Tree.nil)) (Tree.words (l.getD x8.toNat Tree.nil)) (Tree.kids (l.getD x8.toNat Tree.nil))),(list,()),()))∧((zz0=true→(Q .ret (L2 [(4,.c (ci x8))] [(.x 0,[ci list])])))∧(zz0=false→(InR ((x8:Int)+1))∧(N0 (Z0P l list ((x8:Int)+1)))))))∧((decide ((x8:Int) < (l.length:Int)))=false→(Q .ret (L2 [(4,.c (ci (-1)))] [(.x 0,[ci list])]))))):=by kernel_rfl
 exact e_.mpr ⟨fun c_1=> ⟨(h.1 c_1).1,(h.1 c_1).2.1,⟨fun c_2=> ((h.1 c_1).2.2.1 c_2),fun c_2=> ⟨((h.1 c_1).2.2.2 c_2).1,((h.1 c_1).2.2.2 c_2).2⟩⟩⟩,fun c_1=> (h.2 c_1)⟩
def Zoa(l:List Tree)(list:Int):Prop:=AW (Z0 JZ) Try.f195 Z5G [] (Zl (Zcj.can (l,(list,()),())) (Zcj.canX (l,(list,()),()))) (EQ Try.f195 (ZbA (l,(list,()),())) (Z8g (l,(list,()),())))
theorem Zn2(ZqP:CT 185 Z5e)(hb:∀ (l:List Tree) (list:Int) (_:Unit),Z9i (l,(list,()),())→Zoa l list):CT 195 Z5b:=
 YU (l:=[(185,Z5e)]) Zk rfl (⟨ZqP,trivial⟩) Z5G Try.func195 rfl rfl 2 (fun _=> rfl) (by decide) (fun ⟨l,⟨list,_⟩,_⟩=> hb l list ())
def ZgL:List (FuncId × Fs U):=[(195,Z5b)]
def ZkG:Zh U:=fun i=> match i with
 | 0=> ([(0,[]),(1,[])],[(.x 0,[])])
 | 1=> ([(4,[])],[(.x 0,[])])
 | _=> ([],[])
abbrev Zt4(l:List Tree)(list:Int)(Q:QT):=AW (Z0 ZgL) Try.f184 ZkG [] (L2 [(0,.c (sU .tree l .unk)),(1,.clo 185 [(.x 0)])] [(.x 0,[ci list])]) Q
theorem Zsd(l:List Tree)(list:Int)(Q:QT)(h:(Z9i (l,(list,()),()))∧(Q .ret (L2 [(4,.c (.bool (decide ((0:Int)≤(Z2T list l 0)))))] [(.x 0,[ci list])]))):
  Zt4 l list Q:=by
 have e_:(Zt4 l list Q)=(type_of% h):=by kernel_rfl
 exact e_.mpr ⟨h.1,h.2⟩
def Zof(l:List Tree)(list:Int):Prop:=AW (Z0 ZgL) Try.f184 ZkG [] (Zl (Zcl.can (l,(list,()),())) (Zcl.canX (l,(list,()),()))) (EQ Try.f184 (Zeu (l,(list,()),())) (Zbx (l,(list,()),())))
theorem Zn7(ZqL:CT 195 Z5b)(hb:∀ (l:List Tree) (list:Int) (_:Unit),Z2A (l,(list,()),())→Zof l list):CT 184 Z2r:=
 YU (l:=[(195,Z5b)]) Zk rfl (⟨ZqL,trivial⟩) ZkG Try.func184 rfl rfl 2 (fun _=> rfl) (by decide) (fun ⟨l,⟨list,_⟩,_⟩=> hb l list ())
end
end
end Go.AM.Ytpjenobkibfpcaa
namespace Go.AM.Ytpjenobkibfpcaa
open Go.AM Go.Proofs
theorem ZqP:Contract Try.prog cfg 185 Z5e:=by
 refine Zn6 ZqO ?_
 intro t list _ hp
 simp only [Z6C] at hp
 refine Zsc _ _ _ ?_
 (simp only [Tree.eta,Edit.eta,Tree.kind_mk,Tree.words_mk,Tree.kids_mk])
 refine ⟨by simp only [Z9j];exact hp,?_⟩
 simp only [Zet,Zbw]
 (repeat' (first | exact trivial | exact rfl | apply And.intro))
theorem Za5{list:Int}{l:List Tree}:∀ (i:Nat),(∀ t∈l.take i,Z9 (Tree.mk list [] [t]) 64=true)→i≤l.length→Z2T list l 0=Z2T list (l.drop i) i
 | 0,_,_=> by simp
 | i+1,h,hi=> by
  have ih:=Za5 i (fun t ht=> h t (by rw [List.take_add_one];exact List.mem_append.2 (Or.inl ht))) (by omega)
  rw [ih]
  have e:l.drop i=l.getD i Tree.nil ::l.drop (i+1):=by
   have:=Yn (l:=l) (i:=(i:Int)) (by omega) (by omega) Tree.nil
   simpa using this
  have hm:l.getD i Tree.nil∈l.take (i+1):=by
   rw [List.mem_take_iff_getElem]
   exact ⟨i,by omega,by simp [List.getD,List.getElem?_eq_getElem (show i < l.length by omega)]⟩
  rw [e,Z2T,if_pos (h _ hm)]
  simp
theorem ZqL:Contract Try.prog cfg 195 Z5b:=by
 refine Zn2 ZqP ?_
 intro l list _ hp
 simp only [Z9i] at hp
 refine Zs8 _ _ _ ?_
 refine Zc (ι:=Int) (fun s=> Z0P l list s) (fun s=> 0≤s∧s≤l.length∧∀ t∈l.take s.toNat,Z9 (Tree.mk list [] [t]) 64=true) (fun s=> ((l.length:Int) - s).toNat) 0 rfl ⟨by simp,by simp,by simp⟩ ?_
 rintro i ⟨g1,g2,g3⟩
 have hb:=Za5 (list:=list) (l:=l) i.toNat g3 (by omega)
 have hl:=Zr l
 refine Zj5 _ _ _ _ _ ?_
 (simp only [vcS])
 (simp only [Tree.eta,Edit.eta,Tree.kind_mk,Tree.words_mk,Tree.kids_mk])
 refine ⟨fun hi=> ⟨⟨g1,hi⟩,?_,fun hc=> ?_,fun hc=> ?_⟩,fun hi=> ?_⟩
 ·have hm:=Zp (l:=l) (i:=i.toNat) (by omega) Tree.nil
  simp only [Z6C]
  have h1:=YX hm
  exact ⟨by omega,Jp hp.2.1 hm,hp.2.2⟩
 ·rw [Yn g1 hi Tree.nil,Z2T,if_neg (by rw [hc];decide)] at hb
  simp only [ZbA,Z8g]
  rw [hb,show ((i.toNat:Nat):Int)=i by omega]
  (repeat' (first | exact trivial | exact rfl | apply And.intro))
 ·refine ⟨by unfold InR;omega,i+1,rfl,⟨by omega,by omega,fun t ht=> ?_⟩,by omega⟩
  rw [show (i+1).toNat=i.toNat+1 by omega,List.take_add_one] at ht
  rcases List.mem_append.1 ht with ht | ht
  ·exact g3 t ht
  ·have e:l[i.toNat]?=some (l.getD i.toNat Tree.nil):=by
    simp [List.getD,List.getElem?_eq_getElem (show i.toNat < l.length by omega)]
   rw [e] at ht
   simp only [Option.toList_some,List.mem_singleton] at ht
   subst ht
   exact hc
 ·rw [List.drop_of_length_le (by omega)] at hb
  simp only [ZbA,Z8g]
  rw [hb,Z2T]
  (repeat' (first | exact trivial | exact rfl | apply And.intro))
theorem ZqQ:Contract Try.prog cfg 184 Z2r:=by
 refine Zn7 ZqL ?_
 intro l list _ hp
 simp only [Z2A] at hp
 refine Zsd _ _ _ ?_
 have hb:=Zb7 list l 0 (by decide)
 refine ⟨by simp only [Z9i];exact hp,?_⟩
 have e:decide (0≤Z2T list l 0)= !(Yw list l):=by
  rw [Bool.eq_iff_iff,decide_eq_true_eq,hb]
  cases Yw list l <;> simp
 simp only [Zeu,Zbx]
 rw [e]
 (repeat' (first | exact trivial | exact rfl | apply And.intro))
end Go.AM.Ytpjenobkibfpcaa
