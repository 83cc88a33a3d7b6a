import Derived.Test.YtpjenobkibfpcaaKG21a
import Derived.Test.YtpjenobkibfpcaaKL21a
import Derived.Test.YtpjenobkibfpcaaKL22
import Derived.Test.YtpjenobkibfpcaaCL25j
set_option linter.unusedSimpArgs false
set_option linter.unusedVariables false
namespace Go.AM.Ytpjenobkibfpcaa
open Go.AM Go.Proofs
noncomputable section
def ZpW:ArgL (Edit × Tree × Unit):=(.cons (aEl .edit) (.cons (aEl .tree) .nil))
def Z6f(a:Edit × Tree × Unit):Prop:=(Z6 a.1≤20000000000∧Ym a.1∧∃ d,Z4 a.1 d=true)∧Zk a.2.1+ctE a.1≤200000000000∧rng a.2.1
def ZjF(a:Edit × Tree × Unit):V U:= .tup [(true,(enc .tree (Z0S ((doE false a.1 a.2.1).map Z3)))),(false,[.bool ((doE false a.1 a.2.1).isSome)])]
def Z1q:Fs U:=fs ZpW (fun a=> [Z6f a]) ZjF
def Zpd:List (FuncId × Fs U):=[(71,Z0c),(70,Z8J)]
def ZuR:Zg U:=lvl [([2,3,4],[2,3,4]),([4,6,7],[4,6]),([4,6,15],[4,6]),([4,5],[4]),([4,5],[4])]
abbrev A26(p:List Nat):=AW (Z2 Zpd) Try.f26 ZuR p
theorem Zyj(e:Edit)(t:Tree)(Q:QT)(h:∀ y_1,y_1=e→∀ y_2,y_2=t→∀ y_3,y_3=(Zao y_1 y_2)→let z0:= !((doE false y_1 y_2).isSome);((Z3f (y_1,y_2,()))∧((z0=true→(Q .ret (L2 [(4,.ptr (.loc 4) 0),(5,.c (.bool false))] [(.loc 4,[ci 0,.nils,.nils])])))∧(z0=false→(Z0Q (y_3,()))∧(Q .ret (L2 [(4,.ptr (.loc 4) 0),(5,.c (.bool true))] [(.loc 4,(enc .tree (Z3 y_3)))])))))):
  A26 [] (L2 [(0,.agg (enc .edit e)),(1,.agg (enc .tree t))] []) Q:=
 Eq.mpr (by kernel_rfl) (h _ (Z9 _) _ (Zf _) _ (Zf _))
def Zwf(e:Edit)(t:Tree):Prop:=AW (Z2 Zpd) Try.f26 ZuR [] (Zo (ZpW.can (e,t,())) []) (EQ Try.f26 (ZjF (e,t,())) [])
theorem Zux(c71:CT 71 Z0c)(c70:CT 70 Z8J)(hb:∀ (e:Edit) (t:Tree) (_:Unit),Z6f (e,t,())→Zwf e t):CT 26 Z1q:=
 Z8 (l:=[(71,Z0c),(70,Z8J)]) Zr rfl (⟨c71,c70,trivial⟩) ZuR Try.func26 rfl rfl 2 (fun _=> rfl) (by decide) (fun ⟨e,t,_⟩=> hb e t ())
end
end Go.AM.Ytpjenobkibfpcaa
namespace Go.AM.Ytpjenobkibfpcaa
open Go.AM Go.Proofs
theorem Zpz:Contract Try.prog cfg 109 Z3d:=by
 refine Zoz ?_
 intro l _ hp
 simp only [Z7w] at hp
 refine ZtM _ _ ⟨fun h=> ?_,fun _=> ⟨by simp only [List.length_nil];omega,?_⟩⟩
 ·subst h
  simp only [Z7t]
  (repeat' (first | exact trivial | exact rfl | apply And.intro))
 ·simp only [Z7t]
  (repeat' (first | exact trivial | exact rfl | apply And.intro))
theorem Zvd:Contract Try.prog cfg 150 Z5o:=by
 refine Zrn ?_
 intro l _ hp
 simp only [ZbM] at hp
 refine ZwF _ _ ⟨fun h=> ?_,fun _=> ⟨by simp only [List.length_nil];omega,?_⟩⟩
 ·subst h
  simp only [Zaz]
  (repeat' (first | exact trivial | exact rfl | apply And.intro))
 ·simp only [Zaz]
  (repeat' (first | exact trivial | exact rfl | apply And.intro))
theorem Zdl{α:Type}(z:α){l:List α}{i:Nat}(h:i < l.length)(x:α):ZW z l i x=l.set i x:=by
 simp only [ZW];rw [show i+1 - l.length=0 by omega];simp
theorem Z9B{α:Type}(z:α){l:List α}{i:Nat}(h:l.length≤i)(x:α):ZW z (l++[z]) i x=ZW z l i x:=by
 simp only [ZW,List.length_append,List.length_singleton,List.append_assoc]
 rw [show i+1 - l.length=(i+1 - (l.length+1))+1 by omega,List.replicate_succ]
 try rfl
theorem Zow(t:Tree):t.words.length+Za t.kids+1=Zk t:=by obtain ⟨k,w,ks⟩:=t;simp only [Zk,Tree.words_mk,Tree.kids_mk];omega
theorem Znx{t:Tree}(h:rng t):isI t.kind∧(∀ x∈t.words,isW x)∧Y7 t.kids:=by obtain ⟨k,w,ks⟩:=t;exact h
theorem Zjs{ks:List Tree}(h:Y7 ks)(i:Nat):rng (ks.getD i Tree.nil):=by
 by_cases hi:i < ks.length
 ·exact Jh h (Zh hi _)
 ·rw [List.getD_eq_getElem?_getD,List.getElem?_eq_none (by omega)]
  refine ⟨by decide,by simp [Tree.nil],trivial⟩
theorem ZgT(ks:List Tree)(i:Nat):Zk (ks.getD i Tree.nil)≤Za ks+1:=by
 by_cases hi:i < ks.length
 ·have:=J8 (Zh hi Tree.nil);omega
 ·rw [List.getD_eq_getElem?_getD,List.getElem?_eq_none (by omega)]
  simp [Tree.nil,Zk,Za]
theorem Zm8(t:Tree){i:Int}(h:0≤i):JM t i=t.kids.getD i.toNat Tree.nil:=by unfold JM;rw [if_neg (by omega)]
theorem ZhD(t:Tree){i:Int}(h:0≤i):Jx t i=t.words.getD i.toNat 0:=by unfold Jx;rw [if_neg (by omega)]
theorem Zqf{l:List Int}(h:∀ x∈l,isW x)(i:Nat):isW (l.getD i 0):=by
 by_cases hi:i < l.length
 ·exact h _ (Zh hi _)
 ·rw [List.getD_eq_getElem?_getD,List.getElem?_eq_none (by omega)];show 0≤(0:Int)∧(0:Int) < _;omega
theorem b70:ZxD:=by
 intro N e t _ hp hN
 simp only [Z3f,ZcV] at hp hN
 obtain ⟨⟨p1,p2,d,p3⟩,p4,p5⟩:=hp
 have h1:=YI e
 have h2:=Z5x p2
 have hd:=Z17 false e t
 rw [YQ] at hd
 refine ZxY _ _ _ _ ?_
 rintro y1 hy1 y2 hy2 y3 hy3
 subst hy1 hy2 hy3
 (simp only [vcT,vcS])
 refine ⟨fun hk=> ?_,fun hk=> ⟨fun hk1=> ⟨by simp only [Z1s];omega,?_⟩,fun hk1=> ⟨fun hk2=> ⟨by simp only [Z3Y];exact ⟨hk2,⟨p1,p2,d,p3⟩,p4,p5⟩,by simp only [Z9X];omega,?_⟩,fun hk2=> ⟨fun hk3=> ⟨by simp only [Z3X];exact ⟨hk3,⟨p1,p2,d,p3⟩,p4,p5⟩,by simp only [Z9W];omega,?_⟩,fun hk3=> ?_⟩⟩⟩⟩
 ·rw [if_pos hk] at hd
  simp only [Z4B,Zao,if_pos hk,hd]
  (repeat' (first | exact trivial | exact rfl | apply And.intro))
 ·rw [if_neg hk,if_pos hk1] at hd
  simp only [Z4B,Zao,if_neg hk,if_pos hk1,hd]
  cases YT (Z3 y1.old) (Z3 y2) <;> (repeat' (first | exact trivial | exact rfl | apply And.intro))
 ·rw [if_neg hk,if_neg hk1,if_pos hk2] at hd
  simp only [Z4B,Zao,if_neg hk,if_neg hk1,if_pos hk2,hd]
  (repeat' (first | exact trivial | exact rfl | apply And.intro))
 ·rw [if_neg hk,if_neg hk1,if_neg hk2,if_pos hk3] at hd
  simp only [Z4B,Zao,if_neg hk,if_neg hk1,if_neg hk2,if_pos hk3,hd]
  have e2:(if y2.kind=y1.list then (Z1H (ZB false y1.ops y2.kids [])).map fun b=> Tree.mk y1.list [] b else none).isSome=(Z1H (Z68 false y1 y2)).isSome:=by
   unfold Z68
   split
   ·cases Z1H (ZB false y1.ops y2.kids []) <;> rfl
   ·try rfl
  rw [e2]
  (repeat' (first | exact trivial | exact rfl | apply And.intro))
 ·rw [if_neg hk,if_neg hk1,if_neg hk2,if_neg hk3] at hd
  simp only [Z4B,Zao,if_neg hk,if_neg hk1,if_neg hk2,if_neg hk3,hd]
  (repeat' (first | exact trivial | exact rfl | apply And.intro))
theorem Zvu:ZtI:=by
 intro N e t _ hp hN
 simp only [Z3Y,Z9X] at hp hN
 obtain ⟨k2,⟨p1,p2,d,p3⟩,p4,p5⟩:=hp
 have h1:=YI e
 have h2:=Yw e.kids
 have h3:=Zow t
 have h4:=ZD t.kids
 have r2:=Z5x p2
 have rt:=Znx p5
 have ri:=Zw p3
 refine ZwX _ _ _ _ ?_
 (simp only [vcT,vcS])
 have no:Zam false e t=none→Jv cfg Try.f107.ntmps Try.f107.results.toList (Z3U (e,t,())) [] .ret (⟨[(4,.ptr (.loc 4) 0),(5,.c (.bool false))],[((.loc 4),[.int .i64 0,.nils,.nils])],[]⟩:LSt U):=by
  intro hs
  simp only [Z3U,hs]
  (repeat' (first | exact trivial | exact rfl | apply And.intro))
 refine ⟨fun hk=> no (by unfold Zam;rw [if_neg hk]),fun hk=> ?_⟩
 have hk:t.kind=1:=by simpa using hk
 refine ⟨by simp only [Z7w];omega,by simp only [ZbM];omega,?_⟩
 refine Zb (ι:=Int × List Int) (fun s=> Z60 e t s.1 s.2) (fun s=> 0≤s.1∧s.1≤e.words.length∧wsD t.words (e.words.drop s.1.toNat) s.2=wsD t.words e.words t.words∧s.2.length≤t.words.length+65536) (fun s=> ((e.words.length:Int) - s.1).toNat) (0,t.words) rfl ⟨by simp,by simp,by simp,by simp⟩ ?_
 rintro ⟨i,out⟩ ⟨f1,f2,f3,f4⟩
 dsimp only at f1 f2 f3 f4
 refine Zn7 _ _ _ _ _ _ _ ?_
 rintro y1 hy1 y2 hy2
 subst hy1
 (simp only [vcT,vcS])
 refine ⟨fun hi=> ?_,fun hi=> ?_⟩
 ·have hmem:=Zh (l:=e.words) (i:=i.toNat) (by omega) (WEdit.mk 0 0 0 0)
  rw [Ys f1 hi (WEdit.mk 0 0 0 0),←hy2] at f3
  rw [←hy2] at hmem
  have hw:=Jw ri.words y2 hmem
  obtain ⟨g1,g2,g3,g4⟩:=r2.2.2.2.1 y2 hmem
  have hat:Jx y1 y2.at_=y1.words.getD y2.at_.toNat 0:=ZhD y1 (by omega)
  have hwi:=Zqf rt.2.1 y2.at_.toNat
  rw [wsD] at f3
  rw [hat]
  unfold isW at g3 g4 hwi
  refine ⟨⟨f1,hi⟩,by simp only [Z8U],by simp only [Z4E];omega,fun hne=> no ?_,fun heq=> ?_⟩
  ·rw [if_neg hne] at f3
   unfold Zam
   rw [if_pos hk,←f3]
   try rfl
  ·have heq:mix 0 (y1.words.getD y2.at_.toNat 0) y2.mask=y2.old:=by simpa using heq
   rw [if_pos heq] at f3
   refine Zb (ι:=List Int) (fun s=> Z5Z e y1 i s) (fun s=> (∀ v,ZW 0 s y2.at_.toNat v=ZW 0 out y2.at_.toNat v)∧s.length≤y1.words.length+65536) (fun s=> (y2.at_+1 - s.length).toNat) out rfl ⟨fun v=> rfl,f4⟩ ?_
   rintro s ⟨q1,q2⟩
   refine Zn6 _ _ _ _ _ _ _ _ ?_
   (simp only [Tree.eta,Edit.eta,Tree.kind_mk,Tree.words_mk,Tree.kids_mk])
   rw [←hy2,hat]
   (simp only [vcT,vcS])
   refine ⟨fun hl=> ⟨by simp;omega,s++[0],rfl,⟨fun v=> ?_,by simp;omega⟩,by simp;omega⟩,fun hl=> ?_⟩
   ·rw [Z9B 0 (by omega),q1]
   ·have hl:y2.at_ < s.length:=by omega
    refine ⟨by simp only [Z4E];omega,by omega,by omega,by unfold InR;omega,(i+1,s.set y2.at_.toNat (mix (y1.words.getD y2.at_.toNat 0) y2.new y2.mask)),rfl,⟨by dsimp only;omega,by dsimp only;omega,?_,by simp only [List.length_set];omega⟩,by dsimp only;omega⟩
    dsimp only
    rw [←f3,←Zdl 0 (by omega),q1]
 ·rw [List.drop_of_length_le (by omega),wsD] at f3
  refine Zb (ι:=Int × List Tree) (fun s=> Z5Y e y1 out s.1 s.2) (fun s=> 0≤s.1∧s.1≤e.kids.length∧JX false y1.kids (e.kids.drop s.1.toNat) s.2=JX false y1.kids e.kids y1.kids∧s.2.length≤y1.kids.length+65536) (fun s=> ((e.kids.length:Int) - s.1).toNat) (0,y1.kids) rfl ⟨by simp,by simp,by simp,by simp⟩ ?_
  rintro ⟨j,ks⟩ ⟨e1,e2,e3,e4⟩
  dsimp only at e1 e2 e3 e4
  refine Zn5 _ _ _ _ _ _ _ _ ?_
  rintro y1 hy1 y2 hy2 y3 hy3 y4 hy4
  subst hy1
  (simp only [vcT,vcS])
  refine ⟨fun hj=> ?_,fun hj=> ?_⟩
  ·have hmem:=Zh (l:=e.kids) (i:=j.toNat) (by omega) (KidOf.mk 0 Edit.nil)
   rw [Ys e1 hj (KidOf.mk 0 Edit.nil),←hy2] at e3
   rw [←hy2] at hmem
   have hk2:=ZK ri.kids y2 hmem
   have hm:=JJ hmem
   have hct:=Zhq hmem
   have hca:=Z4a e
   have hr:=(Jm r2.2.2.2.2.2.1 hmem).2
   have hat:JM y1 y2.at_=y1.kids.getD y2.at_.toNat Tree.nil:=Zm8 y1 (by omega)
   rw [hat] at hy4
   have hm4:=ZgT y1.kids y2.at_.toNat
   have hr4:=Zjs rt.2.2 y2.at_.toNat
   rw [JX,Z8x,←hy4,←hy3] at e3
   rw [←hy4] at hm4 hr4
   rw [←hy3] at hm hr hk2 hct
   refine ⟨⟨e1,hj⟩,by simp only [ZdI],by simp only [Z3f];exact ⟨⟨by omega,hr,_,hk2.2⟩,by omega,hr4⟩,by simp only [ZcV];omega,fun hne=> no ?_,fun heq=> ?_⟩
   ·have hne:doE false y3 y4=none:=by simpa using hne
    rw [hne] at e3
    unfold Zam
    rw [if_pos hk,←f3,←e3]
    try rfl
   ·obtain ⟨u,hu⟩:=Option.isSome_iff_exists.1 heq
    rw [hu,Option.bind_some] at e3
    refine Zb (ι:=List Tree) (fun s=> Z5X e y1 out j s) (fun s=> (∀ v,ZW Tree.nil s y2.at_.toNat v=ZW Tree.nil ks y2.at_.toNat v)∧s.length≤y1.kids.length+65536) (fun s=> (y2.at_+1 - s.length).toNat) ks rfl ⟨fun v=> rfl,e4⟩ ?_
    rintro s ⟨q1,q2⟩
    refine Zn4 _ _ _ _ _ _ _ _ _ ?_
    rintro z1 hz1 z2 hz2 z3 hz3 z4 hz4 z5 hz5
    rw [←hy2] at hz2
    subst hz1 hz2
    rw [←hy3] at hz3
    subst hz3
    rw [hat,←hy4] at hz4
    subst hz4
    rw [Z93 hu] at hz5
    subst hz5
    (simp only [vcT,vcS])
    refine ⟨fun hl=> ⟨by simp;omega,s++[Tree.nil],rfl,⟨fun v=> ?_,by simp;omega⟩,by simp;omega⟩,fun hl=> ?_⟩
    ·rw [Z9B Tree.nil (by omega),q1]
    ·have hl:z2.at_ < s.length:=by omega
     refine ⟨by omega,by omega,by unfold InR;omega,(j+1,s.set z2.at_.toNat z5),rfl,⟨by dsimp only;omega,by dsimp only;omega,?_,by simp only [List.length_set];omega⟩,by dsimp only;omega⟩
     dsimp only
     rw [←e3,←Zdl Tree.nil (by omega),q1]
  ·rw [List.drop_of_length_le (by omega),JX] at e3
   have hs:Zam false e y1=some (.mk 1 out ks):=by
    unfold Zam
    rw [if_pos hk,←f3,←e3]
    try rfl
   simp only [Z3U,hs]
   (repeat' (first | exact trivial | exact rfl | apply And.intro))
theorem Zmg(r:Bool)(o:Op)(s:List Op)(rest out:List Tree):ZB r (o ::s) rest out=(Z48 r o rest out).bind fun x=> ZB r s x.2 x.1:=by rw [ZB]
theorem Z1R{ks:List Tree}(h:Y7 ks)(n:Nat):Y7 (ks.drop n):=by
 induction n generalizing ks with
 | zero=> exact h
 | succ n ih=> cases ks with
  | nil=> exact h
  | cons a r=> exact ih h.2
theorem Zvt:ZtH:=by
 intro N e t _ hp hN
 simp only [Z3X,Z9W] at hp hN
 obtain ⟨k3,⟨p1,p2,d,p3⟩,p4,p5⟩:=hp
 have h1:=YI e
 have h2:=Y9 e.ops
 have h3:=Zow t
 have h4:=ZD t.kids
 have r2:=Z5x p2
 have rt:=Znx p5
 have ri:=Zw p3
 refine ZwW _ _ _ _ ?_
 (simp only [vcT,vcS])
 have no:Z68 false e t=none→Jv cfg Try.f108.ntmps Try.f108.results.toList (Z3T (e,t,())) [] .ret (⟨[(4,.ptr (.loc 4) 0),(5,.c (.bool false))],[((.loc 4),[.int .i64 0,.nils,.nils])],[]⟩:LSt U):=by
  intro hs
  simp only [Z3T,hs]
  (repeat' (first | exact trivial | exact rfl | apply And.intro))
 refine ⟨fun hk=> no (by unfold Z68;rw [if_neg hk]),fun hk=> ?_⟩
 have hk:t.kind=e.list:=by simpa using hk
 have hl0:Z68 false e t=ZB false e.ops t.kids []:=by unfold Z68;rw [if_pos hk]
 refine Zb (ι:=Int × List Tree × List Tree) (fun s=> Z15 e t s.1 s.2.2 s.2.1)
  (fun s=> 0≤s.1∧s.1≤e.ops.length∧ZB false (e.ops.drop s.1.toNat) s.2.2 s.2.1=Z68 false e t∧s.2.1.length+s.2.2.length+Zc (e.ops.drop s.1.toNat)≤t.kids.length+Zc e.ops∧Za s.2.2≤Za t.kids∧Y7 s.2.2)
  (fun s=> ((e.ops.length:Int) - s.1).toNat) (0,[],t.kids) rfl ⟨by simp,by simp,by simp [hl0],by simp,by simp,rt.2.2⟩ ?_
 rintro ⟨i,out,rest⟩ ⟨f1,f2,f3,f4,f5,f6⟩
 dsimp only at f1 f2 f3 f4 f5 f6
 refine Zn2 _ _ _ _ _ _ _ _ ?_
 rintro y1 hy1
 (simp only [vcT,vcS])
 refine ⟨fun hi=> ?_,fun hi=> ?_⟩
 ·have hmem:=Zh (l:=e.ops) (i:=i.toNat) (by omega) Op.nil
  rw [Ys f1 hi Op.nil,←hy1] at f3 f4
  rw [←hy1] at hmem
  have hr:=Go.AM.rightOs_mem ri.ops y1 hmem
  have hm:=Yv hmem
  have hct:=ZcC hmem
  have hca:=Z4a e
  have hme:=ZZ y1
  have hro:=Z0w (Z0Y r2.2.2.2.2.2.2 hmem)
  have hml:=ZD y1.l
  simp only [Zc] at f4
  rw [Zmg,ZT] at f3
  have go:∀ (x:List Tree) (m:List Tree) (v:V U) N0 Q',ZB false (e.ops.drop (i+1).toNat) x m=Z68 false e t→m.length+x.length+Zc (e.ops.drop (i+1).toNat)≤t.kids.length+Zc e.ops→Za x≤Za t.kids→Y7 x→
    (∀ s2,s2=Z15 e t (i+1) x m→N0 s2)→Z9u N [1,1,1,1,0,1,0,0,1,1,1] (Z24 e t i x m v) (AExit.then N0 (AExit.inBlock 0 (ZfS N [1,1,1,1,1] Q'))):=by
   intro x m v N0 Q' a1 a2 a3 a4 a5
   exact Zn3 _ _ _ _ _ _ _ _ _ ⟨by unfold InR;omega,a5 _ rfl⟩
  have fin:∀ (x m:List Tree),ZB false (e.ops.drop (i+1).toNat) x m=Z68 false e t→m.length+x.length+Zc (e.ops.drop (i+1).toNat)≤t.kids.length+Zc e.ops→Za x≤Za t.kids→Y7 x→∀ s2,s2=Z15 e t (i+1) x m→
    ∃ j:Int × List Tree × List Tree,s2=Z15 e t j.1 j.2.2 j.2.1∧(0≤j.1∧j.1≤e.ops.length∧ZB false (e.ops.drop j.1.toNat) j.2.2 j.2.1=Z68 false e t∧j.2.1.length+j.2.2.length+Zc (e.ops.drop j.1.toNat)≤t.kids.length+Zc e.ops∧Za j.2.2≤Za t.kids∧Y7 j.2.2)∧((e.ops.length:Int) - j.1).toNat < ((e.ops.length:Int) - i).toNat:=by
   rintro x m a1 a2 a3 a4 _ rfl
   exact ⟨(i+1,m,x),rfl,⟨by dsimp only;omega,by dsimp only;omega,a1,a2,a3,a4⟩,by dsimp only;omega⟩
  have r1:=Zx hr
  have ht:∀ n:Nat,(rest.take n).length≤rest.length∧(rest.take n).length+(rest.drop n).length=rest.length:=by
   intro n
   simp only [List.length_take,List.length_drop];omega
  refine ⟨⟨f1,hi⟩,fun hk2=> ⟨by omega,?_⟩,fun hk2=> ⟨fun hk1=> ?_,fun hk1=> ⟨fun hk3=> ?_,fun hk3=> ?_⟩⟩⟩
  ·rw [if_neg (by omega),if_neg (by omega),if_pos hk2,Option.bind_some] at f3
   exact go _ _ _ _ _ f3 (by simp only [List.length_append];omega) f5 f6 (fin _ _ f3 (by simp only [List.length_append];omega) f5 f6)
  ·refine ZaS _ _ _ _ _ _ _ _ _ _ ?_
   rintro z1 hz1 z2 hz2 z3 hz3 z4 hz4 z5 hz5 z6 hz6
   rw [←hy1] at hz1
   subst hz1
   rw [if_neg (by omega),if_pos hk1] at f3
   (simp only [vcT,vcS])
   rw [Int.toNat_natCast] at hz5
   rw [Int.toNat_natCast]
   refine ⟨fun hs=> no ?_,fun hs=> ⟨by omega,by omega,fun h=> by omega,fun _=> ⟨fun _=> ⟨?_,fun hq=> no ?_,fun hq=> ?_⟩,fun h=> absurd hk1 h⟩⟩⟩
   ·have:Jc z1.l rest=false:=by unfold Jc;rw [decide_eq_false (by omega)];try rfl
    rw [this,if_neg (by simp)] at f3
    exact f3.symm
   ·have:=Zce z1.l.length rest
    simp only [ZbL];omega
   ·have:Jc z1.l rest=false:=by unfold Jc;rw [←hz5,hq];simp
    rw [this,if_neg (by simp)] at f3
    exact f3.symm
   ·have:Jc z1.l rest=true:=by unfold Jc;rw [←hz5,hq,decide_eq_true (by omega)];try rfl
    rw [this,if_pos rfl,Option.bind_some] at f3
    have hd:=Z2o z1.l.length rest
    have ht1:=ht z1.l.length
    exact go _ _ _ _ _ f3 (by omega) (by omega) (Z1R f6 _) (fin _ _ f3 (by omega) (by omega) (Z1R f6 _))
  ·refine ZaS _ _ _ _ _ _ _ _ _ _ ?_
   rintro z1 hz1 z2 hz2 z3 hz3 z4 hz4 z5 hz5 z6 hz6
   rw [←hy1] at hz1
   subst hz1
   rw [if_neg (by omega),if_neg hk1,if_neg hk2] at f3
   (simp only [vcT,vcS])
   rw [show Int.toNat 1=1 from rfl]
   refine ⟨fun hs=> no ?_,fun hs=> ⟨by omega,by omega,fun h=> by omega,fun _=> ⟨fun h=> absurd h hk1,fun _=> ?_⟩⟩⟩
   ·rw [if_pos (by omega)] at f3
    exact f3.symm
   ·have hz:z3=rest.getD 0 Tree.nil:=by
     rw [hz3,hz2]
     cases rest with
     | nil=> rfl
     | cons a r=> rfl
    rw [if_neg (by omega),←hz,←hz4] at f3
    have hm3:=ZgT rest 0
    have hr3:=Zjs f6 0
    rw [←hz] at hm3 hr3
    have hre:=J0 hr hk3
    rw [←hz4] at hre hme hro hct
    refine ⟨?_,by simp only [Z3f];exact ⟨⟨by omega,hro.2.2.2,_,hre⟩,by omega,hr3⟩,by simp only [ZcV];omega,fun hne=> no ?_,fun heq=> ?_⟩
    ·simp only [List.length_take];omega
    ·have hne:doE false z4 z3=none:=by simpa using hne
     rw [hne] at f3
     exact f3.symm
    ·obtain ⟨u,hu⟩:=Option.isSome_iff_exists.1 heq
     rw [Z93 hu] at hz6
     subst hz6
     rw [hu,Option.map_some,Option.bind_some] at f3
     have hd:=Z2o 1 rest
     have ht1:=ht 1
     have ht2:(rest.take 1).length=1:=by simp only [List.length_take];omega
     refine ⟨by simp only [List.length_singleton];omega,?_⟩
     exact go _ _ _ _ _ f3 (by simp only [List.length_append,List.length_singleton];omega) (by omega) (Z1R f6 _) (fin _ _ f3 (by simp only [List.length_append,List.length_singleton];omega) (by omega) (Z1R f6 _))
  ·have hk0:y1.kind=0:=by cases r1 <;> first | rfl | (exfalso;simp at hk1 hk2 hk3)
   refine ZaS _ _ _ _ _ _ _ _ _ _ ?_
   rintro z1 hz1 z2 hz2 z3 hz3 z4 hz4 z5 hz5 z6 hz6
   rw [←hy1] at hz1
   subst hz1
   rw [if_pos hk0] at f3
   have hn:1≤z1.n∧z1.n≤1048576:=by cases r1 <;> first | (constructor <;> assumption) | (exfalso;simp at hk1 hk2 hk3 hk0)
   (simp only [vcT,vcS])
   refine ⟨fun hs=> no ?_,fun hs=> ⟨by omega,by omega,fun _=> ⟨?_,?_⟩,fun h=> absurd hk0 h⟩⟩
   ·rw [if_neg (by omega)] at f3
    exact f3.symm
   ·have:=(ht z1.n.toNat).1
    omega
   ·rw [if_pos (by omega),Option.bind_some] at f3
    have hd:=Z2o z1.n.toNat rest
    have ht1:=ht z1.n.toNat
    exact go _ _ _ _ _ f3 (by simp only [List.length_append];omega) (by omega) (Z1R f6 _) (fin _ _ f3 (by simp only [List.length_append];omega) (by omega) (Z1R f6 _))
 ·rw [List.drop_of_length_le (by omega),ZB] at f3
  simp only [Z3T,←f3,ZoS,Z1H,Option.bind_some,hk]
  by_cases hr:rest.length=0
  ·rw [if_pos hr,hr]
   (repeat' (first | exact trivial | exact rfl | apply And.intro))
  ·rw [if_neg hr,show ((rest.length:Int)==0)=false by rw [beq_eq_false_iff_ne];omega]
   (repeat' (first | exact trivial | exact rfl | apply And.intro))
theorem Zyr:Contract Try.prog cfg 70 Z8J∧Contract Try.prog cfg 107 Zji∧Contract Try.prog cfg 108 Zjh:=Zrc Zfy Zmp c91 Zvc Zvd c66 Zpz b70 Zvu Zvt
theorem c70:Contract Try.prog cfg 70 Z8J:=Zyr.1
end Go.AM.Ytpjenobkibfpcaa
namespace Go.AM.Ytpjenobkibfpcaa
open Go.AM Go.Proofs
theorem Zhn{r:Bool}{e:Edit}{t u:Tree}(hr:∃ d,Z4 e d=true)(ht:Zk t+ctE e≤200000000000)(h:doE r e t=some u):Zk u≤1000000000000:=by
 obtain ⟨d,hr⟩:=hr
 have:=Z7Q r e d t u hr h
 omega
theorem c26:Contract Try.prog cfg 26 Z1q:=by
 refine Zux c71 c70 ?_
 intro e t _ hp
 simp only [Z6f] at hp
 refine Zyj _ _ _ ?_
 rintro y1 hy1 y2 hy2 y3 hy3
 subst hy1 hy2
 (simp only [vcT,vcS])
 refine ⟨by simp only [Z3f];exact hp,fun hn=> ?_,fun hs=> ?_⟩
 ·have hn:doE false y1 y2=none:=by simpa using hn
  simp only [ZjF,hn]
  (repeat' (first | exact trivial | exact rfl | apply And.intro))
 ·obtain ⟨u,hu⟩:=Option.isSome_iff_exists.1 hs
  rw [Z93 hu] at hy3
  subst hy3
  have:=Zhn hp.1.2.2 hp.2.1 hu
  refine ⟨by simp only [Z0Q];exact this,?_⟩
  simp only [ZjF,hu]
  (repeat' (first | exact trivial | exact rfl | apply And.intro))
end Go.AM.Ytpjenobkibfpcaa
namespace Go.AM.Ytpjenobkibfpcaa
open Go.AM Go.Proofs
noncomputable section
abbrev Yn(p:Prop):Prop:=p→p
def ZaK:ArgM ((List Op × List Tree × List Tree × Unit) × Unit):=(.obj 0 (.cons (cWr .op 0 0) (.cons (Zfw .tree 0 1) (.cons (Zfw .tree 0 2) .nil))) .nil)
def Z1r(a:(List Op × List Tree × List Tree × Unit) × Unit):Prop:=(a.1.1).length≤200000000000∧(a.1.2.1).length≤200000000000∧(a.1.2.2.1).length≤200000000000
def Z8Q(a:(List Op × List Tree × List Tree × Unit) × Unit):V U:= .tup []
def Z5A(a:(List Op × List Tree × List Tree × Unit) × Unit):List (List (C U)):=[[.mref (.x 0 0),sU .tree ((Z1 (Wst.mk a.1.1 a.1.2.1 a.1.2.2.1)).gone) (.own (.x 0 1)),sU .tree ((Z1 (Wst.mk a.1.1 a.1.2.1 a.1.2.2.1)).brought) (.own (.x 0 2))]]
def Z5B(a:(List Op × List Tree × List Tree × Unit) × Unit):List (Tok × LC U):=[(.x 0 0,LC.mk (U:=U) .op ((Z1 (Wst.mk a.1.1 a.1.2.1 a.1.2.2.1)).out) 0)]
def Z1D:Fs U:=ZiN ZaK (fun a=> [Z1r a]) Z8Q Z5A Z5B
def ZaM:ArgM ((List Op × List Tree × List Tree × Unit) × Int × Unit):=(.obj 0 (.cons (cWr .op 0 0) (.cons (Zfw .tree 0 1) (.cons (Zfw .tree 0 2) .nil))) (.cons (Z04 .i64) .nil))
def Z3W(a:(List Op × List Tree × List Tree × Unit) × Int × Unit):Prop:=(a.1.1).length≤200000000000∧(a.1.2.1).length≤200000000000∧(a.1.2.2.1).length≤200000000000∧(∀ o∈a.1.1,0≤o.n∧o.n≤100000000000000000)∧0≤a.2.1∧a.2.1≤1048576
def ZhZ(a:(List Op × List Tree × List Tree × Unit) × Int × Unit):V U:= .tup []
def ZeJ(a:(List Op × List Tree × List Tree × Unit) × Int × Unit):List (List (C U)):=[[.mref (.x 0 0),sU .tree ((ZL (Wst.mk a.1.1 a.1.2.1 a.1.2.2.1) a.2.1).gone) (.own (.x 0 1)),sU .tree ((ZL (Wst.mk a.1.1 a.1.2.1 a.1.2.2.1) a.2.1).brought) (.own (.x 0 2))]]
def ZeK(a:(List Op × List Tree × List Tree × Unit) × Int × Unit):List (Tok × LC U):=[(.x 0 0,LC.mk (U:=U) .op ((ZL (Wst.mk a.1.1 a.1.2.1 a.1.2.2.1) a.2.1).out) 0)]
def Z5p:Fs U:=ZiN ZaM (fun a=> [Z3W a]) ZhZ ZeJ ZeK
def ZaL:ArgM ((List Op × List Tree × List Tree × Unit) × List Tree × Unit):=(.objAt 0 1 (.cons (cWr .op 0 0) (.cons (Zfw .tree 0 1) (.cons (Zfw .tree 0 2) .nil))) (.cons (aSl .tree) .nil))
def Z8X(a:(List Op × List Tree × List Tree × Unit) × List Tree × Unit):Prop:=(a.1.1).length≤200000000000∧(a.1.2.1).length≤200000000000∧(a.1.2.2.1).length≤200000000000∧Za a.2.1≤20000000000
def ZnP(a:(List Op × List Tree × List Tree × Unit) × List Tree × Unit):V U:= .tup []
def Zjz(a:(List Op × List Tree × List Tree × Unit) × List Tree × Unit):List (List (C U)):=[[.mref (.x 0 0),sU .tree ((Wst.mk a.1.1 (a.1.2.1++Z5 a.2.1) a.1.2.2.1).gone) (.own (.x 0 1)),sU .tree ((Wst.mk a.1.1 (a.1.2.1++Z5 a.2.1) a.1.2.2.1).brought) (.own (.x 0 2))]]
def ZjA(a:(List Op × List Tree × List Tree × Unit) × List Tree × Unit):List (Tok × LC U):=[(.x 0 0,LC.mk (U:=U) .op ((Wst.mk a.1.1 (a.1.2.1++Z5 a.2.1) a.1.2.2.1).out) 0)]
def Zeu:Fs U:=ZiN ZaL (fun a=> [Z8X a]) ZnP Zjz ZjA
def Z8B:ArgM ((List Op × List Tree × List Tree × Unit) × List Tree × Unit):=(.objAt 0 2 (.cons (cWr .op 0 0) (.cons (Zfw .tree 0 1) (.cons (Zfw .tree 0 2) .nil))) (.cons (aSl .tree) .nil))
def Z5E(a:(List Op × List Tree × List Tree × Unit) × List Tree × Unit):Prop:=(a.1.1).length≤200000000000∧(a.1.2.1).length≤200000000000∧(a.1.2.2.1).length≤200000000000∧Za a.2.1≤20000000000
def ZjK(a:(List Op × List Tree × List Tree × Unit) × List Tree × Unit):V U:= .tup []
def Zgl(a:(List Op × List Tree × List Tree × Unit) × List Tree × Unit):List (List (C U)):=[[.mref (.x 0 0),sU .tree ((Wst.mk a.1.1 a.1.2.1 (a.1.2.2.1++Z5 a.2.1)).gone) (.own (.x 0 1)),sU .tree ((Wst.mk a.1.1 a.1.2.1 (a.1.2.2.1++Z5 a.2.1)).brought) (.own (.x 0 2))]]
def Zgm(a:(List Op × List Tree × List Tree × Unit) × List Tree × Unit):List (Tok × LC U):=[(.x 0 0,LC.mk (U:=U) .op ((Wst.mk a.1.1 a.1.2.1 (a.1.2.2.1++Z5 a.2.1)).out) 0)]
def Zbn:Fs U:=ZiN Z8B (fun a=> [Z5E a]) ZjK Zgl Zgm
def Zhv:ArgL (Int × Edit × Unit):=(.cons (Z04 .i64) (.cons (aEl .edit) .nil))
def Z5D(a:Int × Edit × Unit):Prop:=a.2.1.words.length≤20000000000∧a.2.1.kids.length≤20000000000
def ZjJ(a:Int × Edit × Unit):V U:= .c (.bool (Z6j a.1 a.2.1))
def Z3c:Fs U:=fs Zhv (fun a=> [Z5D a]) ZjJ
def Zky:List (FuncId × Fs U):=[]
def ZoO:Zg U:=fun i=> match i with
 | 0=> ([(0,[]),(7,[])],[(.x 0,[.wr .op])])
 | 1=> ([(0,[])],[(.x 0,[.wr .op])])
 | 2=> ([(0,[]),(28,[])],[(.x 0,[.wr .op])])
 | 3=> ([(0,[])],[(.x 0,[.wr .op])])
 | 4=> ([],[(.x 0,[.wr .op])])
 | _=> ([],[])
abbrev Zxq(wo:List Op)(wg wb:List Tree)(Q:QT):=AW (Z2 Zky) Try.f129 ZoO [] (⟨[(0,.ptr (.x 0) 0)],[(.x 0,[.mref (.x 0 0),sU .tree wg (.own (.x 0 1)),sU .tree wb (.own (.x 0 2))])],[(.x 0 0,LC.mk (U:=U) .op wo 0)]⟩:LSt U) Q
theorem ZwP(wo:List Op)(wg wb:List Tree)(Q:QT)(h:∀ y_1,y_1=(Edit.mk 0 (Tree.mk 0 [] []) (Tree.mk 0 [] []) [] [] 0 [])→∀ y_2,y_2=(List.set (wo++([(OpOf.mk 0 0 [] y_1:Op)])) (Int.toNat (wo.length:Int)) (OpOf.mk 1 0 wg y_1:Op))→((decide ((0:Int) < (wg.length:Int)))=true→((wo.length+([(OpOf.mk 0 0 [] y_1:Op)]).length)*240≤140737488355328)∧((0:Int)≤(wo.length:Int)∧(wo.length:Int) < ((wo++([(OpOf.mk 0 0 [] y_1:Op)])).length:Int))∧((0:Nat)≤(Int.toNat (wo.length:Int)))∧(((decide ((0:Int) < (wb.length:Int)))=true→((y_2.length+([(OpOf.mk 0 0 [] y_1:Op)]).length)*240≤140737488355328)∧((0:Int)≤(y_2.length:Int)∧(y_2.length:Int) < ((y_2++([(OpOf.mk 0 0 [] y_1:Op)])).length:Int))∧((0:Nat)≤(Int.toNat (y_2.length:Int)))∧(Q .normal (⟨[],[(.x 0,[.mref (.x 0 0),.nils,.nils])],[(.x 0 0,LC.mk (U:=U) .op (List.set (y_2++([(OpOf.mk 0 0 [] y_1:Op)])) (Int.toNat (y_2.length:Int)) (OpOf.mk 2 0 wb y_1:Op)) 0)]⟩:LSt U)))∧((decide ((0:Int) < (wb.length:Int)))=false→Q .normal (⟨[],[(.x 0,[.mref (.x 0 0),.nils,.nils])],[(.x 0 0,LC.mk (U:=U) .op y_2 0)]⟩:LSt U))))∧((decide ((0:Int) < (wg.length:Int)))=false→((decide ((0:Int) < (wb.length:Int)))=true→((wo.length+([(OpOf.mk 0 0 [] y_1:Op)]).length)*240≤140737488355328)∧((0:Int)≤(wo.length:Int)∧(wo.length:Int) < ((wo++([(OpOf.mk 0 0 [] y_1:Op)])).length:Int))∧((0:Nat)≤(Int.toNat (wo.length:Int)))∧(Q .normal (⟨[],[(.x 0,[.mref (.x 0 0),.nils,.nils])],[(.x 0 0,LC.mk (U:=U) .op (List.set (wo++([(OpOf.mk 0 0 [] y_1:Op)])) (Int.toNat (wo.length:Int)) (OpOf.mk 2 0 wb y_1:Op)) 0)]⟩:LSt U)))∧((decide ((0:Int) < (wb.length:Int)))=false→Q .normal (⟨[],[(.x 0,[.mref (.x 0 0),.nils,.nils])],[(.x 0 0,LC.mk (U:=U) .op wo 0)]⟩:LSt U)))):
  Zxq wo wg wb Q:=by
 have e_:(Zxq wo wg wb Q)=(let y_1:=(Edit.mk 0 (Tree.mk 0 [] []) (Tree.mk 0 [] []) [] [] 0 []);let y_2:=(List.set (wo++([(OpOf.mk 0 0 [] y_1:Op)])) (Int.toNat (wo.length:Int)) (OpOf.mk 1 0 wg y_1:Op));let zz0:=(decide ((0:Int) < (wb.length:Int)));(((decide ((0:Int) < (wg.length:Int)))=true→((wo.length+([(OpOf.mk 0 0 [] y_1:Op)]).length)*240≤140737488355328)∧((0:Int)≤(wo.length:Int)∧(wo.length:Int) < ((wo++([(OpOf.mk 0 0 [] y_1:Op)])).length:Int))∧((0:Nat)≤(Int.toNat (wo.length:Int)))∧((zz0=true→((y_2.length+([(OpOf.mk 0 0 [] y_1:Op)]).length)*240≤140737488355328)∧((0:Int)≤(y_2.length:Int)∧(y_2.length:Int) < ((y_2++([(OpOf.mk 0 0 [] y_1:Op)])).length:Int))∧((0:Nat)≤(Int.toNat (y_2.length:Int)))∧(Q .normal (⟨[],[(.x 0,[.mref (.x 0 0),.nils,.nils])],[(.x 0 0,LC.mk (U:=U) .op (List.set (y_2++([(OpOf.mk 0 0 [] y_1:Op)])) (Int.toNat (y_2.length:Int)) (OpOf.mk 2 0 wb y_1:Op)) 0)]⟩:LSt U)))∧(zz0=false→(Q .normal (⟨[],[(.x 0,[.mref (.x 0 0),.nils,.nils])],[(.x 0 0,LC.mk (U:=U) .op y_2 0)]⟩:LSt U)))))∧((decide ((0:Int) < (wg.length:Int)))=false→((zz0=true→((wo.length+([(OpOf.mk 0 0 [] y_1:Op)]).length)*240≤140737488355328)∧((0:Int)≤(wo.length:Int)∧(wo.length:Int) < ((wo++([(OpOf.mk 0 0 [] y_1:Op)])).length:Int))∧((0:Nat)≤(Int.toNat (wo.length:Int)))∧(Q .normal (⟨[],[(.x 0,[.mref (.x 0 0),.nils,.nils])],[(.x 0 0,LC.mk (U:=U) .op (List.set (wo++([(OpOf.mk 0 0 [] y_1:Op)])) (Int.toNat (wo.length:Int)) (OpOf.mk 2 0 wb y_1:Op)) 0)]⟩:LSt U)))∧(zz0=false→(Q .normal (⟨[],[(.x 0,[.mref (.x 0 0),.nils,.nils])],[(.x 0 0,LC.mk (U:=U) .op wo 0)]⟩:LSt U))))))):=by kernel_rfl
 exact e_.mpr (by intro y_1 y_2;have hh:=h y_1 rfl y_2 rfl;exact ⟨fun c_1=> ⟨(hh.1 c_1).1,(hh.1 c_1).2.1,(hh.1 c_1).2.2.1,⟨fun c_2=> ⟨((hh.1 c_1).2.2.2.1 c_2).1,((hh.1 c_1).2.2.2.1 c_2).2.1,((hh.1 c_1).2.2.2.1 c_2).2.2.1,((hh.1 c_1).2.2.2.1 c_2).2.2.2⟩,fun c_2=> ((hh.1 c_1).2.2.2.2 c_2)⟩⟩,fun c_1=> ⟨fun c_3=> ⟨((hh.2 c_1).1 c_3).1,((hh.2 c_1).1 c_3).2.1,((hh.2 c_1).1 c_3).2.2.1,((hh.2 c_1).1 c_3).2.2.2⟩,fun c_3=> ((hh.2 c_1).2 c_3)⟩⟩)
def ZsG(wo:List Op)(wg wb:List Tree):Prop:=AW (Z2 Zky) Try.f129 ZoO [] (Z16 (ZaK.can ((wo,wg,wb,()),())) (ZaK.canX ((wo,wg,wb,()),())) (ZaK.canL ((wo,wg,wb,()),()))) (Z38 cfg Try.f129.ntmps Try.f129.results.toList (Z8Q ((wo,wg,wb,()),())) (Z5A ((wo,wg,wb,()),())) (Z5B ((wo,wg,wb,()),())))
theorem Zru(hb:∀ (wo:List Op) (wg:List Tree) (wb:List Tree) (_:Unit),Z1r ((wo,wg,wb,()),())→ZsG wo wg wb):CT 129 Z1D:=
 Z0a (l:=[]) Zr rfl trivial ZoO Try.func129 rfl rfl 1 (fun _=> rfl) (by decide) (fun ⟨⟨wo,wg,wb,_⟩,_⟩=> hb wo wg wb ())
def Zkz:List (FuncId × Fs U):=[(129,Z1D)]
def ZoP:Zg U:=fun i=> match i with
 | 0=> ([(0,[]),(1,[])],[(.x 0,[.wr .op])])
 | 1=> ([(0,[]),(1,[]),(4,[])],[(.x 0,[.wr .op])])
 | 2=> ([(0,[]),(1,[]),(4,[]),(25,[])],[(.x 0,[.wr .op])])
 | 3=> ([],[(.x 0,[.wr .op])])
 | 4=> ([],[(.x 0,[.wr .op])])
 | _=> ([],[])
abbrev Zxs(wo:List Op)(wg wb:List Tree)(n:Int)(Q:QT):=AW (Z2 Zkz) Try.f126 ZoP [] (⟨[(0,.ptr (.x 0) 0),(1,.c (ci n))],[(.x 0,[.mref (.x 0 0),sU .tree wg (.own (.x 0 1)),sU .tree wb (.own (.x 0 2))])],[(.x 0 0,LC.mk (U:=U) .op wo 0)]⟩:LSt U) Q
theorem ZwR(wo:List Op)(wg wb:List Tree)(n:Int)(Q:QT)(h:∀ y_1,y_1=(Edit.mk 0 (Tree.mk 0 [] []) (Tree.mk 0 [] []) [] [] 0 [])→∀ y_2,y_2=(Int.toNat (((((Z1 (Wst.mk wo wg wb)).out).length:Int):Int) - 1))→∀ y_3,y_3=(List.getD ((Z1 (Wst.mk wo wg wb)).out) y_2 Op.nil)→∀ y_4,y_4=(y_3.e)→(Z1r ((wo,wg,wb,()),()))∧((InR (((((Z1 (Wst.mk wo wg wb)).out).length:Int):Int) - 1))∧(((decide ((0:Int)≤(((((Z1 (Wst.mk wo wg wb)).out).length:Int):Int) - 1)))=true→(0:Int)≤(((((Z1 (Wst.mk wo wg wb)).out).length:Int):Int) - 1)∧(((((Z1 (Wst.mk wo wg wb)).out).length:Int):Int) - 1) < (((Z1 (Wst.mk wo wg wb)).out).length:Int))∧(((bif (decide ((0:Int)≤(((((Z1 (Wst.mk wo wg wb)).out).length:Int):Int) - 1))) then (y_3.kind==0) else false)=true→((0:Int)≤(((((Z1 (Wst.mk wo wg wb)).out).length:Int):Int) - 1)∧(((((Z1 (Wst.mk wo wg wb)).out).length:Int):Int) - 1) < (((Z1 (Wst.mk wo wg wb)).out).length:Int))∧(InR (y_3.n+n))∧((0:Int)≤(((((Z1 (Wst.mk wo wg wb)).out).length:Int):Int) - 1)∧(((((Z1 (Wst.mk wo wg wb)).out).length:Int):Int) - 1) < (((Z1 (Wst.mk wo wg wb)).out).length:Int))∧((0:Nat)≤y_2)∧(Q .ret (⟨[],[(.x 0,[.mref (.x 0 0),sU .tree ((Z1 (Wst.mk wo wg wb)).gone) (.own (.x 0 1)),sU .tree ((Z1 (Wst.mk wo wg wb)).brought) (.own (.x 0 2))])],[(.x 0 0,LC.mk (U:=U) .op (List.set ((Z1 (Wst.mk wo wg wb)).out) y_2 (OpOf.mk y_3.kind (y_3.n+n) y_3.l y_4:Op)) 0)]⟩:LSt U)))∧((bif (decide ((0:Int)≤(((((Z1 (Wst.mk wo wg wb)).out).length:Int):Int) - 1))) then (y_3.kind==0) else false)=false→((((Z1 (Wst.mk wo wg wb)).out).length+([(OpOf.mk 0 0 [] y_1:Op)]).length)*240≤140737488355328)∧((0:Int)≤(((Z1 (Wst.mk wo wg wb)).out).length:Int)∧(((Z1 (Wst.mk wo wg wb)).out).length:Int) < ((((Z1 (Wst.mk wo wg wb)).out)++([(OpOf.mk 0 0 [] y_1:Op)])).length:Int))∧((0:Nat)≤(Int.toNat (((Z1 (Wst.mk wo wg wb)).out).length:Int)))∧(Q .normal (⟨[],[(.x 0,[.mref (.x 0 0),sU .tree ((Z1 (Wst.mk wo wg wb)).gone) (.own (.x 0 1)),sU .tree ((Z1 (Wst.mk wo wg wb)).brought) (.own (.x 0 2))])],[(.x 0 0,LC.mk (U:=U) .op (List.set (((Z1 (Wst.mk wo wg wb)).out)++([(OpOf.mk 0 0 [] y_1:Op)])) (Int.toNat (((Z1 (Wst.mk wo wg wb)).out).length:Int)) (OpOf.mk 0 n [] y_1:Op)) 0)]⟩:LSt U))))))):
  Zxs wo wg wb n Q:=by
 have e_:(Zxs wo wg wb n Q)=(let y_1:=(Edit.mk 0 (Tree.mk 0 [] []) (Tree.mk 0 [] []) [] [] 0 []);let y_2:=(Int.toNat (((((Z1 (Wst.mk wo wg wb)).out).length:Int):Int) - 1));let y_3:=(List.getD ((Z1 (Wst.mk wo wg wb)).out) y_2 Op.nil);let y_4:=(Jr y_3.e);let zz0:=(decide ((0:Int)≤(((((Z1 (Wst.mk wo wg wb)).out).length:Int):Int) - 1)));(Z1r ((wo,wg,wb,()),()))∧((InR (((((Z1 (Wst.mk wo wg wb)).out).length:Int):Int) - 1))∧((Yn (zz0=true))∧(Yn (zz0=true))∧(Yn (zz0=true))∧(Yn (zz0=true))∧(Yn (zz0=true))∧(zz0=true→(0:Int)≤(((((Z1 (Wst.mk wo wg wb)).out).length:Int):Int) - 1)∧(((((Z1 (Wst.mk wo wg wb)).out).length:Int):Int) - 1) < (((Z1 (Wst.mk wo wg wb)).out).length:Int))∧(Yn (zz0=true))∧(Yn (zz0=true))∧(Yn (zz0=true))∧(Yn (zz0=true))∧(((bif zz0 then (y_3.kind==0) else false)=true→((0:Int)≤(((((Z1 (Wst.mk wo wg wb)).out).length:Int):Int) - 1)∧(((((Z1 (Wst.mk wo wg wb)).out).length:Int):Int) - 1) < (((Z1 (Wst.mk wo wg wb)).out).length:Int))∧(InR (y_3.n+n))∧((0:Int)≤(((((Z1 (Wst.mk wo wg wb)).out).length:Int):Int) - 1)∧(((((Z1 (Wst.mk wo wg wb)).out).length:Int):Int) - 1) < (((Z1 (Wst.mk wo wg wb)).out).length:Int))∧((0:Nat)≤y_2)∧(Q .ret (⟨[],[(.x 0,[.mref (.x 0 0),sU .tree ((Z1 (Wst.mk wo wg wb)).gone) (.own (.x 0 1)),sU .tree ((Z1 (Wst.mk wo wg wb)).brought) (.own (.x 0 2))])],[(.x 0 0,LC.mk (U:=U) .op (List.set ((Z1 (Wst.mk wo wg wb)).out) y_2 (OpOf.mk y_3.kind (y_3.n+n) y_3.l y_4:Op)) 0)]⟩:LSt U)))∧((bif zz0 then (y_3.kind==0) else false)=false→((((Z1 (Wst.mk wo wg wb)).out).length+([(OpOf.mk 0 0 [] y_1:Op)]).length)*240≤140737488355328)∧((0:Int)≤(((Z1 (Wst.mk wo wg wb)).out).length:Int)∧(((Z1 (Wst.mk wo wg wb)).out).length:Int) < ((((Z1 (Wst.mk wo wg wb)).out)++([(OpOf.mk 0 0 [] y_1:Op)])).length:Int))∧((0:Nat)≤(Int.toNat (((Z1 (Wst.mk wo wg wb)).out).length:Int)))∧(Q .normal (⟨[],[(.x 0,[.mref (.x 0 0),sU .tree ((Z1 (Wst.mk wo wg wb)).gone) (.own (.x 0 1)),sU .tree ((Z1 (Wst.mk wo wg wb)).brought) (.own (.x 0 2))])],[(.x 0 0,LC.mk (U:=U) .op (List.set (((Z1 (Wst.mk wo wg wb)).out)++([(OpOf.mk 0 0 [] y_1:Op)])) (Int.toNat (((Z1 (Wst.mk wo wg wb)).out).length:Int)) (OpOf.mk 0 n [] y_1:Op)) 0)]⟩:LSt U))))))):=by kernel_rfl
 exact e_.mpr (by intro y_1 y_2 y_3 y_4;have hh:=h y_1 rfl y_2 rfl y_3 rfl y_4 (Z9 _);exact ⟨hh.1,⟨hh.2.1,⟨id,id,id,id,id,hh.2.2.1,id,id,id,(by generalize (decide ((0:Int)≤(((((Z1 (Wst.mk wo wg wb)).out).length:Int):Int) - 1)))=b0;revert b0;decide),⟨fun c_4=> ⟨(hh.2.2.2.1 c_4).1,(hh.2.2.2.1 c_4).2.1,(hh.2.2.2.1 c_4).2.2.1,(hh.2.2.2.1 c_4).2.2.2.1,(hh.2.2.2.1 c_4).2.2.2.2⟩,fun c_4=> ⟨(hh.2.2.2.2 c_4).1,(hh.2.2.2.2 c_4).2.1,(hh.2.2.2.2 c_4).2.2.1,(hh.2.2.2.2 c_4).2.2.2⟩⟩⟩⟩⟩)
def ZsI(wo:List Op)(wg wb:List Tree)(n:Int):Prop:=AW (Z2 Zkz) Try.f126 ZoP [] (Z16 (ZaM.can ((wo,wg,wb,()),n,())) (ZaM.canX ((wo,wg,wb,()),n,())) (ZaM.canL ((wo,wg,wb,()),n,()))) (Z38 cfg Try.f126.ntmps Try.f126.results.toList (ZhZ ((wo,wg,wb,()),n,())) (ZeJ ((wo,wg,wb,()),n,())) (ZeK ((wo,wg,wb,()),n,())))
theorem Zrw(Zmq:CT 129 Z1D)(hb:∀ (wo:List Op) (wg:List Tree) (wb:List Tree) (n:Int) (_:Unit),Z3W ((wo,wg,wb,()),n,())→ZsI wo wg wb n):CT 126 Z5p:=
 Z0a (l:=[(129,Z1D)]) Zr rfl (⟨Zmq,trivial⟩) ZoP Try.func126 rfl rfl 2 (fun _=> rfl) (by decide) (fun ⟨⟨wo,wg,wb,_⟩,n,_⟩=> hb wo wg wb n ())
def ZaE:List (FuncId × Fs U):=[(71,Z0c)]
def Zh2:Zg U:=fun i=> match i with
 | 0=> ([(0,[]),(6,[]),(7,[]),(8,[])],[(.x 0,[.wr .op])])
 | 1=> ([(0,[]),(6,[]),(7,[]),(8,[]),(9,[])],[(.x 0,[.wr .op])])
 | 2=> ([(0,[]),(5,[]),(6,[]),(7,[]),(8,[])],[(.loc 5,[]),(.x 0,[.wr .op])])
 | 3=> ([(0,[]),(6,[]),(7,[]),(8,[])],[(.x 0,[.wr .op])])
 | 4=> ([(0,[]),(6,[]),(7,[]),(8,[])],[(.x 0,[.wr .op])])
 | _=> ([],[])
def Z5T(wo:List Op)(wg wb l:List Tree)(x8:Int)(mx0_1:List Tree):LSt U:=(⟨[(0,.ptr (.x 0) 1),(6,.c (sU .tree l .unk)),(7,.c (ci (l.length:Int))),(8,.c (ci x8))],[(.x 0,[.mref (.x 0 0),sU .tree mx0_1 (.own (.x 0 1)),sU .tree wb (.own (.x 0 2))])],[(.x 0 0,LC.mk (U:=U) .op wo 0)]⟩:LSt U)
abbrev Zxr(wo:List Op)(wg wb l:List Tree)(Q:QT):=AW (Z2 ZaE) Try.f127 Zh2 [] (⟨[(0,.ptr (.x 0) 1),(1,.c (sU .tree l .unk))],[(.x 0,[.mref (.x 0 0),sU .tree wg (.own (.x 0 1)),sU .tree wb (.own (.x 0 2))])],[(.x 0 0,LC.mk (U:=U) .op wo 0)]⟩:LSt U) Q
theorem ZwQ(wo:List Op)(wg wb l:List Tree)(Q:QT)(h:Zj (AW (Z2 ZaE) Try.f127 Zh2 [1,0,0]) (Z5T wo wg wb l 0 wg) (xB 0 Q)):
  Zxr wo wg wb l Q:=by
 have e_:(Zxr wo wg wb l Q)=(type_of% h):=by kernel_rfl
 exact e_.mpr h
abbrev Zl7(wo:List Op)(wg wb l:List Tree)(x8:Int)(mx0_1:List Tree)(N0:NT)(Q:QT):=AW (Z2 ZaE) Try.f127 Zh2 [1,0,0] (Z5T wo wg wb l x8 mx0_1) (xT N0 (xB 0 Q))
theorem ZmW(wo:List Op)(wg wb l:List Tree)(x8:Int)(mx0_1:List Tree)(N0:NT)(Q:QT)(h:((decide (x8 < (l.length:Int)))=true→((0:Int)≤x8∧x8 < (l.length:Int))∧((Z0Q ((Tree.mk (Tree.kind (l.getD x8.toNat Tree.nil)) (Tree.words (l.getD x8.toNat Tree.nil)) (Tree.kids (l.getD x8.toNat Tree.nil))),()))∧((mx0_1.length+([(Tree.mk 0 [] [])]).length)*56≤140737488355328)∧((0:Int)≤(mx0_1.length:Int)∧(mx0_1.length:Int) < ((mx0_1++([(Tree.mk 0 [] [])])).length:Int))∧(mx0_1.length≤(Int.toNat (mx0_1.length:Int)))∧((InR (x8+1))∧(N0 (Z5T wo wg wb l (x8+1) (List.set (mx0_1++([(Tree.mk 0 [] [])])) (Int.toNat (mx0_1.length:Int)) (Tree.mk (Tree.kind (Z3 (Tree.mk (Tree.kind (l.getD x8.toNat Tree.nil)) (Tree.words (l.getD x8.toNat Tree.nil)) (Tree.kids (l.getD x8.toNat Tree.nil))))) (Tree.words (Z3 (Tree.mk (Tree.kind (l.getD x8.toNat Tree.nil)) (Tree.words (l.getD x8.toNat Tree.nil)) (Tree.kids (l.getD x8.toNat Tree.nil))))) (Tree.kids (Z3 (Tree.mk (Tree.kind (l.getD x8.toNat Tree.nil)) (Tree.words (l.getD x8.toNat Tree.nil)) (Tree.kids (l.getD x8.toNat Tree.nil))))))))))))∧((decide (x8 < (l.length:Int)))=false→Q .normal (⟨[(0,.ptr (.x 0) 1),(6,.c (sU .tree l .unk)),(7,.c (ci (l.length:Int))),(8,.c (ci x8)),(9,.c (.bool (decide (x8 < (l.length:Int)))))],[(.x 0,[.mref (.x 0 0),sU .tree mx0_1 (.own (.x 0 1)),sU .tree wb (.own (.x 0 2))])],[(.x 0 0,LC.mk (U:=U) .op wo 0)]⟩:LSt U))):
  Zl7 wo wg wb l x8 mx0_1 N0 Q:=by
 have e_:(Zl7 wo wg wb l x8 mx0_1 N0 Q)=(type_of% h):=by kernel_rfl
 exact e_.mpr ⟨fun c_5=> ⟨(h.1 c_5).1,⟨(h.1 c_5).2.1,(h.1 c_5).2.2.1,(h.1 c_5).2.2.2.1,(h.1 c_5).2.2.2.2.1,⟨(h.1 c_5).2.2.2.2.2.1,(h.1 c_5).2.2.2.2.2.2⟩⟩⟩,fun c_5=> (h.2 c_5)⟩
def ZsH(wo:List Op)(wg wb l:List Tree):Prop:=AW (Z2 ZaE) Try.f127 Zh2 [] (Z16 (ZaL.can ((wo,wg,wb,()),l,())) (ZaL.canX ((wo,wg,wb,()),l,())) (ZaL.canL ((wo,wg,wb,()),l,()))) (Z38 cfg Try.f127.ntmps Try.f127.results.toList (ZnP ((wo,wg,wb,()),l,())) (Zjz ((wo,wg,wb,()),l,())) (ZjA ((wo,wg,wb,()),l,())))
theorem Zrv(c71:CT 71 Z0c)(hb:∀ (wo:List Op) (wg:List Tree) (wb:List Tree) (l:List Tree) (_:Unit),Z8X ((wo,wg,wb,()),l,())→ZsH wo wg wb l):CT 127 Zeu:=
 Z0a (l:=[(71,Z0c)]) Zr rfl (⟨c71,trivial⟩) Zh2 Try.func127 rfl rfl 2 (fun _=> rfl) (by decide) (fun ⟨⟨wo,wg,wb,_⟩,l,_⟩=> hb wo wg wb l ())
def Z7Y:List (FuncId × Fs U):=[(71,Z0c)]
def Zch:Zg U:=fun i=> match i with
 | 0=> ([(0,[]),(6,[]),(7,[]),(8,[])],[(.x 0,[.wr .op])])
 | 1=> ([(0,[]),(6,[]),(7,[]),(8,[]),(9,[])],[(.x 0,[.wr .op])])
 | 2=> ([(0,[]),(5,[]),(6,[]),(7,[]),(8,[])],[(.loc 5,[]),(.x 0,[.wr .op])])
 | 3=> ([(0,[]),(6,[]),(7,[]),(8,[])],[(.x 0,[.wr .op])])
 | 4=> ([(0,[]),(6,[]),(7,[]),(8,[])],[(.x 0,[.wr .op])])
 | _=> ([],[])
def Z45(wo:List Op)(wg wb l:List Tree)(x8:Int)(mx0_2:List Tree):LSt U:=(⟨[(0,.ptr (.x 0) 2),(6,.c (sU .tree l .unk)),(7,.c (ci (l.length:Int))),(8,.c (ci x8))],[(.x 0,[.mref (.x 0 0),sU .tree wg (.own (.x 0 1)),sU .tree mx0_2 (.own (.x 0 2))])],[(.x 0 0,LC.mk (U:=U) .op wo 0)]⟩:LSt U)
abbrev Zty(wo:List Op)(wg wb l:List Tree)(Q:QT):=AW (Z2 Z7Y) Try.f127 Zch [] (⟨[(0,.ptr (.x 0) 2),(1,.c (sU .tree l .unk))],[(.x 0,[.mref (.x 0 0),sU .tree wg (.own (.x 0 1)),sU .tree wb (.own (.x 0 2))])],[(.x 0 0,LC.mk (U:=U) .op wo 0)]⟩:LSt U) Q
theorem ZtL(wo:List Op)(wg wb l:List Tree)(Q:QT)(h:Zj (AW (Z2 Z7Y) Try.f127 Zch [1,0,0]) (Z45 wo wg wb l 0 wb) (xB 0 Q)):
  Zty wo wg wb l Q:=by
 have e_:(Zty wo wg wb l Q)=(type_of% h):=by kernel_rfl
 exact e_.mpr h
abbrev Zhz(wo:List Op)(wg wb l:List Tree)(x8:Int)(mx0_2:List Tree)(N0:NT)(Q:QT):=AW (Z2 Z7Y) Try.f127 Zch [1,0,0] (Z45 wo wg wb l x8 mx0_2) (xT N0 (xB 0 Q))
theorem Zlf(wo:List Op)(wg wb l:List Tree)(x8:Int)(mx0_2:List Tree)(N0:NT)(Q:QT)(h:((decide (x8 < (l.length:Int)))=true→((0:Int)≤x8∧x8 < (l.length:Int))∧((Z0Q ((Tree.mk (Tree.kind (l.getD x8.toNat Tree.nil)) (Tree.words (l.getD x8.toNat Tree.nil)) (Tree.kids (l.getD x8.toNat Tree.nil))),()))∧((mx0_2.length+([(Tree.mk 0 [] [])]).length)*56≤140737488355328)∧((0:Int)≤(mx0_2.length:Int)∧(mx0_2.length:Int) < ((mx0_2++([(Tree.mk 0 [] [])])).length:Int))∧(mx0_2.length≤(Int.toNat (mx0_2.length:Int)))∧((InR (x8+1))∧(N0 (Z45 wo wg wb l (x8+1) (List.set (mx0_2++([(Tree.mk 0 [] [])])) (Int.toNat (mx0_2.length:Int)) (Tree.mk (Tree.kind (Z3 (Tree.mk (Tree.kind (l.getD x8.toNat Tree.nil)) (Tree.words (l.getD x8.toNat Tree.nil)) (Tree.kids (l.getD x8.toNat Tree.nil))))) (Tree.words (Z3 (Tree.mk (Tree.kind (l.getD x8.toNat Tree.nil)) (Tree.words (l.getD x8.toNat Tree.nil)) (Tree.kids (l.getD x8.toNat Tree.nil))))) (Tree.kids (Z3 (Tree.mk (Tree.kind (l.getD x8.toNat Tree.nil)) (Tree.words (l.getD x8.toNat Tree.nil)) (Tree.kids (l.getD x8.toNat Tree.nil))))))))))))∧((decide (x8 < (l.length:Int)))=false→Q .normal (⟨[(0,.ptr (.x 0) 2),(6,.c (sU .tree l .unk)),(7,.c (ci (l.length:Int))),(8,.c (ci x8)),(9,.c (.bool (decide (x8 < (l.length:Int)))))],[(.x 0,[.mref (.x 0 0),sU .tree wg (.own (.x 0 1)),sU .tree mx0_2 (.own (.x 0 2))])],[(.x 0 0,LC.mk (U:=U) .op wo 0)]⟩:LSt U))):
  Zhz wo wg wb l x8 mx0_2 N0 Q:=by
 have e_:(Zhz wo wg wb l x8 mx0_2 N0 Q)=(type_of% h):=by kernel_rfl
 exact e_.mpr ⟨fun c_6=> ⟨(h.1 c_6).1,⟨(h.1 c_6).2.1,(h.1 c_6).2.2.1,(h.1 c_6).2.2.2.1,(h.1 c_6).2.2.2.2.1,⟨(h.1 c_6).2.2.2.2.2.1,(h.1 c_6).2.2.2.2.2.2⟩⟩⟩,fun c_6=> (h.2 c_6)⟩
def Zqb(wo:List Op)(wg wb l:List Tree):Prop:=AW (Z2 Z7Y) Try.f127 Zch [] (Z16 (Z8B.can ((wo,wg,wb,()),l,())) (Z8B.canX ((wo,wg,wb,()),l,())) (Z8B.canL ((wo,wg,wb,()),l,()))) (Z38 cfg Try.f127.ntmps Try.f127.results.toList (ZjK ((wo,wg,wb,()),l,())) (Zgl ((wo,wg,wb,()),l,())) (Zgm ((wo,wg,wb,()),l,())))
theorem Zoy(c71:CT 71 Z0c)(hb:∀ (wo:List Op) (wg:List Tree) (wb:List Tree) (l:List Tree) (_:Unit),Z5E ((wo,wg,wb,()),l,())→Zqb wo wg wb l):CT 127 Zbn:=
 Z0a (l:=[(71,Z0c)]) Zr rfl (⟨c71,trivial⟩) Zch Try.func127 rfl rfl 2 (fun _=> rfl) (by decide) (fun ⟨⟨wo,wg,wb,_⟩,l,_⟩=> hb wo wg wb l ())
def Zh9:List (FuncId × Fs U):=[]
def Zim:Zg U:=lvl [([0,3],[3]),([4],[])]
abbrev Ztx(list:Int)(e:Edit)(Q:QT):=AW (Z2 Zh9) Try.f128 Zim [] (L2 [(0,.c (ci list)),(1,.agg (enc .edit e))] []) Q
theorem ZtK(list:Int)(e:Edit)(Q:QT)(h:(((!(e.kind==0)) && (bif (list==9) then (e.kind==2) else false))=true→InR (((e.words.length:Int):Int)+(e.kids.length:Int)))∧(Q .ret (L2 [(4,.c (.bool (bif (e.kind==0) then true else (bif (bif (list==9) then (e.kind==2) else false) then (((((e.words.length:Int):Int)+(e.kids.length:Int)):Int)==0) else false))))] []))):
  Ztx list e Q:=by
 have e_:(Ztx list e Q)=(let zz1:=(!(e.kind==0));let zz0:=(bif ((list:Int)==9) then (e.kind==2) else false);((Yn (zz1=true))∧(Yn (zz1=true))∧(Yn ((zz1 && ((list:Int)==9))=true))∧(Yn ((zz1 && ((list:Int)==9))=true))∧(zz1=true→(True→zz1=true))∧(zz1=true→(((list:Int)==9)=true→(zz1 && ((list:Int)==9))=true))∧(Yn (zz1=true))∧(Yn ((zz1 && zz0)=true))∧(Yn ((zz1 && zz0)=true))∧(Yn ((zz1 && zz0)=true))∧(Yn ((zz1 && zz0)=true))∧(Yn ((zz1 && zz0)=true))∧(Yn ((zz1 && zz0)=true))∧((zz1 && zz0)=true→InR ((e.words.length:Int)+(e.kids.length:Int)))∧(Yn ((zz1 && zz0)=true))∧(zz1=true→(True→zz1=true))∧(zz1=true→(zz0=true→(zz1 && zz0)=true))∧((e.kind==0)=false→zz1=true)∧(Q .ret (L2 [(4,.c (.bool (bif (e.kind==0) then true else (bif zz0 then ((((e.words.length:Int)+(e.kids.length:Int)):Int)==0) else false))))] [])))):=by kernel_rfl
 exact e_.mpr ⟨id,id,id,id,(by generalize ((e.kind:Int)==0)=b0;revert b0;decide),(by generalize ((e.kind:Int)==0)=b0;generalize ((list:Int)==9)=b1;revert b0 b1;decide),id,id,id,id,id,id,id,h.1,id,(by generalize ((e.kind:Int)==0)=b0;revert b0;decide),(by generalize ((e.kind:Int)==2)=b0;generalize ((e.kind:Int)==0)=b1;generalize ((list:Int)==9)=b2;revert b0 b1 b2;decide),(by generalize ((e.kind:Int)==0)=b0;revert b0;decide),h.2⟩
def Zqa(list:Int)(e:Edit):Prop:=AW (Z2 Zh9) Try.f128 Zim [] (Zo (Zhv.can (list,e,())) []) (EQ Try.f128 (ZjJ (list,e,())) [])
theorem Zox(hb:∀ (list:Int) (e:Edit) (_:Unit),Z5D (list,e,())→Zqa list e):CT 128 Z3c:=
 Z8 (l:=[]) Zr rfl trivial Zim Try.func128 rfl rfl 2 (fun _=> rfl) (by decide) (fun ⟨list,e,_⟩=> hb list e ())
end
end Go.AM.Ytpjenobkibfpcaa
namespace Go.AM.Ytpjenobkibfpcaa
open Go.AM Go.Proofs
theorem Z29{α:Type}(l:List α)(z x:α):(l++[z]).set (Int.toNat (l.length:Int)) x=l++[x]:=by
 rw [Int.toNat_natCast,List.set_append_right _ _ (Nat.le_refl _)]
 simp
theorem Z7Z:∀ (F:List Op) (n:Int),Z0T F n=if F.length≠0∧(F.getD (F.length - 1) Op.nil).kind=0 then F.set (F.length - 1) ⟨(F.getD (F.length - 1) Op.nil).kind,(F.getD (F.length - 1) Op.nil).n+n,(F.getD (F.length - 1) Op.nil).l,(F.getD (F.length - 1) Op.nil).e⟩ else F++[⟨0,n,[],Edit.nil⟩]
 | [],n=> by simp [Z0T]
 | [o],n=> by simp [Z0T]
 | o ::p ::r,n=> by
  have ih:=Z7Z (p ::r) n
  have e:(o ::p ::r).length - 1=((p ::r).length - 1)+1:=by simp
  rw [Z0T,ih,e]
  simp only [List.getD_cons_succ,List.set_cons_succ]
  by_cases h:(p ::r).length≠0∧((p ::r).getD ((p ::r).length - 1) Op.nil).kind=0
  ·rw [if_pos h,if_pos ⟨by simp,h.2⟩]
  ·have h':¬((p ::r).getD ((p ::r).length - 1) Op.nil).kind=0:=fun e=> h ⟨by simp,e⟩
   rw [if_neg h,if_neg (fun e=> h' e.2)]
   try rfl
theorem Z9k(s:Wst):(Z1 s).out.length≤s.out.length+2:=by
 simp only [Z1,JN]
 split <;> split <;> simp
theorem Z9j(s:Wst):∀ o∈(Z1 s).out,o∈s.out∨o.n=0:=by
 intro o ho
 simp only [Z1,JN,List.mem_append] at ho
 rcases ho with h | h | h
 ·exact .inl h
 ·split at h
  ·cases h
  ·simp only [List.mem_singleton] at h;subst h;exact .inr rfl
 ·split at h
  ·cases h
  ·simp only [List.mem_singleton] at h;subst h;exact .inr rfl
theorem Zmq:Contract Try.prog cfg 129 Z1D:=by
 refine Zru ?_
 intro wo wg wb _ hp
 simp only [Z1r] at hp
 refine ZwP wo wg wb _ ?_
 rintro y1 hy1 y2 hy2
 have hy:y1=Edit.nil:=hy1
 subst hy
 rw [Z29] at hy2
 subst hy2
 (simp only [vcS])
 refine ⟨fun h1=> ⟨by simp;omega,by simp;omega,by omega,fun h2=> ⟨by simp;omega,by simp;omega,by omega,?_⟩,fun h2=> ?_⟩,fun h1=> ⟨fun h2=> ⟨by simp;omega,by simp;omega,by omega,?_⟩,fun h2=> ?_⟩⟩
 ·rw [Z29]
  have e:Z1 ⟨wo,wg,wb⟩=⟨wo++[⟨1,0,wg,Edit.nil⟩]++[⟨2,0,wb,Edit.nil⟩],[],[]⟩:=by
   simp only [Z1,JN];rw [if_neg (by omega),if_neg (by omega)];simp
  simp only [Z8Q,Z5A,Z5B,e]
  (repeat' (first | exact trivial | exact rfl | apply And.intro))
 ·have e:Z1 ⟨wo,wg,wb⟩=⟨wo++[⟨1,0,wg,Edit.nil⟩],[],[]⟩:=by
   simp only [Z1,JN];rw [if_neg (by omega),if_pos (by omega)];simp
  simp only [Z8Q,Z5A,Z5B,e]
  (repeat' (first | exact trivial | exact rfl | apply And.intro))
 ·rw [Z29]
  have e:Z1 ⟨wo,wg,wb⟩=⟨wo++[⟨2,0,wb,Edit.nil⟩],[],[]⟩:=by
   simp only [Z1,JN];rw [if_pos (by omega),if_neg (by omega)];simp
  simp only [Z8Q,Z5A,Z5B,e]
  (repeat' (first | exact trivial | exact rfl | apply And.intro))
 ·have e:Z1 ⟨wo,wg,wb⟩=⟨wo,[],[]⟩:=by
   simp only [Z1,JN];rw [if_pos (by omega),if_pos (by omega)];simp
  simp only [Z8Q,Z5A,Z5B,e]
  (repeat' (first | exact trivial | exact rfl | apply And.intro))
theorem Zvj:Contract Try.prog cfg 126 Z5p:=by
 refine Zrw Zmq ?_
 intro wo wg wb n _ hp
 simp only [Z3W] at hp
 obtain ⟨p1,p2,p3,p4,p5,p6⟩:=hp
 have hfl:=Z9k ⟨wo,wg,wb⟩
 have hfm:=Z9j ⟨wo,wg,wb⟩
 have hg:(Z1 ⟨wo,wg,wb⟩).gone=[]:=rfl
 have hb:(Z1 ⟨wo,wg,wb⟩).brought=[]:=rfl
 have hk:=Z7Z (Z1 ⟨wo,wg,wb⟩).out n
 have hkw:ZL ⟨wo,wg,wb⟩ n=⟨Z0T (Z1 ⟨wo,wg,wb⟩).out n,[],[]⟩:=rfl
 refine ZwR wo wg wb n _ ?_
 simp only [hg,hb,ZhZ,ZeJ,ZeK,hkw]
 generalize (Z1 ⟨wo,wg,wb⟩).out=F at*
 simp only at hfl hfm
 rintro y1 hy1 y2 hy2 y3 hy3 y4 hy4
 have hy:y1=Edit.nil:=hy1
 subst hy
 have e2:y2=F.length - 1:=by omega
 subst e2
 rw [←hy3,←hy4] at hk
 (simp only [vcS])
 refine ⟨by simp only [Z1r];exact ⟨p1,p2,p3⟩,by unfold InR;omega,fun h=> ⟨h,by omega⟩,fun h=> ?_,fun h=> ?_⟩
 ·have hy3n:0≤y3.n∧y3.n≤100000000000000000:=by
   have hm:y3∈F:=by rw [hy3];exact Zh (by omega) _
   rcases hfm y3 hm with h1 | h1
   ·exact p4 y3 h1
   ·omega
  rw [if_pos ⟨by omega,h.2⟩] at hk
  rw [hk]
  refine ⟨by omega,by unfold InR;omega,by omega,by omega,?_⟩
  (repeat' (first | exact trivial | exact rfl | apply And.intro))
 ·rw [if_neg (by omega)] at hk
  rw [hk,Z29]
  refine ⟨by simp;omega,by simp;omega,by omega,?_⟩
  (repeat' (first | exact trivial | exact rfl | apply And.intro))
theorem Zyt:Contract Try.prog cfg 127 Zeu:=by
 refine Zrv c71 ?_
 intro wo wg wb l _ hp
 simp only [Z8X] at hp
 obtain ⟨p1,p2,p3,p4⟩:=hp
 have hl:=ZD l
 refine ZwQ _ _ _ _ _ ?_
 refine Zb (ι:=Int × List Tree) (fun s=> Z5T wo wg wb l s.1 s.2) (fun s=> 0≤s.1∧s.1≤l.length∧s.2.length=wg.length+s.1∧s.2++Z5 (l.drop s.1.toNat)=wg++Z5 l) (fun s=> ((l.length:Int) - s.1).toNat) (0,wg) rfl ⟨by simp,by simp,by simp,by simp⟩ ?_
 rintro ⟨i,out⟩ ⟨h1,h2,h3,h4⟩
 dsimp only at h1 h2 h3 h4
 refine ZmW _ _ _ _ _ _ _ _ ?_
 (simp only [vcS])
 (simp only [Tree.eta,Edit.eta,Tree.kind_mk,Tree.words_mk,Tree.kids_mk])
 refine ⟨fun hi=> ?_,fun hi=> ?_⟩
 ·have hm:=J8 (Zh (l:=l) (i:=i.toNat) (by omega) Tree.nil)
  rw [Ys h1 hi Tree.nil] at h4
  simp only [Z5,List.map_cons] at h4
  rw [Z29]
  refine ⟨⟨h1,hi⟩,by simp only [Z0Q];omega,by simp;omega,by simp;omega,by omega,by unfold InR;omega,(i+1,out++[Z3 (l.getD i.toNat Tree.nil)]),rfl,⟨by dsimp only;omega,by dsimp only;omega,by simp;omega,?_⟩,by dsimp only;omega⟩
  simp only [List.append_assoc,List.cons_append,List.nil_append]
  exact h4
 ·rw [List.drop_of_length_le (by omega)] at h4
  simp only [Z5,List.map_nil,List.append_nil] at h4
  rw [h4]
  (repeat' (first | exact trivial | exact rfl | apply And.intro))
theorem Zxl:Contract Try.prog cfg 127 Zbn:=by
 refine Zoy c71 ?_
 intro wo wg wb l _ hp
 simp only [Z5E] at hp
 obtain ⟨p1,p2,p3,p4⟩:=hp
 have hl:=ZD l
 refine ZtL _ _ _ _ _ ?_
 refine Zb (ι:=Int × List Tree) (fun s=> Z45 wo wg wb l s.1 s.2) (fun s=> 0≤s.1∧s.1≤l.length∧s.2.length=wb.length+s.1∧s.2++Z5 (l.drop s.1.toNat)=wb++Z5 l) (fun s=> ((l.length:Int) - s.1).toNat) (0,wb) rfl ⟨by simp,by simp,by simp,by simp⟩ ?_
 rintro ⟨i,out⟩ ⟨h1,h2,h3,h4⟩
 dsimp only at h1 h2 h3 h4
 refine Zlf _ _ _ _ _ _ _ _ ?_
 (simp only [vcS])
 (simp only [Tree.eta,Edit.eta,Tree.kind_mk,Tree.words_mk,Tree.kids_mk])
 refine ⟨fun hi=> ?_,fun hi=> ?_⟩
 ·have hm:=J8 (Zh (l:=l) (i:=i.toNat) (by omega) Tree.nil)
  rw [Ys h1 hi Tree.nil] at h4
  simp only [Z5,List.map_cons] at h4
  rw [Z29]
  refine ⟨⟨h1,hi⟩,by simp only [Z0Q];omega,by simp;omega,by simp;omega,by omega,by unfold InR;omega,(i+1,out++[Z3 (l.getD i.toNat Tree.nil)]),rfl,⟨by dsimp only;omega,by dsimp only;omega,by simp;omega,?_⟩,by dsimp only;omega⟩
  simp only [List.append_assoc,List.cons_append,List.nil_append]
  exact h4
 ·rw [List.drop_of_length_le (by omega)] at h4
  simp only [Z5,List.map_nil,List.append_nil] at h4
  rw [h4]
  (repeat' (first | exact trivial | exact rfl | apply And.intro))
theorem Zpy:Contract Try.prog cfg 128 Z3c:=by
 refine Zox ?_
 intro list e _ hp
 simp only [Z5D] at hp
 refine ZtK _ _ _ ?_
 refine ⟨fun _=> by unfold InR;dsimp only;omega,Zl rfl ?_⟩
 rw [Bool.eq_iff_iff]
 simp only [Z6j]
 (simp only [vcS])
 omega
noncomputable def Z4u:Fs U:=Zv0 Zeu Zbn
theorem Zpv:Contract Try.prog cfg 127 Z4u:=Zhs Zyt Zxl
end Go.AM.Ytpjenobkibfpcaa
namespace Go.AM.Ytpjenobkibfpcaa
open Go.AM Go.Proofs
noncomputable section
noncomputable section
def ZfD:ArgL (Edit × Unit):=(.cons (aEl .edit) .nil)
def Z0R(a:Edit × Unit):Prop:=Z6 a.1≤20000000000∧∃ d,Z4 a.1 d=true
def Zc4(a:Edit × Unit):Nat:=2*Z6 a.1
def Z9K(a:Edit × Unit):V U:= .agg (enc .edit (ZA a.1))
def Z0s:Fs U:=fs ZfD (fun a=> [Z0R a]) Z9K
def ZfA:ArgL (Int × List Op × Unit):=(.cons (Z04 .i64) (.cons (aSl .op) .nil))
def Z9L(a:Int × List Op × Unit):Prop:=Zc a.2.1≤20000000000∧∀ o∈a.2.1,∃ d,Z7 a.1 o d=true
def ZgN(a:Int × List Op × Unit):Nat:=2*Zc a.2.1+1
def Zgn(a:Int × List Op × Unit):V U:= .c (sU .op ((Z1 (ZY a.1 a.2.1 (Wst.mk [] [] []))).out) .unk)
def Znj:Fs U:=fs ZfA (fun a=> [Z9L a]) Zgn
def Z36(N:Nat):List (FuncId × Fs U):=(57,fs ZfD (fun a=> [Z0R a,Zc4 a < N]) Z9K) ::(94,fs ZfA (fun a=> [Z9L a,ZgN a < N]) Zgn) ::[(71,Z0c),(128,Z3c),(126,Z5p),(129,Z1D),(127,Z4u)]
def Zfa:Zg U:=fun i=> match i with
 | 0=> ([(1,[]),(2,[])],[(.loc 1,[]),(.loc 2,[])])
 | 1=> ([(1,[]),(2,[]),(3,[])],[(.loc 1,[]),(.loc 2,[]),(.loc 3,[])])
 | 2=> ([(1,[]),(2,[]),(3,[]),(12,[])],[(.loc 1,[]),(.loc 2,[]),(.loc 3,[])])
 | 3=> ([(1,[]),(2,[]),(3,[]),(12,[]),(13,[])],[(.loc 1,[]),(.loc 2,[]),(.loc 3,[])])
 | 4=> ([(2,[]),(3,[])],[(.loc 2,[]),(.loc 3,[])])
 | 5=> ([(1,[]),(2,[]),(3,[]),(12,[]),(23,[])],[(.loc 1,[]),(.loc 2,[]),(.loc 3,[])])
 | 6=> ([(1,[]),(2,[]),(3,[])],[(.loc 1,[]),(.loc 2,[]),(.loc 3,[])])
 | 7=> ([(2,[]),(3,[]),(32,[]),(33,[]),(34,[])],[(.loc 2,[]),(.loc 3,[.any,.any,.any,.any,.any,.any,.any,.any,.own .kid])])
 | 8=> ([(2,[]),(3,[]),(32,[]),(33,[]),(34,[]),(35,[])],[(.loc 2,[]),(.loc 3,[])])
 | 9=> ([(2,[]),(3,[]),(5,[]),(32,[]),(33,[]),(34,[])],[(.loc 2,[]),(.loc 3,[]),(.loc 5,[])])
 | 10=> ([(2,[]),(3,[]),(32,[]),(33,[]),(34,[])],[(.loc 2,[]),(.loc 3,[])])
 | 11=> ([(2,[]),(3,[]),(32,[]),(33,[]),(34,[])],[(.loc 2,[]),(.loc 3,[.any,.any,.any,.any,.any,.any,.any,.any,.own .kid])])
 | 12=> ([(1,[]),(2,[]),(3,[]),(50,[])],[(.loc 1,[]),(.loc 2,[]),(.loc 3,[])])
 | 13=> ([(2,[]),(3,[])],[(.loc 2,[]),(.loc 3,[])])
 | 14=> ([(2,[])],[(.loc 2,[])])
 | _=> ([],[])
def Z3r(e:Edit)(x34:Int)(ml3_8:List Kid):LSt U:=(L2 [(2,.ptr (.loc 2) 0),(3,.ptr (.loc 3) 0),(32,.c (sU .kid e.kids .unk)),(33,.c (ci (e.kids.length:Int))),(34,.c (ci x34))] [(.loc 2,zc1),(.loc 3,[ci e.kind,ci 0,.nils,.nils,ci 0,.nils,.nils,sU .wedit (([]:List WEdit)++e.words) (.own (.l 3 7)),sU .kid ml3_8 (.own (.l 3 8)),ci e.list,.nils])])
abbrev W57(N:Nat)(e:Edit)(Q:QT):=AW (Z2 (Z36 N)) Try.f57 Zfa [] (L2 [(0,.agg (enc .edit e))] []) Q
abbrev ZmB(N:Nat):=awp cfg (Z2 (Z36 N)) (Y0 cfg (Z2 (Z36 N))) Try.f57.ntmps Zfa
abbrev Zls(N:Nat):=ZeA cfg (Z2 (Z36 N)) (Y0 cfg (Z2 (Z36 N))) Try.f57.ntmps Zfa
theorem Zy8(N:Nat)(e:Edit)(Q:QT)(h:((e.kind==1)=true→(Z0Q ((Tree.mk e.old.kind e.old.words e.old.kids),()))∧(Z0Q ((Tree.mk e.new.kind e.new.words e.new.kids),()))∧(Q .ret (L2 [(2,.ptr (.loc 2) 0)] [(.loc 2,([ci e.kind]++enc .tree (Z3 (Tree.mk e.old.kind e.old.words e.old.kids))++enc .tree (Z3 (Tree.mk e.new.kind e.new.words e.new.kids))++[.nils,.nils,ci e.list,.nils]))])))∧((e.kind==1)=false→((e.kind==2)=true→((([]:List WEdit).length+e.words.length)*32≤140737488355328)∧(Zj (AW (Z2 (Z36 N)) Try.f57 Zfa [1,1,0,1,0,1,1,1,0,1,1,0,0]) (Z3r e 0 []) (xB 1 (xB 0 (SW (Z2 (Z36 N)) Try.f57 Zfa [1,1,1] Q)))))∧((e.kind==2)=false→((e.kind==3)=true→(Z9L (e.list,e.ops,()))∧(ZgN (e.list,e.ops,()) < N)∧(Q .ret (L2 [(2,.ptr (.loc 2) 0)] [(.loc 2,[ci e.kind,ci 0,.nils,.nils,ci 0,.nils,.nils,.nils,.nils,ci e.list,sU .op ((Z1 (ZY e.list e.ops (Wst.mk [] [] []))).out) .unk])])))∧((e.kind==3)=false→Q .ret (L2 [(2,.ptr (.loc 2) 0)] [(.loc 2,[ci e.kind,ci 0,.nils,.nils,ci 0,.nils,.nils,.nils,.nils,ci e.list,.nils])]))))):
  W57 N e Q:=by
 have e_:(W57 N e Q)=(((e.kind==1)=true→(Z0Q ((Tree.mk e.old.kind e.old.words e.old.kids),()))∧(Z0Q ((Tree.mk e.new.kind e.new.words e.new.kids),()))∧(Q .ret (L2 [(2,.ptr (.loc 2) 0)] [(.loc 2,([ci e.kind]++enc .tree (Z3 (Tree.mk e.old.kind e.old.words e.old.kids))++enc .tree (Z3 (Tree.mk e.new.kind e.new.words e.new.kids))++[.nils,.nils,ci e.list,.nils]))])))∧((e.kind==1)=false→(((e.kind==2)=true→((([]:List WEdit).length+e.words.length)*32≤140737488355328)∧(Zj (ZmB N (cd Try.f57 [1,1,0,1,0,1,1,1,0,1,1,0,0])) (Z3r e 0 []) (xB 1 (xB 0 (Zls N (cd Try.f57 [1,1,1]) Q)))))∧((e.kind==2)=false→(((e.kind==3)=true→(Z9L (e.list,e.ops,()))∧(ZgN (e.list,e.ops,()) < N)∧(Q .ret (L2 [(2,.ptr (.loc 2) 0)] [(.loc 2,[ci e.kind,ci 0,.nils,.nils,ci 0,.nils,.nils,.nils,.nils,ci e.list,sU .op ((Z1 (ZY e.list e.ops (Wst.mk [] [] []))).out) .unk])])))∧((e.kind==3)=false→(Q .ret (L2 [(2,.ptr (.loc 2) 0)] [(.loc 2,[ci e.kind,ci 0,.nils,.nils,ci 0,.nils,.nils,.nils,.nils,ci e.list,.nils])])))))))):=by kernel_rfl
 exact e_.mpr ⟨fun c_1=> ⟨(h.1 c_1).1,(h.1 c_1).2.1,(h.1 c_1).2.2⟩,fun c_1=> ⟨fun c_2=> ⟨((h.2 c_1).1 c_2).1,((h.2 c_1).1 c_2).2⟩,fun c_2=> ⟨fun c_3=> ⟨(((h.2 c_1).2 c_2).1 c_3).1,(((h.2 c_1).2 c_2).1 c_3).2.1,(((h.2 c_1).2 c_2).1 c_3).2.2⟩,fun c_3=> (((h.2 c_1).2 c_2).2 c_3)⟩⟩⟩
abbrev Zq3(N:Nat)(e:Edit)(x34:Int)(ml3_8:List Kid)(N0:NT)(Q:QT):=AW (Z2 (Z36 N)) Try.f57 Zfa [1,1,0,1,0,1,1,1,0,1,1,0,0] (Z3r e x34 ml3_8) (xT N0 (xB 1 (xB 0 (SW (Z2 (Z36 N)) Try.f57 Zfa [1,1,1] Q))))
theorem ZqI(N:Nat)(e:Edit)(x34:Int)(ml3_8:List Kid)(N0:NT)(Q:QT)(h:∀ y_1,y_1=(e.kids.getD x34.toNat (KidOf.mk 0 Edit.nil))→∀ y_2,y_2=(y_1.e)→∀ y_3,y_3=(ZA y_2)→((decide (x34 < (e.kids.length:Int)))=true→((0:Int)≤x34∧x34 < (e.kids.length:Int))∧((Z0R (y_2,()))∧(Zc4 (y_2,()) < N)∧((ml3_8.length+([(KidOf.mk y_1.at_ y_3:Kid)]).length)*208≤140737488355328)∧((InR (x34+1))∧(N0 (Z3r e (x34+1) (ml3_8++([(KidOf.mk y_1.at_ y_3:Kid)])))))))∧((decide (x34 < (e.kids.length:Int)))=false→Q .ret (L2 [(2,.ptr (.loc 2) 0)] [(.loc 2,[ci e.kind,ci 0,.nils,.nils,ci 0,.nils,.nils,sU .wedit (([]:List WEdit)++e.words) (.own (.l 2 7)),sU .kid ml3_8 (.own (.l 2 8)),ci e.list,.nils])]))):
  Zq3 N e x34 ml3_8 N0 Q:=by
 have e_:(Zq3 N e x34 ml3_8 N0 Q)=(let y_1:=(e.kids.getD x34.toNat (KidOf.mk 0 Edit.nil));let y_2:=(Jr y_1.e);let y_3:=(Jr (ZA y_2));(((decide ((x34:Int) < (e.kids.length:Int)))=true→((0:Int)≤x34∧x34 < (e.kids.length:Int))∧((Z0R (y_2,()))∧(Zc4 (y_2,()) < N)∧((ml3_8.length+([(KidOf.mk y_1.at_ y_3:Kid)]).length)*208≤140737488355328)∧((InR ((x34:Int)+1))∧(N0 (Z3r e ((x34:Int)+1) (ml3_8++([(KidOf.mk y_1.at_ y_3:Kid)])))))))∧((decide ((x34:Int) < (e.kids.length:Int)))=false→(Q .ret (L2 [(2,.ptr (.loc 2) 0)] [(.loc 2,[ci e.kind,ci 0,.nils,.nils,ci 0,.nils,.nils,sU .wedit (([]:List WEdit)++e.words) (.own (.l 2 7)),sU .kid ml3_8 (.own (.l 2 8)),ci e.list,.nils])]))))):=by kernel_rfl
 exact e_.mpr (by intro y_1 y_2 y_3;have hh:=h y_1 rfl y_2 (Z9 _) y_3 (Z9 _);exact ⟨fun c_4=> ⟨(hh.1 c_4).1,⟨(hh.1 c_4).2.1,(hh.1 c_4).2.2.1,(hh.1 c_4).2.2.2.1,⟨(hh.1 c_4).2.2.2.2.1,(hh.1 c_4).2.2.2.2.2⟩⟩⟩,fun c_4=> (hh.2 c_4)⟩)
def Zw4(N:Nat)(e:Edit):Prop:=AW (Z2 (Z36 N)) Try.f57 Zfa [] (Zo (ZfD.can (e,())) []) (EQ Try.f57 (Z9K (e,())) [])
abbrev ZxG:Prop:=∀ (N:Nat) (e:Edit) (_:Unit),Z0R (e,())→Zc4 (e,()) < N+1→Zw4 N e
def Z35(N:Nat):List (FuncId × Fs U):=(57,fs ZfD (fun a=> [Z0R a,Zc4 a < N]) Z9K) ::(94,fs ZfA (fun a=> [Z9L a,ZgN a < N]) Zgn) ::[(71,Z0c),(128,Z3c),(126,Z5p),(129,Z1D),(127,Z4u)]
def Zf9:Zg U:=fun i=> match i with
 | 0=> ([(0,[]),(1,[])],[])
 | 1=> ([(0,[]),(1,[]),(5,[])],[(.loc 10,[.wr .op])])
 | 2=> ([(0,[]),(5,[]),(11,[]),(12,[]),(13,[])],[(.loc 10,[.wr .op,.own .tree,.own .tree])])
 | 3=> ([(0,[]),(5,[]),(11,[]),(12,[]),(13,[]),(14,[])],[(.loc 10,[.wr .op])])
 | 4=> ([(0,[]),(5,[]),(7,[]),(11,[]),(12,[]),(13,[])],[(.loc 7,[]),(.loc 10,[.wr .op])])
 | 5=> ([(0,[]),(5,[]),(7,[]),(11,[]),(12,[]),(13,[]),(18,[])],[(.loc 7,[]),(.loc 10,[.wr .op])])
 | 6=> ([(0,[]),(5,[]),(7,[]),(11,[]),(12,[]),(13,[]),(18,[]),(19,[])],[(.loc 7,[]),(.loc 10,[.wr .op])])
 | 7=> ([(0,[]),(5,[]),(11,[]),(12,[]),(13,[])],[(.loc 10,[.wr .op])])
 | 8=> ([(0,[]),(5,[]),(7,[]),(11,[]),(12,[]),(13,[]),(18,[]),(25,[])],[(.loc 7,[]),(.loc 10,[.wr .op])])
 | 9=> ([(0,[]),(5,[]),(11,[]),(12,[]),(13,[])],[(.loc 10,[.wr .op])])
 | 10=> ([(0,[]),(5,[]),(7,[]),(11,[]),(12,[]),(13,[]),(18,[]),(33,[])],[(.loc 7,[]),(.loc 10,[.wr .op])])
 | 11=> ([(0,[]),(5,[]),(11,[]),(12,[]),(13,[])],[(.loc 10,[.wr .op])])
 | 12=> ([(0,[]),(5,[]),(7,[]),(11,[]),(12,[]),(13,[]),(41,[])],[(.loc 7,[]),(.loc 10,[.wr .op])])
 | 13=> ([(0,[]),(5,[]),(8,[]),(11,[]),(12,[]),(13,[])],[(.loc 8,[]),(.loc 10,[.wr .op])])
 | 14=> ([(0,[]),(5,[]),(8,[]),(11,[]),(12,[]),(13,[]),(48,[])],[(.loc 8,[]),(.loc 10,[.wr .op])])
 | 15=> ([(0,[]),(5,[]),(11,[]),(12,[]),(13,[])],[(.loc 10,[.wr .op])])
 | 16=> ([(0,[]),(5,[]),(8,[]),(11,[]),(12,[]),(13,[])],[(.loc 8,[]),(.loc 10,[.wr .op])])
 | 17=> ([(0,[]),(5,[]),(11,[]),(12,[]),(13,[])],[(.loc 10,[.wr .op])])
 | 18=> ([(0,[]),(5,[]),(11,[]),(12,[]),(13,[])],[(.loc 10,[.wr .op,.own .tree,.own .tree])])
 | 19=> ([(5,[])],[(.loc 10,[.wr .op])])
 | 20=> ([(4,[])],[])
 | _=> ([],[])
def Ye(list:Int)(l:List Op)(x13:Int)(rl_10_0:List Op)(ml10_1 ml10_2:List Tree):LSt U:=(⟨[(0,.c (ci list)),(5,.ptr (.loc 10) 0),(11,.c (sU .op l .unk)),(12,.c (ci (l.length:Int))),(13,.c (ci x13))],[(.loc 10,[.mref (.l 10 0),sU .tree ml10_1 (.own (.l 10 1)),sU .tree ml10_2 (.own (.l 10 2))])],[(.l 10 0,LC.mk (U:=U) .op rl_10_0 0)]⟩:LSt U)
abbrev W94(N:Nat)(list:Int)(l:List Op)(Q:QT):=AW (Z2 (Z35 N)) Try.f94 Zf9 [] (L2 [(0,.c (ci list)),(1,.c (sU .op l .unk))] []) Q
abbrev Zmz(N:Nat):=awp cfg (Z2 (Z35 N)) (Y0 cfg (Z2 (Z35 N))) Try.f94.ntmps Zf9
abbrev Zlq(N:Nat):=ZeA cfg (Z2 (Z35 N)) (Y0 cfg (Z2 (Z35 N))) Try.f94.ntmps Zf9
theorem ZxM(N:Nat)(list:Int)(l:List Op)(Q:QT)(h:Zj (AW (Z2 (Z35 N)) Try.f94 Zf9 [1,1,0,1,0,0]) (Ye list l 0 [] [] []) (xB 0 (SW (Z2 (Z35 N)) Try.f94 Zf9 [1,1,1] Q))):
  W94 N list l Q:=by
 have e_:(W94 N list l Q)=(Zj (Zmz N (cd Try.f94 [1,1,0,1,0,0])) (Ye list l 0 [] [] []) (xB 0 (Zlq N (cd Try.f94 [1,1,1]) Q))):=by kernel_rfl
 exact e_.mpr h
abbrev Zq2(N:Nat)(list:Int)(l:List Op)(x13:Int)(rl_10_0:List Op)(ml10_1 ml10_2:List Tree)(N0:NT)(Q:QT):=AW (Z2 (Z35 N)) Try.f94 Zf9 [1,1,0,1,0,0] (Ye list l x13 rl_10_0 ml10_1 ml10_2) (xT N0 (xB 0 (SW (Z2 (Z35 N)) Try.f94 Zf9 [1,1,1] Q)))
theorem Zqj(N:Nat)(list:Int)(l:List Op)(x13:Int)(rl_10_0:List Op)(ml10_1 ml10_2:List Tree)(N0:NT)(Q:QT)(h:∀ y_1,y_1=(l.getD x13.toNat Op.nil)→∀ y_2,y_2=(Edit.mk 0 (Tree.mk 0 [] []) (Tree.mk 0 [] []) [] [] 0 [])→∀ y_3,y_3=(Int.toNat (((Z1 (Wst.mk rl_10_0 ml10_1 ml10_2)).out).length:Int))→∀ y_4,y_4=(y_1.e)→∀ y_5,y_5=(ZA y_4)→((decide (x13 < (l.length:Int)))=true→((0:Int)≤x13∧x13 < (l.length:Int))∧(((y_1.kind==0)=true→(Z3W ((rl_10_0,ml10_1,ml10_2,()),y_1.n,()))∧((InR (x13+1))∧(N0 (Ye list l (x13+1) ((ZL (Wst.mk rl_10_0 ml10_1 ml10_2) y_1.n).out) ((ZL (Wst.mk rl_10_0 ml10_1 ml10_2) y_1.n).gone) ((ZL (Wst.mk rl_10_0 ml10_1 ml10_2) y_1.n).brought)))))∧((y_1.kind==0)=false→((y_1.kind==1)=true→(Z8X ((rl_10_0,ml10_1,ml10_2,()),y_1.l,()))∧((InR (x13+1))∧(N0 (Ye list l (x13+1) ((Wst.mk rl_10_0 (ml10_1++Z5 y_1.l) ml10_2).out) ((Wst.mk rl_10_0 (ml10_1++Z5 y_1.l) ml10_2).gone) ((Wst.mk rl_10_0 (ml10_1++Z5 y_1.l) ml10_2).brought)))))∧((y_1.kind==1)=false→((y_1.kind==2)=true→(Z5E ((rl_10_0,ml10_1,ml10_2,()),y_1.l,()))∧((InR (x13+1))∧(N0 (Ye list l (x13+1) ((Wst.mk rl_10_0 ml10_1 (ml10_2++Z5 y_1.l)).out) ((Wst.mk rl_10_0 ml10_1 (ml10_2++Z5 y_1.l)).gone) ((Wst.mk rl_10_0 ml10_1 (ml10_2++Z5 y_1.l)).brought)))))∧((y_1.kind==2)=false→((y_1.kind==3)=true→(Z0R (y_4,()))∧(Zc4 (y_4,()) < N)∧((Z5D (list,y_5,()))∧(((Z6j list y_5)=true→(Z3W ((rl_10_0,ml10_1,ml10_2,()),1,()))∧((InR (x13+1))∧(N0 (Ye list l (x13+1) ((ZL (Wst.mk rl_10_0 ml10_1 ml10_2) 1).out) ((ZL (Wst.mk rl_10_0 ml10_1 ml10_2) 1).gone) ((ZL (Wst.mk rl_10_0 ml10_1 ml10_2) 1).brought)))))∧((Z6j list y_5)=false→(Z1r ((rl_10_0,ml10_1,ml10_2,()),()))∧(((((Z1 (Wst.mk rl_10_0 ml10_1 ml10_2)).out).length+([(OpOf.mk 0 0 [] y_2:Op)]).length)*240≤140737488355328)∧((0:Int)≤(((Z1 (Wst.mk rl_10_0 ml10_1 ml10_2)).out).length:Int)∧(((Z1 (Wst.mk rl_10_0 ml10_1 ml10_2)).out).length:Int) < ((((Z1 (Wst.mk rl_10_0 ml10_1 ml10_2)).out)++([(OpOf.mk 0 0 [] y_2:Op)])).length:Int))∧((0:Nat)≤y_3)∧((InR (x13+1))∧(N0 (Ye list l (x13+1) (List.set (((Z1 (Wst.mk rl_10_0 ml10_1 ml10_2)).out)++([(OpOf.mk 0 0 [] y_2:Op)])) y_3 (OpOf.mk 3 0 [] y_5:Op)) ((Z1 (Wst.mk rl_10_0 ml10_1 ml10_2)).gone) ((Z1 (Wst.mk rl_10_0 ml10_1 ml10_2)).brought)))))))))∧((y_1.kind==3)=false→(InR (x13+1))∧(N0 (Ye list l (x13+1) rl_10_0 ml10_1 ml10_2))))))))∧((decide (x13 < (l.length:Int)))=false→(Z1r ((rl_10_0,ml10_1,ml10_2,()),()))∧(Q .ret (L2 [(4,.c (sU .op ((Z1 (Wst.mk rl_10_0 ml10_1 ml10_2)).out) (.own (.e 4 0))))] [])))):
  Zq2 N list l x13 rl_10_0 ml10_1 ml10_2 N0 Q:=by
 have e_:(Zq2 N list l x13 rl_10_0 ml10_1 ml10_2 N0 Q)=(let y_1:=(l.getD x13.toNat Op.nil);let y_2:=(Edit.mk 0 (Tree.mk 0 [] []) (Tree.mk 0 [] []) [] [] 0 []);let y_3:=(Int.toNat (((Z1 (Wst.mk rl_10_0 ml10_1 ml10_2)).out).length:Int));let y_4:=(Jr y_1.e);let y_5:=(Jr (ZA y_4));(((decide ((x13:Int) < (l.length:Int)))=true→((0:Int)≤x13∧x13 < (l.length:Int))∧(((y_1.kind==0)=true→(Z3W ((rl_10_0,ml10_1,ml10_2,()),y_1.n,()))∧((InR ((x13:Int)+1))∧(N0 (Ye list l ((x13:Int)+1) ((ZL (Wst.mk rl_10_0 ml10_1 ml10_2) y_1.n).out) ((ZL (Wst.mk rl_10_0 ml10_1 ml10_2) y_1.n).gone) ((ZL (Wst.mk rl_10_0 ml10_1 ml10_2) y_1.n).brought)))))∧((y_1.kind==0)=false→(((y_1.kind==1)=true→(Z8X ((rl_10_0,ml10_1,ml10_2,()),y_1.l,()))∧((InR ((x13:Int)+1))∧(N0 (Ye list l ((x13:Int)+1) ((Wst.mk rl_10_0 (ml10_1++Z5 y_1.l) ml10_2).out) ((Wst.mk rl_10_0 (ml10_1++Z5 y_1.l) ml10_2).gone) ((Wst.mk rl_10_0 (ml10_1++Z5 y_1.l) ml10_2).brought)))))∧((y_1.kind==1)=false→(((y_1.kind==2)=true→(Z5E ((rl_10_0,ml10_1,ml10_2,()),y_1.l,()))∧((InR ((x13:Int)+1))∧(N0 (Ye list l ((x13:Int)+1) ((Wst.mk rl_10_0 ml10_1 (ml10_2++Z5 y_1.l)).out) ((Wst.mk rl_10_0 ml10_1 (ml10_2++Z5 y_1.l)).gone) ((Wst.mk rl_10_0 ml10_1 (ml10_2++Z5 y_1.l)).brought)))))∧((y_1.kind==2)=false→(((y_1.kind==3)=true→(Z0R (y_4,()))∧(Zc4 (y_4,()) < N)∧((Z5D (list,y_5,()))∧(((Z6j list y_5)=true→(Z3W ((rl_10_0,ml10_1,ml10_2,()),1,()))∧((InR ((x13:Int)+1))∧(N0 (Ye list l ((x13:Int)+1) ((ZL (Wst.mk rl_10_0 ml10_1 ml10_2) 1).out) ((ZL (Wst.mk rl_10_0 ml10_1 ml10_2) 1).gone) ((ZL (Wst.mk rl_10_0 ml10_1 ml10_2) 1).brought)))))∧((Z6j list y_5)=false→(Z1r ((rl_10_0,ml10_1,ml10_2,()),()))∧(((((Z1 (Wst.mk rl_10_0 ml10_1 ml10_2)).out).length+([(OpOf.mk 0 0 [] y_2:Op)]).length)*240≤140737488355328)∧((0:Int)≤(((Z1 (Wst.mk rl_10_0 ml10_1 ml10_2)).out).length:Int)∧(((Z1 (Wst.mk rl_10_0 ml10_1 ml10_2)).out).length:Int) < ((((Z1 (Wst.mk rl_10_0 ml10_1 ml10_2)).out)++([(OpOf.mk 0 0 [] y_2:Op)])).length:Int))∧((0:Nat)≤y_3)∧((InR ((x13:Int)+1))∧(N0 (Ye list l ((x13:Int)+1) (List.set (((Z1 (Wst.mk rl_10_0 ml10_1 ml10_2)).out)++([(OpOf.mk 0 0 [] y_2:Op)])) y_3 (OpOf.mk 3 0 [] y_5:Op)) ((Z1 (Wst.mk rl_10_0 ml10_1 ml10_2)).gone) ((Z1 (Wst.mk rl_10_0 ml10_1 ml10_2)).brought)))))))))∧((y_1.kind==3)=false→(InR ((x13:Int)+1))∧(N0 (Ye list l ((x13:Int)+1) rl_10_0 ml10_1 ml10_2)))))))))))∧((decide ((x13:Int) < (l.length:Int)))=false→(Z1r ((rl_10_0,ml10_1,ml10_2,()),()))∧(Q .ret (L2 [(4,.c (sU .op ((Z1 (Wst.mk rl_10_0 ml10_1 ml10_2)).out) (.own (.e 4 0))))] []))))):=by kernel_rfl
 exact e_.mpr (by intro y_1 y_2 y_3 y_4 y_5;have hh:=h y_1 rfl y_2 rfl y_3 rfl y_4 (Z9 _) y_5 (Z9 _);exact ⟨fun c_5=> ⟨(hh.1 c_5).1,⟨fun c_6=> ⟨((hh.1 c_5).2.1 c_6).1,⟨((hh.1 c_5).2.1 c_6).2.1,((hh.1 c_5).2.1 c_6).2.2⟩⟩,fun c_6=> ⟨fun c_7=> ⟨(((hh.1 c_5).2.2 c_6).1 c_7).1,⟨(((hh.1 c_5).2.2 c_6).1 c_7).2.1,(((hh.1 c_5).2.2 c_6).1 c_7).2.2⟩⟩,fun c_7=> ⟨fun c_8=> ⟨((((hh.1 c_5).2.2 c_6).2 c_7).1 c_8).1,⟨((((hh.1 c_5).2.2 c_6).2 c_7).1 c_8).2.1,((((hh.1 c_5).2.2 c_6).2 c_7).1 c_8).2.2⟩⟩,fun c_8=> ⟨fun c_9=> ⟨(((((hh.1 c_5).2.2 c_6).2 c_7).2 c_8).1 c_9).1,(((((hh.1 c_5).2.2 c_6).2 c_7).2 c_8).1 c_9).2.1,⟨(((((hh.1 c_5).2.2 c_6).2 c_7).2 c_8).1 c_9).2.2.1,⟨fun c_10=> ⟨((((((hh.1 c_5).2.2 c_6).2 c_7).2 c_8).1 c_9).2.2.2.1 c_10).1,⟨((((((hh.1 c_5).2.2 c_6).2 c_7).2 c_8).1 c_9).2.2.2.1 c_10).2.1,((((((hh.1 c_5).2.2 c_6).2 c_7).2 c_8).1 c_9).2.2.2.1 c_10).2.2⟩⟩,fun c_10=> ⟨((((((hh.1 c_5).2.2 c_6).2 c_7).2 c_8).1 c_9).2.2.2.2 c_10).1,⟨((((((hh.1 c_5).2.2 c_6).2 c_7).2 c_8).1 c_9).2.2.2.2 c_10).2.1,((((((hh.1 c_5).2.2 c_6).2 c_7).2 c_8).1 c_9).2.2.2.2 c_10).2.2.1,((((((hh.1 c_5).2.2 c_6).2 c_7).2 c_8).1 c_9).2.2.2.2 c_10).2.2.2.1,⟨((((((hh.1 c_5).2.2 c_6).2 c_7).2 c_8).1 c_9).2.2.2.2 c_10).2.2.2.2.1,((((((hh.1 c_5).2.2 c_6).2 c_7).2 c_8).1 c_9).2.2.2.2 c_10).2.2.2.2.2⟩⟩⟩⟩⟩⟩,fun c_9=> ⟨(((((hh.1 c_5).2.2 c_6).2 c_7).2 c_8).2 c_9).1,(((((hh.1 c_5).2.2 c_6).2 c_7).2 c_8).2 c_9).2⟩⟩⟩⟩⟩⟩,fun c_5=> ⟨(hh.2 c_5).1,(hh.2 c_5).2⟩⟩)
def ZvI(N:Nat)(list:Int)(l:List Op):Prop:=AW (Z2 (Z35 N)) Try.f94 Zf9 [] (Zo (ZfA.can (list,l,())) []) (EQ Try.f94 (Zgn (list,l,())) [])
abbrev ZxB:Prop:=∀ (N:Nat) (list:Int) (l:List Op) (_:Unit),Z9L (list,l,())→ZgN (list,l,()) < N+1→ZvI N list l
theorem Zm0(c71:CT 71 Z0c)(Zpy:CT 128 Z3c)(Zvj:CT 126 Z5p)(Zmq:CT 129 Z1D)(Zpv:CT 127 Z4u)(ha:ZxG)(hb:ZxB):CT 57 Z0s∧CT 94 Znj:=
 Z1d (μA:=Zc4) (μB:=ZgN) (l:=[(71,Z0c),(128,Z3c),(126,Z5p),(129,Z1D),(127,Z4u)]) Zr rfl (⟨c71,Zpy,Zvj,Zmq,Zpv,trivial⟩) Zfa Zf9 Try.func57 Try.func94 rfl rfl rfl rfl 1 2 (fun _=> rfl) (fun _=> rfl) (by decide) (by decide) (fun N ⟨e,_⟩=> ha N e ()) (fun N ⟨list,l,_⟩=> hb N list l ())
end
end
end Go.AM.Ytpjenobkibfpcaa
namespace Go.AM.Ytpjenobkibfpcaa
open Go.AM Go.Proofs
theorem Zm9(s:Wst)(n:Int):(ZL s n).out.length≤s.out.length+3:=by
 have h:=Z9k s
 simp only [ZL]
 rw [Z7Z]
 split
 ·rw [List.length_set];omega
 ·rw [List.length_append];simp;omega
theorem ZrY{s:Wst}{n B K:Int}(hB:0≤B)(hn:0≤n∧n≤K)(h:∀ o∈s.out,0≤o.n∧o.n≤B):∀ o∈(ZL s n).out,0≤o.n∧o.n≤B+K:=by
 have hF:∀ o∈(Z1 s).out,0≤o.n∧o.n≤B:=by
  intro o ho
  rcases Z9j s o ho with h1 | h1
  ·exact h o h1
  ·omega
 intro o ho
 simp only [ZL] at ho
 rw [Z7Z] at ho
 split at ho
 ·rename_i hc
  rcases List.mem_or_eq_of_mem_set ho with ho | rfl
  ·have:=hF o ho;omega
  ·have:=hF _ (Zh (l:=(Z1 s).out) (i:=(Z1 s).out.length - 1) (by omega) Op.nil)
   simp only;omega
 ·rcases List.mem_append.1 ho with ho | ho
  ·have:=hF o ho;omega
  ·simp only [List.mem_singleton] at ho;subst ho;simp only;omega
theorem ZbX:∀ (l:List Kid),(Jj l).length=l.length
 | []=> rfl
 | k ::r=> by simp [Jj,ZbX r]
theorem Zie(e:Edit):(ZA e).words.length≤e.words.length∧(ZA e).kids.length≤e.kids.length:=by
 rw [Z41]
 split
 ·simp
 ·split
  ·simp [ZbX]
  ·split <;> simp
theorem ZeD{list:Int}{o:Op}{d:Int}(h:Z7 list o d=true)(hk:o.kind=0):1≤o.n∧o.n≤1048576:=by
 obtain ⟨k,n,l,e⟩:=o
 simp only at hk
 subst hk
 simp [Z7] at h
 show 1≤n∧n≤1048576
 omega
theorem ZeE{list:Int}{o:Op}{d:Int}(h:Z7 list o d=true)(hk:o.kind=3):Z4 o.e d=true:=by
 obtain ⟨k,n,l,e⟩:=o
 simp only at hk
 subst hk
 simp [Z7] at h
 exact h.2.1.2
theorem Zm6{e:Edit}{d:Int}(h:Z4 e d=true)(hk:e.kind=2):∀ k∈e.kids,∃ d,Z4 k.e d=true:=by
 obtain ⟨k,o,n,w,ks,l,os⟩:=e
 change k=2 at hk
 subst hk
 have hks:∃ d last,Zu last ks d=true:=by
  unfold Z4 at h
  split at h
  ·cases h
  ·split at h
   ·cases h
   ·rw [if_neg (by omega)] at h
    simp only [Bool.and_eq_true] at h
    exact ⟨_,_,h.1.1.1.2⟩
 obtain ⟨d',last,hks⟩:=hks
 change ∀ k∈ks,_
 clear h
 induction ks generalizing last with
 | nil=> intro k hk;cases hk
 | cons a r ih=>
  simp only [Zu,Bool.and_eq_true] at hks
  intro k hk
  rcases List.mem_cons.1 hk with rfl | hk
  ·obtain ⟨a,e⟩:=k
   simp only [Yx,Bool.and_eq_true] at hks
   exact ⟨_,hks.1.2⟩
  ·exact ih _ hks.2 k hk
theorem Zoj{e:Edit}{d:Int}(h:Z4 e d=true)(hk:e.kind=3):∀ o∈e.ops,∃ d,Z7 e.list o d=true:=by
 obtain ⟨k,o,n,w,ks,l,os⟩:=e
 change k=3 at hk
 subst hk
 have hos:∃ d,Zq l os d=true:=by
  unfold Z4 at h
  split at h
  ·cases h
  ·split at h
   ·cases h
   ·rw [if_neg (by omega)] at h
    simp only [Bool.and_eq_true] at h
    exact ⟨_,h.1.2⟩
 obtain ⟨d',hos⟩:=hos
 change ∀ o∈os,∃ d,Z7 l o d=true
 clear h
 induction os with
 | nil=> intro k hk;cases hk
 | cons a r ih=>
  simp only [Zq,Bool.and_eq_true] at hos
  intro k hk
  rcases List.mem_cons.1 hk with rfl | hk
  ·exact ⟨_,hos.1⟩
  ·exact ih hos.2 k hk
theorem b94:ZxB:=by
 intro N list l _ hp hN
 simp only [Z9L,ZgN] at hp hN
 obtain ⟨p1,p3⟩:=hp
 have hl:=Y9 l
 refine ZxM _ _ _ _ ?_
 refine Zb (ι:=Int × Wst) (fun s=> Ye list l s.1 s.2.out s.2.gone s.2.brought)
  (fun s=> 0≤s.1∧s.1≤l.length∧ZY list (l.drop s.1.toNat) s.2=ZY list l ⟨[],[],[]⟩∧s.2.out.length≤3*s.1∧s.2.gone.length+s.2.brought.length+Zc (l.drop s.1.toNat)≤Zc l∧∀ o∈s.2.out,0≤o.n∧o.n≤s.1*1048576)
  (fun s=> ((l.length:Int) - s.1).toNat) (0,⟨[],[],[]⟩) rfl ⟨by simp,by simp,by simp,by simp,by simp,by simp⟩ ?_
 rintro ⟨i,s⟩ ⟨g1,g2,g3,g4,g5,g6⟩
 dsimp only at g1 g2 g3 g4 g5 g6
 refine Zqj _ _ _ _ _ _ _ _ _ ?_
 rintro y1 hy1 y2 hy2 y3 hy3 y4 hy4 y5 hy5
 have hy:y2=Edit.nil:=hy2
 subst hy
 have es:Wst.mk s.out s.gone s.brought=s:=rfl
 simp only [es] at hy3 ⊢
 (simp only [vcS])
 refine ⟨fun hi=> ?_,fun hi=> ?_⟩
 ·have hmem:=Zh (l:=l) (i:=i.toNat) (by omega) Op.nil
  have hm:=Yv hmem
  have hr:=p3 _ hmem
  rw [Ys g1 hi Op.nil] at g3 g5
  rw [←hy1] at g3 g5 hm hr
  have hmo:=ZZ y1
  simp only [ZY,Z1j,Zc] at g3 g5
  rw [←hy4,←hy5] at g3
  obtain ⟨d,hr2⟩:=hr
  have hfl:=Z9k s
  have hP:∀ n:Int,0≤n∧n≤1048576→Z3W ((s.out,s.gone,s.brought,()),n,()):=by
   intro n hn
   simp only [Z3W]
   refine ⟨by omega,by omega,by omega,fun o ho=> ?_,by omega,by omega⟩
   have:=g6 o ho
   constructor
   ·omega
   ·have:i*1048576≤20000000000*1048576:=by omega
    omega
  have hK:∀ n:Int,0≤n∧n≤1048576→ZY list (l.drop (i+1).toNat) (ZL s n)=ZY list l ⟨[],[],[]⟩→
    (∃ j:Int × Wst,Ye list l (i+1) (ZL s n).out (ZL s n).gone (ZL s n).brought=Ye list l j.1 j.2.out j.2.gone j.2.brought∧(0≤j.1∧j.1≤l.length∧ZY list (l.drop j.1.toNat) j.2=ZY list l ⟨[],[],[]⟩∧j.2.out.length≤3*j.1∧j.2.gone.length+j.2.brought.length+Zc (l.drop j.1.toNat)≤Zc l∧∀ o∈j.2.out,0≤o.n∧o.n≤j.1*1048576)∧((l.length:Int) - j.1).toNat < ((l.length:Int) - i).toNat):=by
   intro n hn he
   have h1:=Zm9 s n
   have h2:=ZrY (s:=s) (n:=n) (B:=i*1048576) (K:=1048576) (by omega) hn g6
   refine ⟨(i+1,ZL s n),rfl,⟨by dsimp only;omega,by dsimp only;omega,he,by dsimp only;omega,by simp only [ZL,List.length_nil];omega,fun o ho=> ?_⟩,by dsimp only;omega⟩
   have:=h2 o ho
   dsimp only
   omega
  refine ⟨⟨g1,hi⟩,fun hk=> ?_,fun hk=> ⟨fun hk1=> ?_,fun hk1=> ⟨fun hk2=> ?_,fun hk2=> ⟨fun hk3=> ?_,fun hk3=> ?_⟩⟩⟩⟩
  ·rw [if_pos hk] at g3
   have h1:=ZeD hr2 hk
   exact ⟨hP _ (by omega),by unfold InR;omega,hK _ (by omega) g3⟩
  ·rw [if_neg hk,if_pos hk1] at g3
   refine ⟨by simp only [Z8X];omega,by unfold InR;omega,(i+1,⟨s.out,s.gone++Z5 y1.l,s.brought⟩),rfl,⟨by dsimp only;omega,by dsimp only;omega,g3,by dsimp only;omega,?_,fun o ho=> ?_⟩,by dsimp only;omega⟩
   ·have:=ZD y1.l
    simp only [List.length_append,Z5,List.length_map];omega
   ·have:=g6 o ho
    dsimp only;omega
  ·rw [if_neg hk,if_neg hk1,if_pos hk2] at g3
   refine ⟨by simp only [Z5E];omega,by unfold InR;omega,(i+1,⟨s.out,s.gone,s.brought++Z5 y1.l⟩),rfl,⟨by dsimp only;omega,by dsimp only;omega,g3,by dsimp only;omega,?_,fun o ho=> ?_⟩,by dsimp only;omega⟩
   ·have:=ZD y1.l
    simp only [List.length_append,Z5,List.length_map];omega
   ·have:=g6 o ho
    dsimp only;omega
  ·rw [if_neg hk,if_neg hk1,if_neg hk2,if_pos hk3] at g3
   have hre:=ZeE hr2 hk3
   rw [←hy4] at hre
   have hw:=Zie y4
   rw [←hy5] at hw
   have h1:=YI y4
   have h2:=Yw y4.kids
   have hmE:Z6 y4≤Zn y1:=by rw [hmo,hy4];omega
   refine ⟨by simp only [Z0R];exact ⟨by omega,d,hre⟩,by simp only [Zc4];omega,by simp only [Z5D];omega,fun hq=> ?_,fun hq=> ?_⟩
   ·rw [if_pos hq] at g3
    exact ⟨hP 1 (by omega),by unfold InR;omega,hK 1 (by omega) g3⟩
   ·rw [if_neg (by rw [hq];simp)] at g3
    rw [hy3,Z29]
    refine ⟨by simp only [Z1r];omega,by simp only [List.length_cons,List.length_nil];omega,by simp only [List.length_append,List.length_cons,List.length_nil];omega,by omega,by unfold InR;omega,(i+1,⟨(Z1 s).out++[⟨3,0,[],y5⟩],[],[]⟩),rfl,⟨by dsimp only;omega,by dsimp only;omega,g3,by simp;omega,by simp;omega,fun o ho=> ?_⟩,by dsimp only;omega⟩
    dsimp only at ho ⊢
    rcases List.mem_append.1 ho with ho | ho
    ·rcases Z9j s o ho with h5 | h5
     ·have:=g6 o h5;omega
     ·omega
    ·simp only [List.mem_singleton] at ho
     subst ho
     simp only;omega
  ·rw [if_neg hk,if_neg hk1,if_neg hk2,if_neg hk3] at g3
   refine ⟨by unfold InR;omega,(i+1,s),rfl,⟨by dsimp only;omega,by dsimp only;omega,g3,by dsimp only;omega,by dsimp only;omega,fun o ho=> ?_⟩,by dsimp only;omega⟩
   have:=g6 o ho
   dsimp only;omega
 ·rw [List.drop_of_length_le (by omega)] at g3
  simp only [ZY] at g3
  refine ⟨by simp only [Z1r];omega,?_⟩
  simp only [Zgn]
  rw [←g3]
  (repeat' (first | exact trivial | exact rfl | apply And.intro))
theorem b57:ZxG:=by
 intro N e _ hp hN
 simp only [Z0R,Zc4] at hp hN
 obtain ⟨p1,d,p3⟩:=hp
 have h1:=YI e
 have h2:=Yw e.kids
 have h3:=Y9 e.ops
 have ha:=Z41 e
 refine Zy8 _ _ _ ?_
 (simp only [vcS])
 (simp only [Tree.eta,Edit.eta,Tree.kind_mk,Tree.words_mk,Tree.kids_mk])
 refine ⟨fun hk=> ⟨by simp only [Z0Q];omega,by simp only [Z0Q];omega,?_⟩,fun hk=> ⟨fun hk2=> ⟨by simp;omega,?_⟩,fun hk2=> ⟨fun hk3=> ⟨?_,by simp only [ZgN];omega,?_⟩,fun hk3=> ?_⟩⟩⟩
 ·rw [if_pos hk] at ha
  simp only [Z9K,ha]
  (repeat' (first | exact trivial | exact rfl | apply And.intro))
 ·rw [if_neg hk,if_pos hk2] at ha
  refine Zb (ι:=Int × List Kid) (fun s=> Z3r e s.1 s.2) (fun s=> 0≤s.1∧s.1≤e.kids.length∧s.2.length=s.1∧s.2++Jj (e.kids.drop s.1.toNat)=Jj e.kids) (fun s=> ((e.kids.length:Int) - s.1).toNat) (0,[]) rfl ⟨by simp,by simp,by simp,by simp⟩ ?_
  rintro ⟨j,ks⟩ ⟨f1,f2,f3,f4⟩
  dsimp only at f1 f2 f3 f4
  refine ZqI _ _ _ _ _ _ ?_
  rintro y1 hy1 y2 hy2 y3 hy3
  (simp only [vcS])
  refine ⟨fun hj=> ?_,fun hj=> ?_⟩
  ·have hmem:=Zh (l:=e.kids) (i:=j.toNat) (by omega) (KidOf.mk 0 Edit.nil)
   have hm:=JJ hmem
   have hr:=Zm6 p3 hk2 _ hmem
   rw [Ys f1 hj (KidOf.mk 0 Edit.nil)] at f4
   rw [←hy1] at f4 hm hr
   simp only [Jj,ZdN] at f4
   rw [←hy2] at f4 hm hr
   rw [←hy3] at f4
   refine ⟨⟨f1,hj⟩,by simp only [Z0R];exact ⟨by omega,hr⟩,by simp only [Zc4];omega,by simp;omega,by unfold InR;omega,(j+1,ks++[⟨y1.at_,y3⟩]),rfl,⟨by dsimp only;omega,by dsimp only;omega,by simp;omega,?_⟩,by dsimp only;omega⟩
   simp only [List.append_assoc,List.cons_append,List.nil_append]
   exact f4
  ·rw [List.drop_of_length_le (by omega)] at f4
   simp only [Jj,List.append_nil] at f4
   rw [f4]
   simp only [Z9K,ha]
   (repeat' (first | exact trivial | exact rfl | apply And.intro))
 ·simp only [Z9L]
  exact ⟨by omega,fun o ho=> Zoj p3 hk3 o ho⟩
 ·rw [if_neg hk,if_neg hk2,if_pos hk3] at ha
  simp only [Z9K,ha]
  (repeat' (first | exact trivial | exact rfl | apply And.intro))
 ·rw [if_neg hk,if_neg hk2,if_neg hk3] at ha
  simp only [Z9K,ha]
  (repeat' (first | exact trivial | exact rfl | apply And.intro))
theorem Zfx:Contract Try.prog cfg 57 Z0s∧Contract Try.prog cfg 94 Znj:=Zm0 c71 Zpy Zvj Zmq Zpv b57 b94
end Go.AM.Ytpjenobkibfpcaa
namespace Go.AM.Ytpjenobkibfpcaa
open Go.AM Go.Proofs
noncomputable section
def ZpH:ArgL (Edit × Unit):=(.cons (aEl .edit) .nil)
def ZdJ(a:Edit × Unit):Prop:=Z6 a.1≤20000000000∧∃ d,Z4 a.1 d=true
def ZnA(a:Edit × Unit):V U:= .agg (enc .edit (ZA (ZM a.1)))
def Z3M:Fs U:=fs ZpH (fun a=> [ZdJ a]) ZnA
def Zp4:List (FuncId × Fs U):=[(57,Z0s),(118,Z7d)]
def ZuG:Zg U:=lvl [([1,2],[1,2]),([2],[2])]
abbrev W83(e:Edit)(Q:QT):=AW (Z2 Zp4) Try.f83 ZuG [] (L2 [(0,.agg (enc .edit e))] []) Q
theorem ZxT(e:Edit)(Q:QT)(h:∀ y_1,y_1=e→∀ y_2,y_2=(ZM y_1)→(Z0y (y_1,()))∧(Z0R (y_2,()))∧(Q .ret (L2 [(2,.ptr (.loc 2) 0)] [(.loc 2,(enc .edit (ZA y_2)))]))):
  W83 e Q:=by
 have e_:(W83 e Q)=(let y_1:=(Jr e);let y_2:=(Jr (ZM y_1));((Z0y (y_1,()))∧(Z0R (y_2,()))∧(Q .ret (L2 [(2,.ptr (.loc 2) 0)] [(.loc 2,(enc .edit (ZA y_2)))])))):=by kernel_rfl
 exact e_.mpr (by intro y_1 y_2;have hh:=h y_1 (Z9 _) y_2 (Z9 _);exact ⟨hh.1,hh.2.1,hh.2.2⟩)
def ZvP(e:Edit):Prop:=AW (Z2 Zp4) Try.f83 ZuG [] (Zo (ZpH.can (e,())) []) (EQ Try.f83 (ZnA (e,())) [])
theorem Zub(c57:CT 57 Z0s)(c118:CT 118 Z7d)(hb:∀ (e:Edit) (_:Unit),ZdJ (e,())→ZvP e):CT 83 Z3M:=
 Z8 (l:=[(57,Z0s),(118,Z7d)]) Zr rfl (⟨c57,c118,trivial⟩) ZuG Try.func83 rfl rfl 1 (fun _=> rfl) (by decide) (fun ⟨e,_⟩=> hb e ())
end
end Go.AM.Ytpjenobkibfpcaa
namespace Go.AM.Ytpjenobkibfpcaa
open Go.AM Go.Proofs
mutual
theorem Z6Q:∀ (e:Edit),Z6 (ZM e)=Z6 e
 | .mk k o n w ks l os=> by
  have h1:=Za0 ks
  have h2:=Z9Z os
  simp only [ZM,Z6,List.length_map,Z6o,h1,h2]
  omega
theorem Za0:∀ (ks:List (KidOf Edit)),Zi (Jy ks)=Zi ks
 | []=> rfl
 | k ::r=> by
  have h1:=Zf8 k
  have h2:=Za0 r
  simp only [Jy,Zi,h1,h2]
theorem Zf8:∀ (k:KidOf Edit),ZO (Z19 k)=ZO k
 | ⟨a,e⟩=> by
  have h:=Z6Q e
  simp only [Z19,ZO,h]
theorem Z9Z:∀ (os:List (OpOf Edit)),Zc (J5 os)=Zc os
 | []=> rfl
 | o ::r=> by
  have h1:=ZgU o
  have h2:=Z9Z r
  simp only [J5,Zc,h1,h2]
theorem ZgU:∀ (o:OpOf Edit),Zn (YJ o)=Zn o
 | ⟨k,n,l,e⟩=> by
  have h:=Z6Q e
  simp only [YJ]
  split
  ·try rfl
  ·split
   ·try rfl
   ·split
    ·simp only [Zn,h]
    ·try rfl
end
theorem c83:Contract Try.prog cfg 83 Z3M:=by
 refine Zub Zfx.1 Zpx.1 ?_
 intro e _ hp
 simp only [ZdJ] at hp
 obtain ⟨hm,d,hr⟩:=hp
 refine ZxT _ _ ?_
 rintro y1 hy1 y2 hy2
 subst hy1
 have h1:=Z6Q y1
 have h2:=JD _ _ hr
 rw [←hy2] at h1 h2
 refine ⟨by simp only [Z0y];omega,by simp only [Z0R];exact ⟨by omega,d,h2⟩,?_⟩
 simp only [ZnA]
 rw [←hy2]
 (repeat' (first | exact trivial | exact rfl | apply And.intro))
end Go.AM.Ytpjenobkibfpcaa
namespace Go.AM.Ytpjenobkibfpcaa
open Go.AM Go.Proofs
noncomputable section
def ZpX:ArgL (WEdit × WEdit × Unit):=(.cons (aEl .wedit) (.cons (aEl .wedit) .nil))
def Zoa(a:WEdit × WEdit × Unit):Prop:=Z2w a.1∧Z2w a.2.1
def ZjG(a:WEdit × WEdit × Unit):V U:= .tup [(true,(enc .wedit ((JQ a.1 a.2.1).1))),(false,[.bool ((JQ a.1 a.2.1).2)])]
def Zbj:Fs U:=fs ZpX (fun a=> [Zoa a]) ZjG
def ZkU:ArgL (WEdit × Unit):=(.cons (aEl .wedit) .nil)
def Z8W(a:WEdit × Unit):Prop:=True
def ZnO(a:WEdit × Unit):V U:= .c (ci a.1.at_)
def Z7b:Fs U:=fs ZkU (fun a=> [Z8W a]) ZnO
def ZkT:ArgL (Kid × Unit):=(.cons (aEl .kid) .nil)
def Z8V(a:Kid × Unit):Prop:=True
def ZnN(a:Kid × Unit):V U:= .c (ci a.1.at_)
def Z1C:Fs U:=fs ZkT (fun a=> [Z8V a]) ZnN
def ZkV:ArgL (List WEdit × List WEdit × Unit × Unit × Unit):=(.cons (aSl .wedit) (.cons (aSl .wedit) (.cons (aFn 131) (.cons (aFn 24) .nil))))
def Zi9(a:List WEdit × List WEdit × Unit × Unit × Unit):Prop:=((∀ x∈a.1,Z2w x)∧(a.1).length≤1000000)∧(∀ x∈a.2.1,Z2w x)∧(a.2.1).length≤1000000
def ZeO(a:List WEdit × List WEdit × Unit × Unit × Unit):V U:= .tup [(false,[sU .wedit (ofO (Zm WEdit.at_ JQ a.1 a.2.1)) .unk]),(false,[.bool ((Zm WEdit.at_ JQ a.1 a.2.1).isSome)])]
def Z7c:Fs U:=fs ZkV (fun a=> [Zi9 a]) ZeO
def ZpC:ArgL (List WEdit × List WEdit × Unit):=(.cons (aSl .wedit) (.cons (aSl .wedit) .nil))
def Zo6(a:List WEdit × List WEdit × Unit):Prop:=((∀ x∈a.1,Z2w x)∧(a.1).length≤1000000)∧(∀ x∈a.2.1,Z2w x)∧(a.2.1).length≤1000000
def ZsY(a:List WEdit × List WEdit × Unit):V U:= .tup [(false,[sU .wedit (ofO (Zm WEdit.at_ JQ a.1 a.2.1)) .unk]),(false,[.bool ((Zm WEdit.at_ JQ a.1 a.2.1).isSome)])]
def Z3K:Fs U:=fs ZpC (fun a=> [Zo6 a]) ZsY
def Zpe:List (FuncId × Fs U):=[(66,Z3N)]
def ZuS:Zg U:=lvl [([2,3,4],[2,3,4]),([2,3,4,6],[2,3,4]),([2,3,4,20],[2,3,4]),([4,5],[4]),([4,5],[4])]
abbrev A24(p:List Nat):=AW (Z2 Zpe) Try.f24 ZuS p
theorem Zyk(p q:WEdit)(Q:QT)(h:let z1:=IntKind.bits .u8;let z0:=IntKind.wrap .u8 (BitVec.ofInt z1 p.mask &&& BitVec.ofInt z1 q.mask).toNat;let z2:=((mix 0 p.new z0):Int) !=(mix 0 q.old z0);((Z4E (0,p.new,z0,()))∧(Z4E (0,q.old,z0,()))∧((z2=true→(Q .ret (L2 [(4,.ptr (.loc 4) 0),(5,.c (.bool false))] [(.loc 4,[ci 0,.int .u8 0,.int .u64 0,.int .u64 0])])))∧(z2=false→(Z4E (q.old,p.old,p.mask,()))∧(Z4E (p.new,q.new,q.mask,()))∧(Q .ret (L2 [(4,.ptr (.loc 4) 0),(5,.c (.bool true))] [(.loc 4,[ci p.at_,.int .u8 (IntKind.wrap .u8 (BitVec.ofInt z1 p.mask ||| BitVec.ofInt z1 q.mask).toNat),.int .u64 (mix q.old p.old p.mask),.int .u64 (mix p.new q.new q.mask)])])))))):
  A24 [] (L2 [(0,.agg (enc .wedit p)),(1,.agg (enc .wedit q))] []) Q:=
 Eq.mpr (by kernel_rfl) h
def Zwg(p q:WEdit):Prop:=AW (Z2 Zpe) Try.f24 ZuS [] (Zo (ZpX.can (p,q,())) []) (EQ Try.f24 (ZjG (p,q,())) [])
theorem Zuy(c66:CT 66 Z3N)(hb:∀ (p:WEdit) (q:WEdit) (_:Unit),Zoa (p,q,())→Zwg p q):CT 24 Zbj:=
 Z8 (l:=[(66,Z3N)]) Zr rfl (⟨c66,trivial⟩) ZuS Try.func24 rfl rfl 2 (fun _=> rfl) (by decide) (fun ⟨p,q,_⟩=> hb p q ())
def Zkx:List (FuncId × Fs U):=[]
def ZoN:Zg U:=lvl [([1],[1]),([2],[])]
abbrev ZyJ(p:List Nat):=AW (Z2 Zkx) Try.f131 ZoN p
theorem ZwN(w:WEdit)(Q:QT)(h:(Q .ret (L2 [(2,.c (ci w.at_))] []))):
  ZyJ [] (L2 [(0,.agg (enc .wedit w))] []) Q:=
 Eq.mpr (by kernel_rfl) h
def ZsE(w:WEdit):Prop:=AW (Z2 Zkx) Try.f131 ZoN [] (Zo (ZkU.can (w,())) []) (EQ Try.f131 (ZnO (w,())) [])
theorem Zrs(hb:∀ (w:WEdit) (_:Unit),Z8W (w,())→ZsE w):CT 131 Z7b:=
 Z8 (l:=[]) Zr rfl trivial ZoN Try.func131 rfl rfl 1 (fun _=> rfl) (by decide) (fun ⟨w,_⟩=> hb w ())
def Zkw:List (FuncId × Fs U):=[]
def ZoM:Zg U:=lvl [([1],[1]),([2],[])]
abbrev ZyI(p:List Nat):=AW (Z2 Zkw) Try.f133 ZoM p
theorem ZwL(k:Kid)(Q:QT)(h:(Q .ret (L2 [(2,.c (ci k.at_))] []))):
  ZyI [] (L2 [(0,.agg (enc .kid k))] []) Q:=
 Eq.mpr (by kernel_rfl) h
def ZsC(k:Kid):Prop:=AW (Z2 Zkw) Try.f133 ZoM [] (Zo (ZkT.can (k,())) []) (EQ Try.f133 (ZnN (k,())) [])
theorem Zrr(hb:∀ (k:Kid) (_:Unit),Z8V (k,())→ZsC k):CT 133 Z1C:=
 Z8 (l:=[]) Zr rfl trivial ZoM Try.func133 rfl rfl 1 (fun _=> rfl) (by decide) (fun ⟨k,_⟩=> hb k ())
def Zff:List (FuncId × Fs U):=[(131,Z7b),(24,Zbj)]
def Zka:Zg U:=fun i=> match i with
 | 0=> ([(0,[]),(1,[]),(2,[]),(3,[])],[])
 | 1=> ([(0,[]),(1,[]),(2,[]),(3,[]),(10,[.own .wedit])],[])
 | 2=> ([(0,[]),(1,[]),(2,[]),(3,[]),(10,[]),(20,[])],[])
 | 3=> ([(0,[]),(1,[]),(2,[]),(3,[]),(10,[]),(11,[]),(12,[])],[(.loc 11,[])])
 | 4=> ([(0,[]),(1,[]),(2,[]),(3,[]),(10,[]),(11,[]),(33,[])],[(.loc 11,[])])
 | 5=> ([(8,[]),(9,[])],[])
 | 6=> ([(0,[]),(1,[]),(2,[]),(3,[]),(10,[.own .wedit])],[])
 | 7=> ([(0,[]),(1,[]),(2,[]),(3,[]),(10,[]),(42,[])],[])
 | 8=> ([(0,[]),(1,[]),(2,[]),(3,[]),(10,[.own .wedit])],[])
 | 9=> ([(0,[]),(1,[]),(2,[]),(3,[]),(10,[]),(72,[])],[])
 | 10=> ([(0,[]),(1,[]),(2,[]),(3,[]),(10,[.own .wedit])],[])
 | 11=> ([(8,[]),(9,[])],[])
 | _=> ([],[])
def Z20(p q:List WEdit)(at_ one:Unit)(x0 x1 x10:List WEdit):LSt U:=(L2 [(0,.c (sU .wedit x0 .unk)),(1,.c (sU .wedit x1 .unk)),(2,.fn 131),(3,.fn 24),(10,.c (sU .wedit x10 (.own (.e 10 0))))] [])
abbrev Zwp(p:List Nat):=AW (Z2 Zff) Try.f130 Zka p
abbrev Zxx(p:List Nat):=SW (Z2 Zff) Try.f130 Zka p
theorem ZwO(p q:List WEdit)(at_ one:Unit)(Q:QT)(h:(Zj (Zwp [1,1,0,0,0]) (Z20 p q at_ one p q []) (xB 0 (Zxx [1,1,1] Q)))):
  Zwp [] (L2 [(0,.c (sU .wedit p .unk)),(1,.c (sU .wedit q .unk)),(2,.fn 131),(3,.fn 24)] []) Q:=
 Eq.mpr (by kernel_rfl) h
theorem ZmV(p q:List WEdit)(at_ one:Unit)(x0 x1 x10:List WEdit)(N0:NT)(Q:QT)(h:∀ y_1,y_1=(List.getD x0 (Int.toNat 0) (WEdit.mk 0 0 0 0))→∀ y_2,y_2=(List.getD x1 (Int.toNat 0) (WEdit.mk 0 0 0 0))→∀ y_3,y_3=y_1→∀ y_4,y_4=y_2→∀ y_5,y_5=((JQ y_3 y_4).1)→let z3:=((x1.length:Int):Int)==0;let z2:=decide ((0:Int) < (x0.length:Int));let z5:=bif z2 then true else (decide ((0:Int) < (x1.length:Int)));let z4:=bif z3 then true else (bif z2 then (decide (y_3.at_ < y_4.at_)) else false);let z1:=((x0.length:Int):Int)==0;let z6:=bif z1 then true else (decide (y_4.at_ < y_3.at_));let z0:=(!z3) && z2;(Tr ((!z2)=true))∧(Tr ((!z2)=true))∧(z2=false→(!z2)=true)∧((z5=true→(Tr ((!z3)=true))∧(Tr ((!z3)=true))∧(Tr ((!z3)=true))∧(Tr (z0=true))∧(z0=true→(0:Int)≤0∧0 < (x0.length:Int))∧(Tr (z0=true))∧(Tr (z0=true))∧(Tr (z0=true))∧(z0=true→Z8W (y_3,()))∧(Tr (z0=true))∧(z0=true→(0:Int)≤0∧0 < (x1.length:Int))∧(Tr (z0=true))∧(Tr (z0=true))∧(Tr (z0=true))∧(z0=true→Z8W (y_4,()))∧(Tr (z0=true))∧(Tr (z0=true))∧((!z3)=true→(True→(!z3)=true))∧((!z3)=true→(z2=true→z0=true))∧(z3=false→(!z3)=true)∧((z4=true→((0:Int)≤0∧0 < (x0.length:Int))∧((x10.length+([y_3]).length)*32≤140737488355328)∧((0:Int)≤1∧1≤(x0.length:Int))∧(N0 (Z20 p q at_ one (List.drop (Int.toNat 1) x0) x1 (x10++([y_3])))))∧(z4=false→(Tr ((!z1)=true))∧((!z1)=true→(0:Int)≤0∧0 < (x1.length:Int))∧(Tr ((!z1)=true))∧(Tr ((!z1)=true))∧(Tr ((!z1)=true))∧((!z1)=true→Z8W (y_4,()))∧(Tr ((!z1)=true))∧((!z1)=true→(0:Int)≤0∧0 < (x0.length:Int))∧(Tr ((!z1)=true))∧(Tr ((!z1)=true))∧(Tr ((!z1)=true))∧((!z1)=true→Z8W (y_3,()))∧(Tr ((!z1)=true))∧(Tr ((!z1)=true))∧(z1=false→(!z1)=true)∧((z6=true→((0:Int)≤0∧0 < (x1.length:Int))∧((x10.length+([y_4]).length)*32≤140737488355328)∧((0:Int)≤1∧1≤(x1.length:Int))∧(N0 (Z20 p q at_ one x0 (List.drop (Int.toNat 1) x1) (x10++([y_4])))))∧(z6=false→((0:Int)≤0∧0 < (x0.length:Int))∧((0:Int)≤0∧0 < (x1.length:Int))∧(Zoa (y_3,y_4,()))∧(((!((JQ y_3 y_4).2))=true→(Q .ret (L2 [(8,.c (.nils)),(9,.c (.bool false))] [])))∧((!((JQ y_3 y_4).2))=false→((x10.length+([y_5]).length)*32≤140737488355328)∧((0:Int)≤1∧1≤(x0.length:Int))∧((0:Int)≤1∧1≤(x1.length:Int))∧(N0 (Z20 p q at_ one (List.drop (Int.toNat 1) x0) (List.drop (Int.toNat 1) x1) (x10++([y_5])))))))))))∧(z5=false→(Q .ret (L2 [(8,.c (sU .wedit x10 (.own (.e 8 0)))),(9,.c (.bool true))] []))))):
  Zwp [1,1,0,0,0] (Z20 p q at_ one x0 x1 x10) (xT N0 (xB 0 (Zxx [1,1,1] Q))):=
 Eq.mpr (by kernel_rfl) (h _ rfl _ rfl _ (Z6B _) _ (Z6B _) _ (Z6B _))
def ZsF(p q:List WEdit)(at_ one:Unit):Prop:=AW (Z2 Zff) Try.f130 Zka [] (Zo (ZkV.can (p,q,at_,one,())) []) (EQ Try.f130 (ZeO (p,q,at_,one,())) [])
theorem Zrt(Zvh:CT 131 Z7b)(c24:CT 24 Zbj)(hb:∀ (p:List WEdit) (q:List WEdit) (at_:Unit) (one:Unit) (_:Unit),Zi9 (p,q,at_,one,())→ZsF p q at_ one):CT 130 Z7c:=
 Z8 (l:=[(131,Z7b),(24,Zbj)]) Zr rfl (⟨Zvh,c24,trivial⟩) Zka Try.func130 rfl rfl 4 (fun _=> rfl) (by decide) (fun ⟨p,q,at_,one,_⟩=> hb p q at_ one ())
def Zp1:List (FuncId × Fs U):=[(130,Z7c)]
def ZuD:Zg U:=lvl [([0,1],[]),([4,5],[])]
abbrev A96(p:List Nat):=AW (Z2 Zp1) Try.f96 ZuD p
theorem ZxL(p q:List WEdit)(Q:QT)(h:((Zi9 (p,q,(),(),()))∧(Q .ret (L2 [(4,.c (sU .wedit (ofO (Zm WEdit.at_ JQ p q)) .unk)),(5,.c (.bool ((Zm WEdit.at_ JQ p q).isSome)))] [])))):
  A96 [] (L2 [(0,.c (sU .wedit p .unk)),(1,.c (sU .wedit q .unk))] []) Q:=
 Eq.mpr (by kernel_rfl) h
def ZvH(p q:List WEdit):Prop:=AW (Z2 Zp1) Try.f96 ZuD [] (Zo (ZpC.can (p,q,())) []) (EQ Try.f96 (ZsY (p,q,())) [])
theorem Zu5(Zvi:CT 130 Z7c)(hb:∀ (p:List WEdit) (q:List WEdit) (_:Unit),Zo6 (p,q,())→ZvH p q):CT 96 Z3K:=
 Z8 (l:=[(130,Z7c)]) Zr rfl (⟨Zvi,trivial⟩) ZuD Try.func96 rfl rfl 2 (fun _=> rfl) (by decide) (fun ⟨p,q,_⟩=> hb p q ())
end
end Go.AM.Ytpjenobkibfpcaa
