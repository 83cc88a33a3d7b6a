import Derived.Test.YtpjenobkibfpcaaKB21b
import Derived.Test.YtpjenobkibfpcaaCD25
import Derived.Test.YtpjenobkibfpcaaKB22b
set_option linter.unusedSimpArgs false
set_option linter.unusedVariables false
namespace Go.AM.Ytpjenobkibfpcaa
open Go.AM Go.Proofs
theorem Zzs:Zxs:=by
 intro N e t _ hp hN
 simp only [Z5b,ZbZ] at hp hN
 obtain ⟨k2,⟨p1,p2,d,p3⟩,p4,p5⟩:=hp
 have h1:=Yg e
 have h2:=Ym e.kids
 have h3:=ZkB t
 have h4:=ZA t.kids
 have r2:=Z52 p2
 have rt:=ZgC p5
 have ri:=Zn p3
 have no:Z2W true e t=none→Ys cfg Try.f138.ntmps Try.f138.results.toList (Z3S (e,t,())) [] .ret (⟨[(4,.ptr (.loc 4) 0),(5,.c (.bool false))],[((.loc 4),[.int .i64 0,.nils,.nils])],[]⟩:LSt U):=by
  intro hs
  simp only [Z3S,hs]
  (repeat' (first | exact trivial | exact rfl | apply And.intro))
 refine ZB0 _ _ _ _ ?_
 rintro y1 hy1 y2 hy2
 (simp only [vcT,vcS])
 refine ⟨fun hk=> no (by unfold Z2W;rw [if_neg hk]),fun hk=> ?_⟩
 have hk:t.kind=1:=by simpa using hk
 rw [show Int.toNat ((e.words.length:Int) - 1)=e.words.length - 1 by omega] at hy1
 rw [show Int.toNat ((e.kids.length:Int) - 1)=e.kids.length - 1 by omega] at hy2
 have wm:0 < e.words.length→y1∈e.words:=fun h=> by rw [hy1];exact Zg (by omega) _
 have km:0 < e.kids.length→y2∈e.kids:=fun h=> by rw [hy2];exact Zg (by omega) _
 have wr:0 < e.words.length→0≤y1.at_∧y1.at_≤65534:=fun h=> by have:=Jw ri.words y1 (wm h);omega
 have kr:0 < e.kids.length→0≤y2.at_∧y2.at_≤65534:=fun h=> by have:=Zp ri.kids y2 (km h);omega
 have go:∀ n m:Int,n=(if 0 < e.words.length∧(t.words.length:Int)≤y1.at_ then y1.at_+1 else (t.words.length:Int))→m=(if 0 < e.kids.length∧(t.kids.length:Int)≤y2.at_ then y2.at_+1 else (t.kids.length:Int))→
   Ze (ZpG N [1,1,1,1,1,1,1,0,1,0,0]) (Z09 e t m n 0 0 []) (AExit.inBlock 0 (ZtC N [1,1,1,1,1,1,1,1] (Ys cfg Try.f138.ntmps Try.f138.results.toList (Z3S (e,t,())) []))):=by
  intro n m hn hm
  have ln:n≤t.words.length+65536:=by
   rw [hn];split
   ·rename_i h;have:=wr h.1;omega
   ·omega
  have lm:m≤t.kids.length+65536:=by
   rw [hm];split
   ·rename_i h;have:=kr h.1;omega
   ·omega
  rw [hy1] at hn
  rw [hy2] at hm
  have i0:=Mg.init (z:=0) (f:=fun w=> if mix 0 (t.words.getD w.at_.toNat 0) w.mask=w.old then some (mix (t.words.getD w.at_.toNat 0) w.new w.mask) else none) (WEdit.mk 0 0 0 0) (Z0H ri.words) hn
  have j0:=Mg.init (z:=Tree.nil) (f:=Z3K true t.kids) (KidOf.mk 0 Edit.nil) (Z1T ri.kids) hm
  refine Z6 (ι:=Int × Int × List Int) (fun s=> Z09 e t m n s.1 s.2.1 s.2.2) (fun s=> Mg 0 (fun w=> if mix 0 (t.words.getD w.at_.toNat 0) w.mask=w.old then some (mix (t.words.getD w.at_.toNat 0) w.new w.mask) else none) WEdit.at_ t.words e.words n s.1 s.2.1 s.2.2) (fun s=> (n - s.2.1).toNat) (0,0,[]) rfl i0 ?_
  rintro ⟨a,i,out⟩ hI
  dsimp only at hI
  have q1:=hI.i0;have q2:=hI.a0;have q3:=hI.len
  refine Zqb _ _ _ _ _ _ _ _ _ _ ?_
  rintro z1 hz1 z2 hz2
  subst hz1
  have hw:YC z1 i=z1.words.getD i.toNat 0:=Z4H z1 (by omega)
  have hwi:=Zlx rt.2.1 i.toNat
  rw [hw]
  unfold isW at hwi
  (simp only [vcT,vcS])
  refine ⟨fun hi=> ⟨by simp only [ZdS];omega,fun h=> ⟨by omega,h⟩,fun hg=> ⟨⟨by omega,hg.1⟩,?_⟩,fun hg=> ⟨by simp only [List.length_singleton];omega,by unfold InR;omega,(a,i+1,out++[z1.words.getD i.toNat 0]),rfl,?_,by dsimp only;omega⟩⟩,fun hi=> ?_⟩
  ·have hmem:z2∈e.words:=by rw [hz2];exact Zg (by omega) _
   obtain ⟨g1,g2,g3,g4⟩:=r2.2.2.2.1 z2 hmem
   unfold isW at g3 g4
   have hf:∀ v,(if mix 0 (z1.words.getD z2.at_.toNat 0) z2.mask=z2.old then some (mix (z1.words.getD z2.at_.toNat 0) z2.new z2.mask) else none)=v→(fun w:WEdit=> if mix 0 (z1.words.getD w.at_.toNat 0) w.mask=w.old then some (mix (z1.words.getD w.at_.toNat 0) w.new w.mask) else none) (e.words.getD a.toNat (WEdit.mk 0 0 0 0))=v:=by
    intro v hv;rw [←hz2];exact hv
   rw [hg.2] at hf
   refine ⟨by simp only [Z66];omega,fun hne=> no ?_,fun heq=> ?_⟩
   ·have:=hI.none (WEdit.mk 0 0 0 0) hg.1 (hf _ (if_neg hne))
    unfold Z2W
    rw [if_pos hk,ZjQ,this]
    try rfl
   ·have heq:mix 0 (z1.words.getD i.toNat 0) z2.mask=z2.old:=by simpa using heq
    have:=hI.edit (WEdit.mk 0 0 0 0) hi hg.1 (by rw [←hz2];exact hg.2) (hf _ (if_pos heq))
    exact ⟨by simp only [Z66];omega,by unfold InR;omega,by simp only [List.length_singleton];omega,by unfold InR;omega,(a+1,i+1,out++[mix (z1.words.getD i.toNat 0) z2.new z2.mask]),rfl,this,by dsimp only;omega⟩
  ·refine hI.plain (WEdit.mk 0 0 0 0) hi (fun h=> ?_)
   rw [←hz2] at h
   rcases hg with hg | hg
   ·exact hg h.1
   ·exact hg h.2
  ·have hws:=hI.fin hi
   rw [←ZjQ] at hws
   refine Z6 (ι:=Int × Int × List Tree) (fun s=> Z4u e z1 m out s.1 s.2.1 s.2.2) (fun s=> Mg Tree.nil (Z3K true z1.kids) KidOf.at_ z1.kids e.kids m s.1 s.2.1 s.2.2) (fun s=> (m - s.2.1).toNat) (0,0,[]) rfl j0 ?_
   rintro ⟨b,j,ks⟩ hJ
   dsimp only at hJ
   have w1:=hJ.i0;have w2:=hJ.a0;have w3:=hJ.len
   refine Zqa _ _ _ _ _ _ _ _ _ _ ?_
   rintro x1 hx1 x2 hx2 x4 hx4 x5 hx5 x6 hx6
   subst hx1
   have hkid:JA x1 j=x1.kids.getD j.toNat Tree.nil:=Zbe x1 (by omega)
   rw [hkid] at hx5
   (simp only [vcT,vcS])
   refine ⟨fun hj=> ⟨by simp only [ZdR];omega,fun h=> ⟨by omega,h⟩,fun hg=> ⟨⟨by omega,hg.1⟩,?_⟩,fun hg=> ⟨by simp only [List.length_singleton];omega,by unfold InR;omega,(b,j+1,ks++[x5]),rfl,?_,by dsimp only;omega⟩⟩,fun hj=> ?_⟩
   ·have hmem:x2∈e.kids:=by rw [hx2];exact Zg (by omega) _
    have hk2:=Zp ri.kids x2 hmem
    have hm:=YM hmem
    have hct:=Zam hmem
    have hca:=Jt e
    have hr:=(J1 r2.2.2.2.2.2.1 hmem).2
    have hm5:=Z4j x1.kids j.toNat
    have hr5:=ZcG rt.2.2 j.toNat
    rw [←hx5] at hm5 hr5
    rw [←hx4] at hm hr hk2 hct
    have hf:∀ v,doE true x4 x5=v→Z3K true x1.kids (e.kids.getD b.toNat (KidOf.mk 0 Edit.nil))=v:=by
     intro v hv
     rw [←hx2,ZeI,hg.2,←hx5,←hx4];exact hv
    refine ⟨by simp only [Z25];exact ⟨⟨by omega,hr,_,hk2.2⟩,by omega,hr5⟩,by simp only [Zf5];omega,fun hne=> no ?_,fun heq=> ?_⟩
    ·have hne:doE true x4 x5=none:=by simpa using hne
     have:=hJ.none (KidOf.mk 0 Edit.nil) hg.1 (hf _ hne)
     unfold Z2W
     rw [if_pos hk,hws,Option.bind_some,ZhA,this]
     try rfl
    ·obtain ⟨u,hu⟩:=Option.isSome_iff_exists.1 heq
     have:=hJ.edit (KidOf.mk 0 Edit.nil) hj hg.1 (by rw [←hx2];exact hg.2) (hf _ hu)
     rw [hu] at hx6
     have e6:x6=u:=hx6
     subst e6
     exact ⟨by unfold InR;omega,by simp only [List.length_singleton];omega,by unfold InR;omega,(b+1,j+1,ks++[x6]),rfl,this,by dsimp only;omega⟩
   ·rw [hx5]
    refine hJ.plain (KidOf.mk 0 Edit.nil) hj (fun h=> ?_)
    rw [←hx2] at h
    rcases hg with hg | hg
    ·exact hg h.1
    ·exact hg h.2
   ·have hks:=hJ.fin hj
    rw [←ZhA] at hks
    have hs:Z2W true e x1=some (.mk 1 out ks):=by
     unfold Z2W
     rw [if_pos hk,hws,Option.bind_some,hks]
     try rfl
    simp only [Z3S,hs]
    (repeat' (first | exact trivial | exact rfl | apply And.intro))
 have kk:∀ n:Int,n=(if 0 < e.words.length∧(t.words.length:Int)≤y1.at_ then y1.at_+1 else (t.words.length:Int))→_:=fun n hn=>
  And.intro (fun (_:(0:Int) < e.kids.length)=> show InR ((e.kids.length:Int) - 1) by unfold InR;omega) (And.intro (fun (_:(0:Int) < e.kids.length)=> show (0:Int)≤(e.kids.length:Int) - 1∧(e.kids.length:Int) - 1 < e.kids.length by omega) (And.intro
   (fun (h:(0:Int) < e.kids.length∧(t.kids.length:Int)≤y2.at_)=> And.intro (show InR ((e.kids.length:Int) - 1) by unfold InR;omega) (And.intro (show (0:Int)≤(e.kids.length:Int) - 1∧(e.kids.length:Int) - 1 < e.kids.length by omega) (And.intro (show InR (y2.at_+1) by have:=kr (by omega);unfold InR;omega) (go n (y2.at_+1) hn (by rw [if_pos ⟨by omega,h.2⟩])))))
   (fun (h:¬(0:Int) < e.kids.length∨¬(t.kids.length:Int)≤y2.at_)=> go n t.kids.length hn (by rw [if_neg (by omega)]))))
 refine ⟨fun _=> by unfold InR;omega,fun _=> by omega,fun hw=> ⟨by unfold InR;omega,by omega,by have:=wr (by omega);unfold InR;omega,kk _ (by rw [if_pos ⟨by omega,hw.2⟩])⟩,fun hw=> kk _ (by rw [if_neg (by omega)])⟩
theorem Zf1{list:Int}{o:Op}{d:Int}(h:Zc list o d=true):(o.kind=0∧(1≤o.n∧o.n≤1048576)∧o.l=[])∨(o.kind=1∧o.n=0)∨(o.kind=2∧o.n=0)∨(o.kind=3∧o.n=0∧o.l=[]∧Za o.e d=true):=by
 have r:=Y7 h
 cases r with
 | keep n h1 h2=> exact .inl ⟨rfl,⟨h1,h2⟩,rfl⟩
 | gone=> exact .inr (.inl ⟨rfl,rfl⟩)
 | come=> exact .inr (.inr (.inl ⟨rfl,rfl⟩))
 | into e h1=> exact .inr (.inr (.inr ⟨rfl,rfl,rfl,h1⟩))
theorem Zfn{α:Type}{l:List α}{n:Nat}(h:n < l.length)(d:α):l.take (n+1)=l.take n++[l.getD n d]:=by
 rw [List.take_add_one,List.getD_eq_getElem?_getD,List.getElem?_eq_getElem h];try rfl
theorem ZeE{α:Type}(l:List α)(m n:Nat)(d:α):(l.drop m).getD n d=l.getD (m+n) d:=by
 rw [List.getD_eq_getElem?_getD,List.getD_eq_getElem?_getD,List.getElem?_drop]
theorem Zzr:Zxr:=by
 intro N e t _ hp hN
 simp only [Z5a,ZbY] at hp hN
 obtain ⟨k3,⟨p1,p2,d,p3⟩,p4,p5⟩:=hp
 have h1:=Yg e
 have h2:=ZM e.ops
 have h3:=ZkB t
 have h4:=ZA t.kids
 have r2:=Z52 p2
 have rt:=ZgC p5
 have ri:=Zn p3
 refine ZAZ _ _ _ _ ?_
 (simp only [vcT,vcS])
 have no:Z0e true e t=none→Ys cfg Try.f139.ntmps Try.f139.results.toList (Z54 (e,t,())) [] .ret (⟨[(4,.ptr (.loc 4) 0),(5,.c (.bool false))],[((.loc 4),[.int .i64 0,.nils,.nils])],[]⟩:LSt U):=by
  intro hs
  simp only [Z54,hs]
  (repeat' (first | exact trivial | exact rfl | apply And.intro))
 refine ⟨fun hk=> no (by unfold Z0e;rw [if_neg hk]),fun hk=> ?_⟩
 have hk:t.kind=e.list:=by simpa using hk
 have hl0:Z0e true e t=Ji true e.ops t.kids []:=by unfold Z0e;rw [if_pos hk]
 refine Z6 (ι:=Int × Int × List Tree) (fun s=> Z1w e t s.1 s.2.1 s.2.2)
  (fun s=> (0≤s.1∧s.1≤t.kids.length)∧(0≤s.2.1∧s.2.1≤e.ops.length)∧Ji true (e.ops.drop s.2.1.toNat) (t.kids.drop s.1.toNat) s.2.2=Z0e true e t∧(s.2.2.length:Int)+(t.kids.length - s.1)+Zh (e.ops.drop s.2.1.toNat)≤t.kids.length+Zh e.ops)
  (fun s=> ((e.ops.length:Int) - s.2.1).toNat) (0,0,[]) rfl ⟨by simp,by simp,by simp [hl0],by simp⟩ ?_
 rintro ⟨at_,i,out⟩ ⟨⟨a1,a2⟩,⟨f1,f2⟩,f3,f4⟩
 dsimp only at a1 a2 f1 f2 f3 f4
 refine Zq9 _ _ _ _ _ _ _ _ ?_
 (simp only [vcT,vcS])
 refine ⟨fun hi=> ⟨⟨f1,hi⟩,?_⟩,fun hi=> ?_⟩
 ·have hmem:=Zg (l:=e.ops) (i:=i.toNat) (by omega) Op.nil
  rw [Y1 f1 hi Op.nil] at f3 f4
  have fin:∀ (a:Int) (m:List Tree),(0≤a∧a≤t.kids.length)→Ji true (e.ops.drop (i+1).toNat) (t.kids.drop a.toNat) m=Z0e true e t→(m.length:Int)+(t.kids.length - a)+Zh (e.ops.drop (i+1).toNat)≤t.kids.length+Zh e.ops→∀ s2,s2=Z1w e t a (i+1) m→
    ∃ j:Int × Int × List Tree,s2=Z1w e t j.1 j.2.1 j.2.2∧((0≤j.1∧j.1≤t.kids.length)∧(0≤j.2.1∧j.2.1≤e.ops.length)∧Ji true (e.ops.drop j.2.1.toNat) (t.kids.drop j.1.toNat) j.2.2=Z0e true e t∧(j.2.2.length:Int)+(t.kids.length - j.1)+Zh (e.ops.drop j.2.1.toNat)≤t.kids.length+Zh e.ops)∧((e.ops.length:Int) - j.2.1).toNat < ((e.ops.length:Int) - i).toNat:=by
   rintro a m b1 b2 b3 _ rfl
   exact ⟨(a,i+1,m),rfl,⟨b1,⟨by dsimp only;omega,by dsimp only;omega⟩,b2,b3⟩,by dsimp only;omega⟩
  generalize hy:e.ops.getD i.toNat Op.nil=y1 at*
  have hr:=Go.AM.rightOs_mem ri.ops y1 hmem
  have hm:=ZL hmem
  have hct:=Z6B hmem
  have hca:=Jt e
  have hme:=ZI y1
  have hro:=JD (Z06 r2.2.2.2.2.2.2 hmem)
  have hml:=ZA y1.l
  simp only [Zh] at f4
  rw [Zgc,Z5m] at f3
  have hrest:(t.kids.drop at_.toNat).length=t.kids.length - at_.toNat:=List.length_drop ..
  rcases Zf1 hr with ⟨k0,hn,hl⟩ | ⟨k1,hn⟩ | ⟨k2,hn⟩ | ⟨k3',hn,hl,hre⟩
  ·-- kids are kept
   rw [if_pos k0] at f3
   refine Z6 (ι:=Int × Int × List Tree) (fun s=> Z1v e t i s.1 s.2.1 s.2.2) (fun s=> (0≤s.2.1∧s.2.1≤y1.n)∧s.1=at_+s.2.1∧s.1≤t.kids.length∧s.2.2=out++(t.kids.drop at_.toNat).take s.2.1.toNat) (fun s=> (y1.n - s.2.1).toNat) (at_,0,out) rfl ⟨by simp;omega,by simp,by simp;omega,by simp⟩ ?_
   rintro ⟨a,q,m⟩ ⟨⟨c1,c2⟩,c3,c4,c5⟩
   dsimp only at c1 c2 c3 c4 c5
   refine Z8O _ _ _ _ _ _ _ _ _ _ ?_
   rintro z1 hz1 z2 hz2
   rw [hy] at hz1
   subst hz1
   (simp only [vcT,vcS])
   have hlen:(m.length:Int)≤out.length+q:=by rw [c5];simp only [List.length_append,List.length_take];omega
   refine ⟨fun hg=> ⟨fun hx=> no ?_,fun hx=> ⟨by omega,by simp only [List.length_singleton];omega,by unfold InR;omega,by unfold InR;omega,(a+1,q+1,m++[z2]),rfl,⟨by dsimp only;omega,by dsimp only;omega,by dsimp only;omega,?_⟩,by dsimp only;omega⟩⟩,fun hg=> ?_⟩
   ·rw [if_neg (by omega)] at f3
    exact f3.symm
   ·dsimp only
    rw [show (q+1).toNat=q.toNat+1 by omega,Zfn (by omega) Tree.nil,ZeE,show at_.toNat+q.toNat=a.toNat by omega,←hz2,c5,List.append_assoc]
   ·have hq:q=z1.n:=by omega
    subst hq
    rw [if_pos (by omega),Option.bind_some,List.drop_drop,show at_.toNat+z1.n.toNat=a.toNat by omega,←c5] at f3
    dsimp only at f3
    refine Z6 (ι:=Unit) (fun _=> Z0R e t i 0 a m) (fun _=> True) (fun _=> 0) () rfl trivial ?_
    intro _ _
    refine Z8N _ _ _ _ _ _ _ _ _ _ ?_
    rintro w1 hw1 w2 hw2 w3 hw3 w4 hw4 w5 hw5 w6 hw6 w7 hw7
    rw [hy] at hw1
    subst hw1
    rw [hl]
    (simp only [vcT,vcS])
    exact ⟨fun h=> absurd h (by simp),fun _=> ⟨fun h=> absurd h (by omega),fun _=> ⟨by unfold InR;omega,fin _ _ (by omega) f3 (by omega) _ rfl⟩⟩⟩
  ·-- kids are gone
   rw [if_neg (by omega),if_pos k1] at f3
   refine Z6 (ι:=Unit) (fun _=> Z1v e t i at_ 0 out) (fun _=> True) (fun _=> 0) () rfl trivial ?_
   intro _ _
   refine Z8O _ _ _ _ _ _ _ _ _ _ ?_
   rintro z1 hz1 z2 hz2
   rw [hy] at hz1
   subst hz1
   (simp only [vcT,vcS])
   refine ⟨fun hg=> absurd hg.1 (by omega),fun _=> ?_⟩
   refine Z6 (ι:=Int × Int) (fun s=> Z0R e t i s.1 s.2 out) (fun s=> (0≤s.1∧s.1≤z1.l.length)∧s.2=at_+s.1∧s.2≤t.kids.length∧∀ j:Nat,(j:Int) < s.1→Z4 (t.kids.getD (at_.toNat+j) Tree.nil)=Z4 (z1.l.getD j Tree.nil)) (fun s=> ((z1.l.length:Int) - s.1).toNat) (0,at_) rfl ⟨by simp,by simp,by simp;omega,fun j hj=> by simp at hj;omega⟩ ?_
   rintro ⟨q,a⟩ ⟨⟨c1,c2⟩,c3,c4,c5⟩
   dsimp only at c1 c2 c3 c4 c5
   refine Z8N _ _ _ _ _ _ _ _ _ _ ?_
   rintro w1 hw1 w2 hw2 w3 hw3 w4 hw4 w5 hw5 w6 hw6 w7 hw7
   rw [hy] at hw1
   subst hw1 hw3 hw6
   (simp only [vcT,vcS])
   have bad:Z3J w1.l (t.kids.drop at_.toNat)=false→Z0e true e t=none:=by
    intro h
    rw [h,if_neg (by simp)] at f3
    exact f3.symm
   have m2:=Z4j t.kids a.toNat
   have m5:=Z4j w1.l q.toNat
   rw [←hw2] at m2
   rw [←hw5] at m5
   refine ⟨fun hq=> ⟨fun h=> absurd h (by omega),fun _=> ⟨fun _=> by omega,fun _=> by omega,fun _=> by simp only [Z65];omega,fun h=> no (bad ?_),fun h=> ⟨by unfold InR;omega,by unfold InR;omega,(q+1,a+1),rfl,⟨by dsimp only;omega,by dsimp only;omega,by dsimp only;omega,fun j hj=> ?_⟩,by dsimp only;omega⟩⟩⟩,fun hq=> ⟨fun h=> absurd h (by omega),fun _=> ⟨by unfold InR;omega,?_⟩⟩⟩
   ·unfold Z3J
    by_cases hx:w1.l.length≤(t.kids.drop at_.toNat).length
    ·rw [decide_eq_true hx,Bool.true_and]
     refine Z40 fun hh=> ?_
     have h3:YF (Z4 w3) (Z4 w6)=false:=by
      rcases h with h | h
      ·omega
      ·exact h
     rw [YE] at h3
     apply h3
     have:=Z6v (d:=Tree.nil) hh q.toNat
     rw [hw2,hw5,this,List.getD_eq_getElem?_getD,List.getD_eq_getElem?_getD,List.getElem?_take,if_pos (by omega),List.getElem?_drop,show at_.toNat+q.toNat=a.toNat by omega]
    ·rw [decide_eq_false hx];try rfl
   ·by_cases hj2:(j:Int) < q
    ·exact c5 j hj2
    ·have e1:at_.toNat+j=a.toNat:=by dsimp only at hj;omega
     have e2:j=q.toNat:=by dsimp only at hj;omega
     rw [e1,e2,←hw2,←hw5]
     exact Yw.1 h.2
   ·have hq:q=w1.l.length:=by omega
    subst hq
    have Z0g:Z3J w1.l (t.kids.drop at_.toNat)=true:=by
     unfold Z3J
     rw [decide_eq_true (by omega),Bool.true_and,Jm]
     refine Zc7 Tree.nil (by rw [List.length_take];omega) fun j hj=> ?_
     rw [←c5 j (by omega),List.getD_eq_getElem?_getD,List.getD_eq_getElem?_getD,List.getElem?_take,if_pos hj,List.getElem?_drop]
    rw [Z0g,if_pos rfl,Option.bind_some,List.drop_drop,show at_.toNat+w1.l.length=a.toNat by omega] at f3
    dsimp only at f3
    exact fin _ _ (by omega) f3 (by omega) _ rfl
  ·-- kids come
   rw [if_neg (by omega),if_neg (by omega),if_pos k2,Option.bind_some] at f3
   refine Z6 (ι:=Unit) (fun _=> Z1v e t i at_ 0 out) (fun _=> True) (fun _=> 0) () rfl trivial ?_
   intro _ _
   refine Z8O _ _ _ _ _ _ _ _ _ _ ?_
   rintro z1 hz1 z2 hz2
   rw [hy] at hz1
   subst hz1
   (simp only [vcT,vcS])
   refine ⟨fun hg=> absurd hg.1 (by omega),fun _=> ?_⟩
   refine Z6 (ι:=Int × List Tree) (fun s=> Z0R e t i s.1 at_ s.2) (fun s=> (0≤s.1∧s.1≤z1.l.length)∧s.2=out++z1.l.take s.1.toNat) (fun s=> ((z1.l.length:Int) - s.1).toNat) (0,out) rfl ⟨by simp,by simp⟩ ?_
   rintro ⟨q,m⟩ ⟨⟨c1,c2⟩,c5⟩
   dsimp only at c1 c2 c5
   refine Z8N _ _ _ _ _ _ _ _ _ _ ?_
   rintro w1 hw1 w2 hw2 w3 hw3 w4 hw4 w5 hw5 w6 hw6 w7 hw7
   rw [hy] at hw1
   subst hw1 hw6
   (simp only [vcT,vcS])
   have hlen:(m.length:Int)≤out.length+q:=by rw [c5];simp only [List.length_append,List.length_take];omega
   refine ⟨fun hq=> ⟨fun _=> ⟨by omega,by simp only [List.length_singleton];omega,by unfold InR;omega,(q+1,m++[w6]),rfl,⟨by dsimp only;omega,?_⟩,by dsimp only;omega⟩,fun h=> absurd k2 h⟩,fun hq=> ⟨fun h=> absurd h (by omega),fun _=> ⟨by unfold InR;omega,?_⟩⟩⟩
   ·dsimp only
    rw [show (q+1).toNat=q.toNat+1 by omega,Zfn (by omega) Tree.nil,←hw5,c5,List.append_assoc]
   ·rw [show q.toNat=w1.l.length by omega,List.take_length] at c5
    rw [←c5] at f3
    dsimp only at f3
    exact fin _ _ (by omega) f3 (by omega) _ rfl
  ·-- what is within a kid
   rw [if_neg (by omega),if_neg (by omega),if_neg (by omega)] at f3
   refine Z6 (ι:=Unit) (fun _=> Z1v e t i at_ 0 out) (fun _=> True) (fun _=> 0) () rfl trivial ?_
   intro _ _
   refine Z8O _ _ _ _ _ _ _ _ _ _ ?_
   rintro z1 hz1 z2 hz2
   rw [hy] at hz1
   subst hz1
   (simp only [vcT,vcS])
   refine ⟨fun hg=> absurd hg.1 (by omega),fun _=> ?_⟩
   refine Z6 (ι:=Unit) (fun _=> Z0R e t i 0 at_ out) (fun _=> True) (fun _=> 0) () rfl trivial ?_
   intro _ _
   refine Z8N _ _ _ _ _ _ _ _ _ _ ?_
   rintro w1 hw1 w2 hw2 w3 hw3 w4 hw4 w5 hw5 w6 hw6 w7 hw7
   rw [hy] at hw1
   subst hw1 hw3
   rw [hl]
   (simp only [vcT,vcS])
   have hz:w3=(t.kids.drop at_.toNat).getD 0 Tree.nil:=by rw [ZeE,Nat.add_zero];exact hw2
   have m2:=Z4j t.kids at_.toNat
   have g2:=ZcG rt.2.2 at_.toNat
   rw [←hw2] at m2 g2
   rw [←hw4] at hre hme hro hct
   refine ⟨fun h=> absurd h (by simp),fun _=> ⟨fun _=> ⟨fun hx=> no ?_,fun hx=> ⟨by omega,by simp only [Z25];exact ⟨⟨by omega,hro.2.2.2,_,hre⟩,by omega,g2⟩,by simp only [Zf5];omega,fun hne=> no ?_,fun heq=> ?_⟩⟩,fun h=> absurd k3' h⟩⟩
   ·rw [if_pos (by omega)] at f3
    exact f3.symm
   ·rw [if_neg (by omega),←hz,←hw4] at f3
    have hne:doE true w4 w3=none:=by simpa using hne
    rw [hne] at f3
    exact f3.symm
   ·obtain ⟨u,hu⟩:=Option.isSome_iff_exists.1 heq
    rw [hu] at hw7
    have e7:w7=u:=hw7
    subst e7
    rw [if_neg (by omega),←hz,←hw4,hu,Option.map_some,Option.bind_some,List.drop_drop,show at_.toNat+1=(at_+1).toNat by omega] at f3
    dsimp only at f3
    exact ⟨by simp only [List.length_singleton];omega,by unfold InR;omega,by unfold InR;omega,fin _ _ (by omega) f3 (by simp only [List.length_append,List.length_singleton];omega) _ rfl⟩
 ·rw [List.drop_of_length_le (by omega),Ji] at f3
  simp only [Z54,←f3,Zhc,Z1V,Option.bind_some,hk]
  by_cases hr:at_=t.kids.length
  ·rw [if_pos (by rw [List.length_drop];omega),hr]
   simp only [beq_self_eq_true]
   (repeat' (first | exact trivial | exact rfl | apply And.intro))
  ·rw [if_neg (by rw [List.length_drop];omega),show (at_==(t.kids.length:Int))=false by rw [beq_eq_false_iff_ne];omega]
   (repeat' (first | exact trivial | exact rfl | apply And.intro))
theorem ZCZ:Contract Try.prog cfg 99 Z5H∧Contract Try.prog cfg 138 ZlO∧Contract Try.prog cfg 139 ZlN:=ZuF c45 Zpn Zz1 Zpp Zz0 b99 Zzs Zzr
theorem c99:Contract Try.prog cfg 99 Z5H:=ZCZ.1
end Go.AM.Ytpjenobkibfpcaa
namespace Go.AM.Ytpjenobkibfpcaa
open Go.AM Go.Proofs
noncomputable section
abbrev ZH(p:Prop):Prop:=p→p
def ZcR:ArgM ((List Op × List Tree × List Tree × Unit) × Unit):=(.obj 0 (.cons (cWr .op 0 0) (.cons (ZjD .tree 0 1) (.cons (ZjD .tree 0 2) .nil))) .nil)
def Z1Y(a:(List Op × List Tree × List Tree × Unit) × Unit):Prop:=(a.1.1).length≤200000000000∧(a.1.2.1).length≤200000000000∧(a.1.2.2.1).length≤200000000000
def ZaL(a:(List Op × List Tree × List Tree × Unit) × Unit):V U:= .tup []
def Z72(a:(List Op × List Tree × List Tree × Unit) × Unit):List (List (C U)):=[[.mref (.x 0 0),sU .tree ((Z3 (Wst.mk a.1.1 a.1.2.1 a.1.2.2.1)).gone) (.own (.x 0 1)),sU .tree ((Z3 (Wst.mk a.1.1 a.1.2.1 a.1.2.2.1)).brought) (.own (.x 0 2))]]
def Z73(a:(List Op × List Tree × List Tree × Unit) × Unit):List (Tok × LC U):=[(.x 0 0,LC.mk (U:=U) .op ((Z3 (Wst.mk a.1.1 a.1.2.1 a.1.2.2.1)).out) 0)]
def Z2c:Fs U:=Zl7 ZcR (fun a=> [Z1Y a]) ZaL Z72 Z73
def ZcT:ArgM ((List Op × List Tree × List Tree × Unit) × Int × Unit):=(.obj 0 (.cons (cWr .op 0 0) (.cons (ZjD .tree 0 1) (.cons (ZjD .tree 0 2) .nil))) (.cons (JI .i64) .nil))
def Z5c(a:(List Op × List Tree × List Tree × Unit) × Int × Unit):Prop:=(a.1.1).length≤200000000000∧(a.1.2.1).length≤200000000000∧(a.1.2.2.1).length≤200000000000∧(∀ o∈a.1.1,0≤o.n∧o.n≤100000000000000000)∧0≤a.2.1∧a.2.1≤1048576
def Zkb(a:(List Op × List Tree × List Tree × Unit) × Int × Unit):V U:= .tup []
def ZgI(a:(List Op × List Tree × List Tree × Unit) × Int × Unit):List (List (C U)):=[[.mref (.x 0 0),sU .tree ((ZW (Wst.mk a.1.1 a.1.2.1 a.1.2.2.1) a.2.1).gone) (.own (.x 0 1)),sU .tree ((ZW (Wst.mk a.1.1 a.1.2.1 a.1.2.2.1) a.2.1).brought) (.own (.x 0 2))]]
def ZgJ(a:(List Op × List Tree × List Tree × Unit) × Int × Unit):List (Tok × LC U):=[(.x 0 0,LC.mk (U:=U) .op ((ZW (Wst.mk a.1.1 a.1.2.1 a.1.2.2.1) a.2.1).out) 0)]
def Z6R:Fs U:=Zl7 ZcT (fun a=> [Z5c a]) Zkb ZgI ZgJ
def ZcS:ArgM ((List Op × List Tree × List Tree × Unit) × List Tree × Unit):=(.objAt 0 1 (.cons (cWr .op 0 0) (.cons (ZjD .tree 0 1) (.cons (ZjD .tree 0 2) .nil))) (.cons (aSl .tree) .nil))
def ZaW(a:(List Op × List Tree × List Tree × Unit) × List Tree × Unit):Prop:=(a.1.1).length≤200000000000∧(a.1.2.1).length≤200000000000∧(a.1.2.2.1).length≤200000000000∧Zf a.2.1≤20000000000
def Zrd(a:(List Op × List Tree × List Tree × Unit) × List Tree × Unit):V U:= .tup []
def Zm5(a:(List Op × List Tree × List Tree × Unit) × List Tree × Unit):List (List (C U)):=[[.mref (.x 0 0),sU .tree ((Wst.mk a.1.1 (a.1.2.1++Z8 a.2.1) a.1.2.2.1).gone) (.own (.x 0 1)),sU .tree ((Wst.mk a.1.1 (a.1.2.1++Z8 a.2.1) a.1.2.2.1).brought) (.own (.x 0 2))]]
def Zm6(a:(List Op × List Tree × List Tree × Unit) × List Tree × Unit):List (Tok × LC U):=[(.x 0 0,LC.mk (U:=U) .op ((Wst.mk a.1.1 (a.1.2.1++Z8 a.2.1) a.1.2.2.1).out) 0)]
def Zgy:Fs U:=Zl7 ZcS (fun a=> [ZaW a]) Zrd Zm5 Zm6
def Zao:ArgM ((List Op × List Tree × List Tree × Unit) × List Tree × Unit):=(.objAt 0 2 (.cons (cWr .op 0 0) (.cons (ZjD .tree 0 1) (.cons (ZjD .tree 0 2) .nil))) (.cons (aSl .tree) .nil))
def Z76(a:(List Op × List Tree × List Tree × Unit) × List Tree × Unit):Prop:=(a.1.1).length≤200000000000∧(a.1.2.1).length≤200000000000∧(a.1.2.2.1).length≤200000000000∧Zf a.2.1≤20000000000
def Zmh(a:(List Op × List Tree × List Tree × Unit) × List Tree × Unit):V U:= .tup []
def Ziv(a:(List Op × List Tree × List Tree × Unit) × List Tree × Unit):List (List (C U)):=[[.mref (.x 0 0),sU .tree ((Wst.mk a.1.1 a.1.2.1 (a.1.2.2.1++Z8 a.2.1)).gone) (.own (.x 0 1)),sU .tree ((Wst.mk a.1.1 a.1.2.1 (a.1.2.2.1++Z8 a.2.1)).brought) (.own (.x 0 2))]]
def Ziw(a:(List Op × List Tree × List Tree × Unit) × List Tree × Unit):List (Tok × LC U):=[(.x 0 0,LC.mk (U:=U) .op ((Wst.mk a.1.1 a.1.2.1 (a.1.2.2.1++Z8 a.2.1)).out) 0)]
def Zdr:Fs U:=Zl7 Zao (fun a=> [Z76 a]) Zmh Ziv Ziw
def ZjG:ArgL (Int × Edit × Unit):=(.cons (JI .i64) (.cons (aEl .edit) .nil))
def Z75(a:Int × Edit × Unit):Prop:=a.2.1.words.length≤20000000000∧a.2.1.kids.length≤20000000000
def Zmg(a:Int × Edit × Unit):V U:= .c (.bool (Z3I a.1 a.2.1))
def Z47:Fs U:=fs ZjG (fun a=> [Z75 a]) Zmg
def ZjH:ArgL (Int × Edit × Unit):=(.cons (JI .i64) (.cons (aEl .edit) .nil))
def Z9n(a:Int × Edit × Unit):Prop:=True
def Zmi(a:Int × Edit × Unit):V U:= .c (.bool (Z3I a.1 a.2.1))
def Z48:Fs U:=fs ZjH (fun a=> [Z9n a]) Zmi
def Zne:List (FuncId × Fs U):=[]
def Zsg:Zj U:=fun i=> match i with
 | 0=> ([(0,[]),(7,[])],[(.x 0,[.wr .op])])
 | 1=> ([(0,[])],[(.x 0,[.wr .op])])
 | 2=> ([(0,[]),(28,[])],[(.x 0,[.wr .op])])
 | 3=> ([(0,[])],[(.x 0,[.wr .op])])
 | 4=> ([],[(.x 0,[.wr .op])])
 | _=> ([],[])
abbrev ZBM(wo:List Op)(wg wb:List Tree)(Q:QT):=AW (Z1 Zne) Try.f129 Zsg [] (⟨[(0,.ptr (.x 0) 0)],[(.x 0,[.mref (.x 0 0),sU .tree wg (.own (.x 0 1)),sU .tree wb (.own (.x 0 2))])],[(.x 0 0,LC.mk (U:=U) .op wo 0)]⟩:LSt U) Q
theorem ZB9(wo:List Op)(wg wb:List Tree)(Q:QT)(h:∀ y_1,y_1=(Edit.mk 0 (Tree.mk 0 [] []) (Tree.mk 0 [] []) [] [] 0 [])→∀ y_2,y_2=(List.set (wo++([(OpOf.mk 0 0 [] y_1:Op)])) (Int.toNat (wo.length:Int)) (OpOf.mk 1 0 wg y_1:Op))→((decide ((0:Int) < (wg.length:Int)))=true→((wo.length+([(OpOf.mk 0 0 [] y_1:Op)]).length)*240≤140737488355328)∧((0:Int)≤(wo.length:Int)∧(wo.length:Int) < ((wo++([(OpOf.mk 0 0 [] y_1:Op)])).length:Int))∧((0:Nat)≤(Int.toNat (wo.length:Int)))∧(((decide ((0:Int) < (wb.length:Int)))=true→((y_2.length+([(OpOf.mk 0 0 [] y_1:Op)]).length)*240≤140737488355328)∧((0:Int)≤(y_2.length:Int)∧(y_2.length:Int) < ((y_2++([(OpOf.mk 0 0 [] y_1:Op)])).length:Int))∧((0:Nat)≤(Int.toNat (y_2.length:Int)))∧(Q .normal (⟨[],[(.x 0,[.mref (.x 0 0),.nils,.nils])],[(.x 0 0,LC.mk (U:=U) .op (List.set (y_2++([(OpOf.mk 0 0 [] y_1:Op)])) (Int.toNat (y_2.length:Int)) (OpOf.mk 2 0 wb y_1:Op)) 0)]⟩:LSt U)))∧((decide ((0:Int) < (wb.length:Int)))=false→Q .normal (⟨[],[(.x 0,[.mref (.x 0 0),.nils,.nils])],[(.x 0 0,LC.mk (U:=U) .op y_2 0)]⟩:LSt U))))∧((decide ((0:Int) < (wg.length:Int)))=false→((decide ((0:Int) < (wb.length:Int)))=true→((wo.length+([(OpOf.mk 0 0 [] y_1:Op)]).length)*240≤140737488355328)∧((0:Int)≤(wo.length:Int)∧(wo.length:Int) < ((wo++([(OpOf.mk 0 0 [] y_1:Op)])).length:Int))∧((0:Nat)≤(Int.toNat (wo.length:Int)))∧(Q .normal (⟨[],[(.x 0,[.mref (.x 0 0),.nils,.nils])],[(.x 0 0,LC.mk (U:=U) .op (List.set (wo++([(OpOf.mk 0 0 [] y_1:Op)])) (Int.toNat (wo.length:Int)) (OpOf.mk 2 0 wb y_1:Op)) 0)]⟩:LSt U)))∧((decide ((0:Int) < (wb.length:Int)))=false→Q .normal (⟨[],[(.x 0,[.mref (.x 0 0),.nils,.nils])],[(.x 0 0,LC.mk (U:=U) .op wo 0)]⟩:LSt U)))):
  ZBM wo wg wb Q:=by
 have e_:(ZBM wo wg wb Q)=(let y_1:=(Edit.mk 0 (Tree.mk 0 [] []) (Tree.mk 0 [] []) [] [] 0 []);let y_2:=(List.set (wo++([(OpOf.mk 0 0 [] y_1:Op)])) (Int.toNat (wo.length:Int)) (OpOf.mk 1 0 wg y_1:Op));let zz0:=(decide ((0:Int) < (wb.length:Int)));(((decide ((0:Int) < (wg.length:Int)))=true→((wo.length+([(OpOf.mk 0 0 [] y_1:Op)]).length)*240≤140737488355328)∧((0:Int)≤(wo.length:Int)∧(wo.length:Int) < ((wo++([(OpOf.mk 0 0 [] y_1:Op)])).length:Int))∧((0:Nat)≤(Int.toNat (wo.length:Int)))∧((zz0=true→((y_2.length+([(OpOf.mk 0 0 [] y_1:Op)]).length)*240≤140737488355328)∧((0:Int)≤(y_2.length:Int)∧(y_2.length:Int) < ((y_2++([(OpOf.mk 0 0 [] y_1:Op)])).length:Int))∧((0:Nat)≤(Int.toNat (y_2.length:Int)))∧(Q .normal (⟨[],[(.x 0,[.mref (.x 0 0),.nils,.nils])],[(.x 0 0,LC.mk (U:=U) .op (List.set (y_2++([(OpOf.mk 0 0 [] y_1:Op)])) (Int.toNat (y_2.length:Int)) (OpOf.mk 2 0 wb y_1:Op)) 0)]⟩:LSt U)))∧(zz0=false→(Q .normal (⟨[],[(.x 0,[.mref (.x 0 0),.nils,.nils])],[(.x 0 0,LC.mk (U:=U) .op y_2 0)]⟩:LSt U)))))∧((decide ((0:Int) < (wg.length:Int)))=false→((zz0=true→((wo.length+([(OpOf.mk 0 0 [] y_1:Op)]).length)*240≤140737488355328)∧((0:Int)≤(wo.length:Int)∧(wo.length:Int) < ((wo++([(OpOf.mk 0 0 [] y_1:Op)])).length:Int))∧((0:Nat)≤(Int.toNat (wo.length:Int)))∧(Q .normal (⟨[],[(.x 0,[.mref (.x 0 0),.nils,.nils])],[(.x 0 0,LC.mk (U:=U) .op (List.set (wo++([(OpOf.mk 0 0 [] y_1:Op)])) (Int.toNat (wo.length:Int)) (OpOf.mk 2 0 wb y_1:Op)) 0)]⟩:LSt U)))∧(zz0=false→(Q .normal (⟨[],[(.x 0,[.mref (.x 0 0),.nils,.nils])],[(.x 0 0,LC.mk (U:=U) .op wo 0)]⟩:LSt U))))))):=by kernel_rfl
 exact e_.mpr (by intro y_1 y_2;have hh:=h y_1 rfl y_2 rfl;exact ⟨fun c_1=> ⟨(hh.1 c_1).1,(hh.1 c_1).2.1,(hh.1 c_1).2.2.1,⟨fun c_2=> ⟨((hh.1 c_1).2.2.2.1 c_2).1,((hh.1 c_1).2.2.2.1 c_2).2.1,((hh.1 c_1).2.2.2.1 c_2).2.2.1,((hh.1 c_1).2.2.2.1 c_2).2.2.2⟩,fun c_2=> ((hh.1 c_1).2.2.2.2 c_2)⟩⟩,fun c_1=> ⟨fun c_3=> ⟨((hh.2 c_1).1 c_3).1,((hh.2 c_1).1 c_3).2.1,((hh.2 c_1).1 c_3).2.2.1,((hh.2 c_1).1 c_3).2.2.2⟩,fun c_3=> ((hh.2 c_1).2 c_3)⟩⟩)
def Zwu(wo:List Op)(wg wb:List Tree):Prop:=AW (Z1 Zne) Try.f129 Zsg [] (Z1A (ZcR.can ((wo,wg,wb,()),())) (ZcR.canX ((wo,wg,wb,()),())) (ZcR.canL ((wo,wg,wb,()),()))) (Z42 cfg Try.f129.ntmps Try.f129.results.toList (ZaL ((wo,wg,wb,()),())) (Z72 ((wo,wg,wb,()),())) (Z73 ((wo,wg,wb,()),())))
theorem Zv8(hb:∀ (wo:List Op) (wg:List Tree) (wb:List Tree) (_:Unit),Z1Y ((wo,wg,wb,()),())→Zwu wo wg wb):CT 129 Z2c:=
 Z0t (l:=[]) Zm rfl trivial Zsg Try.func129 rfl rfl 1 (fun _=> rfl) (by decide) (fun ⟨⟨wo,wg,wb,_⟩,_⟩=> hb wo wg wb ())
def Znf:List (FuncId × Fs U):=[(129,Z2c)]
def Zsh:Zj U:=fun i=> match i with
 | 0=> ([(0,[]),(1,[])],[(.x 0,[.wr .op])])
 | 1=> ([(0,[]),(1,[]),(4,[])],[(.x 0,[.wr .op])])
 | 2=> ([(0,[]),(1,[]),(4,[]),(25,[])],[(.x 0,[.wr .op])])
 | 3=> ([],[(.x 0,[.wr .op])])
 | 4=> ([],[(.x 0,[.wr .op])])
 | _=> ([],[])
abbrev ZBO(wo:List Op)(wg wb:List Tree)(n:Int)(Q:QT):=AW (Z1 Znf) Try.f126 Zsh [] (⟨[(0,.ptr (.x 0) 0),(1,.c (ci n))],[(.x 0,[.mref (.x 0 0),sU .tree wg (.own (.x 0 1)),sU .tree wb (.own (.x 0 2))])],[(.x 0 0,LC.mk (U:=U) .op wo 0)]⟩:LSt U) Q
theorem ZBb(wo:List Op)(wg wb:List Tree)(n:Int)(Q:QT)(h:∀ y_1,y_1=(Edit.mk 0 (Tree.mk 0 [] []) (Tree.mk 0 [] []) [] [] 0 [])→∀ y_2,y_2=(Int.toNat (((((Z3 (Wst.mk wo wg wb)).out).length:Int):Int) - 1))→∀ y_3,y_3=(List.getD ((Z3 (Wst.mk wo wg wb)).out) y_2 Op.nil)→∀ y_4,y_4=(y_3.e)→(Z1Y ((wo,wg,wb,()),()))∧((InR (((((Z3 (Wst.mk wo wg wb)).out).length:Int):Int) - 1))∧(((decide ((0:Int)≤(((((Z3 (Wst.mk wo wg wb)).out).length:Int):Int) - 1)))=true→(0:Int)≤(((((Z3 (Wst.mk wo wg wb)).out).length:Int):Int) - 1)∧(((((Z3 (Wst.mk wo wg wb)).out).length:Int):Int) - 1) < (((Z3 (Wst.mk wo wg wb)).out).length:Int))∧(((bif (decide ((0:Int)≤(((((Z3 (Wst.mk wo wg wb)).out).length:Int):Int) - 1))) then (y_3.kind==0) else false)=true→((0:Int)≤(((((Z3 (Wst.mk wo wg wb)).out).length:Int):Int) - 1)∧(((((Z3 (Wst.mk wo wg wb)).out).length:Int):Int) - 1) < (((Z3 (Wst.mk wo wg wb)).out).length:Int))∧(InR (y_3.n+n))∧((0:Int)≤(((((Z3 (Wst.mk wo wg wb)).out).length:Int):Int) - 1)∧(((((Z3 (Wst.mk wo wg wb)).out).length:Int):Int) - 1) < (((Z3 (Wst.mk wo wg wb)).out).length:Int))∧((0:Nat)≤y_2)∧(Q .ret (⟨[],[(.x 0,[.mref (.x 0 0),sU .tree ((Z3 (Wst.mk wo wg wb)).gone) (.own (.x 0 1)),sU .tree ((Z3 (Wst.mk wo wg wb)).brought) (.own (.x 0 2))])],[(.x 0 0,LC.mk (U:=U) .op (List.set ((Z3 (Wst.mk wo wg wb)).out) y_2 (OpOf.mk y_3.kind (y_3.n+n) y_3.l y_4:Op)) 0)]⟩:LSt U)))∧((bif (decide ((0:Int)≤(((((Z3 (Wst.mk wo wg wb)).out).length:Int):Int) - 1))) then (y_3.kind==0) else false)=false→((((Z3 (Wst.mk wo wg wb)).out).length+([(OpOf.mk 0 0 [] y_1:Op)]).length)*240≤140737488355328)∧((0:Int)≤(((Z3 (Wst.mk wo wg wb)).out).length:Int)∧(((Z3 (Wst.mk wo wg wb)).out).length:Int) < ((((Z3 (Wst.mk wo wg wb)).out)++([(OpOf.mk 0 0 [] y_1:Op)])).length:Int))∧((0:Nat)≤(Int.toNat (((Z3 (Wst.mk wo wg wb)).out).length:Int)))∧(Q .normal (⟨[],[(.x 0,[.mref (.x 0 0),sU .tree ((Z3 (Wst.mk wo wg wb)).gone) (.own (.x 0 1)),sU .tree ((Z3 (Wst.mk wo wg wb)).brought) (.own (.x 0 2))])],[(.x 0 0,LC.mk (U:=U) .op (List.set (((Z3 (Wst.mk wo wg wb)).out)++([(OpOf.mk 0 0 [] y_1:Op)])) (Int.toNat (((Z3 (Wst.mk wo wg wb)).out).length:Int)) (OpOf.mk 0 n [] y_1:Op)) 0)]⟩:LSt U))))))):
  ZBO wo wg wb n Q:=by
 have e_:(ZBO wo wg wb n Q)=(let y_1:=(Edit.mk 0 (Tree.mk 0 [] []) (Tree.mk 0 [] []) [] [] 0 []);let y_2:=(Int.toNat (((((Z3 (Wst.mk wo wg wb)).out).length:Int):Int) - 1));let y_3:=(List.getD ((Z3 (Wst.mk wo wg wb)).out) y_2 Op.nil);let y_4:=(Yx y_3.e);let zz0:=(decide ((0:Int)≤(((((Z3 (Wst.mk wo wg wb)).out).length:Int):Int) - 1)));(Z1Y ((wo,wg,wb,()),()))∧((InR (((((Z3 (Wst.mk wo wg wb)).out).length:Int):Int) - 1))∧((ZH (zz0=true))∧(ZH (zz0=true))∧(ZH (zz0=true))∧(ZH (zz0=true))∧(ZH (zz0=true))∧(zz0=true→(0:Int)≤(((((Z3 (Wst.mk wo wg wb)).out).length:Int):Int) - 1)∧(((((Z3 (Wst.mk wo wg wb)).out).length:Int):Int) - 1) < (((Z3 (Wst.mk wo wg wb)).out).length:Int))∧(ZH (zz0=true))∧(ZH (zz0=true))∧(ZH (zz0=true))∧(ZH (zz0=true))∧(((bif zz0 then (y_3.kind==0) else false)=true→((0:Int)≤(((((Z3 (Wst.mk wo wg wb)).out).length:Int):Int) - 1)∧(((((Z3 (Wst.mk wo wg wb)).out).length:Int):Int) - 1) < (((Z3 (Wst.mk wo wg wb)).out).length:Int))∧(InR (y_3.n+n))∧((0:Int)≤(((((Z3 (Wst.mk wo wg wb)).out).length:Int):Int) - 1)∧(((((Z3 (Wst.mk wo wg wb)).out).length:Int):Int) - 1) < (((Z3 (Wst.mk wo wg wb)).out).length:Int))∧((0:Nat)≤y_2)∧(Q .ret (⟨[],[(.x 0,[.mref (.x 0 0),sU .tree ((Z3 (Wst.mk wo wg wb)).gone) (.own (.x 0 1)),sU .tree ((Z3 (Wst.mk wo wg wb)).brought) (.own (.x 0 2))])],[(.x 0 0,LC.mk (U:=U) .op (List.set ((Z3 (Wst.mk wo wg wb)).out) y_2 (OpOf.mk y_3.kind (y_3.n+n) y_3.l y_4:Op)) 0)]⟩:LSt U)))∧((bif zz0 then (y_3.kind==0) else false)=false→((((Z3 (Wst.mk wo wg wb)).out).length+([(OpOf.mk 0 0 [] y_1:Op)]).length)*240≤140737488355328)∧((0:Int)≤(((Z3 (Wst.mk wo wg wb)).out).length:Int)∧(((Z3 (Wst.mk wo wg wb)).out).length:Int) < ((((Z3 (Wst.mk wo wg wb)).out)++([(OpOf.mk 0 0 [] y_1:Op)])).length:Int))∧((0:Nat)≤(Int.toNat (((Z3 (Wst.mk wo wg wb)).out).length:Int)))∧(Q .normal (⟨[],[(.x 0,[.mref (.x 0 0),sU .tree ((Z3 (Wst.mk wo wg wb)).gone) (.own (.x 0 1)),sU .tree ((Z3 (Wst.mk wo wg wb)).brought) (.own (.x 0 2))])],[(.x 0 0,LC.mk (U:=U) .op (List.set (((Z3 (Wst.mk wo wg wb)).out)++([(OpOf.mk 0 0 [] y_1:Op)])) (Int.toNat (((Z3 (Wst.mk wo wg wb)).out).length:Int)) (OpOf.mk 0 n [] y_1:Op)) 0)]⟩:LSt U))))))):=by kernel_rfl
 exact e_.mpr (by intro y_1 y_2 y_3 y_4;have hh:=h y_1 rfl y_2 rfl y_3 rfl y_4 (Z9 _);exact ⟨hh.1,⟨hh.2.1,⟨id,id,id,id,id,hh.2.2.1,id,id,id,(by generalize (decide ((0:Int)≤(((((Z3 (Wst.mk wo wg wb)).out).length:Int):Int) - 1)))=b0;revert b0;decide),⟨fun c_4=> ⟨(hh.2.2.2.1 c_4).1,(hh.2.2.2.1 c_4).2.1,(hh.2.2.2.1 c_4).2.2.1,(hh.2.2.2.1 c_4).2.2.2.1,(hh.2.2.2.1 c_4).2.2.2.2⟩,fun c_4=> ⟨(hh.2.2.2.2 c_4).1,(hh.2.2.2.2 c_4).2.1,(hh.2.2.2.2 c_4).2.2.1,(hh.2.2.2.2 c_4).2.2.2⟩⟩⟩⟩⟩)
def Zww(wo:List Op)(wg wb:List Tree)(n:Int):Prop:=AW (Z1 Znf) Try.f126 Zsh [] (Z1A (ZcT.can ((wo,wg,wb,()),n,())) (ZcT.canX ((wo,wg,wb,()),n,())) (ZcT.canL ((wo,wg,wb,()),n,()))) (Z42 cfg Try.f126.ntmps Try.f126.results.toList (Zkb ((wo,wg,wb,()),n,())) (ZgI ((wo,wg,wb,()),n,())) (ZgJ ((wo,wg,wb,()),n,())))
theorem Zva(Zpo:CT 129 Z2c)(hb:∀ (wo:List Op) (wg:List Tree) (wb:List Tree) (n:Int) (_:Unit),Z5c ((wo,wg,wb,()),n,())→Zww wo wg wb n):CT 126 Z6R:=
 Z0t (l:=[(129,Z2c)]) Zm rfl (⟨Zpo,trivial⟩) Zsh Try.func126 rfl rfl 2 (fun _=> rfl) (by decide) (fun ⟨⟨wo,wg,wb,_⟩,n,_⟩=> hb wo wg wb n ())
def ZcM:List (FuncId × Fs U):=[(71,Z0x)]
def Zjg:Zj U:=fun i=> match i with
 | 0=> ([(0,[]),(6,[]),(7,[]),(8,[])],[(.x 0,[.wr .op])])
 | 1=> ([(0,[]),(6,[]),(7,[]),(8,[]),(9,[])],[(.x 0,[.wr .op])])
 | 2=> ([(0,[]),(5,[]),(6,[]),(7,[]),(8,[])],[(.loc 5,[]),(.x 0,[.wr .op])])
 | 3=> ([(0,[]),(6,[]),(7,[]),(8,[])],[(.x 0,[.wr .op])])
 | 4=> ([(0,[]),(6,[]),(7,[]),(8,[])],[(.x 0,[.wr .op])])
 | _=> ([],[])
def Z7v(wo:List Op)(wg wb l:List Tree)(x8:Int)(mx0_1:List Tree):LSt U:=(⟨[(0,.ptr (.x 0) 1),(6,.c (sU .tree l .unk)),(7,.c (ci (l.length:Int))),(8,.c (ci x8))],[(.x 0,[.mref (.x 0 0),sU .tree mx0_1 (.own (.x 0 1)),sU .tree wb (.own (.x 0 2))])],[(.x 0 0,LC.mk (U:=U) .op wo 0)]⟩:LSt U)
abbrev ZBN(wo:List Op)(wg wb l:List Tree)(Q:QT):=AW (Z1 ZcM) Try.f127 Zjg [] (⟨[(0,.ptr (.x 0) 1),(1,.c (sU .tree l .unk))],[(.x 0,[.mref (.x 0 0),sU .tree wg (.own (.x 0 1)),sU .tree wb (.own (.x 0 2))])],[(.x 0 0,LC.mk (U:=U) .op wo 0)]⟩:LSt U) Q
theorem ZBa(wo:List Op)(wg wb l:List Tree)(Q:QT)(h:Ze (AW (Z1 ZcM) Try.f127 Zjg [1,0,0]) (Z7v wo wg wb l 0 wg) (xB 0 Q)):
  ZBN wo wg wb l Q:=by
 have e_:(ZBN wo wg wb l Q)=(type_of% h):=by kernel_rfl
 exact e_.mpr h
abbrev Zo7(wo:List Op)(wg wb l:List Tree)(x8:Int)(mx0_1:List Tree)(N0:NT)(Q:QT):=AW (Z1 ZcM) Try.f127 Zjg [1,0,0] (Z7v wo wg wb l x8 mx0_1) (xT N0 (xB 0 Q))
theorem Zqf(wo:List Op)(wg wb l:List Tree)(x8:Int)(mx0_1:List Tree)(N0:NT)(Q:QT)(h:((decide (x8 < (l.length:Int)))=true→((0:Int)≤x8∧x8 < (l.length:Int))∧((Z1e ((Tree.mk (Tree.kind (l.getD x8.toNat Tree.nil)) (Tree.words (l.getD x8.toNat Tree.nil)) (Tree.kids (l.getD x8.toNat Tree.nil))),()))∧((mx0_1.length+([(Tree.mk 0 [] [])]).length)*56≤140737488355328)∧((0:Int)≤(mx0_1.length:Int)∧(mx0_1.length:Int) < ((mx0_1++([(Tree.mk 0 [] [])])).length:Int))∧(mx0_1.length≤(Int.toNat (mx0_1.length:Int)))∧((InR (x8+1))∧(N0 (Z7v wo wg wb l (x8+1) (List.set (mx0_1++([(Tree.mk 0 [] [])])) (Int.toNat (mx0_1.length:Int)) (Tree.mk (Tree.kind (Z4 (Tree.mk (Tree.kind (l.getD x8.toNat Tree.nil)) (Tree.words (l.getD x8.toNat Tree.nil)) (Tree.kids (l.getD x8.toNat Tree.nil))))) (Tree.words (Z4 (Tree.mk (Tree.kind (l.getD x8.toNat Tree.nil)) (Tree.words (l.getD x8.toNat Tree.nil)) (Tree.kids (l.getD x8.toNat Tree.nil))))) (Tree.kids (Z4 (Tree.mk (Tree.kind (l.getD x8.toNat Tree.nil)) (Tree.words (l.getD x8.toNat Tree.nil)) (Tree.kids (l.getD x8.toNat Tree.nil))))))))))))∧((decide (x8 < (l.length:Int)))=false→Q .normal (⟨[(0,.ptr (.x 0) 1),(6,.c (sU .tree l .unk)),(7,.c (ci (l.length:Int))),(8,.c (ci x8)),(9,.c (.bool (decide (x8 < (l.length:Int)))))],[(.x 0,[.mref (.x 0 0),sU .tree mx0_1 (.own (.x 0 1)),sU .tree wb (.own (.x 0 2))])],[(.x 0 0,LC.mk (U:=U) .op wo 0)]⟩:LSt U))):
  Zo7 wo wg wb l x8 mx0_1 N0 Q:=by
 have e_:(Zo7 wo wg wb l x8 mx0_1 N0 Q)=(type_of% h):=by kernel_rfl
 exact e_.mpr ⟨fun c_5=> ⟨(h.1 c_5).1,⟨(h.1 c_5).2.1,(h.1 c_5).2.2.1,(h.1 c_5).2.2.2.1,(h.1 c_5).2.2.2.2.1,⟨(h.1 c_5).2.2.2.2.2.1,(h.1 c_5).2.2.2.2.2.2⟩⟩⟩,fun c_5=> (h.2 c_5)⟩
def Zwv(wo:List Op)(wg wb l:List Tree):Prop:=AW (Z1 ZcM) Try.f127 Zjg [] (Z1A (ZcS.can ((wo,wg,wb,()),l,())) (ZcS.canX ((wo,wg,wb,()),l,())) (ZcS.canL ((wo,wg,wb,()),l,()))) (Z42 cfg Try.f127.ntmps Try.f127.results.toList (Zrd ((wo,wg,wb,()),l,())) (Zm5 ((wo,wg,wb,()),l,())) (Zm6 ((wo,wg,wb,()),l,())))
theorem Zv9(c71:CT 71 Z0x)(hb:∀ (wo:List Op) (wg:List Tree) (wb:List Tree) (l:List Tree) (_:Unit),ZaW ((wo,wg,wb,()),l,())→Zwv wo wg wb l):CT 127 Zgy:=
 Z0t (l:=[(71,Z0x)]) Zm rfl (⟨c71,trivial⟩) Zjg Try.func127 rfl rfl 2 (fun _=> rfl) (by decide) (fun ⟨⟨wo,wg,wb,_⟩,l,_⟩=> hb wo wg wb l ())
def Z9Q:List (FuncId × Fs U):=[(71,Z0x)]
def Zeo:Zj U:=fun i=> match i with
 | 0=> ([(0,[]),(6,[]),(7,[]),(8,[])],[(.x 0,[.wr .op])])
 | 1=> ([(0,[]),(6,[]),(7,[]),(8,[]),(9,[])],[(.x 0,[.wr .op])])
 | 2=> ([(0,[]),(5,[]),(6,[]),(7,[]),(8,[])],[(.loc 5,[]),(.x 0,[.wr .op])])
 | 3=> ([(0,[]),(6,[]),(7,[]),(8,[])],[(.x 0,[.wr .op])])
 | 4=> ([(0,[]),(6,[]),(7,[]),(8,[])],[(.x 0,[.wr .op])])
 | _=> ([],[])
def Z5k(wo:List Op)(wg wb l:List Tree)(x8:Int)(mx0_2:List Tree):LSt U:=(⟨[(0,.ptr (.x 0) 2),(6,.c (sU .tree l .unk)),(7,.c (ci (l.length:Int))),(8,.c (ci x8))],[(.x 0,[.mref (.x 0 0),sU .tree wg (.own (.x 0 1)),sU .tree mx0_2 (.own (.x 0 2))])],[(.x 0 0,LC.mk (U:=U) .op wo 0)]⟩:LSt U)
abbrev Zxl(wo:List Op)(wg wb l:List Tree)(Q:QT):=AW (Z1 Z9Q) Try.f127 Zeo [] (⟨[(0,.ptr (.x 0) 2),(1,.c (sU .tree l .unk))],[(.x 0,[.mref (.x 0 0),sU .tree wg (.own (.x 0 1)),sU .tree wb (.own (.x 0 2))])],[(.x 0 0,LC.mk (U:=U) .op wo 0)]⟩:LSt U) Q
theorem ZxE(wo:List Op)(wg wb l:List Tree)(Q:QT)(h:Ze (AW (Z1 Z9Q) Try.f127 Zeo [1,0,0]) (Z5k wo wg wb l 0 wb) (xB 0 Q)):
  Zxl wo wg wb l Q:=by
 have e_:(Zxl wo wg wb l Q)=(type_of% h):=by kernel_rfl
 exact e_.mpr h
abbrev ZjM(wo:List Op)(wg wb l:List Tree)(x8:Int)(mx0_2:List Tree)(N0:NT)(Q:QT):=AW (Z1 Z9Q) Try.f127 Zeo [1,0,0] (Z5k wo wg wb l x8 mx0_2) (xT N0 (xB 0 Q))
theorem Zoh(wo:List Op)(wg wb l:List Tree)(x8:Int)(mx0_2:List Tree)(N0:NT)(Q:QT)(h:((decide (x8 < (l.length:Int)))=true→((0:Int)≤x8∧x8 < (l.length:Int))∧((Z1e ((Tree.mk (Tree.kind (l.getD x8.toNat Tree.nil)) (Tree.words (l.getD x8.toNat Tree.nil)) (Tree.kids (l.getD x8.toNat Tree.nil))),()))∧((mx0_2.length+([(Tree.mk 0 [] [])]).length)*56≤140737488355328)∧((0:Int)≤(mx0_2.length:Int)∧(mx0_2.length:Int) < ((mx0_2++([(Tree.mk 0 [] [])])).length:Int))∧(mx0_2.length≤(Int.toNat (mx0_2.length:Int)))∧((InR (x8+1))∧(N0 (Z5k wo wg wb l (x8+1) (List.set (mx0_2++([(Tree.mk 0 [] [])])) (Int.toNat (mx0_2.length:Int)) (Tree.mk (Tree.kind (Z4 (Tree.mk (Tree.kind (l.getD x8.toNat Tree.nil)) (Tree.words (l.getD x8.toNat Tree.nil)) (Tree.kids (l.getD x8.toNat Tree.nil))))) (Tree.words (Z4 (Tree.mk (Tree.kind (l.getD x8.toNat Tree.nil)) (Tree.words (l.getD x8.toNat Tree.nil)) (Tree.kids (l.getD x8.toNat Tree.nil))))) (Tree.kids (Z4 (Tree.mk (Tree.kind (l.getD x8.toNat Tree.nil)) (Tree.words (l.getD x8.toNat Tree.nil)) (Tree.kids (l.getD x8.toNat Tree.nil))))))))))))∧((decide (x8 < (l.length:Int)))=false→Q .normal (⟨[(0,.ptr (.x 0) 2),(6,.c (sU .tree l .unk)),(7,.c (ci (l.length:Int))),(8,.c (ci x8)),(9,.c (.bool (decide (x8 < (l.length:Int)))))],[(.x 0,[.mref (.x 0 0),sU .tree wg (.own (.x 0 1)),sU .tree mx0_2 (.own (.x 0 2))])],[(.x 0 0,LC.mk (U:=U) .op wo 0)]⟩:LSt U))):
  ZjM wo wg wb l x8 mx0_2 N0 Q:=by
 have e_:(ZjM wo wg wb l x8 mx0_2 N0 Q)=(type_of% h):=by kernel_rfl
 exact e_.mpr ⟨fun c_6=> ⟨(h.1 c_6).1,⟨(h.1 c_6).2.1,(h.1 c_6).2.2.1,(h.1 c_6).2.2.2.1,(h.1 c_6).2.2.2.2.1,⟨(h.1 c_6).2.2.2.2.2.1,(h.1 c_6).2.2.2.2.2.2⟩⟩⟩,fun c_6=> (h.2 c_6)⟩
def ZtH(wo:List Op)(wg wb l:List Tree):Prop:=AW (Z1 Z9Q) Try.f127 Zeo [] (Z1A (Zao.can ((wo,wg,wb,()),l,())) (Zao.canX ((wo,wg,wb,()),l,())) (Zao.canL ((wo,wg,wb,()),l,()))) (Z42 cfg Try.f127.ntmps Try.f127.results.toList (Zmh ((wo,wg,wb,()),l,())) (Ziv ((wo,wg,wb,()),l,())) (Ziw ((wo,wg,wb,()),l,())))
theorem ZrW(c71:CT 71 Z0x)(hb:∀ (wo:List Op) (wg:List Tree) (wb:List Tree) (l:List Tree) (_:Unit),Z76 ((wo,wg,wb,()),l,())→ZtH wo wg wb l):CT 127 Zdr:=
 Z0t (l:=[(71,Z0x)]) Zm rfl (⟨c71,trivial⟩) Zeo Try.func127 rfl rfl 2 (fun _=> rfl) (by decide) (fun ⟨⟨wo,wg,wb,_⟩,l,_⟩=> hb wo wg wb l ())
def Zjn:List (FuncId × Fs U):=[]
def ZkD:Zj U:=lvl [([0,3],[3]),([4],[])]
abbrev Zxk(list:Int)(e:Edit)(Q:QT):=AW (Z1 Zjn) Try.f128 ZkD [] (L2 [(0,.c (ci list)),(1,.agg (enc .edit e))] []) Q
theorem ZxD(list:Int)(e:Edit)(Q:QT)(h:(((!(e.kind==0)) && (bif (list==9) then (e.kind==2) else false))=true→InR (((e.words.length:Int):Int)+(e.kids.length:Int)))∧(Q .ret (L2 [(4,.c (.bool (bif (e.kind==0) then true else (bif (bif (list==9) then (e.kind==2) else false) then (((((e.words.length:Int):Int)+(e.kids.length:Int)):Int)==0) else false))))] []))):
  Zxk list e Q:=by
 have e_:(Zxk list e Q)=(let zz1:=(!(e.kind==0));let zz0:=(bif ((list:Int)==9) then (e.kind==2) else false);((ZH (zz1=true))∧(ZH (zz1=true))∧(ZH ((zz1 && ((list:Int)==9))=true))∧(ZH ((zz1 && ((list:Int)==9))=true))∧(zz1=true→(True→zz1=true))∧(zz1=true→(((list:Int)==9)=true→(zz1 && ((list:Int)==9))=true))∧(ZH (zz1=true))∧(ZH ((zz1 && zz0)=true))∧(ZH ((zz1 && zz0)=true))∧(ZH ((zz1 && zz0)=true))∧(ZH ((zz1 && zz0)=true))∧(ZH ((zz1 && zz0)=true))∧(ZH ((zz1 && zz0)=true))∧((zz1 && zz0)=true→InR ((e.words.length:Int)+(e.kids.length:Int)))∧(ZH ((zz1 && zz0)=true))∧(zz1=true→(True→zz1=true))∧(zz1=true→(zz0=true→(zz1 && zz0)=true))∧((e.kind==0)=false→zz1=true)∧(Q .ret (L2 [(4,.c (.bool (bif (e.kind==0) then true else (bif zz0 then ((((e.words.length:Int)+(e.kids.length:Int)):Int)==0) else false))))] [])))):=by kernel_rfl
 exact e_.mpr ⟨id,id,id,id,(by generalize ((e.kind:Int)==0)=b0;revert b0;decide),(by generalize ((e.kind:Int)==0)=b0;generalize ((list:Int)==9)=b1;revert b0 b1;decide),id,id,id,id,id,id,id,h.1,id,(by generalize ((e.kind:Int)==0)=b0;revert b0;decide),(by generalize ((e.kind:Int)==2)=b0;generalize ((e.kind:Int)==0)=b1;generalize ((list:Int)==9)=b2;revert b0 b1 b2;decide),(by generalize ((e.kind:Int)==0)=b0;revert b0;decide),h.2⟩
def ZtG(list:Int)(e:Edit):Prop:=AW (Z1 Zjn) Try.f128 ZkD [] (Zk (ZjG.can (list,e,())) []) (EQ Try.f128 (Zmg (list,e,())) [])
theorem ZrV(hb:∀ (list:Int) (e:Edit) (_:Unit),Z75 (list,e,())→ZtG list e):CT 128 Z47:=
 Z7 (l:=[]) Zm rfl trivial ZkD Try.func128 rfl rfl 2 (fun _=> rfl) (by decide) (fun ⟨list,e,_⟩=> hb list e ())
def Zjo:List (FuncId × Fs U):=[]
def ZkE:Zj U:=lvl [([0,3],[3]),([4],[])]
abbrev Zxm(list:Int)(e:Edit)(Q:QT):=AW (Z1 Zjo) Try.f111 ZkE [] (L2 [(0,.c (ci list)),(1,.agg (enc .edit e))] []) Q
theorem ZxF(list:Int)(e:Edit)(Q:QT)(h:Q .ret (L2 [(4,.c (.bool (bif (e.kind==0) then true else (bif (bif (bif (e.kind==2) then (list==9) else false) then (((e.words.length:Int):Int)==0) else false) then (((e.kids.length:Int):Int)==0) else false))))] [])):
  Zxm list e Q:=by
 have e_:(Zxm list e Q)=(let zz2:=(bif (e.kind==2) then ((list:Int)==9) else false);let zz1:=(!(e.kind==0));let zz0:=(bif zz2 then ((e.words.length:Int)==0) else false);((ZH (zz1=true))∧(ZH (zz1=true))∧(ZH (zz1=true))∧(ZH ((zz1 && (e.kind==2))=true))∧(zz1=true→(True→zz1=true))∧(zz1=true→((e.kind==2)=true→(zz1 && (e.kind==2))=true))∧(ZH (zz1=true))∧(ZH ((zz1 && zz2)=true))∧(ZH ((zz1 && zz2)=true))∧(ZH ((zz1 && zz2)=true))∧(zz1=true→(True→zz1=true))∧(zz1=true→(zz2=true→(zz1 && zz2)=true))∧(ZH (zz1=true))∧(ZH ((zz1 && zz0)=true))∧(ZH ((zz1 && zz0)=true))∧(ZH ((zz1 && zz0)=true))∧(zz1=true→(True→zz1=true))∧(zz1=true→(zz0=true→(zz1 && zz0)=true))∧((e.kind==0)=false→zz1=true)∧(Q .ret (L2 [(4,.c (.bool (bif (e.kind==0) then true else (bif zz0 then ((e.kids.length:Int)==0) else false))))] [])))):=by kernel_rfl
 exact e_.mpr ⟨id,id,id,id,(by generalize ((e.kind:Int)==0)=b0;revert b0;decide),(by generalize ((e.kind:Int)==2)=b0;generalize ((e.kind:Int)==0)=b1;revert b0 b1;decide),id,id,id,id,(by generalize ((e.kind:Int)==0)=b0;revert b0;decide),(by generalize ((e.kind:Int)==2)=b0;generalize ((e.kind:Int)==0)=b1;generalize ((list:Int)==9)=b2;revert b0 b1 b2;decide),id,id,id,id,(by generalize ((e.kind:Int)==0)=b0;revert b0;decide),(by generalize (((e.words.length:Int):Int)==0)=b0;generalize ((e.kind:Int)==2)=b1;generalize ((e.kind:Int)==0)=b2;generalize ((list:Int)==9)=b3;revert b0 b1 b2 b3;decide),(by generalize ((e.kind:Int)==0)=b0;revert b0;decide),h⟩
def ZtI(list:Int)(e:Edit):Prop:=AW (Z1 Zjo) Try.f111 ZkE [] (Zk (ZjH.can (list,e,())) []) (EQ Try.f111 (Zmi (list,e,())) [])
theorem ZrX(hb:∀ (list:Int) (e:Edit) (_:Unit),Z9n (list,e,())→ZtI list e):CT 111 Z48:=
 Z7 (l:=[]) Zm rfl trivial ZkE Try.func111 rfl rfl 2 (fun _=> rfl) (by decide) (fun ⟨list,e,_⟩=> hb list e ())
end
end Go.AM.Ytpjenobkibfpcaa
namespace Go.AM.Ytpjenobkibfpcaa
open Go.AM Go.Proofs
theorem Z2Z{α:Type}(l:List α)(z x:α):(l++[z]).set (Int.toNat (l.length:Int)) x=l++[x]:=by
 rw [Int.toNat_natCast,List.set_append_right _ _ (Nat.le_refl _)]
 simp
theorem Z6o:∀ (F:List Op) (n:Int),Jj F n=if F.length≠0∧(F.getD (F.length - 1) Op.nil).kind=0 then F.set (F.length - 1) ⟨(F.getD (F.length - 1) Op.nil).kind,(F.getD (F.length - 1) Op.nil).n+n,(F.getD (F.length - 1) Op.nil).l,(F.getD (F.length - 1) Op.nil).e⟩ else F++[⟨0,n,[],Edit.nil⟩]
 | [],n=> by simp [Jj]
 | [o],n=> by simp [Jj]
 | o ::p ::r,n=> by
  have ih:=Z6o (p ::r) n
  have e:(o ::p ::r).length - 1=((p ::r).length - 1)+1:=by simp
  rw [Jj,ih,e]
  simp only [List.getD_cons_succ,List.set_cons_succ]
  by_cases h:(p ::r).length≠0∧((p ::r).getD ((p ::r).length - 1) Op.nil).kind=0
  ·rw [if_pos h,if_pos ⟨by simp,h.2⟩]
  ·have h':¬((p ::r).getD ((p ::r).length - 1) Op.nil).kind=0:=fun e=> h ⟨by simp,e⟩
   rw [if_neg h,if_neg (fun e=> h' e.2)]
   try rfl
theorem Z7F(s:Wst):(Z3 s).out.length≤s.out.length+2:=by
 simp only [Z3,Z0F]
 split <;> split <;> simp
theorem Z7E(s:Wst):∀ o∈(Z3 s).out,o∈s.out∨o.n=0:=by
 intro o ho
 simp only [Z3,Z0F,List.mem_append] at ho
 rcases ho with h | h | h
 ·exact .inl h
 ·split at h
  ·cases h
  ·simp only [List.mem_singleton] at h;subst h;exact .inr rfl
 ·split at h
  ·cases h
  ·simp only [List.mem_singleton] at h;subst h;exact .inr rfl
theorem Zpo:Contract Try.prog cfg 129 Z2c:=by
 refine Zv8 ?_
 intro wo wg wb _ hp
 simp only [Z1Y] at hp
 refine ZB9 wo wg wb _ ?_
 rintro y1 hy1 y2 hy2
 have hy:y1=Edit.nil:=hy1
 subst hy
 rw [Z2Z] at hy2
 subst hy2
 (simp only [vcS])
 refine ⟨fun h1=> ⟨by simp;omega,by simp;omega,by omega,fun h2=> ⟨by simp;omega,by simp;omega,by omega,?_⟩,fun h2=> ?_⟩,fun h1=> ⟨fun h2=> ⟨by simp;omega,by simp;omega,by omega,?_⟩,fun h2=> ?_⟩⟩
 ·rw [Z2Z]
  have e:Z3 ⟨wo,wg,wb⟩=⟨wo++[⟨1,0,wg,Edit.nil⟩]++[⟨2,0,wb,Edit.nil⟩],[],[]⟩:=by
   simp only [Z3,Z0F];rw [if_neg (by omega),if_neg (by omega)];simp
  simp only [ZaL,Z72,Z73,e]
  (repeat' (first | exact trivial | exact rfl | apply And.intro))
 ·have e:Z3 ⟨wo,wg,wb⟩=⟨wo++[⟨1,0,wg,Edit.nil⟩],[],[]⟩:=by
   simp only [Z3,Z0F];rw [if_neg (by omega),if_pos (by omega)];simp
  simp only [ZaL,Z72,Z73,e]
  (repeat' (first | exact trivial | exact rfl | apply And.intro))
 ·rw [Z2Z]
  have e:Z3 ⟨wo,wg,wb⟩=⟨wo++[⟨2,0,wb,Edit.nil⟩],[],[]⟩:=by
   simp only [Z3,Z0F];rw [if_pos (by omega),if_neg (by omega)];simp
  simp only [ZaL,Z72,Z73,e]
  (repeat' (first | exact trivial | exact rfl | apply And.intro))
 ·have e:Z3 ⟨wo,wg,wb⟩=⟨wo,[],[]⟩:=by
   simp only [Z3,Z0F];rw [if_pos (by omega),if_pos (by omega)];simp
  simp only [ZaL,Z72,Z73,e]
  (repeat' (first | exact trivial | exact rfl | apply And.intro))
theorem Zzh:Contract Try.prog cfg 126 Z6R:=by
 refine Zva Zpo ?_
 intro wo wg wb n _ hp
 simp only [Z5c] at hp
 obtain ⟨p1,p2,p3,p4,p5,p6⟩:=hp
 have hfl:=Z7F ⟨wo,wg,wb⟩
 have hfm:=Z7E ⟨wo,wg,wb⟩
 have hg:(Z3 ⟨wo,wg,wb⟩).gone=[]:=rfl
 have hb:(Z3 ⟨wo,wg,wb⟩).brought=[]:=rfl
 have hk:=Z6o (Z3 ⟨wo,wg,wb⟩).out n
 have hkw:ZW ⟨wo,wg,wb⟩ n=⟨Jj (Z3 ⟨wo,wg,wb⟩).out n,[],[]⟩:=rfl
 refine ZBb wo wg wb n _ ?_
 simp only [hg,hb,Zkb,ZgI,ZgJ,hkw]
 generalize (Z3 ⟨wo,wg,wb⟩).out=F at*
 simp only at hfl hfm
 rintro y1 hy1 y2 hy2 y3 hy3 y4 hy4
 have hy:y1=Edit.nil:=hy1
 subst hy
 have e2:y2=F.length - 1:=by omega
 subst e2
 rw [←hy3,←hy4] at hk
 (simp only [vcS])
 refine ⟨by simp only [Z1Y];exact ⟨p1,p2,p3⟩,by unfold InR;omega,fun h=> ⟨h,by omega⟩,fun h=> ?_,fun h=> ?_⟩
 ·have hy3n:0≤y3.n∧y3.n≤100000000000000000:=by
   have hm:y3∈F:=by rw [hy3];exact Zg (by omega) _
   rcases hfm y3 hm with h1 | h1
   ·exact p4 y3 h1
   ·omega
  rw [if_pos ⟨by omega,h.2⟩] at hk
  rw [hk]
  refine ⟨by omega,by unfold InR;omega,by omega,by omega,?_⟩
  (repeat' (first | exact trivial | exact rfl | apply And.intro))
 ·rw [if_neg (by omega)] at hk
  rw [hk,Z2Z]
  refine ⟨by simp;omega,by simp;omega,by omega,?_⟩
  (repeat' (first | exact trivial | exact rfl | apply And.intro))
theorem ZD3:Contract Try.prog cfg 127 Zgy:=by
 refine Zv9 c71 ?_
 intro wo wg wb l _ hp
 simp only [ZaW] at hp
 obtain ⟨p1,p2,p3,p4⟩:=hp
 have hl:=ZA l
 refine ZBa _ _ _ _ _ ?_
 refine Z6 (ι:=Int × List Tree) (fun s=> Z7v wo wg wb l s.1 s.2) (fun s=> 0≤s.1∧s.1≤l.length∧s.2.length=wg.length+s.1∧s.2++Z8 (l.drop s.1.toNat)=wg++Z8 l) (fun s=> ((l.length:Int) - s.1).toNat) (0,wg) rfl ⟨by simp,by simp,by simp,by simp⟩ ?_
 rintro ⟨i,out⟩ ⟨h1,h2,h3,h4⟩
 dsimp only at h1 h2 h3 h4
 refine Zqf _ _ _ _ _ _ _ _ ?_
 (simp only [vcS])
 (simp only [Tree.eta,Edit.eta,Tree.kind_mk,Tree.words_mk,Tree.kids_mk])
 refine ⟨fun hi=> ?_,fun hi=> ?_⟩
 ·have hm:=YJ (Zg (l:=l) (i:=i.toNat) (by omega) Tree.nil)
  rw [Y1 h1 hi Tree.nil] at h4
  simp only [Z8,List.map_cons] at h4
  rw [Z2Z]
  refine ⟨⟨h1,hi⟩,by simp only [Z1e];omega,by simp;omega,by simp;omega,by omega,by unfold InR;omega,(i+1,out++[Z4 (l.getD i.toNat Tree.nil)]),rfl,⟨by dsimp only;omega,by dsimp only;omega,by simp;omega,?_⟩,by dsimp only;omega⟩
  simp only [List.append_assoc,List.cons_append,List.nil_append]
  exact h4
 ·rw [List.drop_of_length_le (by omega)] at h4
  simp only [Z8,List.map_nil,List.append_nil] at h4
  rw [h4]
  (repeat' (first | exact trivial | exact rfl | apply And.intro))
theorem ZBG:Contract Try.prog cfg 127 Zdr:=by
 refine ZrW c71 ?_
 intro wo wg wb l _ hp
 simp only [Z76] at hp
 obtain ⟨p1,p2,p3,p4⟩:=hp
 have hl:=ZA l
 refine ZxE _ _ _ _ _ ?_
 refine Z6 (ι:=Int × List Tree) (fun s=> Z5k wo wg wb l s.1 s.2) (fun s=> 0≤s.1∧s.1≤l.length∧s.2.length=wb.length+s.1∧s.2++Z8 (l.drop s.1.toNat)=wb++Z8 l) (fun s=> ((l.length:Int) - s.1).toNat) (0,wb) rfl ⟨by simp,by simp,by simp,by simp⟩ ?_
 rintro ⟨i,out⟩ ⟨h1,h2,h3,h4⟩
 dsimp only at h1 h2 h3 h4
 refine Zoh _ _ _ _ _ _ _ _ ?_
 (simp only [vcS])
 (simp only [Tree.eta,Edit.eta,Tree.kind_mk,Tree.words_mk,Tree.kids_mk])
 refine ⟨fun hi=> ?_,fun hi=> ?_⟩
 ·have hm:=YJ (Zg (l:=l) (i:=i.toNat) (by omega) Tree.nil)
  rw [Y1 h1 hi Tree.nil] at h4
  simp only [Z8,List.map_cons] at h4
  rw [Z2Z]
  refine ⟨⟨h1,hi⟩,by simp only [Z1e];omega,by simp;omega,by simp;omega,by omega,by unfold InR;omega,(i+1,out++[Z4 (l.getD i.toNat Tree.nil)]),rfl,⟨by dsimp only;omega,by dsimp only;omega,by simp;omega,?_⟩,by dsimp only;omega⟩
  simp only [List.append_assoc,List.cons_append,List.nil_append]
  exact h4
 ·rw [List.drop_of_length_le (by omega)] at h4
  simp only [Z8,List.map_nil,List.append_nil] at h4
  rw [h4]
  (repeat' (first | exact trivial | exact rfl | apply And.intro))
theorem Zt3:Contract Try.prog cfg 128 Z47:=by
 refine ZrV ?_
 intro list e _ hp
 simp only [Z75] at hp
 refine ZxD _ _ _ ?_
 refine ⟨fun _=> by unfold InR;dsimp only;omega,Zi rfl ?_⟩
 rw [Bool.eq_iff_iff]
 simp only [Z3I]
 (simp only [vcS])
 omega
theorem Zt4:Contract Try.prog cfg 111 Z48:=by
 refine ZrX ?_
 intro list e _ hp
 refine ZxF _ _ _ ?_
 refine Zi rfl ?_
 rw [Bool.eq_iff_iff]
 simp only [Z3I]
 (simp only [vcS])
 omega
noncomputable def Z5N:Fs U:=ZyS Zgy Zdr
theorem Zt0:Contract Try.prog cfg 127 Z5N:=ZjC ZD3 ZBG
end Go.AM.Ytpjenobkibfpcaa
namespace Go.AM.Ytpjenobkibfpcaa
open Go.AM Go.Proofs
noncomputable section
noncomputable section
def ZhJ:ArgL (Edit × Unit):=(.cons (aEl .edit) .nil)
def Z26(a:Edit × Unit):Prop:=Z5 a.1≤20000000000∧∃ d,Za a.1 d=true
def Zea(a:Edit × Unit):Nat:=2*Z5 a.1
def ZbF(a:Edit × Unit):V U:= .agg (enc .edit (Zy a.1))
def Z5L:Fs U:=fs ZhJ (fun a=> [Z26 a]) ZbF
def ZhG:ArgL (Int × List Op × Unit):=(.cons (JI .i64) (.cons (aSl .op) .nil))
def ZbL(a:Int × List Op × Unit):Prop:=Zh a.2.1≤20000000000∧∀ o∈a.2.1,∃ d,Zc a.1 o d=true
def Zj0(a:Int × List Op × Unit):Nat:=2*Zh a.2.1+1
def Zix(a:Int × List Op × Unit):V U:= .c (sU .op ((Z3 (Zq a.1 a.2.1 (Wst.mk [] [] []))).out) .unk)
def ZqI:Fs U:=fs ZhG (fun a=> [ZbL a]) Zix
def Z3Z(N:Nat):List (FuncId × Fs U):=(57,fs ZhJ (fun a=> [Z26 a,Zea a < N]) ZbF) ::(94,fs ZhG (fun a=> [ZbL a,Zj0 a < N]) Zix) ::[(71,Z0x),(128,Z47),(126,Z6R),(129,Z2c),(127,Z5N)]
def Zhb:Zj U:=fun i=> match i with
 | 0=> ([(1,[]),(2,[])],[(.loc 1,[]),(.loc 2,[])])
 | 1=> ([(1,[]),(2,[]),(3,[])],[(.loc 1,[]),(.loc 2,[]),(.loc 3,[])])
 | 2=> ([(1,[]),(2,[]),(3,[]),(12,[])],[(.loc 1,[]),(.loc 2,[]),(.loc 3,[])])
 | 3=> ([(1,[]),(2,[]),(3,[]),(12,[]),(13,[])],[(.loc 1,[]),(.loc 2,[]),(.loc 3,[])])
 | 4=> ([(2,[]),(3,[])],[(.loc 2,[]),(.loc 3,[])])
 | 5=> ([(1,[]),(2,[]),(3,[]),(12,[]),(23,[])],[(.loc 1,[]),(.loc 2,[]),(.loc 3,[])])
 | 6=> ([(1,[]),(2,[]),(3,[])],[(.loc 1,[]),(.loc 2,[]),(.loc 3,[])])
 | 7=> ([(2,[]),(3,[]),(32,[]),(33,[]),(34,[])],[(.loc 2,[]),(.loc 3,[.any,.any,.any,.any,.any,.any,.any,.any,.own .kid])])
 | 8=> ([(2,[]),(3,[]),(32,[]),(33,[]),(34,[]),(35,[])],[(.loc 2,[]),(.loc 3,[])])
 | 9=> ([(2,[]),(3,[]),(5,[]),(32,[]),(33,[]),(34,[])],[(.loc 2,[]),(.loc 3,[]),(.loc 5,[])])
 | 10=> ([(2,[]),(3,[]),(32,[]),(33,[]),(34,[])],[(.loc 2,[]),(.loc 3,[])])
 | 11=> ([(2,[]),(3,[]),(32,[]),(33,[]),(34,[])],[(.loc 2,[]),(.loc 3,[.any,.any,.any,.any,.any,.any,.any,.any,.own .kid])])
 | 12=> ([(1,[]),(2,[]),(3,[]),(50,[])],[(.loc 1,[]),(.loc 2,[]),(.loc 3,[])])
 | 13=> ([(2,[]),(3,[])],[(.loc 2,[]),(.loc 3,[])])
 | 14=> ([(2,[])],[(.loc 2,[])])
 | _=> ([],[])
def Z4q(e:Edit)(x34:Int)(ml3_8:List Kid):LSt U:=(L2 [(2,.ptr (.loc 2) 0),(3,.ptr (.loc 3) 0),(32,.c (sU .kid e.kids .unk)),(33,.c (ci (e.kids.length:Int))),(34,.c (ci x34))] [(.loc 2,zc1),(.loc 3,[ci e.kind,ci 0,.nils,.nils,ci 0,.nils,.nils,sU .wedit (([]:List WEdit)++e.words) (.own (.l 3 7)),sU .kid ml3_8 (.own (.l 3 8)),ci e.list,.nils])])
abbrev W57(N:Nat)(e:Edit)(Q:QT):=AW (Z1 (Z3Z N)) Try.f57 Zhb [] (L2 [(0,.agg (enc .edit e))] []) Q
abbrev ZpB(N:Nat):=awp cfg (Z1 (Z3Z N)) (ZS cfg (Z1 (Z3Z N))) Try.f57.ntmps Zhb
abbrev Zot(N:Nat):=ZaF cfg (Z1 (Z3Z N)) (ZS cfg (Z1 (Z3Z N))) Try.f57.ntmps Zhb
theorem ZCE(N:Nat)(e:Edit)(Q:QT)(h:((e.kind==1)=true→(Z1e ((Tree.mk e.old.kind e.old.words e.old.kids),()))∧(Z1e ((Tree.mk e.new.kind e.new.words e.new.kids),()))∧(Q .ret (L2 [(2,.ptr (.loc 2) 0)] [(.loc 2,([ci e.kind]++enc .tree (Z4 (Tree.mk e.old.kind e.old.words e.old.kids))++enc .tree (Z4 (Tree.mk e.new.kind e.new.words e.new.kids))++[.nils,.nils,ci e.list,.nils]))])))∧((e.kind==1)=false→((e.kind==2)=true→((([]:List WEdit).length+e.words.length)*32≤140737488355328)∧(Ze (AW (Z1 (Z3Z N)) Try.f57 Zhb [1,1,0,1,0,1,1,1,0,1,1,0,0]) (Z4q e 0 []) (xB 1 (xB 0 (SW (Z1 (Z3Z N)) Try.f57 Zhb [1,1,1] Q)))))∧((e.kind==2)=false→((e.kind==3)=true→(ZbL (e.list,e.ops,()))∧(Zj0 (e.list,e.ops,()) < N)∧(Q .ret (L2 [(2,.ptr (.loc 2) 0)] [(.loc 2,[ci e.kind,ci 0,.nils,.nils,ci 0,.nils,.nils,.nils,.nils,ci e.list,sU .op ((Z3 (Zq e.list e.ops (Wst.mk [] [] []))).out) .unk])])))∧((e.kind==3)=false→Q .ret (L2 [(2,.ptr (.loc 2) 0)] [(.loc 2,[ci e.kind,ci 0,.nils,.nils,ci 0,.nils,.nils,.nils,.nils,ci e.list,.nils])]))))):
  W57 N e Q:=by
 have e_:(W57 N e Q)=(((e.kind==1)=true→(Z1e ((Tree.mk e.old.kind e.old.words e.old.kids),()))∧(Z1e ((Tree.mk e.new.kind e.new.words e.new.kids),()))∧(Q .ret (L2 [(2,.ptr (.loc 2) 0)] [(.loc 2,([ci e.kind]++enc .tree (Z4 (Tree.mk e.old.kind e.old.words e.old.kids))++enc .tree (Z4 (Tree.mk e.new.kind e.new.words e.new.kids))++[.nils,.nils,ci e.list,.nils]))])))∧((e.kind==1)=false→(((e.kind==2)=true→((([]:List WEdit).length+e.words.length)*32≤140737488355328)∧(Ze (ZpB N (cd Try.f57 [1,1,0,1,0,1,1,1,0,1,1,0,0])) (Z4q e 0 []) (xB 1 (xB 0 (Zot N (cd Try.f57 [1,1,1]) Q)))))∧((e.kind==2)=false→(((e.kind==3)=true→(ZbL (e.list,e.ops,()))∧(Zj0 (e.list,e.ops,()) < N)∧(Q .ret (L2 [(2,.ptr (.loc 2) 0)] [(.loc 2,[ci e.kind,ci 0,.nils,.nils,ci 0,.nils,.nils,.nils,.nils,ci e.list,sU .op ((Z3 (Zq e.list e.ops (Wst.mk [] [] []))).out) .unk])])))∧((e.kind==3)=false→(Q .ret (L2 [(2,.ptr (.loc 2) 0)] [(.loc 2,[ci e.kind,ci 0,.nils,.nils,ci 0,.nils,.nils,.nils,.nils,ci e.list,.nils])])))))))):=by kernel_rfl
 exact e_.mpr ⟨fun c_1=> ⟨(h.1 c_1).1,(h.1 c_1).2.1,(h.1 c_1).2.2⟩,fun c_1=> ⟨fun c_2=> ⟨((h.2 c_1).1 c_2).1,((h.2 c_1).1 c_2).2⟩,fun c_2=> ⟨fun c_3=> ⟨(((h.2 c_1).2 c_2).1 c_3).1,(((h.2 c_1).2 c_2).1 c_3).2.1,(((h.2 c_1).2 c_2).1 c_3).2.2⟩,fun c_3=> (((h.2 c_1).2 c_2).2 c_3)⟩⟩⟩
abbrev ZtA(N:Nat)(e:Edit)(x34:Int)(ml3_8:List Kid)(N0:NT)(Q:QT):=AW (Z1 (Z3Z N)) Try.f57 Zhb [1,1,0,1,0,1,1,1,0,1,1,0,0] (Z4q e x34 ml3_8) (xT N0 (xB 1 (xB 0 (SW (Z1 (Z3Z N)) Try.f57 Zhb [1,1,1] Q))))
theorem Zuf(N:Nat)(e:Edit)(x34:Int)(ml3_8:List Kid)(N0:NT)(Q:QT)(h:∀ y_1,y_1=(e.kids.getD x34.toNat (KidOf.mk 0 Edit.nil))→∀ y_2,y_2=(y_1.e)→∀ y_3,y_3=(Zy y_2)→((decide (x34 < (e.kids.length:Int)))=true→((0:Int)≤x34∧x34 < (e.kids.length:Int))∧((Z26 (y_2,()))∧(Zea (y_2,()) < N)∧((ml3_8.length+([(KidOf.mk y_1.at_ y_3:Kid)]).length)*208≤140737488355328)∧((InR (x34+1))∧(N0 (Z4q e (x34+1) (ml3_8++([(KidOf.mk y_1.at_ y_3:Kid)])))))))∧((decide (x34 < (e.kids.length:Int)))=false→Q .ret (L2 [(2,.ptr (.loc 2) 0)] [(.loc 2,[ci e.kind,ci 0,.nils,.nils,ci 0,.nils,.nils,sU .wedit (([]:List WEdit)++e.words) (.own (.l 2 7)),sU .kid ml3_8 (.own (.l 2 8)),ci e.list,.nils])]))):
  ZtA N e x34 ml3_8 N0 Q:=by
 have e_:(ZtA N e x34 ml3_8 N0 Q)=(let y_1:=(e.kids.getD x34.toNat (KidOf.mk 0 Edit.nil));let y_2:=(Yx y_1.e);let y_3:=(Yx (Zy y_2));(((decide ((x34:Int) < (e.kids.length:Int)))=true→((0:Int)≤x34∧x34 < (e.kids.length:Int))∧((Z26 (y_2,()))∧(Zea (y_2,()) < N)∧((ml3_8.length+([(KidOf.mk y_1.at_ y_3:Kid)]).length)*208≤140737488355328)∧((InR ((x34:Int)+1))∧(N0 (Z4q e ((x34:Int)+1) (ml3_8++([(KidOf.mk y_1.at_ y_3:Kid)])))))))∧((decide ((x34:Int) < (e.kids.length:Int)))=false→(Q .ret (L2 [(2,.ptr (.loc 2) 0)] [(.loc 2,[ci e.kind,ci 0,.nils,.nils,ci 0,.nils,.nils,sU .wedit (([]:List WEdit)++e.words) (.own (.l 2 7)),sU .kid ml3_8 (.own (.l 2 8)),ci e.list,.nils])]))))):=by kernel_rfl
 exact e_.mpr (by intro y_1 y_2 y_3;have hh:=h y_1 rfl y_2 (Z9 _) y_3 (Z9 _);exact ⟨fun c_4=> ⟨(hh.1 c_4).1,⟨(hh.1 c_4).2.1,(hh.1 c_4).2.2.1,(hh.1 c_4).2.2.2.1,⟨(hh.1 c_4).2.2.2.2.1,(hh.1 c_4).2.2.2.2.2⟩⟩⟩,fun c_4=> (hh.2 c_4)⟩)
def ZA9(N:Nat)(e:Edit):Prop:=AW (Z1 (Z3Z N)) Try.f57 Zhb [] (Zk (ZhJ.can (e,())) []) (EQ Try.f57 (ZbF (e,())) [])
abbrev ZC9:Prop:=∀ (N:Nat) (e:Edit) (_:Unit),Z26 (e,())→Zea (e,()) < N+1→ZA9 N e
def Z3Y(N:Nat):List (FuncId × Fs U):=(57,fs ZhJ (fun a=> [Z26 a,Zea a < N]) ZbF) ::(94,fs ZhG (fun a=> [ZbL a,Zj0 a < N]) Zix) ::[(71,Z0x),(128,Z47),(126,Z6R),(129,Z2c),(127,Z5N)]
def Zha:Zj U:=fun i=> match i with
 | 0=> ([(0,[]),(1,[])],[])
 | 1=> ([(0,[]),(1,[]),(5,[])],[(.loc 10,[.wr .op])])
 | 2=> ([(0,[]),(5,[]),(11,[]),(12,[]),(13,[])],[(.loc 10,[.wr .op,.own .tree,.own .tree])])
 | 3=> ([(0,[]),(5,[]),(11,[]),(12,[]),(13,[]),(14,[])],[(.loc 10,[.wr .op])])
 | 4=> ([(0,[]),(5,[]),(7,[]),(11,[]),(12,[]),(13,[])],[(.loc 7,[]),(.loc 10,[.wr .op])])
 | 5=> ([(0,[]),(5,[]),(7,[]),(11,[]),(12,[]),(13,[]),(18,[])],[(.loc 7,[]),(.loc 10,[.wr .op])])
 | 6=> ([(0,[]),(5,[]),(7,[]),(11,[]),(12,[]),(13,[]),(18,[]),(19,[])],[(.loc 7,[]),(.loc 10,[.wr .op])])
 | 7=> ([(0,[]),(5,[]),(11,[]),(12,[]),(13,[])],[(.loc 10,[.wr .op])])
 | 8=> ([(0,[]),(5,[]),(7,[]),(11,[]),(12,[]),(13,[]),(18,[]),(25,[])],[(.loc 7,[]),(.loc 10,[.wr .op])])
 | 9=> ([(0,[]),(5,[]),(11,[]),(12,[]),(13,[])],[(.loc 10,[.wr .op])])
 | 10=> ([(0,[]),(5,[]),(7,[]),(11,[]),(12,[]),(13,[]),(18,[]),(33,[])],[(.loc 7,[]),(.loc 10,[.wr .op])])
 | 11=> ([(0,[]),(5,[]),(11,[]),(12,[]),(13,[])],[(.loc 10,[.wr .op])])
 | 12=> ([(0,[]),(5,[]),(7,[]),(11,[]),(12,[]),(13,[]),(41,[])],[(.loc 7,[]),(.loc 10,[.wr .op])])
 | 13=> ([(0,[]),(5,[]),(8,[]),(11,[]),(12,[]),(13,[])],[(.loc 8,[]),(.loc 10,[.wr .op])])
 | 14=> ([(0,[]),(5,[]),(8,[]),(11,[]),(12,[]),(13,[]),(48,[])],[(.loc 8,[]),(.loc 10,[.wr .op])])
 | 15=> ([(0,[]),(5,[]),(11,[]),(12,[]),(13,[])],[(.loc 10,[.wr .op])])
 | 16=> ([(0,[]),(5,[]),(8,[]),(11,[]),(12,[]),(13,[])],[(.loc 8,[]),(.loc 10,[.wr .op])])
 | 17=> ([(0,[]),(5,[]),(11,[]),(12,[]),(13,[])],[(.loc 10,[.wr .op])])
 | 18=> ([(0,[]),(5,[]),(11,[]),(12,[]),(13,[])],[(.loc 10,[.wr .op,.own .tree,.own .tree])])
 | 19=> ([(5,[])],[(.loc 10,[.wr .op])])
 | 20=> ([(4,[])],[])
 | _=> ([],[])
def Yr(list:Int)(l:List Op)(x13:Int)(rl_10_0:List Op)(ml10_1 ml10_2:List Tree):LSt U:=(⟨[(0,.c (ci list)),(5,.ptr (.loc 10) 0),(11,.c (sU .op l .unk)),(12,.c (ci (l.length:Int))),(13,.c (ci x13))],[(.loc 10,[.mref (.l 10 0),sU .tree ml10_1 (.own (.l 10 1)),sU .tree ml10_2 (.own (.l 10 2))])],[(.l 10 0,LC.mk (U:=U) .op rl_10_0 0)]⟩:LSt U)
abbrev W94(N:Nat)(list:Int)(l:List Op)(Q:QT):=AW (Z1 (Z3Y N)) Try.f94 Zha [] (L2 [(0,.c (ci list)),(1,.c (sU .op l .unk))] []) Q
abbrev Zpz(N:Nat):=awp cfg (Z1 (Z3Y N)) (ZS cfg (Z1 (Z3Y N))) Try.f94.ntmps Zha
abbrev Zor(N:Nat):=ZaF cfg (Z1 (Z3Y N)) (ZS cfg (Z1 (Z3Y N))) Try.f94.ntmps Zha
theorem ZCi(N:Nat)(list:Int)(l:List Op)(Q:QT)(h:Ze (AW (Z1 (Z3Y N)) Try.f94 Zha [1,1,0,1,0,0]) (Yr list l 0 [] [] []) (xB 0 (SW (Z1 (Z3Y N)) Try.f94 Zha [1,1,1] Q))):
  W94 N list l Q:=by
 have e_:(W94 N list l Q)=(Ze (Zpz N (cd Try.f94 [1,1,0,1,0,0])) (Yr list l 0 [] [] []) (xB 0 (Zor N (cd Try.f94 [1,1,1]) Q))):=by kernel_rfl
 exact e_.mpr h
abbrev Zty(N:Nat)(list:Int)(l:List Op)(x13:Int)(rl_10_0:List Op)(ml10_1 ml10_2:List Tree)(N0:NT)(Q:QT):=AW (Z1 (Z3Y N)) Try.f94 Zha [1,1,0,1,0,0] (Yr list l x13 rl_10_0 ml10_1 ml10_2) (xT N0 (xB 0 (SW (Z1 (Z3Y N)) Try.f94 Zha [1,1,1] Q)))
theorem ZtR(N:Nat)(list:Int)(l:List Op)(x13:Int)(rl_10_0:List Op)(ml10_1 ml10_2:List Tree)(N0:NT)(Q:QT)(h:∀ y_1,y_1=(l.getD x13.toNat Op.nil)→∀ y_2,y_2=(Edit.mk 0 (Tree.mk 0 [] []) (Tree.mk 0 [] []) [] [] 0 [])→∀ y_3,y_3=(Int.toNat (((Z3 (Wst.mk rl_10_0 ml10_1 ml10_2)).out).length:Int))→∀ y_4,y_4=(y_1.e)→∀ y_5,y_5=(Zy y_4)→((decide (x13 < (l.length:Int)))=true→((0:Int)≤x13∧x13 < (l.length:Int))∧(((y_1.kind==0)=true→(Z5c ((rl_10_0,ml10_1,ml10_2,()),y_1.n,()))∧((InR (x13+1))∧(N0 (Yr list l (x13+1) ((ZW (Wst.mk rl_10_0 ml10_1 ml10_2) y_1.n).out) ((ZW (Wst.mk rl_10_0 ml10_1 ml10_2) y_1.n).gone) ((ZW (Wst.mk rl_10_0 ml10_1 ml10_2) y_1.n).brought)))))∧((y_1.kind==0)=false→((y_1.kind==1)=true→(ZaW ((rl_10_0,ml10_1,ml10_2,()),y_1.l,()))∧((InR (x13+1))∧(N0 (Yr list l (x13+1) ((Wst.mk rl_10_0 (ml10_1++Z8 y_1.l) ml10_2).out) ((Wst.mk rl_10_0 (ml10_1++Z8 y_1.l) ml10_2).gone) ((Wst.mk rl_10_0 (ml10_1++Z8 y_1.l) ml10_2).brought)))))∧((y_1.kind==1)=false→((y_1.kind==2)=true→(Z76 ((rl_10_0,ml10_1,ml10_2,()),y_1.l,()))∧((InR (x13+1))∧(N0 (Yr list l (x13+1) ((Wst.mk rl_10_0 ml10_1 (ml10_2++Z8 y_1.l)).out) ((Wst.mk rl_10_0 ml10_1 (ml10_2++Z8 y_1.l)).gone) ((Wst.mk rl_10_0 ml10_1 (ml10_2++Z8 y_1.l)).brought)))))∧((y_1.kind==2)=false→((y_1.kind==3)=true→(Z26 (y_4,()))∧(Zea (y_4,()) < N)∧((Z75 (list,y_5,()))∧(((Z3I list y_5)=true→(Z5c ((rl_10_0,ml10_1,ml10_2,()),1,()))∧((InR (x13+1))∧(N0 (Yr list l (x13+1) ((ZW (Wst.mk rl_10_0 ml10_1 ml10_2) 1).out) ((ZW (Wst.mk rl_10_0 ml10_1 ml10_2) 1).gone) ((ZW (Wst.mk rl_10_0 ml10_1 ml10_2) 1).brought)))))∧((Z3I list y_5)=false→(Z1Y ((rl_10_0,ml10_1,ml10_2,()),()))∧(((((Z3 (Wst.mk rl_10_0 ml10_1 ml10_2)).out).length+([(OpOf.mk 0 0 [] y_2:Op)]).length)*240≤140737488355328)∧((0:Int)≤(((Z3 (Wst.mk rl_10_0 ml10_1 ml10_2)).out).length:Int)∧(((Z3 (Wst.mk rl_10_0 ml10_1 ml10_2)).out).length:Int) < ((((Z3 (Wst.mk rl_10_0 ml10_1 ml10_2)).out)++([(OpOf.mk 0 0 [] y_2:Op)])).length:Int))∧((0:Nat)≤y_3)∧((InR (x13+1))∧(N0 (Yr list l (x13+1) (List.set (((Z3 (Wst.mk rl_10_0 ml10_1 ml10_2)).out)++([(OpOf.mk 0 0 [] y_2:Op)])) y_3 (OpOf.mk 3 0 [] y_5:Op)) ((Z3 (Wst.mk rl_10_0 ml10_1 ml10_2)).gone) ((Z3 (Wst.mk rl_10_0 ml10_1 ml10_2)).brought)))))))))∧((y_1.kind==3)=false→(InR (x13+1))∧(N0 (Yr list l (x13+1) rl_10_0 ml10_1 ml10_2))))))))∧((decide (x13 < (l.length:Int)))=false→(Z1Y ((rl_10_0,ml10_1,ml10_2,()),()))∧(Q .ret (L2 [(4,.c (sU .op ((Z3 (Wst.mk rl_10_0 ml10_1 ml10_2)).out) (.own (.e 4 0))))] [])))):
  Zty N list l x13 rl_10_0 ml10_1 ml10_2 N0 Q:=by
 have e_:(Zty N list l x13 rl_10_0 ml10_1 ml10_2 N0 Q)=(let y_1:=(l.getD x13.toNat Op.nil);let y_2:=(Edit.mk 0 (Tree.mk 0 [] []) (Tree.mk 0 [] []) [] [] 0 []);let y_3:=(Int.toNat (((Z3 (Wst.mk rl_10_0 ml10_1 ml10_2)).out).length:Int));let y_4:=(Yx y_1.e);let y_5:=(Yx (Zy y_4));(((decide ((x13:Int) < (l.length:Int)))=true→((0:Int)≤x13∧x13 < (l.length:Int))∧(((y_1.kind==0)=true→(Z5c ((rl_10_0,ml10_1,ml10_2,()),y_1.n,()))∧((InR ((x13:Int)+1))∧(N0 (Yr list l ((x13:Int)+1) ((ZW (Wst.mk rl_10_0 ml10_1 ml10_2) y_1.n).out) ((ZW (Wst.mk rl_10_0 ml10_1 ml10_2) y_1.n).gone) ((ZW (Wst.mk rl_10_0 ml10_1 ml10_2) y_1.n).brought)))))∧((y_1.kind==0)=false→(((y_1.kind==1)=true→(ZaW ((rl_10_0,ml10_1,ml10_2,()),y_1.l,()))∧((InR ((x13:Int)+1))∧(N0 (Yr list l ((x13:Int)+1) ((Wst.mk rl_10_0 (ml10_1++Z8 y_1.l) ml10_2).out) ((Wst.mk rl_10_0 (ml10_1++Z8 y_1.l) ml10_2).gone) ((Wst.mk rl_10_0 (ml10_1++Z8 y_1.l) ml10_2).brought)))))∧((y_1.kind==1)=false→(((y_1.kind==2)=true→(Z76 ((rl_10_0,ml10_1,ml10_2,()),y_1.l,()))∧((InR ((x13:Int)+1))∧(N0 (Yr list l ((x13:Int)+1) ((Wst.mk rl_10_0 ml10_1 (ml10_2++Z8 y_1.l)).out) ((Wst.mk rl_10_0 ml10_1 (ml10_2++Z8 y_1.l)).gone) ((Wst.mk rl_10_0 ml10_1 (ml10_2++Z8 y_1.l)).brought)))))∧((y_1.kind==2)=false→(((y_1.kind==3)=true→(Z26 (y_4,()))∧(Zea (y_4,()) < N)∧((Z75 (list,y_5,()))∧(((Z3I list y_5)=true→(Z5c ((rl_10_0,ml10_1,ml10_2,()),1,()))∧((InR ((x13:Int)+1))∧(N0 (Yr list l ((x13:Int)+1) ((ZW (Wst.mk rl_10_0 ml10_1 ml10_2) 1).out) ((ZW (Wst.mk rl_10_0 ml10_1 ml10_2) 1).gone) ((ZW (Wst.mk rl_10_0 ml10_1 ml10_2) 1).brought)))))∧((Z3I list y_5)=false→(Z1Y ((rl_10_0,ml10_1,ml10_2,()),()))∧(((((Z3 (Wst.mk rl_10_0 ml10_1 ml10_2)).out).length+([(OpOf.mk 0 0 [] y_2:Op)]).length)*240≤140737488355328)∧((0:Int)≤(((Z3 (Wst.mk rl_10_0 ml10_1 ml10_2)).out).length:Int)∧(((Z3 (Wst.mk rl_10_0 ml10_1 ml10_2)).out).length:Int) < ((((Z3 (Wst.mk rl_10_0 ml10_1 ml10_2)).out)++([(OpOf.mk 0 0 [] y_2:Op)])).length:Int))∧((0:Nat)≤y_3)∧((InR ((x13:Int)+1))∧(N0 (Yr list l ((x13:Int)+1) (List.set (((Z3 (Wst.mk rl_10_0 ml10_1 ml10_2)).out)++([(OpOf.mk 0 0 [] y_2:Op)])) y_3 (OpOf.mk 3 0 [] y_5:Op)) ((Z3 (Wst.mk rl_10_0 ml10_1 ml10_2)).gone) ((Z3 (Wst.mk rl_10_0 ml10_1 ml10_2)).brought)))))))))∧((y_1.kind==3)=false→(InR ((x13:Int)+1))∧(N0 (Yr list l ((x13:Int)+1) rl_10_0 ml10_1 ml10_2)))))))))))∧((decide ((x13:Int) < (l.length:Int)))=false→(Z1Y ((rl_10_0,ml10_1,ml10_2,()),()))∧(Q .ret (L2 [(4,.c (sU .op ((Z3 (Wst.mk rl_10_0 ml10_1 ml10_2)).out) (.own (.e 4 0))))] []))))):=by kernel_rfl
 exact e_.mpr (by intro y_1 y_2 y_3 y_4 y_5;have hh:=h y_1 rfl y_2 rfl y_3 rfl y_4 (Z9 _) y_5 (Z9 _);exact ⟨fun c_5=> ⟨(hh.1 c_5).1,⟨fun c_6=> ⟨((hh.1 c_5).2.1 c_6).1,⟨((hh.1 c_5).2.1 c_6).2.1,((hh.1 c_5).2.1 c_6).2.2⟩⟩,fun c_6=> ⟨fun c_7=> ⟨(((hh.1 c_5).2.2 c_6).1 c_7).1,⟨(((hh.1 c_5).2.2 c_6).1 c_7).2.1,(((hh.1 c_5).2.2 c_6).1 c_7).2.2⟩⟩,fun c_7=> ⟨fun c_8=> ⟨((((hh.1 c_5).2.2 c_6).2 c_7).1 c_8).1,⟨((((hh.1 c_5).2.2 c_6).2 c_7).1 c_8).2.1,((((hh.1 c_5).2.2 c_6).2 c_7).1 c_8).2.2⟩⟩,fun c_8=> ⟨fun c_9=> ⟨(((((hh.1 c_5).2.2 c_6).2 c_7).2 c_8).1 c_9).1,(((((hh.1 c_5).2.2 c_6).2 c_7).2 c_8).1 c_9).2.1,⟨(((((hh.1 c_5).2.2 c_6).2 c_7).2 c_8).1 c_9).2.2.1,⟨fun c_10=> ⟨((((((hh.1 c_5).2.2 c_6).2 c_7).2 c_8).1 c_9).2.2.2.1 c_10).1,⟨((((((hh.1 c_5).2.2 c_6).2 c_7).2 c_8).1 c_9).2.2.2.1 c_10).2.1,((((((hh.1 c_5).2.2 c_6).2 c_7).2 c_8).1 c_9).2.2.2.1 c_10).2.2⟩⟩,fun c_10=> ⟨((((((hh.1 c_5).2.2 c_6).2 c_7).2 c_8).1 c_9).2.2.2.2 c_10).1,⟨((((((hh.1 c_5).2.2 c_6).2 c_7).2 c_8).1 c_9).2.2.2.2 c_10).2.1,((((((hh.1 c_5).2.2 c_6).2 c_7).2 c_8).1 c_9).2.2.2.2 c_10).2.2.1,((((((hh.1 c_5).2.2 c_6).2 c_7).2 c_8).1 c_9).2.2.2.2 c_10).2.2.2.1,⟨((((((hh.1 c_5).2.2 c_6).2 c_7).2 c_8).1 c_9).2.2.2.2 c_10).2.2.2.2.1,((((((hh.1 c_5).2.2 c_6).2 c_7).2 c_8).1 c_9).2.2.2.2 c_10).2.2.2.2.2⟩⟩⟩⟩⟩⟩,fun c_9=> ⟨(((((hh.1 c_5).2.2 c_6).2 c_7).2 c_8).2 c_9).1,(((((hh.1 c_5).2.2 c_6).2 c_7).2 c_8).2 c_9).2⟩⟩⟩⟩⟩⟩,fun c_5=> ⟨(hh.2 c_5).1,(hh.2 c_5).2⟩⟩)
def ZzN(N:Nat)(list:Int)(l:List Op):Prop:=AW (Z1 (Z3Y N)) Try.f94 Zha [] (Zk (ZhG.can (list,l,())) []) (EQ Try.f94 (Zix (list,l,())) [])
abbrev ZC3:Prop:=∀ (N:Nat) (list:Int) (l:List Op) (_:Unit),ZbL (list,l,())→Zj0 (list,l,()) < N+1→ZzN N list l
theorem Zp0(c71:CT 71 Z0x)(Zt3:CT 128 Z47)(Zzh:CT 126 Z6R)(Zpo:CT 129 Z2c)(Zt0:CT 127 Z5N)(ha:ZC9)(hb:ZC3):CT 57 Z5L∧CT 94 ZqI:=
 Z1I (μA:=Zea) (μB:=Zj0) (l:=[(71,Z0x),(128,Z47),(126,Z6R),(129,Z2c),(127,Z5N)]) Zm rfl (⟨c71,Zt3,Zzh,Zpo,Zt0,trivial⟩) Zhb Zha Try.func57 Try.func94 rfl rfl rfl rfl 1 2 (fun _=> rfl) (fun _=> rfl) (by decide) (by decide) (fun N ⟨e,_⟩=> ha N e ()) (fun N ⟨list,l,_⟩=> hb N list l ())
end
end
end Go.AM.Ytpjenobkibfpcaa
namespace Go.AM.Ytpjenobkibfpcaa
open Go.AM Go.Proofs
theorem Zp8(s:Wst)(n:Int):(ZW s n).out.length≤s.out.length+3:=by
 have h:=Z7F s
 simp only [ZW]
 rw [Z6o]
 split
 ·rw [List.length_set];omega
 ·rw [List.length_append];simp;omega
theorem ZvF{s:Wst}{n B K:Int}(hB:0≤B)(hn:0≤n∧n≤K)(h:∀ o∈s.out,0≤o.n∧o.n≤B):∀ o∈(ZW s n).out,0≤o.n∧o.n≤B+K:=by
 have hF:∀ o∈(Z3 s).out,0≤o.n∧o.n≤B:=by
  intro o ho
  rcases Z7E s o ho with h1 | h1
  ·exact h o h1
  ·omega
 intro o ho
 simp only [ZW] at ho
 rw [Z6o] at ho
 split at ho
 ·rename_i hc
  rcases List.mem_or_eq_of_mem_set ho with ho | rfl
  ·have:=hF o ho;omega
  ·have:=hF _ (Zg (l:=(Z3 s).out) (i:=(Z3 s).out.length - 1) (by omega) Op.nil)
   simp only;omega
 ·rcases List.mem_append.1 ho with ho | ho
  ·have:=hF o ho;omega
  ·simp only [List.mem_singleton] at ho;subst ho;simp only;omega
theorem Ze4:∀ (l:List Kid),(Ja l).length=l.length
 | []=> rfl
 | k ::r=> by simp [Ja,Ze4 r]
theorem Zku(e:Edit):(Zy e).words.length≤e.words.length∧(Zy e).kids.length≤e.kids.length:=by
 rw [Z9w]
 split
 ·simp
 ·split
  ·simp [Ze4]
  ·split <;> simp
theorem Z9c{list:Int}{o:Op}{d:Int}(h:Zc list o d=true)(hk:o.kind=0):1≤o.n∧o.n≤1048576:=by
 obtain ⟨k,n,l,e⟩:=o
 simp only at hk
 subst hk
 simp [Zc] at h
 show 1≤n∧n≤1048576
 omega
theorem Z9d{list:Int}{o:Op}{d:Int}(h:Zc list o d=true)(hk:o.kind=3):Za o.e d=true:=by
 obtain ⟨k,n,l,e⟩:=o
 simp only at hk
 subst hk
 simp [Zc] at h
 exact h.2.1.2
theorem Zg2{e:Edit}{d:Int}(h:Za e d=true)(hk:e.kind=2):∀ k∈e.kids,∃ d,Za k.e d=true:=by
 obtain ⟨k,o,n,w,ks,l,os⟩:=e
 change k=2 at hk
 subst hk
 have hks:∃ d last,ZG last ks d=true:=by
  unfold Za at h
  split at h
  ·cases h
  ·split at h
   ·cases h
   ·rw [if_neg (by omega)] at h
    simp only [Bool.and_eq_true] at h
    exact ⟨_,_,h.1.1.1.2⟩
 obtain ⟨d',last,hks⟩:=hks
 change ∀ k∈ks,_
 clear h
 induction ks generalizing last with
 | nil=> intro k hk;cases hk
 | cons a r ih=>
  simp only [ZG,Bool.and_eq_true] at hks
  intro k hk
  rcases List.mem_cons.1 hk with rfl | hk
  ·obtain ⟨a,e⟩:=k
   simp only [J3,Bool.and_eq_true] at hks
   exact ⟨_,hks.1.2⟩
  ·exact ih _ hks.2 k hk
theorem ZiR{e:Edit}{d:Int}(h:Za e d=true)(hk:e.kind=3):∀ o∈e.ops,∃ d,Zc e.list o d=true:=by
 obtain ⟨k,o,n,w,ks,l,os⟩:=e
 change k=3 at hk
 subst hk
 have hos:∃ d,ZD l os d=true:=by
  unfold Za at h
  split at h
  ·cases h
  ·split at h
   ·cases h
   ·rw [if_neg (by omega)] at h
    simp only [Bool.and_eq_true] at h
    exact ⟨_,h.1.2⟩
 obtain ⟨d',hos⟩:=hos
 change ∀ o∈os,∃ d,Zc l o d=true
 clear h
 induction os with
 | nil=> intro k hk;cases hk
 | cons a r ih=>
  simp only [ZD,Bool.and_eq_true] at hos
  intro k hk
  rcases List.mem_cons.1 hk with rfl | hk
  ·exact ⟨_,hos.1⟩
  ·exact ih hos.2 k hk
theorem b94:ZC3:=by
 intro N list l _ hp hN
 simp only [ZbL,Zj0] at hp hN
 obtain ⟨p1,p3⟩:=hp
 have hl:=ZM l
 refine ZCi _ _ _ _ ?_
 refine Z6 (ι:=Int × Wst) (fun s=> Yr list l s.1 s.2.out s.2.gone s.2.brought)
  (fun s=> 0≤s.1∧s.1≤l.length∧Zq list (l.drop s.1.toNat) s.2=Zq list l ⟨[],[],[]⟩∧s.2.out.length≤3*s.1∧s.2.gone.length+s.2.brought.length+Zh (l.drop s.1.toNat)≤Zh l∧∀ o∈s.2.out,0≤o.n∧o.n≤s.1*1048576)
  (fun s=> ((l.length:Int) - s.1).toNat) (0,⟨[],[],[]⟩) rfl ⟨by simp,by simp,by simp,by simp,by simp,by simp⟩ ?_
 rintro ⟨i,s⟩ ⟨g1,g2,g3,g4,g5,g6⟩
 dsimp only at g1 g2 g3 g4 g5 g6
 refine ZtR _ _ _ _ _ _ _ _ _ ?_
 rintro y1 hy1 y2 hy2 y3 hy3 y4 hy4 y5 hy5
 have hy:y2=Edit.nil:=hy2
 subst hy
 have es:Wst.mk s.out s.gone s.brought=s:=rfl
 simp only [es] at hy3 ⊢
 (simp only [vcS])
 refine ⟨fun hi=> ?_,fun hi=> ?_⟩
 ·have hmem:=Zg (l:=l) (i:=i.toNat) (by omega) Op.nil
  have hm:=ZL hmem
  have hr:=p3 _ hmem
  rw [Y1 g1 hi Op.nil] at g3 g5
  rw [←hy1] at g3 g5 hm hr
  have hmo:=ZI y1
  simp only [Zq,YR,Zh] at g3 g5
  rw [←hy4,←hy5] at g3
  obtain ⟨d,hr2⟩:=hr
  have hfl:=Z7F s
  have hP:∀ n:Int,0≤n∧n≤1048576→Z5c ((s.out,s.gone,s.brought,()),n,()):=by
   intro n hn
   simp only [Z5c]
   refine ⟨by omega,by omega,by omega,fun o ho=> ?_,by omega,by omega⟩
   have:=g6 o ho
   constructor
   ·omega
   ·have:i*1048576≤20000000000*1048576:=by omega
    omega
  have hK:∀ n:Int,0≤n∧n≤1048576→Zq list (l.drop (i+1).toNat) (ZW s n)=Zq list l ⟨[],[],[]⟩→
    (∃ j:Int × Wst,Yr list l (i+1) (ZW s n).out (ZW s n).gone (ZW s n).brought=Yr list l j.1 j.2.out j.2.gone j.2.brought∧(0≤j.1∧j.1≤l.length∧Zq list (l.drop j.1.toNat) j.2=Zq list l ⟨[],[],[]⟩∧j.2.out.length≤3*j.1∧j.2.gone.length+j.2.brought.length+Zh (l.drop j.1.toNat)≤Zh l∧∀ o∈j.2.out,0≤o.n∧o.n≤j.1*1048576)∧((l.length:Int) - j.1).toNat < ((l.length:Int) - i).toNat):=by
   intro n hn he
   have h1:=Zp8 s n
   have h2:=ZvF (s:=s) (n:=n) (B:=i*1048576) (K:=1048576) (by omega) hn g6
   refine ⟨(i+1,ZW s n),rfl,⟨by dsimp only;omega,by dsimp only;omega,he,by dsimp only;omega,by simp only [ZW,List.length_nil];omega,fun o ho=> ?_⟩,by dsimp only;omega⟩
   have:=h2 o ho
   dsimp only
   omega
  refine ⟨⟨g1,hi⟩,fun hk=> ?_,fun hk=> ⟨fun hk1=> ?_,fun hk1=> ⟨fun hk2=> ?_,fun hk2=> ⟨fun hk3=> ?_,fun hk3=> ?_⟩⟩⟩⟩
  ·rw [if_pos hk] at g3
   have h1:=Z9c hr2 hk
   exact ⟨hP _ (by omega),by unfold InR;omega,hK _ (by omega) g3⟩
  ·rw [if_neg hk,if_pos hk1] at g3
   refine ⟨by simp only [ZaW];omega,by unfold InR;omega,(i+1,⟨s.out,s.gone++Z8 y1.l,s.brought⟩),rfl,⟨by dsimp only;omega,by dsimp only;omega,g3,by dsimp only;omega,?_,fun o ho=> ?_⟩,by dsimp only;omega⟩
   ·have:=ZA y1.l
    simp only [List.length_append,Z8,List.length_map];omega
   ·have:=g6 o ho
    dsimp only;omega
  ·rw [if_neg hk,if_neg hk1,if_pos hk2] at g3
   refine ⟨by simp only [Z76];omega,by unfold InR;omega,(i+1,⟨s.out,s.gone,s.brought++Z8 y1.l⟩),rfl,⟨by dsimp only;omega,by dsimp only;omega,g3,by dsimp only;omega,?_,fun o ho=> ?_⟩,by dsimp only;omega⟩
   ·have:=ZA y1.l
    simp only [List.length_append,Z8,List.length_map];omega
   ·have:=g6 o ho
    dsimp only;omega
  ·rw [if_neg hk,if_neg hk1,if_neg hk2,if_pos hk3] at g3
   have hre:=Z9d hr2 hk3
   rw [←hy4] at hre
   have hw:=Zku y4
   rw [←hy5] at hw
   have h1:=Yg y4
   have h2:=Ym y4.kids
   have hmE:Z5 y4≤Zs y1:=by rw [hmo,hy4];omega
   refine ⟨by simp only [Z26];exact ⟨by omega,d,hre⟩,by simp only [Zea];omega,by simp only [Z75];omega,fun hq=> ?_,fun hq=> ?_⟩
   ·rw [if_pos hq] at g3
    exact ⟨hP 1 (by omega),by unfold InR;omega,hK 1 (by omega) g3⟩
   ·rw [if_neg (by rw [hq];simp)] at g3
    rw [hy3,Z2Z]
    refine ⟨by simp only [Z1Y];omega,by simp only [List.length_cons,List.length_nil];omega,by simp only [List.length_append,List.length_cons,List.length_nil];omega,by omega,by unfold InR;omega,(i+1,⟨(Z3 s).out++[⟨3,0,[],y5⟩],[],[]⟩),rfl,⟨by dsimp only;omega,by dsimp only;omega,g3,by simp;omega,by simp;omega,fun o ho=> ?_⟩,by dsimp only;omega⟩
    dsimp only at ho ⊢
    rcases List.mem_append.1 ho with ho | ho
    ·rcases Z7E s o ho with h5 | h5
     ·have:=g6 o h5;omega
     ·omega
    ·simp only [List.mem_singleton] at ho
     subst ho
     simp only;omega
  ·rw [if_neg hk,if_neg hk1,if_neg hk2,if_neg hk3] at g3
   refine ⟨by unfold InR;omega,(i+1,s),rfl,⟨by dsimp only;omega,by dsimp only;omega,g3,by dsimp only;omega,by dsimp only;omega,fun o ho=> ?_⟩,by dsimp only;omega⟩
   have:=g6 o ho
   dsimp only;omega
 ·rw [List.drop_of_length_le (by omega)] at g3
  simp only [Zq] at g3
  refine ⟨by simp only [Z1Y];omega,?_⟩
  simp only [Zix]
  rw [←g3]
  (repeat' (first | exact trivial | exact rfl | apply And.intro))
theorem b57:ZC9:=by
 intro N e _ hp hN
 simp only [Z26,Zea] at hp hN
 obtain ⟨p1,d,p3⟩:=hp
 have h1:=Yg e
 have h2:=Ym e.kids
 have h3:=ZM e.ops
 have ha:=Z9w e
 refine ZCE _ _ _ ?_
 (simp only [vcS])
 (simp only [Tree.eta,Edit.eta,Tree.kind_mk,Tree.words_mk,Tree.kids_mk])
 refine ⟨fun hk=> ⟨by simp only [Z1e];omega,by simp only [Z1e];omega,?_⟩,fun hk=> ⟨fun hk2=> ⟨by simp;omega,?_⟩,fun hk2=> ⟨fun hk3=> ⟨?_,by simp only [Zj0];omega,?_⟩,fun hk3=> ?_⟩⟩⟩
 ·rw [if_pos hk] at ha
  simp only [ZbF,ha]
  (repeat' (first | exact trivial | exact rfl | apply And.intro))
 ·rw [if_neg hk,if_pos hk2] at ha
  refine Z6 (ι:=Int × List Kid) (fun s=> Z4q e s.1 s.2) (fun s=> 0≤s.1∧s.1≤e.kids.length∧s.2.length=s.1∧s.2++Ja (e.kids.drop s.1.toNat)=Ja e.kids) (fun s=> ((e.kids.length:Int) - s.1).toNat) (0,[]) rfl ⟨by simp,by simp,by simp,by simp⟩ ?_
  rintro ⟨j,ks⟩ ⟨f1,f2,f3,f4⟩
  dsimp only at f1 f2 f3 f4
  refine Zuf _ _ _ _ _ _ ?_
  rintro y1 hy1 y2 hy2 y3 hy3
  (simp only [vcS])
  refine ⟨fun hj=> ?_,fun hj=> ?_⟩
  ·have hmem:=Zg (l:=e.kids) (i:=j.toNat) (by omega) (KidOf.mk 0 Edit.nil)
   have hm:=YM hmem
   have hr:=Zg2 p3 hk2 _ hmem
   rw [Y1 f1 hj (KidOf.mk 0 Edit.nil)] at f4
   rw [←hy1] at f4 hm hr
   simp only [Ja,Zb4] at f4
   rw [←hy2] at f4 hm hr
   rw [←hy3] at f4
   refine ⟨⟨f1,hj⟩,by simp only [Z26];exact ⟨by omega,hr⟩,by simp only [Zea];omega,by simp;omega,by unfold InR;omega,(j+1,ks++[⟨y1.at_,y3⟩]),rfl,⟨by dsimp only;omega,by dsimp only;omega,by simp;omega,?_⟩,by dsimp only;omega⟩
   simp only [List.append_assoc,List.cons_append,List.nil_append]
   exact f4
  ·rw [List.drop_of_length_le (by omega)] at f4
   simp only [Ja,List.append_nil] at f4
   rw [f4]
   simp only [ZbF,ha]
   (repeat' (first | exact trivial | exact rfl | apply And.intro))
 ·simp only [ZbL]
  exact ⟨by omega,fun o ho=> ZiR p3 hk3 o ho⟩
 ·rw [if_neg hk,if_neg hk2,if_pos hk3] at ha
  simp only [ZbF,ha]
  (repeat' (first | exact trivial | exact rfl | apply And.intro))
 ·rw [if_neg hk,if_neg hk2,if_neg hk3] at ha
  simp only [ZbF,ha]
  (repeat' (first | exact trivial | exact rfl | apply And.intro))
theorem ZsY:Contract Try.prog cfg 57 Z5L∧Contract Try.prog cfg 94 ZqI:=Zp0 c71 Zt3 Zzh Zpo Zt0 b57 b94
end Go.AM.Ytpjenobkibfpcaa
