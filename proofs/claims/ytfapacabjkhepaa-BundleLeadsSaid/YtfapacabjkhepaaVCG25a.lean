import Derived.Test.YtfapacabjkhepaaVKB21b
import Derived.Test.YtfapacabjkhepaaVKL21n
import Derived.Test.YtfapacabjkhepaaVKP20
import Derived.Test.YtfapacabjkhepaaVCL25f
set_option linter.unusedSimpArgs false
set_option linter.unusedVariables false
namespace Go.AM.Ytfapacabjkhepaa
open Go.AM Go.Proofs
theorem b36:ZA1:=by
 intro N e t _ hp hN
 simp only [Z7J,Zhx] at hp hN
 obtain ⟨k2,⟨p1,p2,d,p3⟩,p4,p5⟩:=hp
 have h1:=Y3 e
 have h2:=Yb e.kids
 have h3:=Zj8 t
 have h4:=Zw t.kids
 have r2:=Z1K p2
 have rt:=Zfl p5
 have ri:=Zs p3
 have no:Z1X true e t=none->Yv cfg Try.f36.ntmps Try.f36.results.toList (Z6g (e,t,())) [] .ret (⟨[(4,.ptr (.loc 4) 0),(5,.c (.bool false))],[((.loc 4),[.int .i64 0,.nils,.nils])],[]⟩:LSt U):=by
  intro hs
  simp only [Z6g,hs]
  exact Y6
 refine ZBe _ _ _ _ ?_
 rintro y1 hy1 y2 hy2
 (simp only [iB,vcT,vcS])
 refine ⟨fun hk=> no (by unfold Z1X;rw [if_neg hk]),fun hk=> ?_⟩
 have hk:t.kind=1:=by simpa using hk
 rw [show Int.toNat ((e.words.length:Int) - 1)=e.words.length - 1 by omega] at hy1
 rw [show Int.toNat ((e.kids.length:Int) - 1)=e.kids.length - 1 by omega] at hy2
 have wm:0 < e.words.length->y1∈e.words:=fun h=> by rw [hy1];exact Zh V0 _
 have km:0 < e.kids.length->y2∈e.kids:=fun h=> by rw [hy2];exact Zh V0 _
 have wr:0 < e.words.length->0<=y1.at_/\y1.at_<=65534:=fun h=> by have:=YQ ri.words y1 (wm h);omega
 have kr:0 < e.kids.length->0<=y2.at_/\y2.at_<=65534:=fun h=> by have:=ZP ri.kids y2 (km h);omega
 have go:∀ n m:Int,n=(if 0 < e.words.length/\(t.words.length:Int)<=y1.at_ then y1.at_+1 else (t.words.length:Int))->m=(if 0 < e.kids.length/\(t.kids.length:Int)<=y2.at_ then y2.at_+1 else (t.kids.length:Int))->
   Zi (A36 N [1,1,1,1,1,1,1,0,1,0,0]) (Z0U e t m n 0 0 []) (AExit.inBlock 0 (S36 N [1,1,1,1,1,1,1,1] (Yv cfg Try.f36.ntmps Try.f36.results.toList (Z6g (e,t,())) []))):=by
  intro n m hn hm
  have ln:n<=t.words.length+65536:=by
   rw [hn];split
   .rename_i h;have:=wr h.1;omega
   .omega
  have lm:m<=t.kids.length+65536:=by
   rw [hm];split
   .rename_i h;have:=kr h.1;omega
   .omega
  rw [hy1] at hn
  rw [hy2] at hm
  have i0:=Mg.init (z:=0) (f:=fun w=> if mix 0 (t.words.getD w.at_.toNat 0) w.mask=w.old then some (mix (t.words.getD w.at_.toNat 0) w.new w.mask) else none) (WEdit.mk 0 0 0 0) (Z0F ri.words) hn
  have j0:=Mg.init (z:=Tree.nil) (f:=JS true t.kids) (KidOf.mk 0 Edit.nil) (Z1r ri.kids) hm
  refine Zb (ι:=Int × Int × List Int) (fun s=> Z0U e t m n s.1 s.2.1 s.2.2) (fun s=> Mg 0 (fun w=> if mix 0 (t.words.getD w.at_.toNat 0) w.mask=w.old then some (mix (t.words.getD w.at_.toNat 0) w.new w.mask) else none) WEdit.at_ t.words e.words n s.1 s.2.1 s.2.2) (fun s=> (n - s.2.1).toNat) (0,0,[]) rfl i0 ?_
  rintro ⟨a,i,out⟩ hI
  dsimp only at hI
  have q1:=hI.i0;have q2:=hI.a0;have q3:=hI.len
  refine Zs5 _ _ _ _ _ _ _ _ _ _ ?_
  rintro z1 hz1 z2 hz2
  subst hz1
  have hw:Yy z1 i=z1.words.getD i.toNat 0:=Z3Z z1 V0
  have hwi:=Zkw rt.2.1 i.toNat
  rw [hw]
  unfold isW at hwi
  (simp only [iB,vcT,vcS])
  refine ⟨fun hi=> ⟨by simp only [Zhd];omega,fun h=> ⟨V0,h⟩,fun hg=> ⟨⟨V0,hg.1⟩,?_⟩,fun hg=> ⟨by simp only [QU];omega,V4,(a,i+1,out++[z1.words.getD i.toNat 0]),rfl,?_,V3⟩⟩,fun hi=> ?_⟩
  .have hmem:z2∈e.words:=by rw [hz2];exact Zh V0 _
   obtain ⟨g1,g2,g3,g4⟩:=r2.2.2.2.1 z2 hmem
   unfold isW at g3 g4
   have hf:∀ v,(if mix 0 (z1.words.getD z2.at_.toNat 0) z2.mask=z2.old then some (mix (z1.words.getD z2.at_.toNat 0) z2.new z2.mask) else none)=v->(fun w:WEdit=> if mix 0 (z1.words.getD w.at_.toNat 0) w.mask=w.old then some (mix (z1.words.getD w.at_.toNat 0) w.new w.mask) else none) (e.words.getD a.toNat (WEdit.mk 0 0 0 0))=v:=by
    intro v hv;rw [<-hz2];exact hv
   rw [hg.2] at hf
   refine ⟨by simp only [Zaq];omega,fun hne=> no ?_,fun heq=> ?_⟩
   .have:=hI.none (WEdit.mk 0 0 0 0) hg.1 (hf _ (if_neg hne))
    unfold Z1X
    rw [if_pos hk,Z8Z,this]
    try rfl
   .have heq:mix 0 (z1.words.getD i.toNat 0) z2.mask=z2.old:=by simpa using heq
    have:=hI.edit (WEdit.mk 0 0 0 0) hi hg.1 (by rw [<-hz2];exact hg.2) (hf _ (if_pos heq))
    exact ⟨by simp only [Zaq];omega,V4,by simp only [List.length_singleton];omega,V4,(a+1,i+1,out++[mix (z1.words.getD i.toNat 0) z2.new z2.mask]),rfl,this,V3⟩
  .refine hI.plain (WEdit.mk 0 0 0 0) hi (fun h=> ?_)
   rw [<-hz2] at h
   rcases hg with hg | hg
   .exact hg h.1
   .exact hg h.2
  .have hws:=hI.fin hi
   rw [<-Z8Z] at hws
   refine Zb (ι:=Int × Int × List Tree) (fun s=> Z5z e z1 m out s.1 s.2.1 s.2.2) (fun s=> Mg Tree.nil (JS true z1.kids) KidOf.at_ z1.kids e.kids m s.1 s.2.1 s.2.2) (fun s=> (m - s.2.1).toNat) (0,0,[]) rfl j0 ?_
   rintro ⟨b,j,ks⟩ hJ
   dsimp only at hJ
   have w1:=hJ.i0;have w2:=hJ.a0;have w3:=hJ.len
   refine Zs4 _ _ _ _ _ _ _ _ _ _ ?_
   rintro x1 hx1 x2 hx2 x4 hx4 x5 hx5 x6 hx6
   subst hx1
   have hkid:Jt x1 j=x1.kids.getD j.toNat Tree.nil:=Z9E x1 V0
   rw [hkid] at hx5
   (simp only [iB,vcT,vcS])
   refine ⟨fun hj=> ⟨by simp only [Zhd];omega,fun h=> ⟨V0,h⟩,fun hg=> ⟨⟨V0,hg.1⟩,?_⟩,fun hg=> ⟨by simp only [QU];omega,V4,(b,j+1,ks++[x5]),rfl,?_,V3⟩⟩,fun hj=> ?_⟩
   .have hmem:x2∈e.kids:=by rw [hx2];exact Zh V0 _
    have hk2:=ZP ri.kids x2 hmem
    have hm:=JA hmem
    have hct:=Zde hmem
    have hca:=Z2p e
    have hr:=(YU r2.2.2.2.2.2.1 hmem).2
    have hm5:=Z3p x1.kids j.toNat
    have hr5:=Zbd rt.2.2 j.toNat
    rw [<-hx5] at hm5 hr5
    rw [<-hx4] at hm hr hk2 hct
    have hf:∀ v,doE true x4 x5=v->JS true x1.kids (e.kids.getD b.toNat (KidOf.mk 0 Edit.nil))=v:=by
     intro v hv
     rw [<-hx2,Z3Q,hg.2,<-hx5,<-hx4];exact hv
    refine ⟨by simp only [Z3j];exact ⟨⟨V0,hr,_,hk2.2⟩,V0,hr5⟩,by simp only [ZdD];omega,fun hne=> no ?_,fun heq=> ?_⟩
    .have hne:doE true x4 x5=none:=by simpa using hne
     have:=hJ.none (KidOf.mk 0 Edit.nil) hg.1 (hf _ hne)
     unfold Z1X
     rw [if_pos hk,hws,Qe,Z63,this]
     try rfl
    .obtain ⟨u,hu⟩:=QD.1 heq
     have:=hJ.edit (KidOf.mk 0 Edit.nil) hj hg.1 (by rw [<-hx2];exact hg.2) (hf _ hu)
     rw [hu] at hx6
     have e6:x6=u:=hx6
     subst e6
     exact ⟨V4,by simp only [List.length_singleton];omega,V4,(b+1,j+1,ks++[x6]),rfl,this,V3⟩
   .rw [hx5]
    refine hJ.plain (KidOf.mk 0 Edit.nil) hj (fun h=> ?_)
    rw [<-hx2] at h
    rcases hg with hg | hg
    .exact hg h.1
    .exact hg h.2
   .have hks:=hJ.fin hj
    rw [<-Z63] at hks
    have hs:Z1X true e x1=some (.mk 1 out ks):=by
     unfold Z1X
     rw [if_pos hk,hws,Qe,hks]
     try rfl
    simp only [Z6g,hs]
    exact Y6
 have kk:∀ n:Int,n=(if 0 < e.words.length/\(t.words.length:Int)<=y1.at_ then y1.at_+1 else (t.words.length:Int))->_:=fun n hn=>
  And.intro (fun (_:(0:Int) < e.kids.length)=> show InR ((e.kids.length:Int) - 1) by unfold InR;omega) (And.intro (fun (_:(0:Int) < e.kids.length)=> show (0:Int)<=(e.kids.length:Int) - 1/\(e.kids.length:Int) - 1 < e.kids.length by omega) (And.intro
   (fun (h:(0:Int) < e.kids.length/\(t.kids.length:Int)<=y2.at_)=> And.intro (show InR ((e.kids.length:Int) - 1) by unfold InR;omega) (And.intro (show (0:Int)<=(e.kids.length:Int) - 1/\(e.kids.length:Int) - 1 < e.kids.length by omega) (And.intro (show InR (y2.at_+1) by have:=kr V0;unfold InR;omega) (go n (y2.at_+1) hn (by rw [if_pos ⟨V0,h.2⟩])))))
   (fun (h:¬(0:Int) < e.kids.length\/¬(t.kids.length:Int)<=y2.at_)=> go n t.kids.length hn (by rw [JI]))))
 refine ⟨fun _=> by unfold InR;omega,fun _=> by omega,fun hw=> ⟨V4,V0,by have:=wr V0;unfold InR;omega,kk _ (by rw [if_pos ⟨V0,hw.2⟩])⟩,fun hw=> kk _ (by rw [JI])⟩
theorem Zdw{list:Int}{o:Op}{d:Int}(h:Zc list o d=true):(o.kind=0/\(1<=o.n/\o.n<=1048576)/\o.l=[])\/(o.kind=1/\o.n=0)\/(o.kind=2/\o.n=0)\/(o.kind=3/\o.n=0/\o.l=[]/\Z0 o.e d=true):=by
 have r:=ZT h
 cases r with
 | keep n h1 h2=> exact .inl ⟨rfl,⟨h1,h2⟩,rfl⟩
 | gone=> exact .inr (.inl ⟨rfl,rfl⟩)
 | come=> exact .inr (.inr (.inl ⟨rfl,rfl⟩))
 | into e h1=> exact .inr (.inr (.inr ⟨rfl,rfl,rfl,h1⟩))
theorem ZdW{α:Type}{l:List α}{n:Nat}(h:n < l.length)(d:α):l.take (n+1)=l.take n++[l.getD n d]:=by
 rw [Xn,Qd,Q2 h];try rfl
theorem Zd7{α:Type}(l:List α)(m n:Nat)(d:α):(l.drop m).getD n d=l.getD (m+n) d:=by
 rw [Qd,Qd,Qu]
theorem b37:ZA0:=by
 intro N e t _ hp hN
 simp only [Z7I,Zhx] at hp hN
 obtain ⟨k3,⟨p1,p2,d,p3⟩,p4,p5⟩:=hp
 have h1:=Y3 e
 have h2:=ZU e.ops
 have h3:=Zj8 t
 have h4:=Zw t.kids
 have r2:=Z1K p2
 have rt:=Zfl p5
 have ri:=Zs p3
 refine ZBd _ _ _ _ ?_
 (simp only [iB,vcT,vcS])
 have no:Z0j true e t=none->Yv cfg Try.f37.ntmps Try.f37.results.toList (Z7C (e,t,())) [] .ret (⟨[(4,.ptr (.loc 4) 0),(5,.c (.bool false))],[((.loc 4),[.int .i64 0,.nils,.nils])],[]⟩:LSt U):=by
  intro hs
  simp only [Z7C,hs]
  exact Y6
 refine ⟨fun hk=> no (by unfold Z0j;rw [if_neg hk]),fun hk=> ?_⟩
 have hk:t.kind=e.list:=by simpa using hk
 have hl0:Z0j true e t=ZC true e.ops t.kids []:=by unfold Z0j;rw [if_pos hk]
 refine Zb (ι:=Int × Int × List Tree) (fun s=> Z2l e t s.1 s.2.1 s.2.2)
  (fun s=> (0<=s.1/\s.1<=t.kids.length)/\(0<=s.2.1/\s.2.1<=e.ops.length)/\ZC true (e.ops.drop s.2.1.toNat) (t.kids.drop s.1.toNat) s.2.2=Z0j true e t/\(s.2.2.length:Int)+(t.kids.length - s.1)+Zr (e.ops.drop s.2.1.toNat)<=t.kids.length+Zr e.ops)
  (fun s=> ((e.ops.length:Int) - s.2.1).toNat) (0,0,[]) rfl ⟨by simp,by simp,by simp [hl0],by simp⟩ ?_
 rintro ⟨at_,i,out⟩ ⟨⟨a1,a2⟩,⟨f1,f2⟩,f3,f4⟩
 dsimp only at a1 a2 f1 f2 f3 f4
 refine Zs3 _ _ _ _ _ _ _ _ ?_
 (simp only [iB,vcT,vcS])
 refine ⟨fun hi=> ⟨⟨f1,hi⟩,?_⟩,fun hi=> ?_⟩
 .have hmem:=Zh (l:=e.ops) (i:=i.toNat) V0 Op.nil
  rw [YB f1 hi Op.nil] at f3 f4
  have fin:∀ (a:Int) (m:List Tree),(0<=a/\a<=t.kids.length)->ZC true (e.ops.drop (i+1).toNat) (t.kids.drop a.toNat) m=Z0j true e t->(m.length:Int)+(t.kids.length - a)+Zr (e.ops.drop (i+1).toNat)<=t.kids.length+Zr e.ops->∀ s2,s2=Z2l e t a (i+1) m->
    ∃ j:Int × Int × List Tree,s2=Z2l e t j.1 j.2.1 j.2.2/\((0<=j.1/\j.1<=t.kids.length)/\(0<=j.2.1/\j.2.1<=e.ops.length)/\ZC true (e.ops.drop j.2.1.toNat) (t.kids.drop j.1.toNat) j.2.2=Z0j true e t/\(j.2.2.length:Int)+(t.kids.length - j.1)+Zr (e.ops.drop j.2.1.toNat)<=t.kids.length+Zr e.ops)/\((e.ops.length:Int) - j.2.1).toNat < ((e.ops.length:Int) - i).toNat:=by
   rintro a m b1 b2 b3 _ rfl
   exact ⟨(a,i+1,m),rfl,⟨b1,⟨V3,V3⟩,b2,b3⟩,V3⟩
  generalize hy:e.ops.getD i.toNat Op.nil=y1 at*
  have hr:=Go.AM.rightOs_mem ri.ops y1 hmem
  have hm:=Yl hmem
  have hct:=Z8T hmem
  have hca:=Z2p e
  have hme:=ZW y1
  have hro:=JQ (Z08 r2.2.2.2.2.2.2 hmem)
  have hml:=Zw y1.l
  simp only [Zr] at f4
  rw [ZeK,Yx] at f3
  have hrest:(t.kids.drop at_.toNat).length=t.kids.length - at_.toNat:=QI ..
  rcases Zdw hr with ⟨k0,hn,hl⟩ | ⟨k1,hn⟩ | ⟨k2,hn⟩ | ⟨k3',hn,hl,hre⟩
  ·-- kids are kept
   rw [if_pos k0] at f3
   refine Zb (ι:=Int × Int × List Tree) (fun s=> Z2k e t i s.1 s.2.1 s.2.2) (fun s=> (0<=s.2.1/\s.2.1<=y1.n)/\s.1=at_+s.2.1/\s.1<=t.kids.length/\s.2.2=out++(t.kids.drop at_.toNat).take s.2.1.toNat) (fun s=> (y1.n - s.2.1).toNat) (at_,0,out) rfl ⟨by simp;omega,by simp,by simp;omega,by simp⟩ ?_
   rintro ⟨a,q,m⟩ ⟨⟨c1,c2⟩,c3,c4,c5⟩
   dsimp only at c1 c2 c3 c4 c5
   refine Zbb _ _ _ _ _ _ _ _ _ _ ?_
   rintro z1 hz1 z2 hz2
   rw [hy] at hz1
   subst hz1
   (simp only [iB,vcT,vcS])
   have hlen:(m.length:Int)<=out.length+q:=by rw [c5];simp only [Qh,Qj];omega
   refine ⟨fun hg=> ⟨fun hx=> no ?_,fun hx=> ⟨V0,by simp only [QU];omega,V4,V4,(a+1,q+1,m++[z2]),rfl,⟨V3,V3,V3,?_⟩,V3⟩⟩,fun hg=> ?_⟩
   .rw [JI] at f3
    exact f3.symm
   .dsimp only
    rw [show (q+1).toNat=q.toNat+1 by omega,ZdW V0 Tree.nil,Zd7,show at_.toNat+q.toNat=a.toNat by omega,<-hz2,c5,Qa]
   .have hq:q=z1.n:=V0
    subst hq
    rw [V1,Qe,Xp,show at_.toNat+z1.n.toNat=a.toNat by omega,<-c5] at f3
    dsimp only at f3
    refine Zb (ι:=Unit) (fun _=> Z1t e t i 0 a m) (fun _=> True) (fun _=> 0) () rfl trivial ?_
    intro _ _
    refine Zba _ _ _ _ _ _ _ _ _ _ ?_
    rintro w1 hw1 w2 hw2 w3 hw3 w4 hw4 w5 hw5 w6 hw6 w7 hw7
    rw [hy] at hw1
    subst hw1
    rw [hl]
    (simp only [iB,vcT,vcS])
    exact ⟨fun h=> absurd h (by simp),fun _=> ⟨fun h=> absurd h V0,fun _=> ⟨V4,fin _ _ V0 f3 V0 _ rfl⟩⟩⟩
  ·-- kids are gone
   rw [JI,if_pos k1] at f3
   refine Zb (ι:=Unit) (fun _=> Z2k e t i at_ 0 out) (fun _=> True) (fun _=> 0) () rfl trivial ?_
   intro _ _
   refine Zbb _ _ _ _ _ _ _ _ _ _ ?_
   rintro z1 hz1 z2 hz2
   rw [hy] at hz1
   subst hz1
   (simp only [iB,vcT,vcS])
   refine ⟨fun hg=> absurd hg.1 V0,fun _=> ?_⟩
   refine Zb (ι:=Int × Int) (fun s=> Z1t e t i s.1 s.2 out) (fun s=> (0<=s.1/\s.1<=z1.l.length)/\s.2=at_+s.1/\s.2<=t.kids.length/\∀ j:Nat,(j:Int) < s.1->Z1 (t.kids.getD (at_.toNat+j) Tree.nil)=Z1 (z1.l.getD j Tree.nil)) (fun s=> ((z1.l.length:Int) - s.1).toNat) (0,at_) rfl ⟨by simp,by simp,by simp;omega,fun j hj=> by simp at hj;omega⟩ ?_
   rintro ⟨q,a⟩ ⟨⟨c1,c2⟩,c3,c4,c5⟩
   dsimp only at c1 c2 c3 c4 c5
   refine Zba _ _ _ _ _ _ _ _ _ _ ?_
   rintro w1 hw1 w2 hw2 w3 hw3 w4 hw4 w5 hw5 w6 hw6 w7 hw7
   rw [hy] at hw1
   subst hw1 hw3 hw6
   (simp only [iB,vcT,vcS])
   have bad:Jd w1.l (t.kids.drop at_.toNat)=false->Z0j true e t=none:=by
    intro h
    rw [h,if_neg (by simp)] at f3
    exact f3.symm
   have m2:=Z3p t.kids a.toNat
   have m5:=Z3p w1.l q.toNat
   rw [<-hw2] at m2
   rw [<-hw5] at m5
   refine ⟨fun hq=> ⟨fun h=> absurd h V0,fun _=> ⟨fun _=> by omega,fun _=> by omega,fun _=> by simp only [Z4G];omega,fun h=> no (bad ?_),fun h=> ⟨V4,V4,(q+1,a+1),rfl,⟨V3,V3,V3,fun j hj=> ?_⟩,V3⟩⟩⟩,fun hq=> ⟨fun h=> absurd h V0,fun _=> ⟨V4,?_⟩⟩⟩
   .unfold Jd
    by_cases hx:w1.l.length<=(t.kids.drop at_.toNat).length
    .rw [decide_eq_true hx,QH]
     refine ZjS fun hh=> ?_
     have h3:Yp (Z1 w3) (Z1 w6)=false:=by
      rcases h with h | h
      .omega
      .exact h
     rw [J8] at h3
     apply h3
     have:=Z5D (d:=Tree.nil) hh q.toNat
     rw [hw2,hw5,this,Qd,Qd,X3,V1,Qu,show at_.toNat+q.toNat=a.toNat by omega]
    .rw [decide_eq_false hx];try rfl
   .by_cases hj2:(j:Int) < q
    .exact c5 j hj2
    .have e1:at_.toNat+j=a.toNat:=by dsimp only at hj;omega
     have e2:j=q.toNat:=by dsimp only at hj;omega
     rw [e1,e2,<-hw2,<-hw5]
     exact Yk.1 h.2
   .have hq:q=w1.l.length:=V0
    subst hq
    have Z10:Jd w1.l (t.kids.drop at_.toNat)=true:=by
     unfold Jd
     rw [decide_eq_true V0,QH,Z1f]
     refine ZaG Tree.nil (by rw [Qj];omega) fun j hj=> ?_
     rw [<-c5 j V0,Qd,Qd,X3,if_pos hj,Qu]
    rw [Z10,if_pos rfl,Qe,Xp,show at_.toNat+w1.l.length=a.toNat by omega] at f3
    dsimp only at f3
    exact fin _ _ V0 f3 V0 _ rfl
  ·-- kids come
   rw [JI,JI,if_pos k2,Qe] at f3
   refine Zb (ι:=Unit) (fun _=> Z2k e t i at_ 0 out) (fun _=> True) (fun _=> 0) () rfl trivial ?_
   intro _ _
   refine Zbb _ _ _ _ _ _ _ _ _ _ ?_
   rintro z1 hz1 z2 hz2
   rw [hy] at hz1
   subst hz1
   (simp only [iB,vcT,vcS])
   refine ⟨fun hg=> absurd hg.1 V0,fun _=> ?_⟩
   refine Zb (ι:=Int × List Tree) (fun s=> Z1t e t i s.1 at_ s.2) (fun s=> (0<=s.1/\s.1<=z1.l.length)/\s.2=out++z1.l.take s.1.toNat) (fun s=> ((z1.l.length:Int) - s.1).toNat) (0,out) rfl ⟨by simp,by simp⟩ ?_
   rintro ⟨q,m⟩ ⟨⟨c1,c2⟩,c5⟩
   dsimp only at c1 c2 c5
   refine Zba _ _ _ _ _ _ _ _ _ _ ?_
   rintro w1 hw1 w2 hw2 w3 hw3 w4 hw4 w5 hw5 w6 hw6 w7 hw7
   rw [hy] at hw1
   subst hw1 hw6
   (simp only [iB,vcT,vcS])
   have hlen:(m.length:Int)<=out.length+q:=by rw [c5];simp only [Qh,Qj];omega
   refine ⟨fun hq=> ⟨fun _=> ⟨V0,by simp only [QU];omega,V4,(q+1,m++[w6]),rfl,⟨V3,?_⟩,V3⟩,fun h=> absurd k2 h⟩,fun hq=> ⟨fun h=> absurd h V0,fun _=> ⟨V4,?_⟩⟩⟩
   .dsimp only
    rw [show (q+1).toNat=q.toNat+1 by omega,ZdW V0 Tree.nil,<-hw5,c5,Qa]
   .rw [show q.toNat=w1.l.length by omega,List.take_length] at c5
    rw [<-c5] at f3
    dsimp only at f3
    exact fin _ _ V0 f3 V0 _ rfl
  ·-- what is within a kid
   rw [JI,JI,JI] at f3
   refine Zb (ι:=Unit) (fun _=> Z2k e t i at_ 0 out) (fun _=> True) (fun _=> 0) () rfl trivial ?_
   intro _ _
   refine Zbb _ _ _ _ _ _ _ _ _ _ ?_
   rintro z1 hz1 z2 hz2
   rw [hy] at hz1
   subst hz1
   (simp only [iB,vcT,vcS])
   refine ⟨fun hg=> absurd hg.1 V0,fun _=> ?_⟩
   refine Zb (ι:=Unit) (fun _=> Z1t e t i 0 at_ out) (fun _=> True) (fun _=> 0) () rfl trivial ?_
   intro _ _
   refine Zba _ _ _ _ _ _ _ _ _ _ ?_
   rintro w1 hw1 w2 hw2 w3 hw3 w4 hw4 w5 hw5 w6 hw6 w7 hw7
   rw [hy] at hw1
   subst hw1 hw3
   rw [hl]
   (simp only [iB,vcT,vcS])
   have hz:w3=(t.kids.drop at_.toNat).getD 0 Tree.nil:=by rw [Zd7,Xv];exact hw2
   have m2:=Z3p t.kids at_.toNat
   have g2:=Zbd rt.2.2 at_.toNat
   rw [<-hw2] at m2 g2
   rw [<-hw4] at hre hme hro hct
   refine ⟨fun h=> absurd h (by simp),fun _=> ⟨fun _=> ⟨fun hx=> no ?_,fun hx=> ⟨V0,by simp only [Z3j];exact ⟨⟨V0,hro.2.2.2,_,hre⟩,V0,g2⟩,by simp only [ZdD];omega,fun hne=> no ?_,fun heq=> ?_⟩⟩,fun h=> absurd k3' h⟩⟩
   .rw [V1] at f3
    exact f3.symm
   .rw [JI,<-hz,<-hw4] at f3
    have hne:doE true w4 w3=none:=by simpa using hne
    rw [hne] at f3
    exact f3.symm
   .obtain ⟨u,hu⟩:=QD.1 heq
    rw [hu] at hw7
    have e7:w7=u:=hw7
    subst e7
    rw [JI,<-hz,<-hw4,hu,Qf,Qe,Xp,show at_.toNat+1=(at_+1).toNat by omega] at f3
    dsimp only at f3
    exact ⟨by simp only [QU];omega,V4,V4,fin _ _ V0 f3 (by simp only [List.length_append,List.length_singleton];omega) _ rfl⟩
 .rw [Q8 V0,ZC] at f3
  simp only [Z7C,<-f3,ZfQ,Z0d,Qe,hk]
  by_cases hr:at_=t.kids.length
  .rw [if_pos (by rw [QI];omega),hr]
   simp only [beq_self_eq_true]
   exact Y6
  .rw [if_neg (by rw [QI];omega),show (at_==(t.kids.length:Int))=false by rw [beq_eq_false_iff_ne];omega]
   exact Y6
theorem ZBK:Contract Try.prog cfg 19 Z9i/\Contract Try.prog cfg 36 ZnN/\Contract Try.prog cfg 37 ZnM:=ZsQ c18 c35 c50 c47 c51 b19 b36 b37
theorem c19:Contract Try.prog cfg 19 Z9i:=ZBK.1
noncomputable section
def Zg5:ArgM ((List Op × List Tree × List Tree × Unit) × Unit):=(.obj 0 (.cons (cWr .op 0 0) (.cons (Zif .tree 0 1) (.cons (Zif .tree 0 2) .nil))) .nil)
def Z4E(a:(List Op × List Tree × List Tree × Unit) × Unit):Prop:=(a.1.1).length<=200000000000/\(a.1.2.1).length<=200000000000/\(a.1.2.2.1).length<=200000000000
def Zec(a:(List Op × List Tree × List Tree × Unit) × Unit):V U:= .tup []
def Z9m(a:(List Op × List Tree × List Tree × Unit) × Unit):List (List (C U)):=[[.mref (.x 0 0),sU .tree ((Z6 (Wst.mk a.1.1 a.1.2.1 a.1.2.2.1)).gone) (.own (.x 0 1)),sU .tree ((Z6 (Wst.mk a.1.1 a.1.2.1 a.1.2.2.1)).brought) (.own (.x 0 2))]]
def Z9o(a:(List Op × List Tree × List Tree × Unit) × Unit):List (Tok × LC U):=[(.x 0 0,LC.mk (U:=U) .op ((Z6 (Wst.mk a.1.1 a.1.2.1 a.1.2.2.1)).out) 0)]
def Z45:Fs U:=ZjQ Zg5 (fun a=> [Z4E a]) Zec Z9m Z9o
def Zg7:ArgM ((List Op × List Tree × List Tree × Unit) × Int × Unit):=(.obj 0 (.cons (cWr .op 0 0) (.cons (Zif .tree 0 1) (.cons (Zif .tree 0 2) .nil))) (.cons (Yu .i64) .nil))
def Z7G(a:(List Op × List Tree × List Tree × Unit) × Int × Unit):Prop:=(a.1.1).length<=200000000000/\(a.1.2.1).length<=200000000000/\(a.1.2.2.1).length<=200000000000/\(∀ o∈a.1.1,0<=o.n/\o.n<=100000000000000000)/\0<=a.2.1/\a.2.1<=1048576
def Zo1(a:(List Op × List Tree × List Tree × Unit) × Int × Unit):V U:= .tup []
def ZiV(a:(List Op × List Tree × List Tree × Unit) × Int × Unit):List (List (C U)):=[[.mref (.x 0 0),sU .tree ((ZX (Wst.mk a.1.1 a.1.2.1 a.1.2.2.1) a.2.1).gone) (.own (.x 0 1)),sU .tree ((ZX (Wst.mk a.1.1 a.1.2.1 a.1.2.2.1) a.2.1).brought) (.own (.x 0 2))]]
def ZiW(a:(List Op × List Tree × List Tree × Unit) × Int × Unit):List (Tok × LC U):=[(.x 0 0,LC.mk (U:=U) .op ((ZX (Wst.mk a.1.1 a.1.2.1 a.1.2.2.1) a.2.1).out) 0)]
def Z98:Fs U:=ZjQ Zg7 (fun a=> [Z7G a]) Zo1 ZiV ZiW
def Zg6:ArgM ((List Op × List Tree × List Tree × Unit) × List Tree × Unit):=(.objAt 0 1 (.cons (cWr .op 0 0) (.cons (Zif .tree 0 1) (.cons (Zif .tree 0 2) .nil))) (.cons (aSl .tree) .nil))
def Zem(a:(List Op × List Tree × List Tree × Unit) × List Tree × Unit):Prop:=(a.1.1).length<=200000000000/\(a.1.2.1).length<=200000000000/\(a.1.2.2.1).length<=200000000000/\Zl a.2.1<=20000000000
def ZtY(a:(List Op × List Tree × List Tree × Unit) × List Tree × Unit):V U:= .tup []
def ZnW(a:(List Op × List Tree × List Tree × Unit) × List Tree × Unit):List (List (C U)):=[[.mref (.x 0 0),sU .tree ((Wst.mk a.1.1 (a.1.2.1++Z7 a.2.1) a.1.2.2.1).gone) (.own (.x 0 1)),sU .tree ((Wst.mk a.1.1 (a.1.2.1++Z7 a.2.1) a.1.2.2.1).brought) (.own (.x 0 2))]]
def ZnX(a:(List Op × List Tree × List Tree × Unit) × List Tree × Unit):List (Tok × LC U):=[(.x 0 0,LC.mk (U:=U) .op ((Wst.mk a.1.1 (a.1.2.1++Z7 a.2.1) a.1.2.2.1).out) 0)]
def ZiA:Fs U:=ZjQ Zg6 (fun a=> [Zem a]) ZtY ZnW ZnX
def Z8W:ArgM ((List Op × List Tree × List Tree × Unit) × List Tree × Unit):=(.objAt 0 2 (.cons (cWr .op 0 0) (.cons (Zif .tree 0 1) (.cons (Zif .tree 0 2) .nil))) (.cons (aSl .tree) .nil))
def ZgR(a:(List Op × List Tree × List Tree × Unit) × List Tree × Unit):List (List (C U)):=[[.mref (.x 0 0),sU .tree ((Wst.mk a.1.1 a.1.2.1 (a.1.2.2.1++Z7 a.2.1)).gone) (.own (.x 0 1)),sU .tree ((Wst.mk a.1.1 a.1.2.1 (a.1.2.2.1++Z7 a.2.1)).brought) (.own (.x 0 2))]]
def ZgS(a:(List Op × List Tree × List Tree × Unit) × List Tree × Unit):List (Tok × LC U):=[(.x 0 0,LC.mk (U:=U) .op ((Wst.mk a.1.1 a.1.2.1 (a.1.2.2.1++Z7 a.2.1)).out) 0)]
def Zc2:Fs U:=ZjQ Z8W (fun a=> [Zem a]) ZtY ZgR ZgS
def Z5P(a:Int × Edit × Unit):Prop:=a.2.1.words.length<=20000000000/\a.2.1.kids.length<=20000000000
def Zl0(a:Int × Edit × Unit):V U:= .c (.bool (Z6r a.1 a.2.1))
def Z3c:Fs U:=fs Zqo (fun a=> [Z5P a]) Zl0
def ZwJ:Ze U:=lvk [([0,7],[((.x 0),[.wr .op])]),([0],[((.x 0),[.wr .op])]),([0,28],[((.x 0),[.wr .op])]),([0],[((.x 0),[.wr .op])]),([],[((.x 0),[.wr .op])])]
abbrev W82(wo:List Op)(wg wb:List Tree)(Q:QT):=AW (Z2 ZjE) Try.f82 ZwJ [] (⟨[(0,.ptr (.x 0) 0)],[(.x 0,[.mref (.x 0 0),sU .tree wg (.own (.x 0 1)),sU .tree wb (.own (.x 0 2))])],[(.x 0 0,LC.mk (U:=U) .op wo 0)]⟩:LSt U) Q
theorem ZAv(wo:List Op)(wg wb:List Tree)(Q:QT)(h:∀ y_1,y_1=(Edit.mk 0 (Tree.mk 0 [] []) (Tree.mk 0 [] []) [] [] 0 [])->∀ y_2,y_2=(List.set (wo++([(OpOf.mk 0 0 [] y_1:Op)])) (Int.toNat (wo.length:Int)) (OpOf.mk 1 0 wg y_1:Op))->((decide ((0:Int) < (wg.length:Int)))=true->((wo.length+([(OpOf.mk 0 0 [] y_1:Op)]).length)*240<=140737488355328)/\((0:Int)<=(wo.length:Int)/\(wo.length:Int) < ((wo++([(OpOf.mk 0 0 [] y_1:Op)])).length:Int))/\((0:Nat)<=(Int.toNat (wo.length:Int)))/\(((decide ((0:Int) < (wb.length:Int)))=true->((y_2.length+([(OpOf.mk 0 0 [] y_1:Op)]).length)*240<=140737488355328)/\((0:Int)<=(y_2.length:Int)/\(y_2.length:Int) < ((y_2++([(OpOf.mk 0 0 [] y_1:Op)])).length:Int))/\((0:Nat)<=(Int.toNat (y_2.length:Int)))/\(Q .normal (⟨[],[(.x 0,[.mref (.x 0 0),.nils,.nils])],[(.x 0 0,LC.mk (U:=U) .op (List.set (y_2++([(OpOf.mk 0 0 [] y_1:Op)])) (Int.toNat (y_2.length:Int)) (OpOf.mk 2 0 wb y_1:Op)) 0)]⟩:LSt U)))/\((decide ((0:Int) < (wb.length:Int)))=false->Q .normal (⟨[],[(.x 0,[.mref (.x 0 0),.nils,.nils])],[(.x 0 0,LC.mk (U:=U) .op y_2 0)]⟩:LSt U))))/\((decide ((0:Int) < (wg.length:Int)))=false->((decide ((0:Int) < (wb.length:Int)))=true->((wo.length+([(OpOf.mk 0 0 [] y_1:Op)]).length)*240<=140737488355328)/\((0:Int)<=(wo.length:Int)/\(wo.length:Int) < ((wo++([(OpOf.mk 0 0 [] y_1:Op)])).length:Int))/\((0:Nat)<=(Int.toNat (wo.length:Int)))/\(Q .normal (⟨[],[(.x 0,[.mref (.x 0 0),.nils,.nils])],[(.x 0 0,LC.mk (U:=U) .op (List.set (wo++([(OpOf.mk 0 0 [] y_1:Op)])) (Int.toNat (wo.length:Int)) (OpOf.mk 2 0 wb y_1:Op)) 0)]⟩:LSt U)))/\((decide ((0:Int) < (wb.length:Int)))=false->Q .normal (⟨[],[(.x 0,[.mref (.x 0 0),.nils,.nils])],[(.x 0 0,LC.mk (U:=U) .op wo 0)]⟩:LSt U)))):
  W82 wo wg wb Q:=by
 have e_:(W82 wo wg wb Q)=(let y_1:=(Edit.mk 0 (Tree.mk 0 [] []) (Tree.mk 0 [] []) [] [] 0 []);let y_2:=(List.set (wo++([(OpOf.mk 0 0 [] y_1:Op)])) (Int.toNat (wo.length:Int)) (OpOf.mk 1 0 wg y_1:Op));let zz0:=(decide ((0:Int) < (wb.length:Int)));(((decide ((0:Int) < (wg.length:Int)))=true->((wo.length+([(OpOf.mk 0 0 [] y_1:Op)]).length)*240<=140737488355328)/\((0:Int)<=(wo.length:Int)/\(wo.length:Int) < ((wo++([(OpOf.mk 0 0 [] y_1:Op)])).length:Int))/\((0:Nat)<=(Int.toNat (wo.length:Int)))/\((zz0=true->((y_2.length+([(OpOf.mk 0 0 [] y_1:Op)]).length)*240<=140737488355328)/\((0:Int)<=(y_2.length:Int)/\(y_2.length:Int) < ((y_2++([(OpOf.mk 0 0 [] y_1:Op)])).length:Int))/\((0:Nat)<=(Int.toNat (y_2.length:Int)))/\(Q .normal (⟨[],[(.x 0,[.mref (.x 0 0),.nils,.nils])],[(.x 0 0,LC.mk (U:=U) .op (List.set (y_2++([(OpOf.mk 0 0 [] y_1:Op)])) (Int.toNat (y_2.length:Int)) (OpOf.mk 2 0 wb y_1:Op)) 0)]⟩:LSt U)))/\(zz0=false->(Q .normal (⟨[],[(.x 0,[.mref (.x 0 0),.nils,.nils])],[(.x 0 0,LC.mk (U:=U) .op y_2 0)]⟩:LSt U)))))/\((decide ((0:Int) < (wg.length:Int)))=false->((zz0=true->((wo.length+([(OpOf.mk 0 0 [] y_1:Op)]).length)*240<=140737488355328)/\((0:Int)<=(wo.length:Int)/\(wo.length:Int) < ((wo++([(OpOf.mk 0 0 [] y_1:Op)])).length:Int))/\((0:Nat)<=(Int.toNat (wo.length:Int)))/\(Q .normal (⟨[],[(.x 0,[.mref (.x 0 0),.nils,.nils])],[(.x 0 0,LC.mk (U:=U) .op (List.set (wo++([(OpOf.mk 0 0 [] y_1:Op)])) (Int.toNat (wo.length:Int)) (OpOf.mk 2 0 wb y_1:Op)) 0)]⟩:LSt U)))/\(zz0=false->(Q .normal (⟨[],[(.x 0,[.mref (.x 0 0),.nils,.nils])],[(.x 0 0,LC.mk (U:=U) .op wo 0)]⟩:LSt U))))))):=V5
 exact e_.mpr (by intro y_1 y_2;have hh:=h y_1 rfl y_2 rfl;exact ⟨fun c_1=> ⟨(hh.1 c_1).1,(hh.1 c_1).2.1,(hh.1 c_1).2.2.1,⟨fun c_2=> ⟨((hh.1 c_1).2.2.2.1 c_2).1,((hh.1 c_1).2.2.2.1 c_2).2.1,((hh.1 c_1).2.2.2.1 c_2).2.2.1,((hh.1 c_1).2.2.2.1 c_2).2.2.2⟩,fun c_2=> ((hh.1 c_1).2.2.2.2 c_2)⟩⟩,fun c_1=> ⟨fun c_3=> ⟨((hh.2 c_1).1 c_3).1,((hh.2 c_1).1 c_3).2.1,((hh.2 c_1).1 c_3).2.2.1,((hh.2 c_1).1 c_3).2.2.2⟩,fun c_3=> ((hh.2 c_1).2 c_3)⟩⟩)
def ZxX(wo:List Op)(wg wb:List Tree):Prop:=AW (Z2 ZjE) Try.f82 ZwJ [] (Z0V (Zg5.can ((wo,wg,wb,()),())) (Zg5.canX ((wo,wg,wb,()),())) (Zg5.canL ((wo,wg,wb,()),()))) (Z38 cfg Try.f82.ntmps Try.f82.results.toList (Zec ((wo,wg,wb,()),())) (Z9m ((wo,wg,wb,()),())) (Z9o ((wo,wg,wb,()),())))
theorem ZvG(hb:∀ (wo:List Op) (wg:List Tree) (wb:List Tree) (_:Unit),Z4E ((wo,wg,wb,()),())->ZxX wo wg wb):CT 82 Z45:=
 Z0x (l:=[]) Zk rfl trivial ZwJ Try.func82 rfl rfl 1 (fun _=> rfl) V2 (fun ⟨⟨wo,wg,wb,_⟩,_⟩=> hb wo wg wb ())
def Zpj:List (FuncId × Fs U):=[(82,Z45)]
def ZwK:Ze U:=lvk [([0,1],[((.x 0),[.wr .op])]),([0,1,4],[((.x 0),[.wr .op])]),([0,1,4,25],[((.x 0),[.wr .op])]),([],[((.x 0),[.wr .op])]),([],[((.x 0),[.wr .op])])]
abbrev W79(wo:List Op)(wg wb:List Tree)(n:Int)(Q:QT):=AW (Z2 Zpj) Try.f79 ZwK [] (⟨[(0,.ptr (.x 0) 0),pI 1 n],[(.x 0,[.mref (.x 0 0),sU .tree wg (.own (.x 0 1)),sU .tree wb (.own (.x 0 2))])],[(.x 0 0,LC.mk (U:=U) .op wo 0)]⟩:LSt U) Q
theorem ZAx(wo:List Op)(wg wb:List Tree)(n:Int)(Q:QT)(h:∀ y_1,y_1=(Edit.mk 0 (Tree.mk 0 [] []) (Tree.mk 0 [] []) [] [] 0 [])->∀ y_2,y_2=(Int.toNat (((((Z6 (Wst.mk wo wg wb)).out).length:Int):Int) - 1))->∀ y_3,y_3=(List.getD ((Z6 (Wst.mk wo wg wb)).out) y_2 Op.nil)->∀ y_4,y_4=(y_3.e)->(Z4E ((wo,wg,wb,()),()))/\((InR (((((Z6 (Wst.mk wo wg wb)).out).length:Int):Int) - 1))/\(((decide ((0:Int)<=(((((Z6 (Wst.mk wo wg wb)).out).length:Int):Int) - 1)))=true->(0:Int)<=(((((Z6 (Wst.mk wo wg wb)).out).length:Int):Int) - 1)/\(((((Z6 (Wst.mk wo wg wb)).out).length:Int):Int) - 1) < (((Z6 (Wst.mk wo wg wb)).out).length:Int))/\(((bif (decide ((0:Int)<=(((((Z6 (Wst.mk wo wg wb)).out).length:Int):Int) - 1))) then (y_3.kind==0) else false)=true->((0:Int)<=(((((Z6 (Wst.mk wo wg wb)).out).length:Int):Int) - 1)/\(((((Z6 (Wst.mk wo wg wb)).out).length:Int):Int) - 1) < (((Z6 (Wst.mk wo wg wb)).out).length:Int))/\(InR (y_3.n+n))/\((0:Int)<=(((((Z6 (Wst.mk wo wg wb)).out).length:Int):Int) - 1)/\(((((Z6 (Wst.mk wo wg wb)).out).length:Int):Int) - 1) < (((Z6 (Wst.mk wo wg wb)).out).length:Int))/\((0:Nat)<=y_2)/\(Q .ret (⟨[],[(.x 0,[.mref (.x 0 0),sU .tree ((Z6 (Wst.mk wo wg wb)).gone) (.own (.x 0 1)),sU .tree ((Z6 (Wst.mk wo wg wb)).brought) (.own (.x 0 2))])],[(.x 0 0,LC.mk (U:=U) .op (List.set ((Z6 (Wst.mk wo wg wb)).out) y_2 (OpOf.mk y_3.kind (y_3.n+n) y_3.l y_4:Op)) 0)]⟩:LSt U)))/\((bif (decide ((0:Int)<=(((((Z6 (Wst.mk wo wg wb)).out).length:Int):Int) - 1))) then (y_3.kind==0) else false)=false->((((Z6 (Wst.mk wo wg wb)).out).length+([(OpOf.mk 0 0 [] y_1:Op)]).length)*240<=140737488355328)/\((0:Int)<=(((Z6 (Wst.mk wo wg wb)).out).length:Int)/\(((Z6 (Wst.mk wo wg wb)).out).length:Int) < ((((Z6 (Wst.mk wo wg wb)).out)++([(OpOf.mk 0 0 [] y_1:Op)])).length:Int))/\((0:Nat)<=(Int.toNat (((Z6 (Wst.mk wo wg wb)).out).length:Int)))/\(Q .normal (⟨[],[(.x 0,[.mref (.x 0 0),sU .tree ((Z6 (Wst.mk wo wg wb)).gone) (.own (.x 0 1)),sU .tree ((Z6 (Wst.mk wo wg wb)).brought) (.own (.x 0 2))])],[(.x 0 0,LC.mk (U:=U) .op (List.set (((Z6 (Wst.mk wo wg wb)).out)++([(OpOf.mk 0 0 [] y_1:Op)])) (Int.toNat (((Z6 (Wst.mk wo wg wb)).out).length:Int)) (OpOf.mk 0 n [] y_1:Op)) 0)]⟩:LSt U))))))):
  W79 wo wg wb n Q:=by
 have e_:(W79 wo wg wb n Q)=(let y_1:=(Edit.mk 0 (Tree.mk 0 [] []) (Tree.mk 0 [] []) [] [] 0 []);let y_2:=(Int.toNat (((((Z6 (Wst.mk wo wg wb)).out).length:Int):Int) - 1));let y_3:=(List.getD ((Z6 (Wst.mk wo wg wb)).out) y_2 Op.nil);let y_4:=(JJ y_3.e);let zz0:=(decide ((0:Int)<=(((((Z6 (Wst.mk wo wg wb)).out).length:Int):Int) - 1)));(Z4E ((wo,wg,wb,()),()))/\((InR (((((Z6 (Wst.mk wo wg wb)).out).length:Int):Int) - 1))/\((Tr (zz0=true))/\(Tr (zz0=true))/\(Tr (zz0=true))/\(Tr (zz0=true))/\(Tr (zz0=true))/\(zz0=true->(0:Int)<=(((((Z6 (Wst.mk wo wg wb)).out).length:Int):Int) - 1)/\(((((Z6 (Wst.mk wo wg wb)).out).length:Int):Int) - 1) < (((Z6 (Wst.mk wo wg wb)).out).length:Int))/\(Tr (zz0=true))/\(Tr (zz0=true))/\(Tr (zz0=true))/\(Tr (zz0=true))/\(((bif zz0 then (y_3.kind==0) else false)=true->((0:Int)<=(((((Z6 (Wst.mk wo wg wb)).out).length:Int):Int) - 1)/\(((((Z6 (Wst.mk wo wg wb)).out).length:Int):Int) - 1) < (((Z6 (Wst.mk wo wg wb)).out).length:Int))/\(InR (y_3.n+n))/\((0:Int)<=(((((Z6 (Wst.mk wo wg wb)).out).length:Int):Int) - 1)/\(((((Z6 (Wst.mk wo wg wb)).out).length:Int):Int) - 1) < (((Z6 (Wst.mk wo wg wb)).out).length:Int))/\((0:Nat)<=y_2)/\(Q .ret (⟨[],[(.x 0,[.mref (.x 0 0),sU .tree ((Z6 (Wst.mk wo wg wb)).gone) (.own (.x 0 1)),sU .tree ((Z6 (Wst.mk wo wg wb)).brought) (.own (.x 0 2))])],[(.x 0 0,LC.mk (U:=U) .op (List.set ((Z6 (Wst.mk wo wg wb)).out) y_2 (OpOf.mk y_3.kind (y_3.n+n) y_3.l y_4:Op)) 0)]⟩:LSt U)))/\((bif zz0 then (y_3.kind==0) else false)=false->((((Z6 (Wst.mk wo wg wb)).out).length+([(OpOf.mk 0 0 [] y_1:Op)]).length)*240<=140737488355328)/\((0:Int)<=(((Z6 (Wst.mk wo wg wb)).out).length:Int)/\(((Z6 (Wst.mk wo wg wb)).out).length:Int) < ((((Z6 (Wst.mk wo wg wb)).out)++([(OpOf.mk 0 0 [] y_1:Op)])).length:Int))/\((0:Nat)<=(Int.toNat (((Z6 (Wst.mk wo wg wb)).out).length:Int)))/\(Q .normal (⟨[],[(.x 0,[.mref (.x 0 0),sU .tree ((Z6 (Wst.mk wo wg wb)).gone) (.own (.x 0 1)),sU .tree ((Z6 (Wst.mk wo wg wb)).brought) (.own (.x 0 2))])],[(.x 0 0,LC.mk (U:=U) .op (List.set (((Z6 (Wst.mk wo wg wb)).out)++([(OpOf.mk 0 0 [] y_1:Op)])) (Int.toNat (((Z6 (Wst.mk wo wg wb)).out).length:Int)) (OpOf.mk 0 n [] y_1:Op)) 0)]⟩:LSt U))))))):=V5
 exact e_.mpr (by intro y_1 y_2 y_3 y_4;have hh:=h y_1 rfl y_2 rfl y_3 rfl y_4 (Zf _);exact ⟨hh.1,⟨hh.2.1,⟨id,id,id,id,id,hh.2.2.1,id,id,id,(by generalize (decide ((0:Int)<=(((((Z6 (Wst.mk wo wg wb)).out).length:Int):Int) - 1)))=b0;revert b0;decide),⟨fun c_4=> ⟨(hh.2.2.2.1 c_4).1,(hh.2.2.2.1 c_4).2.1,(hh.2.2.2.1 c_4).2.2.1,(hh.2.2.2.1 c_4).2.2.2.1,(hh.2.2.2.1 c_4).2.2.2.2⟩,fun c_4=> ⟨(hh.2.2.2.2 c_4).1,(hh.2.2.2.2 c_4).2.1,(hh.2.2.2.2 c_4).2.2.1,(hh.2.2.2.2 c_4).2.2.2⟩⟩⟩⟩⟩)
def ZxZ(wo:List Op)(wg wb:List Tree)(n:Int):Prop:=AW (Z2 Zpj) Try.f79 ZwK [] (Z0V (Zg7.can ((wo,wg,wb,()),n,())) (Zg7.canX ((wo,wg,wb,()),n,())) (Zg7.canL ((wo,wg,wb,()),n,()))) (Z38 cfg Try.f79.ntmps Try.f79.results.toList (Zo1 ((wo,wg,wb,()),n,())) (ZiV ((wo,wg,wb,()),n,())) (ZiW ((wo,wg,wb,()),n,())))
theorem ZvI(c82:CT 82 Z45)(hb:∀ (wo:List Op) (wg:List Tree) (wb:List Tree) (n:Int) (_:Unit),Z7G ((wo,wg,wb,()),n,())->ZxZ wo wg wb n):CT 79 Z98:=
 Z0x (l:=[(82,Z45)]) Zk rfl (⟨c82,trivial⟩) ZwK Try.func79 rfl rfl 2 (fun _=> rfl) V2 (fun ⟨⟨wo,wg,wb,_⟩,n,_⟩=> hb wo wg wb n ())
def ZfS:List (FuncId × Fs U):=[(22,Z1y)]
def ZoQ:Ze U:=lvk [([0,6,7,8],[((.x 0),[.wr .op])]),([0,6,7,8,9],[((.x 0),[.wr .op])]),([0,5,6,7,8],[5,((.x 0),[.wr .op])]),([0,6,7,8],[((.x 0),[.wr .op])]),([0,6,7,8],[((.x 0),[.wr .op])])]
def Z8b(wo:List Op)(wg wb l:List Tree)(x8:Int)(mx0_1:List Tree):LSt U:=(⟨[(0,.ptr (.x 0) 1),(6,.c (sU .tree l .unk)),pI 7 (l.length:Int),pI 8 x8],[(.x 0,[.mref (.x 0 0),sU .tree mx0_1 (.own (.x 0 1)),sU .tree wb (.own (.x 0 2))])],[(.x 0 0,LC.mk (U:=U) .op wo 0)]⟩:LSt U)
abbrev W80(wo:List Op)(wg wb l:List Tree)(Q:QT):=AW (Z2 ZfS) Try.f80 ZoQ [] (⟨[(0,.ptr (.x 0) 1),(1,.c (sU .tree l .unk))],[(.x 0,[.mref (.x 0 0),sU .tree wg (.own (.x 0 1)),sU .tree wb (.own (.x 0 2))])],[(.x 0 0,LC.mk (U:=U) .op wo 0)]⟩:LSt U) Q
theorem ZAw(wo:List Op)(wg wb l:List Tree)(Q:QT)(h:Zi (AW (Z2 ZfS) Try.f80 ZoQ [1,0,0]) (Z8b wo wg wb l 0 wg) (xB 0 Q)):
  W80 wo wg wb l Q:=by
 have e_:(W80 wo wg wb l Q)=(type_of% h):=V5
 exact e_.mpr h
abbrev Zrb(wo:List Op)(wg wb l:List Tree)(x8:Int)(mx0_1:List Tree)(N0:NT)(Q:QT):=AW (Z2 ZfS) Try.f80 ZoQ [1,0,0] (Z8b wo wg wb l x8 mx0_1) (xT N0 (xB 0 Q))
theorem ZrB(wo:List Op)(wg wb l:List Tree)(x8:Int)(mx0_1:List Tree)(N0:NT)(Q:QT)(h:((decide (x8 < (l.length:Int)))=true->((0:Int)<=x8/\x8 < (l.length:Int))/\((Z0P ((Tree.mk (Tree.kind (l.getD x8.toNat Tree.nil)) (Tree.words (l.getD x8.toNat Tree.nil)) (Tree.kids (l.getD x8.toNat Tree.nil))),()))/\((mx0_1.length+([(Tree.mk 0 [] [])]).length)*56<=140737488355328)/\((0:Int)<=(mx0_1.length:Int)/\(mx0_1.length:Int) < ((mx0_1++([(Tree.mk 0 [] [])])).length:Int))/\(mx0_1.length<=(Int.toNat (mx0_1.length:Int)))/\((InR (x8+1))/\(N0 (Z8b wo wg wb l (x8+1) (List.set (mx0_1++([(Tree.mk 0 [] [])])) (Int.toNat (mx0_1.length:Int)) (Tree.mk (Tree.kind (Z1 (Tree.mk (Tree.kind (l.getD x8.toNat Tree.nil)) (Tree.words (l.getD x8.toNat Tree.nil)) (Tree.kids (l.getD x8.toNat Tree.nil))))) (Tree.words (Z1 (Tree.mk (Tree.kind (l.getD x8.toNat Tree.nil)) (Tree.words (l.getD x8.toNat Tree.nil)) (Tree.kids (l.getD x8.toNat Tree.nil))))) (Tree.kids (Z1 (Tree.mk (Tree.kind (l.getD x8.toNat Tree.nil)) (Tree.words (l.getD x8.toNat Tree.nil)) (Tree.kids (l.getD x8.toNat Tree.nil))))))))))))/\((decide (x8 < (l.length:Int)))=false->Q .normal (⟨[(0,.ptr (.x 0) 1),(6,.c (sU .tree l .unk)),pI 7 (l.length:Int),pI 8 x8,pB 9 (decide (x8 < (l.length:Int)))],[(.x 0,[.mref (.x 0 0),sU .tree mx0_1 (.own (.x 0 1)),sU .tree wb (.own (.x 0 2))])],[(.x 0 0,LC.mk (U:=U) .op wo 0)]⟩:LSt U))):
  Zrb wo wg wb l x8 mx0_1 N0 Q:=by
 have e_:(Zrb wo wg wb l x8 mx0_1 N0 Q)=(type_of% h):=V5
 exact e_.mpr ⟨fun c_5=> ⟨(h.1 c_5).1,⟨(h.1 c_5).2.1,(h.1 c_5).2.2.1,(h.1 c_5).2.2.2.1,(h.1 c_5).2.2.2.2.1,⟨(h.1 c_5).2.2.2.2.2.1,(h.1 c_5).2.2.2.2.2.2⟩⟩⟩,fun c_5=> (h.2 c_5)⟩
def ZxY(wo:List Op)(wg wb l:List Tree):Prop:=AW (Z2 ZfS) Try.f80 ZoQ [] (Z0V (Zg6.can ((wo,wg,wb,()),l,())) (Zg6.canX ((wo,wg,wb,()),l,())) (Zg6.canL ((wo,wg,wb,()),l,()))) (Z38 cfg Try.f80.ntmps Try.f80.results.toList (ZtY ((wo,wg,wb,()),l,())) (ZnW ((wo,wg,wb,()),l,())) (ZnX ((wo,wg,wb,()),l,())))
theorem ZvH(c22:CT 22 Z1y)(hb:∀ (wo:List Op) (wg:List Tree) (wb:List Tree) (l:List Tree) (_:Unit),Zem ((wo,wg,wb,()),l,())->ZxY wo wg wb l):CT 80 ZiA:=
 Z0x (l:=[(22,Z1y)]) Zk rfl (⟨c22,trivial⟩) ZoQ Try.func80 rfl rfl 2 (fun _=> rfl) V2 (fun ⟨⟨wo,wg,wb,_⟩,l,_⟩=> hb wo wg wb l ())
def Z4n(wo:List Op)(wg wb l:List Tree)(x8:Int)(mx0_2:List Tree):LSt U:=(⟨[(0,.ptr (.x 0) 2),(6,.c (sU .tree l .unk)),pI 7 (l.length:Int),pI 8 x8],[(.x 0,[.mref (.x 0 0),sU .tree wg (.own (.x 0 1)),sU .tree mx0_2 (.own (.x 0 2))])],[(.x 0 0,LC.mk (U:=U) .op wo 0)]⟩:LSt U)
abbrev ZuW(wo:List Op)(wg wb l:List Tree)(Q:QT):=AW (Z2 ZfS) Try.f80 ZoQ [] (⟨[(0,.ptr (.x 0) 2),(1,.c (sU .tree l .unk))],[(.x 0,[.mref (.x 0 0),sU .tree wg (.own (.x 0 1)),sU .tree wb (.own (.x 0 2))])],[(.x 0 0,LC.mk (U:=U) .op wo 0)]⟩:LSt U) Q
theorem Zv4(wo:List Op)(wg wb l:List Tree)(Q:QT)(h:Zi (AW (Z2 ZfS) Try.f80 ZoQ [1,0,0]) (Z4n wo wg wb l 0 wb) (xB 0 Q)):
  ZuW wo wg wb l Q:=by
 have e_:(ZuW wo wg wb l Q)=(type_of% h):=V5
 exact e_.mpr h
abbrev Zio(wo:List Op)(wg wb l:List Tree)(x8:Int)(mx0_2:List Tree)(N0:NT)(Q:QT):=AW (Z2 ZfS) Try.f80 ZoQ [1,0,0] (Z4n wo wg wb l x8 mx0_2) (xT N0 (xB 0 Q))
theorem ZlV(wo:List Op)(wg wb l:List Tree)(x8:Int)(mx0_2:List Tree)(N0:NT)(Q:QT)(h:((decide (x8 < (l.length:Int)))=true->((0:Int)<=x8/\x8 < (l.length:Int))/\((Z0P ((Tree.mk (Tree.kind (l.getD x8.toNat Tree.nil)) (Tree.words (l.getD x8.toNat Tree.nil)) (Tree.kids (l.getD x8.toNat Tree.nil))),()))/\((mx0_2.length+([(Tree.mk 0 [] [])]).length)*56<=140737488355328)/\((0:Int)<=(mx0_2.length:Int)/\(mx0_2.length:Int) < ((mx0_2++([(Tree.mk 0 [] [])])).length:Int))/\(mx0_2.length<=(Int.toNat (mx0_2.length:Int)))/\((InR (x8+1))/\(N0 (Z4n wo wg wb l (x8+1) (List.set (mx0_2++([(Tree.mk 0 [] [])])) (Int.toNat (mx0_2.length:Int)) (Tree.mk (Tree.kind (Z1 (Tree.mk (Tree.kind (l.getD x8.toNat Tree.nil)) (Tree.words (l.getD x8.toNat Tree.nil)) (Tree.kids (l.getD x8.toNat Tree.nil))))) (Tree.words (Z1 (Tree.mk (Tree.kind (l.getD x8.toNat Tree.nil)) (Tree.words (l.getD x8.toNat Tree.nil)) (Tree.kids (l.getD x8.toNat Tree.nil))))) (Tree.kids (Z1 (Tree.mk (Tree.kind (l.getD x8.toNat Tree.nil)) (Tree.words (l.getD x8.toNat Tree.nil)) (Tree.kids (l.getD x8.toNat Tree.nil))))))))))))/\((decide (x8 < (l.length:Int)))=false->Q .normal (⟨[(0,.ptr (.x 0) 2),(6,.c (sU .tree l .unk)),pI 7 (l.length:Int),pI 8 x8,pB 9 (decide (x8 < (l.length:Int)))],[(.x 0,[.mref (.x 0 0),sU .tree wg (.own (.x 0 1)),sU .tree mx0_2 (.own (.x 0 2))])],[(.x 0 0,LC.mk (U:=U) .op wo 0)]⟩:LSt U))):
  Zio wo wg wb l x8 mx0_2 N0 Q:=by
 have e_:(Zio wo wg wb l x8 mx0_2 N0 Q)=(type_of% h):=V5
 exact e_.mpr ⟨fun c_6=> ⟨(h.1 c_6).1,⟨(h.1 c_6).2.1,(h.1 c_6).2.2.1,(h.1 c_6).2.2.2.1,(h.1 c_6).2.2.2.2.1,⟨(h.1 c_6).2.2.2.2.2.1,(h.1 c_6).2.2.2.2.2.2⟩⟩⟩,fun c_6=> (h.2 c_6)⟩
def Zrp(wo:List Op)(wg wb l:List Tree):Prop:=AW (Z2 ZfS) Try.f80 ZoQ [] (Z0V (Z8W.can ((wo,wg,wb,()),l,())) (Z8W.canX ((wo,wg,wb,()),l,())) (Z8W.canL ((wo,wg,wb,()),l,()))) (Z38 cfg Try.f80.ntmps Try.f80.results.toList (ZtY ((wo,wg,wb,()),l,())) (ZgR ((wo,wg,wb,()),l,())) (ZgS ((wo,wg,wb,()),l,())))
theorem ZoO(c22:CT 22 Z1y)(hb:∀ (wo:List Op) (wg:List Tree) (wb:List Tree) (l:List Tree) (_:Unit),Zem ((wo,wg,wb,()),l,())->Zrp wo wg wb l):CT 80 Zc2:=
 Z0x (l:=[(22,Z1y)]) Zk rfl (⟨c22,trivial⟩) ZoQ Try.func80 rfl rfl 2 (fun _=> rfl) V2 (fun ⟨⟨wo,wg,wb,_⟩,l,_⟩=> hb wo wg wb l ())
abbrev ZuV(list:Int)(e:Edit)(Q:QT):=AW (Z2 ZjE) Try.f81 ZwF [] (L2 [pI 0 list,(1,.agg (enc .edit e))] []) Q
theorem Zv3(list:Int)(e:Edit)(Q:QT)(h:(((!(e.kind==0)) && (bif (list==9) then (e.kind==2) else false))=true->InR (((e.words.length:Int):Int)+(e.kids.length:Int)))/\(Q .ret (L2 [(4,.c (.bool (bif (e.kind==0) then true else (bif (bif (list==9) then (e.kind==2) else false) then (((((e.words.length:Int):Int)+(e.kids.length:Int)):Int)==0) else false))))] []))):
  ZuV list e Q:=by
 have e_:(ZuV list e Q)=(let zz1:=(!(e.kind==0));let zz0:=(bif ((list:Int)==9) then (e.kind==2) else false);((Tr (zz1=true))/\(Tr (zz1=true))/\(Tr ((zz1 && ((list:Int)==9))=true))/\(Tr ((zz1 && ((list:Int)==9))=true))/\(zz1=true->(True->zz1=true))/\(zz1=true->(((list:Int)==9)=true->(zz1 && ((list:Int)==9))=true))/\(Tr (zz1=true))/\(Tr ((zz1 && zz0)=true))/\(Tr ((zz1 && zz0)=true))/\(Tr ((zz1 && zz0)=true))/\(Tr ((zz1 && zz0)=true))/\(Tr ((zz1 && zz0)=true))/\(Tr ((zz1 && zz0)=true))/\((zz1 && zz0)=true->InR ((e.words.length:Int)+(e.kids.length:Int)))/\(Tr ((zz1 && zz0)=true))/\(zz1=true->(True->zz1=true))/\(zz1=true->(zz0=true->(zz1 && zz0)=true))/\((e.kind==0)=false->zz1=true)/\(Q .ret (L2 [(4,.c (.bool (bif (e.kind==0) then true else (bif zz0 then ((((e.words.length:Int)+(e.kids.length:Int)):Int)==0) else false))))] [])))):=V5
 exact e_.mpr ⟨id,id,id,id,(by generalize ((e.kind:Int)==0)=b0;revert b0;decide),(by generalize ((e.kind:Int)==0)=b0;generalize ((list:Int)==9)=b1;revert b0 b1;decide),id,id,id,id,id,id,id,h.1,id,(by generalize ((e.kind:Int)==0)=b0;revert b0;decide),(by generalize ((e.kind:Int)==2)=b0;generalize ((e.kind:Int)==0)=b1;generalize ((list:Int)==9)=b2;revert b0 b1 b2;decide),(by generalize ((e.kind:Int)==0)=b0;revert b0;decide),h.2⟩
def Zro(list:Int)(e:Edit):Prop:=AW (Z2 ZjE) Try.f81 ZwF [] (Zj (Zqo.can (list,e,())) []) (EQ Try.f81 (Zl0 (list,e,())) [])
theorem ZoN(hb:∀ (list:Int) (e:Edit) (_:Unit),Z5P (list,e,())->Zro list e):CT 81 Z3c:=
 Z3 (l:=[]) Zk rfl trivial ZwF Try.func81 rfl rfl 2 (fun _=> rfl) V2 (fun ⟨list,e,_⟩=> hb list e ())
end
theorem Z24{α:Type}(l:List α)(z x:α):(l++[z]).set (Int.toNat (l.length:Int)) x=l++[x]:=by
 rw [QY,XM _ _ (Qm _)]
 simp
theorem Z89:∀ (F:List Op) (n:Int),Z1F F n=if F.length≠0/\(F.getD (F.length - 1) Op.nil).kind=0 then F.set (F.length - 1) ⟨(F.getD (F.length - 1) Op.nil).kind,(F.getD (F.length - 1) Op.nil).n+n,(F.getD (F.length - 1) Op.nil).l,(F.getD (F.length - 1) Op.nil).e⟩ else F++[⟨0,n,[],Edit.nil⟩]
 | [],n=> by simp [Z1F]
 | [o],n=> by simp [Z1F]
 | o ::p ::r,n=> by
  have ih:=Z89 (p ::r) n
  have e:(o ::p ::r).length - 1=((p ::r).length - 1)+1:=by simp
  rw [Z1F,ih,e]
  simp only [XX,List.set_cons_succ]
  by_cases h:(p ::r).length≠0/\((p ::r).getD ((p ::r).length - 1) Op.nil).kind=0
  .rw [if_pos h,if_pos ⟨by simp,h.2⟩]
  .have h':¬((p ::r).getD ((p ::r).length - 1) Op.nil).kind=0:=fun e=> h ⟨by simp,e⟩
   rw [if_neg h,if_neg (fun e=> h' e.2)]
   try rfl
theorem Z9I(s:Wst):(Z6 s).out.length<=s.out.length+2:=by
 simp only [Z6,Z0D]
 split <;> split <;> simp
theorem Z9H(s:Wst):∀ o∈(Z6 s).out,o∈s.out\/o.n=0:=by
 intro o ho
 simp only [Z6,Z0D,Qi] at ho
 rcases ho with h | h | h
 .exact .inl h
 .split at h
  .cases h
  .simp only [Q9] at h;subst h;exact .inr rfl
 .split at h
  .cases h
  .simp only [Q9] at h;subst h;exact .inr rfl
theorem c82:Contract Try.prog cfg 82 Z45:=by
 refine ZvG ?_
 intro wo wg wb _ hp
 simp only [Z4E] at hp
 refine ZAv wo wg wb _ ?_
 rintro y1 hy1 y2 hy2
 have hy:y1=Edit.nil:=hy1
 subst hy
 rw [Z24] at hy2
 subst hy2
 (simp only [iB,vcS])
 refine ⟨fun h1=> ⟨by simp;omega,by simp;omega,V0,fun h2=> ⟨by simp;omega,by simp;omega,V0,?_⟩,fun h2=> ?_⟩,fun h1=> ⟨fun h2=> ⟨by simp;omega,by simp;omega,V0,?_⟩,fun h2=> ?_⟩⟩
 .rw [Z24]
  have e:Z6 ⟨wo,wg,wb⟩=⟨wo++[⟨1,0,wg,Edit.nil⟩]++[⟨2,0,wb,Edit.nil⟩],[],[]⟩:=by
   simp only [Z6,Z0D];rw [JI,JI];simp
  simp only [Zec,Z9m,Z9o,e]
  exact Y6
 .have e:Z6 ⟨wo,wg,wb⟩=⟨wo++[⟨1,0,wg,Edit.nil⟩],[],[]⟩:=by
   simp only [Z6,Z0D];rw [JI,V1];simp
  simp only [Zec,Z9m,Z9o,e]
  exact Y6
 .rw [Z24]
  have e:Z6 ⟨wo,wg,wb⟩=⟨wo++[⟨2,0,wb,Edit.nil⟩],[],[]⟩:=by
   simp only [Z6,Z0D];rw [V1,JI];simp
  simp only [Zec,Z9m,Z9o,e]
  exact Y6
 .have e:Z6 ⟨wo,wg,wb⟩=⟨wo,[],[]⟩:=by
   simp only [Z6,Z0D];rw [V1,V1];simp
  simp only [Zec,Z9m,Z9o,e]
  exact Y6
theorem c79:Contract Try.prog cfg 79 Z98:=by
 refine ZvI c82 ?_
 intro wo wg wb n _ hp
 simp only [Z7G] at hp
 obtain ⟨p1,p2,p3,p4,p5,p6⟩:=hp
 have hfl:=Z9I ⟨wo,wg,wb⟩
 have hfm:=Z9H ⟨wo,wg,wb⟩
 have hg:(Z6 ⟨wo,wg,wb⟩).gone=[]:=rfl
 have hb:(Z6 ⟨wo,wg,wb⟩).brought=[]:=rfl
 have hk:=Z89 (Z6 ⟨wo,wg,wb⟩).out n
 have hkw:ZX ⟨wo,wg,wb⟩ n=⟨Z1F (Z6 ⟨wo,wg,wb⟩).out n,[],[]⟩:=rfl
 refine ZAx wo wg wb n _ ?_
 simp only [hg,hb,Zo1,ZiV,ZiW,hkw]
 generalize (Z6 ⟨wo,wg,wb⟩).out=F at*
 simp only at hfl hfm
 rintro y1 hy1 y2 hy2 y3 hy3 y4 hy4
 have hy:y1=Edit.nil:=hy1
 subst hy
 have e2:y2=F.length - 1:=V0
 subst e2
 rw [<-hy3,<-hy4] at hk
 (simp only [iB,vcS])
 refine ⟨by simp only [Z4E];exact ⟨p1,p2,p3⟩,V4,fun h=> ⟨h,V0⟩,fun h=> ?_,fun h=> ?_⟩
 .have hy3n:0<=y3.n/\y3.n<=100000000000000000:=by
   have hm:y3∈F:=by rw [hy3];exact Zh V0 _
   rcases hfm y3 hm with h1 | h1
   .exact p4 y3 h1
   .omega
  rw [if_pos ⟨V0,h.2⟩] at hk
  rw [hk]
  refine ⟨V0,V4,V0,V0,?_⟩
  exact Y6
 .rw [JI] at hk
  rw [hk,Z24]
  refine ⟨by simp;omega,by simp;omega,V0,?_⟩
  exact Y6
theorem c80:Contract Try.prog cfg 80 ZiA:=by
 refine ZvH c22 ?_
 intro wo wg wb l _ hp
 simp only [Zem] at hp
 obtain ⟨p1,p2,p3,p4⟩:=hp
 have hl:=Zw l
 refine ZAw _ _ _ _ _ ?_
 refine Zb (ι:=Int × List Tree) (fun s=> Z8b wo wg wb l s.1 s.2) (fun s=> 0<=s.1/\s.1<=l.length/\s.2.length=wg.length+s.1/\s.2++Z7 (l.drop s.1.toNat)=wg++Z7 l) (fun s=> ((l.length:Int) - s.1).toNat) (0,wg) rfl ⟨by simp,by simp,by simp,by simp⟩ ?_
 rintro ⟨i,out⟩ ⟨h1,h2,h3,h4⟩
 dsimp only at h1 h2 h3 h4
 refine ZrB _ _ _ _ _ _ _ _ ?_
 (simp only [iB,vcS])
 (simp only [Tree.eta,Edit.eta,Tree.kind_mk,Tree.words_mk,Tree.kids_mk])
 refine ⟨fun hi=> ?_,fun hi=> ?_⟩
 .have hm:=J5 (Zh (l:=l) (i:=i.toNat) V0 Tree.nil)
  rw [YB h1 hi Tree.nil] at h4
  simp only [Z7,X4] at h4
  rw [Z24]
  refine ⟨⟨h1,hi⟩,by simp only [Z0P];omega,by simp;omega,by simp;omega,V0,V4,(i+1,out++[Z1 (l.getD i.toNat Tree.nil)]),rfl,⟨V3,V3,by simp;omega,?_⟩,V3⟩
  simp only [Qa,Qw,QF]
  exact h4
 .rw [Q8 V0] at h4
  simp only [Z7,XQ,Qp] at h4
  rw [h4]
  exact Y6
theorem ZzH:Contract Try.prog cfg 80 Zc2:=by
 refine ZoO c22 ?_
 intro wo wg wb l _ hp
 simp only [Zem] at hp
 obtain ⟨p1,p2,p3,p4⟩:=hp
 have hl:=Zw l
 refine Zv4 _ _ _ _ _ ?_
 refine Zb (ι:=Int × List Tree) (fun s=> Z4n wo wg wb l s.1 s.2) (fun s=> 0<=s.1/\s.1<=l.length/\s.2.length=wb.length+s.1/\s.2++Z7 (l.drop s.1.toNat)=wb++Z7 l) (fun s=> ((l.length:Int) - s.1).toNat) (0,wb) rfl ⟨by simp,by simp,by simp,by simp⟩ ?_
 rintro ⟨i,out⟩ ⟨h1,h2,h3,h4⟩
 dsimp only at h1 h2 h3 h4
 refine ZlV _ _ _ _ _ _ _ _ ?_
 (simp only [iB,vcS])
 (simp only [Tree.eta,Edit.eta,Tree.kind_mk,Tree.words_mk,Tree.kids_mk])
 refine ⟨fun hi=> ?_,fun hi=> ?_⟩
 .have hm:=J5 (Zh (l:=l) (i:=i.toNat) V0 Tree.nil)
  rw [YB h1 hi Tree.nil] at h4
  simp only [Z7,X4] at h4
  rw [Z24]
  refine ⟨⟨h1,hi⟩,by simp only [Z0P];omega,by simp;omega,by simp;omega,V0,V4,(i+1,out++[Z1 (l.getD i.toNat Tree.nil)]),rfl,⟨V3,V3,by simp;omega,?_⟩,V3⟩
  simp only [Qa,Qw,QF]
  exact h4
 .rw [Q8 V0] at h4
  simp only [Z7,XQ,Qp] at h4
  rw [h4]
  exact Y6
theorem Zqe:Contract Try.prog cfg 81 Z3c:=by
 refine ZoN ?_
 intro list e _ hp
 simp only [Z5P] at hp
 refine Zv3 _ _ _ ?_
 refine ⟨fun _=> by unfold InR;dsimp only;omega,Z4 rfl ?_⟩
 rw [Qk]
 simp only [Z6r]
 (simp only [iB,vcS])
 omega
noncomputable def Z4S:Fs U:=Zxp ZiA Zc2
theorem Zqd:Contract Try.prog cfg 80 Z4S:=Zic c80 ZzH
noncomputable section
noncomputable section
def Z1l(a:Edit × Unit):Prop:=Zd a.1<=20000000000/\∃ d,Z0 a.1 d=true
def Zak(a:Edit × Unit):V U:= .agg (enc .edit (ZE a.1))
def Z1Y:Fs U:=fs ZqO (fun a=> [Z1l a]) Zak
def Zg9:ArgL (Int × List Op × Unit):=(.cons (Yu .i64) (.cons (aSl .op) .nil))
def Zao(a:Int × List Op × Unit):Prop:=Zr a.2.1<=20000000000/\∀ o∈a.2.1,∃ d,Zc a.1 o d=true
def Zhv(a:Int × List Op × Unit):Nat:=2*Zr a.2.1+1
def ZgU(a:Int × List Op × Unit):V U:= .c (sU .op ((Z6 (YS a.1 a.2.1 (Wst.mk [] [] []))).out) .unk)
def ZnH:Fs U:=fs Zg9 (fun a=> [Zao a]) ZgU
def Z36(N:Nat):List (FuncId × Fs U):=(42,fs ZqO (fun a=> [Z1l a,ZcN a < N]) Zak) ::(60,fs Zg9 (fun a=> [Zao a,Zhv a < N]) ZgU) ::[(22,Z1y),(81,Z3c),(79,Z98),(82,Z45),(80,Z4S)]
def ZfP:Ze U:=lvk [([1,2],[1,2]),([1,2,3],[1,2,3]),([1,2,3,12],[1,2,3]),([1,2,3,12,13],[1,2,3]),([2,3],[2,3]),([1,2,3,12,23],[1,2,3]),([1,2,3],[1,2,3]),([2,3,32,33,34],[2,((.loc 3),(an 8 [.own .kid]))]),([2,3,32,33,34,35],[2,3]),([2,3,5,32,33,34],[2,3,5]),([2,3,32,33,34],[2,3]),([2,3,32,33,34],[2,((.loc 3),(an 8 [.own .kid]))]),([1,2,3,50],[1,2,3]),([2,3],[2,3]),([2],[2])]
def Z3L(e:Edit)(x34:Int)(ml3_8:List Kid):LSt U:=(L2 [pL 2,pL 3,(32,.c (sU .kid e.kids .unk)),pI 33 (e.kids.length:Int),pI 34 x34] [(.loc 2,zc1),(.loc 3,[ci e.kind,ci 0,.nils,.nils,ci 0,.nils,.nils,sU .wedit (([]:List WEdit)++e.words) (.own (.l 3 7)),sU .kid ml3_8 (.own (.l 3 8)),ci e.list,.nils])])
abbrev W42(N:Nat)(e:Edit)(Q:QT):=AW (Z2 (Z36 N)) Try.f42 ZfP [] (L2 [(0,.agg (enc .edit e))] []) Q
abbrev Zkr(N:Nat):=awp cfg (Z2 (Z36 N)) (ZV cfg (Z2 (Z36 N))) Try.f42.ntmps ZfP
abbrev ZiN(N:Nat):=Zcb cfg (Z2 (Z36 N)) (ZV cfg (Z2 (Z36 N))) Try.f42.ntmps ZfP
theorem ZB8(N:Nat)(e:Edit)(Q:QT)(h:((e.kind==1)=true->(Z0P ((Tree.mk e.old.kind e.old.words e.old.kids),()))/\(Z0P ((Tree.mk e.new.kind e.new.words e.new.kids),()))/\(Q .ret (L2 [pL 2] [(.loc 2,([ci e.kind]++enc .tree (Z1 (Tree.mk e.old.kind e.old.words e.old.kids))++enc .tree (Z1 (Tree.mk e.new.kind e.new.words e.new.kids))++[.nils,.nils,ci e.list,.nils]))])))/\((e.kind==1)=false->((e.kind==2)=true->((([]:List WEdit).length+e.words.length)*32<=140737488355328)/\(Zi (AW (Z2 (Z36 N)) Try.f42 ZfP [1,1,0,1,0,1,1,1,0,1,1,0,0]) (Z3L e 0 []) (xB 1 (xB 0 (SW (Z2 (Z36 N)) Try.f42 ZfP [1,1,1] Q)))))/\((e.kind==2)=false->((e.kind==3)=true->(Zao (e.list,e.ops,()))/\(Zhv (e.list,e.ops,()) < N)/\(Q .ret (L2 [pL 2] [(.loc 2,[ci e.kind,ci 0,.nils,.nils,ci 0,.nils,.nils,.nils,.nils,ci e.list,sU .op ((Z6 (YS e.list e.ops (Wst.mk [] [] []))).out) .unk])])))/\((e.kind==3)=false->Q .ret (L2 [pL 2] [(.loc 2,[ci e.kind,ci 0,.nils,.nils,ci 0,.nils,.nils,.nils,.nils,ci e.list,.nils])]))))):
  W42 N e Q:=by
 have e_:(W42 N e Q)=(((e.kind==1)=true->(Z0P ((Tree.mk e.old.kind e.old.words e.old.kids),()))/\(Z0P ((Tree.mk e.new.kind e.new.words e.new.kids),()))/\(Q .ret (L2 [pL 2] [(.loc 2,([ci e.kind]++enc .tree (Z1 (Tree.mk e.old.kind e.old.words e.old.kids))++enc .tree (Z1 (Tree.mk e.new.kind e.new.words e.new.kids))++[.nils,.nils,ci e.list,.nils]))])))/\((e.kind==1)=false->(((e.kind==2)=true->((([]:List WEdit).length+e.words.length)*32<=140737488355328)/\(Zi (Zkr N (cd Try.f42 [1,1,0,1,0,1,1,1,0,1,1,0,0])) (Z3L e 0 []) (xB 1 (xB 0 (ZiN N (cd Try.f42 [1,1,1]) Q)))))/\((e.kind==2)=false->(((e.kind==3)=true->(Zao (e.list,e.ops,()))/\(Zhv (e.list,e.ops,()) < N)/\(Q .ret (L2 [pL 2] [(.loc 2,[ci e.kind,ci 0,.nils,.nils,ci 0,.nils,.nils,.nils,.nils,ci e.list,sU .op ((Z6 (YS e.list e.ops (Wst.mk [] [] []))).out) .unk])])))/\((e.kind==3)=false->(Q .ret (L2 [pL 2] [(.loc 2,[ci e.kind,ci 0,.nils,.nils,ci 0,.nils,.nils,.nils,.nils,ci e.list,.nils])])))))))):=V5
 exact e_.mpr ⟨fun c_1=> ⟨(h.1 c_1).1,(h.1 c_1).2.1,(h.1 c_1).2.2⟩,fun c_1=> ⟨fun c_2=> ⟨((h.2 c_1).1 c_2).1,((h.2 c_1).1 c_2).2⟩,fun c_2=> ⟨fun c_3=> ⟨(((h.2 c_1).2 c_2).1 c_3).1,(((h.2 c_1).2 c_2).1 c_3).2.1,(((h.2 c_1).2 c_2).1 c_3).2.2⟩,fun c_3=> (((h.2 c_1).2 c_2).2 c_3)⟩⟩⟩
abbrev Zrl(N:Nat)(e:Edit)(x34:Int)(ml3_8:List Kid)(N0:NT)(Q:QT):=AW (Z2 (Z36 N)) Try.f42 ZfP [1,1,0,1,0,1,1,1,0,1,1,0,0] (Z3L e x34 ml3_8) (xT N0 (xB 1 (xB 0 (SW (Z2 (Z36 N)) Try.f42 ZfP [1,1,1] Q))))
theorem Zs1(N:Nat)(e:Edit)(x34:Int)(ml3_8:List Kid)(N0:NT)(Q:QT)(h:∀ y_1,y_1=(e.kids.getD x34.toNat (KidOf.mk 0 Edit.nil))->∀ y_2,y_2=(y_1.e)->∀ y_3,y_3=(ZE y_2)->((decide (x34 < (e.kids.length:Int)))=true->((0:Int)<=x34/\x34 < (e.kids.length:Int))/\((Z1l (y_2,()))/\(ZcN (y_2,()) < N)/\((ml3_8.length+([(KidOf.mk y_1.at_ y_3:Kid)]).length)*208<=140737488355328)/\((InR (x34+1))/\(N0 (Z3L e (x34+1) (ml3_8++([(KidOf.mk y_1.at_ y_3:Kid)])))))))/\((decide (x34 < (e.kids.length:Int)))=false->Q .ret (L2 [pL 2] [(.loc 2,[ci e.kind,ci 0,.nils,.nils,ci 0,.nils,.nils,sU .wedit (([]:List WEdit)++e.words) (.own (.l 2 7)),sU .kid ml3_8 (.own (.l 2 8)),ci e.list,.nils])]))):
  Zrl N e x34 ml3_8 N0 Q:=by
 have e_:(Zrl N e x34 ml3_8 N0 Q)=(let y_1:=(e.kids.getD x34.toNat (KidOf.mk 0 Edit.nil));let y_2:=(JJ y_1.e);let y_3:=(JJ (ZE y_2));(((decide ((x34:Int) < (e.kids.length:Int)))=true->((0:Int)<=x34/\x34 < (e.kids.length:Int))/\((Z1l (y_2,()))/\(ZcN (y_2,()) < N)/\((ml3_8.length+([(KidOf.mk y_1.at_ y_3:Kid)]).length)*208<=140737488355328)/\((InR ((x34:Int)+1))/\(N0 (Z3L e ((x34:Int)+1) (ml3_8++([(KidOf.mk y_1.at_ y_3:Kid)])))))))/\((decide ((x34:Int) < (e.kids.length:Int)))=false->(Q .ret (L2 [pL 2] [(.loc 2,[ci e.kind,ci 0,.nils,.nils,ci 0,.nils,.nils,sU .wedit (([]:List WEdit)++e.words) (.own (.l 2 7)),sU .kid ml3_8 (.own (.l 2 8)),ci e.list,.nils])]))))):=V5
 exact e_.mpr (by intro y_1 y_2 y_3;have hh:=h y_1 rfl y_2 (Zf _) y_3 (Zf _);exact ⟨fun c_4=> ⟨(hh.1 c_4).1,⟨(hh.1 c_4).2.1,(hh.1 c_4).2.2.1,(hh.1 c_4).2.2.2.1,⟨(hh.1 c_4).2.2.2.2.1,(hh.1 c_4).2.2.2.2.2⟩⟩⟩,fun c_4=> (hh.2 c_4)⟩)
def ZyA(N:Nat)(e:Edit):Prop:=AW (Z2 (Z36 N)) Try.f42 ZfP [] (Zj (ZqO.can (e,())) []) (EQ Try.f42 (Zak (e,())) [])
abbrev ZzY:Prop:=∀ (N:Nat) (e:Edit) (_:Unit),Z1l (e,())->ZcN (e,()) < N+1->ZyA N e
def ZfL:Ze U:=lvk [([0,1],[]),([0,1,5],[((.loc 10),[.wr .op])]),([0,5,11,12,13],[((.loc 10),[.wr .op,.own .tree,.own .tree])]),([0,5,11,12,13,14],[((.loc 10),[.wr .op])]),([0,5,7,11,12,13],[7,((.loc 10),[.wr .op])]),([0,5,7,11,12,13,18],[7,((.loc 10),[.wr .op])]),([0,5,7,11,12,13,18,19],[7,((.loc 10),[.wr .op])]),([0,5,11,12,13],[((.loc 10),[.wr .op])]),([0,5,7,11,12,13,18,25],[7,((.loc 10),[.wr .op])]),([0,5,11,12,13],[((.loc 10),[.wr .op])]),([0,5,7,11,12,13,18,33],[7,((.loc 10),[.wr .op])]),([0,5,11,12,13],[((.loc 10),[.wr .op])]),([0,5,7,11,12,13,41],[7,((.loc 10),[.wr .op])]),([0,5,8,11,12,13],[8,((.loc 10),[.wr .op])]),([0,5,8,11,12,13,48],[8,((.loc 10),[.wr .op])]),([0,5,11,12,13],[((.loc 10),[.wr .op])]),([0,5,8,11,12,13],[8,((.loc 10),[.wr .op])]),([0,5,11,12,13],[((.loc 10),[.wr .op])]),([0,5,11,12,13],[((.loc 10),[.wr .op,.own .tree,.own .tree])]),([5],[((.loc 10),[.wr .op])]),([4],[])]
def Yq(list:Int)(l:List Op)(x13:Int)(rl_10_0:List Op)(ml10_1 ml10_2:List Tree):LSt U:=(⟨[pI 0 list,(5,.ptr (.loc 10) 0),(11,.c (sU .op l .unk)),pI 12 (l.length:Int),pI 13 x13],[(.loc 10,[.mref (.l 10 0),sU .tree ml10_1 (.own (.l 10 1)),sU .tree ml10_2 (.own (.l 10 2))])],[(.l 10 0,LC.mk (U:=U) .op rl_10_0 0)]⟩:LSt U)
abbrev W60(N:Nat)(list:Int)(l:List Op)(Q:QT):=AW (Z2 (Z36 N)) Try.f60 ZfL [] (L2 [pI 0 list,(1,.c (sU .op l .unk))] []) Q
abbrev Zkn(N:Nat):=awp cfg (Z2 (Z36 N)) (ZV cfg (Z2 (Z36 N))) Try.f60.ntmps ZfL
abbrev ZiJ(N:Nat):=Zcb cfg (Z2 (Z36 N)) (ZV cfg (Z2 (Z36 N))) Try.f60.ntmps ZfL
theorem ZAQ(N:Nat)(list:Int)(l:List Op)(Q:QT)(h:Zi (AW (Z2 (Z36 N)) Try.f60 ZfL [1,1,0,1,0,0]) (Yq list l 0 [] [] []) (xB 0 (SW (Z2 (Z36 N)) Try.f60 ZfL [1,1,1] Q))):
  W60 N list l Q:=by
 have e_:(W60 N list l Q)=(Zi (Zkn N (cd Try.f60 [1,1,0,1,0,0])) (Yq list l 0 [] [] []) (xB 0 (ZiJ N (cd Try.f60 [1,1,1]) Q))):=V5
 exact e_.mpr h
abbrev Zre(N:Nat)(list:Int)(l:List Op)(x13:Int)(rl_10_0:List Op)(ml10_1 ml10_2:List Tree)(N0:NT)(Q:QT):=AW (Z2 (Z36 N)) Try.f60 ZfL [1,1,0,1,0,0] (Yq list l x13 rl_10_0 ml10_1 ml10_2) (xT N0 (xB 0 (SW (Z2 (Z36 N)) Try.f60 ZfL [1,1,1] Q)))
theorem ZrL(N:Nat)(list:Int)(l:List Op)(x13:Int)(rl_10_0:List Op)(ml10_1 ml10_2:List Tree)(N0:NT)(Q:QT)(h:∀ y_1,y_1=(l.getD x13.toNat Op.nil)->∀ y_2,y_2=(Edit.mk 0 (Tree.mk 0 [] []) (Tree.mk 0 [] []) [] [] 0 [])->∀ y_3,y_3=(Int.toNat (((Z6 (Wst.mk rl_10_0 ml10_1 ml10_2)).out).length:Int))->∀ y_4,y_4=(y_1.e)->∀ y_5,y_5=(ZE y_4)->((decide (x13 < (l.length:Int)))=true->((0:Int)<=x13/\x13 < (l.length:Int))/\(((y_1.kind==0)=true->(Z7G ((rl_10_0,ml10_1,ml10_2,()),y_1.n,()))/\((InR (x13+1))/\(N0 (Yq list l (x13+1) ((ZX (Wst.mk rl_10_0 ml10_1 ml10_2) y_1.n).out) ((ZX (Wst.mk rl_10_0 ml10_1 ml10_2) y_1.n).gone) ((ZX (Wst.mk rl_10_0 ml10_1 ml10_2) y_1.n).brought)))))/\((y_1.kind==0)=false->((y_1.kind==1)=true->(Zem ((rl_10_0,ml10_1,ml10_2,()),y_1.l,()))/\((InR (x13+1))/\(N0 (Yq list l (x13+1) ((Wst.mk rl_10_0 (ml10_1++Z7 y_1.l) ml10_2).out) ((Wst.mk rl_10_0 (ml10_1++Z7 y_1.l) ml10_2).gone) ((Wst.mk rl_10_0 (ml10_1++Z7 y_1.l) ml10_2).brought)))))/\((y_1.kind==1)=false->((y_1.kind==2)=true->(Zem ((rl_10_0,ml10_1,ml10_2,()),y_1.l,()))/\((InR (x13+1))/\(N0 (Yq list l (x13+1) ((Wst.mk rl_10_0 ml10_1 (ml10_2++Z7 y_1.l)).out) ((Wst.mk rl_10_0 ml10_1 (ml10_2++Z7 y_1.l)).gone) ((Wst.mk rl_10_0 ml10_1 (ml10_2++Z7 y_1.l)).brought)))))/\((y_1.kind==2)=false->((y_1.kind==3)=true->(Z1l (y_4,()))/\(ZcN (y_4,()) < N)/\((Z5P (list,y_5,()))/\(((Z6r list y_5)=true->(Z7G ((rl_10_0,ml10_1,ml10_2,()),1,()))/\((InR (x13+1))/\(N0 (Yq list l (x13+1) ((ZX (Wst.mk rl_10_0 ml10_1 ml10_2) 1).out) ((ZX (Wst.mk rl_10_0 ml10_1 ml10_2) 1).gone) ((ZX (Wst.mk rl_10_0 ml10_1 ml10_2) 1).brought)))))/\((Z6r list y_5)=false->(Z4E ((rl_10_0,ml10_1,ml10_2,()),()))/\(((((Z6 (Wst.mk rl_10_0 ml10_1 ml10_2)).out).length+([(OpOf.mk 0 0 [] y_2:Op)]).length)*240<=140737488355328)/\((0:Int)<=(((Z6 (Wst.mk rl_10_0 ml10_1 ml10_2)).out).length:Int)/\(((Z6 (Wst.mk rl_10_0 ml10_1 ml10_2)).out).length:Int) < ((((Z6 (Wst.mk rl_10_0 ml10_1 ml10_2)).out)++([(OpOf.mk 0 0 [] y_2:Op)])).length:Int))/\((0:Nat)<=y_3)/\((InR (x13+1))/\(N0 (Yq list l (x13+1) (List.set (((Z6 (Wst.mk rl_10_0 ml10_1 ml10_2)).out)++([(OpOf.mk 0 0 [] y_2:Op)])) y_3 (OpOf.mk 3 0 [] y_5:Op)) ((Z6 (Wst.mk rl_10_0 ml10_1 ml10_2)).gone) ((Z6 (Wst.mk rl_10_0 ml10_1 ml10_2)).brought)))))))))/\((y_1.kind==3)=false->(InR (x13+1))/\(N0 (Yq list l (x13+1) rl_10_0 ml10_1 ml10_2))))))))/\((decide (x13 < (l.length:Int)))=false->(Z4E ((rl_10_0,ml10_1,ml10_2,()),()))/\(Q .ret (L2 [(4,.c (sU .op ((Z6 (Wst.mk rl_10_0 ml10_1 ml10_2)).out) (.own (.e 4 0))))] [])))):
  Zre N list l x13 rl_10_0 ml10_1 ml10_2 N0 Q:=by
 have e_:(Zre N list l x13 rl_10_0 ml10_1 ml10_2 N0 Q)=(let y_1:=(l.getD x13.toNat Op.nil);let y_2:=(Edit.mk 0 (Tree.mk 0 [] []) (Tree.mk 0 [] []) [] [] 0 []);let y_3:=(Int.toNat (((Z6 (Wst.mk rl_10_0 ml10_1 ml10_2)).out).length:Int));let y_4:=(JJ y_1.e);let y_5:=(JJ (ZE y_4));(((decide ((x13:Int) < (l.length:Int)))=true->((0:Int)<=x13/\x13 < (l.length:Int))/\(((y_1.kind==0)=true->(Z7G ((rl_10_0,ml10_1,ml10_2,()),y_1.n,()))/\((InR ((x13:Int)+1))/\(N0 (Yq list l ((x13:Int)+1) ((ZX (Wst.mk rl_10_0 ml10_1 ml10_2) y_1.n).out) ((ZX (Wst.mk rl_10_0 ml10_1 ml10_2) y_1.n).gone) ((ZX (Wst.mk rl_10_0 ml10_1 ml10_2) y_1.n).brought)))))/\((y_1.kind==0)=false->(((y_1.kind==1)=true->(Zem ((rl_10_0,ml10_1,ml10_2,()),y_1.l,()))/\((InR ((x13:Int)+1))/\(N0 (Yq list l ((x13:Int)+1) ((Wst.mk rl_10_0 (ml10_1++Z7 y_1.l) ml10_2).out) ((Wst.mk rl_10_0 (ml10_1++Z7 y_1.l) ml10_2).gone) ((Wst.mk rl_10_0 (ml10_1++Z7 y_1.l) ml10_2).brought)))))/\((y_1.kind==1)=false->(((y_1.kind==2)=true->(Zem ((rl_10_0,ml10_1,ml10_2,()),y_1.l,()))/\((InR ((x13:Int)+1))/\(N0 (Yq list l ((x13:Int)+1) ((Wst.mk rl_10_0 ml10_1 (ml10_2++Z7 y_1.l)).out) ((Wst.mk rl_10_0 ml10_1 (ml10_2++Z7 y_1.l)).gone) ((Wst.mk rl_10_0 ml10_1 (ml10_2++Z7 y_1.l)).brought)))))/\((y_1.kind==2)=false->(((y_1.kind==3)=true->(Z1l (y_4,()))/\(ZcN (y_4,()) < N)/\((Z5P (list,y_5,()))/\(((Z6r list y_5)=true->(Z7G ((rl_10_0,ml10_1,ml10_2,()),1,()))/\((InR ((x13:Int)+1))/\(N0 (Yq list l ((x13:Int)+1) ((ZX (Wst.mk rl_10_0 ml10_1 ml10_2) 1).out) ((ZX (Wst.mk rl_10_0 ml10_1 ml10_2) 1).gone) ((ZX (Wst.mk rl_10_0 ml10_1 ml10_2) 1).brought)))))/\((Z6r list y_5)=false->(Z4E ((rl_10_0,ml10_1,ml10_2,()),()))/\(((((Z6 (Wst.mk rl_10_0 ml10_1 ml10_2)).out).length+([(OpOf.mk 0 0 [] y_2:Op)]).length)*240<=140737488355328)/\((0:Int)<=(((Z6 (Wst.mk rl_10_0 ml10_1 ml10_2)).out).length:Int)/\(((Z6 (Wst.mk rl_10_0 ml10_1 ml10_2)).out).length:Int) < ((((Z6 (Wst.mk rl_10_0 ml10_1 ml10_2)).out)++([(OpOf.mk 0 0 [] y_2:Op)])).length:Int))/\((0:Nat)<=y_3)/\((InR ((x13:Int)+1))/\(N0 (Yq list l ((x13:Int)+1) (List.set (((Z6 (Wst.mk rl_10_0 ml10_1 ml10_2)).out)++([(OpOf.mk 0 0 [] y_2:Op)])) y_3 (OpOf.mk 3 0 [] y_5:Op)) ((Z6 (Wst.mk rl_10_0 ml10_1 ml10_2)).gone) ((Z6 (Wst.mk rl_10_0 ml10_1 ml10_2)).brought)))))))))/\((y_1.kind==3)=false->(InR ((x13:Int)+1))/\(N0 (Yq list l ((x13:Int)+1) rl_10_0 ml10_1 ml10_2)))))))))))/\((decide ((x13:Int) < (l.length:Int)))=false->(Z4E ((rl_10_0,ml10_1,ml10_2,()),()))/\(Q .ret (L2 [(4,.c (sU .op ((Z6 (Wst.mk rl_10_0 ml10_1 ml10_2)).out) (.own (.e 4 0))))] []))))):=V5
 exact e_.mpr (by intro y_1 y_2 y_3 y_4 y_5;have hh:=h y_1 rfl y_2 rfl y_3 rfl y_4 (Zf _) y_5 (Zf _);exact ⟨fun c_5=> ⟨(hh.1 c_5).1,⟨fun c_6=> ⟨((hh.1 c_5).2.1 c_6).1,⟨((hh.1 c_5).2.1 c_6).2.1,((hh.1 c_5).2.1 c_6).2.2⟩⟩,fun c_6=> ⟨fun c_7=> ⟨(((hh.1 c_5).2.2 c_6).1 c_7).1,⟨(((hh.1 c_5).2.2 c_6).1 c_7).2.1,(((hh.1 c_5).2.2 c_6).1 c_7).2.2⟩⟩,fun c_7=> ⟨fun c_8=> ⟨((((hh.1 c_5).2.2 c_6).2 c_7).1 c_8).1,⟨((((hh.1 c_5).2.2 c_6).2 c_7).1 c_8).2.1,((((hh.1 c_5).2.2 c_6).2 c_7).1 c_8).2.2⟩⟩,fun c_8=> ⟨fun c_9=> ⟨(((((hh.1 c_5).2.2 c_6).2 c_7).2 c_8).1 c_9).1,(((((hh.1 c_5).2.2 c_6).2 c_7).2 c_8).1 c_9).2.1,⟨(((((hh.1 c_5).2.2 c_6).2 c_7).2 c_8).1 c_9).2.2.1,⟨fun c_10=> ⟨((((((hh.1 c_5).2.2 c_6).2 c_7).2 c_8).1 c_9).2.2.2.1 c_10).1,⟨((((((hh.1 c_5).2.2 c_6).2 c_7).2 c_8).1 c_9).2.2.2.1 c_10).2.1,((((((hh.1 c_5).2.2 c_6).2 c_7).2 c_8).1 c_9).2.2.2.1 c_10).2.2⟩⟩,fun c_10=> ⟨((((((hh.1 c_5).2.2 c_6).2 c_7).2 c_8).1 c_9).2.2.2.2 c_10).1,⟨((((((hh.1 c_5).2.2 c_6).2 c_7).2 c_8).1 c_9).2.2.2.2 c_10).2.1,((((((hh.1 c_5).2.2 c_6).2 c_7).2 c_8).1 c_9).2.2.2.2 c_10).2.2.1,((((((hh.1 c_5).2.2 c_6).2 c_7).2 c_8).1 c_9).2.2.2.2 c_10).2.2.2.1,⟨((((((hh.1 c_5).2.2 c_6).2 c_7).2 c_8).1 c_9).2.2.2.2 c_10).2.2.2.2.1,((((((hh.1 c_5).2.2 c_6).2 c_7).2 c_8).1 c_9).2.2.2.2 c_10).2.2.2.2.2⟩⟩⟩⟩⟩⟩,fun c_9=> ⟨(((((hh.1 c_5).2.2 c_6).2 c_7).2 c_8).2 c_9).1,(((((hh.1 c_5).2.2 c_6).2 c_7).2 c_8).2 c_9).2⟩⟩⟩⟩⟩⟩,fun c_5=> ⟨(hh.2 c_5).1,(hh.2 c_5).2⟩⟩)
def Zyi(N:Nat)(list:Int)(l:List Op):Prop:=AW (Z2 (Z36 N)) Try.f60 ZfL [] (Zj (Zg9.can (list,l,())) []) (EQ Try.f60 (ZgU (list,l,())) [])
abbrev ZzR:Prop:=∀ (N:Nat) (list:Int) (l:List Op) (_:Unit),Zao (list,l,())->Zhv (list,l,()) < N+1->Zyi N list l
theorem ZmG(c22:CT 22 Z1y)(Zqe:CT 81 Z3c)(c79:CT 79 Z98)(c82:CT 82 Z45)(Zqd:CT 80 Z4S)(ha:ZzY)(hb:ZzR):CT 42 Z1Y/\CT 60 ZnH:=
 Z37 (μA:=ZcN) (μB:=Zhv) (l:=[(22,Z1y),(81,Z3c),(79,Z98),(82,Z45),(80,Z4S)]) Zk rfl (⟨c22,Zqe,c79,c82,Zqd,trivial⟩) ZfP ZfL Try.func42 Try.func60 rfl rfl rfl rfl 1 2 (fun _=> rfl) (fun _=> rfl) V2 V2 (fun N ⟨e,_⟩=> ha N e ()) (fun N ⟨list,l,_⟩=> hb N list l ())
end
end
theorem ZmR(s:Wst)(n:Int):(ZX s n).out.length<=s.out.length+3:=by
 have h:=Z9I s
 simp only [ZX]
 rw [Z89]
 split
 .rw [List.length_set];omega
 .rw [Qh];simp;omega
theorem Ztp{s:Wst}{n B K:Int}(hB:0<=B)(hn:0<=n/\n<=K)(h:∀ o∈s.out,0<=o.n/\o.n<=B):∀ o∈(ZX s n).out,0<=o.n/\o.n<=B+K:=by
 have hF:∀ o∈(Z6 s).out,0<=o.n/\o.n<=B:=by
  intro o ho
  rcases Z9H s o ho with h1 | h1
  .exact h o h1
  .omega
 intro o ho
 simp only [ZX] at ho
 rw [Z89] at ho
 split at ho
 .rename_i hc
  rcases List.mem_or_eq_of_mem_set ho with ho | rfl
  .have:=hF o ho;omega
  .have:=hF _ (Zh (l:=(Z6 s).out) (i:=(Z6 s).out.length - 1) V0 Op.nil)
   simp only;omega
 .rcases Qi.1 ho with ho | ho
  .have:=hF o ho;omega
  .simp only [Q9] at ho;subst ho;simp only;omega
theorem ZcG:∀ (l:List Kid),(Z0p l).length=l.length
 | []=> rfl
 | k ::r=> by simp [Z0p,ZcG r]
theorem Zj2(e:Edit):(ZE e).words.length<=e.words.length/\(ZE e).kids.length<=e.kids.length:=by
 rw [Z7U]
 split
 .simp
 .split
  .simp [ZcG]
  .split <;> simp
theorem Zfo{list:Int}{o:Op}{d:Int}(h:Zc list o d=true)(hk:o.kind=0):1<=o.n/\o.n<=1048576:=by
 obtain ⟨k,n,l,e⟩:=o
 simp only at hk
 subst hk
 simp [Zc] at h
 show 1<=n/\n<=1048576
 omega
theorem Zfp{list:Int}{o:Op}{d:Int}(h:Zc list o d=true)(hk:o.kind=3):Z0 o.e d=true:=by
 obtain ⟨k,n,l,e⟩:=o
 simp only at hk
 subst hk
 simp [Zc] at h
 exact h.2.1.2
theorem ZmP{e:Edit}{d:Int}(h:Z0 e d=true)(hk:e.kind=2):∀ k∈e.kids,∃ d,Z0 k.e d=true:=by
 obtain ⟨k,o,n,w,ks,l,os⟩:=e
 change k=2 at hk
 subst hk
 have hks:∃ d last,Zu last ks d=true:=by
  unfold Z0 at h
  split at h
  .cases h
  .split at h
   .cases h
   .rw [JI] at h
    simp only [Q1] at h
    exact ⟨_,_,h.1.1.1.2⟩
 obtain ⟨d',last,hks⟩:=hks
 change ∀ k∈ks,_
 clear h
 induction ks generalizing last with
 | nil=> intro k hk;cases hk
 | cons a r ih=>
  simp only [Zu,Q1] at hks
  intro k hk
  rcases Q6.1 hk with rfl | hk
  .obtain ⟨a,e⟩:=k
   simp only [YW,Q1] at hks
   exact ⟨_,hks.1.2⟩
  .exact ih _ hks.2 k hk
theorem ZoA{e:Edit}{d:Int}(h:Z0 e d=true)(hk:e.kind=3):∀ o∈e.ops,∃ d,Zc e.list o d=true:=by
 obtain ⟨k,o,n,w,ks,l,os⟩:=e
 change k=3 at hk
 subst hk
 have hos:∃ d,Zt l os d=true:=by
  unfold Z0 at h
  split at h
  .cases h
  .split at h
   .cases h
   .rw [JI] at h
    simp only [Q1] at h
    exact ⟨_,h.1.2⟩
 obtain ⟨d',hos⟩:=hos
 change ∀ o∈os,∃ d,Zc l o d=true
 clear h
 induction os with
 | nil=> intro k hk;cases hk
 | cons a r ih=>
  simp only [Zt,Q1] at hos
  intro k hk
  rcases Q6.1 hk with rfl | hk
  .exact ⟨_,hos.1⟩
  .exact ih hos.2 k hk
theorem b60:ZzR:=by
 intro N list l _ hp hN
 simp only [Zao,Zhv] at hp hN
 obtain ⟨p1,p3⟩:=hp
 have hl:=ZU l
 refine ZAQ _ _ _ _ ?_
 refine Zb (ι:=Int × Wst) (fun s=> Yq list l s.1 s.2.out s.2.gone s.2.brought)
  (fun s=> 0<=s.1/\s.1<=l.length/\YS list (l.drop s.1.toNat) s.2=YS list l ⟨[],[],[]⟩/\s.2.out.length<=3*s.1/\s.2.gone.length+s.2.brought.length+Zr (l.drop s.1.toNat)<=Zr l/\∀ o∈s.2.out,0<=o.n/\o.n<=s.1*1048576)
  (fun s=> ((l.length:Int) - s.1).toNat) (0,⟨[],[],[]⟩) rfl ⟨by simp,by simp,by simp,by simp,by simp,by simp⟩ ?_
 rintro ⟨i,s⟩ ⟨g1,g2,g3,g4,g5,g6⟩
 dsimp only at g1 g2 g3 g4 g5 g6
 refine ZrL _ _ _ _ _ _ _ _ _ ?_
 rintro y1 hy1 y2 hy2 y3 hy3 y4 hy4 y5 hy5
 have hy:y2=Edit.nil:=hy2
 subst hy
 have es:Wst.mk s.out s.gone s.brought=s:=rfl
 simp only [es] at hy3 ⊢
 (simp only [iB,vcS])
 refine ⟨fun hi=> ?_,fun hi=> ?_⟩
 .have hmem:=Zh (l:=l) (i:=i.toNat) V0 Op.nil
  have hm:=Yl hmem
  have hr:=p3 _ hmem
  rw [YB g1 hi Op.nil] at g3 g5
  rw [<-hy1] at g3 g5 hm hr
  have hmo:=ZW y1
  simp only [YS,Z3l,Zr] at g3 g5
  rw [<-hy4,<-hy5] at g3
  obtain ⟨d,hr2⟩:=hr
  have hfl:=Z9I s
  have hP:∀ n:Int,0<=n/\n<=1048576->Z7G ((s.out,s.gone,s.brought,()),n,()):=by
   intro n hn
   simp only [Z7G]
   refine ⟨V0,V0,V0,fun o ho=> ?_,V0,V0⟩
   have:=g6 o ho
   constructor
   .omega
   .have:i*1048576<=20000000000*1048576:=V0
    omega
  have hK:∀ n:Int,0<=n/\n<=1048576->YS list (l.drop (i+1).toNat) (ZX s n)=YS list l ⟨[],[],[]⟩->
    (∃ j:Int × Wst,Yq list l (i+1) (ZX s n).out (ZX s n).gone (ZX s n).brought=Yq list l j.1 j.2.out j.2.gone j.2.brought/\(0<=j.1/\j.1<=l.length/\YS list (l.drop j.1.toNat) j.2=YS list l ⟨[],[],[]⟩/\j.2.out.length<=3*j.1/\j.2.gone.length+j.2.brought.length+Zr (l.drop j.1.toNat)<=Zr l/\∀ o∈j.2.out,0<=o.n/\o.n<=j.1*1048576)/\((l.length:Int) - j.1).toNat < ((l.length:Int) - i).toNat):=by
   intro n hn he
   have h1:=ZmR s n
   have h2:=Ztp (s:=s) (n:=n) (B:=i*1048576) (K:=1048576) V0 hn g6
   refine ⟨(i+1,ZX s n),rfl,⟨V3,V3,he,V3,by simp only [ZX,List.length_nil];omega,fun o ho=> ?_⟩,V3⟩
   have:=h2 o ho
   dsimp only
   omega
  refine ⟨⟨g1,hi⟩,fun hk=> ?_,fun hk=> ⟨fun hk1=> ?_,fun hk1=> ⟨fun hk2=> ?_,fun hk2=> ⟨fun hk3=> ?_,fun hk3=> ?_⟩⟩⟩⟩
  .rw [if_pos hk] at g3
   have h1:=Zfo hr2 hk
   exact ⟨hP _ V0,V4,hK _ V0 g3⟩
  .rw [if_neg hk,if_pos hk1] at g3
   refine ⟨by simp only [Zem];omega,V4,(i+1,⟨s.out,s.gone++Z7 y1.l,s.brought⟩),rfl,⟨V3,V3,g3,V3,?_,fun o ho=> ?_⟩,V3⟩
   .have:=Zw y1.l
    simp only [Qh,Z7,Xd];omega
   .have:=g6 o ho
    dsimp only;omega
  .rw [if_neg hk,if_neg hk1,if_pos hk2] at g3
   refine ⟨by simp only [Zem];omega,V4,(i+1,⟨s.out,s.gone,s.brought++Z7 y1.l⟩),rfl,⟨V3,V3,g3,V3,?_,fun o ho=> ?_⟩,V3⟩
   .have:=Zw y1.l
    simp only [Qh,Z7,Xd];omega
   .have:=g6 o ho
    dsimp only;omega
  .rw [if_neg hk,if_neg hk1,if_neg hk2,if_pos hk3] at g3
   have hre:=Zfp hr2 hk3
   rw [<-hy4] at hre
   have hw:=Zj2 y4
   rw [<-hy5] at hw
   have h1:=Y3 y4
   have h2:=Yb y4.kids
   have hmE:Zd y4<=ZA y1:=by rw [hmo,hy4];omega
   refine ⟨by simp only [Z1l];exact ⟨V0,d,hre⟩,by simp only [ZcN];omega,by simp only [Z5P];omega,fun hq=> ?_,fun hq=> ?_⟩
   .rw [if_pos hq] at g3
    exact ⟨hP 1 V0,V4,hK 1 V0 g3⟩
   .rw [if_neg (by rw [hq];simp)] at g3
    rw [hy3,Z24]
    refine ⟨by simp only [Z4E];omega,by simp only [Q7,Qn];omega,by simp only [Qh,Q7,Qn];omega,V0,V4,(i+1,⟨(Z6 s).out++[⟨3,0,[],y5⟩],[],[]⟩),rfl,⟨V3,V3,g3,by simp;omega,by simp;omega,fun o ho=> ?_⟩,V3⟩
    dsimp only at ho ⊢
    rcases Qi.1 ho with ho | ho
    .rcases Z9H s o ho with h5 | h5
     .have:=g6 o h5;omega
     .omega
    .simp only [Q9] at ho
     subst ho
     simp only;omega
  .rw [if_neg hk,if_neg hk1,if_neg hk2,if_neg hk3] at g3
   refine ⟨V4,(i+1,s),rfl,⟨V3,V3,g3,V3,V3,fun o ho=> ?_⟩,V3⟩
   have:=g6 o ho
   dsimp only;omega
 .rw [Q8 V0] at g3
  simp only [YS] at g3
  refine ⟨by simp only [Z4E];omega,?_⟩
  simp only [ZgU]
  rw [<-g3]
  exact Y6
theorem b42:ZzY:=by
 intro N e _ hp hN
 simp only [Z1l,ZcN] at hp hN
 obtain ⟨p1,d,p3⟩:=hp
 have h1:=Y3 e
 have h2:=Yb e.kids
 have h3:=ZU e.ops
 have ha:=Z7U e
 refine ZB8 _ _ _ ?_
 (simp only [iB,vcS])
 (simp only [Tree.eta,Edit.eta,Tree.kind_mk,Tree.words_mk,Tree.kids_mk])
 refine ⟨fun hk=> ⟨by simp only [Z0P];omega,by simp only [Z0P];omega,?_⟩,fun hk=> ⟨fun hk2=> ⟨by simp;omega,?_⟩,fun hk2=> ⟨fun hk3=> ⟨?_,by simp only [Zhv];omega,?_⟩,fun hk3=> ?_⟩⟩⟩
 .rw [if_pos hk] at ha
  simp only [Zak,ha]
  exact Y6
 .rw [if_neg hk,if_pos hk2] at ha
  refine Zb (ι:=Int × List Kid) (fun s=> Z3L e s.1 s.2) (fun s=> 0<=s.1/\s.1<=e.kids.length/\s.2.length=s.1/\s.2++Z0p (e.kids.drop s.1.toNat)=Z0p e.kids) (fun s=> ((e.kids.length:Int) - s.1).toNat) (0,[]) rfl ⟨by simp,by simp,by simp,by simp⟩ ?_
  rintro ⟨j,ks⟩ ⟨f1,f2,f3,f4⟩
  dsimp only at f1 f2 f3 f4
  refine Zs1 _ _ _ _ _ _ ?_
  rintro y1 hy1 y2 hy2 y3 hy3
  (simp only [iB,vcS])
  refine ⟨fun hj=> ?_,fun hj=> ?_⟩
  .have hmem:=Zh (l:=e.kids) (i:=j.toNat) V0 (KidOf.mk 0 Edit.nil)
   have hm:=JA hmem
   have hr:=ZmP p3 hk2 _ hmem
   rw [YB f1 hj (KidOf.mk 0 Edit.nil)] at f4
   rw [<-hy1] at f4 hm hr
   simp only [Z0p,Zev] at f4
   rw [<-hy2] at f4 hm hr
   rw [<-hy3] at f4
   refine ⟨⟨f1,hj⟩,by simp only [Z1l];exact ⟨V0,hr⟩,by simp only [ZcN];omega,by simp;omega,V4,(j+1,ks++[⟨y1.at_,y3⟩]),rfl,⟨V3,V3,by simp;omega,?_⟩,V3⟩
   simp only [Qa,Qw,QF]
   exact f4
  .rw [Q8 V0] at f4
   simp only [Z0p,Qp] at f4
   rw [f4]
   simp only [Zak,ha]
   exact Y6
 .simp only [Zao]
  exact ⟨V0,fun o ho=> ZoA p3 hk3 o ho⟩
 .rw [if_neg hk,if_neg hk2,if_pos hk3] at ha
  simp only [Zak,ha]
  exact Y6
 .rw [if_neg hk,if_neg hk2,if_neg hk3] at ha
  simp only [Zak,ha]
  exact Y6
theorem ZjZ:Contract Try.prog cfg 42 Z1Y/\Contract Try.prog cfg 60 ZnH:=ZmG c22 Zqe c79 c82 Zqd b42 b60
noncomputable section
def Zo6(a:Edit × Unit):V U:= .agg (enc .edit (ZE (Zq a.1)))
def Z1x:Fs U:=fs ZqO (fun a=> [Z1l a]) Zo6
def ZpK:List (FuncId × Fs U):=[(42,Z1Y),(43,ZbR)]
def Zxc:Ze U:=lvl [([1,2],[1,2]),([2],[2])]
abbrev W24(e:Edit)(Q:QT):=AW (Z2 ZpK) Try.f24 Zxc [] (L2 [(0,.agg (enc .edit e))] []) Q
theorem ZBq(e:Edit)(Q:QT)(h:∀ y_1,y_1=e->∀ y_2,y_2=(Zq y_1)->(Zcu (y_1,()))/\(Z1l (y_2,()))/\(Q .ret (L2 [pL 2] [(.loc 2,(enc .edit (ZE y_2)))]))):
  W24 e Q:=by
 have e_:(W24 e Q)=(let y_1:=(JJ e);let y_2:=(JJ (Zq y_1));((Zcu (y_1,()))/\(Z1l (y_2,()))/\(Q .ret (L2 [pL 2] [(.loc 2,(enc .edit (ZE y_2)))])))):=V5
 exact e_.mpr (by intro y_1 y_2;have hh:=h y_1 (Zf _) y_2 (Zf _);exact ⟨hh.1,hh.2.1,hh.2.2⟩)
def ZyS(e:Edit):Prop:=AW (Z2 ZpK) Try.f24 Zxc [] (Zj (ZqO.can (e,())) []) (EQ Try.f24 (Zo6 (e,())) [])
theorem Zwk(c42:CT 42 Z1Y)(c43:CT 43 ZbR)(hb:∀ (e:Edit) (_:Unit),Z1l (e,())->ZyS e):CT 24 Z1x:=
 Z3 (l:=[(42,Z1Y),(43,ZbR)]) Zk rfl (⟨c42,c43,trivial⟩) Zxc Try.func24 rfl rfl 1 (fun _=> rfl) V2 (fun ⟨e,_⟩=> hb e ())
end
mutual
theorem Z74:∀ (e:Edit),Zd (Zq e)=Zd e
 | .mk k o n w ks l os=> by
  have h1:=ZaC ks
  have h2:=ZaA os
  simp only [Zq,Zd,Xd,Z6y,h1,h2]
  omega
theorem ZaC:∀ (ks:List (KidOf Edit)),Zx (Y4 ks)=Zx ks
 | []=> rfl
 | k ::r=> by
  have h1:=ZfH k
  have h2:=ZaC r
  simp only [Y4,Zx,h1,h2]
theorem ZfH:∀ (k:KidOf Edit),Yw (YL k)=Yw k
 | ⟨a,e⟩=> by
  have h:=Z74 e
  simp only [YL,Yw,h]
theorem ZaA:∀ (os:List (OpOf Edit)),Zr (Y9 os)=Zr os
 | []=> rfl
 | o ::r=> by
  have h1:=ZhF o
  have h2:=ZaA r
  simp only [Y9,Zr,h1,h2]
theorem ZhF:∀ (o:OpOf Edit),ZA (ZY o)=ZA o
 | ⟨k,n,l,e⟩=> by
  have h:=Z74 e
  simp only [ZY]
  split
  .try rfl
  .split
   .try rfl
   .split
    .simp only [ZA,h]
    .try rfl
end
theorem c24:Contract Try.prog cfg 24 Z1x:=by
 refine Zwk ZjZ.1 ZtE.1 ?_
 intro e _ hp
 simp only [Z1l] at hp
 obtain ⟨hm,d,hr⟩:=hp
 refine ZBq _ _ ?_
 rintro y1 hy1 y2 hy2
 subst hy1
 have h1:=Z74 y1
 have h2:=Yn _ _ hr
 rw [<-hy2] at h1 h2
 refine ⟨by simp only [Zcu];omega,by simp only [Z1l];exact ⟨V0,d,h2⟩,?_⟩
 simp only [Zo6]
 rw [<-hy2]
 exact Y6
noncomputable section
def Zql:ArgL (WEdit × WEdit × Unit):=(.cons (aEl .wedit) (.cons (aEl .wedit) .nil))
def Zok(a:WEdit × WEdit × Unit):Prop:=Z1j a.1/\Z1j a.2.1
def ZkP(a:WEdit × WEdit × Unit):V U:= .tup [(true,(enc .wedit ((YP a.1 a.2.1).1))),(false,[.bool ((YP a.1 a.2.1).2)])]
def ZbC:Fs U:=fs Zql (fun a=> [Zok a]) ZkP
def Zqm:ArgL (WEdit × Unit):=(.cons (aEl .wedit) .nil)
def Zek(a:WEdit × Unit):Prop:=True
def ZtU(a:WEdit × Unit):V U:= .c (ci a.1.at_)
def ZbD:Fs U:=fs Zqm (fun a=> [Zek a]) ZtU
def Zqk:ArgL (Kid × Unit):=(.cons (aEl .kid) .nil)
def Zej(a:Kid × Unit):Prop:=True
def ZtT(a:Kid × Unit):V U:= .c (ci a.1.at_)
def Z44:Fs U:=fs Zqk (fun a=> [Zej a]) ZtT
def Zqn:ArgL (List WEdit × List WEdit × Unit × Unit × Unit):=(.cons (aSl .wedit) (.cons (aSl .wedit) (.cons (aFn 90) (.cons (aFn 91) .nil))))
def Zol(a:List WEdit × List WEdit × Unit × Unit × Unit):Prop:=((∀ x∈a.1,Z1j x)/\(a.1).length<=1000000)/\(∀ x∈a.2.1,Z1j x)/\(a.2.1).length<=1000000
def ZkQ(a:List WEdit × List WEdit × Unit × Unit × Unit):V U:= .tup [(false,[sU .wedit (ofO (Zm WEdit.at_ YP a.1 a.2.1)) .unk]),(false,[.bool ((Zm WEdit.at_ YP a.1 a.2.1).isSome)])]
def ZbE:Fs U:=fs Zqn (fun a=> [Zol a]) ZkQ
def Zqs:ArgL (List WEdit × List WEdit × Unit):=(.cons (aSl .wedit) (.cons (aSl .wedit) .nil))
def Zoo(a:List WEdit × List WEdit × Unit):Prop:=((∀ x∈a.1,Z1j x)/\(a.1).length<=1000000)/\(∀ x∈a.2.1,Z1j x)/\(a.2.1).length<=1000000
def ZtZ(a:List WEdit × List WEdit × Unit):V U:= .tup [(false,[sU .wedit (ofO (Zm WEdit.at_ YP a.1 a.2.1)) .unk]),(false,[.bool ((Zm WEdit.at_ YP a.1 a.2.1).isSome)])]
def Z46:Fs U:=fs Zqs (fun a=> [Zoo a]) ZtZ
def ZwC:Ze U:=lvl [([2,3,4],[2,3,4]),([2,3,4,6],[2,3,4]),([2,3,4,20],[2,3,4]),([4,5],[4]),([4,5],[4])]
abbrev A91(p:List Nat):=AW (Z2 Z35) Try.f91 ZwC p
theorem ZAm(p q:WEdit)(Q:QT)(h:let z1:=IntKind.bits .u8;let z0:=IntKind.wrap .u8 (BitVec.ofInt z1 p.mask &&& BitVec.ofInt z1 q.mask).toNat;((Zaq (0,p.new,z0,()))/\(Zaq (0,q.old,z0,()))/\(iB (((mix 0 p.new z0):Int) !=(mix 0 q.old z0)) ((Q .ret (L2 [pL 4,pB 5 false] [(.loc 4,[ci 0,.int .u8 0,.int .u64 0,.int .u64 0])]))) ((Zaq (q.old,p.old,p.mask,()))/\(Zaq (p.new,q.new,q.mask,()))/\(Q .ret (L2 [pL 4,pB 5 true] [(.loc 4,[ci p.at_,.int .u8 (IntKind.wrap .u8 (BitVec.ofInt z1 p.mask ||| BitVec.ofInt z1 q.mask).toNat),.int .u64 (mix q.old p.old p.mask),.int .u64 (mix p.new q.new q.mask)])])))))):
  A91 [] (L2 [(0,.agg (enc .wedit p)),(1,.agg (enc .wedit q))] []) Q:=
 Eq.mpr V5 h
def ZxO(p q:WEdit):Prop:=AW (Z2 Z35) Try.f91 ZwC [] (Zj (Zql.can (p,q,())) []) (EQ Try.f91 (ZkP (p,q,())) [])
theorem Zvx(c66:CT 66 Z49)(hb:∀ (p:WEdit) (q:WEdit) (_:Unit),Zok (p,q,())->ZxO p q):CT 91 ZbC:=
 Z3 (l:=[(66,Z49)]) Zk rfl (⟨c66,trivial⟩) ZwC Try.func91 rfl rfl 2 (fun _=> rfl) V2 (fun ⟨p,q,_⟩=> hb p q ())
abbrev A90(p:List Nat):=AW (Z2 ZjE) Try.f90 Zxi p
theorem ZAn(w:WEdit)(Q:QT)(h:(Q .ret (L2 [pI 2 w.at_] []))):
  A90 [] (L2 [(0,.agg (enc .wedit w))] []) Q:=
 Eq.mpr V5 h
def ZxP(w:WEdit):Prop:=AW (Z2 ZjE) Try.f90 Zxi [] (Zj (Zqm.can (w,())) []) (EQ Try.f90 (ZtU (w,())) [])
theorem Zvy(hb:∀ (w:WEdit) (_:Unit),Zek (w,())->ZxP w):CT 90 ZbD:=
 Z3 (l:=[]) Zk rfl trivial Zxi Try.func90 rfl rfl 1 (fun _=> rfl) V2 (fun ⟨w,_⟩=> hb w ())
abbrev A93(p:List Nat):=AW (Z2 ZjE) Try.f93 Zxi p
theorem ZAk(k:Kid)(Q:QT)(h:(Q .ret (L2 [pI 2 k.at_] []))):
  A93 [] (L2 [(0,.agg (enc .kid k))] []) Q:=
 Eq.mpr V5 h
def ZxM(k:Kid):Prop:=AW (Z2 ZjE) Try.f93 Zxi [] (Zj (Zqk.can (k,())) []) (EQ Try.f93 (ZtT (k,())) [])
theorem Zvw(hb:∀ (k:Kid) (_:Unit),Zej (k,())->ZxM k):CT 93 Z44:=
 Z3 (l:=[]) Zk rfl trivial Zxi Try.func93 rfl rfl 1 (fun _=> rfl) V2 (fun ⟨k,_⟩=> hb k ())
def Zjn:List (FuncId × Fs U):=[(90,ZbD),(91,ZbC)]
def ZsW:Ze U:=lvk [([0,1,2,3],[]),([0,1,2,3,(10,[.own .wedit])],[]),([0,1,2,3,10,20],[]),([0,1,2,3,10,11,12],[11]),([0,1,2,3,10,11,33],[11]),([8,9],[]),([0,1,2,3,(10,[.own .wedit])],[]),([0,1,2,3,10,42],[]),([0,1,2,3,(10,[.own .wedit])],[]),([0,1,2,3,10,72],[]),([0,1,2,3,(10,[.own .wedit])],[]),([8,9],[])]
def Z3B(p q:List WEdit)(at_ one:Unit)(x0 x1 x10:List WEdit):LSt U:=(L2 [(0,.c (sU .wedit x0 .unk)),(1,.c (sU .wedit x1 .unk)),(2,.fn 90),(3,.fn 91),(10,.c (sU .wedit x10 (.own (.e 10 0))))] [])
abbrev A89(p:List Nat):=AW (Z2 Zjn) Try.f89 ZsW p
abbrev S89(p:List Nat):=SW (Z2 Zjn) Try.f89 ZsW p
theorem ZAo(p q:List WEdit)(at_ one:Unit)(Q:QT)(h:(Zi (A89 [1,1,0,0,0]) (Z3B p q at_ one p q []) (xB 0 (S89 [1,1,1] Q)))):
  A89 [] (L2 [(0,.c (sU .wedit p .unk)),(1,.c (sU .wedit q .unk)),(2,.fn 90),(3,.fn 91)] []) Q:=
 Eq.mpr V5 h
theorem Zrz(p q:List WEdit)(at_ one:Unit)(x0 x1 x10:List WEdit)(N0:NT)(Q:QT)(h:∀ y_1,y_1=(List.getD x0 (Int.toNat 0) (WEdit.mk 0 0 0 0))->∀ y_2,y_2=(List.getD x1 (Int.toNat 0) (WEdit.mk 0 0 0 0))->∀ y_3,y_3=y_1->∀ y_4,y_4=y_2->∀ y_5,y_5=((YP y_3 y_4).1)->let z3:=decide ((0:Int) < (x0.length:Int));let z2:=((x1.length:Int):Int)==0;let z1:=((x0.length:Int):Int)==0;let z0:=(!z2) && z3;(Tt (!z3))/\(Tt (!z3))/\(z3=false->(!z3)=true)/\(iB (bif z3 then true else (decide ((0:Int) < (x1.length:Int)))) ((Tt (!z2))/\(Tt (!z2))/\(Tt (!z2))/\(Tt z0)/\(z0=true->(0:Int)<=0/\0 < (x0.length:Int))/\(Tt z0)/\(Tt z0)/\(Tt z0)/\(z0=true->Zek (y_3,()))/\(Tt z0)/\(z0=true->(0:Int)<=0/\0 < (x1.length:Int))/\(Tt z0)/\(Tt z0)/\(Tt z0)/\(z0=true->Zek (y_4,()))/\(Tt z0)/\(Tt z0)/\((!z2)=true->(True->(!z2)=true))/\((!z2)=true->(z3=true->z0=true))/\(z2=false->(!z2)=true)/\(iB (bif z2 then true else (bif z3 then (decide (y_3.at_ < y_4.at_)) else false)) (((0:Int)<=0/\0 < (x0.length:Int))/\((x10.length+([y_3]).length)*32<=140737488355328)/\((0:Int)<=1/\1<=(x0.length:Int))/\(N0 (Z3B p q at_ one (List.drop (Int.toNat 1) x0) x1 (x10++([y_3]))))) ((Tt (!z1))/\((!z1)=true->(0:Int)<=0/\0 < (x1.length:Int))/\(Tt (!z1))/\(Tt (!z1))/\(Tt (!z1))/\((!z1)=true->Zek (y_4,()))/\(Tt (!z1))/\((!z1)=true->(0:Int)<=0/\0 < (x0.length:Int))/\(Tt (!z1))/\(Tt (!z1))/\(Tt (!z1))/\((!z1)=true->Zek (y_3,()))/\(Tt (!z1))/\(Tt (!z1))/\(z1=false->(!z1)=true)/\(iB (bif z1 then true else (decide (y_4.at_ < y_3.at_))) (((0:Int)<=0/\0 < (x1.length:Int))/\((x10.length+([y_4]).length)*32<=140737488355328)/\((0:Int)<=1/\1<=(x1.length:Int))/\(N0 (Z3B p q at_ one x0 (List.drop (Int.toNat 1) x1) (x10++([y_4]))))) (((0:Int)<=0/\0 < (x0.length:Int))/\((0:Int)<=0/\0 < (x1.length:Int))/\(Zok (y_3,y_4,()))/\(iB (!((YP y_3 y_4).2)) ((Q .ret (L2 [(8,.c (.nils)),pB 9 false] []))) (((x10.length+([y_5]).length)*32<=140737488355328)/\((0:Int)<=1/\1<=(x0.length:Int))/\((0:Int)<=1/\1<=(x1.length:Int))/\(N0 (Z3B p q at_ one (List.drop (Int.toNat 1) x0) (List.drop (Int.toNat 1) x1) (x10++([y_5]))))))))))) ((Q .ret (L2 [(8,.c (sU .wedit x10 (.own (.e 8 0)))),pB 9 true] []))))):
  A89 [1,1,0,0,0] (Z3B p q at_ one x0 x1 x10) (xT N0 (xB 0 (S89 [1,1,1] Q))):=
 Eq.mpr V5 (h _ rfl _ rfl _ (Z6R _) _ (Z6R _) _ (Z6R _))
def ZxQ(p q:List WEdit)(at_ one:Unit):Prop:=AW (Z2 Zjn) Try.f89 ZsW [] (Zj (Zqn.can (p,q,at_,one,())) []) (EQ Try.f89 (ZkQ (p,q,at_,one,())) [])
theorem Zvz(c90:CT 90 ZbD)(c91:CT 91 ZbC)(hb:∀ (p:List WEdit) (q:List WEdit) (at_:Unit) (one:Unit) (_:Unit),Zol (p,q,at_,one,())->ZxQ p q at_ one):CT 89 ZbE:=
 Z3 (l:=[(90,ZbD),(91,ZbC)]) Zk rfl (⟨c90,c91,trivial⟩) ZsW Try.func89 rfl rfl 4 (fun _=> rfl) V2 (fun ⟨p,q,at_,one,_⟩=> hb p q at_ one ())
def Zpl:List (FuncId × Fs U):=[(89,ZbE)]
abbrev A76(p:List Nat):=AW (Z2 Zpl) Try.f76 Zwz p
theorem ZAA(p q:List WEdit)(Q:QT)(h:((Zol (p,q,(),(),()))/\(Q .ret (L2 [(4,.c (sU .wedit (ofO (Zm WEdit.at_ YP p q)) .unk)),pB 5 ((Zm WEdit.at_ YP p q).isSome)] [])))):
  A76 [] (L2 [(0,.c (sU .wedit p .unk)),(1,.c (sU .wedit q .unk))] []) Q:=
 Eq.mpr V5 h
def Zy2(p q:List WEdit):Prop:=AW (Z2 Zpl) Try.f76 Zwz [] (Zj (Zqs.can (p,q,())) []) (EQ Try.f76 (ZtZ (p,q,())) [])
theorem ZvJ(c89:CT 89 ZbE)(hb:∀ (p:List WEdit) (q:List WEdit) (_:Unit),Zoo (p,q,())->Zy2 p q):CT 76 Z46:=
 Z3 (l:=[(89,ZbE)]) Zk rfl (⟨c89,trivial⟩) Zwz Try.func76 rfl rfl 2 (fun _=> rfl) V2 (fun ⟨p,q,_⟩=> hb p q ())
end
end Go.AM.Ytfapacabjkhepaa
