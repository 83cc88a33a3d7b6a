import Derived.Test.YtpjenobkibfpcaaGreatZCB25a
import Derived.Test.YtpjenobkibfpcaaGreatZKG20x
import Derived.Test.YtpjenobkibfpcaaGreatZKM07
import Derived.Test.YtpjenobkibfpcaaGreatZCD25
set_option linter.unusedSimpArgs false
set_option linter.unusedVariables false
namespace Go.AM.YtpjenobkibfpcaaGreat
open Go.AM Go.Proofs
theorem Zdv(e:Edit):e.words.length+e.ops.length+Zx e.kids+Zt e.ops+Zo e.old+Zo e.new+1=Z8 e:=by obtain ⟨k,o,n,w,ks,l,os⟩:=e;simp only [Z8,Edit.words_mk,Edit.ops_mk,Edit.kids_mk,Edit.old_mk,Edit.new_mk];omega
theorem Z8S(t:Tree):1<=Zo t:=by obtain ⟨k,w,ks⟩:=t;simp only [Zo];omega
theorem YI{e:Edit}(h:Y4 e):Z8 e<=9000000000:=QF (ZeF e) h.1
theorem Z9P{e:Edit}(h:Y4 e):Z1g (e,())/\Y4 (Zj (Zn e)):=by
 have u:=YI h
 obtain ⟨m,r,d,s⟩:=h
 refine ⟨⟨by grind,d,s⟩,?_,?_,d,Jm _ _ (YT _ _ s)⟩
 .have:=Z4y (Zn e)
  rw [ZbL] at this
  omega
 .exact Z0A _ d (YT _ _ s) (Z4L e r)
theorem ZbS{e:Edit}{t:Tree}(h:Y4 e)(hm:Zo t<=100000000000)(ht:rng t):Z4N (e,t,()):=by
 have:=YI h
 have:=h.1
 exact ⟨⟨by grind,h.2⟩,by grind,ht⟩
theorem Zq8{e:Edit}(h:Y4 e):ZdR e.kids:=by
 obtain ⟨m,r,d,s⟩:=h
 have:=Z23 e
 exact ⟨JX,(ZC r).2.2.2.1,fun k u=> ⟨_,(Zs (Zh s).kids k u).2⟩⟩
theorem Zew{e:Edit}(h:Y4 e):ZlJ e.ops:=by
 obtain ⟨m,r,d,u⟩:=h
 have:=Z23 e
 exact ⟨JX,(ZC r).2.2.2.2,fun o s=> ⟨_,_,rightOs_mem (Zh u).ops s⟩⟩
theorem ZHG:ZF0:=by
 intro N p q _ hp hN
 obtain ⟨op,oq⟩:=hp
 dsimp only at op oq
 have az:8*(Z8 p+Z8 q) < N+1:=hN
 obtain ⟨dp,rp⟩:=op.2.2
 obtain ⟨dq,rq⟩:=oq.2.2
 have u:=Zul rp rq
 unfold Z0e at u
 have lp:=Zdv p
 have lq:=Zdv q
 have mo:=Z8S p.old;have mn:=Z8S p.new;have a0:=Z8S q.old;have ax:=Z8S q.new
 have gp:=ZC op.2.1
 have gq:=ZC oq.2.1
 have cp:=Z23 p;have cq:=Z23 q;have ay:=op.1;have ar:=oq.1
 have fin:∀ {X:Edit} {b:Bool} {s:LSt U},Yt p q=(X,b)->Y7 cfg Tryz.f111.ntmps Tryz.f111.results.toList (.tup [(true,enc .edit X),(false,[.bool b])]) [] .ret s->Y7 cfg Tryz.f111.ntmps Tryz.f111.results.toList (Z3v (p,q,())) [] .ret s:=by
  intro X b s h hs
  refine Z0d ?_ hs
  simp only [Z3v]
  rw [h]
  try rfl
 refine ZJW N p q _ ?_
 intro y1 h1 y2 h2 y3 h3 y4 h4 y5 h5
 replace h1:=h1.symm;replace h2:=h2.symm;replace h3:=h3.symm;replace h4:=h4.symm
 subst h1 h2 h3 h4
 (simp only [iB,vcT,vcS])
 try dsimp only at h5 ⊢
 refine ⟨fun p0=> fin (by rw [u,if_pos p0]) V0,fun p0=> ?_⟩
 rw [if_neg p0] at u
 refine ⟨fun q0=> fin (by rw [u,if_pos q0]) V0,fun q0=> ?_⟩
 rw [if_neg q0] at u
 refine ⟨fun p1=> ⟨ZbS oq JX gp.2.1,fin (by rw [u,if_pos p1]) (by unfold doB;(repeat' (first | exact trivial | exact rfl | apply And.intro)))⟩,fun p1=> ?_⟩
 rw [if_neg p1] at u
 refine ⟨fun q1=> ⟨(Z9P op).1,by rw [h5];exact ZbS (Z9P op).2 JX gq.1,fin (by rw [u,if_pos q1,<-h5]) (by unfold doB;(repeat' (first | exact trivial | exact rfl | apply And.intro)))⟩,fun q1=> ?_⟩
 rw [if_neg q1] at u
 refine ⟨fun hd=> fin (by rw [u,if_pos hd]) V0,fun hd=> ?_⟩
 rw [if_neg (by rintro (h | h);exact h hd.1;exact h hd.2)] at u
 refine ⟨fun p2=> ?_,fun p2=> ?_⟩
 .rw [if_pos p2] at u
  refine ⟨⟨⟨gp.2.2.1,V4⟩,gq.2.2.1,V4⟩,fun hw=> ?_,fun hw=> ⟨⟨Zq8 op,Zq8 oq⟩,by show 8*(Zx p.kids+Zx q.kids)+4 < N;omega,?_⟩⟩
  .exact fin (by rw [u,if_neg (by rw [hw];decide)]) V0
  .exact fin (by rw [u,if_pos hw]) V0
 .rw [if_neg p2] at u
  exact ⟨⟨Zew op,Zew oq⟩,by show 8*(Zt p.ops+Zt q.ops)+40 < N;omega,fin u V0⟩
theorem ZHA:ZET:=by
 intro N a b _ s h
 have u:8*(Zx a+Zx b)+4 < N+1:=h
 refine ZJt N a b _ ?_
 exact ⟨s,by show 8*(Zx a+Zx b)+3 < N;omega,V0⟩
theorem ZlO{k:Kid}(h:Z1v k):InR k.at_/\ZZ k.e:=by cases k;exact h
theorem ZHw:ZEO:=by
 intro N a b _ hp hN
 obtain ⟨h,s⟩:=hp
 dsimp only at h s
 have af:8*(YO a+YO b)+1 < N+1:=hN
 have ka:=Z7O a
 have kb:=Z7O b
 refine ZIX N a b _ ?_
 intro y1 h1 y2 h2
 replace h1:=h1.symm;replace h2:=h2.symm
 subst h1 h2
 try dsimp only
 have ra:Y4 a.e:=⟨by have:=h.1;rw [Z3T] at this;omega,(ZlO h.2.1).2,h.2.2⟩
 have u:Y4 b.e:=⟨by have:=s.1;rw [Z3T] at this;omega,(ZlO s.2.1).2,s.2.2⟩
 exact ⟨⟨ra,u⟩,by show 8*(Z8 a.e+Z8 b.e) < N;omega,by unfold Z4n Z1I;(repeat' (first | exact trivial | exact rfl | apply And.intro))⟩
theorem Zi5{l:List Kid}(h:ZdR l):ZdR (l.drop 1):=by
 cases l with
 | nil=> exact h
 | cons k r=>
  obtain ⟨s,h2,u⟩:=h
  simp only [Z0W] at s
  exact ⟨by grind,h2.2,fun x hx=> u x (Q0 _ hx)⟩
theorem Zi4{l:List Kid}(h:ZdR l)(hl:0 < l.length)(z:Kid):ZyT (l.getD 0 z)/\YO (l.getD 0 z)+Zx (l.drop 1)=Zx l:=by
 cases l with
 | nil=> simp at hl
 | cons k r=>
  obtain ⟨h1,u,s⟩:=h
  simp only [Z0W] at h1
  exact ⟨⟨by grind,u.1,s k Q7⟩,rfl⟩
theorem Zdr:∀ l:List Kid,Zx (l.drop 1)<=Zx l
 | []=> Qb _
 | k ::r=> by simp only [Qw,QM,Zx];omega
theorem ZHx:ZEP:=by
 rintro N p q ⟨⟩ ⟨⟩ _ hp hN
 obtain ⟨op,oq⟩:=hp
 dsimp only at op oq
 have a1:8*(Zx p+Zx q)+3 < N+1:=hN
 have lp:=Yb p
 have lq:=Yb q
 have bp:=QF (Z7N p) op.1;have bq:=QF (Z7N q) oq.1
 refine ZIZ N p q () () _ ?_
 refine Zc (ι:=List Kid × List Kid × List Kid) (fun x=> Z3h p q () () x.1 x.2.1 x.2.2) (fun x=> MInv KidOf.at_ (Z1I Yt) p q x.1 x.2.1 x.2.2/\(ZdR x.1/\Zx x.1<=Zx p)/\ZdR x.2.1/\Zx x.2.1<=Zx q) (fun x=> x.1.length+x.2.1.length) (p,q,[]) rfl
  ⟨⟨by simp_all,by simp⟩,⟨op,Qb _⟩,oq,Qb _⟩ ?_
 rintro ⟨x0,u,s⟩ ⟨inv,⟨r0,m0⟩,r1,m1⟩
 dsimp only at inv r0 r1 m0 m1
 have am:=inv.len
 refine ZuU N p q () () _ _ _ _ _ ?_
 intro y1 h1 y2 h2 y3 h3 y4 h4 y5 h5
 subst h3 h4
 (simp only [iB,vcT,vcS])
 have h3:y3=x0.getD 0 ⟨0,Edit.nil⟩:=h1
 have h4:y4=u.getD 0 ⟨0,Edit.nil⟩:=h2
 have d0:ZdR (x0.drop 1)/\Zx (x0.drop 1)<=Zx p:=⟨Zi5 r0,by have:=Zdr x0;omega⟩
 have d1:ZdR (u.drop 1)/\Zx (u.drop 1)<=Zx q:=⟨Zi5 r1,by have:=Zdr u;omega⟩
 refine ⟨fun a2=> ⟨fun h=> ⟨JX,JX⟩,fun _=> trivial,fun h=> ⟨JX,JX⟩,fun _=> trivial,fun g1 g2=> ⟨g1,g2⟩,fun hA=> ?_,fun hB=> ?_⟩,fun hE=> ?_⟩
 .refine ⟨⟨JX,JX⟩,by grind,⟨JX,JX⟩,(x0.drop 1,u,s++[y3]),rfl,⟨?_,d0,r1,m1⟩,by grind⟩
  rw [h3]
  exact inv.left' _ JX (by grind)
 .refine ⟨fun h=> ⟨JX,JX⟩,fun _=> trivial,fun h=> ⟨JX,JX⟩,fun _=> trivial,fun hC=> ?_,fun hD=> ?_⟩
  .refine ⟨⟨JX,JX⟩,by grind,⟨JX,JX⟩,(x0,u.drop 1,s++[y4]),rfl,⟨?_,⟨r0,m0⟩,d1⟩,by grind⟩
   rw [h4]
   exact inv.right' _ JX (by grind)
  .have hb:=inv.both' ⟨0,Edit.nil⟩ JX JX (by grind)
   rw [<-h3,<-h4] at hb
   obtain ⟨k3,n3⟩:=Zi4 r0 JX ⟨0,Edit.nil⟩
   obtain ⟨k4,n4⟩:=Zi4 r1 JX ⟨0,Edit.nil⟩
   rw [<-h3] at k3 n3
   rw [<-h4] at k4 n4
   refine ⟨⟨JX,JX⟩,⟨JX,JX⟩,⟨k3,k4⟩,by show 8*(YO y3+YO y4)+1 < N;omega,fun hc=> ?_,fun hc=> ?_⟩
   .have e:=ZgH (hb.2 hc)
    refine Z0d (r':= .tup [(false,[.slice (U:=U) .kid [] .unk]),(false,[.bool false])]) ?_ V0
    simp only [Z3u]
    rw [e.1,e.2]
   .refine ⟨by grind,⟨JX,JX⟩,⟨JX,JX⟩,(x0.drop 1,u.drop 1,s++[y5]),rfl,⟨?_,d0,d1⟩,by grind⟩
    grind
 .have e0:x0=[]:=Q5 JX
  have e1:u=[]:=Q5 JX
  subst e0 e1
  have e:=inv.done
  refine Z0d (r':= .tup [(false,[.slice (U:=U) .kid s .unk]),(false,[.bool true])]) ?_ V0
  simp only [Z3u]
  rw [e]
  try rfl
theorem ZaN{l:List Op}{o:Op}(h:Part l o)(ho:ZX o)(hl:Z0j l):YZ o:=by
 obtain ⟨s,m,k,e1,_,lt⟩:=h
 have G:=Jr (Z0z hl m)
 obtain ⟨kk,nn,ll,ee⟩:=o
 have k:kk=s.kind:=k
 have e1:ee=s.e:=e1
 have lt:∀ t∈ll,t∈s.l:=lt
 refine ⟨by grind,?_,Z5D fun t ht=> YC G.2.2.1 (lt t ht),by grind⟩
 rcases ho with h | h | h
 .have:=h.2.2.1
  unfold InR
  grind
 .have u:nn=0:=h.2.1
  rw [u];trivial
 .have u:nn=0:=h.2.1
  rw [u];trivial
theorem Z2e{l:List Op}{o:Op}(h:Part l o):Z3S o<=Jh l/\Zu o<=Zt l:=by
 obtain ⟨o',m,k,e1,s,_⟩:=h
 have h1:=Zhf m
 have u:=YJ m
 have a:=Z2f o
 rw [Y5,Y5,e1] at s
 rw [e1] at a
 rw [Y5] at u
 rw [Y5,e1]
 omega
theorem Z5P{l:List Op}{o:Op}(h:Part l o)(hl:∀ o∈l,∃ list d,Zb list o d=true)(k3:o.kind=3):∃ d,Z3 o.e d=true:=by
 obtain ⟨s,m,k,e1,hm,_⟩:=h
 obtain ⟨list,d,u⟩:=hl s m
 exact ⟨d,by rw [e1];exact YH u JX⟩
theorem ZwS{p q:List Op}(hp:ZlJ p)(hq:ZlJ q){x:Piece}(h:POk p q x):PcOk x:=by
 refine ⟨h.of,fun e=> ?_,fun e=> ?_,h.both⟩
 .obtain ⟨a,b⟩:=h.pp e
  exact ⟨b,QF (Z2e a).1 hp.1,ZaN a b hp.2.1,Z5P a hp.2.2⟩
 .obtain ⟨a,b⟩:=h.qq e
  exact ⟨b,QF (Z2e a).1 hq.1,ZaN a b hq.2.1,Z5P a hq.2.2⟩
theorem ZpM{p:List Op}(hp:ZlJ p):Z9y p:=by
 refine ⟨fun o s=> ?_,?_⟩
 .obtain ⟨_,_,h⟩:=hp.2.2 o s
  exact Z99 h
 .have:=Z4U p
  have:=hp.1
  omega
theorem ZHz:ZES:=by
 intro N p q _ hp hN
 obtain ⟨op,oq⟩:=hp
 dsimp only at op oq
 have a1:8*(Zt p+Zt q)+40 < N+1:=hN
 have kp:=ZpM op
 have kq:=ZpM oq
 obtain ⟨i1,_⟩:=ZaP _ p q [] (Qb _) kp.1 kq.1
 refine ZJs N p q _ ?_
 (simp only [iB,vcT,vcS])
 refine ⟨⟨kp,kq⟩,fun hb=> ?_,fun hb=> ?_⟩
 .have e:Z1n Yt p q=none:=by unfold Z1n;grind
  refine Z0d (r':= .tup [(false,[.slice (U:=U) .op [] .unk]),(false,[.bool false])]) ?_ V0
  simp only [Z2y]
  rw [e];try rfl
 .obtain ⟨ps,e,am,_,_⟩:=i1 hb
  obtain ⟨ax,e1,_,_,aw⟩:=ZaO ZEJ ZsT 1 _ p q [] (Qb _) kp.1 kq.1 hb
  rw [e,Qt,Qt] at e1
  subst e1
  rw [Qt] at e
  have ae:Z1n Yt p q=Z1m Yt ps:=by unfold Z1n;grind
  refine Zc (ι:=Int × List Op) (fun s=> Z55 p q s.1 s.2) (fun s=> 0<=s.1/\s.1<=ps.length/\Z1m Yt ps=(Z1m Yt (ps.drop s.1.toNat)).map (s.2++·)/\s.2.length+(ps.drop s.1.toNat).length<=ps.length) (fun s=> ((ps.length:Int) - s.1).toNat) (0,[]) rfl ⟨by simp,by simp,by simp,by simp⟩ ?_
  rintro ⟨i,out⟩ ⟨f1,f2,u,f4⟩
  dsimp only at f1 f2 u f4
  refine Zv7 N p q _ _ _ _ ?_
  intro y1 h1 y2 h2 y3 h3
  rw [e] at h1 ⊢
  subst h2
  (simp only [iB,vcT,vcS])
  refine ⟨fun hi=> ?_,fun hi=> ?_⟩
  .have h1:y2=ps.getD i.toNat (Piece.mk 0 Op.nil Op.nil):=h1
   have ai:y2∈ps:=by rw [h1];exact Zk JX _
   have hx:=am y2 ai
   have hd:ps.drop i.toNat=y2 ::ps.drop (i+1).toNat:=by rw [h1];exact YE f1 hi _
   rw [hd,Z1m] at u
   rw [hd,Qm] at f4
   have al:8*(Zu y2.p+Zu y2.q)+1 < N:=by
    rcases hx.of with h | h | h
    .have:=(Z2e (hx.pp JX).1).2;have:=(Z2e (hx.qq JX).1).2;omega
    .have:=(Z2e (hx.pp JX).1).2;rw [hx.qn h,show Zu Op.nil=3 from rfl];omega
    .have:=(Z2e (hx.qq JX).1).2;rw [hx.pn h,show Zu Op.nil=3 from rfl];omega
   have c1:=Z4U p;have c2:=Z4U q;have c3:=op.1;have c4:=oq.1
   refine ⟨⟨f1,hi⟩,ZwS op oq hx,al,fun hc=> ?_,fun hc=> ⟨fun af=> ?_,fun af=> ?_⟩⟩
   .rw [if_neg (by grind)] at u
    refine Z0d (r':= .tup [(false,[.slice (U:=U) .op [] .unk]),(false,[.bool false])]) ?_ V0
    simp only [Z2y]
    rw [ae,u];try rfl
   .rw [if_pos hc,if_pos af] at u
    refine ⟨by grind,V1,(i+1,out++[y3]),rfl,⟨JX,JX,?_,?_⟩,JX⟩
    .rw [u,h3]
     cases Z1m Yt (ps.drop (i+1).toNat) <;> simp
    grind
   .rw [if_pos hc,if_neg (by grind)] at u
    refine ⟨V1,(i+1,out),rfl,⟨JX,JX,?_,by grind⟩,JX⟩
    simp_all
  .rw [Qc JX,Z1m] at u
   refine Z0d (r':= .tup [(false,[.slice (U:=U) .op out .unk]),(false,[.bool true])]) ?_ V0
   simp only [Z2y]
   rw [ae,u]
   simp [ofO]
theorem Z4C{α:Type}{l:List α}{i:Nat}(h:i < l.length)(d:α):l.take (i+1)=l.take i++[l.getD i d]:=by
 simp_all
theorem Zz0{a b:List Tree}(h:Z6 a=Z6 b):Z2Y a b=true:=Z0c.2 h
theorem ZCa{a b:List Tree}(h:¬Z6 a=Z6 b):Z2Y a b=false:=by rw [<-K7];exact fun e=> h (Z0c.1 e)
theorem Z2p(o:Op):Zg o.l<=Z3S o:=by rw [Z2f];omega
theorem ZHv:ZEN:=by
 intro N x _ hp hN
 have hp:PcOk x:=hp
 have aj:8*(Zu x.p+Zu x.q)+1 < N+1:=hN
 have fin:∀ {o:Op} {i k:Bool} {s:LSt U},ZQ Yt x=⟨o,i,k⟩->Y7 cfg Tryz.f210.ntmps Tryz.f210.results.toList (.tup [(true,enc .op o),(false,[.bool i]),(false,[.bool k])]) [] .ret s->Y7 cfg Tryz.f210.ntmps Tryz.f210.results.toList (Z3t (x,())) [] .ret s:=by
  intro o i k s h hs
  refine Z0d ?_ hs
  simp only [Z3t]
  rw [h];try rfl
 refine ZIV N x _ ?_
 intro y1 h1 y2 h2 y3 h3 y4 h4 y5 h5 y6 h6 y7 h7 y8 h8 y9 h9
 subst h1 h2 h5 h6
 (simp only [iB,vcT,vcS])
 have hc:=ZQ.eq_1 Yt x
 refine ⟨fun _ h=> ⟨JX,h⟩,fun c1=> fin (by rw [hc,if_pos c1]) V0,fun c1=> ?_⟩
 rw [J3] at hc
 refine ⟨fun c2=> fin (by rw [hc,if_pos c2]) V0,fun c2=> ?_⟩
 rw [J3] at hc
 have c0:x.of=0:=by rcases hp.of with h | h | h <;> omega
 obtain ⟨b1,b2,b3⟩:=hp.both c0
 obtain ⟨op,mp,gp,rp⟩:=hp.pp JX
 obtain ⟨oq,mq,gq,rq⟩:=hp.qq JX
 have ep:=Z2f x.p
 have eq:=Z2f x.q
 have u:=Jr gp
 have aa:=Jr gq
 have ap:=Z2p x.p
 have aq:=Z2p x.q
 refine ⟨fun c3=> ?_,fun c3=> ?_⟩
 .rw [if_pos c3] at hc
  have l1:=Yq op (.inr c3.1)
  have l2:=Yq oq (.inl c3.2)
  have k1:=Zy x.p.l
  rw [Qy JX] at hc
  refine Zc (ι:=Int) (fun i=> Z82 x i) (fun i=> 0<=i/\i<=x.p.l.length/\Z6 (x.p.l.take i.toNat)=Z6 (x.q.l.take i.toNat)) (fun i=> ((x.p.l.length:Int) - i).toNat) 0 rfl ⟨JX,JX,by simp⟩ ?_
  rintro i ⟨f1,f2,f3⟩
  refine ZuT N x _ _ _ ?_
  intro z1 g1 z2 g2 z3 g3 z4 g4
  subst g1 g2
  (simp only [iB,vcT,vcS])
  have l3:x.p.l.length=x.q.l.length:=JX
  refine ⟨fun hi=> ?_,fun hi=> ?_⟩
  .have m1:z3∈x.p.l:=by rw [g3];exact Zk JX _
   have m2:z4∈x.q.l:=by rw [g4];exact Zk JX _
   have bt:=J2 m1
   have bl:=J2 m2
   have t1:x.p.l.take (i+1).toNat=x.p.l.take i.toNat++[z3]:=by rw [g3,show (i+1).toNat=i.toNat+1 by omega];exact Z4C JX _
   have t2:x.q.l.take (i+1).toNat=x.q.l.take i.toNat++[z4]:=by rw [g4,show (i+1).toNat=i.toNat+1 by omega];exact Z4C JX _
   refine ⟨⟨f1,hi⟩,⟨f1,JX⟩,⟨V4,V4⟩,fun ae=> fin (by rw [hc,ZCa];intro he;rw [JQ] at ae;apply ae;rw [g3,g4];exact ZdF he i.toNat) V0,fun al=> ⟨V1,i+1,rfl,⟨JX,JX,?_⟩,JX⟩⟩
   rw [t1,t2]
   exact Z1U f3 (JK.2 (J6.1 al))
  .rw [Qy JX,Qy JX] at f3
   exact fin (by rw [hc,Zz0 f3]) V0
 rw [J3] at hc
 have kp:x.p.kind=2\/x.p.kind=3:=by rcases ZH op with k | k | k | k <;> omega
 have kq:x.q.kind=1\/x.q.kind=3:=by rcases ZH oq with k | k | k | k <;> omega
 refine ⟨fun c4=> ?_,fun c4=> ?_⟩
 .rw [if_pos c4] at hc
  have l1:=Yq op (.inr c4)
  have l2:=J0 (o:=x.q) JX
  have hl:0 < x.p.l.length:=JX
  have m3:y5∈x.p.l:=by rw [h3];exact Zk hl _
  have be:=J2 m3
  refine ⟨⟨JX,JX⟩,ZbS ⟨JX,aa.2.2.2,rq JX⟩ JX (YC u.2.2.1 m3),fin hc ?_⟩
  rw [show x.p.l.getD 0 Tree.nil=y5 from h3.symm]
  unfold doB
  rw [<-h8]
  exact V0
 rw [if_neg c4] at hc
 have p3:x.p.kind=3:=JX
 refine ⟨fun c5=> ?_,fun c5=> ?_⟩
 .rw [if_pos c5] at hc
  have l1:=Yq oq (.inl c5)
  have l2:=J0 (o:=x.p) p3
  have hl:0 < x.q.l.length:=JX
  have m4:y6∈x.q.l:=by rw [h4];exact Zk hl _
  have bj:=J2 m4
  have rk:Y4 x.p.e:=⟨JX,u.2.2.2,rp p3⟩
  refine ⟨(Z9P rk).1,⟨JX,JX⟩,by rw [h7];exact ZbS (Z9P rk).2 JX (YC aa.2.2.1 m4),fin hc ?_⟩
  rw [show x.q.l.getD 0 Tree.nil=y6 from h4.symm,<-h7]
  unfold doB
  rw [<-h9]
  exact V0
 .rw [if_neg c5] at hc
  have k1:Y4 x.p.e:=⟨JX,u.2.2.2,rp p3⟩
  have k2:Y4 x.q.e:=⟨JX,aa.2.2.2,rq JX⟩
  refine ⟨⟨k1,k2⟩,?_,fin hc V0⟩
  show 8*(Z8 x.p.e+Z8 x.q.e) < N
  rw [Y5,Y5] at aj
  omega
theorem ZKF:Contract Tryz.prog cfg 111 Z7x/\Contract Tryz.prog cfg 165 Zpw/\Contract Tryz.prog cfg 206 Zps/\Contract Tryz.prog cfg 208 Zpr/\Contract Tryz.prog cfg 166 Zpv/\Contract Tryz.prog cfg 210 Zpq:=
 Zxl c25 c85 Z9K ZH8 ZGO (ZGN ZhI) ZHG ZHA ZHx ZHw ZHz ZHv
theorem ZHq:Contract Tryz.prog cfg 111 Z7x:=ZKF.1
end Go.AM.YtpjenobkibfpcaaGreat
namespace Go.AM
def Z6h(list:Int):List Tree->Int->Int
 | [],_=> -1
 | t ::r,i=> if Zd (Tree.mk list [] [t]) 64=true then Z6h list r (i+1) else i
theorem ZiW(list:Int):∀ (l:List Tree) (i:Int),0<=i->(0<=Z6h list l i↔Z08 list l=false)
 | [],i,_=> by simp [Z6h,Z08]
 | t ::r,i,hi=> by
  have h:=ZiW list r (i+1) JX
  rw [Z6h,Z08]
  grind
end Go.AM
namespace Go.AM.YtpjenobkibfpcaaGreat
open Go.AM Go.Proofs
noncomputable section
def Zl4:ArgM (Tree × (Int × Unit) × Unit):=(.cons (aEl .tree) (.obj 0 (.cons (Z67 .i64) .nil) .nil))
def Zg2(a:Tree × (Int × Unit) × Unit):Prop:=Zo a.1<=18000000000/\rng a.1/\InR a.2.1.1
def ZnF(a:Tree × (Int × Unit) × Unit):V U:= .c (.bool (!(Zd (Tree.mk a.2.1.1 [] [a.1]) 64)))
def Zjy(a:Tree × (Int × Unit) × Unit):List (List (C U)):=[[ci a.2.1.1]]
def Za5:Fs U:=fsX Zl4 (fun a=> [Zg2 a]) ZnF Zjy
def Zl0:ArgM (List Tree × (Int × Unit) × Unit):=(.cons (aSl .tree) (.clo 217 0 (.cons (Z67 .i64) .nil) .nil))
def Zg0(a:List Tree × (Int × Unit) × Unit):Prop:=Zg a.1<=18000000000/\Yx a.1/\InR a.2.1.1
def ZjC(a:List Tree × (Int × Unit) × Unit):V U:= .c (ci (Z6h a.2.1.1 a.1 0))
def Zei(a:List Tree × (Int × Unit) × Unit):List (List (C U)):=[[ci a.2.1.1]]
def Z9Y:Fs U:=fsX Zl0 (fun a=> [Zg0 a]) ZjC Zei
def ZnG(a:List Tree × (Int × Unit) × Unit):V U:= .c (.bool (!(Z08 a.2.1.1 a.1)))
def Z5t:Fs U:=fsX Zl0 (fun a=> [Zg0 a]) ZnG Zei
def Zr8:List (FuncId × Fs U):=[(218,Za4)]
def Zxw:Za U:=lvk [([1,2],[2,((.x 0),[])]),([3],[((.x 0),[])])]
abbrev ZLU(t:Tree)(list:Int)(Q:QT):=AW (Z2 Zr8) Tryz.f217 Zxw [] (L2 [(0,.agg (enc .tree t)),(1,.ptr (.x 0) 0)] [(.x 0,[ci list])]) Q
theorem ZIS(t:Tree)(list:Int)(Q:QT)(h:let z0:=Tree.mk t.kind t.words t.kids;(Zg1 (list,z0,()))/\(Q .ret (L2 [(3,.c (.bool (!(Zd (Tree.mk list [] [z0]) 64))))] [(.x 0,[ci list])]))):
  ZLU t list Q:=
 Eq.mpr V3 h
def ZD1(t:Tree)(list:Int):Prop:=AW (Z2 Zr8) Tryz.f217 Zxw [] (Zf (Zl4.can (t,(list,()),())) (Zl4.canX (t,(list,()),()))) (EQ Tryz.f217 (ZnF (t,(list,()),())) (Zjy (t,(list,()),())))
theorem ZAW(ZGJ:CT 218 Za4)(hb:∀ (t:Tree) (list:Int) (_:Unit),Zg2 (t,(list,()),())->ZD1 t list):CT 217 Za5:=
 Zv (l:=[(218,Za4)]) Ze rfl (⟨ZGJ,trivial⟩) Zxw Tryz.func217 rfl rfl 2 (fun _=> rfl) V2 (fun ⟨t,⟨list,_⟩,_⟩=> hb t list ())
def Z7Q:List (FuncId × Fs U):=[(217,Za5)]
def ZgP:Za U:=lvk [([0,1],[((.x 0),[])]),([0,1,7,8],[((.x 0),[])]),([0,1,7,8,9],[((.x 0),[])]),([0,1,5,7,8],[((.x 0),[])]),([0,1,5,7,8,16],[((.x 0),[])]),([4],[((.x 0),[])]),([0,1,7,8],[((.x 0),[])]),([4],[((.x 0),[])])]
def Z7Z(l:List Tree)(list h:Int):LSt U:=(L2 [(0,.c (sU .tree l .unk)),(1,.clo 217 [(.x 0)]),pI 7 (l.length:Int),pI 8 h] [(.x 0,[ci list])])
abbrev ZLR(l:List Tree)(list:Int)(Q:QT):=AW (Z2 Z7Q) Tryz.f231 ZgP [] (L2 [(0,.c (sU .tree l .unk)),(1,.clo 217 [(.x 0)])] [(.x 0,[ci list])]) Q
theorem ZIH(l:List Tree)(list:Int)(Q:QT)(h:Zp (AW (Z2 Z7Q) Tryz.f231 ZgP [1,0,1,0,0]) (Z7Z l list 0) (xB 0 (SW (Z2 Z7Q) Tryz.f231 ZgP [1,1] Q))):
  ZLR l list Q:=
 Eq.mpr V3 h
abbrev ZCu(l:List Tree)(list h:Int)(N0:NT)(Q:QT):=AW (Z2 Z7Q) Tryz.f231 ZgP [1,0,1,0,0] (Z7Z l list h) (xT N0 (xB 0 (SW (Z2 Z7Q) Tryz.f231 ZgP [1,1] Q)))
theorem ZuP(l:List Tree)(list s:Int)(N0:NT)(Q:QT)(h:let z1:=l.getD s.toNat Tree.nil;let z0:=Tree.mk (Tree.kind z1) (Tree.words z1) (Tree.kids z1);iB (decide (s < (l.length:Int))) (((0:Int)<=s/\s < (l.length:Int))/\(Zg2 (z0,(list,()),()))/\(iB (!(Zd (Tree.mk list [] [z0]) 64)) (Q .ret (L2 [pI 4 s] [(.x 0,[ci list])])) ((InR (s+1))/\(N0 (Z7Z l list (s+1)))))) (Q .ret (L2 [pI 4 (-1)] [(.x 0,[ci list])]))):
  ZCu l list s N0 Q:=
 Eq.mpr V3 h
def ZCQ(l:List Tree)(list:Int):Prop:=AW (Z2 Z7Q) Tryz.f231 ZgP [] (Zf (Zl0.can (l,(list,()),())) (Zl0.canX (l,(list,()),()))) (EQ Tryz.f231 (ZjC (l,(list,()),())) (Zei (l,(list,()),())))
theorem ZAL(ZGK:CT 217 Za5)(hb:∀ (l:List Tree) (list:Int) (_:Unit),Zg0 (l,(list,()),())->ZCQ l list):CT 231 Z9Y:=
 Zv (l:=[(217,Za5)]) Ze rfl (⟨ZGK,trivial⟩) ZgP Tryz.func231 rfl rfl 2 (fun _=> rfl) V2 (fun ⟨l,⟨list,_⟩,_⟩=> hb l list ())
def Zr9:List (FuncId × Fs U):=[(231,Z9Y)]
def Zxx:Za U:=lvk [([0,1],[((.x 0),[])]),([4],[((.x 0),[])])]
abbrev ZLV(l:List Tree)(list:Int)(Q:QT):=AW (Z2 Zr9) Tryz.f216 Zxx [] (L2 [(0,.c (sU .tree l .unk)),(1,.clo 217 [(.x 0)])] [(.x 0,[ci list])]) Q
theorem ZIT(l:List Tree)(list:Int)(Q:QT)(h:(Zg0 (l,(list,()),()))/\(Q .ret (L2 [pB 4 (decide ((0:Int)<=(Z6h list l 0)))] [(.x 0,[ci list])]))):
  ZLV l list Q:=
 Eq.mpr V3 h
def ZD2(l:List Tree)(list:Int):Prop:=AW (Z2 Zr9) Tryz.f216 Zxx [] (Zf (Zl0.can (l,(list,()),())) (Zl0.canX (l,(list,()),()))) (EQ Tryz.f216 (ZnG (l,(list,()),())) (Zei (l,(list,()),())))
theorem ZAX(ZGC:CT 231 Z9Y)(hb:∀ (l:List Tree) (list:Int) (_:Unit),Zg0 (l,(list,()),())->ZD2 l list):CT 216 Z5t:=
 Zv (l:=[(231,Z9Y)]) Ze rfl (⟨ZGC,trivial⟩) Zxx Tryz.func216 rfl rfl 2 (fun _=> rfl) V2 (fun ⟨l,⟨list,_⟩,_⟩=> hb l list ())
end
theorem ZGK:Contract Tryz.prog cfg 217 Za5:=by
 refine ZAW ZGJ ?_
 intro t list _ h
 simp only [Zg2] at h
 refine ZIS _ _ _ ?_
 (simp only [vE])
 refine ⟨by simp only [Zg1];exact h,?_⟩
 simp only [ZnF,Zjy]
 exact V0
theorem Zhn{list:Int}{l:List Tree}:∀ (i:Nat),(∀ t∈l.take i,Zd (Tree.mk list [] [t]) 64=true)->i<=l.length->Z6h list l 0=Z6h list (l.drop i) i
 | 0,_,_=> by simp
 | i+1,h,hi=> by
  have u:=Zhn i (fun t ht=> h t (by rw [XX];exact Qj.2 (Or.inl ht))) JX
  rw [u]
  have e:l.drop i=l.getD i Tree.nil ::l.drop (i+1):=by
   have:=YE (l:=l) (i:=(i:Int)) JX JX Tree.nil
   simpa using this
  have s:l.getD i Tree.nil∈l.take (i+1):=by
   rw [List.mem_take_iff_getElem]
   exact ⟨i,JX,by simp [List.getD,Q4 (show i < l.length by omega)]⟩
  rw [e,Z6h,if_pos (h _ s)]
  simp
theorem ZGC:Contract Tryz.prog cfg 231 Z9Y:=by
 refine ZAL ZGK ?_
 intro l list _ hp
 simp only [Zg0] at hp
 refine ZIH _ _ _ ?_
 refine Zc (ι:=Int) (fun s=> Z7Z l list s) (fun s=> 0<=s/\s<=l.length/\∀ t∈l.take s.toNat,Zd (Tree.mk list [] [t]) 64=true) (fun s=> ((l.length:Int) - s).toNat) 0 rfl ⟨by simp,by simp,by simp⟩ ?_
 rintro i ⟨g1,g2,g3⟩
 have h:=Zhn (list:=list) (l:=l) i.toNat g3 JX
 have hl:=Zy l
 refine ZuP _ _ _ _ _ ?_
 (simp only [iB,vcS])
 (simp only [vE])
 refine ⟨fun u=> ⟨⟨g1,u⟩,?_,fun hc=> ?_,fun hc=> ?_⟩,fun u=> ?_⟩
 .have hm:=Zk (l:=l) (i:=i.toNat) JX Tree.nil
  simp only [Zg2]
  have h1:=J2 hm
  exact ⟨JX,YC hp.2.1 hm,hp.2.2⟩
 .rw [YE g1 u Tree.nil,Z6h,if_neg (by grind)] at h
  simp only [ZjC,Zei]
  rw [h,show ((i.toNat:Nat):Int)=i by omega]
  exact V0
 .refine ⟨V1,i+1,rfl,⟨JX,JX,fun t ht=> ?_⟩,JX⟩
  rw [show (i+1).toNat=i.toNat+1 by omega,XX] at ht
  grind
 .rw [Qc JX] at h
  simp only [ZjC,Zei]
  rw [h,Z6h]
  exact V0
theorem ZGL:Contract Tryz.prog cfg 216 Z5t:=by
 refine ZAX ZGC ?_
 intro l list _ h
 simp only [Zg0] at h
 refine ZIT _ _ _ ?_
 have s:=ZiW list l 0 V2
 refine ⟨by simp only [Zg0];exact h,?_⟩
 have e:decide (0<=Z6h list l 0)= !(Z08 list l):=by
  rw [Qs,decide_eq_true_eq,s]
  cases Z08 list l <;> simp
 simp only [ZnG,Zei]
 rw [e]
 exact V0
noncomputable section
def Zwx(a:Edit × Unit):V U:= .c (.bool (Z5e a.1))
def Z5x:Fs U:=fs ZsH (fun a=> [Z9q a]) Zwx
abbrev ZLZ(t:Tree)(Q:QT):=AW (Z2 ZoA) Tryz.f178 ZGj [] (L2 [(0,.agg (enc .tree t))] []) Q
theorem ZJk(t:Tree)(Q:QT)(h:((Tt (t.kind==0))/\(Tt (t.kind==0))/\(Tt (t.kind==0))/\(Tt (t.kind==0))/\(Tt (t.kind==0))/\(Tt (t.kind==0))/\((t.kind==0)=true->InR (((t.words.length:Int):Int)+(t.kids.length:Int)))/\(Tt (t.kind==0))/\(Tt (t.kind==0))/\(Q .ret (L2 [(2,.c (.bool (bif (t.kind==0) then (((((t.words.length:Int):Int)+(t.kids.length:Int)):Int)==0) else false)))] [])))):
  ZLZ t Q:=
 Eq.mpr V3 h
def ZDt(t:Tree):Prop:=AW (Z2 ZoA) Tryz.f178 ZGj [] (Zf (Zzy.can (t,())) []) (EQ Tryz.f178 (ZEg (t,())) [])
theorem ZBj(hb:∀ (t:Tree) (_:Unit),Z6S (t,())->ZDt t):CT 178 Z5q:=
 Z1 (l:=[]) Ze rfl trivial ZGj Tryz.func178 rfl rfl 1 (fun _=> rfl) V2 (fun ⟨t,_⟩=> hb t ())
def ZrN:List (FuncId × Fs U):=[(178,Z5q)]
def Zyb:Za U:=lvl [([1],[1]),([1,3],[1]),([1,4],[1]),([2],[]),([1,21],[1]),([2],[]),([2],[])]
abbrev ZMb(e:Edit)(Q:QT):=AW (Z2 ZrN) Tryz.f121 Zyb [] (L2 [(0,.agg (enc .edit e))] []) Q
theorem ZJR(e:Edit)(Q:QT)(h:∀ u,u=(e.new)->∀ s,s=(e.old)->let z2:=(Q .ret (L2 [pB 2 false] []));let z1:=(!(e.kind==3)) && (e.list==0);let z0:=(e.kind !=1) && (YM s);((Tt (e.kind !=1))/\(Tt (e.kind !=1))/\(Tt (e.kind !=1))/\((e.kind !=1)=true->Z6S (s,()))/\(Tt (e.kind !=1))/\(Tt z0)/\(Tt z0)/\(Tt z0)/\(z0=true->Z6S (u,()))/\((e.kind !=1)=true->(True->(e.kind !=1)=true))/\((e.kind !=1)=true->((YM s)=true->z0=true))/\(Tt (e.kind !=1))/\(Tt (e.kind !=1))/\(iB (bif (e.kind !=1) then (!(bif (YM s) then (YM u) else false)) else false) z2 ((Tt (e.kind !=2))/\(Tt (e.kind !=2))/\(Tt (e.kind !=2))/\(Tt (e.kind !=2))/\(Tt (e.kind !=2))/\(Tt (e.kind !=2))/\((e.kind !=2)=true->InR (((e.words.length:Int):Int)+(e.kids.length:Int)))/\(Tt (e.kind !=2))/\(Tt (e.kind !=2))/\(iB (bif (e.kind !=2) then (decide ((0:Int) < (((e.words.length:Int):Int)+(e.kids.length:Int)))) else false) z2 ((Tt (!(e.kind==3)))/\(Tt (!(e.kind==3)))/\(Tt (!(e.kind==3)))/\(Tt z1)/\(Tt z1)/\(Tt z1)/\((!(e.kind==3))=true->(True->(!(e.kind==3))=true))/\((!(e.kind==3))=true->((e.list==0)=true->z1=true))/\((e.kind==3)=false->(!(e.kind==3))=true)/\(Q .ret (L2 [(2,.c (.bool (bif (e.kind==3) then true else (bif (e.list==0) then (((e.ops.length:Int):Int)==0) else false))))] [])))))))):
  ZMb e Q:=
 Eq.mpr V3 (h _ (Z9 _) _ (Z9 _))
def ZE0(e:Edit):Prop:=AW (Z2 ZrN) Tryz.f121 Zyb [] (Zf (ZsH.can (e,())) []) (EQ Tryz.f121 (Zwx (e,())) [])
theorem ZBK(ZH4:CT 178 Z5q)(hb:∀ (e:Edit) (_:Unit),Z9q (e,())->ZE0 e):CT 121 Z5x:=
 Z1 (l:=[(178,Z5q)]) Ze rfl (⟨ZH4,trivial⟩) Zyb Tryz.func121 rfl rfl 1 (fun _=> rfl) V2 (fun ⟨e,_⟩=> hb e ())
end
theorem ZH4:Contract Tryz.prog cfg 178 Z5q:=by
 refine ZBj ?_
 intro t _ h
 simp only [Z6S] at h
 have:=Zmw t
 refine ZJk t _ ?_
 simp only [iB,vcT,vcS,aiT,true_and]
 refine ⟨fun _=> by unfold InR;omega,Z5 rfl ?_⟩
 rw [Qs]
 simp only [YM]
 grind
theorem ZHo:Contract Tryz.prog cfg 121 Z5x:=by
 refine ZBK ZH4 ?_
 intro e _ u
 simp only [Z9q] at u
 have h1:=YK e
 have h2:=Yb e.kids
 refine ZJR e _ ?_
 rintro y1 rfl y2 rfl
 simp only [iB,vcT,vcS,aiT,true_and]
 refine ⟨fun _=> by simp only [Z6S];omega,fun _=> by simp only [Z6S];omega,fun h=> ?_,fun h=> ⟨fun _=> by unfold InR;omega,fun s=> ?_,fun s=> ?_⟩⟩
 .refine Z5 rfl ?_
  show false=Z5e e
  unfold Z5e
  grind
 .refine Z5 rfl ?_
  show false=Z5e e
  unfold Z5e
  grind
 .refine Z5 rfl ?_
  show _=Z5e e
  unfold Z5e
  grind
noncomputable section
def Z1x(a:Edit × Int × Unit):Prop:=(Z8 a.1<=18000000000/\ZZ a.1)/\0<=a.2.1/\a.2.1<=1000
def Z8G(a:Edit × Int × Unit):Nat:=4*Z8 a.1
def Zfi:Fs U:=fs ZkZ (fun a=> [Z1x a]) Zq0
def Z6a:ArgL (List Kid × Int × Unit):=(.cons (aSl .kid) (.cons (Jj .i64) .nil))
def Z4w(a:List Kid × Int × Unit):Prop:=(Zx a.1<=18000000000/\Z0P a.1)/\0<=a.2.1/\a.2.1<=1000
def Zb6(a:List Kid × Int × Unit):Nat:=4*Zx a.1+2
def Z6P(a:List Kid × Int × Unit):V U:= .c (.bool (Zw (-1) a.1 a.2.1))
def Zpz:Fs U:=fs Z6a (fun a=> [Z4w a]) Z6P
def Z4v(a:Edit × Int × Unit):Prop:=(Z8 a.1<=18000000000/\ZZ a.1/\2<=Edit.list a.1/\Edit.list a.1<=9)/\0<=a.2.1/\a.2.1<=1000
def Zb5(a:Edit × Int × Unit):Nat:=4*Zt a.1.ops+2
def Z9f(a:Edit × Int × Unit):V U:= .c (.bool (Zz a.1.list a.1.ops a.2.1 && decide (Z1C a.1.ops 0 < 1048576/\Z1B a.1.ops 0 < 1048576)))
def Zpy:Fs U:=fs ZkZ (fun a=> [Z4v a]) Z9f
def Z4s(a:Int × Op × Int × Unit):Prop:=(Zu a.2.1<=18000000000/\YZ a.2.1/\2<=a.1/\a.1<=9)/\0<=a.2.2.1/\a.2.2.1<=1000
def Zb1(a:Int × Op × Int × Unit):Nat:=4*Zu a.2.1+1
def Zpu:Fs U:=fs ZeU (fun a=> [Z4s a]) ZjS
def Zqj(a:Edit × Unit):Prop:=Z8 a.1<=18000000000/\ZZ a.1
def ZEm(a:Edit × Unit):V U:= .c (.bool (Z3 a.1 64))
def Zfo:Fs U:=fs ZsH (fun a=> [Zqj a]) ZEm
def Z9F(N:Nat):List (FuncId × Fs U):=(78,fs ZkZ (fun a=> [Z1x a,Z8G a < N]) Zq0) ::(124,fs Z6a (fun a=> [Z4w a,Zb6 a < N]) Z6P) ::(126,fs ZkZ (fun a=> [Z4v a,Zb5 a < N]) Z9f) ::(179,fs ZeU (fun a=> [Z4s a,Zb1 a < N]) ZjS) ::[(121,Z5x),(122,Z5w),(123,Z5v),(125,Z2b),(216,Z5t),(219,Z5s),(169,Z5u)]
def ZG7:Za U:=lvl [([1,2],[2]),([1,2,11],[2]),([4],[]),([1,2,13],[2]),([1,2,13,14],[2]),([4],[]),([1,2,13,16],[2]),([4],[]),([1,2,13,26],[2]),([4],[]),([1,2,38],[2]),([4],[]),([4],[])]
abbrev W78(N:Nat)(e:Edit)(d:Int)(Q:QT):=AW (Z2 (Z9F N)) Tryz.f78 ZG7 [] (L2 [(0,.agg (enc .edit e)),pI 1 d] []) Q
theorem ZLf(N:Nat)(e:Edit)(d:Int)(Q:QT)(h:∀ s,s=e->∀ aa,aa=(e.new)->∀ u,u=(e.old)->let z3:=(Q .ret (L2 [pB 4 false] []));let z2:=ZL (-1) e.words;let z1:=decide (Tree.kind u≠10) && Zd u 64;let z0:=decide (2<=e.list/\e.list<=9);((Z9q (s,()))/\(Tt (!(!(Z5e s))))/\((!(Z5e s))=false->(!(!(Z5e s)))=true)/\(iB (bif (!(Z5e s)) then true else (d==0)) z3 ((iB (e.kind==0) ((Q .ret (L2 [pB 4 true] []))) ((iB (e.kind==1) ((Zig (u,()))/\(Tt z1)/\(Tt z1)/\(z1=true->Zig (aa,()))/\(Tt z1)/\(Q .ret (L2 [pB 4 (bif z1 then (decide (Tree.kind aa≠10) && Zd aa 64) else false)] []))) ((iB (e.kind==2) ((Zgg (e.words,()))/\(Tt z2)/\(Tt z2)/\(z2=true->InR (d - 1))/\(Tt z2)/\(Tt z2)/\(z2=true->Z4w (e.kids,(d - 1),()))/\(z2=true->Zb6 (e.kids,(d - 1),()) < N)/\(Tt z2)/\(Q .ret (L2 [pB 4 (bif z2 then (Zw (-1) e.kids (d - 1)) else false)] []))) ((iB (e.kind==3) ((Zo5 (e.list,()))/\(Tt z0)/\(z0=true->InR (d - 1))/\(Tt z0)/\(Tt z0)/\(z0=true->Z4v (s,(d - 1),()))/\(z0=true->Zb5 (s,(d - 1),()) < N)/\(Tt z0)/\(Q .ret (L2 [pB 4 (bif z0 then (Zz s.list s.ops (d - 1) && decide (Z1C s.ops 0 < 1048576/\Z1B s.ops 0 < 1048576)) else false)] []))) z3))))))))))):
  W78 N e d Q:=
 Eq.mpr V3 (h _ (Z7 _) _ (Z9 _) _ (Z9 _))
def ZHX(N:Nat)(e:Edit)(d:Int):Prop:=AW (Z2 (Z9F N)) Tryz.f78 ZG7 [] (Zf (ZkZ.can (e,d,())) []) (EQ Tryz.f78 (Zq0 (e,d,())) [])
abbrev ZKZ:Prop:=∀ (N:Nat) (e:Edit) (d:Int) (_:Unit),Z1x (e,d,())->Z8G (e,d,()) < N+1->ZHX N e d
def ZgT:Za U:=lvl [([0,1],[]),([0,1,7,8,9],[]),([0,1,7,8,9,10],[]),([0,1,5,6,7,8,9],[6]),([0,1,7,8,9,49],[]),([4],[]),([0,1,7,8,9],[]),([4],[])]
def Z8c(l:List Kid)(d h:Int):LSt U:=(L2 [(0,.c (sU .kid l .unk)),pI 1 d,(7,.c (sU .kid l .unk)),pI 8 (l.length:Int),pI 9 h] [])
abbrev ZM8(N:Nat)(l:List Kid)(d:Int)(Q:QT):=AW (Z2 (Z9F N)) Tryz.f124 ZgT [] (L2 [(0,.c (sU .kid l .unk)),pI 1 d] []) Q
theorem ZJO(N:Nat)(l:List Kid)(d:Int)(Q:QT)(h:Zp (AW (Z2 (Z9F N)) Tryz.f124 ZgT [1,0,1,0,0]) (Z8c l d 0) (xB 0 (SW (Z2 (Z9F N)) Tryz.f124 ZgT [1,1] Q))):
  ZM8 N l d Q:=
 Eq.mpr V3 h
abbrev ZCD(N:Nat)(l:List Kid)(d h:Int)(N0:NT)(Q:QT):=AW (Z2 (Z9F N)) Tryz.f124 ZgT [1,0,1,0,0] (Z8c l d h) (xT N0 (xB 0 (SW (Z2 (Z9F N)) Tryz.f124 ZgT [1,1] Q)))
theorem Zvf(N:Nat)(l:List Kid)(d u:Int)(N0:NT)(Q:QT)(h:∀ s,s=(l.getD u.toNat (KidOf.mk 0 Edit.nil))->∀ ab,ab=(List.getD l (Int.toNat (u - 1)) (KidOf.mk 0 Edit.nil))->∀ aa,aa=(s.e)->let z5:=decide ((0:Int) < u);let z4:=decide (s.at_ < 0);let z0:=bif z4 then true else (decide ((65535:Int)<=s.at_));let z2:=(!z0) && z5;let z1:=bif z0 then true else (bif z5 then (decide (s.at_<=ab.at_)) else false);let z3:=bif z1 then true else (s.e.kind==0);(iB (decide (u < (l.length:Int))) (((0:Int)<=u/\u < (l.length:Int))/\((Tt (!z4))/\(Tt (!z4))/\(z4=false->(!z4)=true)/\(Tt (!z0))/\(Tt (!z0))/\(Tt z2)/\(z2=true->InR (u - 1))/\(Tt z2)/\(Tt z2)/\(z2=true->(0:Int)<=(u - 1)/\(u - 1) < (l.length:Int))/\(Tt z2)/\(Tt z2)/\(Tt z2)/\(Tt z2)/\(Tt z2)/\((!z0)=true->(True->(!z0)=true))/\((!z0)=true->(z5=true->z2=true))/\(z0=false->(!z0)=true)/\(Tt (!z1))/\(Tt (!z1))/\(Tt (!z1))/\(z1=false->(!z1)=true)/\(Tt (!z3))/\(Tt (!z3))/\(Tt (!z3))/\((!z3)=true->Z1x (aa,d,()))/\((!z3)=true->Z8G (aa,d,()) < N)/\(Tt (!z3))/\(z3=false->(!z3)=true)/\(iB (bif z3 then true else (!(Z3 aa d))) ((Q .ret (L2 [pB 4 false] []))) ((InR (u+1))/\(N0 (Z8c l d (u+1))))))) ((Q .ret (L2 [pB 4 true] []))))):
  ZCD N l d u N0 Q:=
 Eq.mpr V3 (h _ rfl _ rfl _ (Z7 _))
def ZDX(N:Nat)(l:List Kid)(d:Int):Prop:=AW (Z2 (Z9F N)) Tryz.f124 ZgT [] (Zf (Z6a.can (l,d,())) []) (EQ Tryz.f124 (Z6P (l,d,())) [])
abbrev ZEX:Prop:=∀ (N:Nat) (l:List Kid) (d:Int) (_:Unit),Z4w (l,d,())->Zb6 (l,d,()) < N+1->ZDX N l d
def ZgS:Za U:=lvl [([1,2],[2]),([1,2,10,11,12],[2]),([1,2,10,11,12,13],[2]),([1,2,6,10,11,12],[2,6]),([1,2,10,11,12,21],[2]),([4],[]),([1,2,10,11,12],[2]),([7,8],[]),([4],[])]
def Z8b(e:Edit)(d h:Int):LSt U:=(L2 [pI 1 d,pL 2,(10,.c (sU .op e.ops .unk)),pI 11 (e.ops.length:Int),pI 12 h] [(.loc 2,(enc .edit e))])
abbrev ZM7(N:Nat)(e:Edit)(d:Int)(Q:QT):=AW (Z2 (Z9F N)) Tryz.f126 ZgS [] (L2 [(0,.agg (enc .edit e)),pI 1 d] []) Q
theorem ZJM(N:Nat)(e:Edit)(d:Int)(Q:QT)(h:Zp (AW (Z2 (Z9F N)) Tryz.f126 ZgS [1,0,1,0,0]) (Z8b e d 0) (xB 0 (SW (Z2 (Z9F N)) Tryz.f126 ZgS [1,1] Q))):
  ZM7 N e d Q:=
 Eq.mpr V3 h
abbrev ZCC(N:Nat)(e:Edit)(d h:Int)(N0:NT)(Q:QT):=AW (Z2 (Z9F N)) Tryz.f126 ZgS [1,0,1,0,0] (Z8b e d h) (xT N0 (xB 0 (SW (Z2 (Z9F N)) Tryz.f126 ZgS [1,1] Q)))
theorem Zve(N:Nat)(e:Edit)(d s:Int)(N0:NT)(Q:QT)(h:∀ aa,aa=e->∀ ab,ab=(e.ops.getD s.toNat Op.nil)->∀ u,u=ab->let z0:=decide (((Z3N aa.ops 0):Int) < 1048576);(iB (decide (s < (e.ops.length:Int))) (((0:Int)<=s/\s < (e.ops.length:Int))/\((Z4s (e.list,u,d,()))/\(Zb1 (e.list,u,d,()) < N)/\(iB (!(Zb e.list u d)) ((Q .ret (L2 [pB 4 false] []))) ((InR (s+1))/\(N0 (Z8b e d (s+1))))))) ((Z9q (aa,()))/\((Tt z0)/\(Tt z0)/\(Q .ret (L2 [(4,.c (.bool (bif z0 then (decide (((Z3L aa.ops 0):Int) < 1048576)) else false)))] [])))))):
  ZCC N e d s N0 Q:=
 Eq.mpr V3 (h _ (Z7 _) _ rfl _ (YB _))
def ZDV(N:Nat)(e:Edit)(d:Int):Prop:=AW (Z2 (Z9F N)) Tryz.f126 ZgS [] (Zf (ZkZ.can (e,d,())) []) (EQ Tryz.f126 (Z9f (e,d,())) [])
abbrev ZEW:Prop:=∀ (N:Nat) (e:Edit) (d:Int) (_:Unit),Z4v (e,d,())->Zb5 (e,d,()) < N+1->ZDV N e d
def ZxO:Za U:=lvl [([2,3,4],[3,4]),([2,3,4,8],[3,4]),([2,3,4,8,9],[3,4]),([2,3,4,8,11],[3,4]),([2,3,4,8,13],[3,4]),([2,3,4,15],[3,4]),([6],[]),([6],[]),([6],[]),([6],[])]
abbrev ZLY(N:Nat)(list:Int)(o:Op)(d:Int)(Q:QT):=AW (Z2 (Z9F N)) Tryz.f179 ZxO [] (L2 [pI 0 list,(1,.agg (enc .op o)),pI 2 d] []) Q
theorem ZJj(N:Nat)(list:Int)(o:Op)(d:Int)(Q:QT)(h:∀ s,s=(o.e)->∀ u,u=(.bool (bif (bif (bif (bif (o.n==0) then (decide ((0:Int) < (o.l.length:Int))) else false) then (Z3 s 1) else false) then (o.e.kind==0) else false) then (!(!(Z08 list o.l))) else false))->let z10:=Q .ret (L2 [(6,.c u)] []);let z9:=((o.l.length:Int):Int)==0;let z8:=decide ((1:Int)<=o.n);let z4:=bif z8 then (decide (o.n<=1048576)) else false;let z3:=bif (o.n==0) then z9 else false;let z6:=bif z3 then (Z28 list s) else false;let z1:=bif z4 then z9 else false;let z7:=bif z1 then (Z3 s 1) else false;let z0:=bif (o.n==0) then (decide ((0:Int) < (o.l.length:Int))) else false;let z5:=bif z0 then (Z3 s 1) else false;let z2:=bif z5 then (o.e.kind==0) else false;(iB (o.kind==0) ((Tt z8)/\(Tt z8)/\(Tt z8)/\(Tt z4)/\(Tt z4)/\(Tt z4)/\(Tt z4)/\(Tt z1)/\(Tt z1)/\(z1=true->Z1x (s,1,()))/\(z1=true->Z8G (s,1,()) < N)/\(Tt z1)/\(Tt z7)/\(Tt z7)/\(Tt z7)/\(Tt z7)/\(Q .ret (L2 [(6,.c (.bool (bif z7 then (o.e.kind==0) else false)))] []))) ((iB (o.kind==1) ((Tt (o.n==0))/\(Tt (o.n==0))/\(Tt (o.n==0))/\(Tt (o.n==0))/\(Tt z0)/\(Tt z0)/\(z0=true->Z1x (s,1,()))/\(z0=true->Z8G (s,1,()) < N)/\(Tt z0)/\(Tt z5)/\(Tt z5)/\(Tt z5)/\(Tt z5)/\(Tt z2)/\(Tt z2)/\(Tt z2)/\(z2=true->Zg0 (o.l,(list,()),()))/\(Tt z2)/\(Tt z2)/\z10) ((iB (o.kind==2) ((Tt (o.n==0))/\(Tt (o.n==0))/\(Tt (o.n==0))/\(Tt (o.n==0))/\(Tt z0)/\(Tt z0)/\(z0=true->Z1x (s,1,()))/\(z0=true->Z8G (s,1,()) < N)/\(Tt z0)/\(Tt z5)/\(Tt z5)/\(Tt z5)/\(Tt z5)/\(Tt z2)/\(Tt z2)/\(Tt z2)/\(z2=true->Zg0 (o.l,(list,()),()))/\(Tt z2)/\(Tt z2)/\z10) ((iB (o.kind==3) ((Tt (o.n==0))/\(Tt (o.n==0))/\(Tt (o.n==0))/\(Tt (o.n==0))/\(Tt z3)/\(Tt z3)/\(Tt z3)/\(z3=true->ZnX (list,s,()))/\(Tt z3)/\(Tt z6)/\(Tt z6)/\(Tt z6)/\(z6=true->Z1x (s,d,()))/\(z6=true->Z8G (s,d,()) < N)/\(Tt z6)/\(Q .ret (L2 [(6,.c (.bool (bif z6 then (Z3 s d) else false)))] []))) ((Q .ret (L2 [pB 6 false] []))))))))))):
  ZLY N list o d Q:=
 Eq.mpr V3 (h _ (Z7 _) _ rfl)
def ZDs(N:Nat)(list:Int)(o:Op)(d:Int):Prop:=AW (Z2 (Z9F N)) Tryz.f179 ZxO [] (Zf (ZeU.can (list,o,d,())) []) (EQ Tryz.f179 (ZjS (list,o,d,())) [])
abbrev ZER:Prop:=∀ (N:Nat) (list:Int) (o:Op) (d:Int) (_:Unit),Z4s (list,o,d,())->Zb1 (list,o,d,()) < N+1->ZDs N list o d
def ZyP:List (FuncId × Fs U):=[(78,Zfi)]
abbrev W28(e:Edit)(Q:QT):=AW (Z2 ZyP) Tryz.f28 ZGj [] (L2 [(0,.agg (enc .edit e))] []) Q
theorem ZLz(e:Edit)(Q:QT)(h:let z0:=Edit.mk e.kind (Tree.mk e.old.kind e.old.words e.old.kids) (Tree.mk e.new.kind e.new.words e.new.kids) e.words e.kids e.list e.ops;(Z1x (z0,64,()))/\(Q .ret (L2 [pB 2 (Z3 z0 64)] []))):
  W28 e Q:=
 Eq.mpr V3 h
def ZIh(e:Edit):Prop:=AW (Z2 ZyP) Tryz.f28 ZGj [] (Zf (ZsH.can (e,())) []) (EQ Tryz.f28 (ZEm (e,())) [])
theorem ZFW(c78:CT 78 Zfi)(hb:∀ (e:Edit) (_:Unit),Zqj (e,())->ZIh e):CT 28 Zfo:=
 Z1 (l:=[(78,Zfi)]) Ze rfl (⟨c78,trivial⟩) ZGj Tryz.func28 rfl rfl 1 (fun _=> rfl) V2 (fun ⟨e,_⟩=> hb e ())
theorem ZAH(ZHo:CT 121 Z5x)(ZHn:CT 122 Z5w)(ZHm:CT 123 Z5v)(Zuu:CT 125 Z2b)(ZGL:CT 216 Z5t)(ZGI:CT 219 Z5s)(ZH7:CT 169 Z5u)(b78:ZKZ)(ZHD:ZEX)(ZHC:ZEW)(ZHy:ZER):
  CT 78 Zfi/\CT 124 Zpz/\CT 126 Zpy/\CT 179 Zpu:=by
 have ae:FK 78:=⟨Tryz.f78,Tryz.func78,rfl,rfl⟩
 have aa:FK 124:=⟨Tryz.f124,Tryz.func124,rfl,rfl⟩
 have u:FK 126:=⟨Tryz.f126,Tryz.func126,rfl,rfl⟩
 have ab:FK 179:=⟨Tryz.f179,Tryz.func179,rfl,rfl⟩
 have s:∀ N,CT 78 (fs ZkZ (fun a=> [Z1x a,Z8G a < N]) Zq0)/\CT 124 (fs Z6a (fun a=> [Z4w a,Zb6 a < N]) Z6P)/\CT 126 (fs ZkZ (fun a=> [Z4v a,Zb5 a < N]) Z9f)/\CT 179 (fs ZeU (fun a=> [Z4s a,Zb1 a < N]) ZjS):=by
  intro N
  induction N with
  | zero=> exact ⟨JY ae,JY aa,JY u,JY ab⟩
  | succ N ih=>
   have kn:=Z0a (l:=Z9F N) ⟨ih.1,ih.2.1,ih.2.2.1,ih.2.2.2,ZHo,ZHn,ZHm,Zuu,ZGL,ZGI,ZH7,trivial⟩
   exact ⟨ZO (Γ:=Z2 (Z9F N)) Ze rfl kn ZG7 Tryz.func78 rfl rfl (fun a=> by show 2<=_;decide) (fun ⟨e,d,_⟩ h=> b78 N e d () h.1 h.2.1),
    ZO (Γ:=Z2 (Z9F N)) Ze rfl kn ZgT Tryz.func124 rfl rfl (fun a=> by show 2<=_;decide) (fun ⟨l,d,_⟩ h=> ZHD N l d () h.1 h.2.1),
    ZO (Γ:=Z2 (Z9F N)) Ze rfl kn ZgS Tryz.func126 rfl rfl (fun a=> by show 2<=_;decide) (fun ⟨e,d,_⟩ h=> ZHC N e d () h.1 h.2.1),
    ZO (Γ:=Z2 (Z9F N)) Ze rfl kn ZxO Tryz.func179 rfl rfl (fun a=> by show 3<=_;decide) (fun ⟨list,o,d,_⟩ h=> ZHy N list o d () h.1 h.2.1)⟩
 exact ⟨JZ ae fun N=> (s N).1,JZ aa fun N=> (s N).2.1,JZ u fun N=> (s N).2.2.1,JZ ab fun N=> (s N).2.2.2⟩
end
theorem Zte{e:Edit}:(Z3 e 1=true/\e.kind=0)↔Z1M e=true:=by
 rw [Z4M]
 simp only [Z1M,Q6,decide_eq_true_eq]
 by_cases hk:e.kind=0
 .rw [J3]
  by_cases hb:YM e.old=true/\YM e.new=true
  .by_cases hw:e.words.length=0/\e.kids.length=0
   .by_cases hl:e.list=0/\e.ops.length=0
    .have h1:e.words=[]:=QW.1 hw.1
     have u:e.kids=[]:=QW.1 hw.2
     have s:e.ops=[]:=QW.1 hl.2
     rw [if_neg (fun h=> by grind),J3,h1,u,s]
     simp only [ZL,Zw,Zz,Z1C,Z1B,QL,K4,Q6,decide_eq_true_eq]
     grind
    grind
   grind
  grind
 omega
theorem b78:ZKZ:=by
 intro N e d _ hp hN
 simp only [Z1x,Z8G] at hp hN
 obtain ⟨⟨hm,hr⟩,am,a1⟩:=hp
 obtain ⟨ik,ro,rn,ax,il,rk,aw⟩:=Z5E hr
 have a2:=YK e
 have av:=Yb e.kids
 have az:=Yo e.ops
 have u:=Z4M e d
 rw [ZrX am] at u
 refine ZLf N e d _ ?_
 rintro s al y2 ak y3 ar
 subst al ak ar
 simp only [iB,vcT,vcS,aiT,true_and]
 have ab:Z5e s=true↔¬((s.kind≠1/\¬(YM s.old=true/\YM s.new=true))\/(s.kind≠2/\¬(s.words.length=0/\s.kids.length=0))\/(s.kind≠3/\(s.list≠0\/s.ops.length≠0))):=by
  unfold Z5e
  split
  .grind
  .grind
 refine ⟨by simp only [Z9q];omega,fun hc=> Z5 rfl ?_,fun hc=> ?_⟩
 .grind
 have hb:=ab.1 hc.1
 have aj:¬(s.kind=0\/s.kind=1\/s.kind=2\/s.kind=3)->Z3 s d=false:=fun h=> by grind
 by_cases hk:s.kind=0\/s.kind=1\/s.kind=2\/s.kind=3
 .rw [J3,if_neg hb] at u
  have hw:s.kind≠2->s.words=[]/\s.kids=[]:=by
   intro h
   have:s.words.length=0/\s.kids.length=0:=Xj fun h2=> hb (Or.inr (Or.inl ⟨h,h2⟩))
   exact ⟨QW.1 this.1,QW.1 this.2⟩
  have ho:s.kind≠3->s.list=0/\s.ops=[]:=by
   intro h
   have:s.list=0/\s.ops.length=0:=by
    constructor
    .exact Xj fun h2=> hb (Or.inr (Or.inr ⟨h,Or.inl h2⟩))
    .exact Xj fun h2=> hb (Or.inr (Or.inr ⟨h,Or.inr h2⟩))
   exact ⟨this.1,QW.1 this.2⟩
  refine ⟨fun h0=> Z5 rfl ?_,fun h0=> ⟨fun h1=> ⟨by simp only [Zig];grind,fun _=> by simp only [Zig];grind,Z5 rfl ?_⟩,fun h1=> ⟨fun h2=> ⟨by simp only [Zgg];grind,fun _=> by unfold InR;omega,fun _=> by simp only [Z4w];grind,fun _=> by simp only [Zb6];omega,Z5 rfl ?_⟩,fun h2=> ⟨fun h3=> ⟨trivial,fun _=> by unfold InR;omega,fun hl=> by simp only [Z4v];grind,fun _=> by simp only [Zb5];omega,Z5 rfl ?_⟩,fun h3=> ?_⟩⟩⟩⟩
  .rw [u,J3,(hw JX).1,(hw JX).2,(ho JX).1,(ho JX).2]
   simp [ZL,Zw,Zz,Z1C,Z1B]
   omega
  .rw [u,if_pos h1,Qs]
   grind
  .rw [u,if_neg h1,(ho JX).1,(ho JX).2,Qs]
   simp only [Zz,Z1C,Z1B]
   grind
  .rw [u,if_neg h1,(hw JX).1,(hw JX).2,Qs]
   simp only [ZL,Zw]
   grind
  .omega
 .have he:=aj hk
  refine ⟨fun h0=> by omega,fun h0=> ⟨fun h1=> by omega,fun h1=> ⟨fun h2=> by omega,fun h2=> ⟨fun h3=> by omega,fun h3=> Z5 rfl ?_⟩⟩⟩⟩
  rw [he]
theorem ZHD:ZEX:=by
 intro N l d _ hp hN
 simp only [Z4w,Zb6] at hp hN
 obtain ⟨⟨hm,hr⟩,au,ay⟩:=hp
 have hl:=Yb l
 refine ZJO N l d _ ?_
 refine Zc (ι:=Int) (fun i=> Z8c l d i) (fun i=> 0<=i/\i<=l.length/\∃ s,-1<=s/\(i=0->s= -1)/\(0 < i->s=(l.getD (i - 1).toNat (KidOf.mk 0 Edit.nil)).at_)/\Zw s (l.drop i.toNat) d=Zw (-1) l d) (fun i=> ((l.length:Int) - i).toNat) 0 rfl ⟨JX,JX,-1,JX,fun _=> rfl,fun h=> by omega,by simp⟩ ?_
 rintro i ⟨g1,g2,s,g3,g4,g5,g6⟩
 refine Zvf N l d i _ _ ?_
 rintro y1 aj y2 ai y3 ae
 simp only [iB,vcT,vcS,aiT,true_and]
 refine ⟨fun hi=> ?_,fun hi=> ?_⟩
 .have u:=Zk (l:=l) (i:=i.toNat) JX (KidOf.mk 0 Edit.nil)
  have ah:=Z0n u
  have af:=Y6 hr u
  rw [YE g1 hi (KidOf.mk 0 Edit.nil)] at g6
  rw [<-aj] at g6 ah af
  rw [<-ai] at g5
  rw [<-ae] at ah af
  simp only [Zw,Z4b] at g6
  rw [<-ae] at g6
  have hk:y1.e.kind=y3.kind:=by rw [ae]
  rw [hk]
  have gl:(¬0 < i\/¬y1.at_<=y2.at_)/\¬y1.at_ < 0↔s < y1.at_/\¬y1.at_ < 0:=by
   by_cases h0:0 < i
   .have:=g5 h0;omega
   .have:=g4 JX;omega
  refine ⟨⟨g1,hi⟩,fun _=> by unfold InR;omega,fun _=> by omega,fun _=> ?_,fun _=> by simp only [Z8G];omega,fun hc=> Z5 rfl ?_,fun hc=> ⟨V1,i+1,rfl,⟨JX,JX,y1.at_,JX,fun h=> by omega,fun _=> by grind,?_⟩,JX⟩⟩
  .simp only [Z1x]
   grind
  .grind
  .rw [<-g6,hc.2,decide_eq_true (show s < y1.at_/\y1.at_<=65534/\y3.kind≠0 by
    omega)]
   try rfl
 .rw [Qc JX] at g6
  simp only [Z6P]
  rw [<-g6]
  exact Z5 rfl rfl
theorem Z8M{list d:Int}:∀ {os:List Op},(∀ o∈os,Zb list o d=true)->Zz list os d=true
 | [],_=> rfl
 | o ::r,h=> by
  simp only [Zz,Q6]
  exact ⟨h o (Q7 ..),Z8M (fun x s=> h x (Q0 _ s))⟩
theorem ZHC:ZEW:=by
 intro N e d _ hp hN
 simp only [Z4v,Zb5] at hp hN
 obtain ⟨⟨hm,hr,hl⟩,av,ay⟩:=hp
 obtain ⟨ik,ro,rn,au,il,rk,af⟩:=Z5E hr
 have a0:=YK e
 have ax:=Yo e.ops
 refine ZJM N e d _ ?_
 refine Zc (ι:=Int) (fun i=> Z8b e d i) (fun i=> 0<=i/\i<=e.ops.length/\∀ o∈e.ops.take i.toNat,Zb e.list o d=true) (fun i=> ((e.ops.length:Int) - i).toNat) 0 rfl ⟨JX,JX,by simp⟩ ?_
 rintro i ⟨g1,g2,g3⟩
 refine Zve N e d i _ _ ?_
 rintro u aj y2 ai y3 al
 subst aj al
 simp only [iB,vcT,vcS,aiT,true_and]
 refine ⟨fun hi=> ?_,fun hi=> ?_⟩
 .have s:=Zk (l:=u.ops) (i:=i.toNat) JX Op.nil
  have ah:=YJ s
  have ae:=Z0z af s
  rw [<-ai] at s ah ae
  refine ⟨⟨g1,hi⟩,?_,by simp only [Zb1];omega,fun hc=> Z5 rfl ?_,fun hc=> ⟨V1,i+1,rfl,⟨JX,JX,fun o ho=> ?_⟩,JX⟩⟩
  .simp only [Z4s]
   grind
  .have:Zz u.list u.ops d=false:=by
    rw [<-K7]
    intro h
    have:=rightOs_mem h s
    rw [hc] at this;cases this
   grind
  .rw [show (i+1).toNat=i.toNat+1 by omega,XX] at ho
   grind
 .rw [Qy JX] at g3
  have aa:Zz u.list u.ops d=true:=Z8M g3
  have hb:∀ o∈u.ops,(0<=o.n/\o.n<=1048576)/\o.l.length<=20000000000:=by
   intro o ho
   refine ⟨Z7B (g3 o ho),?_⟩
   have h1:=YJ ho
   rw [Y5] at h1
   have h2:=Zy o.l
   omega
  refine ⟨by simp only [Z9q];omega,Z5 rfl ?_⟩
  rw [Zmy _ _ hb V2 V2,Zmx _ _ hb V2 V2,aa,QL]
  grind
theorem ZHy:ZER:=by
 intro N list o d _ hp hN
 simp only [Z4s,Zb1] at hp hN
 obtain ⟨⟨hm,hr,ax⟩,ak,a2⟩:=hp
 obtain ⟨ik,a3,rl,re⟩:=Jr hr
 rw [Y5] at hm hN
 have a6:=Zy o.l
 have aw:=Z3f o.e
 have ab:=JW list o d
 rw [ZrX ak,ZbW] at ab
 have hs:=Zte (e:=o.e)
 refine ZJj N list o d _ ?_
 rintro y1 aj y2 ai
 subst aj
 simp only [iB,vcT,vcS,aiT,true_and]
 have u:Z1x (o.e,1,()):=by simp only [Z1x];exact ⟨⟨JX,re⟩,JX,JX⟩
 have s:Z8G (o.e,1,()) < N:=by simp only [Z8G];omega
 have aa:Zg0 (o.l,(list,()),()):=by simp only [Zg0];exact ⟨JX,rl,V1⟩
 have ae:o.kind=1\/o.kind=2->y2= .bool (Zb list o d):=by
  intro hk
  rw [ai,ab,J3]
  congr 1
  rw [Qs]
  (simp only [iB,vcS])
  by_cases hn:o.n=0
  .rw [J3,Jq]
   (simp only [iB,vcS])
   constructor
   .rintro ⟨⟨⟨⟨h1,h2⟩,h3⟩,h4⟩,h5⟩
    exact ⟨⟨h5,JX⟩,hs.1 ⟨h3,h4⟩⟩
   .rintro ⟨⟨h5,h2⟩,h3⟩
    have:=hs.2 h3
    exact ⟨⟨⟨⟨hn,JX⟩,this.1⟩,this.2⟩,h5⟩
  .rw [Jq]
   exact ⟨fun h=> absurd h.1.1.1.1 hn,fun h=> (nomatch h)⟩
 refine ⟨fun hk=> ⟨fun _=> u,fun _=> s,Z5 rfl ?_⟩,fun hk=> ⟨fun af=> ⟨fun _=> u,fun _=> s,fun _=> aa,?_⟩,fun af=> ⟨fun ah=> ⟨fun _=> u,fun _=> s,fun _=> aa,?_⟩,fun ah=> ⟨fun am=> ⟨fun _=> trivial,fun _=> ?_,fun _=> by simp only [Z8G];omega,Z5 rfl ?_⟩,fun am=> Z5 rfl ?_⟩⟩⟩⟩
 .grind
 .rw [ae (Or.inl af)]
  trivial
 .rw [ae (Or.inr ah)]
  trivial
 .simp only [Z1x];grind
 .rw [ab,if_neg hk,Qs]
  by_cases hn:o.n=0
  .rw [J3,J3]
   have hw:Z28 list o.e=true↔(o.e.kind≠0/\7 < list)/\(list=8\/o.e.kind=2\/o.e.kind=1/\o.e.old.kind=1/\o.e.new.kind=1):=by
    unfold Z28
    split
    .grind
    .grind
   grind
  grind
 grind
theorem ZLJ:Contract Tryz.prog cfg 78 Zfi/\Contract Tryz.prog cfg 124 Zpz/\Contract Tryz.prog cfg 126 Zpy/\Contract Tryz.prog cfg 179 Zpu:=
 ZAH ZHo ZHn ZHm Zuu ZGL ZGI ZH7 b78 ZHD ZHC ZHy
theorem c28:Contract Tryz.prog cfg 28 Zfo:=by
 refine ZFW ZLJ.1 ?_
 intro e _ h
 simp only [Zqj] at h
 refine ZLz _ _ ?_
 (simp only [vE])
 refine ⟨by simp only [Z1x];grind,?_⟩
 trivial
noncomputable section
def ZpZ(a:Edit × Edit × Unit):V U:= .tup [(true,(enc .edit ((Z24 a.1 a.2.1).1))),(false,[.bool ((Z24 a.1 a.2.1).2)])]
def Zfk:Fs U:=fs Z37 (fun a=> [Z2A a]) ZpZ
def ZyE:List (FuncId × Fs U):=[(111,Z7x),(67,Z0h)]
abbrev A71(p:List Nat):=AW (Z2 ZyE) Tryz.f71 ZGl p
theorem ZLj(p q:Edit)(Q:QT)(h:∀ s,s=p->∀ u,u=q->∀ aa,aa=((Yt s u).1)->((Z2A (s,u,()))/\(iB (!((Yt s u).2)) ((Q .ret (L2 [pL 4,pB 5 false] [(.loc 4,zc1)]))) ((Z1g (aa,()))/\(Q .ret (L2 [pL 4,pB 5 true] [(.loc 4,(enc .edit (Zj aa)))])))))):
  A71 [] (L2 [(0,.agg (enc .edit p)),(1,.agg (enc .edit q))] []) Q:=
 Eq.mpr V3 (h _ (Z7 _) _ (Z7 _) _ (Z7 _))
def ZI1(p q:Edit):Prop:=AW (Z2 ZyE) Tryz.f71 ZGl [] (Zf (Z37.can (p,q,())) []) (EQ Tryz.f71 (ZpZ (p,q,())) [])
theorem ZFJ(ZHq:CT 111 Z7x)(c67:CT 67 Z0h)(hb:∀ (p:Edit) (q:Edit) (_:Unit),Z2A (p,q,())->ZI1 p q):CT 71 Zfk:=
 Z1 (l:=[(111,Z7x),(67,Z0h)]) Ze rfl (⟨ZHq,c67,trivial⟩) ZGl Tryz.func71 rfl rfl 2 (fun _=> rfl) V2 (fun ⟨p,q,_⟩=> hb p q ())
end
theorem Zev{e:Edit}(h:Y4 e):Wk e:=by obtain ⟨d,s⟩:=h.2.2;exact .of s h.2.1
theorem Z8v{p q:Edit}(hp:Y4 p)(hq:Y4 q):ComWk True (Yt p q) p q:=ZGA _ p q (Qb _) (Zev hp) (Zev hq)
theorem ZCj{p q:Edit}(hp:Y4 p)(hq:Y4 q)(h:(Yt p q).2=true):Z1g ((Yt p q).1,()):=by
 have H:=Z8v hp hq
 have:=H.ct trivial h
 have:=ZeF (Yt p q).1
 have:=hp.1
 have:=hq.1
 exact ⟨by grind,-1,(H.wk h).r⟩
theorem c71:Contract Tryz.prog cfg 71 Zfk:=by
 refine ZFJ ZHq Zhl.1 ?_
 intro p q _ h
 refine ZLj _ _ _ ?_
 intro y1 u y2 h2 y3 s
 subst u h2
 (simp only [iB,vcT,vcS])
 refine ⟨h,fun hc=> ?_,fun hc=> ?_⟩
 .refine Z0d (r':= .tup [(true,enc .edit Edit.nil),(false,[.bool false])]) ?_ V0
  simp only [ZpZ,Z24]
  rw [if_neg (by grind)]
  try rfl
 .refine ⟨by rw [s];exact ZCj h.1 h.2 hc,Z0d (r':= .tup [(true,enc .edit (Zj y3)),(false,[.bool true])]) ?_ V0⟩
  simp only [ZpZ,Z24]
  rw [if_pos hc,s]
  try rfl
theorem ZfU:Y4 Edit.nil:=by
 refine ⟨V2,?_,1,ZtG⟩
 exact ⟨Yk V2 V2,Z06,Z06,by grind,Yk V2 V2,trivial,trivial⟩
theorem Zoa{r:Bool}{e:Edit}{t:Tree}(hr:∃ d,Z3 e d=true)(ht:Zo t+ctE e<=200000000000):Zo (Z1h (doE r e t))<=1000000000000:=by
 cases h:doE r e t with
 | none=> trivial
 | some u=> exact ZmY hr ht h
theorem Zo9(o:Option Tree):Z1h (o.map Z0)=Z0 (Z1h o):=by cases o;exact Ziq.symm;rfl
mutual
theorem Z2c:∀ t:Tree,Zo t<=17592186044416->Z3q t
 | .mk k w ks,h=> by
  simp only [Zo] at h
  have:=Zy ks
  exact ⟨JX,JX,Z3o ks JX⟩
theorem Z3o:∀ l:List Tree,Zg l<=17592186044416->Z3p l
 | [],_=> trivial
 | t ::r,h=> by
  simp only [Zg] at h
  exact ⟨Z2c t JX,Z3o r JX⟩
end
theorem Zog{e:Edit}{t:Tree}(hr:∃ d,Z3 e d=true)(ht:Zo t+ctE e<=200000000000):Zo (Z1h ((doE false e t).map Z0))<=1000000000000:=by
 rw [Zo9]
 exact QF (Ym _) (Zoa hr ht)
noncomputable section
def ZiG(w:WEdit)(m:Int):WEdit × Bool:=
 (⟨w.at_,Z0Y m w.mask,mix 0 w.old (Z0Y m w.mask),mix 0 w.new (Z0Y m w.mask)⟩,decide (Z0Y m w.mask≠0))
def J4(p q:WEdit):Bool:=decide (mix 0 p.old (Z0Y p.mask q.mask)≠mix 0 q.old (Z0Y p.mask q.mask))
def Z12(p q:WEdit):Bool:=decide (mix 0 p.new (Z0Y p.mask q.mask)≠mix 0 q.new (Z0Y p.mask q.mask))
def Z5X(l:List Tree):List Op:=if l=[] then [] else [⟨2,0,l,Edit.nil⟩]
def Z6b(e:Edit):Op:=if e.kind=0 then ⟨0,1,[],Edit.nil⟩ else ⟨3,0,[],e⟩
end
end Go.AM.YtpjenobkibfpcaaGreat
namespace Go.AM
instance:Inhabited PStep:=⟨⟨0,0⟩⟩
def Z0F(n:Int):List Op:=if n=0 then [] else [⟨0,n,[],Edit.nil⟩]
def ZEy(s:PStep)(t:Tree):Prop:=s.kind=0/\0<=s.at_/\(t.kind=1/\s.at_ < 65535\/(2<=t.kind/\t.kind<=9)/\s.at_ < t.kids.length)
instance (s:PStep) (t:Tree):Decidable (ZEy s t):=by unfold ZEy;infer_instance
end Go.AM
namespace Go.AM.YtpjenobkibfpcaaGreat
open Go.AM Go.Proofs
noncomputable section
structure Lft where
 x:Edit
 y:Edit
 c:Bool
 a:Bool
def Z6l(m:Int):Int:=IntKind.wrap .u8 (BitVec.ofInt (IntKind.bits .u8) 255 ^^^ BitVec.ofInt (IntKind.bits .u8) m).toNat
def Z3P{α:Type}(at_:α->Int)(l:List α)(n:Int):Option α:=l.foldl (fun o b=> if at_ b=n then some b else o) none
def YX{α:Type}(at_:α->Int)(f:α->α->α)(q:List α)(a:α):α:=match Z3P at_ q (at_ a) with
 | some b=> f a b
 | none=> a
def Z0w{α:Type}(at_:α->Int)(g:α->α->Bool)(p q:List α):Bool:=p.any fun a=> q.any fun b=> decide (at_ a=at_ b) && g a b
def Z1D(a b:WEdit):WEdit:=(ZiG a (Z6l b.mask)).1
def Z4H(e:Edit):Edit:=
 if (e.words.filter fun w=> !decide (w.mask=0)).length+(e.kids.filter fun k=> !decide (k.e.kind=0)).length=0 then Edit.nil
 else .mk e.kind e.old e.new (e.words.filter fun w=> !decide (w.mask=0)) (e.kids.filter fun k=> !decide (k.e.kind=0)) e.list e.ops
def Z11(e:Edit)(o n:Tree):Lft:=⟨Edit.nil,Edit.nil,(doB e o).2 && !Yf (Z0 (doB e o).1) (Z0 n),!(doB e o).2⟩
def Z6k(f:Edit->Edit->Lft)(p q:Edit):Lft:=
 ⟨Z4H (.mk 2 Tree.nil Tree.nil (p.words.map (YX WEdit.at_ Z1D q.words)) (p.kids.map (YX KidOf.at_ (fun a b=> ⟨a.at_,(f a.e b.e).x⟩) q.kids)) 0 []),
  Z4H (.mk 2 Tree.nil Tree.nil (q.words.map (YX WEdit.at_ Z1D p.words)) (q.kids.map (YX KidOf.at_ (fun b a=> ⟨b.at_,(f a.e b.e).y⟩) p.kids)) 0 []),
  Z0w WEdit.at_ (fun a b=> !J4 a b && Z12 a b) p.words q.words || Z0w KidOf.at_ (fun a b=> (f a.e b.e).c) p.kids q.kids,
  Z0w WEdit.at_ J4 p.words q.words || Z0w KidOf.at_ (fun a b=> (f a.e b.e).a) p.kids q.kids⟩
structure PL where
 x:List Op
 y:List Op
 c:Bool
 a:Bool
def PL.app(s t:PL):PL:=⟨s.x++t.x,s.y++t.y,s.c || t.c,s.a || t.a⟩
def Z0r(m h:List Tree):PL:=
 if m≠[]/\h≠[] then ⟨Z0F h.length,Z0F m.length,!Z2Y m h,false⟩
 else ⟨Z5X m++Z0F h.length,Z0F m.length++Z5X h,false,false⟩
def ZP(f:Edit->Edit->Lft)(p q:Op):PL:=
 if p.kind=0/\q.kind=1 then ⟨[],[q],false,false⟩
 else if p.kind=1/\q.kind=0 then ⟨[p],[],false,false⟩
 else if p.kind=0 then ⟨[⟨0,if q.n < 1 then 1 else q.n,[],Edit.nil⟩],[q],false,false⟩
 else if q.kind=0 then ⟨[p],[⟨0,1,[],Edit.nil⟩],false,false⟩
 else if p.kind=1/\q.kind=1 then ⟨[],[],false,!Z2Y p.l q.l⟩
 else if p.kind=1 then ⟨[],[],true,!(doE false q.e (p.l.getD 0 Tree.nil)).isSome⟩
 else if q.kind=1 then ⟨[],[],true,!(doE false p.e (q.l.getD 0 Tree.nil)).isSome⟩
 else ⟨[Z6b (f p.e q.e).x],[Z6b (f p.e q.e).y],(f p.e q.e).c,(f p.e q.e).a⟩
def Z2m(f:Edit->Edit->Lft):List Piece->List Tree->List Tree->PL
 | [],m,h=> Z0r m h
 | x ::r,m,h=>
  if x.of=1 then Z2m f r (m++x.p.l) h
  else if x.of=2 then Z2m f r m (h++x.q.l)
  else ((Z0r m h).app (ZP f x.p x.q)).app (Z2m f r [] [])
def Z1w(list:Int)(l:List Op):Edit:=if (l.any fun o=> !decide (o.kind=0))=true then .mk 3 Tree.nil Tree.nil [] [] list l else Edit.nil
def Z4V(f:Edit->Edit->Lft)(p q:Edit):Lft:=
 if (ZA 2 2 p.ops q.ops []).2.1=true then
  ⟨Z1w p.list (Z2m f (ZA 2 2 p.ops q.ops []).1 [] []).x,Z1w p.list (Z2m f (ZA 2 2 p.ops q.ops []).1 [] []).y,(Z2m f (ZA 2 2 p.ops q.ops []).1 [] []).c,(Z2m f (ZA 2 2 p.ops q.ops []).1 [] []).a⟩
 else ⟨Edit.nil,Edit.nil,false,true⟩
def YW(f:Edit->Edit->Lft)(p q:Edit):Lft:=
 if p.kind=0\/q.kind=0 then ⟨p,q,false,false⟩
 else if p.kind=1 then Z11 q p.old p.new
 else if q.kind=1 then Z11 p q.old q.new
 else if p.kind≠q.kind\/p.list≠q.list then ⟨Edit.nil,Edit.nil,false,true⟩
 else if p.kind=2 then Z6k f p q
 else Z4V f p q
def lbF:Nat->Edit->Edit->Lft
 | 0,_,_=> ⟨Edit.nil,Edit.nil,false,false⟩
 | n+1,p,q=> YW (lbF n) p q
def lbE(p q:Edit):Lft:=lbF (Z8 p+Z8 q) p q
def lbN(p q:Edit):Edit × Edit × Int:=
 if (lbE (Zj p) (Zj q)).a=true then (Edit.nil,Edit.nil,14)
 else if (lbE (Zj p) (Zj q)).c=true then (Edit.nil,Edit.nil,13)
 else (Zj (lbE (Zj p) (Zj q)).x,Zj (lbE (Zj p) (Zj q)).y,0)
def JL{α:Type}(f:α->Bool):List α->Int->Int
 | [],_=> -1
 | a ::r,i=> if f a=true then i else JL f r (i+1)
end
structure POk2 (p q:List Op) (x:Piece):Prop where
 of:x.of=0\/x.of=1\/x.of=2
 pp:x.of≠2->Part p x.p/\ZX x.p
 qq:x.of≠1->Part q x.q/\ZX x.q
 one:x.of=1->x.p.kind=2
 two:x.of=2->x.q.kind=2
 both:x.of=0->x.p.kind≠2/\x.q.kind≠2/\Z4 x.p=Z4 x.q
 pn:x.of=2->x.p=Op.nil
 qn:x.of=1->x.q=Op.nil
theorem POk2.mono{p q p' q':List Op}{x:Piece}(h:POk2 p q x)(hp:∀ x∈p,Part p' x)(hq:∀ x∈q,Part q' x):POk2 p' q' x:=
 ⟨h.of,fun e=> ⟨(h.pp e).1.mono hp,(h.pp e).2⟩,fun e=> ⟨(h.qq e).1.mono hq,(h.qq e).2⟩,h.one,h.two,h.both,h.pn,h.qn⟩
theorem Zik:∀ (k:Nat) (p q:List Op) (out:List Piece),p.length+q.length<=k->(∀ o∈p,ZX o)->(∀ o∈q,ZX o)->
  ((ZA 2 2 p q out).2.1=true->∃ ps,(ZA 2 2 p q out).1=out++ps/\(∀ x∈ps,POk2 p q x)/\(∀ s m,Run p s m↔Run (Z1e ps) s m)/\∀ s m,Run q s m↔Run (Z1d ps) s m)/\
  ((ZA 2 2 p q out).2.1=false->∀ s u v,Run p s u->Run q s v->False):=by
 intro k
 induction k with
 | zero=>
  intro p q out hk hp hq
  have e1:p=[]:=Q5 JX
  have e2:q=[]:=Q5 JX
  subst e1 e2
  have e:ZA 2 2 [] [] out=(out,true,[],[]):=by
   rw [ZA,dif_neg (by simp [sgl]),dif_neg (by simp [sgl]),dif_pos (by simp)]
   try rfl
  rw [e]
  exact ⟨fun _=> ⟨[],by simp,fun x hx=> (by cases hx),fun s m=> QN,fun s m=> QN⟩,fun h=> by cases h⟩
 | succ k ih=>
  intro p q out hk hp hq
  rw [ZA]
  by_cases h1:sgl 2 p=true
  .rw [dif_pos h1]
   obtain ⟨g1,g2⟩:=Yw.1 h1
   cases p with
   | nil=> grind
   | cons a p'=>
    simp only [Qh] at g2
    simp only [Qh,Qw,QM]
    have ha:=hp a Q7
    obtain ⟨i1,i2⟩:=ih p' q (out++[⟨1,a,Op.nil⟩]) (by grind) (fun o ho=> hp o (Q0 _ ho)) hq
    refine ⟨fun h=> ?_,fun h s u v r1 r2=> ?_⟩
    .obtain ⟨ps,e,af,hP,hQ⟩:=i1 h
     refine ⟨⟨1,a,Op.nil⟩ ::ps,by grind,fun x hx=> ?_,fun s m=> ?_,fun s m=> hQ s m⟩
     .rcases Qa.1 hx with rfl | hx
      .exact ⟨.inr (.inl rfl),fun _=> ⟨Part.self Q7,ha⟩,fun e=> absurd rfl e,fun _=> g2,fun e=> (by cases e),fun e=> (by cases e),fun e=> (by cases e),fun _=> rfl⟩
      .exact (af x hx).mono (fun x hx=> Part.self (Q0 _ hx)) (fun x hx=> Part.self hx)
     .show _↔Run (a ::Z1e ps) s m
      exact Z1f hP (ZH ha) s m
    .obtain ⟨d',_,hr⟩:=(ZY g2).1 r1
     grind
  .rw [dif_neg h1]
   by_cases h2:sgl 2 q=true
   .rw [dif_pos h2]
    obtain ⟨g1,g2⟩:=Yw.1 h2
    cases q with
    | nil=> grind
    | cons a q'=>
     simp only [Qh] at g2
     simp only [Qh,Qw,QM]
     have ha:=hq a Q7
     obtain ⟨i1,i2⟩:=ih p q' (out++[⟨2,Op.nil,a⟩]) (by grind) hp (fun o ho=> hq o (Q0 _ ho))
     refine ⟨fun h=> ?_,fun h s u v r1 r2=> ?_⟩
     .obtain ⟨ps,e,af,hP,hQ⟩:=i1 h
      refine ⟨⟨2,Op.nil,a⟩ ::ps,by grind,fun x hx=> ?_,fun s m=> hP s m,fun s m=> ?_⟩
      .rcases Qa.1 hx with rfl | hx
       .exact ⟨.inr (.inr rfl),fun e=> absurd rfl e,fun _=> ⟨Part.self Q7,ha⟩,fun e=> (by cases e),fun _=> g2,fun e=> (by cases e),fun _=> rfl,fun e=> (by cases e)⟩
       .exact (af x hx).mono (fun x hx=> Part.self hx) (fun x hx=> Part.self (Q0 _ hx))
      .show _↔Run (a ::Z1d ps) s m
       exact Z1f hQ (ZH ha) s m
     .obtain ⟨d',_,hr⟩:=(ZY g2).1 r2
      grind
   .rw [dif_neg h2]
    by_cases h3:p.length=0\/q.length=0
    .rw [dif_pos h3]
     by_cases h4:p.length=0
     .have e1:p=[]:=Q5 h4
      subst e1
      by_cases h5:q.length=0
      .have e2:q=[]:=Q5 h5
       subst e2
       rw [if_pos rfl]
       exact ⟨fun _=> ⟨[],by simp,fun x hx=> (by cases hx),fun s m=> QN,fun m d=> QN⟩,fun h=> by cases h⟩
      .rw [if_neg (by grind)]
       refine ⟨fun h=> (by cases h),fun _ s u v r1 r2=> ?_⟩
       cases q with
       | nil=> exact h5 rfl
       | cons a q'=>
        have ha:=hq a Q7
        obtain ⟨rfl,_⟩:=Zr r1
        obtain ⟨m1,m',d',e,hl,_⟩:=Z5B ha (fun e=> h2 (Yw.2 ⟨by simp,by simpa using e⟩)) r2
        have:=ZJ ha
        have e:=congrArg List.length e
        grind
     .have h5:q.length=0:=JX
      have e2:q=[]:=Q5 h5
      subst e2
      rw [if_neg (by grind)]
      refine ⟨fun h=> (by cases h),fun _ s u v r1 r2=> ?_⟩
      cases p with
      | nil=> exact h4 rfl
      | cons a p'=>
       have ha:=hp a Q7
       obtain ⟨rfl,_⟩:=Zr r2
       obtain ⟨m1,m',d',e,hl,_⟩:=Z5B ha (fun e=> h1 (Yw.2 ⟨by simp,by simpa using e⟩)) r1
       have:=ZJ ha
       have e:=congrArg List.length e
       grind
    .rw [dif_neg h3]
     cases p with
     | nil=> simp at h3
     | cons a p'=>
      cases q with
      | nil=> simp at h3
      | cons b q'=>
       have ha:=hp a Q7
       have hb:=hq b Q7
       have ka:a.kind≠2:=fun e=> h1 (Yw.2 ⟨by simp,by simpa using e⟩)
       have kb:b.kind≠2:=fun e=> h2 (Yw.2 ⟨by simp,by simpa using e⟩)
       have la:=ZJ ha
       have lb:=ZJ hb
       simp only [Qh]
       generalize hn:min (Z4 a) (Z4 b)=n
       have ao:1<=n:=JX
       have ax:n<=Z4 a:=JX
       have a0:n<=Z4 b:=JX
       obtain ⟨a1,a2,a3,a4,a5,a6⟩:=Z2i hp ao ax
       obtain ⟨b1,b2,b3,b4,b5,b6⟩:=Z2i hq ao a0
       have aw:(ZF (a ::p') n).length+(ZF (b ::q') n).length<=k:=by
        have x1:=Yi (a ::p') n (by simp)
        have x2:=Yi (b ::q') n (by simp)
        simp only [Qm] at hk x1 x2
        rcases Kp (Z4 a) (Z4 b) with h | h
        .have:=Yh (a ::p') n (by simp) (by grind)
         grind
        .have:=Yh (b ::q') n (by simp) (by grind)
         grind
       obtain ⟨i1,i2⟩:=ih (ZF (a ::p') n) (ZF (b ::q') n) (out++[⟨0,ZB a n,ZB b n⟩]) aw (fun o ho=> (a5 o ho).1) (fun o ho=> (b5 o ho).1)
       refine ⟨fun h=> ?_,fun h s u v r1 r2=> ?_⟩
       .obtain ⟨ps,e,af,hP,hQ⟩:=i1 h
        refine ⟨⟨0,ZB a n,ZB b n⟩ ::ps,by grind,fun x hx=> ?_,fun s m=> ?_,fun s m=> ?_⟩
        .rcases Qa.1 hx with rfl | hx
         .exact ⟨.inl rfl,fun _=> ⟨a4,a1⟩,fun _=> ⟨b4,b1⟩,fun e=> (by cases e),fun e=> (by cases e),fun _=> ⟨by grind,by grind,by grind⟩,fun e=> (by cases e),fun e=> (by cases e)⟩
         .exact (af x hx).mono (fun x hx=> (a5 x hx).2) (fun x hx=> (b5 x hx).2)
        .rw [a6 s m]
         exact Z1f hP (ZH a1) s m
        .rw [b6 s m]
         exact Z1f hQ (ZH b1) s m
       .rw [a6] at r1
        rw [b6] at r2
        obtain ⟨m1,s1,d1,e,hl,r3⟩:=Z5B a1 JX r1
        obtain ⟨m2,s2,d2,e',bm,r4⟩:=Z5B b1 JX r2
        obtain ⟨_,e2⟩:=XP (e.symm.trans e') JX
        grind
theorem Z5V{α:Type}(at_:α->Int)(n:Int):∀ (l:List α) (o:Option α),l.foldl (fun o b=> if at_ b=n then some b else o) o=match Z3P at_ l n with
  | some b=> some b
  | none=> o
 | [],o=> rfl
 | a ::r,o=> by
  unfold Z3P
  simp only [Ke]
  rw [Z5V at_ n r,Z5V at_ n r (if at_ a=n then some a else none)]
  grind
theorem Z4Y{α:Type}(at_:α->Int)(n:Int):∀ (l:List α) (b:α),Z3P at_ l n=some b->b∈l/\at_ b=n
 | [],b,h=> by cases h
 | a ::r,b,h=> by
  unfold Z3P at h
  rw [Ke,Z5V] at h
  cases hr:Z3P at_ r n with
  | some c=>
   rw [hr] at h;cases h
   obtain ⟨u,s⟩:=Z4Y at_ n r b hr
   grind
  | none=>
   grind
theorem Z64{α:Type}{at_:α->Int}{f g:α->α->α}{q:List α}{a:α}(h:∀ b∈q,f a b=g a b):YX at_ f q a=YX at_ g q a:=by
 unfold YX
 cases hb:Z3P at_ q (at_ a) with
 | none=> rfl
 | some b=> exact h b (Z4Y at_ _ q b hb).1
theorem Zhs{α:Type}{at_:α->Int}{f g:α->α->Bool}{p q:List α}(h:∀ a∈p,∀ b∈q,f a b=g a b):Z0w at_ f p q=Z0w at_ g p q:=by
 unfold Z0w
 grind
theorem Zu6{p q:List Op}{x:Piece}(hx:POk2 p q x)(h0:x.of=0)(kp:x.p.kind=3)(kq:x.q.kind=3):∃ a∈p,∃ b∈q,a.kind=3/\b.kind=3/\x.p.e=a.e/\x.q.e=b.e:=by
 obtain ⟨⟨a,ma,h,ea,_⟩,_⟩:=hx.pp JX
 obtain ⟨⟨b,mb,s,u,_⟩,_⟩:=hx.qq JX
 grind
theorem Zki{f g:Edit->Edit->Lft}{p q:Op}(h:p.kind=3->q.kind=3->f p.e q.e=g p.e q.e)(hp:kOk p)(hq:kOk q)(p2:p.kind≠2)(q2:q.kind≠2):ZP f p q=ZP g p q:=by
 unfold ZP
 by_cases h1:p.kind=0/\q.kind=1
 .grind
 by_cases h2:p.kind=1/\q.kind=0
 .grind
 by_cases h3:p.kind=0
 .grind
 by_cases h4:q.kind=0
 .grind
 rw [if_neg h1,if_neg h1,if_neg h2,if_neg h2,if_neg h3,if_neg h3,if_neg h4,if_neg h4]
 by_cases h5:p.kind=1/\q.kind=1
 .grind
 by_cases h6:p.kind=1
 .grind
 by_cases h7:q.kind=1
 .grind
 have u:p.kind=3:=by unfold kOk at hp;omega
 have s:q.kind=3:=by unfold kOk at hq;omega
 rw [h u s]
theorem Zgo{f g:Edit->Edit->Lft}{p q:List Op}(h:∀ a∈p,∀ b∈q,a.kind=3->b.kind=3->f a.e b.e=g a.e b.e):∀ {ps:List Piece},(∀ x∈ps,POk2 p q x)->∀ m n,Z2m f ps m n=Z2m g ps m n
 | [],_,_,_=> rfl
 | x ::r,hps,m,n=> by
  have ih:=fun m n=> Zgo h (fun y hy=> hps y (Q0 _ hy)) (ps:=r) m n
  have s:=hps x Q7
  simp only [Z2m,ih]
  by_cases h1:x.of=1
  .grind
  by_cases h2:x.of=2
  .grind
  have u:x.of=0:=by rcases s.of with h | h | h <;> omega
  obtain ⟨b1,b2,_⟩:=s.both u
  rw [if_neg h1,if_neg h1,if_neg h2,if_neg h2,Zki (f:=f) (g:=g) (fun kp kq=> ?_) (ZH (s.pp h2).2) (ZH (s.qq h1).2) b1 b2]
  obtain ⟨a,ma,b,mb,ka,kb,ea,eb⟩:=Zu6 s u kp kq
  grind
theorem Zbg {f g:Edit->Edit->Lft} {p q:Edit} {d d':Int} (hp:Z3 p d=true) (hq:Z3 q d'=true)
  (h:∀ a b,Z8 a+Z8 b < Z8 p+Z8 q->(∃ d,Z3 a d=true)->(∃ d,Z3 b d=true)->f a b=g a b):YW f p q=YW g p q:=by
 have rp:=Zh hp
 have rq:=Zh hq
 have hk:∀ a∈p.kids,∀ b∈q.kids,f a.e b.e=g a.e b.e:=by
  intro a u b s
  have:=Yd u
  have:=Yd s
  exact h _ _ JX ⟨_,(Zs rp.kids a u).2⟩ ⟨_,(Zs rq.kids b s).2⟩
 have hs:Z6k f p q=Z6k g p q:=by
  unfold Z6k
  rw [Zhs (at_:=KidOf.at_) (f:=fun a b:Kid=> (f a.e b.e).c) (g:=fun a b=> (g a.e b.e).c) fun a u b s=> by rw [hk a u b s],
   Zhs (at_:=KidOf.at_) (f:=fun a b:Kid=> (f a.e b.e).a) (g:=fun a b=> (g a.e b.e).a) fun a u b s=> by rw [hk a u b s],
   XA (f:=YX KidOf.at_ (fun a b:Kid=> ⟨a.at_,(f a.e b.e).x⟩) q.kids) (g:=YX KidOf.at_ (fun a b:Kid=> ⟨a.at_,(g a.e b.e).x⟩) q.kids) fun a u=> Z64 fun b s=> by rw [hk a u b s],
   XA (f:=YX KidOf.at_ (fun b a:Kid=> ⟨b.at_,(f a.e b.e).y⟩) p.kids) (g:=YX KidOf.at_ (fun b a:Kid=> ⟨b.at_,(g a.e b.e).y⟩) p.kids) fun b s=> Z64 fun a u=> by rw [hk a u b s]]
 have ho:Z4V f p q=Z4V g p q:=by
  unfold Z4V
  obtain ⟨i1,_⟩:=Zik _ p.ops q.ops [] (Qb _) (Y3 hp) (Y3 hq)
  by_cases s:(ZA 2 2 p.ops q.ops []).2.1=true
  .rw [if_pos s,if_pos s]
   obtain ⟨ps,e,ab,_,_⟩:=i1 s
   rw [e,Qt,Zgo (f:=f) (g:=g) (fun a u b s ka kb=> ?_) ab]
   have:=YV u
   have:=YV s
   exact h _ _ JX ⟨_,YH (rightOs_mem rp.ops u) ka⟩ ⟨_,YH (rightOs_mem rq.ops s) kb⟩
  .grind
 unfold YW
 rw [hs,ho]
theorem ZmB:∀ (n m:Nat) (p q:Edit) (d s:Int),Z3 p d=true->Z3 q s=true->Z8 p+Z8 q<=n->n<=m->lbF m p q=lbF n p q:=by
 intro n
 induction n with
 | zero=> intro m p q d s _ _ h;obtain ⟨k,o,nw,w,ks,l,os⟩:=p;simp only [Z8] at h;omega
 | succ n ih=>
  intro m p q d s hp hq h hm
  obtain ⟨m,rfl⟩:∃ k,m=k+1:=⟨m - 1,JX⟩
  show YW (lbF m) p q=YW (lbF n) p q
  exact Zbg hp hq fun a b u ⟨d1,h1⟩ ⟨d2,h2⟩=> ih m a b d1 d2 h1 h2 JX JX
theorem Zyv{p q:Edit}{d d':Int}(hp:Z3 p d=true)(hq:Z3 q d'=true):lbE p q=YW lbE p q:=by
 have e:lbE p q=lbF (Z8 p+Z8 q+1) p q:=(ZmB _ _ p q d d' hp hq (Qb _) JX).symm
 rw [e]
 show YW (lbF (Z8 p+Z8 q)) p q=YW lbE p q
 exact Zbg hp hq fun a b s ⟨u,h⟩ ⟨d2,h2⟩=> ZmB _ _ a b u d2 h h2 (Qb _) JX
section
variable {α:Type} {at_:α->Int}
theorem ZgO{β:Type}{F G:Nat->α->β}{l:List α}{i:Nat}{v:β}(hF:∀ k a,k≠i->l[k]?=some a->F k a=G k a)(hv:∀ a,l[i]?=some a->G i a=v):(l.mapIdx F).set i v=l.mapIdx G:=by
 apply XD
 grind
theorem JR{β:Type}{F G:Nat->α->β}{l:List α}(hF:∀ k a,l[k]?=some a->F k a=G k a):l.mapIdx F=l.mapIdx G:=by
 apply XD
 grind
theorem Z5T{β:Type}(F:α->β)(l:List α):l.mapIdx (fun _ a=> F a)=l.map F:=by
 apply XD
 grind
def ZCg(at_:α->Int)(f:α->α->α)(p q:List α)(i j:Nat):List α:=p.mapIdx fun k a=> if k < i then YX at_ f q a else if k=i then YX at_ f (q.take j) a else a
def ZCf(at_:α->Int)(f:α->α->α)(p q:List α)(i j:Nat):List α:=q.mapIdx fun k b=> YX at_ f (p.take (if k < j then i+1 else i)) b
def Ze0(at_:α->Int)(g:α->α->Bool)(p q:List α)(i j:Nat):Bool:=Z0w at_ g (p.take i) q || Z0w at_ g ((p.drop i).take 1) (q.take j)
theorem Z8u(f:α->α->α)(q:List α)(b a:α):YX at_ f (q++[b]) a=if at_ b=at_ a then f a b else YX at_ f q a:=by
 unfold YX Z3P
 grind
theorem Z1F{f:α->α->α}(hf:∀ a b,at_ (f a b)=at_ a)(q:List α)(a:α):at_ (YX at_ f q a)=at_ a:=by
 unfold YX
 grind
theorem getD_some{l:List α}{i:Nat}{a:α}(h:l[i]?=some a)(z:α):l.getD i z=a:=by grind
structure SInv (at_:α->Int) (f fy:α->α->α) (gc ga:α->α->Bool) (mc ma:Bool) (p q:List α) (i j:Nat) (c a:Bool) (X Y:List α):Prop where
 ec:c=(mc || Ze0 at_ gc p q i j)
 ea:a=(ma || Ze0 at_ ga p q i j)
 eX:X=ZCg at_ f p q i j
 eY:Y=ZCf at_ fy p q i j
variable {f fy:α->α->α} {gc ga:α->α->Bool} {mc ma:Bool} {p q:List α} {i j:Nat} {c a:Bool} {X Y:List α}
theorem SInv.lx(h:SInv at_ f fy gc ga mc ma p q i j c a X Y):X.length=p.length:=by rw [h.eX];exact List.length_mapIdx
theorem SInv.ly(h:SInv at_ f fy gc ga mc ma p q i j c a X Y):Y.length=q.length:=by rw [h.eY];exact List.length_mapIdx
theorem SInv.init:SInv at_ f fy gc ga mc ma p q 0 0 mc ma p q:=by
 refine ⟨?_,?_,?_,?_⟩
 .cases p <;> simp [Ze0,Z0w]
 .cases p <;> simp [Ze0,Z0w]
 .unfold ZCg
  rw [JR (G:=fun _ a=> id a) fun k a h=> ?_,Z5T,List.map_id]
  .rw [J3];split <;> rfl
 .unfold ZCf
  rw [JR (G:=fun _ a=> id a) fun k a h=> ?_,Z5T,List.map_id]
  try rfl
theorem ZzG(g:α->α->Bool)(p:List α)(q:List α)(b:α):Z0w at_ g p (q++[b])=(Z0w at_ g p q || Z0w at_ g p [b]):=by
 rw [Qs]
 simp only [Z0w,K6,XC,Qj,Qg,Q6,decide_eq_true_eq]
 grind
theorem ZCr(g:α->α->Bool)(p p' q:List α):Z0w at_ g (p++p') q=(Z0w at_ g p q || Z0w at_ g p' q):=by unfold Z0w;grind
theorem Zfa{l:List α}{i:Nat}(h:i < l.length):(l.drop i).take 1=[l[i]]:=by rw [QI h];try rfl
theorem Z8z(g:α->α->Bool){p q:List α}{i j:Nat}(hi:i < p.length)(hj:j < q.length):Ze0 at_ g p q i (j+1)=(Ze0 at_ g p q i j || decide (at_ p[i]=at_ q[j]) && g p[i] q[j]):=by
 unfold Ze0
 rw [Xe hj,ZzG,Zfa hi,<-K0]
 congr 1
 simp [Z0w]
theorem SInv.step(h:SInv at_ f fy gc ga mc ma p q i j c a X Y)(hi:i < p.length)(hj:j < q.length)(z:α):
  (at_ (p.getD i z)=at_ (q.getD j z)->SInv at_ f fy gc ga mc ma p q i (j+1) (c || gc (p.getD i z) (q.getD j z)) (a || ga (p.getD i z) (q.getD j z)) (X.set i (f (p.getD i z) (q.getD j z))) (Y.set j (fy (q.getD j z) (p.getD i z))))/\
  (¬at_ (p.getD i z)=at_ (q.getD j z)->SInv at_ f fy gc ga mc ma p q i (j+1) c a X Y):=by
 have ep:p.getD i z=p[i]:=getD_some (Q4 hi) z
 have eq:q.getD j z=q[j]:=getD_some (Q4 hj) z
 rw [ep,eq]
 obtain ⟨ec,ea,eX,eY⟩:=h
 have tp:p.take (i+1)=p.take i++[p[i]]:=Xe hi
 have u:q.take (j+1)=q.take j++[q[j]]:=Xe hj
 refine ⟨fun e=> ⟨?_,?_,?_,?_⟩,fun e=> ⟨?_,?_,?_,?_⟩⟩
 .rw [Z8z gc hi hj,ec,decide_eq_true e,QL,K0]
 .rw [Z8z ga hi hj,ea,decide_eq_true e,QL,K0]
 .rw [eX]
  refine ZgO (fun k b hk _=> ?_) fun b s=> ?_
  .grind
  .rw [Q4 hi] at s
   cases s
   rw [J3,if_pos rfl,u,Z8u,if_pos e.symm]
 .rw [eY]
  refine ZgO (fun k b hk _=> ?_) fun b s=> ?_
  .grind
  .rw [Q4 hj] at s
   cases s
   rw [Jq,tp,Z8u,if_pos e]
 .rw [Z8z gc hi hj,ec,decide_eq_false e,XU,QC]
 .rw [Z8z ga hi hj,ea,decide_eq_false e,XU,QC]
 .rw [eX]
  refine JR fun k b s=> ?_
  by_cases h:k=i
  .subst h
   rw [Q4 hi] at s
   cases s
   rw [J3,if_pos rfl,J3,if_pos rfl,u,Z8u,if_neg (fun x=> e x.symm)]
  grind
 .rw [eY]
  refine JR fun k b s=> ?_
  by_cases h:k=j
  .subst h
   rw [Q4 hj] at s
   cases s
   rw [J3,Jq,tp,Z8u,if_neg e]
  grind
theorem SInv.next(h:SInv at_ f fy gc ga mc ma p q i q.length c a X Y)(hi:i < p.length):SInv at_ f fy gc ga mc ma p q (i+1) 0 c a X Y:=by
 obtain ⟨ec,ea,eX,eY⟩:=h
 have s:∀ g:α->α->Bool,Ze0 at_ g p q i q.length=Ze0 at_ g p q (i+1) 0:=by
  intro g
  unfold Ze0
  rw [Kn,List.take_zero,Xe hi,ZCr,Zfa hi]
  have:Z0w at_ g ((p.drop (i+1)).take 1) []=false:=by simp [Z0w]
  grind
 refine ⟨by rw [ec,s],by rw [ea,s],?_,?_⟩
 .rw [eX]
  refine JR fun k b u=> ?_
  by_cases h:k < i
  .grind
  .by_cases h2:k=i
   .grind
   .rw [if_neg h,if_neg h2,J3]
    split <;> rfl
 .rw [eY]
  refine JR fun k b u=> ?_
  grind
theorem SInv.fin(h:SInv at_ f fy gc ga mc ma p q p.length 0 c a X Y):c=(mc || Z0w at_ gc p q)/\a=(ma || Z0w at_ ga p q)/\X=p.map (YX at_ f q)/\Y=q.map (YX at_ fy p):=by
 obtain ⟨ec,ea,eX,eY⟩:=h
 have s:∀ g:α->α->Bool,Ze0 at_ g p q p.length 0=Z0w at_ g p q:=by
  intro g
  unfold Ze0
  rw [Kn,List.drop_length]
  simp [Z0w]
 refine ⟨by rw [ec,s],by rw [ea,s],?_,?_⟩
 .rw [eX]
  unfold ZCg
  rw [JR (G:=fun _ a=> YX at_ f q a) fun k b u=> by rw [if_pos (Q8.1 u).1],Z5T]
 .rw [eY]
  unfold ZCf
  rw [JR (G:=fun _ a=> YX at_ fy p a) fun k b u=> by rw [J3,Kn],Z5T]
theorem SInv.at_x(h:SInv at_ f fy gc ga mc ma p q i j c a X Y)(hf:∀ a b,at_ (f a b)=at_ a)(hi:i < p.length)(z:α):at_ (X.getD i z)=at_ (p.getD i z):=by
 rw [h.eX,getD_some (a:=YX at_ f (q.take j) p[i]) (by rw [ZCg,List.getElem?_mapIdx,Q4 hi,Qi,J3,if_pos rfl]),getD_some (Q4 hi),Z1F hf]
theorem SInv.at_y(h:SInv at_ f fy gc ga mc ma p q i j c a X Y)(hf:∀ a b,at_ (fy a b)=at_ a)(hj:j < q.length)(z:α):at_ (Y.getD j z)=at_ (q.getD j z):=by
 rw [h.eY,getD_some (a:=YX at_ fy (p.take i) q[j]) (by rw [ZCf,List.getElem?_mapIdx,Q4 hj,Qi,J3]),getD_some (Q4 hj),Z1F hf]
end
end Go.AM.YtpjenobkibfpcaaGreat
namespace Go.AM.YtpjenobkibfpcaaGreat
open Go.AM Go.Proofs
def Lft.swap(L:Lft):Lft:=⟨L.y,L.x,L.c,L.a⟩
def PL.swap(L:PL):PL:=⟨L.y,L.x,L.c,L.a⟩
inductive Lay (f:Edit->Edit->Lft):List Op->List Op->List Tree->List Tree->PL->Prop
 | nil (m h):Lay f [] [] m h (Z0r m h)
 | left {a p q m h S}:a.kind=2->Lay f p q (m++a.l) h S->Lay f (a ::p) q m h S
 | right {p b q m h S}:(∀ a∈p.head?,a.kind≠2)->b.kind=2->Lay f p q m (h++b.l) S->Lay f p (b ::q) m h S
 | both {a p b q m h S n}:a.kind≠2->b.kind≠2->n=min (Z4 a) (Z4 b)->Lay f (ZF (a ::p) n) (ZF (b ::q) n) [] [] S->
   Lay f (a ::p) (b ::q) m h (((Z0r m h).app (ZP f (ZB a n) (ZB b n))).app S)
section
variable {f:Edit->Edit->Lft}
theorem Z7t{p:List Op}{n:Int}(h:∀ x∈p,ZX x)(hl:p.length≠0)(h1:1<=n):∀ o∈ZF p n,ZX o:=by
 cases p with
 | nil=> grind
 | cons o r=>
  unfold ZF
  simp only [Qh,Qw,QM]
  split
  .grind
  .rename_i u
   intro x s
   rcases Qa.1 s with rfl | s
   .exact (ZbN (h o Q7) h1 u).1
   grind
theorem Z05{a:Op}{p:List Op}{n:Int}{o:Op}(h:o∈ZF (a ::p) n):o∈p\/o=Jt a n:=by
 unfold ZF at h
 grind
theorem Z2g(a:Op)(n:Int):(Jt a n).e=a.e:=by unfold Jt;split <;> rfl
theorem Z2I(a:Op)(n:Int):(ZB a n).e=a.e:=by unfold ZB;grind
theorem Zpn{a b:Op}{p q:List Op}{n:Int}(hn:n=min (Z4 a) (Z4 b)):(ZF (a ::p) n).length+(ZF (b ::q) n).length < (a ::p).length+(b ::q).length:=by
 have u:=Yi (a ::p) n (by simp)
 have s:=Yi (b ::q) n (by simp)
 rcases Kp (Z4 a) (Z4 b) with h | h
 .have:=Yh (a ::p) n (by simp) (by grind)
  omega
 .have:=Yh (b ::q) n (by simp) (by grind)
  omega
theorem ZgZ:∀ (k:Nat) (p q:List Op) (out:List Piece),p.length+q.length<=k->(ZA 2 2 p q out).2.1=true->∃ u,(ZA 2 2 p q out).1=out++u/\∀ m h,Lay f p q m h (Z2m f u m h):=by
 intro k
 induction k with
 | zero=>
  intro p q out hk s
  have e1:p=[]:=Q5 JX
  have e2:q=[]:=Q5 JX
  subst e1 e2
  rw [ZA,dif_neg (by simp [sgl]),dif_neg (by simp [sgl]),dif_pos (by simp)]
  exact ⟨[],by simp,fun m h=> .nil m h⟩
 | succ k ih=>
  intro p q out hk s
  rw [ZA] at s ⊢
  by_cases h1:sgl 2 p=true
  .rw [dif_pos h1] at s ⊢
   obtain ⟨g1,g2⟩:=Yw.1 h1
   cases p with
   | nil=> grind
   | cons a p'=>
    simp only [Qh,Qw,QM] at g2 s ⊢
    obtain ⟨u,e,hL⟩:=ih p' q _ (by grind) s
    exact ⟨⟨1,a,Op.nil⟩ ::u,by grind,fun m h=> .left g2 (hL _ _)⟩
  .rw [dif_neg h1] at s ⊢
   have np:∀ a∈p.head?,a.kind≠2:=by
    intro a ha e
    cases p with
    | nil=> cases ha
    | cons a' p'=> cases ha;exact h1 (Yw.2 ⟨by simp,by simpa using e⟩)
   by_cases h2:sgl 2 q=true
   .rw [dif_pos h2] at s ⊢
    obtain ⟨g1,g2⟩:=Yw.1 h2
    cases q with
    | nil=> grind
    | cons b q'=>
     simp only [Qh,Qw,QM] at g2 s ⊢
     obtain ⟨u,e,hL⟩:=ih p q' _ (by grind) s
     exact ⟨⟨2,Op.nil,b⟩ ::u,by grind,fun m h=> .right np g2 (hL _ _)⟩
   .rw [dif_neg h2] at s ⊢
    by_cases h3:p.length=0\/q.length=0
    .rw [dif_pos h3] at s ⊢
     by_cases h4:decide (p.length=0)=decide (q.length=0)
     .rw [if_pos h4]
      have h5:p.length=0/\q.length=0:=by
       have:=decide_eq_decide.1 h4
       omega
      rw [Q5 h5.1,Q5 h5.2]
      exact ⟨[],by simp,fun m h=> .nil m h⟩
     grind
    .rw [dif_neg h3] at s ⊢
     cases p with
     | nil=> simp at h3
     | cons a p'=>
      cases q with
      | nil=> simp at h3
      | cons b q'=>
       simp only [Qh] at s ⊢
       have ai:=Zpn (a:=a) (b:=b) (p:=p') (q:=q') rfl
       obtain ⟨u,e,hL⟩:=ih _ _ _ JX s
       exact ⟨⟨0,_,_⟩ ::u,by rw [e,Qo];rfl,fun m h=> .both (np a rfl) (fun e=> h2 (Yw.2 ⟨by simp,by simpa using e⟩)) rfl (hL [] [])⟩
theorem Zow{p q:List Op}{m h:List Tree}{S:PL}(H:Lay f p q m h S):∀ out,(ZA 2 2 p q out).2.1=true/\∃ s,(ZA 2 2 p q out).1=out++s/\S=Z2m f s m h:=by
 induction H with
 | nil m h=>
  intro out
  rw [ZA,dif_neg (by simp [sgl]),dif_neg (by simp [sgl]),dif_pos (by simp)]
  exact ⟨rfl,[],by simp,rfl⟩
 | left k2 _ ih=>
  intro out
  rw [ZA,dif_pos (Yw.2 ⟨by simp,by simpa using k2⟩)]
  simp only [Qh,Qw,QM]
  obtain ⟨u,s,h2,h3⟩:=ih (out++[⟨1,_,Op.nil⟩])
  exact ⟨u,⟨1,_,Op.nil⟩ ::s,by grind,h3⟩
 | right np k2 _ ih=>
  rename_i p b q m h S _
  intro out
  have n1:¬sgl 2 p=true:=by
   intro e
   obtain ⟨g1,g2⟩:=Yw.1 e
   cases p with
   | nil=> exact g1 rfl
   | cons a p'=> grind
  rw [ZA,dif_neg n1,dif_pos (Yw.2 ⟨by simp,by simpa using k2⟩)]
  simp only [Qh,Qw,QM]
  obtain ⟨u,s,h2,h3⟩:=ih (out++[⟨2,Op.nil,_⟩])
  exact ⟨u,⟨2,Op.nil,_⟩ ::s,by grind,h3⟩
 | both ka kb hn _ ih=>
  intro out
  subst hn
  rw [ZA,dif_neg (fun e=> ka (by simpa using (Yw.1 e).2)),dif_neg (fun e=> kb (by simpa using (Yw.1 e).2)),dif_neg (by simp)]
  simp only [Qh]
  obtain ⟨u,s,h2,h3⟩:=ih (out++[⟨0,_,_⟩])
  exact ⟨u,⟨0,_,_⟩ ::s,by rw [h2,Qo];rfl,by rw [h3];rfl⟩
theorem Lay.right'{b:Op}{q:List Op}(k2:b.kind=2):∀ {p:List Op} {m h:List Tree} {S:PL},Lay f p q m (h++b.l) S->Lay f p (b ::q) m h S
 | [],m,h,S,H=> .right (fun a s=> by cases s) k2 H
 | a ::p,m,h,S,H=> by
  by_cases ka:a.kind=2
  .cases H with
   | left _ H'=> exact .left ka (H'.right' k2)
   | right np _ _=> grind
   | both k _ _ _=> omega
  .exact .right (fun x u=> by grind) k2 H
theorem ZiL(m h:List Tree):Z0r h m=(Z0r m h).swap:=by
 unfold Z0r PL.swap
 by_cases e:m≠[]/\h≠[]
 .rw [if_pos e,if_pos e.symm]
  have:Z2Y h m=Z2Y m h:=by unfold Z2Y;rw [Bool.eq_iff_iff,Z0c,Z0c,eq_comm]
  rw [this]
 .rw [if_neg e,if_neg (fun x=> e x.symm)]
  have:m=[]\/h=[]:=by
   by_cases hm:m=[]
   .exact .inl hm
   .by_cases hh:h=[]
    .exact .inr hh
    .exact absurd ⟨hm,hh⟩ e
  rcases this with rfl | rfl <;> simp [Z5X,Z0F]
theorem Z3c{o:Op}(h:ZX o)(k:o.kind=0):o=⟨0,o.n,[],Edit.nil⟩/\1<=o.n/\Z4 o=o.n:=by
 have:=Z7G h k
 rcases h with h | h | h
 .obtain ⟨kk,nn,l,e⟩:=o
  obtain ⟨s,h2,h3,u⟩:=h
  dsimp only at s h2 u
  subst s h2 u
  exact ⟨rfl,h3.1,this⟩
 .omega
 .omega
theorem ZAy{p q:Op}(a:p.kind=0)(b:q.kind=1):ZP f p q=⟨[],[q],false,false⟩:=by unfold ZP;grind
theorem ZAx{p q:Op}(a:p.kind=1)(b:q.kind=0):ZP f p q=⟨[p],[],false,false⟩:=by unfold ZP;grind
theorem pL0{p q:Op}(a:p.kind=0)(b:q.kind≠1):ZP f p q=⟨[⟨0,if q.n < 1 then 1 else q.n,[],Edit.nil⟩],[q],false,false⟩:=by unfold ZP;grind
theorem ZAu{p q:Op}(a:p.kind≠0)(a1:p.kind≠1)(b:q.kind=0):ZP f p q=⟨[p],[⟨0,1,[],Edit.nil⟩],false,false⟩:=by unfold ZP;grind
theorem ZAw{p q:Op}(a:p.kind=1)(b:q.kind=1):ZP f p q=⟨[],[],false,!Z2Y p.l q.l⟩:=by unfold ZP;grind
theorem pL1{p q:Op}(a:p.kind=1)(b:q.kind≠0)(b1:q.kind≠1):ZP f p q=⟨[],[],true,!(doE false q.e (p.l.getD 0 Tree.nil)).isSome⟩:=by unfold ZP;grind
theorem ZAt{p q:Op}(a:p.kind≠0)(a1:p.kind≠1)(b:q.kind=1):ZP f p q=⟨[],[],true,!(doE false p.e (q.l.getD 0 Tree.nil)).isSome⟩:=by unfold ZP;grind
theorem ZAv{p q:Op}(a:p.kind≠0)(a1:p.kind≠1)(b:q.kind≠0)(b1:q.kind≠1):ZP f p q=⟨[Z6b (f p.e q.e).x],[Z6b (f p.e q.e).y],(f p.e q.e).c,(f p.e q.e).a⟩:=by
 unfold ZP;grind
theorem ZeD{o:Op}(h:ZX o)(k:o.kind≠0):o.n=0:=by
 rcases h with h | h | h
 .exact absurd h.1 k
 .exact h.2.1
 .exact h.2.1
theorem Zud(a b:List Tree):Z2Y a b=Z2Y b a:=by unfold Z2Y;rw [Bool.eq_iff_iff,Z0c,Z0c,eq_comm]
theorem Zx2{p q:Op}(op:ZX p)(oq:ZX q)(hl:Z4 p=Z4 q)(a:p.kind=0)(b:q.kind=0):p=q/\1<=p.n:=by
 obtain ⟨ep,h,s⟩:=Z3c op a
 obtain ⟨eq,u,lq⟩:=Z3c oq b
 grind
theorem Zm3{g:Edit->Edit->Lft}{p q:Op}(hf:p.kind=3->q.kind=3->g q.e p.e=(f p.e q.e).swap)(op:ZX p)(oq:ZX q)(hl:Z4 p=Z4 q)(p2:p.kind≠2)(q2:q.kind≠2):ZP g q p=(ZP f p q).swap:=by
 have s:=ZH op
 have h:=ZH oq
 unfold kOk at s h
 by_cases a0:p.kind=0
 .by_cases b0:q.kind=0
  .obtain ⟨e,u⟩:=Zx2 op oq hl a0 b0
   subst e
   rw [pL0 a0 JX,pL0 a0 JX,if_neg (show ¬p.n < 1 by omega),<-(Z3c op a0).1]
   try rfl
  .by_cases b1:q.kind=1
   .rw [ZAx b1 a0,ZAy a0 b1];try rfl
   .rw [ZAu b0 b1 a0,pL0 a0 b1,ZeD oq b0];try rfl
 .by_cases b0:q.kind=0
  .by_cases a1:p.kind=1
   .rw [ZAy b0 a1,ZAx a1 b0];try rfl
   .rw [pL0 b0 a1,ZAu a0 a1 b0,ZeD op a0];try rfl
  .by_cases a1:p.kind=1
   .by_cases b1:q.kind=1
    .rw [ZAw b1 a1,ZAw a1 b1,Zud];try rfl
    .rw [ZAt b0 b1 a1,pL1 a1 b0 b1];try rfl
   .by_cases b1:q.kind=1
    .rw [pL1 b1 a0 a1,ZAt a0 a1 b1];try rfl
    .rw [ZAv b0 b1 a0 a1,ZAv a0 a1 b0 b1,hf JX JX];try rfl
theorem PL.app_swap(a b:PL):(a.app b).swap=a.swap.app b.swap:=rfl
theorem Zpm{a:Op}{p:List Op}{n:Int}(h:∀ x∈a ::p,ZX x)(h1:1<=n)(hn:n<=Z4 a):ZX (ZB a n)/\Z4 (ZB a n)=n:=by
 obtain ⟨s,u,_⟩:=Z2i h h1 hn
 grind
theorem Lay.swap{g:Edit->Edit->Lft}{p q:List Op}{m h:List Tree}{S:PL}(H:Lay f p q m h S):(∀ o∈p,ZX o)->(∀ o∈q,ZX o)->(∀ a∈p,∀ b∈q,a.kind=3->b.kind=3->g b.e a.e=(f a.e b.e).swap)->
  Lay g q p h m S.swap:=by
 induction H with
 | nil m h=> intro _ _ _;rw [<-ZiL];exact .nil h m
 | left k2 _ s=>
  intro op u hf
  exact (s (fun o ho=> op o (Q0 _ ho)) u fun a ha b hb=> hf a (Q0 _ ha) b hb).right' k2
 | right np k2 _ s=>
  intro op u hf
  exact .left k2 (s op (fun o ho=> u o (Q0 _ ho)) fun a ha b hb=> hf a ha b (Q0 _ hb))
 | both ka kb hn _ s=>
  rename_i a p b q m h S n _
  intro op u hf
  have la:=ZJ (op a Q7)
  have lb:=ZJ (u b Q7)
  have h1:1<=n:=JX
  obtain ⟨t1,t2⟩:=Zpm op h1 JX
  obtain ⟨t3,t4⟩:=Zpm u h1 JX
  have s:=s (Z7t op (by simp) h1) (Z7t u (by simp) h1) fun x hx y hy kx ky=> by
   rcases Z05 hx with hx | rfl
   .rcases Z05 hy with hy | rfl
    .grind
    .rw [Z2g];rw [J9] at ky;grind
   .rw [Z2g];rw [J9] at kx
    rcases Z05 hy with hy | rfl
    .grind
    .rw [Z2g];rw [J9] at ky;grind
  rw [PL.app_swap,PL.app_swap,<-ZiL,<-Zm3 (f:=f) (g:=g) (fun kx ky=> ?_) t1 t3 JX (by rw [JU];exact ka) (by rw [JU];exact kb)]
  .exact .both kb ka (by rw [hn];omega) s
  .rw [JU] at kx ky
   rw [Z2I,Z2I]
   grind
end
theorem Zj0(a b:Int):Z0Y a b=Z0Y b a:=by unfold Z0Y;grind
theorem ZcT(p q:WEdit):J4 p q=J4 q p:=by
 unfold J4
 rw [Zj0,decide_eq_decide,ne_comm]
theorem Zlp(p q:WEdit):Z12 p q=Z12 q p:=by
 unfold Z12
 rw [Zj0,decide_eq_decide,ne_comm]
theorem Z8A{α:Type}{at_:α->Int}{f g:α->α->Bool}{p q:List α}(h:∀ a∈p,∀ b∈q,g b a=f a b):Z0w at_ g q p=Z0w at_ f p q:=by
 unfold Z0w
 grind
section
variable {f:Edit->Edit->Lft} {p q:Edit}
theorem lb0(h:p.kind=0\/q.kind=0):YW f p q=⟨p,q,false,false⟩:=by unfold YW;rw [if_pos h]
theorem lb1(p1:p.kind=1)(q0:q.kind≠0):YW f p q=Z11 q p.old p.new:=by unfold YW;grind
theorem ZC4(p0:p.kind≠0)(p1:p.kind≠1)(q1:q.kind=1):YW f p q=Z11 p q.old q.new:=by unfold YW;grind
theorem lbd(p0:p.kind≠0)(p1:p.kind≠1)(q0:q.kind≠0)(q1:q.kind≠1)(h:p.kind≠q.kind\/p.list≠q.list):YW f p q=⟨Edit.nil,Edit.nil,false,true⟩:=by
 unfold YW;grind
theorem lb2(p2:p.kind=2)(q2:q.kind=2)(h:p.list=q.list):YW f p q=Z6k f p q:=by unfold YW;grind
theorem lb3(p2:p.kind=q.kind)(p0:p.kind≠0)(p1:p.kind≠1)(q2:p.kind≠2)(h:p.list=q.list):YW f p q=Z4V f p q:=by unfold YW;grind
end
theorem ZmA {f g:Edit->Edit->Lft} {p q:Edit} {d d':Int} (hp:Z3 p d=true) (hq:Z3 q d'=true)
  (h:∀ a b,Z8 a+Z8 b < Z8 p+Z8 q->(∃ d,Z3 a d=true)->(∃ d,Z3 b d=true)->g b a=(f a b).swap):YW g q p=(YW f p q).swap:=by
 have rp:=Zh hp
 have rq:=Zh hq
 by_cases p0:p.kind=0
 .rw [lb0 (.inl p0),lb0 (.inr p0)];try rfl
 by_cases q0:q.kind=0
 .rw [lb0 (.inr q0),lb0 (.inl q0)];try rfl
 by_cases p1:p.kind=1
 .by_cases q1:q.kind=1
  .rw [lb1 p1 q0,lb1 q1 p0]
   unfold Z11 doB
   rw [ZmV p1,ZmV q1,Zfz (Z0 p.old)]
   by_cases e:Yf (Z0 q.old) (Z0 p.old)=true
   .rw [if_pos e,if_pos e]
    show (⟨_,_,true && !Yf (Z0 (Z0 p.new)) (Z0 q.new),_⟩:Lft)=⟨_,_,true && !Yf (Z0 (Z0 q.new)) (Z0 p.new),_⟩
    rw [ZI,ZI,Zfz]
    try rfl
   .rw [if_neg e,if_neg e]
    try rfl
  .rw [lb1 p1 q0,ZC4 q0 q1 p1];try rfl
 by_cases q1:q.kind=1
 .rw [ZC4 p0 p1 q1,lb1 q1 p0];try rfl
 by_cases c2:p.kind≠q.kind\/p.list≠q.list
 .rw [lbd p0 p1 q0 q1 c2,lbd q0 q1 p0 p1 (c2.imp Ne.symm Ne.symm)];try rfl
 have hk:q.kind=p.kind:=JX
 have aa:q.list=p.list:=JX
 by_cases p2:p.kind=2
 .rw [lb2 p2 JX aa.symm,lb2 JX p2 aa]
  have ab:∀ a∈p.kids,∀ b∈q.kids,g b.e a.e=(f a.e b.e).swap:=by
   intro a u b s
   have:=Yd u
   have:=Yd s
   exact h _ _ JX ⟨_,(Zs rp.kids a u).2⟩ ⟨_,(Zs rq.kids b s).2⟩
  unfold Z6k Lft.swap
  rw [Z8A (at_:=WEdit.at_) (f:=fun a b=> !J4 a b && Z12 a b) (g:=fun a b=> !J4 a b && Z12 a b) fun a _ b _=> by rw [ZcT,Zlp],
   Z8A (at_:=WEdit.at_) (f:=J4) (g:=J4) fun a _ b _=> ZcT b a,
   Z8A (at_:=KidOf.at_) (f:=fun a b:Kid=> (f a.e b.e).c) (g:=fun a b=> (g a.e b.e).c) fun a u b s=> by rw [ab a u b s];rfl,
   Z8A (at_:=KidOf.at_) (f:=fun a b:Kid=> (f a.e b.e).a) (g:=fun a b=> (g a.e b.e).a) fun a u b s=> by rw [ab a u b s];rfl,
   XA (f:=YX KidOf.at_ (fun a b:Kid=> ⟨a.at_,(g a.e b.e).x⟩) p.kids) (g:=YX KidOf.at_ (fun b a:Kid=> ⟨b.at_,(f a.e b.e).y⟩) p.kids) fun b s=> Z64 fun a u=> by rw [ab a u b s];rfl,
   XA (f:=YX KidOf.at_ (fun b a:Kid=> ⟨b.at_,(g a.e b.e).y⟩) q.kids) (g:=YX KidOf.at_ (fun a b:Kid=> ⟨a.at_,(f a.e b.e).x⟩) q.kids) fun a u=> Z64 fun b s=> by rw [ab a u b s];rfl]
 .rw [lb3 hk.symm p0 p1 p2 aa.symm,lb3 hk q0 q1 JX aa]
  have hf:∀ a∈p.ops,∀ b∈q.ops,a.kind=3->b.kind=3->g b.e a.e=(f a.e b.e).swap:=by
   intro a u b s ka kb
   have:=YV u
   have:=YV s
   exact h _ _ JX ⟨_,YH (rightOs_mem rp.ops u) ka⟩ ⟨_,YH (rightOs_mem rq.ops s) kb⟩
  have ah:∀ b∈q.ops,∀ a∈p.ops,b.kind=3->a.kind=3->f a.e b.e=(g b.e a.e).swap:=fun b s a u kb ka=> by rw [hf a u b s ka kb];try rfl
  unfold Z4V
  by_cases s:(ZA 2 2 p.ops q.ops []).2.1=true
  .obtain ⟨ps,e,hL⟩:=ZgZ (f:=f) _ p.ops q.ops [] (Qb _) s
   obtain ⟨b1,ar,e',hS⟩:=Zow ((hL [] []).swap (g:=g) (Y3 hp) (Y3 hq) hf) []
   rw [if_pos s,if_pos b1,e,e',Qt,Qt,<-hS,aa]
   try rfl
  .rw [if_neg s,if_neg]
   .try rfl
   .intro b1
    obtain ⟨ps,e,hL⟩:=ZgZ (f:=g) _ q.ops p.ops [] (Qb _) b1
    exact s (Zow ((hL [] []).swap (g:=f) (Y3 hq) (Y3 hp) ah) []).1
theorem ZC3:∀ (n:Nat) (p q:Edit) (d s:Int),Z8 p+Z8 q<=n->Z3 p d=true->Z3 q s=true->lbF n q p=(lbF n p q).swap:=by
 intro n
 induction n with
 | zero=> intro p q d s h;obtain ⟨k,o,nw,w,ks,l,os⟩:=p;simp only [Z8] at h;omega
 | succ n ih=>
  intro p q d s h hp hq
  exact ZmA hp hq fun a b u ⟨d1,h1⟩ ⟨d2,h2⟩=> ih a b d1 d2 JX h1 h2
theorem Zyu{p q:Edit}{d d':Int}(hp:Z3 p d=true)(hq:Z3 q d'=true):lbE q p=(lbE p q).swap:=by
 unfold lbE
 rw [XH]
 exact ZC3 _ p q d d' (Qb _) hp hq
end Go.AM.YtpjenobkibfpcaaGreat
namespace Go.AM.YtpjenobkibfpcaaGreat
open Go.AM Go.Proofs
mutual
def YR(k:Int):Edit->Prop
 | .mk _ _ _ _ ks _ os=> (Ju os<=k/\J5 os<=k)/\Zf9 k ks/\Zf7 k os
def Zf9(k:Int):List (KidOf Edit)->Prop
 | []=> True
 | x ::r=> Zpl k x/\Zf9 k r
def Zpl(k:Int):KidOf Edit->Prop
 | ⟨_,e⟩=> YR k e
def Zf7(k:Int):List (OpOf Edit)->Prop
 | []=> True
 | x ::r=> ZvG k x/\Zf7 k r
def ZvG(k:Int):OpOf Edit->Prop
 | ⟨_,_,_,e⟩=> YR k e
end
theorem Zf8{k:Int}:∀ {l:List Kid},Zf9 k l↔∀ x∈l,YR k x.e
 | []=> by simp [Zf9]
 | ⟨a,e⟩ ::r=> by simp only [Zf9,Zpl,Zf8 (l:=r),Qa,forall_eq_or_imp]
theorem Zf6{k:Int}:∀ {l:List Op},Zf7 k l↔∀ x∈l,YR k x.e
 | []=> by simp [Zf7]
 | ⟨a,n,l,e⟩ ::r=> by simp only [Zf7,ZvG,Zf6 (l:=r),Qa,forall_eq_or_imp]
theorem Z0N{k:Int}{e:Edit}:YR k e↔(Ju e.ops<=k/\J5 e.ops<=k)/\(∀ x∈e.kids,YR k x.e)/\∀ o∈e.ops,YR k o.e:=by
 obtain ⟨h,o,n,w,ks,l,os⟩:=e
 simp only [YR,Zf8,Zf6]
 try rfl
theorem Z5p:∀ (n:Nat) {k m:Int} (e:Edit),Z8 e<=n->k<=m->YR k e->YR m e:=by
 intro n
 induction n with
 | zero=> intro k m e h;obtain ⟨k,o,nw,w,ks,l,os⟩:=e;simp only [Z8] at h;omega
 | succ n ih=>
  intro k m e hn hk h
  rw [Z0N] at h ⊢
  exact ⟨⟨JX,JX⟩,fun x u=> ih x.e (by have:=Yd u;omega) hk (h.2.1 x u),fun o s=> ih o.e (by have:=YV s;omega) hk (h.2.2 o s)⟩
theorem Z4B{k:Int}(h:0<=k):YR k Edit.nil:=by
 trivial
structure Wt where
 k:Nat
 c:Nat
 d:Nat
def owL(K:Wt)(l:List Tree):Nat:=K.d*l.length+Zg l
mutual
def owE(K:Wt):Edit->Nat
 | .mk _ o n w ks _ os=> K.k+Zo o+Zo n+K.c*w.length+Z0B K ks+Jv K os
def Z0B(K:Wt):List (KidOf Edit)->Nat
 | []=> 0
 | k ::r=> Z8P K k+Z0B K r
def Z8P(K:Wt):KidOf Edit->Nat
 | ⟨_,e⟩=> K.c+owE K e
def Jv(K:Wt):List (OpOf Edit)->Nat
 | []=> 0
 | o ::r=> Z3V K o+Jv K r
def Z3V(K:Wt):OpOf Edit->Nat
 | ⟨k,_,l,e⟩=> owL K l+if k=3 then K.d+owE K e else 0
end
section
variable {K:Wt}
theorem Zgt(e:Edit):owE K e=K.k+Zo e.old+Zo e.new+K.c*e.words.length+Z0B K e.kids+Jv K e.ops:=by cases e;rfl
theorem Zm8(k:Kid):Z8P K k=K.c+owE K k.e:=by cases k;rfl
theorem Z1y(o:Op):Z3V K o=owL K o.l+if o.kind=3 then K.d+owE K o.e else 0:=by cases o;rfl
theorem ZAA:owE K Edit.nil=K.k+2:=by rfl
theorem ZAz(e:Edit):K.k+2<=owE K e:=by rw [Zgt];have:=Z8S e.old;have:=Z8S e.new;omega
theorem ZeA(a b:List Tree):owL K (a++b)=owL K a+owL K b:=by unfold owL;rw [List.length_append,Jg,Nat.mul_add];omega
theorem Z3z:∀ a b:List Op,Jv K (a++b)=Jv K a+Jv K b
 | [],b=> by simp [Jv]
 | o ::r,b=> by simp only [QA,Jv,Z3z r b];omega
def OkO(list:Int)(o:Op):Prop:=ZX o/\Zb list o (-2)=true/\YZ o
theorem Zm5{list:Int}{l:List Op}{o:Op}(hl:∀ s∈l,OkO list s)(hp:Part l o)(ho:ZX o):OkO list o:=by
 obtain ⟨s,m,k,e1,_,lt⟩:=hp
 obtain ⟨_,hr,hg⟩:=hl s m
 refine ⟨ho,?_⟩
 have R:=ZN hr
 have G:=Jr hg
 obtain ⟨kk,nn,ll,ee⟩:=o
 have k:kk=s.kind:=k
 have e1:ee=s.e:=e1
 have lt:∀ t∈ll,t∈s.l:=lt
 have gl:Yx ll:=Z5D fun t ht=> YC G.2.2.1 (lt t ht)
 cases R with
 | keep n1 a1 a2=>
  have k:kk=0:=k
  have e1:ee=Edit.nil:=e1
  subst k e1
  rcases ho with h | h | h
  .have hl:ll=[]:=h.2.1
   subst hl
   have h3:1<=nn/\nn<=1048576:=h.2.2.1
   exact ⟨Zkk h3.1 h3.2 _,Yk V2 V2,V1,trivial,G.2.2.2⟩
  .have:=h.1;omega
  .have:=h.1;omega
 | gone l1 a1 a2=>
  have k:kk=1:=k
  have e1:ee=Edit.nil:=e1
  subst k e1
  rcases ho with h | h | h
  .have:=h.1;omega
  .have u:nn=0:=h.2.1
   subst u
   exact ⟨Z3A (.inl rfl) (Z1c fun t ht=> JO a1 t (lt t ht)) h.2.2.1,Yk V2 V2,Yk V2 V2,gl,G.2.2.2⟩
  .have:=h.1;omega
 | come l1 a1 a2=>
  have k:kk=2:=k
  have e1:ee=Edit.nil:=e1
  subst k e1
  rcases ho with h | h | h
  .have:=h.1;omega
  .have u:nn=0:=h.2.1
   subst u
   exact ⟨Z3A (.inr rfl) (Z1c fun t ht=> JO a1 t (lt t ht)) h.2.2.1,Yk V2 V2,Yk V2 V2,gl,G.2.2.2⟩
  .have:=h.1;omega
 | into e2 a1 a2 a3 a4=>
  have k:kk=3:=k
  have e1:ee=e2:=e1
  subst k e1
  rcases ho with h | h | h
  .have:=h.1;omega
  .have:=h.1;omega
  .have u:nn=0:=h.2.1
   have hl:ll=[]:=h.2.2
   subst u hl
   exact ⟨ZeC a1 a2 a3 a4,Yk V2 V2,Yk V2 V2,trivial,G.2.2.2⟩
theorem Zly{list:Int}{a:Op}{p:List Op}{n:Int}(h:∀ x∈a ::p,OkO list x)(h1:1<=n)(hn:n<=Z4 a):OkO list (ZB a n)/\(ZB a n).kind=a.kind/\Z4 (ZB a n)=n/\∀ o∈ZF (a ::p) n,OkO list o:=by
 obtain ⟨g1,g2,g3,g4,u,_⟩:=Z2i (fun x hx=> (h x hx).1) h1 hn
 exact ⟨Zm5 h g4 g1,g3,g2,fun o s=> Zm5 h (u o s).2 (u o s).1⟩
theorem ZKI:Zpc fun o=> ((Z3V K o:Nat):Int):=by
 intro o n s u h
 have hl:=Yy o
 rcases s with ⟨k0,k1,k2,k3⟩ | ⟨k0,k1,k2,k3⟩ | ⟨k0,k1,k2⟩
 .have e1:ZB o n=⟨o.kind,n,o.l,o.e⟩:=by rw [ZB,if_neg h,if_pos k0]
  have e2:Jt o n=⟨o.kind,o.n - n,o.l,o.e⟩:=by rw [Jt,if_pos k0]
  simp only [Z1y,e1,e2]
  rw [J3,k1]
  try rfl
 .have e1:ZB o n=⟨o.kind,o.n,o.l.take n.toNat,o.e⟩:=by rw [ZB,if_neg h,J3]
  have e2:Jt o n=⟨o.kind,o.n,o.l.drop n.toNat,o.e⟩:=by rw [Jt,J3]
  have h3:¬o.kind=3:=JX
  have:=ZeA (K:=K) (o.l.take n.toNat) (o.l.drop n.toNat)
  rw [Qx] at this
  simp only [Z1y,e1,e2]
  grind
 omega
end
end Go.AM.YtpjenobkibfpcaaGreat
namespace Go.AM.YtpjenobkibfpcaaGreat
open Go.AM Go.Proofs
variable {K:Wt}
structure LbX (K:Wt) (T:Int) (X p:Edit):Prop where
 wk:Wk X
 th:YR T X
 ow:owE K X<=owE K p
 kx:X.kind=0\/X=p\/(X.kind=p.kind/\(p.kind=2\/p.kind=3))
theorem Znk:Wk Edit.nil:=by
 obtain ⟨_,s,d,h⟩:=ZfU
 exact .of h s
theorem LbX.nil{T:Int}(hT:0<=T)(p:Edit):LbX K T Edit.nil p:=⟨Znk,Z4B hT,by rw [ZAA];exact ZAz p,.inl rfl⟩
theorem LbX.self{T:Int}{p:Edit}(h:Wk p)(ht:YR T p):LbX K T p p:=⟨h,ht,Qb _,.inr (.inl rfl)⟩
theorem Z4P(n:Int):Z4 ⟨0,n,[],Edit.nil⟩=n:=by rw [Yy];simp
theorem ZtA(l:List Tree):Z4 ⟨2,0,l,Edit.nil⟩=l.length:=by rw [Yy];simp
theorem φB_nn{o:Op}(h:ZX o):0<=φB o:=by unfold φB;have:=ZJ h;omega
theorem Zjh:∀ {l:List Op},(∀ o∈l,ZX o)->0<=J5 l
 | [],_=> Xa _
 | o ::r,h=> by
  have h1:=φB_nn (h o Q7)
  have s:=Zjh (l:=r) fun x u=> h x (Q0 _ u)
  rw [<-Z1p] at s ⊢
  simp only [Yv];omega
def ZzI(list:Int)(l:List Tree):Prop:=∀ t∈l,Zd (.mk list [] [t]) (-1)=true/\rng t
theorem Zgw{list n:Int}(h1:1<=n)(h2:n<=1048576):OkO list ⟨0,n,[],Edit.nil⟩:=by
 refine ⟨.inl ⟨rfl,rfl,⟨h1,h2⟩,rfl⟩,Zkk h1 h2 _,Yk V2 V2,V1,trivial,?_⟩
 exact Znk.g
theorem ZAE{list:Int}{l:List Tree}(h:ZzI list l)(hl:l≠[]):OkO list ⟨2,0,l,Edit.nil⟩:=by
 refine ⟨.inr (.inl ⟨.inr rfl,rfl,hl,rfl⟩),Z3A (.inr rfl) ?_ hl,Yk V2 V2,Yk V2 V2,Z5D fun t s=> (h t s).2,Znk.g⟩
 rw [Z7n V2]
 exact Z1c fun t s=> (h t s).1
theorem ZtD{list:Int}{o:Op}(h:OkO list o)(k:o.kind=1\/o.kind=2):ZzI list o.l:=by
 have R:=ZN h.2.1
 have G:=(Jr h.2.2).2.2.1
 intro t s
 refine ⟨?_,YC G s⟩
 cases R with
 | keep=> grind
 | into=> grind
 | gone l a1=> rw [Z7n V2] at a1;exact JO a1 t s
 | come l a1=> rw [Z7n V2] at a1;exact JO a1 t s
theorem Z3D{list:Int}{o:Op}(h:OkO list o)(k:o.kind=3):(7 < list/\o.e.kind≠0/\Wl list o.e/\Wk o.e)/\o.l=[]:=by
 have R:=ZN h.2.1
 cases R with
 | keep | gone | come=> grind
 | into e a1 a2 a3 a4=> exact ⟨⟨a3,a2,a4,⟨Ya _ _ _ V2 a1,(Jr h.2.2).2.2.2⟩⟩,rfl⟩
structure OpsX (K:Wt) (list T:Int) (l:List Op) (A B:Int) (W:Nat):Prop where
 ok:∀ o∈l,OkO list o/\YR T o.e
 la:Ju l<=A
 lb:J5 l<=B
 ow:Jv K l<=W
theorem OpsX.app{list T:Int}{l l':List Op}{A B A' B':Int}{W W':Nat}(h:OpsX K list T l A B W)(h':OpsX K list T l' A' B' W'):OpsX K list T (l++l') (A+A') (B+B') (W+W'):=by
 refine ⟨fun o s=> (Qj.1 s).elim (h.ok o) (h'.ok o),?_,?_,?_⟩
 .rw [<-Z93,Zfd,Z93,Z93];have:=h.la;have:=h'.la;omega
 .rw [<-Z1p,Zfd,Z1p,Z1p];have:=h.lb;have:=h'.lb;omega
 .rw [Z3z];have:=h.ow;have:=h'.ow;omega
theorem OpsX.none{list T A B:Int}{W:Nat}(ha:0<=A)(hb:0<=B):OpsX K list T [] A B W:=⟨fun o h=> (by cases h),ha,hb,QG _⟩
theorem OpsX.mono{list T:Int}{l:List Op}{A B A' B':Int}{W W':Nat}(h:OpsX K list T l A B W)(ha:A<=A')(hb:B<=B')(hw:W<=W'):OpsX K list T l A' B' W':=
 ⟨h.ok,Int.le_trans h.la ha,Int.le_trans h.lb hb,QF h.ow hw⟩
theorem OpsX.one{list T:Int}{o:Op}(h:OkO list o)(ht:YR T o.e):OpsX K list T [o] (φA o) (φB o) (Z3V K o):=by
 refine ⟨fun x s=> by grind,?_,?_,?_⟩
 .rw [<-Z93];simp [Yv]
 .rw [<-Z1p];simp [Yv]
 .simp [Jv]
theorem ZyU{list T:Int}(hT:0<=T){n:Nat}(hn:n<=1048576):OpsX K list T (Z0F n) n n 0:=by
 unfold Z0F
 split
 .exact .none JX JX
 .refine (OpsX.one (Zgw JX JX) (Z4B hT)).mono ?_ ?_ ?_
  .unfold φA;rw [if_neg (by simp),Z4P];omega
  .unfold φB;rw [if_neg (by simp),Z4P];omega
  .simp [Z1y,owL,Zg]
theorem ZKv{list T:Int}(hT:0<=T){l:List Tree}(h:ZzI list l):OpsX K list T (Z5X l) 0 l.length (owL K l):=by
 unfold Z5X
 split
 .exact .none JX JX
 .rename_i hl
  refine (OpsX.one (ZAE h hl) (Z4B hT)).mono ?_ ?_ ?_
  .unfold φA;grind
  .unfold φB;rw [if_neg (by simp),ZtA];omega
  .simp [Z1y]
theorem ZEx{list T:Int}(hT:0<=T){m h:List Tree}(hm:ZzI list m)(hh:h.length<=1048576):OpsX K list T (Z0r m h).x h.length (m.length+h.length) (owL K m):=by
 unfold Z0r
 split
 .exact (ZyU hT hh).mono JX JX (QG _)
 .exact ((ZKv hT hm).app (ZyU hT hh)).mono JX JX JX
theorem ZAs {f:Edit->Edit->Lft} {list a b:Int} (hli:2<=list/\list<=9) (ha:0<=a) (hb:0<=b) {p q:Op} (op:OkO list p) (oq:OkO list q) (tp:YR a p.e) (hl:Z4 p=Z4 q) (p2:p.kind≠2) (q2:q.kind≠2)
  (hf:p.kind=3->q.kind=3->LbX K (a+b) (f p.e q.e).x p.e):OpsX K list (a+b) (ZP f p q).x (φB q) (φB p) (Z3V K p):=by
 have kp:=ZH op.1
 have kq:=ZH oq.1
 unfold kOk at kp kq
 have np:=φB_nn op.1
 have nq:=φB_nn oq.1
 have lp:=ZJ op.1
 have u:=Z5p _ p.e (Qb _) (show a<=a+b by omega) tp
 by_cases a0:p.kind=0
 .by_cases b1:q.kind=1
  .rw [ZAy a0 b1];exact .none nq np
  .rw [pL0 a0 b1]
   have e:(if q.n < 1 then 1 else q.n)=Z4 q:=by
    by_cases b0:q.kind=0
    .obtain ⟨_,h1,h2⟩:=Z3c oq.1 b0
     rw [J3,h2]
    .rw [ZeD oq.1 b0,if_pos V2,J0 JX]
   have h1:=Z3c op.1 a0
   rw [e,<-hl]
   refine (OpsX.one (Zgw lp ?_) (Z4B JX)).mono ?_ ?_ (by simp [Z1y,owL,Zg])
   .rw [h1.2.2]
    rcases op.1 with h | h | h
    .exact h.2.2.1.2
    .omega
    .omega
   .unfold φA φB;rw [if_neg (by simp),if_neg b1,Z4P];omega
   .unfold φB;rw [if_neg (by simp),J3,Z4P];omega
 .by_cases b0:q.kind=0
  .by_cases a1:p.kind=1
   .rw [ZAx a1 b0]
    refine (OpsX.one op u).mono ?_ (Xa _) (Qb _)
    unfold φA φB;rw [if_neg p2,J3];omega
   .rw [ZAu a0 a1 b0]
    refine (OpsX.one op u).mono ?_ (Xa _) (Qb _)
    unfold φA φB;rw [if_neg p2,J3];omega
  .by_cases a1:p.kind=1
   .by_cases b1:q.kind=1
    .rw [ZAw a1 b1];exact .none nq np
    .rw [pL1 a1 b0 b1];exact .none nq np
   .by_cases b1:q.kind=1
    .rw [ZAt a0 a1 b1];exact .none nq np
    .rw [ZAv a0 a1 b0 b1]
     have p3:p.kind=3:=JX
     obtain ⟨hw,ht,al,hk⟩:=hf p3 JX
     obtain ⟨⟨e1,e2,e3,e4⟩,e5⟩:=Z3D op p3
     have l1:=J0 p3
     have hB:φB q=1:=by unfold φB;rw [if_neg b1];omega
     have af:φB p=1:=by unfold φB;rw [if_neg a1];omega
     rw [hB,af]
     dsimp only
     unfold Z6b
     split
     .refine (OpsX.one (Zgw V2 V2) (Z4B JX)).mono ?_ ?_ (by simp [Z1y,owL,Zg])
      .unfold φA;rw [if_neg (by simp),Z4P];omega
      .unfold φB;rw [if_neg (by simp),Z4P];omega
     .rename_i s
      have ah:Wl list (f p.e q.e).x:=by
       rcases hk with h | h | ⟨h,h'⟩
       .exact absurd h s
       .rw [h];exact e3
       .rcases h' with h' | h'
        .exact .inr (.inl JX)
        .rcases e3 with g | g | g
         .exact .inl g
         .omega
         .omega
      refine (OpsX.one ⟨.inr (.inr ⟨rfl,rfl,rfl⟩),ZeC (Ya _ _ _ V2 hw.r) s e1 ah,Yk V2 V2,Yk V2 V2,trivial,hw.g⟩ ht).mono ?_ ?_ ?_
      .unfold φA;rw [if_neg (show ¬(3:Int)=2 by decide),J0 rfl];omega
      .unfold φB;rw [if_neg (show ¬(3:Int)=1 by decide),J0 rfl];omega
      .simp only [Z1y,if_true];rw [if_pos p3,e5];simp only [owL,Zg,Qp,XF];omega
theorem ZKr{f:Edit->Edit->Lft}{list a b:Int}(hli:2<=list/\list<=9)(ha:0<=a)(hb:0<=b){p q:List Op}{m h:List Tree}{S:PL}(H:Lay f p q m h S):
  (∀ o∈p,OkO list o/\YR a o.e)->(∀ o∈q,OkO list o)->(∀ x∈p,∀ y∈q,x.kind=3->y.kind=3->LbX K (a+b) (f x.e y.e).x x.e)->ZzI list m->(h.length:Int)+J5 q<=1048576->
  OpsX K list (a+b) S.x (h.length+J5 q) (m.length+h.length+J5 p+J5 q) (owL K m+Jv K p):=by
 induction H with
 | nil m h=>
  intro _ _ _ hm hh
  simp only [J5] at hh
  exact (ZEx JX hm JX).mono (by simp only [J5];omega) (by simp only [J5];omega) JX
 | left k2 _ ih=>
  rename_i x p q m h S _
  intro op oq hf hm hh
  have o1:=op _ Q7
  have e:=ih (fun o s=> op o (Q0 _ s)) oq (fun x hx=> hf x (Q0 _ hx)) (fun t ht=> (Qj.1 ht).elim (hm t) (ZtD o1.1 (.inr k2) t)) hh
  have l2:=Yq o1.1.1 (.inr k2)
  refine e.mono (Xa _) ?_ ?_
  .rw [<-Z1p (_ ::_)]
   simp only [Yv,Z1p,φB]
   grind
  .rw [ZeA]
   simp only [Jv,Z1y]
   omega
 | right np k2 _ ih=>
  intro op oq hf hm hh
  have o1:=oq _ Q7
  have l2:=Yq o1.1 (.inr k2)
  have e1:∀ (b:Op) (q:List Op),b.kind=2->J5 (b ::q)=Z4 b+J5 q:=by
   intro b q hb
   rw [<-Z1p (_ ::_)]
   simp only [Yv,Z1p,φB]
   omega
  rw [e1 _ _ k2] at hh
  have e:=ih op (fun o s=> oq o (Q0 _ s)) (fun x hx y hy=> hf x hx y (Q0 _ hy)) hm (by grind)
  grind
 | both ka kb hn _ ih=>
  rename_i x p y q m h S n _
  intro op oq hf hm hh
  have ab:∀ o∈x ::p,OkO list o:=fun o s=> (op o s).1
  have lx:=ZJ (ab x Q7).1
  have ly:=ZJ (oq y Q7).1
  have h1:1<=n:=JX
  obtain ⟨t1,t2,t3,t4⟩:=Zly ab h1 JX
  obtain ⟨u1,u2,u3,u4⟩:=Zly oq h1 JX
  obtain ⟨s1,_⟩:=Z6p ZsT (p:=x ::p) (fun o s=> (ab o s).1) (by simp) h1
  obtain ⟨s2,_⟩:=Z6p ZsT (p:=y ::q) (fun o s=> (oq o s).1) (by simp) h1
  obtain ⟨s3,_⟩:=Z6p ZKI (p:=x ::p) (fun o s=> (ab o s).1) (by simp) h1
  have so:∀ l:List Op,Yv (fun o=> ((Z3V K o:Nat):Int)) l=Jv K l:=by
   intro l
   induction l with
   | nil=> rfl
   | cons o r ih=> simp only [Yv,Jv,ih];omega
  rw [so,so,Qh] at s3
  rw [Z1p,Z1p,Qh] at s1 s2
  have nq:=Zjh (l:=ZF (y ::q) n) fun o s=> (u4 o s).1
  have np:=Zjh (l:=ZF (x ::p) n) fun o s=> (t4 o s).1
  have fq:=φB_nn u1.1
  have ee:∀ o∈ZF (x ::p) n,o.e=x.e/\o.kind=x.kind\/o∈p:=fun o s=> (Z05 s).symm.imp (fun h=> by rw [h];exact ⟨Z2g _ _,J9 _ _⟩) id
  have am:∀ o∈ZF (y ::q) n,o.e=y.e/\o.kind=y.kind\/o∈q:=fun o s=> (Z05 s).symm.imp (fun h=> by rw [h];exact ⟨Z2g _ _,J9 _ _⟩) id
  have ae:∀ o∈x ::p,∀ o'∈y ::q,∀ r u:Op,r.e=o.e->u.e=o'.e->r.kind=o.kind->u.kind=o'.kind->r.kind=3->u.kind=3->LbX K (a+b) (f r.e u.e).x r.e:=by
   intro o s o' au r u e1 e2 k1 k2 k3 k4
   rw [e1,e2]
   exact hf o s o' au JX JX
  have e:=ih (fun o s=> ⟨t4 o s,by rcases ee o s with ⟨h,_⟩ | h;rw [h];exact (op x Q7).2;exact (op o (Q0 _ h)).2⟩) u4
   (fun r hr u ak k3 k4=> by
    rcases ee r hr with ⟨e1,k1⟩ | e1
    .rcases am u ak with ⟨e2,k2⟩ | e2
     .exact ae x Q7 y Q7 r u e1 e2 k1 k2 k3 k4
     .exact ae x Q7 u (Q0 _ e2) r u e1 rfl k1 rfl k3 k4
    .rcases am u ak with ⟨e2,k2⟩ | e2
     .exact ae r (Q0 _ e1) y Q7 r u rfl e2 rfl k2 k3 k4
     .exact hf r (Q0 _ e1) u (Q0 _ e2) k3 k4)
   (fun t ht=> by cases ht) (by grind)
  have g:=ZEx (K:=K) (T:=a+b) JX hm (h:=h) JX
  have pc:=ZAs (f:=f) hli ha hb t1 u1 (by rw [Z2I];grind) JX JX JX (ae x Q7 y Q7 _ _ (Z2I _ _) (Z2I _ _) (JU _ _) (JU _ _))
  refine ((g.app pc).app e).mono ?_ ?_ ?_
  .grind
  .grind
  .simp only [owL,Zg,Qp,XF] at s3 ⊢;omega
end Go.AM.YtpjenobkibfpcaaGreat
namespace Go.AM.YtpjenobkibfpcaaGreat
open Go.AM Go.Proofs
variable {K:Wt}
theorem Zav:rng Tree.nil:=by trivial
theorem Z25{α:Type}{at_:α->Int}{f:α->α}(hf:∀ a,at_ (f a)=at_ a):∀ {l:List α} {last:Int},asc at_ last l->asc at_ last (l.map f)
 | [],_,_=> trivial
 | a ::r,last,h=> by
  refine ⟨by rw [hf];exact h.1,?_⟩
  rw [hf]
  exact Z25 hf h.2
theorem Z19{α:Type}{at_:α->Int}{g:α->Bool}:∀ {l:List α} {last:Int},asc at_ last l->asc at_ last (l.filter g)
 | [],_,_=> trivial
 | a ::r,last,h=> by
  rw [Ko]
  split
  .exact ⟨h.1,Z19 h.2⟩
  .exact Zuy (XQ h.1) (Z19 h.2)
theorem Zbf(a b:WEdit):(Z1D a b).at_=a.at_:=rfl
theorem Zyr{a b:WEdit}(ra:Z0O a):Z0O (Z1D a b)/\ZG (Z1D a b).old (Z1D a b).mask=true/\ZG (Z1D a b).new (Z1D a b).mask=true:=by
 obtain ⟨u,_⟩:=Z4i (a:=Z6l b.mask) (b:=a.mask) (by
  have h:=(BitVec.ofInt (IntKind.bits .u8) 255 ^^^ BitVec.ofInt (IntKind.bits .u8) b.mask).isLt
  have e:(2:Nat) ^ IntKind.bits .u8=256:=rfl
  unfold Z6l
  rw [Z5m JX JX]
  omega) ra.2.1
 have w:∀ x m:Int,ZG (mix 0 x m) m=true:=fun x m=> ZbT fun i s hn=> by rw [Yn s,if_neg (by grind)];exact ZdK i
 exact ⟨⟨ra.1,u,J7 _ _ _,J7 _ _ _⟩,w _ _,w _ _⟩
theorem ZFl {T:Int} {W:List WEdit} {Ks:List Kid} {p:Edit} (hT:0<=T) (p2:p.kind=2) (aw:asc WEdit.at_ (-1) W) (ak:asc KidOf.at_ (-1) Ks)
  (hw:∀ w∈W,Z0O w/\w.at_<=65534/\ZG w.old w.mask=true/\ZG w.new w.mask=true) (hk:∀ k∈Ks,k.at_<=65534/\InR k.at_/\Wk k.e/\YR T k.e)
  (ow:K.c*W.length+Z0B K Ks<=K.c*p.words.length+Z0B K p.kids):LbX K T (Z4H (.mk 2 Tree.nil Tree.nil W Ks 0 [])) p:=by
 unfold Z4H
 split
 .exact .nil hT p
 .show LbX K T (.mk 2 Tree.nil Tree.nil (W.filter fun w=> !decide (w.mask=0)) (Ks.filter fun k:Kid=> !decide (k.e.kind=0)) 0 []) p
  refine ⟨⟨Zi8 (Z90 (Z19 aw) fun w h=> ?_) (Z9a (Z19 ak) fun k h=> ?_),?_⟩,?_,?_,.inr (.inr ⟨by rw [p2];rfl,.inl p2⟩)⟩
  .grind
  .obtain ⟨s,h2⟩:=Xi.1 h
   obtain ⟨g1,_,u,_⟩:=hk k s
   exact ⟨g1,by simpa using h2,Ya _ _ _ V2 u.r⟩
  .refine ⟨Yk V2 V2,Zav,Zav,fun w h=> (hw w (Xi.1 h).1).1,Yk V2 V2,ZfE fun k h=> ?_,trivial⟩
   obtain ⟨_,g2,u,_⟩:=hk k (Xi.1 h).1
   exact ⟨g2,u.g⟩
  .rw [Z0N]
   refine ⟨⟨hT,hT⟩,fun k h=> (hk k (Xi.1 h).1).2.2.2,fun o h=> (by cases h)⟩
  .have l1:=Ka (fun w:WEdit=> !decide (w.mask=0)) W
   have l2:∀ l:List Kid,Z0B K (l.filter fun k=> !decide (k.e.kind=0))<=Z0B K l:=by
    intro l
    induction l with
    | nil=> grind
    | cons k r ih=>
     rw [Ko]
     split
     .simp only [Z0B];omega
     .simp only [Z0B];omega
   have l2:=l2 Ks
   have e:=Zgt (K:=K) p
   have m1:=Z8S p.old;have m2:=Z8S p.new
   have ab:∀ w k:Nat,w<=W.length->k<=Z0B K Ks->K.k+1+1+K.c*w+k+0<=owE K p:=by intro w k s h2;have:=Nat.mul_le_mul_left K.c s;omega
   exact ab _ _ l1 l2
theorem ZiP{α:Type}{at_:α->Int}{f:α->α->α}{q:List α}{a:α}:YX at_ f q a=a\/∃ b∈q,at_ b=at_ a/\YX at_ f q a=f a b:=by
 unfold YX
 cases h:Z3P at_ q (at_ a) with
 | none=> simp
 | some b=> obtain ⟨u,s⟩:=Z4Y at_ _ q b h;grind
theorem ZKc {f:Edit->Edit->Lft} {a b:Int} (ha:0<=a) (hb:0<=b) {p q:Edit} (wp:Wk p) (wq:Wk q) (tp:YR a p) (p2:p.kind=2)
  (hf:∀ x∈p.kids,∀ y∈q.kids,LbX K (a+b) (f x.e y.e).x x.e):LbX K (a+b) (Z6k f p q).x p:=by
 have rp:=Zh wp.r
 have gp:=ZC wp.g
 rw [Z0N] at tp
 have h:∀ k∈p.kids,LbX K (a+b) (YX KidOf.at_ (fun a b:Kid=> ⟨a.at_,(f a.e b.e).x⟩) q.kids k).e k.e:=by
  intro k hk
  rcases ZiP (at_:=KidOf.at_) (f:=fun a b:Kid=> ⟨a.at_,(f a.e b.e).x⟩) (q:=q.kids) (a:=k) with e | ⟨y,hy,_,e⟩
  .rw [e]
   exact .self ⟨Ya _ _ _ V2 (Zs rp.kids k hk).2,(Y6 gp.2.2.2.1 hk).2⟩ (Z5p _ _ (Qb _) JX (tp.2.1 k hk))
  .grind
 have u:∀ k:Kid,(YX KidOf.at_ (fun a b:Kid=> ⟨a.at_,(f a.e b.e).x⟩) q.kids k).at_=k.at_:=fun k=> Z1F (at_:=KidOf.at_) (f:=fun a b:Kid=> ⟨a.at_,(f a.e b.e).x⟩) (fun _ _=> rfl) q.kids k
 refine ZFl JX p2 (Z25 (Z1F Zbf _) (Z03 rp.words)) (Z25 u (Z0U rp.kids)) (fun w hw=> ?_) (fun k hk=> ?_) ?_
 .obtain ⟨v,s,rfl⟩:=X8.1 hw
  have A:=YQ rp.words v s
  have R:=gp.2.2.1 v s
  rcases ZiP (at_:=WEdit.at_) (f:=Z1D) (q:=q.words) (a:=v) with e | ⟨y,hy,_,e⟩
  .grind
  .rw [e]
   obtain ⟨r1,r2,r3⟩:=Zyr (b:=y) R
   exact ⟨r1,by rw [Zbf];exact A.2.1,r2,r3⟩
 .obtain ⟨v,s,rfl⟩:=X8.1 hk
  have A:=(Zs rp.kids v s).1
  have H:=h v s
  rw [u]
  exact ⟨A.2.1,(Y6 gp.2.2.2.1 s).1,H.wk,H.th⟩
 .rw [X3]
  have ah:∀ l:List Kid,(∀ k∈l,k∈p.kids)->Z0B K (l.map (YX KidOf.at_ (fun a b:Kid=> ⟨a.at_,(f a.e b.e).x⟩) q.kids))<=Z0B K l:=by
   intro l
   induction l with
   | nil=> grind
   | cons k r ih=>
    intro hl
    have:=(h k (hl k Q7)).ow
    have:=ih fun x hx=> hl x (Q0 _ hx)
    simp only [Xb,Z0B,Zm8]
    omega
  grind
theorem Zor{l:List Op}(h:∀ o∈l,ZX o)(hs:Ju l < 1048576/\J5 l < 1048576):Z1C l 0 < 1048576/\Z1B l 0 < 1048576:=by
 have s:∀ o∈l,0<=Z4 o:=fun o u=> by have:=ZJ (h o u);omega
 have a:=(Z3M l 0 s V2 V2).1
 have b:=(Z3K l 0 s V2 V2).1
 omega
theorem Z4c{e:Edit}(w:Wk e):∀ o∈e.ops,OkO e.list o:=by
 intro o h
 have r:=rightOs_mem (Zh w.r).ops h
 exact ⟨Y3 w.r o h,r,Z0z (ZC w.g).2.2.2.2 h⟩
theorem ZFm{list T:Int}{l:List Op}{A B:Int}{W:Nat}{p:Edit}(hT:0<=T)(hli:2<=list/\list<=9)(h:OpsX K list T l A B W)(hA:A<=T)(hB:B<=T)(h1:T < 1048576)(p3:p.kind=3)(hp:p.list=list)(hW:W<=Jv K p.ops):LbX K T (Z1w list l) p:=by
 unfold Z1w
 split
 .have la:=h.la;have lb:=h.lb
  obtain ⟨k1,k2⟩:=Zor (fun o s=> (h.ok o s).1.1) (l:=l) ⟨JX,JX⟩
  refine ⟨⟨Zi7 hli (Z98 fun o s=> (h.ok o s).1.2.1) k1 k2,?_⟩,?_,?_,.inr (.inr ⟨by rw [p3];rfl,.inr p3⟩)⟩
  .exact ⟨Yk V2 V2,Zav,Zav,fun w u=> (by cases u),Yk JX JX,trivial,ZfC fun o s=> (h.ok o s).1.2.2⟩
  .rw [Z0N]
   exact ⟨⟨by show Ju l<=T;omega,by show J5 l<=T;omega⟩,fun k hk=> (by cases hk),fun o s=> (h.ok o s).2⟩
  .have e:=Zgt (K:=K) p
   have m1:=Z8S p.old;have m2:=Z8S p.new
   have:=h.ow
   simp only [owE,Z0B,Tree.nil,Zo,Zg,Qp,XF]
   omega
 .exact .nil hT p
theorem ZKm {f:Edit->Edit->Lft} {a b:Int} (ha:0<=a) (hb:0<=b) (hab:a+b < 1048576) {p q:Edit} (wp:Wk p) (wq:Wk q) (tp:YR a p) (tq:YR b q) (p3:p.kind=3) (hl:p.list=q.list)
  (hf:∀ x∈p.ops,∀ y∈q.ops,x.kind=3->y.kind=3->LbX K (a+b) (f x.e y.e).x x.e):LbX K (a+b) (Z4V f p q).x p:=by
 have rp:=Zh wp.r
 have h:=rp.list p3
 rw [Z0N] at tp tq
 unfold Z4V
 by_cases hc:(ZA 2 2 p.ops q.ops []).2.1=true
 .rw [if_pos hc]
  obtain ⟨ps,e,u⟩:=ZgZ (f:=f) _ p.ops q.ops [] (Qb _) hc
  rw [e,Qt]
  have S:=ZKr (K:=K) h ha hb (u [] []) (fun o s=> ⟨Z4c wp o s,tp.2.2 o s⟩) (fun o s=> by rw [hl];exact Z4c wq o s) hf (fun t ht=> by cases ht) (by grind)
  simp only [Qp,owL,Zg,XF] at S
  exact ZFm JX h S JX JX hab p3 rfl JX
 .rw [if_neg hc]
  exact .nil JX p
theorem ZFj {f:Edit->Edit->Lft} {a b:Int} (ha:0<=a) (hb:0<=b) (hab:a+b < 1048576) {p q:Edit} (wp:Wk p) (wq:Wk q) (tp:YR a p) (tq:YR b q)
  (hf:∀ x y,Z8 x+Z8 y < Z8 p+Z8 q->Wk x->Wk y->YR a x->YR b y->LbX K (a+b) (f x y).x x):LbX K (a+b) (YW f p q).x p:=by
 by_cases p0:p.kind=0
 .rw [lb0 (.inl p0)];exact .self wp (Z5p _ _ (Qb _) JX tp)
 by_cases q0:q.kind=0
 .rw [lb0 (.inr q0)];exact .self wp (Z5p _ _ (Qb _) JX tp)
 by_cases p1:p.kind=1
 .rw [lb1 p1 q0];exact .nil JX p
 by_cases q1:q.kind=1
 .rw [ZC4 p0 p1 q1];exact .nil JX p
 by_cases hd:p.kind≠q.kind\/p.list≠q.list
 .rw [lbd p0 p1 q0 q1 hd];exact .nil JX p
 have hk:p.kind=q.kind:=JX
 have hl:p.list=q.list:=JX
 have rp:=Zh wp.r
 have rq:=Zh wq.r
 have u:=Z0N.1 tp
 have aa:=Z0N.1 tq
 by_cases p2:p.kind=2
 .rw [lb2 p2 JX hl]
  refine ZKc ha hb wp wq tp p2 fun x s y h=> ?_
  have:=Yd s;have:=Yd h
  exact hf _ _ JX ⟨Ya _ _ _ V2 (Zs rp.kids x s).2,(Y6 (ZC wp.g).2.2.2.1 s).2⟩ ⟨Ya _ _ _ V2 (Zs rq.kids y h).2,(Y6 (ZC wq.g).2.2.2.1 h).2⟩ (u.2.1 x s) (aa.2.1 y h)
 .have kp:=rp.kind
  rw [lb3 hk p0 p1 p2 hl]
  refine ZKm ha hb hab wp wq tp tq JX hl fun x s y h kx ky=> ?_
  have:=YV s;have:=YV h
  exact hf _ _ JX ((Z3D (Z4c wp x s) kx).1.2.2.2) ((Z3D (Z4c wq y h) ky).1.2.2.2) (u.2.2 x s) (aa.2.2 y h)
theorem ZKp{a b:Int}(ha:0<=a)(hb:0<=b)(hab:a+b < 1048576):∀ (n:Nat) (p q:Edit),Z8 p+Z8 q<=n->Wk p->Wk q->YR a p->YR b q->LbX K (a+b) (lbF n p q).x p:=by
 intro n
 induction n with
 | zero=> intro p q h;obtain ⟨k,o,nw,w,ks,l,os⟩:=p;simp only [Z8] at h;omega
 | succ n ih=>
  intro p q hn wp wq tp s
  exact ZFj ha hb hab wp wq tp s fun x y ae wx wy tx u=> ih x y JX wx wy tx u
theorem ZEu{a b:Int}(ha:0<=a)(hb:0<=b)(hab:a+b < 1048576){p q:Edit}(wp:Wk p)(wq:Wk q)(tp:YR a p)(tq:YR b q):LbX K (a+b) (lbE p q).x p/\LbX K (a+b) (lbE p q).y q:=by
 refine ⟨ZKp ha hb hab _ p q (Qb _) wp wq tp tq,?_⟩
 have h:=ZKp (K:=K) hb ha JX _ q p (Qb _) wq wp tq tp
 rw [show lbF (Z8 q+Z8 p) q p=lbE q p from rfl,Zyu wp.r wq.r] at h
 rw [Int.add_comm]
 exact h
end Go.AM.YtpjenobkibfpcaaGreat
namespace Go.AM
noncomputable def Z95:List Edit->Tree->Option Tree
 | [],t=> some t
 | e ::r,t=> (doE false e t).bind (Z95 r)
noncomputable def Z6e:List Edit->Edit->Edit × Bool
 | [],x=> (x,true)
 | e ::r,x=> if (Z24 x e).2=true then Z6e r (Z24 x e).1 else (Edit.nil,false)
noncomputable def Z6d(l:List Edit):Edit × Bool:=if (Z6e l Edit.nil).2=true then (Zj (Z6e l Edit.nil).1,true) else (Edit.nil,false)
def ctL:List Edit->Nat
 | []=> 0
 | e ::r=> ctE e+ctL r
end Go.AM
namespace Go.AM.YtpjenobkibfpcaaGreat
open Go.AM Go.Proofs
theorem Z7X(n:Int):(Z0F n).length<=1:=by unfold Z0F;split <;> simp
theorem ZAC{A B C:Option Tree}(h:OptR Eqv A B)(e:B=C):OptR Eqv A C:=e▸h
theorem Ztz(x:Option Tree):OptR Eqv x x:=by
 cases x with
 | none=> exact trivial
 | some t=> rfl
instance decStep:DecidableEq PStep:=fun a b=> decidable_of_iff (a.kind=b.kind/\a.at_=b.at_) (by cases a;cases b;simp)
theorem ZfT{e:Edit}(h:Y4 e):Y4 (Zj e):=by
 obtain ⟨c,g,d,r⟩:=h
 exact ⟨QF (Z4y e) c,Z0A e d r g,d,Jm e d r⟩
def Zto(p q:Edit):Prop:=Y4 p/\Y4 q/\((lbE (Zj p) (Zj q)).a=false->(lbE (Zj p) (Zj q)).c=false->Y4 (lbE (Zj p) (Zj q)).x/\Y4 (lbE (Zj p) (Zj q)).y)
theorem Zqa{p q:Edit}(h:Zto p q):(Y4 (Zj p)/\Y4 (Zj q))/\((lbE (Zj p) (Zj q)).a=false->(lbE (Zj p) (Zj q)).c=false->Y4 (lbE (Zj p) (Zj q)).x/\Y4 (lbE (Zj p) (Zj q)).y):=⟨⟨ZfT h.1,ZfT h.2.1⟩,h.2.2⟩
end Go.AM.YtpjenobkibfpcaaGreat
