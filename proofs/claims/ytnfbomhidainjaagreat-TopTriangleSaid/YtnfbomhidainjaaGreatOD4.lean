import Derived.Test.YtnfbomhidainjaaGreatTCL25k
import Derived.Test.YtnfbomhidainjaaGreatTKL22r
import Derived.Test.YtnfbomhidainjaaGreatTCL25c
import Derived.Test.YtnfbomhidainjaaGreatTKG24
set_option linter.unusedSimpArgs false
set_option linter.unusedVariables false
namespace Go.AM.YtnfbomhidainjaaGreat
open Go.AM Go.Proofs
theorem ZBN(e:Edit):e.words.length+e.ops.length+Zo e.kids+Ze e.ops+mass e.old+mass e.new+1=Zc e:=by obtain ⟨k,o,n,w,ks,l,os⟩:=e;simp only [Zc,Edit.words_mk,Edit.ops_mk,Edit.kids_mk,Edit.old_mk,Edit.new_mk];omega
theorem ZpB(t:Tree):1<=mass t:=by obtain ⟨k,w,ks⟩:=t;simp only [mass];omega
theorem ZgC{e:Edit}(h:Z21 e):Zc e<=9000000000:=QZ (Z9w e) h.1
theorem ZcP{e:Edit}(h:Z21 e):Z41 (e,())/\Z21 (Zv (Zp e)):=by
 have hm:=ZgC h
 obtain ⟨m,r,d,hr⟩:=h
 refine ⟨⟨by grind,d,hr⟩,?_,?_,d,Z0Q _ _ (YF _ _ hr)⟩
 .have:=Zbp (Zp e)
  rw [Zaj] at this
  omega
 .exact Z2y _ d (YF _ _ hr) (Z3Y e r)
theorem Zao{e:Edit}{t:Tree}(h:Z21 e)(hm:mass t<=100000000000)(ht:rng t):Z40 (e,t,()):=by
 have:=ZgC h
 have:=h.1
 exact ⟨⟨by grind,h.2⟩,by grind,ht⟩
theorem Zpc{e:Edit}(h:Z21 e):ZcF e.kids:=by
 obtain ⟨m,r,d,hr⟩:=h
 have:=Z5d e
 exact ⟨V0,(YL r).2.2.2.1,fun k hk=> ⟨_,(Ya (Zq hr).kids k hk).2⟩⟩
theorem Zpb{e:Edit}(h:Z21 e):Zrc e.ops:=by
 obtain ⟨m,r,d,hr⟩:=h
 have:=Z5d e
 exact ⟨V0,(YL r).2.2.2.2,fun o ho=> ⟨_,_,rightOs_mem (Zq hr).ops ho⟩⟩
theorem b19:ZIb:=by
 intro N p q _ hp hN
 obtain ⟨op,oq⟩:=hp
 dsimp only at op oq
 have au:8*(Zc p+Zc q) < N+1:=hN
 obtain ⟨dp,rp⟩:=op.2.2
 obtain ⟨dq,rq⟩:=oq.2.2
 have d:=Zhl rp rq
 unfold JV at d
 have lp:=ZBN p
 have lq:=ZBN q
 have mo:=ZpB p.old;have mn:=ZpB p.new;have a1:=ZpB q.old;have ay:=ZpB q.new
 have gp:=YL op.2.1
 have gq:=YL oq.2.1
 have cp:=Z5d p;have cq:=Z5d q;have aw:=op.1;have av:=oq.1
 have aa:∀ {X:Edit} {b:Bool} {s:LSt U},Yy p q=(X,b)->JZ cfg Tryz.f19.ntmps Tryz.f19.results.toList (.tup [(true,enc .edit X),(false,[.bool b])]) [] .ret s->JZ cfg Tryz.f19.ntmps Tryz.f19.results.toList (Z5T (p,q,())) [] .ret s:=by
  intro X b s h hs
  refine Z0x ?_ hs
  simp only [Z5T]
  rw [h]
  try rfl
 refine ZJn N p q _ ?_
 intro y1 h1 y2 h2 y3 h3 y4 h4 y5 h5
 replace h1:=h1.symm;replace h2:=h2.symm;replace h3:=h3.symm;replace h4:=h4.symm
 subst h1 h2 h3 h4
 (simp only [iB,vcT,vcS])
 try dsimp only at h5 ⊢
 refine ⟨fun p0=> aa (by rw [d,if_pos p0]) V1,fun p0=> ?_⟩
 rw [if_neg p0] at d
 refine ⟨fun q0=> aa (by rw [d,if_pos q0]) V1,fun q0=> ?_⟩
 rw [if_neg q0] at d
 refine ⟨fun p1=> ⟨Zao oq V0 gp.2.1,aa (by rw [d,if_pos p1]) (by unfold doB;(repeat' (first | exact trivial | exact rfl | apply And.intro)))⟩,fun p1=> ?_⟩
 rw [if_neg p1] at d
 refine ⟨fun q1=> ⟨(ZcP op).1,by rw [h5];exact Zao (ZcP op).2 V0 gq.1,aa (by rw [d,if_pos q1,<-h5]) (by unfold doB;(repeat' (first | exact trivial | exact rfl | apply And.intro)))⟩,fun q1=> ?_⟩
 rw [if_neg q1] at d
 refine ⟨fun hd=> aa (by rw [d,if_pos hd]) V1,fun hd=> ?_⟩
 rw [if_neg (by rintro (h | h);exact h hd.1;exact h hd.2)] at d
 refine ⟨fun p2=> ?_,fun p2=> ?_⟩
 .rw [if_pos p2] at d
  refine ⟨⟨⟨gp.2.2.1,V3⟩,gq.2.2.1,V3⟩,fun hw=> ?_,fun hw=> ⟨⟨Zpc op,Zpc oq⟩,by show 8*(Zo p.kids+Zo q.kids)+4 < N;omega,?_⟩⟩
  .exact aa (by rw [d,if_neg (by rw [hw];decide)]) V1
  .exact aa (by rw [d,if_pos hw]) V1
 .rw [if_neg p2] at d
  exact ⟨⟨Zpb op,Zpb oq⟩,by show 8*(Ze p.ops+Ze q.ops)+40 < N;omega,aa d V1⟩
theorem b35:ZI6:=by
 intro N a b _ hp d
 have aa:8*(Zo a+Zo b)+4 < N+1:=d
 refine ZJb N a b _ ?_
 exact ⟨hp,by show 8*(Zo a+Zo b)+3 < N;omega,V1⟩
theorem ZjX{k:Kid}(h:Z1D k):InR k.at_/\Yi k.e:=by cases k;exact h
theorem b55:ZHX:=by
 intro N a b _ hp hN
 obtain ⟨d,ob⟩:=hp
 dsimp only at d ob
 have ah:8*(Ye a+Ye b)+1 < N+1:=hN
 have ka:=Z6Q a
 have kb:=Z6Q b
 refine ZIT N a b _ ?_
 intro y1 h1 y2 h2
 replace h1:=h1.symm;replace h2:=h2.symm
 subst h1 h2
 try dsimp only
 have ra:Z21 a.e:=⟨by have:=d.1;rw [Z4x] at this;omega,(ZjX d.2.1).2,d.2.2⟩
 have rb:Z21 b.e:=⟨by have:=ob.1;rw [Z4x] at this;omega,(ZjX ob.2.1).2,ob.2.2⟩
 exact ⟨⟨ra,rb⟩,by show 8*(Zc a.e+Zc b.e) < N;omega,by unfold Z7o Z1p;(repeat' (first | exact trivial | exact rfl | apply And.intro))⟩
theorem Zgp{l:List Kid}(h:ZcF l):ZcF (l.drop 1):=by
 cases l with
 | nil=> exact h
 | cons k r=>
  obtain ⟨h1,d,h3⟩:=h
  simp only [Z0W] at h1
  exact ⟨by grind,d.2,fun x hx=> h3 x (Q3 _ hx)⟩
theorem Zgo{l:List Kid}(h:ZcF l)(hl:0 < l.length)(z:Kid):Zwe (l.getD 0 z)/\Ye (l.getD 0 z)+Zo (l.drop 1)=Zo l:=by
 cases l with
 | nil=> simp at hl
 | cons k r=>
  obtain ⟨h1,h2,d⟩:=h
  simp only [Z0W] at h1
  exact ⟨⟨by grind,h2.1,d k Q5⟩,rfl⟩
theorem Zch:∀ l:List Kid,Zo (l.drop 1)<=Zo l
 | []=> Qg _
 | k ::r=> by simp only [X2,Xg,Zo];omega
theorem b53:ZHY:=by
 rintro N p q ⟨⟩ ⟨⟩ _ hp hN
 obtain ⟨op,oq⟩:=hp
 dsimp only at op oq
 have a7:8*(Zo p+Zo q)+3 < N+1:=hN
 have lp:=JT p
 have lq:=JT q
 have bp:=QZ (Z6P p) op.1;have bq:=QZ (Z6P q) oq.1
 refine ZIV N p q () () _ ?_
 refine Z8 (ι:=List Kid × List Kid × List Kid) (fun x=> Z4h p q () () x.1 x.2.1 x.2.2) (fun x=> MInv KidOf.at_ (Z1p Yy) p q x.1 x.2.1 x.2.2/\(ZcF x.1/\Zo x.1<=Zo p)/\ZcF x.2.1/\Zo x.2.1<=Zo q) (fun x=> x.1.length+x.2.1.length) (p,q,[]) rfl
  ⟨⟨by simp_all,by simp⟩,⟨op,Qg _⟩,oq,Qg _⟩ ?_
 rintro ⟨x0,x1,d⟩ ⟨inv,⟨r0,m0⟩,r1,m1⟩
 dsimp only at inv r0 r1 m0 m1
 have am:=inv.len
 refine Zy8 N p q () () _ _ _ _ _ ?_
 intro y1 h1 y2 h2 y3 h3 y4 h4 y5 h5
 subst h3 h4
 (simp only [iB,vcT,vcS])
 have h3:y3=x0.getD 0 ⟨0,Edit.nil⟩:=h1
 have h4:y4=x1.getD 0 ⟨0,Edit.nil⟩:=h2
 have d0:ZcF (x0.drop 1)/\Zo (x0.drop 1)<=Zo p:=⟨Zgp r0,by have:=Zch x0;omega⟩
 have d1:ZcF (x1.drop 1)/\Zo (x1.drop 1)<=Zo q:=⟨Zgp r1,by have:=Zch x1;omega⟩
 refine ⟨fun a2=> ⟨fun h=> ⟨V0,V0⟩,fun _=> trivial,fun h=> ⟨V0,V0⟩,fun _=> trivial,fun g1 g2=> ⟨g1,g2⟩,fun hA=> ?_,fun hB=> ?_⟩,fun hE=> ?_⟩
 .refine ⟨⟨V0,V0⟩,by grind,⟨V0,V0⟩,(x0.drop 1,x1,d++[y3]),rfl,⟨?_,d0,r1,m1⟩,by grind⟩
  rw [h3]
  exact inv.left' _ V0 (by grind)
 .refine ⟨fun h=> ⟨V0,V0⟩,fun _=> trivial,fun h=> ⟨V0,V0⟩,fun _=> trivial,fun hC=> ?_,fun hD=> ?_⟩
  .refine ⟨⟨V0,V0⟩,by grind,⟨V0,V0⟩,(x0,x1.drop 1,d++[y4]),rfl,⟨?_,⟨r0,m0⟩,d1⟩,by grind⟩
   rw [h4]
   exact inv.right' _ V0 (by grind)
  .have hb:=inv.both' ⟨0,Edit.nil⟩ V0 V0 (by grind)
   rw [<-h3,<-h4] at hb
   obtain ⟨k3,n3⟩:=Zgo r0 V0 ⟨0,Edit.nil⟩
   obtain ⟨k4,n4⟩:=Zgo r1 V0 ⟨0,Edit.nil⟩
   rw [<-h3] at k3 n3
   rw [<-h4] at k4 n4
   refine ⟨⟨V0,V0⟩,⟨V0,V0⟩,⟨k3,k4⟩,by show 8*(Ye y3+Ye y4)+1 < N;omega,fun hc=> ?_,fun hc=> ?_⟩
   .have e:=ZeN (hb.2 hc)
    refine Z0x (r':= .tup [(false,[.slice (U:=U) .kid [] .unk]),(false,[.bool false])]) ?_ V1
    simp only [Z5R]
    rw [e.1,e.2]
   .refine ⟨by grind,⟨V0,V0⟩,⟨V0,V0⟩,(x0.drop 1,x1.drop 1,d++[y5]),rfl,⟨?_,d0,d1⟩,by grind⟩
    grind
 .have e0:x0=[]:=Q1 V0
  have e1:x1=[]:=Q1 V0
  subst e0 e1
  have e:=inv.done
  refine Z0x (r':= .tup [(false,[.slice (U:=U) .kid d .unk]),(false,[.bool true])]) ?_ V1
  simp only [Z5R]
  rw [e]
  try rfl
theorem ZkD{l:List Op}{o:Op}(h:Part l o)(ho:YW o)(hl:Z0k l):YV o:=by
 obtain ⟨o',m,k,e1,_,lt⟩:=h
 have G:=Z1T (Z3X hl m)
 obtain ⟨kk,nn,ll,ee⟩:=o
 have k:kk=o'.kind:=k
 have e1:ee=o'.e:=e1
 have lt:∀ t∈ll,t∈o'.l:=lt
 refine ⟨by grind,?_,Z6C fun t ht=> J2 G.2.2.1 (lt t ht),by grind⟩
 rcases ho with h | h | h
 .have:=h.2.2.1
  unfold InR
  grind
 .have d:nn=0:=h.2.1
  rw [d];trivial
 .have d:nn=0:=h.2.1
  rw [d];trivial
theorem Z6F{l:List Op}{o:Op}(h:Part l o):Z2h o<=J5 l/\Zs o<=Ze l:=by
 obtain ⟨o',m,k,d,hm,_⟩:=h
 have h1:=Zfm m
 have h2:=Z0m m
 have a:=Z5c o
 rw [YQ,YQ,d] at hm
 rw [d] at a
 rw [YQ] at h2
 rw [YQ,d]
 omega
theorem Zey{l:List Op}{o:Op}(h:Part l o)(hl:∀ o∈l,∃ list d,Za list o d=true)(k3:o.kind=3):∃ d,Z7 o.e d=true:=by
 obtain ⟨o',m,k,e1,hm,_⟩:=h
 obtain ⟨list,d,hr⟩:=hl o' m
 exact ⟨d,by rw [e1];exact JR hr V0⟩
theorem Zuw{p q:List Op}(hp:Zrc p)(hq:Zrc q){x:Piece}(h:POk p q x):PcOk x:=by
 refine ⟨h.of,fun e=> ?_,fun e=> ?_,h.both⟩
 .obtain ⟨a,b⟩:=h.pp e
  exact ⟨b,QZ (Z6F a).1 hp.1,ZkD a b hp.2.1,Zey a hp.2.2⟩
 .obtain ⟨a,b⟩:=h.qq e
  exact ⟨b,QZ (Z6F a).1 hq.1,ZkD a b hq.2.1,Zey a hq.2.2⟩
theorem ZBh{p:List Op}(hp:Zrc p):ZaZ p:=by
 refine ⟨fun o d=> ?_,?_⟩
 .obtain ⟨_,_,h⟩:=hp.2.2 o d
  exact Z7Q h
 .have:=Z45 p
  have:=hp.1
  omega
theorem b36:ZI5:=by
 intro N p q _ hp hN
 obtain ⟨op,oq⟩:=hp
 dsimp only at op oq
 have a6:8*(Ze p+Ze q)+40 < N+1:=hN
 have kp:=ZBh op
 have kq:=ZBh oq
 obtain ⟨i1,_⟩:=Z9f _ p q [] (Qg _) kp.1 kq.1
 refine ZJa N p q _ ?_
 (simp only [iB,vcT,vcS])
 refine ⟨⟨kp,kq⟩,fun hb=> ?_,fun hb=> ?_⟩
 .have e:Z0A Yy p q=none:=by unfold Z0A;grind
  refine Z0x (r':= .tup [(false,[.slice (U:=U) .op [] .unk]),(false,[.bool false])]) ?_ V1
  simp only [Z5s]
  rw [e];try rfl
 .obtain ⟨ps,e,aq,_,_⟩:=i1 hb
  obtain ⟨az,e1,_,_,av⟩:=ZeB ZCb ZCa 1 _ p q [] (Qg _) kp.1 kq.1 hb
  rw [e,Qn,Qn] at e1
  subst e1
  rw [Qn] at e
  have ai:Z0A Yy p q=Z0r Yy ps:=by unfold Z0A;grind
  refine Z8 (ι:=Int × List Op) (fun s=> Z6i p q s.1 s.2) (fun s=> 0<=s.1/\s.1<=ps.length/\Z0r Yy ps=(Z0r Yy (ps.drop s.1.toNat)).map (s.2++·)/\s.2.length+(ps.drop s.1.toNat).length<=ps.length) (fun s=> ((ps.length:Int) - s.1).toNat) (0,[]) rfl ⟨by simp,by simp,by simp,by simp⟩ ?_
  rintro ⟨i,out⟩ ⟨f1,f2,d,f4⟩
  dsimp only at f1 f2 d f4
  refine Zyl N p q _ _ _ _ ?_
  intro y1 h1 y2 h2 y3 h3
  rw [e] at h1 ⊢
  subst h2
  (simp only [iB,vcT,vcS])
  refine ⟨fun hi=> ?_,fun hi=> ?_⟩
  .have h1:y2=ps.getD i.toNat (Piece.mk 0 Op.nil Op.nil):=h1
   have af:y2∈ps:=by rw [h1];exact Zi V0 _
   have hx:=aq y2 af
   have hd:ps.drop i.toNat=y2 ::ps.drop (i+1).toNat:=by rw [h1];exact Jj f1 hi _
   rw [hd,Z0r] at d
   rw [hd,Qd] at f4
   have ao:8*(Zs y2.p+Zs y2.q)+1 < N:=by
    rcases hx.of with h | h | h
    .have:=(Z6F (hx.pp V0).1).2;have:=(Z6F (hx.qq V0).1).2;omega
    .have:=(Z6F (hx.pp V0).1).2;rw [hx.qn h,show Zs Op.nil=3 from rfl];omega
    .have:=(Z6F (hx.qq V0).1).2;rw [hx.pn h,show Zs Op.nil=3 from rfl];omega
   have c1:=Z45 p;have c2:=Z45 q;have c3:=op.1;have c4:=oq.1
   refine ⟨⟨f1,hi⟩,Zuw op oq hx,ao,fun hc=> ?_,fun hc=> ⟨fun ae=> ?_,fun ae=> ?_⟩⟩
   .rw [if_neg (by grind)] at d
    refine Z0x (r':= .tup [(false,[.slice (U:=U) .op [] .unk]),(false,[.bool false])]) ?_ V1
    simp only [Z5s]
    rw [ai,d];try rfl
   .rw [if_pos hc,if_pos ae] at d
    refine ⟨by grind,V4,(i+1,out++[y3]),rfl,⟨V0,V0,?_,?_⟩,V0⟩
    .rw [d,h3]
     cases Z0r Yy (ps.drop (i+1).toNat) <;> simp
    grind
   .rw [if_pos hc,if_neg (by grind)] at d
    refine ⟨V4,(i+1,out),rfl,⟨V0,V0,?_,by grind⟩,V0⟩
    simp_all
  .rw [Qe V0,Z0r] at d
   refine Z0x (r':= .tup [(false,[.slice (U:=U) .op out .unk]),(false,[.bool true])]) ?_ V1
   simp only [Z5s]
   rw [ai,d]
   simp [ofO]
theorem Zg3{α:Type}{l:List α}{i:Nat}(h:i < l.length)(d:α):l.take (i+1)=l.take i++[l.getD i d]:=by
 simp_all
theorem Zlo{a b:List Tree}(h:Z4 a=Z4 b):ZiT a b=true:=Z3y.2 h
theorem ZAl{a b:List Tree}(h:¬Z4 a=Z4 b):ZiT a b=false:=by rw [<-Kg];exact fun e=> h (Z3y.1 e)
theorem ZkW(o:Op):Z6 o.l<=Z2h o:=by rw [Z5c];omega
theorem b57:ZHW:=by
 intro N x _ hp hN
 have hp:PcOk x:=hp
 have am:8*(Zs x.p+Zs x.q)+1 < N+1:=hN
 have d:∀ {o:Op} {i k:Bool} {s:LSt U},ZA Yy x=⟨o,i,k⟩->JZ cfg Tryz.f57.ntmps Tryz.f57.results.toList (.tup [(true,enc .op o),(false,[.bool i]),(false,[.bool k])]) [] .ret s->JZ cfg Tryz.f57.ntmps Tryz.f57.results.toList (Z5Q (x,())) [] .ret s:=by
  intro o i k s h hs
  refine Z0x ?_ hs
  simp only [Z5Q]
  rw [h];try rfl
 refine ZIR N x _ ?_
 intro y1 h1 y2 h2 y3 h3 y4 h4 y5 h5 y6 h6 y7 h7 y8 h8 y9 h9
 subst h1 h2 h5 h6
 (simp only [iB,vcT,vcS])
 have hc:=ZA.eq_1 Yy x
 refine ⟨fun _ h=> ⟨V0,h⟩,fun c1=> d (by rw [hc,if_pos c1]) V1,fun c1=> ?_⟩
 rw [Yo] at hc
 refine ⟨fun c2=> d (by rw [hc,if_pos c2]) V1,fun c2=> ?_⟩
 rw [Yo] at hc
 have c0:x.of=0:=by rcases hp.of with h | h | h <;> omega
 obtain ⟨b1,b2,b3⟩:=hp.both c0
 obtain ⟨op,mp,gp,rp⟩:=hp.pp V0
 obtain ⟨oq,mq,gq,rq⟩:=hp.qq V0
 have ep:=Z5c x.p
 have eq:=Z5c x.q
 have ab:=Z1T gp
 have aa:=Z1T gq
 have ap:=ZkW x.p
 have aq:=ZkW x.q
 refine ⟨fun c3=> ?_,fun c3=> ?_⟩
 .rw [if_pos c3] at hc
  have l1:=YP op (.inr c3.1)
  have l2:=YP oq (.inl c3.2)
  have k1:=Y4 x.p.l
  rw [Qs V0] at hc
  refine Z8 (ι:=Int) (fun i=> Z9P x i) (fun i=> 0<=i/\i<=x.p.l.length/\Z4 (x.p.l.take i.toNat)=Z4 (x.q.l.take i.toNat)) (fun i=> ((x.p.l.length:Int) - i).toNat) 0 rfl ⟨V0,V0,by simp⟩ ?_
  rintro i ⟨f1,f2,f3⟩
  refine Zy7 N x _ _ _ ?_
  intro z1 g1 z2 g2 z3 g3 z4 g4
  subst g1 g2
  (simp only [iB,vcT,vcS])
  have l3:x.p.l.length=x.q.l.length:=V0
  refine ⟨fun hi=> ?_,fun hi=> ?_⟩
  .have m1:z3∈x.p.l:=by rw [g3];exact Zi V0 _
   have m2:z4∈x.q.l:=by rw [g4];exact Zi V0 _
   have bn:=Y3 m1
   have bw:=Y3 m2
   have t1:x.p.l.take (i+1).toNat=x.p.l.take i.toNat++[z3]:=by rw [g3,show (i+1).toNat=i.toNat+1 by omega];exact Zg3 V0 _
   have t2:x.q.l.take (i+1).toNat=x.q.l.take i.toNat++[z4]:=by rw [g4,show (i+1).toNat=i.toNat+1 by omega];exact Zg3 V0 _
   refine ⟨⟨f1,hi⟩,⟨f1,V0⟩,⟨V3,V3⟩,fun af=> d (by rw [hc,ZAl];intro he;rw [JM] at af;apply af;rw [g3,g4];exact Zct he i.toNat) V1,fun al=> ⟨V4,i+1,rfl,⟨V0,V0,?_⟩,V0⟩⟩
   rw [t1,t2]
   exact Z10 f3 (YX.2 (ZX.1 al))
  .rw [Qs V0,Qs V0] at f3
   exact d (by rw [hc,Zlo f3]) V1
 rw [Yo] at hc
 have kp:x.p.kind=2\/x.p.kind=3:=by rcases Yx op with k | k | k | k <;> omega
 have kq:x.q.kind=1\/x.q.kind=3:=by rcases Yx oq with k | k | k | k <;> omega
 refine ⟨fun c4=> ?_,fun c4=> ?_⟩
 .rw [if_pos c4] at hc
  have l1:=YP op (.inr c4)
  have l2:=Z0O (o:=x.q) V0
  have hl:0 < x.p.l.length:=V0
  have m3:y5∈x.p.l:=by rw [h3];exact Zi hl _
  have bl:=Y3 m3
  refine ⟨⟨V0,V0⟩,Zao ⟨V0,aa.2.2.2,rq V0⟩ V0 (J2 ab.2.2.1 m3),d hc ?_⟩
  rw [show x.p.l.getD 0 Tree.nil=y5 from h3.symm]
  unfold doB
  rw [<-h8]
  exact V1
 rw [if_neg c4] at hc
 have p3:x.p.kind=3:=V0
 refine ⟨fun c5=> ?_,fun c5=> ?_⟩
 .rw [if_pos c5] at hc
  have l1:=YP oq (.inl c5)
  have l2:=Z0O (o:=x.p) p3
  have hl:0 < x.q.l.length:=V0
  have m4:y6∈x.q.l:=by rw [h4];exact Zi hl _
  have b0:=Y3 m4
  have rk:Z21 x.p.e:=⟨V0,ab.2.2.2,rp p3⟩
  refine ⟨(ZcP rk).1,⟨V0,V0⟩,by rw [h7];exact Zao (ZcP rk).2 V0 (J2 aa.2.2.1 m4),d hc ?_⟩
  rw [show x.q.l.getD 0 Tree.nil=y6 from h4.symm,<-h7]
  unfold doB
  rw [<-h9]
  exact V1
 .rw [if_neg c5] at hc
  have k1:Z21 x.p.e:=⟨V0,ab.2.2.2,rp p3⟩
  have k2:Z21 x.q.e:=⟨V0,aa.2.2.2,rq V0⟩
  refine ⟨⟨k1,k2⟩,?_,d hc V1⟩
  show 8*(Zc x.p.e+Zc x.q.e) < N
  rw [YQ,YQ] at am
  omega
theorem ZJB:Contract Tryz.prog cfg 19 ZaD/\Contract Tryz.prog cfg 35 Zth/\Contract Tryz.prog cfg 53 Zt9/\Contract Tryz.prog cfg 55 Zt8/\Contract Tryz.prog cfg 36 Ztg/\Contract Tryz.prog cfg 57 Zt7:=
 Zze c10 c17 c38 c34 c54 (c56 c80) b19 b35 b53 b55 b36 b57
theorem c19:Contract Tryz.prog cfg 19 ZaD:=ZJB.1
noncomputable section
def ZyK(a:Edit × Edit × Unit):V U:= .tup [(true,(enc .edit ((Z2u a.1 a.2.1).1))),(false,[.bool ((Z2u a.1 a.2.1).2)])]
def ZbI:Fs U:=fs Z5o (fun a=> [Z5t a]) ZyK
def ZBP:List (FuncId × Fs U):=[(19,ZaD),(20,Z5I)]
abbrev A8(p:List Nat):=AW (Z1 ZBP) Tryz.f8 ZEk p
theorem vc8(p q:Edit)(Q:QT)(h:∀ aa,aa=p->∀ d,d=q->∀ ab,ab=((Yy aa d).1)->((Z5t (aa,d,()))/\(iB (!((Yy aa d).2)) ((Q .ret (L2 [pL 4,pB 5 false] [(.loc 4,zc0)]))) ((Z41 (ab,()))/\(Q .ret (L2 [pL 4,pB 5 true] [(.loc 4,(enc .edit (Zv ab)))])))))):
  A8 [] (L2 [(0,.agg (enc .edit p)),(1,.agg (enc .edit q))] []) Q:=
 Eq.mpr V5 (h _ (Zg _) _ (Zg _) _ (Zg _))
def ZId(p q:Edit):Prop:=AW (Z1 ZBP) Tryz.f8 ZEk [] (Zf (Z5o.can (p,q,())) []) (EQ Tryz.f8 (ZyK (p,q,())) [])
theorem ZHj(c19:CT 19 ZaD)(c20:CT 20 Z5I)(hb:∀ (p:Edit) (q:Edit) (_:Unit),Z5t (p,q,())->ZId p q):CT 8 ZbI:=
 Z2 (l:=[(19,ZaD),(20,Z5I)]) Zd rfl (⟨c19,c20,trivial⟩) ZEk Tryz.func8 rfl rfl 2 (fun _=> rfl) V2 (fun ⟨p,q,_⟩=> hb p q ())
end
theorem Zpa{e:Edit}(h:Z21 e):Wk e:=by obtain ⟨d,hr⟩:=h.2.2;exact .of hr h.2.1
theorem Zhj{p q:Edit}(hp:Z21 p)(hq:Z21 q):ComWk True (Yy p q) p q:=ZEv _ p q (Qg _) (Zpa hp) (Zpa hq)
theorem ZAr{p q:Edit}(hp:Z21 p)(hq:Z21 q)(h:(Yy p q).2=true):Z41 ((Yy p q).1,()):=by
 have H:=Zhj hp hq
 have:=H.ct trivial h
 have:=Z9w (Yy p q).1
 have:=hp.1
 have:=hq.1
 exact ⟨by grind,-1,(H.wk h).r⟩
theorem c8:Contract Tryz.prog cfg 8 ZbI:=by
 refine ZHj c19 ZwG.1 ?_
 intro p q _ d
 refine vc8 _ _ _ ?_
 intro y1 h1 y2 h2 y3 h3
 subst h1 h2
 (simp only [iB,vcT,vcS])
 refine ⟨d,fun hc=> ?_,fun hc=> ?_⟩
 .refine Z0x (r':= .tup [(true,enc .edit Edit.nil),(false,[.bool false])]) ?_ V1
  simp only [ZyK,Z2u]
  rw [if_neg (by grind)]
  try rfl
 .refine ⟨by rw [h3];exact ZAr d.1 d.2 hc,Z0x (r':= .tup [(true,enc .edit (Zv y3)),(false,[.bool true])]) ?_ V1⟩
  simp only [ZyK,Z2u]
  rw [if_pos hc,h3]
  try rfl
noncomputable section
def Z8i(x y:Int):Int:=if x < y then -1 else if y < x then 1 else 0
def orL:List Int->Int
 | []=> 0
 | x ::r=> if x≠0 then x else orL r
def Z1A:Three:=⟨⟨0,0⟩,0⟩
def Zom(a b:Three):Bool:=decide (orL [Z8i b.score a.score,Z8i a.p.i b.p.i,Z8i a.p.j b.p.j] < 0)
def Z7w(l:List Three)(i j:Int):Bool:=Zom (l.getD i.toNat Z1A) (l.getD j.toNat Z1A)
def Z19(l:List Three)(i j:Int):List Three:=(l.set i.toNat (l.getD j.toNat Z1A)).set j.toNat (l.getD i.toNat Z1A)
def upF:Nat->List Three->Int->List Three
 | 0,l,_=> l
 | n+1,l,j=> if (j - 1).tdiv 2=j\/Z7w l j ((j - 1).tdiv 2)=false then l else upF n (Z19 l ((j - 1).tdiv 2) j) ((j - 1).tdiv 2)
def upR(l:List Three)(j:Int):List Three:=upF (j.toNat+1) l j
def Z9A(l:List Three)(i n:Int):Int:=if 2*i+2 < n/\Z7w l (2*i+2) (2*i+1)=true then 2*i+2 else 2*i+1
def Z31:Nat->List Three->Int->Int->List Three × Int
 | 0,l,i,_=> (l,i)
 | k+1,l,i,n=> if 2*i+1 < n then (if Z7w l (Z9A l i n) i=false then (l,i) else Z31 k (Z19 l i (Z9A l i n)) (Z9A l i n) n) else (l,i)
def Z16(l:List Three)(i n:Int):List Three × Int:=Z31 (n - i).toNat l i n
def ZbV(l:List Three)(x:Three):List Three:=upR (l++[x]) l.length
def Z0c(l:List Three):List Three × Three:=
 (((Z16 (Z19 l 0 ((l.length:Int) - 1)) 0 ((l.length:Int) - 1)).1).take (l.length - 1),((Z16 (Z19 l 0 ((l.length:Int) - 1)) 0 ((l.length:Int) - 1)).1).getD (l.length - 1) Z1A)
def JU(p q:Two):Bool:= !((decide (p.i < q.i) && decide (p.j < q.j)) || (decide (q.i < p.i) && decide (q.j < p.j)))
def Z5B(p:Two):List Two->Int
 | []=> -1
 | q ::r=> if JU p q=true then 0 else if Z5B p r= -1 then -1 else Z5B p r+1
end
noncomputable section
def ZtP(a:Int × Unit):V U:= .c (.bool false)
def Z8B:Fs U:=fs Zxe (fun a=> [Zuq a]) ZtP
def ZqD:ArgL (Int × Int × Unit):=(.cons (Y6 .i64) (.cons (Y6 .i64) .nil))
def Zet(a:Int × Int × Unit):Prop:=True
def ZtT(a:Int × Int × Unit):V U:= .c (ci (Z8i a.1 a.2.1))
def Z8H:Fs U:=fs ZqD (fun a=> [Zet a]) ZtT
def Zqv:ArgL (List Int × Unit):=(.cons (aSl .int) .nil)
def ZmF(a:List Int × Unit):Prop:=(a.1).length<=1000000
def ZtG(a:List Int × Unit):V U:= .c (ci (orL a.1))
def Z8w:Fs U:=fs Zqv (fun a=> [ZmF a]) ZtG
def Zqw:ArgL (Three × Three × Unit):=(.cons (aEl .three) (.cons (aEl .three) .nil))
def ZmG(a:Three × Three × Unit):Prop:=True
def ZtH(a:Three × Three × Unit):V U:= .c (.bool (Zom a.1 a.2.1))
def Z8x:Fs U:=fs Zqw (fun a=> [ZmG a]) ZtH
def Zqx:ArgL (List Three × Int × Int × Unit):=(.cons (aSl .three) (.cons (Y6 .i64) (.cons (Y6 .i64) .nil)))
def ZaR(a:List Three × Int × Int × Unit):Prop:=(0<=a.2.1/\a.2.1 < (a.1).length)/\0<=a.2.2.1/\a.2.2.1 < (a.1).length
def ZtL(a:List Three × Int × Int × Unit):V U:= .c (.bool (Z7w a.1 a.2.1 a.2.2.1))
def Z3d:Fs U:=fs Zqx (fun a=> [ZaR a]) ZtL
def ZqG:ArgL (List Three × Unit):=(.cons (aSl .three) .nil)
def ZaS(a:List Three × Unit):Prop:=True
def ZtX(a:List Three × Unit):V U:= .c (ci ((a.1).length:Int))
def Z1d:Fs U:=fs ZqG (fun a=> [ZaS a]) ZtX
def Zd8:ArgM (List Three × Int × Int × Unit):=(.rcv (cWr .three 0 0) (.cons (Y6 .i64) (.cons (Y6 .i64) .nil)))
def ZtI(a:List Three × Int × Int × Unit):V U:= .tup []
def ZoL(a:List Three × Int × Int × Unit):List (List (C U)):=[[.mref (.x 0 0)]]
def ZoT(a:List Three × Int × Int × Unit):List (Tok × LC U):=[(.x 0 0,LC.mk (U:=U) .three (Z19 a.1 a.2.1 a.2.2.1) 0)]
def Z1c:Fs U:=Z8e Zd8 (fun a=> [ZaR a]) ZtI ZoL ZoT
def Zd9:ArgM ((List Three × Unit) × Three × Unit):=(.obj 0 (.cons (cWr .three 0 0) .nil) (.cons (ZHI 181) .nil))
def ZmH(a:(List Three × Unit) × Three × Unit):Prop:=(a.1.1).length<=1000000000
def ZtJ(a:(List Three × Unit) × Three × Unit):V U:= .tup []
def ZoM(a:(List Three × Unit) × Three × Unit):List (List (C U)):=[[.mref (.x 0 0)]]
def ZoU(a:(List Three × Unit) × Three × Unit):List (Tok × LC U):=[(.x 0 0,LC.mk (U:=U) .three ((a.1.1)++[a.2.1]) 0)]
def Z8y:Fs U:=Z8e Zd9 (fun a=> [ZmH a]) ZtJ ZoM ZoU
def Zda:ArgM ((List Three × Unit) × Unit):=(.obj 0 (.cons (cWr .three 0 0) .nil) .nil)
def ZmI(a:(List Three × Unit) × Unit):Prop:=0 < (a.1.1).length/\(a.1.1).length<=1000000000
def ZtK(a:(List Three × Unit) × Unit):V U:= .kv (.iface 181 (.agg (List.toArray [.int .i64 (Two.i (Three.p ((a.1.1).getD ((a.1.1).length - 1) Z1A))),.int .i64 (Two.j (Three.p ((a.1.1).getD ((a.1.1).length - 1) Z1A))),.int .i64 (Three.score ((a.1.1).getD ((a.1.1).length - 1) Z1A))])))
def ZoN(a:(List Three × Unit) × Unit):List (List (C U)):=[[.mref (.x 0 0)]]
def ZoV(a:(List Three × Unit) × Unit):List (Tok × LC U):=[(.x 0 0,LC.mk (U:=U) .three ((a.1.1).take ((a.1.1).length - 1)) 0)]
def Z8z:Fs U:=Z8e Zda (fun a=> [ZmI a]) ZtK ZoN ZoV
def Zdc:ArgM ((List Three × Unit) × Int × Unit):=(.ifp 176 0 (.cons (cWr .three 0 0) .nil) (.cons (Y6 .i64) .nil))
def ZmN(a:(List Three × Unit) × Int × Unit):Prop:=(0<=a.2.1/\a.2.1 < (a.1.1).length)/\(a.1.1).length<=1000000000
def ZtS(a:(List Three × Unit) × Int × Unit):V U:= .tup []
def ZoO(a:(List Three × Unit) × Int × Unit):List (List (C U)):=[[.mref (.x 0 0)]]
def Zi8(a:(List Three × Unit) × Int × Unit):List (Tok × LC U):=[(.x 0 0,LC.mk (U:=U) .three (upR a.1.1 a.2.1) 0)]
def Z8G:Fs U:=Z8e Zdc (fun a=> [ZmN a]) ZtS ZoO Zi8
def Zdb:ArgM ((List Three × Unit) × Int × Int × Unit):=(.ifp 176 0 (.cons (cWr .three 0 0) .nil) (.cons (Y6 .i64) (.cons (Y6 .i64) .nil)))
def ZmM(a:(List Three × Unit) × Int × Int × Unit):Prop:=(0<=a.2.1/\a.2.1<=a.2.2.1)/\a.2.2.1<=(a.1.1).length/\(a.1.1).length<=1000000000
def Zia(a:(List Three × Unit) × Int × Int × Unit):V U:= .c (.bool (decide (a.2.1 < (Z16 a.1.1 a.2.1 a.2.2.1).2)))
def Zi6(a:(List Three × Unit) × Int × Int × Unit):List (List (C U)):=[[.mref (.x 0 0)]]
def ZcW(a:(List Three × Unit) × Int × Int × Unit):List (Tok × LC U):=[(.x 0 0,LC.mk (U:=U) .three ((Z16 a.1.1 a.2.1 a.2.2.1).1) 0)]
def Z8F:Fs U:=Z8e Zdb (fun a=> [ZmM a]) Zia Zi6 ZcW
def Zde:ArgM ((List Three × Unit) × Three × Unit):=(.ifp 176 0 (.cons (cWr .three 0 0) .nil) (.cons (ZHI 181) .nil))
def ZmP(a:(List Three × Unit) × Three × Unit):Prop:=(a.1.1).length < 1000000000
def ZoW(a:(List Three × Unit) × Three × Unit):List (Tok × LC U):=[(.x 0 0,LC.mk (U:=U) .three (ZbV a.1.1 a.2.1) 0)]
def Z8M:Fs U:=Z8e Zde (fun a=> [ZmP a]) ZtJ ZoM ZoW
def Zdd:ArgM ((List Three × Unit) × Unit):=(.ifp 176 0 (.cons (cWr .three 0 0) .nil) .nil)
def ZtW(a:(List Three × Unit) × Unit):V U:= .kv (.iface 181 (.agg (List.toArray [.int .i64 (Two.i (Three.p ((Z0c a.1.1).2))),.int .i64 (Two.j (Three.p ((Z0c a.1.1).2))),.int .i64 (Three.score ((Z0c a.1.1).2))])))
def Zi9(a:(List Three × Unit) × Unit):List (Tok × LC U):=[(.x 0 0,LC.mk (U:=U) .three ((Z0c a.1.1).1) 0)]
def Z8L:Fs U:=Z8e Zdd (fun a=> [ZmI a]) ZtW ZoN Zi9
def ZqE:ArgL (Two × Two × Unit):=(.cons (aEl .two) (.cons (aEl .two) .nil))
def ZmO(a:Two × Two × Unit):Prop:=True
def ZtU(a:Two × Two × Unit):V U:= .c (.bool (JU a.1 a.2.1))
def Z8J:Fs U:=fs ZqE (fun a=> [ZmO a]) ZtU
def ZqC:ArgL (List Two × Two × Unit):=(.cons (aSl .two) (.cons (ZHJ 118) .nil))
def ZmL(a:List Two × Two × Unit):Prop:=(a.1).length<=1000000000
def ZtR(a:List Two × Two × Unit):V U:= .c (ci (Z5B a.2.1 a.1))
def Z8E:Fs U:=fs ZqC (fun a=> [ZmL a]) ZtR
def ZtV(a:List Two × Two × Unit):V U:= .c (.bool ((a.1).any (JU a.2.1)))
def Z8K:Fs U:=fs ZqC (fun a=> [ZmL a]) ZtV
abbrev ZJI(p:List Nat):=AW (Z1 ZnF) Tryz.f127 ZE9 p
theorem ZGG(x:Int)(Q:QT)(h:(Q .ret (L2 [pB 2 (x !=x)] []))):
  ZJI [] (L2 [pI 0 x] []) Q:=
 (Eq.mpr V5 h:)
abbrev ZAN(x:Int):Prop:=AW (Z1 ZnF) Tryz.f127 ZE9 [] (Zf (Zxe.can (x,())) []) (EQ Tryz.f127 (ZtP (x,())) [])
theorem Zzm(hb:∀ (x:Int) (_:Unit),Zuq (x,())->ZAN x):CT 127 Z8B:=
 Z2 (l:=[]) Zd rfl trivial ZE9 Tryz.func127 rfl rfl 1 (fun _=> rfl) V2 (fun ⟨x,_⟩=> hb x ())
def Zq2:List (FuncId × Fs U):=[(127,Z8B)]
def Zvd:Zb U:=lvl [([0,1],[]),([0,1,5],[]),([0,1,5,6],[]),([0,1,6,11],[]),([12],[]),([4],[]),([4],[]),([0,1,13],[]),([4],[]),([0,1,16],[]),([4],[]),([19],[]),([4],[]),([4],[])]
abbrev ZJJ(p:List Nat):=AW (Z1 Zq2) Tryz.f121 Zvd p
theorem ZGL(x y:Int)(Q:QT)(h:let z0:=(Q .ret (L2 [pI 4 (-1)] []));((Zuq (x,()))/\((Zuq (y,()))/\(iB false ((iB false ((Q .ret (L2 [pI 4 0] []))) z0)) ((iB false ((Q .ret (L2 [pI 4 1] []))) ((iB (decide (x < y)) z0 ((iB (decide (y < x)) ((Q .ret (L2 [pI 4 1] []))) ((Q .ret (L2 [pI 4 0] []))))))))))))):
  ZJJ [] (L2 [pI 0 x,pI 1 y] []) Q:=
 (Eq.mpr V5 h:)
abbrev ZAS(x y:Int):Prop:=AW (Z1 Zq2) Tryz.f121 Zvd [] (Zf (ZqD.can (x,y,())) []) (EQ Tryz.f121 (ZtT (x,y,())) [])
theorem Zzr(ZED:CT 127 Z8B)(hb:∀ (x:Int) (y:Int) (_:Unit),Zet (x,y,())->ZAS x y):CT 121 Z8H:=
 Z2 (l:=[(127,Z8B)]) Zd rfl (⟨ZED,trivial⟩) Zvd Tryz.func121 rfl rfl 2 (fun _=> rfl) V2 (fun ⟨x,y,_⟩=> hb x y ())
def ZpC:Zb U:=lvl [([0],[]),([0,3],[]),([3,6,7,8],[]),([3,6,7,8,9],[]),([3,5,6,7,8],[]),([3,5,6,7,8,14],[]),([2],[]),([3,6,7,8],[]),([2],[])]
def Z6W(l:List Int)(d:Int):LSt U:=(L2 [pI 3 0,(6,.c (sU .int l .unk)),pI 7 (l.length:Int),pI 8 d] [])
abbrev ZGo(p:List Nat):=AW (Z1 ZnF) Tryz.f165 ZpC p
abbrev ZHM(p:List Nat):=SW (Z1 ZnF) Tryz.f165 ZpC p
theorem ZGz(l:List Int)(Q:QT)(h:(Zk (ZGo [1,1,0,1,0,0]) (Z6W l 0) (xB 0 (ZHM [1,1,1] Q)))):
  ZGo [] (L2 [(0,.c (sU .int l .unk))] []) Q:=
 (Eq.mpr V5 h:)
theorem ZsF(l:List Int)(d:Int)(N0:NT)(Q:QT)(h:(iB (decide (d < (l.length:Int))) (((0:Int)<=d/\d < (l.length:Int))/\(iB (((l.getD d.toNat (0:Int)):Int) !=0) ((Q .ret (L2 [pI 2 (l.getD d.toNat (0:Int))] []))) ((InR (d+1))/\(N0 (Z6W l (d+1)))))) ((Q .ret (L2 [pI 2 0] []))))):
  ZGo [1,1,0,1,0,0] (Z6W l d) (xT N0 (xB 0 (ZHM [1,1,1] Q))):=
 (Eq.mpr V5 h:)
abbrev ZAG(l:List Int):Prop:=AW (Z1 ZnF) Tryz.f165 ZpC [] (Zf (Zqv.can (l,())) []) (EQ Tryz.f165 (ZtG (l,())) [])
theorem Zzf(hb:∀ (l:List Int) (_:Unit),ZmF (l,())->ZAG l):CT 165 Z8w:=
 Z2 (l:=[]) Zd rfl trivial ZpC Tryz.func165 rfl rfl 1 (fun _=> rfl) V2 (fun ⟨l,_⟩=> hb l ())
def ZpT:List (FuncId × Fs U):=[(121,Z8H),(165,Z8w)]
def Zv4:Zb U:=lvl [([2,3],[2,3]),([4],[])]
abbrev ZJD(p:List Nat):=AW (Z1 ZpT) Tryz.f164 Zv4 p
theorem ZGA(x y:Three)(Q:QT)(h:let z3:=Two.j (Three.p y);let z2:=Two.j (Three.p x);let z1:=Two.i (Three.p y);let z0:=Two.i (Three.p x);((Zet ((Three.score y),(Three.score x),()))/\(Zet (z0,z1,()))/\(Zet (z2,z3,()))/\(ZmF (([Z8i (Three.score y) (Three.score x),Z8i z0 z1,Z8i z2 z3]),()))/\(Q .ret (L2 [(4,.c (.bool (decide (((orL ([Z8i (Three.score y) (Three.score x),Z8i z0 z1,Z8i z2 z3])):Int) < 0))))] [])))):
  ZJD [] (L2 [(0,.agg (enc .three x)),(1,.agg (enc .three y))] []) Q:=
 (Eq.mpr V5 h:)
abbrev ZAH(x y:Three):Prop:=AW (Z1 ZpT) Tryz.f164 Zv4 [] (Zf (Zqw.can (x,y,())) []) (EQ Tryz.f164 (ZtH (x,y,())) [])
theorem Zzg(ZEJ:CT 121 Z8H)(ZEy:CT 165 Z8w)(hb:∀ (x:Three) (y:Three) (_:Unit),ZmG (x,y,())->ZAH x y):CT 164 Z8x:=
 Z2 (l:=[(121,Z8H),(165,Z8w)]) Zd rfl (⟨ZEJ,ZEy,trivial⟩) Zv4 Tryz.func164 rfl rfl 2 (fun _=> rfl) V2 (fun ⟨x,y,_⟩=> hb x y ())
def ZpX:List (FuncId × Fs U):=[(164,Z8x)]
abbrev ZJH(p:List Nat):=AW (Z1 ZpX) Tryz.f160 ZDR p
theorem ZGE(l:List Three)(i j:Int)(Q:QT)(h:let z0:=Three.mk (Two.mk 0 0) 0;let z4:=l.getD i.toNat z0;let z3:=l.getD j.toNat z0;let z2:=Three.mk (Two.mk (Two.i (Three.p z3)) (Two.j (Three.p z3))) (Three.score z3);let z1:=Three.mk (Two.mk (Two.i (Three.p z4)) (Two.j (Three.p z4))) (Three.score z4);(((0:Int)<=i/\i < (l.length:Int))/\((0:Int)<=j/\j < (l.length:Int))/\(ZmG (z1,z2,()))/\(Q .ret (L2 [(6,.c (.bool (Zom z1 z2)))] [])))):
  ZJH [] (L2 [(0,.c (sU .three l .unk)),pI 1 i,pI 2 j] []) Q:=
 (Eq.mpr V5 h:)
abbrev ZAL(l:List Three)(i j:Int):Prop:=AW (Z1 ZpX) Tryz.f160 ZDR [] (Zf (Zqx.can (l,i,j,())) []) (EQ Tryz.f160 (ZtL (l,i,j,())) [])
theorem Zzk(ZEz:CT 164 Z8x)(hb:∀ (l:List Three) (i:Int) (j:Int) (_:Unit),ZaR (l,i,j,())->ZAL l i j):CT 160 Z3d:=
 Z2 (l:=[(164,Z8x)]) Zd rfl (⟨ZEz,trivial⟩) ZDR Tryz.func160 rfl rfl 3 (fun _=> rfl) V2 (fun ⟨l,i,j,_⟩=> hb l i j ())
abbrev ZJN(p:List Nat):=AW (Z1 ZnF) Tryz.f115 ZE9 p
theorem ZGP(l:List Three)(Q:QT)(h:(Q .ret (L2 [pI 2 (l.length:Int)] []))):
  ZJN [] (L2 [(0,.c (sU .three l .unk))] []) Q:=
 (Eq.mpr V5 h:)
abbrev ZAW(l:List Three):Prop:=AW (Z1 ZnF) Tryz.f115 ZE9 [] (Zf (ZqG.can (l,())) []) (EQ Tryz.f115 (ZtX (l,())) [])
theorem Zzv(hb:∀ (l:List Three) (_:Unit),ZaS (l,())->ZAW l):CT 115 Z1d:=
 Z2 (l:=[]) Zd rfl trivial ZE9 Tryz.func115 rfl rfl 1 (fun _=> rfl) V2 (fun ⟨l,_⟩=> hb l ())
def Zv5:Zb U:=lvk [([],[((.x 0),[.wr .three])])]
abbrev ZJE(p:List Nat):=AW (Z1 ZnF) Tryz.f163 Zv5 p
theorem ZGB(l:List Three)(i j:Int)(Q:QT)(h:let z1:=Three.mk (Two.mk 0 0) 0;let z3:=l.getD i.toNat z1;let z2:=l.getD j.toNat z1;let z0:=List.set l i.toNat (Three.mk (Two.mk (Two.i (Three.p z2)) (Two.j (Three.p z2))) (Three.score z2));((0:Int)<=j/\j < (l.length:Int))/\((0:Int)<=i/\i < (l.length:Int))/\((0:Int)<=i/\i < (l.length:Int))/\((0:Nat)<=i.toNat)/\((0:Int)<=j/\j < (z0.length:Int))/\((0:Nat)<=j.toNat)/\(Q .normal (⟨[],[(.x 0,[.mref (.x 0 0)])],[(.x 0 0,LC.mk (U:=U) .three (List.set z0 j.toNat (Three.mk (Two.mk (Two.i (Three.p z3)) (Two.j (Three.p z3))) (Three.score z3))) 0)]⟩:LSt U))):
  ZJE [] (⟨[(0,.c (.mref (.x 0 0))),pI 1 i,pI 2 j],[(.x 0,[.mref (.x 0 0)])],[(.x 0 0,LC.mk (U:=U) .three l 0)]⟩:LSt U) Q:=
 (Eq.mpr V5 h:)
abbrev ZAI(l:List Three)(i j:Int):Prop:=AW (Z1 ZnF) Tryz.f163 Zv5 [] (Ja (Zd8.can (l,i,j,())) (Zd8.canX (l,i,j,())) (Zd8.canL (l,i,j,()))) (JX cfg Tryz.f163.ntmps Tryz.f163.results.toList (ZtI (l,i,j,())) (ZoL (l,i,j,())) (ZoT (l,i,j,())))
theorem Zzh(hb:∀ (l:List Three) (i:Int) (j:Int) (_:Unit),ZaR (l,i,j,())->ZAI l i j):CT 163 Z1c:=
 Zz (l:=[]) Zd rfl trivial Zv5 Tryz.func163 rfl rfl 3 (fun _=> rfl) V2 (fun ⟨l,i,j,_⟩=> hb l i j ())
abbrev ZJF(p:List Nat):=AW (Z1 ZnF) Tryz.f162 Zv5 p
theorem ZGC(l:List Three)(x:Three)(Q:QT)(h:let z0:=Three.mk (Two.mk (Two.i (Three.p x)) (Two.j (Three.p x))) (Three.score x);((l.length+([z0]).length)*24<=140737488355328)/\(Q .normal (⟨[],[(.x 0,[.mref (.x 0 0)])],[(.x 0 0,LC.mk (U:=U) .three (l++([z0])) 0)]⟩:LSt U))):
  ZJF [] (⟨[(0,.ptr (.x 0) 0),(1,.kv (.iface 181 (.agg (List.toArray [.int .i64 (Two.i (Three.p x)),.int .i64 (Two.j (Three.p x)),.int .i64 (Three.score x)]))))],[(.x 0,[.mref (.x 0 0)])],[(.x 0 0,LC.mk (U:=U) .three l 0)]⟩:LSt U) Q:=
 (Eq.mpr V5 h:)
abbrev ZAJ(l:List Three)(x:Three):Prop:=AW (Z1 ZnF) Tryz.f162 Zv5 [] (Ja (Zd9.can ((l,()),x,())) (Zd9.canX ((l,()),x,())) (Zd9.canL ((l,()),x,()))) (JX cfg Tryz.f162.ntmps Tryz.f162.results.toList (ZtJ ((l,()),x,())) (ZoM ((l,()),x,())) (ZoU ((l,()),x,())))
theorem Zzi(hb:∀ (l:List Three) (x:Three) (_:Unit),ZmH ((l,()),x,())->ZAJ l x):CT 162 Z8y:=
 Zz (l:=[]) Zd rfl trivial Zv5 Tryz.func162 rfl rfl 2 (fun _=> rfl) V2 (fun ⟨⟨l,_⟩,x,_⟩=> hb l x ())
def Zv7:Zb U:=lvk [([0],[((.x 0),[.wr .three])]),([0,(3,[.wr .three])],[((.x 0),[.wr .three])]),([0,(3,[.wr .three]),4],[4,((.x 0),[.wr .three])]),([4],[4,((.x 0),[.wr .three])]),([2],[((.x 0),[.wr .three])])]
abbrev ZJG(p:List Nat):=AW (Z1 ZnF) Tryz.f161 Zv7 p
theorem ZGD(l:List Three)(Q:QT)(h:let z1:=InR (((l.length:Int):Int) - 1);let z0:=List.getD l (Int.toNat (((l.length:Int):Int) - 1)) (Three.mk (Two.mk 0 0) 0);(z1/\((0:Int)<=(((l.length:Int):Int) - 1)/\(((l.length:Int):Int) - 1) < (l.length:Int))/\(z1/\((0:Int)<=(((l.length:Int):Int) - 1)/\(((l.length:Int):Int) - 1)<=(l.length:Int))/\((((0:Nat):Int):Int)<=(((l.length:Int):Int) - 1))/\(Q .ret (⟨[(2,.kv (.iface 181 (.agg (List.toArray [.int .i64 (Two.i (Three.p z0)),.int .i64 (Two.j (Three.p z0)),.int .i64 (Three.score z0)]))))],[(.x 0,[.mref (.x 0 0)])],[(.x 0 0,LC.mk (U:=U) .three (List.take (Int.toNat (((l.length:Int):Int) - 1)) l) 0)]⟩:LSt U))))):
  ZJG [] (⟨[(0,.ptr (.x 0) 0)],[(.x 0,[.mref (.x 0 0)])],[(.x 0 0,LC.mk (U:=U) .three l 0)]⟩:LSt U) Q:=
 (Eq.mpr V5 h:)
abbrev ZAK(l:List Three):Prop:=AW (Z1 ZnF) Tryz.f161 Zv7 [] (Ja (Zda.can ((l,()),())) (Zda.canX ((l,()),())) (Zda.canL ((l,()),()))) (JX cfg Tryz.f161.ntmps Tryz.f161.results.toList (ZtK ((l,()),())) (ZoN ((l,()),())) (ZoV ((l,()),())))
theorem Zzj(hb:∀ (l:List Three) (_:Unit),ZmI ((l,()),())->ZAK l):CT 161 Z8z:=
 Zz (l:=[]) Zd rfl trivial Zv7 Tryz.func161 rfl rfl 1 (fun _=> rfl) V2 (fun ⟨⟨l,_⟩,_⟩=> hb l ())
def Zq1:List (FuncId × Fs U):=[(160,Z3d.lend),(163,Z1c)]
def Zvc:Zb U:=lvk [([0,1,4],[((.x 0),[.wr .three])]),([0,1,4,17],[((.x 0),[.wr .three])]),([0,4],[((.x 0),[.wr .three])]),([0,1],[((.x 0),[.wr .three])])]
def Z6Y(l:List Three)(j d:Int)(rx_0_0:List Three):LSt U:=(⟨[(0,.ifp 176 (.x 0)),pI 1 d],[(.x 0,[.mref (.x 0 0)])],[(.x 0 0,LC.mk (U:=U) .three rx_0_0 0)]⟩:LSt U)
abbrev ZGr(p:List Nat):=AW (Z1 Zq1) Tryz.f122 Zvc p
theorem ZGK(l:List Three)(j:Int)(Q:QT)(h:Zk (ZGr [0,0]) (Z6Y l j j l) (xB 0 Q)):
  ZGr [] (⟨[(0,.ifp 176 (.x 0)),pI 1 j],[(.x 0,[.mref (.x 0 0)])],[(.x 0 0,LC.mk (U:=U) .three l 0)]⟩:LSt U) Q:=
 (Eq.mpr V5 h:)
theorem ZsK(l:List Three)(j d:Int)(rx_0_0:List Three)(N0:NT)(Q:QT)(h:let z0:=IntKind.wrap .i64 (Int.tdiv (d - 1) 2);let z1:=(z0:Int)==d;let z2:=bif z1 then true else (!(Z7w rx_0_0 d z0));(InR (d - 1))/\((2:Int)≠0)/\((Tt (!z1))/\(Tt (!z1))/\(Tt (!z1))/\((!z1)=true->ZaR (rx_0_0,d,z0,()))/\(Tt (!z1))/\(z1=false->(!z1)=true)/\(iB z2 (Q .normal (⟨[(0,.ifp 176 (.x 0)),pI 1 d,pI 4 z0,(17,.c (.bool z2))],[(.x 0,[.mref (.x 0 0)])],[(.x 0 0,LC.mk (U:=U) .three rx_0_0 0)]⟩:LSt U)) ((ZaR (rx_0_0,z0,d,()))/\(N0 (Z6Y l j z0 (Z19 rx_0_0 z0 d))))))):
  ZGr [0,0] (Z6Y l j d rx_0_0) (xT N0 (xB 0 Q)):=
 (Eq.mpr V5 h:)
abbrev ZAR(l:List Three)(j:Int):Prop:=AW (Z1 Zq1) Tryz.f122 Zvc [] (Ja (Zdc.can ((l,()),j,())) (Zdc.canX ((l,()),j,())) (Zdc.canL ((l,()),j,()))) (JX cfg Tryz.f122.ntmps Tryz.f122.results.toList (ZtS ((l,()),j,())) (ZoO ((l,()),j,())) (Zi8 ((l,()),j,())))
theorem Zzq(Zsc:CT 160 Z3d)(ZiY:CT 163 Z1c)(hb:∀ (l:List Three) (j:Int) (_:Unit),ZmN ((l,()),j,())->ZAR l j):CT 122 Z8G:=
 Zz (l:=[(160,Z3d.lend),(163,Z1c)]) Zd rfl (⟨Zsc.lend,ZiY,trivial⟩) Zvc Tryz.func122 rfl rfl 2 (fun _=> rfl) V2 (fun ⟨⟨l,_⟩,j,_⟩=> hb l j ())
def ZpE:Zb U:=lvk [([0,1,2],[((.x 0),[.wr .three])]),([0,1,2,7],[((.x 0),[.wr .three])]),([0,1,2,7,8],[((.x 0),[.wr .three])]),([0,1,2,7,8,21],[((.x 0),[.wr .three])]),([0,1,2,7,8,9],[((.x 0),[.wr .three])]),([0,1,2,7,8,9,10],[((.x 0),[.wr .three])]),([0,1,2,7,9,10,33],[((.x 0),[.wr .three])]),([0,1,2,7,9],[((.x 0),[.wr .three])]),([0,1,2,7,9,39],[((.x 0),[.wr .three])]),([0,1,2,9],[((.x 0),[.wr .three])]),([0,1,2,7],[((.x 0),[.wr .three])]),([6],[((.x 0),[.wr .three])])]
def Z4k(l:List Three)(i0 n d:Int)(rx_0_0:List Three):LSt U:=(⟨[(0,.ifp 176 (.x 0)),pI 1 i0,pI 2 n,pI 7 d],[(.x 0,[.mref (.x 0 0)])],[(.x 0 0,LC.mk (U:=U) .three rx_0_0 0)]⟩:LSt U)
abbrev ZGq(p:List Nat):=AW (Z1 Zq1) Tryz.f123 ZpE p
abbrev ZHO(p:List Nat):=SW (Z1 Zq1) Tryz.f123 ZpE p
theorem ZGJ(l:List Three)(i0 n:Int)(Q:QT)(h:(Zk (ZGq [1,1,0,0,0]) (Z4k l i0 n i0 l) (xB 0 (ZHO [1,1,1] Q)))):
  ZGq [] (⟨[(0,.ifp 176 (.x 0)),pI 1 i0,pI 2 n],[(.x 0,[.mref (.x 0 0)])],[(.x 0 0,LC.mk (U:=U) .three l 0)]⟩:LSt U) Q:=
 (Eq.mpr V5 h:)
theorem ZsJ(l:List Three)(i0 n d:Int)(rx_0_0:List Three)(N0:NT)(Q:QT)(h:let z2:=decide (n<=((((2:Int)*d):Int)+1));let z1:=(Q .ret (⟨[pB 6 (decide (i0 < d))],[(.x 0,[.mref (.x 0 0)])],[(.x 0 0,LC.mk (U:=U) .three rx_0_0 0)]⟩:LSt U));let z0:=decide ((((((((2:Int)*d):Int)+1):Int)+1):Int) < n);(InR ((2:Int)*d))/\(InR ((((2:Int)*d):Int)+1))/\((Tt (!z2))/\(z2=false->(!z2)=true)/\(iB (bif z2 then true else (decide ((((((2:Int)*d):Int)+1):Int) < 0))) z1 (((InR ((((((2:Int)*d):Int)+1):Int)+1))/\((Tt z0)/\(Tt z0)/\(Tt z0)/\(z0=true->ZaR (rx_0_0,((((((2:Int)*d):Int)+1):Int)+1),((((2:Int)*d):Int)+1),()))/\(Tt z0)/\(iB (bif z0 then (Z7w rx_0_0 ((((((2:Int)*d):Int)+1):Int)+1) ((((2:Int)*d):Int)+1)) else false) (((ZaR (rx_0_0,((((((2:Int)*d):Int)+1):Int)+1),d,()))/\(iB (!(Z7w rx_0_0 ((((((2:Int)*d):Int)+1):Int)+1) d)) z1 ((ZaR (rx_0_0,d,((((((2:Int)*d):Int)+1):Int)+1),()))/\(N0 (Z4k l i0 n ((((((2:Int)*d):Int)+1):Int)+1) (Z19 rx_0_0 d ((((((2:Int)*d):Int)+1):Int)+1)))))))) ((ZaR (rx_0_0,((((2:Int)*d):Int)+1),d,()))/\(iB (!(Z7w rx_0_0 ((((2:Int)*d):Int)+1) d)) z1 ((ZaR (rx_0_0,d,((((2:Int)*d):Int)+1),()))/\(N0 (Z4k l i0 n ((((2:Int)*d):Int)+1) (Z19 rx_0_0 d ((((2:Int)*d):Int)+1)))))))))))))):
  ZGq [1,1,0,0,0] (Z4k l i0 n d rx_0_0) (xT N0 (xB 0 (ZHO [1,1,1] Q))):=
 (Eq.mpr V5 h:)
abbrev ZAQ(l:List Three)(i0 n:Int):Prop:=AW (Z1 Zq1) Tryz.f123 ZpE [] (Ja (Zdb.can ((l,()),i0,n,())) (Zdb.canX ((l,()),i0,n,())) (Zdb.canL ((l,()),i0,n,()))) (JX cfg Tryz.f123.ntmps Tryz.f123.results.toList (Zia ((l,()),i0,n,())) (Zi6 ((l,()),i0,n,())) (ZcW ((l,()),i0,n,())))
theorem Zzp(Zsc:CT 160 Z3d)(ZiY:CT 163 Z1c)(hb:∀ (l:List Three) (d:Int) (n:Int) (_:Unit),ZmM ((l,()),d,n,())->ZAQ l d n):CT 123 Z8F:=
 Zz (l:=[(160,Z3d.lend),(163,Z1c)]) Zd rfl (⟨Zsc.lend,ZiY,trivial⟩) ZpE Tryz.func123 rfl rfl 3 (fun _=> rfl) V2 (fun ⟨⟨l,_⟩,d,n,_⟩=> hb l d n ())
def Zq7:List (FuncId × Fs U):=[(162,Z8y),(115,Z1d.lend),(122,Z8G)]
def Zvi:Zb U:=lvk [([0],[((.x 0),[.wr .three])]),([],[((.x 0),[.wr .three])])]
abbrev ZJO(p:List Nat):=AW (Z1 Zq7) Tryz.f114 Zvi p
theorem ZGQ(l:List Three)(x:Three)(Q:QT)(h:let z0:=Three.mk (Two.mk (Two.i (Three.p x)) (Two.j (Three.p x))) (Three.score x);(ZmH ((l,()),z0,()))/\((ZaS ((l++[z0]),()))/\(InR ((((l++[z0]).length:Int):Int) - 1))/\(ZmN (((l++[z0]),()),((((l++[z0]).length:Int):Int) - 1),()))/\(Q .normal (⟨[],[(.x 0,[.mref (.x 0 0)])],[(.x 0 0,LC.mk (U:=U) .three (upR (l++[z0]) ((((l++[z0]).length:Int):Int) - 1)) 0)]⟩:LSt U)))):
  ZJO [] (⟨[(0,.ifp 176 (.x 0)),(1,.kv (.iface 181 (.agg (List.toArray [.int .i64 (Two.i (Three.p x)),.int .i64 (Two.j (Three.p x)),.int .i64 (Three.score x)]))))],[(.x 0,[.mref (.x 0 0)])],[(.x 0 0,LC.mk (U:=U) .three l 0)]⟩:LSt U) Q:=
 (Eq.mpr V5 h:)
abbrev ZAX(l:List Three)(x:Three):Prop:=AW (Z1 Zq7) Tryz.f114 Zvi [] (Ja (Zde.can ((l,()),x,())) (Zde.canX ((l,()),x,())) (Zde.canL ((l,()),x,()))) (JX cfg Tryz.f114.ntmps Tryz.f114.results.toList (ZtJ ((l,()),x,())) (ZoM ((l,()),x,())) (ZoW ((l,()),x,())))
theorem Zzw(ZEA:CT 162 Z8y)(ZiZ:CT 115 Z1d)(ZEI:CT 122 Z8G)(hb:∀ (l:List Three) (x:Three) (_:Unit),ZmP ((l,()),x,())->ZAX l x):CT 114 Z8M:=
 Zz (l:=[(162,Z8y),(115,Z1d.lend),(122,Z8G)]) Zd rfl (⟨ZEA,ZiZ.lend,ZEI,trivial⟩) Zvi Tryz.func114 rfl rfl 2 (fun _=> rfl) V2 (fun ⟨⟨l,_⟩,x,_⟩=> hb l x ())
def Zq5:List (FuncId × Fs U):=[(115,Z1d.lend),(163,Z1c),(123,Z8F),(161,Z8z)]
def Zvg:Zb U:=lvk [([0],[((.x 0),[.wr .three])]),([0,3],[((.x 0),[.wr .three])]),([0,3],[((.x 0),[.wr .three])]),([0],[((.x 0),[.wr .three])]),([2],[((.x 0),[.wr .three])])]
abbrev ZJM(p:List Nat):=AW (Z1 Zq5) Tryz.f116 Zvg p
theorem ZGO(l:List Three)(Q:QT)(h:let z2:=Z19 l 0 (((l.length:Int):Int) - 1);let z0:=Z16 z2 0 (((l.length:Int):Int) - 1);let z1:=Three.p ((z0.1).getD ((z0.1).length - 1) Z1A);((ZaS (l,()))/\(InR (((l.length:Int):Int) - 1))/\((ZaR (l,0,(((l.length:Int):Int) - 1),()))/\((ZmM ((z2,()),0,(((l.length:Int):Int) - 1),()))/\((ZmI (((z0.1),()),()))/\(Q .ret (⟨[(2,.kv (.iface 181 (.agg (List.toArray [.int .i64 (Two.i z1),.int .i64 (Two.j z1),.int .i64 (Three.score ((z0.1).getD ((z0.1).length - 1) Z1A))]))))],[(.x 0,[.mref (.x 0 0)])],[(.x 0 0,LC.mk (U:=U) .three ((z0.1).take ((z0.1).length - 1)) 0)]⟩:LSt U))))))):
  ZJM [] (⟨[(0,.ifp 176 (.x 0))],[(.x 0,[.mref (.x 0 0)])],[(.x 0 0,LC.mk (U:=U) .three l 0)]⟩:LSt U) Q:=
 (Eq.mpr V5 h:)
abbrev ZAV(l:List Three):Prop:=AW (Z1 Zq5) Tryz.f116 Zvg [] (Ja (Zdd.can ((l,()),())) (Zdd.canX ((l,()),())) (Zdd.canL ((l,()),()))) (JX cfg Tryz.f116.ntmps Tryz.f116.results.toList (ZtW ((l,()),())) (ZoN ((l,()),())) (Zi9 ((l,()),())))
theorem Zzu(ZiZ:CT 115 Z1d)(ZiY:CT 163 Z1c)(ZEH:CT 123 Z8F)(ZEB:CT 161 Z8z)(hb:∀ (l:List Three) (_:Unit),ZmI ((l,()),())->ZAV l):CT 116 Z8L:=
 Zz (l:=[(115,Z1d.lend),(163,Z1c),(123,Z8F),(161,Z8z)]) Zd rfl (⟨ZiZ.lend,ZiY,ZEH,ZEB,trivial⟩) Zvg Tryz.func116 rfl rfl 1 (fun _=> rfl) V2 (fun ⟨⟨l,_⟩,_⟩=> hb l ())
abbrev ZJK(p:List Nat):=AW (Z1 ZnF) Tryz.f118 Zv4 p
theorem ZGM(p q:Two)(Q:QT)(h:let z2:=decide (((Two.i p):Int) < (Two.i q));let z1:=decide (((Two.i q):Int) < (Two.i p));let z0:=bif z2 then (decide (((Two.j p):Int) < (Two.j q))) else false;((Tt z2)/\(Tt z2)/\(Tt z2)/\(Tt z2)/\(Tt z2)/\(Tt (!z0))/\(Tt (!z0))/\(Tt (!z0))/\(Tt (!z0))/\(Tt (!z0))/\(Tt ((!z0) && z1))/\(Tt ((!z0) && z1))/\(Tt ((!z0) && z1))/\(Tt ((!z0) && z1))/\((!z0)=true->(True->(!z0)=true))/\((!z0)=true->(z1=true->((!z0) && z1)=true))/\(z0=false->(!z0)=true)/\(Q .ret (L2 [(4,.c (.bool (!(bif z0 then true else (bif z1 then (decide (((Two.j q):Int) < (Two.j p))) else false)))))] [])))):
  ZJK [] (L2 [(0,.agg (enc .two p)),(1,.agg (enc .two q))] []) Q:=
 (Eq.mpr V5 h:)
abbrev ZAT(p q:Two):Prop:=AW (Z1 ZnF) Tryz.f118 Zv4 [] (Zf (ZqE.can (p,q,())) []) (EQ Tryz.f118 (ZtU (p,q,())) [])
theorem Zzs(hb:∀ (p:Two) (q:Two) (_:Unit),ZmO (p,q,())->ZAT p q):CT 118 Z8J:=
 Z2 (l:=[]) Zd rfl trivial Zv4 Tryz.func118 rfl rfl 2 (fun _=> rfl) V2 (fun ⟨p,q,_⟩=> hb p q ())
def ZiD:List (FuncId × Fs U):=[(118,Z8J)]
def ZpD:Zb U:=lvl [([0,1],[]),([0,1,7,8],[]),([0,1,7,8,9],[]),([0,1,5,7,8],[]),([0,1,5,7,8,16],[]),([4],[]),([0,1,7,8],[]),([4],[])]
def Z6X(s:List Two)(f:Two)(d:Int):LSt U:=(L2 [(0,.c (sU .two s .unk)),(1,.kv (.func (.func 118) (List.toArray [(.agg (List.toArray [.int .i64 (Two.i f),.int .i64 (Two.j f)]))]) (List.toArray []))),pI 7 (s.length:Int),pI 8 d] [])
abbrev ZGp(p:List Nat):=AW (Z1 ZiD) Tryz.f124 ZpD p
abbrev ZHN(p:List Nat):=SW (Z1 ZiD) Tryz.f124 ZpD p
theorem ZGI(s:List Two)(f:Two)(Q:QT)(h:(Zk (ZGp [1,0,1,0,0]) (Z6X s f 0) (xB 0 (ZHN [1,1] Q)))):
  ZGp [] (L2 [(0,.c (sU .two s .unk)),(1,.kv (.func (.func 118) (List.toArray [(.agg (List.toArray [.int .i64 (Two.i f),.int .i64 (Two.j f)]))]) (List.toArray [])))] []) Q:=
 (Eq.mpr V5 h:)
theorem ZsI(s:List Two)(f:Two)(d:Int)(N0:NT)(Q:QT)(h:let z1:=s.getD d.toNat (Two.mk 0 0);let z0:=Two.mk (Two.i z1) (Two.j z1);(iB (decide (d < (s.length:Int))) ((((0:Int)<=d/\d < (s.length:Int))/\(ZmO ((Two.mk (Two.i f) (Two.j f)),z0,()))/\(iB (JU (Two.mk (Two.i f) (Two.j f)) z0) ((Q .ret (L2 [pI 4 d] []))) ((InR (d+1))/\(N0 (Z6X s f (d+1))))))) ((Q .ret (L2 [pI 4 (-1)] []))))):
  ZGp [1,0,1,0,0] (Z6X s f d) (xT N0 (xB 0 (ZHN [1,1] Q))):=
 (Eq.mpr V5 h:)
abbrev ZAP(s:List Two)(f:Two):Prop:=AW (Z1 ZiD) Tryz.f124 ZpD [] (Zf (ZqC.can (s,f,())) []) (EQ Tryz.f124 (ZtR (s,f,())) [])
theorem Zzo(ZEL:CT 118 Z8J)(hb:∀ (s:List Two) (f:Two) (_:Unit),ZmL (s,f,())->ZAP s f):CT 124 Z8E:=
 Z2 (l:=[(118,Z8J)]) Zd rfl (⟨ZEL,trivial⟩) ZpD Tryz.func124 rfl rfl 2 (fun _=> rfl) V2 (fun ⟨s,f,_⟩=> hb s f ())
def Zq4:List (FuncId × Fs U):=[(124,Z8E)]
def Zvf:Zb U:=lvl [([0,1],[]),([4],[])]
abbrev ZJL(p:List Nat):=AW (Z1 Zq4) Tryz.f117 Zvf p
theorem ZGN(s:List Two)(f:Two)(Q:QT)(h:((ZmL (s,(Two.mk (Two.i f) (Two.j f)),()))/\(Q .ret (L2 [(4,.c (.bool (decide ((0:Int)<=(Z5B (Two.mk (Two.i f) (Two.j f)) s)))))] [])))):
  ZJL [] (L2 [(0,.c (sU .two s .unk)),(1,.kv (.func (.func 118) (List.toArray [(.agg (List.toArray [.int .i64 (Two.i f),.int .i64 (Two.j f)]))]) (List.toArray [])))] []) Q:=
 (Eq.mpr V5 h:)
abbrev ZAU(s:List Two)(f:Two):Prop:=AW (Z1 Zq4) Tryz.f117 Zvf [] (Zf (ZqC.can (s,f,())) []) (EQ Tryz.f117 (ZtV (s,f,())) [])
theorem Zzt(ZEG:CT 124 Z8E)(hb:∀ (s:List Two) (f:Two) (_:Unit),ZmL (s,f,())->ZAU s f):CT 117 Z8K:=
 Z2 (l:=[(124,Z8E)]) Zd rfl (⟨ZEG,trivial⟩) Zvf Tryz.func117 rfl rfl 2 (fun _=> rfl) V2 (fun ⟨s,f,_⟩=> hb s f ())
end
theorem ZED:Contract Tryz.prog cfg 127 Z8B:=by
 refine Zzm ?_
 intro x _ _
 refine ZGG _ _ ?_
 rw [show (x !=x)=false by simp]
 exact V1
theorem ZEJ:Contract Tryz.prog cfg 121 Z8H:=by
 refine Zzr ZED ?_
 intro x y _ _
 refine ZGL _ _ _ ?_
 (simp only [iB,vcT,vcS])
 refine ⟨trivial,trivial,fun h=> (by cases h),fun h=> (by cases h),fun h=> ZE rfl ?_,fun h=> ⟨fun g=> ZE rfl ?_,fun g=> ZE rfl ?_⟩⟩ <;> simp only [Z8i] <;> grind
theorem ZEy:Contract Tryz.prog cfg 165 Z8w:=by
 refine Zzf ?_
 intro l _ hp
 have hp:l.length<=1000000:=hp
 refine ZGz _ _ ?_
 refine Z8 (ι:=Int) (fun i=> Z6W l i) (fun i=> 0<=i/\i<=l.length/\orL l=orL (l.drop i.toNat)) (fun i=> ((l.length:Int) - i).toNat) 0 rfl ⟨V0,V0,by simp⟩ ?_
 rintro i ⟨f1,f2,d⟩
 refine ZsF _ _ _ _ ?_
 (simp only [iB,vcT,vcS])
 refine ⟨fun hi=> ?_,fun hi=> ?_⟩
 .rw [Jj f1 hi (0:Int),orL] at d
  refine ⟨⟨f1,hi⟩,fun he=> ?_,fun he=> ⟨V4,i+1,rfl,⟨V0,V0,by grind⟩,V0⟩⟩
  rw [if_pos (by simpa using he)] at d
  exact ZE rfl d.symm
 .rw [Qe V0] at d
  exact ZE rfl d.symm
theorem ZEz:Contract Tryz.prog cfg 164 Z8x:=by
 refine Zzg ZEJ ZEy ?_
 intro x y _ _
 refine ZGA _ _ _ ?_
 refine ⟨trivial,trivial,trivial,?_,?_⟩
 .show List.length _<=_;simp
 ·exact V1
theorem ZEL:Contract Tryz.prog cfg 118 Z8J:=by
 refine Zzs ?_
 intro p q _ _
 refine ZGM _ _ _ ?_
 (simp only [iB,vcT,vcS])
 refine ⟨by grind,ZG rfl ?_⟩
 simp only [JU,ZwK,Zj0]
 cases decide (p.i < q.i) <;> cases decide (p.j < q.j) <;> cases decide (q.i < p.i) <;> cases decide (q.j < p.j) <;> rfl
theorem Zsc:Contract Tryz.prog cfg 160 Z3d:=by
 refine Zzk ZEz ?_
 intro l i j _ hp
 obtain ⟨⟨h1,d⟩,h3,h4⟩:=hp
 refine ZGE _ _ _ _ ⟨⟨h1,d⟩,⟨h3,h4⟩,trivial,?_⟩
 exact V1
theorem ZiZ:Contract Tryz.prog cfg 115 Z1d:=by
 refine Zzv ?_
 intro l _ _
 refine ZGP _ _ ?_
 exact V1
theorem ZiY:Contract Tryz.prog cfg 163 Z1c:=by
 refine Zzh ?_
 intro l i j _ hp
 obtain ⟨⟨h1,d⟩,h3,h4⟩:=hp
 refine ZGB _ _ _ _ ⟨⟨h3,h4⟩,⟨h1,d⟩,⟨h1,d⟩,X6 _,⟨h3,by simpa using h4⟩,Nat.zero_le _,?_⟩
 exact V1
theorem ZEA:Contract Tryz.prog cfg 162 Z8y:=by
 refine Zzi ?_
 intro l x _ d
 have d:l.length<=1000000000:=d
 refine ZGC _ _ _ ⟨by simp;omega,?_⟩
 exact V1
theorem ZEB:Contract Tryz.prog cfg 161 Z8z:=by
 refine Zzj ?_
 intro l _ hp
 obtain ⟨h1,d⟩:=hp
 dsimp only at h1 d
 have e:(((l.length:Int) - 1).toNat)=l.length - 1:=V0
 refine ZGD l _ ⟨V4,V0,V4,V0,V0,?_⟩
 rw [e]
 exact V1
theorem Zf5(p:Two):∀ l:List Two,-1<=Z5B p l
 | []=> by simp [Z5B]
 | q ::r=> by
  have:=Zf5 p r
  simp only [Z5B]
  grind
theorem ZEG:Contract Tryz.prog cfg 124 Z8E:=by
 refine Zzo ZEL ?_
 intro s f _ hp
 have hp:s.length<=1000000000:=hp
 refine ZGI _ _ _ ?_
 refine Z8 (ι:=Int) (fun i=> Z6X s f i) (fun i=> 0<=i/\i<=s.length/\Z5B f s=if Z5B f (s.drop i.toNat)= -1 then -1 else Z5B f (s.drop i.toNat)+i) (fun i=> ((s.length:Int) - i).toNat) 0 rfl ⟨V0,V0,by simp⟩ ?_
 rintro i ⟨f1,f2,f3⟩
 refine ZsI _ _ _ _ _ ?_
 (simp only [iB,vcT,vcS])
 refine ⟨fun hi=> ?_,fun hi=> ?_⟩
 .rw [Jj f1 hi (Two.mk 0 0),Z5B] at f3
  refine ⟨⟨f1,hi⟩,trivial,fun d=> ?_,fun d=> ⟨V4,i+1,rfl,⟨V0,V0,?_⟩,V0⟩⟩
  .have d:JU f (s.getD i.toNat (Two.mk 0 0))=true:=d
   rw [if_pos d,if_neg V2] at f3
   have:i=Z5B f s:=V0
   exact ZE rfl this
  .have d:JU f (s.getD i.toNat (Two.mk 0 0))=false:=d
   simp only [d,X4,if_false] at f3
   have e:=Zf5 f (s.drop (i+1).toNat)
   rw [f3]
   by_cases hA:Z5B f (s.drop (i+1).toNat)= -1
   .simp only [hA,if_true]
   .simp only [if_neg hA]
    rw [Yo]
    omega
 .rw [Qe V0,Z5B] at f3
  exact ZE rfl f3.symm
theorem Zld(p:Two):∀ l:List Two,decide (0<=Z5B p l)=l.any (JU p)
 | []=> by simp [Z5B]
 | q ::r=> by
  have d:=Zld p r
  have h2:=Zf5 p r
  simp only [Z5B,List.any_cons,<-d]
  by_cases hc:JU p q=true
  .simp [hc]
  .have hc:JU p q=false:=by simpa using hc
   simp only [hc,X4,if_false,XN]
   by_cases h:Z5B p r= -1
   .simp [h]
   .simp only [h,if_false];congr 1;simp;omega
theorem ZEM:Contract Tryz.prog cfg 117 Z8K:=by
 refine Zzt ZEG ?_
 intro s f _ d
 have d:s.length<=1000000000:=d
 refine ZGN _ _ _ ⟨d,?_⟩
 exact ZG rfl (Zld f s)
theorem YJ(l:List Three)(i j:Int):(Z19 l i j).length=l.length:=by simp [Z19]
theorem Zov:∀ (n:Nat) (l:List Three) (j:Int),(upF n l j).length=l.length
 | 0,l,j=> rfl
 | n+1,l,j=> by
  simp only [upF]
  split
  .try rfl
  .rw [Zov n,YJ]
theorem Zjx:∀ (n m:Nat) (l:List Three) (j:Int),0<=j->j.toNat < n->j.toNat < m->upF n l j=upF m l j
 | 0,_,_,_,_,h,_=> absurd h (XT _)
 | _+1,0,_,_,_,_,h=> absurd h (XT _)
 | n+1,m+1,l,j,h0,h1,h2=> by
  simp only [upF]
  split
  .try rfl
  .rename_i hc
   have d:0 < j:=by
    rcases Int.lt_or_eq_of_le h0 with h | h
    .exact h
    .subst h;exact absurd (.inl rfl) hc
   have e:(j - 1).tdiv 2=(j - 1) / 2:=Xf V0
   rw [e]
   exact Zjx n m _ _ V0 V0 V0
theorem ZqW{j:Int}(h0:0<=j)(h1:j<=1000000000):IntKind.wrap .i64 (Int.tdiv (j - 1) 2)=Int.tdiv (j - 1) 2/\0<=Int.tdiv (j - 1) 2/\(0 < j->Int.tdiv (j - 1) 2 < j)/\(j=0->Int.tdiv (j - 1) 2=0):=by
 by_cases hj:j=0
 .subst hj
  refine ⟨V2,V2,V0,fun _=> rfl⟩
 .have e:(j - 1).tdiv 2=(j - 1) / 2:=Xf V0
  rw [e]
  refine ⟨?_,V0,V0,V0⟩
  unfold IntKind.wrap
  simp [IntKind.signed,IntKind.bits]
  omega
theorem ZEI:Contract Tryz.prog cfg 122 Z8G:=by
 refine Zzq Zsc ZiY ?_
 intro l j _ hp
 obtain ⟨⟨h1,h2⟩,h3⟩:=hp
 dsimp only at h1 h2 h3
 refine ZGK _ _ _ ?_
 refine Z8 (ι:=Int × List Three) (fun s=> Z6Y l j s.1 s.2) (fun s=> (0<=s.1/\s.1 < s.2.length)/\s.2.length=l.length/\upR l j=upR s.2 s.1) (fun s=> s.1.toNat) (j,l) rfl ⟨⟨h1,h2⟩,rfl,rfl⟩ ?_
 rintro ⟨i,r⟩ ⟨⟨f1,f2⟩,f3,f4⟩
 dsimp only at f1 f2 f3 f4
 obtain ⟨w1,d,w3,w4⟩:=ZqW f1 V0
 refine ZsK _ _ _ _ _ _ ?_
 simp only [w1]
 (simp only [iB,vcT,vcS])
 refine ⟨V4,V2,fun h=> ⟨⟨f1,f2⟩,d,V3⟩,fun h=> ?_,fun h=> ⟨⟨⟨d,V3⟩,f1,f2⟩,((i - 1).tdiv 2,Z19 r ((i - 1).tdiv 2) i),rfl,⟨⟨d,by dsimp only;rw [YJ];omega⟩,by dsimp only;rw [YJ];exact f3,?_⟩,?_⟩⟩
 .have e:upR r i=r:=by
   unfold upR upF
   rw [if_pos h]
  rw [e] at f4
  simp only [Zi8,f4]
  exact V1
 .have hi:0 < i:=by
   rcases Int.lt_or_eq_of_le f1 with h0 | h0
   .exact h0
   .exact absurd (by rw [<-h0];rfl) h.1
  rw [f4]
  dsimp only
  unfold upR
  rw [upF,if_neg (by rw [h.2];grind)]
  exact Zjx _ _ _ _ d V0 V0
 .dsimp only;omega
theorem Z79:∀ (k:Nat) (l:List Three) (i n:Int),(Z31 k l i n).1.length=l.length
 | 0,l,i,n=> rfl
 | k+1,l,i,n=> by
  simp only [Z31]
  split
  .split
   .try rfl
   .rw [Z79 k,YJ]
  .try rfl
theorem Zfg:∀ (k m:Nat) (l:List Three) (i n:Int),0<=i->(n - i).toNat<=k->(n - i).toNat<=m->Z31 k l i n=Z31 m l i n
 | 0,0,_,_,_,_,_,_=> rfl
 | 0,m+1,l,i,n,h0,h1,_=> by
  simp only [Z31]
  rw [Yo]
 | k+1,0,l,i,n,h0,_,h2=> by
  simp only [Z31]
  rw [Yo]
 | k+1,m+1,l,i,n,h0,h1,h2=> by
  simp only [Z31]
  split
  .rename_i hc
   split
   .try rfl
   .have d:2*i+1<=Z9A l i n/\Z9A l i n<=2*i+2:=by unfold Z9A;split <;> omega
    exact Zfg k m _ _ n V0 V0 V0
  .try rfl
theorem ZEH:Contract Tryz.prog cfg 123 Z8F:=by
 refine Zzp Zsc ZiY ?_
 intro l i0 n _ hp
 obtain ⟨⟨h1,h2⟩,h3,h4⟩:=hp
 dsimp only at h1 h2 h3 h4
 refine ZGJ _ _ _ _ ?_
 refine Z8 (ι:=Int × List Three) (fun s=> Z4k l i0 n s.1 s.2) (fun s=> (0<=s.1/\s.1<=n)/\s.2.length=l.length/\Z16 l i0 n=Z16 s.2 s.1 n) (fun s=> (n - s.1).toNat) (i0,l) rfl ⟨⟨h1,h2⟩,rfl,rfl⟩ ?_
 rintro ⟨i,r⟩ ⟨⟨f1,f2⟩,f3,f4⟩
 dsimp only at f1 f2 f3 f4
 refine ZsJ _ _ _ _ _ _ _ ?_
 (simp only [iB,vcT,vcS])
 have e2:2*i+1+1=2*i+2:=V0
 simp only [e2]
 have ah:∀ {X:List Three × Int},Z16 r i n=X->X=(r,i)->JX cfg Tryz.f123.ntmps Tryz.f123.results.toList (Zia ((l,()),i0,n,())) (Zi6 ((l,()),i0,n,())) (ZcW ((l,()),i0,n,())) AExit.ret (⟨[(6,.c (.bool (decide (i0 < i))))],[(.x 0,[.mref (.x 0 0)])],[(.x 0 0,LC.mk (U:=U) .three r 0)]⟩:LSt U):=by
  intro X h1 h2
  rw [h2] at h1
  simp only [Zia,ZcW,f4,h1]
  exact V1
 have step:∀ {k:Int},2*i+1 < n->Z9A r i n=k->Z7w r k i=true->Z16 l i0 n=Z16 (Z19 r i k) k n:=by
  intro k d e hl
  rw [f4]
  unfold Z16
  obtain ⟨m,hm⟩:∃ m,(n - i).toNat=m+1:=⟨(n - i).toNat - 1,V0⟩
  have hb:2*i+1<=k/\k<=2*i+2:=by rw [<-e];unfold Z9A;split <;> omega
  rw [hm,Z31,if_pos d,e,if_neg (by rw [hl];decide)]
  exact Zfg _ _ _ _ _ V0 V0 V0
 have ae:∀ {k:Int},2*i+1 < n->Z9A r i n=k->Z7w r k i=false->Z16 r i n=(r,i):=by
  intro k d e hl
  unfold Z16
  obtain ⟨m,hm⟩:∃ m,(n - i).toNat=m+1:=⟨(n - i).toNat - 1,V0⟩
  rw [hm,Z31,if_pos d,e,if_pos hl]
 refine ⟨V4,V4,fun h=> ah rfl ?_,fun h=> ⟨V4,fun h5=> ⟨⟨V3,V3⟩,V3,V3⟩,fun h5=> ?_,fun h5=> ?_⟩⟩
 .unfold Z16
  cases (n - i).toNat with
  | zero=> rfl
  | succ m=> rw [Z31,Yo]
 .have d:Z9A r i n=2*i+2:=if_pos h5
  refine ⟨⟨⟨V3,V3⟩,f1,V3⟩,fun h6=> ah rfl (ae V0 d h6),fun h6=> ⟨⟨⟨f1,V3⟩,V3,V3⟩,(2*i+2,Z19 r i (2*i+2)),rfl,⟨⟨V3,V3⟩,by dsimp only;rw [YJ];exact f3,step V0 d h6⟩,V3⟩⟩
 .have d:Z9A r i n=2*i+1:=if_neg (by rintro ⟨h6,h7⟩;rcases h5 with h5 | h5;exact h5 h6;rw [h5] at h7;cases h7)
  refine ⟨⟨⟨V3,V3⟩,f1,V3⟩,fun h6=> ah rfl (ae V0 d h6),fun h6=> ⟨⟨⟨f1,V3⟩,V3,V3⟩,(2*i+1,Z19 r i (2*i+1)),rfl,⟨⟨V3,V3⟩,by dsimp only;rw [YJ];exact f3,step V0 d h6⟩,V3⟩⟩
theorem ZEO:Contract Tryz.prog cfg 114 Z8M:=by
 refine Zzw ZEA ZiZ ZEI ?_
 intro l x _ d
 have d:l.length < 1000000000:=d
 refine ZGQ l x _ ⟨by show l.length<=_;omega,trivial,?_,?_,?_⟩
 .simp;unfold InR;omega
 .show (0<=_/\_)/\_
  simp;omega
 .simp
  exact V1
theorem ZEN:Contract Tryz.prog cfg 116 Z8L:=by
 refine Zzu ZiZ ZiY ZEH ZEB ?_
 intro l _ hp
 obtain ⟨h1,d⟩:=hp
 dsimp only at h1 d
 have hl:(Z16 (Z19 l 0 ((l.length:Int) - 1)) 0 ((l.length:Int) - 1)).1.length=l.length:=by unfold Z16;rw [Z79,YJ]
 refine ZGO l _ ⟨trivial,V4,⟨⟨V3,V3⟩,V3,V3⟩,⟨⟨V3,V3⟩,by dsimp only;rw [YJ];omega,by dsimp only;rw [YJ];omega⟩,⟨V3,V3⟩,?_⟩
 simp only [hl,Zi9,Z0c]
 exact V1
noncomputable section
def Z3I(x:SStep):Bool:=decide (0<=x.kind/\x.kind<=2/\1<=x.n/\x.n<=1048576)
abbrev Gs:=List SStep × Int × Int × Int
def Z3u(s:Gs)(k:Int):Int:=[s.2.1,s.2.2.1,s.2.2.2].getD k.toNat 0
def Z3P(s:Gs)(k:Int):Gs:=(if 0 < Z3u s k then s.1++[⟨k,Z3u s k⟩] else s.1,JL k 0 0 s.2.1,JL k 1 0 s.2.2.1,JL k 2 0 s.2.2.2)
def Yt(s:Gs)(l:List Int):Gs:=l.foldl Z3P s
def ZlN(s:Gs)(k n:Int):Gs:=(s.1,JL k 0 (Z3u s k+n) s.2.1,JL k 1 (Z3u s k+n) s.2.2.1,JL k 2 (Z3u s k+n) s.2.2.2)
def Z0i(s:Gs)(x:SStep):Gs:=if Z3I x=false then s else ZlN (if x.kind=0 then Yt s [1,2] else Yt s [0]) x.kind x.n
def Z5u(l:List SStep):List SStep:=(Yt (l.foldl Z0i ([],0,0,0)) [0,1,2]).1
def YI(l:List SStep)(k n:Int):List SStep:=if 0 < n then l++[⟨k,n⟩] else l
def Z0d(x:Int):List Int->Int
 | []=> -1
 | y ::r=> if x=y then 0 else if Z0d x r= -1 then -1 else Z0d x r+1
def ZfF(l:List SStep)(x:Int)(b:List Int):List SStep:=
 if Z0d x b= -1 then YI (YI l 1 1) 2 b.length else YI (YI (YI l 2 (Z0d x b)) 0 1) 2 (b.length - Z0d x b - 1)
def Zmi(x y j:Int)(s:List Int × Int):List Int × Int:=
 let o:=if x=y then s.1.set (j+1).toNat (s.2+1) else s.1
 (o.set (j+1).toNat (max (o.getD (j+1).toNat 0) (o.getD j.toNat 0)),s.1.getD (j+1).toNat 0)
def Z2J(x:Int):List Int->Int->List Int × Int->List Int × Int
 | [],_,s=> s
 | y ::r,j,s=> Z2J x r (j+1) (Zmi x y j s)
def Z0z(a b:List Int):List Int:=a.foldl (fun out x=> (Z2J x b 0 (out,0)).1) (List.replicate (b.length+1) 0)
def Zam(f g:List Int)(m:Int):Nat->Int->Int->Int
 | 0,_,best=> best
 | k+1,j,best=> Zam f g m k (j+1) (if f.getD best.toNat 0+g.getD (m - best).toNat 0 < f.getD j.toNat 0+g.getD (m - j).toNat 0 then j else best)
def Z1B(a b:List Int)(half:Int):Int:=
 Zam (Z0z (a.take half.toNat) b) (Z0z (a.drop half.toNat).reverse b.reverse) b.length (b.length+1) 0 0
theorem ZlG(f g:List Int)(m:Int):∀ (n:Nat) (j best:Int),0<=j->j+n<=m+1->0<=best->best<=m->0<=Zam f g m n j best/\Zam f g m n j best<=m
 | 0,_,_,_,_,h2,h3=> ⟨h2,h3⟩
 | n+1,j,best,h0,h1,h2,h3=> by
  rw [Zam]
  refine ZlG f g m n (j+1) _ V0 V0 ?_ ?_ <;> split <;> omega
theorem Zga(a b:List Int)(half:Int):0<=Z1B a b half/\Z1B a b half<=b.length:=
 ZlG _ _ _ _ _ _ V0 V0 V0 V0
def Z0q(l:List SStep)(a b:List Int):List SStep:=
 if a.length=0\/b.length=0 then YI (YI l 1 a.length) 2 b.length
 else if a.length=1 then ZfF l (a.getD 0 0) b
 else Z0q (Z0q l (a.take (a.length / 2)) (b.take (Z1B a b (a.length / 2:Nat)).toNat)) (a.drop (a.length / 2)) (b.drop (Z1B a b (a.length / 2:Nat)).toNat)
termination_by a.length
decreasing_by all_goals (simp;omega)
def ZaG(a b:List Int)(i j:Int):Int × Int:=
 if (i < a.length/\j < b.length/\0<=i/\0<=j)/\a.getD i.toNat 0=b.getD j.toNat 0 then ZaG a b (i+1) (j+1) else (i,j)
termination_by ((a.length:Int) - i).toNat
decreasing_by omega
def Z3J(far:List Int)(at_:Int)(lo hi:Bool):Int:=
 if lo=true/\hi=true then 0
 else if lo=true\/(hi=false/\far.getD (at_ - 1).toNat 0 < far.getD (at_+1).toNat 0) then far.getD (at_+1).toNat 0
 else far.getD (at_ - 1).toNat 0+1
def ZsE(a b:List Int)(most d:Int)(far:List Int)(k:Int):Int × Int:=
 ZaG a b (Z3J far (most+1+k) (k== -d) (k==d)) (Z3J far (most+1+k) (k== -d) (k==d) - k)
def Zfk(a b:List Int)(most d:Int)(far:List Int)(k:Int):List Int × Bool:=
 if k<=d then
  (if (a.length:Int)<=(ZsE a b most d far k).1/\(b.length:Int)<=(ZsE a b most d far k).2 then (far,true)
  else Zfk a b most d (far.set (most+1+k).toNat (ZsE a b most d far k).1) (k+2))
 else (far,false)
termination_by (d+1 - k).toNat
decreasing_by omega
def Zhc(a b:List Int)(most:Int)(far:List Int)(d:Int):Int × Bool:=
 if d<=most then (if (Zfk a b most d far (-d)).2=true then (d,true) else Zhc a b most (Zfk a b most d far (-d)).1 (d+1)) else (0,false)
termination_by (most+1 - d).toNat
decreasing_by omega
def JH(a b:List Int)(most:Int):Int:=min (max most (-1)) ((a.length:Int)+b.length)
def Zhb(a b:List Int)(most:Int):Int × Bool:=
 if JH a b most < 0\/JH a b most < (a.length:Int) - b.length\/JH a b most < (b.length:Int) - a.length then (0,false)
 else Zhc a b (JH a b most) (List.replicate (2*JH a b most+3).toNat 0) 0
def Z5y(a b:List Int)(most:Int):List SStep × Bool:=if (Zhb a b most).2=true then (Z5u (Z0q [] a b),true) else ([],false)
end
noncomputable section
def ZwS:ArgL (SStep × Unit):=(.cons (aEl .sstep) .nil)
def Zui(a:SStep × Unit):Prop:=True
def ZBp(a:SStep × Unit):V U:= .c (.bool (Z3I a.1))
def ZdB:Fs U:=fs ZwS (fun a=> [Zui a]) ZBp
def Zoa:ArgM (List Int × (Int × Int × Int × Unit) × (List SStep × Unit) × Unit):=(.cons (aSl .int) (.obj 0 (.cons (ZlE .i64) (.cons (ZlE .i64) (.cons (ZlE .i64) .nil))) (.obj 1 (.cons (Z4z .sstep 1 0) .nil) .nil)))
def Zks(a:List Int × (Int × Int × Int × Unit) × (List SStep × Unit) × Unit):Prop:=(∀ k∈a.1,0<=k/\k < 3)/\(a.1).length<=3/\(a.2.2.1.1).length<=1000000000
def ZBq(a:List Int × (Int × Int × Int × Unit) × (List SStep × Unit) × Unit):V U:= .tup []
def Zmp(a:List Int × (Int × Int × Int × Unit) × (List SStep × Unit) × Unit):List (List (C U)):=[[ci ((Yt (a.2.2.1.1,a.2.1.1,a.2.1.2.1,a.2.1.2.2.1) a.1).2.1),ci ((Yt (a.2.2.1.1,a.2.1.1,a.2.1.2.1,a.2.1.2.2.1) a.1).2.2.1),ci ((Yt (a.2.2.1.1,a.2.1.1,a.2.1.2.1,a.2.1.2.2.1) a.1).2.2.2)],[sU .sstep ((Yt (a.2.2.1.1,a.2.1.1,a.2.1.2.1,a.2.1.2.2.1) a.1).1) (.own (.x 1 0))]]
def ZdC:Fs U:=fsX Zoa (fun a=> [Zks a]) ZBq Zmp
def ZwY:ArgL (List SStep × Unit):=(.cons (aSl .sstep) .nil)
def Zpg(a:List SStep × Unit):Prop:=(a.1).length<=10000000
def ZBv(a:List SStep × Unit):V U:= .c (sU .sstep (Z5u a.1) (.own (.r 0 0)))
def Z7I:Fs U:=fs ZwY (fun a=> [Zpg a]) ZBv
def Zjf:ArgM ((List SStep × Unit) × Int × Int × Unit):=(.obj 0 (.cons (Z4z .sstep 0 0) .nil) (.cons (Y6 .i64) (.cons (Y6 .i64) .nil)))
def Z4V(a:(List SStep × Unit) × Int × Int × Unit):Prop:=(a.1.1).length<=1000000000
def Zu6(a:(List SStep × Unit) × Int × Int × Unit):V U:= .tup []
def ZcV(a:(List SStep × Unit) × Int × Int × Unit):List (List (C U)):=[[sU .sstep (YI a.1.1 a.2.1 a.2.2.1) (.own (.x 0 0))]]
def Z3f:Fs U:=fsX Zjf (fun a=> [Z4V a]) Zu6 ZcV
def Zje:ArgM ((List SStep × Unit) × Int × List Int × Unit):=(.obj 0 (.cons (Z4z .sstep 0 0) .nil) (.cons (Y6 .i64) (.cons (aSl .int) .nil)))
def ZmT(a:(List SStep × Unit) × Int × List Int × Unit):Prop:=(a.1.1).length<=100000000/\(a.2.2.1).length<=1000000
def Zu5(a:(List SStep × Unit) × Int × List Int × Unit):V U:= .tup []
def ZcU(a:(List SStep × Unit) × Int × List Int × Unit):List (List (C U)):=[[sU .sstep (ZfF a.1.1 a.2.1 a.2.2.1) (.own (.x 0 0))]]
def Z8S:Fs U:=fsX Zje (fun a=> [ZmT a]) Zu5 ZcU
def ZtZ(a:List Int × Unit):V U:= .c (sU .int ((a.1).reverse) (.own (.r 0 0)))
def Z8N:Fs U:=fs Zqv (fun a=> [ZmF a]) ZtZ
abbrev A85(p:List Nat):=AW (Z1 ZnF) Tryz.f85 ZE3 p
theorem ZIv(s:SStep)(Q:QT)(h:let z2:=decide ((0:Int)<=(SStep.kind s));let z0:=bif z2 then (decide (((SStep.kind s):Int)<=2)) else false;let z1:=bif z0 then (decide ((1:Int)<=(SStep.n s))) else false;((Tt z2)/\(Tt z2)/\(Tt z2)/\(Tt z0)/\(Tt z0)/\(Tt z0)/\(Tt z1)/\(Tt z1)/\(Tt z1)/\(Q .ret (L2 [(2,.c (.bool (bif z1 then (decide (((SStep.n s):Int)<=1048576)) else false)))] [])))):
  A85 [] (L2 [(0,.agg (enc .sstep s))] []) Q:=
 (Eq.mpr V5 h:)
abbrev ZFn(s:SStep):Prop:=AW (Z1 ZnF) Tryz.f85 ZE3 [] (Zf (ZwS.can (s,())) []) (EQ Tryz.f85 (ZBp (s,())) [])
theorem ZCV(hb:∀ (s:SStep) (_:Unit),Zui (s,())->ZFn s):CT 85 ZdB:=
 Z2 (l:=[]) Zd rfl trivial ZE3 Tryz.func85 rfl rfl 1 (fun _=> rfl) V2 (fun ⟨s,_⟩=> hb s ())
def ZDN:Zb U:=lvk [([1,2,6,7,8],[((.x 0),[]),((.x 1),[])]),([1,2,6,7,8,9],[((.x 0),[]),((.x 1),[])]),([1,2,5,6,7,8],[((.x 0),[]),((.x 1),[])]),([1,2,5,6,7,8,15],[((.x 0),[]),((.x 1),[])]),([1,2,5,6,7,8],[((.x 0),[]),((.x 1),[])]),([1,2,6,7,8],[((.x 0),[]),((.x 1),[])]),([1,2,6,7,8],[((.x 0),[]),((.x 1),[])])]
def Z6c(kinds:List Int)(ga gb gc:Int)(out:List SStep)(d mx0_0 mx0_1 mx0_2:Int)(mx1_0:List SStep):LSt U:=(L2 [(1,.ptr (.x 0) 0),(2,.ptr (.x 1) 0),(6,.c (sU .int kinds .unk)),pI 7 (kinds.length:Int),pI 8 d] [(.x 0,[ci mx0_0,ci mx0_1,ci mx0_2]),(.x 1,[sU .sstep mx1_0 (.own (.x 1 0))])])
abbrev A84(p:List Nat):=AW (Z1 ZnF) Tryz.f84 ZDN p
theorem ZIw(kinds:List Int)(ga gb gc:Int)(out:List SStep)(Q:QT)(h:(Zk (A84 [1,0,0]) (Z6c kinds ga gb gc out 0 ga gb gc out) (xB 0 Q))):
  A84 [] (L2 [(0,.c (sU .int kinds .unk)),(1,.ptr (.x 0) 0),(2,.ptr (.x 1) 0)] [(.x 0,[ci ga,ci gb,ci gc]),(.x 1,[sU .sstep out (.own (.x 1 0))])]) Q:=
 (Eq.mpr V5 h:)
theorem ZxS(kinds:List Int)(ga gb gc:Int)(out:List SStep)(x8 mx0_0 mx0_1 mx0_2:Int)(mx1_0:List SStep)(N0:NT)(Q:QT)(h:∀ d,d=(kinds.getD x8.toNat (0:Int))->∀ ab,ab=(List.getD [mx0_0,mx0_1,mx0_2] d.toNat 0)->let z0:=decide (x8 < (kinds.length:Int));(iB z0 (((0:Int)<=x8/\x8 < (kinds.length:Int))/\(((0:Int)<=d/\d < ((3:Nat):Int))/\(iB (decide ((0:Int) < ab)) (((0:Int)<=d/\d < ((3:Nat):Int))/\((mx1_0.length+([(SStep.mk d ab)]).length)*16<=140737488355328)/\(((0:Int)<=d/\d < ((3:Nat):Int))/\((InR (x8+1))/\(N0 (Z6c kinds ga gb gc out (x8+1) (JL d 0 0 mx0_0) (JL d 1 0 mx0_1) (JL d 2 0 mx0_2) (mx1_0++([(SStep.mk d ab)]))))))) (((0:Int)<=d/\d < ((3:Nat):Int))/\((InR (x8+1))/\(N0 (Z6c kinds ga gb gc out (x8+1) (JL d 0 0 mx0_0) (JL d 1 0 mx0_1) (JL d 2 0 mx0_2) mx1_0))))))) (Q .normal (L2 [(1,.ptr (.x 0) 0),(2,.ptr (.x 1) 0),(6,.c (sU .int kinds .unk)),pI 7 (kinds.length:Int),pI 8 x8,pB 9 z0] [(.x 0,[ci mx0_0,ci mx0_1,ci mx0_2]),(.x 1,[sU .sstep mx1_0 (.own (.x 1 0))])])))):
  A84 [1,0,0] (Z6c kinds ga gb gc out x8 mx0_0 mx0_1 mx0_2 mx1_0) (xT N0 (xB 0 Q)):=
 (Eq.mpr V5 (h _ rfl _ rfl):)
abbrev ZFo(kinds:List Int)(ga gb gc:Int)(out:List SStep):Prop:=AW (Z1 ZnF) Tryz.f84 ZDN [] (Zf (Zoa.can (kinds,(ga,gb,gc,()),(out,()),())) (Zoa.canX (kinds,(ga,gb,gc,()),(out,()),()))) (EQ Tryz.f84 (ZBq (kinds,(ga,gb,gc,()),(out,()),())) (Zmp (kinds,(ga,gb,gc,()),(out,()),())))
theorem ZCW(hb:∀ (d:List Int) (ga:Int) (gb:Int) (gc:Int) (out:List SStep) (_:Unit),Zks (d,(ga,gb,gc,()),(out,()),())->ZFo d ga gb gc out):CT 84 ZdC:=
 ZN (l:=[]) Zd rfl trivial ZDN Tryz.func84 rfl rfl 3 (fun _=> rfl) V2 (fun ⟨d,⟨ga,gb,gc,_⟩,⟨out,_⟩,_⟩=> hb d ga gb gc out ())
def Znr:List (FuncId × Fs U):=[(84,ZdC),(85,ZdB)]
def ZzQ:Zb U:=lvk [([0],[]),([0,3],[3]),([0,3,4],[3,4]),([0,3,4,5],[3,4]),([3,4,5,9,10,11],[((.loc 3),[.own .sstep]),4]),([3,4,5,9,10,11,12],[3,4]),([3,4,5,7,9,10,11],[3,4,7]),([3,4,5,7,9,10,11],[3,4,7]),([3,4,5,7,9,10,11,18],[((.loc 3),[.own .sstep]),4,7]),([3,4,5,7,9,10,11,22],[3,4,7]),([3,4,5,7,9,10,11],[3,4,7]),([3,4,5,7,9,10,11,18],[((.loc 3),[.own .sstep]),4,7]),([3,4,5,9,10,11],[((.loc 3),[.own .sstep]),4]),([3],[3]),([2],[])]
def Z9L(l:List SStep)(af ab d ae:Int)(aa:List SStep):LSt U:=(L2 [pL 3,pL 4,(5,.clo 84 [(.loc 4),(.loc 3)]),(9,.c (sU .sstep l .unk)),pI 10 (l.length:Int),pI 11 af] [(.loc 3,[sU .sstep aa (.own (.l 3 0))]),(.loc 4,[ci ab,ci d,ci ae])])
def Zf7(l:List SStep)(ah:Int)(af:V U)(ae aa d:Int)(ab:List SStep):LSt U:=(L2 [pL 3,pL 4,(5,.clo 84 [(.loc 4),(.loc 3)]),pL 7,(9,.c (sU .sstep l .unk)),pI 10 (l.length:Int),pI 11 ah,(18,af)] [(.loc 3,[sU .sstep ab (.own (.l 3 0))]),(.loc 4,[ci ae,ci aa,ci d]),(.loc 7,(enc .sstep (l.getD ah.toNat (SStep.mk 0 0))))])
def Zf6(l:List SStep)(af:Int)(aa:List SStep)(d ae ab:Int):LSt U:=(L2 [pL 3,pL 4,(5,.clo 84 [(.loc 4),(.loc 3)]),pL 7,(9,.c (sU .sstep l .unk)),pI 10 (l.length:Int),pI 11 af] [(.loc 3,[sU .sstep aa (.own (.l 3 0))]),(.loc 4,[ci d,ci ae,ci ab]),(.loc 7,(enc .sstep (l.getD af.toNat (SStep.mk 0 0))))])
abbrev A68(p:List Nat):=AW (Z1 Znr) Tryz.f68 ZzQ p
abbrev S68(p:List Nat):=SW (Z1 Znr) Tryz.f68 ZzQ p
theorem ZIH(l:List SStep)(Q:QT)(h:(Zk (A68 [1,1,1,1,0,1,0,0]) (Z9L l 0 0 0 0 []) (xB 0 (S68 [1,1,1,1,1] Q)))):
  A68 [] (L2 [(0,.c (sU .sstep l .unk))] []) Q:=
 (Eq.mpr V5 h:)
theorem Zy2(l:List SStep)(af ab d ae:Int)(aa:List SStep)(N0:NT)(Q:QT)(h:∀ ai,ai=(l.getD af.toNat (SStep.mk 0 0))->∀ ah,ah=ai->let z3:=xT N0 (xB 0 (S68 [1,1,1,1,1] Q));let z2:=xB 1 (S68 [1,1,1,1,0,1,0,0,1,1,1] z3);let z1:=Yt (aa,ab,d,ae) ([0]);let z0:=Yt (aa,ab,d,ae) ([1,2]);(iB (decide (af < (l.length:Int))) (((0:Int)<=af/\af < (l.length:Int))/\((Zui (ah,()))/\(iB (!(Z3I ah)) (A68 [1,1,1,1,0,1,0,0,1,1,1] (Zf7 l af (.c (.bool (!(Z3I ah)))) ab d ae aa) z3) ((iB (((SStep.kind ai):Int)==0) ((Zks (([1,2]),(ab,d,ae,()),(aa,()),()))/\(A68 [1,1,1,1,0,1,0,0,1,1,0,0,1,1] (Zf6 l af (z0.1) (z0.2.1) (z0.2.2.1) (z0.2.2.2)) z2)) ((Zks (([0]),(ab,d,ae,()),(aa,()),()))/\(A68 [1,1,1,1,0,1,0,0,1,1,0,0,1,1] (Zf6 l af (z1.1) (z1.2.1) (z1.2.2.1) (z1.2.2.2)) z2))))))) ((Zks (([0,1,2]),(ab,d,ae,()),(aa,()),()))/\(Q .ret (L2 [(2,.c (sU .sstep ((Yt (aa,ab,d,ae) ([0,1,2])).1) (.own (.e 2 0))))] []))))):
  A68 [1,1,1,1,0,1,0,0] (Z9L l af ab d ae aa) (xT N0 (xB 0 (S68 [1,1,1,1,1] Q))):=
 (Eq.mpr V5 (h _ rfl _ (Zmz _)):)
theorem ZhC(l:List SStep)(af:Int)(ah:V U)(ae aa d:Int)(ab:List SStep)(N0:NT)(Q:QT)(h:(InR (af+1))/\(N0 (Z9L l (af+1) ae aa d ab))):
  A68 [1,1,1,1,0,1,0,0,1,1,1] (Zf7 l af ah ae aa d ab) (xT N0 (xB 0 (S68 [1,1,1,1,1] Q))):=
 (Eq.mpr V5 h:)
theorem Zot(l:List SStep)(af:Int)(ae:List SStep)(d ab aa:Int)(N0:NT)(Q:QT)(h:let z2:=l.getD af.toNat (SStep.mk 0 0);let z0:=SStep.kind z2;let z1:=List.getD [d,ab,aa] (Int.toNat z0) 0;((0:Int)<=z0/\z0 < ((3:Nat):Int))/\(InR ((z1:Int)+(SStep.n z2)))/\((0:Int)<=z0/\z0 < ((3:Nat):Int))/\(A68 [1,1,1,1,0,1,0,0,1,1,1] (Zf7 l af .junk (JL z0 0 ((z1:Int)+(SStep.n z2)) d) (JL z0 1 ((z1:Int)+(SStep.n z2)) ab) (JL z0 2 ((z1:Int)+(SStep.n z2)) aa) ae) (xT N0 (xB 0 (S68 [1,1,1,1,1] Q))))):
  A68 [1,1,1,1,0,1,0,0,1,1,0,0,1,1] (Zf6 l af ae d ab aa) (xB 1 (S68 [1,1,1,1,0,1,0,0,1,1,1] (xT N0 (xB 0 (S68 [1,1,1,1,1] Q))))):=
 (Eq.mpr V5 h:)
abbrev ZFz(l:List SStep):Prop:=AW (Z1 Znr) Tryz.f68 ZzQ [] (Zf (ZwY.can (l,())) []) (EQ Tryz.f68 (ZBv (l,())) [])
theorem ZD6(c84:CT 84 ZdC)(c85:CT 85 ZdB)(hb:∀ (l:List SStep) (_:Unit),Zpg (l,())->ZFz l):CT 68 Z7I:=
 Z2 (l:=[(84,ZdC),(85,ZdB)]) Zd rfl (⟨c84,c85,trivial⟩) ZzQ Tryz.func68 rfl rfl 1 (fun _=> rfl) V2 (fun ⟨l,_⟩=> hb l ())
def Zvl:Zb U:=lvk [([0,1,2,7],[((.x 0),[])]),([],[((.x 0),[])])]
abbrev ZJR(p:List Nat):=AW (Z1 ZnF) Tryz.f103 Zvl p
theorem ZH0(l:List SStep)(kind n:Int)(Q:QT)(h:(iB (decide ((0:Int) < n)) (((l.length+([(SStep.mk kind n)]).length)*16<=140737488355328)/\(Q .normal (L2 [] [(.x 0,[sU .sstep (l++([(SStep.mk kind n)])) (.own (.x 0 0))])]))) (Q .normal (L2 [(0,.ptr (.x 0) 0),pI 1 kind,pI 2 n,pB 7 (decide ((0:Int) < n))] [(.x 0,[sU .sstep l (.own (.x 0 0))])])))):
  ZJR [] (L2 [(0,.ptr (.x 0) 0),pI 1 kind,pI 2 n] [(.x 0,[sU .sstep l (.own (.x 0 0))])]) Q:=
 (Eq.mpr V5 h:)
abbrev ZB7(l:List SStep)(kind n:Int):Prop:=AW (Z1 ZnF) Tryz.f103 Zvl [] (Zf (Zjf.can ((l,()),kind,n,())) (Zjf.canX ((l,()),kind,n,()))) (EQ Tryz.f103 (Zu6 ((l,()),kind,n,())) (ZcV ((l,()),kind,n,())))
theorem ZzG(hb:∀ (l:List SStep) (kind:Int) (n:Int) (_:Unit),Z4V ((l,()),kind,n,())->ZB7 l kind n):CT 103 Z3f:=
 ZN (l:=[]) Zd rfl trivial Zvl Tryz.func103 rfl rfl 3 (fun _=> rfl) V2 (fun ⟨⟨l,_⟩,kind,n,_⟩=> hb l kind n ())
def ZiL:List (FuncId × Fs U):=[(103,Z3f)]
def ZpL:Zb U:=lvk [([0,1,2,8,9,10],[((.x 0),[])]),([0,1,2,8,9,10,11],[((.x 0),[])]),([0,1,2,6,7,8,9,10],[((.x 0),[])]),([0,1,2,6,8,9,10,17],[((.x 0),[])]),([0,2,6],[((.x 0),[])]),([0,2,6],[((.x 0),[])]),([],[((.x 0),[])]),([0,1,2,8,9,10],[((.x 0),[])]),([0,2],[((.x 0),[])]),([],[((.x 0),[])])]
def Z74(l:List SStep)(x:Int)(b:List Int)(d:Int):LSt U:=(L2 [(0,.ptr (.x 0) 0),pI 1 x,(2,.c (sU .int b .unk)),(8,.c (sU .int b .unk)),pI 9 (b.length:Int),pI 10 d] [(.x 0,[sU .sstep l (.own (.x 0 0))])])
abbrev ZGv(p:List Nat):=AW (Z1 ZiL) Tryz.f104 ZpL p
abbrev ZHS(p:List Nat):=SW (Z1 ZiL) Tryz.f104 ZpL p
theorem ZGZ(l:List SStep)(x:Int)(b:List Int)(Q:QT)(h:(Zk (ZGv [0,1,0,0]) (Z74 l x b 0) (xB 0 (ZHS [1] Q)))):
  ZGv [] (L2 [(0,.ptr (.x 0) 0),pI 1 x,(2,.c (sU .int b .unk))] [(.x 0,[sU .sstep l (.own (.x 0 0))])]) Q:=
 (Eq.mpr V5 h:)
theorem ZsW(l:List SStep)(x:Int)(b:List Int)(d:Int)(N0:NT)(Q:QT)(h:(iB (decide (d < (b.length:Int))) (((0:Int)<=d/\d < (b.length:Int))/\(iB (x==(b.getD d.toNat (0:Int))) ((Z4V ((l,()),2,d,()))/\((Z4V (((YI l 2 d),()),0,1,()))/\((InR (((b.length:Int):Int) - d))/\(InR (((((b.length:Int):Int) - d):Int) - 1))/\(Z4V (((YI (YI l 2 d) 0 1),()),2,(((((b.length:Int):Int) - d):Int) - 1),()))/\(Q .ret (L2 [] [(.x 0,[sU .sstep (YI (YI (YI l 2 d) 0 1) 2 (((((b.length:Int):Int) - d):Int) - 1)) (.own (.x 0 0))])]))))) ((InR (d+1))/\(N0 (Z74 l x b (d+1)))))) ((Z4V ((l,()),1,1,()))/\((Z4V (((YI l 1 1),()),2,(b.length:Int),()))/\(Q .normal (L2 [] [(.x 0,[sU .sstep (YI (YI l 1 1) 2 (b.length:Int)) (.own (.x 0 0))])])))))):
  ZGv [0,1,0,0] (Z74 l x b d) (xT N0 (xB 0 (ZHS [1] Q))):=
 (Eq.mpr V5 h:)
abbrev ZB6(l:List SStep)(x:Int)(b:List Int):Prop:=AW (Z1 ZiL) Tryz.f104 ZpL [] (Zf (Zje.can ((l,()),x,b,())) (Zje.canX ((l,()),x,b,()))) (EQ Tryz.f104 (Zu5 ((l,()),x,b,())) (ZcU ((l,()),x,b,())))
theorem ZzF(Zse:CT 103 Z3f)(hb:∀ (l:List SStep) (x:Int) (b:List Int) (_:Unit),ZmT ((l,()),x,b,())->ZB6 l x b):CT 104 Z8S:=
 ZN (l:=[(103,Z3f)]) Zd rfl (⟨Zse,trivial⟩) ZpL Tryz.func104 rfl rfl 3 (fun _=> rfl) V2 (fun ⟨⟨l,_⟩,x,b,_⟩=> hb l x b ())
def ZpF:Zb U:=lvk [([0],[]),([0,(3,[.wr .int])],[]),([0,(3,[.wr .int]),9,10,11],[]),([0,(3,[.wr .int]),9,10,11,12],[]),([0,(3,[.wr .int]),4,5,9,10,11],[]),([0,(3,[.wr .int]),9,10,11],[]),([0,(3,[.wr .int]),9,10,11],[]),([2],[])]
def Z6Z(l:List Int)(d:Int)(re_3_0:List Int):LSt U:=(⟨[(0,.c (sU .int l .unk)),(3,.c (.mref (.e 3 0))),(9,.c (sU .int l .unk)),pI 10 (l.length:Int),pI 11 d],[],[(.e 3 0,LC.mk (U:=U) .int re_3_0 0)]⟩:LSt U)
abbrev ZGs(p:List Nat):=AW (Z0L ZnF) Tryz.f113 ZpF p
abbrev ZHP(p:List Nat):=SW (Z0L ZnF) Tryz.f113 ZpF p
theorem ZGR(l:List Int)(Q:QT)(h:(((0:Int)<=(l.length:Int)/\((l.length:Int):Int)*((8:Nat):Int)<=140737488355328/\((l.length:Int):Int)<=9223372036854775807)/\(((l.length:Int):Int)=(l.length:Int))/\(Zk (ZGs [1,1,0,1,0,0]) (Z6Z l 0 (List.replicate (Int.toNat (l.length:Int)) (0:Int))) (xB 0 (ZHP [1,1,1] Q))))):
  ZGs [] (L2 [(0,.c (sU .int l .unk))] []) Q:=
 (Eq.mpr V5 h:)
theorem ZsL(l:List Int)(d:Int)(re_3_0:List Int)(N0:NT)(Q:QT)(h:(iB (decide (d < (l.length:Int))) (((0:Int)<=d/\d < (l.length:Int))/\((InR (((l.length:Int):Int) - 1))/\(InR (((((l.length:Int):Int) - 1):Int) - d))/\((0:Int)<=(((((l.length:Int):Int) - 1):Int) - d)/\(((((l.length:Int):Int) - 1):Int) - d) < (re_3_0.length:Int))/\((0:Nat)<=(Int.toNat (((((l.length:Int):Int) - 1):Int) - d)))/\((InR (d+1))/\(N0 (Z6Z l (d+1) (List.set re_3_0 (Int.toNat (((((l.length:Int):Int) - 1):Int) - d)) (l.getD d.toNat (0:Int)))))))) ((Q .ret (L2 [(2,.c (sU .int re_3_0 (.own (.e 2 0))))] []))))):
  ZGs [1,1,0,1,0,0] (Z6Z l d re_3_0) (xT N0 (xB 0 (ZHP [1,1,1] Q))):=
 (Eq.mpr V5 h:)
abbrev ZAY(l:List Int):Prop:=AW (Z0L ZnF) Tryz.f113 ZpF [] (Zf (Zqv.can (l,())) []) (EQ Tryz.f113 (ZtZ (l,())) [])
theorem Zzx(hb:∀ (l:List Int) (_:Unit),ZmF (l,())->ZAY l):CT 113 Z8N:=
 Z1o (l:=[]) Zd rfl trivial ZpF Tryz.func113 rfl rfl 1 (fun _=> rfl) V2 (fun ⟨l,_⟩=> hb l ())
end
theorem c85:Contract Tryz.prog cfg 85 ZdB:=by
 refine ZCV ?_
 intro s _ _
 refine ZIv _ _ ?_
 (simp only [iB,vcT,vcS])
 refine ZG rfl ?_
 simp only [Z3I]
 by_cases h1:0<=s.kind <;> by_cases h2:s.kind<=2 <;> by_cases h3:1<=s.n <;> by_cases h4:s.n<=1048576 <;> simp [h1,h2,h3,h4]
theorem ZnQ(o:List SStep)(a b c k:Int)(h:0 < [a,b,c].getD k.toNat 0):Z3P (o,a,b,c) k=(o++[⟨k,[a,b,c].getD k.toNat 0⟩],JL k 0 0 a,JL k 1 0 b,JL k 2 0 c):=by
 have h:0 < Z3u (o,a,b,c) k:=h
 unfold Z3P;rw [if_pos h];try rfl
theorem ZnR(o:List SStep)(a b c k:Int)(h:¬0 < [a,b,c].getD k.toNat 0):Z3P (o,a,b,c) k=(o,JL k 0 0 a,JL k 1 0 b,JL k 2 0 c):=by
 have h:¬0 < Z3u (o,a,b,c) k:=h
 unfold Z3P;rw [if_neg h]
theorem Zlg(s:Gs)(k:Int)(r:List Int):Yt s (k ::r)=Yt (Z3P s k) r:=rfl
theorem c84:Contract Tryz.prog cfg 84 ZdC:=by
 refine ZCW ?_
 intro d ga gb gc out _ hp
 obtain ⟨h1,h2,h3⟩:=hp
 dsimp only at h1 h2 h3
 refine ZIw _ _ _ _ _ _ ?_
 refine Z8 (ι:=Int × Gs) (fun s=> Z6c d ga gb gc out s.1 s.2.2.1 s.2.2.2.1 s.2.2.2.2 s.2.1) (fun s=> (0<=s.1/\s.1<=d.length)/\(s.2.1.length:Int)<=out.length+s.1/\Yt (out,ga,gb,gc) d=Yt s.2 (d.drop s.1.toNat)) (fun s=> ((d.length:Int) - s.1).toNat) (0,out,ga,gb,gc) rfl ⟨⟨V0,V0⟩,V3,by simp⟩ ?_
 rintro ⟨i,o,a,b,c⟩ ⟨⟨f1,f2⟩,f3,f4⟩
 dsimp only at f1 f2 f3 f4
 refine ZxS _ _ _ _ _ _ _ _ _ _ _ _ ?_
 rintro y1 rfl y2 rfl
 (simp only [iB,vcT,vcS])
 refine ⟨fun hi=> ?_,fun hi=> ?_⟩
 .have hk:=h1 _ (Zi (i:=i.toNat) V0 (0:Int))
  rw [Jj f1 hi (0:Int),Zlg] at f4
  refine ⟨⟨f1,hi⟩,hk,fun hg=> ?_,fun hg=> ?_⟩
  .rw [ZnQ _ _ _ _ _ hg] at f4
   exact ⟨hk,by simp;omega,hk,V4,(i+1,_),rfl,⟨⟨V3,V3⟩,by simp;omega,f4⟩,V3⟩
  .rw [ZnR _ _ _ _ _ hg] at f4
   exact ⟨hk,V4,(i+1,_),rfl,⟨⟨V3,V3⟩,by simp;omega,f4⟩,V3⟩
 .rw [Qe V0] at f4
  have e:Yt (o,a,b,c) []=(o,a,b,c):=rfl
  simp only [Zmp,f4,e]
  exact V1
def Z3D(s:Gs)(m:Int):Prop:=(0<=s.2.1/\s.2.1<=m)/\(0<=s.2.2.1/\s.2.2.1<=m)/\(0<=s.2.2.2/\s.2.2.2<=m)
theorem Zs0(s:Gs)(k:Int)(m:Int)(h0:0<=m)(h1:Z3D s m):Z3D (Z3P s k) m/\(Z3P s k).1.length<=s.1.length+1:=by
 simp only [Z3P,JL,Z3D] at*
 grind
theorem Zh2(m:Int)(h0:0<=m):∀ (l:List Int) (s:Gs),Z3D s m->Z3D (Yt s l) m/\(Yt s l).1.length<=s.1.length+l.length
 | [],s,h=> ⟨h,by simp [Yt]⟩
 | k ::r,s,h=> by
  have a:=Zs0 s k m h0 h
  have b:=Zh2 m h0 r (Z3P s k) a.1
  refine ⟨b.1,QZ b.2 (by simp;omega)⟩
theorem Zlf{s:Gs}{m:Int}(h:Z3D s m)(hm:0<=m)(k:Int):0<=Z3u s k/\Z3u s k<=m:=by
 unfold Z3u
 generalize k.toNat=n
 obtain ⟨h1,h2,d⟩:=h
 match n with
 | 0=> exact h1
 | 1=> exact h2
 | 2=> exact d
 | n+3=> exact ⟨by simp,by simpa using hm⟩
theorem ZAy{s:Gs}{m:Int}(h:Z3D s m)(hm:0<=m)(k n:Int)(hn:0<=n):Z3D (ZlN s k n) (m+n):=by
 have:=Zlf h hm k
 simp only [ZlN,JL,Z3D] at*
 grind
theorem c68:Contract Tryz.prog cfg 68 Z7I:=by
 refine ZD6 c84 c85 ?_
 intro l _ hp
 have hp:l.length<=10000000:=hp
 refine ZIH _ _ ?_
 refine Z8 (ι:=Int × Gs) (fun s=> Z9L l s.1 s.2.2.1 s.2.2.2.1 s.2.2.2.2 s.2.1) (fun s=> (0<=s.1/\s.1<=l.length)/\(s.2.1.length:Int)<=2*s.1/\Z3D s.2 (1048576*s.1)/\l.foldl Z0i ([],0,0,0)=(l.drop s.1.toNat).foldl Z0i s.2) (fun s=> ((l.length:Int) - s.1).toNat) (0,[],0,0,0) rfl ⟨⟨V0,V0⟩,by simp,by simp [Z3D],by simp⟩ ?_
 rintro ⟨i,s⟩ ⟨⟨f1,f2⟩,f3,f4,f5⟩
 obtain ⟨o,a,b,c⟩:=s
 dsimp only at f1 f2 f3 f4 f5
 refine Zy2 _ _ _ _ _ _ _ _ ?_
 rintro y1 aa d al
 (simp only [iB,vcT,vcS])
 refine ⟨fun hi=> ?_,fun hi=> ?_⟩
 .rw [Jj f1 hi (SStep.mk 0 0),X8,<-aa] at f5
  subst al
  dsimp only at aa
  refine ⟨⟨f1,hi⟩,trivial,fun hr=> ?_,fun hr=> ?_⟩
  .rw [Z0i,if_pos hr] at f5
   refine ZhC _ _ _ _ _ _ _ _ _ ⟨V4,(i+1,(o,a,b,c)),rfl,⟨⟨V3,V3⟩,V3,?_,f5⟩,V3⟩
   simp only [Z3D] at f4 ⊢
   omega
  .have g:(0<=d.kind/\d.kind<=2)/\1<=d.n/\d.n<=1048576:=by simp only [Z3I,decide_eq_true_eq] at hr;omega
   rw [Z0i,if_neg (by simp [hr])] at f5
   obtain ⟨⟨g1,g2⟩,g3,g4⟩:=g
   have hm:(0:Int)<=1048576*i:=V0
   have ab:∀ ks:List Int,ks.length<=2->(0<=Z3u (Yt (o,a,b,c) ks) d.kind/\Z3u (Yt (o,a,b,c) ks) d.kind<=1048576*i)/\((ZlN (Yt (o,a,b,c) ks) d.kind d.n).1.length:Int)<=2*(i+1)/\Z3D (ZlN (Yt (o,a,b,c) ks) d.kind d.n) (1048576*(i+1)):=by
    intro ks hk
    have w:=Zh2 _ hm ks (o,a,b,c) f4
    have w2:=ZAy w.1 hm d.kind d.n V0
    have w3:=w.2
    dsimp only at w3
    refine ⟨Zlf w.1 hm _,by simp only [ZlN];omega,?_⟩
    simp only [Z3D] at w2 ⊢
    omega
   refine ⟨fun hk=> ?_,fun hk=> ?_⟩
   .have w:=ab [1,2] (by simp)
    rw [if_pos hk] at f5
    refine ⟨⟨by simp,by simp,by show o.length<=_;omega⟩,Zot _ _ _ _ _ _ _ _ ?_⟩
    rw [<-aa]
    refine ⟨⟨g1,V0⟩,by have:=w.1;simp only [Z3u] at this;unfold InR;omega,⟨g1,V0⟩,ZhC _ _ _ _ _ _ _ _ _ ⟨V4,(i+1,ZlN (Yt (o,a,b,c) [1,2]) d.kind d.n),rfl,⟨⟨V3,V3⟩,w.2.1,w.2.2,f5⟩,V3⟩⟩
   .have w:=ab [0] (by simp)
    rw [if_neg hk] at f5
    refine ⟨⟨by simp,by simp,by show o.length<=_;omega⟩,Zot _ _ _ _ _ _ _ _ ?_⟩
    rw [<-aa]
    refine ⟨⟨g1,V0⟩,by have:=w.1;simp only [Z3u] at this;unfold InR;omega,⟨g1,V0⟩,ZhC _ _ _ _ _ _ _ _ _ ⟨V4,(i+1,ZlN (Yt (o,a,b,c) [0]) d.kind d.n),rfl,⟨⟨V3,V3⟩,w.2.1,w.2.2,f5⟩,V3⟩⟩
 .rw [Qe V0] at f5
  refine ⟨⟨by simp,by simp,by show o.length<=_;omega⟩,?_⟩
  have e:Z5u l=(Yt (o,a,b,c) [0,1,2]).1:=by rw [Z5u,f5];try rfl
  rw [<-e]
  exact V1
theorem ZBe{α:Type}{l:List α}{i:Int}(h0:0<=i)(h:i < l.length)(d:α):l.take (i+1).toNat=l.take i.toNat++[l.getD i.toNat d]:=by
 have:(i+1).toNat=i.toNat+1:=V0
 rw [this];simp_all
theorem ZEP:Contract Tryz.prog cfg 113 Z8N:=by
 refine Zzx ?_
 intro l _ hp
 have hp:l.length<=1000000:=hp
 refine ZGR _ _ ⟨⟨V3,V3,V3⟩,rfl,?_⟩
 refine Z8 (ι:=Int × List Int) (fun s=> Z6Z l s.1 s.2) (fun s=> 0<=s.1/\s.1<=l.length/\s.2=List.replicate (l.length - s.1.toNat) 0++(l.take s.1.toNat).reverse) (fun s=> ((l.length:Int) - s.1).toNat) (0,_) rfl ⟨by simp,by simp,by simp⟩ ?_
 rintro ⟨i,r⟩ ⟨f1,f2,d⟩
 dsimp only at f1 f2 d
 refine ZsL _ _ _ _ _ ?_
 (simp only [iB,vcT,vcS])
 have hl:r.length=l.length:=by rw [d];simp;omega
 refine ⟨fun hi=> ?_,fun hi=> ?_⟩
 .refine ⟨⟨f1,hi⟩,V4,V4,⟨V0,V0⟩,Nat.zero_le _,V4,(i+1,_),rfl,⟨V3,V3,?_⟩,V3⟩
  dsimp only
  have e1:((l.length:Int) - 1 - i).toNat=l.length - (i+1).toNat:=V0
  have e2:l.length - i.toNat=(l.length - (i+1).toNat)+1:=V0
  rw [d,e1,e2,List.replicate_succ',Qb,ZBe f1 hi (0:Int)]
  rw [List.set_append_right _ _ (by simp)]
  simp
 .have e:i.toNat=l.length:=V0
  rw [e] at d
  simp at d
  subst d
  exact V1
theorem Zse:Contract Tryz.prog cfg 103 Z3f:=by
 refine ZzG ?_
 intro l kind n _ d
 have d:l.length<=1000000000:=d
 refine ZH0 _ _ _ _ ?_
 (simp only [iB,vcT,vcS])
 refine ⟨fun h=> ⟨by simp;omega,?_⟩,fun h=> ?_⟩
 .simp only [ZcV,YI,if_pos h];(repeat' (first | exact trivial | exact rfl | apply And.intro))
 .simp only [ZcV,YI,if_neg h];(repeat' (first | exact trivial | exact rfl | apply And.intro))
theorem Z9C(x:Int):∀ l:List Int,-1<=Z0d x l/\Z0d x l < l.length
 | []=> by simp [Z0d]
 | q ::r=> by
  have:=Z9C x r
  simp only [Z0d,Qd]
  grind
theorem Z1s(l:List SStep)(k n:Int):(YI l k n).length<=l.length+1:=by unfold YI;split <;> simp
theorem ZEW:Contract Tryz.prog cfg 104 Z8S:=by
 refine ZzF Zse ?_
 intro l x b _ hp
 obtain ⟨h1,h2⟩:=hp
 dsimp only at h1 h2
 refine ZGZ _ _ _ _ ?_
 refine Z8 (ι:=Int) (fun i=> Z74 l x b i) (fun i=> 0<=i/\i<=b.length/\Z0d x b=if Z0d x (b.drop i.toNat)= -1 then -1 else Z0d x (b.drop i.toNat)+i) (fun i=> ((b.length:Int) - i).toNat) 0 rfl ⟨V0,V0,by simp⟩ ?_
 rintro i ⟨f1,f2,d⟩
 refine ZsW _ _ _ _ _ _ ?_
 (simp only [iB,vcT,vcS])
 have e1:=Z1s l 2 i
 have e2:=Z1s (YI l 2 i) 0 1
 have e3:=Z1s l 1 1
 refine ⟨fun hi=> ?_,fun hi=> ?_⟩
 .rw [Jj f1 hi (0:Int),Z0d] at d
  refine ⟨⟨f1,hi⟩,fun he=> ?_,fun he=> ⟨V4,i+1,rfl,⟨V0,V0,?_⟩,V0⟩⟩
  .rw [if_pos he,if_neg V2] at d
   have e:Z0d x b=i:=V0
   refine ⟨by show l.length<=_;omega,by show (YI l 2 i).length<=_;omega,V4,V4,by show (YI (YI l 2 i) 0 1).length<=_;omega,?_⟩
   simp only [ZcU,ZfF,e]
   rw [Yo]
   exact V1
  .simp only [he,if_false] at d
   have e:=Z9C x (b.drop (i+1).toNat)
   rw [d]
   by_cases hA:Z0d x (b.drop (i+1).toNat)= -1
   .simp only [hA,if_true]
   .simp only [if_neg hA]
    rw [Yo]
    omega
 .rw [Qe V0] at d
  have e:Z0d x b= -1:=d
  refine ⟨by show l.length<=_;omega,by show (YI l 1 1).length<=_;omega,?_⟩
  simp only [ZcU,ZfF,e,if_true]
  exact V1
noncomputable section
def ZqI:ArgL (List Int × List Int × Unit):=(.cons (aSl .int) (.cons (aSl .int) .nil))
def Zin(a:List Int × List Int × Unit):Prop:=(a.1).length<=1000000/\(a.2.1).length<=1000000
def Zu0(a:List Int × List Int × Unit):V U:= .c (sU .int (Z0z a.1 a.2.1) (.own (.r 0 0)))
def Z8O:Fs U:=fs ZqI (fun a=> [Zin a]) Zu0
def ZqN:ArgL (List Int × List Int × Int × Unit):=(.cons (aSl .int) (.cons (aSl .int) (.cons (Y6 .i64) .nil)))
def ZmS(a:List Int × List Int × Int × Unit):Prop:=((a.1).length<=1000000/\(a.2.1).length<=1000000)/\0<=a.2.2.1/\a.2.2.1<=(a.1).length
def Zu4(a:List Int × List Int × Int × Unit):V U:= .c (ci (Z1B a.1 a.2.1 a.2.2.1))
def Z8R:Fs U:=fs ZqN (fun a=> [ZmS a]) Zu4
def Zj2:ArgM ((List SStep × Unit) × List Int × List Int × Unit):=(.obj 0 (.cons (Z4z .sstep 0 0) .nil) (.cons (aSl .int) (.cons (aSl .int) .nil)))
def ZgF(a:(List SStep × Unit) × List Int × List Int × Unit):Prop:=(a.2.1).length<=1000000/\(a.2.2.1).length<=1000000/\(a.1.1).length+3*(a.2.1).length+(a.2.2.1).length<=100000000
def ZuP(a:(List SStep × Unit) × List Int × List Int × Unit):Nat:=(a.2.1).length
def Zty(a:(List SStep × Unit) × List Int × List Int × Unit):V U:= .tup []
def ZaL(a:(List SStep × Unit) × List Int × List Int × Unit):List (List (C U)):=[[sU .sstep (Z0q a.1.1 a.2.1 a.2.2.1) (.own (.x 0 0))]]
def ZdD:Fs U:=fsX Zj2 (fun a=> [ZgF a]) Zty ZaL
def ZqO:ArgL (List Int × Int × Bool × Bool × Unit):=(.cons (aSl .int) (.cons (Y6 .i64) (.cons ZCc (.cons ZCc .nil))))
def ZmU(a:List Int × Int × Bool × Bool × Unit):Prop:=(a.2.2.1=true\/1<=a.2.1/\a.2.1<=(a.1).length)/\(a.2.2.2.1=true\/0<=a.2.1/\a.2.1+1 < (a.1).length)/\(a.1).length<=10000000/\∀ p:Nat,0<=(a.1).getD p 0/\(a.1).getD p 0<=100000000
def Zu7(a:List Int × Int × Bool × Bool × Unit):V U:= .c (ci (Z3J a.1 a.2.1 a.2.2.1 a.2.2.2.1))
def Z8T:Fs U:=fs ZqO (fun a=> [ZmU a]) Zu7
def Zuj(a:List Int × List Int × Int × Unit):Prop:=(a.1).length<=1000000/\(a.2.1).length<=1000000
def Zk7(a:List Int × List Int × Int × Unit):V U:= .tup [(false,[ci ((Zhb a.1 a.2.1 a.2.2.1).1)]),(false,[.bool ((Zhb a.1 a.2.1 a.2.2.1).2)])]
def ZdE:Fs U:=fs ZqN (fun a=> [Zuj a]) Zk7
def ZoZ(a:List Int × List Int × Int × Unit):V U:= .tup [(false,[sU .sstep ((Z5y a.1 a.2.1 a.2.2.1).1) .unk]),(false,[.bool ((Z5y a.1 a.2.1 a.2.2.1).2)])]
def ZhN:Fs U:=fs ZqN (fun a=> [Zuj a]) ZoZ
def ZpG:Zb U:=lvk [([0,1],[]),([0,1,(5,[.wr .int])],[]),([1,(5,[.wr .int]),16,17,18],[]),([1,(5,[.wr .int]),16,17,18,19],[]),([1,(5,[.wr .int]),7,16,17,18],[]),([1,(5,[.wr .int]),7,8,16,17,18],[]),([1,(5,[.wr .int]),7,8,16,17,18,22,23,24],[]),([1,(5,[.wr .int]),7,8,16,17,18,22,23,24,25],[]),([1,(5,[.wr .int]),7,8,9,10,16,17,18,22,23,24],[]),([1,(5,[.wr .int]),7,8,9,10,11,16,17,18,22,23,24],[]),([1,(5,[.wr .int]),7,8,9,11,16,17,18,22,23,24,36],[]),([1,(5,[.wr .int]),7,9,11,16,17,18,22,23,24],[]),([1,(5,[.wr .int]),7,8,16,17,18,22,23,24],[]),([1,(5,[.wr .int]),7,8,16,17,18,22,23,24],[]),([1,(5,[.wr .int]),16,17,18],[]),([4],[])]
def Z70(a b:List Int)(d:Int)(re_5_0:List Int):LSt U:=(⟨[(1,.c (sU .int b .unk)),(5,.c (.mref (.e 5 0))),(16,.c (sU .int a .unk)),pI 17 (a.length:Int),pI 18 d],[],[(.e 5 0,LC.mk (U:=U) .int re_5_0 0)]⟩:LSt U)
def Z4l(a b:List Int)(ab ae aa:Int)(d:List Int):LSt U:=(⟨[(1,.c (sU .int b .unk)),(5,.c (.mref (.e 5 0))),pI 7 (a.getD ab.toNat (0:Int)),pI 8 ae,(16,.c (sU .int a .unk)),pI 17 (a.length:Int),pI 18 ab,(22,.c (sU .int b .unk)),pI 23 (b.length:Int),pI 24 aa],[],[(.e 5 0,LC.mk (U:=U) .int d 0)]⟩:LSt U)
abbrev ZxG(p:List Nat):=AW (Z0L ZnF) Tryz.f112 ZpG p
abbrev Zsr(p:List Nat):=SW (Z0L ZnF) Tryz.f112 ZpG p
theorem ZGS(a b:List Int)(Q:QT)(h:((InR (((b.length:Int):Int)+1))/\((0:Int)<=((b.length:Int):Int)+1/\((((b.length:Int):Int)+1):Int)*((8:Nat):Int)<=140737488355328/\(((b.length:Int):Int)+1:Int)<=9223372036854775807)/\((((b.length:Int):Int)+1:Int)=(((b.length:Int):Int)+1))/\(Zk (ZxG [1,1,0,1,0,0]) (Z70 a b 0 (List.replicate (Int.toNat (((b.length:Int):Int)+1)) (0:Int))) (xB 0 (Zsr [1,1,1] Q))))):
  ZxG [] (L2 [(0,.c (sU .int a .unk)),(1,.c (sU .int b .unk))] []) Q:=
 (Eq.mpr V5 h:)
theorem ZsN(a b:List Int)(d:Int)(re_5_0:List Int)(N0:NT)(Q:QT)(h:(iB (decide (d < (a.length:Int))) (((0:Int)<=d/\d < (a.length:Int))/\(Zk (ZxG [1,1,0,1,0,0,1,1,0,0,1,1,1,0,0]) (Z4l a b d 0 0 re_5_0) (xB 2 (xB 1 (Zsr [1,1,0,1,0,0,1,1,1] (xT N0 (xB 0 (Zsr [1,1,1] Q)))))))) ((Q .ret (L2 [(4,.c (sU .int re_5_0 (.own (.e 4 0))))] []))))):
  ZxG [1,1,0,1,0,0] (Z70 a b d re_5_0) (xT N0 (xB 0 (Zsr [1,1,1] Q))):=
 (Eq.mpr V5 h:)
theorem ZsM(a b:List Int)(ae ah d:Int)(aa:List Int)(N1 N0:NT)(Q:QT)(h:∀ af,af=(List.getD aa (Int.toNat (d+1)) (0:Int))->∀ ab,ab=(List.set aa (Int.toNat (d+1)) (ah+1))->let z2:=ab.getD d.toNat (0:Int);let z1:=aa.getD d.toNat (0:Int);let z0:=List.getD ab (Int.toNat (d+1)) (0:Int);(iB (decide (d < (b.length:Int))) (((0:Int)<=d/\d < (b.length:Int))/\((InR (d+1))/\((0:Int)<=(d+1)/\(d+1) < (aa.length:Int))/\(iB (((a.getD ae.toNat (0:Int)):Int)==(b.getD d.toNat (0:Int))) ((InR (d+1))/\(InR (ah+1))/\((0:Int)<=(d+1)/\(d+1) < (aa.length:Int))/\((0:Nat)<=(Int.toNat (d+1)))/\((InR (d+1))/\(InR (d+1))/\((0:Int)<=(d+1)/\(d+1) < (ab.length:Int))/\((0:Int)<=d/\d < (ab.length:Int))/\((0:Int)<=(d+1)/\(d+1) < (ab.length:Int))/\((0:Nat)<=(Int.toNat (d+1)))/\((InR (d+1))/\(N1 (Z4l a b ae af (d+1) (List.set ab (Int.toNat (d+1)) (if (z0:Int) < z2 then z2 else z0))))))) ((InR (d+1))/\(InR (d+1))/\((0:Int)<=(d+1)/\(d+1) < (aa.length:Int))/\((0:Int)<=d/\d < (aa.length:Int))/\((0:Int)<=(d+1)/\(d+1) < (aa.length:Int))/\((0:Nat)<=(Int.toNat (d+1)))/\((InR (d+1))/\(N1 (Z4l a b ae af (d+1) (List.set aa (Int.toNat (d+1)) (if af < z1 then z1 else af))))))))) ((InR (ae+1))/\(N0 (Z70 a b (ae+1) aa))))):
  ZxG [1,1,0,1,0,0,1,1,0,0,1,1,1,0,0] (Z4l a b ae ah d aa) (xT N1 (xB 2 (xB 1 (Zsr [1,1,0,1,0,0,1,1,1] (xT N0 (xB 0 (Zsr [1,1,1] Q))))))):=
 (Eq.mpr V5 (h _ rfl _ rfl):)
abbrev ZAZ(a b:List Int):Prop:=AW (Z0L ZnF) Tryz.f112 ZpG [] (Zf (ZqI.can (a,b,())) []) (EQ Tryz.f112 (Zu0 (a,b,())) [])
theorem Zzy(hb:∀ (a:List Int) (b:List Int) (_:Unit),Zin (a,b,())->ZAZ a b):CT 112 Z8O:=
 Z1o (l:=[]) Zd rfl trivial ZpG Tryz.func112 rfl rfl 2 (fun _=> rfl) V2 (fun ⟨a,b,_⟩=> hb a b ())
def ZiK:List (FuncId × Fs U):=[(112,Z8O),(113,Z8N)]
def ZpK:Zb U:=lvl [([0,1,2],[]),([1,7,8],[]),([1,7,8,9],[]),([1,7,8,9,24,25],[]),([1,7,8,9,24,25,26],[]),([1,7,8,9,10,24,25],[]),([1,7,8,9,10,24,25,52],[]),([1,7,8,9,24,25],[]),([1,7,8,9,24,25],[]),([6],[])]
def Z4q(a b:List Int)(half d x9:Int):LSt U:=(L2 [(1,.c (sU .int b .unk)),(7,.c (sU .int (Z0z (List.take half.toNat a) b) (.own (.e 7 0)))),(8,.c (sU .int (Z0z ((List.drop half.toNat a).reverse) (b.reverse)) (.own (.e 8 0)))),pI 9 x9,pI 24 ((Z0z (List.take half.toNat a) b).length:Int),pI 25 d] [])
abbrev ZGu(p:List Nat):=AW (Z1 ZiK) Tryz.f105 ZpK p
abbrev ZHR(p:List Nat):=SW (Z1 ZiK) Tryz.f105 ZpK p
theorem ZGY(a b:List Int)(half:Int)(Q:QT)(h:(((0:Int)<=half/\half<=(a.length:Int))/\(Zin ((List.take half.toNat a),b,()))/\((0:Int)<=half/\half<=(a.length:Int))/\(ZmF ((List.drop half.toNat a),()))/\(ZmF (b,()))/\(Zin (((List.drop half.toNat a).reverse),(b.reverse),()))/\(Zk (ZGu [1,1,1,0,1,0,0]) (Z4q a b half 0 0) (xB 0 (ZHR [1,1,1,1] Q))))):
  ZGu [] (L2 [(0,.c (sU .int a .unk)),(1,.c (sU .int b .unk)),pI 2 half] []) Q:=
 (Eq.mpr V5 h:)
theorem ZsV(a b:List Int)(half d x9:Int)(N0:NT)(Q:QT)(h:∀ aa,aa=(Z0z ((List.drop half.toNat a).reverse) (b.reverse))->∀ ae,ae=(List.getD (Z0z (List.take half.toNat a) b) x9.toNat (0:Int))->∀ ai,ai=(List.getD (Z0z (List.take half.toNat a) b) d.toNat (0:Int))->∀ ah,ah=(List.getD aa (Int.toNat (((b.length:Int):Int) - x9)) (0:Int))->∀ af,af=(List.getD aa (Int.toNat (((b.length:Int):Int) - d)) (0:Int))->let z0:=Z0z (List.take half.toNat a) b;(iB (decide (d < (z0.length:Int))) ((((0:Int)<=d/\d < (z0.length:Int))/\(InR (((b.length:Int):Int) - d))/\((0:Int)<=(((b.length:Int):Int) - d)/\(((b.length:Int):Int) - d) < (aa.length:Int))/\(InR (ai+af))/\((0:Int)<=x9/\x9 < (z0.length:Int))/\(InR (((b.length:Int):Int) - x9))/\((0:Int)<=(((b.length:Int):Int) - x9)/\(((b.length:Int):Int) - x9) < (aa.length:Int))/\(InR (ae+ah))/\(iB (decide (((ae+ah):Int) < (ai+af))) (((InR (d+1))/\(N0 (Z4q a b half (d+1) d)))) ((InR (d+1))/\(N0 (Z4q a b half (d+1) x9)))))) ((Q .ret (L2 [pI 6 x9] []))))):
  ZGu [1,1,1,0,1,0,0] (Z4q a b half d x9) (xT N0 (xB 0 (ZHR [1,1,1,1] Q))):=
 (Eq.mpr V5 (h _ rfl _ rfl _ rfl _ rfl _ rfl):)
abbrev ZB5(a b:List Int)(half:Int):Prop:=AW (Z1 ZiK) Tryz.f105 ZpK [] (Zf (ZqN.can (a,b,half,())) []) (EQ Tryz.f105 (Zu4 (a,b,half,())) [])
theorem ZzE(ZEQ:CT 112 Z8O)(ZEP:CT 113 Z8N)(hb:∀ (a:List Int) (b:List Int) (d:Int) (_:Unit),ZmS (a,b,d,())->ZB5 a b d):CT 105 Z8R:=
 Z2 (l:=[(112,Z8O),(113,Z8N)]) Zd rfl (⟨ZEQ,ZEP,trivial⟩) ZpK Tryz.func105 rfl rfl 3 (fun _=> rfl) V2 (fun ⟨a,b,d,_⟩=> hb a b d ())
def ZvK(N:Nat):List (FuncId × Fs U):=(83,fsX Zj2 (fun a=> [ZgF a,ZuP a < N]) Zty ZaL) ::[(103,Z3f),(104,Z8S),(105,Z8R)]
def ZDO:Zb U:=lvk [([0,1,2,6],[((.x 0),[])]),([0,1,2,6,7],[((.x 0),[])]),([0,1,2,6,7],[((.x 0),[])]),([],[((.x 0),[])]),([0,1,2,31],[((.x 0),[])]),([0,2],[((.x 0),[])]),([],[((.x 0),[])]),([0,1,2,48],[((.x 0),[])]),([],[((.x 0),[])])]
abbrev A83(N:Nat)(p:List Nat):=AW (Z1 (ZvK N)) Tryz.f83 ZDO p
theorem ZIx(N:Nat)(l:List SStep)(a b:List Int)(Q:QT)(h:∀ aa,aa=(Int.toNat (IntKind.wrap .i64 (Int.tdiv (a.length:Int) 2)))->∀ d,d=(Z1B a b (IntKind.wrap .i64 (Int.tdiv (a.length:Int) 2)))->let z5:=List.getD a (Int.toNat 0) (0:Int);let z4:=List.drop d.toNat b;let z3:=List.take d.toNat b;let z2:=Z0q l (List.take aa a) z3;let z1:=((a.length:Int):Int)==0;let z0:=IntKind.wrap .i64 (Int.tdiv (a.length:Int) 2);(Tt (!z1))/\(Tt (!z1))/\(z1=false->(!z1)=true)/\(iB (bif z1 then true else (((b.length:Int):Int)==0)) ((Z4V ((l,()),1,(a.length:Int),()))/\((Z4V (((YI l 1 (a.length:Int)),()),2,(b.length:Int),()))/\(Q .normal (L2 [] [(.x 0,[sU .sstep (YI (YI l 1 (a.length:Int)) 2 (b.length:Int)) (.own (.x 0 0))])])))) ((iB (((a.length:Int):Int)==1) (((0:Int)<=0/\0 < (a.length:Int))/\(ZmT ((l,()),z5,b,()))/\(Q .normal (L2 [] [(.x 0,[sU .sstep (ZfF l z5 b) (.own (.x 0 0))])]))) (((2:Int)≠0)/\((ZmS (a,b,z0,()))/\(((0:Int)<=z0/\z0<=(a.length:Int))/\((0:Int)<=d/\d<=(b.length:Int))/\(ZgF ((l,()),(List.take aa a),z3,()))/\(ZuP ((l,()),(List.take aa a),z3,()) < N)/\(((0:Int)<=z0/\z0<=(a.length:Int))/\((0:Int)<=d/\d<=(b.length:Int))/\(ZgF ((z2,()),(List.drop aa a),z4,()))/\(ZuP ((z2,()),(List.drop aa a),z4,()) < N)/\(Q .normal (L2 [] [(.x 0,[sU .sstep (Z0q z2 (List.drop aa a) z4) (.own (.x 0 0))])])))))))))):
  A83 N [] (L2 [(0,.ptr (.x 0) 0),(1,.c (sU .int a .unk)),(2,.c (sU .int b .unk))] [(.x 0,[sU .sstep l (.own (.x 0 0))])]) Q:=
 (Eq.mpr V5 (h _ rfl _ rfl):)
abbrev ZFp(N:Nat)(l:List SStep)(a b:List Int):Prop:=AW (Z1 (ZvK N)) Tryz.f83 ZDO [] (Zf (Zj2.can ((l,()),a,b,())) (Zj2.canX ((l,()),a,b,()))) (EQ Tryz.f83 (Zty ((l,()),a,b,())) (ZaL ((l,()),a,b,())))
theorem ZCX(Zse:CT 103 Z3f)(ZEW:CT 104 Z8S)(ZEV:CT 105 Z8R)(hb:∀ (N:Nat) (l:List SStep) (a:List Int) (b:List Int) (_:Unit),ZgF ((l,()),a,b,())->ZuP ((l,()),a,b,()) < N+1->ZFp N l a b):CT 83 ZdD:=
 ZfP (μ:=ZuP) (l:=[(103,Z3f),(104,Z8S),(105,Z8R)]) Zd rfl (⟨Zse,ZEW,ZEV,trivial⟩) ZDO Tryz.func83 rfl rfl 3 (fun _=> rfl) V2 (fun N ⟨⟨l,_⟩,a,b,_⟩=> hb N l a b ())
def Zvm:Zb U:=lvl [([0,1,2,3],[]),([0,1,2,3,9],[]),([8],[]),([0,1,14],[]),([8],[]),([8],[])]
abbrev ZJS(p:List Nat):=AW (Z1 ZnF) Tryz.f102 Zvm p
theorem ZH1(far:List Int)(at_:Int)(lo hi:Bool)(Q:QT)(h:let z1:=List.getD far (Int.toNat (at_+1)) (0:Int);let z0:=List.getD far (Int.toNat (at_ - 1)) (0:Int);((Tt lo)/\(iB (bif lo then hi else false) ((Q .ret (L2 [pI 8 0] []))) ((Tt (!lo))/\(Tt (!lo))/\(Tt ((!lo) && (!hi)))/\(((!lo) && (!hi))=true->InR (at_ - 1))/\(Tt ((!lo) && (!hi)))/\(Tt ((!lo) && (!hi)))/\(((!lo) && (!hi))=true->(0:Int)<=(at_ - 1)/\(at_ - 1) < (far.length:Int))/\(Tt ((!lo) && (!hi)))/\(Tt ((!lo) && (!hi)))/\(((!lo) && (!hi))=true->InR (at_+1))/\(Tt ((!lo) && (!hi)))/\(Tt ((!lo) && (!hi)))/\(((!lo) && (!hi))=true->(0:Int)<=(at_+1)/\(at_+1) < (far.length:Int))/\(Tt ((!lo) && (!hi)))/\(Tt ((!lo) && (!hi)))/\(Tt ((!lo) && (!hi)))/\((!lo)=true->(True->(!lo)=true))/\((!lo)=true->((!hi)=true->((!lo) && (!hi))=true))/\(lo=false->(!lo)=true)/\(iB (bif lo then true else (bif (!hi) then (decide ((z0:Int) < z1)) else false)) ((InR (at_+1))/\((0:Int)<=(at_+1)/\(at_+1) < (far.length:Int))/\(Q .ret (L2 [pI 8 z1] []))) ((InR (at_ - 1))/\((0:Int)<=(at_ - 1)/\(at_ - 1) < (far.length:Int))/\(InR ((z0:Int)+1))/\(Q .ret (L2 [(8,.c (ci ((z0:Int)+1)))] [])))))))):
  ZJS [] (L2 [(0,.c (sU .int far .unk)),pI 1 at_,pB 2 lo,pB 3 hi] []) Q:=
 (Eq.mpr V5 h:)
abbrev ZB8(far:List Int)(at_:Int)(lo hi:Bool):Prop:=AW (Z1 ZnF) Tryz.f102 Zvm [] (Zf (ZqO.can (far,at_,lo,hi,())) []) (EQ Tryz.f102 (Zu7 (far,at_,lo,hi,())) [])
theorem ZzH(hb:∀ (d:List Int) (at_:Int) (lo:Bool) (hi:Bool) (_:Unit),ZmU (d,at_,lo,hi,())->ZB8 d at_ lo hi):CT 102 Z8T:=
 Z2 (l:=[]) Zd rfl trivial Zvm Tryz.func102 rfl rfl 4 (fun _=> rfl) V2 (fun ⟨d,at_,lo,hi,_⟩=> hb d at_ lo hi ())
def Znn:List (FuncId × Fs U):=[(102,Z8T.lend)]
def ZzM:Zb U:=lvk [([0,1,2],[]),([0,1,2,8,9],[]),([0,1,2,8,9],[]),([0,1,2,8,9,40],[]),([6,7],[]),([0,1,2,8,9,(10,[.wr .int])],[]),([0,1,2,8,9,(10,[.wr .int]),11],[]),([0,1,2,8,9,(10,[.wr .int]),11,47],[]),([0,1,2,8,9,(10,[.wr .int]),11],[]),([0,1,2,8,9,(10,[.wr .int]),11,12],[]),([0,1,2,8,9,(10,[.wr .int]),11,12,54],[]),([0,1,2,8,9,(10,[.wr .int]),11,12],[]),([0,1,2,8,9,(10,[.wr .int]),11,12,13],[]),([0,1,2,8,9,(10,[.wr .int]),11,12,13,14],[]),([0,1,2,8,9,(10,[.wr .int]),11,12,13,14,99],[]),([0,1,2,8,9,(10,[.wr .int]),11,12,13,14],[]),([0,1,2,8,9,(10,[.wr .int]),11,12,13,14],[]),([0,1,2,8,9,(10,[.wr .int]),11,12,118],[]),([6,7],[]),([6,7],[])]
def Z9I(a b:List Int)(most d:Int)(re_10_0:List Int):LSt U:=(⟨[(0,.c (sU .int a .unk)),(1,.c (sU .int b .unk)),(2,.c (ci (if ((((a.length:Int):Int)+(b.length:Int)):Int) < (if (most:Int) < (-1) then (-1) else most) then (((a.length:Int):Int)+(b.length:Int)) else (if (most:Int) < (-1) then (-1) else most)))),pI 8 (a.length:Int),pI 9 (b.length:Int),(10,.c (.mref (.e 10 0))),pI 11 d],[],[(.e 10 0,LC.mk (U:=U) .int re_10_0 0)]⟩:LSt U)
def Z9H(a b:List Int)(most ab aa:Int)(d:List Int):LSt U:=(⟨[(0,.c (sU .int a .unk)),(1,.c (sU .int b .unk)),(2,.c (ci (if ((((a.length:Int):Int)+(b.length:Int)):Int) < (if (most:Int) < (-1) then (-1) else most) then (((a.length:Int):Int)+(b.length:Int)) else (if (most:Int) < (-1) then (-1) else most)))),pI 8 (a.length:Int),pI 9 (b.length:Int),(10,.c (.mref (.e 10 0))),pI 11 ab,pI 12 aa],[],[(.e 10 0,LC.mk (U:=U) .int d 0)]⟩:LSt U)
def Z9G(a b:List Int)(most af ab:Int)(d:List Int)(aa ae:Int):LSt U:=(⟨[(0,.c (sU .int a .unk)),(1,.c (sU .int b .unk)),(2,.c (ci (if ((((a.length:Int):Int)+(b.length:Int)):Int) < (if (most:Int) < (-1) then (-1) else most) then (((a.length:Int):Int)+(b.length:Int)) else (if (most:Int) < (-1) then (-1) else most)))),pI 8 (a.length:Int),pI 9 (b.length:Int),(10,.c (.mref (.e 10 0))),pI 11 af,pI 12 ab,pI 13 aa,pI 14 ae],[],[(.e 10 0,LC.mk (U:=U) .int d 0)]⟩:LSt U)
abbrev A82(p:List Nat):=AW (Z0L Znn) Tryz.f82 ZzM p
abbrev S82(p:List Nat):=SW (Z0L Znn) Tryz.f82 ZzM p
theorem ZIy(a b:List Int)(most:Int)(Q:QT)(h:let z1:=decide (((if ((((a.length:Int):Int)+(b.length:Int)):Int) < (if most < (-1) then (-1) else most) then (((a.length:Int):Int)+(b.length:Int)) else (if most < (-1) then (-1) else most)):Int) < 0);let z0:=bif z1 then true else (decide (((if ((((a.length:Int):Int)+(b.length:Int)):Int) < (if most < (-1) then (-1) else most) then (((a.length:Int):Int)+(b.length:Int)) else (if most < (-1) then (-1) else most)):Int) < (((a.length:Int):Int) - (b.length:Int))));((InR (((a.length:Int):Int)+(b.length:Int)))/\((Tt (!z1))/\(Tt (!z1))/\((!z1)=true->InR (((a.length:Int):Int) - (b.length:Int)))/\(Tt (!z1))/\(Tt (!z1))/\(z1=false->(!z1)=true)/\(Tt (!z0))/\(Tt (!z0))/\((!z0)=true->InR (((b.length:Int):Int) - (a.length:Int)))/\(Tt (!z0))/\(Tt (!z0))/\(z0=false->(!z0)=true)/\(iB (bif z0 then true else (decide (((if ((((a.length:Int):Int)+(b.length:Int)):Int) < (if most < (-1) then (-1) else most) then (((a.length:Int):Int)+(b.length:Int)) else (if most < (-1) then (-1) else most)):Int) < (((b.length:Int):Int) - (a.length:Int))))) ((Q .ret (L2 [pI 6 0,pB 7 false] []))) ((InR ((2:Int)*(if ((((a.length:Int):Int)+(b.length:Int)):Int) < (if most < (-1) then (-1) else most) then (((a.length:Int):Int)+(b.length:Int)) else (if most < (-1) then (-1) else most))))/\(InR ((((2:Int)*(if ((((a.length:Int):Int)+(b.length:Int)):Int) < (if most < (-1) then (-1) else most) then (((a.length:Int):Int)+(b.length:Int)) else (if most < (-1) then (-1) else most))):Int)+3))/\((0:Int)<=(((2:Int)*(if ((((a.length:Int):Int)+(b.length:Int)):Int) < (if most < (-1) then (-1) else most) then (((a.length:Int):Int)+(b.length:Int)) else (if most < (-1) then (-1) else most))):Int)+3/\(((((2:Int)*(if ((((a.length:Int):Int)+(b.length:Int)):Int) < (if most < (-1) then (-1) else most) then (((a.length:Int):Int)+(b.length:Int)) else (if most < (-1) then (-1) else most))):Int)+3):Int)*((8:Nat):Int)<=140737488355328/\((((2:Int)*(if ((((a.length:Int):Int)+(b.length:Int)):Int) < (if most < (-1) then (-1) else most) then (((a.length:Int):Int)+(b.length:Int)) else (if most < (-1) then (-1) else most))):Int)+3:Int)<=9223372036854775807)/\(((((2:Int)*(if ((((a.length:Int):Int)+(b.length:Int)):Int) < (if most < (-1) then (-1) else most) then (((a.length:Int):Int)+(b.length:Int)) else (if most < (-1) then (-1) else most))):Int)+3:Int)=((((2:Int)*(if ((((a.length:Int):Int)+(b.length:Int)):Int) < (if most < (-1) then (-1) else most) then (((a.length:Int):Int)+(b.length:Int)) else (if most < (-1) then (-1) else most))):Int)+3))/\(Zk (A82 [1,1,1,1,1,0,1,0,0]) (Z9I a b most 0 (List.replicate (Int.toNat ((((2:Int)*(if ((((a.length:Int):Int)+(b.length:Int)):Int) < (if most < (-1) then (-1) else most) then (((a.length:Int):Int)+(b.length:Int)) else (if most < (-1) then (-1) else most))):Int)+3)) (0:Int))) (xB 0 (S82 [1,1,1,1,1,1] Q)))))))):
  A82 [] (L2 [(0,.c (sU .int a .unk)),(1,.c (sU .int b .unk)),pI 2 most] []) Q:=
 (Eq.mpr V5 h:)
theorem ZxV(a b:List Int)(most d:Int)(re_10_0:List Int)(N0:NT)(Q:QT)(h:(iB (decide (d<=(if ((((a.length:Int):Int)+(b.length:Int)):Int) < (if most < (-1) then (-1) else most) then (((a.length:Int):Int)+(b.length:Int)) else (if most < (-1) then (-1) else most)))) ((InR (-d))/\(Zk (A82 [1,1,1,1,1,0,1,0,0,1,0,0,1,0,0]) (Z9H a b most d (-d) re_10_0) (xB 2 (xB 1 (S82 [1,1,1,1,1,0,1,0,0,1,1] (xT N0 (xB 0 (S82 [1,1,1,1,1,1] Q)))))))) ((Q .ret (L2 [pI 6 0,pB 7 false] []))))):
  A82 [1,1,1,1,1,0,1,0,0] (Z9I a b most d re_10_0) (xT N0 (xB 0 (S82 [1,1,1,1,1,1] Q))):=
 (Eq.mpr V5 h:)
theorem ZxU(a b:List Int)(most ab d:Int)(aa:List Int)(N1 N0:NT)(Q:QT)(h:∀ ae,ae=(Z3J aa (((((if ((((a.length:Int):Int)+(b.length:Int)):Int) < (if most < (-1) then (-1) else most) then (((a.length:Int):Int)+(b.length:Int)) else (if most < (-1) then (-1) else most)):Int)+1):Int)+d) (d==(-ab)) (d==ab))->(iB (decide (d<=ab)) ((InR (((if ((((a.length:Int):Int)+(b.length:Int)):Int) < (if most < (-1) then (-1) else most) then (((a.length:Int):Int)+(b.length:Int)) else (if most < (-1) then (-1) else most)):Int)+1))/\(InR (((((if ((((a.length:Int):Int)+(b.length:Int)):Int) < (if most < (-1) then (-1) else most) then (((a.length:Int):Int)+(b.length:Int)) else (if most < (-1) then (-1) else most)):Int)+1):Int)+d))/\(InR (-ab))/\(ZmU (aa,(((((if ((((a.length:Int):Int)+(b.length:Int)):Int) < (if most < (-1) then (-1) else most) then (((a.length:Int):Int)+(b.length:Int)) else (if most < (-1) then (-1) else most)):Int)+1):Int)+d),(d==(-ab)),(d==ab),()))/\((InR (ae - d))/\(Zk (A82 [1,1,1,1,1,0,1,0,0,1,0,0,1,0,0,1,0,0,1,1,0,0,0]) (Z9G a b most ab d aa ae (ae - d)) (xB 4 (S82 [1,1,1,1,1,0,1,0,0,1,0,0,1,0,0,1,0,0,1,1,1] (xB 3 (S82 [1,1,1,1,1,0,1,0,0,1,0,0,1,0,0,1,1] (xT N1 (xB 2 (xB 1 (S82 [1,1,1,1,1,0,1,0,0,1,1] (xT N0 (xB 0 (S82 [1,1,1,1,1,1] Q)))))))))))))) ((InR (ab+1))/\(N0 (Z9I a b most (ab+1) aa))))):
  A82 [1,1,1,1,1,0,1,0,0,1,0,0,1,0,0] (Z9H a b most ab d aa) (xT N1 (xB 2 (xB 1 (S82 [1,1,1,1,1,0,1,0,0,1,1] (xT N0 (xB 0 (S82 [1,1,1,1,1,1] Q))))))):=
 (Eq.mpr V5 (h _ rfl):)
theorem ZxT(a b:List Int)(most af ab:Int)(aa:List Int)(d ae:Int)(N2 N1 N0:NT)(Q:QT)(h:let z4:=decide (d < (a.length:Int));let z2:=decide (((a.length:Int):Int)<=d);let z1:=bif z4 then (decide (ae < (b.length:Int))) else false;let z3:=bif z1 then (decide ((0:Int)<=d)) else false;let z0:=bif z3 then (decide ((0:Int)<=ae)) else false;(Tt z4)/\(Tt z4)/\(Tt z4)/\(Tt z1)/\(Tt z1)/\(Tt z3)/\(Tt z3)/\(Tt z0)/\(Tt z0)/\(z0=true->(0:Int)<=d/\d < (a.length:Int))/\(Tt z0)/\(Tt z0)/\(Tt z0)/\(z0=true->(0:Int)<=ae/\ae < (b.length:Int))/\(Tt z0)/\(Tt z0)/\(Tt z0)/\(Tt z0)/\(iB (bif z0 then (((a.getD d.toNat (0:Int)):Int)==(b.getD ae.toNat (0:Int))) else false) ((InR (d+1))/\(InR (ae+1))/\(N2 (Z9G a b most af ab aa (d+1) (ae+1)))) ((InR (((if ((((a.length:Int):Int)+(b.length:Int)):Int) < (if most < (-1) then (-1) else most) then (((a.length:Int):Int)+(b.length:Int)) else (if most < (-1) then (-1) else most)):Int)+1))/\(InR (((((if ((((a.length:Int):Int)+(b.length:Int)):Int) < (if most < (-1) then (-1) else most) then (((a.length:Int):Int)+(b.length:Int)) else (if most < (-1) then (-1) else most)):Int)+1):Int)+ab))/\((0:Int)<=(((((if ((((a.length:Int):Int)+(b.length:Int)):Int) < (if most < (-1) then (-1) else most) then (((a.length:Int):Int)+(b.length:Int)) else (if most < (-1) then (-1) else most)):Int)+1):Int)+ab)/\(((((if ((((a.length:Int):Int)+(b.length:Int)):Int) < (if most < (-1) then (-1) else most) then (((a.length:Int):Int)+(b.length:Int)) else (if most < (-1) then (-1) else most)):Int)+1):Int)+ab) < (aa.length:Int))/\((0:Nat)<=(Int.toNat (((((if ((((a.length:Int):Int)+(b.length:Int)):Int) < (if most < (-1) then (-1) else most) then (((a.length:Int):Int)+(b.length:Int)) else (if most < (-1) then (-1) else most)):Int)+1):Int)+ab)))/\((Tt z2)/\(Tt z2)/\(Tt z2)/\(iB (bif z2 then (decide (((b.length:Int):Int)<=ae)) else false) ((Q .ret (L2 [pI 6 af,pB 7 true] []))) ((InR (ab+2))/\(N1 (Z9H a b most af (ab+2) (List.set aa (Int.toNat (((((if ((((a.length:Int):Int)+(b.length:Int)):Int) < (if most < (-1) then (-1) else most) then (((a.length:Int):Int)+(b.length:Int)) else (if most < (-1) then (-1) else most)):Int)+1):Int)+ab)) d))))))))):
  A82 [1,1,1,1,1,0,1,0,0,1,0,0,1,0,0,1,0,0,1,1,0,0,0] (Z9G a b most af ab aa d ae) (xT N2 (xB 4 (S82 [1,1,1,1,1,0,1,0,0,1,0,0,1,0,0,1,0,0,1,1,1] (xB 3 (S82 [1,1,1,1,1,0,1,0,0,1,0,0,1,0,0,1,1] (xT N1 (xB 2 (xB 1 (S82 [1,1,1,1,1,0,1,0,0,1,1] (xT N0 (xB 0 (S82 [1,1,1,1,1,1] Q)))))))))))):=
 (Eq.mpr V5 h:)
abbrev ZFq(a b:List Int)(most:Int):Prop:=AW (Z0L Znn) Tryz.f82 ZzM [] (Zf (ZqN.can (a,b,most,())) []) (EQ Tryz.f82 (Zk7 (a,b,most,())) [])
theorem ZCY(ZEX:CT 102 Z8T)(hb:∀ (a:List Int) (b:List Int) (d:Int) (_:Unit),Zuj (a,b,d,())->ZFq a b d):CT 82 ZdE:=
 Z1o (l:=[(102,Z8T.lend)]) Zd rfl (⟨ZEX.lend,trivial⟩) ZzM Tryz.func82 rfl rfl 3 (fun _=> rfl) V2 (fun ⟨a,b,d,_⟩=> hb a b d ())
def ZvP:List (FuncId × Fs U):=[(82,ZdE),(83,ZdD),(68,Z7I)]
def ZDT:Zb U:=lvl [([0,1,2],[]),([0,1,9],[]),([0,1,19],[]),([6,7],[]),([0,1,10],[21]),([10],[21]),([6,7],[])]
abbrev A67(p:List Nat):=AW (Z1 ZvP) Tryz.f67 ZDT p
theorem ZII(a b:List Int)(most:Int)(Q:QT)(h:((Zuj (a,b,most,()))/\(iB (!((Zhb a b most).2)) ((Q .ret (L2 [(6,.c (.nils)),pB 7 false] []))) (((ZgF ((([]:List SStep),()),a,b,()))/\((Zpg ((Z0q ([]:List SStep) a b),()))/\(Q .ret (L2 [(6,.c (sU .sstep (Z5u (Z0q ([]:List SStep) a b)) (.own (.e 6 0)))),pB 7 true] [])))))))):
  A67 [] (L2 [(0,.c (sU .int a .unk)),(1,.c (sU .int b .unk)),pI 2 most] []) Q:=
 (Eq.mpr V5 h:)
abbrev ZFA(a b:List Int)(most:Int):Prop:=AW (Z1 ZvP) Tryz.f67 ZDT [] (Zf (ZqN.can (a,b,most,())) []) (EQ Tryz.f67 (ZoZ (a,b,most,())) [])
theorem ZD7(c82:CT 82 ZdE)(c83:CT 83 ZdD)(c68:CT 68 Z7I)(hb:∀ (a:List Int) (b:List Int) (d:Int) (_:Unit),Zuj (a,b,d,())->ZFA a b d):CT 67 ZhN:=
 Z2 (l:=[(82,ZdE),(83,ZdD),(68,Z7I)]) Zd rfl (⟨c82,c83,c68,trivial⟩) ZDT Tryz.func67 rfl rfl 3 (fun _=> rfl) V2 (fun ⟨a,b,d,_⟩=> hb a b d ())
end
theorem Zf9{l:List Int}{i j:Nat}{x:Int}:(l.set i x).getD j 0=if i=j/\i < l.length then x else l.getD j 0:=by grind
def ZfA(s:List Int × Int)(n:Nat)(c:Int):Prop:=s.1.length=n/\(∀ p:Nat,0<=s.1.getD p 0/\s.1.getD p 0<=c)/\0<=s.2/\s.2<=c
theorem ZoF{s:List Int × Int}{n:Nat}{c:Int}(h:ZfA s n c)(x y j:Int):ZfA (Zmi x y j s) n (c+1):=by
 obtain ⟨h1,d,h3,h4⟩:=h
 have w:∀ p:Nat,0<=(if x=y then s.1.set (j+1).toNat (s.2+1) else s.1).getD p 0/\(if x=y then s.1.set (j+1).toNat (s.2+1) else s.1).getD p 0<=c+1:=by
  intro p
  have:=d p
  split
  .rw [Zf9];split <;> omega
  .omega
 have w5:(if x=y then s.1.set (j+1).toNat (s.2+1) else s.1).length=n:=by split <;> simp [h1]
 have w6:=d (j+1).toNat
 simp only [Zmi]
 generalize (if x=y then s.1.set (j+1).toNat (s.2+1) else s.1)=o at w w5
 refine ⟨by simp [w5],fun p=> ?_,V3,V3⟩
 have w1:=w (j+1).toNat
 have w2:=w j.toNat
 have w3:=w p
 simp only [Zf9]
 split <;> omega
theorem Zge(x:Int):∀ (b:List Int) (j:Int) (s:List Int × Int) (n:Nat) (c:Int),ZfA s n c->ZfA (Z2J x b j s) n (c+b.length)
 | [],_,s,n,c,h=> by simpa [Z2J] using h
 | y ::r,j,s,n,c,h=> by
  rw [Z2J]
  have:=Zge x r (j+1) _ n _ (ZoF h x y j)
  rwa [show c+((y ::r).length:Nat)=c+1+(r.length:Nat) by simp;omega]
theorem Zgf{s:List Int × Int}{n:Nat}{c:Int}(h:ZfA s n c):ZfA (s.1,0) n c:=⟨h.1,h.2.1,Xe 0,by have:=h.2.2;dsimp only;omega⟩
theorem ZjS(b:List Int)(n:Nat):∀ (a:List Int) (o:List Int) (c:Int),ZfA (o,0) n c->ZfA (a.foldl (fun out x=> (Z2J x b 0 (out,0)).1) o,0) n (c+a.length*b.length)
 | [],o,c,h=> by simpa using h
 | x ::r,o,c,h=> by
  have:=ZjS b n r _ _ (Zgf (Zge x b 0 _ n c h))
  rw [X8]
  rw [show c+((x ::r).length:Nat)*(b.length:Int)=c+b.length+(r.length:Nat)*(b.length:Int) by simp [Int.add_mul];omega]
  exact this
theorem ZBg(a b:List Int):ZfA (Z0z a b,0) (b.length+1) (a.length*b.length):=by
 unfold Z0z
 have:=ZjS b (b.length+1) a (List.replicate (b.length+1) 0) 0 ⟨by simp,fun p=> by simp [Q6,Xt];split <;> simp,by simp,by simp⟩
 simpa using this
theorem Zih{a b:Nat}(h1:a<=1000000)(h2:b<=1000000):(a:Int)*b<=1000000000000:=by
 have h:=Int.ofNat_le.2 (Nat.mul_le_mul h1 h2)
 rw [Kj] at h
 omega
theorem ZuX(a b:Int):(if a < b then b else a)=max a b:=V0
theorem ZEQ:Contract Tryz.prog cfg 112 Z8O:=by
 refine Zzy ?_
 intro a b _ hp
 obtain ⟨h1,h2⟩:=hp
 dsimp only at h1 h2
 refine ZGS _ _ _ ⟨by dsimp only;unfold InR;omega,⟨V3,V3,V3⟩,rfl,?_⟩
 refine Z8 (ι:=Int × List Int) (fun s=> Z70 a b s.1 s.2) (fun s=> (0<=s.1/\s.1<=a.length)/\ZfA (s.2,0) (b.length+1) (s.1*b.length)/\Z0z a b=(a.drop s.1.toNat).foldl (fun out x=> (Z2J x b 0 (out,0)).1) s.2) (fun s=> ((a.length:Int) - s.1).toNat) (0,List.replicate (b.length+1) 0) rfl ⟨⟨V0,V0⟩,⟨by simp,fun p=> by simp [Q6,Xt];split <;> simp,by simp,by simp⟩,by simp [Z0z]⟩ ?_
 rintro ⟨i,o⟩ ⟨⟨f1,f2⟩,f3,f4⟩
 dsimp only at f1 f2 f3 f4
 refine ZsN _ _ _ _ _ _ ?_
 (simp only [iB,vcT,vcS])
 refine ⟨fun hi=> ⟨⟨f1,hi⟩,?_⟩,fun hi=> ?_⟩
 .rw [Jj f1 hi (0:Int),X8] at f4
  have hb:i*(b.length:Int)<=1000000000000:=by have:=Zih (a:=i.toNat) (b:=b.length) V0 h2;rwa [Int.toNat_of_nonneg f1] at this
  refine Z8 (ι:=Int × List Int × Int) (fun s=> Z4l a b i s.2.2 s.1 s.2.1) (fun s=> (0<=s.1/\s.1<=b.length)/\ZfA s.2 (b.length+1) (i*b.length+s.1)/\Z2J (a.getD i.toNat 0) b 0 (o,0)=Z2J (a.getD i.toNat 0) (b.drop s.1.toNat) s.1 s.2) (fun s=> ((b.length:Int) - s.1).toNat) (0,o,0) rfl ⟨⟨V0,V0⟩,by simpa using f3,by simp⟩ ?_
  rintro ⟨j,r,bf⟩ ⟨⟨g1,g2⟩,g3,d⟩
  dsimp only at g1 g2 g3 d
  refine ZsM _ _ _ _ _ _ _ _ _ ?_
  rintro y1 rfl y2 rfl
  (simp only [iB,vcT,vcS])
  have gl:r.length=b.length+1:=g3.1
  refine ⟨fun hj=> ?_,fun hj=> ?_⟩
  .rw [Jj g1 hj (0:Int),Z2J] at d
   have w:=ZoF g3 (a.getD i.toNat 0) (b.getD j.toNat 0) j
   have g5:=g3.2.2
   refine ⟨⟨g1,hj⟩,V4,⟨V0,V0⟩,fun he=> ?_,fun he=> ?_⟩
   .refine ⟨V4,by unfold InR;dsimp only at g5;omega,⟨V0,V0⟩,Nat.zero_le _,V4,V4,⟨V0,by simp;omega⟩,⟨V0,by simp;omega⟩,⟨V0,by simp;omega⟩,Nat.zero_le _,V4,(j+1,Zmi (a.getD i.toNat 0) (b.getD j.toNat 0) j (r,bf)),?_,⟨⟨V3,V3⟩,?_,d⟩,V3⟩
    .simp only [Zmi,if_pos he,ZuX]
    .dsimp only;rwa [<-Int.add_assoc]
   .refine ⟨V4,V4,⟨V0,V0⟩,⟨V0,V0⟩,⟨V0,V0⟩,Nat.zero_le _,V4,(j+1,Zmi (a.getD i.toNat 0) (b.getD j.toNat 0) j (r,bf)),?_,⟨⟨V3,V3⟩,?_,d⟩,V3⟩
    .simp only [Zmi,if_neg he,ZuX]
    .dsimp only;rwa [<-Int.add_assoc]
  .have e:j=b.length:=V0
   subst e
   rw [Qe V0,Z2J] at d
   refine ⟨V4,(i+1,r),rfl,⟨⟨V3,V3⟩,?_,?_⟩,V3⟩
   .dsimp only;rw [Int.add_mul,Int.one_mul];exact Zgf g3
   .rw [f4,d]
 .rw [Qe V0] at f4
  have e:o=Z0z a b:=f4.symm
  subst e
  exact V1
theorem ZEV:Contract Tryz.prog cfg 105 Z8R:=by
 refine ZzE ZEQ ZEP ?_
 intro a b d _ hp
 obtain ⟨⟨h1,h2⟩,h3,h4⟩:=hp
 dsimp only at h1 h2 h3 h4
 have w1:=ZBg (a.take d.toNat) b
 have w2:=ZBg (a.drop d.toNat).reverse b.reverse
 have w3:=Zih (a:=(a.take d.toNat).length) (b:=b.length) (by simp;omega) h2
 have w4:=Zih (a:=(a.drop d.toNat).reverse.length) (b:=b.reverse.length) (by simp;omega) (by simpa using h2)
 refine ZGY _ _ _ _ ⟨⟨h3,h4⟩,⟨by simp;omega,h2⟩,⟨h3,h4⟩,by show List.length _<=_;simp;omega,h2,⟨by simp;omega,by simpa using h2⟩,?_⟩
 have e:Z1B a b d=Zam (Z0z (a.take d.toNat) b) (Z0z (a.drop d.toNat).reverse b.reverse) b.length (b.length+1) 0 0:=rfl
 have l1:(Z0z (a.take d.toNat) b).length=b.length+1:=w1.1
 have l2:(Z0z (a.drop d.toNat).reverse b.reverse).length=b.length+1:=by have:=w2.1;simpa using this
 refine Z8 (ι:=Int × Int) (fun s=> Z4q a b d s.1 s.2) (fun s=> (0<=s.1/\s.1<=b.length+1)/\(0<=s.2/\s.2<=b.length)/\Z1B a b d=Zam (Z0z (a.take d.toNat) b) (Z0z (a.drop d.toNat).reverse b.reverse) b.length ((b.length:Int)+1 - s.1).toNat s.1 s.2) (fun s=> ((b.length:Int)+1 - s.1).toNat) (0,0) rfl ⟨⟨V0,V3⟩,⟨V0,V0⟩,by rw [e];congr 1⟩ ?_
 clear e
 rintro ⟨j,aa⟩ ⟨⟨f1,f2⟩,⟨f3,f4⟩,f5⟩
 dsimp only at f1 f2 f3 f4 f5
 refine ZsV _ _ _ _ _ _ _ ?_
 rintro y1 ab y2 ai y3 ah y4 aj y5 af
 generalize Z0z (a.take d.toNat) b=F at*
 rw [<-ab] at f5 l2 w2
 have b2:=w1.2.1 aa.toNat
 have b3:=w1.2.1 j.toNat
 have b4:=w2.2.1 ((b.length:Int) - aa).toNat
 have b5:=w2.2.1 ((b.length:Int) - j).toNat
 dsimp only at b2 b3 b4 b5
 rw [<-ai] at b2
 rw [<-ah] at b3
 rw [<-aj] at b4
 rw [<-af] at b5
 (simp only [iB,vcT,vcS])
 refine ⟨fun hj=> ?_,fun hj=> ?_⟩
 .rw [l1] at hj
  have hn:((b.length:Int)+1 - j).toNat=((b.length:Int)+1 - (j+1)).toNat+1:=V0
  rw [hn,Zam,<-ai,<-ah,<-aj,<-af] at f5
  refine ⟨⟨f1,V0⟩,V4,⟨V0,V0⟩,V4,⟨f3,V0⟩,V4,⟨V0,V0⟩,V4,fun he=> ?_,fun he=> ?_⟩
  .rw [if_pos he] at f5
   exact ⟨V4,(j+1,j),rfl,⟨⟨V3,V3⟩,⟨V3,V3⟩,by rw [<-ab];exact f5⟩,V3⟩
  .rw [if_neg he] at f5
   exact ⟨V4,(j+1,aa),rfl,⟨⟨V3,V3⟩,⟨V3,V3⟩,by rw [<-ab];exact f5⟩,V3⟩
 .rw [l1] at hj
  rw [show ((b.length:Int)+1 - j).toNat=0 by omega,Zam] at f5
  subst f5
  exact V1
theorem ZrV(n:Nat)(h:n<=1000000):IntKind.wrap .i64 (Int.tdiv (n:Int) 2)=((n / 2:Nat):Int):=by
 rw [Xf V0]
 simp [IntKind.wrap,IntKind.signed,IntKind.bits]
 omega
theorem ZuF(l:List SStep)(x:Int)(b:List Int):(ZfF l x b).length<=l.length+3:=by
 unfold ZfF
 split
 .exact QZ (Z1s _ _ _) (by have:=Z1s l 1 1;omega)
 .exact QZ (Z1s _ _ _) (by have:=Z1s (YI l 2 (Z0d x b)) 0 1;have:=Z1s l 2 (Z0d x b);omega)
theorem Zxt(l:List SStep)(k:Int)(n:Nat):(YI l k n).length<=l.length+n:=by unfold YI;split <;> simp;omega
theorem Z78(l:List SStep)(a b:List Int):(Z0q l a b).length<=l.length+3*a.length+b.length:=by
 rw [Z0q]
 split
 .have h1:=Zxt (YI l 1 a.length) 2 b.length
  have d:=Zxt l 1 a.length
  omega
 .split
  .have:=ZuF l (a.getD 0 0) b
   omega
  .have h1:=Z78 l (a.take (a.length / 2)) (b.take (Z1B a b (a.length / 2:Nat)).toNat)
   have d:=Z78 (Z0q l (a.take (a.length / 2)) (b.take (Z1B a b (a.length / 2:Nat)).toNat)) (a.drop (a.length / 2)) (b.drop (Z1B a b (a.length / 2:Nat)).toNat)
   have h3:=Zga a b (a.length / 2:Nat)
   simp only [Qq,Qx] at h1 d
   omega
termination_by a.length
decreasing_by all_goals (simp;omega)
theorem c83:Contract Tryz.prog cfg 83 ZdD:=by
 refine ZCX Zse ZEW ZEV ?_
 intro N l a b _ hp hN
 obtain ⟨h1,h2,h3⟩:=hp
 have hN:a.length < N+1:=hN
 dsimp only at h1 h2 h3
 refine ZIx _ _ _ _ _ ?_
 rw [ZrV a.length h1,QU]
 rintro y1 ab y2 d
 subst ab
 have h4:=Zga a b (a.length / 2:Nat)
 have a1:=Z1s l 1 a.length
 rw [<-d] at h4
 (simp only [iB,vcT,vcS])
 refine ⟨fun h=> ?_,fun h=> ⟨fun ha=> ?_,fun ha=> ?_⟩⟩
 .refine ⟨by show l.length<=_;omega,by show (YI l 1 a.length).length<=_;omega,?_⟩
  have h:a.length=0\/b.length=0:=V0
  have e:Z0q l a b=YI (YI l 1 a.length) 2 b.length:=by rw [Z0q,if_pos h]
  simp only [ZaL,e]
  exact V1
 .have e:Z0q l a b=ZfF l (a.getD 0 0) b:=by rw [Z0q,Yo,Yz]
  refine ⟨⟨V0,V0⟩,⟨V3,V3⟩,?_⟩
  simp only [ZaL,e]
  exact V1
 .have hl:=Z78 l (a.take (a.length / 2)) (b.take y2.toNat)
  simp only [Qq] at hl
  have e:Z0q l a b=Z0q (Z0q l (a.take (a.length / 2)) (b.take y2.toNat)) (a.drop (a.length / 2)) (b.drop y2.toNat):=by rw [d,Z0q,Yo,Yo]
  refine ⟨V2,⟨⟨h1,h2⟩,V3,V3⟩,⟨V0,V0⟩,⟨V0,V0⟩,⟨by simp;omega,by simp;omega,by simp;omega⟩,by show List.length _ < _;simp;omega,⟨V0,V0⟩,⟨V0,V0⟩,⟨by simp;omega,by simp;omega,by simp;omega⟩,by show List.length _ < _;simp;omega,?_⟩
  simp only [ZaL,e]
  exact V1
theorem ZEX:Contract Tryz.prog cfg 102 Z8T:=by
 refine ZzH ?_
 intro d at_ lo hi _ hp
 obtain ⟨h1,h2,h3,h4⟩:=hp
 dsimp only at h1 h2 h3 h4
 refine ZH1 _ _ _ _ _ ?_
 have w1:=h4 (at_ - 1).toNat
 have w2:=h4 (at_+1).toNat
 have b1:lo=false->1<=at_/\at_<=d.length:=fun h=> h1.resolve_left (by simp [h])
 have b2:hi=false->0<=at_/\at_+1 < d.length:=fun h=> h2.resolve_left (by simp [h])
 clear h1 h2
 cases lo <;> cases hi <;> (simp only [iB,vcT,vcS])
 .have b1:=b1 rfl
  have b2:=b2 rfl
  refine ⟨fun h=> absurd h.1 V2,fun _=> ⟨V4,⟨V0,V0⟩,V4,⟨V0,V0⟩,fun h=> ?_,fun h=> ?_⟩⟩
  .have h:=h.resolve_left V2
   exact ⟨V4,⟨V0,V0⟩,ZE rfl (by unfold Z3J;rw [if_neg (by simp),if_pos (.inr ⟨rfl,h⟩)])⟩
  .have h:=h.resolve_left V2
   exact ⟨V4,⟨V0,V0⟩,V4,ZE rfl (by unfold Z3J;dsimp only;rw [if_neg (by simp),if_neg (by rintro (g | ⟨_,g⟩);cases g;omega)])⟩
 .have b1:=b1 rfl
  refine ⟨fun h=> absurd h V2,fun _=> ⟨fun h=> (by cases h),fun h=> (by cases h),fun h=> (by cases h),fun h=> (by cases h),fun h=> absurd h (by simp),fun h=> ⟨V4,⟨V0,V0⟩,V4,ZE rfl (by simp [Z3J])⟩⟩⟩
 .have b2:=b2 rfl
  refine ⟨fun h=> absurd h V2,fun _=> ⟨fun h=> (by cases h),fun h=> (by cases h),fun h=> (by cases h),fun h=> (by cases h),fun h=> ⟨V4,⟨V0,V0⟩,ZE rfl (by simp [Z3J])⟩,fun h=> absurd h.1 V2⟩⟩
 .exact ⟨ZE rfl (by simp [Z3J]),fun h=> absurd h (by simp)⟩
theorem ZuT(a b:List Int)(most:Int): -1<=JH a b most/\JH a b most<=(a.length:Int)+b.length:=by unfold JH;omega
theorem Z9r(a b:List Int)(most:Int):(if ((a.length:Int)+b.length) < (if most < -1 then -1 else most) then (a.length:Int)+b.length else (if most < -1 then -1 else most))=JH a b most:=by unfold JH;omega
theorem c82:Contract Tryz.prog cfg 82 ZdE:=by
 refine ZCY ZEX.lend ?_
 intro a b aa _ hp
 obtain ⟨h1,h2⟩:=hp
 dsimp only at h1 h2
 refine ZIy _ _ _ _ ?_
 have hm:=ZuT a b aa
 rw [Z9r]
 have e0:Zhb a b aa=if JH a b aa < 0\/JH a b aa < (a.length:Int) - b.length\/JH a b aa < (b.length:Int) - a.length then (0,false) else Zhc a b (JH a b aa) (List.replicate (2*JH a b aa+3).toNat 0) 0:=rfl
 (simp only [iB,vcT,vcS])
 refine ⟨V4,fun _=> by unfold InR;omega,fun _=> by unfold InR;omega,fun h=> ?_,fun h=> ?_⟩
 .rw [Yz] at e0
  simp only [Zk7,e0]
  exact V1
 rw [Yo] at e0
 refine ⟨V4,V4,⟨V0,V0,V0⟩,?_⟩
 refine Z8 (ι:=Int × List Int) (fun s=> Z9I a b aa s.1 s.2) (fun s=> (0<=s.1/\s.1<=JH a b aa+1)/\((s.2.length:Int)=2*JH a b aa+3/\∀ p:Nat,0<=s.2.getD p 0/\s.2.getD p 0<=a.length+s.1)/\Zhb a b aa=Zhc a b (JH a b aa) s.2 s.1) (fun s=> (JH a b aa+1 - s.1).toNat) (0,_) rfl ⟨⟨V0,V0⟩,⟨by simp;omega,fun p=> ?_⟩,e0⟩ ?_
 .simp only [Q6,Xt]
  split <;> simp
 clear e0
 rintro ⟨d,aj⟩ ⟨⟨f1,f2⟩,⟨f3,f4⟩,f5⟩
 dsimp only at f1 f2 f3 f4 f5
 refine ZxV _ _ _ _ _ _ _ ?_
 rw [Z9r]
 (simp only [iB,vcT,vcS])
 refine ⟨fun hd=> ⟨V4,?_⟩,fun hd=> ?_⟩
 .rw [Zhc,if_pos hd] at f5
  refine Z8 (ι:=Int × List Int) (fun s=> Z9H a b aa d s.1 s.2) (fun s=> (-d<=s.1/\s.1<=d+2)/\((s.2.length:Int)=2*JH a b aa+3/\∀ p:Nat,0<=s.2.getD p 0/\s.2.getD p 0<=a.length+d+1/\(((p:Int) - (JH a b aa+1+s.1)) % 2=1->s.2.getD p 0<=a.length+d))/\Zfk a b (JH a b aa) d aj (-d)=Zfk a b (JH a b aa) d s.2 s.1) (fun s=> (d+2 - s.1).toNat) (-d,aj) rfl ⟨⟨V0,V0⟩,⟨f3,fun p=> by have:=f4 p;dsimp only;omega⟩,rfl⟩ ?_
  rintro ⟨k,fr⟩ ⟨⟨g1,g2⟩,⟨g3,g4⟩,g5⟩
  dsimp only at g1 g2 g3 g4 g5
  refine ZxU _ _ _ _ _ _ _ _ _ ?_
  rw [Z9r]
  rintro y1 ah
  have hR:k<=d->0<=y1/\y1<=a.length+d+1:=by
   intro hk
   have p1:=g4 (JH a b aa+1+k - 1).toNat
   have p2:=g4 (JH a b aa+1+k+1).toNat
   rw [ah]
   unfold Z3J
   dsimp only
   split
   .omega
   .split <;> omega
  (simp only [iB,vcT,vcS])
  refine ⟨fun hk=> ?_,fun hk=> ?_⟩
  .have hR:=hR hk
   refine ⟨V4,V4,V4,⟨.inr ⟨V3,V3⟩,.inr ⟨V3,V3⟩,V3,fun p=> by have:=g4 p;dsimp only;omega⟩,V4,?_⟩
   have hw:ZsE a b (JH a b aa) d fr k=ZaG a b y1 (y1 - k):=by rw [ah];try rfl
   rw [Zfk.eq_1 a b _ d fr k,if_pos hk] at g5
   refine Z8 (ι:=Int × Int) (fun s=> Z9G a b aa d k fr s.1 s.2) (fun s=> (0<=s.1/\s.1<=a.length+d+1/\s.2=s.1 - k)/\ZsE a b (JH a b aa) d fr k=ZaG a b s.1 s.2) (fun s=> ((a.length:Int) - s.1).toNat) (y1,y1 - k) rfl ⟨⟨V3,V3,rfl⟩,hw⟩ ?_
   rintro ⟨i,j⟩ ⟨⟨w1,w2,w3⟩,w4⟩
   dsimp only at w1 w2 w3 w4
   refine ZxT _ _ _ _ _ _ _ _ _ _ _ _ ?_
   rw [Z9r]
   (simp only [iB,vcT,vcS])
   refine ⟨fun q=> ⟨w1,V0⟩,fun q=> ⟨V0,V0⟩,fun q=> ?_,fun q=> ?_⟩
   .rw [ZaG,Yz] at w4
    exact ⟨V4,V4,(i+1,j+1),rfl,⟨⟨V3,V3,V3⟩,w4⟩,V3⟩
   .rw [ZaG,Yo] at w4
    rw [w4] at g5
    refine ⟨V4,V4,⟨V0,V0⟩,Nat.zero_le _,fun z=> ?_,fun z=> ?_⟩
    .rw [if_pos z] at g5
     rw [g5,if_pos rfl] at f5
     simp only [Zk7,f5]
     exact V1
    .rw [Yo] at g5
     refine ⟨V4,(k+2,_),rfl,⟨⟨V3,V3⟩,⟨by simpa using g3,fun p=> ?_⟩,g5⟩,V3⟩
     have:=g4 p
     dsimp only
     rw [Zf9]
     split <;> omega
  .rw [Zfk.eq_1 a b _ d fr k,if_neg hk] at g5
   rw [g5] at f5
   rw [if_neg (by simp)] at f5
   exact ⟨V4,(d+1,fr),rfl,⟨⟨V3,V3⟩,⟨g3,fun p=> by have:=g4 p;dsimp only;omega⟩,f5⟩,V3⟩
 .rw [Zhc,if_neg hd] at f5
  simp only [Zk7,f5]
  exact V1
theorem c67:Contract Tryz.prog cfg 67 ZhN:=by
 refine ZD7 c82 c83 c68 ?_
 intro a b d _ hp
 obtain ⟨h1,h2⟩:=hp
 dsimp only at h1 h2
 refine ZII _ _ _ _ ⟨⟨h1,h2⟩,?_⟩
 have hl:=Z78 [] a b
 (simp only [iB,vcT,vcS])
 refine ⟨fun h=> ?_,fun h=> ?_⟩
 .have e:Z5y a b d=([],false):=by rw [Z5y,if_neg (by simp [h])]
  simp only [ZoZ,e]
  exact V1
 .have e:Z5y a b d=(Z5u (Z0q [] a b),true):=by rw [Z5y,if_pos h]
  refine ⟨⟨h1,h2,by simp;omega⟩,by show (Z0q [] a b).length<=_;simp at hl;omega,?_⟩
  simp only [ZoZ,e]
  exact V1
noncomputable section
def ZiX:List Int->List Int->Int
 | x ::r,y ::s=> (if x=y then 1 else 0)+ZiX r s
 | _,_=> 0
def ZiW:List Tree->List Tree->Int
 | x ::r,y ::s=> (if ZU (Z0 x) (Z0 y)=true then 1 else 0)+ZiW r s
 | _,_=> 0
def JQ(a b:Tree):Int:=if a.kind≠b.kind\/a.kind=0\/a.kind=10 then 0 else 1+ZiX a.words b.words+ZiW a.kids b.kids
def Z7g(x:Int):Nat->Int
 | 0=> 0
 | n+1=> Z7g x n+(if Zl x n=0 then 0 else 2 ^ n)
def Zdi(a b:Int):Int:=IntKind.wrap .u64 (BitVec.ofInt (IntKind.bits .u64) a ^^^ BitVec.ofInt (IntKind.bits .u64) b).toNat
def ZW(a b:Int):Int:=Z7g (Zdi a b) 8
def Z38(i a b:Int):WEdit:=⟨i,ZW a b,mix 0 a (ZW a b),mix 0 b (ZW a b)⟩
def ZT(kind:Int)(l:List Tree):List Op:=if l.length=0 then [] else [⟨kind,0,l,Edit.nil⟩]
def Z37(t:Tree):List Tree->Int
 | []=> -1
 | k ::r=> if ZU (Z0 k) (Z0 t)=true then 0 else if Z37 t r= -1 then -1 else Z37 t r+1
def ofS(s:List Tree × List Int)(t:Tree):List Tree × List Int:=if Z37 t s.1= -1 then (s.1++[t],s.2++[(s.1.length:Int)]) else (s.1,s.2++[Z37 t s.1])
def ofF(known l:List Tree):List Tree × List Int:=l.foldl ofS (known,[])
end
end Go.AM.YtnfbomhidainjaaGreat
