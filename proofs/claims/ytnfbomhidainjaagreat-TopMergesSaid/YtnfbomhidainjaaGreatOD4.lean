import Derived.Test.YtnfbomhidainjaaGreatTCL25k
import Derived.Test.YtnfbomhidainjaaGreatTKL21
import Derived.Test.YtnfbomhidainjaaGreatTKL21a
set_option linter.unusedSimpArgs false
set_option linter.unusedVariables false
namespace Go.AM.YtnfbomhidainjaaGreat
open Go.AM Go.Proofs
theorem ZFu(e:Edit):e.words.length+e.ops.length+Zr e.kids+Zh e.ops+mass e.old+mass e.new+1=Zi e:=by obtain⟨k,o,n,w,ks,l,os⟩:=e;simp only[Zi,Edit.words_mk,Edit.ops_mk,Edit.kids_mk,Edit.old_mk,Edit.new_mk];omega
theorem Zsg(t:Tree):1<=mass t:=by obtain⟨k,w,ks⟩:=t;simp only[mass];omega
theorem Zil{e:Edit}(h:Z4c e):Zi e<=9000000000:=X2 (Z5t e) h.1
theorem Zeh{e:Edit}(h:Z4c e):Z4t (e,())/\Z4c (ZM (Y2 e)):=by
 have hm:=Zil h;obtain⟨m,r,d,hr⟩:=h;refine⟨⟨by grind,d,hr⟩,?_,?_,d,Z17 _ _ (Z0v _ _ hr)⟩;.have:=ZgX (Y2 e);rw[ZbH]at this;omega
 .exact Z4q _ d (Z0v _ _ hr) (Z7t e r)
theorem ZbO{e:Edit}{t:Tree}(h:Z4c e)(hm:mass t<=100000000000)(ht:rng t):Z4s (e,t,()):=by have:=Zil h;have:=h.1;exact⟨⟨by grind,h.2⟩,by grind,ht⟩
theorem ZrW{e:Edit}(h:Z4c e):Ze7 e.kids:=by obtain⟨m,r,d,hr⟩:=h;have:=Z0d e;exact⟨Yp,(Z0s r).2.2.2.1,λk hk=>⟨_,(ZD (Zt hr).kids k hk).2⟩⟩
theorem ZrV{e:Edit}(h:Z4c e):Zu1 e.ops:=by obtain⟨m,r,d,hr⟩:=h;have:=Z0d e;exact⟨Yp,(Z0s r).2.2.2.2,λo ho=>⟨_,_,rightOs_mem (Zt hr).ops ho⟩⟩
theorem b19:ZMv:=by
 intro N p q _ hp hN;obtain⟨op,oq⟩:=hp;dsimp only at op oq;have av:8*(Zi p+Zi q)<N+1:=hN;obtain⟨dp,rp⟩:=op.2.2;obtain⟨dq,rq⟩:=oq.2.2;have d:=Zja rp rq;unfold Z0J at d;have lp:=ZFu p;have lq:=ZFu q;have mo:=Zsg p.old;have mn:=Zsg p.new;have au:=Zsg q.old;have ar:=Zsg q.new;have gp:=Z0s op.2.1;have gq:=Z0s oq.2.1;have cp:=Z0d p;have cq:=Z0d q;have aq:=op.1;have ao:=oq.1;have aa:∀{X:Edit}{b:Bool}{s:LSt U},YP p q=(X,b)->Z06 cfg Tryz.f19.ntmps Tryz.f19.results.toList (.tup [(true,enc .edit X),(false,[.bool b])]) [] .ret s->Z06 cfg Tryz.f19.ntmps Tryz.f19.results.toList (Z6x (p,q,())) [] .ret s:=by intro X b s h hs;refine Z0G ?_ hs;simp only[Z6x];rw[h];try rfl
 refine ZNW N p q _ ?_;intro y1 h1 y2 h2 y3 h3 y4 h4 y5 h5;replace h1:=h1.symm;replace h2:=h2.symm;replace h3:=h3.symm;replace h4:=h4.symm;subst h1 h2 h3 h4;(simp only[iB,vcT,vcS]);try dsimp only at h5⊢
 refine⟨λp0=>aa (by rw[d,if_pos p0]) YH,λp0=>?_⟩;rw[if_neg p0]at d;refine⟨λq0=>aa (by rw[d,if_pos q0]) YH,λq0=>?_⟩;rw[if_neg q0]at d;refine⟨λp1=>⟨ZbO oq Yp gp.2.1,aa (by rw[d,if_pos p1]) (by unfold doB;(repeat'(first|exact trivial|exact rfl|apply And.intro)))⟩,λp1=>?_⟩;rw[if_neg p1]at d;refine⟨λq1=>⟨(Zeh op).1,by rw[h5];exact ZbO (Zeh op).2 Yp gq.1,aa (by rw[d,if_pos q1,<-h5]) (by unfold doB;(repeat'(first|exact trivial|exact rfl|apply And.intro)))⟩,λq1=>?_⟩;rw[if_neg q1]at d;refine⟨λhd=>aa (by rw[d,if_pos hd]) YH,λhd=>?_⟩;rw[if_neg (by rintro(h|h);exact h hd.1;exact h hd.2)]at d;refine⟨λp2=>?_,λp2=>?_⟩
 .rw[if_pos p2]at d;refine⟨⟨⟨gp.2.2.1,V1⟩,gq.2.2.1,V1⟩,λhw=>?_,λhw=>⟨⟨ZrW op,ZrW oq⟩,by show 8*(Zr p.kids+Zr q.kids)+4<N;omega,?_⟩⟩;.exact aa (by rw[d,if_neg (by rw[hw];decide)]) YH
  .exact aa (by rw[d,if_pos hw]) YH
 .rw[if_neg p2]at d;exact⟨⟨ZrV op,ZrV oq⟩,by show 8*(Zh p.ops+Zh q.ops)+40<N;omega,aa d YH⟩
theorem b35:ZMp:=by intro N a b _ d hN;have ab:8*(Zr a+Zr b)+4<N+1:=hN;refine ZNH N a b _ ?_;exact⟨d,by show 8*(Zr a+Zr b)+3<N;omega,YH⟩
theorem Zm4{k:Kid}(h:Z2G k):InR k.at_/\YF k.e:=by cases k;exact h
theorem b55:ZMg:=by
 intro N a b _ hp hN;obtain⟨d,ob⟩:=hp;dsimp only at d ob;have ah:8*(Yg a+Yg b)+1<N+1:=hN;have ka:=Z7I a;have kb:=Z7I b;refine ZNo N a b _ ?_;intro y1 h1 y2 h2;replace h1:=h1.symm;replace h2:=h2.symm;subst h1 h2;try dsimp only
 have ra:Z4c a.e:=⟨by have:=d.1;rw[Z3q]at this;omega,(Zm4 d.2.1).2,d.2.2⟩;have rb:Z4c b.e:=⟨by have:=ob.1;rw[Z3q]at this;omega,(Zm4 ob.2.1).2,ob.2.2⟩;exact⟨⟨ra,rb⟩,by show 8*(Zi a.e+Zi b.e)<N;omega,by unfold Z8i Z2S;(repeat'(first|exact trivial|exact rfl|apply And.intro))⟩
theorem Zi4{l:List Kid}(h:Ze7 l):Ze7 (l.drop 1):=by cases l with|nil=>exact h|cons k r=>obtain⟨d,h2,h3⟩:=h;simp only[Z0S]at d;exact⟨by grind,h2.2,λx hx=>h3 x (Q3 _ hx)⟩
theorem Zi3{l:List Kid}(h:Ze7 l)(hl:0<l.length)(z:Kid):Zzc (l.getD 0 z)/\Yg (l.getD 0 z)+Zr (l.drop 1)=Zr l:=by cases l with|nil=>simp at hl|cons k r=>obtain⟨d,h2,h3⟩:=h;simp only[Z0S]at d;exact⟨⟨by grind,h2.1,h3 k Q5⟩,rfl⟩
theorem ZdH:∀l:List Kid,Zr (l.drop 1)<=Zr l|[]=>Qc _|k::r=>by simp only[Qw,QC,Zr];omega
theorem b53:ZMh:=by
 rintro N p q⟨⟩⟨⟩_ hp hN;obtain⟨op,oq⟩:=hp;dsimp only at op oq;have a2:8*(Zr p+Zr q)+3<N+1:=hN;have lp:=J8 p;have lq:=J8 q;have bp:=X2 (Z7H p) op.1;have bq:=X2 (Z7H q) oq.1;refine ZNq N p q () () _ ?_;refine Z6 (ι:=List Kid×List Kid×List Kid) (λx=>Z4O p q () () x.1 x.2.1 x.2.2) (λx=>MInv KidOf.at_ (Z2S YP) p q x.1 x.2.1 x.2.2/\(Ze7 x.1/\Zr x.1<=Zr p)/\Ze7 x.2.1/\Zr x.2.1<=Zr q) (λx=>x.1.length+x.2.1.length) (p,q,[]) rfl ⟨⟨by simp_all,by simp⟩,⟨op,Qc _⟩,oq,Qc _⟩ ?_;rintro⟨x0,x1,d⟩⟨inv,⟨r0,m0⟩,r1,m1⟩;dsimp only at inv r0 r1 m0 m1;have al:=inv.len;refine ZBs N p q () () _ _ _ _ _ ?_;intro y1 h1 y2 h2 y3 h3 y4 h4 y5 h5;subst h3 h4;(simp only[iB,vcT,vcS]);have h3:y3=x0.getD 0 ⟨0,Edit.nil⟩:=h1;have h4:y4=x1.getD 0 ⟨0,Edit.nil⟩:=h2;have d0:Ze7 (x0.drop 1)/\Zr (x0.drop 1)<=Zr p:=⟨Zi4 r0,by have:=ZdH x0;omega⟩;have d1:Ze7 (x1.drop 1)/\Zr (x1.drop 1)<=Zr q:=⟨Zi4 r1,by have:=ZdH x1;omega⟩;refine⟨λaz=>⟨λh=>⟨Yp,Yp⟩,λ_=>trivial,λh=>⟨Yp,Yp⟩,λ_=>trivial,λg1 g2=>⟨g1,g2⟩,λhA=>?_,λhB=>?_⟩,λhE=>?_⟩
 .refine⟨⟨Yp,Yp⟩,by grind,⟨Yp,Yp⟩,(x0.drop 1,x1,d++[y3]),rfl,⟨?_,d0,r1,m1⟩,by grind⟩;rw[h3];exact inv.left' _ Yp (by grind)
 .refine⟨λh=>⟨Yp,Yp⟩,λ_=>trivial,λh=>⟨Yp,Yp⟩,λ_=>trivial,λhC=>?_,λhD=>?_⟩;.refine⟨⟨Yp,Yp⟩,by grind,⟨Yp,Yp⟩,(x0,x1.drop 1,d++[y4]),rfl,⟨?_,⟨r0,m0⟩,d1⟩,by grind⟩;rw[h4];exact inv.right' _ Yp (by grind)
  .have hb:=inv.both' ⟨0,Edit.nil⟩ Yp Yp (by grind);rw[<-h3,<-h4]at hb;obtain⟨k3,n3⟩:=Zi3 r0 Yp ⟨0,Edit.nil⟩;obtain⟨k4,n4⟩:=Zi3 r1 Yp ⟨0,Edit.nil⟩;rw[<-h3]at k3 n3;rw[<-h4]at k4 n4;refine⟨⟨Yp,Yp⟩,⟨Yp,Yp⟩,⟨k3,k4⟩,by show 8*(Yg y3+Yg y4)+1<N;omega,λhc=>?_,λhc=>?_⟩;.have e:=Zgj (hb.2 hc);refine Z0G (r':=.tup [(false,[.slice (U:=U) .kid [] .unk]),(false,[.bool false])]) ?_ YH;simp only[Z6v];rw[e.1,e.2]
   .refine⟨by grind,⟨Yp,Yp⟩,⟨Yp,Yp⟩,(x0.drop 1,x1.drop 1,d++[y5]),rfl,⟨?_,d0,d1⟩,by grind⟩;grind
 .have e0:x0=[]:=Q0 Yp;have e1:x1=[]:=Q0 Yp;subst e0 e1;have e:=inv.done;refine Z0G (r':=.tup [(false,[.slice (U:=U) .kid d .unk]),(false,[.bool true])]) ?_ YH;simp only[Z6v];rw[e];try rfl
theorem ZmO{l:List Op}{o:Op}(h:Part l o)(ho:YD o)(hl:Z0W l):Yt o:=by
 obtain⟨d,m,k,e1,_,lt⟩:=h;have G:=Z2h (Z4p hl m);obtain⟨kk,nn,ll,ee⟩:=o;have k:kk=d.kind:=k;have e1:ee=d.e:=e1;have lt:∀t∈ll,t∈d.l:=lt;refine⟨by grind,?_,Z7s λt ht=>J7 G.2.2.1 (lt t ht),by grind⟩;rcases ho with h|h|h;.have:=h.2.2.1;unfold InR;grind
 .have h2:nn=0:=h.2.1;rw[h2];trivial
 .have h2:nn=0:=h.2.1;rw[h2];trivial
theorem Z7y{l:List Op}{o:Op}(h:Part l o):Z2y o<=YI l/\Zu o<=Zh l:=by obtain⟨o',m,k,d,hm,_⟩:=h;have h1:=ZbI m;have h2:=Jv m;have a:=Z3Y o;rw[YE,YE,d]at hm;rw[d]at a;rw[YE]at h2;rw[YE,d];omega
theorem Zg1{l:List Op}{o:Op}(h:Part l o)(hl:∀o∈l,∃list d,Z9 list o d=true)(k3:o.kind=3):∃d,Z8 o.e d=true:=by obtain⟨o',m,k,e1,hm,_⟩:=h;obtain⟨list,d,hr⟩:=hl o' m;exact⟨d,by rw[e1];exact Z15 hr Yp⟩
theorem Zxn{p q:List Op}(hp:Zu1 p)(hq:Zu1 q){x:Piece}(h:POk p q x):PcOk x:=by
 refine⟨h.of,λe=>?_,λe=>?_,h.both⟩;.obtain⟨a,b⟩:=h.pp e;exact⟨b,X2 (Z7y a).1 hp.1,ZmO a b hp.2.1,Zg1 a hp.2.2⟩
 .obtain⟨a,b⟩:=h.qq e;exact⟨b,X2 (Z7y a).1 hq.1,ZmO a b hq.2.1,Zg1 a hq.2.2⟩
theorem ZER{p:List Op}(hp:Zu1 p):Z6H p:=by
 refine⟨λo d=>?_,?_⟩;.obtain⟨_,_,h⟩:=hp.2.2 o d;exact Z8P h
 .have:=Z4y p;have:=hp.1;omega
theorem b36:ZMo:=by
 intro N p q _ hp hN;obtain⟨op,oq⟩:=hp;dsimp only at op oq;have a6:8*(Zh p+Zh q)+40<N+1:=hN;have kp:=ZER op;have kq:=ZER oq;obtain⟨i1,_⟩:=Zg5 _ p q [] (Qc _) kp.1 kq.1;refine ZNG N p q _ ?_;(simp only[iB,vcT,vcS]);refine⟨⟨kp,kq⟩,λhb=>?_,λhb=>?_⟩
 .have e:Z2L YP p q=none:=by unfold Z2L;grind
  refine Z0G (r':=.tup [(false,[.slice (U:=U) .op [] .unk]),(false,[.bool false])]) ?_ YH;simp only[Z5X];rw[e];try rfl
 .obtain⟨ps,e,ak,_,_⟩:=i1 hb;obtain⟨az,e1,_,_,av⟩:=Zg4 ZFO ZFN 1 _ p q [] (Qc _) kp.1 kq.1 hb;rw[e,Qh,Qh]at e1;subst e1;rw[Qh]at e;have af:Z2L YP p q=Z2A YP ps:=by unfold Z2L;grind
  refine Z6 (ι:=Int×List Op) (λs=>Z73 p q s.1 s.2) (λs=>0<=s.1/\s.1<=ps.length/\Z2A YP ps=(Z2A YP (ps.drop s.1.toNat)).map (s.2++·)/\s.2.length+(ps.drop s.1.toNat).length<=ps.length) (λs=>((ps.length:Int)-s.1).toNat) (0,[]) rfl ⟨by simp,by simp,by simp,by simp⟩ ?_;rintro⟨i,out⟩⟨f1,f2,d,f4⟩;dsimp only at f1 f2 d f4;refine ZBG N p q _ _ _ _ ?_;intro y1 h1 y2 h2 y3 h3;rw[e]at h1⊢;subst h2;(simp only[iB,vcT,vcS]);refine⟨λhi=>?_,λhi=>?_⟩
  .have h1:y2=ps.getD i.toNat (Piece.mk 0 Op.nil Op.nil):=h1;have ai:y2∈ps:=by rw[h1];exact Ze Yp _
   have hx:=ak y2 ai;have hd:ps.drop i.toNat=y2::ps.drop (i+1).toNat:=by rw[h1];exact Yu f1 hi _
   rw[hd,Z2A]at d;rw[hd,Qa]at f4;have ao:8*(Zu y2.p+Zu y2.q)+1<N:=by
    rcases hx.of with h|h|h;.have:=(Z7y (hx.pp Yp).1).2;have:=(Z7y (hx.qq Yp).1).2;omega
    .have:=(Z7y (hx.pp Yp).1).2;rw[hx.qn h,show Zu Op.nil=3 from rfl];omega
    .have:=(Z7y (hx.qq Yp).1).2;rw[hx.pn h,show Zu Op.nil=3 from rfl];omega
   have c1:=Z4y p;have c2:=Z4y q;have c3:=op.1;have c4:=oq.1;refine⟨⟨f1,hi⟩,Zxn op oq hx,ao,λhc=>?_,λhc=>⟨λah=>?_,λah=>?_⟩⟩;.rw[if_neg (by grind)]at d;refine Z0G (r':=.tup [(false,[.slice (U:=U) .op [] .unk]),(false,[.bool false])]) ?_ YH;simp only[Z5X];rw[af,d];try rfl
   .rw[if_pos hc,if_pos ah]at d;refine⟨by grind,V2,(i+1,out++[y3]),rfl,⟨Yp,Yp,?_,?_⟩,Yp⟩;.rw[d,h3];cases Z2A YP (ps.drop (i+1).toNat)<;>simp
    grind
   .rw[if_pos hc,if_neg (by grind)]at d;refine⟨V2,(i+1,out),rfl,⟨Yp,Yp,?_,by grind⟩,Yp⟩;simp_all
  .rw[Qb Yp,Z2A]at d;refine Z0G (r':=.tup [(false,[.slice (U:=U) .op out .unk]),(false,[.bool true])]) ?_ YH;simp only[Z5X];rw[af,d];simp[ofO]
theorem ZhJ{α:Type}{l:List α}{i:Nat}(h:i<l.length)(d:α):l.take (i+1)=l.take i++[l.getD i d]:=by simp_all
theorem ZnH{a b:List Tree}(h:Z7 a=Z7 b):ZIv a b=true:=Z82.2 h
theorem ZDV{a b:List Tree}(h:¬Z7 a=Z7 b):ZIv a b=false:=by rw[<-Kw];exact λe=>h (Z82.1 e)
theorem Zna(o:Op):Z5 o.l<=Z2y o:=by rw[Z3Y];omega
theorem b57:ZMf:=by
 intro N x _ hp hN;have hp:PcOk x:=hp;have am:8*(Zu x.p+Zu x.q)+1<N+1:=hN;have d:∀{o:Op}{i k:Bool}{s:LSt U},JY YP x=⟨o,i,k⟩->Z06 cfg Tryz.f57.ntmps Tryz.f57.results.toList (.tup [(true,enc .op o),(false,[.bool i]),(false,[.bool k])]) [] .ret s->Z06 cfg Tryz.f57.ntmps Tryz.f57.results.toList (Z6u (x,())) [] .ret s:=by
  intro o i k s h hs;refine Z0G ?_ hs;simp only[Z6u];rw[h];try rfl
 refine ZNm N x _ ?_;intro y1 h1 y2 h2 y3 h3 y4 h4 y5 h5 y6 h6 y7 h7 y8 h8 y9 h9;subst h1 h2 h5 h6;(simp only[iB,vcT,vcS]);have hc:=JY.eq_1 YP x;refine⟨λ_ h=>⟨Yp,h⟩,λc1=>d (by rw[hc,if_pos c1]) YH,λc1=>?_⟩;rw[JH]at hc;refine⟨λc2=>d (by rw[hc,if_pos c2]) YH,λc2=>?_⟩;rw[JH]at hc;have c0:x.of=0:=by rcases hp.of with h|h|h<;>omega
 obtain⟨b1,b2,b3⟩:=hp.both c0;obtain⟨op,mp,gp,rp⟩:=hp.pp Yp;obtain⟨oq,mq,gq,rq⟩:=hp.qq Yp;have ep:=Z3Y x.p;have eq:=Z3Y x.q;have ab:=Z2h gp;have aa:=Z2h gq;have ap:=Zna x.p;have aq:=Zna x.q;refine⟨λc3=>?_,λc3=>?_⟩
 .rw[if_pos c3]at hc;have l1:=Z1D op (.inr c3.1);have l2:=Z1D oq (.inl c3.2);have k1:=ZT x.p.l;rw[QA Yp]at hc;refine Z6 (ι:=Int) (λi=>ZaZ x i) (λi=>0<=i/\i<=x.p.l.length/\Z7 (x.p.l.take i.toNat)=Z7 (x.q.l.take i.toNat)) (λi=>((x.p.l.length:Int)-i).toNat) 0 rfl ⟨Yp,Yp,by simp⟩ ?_;rintro i⟨f1,f2,f3⟩;refine ZBr N x _ _ _ ?_;intro z1 g1 z2 g2 z3 g3 z4 g4;subst g1 g2;(simp only[iB,vcT,vcS]);have l3:x.p.l.length=x.q.l.length:=Yp;refine⟨λhi=>?_,λhi=>?_⟩
  .have m1:z3∈x.p.l:=by rw[g3];exact Ze Yp _
   have m2:z4∈x.q.l:=by rw[g4];exact Ze Yp _
   have bn:=ZS m1;have bl:=ZS m2;have t1:x.p.l.take (i+1).toNat=x.p.l.take i.toNat++[z3]:=by rw[g3,show(i+1).toNat=i.toNat+1 by omega];exact ZhJ Yp _
   have t2:x.q.l.take (i+1).toNat=x.q.l.take i.toNat++[z4]:=by rw[g4,show(i+1).toNat=i.toNat+1 by omega];exact ZhJ Yp _
   refine⟨⟨f1,hi⟩,⟨f1,Yp⟩,⟨V1,V1⟩,λaf=>d (by rw[hc,ZDV];intro he;rw[JN]at af;apply af;rw[g3,g4];exact ZdU he i.toNat) YH,λal=>⟨V2,i+1,rfl,⟨Yp,Yp,?_⟩,Yp⟩⟩;rw[t1,t2];exact Z23 f3 (Z22.2 (YS.1 al))
  .rw[QA Yp,QA Yp]at f3;exact d (by rw[hc,ZnH f3]) YH
 rw[JH]at hc;have kp:x.p.kind=2\/x.p.kind=3:=by rcases Jf op with k|k|k|k<;>omega
 have kq:x.q.kind=1\/x.q.kind=3:=by rcases Jf oq with k|k|k|k<;>omega
 refine⟨λc4=>?_,λc4=>?_⟩
 .rw[if_pos c4]at hc;have l1:=Z1D op (.inr c4);have l2:=Z3Q (o:=x.q) Yp;have hl:0<x.p.l.length:=Yp;have m3:y5∈x.p.l:=by rw[h3];exact Ze hl _
  have bj:=ZS m3;refine⟨⟨Yp,Yp⟩,ZbO ⟨Yp,aa.2.2.2,rq Yp⟩ Yp (J7 ab.2.2.1 m3),d hc ?_⟩;rw[show x.p.l.getD 0 Tree.nil=y5 from h3.symm];unfold doB;rw[<-h8];exact YH
 rw[if_neg c4]at hc;have p3:x.p.kind=3:=Yp;refine⟨λc5=>?_,λc5=>?_⟩
 .rw[if_pos c5]at hc;have l1:=Z1D oq (.inl c5);have l2:=Z3Q (o:=x.p) p3;have hl:0<x.q.l.length:=Yp;have m4:y6∈x.q.l:=by rw[h4];exact Ze hl _
  have bv:=ZS m4;have rk:Z4c x.p.e:=⟨Yp,ab.2.2.2,rp p3⟩;refine⟨(Zeh rk).1,⟨Yp,Yp⟩,by rw[h7];exact ZbO (Zeh rk).2 Yp (J7 aa.2.2.1 m4),d hc ?_⟩;rw[show x.q.l.getD 0 Tree.nil=y6 from h4.symm,<-h7];unfold doB;rw[<-h9];exact YH
 .rw[if_neg c5]at hc;have k1:Z4c x.p.e:=⟨Yp,ab.2.2.2,rp p3⟩;have k2:Z4c x.q.e:=⟨Yp,aa.2.2.2,rq Yp⟩;refine⟨⟨k1,k2⟩,?_,d hc YH⟩;show 8*(Zi x.p.e+Zi x.q.e)<N;rw[YE,YE]at am;omega
theorem ZOa:Contract Tryz.prog cfg 19 Zc8/\Contract Tryz.prog cfg 35 Zw3/\Contract Tryz.prog cfg 53 ZvV/\Contract Tryz.prog cfg 55 ZvU/\Contract Tryz.prog cfg 36 Zw2/\Contract Tryz.prog cfg 57 ZvT:=ZCI c10 c17 c38 c34 c54 (c56 c80) b19 b35 b53 b55 b36 b57
theorem c19:Contract Tryz.prog cfg 19 Zc8:=ZOa.1
noncomputable section
def ZCj(a:Edit×Edit×Unit):V U:=.tup [(true,(enc .edit ((ZcU a.1 a.2.1).1))),(false,[.bool ((ZcU a.1 a.2.1).2)])]
def ZlO:Fs U:=fs Z5U (λa=>[Z5Z a]) ZCj
def ZFw:List (FuncId×Fs U):=[(19,Zc8),(20,Z6j)]
abbrev A8(p:List Nat):=AW (Z2 ZFw) Tryz.f8 ZIk p
theorem vc8(p q:Edit)(Q:QT)(h:∀aa,aa=p->∀d,d=q->∀ab,ab=((YP aa d).1)->((Z5Z (aa,d,()))/\(iB (!((YP aa d).2)) ((Q .ret (L2 [pL 4,pB 5 false] [(.loc 4,zc1)]))) ((Z4t (ab,()))/\(Q .ret (L2 [pL 4,pB 5 true] [(.loc 4,(enc .edit (ZM ab)))])))))):A8 [] (L2 [(0,.agg (enc .edit p)),(1,.agg (enc .edit q))] []) Q:=Eq.mpr V3 (h _ (Zj _) _ (Zj _) _ (Zj _))
def ZMy(p q:Edit):Prop:=AW (Z2 ZFw) Tryz.f8 ZIk [] (Zg (Z5U.can (p,q,())) []) (EQ Tryz.f8 (ZCj (p,q,())) [])
theorem ZLD(c19:CT 19 Zc8)(c20:CT 20 Z6j)(hb:∀(p:Edit)(q:Edit)(_:Unit),Z5Z (p,q,())->ZMy p q):CT 8 ZlO:=Z1 (l:=[(19,Zc8),(20,Z6j)]) Zf rfl (⟨c19,c20,trivial⟩) ZIk Tryz.func8 rfl rfl 2 (λ_=>rfl) V0 (λ⟨p,q,_⟩=>hb p q ())
end
theorem ZrU{e:Edit}(h:Z4c e):Wk e:=by obtain⟨d,hr⟩:=h.2.2;exact .of hr h.2.1
theorem Zv2{p q:Edit}(hp:Z4c p)(hq:Z4c q):ComWk True (YP p q) p q:=ZIA _ p q (Qc _) (ZrU hp) (ZrU hq)
theorem ZDZ{p q:Edit}(hp:Z4c p)(hq:Z4c q)(h:(YP p q).2=true):Z4t ((YP p q).1,()):=by have H:=Zv2 hp hq;have:=H.ct trivial h;have:=Z5t (YP p q).1;have:=hp.1;have:=hq.1;exact⟨by grind,-1,(H.wk h).r⟩
theorem c8:Contract Tryz.prog cfg 8 ZlO:=by
 refine ZLD c19 Zzx.1 ?_;intro p q _ d;refine vc8 _ _ _ ?_;intro y1 h1 y2 h2 y3 h3;subst h1 h2;(simp only[iB,vcT,vcS]);refine⟨d,λhc=>?_,λhc=>?_⟩
 .refine Z0G (r':=.tup [(true,enc .edit Edit.nil),(false,[.bool false])]) ?_ YH;simp only[ZCj,ZcU];rw[if_neg (by grind)];try rfl
 .refine⟨by rw[h3];exact ZDZ d.1 d.2 hc,Z0G (r':=.tup [(true,enc .edit (ZM y3)),(false,[.bool true])]) ?_ YH⟩;simp only[ZCj,ZcU];rw[if_pos hc,h3];try rfl
noncomputable section
def Z9h(x y:Int):Int:=if x<y then-1 else if y<x then 1 else 0
def orL:List Int->Int|[]=>0|x::r=>if x≠0 then x else orL r
def Z1V:Three:=⟨⟨0,0⟩,0⟩
def ZqZ(a b:Three):Bool:=decide (orL [Z9h b.score a.score,Z9h a.p.i b.p.i,Z9h a.p.j b.p.j]<0)
def Z8r(l:List Three)(i j:Int):Bool:=ZqZ (l.getD i.toNat Z1V) (l.getD j.toNat Z1V)
def Z1u(l:List Three)(i j:Int):List Three:=(l.set i.toNat (l.getD j.toNat Z1V)).set j.toNat (l.getD i.toNat Z1V)
def upF:Nat->List Three->Int->List Three|0,l,_=>l|n+1,l,j=>if(j-1).tdiv 2=j\/Z8r l j ((j-1).tdiv 2)=false then l else upF n (Z1u l ((j-1).tdiv 2) j) ((j-1).tdiv 2)
def upR(l:List Three)(j:Int):List Three:=upF (j.toNat+1) l j
def ZaI(l:List Three)(i n:Int):Int:=if 2*i+2<n/\Z8r l (2*i+2) (2*i+1)=true then 2*i+2 else 2*i+1
def Z3l:Nat->List Three->Int->Int->List Three×Int|0,l,i,_=>(l,i)|k+1,l,i,n=>if 2*i+1<n then(if Z8r l (ZaI l i n) i=false then(l,i)else Z3l k (Z1u l i (ZaI l i n)) (ZaI l i n) n)else(l,i)
def Z1q(l:List Three)(i n:Int):List Three×Int:=Z3l (n-i).toNat l i n
def Zdl(l:List Three)(x:Three):List Three:=upR (l++[x]) l.length
def Z0m(l:List Three):List Three×Three:=(((Z1q (Z1u l 0 ((l.length:Int)-1)) 0 ((l.length:Int)-1)).1).take (l.length-1),((Z1q (Z1u l 0 ((l.length:Int)-1)) 0 ((l.length:Int)-1)).1).getD (l.length-1) Z1V)
def JX(p q:Two):Bool:=!((decide (p.i<q.i)&&decide (p.j<q.j))||(decide (q.i<p.i)&&decide (q.j<p.j)))
def Z68(p:Two):List Two->Int|[]=>-1|q::r=>if JX p q=true then 0 else if Z68 p r=-1 then-1 else Z68 p r+1
end
noncomputable section
def ZwD(a:Int×Unit):V U:=.c (.bool false)
def Z9y:Fs U:=fs ZAf (λa=>[Zxh a]) ZwD
def Ztk:ArgL (Int×Int×Unit):=(.cons (ZR .i64) (.cons (ZR .i64) .nil))
def ZfX(a:Int×Int×Unit):Prop:=True
def ZwH(a:Int×Int×Unit):V U:=.c (ci (Z9h a.1 a.2.1))
def Z9E:Fs U:=fs Ztk (λa=>[ZfX a]) ZwH
def Ztc:ArgL (List Int×Unit):=(.cons (aSl .int) .nil)
def ZoZ(a:List Int×Unit):Prop:=(a.1).length<=1000000
def Zwv(a:List Int×Unit):V U:=.c (ci (orL a.1))
def Z9t:Fs U:=fs Ztc (λa=>[ZoZ a]) Zwv
def Ztd:ArgL (Three×Three×Unit):=(.cons (aEl .three) (.cons (aEl .three) .nil))
def Zp0(a:Three×Three×Unit):Prop:=True
def Zww(a:Three×Three×Unit):V U:=.c (.bool (ZqZ a.1 a.2.1))
def Z9u:Fs U:=fs Ztd (λa=>[Zp0 a]) Zww
def Zte:ArgL (List Three×Int×Int×Unit):=(.cons (aSl .three) (.cons (ZR .i64) (.cons (ZR .i64) .nil)))
def Zck(a:List Three×Int×Int×Unit):Prop:=(0<=a.2.1/\a.2.1<(a.1).length)/\0<=a.2.2.1/\a.2.2.1<(a.1).length
def ZwA(a:List Three×Int×Int×Unit):V U:=.c (.bool (Z8r a.1 a.2.1 a.2.2.1))
def Z3A:Fs U:=fs Zte (λa=>[Zck a]) ZwA
def Ztn:ArgL (List Three×Unit):=(.cons (aSl .three) .nil)
def Zcl(a:List Three×Unit):Prop:=True
def ZwL(a:List Three×Unit):V U:=.c (ci ((a.1).length:Int))
def Z1x:Fs U:=fs Ztn (λa=>[Zcl a]) ZwL
def ZeA:ArgM (List Three×Int×Int×Unit):=(.rcv (cWr .three 0 0) (.cons (ZR .i64) (.cons (ZR .i64) .nil)))
def Zwx(a:List Three×Int×Int×Unit):V U:=.tup []
def Zrr(a:List Three×Int×Int×Unit):List (List (C U)):=[[.mref (.x 0 0)]]
def Zrz(a:List Three×Int×Int×Unit):List (Tok×LC U):=[(.x 0 0,LC.mk (U:=U) .three (Z1u a.1 a.2.1 a.2.2.1) 0)]
def Z1w:Fs U:=Z9c ZeA (λa=>[Zck a]) Zwx Zrr Zrz
def ZeB:ArgM ((List Three×Unit)×Three×Unit):=(.obj 0 (.cons (cWr .three 0 0) .nil) (.cons (ZM1 181) .nil))
def Zp1(a:(List Three×Unit)×Three×Unit):Prop:=(a.1.1).length<=1000000000
def Zwy(a:(List Three×Unit)×Three×Unit):V U:=.tup []
def Zrs(a:(List Three×Unit)×Three×Unit):List (List (C U)):=[[.mref (.x 0 0)]]
def ZrA(a:(List Three×Unit)×Three×Unit):List (Tok×LC U):=[(.x 0 0,LC.mk (U:=U) .three ((a.1.1)++[a.2.1]) 0)]
def Z9v:Fs U:=Z9c ZeB (λa=>[Zp1 a]) Zwy Zrs ZrA
def ZeC:ArgM ((List Three×Unit)×Unit):=(.obj 0 (.cons (cWr .three 0 0) .nil) .nil)
def Zp2(a:(List Three×Unit)×Unit):Prop:=0<(a.1.1).length/\(a.1.1).length<=1000000000
def Zwz(a:(List Three×Unit)×Unit):V U:=.kv (.iface 181 (.agg (List.toArray [.int .i64 (Two.i (Three.p ((a.1.1).getD ((a.1.1).length-1) Z1V))),.int .i64 (Two.j (Three.p ((a.1.1).getD ((a.1.1).length-1) Z1V))),.int .i64 (Three.score ((a.1.1).getD ((a.1.1).length-1) Z1V))])))
def Zrt(a:(List Three×Unit)×Unit):List (List (C U)):=[[.mref (.x 0 0)]]
def ZrB(a:(List Three×Unit)×Unit):List (Tok×LC U):=[(.x 0 0,LC.mk (U:=U) .three ((a.1.1).take ((a.1.1).length-1)) 0)]
def Z9w:Fs U:=Z9c ZeC (λa=>[Zp2 a]) Zwz Zrt ZrB
def ZeE:ArgM ((List Three×Unit)×Int×Unit):=(.ifp 176 0 (.cons (cWr .three 0 0) .nil) (.cons (ZR .i64) .nil))
def Zp7(a:(List Three×Unit)×Int×Unit):Prop:=(0<=a.2.1/\a.2.1<(a.1.1).length)/\(a.1.1).length<=1000000000
def ZwG(a:(List Three×Unit)×Int×Unit):V U:=.tup []
def Zru(a:(List Three×Unit)×Int×Unit):List (List (C U)):=[[.mref (.x 0 0)]]
def Zk2(a:(List Three×Unit)×Int×Unit):List (Tok×LC U):=[(.x 0 0,LC.mk (U:=U) .three (upR a.1.1 a.2.1) 0)]
def Z9D:Fs U:=Z9c ZeE (λa=>[Zp7 a]) ZwG Zru Zk2
def ZeD:ArgM ((List Three×Unit)×Int×Int×Unit):=(.ifp 176 0 (.cons (cWr .three 0 0) .nil) (.cons (ZR .i64) (.cons (ZR .i64) .nil)))
def Zp6(a:(List Three×Unit)×Int×Int×Unit):Prop:=(0<=a.2.1/\a.2.1<=a.2.2.1)/\a.2.2.1<=(a.1.1).length/\(a.1.1).length<=1000000000
def Zk6(a:(List Three×Unit)×Int×Int×Unit):V U:=.c (.bool (decide (a.2.1<(Z1q a.1.1 a.2.1 a.2.2.1).2)))
def Zk0(a:(List Three×Unit)×Int×Int×Unit):List (List (C U)):=[[.mref (.x 0 0)]]
def Zeo(a:(List Three×Unit)×Int×Int×Unit):List (Tok×LC U):=[(.x 0 0,LC.mk (U:=U) .three ((Z1q a.1.1 a.2.1 a.2.2.1).1) 0)]
def Z9C:Fs U:=Z9c ZeD (λa=>[Zp6 a]) Zk6 Zk0 Zeo
def ZeG:ArgM ((List Three×Unit)×Three×Unit):=(.ifp 176 0 (.cons (cWr .three 0 0) .nil) (.cons (ZM1 181) .nil))
def Zp9(a:(List Three×Unit)×Three×Unit):Prop:=(a.1.1).length<1000000000
def ZrC(a:(List Three×Unit)×Three×Unit):List (Tok×LC U):=[(.x 0 0,LC.mk (U:=U) .three (Zdl a.1.1 a.2.1) 0)]
def Z9J:Fs U:=Z9c ZeG (λa=>[Zp9 a]) Zwy Zrs ZrC
def ZeF:ArgM ((List Three×Unit)×Unit):=(.ifp 176 0 (.cons (cWr .three 0 0) .nil) .nil)
def ZwK(a:(List Three×Unit)×Unit):V U:=.kv (.iface 181 (.agg (List.toArray [.int .i64 (Two.i (Three.p ((Z0m a.1.1).2))),.int .i64 (Two.j (Three.p ((Z0m a.1.1).2))),.int .i64 (Three.score ((Z0m a.1.1).2))])))
def Zk3(a:(List Three×Unit)×Unit):List (Tok×LC U):=[(.x 0 0,LC.mk (U:=U) .three ((Z0m a.1.1).1) 0)]
def Z9I:Fs U:=Z9c ZeF (λa=>[Zp2 a]) ZwK Zrt Zk3
def Ztl:ArgL (Two×Two×Unit):=(.cons (aEl .two) (.cons (aEl .two) .nil))
def Zp8(a:Two×Two×Unit):Prop:=True
def ZwI(a:Two×Two×Unit):V U:=.c (.bool (JX a.1 a.2.1))
def Z9G:Fs U:=fs Ztl (λa=>[Zp8 a]) ZwI
def Ztj:ArgL (List Two×Two×Unit):=(.cons (aSl .two) (.cons (ZM2 118) .nil))
def Zp5(a:List Two×Two×Unit):Prop:=(a.1).length<=1000000000
def ZwF(a:List Two×Two×Unit):V U:=.c (ci (Z68 a.2.1 a.1))
def Z9B:Fs U:=fs Ztj (λa=>[Zp5 a]) ZwF
def ZwJ(a:List Two×Two×Unit):V U:=.c (.bool ((a.1).any (JX a.2.1)))
def Z9H:Fs U:=fs Ztj (λa=>[Zp5 a]) ZwJ
abbrev ZOh(p:List Nat):=AW (Z2 Zqj) Tryz.f127 ZI9 p
theorem ZL3(x:Int)(Q:QT)(h:(Q .ret (L2 [pB 2 (x !=x)] []))):ZOh [] (L2 [pI 0 x] []) Q:=(Eq.mpr V3 h:)
abbrev ZEn(x:Int):Prop:=AW (Z2 Zqj) Tryz.f127 ZI9 [] (Zg (ZAf.can (x,())) []) (EQ Tryz.f127 (ZwD (x,())) [])
theorem ZCQ(hb:∀(x:Int)(_:Unit),Zxh (x,())->ZEn x):CT 127 Z9y:=Z1 (l:=[]) Zf rfl trivial ZI9 Tryz.func127 rfl rfl 1 (λ_=>rfl) V0 (λ⟨x,_⟩=>hb x ())
def ZsH:List (FuncId×Fs U):=[(127,Z9y)]
def Zy7:Za U:=lvl [([0,1],[]),([0,1,5],[]),([0,1,5,6],[]),([0,1,6,11],[]),([12],[]),([4],[]),([4],[]),([0,1,13],[]),([4],[]),([0,1,16],[]),([4],[]),([19],[]),([4],[]),([4],[])]
abbrev ZOi(p:List Nat):=AW (Z2 ZsH) Tryz.f121 Zy7 p
theorem ZL8(x y:Int)(Q:QT)(h:let z0:=(Q .ret (L2 [pI 4 (-1)] []));((Zxh (x,()))/\((Zxh (y,()))/\(iB false ((iB false ((Q .ret (L2 [pI 4 0] []))) z0)) ((iB false ((Q .ret (L2 [pI 4 1] []))) ((iB (decide (x<y)) z0 ((iB (decide (y<x)) ((Q .ret (L2 [pI 4 1] []))) ((Q .ret (L2 [pI 4 0] []))))))))))))):ZOi [] (L2 [pI 0 x,pI 1 y] []) Q:=(Eq.mpr V3 h:)
abbrev ZEs(x y:Int):Prop:=AW (Z2 ZsH) Tryz.f121 Zy7 [] (Zg (Ztk.can (x,y,())) []) (EQ Tryz.f121 (ZwH (x,y,())) [])
theorem ZCV(ZIJ:CT 127 Z9y)(hb:∀(x:Int)(y:Int)(_:Unit),ZfX (x,y,())->ZEs x y):CT 121 Z9E:=Z1 (l:=[(127,Z9y)]) Zf rfl (⟨ZIJ,trivial⟩) Zy7 Tryz.func121 rfl rfl 2 (λ_=>rfl) V0 (λ⟨x,y,_⟩=>hb x y ())
def Zsh:Za U:=lvl [([0],[]),([0,3],[]),([3,6,7,8],[]),([3,6,7,8,9],[]),([3,5,6,7,8],[]),([3,5,6,7,8,14],[]),([2],[]),([3,6,7,8],[]),([2],[])]
def Z7O(l:List Int)(d:Int):LSt U:=(L2 [pI 3 0,(6,.c (sU .int l .unk)),pI 7 (l.length:Int),pI 8 d] [])
abbrev ZKL(p:List Nat):=AW (Z2 Zqj) Tryz.f165 Zsh p
abbrev ZM5(p:List Nat):=SW (Z2 Zqj) Tryz.f165 Zsh p
theorem ZKW(l:List Int)(Q:QT)(h:(Zk (ZKL [1,1,0,1,0,0]) (Z7O l 0) (xB 0 (ZM5 [1,1,1] Q)))):ZKL [] (L2 [(0,.c (sU .int l .unk))] []) Q:=(Eq.mpr V3 h:)
theorem Zvv(l:List Int)(d:Int)(N0:NT)(Q:QT)(h:(iB (decide (d<(l.length:Int))) (((0:Int)<=d/\d<(l.length:Int))/\(iB (((l.getD d.toNat (0:Int)):Int)!=0) ((Q .ret (L2 [pI 2 (l.getD d.toNat (0:Int))] []))) ((InR (d+1))/\(N0 (Z7O l (d+1)))))) ((Q .ret (L2 [pI 2 0] []))))):ZKL [1,1,0,1,0,0] (Z7O l d) (xT N0 (xB 0 (ZM5 [1,1,1] Q))):=(Eq.mpr V3 h:)
abbrev ZEg(l:List Int):Prop:=AW (Z2 Zqj) Tryz.f165 Zsh [] (Zg (Ztc.can (l,())) []) (EQ Tryz.f165 (Zwv (l,())) [])
theorem ZCJ(hb:∀(l:List Int)(_:Unit),ZoZ (l,())->ZEg l):CT 165 Z9t:=Z1 (l:=[]) Zf rfl trivial Zsh Tryz.func165 rfl rfl 1 (λ_=>rfl) V0 (λ⟨l,_⟩=>hb l ())
def Zsy:List (FuncId×Fs U):=[(121,Z9E),(165,Z9t)]
def ZxY:Za U:=lvl [([2,3],[2,3]),([4],[])]
abbrev ZOc(p:List Nat):=AW (Z2 Zsy) Tryz.f164 ZxY p
theorem ZKX(x y:Three)(Q:QT)(h:let z3:=Two.j (Three.p y);let z2:=Two.j (Three.p x);let z1:=Two.i (Three.p y);let z0:=Two.i (Three.p x);((ZfX ((Three.score y),(Three.score x),()))/\(ZfX (z0,z1,()))/\(ZfX (z2,z3,()))/\(ZoZ (([Z9h (Three.score y) (Three.score x),Z9h z0 z1,Z9h z2 z3]),()))/\(Q .ret (L2 [(4,.c (.bool (decide (((orL ([Z9h (Three.score y) (Three.score x),Z9h z0 z1,Z9h z2 z3])):Int)<0))))] [])))):ZOc [] (L2 [(0,.agg (enc .three x)),(1,.agg (enc .three y))] []) Q:=(Eq.mpr V3 h:)
abbrev ZEh(x y:Three):Prop:=AW (Z2 Zsy) Tryz.f164 ZxY [] (Zg (Ztd.can (x,y,())) []) (EQ Tryz.f164 (Zww (x,y,())) [])
theorem ZCK(ZIP:CT 121 Z9E)(ZID:CT 165 Z9t)(hb:∀(x:Three)(y:Three)(_:Unit),Zp0 (x,y,())->ZEh x y):CT 164 Z9u:=Z1 (l:=[(121,Z9E),(165,Z9t)]) Zf rfl (⟨ZIP,ZID,trivial⟩) ZxY Tryz.func164 rfl rfl 2 (λ_=>rfl) V0 (λ⟨x,y,_⟩=>hb x y ())
def ZsC:List (FuncId×Fs U):=[(164,Z9u)]
abbrev ZOg(p:List Nat):=AW (Z2 ZsC) Tryz.f160 ZHR p
theorem ZL1(l:List Three)(i j:Int)(Q:QT)(h:let z0:=Three.mk (Two.mk 0 0) 0;let z4:=l.getD i.toNat z0;let z3:=l.getD j.toNat z0;let z2:=Three.mk (Two.mk (Two.i (Three.p z3)) (Two.j (Three.p z3))) (Three.score z3);let z1:=Three.mk (Two.mk (Two.i (Three.p z4)) (Two.j (Three.p z4))) (Three.score z4);(((0:Int)<=i/\i<(l.length:Int))/\((0:Int)<=j/\j<(l.length:Int))/\(Zp0 (z1,z2,()))/\(Q .ret (L2 [(6,.c (.bool (ZqZ z1 z2)))] [])))):ZOg [] (L2 [(0,.c (sU .three l .unk)),pI 1 i,pI 2 j] []) Q:=(Eq.mpr V3 h:)
abbrev ZEl(l:List Three)(i j:Int):Prop:=AW (Z2 ZsC) Tryz.f160 ZHR [] (Zg (Zte.can (l,i,j,())) []) (EQ Tryz.f160 (ZwA (l,i,j,())) [])
theorem ZCO(ZIE:CT 164 Z9u)(hb:∀(l:List Three)(i:Int)(j:Int)(_:Unit),Zck (l,i,j,())->ZEl l i j):CT 160 Z3A:=Z1 (l:=[(164,Z9u)]) Zf rfl (⟨ZIE,trivial⟩) ZHR Tryz.func160 rfl rfl 3 (λ_=>rfl) V0 (λ⟨l,i,j,_⟩=>hb l i j ())
abbrev ZOm(p:List Nat):=AW (Z2 Zqj) Tryz.f115 ZI9 p
theorem ZLc(l:List Three)(Q:QT)(h:(Q .ret (L2 [pI 2 (l.length:Int)] []))):ZOm [] (L2 [(0,.c (sU .three l .unk))] []) Q:=(Eq.mpr V3 h:)
abbrev ZEw(l:List Three):Prop:=AW (Z2 Zqj) Tryz.f115 ZI9 [] (Zg (Ztn.can (l,())) []) (EQ Tryz.f115 (ZwL (l,())) [])
theorem ZCZ(hb:∀(l:List Three)(_:Unit),Zcl (l,())->ZEw l):CT 115 Z1x:=Z1 (l:=[]) Zf rfl trivial ZI9 Tryz.func115 rfl rfl 1 (λ_=>rfl) V0 (λ⟨l,_⟩=>hb l ())
def ZxZ:Za U:=lvk [([],[((.x 0),[.wr .three])])]
abbrev ZOd(p:List Nat):=AW (Z2 Zqj) Tryz.f163 ZxZ p
theorem ZKY(l:List Three)(i j:Int)(Q:QT)(h:let z1:=Three.mk (Two.mk 0 0) 0;let z3:=l.getD i.toNat z1;let z2:=l.getD j.toNat z1;let z0:=List.set l i.toNat (Three.mk (Two.mk (Two.i (Three.p z2)) (Two.j (Three.p z2))) (Three.score z2));((0:Int)<=j/\j<(l.length:Int))/\((0:Int)<=i/\i<(l.length:Int))/\((0:Int)<=i/\i<(l.length:Int))/\((0:Nat)<=i.toNat)/\((0:Int)<=j/\j<(z0.length:Int))/\((0:Nat)<=j.toNat)/\(Q .normal (⟨[],[(.x 0,[.mref (.x 0 0)])],[(.x 0 0,LC.mk (U:=U) .three (List.set z0 j.toNat (Three.mk (Two.mk (Two.i (Three.p z3)) (Two.j (Three.p z3))) (Three.score z3))) 0)]⟩:LSt U))):ZOd [] (⟨[(0,.c (.mref (.x 0 0))),pI 1 i,pI 2 j],[(.x 0,[.mref (.x 0 0)])],[(.x 0 0,LC.mk (U:=U) .three l 0)]⟩:LSt U) Q:=(Eq.mpr V3 h:)
abbrev ZEi(l:List Three)(i j:Int):Prop:=AW (Z2 Zqj) Tryz.f163 ZxZ [] (Ji (ZeA.can (l,i,j,())) (ZeA.canX (l,i,j,())) (ZeA.canL (l,i,j,()))) (Z00 cfg Tryz.f163.ntmps Tryz.f163.results.toList (Zwx (l,i,j,())) (Zrr (l,i,j,())) (Zrz (l,i,j,())))
theorem ZCL(hb:∀(l:List Three)(i:Int)(j:Int)(_:Unit),Zck (l,i,j,())->ZEi l i j):CT 163 Z1w:=ZL (l:=[]) Zf rfl trivial ZxZ Tryz.func163 rfl rfl 3 (λ_=>rfl) V0 (λ⟨l,i,j,_⟩=>hb l i j ())
abbrev ZOe(p:List Nat):=AW (Z2 Zqj) Tryz.f162 ZxZ p
theorem ZKZ(l:List Three)(x:Three)(Q:QT)(h:let z0:=Three.mk (Two.mk (Two.i (Three.p x)) (Two.j (Three.p x))) (Three.score x);((l.length+([z0]).length)*24<=140737488355328)/\(Q .normal (⟨[],[(.x 0,[.mref (.x 0 0)])],[(.x 0 0,LC.mk (U:=U) .three (l++([z0])) 0)]⟩:LSt U))):ZOe [] (⟨[(0,.ptr (.x 0) 0),(1,.kv (.iface 181 (.agg (List.toArray [.int .i64 (Two.i (Three.p x)),.int .i64 (Two.j (Three.p x)),.int .i64 (Three.score x)]))))],[(.x 0,[.mref (.x 0 0)])],[(.x 0 0,LC.mk (U:=U) .three l 0)]⟩:LSt U) Q:=(Eq.mpr V3 h:)
abbrev ZEj(l:List Three)(x:Three):Prop:=AW (Z2 Zqj) Tryz.f162 ZxZ [] (Ji (ZeB.can ((l,()),x,())) (ZeB.canX ((l,()),x,())) (ZeB.canL ((l,()),x,()))) (Z00 cfg Tryz.f162.ntmps Tryz.f162.results.toList (Zwy ((l,()),x,())) (Zrs ((l,()),x,())) (ZrA ((l,()),x,())))
theorem ZCM(hb:∀(l:List Three)(x:Three)(_:Unit),Zp1 ((l,()),x,())->ZEj l x):CT 162 Z9v:=ZL (l:=[]) Zf rfl trivial ZxZ Tryz.func162 rfl rfl 2 (λ_=>rfl) V0 (λ⟨⟨l,_⟩,x,_⟩=>hb l x ())
def Zy1:Za U:=lvk [([0],[((.x 0),[.wr .three])]),([0,(3,[.wr .three])],[((.x 0),[.wr .three])]),([0,(3,[.wr .three]),4],[4,((.x 0),[.wr .three])]),([4],[4,((.x 0),[.wr .three])]),([2],[((.x 0),[.wr .three])])]
abbrev ZOf(p:List Nat):=AW (Z2 Zqj) Tryz.f161 Zy1 p
theorem ZL0(l:List Three)(Q:QT)(h:let z1:=InR (((l.length:Int):Int)-1);let z0:=List.getD l (Int.toNat (((l.length:Int):Int)-1)) (Three.mk (Two.mk 0 0) 0);(z1/\((0:Int)<=(((l.length:Int):Int)-1)/\(((l.length:Int):Int)-1)<(l.length:Int))/\(z1/\((0:Int)<=(((l.length:Int):Int)-1)/\(((l.length:Int):Int)-1)<=(l.length:Int))/\((((0:Nat):Int):Int)<=(((l.length:Int):Int)-1))/\(Q .ret (⟨[(2,.kv (.iface 181 (.agg (List.toArray [.int .i64 (Two.i (Three.p z0)),.int .i64 (Two.j (Three.p z0)),.int .i64 (Three.score z0)]))))],[(.x 0,[.mref (.x 0 0)])],[(.x 0 0,LC.mk (U:=U) .three (List.take (Int.toNat (((l.length:Int):Int)-1)) l) 0)]⟩:LSt U))))):ZOf [] (⟨[(0,.ptr (.x 0) 0)],[(.x 0,[.mref (.x 0 0)])],[(.x 0 0,LC.mk (U:=U) .three l 0)]⟩:LSt U) Q:=(Eq.mpr V3 h:)
abbrev ZEk(l:List Three):Prop:=AW (Z2 Zqj) Tryz.f161 Zy1 [] (Ji (ZeC.can ((l,()),())) (ZeC.canX ((l,()),())) (ZeC.canL ((l,()),()))) (Z00 cfg Tryz.f161.ntmps Tryz.f161.results.toList (Zwz ((l,()),())) (Zrt ((l,()),())) (ZrB ((l,()),())))
theorem ZCN(hb:∀(l:List Three)(_:Unit),Zp2 ((l,()),())->ZEk l):CT 161 Z9w:=ZL (l:=[]) Zf rfl trivial Zy1 Tryz.func161 rfl rfl 1 (λ_=>rfl) V0 (λ⟨⟨l,_⟩,_⟩=>hb l ())
def ZsG:List (FuncId×Fs U):=[(160,Z3A.lend),(163,Z1w)]
def Zy6:Za U:=lvk [([0,1,4],[((.x 0),[.wr .three])]),([0,1,4,17],[((.x 0),[.wr .three])]),([0,4],[((.x 0),[.wr .three])]),([0,1],[((.x 0),[.wr .three])])]
def Z7Q(l:List Three)(j d:Int)(rx_0_0:List Three):LSt U:=(⟨[(0,.ifp 176 (.x 0)),pI 1 d],[(.x 0,[.mref (.x 0 0)])],[(.x 0 0,LC.mk (U:=U) .three rx_0_0 0)]⟩:LSt U)
abbrev ZKO(p:List Nat):=AW (Z2 ZsG) Tryz.f122 Zy6 p
theorem ZL7(l:List Three)(j:Int)(Q:QT)(h:Zk (ZKO [0,0]) (Z7Q l j j l) (xB 0 Q)):ZKO [] (⟨[(0,.ifp 176 (.x 0)),pI 1 j],[(.x 0,[.mref (.x 0 0)])],[(.x 0 0,LC.mk (U:=U) .three l 0)]⟩:LSt U) Q:=(Eq.mpr V3 h:)
theorem ZvA(l:List Three)(j d:Int)(rx_0_0:List Three)(N0:NT)(Q:QT)(h:let z0:=IntKind.wrap .i64 (Int.tdiv (d-1) 2);let z1:=(z0:Int)==d;let z2:=bif z1 then true else(!(Z8r rx_0_0 d z0));(InR (d-1))/\((2:Int)≠0)/\((Tt (!z1))/\(Tt (!z1))/\(Tt (!z1))/\((!z1)=true->Zck (rx_0_0,d,z0,()))/\(Tt (!z1))/\(z1=false->(!z1)=true)/\(iB z2 (Q .normal (⟨[(0,.ifp 176 (.x 0)),pI 1 d,pI 4 z0,(17,.c (.bool z2))],[(.x 0,[.mref (.x 0 0)])],[(.x 0 0,LC.mk (U:=U) .three rx_0_0 0)]⟩:LSt U)) ((Zck (rx_0_0,z0,d,()))/\(N0 (Z7Q l j z0 (Z1u rx_0_0 z0 d))))))):ZKO [0,0] (Z7Q l j d rx_0_0) (xT N0 (xB 0 Q)):=(Eq.mpr V3 h:)
abbrev ZEr(l:List Three)(j:Int):Prop:=AW (Z2 ZsG) Tryz.f122 Zy6 [] (Ji (ZeE.can ((l,()),j,())) (ZeE.canX ((l,()),j,())) (ZeE.canL ((l,()),j,()))) (Z00 cfg Tryz.f122.ntmps Tryz.f122.results.toList (ZwG ((l,()),j,())) (Zru ((l,()),j,())) (Zk2 ((l,()),j,())))
theorem ZCU(Zv3:CT 160 Z3A)(Zl5:CT 163 Z1w)(hb:∀(l:List Three)(j:Int)(_:Unit),Zp7 ((l,()),j,())->ZEr l j):CT 122 Z9D:=ZL (l:=[(160,Z3A.lend),(163,Z1w)]) Zf rfl (⟨Zv3.lend,Zl5,trivial⟩) Zy6 Tryz.func122 rfl rfl 2 (λ_=>rfl) V0 (λ⟨⟨l,_⟩,j,_⟩=>hb l j ())
def Zsj:Za U:=lvk [([0,1,2],[((.x 0),[.wr .three])]),([0,1,2,7],[((.x 0),[.wr .three])]),([0,1,2,7,8],[((.x 0),[.wr .three])]),([0,1,2,7,8,21],[((.x 0),[.wr .three])]),([0,1,2,7,8,9],[((.x 0),[.wr .three])]),([0,1,2,7,8,9,10],[((.x 0),[.wr .three])]),([0,1,2,7,9,10,33],[((.x 0),[.wr .three])]),([0,1,2,7,9],[((.x 0),[.wr .three])]),([0,1,2,7,9,39],[((.x 0),[.wr .three])]),([0,1,2,9],[((.x 0),[.wr .three])]),([0,1,2,7],[((.x 0),[.wr .three])]),([6],[((.x 0),[.wr .three])])]
def Z4S(l:List Three)(i0 n d:Int)(rx_0_0:List Three):LSt U:=(⟨[(0,.ifp 176 (.x 0)),pI 1 i0,pI 2 n,pI 7 d],[(.x 0,[.mref (.x 0 0)])],[(.x 0 0,LC.mk (U:=U) .three rx_0_0 0)]⟩:LSt U)
abbrev ZKN(p:List Nat):=AW (Z2 ZsG) Tryz.f123 Zsj p
abbrev ZM7(p:List Nat):=SW (Z2 ZsG) Tryz.f123 Zsj p
theorem ZL6(l:List Three)(i0 n:Int)(Q:QT)(h:(Zk (ZKN [1,1,0,0,0]) (Z4S l i0 n i0 l) (xB 0 (ZM7 [1,1,1] Q)))):ZKN [] (⟨[(0,.ifp 176 (.x 0)),pI 1 i0,pI 2 n],[(.x 0,[.mref (.x 0 0)])],[(.x 0 0,LC.mk (U:=U) .three l 0)]⟩:LSt U) Q:=(Eq.mpr V3 h:)
theorem Zvz(l:List Three)(i0 n d:Int)(rx_0_0:List Three)(N0:NT)(Q:QT)(h:let z2:=decide (n<=((((2:Int)*d):Int)+1));let z1:=(Q .ret (⟨[pB 6 (decide (i0<d))],[(.x 0,[.mref (.x 0 0)])],[(.x 0 0,LC.mk (U:=U) .three rx_0_0 0)]⟩:LSt U));let z0:=decide ((((((((2:Int)*d):Int)+1):Int)+1):Int)<n);(InR ((2:Int)*d))/\(InR ((((2:Int)*d):Int)+1))/\((Tt (!z2))/\(z2=false->(!z2)=true)/\(iB (bif z2 then true else(decide ((((((2:Int)*d):Int)+1):Int)<0))) z1 (((InR ((((((2:Int)*d):Int)+1):Int)+1))/\((Tt z0)/\(Tt z0)/\(Tt z0)/\(z0=true->Zck (rx_0_0,((((((2:Int)*d):Int)+1):Int)+1),((((2:Int)*d):Int)+1),()))/\(Tt z0)/\(iB (bif z0 then(Z8r rx_0_0 ((((((2:Int)*d):Int)+1):Int)+1) ((((2:Int)*d):Int)+1))else false) (((Zck (rx_0_0,((((((2:Int)*d):Int)+1):Int)+1),d,()))/\(iB (!(Z8r rx_0_0 ((((((2:Int)*d):Int)+1):Int)+1) d)) z1 ((Zck (rx_0_0,d,((((((2:Int)*d):Int)+1):Int)+1),()))/\(N0 (Z4S l i0 n ((((((2:Int)*d):Int)+1):Int)+1) (Z1u rx_0_0 d ((((((2:Int)*d):Int)+1):Int)+1)))))))) ((Zck (rx_0_0,((((2:Int)*d):Int)+1),d,()))/\(iB (!(Z8r rx_0_0 ((((2:Int)*d):Int)+1) d)) z1 ((Zck (rx_0_0,d,((((2:Int)*d):Int)+1),()))/\(N0 (Z4S l i0 n ((((2:Int)*d):Int)+1) (Z1u rx_0_0 d ((((2:Int)*d):Int)+1)))))))))))))):ZKN [1,1,0,0,0] (Z4S l i0 n d rx_0_0) (xT N0 (xB 0 (ZM7 [1,1,1] Q))):=(Eq.mpr V3 h:)
abbrev ZEq(l:List Three)(i0 n:Int):Prop:=AW (Z2 ZsG) Tryz.f123 Zsj [] (Ji (ZeD.can ((l,()),i0,n,())) (ZeD.canX ((l,()),i0,n,())) (ZeD.canL ((l,()),i0,n,()))) (Z00 cfg Tryz.f123.ntmps Tryz.f123.results.toList (Zk6 ((l,()),i0,n,())) (Zk0 ((l,()),i0,n,())) (Zeo ((l,()),i0,n,())))
theorem ZCT(Zv3:CT 160 Z3A)(Zl5:CT 163 Z1w)(hb:∀(l:List Three)(i0:Int)(n:Int)(_:Unit),Zp6 ((l,()),i0,n,())->ZEq l i0 n):CT 123 Z9C:=ZL (l:=[(160,Z3A.lend),(163,Z1w)]) Zf rfl (⟨Zv3.lend,Zl5,trivial⟩) Zsj Tryz.func123 rfl rfl 3 (λ_=>rfl) V0 (λ⟨⟨l,_⟩,i0,n,_⟩=>hb l i0 n ())
def ZsM:List (FuncId×Fs U):=[(162,Z9v),(115,Z1x.lend),(122,Z9D)]
def Zyc:Za U:=lvk [([0],[((.x 0),[.wr .three])]),([],[((.x 0),[.wr .three])])]
abbrev ZOn(p:List Nat):=AW (Z2 ZsM) Tryz.f114 Zyc p
theorem ZLd(l:List Three)(x:Three)(Q:QT)(h:let z0:=Three.mk (Two.mk (Two.i (Three.p x)) (Two.j (Three.p x))) (Three.score x);(Zp1 ((l,()),z0,()))/\((Zcl ((l++[z0]),()))/\(InR ((((l++[z0]).length:Int):Int)-1))/\(Zp7 (((l++[z0]),()),((((l++[z0]).length:Int):Int)-1),()))/\(Q .normal (⟨[],[(.x 0,[.mref (.x 0 0)])],[(.x 0 0,LC.mk (U:=U) .three (upR (l++[z0]) ((((l++[z0]).length:Int):Int)-1)) 0)]⟩:LSt U)))):ZOn [] (⟨[(0,.ifp 176 (.x 0)),(1,.kv (.iface 181 (.agg (List.toArray [.int .i64 (Two.i (Three.p x)),.int .i64 (Two.j (Three.p x)),.int .i64 (Three.score x)]))))],[(.x 0,[.mref (.x 0 0)])],[(.x 0 0,LC.mk (U:=U) .three l 0)]⟩:LSt U) Q:=(Eq.mpr V3 h:)
abbrev ZEx(l:List Three)(x:Three):Prop:=AW (Z2 ZsM) Tryz.f114 Zyc [] (Ji (ZeG.can ((l,()),x,())) (ZeG.canX ((l,()),x,())) (ZeG.canL ((l,()),x,()))) (Z00 cfg Tryz.f114.ntmps Tryz.f114.results.toList (Zwy ((l,()),x,())) (Zrs ((l,()),x,())) (ZrC ((l,()),x,())))
theorem ZD0(ZIF:CT 162 Z9v)(Zl6:CT 115 Z1x)(ZIO:CT 122 Z9D)(hb:∀(l:List Three)(x:Three)(_:Unit),Zp9 ((l,()),x,())->ZEx l x):CT 114 Z9J:=ZL (l:=[(162,Z9v),(115,Z1x.lend),(122,Z9D)]) Zf rfl (⟨ZIF,Zl6.lend,ZIO,trivial⟩) Zyc Tryz.func114 rfl rfl 2 (λ_=>rfl) V0 (λ⟨⟨l,_⟩,x,_⟩=>hb l x ())
def ZsK:List (FuncId×Fs U):=[(115,Z1x.lend),(163,Z1w),(123,Z9C),(161,Z9w)]
def Zya:Za U:=lvk [([0],[((.x 0),[.wr .three])]),([0,3],[((.x 0),[.wr .three])]),([0,3],[((.x 0),[.wr .three])]),([0],[((.x 0),[.wr .three])]),([2],[((.x 0),[.wr .three])])]
abbrev ZOl(p:List Nat):=AW (Z2 ZsK) Tryz.f116 Zya p
theorem ZLb(l:List Three)(Q:QT)(h:let z2:=Z1u l 0 (((l.length:Int):Int)-1);let z0:=Z1q z2 0 (((l.length:Int):Int)-1);let z1:=Three.p ((z0.1).getD ((z0.1).length-1) Z1V);((Zcl (l,()))/\(InR (((l.length:Int):Int)-1))/\((Zck (l,0,(((l.length:Int):Int)-1),()))/\((Zp6 ((z2,()),0,(((l.length:Int):Int)-1),()))/\((Zp2 (((z0.1),()),()))/\(Q .ret (⟨[(2,.kv (.iface 181 (.agg (List.toArray [.int .i64 (Two.i z1),.int .i64 (Two.j z1),.int .i64 (Three.score ((z0.1).getD ((z0.1).length-1) Z1V))]))))],[(.x 0,[.mref (.x 0 0)])],[(.x 0 0,LC.mk (U:=U) .three ((z0.1).take ((z0.1).length-1)) 0)]⟩:LSt U))))))):ZOl [] (⟨[(0,.ifp 176 (.x 0))],[(.x 0,[.mref (.x 0 0)])],[(.x 0 0,LC.mk (U:=U) .three l 0)]⟩:LSt U) Q:=(Eq.mpr V3 h:)
abbrev ZEv(l:List Three):Prop:=AW (Z2 ZsK) Tryz.f116 Zya [] (Ji (ZeF.can ((l,()),())) (ZeF.canX ((l,()),())) (ZeF.canL ((l,()),()))) (Z00 cfg Tryz.f116.ntmps Tryz.f116.results.toList (ZwK ((l,()),())) (Zrt ((l,()),())) (Zk3 ((l,()),())))
theorem ZCY(Zl6:CT 115 Z1x)(Zl5:CT 163 Z1w)(ZIN:CT 123 Z9C)(ZIG:CT 161 Z9w)(hb:∀(l:List Three)(_:Unit),Zp2 ((l,()),())->ZEv l):CT 116 Z9I:=ZL (l:=[(115,Z1x.lend),(163,Z1w),(123,Z9C),(161,Z9w)]) Zf rfl (⟨Zl6.lend,Zl5,ZIN,ZIG,trivial⟩) Zya Tryz.func116 rfl rfl 1 (λ_=>rfl) V0 (λ⟨⟨l,_⟩,_⟩=>hb l ())
abbrev ZOj(p:List Nat):=AW (Z2 Zqj) Tryz.f118 ZxY p
theorem ZL9(p q:Two)(Q:QT)(h:let z2:=decide (((Two.i p):Int)<(Two.i q));let z1:=decide (((Two.i q):Int)<(Two.i p));let z0:=bif z2 then(decide (((Two.j p):Int)<(Two.j q)))else false;((Tt z2)/\(Tt z2)/\(Tt z2)/\(Tt z2)/\(Tt z2)/\(Tt (!z0))/\(Tt (!z0))/\(Tt (!z0))/\(Tt (!z0))/\(Tt (!z0))/\(Tt ((!z0)&&z1))/\(Tt ((!z0)&&z1))/\(Tt ((!z0)&&z1))/\(Tt ((!z0)&&z1))/\((!z0)=true->(True->(!z0)=true))/\((!z0)=true->(z1=true->((!z0)&&z1)=true))/\(z0=false->(!z0)=true)/\(Q .ret (L2 [(4,.c (.bool (!(bif z0 then true else(bif z1 then(decide (((Two.j q):Int)<(Two.j p)))else false)))))] [])))):ZOj [] (L2 [(0,.agg (enc .two p)),(1,.agg (enc .two q))] []) Q:=(Eq.mpr V3 h:)
abbrev ZEt(p q:Two):Prop:=AW (Z2 Zqj) Tryz.f118 ZxY [] (Zg (Ztl.can (p,q,())) []) (EQ Tryz.f118 (ZwI (p,q,())) [])
theorem ZCW(hb:∀(p:Two)(q:Two)(_:Unit),Zp8 (p,q,())->ZEt p q):CT 118 Z9G:=Z1 (l:=[]) Zf rfl trivial ZxY Tryz.func118 rfl rfl 2 (λ_=>rfl) V0 (λ⟨p,q,_⟩=>hb p q ())
def ZkE:List (FuncId×Fs U):=[(118,Z9G)]
def Zsi:Za U:=lvl [([0,1],[]),([0,1,7,8],[]),([0,1,7,8,9],[]),([0,1,5,7,8],[]),([0,1,5,7,8,16],[]),([4],[]),([0,1,7,8],[]),([4],[])]
def Z7P(s:List Two)(f:Two)(d:Int):LSt U:=(L2 [(0,.c (sU .two s .unk)),(1,.kv (.func (.func 118) (List.toArray [(.agg (List.toArray [.int .i64 (Two.i f),.int .i64 (Two.j f)]))]) (List.toArray []))),pI 7 (s.length:Int),pI 8 d] [])
abbrev ZKM(p:List Nat):=AW (Z2 ZkE) Tryz.f124 Zsi p
abbrev ZM6(p:List Nat):=SW (Z2 ZkE) Tryz.f124 Zsi p
theorem ZL5(s:List Two)(f:Two)(Q:QT)(h:(Zk (ZKM [1,0,1,0,0]) (Z7P s f 0) (xB 0 (ZM6 [1,1] Q)))):ZKM [] (L2 [(0,.c (sU .two s .unk)),(1,.kv (.func (.func 118) (List.toArray [(.agg (List.toArray [.int .i64 (Two.i f),.int .i64 (Two.j f)]))]) (List.toArray [])))] []) Q:=(Eq.mpr V3 h:)
theorem Zvy(s:List Two)(f:Two)(d:Int)(N0:NT)(Q:QT)(h:let z1:=s.getD d.toNat (Two.mk 0 0);let z0:=Two.mk (Two.i z1) (Two.j z1);(iB (decide (d<(s.length:Int))) ((((0:Int)<=d/\d<(s.length:Int))/\(Zp8 ((Two.mk (Two.i f) (Two.j f)),z0,()))/\(iB (JX (Two.mk (Two.i f) (Two.j f)) z0) ((Q .ret (L2 [pI 4 d] []))) ((InR (d+1))/\(N0 (Z7P s f (d+1))))))) ((Q .ret (L2 [pI 4 (-1)] []))))):ZKM [1,0,1,0,0] (Z7P s f d) (xT N0 (xB 0 (ZM6 [1,1] Q))):=(Eq.mpr V3 h:)
abbrev ZEp(s:List Two)(f:Two):Prop:=AW (Z2 ZkE) Tryz.f124 Zsi [] (Zg (Ztj.can (s,f,())) []) (EQ Tryz.f124 (ZwF (s,f,())) [])
theorem ZCS(ZIR:CT 118 Z9G)(hb:∀(s:List Two)(f:Two)(_:Unit),Zp5 (s,f,())->ZEp s f):CT 124 Z9B:=Z1 (l:=[(118,Z9G)]) Zf rfl (⟨ZIR,trivial⟩) Zsi Tryz.func124 rfl rfl 2 (λ_=>rfl) V0 (λ⟨s,f,_⟩=>hb s f ())
def ZsJ:List (FuncId×Fs U):=[(124,Z9B)]
abbrev ZOk(p:List Nat):=AW (Z2 ZsJ) Tryz.f117 ZIc p
theorem ZLa(s:List Two)(f:Two)(Q:QT)(h:((Zp5 (s,(Two.mk (Two.i f) (Two.j f)),()))/\(Q .ret (L2 [(4,.c (.bool (decide ((0:Int)<=(Z68 (Two.mk (Two.i f) (Two.j f)) s)))))] [])))):ZOk [] (L2 [(0,.c (sU .two s .unk)),(1,.kv (.func (.func 118) (List.toArray [(.agg (List.toArray [.int .i64 (Two.i f),.int .i64 (Two.j f)]))]) (List.toArray [])))] []) Q:=(Eq.mpr V3 h:)
abbrev ZEu(s:List Two)(f:Two):Prop:=AW (Z2 ZsJ) Tryz.f117 ZIc [] (Zg (Ztj.can (s,f,())) []) (EQ Tryz.f117 (ZwJ (s,f,())) [])
theorem ZCX(ZIM:CT 124 Z9B)(hb:∀(s:List Two)(f:Two)(_:Unit),Zp5 (s,f,())->ZEu s f):CT 117 Z9H:=Z1 (l:=[(124,Z9B)]) Zf rfl (⟨ZIM,trivial⟩) ZIc Tryz.func117 rfl rfl 2 (λ_=>rfl) V0 (λ⟨s,f,_⟩=>hb s f ())
end
theorem ZIJ:Contract Tryz.prog cfg 127 Z9y:=by refine ZCQ ?_;intro x _ _;refine ZL3 _ _ ?_;rw[show(x !=x)=false by simp];exact YH
theorem ZIP:Contract Tryz.prog cfg 121 Z9E:=by refine ZCV ZIJ ?_;intro x y _ _;refine ZL8 _ _ _ ?_;(simp only[iB,vcT,vcS]);refine⟨trivial,trivial,λh=>(by cases h),λh=>(by cases h),λh=>ZJ rfl ?_,λh=>⟨λg=>ZJ rfl ?_,λg=>ZJ rfl ?_⟩⟩<;>simp only[Z9h]<;>grind
theorem ZID:Contract Tryz.prog cfg 165 Z9t:=by
 refine ZCJ ?_;intro l _ hp;have hp:l.length<=1000000:=hp;refine ZKW _ _ ?_;refine Z6 (ι:=Int) (λi=>Z7O l i) (λi=>0<=i/\i<=l.length/\orL l=orL (l.drop i.toNat)) (λi=>((l.length:Int)-i).toNat) 0 rfl ⟨Yp,Yp,by simp⟩ ?_;rintro i⟨f1,f2,d⟩;refine Zvv _ _ _ _ ?_;(simp only[iB,vcT,vcS]);refine⟨λhi=>?_,λhi=>?_⟩;.rw[Yu f1 hi (0:Int),orL]at d;refine⟨⟨f1,hi⟩,λhe=>?_,λhe=>⟨V2,i+1,rfl,⟨Yp,Yp,by grind⟩,Yp⟩⟩;rw[if_pos (by simpa using he)]at d;exact ZJ rfl d.symm
 .rw[Qb Yp]at d;exact ZJ rfl d.symm
theorem ZIE:Contract Tryz.prog cfg 164 Z9u:=by
 refine ZCK ZIP ZID ?_;intro x y _ _;refine ZKX _ _ _ ?_;refine⟨trivial,trivial,trivial,?_,?_⟩;.show List.length _<=_;simp
 ·exact YH
theorem ZIR:Contract Tryz.prog cfg 118 Z9G:=by refine ZCW ?_;intro p q _ _;refine ZL9 _ _ _ ?_;(simp only[iB,vcT,vcS]);refine⟨by grind,Zn rfl ?_⟩;simp only[JX,ZzF,Zl7];cases decide (p.i<q.i)<;>cases decide (p.j<q.j)<;>cases decide (q.i<p.i)<;>cases decide (q.j<p.j)<;>rfl
theorem Zv3:Contract Tryz.prog cfg 160 Z3A:=by refine ZCO ZIE ?_;intro l i j _ d;obtain⟨⟨h1,h2⟩,h3,h4⟩:=d;refine ZL1 _ _ _ _ ⟨⟨h1,h2⟩,⟨h3,h4⟩,trivial,?_⟩;exact YH
theorem Zl6:Contract Tryz.prog cfg 115 Z1x:=by refine ZCZ ?_;intro l _ _;refine ZLc _ _ ?_;exact YH
theorem Zl5:Contract Tryz.prog cfg 163 Z1w:=by refine ZCL ?_;intro l i j _ hp;obtain⟨⟨d,h2⟩,h3,h4⟩:=hp;refine ZKY _ _ _ _ ⟨⟨h3,h4⟩,⟨d,h2⟩,⟨d,h2⟩,QI _,⟨h3,by simpa using h4⟩,Nat.zero_le _,?_⟩;exact YH
theorem ZIF:Contract Tryz.prog cfg 162 Z9v:=by refine ZCM ?_;intro l x _ d;have d:l.length<=1000000000:=d;refine ZKZ _ _ _ ⟨by simp;omega,?_⟩;exact YH
theorem ZIG:Contract Tryz.prog cfg 161 Z9w:=by refine ZCN ?_;intro l _ d;obtain⟨h1,h2⟩:=d;dsimp only at h1 h2;have e:(((l.length:Int)-1).toNat)=l.length-1:=Yp;refine ZL0 l _ ⟨V2,Yp,V2,Yp,Yp,?_⟩;rw[e];exact YH
theorem ZgE(p:Two):∀l:List Two,-1<=Z68 p l|[]=>by simp[Z68]|q::r=>by have:=ZgE p r;simp only[Z68];grind
theorem ZIM:Contract Tryz.prog cfg 124 Z9B:=by
 refine ZCS ZIR ?_;intro s f _ hp;have hp:s.length<=1000000000:=hp;refine ZL5 _ _ _ ?_;refine Z6 (ι:=Int) (λi=>Z7P s f i) (λi=>0<=i/\i<=s.length/\Z68 f s=if Z68 f (s.drop i.toNat)=-1 then-1 else Z68 f (s.drop i.toNat)+i) (λi=>((s.length:Int)-i).toNat) 0 rfl ⟨Yp,Yp,by simp⟩ ?_;rintro i⟨f1,f2,f3⟩;refine Zvy _ _ _ _ _ ?_;(simp only[iB,vcT,vcS]);refine⟨λhi=>?_,λhi=>?_⟩
 .rw[Yu f1 hi (Two.mk 0 0),Z68]at f3;refine⟨⟨f1,hi⟩,trivial,λd=>?_,λd=>⟨V2,i+1,rfl,⟨Yp,Yp,?_⟩,Yp⟩⟩;.have d:JX f (s.getD i.toNat (Two.mk 0 0))=true:=d;rw[if_pos d,if_neg V0]at f3;have:i=Z68 f s:=Yp;exact ZJ rfl this
  .have d:JX f (s.getD i.toNat (Two.mk 0 0))=false:=d;simp only[d,X9,if_false]at f3;have e:=ZgE f (s.drop (i+1).toNat);rw[f3];by_cases hA:Z68 f (s.drop (i+1).toNat)=-1;.simp only[hA,if_true]
   .simp only[if_neg hA];rw[JH];omega
 .rw[Qb Yp,Z68]at f3;exact ZJ rfl f3.symm
theorem Znx(p:Two):∀l:List Two,decide (0<=Z68 p l)=l.any (JX p)
 |[]=>by simp[Z68]|q::r=>by
  have d:=Znx p r;have h2:=ZgE p r;simp only[Z68,List.any_cons,<-d];by_cases hc:JX p q=true;.simp[hc]
  .have hc:JX p q=false:=by simpa using hc
   simp only[hc,X9,if_false,XX];by_cases h:Z68 p r=-1;.simp[h]
   .simp only[h,if_false];congr 1;simp;omega
theorem ZIS:Contract Tryz.prog cfg 117 Z9H:=by refine ZCX ZIM ?_;intro s f _ d;have d:s.length<=1000000000:=d;refine ZLa _ _ _ ⟨d,?_⟩;exact Zn rfl (Znx f s)
theorem YR(l:List Three)(i j:Int):(Z1u l i j).length=l.length:=by simp[Z1u]
theorem Zr9:∀(n:Nat)(l:List Three)(j:Int),(upF n l j).length=l.length
 |0,l,j=>rfl|n+1,l,j=>by
  simp only[upF];split;.try rfl
  .rw[Zr9 n,YR]
theorem ZlG:∀(n m:Nat)(l:List Three)(j:Int),0<=j->j.toNat<n->j.toNat<m->upF n l j=upF m l j
 |0,_,_,_,_,h,_=>absurd h (XK _)|_+1,0,_,_,_,_,h=>absurd h (XK _)|n+1,m+1,l,j,h0,h1,h2=>by
  simp only[upF];split;.try rfl
  .rename_i hc;have d:0<j:=by
    rcases Int.lt_or_eq_of_le h0 with h|h;.exact h
    .subst h;exact absurd (.inl rfl) hc
   have e:(j-1).tdiv 2=(j-1)/2:=X8 Yp;rw[e];exact ZlG n m _ _ Yp Yp Yp
theorem ZtF{j:Int}(h0:0<=j)(h1:j<=1000000000):IntKind.wrap .i64 (Int.tdiv (j-1) 2)=Int.tdiv (j-1) 2/\0<=Int.tdiv (j-1) 2/\(0<j->Int.tdiv (j-1) 2<j)/\(j=0->Int.tdiv (j-1) 2=0):=by
 by_cases hj:j=0;.subst hj;refine⟨V0,V0,Yp,λ_=>rfl⟩
 .have e:(j-1).tdiv 2=(j-1)/2:=X8 Yp;rw[e];refine⟨?_,Yp,Yp,Yp⟩;unfold IntKind.wrap;simp[IntKind.signed,IntKind.bits];omega
theorem ZIO:Contract Tryz.prog cfg 122 Z9D:=by
 refine ZCU Zv3 Zl5 ?_;intro l j _ hp;obtain⟨⟨h1,h2⟩,h3⟩:=hp;dsimp only at h1 h2 h3;refine ZL7 _ _ _ ?_;refine Z6 (ι:=Int×List Three) (λs=>Z7Q l j s.1 s.2) (λs=>(0<=s.1/\s.1<s.2.length)/\s.2.length=l.length/\upR l j=upR s.2 s.1) (λs=>s.1.toNat) (j,l) rfl ⟨⟨h1,h2⟩,rfl,rfl⟩ ?_;rintro⟨i,r⟩⟨⟨f1,f2⟩,f3,d⟩;dsimp only at f1 f2 f3 d;obtain⟨w1,w2,w3,w4⟩:=ZtF f1 Yp;refine ZvA _ _ _ _ _ _ ?_;simp only[w1];(simp only[iB,vcT,vcS]);refine⟨V2,V0,λh=>⟨⟨f1,f2⟩,w2,V1⟩,λh=>?_,λh=>⟨⟨⟨w2,V1⟩,f1,f2⟩,((i-1).tdiv 2,Z1u r ((i-1).tdiv 2) i),rfl,⟨⟨w2,by dsimp only;rw[YR];omega⟩,by dsimp only;rw[YR];exact f3,?_⟩,?_⟩⟩
 .have e:upR r i=r:=by
   unfold upR upF;rw[if_pos h]
  rw[e]at d;simp only[Zk2,d];exact YH
 .have hi:0<i:=by
   rcases Int.lt_or_eq_of_le f1 with h0|h0;.exact h0
   .exact absurd (by rw[<-h0];rfl) h.1
  rw[d];dsimp only;unfold upR;rw[upF,if_neg (by rw[h.2];grind)];exact ZlG _ _ _ _ w2 Yp Yp
 .dsimp only;omega
theorem Z83:∀(k:Nat)(l:List Three)(i n:Int),(Z3l k l i n).1.length=l.length
 |0,l,i,n=>rfl|k+1,l,i,n=>by
  simp only[Z3l];split
  .split;.try rfl
   .rw[Z83 k,YR]
  .try rfl
theorem ZgR:∀(k m:Nat)(l:List Three)(i n:Int),0<=i->(n-i).toNat<=k->(n-i).toNat<=m->Z3l k l i n=Z3l m l i n
 |0,0,_,_,_,_,_,_=>rfl|0,m+1,l,i,n,h0,h1,_=>by simp only[Z3l];rw[JH]|k+1,0,l,i,n,h0,_,h2=>by simp only[Z3l];rw[JH]|k+1,m+1,l,i,n,h0,h1,h2=>by
  simp only[Z3l];split
  .rename_i hc;split;.try rfl
   .have d:2*i+1<=ZaI l i n/\ZaI l i n<=2*i+2:=by unfold ZaI;split<;>omega
    exact ZgR k m _ _ n Yp Yp Yp
  .try rfl
theorem ZIN:Contract Tryz.prog cfg 123 Z9C:=by
 refine ZCT Zv3 Zl5 ?_;intro l i0 n _ hp;obtain⟨⟨h1,h2⟩,h3,h4⟩:=hp;dsimp only at h1 h2 h3 h4;refine ZL6 _ _ _ _ ?_;refine Z6 (ι:=Int×List Three) (λs=>Z4S l i0 n s.1 s.2) (λs=>(0<=s.1/\s.1<=n)/\s.2.length=l.length/\Z1q l i0 n=Z1q s.2 s.1 n) (λs=>(n-s.1).toNat) (i0,l) rfl ⟨⟨h1,h2⟩,rfl,rfl⟩ ?_;rintro⟨i,r⟩⟨⟨f1,f2⟩,f3,f4⟩;dsimp only at f1 f2 f3 f4;refine Zvz _ _ _ _ _ _ _ ?_;(simp only[iB,vcT,vcS]);have e2:2*i+1+1=2*i+2:=Yp;simp only[e2];have af:∀{X:List Three×Int},Z1q r i n=X->X=(r,i)->Z00 cfg Tryz.f123.ntmps Tryz.f123.results.toList (Zk6 ((l,()),i0,n,())) (Zk0 ((l,()),i0,n,())) (Zeo ((l,()),i0,n,())) AExit.ret (⟨[(6,.c (.bool (decide (i0<i))))],[(.x 0,[.mref (.x 0 0)])],[(.x 0 0,LC.mk (U:=U) .three r 0)]⟩:LSt U):=by
  intro X h1 h2;rw[h2]at h1;simp only[Zk6,Zeo,f4,h1];exact YH
 have step:∀{k:Int},2*i+1<n->ZaI r i n=k->Z8r r k i=true->Z1q l i0 n=Z1q (Z1u r i k) k n:=by
  intro k hk e hl;rw[f4];unfold Z1q;obtain⟨m,hm⟩:∃m,(n-i).toNat=m+1:=⟨(n-i).toNat-1,Yp⟩;have hb:2*i+1<=k/\k<=2*i+2:=by rw[<-e];unfold ZaI;split<;>omega
  rw[hm,Z3l,if_pos hk,e,if_neg (by rw[hl];decide)];exact ZgR _ _ _ _ _ Yp Yp Yp
 have ab:∀{k:Int},2*i+1<n->ZaI r i n=k->Z8r r k i=false->Z1q r i n=(r,i):=by intro k hk e hl;unfold Z1q;obtain⟨m,hm⟩:∃m,(n-i).toNat=m+1:=⟨(n-i).toNat-1,Yp⟩;rw[hm,Z3l,if_pos hk,e,if_pos hl]
 refine⟨V2,V2,λh=>af rfl ?_,λh=>⟨V2,λh5=>⟨⟨V1,V1⟩,V1,V1⟩,λh5=>?_,λh5=>?_⟩⟩;.unfold Z1q;cases(n-i).toNat with|zero=>rfl|succ m=>rw[Z3l,JH]
 .have hk:ZaI r i n=2*i+2:=if_pos h5;refine⟨⟨⟨V1,V1⟩,f1,V1⟩,λd=>af rfl (ab Yp hk d),λd=>⟨⟨⟨f1,V1⟩,V1,V1⟩,(2*i+2,Z1u r i (2*i+2)),rfl,⟨⟨V1,V1⟩,by dsimp only;rw[YR];exact f3,step Yp hk d⟩,V1⟩⟩
 .have hk:ZaI r i n=2*i+1:=if_neg (by rintro⟨d,h7⟩;rcases h5 with h5|h5;exact h5 d;rw[h5]at h7;cases h7);refine⟨⟨⟨V1,V1⟩,f1,V1⟩,λd=>af rfl (ab Yp hk d),λd=>⟨⟨⟨f1,V1⟩,V1,V1⟩,(2*i+1,Z1u r i (2*i+1)),rfl,⟨⟨V1,V1⟩,by dsimp only;rw[YR];exact f3,step Yp hk d⟩,V1⟩⟩
theorem ZIU:Contract Tryz.prog cfg 114 Z9J:=by
 refine ZD0 ZIF Zl6 ZIO ?_;intro l x _ d;have d:l.length<1000000000:=d;refine ZLd l x _ ⟨by show l.length<=_;omega,trivial,?_,?_,?_⟩;.simp;unfold InR;omega
 .show(0<=_/\_)/\_;simp;omega
 .simp;exact YH
theorem ZIT:Contract Tryz.prog cfg 116 Z9I:=by
 refine ZCY Zl6 Zl5 ZIN ZIG ?_;intro l _ d;obtain⟨h1,h2⟩:=d;dsimp only at h1 h2;have hl:(Z1q (Z1u l 0 ((l.length:Int)-1)) 0 ((l.length:Int)-1)).1.length=l.length:=by unfold Z1q;rw[Z83,YR]
 refine ZLb l _ ⟨trivial,V2,⟨⟨V1,V1⟩,V1,V1⟩,⟨⟨V1,V1⟩,by dsimp only;rw[YR];omega,by dsimp only;rw[YR];omega⟩,⟨V1,V1⟩,?_⟩;simp only[hl,Zk3,Z0m];exact YH
noncomputable section
def Z4a(x:SStep):Bool:=decide (0<=x.kind/\x.kind<=2/\1<=x.n/\x.n<=1048576)
abbrev Gs:=List SStep×Int×Int×Int
def Z3U(s:Gs)(k:Int):Int:=[s.2.1,s.2.2.1,s.2.2.2].getD k.toNat 0
def Z4h(s:Gs)(k:Int):Gs:=(if 0<Z3U s k then s.1++[⟨k,Z3U s k⟩]else s.1,Yv k 0 0 s.2.1,Yv k 1 0 s.2.2.1,Yv k 2 0 s.2.2.2)
def Yz(s:Gs)(l:List Int):Gs:=l.foldl Z4h s
def Zo9(s:Gs)(k n:Int):Gs:=(s.1,Yv k 0 (Z3U s k+n) s.2.1,Yv k 1 (Z3U s k+n) s.2.2.1,Yv k 2 (Z3U s k+n) s.2.2.2)
def Z0r(s:Gs)(x:SStep):Gs:=if Z4a x=false then s else Zo9 (if x.kind=0 then Yz s [1,2]else Yz s [0]) x.kind x.n
def Z61(l:List SStep):List SStep:=(Yz (l.foldl Z0r ([],0,0,0)) [0,1,2]).1
def YQ(l:List SStep)(k n:Int):List SStep:=if 0<n then l++[⟨k,n⟩]else l
def Z0n(x:Int):List Int->Int|[]=>-1|y::r=>if x=y then 0 else if Z0n x r=-1 then-1 else Z0n x r+1
def Zhk(l:List SStep)(x:Int)(b:List Int):List SStep:=if Z0n x b=-1 then YQ (YQ l 1 1) 2 b.length else YQ (YQ (YQ l 2 (Z0n x b)) 0 1) 2 (b.length-Z0n x b-1)
def ZoE(x y j:Int)(s:List Int×Int):List Int×Int:=let o:=if x=y then s.1.set (j+1).toNat (s.2+1)else s.1
 (o.set (j+1).toNat (max (o.getD (j+1).toNat 0) (o.getD j.toNat 0)),s.1.getD (j+1).toNat 0)
def Z38(x:Int):List Int->Int->List Int×Int->List Int×Int|[],_,s=>s|y::r,j,s=>Z38 x r (j+1) (ZoE x y j s)
def Z0K(a b:List Int):List Int:=a.foldl (λout x=>(Z38 x b 0 (out,0)).1) (List.replicate (b.length+1) 0)
def ZbM(f g:List Int)(m:Int):Nat->Int->Int->Int|0,_,best=>best|k+1,j,best=>ZbM f g m k (j+1) (if f.getD best.toNat 0+g.getD (m-best).toNat 0<f.getD j.toNat 0+g.getD (m-j).toNat 0 then j else best)
def Z1W(a b:List Int)(half:Int):Int:=ZbM (Z0K (a.take half.toNat) b) (Z0K (a.drop half.toNat).reverse b.reverse) b.length (b.length+1) 0 0
theorem ZnZ(f g:List Int)(m:Int):∀(n:Nat)(j best:Int),0<=j->j+n<=m+1->0<=best->best<=m->0<=ZbM f g m n j best/\ZbM f g m n j best<=m|0,_,_,_,_,h2,h3=>⟨h2,h3⟩|n+1,j,best,h0,h1,h2,h3=>by rw[ZbM];refine ZnZ f g m n (j+1) _ Yp Yp ?_ ?_<;>split<;>omega
theorem ZhP(a b:List Int)(half:Int):0<=Z1W a b half/\Z1W a b half<=b.length:=ZnZ _ _ _ _ _ _ Yp Yp Yp Yp
def Z0C(l:List SStep)(a b:List Int):List SStep:=if a.length=0\/b.length=0 then YQ (YQ l 1 a.length) 2 b.length else if a.length=1 then Zhk l (a.getD 0 0) b else Z0C (Z0C l (a.take (a.length/2)) (b.take (Z1W a b (a.length/2:Nat)).toNat)) (a.drop (a.length/2)) (b.drop (Z1W a b (a.length/2:Nat)).toNat)termination_by a.length decreasing_by all_goals(simp;omega)
def Zca(a b:List Int)(i j:Int):Int×Int:=if(i<a.length/\j<b.length/\0<=i/\0<=j)/\a.getD i.toNat 0=b.getD j.toNat 0 then Zca a b (i+1) (j+1)else(i,j)termination_by((a.length:Int)-i).toNat decreasing_by omega
def Z4b(far:List Int)(at_:Int)(lo hi:Bool):Int:=if lo=true/\hi=true then 0 else if lo=true\/(hi=false/\far.getD (at_-1).toNat 0<far.getD (at_+1).toNat 0)then far.getD (at_+1).toNat 0 else far.getD (at_-1).toNat 0+1
def Zvu(a b:List Int)(most d:Int)(far:List Int)(k:Int):Int×Int:=Zca a b (Z4b far (most+1+k) (k==-d) (k==d)) (Z4b far (most+1+k) (k==-d) (k==d)-k)
def ZgW(a b:List Int)(most d:Int)(far:List Int)(k:Int):List Int×Bool:=if k<=d then(if(a.length:Int)<=(Zvu a b most d far k).1/\(b.length:Int)<=(Zvu a b most d far k).2 then(far,true)else ZgW a b most d (far.set (most+1+k).toNat (Zvu a b most d far k).1) (k+2))else(far,false)termination_by(d+1-k).toNat decreasing_by omega
def Zj1(a b:List Int)(most:Int)(far:List Int)(d:Int):Int×Bool:=if d<=most then(if(ZgW a b most d far (-d)).2=true then(d,true)else Zj1 a b most (ZgW a b most d far (-d)).1 (d+1))else(0,false)termination_by(most+1-d).toNat decreasing_by omega
def JK(a b:List Int)(most:Int):Int:=min (max most (-1)) ((a.length:Int)+b.length)
def Zj0(a b:List Int)(most:Int):Int×Bool:=if JK a b most<0\/JK a b most<(a.length:Int)-b.length\/JK a b most<(b.length:Int)-a.length then(0,false)else Zj1 a b (JK a b most) (List.replicate (2*JK a b most+3).toNat 0) 0
def Z65(a b:List Int)(most:Int):List SStep×Bool:=if(Zj0 a b most).2=true then(Z61 (Z0C [] a b),true)else([],false)
end
noncomputable section
def ZzU:ArgL (SStep×Unit):=(.cons (aEl .sstep) .nil)
def Zx7(a:SStep×Unit):Prop:=True
def ZF0(a:SStep×Unit):V U:=.c (.bool (Z4a a.1))
def Zf5:Fs U:=fs ZzU (λa=>[Zx7 a]) ZF0
def ZqP:ArgM (List Int×(Int×Int×Int×Unit)×(List SStep×Unit)×Unit):=(.cons (aSl .int) (.obj 0 (.cons (Zed .i64) (.cons (Zed .i64) (.cons (Zed .i64) .nil))) (.obj 1 (.cons (Z2B .sstep 1 0) .nil) .nil)))
def ZmC(a:List Int×(Int×Int×Int×Unit)×(List SStep×Unit)×Unit):Prop:=(∀k∈a.1,0<=k/\k<3)/\(a.1).length<=3/\(a.2.2.1.1).length<=1000000000
def ZF1(a:List Int×(Int×Int×Int×Unit)×(List SStep×Unit)×Unit):V U:=.tup []
def ZoK(a:List Int×(Int×Int×Int×Unit)×(List SStep×Unit)×Unit):List (List (C U)):=[[ci ((Yz (a.2.2.1.1,a.2.1.1,a.2.1.2.1,a.2.1.2.2.1) a.1).2.1),ci ((Yz (a.2.2.1.1,a.2.1.1,a.2.1.2.1,a.2.1.2.2.1) a.1).2.2.1),ci ((Yz (a.2.2.1.1,a.2.1.1,a.2.1.2.1,a.2.1.2.2.1) a.1).2.2.2)],[sU .sstep ((Yz (a.2.2.1.1,a.2.1.1,a.2.1.2.1,a.2.1.2.2.1) a.1).1) (.own (.x 1 0))]]
def Zf6:Fs U:=fsX ZqP (λa=>[ZmC a]) ZF1 ZoK
def ZA4:ArgL (List SStep×Unit):=(.cons (aSl .sstep) .nil)
def ZrZ(a:List SStep×Unit):Prop:=(a.1).length<=10000000
def ZF8(a:List SStep×Unit):V U:=.c (sU .sstep (Z61 a.1) (.own (.r 0 0)))
def Z8B:Fs U:=fs ZA4 (λa=>[ZrZ a]) ZF8
def Zlo:ArgM ((List SStep×Unit)×Int×Int×Unit):=(.obj 0 (.cons (Z2B .sstep 0 0) .nil) (.cons (ZR .i64) (.cons (ZR .i64) .nil)))
def Z5q(a:(List SStep×Unit)×Int×Int×Unit):Prop:=(a.1.1).length<=1000000000
def ZwU(a:(List SStep×Unit)×Int×Int×Unit):V U:=.tup []
def Zen(a:(List SStep×Unit)×Int×Int×Unit):List (List (C U)):=[[sU .sstep (YQ a.1.1 a.2.1 a.2.2.1) (.own (.x 0 0))]]
def Z3C:Fs U:=fsX Zlo (λa=>[Z5q a]) ZwU Zen
def Zln:ArgM ((List SStep×Unit)×Int×List Int×Unit):=(.obj 0 (.cons (Z2B .sstep 0 0) .nil) (.cons (ZR .i64) (.cons (aSl .int) .nil)))
def Zpd(a:(List SStep×Unit)×Int×List Int×Unit):Prop:=(a.1.1).length<=100000000/\(a.2.2.1).length<=1000000
def ZwT(a:(List SStep×Unit)×Int×List Int×Unit):V U:=.tup []
def Zem(a:(List SStep×Unit)×Int×List Int×Unit):List (List (C U)):=[[sU .sstep (Zhk a.1.1 a.2.1 a.2.2.1) (.own (.x 0 0))]]
def Z9Q:Fs U:=fsX Zln (λa=>[Zpd a]) ZwT Zem
def ZwN(a:List Int×Unit):V U:=.c (sU .int ((a.1).reverse) (.own (.r 0 0)))
def Z9K:Fs U:=fs Ztc (λa=>[ZoZ a]) ZwN
abbrev A85(p:List Nat):=AW (Z2 Zqj) Tryz.f85 ZId p
theorem ZMX(s:SStep)(Q:QT)(h:let z2:=decide ((0:Int)<=(SStep.kind s));let z0:=bif z2 then(decide (((SStep.kind s):Int)<=2))else false;let z1:=bif z0 then(decide ((1:Int)<=(SStep.n s)))else false;((Tt z2)/\(Tt z2)/\(Tt z2)/\(Tt z0)/\(Tt z0)/\(Tt z0)/\(Tt z1)/\(Tt z1)/\(Tt z1)/\(Q .ret (L2 [(2,.c (.bool (bif z1 then(decide (((SStep.n s):Int)<=1048576))else false)))] [])))):A85 [] (L2 [(0,.agg (enc .sstep s))] []) Q:=(Eq.mpr V3 h:)
abbrev ZJD(s:SStep):Prop:=AW (Z2 Zqj) Tryz.f85 ZId [] (Zg (ZzU.can (s,())) []) (EQ Tryz.f85 (ZF0 (s,())) [])
theorem ZGN(hb:∀(s:SStep)(_:Unit),Zx7 (s,())->ZJD s):CT 85 Zf5:=Z1 (l:=[]) Zf rfl trivial ZId Tryz.func85 rfl rfl 1 (λ_=>rfl) V0 (λ⟨s,_⟩=>hb s ())
def ZHM:Za U:=lvk [([1,2,6,7,8],[((.x 0),[]),((.x 1),[])]),([1,2,6,7,8,9],[((.x 0),[]),((.x 1),[])]),([1,2,5,6,7,8],[((.x 0),[]),((.x 1),[])]),([1,2,5,6,7,8,15],[((.x 0),[]),((.x 1),[])]),([1,2,5,6,7,8],[((.x 0),[]),((.x 1),[])]),([1,2,6,7,8],[((.x 0),[]),((.x 1),[])]),([1,2,6,7,8],[((.x 0),[]),((.x 1),[])])]
def Z6X(kinds:List Int)(ga gb gc:Int)(out:List SStep)(d mx0_0 mx0_1 mx0_2:Int)(mx1_0:List SStep):LSt U:=(L2 [(1,.ptr (.x 0) 0),(2,.ptr (.x 1) 0),(6,.c (sU .int kinds .unk)),pI 7 (kinds.length:Int),pI 8 d] [(.x 0,[ci mx0_0,ci mx0_1,ci mx0_2]),(.x 1,[sU .sstep mx1_0 (.own (.x 1 0))])])
abbrev A84(p:List Nat):=AW (Z2 Zqj) Tryz.f84 ZHM p
theorem ZMY(kinds:List Int)(ga gb gc:Int)(out:List SStep)(Q:QT)(h:(Zk (A84 [1,0,0]) (Z6X kinds ga gb gc out 0 ga gb gc out) (xB 0 Q))):A84 [] (L2 [(0,.c (sU .int kinds .unk)),(1,.ptr (.x 0) 0),(2,.ptr (.x 1) 0)] [(.x 0,[ci ga,ci gb,ci gc]),(.x 1,[sU .sstep out (.own (.x 1 0))])]) Q:=(Eq.mpr V3 h:)
theorem ZBb(kinds:List Int)(ga gb gc:Int)(out:List SStep)(x8 mx0_0 mx0_1 mx0_2:Int)(mx1_0:List SStep)(N0:NT)(Q:QT)(h:∀d,d=(kinds.getD x8.toNat (0:Int))->∀ab,ab=(List.getD [mx0_0,mx0_1,mx0_2] d.toNat 0)->let z0:=decide (x8<(kinds.length:Int));(iB z0 (((0:Int)<=x8/\x8<(kinds.length:Int))/\(((0:Int)<=d/\d<((3:Nat):Int))/\(iB (decide ((0:Int)<ab)) (((0:Int)<=d/\d<((3:Nat):Int))/\((mx1_0.length+([(SStep.mk d ab)]).length)*16<=140737488355328)/\(((0:Int)<=d/\d<((3:Nat):Int))/\((InR (x8+1))/\(N0 (Z6X kinds ga gb gc out (x8+1) (Yv d 0 0 mx0_0) (Yv d 1 0 mx0_1) (Yv d 2 0 mx0_2) (mx1_0++([(SStep.mk d ab)]))))))) (((0:Int)<=d/\d<((3:Nat):Int))/\((InR (x8+1))/\(N0 (Z6X kinds ga gb gc out (x8+1) (Yv d 0 0 mx0_0) (Yv d 1 0 mx0_1) (Yv d 2 0 mx0_2) mx1_0))))))) (Q .normal (L2 [(1,.ptr (.x 0) 0),(2,.ptr (.x 1) 0),(6,.c (sU .int kinds .unk)),pI 7 (kinds.length:Int),pI 8 x8,pB 9 z0] [(.x 0,[ci mx0_0,ci mx0_1,ci mx0_2]),(.x 1,[sU .sstep mx1_0 (.own (.x 1 0))])])))):A84 [1,0,0] (Z6X kinds ga gb gc out x8 mx0_0 mx0_1 mx0_2 mx1_0) (xT N0 (xB 0 Q)):=(Eq.mpr V3 (h _ rfl _ rfl):)
abbrev ZJE(kinds:List Int)(ga gb gc:Int)(out:List SStep):Prop:=AW (Z2 Zqj) Tryz.f84 ZHM [] (Zg (ZqP.can (kinds,(ga,gb,gc,()),(out,()),())) (ZqP.canX (kinds,(ga,gb,gc,()),(out,()),()))) (EQ Tryz.f84 (ZF1 (kinds,(ga,gb,gc,()),(out,()),())) (ZoK (kinds,(ga,gb,gc,()),(out,()),())))
theorem ZGO(hb:∀(d:List Int)(ga:Int)(gb:Int)(gc:Int)(out:List SStep)(_:Unit),ZmC (d,(ga,gb,gc,()),(out,()),())->ZJE d ga gb gc out):CT 84 Zf6:=Y9 (l:=[]) Zf rfl trivial ZHM Tryz.func84 rfl rfl 3 (λ_=>rfl) V0 (λ⟨d,⟨ga,gb,gc,_⟩,⟨out,_⟩,_⟩=>hb d ga gb gc out ())
def Zq2:List (FuncId×Fs U):=[(84,Zf6),(85,Zf5)]
def ZDn:Za U:=lvk [([0],[]),([0,3],[3]),([0,3,4],[3,4]),([0,3,4,5],[3,4]),([3,4,5,9,10,11],[((.loc 3),[.own .sstep]),4]),([3,4,5,9,10,11,12],[3,4]),([3,4,5,7,9,10,11],[3,4,7]),([3,4,5,7,9,10,11],[3,4,7]),([3,4,5,7,9,10,11,18],[((.loc 3),[.own .sstep]),4,7]),([3,4,5,7,9,10,11,22],[3,4,7]),([3,4,5,7,9,10,11],[3,4,7]),([3,4,5,7,9,10,11,18],[((.loc 3),[.own .sstep]),4,7]),([3,4,5,9,10,11],[((.loc 3),[.own .sstep]),4]),([3],[3]),([2],[])]
def ZaV(l:List SStep)(af ab ae aa:Int)(d:List SStep):LSt U:=(L2 [pL 3,pL 4,(5,.clo 84 [(.loc 4),(.loc 3)]),(9,.c (sU .sstep l .unk)),pI 10 (l.length:Int),pI 11 af] [(.loc 3,[sU .sstep d (.own (.l 3 0))]),(.loc 4,[ci ab,ci ae,ci aa])])
def ZgG(l:List SStep)(ah:Int)(af:V U)(ae ab aa:Int)(d:List SStep):LSt U:=(L2 [pL 3,pL 4,(5,.clo 84 [(.loc 4),(.loc 3)]),pL 7,(9,.c (sU .sstep l .unk)),pI 10 (l.length:Int),pI 11 ah,(18,af)] [(.loc 3,[sU .sstep d (.own (.l 3 0))]),(.loc 4,[ci ae,ci ab,ci aa]),(.loc 7,(enc .sstep (l.getD ah.toNat (SStep.mk 0 0))))])
def ZgF(l:List SStep)(af:Int)(ab:List SStep)(aa ae d:Int):LSt U:=(L2 [pL 3,pL 4,(5,.clo 84 [(.loc 4),(.loc 3)]),pL 7,(9,.c (sU .sstep l .unk)),pI 10 (l.length:Int),pI 11 af] [(.loc 3,[sU .sstep ab (.own (.l 3 0))]),(.loc 4,[ci aa,ci ae,ci d]),(.loc 7,(enc .sstep (l.getD af.toNat (SStep.mk 0 0))))])
abbrev A68(p:List Nat):=AW (Z2 Zq2) Tryz.f68 ZDn p
abbrev S68(p:List Nat):=SW (Z2 Zq2) Tryz.f68 ZDn p
theorem ZNc(l:List SStep)(Q:QT)(h:(Zk (A68 [1,1,1,1,0,1,0,0]) (ZaV l 0 0 0 0 []) (xB 0 (S68 [1,1,1,1,1] Q)))):A68 [] (L2 [(0,.c (sU .sstep l .unk))] []) Q:=(Eq.mpr V3 h:)
theorem ZBm(l:List SStep)(af ab ae aa:Int)(d:List SStep)(N0:NT)(Q:QT)(h:∀ai,ai=(l.getD af.toNat (SStep.mk 0 0))->∀ah,ah=ai->let z3:=xT N0 (xB 0 (S68 [1,1,1,1,1] Q));let z2:=xB 1 (S68 [1,1,1,1,0,1,0,0,1,1,1] z3);let z1:=Yz (d,ab,ae,aa) ([0]);let z0:=Yz (d,ab,ae,aa) ([1,2]);(iB (decide (af<(l.length:Int))) (((0:Int)<=af/\af<(l.length:Int))/\((Zx7 (ah,()))/\(iB (!(Z4a ah)) (A68 [1,1,1,1,0,1,0,0,1,1,1] (ZgG l af (.c (.bool (!(Z4a ah)))) ab ae aa d) z3) ((iB (((SStep.kind ai):Int)==0) ((ZmC (([1,2]),(ab,ae,aa,()),(d,()),()))/\(A68 [1,1,1,1,0,1,0,0,1,1,0,0,1,1] (ZgF l af (z0.1) (z0.2.1) (z0.2.2.1) (z0.2.2.2)) z2)) ((ZmC (([0]),(ab,ae,aa,()),(d,()),()))/\(A68 [1,1,1,1,0,1,0,0,1,1,0,0,1,1] (ZgF l af (z1.1) (z1.2.1) (z1.2.2.1) (z1.2.2.2)) z2))))))) ((ZmC (([0,1,2]),(ab,ae,aa,()),(d,()),()))/\(Q .ret (L2 [(2,.c (sU .sstep ((Yz (d,ab,ae,aa) ([0,1,2])).1) (.own (.e 2 0))))] []))))):A68 [1,1,1,1,0,1,0,0] (ZaV l af ab ae aa d) (xT N0 (xB 0 (S68 [1,1,1,1,1] Q))):=(Eq.mpr V3 (h _ rfl _ (ZoS _)):)
theorem Zjt(l:List SStep)(ah:Int)(af:V U)(ae ab aa:Int)(d:List SStep)(N0:NT)(Q:QT)(h:(InR (ah+1))/\(N0 (ZaV l (ah+1) ae ab aa d))):A68 [1,1,1,1,0,1,0,0,1,1,1] (ZgG l ah af ae ab aa d) (xT N0 (xB 0 (S68 [1,1,1,1,1] Q))):=(Eq.mpr V3 h:)
theorem Zr7(l:List SStep)(af:Int)(ae:List SStep)(aa ab d:Int)(N0:NT)(Q:QT)(h:let z2:=l.getD af.toNat (SStep.mk 0 0);let z0:=SStep.kind z2;let z1:=List.getD [aa,ab,d] (Int.toNat z0) 0;((0:Int)<=z0/\z0<((3:Nat):Int))/\(InR ((z1:Int)+(SStep.n z2)))/\((0:Int)<=z0/\z0<((3:Nat):Int))/\(A68 [1,1,1,1,0,1,0,0,1,1,1] (ZgG l af .junk (Yv z0 0 ((z1:Int)+(SStep.n z2)) aa) (Yv z0 1 ((z1:Int)+(SStep.n z2)) ab) (Yv z0 2 ((z1:Int)+(SStep.n z2)) d) ae) (xT N0 (xB 0 (S68 [1,1,1,1,1] Q))))):A68 [1,1,1,1,0,1,0,0,1,1,0,0,1,1] (ZgF l af ae aa ab d) (xB 1 (S68 [1,1,1,1,0,1,0,0,1,1,1] (xT N0 (xB 0 (S68 [1,1,1,1,1] Q))))):=(Eq.mpr V3 h:)
abbrev ZJS(l:List SStep):Prop:=AW (Z2 Zq2) Tryz.f68 ZDn [] (Zg (ZA4.can (l,())) []) (EQ Tryz.f68 (ZF8 (l,())) [])
theorem ZH1(c84:CT 84 Zf6)(c85:CT 85 Zf5)(hb:∀(l:List SStep)(_:Unit),ZrZ (l,())->ZJS l):CT 68 Z8B:=Z1 (l:=[(84,Zf6),(85,Zf5)]) Zf rfl (⟨c84,c85,trivial⟩) ZDn Tryz.func68 rfl rfl 1 (λ_=>rfl) V0 (λ⟨l,_⟩=>hb l ())
def Zyf:Za U:=lvk [([0,1,2,7],[((.x 0),[])]),([],[((.x 0),[])])]
abbrev ZOq(p:List Nat):=AW (Z2 Zqj) Tryz.f103 Zyf p
theorem ZLn(l:List SStep)(kind n:Int)(Q:QT)(h:(iB (decide ((0:Int)<n)) (((l.length+([(SStep.mk kind n)]).length)*16<=140737488355328)/\(Q .normal (L2 [] [(.x 0,[sU .sstep (l++([(SStep.mk kind n)])) (.own (.x 0 0))])]))) (Q .normal (L2 [(0,.ptr (.x 0) 0),pI 1 kind,pI 2 n,pB 7 (decide ((0:Int)<n))] [(.x 0,[sU .sstep l (.own (.x 0 0))])])))):ZOq [] (L2 [(0,.ptr (.x 0) 0),pI 1 kind,pI 2 n] [(.x 0,[sU .sstep l (.own (.x 0 0))])]) Q:=(Eq.mpr V3 h:)
abbrev ZEH(l:List SStep)(kind n:Int):Prop:=AW (Z2 Zqj) Tryz.f103 Zyf [] (Zg (Zlo.can ((l,()),kind,n,())) (Zlo.canX ((l,()),kind,n,()))) (EQ Tryz.f103 (ZwU ((l,()),kind,n,())) (Zen ((l,()),kind,n,())))
theorem ZDa(hb:∀(l:List SStep)(kind:Int)(n:Int)(_:Unit),Z5q ((l,()),kind,n,())->ZEH l kind n):CT 103 Z3C:=Y9 (l:=[]) Zf rfl trivial Zyf Tryz.func103 rfl rfl 3 (λ_=>rfl) V0 (λ⟨⟨l,_⟩,kind,n,_⟩=>hb l kind n ())
def ZkM:List (FuncId×Fs U):=[(103,Z3C)]
def Zsq:Za U:=lvk [([0,1,2,8,9,10],[((.x 0),[])]),([0,1,2,8,9,10,11],[((.x 0),[])]),([0,1,2,6,7,8,9,10],[((.x 0),[])]),([0,1,2,6,8,9,10,17],[((.x 0),[])]),([0,2,6],[((.x 0),[])]),([0,2,6],[((.x 0),[])]),([],[((.x 0),[])]),([0,1,2,8,9,10],[((.x 0),[])]),([0,2],[((.x 0),[])]),([],[((.x 0),[])])]
def Z7W(l:List SStep)(x:Int)(b:List Int)(d:Int):LSt U:=(L2 [(0,.ptr (.x 0) 0),pI 1 x,(2,.c (sU .int b .unk)),(8,.c (sU .int b .unk)),pI 9 (b.length:Int),pI 10 d] [(.x 0,[sU .sstep l (.own (.x 0 0))])])
abbrev ZKS(p:List Nat):=AW (Z2 ZkM) Tryz.f104 Zsq p
abbrev ZMb(p:List Nat):=SW (Z2 ZkM) Tryz.f104 Zsq p
theorem ZLm(l:List SStep)(x:Int)(b:List Int)(Q:QT)(h:(Zk (ZKS [0,1,0,0]) (Z7W l x b 0) (xB 0 (ZMb [1] Q)))):ZKS [] (L2 [(0,.ptr (.x 0) 0),pI 1 x,(2,.c (sU .int b .unk))] [(.x 0,[sU .sstep l (.own (.x 0 0))])]) Q:=(Eq.mpr V3 h:)
theorem ZvM(l:List SStep)(x:Int)(b:List Int)(d:Int)(N0:NT)(Q:QT)(h:(iB (decide (d<(b.length:Int))) (((0:Int)<=d/\d<(b.length:Int))/\(iB (x==(b.getD d.toNat (0:Int))) ((Z5q ((l,()),2,d,()))/\((Z5q (((YQ l 2 d),()),0,1,()))/\((InR (((b.length:Int):Int)-d))/\(InR (((((b.length:Int):Int)-d):Int)-1))/\(Z5q (((YQ (YQ l 2 d) 0 1),()),2,(((((b.length:Int):Int)-d):Int)-1),()))/\(Q .ret (L2 [] [(.x 0,[sU .sstep (YQ (YQ (YQ l 2 d) 0 1) 2 (((((b.length:Int):Int)-d):Int)-1)) (.own (.x 0 0))])]))))) ((InR (d+1))/\(N0 (Z7W l x b (d+1)))))) ((Z5q ((l,()),1,1,()))/\((Z5q (((YQ l 1 1),()),2,(b.length:Int),()))/\(Q .normal (L2 [] [(.x 0,[sU .sstep (YQ (YQ l 1 1) 2 (b.length:Int)) (.own (.x 0 0))])])))))):ZKS [0,1,0,0] (Z7W l x b d) (xT N0 (xB 0 (ZMb [1] Q))):=(Eq.mpr V3 h:)
abbrev ZEG(l:List SStep)(x:Int)(b:List Int):Prop:=AW (Z2 ZkM) Tryz.f104 Zsq [] (Zg (Zln.can ((l,()),x,b,())) (Zln.canX ((l,()),x,b,()))) (EQ Tryz.f104 (ZwT ((l,()),x,b,())) (Zem ((l,()),x,b,())))
theorem ZD9(Zv5:CT 103 Z3C)(hb:∀(l:List SStep)(x:Int)(b:List Int)(_:Unit),Zpd ((l,()),x,b,())->ZEG l x b):CT 104 Z9Q:=Y9 (l:=[(103,Z3C)]) Zf rfl (⟨Zv5,trivial⟩) Zsq Tryz.func104 rfl rfl 3 (λ_=>rfl) V0 (λ⟨⟨l,_⟩,x,b,_⟩=>hb l x b ())
def Zsk:Za U:=lvk [([0],[]),([0,(3,[.wr .int])],[]),([0,(3,[.wr .int]),9,10,11],[]),([0,(3,[.wr .int]),9,10,11,12],[]),([0,(3,[.wr .int]),4,5,9,10,11],[]),([0,(3,[.wr .int]),9,10,11],[]),([0,(3,[.wr .int]),9,10,11],[]),([2],[])]
def Z7R(l:List Int)(d:Int)(re_3_0:List Int):LSt U:=(⟨[(0,.c (sU .int l .unk)),(3,.c (.mref (.e 3 0))),(9,.c (sU .int l .unk)),pI 10 (l.length:Int),pI 11 d],[],[(.e 3 0,LC.mk (U:=U) .int re_3_0 0)]⟩:LSt U)
abbrev ZKP(p:List Nat):=AW (Z0Z Zqj) Tryz.f113 Zsk p
abbrev ZM8(p:List Nat):=SW (Z0Z Zqj) Tryz.f113 Zsk p
theorem ZLe(l:List Int)(Q:QT)(h:(((0:Int)<=(l.length:Int)/\((l.length:Int):Int)*((8:Nat):Int)<=140737488355328/\((l.length:Int):Int)<=9223372036854775807)/\(((l.length:Int):Int)=(l.length:Int))/\(Zk (ZKP [1,1,0,1,0,0]) (Z7R l 0 (List.replicate (Int.toNat (l.length:Int)) (0:Int))) (xB 0 (ZM8 [1,1,1] Q))))):ZKP [] (L2 [(0,.c (sU .int l .unk))] []) Q:=(Eq.mpr V3 h:)
theorem ZvB(l:List Int)(d:Int)(re_3_0:List Int)(N0:NT)(Q:QT)(h:(iB (decide (d<(l.length:Int))) (((0:Int)<=d/\d<(l.length:Int))/\((InR (((l.length:Int):Int)-1))/\(InR (((((l.length:Int):Int)-1):Int)-d))/\((0:Int)<=(((((l.length:Int):Int)-1):Int)-d)/\(((((l.length:Int):Int)-1):Int)-d)<(re_3_0.length:Int))/\((0:Nat)<=(Int.toNat (((((l.length:Int):Int)-1):Int)-d)))/\((InR (d+1))/\(N0 (Z7R l (d+1) (List.set re_3_0 (Int.toNat (((((l.length:Int):Int)-1):Int)-d)) (l.getD d.toNat (0:Int)))))))) ((Q .ret (L2 [(2,.c (sU .int re_3_0 (.own (.e 2 0))))] []))))):ZKP [1,1,0,1,0,0] (Z7R l d re_3_0) (xT N0 (xB 0 (ZM8 [1,1,1] Q))):=(Eq.mpr V3 h:)
abbrev ZEy(l:List Int):Prop:=AW (Z0Z Zqj) Tryz.f113 Zsk [] (Zg (Ztc.can (l,())) []) (EQ Tryz.f113 (ZwN (l,())) [])
theorem ZD1(hb:∀(l:List Int)(_:Unit),ZoZ (l,())->ZEy l):CT 113 Z9K:=Z1K (l:=[]) Zf rfl trivial Zsk Tryz.func113 rfl rfl 1 (λ_=>rfl) V0 (λ⟨l,_⟩=>hb l ())
end
theorem c85:Contract Tryz.prog cfg 85 Zf5:=by refine ZGN ?_;intro s _ _;refine ZMX _ _ ?_;(simp only[iB,vcT,vcS]);refine Zn rfl ?_;simp only[Z4a];by_cases h1:0<=s.kind<;>by_cases h2:s.kind<=2<;>by_cases h3:1<=s.n<;>by_cases h4:s.n<=1048576<;>simp[h1,h2,h3,h4]
theorem Zqw(o:List SStep)(a b c k:Int)(h:0<[a,b,c].getD k.toNat 0):Z4h (o,a,b,c) k=(o++[⟨k,[a,b,c].getD k.toNat 0⟩],Yv k 0 0 a,Yv k 1 0 b,Yv k 2 0 c):=by have h:0<Z3U (o,a,b,c) k:=h;unfold Z4h;rw[if_pos h];try rfl
theorem Zqx(o:List SStep)(a b c k:Int)(h:¬0<[a,b,c].getD k.toNat 0):Z4h (o,a,b,c) k=(o,Yv k 0 0 a,Yv k 1 0 b,Yv k 2 0 c):=by have h:¬0<Z3U (o,a,b,c) k:=h;unfold Z4h;rw[if_neg h]
theorem ZnA(s:Gs)(k:Int)(r:List Int):Yz s (k::r)=Yz (Z4h s k) r:=rfl
theorem c84:Contract Tryz.prog cfg 84 Zf6:=by
 refine ZGO ?_;intro d ga gb gc out _ hp;obtain⟨h1,h2,h3⟩:=hp;dsimp only at h1 h2 h3;refine ZMY _ _ _ _ _ _ ?_;refine Z6 (ι:=Int×Gs) (λs=>Z6X d ga gb gc out s.1 s.2.2.1 s.2.2.2.1 s.2.2.2.2 s.2.1) (λs=>(0<=s.1/\s.1<=d.length)/\(s.2.1.length:Int)<=out.length+s.1/\Yz (out,ga,gb,gc) d=Yz s.2 (d.drop s.1.toNat)) (λs=>((d.length:Int)-s.1).toNat) (0,out,ga,gb,gc) rfl ⟨⟨Yp,Yp⟩,V1,by simp⟩ ?_;rintro⟨i,o,a,b,c⟩⟨⟨f1,f2⟩,f3,f4⟩;dsimp only at f1 f2 f3 f4;refine ZBb _ _ _ _ _ _ _ _ _ _ _ _ ?_;rintro y1 rfl y2 rfl;(simp only[iB,vcT,vcS]);refine⟨λhi=>?_,λhi=>?_⟩
 .have hk:=h1 _ (Ze (i:=i.toNat) Yp (0:Int));rw[Yu f1 hi (0:Int),ZnA]at f4;refine⟨⟨f1,hi⟩,hk,λhg=>?_,λhg=>?_⟩
  .rw[Zqw _ _ _ _ _ hg]at f4;exact⟨hk,by simp;omega,hk,V2,(i+1,_),rfl,⟨⟨V1,V1⟩,by simp;omega,f4⟩,V1⟩
  .rw[Zqx _ _ _ _ _ hg]at f4;exact⟨hk,V2,(i+1,_),rfl,⟨⟨V1,V1⟩,by simp;omega,f4⟩,V1⟩
 .rw[Qb Yp]at f4;have e:Yz (o,a,b,c) []=(o,a,b,c):=rfl;simp only[ZoK,f4,e];exact YH
def Z43(s:Gs)(m:Int):Prop:=(0<=s.2.1/\s.2.1<=m)/\(0<=s.2.2.1/\s.2.2.1<=m)/\(0<=s.2.2.2/\s.2.2.2<=m)
theorem ZuR(s:Gs)(k:Int)(m:Int)(h0:0<=m)(h1:Z43 s m):Z43 (Z4h s k) m/\(Z4h s k).1.length<=s.1.length+1:=by simp only[Z4h,Yv,Z43]at*;grind
theorem ZiP(m:Int)(h0:0<=m):∀(l:List Int)(s:Gs),Z43 s m->Z43 (Yz s l) m/\(Yz s l).1.length<=s.1.length+l.length|[],s,h=>⟨h,by simp[Yz]⟩|k::r,s,h=>by have a:=ZuR s k m h0 h;have b:=ZiP m h0 r (Z4h s k) a.1;refine⟨b.1,X2 b.2 (by simp;omega)⟩
theorem Znz{s:Gs}{m:Int}(h:Z43 s m)(hm:0<=m)(k:Int):0<=Z3U s k/\Z3U s k<=m:=by unfold Z3U;generalize k.toNat=n;obtain⟨d,h2,h3⟩:=h;match n with|0=>exact d|1=>exact h2|2=>exact h3|n+3=>exact⟨by simp,by simpa using hm⟩
theorem ZE7{s:Gs}{m:Int}(h:Z43 s m)(hm:0<=m)(k n:Int)(hn:0<=n):Z43 (Zo9 s k n) (m+n):=by have:=Znz h hm k;simp only[Zo9,Yv,Z43]at*;grind
theorem c68:Contract Tryz.prog cfg 68 Z8B:=by
 refine ZH1 c84 c85 ?_;intro l _ hp;have hp:l.length<=10000000:=hp;refine ZNc _ _ ?_;refine Z6 (ι:=Int×Gs) (λs=>ZaV l s.1 s.2.2.1 s.2.2.2.1 s.2.2.2.2 s.2.1) (λs=>(0<=s.1/\s.1<=l.length)/\(s.2.1.length:Int)<=2*s.1/\Z43 s.2 (1048576*s.1)/\l.foldl Z0r ([],0,0,0)=(l.drop s.1.toNat).foldl Z0r s.2) (λs=>((l.length:Int)-s.1).toNat) (0,[],0,0,0) rfl ⟨⟨Yp,Yp⟩,by simp,by simp[Z43],by simp⟩ ?_;rintro⟨i,s⟩⟨⟨f1,f2⟩,f3,f4,f5⟩;obtain⟨o,a,b,c⟩:=s;dsimp only at f1 f2 f3 f4 f5;refine ZBm _ _ _ _ _ _ _ _ ?_;rintro y1 aa d aj;(simp only[iB,vcT,vcS]);refine⟨λhi=>?_,λhi=>?_⟩
 .rw[Yu f1 hi (SStep.mk 0 0),QV,<-aa]at f5;subst aj;dsimp only at aa;refine⟨⟨f1,hi⟩,trivial,λhr=>?_,λhr=>?_⟩;.rw[Z0r,if_pos hr]at f5;refine Zjt _ _ _ _ _ _ _ _ _ ⟨V2,(i+1,(o,a,b,c)),rfl,⟨⟨V1,V1⟩,V1,?_,f5⟩,V1⟩;simp only[Z43]at f4⊢;omega
  .have g:(0<=d.kind/\d.kind<=2)/\1<=d.n/\d.n<=1048576:=by simp only[Z4a,decide_eq_true_eq]at hr;omega
   rw[Z0r,if_neg (by simp[hr])]at f5;obtain⟨⟨g1,g2⟩,g3,g4⟩:=g;have hm:(0:Int)<=1048576*i:=Yp;have ab:∀ks:List Int,ks.length<=2->(0<=Z3U (Yz (o,a,b,c) ks) d.kind/\Z3U (Yz (o,a,b,c) ks) d.kind<=1048576*i)/\((Zo9 (Yz (o,a,b,c) ks) d.kind d.n).1.length:Int)<=2*(i+1)/\Z43 (Zo9 (Yz (o,a,b,c) ks) d.kind d.n) (1048576*(i+1)):=by intro ks hk;have w:=ZiP _ hm ks (o,a,b,c) f4;have w2:=ZE7 w.1 hm d.kind d.n Yp;have w3:=w.2;dsimp only at w3;refine⟨Znz w.1 hm _,by simp only[Zo9];omega,?_⟩;simp only[Z43]at w2⊢;omega
   refine⟨λhk=>?_,λhk=>?_⟩;.have w:=ab [1,2] (by simp);rw[if_pos hk]at f5;refine⟨⟨by simp,by simp,by show o.length<=_;omega⟩,Zr7 _ _ _ _ _ _ _ _ ?_⟩;rw[<-aa];refine⟨⟨g1,Yp⟩,by have:=w.1;simp only[Z3U]at this;unfold InR;omega,⟨g1,Yp⟩,Zjt _ _ _ _ _ _ _ _ _ ⟨V2,(i+1,Zo9 (Yz (o,a,b,c) [1,2]) d.kind d.n),rfl,⟨⟨V1,V1⟩,w.2.1,w.2.2,f5⟩,V1⟩⟩
   .have w:=ab [0] (by simp);rw[if_neg hk]at f5;refine⟨⟨by simp,by simp,by show o.length<=_;omega⟩,Zr7 _ _ _ _ _ _ _ _ ?_⟩;rw[<-aa];refine⟨⟨g1,Yp⟩,by have:=w.1;simp only[Z3U]at this;unfold InR;omega,⟨g1,Yp⟩,Zjt _ _ _ _ _ _ _ _ _ ⟨V2,(i+1,Zo9 (Yz (o,a,b,c) [0]) d.kind d.n),rfl,⟨⟨V1,V1⟩,w.2.1,w.2.2,f5⟩,V1⟩⟩
 .rw[Qb Yp]at f5;refine⟨⟨by simp,by simp,by show o.length<=_;omega⟩,?_⟩;have e:Z61 l=(Yz (o,a,b,c) [0,1,2]).1:=by rw[Z61,f5];try rfl
  rw[<-e];exact YH
theorem ZEO{α:Type}{l:List α}{i:Int}(h0:0<=i)(h:i<l.length)(d:α):l.take (i+1).toNat=l.take i.toNat++[l.getD i.toNat d]:=by have:(i+1).toNat=i.toNat+1:=Yp;rw[this];simp_all
theorem ZIV:Contract Tryz.prog cfg 113 Z9K:=by
 refine ZD1 ?_;intro l _ hp;have hp:l.length<=1000000:=hp;refine ZLe _ _ ⟨⟨V1,V1,V1⟩,rfl,?_⟩;refine Z6 (ι:=Int×List Int) (λs=>Z7R l s.1 s.2) (λs=>0<=s.1/\s.1<=l.length/\s.2=List.replicate (l.length-s.1.toNat) 0++(l.take s.1.toNat).reverse) (λs=>((l.length:Int)-s.1).toNat) (0,_) rfl ⟨by simp,by simp,by simp⟩ ?_;rintro⟨i,r⟩⟨f1,f2,d⟩;dsimp only at f1 f2 d;refine ZvB _ _ _ _ _ ?_;(simp only[iB,vcT,vcS]);have hl:r.length=l.length:=by rw[d];simp;omega
 refine⟨λhi=>?_,λhi=>?_⟩;.refine⟨⟨f1,hi⟩,V2,V2,⟨Yp,Yp⟩,Nat.zero_le _,V2,(i+1,_),rfl,⟨V1,V1,?_⟩,V1⟩;dsimp only;have e1:((l.length:Int)-1-i).toNat=l.length-(i+1).toNat:=Yp;have e2:l.length-i.toNat=(l.length-(i+1).toNat)+1:=Yp;rw[d,e1,e2,List.replicate_succ',Q7,ZEO f1 hi (0:Int)];rw[List.set_append_right _ _ (by simp)];simp
 .have e:i.toNat=l.length:=Yp;rw[e]at d;simp at d;subst d;exact YH
theorem Zv5:Contract Tryz.prog cfg 103 Z3C:=by
 refine ZDa ?_;intro l kind n _ d;have d:l.length<=1000000000:=d;refine ZLn _ _ _ _ ?_;(simp only[iB,vcT,vcS]);refine⟨λh=>⟨by simp;omega,?_⟩,λh=>?_⟩;.simp only[Zen,YQ,if_pos h];(repeat'(first|exact trivial|exact rfl|apply And.intro))
 .simp only[Zen,YQ,if_neg h];(repeat'(first|exact trivial|exact rfl|apply And.intro))
theorem ZaK(x:Int):∀l:List Int,-1<=Z0n x l/\Z0n x l<l.length|[]=>by simp[Z0n]|q::r=>by have:=ZaK x r;simp only[Z0n,Qa];grind
theorem Z1N(l:List SStep)(k n:Int):(YQ l k n).length<=l.length+1:=by unfold YQ;split<;>simp
theorem ZJ3:Contract Tryz.prog cfg 104 Z9Q:=by
 refine ZD9 Zv5 ?_;intro l x b _ hp;obtain⟨h1,h2⟩:=hp;dsimp only at h1 h2;refine ZLm _ _ _ _ ?_;refine Z6 (ι:=Int) (λi=>Z7W l x b i) (λi=>0<=i/\i<=b.length/\Z0n x b=if Z0n x (b.drop i.toNat)=-1 then-1 else Z0n x (b.drop i.toNat)+i) (λi=>((b.length:Int)-i).toNat) 0 rfl ⟨Yp,Yp,by simp⟩ ?_;rintro i⟨f1,f2,d⟩;refine ZvM _ _ _ _ _ _ ?_;(simp only[iB,vcT,vcS]);have e1:=Z1N l 2 i;have e2:=Z1N (YQ l 2 i) 0 1;have e3:=Z1N l 1 1;refine⟨λhi=>?_,λhi=>?_⟩
 .rw[Yu f1 hi (0:Int),Z0n]at d;refine⟨⟨f1,hi⟩,λhe=>?_,λhe=>⟨V2,i+1,rfl,⟨Yp,Yp,?_⟩,Yp⟩⟩;.rw[if_pos he,if_neg V0]at d;have e:Z0n x b=i:=Yp;refine⟨by show l.length<=_;omega,by show(YQ l 2 i).length<=_;omega,V2,V2,by show(YQ (YQ l 2 i) 0 1).length<=_;omega,?_⟩;simp only[Zem,Zhk,e];rw[JH];exact YH
  .simp only[he,if_false]at d;have e:=ZaK x (b.drop (i+1).toNat);rw[d];by_cases hA:Z0n x (b.drop (i+1).toNat)=-1;.simp only[hA,if_true]
   .simp only[if_neg hA];rw[JH];omega
 .rw[Qb Yp]at d;have e:Z0n x b=-1:=d;refine⟨by show l.length<=_;omega,by show(YQ l 1 1).length<=_;omega,?_⟩;simp only[Zem,Zhk,e,if_true];exact YH
noncomputable section
def Ztp:ArgL (List Int×List Int×Unit):=(.cons (aSl .int) (.cons (aSl .int) .nil))
def Zkh(a:List Int×List Int×Unit):Prop:=(a.1).length<=1000000/\(a.2.1).length<=1000000
def ZwO(a:List Int×List Int×Unit):V U:=.c (sU .int (Z0K a.1 a.2.1) (.own (.r 0 0)))
def Z9L:Fs U:=fs Ztp (λa=>[Zkh a]) ZwO
def Ztu:ArgL (List Int×List Int×Int×Unit):=(.cons (aSl .int) (.cons (aSl .int) (.cons (ZR .i64) .nil)))
def Zpc(a:List Int×List Int×Int×Unit):Prop:=((a.1).length<=1000000/\(a.2.1).length<=1000000)/\0<=a.2.2.1/\a.2.2.1<=(a.1).length
def ZwS(a:List Int×List Int×Int×Unit):V U:=.c (ci (Z1W a.1 a.2.1 a.2.2.1))
def Z9P:Fs U:=fs Ztu (λa=>[Zpc a]) ZwS
def Zl9:ArgM ((List SStep×Unit)×List Int×List Int×Unit):=(.obj 0 (.cons (Z2B .sstep 0 0) .nil) (.cons (aSl .int) (.cons (aSl .int) .nil)))
def Zip(a:(List SStep×Unit)×List Int×List Int×Unit):Prop:=(a.2.1).length<=1000000/\(a.2.2.1).length<=1000000/\(a.1.1).length+3*(a.2.1).length+(a.2.2.1).length<=100000000
def ZxH(a:(List SStep×Unit)×List Int×List Int×Unit):Nat:=(a.2.1).length
def Zwn(a:(List SStep×Unit)×List Int×List Int×Unit):V U:=.tup []
def Zce(a:(List SStep×Unit)×List Int×List Int×Unit):List (List (C U)):=[[sU .sstep (Z0C a.1.1 a.2.1 a.2.2.1) (.own (.x 0 0))]]
def Zf7:Fs U:=fsX Zl9 (λa=>[Zip a]) Zwn Zce
def Ztv:ArgL (List Int×Int×Bool×Bool×Unit):=(.cons (aSl .int) (.cons (ZR .i64) (.cons ZFP (.cons ZFP .nil))))
def Zpe(a:List Int×Int×Bool×Bool×Unit):Prop:=(a.2.2.1=true\/1<=a.2.1/\a.2.1<=(a.1).length)/\(a.2.2.2.1=true\/0<=a.2.1/\a.2.1+1<(a.1).length)/\(a.1).length<=10000000/\∀p:Nat,0<=(a.1).getD p 0/\(a.1).getD p 0<=100000000
def ZwV(a:List Int×Int×Bool×Bool×Unit):V U:=.c (ci (Z4b a.1 a.2.1 a.2.2.1 a.2.2.2.1))
def Z9R:Fs U:=fs Ztv (λa=>[Zpe a]) ZwV
def Zx8(a:List Int×List Int×Int×Unit):Prop:=(a.1).length<=1000000/\(a.2.1).length<=1000000
def Zmf(a:List Int×List Int×Int×Unit):V U:=.tup [(false,[ci ((Zj0 a.1 a.2.1 a.2.2.1).1)]),(false,[.bool ((Zj0 a.1 a.2.1 a.2.2.1).2)])]
def Zf8:Fs U:=fs Ztu (λa=>[Zx8 a]) Zmf
def ZrG(a:List Int×List Int×Int×Unit):V U:=.tup [(false,[sU .sstep ((Z65 a.1 a.2.1 a.2.2.1).1) .unk]),(false,[.bool ((Z65 a.1 a.2.1 a.2.2.1).2)])]
def ZjJ:Fs U:=fs Ztu (λa=>[Zx8 a]) ZrG
def Zsl:Za U:=lvk [([0,1],[]),([0,1,(5,[.wr .int])],[]),([1,(5,[.wr .int]),16,17,18],[]),([1,(5,[.wr .int]),16,17,18,19],[]),([1,(5,[.wr .int]),7,16,17,18],[]),([1,(5,[.wr .int]),7,8,16,17,18],[]),([1,(5,[.wr .int]),7,8,16,17,18,22,23,24],[]),([1,(5,[.wr .int]),7,8,16,17,18,22,23,24,25],[]),([1,(5,[.wr .int]),7,8,9,10,16,17,18,22,23,24],[]),([1,(5,[.wr .int]),7,8,9,10,11,16,17,18,22,23,24],[]),([1,(5,[.wr .int]),7,8,9,11,16,17,18,22,23,24,36],[]),([1,(5,[.wr .int]),7,9,11,16,17,18,22,23,24],[]),([1,(5,[.wr .int]),7,8,16,17,18,22,23,24],[]),([1,(5,[.wr .int]),7,8,16,17,18,22,23,24],[]),([1,(5,[.wr .int]),16,17,18],[]),([4],[])]
def Z7S(a b:List Int)(d:Int)(re_5_0:List Int):LSt U:=(⟨[(1,.c (sU .int b .unk)),(5,.c (.mref (.e 5 0))),(16,.c (sU .int a .unk)),pI 17 (a.length:Int),pI 18 d],[],[(.e 5 0,LC.mk (U:=U) .int re_5_0 0)]⟩:LSt U)
def Z4T(a b:List Int)(ab ae aa:Int)(d:List Int):LSt U:=(⟨[(1,.c (sU .int b .unk)),(5,.c (.mref (.e 5 0))),pI 7 (a.getD ab.toNat (0:Int)),pI 8 ae,(16,.c (sU .int a .unk)),pI 17 (a.length:Int),pI 18 ab,(22,.c (sU .int b .unk)),pI 23 (b.length:Int),pI 24 aa],[],[(.e 5 0,LC.mk (U:=U) .int d 0)]⟩:LSt U)
abbrev ZAY(p:List Nat):=AW (Z0Z Zqj) Tryz.f112 Zsl p
abbrev Zvi(p:List Nat):=SW (Z0Z Zqj) Tryz.f112 Zsl p
theorem ZLf(a b:List Int)(Q:QT)(h:((InR (((b.length:Int):Int)+1))/\((0:Int)<=((b.length:Int):Int)+1/\((((b.length:Int):Int)+1):Int)*((8:Nat):Int)<=140737488355328/\(((b.length:Int):Int)+1:Int)<=9223372036854775807)/\((((b.length:Int):Int)+1:Int)=(((b.length:Int):Int)+1))/\(Zk (ZAY [1,1,0,1,0,0]) (Z7S a b 0 (List.replicate (Int.toNat (((b.length:Int):Int)+1)) (0:Int))) (xB 0 (Zvi [1,1,1] Q))))):ZAY [] (L2 [(0,.c (sU .int a .unk)),(1,.c (sU .int b .unk))] []) Q:=(Eq.mpr V3 h:)
theorem ZvD(a b:List Int)(d:Int)(re_5_0:List Int)(N0:NT)(Q:QT)(h:(iB (decide (d<(a.length:Int))) (((0:Int)<=d/\d<(a.length:Int))/\(Zk (ZAY [1,1,0,1,0,0,1,1,0,0,1,1,1,0,0]) (Z4T a b d 0 0 re_5_0) (xB 2 (xB 1 (Zvi [1,1,0,1,0,0,1,1,1] (xT N0 (xB 0 (Zvi [1,1,1] Q)))))))) ((Q .ret (L2 [(4,.c (sU .int re_5_0 (.own (.e 4 0))))] []))))):ZAY [1,1,0,1,0,0] (Z7S a b d re_5_0) (xT N0 (xB 0 (Zvi [1,1,1] Q))):=(Eq.mpr V3 h:)
theorem ZvC(a b:List Int)(ae ah d:Int)(aa:List Int)(N1 N0:NT)(Q:QT)(h:∀af,af=(List.getD aa (Int.toNat (d+1)) (0:Int))->∀ab,ab=(List.set aa (Int.toNat (d+1)) (ah+1))->let z2:=ab.getD d.toNat (0:Int);let z1:=aa.getD d.toNat (0:Int);let z0:=List.getD ab (Int.toNat (d+1)) (0:Int);(iB (decide (d<(b.length:Int))) (((0:Int)<=d/\d<(b.length:Int))/\((InR (d+1))/\((0:Int)<=(d+1)/\(d+1)<(aa.length:Int))/\(iB (((a.getD ae.toNat (0:Int)):Int)==(b.getD d.toNat (0:Int))) ((InR (d+1))/\(InR (ah+1))/\((0:Int)<=(d+1)/\(d+1)<(aa.length:Int))/\((0:Nat)<=(Int.toNat (d+1)))/\((InR (d+1))/\(InR (d+1))/\((0:Int)<=(d+1)/\(d+1)<(ab.length:Int))/\((0:Int)<=d/\d<(ab.length:Int))/\((0:Int)<=(d+1)/\(d+1)<(ab.length:Int))/\((0:Nat)<=(Int.toNat (d+1)))/\((InR (d+1))/\(N1 (Z4T a b ae af (d+1) (List.set ab (Int.toNat (d+1)) (if(z0:Int)<z2 then z2 else z0))))))) ((InR (d+1))/\(InR (d+1))/\((0:Int)<=(d+1)/\(d+1)<(aa.length:Int))/\((0:Int)<=d/\d<(aa.length:Int))/\((0:Int)<=(d+1)/\(d+1)<(aa.length:Int))/\((0:Nat)<=(Int.toNat (d+1)))/\((InR (d+1))/\(N1 (Z4T a b ae af (d+1) (List.set aa (Int.toNat (d+1)) (if af<z1 then z1 else af))))))))) ((InR (ae+1))/\(N0 (Z7S a b (ae+1) aa))))):ZAY [1,1,0,1,0,0,1,1,0,0,1,1,1,0,0] (Z4T a b ae ah d aa) (xT N1 (xB 2 (xB 1 (Zvi [1,1,0,1,0,0,1,1,1] (xT N0 (xB 0 (Zvi [1,1,1] Q))))))):=(Eq.mpr V3 (h _ rfl _ rfl):)
abbrev ZEz(a b:List Int):Prop:=AW (Z0Z Zqj) Tryz.f112 Zsl [] (Zg (Ztp.can (a,b,())) []) (EQ Tryz.f112 (ZwO (a,b,())) [])
theorem ZD2(hb:∀(a:List Int)(b:List Int)(_:Unit),Zkh (a,b,())->ZEz a b):CT 112 Z9L:=Z1K (l:=[]) Zf rfl trivial Zsl Tryz.func112 rfl rfl 2 (λ_=>rfl) V0 (λ⟨a,b,_⟩=>hb a b ())
def ZkL:List (FuncId×Fs U):=[(112,Z9L),(113,Z9K)]
def Zsp:Za U:=lvl [([0,1,2],[]),([1,7,8],[]),([1,7,8,9],[]),([1,7,8,9,24,25],[]),([1,7,8,9,24,25,26],[]),([1,7,8,9,10,24,25],[]),([1,7,8,9,10,24,25,52],[]),([1,7,8,9,24,25],[]),([1,7,8,9,24,25],[]),([6],[])]
def Z4Y(a b:List Int)(half d x9:Int):LSt U:=(L2 [(1,.c (sU .int b .unk)),(7,.c (sU .int (Z0K (List.take half.toNat a) b) (.own (.e 7 0)))),(8,.c (sU .int (Z0K ((List.drop half.toNat a).reverse) (b.reverse)) (.own (.e 8 0)))),pI 9 x9,pI 24 ((Z0K (List.take half.toNat a) b).length:Int),pI 25 d] [])
abbrev ZKR(p:List Nat):=AW (Z2 ZkL) Tryz.f105 Zsp p
abbrev ZMa(p:List Nat):=SW (Z2 ZkL) Tryz.f105 Zsp p
theorem ZLl(a b:List Int)(half:Int)(Q:QT)(h:(((0:Int)<=half/\half<=(a.length:Int))/\(Zkh ((List.take half.toNat a),b,()))/\((0:Int)<=half/\half<=(a.length:Int))/\(ZoZ ((List.drop half.toNat a),()))/\(ZoZ (b,()))/\(Zkh (((List.drop half.toNat a).reverse),(b.reverse),()))/\(Zk (ZKR [1,1,1,0,1,0,0]) (Z4Y a b half 0 0) (xB 0 (ZMa [1,1,1,1] Q))))):ZKR [] (L2 [(0,.c (sU .int a .unk)),(1,.c (sU .int b .unk)),pI 2 half] []) Q:=(Eq.mpr V3 h:)
theorem ZvL(a b:List Int)(half d x9:Int)(N0:NT)(Q:QT)(h:∀aa,aa=(Z0K ((List.drop half.toNat a).reverse) (b.reverse))->∀ai,ai=(List.getD (Z0K (List.take half.toNat a) b) x9.toNat (0:Int))->∀ah,ah=(List.getD (Z0K (List.take half.toNat a) b) d.toNat (0:Int))->∀af,af=(List.getD aa (Int.toNat (((b.length:Int):Int)-x9)) (0:Int))->∀ae,ae=(List.getD aa (Int.toNat (((b.length:Int):Int)-d)) (0:Int))->let z0:=Z0K (List.take half.toNat a) b;(iB (decide (d<(z0.length:Int))) ((((0:Int)<=d/\d<(z0.length:Int))/\(InR (((b.length:Int):Int)-d))/\((0:Int)<=(((b.length:Int):Int)-d)/\(((b.length:Int):Int)-d)<(aa.length:Int))/\(InR (ah+ae))/\((0:Int)<=x9/\x9<(z0.length:Int))/\(InR (((b.length:Int):Int)-x9))/\((0:Int)<=(((b.length:Int):Int)-x9)/\(((b.length:Int):Int)-x9)<(aa.length:Int))/\(InR (ai+af))/\(iB (decide (((ai+af):Int)<(ah+ae))) (((InR (d+1))/\(N0 (Z4Y a b half (d+1) d)))) ((InR (d+1))/\(N0 (Z4Y a b half (d+1) x9)))))) ((Q .ret (L2 [pI 6 x9] []))))):ZKR [1,1,1,0,1,0,0] (Z4Y a b half d x9) (xT N0 (xB 0 (ZMa [1,1,1,1] Q))):=(Eq.mpr V3 (h _ rfl _ rfl _ rfl _ rfl _ rfl):)
abbrev ZEF(a b:List Int)(half:Int):Prop:=AW (Z2 ZkL) Tryz.f105 Zsp [] (Zg (Ztu.can (a,b,half,())) []) (EQ Tryz.f105 (ZwS (a,b,half,())) [])
theorem ZD8(ZIW:CT 112 Z9L)(ZIV:CT 113 Z9K)(hb:∀(a:List Int)(b:List Int)(d:Int)(_:Unit),Zpc (a,b,d,())->ZEF a b d):CT 105 Z9P:=Z1 (l:=[(112,Z9L),(113,Z9K)]) Zf rfl (⟨ZIW,ZIV,trivial⟩) Zsp Tryz.func105 rfl rfl 3 (λ_=>rfl) V0 (λ⟨a,b,d,_⟩=>hb a b d ())
def ZyH(N:Nat):List (FuncId×Fs U):=(83,fsX Zl9 (λa=>[Zip a,ZxH a<N]) Zwn Zce)::[(103,Z3C),(104,Z9Q),(105,Z9P)]
def ZHN:Za U:=lvk [([0,1,2,6],[((.x 0),[])]),([0,1,2,6,7],[((.x 0),[])]),([0,1,2,6,7],[((.x 0),[])]),([],[((.x 0),[])]),([0,1,2,31],[((.x 0),[])]),([0,2],[((.x 0),[])]),([],[((.x 0),[])]),([0,1,2,48],[((.x 0),[])]),([],[((.x 0),[])])]
abbrev A83(N:Nat)(p:List Nat):=AW (Z2 (ZyH N)) Tryz.f83 ZHN p
theorem ZMZ(N:Nat)(l:List SStep)(a b:List Int)(Q:QT)(h:∀aa,aa=(Int.toNat (IntKind.wrap .i64 (Int.tdiv (a.length:Int) 2)))->∀d,d=(Z1W a b (IntKind.wrap .i64 (Int.tdiv (a.length:Int) 2)))->let z5:=List.getD a (Int.toNat 0) (0:Int);let z4:=List.drop d.toNat b;let z3:=List.take d.toNat b;let z2:=Z0C l (List.take aa a) z3;let z1:=((a.length:Int):Int)==0;let z0:=IntKind.wrap .i64 (Int.tdiv (a.length:Int) 2);(Tt (!z1))/\(Tt (!z1))/\(z1=false->(!z1)=true)/\(iB (bif z1 then true else(((b.length:Int):Int)==0)) ((Z5q ((l,()),1,(a.length:Int),()))/\((Z5q (((YQ l 1 (a.length:Int)),()),2,(b.length:Int),()))/\(Q .normal (L2 [] [(.x 0,[sU .sstep (YQ (YQ l 1 (a.length:Int)) 2 (b.length:Int)) (.own (.x 0 0))])])))) ((iB (((a.length:Int):Int)==1) (((0:Int)<=0/\0<(a.length:Int))/\(Zpd ((l,()),z5,b,()))/\(Q .normal (L2 [] [(.x 0,[sU .sstep (Zhk l z5 b) (.own (.x 0 0))])]))) (((2:Int)≠0)/\((Zpc (a,b,z0,()))/\(((0:Int)<=z0/\z0<=(a.length:Int))/\((0:Int)<=d/\d<=(b.length:Int))/\(Zip ((l,()),(List.take aa a),z3,()))/\(ZxH ((l,()),(List.take aa a),z3,())<N)/\(((0:Int)<=z0/\z0<=(a.length:Int))/\((0:Int)<=d/\d<=(b.length:Int))/\(Zip ((z2,()),(List.drop aa a),z4,()))/\(ZxH ((z2,()),(List.drop aa a),z4,())<N)/\(Q .normal (L2 [] [(.x 0,[sU .sstep (Z0C z2 (List.drop aa a) z4) (.own (.x 0 0))])])))))))))):A83 N [] (L2 [(0,.ptr (.x 0) 0),(1,.c (sU .int a .unk)),(2,.c (sU .int b .unk))] [(.x 0,[sU .sstep l (.own (.x 0 0))])]) Q:=(Eq.mpr V3 (h _ rfl _ rfl):)
abbrev ZJF(N:Nat)(l:List SStep)(a b:List Int):Prop:=AW (Z2 (ZyH N)) Tryz.f83 ZHN [] (Zg (Zl9.can ((l,()),a,b,())) (Zl9.canX ((l,()),a,b,()))) (EQ Tryz.f83 (Zwn ((l,()),a,b,())) (Zce ((l,()),a,b,())))
theorem ZGP(Zv5:CT 103 Z3C)(ZJ3:CT 104 Z9Q)(ZJ2:CT 105 Z9P)(hb:∀(N:Nat)(l:List SStep)(a:List Int)(b:List Int)(_:Unit),Zip ((l,()),a,b,())->ZxH ((l,()),a,b,())<N+1->ZJF N l a b):CT 83 Zf7:=Zhv (μ:=ZxH) (l:=[(103,Z3C),(104,Z9Q),(105,Z9P)]) Zf rfl (⟨Zv5,ZJ3,ZJ2,trivial⟩) ZHN Tryz.func83 rfl rfl 3 (λ_=>rfl) V0 (λN⟨⟨l,_⟩,a,b,_⟩=>hb N l a b ())
def Zyg:Za U:=lvl [([0,1,2,3],[]),([0,1,2,3,9],[]),([8],[]),([0,1,14],[]),([8],[]),([8],[])]
abbrev ZOr(p:List Nat):=AW (Z2 Zqj) Tryz.f102 Zyg p
theorem ZLo(far:List Int)(at_:Int)(lo hi:Bool)(Q:QT)(h:let z1:=List.getD far (Int.toNat (at_+1)) (0:Int);let z0:=List.getD far (Int.toNat (at_-1)) (0:Int);((Tt lo)/\(iB (bif lo then hi else false) ((Q .ret (L2 [pI 8 0] []))) ((Tt (!lo))/\(Tt (!lo))/\(Tt ((!lo)&&(!hi)))/\(((!lo)&&(!hi))=true->InR (at_-1))/\(Tt ((!lo)&&(!hi)))/\(Tt ((!lo)&&(!hi)))/\(((!lo)&&(!hi))=true->(0:Int)<=(at_-1)/\(at_-1)<(far.length:Int))/\(Tt ((!lo)&&(!hi)))/\(Tt ((!lo)&&(!hi)))/\(((!lo)&&(!hi))=true->InR (at_+1))/\(Tt ((!lo)&&(!hi)))/\(Tt ((!lo)&&(!hi)))/\(((!lo)&&(!hi))=true->(0:Int)<=(at_+1)/\(at_+1)<(far.length:Int))/\(Tt ((!lo)&&(!hi)))/\(Tt ((!lo)&&(!hi)))/\(Tt ((!lo)&&(!hi)))/\((!lo)=true->(True->(!lo)=true))/\((!lo)=true->((!hi)=true->((!lo)&&(!hi))=true))/\(lo=false->(!lo)=true)/\(iB (bif lo then true else(bif(!hi)then(decide ((z0:Int)<z1))else false)) ((InR (at_+1))/\((0:Int)<=(at_+1)/\(at_+1)<(far.length:Int))/\(Q .ret (L2 [pI 8 z1] []))) ((InR (at_-1))/\((0:Int)<=(at_-1)/\(at_-1)<(far.length:Int))/\(InR ((z0:Int)+1))/\(Q .ret (L2 [(8,.c (ci ((z0:Int)+1)))] [])))))))):ZOr [] (L2 [(0,.c (sU .int far .unk)),pI 1 at_,pB 2 lo,pB 3 hi] []) Q:=(Eq.mpr V3 h:)
abbrev ZEI(far:List Int)(at_:Int)(lo hi:Bool):Prop:=AW (Z2 Zqj) Tryz.f102 Zyg [] (Zg (Ztv.can (far,at_,lo,hi,())) []) (EQ Tryz.f102 (ZwV (far,at_,lo,hi,())) [])
theorem ZDb(hb:∀(d:List Int)(at_:Int)(lo:Bool)(hi:Bool)(_:Unit),Zpe (d,at_,lo,hi,())->ZEI d at_ lo hi):CT 102 Z9R:=Z1 (l:=[]) Zf rfl trivial Zyg Tryz.func102 rfl rfl 4 (λ_=>rfl) V0 (λ⟨d,at_,lo,hi,_⟩=>hb d at_ lo hi ())
def ZpW:List (FuncId×Fs U):=[(102,Z9R.lend)]
def ZDh:Za U:=lvk [([0,1,2],[]),([0,1,2,8,9],[]),([0,1,2,8,9],[]),([0,1,2,8,9,40],[]),([6,7],[]),([0,1,2,8,9,(10,[.wr .int])],[]),([0,1,2,8,9,(10,[.wr .int]),11],[]),([0,1,2,8,9,(10,[.wr .int]),11,47],[]),([0,1,2,8,9,(10,[.wr .int]),11],[]),([0,1,2,8,9,(10,[.wr .int]),11,12],[]),([0,1,2,8,9,(10,[.wr .int]),11,12,54],[]),([0,1,2,8,9,(10,[.wr .int]),11,12],[]),([0,1,2,8,9,(10,[.wr .int]),11,12,13],[]),([0,1,2,8,9,(10,[.wr .int]),11,12,13,14],[]),([0,1,2,8,9,(10,[.wr .int]),11,12,13,14,99],[]),([0,1,2,8,9,(10,[.wr .int]),11,12,13,14],[]),([0,1,2,8,9,(10,[.wr .int]),11,12,13,14],[]),([0,1,2,8,9,(10,[.wr .int]),11,12,118],[]),([6,7],[]),([6,7],[])]
def ZaR(a b:List Int)(most d:Int)(re_10_0:List Int):LSt U:=(⟨[(0,.c (sU .int a .unk)),(1,.c (sU .int b .unk)),(2,.c (ci (if((((a.length:Int):Int)+(b.length:Int)):Int)<(if(most:Int)<(-1)then(-1)else most)then(((a.length:Int):Int)+(b.length:Int))else(if(most:Int)<(-1)then(-1)else most)))),pI 8 (a.length:Int),pI 9 (b.length:Int),(10,.c (.mref (.e 10 0))),pI 11 d],[],[(.e 10 0,LC.mk (U:=U) .int re_10_0 0)]⟩:LSt U)
def ZaQ(a b:List Int)(most ab aa:Int)(d:List Int):LSt U:=(⟨[(0,.c (sU .int a .unk)),(1,.c (sU .int b .unk)),(2,.c (ci (if((((a.length:Int):Int)+(b.length:Int)):Int)<(if(most:Int)<(-1)then(-1)else most)then(((a.length:Int):Int)+(b.length:Int))else(if(most:Int)<(-1)then(-1)else most)))),pI 8 (a.length:Int),pI 9 (b.length:Int),(10,.c (.mref (.e 10 0))),pI 11 ab,pI 12 aa],[],[(.e 10 0,LC.mk (U:=U) .int d 0)]⟩:LSt U)
def ZaP(a b:List Int)(most af aa:Int)(d:List Int)(ab ae:Int):LSt U:=(⟨[(0,.c (sU .int a .unk)),(1,.c (sU .int b .unk)),(2,.c (ci (if((((a.length:Int):Int)+(b.length:Int)):Int)<(if(most:Int)<(-1)then(-1)else most)then(((a.length:Int):Int)+(b.length:Int))else(if(most:Int)<(-1)then(-1)else most)))),pI 8 (a.length:Int),pI 9 (b.length:Int),(10,.c (.mref (.e 10 0))),pI 11 af,pI 12 aa,pI 13 ab,pI 14 ae],[],[(.e 10 0,LC.mk (U:=U) .int d 0)]⟩:LSt U)
abbrev A82(p:List Nat):=AW (Z0Z ZpW) Tryz.f82 ZDh p
abbrev S82(p:List Nat):=SW (Z0Z ZpW) Tryz.f82 ZDh p
theorem ZN0(a b:List Int)(most:Int)(Q:QT)(h:let z1:=decide (((if((((a.length:Int):Int)+(b.length:Int)):Int)<(if most<(-1)then(-1)else most)then(((a.length:Int):Int)+(b.length:Int))else(if most<(-1)then(-1)else most)):Int)<0);let z0:=bif z1 then true else(decide (((if((((a.length:Int):Int)+(b.length:Int)):Int)<(if most<(-1)then(-1)else most)then(((a.length:Int):Int)+(b.length:Int))else(if most<(-1)then(-1)else most)):Int)<(((a.length:Int):Int)-(b.length:Int))));((InR (((a.length:Int):Int)+(b.length:Int)))/\((Tt (!z1))/\(Tt (!z1))/\((!z1)=true->InR (((a.length:Int):Int)-(b.length:Int)))/\(Tt (!z1))/\(Tt (!z1))/\(z1=false->(!z1)=true)/\(Tt (!z0))/\(Tt (!z0))/\((!z0)=true->InR (((b.length:Int):Int)-(a.length:Int)))/\(Tt (!z0))/\(Tt (!z0))/\(z0=false->(!z0)=true)/\(iB (bif z0 then true else(decide (((if((((a.length:Int):Int)+(b.length:Int)):Int)<(if most<(-1)then(-1)else most)then(((a.length:Int):Int)+(b.length:Int))else(if most<(-1)then(-1)else most)):Int)<(((b.length:Int):Int)-(a.length:Int))))) ((Q .ret (L2 [pI 6 0,pB 7 false] []))) ((InR ((2:Int)*(if((((a.length:Int):Int)+(b.length:Int)):Int)<(if most<(-1)then(-1)else most)then(((a.length:Int):Int)+(b.length:Int))else(if most<(-1)then(-1)else most))))/\(InR ((((2:Int)*(if((((a.length:Int):Int)+(b.length:Int)):Int)<(if most<(-1)then(-1)else most)then(((a.length:Int):Int)+(b.length:Int))else(if most<(-1)then(-1)else most))):Int)+3))/\((0:Int)<=(((2:Int)*(if((((a.length:Int):Int)+(b.length:Int)):Int)<(if most<(-1)then(-1)else most)then(((a.length:Int):Int)+(b.length:Int))else(if most<(-1)then(-1)else most))):Int)+3/\(((((2:Int)*(if((((a.length:Int):Int)+(b.length:Int)):Int)<(if most<(-1)then(-1)else most)then(((a.length:Int):Int)+(b.length:Int))else(if most<(-1)then(-1)else most))):Int)+3):Int)*((8:Nat):Int)<=140737488355328/\((((2:Int)*(if((((a.length:Int):Int)+(b.length:Int)):Int)<(if most<(-1)then(-1)else most)then(((a.length:Int):Int)+(b.length:Int))else(if most<(-1)then(-1)else most))):Int)+3:Int)<=9223372036854775807)/\(((((2:Int)*(if((((a.length:Int):Int)+(b.length:Int)):Int)<(if most<(-1)then(-1)else most)then(((a.length:Int):Int)+(b.length:Int))else(if most<(-1)then(-1)else most))):Int)+3:Int)=((((2:Int)*(if((((a.length:Int):Int)+(b.length:Int)):Int)<(if most<(-1)then(-1)else most)then(((a.length:Int):Int)+(b.length:Int))else(if most<(-1)then(-1)else most))):Int)+3))/\(Zk (A82 [1,1,1,1,1,0,1,0,0]) (ZaR a b most 0 (List.replicate (Int.toNat ((((2:Int)*(if((((a.length:Int):Int)+(b.length:Int)):Int)<(if most<(-1)then(-1)else most)then(((a.length:Int):Int)+(b.length:Int))else(if most<(-1)then(-1)else most))):Int)+3)) (0:Int))) (xB 0 (S82 [1,1,1,1,1,1] Q)))))))):A82 [] (L2 [(0,.c (sU .int a .unk)),(1,.c (sU .int b .unk)),pI 2 most] []) Q:=(Eq.mpr V3 h:)
theorem ZBe(a b:List Int)(most d:Int)(re_10_0:List Int)(N0:NT)(Q:QT)(h:(iB (decide (d<=(if((((a.length:Int):Int)+(b.length:Int)):Int)<(if most<(-1)then(-1)else most)then(((a.length:Int):Int)+(b.length:Int))else(if most<(-1)then(-1)else most)))) ((InR (-d))/\(Zk (A82 [1,1,1,1,1,0,1,0,0,1,0,0,1,0,0]) (ZaQ a b most d (-d) re_10_0) (xB 2 (xB 1 (S82 [1,1,1,1,1,0,1,0,0,1,1] (xT N0 (xB 0 (S82 [1,1,1,1,1,1] Q)))))))) ((Q .ret (L2 [pI 6 0,pB 7 false] []))))):A82 [1,1,1,1,1,0,1,0,0] (ZaR a b most d re_10_0) (xT N0 (xB 0 (S82 [1,1,1,1,1,1] Q))):=(Eq.mpr V3 h:)
theorem ZBd(a b:List Int)(most ab d:Int)(aa:List Int)(N1 N0:NT)(Q:QT)(h:∀ae,ae=(Z4b aa (((((if((((a.length:Int):Int)+(b.length:Int)):Int)<(if most<(-1)then(-1)else most)then(((a.length:Int):Int)+(b.length:Int))else(if most<(-1)then(-1)else most)):Int)+1):Int)+d) (d==(-ab)) (d==ab))->(iB (decide (d<=ab)) ((InR (((if((((a.length:Int):Int)+(b.length:Int)):Int)<(if most<(-1)then(-1)else most)then(((a.length:Int):Int)+(b.length:Int))else(if most<(-1)then(-1)else most)):Int)+1))/\(InR (((((if((((a.length:Int):Int)+(b.length:Int)):Int)<(if most<(-1)then(-1)else most)then(((a.length:Int):Int)+(b.length:Int))else(if most<(-1)then(-1)else most)):Int)+1):Int)+d))/\(InR (-ab))/\(Zpe (aa,(((((if((((a.length:Int):Int)+(b.length:Int)):Int)<(if most<(-1)then(-1)else most)then(((a.length:Int):Int)+(b.length:Int))else(if most<(-1)then(-1)else most)):Int)+1):Int)+d),(d==(-ab)),(d==ab),()))/\((InR (ae-d))/\(Zk (A82 [1,1,1,1,1,0,1,0,0,1,0,0,1,0,0,1,0,0,1,1,0,0,0]) (ZaP a b most ab d aa ae (ae-d)) (xB 4 (S82 [1,1,1,1,1,0,1,0,0,1,0,0,1,0,0,1,0,0,1,1,1] (xB 3 (S82 [1,1,1,1,1,0,1,0,0,1,0,0,1,0,0,1,1] (xT N1 (xB 2 (xB 1 (S82 [1,1,1,1,1,0,1,0,0,1,1] (xT N0 (xB 0 (S82 [1,1,1,1,1,1] Q)))))))))))))) ((InR (ab+1))/\(N0 (ZaR a b most (ab+1) aa))))):A82 [1,1,1,1,1,0,1,0,0,1,0,0,1,0,0] (ZaQ a b most ab d aa) (xT N1 (xB 2 (xB 1 (S82 [1,1,1,1,1,0,1,0,0,1,1] (xT N0 (xB 0 (S82 [1,1,1,1,1,1] Q))))))):=(Eq.mpr V3 (h _ rfl):)
theorem ZBc(a b:List Int)(most af aa:Int)(ab:List Int)(d ae:Int)(N2 N1 N0:NT)(Q:QT)(h:let z4:=decide (d<(a.length:Int));let z2:=decide (((a.length:Int):Int)<=d);let z1:=bif z4 then(decide (ae<(b.length:Int)))else false;let z3:=bif z1 then(decide ((0:Int)<=d))else false;let z0:=bif z3 then(decide ((0:Int)<=ae))else false;(Tt z4)/\(Tt z4)/\(Tt z4)/\(Tt z1)/\(Tt z1)/\(Tt z3)/\(Tt z3)/\(Tt z0)/\(Tt z0)/\(z0=true->(0:Int)<=d/\d<(a.length:Int))/\(Tt z0)/\(Tt z0)/\(Tt z0)/\(z0=true->(0:Int)<=ae/\ae<(b.length:Int))/\(Tt z0)/\(Tt z0)/\(Tt z0)/\(Tt z0)/\(iB (bif z0 then(((a.getD d.toNat (0:Int)):Int)==(b.getD ae.toNat (0:Int)))else false) ((InR (d+1))/\(InR (ae+1))/\(N2 (ZaP a b most af aa ab (d+1) (ae+1)))) ((InR (((if((((a.length:Int):Int)+(b.length:Int)):Int)<(if most<(-1)then(-1)else most)then(((a.length:Int):Int)+(b.length:Int))else(if most<(-1)then(-1)else most)):Int)+1))/\(InR (((((if((((a.length:Int):Int)+(b.length:Int)):Int)<(if most<(-1)then(-1)else most)then(((a.length:Int):Int)+(b.length:Int))else(if most<(-1)then(-1)else most)):Int)+1):Int)+aa))/\((0:Int)<=(((((if((((a.length:Int):Int)+(b.length:Int)):Int)<(if most<(-1)then(-1)else most)then(((a.length:Int):Int)+(b.length:Int))else(if most<(-1)then(-1)else most)):Int)+1):Int)+aa)/\(((((if((((a.length:Int):Int)+(b.length:Int)):Int)<(if most<(-1)then(-1)else most)then(((a.length:Int):Int)+(b.length:Int))else(if most<(-1)then(-1)else most)):Int)+1):Int)+aa)<(ab.length:Int))/\((0:Nat)<=(Int.toNat (((((if((((a.length:Int):Int)+(b.length:Int)):Int)<(if most<(-1)then(-1)else most)then(((a.length:Int):Int)+(b.length:Int))else(if most<(-1)then(-1)else most)):Int)+1):Int)+aa)))/\((Tt z2)/\(Tt z2)/\(Tt z2)/\(iB (bif z2 then(decide (((b.length:Int):Int)<=ae))else false) ((Q .ret (L2 [pI 6 af,pB 7 true] []))) ((InR (aa+2))/\(N1 (ZaQ a b most af (aa+2) (List.set ab (Int.toNat (((((if((((a.length:Int):Int)+(b.length:Int)):Int)<(if most<(-1)then(-1)else most)then(((a.length:Int):Int)+(b.length:Int))else(if most<(-1)then(-1)else most)):Int)+1):Int)+aa)) d))))))))):A82 [1,1,1,1,1,0,1,0,0,1,0,0,1,0,0,1,0,0,1,1,0,0,0] (ZaP a b most af aa ab d ae) (xT N2 (xB 4 (S82 [1,1,1,1,1,0,1,0,0,1,0,0,1,0,0,1,0,0,1,1,1] (xB 3 (S82 [1,1,1,1,1,0,1,0,0,1,0,0,1,0,0,1,1] (xT N1 (xB 2 (xB 1 (S82 [1,1,1,1,1,0,1,0,0,1,1] (xT N0 (xB 0 (S82 [1,1,1,1,1,1] Q)))))))))))):=(Eq.mpr V3 h:)
abbrev ZJG(a b:List Int)(most:Int):Prop:=AW (Z0Z ZpW) Tryz.f82 ZDh [] (Zg (Ztu.can (a,b,most,())) []) (EQ Tryz.f82 (Zmf (a,b,most,())) [])
theorem ZGQ(ZJ4:CT 102 Z9R)(hb:∀(a:List Int)(b:List Int)(d:Int)(_:Unit),Zx8 (a,b,d,())->ZJG a b d):CT 82 Zf8:=Z1K (l:=[(102,Z9R.lend)]) Zf rfl (⟨ZJ4.lend,trivial⟩) ZDh Tryz.func82 rfl rfl 3 (λ_=>rfl) V0 (λ⟨a,b,d,_⟩=>hb a b d ())
def ZyN:List (FuncId×Fs U):=[(82,Zf8),(83,Zf7),(68,Z8B)]
def ZHT:Za U:=lvl [([0,1,2],[]),([0,1,9],[]),([0,1,19],[]),([6,7],[]),([0,1,10],[21]),([10],[21]),([6,7],[])]
abbrev A67(p:List Nat):=AW (Z2 ZyN) Tryz.f67 ZHT p
theorem ZNd(a b:List Int)(most:Int)(Q:QT)(h:((Zx8 (a,b,most,()))/\(iB (!((Zj0 a b most).2)) ((Q .ret (L2 [(6,.c (.nils)),pB 7 false] []))) (((Zip ((([]:List SStep),()),a,b,()))/\((ZrZ ((Z0C ([]:List SStep) a b),()))/\(Q .ret (L2 [(6,.c (sU .sstep (Z61 (Z0C ([]:List SStep) a b)) (.own (.e 6 0)))),pB 7 true] [])))))))):A67 [] (L2 [(0,.c (sU .int a .unk)),(1,.c (sU .int b .unk)),pI 2 most] []) Q:=(Eq.mpr V3 h:)
abbrev ZJT(a b:List Int)(most:Int):Prop:=AW (Z2 ZyN) Tryz.f67 ZHT [] (Zg (Ztu.can (a,b,most,())) []) (EQ Tryz.f67 (ZrG (a,b,most,())) [])
theorem ZH2(c82:CT 82 Zf8)(c83:CT 83 Zf7)(c68:CT 68 Z8B)(hb:∀(a:List Int)(b:List Int)(d:Int)(_:Unit),Zx8 (a,b,d,())->ZJT a b d):CT 67 ZjJ:=Z1 (l:=[(82,Zf8),(83,Zf7),(68,Z8B)]) Zf rfl (⟨c82,c83,c68,trivial⟩) ZHT Tryz.func67 rfl rfl 3 (λ_=>rfl) V0 (λ⟨a,b,d,_⟩=>hb a b d ())
end
theorem ZgH{l:List Int}{i j:Nat}{x:Int}:(l.set i x).getD j 0=if i=j/\i<l.length then x else l.getD j 0:=by grind
def Zhe(s:List Int×Int)(n:Nat)(c:Int):Prop:=s.1.length=n/\(∀p:Nat,0<=s.1.getD p 0/\s.1.getD p 0<=c)/\0<=s.2/\s.2<=c
theorem Zrm{s:List Int×Int}{n:Nat}{c:Int}(h:Zhe s n c)(x y j:Int):Zhe (ZoE x y j s) n (c+1):=by
 obtain⟨h1,d,h3,h4⟩:=h;have w:∀p:Nat,0<=(if x=y then s.1.set (j+1).toNat (s.2+1)else s.1).getD p 0/\(if x=y then s.1.set (j+1).toNat (s.2+1)else s.1).getD p 0<=c+1:=by
  intro p;have:=d p;split;.rw[ZgH];split<;>omega
  .omega
 have w5:(if x=y then s.1.set (j+1).toNat (s.2+1)else s.1).length=n:=by split<;>simp[h1]
 have w6:=d (j+1).toNat;simp only[ZoE];generalize(if x=y then s.1.set (j+1).toNat (s.2+1)else s.1)=o at w w5;refine⟨by simp[w5],λp=>?_,V1,V1⟩;have w1:=w (j+1).toNat;have w2:=w j.toNat;have w3:=w p;simp only[ZgH];split<;>omega
theorem ZhT(x:Int):∀(b:List Int)(j:Int)(s:List Int×Int)(n:Nat)(c:Int),Zhe s n c->Zhe (Z38 x b j s) n (c+b.length)|[],_,s,n,c,h=>by simpa[Z38]using h|y::r,j,s,n,c,h=>by rw[Z38];have:=ZhT x r (j+1) _ n _ (Zrm h x y j);rwa[show c+((y::r).length:Nat)=c+1+(r.length:Nat)by simp;omega]
theorem ZhU{s:List Int×Int}{n:Nat}{c:Int}(h:Zhe s n c):Zhe (s.1,0) n c:=⟨h.1,h.2.1,QY 0,by have:=h.2.2;dsimp only;omega⟩
theorem ZlZ(b:List Int)(n:Nat):∀(a:List Int)(o:List Int)(c:Int),Zhe (o,0) n c->Zhe (a.foldl (λout x=>(Z38 x b 0 (out,0)).1) o,0) n (c+a.length*b.length)|[],o,c,h=>by simpa using h|x::r,o,c,h=>by have:=ZlZ b n r _ _ (ZhU (ZhT x b 0 _ n c h));rw[QV];rw[show c+((x::r).length:Nat)*(b.length:Int)=c+b.length+(r.length:Nat)*(b.length:Int)by simp[Int.add_mul];omega];exact this
theorem ZEQ(a b:List Int):Zhe (Z0K a b,0) (b.length+1) (a.length*b.length):=by unfold Z0K;have:=ZlZ b (b.length+1) a (List.replicate (b.length+1) 0) 0 ⟨by simp,λp=>by simp[Q6,Xz];split<;>simp,by simp,by simp⟩;simpa using this
theorem Zkc{a b:Nat}(h1:a<=1000000)(h2:b<=1000000):(a:Int)*b<=1000000000000:=by have h:=Int.ofNat_le.2 (Nat.mul_le_mul h1 h2);rw[Ky]at h;omega
theorem ZxO(a b:Int):(if a<b then b else a)=max a b:=Yp
theorem ZIW:Contract Tryz.prog cfg 112 Z9L:=by
 refine ZD2 ?_;intro a b _ hp;obtain⟨h1,h2⟩:=hp;dsimp only at h1 h2;refine ZLf _ _ _ ⟨by dsimp only;unfold InR;omega,⟨V1,V1,V1⟩,rfl,?_⟩;refine Z6 (ι:=Int×List Int) (λs=>Z7S a b s.1 s.2) (λs=>(0<=s.1/\s.1<=a.length)/\Zhe (s.2,0) (b.length+1) (s.1*b.length)/\Z0K a b=(a.drop s.1.toNat).foldl (λout x=>(Z38 x b 0 (out,0)).1) s.2) (λs=>((a.length:Int)-s.1).toNat) (0,List.replicate (b.length+1) 0) rfl ⟨⟨Yp,Yp⟩,⟨by simp,λp=>by simp[Q6,Xz];split<;>simp,by simp,by simp⟩,by simp[Z0K]⟩ ?_;rintro⟨i,o⟩⟨⟨f1,f2⟩,f3,f4⟩;dsimp only at f1 f2 f3 f4;refine ZvD _ _ _ _ _ _ ?_;(simp only[iB,vcT,vcS]);refine⟨λhi=>⟨⟨f1,hi⟩,?_⟩,λhi=>?_⟩
 .rw[Yu f1 hi (0:Int),QV]at f4;have hb:i*(b.length:Int)<=1000000000000:=by have:=Zkc (a:=i.toNat) (b:=b.length) Yp h2;rwa[Int.toNat_of_nonneg f1]at this
  refine Z6 (ι:=Int×List Int×Int) (λs=>Z4T a b i s.2.2 s.1 s.2.1) (λs=>(0<=s.1/\s.1<=b.length)/\Zhe s.2 (b.length+1) (i*b.length+s.1)/\Z38 (a.getD i.toNat 0) b 0 (o,0)=Z38 (a.getD i.toNat 0) (b.drop s.1.toNat) s.1 s.2) (λs=>((b.length:Int)-s.1).toNat) (0,o,0) rfl ⟨⟨Yp,Yp⟩,by simpa using f3,by simp⟩ ?_;rintro⟨j,r,bf⟩⟨⟨g1,g2⟩,g3,d⟩;dsimp only at g1 g2 g3 d;refine ZvC _ _ _ _ _ _ _ _ _ ?_;rintro y1 rfl y2 rfl;(simp only[iB,vcT,vcS]);have gl:r.length=b.length+1:=g3.1;refine⟨λhj=>?_,λhj=>?_⟩
  .rw[Yu g1 hj (0:Int),Z38]at d;have w:=Zrm g3 (a.getD i.toNat 0) (b.getD j.toNat 0) j;have g5:=g3.2.2;refine⟨⟨g1,hj⟩,V2,⟨Yp,Yp⟩,λhe=>?_,λhe=>?_⟩
   .refine⟨V2,by unfold InR;dsimp only at g5;omega,⟨Yp,Yp⟩,Nat.zero_le _,V2,V2,⟨Yp,by simp;omega⟩,⟨Yp,by simp;omega⟩,⟨Yp,by simp;omega⟩,Nat.zero_le _,V2,(j+1,ZoE (a.getD i.toNat 0) (b.getD j.toNat 0) j (r,bf)),?_,⟨⟨V1,V1⟩,?_,d⟩,V1⟩;.simp only[ZoE,if_pos he,ZxO]
    .dsimp only;rwa[<-Int.add_assoc]
   .refine⟨V2,V2,⟨Yp,Yp⟩,⟨Yp,Yp⟩,⟨Yp,Yp⟩,Nat.zero_le _,V2,(j+1,ZoE (a.getD i.toNat 0) (b.getD j.toNat 0) j (r,bf)),?_,⟨⟨V1,V1⟩,?_,d⟩,V1⟩;.simp only[ZoE,if_neg he,ZxO]
    .dsimp only;rwa[<-Int.add_assoc]
  .have e:j=b.length:=Yp;subst e;rw[Qb Yp,Z38]at d;refine⟨V2,(i+1,r),rfl,⟨⟨V1,V1⟩,?_,?_⟩,V1⟩;.dsimp only;rw[Int.add_mul,Int.one_mul];exact ZhU g3
   .rw[f4,d]
 .rw[Qb Yp]at f4;have e:o=Z0K a b:=f4.symm;subst e;exact YH
theorem ZJ2:Contract Tryz.prog cfg 105 Z9P:=by
 refine ZD8 ZIW ZIV ?_;intro a b d _ hp;obtain⟨⟨h1,h2⟩,h3,h4⟩:=hp;dsimp only at h1 h2 h3 h4;have w1:=ZEQ (a.take d.toNat) b;have w2:=ZEQ (a.drop d.toNat).reverse b.reverse;have w3:=Zkc (a:=(a.take d.toNat).length) (b:=b.length) (by simp;omega) h2;have w4:=Zkc (a:=(a.drop d.toNat).reverse.length) (b:=b.reverse.length) (by simp;omega) (by simpa using h2);refine ZLl _ _ _ _ ⟨⟨h3,h4⟩,⟨by simp;omega,h2⟩,⟨h3,h4⟩,by show List.length _<=_;simp;omega,h2,⟨by simp;omega,by simpa using h2⟩,?_⟩;have e:Z1W a b d=ZbM (Z0K (a.take d.toNat) b) (Z0K (a.drop d.toNat).reverse b.reverse) b.length (b.length+1) 0 0:=rfl;have l1:(Z0K (a.take d.toNat) b).length=b.length+1:=w1.1;have l2:(Z0K (a.drop d.toNat).reverse b.reverse).length=b.length+1:=by have:=w2.1;simpa using this
 refine Z6 (ι:=Int×Int) (λs=>Z4Y a b d s.1 s.2) (λs=>(0<=s.1/\s.1<=b.length+1)/\(0<=s.2/\s.2<=b.length)/\Z1W a b d=ZbM (Z0K (a.take d.toNat) b) (Z0K (a.drop d.toNat).reverse b.reverse) b.length ((b.length:Int)+1-s.1).toNat s.1 s.2) (λs=>((b.length:Int)+1-s.1).toNat) (0,0) rfl ⟨⟨Yp,V1⟩,⟨Yp,Yp⟩,by rw[e];congr 1⟩ ?_;clear e;rintro⟨j,aa⟩⟨⟨f1,f2⟩,⟨f3,f4⟩,f5⟩;dsimp only at f1 f2 f3 f4 f5;refine ZvL _ _ _ _ _ _ _ ?_;rintro y1 ab y2 af y3 ai y4 ah y5 aj;generalize Z0K (a.take d.toNat) b=F at*;rw[<-ab]at f5 l2 w2;have b2:=w1.2.1 aa.toNat;have b3:=w1.2.1 j.toNat;have b4:=w2.2.1 ((b.length:Int)-aa).toNat;have b5:=w2.2.1 ((b.length:Int)-j).toNat;dsimp only at b2 b3 b4 b5;rw[<-af]at b2;rw[<-ai]at b3;rw[<-ah]at b4;rw[<-aj]at b5;(simp only[iB,vcT,vcS]);refine⟨λhj=>?_,λhj=>?_⟩
 .rw[l1]at hj;have hn:((b.length:Int)+1-j).toNat=((b.length:Int)+1-(j+1)).toNat+1:=Yp;rw[hn,ZbM,<-af,<-ai,<-ah,<-aj]at f5;refine⟨⟨f1,Yp⟩,V2,⟨Yp,Yp⟩,V2,⟨f3,Yp⟩,V2,⟨Yp,Yp⟩,V2,λhe=>?_,λhe=>?_⟩;.rw[if_pos he]at f5;exact⟨V2,(j+1,j),rfl,⟨⟨V1,V1⟩,⟨V1,V1⟩,by rw[<-ab];exact f5⟩,V1⟩
  .rw[if_neg he]at f5;exact⟨V2,(j+1,aa),rfl,⟨⟨V1,V1⟩,⟨V1,V1⟩,by rw[<-ab];exact f5⟩,V1⟩
 .rw[l1]at hj;rw[show((b.length:Int)+1-j).toNat=0 by omega,ZbM]at f5;subst f5;exact YH
theorem ZuM(n:Nat)(h:n<=1000000):IntKind.wrap .i64 (Int.tdiv (n:Int) 2)=((n/2:Nat):Int):=by rw[X8 Yp];simp[IntKind.wrap,IntKind.signed,IntKind.bits];omega
theorem Zxw(l:List SStep)(x:Int)(b:List Int):(Zhk l x b).length<=l.length+3:=by
 unfold Zhk;split;.exact X2 (Z1N _ _ _) (by have:=Z1N l 1 1;omega)
 .exact X2 (Z1N _ _ _) (by have:=Z1N (YQ l 2 (Z0n x b)) 0 1;have:=Z1N l 2 (Z0n x b);omega)
theorem ZAx(l:List SStep)(k:Int)(n:Nat):(YQ l k n).length<=l.length+n:=by unfold YQ;split<;>simp;omega
theorem Z81(l:List SStep)(a b:List Int):(Z0C l a b).length<=l.length+3*a.length+b.length:=by
 rw[Z0C];split
 .have d:=ZAx (YQ l 1 a.length) 2 b.length;have h2:=ZAx l 1 a.length;omega
 .split
  .have:=Zxw l (a.getD 0 0) b;omega
  .have d:=Z81 l (a.take (a.length/2)) (b.take (Z1W a b (a.length/2:Nat)).toNat);have h2:=Z81 (Z0C l (a.take (a.length/2)) (b.take (Z1W a b (a.length/2:Nat)).toNat)) (a.drop (a.length/2)) (b.drop (Z1W a b (a.length/2:Nat)).toNat);have h3:=ZhP a b (a.length/2:Nat);simp only[Qu,Qt]at d h2;omega termination_by a.length decreasing_by all_goals(simp;omega)
theorem c83:Contract Tryz.prog cfg 83 Zf7:=by
 refine ZGP Zv5 ZJ3 ZJ2 ?_;intro N l a b _ hp hN;obtain⟨h1,h2,h3⟩:=hp;have hN:a.length<N+1:=hN;dsimp only at h1 h2 h3;refine ZMZ _ _ _ _ _ ?_;rw[ZuM a.length h1,X3];rintro y1 ae y2 d;subst ae;have h4:=ZhP a b (a.length/2:Nat);have a1:=Z1N l 1 a.length;rw[<-d]at h4;(simp only[iB,vcT,vcS]);refine⟨λh=>?_,λh=>⟨λha=>?_,λha=>?_⟩⟩
 .refine⟨by show l.length<=_;omega,by show(YQ l 1 a.length).length<=_;omega,?_⟩;have h:a.length=0\/b.length=0:=Yp;have e:Z0C l a b=YQ (YQ l 1 a.length) 2 b.length:=by rw[Z0C,if_pos h]
  simp only[Zce,e];exact YH
 .have e:Z0C l a b=Zhk l (a.getD 0 0) b:=by rw[Z0C,JH,Y3]
  refine⟨⟨Yp,Yp⟩,⟨V1,V1⟩,?_⟩;simp only[Zce,e];exact YH
 .have hl:=Z81 l (a.take (a.length/2)) (b.take y2.toNat);simp only[Qu]at hl;have e:Z0C l a b=Z0C (Z0C l (a.take (a.length/2)) (b.take y2.toNat)) (a.drop (a.length/2)) (b.drop y2.toNat):=by rw[d,Z0C,JH,JH]
  refine⟨V0,⟨⟨h1,h2⟩,V1,V1⟩,⟨Yp,Yp⟩,⟨Yp,Yp⟩,⟨by simp;omega,by simp;omega,by simp;omega⟩,by show List.length _<_;simp;omega,⟨Yp,Yp⟩,⟨Yp,Yp⟩,⟨by simp;omega,by simp;omega,by simp;omega⟩,by show List.length _<_;simp;omega,?_⟩;simp only[Zce,e];exact YH
theorem ZJ4:Contract Tryz.prog cfg 102 Z9R:=by
 refine ZDb ?_;intro d at_ lo hi _ hp;obtain⟨h1,h2,h3,h4⟩:=hp;dsimp only at h1 h2 h3 h4;refine ZLo _ _ _ _ _ ?_;have w1:=h4 (at_-1).toNat;have w2:=h4 (at_+1).toNat;have b1:lo=false->1<=at_/\at_<=d.length:=λh=>h1.resolve_left (by simp[h]);have b2:hi=false->0<=at_/\at_+1<d.length:=λh=>h2.resolve_left (by simp[h]);clear h1 h2;cases lo<;>cases hi<;>(simp only[iB,vcT,vcS])
 .have b1:=b1 rfl;have b2:=b2 rfl;refine⟨λh=>absurd h.1 V0,λ_=>⟨V2,⟨Yp,Yp⟩,V2,⟨Yp,Yp⟩,λh=>?_,λh=>?_⟩⟩;.have h:=h.resolve_left V0;exact⟨V2,⟨Yp,Yp⟩,ZJ rfl (by unfold Z4b;rw[if_neg (by simp),if_pos (.inr ⟨rfl,h⟩)])⟩
  .have h:=h.resolve_left V0;exact⟨V2,⟨Yp,Yp⟩,V2,ZJ rfl (by unfold Z4b;dsimp only;rw[if_neg (by simp),if_neg (by rintro(g|⟨_,g⟩);cases g;omega)])⟩
 .have b1:=b1 rfl;refine⟨λh=>absurd h V0,λ_=>⟨λh=>(by cases h),λh=>(by cases h),λh=>(by cases h),λh=>(by cases h),λh=>absurd h (by simp),λh=>⟨V2,⟨Yp,Yp⟩,V2,ZJ rfl (by simp[Z4b])⟩⟩⟩
 .have b2:=b2 rfl;refine⟨λh=>absurd h V0,λ_=>⟨λh=>(by cases h),λh=>(by cases h),λh=>(by cases h),λh=>(by cases h),λh=>⟨V2,⟨Yp,Yp⟩,ZJ rfl (by simp[Z4b])⟩,λh=>absurd h.1 V0⟩⟩
 .exact⟨ZJ rfl (by simp[Z4b]),λh=>absurd h (by simp)⟩
theorem ZxL(a b:List Int)(most:Int):-1<=JK a b most/\JK a b most<=(a.length:Int)+b.length:=by unfold JK;omega
theorem ZaA(a b:List Int)(most:Int):(if((a.length:Int)+b.length)<(if most< -1 then-1 else most)then(a.length:Int)+b.length else(if most< -1 then-1 else most))=JK a b most:=by unfold JK;omega
theorem c82:Contract Tryz.prog cfg 82 Zf8:=by
 refine ZGQ ZJ4.lend ?_;intro a b aa _ hp;obtain⟨h1,h2⟩:=hp;dsimp only at h1 h2;refine ZN0 _ _ _ _ ?_;have hm:=ZxL a b aa;rw[ZaA];have e0:Zj0 a b aa=if JK a b aa<0\/JK a b aa<(a.length:Int)-b.length\/JK a b aa<(b.length:Int)-a.length then(0,false)else Zj1 a b (JK a b aa) (List.replicate (2*JK a b aa+3).toNat 0) 0:=rfl;(simp only[iB,vcT,vcS]);refine⟨V2,λ_=>by unfold InR;omega,λ_=>by unfold InR;omega,λh=>?_,λh=>?_⟩;.rw[Y3]at e0;simp only[Zmf,e0];exact YH
 rw[JH]at e0;refine⟨V2,V2,⟨Yp,Yp,Yp⟩,?_⟩;refine Z6 (ι:=Int×List Int) (λs=>ZaR a b aa s.1 s.2) (λs=>(0<=s.1/\s.1<=JK a b aa+1)/\((s.2.length:Int)=2*JK a b aa+3/\∀p:Nat,0<=s.2.getD p 0/\s.2.getD p 0<=a.length+s.1)/\Zj0 a b aa=Zj1 a b (JK a b aa) s.2 s.1) (λs=>(JK a b aa+1-s.1).toNat) (0,_) rfl ⟨⟨Yp,Yp⟩,⟨by simp;omega,λp=>?_⟩,e0⟩ ?_;.simp only[Q6,Xz];split<;>simp
 clear e0;rintro⟨d,ah⟩⟨⟨f1,f2⟩,⟨f3,f4⟩,f5⟩;dsimp only at f1 f2 f3 f4 f5;refine ZBe _ _ _ _ _ _ _ ?_;rw[ZaA];(simp only[iB,vcT,vcS]);refine⟨λhd=>⟨V2,?_⟩,λhd=>?_⟩
 .rw[Zj1,if_pos hd]at f5;refine Z6 (ι:=Int×List Int) (λs=>ZaQ a b aa d s.1 s.2) (λs=>(-d<=s.1/\s.1<=d+2)/\((s.2.length:Int)=2*JK a b aa+3/\∀p:Nat,0<=s.2.getD p 0/\s.2.getD p 0<=a.length+d+1/\(((p:Int)-(JK a b aa+1+s.1))%2=1->s.2.getD p 0<=a.length+d))/\ZgW a b (JK a b aa) d ah (-d)=ZgW a b (JK a b aa) d s.2 s.1) (λs=>(d+2-s.1).toNat) (-d,ah) rfl ⟨⟨Yp,Yp⟩,⟨f3,λp=>by have:=f4 p;dsimp only;omega⟩,rfl⟩ ?_;rintro⟨k,fr⟩⟨⟨g1,g2⟩,⟨g3,g4⟩,g5⟩;dsimp only at g1 g2 g3 g4 g5;refine ZBd _ _ _ _ _ _ _ _ _ ?_;rw[ZaA];rintro y1 ak;have hR:k<=d->0<=y1/\y1<=a.length+d+1:=by
   intro hk;have p1:=g4 (JK a b aa+1+k-1).toNat;have p2:=g4 (JK a b aa+1+k+1).toNat;rw[ak];unfold Z4b;dsimp only;split;.omega
   .split<;>omega
  (simp only[iB,vcT,vcS]);refine⟨λhk=>?_,λhk=>?_⟩
  .have hR:=hR hk;refine⟨V2,V2,V2,⟨.inr ⟨V1,V1⟩,.inr ⟨V1,V1⟩,V1,λp=>by have:=g4 p;dsimp only;omega⟩,V2,?_⟩;have hw:Zvu a b (JK a b aa) d fr k=Zca a b y1 (y1-k):=by rw[ak];try rfl
   rw[ZgW.eq_1 a b _ d fr k,if_pos hk]at g5;refine Z6 (ι:=Int×Int) (λs=>ZaP a b aa d k fr s.1 s.2) (λs=>(0<=s.1/\s.1<=a.length+d+1/\s.2=s.1-k)/\Zvu a b (JK a b aa) d fr k=Zca a b s.1 s.2) (λs=>((a.length:Int)-s.1).toNat) (y1,y1-k) rfl ⟨⟨V1,V1,rfl⟩,hw⟩ ?_;rintro⟨i,j⟩⟨⟨w1,w2,w3⟩,w4⟩;dsimp only at w1 w2 w3 w4;refine ZBc _ _ _ _ _ _ _ _ _ _ _ _ ?_;rw[ZaA];(simp only[iB,vcT,vcS]);refine⟨λq=>⟨w1,Yp⟩,λq=>⟨Yp,Yp⟩,λq=>?_,λq=>?_⟩;.rw[Zca,Y3]at w4;exact⟨V2,V2,(i+1,j+1),rfl,⟨⟨V1,V1,V1⟩,w4⟩,V1⟩
   .rw[Zca,JH]at w4;rw[w4]at g5;refine⟨V2,V2,⟨Yp,Yp⟩,Nat.zero_le _,λz=>?_,λz=>?_⟩;.rw[if_pos z]at g5;rw[g5,if_pos rfl]at f5;simp only[Zmf,f5];exact YH
    .rw[JH]at g5;refine⟨V2,(k+2,_),rfl,⟨⟨V1,V1⟩,⟨by simpa using g3,λp=>?_⟩,g5⟩,V1⟩;have:=g4 p;dsimp only;rw[ZgH];split<;>omega
  .rw[ZgW.eq_1 a b _ d fr k,if_neg hk]at g5;rw[g5]at f5;rw[if_neg (by simp)]at f5;exact⟨V2,(d+1,fr),rfl,⟨⟨V1,V1⟩,⟨g3,λp=>by have:=g4 p;dsimp only;omega⟩,f5⟩,V1⟩
 .rw[Zj1,if_neg hd]at f5;simp only[Zmf,f5];exact YH
theorem c67:Contract Tryz.prog cfg 67 ZjJ:=by
 refine ZH2 c82 c83 c68 ?_;intro a b d _ hp;obtain⟨h1,h2⟩:=hp;dsimp only at h1 h2;refine ZNd _ _ _ _ ⟨⟨h1,h2⟩,?_⟩;have hl:=Z81 [] a b;(simp only[iB,vcT,vcS]);refine⟨λh=>?_,λh=>?_⟩
 .have e:Z65 a b d=([],false):=by rw[Z65,if_neg (by simp[h])]
  simp only[ZrG,e];exact YH
 .have e:Z65 a b d=(Z61 (Z0C [] a b),true):=by rw[Z65,if_pos h]
  refine⟨⟨h1,h2,by simp;omega⟩,by show(Z0C [] a b).length<=_;simp at hl;omega,?_⟩;simp only[ZrG,e];exact YH
noncomputable section
def Zl3:List Int->List Int->Int|x::r,y::s=>(if x=y then 1 else 0)+Zl3 r s|_,_=>0
def Zl2:List Tree->List Tree->Int|x::r,y::s=>(if ZN (Z0 x) (Z0 y)=true then 1 else 0)+Zl2 r s|_,_=>0
def JE(a b:Tree):Int:=if a.kind≠b.kind\/a.kind=0\/a.kind=10 then 0 else 1+Zl3 a.words b.words+Zl2 a.kids b.kids
def Z8b(x:Int):Nat->Int|0=>0|n+1=>Z8b x n+(if Zd x n=0 then 0 else 2^n)
def ZeK(a b:Int):Int:=IntKind.wrap .u64 (BitVec.ofInt (IntKind.bits .u64) a^^^BitVec.ofInt (IntKind.bits .u64) b).toNat
def Y7(a b:Int):Int:=Z8b (ZeK a b) 8
def Z3w(i a b:Int):WEdit:=⟨i,Y7 a b,mix 0 a (Y7 a b),mix 0 b (Y7 a b)⟩
def ZW(kind:Int)(l:List Tree):List Op:=if l.length=0 then[]else[⟨kind,0,l,Edit.nil⟩]
def Z3v(t:Tree):List Tree->Int|[]=>-1|k::r=>if ZN (Z0 k) (Z0 t)=true then 0 else if Z3v t r=-1 then-1 else Z3v t r+1
def ofS(s:List Tree×List Int)(t:Tree):List Tree×List Int:=if Z3v t s.1=-1 then(s.1++[t],s.2++[(s.1.length:Int)])else(s.1,s.2++[Z3v t s.1])
def ofF(known l:List Tree):List Tree×List Int:=l.foldl ofS (known,[])
end
end Go.AM.YtnfbomhidainjaaGreat
