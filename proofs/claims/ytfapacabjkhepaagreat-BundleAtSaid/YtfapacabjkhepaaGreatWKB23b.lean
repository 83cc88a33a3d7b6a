import Derived.Test.YtfapacabjkhepaaGreatWCB25a
import Derived.Test.YtfapacabjkhepaaGreatWCL25l
import Derived.Test.YtfapacabjkhepaaGreatWKL22m
import Derived.Test.YtfapacabjkhepaaGreatWKG21a
import Derived.Test.YtfapacabjkhepaaGreatWKD22
import Derived.Test.YtfapacabjkhepaaGreatWCL25g
set_option linter.unusedSimpArgs false
set_option linter.unusedVariables false
namespace Go.AM.YtfapacabjkhepaaGreat
open Go.AM Go.Proofs
theorem ZBM(e:Edit):e.words.length+e.ops.length+Zy e.kids+Zn e.ops+Zm e.old+Zm e.new+1=Z8 e:=by obtain ⟨k,o,n,w,ks,l,os⟩:=e;simp only [Z8,Edit.words_mk,Edit.ops_mk,Edit.kids_mk,Edit.old_mk,Edit.new_mk];omega
theorem Zpm(t:Tree):1<=Zm t:=by obtain ⟨k,w,ks⟩:=t;simp only [Zm];omega
theorem Yj{e:Edit}(h:Ym e):Z8 e<=9000000000:=QJ (Zas e) h.1
theorem Z50{e:Edit}(h:Ym e):Z3H (e,())/\Ym (Zz (Zs e)):=by
 have hm:=Yj h
 obtain ⟨m,r,d,hr⟩:=h
 refine ⟨⟨by grind,d,hr⟩,?_,?_,d,JG _ _ (JC _ _ hr)⟩
 .have:=Z49 (Zs e)
  rw [Z5F] at this
  omega
 .exact Z0R _ d (JC _ _ hr) (Z7a e r)
theorem Zbp{e:Edit}{t:Tree}(h:Ym e)(hm:Zm t<=100000000000)(ht:rng t):Z4o (e,t,()):=by
 have:=Yj h
 have:=h.1
 exact ⟨⟨by grind,h.2⟩,by grind,ht⟩
theorem Zp4{e:Edit}(h:Ym e):ZdC e.kids:=by
 obtain ⟨m,r,d,hr⟩:=h
 have:=Jz e
 exact ⟨YL,(ZU r).2.2.2.1,fun k hk=> ⟨_,(Zq (Zo hr).kids k hk).2⟩⟩
theorem Zp3{e:Edit}(h:Ym e):Zro e.ops:=by
 obtain ⟨m,r,d,hr⟩:=h
 have:=Jz e
 exact ⟨YL,(ZU r).2.2.2.2,fun o ho=> ⟨_,_,rightOs_mem (Zo hr).ops ho⟩⟩
theorem ZF3:ZCo:=by
 intro N p q _ hp hN
 obtain ⟨op,oq⟩:=hp
 dsimp only at op oq
 have hN':8*(Z8 p+Z8 q) < N+1:=hN
 obtain ⟨dp,rp⟩:=op.2.2
 obtain ⟨dq,rq⟩:=oq.2.2
 have hst:=Zsi rp rq
 unfold Ji at hst
 have lp:=ZBM p
 have lq:=ZBM q
 have mo:=Zpm p.old;have mn:=Zpm p.new;have mo':=Zpm q.old;have mn':=Zpm q.new
 have gp:=ZU op.2.1
 have gq:=ZU oq.2.1
 have cp:=Jz p;have cq:=Jz q;have cp':=op.1;have cq':=oq.1
 have fin:∀ {X:Edit} {b:Bool} {s:LSt U},Yy p q=(X,b)->Y2 cfg Tryz.f104.ntmps Tryz.f104.results.toList (.tup [(true,enc .edit X),(false,[.bool b])]) [] .ret s->Y2 cfg Tryz.f104.ntmps Tryz.f104.results.toList (Z38 (p,q,())) [] .ret s:=by
  intro X b s h hs
  refine Y5 ?_ hs
  simp only [Z38]
  rw [h]
  try rfl
 refine ZHt N p q _ ?_
 intro y1 h1 y2 h2 y3 h3 y4 h4 y5 h5
 replace h1:=h1.symm;replace h2:=h2.symm;replace h3:=h3.symm;replace h4:=h4.symm
 subst h1 h2 h3 h4
 (simp only [iB,vcT,vcS])
 try dsimp only at h5 ⊢
 refine ⟨fun p0=> fin (by rw [hst,if_pos p0]) JR,fun p0=> ?_⟩
 rw [if_neg p0] at hst
 refine ⟨fun q0=> fin (by rw [hst,if_pos q0]) JR,fun q0=> ?_⟩
 rw [if_neg q0] at hst
 refine ⟨fun p1=> ⟨Zbp oq YL gp.2.1,fin (by rw [hst,if_pos p1]) (by unfold doB;(repeat' (first | exact trivial | exact rfl | apply And.intro)))⟩,fun p1=> ?_⟩
 rw [if_neg p1] at hst
 refine ⟨fun q1=> ⟨(Z50 op).1,by rw [h5];exact Zbp (Z50 op).2 YL gq.1,fin (by rw [hst,if_pos q1,<-h5]) (by unfold doB;(repeat' (first | exact trivial | exact rfl | apply And.intro)))⟩,fun q1=> ?_⟩
 rw [if_neg q1] at hst
 refine ⟨fun hd=> fin (by rw [hst,if_pos hd]) JR,fun hd=> ?_⟩
 rw [if_neg (by rintro (h | h);exact h hd.1;exact h hd.2)] at hst
 refine ⟨fun p2=> ?_,fun p2=> ?_⟩
 .rw [if_pos p2] at hst
  refine ⟨⟨⟨gp.2.2.1,V5⟩,gq.2.2.1,V5⟩,fun hw=> ?_,fun hw=> ⟨⟨Zp4 op,Zp4 oq⟩,by show 8*(Zy p.kids+Zy q.kids)+4 < N;omega,?_⟩⟩
  .exact fin (by rw [hst,if_neg (by rw [hw];decide)]) JR
  .exact fin (by rw [hst,if_pos hw]) JR
 .rw [if_neg p2] at hst
  exact ⟨⟨Zp3 op,Zp3 oq⟩,by show 8*(Zn p.ops+Zn q.ops)+40 < N;omega,fin hst JR⟩
theorem ZF0:ZCk:=by
 intro N a b _ hp hN
 have hN':8*(Zy a+Zy b)+4 < N+1:=hN
 refine ZHa N a b _ ?_
 exact ⟨hp,by show 8*(Zy a+Zy b)+3 < N;omega,JR⟩
theorem Zkr{k:Kid}(h:Z1v k):InR k.at_/\YI k.e:=by cases k;exact h
theorem ZEV:ZCf:=by
 intro N a b _ hp hN
 obtain ⟨oa,ob⟩:=hp
 dsimp only at oa ob
 have hN':8*(J4 a+J4 b)+1 < N+1:=hN
 have ka:=Z4y a
 have kb:=Z4y b
 refine ZGU N a b _ ?_
 intro y1 h1 y2 h2
 replace h1:=h1.symm;replace h2:=h2.symm
 subst h1 h2
 try dsimp only
 have ra:Ym a.e:=⟨by have:=oa.1;rw [Z23] at this;omega,(Zkr oa.2.1).2,oa.2.2⟩
 have rb:Ym b.e:=⟨by have:=ob.1;rw [Z23] at this;omega,(Zkr ob.2.1).2,ob.2.2⟩
 exact ⟨⟨ra,rb⟩,by show 8*(Z8 a.e+Z8 b.e) < N;omega,by unfold Z3X JM;(repeat' (first | exact trivial | exact rfl | apply And.intro))⟩
theorem Zhe{l:List Kid}(h:ZdC l):ZdC (l.drop 1):=by
 cases l with
 | nil=> exact h
 | cons k r=>
  obtain ⟨h1,h2,h3⟩:=h
  simp only [Z0o] at h1
  exact ⟨by grind,h2.2,fun x hx=> h3 x (Q0 _ hx)⟩
theorem Zhd{l:List Kid}(h:ZdC l)(hl:0 < l.length)(z:Kid):Zwg (l.getD 0 z)/\J4 (l.getD 0 z)+Zy (l.drop 1)=Zy l:=by
 cases l with
 | nil=> simp at hl
 | cons k r=>
  obtain ⟨h1,h2,h3⟩:=h
  simp only [Z0o] at h1
  exact ⟨⟨by grind,h2.1,h3 k Q3⟩,rfl⟩
theorem Zdc:∀ l:List Kid,Zy (l.drop 1)<=Zy l
 | []=> Q8 _
 | k ::r=> by simp only [QK,Xb,Zy];omega
theorem ZEW:ZCg:=by
 rintro N p q ⟨⟩ ⟨⟩ _ hp hN
 obtain ⟨op,oq⟩:=hp
 dsimp only at op oq
 have hN':8*(Zy p+Zy q)+3 < N+1:=hN
 have lp:=Y1 p
 have lq:=Y1 q
 have bp:=QJ (Z4x p) op.1;have bq:=QJ (Z4x q) oq.1
 refine ZGW N p q () () _ ?_
 refine Z4 (ι:=List Kid × List Kid × List Kid) (fun x=> Z2S p q () () x.1 x.2.1 x.2.2) (fun x=> MInv KidOf.at_ (JM Yy) p q x.1 x.2.1 x.2.2/\(ZdC x.1/\Zy x.1<=Zy p)/\ZdC x.2.1/\Zy x.2.1<=Zy q) (fun x=> x.1.length+x.2.1.length) (p,q,[]) rfl
  ⟨⟨by simp_all,by simp⟩,⟨op,Q8 _⟩,oq,Q8 _⟩ ?_
 rintro ⟨x0,x1,x10⟩ ⟨inv,⟨r0,m0⟩,r1,m1⟩
 dsimp only at inv r0 r1 m0 m1
 have hlen:=inv.len
 refine Zt3 N p q () () _ _ _ _ _ ?_
 intro y1 h1 y2 h2 y3 h3 y4 h4 y5 h5
 subst h3 h4
 (simp only [iB,vcT,vcS])
 have h3:y3=x0.getD 0 ⟨0,Edit.nil⟩:=h1
 have h4:y4=x1.getD 0 ⟨0,Edit.nil⟩:=h2
 have d0:ZdC (x0.drop 1)/\Zy (x0.drop 1)<=Zy p:=⟨Zhe r0,by have:=Zdc x0;omega⟩
 have d1:ZdC (x1.drop 1)/\Zy (x1.drop 1)<=Zy q:=⟨Zhe r1,by have:=Zdc x1;omega⟩
 refine ⟨fun hne=> ⟨fun h=> ⟨YL,YL⟩,fun _=> trivial,fun h=> ⟨YL,YL⟩,fun _=> trivial,fun g1 g2=> ⟨g1,g2⟩,fun hA=> ?_,fun hB=> ?_⟩,fun hE=> ?_⟩
 .refine ⟨⟨YL,YL⟩,by grind,⟨YL,YL⟩,(x0.drop 1,x1,x10++[y3]),rfl,⟨?_,d0,r1,m1⟩,by grind⟩
  rw [h3]
  exact inv.left' _ YL (by grind)
 .refine ⟨fun h=> ⟨YL,YL⟩,fun _=> trivial,fun h=> ⟨YL,YL⟩,fun _=> trivial,fun hC=> ?_,fun hD=> ?_⟩
  .refine ⟨⟨YL,YL⟩,by grind,⟨YL,YL⟩,(x0,x1.drop 1,x10++[y4]),rfl,⟨?_,⟨r0,m0⟩,d1⟩,by grind⟩
   rw [h4]
   exact inv.right' _ YL (by grind)
  .have hb:=inv.both' ⟨0,Edit.nil⟩ YL YL (by grind)
   rw [<-h3,<-h4] at hb
   obtain ⟨k3,n3⟩:=Zhd r0 YL ⟨0,Edit.nil⟩
   obtain ⟨k4,n4⟩:=Zhd r1 YL ⟨0,Edit.nil⟩
   rw [<-h3] at k3 n3
   rw [<-h4] at k4 n4
   refine ⟨⟨YL,YL⟩,⟨YL,YL⟩,⟨k3,k4⟩,by show 8*(J4 y3+J4 y4)+1 < N;omega,fun hc=> ?_,fun hc=> ?_⟩
   .have e:=ZfX (hb.2 hc)
    refine Y5 (r':= .tup [(false,[.slice (U:=U) .kid [] .unk]),(false,[.bool false])]) ?_ JR
    simp only [Z37]
    rw [e.1,e.2]
   .refine ⟨by grind,⟨YL,YL⟩,⟨YL,YL⟩,(x0.drop 1,x1.drop 1,x10++[y5]),rfl,⟨?_,d0,d1⟩,by grind⟩
    grind
 .have e0:x0=[]:=Q1 YL
  have e1:x1=[]:=Q1 YL
  subst e0 e1
  have e:=inv.done
  refine Y5 (r':= .tup [(false,[.slice (U:=U) .kid x10 .unk]),(false,[.bool true])]) ?_ JR
  simp only [Z37]
  rw [e]
  try rfl
theorem ZkT{l:List Op}{o:Op}(h:Part l o)(ho:ZQ o)(hl:Z0Q l):YJ o:=by
 obtain ⟨o',m,k,e1,_,lt⟩:=h
 have G:=Jr (JN hl m)
 obtain ⟨kk,nn,ll,ee⟩:=o
 have k:kk=o'.kind:=k
 have e1:ee=o'.e:=e1
 have lt:∀ t∈ll,t∈o'.l:=lt
 refine ⟨by grind,?_,Z9L fun t ht=> YZ G.2.2.1 (lt t ht),by grind⟩
 rcases ho with h | h | h
 .have:=h.2.2.1
  unfold InR
  grind
 .have h2:nn=0:=h.2.1
  rw [h2];trivial
 .have h2:nn=0:=h.2.1
  rw [h2];trivial
theorem Z7i{l:List Op}{o:Op}(h:Part l o):Z3l o<=J2 l/\Zt o<=Zn l:=by
 obtain ⟨o',m,k,e1,hm,_⟩:=h
 have h1:=Z6Q m
 have h2:=ZI m
 have a:=Z3O o
 rw [ZG,ZG,e1] at hm
 rw [e1] at a
 rw [ZG] at h2
 rw [ZG,e1]
 omega
theorem ZfG{l:List Op}{o:Op}(h:Part l o)(hl:∀ o∈l,∃ list d,Zc list o d=true)(k3:o.kind=3):∃ d,Z9 o.e d=true:=by
 obtain ⟨o',m,k,e1,hm,_⟩:=h
 obtain ⟨list,d,hr⟩:=hl o' m
 exact ⟨d,by rw [e1];exact Jo hr YL⟩
theorem ZuI{p q:List Op}(hp:Zro p)(hq:Zro q){x:Piece}(h:POk p q x):PcOk x:=by
 refine ⟨h.of,fun e=> ?_,fun e=> ?_,h.both⟩
 .obtain ⟨a,b⟩:=h.pp e
  exact ⟨b,QJ (Z7i a).1 hp.1,ZkT a b hp.2.1,ZfG a hp.2.2⟩
 .obtain ⟨a,b⟩:=h.qq e
  exact ⟨b,QJ (Z7i a).1 hq.1,ZkT a b hq.2.1,ZfG a hq.2.2⟩
theorem ZBo{p:List Op}(hp:Zro p):Za9 p:=by
 refine ⟨fun o ho=> ?_,?_⟩
 .obtain ⟨_,_,h⟩:=hp.2.2 o ho
  exact Z0F h
 .have:=Z1C p
  have:=hp.1
  omega
theorem ZEZ:ZCj:=by
 intro N p q _ hp hN
 obtain ⟨op,oq⟩:=hp
 dsimp only at op oq
 have hN':8*(Zn p+Zn q)+40 < N+1:=hN
 have kp:=ZBo op
 have kq:=ZBo oq
 obtain ⟨i1,_⟩:=Z4q _ p q [] (Q8 _) kp.1 kq.1
 refine ZH9 N p q _ ?_
 (simp only [iB,vcT,vcS])
 refine ⟨⟨kp,kq⟩,fun hb=> ?_,fun hb=> ?_⟩
 .have e:Z0y Yy p q=none:=by unfold Z0y;grind
  refine Y5 (r':= .tup [(false,[.slice (U:=U) .op [] .unk]),(false,[.bool false])]) ?_ JR
  simp only [Z29]
  rw [e];try rfl
 .obtain ⟨ps,e,hps,_,_⟩:=i1 hb
  obtain ⟨ps1,e1,_,_,hlen⟩:=Za6 ZCa ZC9 1 _ p q [] (Q8 _) kp.1 kq.1 hb
  rw [e,Qq,Qq] at e1
  subst e1
  rw [Qq] at e
  have hco:Z0y Yy p q=JW Yy ps:=by unfold Z0y;grind
  refine Z4 (ι:=Int × List Op) (fun s=> Z4M p q s.1 s.2) (fun s=> 0<=s.1/\s.1<=ps.length/\JW Yy ps=(JW Yy (ps.drop s.1.toNat)).map (s.2++·)/\s.2.length+(ps.drop s.1.toNat).length<=ps.length) (fun s=> ((ps.length:Int) - s.1).toNat) (0,[]) rfl ⟨by simp,by simp,by simp,by simp⟩ ?_
  rintro ⟨i,out⟩ ⟨f1,f2,f3,f4⟩
  dsimp only at f1 f2 f3 f4
  refine Ztc N p q _ _ _ _ ?_
  intro y1 h1 y2 h2 y3 h3
  rw [e] at h1 ⊢
  subst h2
  (simp only [iB,vcT,vcS])
  refine ⟨fun hi=> ?_,fun hi=> ?_⟩
  .have h1:y2=ps.getD i.toNat (Piece.mk 0 Op.nil Op.nil):=h1
   have hmem:y2∈ps:=by rw [h1];exact Zf YL _
   have hx:=hps y2 hmem
   have hd:ps.drop i.toNat=y2 ::ps.drop (i+1).toNat:=by rw [h1];exact ZH f1 hi _
   rw [hd,JW] at f3
   rw [hd,Q7] at f4
   have hmu:8*(Zt y2.p+Zt y2.q)+1 < N:=by
    rcases hx.of with h | h | h
    .have:=(Z7i (hx.pp YL).1).2;have:=(Z7i (hx.qq YL).1).2;omega
    .have:=(Z7i (hx.pp YL).1).2;rw [hx.qn h,show Zt Op.nil=3 from rfl];omega
    .have:=(Z7i (hx.qq YL).1).2;rw [hx.pn h,show Zt Op.nil=3 from rfl];omega
   have c1:=Z1C p;have c2:=Z1C q;have c3:=op.1;have c4:=oq.1
   refine ⟨⟨f1,hi⟩,ZuI op oq hx,hmu,fun hc=> ?_,fun hc=> ⟨fun his=> ?_,fun his=> ?_⟩⟩
   .rw [if_neg (by grind)] at f3
    refine Y5 (r':= .tup [(false,[.slice (U:=U) .op [] .unk]),(false,[.bool false])]) ?_ JR
    simp only [Z29]
    rw [hco,f3];try rfl
   .rw [if_pos hc,if_pos his] at f3
    refine ⟨by grind,V3,(i+1,out++[y3]),rfl,⟨YL,YL,?_,?_⟩,YL⟩
    .rw [f3,h3]
     cases JW Yy (ps.drop (i+1).toNat) <;> simp
    grind
   .rw [if_pos hc,if_neg (by grind)] at f3
    refine ⟨V3,(i+1,out),rfl,⟨YL,YL,?_,by grind⟩,YL⟩
    simp_all
  .rw [Q6 YL,JW] at f3
   refine Y5 (r':= .tup [(false,[.slice (U:=U) .op out .unk]),(false,[.bool true])]) ?_ JR
   simp only [Z29]
   rw [hco,f3]
   simp [ofO]
theorem Zbw{α:Type}{l:List α}{i:Nat}(h:i < l.length)(d:α):l.take (i+1)=l.take i++[l.getD i d]:=by
 simp_all
theorem Zwo{a b:List Tree}(h:Zb a=Zb b):ZnK a b=true:=JI.2 h
theorem ZA3{a b:List Tree}(h:¬Zb a=Zb b):ZnK a b=false:=by rw [<-Xj];exact fun e=> h (JI.1 e)
theorem Zlf(o:Op):Zk o.l<=Z3l o:=by rw [Z3O];omega
theorem ZEU:ZCe:=by
 intro N x _ hp hN
 have hp:PcOk x:=hp
 have hN':8*(Zt x.p+Zt x.q)+1 < N+1:=hN
 have fin:∀ {o:Op} {i k:Bool} {s:LSt U},ZM Yy x=⟨o,i,k⟩->Y2 cfg Tryz.f169.ntmps Tryz.f169.results.toList (.tup [(true,enc .op o),(false,[.bool i]),(false,[.bool k])]) [] .ret s->Y2 cfg Tryz.f169.ntmps Tryz.f169.results.toList (Z36 (x,())) [] .ret s:=by
  intro o i k s h hs
  refine Y5 ?_ hs
  simp only [Z36]
  rw [h];try rfl
 refine ZGS N x _ ?_
 intro y1 h1 y2 h2 y3 h3 y4 h4 y5 h5 y6 h6 y7 h7 y8 h8 y9 h9
 subst h1 h2 h5 h6
 (simp only [iB,vcT,vcS])
 have hc:=ZM.eq_1 Yy x
 refine ⟨fun _ h=> ⟨YL,h⟩,fun c1=> fin (by rw [hc,if_pos c1]) JR,fun c1=> ?_⟩
 rw [V0] at hc
 refine ⟨fun c2=> fin (by rw [hc,if_pos c2]) JR,fun c2=> ?_⟩
 rw [V0] at hc
 have c0:x.of=0:=by rcases hp.of with h | h | h <;> omega
 obtain ⟨b1,b2,b3⟩:=hp.both c0
 obtain ⟨op,mp,gp,rp⟩:=hp.pp YL
 obtain ⟨oq,mq,gq,rq⟩:=hp.qq YL
 have ep:=Z3O x.p
 have eq:=Z3O x.q
 have gp':=Jr gp
 have gq':=Jr gq
 have ap:=Zlf x.p
 have aq:=Zlf x.q
 refine ⟨fun c3=> ?_,fun c3=> ?_⟩
 .rw [if_pos c3] at hc
  have l1:=Z03 op (.inr c3.1)
  have l2:=Z03 oq (.inl c3.2)
  have k1:=Zv x.p.l
  rw [Ql YL] at hc
  refine Z4 (ι:=Int) (fun i=> Z7J x i) (fun i=> 0<=i/\i<=x.p.l.length/\Zb (x.p.l.take i.toNat)=Zb (x.q.l.take i.toNat)) (fun i=> ((x.p.l.length:Int) - i).toNat) 0 rfl ⟨YL,YL,by simp⟩ ?_
  rintro i ⟨f1,f2,f3⟩
  refine Zt2 N x _ _ _ ?_
  intro z1 g1 z2 g2 z3 g3 z4 g4
  subst g1 g2
  (simp only [iB,vcT,vcS])
  have l3:x.p.l.length=x.q.l.length:=YL
  refine ⟨fun hi=> ?_,fun hi=> ?_⟩
  .have m1:z3∈x.p.l:=by rw [g3];exact Zf YL _
   have m2:z4∈x.q.l:=by rw [g4];exact Zf YL _
   have m1':=Yx m1
   have m2':=Yx m2
   have t1:x.p.l.take (i+1).toNat=x.p.l.take i.toNat++[z3]:=by rw [g3,show (i+1).toNat=i.toNat+1 by omega];exact Zbw YL _
   have t2:x.q.l.take (i+1).toNat=x.q.l.take i.toNat++[z4]:=by rw [g4,show (i+1).toNat=i.toNat+1 by omega];exact Zbw YL _
   refine ⟨⟨f1,hi⟩,⟨f1,YL⟩,⟨V5,V5⟩,fun hne=> fin (by rw [hc,ZA3];intro he;rw [YG] at hne;apply hne;rw [g3,g4];exact Z6J he i.toNat) JR,fun heq=> ⟨V3,i+1,rfl,⟨YL,YL,?_⟩,YL⟩⟩
   rw [t1,t2]
   exact Z0V f3 (ZbY.2 (Yu.1 heq))
  .rw [Ql YL,Ql YL] at f3
   exact fin (by rw [hc,Zwo f3]) JR
 rw [V0] at hc
 have kp:x.p.kind=2\/x.p.kind=3:=by rcases YQ op with k | k | k | k <;> omega
 have kq:x.q.kind=1\/x.q.kind=3:=by rcases YQ oq with k | k | k | k <;> omega
 refine ⟨fun c4=> ?_,fun c4=> ?_⟩
 .rw [if_pos c4] at hc
  have l1:=Z03 op (.inr c4)
  have l2:=JT (o:=x.q) YL
  have hl:0 < x.p.l.length:=YL
  have m3:y5∈x.p.l:=by rw [h3];exact Zf hl _
  have m3':=Yx m3
  refine ⟨⟨YL,YL⟩,Zbp ⟨YL,gq'.2.2.2,rq YL⟩ YL (YZ gp'.2.2.1 m3),fin hc ?_⟩
  rw [show x.p.l.getD 0 Tree.nil=y5 from h3.symm]
  unfold doB
  rw [<-h8]
  exact JR
 rw [if_neg c4] at hc
 have p3:x.p.kind=3:=YL
 refine ⟨fun c5=> ?_,fun c5=> ?_⟩
 .rw [if_pos c5] at hc
  have l1:=Z03 oq (.inl c5)
  have l2:=JT (o:=x.p) p3
  have hl:0 < x.q.l.length:=YL
  have m4:y6∈x.q.l:=by rw [h4];exact Zf hl _
  have m4':=Yx m4
  have rk:Ym x.p.e:=⟨YL,gp'.2.2.2,rp p3⟩
  refine ⟨(Z50 rk).1,⟨YL,YL⟩,by rw [h7];exact Zbp (Z50 rk).2 YL (YZ gq'.2.2.1 m4),fin hc ?_⟩
  rw [show x.q.l.getD 0 Tree.nil=y6 from h4.symm,<-h7]
  unfold doB
  rw [<-h9]
  exact JR
 .rw [if_neg c5] at hc
  have k1:Ym x.p.e:=⟨YL,gp'.2.2.2,rp p3⟩
  have k2:Ym x.q.e:=⟨YL,gq'.2.2.2,rq YL⟩
  refine ⟨⟨k1,k2⟩,?_,fin hc JR⟩
  show 8*(Z8 x.p.e+Z8 x.q.e) < N
  rw [ZG,ZG] at hN'
  omega
theorem ZI2:Contract Tryz.prog cfg 104 Z74/\Contract Tryz.prog cfg 142 Zox/\Contract Tryz.prog cfg 165 Zot/\Contract Tryz.prog cfg 167 Zos/\Contract Tryz.prog cfg 143 Zow/\Contract Tryz.prog cfg 169 Zor:=
 Zv7 c32 c37 c47 ZEE ZEt (ZEs ZwE) ZF3 ZF0 ZEW ZEV ZEZ ZEU
theorem ZEN:Contract Tryz.prog cfg 104 Z74:=ZI2.1
end Go.AM.YtfapacabjkhepaaGreat
namespace Go.AM
def Z5Q(list:Int):List Tree->Int->Int
 | [],_=> -1
 | t ::r,i=> if Ze (Tree.mk list [] [t]) 64=true then Z5Q list r (i+1) else i
theorem Zi2(list:Int):∀ (l:List Tree) (i:Int),0<=i->(0<=Z5Q list l i↔JS list l=false)
 | [],i,_=> by simp [Z5Q,JS]
 | t ::r,i,hi=> by
  have ih:=Zi2 list r (i+1) YL
  rw [Z5Q,JS]
  grind
end Go.AM
namespace Go.AM.YtfapacabjkhepaaGreat
open Go.AM Go.Proofs
noncomputable section
def ZjL:ArgM (Tree × (Int × Unit) × Unit):=(.cons (aEl .tree) (.obj 0 (.cons (ZlS .i64) .nil) .nil))
def Zfv(a:Tree × (Int × Unit) × Unit):Prop:=Zm a.1<=18000000000/\rng a.1/\InR a.2.1.1
def Zmq(a:Tree × (Int × Unit) × Unit):V U:= .c (.bool (!(Ze (Tree.mk a.2.1.1 [] [a.1]) 64)))
def Ziw(a:Tree × (Int × Unit) × Unit):List (List (C U)):=[[ci a.2.1.1]]
def Z9A:Fs U:=fsX ZjL (fun a=> [Zfv a]) Zmq Ziw
def ZjK:ArgM (List Tree × (Int × Unit) × Unit):=(.cons (aSl .tree) (.clo 159 0 (.cons (ZlS .i64) .nil) .nil))
def Zfs(a:List Tree × (Int × Unit) × Unit):Prop:=Zk a.1<=18000000000/\Yl a.1/\InR a.2.1.1
def ZiB(a:List Tree × (Int × Unit) × Unit):V U:= .c (ci (Z5Q a.2.1.1 a.1 0))
def ZdS(a:List Tree × (Int × Unit) × Unit):List (List (C U)):=[[ci a.2.1.1]]
def Z9v:Fs U:=fsX ZjK (fun a=> [Zfs a]) ZiB ZdS
def Zmr(a:List Tree × (Int × Unit) × Unit):V U:= .c (.bool (!(JS a.2.1.1 a.1)))
def Z5h:Fs U:=fsX ZjK (fun a=> [Zfs a]) Zmr ZdS
def ZpX:List (FuncId × Fs U):=[(160,Z9z)]
def Zvm:Zd U:=lvk [([1,2],[2,((.x 0),[])]),([3],[((.x 0),[])])]
abbrev ZJN(t:Tree)(list:Int)(Q:QT):=AW (Z1 ZpX) Tryz.f159 Zvm [] (L2 [(0,.agg (enc .tree t)),(1,.ptr (.x 0) 0)] [(.x 0,[ci list])]) Q
theorem ZH2(t:Tree)(list:Int)(Q:QT)(h:let z0:=Tree.mk t.kind t.words t.kids;(Zfu (list,z0,()))/\(Q .ret (L2 [(3,.c (.bool (!(Ze (Tree.mk list [] [z0]) 64))))] [(.x 0,[ci list])]))):
  ZJN t list Q:=
 Eq.mpr V4 h
def ZAQ(t:Tree)(list:Int):Prop:=AW (Z1 ZpX) Tryz.f159 Zvm [] (Zg (ZjL.can (t,(list,()),())) (ZjL.canX (t,(list,()),()))) (EQ Tryz.f159 (Zmq (t,(list,()),())) (Ziw (t,(list,()),())))
theorem Zzc(ZEy:CT 160 Z9z)(hb:∀ (t:Tree) (list:Int) (_:Unit),Zfv (t,(list,()),())->ZAQ t list):CT 159 Z9A:=
 J3 (l:=[(160,Z9z)]) Zi rfl (⟨ZEy,trivial⟩) Zvm Tryz.func159 rfl rfl 2 (fun _=> rfl) V2 (fun ⟨t,⟨list,_⟩,_⟩=> hb t list ())
def Z7r:List (FuncId × Fs U):=[(159,Z9A)]
def Zg3:Zd U:=lvk [([0,1],[((.x 0),[])]),([0,1,7,8],[((.x 0),[])]),([0,1,7,8,9],[((.x 0),[])]),([0,1,5,7,8],[((.x 0),[])]),([0,1,5,7,8,16],[((.x 0),[])]),([4],[((.x 0),[])]),([0,1,7,8],[((.x 0),[])]),([4],[((.x 0),[])])]
def Z7z(l:List Tree)(list x8:Int):LSt U:=(L2 [(0,.c (sU .tree l .unk)),(1,.clo 159 [(.x 0)]),pI 7 (l.length:Int),pI 8 x8] [(.x 0,[ci list])])
abbrev ZJK(l:List Tree)(list:Int)(Q:QT):=AW (Z1 Z7r) Tryz.f186 Zg3 [] (L2 [(0,.c (sU .tree l .unk)),(1,.clo 159 [(.x 0)])] [(.x 0,[ci list])]) Q
theorem ZGJ(l:List Tree)(list:Int)(Q:QT)(h:Zj (AW (Z1 Z7r) Tryz.f186 Zg3 [1,0,1,0,0]) (Z7z l list 0) (xB 0 (SW (Z1 Z7r) Tryz.f186 Zg3 [1,1] Q))):
  ZJK l list Q:=
 Eq.mpr V4 h
abbrev ZAi(l:List Tree)(list x8:Int)(N0:NT)(Q:QT):=AW (Z1 Z7r) Tryz.f186 Zg3 [1,0,1,0,0] (Z7z l list x8) (xT N0 (xB 0 (SW (Z1 Z7r) Tryz.f186 Zg3 [1,1] Q)))
theorem ZsP(l:List Tree)(list x8:Int)(N0:NT)(Q:QT)(h:let z1:=l.getD x8.toNat Tree.nil;let z0:=Tree.mk (Tree.kind z1) (Tree.words z1) (Tree.kids z1);iB (decide (x8 < (l.length:Int))) (((0:Int)<=x8/\x8 < (l.length:Int))/\(Zfv (z0,(list,()),()))/\(iB (!(Ze (Tree.mk list [] [z0]) 64)) (Q .ret (L2 [pI 4 x8] [(.x 0,[ci list])])) ((InR (x8+1))/\(N0 (Z7z l list (x8+1)))))) (Q .ret (L2 [pI 4 (-1)] [(.x 0,[ci list])]))):
  ZAi l list x8 N0 Q:=
 Eq.mpr V4 h
def ZAx(l:List Tree)(list:Int):Prop:=AW (Z1 Z7r) Tryz.f186 Zg3 [] (Zg (ZjK.can (l,(list,()),())) (ZjK.canX (l,(list,()),()))) (EQ Tryz.f186 (ZiB (l,(list,()),())) (ZdS (l,(list,()),())))
theorem ZyX(ZEz:CT 159 Z9A)(hb:∀ (l:List Tree) (list:Int) (_:Unit),Zfs (l,(list,()),())->ZAx l list):CT 186 Z9v:=
 J3 (l:=[(159,Z9A)]) Zi rfl (⟨ZEz,trivial⟩) Zg3 Tryz.func186 rfl rfl 2 (fun _=> rfl) V2 (fun ⟨l,⟨list,_⟩,_⟩=> hb l list ())
def ZpY:List (FuncId × Fs U):=[(186,Z9v)]
def Zvn:Zd U:=lvk [([0,1],[((.x 0),[])]),([4],[((.x 0),[])])]
abbrev ZJO(l:List Tree)(list:Int)(Q:QT):=AW (Z1 ZpY) Tryz.f158 Zvn [] (L2 [(0,.c (sU .tree l .unk)),(1,.clo 159 [(.x 0)])] [(.x 0,[ci list])]) Q
theorem ZH3(l:List Tree)(list:Int)(Q:QT)(h:(Zfs (l,(list,()),()))/\(Q .ret (L2 [pB 4 (decide ((0:Int)<=(Z5Q list l 0)))] [(.x 0,[ci list])]))):
  ZJO l list Q:=
 Eq.mpr V4 h
def ZAR(l:List Tree)(list:Int):Prop:=AW (Z1 ZpY) Tryz.f158 Zvn [] (Zg (ZjK.can (l,(list,()),())) (ZjK.canX (l,(list,()),()))) (EQ Tryz.f158 (Zmr (l,(list,()),())) (ZdS (l,(list,()),())))
theorem Zzd(ZEk:CT 186 Z9v)(hb:∀ (l:List Tree) (list:Int) (_:Unit),Zfs (l,(list,()),())->ZAR l list):CT 158 Z5h:=
 J3 (l:=[(186,Z9v)]) Zi rfl (⟨ZEk,trivial⟩) Zvn Tryz.func158 rfl rfl 2 (fun _=> rfl) V2 (fun ⟨l,⟨list,_⟩,_⟩=> hb l list ())
end
theorem ZEz:Contract Tryz.prog cfg 159 Z9A:=by
 refine Zzc ZEy ?_
 intro t list _ hp
 simp only [Zfv] at hp
 refine ZH2 _ _ _ ?_
 (simp only [Tree.eta,Edit.eta,Tree.kind_mk,Tree.words_mk,Tree.kids_mk])
 refine ⟨by simp only [Zfu];exact hp,?_⟩
 simp only [Zmq,Ziw]
 exact JR
theorem Zgz{list:Int}{l:List Tree}:∀ (i:Nat),(∀ t∈l.take i,Ze (Tree.mk list [] [t]) 64=true)->i<=l.length->Z5Q list l 0=Z5Q list (l.drop i) i
 | 0,_,_=> by simp
 | i+1,h,hi=> by
  have ih:=Zgz i (fun t ht=> h t (by rw [XJ];exact Qi.2 (Or.inl ht))) YL
  rw [ih]
  have e:l.drop i=l.getD i Tree.nil ::l.drop (i+1):=by
   have:=ZH (l:=l) (i:=(i:Int)) YL YL Tree.nil
   simpa using this
  have hm:l.getD i Tree.nil∈l.take (i+1):=by
   rw [List.mem_take_iff_getElem]
   exact ⟨i,YL,by simp [List.getD,Q4 (show i < l.length by omega)]⟩
  rw [e,Z5Q,if_pos (h _ hm)]
  simp
theorem ZEk:Contract Tryz.prog cfg 186 Z9v:=by
 refine ZyX ZEz ?_
 intro l list _ hp
 simp only [Zfs] at hp
 refine ZGJ _ _ _ ?_
 refine Z4 (ι:=Int) (fun s=> Z7z l list s) (fun s=> 0<=s/\s<=l.length/\∀ t∈l.take s.toNat,Ze (Tree.mk list [] [t]) 64=true) (fun s=> ((l.length:Int) - s).toNat) 0 rfl ⟨by simp,by simp,by simp⟩ ?_
 rintro i ⟨g1,g2,g3⟩
 have hb:=Zgz (list:=list) (l:=l) i.toNat g3 YL
 have hl:=Zv l
 refine ZsP _ _ _ _ _ ?_
 (simp only [iB,vcS])
 (simp only [Tree.eta,Edit.eta,Tree.kind_mk,Tree.words_mk,Tree.kids_mk])
 refine ⟨fun hi=> ⟨⟨g1,hi⟩,?_,fun hc=> ?_,fun hc=> ?_⟩,fun hi=> ?_⟩
 .have hm:=Zf (l:=l) (i:=i.toNat) YL Tree.nil
  simp only [Zfv]
  have h1:=Yx hm
  exact ⟨YL,YZ hp.2.1 hm,hp.2.2⟩
 .rw [ZH g1 hi Tree.nil,Z5Q,if_neg (by grind)] at hb
  simp only [ZiB,ZdS]
  rw [hb,show ((i.toNat:Nat):Int)=i by omega]
  exact JR
 .refine ⟨V3,i+1,rfl,⟨YL,YL,fun t ht=> ?_⟩,YL⟩
  rw [show (i+1).toNat=i.toNat+1 by omega,XJ] at ht
  grind
 .rw [Q6 YL] at hb
  simp only [ZiB,ZdS]
  rw [hb,Z5Q]
  exact JR
theorem ZEA:Contract Tryz.prog cfg 158 Z5h:=by
 refine Zzd ZEk ?_
 intro l list _ hp
 simp only [Zfs] at hp
 refine ZH3 _ _ _ ?_
 have hb:=Zi2 list l 0 V2
 refine ⟨by simp only [Zfs];exact hp,?_⟩
 have e:decide (0<=Z5Q list l 0)= !(JS list l):=by
  rw [Qr,decide_eq_true_eq,hb]
  cases JS list l <;> simp
 simp only [Zmr,ZdS]
 rw [e]
 exact JR
noncomputable section
def ZBr(a:Edit × Unit):V U:= .c (.bool (Z4T a.1))
def Z8D:Fs U:=fs ZwS (fun a=> [Zfl a]) ZBr
abbrev ZJV(t:Tree)(Q:QT):=AW (Z1 Znz) Tryz.f135 ZE4 [] (L2 [(0,.agg (enc .tree t))] []) Q
theorem ZHh(t:Tree)(Q:QT)(h:((Tt (t.kind==0))/\(Tt (t.kind==0))/\(Tt (t.kind==0))/\(Tt (t.kind==0))/\(Tt (t.kind==0))/\(Tt (t.kind==0))/\((t.kind==0)=true->InR (((t.words.length:Int):Int)+(t.kids.length:Int)))/\(Tt (t.kind==0))/\(Tt (t.kind==0))/\(Q .ret (L2 [(2,.c (.bool (bif (t.kind==0) then (((((t.words.length:Int):Int)+(t.kids.length:Int)):Int)==0) else false)))] [])))):
  ZJV t Q:=
 Eq.mpr V4 h
def ZB5(t:Tree):Prop:=AW (Z1 Znz) Tryz.f135 ZE4 [] (Zg (Zxh.can (t,())) []) (EQ Tryz.f135 (ZBz (t,())) [])
theorem Zzm(hb:∀ (t:Tree) (_:Unit),Z6d (t,())->ZB5 t):CT 135 Z56:=
 Z2 (l:=[]) Zi rfl trivial ZE4 Tryz.func135 rfl rfl 1 (fun _=> rfl) V2 (fun ⟨t,_⟩=> hb t ())
def ZvQ:List (FuncId × Fs U):=[(135,Z56)]
def ZDI:Zd U:=lvl [([1],[1]),([1,3],[1]),([1,4],[1]),([2],[]),([1,21],[1]),([2],[]),([2],[])]
abbrev W95(e:Edit)(Q:QT):=AW (Z1 ZvQ) Tryz.f95 ZDI [] (L2 [(0,.agg (enc .edit e))] []) Q
theorem ZIF(e:Edit)(Q:QT)(h:∀ y_1,y_1=(e.new)->∀ y_2,y_2=(e.old)->let z2:=(Q .ret (L2 [pB 2 false] []));let z1:=(!(e.kind==3)) && (e.list==0);let z0:=(e.kind !=1) && (Yz y_2);((Tt (e.kind !=1))/\(Tt (e.kind !=1))/\(Tt (e.kind !=1))/\((e.kind !=1)=true->Z6d (y_2,()))/\(Tt (e.kind !=1))/\(Tt z0)/\(Tt z0)/\(Tt z0)/\(z0=true->Z6d (y_1,()))/\((e.kind !=1)=true->(True->(e.kind !=1)=true))/\((e.kind !=1)=true->((Yz y_2)=true->z0=true))/\(Tt (e.kind !=1))/\(Tt (e.kind !=1))/\(iB (bif (e.kind !=1) then (!(bif (Yz y_2) then (Yz y_1) else false)) else false) z2 ((Tt (e.kind !=2))/\(Tt (e.kind !=2))/\(Tt (e.kind !=2))/\(Tt (e.kind !=2))/\(Tt (e.kind !=2))/\(Tt (e.kind !=2))/\((e.kind !=2)=true->InR (((e.words.length:Int):Int)+(e.kids.length:Int)))/\(Tt (e.kind !=2))/\(Tt (e.kind !=2))/\(iB (bif (e.kind !=2) then (decide ((0:Int) < (((e.words.length:Int):Int)+(e.kids.length:Int)))) else false) z2 ((Tt (!(e.kind==3)))/\(Tt (!(e.kind==3)))/\(Tt (!(e.kind==3)))/\(Tt z1)/\(Tt z1)/\(Tt z1)/\((!(e.kind==3))=true->(True->(!(e.kind==3))=true))/\((!(e.kind==3))=true->((e.list==0)=true->z1=true))/\((e.kind==3)=false->(!(e.kind==3))=true)/\(Q .ret (L2 [(2,.c (.bool (bif (e.kind==3) then true else (bif (e.list==0) then (((e.ops.length:Int):Int)==0) else false))))] [])))))))):
  W95 e Q:=
 Eq.mpr V4 (h _ (Za _) _ (Za _))
def ZFx(e:Edit):Prop:=AW (Z1 ZvQ) Tryz.f95 ZDI [] (Zg (ZwS.can (e,())) []) (EQ Tryz.f95 (ZBr (e,())) [])
theorem ZCZ(ZEI:CT 135 Z56)(hb:∀ (e:Edit) (_:Unit),Zfl (e,())->ZFx e):CT 95 Z8D:=
 Z2 (l:=[(135,Z56)]) Zi rfl (⟨ZEI,trivial⟩) ZDI Tryz.func95 rfl rfl 1 (fun _=> rfl) V2 (fun ⟨e,_⟩=> hb e ())
end
theorem ZEI:Contract Tryz.prog cfg 135 Z56:=by
 refine Zzm ?_
 intro t _ hp
 simp only [Z6d] at hp
 have:=Zlm t
 refine ZHh t _ ?_
 simp only [iB,vcT,vcS,aiT,true_and]
 refine ⟨fun _=> by unfold InR;omega,Z6 rfl ?_⟩
 rw [Qr]
 simp only [Yz]
 grind
theorem c95:Contract Tryz.prog cfg 95 Z8D:=by
 refine ZCZ ZEI ?_
 intro e _ hp
 simp only [Zfl] at hp
 have h1:=ZT e
 have h2:=Y1 e.kids
 refine ZIF e _ ?_
 rintro y1 rfl y2 rfl
 simp only [iB,vcT,vcS,aiT,true_and]
 refine ⟨fun _=> by simp only [Z6d];omega,fun _=> by simp only [Z6d];omega,fun h=> ?_,fun h=> ⟨fun _=> by unfold InR;omega,fun h3=> ?_,fun h3=> ?_⟩⟩
 .refine Z6 rfl ?_
  show false=Z4T e
  unfold Z4T
  grind
 .refine Z6 rfl ?_
  show false=Z4T e
  unfold Z4T
  grind
 .refine Z6 rfl ?_
  show _=Z4T e
  unfold Z4T
  grind
noncomputable section
def Z17(a:Edit × Int × Unit):Prop:=(Z8 a.1<=18000000000/\YI a.1)/\0<=a.2.1/\a.2.1<=1000
def Z84(a:Edit × Int × Unit):Nat:=4*Z8 a.1
def ZeC:Fs U:=fs ZjF (fun a=> [Z17 a]) ZoY
def Z9f:ArgL (List Kid × Int × Unit):=(.cons (aSl .kid) (.cons (Ya .i64) .nil))
def Z8i(a:List Kid × Int × Unit):Prop:=(Zy a.1<=18000000000/\Z1l a.1)/\0<=a.2.1/\a.2.1<=1000
def ZiW(a:List Kid × Int × Unit):Nat:=4*Zy a.1+2
def ZcO(a:List Kid × Int × Unit):V U:= .c (.bool (Zx (-1) a.1 a.2.1))
def ZtC:Fs U:=fs Z9f (fun a=> [Z8i a]) ZcO
def Z8h(a:Edit × Int × Unit):Prop:=(Z8 a.1<=18000000000/\YI a.1/\2<=Edit.list a.1/\Edit.list a.1<=9)/\0<=a.2.1/\a.2.1<=1000
def ZiV(a:Edit × Int × Unit):Nat:=4*Zn a.1.ops+2
def Zf5(a:Edit × Int × Unit):V U:= .c (.bool (Zw a.1.list a.1.ops a.2.1 && decide (Z1i a.1.ops 0 < 1048576/\Z1h a.1.ops 0 < 1048576)))
def ZtB:Fs U:=fs ZjF (fun a=> [Z8h a]) Zf5
def Z45(a:Int × Op × Int × Unit):Prop:=(Zt a.2.1<=18000000000/\YJ a.2.1/\2<=a.1/\a.1<=9)/\0<=a.2.2.1/\a.2.2.1<=1000
def Zal(a:Int × Op × Int × Unit):Nat:=4*Zt a.2.1+1
def Zoy:Fs U:=fs ZjC (fun a=> [Z45 a]) ZoS
def Zpb(a:Edit × Unit):Prop:=Z8 a.1<=18000000000/\YI a.1
def ZBC(a:Edit × Unit):V U:= .c (.bool (Z9 a.1 64))
def ZeJ:Fs U:=fs ZwS (fun a=> [Zpb a]) ZBC
def Z99(N:Nat):List (FuncId × Fs U):=(62,fs ZjF (fun a=> [Z17 a,Z84 a < N]) ZoY) ::(98,fs Z9f (fun a=> [Z8i a,ZiW a < N]) ZcO) ::(99,fs ZjF (fun a=> [Z8h a,ZiV a < N]) Zf5) ::(137,fs ZjC (fun a=> [Z45 a,Zal a < N]) ZoS) ::[(95,Z8D),(96,Z8C),(97,Z8B),(93,Z3S),(158,Z5h),(161,Z5g),(138,Z5i)]
def ZDS:Zd U:=lvl [([1,2],[2]),([1,2,11],[2]),([4],[]),([1,2,13],[2]),([1,2,13,14],[2]),([4],[]),([1,2,13,16],[2]),([4],[]),([1,2,13,26],[2]),([4],[]),([1,2,38],[2]),([4],[]),([4],[])]
abbrev W62(N:Nat)(e:Edit)(d:Int)(Q:QT):=AW (Z1 (Z99 N)) Tryz.f62 ZDS [] (L2 [(0,.agg (enc .edit e)),pI 1 d] []) Q
theorem ZIY(N:Nat)(e:Edit)(d:Int)(Q:QT)(h:∀ y_1,y_1=e->∀ y_2,y_2=(e.new)->∀ y_3,y_3=(e.old)->let z3:=(Q .ret (L2 [pB 4 false] []));let z2:=ZN (-1) e.words;let z1:=decide (Tree.kind y_3≠10) && Ze y_3 64;let z0:=decide (2<=e.list/\e.list<=9);((Zfl (y_1,()))/\(Tt (!(!(Z4T y_1))))/\((!(Z4T y_1))=false->(!(!(Z4T y_1)))=true)/\(iB (bif (!(Z4T y_1)) then true else (d==0)) z3 ((iB (e.kind==0) ((Q .ret (L2 [pB 4 true] []))) ((iB (e.kind==1) ((Zhu (y_3,()))/\(Tt z1)/\(Tt z1)/\(z1=true->Zhu (y_2,()))/\(Tt z1)/\(Q .ret (L2 [pB 4 (bif z1 then (decide (Tree.kind y_2≠10) && Ze y_2 64) else false)] []))) ((iB (e.kind==2) ((ZkJ (e.words,()))/\(Tt z2)/\(Tt z2)/\(z2=true->InR (d - 1))/\(Tt z2)/\(Tt z2)/\(z2=true->Z8i (e.kids,(d - 1),()))/\(z2=true->ZiW (e.kids,(d - 1),()) < N)/\(Tt z2)/\(Q .ret (L2 [pB 4 (bif z2 then (Zx (-1) e.kids (d - 1)) else false)] []))) ((iB (e.kind==3) ((Zuz (e.list,()))/\(Tt z0)/\(z0=true->InR (d - 1))/\(Tt z0)/\(Tt z0)/\(z0=true->Z8h (y_1,(d - 1),()))/\(z0=true->ZiV (y_1,(d - 1),()) < N)/\(Tt z0)/\(Q .ret (L2 [pB 4 (bif z0 then (Zw y_1.list y_1.ops (d - 1) && decide (Z1i y_1.ops 0 < 1048576/\Z1h y_1.ops 0 < 1048576)) else false)] []))) z3))))))))))):
  W62 N e d Q:=
 Eq.mpr V4 (h _ (Z7 _) _ (Za _) _ (Za _))
def ZFQ(N:Nat)(e:Edit)(d:Int):Prop:=AW (Z1 (Z99 N)) Tryz.f62 ZDS [] (Zg (ZjF.can (e,d,())) []) (EQ Tryz.f62 (ZoY (e,d,())) [])
abbrev ZIp:Prop:=∀ (N:Nat) (e:Edit) (d:Int) (_:Unit),Z17 (e,d,())->Z84 (e,d,()) < N+1->ZFQ N e d
def Zn3:Zd U:=lvl [([0,1],[]),([0,1,7,8,9],[]),([0,1,7,8,9,10],[]),([0,1,5,6,7,8,9],[6]),([0,1,7,8,9,49],[]),([4],[]),([0,1,7,8,9],[]),([4],[])]
def ZaA(l:List Kid)(d x9:Int):LSt U:=(L2 [(0,.c (sU .kid l .unk)),pI 1 d,(7,.c (sU .kid l .unk)),pI 8 (l.length:Int),pI 9 x9] [])
abbrev W98(N:Nat)(l:List Kid)(d:Int)(Q:QT):=AW (Z1 (Z99 N)) Tryz.f98 Zn3 [] (L2 [(0,.c (sU .kid l .unk)),pI 1 d] []) Q
theorem ZIC(N:Nat)(l:List Kid)(d:Int)(Q:QT)(h:Zj (AW (Z1 (Z99 N)) Tryz.f98 Zn3 [1,0,1,0,0]) (ZaA l d 0) (xB 0 (SW (Z1 (Z99 N)) Tryz.f98 Zn3 [1,1] Q))):
  W98 N l d Q:=
 Eq.mpr V4 h
abbrev ZF9(N:Nat)(l:List Kid)(d x9:Int)(N0:NT)(Q:QT):=AW (Z1 (Z99 N)) Tryz.f98 Zn3 [1,0,1,0,0] (ZaA l d x9) (xT N0 (xB 0 (SW (Z1 (Z99 N)) Tryz.f98 Zn3 [1,1] Q)))
theorem ZxI(N:Nat)(l:List Kid)(d x9:Int)(N0:NT)(Q:QT)(h:∀ y_1,y_1=(l.getD x9.toNat (KidOf.mk 0 Edit.nil))->∀ y_2,y_2=(List.getD l (Int.toNat (x9 - 1)) (KidOf.mk 0 Edit.nil))->∀ y_3,y_3=(y_1.e)->let z5:=decide ((0:Int) < x9);let z4:=decide (y_1.at_ < 0);let z0:=bif z4 then true else (decide ((65535:Int)<=y_1.at_));let z2:=(!z0) && z5;let z1:=bif z0 then true else (bif z5 then (decide (y_1.at_<=y_2.at_)) else false);let z3:=bif z1 then true else (y_1.e.kind==0);(iB (decide (x9 < (l.length:Int))) (((0:Int)<=x9/\x9 < (l.length:Int))/\((Tt (!z4))/\(Tt (!z4))/\(z4=false->(!z4)=true)/\(Tt (!z0))/\(Tt (!z0))/\(Tt z2)/\(z2=true->InR (x9 - 1))/\(Tt z2)/\(Tt z2)/\(z2=true->(0:Int)<=(x9 - 1)/\(x9 - 1) < (l.length:Int))/\(Tt z2)/\(Tt z2)/\(Tt z2)/\(Tt z2)/\(Tt z2)/\((!z0)=true->(True->(!z0)=true))/\((!z0)=true->(z5=true->z2=true))/\(z0=false->(!z0)=true)/\(Tt (!z1))/\(Tt (!z1))/\(Tt (!z1))/\(z1=false->(!z1)=true)/\(Tt (!z3))/\(Tt (!z3))/\(Tt (!z3))/\((!z3)=true->Z17 (y_3,d,()))/\((!z3)=true->Z84 (y_3,d,()) < N)/\(Tt (!z3))/\(z3=false->(!z3)=true)/\(iB (bif z3 then true else (!(Z9 y_3 d))) ((Q .ret (L2 [pB 4 false] []))) ((InR (x9+1))/\(N0 (ZaA l d (x9+1))))))) ((Q .ret (L2 [pB 4 true] []))))):
  ZF9 N l d x9 N0 Q:=
 Eq.mpr V4 (h _ rfl _ rfl _ (Z7 _))
def ZFu(N:Nat)(l:List Kid)(d:Int):Prop:=AW (Z1 (Z99 N)) Tryz.f98 Zn3 [] (Zg (Z9f.can (l,d,())) []) (EQ Tryz.f98 (ZcO (l,d,())) [])
abbrev ZIi:Prop:=∀ (N:Nat) (l:List Kid) (d:Int) (_:Unit),Z8i (l,d,())->ZiW (l,d,()) < N+1->ZFu N l d
def Zn2:Zd U:=lvl [([1,2],[2]),([1,2,10,11,12],[2]),([1,2,10,11,12,13],[2]),([1,2,6,10,11,12],[2,6]),([1,2,10,11,12,21],[2]),([4],[]),([1,2,10,11,12],[2]),([7,8],[]),([4],[])]
def Zaz(e:Edit)(d x12:Int):LSt U:=(L2 [pI 1 d,pL 2,(10,.c (sU .op e.ops .unk)),pI 11 (e.ops.length:Int),pI 12 x12] [(.loc 2,(enc .edit e))])
abbrev W99(N:Nat)(e:Edit)(d:Int)(Q:QT):=AW (Z1 (Z99 N)) Tryz.f99 Zn2 [] (L2 [(0,.agg (enc .edit e)),pI 1 d] []) Q
theorem ZIB(N:Nat)(e:Edit)(d:Int)(Q:QT)(h:Zj (AW (Z1 (Z99 N)) Tryz.f99 Zn2 [1,0,1,0,0]) (Zaz e d 0) (xB 0 (SW (Z1 (Z99 N)) Tryz.f99 Zn2 [1,1] Q))):
  W99 N e d Q:=
 Eq.mpr V4 h
abbrev ZF8(N:Nat)(e:Edit)(d x12:Int)(N0:NT)(Q:QT):=AW (Z1 (Z99 N)) Tryz.f99 Zn2 [1,0,1,0,0] (Zaz e d x12) (xT N0 (xB 0 (SW (Z1 (Z99 N)) Tryz.f99 Zn2 [1,1] Q)))
theorem ZxH(N:Nat)(e:Edit)(d x12:Int)(N0:NT)(Q:QT)(h:∀ y_1,y_1=e->∀ y_2,y_2=(e.ops.getD x12.toNat Op.nil)->∀ y_3,y_3=y_2->let z0:=decide (((Z3g y_1.ops 0):Int) < 1048576);(iB (decide (x12 < (e.ops.length:Int))) (((0:Int)<=x12/\x12 < (e.ops.length:Int))/\((Z45 (e.list,y_3,d,()))/\(Zal (e.list,y_3,d,()) < N)/\(iB (!(Zc e.list y_3 d)) ((Q .ret (L2 [pB 4 false] []))) ((InR (x12+1))/\(N0 (Zaz e d (x12+1))))))) ((Zfl (y_1,()))/\((Tt z0)/\(Tt z0)/\(Q .ret (L2 [(4,.c (.bool (bif z0 then (decide (((Z3f y_1.ops 0):Int) < 1048576)) else false)))] [])))))):
  ZF8 N e d x12 N0 Q:=
 Eq.mpr V4 (h _ (Z7 _) _ rfl _ (YP _))
def ZFt(N:Nat)(e:Edit)(d:Int):Prop:=AW (Z1 (Z99 N)) Tryz.f99 Zn2 [] (Zg (ZjF.can (e,d,())) []) (EQ Tryz.f99 (Zf5 (e,d,())) [])
abbrev ZIh:Prop:=∀ (N:Nat) (e:Edit) (d:Int) (_:Unit),Z8h (e,d,())->ZiV (e,d,()) < N+1->ZFt N e d
def Zvs:Zd U:=lvl [([2,3,4],[3,4]),([2,3,4,8],[3,4]),([2,3,4,8,9],[3,4]),([2,3,4,8,11],[3,4]),([2,3,4,8,13],[3,4]),([2,3,4,15],[3,4]),([6],[]),([6],[]),([6],[]),([6],[])]
abbrev ZJT(N:Nat)(list:Int)(o:Op)(d:Int)(Q:QT):=AW (Z1 (Z99 N)) Tryz.f137 Zvs [] (L2 [pI 0 list,(1,.agg (enc .op o)),pI 2 d] []) Q
theorem ZHf(N:Nat)(list:Int)(o:Op)(d:Int)(Q:QT)(h:∀ y_1,y_1=(o.e)->∀ y_2,y_2=(.bool (bif (bif (bif (bif (o.n==0) then (decide ((0:Int) < (o.l.length:Int))) else false) then (Z9 y_1 1) else false) then (o.e.kind==0) else false) then (!(!(JS list o.l))) else false))->let z10:=Q .ret (L2 [(6,.c y_2)] []);let z9:=((o.l.length:Int):Int)==0;let z8:=decide ((1:Int)<=o.n);let z4:=bif z8 then (decide (o.n<=1048576)) else false;let z3:=bif (o.n==0) then z9 else false;let z6:=bif z3 then (Z1M list y_1) else false;let z1:=bif z4 then z9 else false;let z7:=bif z1 then (Z9 y_1 1) else false;let z0:=bif (o.n==0) then (decide ((0:Int) < (o.l.length:Int))) else false;let z5:=bif z0 then (Z9 y_1 1) else false;let z2:=bif z5 then (o.e.kind==0) else false;(iB (o.kind==0) ((Tt z8)/\(Tt z8)/\(Tt z8)/\(Tt z4)/\(Tt z4)/\(Tt z4)/\(Tt z4)/\(Tt z1)/\(Tt z1)/\(z1=true->Z17 (y_1,1,()))/\(z1=true->Z84 (y_1,1,()) < N)/\(Tt z1)/\(Tt z7)/\(Tt z7)/\(Tt z7)/\(Tt z7)/\(Q .ret (L2 [(6,.c (.bool (bif z7 then (o.e.kind==0) else false)))] []))) ((iB (o.kind==1) ((Tt (o.n==0))/\(Tt (o.n==0))/\(Tt (o.n==0))/\(Tt (o.n==0))/\(Tt z0)/\(Tt z0)/\(z0=true->Z17 (y_1,1,()))/\(z0=true->Z84 (y_1,1,()) < N)/\(Tt z0)/\(Tt z5)/\(Tt z5)/\(Tt z5)/\(Tt z5)/\(Tt z2)/\(Tt z2)/\(Tt z2)/\(z2=true->Zfs (o.l,(list,()),()))/\(Tt z2)/\(Tt z2)/\z10) ((iB (o.kind==2) ((Tt (o.n==0))/\(Tt (o.n==0))/\(Tt (o.n==0))/\(Tt (o.n==0))/\(Tt z0)/\(Tt z0)/\(z0=true->Z17 (y_1,1,()))/\(z0=true->Z84 (y_1,1,()) < N)/\(Tt z0)/\(Tt z5)/\(Tt z5)/\(Tt z5)/\(Tt z5)/\(Tt z2)/\(Tt z2)/\(Tt z2)/\(z2=true->Zfs (o.l,(list,()),()))/\(Tt z2)/\(Tt z2)/\z10) ((iB (o.kind==3) ((Tt (o.n==0))/\(Tt (o.n==0))/\(Tt (o.n==0))/\(Tt (o.n==0))/\(Tt z3)/\(Tt z3)/\(Tt z3)/\(z3=true->ZmJ (list,y_1,()))/\(Tt z3)/\(Tt z6)/\(Tt z6)/\(Tt z6)/\(z6=true->Z17 (y_1,d,()))/\(z6=true->Z84 (y_1,d,()) < N)/\(Tt z6)/\(Q .ret (L2 [(6,.c (.bool (bif z6 then (Z9 y_1 d) else false)))] []))) ((Q .ret (L2 [pB 6 false] []))))))))))):
  ZJT N list o d Q:=
 Eq.mpr V4 (h _ (Z7 _) _ rfl)
def ZB3(N:Nat)(list:Int)(o:Op)(d:Int):Prop:=AW (Z1 (Z99 N)) Tryz.f137 Zvs [] (Zg (ZjC.can (list,o,d,())) []) (EQ Tryz.f137 (ZoS (list,o,d,())) [])
abbrev ZCl:Prop:=∀ (N:Nat) (list:Int) (o:Op) (d:Int) (_:Unit),Z45 (list,o,d,())->Zal (list,o,d,()) < N+1->ZB3 N list o d
def Zw7:List (FuncId × Fs U):=[(62,ZeC)]
abbrev W31(e:Edit)(Q:QT):=AW (Z1 Zw7) Tryz.f31 ZE4 [] (L2 [(0,.agg (enc .edit e))] []) Q
theorem ZJk(e:Edit)(Q:QT)(h:let z0:=Edit.mk e.kind (Tree.mk e.old.kind e.old.words e.old.kids) (Tree.mk e.new.kind e.new.words e.new.kids) e.words e.kids e.list e.ops;(Z17 (z0,64,()))/\(Q .ret (L2 [pB 2 (Z9 z0 64)] []))):
  W31 e Q:=
 Eq.mpr V4 h
def ZGc(e:Edit):Prop:=AW (Z1 Zw7) Tryz.f31 ZE4 [] (Zg (ZwS.can (e,())) []) (EQ Tryz.f31 (ZBC (e,())) [])
theorem ZDt(c62:CT 62 ZeC)(hb:∀ (e:Edit) (_:Unit),Zpb (e,())->ZGc e):CT 31 ZeJ:=
 Z2 (l:=[(62,ZeC)]) Zi rfl (⟨c62,trivial⟩) ZE4 Tryz.func31 rfl rfl 1 (fun _=> rfl) V2 (fun ⟨e,_⟩=> hb e ())
theorem ZyP(c95:CT 95 Z8D)(c96:CT 96 Z8C)(c97:CT 97 Z8B)(c93:CT 93 Z3S)(ZEA:CT 158 Z5h)(ZEx:CT 161 Z5g)(ZEH:CT 138 Z5i)(b62:ZIp)(b98:ZIi)(b99:ZIh)(ZF1:ZCl):
  CT 62 ZeC/\CT 98 ZtC/\CT 99 ZtB/\CT 137 Zoy:=by
 have h87 : ∃ fn, Tryz.prog.funcs[(62 : FuncId)]? = some fn ∧ fn.body.isSome = true ∧ (fn.name == "runtime.NumGoroutine") = false := ⟨Tryz.f62, Tryz.func62, rfl, rfl⟩
 have h121 : ∃ fn, Tryz.prog.funcs[(98 : FuncId)]? = some fn ∧ fn.body.isSome = true ∧ (fn.name == "runtime.NumGoroutine") = false := ⟨Tryz.f98, Tryz.func98, rfl, rfl⟩
 have h122 : ∃ fn, Tryz.prog.funcs[(99 : FuncId)]? = some fn ∧ fn.body.isSome = true ∧ (fn.name == "runtime.NumGoroutine") = false := ⟨Tryz.f99, Tryz.func99, rfl, rfl⟩
 have h132 : ∃ fn, Tryz.prog.funcs[(137 : FuncId)]? = some fn ∧ fn.body.isSome = true ∧ (fn.name == "runtime.NumGoroutine") = false := ⟨Tryz.f137, Tryz.func137, rfl, rfl⟩
 have key:∀ N,CT 62 (fs ZjF (fun a=> [Z17 a,Z84 a < N]) ZoY)/\CT 98 (fs Z9f (fun a=> [Z8i a,ZiW a < N]) ZcO)/\CT 99 (fs ZjF (fun a=> [Z8h a,ZiV a < N]) Zf5)/\CT 137 (fs ZjC (fun a=> [Z45 a,Zal a < N]) ZoS):=by
  intro N
  induction N with
  | zero=> exact ⟨Yo h87,Yo h121,Yo h122,Yo h132⟩
  | succ N ih=>
   have kn:=JV (l:=Z99 N) ⟨ih.1,ih.2.1,ih.2.2.1,ih.2.2.2,c95,c96,c97,c93,ZEA,ZEx,ZEH,trivial⟩
   exact ⟨Zr (Γ:=Z1 (Z99 N)) Zi rfl kn ZDS Tryz.func62 rfl rfl (fun a=> by show 2<=_;decide) (fun ⟨e,d,_⟩ h=> b62 N e d () h.1 h.2.1),
    Zr (Γ:=Z1 (Z99 N)) Zi rfl kn Zn3 Tryz.func98 rfl rfl (fun a=> by show 2<=_;decide) (fun ⟨l,d,_⟩ h=> b98 N l d () h.1 h.2.1),
    Zr (Γ:=Z1 (Z99 N)) Zi rfl kn Zn2 Tryz.func99 rfl rfl (fun a=> by show 2<=_;decide) (fun ⟨e,d,_⟩ h=> b99 N e d () h.1 h.2.1),
    Zr (Γ:=Z1 (Z99 N)) Zi rfl kn Zvs Tryz.func137 rfl rfl (fun a=> by show 3<=_;decide) (fun ⟨list,o,d,_⟩ h=> ZF1 N list o d () h.1 h.2.1)⟩
 exact ⟨Yp h87 fun N=> (key N).1,Yp h121 fun N=> (key N).2.1,Yp h122 fun N=> (key N).2.2.1,Yp h132 fun N=> (key N).2.2.2⟩
end
theorem Zrk{e:Edit}:(Z9 e 1=true/\e.kind=0)↔Z1k e=true:=by
 rw [Z4m]
 simp only [Z1k,Q2,decide_eq_true_eq]
 by_cases hk:e.kind=0
 .rw [V0]
  by_cases hb:Yz e.old=true/\Yz e.new=true
  .by_cases hw:e.words.length=0/\e.kids.length=0
   .by_cases hl:e.list=0/\e.ops.length=0
    .have h1:e.words=[]:=QI.1 hw.1
     have h2:e.kids=[]:=QI.1 hw.2
     have h3:e.ops=[]:=QI.1 hl.2
     rw [if_neg (fun h=> by grind),V0,h1,h2,h3]
     simp only [ZN,Zx,Zw,Z1i,Z1h,QX,XL,Q2,decide_eq_true_eq]
     grind
    grind
   grind
  grind
 omega
theorem b62:ZIp:=by
 intro N e d _ hp hN
 simp only [Z17,Z84] at hp hN
 obtain ⟨⟨hm,hr⟩,hd0,hd1⟩:=hp
 obtain ⟨ik,ro,rn,rw',il,rk,ros⟩:=Z2s hr
 have hme:=ZT e
 have hkl:=Y1 e.kids
 have hol:=ZF e.ops
 have hat:=Z4m e d
 rw [Zqm hd0] at hat
 refine ZIY N e d _ ?_
 rintro y1 hy1 y2 hy2 y3 hy3
 subst hy1 hy2 hy3
 simp only [iB,vcT,vcS,aiT,true_and]
 have hbare:Z4T y1=true↔¬((y1.kind≠1/\¬(Yz y1.old=true/\Yz y1.new=true))\/(y1.kind≠2/\¬(y1.words.length=0/\y1.kids.length=0))\/(y1.kind≠3/\(y1.list≠0\/y1.ops.length≠0))):=by
  unfold Z4T
  split
  .grind
  .grind
 refine ⟨by simp only [Zfl];omega,fun hc=> Z6 rfl ?_,fun hc=> ?_⟩
 .grind
 have hb:=hbare.1 hc.1
 have hr2:¬(y1.kind=0\/y1.kind=1\/y1.kind=2\/y1.kind=3)->Z9 y1 d=false:=fun h=> by grind
 by_cases hk:y1.kind=0\/y1.kind=1\/y1.kind=2\/y1.kind=3
 .rw [V0,if_neg hb] at hat
  have hw:y1.kind≠2->y1.words=[]/\y1.kids=[]:=by
   intro h
   have:y1.words.length=0/\y1.kids.length=0:=Xd fun h2=> hb (Or.inr (Or.inl ⟨h,h2⟩))
   exact ⟨QI.1 this.1,QI.1 this.2⟩
  have ho:y1.kind≠3->y1.list=0/\y1.ops=[]:=by
   intro h
   have:y1.list=0/\y1.ops.length=0:=by
    constructor
    .exact Xd fun h2=> hb (Or.inr (Or.inr ⟨h,Or.inl h2⟩))
    .exact Xd fun h2=> hb (Or.inr (Or.inr ⟨h,Or.inr h2⟩))
   exact ⟨this.1,QI.1 this.2⟩
  refine ⟨fun h0=> Z6 rfl ?_,fun h0=> ⟨fun h1=> ⟨by simp only [Zhu];grind,fun _=> by simp only [Zhu];grind,Z6 rfl ?_⟩,fun h1=> ⟨fun h2=> ⟨by simp only [ZkJ];grind,fun _=> by unfold InR;omega,fun _=> by simp only [Z8i];grind,fun _=> by simp only [ZiW];omega,Z6 rfl ?_⟩,fun h2=> ⟨fun h3=> ⟨trivial,fun _=> by unfold InR;omega,fun hl=> by simp only [Z8h];grind,fun _=> by simp only [ZiV];omega,Z6 rfl ?_⟩,fun h3=> ?_⟩⟩⟩⟩
  .rw [hat,V0,(hw YL).1,(hw YL).2,(ho YL).1,(ho YL).2]
   simp [ZN,Zx,Zw,Z1i,Z1h]
   omega
  .rw [hat,if_pos h1,Qr]
   grind
  .rw [hat,if_neg h1,(ho YL).1,(ho YL).2,Qr]
   simp only [Zw,Z1i,Z1h]
   grind
  .rw [hat,if_neg h1,(hw YL).1,(hw YL).2,Qr]
   simp only [ZN,Zx]
   grind
  .omega
 .have he:=hr2 hk
  refine ⟨fun h0=> by omega,fun h0=> ⟨fun h1=> by omega,fun h1=> ⟨fun h2=> by omega,fun h2=> ⟨fun h3=> by omega,fun h3=> Z6 rfl ?_⟩⟩⟩⟩
  rw [he]
theorem b98:ZIi:=by
 intro N l d _ hp hN
 simp only [Z8i,ZiW] at hp hN
 obtain ⟨⟨hm,hr⟩,hd0,hd1⟩:=hp
 have hl:=Y1 l
 refine ZIC N l d _ ?_
 refine Z4 (ι:=Int) (fun i=> ZaA l d i) (fun i=> 0<=i/\i<=l.length/\∃ last,-1<=last/\(i=0->last= -1)/\(0 < i->last=(l.getD (i - 1).toNat (KidOf.mk 0 Edit.nil)).at_)/\Zx last (l.drop i.toNat) d=Zx (-1) l d) (fun i=> ((l.length:Int) - i).toNat) 0 rfl ⟨YL,YL,-1,YL,fun _=> rfl,fun h=> by omega,by simp⟩ ?_
 rintro i ⟨g1,g2,last,g3,g4,g5,g6⟩
 refine ZxI N l d i _ _ ?_
 rintro y1 hy1 y2 hy2 y3 hy3
 simp only [iB,vcT,vcS,aiT,true_and]
 refine ⟨fun hi=> ?_,fun hi=> ?_⟩
 .have hmem:=Zf (l:=l) (i:=i.toNat) YL (KidOf.mk 0 Edit.nil)
  have hmk:=Yw hmem
  have hrk:=YK hr hmem
  rw [ZH g1 hi (KidOf.mk 0 Edit.nil)] at g6
  rw [<-hy1] at g6 hmk hrk
  rw [<-hy2] at g5
  rw [<-hy3] at hmk hrk
  simp only [Zx,Z3F] at g6
  rw [<-hy3] at g6
  have hk:y1.e.kind=y3.kind:=by rw [hy3]
  rw [hk]
  have gl:(¬0 < i\/¬y1.at_<=y2.at_)/\¬y1.at_ < 0↔last < y1.at_/\¬y1.at_ < 0:=by
   by_cases h0:0 < i
   .have:=g5 h0;omega
   .have:=g4 YL;omega
  refine ⟨⟨g1,hi⟩,fun _=> by unfold InR;omega,fun _=> by omega,fun _=> ?_,fun _=> by simp only [Z84];omega,fun hc=> Z6 rfl ?_,fun hc=> ⟨V3,i+1,rfl,⟨YL,YL,y1.at_,YL,fun h=> by omega,fun _=> by grind,?_⟩,YL⟩⟩
  .simp only [Z17]
   grind
  .grind
  .rw [<-g6,hc.2,decide_eq_true (show last < y1.at_/\y1.at_<=65534/\y3.kind≠0 by
    omega)]
   try rfl
 .rw [Q6 YL] at g6
  simp only [ZcO]
  rw [<-g6]
  exact Z6 rfl rfl
theorem Z8c{list d:Int}:∀ {os:List Op},(∀ o∈os,Zc list o d=true)->Zw list os d=true
 | [],_=> rfl
 | o ::r,h=> by
  simp only [Zw,Q2]
  exact ⟨h o (Q3 ..),Z8c (fun x hx=> h x (Q0 _ hx))⟩
theorem b99:ZIh:=by
 intro N e d _ hp hN
 simp only [Z8h,ZiV] at hp hN
 obtain ⟨⟨hm,hr,hl⟩,hd0,hd1⟩:=hp
 obtain ⟨ik,ro,rn,rw',il,rk,ros⟩:=Z2s hr
 have hme:=ZT e
 have hol:=ZF e.ops
 refine ZIB N e d _ ?_
 refine Z4 (ι:=Int) (fun i=> Zaz e d i) (fun i=> 0<=i/\i<=e.ops.length/\∀ o∈e.ops.take i.toNat,Zc e.list o d=true) (fun i=> ((e.ops.length:Int) - i).toNat) 0 rfl ⟨YL,YL,by simp⟩ ?_
 rintro i ⟨g1,g2,g3⟩
 refine ZxH N e d i _ _ ?_
 rintro y1 hy1 y2 hy2 y3 hy3
 subst hy1 hy3
 simp only [iB,vcT,vcS,aiT,true_and]
 refine ⟨fun hi=> ?_,fun hi=> ?_⟩
 .have hmem:=Zf (l:=y1.ops) (i:=i.toNat) YL Op.nil
  have hmo:=ZI hmem
  have hro:=JN ros hmem
  rw [<-hy2] at hmem hmo hro
  refine ⟨⟨g1,hi⟩,?_,by simp only [Zal];omega,fun hc=> Z6 rfl ?_,fun hc=> ⟨V3,i+1,rfl,⟨YL,YL,fun o ho=> ?_⟩,YL⟩⟩
  .simp only [Z45]
   grind
  .have:Zw y1.list y1.ops d=false:=by
    rw [<-Xj]
    intro h
    have:=rightOs_mem h hmem
    rw [hc] at this;cases this
   grind
  .rw [show (i+1).toNat=i.toNat+1 by omega,XJ] at ho
   grind
 .rw [Ql YL] at g3
  have hall:Zw y1.list y1.ops d=true:=Z8c g3
  have hb:∀ o∈y1.ops,(0<=o.n/\o.n<=1048576)/\o.l.length<=20000000000:=by
   intro o ho
   refine ⟨Z7c (g3 o ho),?_⟩
   have h1:=ZI ho
   rw [ZG] at h1
   have h2:=Zv o.l
   omega
  refine ⟨by simp only [Zfl];omega,Z6 rfl ?_⟩
  rw [Zlo _ _ hb V2 V2,Zln _ _ hb V2 V2,hall,QX]
  grind
theorem ZF1:ZCl:=by
 intro N list o d _ hp hN
 simp only [Z45,Zal] at hp hN
 obtain ⟨⟨hm,hr,hil⟩,hd0,hd1⟩:=hp
 obtain ⟨ik,inn,rl,re⟩:=Jr hr
 rw [ZG] at hm hN
 have hll:=Zv o.l
 have hep:=Z4z o.e
 have hat:=Jp list o d
 rw [Zqm hd0,Zbu] at hat
 have hs:=Zrk (e:=o.e)
 refine ZHf N list o d _ ?_
 rintro y1 hy1 y2 hy2
 subst hy1
 simp only [iB,vcT,vcS,aiT,true_and]
 have hp87:Z17 (o.e,1,()):=by simp only [Z17];exact ⟨⟨YL,re⟩,YL,YL⟩
 have hm87:Z84 (o.e,1,()) < N:=by simp only [Z84];omega
 have hp135:Zfs (o.l,(list,()),()):=by simp only [Zfs];exact ⟨YL,rl,V3⟩
 have h12:o.kind=1\/o.kind=2->y2= .bool (Zc list o d):=by
  intro hk
  rw [hy2,hat,V0]
  congr 1
  rw [Qr]
  (simp only [iB,vcS])
  by_cases hn:o.n=0
  .rw [V0,V1]
   (simp only [iB,vcS])
   constructor
   .rintro ⟨⟨⟨⟨h1,h2⟩,h3⟩,h4⟩,h5⟩
    exact ⟨⟨h5,YL⟩,hs.1 ⟨h3,h4⟩⟩
   .rintro ⟨⟨h5,h2⟩,h3⟩
    have:=hs.2 h3
    exact ⟨⟨⟨⟨hn,YL⟩,this.1⟩,this.2⟩,h5⟩
  .rw [V1]
   exact ⟨fun h=> absurd h.1.1.1.1 hn,fun h=> (nomatch h)⟩
 refine ⟨fun hk=> ⟨fun _=> hp87,fun _=> hm87,Z6 rfl ?_⟩,fun hk=> ⟨fun hk1=> ⟨fun _=> hp87,fun _=> hm87,fun _=> hp135,?_⟩,fun hk1=> ⟨fun hk2=> ⟨fun _=> hp87,fun _=> hm87,fun _=> hp135,?_⟩,fun hk2=> ⟨fun hk3=> ⟨fun _=> trivial,fun _=> ?_,fun _=> by simp only [Z84];omega,Z6 rfl ?_⟩,fun hk3=> Z6 rfl ?_⟩⟩⟩⟩
 .grind
 .rw [h12 (Or.inl hk1)]
  trivial
 .rw [h12 (Or.inr hk2)]
  trivial
 .simp only [Z17];grind
 .rw [hat,if_neg hk,Qr]
  by_cases hn:o.n=0
  .rw [V0,V0]
   have hw:Z1M list o.e=true↔(o.e.kind≠0/\7 < list)/\(list=8\/o.e.kind=2\/o.e.kind=1/\o.e.old.kind=1/\o.e.new.kind=1):=by
    unfold Z1M
    split
    .grind
    .grind
   grind
  grind
 grind
theorem ZJG:Contract Tryz.prog cfg 62 ZeC/\Contract Tryz.prog cfg 98 ZtC/\Contract Tryz.prog cfg 99 ZtB/\Contract Tryz.prog cfg 137 Zoy:=
 ZyP c95 c96 c97 c93 ZEA ZEx ZEH b62 b98 b99 ZF1
theorem c31:Contract Tryz.prog cfg 31 ZeJ:=by
 refine ZDt ZJG.1 ?_
 intro e _ hp
 simp only [Zpb] at hp
 refine ZJk _ _ ?_
 (simp only [Tree.eta,Edit.eta,Tree.kind_mk,Tree.words_mk,Tree.kids_mk])
 refine ⟨by simp only [Z17];grind,?_⟩
 trivial
noncomputable section
def Zw4:List (FuncId × Fs U):=[(44,Z2Z),(71,Zew)]
abbrev W39(e:Edit)(Q:QT):=AW (Z1 Zw4) Tryz.f39 ZDX [] (L2 [(0,.agg (enc .edit e))] []) Q
theorem ZJc(e:Edit)(Q:QT)(h:∀ y_1,y_1=e->∀ y_2,y_2=(Z1u y_1)->(Zfl (y_1,()))/\(Z3H (y_2,()))/\(Q .ret (L2 [pL 2] [(.loc 2,(enc .edit (Zz y_2)))]))):
  W39 e Q:=
 Eq.mpr V4 (h _ (Z7 _) _ (Z7 _))
def ZG4(e:Edit):Prop:=AW (Z1 Zw4) Tryz.f39 ZDX [] (Zg (ZwS.can (e,())) []) (EQ Tryz.f39 (ZtT (e,())) [])
theorem ZDm(c44:CT 44 Z2Z)(c71:CT 71 Zew)(hb:∀ (e:Edit) (_:Unit),Z3H (e,())->ZG4 e):CT 39 Z25:=
 Z2 (l:=[(44,Z2Z),(71,Zew)]) Zi rfl (⟨c44,c71,trivial⟩) ZDX Tryz.func39 rfl rfl 1 (fun _=> rfl) V2 (fun ⟨e,_⟩=> hb e ())
end
theorem c39:Contract Tryz.prog cfg 39 Z25:=by
 refine ZDm ZnP.1 c71 ?_
 intro e _ hp
 simp only [Z3H] at hp
 obtain ⟨hm,d,hr⟩:=hp
 refine ZJc _ _ ?_
 rintro y1 hy1 y2 hy2
 subst hy1
 have h1:=Z5y y1
 have h2:=JC _ _ hr
 have e2:y2=Zs y1:=by rw [hy2,Z8F _ _ hr]
 rw [<-e2] at h1 h2
 refine ⟨by simp only [Zfl];omega,by simp only [Z3H];grind,?_⟩
 simp only [ZtT]
 rw [<-e2]
 exact JR
end Go.AM.YtfapacabjkhepaaGreat
