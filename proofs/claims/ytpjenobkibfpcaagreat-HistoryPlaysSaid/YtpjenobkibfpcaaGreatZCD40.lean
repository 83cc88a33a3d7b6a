import Derived.Test.YtpjenobkibfpcaaGreatZCB25a
import Derived.Test.YtpjenobkibfpcaaGreatZKG21b
import Derived.Test.YtpjenobkibfpcaaGreatZKL21t
import Derived.Test.YtpjenobkibfpcaaGreatZKL24
import Derived.Test.YtpjenobkibfpcaaGreatZCL25j
set_option linter.all false
open Option renaming some->A,none->aT
open Bool renaming true->Y,false->I
open List renaming length->J,getD->aR
open Int renaming toNat->G
namespace Go.AM.YtpjenobkibfpcaaGreat
open Go.AM Go.Proofs
theorem vm(e):J e.aS+J e.ops+ZM e.X+Zq e.ops+Zo e.bH+Zo e.new+1=Z1 e:=by obtain⟨k,o,n,w,ks,l,os⟩:=e;simp only[Z1,W.dz,W.jK,W.dt,W.qS,W.qN];omega
theorem rT(t):1<=Zo t:=by obtain⟨k,w,ks⟩:=t;simp only[Zo];omega
theorem ZL{e}(h:ZR e):Z1 e<=9000000000:=QS (DU e) h.1
theorem xP{e}(h:ZR e):fg (e,())/\ZR (Zd (Zm e)):=by
 have hm:=ZL h;obtain⟨m,r,d,s⟩:=h;refine⟨⟨by grind,d,s⟩,?_,?_,d,Jz _ _ (Jn _ _ s)⟩;.have:=qJ (Zm e);rw[xX]at this;omega
 .exact rE _ d (Jn _ _ s) (CF e r)
theorem Lz{e t}(h:ZR e)(hm:Zo t<=100000000000)(s:ei t):gg (e,t,()):=by have:=ZL h;have:=h.1;exact⟨⟨by grind,h.2⟩,by grind,s⟩
theorem Zy6{e}(h:ZR e):qj e.X:=by obtain⟨m,r,d,hr⟩:=h;have:=Ji e;exact⟨O,(Zp r).2.2.2.1,λk s=>⟨_,(Zl (Zc hr).X k s).2⟩⟩
theorem I1{e}(h:ZR e):uX e.ops:=by obtain⟨m,r,d,hr⟩:=h;have:=Ji e;exact⟨O,(Zp r).2.2.2.2,λo s=>⟨_,_,bM (Zc hr).ops s⟩⟩
theorem Tj:ZP7:=by
 intro N p q _ hp hN;obtain⟨op,oq⟩:=hp;dsimp only at op oq;have a1:8*(Z1 p+Z1 q)<N+1:=hN;obtain⟨dp,rp⟩:=op.2.2;obtain⟨dq,rq⟩:=oq.2.2;have aa:=ZBc rp rq;unfold mE at aa;have lp:=vm p;have lq:=vm q;have mo:=rT p.bH;have mn:=rT p.new;have az:=rT q.bH;have a6:=rT q.new;have gp:=Zp op.2.1;have gq:=Zp oq.2.1;have cp:=Ji p;have cq:=Ji q;have a5:=op.1;have a4:=oq.1;have cC:∀{aC:W}{b:Bool}{s:bT U},Jc p q=(aC,b)->ZB M Tryz.f111.ntmps Tryz.f111.results.toList (.tup [(Y,enc .aY aC),(I,[.bool b])]) [] .ret s->ZB M Tryz.f111.ntmps Tryz.f111.results.toList (zR (p,q,())) [] .ret s:=by
  intro aC b s h hs;refine Y8 ?_ hs;simp only[zR];rw[h];try rfl
 refine wV (λQ=>∀ai,ai=p->∀ae,ae=q->∀af,af=p.new->∀ah,ah=q.bH->∀ab,ab=Zd (Zm ai)->let z3:=Zk aV.S Jk p.aS q.aS;let z2:=Zk aW.S (fV Jc) p.X q.X;let z1:=p.D !=q.D;let z0:=Q .ret (L2 [pL 4,pB 5 I] [(.bE 4,eI)]);iB (p.D==0) (Q .ret (L2 [pL 4,pB 5 Y] [(.bE 4,enc .aY q)])) (iB (q.D==0) (Q .ret (L2 [pL 4,pB 5 Y] [(.bE 4,enc .aY p)])) (iB (p.D==1) ( gg (ae,af,())/\Q .ret (L2 [pL 4,pB 5 (bX I ae af).isSome] [(.bE 4,[ci 1]++enc .aX p.bH++enc .aX (YH ((bX I ae af).map Z2))++[.nils,.nils,ci 0,.nils])])) (iB (q.D==1) ( fg (ai,())/\gg (ab,ah,())/\Q .ret (L2 [pL 4,pB 5 (bX I ab ah).isSome] [(.bE 4,[ci 1]++enc .aX (YH ((bX I ab ah).map Z2))++enc .aX q.new++[.nils,.nils,ci 0,.nils])])) (Tk 4 (!z1) ((z1=I->(!z1)=Y)/\iB (bif z1 then Y else p.V !=q.V) z0 (iB (p.D==2) ( ZFj (p.aS,q.aS,())/\iB (! z3.isSome) z0 ( EA (p.X,q.X,())/\Hs (p.X,q.X,())<N/\Q .ret (L2 [pL 4,pB 5 z2.isSome] [(.bE 4,[ci 2,ci 0,.nils,.nils,ci 0,.nils,.nils,sU .bD (kL z3) .bA,sU .cJ (kL z2) .bA,ci 0,.nils])]))) ( CP (p.ops,q.ops,())/\Nc (p.ops,q.ops,())<N/\Q .ret (L2 [pL 4,pB 5 (je Jc p.ops q.ops).isSome] [(.bE 4,[ci 3,ci 0,.nils,.nils,ci 0,.nils,.nils,.nils,.nils,ci p.V,sU .op (kL (je Jc p.ops q.ops)) .bA])]))))))))) ?_ λ_ h=>Eq.mpr V4 (h _ (Z0 _) _ (Z0 _) _ (Z7 _) _ (Z7 _) _ (Z0 _));intro y1 h1 y2 h2 y3 h3 y4 h4 y5 h5;replace h1:=h1.symm;replace h2:=h2.symm;replace h3:=h3.symm;replace h4:=h4.symm;subst h1 h2 h3 h4;(simp only[iB,bR,bW]);try dsimp only at h5⊢
 refine⟨λp0=>cC (by rw[aa,Q5 p0]) V0,λp0=>?_⟩;rw[Q0 p0]at aa;refine⟨λq0=>cC (by rw[aa,Q5 q0]) V0,λq0=>?_⟩;rw[Q0 q0]at aa;refine⟨λp1=>⟨Lz oq O gp.2.1,cC (by rw[aa,Q5 p1]) (by unfold dX;(repeat'(first|exact trivial|exact rfl|apply And.intro)))⟩,λp1=>?_⟩;rw[Q0 p1]at aa;refine⟨λq1=>⟨(xP op).1,by rw[h5];exact Lz (xP op).2 O gq.1,cC (by rw[aa,Q5 q1,<-h5]) (by unfold dX;(repeat'(first|exact trivial|exact rfl|apply And.intro)))⟩,λq1=>?_⟩;rw[Q0 q1]at aa;refine⟨λhd=>cC (by rw[aa,Q5 hd]) V0,λhd=>?_⟩;rw[Q0 (by rintro(h|h);exact h hd.1;exact h hd.2)]at aa;refine⟨λp2=>?_,λp2=>?_⟩
 .rw[Q5 p2]at aa;refine⟨⟨⟨gp.2.2.1,V2⟩,gq.2.2.1,V2⟩,λhw=>?_,λhw=>⟨⟨Zy6 op,Zy6 oq⟩,by show 8*(ZM p.X+ZM q.X)+4<N;omega,?_⟩⟩;.exact cC (by rw[aa,Q0 (by rw[hw];decide)]) V0
  .exact cC (by rw[aa,Q5 hw]) V0
 .rw[Q0 p2]at aa;exact⟨⟨I1 op,I1 oq⟩,by show 8*(Zq p.ops+Zq q.ops)+40<N;omega,cC aa V0⟩
theorem Ve:ZOX:=by intro N a b _ hp hN;have s:8*(ZM a+ZM b)+4<N+1:=hN;refine wV (λQ=>let z0:=Zk aW.S (fV Jc) a b;Co (a,b,(),(),())/\H6 (a,b,(),(),())<N/\Q .ret (L2 [(4,.c (sU .cJ (kL z0) .bA)),pB 5 z0.isSome] [])) ?_ λ_ h=>Eq.mpr V4 h;exact⟨hp,by show 8*(ZM a+ZM b)+3<N;omega,V0⟩
theorem ZrT{k:bP}(h:nM k):bQ k.S/\Ye k.e:=by cases k;exact h
theorem RG:ZOO:=by
 intro N a b _ hp hN;obtain⟨oa,ob⟩:=hp;dsimp only at oa ob;have af:8*(JS a+JS b)+1<N+1:=hN;have ka:=Lx a;have kb:=Lx b;refine wV (λQ=>∀aa,aa=a.e->∀s,s=b.e->jI (aa,s,())/\kE (aa,s,())<N/\Q .ret (L2 [pL 4,pB 5 (Jc aa s).2] [(.bE 4,[ci a.S]++enc .aY (Jc aa s).1)])) ?_ λ_ h=>Eq.mpr V4 (h _ (Z0 _) _ (Z0 _));intro y1 h1 y2 h2;replace h1:=h1.symm;replace h2:=h2.symm;subst h1 h2;try dsimp only
 have ra:ZR a.e:=⟨by have:=oa.1;rw[tt]at this;omega,(ZrT oa.2.1).2,oa.2.2⟩;have rb:ZR b.e:=⟨by have:=ob.1;rw[tt]at this;omega,(ZrT ob.2.1).2,ob.2.2⟩;exact⟨⟨ra,rb⟩,by show 8*(Z1 a.e+Z1 b.e)<N;omega,by unfold Em fV;(repeat'(first|exact trivial|exact rfl|apply And.intro))⟩
theorem Zmq{l}(h:qj l):qj (l.drop 1):=by cases l with|nil=>exact h|cons k r=>obtain⟨s,h2,h3⟩:=h;simp only[gY]at s;exact⟨by grind,h2.2,λx hx=>h3 x (Q4 _ hx)⟩
theorem Zmp{l}(h:qj l)(hl:0<J l)(z):ZGP (aR l 0 z)/\JS (aR l 0 z)+ZM (l.drop 1)=ZM l:=by cases l with|nil=>simp at hl|cons k r=>obtain⟨h1,h2,s⟩:=h;simp only[gY]at h1;exact⟨⟨by grind,h2.1,s k Q6⟩,rfl⟩
theorem Zhw:∀l:List bP,ZM (l.drop 1)<=ZM l|[]=>Qa _|k::r=>by simp only[QE,X9,ZM];omega
theorem Wy:ZOP:=by
 rintro N p q⟨⟩⟨⟩_ hp hN;obtain⟨op,oq⟩:=hp;dsimp only at op oq;have az:8*(ZM p+ZM q)+3<N+1:=hN;have lp:=Yl p;have lq:=Yl q;have bp:=QS (Bk p) op.1;have bq:=QS (Bk q) oq.1;refine ZTx N p q () () _ ?_;refine Z5 (ι:=List bP×List bP×List bP) (λx=>zC p q () () x.1 x.2.1 x.2.2) (λx=>fM aW.S (fV Jc) p q x.1 x.2.1 x.2.2/\(qj x.1/\ZM x.1<=ZM p)/\qj x.2.1/\ZM x.2.1<=ZM q) (λx=>J x.1+J x.2.1) (p,q,[]) rfl ⟨⟨by simp_all,by simp⟩,⟨op,Qa _⟩,oq,Qa _⟩ ?_;rintro⟨x0,x1,s⟩⟨cN,⟨r0,m0⟩,r1,m1⟩;dsimp only at cN r0 r1 m0 m1;have av:=cN.len;refine ZBT N p q () () _ _ _ _ _ ?_;intro y1 h1 y2 h2 y3 h3 y4 h4 y5 h5;subst h3 h4;(simp only[iB,bR,bW]);have h3:y3=aR x0 0 ⟨0,W.nil⟩:=h1;have h4:y4=aR x1 0 ⟨0,W.nil⟩:=h2;have d0:qj (x0.drop 1)/\ZM (x0.drop 1)<=ZM p:=⟨Zmq r0,by have:=Zhw x0;omega⟩;have d1:qj (x1.drop 1)/\ZM (x1.drop 1)<=ZM q:=⟨Zmq r1,by have:=Zhw x1;omega⟩;refine⟨λax=>⟨λh=>⟨O,O⟩,λ_=>trivial,λh=>⟨O,O⟩,λ_=>trivial,λg1 g2=>⟨g1,g2⟩,λhA=>?_,λhB=>?_⟩,λhE=>?_⟩;.refine⟨⟨O,O⟩,by grind,⟨O,O⟩,(x0.drop 1,x1,s++[y3]),rfl,⟨?_,d0,r1,m1⟩,by grind⟩;rw[h3];exact cN.vq _ O (by grind)
 .refine⟨λh=>⟨O,O⟩,λ_=>trivial,λh=>⟨O,O⟩,λ_=>trivial,λhC=>?_,λhD=>?_⟩;.refine⟨⟨O,O⟩,by grind,⟨O,O⟩,(x0,x1.drop 1,s++[y4]),rfl,⟨?_,⟨r0,m0⟩,d1⟩,by grind⟩;rw[h4];exact cN.jX _ O (by grind)
  .have hb:=cN.ve ⟨0,W.nil⟩ O O (by grind);rw[<-h3,<-h4]at hb;obtain⟨k3,n3⟩:=Zmp r0 O ⟨0,W.nil⟩;obtain⟨k4,n4⟩:=Zmp r1 O ⟨0,W.nil⟩;rw[<-h3]at k3 n3;rw[<-h4]at k4 n4;refine⟨⟨O,O⟩,⟨O,O⟩,⟨k3,k4⟩,by show 8*(JS y3+JS y4)+1<N;omega,λL=>?_,λL=>?_⟩;.have e:=ZkM (hb.2 L);refine Y8 (r':=.tup [(I,[.slice (U:=U) .cJ [] .bA]),(I,[.bool I])]) ?_ V0;simp only[A3];rw[e.1,e.2]
   .refine⟨by grind,⟨O,O⟩,⟨O,O⟩,(x0.drop 1,x1.drop 1,s++[y5]),rfl,⟨?_,d0,d1⟩,by grind⟩;grind
 .have e0:x0=[]:=Q7 O;have e1:x1=[]:=Q7 O;subst e0 e1;have e:=cN.done;refine Y8 (r':=.tup [(I,[.slice (U:=U) .cJ s .bA]),(I,[.bool Y])]) ?_ V0;simp only[A3];rw[e];try rfl
theorem O4{l o}(h:dB l o)(ho:ZH o)(hl:jQ l):Jt o:=by
 obtain⟨s,m,k,e1,_,lt⟩:=h;have aG:=Jr (qe hl m);obtain⟨kk,nn,ll,ee⟩:=o;have k:kk=s.D:=k;have e1:ee=s.e:=e1;have lt:∀t∈ll,t∈s.l:=lt;refine⟨by grind,?_,xL λt ht=>YW aG.2.2.1 (lt t ht),by grind⟩;rcases ho with h|h|h;.have:=h.2.2.1;unfold bQ;grind
 .have h2:nn=0:=h.2.1;rw[h2];trivial
 .have h2:nn=0:=h.2.1;rw[h2];trivial
theorem sE{l o}(h:dB l o):jT o<=fK l/\Zy o<=Zq l:=by obtain⟨o',m,k,e1,s,_⟩:=h;have h1:=F4 m;have h2:=Y9 m;have a:=rU o;rw[ZZ,ZZ,e1]at s;rw[e1]at a;rw[ZZ]at h2;rw[ZZ,e1];omega
theorem Mz{l o}(h:dB l o)(hl:∀o∈l,∃V d,Zg V o d=Y)(k3:o.D=3):∃d,Z3 o.e d=Y:=by obtain⟨s,m,k,e1,hm,_⟩:=h;obtain⟨V,d,hr⟩:=hl s m;exact⟨d,by rw[e1];exact Yi hr O⟩
theorem ZFq{p q}(s:uX p)(hq:uX q){x}(h:nB p q x):yf x:=by
 refine⟨h.of,λe=>?_,λe=>?_,h.dF⟩;.obtain⟨a,b⟩:=h.pp e;exact⟨b,QS (sE a).1 s.1,O4 a b s.2.1,Mz a s.2.2⟩
 .obtain⟨a,b⟩:=h.qq e;exact⟨b,QS (sE a).1 hq.1,O4 a b hq.2.1,Mz a hq.2.2⟩
theorem HL{p}(s:uX p):o4 p:=by
 refine⟨λo ho=>?_,?_⟩;.obtain⟨_,_,h⟩:=s.2.2 o ho;exact uu h
 .have:=u6 p;have:=s.1;omega
theorem UQ:ZOW:=by
 intro N p q _ hp hN;obtain⟨op,oq⟩:=hp;dsimp only at op oq;have a1:8*(Zq p+Zq q)+40<N+1:=hN;have kp:=HL op;have kq:=HL oq;obtain⟨i1,_⟩:=yn _ p q [] (Qa _) kp.1 kq.1;refine wV (λQ=>Il (p,q,())/\iB (!(ZC 1 2 p q []).2.1) (Q .ret (L2 [(4,.c .nils),pB 5 I] [])) (Zi (ZWo N [1,1,1,1,0,1,0,0]) (DK p q 0 []) (xB 0 (ZVU N [1,1,1,1,1] Q)))) ?_ λ_ h=>Eq.mpr V4 h;(simp only[iB,bR,bW]);refine⟨⟨kp,kq⟩,λhb=>?_,λhb=>?_⟩
 .have e:je Jc p q=aT:=by unfold je;grind
  refine Y8 (r':=.tup [(I,[.slice (U:=U) .op [] .bA]),(I,[.bool I])]) ?_ V0;simp only[yQ];rw[e];try rfl
 .obtain⟨ps,e,aq,_,_⟩:=i1 hb;obtain⟨a5,e1,_,_,ax⟩:=D6 ZOI Lr 1 _ p q [] (Qa _) kp.1 kq.1 hb;rw[e,Qn,Qn]at e1;subst e1;rw[Qn]at e;have af:je Jc p q=iz Jc ps:=by unfold je;grind
  refine Z5 (ι:=Int×List Op) (λs=>DK p q s.1 s.2) (λs=>0<=s.1/\s.1<=J ps/\iz Jc ps=(iz Jc (ps.drop (G s.1))).map (s.2++·)/\J s.2+J (ps.drop (G s.1))<=J ps) (λs=>G (( J ps:Int)-s.1)) (0,[]) rfl ⟨by simp,by simp,by simp,by simp⟩ ?_;rintro⟨i,bB⟩⟨f1,f2,f3,f4⟩;dsimp only at f1 f2 f3 f4;refine ZCn N p q _ _ _ _ ?_;intro y1 h1 y2 h2 y3 h3;rw[e]at h1⊢;subst h2;(simp only[iB,bR,bW]);refine⟨λhi=>?_,λhi=>?_⟩
  .have h1:y2=aR ps (G i) (cm.mk 0 Op.nil Op.nil):=h1;have ai:y2∈ps:=by rw[h1];exact Zh O _
   have hx:=aq y2 ai;have hd:ps.drop (G i)=y2::ps.drop (G (i+1)):=by rw[h1];exact ZO f1 hi _
   rw[hd,iz]at f3;rw[hd,Qd]at f4;have ao:8*(Zy y2.p+Zy y2.q)+1<N:=by
    rcases hx.of with h|h|h;.have:=(sE (hx.pp O).1).2;have:=(sE (hx.qq O).1).2;omega
    .have:=(sE (hx.pp O).1).2;rw[hx.qn h,show Zy Op.nil=3 from rfl];omega
    .have:=(sE (hx.qq O).1).2;rw[hx.pn h,show Zy Op.nil=3 from rfl];omega
   have c1:=u6 p;have c2:=u6 q;have c3:=op.1;have c4:=oq.1;refine⟨⟨f1,hi⟩,ZFq op oq hx,ao,λL=>?_,λL=>⟨λah=>?_,λah=>?_⟩⟩;.rw[Q0 (by grind)]at f3;refine Y8 (r':=.tup [(I,[.slice (U:=U) .op [] .bA]),(I,[.bool I])]) ?_ V0;simp only[yQ];rw[af,f3];try rfl
   .rw[Q5 L,Q5 ah]at f3;refine⟨by grind,V3,(i+1,bB++[y3]),rfl,⟨O,O,?_,?_⟩,O⟩;.rw[f3,h3];cases iz Jc (ps.drop (G (i+1)))<;>simp
    grind
   .rw[Q5 L,Q0 (by grind)]at f3;refine⟨V3,(i+1,bB),rfl,⟨O,O,?_,by grind⟩,O⟩;simp_all
  .rw[Qb O,iz]at f3;refine Y8 (r':=.tup [(I,[.slice (U:=U) .op bB .bA]),(I,[.bool Y])]) ?_ V0;simp only[yQ];rw[af,f3];simp[kL]
theorem BB{α:Type}{l i}(h:i<J l)(d:α):l.take (i+1)=l.take i++[aR l i d]:=by simp_all
theorem ZGY{a b}(h:Z6 a=Z6 b):gw a b=Y:=Yz.2 h
theorem ZKx{a b}(h:¬Z6 a=Z6 b):gw a b=I:=by rw[<-Xx];exact λe=>h (Yz.1 e)
theorem vR(o:Op):Ze o.l<=jT o:=by rw[rU];omega
theorem Vs:ZON:=by
 intro N x _ hp hN;have hp:yf x:=hp;have a3:8*(Zy x.p+Zy x.q)+1<N+1:=hN;have cC:∀{o:Op}{i k:Bool}{s:bT U},Zw Jc x=⟨o,i,k⟩->ZB M Tryz.f210.ntmps Tryz.f210.results.toList (.tup [(Y,enc .op o),(I,[.bool i]),(I,[.bool k])]) [] .ret s->ZB M Tryz.f210.ntmps Tryz.f210.results.toList (BJ (x,())) [] .ret s:=by
  intro o i k s h hs;refine Y8 ?_ hs;simp only[BJ];rw[h];try rfl
 refine wV (λQ=>∀ab,ab=x.p.e->∀aa,aa=x.q.e->∀ar,ar=List.getD x.p.l (Int.toNat 0) H.nil->∀au,au=List.getD x.q.l (Int.toNat 0) H.nil->∀ae,ae=ar->∀ah,ah=au->∀af,af=Zd (Zm ab)->∀ao,ao=YH ((bX I aa ae).map Z2)->∀al,al=YH ((bX I af ah).map Z2)->let z0:=! x.of==1&&x.of==0;Tk 3 (! x.of==1) (Tk 3 z0 (((! x.of==1)=Y->True->(! x.of==1)=Y)/\( ! x.of==1=Y->(x.of==0)=Y->z0=Y)/\((x.of==1)=I->! x.of==1=Y)/\iB (bif x.of==1 then Y else bif x.of==0 then x.q.D==0 else I) (Q .ret (L2 [pL 2,pB 3 Y,pB 4 Y] [(.bE 2,enc .op x.p)])) (Tk 3 (! x.of==2) (((x.of==2)=I->! x.of==2=Y)/\iB (bif x.of==2 then Y else x.p.D==0) (Q .ret (L2 [pL 2,pB 3 Y,pB 4 Y] [(.bE 2,enc .op x.q)])) (Tk 4 (x.p.D==2) (iB (bif x.p.D==2 then x.q.D==1 else I) (Zi (ZWg N [1,0,0,1,1,1,1,1,0,0,1,0,0]) (IC x 0) (xB 1 (GS N [1,0,0,1,1,1,1,1,0,1] (xB 0 (GS N [1,1] Q))))) (iB (x.p.D==2) (((0:Int)<=0/\0<( J x.p.l:Int))/\gg (aa,ae,())/\Q .ret (L2 [pL 2,pB 3 Y,pB 4 (bX I aa ae).isSome] [(.bE 2,[ci 2,ci 0,sU .aX [ao] .cU,ci 0,ci 0,.nils,.nils,ci 0,.nils,.nils,.nils,.nils,ci 0,.nils])])) (iB (x.q.D==1) ( fg (ab,())/\((0:Int)<=0/\0<( J x.q.l:Int))/\gg (af,ah,())/\Q .ret (L2 [pL 2,pB 3 Y,pB 4 (bX I af ah).isSome] [(.bE 2,[ci 1,ci 0,sU .aX [al] .cU,ci 0,ci 0,.nils,.nils,ci 0,.nils,.nils,.nils,.nils,ci 0,.nils])])) ( jI (ab,aa,())/\kE (ab,aa,())<N/\Q .ret (L2 [pL 2,pB 3 Y,pB 4 (Jc ab aa).2] [(.bE 2,[ci 3,ci 0,.nils]++enc .aY (Jc ab aa).1)]))))))))))) ?_ λ_ h=>Eq.mpr V4 (h _ (Z0 _) _ (Z0 _) _ rfl _ rfl _ (Z7 _) _ (Z7 _) _ (Z0 _) _ (Z7 _) _ (Z7 _));intro y1 h1 y2 h2 y3 h3 y4 h4 y5 h5 y6 h6 y7 h7 y8 h8 y9 h9;subst h1 h2 h5 h6;(simp only[iB,bR,bW]);have L:=Zw.eq_1 Jc x;refine⟨λ_ h=>⟨O,h⟩,λc1=>cC (by rw[L,Q5 c1]) V0,λc1=>?_⟩;rw[Q0 O]at L;refine⟨λc2=>cC (by rw[L,Q5 c2]) V0,λc2=>?_⟩;rw[Q0 O]at L;have c0:x.of=0:=by rcases hp.of with h|h|h<;>omega
 obtain⟨b1,b2,b3⟩:=hp.dF c0;obtain⟨op,mp,gp,rp⟩:=hp.pp O;obtain⟨oq,mq,gq,rq⟩:=hp.qq O;have ep:=rU x.p;have eq:=rU x.q;have aj:=Jr gp;have ai:=Jr gq;have ap:=vR x.p;have aq:=vR x.q;refine⟨λc3=>?_,λc3=>?_⟩
 .rw[Q5 c3]at L;have l1:=Yn op (.inr c3.1);have l2:=Yn oq (.inl c3.2);have k1:=Zs x.p.l;rw[Qy O]at L;refine Z5 (ι:=Int) (λi=>IC x i) (λi=>0<=i/\i<=J x.p.l/\Z6 (x.p.l.take (G i))=Z6 (x.q.l.take (G i))) (λi=>G (( J x.p.l:Int)-i)) 0 rfl ⟨O,O,by simp⟩ ?_;rintro i⟨f1,f2,f3⟩;refine ZBS N x _ _ _ ?_;intro z1 g1 z2 g2 z3 g3 z4 g4;subst g1 g2;(simp only[iB,bR,bW]);have l3:J x.p.l=J x.q.l:=O;refine⟨λhi=>?_,λhi=>?_⟩
  .have m1:z3∈x.p.l:=by rw[g3];exact Zh O _
   have m2:z4∈x.q.l:=by rw[g4];exact Zh O _
   have bo:=YM m1;have bv:=YM m2;have t1:x.p.l.take (G (i+1))=x.p.l.take (G i)++[z3]:=by rw[g3,show G (i+1)=G i+1 by omega];exact BB O _
   have t2:x.q.l.take (G (i+1))=x.q.l.take (G i)++[z4]:=by rw[g4,show G (i+1)=G i+1 by omega];exact BB O _
   refine⟨⟨f1,hi⟩,⟨f1,O⟩,⟨V2,V2⟩,λam=>cC (by rw[L,ZKx];intro he;rw[JL]at am;apply am;rw[g3,g4];exact Wc he (G i)) V0,λa5=>⟨V3,i+1,rfl,⟨O,O,?_⟩,O⟩⟩;rw[t1,t2];exact rX f3 (pg.2 (Yh.1 a5))
  .rw[Qy O,Qy O]at f3;exact cC (by rw[L,ZGY f3]) V0
 rw[Q0 O]at L;have kp:x.p.D=2\/x.p.D=3:=by rcases Zx op with k|k|k|k<;>omega
 have kq:x.q.D=1\/x.q.D=3:=by rcases Zx oq with k|k|k|k<;>omega
 refine⟨λc4=>?_,λc4=>?_⟩
 .rw[Q5 c4]at L;have l1:=Yn op (.inr c4);have l2:=Yk (o:=x.q) O;have hl:0<J x.p.l:=O;have m3:y5∈x.p.l:=by rw[h3];exact Zh hl _
  have bq:=YM m3;refine⟨⟨O,O⟩,Lz ⟨O,ai.2.2.2,rq O⟩ O (YW aj.2.2.1 m3),cC L ?_⟩;rw[show aR x.p.l 0 H.nil=y5 from h3.symm];unfold dX;rw[<-h8];exact V0
 rw[Q0 c4]at L;have p3:x.p.D=3:=O;refine⟨λc5=>?_,λc5=>?_⟩
 .rw[Q5 c5]at L;have l1:=Yn oq (.inl c5);have l2:=Yk (o:=x.p) p3;have hl:0<J x.q.l:=O;have m4:y6∈x.q.l:=by rw[h4];exact Zh hl _
  have ca:=YM m4;have rk:ZR x.p.e:=⟨O,aj.2.2.2,rp p3⟩;refine⟨(xP rk).1,⟨O,O⟩,by rw[h7];exact Lz (xP rk).2 O (YW ai.2.2.1 m4),cC L ?_⟩;rw[show aR x.q.l 0 H.nil=y6 from h4.symm,<-h7];unfold dX;rw[<-h9];exact V0
 .rw[Q0 c5]at L;have k1:ZR x.p.e:=⟨O,aj.2.2.2,rp p3⟩;have k2:ZR x.q.e:=⟨O,ai.2.2.2,rq O⟩;refine⟨⟨k1,k2⟩,?_,cC L V0⟩;show 8*(Z1 x.p.e+Z1 x.q.e)<N;rw[ZZ,ZZ]at a3;omega
theorem ZVE:aU Tryz.prog M 111 Gu/\aU Tryz.prog M 165 Zxv/\aU Tryz.prog M 206 Zxd/\aU Tryz.prog M 208 Zxc/\aU Tryz.prog M 166 Zxu/\aU Tryz.prog M 210 Zxb:=ZFT Ay Eg qE Q_ PE (T6 A6) Tj Ve Wy RG UQ Vs
theorem ZXG:aU Tryz.prog M 111 Gu:=ZVE.1
end Go.AM.YtpjenobkibfpcaaGreat
namespace Go.AM
def pZ(V:Int):List H->Int->Int|[],_=>-1|t::r,i=>if Zf (H.mk V [] [t]) 64=Y then pZ V r (i+1)else i
theorem Znu(V):∀l(i:Int),0<=i->(0<=pZ V l i↔nT V l=I)|[],i,_=>by simp[pZ,nT]|t::r,i,hi=>by have h:=Znu V r (i+1) O;rw[pZ,nT];grind
end Go.AM
namespace Go.AM.YtpjenobkibfpcaaGreat
open Go.AM Go.Proofs
noncomputable section
def ZL3:cO ID:=.cons (fe .aX) (.dU 0 (.cons (jv .i64) .nil) .nil)
def LA(a:ID):Prop:=Zo a.1<=18000000000/\ei a.1/\bQ a.2.1.1
def ZEu(a:ID):aA U:=.c (.bool ! Zf (H.mk a.2.1.1 [] [a.1]) 64)
def ZxW(a:ID):List (List (C U)):=[[ci a.2.1.1]]
def Zx8:Fs U:=fo ZL3 (λa=>[LA a]) ZEu ZxW
def ZKQ:cO Cl:=.cons (fY .aX) (.clo 217 0 (.cons (jv .i64) .nil) .nil)
def uh(a:Cl):Prop:=Ze a.1<=18000000000/\Jf a.1/\bQ a.2.1.1
def Tp(a:Cl):aA U:=.c (ci (pZ a.2.1.1 a.1 0))
def C9(a:Cl):List (List (C U)):=[[ci a.2.1.1]]
def Zx1:Fs U:=fo ZKQ (λa=>[uh a]) Tp C9
def ZEv(a:Cl):aA U:=.c (.bool ! nT a.2.1.1 a.1)
def Ov:Fs U:=fo ZKQ (λa=>[uh a]) ZEv C9
def ZJE:List (FuncId×Fs U):=[(218,Zx7)]
def ZUs:Zb U:=cI [[1,2,502,900],[1,2,3,502]]
def CO:List (FuncId×Fs U):=[(217,Zx8)]
def CX:Zb U:=cI [[0,1,900],[7,8],[9],[5,9],[16],[0,1,4,5,7,8,16],[0,1,4,7,8],[0,1,4,7,8]]
def Gz(l:List H)(V h:Int):bT U:=L2 [(0,.c (sU .aX l .bA)),(1,.clo 217 [.x 0]),pI 7 (J l),pI 8 h] [(.x 0,[ci V])]
abbrev ZMp(l)(V h)(N0:NT)(Q:QT):=AW (Za CO) Tryz.f231 CX [1,0,1,0,0] (Gz l V h) (xT N0 (xB 0 (SW (Za CO) Tryz.f231 CX [1,1] Q)))
theorem ZBK(l)(V s)(N0)(Q)(h:let z1:=aR l (G s) H.nil;let z0:=H.mk (H.D z1) (H.aS z1) (H.X z1);iB (decide (s<(J l))) ((0<=s/\s<(J l))/\LA (z0,(V,()),())/\iB (! Zf (H.mk V [] [z0]) 64) (Q .ret (L2 [pI 4 s] [(.x 0,[ci V])])) ( bQ (s+1)/\N0 (Gz l V (s+1)))) (Q .ret (L2 [pI 4 (-1)] [(.x 0,[ci V])]))):ZMp l V s N0 Q:=Eq.mpr V4 h
def ZJF:List (FuncId×Fs U):=[(231,Zx1)]
def ZUt:Zb U:=cI [[0,1,900],[0,1,4]]
end
theorem ZXp:aU Tryz.prog M 217 Zx8:=by refine kX (l:=ZJE) ⟨ZXo,trivial⟩ ZUs Tryz.func217 2 λ⟨t,⟨V,_⟩,_⟩s=>?_;simp only[LA]at s;refine wV (λQ=>let z0:=H.mk t.D t.aS t.X;GU (V,z0,())/\Q .ret (L2 [(3,.c (.bool ! Zf (H.mk V [] [z0]) 64))] [(.x 0,[ci V])])) ?_ λ_ h=>Eq.mpr V4 h;(simp only[vE]);refine⟨by simp only[GU];exact s,?_⟩;simp only[ZEu,ZxW];exact V0
theorem Zlw{V l}:∀i,(∀t∈l.take i,Zf (H.mk V [] [t]) 64=Y)->i<=J l->pZ V l 0=pZ V (l.drop i) i
 |0,_,_=>by simp|i+1,h,hi=>by
  have ih:=Zlw i (λt s=>h t (by rw[Kn];exact Qo.2 (Or.inl s))) O;rw[ih];have e:l.drop i=aR l i H.nil::l.drop (i+1):=by have:=ZO (l:=l) (i:=(i:Int)) O O H.nil;simpa using this
  have hm:aR l i H.nil∈l.take (i+1):=by rw[List.mem_take_iff_getElem];exact⟨i,O,by simp[List.getD,Q8 (show i<J l by omega)]⟩
  rw[e,pZ,Q5 (h _ hm)];simp
theorem ZXi:aU Tryz.prog M 231 Zx1:=by
 refine kX (l:=CO) ⟨ZXp,trivial⟩ CX Tryz.func231 2 λ⟨l,⟨V,_⟩,_⟩hp=>?_;simp only[uh]at hp;refine wV (λQ=>Zi (AW (Za CO) Tryz.f231 CX [1,0,1,0,0]) (Gz l V 0) (xB 0 (SW (Za CO) Tryz.f231 CX [1,1] Q))) ?_ λ_ h=>Eq.mpr V4 h;refine Z5 (ι:=Int) (λs=>Gz l V s) (λs=>0<=s/\s<=J l/\∀t∈l.take (G s),Zf (H.mk V [] [t]) 64=Y) (λs=>G (( J l:Int)-s)) 0 rfl ⟨by simp,by simp,by simp⟩ ?_;rintro i⟨g1,g2,g3⟩;have hb:=Zlw (V:=V) (l:=l) (G i) g3 O;have hl:=Zs l;refine ZBK _ _ _ _ _ ?_;(simp only[iB,bW]);(simp only[vE]);refine⟨λhi=>⟨⟨g1,hi⟩,?_,λL=>?_,λL=>?_⟩,λhi=>?_⟩;.have hm:=Zh (l:=l) (i:=G i) O H.nil;simp only[LA];have h1:=YM hm;exact⟨O,YW hp.2.1 hm,hp.2.2⟩
 .rw[ZO g1 hi H.nil,pZ,Q0 (by grind)]at hb;simp only[Tp,C9];rw[hb,show(( G i:Nat):Int)=i by omega];exact V0
 .refine⟨V3,i+1,rfl,⟨O,O,λt ht=>?_⟩,O⟩;rw[show G (i+1)=G i+1 by omega,Kn]at ht;grind
 .rw[Qb O]at hb;simp only[Tp,C9];rw[hb,pZ];exact V0
theorem WU:aU Tryz.prog M 216 Ov:=by
 refine kX (l:=ZJF) ⟨ZXi,trivial⟩ ZUt Tryz.func216 2 λ⟨l,⟨V,_⟩,_⟩s=>?_;simp only[uh]at s;refine wV (λQ=>uh (l,(V,()),())/\Q .ret (L2 [pB 4 (decide ((0:Int)<=pZ V l 0))] [(.x 0,[ci V])])) ?_ λ_ h=>Eq.mpr V4 h;have hb:=Znu V l 0 V1;refine⟨by simp only[uh];exact s,?_⟩;have e:decide (0<=pZ V l 0)=! nT V l:=by rw[QA,Qh,hb];cases nT V l<;>simp
 simp only[ZEv,C9];rw[e];exact V0
noncomputable section
def ZQ7(a:Ys):aA U:=.c (.bool (oN a.1))
def UA:Fs U:=fs kV (λa=>[hH a]) ZQ7
def ZKj:List (FuncId×Fs U):=[(178,xx)]
def ZV1:Zb U:=cI [[1,501],[3],[3,4],[1,2,4,501],[1,2,21,501],[1,2,21,501],[]]
end
theorem ZXB:aU Tryz.prog M 178 xx:=by refine kF (l:=cQ) trivial n8 Tryz.func178 1 λ⟨t,_⟩s=>?_;simp only[mW]at s;have:=ZsP t;refine wV (λQ=>Tk 6 (t.D==0) (((t.D==0)=Y->bQ ((( J t.aS:Int):Int)+( J t.X:Int)))/\Tk 2 (t.D==0) (Q .ret (L2 [(2,.c (.bool (bif t.D==0 then( (( J t.aS:Int):Int)+( J t.X:Int):Int)==0 else I)))] [])))) ?_ λ_ h=>Eq.mpr V4 h;simp only[iB,bR,bW,nf,Xw];refine⟨λ_=>by unfold bQ;omega,Z9 rfl ?_⟩;rw[QA];simp only[JF];grind
theorem O8:aU Tryz.prog M 121 UA:=by
 refine kF (l:=ZKj) ⟨ZXB,trivial⟩ ZV1 Tryz.func121 1 λ⟨e,_⟩hp=>?_;simp only[hH]at hp;have h1:=Yr e;have h2:=Yl e.X;refine wV (λQ=>∀aa,aa=e.new->∀s,s=e.bH->let z2:=Q .ret (L2 [pB 2 I] []);let z1:=! e.D==3&&e.V==0;let z0:=e.D !=1&&JF s;Tk 3 (e.D !=1) (((e.D !=1)=Y->mW (s,()))/\Tt (e.D !=1)/\Tk 3 z0 ((z0=Y->mW (aa,()))/\((e.D !=1)=Y->True->(e.D !=1)=Y)/\((e.D !=1)=Y->JF s=Y->z0=Y)/\Tk 2 (e.D !=1) (iB (bif e.D !=1 then ! bif JF s then JF aa else I else I) z2 (Tk 6 (e.D !=2) (((e.D !=2)=Y->bQ ((( J e.aS:Int):Int)+( J e.X:Int)))/\Tk 2 (e.D !=2) (iB (bif e.D !=2 then decide ((0:Int)<(( J e.aS:Int):Int)+( J e.X:Int))else I) z2 (Tk 3 (! e.D==3) (Tk 3 z1 (( ! e.D==3=Y->True->! e.D==3=Y)/\((! e.D==3)=Y->(e.V==0)=Y->z1=Y)/\((e.D==3)=I->(! e.D==3)=Y)/\Q .ret (L2 [(2,.c (.bool (bif e.D==3 then Y else bif e.V==0 then(( J e.ops:Int):Int)==0 else I)))] []))))))))))) ?_ λ_ h=>Eq.mpr V4 (h _ (Z7 _) _ (Z7 _));rintro y1 rfl y2 rfl;simp only[iB,bR,bW,nf,Xw];refine⟨λ_=>by simp only[mW];omega,λ_=>by simp only[mW];omega,λh=>?_,λh=>⟨λ_=>by unfold bQ;omega,λh3=>?_,λh3=>?_⟩⟩;.refine Z9 rfl ?_;show I=oN e;unfold oN;grind
 .refine Z9 rfl ?_;show I=oN e;unfold oN;grind
 .refine Z9 rfl ?_;show _=oN e;unfold oN;grind
noncomputable section
def nt(a:tU):Prop:=(Z1 a.1<=18000000000/\Ye a.1)/\0<=a.2.1/\a.2.1<=1000
def pS(a:tU):Nat:=4*Z1 a.1
def SM:Fs U:=fs qB (λa=>[nt a]) yS
def BU:cF xk:=.cons (fY .cJ) (.cons (J1 .i64) .nil)
def xo(a:xk):Prop:=(ZM a.1<=18000000000/\kG a.1)/\0<=a.2.1/\a.2.1<=1000
def zk(a:xk):Nat:=4*ZM a.1+2
def EI(a:xk):aA U:=.c (.bool (ZJ (-1) a.1 a.2.1))
def ZxB:Fs U:=fs BU (λa=>[xo a]) EI
def wP(a:tU):Prop:=(Z1 a.1<=18000000000/\Ye a.1/\2<=W.V a.1/\W.V a.1<=9)/\0<=a.2.1/\a.2.1<=1000
def A4(a:tU):Nat:=4*Zq a.1.ops+2
def GV(a:tU):aA U:=.c (.bool (ZK a.1.V a.1.ops a.2.1&&decide (iT a.1.ops 0<1048576/\iR a.1.ops 0<1048576)))
def ZxA:Fs U:=fs qB (λa=>[wP a]) GV
def yH(a:AT):Prop:=(Zy a.2.1<=18000000000/\Jt a.2.1/\2<=a.1/\a.1<=9)/\0<=a.2.2.1/\a.2.2.1<=1000
def zp(a:AT):Nat:=4*Zy a.2.1+1
def Zxq:Fs U:=fs xd (λa=>[yH a]) ye
def ZFa(a:Ys):Prop:=Z1 a.1<=18000000000/\Ye a.1
def ZU0(a:Ys):aA U:=.c (.bool (Z3 a.1 64))
def ZDP:Fs U:=fs kV (λa=>[ZFa a]) ZU0
def mC(N:Nat):List (FuncId×Fs U):=(78,fs qB (λa=>[nt a,pS a<N]) yS)::(124,fs BU (λa=>[xo a,zk a<N]) EI)::(126,fs qB (λa=>[wP a,A4 a<N]) GV)::(179,fs xd (λa=>[yH a,zp a<N]) ye)::[(121,UA),(122,Rs),(123,SB),(125,Bi),(216,Ov),(219,Vz),(169,SR)]
def ZU9:Zb U:=cI [[1,2,502],[11],[1,2,4,11,502],[1,2,4,13,502],[14],[1,2,4,13,14,502],[1,2,4,13,16,502],[1,2,4,13,16,502],[1,2,4,13,26,502],[1,2,4,13,26,502],[1,2,4,38,502],[1,2,4,38,502],[]]
def ZTd(N:Nat)(e:W)(d:Int):Prop:=AW (Za (mC N)) Tryz.f78 ZU9 [] (Y5 (qB.cK (e,d,())) []) (EQ Tryz.f78 (yS (e,d,())) [])
abbrev ZW5:Prop:=∀N(e:W)d(_:Unit),nt (e,d,())->pS (e,d,())<N+1->ZTd N e d
def zm:Zb U:=cI [[0,1],[7,8,9],[10],[5,6,10,506],[5,6,49,506],[0,1,4,7,8,9,49],[0,1,4,7,8,9],[0,1,4,7,8,9]]
def GM(l:List bP)(d h:Int):bT U:=L2 [(0,.c (sU .cJ l .bA)),pI 1 d,(7,.c (sU .cJ l .bA)),pI 8 (J l),pI 9 h] []
abbrev ZMD(N)(l)(d h)(N0:NT)(Q:QT):=AW (Za (mC N)) Tryz.f124 zm [1,0,1,0,0] (GM l d h) (xT N0 (xB 0 (SW (Za (mC N)) Tryz.f124 zm [1,1] Q)))
theorem ZCK(N)(l:List bP)(d x9)(N0)(Q)(h:∀s,s=aR l (G x9) (aW.mk 0 W.nil)->∀ae,ae=List.getD l (Int.toNat (x9-1)) (aW.mk 0 W.nil)->∀ab,ab=s.e->let z5:=decide (0<x9);let z4:=decide (s.S<0);let z0:=bif z4 then Y else decide (65535<=s.S);let z3:=!z0&&z5;let z1:=bif z0 then Y else bif z5 then decide (s.S<=ae.S)else I;let z2:=bif z1 then Y else s.e.D==0;iB (decide (x9<(J l))) ((0<=x9/\x9<(J l))/\Tk 2 (!z4) ((z4=I->(!z4)=Y)/\Tk 2 (!z0) ( Tt z3/\(z3=Y->bQ (x9-1))/\Tk 2 z3 ((z3=Y->0<=x9-1/\x9-1<(J l))/\Tk 5 z3 (((!z0)=Y->True->(!z0)=Y)/\((!z0)=Y->z5=Y->z3=Y)/\(z0=I->(!z0)=Y)/\Tk 3 (!z1) ((z1=I->(!z1)=Y)/\Tk 3 (!z2) (((!z2)=Y->nt (ab,d,()))/\((!z2)=Y->pS (ab,d,())<N)/\Tt !z2/\(z2=I->(!z2)=Y)/\iB (bif z2 then Y else ! Z3 ab d) (Q .ret (L2 [pB 4 I] [])) ( bQ (x9+1)/\N0 (GM l d (x9+1)))))))))) (Q .ret (L2 [pB 4 Y] []))):ZMD N l d x9 N0 Q:=Eq.mpr V4 (h _ rfl _ rfl _ (Z0 _))
def ZN9(N:Nat)(l:List bP)(d:Int):Prop:=AW (Za (mC N)) Tryz.f124 zm [] (Y5 (BU.cK (l,d,())) []) (EQ Tryz.f124 (EI (l,d,())) [])
abbrev ZP3:Prop:=∀N(l:List bP)d(_:Unit),xo (l,d,())->zk (l,d,())<N+1->ZN9 N l d
def B0:Zb U:=cI [[1,2,502],[10,11,12],[13],[6,13,506],[6,21,506],[1,2,4,10,11,12,21,502],[1,2,4,10,11,12,502],[1,2,7,8,10,11,12,502],[4,7,8]]
def Fm(e:W)(d h:Int):bT U:=L2 [pI 1 d,pL 2,(10,.c (sU .op e.ops .bA)),pI 11 (J e.ops),pI 12 h] [(.bE 2,enc .aY e)]
abbrev ZMC(N)(e)(d h)(N0:NT)(Q:QT):=AW (Za (mC N)) Tryz.f126 B0 [1,0,1,0,0] (Fm e d h) (xT N0 (xB 0 (SW (Za (mC N)) Tryz.f126 B0 [1,1] Q)))
theorem ZCJ(N)(e)(d s)(N0)(Q)(h:∀aa,aa=e->∀ae,ae=aR e.ops (G s) Op.nil->∀ab,ab=ae->let z0:=decide ((nu aa.ops 0)<1048576);iB (decide (s<(J e.ops))) ((0<=s/\s<(J e.ops))/\yH (e.V,ab,d,())/\zp (e.V,ab,d,())<N/\iB (! Zg e.V ab d) (Q .ret (L2 [pB 4 I] [])) ( bQ (s+1)/\N0 (Fm e d (s+1)))) ( hH (aa,())/\Tk 2 z0 (Q .ret (L2 [(4,.c (.bool (bif z0 then decide ((mS aa.ops 0)<1048576)else I)))] [])))):ZMC N e d s N0 Q:=Eq.mpr V4 (h _ (Z0 _) _ rfl _ (Yp _))
def ZN8(N:Nat)(e:W)(d:Int):Prop:=AW (Za (mC N)) Tryz.f126 B0 [] (Y5 (qB.cK (e,d,())) []) (EQ Tryz.f126 (GV (e,d,())) [])
abbrev ZP2:Prop:=∀N(e:W)d(_:Unit),wP (e,d,())->A4 (e,d,())<N+1->ZN8 N e d
def ZOc:Zb U:=cI [[2,3,4,503,504],[8],[9],[9,11],[11,13],[8,13,15],[2,3,4,6,15,503,504],[],[],[]]
def ZMY(N:Nat)(V:Int)(o:Op)(d:Int):Prop:=AW (Za (mC N)) Tryz.f179 ZOc [] (Y5 (xd.cK (V,o,d,())) []) (EQ Tryz.f179 (ye (V,o,d,())) [])
abbrev ZOT:Prop:=∀N(V:Int)o(d:Int)(_:Unit),yH (V,o,d,())->zp (V,o,d,())<N+1->ZMY N V o d
def ZR8:List (FuncId×Fs U):=[(78,SM)]
theorem ZJa(O8:CT 121 UA)(OG:CT 122 Rs)(ZRV:CT 123 SB)(C6:CT 125 Bi)(WU:CT 216 Ov)(S9:CT 219 Vz)(SV:CT 169 SR)(Tb:ZW5)(SJ:ZP3)(Th:ZP2)(ZSc:ZOT):CT 78 SM/\CT 124 ZxB/\CT 126 ZxA/\CT 179 Zxq:=by
 have af:FK 78:=⟨Tryz.f78,Tryz.func78,rfl,rfl⟩;have ae:FK 124:=⟨Tryz.f124,Tryz.func124,rfl,rfl⟩;have ab:FK 126:=⟨Tryz.f126,Tryz.func126,rfl,rfl⟩;have aa:FK 179:=⟨Tryz.f179,Tryz.func179,rfl,rfl⟩;have s:∀N,CT 78 (fs qB (λa=>[nt a,pS a<N]) yS)/\CT 124 (fs BU (λa=>[xo a,zk a<N]) EI)/\CT 126 (fs qB (λa=>[wP a,A4 a<N]) GV)/\CT 179 (fs xd (λa=>[yH a,zp a<N]) ye):=by intro N;induction N with|zero=>exact⟨YU af,YU ae,YU ab,YU aa⟩|succ N ih=>have kn:=mD (l:=mC N) ⟨ih.1,ih.2.1,ih.2.2.1,ih.2.2.2,O8,OG,ZRV,C6,WU,S9,SV,trivial⟩;exact⟨Zt (Γ:=Za (mC N)) ZN rfl kn ZU9 Tryz.func78 rfl rfl λa=>by show 2<=_;decide λ⟨e,d,_⟩h=>Tb N e d () h.1 h.2.1,Zt (Γ:=Za (mC N)) ZN rfl kn zm Tryz.func124 rfl rfl λa=>by show 2<=_;decide λ⟨l,d,_⟩h=>SJ N l d () h.1 h.2.1,Zt (Γ:=Za (mC N)) ZN rfl kn B0 Tryz.func126 rfl rfl λa=>by show 2<=_;decide λ⟨e,d,_⟩h=>Th N e d () h.1 h.2.1,Zt (Γ:=Za (mC N)) ZN rfl kn ZOc Tryz.func179 rfl rfl λa=>by show 3<=_;decide λ⟨V,o,d,_⟩h=>ZSc N V o d () h.1 h.2.1⟩
 exact⟨YV af λN=>(s N).1,YV ae λN=>(s N).2.1,YV ab λN=>(s N).2.2.1,YV aa λN=>(s N).2.2.2⟩
end
theorem ZzX{e}:Z3 e 1=Y/\e.D=0↔lE e=Y:=by
 rw[D7];simp only[lE,Q9,Qh];by_cases hk:e.D=0
 .rw[Q0 O];by_cases hb:JF e.bH=Y/\JF e.new=Y
  .by_cases hw:J e.aS=0/\J e.X=0
   .by_cases hl:e.V=0/\J e.ops=0
    .have h1:e.aS=[]:=X4.1 hw.1;have h2:e.X=[]:=X4.1 hw.2;have s:e.ops=[]:=X4.1 hl.2;rw[Q0 λh=>by grind,Q0 O,h1,h2,s];simp only[Ya,ZJ,ZK,iT,iR,X6,Bool.and_true,Q9,Qh];grind
    grind
   grind
  grind
 omega
theorem Tb:ZW5:=by
 intro N e d _ hp hN;simp only[nt,pS]at hp hN;obtain⟨⟨hm,hr⟩,ar,a6⟩:=hp;obtain⟨ik,ro,rn,a3,il,rk,az⟩:=uo hr;have a1:=Yr e;have a7:=Yl e.X;have a4:=Y4 e.ops;have ab:=D7 e d;rw[NZ ar]at ab;refine wV (λQ=>∀aa,aa=e->∀af,af=e.new->∀ah,ah=e.bH->let z3:=Q .ret (L2 [pB 4 I] []);let z2:=Ya (-1) e.aS;let z1:=decide (H.D ah≠10)&&Zf ah 64;let z0:=decide (2<=e.V/\e.V<=9);hH (aa,())/\Tt ! ! oN aa/\((! oN aa)=I->(! ! oN aa)=Y)/\iB (bif ! oN aa then Y else d==0) z3 (iB (e.D==0) (Q .ret (L2 [pB 4 Y] [])) (iB (e.D==1) ( tJ (ah,())/\Tk 2 z1 ((z1=Y->tJ (af,()))/\Tt z1/\Q .ret (L2 [pB 4 (bif z1 then decide (H.D af≠10)&&Zf af 64 else I)] []))) (iB (e.D==2) ( NP (e.aS,())/\Tk 2 z2 ((z2=Y->bQ (d-1))/\Tk 2 z2 ((z2=Y->xo (e.X,d-1,()))/\(z2=Y->zk (e.X,d-1,())<N)/\Tt z2/\Q .ret (L2 [pB 4 (bif z2 then ZJ (-1) e.X (d-1)else I)] [])))) (iB (e.D==3) ( p8 (e.V,())/\Tt z0/\(z0=Y->bQ (d-1))/\Tk 2 z0 ((z0=Y->wP (aa,d-1,()))/\(z0=Y->A4 (aa,d-1,())<N)/\Tt z0/\Q .ret (L2 [pB 4 (bif z0 then ZK aa.V aa.ops (d-1)&&decide (iT aa.ops 0<1048576/\iR aa.ops 0<1048576)else I)] []))) z3))))) ?_ λ_ h=>Eq.mpr V4 (h _ (Z0 _) _ (Z7 _) _ (Z7 _));rintro s ao y2 aq y3 ax;subst ao aq ax;simp only[iB,bR,bW,nf,Xw];have ai:oN s=Y↔¬( s.D≠1/\¬(JF s.bH=Y/\JF s.new=Y)\/s.D≠2/\¬( J s.aS=0/\J s.X=0)\/s.D≠3/\(s.V≠0\/J s.ops≠0)):=by
  unfold oN;split;.grind
  .grind
 refine⟨by simp only[hH];omega,λL=>Z9 rfl ?_,λL=>?_⟩;.grind
 have hb:=ai.1 L.1;have aw:¬(s.D=0\/s.D=1\/s.D=2\/s.D=3)->Z3 s d=I:=λh=>by grind
 by_cases hk:s.D=0\/s.D=1\/s.D=2\/s.D=3
 .rw[Q0 O,Q0 hb]at ab;have hw:s.D≠2->s.aS=[]/\s.X=[]:=by
   intro h;have:J s.aS=0/\J s.X=0:=XB λh2=>hb (Or.inr (Or.inl ⟨h,h2⟩));exact⟨X4.1 this.1,X4.1 this.2⟩
  have ho:s.D≠3->s.V=0/\s.ops=[]:=by
   intro h;have:s.V=0/\J s.ops=0:=by
    constructor;.exact XB λh2=>hb (Or.inr (Or.inr ⟨h,Or.inl h2⟩))
    .exact XB λh2=>hb (Or.inr (Or.inr ⟨h,Or.inr h2⟩))
   exact⟨this.1,X4.1 this.2⟩
  refine⟨λh0=>Z9 rfl ?_,λh0=>⟨λh1=>⟨by simp only[tJ];grind,λ_=>by simp only[tJ];grind,Z9 rfl ?_⟩,λh1=>⟨λh2=>⟨by simp only[NP];grind,λ_=>by unfold bQ;omega,λ_=>by simp only[xo];grind,λ_=>by simp only[zk];omega,Z9 rfl ?_⟩,λh2=>⟨λh3=>⟨trivial,λ_=>by unfold bQ;omega,λhl=>by simp only[wP];grind,λ_=>by simp only[A4];omega,Z9 rfl ?_⟩,λh3=>?_⟩⟩⟩⟩;.rw[ab,Q0 O,(hw O).1,(hw O).2,(ho O).1,(ho O).2];simp[Ya,ZJ,ZK,iT,iR];omega
  .rw[ab,Q5 h1,QA];grind
  .rw[ab,Q0 h1,(ho O).1,(ho O).2,QA];simp only[ZK,iT,iR];grind
  .rw[ab,Q0 h1,(hw O).1,(hw O).2,QA];simp only[Ya,ZJ];grind
  .omega
 .have he:=aw hk;refine⟨λh0=>by omega,λh0=>⟨λh1=>by omega,λh1=>⟨λh2=>by omega,λh2=>⟨λh3=>by omega,λh3=>Z9 rfl ?_⟩⟩⟩⟩;rw[he]
theorem SJ:ZP3:=by
 intro N l d _ hp hN;simp only[xo,zk]at hp hN;obtain⟨⟨hm,hr⟩,ay,a1⟩:=hp;have hl:=Yl l;refine wV (λQ=>Zi (AW (Za (mC N)) Tryz.f124 zm [1,0,1,0,0]) (GM l d 0) (xB 0 (SW (Za (mC N)) Tryz.f124 zm [1,1] Q))) ?_ λ_ h=>Eq.mpr V4 h;refine Z5 (ι:=Int) (λi=>GM l d i) (λi=>0<=i/\i<=J l/\∃s,-1<=s/\(i=0->s=-1)/\(0<i->s=(aR l (G (i-1)) (aW.mk 0 W.nil)).S)/\ZJ s (l.drop (G i)) d=ZJ (-1) l d) (λi=>G (( J l:Int)-i)) 0 rfl ⟨O,O,-1,O,λ_=>rfl,λh=>by omega,by simp⟩ ?_;rintro i⟨g1,g2,s,g3,g4,g5,g6⟩;refine ZCK N l d i _ _ ?_;rintro y1 ak y2 al y3 af;simp only[iB,bR,bW,nf,Xw];refine⟨λhi=>?_,λhi=>?_⟩
 .have aa:=Zh (l:=l) (i:=G i) O (aW.mk 0 W.nil);have ai:=JC aa;have ah:=Y6 hr aa;rw[ZO g1 hi (aW.mk 0 W.nil)]at g6;rw[<-ak]at g6 ai ah;rw[<-al]at g5;rw[<-af]at ai ah;simp only[ZJ,FT]at g6;rw[<-af]at g6;have hk:y1.e.D=y3.D:=by rw[af]
  rw[hk];have gl:(¬0<i\/¬y1.S<=y2.S)/\¬y1.S<0↔s<y1.S/\¬y1.S<0:=by
   by_cases h0:0<i;.have:=g5 h0;omega
   .have:=g4 O;omega
  refine⟨⟨g1,hi⟩,λ_=>by unfold bQ;omega,λ_=>by omega,λ_=>?_,λ_=>by simp only[pS];omega,λL=>Z9 rfl ?_,λL=>⟨V3,i+1,rfl,⟨O,O,y1.S,O,λh=>by omega,λ_=>by grind,?_⟩,O⟩⟩;.simp only[nt];grind
  .grind
  .rw[<-g6,L.2,QD (show s<y1.S/\y1.S<=65534/\y3.D≠0 by omega)];try rfl
 .rw[Qb O]at g6;simp only[EI];rw[<-g6];exact Z9 rfl rfl
theorem Zc7{V d}:∀{os:List Op},(∀o∈os,Zg V o d=Y)->ZK V os d=Y|[],_=>rfl|o::r,h=>by simp only[ZK,Q9];exact⟨h o (Q6 ..),Zc7 λx s=>h x (Q4 _ s)⟩
theorem Th:ZP2:=by
 intro N e d _ hp hN;simp only[wP,A4]at hp hN;obtain⟨⟨hm,hr,hl⟩,ay,a2⟩:=hp;obtain⟨ik,ro,rn,aw,il,rk,ai⟩:=uo hr;have au:=Yr e;have az:=Y4 e.ops;refine wV (λQ=>Zi (AW (Za (mC N)) Tryz.f126 B0 [1,0,1,0,0]) (Fm e d 0) (xB 0 (SW (Za (mC N)) Tryz.f126 B0 [1,1] Q))) ?_ λ_ h=>Eq.mpr V4 h;refine Z5 (ι:=Int) (λi=>Fm e d i) (λi=>0<=i/\i<=J e.ops/\∀o∈e.ops.take (G i),Zg e.V o d=Y) (λi=>G (( J e.ops:Int)-i)) 0 rfl ⟨O,O,by simp⟩ ?_;rintro i⟨g1,g2,g3⟩;refine ZCJ N e d i _ _ ?_;rintro y1 aj y2 ak y3 am;subst aj am;simp only[iB,bR,bW,nf,Xw];refine⟨λhi=>?_,λhi=>?_⟩
 .have s:=Zh (l:=y1.ops) (i:=G i) O Op.nil;have af:=Y9 s;have ah:=qe ai s;rw[<-ak]at s af ah;refine⟨⟨g1,hi⟩,?_,by simp only[zp];omega,λL=>Z9 rfl ?_,λL=>⟨V3,i+1,rfl,⟨O,O,λo ho=>?_⟩,O⟩⟩;.simp only[yH];grind
  .have:ZK y1.V y1.ops d=I:=by rw[<-Xx];intro h;have:=bM h s;rw[L]at this;cases this
   grind
  .rw[show G (i+1)=G i+1 by omega,Kn]at ho;grind
 .rw[Qy O]at g3;have ab:ZK y1.V y1.ops d=Y:=Zc7 g3;have hb:∀o∈y1.ops,(0<=o.n/\o.n<=1048576)/\J o.l<=20000000000:=by intro o ho;refine⟨Hq (g3 o ho),?_⟩;have h1:=Y9 ho;rw[ZZ]at h1;have h2:=Zs o.l;omega
  refine⟨by simp only[hH];omega,Z9 rfl ?_⟩;rw[ZsR _ _ hb V1 V1,ZsQ _ _ hb V1 V1,ab,X6];grind
theorem ZSc:ZOT:=by
 intro N V o d _ hp hN;simp only[yH,zp]at hp hN;obtain⟨⟨hm,hr,az⟩,au,a9⟩:=hp;obtain⟨ik,a7,rl,re⟩:=Jr hr;rw[ZZ]at hm hN;have a5:=Zs o.l;have ba:=AU o.e;have af:=rI V o d;rw[NZ au,ZfA]at af;have hs:=ZzX (e:=o.e);refine wV (λQ=>∀s,s=o.e->∀ah,ah=.bool (bif bif bif bif o.n==0 then decide ((0:Int)<( J o.l:Int))else I then Z3 s 1 else I then o.e.D==0 else I then ! ! nT V o.l else I)->let z9:=(( J o.l:Int):Int)==0;let z6:=bif decide ((1:Int)<=o.n)then decide (o.n<=1048576)else I;let z3:=bif o.n==0 then z9 else I;let z4:=bif z3 then ss V s else I;let z2:=bif o.n==0 then decide ((0:Int)<( J o.l:Int))else I;let z7:=bif z2 then Z3 s 1 else I;let z5:=bif z7 then o.e.D==0 else I;let z1:=bif z6 then z9 else I;let z8:=bif z1 then Z3 s 1 else I;let z0:=Tk 4 (o.n==0) (Tk 2 z2 ((z2=Y->nt (s,1,()))/\(z2=Y->pS (s,1,())<N)/\Tt z2/\Tk 4 z7 (Tk 3 z5 ((z5=Y->uh (o.l,(V,()),()))/\Tk 2 z5 (Q .ret (L2 [(6,.c ah)] []))))));iB (o.D==0) (Tk 3 (decide ((1:Int)<=o.n)) (Tk 4 z6 (Tk 2 z1 ((z1=Y->nt (s,1,()))/\(z1=Y->pS (s,1,())<N)/\Tt z1/\Tk 4 z8 (Q .ret (L2 [(6,.c (.bool (bif z8 then o.e.D==0 else I)))] [])))))) (iB (o.D==1) z0 (iB (o.D==2) z0 (iB (o.D==3) (Tk 4 (o.n==0) (Tk 3 z3 ((z3=Y->Ew (V,s,()))/\Tt z3/\Tk 3 z4 ((z4=Y->nt (s,d,()))/\(z4=Y->pS (s,d,())<N)/\Tt z4/\Q .ret (L2 [(6,.c (.bool (bif z4 then Z3 s d else I)))] []))))) (Q .ret (L2 [pB 6 I] [])))))) ?_ λ_ h=>Eq.mpr V4 (h _ (Z0 _) _ rfl);rintro y1 am y2 aq;subst am;simp only[iB,bR,bW,nf,Xw];have ae:nt (o.e,1,()):=by simp only[nt];exact⟨⟨O,re⟩,O,O⟩
 have ab:pS (o.e,1,())<N:=by simp only[pS];omega
 have aa:uh (o.l,(V,()),()):=by simp only[uh];exact⟨O,rl,V3⟩
 have ak:o.D=1\/o.D=2->y2=.bool (Zg V o d):=by
  intro hk;rw[aq,af,Q0 O];congr 1;rw[QA];(simp only[iB,bW]);by_cases hn:o.n=0
  .rw[Q0 O,Q5 O];(simp only[iB,bW]);constructor
   .rintro⟨⟨⟨⟨h1,h2⟩,h3⟩,h4⟩,h5⟩;exact⟨⟨h5,O⟩,hs.1 ⟨h3,h4⟩⟩
   .rintro⟨⟨h5,h2⟩,h3⟩;have:=hs.2 h3;exact⟨⟨⟨⟨hn,O⟩,this.1⟩,this.2⟩,h5⟩
  .rw[Q5 O];exact⟨λh=>absurd h.1.1.1.1 hn,λh=>nomatch h⟩
 refine⟨λhk=>⟨λ_=>ae,λ_=>ab,Z9 rfl ?_⟩,λhk=>⟨λai=>⟨λ_=>ae,λ_=>ab,λ_=>aa,?_⟩,λai=>⟨λaj=>⟨λ_=>ae,λ_=>ab,λ_=>aa,?_⟩,λaj=>⟨λav=>⟨λ_=>trivial,λ_=>?_,λ_=>by simp only[pS];omega,Z9 rfl ?_⟩,λav=>Z9 rfl ?_⟩⟩⟩⟩;.grind
 .rw[ak (Or.inl ai)];trivial
 .rw[ak (Or.inr aj)];trivial
 .simp only[nt];grind
 .rw[af,Q0 hk,QA];by_cases hn:o.n=0
  .rw[Q0 O,Q0 O];have hw:ss V o.e=Y↔(o.e.D≠0/\7<V)/\(V=8\/o.e.D=2\/o.e.D=1/\o.e.bH.D=1/\o.e.new.D=1):=by
    unfold ss;split;.grind
    .grind
   grind
  grind
 grind
theorem ZXd:aU Tryz.prog M 78 SM/\aU Tryz.prog M 124 ZxB/\aU Tryz.prog M 126 ZxA/\aU Tryz.prog M 179 Zxq:=ZJa O8 OG ZRV C6 WU S9 SV Tb SJ Th ZSc
theorem c28:aU Tryz.prog M 28 ZDP:=by refine kF (l:=ZR8) ⟨ZXd.1,trivial⟩ n8 Tryz.func28 1 λ⟨e,_⟩s=>?_;simp only[ZFa]at s;refine wV (λQ=>let z0:=W.mk e.D (H.mk e.bH.D e.bH.aS e.bH.X) (H.mk e.new.D e.new.aS e.new.X) e.aS e.X e.V e.ops;nt (z0,64,())/\Q .ret (L2 [pB 2 (Z3 z0 64)] [])) ?_ λ_ h=>Eq.mpr V4 h;(simp only[vE]);refine⟨by simp only[nt];grind,?_⟩;trivial
noncomputable section
def ZKe:List (FuncId×Fs U):=[(29,oe),(183,Zxn)]
end
theorem Dc:aU Tryz.prog M 133 sR:=by
 refine kF (l:=ZKe) ⟨Cv.1,ZXz,trivial⟩ ZWW Tryz.func133 1 λ⟨e,_⟩hp=>?_;simp only[fg]at hp;obtain⟨hm,d,hr⟩:=hp;refine wV (λQ=>∀aa,aa=e->∀s,s=oS aa->hH (aa,())/\fg (s,())/\Q .ret (L2 [pL 2] [(.bE 2,enc .aY (Zd s))])) ?_ λ_ h=>Eq.mpr V4 (h _ (Z0 _) _ (Z0 _));rintro y1 ab y2 ae;subst ab;have h1:=Fq y1;have h2:=Jn _ _ hr;have e2:y2=Zm y1:=by rw[ae,Wz _ _ hr]
 rw[<-e2]at h1 h2;refine⟨by simp only[hH];omega,by simp only[fg];grind,?_⟩;simp only[TC];rw[<-e2];exact V0
noncomputable section
def VL(a:YC):aA U:=.tup [(Y,enc .aY (iV a.1 a.2.1).1),(I,[.bool (iV a.1 a.2.1).2])]
def ZDG:Fs U:=fs gM (λa=>[jI a]) VL
def ZFd(a:Gk):Prop:=xQ a.1/\xQ a.2.1
def Vx:Fs U:=fs ZLb (λa=>[ZFd a]) zw
def ZL8:cF Hz:=.cons (fY .bD) (.cons (J1 .i64) .nil)
def zn(a:Hz):Prop:=J a.1<=1000000
def WY(a:Hz):aA U:=.tup [(Y,enc .bD ((JZ a.1 a.2.1).getD (aV.mk 0 0 0 0))),(I,[.bool (JZ a.1 a.2.1).isSome])]
def UX:Fs U:=fs ZL8 (λa=>[zn a]) WY
def vN(a:xk):Prop:=J a.1<=1000000
def VN(a:xk):aA U:=.agg (enc .aY (Yc a.1 a.2.1))
def RA:Fs U:=fs BU (λa=>[vN a]) VN
def ZLf:cF BP:=.cons (fY .int) (.cons (fY .int) .nil)
def ZuO(a:BP):Prop:=J a.1<=1000000/\J a.2.1<=1000000
def ZEx(a:BP):aA U:=.c (sU .int (Y7 a.1 a.2.1) .bA)
def Zxe:Fs U:=fs ZLf (λa=>[ZuO a]) ZEx
def Um(a:YC):Prop:=(a.1.aS.length<=1000000/\a.1.X.length<=1000000)/\a.2.1.aS.length<=1000000/\a.2.1.X.length<=1000000
def ZPV(a:YC):aA U:=.tup [(I,[sU .int (Y7 (a.1.aS.map aV.S) (a.2.1.aS.map aV.S)) .bA]),(I,[sU .int (Y7 (a.1.X.map aW.S) (a.2.1.X.map aW.S)) .bA])]
def EN:Fs U:=fs gM (λa=>[Um a]) ZPV
def sL(a:YC):Nat:=8*(Z1 a.1+Z1 a.2.1)+1
def zW(a:YC):aA U:=.tup [(Y,enc .aY (fC a.1 a.2.1).1),(I,[.bool (fC a.1 a.2.1).2])]
def FP:Fs U:=fs gM (λa=>[jI a]) zW
def sI(a:YC):Prop:=W.D a.1=2/\W.D a.2.1=2/\ZR a.1/\ZR a.2.1
def zX(a:YC):aA U:=.tup [(Y,enc .aY (rQ a.1 a.2.1).1),(I,[.bool (rQ a.1 a.2.1).2])]
def Zxt:Fs U:=fs gM (λa=>[sI a]) zX
def sm(a:YC):Prop:=W.D a.1=3/\W.D a.2.1=3/\ZR a.1/\ZR a.2.1
def Bo(a:YC):aA U:=.tup [(Y,enc .aY (r_ a.1 a.2.1).1),(I,[.bool (r_ a.1 a.2.1).2])]
def Zxs:Fs U:=fs gM (λa=>[sm a]) Bo
def vQ:cF ze:=.cons (fe .unit) (.cons (fe .unit) .nil)
def DC(a:ze):Prop:=(Ej a.1/\Ej a.2.1)/\bJ.D a.1≠1/\bJ.D a.2.1≠2
def uN(a:ze):Nat:=8*(Z1 a.1.e+Z1 a.2.1.e)+2
def AR(a:ze):aA U:=.tup [(I,[sU .op (gk fC a.1 a.2.1).1 .bA]),(I,[.bool (gk fC a.1 a.2.1).2])]
def Zxa:Fs U:=fs vQ (λa=>[DC a]) AR
def ZQZ:List (FuncId×Fs U):=[(111,Gu),(67,oe)]
def SS:Zb U:=cI [[2,3,4,502,503,504],[6,506],[7,8,9,10,507,508,509,510],[11],[12],[13,14,513,514],[15],[34],[34],[16,17],[57],[2,3,5,6,7,8,9,10,11,12,13,14,15,16,17,57,502,503,506,507,508,509,510,513,514],[2,3,5,6,7,8,9,10,11,12,13,14,15,16,17,62,502,503,506,507,508,509,510,513,514],[],[62],[68],[68],[68],[68,79],[],[16,17,79,89],[],[2,3,7,8,9,10,11,12,15,89,502,503,507,508,509,510],[13,513],[14,514],[5,6,506]]
def wC(p q:aV)(aw av ax ai af aj aa al ao h ak ar ab ah aq s au am ae:Int):bT U:=L2 [pL 2,pL 3,pL 4,pL 6,pL 7,pL 8,pL 9,pL 10,pI 11 aw,pI 12 av,pL 13,pL 14,pI 15 ax] [(.bE 2,enc .bD p),(.bE 3,enc .bD q),(.bE 4,[ci 0,.int .u8 0,.int .u64 0,.int .u64 0]),(.bE 6,[ci p.S,.int .u8 0,.int .u64 0,.int .u64 0]),(.bE 7,kc Z8 p.bH),(.bE 8,kc Z8 p.new),(.bE 9,kc Z8 q.bH),(.bE 10,kc Z8 q.new),(.bE 13,oI [ai,af,aj,aa,al,ao,h,ak]),(.bE 14,oI [ar,ab,ah,aq,s,au,am,ae])]
def Lo(p q:aV)(ax h aj ah ak ab am aq s al au ae ai ar aa av ao af aw:Int):bT U:=L2 [pL 2,pL 3,pL 4,pL 6,pL 7,pL 8,pL 9,pL 10,pI 11 ax,pI 12 aw,pL 13,pL 14,pI 15 h,pB 16 (Zu p.a_ h),pB 17 (Zu q.a_ h),pB 62 (bif Zu p.a_ h then Y else Zu q.a_ h)] [(.bE 2,enc .bD p),(.bE 3,enc .bD q),(.bE 4,[ci 0,.int .u8 0,.int .u64 0,.int .u64 0]),(.bE 6,[ci p.S,.int .u8 0,.int .u64 0,.int .u64 0]),(.bE 7,kc Z8 p.bH),(.bE 8,kc Z8 p.new),(.bE 9,kc Z8 q.bH),(.bE 10,kc Z8 q.new),(.bE 13,oI [aj,ah,ak,ab,am,aq,s,al]),(.bE 14,oI [au,ae,ai,ar,aa,av,ao,af])]
def VO(p q:aV)(ay ax aw:Int)(av:aA U)(af am ai al aj ak ah aq ae au h ab ar aa ao s:Int):bT U:=L2 [pL 2,pL 3,pL 4,pL 6,pL 7,pL 8,pL 9,pL 10,pI 11 (2*ay),pI 12 aw,pL 13,pL 14,pI 15 ax,pB 16 (Zu p.a_ ax),pB 17 (Zu q.a_ ax),(68,av)] [(.bE 2,enc .bD p),(.bE 3,enc .bD q),(.bE 4,[ci 0,.int .u8 0,.int .u64 0,.int .u64 0]),(.bE 6,[ci p.S,.int .u8 0,.int .u64 0,.int .u64 0]),(.bE 7,kc Z8 p.bH),(.bE 8,kc Z8 p.new),(.bE 9,kc Z8 q.bH),(.bE 10,kc Z8 q.new),(.bE 13,oI [af,am,ai,al,aj,ak,ah,aq]),(.bE 14,oI [ae,au,h,ab,ar,aa,ao,s])]
def Tn(p q:aV)(ax av aw ah ar h af aq ab al s ai ak aa am au ao ae aj:Int):bT U:=L2 [pL 2,pL 3,pL 4,pL 6,pL 7,pL 8,pL 9,pL 10,pI 11 (2*ax),pI 12 aw,pL 13,pL 14,pI 15 av,pB 16 (Zu p.a_ av),pB 17 (Zu q.a_ av),pB 79 (Zu p.a_ av)] [(.bE 2,enc .bD p),(.bE 3,enc .bD q),(.bE 4,[ci 0,.int .u8 0,.int .u64 0,.int .u64 0]),(.bE 6,[ci p.S,.int .u8 0,.int .u64 0,.int .u64 0]),(.bE 7,kc Z8 p.bH),(.bE 8,kc Z8 p.new),(.bE 9,kc Z8 q.bH),(.bE 10,kc Z8 q.new),(.bE 13,oI [ai,ak,aa,am,au,ao,ae,aj]),(.bE 14,oI [ah,ar,h,af,aq,ab,al,s])]
def Vk(p q:aV)(ax aw av ae aj h am au ao aa ai aq s al ak ah ab af ar:Int):bT U:=L2 [pL 2,pL 3,pL 4,pL 6,pL 7,pL 8,pL 9,pL 10,pI 11 (2*ax),pI 12 av,pL 13,pL 14,pI 15 aw,pB 89 (bif Zu p.a_ aw then ! Zu q.a_ aw else I)] [(.bE 2,enc .bD p),(.bE 3,enc .bD q),(.bE 4,[ci 0,.int .u8 0,.int .u64 0,.int .u64 0]),(.bE 6,[ci p.S,.int .u8 0,.int .u64 0,.int .u64 0]),(.bE 7,kc Z8 p.bH),(.bE 8,kc Z8 p.new),(.bE 9,kc Z8 q.bH),(.bE 10,kc Z8 q.new),(.bE 13,oI [ae,aj,h,am,au,ao,aa,ai]),(.bE 14,oI [aq,s,al,ak,ah,ab,af,ar])]
abbrev nk(p):=AW (Za Bp) Tryz.f212 SS p
abbrev lD(p):=SW (Za Bp) Tryz.f212 SS p
theorem ZBP(p q)(ay ax s ak ai al ae ao ar aa am av af aj au ab aw aq ah)(N0:NT)(Q:QT)(h:let z2:=Zu p.a_ s;let z1:=xB 1 (lD [1,1,1,1,1,1,0,1,0,0,1,1] (xT N0 (xB 0 (lD [1,1,1,1,1,1,1] Q))));let z0:=bif z2 then Zu q.a_ s else I;iB (decide (s<8)) ( Eo (p.a_,s,())/\Eo (q.a_,s,())/\Tt z2/\Tt z0/\(z0=Y->0<=s/\s<((8:Nat)))/\Tk 2 z0 ((z0=Y->0<=s/\s<((8:Nat)))/\Tk 4 z0 (iB (bif z0 then(List.getD [Z8 p.new 0,Z8 p.new 1,Z8 p.new 2,Z8 p.new 3,Z8 p.new 4,Z8 p.new 5,Z8 p.new 6,Z8 p.new 7] (G s) 0)!=List.getD [Z8 q.bH 0,Z8 q.bH 1,Z8 q.bH 2,Z8 q.bH 3,Z8 q.bH 4,Z8 q.bH 5,Z8 q.bH 6,Z8 q.bH 7] (G s) 0 else I) (Q .ret (L2 [pL 4,pB 5 I] [(.bE 4,[ci 0,.int .u8 0,.int .u64 0,.int .u64 0])])) ((z2=I->(!z2)=Y)/\iB (bif z2 then Y else Zu q.a_ s) ( bQ (ax+ay)/\nk [1,1,1,1,1,1,0,1,0,0,1,0,0,1,1,1] (Lo p q ay s ak ai al ae ao ar aa am av af aj au ab aw aq ah (ax+ay)) z1) (nk [1,1,1,1,1,1,0,1,0,0,1,0,0,1,1,1] (Lo p q ay s ak ai al ae ao ar aa am av af aj au ab aw aq ah ax) z1))))) ( Ho ( [ak,ai,al,ae,ao,ar,aa,am],0,())/\Ho ( [av,af,aj,au,ab,aw,aq,ah],0,())/\Q .ret (L2 [pL 4,pB 5 Y] [(.bE 4,[ci p.S,.int .u8 (IntKind.wrap .u8 ax),.int .u64 (ki λi=>[ak,ai,al,ae,ao,ar,aa,am].getD i 0),.int .u64 (ki λi=>[av,af,aj,au,ab,aw,aq,ah].getD i 0)])]))):nk [1,1,1,1,1,1,0,1,0,0] (wC p q ay ax s ak ai al ae ao ar aa am av af aj au ab aw aq ah) (xT N0 (xB 0 (lD [1,1,1,1,1,1,1] Q))):=Eq.mpr V4 h
theorem ZBQ(p q)(a1 s ak ai al ae ar av aa aq ax af aj aw ab ay au ah az)(N0:NT)(Q:QT)(h:∀ao,ao=List.getD [Z8 q.new 0,Z8 q.new 1,Z8 q.new 2,Z8 q.new 3,Z8 q.new 4,Z8 q.new 5,Z8 q.new 6,Z8 q.new 7] (G s) 0->∀am,am=List.getD [Z8 q.bH 0,Z8 q.bH 1,Z8 q.bH 2,Z8 q.bH 3,Z8 q.bH 4,Z8 q.bH 5,Z8 q.bH 6,Z8 q.bH 7] (G s) 0->let z0:=xB 1 (lD [1,1,1,1,1,1,0,1,0,0,1,1] (xT N0 (xB 0 (lD [1,1,1,1,1,1,1] Q))));bQ (2*a1)/\iB (Zu q.a_ s) ((0<=s/\s<((8:Nat)))/\(0<=s/\s<((8:Nat)))/\(0<=s/\s<((8:Nat)))/\(0<=s/\s<((8:Nat)))/\nk [1,1,1,1,1,1,0,1,0,0,1,0,0,1,1,1,1,1] (VO p q a1 s az .cY (J8 s 0 am ak) (J8 s 1 am ai) (J8 s 2 am al) (J8 s 3 am ae) (J8 s 4 am ar) (J8 s 5 am av) (J8 s 6 am aa) (J8 s 7 am aq) (J8 s 0 ao ax) (J8 s 1 ao af) (J8 s 2 ao aj) (J8 s 3 ao aw) (J8 s 4 ao ab) (J8 s 5 ao ay) (J8 s 6 ao au) (J8 s 7 ao ah)) z0) (nk [1,1,1,1,1,1,0,1,0,0,1,0,0,1,1,1,1,1] (VO p q a1 s az (.c (.bool (Zu q.a_ s))) ak ai al ae ar av aa aq ax af aj aw ab ay au ah) z0)):nk [1,1,1,1,1,1,0,1,0,0,1,0,0,1,1,1] (Lo p q a1 s ak ai al ae ar av aa aq ax af aj aw ab ay au ah az) (xB 1 (lD [1,1,1,1,1,1,0,1,0,0,1,1] (xT N0 (xB 0 (lD [1,1,1,1,1,1,1] Q))))):=Eq.mpr V4 (h _ rfl _ rfl)
theorem Zrb(p q)(a1 s ay)(az)(ai aq ak ao al am aj au ah aw aa af av ae ar ab)(N0:NT)(Q:QT)(h:∀ax,ax=List.getD [Z8 p.bH 0,Z8 p.bH 1,Z8 p.bH 2,Z8 p.bH 3,Z8 p.bH 4,Z8 p.bH 5,Z8 p.bH 6,Z8 p.bH 7] (G s) 0->let z0:=xB 1 (lD [1,1,1,1,1,1,0,1,0,0,1,1] (xT N0 (xB 0 (lD [1,1,1,1,1,1,1] Q))));iB (Zu p.a_ s) ((0<=s/\s<((8:Nat)))/\(0<=s/\s<((8:Nat)))/\nk [1,1,1,1,1,1,0,1,0,0,1,0,0,1,1,1,1,1,1] (Tn p q a1 s ay ah aw aa af av ae ar ab (J8 s 0 ax ai) (J8 s 1 ax aq) (J8 s 2 ax ak) (J8 s 3 ax ao) (J8 s 4 ax al) (J8 s 5 ax am) (J8 s 6 ax aj) (J8 s 7 ax au)) z0) (nk [1,1,1,1,1,1,0,1,0,0,1,0,0,1,1,1,1,1,1] (Tn p q a1 s ay ah aw aa af av ae ar ab ai aq ak ao al am aj au) z0)):nk [1,1,1,1,1,1,0,1,0,0,1,0,0,1,1,1,1,1] (VO p q a1 s ay az ai aq ak ao al am aj au ah aw aa af av ae ar ab) (xB 1 (lD [1,1,1,1,1,1,0,1,0,0,1,1] (xT N0 (xB 0 (lD [1,1,1,1,1,1,1] Q))))):=Eq.mpr V4 (h _ rfl)
theorem Ht(p q)(az s ay aj av aa ai au af ao ab ak am ae aq aw ar ah al)(N0:NT)(Q:QT)(h:∀ax,ax=List.getD [Z8 p.new 0,Z8 p.new 1,Z8 p.new 2,Z8 p.new 3,Z8 p.new 4,Z8 p.new 5,Z8 p.new 6,Z8 p.new 7] (G s) 0->let z0:=xT N0 (xB 0 (lD [1,1,1,1,1,1,1] Q));Tk 2 (Zu p.a_ s) (iB (bif Zu p.a_ s then ! Zu q.a_ s else I) ((0<=s/\s<((8:Nat)))/\(0<=s/\s<((8:Nat)))/\nk [1,1,1,1,1,1,0,1,0,0,1,1] (Vk p q az s ay ak am ae aq aw ar ah al (J8 s 0 ax aj) (J8 s 1 ax av) (J8 s 2 ax aa) (J8 s 3 ax ai) (J8 s 4 ax au) (J8 s 5 ax af) (J8 s 6 ax ao) (J8 s 7 ax ab)) z0) (nk [1,1,1,1,1,1,0,1,0,0,1,1] (Vk p q az s ay ak am ae aq aw ar ah al aj av aa ai au af ao ab) z0))):nk [1,1,1,1,1,1,0,1,0,0,1,0,0,1,1,1,1,1,1] (Tn p q az s ay aj av aa ai au af ao ab ak am ae aq aw ar ah al) (xB 1 (lD [1,1,1,1,1,1,0,1,0,0,1,1] (xT N0 (xB 0 (lD [1,1,1,1,1,1,1] Q))))):=Eq.mpr V4 (h _ rfl)
theorem LM(p q)(ay ax aw af ak s ao av aq ab aj ar aa am al ai ae ah au)(N0:NT)(Q:QT)(h:bQ (ax+1)/\N0 (wC p q (2*ay) aw (ax+1) af ak s ao av aq ab aj ar aa am al ai ae ah au)):nk [1,1,1,1,1,1,0,1,0,0,1,1] (Vk p q ay ax aw af ak s ao av aq ab aj ar aa am al ai ae ah au) (xT N0 (xB 0 (lD [1,1,1,1,1,1,1] Q))):=Eq.mpr V4 h
def Ok:Zb U:=cI [[0,1,4,504],[6],[10],[10],[19],[0,1,5,6,19],[]]
def HF(l:List aV)(S h:Int):bT U:=L2 [(0,.c (sU .bD l .bA)),pI 1 S,pL 4,pI 6 h] [(.bE 4,[ci 0,.int .u8 0,.int .u64 0,.int .u64 0])]
abbrev ZWf(p):=AW (Za cQ) Tryz.f211 Ok p
abbrev ZVL(p):=SW (Za cQ) Tryz.f211 Ok p
theorem ZBR(l)(S s)(N0:NT)(Q:QT)(h:let z0:=aR l (G s) (aV.mk 0 0 0 0);iB (decide (s<(J l))) ((0<=s/\s<(J l))/\iB ((aV.S z0)==S) ((0<=s/\s<(J l))/\Q .ret (L2 [pL 4,pB 5 Y] [(.bE 4,enc .bD z0)])) ( bQ (s+1)/\N0 (HF l S (s+1)))) (Q .ret (L2 [pL 4,pB 5 I] [(.bE 4,[ci 0,.int .u8 0,.int .u64 0,.int .u64 0])]))):ZWf [1,0,1,0,0] (HF l S s) (xT N0 (xB 0 (ZVL [1,1] Q))):=Eq.mpr V4 h
def Uv:Zb U:=cI [[0,1,4,504],[5],[9],[9],[18],[0,1,5,18],[]]
def Gf(l:List bP)(S h:Int):bT U:=L2 [(0,.c (sU .cJ l .bA)),pI 1 S,pL 4,pI 5 h] [(.bE 4,eI)]
abbrev ZWe(p):=AW (Za cQ) Tryz.f213 Uv p
abbrev ZVK(p):=SW (Za cQ) Tryz.f213 Uv p
theorem ZBO(l:List bP)(S s)(N0:NT)(Q:QT)(h:let z0:=aR l (G s) (aW.mk 0 W.nil);iB (decide (s<(J l))) ((0<=s/\s<(J l))/\iB ((aW.S z0)==S) ((0<=s/\s<(J l))/\Q .ret (L2 [pL 4] [(.bE 4,enc .aY (aW.e z0))])) ( bQ (s+1)/\N0 (Gf l S (s+1)))) (Q .ret (L2 [pL 4] [(.bE 4,eI)]))):ZWe [1,0,1,0,0] (Gf l S s) (xT N0 (xB 0 (ZVK [1,1] Q))):=Eq.mpr V4 h
def Tv:Zb U:=cI [[0,1],[5],[(5,[.bF .int]),6,7],[5,5,18],[18],[8],[8,23],[8,23],[60],[],[60,74],[],[(5,[.bF .int]),8,74],[0,1,4,5,6,7]]
def wQ(a b:List Int)(x6 h:Int)(s:List Int):bT U:=L2 [(0,.c (sU .int a .bA)),(1,.c (sU .int b .bA)),(5,.c (sU .int s (.bF (.e 5 0)))),pI 6 x6,pI 7 h] []
def Lw(a b:List Int)(x6 s:Int)(x5:List Int)(h:Int):bT U:=L2 [(0,.c (sU .int a .bA)),(1,.c (sU .int b .bA)),(5,.c (sU .int x5 (.bF (.e 5 0)))),pI 6 x6,pI 7 s,pI 8 h] []
def ND(a b:List Int)(x6 x7:Int)(x5:List Int)(h s:Int):bT U:=L2 [(0,.c (sU .int a .bA)),(1,.c (sU .int b .bA)),(5,.c (sU .int x5 (.bF (.e 5 0)))),pI 6 s,pI 7 x7,pI 8 h,(60,.c (.bool (bif decide (x6<(J a))then(aR a (G x6) (0:Int))==h else I)))] []
def MP(a b:List Int)(x7:Int)(x5:List Int)(h aa s:Int):bT U:=L2 [(0,.c (sU .int a .bA)),(1,.c (sU .int b .bA)),(5,.c (sU .int x5 (.bF (.e 5 0)))),pI 6 aa,pI 7 s,pI 8 h,(74,.c (.bool (bif decide (x7<(J b))then(aR b (G x7) (0:Int))==h else I)))] []
abbrev nO(p):=AW (Za cQ) Tryz.f200 Tv p
abbrev rF(p):=SW (Za cQ) Tryz.f200 Tv p
theorem ZBV(a b)(x6 s)(x5)(N0:NT)(Q:QT)(h:∀ae,ae=aR a (G x6) 0->∀ab,ab=aR b (G s) 0->let z2:=xB 1 (xT N0 (xB 0 (rF [1,1,1,1] Q)));let z1:=decide (x6<(J a));let z0:=decide ((( J b:Int))<=s);Tk 3 (!z1) ((z1=I->(!z1)=Y)/\iB (bif z1 then Y else decide (s<(J b))) (Tk 4 (!z0) (Tk 2 ( !z0&&z1) ((( !z0&&z1)=Y->0<=x6/\x6<(J a))/\Tk 3 ( !z0&&z1) ((( !z0&&z1)=Y->0<=s/\s<(J b))/\Tk 3 ( !z0&&z1) (((!z0)=Y->True->(!z0)=Y)/\((!z0)=Y->z1=Y->( !z0&&z1)=Y)/\(z0=I->(!z0)=Y)/\iB (bif z0 then Y else bif z1 then decide (ae<ab)else I) ((0<=x6/\x6<(J a))/\nO [1,1,1,0,0,0,1,0,1,1] (Lw a b x6 s x5 ae) z2) ((0<=s/\s<(J b))/\nO [1,1,1,0,0,0,1,0,1,1] (Lw a b x6 s x5 ab) z2)))))) (Q .ret (L2 [(4,.c (sU .int x5 (.bF (.e 4 0))))] [])))):nO [1,1,1,0,0,0] (wQ a b x6 s x5) (xT N0 (xB 0 (rF [1,1,1,1] Q))):=Eq.mpr V4 (h _ rfl _ rfl)
theorem ZBY(a b)(x6 x7)(x5)(s)(N0:NT)(Q:QT)(h:let z1:=xB 1 (xT N0 (xB 0 (rF [1,1,1,1] Q)));let z0:=decide (x6<( J a:Int));Tk 2 z0 ((z0=Y->0<=x6/\x6<(J a))/\Tk 4 z0 (iB (bif z0 then(aR a (G x6) (0:Int))==s else I) ( bQ (x6+1)/\nO [1,1,1,0,0,0,1,0,1,1,1] (ND a b x6 x7 x5 s (x6+1)) z1) (nO [1,1,1,0,0,0,1,0,1,1,1] (ND a b x6 x7 x5 s x6) z1)))):nO [1,1,1,0,0,0,1,0,1,1] (Lw a b x6 x7 x5 s) (xB 1 (xT N0 (xB 0 (rF [1,1,1,1] Q)))):=Eq.mpr V4 h
theorem ZBX(a b)(x6 x7)(x5)(s aa)(N0:NT)(Q:QT)(h:let z1:=xB 1 (xT N0 (xB 0 (rF [1,1,1,1] Q)));let z0:=decide (x7<( J b:Int));Tk 2 z0 ((z0=Y->0<=x7/\x7<(J b))/\Tk 4 z0 (iB (bif z0 then(aR b (G x7) (0:Int))==s else I) ( bQ (x7+1)/\nO [1,1,1,0,0,0,1,0,1,1,1,1] (MP a b x7 x5 s aa (x7+1)) z1) (nO [1,1,1,0,0,0,1,0,1,1,1,1] (MP a b x7 x5 s aa x7) z1)))):nO [1,1,1,0,0,0,1,0,1,1,1] (ND a b x6 x7 x5 s aa) (xB 1 (xT N0 (xB 0 (rF [1,1,1,1] Q)))):=Eq.mpr V4 h
theorem ZBW(a b)(x7)(x5)(s ab aa)(N0:NT)(Q:QT)(h:( J x5+J [s])*8<=140737488355328/\N0 (wQ a b ab aa (x5++[s]))):nO [1,1,1,0,0,0,1,0,1,1,1,1] (MP a b x7 x5 s ab aa) (xB 1 (xT N0 (xB 0 (rF [1,1,1,1] Q)))):=Eq.mpr V4 h
def UW:List (FuncId×Fs U):=[(200,Zxe)]
def Tx:Zb U:=cI [[2,3,502,503],[6,7,8,9],[(6,[.bF .int]),10],[6,6,18],[(6,[.bF .int]),18],[6,6],[(7,[.bF .int]),10,11],[7,7,34],[(7,[.bF .int]),34],[7,7],[(8,[.bF .int]),11,12],[8,8,50],[(8,[.bF .int]),50],[8,8],[2,(9,[.bF .int]),12,13,502],[9,9,66],[(9,[.bF .int]),66],[9,9],[3,4,5,6,7,8,9,13,503]]
def H_(p q:W)(h:Int)(s:List Int):bT U:=L2 [pL 2,pL 3,(6,.c (sU .int s (.bF (.e 6 0)))),(7,.c .nils),(8,.c .nils),(9,.c .nils),pI 10 h] [(.bE 2,enc .aY p),(.bE 3,enc .aY q)]
def IV(p q:W)(x6:List Int)(h:Int)(s:List Int):bT U:=L2 [pL 2,pL 3,(6,.c (sU .int x6 (.bF (.e 6 0)))),(7,.c (sU .int s (.bF (.e 7 0)))),(8,.c .nils),(9,.c .nils),pI 11 h] [(.bE 2,enc .aY p),(.bE 3,enc .aY q)]
def MA(p q:W)(x6 aa:List Int)(h:Int)(s:List Int):bT U:=L2 [pL 2,pL 3,(6,.c (sU .int x6 (.bF (.e 6 0)))),(7,.c (sU .int aa (.bF (.e 7 0)))),(8,.c (sU .int s (.bF (.e 8 0)))),(9,.c .nils),pI 12 h] [(.bE 2,enc .aY p),(.bE 3,enc .aY q)]
def I9(p q:W)(x6 s ab:List Int)(h:Int)(aa:List Int):bT U:=L2 [pL 3,(6,.c (sU .int x6 (.bF (.e 6 0)))),(7,.c (sU .int s (.bF (.e 7 0)))),(8,.c (sU .int ab (.bF (.e 8 0)))),(9,.c (sU .int aa (.bF (.e 9 0)))),pI 13 h] [(.bE 3,enc .aY q)]
abbrev w8(p):=AW (Za UW) Tryz.f152 Tx p
abbrev uE(p):=SW (Za UW) Tryz.f152 Tx p
theorem ZCB(p q)(s)(x6)(N0:NT)(Q:QT)(h:let z0:=aR p.aS (G s) (aV.mk 0 0 0 0);iB (decide (s<(J p.aS))) ((0<=s/\s<(J p.aS))/\( J x6+J [aV.S z0])*8<=140737488355328/\bQ (s+1)/\N0 (H_ p q (s+1) (x6++[aV.S z0]))) (Zi (w8 [1,1,1,0,1,0,0]) (IV p q x6 0 []) (xB 2 (uE [1,1,1,1] Q)))):w8 [1,1,0,1,0,0] (H_ p q s x6) (xT N0 (xB 0 (uE [1,1,1] Q))):=Eq.mpr V4 h
theorem ZCA(p q)(x6)(s)(aa)(N1:NT)(Q:QT)(h:let z0:=aR q.aS (G s) (aV.mk 0 0 0 0);iB (decide (s<(J q.aS))) ((0<=s/\s<(J q.aS))/\( J aa+J [aV.S z0])*8<=140737488355328/\bQ (s+1)/\N1 (IV p q x6 (s+1) (aa++[aV.S z0]))) (Zi (w8 [1,1,1,1,0,1,0,0]) (MA p q x6 aa 0 []) (xB 4 (uE [1,1,1,1,1] Q)))):w8 [1,1,1,0,1,0,0] (IV p q x6 s aa) (xT N1 (xB 2 (uE [1,1,1,1] Q))):=Eq.mpr V4 h
theorem ZCz(p q:W)(x6 ab)(s)(aa)(N2:NT)(Q:QT)(h:let z0:=aR p.X (G s) (aW.mk 0 W.nil);iB (decide (s<(J p.X))) ((0<=s/\s<(J p.X))/\( J aa+J [aW.S z0])*8<=140737488355328/\bQ (s+1)/\N2 (MA p q x6 ab (s+1) (aa++[aW.S z0]))) (Zi (w8 [1,1,1,1,1,0,1,0,0]) (I9 p q x6 ab aa 0 []) (xB 6 (uE [1,1,1,1,1,1] Q)))):w8 [1,1,1,1,0,1,0,0] (MA p q x6 ab s aa) (xT N2 (xB 4 (uE [1,1,1,1,1] Q))):=Eq.mpr V4 h
theorem ZCy(p q:W)(x6 ab ae)(s)(aa)(N3:NT)(Q:QT)(h:let z0:=aR q.X (G s) (aW.mk 0 W.nil);iB (decide (s<(J q.X))) ((0<=s/\s<(J q.X))/\( J aa+J [aW.S z0])*8<=140737488355328/\bQ (s+1)/\N3 (I9 p q x6 ab ae (s+1) (aa++[aW.S z0]))) ( ZuO (x6,ab,())/\ZuO (ae,aa,())/\Q .ret (L2 [(4,.c (sU .int (Y7 x6 ab) .bA)),(5,.c (sU .int (Y7 ae aa) .bA))] []))):w8 [1,1,1,1,1,0,1,0,0] (I9 p q x6 ab ae s aa) (xT N3 (xB 6 (uE [1,1,1,1,1,1] Q))):=Eq.mpr V4 h
def oB(N:Nat):List (FuncId×Fs U):=(112,fs gM (λa=>[jI a,sL a<N]) zW)::(167,fs gM (λa=>[sI a,kE a<N]) zX)::(168,fs gM (λa=>[sm a,kE a<N]) Bo)::(214,fs vQ (λa=>[DC a,uN a<N]) AR)::[(135,ui),(133,sR),(152,EN),(211,UX),(213,RA),(212,Vx),(157,Dy),(156,DE),(201,Eu),(151,l4)]
def ZOo:Zb U:=cI [[2,3,4,502,503,504],[10],[2,3,5,10,502,503],[2,3,5,15,502,503],[2,3,5,15,502,503],[2,3,5,20,502,503],[3,6,7,20,503,506],[2,5,6,7,502,506],[2,3,5,36,502,503],[2,8,9,36,502,508],[3,5,8,9,503,508],[2,3,5,53,502,503],[2,3,5,53,502,503],[2,3,5,60,502,503],[2,3,5,60,502,503],[]]
def ZNd(N:Nat)(p q:W):Prop:=AW (Za (oB N)) Tryz.f112 ZOo [] (Y5 (gM.cK (p,q,())) []) (EQ Tryz.f112 (zW (p,q,())) [])
abbrev ZP6:Prop:=∀N(p:W)q(_:Unit),jI (p,q,())->sL (p,q,())<N+1->ZNd N p q
def Gq:Zb U:=cI [[2,3,4,502,503,504],[6,506],[7,8],[9,(506,an 7 [.bF .bD])],[29,506,506],[29,(506,an 7 [.bF .bD])],[10,11,506,506,510],[12,13,512],[10,11,12,13,14,15,510,512,514],[15,59],[2,3,5,6,7,8,9,14,59,502,503,506,514],[2,3,5,6,7,8,9,502,503,506],[10,11,12,67,510,512],[10,11,12,67,510,512],[10,12,76,510,512],[10,12,76,510,512],[7,9,16,(506,an 8 [.bF .cJ])],[88,506,506],[88,(506,an 8 [.bF .cJ])],[17,18,506,506,517],[18,110],[2,3,5,6,8,16,17,110,502,503,506,517],[2,3,5,6,8,16,502,503,506],[2,3,5,6,8,16,502,503,506]]
def xM(p q:W)(s:Int)(h:List aV):bT U:=L2 [pL 2,pL 3,pL 4,pL 6,(7,.c (sU .int (Y7 ((W.mk p.D (H.mk p.bH.D p.bH.aS p.bH.X) (H.mk p.new.D p.new.aS p.new.X) p.aS p.X p.V p.ops).aS.map aV.S) ((W.mk q.D (H.mk q.bH.D q.bH.aS q.bH.X) (H.mk q.new.D q.new.aS q.new.X) q.aS q.X q.V q.ops).aS.map aV.S)) .bA)),(8,.c (sU .int (Y7 ((W.mk p.D (H.mk p.bH.D p.bH.aS p.bH.X) (H.mk p.new.D p.new.aS p.new.X) p.aS p.X p.V p.ops).X.map aW.S) ((W.mk q.D (H.mk q.bH.D q.bH.aS q.bH.X) (H.mk q.new.D q.new.aS q.new.X) q.aS q.X q.V q.ops).X.map aW.S)) .bA)),pI 9 s] [(.bE 2,enc .aY p),(.bE 3,enc .aY q),(.bE 4,eI),(.bE 6,[ci 2,ci 0,.nils,.nils,ci 0,.nils,.nils,sU .bD h (.bF (.l 6 7)),.nils,ci 0,.nils])]
def E5(p q:W)(s:Int)(h:List aV):bT U:=L2 [pL 2,pL 3,pL 4,pL 6,(7,.c (sU .int (Y7 ((W.mk p.D (H.mk p.bH.D p.bH.aS p.bH.X) (H.mk p.new.D p.new.aS p.new.X) p.aS p.X p.V p.ops).aS.map aV.S) ((W.mk q.D (H.mk q.bH.D q.bH.aS q.bH.X) (H.mk q.new.D q.new.aS q.new.X) q.aS q.X q.V q.ops).aS.map aV.S)) .bA)),(8,.c (sU .int (Y7 ((W.mk p.D (H.mk p.bH.D p.bH.aS p.bH.X) (H.mk p.new.D p.new.aS p.new.X) p.aS p.X p.V p.ops).X.map aW.S) ((W.mk q.D (H.mk q.bH.D q.bH.aS q.bH.X) (H.mk q.new.D q.new.aS q.new.X) q.aS q.X q.V q.ops).X.map aW.S)) .bA)),pI 9 s] [(.bE 2,enc .aY p),(.bE 3,enc .aY q),(.bE 4,eI),(.bE 6,[ci 2,ci 0,.nils,.nils,ci 0,.nils,.nils,sU .bD h (.bF (.l 6 7)),.nils,ci 0,.nils])]
def Lc(p q:W)(s:List aV)(aa:Int)(h:List bP):bT U:=L2 [pL 2,pL 3,pL 4,pL 6,(8,.c (sU .int (Y7 ((W.mk p.D (H.mk p.bH.D p.bH.aS p.bH.X) (H.mk p.new.D p.new.aS p.new.X) p.aS p.X p.V p.ops).X.map aW.S) ((W.mk q.D (H.mk q.bH.D q.bH.aS q.bH.X) (H.mk q.new.D q.new.aS q.new.X) q.aS q.X q.V q.ops).X.map aW.S)) .bA)),pI 16 aa] [(.bE 2,enc .aY p),(.bE 3,enc .aY q),(.bE 4,eI),(.bE 6,[ci 2,ci 0,.nils,.nils,ci 0,.nils,.nils,sU .bD s (.bF (.l 6 7)),sU .cJ h (.bF (.l 6 8)),ci 0,.nils])]
abbrev tP(N)(p):=AW (Za (oB N)) Tryz.f167 Gq p
abbrev xq(N)(p):=SW (Za (oB N)) Tryz.f167 Gq p
theorem ZCl(N)(p q)(x9)(s)(N0:NT)(Q:QT)(h:∀ak,ak=p->∀aj,aj=q->∀af,af=Y7 (ak.aS.map aV.S) (aj.aS.map aV.S)->∀aa,aa=aR af (G x9) 0->∀ae,ae=(JZ p.aS aa).getD (aV.mk 0 0 0 0)->∀ab,ab=(JZ q.aS aa).getD (aV.mk 0 0 0 0)->∀ai,ai=(Jk ae ab).1->let z0:=xT N0 (xB 0 (xq N [1,1,1,1] Q));iB (decide (x9<(J af))) ((0<=x9/\x9<(J af))/\zn (p.aS,aa,())/\(0<=x9/\x9<(J af))/\zn (q.aS,aa,())/\iB (!(JZ q.aS aa).isSome) ( ( J s+J [ae])*32<=140737488355328/\tP N [1,1,1,0,1,0,0,1,1] (E5 p q x9 (s++[ae])) z0) (iB (!(JZ p.aS aa).isSome) ( ( J s+J [ab])*32<=140737488355328/\tP N [1,1,1,0,1,0,0,1,1] (E5 p q x9 (s++[ab])) z0) ( ZFd (ae,ab,())/\iB (!(Jk ae ab).2) (Q .ret (L2 [pL 4,pB 5 I] [(.bE 4,eI)])) ( ( J s+J [ai])*32<=140737488355328/\tP N [1,1,1,0,1,0,0,1,1] (E5 p q x9 (s++[ai])) z0)))) (Zi (tP N [1,1,1,1,0,1,0,0]) (Lc p q s 0 []) (xB 3 (xq N [1,1,1,1,1] Q)))):tP N [1,1,1,0,1,0,0] (xM p q x9 s) (xT N0 (xB 0 (xq N [1,1,1,1] Q))):=Eq.mpr V4 (h _ (Z0 _) _ (Z0 _) _ rfl _ rfl _ (JB _) _ (JB _) _ (JB _))
theorem ZCm(N)(p q)(x9)(s)(N0:NT)(Q:QT)(h:bQ (x9+1)/\N0 (xM p q (x9+1) s)):tP N [1,1,1,0,1,0,0,1,1] (E5 p q x9 s) (xT N0 (xB 0 (xq N [1,1,1,1] Q))):=Eq.mpr V4 h
theorem ZCk(N)(p q)(ab)(s)(aa:List bP)(N2:NT)(Q:QT)(h:∀al,al=p->∀ak,ak=q->∀af,af=Y7 (al.X.map aW.S) (ak.X.map aW.S)->∀ae,ae=aR af (G s) 0->∀ai,ai=Yc p.X ae->∀ah,ah=Yc q.X ae->∀aj,aj=(fC ai ah).1->iB (decide (s<(J af))) ((0<=s/\s<(J af))/\vN (p.X,ae,())/\(0<=s/\s<(J af))/\vN (q.X,ae,())/\jI (ai,ah,())/\sL (ai,ah,())<N/\iB (!(fC ai ah).2) (Q .ret (L2 [pL 4,pB 5 I] [(.bE 4,eI)])) ((0<=s/\s<(J af))/\( J aa+J [aW.mk ae aj])*208<=140737488355328/\bQ (s+1)/\N2 (Lc p q ab (s+1) (aa++[aW.mk ae aj])))) (Q .ret (L2 [pL 4,pB 5 Y] [(.bE 4,[ci 2,ci 0,.nils,.nils,ci 0,.nils,.nils,sU .bD ab (.bF (.l 4 7)),sU .cJ aa (.bF (.l 4 8)),ci 0,.nils])]))):tP N [1,1,1,1,0,1,0,0] (Lc p q ab s aa) (xT N2 (xB 3 (xq N [1,1,1,1,1] Q))):=Eq.mpr V4 (h _ (Z0 _) _ (Z0 _) _ rfl _ rfl _ (Z0 _) _ (Z0 _) _ (Z0 _))
def ZN0(N:Nat)(p q:W):Prop:=AW (Za (oB N)) Tryz.f167 Gq [] (Y5 (gM.cK (p,q,())) []) (EQ Tryz.f167 (zX (p,q,())) [])
abbrev ZOV:Prop:=∀N(p:W)q(_:Unit),sI (p,q,())->kE (p,q,())<N+1->ZN0 N p q
def IN:Zb U:=cI [[2,3,4,502,503,504],[6,7],[3,7,30,503],[2,5,6,30,502],[5,6,8,508],[9,(508,an 10 [.bF .op])],[38,508,508],[38,(508,an 10 [.bF .op])],[45,508,508],[10,11,45],[11,61],[5,6,8,9,10,61,508],[5,6,8,9,508],[45,68],[45,68],[81],[81],[5,6,8,9,508]]
def xW(p q:W)(s:Int)(h:List Op):bT U:=L2 [pL 4,(6,.c (sU .eW (ZI (Zn 0 1 p.ops) (Zn 0 2 q.ops) []).1 .bA)),pL 8,pI 9 s] [(.bE 4,eI),(.bE 8,[ci 3,ci 0,.nils,.nils,ci 0,.nils,.nils,.nils,.nils,ci p.V,sU .op h (.bF (.l 8 10))])]
def EK(p q:W)(s:Int)(h:List Op):bT U:=L2 [pL 4,(6,.c (sU .eW (ZI (Zn 0 1 p.ops) (Zn 0 2 q.ops) []).1 .bA)),pL 8,pI 9 s] [(.bE 4,eI),(.bE 8,[ci 3,ci 0,.nils,.nils,ci 0,.nils,.nils,.nils,.nils,ci p.V,sU .op h (.bF (.l 8 10))])]
abbrev yR(N)(p):=AW (Za (oB N)) Tryz.f168 IN p
abbrev Cz(N)(p):=SW (Za (oB N)) Tryz.f168 IN p
theorem ZCi(N)(p q)(x9)(s:List Op)(N0:NT)(Q:QT)(h:∀aa,aa=ZI (Zn 0 1 p.ops) (Zn 0 2 q.ops) []->∀ah,ah=List.getD aa.1 (G x9) (bK.mk 0 bJ.nil bJ.nil)->∀ae,ae=ah.p->∀af,af=ah.q->∀aj,aj=cP ae->∀ai,ai=cP af->let z1:=gk fC ae af;let z0:=xT N0 (xB 0 (Cz N [1,1,1,1,1] Q));iB (decide (x9<(J aa.1))) ((0<=x9/\x9<(J aa.1))/\iB (ah.of==1) ((0<=x9/\x9<(J aa.1))/\uv (ae,())/\( J s+J [aj])*240<=140737488355328/\yR N [1,1,1,1,0,1,0,0,1,1] (EK p q x9 (s++[aj])) z0) (iB (ah.of==2) ((0<=x9/\x9<(J aa.1))/\uv (af,())/\( J s+J [ai])*240<=140737488355328/\yR N [1,1,1,1,0,1,0,0,1,1] (EK p q x9 (s++[ai])) z0) ((0<=x9/\x9<(J aa.1))/\(0<=x9/\x9<(J aa.1))/\DC (ae,af,())/\uN (ae,af,())<N/\iB (! z1.2) (Q .ret (L2 [pL 4,pB 5 I] [(.bE 4,eI)])) ( ( J s+J z1.1)*240<=140737488355328/\yR N [1,1,1,1,0,1,0,0,1,1] (EK p q x9 (s++z1.1)) z0)))) (Q .ret (L2 [pL 4,pB 5 Y] [(.bE 4,[ci 3,ci 0,.nils,.nils,ci 0,.nils,.nils,.nils,.nils,ci p.V,sU .op s (.bF (.l 4 10))])]))):yR N [1,1,1,1,0,1,0,0] (xW p q x9 s) (xT N0 (xB 0 (Cz N [1,1,1,1,1] Q))):=Eq.mpr V4 (h _ rfl _ rfl _ (qp _) _ (qp _) _ (Yp _) _ (Yp _))
theorem ZCj(N)(p q)(x9)(s)(N0:NT)(Q:QT)(h:bQ (x9+1)/\N0 (xW p q (x9+1) s)):yR N [1,1,1,1,0,1,0,0,1,1] (EK p q x9 s) (xT N0 (xB 0 (Cz N [1,1,1,1,1] Q))):=Eq.mpr V4 h
def ZMZ(N:Nat)(p q:W):Prop:=AW (Za (oB N)) Tryz.f168 IN [] (Y5 (gM.cK (p,q,())) []) (EQ Tryz.f168 (Bo (p,q,())) [])
abbrev ZOU:Prop:=∀N(p:W)q(_:Unit),sm (p,q,())->kE (p,q,())<N+1->ZMZ N p q
def ZO5:Zb U:=cI [[2,3,502,503],[14],[2,3,4,5,14,502,503],[2,3,4,5,20,502,503],[2,3,4,5,20,502,503],[2,3,4,5,31,502,503],[2,3,4,5,31,502,503],[2,3,4,5,39,502,503],[2,3,6,7,39,502,503,506],[4,5,6,7,506],[2,3,4,5,55,502,503],[2,3,8,9,55,502,503,508],[4,5,8,9,508],[4,5,10,11,510],[4,5,10,11,510]]
def ZMQ(N:Nat)(p q:bJ):Prop:=AW (Za (oB N)) Tryz.f214 ZO5 [] (Y5 (vQ.cK (p,q,())) []) (EQ Tryz.f214 (AR (p,q,())) [])
abbrev ZOM:Prop:=∀N(p:bJ)q(_:Unit),DC (p,q,())->uN (p,q,())<N+1->ZMQ N p q
theorem ZFS(vh:CT 135 ui)(Dc:CT 133 sR)(zf:CT 152 EN)(VV:CT 211 UX)(TK:CT 213 RA)(W7:CT 212 Vx)(BZ:CT 157 Dy)(BL:CT 156 DE)(BA:CT 201 Eu)(qz:CT 151 l4)(O7:ZP6)(U0:ZOV)(OE:ZOU)(Vb:ZOM):CT 112 FP/\CT 167 Zxt/\CT 168 Zxs/\CT 214 Zxa:=by
 have af:FK 112:=⟨Tryz.f112,Tryz.func112,rfl,rfl⟩;have aa:FK 167:=⟨Tryz.f167,Tryz.func167,rfl,rfl⟩;have ab:FK 168:=⟨Tryz.f168,Tryz.func168,rfl,rfl⟩;have ae:FK 214:=⟨Tryz.f214,Tryz.func214,rfl,rfl⟩;have s:∀N,CT 112 (fs gM (λa=>[jI a,sL a<N]) zW)/\CT 167 (fs gM (λa=>[sI a,kE a<N]) zX)/\CT 168 (fs gM (λa=>[sm a,kE a<N]) Bo)/\CT 214 (fs vQ (λa=>[DC a,uN a<N]) AR):=by intro N;induction N with|zero=>exact⟨YU af,YU aa,YU ab,YU ae⟩|succ N ih=>have kn:=mD (l:=oB N) ⟨ih.1,ih.2.1,ih.2.2.1,ih.2.2.2,vh,Dc,zf,VV,TK,W7,BZ,BL,BA,qz,trivial⟩;exact⟨Zt (Γ:=Za (oB N)) ZN rfl kn ZOo Tryz.func112 rfl rfl λa=>by show 2<=_;decide λ⟨p,q,_⟩h=>O7 N p q () h.1 h.2.1,Zt (Γ:=Za (oB N)) ZN rfl kn Gq Tryz.func167 rfl rfl λa=>by show 2<=_;decide λ⟨p,q,_⟩h=>U0 N p q () h.1 h.2.1,Zt (Γ:=Za (oB N)) ZN rfl kn IN Tryz.func168 rfl rfl λa=>by show 2<=_;decide λ⟨p,q,_⟩h=>OE N p q () h.1 h.2.1,Zt (Γ:=Za (oB N)) ZN rfl kn ZO5 Tryz.func214 rfl rfl λa=>by show 2<=_;decide λ⟨p,q,_⟩h=>Vb N p q () h.1 h.2.1⟩
 exact⟨YV af λN=>(s N).1,YV aa λN=>(s N).2.1,YV ab λN=>(s N).2.2.1,YV ae λN=>(s N).2.2.2⟩
end
theorem wu{e}(h:ZR e):Wk e:=by obtain⟨d,s⟩:=h.2.2;exact .of s h.2.1
theorem HH{p q}(h:ZR p)(s:ZR q):gJ True (Jc p q) p q:=ZRi _ p q (Qa _) (wu h) (wu s)
theorem ZKG{p q}(s:ZR p)(hq:ZR q)(h:(Jc p q).2=Y):fg ((Jc p q).1,()):=by have aF:=HH s hq;have:=aF.ct trivial h;have:=DU (Jc p q).1;have:=s.1;have:=hq.1;exact⟨by grind,-1,(aF.wk h).r⟩
theorem c71:aU Tryz.prog M 71 ZDG:=by
 refine kF (l:=ZQZ) ⟨ZXG,Ct.1,trivial⟩ ZXa Tryz.func71 2 λ⟨p,q,_⟩hp=>?_;refine wV (λQ=>∀aa,aa=p->∀s,s=q->∀ab,ab=(Jc aa s).1->jI (aa,s,())/\iB (!(Jc aa s).2) (Q .ret (L2 [pL 4,pB 5 I] [(.bE 4,eI)])) ( fg (ab,())/\Q .ret (L2 [pL 4,pB 5 Y] [(.bE 4,enc .aY (Zd ab))]))) ?_ λ_ h=>Eq.mpr V4 (h _ (Z0 _) _ (Z0 _) _ (Z0 _));intro y1 h1 y2 h2 y3 h3;subst h1 h2;(simp only[iB,bR,bW]);refine⟨hp,λL=>?_,λL=>?_⟩;.refine Y8 (r':=.tup [(Y,enc .aY W.nil),(I,[.bool I])]) ?_ V0;simp only[VL,iV];rw[Q0 (by grind)];try rfl
 .refine⟨by rw[h3];exact ZKG hp.1 hp.2 L,Y8 (r':=.tup [(Y,enc .aY (Zd y3)),(I,[.bool Y])]) ?_ V0⟩;simp only[VL,iV];rw[Q5 L,h3];try rfl
theorem SA{f g}(h:∀i,i<8->f i=g i):ki f=ki g:=by unfold ki;grind
theorem Zlo{p q}(rp:gN p)(rq:gN q):sF p q=Y↔∀i:Nat,i<8->Zu p.a_ i=Y->Zu q.a_ i=Y->Z8 p.new i=Z8 q.bH i:=by
 obtain⟨_,h⟩:=sV rp.2.1 rq.2.1;unfold sF;rw[Qh];constructor
 .intro e i s h1 h2;have:=congrArg (λw=>Z8 w i) e;simp only[J7 s]at this;grind
 .intro e;refine SA λi s=>?_;unfold JR;grind
theorem ZHq{m i}(s:0<=m)(h:0<=i)(h8:i<8):m%2^G (i+1)=m%2^G i+if Zu m i=Y then 2^G i else 0:=by have e:Zu m i=decide (m/2^G i%2=1):=rfl;rw[e];simp only[Qh];have:i=0\/i=1\/i=2\/i=3\/i=4\/i=5\/i=6\/i=7:=O;grind
theorem ZKL{i}(h:0<=i):(2:Int)*2^G i=2^G (i+1):=by rw[show G (i+1)=G i+1 by omega,KR,Int.mul_comm]
theorem ZS3{i}(h:0<=i)(s:i<=8):(1:Int)<=2^G i/\(2:Int)^G i<=256:=by have:i=0\/i=1\/i=2\/i=3\/i=4\/i=5\/i=6\/i=7\/i=8:=O;rcases this with rfl|rfl|rfl|rfl|rfl|rfl|rfl|rfl|rfl<;>simp
def JG(p q:aV)(j:Nat):Int:=if Zu p.a_ j=Y then Z8 p.bH j else if Zu q.a_ j=Y then Z8 q.bH j else 0
def JH(p q:aV)(j:Nat):Int:=if Zu q.a_ j=Y then Z8 q.new j else if Zu p.a_ j=Y then Z8 p.new j else 0
set_option maxHeartbeats 1000000 in theorem W7:aU Tryz.prog M 212 Vx:=by
 refine kF (l:=Bp) ⟨ZVy,ZVx,ZVw,trivial⟩ SS Tryz.func212 2 λ⟨p,q,_⟩hp=>?_;obtain⟨⟨rp,op,np⟩,rq,oq,nq⟩:=hp;dsimp only at rp op np rq oq nq;obtain⟨om,ob⟩:=Pu rp.2.1 rq.2.1;refine wV (λQ=>wH (p.bH,())/\wH (p.new,())/\wH (q.bH,())/\wH (q.new,())/\Zi (nk [1,1,1,1,1,1,0,1,0,0]) (wC p q 1 0 0 0 0 0 0 0 0 0 0 0 0 0 0 0 0 0 0) (xB 0 (lD [1,1,1,1,1,1,1] Q))) ?_ λ_ h=>Eq.mpr V4 h;refine⟨rp.2.2.1,rp.2.2.2,rq.2.2.1,rq.2.2.2,?_⟩;let E:=λ(F:Nat->Int)(i:Int)(j:Nat)=>if(j:Int)<i then F j else 0;refine Z5 (ι:=Int) (λi=>wC p q (2^G i) (lh p.a_ q.a_%2^G i) i (E (JG p q) i 0) (E (JG p q) i 1) (E (JG p q) i 2) (E (JG p q) i 3) (E (JG p q) i 4) (E (JG p q) i 5) (E (JG p q) i 6) (E (JG p q) i 7) (E (JH p q) i 0) (E (JH p q) i 1) (E (JH p q) i 2) (E (JH p q) i 3) (E (JH p q) i 4) (E (JH p q) i 5) (E (JH p q) i 6) (E (JH p q) i 7)) (λi=>(0<=i/\i<=8)/\∀j:Nat,(j:Int)<i->Zu p.a_ (j:Int)=Y->Zu q.a_ (j:Int)=Y->Z8 p.new j=Z8 q.bH j) (λi=>G (8-i)) 0 ?_ ⟨⟨O,O⟩,λj hj=>by omega⟩ ?_;.simp[wC,E]
 rintro i⟨⟨h1,h2⟩,az⟩;have bs:=ZHq (m:=lh p.a_ q.a_) om.1 h1;have bp:=ZKL h1;have bl:=ZS3 h1 h2;have bc:Zu (lh p.a_ q.a_) i=(Zu p.a_ i||Zu q.a_ i):=by have:=ob (G i);rwa[show(( G i:Nat):Int)=i by omega]at this
 refine ZBP _ _ _ _ _ _ _ _ _ _ _ _ _ _ _ _ _ _ _ _ _ _ _ ?_;have f1:∀(F:Nat->Int)(v:Int),v=F (G i)->∀j:Nat,J8 i j v (E F i j)=E F (i+1) j:=λF v hv j=>O5 (F:=F) (aG:=λ_=>0) h1 hv;have f2:∀(F:Nat->Int),F (G i)=0->∀j:Nat,E F i j=E F (i+1) j:=λF hv j=>ZKt (F:=F) (aG:=λ_=>0) hv h1;have f3:∀(v w x:Int)(j:Nat),J8 i j v (J8 i j w x)=J8 i j v x:=λv w x j=>by unfold J8;split<;>rfl
 have gd:∀w:Int,i<8->List.getD [Z8 w 0,Z8 w 1,Z8 w 2,Z8 w 3,Z8 w 4,Z8 w 5,Z8 w 6,Z8 w 7] (G i) 0=Z8 w (G i):=λw h=>Hk (Z8 w) O;have ie:(( G i:Nat):Int)=i:=O;have tl:∀(m:Int)(N0:bT U->Prop)(Q:c9->bT U->Prop),i<8->N0 (wC p q (2*2^G i) m (i+1) (E (JG p q) (i+1) 0) (E (JG p q) (i+1) 1) (E (JG p q) (i+1) 2) (E (JG p q) (i+1) 3) (E (JG p q) (i+1) 4) (E (JG p q) (i+1) 5) (E (JG p q) (i+1) 6) (E (JG p q) (i+1) 7) (E (JH p q) (i+1) 0) (E (JH p q) (i+1) 1) (E (JH p q) (i+1) 2) (E (JH p q) (i+1) 3) (E (JH p q) (i+1) 4) (E (JH p q) (i+1) 5) (E (JH p q) (i+1) 6) (E (JH p q) (i+1) 7))->nk [1,1,1,1,1,1,0,1,0,0,1,0,0,1,1,1] (Lo p q (2^G i) i (E (JG p q) i 0) (E (JG p q) i 1) (E (JG p q) i 2) (E (JG p q) i 3) (E (JG p q) i 4) (E (JG p q) i 5) (E (JG p q) i 6) (E (JG p q) i 7) (E (JH p q) i 0) (E (JH p q) i 1) (E (JH p q) i 2) (E (JH p q) i 3) (E (JH p q) i 4) (E (JH p q) i 5) (E (JH p q) i 6) (E (JH p q) i 7) m) (c9.inBlock 1 (lD [1,1,1,1,1,1,0,1,0,0,1,1] (c9.then N0 (c9.inBlock 0 (lD [1,1,1,1,1,1,1] Q))))):=by
  intro m N0 Q h8 hN;refine ZBQ _ _ _ _ _ _ _ _ _ _ _ _ _ _ _ _ _ _ _ _ _ _ _ ?_;intro y1 s y2 av;rw[gd _ h8]at s av;subst s av;have ir:bQ (2*2^G i):=V3;have aj:bQ (i+1):=V3;have rg:(0:Int)<=i/\i<((8:Nat):Int):=⟨h1,O⟩;have wo:JG p q (G i)=if Zu p.a_ i=Y then Z8 p.bH (G i)else if Zu q.a_ i=Y then Z8 q.bH (G i)else 0:=rfl;have wn:JH p q (G i)=if Zu q.a_ i=Y then Z8 q.new (G i)else if Zu p.a_ i=Y then Z8 p.new (G i)else 0:=rfl;refine⟨ir,λhY=>⟨rg,rg,rg,rg,?_⟩,λhY=>?_⟩
  .rw[Q5 hY]at wn;refine Zrb _ _ _ _ _ _ _ _ _ _ _ _ _ _ _ _ _ _ _ _ _ _ _ _ ?_;intro y1 s;rw[gd _ h8]at s;subst s;refine⟨λhX=>⟨rg,rg,?_⟩,λhX=>?_⟩
   .rw[Q5 hX]at wo;refine Ht _ _ _ _ _ _ _ _ _ _ _ _ _ _ _ _ _ _ _ _ _ _ _ ?_;intro y1 s;refine⟨λh=>h,λh=>h,λhZ=>?_,λhZ=>?_⟩;.grind
    .refine LM _ _ _ _ _ _ _ _ _ _ _ _ _ _ _ _ _ _ _ _ _ _ _ ⟨aj,?_⟩;rw[f3 _ _ _ 0,f3 _ _ _ 1,f3 _ _ _ 2,f3 _ _ _ 3,f3 _ _ _ 4,f3 _ _ _ 5,f3 _ _ _ 6,f3 _ _ _ 7];rw[f1 _ _ wo.symm 0,f1 _ _ wo.symm 1,f1 _ _ wo.symm 2,f1 _ _ wo.symm 3,f1 _ _ wo.symm 4,f1 _ _ wo.symm 5,f1 _ _ wo.symm 6,f1 _ _ wo.symm 7];rw[f1 _ _ wn.symm 0,f1 _ _ wn.symm 1,f1 _ _ wn.symm 2,f1 _ _ wn.symm 3,f1 _ _ wn.symm 4,f1 _ _ wn.symm 5,f1 _ _ wn.symm 6,f1 _ _ wn.symm 7];exact hN
   .rw[Q0 (by grind),Q5 hY]at wo;refine Ht _ _ _ _ _ _ _ _ _ _ _ _ _ _ _ _ _ _ _ _ _ _ _ ?_;intro y1 s;refine⟨λh=>h,λh=>h,λhZ=>?_,λhZ=>?_⟩;.rw[hX]at hZ;cases hZ
    .refine LM _ _ _ _ _ _ _ _ _ _ _ _ _ _ _ _ _ _ _ _ _ _ _ ⟨aj,?_⟩;rw[f1 _ _ wo.symm 0,f1 _ _ wo.symm 1,f1 _ _ wo.symm 2,f1 _ _ wo.symm 3,f1 _ _ wo.symm 4,f1 _ _ wo.symm 5,f1 _ _ wo.symm 6,f1 _ _ wo.symm 7];rw[f1 _ _ wn.symm 0,f1 _ _ wn.symm 1,f1 _ _ wn.symm 2,f1 _ _ wn.symm 3,f1 _ _ wn.symm 4,f1 _ _ wn.symm 5,f1 _ _ wn.symm 6,f1 _ _ wn.symm 7];exact hN
  .rw[Q0 (by grind)]at wn;refine Zrb _ _ _ _ _ _ _ _ _ _ _ _ _ _ _ _ _ _ _ _ _ _ _ _ ?_;intro y1 s;rw[gd _ h8]at s;subst s;refine⟨λhX=>⟨rg,rg,?_⟩,λhX=>?_⟩
   .rw[Q5 hX]at wo wn;refine Ht _ _ _ _ _ _ _ _ _ _ _ _ _ _ _ _ _ _ _ _ _ _ _ ?_;intro y1 s;rw[gd _ h8]at s;subst s;refine⟨λh=>h,λh=>h,λhZ=>⟨rg,rg,?_⟩,λhZ=>?_⟩;.refine LM _ _ _ _ _ _ _ _ _ _ _ _ _ _ _ _ _ _ _ _ _ _ _ ⟨aj,?_⟩;rw[f1 _ _ wo.symm 0,f1 _ _ wo.symm 1,f1 _ _ wo.symm 2,f1 _ _ wo.symm 3,f1 _ _ wo.symm 4,f1 _ _ wo.symm 5,f1 _ _ wo.symm 6,f1 _ _ wo.symm 7];rw[f1 _ _ wn.symm 0,f1 _ _ wn.symm 1,f1 _ _ wn.symm 2,f1 _ _ wn.symm 3,f1 _ _ wn.symm 4,f1 _ _ wn.symm 5,f1 _ _ wn.symm 6,f1 _ _ wn.symm 7];exact hN
    grind
   .rw[Q0 (by grind)]at wo wn;rw[Q0 (by grind)]at wo;refine Ht _ _ _ _ _ _ _ _ _ _ _ _ _ _ _ _ _ _ _ _ _ _ _ ?_;intro y1 s;refine⟨λh=>h,λh=>h,λhZ=>?_,λhZ=>?_⟩;.rw[hX]at hZ;cases hZ
    .refine LM _ _ _ _ _ _ _ _ _ _ _ _ _ _ _ _ _ _ _ _ _ _ _ ⟨aj,?_⟩;simp_all
 have ext:i<8->(Zu p.a_ i=Y->Zu q.a_ i=Y->Z8 p.new (G i)=Z8 q.bH (G i))->∀j:Nat,(j:Int)<i+1->Zu p.a_ (j:Int)=Y->Zu q.a_ (j:Int)=Y->Z8 p.new j=Z8 q.bH j:=by
  intro h8 h j hj hx hy;by_cases hji:(j:Int)<i;.simp_all
  .have:(j:Int)=i:=O;have a9:j=G i:=O;grind
 (simp only[iB,bR,bW]);refine⟨λh8=>⟨⟨rp.2.1,h1,O⟩,⟨rq.2.1,h1,O⟩,λ_=>⟨h1,O⟩,λ_=>⟨h1,O⟩,λar=>?_,λhk=>?_⟩,λh8=>?_⟩
 .rw[gd _ h8,gd _ h8]at ar;have L:sF p q=I:=by rw[<-Xx,Zlo rp rq];intro h;have:=h (G i) O (by grind) (by grind);exact ar.2 this
  refine Y8 (r':=.tup [(Y,enc .bD (⟨0,0,0,0⟩:aV)),(I,[.bool I])]) ?_ V0;simp only[zw,Jk];rw[L];try rfl
 .rw[gd _ h8,gd _ h8]at hk;have ax:Zu p.a_ i=Y->Zu q.a_ i=Y->Z8 p.new (G i)=Z8 q.bH (G i):=by
   intro hx hy;rcases hk with(h|h)|h;.rw[hx]at h;cases h
   .rw[hy]at h;cases h
   .exact h
  have cC:∀m:Int,m=lh p.a_ q.a_%2^G (i+1)->∃j:Int,wC p q (2*2^G i) m (i+1) (E (JG p q) (i+1) 0) (E (JG p q) (i+1) 1) (E (JG p q) (i+1) 2) (E (JG p q) (i+1) 3) (E (JG p q) (i+1) 4) (E (JG p q) (i+1) 5) (E (JG p q) (i+1) 6) (E (JG p q) (i+1) 7) (E (JH p q) (i+1) 0) (E (JH p q) (i+1) 1) (E (JH p q) (i+1) 2) (E (JH p q) (i+1) 3) (E (JH p q) (i+1) 4) (E (JH p q) (i+1) 5) (E (JH p q) (i+1) 6) (E (JH p q) (i+1) 7)=wC p q (2^G j) (lh p.a_ q.a_%2^G j) j (E (JG p q) j 0) (E (JG p q) j 1) (E (JG p q) j 2) (E (JG p q) j 3) (E (JG p q) j 4) (E (JG p q) j 5) (E (JG p q) j 6) (E (JG p q) j 7) (E (JH p q) j 0) (E (JH p q) j 1) (E (JH p q) j 2) (E (JH p q) j 3) (E (JH p q) j 4) (E (JH p q) j 5) (E (JH p q) j 6) (E (JH p q) j 7)/\((0<=j/\j<=8)/\∀k:Nat,(k:Int)<j->Zu p.a_ (k:Int)=Y->Zu q.a_ (k:Int)=Y->Z8 p.new k=Z8 q.bH k)/\G (8-j)<G (8-i):=by intro m hm;refine⟨i+1,?_,⟨⟨O,O⟩,ext h8 ax⟩,O⟩;rw[bp,hm]
  have bm:0<=lh p.a_ q.a_%2^G i/\lh p.a_ q.a_%2^G i<2^G i:=⟨Int.emod_nonneg _ O,Int.emod_lt_of_pos _ O⟩;refine⟨λbn=>⟨V3,tl _ _ _ h8 (cC _ ?_)⟩,λbe=>tl _ _ _ h8 (cC _ ?_)⟩;.simp_all
  simp_all
 .have h8:i=8:=O;subst h8;have bg:∀(w:Int)(j:Nat),0<=Z8 w j/\Z8 w j<256:=λw j=>B3 w j;have z:(0:Int)<=0/\(0:Int)<256:=V1;have ro:∀j,0<=JG p q j/\JG p q j<256:=λj=>by unfold JG;grind
  have rn:∀j,0<=JH p q j/\JH p q j<256:=λj=>by unfold JH;grind
  have all:∀(F:Nat->Int),(∀j,0<=F j/\F j<256)->∀x∈[E F 8 0,E F 8 1,E F 8 2,E F 8 3,E F 8 4,E F 8 5,E F 8 6,E F 8 7],0<=x/\x<256:=by
   intro F hF x hx;simp only[E]at hx;simp at hx;grind
  have L:sF p q=Y:=(Zlo rp rq).2 λj hj=>az j O;refine⟨⟨rfl,rfl,all _ ro⟩,⟨rfl,rfl,all _ rn⟩,?_⟩;have e1:(ki λj=>[E (JG p q) 8 0,E (JG p q) 8 1,E (JG p q) 8 2,E (JG p q) 8 3,E (JG p q) 8 4,E (JG p q) 8 5,E (JG p q) 8 6,E (JG p q) 8 7].getD j 0)=cS q.bH p.bH p.a_:=by
   refine SA λj hj=>?_;rw[Hk (E (JG p q) 8) hj];simp only[E];rw[Q5 O];unfold JG JR;split;.try rfl
   .split;.try rfl
    .rename_i hn;exact(zT oq hj (by simpa using hn)).symm
  have e2:(ki λj=>[E (JH p q) 8 0,E (JH p q) 8 1,E (JH p q) 8 2,E (JH p q) 8 3,E (JH p q) 8 4,E (JH p q) 8 5,E (JH p q) 8 6,E (JH p q) 8 7].getD j 0)=cS p.new q.new q.a_:=by
   refine SA λj hj=>?_;rw[Hk (E (JH p q) 8) hj];simp only[E];rw[Q5 O];unfold JH JR;split;.try rfl
   .split;.try rfl
    .rename_i hn;exact(zT np hj (by simpa using hn)).symm
  have e3:IntKind.u8.wrap (lh p.a_ q.a_%2^G (8:Int))=lh p.a_ q.a_:=by rw[show(2:Int)^G (8:Int)=256 from rfl,Int.emod_eq_of_lt om.1 om.2];exact qR om.1 om.2
  rw[e1,e2,e3];refine Y8 (r':=.tup [(Y,enc .bD (⟨p.S,lh p.a_ q.a_,cS q.bH p.bH p.a_,cS p.new q.new q.a_⟩:aV)),(I,[.bool Y])]) ?_ V0;simp only[zw,Jk];rw[L];try rfl
theorem ZAV(a)(r)(n):JZ (a::r) n=if a.S=n then A a else JZ r n:=by unfold JZ;grind
theorem ZAW(a)(r)(n):Yc (a::r) n=if a.S=n then a.e else Yc r n:=by unfold Yc;grind
theorem VV:aU Tryz.prog M 211 UX:=by
 refine kF (l:=cQ) trivial Ok Tryz.func211 2 λ⟨l,a,_⟩hp=>?_;have hp:J l<=1000000:=hp;refine wV (λQ=>Zi (ZWf [1,0,1,0,0]) (HF l a 0) (xB 0 (ZVL [1,1] Q))) ?_ λ_ h=>Eq.mpr V4 h;refine Z5 (ι:=Int) (λi=>HF l a i) (λi=>0<=i/\i<=J l/\JZ l a=JZ (l.drop (G i)) a) (λi=>G (( J l:Int)-i)) 0 rfl ⟨O,O,by simp⟩ ?_;rintro i⟨f1,f2,s⟩;refine ZBR _ _ _ _ _ ?_;(simp only[iB,bR,bW]);refine⟨λhi=>?_,λhi=>?_⟩;.rw[ZO f1 hi ⟨0,0,0,0⟩,ZAV]at s;generalize hw:aR l (G i) ⟨0,0,0,0⟩=w at*;refine⟨⟨f1,hi⟩,λhe=>⟨⟨f1,hi⟩,?_⟩,λhe=>⟨V3,i+1,rfl,⟨O,O,by grind⟩,O⟩⟩;rw[Q5 he]at s;refine Y8 (r':=.tup [(Y,enc .bD w),(I,[.bool Y])]) ?_ V0;simp only[WY,s];try rfl
 .rw[Qb O]at s;refine Y8 (r':=.tup [(Y,enc .bD (⟨0,0,0,0⟩:aV)),(I,[.bool I])]) ?_ V0;simp only[WY,s];try rfl
theorem TK:aU Tryz.prog M 213 RA:=by
 refine kF (l:=cQ) trivial Uv Tryz.func213 2 λ⟨l,a,_⟩hp=>?_;have hp:J l<=1000000:=hp;refine wV (λQ=>Zi (ZWe [1,0,1,0,0]) (Gf l a 0) (xB 0 (ZVK [1,1] Q))) ?_ λ_ h=>Eq.mpr V4 h;refine Z5 (ι:=Int) (λi=>Gf l a i) (λi=>0<=i/\i<=J l/\Yc l a=Yc (l.drop (G i)) a) (λi=>G (( J l:Int)-i)) 0 rfl ⟨O,O,by simp⟩ ?_;rintro i⟨f1,f2,s⟩;refine ZBO _ _ _ _ _ ?_;(simp only[iB,bR,bW]);refine⟨λhi=>?_,λhi=>?_⟩;.rw[ZO f1 hi ⟨0,W.nil⟩,ZAW]at s;generalize hw:aR l (G i) ⟨0,W.nil⟩=w at*;refine⟨⟨f1,hi⟩,λhe=>⟨⟨f1,hi⟩,?_⟩,λhe=>⟨V3,i+1,rfl,⟨O,O,by grind⟩,O⟩⟩;rw[Q5 he]at s;refine Y8 (r':=.agg (enc .aY w.e)) ?_ V0;simp only[VN,s];try rfl
 .rw[Qb O]at s;refine Y8 (r':=.agg (enc .aY W.nil)) ?_ V0;simp only[VN,s];try rfl
theorem ZXs:aU Tryz.prog M 200 Zxe:=by
 refine kF (l:=cQ) trivial Tv Tryz.func200 2 λ⟨a,b,_⟩hp=>?_;obtain⟨la,lb⟩:=hp;dsimp only at la lb;refine wV (λQ=>Zi (nO [1,1,1,0,0,0]) (wQ a b 0 0 []) (xB 0 (rF [1,1,1,1] Q))) ?_ λ_ h=>Eq.mpr V4 h;refine Z5 (ι:=Int×Int×List Int) (λs=>wQ a b s.1 s.2.1 s.2.2) (λs=>(0<=s.1/\s.1<=J a)/\(0<=s.2.1/\s.2.1<=J b)/\Y7 a b=s.2.2++Y7 (a.drop (G s.1)) (b.drop (G s.2.1))/\( J s.2.2:Int)<=s.1+s.2.1) (λs=>G (( J a:Int)-s.1+( J b-s.2.1))) (0,0,[]) rfl ⟨by simp,by simp,by simp,by simp⟩ ?_;rintro⟨i,j,o⟩⟨⟨i0,i1⟩,⟨j0,j1⟩,f3,f4⟩;dsimp only at i0 i1 j0 j1 f3 f4;refine ZBV _ _ _ _ _ _ _ ?_;intro y1 h1 y2 h2;(simp only[iB,bR,bW]);have step:∀(n i' j':Int)(N0:bT U->Prop)(Q:c9->bT U->Prop),i'=(if i<J a/\aR a (G i) 0=n then i+1 else i)->j'=(if j<J b/\aR b (G j) 0=n then j+1 else j)->N0 (wQ a b i' j' (o++[n]))->nO [1,1,1,0,0,0,1,0,1,1] (Lw a b i j o n) (c9.inBlock 1 (c9.then N0 (c9.inBlock 0 (rF [1,1,1,1] Q)))):=by
  intro n i' j' N0 Q a8 ar hN;have cC:∀(x y:Int),x=i'->y=j'->nO [1,1,1,0,0,0,1,0,1,1,1,1] (MP a b j o n x y) (c9.inBlock 1 (c9.then N0 (c9.inBlock 0 (rF [1,1,1,1] Q)))):=by
   rintro x y rfl rfl;exact ZBW _ _ _ _ _ _ _ _ _ ⟨by grind,hN⟩
  have qP:∀(x:Int),x=i'->nO [1,1,1,0,0,0,1,0,1,1,1] (ND a b i j o n x) (c9.inBlock 1 (c9.then N0 (c9.inBlock 0 (rF [1,1,1,1] Q)))):=by
   intro x hx;refine ZBX _ _ _ _ _ _ _ _ _ ?_;(simp only[iB,bR,bW]);refine⟨λh=>⟨j0,h⟩,λh=>⟨V3,cC _ _ hx O⟩,λh=>cC _ _ hx O⟩
  refine ZBY _ _ _ _ _ _ _ _ ?_;(simp only[iB,bR,bW]);refine⟨λh=>⟨i0,h⟩,λh=>⟨V3,qP _ O⟩,λh=>qP _ O⟩
 have next:∀(n i' j':Int),i<=i'->j<=j'->i'<=J a->j'<=J b->i+j<i'+j'->Y7 (a.drop (G i)) (b.drop (G j))=n::Y7 (a.drop (G i')) (b.drop (G j'))->∃s:Int×Int×List Int,wQ a b i' j' (o++[n])=wQ a b s.1 s.2.1 s.2.2/\((0<=s.1/\s.1<=J a)/\(0<=s.2.1/\s.2.1<=J b)/\Y7 a b=s.2.2++Y7 (a.drop (G s.1)) (b.drop (G s.2.1))/\( J s.2.2:Int)<=s.1+s.2.1)/\G (( J a:Int)-s.1+( J b-s.2.1))<G (( J a:Int)-i+( J b-j)):=by intro n i' j' a1 a2 a3 a4 a5 a6;refine⟨(i',j',o++[n]),rfl,⟨⟨O,a3⟩,⟨by grind,a4⟩,?_,by grind⟩,V2⟩;rw[f3,a6];simp
 refine⟨λav=>⟨λh=>⟨i0,h.2⟩,λh=>⟨j0,O⟩,λh1 h2=>⟨h1,h2⟩,λhA=>?_,λhB=>?_⟩,λhE=>?_⟩
 .have hi:i<J a:=O;refine⟨⟨i0,hi⟩,step y1 (i+1) j _ _ (by grind) (by rw[Q0];grind) (next _ _ _ O O O j1 O ?_)⟩;rw[ZO i0 hi 0,<-h1];by_cases hj:j<J b;.rw[ZO j0 hj 0,<-h2,Y7,Q5 O]
  .rw[Qb (l:=b) O,qv,qv]
 .have hj:j<J b:=O;refine⟨⟨j0,hj⟩,?_⟩;by_cases he:i<J a/\y1=y2;.refine step y2 (i+1) (j+1) _ _ (by grind) (by grind) (next _ _ _ O O O O O ?_);rw[ZO i0 he.1 0,ZO j0 hj 0,<-h1,<-h2,Y7,Q0 O,Q0 O,he.2]
  .refine step y2 i (j+1) _ _ (by grind) (by grind) (next _ _ _ O O O O O ?_);rw[ZO j0 hj 0,<-h2];by_cases hi:i<J a;.rw[ZO i0 hi 0,<-h1,Y7,Q0 O,Q5 O]
   .rw[Qb (l:=a) O,Y7,Y7]
 .rw[Qb (l:=a) O,Qb (l:=b) O,Y7,Qj]at f3;refine Y8 (r':=.c (.slice (U:=U) .int o .bA)) ?_ V0;simp only[ZEx,f3]
theorem GH{α β:Type}{f:α->β}{l}{i:Int}(s:0<=i)(h:i<J l)(d):(l.take (G i)).map f++[f (aR l (G i) d)]=(l.take (G (i+1))).map f:=by rw[show G (i+1)=G i+1 by omega,BB O d,XP];try rfl
theorem zf:aU Tryz.prog M 152 EN:=by
 refine kF (l:=UW) ⟨ZXs,trivial⟩ Tx Tryz.func152 2 λ⟨p,q,_⟩hp=>?_;obtain⟨⟨p1,p2⟩,q1,q2⟩:=hp;dsimp only at p1 p2 q1 q2;refine wV (λQ=>Zi (w8 [1,1,0,1,0,0]) (H_ p q 0 []) (xB 0 (uE [1,1,1] Q))) ?_ λ_ h=>Eq.mpr V4 h;have e0:∀{α β:Type}(l:List α)(f:α->β),(l.take (G (0:Int))).map f=[]:=λl f=>by simp
 refine Z5 (ι:=Int) (λi=>H_ p q i ((p.aS.take (G i)).map aV.S)) (λi=>0<=i/\i<=J p.aS) (λi=>G (( J p.aS:Int)-i)) 0 rfl ⟨O,O⟩ ?_;rintro i⟨i0,i1⟩;refine ZCB _ _ _ _ _ _ ?_;(simp only[iB,bR,bW]);refine⟨λs=>⟨⟨i0,s⟩,by grind,V3,i+1,by rw[GH i0 s],⟨O,O⟩,O⟩,λs=>?_⟩;rw[Qy (l:=p.aS) (i:=G i) O];refine Z5 (ι:=Int) (λi=>IV p q (p.aS.map aV.S) i ((q.aS.take (G i)).map aV.S)) (λi=>0<=i/\i<=J q.aS) (λi=>G (( J q.aS:Int)-i)) 0 rfl ⟨O,O⟩ ?_;rintro j⟨j0,j1⟩;refine ZCA _ _ _ _ _ _ _ ?_;(simp only[iB,bR,bW]);refine⟨λhj=>⟨⟨j0,hj⟩,by grind,V3,j+1,by rw[GH j0 hj],⟨O,O⟩,O⟩,λhj=>?_⟩;rw[Qy (l:=q.aS) (i:=G j) O];refine Z5 (ι:=Int) (λi=>MA p q (p.aS.map aV.S) (q.aS.map aV.S) i ((p.X.take (G i)).map aW.S)) (λi=>0<=i/\i<=J p.X) (λi=>G (( J p.X:Int)-i)) 0 rfl ⟨O,O⟩ ?_;rintro k⟨k0,k1⟩;refine ZCz _ _ _ _ _ _ _ _ ?_;(simp only[iB,bR,bW]);refine⟨λhk=>⟨⟨k0,hk⟩,by grind,V3,k+1,by rw[GH k0 hk],⟨O,O⟩,O⟩,λhk=>?_⟩;rw[Qy (l:=p.X) (i:=G k) O];refine Z5 (ι:=Int) (λi=>I9 p q (p.aS.map aV.S) (q.aS.map aV.S) (p.X.map aW.S) i ((q.X.take (G i)).map aW.S)) (λi=>0<=i/\i<=J q.X) (λi=>G (( J q.X:Int)-i)) 0 rfl ⟨O,O⟩ ?_;rintro m⟨m0,m1⟩;refine ZCy _ _ _ _ _ _ _ _ _ ?_;(simp only[iB,bR,bW]);refine⟨λhm=>⟨⟨m0,hm⟩,by grind,V3,m+1,by rw[GH m0 hm],⟨O,O⟩,O⟩,λhm=>?_⟩;rw[Qy (l:=q.X) (i:=G m) O];exact⟨⟨by simpa using p1,by simpa using q1⟩,⟨by simpa using p2,by simpa using q2⟩,V0⟩
theorem CA:∀{l},(∀o∈l,ZH o)->zl l<=fO l+JO l|[],_=>by trivial|o::r,h=>by have h1:=ZE (h o Q6);have h2:=CA λx s=>h x (Q4 _ s);simp only[zl,fO,JO];omega
theorem GX{e d}(h:Z3 e d=Y):fO e.ops<1048576/\JO e.ops<1048576:=by have R:=Zc h;have ok:∀o∈e.ops,0<=Z4 o:=λo s=>uL (Zr h o s);have a:=se e.ops 0 ok V1 V1;have b:=sJ e.ops 0 ok V1 V1;have:=R.len;omega
theorem yx{e t}(h:ZR e)(hm:Zo t<=100000000000)(s:ei t):gg (e,t,()):=by have:=ZL h;have:=h.1;exact⟨⟨by grind,h.2⟩,by grind,s⟩
theorem Zrn{e}(h:ZR e):fg (e,()):=by have:=ZL h;exact⟨by grind,h.2.2⟩
theorem Dd:ZR W.nil:=by refine⟨V1,?_,1,Cg⟩;exact⟨YI V1 V1,oC,oC,by grind,YI V1 V1,trivial,trivial⟩
theorem O7:ZP6:=by
 intro N p q _ hp hN;obtain⟨op,oq⟩:=hp;dsimp only at op oq;have ax:8*(Z1 p+Z1 q)+1<N+1:=hN;obtain⟨dp,rp⟩:=op.2.2;obtain⟨dq,rq⟩:=oq.2.2;have aa:=ZA6 rp rq;unfold lK at aa;have gp:=Zp op.2.1;have gq:=Zp oq.2.1;have cp:=Ji p;have cq:=Ji q;have a2:=op.1;have a1:=oq.1;have cC:∀{aC:W}{b:Bool}{s:bT U},fC p q=(aC,b)->ZB M Tryz.f112.ntmps Tryz.f112.results.toList (.tup [(Y,enc .aY aC),(I,[.bool b])]) [] .ret s->ZB M Tryz.f112.ntmps Tryz.f112.results.toList (zW (p,q,())) [] .ret s:=by
  intro aC b s h hs;refine Y8 ?_ hs;simp only[zW];rw[h];try rfl
 refine wV (λQ=>∀ae,ae=p->∀ab,ab=q->∀ah,ah=p.new->∀ai,ai=q.bH->∀af,af=Zd (Zm ae)->iB (p.D==0) (Q .ret (L2 [pL 4,pB 5 Y] [(.bE 4,enc .aY q)])) (iB (q.D==0) (Q .ret (L2 [pL 4,pB 5 Y] [(.bE 4,enc .aY p)])) (iB (p.D==1) ( gg (ab,ah,())/\Q .ret (L2 [pL 4,pB 5 (bX Y ab ah).isSome] [(.bE 4,[ci 1]++enc .aX p.bH++enc .aX (YH (bX Y ab ah))++[.nils,.nils,ci 0,.nils])])) (iB (q.D==1) ( fg (ae,())/\gg (af,ai,())/\Q .ret (L2 [pL 4,pB 5 (bX Y af ai).isSome] [(.bE 4,[ci 1]++enc .aX (YH (bX Y af ai))++enc .aX q.new++[.nils,.nils,ci 0,.nils])])) (iB (p.D !=q.D) (Q .ret (L2 [pL 4,pB 5 I] [(.bE 4,eI)])) (iB (p.D==2) ( sI (ae,ab,())/\kE (ae,ab,())<N/\Q .ret (L2 [pL 4,pB 5 (rQ ae ab).2] [(.bE 4,enc .aY (rQ ae ab).1)])) ( sm (ae,ab,())/\kE (ae,ab,())<N/\Q .ret (L2 [pL 4,pB 5 (r_ ae ab).2] [(.bE 4,enc .aY (r_ ae ab).1)])))))))) ?_ λ_ h=>Eq.mpr V4 (h _ (Z0 _) _ (Z0 _) _ (Z7 _) _ (Z7 _) _ (Z0 _));intro y1 h1 y2 h2 y3 h3 y4 h4 y5 h5;replace h1:=h1.symm;replace h2:=h2.symm;replace h3:=h3.symm;replace h4:=h4.symm;subst h1 h2 h3 h4;(simp only[iB,bR,bW]);refine⟨λp0=>cC (by rw[aa,Q5 p0]) V0,λp0=>?_⟩;rw[Q0 p0]at aa;refine⟨λq0=>cC (by rw[aa,Q5 q0]) V0,λq0=>?_⟩;rw[Q0 q0]at aa;refine⟨λp1=>⟨yx oq O gp.2.1,cC (by rw[aa,Q5 p1]) V0⟩,λp1=>?_⟩;rw[Q0 p1]at aa;refine⟨λq1=>⟨Zrn op,by rw[h5];exact yx (xP op).2 O gq.1,cC (by rw[aa,Q5 q1,<-h5]) V0⟩,λq1=>?_⟩;rw[Q0 q1]at aa;refine⟨λhk=>cC (by rw[aa,Q5 hk]) V0,λhk=>?_⟩;rw[Q0 O]at aa;refine⟨λp2=>?_,λp2=>?_⟩;.rw[Q5 p2]at aa;refine⟨⟨p2,V2,op,oq⟩,by show 8*(Z1 p+Z1 q)<N;omega,cC (aC:=(rQ p q).1) (b:=(rQ p q).2) aa V0⟩
 .rw[Q0 p2]at aa;have:=(Zc rp).D;refine⟨⟨V2,V2,op,oq⟩,by show 8*(Z1 p+Z1 q)<N;omega,cC (aC:=(r_ p q).1) (b:=(r_ p q).2) aa V0⟩
theorem HB{e}(h:ZR e)(n):∀w,JZ e.aS n=A w->xQ w:=by intro w hw;obtain⟨d,hr⟩:=h.2.2;have s:=List.mem_of_find?_eq_some hw;have a:=Yd (Zc hr).aS w s;exact⟨(Zp h.2.1).2.2.1 w s,a.2.2.2.1,a.2.2.2.2⟩
theorem Hp{e}(h:ZR e)(n):ZR (Yc e.X n):=by
 rcases Dj e.X n with⟨a,_⟩|⟨k,hk,a⟩;.rw[a];exact Dd
 .rw[a];obtain⟨d,s⟩:=h.2.2;have c:=Dw hk;have:=Ji e;have:=h.1;exact⟨O,(Y6 (Zp h.2.1).2.2.2.1 hk).2,_,(Zl (Zc s).X k hk).2⟩
theorem U0:ZOV:=by
 intro N p q _ hp hN;obtain⟨k2,l2,op,oq⟩:=hp;dsimp only at k2 l2 op oq;have b0:8*(Z1 p+Z1 q)<N+1:=hN;obtain⟨dp,rp⟩:=op.2.2;obtain⟨dq,rq⟩:=oq.2.2;have cp:=Ji p;have cq:=Ji q;have ca:=op.1;have br:=oq.1;have kl:=λl=>Bk l;have ah:J p.aS<=1000000/\J q.aS<=1000000:=⟨O,O⟩;have kn:∀l:List bP,65600*J l<=gY l:=by intro l;induction l with|nil=>simp|cons a r ih=>simp only[Qd,gY,tt];omega
 have b6:=kn p.X;have bm:=kn q.X;have nl:∀a b:List Int,J (Y7 a b)<=J a+J b:=by
  intro a b;have:∀(k:Nat)(a b:List Int),J a+J b<=k->J (Y7 a b)<=J a+J b:=by
   intro k;induction k with
   |zero=>intro a b h;have e1:a=[]:=Q7 O;have e2:b=[]:=Q7 O;subst e1 e2;rw[Y7];simp|succ k ih=>intro a b h;match a,b with
    |[],b=>rw[Y7];simp|x::a,[]=>rw[qv];simp|x::a,y::b=>simp only[Qd]at h;rw[Y7];grind
  exact this _ a b (Qa _)
 generalize hw:Y7 (p.aS.map aV.S) (q.aS.map aV.S)=wn;generalize hk:Y7 (p.X.map aW.S) (q.X.map aW.S)=kn';have b1:J wn<=2000000:=by rw[<-hw];have:=nl (p.aS.map aV.S) (q.aS.map aV.S);simp only[QF]at this;omega
 have bn:J kn'<=2000000:=by rw[<-hk];have:=nl (p.X.map aW.S) (q.X.map aW.S);simp only[QF]at this;omega
 have cC:∀{aC:W}{b:Bool}{s:bT U},rQ p q=(aC,b)->ZB M Tryz.f167.ntmps Tryz.f167.results.toList (.tup [(Y,enc .aY aC),(I,[.bool b])]) [] .ret s->ZB M Tryz.f167.ntmps Tryz.f167.results.toList (zX (p,q,())) [] .ret s:=by intro aC b s h hs;refine Y8 ?_ hs;simp only[zX];rw[h];try rfl
 refine wV (λQ=>Um ( W.mk p.D (H.mk p.bH.D p.bH.aS p.bH.X) (H.mk p.new.D p.new.aS p.new.X) p.aS p.X p.V p.ops,W.mk q.D (H.mk q.bH.D q.bH.aS q.bH.X) (H.mk q.new.D q.new.aS q.new.X) q.aS q.X q.V q.ops,())/\Zi (tP N [1,1,1,0,1,0,0]) (xM p q 0 []) (xB 0 (xq N [1,1,1,1] Q))) ?_ λ_ h=>Eq.mpr V4 h;have am:J p.X<=1000000/\J q.X<=1000000:=⟨O,O⟩;refine⟨⟨⟨ah.1,am.1⟩,ah.2,am.2⟩,?_⟩;refine Z5 (ι:=Int×List aV) (λs=>xM p q s.1 s.2) (λs=>(0<=s.1/\s.1<=J wn)/\jh p.aS q.aS wn=(jh p.aS q.aS (wn.drop (G s.1))).map (s.2++·)/\( J s.2:Int)<=s.1) (λs=>G (( J wn:Int)-s.1)) (0,[]) rfl ⟨by simp,by simp,by simp⟩ ?_;rintro⟨i,bB⟩⟨⟨i0,i1⟩,f3,f4⟩;dsimp only at i0 i1 f3 f4;refine ZCl N p q _ _ _ _ ?_;intro y1 h1 y2 h2 y3 h3 y4 h4 y5 h5 y6 h6 y7 h7;subst h1 h2;rw[hw]at h3;subst h3;(simp only[iB,bR,bW]);refine⟨λhi=>?_,λhi=>?_⟩
 .have hd:y3.drop (G i)=y4::y3.drop (G (i+1)):=by rw[h4];exact ZO i0 hi 0
  rw[hd,jh]at f3;have go:∀(w:aV)(N0:bT U->Prop)(Q:c9->bT U->Prop),N0 (xM y1 y2 (i+1) (bB++[w]))->tP N [1,1,1,0,1,0,0,1,1] (E5 y1 y2 i (bB++[w])) (c9.then N0 (c9.inBlock 0 (xq N [1,1,1,1] Q))):=by intro w N0 Q h;exact ZCm N _ _ _ _ _ _ ⟨V3,h⟩
  have nx:∀w:aV,jh y1.aS y2.aS y3=(jh y1.aS y2.aS (y3.drop (G (i+1)))).map ( bB++[w]++·)->∃j:Int×List aV,xM y1 y2 (i+1) (bB++[w])=xM y1 y2 j.1 j.2/\((0<=j.1/\j.1<=J y3)/\jh y1.aS y2.aS y3=(jh y1.aS y2.aS (y3.drop (G j.1))).map (j.2++·)/\( J j.2:Int)<=j.1)/\G (( J y3:Int)-j.1)<G (( J y3:Int)-i):=by intro w aw;exact⟨(i+1,bB++[w]),rfl,⟨⟨O,O⟩,aw,by grind⟩,O⟩
  have bh:∀(w:aV)(o:Option (List aV)),(o.map (w::·)).map (bB++·)=o.map ( bB++[w]++·):=λw o=>by cases o<;>simp
  have rm:J bB+1<=3000000:=O;refine⟨⟨i0,hi⟩,ah.1,⟨i0,hi⟩,ah.2,λhb=>⟨by grind,go _ _ _ (nx _ ?_)⟩,λhb=>⟨λha=>⟨by grind,go _ _ _ (nx _ ?_)⟩,λha=>?_⟩⟩;.grind
  .grind
  .obtain⟨y,hy⟩:=QL.1 hb;obtain⟨x,hx⟩:=QL.1 ha;rw[hy]at h6;rw[hx]at h5;have h5:y5=x:=h5;have h6:y6=y:=h6;subst h5 h6;rw[hx,hy]at f3;dsimp only at f3;refine⟨⟨HB op y4 _ hx,HB oq y4 _ hy⟩,λL=>cC (aC:=W.nil) (b:=I) ?_ V0,λL=>⟨by grind,go _ _ _ (nx _ ?_)⟩⟩;.rw[Q0 (by grind)]at f3;unfold rQ;grind
   grind
 .rw[Qb O,jh]at f3;have f3:jh y1.aS y2.aS y3=A bB:=by rw[f3];simp
  refine Z5 (ι:=Int×List bP) (λs=>Lc y1 y2 bB s.1 s.2) (λs=>(0<=s.1/\s.1<=J kn')/\iS fC y1.X y2.X kn'=(iS fC y1.X y2.X (kn'.drop (G s.1))).map (s.2++·)/\( J s.2:Int)<=s.1) (λs=>G (( J kn':Int)-s.1)) (0,[]) rfl ⟨by simp,by simp,by simp⟩ ?_;rintro⟨j,ks⟩⟨⟨j0,j1⟩,g3,g4⟩;dsimp only at j0 j1 g3 g4;refine ZCk N y1 y2 _ _ _ _ _ ?_;intro z1 q1 z2 q2 z3 q3 z4 q4 z5 q5 z6 q6 z7 q7;subst q1 q2;rw[hk]at q3;subst q3;(simp only[iB,bR,bW]);refine⟨λhj=>?_,λhj=>?_⟩
  .have hd:z3.drop (G j)=z4::z3.drop (G (j+1)):=by rw[q4];exact ZO j0 hj 0
   rw[hd,iS]at g3;have aj:z4∈z3:=by rw[q4];exact Zh O _
   rw[<-hk]at aj;obtain⟨m1,_,_⟩:=Mt rp rq aj;rw[<-q5,<-q6]at g3 m1;refine⟨⟨j0,hj⟩,by dsimp only[vN];omega,⟨j0,hj⟩,by dsimp only[vN];omega,⟨by rw[q5];exact Hp op z4,by rw[q6];exact Hp oq z4⟩,by show 8*(Z1 z5+Z1 z6)+1<N;omega,λL=>cC (aC:=W.nil) (b:=I) ?_ V0,λL=>⟨⟨j0,hj⟩,by grind,V3,(j+1,ks++[⟨z4,z7⟩]),rfl,⟨⟨O,O⟩,?_,by grind⟩,O⟩⟩;.rw[Q0 (by grind)]at g3;unfold rQ;grind
   .rw[Q5 L]at g3;rw[g3,<-q7];cases iS fC z1.X z2.X (z3.drop (G (j+1)))<;>simp
  .rw[Qb O,iS]at g3;have g3:iS fC z1.X z2.X z3=A ks:=by rw[g3];simp
   refine cC (aC:=.mk 2 H.nil H.nil bB ks 0 []) (b:=Y) ?_ V0;unfold rQ;grind
theorem NO{e}(h:ZR e){o}(ho:o∈e.ops){a u}(s:ns o a u):Ej u:=by
 obtain⟨d,hr⟩:=h.2.2;have hk:=Zx (Zr hr o ho);have c:=F4 ho;have ce:=Ji e;have h1:=h.1;have g:=Jr (qe (Zp h.2.1).2.2.2.2 ho);have R:=bM (Zc hr).ops ho;refine⟨by rw[s.D];rcases hk with k|k|k|k<;>omega,?_,?_,λh3=>?_⟩
 .rcases s.t with e|e;.rw[e];decide
  .have:=YM e;omega
 .rcases s.t with e|e;.rw[e];exact oC
  .exact YW g.2.2.1 e
 .rw[s.dL h3];exact⟨O,g.2.2.2,_,Yi R (by rw[<-s.D];exact h3)⟩
theorem ZmB:∀k(P Q:List bJ)bB,J P+J Q<=k->(ZI P Q bB).1.length<=J bB+J P+J Q:=by intro k;induction k with
 |zero=>
  intro P Q bB h;have e1:P=[]:=Q7 O;have e2:Q=[]:=Q7 O;subst e1 e2;rw[ZI,QC (by simp[k7]),QC (by simp[k7]),QW (by simp),Q5 rfl];simp|succ k ih=>
  intro P Q bB h;rw[ZI];by_cases h1:k7 P=Y;.rw[QW h1];have hl:=(X7 h1).1;grind
  .rw[QC h1];by_cases h2:k7 Q=Y;.rw[QW h2];have hl:=(X7 h2).1;grind
   grind
noncomputable def Ak(x:bK):List Op×Bool:=rp fC x
theorem OE:ZOU:=by
 intro N p q _ hp hN;obtain⟨k3,l3,op,oq⟩:=hp;dsimp only at k3 l3 op oq;have bu:8*(Z1 p+Z1 q)<N+1:=hN;obtain⟨dp,ao⟩:=op.2.2;obtain⟨dq,ak⟩:=oq.2.2;have cp:=Ji p;have cq:=Ji q;have b1:=op.1;have bp:=oq.1;have ae:=Zr ao;have ah:=Zr ak;have s1:=GX ao;have s2:=GX ak;have n1:=CA ae;have n2:=CA ah;have u1:=BQ 1 p.ops 0 ae;have u2:=BQ 2 q.ops 0 ah;have m1:=u6 p.ops;have m2:=u6 q.ops;have cC:∀{aC:W}{b:Bool}{s:bT U},r_ p q=(aC,b)->ZB M Tryz.f168.ntmps Tryz.f168.results.toList (.tup [(Y,enc .aY aC),(I,[.bool b])]) [] .ret s->ZB M Tryz.f168.ntmps Tryz.f168.results.toList (Bo (p,q,())) [] .ret s:=by intro aC b s h hs;refine Y8 ?_ hs;simp only[Bo];rw[h];try rfl
 refine wV (λQ=>let z0:=!(ZI (Zn 0 1 p.ops) (Zn 0 2 q.ops) []).2;Bb (p.ops,1,())/\Bb (q.ops,2,())/\GG ( Zn 0 1 p.ops,Zn 0 2 q.ops,())/\Tk 4 (!z0) ((z0=I->(!z0)=Y)/\iB (bif z0 then Y else p.V !=q.V) (Q .ret (L2 [pL 4,pB 5 I] [(.bE 4,eI)])) (Zi (yR N [1,1,1,1,0,1,0,0]) (xW p q 0 []) (xB 0 (Cz N [1,1,1,1,1] Q))))) ?_ λ_ h=>Eq.mpr V4 h;(simp only[iB,bR,bW]);have bi:( J (Zn 0 1 p.ops):Int)<=120000000000:=O;have bt:( J (Zn 0 2 q.ops):Int)<=120000000000:=O;have az:Zq p.ops<=20000000000:=O;have a7:Zq q.ops<=20000000000:=O;refine⟨⟨⟨ae,az⟩,V2⟩,⟨⟨ah,a7⟩,V2⟩,⟨V2,V2⟩,λhb=>?_,λhb=>?_⟩
 .refine cC (aC:=W.nil) (b:=I) ?_ V0;unfold r_ o6;by_cases hl:p.V=q.V
  .rw[Q0 O,Q0];rcases hb with h|h;.rw[h];decide
   .exact absurd hl h
  .rw[Q5 hl]
 .have hL:r_ p q=match J4 fC (ZI (Zn 0 1 p.ops) (Zn 0 2 q.ops) []).1 with
    |some l=>(.mk 3 H.nil H.nil [] [] p.V l,Y)|none=>(W.nil,I):=by unfold r_ o6;rw[Q0 O,Q5 hb.1];cases J4 fC (ZI (Zn 0 1 p.ops) (Zn 0 2 q.ops) []).1<;>rfl
  have pm:=TI _ (Zn 0 1 p.ops) (Zn 0 2 q.ops) [] (Qa _);have pl:=ZmB _ (Zn 0 1 p.ops) (Zn 0 2 q.ops) [] (Qa _);generalize hps:ZI (Zn 0 1 p.ops) (Zn 0 2 q.ops) []=ps at*;have pl:J ps.1<=8000000:=by simp only[Ql]at pl;omega
  refine Z5 (ι:=Int×List Op) (λs=>xW p q s.1 s.2) (λs=>(0<=s.1/\s.1<=J ps.1)/\J4 fC ps.1=(J4 fC (ps.1.drop (G s.1))).map (s.2++·)/\( J s.2:Int)<=s.1) (λs=>G (( J ps.1:Int)-s.1)) (0,[]) rfl ⟨by simp,by simp,by simp⟩ ?_;rintro⟨i,bB⟩⟨⟨i0,i1⟩,f3,f4⟩;dsimp only at i0 i1 f3 f4;refine ZCi N p q _ _ _ _ ?_;intro y1 h1 y2 h2 y3 h3 y4 h4 y5 h5 y6 h6;rw[hps]at h1;subst h1;(simp only[iB,bR,bW]);refine⟨λhi=>?_,λhi=>?_⟩
  .have hd:y1.1.drop (G i)=y2::y1.1.drop (G (i+1)):=by rw[h2];exact ZO i0 hi _
   rw[hd,ur]at f3;have au:y2∈y1.1:=by rw[h2];exact Zh O _
   have a6:=pm y2 au;have go:∀(w:List Op)(N0:bT U->Prop)(Q:c9->bT U->Prop),N0 (xW p q (i+1) (bB++w))->yR N [1,1,1,1,0,1,0,0,1,1] (EK p q i (bB++w)) (c9.then N0 (c9.inBlock 0 (Cz N [1,1,1,1,1] Q))):=by intro w N0 Q h;exact ZCj N _ _ _ _ _ _ ⟨V3,h⟩
   have nx:∀w:List Op,J w<=1->J4 fC y1.1=(J4 fC (y1.1.drop (G (i+1)))).map ( bB++w++·)->∃j:Int×List Op,xW p q (i+1) (bB++w)=xW p q j.1 j.2/\((0<=j.1/\j.1<=J y1.1)/\J4 fC y1.1=(J4 fC (y1.1.drop (G j.1))).map (j.2++·)/\( J j.2:Int)<=j.1)/\G (( J y1.1:Int)-j.1)<G (( J y1.1:Int)-i):=by
    intro w bo ay;exact⟨(i+1,bB++w),rfl,⟨⟨V2,V2⟩,ay,by simp only[List.length_append];omega⟩,V2⟩
   have ai:∀(w:List Op)(o:Option (List Op)),(o.map (w++·)).map (bB++·)=o.map ( bB++w++·):=λw o=>by cases o<;>simp
   refine⟨⟨i0,hi⟩,λc1=>?_,λc1=>⟨λc2=>?_,λc2=>?_⟩⟩
   .have e:Ak y2=([y5],Y):=by unfold Ak rp;rw[if_pos c1,<-h3,<-h5]
    rw[show rp fC y2=([y5],Y)from e]at f3;exact⟨⟨i0,hi⟩,trivial,by simp only[Qd,Ql];omega,go _ _ _ (nx _ (by simp) (by rw[f3];exact ai _ _))⟩
   .have e:Ak y2=([y6],Y):=by unfold Ak rp;rw[if_neg c1,if_pos c2,<-h4,<-h6]
    rw[show rp fC y2=([y6],Y)from e]at f3;exact⟨⟨i0,hi⟩,trivial,by simp only[Qd,Ql];omega,go _ _ _ (nx _ (by simp) (by rw[f3];exact ai _ _))⟩
   .have e:Ak y2=gk fC y3 y4:=by unfold Ak rp;rw[if_neg c1,if_neg c2,<-h3,<-h4]
    rw[show rp fC y2=gk fC y3 y4 from e]at f3;rcases a6 with m|⟨_,⟨m1,a1⟩,m2,a2⟩|⟨m,_⟩|⟨m,_⟩;.cases m
    .rw[<-h3]at m1 a1;rw[<-h4]at m2 a2;obtain⟨o1,ar,am⟩:=sN ae m1;obtain⟨o2,av,al⟩:=sN ah m2;have w1:=(uG ao ar am).1;have w2:=(uG ak av al).1;have ul:(gk fC y3 y4).1.length<=1:=by
      unfold gk;split;.simp
      .split;.simp
       .split;.simp
        .split;.simp
         .split<;>simp
     refine⟨⟨i0,hi⟩,⟨i0,hi⟩,⟨⟨NO op ar am,NO oq av al⟩,λh=>?_,λh=>?_⟩,by show 8*(Z1 y3.e+Z1 y4.e)+2<N;omega,λL=>cC (aC:=W.nil) (b:=I) ?_ V0,λL=>⟨O,go _ _ _ (nx _ ul ?_)⟩⟩;.have h:y3.D=1:=h;have:=am.bV (.inl h);rw[a1,QD h]at this;cases this
     .have h:y4.D=2:=h;have:=al.bV (.inr h);rw[a2,QD h]at this;cases this
     .rw[Q0 (by rw[L];decide)]at f3;rw[hL,f3];try rfl
     .rw[f3,Q5 L];exact ai _ _
    .exact absurd m c1
    .exact absurd m c2
  .rw[Qb O,J4]at f3;have f3:J4 fC y1.1=A bB:=by rw[f3];simp
   refine cC (aC:=.mk 3 H.nil H.nil [] [] p.V bB) (b:=Y) ?_ V0;rw[hL,f3]
theorem Vb:ZOM:=by
 intro N p q _ hp hN;obtain⟨⟨op,oq⟩,np,nq⟩:=hp;dsimp only at op oq np nq;have bh:8*(Z1 p.e+Z1 q.e)+2<N+1:=hN;obtain⟨kp,mp,gp,rp⟩:=op;obtain⟨kq,mq,gq,rq⟩:=oq;have cC:∀{l:List Op}{b:Bool}{s:bT U},gk fC p q=(l,b)->ZB M Tryz.f214.ntmps Tryz.f214.results.toList (.tup [(I,[.slice (U:=U) .op l .bA]),(I,[.bool b])]) [] .ret s->ZB M Tryz.f214.ntmps Tryz.f214.results.toList (AR (p,q,())) [] .ret s:=by intro l b s h hs;refine Y8 ?_ hs;simp only[AR];rw[h]
 have hu:=gk.eq_1 fC p q;refine wV (λQ=>∀aq,aq=p->∀ao,ao=q->∀ab,ab=p.e->∀aa,aa=q.e->∀af,af=p.t->∀ai,ai=q.t->∀av,av=cP aq->∀ay,ay=cP ao->∀au,au=(fC ab aa).1->∀ae,ae=Zd (Zm ab)->∀ak,ak=YH (bX Y aa af)->∀aj,aj=YH (bX Y ae ai)->let z0:=W.mk 0 (H.mk 0 [] []) (H.mk 0 [] []) [] [] 0 [];iB (q.D==0) ( uv (aq,())/\Q .ret (L2 [(4,.c (sU .op [av] .cU)),pB 5 Y] [])) (iB (p.D==0) ( uv (ao,())/\Q .ret (L2 [(4,.c (sU .op [ay] .cU)),pB 5 Y] [])) (Tk 3 (p.D==2) (iB (bif p.D==2 then q.D==1 else I) ( kM (af,ai,())/\Q .ret (L2 [(4,.c .nils),pB 5 (ZW (Z2 af) (Z2 ai))] [])) (iB (p.D==2) ( gg (aa,af,())/\Q .ret (L2 [(4,.c (sU .op [bI.mk 2 0 [ak] z0] .cU)),pB 5 (bX Y aa af).isSome] [])) (iB (q.D==1) ( fg (ab,())/\gg (ae,ai,())/\Q .ret (L2 [(4,.c (sU .op [bI.mk 1 0 [aj] z0] .cU)),pB 5 (bX Y ae ai).isSome] [])) ( jI (ab,aa,())/\sL (ab,aa,())<N/\Q .ret (L2 [(4,.c (sU .op [bI.mk 3 0 [] au] .cU)),pB 5 (fC ab aa).2] [])))))))) ?_ λ_ h=>Eq.mpr V4 (h _ (qp _) _ (qp _) _ (Z0 _) _ (Z0 _) _ (Z7 _) _ (Z7 _) _ (Yp _) _ (Yp _) _ (Z0 _) _ (Z0 _) _ (Z7 _) _ (Z7 _));intro y1 h1 y2 h2 y3 h3 y4 h4 y5 h5 y6 h6 y7 h7 y8 h8 y9 h9 bj aw bg a5 ba a6;replace h1:=h1.symm;replace h2:=h2.symm;subst h1 h2;(simp only[iB,bR,bW]);refine⟨λq0=>⟨trivial,cC (by rw[hu,Q5 q0,<-h7]) V0⟩,λq0=>?_⟩;rw[Q0 q0]at hu;refine⟨λp0=>⟨trivial,cC (by rw[hu,Q5 p0,<-h8]) V0⟩,λp0=>?_⟩;rw[Q0 p0]at hu;refine⟨λc=>⟨⟨by rw[h5];dsimp only;omega,by rw[h6];dsimp only;omega⟩,cC (by rw[hu,if_pos c,<-h5,<-h6]) V0⟩,λc=>?_⟩;rw[Q0 O]at hu;refine⟨λp2=>?_,λp2=>?_⟩;.rw[Q5 p2,<-h4,<-h5,<-a5]at hu;have al:q.D=3:=O;exact⟨by rw[h4,h5];exact yx (rq al) O gp,cC hu V0⟩
 rw[Q0 p2]at hu;have am:p.D=3:=O;refine⟨λq1=>?_,λq1=>?_⟩;.rw[Q5 q1,<-h3,<-h6,<-aw,<-a6]at hu;exact⟨by rw[h3];exact Zrn (rp am),by rw[aw,h3,h6];exact yx (xP (rp am)).2 O gq,cC hu V0⟩
 .rw[Q0 q1,<-h3,<-h4,<-h9]at hu;have al:q.D=3:=O;exact⟨⟨by rw[h3];exact rp am,by rw[h4];exact rq al⟩,by rw[h3,h4];show 8*(Z1 p.e+Z1 q.e)+1<N;omega,cC hu V0⟩
theorem ZVD:aU Tryz.prog M 112 FP/\aU Tryz.prog M 167 Zxt/\aU Tryz.prog M 168 Zxs/\aU Tryz.prog M 214 Zxa:=ZFS vh Dc zf VV TK W7 BZ BL BA qz O7 U0 OE Vb
theorem ZXF:aU Tryz.prog M 112 FP:=ZVD.1
noncomputable section
def ZNT(a:YC):Prop:=eJ a.1/\eJ a.2.1
def WQ(a:YC):aA U:=.tup [(Y,enc .aY (kI a.1 a.2.1).1),(I,[.bool (kI a.1 a.2.1).2])]
def ZDF:Fs U:=fs gM (λa=>[ZNT a]) WQ
def ZQY:List (FuncId×Fs U):=[(112,FP),(29,oe)]
end
theorem Zve{r e t}(hr:∃d,Z3 e d=Y)(s:Zo t+dZ e<=200000000000):Zo (YH (bX r e t))<=1000000000000:=by cases h:bX r e t with|none=>trivial|some u=>exact Zth hr s h
theorem Zvd(o):YH (o.map Z2)=Z2 (YH o):=by cases o;exact ZmK.symm;rfl
theorem ZkR{e t}(s:∃d,Z3 e d=Y)(h:Zo t+dZ e<=200000000000):Zo (YH ((bX I e t).map Z2))<=1000000000000:=by rw[Zvd];exact QS (ZX _) (Zve s h)
theorem c72:aU Tryz.prog M 72 ZDF:=by
 refine kF (l:=ZQY) ⟨ZXF,Cv.1,trivial⟩ ZXa Tryz.func72 2 λ⟨p,q,_⟩hp=>?_;have r1:=hp.1.re;have r2:=hp.2.re;dsimp only at r1 r2;refine wV (λQ=>∀aa,aa=p->∀s,s=q->∀ab,ab=(fC aa s).1->jI (aa,s,())/\iB (!(fC aa s).2) (Q .ret (L2 [pL 4,pB 5 I] [(.bE 4,eI)])) ( fg (ab,())/\Q .ret (L2 [pL 4,pB 5 Y] [(.bE 4,enc .aY (Zd ab))]))) ?_ λ_ h=>Eq.mpr V4 (h _ (Z0 _) _ (Z0 _) _ (Z0 _));intro y1 h1 y2 h2 y3 h3;subst h1 h2;(simp only[iB,bR,bW]);refine⟨⟨r1,r2⟩,λL=>?_,λL=>?_⟩;.refine Y8 (r':=.tup [(Y,enc .aY W.nil),(I,[.bool I])]) ?_ V0;simp only[WQ,kI];rw[Q0 (by grind)];try rfl
 .have k1:=ZL r1;have k2:=ZL r2;obtain⟨aJ,hu⟩:=ZEP _ y1 y2 (Qa _) O (wu r1) (wu r2);have hu:=hu L;have wr:=(aJ.wk L).r;have m1:=DU (fC y1 y2).1;have m2:=vO _ (fC y1 y2).1 (Qa _) ⟨_,wr⟩;have e:gF (Z1 y1+Z1 y2) y1 y2=fC y1 y2:=rfl;rw[e]at hu;have u1:=hp.1.1;have u2:=hp.2.1;dsimp only at u1 u2;refine⟨by rw[h3];exact⟨by grind,-1,wr⟩,Y8 (r':=.tup [(Y,enc .aY (Zd y3)),(I,[.bool Y])]) ?_ V0⟩;simp only[WQ,kI];rw[Q5 L,h3];try rfl
theorem ZHc{p q}(hp:eJ p)(s:eJ q):iV p q=kI p q:=by
 obtain⟨d1,r1⟩:=hp.2.2;obtain⟨d2,r2⟩:=s.2.2;have m1:=ZL hp.re;have m2:=ZL s.re;have aD:=ZHf (p:=p) (q:=q) O r1 r2;unfold iV kI;rw[aD.ok];by_cases h:(fC p q).2=Y;.rw[Q5 h,Q5 h,aD.Wb (by rw[aD.ok];exact h)]
 grind
noncomputable section
def oA(w:aV)(m:Int):aV×Bool:=(⟨w.S,fX m w.a_,cS 0 w.bH (fX m w.a_),cS 0 w.new (fX m w.a_)⟩,decide (fX m w.a_≠0))
def YB(p q:aV):Bool:=decide (cS 0 p.bH (fX p.a_ q.a_)≠cS 0 q.bH (fX p.a_ q.a_))
def jH(p q:aV):Bool:=decide (cS 0 p.new (fX p.a_ q.a_)≠cS 0 q.new (fX p.a_ q.a_))
def gS(l:List H):List Op:=if l=[]then[]else[⟨2,0,l,W.nil⟩]
def jP(e:W):Op:=if e.D=0 then⟨0,1,[],W.nil⟩else⟨3,0,[],e⟩
end
end Go.AM.YtpjenobkibfpcaaGreat
namespace Go.AM
instance:Inhabited o5:=⟨⟨0,0⟩⟩
def Jb(n:Int):List Op:=if n=0 then[]else[⟨0,n,[],W.nil⟩]
def ZOv(s:o5)(t:H):Prop:=s.D=0/\0<=s.S/\(t.D=1/\s.S<65535\/(2<=t.D/\t.D<=9)/\s.S<J t.X)
instance(s:o5)(t:H):Decidable (ZOv s t):=by unfold ZOv;infer_instance
