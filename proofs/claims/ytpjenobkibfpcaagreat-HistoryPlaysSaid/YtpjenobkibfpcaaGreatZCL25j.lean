import Derived.Test.YtpjenobkibfpcaaGreatZKL21t
import Derived.Test.YtpjenobkibfpcaaGreatZmXE
set_option linter.all false
open Option renaming some->A,none->aT
open Bool renaming true->Y,false->I
open List renaming length->J,getD->aR
open Int renaming toNat->G
namespace Go.AM.YtpjenobkibfpcaaGreat
open Go.AM Go.Proofs
theorem Zhv:∀{ks:List bP}{k},k∈ks->Z1 k.e<=ZM ks
 |⟨_,_⟩::r,k,h=>by
  rcases Qe.1 h with rfl|h;.simp only[ZM,JS];omega
  .have:=Zhv h;simp only[ZM];omega
theorem Dr:∀{os:List Op}{o},o∈os->Zy o<=Zq os
 |a::r,o,h=>by
  rcases Qe.1 h with rfl|h;.simp only[Zq];omega
  .have:=Dr h;simp only[Zq];omega
theorem ZAC(o:Op):Z1 o.e<=Zy o:=by obtain⟨k,n,l,e⟩:=o;simp only[Zy];omega
theorem ZA{e k}(h:k∈e.X):Z1 k.e<Z1 e:=by obtain⟨s,o,n,w,ks,l,os⟩:=e;have:=Zhv (ks:=ks) h;simp only[Z1];omega
theorem Yf{e o}(h:o∈e.ops):Z1 o.e<Z1 e:=by obtain⟨kk,s,n,w,ks,l,os⟩:=e;have:=Dr (os:=os) h;have:=ZAC o;simp only[Z1];omega
mutual theorem ru:∀(t:H)(d m:Int),m<0->Zf t d=Y->Zf t m=Y
 |.mk k w ks,d,m,hm,h=>by
  rw[Zf]at h⊢;by_cases h0:k=0;.grind
  .rw[Q0 h0]at h⊢;by_cases h1:k=10;.grind
   .rw[Q0 h1]at h⊢;by_cases h2:d=0;.grind
    .rw[Q0 h2]at h;rw[Q0 O];by_cases h3:k=1
     .rw[Q5 h3,Q9]at h⊢;exact⟨h.1,PY 1 ks (d-1) (m-1) O h.2⟩
     .rw[Q0 h3,Q9]at h⊢;exact⟨h.1,PY k ks (d-1) (m-1) O h.2⟩theorem PY(V:Int):∀(ks:List H)(d m:Int),m<0->YR V ks d=Y->YR V ks m=Y|[],_,_,_,_=>rfl|t::r,d,m,hm,h=>by simp only[YR,Q9]at h⊢;exact⟨⟨h.1.1,ru t d m hm h.1.2⟩,PY V r d m hm h.2⟩end
theorem eL.neg{t}(h:eL t):Zf t (-1)=Y:=by obtain⟨⟨d,h⟩,_⟩:=h;exact ru t d (-1) V1 h
theorem CB{V d}:∀{ks},YR V ks d=Y↔∀t∈ks,ic V t=Y/\Zf t d=Y|[]=>by simp[YR]|t::r=>by simp only[YR,Q9,CB (ks:=r),Qe,Kv]
theorem P_{t}(h:Zf t (-1)=Y):t.D≠0->t.D≠10->(t.D=1->J t.aS<65536/\J t.X<65536)/\(t.D≠1->(2<=t.D/\t.D<=9)/\t.aS=[]/\J t.X<1048576)/\∀k∈t.X,ic t.D k=Y/\Zf k (-1)=Y:=by
 obtain⟨k,w,ks⟩:=t;intro h0 h1;have h0:k≠0:=h0;have h1:k≠10:=h1;rw[Zf,Q0 h0,Q0 h1,Q0 V1]at h;by_cases h3:k=1
 .rw[Q5 h3,Q9,Qh,CB]at h;subst h3;exact⟨λ_=>h.1,λe=>absurd rfl e,λx s=>⟨(h.2 x s).1,ru _ _ _ V1 (h.2 x s).2⟩⟩
 .rw[Q0 h3,Q9,Qh,CB]at h;exact⟨λe=>absurd e h3,λ_=>⟨⟨h.1.1,h.1.2.1⟩,Q7 h.1.2.2.1,h.1.2.2.2⟩,λx s=>⟨(h.2 x s).1,ru _ _ _ V1 (h.2 x s).2⟩⟩
theorem ZoN{w ks}(h1:J w<65536)(h2:J ks<65536)(h:∀k∈ks,ic 1 k=Y/\Zf k (-1)=Y):Zf (.mk 1 w ks) (-1)=Y:=by rw[Zf,Q0 V1,Q0 V1,Q0 V1,Q5 rfl,Q9,Qh,CB];exact⟨⟨h1,h2⟩,λx s=>⟨(h x s).1,ru _ _ _ V1 (h x s).2⟩⟩
theorem Zjv{l ks}(hl:2<=l/\l<=9)(h2:J ks<1048576)(h:∀k∈ks,ic l k=Y/\Zf k (-1)=Y):Zf (.mk l [] ks) (-1)=Y:=by rw[Zf,Q0 O,Q0 O,Q0 V1,Q0 O,Q9,Qh,CB];exact⟨⟨hl.1,hl.2,rfl,h2⟩,λx s=>⟨(h x s).1,ru _ _ _ V1 (h x s).2⟩⟩
theorem rN{aK V}:∀{l},Jx aK V l=Y->∀t∈l,Zf (.mk V [] [t]) aK=Y
 |a::r,h,t,ht=>by
  simp only[Jx,Q9]at h;rcases Qe.1 ht with rfl|ht;.exact h.1
  .exact rN h.2 t ht
theorem xS{aK V}(hl:2<=V/\V<=9){l}(h:Jx aK V l=Y):∀t∈l,ic V t=Y/\Zf t (-1)=Y:=by intro t s;have:=P_ (ru _ _ (-1) V1 (rN h t s)) (by show V≠0;omega) (by show V≠10;omega);simp_all
inductive dh:List Op->List H->List H->Prop|nil:dh [] [] []|bN{o r a s d}:o.D=0->(a.length:Int)=o.n->dh r s d->dh (o::r) (a++s) (a++d)|gone{o r a s d}:o.D=1->Z6 o.l=Z6 a->dh r s d->dh (o::r) (a++s) d|eD{o r s d}:o.D=2->dh r s d->dh (o::r) s (o.l++d)|dL{o r x y s d}:o.D=3->bX false o.e x=some y->dh r s d->dh (o::r) (x::s) (y::d)
def j8(o:Op):Prop:=o.D=0/\0<=o.n\/o.D=1\/o.D=2\/o.D=3
theorem Zu3:∀{os s d},dh os s d->∀bB,ZV I os s bB=A (bB++d,[]):=by intro os s d h;induction h with
 |nil=>intro bB;simp[ZV]|bN h0 hn hr0 ih=>rename_i o r a s d;intro bB;rw[ZV,Js,Q5 h0,Q5 (by grind),show G o.n=J a by omega];grind|gone h1 hn hr0 ih=>
  rename_i o r a s d;intro bB;have hl:=At hn;rw[ZV,Js,Q0 O,Q5 h1,Q5];.grind
  .rw[yM,hl,List.take_left];grind|eD h2 hr0 ih=>intro bB;rw[ZV,Js,Q0 O,Q0 O,Q5 h2];grind|dL h3 he hr0 ih=>intro bB;rw[ZV,Js,Q0 O,Q0 O,Q0 O,Q0 (by simp)];grind
theorem E4:∀{os:List Op}{s bB x},(∀o∈os,j8 o)->ZV I os s bB=A x->x.2=[]->∃d,x.1=bB++d/\dh os s d
 |[],s,bB,x,_,h,hx=>by
  rw[ZV]at h;cases h;have hx:s=[]:=hx;subst hx;exact⟨[],by simp,.nil⟩|o::r,s,bB,x,hk,h,hx=>by
  rw[ZV,Js]at h;have hr:∀o∈r,j8 o:=λo ho=>hk o (Q4 _ ho);rcases hk o Q6 with h0|h1|h2|h3
  .rw[Q5 h0.1]at h;split at h
   .rename_i hl;simp only[Qp]at h;obtain⟨d,e,hd⟩:=E4 hr h hx;refine⟨s.take (G o.n)++d,by grind,?_⟩;have:=dh.bN (a:=s.take (G o.n)) h0.1 (by grind) hd;simp_all
   .cases h
  .rw[Q0 O,Q5 h1]at h;split at h;.rename_i hg;obtain⟨g1,g2⟩:=(yM _ _).1 hg;simp only[Qp]at h;obtain⟨d,e,hd⟩:=E4 hr h hx;refine⟨d,e,?_⟩;have:=dh.gone (a:=s.take (J o.l)) h1 g2 hd;simp_all
   .cases h
  .rw[Q0 O,Q0 O,Q5 h2]at h;simp only[Qp]at h;obtain⟨d,e,hd⟩:=E4 hr h hx;exact⟨o.l++d,by grind,.eD h2 hd⟩
  .rw[Q0 O,Q0 O,Q0 O]at h;split at h;.cases h
   .rename_i hl;obtain⟨y,hy,h⟩:=Qq.1 h;obtain⟨z,hz,rfl⟩:=Qf.1 hy;obtain⟨d,e,hd⟩:=E4 hr h hx;cases s with|nil=>simp at hl|cons x0 s=>refine⟨z::d,by rw[e];simp,.dL h3 (by simpa using hz) (by simpa using hd)⟩
theorem vD{os:List Op}{s d}(hk:∀o∈os,j8 o):gX (ZV I os s [])=A d↔dh os s d:=by
 constructor
 .intro h;unfold gX at h;obtain⟨x,hx,h⟩:=Qq.1 h;split at h;.rename_i hl;cases h;obtain⟨d,e,hd⟩:=E4 hk hx (Q7 hl);grind
  .cases h
 .intro h;have:=Zu3 h [];unfold gX;grind
theorem ZAS{V d}{o:Op}(h:Zg V o d=Y):j8 o:=by have:=ZQ h;cases this with|bN n h1=>exact .inl ⟨rfl,by grind⟩|gone=>exact .inr (.inl rfl)|eD=>exact .inr (.inr (.inl rfl))|dL=>exact .inr (.inr (.inr rfl))
theorem RJ:∀{os s d},dh os s d->(∀o∈os,ZH o)->(J s)=fO os/\(J d)=JO os:=by
 intro os s d h;induction h with
 |nil=>intro _;simp[fO,JO]|bN h0 hn hr0 ih=>
  rename_i o r a s d;intro hk;obtain⟨i1,i2⟩:=ih λo ho=>hk o (Q4 _ ho);have ho:=hk o Q6;have hl:Z4 o=o.n:=by
   rcases ho with h|h|h;.unfold Z4;rw[V5,h.2.1];simp
   .omega
   .omega
  simp only[fO,JO,Qi];rw[Q0 O,Q0 O,hl];omega|gone h1 hn hr0 ih=>
  rename_i o r a s d;intro hk;obtain⟨i1,i2⟩:=ih λo ho=>hk o (Q4 _ ho);have ho:=hk o Q6;have hl:Z4 o=J a:=by
   have:=At hn;rcases ho with h|h|h;.omega
   .unfold Z4;rw[V5,h.2.1];omega
   .omega
  simp only[fO,JO,Qi];rw[Q0 O,Q5 h1,hl];omega|eD h2 hr0 ih=>
  rename_i o r s d;intro hk;obtain⟨i1,i2⟩:=ih λo ho=>hk o (Q4 _ ho);have ho:=hk o Q6;have hl:Z4 o=J o.l:=by
   rcases ho with h|h|h;.omega
   .unfold Z4;rw[V5,h.2.1];omega
   .omega
  simp only[fO,JO,Qi];rw[Q5 h2,Q0 O,hl];omega|dL h3 he hr0 ih=>
  rename_i o r x y s d;intro hk;obtain⟨i1,i2⟩:=ih λo ho=>hk o (Q4 _ ho);have hl:Z4 o=1:=by unfold Z4;rw[if_pos h3]
  simp only[fO,JO,Qd];rw[Q0 O,Q0 O,hl];omega
theorem Ztf{r tk}:∀{ks:List bP}{bB b},fD r tk ks bB=A b->(∀k∈ks,k.S<=65534)->J b<=max (J bB) 65535/\∀y∈b,y∈bB\/y=H.nil\/∃k∈ks,bX r k.e (aR tk (G k.S) H.nil)=A y
 |[],bB,b,h,_=>by
  rw[fD]at h;cases h;exact⟨O,λy hy=>.inl hy⟩|k::s,bB,b,h,ha=>by
  rw[fD,xe]at h;obtain⟨v,hv,hb⟩:=Qq.1 h;obtain⟨i1,i2⟩:=Ztf hb λx hx=>ha x (Q4 _ hx);have:=ha k Q6;rw[Zc4]at i1;refine⟨O,λy hy=>?_⟩;rcases i2 y hy with h1|h1|⟨q,hq,h1⟩
  .rcases UT h1 with h1|h1|h1;.exact .inl h1
   .exact .inr (.inl h1)
   .subst h1;exact .inr (.inr ⟨k,Q6,hv⟩)
  .exact .inr (.inl h1)
  .exact .inr (.inr ⟨q,Q4 _ hq,h1⟩)
theorem ZID:∀{os s d},dh os s d->∀y∈d,y∈s\/(∃o∈os,o.D=2/\y∈o.l)\/∃o∈os,o.D=3/\∃x∈s,bX I o.e x=A y:=by intro os s d h;induction h with|nil=>grind|bN h0 hn hr0 ih=>grind|gone h1 hn hr0 ih=>grind|eD h2 hr0 ih=>grind|dL h3 he hr0 ih=>grind
theorem ZRb{y}(h:y.D≠10):ic 1 y=Y:=by unfold ic;grind
theorem S6{V d}{os:List Op}(h:ZK V os d=Y):∀o∈os,ZH o:=λo s=>uu (bM h s)
theorem uL{o}(h:ZH o):0<=Z4 o:=by have:=ZE h;omega
theorem s_{e d t u}(hr:Z3 e d=Y)(h:bX I e t=A u):(e.D=1->u=e.new)/\(e.D=2->u.D=1/\t.D=1)/\(e.D=3->u.D=e.V/\t.D=e.V)/\(e.D=0->u=t):=by
 rw[lH,Ja]at h;refine⟨λs=>?_,λs=>?_,λs=>?_,λs=>?_⟩;.grind
 .rw[Q0 O,Q0 O,Q5 s]at h;split at h;.rename_i ht;obtain⟨a,ha,h⟩:=Qq.1 h;obtain⟨b,hb,rfl⟩:=Qf.1 h;simp_all
  .cases h
 .rw[Q0 O,Q0 O,Q0 O,Q5 s]at h;split at h;.rename_i ht;obtain⟨b,hb,rfl⟩:=Qf.1 h;simp_all
  .cases h
 grind
theorem AN:∀n(e:W)d(t u:H),Z1 e<=n->Z3 e d=Y->Zf t (-1)=Y->bX I e t=A u->Zf u (-1)=Y/\(e.D≠0->u.D≠10):=by intro n;induction n with
 |zero=>intro e d t u hm;obtain⟨k,o,nw,w,ks,l,os⟩:=e;simp only[Z1]at hm;omega|succ n ih=>
  intro e d t u hm hr ht h;have R:=Zc hr;obtain⟨k1,k2,k3,k0⟩:=s_ hr h;have hk:=R.D;by_cases h0:e.D=0;.grind
  by_cases h1:e.D=1;.rw[k1 h1];obtain⟨r1,r2,r3,r4⟩:=R.Mn h1;exact⟨ru _ _ _ V1 r2,λ_=>r4⟩
  by_cases h2:e.D=2
  .obtain⟨u1,t1⟩:=k2 h2;refine⟨?_,λ_=>by omega⟩;rw[lH,Ja,Q0 h0,Q0 h1,Q5 h2,Q5 t1]at h;obtain⟨a,ha,h⟩:=Qq.1 h;obtain⟨b,hb,rfl⟩:=Qf.1 h;obtain⟨p1,_,p3⟩:=P_ ht O O;have p1:=p1 t1;rw[t1]at p3;have hl:=PS R.aS ha;have aa:=Zl R.X;obtain⟨m1,m2⟩:=Ztf hb λk hk=>(aa k hk).1.2.1;refine ZoN O O λy hy=>?_;rcases m2 y hy with h|rfl|⟨k,hk,h⟩;.exact p3 y h
   .trivial
   .have hx:Zf (aR t.X (G k.S) H.nil) (-1)=Y:=by
     by_cases hi:G k.S<J t.X;.grind
     .rw[Qr,QX O];try rfl
    obtain⟨g1,g2⟩:=ih k.e _ _ y (by have:=ZA hk;omega) (aa k hk).2 hx h;exact⟨ZRb (g2 (aa k hk).1.2.2),g1⟩
  .have h3:e.D=3:=O;obtain⟨u1,t1⟩:=k3 h3;have ah:=R.V h3;refine⟨?_,λ_=>by omega⟩;rw[lH,Ja,Q0 h0,Q0 h1,Q0 h2,Q5 h3,Q5 t1]at h;obtain⟨b,hb,rfl⟩:=Qf.1 h;have ho:∀o∈e.ops,Zg e.V o (d-1)=Y:=λo h=>bM R.ops h;have s:=(vD λo h=>ZAS (ho o h)).1 hb;obtain⟨_,q2⟩:=RJ s (S6 R.ops);obtain⟨q3,q4⟩:=sJ e.ops 0 (λo h=>uL (S6 R.ops o h)) V1 V1;have q5:=R.len.2;obtain⟨_,_,p3⟩:=P_ ht O O;rw[t1]at p3;refine Zjv ah O λy hy=>?_;rcases ZID s y hy with h|⟨o,hoo,hk2,hyl⟩|⟨o,hoo,hk3,x,hx,h⟩;.exact p3 y h
   .have:=ZQ (ho o hoo);cases this with|eD l h1 h2=>exact xS ah h1 y hyl|bN|gone|dL=>grind
   .have:=ZQ (ho o hoo);cases this with|dL e' g1 g2 g3 g4=>obtain⟨f1,f2⟩:=ih e' _ x y (by have:=Yf hoo;grind) g1 (p3 x hx).2 h;refine⟨?_,f1⟩;obtain⟨j1,j2,_,_⟩:=s_ g1 h;unfold ic;grind|bN|gone|eD=>grind
theorem Cm{e d t u}(hr:Z3 e d=Y)(s:eL t)(he:Ye e)(h:bX I e t=A u):eL u:=⟨⟨-1,(AN _ e d t u (Qa _) hr s.neg h).1⟩,uf I e t u he s.2 h⟩
end Go.AM.YtpjenobkibfpcaaGreat
namespace Go.AM
def i_(m:Nat):Nat->Nat|0=>0|i+1=>i_ m i+if m/2^i%2=1 then 255*2^(8*i)else 0
def sG:Nat->Nat->Nat|0,_=>0|k+1,m=>(if m%2=1 then 255 else 0)+256*sG k (m/2)
def vz:Nat->Nat->Nat->Nat|0,_,_=>0|k+1,a,m=>(if m%2=1 then a%256 else 0)+256*vz k (a/256) (m/2)
def wM:Nat->Nat->Nat->Nat->Nat|0,_,_,_=>0|k+1,a,b,m=>(if m%2=1 then b%256 else a%256)+256*wM k (a/256) (b/256) (m/2)
theorem ZBr(x y u v)(hu:u<256)(s:v<256):u+256*x&&&v+256*y=(u&&&v)+256*(x&&&y):=by have h:u&&&v<256:=Nat.and_lt_two_pow (n:=8) u s;apply Nat.eq_of_testBit_eq;intro j;rw[Kh u,Kh v,Kh (u&&&v),Nat.testBit_and];rw[show(256:Nat)=2^8 from rfl,Xu _ hu,Xu _ s,Xu _ h];grind
theorem ZFx(x y u v)(s:u<256)(hv:v<256):u+256*x|||v+256*y=(u|||v)+256*(x|||y):=by have h:u|||v<256:=Nat.or_lt_two_pow (n:=8) s hv;apply Nat.eq_of_testBit_eq;intro j;rw[Kh u,Kh v,Kh (u|||v),Nat.testBit_or];rw[show(256:Nat)=2^8 from rfl,Xu _ s,Xu _ hv,Xu _ h];grind
theorem Ub:∀k a m,a&&&sG k m=vz k a m
 |0,a,m=>by simp[sG,vz]|k+1,a,m=>by
  have e:a=a%256+256*(a/256):=O;simp only[sG,vz];rw[<-Ub k (a/256) (m/2)];have h:a&&&(if m%2=1 then 255 else 0)+256*sG k (m/2)=a%256+256*(a/256)&&&(if m%2=1 then 255 else 0)+256*sG k (m/2):=by rw[<-e]
  rw[h,ZBr _ _ _ _ O (by grind)];congr 1;split;.have:=Nat.and_two_pow_sub_one_eq_mod (a%256) 8;grind
  .simp
theorem Zyq:∀k a b m n,(∀i<k,m/2^i%2+n/2^i%2=1)->vz k a n|||vz k b m=wM k a b m|0,a,b,m,n,_=>by simp[vz,wM]|k+1,a,b,m,n,h=>by simp only[vz,wM];have s:=h 0 O;simp only[Nat.pow_zero,Nat.div_one]at s;rw[ZFx _ _ _ _ (by grind) (by grind),Zyq k (a/256) (b/256) (m/2) (n/2) λi hi=>by have:=h (i+1) O;rw[XM,XM];grind];grind
theorem Zww:∀m:Fin 256,i_ m.1 8=sG 8 m.1:=by decide+kernel
theorem ZBH:∀m:Fin 256,2^64-1-sG 8 m.1=sG 8 (255-m.1):=by decide+kernel
theorem ZHp:∀m:Fin 256,∀i:Fin 8,m.1/2^i.1%2+(255-m.1)/2^i.1%2=1:=by decide+kernel
theorem ZHX:∀m:Fin 256,sG 8 m.1<2^64:=by decide+kernel
theorem ZFN(a b m)(h:m<256):a&&&2^64-1-i_ m 8|||b&&&i_ m 8=wM 8 a b m:=by have h1:=Zww ⟨m,h⟩;have s:=ZBH ⟨m,h⟩;simp only at h1 s;rw[h1,s,Ub,Ub];exact Zyq 8 a b m (255-m) λi hi=>ZHp ⟨m,h⟩ ⟨i,hi⟩
def xt:Nat->(Nat->Nat)->Nat|0,_=>0|k+1,f=>f 0+256*xt k λi=>f (i+1)
theorem ZmG:∀k{f g},(∀i,f i=g i)->xt k f=xt k g|0,_,_,_=>rfl|k+1,f,g,h=>by simp only[xt,h 0,ZmG k λi=>h (i+1)]
theorem ZyA:∀k a b m,wM k a b m=xt k λi=>if m/2^i%2=1 then b/256^i%256 else a/256^i%256|0,_,_,_=>rfl|k+1,a,b,m=>by simp only[wM,xt,Nat.pow_zero,Nat.div_one];rw[ZyA k,ZmG k (g:=λi=>if m/2^(i+1)%2=1 then b/256^(i+1)%256 else a/256^(i+1)%256) λi=>?_];rw[XM,XM,XM,Nat.pow_succ',Nat.pow_succ']
theorem ZFO(a b m):((wM 8 a b m:Nat))=cS a b m:=by
 have nm:∀i:Nat,Zu (m:Int) (i:Int)=decide (m/2^i%2=1):=by
  intro i;unfold Zu;rw[KM,Kp];have:((m:Int)/2^i%2:Int)=((m/2^i%2:Nat):Int):=by rw[Int.natCast_emod,Int.natCast_ediv,Int.natCast_pow];try rfl
  rw[this];omega
 have s:∀(x i:Nat),Z8 (x:Int) i=((x/256^i%256:Nat):Int):=by intro x i;unfold Z8;rw[Int.natCast_emod,Int.natCast_ediv,Int.natCast_pow];try rfl
 have mx:∀i:Nat,JR (a:Int) (b:Int) (m:Int) i=((if m/2^i%2=1 then b/256^i%256 else a/256^i%256:Nat):Int):=by
  intro i;unfold JR;rw[nm,s,s];by_cases h:m/2^i%2=1;.grind
  .grind
 rw[ZyA];generalize hf:(λi=>if m/2^i%2=1 then b/256^i%256 else a/256^i%256)=f;have hx:∀i,JR (a:Int) (b:Int) (m:Int) i=(f i:Int):=by intro i;rw[mx,<-hf]
 have e:xt 8 f=f 0+256*(f 1+256*(f 2+256*(f 3+256*(f 4+256*(f 5+256*(f 6+256*(f 7+256*0))))))):=rfl;rw[e];simp only[cS,ki,hx];omega
def ss(V:Int)(e:W):Bool:=if 2<=V/\V<=7\/e.D=0 then I else if V=8\/e.D=2 then Y else decide (e.D=1/\e.bH.D=1/\e.new.D=1)
def fX(a b:Int):Int:=IntKind.wrap .u8 (BitVec.ofInt (IntKind.bits .u8) a&&&BitVec.ofInt (IntKind.bits .u8) b).toNat
def lh(a b:Int):Int:=IntKind.wrap .u8 (BitVec.ofInt (IntKind.bits .u8) a|||BitVec.ofInt (IntKind.bits .u8) b).toNat
def sF(p q:aV):Bool:=decide (cS 0 p.new (fX p.a_ q.a_)=cS 0 q.bH (fX p.a_ q.a_))
def Jk(p q:aV):aV×Bool:=if sF p q then(⟨p.S,lh p.a_ q.a_,cS q.bH p.bH p.a_,cS p.new q.new q.a_⟩,Y)else(⟨0,0,0,0⟩,I)
def Zk{α:Type}(S:α->Int)(cE:α->α->α×Bool):List α->List α->Option (List α)|[],q=>A q|a::p,[]=>A (a::p)|a::p,b::q=>if S a<S b then(Zk S cE p (b::q)).map (a::·)else if S b<S a then(Zk S cE (a::p) q).map (b::·)else if(cE a b).2 then(Zk S cE p q).map ((cE a b).1::·)else aT termination_by p q=>J p+J q
def kL{α:Type}(o:Option (List α)):List α:=o.getD []
structure VJ where
 op:Op
 is:Bool
 ok:Bool
noncomputable def dX(e:W)(t:H):H×Bool:=(YH ((bX I e t).map Z2),(bX I e t).isSome)
noncomputable def gw(a b:List H):Bool:=kf (Z6 a) (Z6 b)
noncomputable def Zw(f:W->W->W×Bool)(x:cm):VJ:=if x.of=1\/x.of=0/\x.q.D=0 then⟨x.p,Y,Y⟩else if x.of=2\/x.p.D=0 then⟨x.q,Y,Y⟩else if x.p.D=2/\x.q.D=1 then⟨Op.nil,I,gw x.p.l (x.q.l.take (J x.p.l))⟩else if x.p.D=2 then⟨⟨2,0,[(dX x.q.e (aR x.p.l 0 H.nil)).1],W.nil⟩,Y,(dX x.q.e (aR x.p.l 0 H.nil)).2⟩else if x.q.D=1 then⟨⟨1,0,[(dX (Zd (Zm x.p.e)) (aR x.q.l 0 H.nil)).1],W.nil⟩,Y,(dX (Zd (Zm x.p.e)) (aR x.q.l 0 H.nil)).2⟩else⟨⟨3,0,[],(f x.p.e x.q.e).1⟩,Y,(f x.p.e x.q.e).2⟩
noncomputable def iz(f:W->W->W×Bool):List cm->Option (List Op)|[]=>A []|x::r=>if(Zw f x).ok then(iz f r).map ((if(Zw f x).is then[(Zw f x).op]else[])++·)else aT
noncomputable def je(f:W->W->W×Bool)(p q:List Op):Option (List Op):=if(ZC 1 2 p q []).2.1 then iz f (ZC 1 2 p q []).1 else aT
def fV(f:W->W->W×Bool)(a b:bP):bP×Bool:=(⟨a.S,(f a.e b.e).1⟩,(f a.e b.e).2)
noncomputable def mE(f:W->W->W×Bool)(p q:W):W×Bool:=if p.D=0 then(q,Y)else if q.D=0 then(p,Y)else if p.D=1 then(.mk 1 p.bH (dX q p.new).1 [] [] 0 [],(dX q p.new).2)else if q.D=1 then(.mk 1 (dX (Zd (Zm p)) q.bH).1 q.new [] [] 0 [],(dX (Zd (Zm p)) q.bH).2)else if p.D≠q.D\/p.V≠q.V then(W.nil,I)else if p.D=2 then if(Zk aV.S Jk p.aS q.aS).isSome then(.mk 2 H.nil H.nil (kL (Zk aV.S Jk p.aS q.aS)) (kL (Zk aW.S (fV f) p.X q.X)) 0 [],(Zk aW.S (fV f) p.X q.X).isSome)else(W.nil,I)else(.mk 3 H.nil H.nil [] [] p.V (kL (je f p.ops q.ops)),(je f p.ops q.ops).isSome)
noncomputable def lC:Nat->W->W->W×Bool|0,_,_=>(W.nil,I)|n+1,p,q=>mE (lC n) p q
noncomputable def Jc(p q:W):W×Bool:=lC (Z1 p+Z1 q) p q
def JZ(l:List aV)(S:Int):Option aV:=l.find? λw=>decide (w.S=S)
def Yc(l:List bP)(S:Int):W:=((l.find? λk=>decide (k.S=S)).map aW.e).getD W.nil
def Y7:List Int->List Int->List Int|[],b=>b|a::p,[]=>a::p|a::p,b::q=>if a<b then a::Y7 p (b::q)else if b<a then b::Y7 (a::p) q else a::Y7 p q termination_by p q=>J p+J q
def jh(p q:List aV):List Int->Option (List aV)|[]=>A []|n::r=>match JZ p n,JZ q n with|some x,aT=>(jh p q r).map (x::·)|none,A y=>(jh p q r).map (y::·)|some x,A y=>if(Jk x y).2 then(jh p q r).map ((Jk x y).1::·)else aT|none,aT=>(jh p q r).map ((⟨0,0,0,0⟩:aV)::·)
noncomputable def iS(f:W->W->W×Bool)(p q:List bP):List Int->Option (List bP)|[]=>A []|n::r=>if(f (Yc p n) (Yc q n)).2 then(iS f p q r).map (⟨n,(f (Yc p n) (Yc q n)).1⟩::·)else aT
noncomputable def gk(f:W->W->W×Bool)(p q:bJ):List Op×Bool:=if q.D=0 then([cP p],Y)else if p.D=0 then([cP q],Y)else if p.D=2/\q.D=1 then([],ZW (Z2 p.t) (Z2 q.t))else if p.D=2 then([⟨2,0,[YH (bX Y q.e p.t)],W.nil⟩],(bX Y q.e p.t).isSome)else if q.D=1 then([⟨1,0,[YH (bX Y (Zd (Zm p.e)) q.t)],W.nil⟩],(bX Y (Zd (Zm p.e)) q.t).isSome)else([⟨3,0,[],(f p.e q.e).1⟩],(f p.e q.e).2)
noncomputable def J4(f:W->W->W×Bool):List bK->Option (List Op)|[]=>A []|x::r=>if x.of=1 then(J4 f r).map (cP x.p::·)else if x.of=2 then(J4 f r).map (cP x.q::·)else if(gk f x.p x.q).2 then(J4 f r).map ((gk f x.p x.q).1++·)else aT
noncomputable def o6(f:W->W->W×Bool)(p q:List Op):Option (List Op):=if(ZI (Zn 0 1 p) (Zn 0 2 q) []).2 then J4 f (ZI (Zn 0 1 p) (Zn 0 2 q) []).1 else aT
noncomputable def lK(f:W->W->W×Bool)(p q:W):W×Bool:=if p.D=0 then(q,Y)else if q.D=0 then(p,Y)else if p.D=1 then(.mk 1 p.bH (YH (bX Y q p.new)) [] [] 0 [],(bX Y q p.new).isSome)else if q.D=1 then(.mk 1 (YH (bX Y (Zd (Zm p)) q.bH)) q.new [] [] 0 [],(bX Y (Zd (Zm p)) q.bH).isSome)else if p.D≠q.D then(W.nil,I)else if p.D=2 then match jh p.aS q.aS (Y7 (p.aS.map aV.S) (q.aS.map aV.S)),iS f p.X q.X (Y7 (p.X.map aW.S) (q.X.map aW.S))with|some w,A k=>(.mk 2 H.nil H.nil w k 0 [],Y)|_,_=>(W.nil,I)else if p.V≠q.V then(W.nil,I)else match o6 f p.ops q.ops with|some l=>(.mk 3 H.nil H.nil [] [] p.V l,Y)|none=>(W.nil,I)
noncomputable def gF:Nat->W->W->W×Bool|0,_,_=>(W.nil,I)|n+1,p,q=>lK (gF n) p q
noncomputable def fC(p q:W):W×Bool:=gF (Z1 p+Z1 q) p q
def ZR(e:W):Prop:=dZ e<=9000000000/\Ye e/\∃d,Z3 e d=Y
def ZGP(k:bP):Prop:=nA k<=9000000000/\nM k/\∃d,Z3 k.e d=Y
def qj(l:List bP):Prop:=gY l<=9000000000/\kG l/\∀k∈l,∃d,Z3 k.e d=Y
def uX(l:List Op):Prop:=fK l<=9000000000/\jQ l/\∀o∈l,∃V d,Zg V o d=Y
def zM(o:Op):Prop:=ZH o/\jT o<=9000000000/\Jt o/\(o.D=3->∃d,Z3 o.e d=Y)
structure yf(x:cm):Prop where
 of:x.of=0\/x.of=1\/x.of=2
 pp:x.of≠2->zM x.p
 qq:x.of≠1->zM x.q
 dF:x.of=0->x.p.D≠1/\x.q.D≠2/\Z4 x.p=Z4 x.q
end Go.AM
namespace Go.AM.YtpjenobkibfpcaaGreat
open Go.AM Go.Proofs
theorem pj{o r s d}(h0:o.D=0):dh (o::r) s d↔∃a s' d',s=a++s'/\d=a++d'/\(J a)=o.n/\dh r s' d':=by
 constructor
 .intro h;cases h<;>grind
 .rintro⟨a,s',d',rfl,rfl,h2,h3⟩;exact .bN h0 h2 h3
theorem Yy{o r s d}(h0:o.D=1):dh (o::r) s d↔∃a s',s=a++s'/\Z6 o.l=Z6 a/\dh r s' d:=by
 constructor
 .intro h;cases h<;>grind
 .rintro⟨a,s',rfl,h2,h3⟩;exact .gone h0 h2 h3
theorem YG{o r s d}(h0:o.D=2):dh (o::r) s d↔∃d',d=o.l++d'/\dh r s d':=by
 constructor
 .intro h;cases h<;>grind
 .rintro⟨d',rfl,h3⟩;exact .eD h0 h3
theorem ot{o r s d}(h0:o.D=3):dh (o::r) s d↔∃x s' y d',s=x::s'/\d=y::d'/\bX I o.e x=A y/\dh r s' d':=by
 constructor;.intro h;cases h<;>grind
 .rintro⟨x,s',y,d',rfl,rfl,h2,h3⟩;exact .dL h0 h2 h3
theorem uY{o p r}(h:∀s d,dh p s d↔dh r s d)(hk:j8 o)(s d):dh (o::p) s d↔dh (o::r) s d:=by rcases hk with h0|h1|h2|h3<;>simp_all[pj,Yy,YG,ot]
theorem Zx{o}(h:ZH o):j8 o:=by
 rcases h with h|h|h;.exact .inl ⟨h.1,O⟩
 .rcases h.1 with h1|h1;.exact .inr (.inl h1)
  .exact .inr (.inr (.inl h1))
 .exact .inr (.inr (.inr h.1))
theorem rL{o}(h:ZH o)(s:o.D=0):Z4 o=o.n:=by rcases h with h|h|h<;>grind[Z4]
theorem Yn{o}(h:ZH o)(s:o.D=1\/o.D=2):Z4 o=J o.l:=by rcases h with h|h|h<;>grind[Z4]
theorem Yk{o}(h:o.D=3):Z4 o=1:=by unfold Z4;rw[if_pos h]
theorem Rp{o r s m}(ho:ZH o)(hk:o.D≠1)(h:dh (o::r) s m):∃m1 s' m',m=m1++m'/\(J m1)=Z4 o/\dh r s' m':=by
 rcases Zx ho with h0|h1|h2|h3;.grind[pj,rL]
 .omega
 .grind[YG,Yn]
 .obtain⟨x,s',y,d',_,rfl,_,hr⟩:=(ot h3).1 h;exact⟨[y],s',d',rfl,by rw[Yk h3];rfl,hr⟩
theorem tY{o r m d}(ho:ZH o)(hk:o.D≠2)(h:dh (o::r) m d):∃m1 s d',m=m1++s/\(J m1)=Z4 o/\dh r s d':=by
 rcases Zx ho with h0|h1|h2|h3;.grind[pj,rL]
 .grind[Yy,Yn,At]
 .omega
 .obtain⟨x,s',y,d',rfl,_,_,hr⟩:=(ot h3).1 h;exact⟨[x],s',d',rfl,by rw[Yk h3];rfl,hr⟩
theorem ZzY{o r n}(ho:ZH o)(h1:1<=n)(hn:¬Z4 o<=n)(s d):dh (o::r) s d↔dh (ZD o n::iN o n::r) s d:=by
 unfold ZD iN;rw[Q0 hn];rcases Zx ho with h0|hg|L|hi
 .have hl:=rL ho h0.1;rw[Q5 h0.1,Q5 h0.1,pj h0.1,pj (o:=⟨o.D,n,o.l,o.e⟩) h0.1];constructor;.rintro⟨a,s',d',rfl,rfl,ha,h⟩;refine⟨a.take (G n),a.drop (G n)++s',a.drop (G n)++d',by rw[<-Qg,QM],by rw[<-Qg,QM],by grind,?_⟩<;>grind[pj]
  grind[pj]
 .have hl:=Yn ho (.inl hg);rw[Q0 O,Q0 O,Yy hg,Yy (o:=⟨o.D,o.n,o.l.take (G n),o.e⟩) hg];constructor
  .rintro⟨a,s',rfl,ha,h⟩;have al:=At ha;refine⟨a.take (G n),a.drop (G n)++s',by rw[<-Qg,QM],da.take ha _,?_⟩;exact(Yy (o:=⟨o.D,o.n,o.l.drop (G n),o.e⟩) hg).2 ⟨a.drop (G n),s',rfl,da.drop ha _,h⟩
  .rintro⟨a,s',rfl,ha,h⟩;obtain⟨b,s2,rfl,hb,ab⟩:=(Yy (o:=⟨o.D,o.n,o.l.drop (G n),o.e⟩) hg).1 h;refine⟨a++b,s2,by grind,?_,ab⟩;have:=rX ha hb;simp_all
 .rw[Q0 O,Q0 O,YG L,YG (o:=⟨o.D,o.n,o.l.take (G n),o.e⟩) L];constructor;.rintro⟨d',rfl,h⟩;refine⟨o.l.drop (G n)++d',by rw[<-Qg,QM],?_⟩<;>grind[YG]
  .rintro⟨d',rfl,h⟩;obtain⟨d2,rfl,ab⟩:=(YG (o:=⟨o.D,o.n,o.l.drop (G n),o.e⟩) L).1 h;grind[List.append_assoc,List.take_append_drop]
 .rw[Yk hi]at hn;omega
def jF:List cm->List Op|[]=>[]|x::r=>(if x.of=2 then[]else[x.p])++jF r
def jZ:List cm->List Op|[]=>[]|x::r=>(if x.of=1 then[]else[x.q])++jZ r
def dB(l:List Op)(o:Op):Prop:=∃o'∈l,o.D=o'.D/\o.e=o'.e/\Zy o<=Zy o'/\∀t∈o.l,t∈o'.l
structure nB(p q:List Op)(x:cm):Prop where
 of:x.of=0\/x.of=1\/x.of=2
 pp:x.of≠2->dB p x.p/\ZH x.p
 qq:x.of≠1->dB q x.q/\ZH x.q
 cE:x.of=1->x.p.D=1
 qP:x.of=2->x.q.D=2
 dF:x.of=0->x.p.D≠1/\x.q.D≠2/\Z4 x.p=Z4 x.q
 pn:x.of=2->x.p=Op.nil
 qn:x.of=1->x.q=Op.nil
theorem dB.mono{l l' o}(h:dB l o)(hl:∀x∈l,dB l' x):dB l' o:=by obtain⟨o',h1,h2,h3,h5,h4⟩:=h;obtain⟨o2,g1,g2,s,g5,g4⟩:=hl o' h1;exact⟨o2,g1,h2.trans g2,h3.trans s,QS h5 g5,λt ht=>g4 t (h4 t ht)⟩
theorem dB.g7{l o}(h:o∈l):dB l o:=⟨o,h,rfl,rfl,Qa _,λ_ h=>h⟩
theorem nB.mono{p q p' q' x}(h:nB p q x)(s:∀x∈p,dB p' x)(hq:∀x∈q,dB q' x):nB p' q' x:=⟨h.of,λe=>⟨(h.pp e).1.mono s,(h.pp e).2⟩,λe=>⟨(h.qq e).1.mono hq,(h.qq e).2⟩,h.cE,h.qP,h.dF,h.pn,h.qn⟩
theorem uV{o r n}(h:∀x∈o::r,ZH x)(h1:1<=n)(hn:n<=Z4 o):ZH (ZD o n)/\Z4 (ZD o n)=n/\(ZD o n).D=o.D/\dB (o::r) (ZD o n)/\(∀x∈ZP (o::r) n,ZH x/\dB (o::r) x)/\∀s d,dh (o::r) s d↔dh (ZD o n::ZP (o::r) n) s d:=by
 have ho:=h o Q6;have hr:∀x∈r,ZH x/\dB (o::r) x:=λx hx=>⟨h x (Q4 _ hx),dB.g7 (Q4 _ hx)⟩;unfold ZP;simp only[Qm,QE,X9];by_cases hl:Z4 o<=n;.grind[ZD,dB.g7]
 .rw[Q0 hl];obtain⟨_,v2,v3,v4⟩:=D4 (a:=1) ho h1 hl;obtain⟨b1,b2⟩:=Dq ho h1 hl;refine⟨v2,v3,Jy o n,?_,?_,ZzY ho h1 hl⟩;.refine⟨o,Q6,Jy o n,?_,v4,?_⟩<;>grind[Jy,ZD]
  .intro x hx;rcases Qe.1 hx with rfl|hx;.refine⟨b1,o,Q6,?_,?_,b2,?_⟩<;>grind[iN]
   .exact hr x hx
theorem ZF{d s}(h:dh [] s d):s=[]/\d=[]:=by cases h;grind
theorem yn:∀k(p q:List Op)bB,J p+J q<=k->(∀o∈p,ZH o)->(∀o∈q,ZH o)->((ZC 1 2 p q bB).2.1=Y->∃ps,(ZC 1 2 p q bB).1=bB++ps/\(∀x∈ps,nB p q x)/\(∀s m,dh p s m↔dh (jF ps) s m)/\∀m d,dh q m d↔dh (jZ ps) m d)/\((ZC 1 2 p q bB).2.1=I->∀s m d,dh p s m->dh q m d->False):=by intro k;induction k with
 |zero=>
  intro p q bB hk hp hq;have e1:p=[]:=Q7 O;have e2:q=[]:=Q7 O;subst e1 e2;have e:ZC 1 2 [] [] bB=(bB,Y,[],[]):=by rw[ZC,QC (by simp[gL]),QC (by simp[gL]),QW (by simp)];try rfl
  rw[e];exact⟨λ_=>⟨[],by simp,λx hx=>(by cases hx),λs m=>QH,λm d=>QH⟩,λh=>by cases h⟩|succ k ih=>
  intro p q bB hk hp hq;rw[ZC];by_cases h1:gL 1 p=Y;.rw[QW h1];obtain⟨g1,g2⟩:=YL.1 h1;cases p with
   |nil=>grind|cons a p'=>
    simp only[Qm]at g2;simp only[Qm,QE,X9];have ha:=hp a Q6;obtain⟨i1,i2⟩:=ih p' q (bB++[⟨1,a,Op.nil⟩]) (by grind) (λo ho=>hp o (Q4 _ ho)) hq;refine⟨λh=>?_,λh s m d r1 r2=>?_⟩
    .obtain⟨ps,e,ae,hP,hQ⟩:=i1 h;refine⟨⟨1,a,Op.nil⟩::ps,by grind,λx hx=>?_,λs m=>?_,λm d=>?_⟩
     .rcases Qe.1 hx with rfl|hx;.exact⟨.inr (.inl rfl),λ_=>⟨dB.g7 Q6,ha⟩,λe=>absurd rfl e,λ_=>g2,λe=>(by cases e),λe=>(by cases e),λe=>(by cases e),λ_=>rfl⟩
      .exact(ae x hx).mono (λx hx=>dB.g7 (Q4 _ hx)) λx hx=>dB.g7 hx
     .grind[jF,uY,Zx]
     .exact hQ m d
    grind[Yy]
  .rw[QC h1];by_cases h2:gL 2 q=Y;.rw[QW h2];obtain⟨g1,g2⟩:=YL.1 h2;cases q with
    |nil=>grind|cons a q'=>
     simp only[Qm]at g2;simp only[Qm,QE,X9];have ha:=hq a Q6;obtain⟨i1,i2⟩:=ih p q' (bB++[⟨2,Op.nil,a⟩]) (by grind) hp λo ho=>hq o (Q4 _ ho);refine⟨λh=>?_,λh s m d r1 r2=>?_⟩
     .obtain⟨ps,e,ae,hP,hQ⟩:=i1 h;refine⟨⟨2,Op.nil,a⟩::ps,by grind,λx hx=>?_,λs m=>?_,λm d=>?_⟩
      .rcases Qe.1 hx with rfl|hx;.exact⟨.inr (.inr rfl),λe=>absurd rfl e,λ_=>⟨dB.g7 Q6,ha⟩,λe=>(by cases e),λ_=>g2,λe=>(by cases e),λ_=>rfl,λe=>by cases e⟩
       .exact(ae x hx).mono (λx hx=>dB.g7 hx) λx hx=>dB.g7 (Q4 _ hx)
      .exact hP s m
      grind[jZ,uY,Zx]
     grind[YG]
   .rw[QC h2];by_cases h3:J p=0\/J q=0
    .rw[QW h3];by_cases h4:J p=0
     .have e1:p=[]:=Q7 h4;subst e1;by_cases h5:J q=0;.have e2:q=[]:=Q7 h5;subst e2;rw[Q5 rfl];exact⟨λ_=>⟨[],by simp,λx hx=>(by cases hx),λs m=>QH,λm d=>QH⟩,λh=>by cases h⟩
      .rw[Q0 (by grind)];refine⟨λh=>(by cases h),λ_ s m d r1 r2=>?_⟩;cases q with|nil=>exact h5 rfl|cons a q'=>have ha:=hq a Q6;obtain⟨_,rfl⟩:=ZF r1;obtain⟨m1,m',d',e,hl,_⟩:=tY ha (λe=>h2 (YL.2 ⟨by simp,by simpa using e⟩)) r2;have:=ZE ha;have e:=congrArg List.length e;grind
     .have h5:J q=0:=O;have e2:q=[]:=Q7 h5;subst e2;rw[Q0 (by grind)];refine⟨λh=>(by cases h),λ_ s m d r1 r2=>?_⟩;cases p with|nil=>exact h4 rfl|cons a p'=>have ha:=hp a Q6;obtain⟨rfl,_⟩:=ZF r2;obtain⟨m1,s',m',e,hl,_⟩:=Rp ha (λe=>h1 (YL.2 ⟨by simp,by simpa using e⟩)) r1;have:=ZE ha;have e:=congrArg List.length e;grind
    .rw[QC h3];cases p with|nil=>simp at h3|cons a p'=>cases q with|nil=>simp at h3|cons b q'=>
       have ha:=hp a Q6;have hb:=hq b Q6;have ka:a.D≠1:=λe=>h1 (YL.2 ⟨by simp,by simpa using e⟩);have kb:b.D≠2:=λe=>h2 (YL.2 ⟨by simp,by simpa using e⟩);have la:=ZE ha;have lb:=ZE hb;simp only[Qm];generalize hn:min (Z4 a) (Z4 b)=n;have am:1<=n:=O;have ay:n<=Z4 a:=O;have ax:n<=Z4 b:=O;obtain⟨a1,a2,a3,a4,a5,a6⟩:=uV hp am ay;obtain⟨b1,b2,b3,b4,b5,b6⟩:=uV hq am ax;have az:J (ZP (a::p') n)+J (ZP (b::q') n)<=k:=by
        have x1:=Yw (a::p') n (by simp);have x2:=Yw (b::q') n (by simp);simp only[Qd]at hk x1 x2;rcases KS (Z4 a) (Z4 b)with h|h;.have:=Yv (a::p') n (by simp) (by grind);grind
        .have:=Yv (b::q') n (by simp) (by grind);grind
       obtain⟨i1,i2⟩:=ih (ZP (a::p') n) (ZP (b::q') n) (bB++[⟨0,ZD a n,ZD b n⟩]) az (λo ho=>(a5 o ho).1) λo ho=>(b5 o ho).1;refine⟨λh=>?_,λh s m d r1 r2=>?_⟩
       .obtain⟨ps,e,ae,hP,hQ⟩:=i1 h;refine⟨⟨0,ZD a n,ZD b n⟩::ps,by grind,λx hx=>?_,λs m=>?_,λm d=>?_⟩
        .rcases Qe.1 hx with rfl|hx;.exact⟨.inl rfl,λ_=>⟨a4,a1⟩,λ_=>⟨b4,b1⟩,λe=>(by cases e),λe=>(by cases e),λ_=>⟨by grind,by grind,by grind⟩,λe=>(by cases e),λe=>by cases e⟩
         .exact(ae x hx).mono (λx hx=>(a5 x hx).2) λx hx=>(b5 x hx).2
        .rw[a6 s m];exact uY hP (Zx a1) s m
        .rw[b6 m d];exact uY hQ (Zx b1) m d
       .rw[a6]at r1;rw[b6]at r2;obtain⟨m1,s',m',e,hl,r3⟩:=Rp a1 O r1;obtain⟨m2,m3,d',e',bk,r4⟩:=tY b1 O r2;grind[List.append_inj]
theorem Hc{e d x y l}(hr:Z3 e d=Y)(he:Ye e)(hx:eL x)(hl:eL l)(h:bX I e x=A y)(hy:dG y l):∃z,bX I (Zd (Zm e)) l=A z/\dG z x:=by obtain⟨v,hv,ae⟩:=LH e d x y hr he hx h;have s:=tM (Zm e) d y l (Jn e d hr) hy;have h2:=oH (Zm e) d l (Jn e d hr) hl;rw[hv]at s;cases hw:bX I (Zm e) l with|none=>rw[hw]at s;exact s.elim|some w=>rw[hw]at s h2;cases hz:bX I (Zd (Zm e)) l with|none=>rw[hz]at h2;exact h2.elim|some z=>rw[hz]at h2;have s:dG v w:=s;have h2:dG z w:=h2;exact⟨z,rfl,h2.trans (s.symm.trans ae)⟩
theorem Zrp{e d x z l}(hr:Z3 e d=Y)(he:Ye e)(hl:eL l)(h:bX I (Zd (Zm e)) l=A z)(hz:dG z x):∃y,bX I e x=A y/\dG y l:=by have h2:=oH (Zm e) d l (Jn e d hr) hl;rw[h]at h2;cases hw:bX I (Zm e) l with|none=>rw[hw]at h2;exact h2.elim|some w=>rw[hw]at h2;have h2:dG z w:=h2;obtain⟨v,hv,ab⟩:=LH (Zm e) d l w (Jn e d hr) (CF e he) hl hw;rw[Sc]at hv;have s:=tM e d w x hr (h2.symm.trans hz);rw[hv]at s;cases hy:bX I e x with|none=>rw[hy]at s;exact s.elim|some y=>rw[hy]at s;have s:dG v y:=s;exact⟨y,rfl,s.symm.trans ab⟩
structure fR(c:W×Bool)(p q:W):Prop where
 W4:∀{t w},eL t->c.2=true->bX false c.1 t=some w->∃u v,bX false p t=some u/\bX false q u=some v/\dG w v
 Iu:∀{t u v},eL t->bX false p t=some u->bX false q u=some v->c.2=true/\∃w,bX false c.1 t=some w/\dG w v
def qG(o:Op):Prop:=(o.D=3->(∃d,Z3 o.e d=Y)/\Ye o.e)/\∀t∈o.l,eL t
theorem Dg{o r s d}(hk:j8 o):dh (o::r) s d↔∃s1 s2 d1 d2,s=s1++s2/\d=d1++d2/\dh [o] s1 d1/\dh r s2 d2:=by
 constructor
 .intro h;rcases hk with h0|h1|h2|h3
  .obtain⟨a,s',d',rfl,rfl,hl,hr⟩:=(pj h0.1).1 h;exact⟨a,s',a,d',rfl,rfl,(pj h0.1).2 ⟨a,[],[],by simp,by simp,hl,.nil⟩,hr⟩
  .obtain⟨a,s',rfl,hl,hr⟩:=(Yy h1).1 h;exact⟨a,s',[],d,rfl,rfl,(Yy h1).2 ⟨a,[],by simp,hl,.nil⟩,hr⟩
  .obtain⟨d',rfl,hr⟩:=(YG h2).1 h;exact⟨[],s,o.l,d',rfl,rfl,(YG h2).2 ⟨[],by simp,.nil⟩,hr⟩
  .obtain⟨x,s',y,d',rfl,rfl,he,hr⟩:=(ot h3).1 h;exact⟨[x],s',[y],d',rfl,rfl,.dL h3 he .nil,hr⟩
 .rintro⟨s1,s2,d1,d2,rfl,rfl,h1,h2⟩;rcases hk with h0|hg|L|h3;.obtain⟨a,s',d',rfl,rfl,hl,hr⟩:=(pj h0.1).1 h1;obtain⟨rfl,rfl⟩:=ZF hr;rw[Qj];exact .bN h0.1 hl h2
  .obtain⟨a,s',rfl,hl,hr⟩:=(Yy hg).1 h1;obtain⟨rfl,rfl⟩:=ZF hr;rw[Qj];exact .gone hg hl h2
  .obtain⟨d',rfl,hr⟩:=(YG L).1 h1;obtain⟨rfl,rfl⟩:=ZF hr;rw[Qj];exact .eD L h2
  .obtain⟨x,s',y,d',rfl,rfl,he,hr⟩:=(ot h3).1 h1;obtain⟨rfl,rfl⟩:=ZF hr;exact .dL h3 he h2
theorem Ip{o s d}(ho:ZH o)(hk:o.D≠1)(h:dh [o] s d):(J d)=Z4 o:=by grind[Rp,ZF]
theorem Nv{o s d}(ho:ZH o)(hk:o.D≠2)(h:dh [o] s d):(J s)=Z4 o:=by grind[tY,ZF]
theorem uB{o s}(h:o.D=0)(hl:( J s:Int)=o.n):dh [o] s s:=(pj h).2 ⟨s,[],[],by simp,by simp,hl,.nil⟩
theorem Gs{o s d}(h0:o.D=0)(h:dh [o] s d):d=s:=by grind[pj,ZF]
theorem CU{l}(h:( J l:Int)=1):l=[aR l 0 H.nil]:=by match l,h with|[a],_=>rfl|[],h=>simp at h|a::b::r,h=>grind
theorem GF{a b c d}(h:da a b)(s:da c d):da (a++c) (b++d):=rX h s
theorem ZAe{f p0 q0 x}(hx:nB p0 q0 x)(hp:x.of≠2->qG x.p)(hq:x.of≠1->qG x.q)(hf:x.p.D=3->x.q.D=3->x.of=0->fR (f x.p.e x.q.e) x.p.e x.q.e){s w}(hs:∀t∈s,eL t)(aa:(Zw f x).ok=Y)(hr:dh (if(Zw f x).is then[(Zw f x).op]else[]) s w):∃m d,dh (if x.of=2 then[]else[x.p]) s m/\dh (if x.of=1 then[]else[x.q]) m d/\da w d:=by
 rcases hx.of with h0|h1|h2
 .obtain⟨pk,qk,hl⟩:=hx.dF h0;obtain⟨_,op⟩:=hx.pp O;obtain⟨_,oq⟩:=hx.qq O;have rp:=hp O;have rq:=hq O;rw[Q0 O,Q0 O];by_cases kq0:x.q.D=0
  .have e:Zw f x=⟨x.p,Y,Y⟩:=by unfold Zw;grind
   rw[e]at hr;exact⟨w,w,hr,uB kq0 (by grind[Ip,rL]),rfl⟩
  by_cases kp0:x.p.D=0
  .have e:Zw f x=⟨x.q,Y,Y⟩:=by unfold Zw;grind
   rw[e]at hr;exact⟨s,w,uB kp0 (by grind[Nv,rL]),hr,rfl⟩
  by_cases k21:x.p.D=2/\x.q.D=1
  .have lp:=Yn op (.inr k21.1);have lq:=Yn oq (.inl k21.2);have e:Zw f x=⟨Op.nil,I,gw x.p.l (x.q.l.take (J x.p.l))⟩:=by unfold Zw;rw[V5,V5,if_pos k21]
   rw[e]at hr aa;obtain⟨rfl,rfl⟩:=ZF hr;have aa:gw x.p.l (x.q.l.take (J x.p.l))=Y:=aa;unfold gw at aa;rw[Yz,Qy O]at aa;exact⟨x.p.l,[],(YG k21.1).2 ⟨[],by simp,.nil⟩,(Yy k21.2).2 ⟨x.p.l,[],by simp,aa.symm,.nil⟩,rfl⟩
  by_cases kp2:x.p.D=2
  .have ah:x.q.D=3:=by rcases Zx oq with h|h|h|h<;>omega
   have lp:=Yn op (.inr kp2);rw[hl,Yk ah]at lp;have e:Zw f x=⟨⟨2,0,[(dX x.q.e (aR x.p.l 0 H.nil)).1],W.nil⟩,Y,(dX x.q.e (aR x.p.l 0 H.nil)).2⟩:=by unfold Zw;rw[V5,V5,if_neg k21,if_pos kp2]
   rw[e]at hr aa;have a4:=CU lp.symm;cases hy:bX I x.q.e (aR x.p.l 0 H.nil)with|none=>unfold dX at aa;grind|some y=>
    have e2:(dX x.q.e (aR x.p.l 0 H.nil)).1=Z2 y:=by unfold dX;rw[hy];try rfl
    rw[e2]at hr;obtain⟨d',rfl,ab⟩:=(YG (o:=⟨2,0,[Z2 y],W.nil⟩) rfl).1 hr;obtain⟨rfl,rfl⟩:=ZF ab;refine⟨[aR x.p.l 0 H.nil],[y],(YG kp2).2 ⟨[],by grind,.nil⟩,.dL ah hy .nil,?_⟩;show Z6 ([Z2 y]++[])=Z6 [y];simp[Z6,ZY]
  have af:x.p.D=3:=by rcases Zx op with h|h|h|h<;>omega
  by_cases kq1:x.q.D=1
  .have lq:=Yn oq (.inl kq1);rw[<-hl,Yk af]at lq;have e:Zw f x=⟨⟨1,0,[(dX (Zd (Zm x.p.e)) (aR x.q.l 0 H.nil)).1],W.nil⟩,Y,(dX (Zd (Zm x.p.e)) (aR x.q.l 0 H.nil)).2⟩:=by unfold Zw;rw[V5,V5,if_neg k21,if_neg kp2,if_pos kq1]
   rw[e]at hr aa;have ak:=CU lq.symm;have ar:eL (aR x.q.l 0 H.nil):=rq.2 _ (by rw[ak];simp);cases hz:bX I (Zd (Zm x.p.e)) (aR x.q.l 0 H.nil)with|none=>unfold dX at aa;grind|some z=>
    have e2:(dX (Zd (Zm x.p.e)) (aR x.q.l 0 H.nil)).1=Z2 z:=by unfold dX;rw[hz];try rfl
    rw[e2]at hr;obtain⟨a,s',rfl,hn,ab⟩:=(Yy (o:=⟨1,0,[Z2 z],W.nil⟩) rfl).1 hr;obtain⟨rfl,rfl⟩:=ZF ab;have a1:=At hn;have aj:=CU (l:=a) (by grind);rw[aj]at hn;have au:dG z (aR a 0 H.nil):=by have:=pg.1 hn;unfold dG;rw[<-this,ZY]
    obtain⟨⟨dd,rd⟩,re⟩:=rp.1 af;obtain⟨y,hy,av⟩:=Zrp rd re ar hz au;refine⟨[y],[],?_,?_,rfl⟩;.rw[Qj,aj];exact .dL af hy .nil
    .refine(Yy kq1).2 ⟨[y],[],by simp,?_,.nil⟩;rw[ak];exact(pg.2 av).symm
  .have ah:x.q.D=3:=by rcases Zx oq with h|h|h|h<;>omega
   have e:Zw f x=⟨⟨3,0,[],(f x.p.e x.q.e).1⟩,Y,(f x.p.e x.q.e).2⟩:=by unfold Zw;grind
   rw[e]at hr aa;obtain⟨x0,s',y0,d',rfl,rfl,hd,ab⟩:=(ot (o:=⟨3,0,[],(f x.p.e x.q.e).1⟩) rfl).1 hr;obtain⟨rfl,rfl⟩:=ZF ab;obtain⟨u,v,hu,hv,hw⟩:=(hf af ah h0).W4 (hs x0 (by simp)) aa hd;exact⟨[u],[v],.dL af hu .nil,.dL ah hv .nil,pg.2 hw⟩
 .have e:Zw f x=⟨x.p,Y,Y⟩:=by unfold Zw;grind
  rw[e]at hr;rw[Q0 O,Q5 h1];obtain⟨a,s',rfl,hn,ab⟩:=(Yy (hx.cE h1)).1 hr;obtain⟨rfl,rfl⟩:=ZF ab;exact⟨[],[],(Yy (hx.cE h1)).2 ⟨a,[],rfl,hn,.nil⟩,.nil,rfl⟩
 .have e:Zw f x=⟨x.q,Y,Y⟩:=by unfold Zw;grind
  rw[e]at hr;rw[Q5 h2,Q0 O];obtain⟨d',rfl,ab⟩:=(YG (hx.qP h2)).1 hr;obtain⟨rfl,rfl⟩:=ZF ab;exact⟨[],_,.nil,(YG (hx.qP h2)).2 ⟨[],rfl,.nil⟩,rfl⟩
theorem ZAf{f p0 q0 x}(hx:nB p0 q0 x)(hp:x.of≠2->qG x.p)(hq:x.of≠1->qG x.q)(hf:x.p.D=3->x.q.D=3->x.of=0->fR (f x.p.e x.q.e) x.p.e x.q.e){s m d}(hs:∀t∈s,eL t)(ab:dh (if x.of=2 then[]else[x.p]) s m)(aa:dh (if x.of=1 then[]else[x.q]) m d):(Zw f x).ok=Y/\∃w,dh (if(Zw f x).is then[(Zw f x).op]else[]) s w/\da w d:=by
 rcases hx.of with h0|h1|h2
 .obtain⟨pk,qk,hl⟩:=hx.dF h0;obtain⟨_,op⟩:=hx.pp O;obtain⟨_,oq⟩:=hx.qq O;have rp:=hp O;have rq:=hq O;rw[Q0 O]at ab aa;by_cases kq0:x.q.D=0
  .have e:Zw f x=⟨x.p,Y,Y⟩:=by unfold Zw;grind
   rw[e];have:=Gs kq0 aa;subst this;exact⟨rfl,d,ab,rfl⟩
  by_cases kp0:x.p.D=0
  .have e:Zw f x=⟨x.q,Y,Y⟩:=by unfold Zw;grind
   rw[e];have:=Gs kp0 ab;subst this;exact⟨rfl,d,aa,rfl⟩
  by_cases k21:x.p.D=2/\x.q.D=1
  .have lp:=Yn op (.inr k21.1);have lq:=Yn oq (.inl k21.2);have e:Zw f x=⟨Op.nil,I,gw x.p.l (x.q.l.take (J x.p.l))⟩:=by unfold Zw;rw[V5,V5,if_pos k21]
   rw[e];obtain⟨d',rfl,ae⟩:=(YG k21.1).1 ab;obtain⟨rfl,rfl⟩:=ZF ae;rw[Qj]at aa;obtain⟨a,s',ha,hn,ah⟩:=(Yy k21.2).1 aa;obtain⟨rfl,rfl⟩:=ZF ah;rw[Qj]at ha;subst ha;refine⟨?_,[],.nil,rfl⟩;show gw x.p.l (x.q.l.take (J x.p.l))=Y;unfold gw;rw[Yz,Qy O];exact hn.symm
  by_cases kp2:x.p.D=2
  .have af:x.q.D=3:=by rcases Zx oq with h|h|h|h<;>omega
   have lp:=Yn op (.inr kp2);rw[hl,Yk af]at lp;have e:Zw f x=⟨⟨2,0,[(dX x.q.e (aR x.p.l 0 H.nil)).1],W.nil⟩,Y,(dX x.q.e (aR x.p.l 0 H.nil)).2⟩:=by unfold Zw;rw[V5,V5,if_neg k21,if_pos kp2]
   rw[e];have az:=CU lp.symm;obtain⟨d',rfl,ae⟩:=(YG kp2).1 ab;obtain⟨rfl,rfl⟩:=ZF ae;rw[Qj,az]at aa;obtain⟨x0,s',y0,d',e1,rfl,hd,ae⟩:=(ot af).1 aa;cases e1;obtain⟨_,rfl⟩:=ZF ae;have e2:dX x.q.e (aR x.p.l 0 H.nil)=(Z2 y0,Y):=by unfold dX;rw[hd];try rfl
   rw[e2];refine⟨rfl,[Z2 y0],(YG (o:=⟨2,0,[Z2 y0],W.nil⟩) rfl).2 ⟨[],by simp,.nil⟩,?_⟩;exact pg.2 (ZY y0)
  have ai:x.p.D=3:=by rcases Zx op with h|h|h|h<;>omega
  obtain⟨x0,s',y0,d',rfl,rfl,hd,ae⟩:=(ot ai).1 ab;obtain⟨rfl,rfl⟩:=ZF ae;have am:=hs x0 (by simp);obtain⟨⟨dd,rd⟩,re⟩:=rp.1 ai;by_cases kq1:x.q.D=1
  .have lq:=Yn oq (.inl kq1);rw[<-hl,Yk ai]at lq;have e:Zw f x=⟨⟨1,0,[(dX (Zd (Zm x.p.e)) (aR x.q.l 0 H.nil)).1],W.nil⟩,Y,(dX (Zd (Zm x.p.e)) (aR x.q.l 0 H.nil)).2⟩:=by unfold Zw;rw[V5,V5,if_neg k21,if_neg kp2,if_pos kq1]
   rw[e];have ak:=CU lq.symm;have ax:eL (aR x.q.l 0 H.nil):=rq.2 _ (by rw[ak];simp);obtain⟨a,s2,ha,hn,ah⟩:=(Yy kq1).1 aa;obtain⟨rfl,rfl⟩:=ZF ah;rw[Qj]at ha;subst ha;rw[ak]at hn;obtain⟨z,hz,a1⟩:=Hc rd re am ax hd (pg.1 hn).symm;have e2:dX (Zd (Zm x.p.e)) (aR x.q.l 0 H.nil)=(Z2 z,Y):=by unfold dX;rw[hz];try rfl
   rw[e2];refine⟨rfl,[],(Yy (o:=⟨1,0,[Z2 z],W.nil⟩) rfl).2 ⟨[x0],[],by simp,?_,.nil⟩,rfl⟩;refine pg.2 ?_;rw[ZY];exact a1
  .have af:x.q.D=3:=by rcases Zx oq with h|h|h|h<;>omega
   have e:Zw f x=⟨⟨3,0,[],(f x.p.e x.q.e).1⟩,Y,(f x.p.e x.q.e).2⟩:=by unfold Zw;grind
   rw[e];obtain⟨x1,s2,y1,d2,e1,rfl,a2,ah⟩:=(ot af).1 aa;cases e1;obtain⟨_,rfl⟩:=ZF ah;obtain⟨c2,w,hw,av⟩:=(hf ai af h0).Iu am hd a2;exact⟨c2,[w],(ot (o:=⟨3,0,[],(f x.p.e x.q.e).1⟩) rfl).2 ⟨x0,[],w,[],rfl,rfl,hw,.nil⟩,pg.2 av⟩
 .have e:Zw f x=⟨x.p,Y,Y⟩:=by unfold Zw;grind
  rw[Q0 O]at ab;rw[Q5 h1]at aa;rw[e];obtain⟨rfl,rfl⟩:=ZF aa;exact⟨rfl,[],ab,rfl⟩
 .have e:Zw f x=⟨x.q,Y,Y⟩:=by unfold Zw;grind
  rw[Q5 h2]at ab;rw[Q0 O]at aa;rw[e];obtain⟨rfl,rfl⟩:=ZF ab;exact⟨rfl,d,aa,rfl⟩
theorem xI:∀{a b s d},(∀o∈a,j8 o)->(dh (a++b) s d↔∃s1 s2 d1 d2,s=s1++s2/\d=d1++d2/\dh a s1 d1/\dh b s2 d2)
 |[],b,s,d,_=>by
  constructor;.intro h;exact⟨[],s,[],d,rfl,rfl,.nil,h⟩
  grind[ZF]|o::a,b,s,d,hk=>by
  have ho:=hk o Q6;have ih:=λs d=>xI (a:=a) (b:=b) (s:=s) (d:=d) λx hx=>hk x (Q4 _ hx);rw[Qw,Dg ho];constructor;.rintro⟨s1,s2,d1,d2,rfl,rfl,h1,h2⟩;obtain⟨s3,s4,d3,d4,rfl,rfl,h3,h4⟩:=(ih _ _).1 h2;exact⟨s1++s3,s4,d1++d3,d4,by grind,by grind,(Dg ho).2 ⟨s1,s3,d1,d3,rfl,rfl,h1,h3⟩,h4⟩
  .rintro⟨s1,s2,d1,d2,rfl,rfl,h1,h2⟩;obtain⟨s3,s4,d3,d4,rfl,rfl,h3,h4⟩:=(Dg ho).1 h1;exact⟨s3,s4++s2,d3,d4++d2,by grind,by grind,h3,(ih _ _).2 ⟨s4,s2,d4,d2,rfl,rfl,h4,h2⟩⟩
theorem Pl{f p0 q0 x}(s:nB p0 q0 x):j8 (Zw f x).op:=by
 unfold Zw;split;.rename_i h;exact Zx (s.pp O).2
 .split;.rename_i h1 h2;refine Zx (s.qq ?_).2;omega
  .split;.exact .inl ⟨rfl,Qz 0⟩
   .split;.exact .inr (.inr (.inl rfl))
    .split;.exact .inr (.inl rfl)
     .exact .inr (.inr (.inr rfl))
theorem Zkj{f p0 q0}:∀{ps ops s w},(∀x∈ps,nB p0 q0 x)->(∀x∈ps,(x.of≠2->qG x.p)/\(x.of≠1->qG x.q))->(∀x∈ps,x.p.D=3->x.q.D=3->x.of=0->fR (f x.p.e x.q.e) x.p.e x.q.e)->(∀t∈s,eL t)->iz f ps=A ops->dh ops s w->∃m d,dh (jF ps) s m/\dh (jZ ps) m d/\da w d
 |[],ops,s,w,_,_,_,_,h,hr=>by
  cases h;obtain⟨rfl,rfl⟩:=ZF hr;exact⟨[],[],.nil,.nil,rfl⟩|x::r,ops,s,w,hx,hp,hf,hs,h,hr=>by
  rw[iz]at h;split at h
  .rename_i ai;obtain⟨l,hl,rfl⟩:=Qf.1 h;have ab:=hx x Q6;have hk:∀o∈if(Zw f x).is then[(Zw f x).op]else[],j8 o:=by
    intro o ho;split at ho;.rw[Qs.1 ho];exact Pl ab
    .cases ho
   obtain⟨s1,s2,w1,w2,rfl,rfl,r1,r2⟩:=(xI hk).1 hr;obtain⟨m1,d1,a1,a2,a3⟩:=ZAe ab (hp x Q6).1 (hp x Q6).2 (hf x Q6) (λt ht=>hs t (Xc _ ht)) ai r1;obtain⟨m2,d2,b1,b2,b3⟩:=Zkj (λy hy=>hx y (Q4 _ hy)) (λy hy=>hp y (Q4 _ hy)) (λy hy=>hf y (Q4 _ hy)) (λt ht=>hs t (Xo _ ht)) hl r2;refine⟨m1++m2,d1++d2,?_,?_,GF a3 b3⟩
   .refine(xI ?_).2 ⟨s1,s2,m1,m2,rfl,rfl,a1,b1⟩;intro o ho;split at ho;.cases ho
    .rw[Qs.1 ho];exact Zx (ab.pp (by assumption)).2
   .refine(xI ?_).2 ⟨m1,m2,d1,d2,rfl,rfl,a2,b2⟩;intro o ho;split at ho;.cases ho
    .rw[Qs.1 ho];exact Zx (ab.qq (by assumption)).2
  .cases h
theorem Zkk{f p0 q0}:∀{ps s m d},(∀x∈ps,nB p0 q0 x)->(∀x∈ps,(x.of≠2->qG x.p)/\(x.of≠1->qG x.q))->(∀x∈ps,x.p.D=3->x.q.D=3->x.of=0->fR (f x.p.e x.q.e) x.p.e x.q.e)->(∀t∈s,eL t)->dh (jF ps) s m->dh (jZ ps) m d->∃ops w,iz f ps=A ops/\dh ops s w/\da w d
 |[],s,m,d,_,_,_,_,h1,h2=>by obtain⟨rfl,rfl⟩:=ZF h1;obtain⟨_,rfl⟩:=ZF h2;exact⟨[],[],rfl,.nil,rfl⟩|x::r,s,m,d,hx,hp,hf,hs,h1,h2=>by
  have h:=hx x Q6;have kp:∀o∈if x.of=2 then[]else[x.p],j8 o:=by
   intro o ho;split at ho;.cases ho
   .rw[Qs.1 ho];exact Zx (h.pp (by assumption)).2
  have kq:∀o∈if x.of=1 then[]else[x.q],j8 o:=by
   intro o ho;split at ho;.cases ho
   .rw[Qs.1 ho];exact Zx (h.qq (by assumption)).2
  obtain⟨s1,s2,m1,m2,rfl,rfl,a1,a2⟩:=(xI kp).1 h1;obtain⟨m3,m4,d1,d2,hm,rfl,b1,b2⟩:=(xI kq).1 h2;have ah:J m1=J m3:=by
   rcases h.of with h0|g1|g2;.obtain⟨pk,qk,hl⟩:=h.dF h0;rw[Q0 O]at a1 b1;have:=Ip (h.pp O).2 pk a1;have:=Nv (h.qq O).2 qk b1;omega
   .rw[Q0 O]at a1;rw[Q5 g1]at b1;obtain⟨a,s',rfl,hn,ai⟩:=(Yy (h.cE g1)).1 a1;grind[ZF]
   .rw[Q5 g2]at a1;rw[Q0 O]at b1;obtain⟨_,rfl⟩:=ZF a1;obtain⟨d',rfl,ai⟩:=(YG (h.qP g2)).1 b1;grind[ZF]
  obtain⟨rfl,rfl⟩:=Ke hm ah;obtain⟨av,w1,c1,c2⟩:=ZAf h (hp x Q6).1 (hp x Q6).2 (hf x Q6) (λt ht=>hs t (Xc _ ht)) a1 b1;obtain⟨ops,w2,e1,e2,e3⟩:=Zkk (λy hy=>hx y (Q4 _ hy)) (λy hy=>hp y (Q4 _ hy)) (λy hy=>hf y (Q4 _ hy)) (λt ht=>hs t (Xo _ ht)) a2 b2;refine⟨(if(Zw f x).is then[(Zw f x).op]else[])++ops,w1++w2,?_,?_,GF c2 e3⟩<;>grind[Zw,GF,iz,xI,Pl]
section
variable{β:Type}{S:β->Int}{cE:β->β->β×Bool}
structure Fi(S:β->Int)(cE:β->β->β×Bool)(last:Int)(p q aB:List β):Prop where
 oU:dM S last aB
 of:∀x∈aB,(x∈p/\∀b∈q,S b≠S x)\/(x∈q/\∀a∈p,S a≠S x)\/∃a∈p,∃b∈q,S a=S b/\(cE a b).2=true/\x=(cE a b).1
 left:∀a∈p,(∀b∈q,S b≠S a)->a∈aB
 right:∀b∈q,(∀a∈p,S a≠S b)->b∈aB
 dF:∀a∈p,∀b∈q,S a=S b->(cE a b).2=true/\(cE a b).1∈aB
theorem DJ(ar:∀a b,S a=S b->(cE a b).2=Y->S (cE a b).1=S a):∀k(p q:List β)ab,J p+J q<=k->dM S ab p->dM S ab q->(Zk S cE p q=aT->∃a∈p,∃b∈q,S a=S b/\(cE a b).2=I)/\∀aB,Zk S cE p q=A aB->Fi S cE ab p q aB:=by
 intro k;induction k with
 |zero=>
  intro p q ab hk hp hq;have e1:p=[]:=Q7 O;have e2:q=[]:=Q7 O;subst e1 e2;rw[Zk];refine⟨λh=>(by cases h),λaB h=>?_⟩;cases h;exact⟨trivial,λx s=>(by cases s),λa ha=>(by cases ha),λa ha=>(by cases ha),λa ha=>by cases ha⟩|succ k ih=>
  intro p q ab hk hp hq;match p,q with
  |[],q=>rw[Zk];refine⟨λh=>(by cases h),λaB h=>?_⟩;cases h;exact⟨hq,λx s=>.inr (.inl ⟨s,λa ha=>by cases ha⟩),λa ha=>(by cases ha),λb hb _=>hb,λa ha=>by cases ha⟩|a::p,[]=>
   rw[Zk];refine⟨λh=>(by cases h),λaB h=>?_⟩;cases h;exact⟨hp,λx s=>.inl ⟨s,λa ha=>by cases ha⟩,λb hb _=>hb,λa ha=>(by cases ha),λa _ b hb=>by cases hb⟩|a::p,b::q=>
   have gp:=λx s=>lf hp.2 x s;have gq:=λx s=>lf hq.2 x s;simp only[Qd]at hk;rw[Zk];by_cases h1:S a<S b
   .rw[Q5 h1];obtain⟨i1,i2⟩:=ih p (b::q) (S a) (by grind) hp.2 ⟨h1,hq.2⟩;refine⟨λh=>?_,λaB h=>?_⟩;.simp_all
    .obtain⟨L',hL,rfl⟩:=Qf.1 h;have aE:=i2 L' hL;have na:∀y∈b::q,S y≠S a:=by
      intro y hy;rcases Qe.1 hy with rfl|hy;.omega
      .have:=gq y hy;omega
     refine⟨⟨hp.1,aE.oU⟩,λx s=>?_,λx s hn=>?_,λy hy hn=>?_,λx s y hy e=>?_⟩
     .rcases Qe.1 s with rfl|s;.grind
      .rcases aE.of x s with⟨h2,h3⟩|⟨h2,h3⟩|⟨c,L,d,hd,h2⟩;.grind
       .grind
       .exact .inr (.inr ⟨c,Q4 _ L,d,hd,h2⟩)
     .rcases Qe.1 s with rfl|s;.grind
      .exact Q4 _ (aE.left x s hn)
     .exact Q4 _ (aE.right y hy λc L=>hn c (Q4 _ L))
     .rcases Qe.1 s with rfl|s;.grind
      .obtain⟨h2,h3⟩:=aE.dF x s y hy e;grind
   .rw[Q0 h1];by_cases h2:S b<S a
    .rw[Q5 h2];obtain⟨i1,i2⟩:=ih (a::p) q (S b) (by grind) ⟨h2,hp.2⟩ hq.2;refine⟨λh=>?_,λaB h=>?_⟩;.rw[Option.map_eq_none_iff]at h;obtain⟨x,s,y,hy,e⟩:=i1 h;exact⟨x,s,y,Q4 _ hy,e⟩
     .obtain⟨L',hL,rfl⟩:=Qf.1 h;have aE:=i2 L' hL;have nb:∀y∈a::p,S y≠S b:=by
       intro y hy;rcases Qe.1 hy with rfl|hy;.omega
       .have:=gp y hy;omega
      refine⟨⟨hq.1,aE.oU⟩,λx s=>?_,λx s hn=>?_,λy hy hn=>?_,λx s y hy e=>?_⟩
      .rcases Qe.1 s with rfl|s;.grind
       .rcases aE.of x s with⟨h3,h4⟩|⟨h3,h4⟩|⟨c,L,d,hd,h3⟩;.grind
        .grind
        .exact .inr (.inr ⟨c,L,d,Q4 _ hd,h3⟩)
      .exact Q4 _ (aE.left x s λc L=>hn c (Q4 _ L))
      .rcases Qe.1 hy with rfl|hy;.grind
       .exact Q4 _ (aE.right y hy hn)
      .rcases Qe.1 hy with rfl|hy;.grind
       .obtain⟨h3,h4⟩:=aE.dF x s y hy e;grind
    .rw[Q0 h2];have e0:S a=S b:=O;by_cases h3:(cE a b).2=Y
     .rw[Q5 h3];obtain⟨i1,i2⟩:=ih p q (S a) O hp.2 (by rw[e0];exact hq.2);refine⟨λh=>?_,λaB h=>?_⟩
      .rw[Option.map_eq_none_iff]at h;obtain⟨x,s,y,hy,e⟩:=i1 h;exact⟨x,Q4 _ s,y,Q4 _ hy,e⟩
      .obtain⟨L',hL,rfl⟩:=Qf.1 h;have aE:=i2 L' hL;have ao:=ar a b e0 h3;have na:∀y∈q,S y≠S a:=λy hy=>by grind
       have nb:∀y∈p,S y≠S b:=λy hy=>by grind
       refine⟨⟨by rw[ao];exact hp.1,by rw[ao];exact aE.oU⟩,λx s=>?_,λx s hn=>?_,λy hy hn=>?_,λx s y hy e=>?_⟩
       .rcases Qe.1 s with rfl|s;.simp_all
        .rcases aE.of x s with⟨h4,h5⟩|⟨h4,h5⟩|⟨c,L,d,hd,h4⟩;.refine .inl ⟨Q4 _ h4,λc L=>?_⟩;grind
         .refine .inr (.inl ⟨Q4 _ h4,λc L=>?_⟩);grind
         .exact .inr (.inr ⟨c,Q4 _ L,d,Q4 _ hd,h4⟩)
       .rcases Qe.1 s with rfl|s;.simp_all
        .exact Q4 _ (aE.left x s λc L=>hn c (Q4 _ L))
       .rcases Qe.1 hy with rfl|hy;.simp_all
        .exact Q4 _ (aE.right y hy λc L=>hn c (Q4 _ L))
       .rcases Qe.1 s with rfl|s;.grind
        .rcases Qe.1 hy with rfl|hy;.grind
         .obtain⟨h4,h5⟩:=aE.dF x s y hy e;grind
     simp_all
variable{α:Type}{z:α}{F:β->α->Option α}{R:α->α->Prop}
def gj(z:α)(F:β->α->Option α)(S:β->Int)(l:List α)(w:β):Option α:=F w (aR l (G (S w)) z)
theorem v_{s}(hl:-1<=s){l}(h:dM S s l):∀w∈l,0<=S w:=λw hw=>by have:=lf h w hw;omega
theorem P6(ae:∀a b,S a=S b->(cE a b).2=Y->S (cE a b).1=S a)(Rr:∀x,R x x){p q aB l r}(hp:dM S (-1) p)(hq:dM S (-1) q)(hf:∀a∈p,∀b∈q,S a=S b->∀w,(cE a b).2=Y->F (cE a b).1 (aR l (G (S a)) z)=A w->∃u v,F a (aR l (G (S a)) z)=A u/\F b u=A v/\R w v)(h:Zk S cE p q=A aB)(hr:mg z (gj z F S l) S aB l=A r):∃r1 r2,mg z (gj z F S l) S p l=A r1/\mg z (gj z F S r1) S q r1=A r2/\∀i,R (aR r i z) (aR r2 i z):=by
 have aE:=(DJ ae _ p q (-1) (Qa _) hp hq).2 aB h;obtain⟨g1,g2⟩:=kJ O aE.oU hr;have np:=v_ V1 hp;have nq:=v_ V1 hq;have k1:∀a∈p,∃u,gj z F S l a=A u:=by
  intro a ha;by_cases hb:∃b∈q,S b=S a
  .obtain⟨b,hb,e⟩:=hb;obtain⟨c1,c2⟩:=aE.dF a ha b hb e.symm;obtain⟨v,hv,_⟩:=g1 _ c2;unfold gj at hv;rw[ae a b e.symm c1]at hv;obtain⟨u,_,hu,_⟩:=hf a ha b hb e.symm v c1 hv;exact⟨u,hu⟩
  .obtain⟨v,hv,_⟩:=g1 a (aE.left a ha λb aj e=>hb ⟨b,aj,e⟩);exact⟨v,hv⟩
 obtain⟨r1,h1⟩:=yW (z:=z) (p:=S) (bB:=l) (f:=gj z F S l) k1;obtain⟨a1,a2⟩:=kJ O hp h1;have k2:∀b∈q,∃v,gj z F S r1 b=A v:=by
  intro b hb;by_cases ha:∃a∈p,S a=S b
  .obtain⟨a,ha,e⟩:=ha;obtain⟨c1,c2⟩:=aE.dF a ha b hb e;obtain⟨w,hw,_⟩:=g1 _ c2;unfold gj at hw;rw[ae a b e c1]at hw;obtain⟨u,v,hu,hv,_⟩:=hf a ha b hb e w c1 hw;obtain⟨u',ah,e'⟩:=a1 a ha;unfold gj at ah;rw[hu]at ah;cases ah;unfold gj;rw[<-e,e'];exact⟨v,hv⟩
  .obtain⟨v,hv,_⟩:=g1 b (aE.right b hb λa s e=>ha ⟨a,s,e⟩);refine⟨v,?_⟩;unfold gj at hv⊢;rw[a2 _ λa s e=>ha ⟨a,s,by have:=np a s;have:=nq b hb;omega⟩];exact hv
 obtain⟨r2,h2⟩:=yW (z:=z) (p:=S) (bB:=r1) (f:=gj z F S r1) k2;obtain⟨b1,b2⟩:=kJ O hq h2;refine⟨r1,r2,h1,h2,λi=>?_⟩;by_cases hb:∃b∈q,G (S b)=i
 .obtain⟨b,hb,rfl⟩:=hb;obtain⟨v,hv,e2⟩:=b1 b hb;rw[e2];by_cases ha:∃a∈p,S a=S b
  .obtain⟨a,ha,e⟩:=ha;obtain⟨c1,c2⟩:=aE.dF a ha b hb e;obtain⟨w,hw,ew⟩:=g1 _ c2;unfold gj at hw;rw[ae a b e c1]at hw ew;obtain⟨u,v',hu,av,hR⟩:=hf a ha b hb e w c1 hw;obtain⟨u',ah,e'⟩:=a1 a ha;unfold gj at ah hv;rw[hu]at ah;cases ah;rw[<-e,e',av]at hv;cases hv;rw[<-e,ew];exact hR
  .obtain⟨w,hw,ew⟩:=g1 b (aE.right b hb λa s e=>ha ⟨a,s,e⟩);rw[ew];unfold gj at hw hv;rw[a2 _ λa s e=>ha ⟨a,s,by have:=np a s;have:=nq b hb;omega⟩,hw]at hv;cases hv;exact Rr _
 .rw[b2 i λb aj e=>hb ⟨b,aj,e⟩];by_cases ha:∃a∈p,G (S a)=i;.obtain⟨a,ha,rfl⟩:=ha;obtain⟨w,hw,ew⟩:=g1 a (aE.left a ha λb aj e=>hb ⟨b,aj,O⟩);obtain⟨u,hu,eu⟩:=a1 a ha;rw[hw]at hu;cases hu;rw[ew,eu];exact Rr _
  .rw[a2 i λa s e=>ha ⟨a,s,e⟩,g2 i ?_];.exact Rr _
   .intro w hw e;rcases aE.of w hw with⟨h3,_⟩|⟨h3,_⟩|⟨a,s,b,aj,e3,c1,rfl⟩;.exact ha ⟨w,h3,e⟩
    .exact hb ⟨w,h3,e⟩
    .rw[ae a b e3 c1]at e;exact ha ⟨a,s,e⟩
theorem ZxP(aa:∀a b,S a=S b->(cE a b).2=Y->S (cE a b).1=S a)(Rr:∀x,R x x){p q l r1 r2}(hp:dM S (-1) p)(hq:dM S (-1) q)(hf:∀a∈p,∀b∈q,S a=S b->∀u v,F a (aR l (G (S a)) z)=A u->F b u=A v->(cE a b).2=Y/\∃w,F (cE a b).1 (aR l (G (S a)) z)=A w/\R w v)(h1:mg z (gj z F S l) S p l=A r1)(h2:mg z (gj z F S r1) S q r1=A r2):∃aB r,Zk S cE p q=A aB/\mg z (gj z F S l) S aB l=A r/\∀i,R (aR r i z) (aR r2 i z):=by
 have np:=v_ V1 hp;have nq:=v_ V1 hq;obtain⟨a1,a2⟩:=kJ O hp h1;obtain⟨b1,b2⟩:=kJ O hq h2;have dF:∀a∈p,∀b∈q,S a=S b->(cE a b).2=Y/\∃w,F (cE a b).1 (aR l (G (S a)) z)=A w/\R w (aR r2 (G (S a)) z):=by
  intro a ha b hb e;obtain⟨u,hu,eu⟩:=a1 a ha;obtain⟨v,s,ev⟩:=b1 b hb;unfold gj at hu s;rw[<-e,eu]at s;have:=hf a ha b hb e u v hu s;rw[e,ev,<-e];exact this
 cases h:Zk S cE p q with
 |none=>obtain⟨a,ha,b,hb,e,h3⟩:=(DJ aa _ p q (-1) (Qa _) hp hq).1 h;grind|some aB=>
  have aE:=(DJ aa _ p q (-1) (Qa _) hp hq).2 aB h;have k1:∀w∈aB,∃v,gj z F S l w=A v:=by
   intro w hw;rcases aE.of w hw with⟨h3,h4⟩|⟨h3,h4⟩|⟨a,ha,b,hb,e,c1,rfl⟩;.obtain⟨u,hu,_⟩:=a1 w h3;grind
   .obtain⟨v,s,_⟩:=b1 w h3;refine⟨v,?_⟩;unfold gj at s⊢;rw[a2 _ λa ah e=>h4 a ah (by have:=np a ah;have:=nq w h3;omega)]at s;exact s
   .obtain⟨_,w,hw,_⟩:=dF a ha b hb e;refine⟨w,?_⟩;unfold gj;grind
  obtain⟨r,hr⟩:=yW (z:=z) (p:=S) (bB:=l) (f:=gj z F S l) k1;refine⟨aB,r,rfl,hr,?_⟩;obtain⟨ax,ay,e1,e2,hR⟩:=P6 (R:=λx y=>x=y\/R x y) aa (λx=>.inl rfl) hp hq (by intro a ha b hb e w c1 hw;obtain⟨u,hu,eu⟩:=a1 a ha;obtain⟨v,s,ev⟩:=b1 b hb;unfold gj at hu s;rw[<-e,eu]at s;obtain⟨_,w',a6,hR⟩:=hf a ha b hb e u v hu s;grind) h hr;grind
end
end Go.AM.YtpjenobkibfpcaaGreat
namespace Go.AM.YtpjenobkibfpcaaGreat
open Go.AM Go.Proofs
theorem vP(m)(h:0<=m)(s:m<256)(i:Nat):Zu m i=(BitVec.ofInt 8 m).toNat.testBit i:=by
 obtain⟨n,rfl⟩:=XI h;have e:(BitVec.ofInt 8 ((n:Nat):Int)).toNat=n:=by simp;omega
 rw[e,Nat.testBit_eq_decide_div_mod_eq];unfold Zu;grind
theorem sV{a b}(h:0<=a/\a<256)(s:0<=b/\b<256):(0<=fX a b/\fX a b<256)/\∀i:Nat,Zu (fX a b) i=(Zu a i&&Zu b i):=by
 have aa:(BitVec.ofInt 8 a&&&BitVec.ofInt 8 b).toNat<256:=(BitVec.ofInt 8 a&&&BitVec.ofInt 8 b).isLt;have e:fX a b=((BitVec.ofInt 8 a&&&BitVec.ofInt 8 b).toNat:Int):=by show IntKind.wrap .u8 ((BitVec.ofInt 8 a&&&BitVec.ofInt 8 b).toNat:Int)=_;exact qR O O
 refine⟨by rw[e];omega,λi=>?_⟩;rw[vP _ (by rw[e];omega) (by rw[e];omega),e,vP a h.1 h.2,vP b s.1 s.2];grind
theorem Pu{a b}(h:0<=a/\a<256)(s:0<=b/\b<256):(0<=lh a b/\lh a b<256)/\∀i:Nat,Zu (lh a b) i=(Zu a i||Zu b i):=by
 have aa:(BitVec.ofInt 8 a|||BitVec.ofInt 8 b).toNat<256:=(BitVec.ofInt 8 a|||BitVec.ofInt 8 b).isLt;have e:lh a b=((BitVec.ofInt 8 a|||BitVec.ofInt 8 b).toNat:Int):=by show IntKind.wrap .u8 ((BitVec.ofInt 8 a|||BitVec.ofInt 8 b).toNat:Int)=_;exact qR O O
 refine⟨by rw[e];omega,λi=>?_⟩;rw[vP _ (by rw[e];omega) (by rw[e];omega),e,vP a h.1 h.2,vP b s.1 s.2];grind
def ji(w:aV)(x:Int):Option Int:=if cS 0 x w.a_=w.bH then A (cS x w.new w.a_)else aT
theorem vG(i):Z8 0 i=0:=by unfold Z8;simp
theorem zT{w m}(h:Y2 w m=Y){i:Nat}(hi:i<8)(s:Zu m i=I):Z8 w i=0:=by have h:cS w 0 m=0:=X7 h;have e:=congrArg (λx=>Z8 x i) h;simp only[vV hi,JR,s,vG]at e;simpa using e
theorem J7{a b m i}(h:i<8):Z8 (cS a b m) i=if Zu m i=Y then Z8 b i else Z8 a i:=by rw[vV h];try rfl
theorem ZBG{a b}(ra:gN a)(rb:gN b)(oa:Y2 a.bH a.a_=Y/\Y2 a.new a.a_=Y)(ob:Y2 b.bH b.a_=Y/\Y2 b.new b.a_=Y){x}(hx:iU x):(∀w,(Jk a b).2=Y->ji (Jk a b).1 x=A w->∃u v,ji a x=A u/\ji b u=A v/\w=v)/\∀u v,ji a x=A u->ji b u=A v->(Jk a b).2=Y/\∃w,ji (Jk a b).1 x=A w/\w=v:=by
 have aD:=sV ra.2.1 rb.2.1;have aN:=Pu ra.2.1 rb.2.1;have ab:cS (cS x a.new a.a_) b.new b.a_=cS x (cS a.new b.new b.a_) (lh a.a_ b.a_):=by refine qy (JT _ _ _) (JT _ _ _) λi h=>?_;rw[J7 h,J7 h,J7 h,J7 h,aN.2];cases Zu a.a_ i<;>cases Zu b.a_ i<;>simp
 refine⟨λw L hw=>?_,λu v hu hv=>?_⟩
 .unfold Jk at L hw;by_cases ho:sF a b=Y
  .rw[Q5 ho]at hw;unfold ji at hw;simp only at hw;split at hw
   .rename_i aa;cases hw;have aj:cS 0 a.new (fX a.a_ b.a_)=cS 0 b.bH (fX a.a_ b.a_):=X7 ho;have e1:cS 0 x a.a_=a.bH:=by
     refine qy (JT _ _ _) ra.2.2.1 λi h=>?_;have e:=congrArg (λy=>Z8 y i) aa;simp only[J7 h,aN.2]at e;rw[J7 h];cases hn:Zu a.a_ i with
     |true=>rw[hn]at e;simpa using e|false=>rw[zT oa.1 h hn,vG];simp
    have e2:cS 0 (cS x a.new a.a_) b.a_=b.bH:=by
     refine qy (JT _ _ _) rb.2.2.1 λi h=>?_;have e:=congrArg (λy=>Z8 y i) aa;have s:=congrArg (λy=>Z8 y i) aj;simp only[J7 h,aN.2]at e;simp only[J7 h,aD.2]at s;rw[J7 h,J7 h];cases hb:Zu b.a_ i with
     |true=>cases ha:Zu a.a_ i with
      |true=>rw[ha,hb]at s;simpa using s|false=>rw[ha,hb]at e;simpa using e
     |false=>rw[zT ob.1 h hb,vG];simp
    refine⟨cS x a.new a.a_,cS (cS x a.new a.a_) b.new b.a_,?_,?_,ab.symm⟩;.unfold ji;rw[if_pos e1]
    .unfold ji;rw[if_pos e2]
   .cases hw
  .rw[Q0 ho]at L;cases L
 .unfold ji at hu hv;split at hu
  .rename_i e1;cases hu;split at hv
   .rename_i e2;cases hv;have ho:sF a b=Y:=by
     refine QD (qy (JT _ _ _) (JT _ _ _) λi h=>?_);have e:=congrArg (λy=>Z8 y i) e2;simp only[J7 h]at e;rw[J7 h,J7 h,aD.2];cases ha:Zu a.a_ i<;>cases hb:Zu b.a_ i<;>rw[ha,hb]at e<;>simp at e⊢;exact e
    unfold Jk;rw[Q5 ho];refine⟨rfl,cS x (cS a.new b.new b.a_) (lh a.a_ b.a_),?_,ab.symm⟩;unfold ji;simp only;rw[Q5];refine qy (JT _ _ _) (JT _ _ _) λi h=>?_;have e:=congrArg (λy=>Z8 y i) e1;have s:=congrArg (λy=>Z8 y i) e2;simp only[J7 h]at e s;rw[J7 h,J7 h,aN.2];cases ha:Zu a.a_ i<;>cases hb:Zu b.a_ i<;>rw[ha]at e s<;>rw[hb]at s<;>simp at e s⊢;all_goals first|exact s|exact e|exact(vG i).symm.trans s|exact(vG i).trans ((vG i).symm.trans s)
   .cases hv
  .cases hu
theorem wT(h)(ws)(bB):gK h ws bB=mg 0 (gj 0 ji aV.S h) aV.S ws bB:=Am h ws bB
theorem xZ(tk)(ks:List bP)(bB):fD I tk ks bB=mg H.nil (gj H.nil (λk:bP=>bX I k.e) aW.S tk) aW.S ks bB:=by rw[BG];congr 1;funext k;exact xe I tk k
theorem Zzt(a b)(h:(Jk a b).2=Y):(Jk a b).1.S=a.S:=by unfold Jk at h⊢;grind
theorem Zr{e d}(h:Z3 e d=Y):∀o∈e.ops,ZH o:=S6 (Zc h).ops
theorem Zck{f g p q d d'}(hp:Z3 p d=Y)(hq:Z3 q d'=Y)(h:∀a b,Z1 a+Z1 b<Z1 p+Z1 q->(∃d,Z3 a d=Y)->(∃d,Z3 b d=Y)->f a b=g a b):mE f p q=mE g p q:=by
 have rp:=Zc hp;have rq:=Zc hq;have hk:Zk aW.S (fV f) p.X q.X=Zk aW.S (fV g) p.X q.X:=by
  have ah:∀(k:Nat)(a b:List bP),J a+J b<=k->(∀x∈a,x∈p.X)->(∀x∈b,x∈q.X)->Zk aW.S (fV f) a b=Zk aW.S (fV g) a b:=by
   intro k;induction k with
   |zero=>intro a b hn _ _;have e1:a=[]:=Q7 O;subst e1;rw[Zk,Zk]|succ k ihk=>
    intro a b hn ha s;match a,b with
    |[],b=>rw[Zk,Zk]|x::a,[]=>rw[Zk,Zk]|x::a,y::b=>
     simp only[Qd]at hn;have hx:=ZA (ha x Q6);have hy:=ZA (s y Q6);have e:fV f x y=fV g x y:=by unfold fV;rw[h x.e y.e O ⟨_,(Zl rp.X x (ha x Q6)).2⟩ ⟨_,(Zl rq.X y (s y Q6)).2⟩]
     rw[Zk,Zk,e,ihk a (y::b) (by simp only[Qd];omega) (λz hz=>ha z (Q4 _ hz)) s,ihk (x::a) b (by simp only[Qd];omega) ha λz hz=>s z (Q4 _ hz),ihk a b O (λz hz=>ha z (Q4 _ hz)) λz hz=>s z (Q4 _ hz)]
  exact ah _ _ _ (Qa _) (λx hx=>hx) λx hx=>hx
 have ho:je f p.ops q.ops=je g p.ops q.ops:=by
  unfold je;obtain⟨i1,_⟩:=yn _ p.ops q.ops [] (Qa _) (Zr hp) (Zr hq);by_cases s:(ZC 1 2 p.ops q.ops []).2.1=Y
  .rw[Q5 s,Q5 s];obtain⟨ps,e,af,hA,hB⟩:=i1 s;rw[e,Qn];clear e i1 s hA hB;induction ps with
   |nil=>rfl|cons x r ihr=>
    have hx:=af x Q6;have e:Zw f x=Zw g x:=by
     unfold Zw;by_cases h1:x.of=1\/x.of=0/\x.q.D=0;.grind
     rw[Q0 h1,Q0 h1];by_cases h2:x.of=2\/x.p.D=0;.grind
     rw[Q0 h2,Q0 h2];by_cases h3:x.p.D=2/\x.q.D=1;.grind
     rw[Q0 h3,Q0 h3];by_cases h4:x.p.D=2;.grind
     rw[Q0 h4,Q0 h4];by_cases h5:x.q.D=1;.grind
     rw[Q0 h5,Q0 h5];have h0:x.of=0:=by rcases hx.of with h|h|h<;>omega
     obtain⟨a8,a4,hl⟩:=hx.dF h0;obtain⟨⟨o1,m1,k1,e1,_⟩,op⟩:=hx.pp O;obtain⟨⟨o2,m2,k2,e2,_⟩,oq⟩:=hx.qq O;have a1:x.p.D=3:=by rcases Zx op with h|h|h|h<;>omega
     have a5:x.q.D=3:=by rcases Zx oq with h|h|h|h<;>omega
     have:=Yf m1;have:=Yf m2;have r1:=Yi (bM rp.ops m1) O;have r2:=Yi (bM rq.ops m2) O;rw[e1,e2,h o1.e o2.e O ⟨_,r1⟩ ⟨_,r2⟩]
    rw[iz,iz,e,ihr λy hy=>af y (Q4 _ hy)]
  .grind
 unfold mE;rw[hk,ho]
theorem Zns:∀n m(p q:W)d s,Z3 p d=Y->Z3 q s=Y->Z1 p+Z1 q<=n->n<=m->lC m p q=lC n p q:=by intro n;induction n with|zero=>intro m p q d s _ _ h;obtain⟨k,o,nw,w,ks,l,os⟩:=p;simp only[Z1]at h;omega|succ n ih=>intro m p q d s hp hq h hm;obtain⟨m,rfl⟩:∃k,m=k+1:=⟨m-1,O⟩;show mE (lC m) p q=mE (lC n) p q;exact Zck hp hq λa b aa⟨d1,h1⟩⟨d2,h2⟩=>ih m a b d1 d2 h1 h2 O O
theorem ZBc{p q d h}(hp:Z3 p d=Y)(s:Z3 q h=Y):Jc p q=mE Jc p q:=by have e:Jc p q=lC (Z1 p+Z1 q+1) p q:=(Zns _ _ p q d h hp s (Qa _) O).symm;rw[e];show mE (lC (Z1 p+Z1 q)) p q=mE Jc p q;exact Zck hp s λa b ab⟨d1,h1⟩⟨d2,h2⟩=>Zns _ _ a b d1 d2 h1 h2 (Qa _) O
theorem Ztc(t):dG (Z2 t) t:=ZY t
theorem ng{e}(h:e.D=0)(t):bX I e t=A t:=by rw[lH,Ja,Q5 h]
theorem vg{e}(h:e.D=1)(t):bX I e t=if ZW (Z2 e.bH) (Z2 t)=Y then A e.new else aT:=by grind[lH,Ja]
theorem yh{e}(h:e.D=2)(t):bX I e t=if t.D=1 then(gK t.aS e.aS t.aS).bind λa=>(fD I t.X e.X t.X).map λb=>.mk 1 a b else aT:=by grind[lH,Ja]
theorem xf{e}(h:e.D=3)(t):bX I e t=if t.D=e.V then(gX (ZV I e.ops t.X [])).map λb=>.mk e.V [] b else aT:=by grind[lH,Ja]
theorem O3(o n t):bX I (.mk 1 o n [] [] 0 []) t=if ZW (Z2 o) (Z2 t)=Y then A n else aT:=vg rfl t
theorem FQ(w)(ks:List bP)(t):bX I (.mk 2 H.nil H.nil w ks 0 []) t=if t.D=1 then(gK t.aS w t.aS).bind λa=>(fD I t.X ks t.X).map λb=>.mk 1 a b else aT:=yh rfl t
theorem Ol(l)(os:List Op)(t):bX I (.mk 3 H.nil H.nil [] [] l os) t=if t.D=l then(gX (ZV I os t.X [])).map λb=>.mk l [] b else aT:=xf rfl t
theorem Ep{e t v}(h:bX I e t=A v):dX e t=(Z2 v,Y):=by unfold dX;rw[h];try rfl
theorem Zti{e t}(h:bX I e t=aT):(dX e t).2=I:=by unfold dX;rw[h];try rfl
theorem Zp{e}(h:Ye e):ei e.bH/\ei e.new/\(∀x∈e.aS,gN x)/\kG e.X/\jQ e.ops:=by obtain⟨k,o,n,w,ks,l,os⟩:=e;exact⟨h.2.1,h.2.2.1,h.2.2.2.1,h.2.2.2.2.2.1,h.2.2.2.2.2.2⟩
theorem He{e d}(hr:Z3 e d=Y)(he:Ye e){o}(h:dB e.ops o):qG o:=by
 obtain⟨o',m,k,e1,_,l⟩:=h;have ro:=bM (Zc hr).ops m;have rg:=qe (Zp he).2.2.2.2 m;have af:=Jr rg;refine⟨λh3=>⟨⟨_,by rw[e1];exact Yi ro O⟩,by grind⟩,λt ht=>?_⟩;have s:=l t ht;refine⟨?_,YW af.2.2.1 s⟩;have R:=ZQ ro;by_cases h3:e.D=3;.have aa:=(Zc hr).V h3;generalize e.V=li at R aa;cases R with|bN=>cases s|dL=>cases s|gone l1 h1=>exact⟨-1,(xS aa h1 t s).2⟩|eD l1 h1=>exact⟨-1,(xS aa h1 t s).2⟩
 .have:=(Zc hr).iy h3;grind
theorem MN{t}(h:eL t):∀k∈t.X,eL k:=h.X.1
theorem ZHb{f p q d d'}(hp:Z3 p d=Y)(hq:Z3 q d'=Y)(gp:Ye p)(gq:Ye q)(k3:p.D=3)(l3:q.D=3)(hl:p.V=q.V)(ih:∀a b,Z1 a+Z1 b<Z1 p+Z1 q->(∃d,Z3 a d=Y)->(∃d,Z3 b d=Y)->Ye a->Ye b->fR (f a b) a b):fR (.mk 3 H.nil H.nil [] [] p.V (kL (je f p.ops q.ops)),(je f p.ops q.ops).isSome) p q:=by
 have bb:=(Zc hp).V k3;have kp:∀o∈p.ops,j8 o:=λo ho=>Zx (Zr hp o ho);have kq:∀o∈q.ops,j8 o:=λo ho=>Zx (Zr hq o ho);obtain⟨i1,i2⟩:=yn _ p.ops q.ops [] (Qa _) (Zr hp) (Zr hq);have ah:∀ps:List cm,(∀x∈ps,nB p.ops q.ops x)->(∀x∈ps,(x.of≠2->qG x.p)/\(x.of≠1->qG x.q))/\∀x∈ps,x.p.D=3->x.q.D=3->x.of=0->fR (f x.p.e x.q.e) x.p.e x.q.e:=by
  intro ps s;refine⟨λx hx=>⟨λh=>He hp gp ((s x hx).pp h).1,λh=>He hq gq ((s x hx).qq h).1⟩,λx hx h1 h2 h0=>?_⟩;have ai:=s x hx;have s1:=(He hp gp (ai.pp O).1).1 h1;have s2:=(He hq gq (ai.qq O).1).1 h2;obtain⟨o1,m1,_,e1,_⟩:=(ai.pp O).1;obtain⟨o2,m2,_,e2,_⟩:=(ai.qq O).1;have:=Yf m1;have:=Yf m2;exact ih _ _ (by grind) s1.1 s2.1 s1.2 s2.2
 refine⟨λ{t w}ht L hw=>?_,λ{t u v}ht hu hv=>?_⟩
 .rw[Ol]at hw;split at hw
  .rename_i al;obtain⟨b,hb,rfl⟩:=Qf.1 hw;cases aa:je f p.ops q.ops with
   |none=>grind|some ops=>
    rw[aa]at hb;unfold je at aa;split at aa
    .rename_i aj;obtain⟨ps,e,s,hP,hQ⟩:=i1 aj;rw[e,Qn]at aa;obtain⟨f1,f2⟩:=ah ps s;have af:∀o∈ops,j8 o:=by
      have:∀(ps:List cm)(ops:List Op),(∀x∈ps,nB p.ops q.ops x)->iz f ps=A ops->∀o∈ops,j8 o:=by
       intro ps;induction ps with
       |nil=>intro ops _ h o ho;cases h;cases ho|cons x r ihp=>
        intro ops s h o ho;rw[iz]at h;split at h
        .obtain⟨l,hl,rfl⟩:=Qf.1 h;rcases Qo.1 ho with ho|ho
         .split at ho;.rw[Qs.1 ho];exact Pl (s x Q6)
          .cases ho
         grind
        .cases h
      exact this ps ops s aa
     have hr:=(vD af).1 hb;obtain⟨m,dd,r1,r2,he⟩:=Zkj s f1 f2 (MN ht) aa hr;refine⟨.mk p.V [] m,.mk q.V [] dd,?_,?_,?_⟩;.simp_all[xf,vD]
     .simp_all[xf,H.dt,vD]
     .rw[hl];exact yZ _ _ he
    .cases aa
  .cases hw
 .rw[xf k3]at hu;split at hu
  .rename_i al;obtain⟨m,hm,rfl⟩:=Qf.1 hu;rw[xf l3,Q5 (show(H.mk p.V [] m).D=q.V from hl)]at hv;simp only[H.dt]at hv;obtain⟨dd,hd,rfl⟩:=Qf.1 hv;have r1:=(vD kp).1 hm;have r2:=(vD kq).1 hd;cases aj:(ZC 1 2 p.ops q.ops []).2.1 with
   |false=>grind|true=>
    obtain⟨ps,e,s,hP,hQ⟩:=i1 aj;obtain⟨f1,f2⟩:=ah ps s;obtain⟨ops,w,c1,c2,c3⟩:=Zkk s f1 f2 (MN ht) ((hP _ _).1 r1) ((hQ _ _).1 r2);have aa:je f p.ops q.ops=A ops:=by unfold je;grind
    have af:gX (ZV I ops t.X [])=A w:=by have:=Zu3 c2 [];unfold gX;rw[this];simp
    rw[aa];refine⟨rfl,.mk p.V [] w,?_,?_⟩;.rw[Ol,Q5 al];show(gX (ZV I ops t.X [])).map _=_;rw[af];try rfl
    .rw[<-hl];exact yZ _ _ c3
  .cases hu
theorem Zwb{f p q d d'}(hp:Z3 p d=Y)(hq:Z3 q d'=Y)(gp:Ye p)(gq:Ye q)(k2:p.D=2)(l2:q.D=2)(ih:∀a b,Z1 a+Z1 b<Z1 p+Z1 q->(∃d,Z3 a d=Y)->(∃d,Z3 b d=Y)->Ye a->Ye b->fR (f a b) a b):fR (if(Zk aV.S Jk p.aS q.aS).isSome then(.mk 2 H.nil H.nil (kL (Zk aV.S Jk p.aS q.aS)) (kL (Zk aW.S (fV f) p.X q.X)) 0 [],(Zk aW.S (fV f) p.X q.X).isSome)else(W.nil,I)) p q:=by
 have rp:=Zc hp;have rq:=Zc hq;have wp:=YJ rp.aS;have wq:=YJ rq.aS;have ap:=Jh rp.X;have aq:=Jh rq.X;have g1:=Zp gp;have g2:=Zp gq;have hw:∀a∈p.aS,∀b∈q.aS,∀x,iU x->(∀w,(Jk a b).2=Y->ji (Jk a b).1 x=A w->∃u v,ji a x=A u/\ji b u=A v/\w=v)/\∀u v,ji a x=A u->ji b u=A v->(Jk a b).2=Y/\∃w,ji (Jk a b).1 x=A w/\w=v:=by
  intro a s b hb x hx;have oa:=Yd rp.aS a s;have ob:=Yd rq.aS b hb;exact ZBG (g1.2.2.1 a s) (g2.2.2.1 b hb) oa.2.2.2 ob.2.2.2 hx
 have hk:∀a∈p.X,∀b∈q.X,fR (f a.e b.e) a.e b.e:=by intro a s b hb;have:=ZA s;have:=ZA hb;exact ih _ _ O ⟨_,(Zl rp.X a s).2⟩ ⟨_,(Zl rq.X b hb).2⟩ (Y6 g1.2.2.2.1 s).2 (Y6 g2.2.2.2.1 hb).2
 have af:∀a b:bP,a.S=b.S->(fV f a b).2=Y->(fV f a b).1.S=a.S:=λa b _ _=>rfl;have ae:∀a b:aV,a.S=b.S->(Jk a b).2=Y->(Jk a b).1.S=a.S:=λa b _ h=>Zzt a b h;refine⟨λ{t w}ht L ab=>?_,λ{t u v}ht hu hv=>?_⟩;.cases hm:Zk aV.S Jk p.aS q.aS with
  |none=>grind|some aB=>cases hn:Zk aW.S (fV f) p.X q.X with
   |none=>grind|some aM=>
    rw[hm,hn]at ab;rw[Q5 (show(A aB).isSome=Y from rfl)]at ab;rw[FQ]at ab;split at ab
    .rename_i t1;obtain⟨a,s,ab⟩:=Qq.1 ab;obtain⟨b,hb,rfl⟩:=Qf.1 ab;have s:gK t.aS aB t.aS=A a:=s;have hb:fD I t.X aM t.X=A b:=hb;rw[wT]at s;rw[xZ]at hb;obtain⟨a1,a2,x1,x2,x3⟩:=P6 (R:=Eq) ae (λx=>rfl) wp wq (λa s b hb e w L ah=>(hw a s b hb _ (F5 (M0 ht.2).2.1 _)).1 w L ah) hm s;obtain⟨b1,b2,y1,y2,y3⟩:=P6 (R:=dG) af (λx=>rfl) ap aq (λa s b hb e w L ah=>(hk a s b hb).W4 (uI (MN ht) _) L ah) hn hb;refine⟨.mk 1 a1 b1,.mk 1 a2 b2,?_,?_,?_⟩;.grind[yh,wT,xZ]
     .simp_all[yh,H.dz,H.dt,wT,xZ]
     .exact(BV rfl rfl).2 ⟨x3,y3⟩
    .cases ab
 .rw[yh k2]at hu;split at hu
  .rename_i t1;obtain⟨a1,x1,hu⟩:=Qq.1 hu;obtain⟨b1,y1,rfl⟩:=Qf.1 hu;rw[yh l2,Q5 (show(H.mk 1 a1 b1).D=1 from rfl)]at hv;simp only[H.dz,H.dt]at hv;obtain⟨a2,x2,hv⟩:=Qq.1 hv;obtain⟨b2,y2,rfl⟩:=Qf.1 hv;rw[wT]at x1 x2;rw[xZ]at y1 y2;obtain⟨aB,a,hm,s,x3⟩:=ZxP (R:=Eq) ae (λx=>rfl) wp wq (λa s b hb e u v h1 h2=>(hw a s b hb _ (F5 (M0 ht.2).2.1 _)).2 u v h1 h2) x1 x2;obtain⟨aM,b,hn,hb,y3⟩:=ZxP (R:=dG) af (λx=>rfl) ap aq (λa s b hb e u v h1 h2=>(hk a s b hb).Iu (uI (MN ht) _) h1 h2) y1 y2;rw[hm,hn,Q5 (show(A aB).isSome=Y from rfl)];refine⟨rfl,.mk 1 a b,?_,(BV rfl rfl).2 ⟨x3,y3⟩⟩;rw[FQ,Q5 t1];show(gK t.aS aB t.aS).bind _=_;rw[wT,s];show(fD I t.X aM t.X).map _=_;rw[xZ,hb];try rfl
  .cases hu
theorem ZBa{p q d d'}(s:Z3 p d=Y)(hq:Z3 q d'=Y)(p0:¬p.D=0)(p1:¬p.D=1)(q0:¬q.D=0)(q1:¬q.D=1)(hd:p.D≠q.D\/p.V≠q.V){t u v}(hu:bX I p t=A u)(hv:bX I q u=A v):False:=by
 have rp:=Zc s;have h:=Zc hq;have pk:=rp.D;have qk:=h.D;obtain⟨_,a2,a3,_⟩:=s_ s hu;obtain⟨_,b2,b3,_⟩:=s_ hq hv;by_cases p2:p.D=2
 .have u1:=(a2 p2).1;by_cases q2:q.D=2;.have e1:=(rp.iy O).1;have e2:=(h.iy O).1;omega
  .have e1:=(b3 O).2;have e2:=h.V O;omega
 .have u1:=(a3 O).1;have e0:=rp.V O;grind
theorem ZKF:∀n(p q:W)d d',Z1 p+Z1 q<=n->Z3 p d=Y->Z3 q d'=Y->Ye p->Ye q->fR (lC n p q) p q:=by
 intro n;induction n with
 |zero=>intro p q d d' h;obtain⟨k,o,nw,w,ks,l,os⟩:=p;simp only[Z1]at h;omega|succ n ih=>
  intro p q d d' hn hp hq gp gq;have rp:=Zc hp;have rq:=Zc hq;have ay:∀a b,Z1 a+Z1 b<Z1 p+Z1 q->(∃d,Z3 a d=Y)->(∃d,Z3 b d=Y)->Ye a->Ye b->fR (lC n a b) a b:=by rintro a b hm⟨d1,h1⟩⟨d2,h2⟩g1 g2;exact ih a b d1 d2 O h1 h2 g1 g2
  show fR (mE (lC n) p q) p q;unfold mE;by_cases p0:p.D=0;.rw[Q5 p0];exact⟨λ{t w}_ _ hw=>⟨t,w,ng p0 t,hw,rfl⟩,λ{t u v}_ hu s=>by rw[ng p0]at hu;cases hu;exact⟨rfl,v,s,rfl⟩⟩
  rw[Q0 p0];by_cases q0:q.D=0;.rw[Q5 q0];exact⟨λ{t w}_ _ hw=>⟨w,w,hw,ng q0 w,rfl⟩,λ{t u v}_ hu s=>by rw[ng q0]at s;cases s;exact⟨rfl,u,hu,rfl⟩⟩
  rw[Q0 q0];by_cases p1:p.D=1
  .rw[Q5 p1];refine⟨λ{t w}_ L hw=>?_,λ{t u v}_ hu s=>?_⟩
   .rw[O3]at hw;split at hw;.rename_i hs;cases s:bX I q p.new<;>grind[bX,Zti,Ep,vg,Ztc]
    .cases hw
   simp_all[vg,Ep,Z2,Ztc,O3]
  rw[Q0 p1];by_cases q1:q.D=1
  .rw[Q5 q1];have ho:eL q.bH:=⟨⟨_,(rq.Mn q1).1⟩,(Zp gq).1⟩;refine⟨λ{t w}ht L hw=>?_,λ{t u v}ht hu s=>?_⟩
   .rw[O3]at hw;split at hw;.rename_i hs;cases hw;cases hz:bX I (Zd (Zm p)) q.bH with
     |none=>rw[Zti hz]at L;cases L|some z=>
      rw[Ep hz,Yh,ZY]at hs;obtain⟨y,hy,ak⟩:=Zrp hp gp ho hz hs;refine⟨y,q.new,hy,?_,rfl⟩;rw[vg q1,Q5];rw[Yh];exact ak.symm
    .cases hw
   .rw[vg q1]at s;split at s;.rename_i hs;cases s;rw[Yh]at hs;obtain⟨z,hz,aj⟩:=Hc hp gp ht ho hu hs.symm;rw[Ep hz];refine⟨rfl,q.new,?_,rfl⟩;rw[O3,Q5];rw[Yh,ZY];exact aj
    .cases s
  rw[Q0 q1];have pk:=rp.D;have qk:=rq.D;by_cases hd:p.D≠q.D\/p.V≠q.V;.rw[Q5 hd];exact⟨λ{t w}_ L _=>(by cases L),λ{t u v}_ hu s=>(ZBa hp hq p0 p1 q0 q1 hd hu s).elim⟩
  grind[Zwb,ZHb]
theorem ZHa{p q d h}(s:Z3 p d=Y)(hq:Z3 q h=Y)(gp:Ye p)(gq:Ye q):fR (Jc p q) p q:=ZKF _ p q d h (Qa _) s hq gp gq
theorem Iv(V):∀(a b:List Op)w,Zz V (a++b) w=Zz V b (Zz V a w)|[],_,_=>rfl|o::r,b,w=>by simp only[Qw,Zz,Iv V r b]
theorem ZB1(x):(Zj ⟨x,[],[]⟩).bB=x:=by simp[Zj,kU]
theorem Zt1(w)(a b):Yt (Yt w a) b=Yt w (a+b):=by unfold Yt;rw[ZB1,ZhI]
theorem Zn7(V):∀n(w:dA),Zz V (List.replicate (n+1) ⟨0,1,[],W.nil⟩) w=Yt w (n+1)|0,w=>by rfl|n+1,w=>by rw[XJ,Zz,JV,Q5 rfl,Zn7 V n,Zt1];grind
theorem Zna(V):∀l(w:dA),Zz V (l.map λt=>⟨1,0,[t],W.nil⟩) w=⟨w.bB,w.gone++Z6 l,w.bO⟩|[],w=>by simp[Zz,Z6]|t::r,w=>by rw[Qu,Zz,Zna V r,JV,Q0 (show¬(1:Int)=0 by decide),Q5 rfl];simp[Z6]
theorem Znr(V):∀l(w:dA),Zz V (l.map λt=>⟨2,0,[t],W.nil⟩) w=⟨w.bB,w.gone,w.bO++Z6 l⟩|[],w=>by simp[Zz,Z6]|t::r,w=>by rw[Qu,Zz,Znr V r,JV,Q0 (show¬(2:Int)=0 by decide),Q0 (show¬(2:Int)=1 by decide),Q5 rfl];simp[Z6]
def ux(o:Op):List Op:=(Je 0 0 o).map cP
theorem Zrf(i a)(o):(Je i a o).map cP=ux o:=by
 simp only[ux,Je,XP,QP];congr 1;.split<;>simp[cP]
 .congr 1;split<;>simp[cP]
theorem Ju(u):(cP u).D=u.D:=by unfold cP;grind
theorem tR{o}(h:ZH o)(k:o.D=0):ux o=List.replicate (G o.n) ⟨0,1,[],W.nil⟩/\1<=o.n:=by
 have hl:o.l=[]:=by rcases h with h|h|h<;>first|exact h.2.1|omega
 refine⟨?_,by rcases h with h|h|h<;>omega⟩;simp only[ux,Je,hl,Q5 k];rw[Q0 O];simp[cP]
theorem iP{o}(k:o.D=1\/o.D=2):ux o=o.l.map λt=>⟨o.D,0,[t],W.nil⟩:=by simp only[ux,Je];rw[Q0 O,Q0 O];simp only[Qn,Qj,QP];refine Xz λt _=>?_;simp only[Function.comp,cP];grind
theorem nd{o}(h:ZH o)(k:o.D=3):ux o=[⟨3,0,[],o.e⟩]/\o=⟨3,0,[],o.e⟩:=by
 have hl:o.l=[]/\o.n=0:=by rcases h with h|h|h<;>first|exact⟨h.2.2,h.2.1⟩|omega
 constructor;.simp only[ux,Je,hl.1];rw[Q0 O,Q5 k];simp[cP]
 .obtain⟨a,b,c,d⟩:=o;grind
theorem yB{o x}(h:x∈ux o):x.D=o.D:=by simp only[ux,QU]at h;obtain⟨u,s,rfl⟩:=h;rw[Ju];simp only[Je,Qo,QU]at s;grind
theorem ZDa(V){o}(h:ZH o)(w):Zz V (ux o) w=j9 V o w:=by
 rcases Zx h with k|k|k|k
 .obtain⟨e,hn⟩:=tR h k.1;rw[e,JV,Q5 k.1];obtain⟨m,s⟩:∃m:Nat,G o.n=m+1:=⟨G o.n-1,O⟩;rw[s,Zn7];congr 1;omega
 .rw[iP (.inl k),k,Zna,JV,Q0 O,Q5 k]
 .rw[iP (.inr k),k,Znr,JV,Q0 O,Q0 O,Q5 k]
 .obtain⟨e1,e2⟩:=nd h k;rw[e1];conv=>rhs;rw[e2]
  try rfl
noncomputable def rp(f:W->W->W×Bool)(x:bK):List Op×Bool:=if x.of=1 then([cP x.p],Y)else if x.of=2 then([cP x.q],Y)else gk f x.p x.q
theorem ur(f:W->W->W×Bool)(x)(r:List bK):J4 f (x::r)=if(rp f x).2 then(J4 f r).map ((rp f x).1++·)else aT:=by rw[J4,rp];grind
theorem RT(f:W->W->W×Bool):∀(a b:List bK),J4 f (a++b)=(J4 f a).bind λl=>(J4 f b).map (l++·)
 |[],b=>by rw[Qn,J4,Qp];simp_all|x::a,b=>by
  rw[Qw,ur,ur,RT f a b];split;.cases J4 f a with
   |none=>rfl|some l=>cases J4 f b<;>simp
  .try rfl
theorem R4(f)(h):∀m,(∀y∈m,rp f y=([h y],Y))->J4 f m=A (m.map h)|[],_=>rfl|y::r,hy=>by rw[ur,hy y Q6,R4 f h r λz s=>hy z (Q4 _ s)];try rfl
theorem pD{o a l}(h:o9 o a l):l.map cP=ux o:=by unfold o9 at h;rw[ZiY,Zrf]at h;exact h.symm
theorem ZU6{k u}(s:u.D=k)(h:k=1\/k=2):cP u=⟨k,0,[u.t],W.nil⟩:=by unfold cP;grind
theorem nW{k}(s:k=1\/k=2):∀{l:List H}{m:List bJ},m.map cP=l.map (λt=>(⟨k,0,[t],W.nil⟩:Op))->l=m.map bJ.t/\∀u∈m,u.D=k
 |[],[],_=>⟨rfl,λu hu=>by cases hu⟩|[],_::_,h=>by simp at h|_::_,[],h=>by simp at h|t::l,u::m,h=>by
  simp only[Qu,List.cons.injEq]at h;obtain⟨i1,i2⟩:=nW s h.2;have ku:u.D=k:=by have:=congrArg bI.D h.1;rwa[Ju]at this
  have e:=h.1;rw[ZU6 ku s]at e;grind
theorem ZfO(f):∀m,(∀y∈m,y.of=0/\y.p.D=2/\y.q.D=1)->(Z6 (m.map λy=>y.p.t)=Z6 (m.map λy=>y.q.t)->J4 f m=A [])/\(¬Z6 (m.map λy=>y.p.t)=Z6 (m.map λy=>y.q.t)->J4 f m=aT)
 |[],_=>⟨λ_=>rfl,λh=>absurd rfl h⟩|y::r,h=>by
  obtain⟨h0,h1,h2⟩:=h y Q6;obtain⟨i1,i2⟩:=ZfO f r λz hz=>h z (Q4 _ hz);have e:rp f y=([],ZW (Z2 y.p.t) (Z2 y.q.t)):=by unfold rp gk;grind
  have L:Z6 ((y::r).map λy=>y.p.t)=Z6 ((y::r).map λy=>y.q.t)↔Z2 y.p.t=Z2 y.q.t/\Z6 (r.map λy=>y.p.t)=Z6 (r.map λy=>y.q.t):=by simp[Z6]
  rw[L,ur,e];dsimp only;refine⟨λs=>?_,λs=>?_⟩;.rw[Q5 (Yh.2 s.1),i1 s.2];try rfl
  .by_cases ht:Z2 y.p.t=Z2 y.q.t;.grind
   .rw[Q0 (by rw[Yh];exact ht)]
structure fE(c r:W×Bool):Prop where
 ok:c.2=r.2
 Wb:c.2=true->Zd c.1=Zd r.1
theorem Zst{V e f}(h:Zd e=Zd f)(w):j9 V ⟨3,0,[],e⟩ w=j9 V ⟨3,0,[],f⟩ w:=by rw[JV,JV];grind
theorem Zva{f g bV x m}(a4:x.of=0\/x.of=1\/x.of=2)(hm:m≠[])(ha:∀y∈m,y.of=x.of)(hp:x.of≠2->ZH x.p/\Z4 x.p=J m/\o9 x.p bV (m.map bK.p))(hq:x.of≠1->ZH x.q/\Z4 x.q=J m/\o9 x.q 2 (m.map bK.q))(hb:x.of=0->x.p.D≠1/\x.q.D≠2)(hf:x.of=0->x.p.D=3->x.q.D=3->fE (f x.p.e x.q.e) (g x.p.e x.q.e)):(Zw f x).ok=(J4 g m).isSome/\∀aB,J4 g m=A aB->∀V w,Zz V (if(Zw f x).is then[(Zw f x).op]else[]) w=Zz V aB w:=by
 have s:∀(o:Op),ZH o->∀(h:bK->Op),(∀y∈m,rp g y=([h y],Y))->m.map h=ux o->Zw f x=⟨o,Y,Y⟩->(Zw f x).ok=(J4 g m).isSome/\∀aB,J4 g m=A aB->∀V w,Zz V (if(Zw f x).is then[(Zw f x).op]else[]) w=Zz V aB w:=by
  intro o ho h h1 h2 h3;rw[R4 g h m h1,h2,h3];refine⟨rfl,λaB hL V w=>?_⟩;cases hL;rw[ZDa V ho];try rfl
 by_cases c1:x.of=1
 .obtain⟨o1,o2,o3⟩:=hp O;refine s x.p o1 (λy=>cP y.p) (λy hy=>?_) ?_ (by unfold Zw;grind);.unfold rp;grind
  .rw[<-pD o3,QP];try rfl
 by_cases c2:x.of=2
 .obtain⟨o1,o2,o3⟩:=hq O;refine s x.q o1 (λy=>cP y.q) (λy hy=>?_) ?_ (by unfold Zw;grind);.unfold rp;grind
  .rw[<-pD o3,QP];try rfl
 have c0:x.of=0:=O;obtain⟨p1,p2,p3⟩:=hp O;obtain⟨q1,q2,q3⟩:=hq O;obtain⟨b1,b2⟩:=hb c0;have up:=pD p3;have uq:=pD q3;have kp:∀y∈m,y.p.D=x.p.D:=λy hy=>by
  have:cP y.p∈ux x.p:=by rw[<-up];exact Xd (Xd hy)
  rw[<-Ju];exact yB this
 have kq:∀y∈m,y.q.D=x.q.D:=λy hy=>by
  have:cP y.q∈ux x.q:=by rw[<-uq];exact Xd (Xd hy)
  rw[<-Ju];exact yB this
 have hr:∀y∈m,rp g y=gk g y.p y.q:=λy hy=>by unfold rp;grind
 by_cases q0:x.q.D=0
 .refine s x.p p1 (λy=>cP y.p) (λy hy=>?_) ?_ (by unfold Zw;grind);.rw[hr y hy,gk,Q5 (by grind)]
  .rw[<-up,QP];try rfl
 by_cases p0:x.p.D=0
 .refine s x.q q1 (λy=>cP y.q) (λy hy=>?_) ?_ (by unfold Zw;grind);.rw[hr y hy,gk,Q0 (by grind),Q5 (by grind)]
  .rw[<-uq,QP];try rfl
 have a3:x.p.D=2\/x.p.D=3:=by rcases Zx p1 with k|k|k|k<;>omega
 have ax:x.q.D=1\/x.q.D=3:=by rcases Zx q1 with k|k|k|k<;>omega
 by_cases pq:x.p.D=2/\x.q.D=1
 .obtain⟨t1,_⟩:=nW (k:=2) (.inr rfl) (l:=x.p.l) (m:=m.map bK.p) (by rw[up,iP (.inr pq.1),pq.1]);obtain⟨t2,_⟩:=nW (k:=1) (.inl rfl) (l:=x.q.l) (m:=m.map bK.q) (by rw[uq,iP (.inl pq.2),pq.2]);rw[QP]at t1 t2;have L:Zw f x=⟨Op.nil,I,gw x.p.l x.q.l⟩:=by unfold Zw;rw[Q0 O,Q0 O,Q5 pq];congr 1;rw[Qy (by rw[t1,t2];simp)]
  obtain⟨e1,e2⟩:=ZfO g m λy hy=>⟨by grind,by grind,by grind⟩;rw[L];dsimp only;unfold gw;rw[t1,t2];by_cases he:Z6 (m.map λy=>y.p.t)=Z6 (m.map λy=>y.q.t)
  .rw[e1 he];refine⟨Yz.2 he,λaB hL V w=>?_⟩;grind
  .rw[e2 he];refine⟨?_,λaB hL=>by cases hL⟩;rw[Option.isSome_none,<-Xx,Yz];exact he
 have aj:J m=1:=by
  have:Z4 x.p=1\/Z4 x.q=1:=by
   by_cases h:x.p.D=3;.exact .inl (Yk h)
   .exact .inr (Yk O)
  omega
 obtain⟨y,rfl⟩:∃y,m=[y]:=by match m,aj with|[y],_=>grind
 have ky:=kp y Q6;have kz:=kq y Q6;have e1:J4 g [y]=if(gk g y.p y.q).2 then A (gk g y.p y.q).1 else aT:=by
  rw[ur,hr y Q6];split;.simp[J4]
  .try rfl
 rw[e1];simp only[Qu,QG]at up uq;by_cases p2':x.p.D=2
 .have ab:x.q.D=3:=O;rw[iP (.inr p2')]at up;obtain⟨e2,_⟩:=nd q1 ab;rw[e2]at uq;have et:x.p.l=[y.p.t]:=by have:=(nW (k:=2) (.inr rfl) (l:=x.p.l) (m:=[y.p]) (by grind)).1;simpa using this
  have ee:y.q.e=x.q.e:=by
   have:=List.cons.inj uq;have h:=this.1;unfold cP at h;rw[Q0 O,Q5 O]at h;injection h
  have L:Zw f x=⟨⟨2,0,[YH (bX Y y.q.e y.p.t)],W.nil⟩,Y,(bX Y y.q.e y.p.t).isSome⟩:=by unfold Zw;rw[Q0 O,Q0 O,Q0 pq,Q5 p2',et,ee];simp only[Qm,dX,pr,XD]
  have hu:gk g y.p y.q=([⟨2,0,[YH (bX Y y.q.e y.p.t)],W.nil⟩],(bX Y y.q.e y.p.t).isSome):=by unfold gk;grind
  grind
 have ah:x.p.D=3:=O;obtain⟨e2,_⟩:=nd p1 ah;rw[e2]at up;have au:y.p.e=x.p.e:=by
  have h:=(List.cons.inj up).1;unfold cP at h;rw[Q0 O,Q5 O]at h;injection h
 by_cases q1':x.q.D=1
 .rw[iP (.inl q1')]at uq;have et:x.q.l=[y.q.t]:=by have:=(nW (k:=1) (.inl rfl) (l:=x.q.l) (m:=[y.q]) (by grind)).1;simpa using this
  have L:Zw f x=⟨⟨1,0,[YH (bX Y (Zd (Zm y.p.e)) y.q.t)],W.nil⟩,Y,(bX Y (Zd (Zm y.p.e)) y.q.t).isSome⟩:=by unfold Zw;rw[Q0 O,Q0 O,Q0 pq,Q0 p2',Q5 q1',et,au];simp only[Qm,dX,pr,XD]
  have hu:gk g y.p y.q=([⟨1,0,[YH (bX Y (Zd (Zm y.p.e)) y.q.t)],W.nil⟩],(bX Y (Zd (Zm y.p.e)) y.q.t).isSome):=by unfold gk;grind
  grind
 have ab:x.q.D=3:=O;obtain⟨e3,_⟩:=nd q1 ab;rw[e3]at uq;have be:y.q.e=x.q.e:=by have h:=(List.cons.inj uq).1;unfold cP at h;rw[Q0 O,Q5 O]at h;injection h
 have L:Zw f x=⟨⟨3,0,[],(f x.p.e x.q.e).1⟩,Y,(f x.p.e x.q.e).2⟩:=by unfold Zw;grind
 have hu:gk g y.p y.q=([⟨3,0,[],(g x.p.e x.q.e).1⟩],(g x.p.e x.q.e).2):=by unfold gk;grind
 obtain⟨a1,a2⟩:=hf c0 ah ab;rw[L,hu];dsimp only;rw[<-a1];by_cases hs:(f x.p.e x.q.e).2=Y;.rw[Q5 hs];refine⟨hs,λaB hL V w=>?_⟩;cases hL;rw[Q5 rfl,Zz,Zz,Zst (a2 hs)];try rfl
 grind
theorem Ze4{f g bV p0 q0}:∀{ps m},xb bV ps m->(∀x∈ps,nB p0 q0 x)->(∀x∈ps,x.of=0->x.p.D=3->x.q.D=3->fE (f x.p.e x.q.e) (g x.p.e x.q.e))->(iz f ps).isSome=(J4 g m).isSome/\∀a b,iz f ps=A a->J4 g m=A b->∀V w,Zz V a w=Zz V b w|[],m,h,_,_=>by have h:m=[]:=h;subst h;refine⟨rfl,λa b s hb=>?_⟩;cases s;cases hb;simp|x::r,m,h,hok,hf=>by rw[zc]at h;obtain⟨m1,m2,rfl,hm,⟨ae,_,s,hp,hq⟩,hr⟩:=h;obtain⟨i1,i2⟩:=Ze4 hr (λy hy=>hok y (Q4 _ hy)) λy hy=>hf y (Q4 _ hy);have hx:=hok x Q6;obtain⟨j1,j2⟩:=Zva (f:=f) (g:=g) ae hm s (λh=>⟨(hp h).1,(hp h).2.2⟩) (λh=>⟨(hq h).1,(hq h).2.2⟩) (λh=>⟨(hx.dF h).1,(hx.dF h).2.1⟩) (hf x Q6);rw[iz,RT];cases hs:J4 g m1 with|none=>grind|some aB=>rw[hs]at j1;rw[Q5 (by rw[j1];rfl),Qp,XD,XD];refine⟨i1,λa b s hb V w=>?_⟩;obtain⟨a',au,rfl⟩:=Qf.1 s;obtain⟨b',aq,rfl⟩:=Qf.1 hb;grind[Iv]
theorem ZsM{f g p q}(hp:lR p)(hq:lR q)(hf:∀a b,dB p a->dB q b->a.D=3->b.D=3->fE (f a.e b.e) (g a.e b.e)):(je f p q).isSome=(o6 g p q).isSome/\∀a b,je f p q=A a->o6 g p q=A b->∀V w,Zz V a w=Zz V b w:=by obtain⟨ok,l,m,e1,e2,e3,e4⟩:=Zko 1 (.inl rfl) _ p q [] (Zn 0 1 p) (Zn 0 2 q) [] (Qa _) hp hq (xr 1 p 0) (xr 2 q 0);obtain⟨i1,_⟩:=yn _ p q [] (Qa _) (λo s=>(hp o s).1) λo s=>(hq o s).1;unfold je o6;rw[e2,e3,e1];cases ok with|false=>grind|true=>obtain⟨ps,e,h,_,_⟩:=i1 e2;rw[e1,Q5 rfl]at e;simp only[Qn]at e;subst e;simp only[Xa,Qn];exact Ze4 (e4 rfl).1 h λx hx h0 h1 h2=>hf x.p x.q ((h x hx).pp O).1 ((h x hx).qq O).1 h1 h2
theorem Nz{s n}(hn:n<=s){l}(h:dM aV.S s l):JZ l n=aT:=by unfold JZ;rw[XN];intro w hw;have:=lf h w hw;grind
theorem qt(a)(r):JZ (a::r) a.S=A a:=by simp[JZ]
theorem pQ{a n}(h:a.S<n)(r):JZ (a::r) n=JZ r n:=by unfold JZ;grind
theorem qv(l):Y7 l []=l:=by cases l<;>rw[Y7]
theorem qx:∀k(a b:List Int)h,J a+J b<=k->dM id h a->dM id h b->∀n∈Y7 a b,h<n:=by intro k;induction k with
 |zero=>simp_all[Y7]|succ k ih=>intro a b h hk ha hb n s;match a,b with
  |[],b=>rw[Y7]at s;exact lf hb n s|x::a,[]=>rw[qv]at s;exact lf ha n s|x::a,y::b=>
   simp only[Qd]at hk;have h1:h<x:=ha.1;have h2:h<y:=hb.1;rw[Y7]at s;split at s
   .rename_i aa;rcases Qe.1 s with rfl|s;.exact h1
    .have:=ih a (y::b) x (by grind) ha.2 ⟨aa,hb.2⟩ n s;omega
   .split at s
    .rename_i aa;rcases Qe.1 s with rfl|s;.exact h2
     .have:=ih (x::a) b y (by grind) ⟨aa,ha.2⟩ hb.2 n s;omega
    .have aa:x=y:=O;subst aa;rcases Qe.1 s with rfl|s;.exact h1
     .have:=ih a b x O ha.2 hb.2 n s;omega
theorem Yb{β S}:∀{l:List β}{s},dM S s l->dM id s (l.map S)|[],_,_=>trivial|_::_,_,h=>⟨h.1,Yb h.2⟩
theorem Au{p q p' q'}:∀{l},(∀n∈l,JZ p n=JZ p' n/\JZ q n=JZ q' n)->jh p q l=jh p' q' l|[],_=>rfl|n::r,h=>by rw[jh,jh,(h n Q6).1,(h n Q6).2,Au λm s=>h m (Q4 _ s)]
theorem ZjL:∀{p s},dM aV.S s p->jh p [] (p.map aV.S)=A p|[],_,_=>rfl|a::r,s,h=>by rw[Qu,jh,qt,show JZ [] a.S=aT from rfl];dsimp only;rw[Au (p':=r) (q':=[]) λn hn=>⟨pQ (lf (Yb h.2) n hn) r,rfl⟩,ZjL h.2];try rfl
theorem Zh8:∀{q s},dM aV.S s q->jh [] q (q.map aV.S)=A q|[],_,_=>rfl|a::r,s,h=>by rw[Qu,jh,qt,show JZ [] a.S=aT from rfl];dsimp only;rw[Au (p':=[]) (q':=r) λn hn=>⟨rfl,pQ (lf (Yb h.2) n hn) r⟩,Zh8 h.2];try rfl
theorem Zh9:∀k(p q:List aV)h,J p+J q<=k->dM aV.S h p->dM aV.S h q->jh p q (Y7 (p.map aV.S) (q.map aV.S))=Zk aV.S Jk p q:=by
 intro k;induction k with
 |zero=>
  intro p q h hk s hq;have e1:p=[]:=Q7 O;have e2:q=[]:=Q7 O;subst e1 e2;rw[QG,Y7,Zk];try rfl|succ k ih=>intro p q h hk s hq;match p,q with
  |[],q=>rw[QG,Y7,Zk,Zh8 hq]|a::p,[]=>rw[QG,qv,Zk,ZjL s]|a::p,b::q=>
   simp only[Qd]at hk;rw[Qu,Qu,Y7,Zk];by_cases h1:a.S<b.S
   .rw[Q5 h1,Q5 h1,jh,qt,Nz (Qz _) (l:=b::q) ⟨h1,hq.2⟩];dsimp only;have hb:dM aV.S a.S (b::q):=⟨h1,hq.2⟩;rw[show b.S::q.map aV.S=(b::q).map aV.S from rfl];rw[Au (p':=p) (q':=b::q) λn hn=>⟨pQ (qx _ _ _ a.S (Qa _) (Yb s.2) (Yb hb) n hn) p,rfl⟩];rw[ih p (b::q) a.S (by simp only[Qd];omega) s.2 hb]
   .rw[Q0 h1,Q0 h1];by_cases h2:b.S<a.S;.rw[Q5 h2,Q5 h2,jh,qt,Nz (Qz _) (l:=a::p) ⟨h2,s.2⟩];dsimp only;have ha:dM aV.S b.S (a::p):=⟨h2,s.2⟩;rw[show a.S::p.map aV.S=(a::p).map aV.S from rfl];rw[Au (p':=a::p) (q':=q) λn hn=>⟨rfl,pQ (qx _ _ _ b.S (Qa _) (Yb ha) (Yb hq.2) n hn) q⟩];rw[ih (a::p) q b.S (by simp only[Qd];omega) ha hq.2]
    .rw[Q0 h2,Q0 h2,jh];have e:a.S=b.S:=O;have ab:dM aV.S a.S q:=by rw[e];exact hq.2
     rw[qt,e,qt];dsimp only;rw[Au (p':=p) (q':=q) λn hn=>by have:=qx _ _ _ a.S (Qa _) (Yb s.2) (Yb ab) n hn;exact⟨pQ this p,pQ O q⟩];rw[ih p q a.S O s.2 ab]
theorem Fy{s n}(hn:n<=s){l:List bP}(h:dM aW.S s l):Yc l n=W.nil:=by
 unfold Yc;rw[XN.2];.try rfl
 .intro w hw;have:=lf h w hw;grind
theorem pe(a)(r):Yc (a::r) a.S=a.e:=by simp[Yc]
theorem pH{a n}(h:a.S<n)(r):Yc (a::r) n=Yc r n:=by unfold Yc;grind
theorem Aw{g p q p' q'}:∀{l},(∀n∈l,Yc p n=Yc p' n/\Yc q n=Yc q' n)->iS g p q l=iS g p' q' l|[],_=>rfl|n::r,h=>by rw[iS,iS,(h n Q6).1,(h n Q6).2,Aw λm s=>h m (Q4 _ s)]
section
variable{g:W->W->W×Bool}
theorem ZjO:∀{p:List bP}{s},dM aW.S s p->(∀k∈p,g k.e W.nil=(k.e,Y))->iS g p [] (p.map aW.S)=A p|[],_,_,_=>rfl|a::r,s,h,hg=>by rw[Qu,iS,pe,show Yc [] a.S=W.nil from rfl,hg a Q6];dsimp only;rw[Q5 rfl,Aw (p':=r) (q':=[]) λn hn=>⟨pH (lf (Yb h.2) n hn) r,rfl⟩,ZjO h.2 λk hk=>hg k (Q4 _ hk)];try rfl
theorem Zhb:∀{q:List bP}{s},dM aW.S s q->(∀k∈q,g W.nil k.e=(k.e,Y))->iS g [] q (q.map aW.S)=A q|[],_,_,_=>rfl|a::r,s,h,hg=>by rw[Qu,iS,pe,show Yc [] a.S=W.nil from rfl,hg a Q6];dsimp only;rw[Q5 rfl,Aw (p':=[]) (q':=r) λn hn=>⟨rfl,pH (lf (Yb h.2) n hn) r⟩,Zhb h.2 λk hk=>hg k (Q4 _ hk)];try rfl
theorem Zhc:∀k(p q:List bP)h,J p+J q<=k->dM aW.S h p->dM aW.S h q->(∀k∈p,g k.e W.nil=(k.e,Y))->(∀k∈q,g W.nil k.e=(k.e,Y))->iS g p q (Y7 (p.map aW.S) (q.map aW.S))=Zk aW.S (fV g) p q:=by intro k;induction k with
 |zero=>intro p q h hk s hq gp gq;have e1:p=[]:=Q7 O;have e2:q=[]:=Q7 O;subst e1 e2;rw[QG,Y7,Zk];try rfl|succ k ih=>
  intro p q h hk s hq gp gq;match p,q with
  |[],q=>rw[QG,Y7,Zk,Zhb hq gq]|a::p,[]=>rw[QG,qv,Zk,ZjO s gp]|a::p,b::q=>
   simp only[Qd]at hk;have af:∀k∈p,g k.e W.nil=(k.e,Y):=λk hk=>gp k (Q4 _ hk);have ai:∀k∈q,g W.nil k.e=(k.e,Y):=λk hk=>gq k (Q4 _ hk);rw[Qu,Qu,Y7,Zk];by_cases h1:a.S<b.S
   .rw[Q5 h1,Q5 h1,iS,pe,Fy (Qz _) (l:=b::q) ⟨h1,hq.2⟩,gp a Q6];dsimp only;have hb:dM aW.S a.S (b::q):=⟨h1,hq.2⟩;rw[show b.S::q.map aW.S=(b::q).map aW.S from rfl];rw[Q5 rfl,Aw (p':=p) (q':=b::q) λn hn=>⟨pH (qx _ _ _ a.S (Qa _) (Yb s.2) (Yb hb) n hn) p,rfl⟩];rw[ih p (b::q) a.S (by simp only[Qd];omega) s.2 hb af gq]
   .rw[Q0 h1,Q0 h1];by_cases h2:b.S<a.S;.rw[Q5 h2,Q5 h2,iS,pe,Fy (Qz _) (l:=a::p) ⟨h2,s.2⟩,gq b Q6];dsimp only;have ha:dM aW.S b.S (a::p):=⟨h2,s.2⟩;rw[show a.S::p.map aW.S=(a::p).map aW.S from rfl];rw[Q5 rfl,Aw (p':=a::p) (q':=q) λn hn=>⟨rfl,pH (qx _ _ _ b.S (Qa _) (Yb ha) (Yb hq.2) n hn) q⟩];rw[ih (a::p) q b.S (by simp only[Qd];omega) ha hq.2 gp ai]
    .rw[Q0 h2,Q0 h2,iS];have e:a.S=b.S:=O;have ah:dM aW.S a.S q:=by rw[e];exact hq.2
     rw[pe,show Yc (b::q) a.S=b.e by rw[e];exact pe b q];rw[Aw (p':=p) (q':=q) λn hn=>by have:=qx _ _ _ a.S (Qa _) (Yb s.2) (Yb ah) n hn;exact⟨pH this p,pH O q⟩];rw[ih p q a.S O s.2 ah af ai];try rfl
end
theorem Zw0{f g}:∀k(p q:List bP),J p+J q<=k->(∀a∈p,∀b∈q,fE (f a.e b.e) (g a.e b.e))->(Zk aW.S (fV f) p q).isSome=(Zk aW.S (fV g) p q).isSome/\∀a b,Zk aW.S (fV f) p q=A a->Zk aW.S (fV g) p q=A b->Jo a=Jo b:=by
 intro k;induction k with
 |zero=>simp_all[Zk]|succ k ih=>
  intro p q hk h;match p,q with
  |[],q=>rw[Zk,Zk];grind|a::p,[]=>rw[Zk,Zk];grind|a::p,b::q=>
   simp only[Qd]at hk;rw[Zk,Zk];have step:∀(x y:bP)(s t:Option (List bP)),lF x=lF y->(s.isSome=t.isSome/\∀a b,s=A a->t=A b->Jo a=Jo b)->(s.map (x::·)).isSome=(t.map (y::·)).isSome/\∀a b,s.map (x::·)=A a->t.map (y::·)=A b->Jo a=Jo b:=by intro x y s t ah⟨i1,i2⟩;refine⟨by grind,λc d L hd=>?_⟩;obtain⟨c',af,rfl⟩:=Qf.1 L;obtain⟨d',ae,rfl⟩:=Qf.1 hd;rw[Jo,Jo,ah,i2 c' d' af ae]
   by_cases h1:a.S<b.S;.rw[Q5 h1,Q5 h1];exact step a a _ _ rfl (ih p (b::q) (by grind) λx hx y hy=>h x (Q4 _ hx) y hy)
   .rw[Q0 h1,Q0 h1];by_cases h2:b.S<a.S;.rw[Q5 h2,Q5 h2];exact step b b _ _ rfl (ih (a::p) q (by grind) λx hx y hy=>h x hx y (Q4 _ hy))
    .rw[Q0 h2,Q0 h2];obtain⟨o1,o2⟩:=h a Q6 b Q6;have e:(fV f a b).2=(fV g a b).2:=o1;rw[<-e];by_cases L:(fV f a b).2=Y;.rw[Q5 L,Q5 L];refine step _ _ _ _ ?_ (ih p q O λx hx y hy=>h x (Q4 _ hx) y (Q4 _ hy));show(⟨a.S,Zd (f a.e b.e).1⟩:bP)=⟨a.S,Zd (g a.e b.e).1⟩;rw[o2 L]
     grind
theorem No(n){e}(h:e.D≠0):gF (n+1) e W.nil=(e,Y)/\gF (n+1) W.nil e=(e,Y):=by
 constructor
 .show lK _ _ _=_;unfold lK;rw[Q0 h,Q5 (show W.nil.D=0 from rfl)]
 try rfl
theorem RQ(w)(a:List bP):Zd (.mk 2 H.nil H.nil w a 0 [])=.mk 2 H.nil H.nil w (Jo a) 0 []:=by rfl
theorem ZFC(l)(os:List Op):Zd (.mk 3 H.nil H.nil [] [] l os)=.mk 3 H.nil H.nil [] [] l (Zj (Zz l os ⟨[],[],[]⟩)).bB:=by rfl
theorem ZBb:∀n(p q:W)d d',Z1 p+Z1 q<=n->n<=18000000000->Z3 p d=Y->Z3 q d'=Y->fE (lC n p q) (gF n p q):=by intro n;induction n with|zero=>intro p q d d' h;obtain⟨k,o,nw,w,ks,l,os⟩:=p;simp only[Z1]at h;omega|succ n ih=>
  intro p q d d' hn hN hp hq;have rp:=Zc hp;have rq:=Zc hq;show fE (mE (lC n) p q) (lK (gF n) p q);unfold mE lK;by_cases p0:p.D=0;.rw[Q5 p0,Q5 p0];exact⟨rfl,λ_=>rfl⟩
  rw[Q0 p0,Q0 p0];by_cases q0:q.D=0;.rw[Q5 q0,Q5 q0];exact⟨rfl,λ_=>rfl⟩
  rw[Q0 q0,Q0 q0];have hB:∀(e:W)(t:H),dX e t=(YH (bX Y e t),(bX Y e t).isSome):=λe t=>by grind[dX,pr]
  by_cases p1:p.D=1;.rw[Q5 p1,Q5 p1,hB];exact⟨rfl,λ_=>rfl⟩
  rw[Q0 p1,Q0 p1];by_cases q1:q.D=1;.rw[Q5 q1,Q5 q1,hB];exact⟨rfl,λ_=>rfl⟩
  rw[Q0 q1,Q0 q1];by_cases s:p.D=q.D
  .by_cases p2:p.D=2
   .have l1:=(rp.iy O).1;have l2:=(rq.iy O).1;rw[Q0 O,Q0 (show¬p.D≠q.D by omega),Q5 p2,Q5 p2];rw[Zh9 _ p.aS q.aS (-1) (Qa _) (YJ rp.aS) (YJ rq.aS)];have al:1<=n\/p.X=[]/\q.X=[]:=by
     by_cases h1:p.X=[]
     .by_cases h2:q.X=[];.grind
      .obtain⟨k,s⟩:=XU _ h2;have:=ZA s;left;obtain⟨_,⟨k,o,nw,w,ks,l,os⟩⟩:=k;grind[Z1]
     .obtain⟨k,s⟩:=XU _ h1;have:=ZA s;left;obtain⟨_,⟨k,o,nw,w,ks,l,os⟩⟩:=k;grind[Z1]
    have hm:iS (gF n) p.X q.X (Y7 (p.X.map aW.S) (q.X.map aW.S))=Zk aW.S (fV (gF n)) p.X q.X:=by
     rcases al with h|⟨h1,h2⟩;.obtain⟨m,rfl⟩:∃m,n=m+1:=⟨n-1,O⟩;exact Zhc _ p.X q.X (-1) (Qa _) (Jh rp.X) (Jh rq.X) (λk s=>(No m (Zl rp.X k s).1.2.2).1) λk s=>(No m (Zl rq.X k s).1.2.2).2
     .rw[h1,h2,QG,Y7,Zk];try rfl
    rw[hm];obtain⟨i1,i2⟩:=Zw0 (f:=lC n) (g:=gF n) _ p.X q.X (Qa _) λa ha b hb=>by have:=ZA ha;have:=ZA hb;exact ih a.e b.e _ _ O O (Zl rp.X a ha).2 (Zl rq.X b hb).2
    cases hw:Zk aV.S Jk p.aS q.aS with|none=>exact⟨rfl,λh=>by cases h⟩|some aB=>
     rw[Q5 (show(A aB).isSome=Y from rfl)];cases hf:Zk aW.S (fV (lC n)) p.X q.X with
     |none=>
      rw[hf]at i1;cases hg:Zk aW.S (fV (gF n)) p.X q.X with
      |none=>exact⟨rfl,λh=>by cases h⟩|some b=>grind
     |some a=>
      rw[hf]at i1;cases hg:Zk aW.S (fV (gF n)) p.X q.X with
      |none=>grind|some b=>refine⟨rfl,λ_=>?_⟩;show Zd (.mk 2 H.nil H.nil aB a 0 [])=Zd (.mk 2 H.nil H.nil aB b 0 []);rw[RQ,RQ,i2 a b hf hg]
   .have az:p.D=3:=by have:=rp.D;omega
    have ay:q.D=3:=O;rw[Q0 (show¬p.D≠q.D by omega),Q0 p2];by_cases hl:p.V=q.V
    .rw[Q0 O,Q0 p2,Q0 O];have ok:∀(e:W)(d:Int),Z3 e d=Y->Z1 e<=18000000000->lR e.ops:=λe d h hm o ho=>by refine⟨Zr h o ho,?_⟩;obtain⟨kk,ol,nn,w,ks,l,os⟩:=e;have:=Dr (os:=os) ho;grind[Z1]
     obtain⟨i1,i2⟩:=ZsM (f:=lC n) (g:=gF n) (ok p d hp O) (ok q d' hq O) λa b ha hb h1 h2=>by
      obtain⟨o1,m1,k1,e1,_⟩:=ha;obtain⟨o2,m2,k2,e2,_⟩:=hb;have:=Yf m1;have:=Yf m2;rw[e1,e2];exact ih _ _ _ _ O O (Yi (bM rp.ops m1) O) (Yi (bM rq.ops m2) O)
     cases hf:je (lC n) p.ops q.ops with
     |none=>rw[hf]at i1;cases hg:o6 (gF n) p.ops q.ops with|none=>exact⟨rfl,λh=>by cases h⟩|some b=>grind
     |some a=>
      rw[hf]at i1;cases hg:o6 (gF n) p.ops q.ops with
      |none=>grind|some b=>
       refine⟨rfl,λ_=>?_⟩;show Zd (.mk 3 H.nil H.nil [] [] p.V a)=Zd (.mk 3 H.nil H.nil [] [] p.V b);rw[ZFC,ZFC,i2 a b hf hg]
    .rw[Q5 (.inr hl),Q0 p2,Q5 hl];exact⟨rfl,λh=>by cases h⟩
  .rw[Q5 (.inl s),Q5 s];exact⟨rfl,λh=>by cases h⟩
theorem ZHf{p q d h}(s:Z1 p+Z1 q<=18000000000)(hp:Z3 p d=Y)(hq:Z3 q h=Y):fE (Jc p q) (fC p q):=ZBb _ p q d h (Qa _) s hp hq
end Go.AM.YtpjenobkibfpcaaGreat
namespace Go.AM.YtpjenobkibfpcaaGreat
open Go.AM Go.Proofs
theorem xg(e):18<=dZ e:=by have:=Ji e;have:=Jg e.bH;have:=Jg e.new;omega
theorem Zzs(o n):dZ (.mk 1 o n [] [] 0 [])=16+Zo o+Zo n:=by rfl
mutual theorem xX:∀(e:W),dZ (Zm e)=dZ e
 |.mk k o n w ks l os=>by
  have s:=Zno ks;have h:=Znn os;simp only[Zm,dZ,QF];omega theorem Zno:∀(ks:List (aW W)),gY (YE ks)=gY ks
 |[]=>rfl|k::r=>by
  have s:=Zw8 k;have h:=Zno r;simp only[YE,gY];omega theorem Zw8:∀(k:aW W),nA (Jq k)=nA k
 |⟨a,e⟩=>by
  have:=xX e;simp only[Jq,nA];omega theorem Znn:∀(os:List (bI W)),fK (YK os)=fK os
 |[]=>rfl|o::r=>by
  have s:=ZB7 o;have h:=Znn r;simp only[YK,fK];omega theorem ZB7:∀(o:bI W),jT (YD o)=jT o
 |⟨k,n,l,e⟩=>by
  have:=xX e;rw[rG];dsimp only;split;.try rfl
  .split;.try rfl
   .split;.simp only[jT];omega
    .try rfl end
theorem Bh:∀(a b:List Op),fK (a++b)=fK a+fK b|[],b=>by simp[fK]|o::r,b=>by simp only[Qw,fK,Bh r b];omega
def pW(w:dA):Nat:=fK w.bB+(Ze w.gone+if J w.gone=0 then 0 else 34)+(Ze w.bO+if J w.bO=0 then 0 else 34)
theorem qK:dZ W.nil=18:=rfl
theorem T7(w):fK (Zj w).bB=pW w:=by
 simp only[Zj,kU,pW,Bh];by_cases h1:J w.gone=0
 .rw[Q5 h1,Q5 h1,Q7 h1];by_cases h2:J w.bO=0;.rw[Q5 h2,Q5 h2,Q7 h2];try rfl
  .rw[Q0 h2,Q0 h2];simp only[fK,jT,qK,Ze];omega
 .rw[Q0 h1,Q0 h1];by_cases h2:J w.bO=0;.rw[Q5 h2,Q5 h2,Q7 h2];simp only[fK,jT,qK,Ze];omega
  .rw[Q0 h2,Q0 h2];simp only[fK,jT,qK];omega
theorem Zzq(w)(n):pW (Yt w n)<=pW w+34:=by
 have h:=T7 w;have e:pW (Yt w n)=fK (iE (Zj w).bB n):=rfl;rw[e,<-h];rcases tm (Zj w).bB n with e|⟨a,q,e1,_,e3⟩;.rw[e,Bh];simp only[fK,jT,qK,Ze];omega
 .rw[e3,e1,Bh,Bh];simp only[fK,jT,rU];omega
mutual theorem qJ:∀(e:W),dZ (Zd e)<=dZ e
 |.mk k o n w ks l os=>by
  have h:=Ztm ks;have s:=Ztl l os ⟨[],[],[]⟩;have h3:=ZX o;have h4:=ZX n;have:=Jg o;have:=Jg n;have hf:=T7 (Zz l os ⟨[],[],[]⟩);have hz:pW ⟨[],[],[]⟩=0:=rfl;rw[Zd];split;.simp only[dZ,gY,fK,Ql];omega
  .split;.simp only[dZ,fK,oM];omega
   .split;.simp only[dZ,gY,oM,Ql];omega
    .simp only[dZ,gY,fK,oM,Ql];omega theorem Ztm:∀(ks:List (aW W)),gY (Jo ks)<=gY ks|[]=>Qa _|k::r=>by have s:=ZB8 k;have h:=Ztm r;simp only[Jo,gY];omega theorem ZB8:∀(k:aW W),nA (lF k)<=nA k|⟨a,e⟩=>by have:=qJ e;simp only[lF,nA];omega theorem Ztl(V:Int):∀(os:List (bI W))(w:dA),pW (Zz V os w)<=pW w+fK os
 |[],w=>Qa _|o::r,w=>by
  have s:=ZH9 V o w;have h:=Ztl V r (j9 V o w);simp only[Zz,fK];omega theorem ZH9(V:Int):∀(o:bI W)(w:dA),pW (j9 V o w)<=pW w+jT o
 |⟨k,n,l,e⟩,w=>by
  have s:=qJ e;have h:=xg e;have hl:=G8 l;have L:=λa b=>Jl a b;rw[j9];simp only[jT];split;.have:=Zzq w n;omega
  .split
   .have:=Jl w.gone (Z6 l);simp only[pW];grind
   .split
    .have:=Jl w.bO (Z6 l);simp only[pW];grind
    .split
     .split;.have:=Zzq w 1;omega
      .have hf:=T7 w;show fK ((Zj w).bB++[⟨3,0,[],Zd e⟩])+_+_<=_;rw[Bh,hf];simp only[fK,jT,Ze,Ql,Q5];omega
     .omega end
def ZG(φ:Op->Int):List Op->Int|[]=>0|o::r=>φ o+ZG φ r
theorem zd(φ):∀a b,ZG φ (a++b)=ZG φ a+ZG φ b|[],b=>by simp[ZG]|o::r,b=>by simp only[Qw,ZG,zd φ r b];omega
def vM(φ:Op->Int):Prop:=∀o n,ZH o->1<=n->¬Z4 o<=n->φ (ZD o n)+φ (iN o n)=φ o
theorem DY{φ}(hφ:vM φ){p n}(hp:∀o∈p,ZH o)(hl:J p≠0)(h1:1<=n):φ (ZD (aR p 0 Op.nil) n)+ZG φ (ZP p n)=ZG φ p/\∀o∈ZP p n,ZH o:=by cases p with
 |nil=>grind|cons o r=>
  have ho:=hp o Q6;unfold ZP;simp only[Qm,QE,X9];by_cases h:Z4 o<=n
  .rw[Q5 h];have e:ZD o n=o:=by unfold ZD;rw[if_pos h]
   rw[e];exact⟨rfl,λx s=>hp x (Q4 _ s)⟩
  .rw[Q0 h];refine⟨by simp only[ZG];have:=hφ o n ho h1 h;omega,λx s=>?_⟩;rcases Qe.1 s with rfl|s;.exact(Dq ho h1 h).1
   grind
theorem D6{φ ψ}(hφ:vM φ)(hψ:vM ψ)(a):∀k(p q:List Op)bB,J p+J q<=k->(∀o∈p,ZH o)->(∀o∈q,ZH o)->(ZC a 2 p q bB).2.1=Y->∃s,(ZC a 2 p q bB).1=bB++s/\ZG φ (jF s)=ZG φ p/\ZG ψ (jZ s)=ZG ψ q/\J s<=J p+J q:=by
 intro k;induction k with
 |zero=>intro p q bB hk hp hq h;have e1:p=[]:=Q7 O;have e2:q=[]:=Q7 O;subst e1 e2;rw[ZC,QC (by simp[gL]),QC (by simp[gL]),QW (by simp)];exact⟨[],by simp,rfl,rfl,by simp⟩|succ k ih=>
  intro p q bB hk hp hq h;rw[ZC]at h⊢;by_cases h1:gL a p=Y
  .rw[QW h1]at h⊢;obtain⟨g1,_⟩:=YL.1 h1;cases p with
   |nil=>grind|cons o r=>
    simp only[Qm,QE,X9]at h⊢;obtain⟨s,e,f1,f2,f3⟩:=ih r q _ (by grind) (λx hx=>hp x (Q4 _ hx)) hq h;refine⟨⟨1,o,Op.nil⟩::s,by grind,?_,?_,by grind⟩
    .show ZG φ (o::jF s)=_;simp only[ZG];omega
    .exact f2
  .rw[QC h1]at h⊢;by_cases h2:gL 2 q=Y
   .rw[QW h2]at h⊢;obtain⟨g1,_⟩:=YL.1 h2;cases q with
    |nil=>grind|cons o r=>
     simp only[Qm,QE,X9]at h⊢;obtain⟨s,e,f1,f2,f3⟩:=ih p r _ (by grind) hp (λx hx=>hq x (Q4 _ hx)) h;refine⟨⟨2,Op.nil,o⟩::s,by grind,f1,?_,by grind⟩;show ZG ψ (o::jZ s)=_;simp only[ZG];omega
   .rw[QC h2]at h⊢;by_cases h3:J p=0\/J q=0
    .rw[QW h3]at h⊢;by_cases h4:decide ( J p=0)=decide ( J q=0)
     .rw[Q5 h4];have h5:J p=0/\J q=0:=by have:=decide_eq_decide.1 h4;omega
      rw[Q7 h5.1,Q7 h5.2];exact⟨[],by simp,rfl,rfl,by simp⟩
     grind
    .rw[QC h3]at h⊢;have l1:J p≠0:=O;have l2:J q≠0:=O;have p1:=ZE (hp _ (Zh (l:=p) (i:=0) O Op.nil));have p2:=ZE (hq _ (Zh (l:=q) (i:=0) O Op.nil));generalize hn:min (Z4 (aR p 0 Op.nil)) (Z4 (aR q 0 Op.nil))=n at h⊢;obtain⟨s1,s2⟩:=DY hφ hp l1 (n:=n) O;obtain⟨t1,t2⟩:=DY hψ hq l2 (n:=n) O;have c1:=Yw p n l1;have c2:=Yw q n l2;have c3:Z4 (aR p 0 Op.nil)<=n->J (ZP p n)<J p:=λh=>Yv p _ l1 h;have c4:Z4 (aR q 0 Op.nil)<=n->J (ZP q n)<J q:=λh=>Yv q _ l2 h;obtain⟨s,e,f1,f2,f3⟩:=ih (ZP p n) (ZP q n) _ O s2 t2 h;refine⟨⟨0,ZD (aR p 0 Op.nil) n,ZD (aR q 0 Op.nil) n⟩::s,by grind,?_,?_,by grind⟩;.show ZG φ (ZD (aR p 0 Op.nil) n::jF s)=_;simp only[ZG];omega
     .show ZG ψ (ZD (aR q 0 Op.nil) n::jZ s)=_;simp only[ZG];omega
def φA(o:Op):Int:=if o.D=2 then 0 else Z4 o
def φB(o:Op):Int:=if o.D=1 then 0 else Z4 o
def φC(o:Op):Int:=Ze o.l+dZ o.e-18
theorem tS:∀l,ZG φA l=fO l|[]=>rfl|o::r=>by simp only[ZG,fO,φA,tS r]
theorem mv:∀l,ZG φB l=JO l|[]=>rfl|o::r=>by simp only[ZG,JO,φB,mv r]
theorem AH:∀l,ZG φC l+34*J l=fK l|[]=>rfl|o::r=>by have:=AH r;simp only[ZG,fK,φC,rU,Qd];omega
theorem JD(o)(n):(iN o n).D=o.D:=by unfold iN;split<;>rfl
theorem Ztt{o n}(h:ZH o)(h1:1<=n)(s:¬Z4 o<=n):Z4 (iN o n)=Z4 o-n:=by
 obtain⟨_,_,v3,_⟩:=D4 (a:=1) h h1 s;have hl:=YN o;rcases h with⟨k0,k1,k2,k3⟩|⟨k0,k1,k2,k3⟩|⟨k0,k1,k2⟩;.unfold iN;rw[Q5 k0,YN];grind
 .unfold iN;rw[Q0 O,YN];grind
 omega
theorem ZOI:vM φA:=by intro o n h s hn;obtain⟨_,_,v3,_⟩:=D4 (a:=1) h s hn;have:=Ztt h s hn;unfold φA;rw[Jy,JD,v3,this];omega
theorem Lr:vM φB:=by intro o n h s hn;obtain⟨_,_,v3,_⟩:=D4 (a:=1) h s hn;have:=Ztt h s hn;unfold φB;rw[Jy,JD,v3,this];omega
theorem H0:vM φC:=by
 intro o n h h1 s;have hl:=YN o;unfold φC ZD iN;rw[Q0 s];rcases h with⟨k0,k1,k2,k3⟩|⟨k0,k1,k2,k3⟩|⟨k0,k1,k2⟩
 .rw[Q5 k0,Q5 k0];dsimp only;rw[k3,k1,qK];simp[Ze]
 .rw[Q0 O,Q0 O];dsimp only;have:=Jl (o.l.take (G n)) (o.l.drop (G n));rw[QM]at this;rw[k3,qK];omega
 omega
