import Derived.Test.YtnfbomhidainjaaGreatTKL21a
import Derived.Test.YtnfbomhidainjaaGreatTKL21
set_option linter.unusedSimpArgs false
set_option linter.unusedVariables false
namespace Go.AM.YtnfbomhidainjaaGreat
open Go.AM Go.Proofs
def Rx(x y:List Tree×List Tree):Prop:=EqvL x.1 y.1/\EqvL x.2 y.2
theorem Rx.rfl'(a:Option (List Tree×List Tree)):OptR Rx a a:=by cases a;exact trivial;exact⟨rfl,rfl⟩
theorem Rx.of{a b:Option (List Tree×List Tree)}(h:a=b):OptR Rx a b:=by rw[h];exact Rx.rfl' b
theorem OptR.trans'{α:Type}{R:α->α->Prop}(ht:∀x y z,R x y->R y z->R x z){a b c:Option α}(h1:OptR R a b)(h2:OptR R b c):OptR R a c:=by cases a<;>cases b<;>cases c<;>first|exact trivial|exact h1.elim|exact h2.elim|exact ht _ _ _ h1 h2
theorem Rx.trans{a b c:Option (List Tree×List Tree)}(h1:OptR Rx a b)(h2:OptR Rx b c):OptR Rx a c:=OptR.trans' (λ_ _ _ p q=>⟨Xm p.1 q.1,Xm p.2 q.2⟩) h1 h2
theorem Z3n(r:Bool):∀(a b:List Op)(rest out:List Tree),Y6 r (a++b) rest out=(Y6 r a rest out).bind λx=>Y6 r b x.2 x.1|[],b,rest,out=>by rfl|o::s,b,rest,out=>by rw[Qo,Y6,Y6];cases h:Z5L r o rest out with|none=>rfl|some x=>rw[Qr,Qr];exact Z3n r s b _ _
theorem Z3m(r:Bool)(o:Op)(rest out:List Tree):Y6 r [o] rest out=Z5L r o rest out:=by rw[Y6];cases Z5L r o rest out with|none=>rfl|some x=>rfl
theorem Z7d(r:Bool)(a:List Op)(o:Op)(rest out:List Tree):Y6 r (a++[o]) rest out=(Y6 r a rest out).bind λx=>Z5L r o x.2 x.1:=by rw[Z3n];congr 1;funext x;exact Z3m r o _ _
theorem Z7c{r:Bool}:∀{os:List Op}{rest out:List Tree}{x:List Tree×List Tree},Y6 r os rest out=some x->∃n,x.2=rest.drop n
 |[],rest,out,x,h=>by rw[Y6]at h;cases h;exact⟨0,by simp⟩|o::s,rest,out,x,h=>by
  rw[Y6]at h;obtain⟨y,d,hx⟩:=Qx.1 h;obtain⟨n,hn⟩:=Z7c hx;have:∃m,y.2=rest.drop m:=by
   rw[Yo]at d;split at d;.grind
   .split at d;.grind
    .split at d;.cases d;exact⟨0,by simp⟩
     .split at d;.cases d
      .obtain⟨u,_,e⟩:=Qn.1 d;grind
  obtain⟨m,hm⟩:=this;exact⟨m+n,by simp_all⟩
theorem ZuN(rest:List Tree):Z05 [] rest=true:=by unfold Z05;simp_all
theorem Zny(l rest:List Tree):Z05 (Z7 l) rest=Z05 l rest:=by unfold Z05;rw[Zdv,show(Z7 l).length=l.length by simp[Z7]]
theorem Z30(l rest:List Tree):Z05 l rest=true↔l.length<=rest.length/\Z7 l=Z7 (rest.take l.length):=by unfold Z05;rw[Q2,decide_eq_true_eq,Z82]
theorem ZuP(a b rest:List Tree):Z05 (a++b) rest=(Z05 a rest&&Z05 b (rest.drop a.length)):=by
 rw[QP,Q2,Z30,Z30,Z30];simp only[Q8,Qt];constructor
 .rintro⟨h1,d⟩;rw[Ju,List.take_add,Ju]at d;obtain⟨h3,h4⟩:=Kb d (by simp[Z7];omega);grind
 .rintro⟨⟨h1,d⟩,h3,h4⟩;refine⟨Yp,?_⟩;rw[Ju,List.take_add,Ju,d,h4]
theorem Zbz(s:Wst)(rest out:List Tree):Y6 false (Zc s).out rest out=(Y6 false s.out rest out).bind λx=>if Z05 s.gone x.2=true then some (x.1++s.brought,x.2.drop s.gone.length)else none:=by
 simp only[Zc,Z0R];rw[Z3n];congr 1;funext x;rw[Z3n];have d:Y6 false (if s.gone.length=0 then[]else[⟨1,0,s.gone,Edit.nil⟩]) x.2 x.1=if Z05 s.gone x.2=true then some (x.1,x.2.drop s.gone.length)else none:=by
  split
  .rename_i h;rw[Q0 h,ZuN,if_pos rfl,Y6];try rfl
  .rw[Z3m,Yo];rw[if_neg (by show¬(1:Int)=0;omega),if_pos rfl]
 have h2:∀y:List Tree×List Tree,Y6 false (if s.brought.length=0 then[]else[⟨2,0,s.brought,Edit.nil⟩]) y.2 y.1=some (y.1++s.brought,y.2):=by
  intro y;split;.rename_i h;rw[Q0 h,Qi,Y6]
  .rw[Z3m,Yo];rw[if_neg (by show¬(2:Int)=0;omega),if_neg (by show¬(2:Int)=1;omega),if_pos rfl]
 rw[d];split;.rw[Qr,h2]
 .try rfl
theorem ZDO{F:List Op}{n:Int}(hF:∀o∈F,0<=o.n)(hn:0<=n)(rest out:List Tree):Y6 false (Z1Q F n) rest out=Y6 false (F++[⟨0,n,[],Edit.nil⟩]) rest out:=by
 rcases JQ F n with h|⟨a,o,h1,h2,h3⟩;.rw[h]
 .rw[h3,h1,Z7d,Z7d,Z7d];cases hx:Y6 false a rest out with|none=>rfl|some x=>
   have d:=hF o (by rw[h1];simp);simp only[Qr];rw[Yo,Yo,if_pos h2,if_pos h2];simp only;have e:(o.n+n).toNat=o.n.toNat+n.toNat:=Yp;rw[e];by_cases c:o.n.toNat<=x.2.length
   .rw[if_pos c,Qr,Yo,if_pos rfl];simp only[Qt];by_cases c2:n.toNat<=x.2.length-o.n.toNat;.rw[if_pos c2,Y3,XR,Q7,<-List.take_add]
    grind
   .rw[if_neg c,JH];try rfl
def N0s(s:Wst):Prop:=∀o∈s.out,0<=o.n
theorem N0s.flush{s:Wst}(h:N0s s):∀o∈(Zc s).out,0<=o.n:=by
 intro o d;simp only[Zc,Z0R,Qf]at d;rcases d with d|d|d;.exact h o d
 .split at d;.cases d
  .simp only[Qd]at d;subst d;exact QY 0
 .split at d;.cases d
  .simp only[Qd]at d;subst d;exact QY 0
theorem N0s.keep{s:Wst}(h:N0s s){n:Int}(hn:0<=n):N0s (ZH s n):=by
 intro o d;simp only[ZH]at d;rcases JQ (Zc s).out n with e|⟨a,p,h1,h2,h3⟩
 .rw[e]at d;rcases Qf.1 d with d|d;.exact h.flush o d
  grind
 .rw[h3]at d;rcases Qf.1 d with d|d;.exact h.flush o (by grind)
  .simp only[Qd]at d;subst d;have:=h.flush p (by rw[h1];simp);grind
theorem Zrp{list d:Int}{o:Op}(h:Z9 list o d=true):0<=o.n:=by have r:=Yf h;cases r with|keep n h1=>grind|gone|come|into=>grind
theorem N0s.op{list d:Int}{s:Wst}{o:Op}(h:N0s s)(hr:Z9 list o d=true):N0s (JO list o s):=by
 rw[Z2s];split;.exact h.keep (Zrp hr)
 .split;.exact h
  .split;.exact h
   .split
    .split;.exact h.keep Yp
     .intro p hp;rcases Qf.1 hp with hp|hp;.exact h.flush p hp
      grind
    .exact h
def K9(list:Int)(l:List Tree):Prop:=(∀t∈l,RT_ t)/\(list=9->∀t∈l,t.kind=1)
theorem K9.drop{list:Int}{l:List Tree}(h:K9 list l)(n:Nat):K9 list (l.drop n):=⟨λt d=>h.1 t (Ql d),λe t d=>h.2 e t (Ql d)⟩
theorem Zrq{d:Int}:∀{l:List Tree},Yj 9 l d=true->∀t∈l,t.kind=1
 |[],_,t,ht=>by cases ht|a::r,h,t,ht=>by
  simp only[Yj,Q2]at h;rcases Q9.1 ht with rfl|ht;.have:=h.1.1;simpa[Z0P]using this
  .exact Zrq h.2 t ht
theorem RT_.k9{t:Tree}(h:RT_ t):K9 t.kind t.kids:=by
 refine⟨h.kids.1,λe=>?_⟩;obtain⟨⟨d,h⟩,_⟩:=h;obtain⟨k,w,ks⟩:=t;have e:k=9:=e;subst e;rw[Zb,JH,JH]at h;split at h;.cases h
 .rw[JH]at h;simp only[Q2]at h;exact Zrq h.2
theorem ZC6{list d:Int}{s:Wst}{o:Op}(hs:N0s s)(hr:Z9 list o d=true){rest:List Tree}(hk:K9 list rest)(out:List Tree)(ih:∀y,RT_ y->Z8 o.e d=true->OptR Eqv (doE false (ZM o.e) y) (doE false o.e y)):OptR Rx (Y6 false (Zc (JO list o s)).out rest out) ((Y6 false (Zc s).out rest out).bind λx=>Z5L false o x.2 x.1):=by
 have keep:∀n:Int,0<=n->Y6 false (Zc (ZH s n)).out rest out=(Y6 false (Zc s).out rest out).bind λx=>Z5L false ⟨0,n,[],Edit.nil⟩ x.2 x.1:=by
  intro n hn;have e:(Zc (ZH s n)).out=Z1Q (Zc s).out n:=by simp[Zc,Z0R,ZH]
  rw[e,ZDO hs.flush hn,Z7d]
 rw[Z2s];have r1:=ZfF hr;by_cases h0:o.kind=0;.rw[if_pos h0,keep _ (Zrp hr)];refine Rx.of ?_;congr 1;funext x;rw[Yo,Yo,if_pos rfl,if_pos h0]
 .rw[if_neg h0];by_cases h1:o.kind=1
  .rw[if_pos h1,Zbz,Zbz];refine Rx.of ?_;rw[Ko];congr 1;funext x;simp only;rw[ZuP,Zny];by_cases c:Z05 s.gone x.2=true;.rw[if_pos c,c,Xu,Qr,Yo,if_neg h0,if_pos h1];simp only;rw[XR,show(s.gone++Z7 o.l).length=s.gone.length+o.l.length by simp[Z7]]
   grind
  .rw[if_neg h1];by_cases h2:o.kind=2
   .rw[if_pos h2,Zbz,Zbz,Ko];refine OptR.bind (R:=Eq) (OptR.rfl' _) ?_;rintro x _ rfl;simp only;split
    .rw[Qr,Yo,if_neg h0,if_neg h1,if_pos h2];refine⟨?_,rfl⟩;show Z7 (x.1++(s.brought++Z7 o.l))=Z7 (x.1++s.brought++o.l);simp only[Ju,Zdv,Q7]
    .exact trivial
   .have h3:o.kind=3:=by rcases r1 with h|h|h|h<;>first|exact absurd h h0|exact absurd h h1|exact absurd h h2|exact h
    rw[if_neg h2,if_pos h3];have af:=Z15 hr h3;have ra:=Yf hr;by_cases hi:Z4M list (ZM o.e)=true
    .rw[if_pos hi,keep 1 Yp];cases hx:Y6 false (Zc s).out rest out with
     |none=>exact trivial|some x=>
      obtain⟨m,hm⟩:=Z7c hx;have aa:=hk.drop m;rw[<-hm]at aa;simp only[Qr];rw[Yo,Yo,if_pos rfl,if_neg h0,if_neg h1,if_neg h2];cases hx2:x.2 with
      |nil=>exact trivial|cons y q=>
       rw[hx2]at aa;have ah:o.e.kind≠0:=by cases ra with|into e _ h=>exact h|keep|gone|come=>grind
       simp only[Z4M,decide_eq_true_eq,Z4w]at hi;rcases hi with hi|⟨hl9,he2,hw,hks⟩;.omega
       .have hy:=aa.2 hl9 y Q5;have hn:=Z5r o.e;rw[JH,if_pos he2]at hn;have e1:o.e.words=[]:=by rw[hn]at hw;exact Q0 hw
        have e2:o.e.kids=[]:=by
         rw[hn]at hks;have:(Jx o.e.kids).length=0:=hks;cases hh:o.e.kids with
         |nil=>rfl|cons a b=>rw[hh]at this;trivial
        have hd:doE false o.e y=some (.mk 1 y.words y.kids):=by rw[Jj,if_neg ah,JH,if_pos he2,if_pos hy,e1,e2,wsD,Qr,Z0c];try rfl
        rw[if_neg (show¬(y::q).length=0 by simp),Qj,hd,if_pos (show Int.toNat 1<=(y::q).length by simp)];refine⟨?_,rfl⟩;show Z7 (x.1++[y])=Z7 (x.1++[Tree.mk 1 y.words y.kids]);rw[show Tree.mk 1 y.words y.kids=y by rw[<-hy];exact Tree.eta y]
    .rw[if_neg hi];have e:(Zc ⟨(Zc s).out++[⟨3,0,[],ZM o.e⟩],[],[]⟩).out=(Zc s).out++[⟨3,0,[],ZM o.e⟩]:=by simp[Zc,Z0R]
     rw[e,Z7d];cases hx:Y6 false (Zc s).out rest out with|none=>exact trivial|some x=>obtain⟨m,hm⟩:=Z7c hx;have aa:=hk.drop m;rw[<-hm]at aa;simp only[Qr];rw[Yo,Yo,if_neg h0,if_neg h1,if_neg h2,if_neg (by grind),if_neg (by grind),if_neg (by grind)];refine OptR.ite QM (λ_=>trivial) λ_=>?_;exact(ih _ (ZAB aa.1 0) af).map λu v h=>⟨Z23 rfl (Z22.2 h),rfl⟩
mutual theorem Zpl:∀(e:Edit)(d:Int)(t:Tree),Z8 e d=true->RT_ t->OptR Eqv (doE false (ZM e) t) (doE false e t)
 |.mk k o n w ks l os,d,t,hr,ht=>by
  have ri:=Zt hr;have h1:=ZmX ks;have h2:=ZmW l os;have ab:=ht.kids.1;have hn:ZM (.mk k o n w ks l os)=if k=1 then .mk k (Z0 o) (Z0 n) [] [] l []else if k=2 then .mk k Tree.nil Tree.nil w (Jx ks) l []else if k=3 then .mk k Tree.nil Tree.nil [] [] l (Zc (ZP l os ⟨[],[],[]⟩)).out else .mk k Tree.nil Tree.nil [] [] l []:=by rw[ZM]
  rw[ZbE,ZbE,Y1,Y1];by_cases c1:k=1
  .subst c1;rw[if_pos rfl]at hn;unfold Zu7;rw[hn];refine OptR.ite QM (λ_=>rfl) λ_=>OptR.ite QM (λ_=>?_) (λh=>absurd rfl h);show OptR Eqv (if ZN (Z0 (Z0 o)) (Z0 t)=true then some (Z0 n)else none) (if ZN (Z0 o) (Z0 t)=true then some n else none);rw[Z19];exact OptR.ite QM (λ_=>Z19 n) (λ_=>trivial)
  .by_cases c2:k=2
   .subst c2;rw[if_neg c1,if_pos rfl]at hn;unfold Zu7;rw[hn];refine OptR.ite QM (λ_=>rfl) λ_=>OptR.ite QM (λh=>absurd h c1) λ_=>OptR.ite QM (λ_=>?_) (λh=>absurd rfl h);refine OptR.ite QM (λae=>?_) (λ_=>trivial);refine OptR.bind (R:=Eq) (OptR.rfl' _) ?_;rintro a _ rfl;exact(h1 (d-1) t.kids t.kids t.kids (λk hk=>(ZD ri.kids k hk).2) ab rfl).map λx y h=>Zge _ _ h
   .by_cases c3:k=3
    .subst c3;rw[if_neg c1,if_neg c2,if_pos rfl]at hn;unfold Zu7;rw[hn];refine OptR.ite QM (λ_=>rfl) λ_=>OptR.ite QM (λh=>absurd h c1) λ_=>OptR.ite QM (λh=>absurd h c2) λ_=>OptR.ite QM (λ_=>?_) (λh=>absurd rfl h);refine OptR.ite QM (λae=>?_) (λ_=>trivial);have af:=ht.k9;rw[ae]at af;have:=h2 (d-1) ⟨[],[],[]⟩ t.kids [] (λo ho=>Go.AM.rightOs_mem ri.ops o ho) (λo ho=>by cases ho) af;exact(ZnJ this).map λx y h=>Zge _ _ h
    .have e0:k=0:=by have:=ri.kind;have:0<=k/\k<=3:=this;omega
     subst e0;try rfl theorem ZmX:∀(ks:List (KidOf Edit))(d:Int)(tk a b:List Tree),(∀k∈ks,Z8 k.e d=true)->(∀t∈tk,RT_ t)->EqvL a b->OptR EqvL (Z0c false tk (Jx ks) a) (Z0c false tk ks b)
 |[],d,tk,a,b,_,_,h=>by trivial|k::r,d,tk,a,b,hr,ht,h=>by
  rw[Jx,Z0c,Z0c];have e:(Z0O k).at_=k.at_:=by cases k;rfl
  rw[e];refine(Zuh k d tk (hr k Q5) ht).bind λx y aa=>ZmX r d tk _ _ (λq hq=>hr q (Q3 _ hq)) ht (Zui h aa)theorem Zuh:∀(k:KidOf Edit)(d:Int)(tk:List Tree),Z8 k.e d=true->(∀t∈tk,RT_ t)->OptR Eqv (Z3o false tk (Z0O k)) (Z3o false tk k)|⟨a,e⟩,d,tk,hr,ht=>by rw[Z0O,Z3o,Z3o];exact Zpl e d _ hr (ZAB ht _)theorem ZmW(list:Int):∀(os:List (OpOf Edit))(d:Int)(s:Wst)(rest out:List Tree),(∀o∈os,Z9 list o d=true)->N0s s->K9 list rest->OptR Rx (Y6 false (Zc (ZP list os s)).out rest out) (Y6 false ((Zc s).out++os) rest out)
 |[],d,s,rest,out,_,_,_=>by rw[ZP,Qi];exact Rx.rfl' _|o::r,d,s,rest,out,hr,hs,hk=>by
  have ho:=hr o Q5;have st:=ZC6 hs ho hk out (Zxz o d);rw[ZP];refine Rx.trans (ZmW list r d _ rest out (λq hq=>hr q (Q3 _ hq)) (hs.op ho) hk) ?_;rw[Z3n,Z3n];have e:∀x:List Tree×List Tree,Y6 false (o::r) x.2 x.1=(Z5L false o x.2 x.1).bind λy=>Y6 false r y.2 y.1:=λx=>by rw[Y6]
  rw[show(λx:List Tree×List Tree=>Y6 false (o::r) x.2 x.1)=λx=>(Z5L false o x.2 x.1).bind λy=>Y6 false r y.2 y.1 from funext e,<-Ko];exact st.bind λx y aa=>ZgT r _ _ _ _ aa.2 aa.1 (λq hq=>⟨_,_,hr q (Q3 _ hq)⟩)theorem Zxz:∀(o:OpOf Edit)(d:Int),∀y,RT_ y->Z8 o.e d=true->OptR Eqv (doE false (ZM o.e) y) (doE false o.e y)|⟨_,_,_,e⟩,d,y,hy,hr=>Zpl e d y hr hy end
theorem ZdG:∀{ks:List Kid}{k:Kid},k∈ks->Zi k.e<=Zr ks
 |⟨_,_⟩::r,k,h=>by
  rcases Q9.1 h with rfl|h;.simp only[Zr,Yg];omega
  .have:=ZdG h;simp only[Zr];omega
theorem ZdC:∀{os:List Op}{o:Op},o∈os->Zu o<=Zh os
 |a::r,o,h=>by
  rcases Q9.1 h with rfl|h;.simp only[Zh];omega
  .have:=ZdC h;simp only[Zh];omega
theorem Zuu(o:Op):Zi o.e<=Zu o:=by obtain⟨k,n,l,e⟩:=o;simp only[Zu];omega
theorem Z4B{e:Edit}{k:Kid}(h:k∈e.kids):Zi k.e<Zi e:=by obtain⟨d,o,n,w,ks,l,os⟩:=e;have:=ZdG (ks:=ks) h;simp only[Zi];omega
theorem Z6P{e:Edit}{o:Op}(h:o∈e.ops):Zi o.e<Zi e:=by obtain⟨kk,d,n,w,ks,l,os⟩:=e;have:=ZdC (os:=os) h;have:=Zuu o;simp only[Zi];omega
mutual theorem JG:∀(t:Tree)(d m:Int),m<0->Zb t d=true->Zb t m=true
 |.mk k w ks,d,m,hm,h=>by
  rw[Zb]at h⊢;by_cases h0:k=0;.grind
  .rw[if_neg h0]at h⊢;by_cases h1:k=10;.grind
   .rw[if_neg h1]at h⊢;by_cases h2:d=0;.grind
    .rw[if_neg h2]at h;rw[JH];by_cases h3:k=1
     .rw[if_pos h3,Q2]at h⊢;exact⟨h.1,Z8R 1 ks (d-1) (m-1) Yp h.2⟩
     .rw[if_neg h3,Q2]at h⊢;exact⟨h.1,Z8R k ks (d-1) (m-1) Yp h.2⟩theorem Z8R(list:Int):∀(ks:List Tree)(d m:Int),m<0->Yj list ks d=true->Yj list ks m=true|[],_,_,_,_=>rfl|t::r,d,m,hm,h=>by simp only[Yj,Q2]at h⊢;exact⟨⟨h.1.1,JG t d m hm h.1.2⟩,Z8R list r d m hm h.2⟩end
theorem RT_.neg{t:Tree}(h:RT_ t):Zb t (-1)=true:=by obtain⟨⟨d,h⟩,_⟩:=h;exact JG t d (-1) V0 h
theorem Z0u{list d:Int}:∀{ks:List Tree},Yj list ks d=true↔∀t∈ks,Z0P list t=true/\Zb t d=true|[]=>by simp[Yj]|t::r=>by simp only[Yj,Q2,Z0u (ks:=r),Q9,forall_eq_or_imp]
theorem J4{t:Tree}(h:Zb t (-1)=true):t.kind≠0->t.kind≠10->(t.kind=1->t.words.length<65536/\t.kids.length<65536)/\(t.kind≠1->(2<=t.kind/\t.kind<=9)/\t.words=[]/\t.kids.length<1048576)/\∀k∈t.kids,Z0P t.kind k=true/\Zb k (-1)=true:=by
 obtain⟨k,w,ks⟩:=t;intro h0 h1;have h0:k≠0:=h0;have h1:k≠10:=h1;rw[Zb,if_neg h0,if_neg h1,if_neg V0]at h;by_cases h3:k=1
 .rw[if_pos h3,Q2,decide_eq_true_eq,Z0u]at h;subst h3;exact⟨λ_=>h.1,λe=>absurd rfl e,λx d=>⟨(h.2 x d).1,JG _ _ _ V0 (h.2 x d).2⟩⟩
 .rw[if_neg h3,Q2,decide_eq_true_eq,Z0u]at h;exact⟨λe=>absurd e h3,λ_=>⟨⟨h.1.1,h.1.2.1⟩,Q0 h.1.2.2.1,h.1.2.2.2⟩,λx d=>⟨(h.2 x d).1,JG _ _ _ V0 (h.2 x d).2⟩⟩
theorem ZjU{w:List Int}{ks:List Tree}(h1:w.length<65536)(h2:ks.length<65536)(h:∀k∈ks,Z0P 1 k=true/\Zb k (-1)=true):Zb (.mk 1 w ks) (-1)=true:=by rw[Zb,if_neg V0,if_neg V0,if_neg V0,if_pos rfl,Q2,decide_eq_true_eq,Z0u];exact⟨⟨h1,h2⟩,λx d=>⟨(h x d).1,JG _ _ _ V0 (h x d).2⟩⟩
theorem ZfE{l:Int}{ks:List Tree}(hl:2<=l/\l<=9)(h2:ks.length<1048576)(h:∀k∈ks,Z0P l k=true/\Zb k (-1)=true):Zb (.mk l [] ks) (-1)=true:=by rw[Zb,JH,JH,if_neg V0,JH,Q2,decide_eq_true_eq,Z0u];exact⟨⟨hl.1,hl.2,rfl,h2⟩,λx d=>⟨(h x d).1,JG _ _ _ V0 (h x d).2⟩⟩
theorem Z3y{D list:Int}:∀{l:List Tree},Yy D list l=true->∀t∈l,Zb (.mk list [] [t]) D=true
 |a::r,h,t,ht=>by
  simp only[Yy,Q2]at h;rcases Q9.1 ht with rfl|ht;.exact h.1
  .exact Z3y h.2 t ht
theorem Z0V{D list:Int}(hl:2<=list/\list<=9){l:List Tree}(h:Yy D list l=true):∀t∈l,Z0P list t=true/\Zb t (-1)=true:=by intro t d;have:=J4 (JG _ _ (-1) V0 (Z3y h t d)) (by show list≠0;omega) (by show list≠10;omega);simp_all
inductive Run:List Op->List Tree->List Tree->Prop|nil:Run [] [] []|keep{o r a s d}:o.kind=0->(a.length:Int)=o.n->Run r s d->Run (o::r) (a++s) (a++d)|gone{o r a s d}:o.kind=1->Z7 o.l=Z7 a->Run r s d->Run (o::r) (a++s) d|come{o r s d}:o.kind=2->Run r s d->Run (o::r) s (o.l++d)|into{o r x y s d}:o.kind=3->doE false o.e x=some y->Run r s d->Run (o::r) (x::s) (y::d)
def kOk(o:Op):Prop:=(o.kind=0/\0<=o.n)\/o.kind=1\/o.kind=2\/o.kind=3
theorem ZGb:∀{os:List Op}{s d:List Tree},Run os s d->∀out,Y6 false os s out=some (out++d,[]):=by
 intro os s d h;induction h with
 |nil=>intro out;simp[Y6]|keep h0 hn hr0 ih=>
  rename_i o r a s d;intro out;rw[Y6,Yo,if_pos h0,if_pos (by grind),show o.n.toNat=a.length by omega];grind|gone h1 hn hr0 ih=>
  rename_i o r a s d;intro out;have hl:=Z2W hn;rw[Y6,Yo,JH,if_pos h1,if_pos];.grind
  .rw[Z30,hl,List.take_left];grind|come h2 hr0 ih=>intro out;rw[Y6,Yo,JH,JH,if_pos h2];grind|into h3 he hr0 ih=>intro out;rw[Y6,Yo,JH,JH,JH,if_neg (by simp)];grind
theorem ZgS:∀{os:List Op}{s out:List Tree}{x:List Tree×List Tree},(∀o∈os,kOk o)->Y6 false os s out=some x->x.2=[]->∃d,x.1=out++d/\Run os s d
 |[],s,out,x,_,h,hx=>by
  rw[Y6]at h;cases h;have hx:s=[]:=hx;subst hx;exact⟨[],by simp,.nil⟩|o::r,s,out,x,hk,h,hx=>by
  rw[Y6,Yo]at h;have hr:∀o∈r,kOk o:=λo ho=>hk o (Q3 _ ho);rcases hk o Q5 with h0|h1|h2|h3
  .rw[if_pos h0.1]at h;split at h
   .rename_i hl;simp only[Qr]at h;obtain⟨d,e,hd⟩:=ZgS hr h hx;refine⟨s.take o.n.toNat++d,by grind,?_⟩;have:=Run.keep (a:=s.take o.n.toNat) h0.1 (by grind) hd;simp_all
   .cases h
  .rw[JH,if_pos h1]at h;split at h;.rename_i hg;obtain⟨g1,g2⟩:=(Z30 _ _).1 hg;simp only[Qr]at h;obtain⟨d,e,hd⟩:=ZgS hr h hx;refine⟨d,e,?_⟩;have:=Run.gone (a:=s.take o.l.length) h1 g2 hd;simp_all
   .cases h
  .rw[JH,JH,if_pos h2]at h;simp only[Qr]at h;obtain⟨d,e,hd⟩:=ZgS hr h hx;exact⟨o.l++d,by grind,.come h2 hd⟩
  .rw[JH,JH,JH]at h;split at h;.cases h
   .rename_i hl;obtain⟨y,hy,h⟩:=Qx.1 h;obtain⟨z,hz,rfl⟩:=Qn.1 hy;obtain⟨d,e,hd⟩:=ZgS hr h hx;cases s with|nil=>simp at hl|cons x0 s=>refine⟨z::d,by rw[e];simp,.into h3 (by simpa using hz) (by simpa using hd)⟩
theorem ZkB{os:List Op}{s d:List Tree}(hk:∀o∈os,kOk o):Z5J (Y6 false os s [])=some d↔Run os s d:=by
 constructor
 .intro h;unfold Z5J at h;obtain⟨x,hx,h⟩:=Qx.1 h;split at h;.rename_i hl;cases h;obtain⟨d,e,hd⟩:=ZgS hk hx (Q0 hl);grind
  .cases h
 .intro h;have:=ZGb h [];unfold Z5J;grind
theorem ZuJ{list d:Int}{o:Op}(h:Z9 list o d=true):kOk o:=by have:=Yf h;cases this with|keep n h1=>exact .inl ⟨rfl,by grind⟩|gone=>exact .inr (.inl rfl)|come=>exact .inr (.inr (.inl rfl))|into=>exact .inr (.inr (.inr rfl))
theorem ZCh:∀{os:List Op}{s d:List Tree},Run os s d->(∀o∈os,YD o)->(s.length:Int)=Z0q os/\(d.length:Int)=Z0M os:=by intro os s d h;induction h with
 |nil=>intro _;simp[Z0q,Z0M]|keep h0 hn hr0 ih=>
  rename_i o r a s d;intro hk;obtain⟨i1,i2⟩:=ih λo ho=>hk o (Q3 _ ho);have ho:=hk o Q5;have hl:Z4 o=o.n:=by
   rcases ho with h|h|h;.unfold Z4;rw[JH,h.2.1];simp
   .omega
   .omega
  simp only[Z0q,Z0M,Q8];rw[JH,JH,hl];omega|gone h1 hn hr0 ih=>
  rename_i o r a s d;intro hk;obtain⟨i1,i2⟩:=ih λo ho=>hk o (Q3 _ ho);have ho:=hk o Q5;have hl:Z4 o=a.length:=by
   have:=Z2W hn;rcases ho with h|h|h;.omega
   .unfold Z4;rw[JH,h.2.1];omega
   .omega
  simp only[Z0q,Z0M,Q8];rw[JH,if_pos h1,hl];omega|come h2 hr0 ih=>
  rename_i o r s d;intro hk;obtain⟨i1,i2⟩:=ih λo ho=>hk o (Q3 _ ho);have ho:=hk o Q5;have hl:Z4 o=o.l.length:=by
   rcases ho with h|h|h;.omega
   .unfold Z4;rw[JH,h.2.1];omega
   .omega
  simp only[Z0q,Z0M,Q8];rw[if_pos h2,JH,hl];omega|into h3 he hr0 ih=>
  rename_i o r x y s d;intro hk;obtain⟨i1,i2⟩:=ih λo ho=>hk o (Q3 _ ho);have hl:Z4 o=1:=by unfold Z4;rw[if_pos h3]
  simp only[Z0q,Z0M,Qa];rw[JH,JH,hl];omega
theorem ZnM{r:Bool}{tk:List Tree}:∀{ks:List Kid}{out b:List Tree},Z0c r tk ks out=some b->(∀k∈ks,k.at_<=65534)->b.length<=max out.length 65535/\∀y∈b,y∈out\/y=Tree.nil\/∃k∈ks,doE r k.e (tk.getD k.at_.toNat Tree.nil)=some y
 |[],out,b,h,_=>by
  rw[Z0c]at h;cases h;exact⟨Yp,λy d=>.inl d⟩|k::s,out,b,h,ha=>by
  rw[Z0c,Z7e]at h;obtain⟨v,hv,hb⟩:=Qx.1 h;obtain⟨i1,i2⟩:=ZnM hb λx hx=>ha x (Q3 _ hx);have:=ha k Q5;rw[Z2g]at i1;refine⟨Yp,λy d=>?_⟩;rcases i2 y d with h1|h1|⟨q,hq,h1⟩
  .rcases Z8F h1 with h1|h1|h1;.exact .inl h1
   .exact .inr (.inl h1)
   .subst h1;exact .inr (.inr ⟨k,Q5,hv⟩)
  .exact .inr (.inl h1)
  .exact .inr (.inr ⟨q,Q3 _ hq,h1⟩)
theorem ZCg:∀{os:List Op}{s d:List Tree},Run os s d->∀y∈d,y∈s\/(∃o∈os,o.kind=2/\y∈o.l)\/∃o∈os,o.kind=3/\∃x∈s,doE false o.e x=some y:=by intro os s d h;induction h with|nil=>grind|keep h0 hn hr0 ih=>grind|gone h1 hn hr0 ih=>grind|come h2 hr0 ih=>grind|into h3 he hr0 ih=>grind
theorem ZIo{y:Tree}(h:y.kind≠10):Z0P 1 y=true:=by unfold Z0P;grind
theorem Z18{list d:Int}{os:List Op}(h:Zz list os d=true):∀o∈os,YD o:=λo ho=>Z8P (rightOs_mem h ho)
theorem Z2P{o:Op}(h:YD o):0<=Z4 o:=by have:=Ya h;omega
theorem ZbD{e:Edit}{d:Int}{t u:Tree}(hr:Z8 e d=true)(h:doE false e t=some u):(e.kind=1->u=e.new)/\(e.kind=2->u.kind=1/\t.kind=1)/\(e.kind=3->u.kind=e.list/\t.kind=e.list)/\(e.kind=0->u=t):=by
 rw[Jj,Y1]at h;refine⟨λhk=>?_,λhk=>?_,λhk=>?_,λhk=>?_⟩;.grind
 .rw[JH,JH,if_pos hk]at h;split at h;.rename_i ht;obtain⟨a,ha,h⟩:=Qx.1 h;obtain⟨b,hb,rfl⟩:=Qn.1 h;simp_all
  .cases h
 .rw[JH,JH,JH,if_pos hk]at h;split at h;.rename_i ht;obtain⟨b,hb,rfl⟩:=Qn.1 h;simp_all
  .cases h
 grind
theorem Z51:∀(n:Nat)(e:Edit)(d:Int)(t u:Tree),Zi e<=n->Z8 e d=true->Zb t (-1)=true->doE false e t=some u->Zb u (-1)=true/\(e.kind≠0->u.kind≠10):=by intro n;induction n with
 |zero=>intro e d t u hm;obtain⟨k,o,nw,w,ks,l,os⟩:=e;simp only[Zi]at hm;omega|succ n ih=>
  intro e d t u hm hr ht h;have R:=Zt hr;obtain⟨k1,k2,k3,k0⟩:=ZbD hr h;have hk:=R.kind;by_cases h0:e.kind=0;.grind
  by_cases h1:e.kind=1;.rw[k1 h1];obtain⟨r1,r2,r3,r4⟩:=R.rep h1;exact⟨JG _ _ _ V0 r2,λ_=>r4⟩
  by_cases h2:e.kind=2
  .obtain⟨u1,t1⟩:=k2 h2;refine⟨?_,λ_=>by omega⟩;rw[Jj,Y1,if_neg h0,if_neg h1,if_pos h2,if_pos t1]at h;obtain⟨a,ha,h⟩:=Qx.1 h;obtain⟨b,hb,rfl⟩:=Qn.1 h;obtain⟨p1,_,p3⟩:=J4 ht Yp Yp;have p1:=p1 t1;rw[t1]at p3;have hl:=Zjq R.words ha;have ab:=ZD R.kids;obtain⟨m1,m2⟩:=ZnM hb λk hk=>(ab k hk).1.2.1;refine ZjU Yp Yp λy hy=>?_;rcases m2 y hy with h|rfl|⟨k,hk,h⟩;.exact p3 y h
   .trivial
   .have hx:Zb (t.kids.getD k.at_.toNat Tree.nil) (-1)=true:=by
     by_cases hi:k.at_.toNat<t.kids.length;.grind
     .rw[Q6,Qq Yp];try rfl
    obtain⟨g1,g2⟩:=ih k.e _ _ y (by have:=Z4B hk;omega) (ab k hk).2 hx h;exact⟨ZIo (g2 (ab k hk).1.2.2),g1⟩
  .have h3:e.kind=3:=Yp;obtain⟨u1,t1⟩:=k3 h3;have ai:=R.list h3;refine⟨?_,λ_=>by omega⟩;rw[Jj,Y1,if_neg h0,if_neg h1,if_neg h2,if_pos h3,if_pos t1]at h;obtain⟨b,hb,rfl⟩:=Qn.1 h;have ho:∀o∈e.ops,Z9 e.list o (d-1)=true:=λo h=>rightOs_mem R.ops h;have aa:=(ZkB (λo h=>ZuJ (ho o h))).1 hb;obtain⟨_,q2⟩:=ZCh aa (Z18 R.ops);obtain⟨q3,q4⟩:=Z4H e.ops 0 (λo h=>Z2P (Z18 R.ops o h)) V0 V0;have q5:=R.len.2;obtain⟨_,_,p3⟩:=J4 ht Yp Yp;rw[t1]at p3;refine ZfE ai Yp λy hy=>?_;rcases ZCg aa y hy with h|⟨o,hoo,hk2,hyl⟩|⟨o,hoo,hk3,x,hx,h⟩;.exact p3 y h
   .have:=Yf (ho o hoo);cases this with|come l h1 h2=>exact Z0V ai h1 y hyl|keep|gone|into=>grind
   .have:=Yf (ho o hoo);cases this with|into e' g1 g2 g3 g4=>obtain⟨f1,f2⟩:=ih e' _ x y (by have:=Z6P hoo;grind) g1 (p3 x hx).2 h;refine⟨?_,f1⟩;obtain⟨j1,j2,_,_⟩:=ZbD g1 h;unfold Z0P;grind|keep|gone|come=>grind
theorem Z01{o:Op}{r:List Op}{s d:List Tree}(h0:o.kind=0):Run (o::r) s d↔∃a s' d',s=a++s'/\d=a++d'/\(a.length:Int)=o.n/\Run r s' d':=by
 constructor
 .intro h;cases h with
  |keep _ h2 h3=>grind|gone h1=>omega|come h1=>omega|into h1=>omega
 .rintro⟨a,s',d',rfl,rfl,h2,h3⟩;exact .keep h0 h2 h3
theorem Z02{o:Op}{r:List Op}{s d:List Tree}(h0:o.kind=1):Run (o::r) s d↔∃a s',s=a++s'/\Z7 o.l=Z7 a/\Run r s' d:=by
 constructor
 .intro h;cases h with
  |gone _ h2 h3=>grind|keep h1=>omega|come h1=>omega|into h1=>omega
 .rintro⟨a,s',rfl,h2,h3⟩;exact .gone h0 h2 h3
theorem YV{o:Op}{r:List Op}{s d:List Tree}(h0:o.kind=2):Run (o::r) s d↔∃d',d=o.l++d'/\Run r s d':=by
 constructor
 .intro h;cases h with
  |come _ h3=>grind|keep h1=>omega|gone h1=>omega|into h1=>omega
 .rintro⟨d',rfl,h3⟩;exact .come h0 h3
theorem Z37{o:Op}{r:List Op}{s d:List Tree}(h0:o.kind=3):Run (o::r) s d↔∃x s' y d',s=x::s'/\d=y::d'/\doE false o.e x=some y/\Run r s' d':=by
 constructor;.intro h;cases h with
  |into _ h2 h3=>grind|keep h1=>omega|gone h1=>omega|come h1=>omega
 .rintro⟨x,s',y,d',rfl,rfl,h2,h3⟩;exact .into h0 h2 h3
theorem Z1h{o:Op}{p r:List Op}(h:∀s d,Run p s d↔Run r s d)(hk:kOk o)(s d:List Tree):Run (o::p) s d↔Run (o::r) s d:=by
 rcases hk with h0|h1|h2|h3;.rw[Z01 h0.1,Z01 h0.1];simp only[h]
 .rw[Z02 h1,Z02 h1];simp only[h]
 .rw[YV h2,YV h2];simp only[h]
 .rw[Z37 h3,Z37 h3];simp only[h]
theorem Jf{o:Op}(h:YD o):kOk o:=by
 rcases h with h|h|h;.exact .inl ⟨h.1,Yp⟩
 .rcases h.1 with h1|h1;.exact .inr (.inl h1)
  .exact .inr (.inr (.inl h1))
 .exact .inr (.inr (.inr h.1))
theorem Zes{o:Op}(h:YD o)(h0:o.kind=0):Z4 o=o.n:=by
 rcases h with h|h|h;.unfold Z4;rw[JH,h.2.1];simp
 .omega
 .omega
theorem Z1D{o:Op}(h:YD o)(h0:o.kind=1\/o.kind=2):Z4 o=o.l.length:=by
 rcases h with h|h|h;.omega
 .unfold Z4;omega
 .omega
theorem Z3Q{o:Op}(h0:o.kind=3):Z4 o=1:=by unfold Z4;rw[if_pos h0]
theorem Zrk{o:Op}{r:List Op}{s m:List Tree}(ho:YD o)(hk:o.kind≠1)(h:Run (o::r) s m):∃m1 d m',m=m1++m'/\(m1.length:Int)=Z4 o/\Run r d m':=by
 rcases Jf ho with h0|h1|h2|h3
 .obtain⟨a,d,d',_,rfl,hl,hr⟩:=(Z01 h0.1).1 h;exact⟨a,d,d',rfl,by rw[Zes ho h0.1];exact hl,hr⟩
 .omega
 .obtain⟨d',rfl,hr⟩:=(YV h2).1 h;exact⟨o.l,s,d',rfl,by rw[Z1D ho (.inr h2)],hr⟩
 .obtain⟨x,d,y,d',_,rfl,_,hr⟩:=(Z37 h3).1 h;exact⟨[y],d,d',rfl,by rw[Z3Q h3];rfl,hr⟩
theorem Z8H{o:Op}{r:List Op}{m d:List Tree}(ho:YD o)(hk:o.kind≠2)(h:Run (o::r) m d):∃m1 m' d',m=m1++m'/\(m1.length:Int)=Z4 o/\Run r m' d':=by
 rcases Jf ho with h0|h1|h2|h3
 .obtain⟨a,s',d',rfl,_,hl,hr⟩:=(Z01 h0.1).1 h;exact⟨a,s',d',rfl,by rw[Zes ho h0.1];exact hl,hr⟩
 .obtain⟨a,s',rfl,hn,hr⟩:=(Z02 h1).1 h;exact⟨a,s',d,rfl,by rw[Z1D ho (.inl h1),Z2W hn],hr⟩
 .omega
 .obtain⟨x,s',y,d',rfl,_,_,hr⟩:=(Z37 h3).1 h;exact⟨[x],s',d',rfl,by rw[Z3Q h3];rfl,hr⟩
theorem Zu0{o:Op}{r:List Op}{n:Int}(ho:YD o)(h1:1<=n)(hn:¬Z4 o<=n)(s d:List Tree):Run (o::r) s d↔Run (Zx o n::JR o n::r) s d:=by
 unfold Zx JR;rw[if_neg hn];rcases Jf ho with h0|hg|hc|hi
 .have hl:=Zes ho h0.1;rw[if_pos h0.1,if_pos h0.1,Z01 h0.1,Z01 (o:=⟨o.kind,n,o.l,o.e⟩) h0.1];constructor;.rintro⟨a,s',d',rfl,rfl,ha,hr⟩;refine⟨a.take n.toNat,a.drop n.toNat++s',a.drop n.toNat++d',by rw[<-Q7,Qs],by rw[<-Q7,Qs],by grind,?_⟩;exact(Z01 (o:=⟨o.kind,o.n-n,o.l,o.e⟩) h0.1).2 ⟨a.drop n.toNat,s',d',rfl,rfl,by grind,hr⟩
  .rintro⟨a,s',d',rfl,rfl,ha,hr⟩;obtain⟨b,s2,d2,rfl,rfl,hb,ab⟩:=(Z01 (o:=⟨o.kind,o.n-n,o.l,o.e⟩) h0.1).1 hr;grind
 .have hl:=Z1D ho (.inl hg);rw[JH,JH,Z02 hg,Z02 (o:=⟨o.kind,o.n,o.l.take n.toNat,o.e⟩) hg];constructor;.rintro⟨a,s',rfl,ha,hr⟩;have ak:=Z2W ha;refine⟨a.take n.toNat,a.drop n.toNat++s',by rw[<-Q7,Qs],EqvL.take ha _,?_⟩;exact(Z02 (o:=⟨o.kind,o.n,o.l.drop n.toNat,o.e⟩) hg).2 ⟨a.drop n.toNat,s',rfl,EqvL.drop ha _,hr⟩
  .rintro⟨a,s',rfl,ha,hr⟩;obtain⟨b,s2,rfl,hb,ab⟩:=(Z02 (o:=⟨o.kind,o.n,o.l.drop n.toNat,o.e⟩) hg).1 hr;refine⟨a++b,s2,by grind,?_,ab⟩;have:=Z23 ha hb;simp_all
 .rw[JH,JH,YV hc,YV (o:=⟨o.kind,o.n,o.l.take n.toNat,o.e⟩) hc];constructor;.rintro⟨d',rfl,hr⟩;refine⟨o.l.drop n.toNat++d',by rw[<-Q7,Qs],?_⟩;exact(YV (o:=⟨o.kind,o.n,o.l.drop n.toNat,o.e⟩) hc).2 ⟨d',rfl,hr⟩
  .rintro⟨d',rfl,hr⟩;obtain⟨d2,rfl,ab⟩:=(YV (o:=⟨o.kind,o.n,o.l.drop n.toNat,o.e⟩) hc).1 hr;exact⟨d2,by rw[<-Q7,Qs],ab⟩
 .rw[Z3Q hi]at hn;omega
def ZG:List Piece->List Op|[]=>[]|x::r=>(if x.of=2 then[]else[x.p])++ZG r
def ZF:List Piece->List Op|[]=>[]|x::r=>(if x.of=1 then[]else[x.q])++ZF r
def Part(l:List Op)(o:Op):Prop:=∃o'∈l,o.kind=o'.kind/\o.e=o'.e/\Zu o<=Zu o'/\∀t∈o.l,t∈o'.l
structure POk(p q:List Op)(x:Piece):Prop where
 of:x.of=0\/x.of=1\/x.of=2
 pp:x.of≠2->Part p x.p/\YD x.p
 qq:x.of≠1->Part q x.q/\YD x.q
 one:x.of=1->x.p.kind=1
 two:x.of=2->x.q.kind=2
 both:x.of=0->x.p.kind≠1/\x.q.kind≠2/\Z4 x.p=Z4 x.q
 pn:x.of=2->x.p=Op.nil
 qn:x.of=1->x.q=Op.nil
theorem Part.mono{l l':List Op}{o:Op}(h:Part l o)(hl:∀x∈l,Part l' x):Part l' o:=by obtain⟨o',d,h2,h3,h5,h4⟩:=h;obtain⟨o2,g1,g2,g3,g5,g4⟩:=hl o' d;exact⟨o2,g1,h2.trans g2,h3.trans g3,X2 h5 g5,λt ht=>g4 t (h4 t ht)⟩
theorem Part.self{l:List Op}{o:Op}(h:o∈l):Part l o:=⟨o,h,rfl,rfl,Qc _,λ_ h=>h⟩
theorem POk.mono{p q p' q':List Op}{x:Piece}(h:POk p q x)(hp:∀x∈p,Part p' x)(hq:∀x∈q,Part q' x):POk p' q' x:=⟨h.of,λe=>⟨(h.pp e).1.mono hp,(h.pp e).2⟩,λe=>⟨(h.qq e).1.mono hq,(h.qq e).2⟩,h.one,h.two,h.both,h.pn,h.qn⟩
theorem Z4j{o:Op}{r:List Op}{n:Int}(h:∀x∈o::r,YD x)(h1:1<=n)(hn:n<=Z4 o):YD (Zx o n)/\Z4 (Zx o n)=n/\(Zx o n).kind=o.kind/\Part (o::r) (Zx o n)/\(∀x∈ZB (o::r) n,YD x/\Part (o::r) x)/\∀s d,Run (o::r) s d↔Run (Zx o n::ZB (o::r) n) s d:=by
 have ho:=h o Q5;have hr:∀x∈r,YD x/\Part (o::r) x:=λx hx=>⟨h x (Q3 _ hx),Part.self (Q3 _ hx)⟩;unfold ZB;simp only[Qj,Qw,QC];by_cases hl:Z4 o<=n
 .rw[if_pos hl];have e:Zx o n=o:=by unfold Zx;rw[if_pos hl]
  rw[e];exact⟨ho,Yp,rfl,Part.self Q5,hr,λs d=>QM⟩
 .rw[if_neg hl];obtain⟨_,v2,v3,v4⟩:=Z9n (a:=1) ho h1 hl;obtain⟨b1,b2⟩:=Zh6 ho h1 hl;refine⟨v2,v3,Z33 o n,?_,?_,Zu0 ho h1 hl⟩
  .refine⟨o,Q5,Z33 o n,?_,v4,?_⟩;.unfold Zx;split;rfl;split<;>rfl
   .intro t ht;unfold Zx at ht;split at ht;.exact ht
    .split at ht;.exact ht
     .exact QR ht
  .intro x hx;rcases Q9.1 hx with rfl|hx
   .refine⟨b1,o,Q5,?_,?_,b2,?_⟩;.unfold JR;split<;>rfl
    .unfold JR;split<;>rfl
    .intro t ht;unfold JR at ht;split at ht;.exact ht
     .exact Ql ht
   .exact hr x hx
theorem Z0E{d:List Tree}{s:List Tree}(h:Run [] s d):s=[]/\d=[]:=by cases h;grind
theorem Zg5:∀(k:Nat)(p q:List Op)(out:List Piece),p.length+q.length<=k->(∀o∈p,YD o)->(∀o∈q,YD o)->((Zl 1 2 p q out).2.1=true->∃ps,(Zl 1 2 p q out).1=out++ps/\(∀x∈ps,POk p q x)/\(∀s m,Run p s m↔Run (ZG ps) s m)/\∀m d,Run q m d↔Run (ZF ps) m d)/\((Zl 1 2 p q out).2.1=false->∀s m d,Run p s m->Run q m d->False):=by
 intro k;induction k with
 |zero=>
  intro p q out hk hp hq;have e1:p=[]:=Q0 Yp;have e2:q=[]:=Q0 Yp;subst e1 e2;have e:Zl 1 2 [] [] out=(out,true,[],[]):=by
   rw[Zl,dif_neg (by simp[sgl]),dif_neg (by simp[sgl]),dif_pos (by simp)];try rfl
  rw[e];exact⟨λ_=>⟨[],by simp,λx hx=>(by cases hx),λs m=>QM,λm d=>QM⟩,λh=>by cases h⟩|succ k ih=>
  intro p q out hk hp hq;rw[Zl];by_cases h1:sgl 1 p=true;.rw[dif_pos h1];obtain⟨g1,g2⟩:=Yn.1 h1;cases p with
   |nil=>grind|cons a p'=>
    simp only[Qj]at g2;simp only[Qj,Qw,QC];have ha:=hp a Q5;obtain⟨i1,i2⟩:=ih p' q (out++[⟨1,a,Op.nil⟩]) (by grind) (λo ho=>hp o (Q3 _ ho)) hq;refine⟨λh=>?_,λh s m d r1 r2=>?_⟩
    .obtain⟨ps,e,af,hP,hQ⟩:=i1 h;refine⟨⟨1,a,Op.nil⟩::ps,by grind,λx hx=>?_,λs m=>?_,λm d=>?_⟩
     .rcases Q9.1 hx with rfl|hx;.exact⟨.inr (.inl rfl),λ_=>⟨Part.self Q5,ha⟩,λe=>absurd rfl e,λ_=>g2,λe=>(by cases e),λe=>(by cases e),λe=>(by cases e),λ_=>rfl⟩
      .exact(af x hx).mono (λx hx=>Part.self (Q3 _ hx)) (λx hx=>Part.self hx)
     .show _↔Run (a::ZG ps) s m;exact Z1h hP (Jf ha) s m
     .exact hQ m d
    .obtain⟨b,s',_,_,hr⟩:=(Z02 g2).1 r1;grind
  .rw[dif_neg h1];by_cases h2:sgl 2 q=true
   .rw[dif_pos h2];obtain⟨g1,g2⟩:=Yn.1 h2;cases q with
    |nil=>grind|cons a q'=>
     simp only[Qj]at g2;simp only[Qj,Qw,QC];have ha:=hq a Q5;obtain⟨i1,i2⟩:=ih p q' (out++[⟨2,Op.nil,a⟩]) (by grind) hp (λo ho=>hq o (Q3 _ ho));refine⟨λh=>?_,λh s m d r1 r2=>?_⟩
     .obtain⟨ps,e,af,hP,hQ⟩:=i1 h;refine⟨⟨2,Op.nil,a⟩::ps,by grind,λx hx=>?_,λs m=>?_,λm d=>?_⟩
      .rcases Q9.1 hx with rfl|hx;.exact⟨.inr (.inr rfl),λe=>absurd rfl e,λ_=>⟨Part.self Q5,ha⟩,λe=>(by cases e),λ_=>g2,λe=>(by cases e),λ_=>rfl,λe=>(by cases e)⟩
       .exact(af x hx).mono (λx hx=>Part.self hx) (λx hx=>Part.self (Q3 _ hx))
      .exact hP s m
      .show _↔Run (a::ZF ps) m d;exact Z1h hQ (Jf ha) m d
     .obtain⟨d',_,hr⟩:=(YV g2).1 r2;grind
   .rw[dif_neg h2];by_cases h3:p.length=0\/q.length=0
    .rw[dif_pos h3];by_cases h4:p.length=0
     .have e1:p=[]:=Q0 h4;subst e1;by_cases h5:q.length=0;.have e2:q=[]:=Q0 h5;subst e2;rw[if_pos rfl];exact⟨λ_=>⟨[],by simp,λx hx=>(by cases hx),λs m=>QM,λm d=>QM⟩,λh=>by cases h⟩
      .rw[if_neg (by grind)];refine⟨λh=>(by cases h),λ_ s m d r1 r2=>?_⟩;cases q with|nil=>exact h5 rfl|cons a q'=>have ha:=hq a Q5;obtain⟨_,rfl⟩:=Z0E r1;obtain⟨m1,m',d',e,hl,_⟩:=Z8H ha (λe=>h2 (Yn.2 ⟨by simp,by simpa using e⟩)) r2;have:=Ya ha;have e:=congrArg List.length e;grind
     .have h5:q.length=0:=Yp;have e2:q=[]:=Q0 h5;subst e2;rw[if_neg (by grind)];refine⟨λh=>(by cases h),λ_ s m d r1 r2=>?_⟩;cases p with|nil=>exact h4 rfl|cons a p'=>have ha:=hp a Q5;obtain⟨rfl,_⟩:=Z0E r2;obtain⟨m1,s',m',e,hl,_⟩:=Zrk ha (λe=>h1 (Yn.2 ⟨by simp,by simpa using e⟩)) r1;have:=Ya ha;have e:=congrArg List.length e;grind
    .rw[dif_neg h3];cases p with|nil=>simp at h3|cons a p'=>cases q with|nil=>simp at h3|cons b q'=>
       have ha:=hp a Q5;have hb:=hq b Q5;have ka:a.kind≠1:=λe=>h1 (Yn.2 ⟨by simp,by simpa using e⟩);have kb:b.kind≠2:=λe=>h2 (Yn.2 ⟨by simp,by simpa using e⟩);have la:=Ya ha;have lb:=Ya hb;simp only[Qj];generalize hn:min (Z4 a) (Z4 b)=n;have aq:1<=n:=Yp;have ax:n<=Z4 a:=Yp;have ay:n<=Z4 b:=Yp;obtain⟨a1,a2,a3,a4,a5,a6⟩:=Z4j hp aq ax;obtain⟨b1,b2,b3,b4,b5,b6⟩:=Z4j hq aq ay;have a8:(ZB (a::p') n).length+(ZB (b::q') n).length<=k:=by
        have x1:=Y5 (a::p') n (by simp);have x2:=Y5 (b::q') n (by simp);simp only[Qa]at hk x1 x2;rcases Kd (Z4 a) (Z4 b)with h|h;.have:=Y4 (a::p') n (by simp) (by grind);grind
        .have:=Y4 (b::q') n (by simp) (by grind);grind
       obtain⟨i1,i2⟩:=ih (ZB (a::p') n) (ZB (b::q') n) (out++[⟨0,Zx a n,Zx b n⟩]) a8 (λo ho=>(a5 o ho).1) (λo ho=>(b5 o ho).1);refine⟨λh=>?_,λh s m d r1 r2=>?_⟩
       .obtain⟨ps,e,af,hP,hQ⟩:=i1 h;refine⟨⟨0,Zx a n,Zx b n⟩::ps,by grind,λx hx=>?_,λs m=>?_,λm d=>?_⟩
        .rcases Q9.1 hx with rfl|hx;.exact⟨.inl rfl,λ_=>⟨a4,a1⟩,λ_=>⟨b4,b1⟩,λe=>(by cases e),λe=>(by cases e),λ_=>⟨by grind,by grind,by grind⟩,λe=>(by cases e),λe=>(by cases e)⟩
         .exact(af x hx).mono (λx hx=>(a5 x hx).2) (λx hx=>(b5 x hx).2)
        .rw[a6 s m];exact Z1h hP (Jf a1) s m
        .rw[b6 m d];exact Z1h hQ (Jf b1) m d
       .rw[a6]at r1;rw[b6]at r2;obtain⟨m1,s',m',e,hl,r3⟩:=Zrk a1 Yp r1;obtain⟨m2,m3,d',e',bj,r4⟩:=Z8H b1 Yp r2;obtain⟨_,e2⟩:=Kb (e.symm.trans e') Yp;grind
theorem ZlW{o:Op}{r:List Op}{s d:List Tree}(hk:kOk o):Run (o::r) s d↔∃s1 s2 d1 d2,s=s1++s2/\d=d1++d2/\Run [o] s1 d1/\Run r s2 d2:=by
 constructor
 .intro h;rcases hk with h0|h1|h2|h3
  .obtain⟨a,s',d',rfl,rfl,hl,hr⟩:=(Z01 h0.1).1 h;exact⟨a,s',a,d',rfl,rfl,(Z01 h0.1).2 ⟨a,[],[],by simp,by simp,hl,.nil⟩,hr⟩
  .obtain⟨a,s',rfl,hl,hr⟩:=(Z02 h1).1 h;exact⟨a,s',[],d,rfl,rfl,(Z02 h1).2 ⟨a,[],by simp,hl,.nil⟩,hr⟩
  .obtain⟨d',rfl,hr⟩:=(YV h2).1 h;exact⟨[],s,o.l,d',rfl,rfl,(YV h2).2 ⟨[],by simp,.nil⟩,hr⟩
  .obtain⟨x,s',y,d',rfl,rfl,he,hr⟩:=(Z37 h3).1 h;exact⟨[x],s',[y],d',rfl,rfl,.into h3 he .nil,hr⟩
 .rintro⟨s1,s2,d1,d2,rfl,rfl,h1,h2⟩;rcases hk with h0|hg|hc|h3;.obtain⟨a,s',d',rfl,rfl,hl,hr⟩:=(Z01 h0.1).1 h1;obtain⟨rfl,rfl⟩:=Z0E hr;rw[Qi];exact .keep h0.1 hl h2
  .obtain⟨a,s',rfl,hl,hr⟩:=(Z02 hg).1 h1;obtain⟨rfl,rfl⟩:=Z0E hr;rw[Qi];exact .gone hg hl h2
  .obtain⟨d',rfl,hr⟩:=(YV hc).1 h1;obtain⟨rfl,rfl⟩:=Z0E hr;rw[Qi];exact .come hc h2
  .obtain⟨x,s',y,d',rfl,rfl,he,hr⟩:=(Z37 h3).1 h1;obtain⟨rfl,rfl⟩:=Z0E hr;exact .into h3 he h2
section
variable{β:Type}{at_:β->Int}{one:β->β->β×Bool}
structure MSpec(at_:β->Int)(one:β->β->β×Bool)(last:Int)(p q L:List β):Prop where
 asc_:asc at_ last L
 of:∀x∈L,(x∈p/\∀b∈q,at_ b≠at_ x)\/(x∈q/\∀a∈p,at_ a≠at_ x)\/∃a∈p,∃b∈q,at_ a=at_ b/\(one a b).2=true/\x=(one a b).1
 left:∀a∈p,(∀b∈q,at_ b≠at_ a)->a∈L
 right:∀b∈q,(∀a∈p,at_ a≠at_ b)->b∈L
 both:∀a∈p,∀b∈q,at_ a=at_ b->(one a b).2=true/\(one a b).1∈L
theorem Zgi(hone:∀a b,at_ a=at_ b->(one a b).2=true->at_ (one a b).1=at_ a):∀(k:Nat)(p q:List β)(ae:Int),p.length+q.length<=k->asc at_ ae p->asc at_ ae q->(Zq at_ one p q=none->∃a∈p,∃b∈q,at_ a=at_ b/\(one a b).2=false)/\∀L,Zq at_ one p q=some L->MSpec at_ one ae p q L:=by intro k;induction k with|zero=>intro p q ae hk hp hq;have e1:p=[]:=Q0 Yp;have e2:q=[]:=Q0 Yp;subst e1 e2;rw[Zq];refine⟨λh=>(by cases h),λL h=>?_⟩;cases h;exact⟨trivial,λx hx=>(by cases hx),λa ha=>(by cases ha),λa ha=>(by cases ha),λa ha=>(by cases ha)⟩|succ k ih=>
  intro p q ae hk hp hq;match p,q with
  |[],q=>
   rw[Zq];refine⟨λh=>(by cases h),λL h=>?_⟩;cases h;exact⟨hq,λx hx=>.inr (.inl ⟨hx,λa ha=>(by cases ha)⟩),λa ha=>(by cases ha),λb hb _=>hb,λa ha=>(by cases ha)⟩|a::p,[]=>
   rw[Zq];refine⟨λh=>(by cases h),λL h=>?_⟩;cases h;exact⟨hp,λx hx=>.inl ⟨hx,λa ha=>(by cases ha)⟩,λb hb _=>hb,λa ha=>(by cases ha),λa _ b hb=>(by cases hb)⟩|a::p,b::q=>
   have gp:=λx hx=>Z9k hp.2 x hx;have gq:=λx hx=>Z9k hq.2 x hx;simp only[Qa]at hk;rw[Zq];by_cases h1:at_ a<at_ b
   .rw[if_pos h1];obtain⟨i1,i2⟩:=ih p (b::q) (at_ a) (by grind) hp.2 ⟨h1,hq.2⟩;refine⟨λh=>?_,λL h=>?_⟩;.simp_all
    .obtain⟨L',hL,rfl⟩:=Qn.1 h;have S:=i2 L' hL;have na:∀y∈b::q,at_ y≠at_ a:=by
      intro y hy;rcases Q9.1 hy with rfl|hy;.omega
      .have:=gq y hy;omega
     refine⟨⟨hp.1,S.asc_⟩,λx hx=>?_,λx hx hn=>?_,λy hy hn=>?_,λx hx y hy e=>?_⟩
     .rcases Q9.1 hx with rfl|hx;.grind
      .rcases S.of x hx with⟨h2,h3⟩|⟨h2,h3⟩|⟨c,hc,d,hd,h2⟩;.grind
       .grind
       .exact .inr (.inr ⟨c,Q3 _ hc,d,hd,h2⟩)
     .rcases Q9.1 hx with rfl|hx;.grind
      .exact Q3 _ (S.left x hx hn)
     .exact Q3 _ (S.right y hy λc hc=>hn c (Q3 _ hc))
     .rcases Q9.1 hx with rfl|hx;.grind
      .obtain⟨h2,h3⟩:=S.both x hx y hy e;grind
   .rw[if_neg h1];by_cases h2:at_ b<at_ a
    .rw[if_pos h2];obtain⟨i1,i2⟩:=ih (a::p) q (at_ b) (by grind) ⟨h2,hp.2⟩ hq.2;refine⟨λh=>?_,λL h=>?_⟩;.rw[Option.map_eq_none_iff]at h;obtain⟨x,hx,y,hy,e⟩:=i1 h;exact⟨x,hx,y,Q3 _ hy,e⟩
     .obtain⟨L',hL,rfl⟩:=Qn.1 h;have S:=i2 L' hL;have nb:∀y∈a::p,at_ y≠at_ b:=by
       intro y hy;rcases Q9.1 hy with rfl|hy;.omega
       .have:=gp y hy;omega
      refine⟨⟨hq.1,S.asc_⟩,λx hx=>?_,λx hx hn=>?_,λy hy hn=>?_,λx hx y hy e=>?_⟩
      .rcases Q9.1 hx with rfl|hx;.grind
       .rcases S.of x hx with⟨h3,h4⟩|⟨h3,h4⟩|⟨c,hc,d,hd,h3⟩;.grind
        .grind
        .exact .inr (.inr ⟨c,hc,d,Q3 _ hd,h3⟩)
      .exact Q3 _ (S.left x hx λc hc=>hn c (Q3 _ hc))
      .rcases Q9.1 hy with rfl|hy;.grind
       .exact Q3 _ (S.right y hy hn)
      .rcases Q9.1 hy with rfl|hy;.grind
       .obtain⟨h3,h4⟩:=S.both x hx y hy e;grind
    .rw[if_neg h2];have e0:at_ a=at_ b:=Yp;by_cases h3:(one a b).2=true
     .rw[if_pos h3];obtain⟨i1,i2⟩:=ih p q (at_ a) Yp hp.2 (by rw[e0];exact hq.2);refine⟨λh=>?_,λL h=>?_⟩;.rw[Option.map_eq_none_iff]at h;obtain⟨x,hx,y,hy,e⟩:=i1 h;exact⟨x,Q3 _ hx,y,Q3 _ hy,e⟩
      .obtain⟨L',hL,rfl⟩:=Qn.1 h;have S:=i2 L' hL;have ao:=hone a b e0 h3;have na:∀y∈q,at_ y≠at_ a:=λy hy=>by grind
       have nb:∀y∈p,at_ y≠at_ b:=λy hy=>by grind
       refine⟨⟨by rw[ao];exact hp.1,by rw[ao];exact S.asc_⟩,λx hx=>?_,λx hx hn=>?_,λy hy hn=>?_,λx hx y hy e=>?_⟩
       .rcases Q9.1 hx with rfl|hx;.simp_all
        .rcases S.of x hx with⟨h4,h5⟩|⟨h4,h5⟩|⟨c,hc,d,hd,h4⟩;.refine .inl ⟨Q3 _ h4,λc hc=>?_⟩;grind
         .refine .inr (.inl ⟨Q3 _ h4,λc hc=>?_⟩);grind
         .exact .inr (.inr ⟨c,Q3 _ hc,d,Q3 _ hd,h4⟩)
       .rcases Q9.1 hx with rfl|hx;.simp_all
        .exact Q3 _ (S.left x hx λc hc=>hn c (Q3 _ hc))
       .rcases Q9.1 hy with rfl|hy;.simp_all
        .exact Q3 _ (S.right y hy λc hc=>hn c (Q3 _ hc))
       .rcases Q9.1 hx with rfl|hx;.grind
        .rcases Q9.1 hy with rfl|hy;.grind
         .obtain⟨h4,h5⟩:=S.both x hx y hy e;grind
     simp_all
variable{α:Type}{z:α}{F:β->α->Option α}{R:α->α->Prop}
end
end Go.AM.YtnfbomhidainjaaGreat
namespace Go.AM.YtnfbomhidainjaaGreat
open Go.AM Go.Proofs
noncomputable section
def ZAc:ArgL (WEdit×WEdit×Unit):=(.cons (aEl .wedit) (.cons (aEl .wedit) .nil))
def Zxe(a:WEdit×WEdit×Unit):Prop:=JT a.1/\JT a.2.1
def ZrK(a:WEdit×WEdit×Unit):V U:=.tup [(true,(enc .wedit ((Z0T a.1 a.2.1).1))),(false,[.bool ((Z0T a.1 a.2.1).2)])]
def Zfe:Fs U:=fs ZAc (λa=>[Zxe a]) ZrK
def ZAd:ArgL (WEdit×Unit):=(.cons (aEl .wedit) .nil)
def Zis(a:WEdit×Unit):Prop:=True
def ZFc(a:WEdit×Unit):V U:=.c (ci a.1.at_)
def Zff:Fs U:=fs ZAd (λa=>[Zis a]) ZFc
def ZAb:ArgL (Kid×Unit):=(.cons (aEl .kid) .nil)
def Zir(a:Kid×Unit):Prop:=True
def ZFb(a:Kid×Unit):V U:=.c (ci a.1.at_)
def Z5f:Fs U:=fs ZAb (λa=>[Zir a]) ZFb
def ZAe:ArgL (List WEdit×List WEdit×Unit×Unit×Unit):=(.cons (aSl .wedit) (.cons (aSl .wedit) (.cons (aFn 51) (.cons (aFn 52) .nil))))
def Zxf(a:List WEdit×List WEdit×Unit×Unit×Unit):Prop:=((∀x∈a.1,JT x)/\(a.1).length<=1000000)/\(∀x∈a.2.1,JT x)/\(a.2.1).length<=1000000
def ZrL(a:List WEdit×List WEdit×Unit×Unit×Unit):V U:=.tup [(false,[sU .wedit (ofO (Zq WEdit.at_ Z0T a.1 a.2.1)) .unk]),(false,[.bool ((Zq WEdit.at_ Z0T a.1 a.2.1).isSome)])]
def Zfg:Fs U:=fs ZAe (λa=>[Zxf a]) ZrL
def ZAk:ArgL (List WEdit×List WEdit×Unit):=(.cons (aSl .wedit) (.cons (aSl .wedit) .nil))
def Zxj(a:List WEdit×List WEdit×Unit):Prop:=((∀x∈a.1,JT x)/\(a.1).length<=1000000)/\(∀x∈a.2.1,JT x)/\(a.2.1).length<=1000000
def ZFi(a:List WEdit×List WEdit×Unit):V U:=.tup [(false,[sU .wedit (ofO (Zq WEdit.at_ Z0T a.1 a.2.1)) .unk]),(false,[.bool ((Zq WEdit.at_ Z0T a.1 a.2.1).isSome)])]
def Z5g:Fs U:=fs ZAk (λa=>[Zxj a]) ZFi
def ZyW:List (FuncId×Fs U):=[(71,Zfi)]
def ZI2:Za U:=lvl [([2,3,4],[2,3,4]),([2,3,4,6],[2,3,4]),([2,3,4,20],[2,3,4]),([4,5],[4]),([4,5],[4])]
abbrev A52(p:List Nat):=AW (Z2 ZyW) Tryz.f52 ZI2 p
theorem ZNr(p q:WEdit)(Q:QT)(h:let z1:=IntKind.bits .u8;let z0:=IntKind.wrap .u8 (BitVec.ofInt z1 p.mask&&&BitVec.ofInt z1 q.mask).toNat;((Zs1 (0,p.new,z0,()))/\(Zs1 (0,q.old,z0,()))/\(iB (((mix 0 p.new z0):Int)!=(mix 0 q.old z0)) ((Q .ret (L2 [pL 4,pB 5 false] [(.loc 4,[ci 0,.int .u8 0,.int .u64 0,.int .u64 0])]))) ((Zs1 (q.old,p.old,p.mask,()))/\(Zs1 (p.new,q.new,q.mask,()))/\(Q .ret (L2 [pL 4,pB 5 true] [(.loc 4,[ci p.at_,.int .u8 (IntKind.wrap .u8 (BitVec.ofInt z1 p.mask|||BitVec.ofInt z1 q.mask).toNat),.int .u64 (mix q.old p.old p.mask),.int .u64 (mix p.new q.new q.mask)])])))))):A52 [] (L2 [(0,.agg (enc .wedit p)),(1,.agg (enc .wedit q))] []) Q:=Eq.mpr V3 h
def ZK7(p q:WEdit):Prop:=AW (Z2 ZyW) Tryz.f52 ZI2 [] (Zg (ZAc.can (p,q,())) []) (EQ Tryz.f52 (ZrK (p,q,())) [])
theorem ZHd(c71:CT 71 Zfi)(hb:∀(p:WEdit)(q:WEdit)(_:Unit),Zxe (p,q,())->ZK7 p q):CT 52 Zfe:=Z1 (l:=[(71,Zfi)]) Zf rfl (⟨c71,trivial⟩) ZI2 Tryz.func52 rfl rfl 2 (λ_=>rfl) V0 (λ⟨p,q,_⟩=>hb p q ())
abbrev A51(p:List Nat):=AW (Z2 Zqj) Tryz.f51 ZId p
theorem ZNs(w:WEdit)(Q:QT)(h:(Q .ret (L2 [pI 2 w.at_] []))):A51 [] (L2 [(0,.agg (enc .wedit w))] []) Q:=Eq.mpr V3 h
def ZK8(w:WEdit):Prop:=AW (Z2 Zqj) Tryz.f51 ZId [] (Zg (ZAd.can (w,())) []) (EQ Tryz.f51 (ZFc (w,())) [])
theorem ZHe(hb:∀(w:WEdit)(_:Unit),Zis (w,())->ZK8 w):CT 51 Zff:=Z1 (l:=[]) Zf rfl trivial ZId Tryz.func51 rfl rfl 1 (λ_=>rfl) V0 (λ⟨w,_⟩=>hb w ())
abbrev A54(p:List Nat):=AW (Z2 Zqj) Tryz.f54 ZId p
theorem ZNp(k:Kid)(Q:QT)(h:(Q .ret (L2 [pI 2 k.at_] []))):A54 [] (L2 [(0,.agg (enc .kid k))] []) Q:=Eq.mpr V3 h
def ZK5(k:Kid):Prop:=AW (Z2 Zqj) Tryz.f54 ZId [] (Zg (ZAb.can (k,())) []) (EQ Tryz.f54 (ZFb (k,())) [])
theorem ZHc(hb:∀(k:Kid)(_:Unit),Zir (k,())->ZK5 k):CT 54 Z5f:=Z1 (l:=[]) Zf rfl trivial ZId Tryz.func54 rfl rfl 1 (λ_=>rfl) V0 (λ⟨k,_⟩=>hb k ())
def Zq7:List (FuncId×Fs U):=[(51,Zff),(52,Zfe)]
def ZDs:Za U:=lvk [([0,1,2,3],[]),([0,1,2,3,(10,[.own .wedit])],[]),([0,1,2,3,10,20],[]),([0,1,2,3,10,11,12],[11]),([0,1,2,3,10,11,33],[11]),([8,9],[]),([0,1,2,3,(10,[.own .wedit])],[]),([0,1,2,3,10,42],[]),([0,1,2,3,(10,[.own .wedit])],[]),([0,1,2,3,10,72],[]),([0,1,2,3,(10,[.own .wedit])],[]),([8,9],[])]
def Z4P(p q:List WEdit)(at_ one:Unit)(x0 x1 d:List WEdit):LSt U:=(L2 [(0,.c (sU .wedit x0 .unk)),(1,.c (sU .wedit x1 .unk)),(2,.fn 51),(3,.fn 52),(10,.c (sU .wedit d (.own (.e 10 0))))] [])
abbrev A50(p:List Nat):=AW (Z2 Zq7) Tryz.f50 ZDs p
abbrev S50(p:List Nat):=SW (Z2 Zq7) Tryz.f50 ZDs p
theorem ZNt(p q:List WEdit)(at_ one:Unit)(Q:QT)(h:(Zk (A50 [1,1,0,0,0]) (Z4P p q at_ one p q []) (xB 0 (S50 [1,1,1] Q)))):A50 [] (L2 [(0,.c (sU .wedit p .unk)),(1,.c (sU .wedit q .unk)),(2,.fn 51),(3,.fn 52)] []) Q:=Eq.mpr V3 h
theorem ZBt(p q:List WEdit)(at_ one:Unit)(x0 x1 ab:List WEdit)(N0:NT)(Q:QT)(h:∀ah,ah=(List.getD x0 (Int.toNat 0) (WEdit.mk 0 0 0 0))->∀ai,ai=(List.getD x1 (Int.toNat 0) (WEdit.mk 0 0 0 0))->∀aa,aa=ah->∀d,d=ai->∀af,af=((Z0T aa d).1)->let z3:=decide ((0:Int)<(x0.length:Int));let z2:=((x1.length:Int):Int)==0;let z1:=((x0.length:Int):Int)==0;let z0:=(!z2)&&z3;(Tt (!z3))/\(Tt (!z3))/\(z3=false->(!z3)=true)/\(iB (bif z3 then true else(decide ((0:Int)<(x1.length:Int)))) ((Tt (!z2))/\(Tt (!z2))/\(Tt (!z2))/\(Tt z0)/\(z0=true->(0:Int)<=0/\0<(x0.length:Int))/\(Tt z0)/\(Tt z0)/\(Tt z0)/\(z0=true->Zis (aa,()))/\(Tt z0)/\(z0=true->(0:Int)<=0/\0<(x1.length:Int))/\(Tt z0)/\(Tt z0)/\(Tt z0)/\(z0=true->Zis (d,()))/\(Tt z0)/\(Tt z0)/\((!z2)=true->(True->(!z2)=true))/\((!z2)=true->(z3=true->z0=true))/\(z2=false->(!z2)=true)/\(iB (bif z2 then true else(bif z3 then(decide (aa.at_<d.at_))else false)) (((0:Int)<=0/\0<(x0.length:Int))/\((ab.length+([aa]).length)*32<=140737488355328)/\((0:Int)<=1/\1<=(x0.length:Int))/\(N0 (Z4P p q at_ one (List.drop (Int.toNat 1) x0) x1 (ab++([aa]))))) ((Tt (!z1))/\((!z1)=true->(0:Int)<=0/\0<(x1.length:Int))/\(Tt (!z1))/\(Tt (!z1))/\(Tt (!z1))/\((!z1)=true->Zis (d,()))/\(Tt (!z1))/\((!z1)=true->(0:Int)<=0/\0<(x0.length:Int))/\(Tt (!z1))/\(Tt (!z1))/\(Tt (!z1))/\((!z1)=true->Zis (aa,()))/\(Tt (!z1))/\(Tt (!z1))/\(z1=false->(!z1)=true)/\(iB (bif z1 then true else(decide (d.at_<aa.at_))) (((0:Int)<=0/\0<(x1.length:Int))/\((ab.length+([d]).length)*32<=140737488355328)/\((0:Int)<=1/\1<=(x1.length:Int))/\(N0 (Z4P p q at_ one x0 (List.drop (Int.toNat 1) x1) (ab++([d]))))) (((0:Int)<=0/\0<(x0.length:Int))/\((0:Int)<=0/\0<(x1.length:Int))/\(Zxe (aa,d,()))/\(iB (!((Z0T aa d).2)) ((Q .ret (L2 [(8,.c (.nils)),pB 9 false] []))) (((ab.length+([af]).length)*32<=140737488355328)/\((0:Int)<=1/\1<=(x0.length:Int))/\((0:Int)<=1/\1<=(x1.length:Int))/\(N0 (Z4P p q at_ one (List.drop (Int.toNat 1) x0) (List.drop (Int.toNat 1) x1) (ab++([af]))))))))))) ((Q .ret (L2 [(8,.c (sU .wedit ab (.own (.e 8 0)))),pB 9 true] []))))):A50 [1,1,0,0,0] (Z4P p q at_ one x0 x1 ab) (xT N0 (xB 0 (S50 [1,1,1] Q))):=Eq.mpr V3 (h _ rfl _ rfl _ (Z5l _) _ (Z5l _) _ (Z5l _))
def ZK9(p q:List WEdit)(at_ one:Unit):Prop:=AW (Z2 Zq7) Tryz.f50 ZDs [] (Zg (ZAe.can (p,q,at_,one,())) []) (EQ Tryz.f50 (ZrL (p,q,at_,one,())) [])
theorem ZHf(c51:CT 51 Zff)(c52:CT 52 Zfe)(hb:∀(p:List WEdit)(q:List WEdit)(at_:Unit)(one:Unit)(_:Unit),Zxf (p,q,at_,one,())->ZK9 p q at_ one):CT 50 Zfg:=Z1 (l:=[(51,Zff),(52,Zfe)]) Zf rfl (⟨c51,c52,trivial⟩) ZDs Tryz.func50 rfl rfl 4 (λ_=>rfl) V0 (λ⟨p,q,at_,one,_⟩=>hb p q at_ one ())
def Zz5:List (FuncId×Fs U):=[(50,Zfg)]
abbrev A34(p:List Nat):=AW (Z2 Zz5) Tryz.f34 ZHH p
theorem ZNI(p q:List WEdit)(Q:QT)(h:((Zxf (p,q,(),(),()))/\(Q .ret (L2 [(4,.c (sU .wedit (ofO (Zq WEdit.at_ Z0T p q)) .unk)),pB 5 ((Zq WEdit.at_ Z0T p q).isSome)] [])))):A34 [] (L2 [(0,.c (sU .wedit p .unk)),(1,.c (sU .wedit q .unk))] []) Q:=Eq.mpr V3 h
def ZKo(p q:List WEdit):Prop:=AW (Z2 Zz5) Tryz.f34 ZHH [] (Zg (ZAk.can (p,q,())) []) (EQ Tryz.f34 (ZFi (p,q,())) [])
theorem ZHm(c50:CT 50 Zfg)(hb:∀(p:List WEdit)(q:List WEdit)(_:Unit),Zxj (p,q,())->ZKo p q):CT 34 Z5g:=Z1 (l:=[(50,Zfg)]) Zf rfl (⟨c50,trivial⟩) ZHH Tryz.func34 rfl rfl 2 (λ_=>rfl) V0 (λ⟨p,q,_⟩=>hb p q ())
end
noncomputable section
def Z5U:ArgL (Edit×Edit×Unit):=(.cons (aEl .edit) (.cons (aEl .edit) .nil))
def Z5Z(a:Edit×Edit×Unit):Prop:=Z4c a.1/\Z4c a.2.1
def Zhn(a:Edit×Edit×Unit):Nat:=8*(Zi a.1+Zi a.2.1)
def Z6x(a:Edit×Edit×Unit):V U:=.tup [(true,(enc .edit ((YP a.1 a.2.1).1))),(false,[.bool ((YP a.1 a.2.1).2)])]
def Zc8:Fs U:=fs Z5U (λa=>[Z5Z a]) Z6x
def Z5T:ArgL (List Kid×List Kid×Unit):=(.cons (aSl .kid) (.cons (aSl .kid) .nil))
def Z8n(a:List Kid×List Kid×Unit):Prop:=Ze7 a.1/\Ze7 a.2.1
def Zks(a:List Kid×List Kid×Unit):Nat:=8*(Zr a.1+Zr a.2.1)+4
def Zab(a:List Kid×List Kid×Unit):V U:=.tup [(false,[sU .kid (ofO (Zq KidOf.at_ (Z2S YP) a.1 a.2.1)) .unk]),(false,[.bool ((Zq KidOf.at_ (Z2S YP) a.1 a.2.1).isSome)])]
def Zw3:Fs U:=fs Z5T (λa=>[Z8n a]) Zab
def Z5R:ArgL (List Kid×List Kid×Unit×Unit×Unit):=(.cons (aSl .kid) (.cons (aSl .kid) (.cons (aFn 54) (.cons (aFn 55) .nil))))
def Z8l(a:List Kid×List Kid×Unit×Unit×Unit):Prop:=Ze7 a.1/\Ze7 a.2.1
def Zkq(a:List Kid×List Kid×Unit×Unit×Unit):Nat:=8*(Zr a.1+Zr a.2.1)+3
def Z6v(a:List Kid×List Kid×Unit×Unit×Unit):V U:=.tup [(false,[sU .kid (ofO (Zq KidOf.at_ (Z2S YP) a.1 a.2.1)) .unk]),(false,[.bool ((Zq KidOf.at_ (Z2S YP) a.1 a.2.1).isSome)])]
def ZvV:Fs U:=fs Z5R (λa=>[Z8l a]) Z6v
def Z5Q:ArgL (Kid×Kid×Unit):=(.cons (aEl .kid) (.cons (aEl .kid) .nil))
def Z8k(a:Kid×Kid×Unit):Prop:=Zzc a.1/\Zzc a.2.1
def Zkp(a:Kid×Kid×Unit):Nat:=8*(Yg a.1+Yg a.2.1)+1
def Z8i(a:Kid×Kid×Unit):V U:=.tup [(true,(enc .kid ((Z2S YP a.1 a.2.1).1))),(false,[.bool ((Z2S YP a.1 a.2.1).2)])]
def ZvU:Fs U:=fs Z5Q (λa=>[Z8k a]) Z8i
def Z8m(a:List Op×List Op×Unit):Prop:=Zu1 a.1/\Zu1 a.2.1
def Zkr(a:List Op×List Op×Unit):Nat:=8*(Zh a.1+Zh a.2.1)+40
def Z5X(a:List Op×List Op×Unit):V U:=.tup [(false,[sU .op (ofO (Z2L YP a.1 a.2.1)) .unk]),(false,[.bool ((Z2L YP a.1 a.2.1).isSome)])]
def Zw2:Fs U:=fs ZzO (λa=>[Z8m a]) Z5X
def Z5P:ArgL (Piece×Unit):=(.cons (aEl .piece) .nil)
def Z8j(a:Piece×Unit):Prop:=PcOk a.1
def Zko(a:Piece×Unit):Nat:=8*(Zu a.1.p+Zu a.1.q)+1
def Z6u(a:Piece×Unit):V U:=.tup [(true,(enc .op ((JY YP a.1).op))),(false,[.bool ((JY YP a.1).is)]),(false,[.bool ((JY YP a.1).ok)])]
def ZvT:Fs U:=fs Z5P (λa=>[Z8j a]) Z6u
def Z5A(N:Nat):List (FuncId×Fs U):=(19,fs Z5U (λa=>[Z5Z a,Zhn a<N]) Z6x)::(35,fs Z5T (λa=>[Z8n a,Zks a<N]) Zab)::(53,fs Z5R (λa=>[Z8l a,Zkq a<N]) Z6v)::(55,fs Z5Q (λa=>[Z8k a,Zkp a<N]) Z8i)::(36,fs ZzO (λa=>[Z8m a,Zkr a<N]) Z5X)::(57,fs Z5P (λa=>[Z8j a,Zko a<N]) Z6u)::[(10,Jt),(17,Z2E),(38,Ys),(34,Z5g),(54,Z5f),(56,Z5e)]
def ZIg:Za U:=lvl [([2,3,4],[2,3,4]),([2,3,4,15],[2,3,4]),([4,5],[4]),([2,3,4,20],[2,3,4]),([4,5],[4]),([2,3,4,25],[2,3,4]),([2,4,6,7],[2,4,6]),([4,5],[4]),([2,3,4,41],[2,3,4]),([3,4,8,9],[3,4,8]),([4,5],[4]),([2,3,4,58],[2,3,4]),([4,5],[4]),([2,3,4,72],[2,3,4]),([2,3,4,10,11],[2,3,4]),([2,3,4,10,85],[2,3,4]),([4,5],[4]),([4,10,11,12],[4]),([4,5],[4]),([2,4,13,14],[2,4]),([4,5],[4])]
abbrev A19(N:Nat)(p:List Nat):=AW (Z2 (Z5A N)) Tryz.f19 ZIg p
theorem ZNW(N:Nat)(p q:Edit)(Q:QT)(h:∀af,af=p->∀ae,ae=q->∀ab,ab=(p.new)->∀aa,aa=(q.old)->∀d,d=(ZM (Y2 af))->let z3:=Zq WEdit.at_ Z0T p.words q.words;let z2:=Zq KidOf.at_ (Z2S YP) p.kids q.kids;let z1:=(Q .ret (L2 [pL 4,pB 5 false] [(.loc 4,zc1)]));let z0:=p.kind !=q.kind;(iB (p.kind==0) ((Q .ret (L2 [pL 4,pB 5 true] [(.loc 4,(enc .edit q))]))) ((iB (q.kind==0) ((Q .ret (L2 [pL 4,pB 5 true] [(.loc 4,(enc .edit p))]))) ((iB (p.kind==1) ((Z4s (ae,ab,()))/\(Q .ret (L2 [pL 4,pB 5 ((doE false ae ab).isSome)] [(.loc 4,([ci 1]++enc .tree p.old++enc .tree (Z1m ((doE false ae ab).map Z0))++[.nils,.nils,ci 0,.nils]))]))) ((iB (q.kind==1) ((Z4t (af,()))/\(Z4s (d,aa,()))/\(Q .ret (L2 [pL 4,pB 5 ((doE false d aa).isSome)] [(.loc 4,([ci 1]++enc .tree (Z1m ((doE false d aa).map Z0))++enc .tree q.new++[.nils,.nils,ci 0,.nils]))]))) ((Tt (!z0))/\(Tt (!z0))/\(Tt (!z0))/\(Tt (!z0))/\(z0=false->(!z0)=true)/\(iB (bif z0 then true else(p.list !=q.list)) z1 ((iB (p.kind==2) ((Zxj (p.words,q.words,()))/\(iB (!(z3.isSome)) z1 ((Z8n (p.kids,q.kids,()))/\(Zks (p.kids,q.kids,())<N)/\(Q .ret (L2 [pL 4,pB 5 (z2.isSome)] [(.loc 4,[ci 2,ci 0,.nils,.nils,ci 0,.nils,.nils,sU .wedit (ofO z3) .unk,sU .kid (ofO z2) .unk,ci 0,.nils])]))))) ((Z8m (p.ops,q.ops,()))/\(Zkr (p.ops,q.ops,())<N)/\(Q .ret (L2 [pL 4,pB 5 ((Z2L YP p.ops q.ops).isSome)] [(.loc 4,[ci 3,ci 0,.nils,.nils,ci 0,.nils,.nils,.nils,.nils,ci p.list,sU .op (ofO (Z2L YP p.ops q.ops)) .unk])]))))))))))))))):A19 N [] (L2 [(0,.agg (enc .edit p)),(1,.agg (enc .edit q))] []) Q:=Eq.mpr V3 (h _ (Zj _) _ (Zj _) _ (Z3 _) _ (Z3 _) _ (Zj _))
def ZKC(N:Nat)(p q:Edit):Prop:=AW (Z2 (Z5A N)) Tryz.f19 ZIg [] (Zg (Z5U.can (p,q,())) []) (EQ Tryz.f19 (Z6x (p,q,())) [])
abbrev ZMv:Prop:=∀(N:Nat)(p:Edit)(q:Edit)(_:Unit),Z5Z (p,q,())->Zhn (p,q,())<N+1->ZKC N p q
abbrev A35(N:Nat)(p:List Nat):=AW (Z2 (Z5A N)) Tryz.f35 ZHH p
theorem ZNH(N:Nat)(p q:List Kid)(Q:QT)(h:let z0:=Zq KidOf.at_ (Z2S YP) p q;((Z8l (p,q,(),(),()))/\(Zkq (p,q,(),(),())<N)/\(Q .ret (L2 [(4,.c (sU .kid (ofO z0) .unk)),pB 5 (z0.isSome)] [])))):A35 N [] (L2 [(0,.c (sU .kid p .unk)),(1,.c (sU .kid q .unk))] []) Q:=Eq.mpr V3 h
def ZKn(N:Nat)(p q:List Kid):Prop:=AW (Z2 (Z5A N)) Tryz.f35 ZHH [] (Zg (Z5T.can (p,q,())) []) (EQ Tryz.f35 (Zab (p,q,())) [])
abbrev ZMp:Prop:=∀(N:Nat)(p:List Kid)(q:List Kid)(_:Unit),Z8n (p,q,())->Zks (p,q,())<N+1->ZKn N p q
def ZDr:Za U:=lvk [([0,1,2,3],[]),([0,1,2,3,(10,[.own .kid])],[]),([0,1,2,3,10,20],[]),([0,1,2,3,10,11,12],[11]),([0,1,2,3,10,11,33],[11]),([8,9],[]),([0,1,2,3,(10,[.own .kid])],[]),([0,1,2,3,10,42],[]),([0,1,2,3,(10,[.own .kid])],[]),([0,1,2,3,10,72],[]),([0,1,2,3,(10,[.own .kid])],[]),([8,9],[])]
def Z4O(p q:List Kid)(at_ one:Unit)(x0 x1 d:List Kid):LSt U:=(L2 [(0,.c (sU .kid x0 .unk)),(1,.c (sU .kid x1 .unk)),(2,.fn 54),(3,.fn 55),(10,.c (sU .kid d (.own (.e 10 0))))] [])
abbrev A53(N:Nat)(p:List Nat):=AW (Z2 (Z5A N)) Tryz.f53 ZDr p
abbrev S53(N:Nat)(p:List Nat):=SW (Z2 (Z5A N)) Tryz.f53 ZDr p
theorem ZNq(N:Nat)(p q:List Kid)(at_ one:Unit)(Q:QT)(h:(Zk (A53 N [1,1,0,0,0]) (Z4O p q at_ one p q []) (xB 0 (S53 N [1,1,1] Q)))):A53 N [] (L2 [(0,.c (sU .kid p .unk)),(1,.c (sU .kid q .unk)),(2,.fn 54),(3,.fn 55)] []) Q:=Eq.mpr V3 h
theorem ZBs(N:Nat)(p q:List Kid)(at_ one:Unit)(x0 x1 ab:List Kid)(N0:NT)(Q:QT)(h:∀ah,ah=(List.getD x0 (Int.toNat 0) (KidOf.mk 0 Edit.nil))->∀ai,ai=(List.getD x1 (Int.toNat 0) (KidOf.mk 0 Edit.nil))->∀aa,aa=ah->∀d,d=ai->∀af,af=((Z2S YP aa d).1)->let z3:=decide ((0:Int)<(x0.length:Int));let z2:=((x1.length:Int):Int)==0;let z1:=((x0.length:Int):Int)==0;let z0:=(!z2)&&z3;(Tt (!z3))/\(Tt (!z3))/\(z3=false->(!z3)=true)/\(iB (bif z3 then true else(decide ((0:Int)<(x1.length:Int)))) ((Tt (!z2))/\(Tt (!z2))/\(Tt (!z2))/\(Tt z0)/\(z0=true->(0:Int)<=0/\0<(x0.length:Int))/\(Tt z0)/\(Tt z0)/\(Tt z0)/\(z0=true->Zir (aa,()))/\(Tt z0)/\(z0=true->(0:Int)<=0/\0<(x1.length:Int))/\(Tt z0)/\(Tt z0)/\(Tt z0)/\(z0=true->Zir (d,()))/\(Tt z0)/\(Tt z0)/\((!z2)=true->(True->(!z2)=true))/\((!z2)=true->(z3=true->z0=true))/\(z2=false->(!z2)=true)/\(iB (bif z2 then true else(bif z3 then(decide (aa.at_<d.at_))else false)) (((0:Int)<=0/\0<(x0.length:Int))/\((ab.length+([aa]).length)*208<=140737488355328)/\((0:Int)<=1/\1<=(x0.length:Int))/\(N0 (Z4O p q at_ one (List.drop (Int.toNat 1) x0) x1 (ab++([aa]))))) ((Tt (!z1))/\((!z1)=true->(0:Int)<=0/\0<(x1.length:Int))/\(Tt (!z1))/\(Tt (!z1))/\(Tt (!z1))/\((!z1)=true->Zir (d,()))/\(Tt (!z1))/\((!z1)=true->(0:Int)<=0/\0<(x0.length:Int))/\(Tt (!z1))/\(Tt (!z1))/\(Tt (!z1))/\((!z1)=true->Zir (aa,()))/\(Tt (!z1))/\(Tt (!z1))/\(z1=false->(!z1)=true)/\(iB (bif z1 then true else(decide (d.at_<aa.at_))) (((0:Int)<=0/\0<(x1.length:Int))/\((ab.length+([d]).length)*208<=140737488355328)/\((0:Int)<=1/\1<=(x1.length:Int))/\(N0 (Z4O p q at_ one x0 (List.drop (Int.toNat 1) x1) (ab++([d]))))) (((0:Int)<=0/\0<(x0.length:Int))/\((0:Int)<=0/\0<(x1.length:Int))/\(Z8k (aa,d,()))/\(Zkp (aa,d,())<N)/\(iB (!((Z2S YP aa d).2)) ((Q .ret (L2 [(8,.c (.nils)),pB 9 false] []))) (((ab.length+([af]).length)*208<=140737488355328)/\((0:Int)<=1/\1<=(x0.length:Int))/\((0:Int)<=1/\1<=(x1.length:Int))/\(N0 (Z4O p q at_ one (List.drop (Int.toNat 1) x0) (List.drop (Int.toNat 1) x1) (ab++([af]))))))))))) ((Q .ret (L2 [(8,.c (sU .kid ab (.own (.e 8 0)))),pB 9 true] []))))):A53 N [1,1,0,0,0] (Z4O p q at_ one x0 x1 ab) (xT N0 (xB 0 (S53 N [1,1,1] Q))):=Eq.mpr V3 (h _ rfl _ rfl _ (ZfM _) _ (ZfM _) _ (ZfM _))
def ZK6(N:Nat)(p q:List Kid)(at_ one:Unit):Prop:=AW (Z2 (Z5A N)) Tryz.f53 ZDr [] (Zg (Z5R.can (p,q,at_,one,())) []) (EQ Tryz.f53 (Z6v (p,q,at_,one,())) [])
abbrev ZMh:Prop:=∀(N:Nat)(p:List Kid)(q:List Kid)(at_:Unit)(one:Unit)(_:Unit),Z8l (p,q,at_,one,())->Zkq (p,q,at_,one,())<N+1->ZK6 N p q at_ one
def ZI0:Za U:=lvl [([2,3,4],[2,3,4]),([2,4,6,7],[2,4,6]),([4,5],[4])]
abbrev A55(N:Nat)(p:List Nat):=AW (Z2 (Z5A N)) Tryz.f55 ZI0 p
theorem ZNo(N:Nat)(a b:Kid)(Q:QT)(h:∀aa,aa=(a.e)->∀d,d=(b.e)->((Z5Z (aa,d,()))/\(Zhn (aa,d,())<N)/\(Q .ret (L2 [pL 4,pB 5 ((YP aa d).2)] [(.loc 4,([ci a.at_]++enc .edit ((YP aa d).1)))])))):A55 N [] (L2 [(0,.agg (enc .kid a)),(1,.agg (enc .kid b))] []) Q:=Eq.mpr V3 (h _ (Zj _) _ (Zj _))
def ZK4(N:Nat)(a b:Kid):Prop:=AW (Z2 (Z5A N)) Tryz.f55 ZI0 [] (Zg (Z5Q.can (a,b,())) []) (EQ Tryz.f55 (Z8i (a,b,())) [])
abbrev ZMg:Prop:=∀(N:Nat)(a:Kid)(b:Kid)(_:Unit),Z8k (a,b,())->Zkp (a,b,())<N+1->ZK4 N a b
def ZDy:Za U:=lvk [([0,1],[]),([6,7],[]),([6,21],[]),([4,5],[]),([6,8],[]),([(8,[.own .op]),22,23,24],[]),([8,22,23,24,25],[]),([8,10,22,23,24],[10]),([8,11,12,13,22,23,24],[11]),([8,11,12,22,23,24,35],[11]),([4,5],[]),([8,11,22,23,24,36],[11]),([8,22,23,24],[]),([(8,[.own .op]),22,23,24],[]),([4,5],[])]
def Z73(p q:List Op)(d:Int)(x8:List Op):LSt U:=(L2 [(8,.c (sU .op x8 (.own (.e 8 0)))),(22,.c (sU .piece ((Zl 1 2 p q []).1) .unk)),pI 23 (((Zl 1 2 p q []).1).length:Int),pI 24 d] [])
abbrev A36(N:Nat)(p:List Nat):=AW (Z2 (Z5A N)) Tryz.f36 ZDy p
abbrev S36(N:Nat)(p:List Nat):=SW (Z2 (Z5A N)) Tryz.f36 ZDy p
theorem ZNG(N:Nat)(p q:List Op)(Q:QT)(h:((Zx6 (p,q,()))/\(iB (!((Zl 1 2 p q []).2.1)) ((Q .ret (L2 [(4,.c (.nils)),pB 5 false] []))) ((Zk (A36 N [1,1,1,1,0,1,0,0]) (Z73 p q 0 []) (xB 0 (S36 N [1,1,1,1,1] Q))))))):A36 N [] (L2 [(0,.c (sU .op p .unk)),(1,.c (sU .op q .unk))] []) Q:=Eq.mpr V3 h
theorem ZBG(N:Nat)(p q:List Op)(d:Int)(x8:List Op)(N0:NT)(Q:QT)(h:∀ae,ae=(List.getD ((Zl 1 2 p q []).1) d.toNat (Piece.mk 0 Op.nil Op.nil))->∀aa,aa=ae->∀ab,ab=((JY YP aa).op)->(iB (decide (d<(((Zl 1 2 p q []).1).length:Int))) (((0:Int)<=d/\d<(((Zl 1 2 p q []).1).length:Int))/\((Z8j (aa,()))/\(Zko (aa,())<N)/\(iB (!((JY YP aa).ok)) ((Q .ret (L2 [(4,.c (.nils)),pB 5 false] []))) ((iB ((JY YP aa).is) (((x8.length+([ab]).length)*240<=140737488355328)/\((InR (d+1))/\(N0 (Z73 p q (d+1) (x8++([ab])))))) ((InR (d+1))/\(N0 (Z73 p q (d+1) x8)))))))) ((Q .ret (L2 [(4,.c (sU .op x8 (.own (.e 4 0)))),pB 5 true] []))))):A36 N [1,1,1,1,0,1,0,0] (Z73 p q d x8) (xT N0 (xB 0 (S36 N [1,1,1,1,1] Q))):=Eq.mpr V3 (h _ rfl _ (ZoT _) _ (JA _))
def ZKm(N:Nat)(p q:List Op):Prop:=AW (Z2 (Z5A N)) Tryz.f36 ZDy [] (Zg (ZzO.can (p,q,())) []) (EQ Tryz.f36 (Z5X (p,q,())) [])
abbrev ZMo:Prop:=∀(N:Nat)(p:List Op)(q:List Op)(_:Unit),Z8m (p,q,())->Zkr (p,q,())<N+1->ZKm N p q
def ZDq:Za U:=lvl [([1,2],[1,2]),([1,2,13],[1,2]),([2,3,4],[2]),([1,2,30],[1,2]),([2,3,4],[2]),([1,2,42],[1,2]),([1,2,55,56,57],[1,2]),([1,2,55,56,57,58],[1,2]),([1,2,5,6,55,56,57],[1,2,6]),([1,2,55,56,57,70],[1,2]),([2,3,4],[2]),([1,2,55,56,57],[1,2]),([2,3,4],[2]),([1,2,74],[1,2]),([2,7,8],[2,7]),([2,3,4],[2]),([1,2,95],[1,2]),([2,9,10],[2,9]),([2,3,4],[2]),([2,11,12],[2,11]),([2,3,4],[2])]
def ZaZ(x:Piece)(d:Int):LSt U:=(L2 [pL 1,pL 2,(55,.c (sU .tree x.p.l .unk)),pI 56 (x.p.l.length:Int),pI 57 d] [(.loc 1,(enc .piece x)),(.loc 2,zc2)])
abbrev A57(N:Nat)(p:List Nat):=AW (Z2 (Z5A N)) Tryz.f57 ZDq p
abbrev S57(N:Nat)(p:List Nat):=SW (Z2 (Z5A N)) Tryz.f57 ZDq p
theorem ZNm(N:Nat)(x:Piece)(Q:QT)(h:∀aa,aa=(x.p.e)->∀d,d=(x.q.e)->∀ak,ak=(List.getD x.p.l (Int.toNat 0) Tree.nil)->∀aj,aj=(List.getD x.q.l (Int.toNat 0) Tree.nil)->∀ab,ab=ak->∀ae,ae=aj->∀af,af=(ZM (Y2 aa))->∀ai,ai=(Z1m ((doE false d ab).map Z0))->∀ah,ah=(Z1m ((doE false af ae).map Z0))->let z0:=(!(x.of==1))&&(x.of==0);((Tt (!(x.of==1)))/\(Tt (!(x.of==1)))/\(Tt (!(x.of==1)))/\(Tt z0)/\(Tt z0)/\(Tt z0)/\((!(x.of==1))=true->(True->(!(x.of==1))=true))/\((!(x.of==1))=true->((x.of==0)=true->z0=true))/\((x.of==1)=false->(!(x.of==1))=true)/\(iB (bif(x.of==1)then true else(bif(x.of==0)then(x.q.kind==0)else false)) ((Q .ret (L2 [pL 2,pB 3 true,pB 4 true] [(.loc 2,(enc .op x.p))]))) ((Tt (!(x.of==2)))/\(Tt (!(x.of==2)))/\(Tt (!(x.of==2)))/\((x.of==2)=false->(!(x.of==2))=true)/\(iB (bif(x.of==2)then true else(x.p.kind==0)) ((Q .ret (L2 [pL 2,pB 3 true,pB 4 true] [(.loc 2,(enc .op x.q))]))) ((Tt (x.p.kind==2))/\(Tt (x.p.kind==2))/\(Tt (x.p.kind==2))/\(Tt (x.p.kind==2))/\(iB (bif(x.p.kind==2)then(x.q.kind==1)else false) ((Zk (A57 N [1,0,0,1,1,1,1,1,0,0,1,0,0]) (ZaZ x 0) (xB 1 (S57 N [1,0,0,1,1,1,1,1,0,1] (xB 0 (S57 N [1,1] Q)))))) ((iB (x.p.kind==2) (((0:Int)<=0/\0<(x.p.l.length:Int))/\(Z4s (d,ab,()))/\(Q .ret (L2 [pL 2,pB 3 true,pB 4 ((doE false d ab).isSome)] [(.loc 2,[ci 2,ci 0,sU .tree ([ai]) .full,ci 0,ci 0,.nils,.nils,ci 0,.nils,.nils,.nils,.nils,ci 0,.nils])]))) ((iB (x.q.kind==1) ((Z4t (aa,()))/\((0:Int)<=0/\0<(x.q.l.length:Int))/\(Z4s (af,ae,()))/\(Q .ret (L2 [pL 2,pB 3 true,pB 4 ((doE false af ae).isSome)] [(.loc 2,[ci 1,ci 0,sU .tree ([ah]) .full,ci 0,ci 0,.nils,.nils,ci 0,.nils,.nils,.nils,.nils,ci 0,.nils])]))) ((Z5Z (aa,d,()))/\(Zhn (aa,d,())<N)/\(Q .ret (L2 [pL 2,pB 3 true,pB 4 ((YP aa d).2)] [(.loc 2,([ci 3,ci 0,.nils]++enc .edit ((YP aa d).1)))])))))))))))))):A57 N [] (L2 [(0,.agg (enc .piece x))] []) Q:=Eq.mpr V3 (h _ (Zj _) _ (Zj _) _ rfl _ rfl _ (Z3 _) _ (Z3 _) _ (Zj _) _ (Z3 _) _ (Z3 _))
theorem ZBr(N:Nat)(x:Piece)(d:Int)(N0:NT)(Q:QT)(h:∀ae,ae=(x.p.l.getD d.toNat Tree.nil)->∀af,af=(x.q.l.getD d.toNat Tree.nil)->∀ab,ab=ae->∀aa,aa=af->(iB (decide (d<(x.p.l.length:Int))) (((0:Int)<=d/\d<(x.p.l.length:Int))/\(((0:Int)<=d/\d<(x.q.l.length:Int))/\(Z2J (ab,aa,()))/\(iB (!(ZN (Z0 ab) (Z0 aa))) ((Q .ret (L2 [pL 2,pB 3 false,pB 4 false] [(.loc 2,zc2)]))) ((InR (d+1))/\(N0 (ZaZ x (d+1))))))) ((Q .ret (L2 [pL 2,pB 3 false,pB 4 true] [(.loc 2,zc2)]))))):A57 N [1,0,0,1,1,1,1,1,0,0,1,0,0] (ZaZ x d) (xT N0 (xB 1 (S57 N [1,0,0,1,1,1,1,1,0,1] (xB 0 (S57 N [1,1] Q))))):=Eq.mpr V3 (h _ rfl _ rfl _ (Z3 _) _ (Z3 _))
def ZK2(N:Nat)(x:Piece):Prop:=AW (Z2 (Z5A N)) Tryz.f57 ZDq [] (Zg (Z5P.can (x,())) []) (EQ Tryz.f57 (Z6u (x,())) [])
abbrev ZMf:Prop:=∀(N:Nat)(x:Piece)(_:Unit),Z8j (x,())->Zko (x,())<N+1->ZK2 N x
theorem ZCI(c10:CT 10 Jt)(c17:CT 17 Z2E)(c38:CT 38 Ys)(c34:CT 34 Z5g)(c54:CT 54 Z5f)(c56:CT 56 Z5e)(b19:ZMv)(b35:ZMp)(b53:ZMh)(b55:ZMg)(b36:ZMo)(b57:ZMf):CT 19 Zc8/\CT 35 Zw3/\CT 53 ZvV/\CT 55 ZvU/\CT 36 Zw2/\CT 57 ZvT:=by
 have aj:FK 19:=⟨Tryz.f19,Tryz.func19,rfl,rfl⟩;have ai:FK 35:=⟨Tryz.f35,Tryz.func35,rfl,rfl⟩;have ab:FK 53:=⟨Tryz.f53,Tryz.func53,rfl,rfl⟩;have ae:FK 55:=⟨Tryz.f55,Tryz.func55,rfl,rfl⟩;have ah:FK 36:=⟨Tryz.f36,Tryz.func36,rfl,rfl⟩;have aa:FK 57:=⟨Tryz.f57,Tryz.func57,rfl,rfl⟩;have d:∀N,CT 19 (fs Z5U (λa=>[Z5Z a,Zhn a<N]) Z6x)/\CT 35 (fs Z5T (λa=>[Z8n a,Zks a<N]) Zab)/\CT 53 (fs Z5R (λa=>[Z8l a,Zkq a<N]) Z6v)/\CT 55 (fs Z5Q (λa=>[Z8k a,Zkp a<N]) Z8i)/\CT 36 (fs ZzO (λa=>[Z8m a,Zkr a<N]) Z5X)/\CT 57 (fs Z5P (λa=>[Z8j a,Zko a<N]) Z6u):=by intro N;induction N with|zero=>exact⟨JB aj,JB ai,JB ab,JB ae,JB ah,JB aa⟩|succ N ih=>have kn:=Z0j (l:=Z5A N) ⟨ih.1,ih.2.1,ih.2.2.1,ih.2.2.2.1,ih.2.2.2.2.1,ih.2.2.2.2.2,c10,c17,c38,c34,c54,c56,trivial⟩;exact⟨ZE (Γ:=Z2 (Z5A N)) Zf rfl kn ZIg Tryz.func19 rfl rfl (λa=>by show 2<=_;decide) (λ⟨p,q,_⟩h=>b19 N p q () h.1 h.2.1),ZE (Γ:=Z2 (Z5A N)) Zf rfl kn ZHH Tryz.func35 rfl rfl (λa=>by show 2<=_;decide) (λ⟨p,q,_⟩h=>b35 N p q () h.1 h.2.1),ZE (Γ:=Z2 (Z5A N)) Zf rfl kn ZDr Tryz.func53 rfl rfl (λa=>by show 4<=_;decide) (λ⟨p,q,at_,one,_⟩h=>b53 N p q at_ one () h.1 h.2.1),ZE (Γ:=Z2 (Z5A N)) Zf rfl kn ZI0 Tryz.func55 rfl rfl (λa=>by show 2<=_;decide) (λ⟨a,b,_⟩h=>b55 N a b () h.1 h.2.1),ZE (Γ:=Z2 (Z5A N)) Zf rfl kn ZDy Tryz.func36 rfl rfl (λa=>by show 2<=_;decide) (λ⟨p,q,_⟩h=>b36 N p q () h.1 h.2.1),ZE (Γ:=Z2 (Z5A N)) Zf rfl kn ZDq Tryz.func57 rfl rfl (λa=>by show 1<=_;decide) (λ⟨x,_⟩h=>b57 N x () h.1 h.2.1)⟩
 exact⟨JC aj λN=>(d N).1,JC ai λN=>(d N).2.1,JC ab λN=>(d N).2.2.1,JC ae λN=>(d N).2.2.2.1,JC ah λN=>(d N).2.2.2.2.1,JC aa λN=>(d N).2.2.2.2.2⟩
end
theorem Z4C(m:Int)(h0:0<=m)(h1:m<256)(i:Nat):Z04 m (i:Int)=(BitVec.ofInt 8 m).toNat.testBit i:=by
 obtain⟨n,rfl⟩:=QH h0;have e:(BitVec.ofInt 8 ((n:Nat):Int)).toNat=n:=by simp;omega
 rw[e,Nat.testBit_eq_decide_div_mod_eq];unfold Z04;grind
theorem Ztx{a b:Int}(ha:0<=a/\a<256)(hb:0<=b/\b<256):(0<=ZhB a b/\ZhB a b<256)/\∀i:Nat,Z04 (ZhB a b) (i:Int)=(Z04 a (i:Int)&&Z04 b (i:Int)):=by
 have d:(BitVec.ofInt 8 a&&&BitVec.ofInt 8 b).toNat<256:=(BitVec.ofInt 8 a&&&BitVec.ofInt 8 b).isLt;have e:ZhB a b=((BitVec.ofInt 8 a&&&BitVec.ofInt 8 b).toNat:Int):=by show IntKind.wrap .u8 ((BitVec.ofInt 8 a&&&BitVec.ofInt 8 b).toNat:Int)=_;exact Zeg Yp Yp
 refine⟨by rw[e];omega,λi=>?_⟩;rw[Z4C _ (by rw[e];omega) (by rw[e];omega),e,Z4C a ha.1 ha.2,Z4C b hb.1 hb.2];grind
theorem ZGo{a b:Int}(ha:0<=a/\a<256)(hb:0<=b/\b<256):(0<=orM a b/\orM a b<256)/\∀i:Nat,Z04 (orM a b) (i:Int)=(Z04 a (i:Int)||Z04 b (i:Int)):=by
 have d:(BitVec.ofInt 8 a|||BitVec.ofInt 8 b).toNat<256:=(BitVec.ofInt 8 a|||BitVec.ofInt 8 b).isLt;have e:orM a b=((BitVec.ofInt 8 a|||BitVec.ofInt 8 b).toNat:Int):=by show IntKind.wrap .u8 ((BitVec.ofInt 8 a|||BitVec.ofInt 8 b).toNat:Int)=_;exact Zeg Yp Yp
 refine⟨by rw[e];omega,λi=>?_⟩;rw[Z4C _ (by rw[e];omega) (by rw[e];omega),e,Z4C a ha.1 ha.2,Z4C b hb.1 hb.2];grind
theorem ZzC(i:Nat):Zd 0 i=0:=by unfold Zd;simp
theorem Zd4{w m:Int}(h:Yr w m=true){i:Nat}(hi:i<8)(hn:Z04 m i=false):Zd w i=0:=by have h:mix w 0 m=0:=of_decide_eq_true h;have e:=congrArg (λx=>Zd x i) h;simp only[Zn3 hi,JP,hn,ZzC]at e;simpa using e
theorem Z97{a b m:Int}{i:Nat}(hi:i<8):Zd (mix a b m) i=if Z04 m i=true then Zd b i else Zd a i:=by rw[Zn3 hi];try rfl
theorem ZE0(a b:WEdit)(h:(Z0T a b).2=true):(Z0T a b).1.at_=a.at_:=by unfold Z0T at h⊢;grind
theorem Z1Z{e:Edit}{d:Int}(h:Z8 e d=true):∀o∈e.ops,YD o:=Z18 (Zt h).ops
theorem Z8s{f g:Edit->Edit->Edit×Bool}{p q:Edit}{d d':Int}(hp:Z8 p d=true)(hq:Z8 q d'=true)(h:∀a b,Zi a+Zi b<Zi p+Zi q->(∃d,Z8 a d=true)->(∃d,Z8 b d=true)->f a b=g a b):Z0J f p q=Z0J g p q:=by
 have rp:=Zt hp;have rq:=Zt hq;have hk:Zq KidOf.at_ (Z2S f) p.kids q.kids=Zq KidOf.at_ (Z2S g) p.kids q.kids:=by
  have ai:∀(k:Nat)(a b:List Kid),a.length+b.length<=k->(∀x∈a,x∈p.kids)->(∀x∈b,x∈q.kids)->Zq KidOf.at_ (Z2S f) a b=Zq KidOf.at_ (Z2S g) a b:=by
   intro k;induction k with
   |zero=>
    intro a b hn _ _;have e1:a=[]:=Q0 Yp;subst e1;rw[Zq,Zq]|succ k ihk=>intro a b hn ha hb;match a,b with
    |[],b=>rw[Zq,Zq]|x::a,[]=>rw[Zq,Zq]|x::a,y::b=>
     simp only[Qa]at hn;have hx:=Z4B (ha x Q5);have hy:=Z4B (hb y Q5);have e:Z2S f x y=Z2S g x y:=by unfold Z2S;rw[h x.e y.e Yp ⟨_,(ZD rp.kids x (ha x Q5)).2⟩ ⟨_,(ZD rq.kids y (hb y Q5)).2⟩]
     rw[Zq,Zq,e,ihk a (y::b) (by simp only[Qa];omega) (λz hz=>ha z (Q3 _ hz)) hb,ihk (x::a) b (by simp only[Qa];omega) ha (λz hz=>hb z (Q3 _ hz)),ihk a b Yp (λz hz=>ha z (Q3 _ hz)) (λz hz=>hb z (Q3 _ hz))]
  exact ai _ _ _ (Qc _) (λx hx=>hx) (λx hx=>hx)
 have ho:Z2L f p.ops q.ops=Z2L g p.ops q.ops:=by
  unfold Z2L;obtain⟨i1,_⟩:=Zg5 _ p.ops q.ops [] (Qc _) (Z1Z hp) (Z1Z hq);by_cases hb:(Zl 1 2 p.ops q.ops []).2.1=true
  .rw[if_pos hb,if_pos hb];obtain⟨ps,e,ah,hA,hB⟩:=i1 hb;rw[e,Qh];clear e i1 hb hA hB;induction ps with
   |nil=>rfl|cons x r ihr=>
    have hx:=ah x Q5;have e:JY f x=JY g x:=by
     unfold JY;by_cases h1:x.of=1\/(x.of=0/\x.q.kind=0);.grind
     rw[if_neg h1,if_neg h1];by_cases h2:x.of=2\/x.p.kind=0;.grind
     rw[if_neg h2,if_neg h2];by_cases h3:x.p.kind=2/\x.q.kind=1;.grind
     rw[if_neg h3,if_neg h3];by_cases h4:x.p.kind=2;.grind
     rw[if_neg h4,if_neg h4];by_cases h5:x.q.kind=1;.grind
     rw[if_neg h5,if_neg h5];have h0:x.of=0:=by rcases hx.of with h|h|h<;>omega
     obtain⟨ay,az,hl⟩:=hx.both h0;obtain⟨⟨o1,m1,k1,e1,_⟩,op⟩:=hx.pp Yp;obtain⟨⟨o2,m2,k2,e2,_⟩,oq⟩:=hx.qq Yp;have a7:x.p.kind=3:=by rcases Jf op with h|h|h|h<;>omega
     have aq:x.q.kind=3:=by rcases Jf oq with h|h|h|h<;>omega
     have:=Z6P m1;have:=Z6P m2;have r1:=Z15 (rightOs_mem rp.ops m1) Yp;have r2:=Z15 (rightOs_mem rq.ops m2) Yp;rw[e1,e2,h o1.e o2.e Yp ⟨_,r1⟩ ⟨_,r2⟩]
    rw[Z2A,Z2A,e,ihr λy hy=>ah y (Q3 _ hy)]
  .grind
 unfold Z0J;rw[hk,ho]
theorem Zj9:∀(n m:Nat)(p q:Edit)(d d':Int),Z8 p d=true->Z8 q d'=true->Zi p+Zi q<=n->n<=m->Zl1 m p q=Zl1 n p q:=by intro n;induction n with|zero=>intro m p q d d' _ _ h;obtain⟨k,o,nw,w,ks,l,os⟩:=p;simp only[Zi]at h;omega|succ n ih=>intro m p q d d' hp hq h hm;obtain⟨m,rfl⟩:∃k,m=k+1:=⟨m-1,Yp⟩;show Z0J (Zl1 m) p q=Z0J (Zl1 n) p q;exact Z8s hp hq λa b ai⟨d1,h1⟩⟨d2,h2⟩=>ih m a b d1 d2 h1 h2 Yp Yp
theorem Zja{p q:Edit}{d d':Int}(hp:Z8 p d=true)(hq:Z8 q d'=true):YP p q=Z0J YP p q:=by have e:YP p q=Zl1 (Zi p+Zi q+1) p q:=(Zj9 _ _ p q d d' hp hq (Qc _) Yp).symm;rw[e];show Z0J (Zl1 (Zi p+Zi q)) p q=Z0J YP p q;exact Z8s hp hq λa b ab⟨d1,h1⟩⟨d2,h2⟩=>Zj9 _ _ a b d1 d2 h1 h2 (Qc _) Yp
theorem Z0s{e:Edit}(h:YF e):rng e.old/\rng e.new/\(∀x∈e.words,JT x)/\Z2p e.kids/\Z0W e.ops:=by obtain⟨k,o,n,w,ks,l,os⟩:=e;exact⟨h.2.1,h.2.2.1,h.2.2.2.1,h.2.2.2.2.2.1,h.2.2.2.2.2.2⟩
theorem Z0G{n:Nat}{rs:List ResultVar}{r r':V U}{X:List (List (C U))}{e:AExit}{s:LSt U}(hr:r=r')(h:Z06 cfg n rs r' X e s):Z06 cfg n rs r X e s:=by grind
theorem c52:Contract Tryz.prog cfg 52 Zfe:=by
 refine ZHd c71 ?_;intro p q _ hp;obtain⟨rp,rq⟩:=hp;dsimp only at rp rq;have A:=(Ztx rp.2.1 rq.2.1).1;refine ZNr _ _ _ ?_;(simp only[iB,vcT,vcS]);have z0:(0:Int)<=0/\(0:Int)<18446744073709551616:=V0;refine⟨⟨z0,rp.2.2.2,A⟩,⟨z0,rq.2.2.1,A⟩,λh=>?_,λh=>⟨⟨rq.2.2.1,rp.2.2.1,rp.2.1⟩,⟨rp.2.2.2,rq.2.2.2,rq.2.1⟩,?_⟩⟩;.have d:Zl0 p q=false:=decide_eq_false h;refine Z0G (r':=.tup [(true,enc .wedit (⟨0,0,0,0⟩:WEdit)),(false,[.bool false])]) ?_ YH;simp only[ZrK,Z0T];rw[d];try rfl
 .have d:Zl0 p q=true:=decide_eq_true h;refine Z0G (r':=.tup [(true,enc .wedit (⟨p.at_,orM p.mask q.mask,mix q.old p.old p.mask,mix p.new q.new q.mask⟩:WEdit)),(false,[.bool true])]) ?_ YH;simp only[ZrK,Z0T];rw[d];try rfl
theorem c51:Contract Tryz.prog cfg 51 Zff:=by refine ZHe ?_;intro w _ _;exact ZNs _ _ (ZJ rfl rfl)
theorem c54:Contract Tryz.prog cfg 54 Z5f:=by refine ZHc ?_;intro w _ _;exact ZNp _ _ (ZJ rfl rfl)
theorem Zgj{α:Type}{at_:α->Int}{one:α->α->α×Bool}{p q:List α}(h:Zq at_ one p q=none):(Zq at_ one p q).isSome=false/\ofO (Zq at_ one p q)=[]:=by rw[h];trivial
structure MInv{α:Type}(at_:α->Int)(one:α->α->α×Bool)(p q x0 x1 out:List α):Prop where eq:Zq at_ one p q=(Zq at_ one x0 x1).map (out++·)len:out.length+x0.length+x1.length<=p.length+q.length
theorem MInv.left{α:Type}{at_:α->Int}{one:α->α->α×Bool}{p q d out:List α}{a:α}{x0:List α}(h:MInv at_ one p q (a::x0) d out)(hb:∀b∈d.head?,at_ a<at_ b):MInv at_ one p q x0 d (out++[a]):=by
 refine⟨?_,by have:=h.len;grind⟩;rw[h.eq];cases d with
 |nil=>
  rw[Zq];have:Zq at_ one x0 []=some x0:=by cases x0<;>rw[Zq]
  grind|cons b r=>rw[Zq,if_pos (hb b (by simp))];cases Zq at_ one x0 (b::r)<;>simp
theorem MInv.right{α:Type}{at_:α->Int}{one:α->α->α×Bool}{p q x0 out:List α}{b:α}{d:List α}(h:MInv at_ one p q x0 (b::d) out)(hb:∀a∈x0.head?,at_ b<at_ a):MInv at_ one p q x0 d (out++[b]):=by refine⟨?_,by have:=h.len;grind⟩;rw[h.eq];cases x0 with|nil=>rw[Zq,Zq];simp|cons a r=>have:=hb a (by simp);rw[Zq,JH,if_pos this];cases Zq at_ one (a::r) d<;>simp
theorem MInv.both{α:Type}{at_:α->Int}{one:α->α->α×Bool}{p q x0 d out:List α}{a b:α}(h:MInv at_ one p q (a::x0) (b::d) out)(e:at_ a=at_ b):((one a b).2=true->MInv at_ one p q x0 d (out++[(one a b).1]))/\((one a b).2=false->Zq at_ one p q=none):=by
 refine⟨λhc=>⟨?_,by have:=h.len;grind⟩,λhc=>?_⟩;.rw[h.eq,Zq,JH,JH,if_pos hc];cases Zq at_ one x0 d<;>simp
 .rw[h.eq,Zq,JH,JH,if_neg (by grind)];try rfl
theorem MInv.done{α:Type}{at_:α->Int}{one:α->α->α×Bool}{p q out:List α}(h:MInv at_ one p q [] [] out):Zq at_ one p q=some out:=by rw[h.eq,Zq];simp
theorem MInv.left'{α:Type}{at_:α->Int}{one:α->α->α×Bool}{p q x0 d out:List α}(z:α)(h:MInv at_ one p q x0 d out)(hx:0<x0.length)(hb:d.length=0\/at_ (x0.getD 0 z)<at_ (d.getD 0 z)):MInv at_ one p q (x0.drop 1) d (out++[x0.getD 0 z]):=by cases x0 with|nil=>simp at hx|cons a r=>refine h.left λb aa=>?_;cases d with|nil=>simp at aa|cons c s=>grind
theorem MInv.right'{α:Type}{at_:α->Int}{one:α->α->α×Bool}{p q x0 d out:List α}(z:α)(h:MInv at_ one p q x0 d out)(hx:0<d.length)(hb:x0.length=0\/at_ (d.getD 0 z)<at_ (x0.getD 0 z)):MInv at_ one p q x0 (d.drop 1) (out++[d.getD 0 z]):=by cases d with|nil=>simp at hx|cons a r=>refine h.right λb aa=>?_;cases x0 with|nil=>simp at aa|cons c s=>grind
theorem MInv.both'{α:Type}{at_:α->Int}{one:α->α->α×Bool}{p q x0 d out:List α}(z:α)(h:MInv at_ one p q x0 d out)(h0:0<x0.length)(h1:0<d.length)(e:at_ (x0.getD 0 z)=at_ (d.getD 0 z)):((one (x0.getD 0 z) (d.getD 0 z)).2=true->MInv at_ one p q (x0.drop 1) (d.drop 1) (out++[(one (x0.getD 0 z) (d.getD 0 z)).1]))/\((one (x0.getD 0 z) (d.getD 0 z)).2=false->Zq at_ one p q=none):=by cases x0 with|nil=>simp at h0|cons a r=>cases d with|nil=>simp at h1|cons b s=>exact h.both e
theorem c50:Contract Tryz.prog cfg 50 Zfg:=by
 refine ZHf c51 c52 ?_;rintro p q⟨⟩⟨⟩_ hp;obtain⟨⟨rp,lp⟩,rq,lq⟩:=hp;dsimp only at rp lp rq lq;refine ZNt p q () () _ ?_;refine Z6 (ι:=List WEdit×List WEdit×List WEdit) (λx=>Z4P p q () () x.1 x.2.1 x.2.2) (λx=>MInv WEdit.at_ Z0T p q x.1 x.2.1 x.2.2/\(∀w∈x.1,JT w)/\∀w∈x.2.1,JT w) (λx=>x.1.length+x.2.1.length) (p,q,[]) rfl ⟨⟨by simp_all,by simp⟩,rp,rq⟩ ?_;rintro⟨x0,x1,d⟩⟨inv,r0,r1⟩;dsimp only at inv r0 r1;have aj:=inv.len;refine ZBt p q () () _ _ _ _ _ ?_;intro y1 h1 y2 h2 y3 h3 y4 h4 y5 h5;subst h3 h4;(simp only[iB,vcT,vcS]);have h3:y3=x0.getD 0 ⟨0,0,0,0⟩:=h1;have h4:y4=x1.getD 0 ⟨0,0,0,0⟩:=h2;have d0:∀w∈x0.drop 1,JT w:=λw hw=>r0 w (Ql hw);have d1:∀w∈x1.drop 1,JT w:=λw hw=>r1 w (Ql hw);refine⟨λav=>⟨λh=>⟨Yp,Yp⟩,λ_=>trivial,λh=>⟨Yp,Yp⟩,λ_=>trivial,λg1 g2=>⟨g1,g2⟩,λhA=>?_,λhB=>?_⟩,λhE=>?_⟩;.refine⟨⟨Yp,Yp⟩,by grind,⟨Yp,Yp⟩,(x0.drop 1,x1,d++[y3]),rfl,⟨?_,d0,r1⟩,by grind⟩;rw[h3];exact inv.left' _ Yp (by grind)
 .refine⟨λh=>⟨Yp,Yp⟩,λ_=>trivial,λh=>⟨Yp,Yp⟩,λ_=>trivial,λhC=>?_,λhD=>?_⟩;.refine⟨⟨Yp,Yp⟩,by grind,⟨Yp,Yp⟩,(x0,x1.drop 1,d++[y4]),rfl,⟨?_,r0,d1⟩,by grind⟩;rw[h4];exact inv.right' _ Yp (by grind)
  .have hb:=inv.both' ⟨0,0,0,0⟩ Yp Yp (by grind);rw[<-h3,<-h4]at hb;have m3:JT y3:=by rw[h3];exact r0 _ (Ze Yp _)
   have m4:JT y4:=by rw[h4];exact r1 _ (Ze Yp _)
   refine⟨⟨Yp,Yp⟩,⟨Yp,Yp⟩,⟨m3,m4⟩,λhc=>?_,λhc=>?_⟩;.have e:=Zgj (hb.2 hc);refine Z0G (r':=.tup [(false,[.slice (U:=U) .wedit [] .unk]),(false,[.bool false])]) ?_ YH;simp only[ZrL];rw[e.1,e.2]
   .refine⟨by grind,⟨Yp,Yp⟩,⟨Yp,Yp⟩,(x0.drop 1,x1.drop 1,d++[y5]),rfl,⟨?_,d0,d1⟩,by grind⟩;grind
 .have e0:x0=[]:=Q0 Yp;have e1:x1=[]:=Q0 Yp;subst e0 e1;have e:=inv.done;refine Z0G (r':=.tup [(false,[.slice (U:=U) .wedit d .unk]),(false,[.bool true])]) ?_ YH;simp only[ZrL];rw[e];try rfl
theorem c34:Contract Tryz.prog cfg 34 Z5g:=by refine ZHm c50 ?_;intro p q _ d;exact ZNI _ _ _ ⟨d,YH⟩
noncomputable def rp(f:Edit->Edit->Edit×Bool)(x:APair):List Op×Bool:=if x.of=1 then([opU x.p],true)else if x.of=2 then([opU x.q],true)else ZO7 f x.p x.q
structure Alike(c r:Edit×Bool):Prop where
 ok:c.2=r.2
 nrm:c.2=true->ZM c.1=ZM r.1
section
variable{g:Edit->Edit->Edit×Bool}
end
theorem ZGw(l:Int)(os:List Op):ZM (.mk 3 Tree.nil Tree.nil [] [] l os)=.mk 3 Tree.nil Tree.nil [] [] l (Zc (ZP l os ⟨[],[],[]⟩)).out:=by rfl
end Go.AM.YtnfbomhidainjaaGreat
namespace Go.AM.YtnfbomhidainjaaGreat
open Go.AM Go.Proofs
theorem Z9g(e:Edit):18<=ctE e:=by have:=Z0d e;have:=Zv e.old;have:=Zv e.new;omega
theorem Zt9(o n:Tree):ctE (.mk 1 o n [] [] 0 [])=16+mass o+mass n:=by rfl
mutual theorem ZbH:∀(e:Edit),ctE (Y2 e)=ctE e
 |.mk k o n w ks l os=>by
  have d:=Zj4 ks;have h2:=Zj3 os;simp only[Y2,ctE,X6];omega theorem Zj4:∀(ks:List (KidOf Edit)),Z0S (Z0L ks)=Z0S ks
 |[]=>rfl|k::r=>by
  have d:=ZqD k;have h2:=Zj4 r;simp only[Z0L,Z0S];omega theorem ZqD:∀(k:KidOf Edit),Z2z (Z2O k)=Z2z k
 |⟨a,e⟩=>by
  have:=ZbH e;simp only[Z2O,Z2z];omega theorem Zj3:∀(os:List (OpOf Edit)),YI (JS os)=YI os
 |[]=>rfl|o::r=>by
  have d:=ZuY o;have h2:=Zj3 r;simp only[JS,YI];omega theorem ZuY:∀(o:OpOf Edit),Z2y (Je o)=Z2y o
 |⟨k,n,l,e⟩=>by
  have:=ZbH e;rw[Z07];dsimp only;split;.try rfl
  .split;.try rfl
   .split;.simp only[Z2y];omega
    .try rfl end
theorem Z53:∀(a b:List Op),YI (a++b)=YI a+YI b|[],b=>by simp[YI]|o::r,b=>by simp only[Qo,YI,Z53 r b];omega
def ctW(w:Wst):Nat:=YI w.out+(Z5 w.gone+if w.gone.length=0 then 0 else 34)+(Z5 w.brought+if w.brought.length=0 then 0 else 34)
theorem Z7h:ctE Edit.nil=18:=rfl
theorem ZgY(w:Wst):YI (Zc w).out=ctW w:=by
 simp only[Zc,Z0R,ctW,Z53];by_cases h1:w.gone.length=0
 .rw[if_pos h1,if_pos h1,Q0 h1];by_cases h2:w.brought.length=0;.rw[if_pos h2,if_pos h2,Q0 h2];try rfl
  .rw[if_neg h2,if_neg h2];simp only[YI,Z2y,Z7h,Z5];omega
 .rw[if_neg h1,if_neg h1];by_cases h2:w.brought.length=0;.rw[if_pos h2,if_pos h2,Q0 h2];simp only[YI,Z2y,Z7h,Z5];omega
  .rw[if_neg h2,if_neg h2];simp only[YI,Z2y,Z7h];omega
theorem Zt8(w:Wst)(n:Int):ctW (ZH w n)<=ctW w+34:=by
 have h:=ZgY w;have e:ctW (ZH w n)=YI (Z1Q (Zc w).out n):=rfl;rw[e,<-h];rcases JQ (Zc w).out n with e|⟨a,q,e1,_,e3⟩;.rw[e,Z53];simp only[YI,Z2y,Z7h,Z5];omega
 .rw[e3,e1,Z53,Z53];simp only[YI,Z2y,Z3Y];omega
mutual theorem ZgX:∀(e:Edit),ctE (ZM e)<=ctE e
 |.mk k o n w ks l os=>by
  have d:=ZnT ks;have h2:=ZnS l os ⟨[],[],[]⟩;have h3:=ZI o;have h4:=ZI n;have:=Zv o;have:=Zv n;have hf:=ZgY (ZP l os ⟨[],[],[]⟩);have hz:ctW ⟨[],[],[]⟩=0:=rfl;rw[ZM];split;.simp only[ctE,Z0S,YI,Qm];omega
  .split;.simp only[ctE,YI,Z1o];omega
   .split;.simp only[ctE,Z0S,Z1o,Qm];omega
    .simp only[ctE,Z0S,YI,Z1o,Qm];omega theorem ZnT:∀(ks:List (KidOf Edit)),Z0S (Jx ks)<=Z0S ks|[]=>Qc _|k::r=>by have d:=ZuZ k;have h2:=ZnT r;simp only[Jx,Z0S];omega theorem ZuZ:∀(k:KidOf Edit),Z2z (Z0O k)<=Z2z k|⟨a,e⟩=>by have:=ZgX e;simp only[Z0O,Z2z];omega theorem ZnS(list:Int):∀(os:List (OpOf Edit))(w:Wst),ctW (ZP list os w)<=ctW w+YI os
 |[],w=>Qc _|o::r,w=>by
  have d:=Zzu list o w;have h2:=ZnS list r (JO list o w);simp only[ZP,YI];omega theorem Zzu(list:Int):∀(o:OpOf Edit)(w:Wst),ctW (JO list o w)<=ctW w+Z2y o
 |⟨k,n,l,e⟩,w=>by
  have he:=ZgX e;have d:=Z9g e;have hl:=Z6O l;have hc:=λa b=>Z09 a b;rw[JO];simp only[Z2y];split;.have:=Zt8 w n;omega
  .split
   .have:=Z09 w.gone (Z7 l);simp only[ctW];grind
   .split
    .have:=Z09 w.brought (Z7 l);simp only[ctW];grind
    .split
     .split;.have:=Zt8 w 1;omega
      .have hf:=ZgY w;show YI ((Zc w).out++[⟨3,0,[],ZM e⟩])+_+_<=_;rw[Z53,hf];simp only[YI,Z2y,Z5,Qm,if_pos];omega
     .omega end
def Z0a(φ:Op->Int):List Op->Int|[]=>0|o::r=>φ o+Z0a φ r
def Zvl(φ:Op->Int):Prop:=∀o n,YD o->1<=n->¬Z4 o<=n->φ (Zx o n)+φ (JR o n)=φ o
theorem ZlK{φ:Op->Int}(hφ:Zvl φ){p:List Op}{n:Int}(hp:∀o∈p,YD o)(hl:p.length≠0)(h1:1<=n):φ (Zx (p.getD 0 Op.nil) n)+Z0a φ (ZB p n)=Z0a φ p/\∀o∈ZB p n,YD o:=by cases p with|nil=>grind|cons o r=>
  have ho:=hp o Q5;unfold ZB;simp only[Qj,Qw,QC];by_cases h:Z4 o<=n
  .rw[if_pos h];have e:Zx o n=o:=by unfold Zx;rw[if_pos h]
   rw[e];exact⟨rfl,λx d=>hp x (Q3 _ d)⟩
  .rw[if_neg h];refine⟨by simp only[Z0a];have:=hφ o n ho h1 h;omega,λx d=>?_⟩;rcases Q9.1 d with rfl|d;.exact(Zh6 ho h1 h).1
   grind
theorem Zg4{φ ψ:Op->Int}(hφ:Zvl φ)(hψ:Zvl ψ)(a:Int):∀(k:Nat)(p q:List Op)(out:List Piece),p.length+q.length<=k->(∀o∈p,YD o)->(∀o∈q,YD o)->(Zl a 2 p q out).2.1=true->∃d,(Zl a 2 p q out).1=out++d/\Z0a φ (ZG d)=Z0a φ p/\Z0a ψ (ZF d)=Z0a ψ q/\d.length<=p.length+q.length:=by
 intro k;induction k with
 |zero=>
  intro p q out hk hp hq h;have e1:p=[]:=Q0 Yp;have e2:q=[]:=Q0 Yp;subst e1 e2;rw[Zl,dif_neg (by simp[sgl]),dif_neg (by simp[sgl]),dif_pos (by simp)];exact⟨[],by simp,rfl,rfl,by simp⟩|succ k ih=>
  intro p q out hk hp hq h;rw[Zl]at h⊢;by_cases h1:sgl a p=true
  .rw[dif_pos h1]at h⊢;obtain⟨g1,_⟩:=Yn.1 h1;cases p with
   |nil=>grind|cons o r=>
    simp only[Qj,Qw,QC]at h⊢;obtain⟨d,e,f1,f2,f3⟩:=ih r q _ (by grind) (λx hx=>hp x (Q3 _ hx)) hq h;refine⟨⟨1,o,Op.nil⟩::d,by grind,?_,?_,by grind⟩;.show Z0a φ (o::ZG d)=_;simp only[Z0a];omega
    .exact f2
  .rw[dif_neg h1]at h⊢;by_cases h2:sgl 2 q=true
   .rw[dif_pos h2]at h⊢;obtain⟨g1,_⟩:=Yn.1 h2;cases q with
    |nil=>grind|cons o r=>simp only[Qj,Qw,QC]at h⊢;obtain⟨d,e,f1,f2,f3⟩:=ih p r _ (by grind) hp (λx hx=>hq x (Q3 _ hx)) h;refine⟨⟨2,Op.nil,o⟩::d,by grind,f1,?_,by grind⟩;show Z0a ψ (o::ZF d)=_;simp only[Z0a];omega
   .rw[dif_neg h2]at h⊢;by_cases h3:p.length=0\/q.length=0
    .rw[dif_pos h3]at h⊢;by_cases h4:decide (p.length=0)=decide (q.length=0)
     .rw[if_pos h4];have h5:p.length=0/\q.length=0:=by
       have:=decide_eq_decide.1 h4;omega
      rw[Q0 h5.1,Q0 h5.2];exact⟨[],by simp,rfl,rfl,by simp⟩
     grind
    .rw[dif_neg h3]at h⊢;have l1:p.length≠0:=Yp;have l2:q.length≠0:=Yp;have p1:=Ya (hp _ (Ze (l:=p) (i:=0) Yp Op.nil));have p2:=Ya (hq _ (Ze (l:=q) (i:=0) Yp Op.nil));generalize hn:min (Z4 (p.getD 0 Op.nil)) (Z4 (q.getD 0 Op.nil))=n at h⊢;obtain⟨s1,s2⟩:=ZlK hφ hp l1 (n:=n) Yp;obtain⟨t1,t2⟩:=ZlK hψ hq l2 (n:=n) Yp;have c1:=Y5 p n l1;have c2:=Y5 q n l2;have c3:Z4 (p.getD 0 Op.nil)<=n->(ZB p n).length<p.length:=λh=>Y4 p _ l1 h;have c4:Z4 (q.getD 0 Op.nil)<=n->(ZB q n).length<q.length:=λh=>Y4 q _ l2 h;obtain⟨d,e,f1,f2,f3⟩:=ih (ZB p n) (ZB q n) _ Yp s2 t2 h;refine⟨⟨0,Zx (p.getD 0 Op.nil) n,Zx (q.getD 0 Op.nil) n⟩::d,by grind,?_,?_,by grind⟩;.show Z0a φ (Zx (p.getD 0 Op.nil) n::ZG d)=_;simp only[Z0a];omega
     .show Z0a ψ (Zx (q.getD 0 Op.nil) n::ZF d)=_;simp only[Z0a];omega
def φA(o:Op):Int:=if o.kind=2 then 0 else Z4 o
def φB(o:Op):Int:=if o.kind=1 then 0 else Z4 o
def φC(o:Op):Int:=Z5 o.l+ctE o.e-18
theorem Zor:∀l,Z0a φA l=Z0q l|[]=>rfl|o::r=>by simp only[Z0a,Z0q,φA,Zor r]
theorem Zoq:∀l,Z0a φB l=Z0M l|[]=>rfl|o::r=>by simp only[Z0a,Z0M,φB,Zoq r]
theorem ZjA:∀l,Z0a φC l+34*l.length=YI l|[]=>rfl|o::r=>by have:=ZjA r;simp only[Z0a,YI,φC,Z3Y,Qa];omega
theorem Zh7(o:Op)(n:Int):(JR o n).kind=o.kind:=by unfold JR;split<;>rfl
theorem Zo1{o:Op}{n:Int}(ho:YD o)(h1:1<=n)(hn:¬Z4 o<=n):Z4 (JR o n)=Z4 o-n:=by
 obtain⟨_,_,v3,_⟩:=Z9n (a:=1) ho h1 hn;have hl:=JJ o;rcases ho with⟨k0,k1,k2,k3⟩|⟨k0,k1,k2,k3⟩|⟨k0,k1,k2⟩;.unfold JR;rw[if_pos k0,JJ];grind
 .unfold JR;rw[JH,JJ];grind
 omega
theorem ZFO:Zvl φA:=by intro o n ho d hn;obtain⟨_,_,v3,_⟩:=Z9n (a:=1) ho d hn;have:=Zo1 ho d hn;unfold φA;rw[Z33,Zh7,v3,this];omega
theorem ZFN:Zvl φB:=by intro o n ho d hn;obtain⟨_,_,v3,_⟩:=Z9n (a:=1) ho d hn;have:=Zo1 ho d hn;unfold φB;rw[Z33,Zh7,v3,this];omega
theorem ZFM:Zvl φC:=by
 intro o n ho h1 d;have hl:=JJ o;unfold φC Zx JR;rw[if_neg d];rcases ho with⟨k0,k1,k2,k3⟩|⟨k0,k1,k2,k3⟩|⟨k0,k1,k2⟩
 .rw[if_pos k0,if_pos k0];dsimp only;rw[k3,k1,Z7h];simp[Z5]
 .rw[JH,JH];dsimp only;have:=Z09 (o.l.take n.toNat) (o.l.drop n.toNat);rw[Qs]at this;rw[k3,Z7h];omega
 omega
theorem ZeV{D list:Int}:∀{l:List Tree},Yy D list l=true->Yy (-1) list l=true|[],_=>rfl|t::r,h=>by simp only[Yy,Q2]at h⊢;exact⟨JG _ _ _ V0 h.1,ZeV h.2⟩
mutual theorem YT:∀(e:Edit)(d m:Int),m<0->Z8 e d=true->Z8 e m=true
 |.mk k o n w ks l os,d,m,hm,h=>by
  have h1:=Zdg ks;have h2:=Zde l os;rw[Z8]at h⊢;split at h;.cases h
  .rename_i a;rw[JH];split at h;.cases h
   .rename_i b;rw[if_neg b];split at h
    .rename_i c;rw[if_pos c,Z9f hm];simp only[Q2]at h⊢;exact⟨⟨JG _ _ _ V0 h.1.1,JG _ _ _ V0 h.1.2⟩,h.2⟩
    grind theorem Zdg:∀(ks:List (KidOf Edit))(last d m:Int),m<0->ZA last ks d=true->ZA last ks m=true
 |[],_,_,_,_,_=>rfl|k::r,last,d,m,hm,h=>by simp only[ZA,Q2]at h⊢;exact⟨ZjY k last d m hm h.1,Zdg r k.at_ d m hm h.2⟩theorem ZjY:∀(k:KidOf Edit)(last d m:Int),m<0->YB last k d=true->YB last k m=true
 |⟨a,e⟩,last,d,m,hm,h=>by simp only[YB,Q2]at h⊢;exact⟨h.1,YT e d m hm h.2⟩theorem Zde(list:Int):∀(os:List (OpOf Edit))(d m:Int),m<0->Zz list os d=true->Zz list os m=true|[],_,_,_,_=>rfl|o::r,d,m,hm,h=>by simp only[Zz,Q2]at h⊢;exact⟨Zm8 list o d m hm h.1,Zde list r d m hm h.2⟩theorem Zm8(list:Int):∀(o:OpOf Edit)(d m:Int),m<0->Z9 list o d=true->Z9 list o m=true
 |⟨k,n,l,e⟩,d,m,hm,h=>by
  have he:=YT e d m hm;rw[Z9]at h⊢;split at h;.grind
  .rename_i h0;rw[if_neg h0];split at h;.cases h
   .rename_i h1;rw[if_neg h1];split at h;.rename_i h2;rw[if_pos h2,Z9f hm];simp only[Q2]at h⊢;exact⟨⟨ZeV h.1.1,h.1.2⟩,h.2⟩
    grind end
structure Wk(e:Edit):Prop where
 r:Z8 e (-1)=true
 g:YF e
theorem Wk.of{e:Edit}{d:Int}(h:Z8 e d=true)(g:YF e):Wk e:=⟨YT e d _ V0 h,g⟩
theorem Yc{n:Int}(h0:0<=n)(h9:n<=9):InR n:=V2
theorem Zcd{o n:Tree}(h1:Zb o (-1)=true)(h2:Zb n (-1)=true)(h3:o.kind≠10)(h4:n.kind≠10):Z8 (.mk 1 o n [] [] 0 []) (-1)=true:=by rw[Z8,if_neg V0,if_neg (by simp),if_pos rfl,Z9f V0,h1,h2];grind
theorem Zi6{w:List WEdit}{ks:List Kid}(h1:Ye (-1) w=true)(h2:ZA (-1) ks (-2)=true):Z8 (.mk 2 Tree.nil Tree.nil w ks 0 []) (-1)=true:=by rw[Z8,if_neg V0,if_neg (by simp[Z0i,Tree.nil]),if_neg V0,h1,show(-1:Int)-1=-2 from rfl,h2];try rfl
theorem Zi5{l:Int}{os:List Op}(hl:2<=l/\l<=9)(h:Zz l os (-2)=true)(h1:Z1H os 0<1048576)(h2:Z1G os 0<1048576):Z8 (.mk 3 Tree.nil Tree.nil [] [] l os) (-1)=true:=by rw[Z8,if_neg V0,if_neg (by simp[Z0i,Tree.nil]),if_neg V0,show(-1:Int)-1=-2 from rfl,h];simp only[Ye,ZA,Xu,Kn,Q2,decide_eq_true_eq];omega
theorem Z8v:∀{l:List WEdit}{last:Int},asc WEdit.at_ last l->(∀w∈l,w.at_<=65534/\w.mask≠0/\Yr w.old w.mask=true/\Yr w.new w.mask=true)->Ye last l=true|[],_,_,_=>rfl|a::r,last,h,hw=>by obtain⟨h1,h2,h3,h4⟩:=hw a Q5;simp only[Ye,Q2,decide_eq_true_eq];exact⟨⟨⟨⟨h.1,h1,h2⟩,h3⟩,h4⟩,Z8v h.2 λw d=>hw w (Q3 _ d)⟩
theorem Z8Q{d:Int}:∀{l:List Kid}{last:Int},asc KidOf.at_ last l->(∀k∈l,k.at_<=65534/\k.e.kind≠0/\Z8 k.e d=true)->ZA last l d=true|[],_,_,_=>rfl|a::r,last,h,hw=>by obtain⟨h1,h2,h3⟩:=hw a Q5;simp only[ZA,Z6p,Q2,decide_eq_true_eq];exact⟨⟨⟨h.1,h1,h2⟩,h3⟩,Z8Q h.2 λw aa=>hw w (Q3 _ aa)⟩
theorem Z8O{list d:Int}:∀{l:List Op},(∀o∈l,Z9 list o d=true)->Zz list l d=true|[],_=>rfl|a::r,h=>by simp only[Zz,Q2];exact⟨h a Q5,Z8O λo ho=>h o (Q3 _ ho)⟩
theorem Z1U{D list:Int}:∀{l:List Tree},(∀t∈l,Zb (.mk list [] [t]) D=true)->Yy D list l=true|[],_=>rfl|t::r,h=>by simp only[Yy,Q2];exact⟨h t Q5,Z1U λx d=>h x (Q3 _ d)⟩
theorem Zcc{list:Int}(hl:2<=list/\list<=9){t:Tree}(h1:Z0P list t=true)(h2:Zb t (-1)=true):Zb (.mk list [] [t]) (-1)=true:=ZfE hl (by simp) λk d=>by grind
theorem Zsa{list n:Int}(h1:1<=n)(h2:n<=1048576)(d:Int):Z9 list ⟨0,n,[],Edit.nil⟩ d=true:=by rw[Z9,if_pos rfl,Z35];grind
theorem Z4v{list k d:Int}{l:List Tree}(hk:k=1\/k=2)(h:Yy (dT d) list l=true)(hl:l≠[]):Z9 list ⟨k,0,l,Edit.nil⟩ d=true:=by rw[Z9,JH,JH,Y3,Z35,h];have:=XH.2 hl;grind
theorem Zkk{list d:Int}{e:Edit}(h:Z8 e d=true)(h0:e.kind≠0)(hl:7<list)(hw:list=8\/e.kind=2\/e.kind=1/\e.old.kind=1/\e.new.kind=1):Z9 list ⟨3,0,[],e⟩ d=true:=by rw[Z9,if_neg V0,if_neg V0,if_neg V0,h];grind
def Wl(list:Int)(e:Edit):Prop:=list=8\/e.kind=2\/e.kind=1/\e.old.kind=1/\e.new.kind=1
theorem Z1d(t:Tree):(Z0 t).kind=t.kind:=Z29 t
theorem ZbT{w m:Int}(h:∀i,i<8->Z04 m (i:Nat)=false->Zd w i=0):Yr w m=true:=by
 unfold Yr mix of8;rw[decide_eq_true_eq];have z:∀i,i<8->JP w 0 m i=0:=by
  intro i d;unfold JP;split;.exact ZzC i
  .grind
 grind
theorem ZB1{a b:WEdit}(ra:JT a)(rb:JT b)(ha:a.at_<=65534/\a.mask≠0/\Yr a.old a.mask=true/\Yr a.new a.mask=true)(hb:Yr b.old b.mask=true/\Yr b.new b.mask=true)(hc:(Z0T a b).2=true):((Z0T a b).1.at_<=65534/\(Z0T a b).1.mask≠0/\Yr (Z0T a b).1.old (Z0T a b).1.mask=true/\Yr (Z0T a b).1.new (Z0T a b).1.mask=true)/\JT (Z0T a b).1:=by
 have hw:Zl0 a b=true:=by
  unfold Z0T at hc;split at hc;.assumption
  .cases hc
 have e:(Z0T a b).1=⟨a.at_,orM a.mask b.mask,mix b.old a.old a.mask,mix a.new b.new b.mask⟩:=by unfold Z0T;rw[if_pos hw]
 obtain⟨m1,m2⟩:=ZGo ra.2.1 rb.2.1;rw[e];dsimp only;refine⟨⟨ha.1,λh=>?_,ZbT λi hi d=>?_,ZbT λi hi d=>?_⟩,ra.1,m1,Z25 _ _ _,Z25 _ _ _⟩
 .refine ha.2.1 ?_;have z:∀i:Nat,Z04 a.mask (i:Int)=false:=by
   intro i;have:=m2 i;rw[h]at this;have z0:Z04 0 (i:Int)=false:=by unfold Z04;simp
   rw[z0]at this;cases d:Z04 a.mask (i:Int)with|false=>rfl|true=>grind
  have h0:=z 0;have h1:=z 1;have h2:=z 2;have h3:=z 3;have h4:=z 4;have h5:=z 5;have h6:=z 6;have h7:=z 7;have:=ra.2.1;simp only[Z04,decide_eq_false_iff_not,X3]at h0 h1 h2 h3 h4 h5 h6 h7;omega
 .rw[m2 i]at d;simp only[QO]at d;rw[Z97 hi,if_neg (by grind)];exact Zd4 hb.1 hi d.2
 .rw[m2 i]at d;simp only[QO]at d;rw[Z97 hi,if_neg (by grind)];exact Zd4 ha.2.2.2 hi d.1
def ZeX{β:Type}(φ:β->Nat):List β->Nat|[]=>0|a::r=>φ a+ZeX φ r
theorem ZiB{β:Type}{at_:β->Int}{one:β->β->β×Bool}(φ:β->Nat):∀(k:Nat)(p q L:List β),p.length+q.length<=k->(∀a∈p,∀b∈q,(one a b).2=true->φ (one a b).1<=φ a+φ b)->Zq at_ one p q=some L->ZeX φ L<=ZeX φ p+ZeX φ q:=by
 intro k;induction k with
 |zero=>intro p q L hk _ h;have e1:p=[]:=Q0 Yp;have e2:q=[]:=Q0 Yp;subst e1 e2;rw[Zq]at h;grind|succ k ih=>intro p q L hk ho h;match p,q with
  |[],q=>rw[Zq]at h;grind|a::p,[]=>rw[Zq]at h;grind|a::p,b::q=>
   simp only[Qa]at hk;rw[Zq]at h;split at h
   .obtain⟨L',hL,rfl⟩:=Qn.1 h;have:=ih p (b::q) L' (by grind) (λx d y hy=>ho x (Q3 _ d) y hy) hL;simp only[ZeX]at this⊢;omega
   .split at h
    .obtain⟨L',hL,rfl⟩:=Qn.1 h;have:=ih (a::p) q L' (by grind) (λx d y hy=>ho x d y (Q3 _ hy)) hL;simp only[ZeX]at this⊢;omega
    .split at h;.rename_i hc;obtain⟨L',hL,rfl⟩:=Qn.1 h;have:=ih p q L' Yp (λx d y hy=>ho x (Q3 _ d) y (Q3 _ hy)) hL;have:=ho a Q5 b Q5 hc;simp only[ZeX]at*;omega
     .cases h
theorem Zei:∀l:List Kid,ZeX Z2z l=Z0S l|[]=>rfl|k::r=>by simp only[ZeX,Z0S,Zei r]
theorem Z9r{β:Type}:∀l:List β,ZeX (λ_=>1) l=l.length|[]=>rfl|k::r=>by simp only[ZeX,Qa,Z9r r];omega
theorem ZfC:∀{l:List Kid},(∀k∈l,InR k.at_/\YF k.e)->Z2p l|[],_=>trivial|⟨a,e⟩::r,h=>⟨h _ Q5,ZfC λk d=>h k (Q3 _ d)⟩
theorem Zm2:∀{l:List Op},(∀o∈l,Yt o)->Z0W l|[],_=>trivial|o::r,h=>⟨h _ Q5,Zm2 λk d=>h k (Q3 _ d)⟩
structure ComWk(K:Prop)(c:Edit×Bool)(p q:Edit):Prop where
 wk:c.2=true->Wk c.1
 ct:K->c.2=true->ctE c.1+18<=ctE p+ctE q
 kind:p.kind≠0->q.kind≠0->c.2=true->c.1.kind≠0
 wl:∀list,7<list->list<=9->p.kind≠0->q.kind≠0->c.2=true->Wl list p->Wl list q->Wl list c.1
theorem ZkY{e:Edit}{t:Tree}(h:(doB e t).2=true):∃v,doE false e t=some v/\(doB e t).1=Z0 v:=by unfold doB at h⊢;cases hv:doE false e t with|none=>grind|some v=>exact⟨v,rfl,rfl⟩
theorem Z3H{t:Tree}{d:Int}(h:Zb t d=true):Zb (Z0 t) d=true:=Z0t t d h
theorem Wk.turn{p:Edit}(h:Wk p):Wk (ZM (Y2 p)):=⟨Z17 _ _ (Z0v _ _ h.r),Z4q _ _ (Z0v _ _ h.r) (Z7t _ h.g)⟩
theorem ZdO{list:Int}(hl:2<=list/\list<=9){e:Edit}{t u:Tree}{d:Int}(hr:Z8 e d=true)(hd:doE false e t=some u)(h7:7<list)(hw:Wl list e)(h0:e.kind≠0)(ht:Zb t (-1)=true):Z0P list u=true:=by
 obtain⟨j1,j2,_,_⟩:=ZbD hr hd;unfold Z0P;rw[JH];by_cases hl9:list=9
 .rw[if_pos hl9];refine decide_eq_true ?_;rcases hw with q|q|q;.omega
  .exact(j2 q).1
  .rw[j1 q.1];exact q.2.2
 .rw[if_neg hl9];exact decide_eq_true ((Z51 _ e d t u (Qc _) hr ht hd).2 h0)
theorem Zgx{list:Int}(h7:7<list){u:Tree}(h:Z0P list u=true):Z0P list (Z0 u)=true:=by unfold Z0P at h⊢;rw[JH]at h⊢;rw[Z1d];exact h
theorem ZDK{K:Prop}{f:Edit->Edit->Edit×Bool}{p q:Edit}(wp:Wk p)(wq:Wk q)(p3:p.kind=3)(hl:p.list=q.list)(ih:∀a b,Zi a+Zi b<Zi p+Zi q->Wk a->Wk b->ComWk K (f a b) a b){ps:List Piece}(e:(Zl 1 2 p.ops q.ops []).1=ps)(hb1:(Zl 1 2 p.ops q.ops []).2.1=true){ops:List Op}(hc:Z2A f ps=some ops):(∀o∈ops,Z9 p.list o (-2)=true/\Yt o)/\Z0q ops=Z0q p.ops/\Z0M ops=Z0M q.ops/\(K->YI ops<=YI p.ops+YI q.ops):=by
 have rp:=Zt wp.r;have rq:=Zt wq.r;have gp:=Z0s wp.g;have gq:=Z0s wq.g;have ae:=rp.list p3;have op:=Z1Z wp.r;have oq:=Z1Z wq.r;have b8:Zz p.list p.ops (-2)=true:=rp.ops;have ca:Zz p.list q.ops (-2)=true:=by rw[hl];exact rq.ops
 obtain⟨i1,_⟩:=Zg5 _ p.ops q.ops [] (Qc _) op oq;obtain⟨cx,e0,bc,_,_⟩:=i1 hb1;obtain⟨cq,e1,sA,sB,bh⟩:=Zg4 ZFO ZFN 1 _ p.ops q.ops [] (Qc _) op oq hb1;obtain⟨cv,e2,sC,sD,_⟩:=Zg4 ZFM ZFM 1 _ p.ops q.ops [] (Qc _) op oq hb1;rw[e,Qh]at e0 e1 e2;subst e0 e1 e2;have bd:∀x∈ps,(x.of≠2->Z9 p.list x.p (-2)=true/\Yt x.p)/\(x.of≠1->Z9 p.list x.q (-2)=true/\Yt x.q):=by
  have one:∀(l:List Op)(o:Op),(∀o'∈l,Z9 p.list o' (-2)=true)->Z0W l->Part l o->YD o->Z9 p.list o (-2)=true/\Yt o:=by
   intro l o hr hg⟨o',m,k,e1,_,lt⟩ho;have R:=Yf (hr o' m);have G:=Z2h (Z4p hg m);obtain⟨kk,nn,ll,ee⟩:=o;have k:kk=o'.kind:=k;have e1:ee=o'.e:=e1;have lt:∀t∈ll,t∈o'.l:=lt;have gl:ZV ll:=Z7s λt ht=>J7 G.2.2.1 (lt t ht);cases R with
   |keep n1 a1 a2=>
    have k:kk=0:=k;have e1:ee=Edit.nil:=e1;subst k e1;rcases ho with h|h|h;.have hl:ll=[]:=h.2.1;subst hl;have h3:1<=nn/\nn<=1048576:=h.2.2.1;exact⟨Zsa h3.1 h3.2 _,Yc V0 V0,V2,trivial,G.2.2.2⟩
    .have:=h.1;omega
    .have:=h.1;omega|gone l1 a1 a2=>
    have k:kk=1:=k;have e1:ee=Edit.nil:=e1;subst k e1;rcases ho with h|h|h;.have:=h.1;omega
    .have hn:nn=0:=h.2.1;subst hn;exact⟨Z4v (.inl rfl) (Z1U λt ht=>Z3y a1 t (lt t ht)) h.2.2.1,Yc V0 V0,Yc V0 V0,gl,G.2.2.2⟩
    .have:=h.1;omega|come l1 a1 a2=>
    have k:kk=2:=k;have e1:ee=Edit.nil:=e1;subst k e1;rcases ho with h|h|h;.have:=h.1;omega
    .have hn:nn=0:=h.2.1;subst hn;exact⟨Z4v (.inr rfl) (Z1U λt ht=>Z3y a1 t (lt t ht)) h.2.2.1,Yc V0 V0,Yc V0 V0,gl,G.2.2.2⟩
    .have:=h.1;omega|into e2 a1 a2 a3 a4=>
    have k:kk=3:=k;have e1:ee=e2:=e1;subst k e1;rcases ho with h|h|h;.have:=h.1;omega
    .have:=h.1;omega
    .have hn:nn=0:=h.2.1;have hl:ll=[]:=h.2.2;subst hn hl;exact⟨Zkk a1 a2 a3 a4,Yc V0 V0,Yc V0 V0,trivial,G.2.2.2⟩
  intro x hx;have X:=bc x hx;exact⟨λh=>one p.ops x.p (λo ho=>rightOs_mem b8 ho) gp.2.2.2.2 (X.pp h).1 (X.pp h).2,λh=>one q.ops x.q (λo ho=>rightOs_mem ca ho) gq.2.2.2.2 (X.qq h).1 (X.qq h).2⟩
 have one:∀x∈ps,(JY f x).ok=true->((JY f x).is=true->Z9 p.list (JY f x).op (-2)=true/\Yt (JY f x).op)/\(φA (JY f x).op*(if(JY f x).is then 1 else 0)=(if x.of=2 then 0 else φA x.p))/\(φB (JY f x).op*(if(JY f x).is then 1 else 0)=(if x.of=1 then 0 else φB x.q))/\(K->(JY f x).is=true->φC (JY f x).op<=(if x.of=2 then 0 else φC x.p)+(if x.of=1 then 0 else φC x.q)):=by
  intro x hx d;have X:=bc x hx;obtain⟨s1,s2⟩:=bd x hx;have al:∀o:Op,0<=φC o:=λo=>by unfold φC;have:=Z9g o.e;omega
  unfold JY at d⊢;by_cases c1:x.of=1\/(x.of=0/\x.q.kind=0)
  .rw[if_pos c1]at d⊢;dsimp only;have h2:x.of≠2:=Yp;rw[if_pos rfl,if_neg h2,if_neg h2];refine⟨λ_=>s1 h2,Yp,?_,λ_ _=>?_⟩
   .rcases c1 with c|⟨c,c'⟩;.rw[if_pos c];unfold φB;rw[if_pos (X.one c)];try rfl
    .rw[JH];obtain⟨b1,b2,b3⟩:=X.both c;unfold φB;rw[if_neg b1,JH,b3];omega
   .have:=al x.q;split<;>omega
  rw[if_neg c1]at d⊢;by_cases c2:x.of=2\/x.p.kind=0
  .rw[if_pos c2]at d⊢;dsimp only;have h2:x.of≠1:=Yp;rw[if_pos rfl,if_neg h2,if_neg h2];refine⟨λ_=>s2 h2,?_,Yp,λ_ _=>?_⟩
   .by_cases c:x.of=2;.rw[if_pos c];unfold φA;rw[if_pos (X.two c)];try rfl
    .rw[if_neg c];have c0:x.of=0:=by rcases X.of with h|h|h<;>omega
     obtain⟨b1,b2,b3⟩:=X.both c0;unfold φA;rw[if_neg b2,JH,b3];omega
   .have:=al x.p;split<;>omega
  rw[if_neg c2]at d⊢;have c0:x.of=0:=by rcases X.of with h|h|h<;>omega
  obtain⟨b1,b2,b3⟩:=X.both c0;have h1:x.of≠1:=Yp;have h2:x.of≠2:=Yp;obtain⟨u1,u2⟩:=s1 h2;obtain⟨v1,v2⟩:=s2 h1;have a6:=(X.pp h2).2;have bk:=(X.qq h1).2;have kp:x.p.kind=2\/x.p.kind=3:=by rcases Jf a6 with k|k|k|k<;>omega
  have kq:x.q.kind=1\/x.q.kind=3:=by rcases Jf bk with k|k|k|k<;>omega
  rw[if_neg h2,if_neg h2,if_neg h1,if_neg h1];by_cases c3:x.p.kind=2/\x.q.kind=1
  .rw[if_pos c3]at d⊢;dsimp only;refine⟨λh=>(by cases h),?_,?_,λ_ h=>by cases h⟩;.unfold φA;rw[if_pos c3.1];try rfl
   .unfold φB;rw[if_pos c3.2];try rfl
  rw[if_neg c3]at d⊢;have aj:∀o:Op,o.kind=3->Z9 p.list o (-2)=true->Yt o->(7<p.list/\o.e.kind≠0/\Wl p.list o.e/\Wk o.e)/\o.l=[]:=by intro o k hr hg;have R:=Yf hr;cases R with|keep|gone|come=>exact absurd k (by simp)|into e a1 a2 a3 a4=>exact⟨⟨a3,a2,a4,⟨YT _ _ _ V0 a1,(Z2h hg).2.2.2⟩⟩,rfl⟩
  have ak:∀o:Op,(o.kind=1\/o.kind=2)->Z4 o=1->YD o->Z9 p.list o (-2)=true->Yt o->∃t,o.l=[t]/\Z0P p.list t=true/\Zb t (-1)=true/\rng t/\o.e=Edit.nil:=by
   intro o k h1 ho hr hg;have bh:=Z1D ho k;have am:o.l.length=1:=Yp;obtain⟨t,ht⟩:∃t,o.l=[t]:=by match h:o.l,am with|[t],_=>exact⟨t,rfl⟩
   have R:=Yf hr;have gt:=(Z2h hg).2.2.1;rw[ht]at gt;refine⟨t,ht,?_⟩;cases R with
   |keep=>exact absurd k (by simp)|into=>exact absurd k (by simp)|gone l a1 a2=>exact⟨(Z0V ae a1 t (by have ht:l=[t]:=ht;rw[ht];simp)).1,(Z0V ae a1 t (by have ht:l=[t]:=ht;rw[ht];simp)).2,gt.1,rfl⟩|come l a1 a2=>exact⟨(Z0V ae a1 t (by have ht:l=[t]:=ht;rw[ht];simp)).1,(Z0V ae a1 t (by have ht:l=[t]:=ht;rw[ht];simp)).2,gt.1,rfl⟩
  by_cases c4:x.p.kind=2
  .rw[if_pos c4]at d⊢;have ao:x.q.kind=3:=Yp;have am:Z4 x.q=1:=Z3Q ao;obtain⟨t,ht,t1,t2,t3,t4⟩:=ak x.p (.inr c4) Yp a6 u1 u2;obtain⟨⟨e1,e2,e3,e4⟩,e5⟩:=aj x.q ao v1 v2;dsimp only at d⊢;rw[ht,Qj]at d⊢;obtain⟨v,hv,ev⟩:=ZkY d;rw[if_pos rfl,ev];have kv:=ZdO ae e4.r hv e1 e3 e2 t2;have rv:=(Z51 _ _ _ t v (Qc _) e4.r t2 hv).1;refine⟨λ_=>⟨Z4v (.inr rfl) ?_ (by simp),Yc V0 V0,Yc V0 V0,⟨Z03 _ (Z8J false _ _ v e4.g t3 hv),trivial⟩,?_⟩,?_,?_,λ_ _=>?_⟩;.rw[Z9f V0];exact Z1U λy hy=>by rw[Qd.1 hy];exact Zcc ae (Zgx e1 kv) (Z3H rv)
   .rw[<-t4];exact(Z2h u2).2.2.2
   .unfold φA;rw[if_pos c4];try rfl
   .show(if(2:Int)=1 then(0:Int)else Z4 _)*1=(if x.q.kind=1 then 0 else Z4 x.q);rw[if_neg V0,JH,am];simp[Z4]
   .unfold φC;dsimp only;rw[ht,t4,e5];have:=Z7G false _ _ _ v e4.r hv;have:=ZI v;simp only[Z5,Z7h];omega
  rw[if_neg c4]at d⊢;have a7:x.p.kind=3:=Yp;have a8:Z4 x.p=1:=Z3Q a7;obtain⟨⟨e1,e2,e3,e4⟩,e5⟩:=aj x.p a7 u1 u2;by_cases c5:x.q.kind=1
  .rw[if_pos c5]at d⊢;obtain⟨t,ht,t1,t2,t3,t4⟩:=ak x.q (.inl c5) Yp bk v1 v2;dsimp only at d⊢;rw[ht,Qj]at d⊢;obtain⟨v,hv,ev⟩:=ZkY d;have wt:=e4.turn;have kt:(ZM (Y2 x.p.e)).kind=x.p.e.kind:=by rw[Z4w,Z1T]
   have b6:Wl p.list (ZM (Y2 x.p.e)):=by
    rcases e3 with h|h|h;.exact .inl h
    .exact .inr (.inl Yp)
    .refine .inr (.inr ⟨Yp,?_,?_⟩);.rw[(Zav (Y2 x.p.e) (by rw[Z1T];exact h.1)).1,Z1d,ZhF];exact h.2.2
     .rw[(Zav (Y2 x.p.e) (by rw[Z1T];exact h.1)).2,Z1d,ZhG];exact h.2.1
   rw[if_pos rfl,ev];have kv:=ZdO ae wt.r hv e1 b6 Yp t2;have rv:=(Z51 _ _ _ t v (Qc _) wt.r t2 hv).1;refine⟨λ_=>⟨Z4v (.inl rfl) ?_ (by simp),Yc V0 V0,Yc V0 V0,⟨Z03 _ (Z8J false _ _ v wt.g t3 hv),trivial⟩,?_⟩,?_,?_,λ_ _=>?_⟩
   .rw[Z9f V0];exact Z1U λy hy=>by rw[Qd.1 hy];exact Zcc ae (Zgx e1 kv) (Z3H rv)
   .rw[<-t4];exact(Z2h v2).2.2.2
   .show(if(1:Int)=2 then(0:Int)else Z4 _)*1=(if x.p.kind=2 then 0 else Z4 x.p);rw[if_neg V0,JH,a8];simp[Z4]
   .unfold φB;rw[if_pos c5];try rfl
   .unfold φC;dsimp only;rw[ht,t4,e5];have:=Z7G false _ _ _ v wt.r hv;have:=ZI v;have:=ZgX (Y2 x.p.e);rw[ZbH]at this;simp only[Z5,Z7h];omega
  rw[if_neg c5]at d⊢;have ao:x.q.kind=3:=Yp;have am:Z4 x.q=1:=Z3Q ao;obtain⟨⟨f1,f2,f3,f4⟩,f5⟩:=aj x.q ao v1 v2;dsimp only at d⊢;rw[if_pos rfl];obtain⟨o1,m1,_,k1,_⟩:=(X.pp h2).1;obtain⟨o2,m2,_,k2,_⟩:=(X.qq h1).1;have:=Z6P m1;have:=Z6P m2;have H:=ih x.p.e x.q.e (by rw[k1,k2];omega) e4 f4;refine⟨λ_=>⟨Zkk (YT _ _ _ V0 (H.wk d).r) (H.kind e2 f2 d) e1 (H.wl p.list e1 ae.2 e2 f2 d e3 f3),Yc V0 V0,Yc V0 V0,trivial,(H.wk d).g⟩,?_,?_,λhK _=>?_⟩;.show(if(3:Int)=2 then(0:Int)else Z4 _)*1=(if x.p.kind=2 then 0 else Z4 x.p);rw[if_neg V0,JH,a8];simp[Z4]
  .show(if(3:Int)=1 then(0:Int)else Z4 _)*1=(if x.q.kind=1 then 0 else Z4 x.q);rw[if_neg V0,JH,am];simp[Z4]
  .unfold φC;dsimp only;rw[e5,f5];have:=H.ct hK d;simp only[Z5];omega
 have all:∀(ps:List Piece)(ops:List Op),(∀x∈ps,(JY f x).ok=true->((JY f x).is=true->Z9 p.list (JY f x).op (-2)=true/\Yt (JY f x).op)/\(φA (JY f x).op*(if(JY f x).is then 1 else 0)=(if x.of=2 then 0 else φA x.p))/\(φB (JY f x).op*(if(JY f x).is then 1 else 0)=(if x.of=1 then 0 else φB x.q))/\(K->(JY f x).is=true->φC (JY f x).op<=(if x.of=2 then 0 else φC x.p)+(if x.of=1 then 0 else φC x.q)))->Z2A f ps=some ops->(∀o∈ops,Z9 p.list o (-2)=true/\Yt o)/\Z0a φA ops=Z0a φA (ZG ps)/\Z0a φB ops=Z0a φB (ZF ps)/\(K->Z0a φC ops<=Z0a φC (ZG ps)+Z0a φC (ZF ps))/\ops.length<=ps.length:=by intro ps;induction ps with|nil=>intro ops _ h;cases h;exact⟨λo ho=>(by cases ho),rfl,rfl,λ_=>(by simp[ZG,ZF,Z0a]),by simp⟩|cons x r ihp=>
   intro ops hx h;rw[Z2A]at h;split at h
   .rename_i d;obtain⟨l,b7,rfl⟩:=Qn.1 h;obtain⟨j1,j2,j3,j4,j5⟩:=ihp l (λy hy=>hx y (Q3 _ hy)) b7;obtain⟨k1,k2,k3,k4⟩:=hx x Q5 d;have al:∀o:Op,0<=φC o:=λo=>by unfold φC;have:=Z9g o.e;omega
    have c1:=al x.p;have c2:=al x.q;have be:∀φ:Op->Int,Z0a φ (ZG (x::r))=(if x.of=2 then 0 else φ x.p)+Z0a φ (ZG r):=λφ=>by simp only[ZG];split<;>simp[Z0a]
    have bg:∀φ:Op->Int,Z0a φ (ZF (x::r))=(if x.of=1 then 0 else φ x.q)+Z0a φ (ZF r):=λφ=>by simp only[ZF];split<;>simp[Z0a]
    rw[be,bg,be,bg];by_cases his:(JY f x).is=true
    .rw[if_pos his]at k2 k3;rw[if_pos his];have k4:=λhK=>k4 hK his;simp only[Qo,Qh,Z0a,Qa];refine⟨λo ho=>?_,Yp,Yp,λhK=>(by have:=k4 hK;have:=j4 hK;omega),Yp⟩;rcases Q9.1 ho with rfl|ho;.exact k1 his
     .exact j1 o ho
    .rw[if_neg his]at k2 k3;rw[if_neg his];simp only[Qh,Qa];refine⟨j1,Yp,Yp,λhK=>?_,Yp⟩;have:=j4 hK;have:0<=(if x.of=2 then 0 else φC x.p)+(if x.of=1 then 0 else φC x.q):=by split<;>split<;>omega
     omega
   .cases h
 obtain⟨j1,j2,j3,j4,j5⟩:=all ps ops one hc;rw[Zor]at j2;rw[Zoq]at j3;rw[sA,Zor]at j2;rw[sB,Zoq]at j3;have x1:=ZjA ops;have x2:=ZjA p.ops;have x3:=ZjA q.ops;exact⟨j1,j2,j3,λhK=>(by have:=j4 hK;omega)⟩
theorem ZC5{K:Prop}{f:Edit->Edit->Edit×Bool}{p q:Edit}(wp:Wk p)(wq:Wk q)(ih:∀a b,Zi a+Zi b<Zi p+Zi q->Wk a->Wk b->ComWk K (f a b) a b):ComWk K (Z0J f p q) p q:=by
 have rp:=Zt wp.r;have rq:=Zt wq.r;have gp:=Z0s wp.g;have gq:=Z0s wq.g;have cp:=Z9g p;have cq:=Z9g q;have ap:=Z0d p;have aq:=Z0d q;unfold Z0J;by_cases p0:p.kind=0;.rw[if_pos p0];exact⟨λ_=>wq,λ_ _=>by dsimp only;omega,λh=>absurd p0 h,λ_ _ _ h=>absurd p0 h⟩
 rw[if_neg p0];by_cases q0:q.kind=0;.rw[if_pos q0];exact⟨λ_=>wp,λ_ _=>by dsimp only;omega,λ_ h=>absurd q0 h,λ_ _ _ _ h=>absurd q0 h⟩
 rw[if_neg q0];by_cases p1:p.kind=1
 .rw[if_pos p1];obtain⟨r1,r2,r3,r4⟩:=rp.rep p1;have aa:(doB q p.new).2=true->(Zb (doB q p.new).1 (-1)=true/\(doB q p.new).1.kind≠10)/\rng (doB q p.new).1/\mass (doB q p.new).1+18<=mass p.new+ctE q/\∀list,7<list->list<=9->p.new.kind=1->list=9->Wl list q->(doB q p.new).1.kind=1:=by
   intro d;obtain⟨v,hv,e⟩:=ZkY d;rw[e];obtain⟨x1,x2⟩:=Z51 _ q _ p.new v (Qc _) wq.r r2 hv;refine⟨⟨Z3H x1,by rw[Z1d];exact x2 q0⟩,Z03 _ (Z8J false q _ v wq.g gp.2.1 hv),?_,λlist h7 h9 hk bo hw=>?_⟩;.have:=Z7G false q _ _ v wq.r hv;have:=ZI v;omega
   .rw[Z1d];obtain⟨j1,j2,_,_⟩:=ZbD wq.r hv;rcases hw with h|h|h;.omega
    .exact(j2 h).1
    .rw[j1 h.1];exact h.2.2
  refine⟨λd=>?_,λ_ d=>?_,λ_ _ _=>(show(1:Int)≠0 by decide),λlist h7 h9 _ _ d hp hq=>?_⟩;.obtain⟨⟨k1,k2⟩,k3,_,_⟩:=aa d;exact⟨Zcd r1 k1 r3 k2,Yc V0 V0,gp.1,k3,by simp,Yc V0 V0,trivial,trivial⟩
  .obtain⟨_,_,k4,_⟩:=aa d;rw[Zt9];omega
  .by_cases h8:list=8;.exact .inl h8
   .have ai:p.kind=1/\p.old.kind=1/\p.new.kind=1:=by
     rcases hp with h|h|h;.exact absurd h h8
     .omega
     .exact h
    exact .inr (.inr ⟨rfl,ai.2.1,(aa d).2.2.2 list h7 h9 ai.2.2 Yp hq⟩)
 rw[if_neg p1];by_cases q1:q.kind=1
 .rw[if_pos q1];obtain⟨r1,r2,r3,r4⟩:=rq.rep q1;have wt:=wp.turn;have kt:(ZM (Y2 p)).kind=p.kind:=by rw[Z4w,Z1T]
  have aa:(doB (ZM (Y2 p)) q.old).2=true->(Zb (doB (ZM (Y2 p)) q.old).1 (-1)=true/\(doB (ZM (Y2 p)) q.old).1.kind≠10)/\rng (doB (ZM (Y2 p)) q.old).1/\mass (doB (ZM (Y2 p)) q.old).1+18<=mass q.old+ctE p/\(p.kind=2->(doB (ZM (Y2 p)) q.old).1.kind=1):=by
   intro d;obtain⟨v,hv,e⟩:=ZkY d;rw[e];obtain⟨x1,x2⟩:=Z51 _ _ _ q.old v (Qc _) wt.r r1 hv;refine⟨⟨Z3H x1,by rw[Z1d];exact x2 Yp⟩,Z03 _ (Z8J false _ _ v wt.g gq.1 hv),?_,λhk=>?_⟩;.have:=Z7G false _ _ _ v wt.r hv;have:=ZI v;have:=ZgX (Y2 p);rw[ZbH]at this;omega
   .rw[Z1d];exact((ZbD wt.r hv).2.1 Yp).1
  refine⟨λd=>?_,λ_ d=>?_,λ_ _ _=>(show(1:Int)≠0 by decide),λlist h7 h9 _ _ d hp hq=>?_⟩;.obtain⟨⟨k1,k2⟩,k3,_,_⟩:=aa d;exact⟨Zcd k1 r2 k2 r4,Yc V0 V0,k3,gq.2.1,by simp,Yc V0 V0,trivial,trivial⟩
  .obtain⟨_,_,k4,_⟩:=aa d;rw[Zt9];omega
  .by_cases h8:list=8;.exact .inl h8
   .have au:q.kind=1/\q.old.kind=1/\q.new.kind=1:=by
     rcases hq with h|h|h;.exact absurd h h8
     .omega
     .exact h
    refine .inr (.inr ⟨rfl,(aa d).2.2.2 ?_,au.2.2⟩);rcases hp with h|h|h;.exact absurd h h8
    .exact h
    .exact absurd h.1 p1
 rw[if_neg q1];by_cases hd:p.kind≠q.kind\/p.list≠q.list;.rw[if_pos hd];exact⟨λh=>(by cases h),λ_ h=>(by cases h),λ_ _ h=>(by cases h),λ_ _ _ _ _ h=>(by cases h)⟩
 rw[if_neg hd];by_cases p2:p.kind=2
 .rw[if_pos p2];have q2:q.kind=2:=Yp;have awp:=Yw rp.words;have ao:=Yw rq.words;have ae:=ZD rp.kids;have af:=ZD rq.kids;have av:∀a b:WEdit,a.at_=b.at_->(Z0T a b).2=true->(Z0T a b).1.at_=a.at_:=λa b _ h=>ZE0 a b h;have am:∀a b:Kid,a.at_=b.at_->(Z2S f a b).2=true->(Z2S f a b).1.at_=a.at_:=λa b _ _=>rfl;have hk:∀a∈p.kids,∀b∈q.kids,ComWk K (f a.e b.e) a.e b.e:=by intro a ha b d;have:=Z4B ha;have:=Z4B d;exact ih a.e b.e Yp (.of (ae a ha).2 (Z1j gp.2.2.2.1 ha).2) (.of (af b d).2 (Z1j gq.2.2.2.1 d).2)
  cases hL:Zq WEdit.at_ Z0T p.words q.words with
  |none=>exact⟨λh=>(by cases h),λ_ h=>(by cases h),λ_ _ h=>(by cases h),λ_ _ _ _ _ h=>(by cases h)⟩|some L=>rw[if_pos (show(some L).isSome=true from rfl)];cases hM:Zq KidOf.at_ (Z2S f) p.kids q.kids with
   |none=>exact⟨λh=>(by cases h),λ_ h=>(by cases h),λ_ _ h=>(by cases h),λ_ _ _ _ _ h=>(by cases h)⟩|some M=>
    have S:=(Zgi av _ p.words q.words (-1) (Qc _) (ZbR rp.words) (ZbR rq.words)).2 L hL;have T:=(Zgi am _ p.kids q.kids (-1) (Qc _) (Z6U rp.kids) (Z6U rq.kids)).2 M hM;have hw:∀w∈L,(w.at_<=65534/\w.mask≠0/\Yr w.old w.mask=true/\Yr w.new w.mask=true)/\JT w:=by
     intro w hw;rcases S.of w hw with⟨h,_⟩|⟨h,_⟩|⟨a,ha,b,d,_,hc,rfl⟩;.exact⟨(awp w h).2,gp.2.2.1 w h⟩
     .exact⟨(ao w h).2,gq.2.2.1 w h⟩
     .exact ZB1 (gp.2.2.1 a ha) (gq.2.2.1 b d) (awp a ha).2 (ao b d).2.2.2 hc
    have hm:∀k∈M,(k.at_<=65534/\k.e.kind≠0/\Z8 k.e (-2)=true)/\InR k.at_/\YF k.e:=by
     intro k bb;rcases T.of k bb with⟨h,_⟩|⟨h,_⟩|⟨a,ha,b,d,_,hc,rfl⟩;.exact⟨⟨(ae k h).1.2.1,(ae k h).1.2.2,YT _ _ _ V0 (ae k h).2⟩,Z1j gp.2.2.2.1 h⟩
     .exact⟨⟨(af k h).1.2.1,(af k h).1.2.2,YT _ _ _ V0 (af k h).2⟩,Z1j gq.2.2.2.1 h⟩
     .have H:=hk a ha b d;have hc:(f a.e b.e).2=true:=hc;exact⟨⟨(ae a ha).1.2.1,H.kind (ae a ha).1.2.2 (af b d).1.2.2 hc,YT _ _ _ V0 (H.wk hc).r⟩,(Z1j gp.2.2.2.1 ha).1,(H.wk hc).g⟩
    refine⟨λ_=>⟨Zi6 (Z8v S.asc_ λw h=>(hw w h).1) (Z8Q T.asc_ λk h=>(hm k h).1),?_⟩,λhK _=>?_,λ_ _ _=>(show(2:Int)≠0 by decide),λ_ _ _ _ _ _ _ _=>.inr (.inl rfl)⟩;.exact⟨Yc V0 V0,Z1i,Z1i,λw h=>(hw w h).2,Yc V0 V0,ZfC λk h=>(hm k h).2,trivial⟩
    .have c1:=ZiB (λ_=>1) _ _ _ _ (Qc _) (λa _ b _ _=>by omega) hL;have c2:=ZiB Z2z _ _ _ _ (Qc _) (λa ha b d hc=>by have H:=hk a ha b d;have hc:(f a.e b.e).2=true:=hc;have:=H.ct hK hc;rw[Z3q,Z3q,Z3q];show 65600+ctE (f a.e b.e).1<=_;omega) hM;rw[Z9r,Z9r,Z9r]at c1;rw[Zei,Zei,Zei]at c2;have mo:=Zv p.old;have mn:=Zv p.new;have a8:=Zv q.old;have a1:=Zv q.new;simp only[ctE,YI,ofO,Xf,Z1o];omega
 .rw[if_neg p2];have p3:p.kind=3:=by have:=rp.kind;omega
  have q3:q.kind=3:=Yp;have hl:p.list=q.list:=Yp;have bc:=rp.list p3;have op:=Z1Z wp.r;have oq:=Z1Z wq.r;unfold Z2L;by_cases hb1:(Zl 1 2 p.ops q.ops []).2.1=true
  .rw[if_pos hb1];cases hc:Z2A f (Zl 1 2 p.ops q.ops []).1 with
   |none=>exact⟨λh=>(by cases h),λ_ h=>(by cases h),λ_ _ h=>(by cases h),λ_ _ _ _ _ h=>(by cases h)⟩|some ops=>
    obtain⟨j1,j2,j3,j4⟩:=ZDK wp wq p3 hl ih rfl hb1 hc;have ar:∀o∈ops,0<=Z4 o:=λo ho=>Z2P (Z8P (j1 o ho).1);have lA:=Z4I ops 0 ar V0 V0;have lB:=Z4H ops 0 ar V0 V0;have mA:=Z4I p.ops 0 (λo ho=>Z2P (op o ho)) V0 V0;have mB:=Z4H q.ops 0 (λo ho=>Z2P (oq o ho)) V0 V0;have t1:=rp.len.1;have t2:=rq.len.2;refine⟨λ_=>⟨?_,?_⟩,λhK _=>?_,λ_ _ _=>(show(3:Int)≠0 by decide),λlist h7 h9 _ _ _ ai au=>?_⟩
    .refine Zi5 bc (Z8O λo ho=>(j1 o ho).1) ?_ ?_;.rw[show ofO (some ops)=ops from rfl];omega
     .rw[show ofO (some ops)=ops from rfl];omega
    .refine⟨Yc V0 V0,Z1i,Z1i,by simp,?_,trivial,Zm2 λo ho=>(j1 o ho).2⟩;unfold InR;omega
    .have j4:=j4 hK;have mo:=Zv p.old;have mn:=Zv p.new;have a8:=Zv q.old;have a1:=Zv q.new;simp only[ctE,Z0S,ofO,Xf,Z1o,Qm];omega
    .rcases ai with h|h|h;.exact .inl h
     .omega
     .omega
  .rw[if_neg hb1];exact⟨λh=>(by cases h),λ_ h=>(by cases h),λ_ _ h=>(by cases h),λ_ _ _ _ _ h=>(by cases h)⟩
theorem ZIA:∀(n:Nat)(p q:Edit),Zi p+Zi q<=n->Wk p->Wk q->ComWk True (Zl1 n p q) p q:=by intro n;induction n with|zero=>intro p q h;obtain⟨k,o,nw,w,ks,l,os⟩:=p;simp only[Zi]at h;omega|succ n ih=>intro p q hn wp d;exact ZC5 wp d λa b aa wa wb=>ih a b Yp wa wb
end Go.AM.YtnfbomhidainjaaGreat
