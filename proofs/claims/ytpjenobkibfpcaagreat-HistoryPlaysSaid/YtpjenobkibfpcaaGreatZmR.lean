import Derived.Test.YtpjenobkibfpcaaGreatZmF
set_option linter.all false
open Option renaming some->A,none->aT
open Bool renaming true->Y,false->I
open List renaming length->J,getD->aR
open Int renaming toNat->G
namespace Go.AM
variable{U:gP}{P:Program}{M:cW U}{B:fN}{E:bY U}{g:Gh}{a:Act}{w:World}
theorem dJ.qf{vs cs aZ}(h:dJ M g aZ vs cs){j:Nat}{v c}(s:vs[j]?=A v)(L:cs[j]?=A c):b_ M g.m v c:=(h.2 j v c s L).1
theorem Zzo(ok:bS P M){T cs x vs m}(hd:M.jz T cs=A x)(hl:J vs=J cs)(h:∀(j:Nat)v c,vs[j]?=A v->cs[j]?=A c->b_ M m v c):J vs=M.sz T/\∀(j:Nat)c,(M.enc T x)[j]?=A c->∃v,vs[j]?=A v/\b_ M m v c:=by obtain⟨h1,h2⟩:=ok.jb T cs x hd;have h3:=ok.cL T x;refine⟨O,λj c L=>?_⟩;have hj:j<J (M.enc T x):=(Qc.1 L).1;have hv:vs[j]?=A (vs[j]'O):=Q8 _;have s:cs[j]?=A (cs[j]'O):=Q8 _;exact⟨_,hv,(h j _ _ hv s).wk (h2 j _ _ s L)⟩
theorem ZhO(h:cT M B E g a w){w1}(hw:cV w w1){T l arr}(e){cap tl d kl}(af:J l<=cap)(a1:arr.size=cap*M.sz T)(ai:tl=.bF (.r d 0)\/tl=.cU/\J l=cap)(henc:∀x,J (M.enc T x)=M.sz T)(aa:∀i x,l[i]?=A x->∀j c,(M.enc T x)[j]?=A c->∃v,arr[i*M.sz T+j]?=A v/\b_ M g.m v c):∃g',gE M B E g {val:=A (.c (.slice T l tl)),du:=kl} (.slice (A ⟨w.heap.size,0,aT⟩) (J l) cap) (w1.alloc (.cells arr e)) g':=by
 let im:Nat->Bool:=λi=>decide (i<J l*M.sz T);let tg:Nat->Option m8:=λi=>if J l*M.sz T<=i/\i<arr.size then A (.dW (.r d 0))else aT;obtain⟨h1,h2,h3,h4,h5⟩:=UD h hw arr e im tg g.ad (by grind) (λ_ _=>rfl) λ_=>rfl;refine⟨g.new w.heap.size arr im tg g.ad,h1,h2,?_,?_,?_,h.gZ rfl (h3 kl.contains _ λnm s=>s) (λc v hv=>h5 _ _ (h.cN.im c v hv).1) λc t _ ht=>by obtain⟨_,v,hv⟩:=h.cN.it c _ ht;grind,h.eM rfl λ_=>rfl⟩;.exact h3 kl.contains _ λnm s=>s
 .have k:=h3 kl.contains (λnm=>(E.mem nm).isSome) λ_ s=>s;intro nm cs hm j c hj;refine Pa h k h5 ?_ nm cs hm j c hj;intro c t ht;have:=h.cN.lt ht;simp only[Gh.new];grind
 .have k:=h3 kl.contains (λnm=>(E.mem nm).isSome) λ_ s=>s;refine⟨.fS tl rfl af ?_,?_⟩
  .intro i x hx j c L;obtain⟨v,h6,h7⟩:=aa i x hx j c L;refine⟨v,?_,h7.mono k.m⟩;have hi:i<J l:=(Qc.1 hx).1;have hj:j<M.sz T:=by have:=(Qc.1 L).1;rw[henc]at this;exact this
   have aj:i*M.sz T+j<J l*M.sz T:=by have:(i+1)*M.sz T<=J l*M.sz T:=Qx _ hi;rw[Xj]at this;omega
   rw[Addr.add_lit,Xh];simp only[Gh.new,and_self,Xa,im,aj,decide_true];exact h6
  .rcases ai with rfl|⟨rfl,hfull⟩;.intro _ b len ae hv j ax az;simp only[Value.slice.injEq,Option.some.injEq]at hv;obtain⟨rfl,rfl,rfl⟩:=hv;rw[Addr.add_lit,Xh];simp only[Gh.new,and_self,Xa,tg];grind
   .intro b len ae hv;grind
theorem S0(ok:bS P M){T}:∀h(ps:List (Nat×aA U))i(l:List (U.El T))vs,uj M T i ps=A l->J h=J ps->(∀(j:Nat)x y,h[j]?=A x->ps[j]?=A y->x.1=y.1/\cB M g E.aZ (λnm=>(E.mem nm).isSome) x.2 y.2)->(i+J h)*M.sz T<=vs.size->J l=J ps/\∃s,Instr.fill (λk=>A (k*M.sz T,M.sz T)) vs h=A s/\s.size=vs.size/\(∀q,q<i*M.sz T->s[q]?=vs[q]?)/\∀r x,l[r]?=A x->∀j c,(M.enc T x)[j]?=A c->∃v,s[(i+r)*M.sz T+j]?=A v/\b_ M g.m v c
 |[],[],i,l,vs,he,_,_,_=>by
  simp only[uj,Option.some.injEq]at he;subst he;exact⟨rfl,vs,rfl,rfl,λ_ _=>rfl,λr x hx=>by simp at hx⟩|(k,v)::h,(k',y)::ps,i,l,vs,he,hl,hr,ah=>by
  obtain⟨hk,hv⟩:=hr 0 _ _ rfl rfl;simp only at hk hv;subst hk;simp only[uj]at he;split at he
  .rename_i ak;subst ak;split at he
   .rename_i cs aj;split at he
    .rename_i x hx;cases hrec:uj M T (k+1) ps with|none=>grind|some l'=>
      simp only[hrec,Qv,Option.some.injEq]at he;subst he;have ab:=hv.cells aj;obtain⟨al,aq⟩:=Zzo ok hx ab.1 λj v c h1 h2=>ab.qf h1 h2;have hl:J h=J ps:=by simpa using hl
      have ah:(k+( J h+1))*M.sz T<=vs.size:=ah;have ay:(k+1)*M.sz T<=(k+( J h+1))*M.sz T:=Qx _ O;have a2:(k+1)*M.sz T=k*M.sz T+M.sz T:=by rw[Xj];omega
      have a3:v.cells.size=M.sz T:=by simpa using al
      let vs1:Array Value:=v.cells.zipIdx.foldl (λcs(c,j)=>cs.setIfInBounds (k*M.sz T+j) c) vs;have aa:vs1.toList=vs.toList.take (k*M.sz T)++v.cells.toList++vs.toList.drop (k*M.sz T+J v.cells.toList):=by show(v.cells.zipIdx.foldl (λcs(c,j)=>cs.setIfInBounds (k*M.sz T+j) c) vs).toList=_;rw[<-Array.foldl_toList,Array.toList_zipIdx];have:=TS (k*M.sz T) v.cells.toList 0 vs (by simp;omega);simpa using this
      have am:vs1.size=vs.size:=by have:=congrArg List.length aa;simp at this;omega
      obtain⟨h1,s,h2,h3,h4,h5⟩:=S0 ok h ps (k+1) l' vs1 hrec hl (λj x y hx hy=>hr (j+1) x y (by simpa using hx) (by simpa using hy)) (by grind);have ae:∀q:Nat,vs1[q]?=vs1.toList[q]?:=λq=>(Array.getElem?_toList ..).symm;refine⟨by simp[h1],s,?_,by rw[h3,am],?_,?_⟩
      .simp only[Instr.fill];grind
      .intro q hq;rw[h4 q O,ae,aa,Qg,X5 (by simp;omega),XW hq];simp
      .intro r x' ai j c L;cases r with
       |zero=>
        simp only[Km,Option.some.injEq]at ai;subst ai;obtain⟨u,h6,h7⟩:=aq j c L;refine⟨u,?_,h7⟩;have hj:j<M.sz T:=by have:=(Qc.1 L).1;rw[ok.cL]at this;exact this
        rw[Kg,h4 _ O,ae,aa,Qg,QK (by simp;omega)];have e:k*M.sz T+j-J (vs.toList.take (k*M.sz T))=j:=by simp;omega
        grind|succ r=>grind
    .cases he
   .cases he
  .cases he
theorem ZgB(ok:bS P M)(h:cT M B E g a w){o t n s T ps l}(ho:o.op=.buildSlice t n s)(hT:M.iO t=A T)(hl:s.size=J ps)(hn:J ps=n)(ak:n*M.sz T<=16777216)(hr:∀(j:Nat)x y,s[j]?=A x->ps[j]?=A y->x.1=y.1/\cB M g E.aZ (λnm=>(E.mem nm).isSome) (a.eval x.2) y.2)(he:uj M T 0 ps=A l):fJ P o a w λv w'=>∃g',gE M B E g {val:=A (.c (.slice T l .cU))} v w' g':=by
 obtain⟨hE,hU⟩:=pC ok hT;obtain⟨i,ag,zs,z,h1,h2,h3,h4,h5,h6⟩:=ok.el T;obtain⟨z',hz,hZ⟩:=AG ok h5 w;have am:z'=z:=by simp[zeroValue,typeInfo,h1,h4]at hz;exact hz.symm
 subst am;have au:z'.cells.size=M.sz T:=by have:=(yG (g:=g) (E:=E) (M:=M) hZ).1;simp at this;omega
 let vs0:Array Value:=if n*M.sz T=0 then(Array.range (n*M.sz T)).map ((#[]:Array Value)[· %0]!)else(Array.range (n*M.sz T)).map (z'.cells[· %z'.cells.size]!);have ah:vs0.size=n*M.sz T:=by simp only[vs0];split<;>simp
 obtain⟨aw,vs',h7,h8,_,h9⟩:=S0 (g:=g) (E:=E) ok (s.toList.map λx=>(x.1,a.eval x.2)) ps 0 l vs0 he (by simpa using hl) (by grind) (by grind);have ab:J l=n:=O;obtain⟨g',aa⟩:=ZhO (T:=T) (l:=l) (arr:=vs') (d:=0) (kl:=[]) h (cV.refl w) (P.elem t) (cap:=n) (tl:=.cU) O (by rw[h8,ah]) (.inr ⟨rfl,ab⟩) (ok.cL T) λi x hx j c L=>by grind
 rw[ab]at aa;refine .inl ⟨_,_,?_,g',aa⟩;have ai:=wR ok T w;rw[<-hE]at ai hz;simp only[execOp,ho];apply EZ;simp only[Instr.buildSlice,Sem.run_bind,run_underlying hU,Result.andThen_ok,ai];rw[Q0 O];by_cases h0:n*M.sz T=0
 .simp only[h0,Xa];simp only[vs0,h0,Xa]at h7;have ae:Instr.fill (λi=>A (i*M.sz T,M.sz T)) ((Array.range 0).map ((#[]:Array Value)[· %(#[]:Array Value).size]!)) (s.map λx=>(x.1,a.eval x.2)).toList=A vs':=by rw[K8];exact h7
  simp only[Sem.run_bind,Sem.run_pure,Result.andThen_ok,ae];try rfl
 .simp only[h0,Ku];simp only[vs0,h0,Ku]at h7;have ae:Instr.fill (λi=>A (i*M.sz T,M.sz T)) ((Array.range (n*M.sz T)).map (z'.cells[· %z'.cells.size]!)) (s.map λx=>(x.1,a.eval x.2)).toList=A vs':=by rw[K8];exact h7
  simp only[Sem.run_bind,Sem.run_pure,Result.andThen_ok,hz,ae];try rfl
theorem Lj(ok:bS P M){m T l tl b len cap}(hs:b_ M m (.slice (A b) len cap) (.slice T l tl)):∃vs,J vs=len*M.sz T/\(∀j v,vs[j]?=A v->m (b.add j)=A v/\v.oneCell'=Y)/\∀i x,l[i]?=A x->∀j c,(M.enc T x)[j]?=A c->∃v,vs[i*M.sz T+j]?=A v/\b_ M m v c:=by
 have hl:J l=len:=by cases hs;assumption
 have hr:=hs.lT;have h:=ok.gR T;let f:Nat->Value:=λj=>(m (b.add j)).getD undef;have hf:∀j,j<len*M.sz T->m (b.add j)=A (f j)/\(f j).oneCell'=Y:=by
  intro j hj;have hi:j/M.sz T<J l:=by rw[hl];exact XT (by grind)
  have aa:j%M.sz T<J (M.enc T l[j/M.sz T]):=by rw[ok.cL];exact KC _ h
  obtain⟨v,s,h2⟩:=hr _ _ (Q8 hi) _ _ (Q8 aa);have e:j/M.sz T*M.sz T+j%M.sz T=j:=by rw[Kf];exact Kc _ _
  rw[e]at s;simp only[f,s];exact⟨rfl,h2.cE.1⟩
 refine⟨(List.range (len*M.sz T)).map f,by simp,?_,?_⟩;.grind
 .intro i x hx j c L;obtain⟨v,s,h2⟩:=hr i x hx j c L;have hi:i<J l:=(Qc.1 hx).1;have hj:j<M.sz T:=by have:=(Qc.1 L).1;rw[ok.cL]at this;exact this
  have ak:i*M.sz T+j<len*M.sz T:=by have:(i+1)*M.sz T<=len*M.sz T:=Qx _ O;rw[Xj]at this;omega
  grind
theorem P4{T l l' vs vs' m}(hl:J vs=J l*M.sz T)(henc:∀x,J (M.enc T x)=M.sz T)(h:∀i x,l[i]?=A x->∀j c,(M.enc T x)[j]?=A c->∃v,vs[i*M.sz T+j]?=A v/\b_ M m v c)(h':∀i x,l'[i]?=A x->∀j c,(M.enc T x)[j]?=A c->∃v,vs'[i*M.sz T+j]?=A v/\b_ M m v c):∀i x,(l++l')[i]?=A x->∀j c,(M.enc T x)[j]?=A c->∃v,(vs++vs')[i*M.sz T+j]?=A v/\b_ M m v c:=by
 intro i x s j c L;have hj:j<M.sz T:=by have:=(Qc.1 L).1;rw[henc]at this;exact this
 rw[X8]at s;split at s;.grind
 .rename_i aa;obtain⟨v,h1,h2⟩:=h' _ x s j c L;refine⟨v,?_,h2⟩;have e1:J l*M.sz T<=i*M.sz T:=Qx _ O;rw[QK O,hl,<-h1];congr 1;rw[KW];omega
open Classical in noncomputable def Gh.jn(g:Gh)(w':World)(b:Addr)(lo mid h:Nat)(t:bL):Gh:=
 {m:=λc=>if∃j,lo<=j/\j<mid/\c=b.add j then w'.cell? c else g.m c
  cA:=λc=>if∃j,lo<=j/\j<mid/\c=b.add j then aT else if∃j,mid<=j/\j<h/\c=b.add j then A (.dW t)else g.cA c
  ad:=g.ad
  bs:=g.bs}
theorem Zi6(ok:bS P M)(h:cT M B E g a w){T l l' tl b len cap n vs d kl}(hx:cH M g E.aZ (.slice (A b) len cap) (.slice T l tl))(hl:J l=len)(L:len<=cap)(au:len+n<=cap)(bj:J l'=n)(b0:J vs=n*M.sz T)(bl:∀v∈vs,v.oneCell'=Y)(bg:∀i x,l'[i]?=A x->∀j c,(M.enc T x)[j]?=A c->∃v,vs[i*M.sz T+j]?=A v/\b_ M g.m v c)(bk:tl=.cU/\kl=[]\/∃u,tl=.bF u/\E.aZ u=I/\kl=[u]):∃w' g',(storeCells (b.add (len*M.sz T)) vs).run P w=.ok () w'/\gE M B E g {val:=A (.c (.slice T (l++l') (.bF (.r d 0)))),du:=kl} (.slice (A b) (len+n) cap) w' g':=by
 have bv:(len+n)*M.sz T=len*M.sz T+n*M.sz T:=Xj ..;have bf:(len+n)*M.sz T<=cap*M.sz T:=Qx _ au;have ak:∀j,len*M.sz T<=j->j<cap*M.sz T->∃u,kl=[u]/\g.cA (b.add j)=A (.dW u):=by
  intro j h1 h2;rcases bk with⟨rfl,_⟩|⟨u,rfl,hu,rfl⟩;.have:=hx.2 _ _ _ rfl;subst this;omega
  .exact⟨u,rfl,hx.2 hu b len cap rfl j h1 h2⟩
 obtain⟨w',h1,h2,h3,h4,h5,h6⟩:=BT (P:=P) (b.add (len*M.sz T)) vs 0 w bl (by intro j hj;rw[Go.Deep.add_add,Xh];obtain⟨u,_,ht⟩:=ak (len*M.sz T+j) O O;obtain⟨h7,v,h8⟩:=h.cN.it _ _ ht;exact⟨⟨v,h8⟩,h7⟩);simp only[Xh,Go.Deep.add_add]at h2 h3 h4;let g':=g.jn w' b (len*M.sz T) ((len+n)*M.sz T) (cap*M.sz T) (.r d 0);have hS:∀c,(∃j,len*M.sz T<=j/\j<cap*M.sz T/\c=b.add j)->∃u,kl=[u]/\g.cA c=A (.dW u):=by rintro c⟨j,aq,am,rfl⟩;exact ak j aq am
 have bt:∀c,(∃j,len*M.sz T<=j/\j<(len+n)*M.sz T/\c=b.add j)->∃v,w'.cell? c=A v:=by
  rintro c⟨j,aq,am,rfl⟩;have:=h3 (j-len*M.sz T) _ (Q8 O);rw[show len*M.sz T+(j-len*M.sz T)=j by omega]at this;exact⟨_,this⟩
 have az:∀c v,g.m c=A v->w'.cell? c=A v/\¬∃j,len*M.sz T<=j/\j<cap*M.sz T/\c=b.add j:=by
  intro c v hv;obtain⟨h7,h8⟩:=h.cN.im c v hv;have ah:¬∃j,len*M.sz T<=j/\j<cap*M.sz T/\c=b.add j:=λL=>by
   obtain⟨u,_,h9⟩:=hS c L;rw[h8]at h9;cases h9
  refine⟨?_,ah⟩;rw[h4 c λj hj e=>ah ⟨_,O,O,e⟩];exact h7
 have ao:∀c v,g.m c=A v->g'.m c=A v:=by intro c v hv;have:=(az c v hv).2;simp only[g',Gh.jn];rw[Q0 λ⟨j,a1,a2,a3⟩=>this ⟨j,a1,O,a3⟩];exact hv
 have ae:∀c,¬(∃j,len*M.sz T<=j/\j<cap*M.sz T/\c=b.add j)->g'.cA c=g.cA c:=by intro c ah;simp only[g',Gh.jn];rw[Q0 λ⟨j,a1,a2,a3⟩=>ah ⟨j,a1,O,a3⟩,Q0 λ⟨j,a1,a2,a3⟩=>ah ⟨j,O,a2,a3⟩]
 have a7:oy g'.m g'.cA w':=by
  refine⟨λc v hv=>?_,λc t ht=>?_⟩
  .simp only[g',Gh.jn]at hv⊢;split at hv;.rename_i L;rw[Q5 L];exact⟨hv,rfl⟩
   .rename_i L;rw[Q0 L];obtain⟨h7,h8⟩:=az c v hv;refine⟨h7,?_⟩;rw[Q0 λ⟨j,a1,a2,a3⟩=>h8 ⟨j,O,a2,a3⟩];exact(h.cN.im c v hv).2
  .have ar:∀t',g.cA c=A t'->w'.frozen? c=I/\∃v,w'.cell? c=A v:=by intro t' bm;obtain⟨h7,u,h8⟩:=h.cN.it c t' bm;exact⟨(h5 c).trans h7,h2.some c u h8⟩
   simp only[g',Gh.jn]at ht;split at ht;.cases ht
   .split at ht;.rename_i L;obtain⟨j,a1,a2,a3⟩:=L;obtain⟨u,_,h7⟩:=hS c ⟨j,O,a2,a3⟩;exact ar _ h7
    .exact ar t ht
 have aj:db g g' E.aZ (λt=>E.aZ t||kl.contains t) (λnm=>(E.mem nm).isSome) λnm=>(E.mem nm).isSome:=by
  refine⟨ao,λc t hd ht=>?_,λt ht=>?_,λnm hn=>⟨hn,rfl⟩,λ_ _ _ h=>h,λ_=>rfl⟩
  .rw[ae c ?_];.exact ht
   .intro L;obtain⟨u,hu,h7⟩:=hS c L;rw[ht]at h7;cases h7;rw[hu]at hd;simp at hd
  .simp only[QJ]at ht;exact ht.1
 refine⟨w',g',h1,a7,?_,aj,?_,?_,h.gZ rfl aj (λc v hv=>(az c v hv).1) λc t hd ht=>?_,h.eM rfl λ_=>rfl⟩
 .refine h.fr.step h.cN h2 ?_ ao ?_ ?_ λ_=>rfl;.rintro c⟨j,hj,rfl⟩;obtain⟨u,_,ht⟩:=ak (len*M.sz T+j) O O;exact⟨_,ht,λt' e=>by cases e⟩
  .intro c t;by_cases L:∃j,len*M.sz T<=j/\j<cap*M.sz T/\c=b.add j
   .obtain⟨u,_,h7⟩:=hS c L;constructor;.intro h8;rw[h7]at h8;cases h8
    .intro h8;simp only[g',Gh.jn]at h8;split at h8;.cases h8
     .split at h8;.cases h8
      .exact h8
   .rw[ae c L]
  .intro bb _ a9 o s;refine ae _ λL=>?_;obtain⟨u,_,h7⟩:=hS _ L;obtain⟨t',h8⟩:=a9 _ _ _ h7;cases h8
 .intro nm cs hm j c hj;obtain⟨v,h7,h8,h9⟩:=h.mem nm cs hm j c hj;have ah:¬∃i,len*M.sz T<=i/\i<cap*M.sz T/\(g.ad nm).add j=b.add i:=λL=>by
   obtain⟨u,_,ax⟩:=hS _ L;rw[h8]at ax;cases ax
  refine⟨v,?_,(ae _ ah).trans h8,h9.bN aj⟩;show w'.cell? ((g.ad nm).add j)=A v;rw[h4 _ λi hi e=>ah ⟨_,O,O,e⟩];exact h7
 .refine⟨.fS _ (by simp[hl,bj]) au ?_,?_⟩
  .obtain⟨us,bc,bi,bo⟩:=Lj ok hx.1;have:=P4 (m:=g.m) (vs:=us) (vs':=vs) (by rw[bc,hl]) (ok.cL T) bo bg;intro i x hi j c hj;obtain⟨v,h7,h8⟩:=this i x hi j c hj;refine⟨v,?_,h8.mono ao⟩;by_cases hlt:i*M.sz T+j<len*M.sz T;.rw[X5 O]at h7;exact ao _ _ (bi _ _ h7).1
   .rw[QK O,bc]at h7;have h9:=h3 _ _ h7;rw[show len*M.sz T+(i*M.sz T+j-len*M.sz T)=i*M.sz T+j by omega]at h9;have ax:=(Qc.1 h7).1;simp only[g',Gh.jn];rw[Q5 ⟨i*M.sz T+j,O,O,rfl⟩];exact h9
  .intro _ b' br bu hv j aq am;simp only[Value.slice.injEq,Option.some.injEq]at hv;obtain⟨rfl,rfl,rfl⟩:=hv;simp only[g',Gh.jn];rw[Q0 λ⟨i,a1,a2,a3⟩=>by have:=rY a3;omega,Q5 ⟨j,aq,am,rfl⟩]
 .refine h4 c λj hj e=>?_;obtain⟨u,hu,h7⟩:=ak (len*M.sz T+j) O O;rw[e,h7]at ht;cases ht;rw[hu]at hd;simp[Zv]at hd
theorem ZhG(w)(h bH)(e):h<=grownCap w h bH e:=by exact KO _ _
theorem ZqX(ok:bS P M)(h:cT M B E g a w){o d t x y px py ps e}(ho:o.op=.call {callee:=.builtin .append,args:=#[px,py],argTypes:=#[t,t]})(hx:cH M g E.aZ (a.eval px) x)(hy:cH M g E.aZ (a.eval py) y)(s:BO M E d t x y=A (ps,e))(al:eU ps):fJ P o a w λv w'=>∃g',gE M B E g e v w' g':=by
 unfold BO at s;split at s;.cases s
 rename_i T hT;split at s;case h_2=>cases s
 rename_i l tl l' cz bx bv;obtain⟨hE,hU⟩:=pC ok hT;obtain⟨az,b,len,cap,bd,hl,L,hb⟩:=Dz hx bx;obtain⟨bi,b',n,aj,a8,af,ck,bw⟩:=Dz hy bv;rw[bd]at az;rw[a8]at bi;have b0:P.underlying t=A (.slice (M.dQ T)):=by rw[hE]at hU;exact hU
 obtain⟨i,ag,zs,z,hi,bf,cp,hz,bh,c3⟩:=ok.el T;have ai:( J l+J l')*M.bytes T<=140737488355328:=by
  split at s;.cases s
  .simp only[oP]at s;rw[<-s.1]at al;exact al.1
  .split at s;.cases s
   .simp only[oP]at s;rw[<-s.1]at al;exact al.1
 have au:∃kl,e={val:=A (.c (.slice T (l++l') (.bF (.r d 0)))),du:=kl}/\( tl=.cU/\kl=[]\/∃u,tl=.bF u/\E.aZ u=I/\kl=[u]):=by
  split at s;.cases s
  .simp only[oP]at s;exact⟨[],s.2.symm,.inl ⟨rfl,rfl⟩⟩
  .split at s;.cases s
   .rename_i u _ hu;simp only[oP]at s;exact⟨[u],s.2.symm,.inr ⟨u,rfl,by simpa using hu,rfl⟩⟩
 obtain⟨kl,rfl,au⟩:=au;rw[hl,af]at ai;have bo:=ok.gU T;have b7:len+n<=140737488355328:=QS (Nat.le_mul_of_pos_right _ bo) ai;have bb:∃vs:List Value,J vs=n*M.sz T/\(∀v∈vs,v.oneCell'=Y)/\(∀w:World,(∀c v,g.m c=A v->w.cell? c=A v)->(Builtin.firstCells i.size n (.slice b' n aj)).run P w=.ok vs.toArray w)/\(∀(k:Nat)x,l'[k]?=A x->∀(j:Nat)c,(M.enc T x)[j]?=A c->∃v,vs[k*M.sz T+j]?=A v/\b_ M g.m v c)/\∀a',b'=A a'->∀(j:Nat)v,vs[j]?=A v->g.m (a'.add j)=A v:=by cases b' with
  |none=>
   obtain⟨rfl,rfl⟩:=bw rfl;have ah:l'=[]:=Q7 af;subst ah;exact⟨[],by simp,by simp,λw _=>run_firstCells_none w _ _ _ _,λk x hx=>by simp at hx,λa' ha=>by cases ha⟩|some a'=>
   obtain⟨vs,h1,h2,h3⟩:=Lj ok bi.1;refine⟨vs,h1,λv hv=>?_,λw hw=>?_,h3,λcq ha j v hv=>?_⟩;.obtain⟨j,hj,rfl⟩:=XX hv;exact(h2 j _ (Q8 hj)).2
   .exact run_firstCells_some w i.size n a' n aj vs (by grind) λj v hv=>hw _ _ (h2 j v hv).1
   grind
 obtain⟨vs,a9,bz,ab,a7,cv⟩:=bb;have ay:∀c v,g.m c=A v->w.cell? c=A v:=λc v hv=>(h.cN.im c v hv).1;have aa:(execOp a.eval o).run P w=((Builtin.append_ #[t,t] o.type #[.slice b len cap,.slice b' n aj]).run P w).andThen λv w=>.ok (.value v) w:=by simp only[execOp,ho,resolve,Sem.run_bind,Sem.run_pure,Result.andThen_ok,invoke,builtin];simp[bd,a8]
 have aq:∀w,(underlying t).run P w=.ok (.slice (M.dQ T)) w:=λw=>run_underlying b0 w;by_cases hfit:len+n<=cap;.cases b with
  |none=>
   obtain⟨rfl,rfl⟩:=hb rfl;have bp:n=0:=O;subst bp;have ah:l=[]:=Q7 hl;have bl:l'=[]:=Q7 af;subst ah bl;have bm:vs=[]:=Q7 O;subst bm;have a5:db g g E.aZ (Zv E ({val:=A (.c (.slice T ([]++[]) (.bF (.r d 0)))),du:=kl}:d_ U)) (λnm=>(E.mem nm).isSome) (YY E ({val:=A (.c (.slice T ([]++[]) (.bF (.r d 0)))),du:=kl}:d_ U)):=⟨λ_ _ h=>h,λ_ _ _ h=>h,λt ht=>by simp only[Zv,QJ]at ht;exact ht.1,λnm hn=>⟨hn,rfl⟩,λ_ _ _ h=>h,λ_=>rfl⟩;refine .inl ⟨.slice aT 0 0,w,?_,g,h.cN,h.fr,a5,?_,⟨.fa T _,λ_ a len cap hv=>by simp at hv⟩,h.gZ rfl a5 (λc v hv=>(h.cN.im c v hv).1) λ_ _ _ _=>rfl,h.eM rfl λ_=>rfl⟩;.rw[aa];simp[Builtin.append_,aq,sizeOf,typeInfo,hi,Builtin.lenOf,ab w ay]
   .intro nm cs hm j c hj;obtain⟨v,h7,h8,h9⟩:=h.mem nm cs hm j c hj;exact⟨v,h7,h8,h9.bN a5⟩|some b=>obtain⟨w',g',h1,h2⟩:=Zi6 (P:=P) (d:=d) ok h az hl L hfit af a9 bz a7 au;refine .inl ⟨_,w',?_,g',h2⟩;rw[aa];rw[<-bf]at h1;simp[Builtin.append_,aq,sizeOf,typeInfo,hi,Builtin.lenOf,ab w ay,hfit,h1]
 .have aw:cap<len+n:=O;have b3:0<n:=O;have ce:¬((len+n:Nat):Int)>9223372036854775807:=O;have b4:Builtin.nextslicecap (len+n) cap*i.bytes<=281474976710656:=growslice_fits aw (by grind);have a2:=ZhG w (len+n) cap (M.dQ T);have a6:∃us:List Value,J us=len*M.sz T/\(∀w:World,(∀c v,g.m c=A v->w.cell? c=A v)->(Builtin.firstCells i.size len (.slice b len cap)).run P w=.ok us.toArray w)/\∀(k:Nat)x,l[k]?=A x->∀(j:Nat)c,(M.enc T x)[j]?=A c->∃v,us[k*M.sz T+j]?=A v/\b_ M g.m v c:=by cases b with
   |none=>
    obtain⟨rfl,rfl⟩:=hb rfl;have ah:l=[]:=Q7 hl;subst ah;exact⟨[],by simp,λw _=>run_firstCells_none w _ _ _ _,λk x hx=>by simp at hx⟩|some b=>obtain⟨us,h1,h2,h3⟩:=Lj ok az.1;exact⟨us,h1,λw hw=>run_firstCells_some w i.size len b len cap us (by grind) λj v hv=>hw _ _ (h2 j v hv).1,h3⟩
  obtain⟨us,ao,a4,bn⟩:=a6;have br:z.cells.size=M.sz T:=by
   obtain⟨z',bg,hZ⟩:=AG ok bh w;have:z'=z:=by simp[zeroValue,typeInfo,hi,hz]at bg;exact bg.symm
   subst this;have:=(yG (g:=g) (E:=E) (M:=M) hZ).1;simp at this;omega
  let nc:=grownCap w (len+n) cap (M.dQ T);let arr:Array Value:=us.toArray++vs.toArray++Builtin.zeroCells z.cells (nc-(len+n));have ch:len+n<=nc:=a2;have bc:arr.size=nc*M.sz T:=by
   have e1:(len+n)*M.sz T+(nc-(len+n))*M.sz T=nc*M.sz T:=by rw[<-Xj];congr 1;omega
   rw[Xj]at e1;simp[arr,Builtin.zeroCells,ao,a9,br];omega
  have ax:=P4 (m:=g.m) (vs:=us) (vs':=vs) (by rw[ao,hl]) (ok.cL T) bn a7;obtain⟨g',am⟩:=ZhO (T:=T) (l:=l++l') (arr:=arr) (d:=d) (kl:=kl) h (cV.drew w) (M.dQ T) (cap:=nc) (tl:=.bF (.r d 0)) (by grind) bc (.inl rfl) (ok.cL T) λk x hx j c L=>by obtain⟨v,h1,h2⟩:=ax k x hx j c L;grind
  rw[show J (l++l')=len+n by simp[hl,af]]at am;refine .inl ⟨_,_,?_,g',am⟩;have be:∀c v,g.m c=A v->w.drew.cell? c=A v:=λc v hv=>ay c v hv;rw[aa];have b5:¬Builtin.nextslicecap (len+n) cap*i.bytes>2^48:=O;have cu:¬i.bytes=0:=O;have b1:¬(9223372036854775807:Int)<(len:Int)+(n:Int):=O;simp[Builtin.append_,aq,sizeOf,typeInfo,zeroValue,hi,hz,Builtin.lenOf,hfit,b1,b5,Question.forced,a4 w.drew be,ab w.drew be,newRow];refine⟨rfl,?_⟩;simp only[arr,nc,grownCap,Array.append_assoc]
def Gh.cZ(g:Gh)(t:bL)(v:Value×Nat):Gh:={g with bs:=λu=>if u=t then A v else g.bs u}
theorem Fr.cZ{t v}(h:Fr B g w):Fr B (g.cZ t v) w:=⟨h.dH,h.sO,h.mono,h.cG,h.fT,h.gn,h.gC⟩
theorem db.cZ{g' aZ h live live2 t v}(k:db g g' aZ h live live2)(hf:g.bs t=aT):db g (g'.cZ t v) aZ h live live2:=⟨k.m,k.dW,k.aZ,k.ad,λu x s hu=>by
  simp only[Gh.cZ];split;.grind
  .exact k.bs u x s hu,k.yk⟩
def Yq(d:Nat)(T)(l:List (U.El T))(f:Nat)(kl:List bL):d_ U:={val:=A (.c (.mref (.r d 0))),du:=kl,ls:=[(.r d 0,⟨T,l,f⟩)]}
theorem Uj{d T l f kl t x}(h:gI E.ls (Yq d T l f kl) t=A x):t=.r d 0/\x=⟨T,l,f⟩\/t≠.r d 0/\E.ls t=A x/\kl.contains t=I:=by unfold gI at h;cases hk:kl.contains t with|true=>simp only[Yq,hk,XE,reduceCtorEq]at h|false=>simp only[Yq,hk,Xi,ZU]at h;grind
theorem SQ{d T l f kl t}(h:gI E.ls (Yq d T l f kl) t=aT)(s:Zv E (Yq d T l f kl) t=I):t≠.r d 0/\E.ls t=aT/\E.aZ t=I:=by simp only[Zv,QJ]at s;unfold gI at h;rw[s.2]at h;simp only[Yq,Xi,ZU]at h;grind
theorem Zla(h:cT M B E g a w){w1}(hw:cV w w1){T l arr}(e){cap d f kl}(ai:J l<=cap)(hf:f<=J l)(bd:arr.size=cap*M.sz T)(henc:∀x,J (M.enc T x)=M.sz T)(ao:E.ls (.r d 0)=aT)(af:E.aZ (.r d 0)=I)(ar:kl.contains (.r d 0)=I)(ab:∀i x,l[i]?=A x->∀j c,(M.enc T x)[j]?=A c->∃v,arr[i*M.sz T+j]?=A v/\b_ M g.m v c):∃g',gE M B E g (Yq d T l f kl) (.slice (A ⟨w.heap.size,0,aT⟩) (J l) cap) (w1.alloc (.cells arr e)) g':=by
 let im:Nat->Bool:=λi=>decide (i<f*M.sz T);let tg:Nat->Option m8:=λi=>if f*M.sz T<=i/\i<arr.size then A (.dW (.r d 0))else aT;obtain⟨h1,h2,h3,h4,h5⟩:=UD h hw arr e im tg g.ad (by grind) (λ_ _=>rfl) λ_=>rfl;have aa:=h.fresh (.r d 0) rfl ao af;have au:db g (g.new w.heap.size arr im tg g.ad) E.aZ (Zv E (Yq d T l f kl)) (λnm=>(E.mem nm).isSome) (YY E (Yq d T l f kl)):=h3 kl.contains _ λnm hs=>hs;have hk:=au.cZ (t:=.r d 0) (v:=(.slice (A ⟨w.heap.size,0,aT⟩) (J l) cap,M.sz T)) aa;have al:Zv E (Yq d T l f kl) (.r d 0)=I:=by simp only[Zv,Yq,af,ar,XO]
 refine⟨(g.new w.heap.size arr im tg g.ad).cZ (.r d 0) (.slice (A ⟨w.heap.size,0,aT⟩) (J l) cap,M.sz T),h1,h2.cZ,hk,?_,⟨.mref _ _ ⟨rfl,rfl⟩,λ_=>⟨M.sz T,by simp[Gh.cZ]⟩⟩,?_,?_⟩
 .intro nm cs hm j c hj;refine Pa h hk h5 ?_ nm cs hm j c hj;intro c t ht;have:=h.cN.lt ht;simp only[Gh.cZ,Gh.new];grind
 .intro t x hx;rcases Uj hx with⟨rfl,rfl⟩|⟨hne,hx,hkt⟩
  .refine⟨al,.inr ⟨⟨w.heap.size,0,aT⟩,J l,cap,by simp[Gh.cZ],rfl,ai,hf,?_,?_⟩⟩
   .intro i y hy j c L;obtain⟨v,h6,h7⟩:=ab i y hy j c L;have hi:i<J l:=(Qc.1 hy).1;have hj:j<M.sz T:=by have:=(Qc.1 L).1;rw[henc]at this;exact this
    have a7:i*M.sz T+j<arr.size:=(Xk.1 h6).1;simp only[Addr.add_lit,Xh];refine⟨v,(h4 _).trans h6,h7.mono hk.m,λs=>?_,λs=>?_⟩
    .have:(i+1)*M.sz T<=f*M.sz T:=Qx _ s;rw[Xj]at this;simp only[Gh.cZ,Gh.new,and_self,Xa,im];grind
    .have:f*M.sz T<=i*M.sz T:=Qx _ s;simp only[Gh.cZ,Gh.new,and_self,Xa,tg];grind
   .intro j a1 a2;dsimp only at a1 a2;have:f*M.sz T<=J l*M.sz T:=Qx _ hf;simp only[Addr.add_lit,Xh];simp only[Gh.cZ,Gh.new,and_self,Xa,tg];grind
  .obtain⟨h6,h7⟩:=h.ls t x hx;have hd:Zv E (Yq d T l f kl) t=I:=by simp only[Zv,Yq,h6,hkt,XO]
   exact⟨hd,h7.bN hk hd (λc v hv=>h5 _ _ (h.cN.im c v hv).1) λc ht=>by obtain⟨_,v,hv⟩:=h.cN.it c _ ht;grind⟩
 .intro t h0 h6 h7;obtain⟨h8,h9,ak⟩:=SQ h6 h7;simp only[Gh.cZ];rw[Q0 h8];exact h.fresh t h0 h9 ak
structure xV(M:cW U)(g:Gh)(w:World)(T:U.Ty)(l:List (U.El T))(f:Nat)(kl:List bL)(b:Addr)(len cap:Nat):Prop where
 hl:l.length=len
 L:len<=cap
 hf:f<=len
 lT:∀i y,l[i]?=some y->∀j c,(M.enc T y)[j]?=some c->∃u,w.cell? (b.add (i*M.sz T+j))=some u/\b_ M g.m u c/\(i<f->g.m (b.add (i*M.sz T+j))=some u)/\(f<=i->∃t,kl=[t]/\g.cA (b.add (i*M.sz T+j))=some (.dW t))tail:∀j,len*M.sz T<=j->j<cap*M.sz T->∃t,kl=[t]/\g.cA (b.add j)=some (.dW t)
theorem xV.bF(ok:bS P M){T l f kl b len cap}(s:xV M g w T l f kl b len cap):∀j,f*M.sz T<=j->j<cap*M.sz T->∃t,kl=[t]/\g.cA (b.add j)=A (.dW t):=by
 intro j h1 h2;have h:=ok.gR T;rcases K5 j (len*M.sz T)with h3|h3
 .have hi:j/M.sz T<J l:=by rw[s.hl];exact XT (by grind)
  have aa:j%M.sz T<J (M.enc T l[j/M.sz T]):=by rw[ok.cL];exact KC _ h
  obtain⟨u,_,_,_,h4⟩:=s.lT _ _ (Q8 hi) _ _ (Q8 aa);have e:j/M.sz T*M.sz T+j%M.sz T=j:=by rw[Kf];exact Kc _ _
  rw[e]at h4;exact h4 ((Kz h).2 h1)
 .exact s.tail j h3 h2
theorem xV.V(ok:bS P M){T l f kl b len cap}(s:xV M g w T l f kl b len cap):∃vs,J vs=len*M.sz T/\(∀j v,vs[j]?=A v->w.cell? (b.add j)=A v)/\∀i x,l[i]?=A x->∀j c,(M.enc T x)[j]?=A c->∃v,vs[i*M.sz T+j]?=A v/\b_ M g.m v c:=by
 have h:=ok.gR T;let fn:Nat->Value:=λj=>(w.cell? (b.add j)).getD undef;have hf:∀j,j<len*M.sz T->w.cell? (b.add j)=A (fn j):=by
  intro j hj;have hi:j/M.sz T<J l:=by rw[s.hl];exact XT (by grind)
  have ab:j%M.sz T<J (M.enc T l[j/M.sz T]):=by rw[ok.cL];exact KC _ h
  obtain⟨v,h1,_⟩:=s.lT _ _ (Q8 hi) _ _ (Q8 ab);have e:j/M.sz T*M.sz T+j%M.sz T=j:=by rw[Kf];exact Kc _ _
  rw[e]at h1;simp only[fn,h1,XL]
 refine⟨(List.range (len*M.sz T)).map fn,by simp,?_,?_⟩;.grind
 .intro i x hx j c L;obtain⟨v,h1,h2,_⟩:=s.lT i x hx j c L;have hi:i<J l:=(Qc.1 hx).1;have hj:j<M.sz T:=by have:=(Qc.1 L).1;rw[ok.cL]at this;exact this
  have ai:i*M.sz T+j<len*M.sz T:=by have:(i+1)*M.sz T<=len*M.sz T:=Qx _ (by have:=s.hl;omega);rw[Xj]at this;omega
  grind
open Classical in noncomputable def Gh.fu(g:Gh)(b:Addr)(lo h:Nat)(t:bL)(v:Value×Nat):Gh:=
 {m:=g.m
  cA:=λc=>if∃j,lo<=j/\j<h/\c=b.add j then A (.dW t)else g.cA c
  ad:=g.ad
  bs:=λu=>if u=t then A v else g.bs u}
theorem ZlQ(ok:bS P M)(h:cT M B E g a w){T l l' b f len cap n vs d kl}(s:xV M g w T l f kl b len cap)(aw:len+n<=cap)(a7:J l'=n)(b0:J vs=n*M.sz T)(bi:∀v∈vs,v.oneCell'=Y)(be:∀i x,l'[i]?=A x->∀j c,(M.enc T x)[j]?=A c->∃v,vs[i*M.sz T+j]?=A v/\b_ M g.m v c)(bk:E.ls (.r d 0)=aT)(a9:E.aZ (.r d 0)=I)(bq:kl.contains (.r d 0)=I):∃w' g',(storeCells (b.add (len*M.sz T)) vs).run P w=.ok () w'/\gE M B E g (Yq d T (l++l') f kl) (.slice (A b) (len+n) cap) w' g':=by
 have bt:(len+n)*M.sz T=len*M.sz T+n*M.sz T:=Xj ..;have bm:(len+n)*M.sz T<=cap*M.sz T:=Qx _ aw;have bz:f*M.sz T<=len*M.sz T:=Qx _ s.hf;have ak:=s.bF ok;have hl:=s.hl;obtain⟨w',h1,h2,h3,h4,h5,h6⟩:=BT (P:=P) (b.add (len*M.sz T)) vs 0 w bi (by intro j hj;rw[Go.Deep.add_add,Xh];obtain⟨u,_,ht⟩:=s.tail (len*M.sz T+j) O O;obtain⟨h7,v,h8⟩:=h.cN.it _ _ ht;exact⟨⟨v,h8⟩,h7⟩);simp only[Xh,Go.Deep.add_add]at h2 h3 h4;let g':=g.fu b (f*M.sz T) (cap*M.sz T) (.r d 0) (.slice (A b) (len+n) cap,M.sz T);have ax:=h.fresh (.r d 0) rfl bk a9;have bf:Zv E (Yq d T (l++l') f kl) (.r d 0)=I:=by simp only[Zv,Yq,a9,bq,XO]
 have aj:∀c,(∃t,g.cA c=A t/\∀u,kl=[u]->t≠.dW u)\/g.cA c=aT->¬∃j,f*M.sz T<=j/\j<cap*M.sz T/\c=b.add j:=by
  rintro c L⟨j,a1,a2,rfl⟩;obtain⟨u,hu,ht⟩:=ak j a1 a2;rcases L with⟨t,h7,h8⟩|h7;.rw[ht]at h7;cases h7;exact h8 u hu rfl
  .rw[ht]at h7;cases h7
 have ab:∀c,(¬∃j,f*M.sz T<=j/\j<cap*M.sz T/\c=b.add j)->g'.cA c=g.cA c:=by intro c L;simp only[g',Gh.fu];rw[Q0 L]
 have ah:∀c,(¬∃j,f*M.sz T<=j/\j<cap*M.sz T/\c=b.add j)->w'.cell? c=w.cell? c:=by intro c L;exact h4 c λj hj e=>L ⟨_,O,O,e⟩
 have bc:∀c v,g.m c=A v->w'.cell? c=A v:=by
  intro c v hv;obtain⟨h7,h8⟩:=h.cN.im c v hv;rw[ah c (aj c (.inr h8))];exact h7
 have a5:∀t,Zv E (Yq d T (l++l') f kl) t=I->∀u,kl=[u]->t≠u:=by intro t ht u hu e;subst e;simp[Zv,Yq,hu]at ht
 have ae:db g g' E.aZ (Zv E (Yq d T (l++l') f kl)) (λnm=>(E.mem nm).isSome) (YY E (Yq d T (l++l') f kl)):=by
  refine⟨λ_ _ h=>h,λc t hd ht=>?_,λt ht=>?_,λnm hn=>⟨hn,rfl⟩,λt v hd hv=>?_,λ_=>rfl⟩;.rw[ab c (aj c (.inl ⟨_,ht,λu hu e=>by cases e;exact a5 _ hd _ hu rfl⟩))];exact ht
  .simp only[Zv,QJ]at ht;exact ht.1
  .simp only[g',Gh.fu];split;.rename_i e;subst e;rw[ax]at hv;cases hv
   .exact hv
 refine⟨w',g',h1,⟨λc v hv=>?_,λc t ht=>?_⟩,?_,ae,?_,⟨.mref _ _ ⟨rfl,rfl⟩,λ_=>⟨M.sz T,by simp[g',Gh.fu]⟩⟩,?_,?_⟩;.exact⟨bc c v hv,by rw[ab c (aj c (.inr (h.cN.im c v hv).2))];exact(h.cN.im c v hv).2⟩
 .have aq:∀t',g.cA c=A t'->w'.frozen? c=I/\∃v,w'.cell? c=A v:=by intro t' bj;obtain⟨h7,u,h8⟩:=h.cN.it c t' bj;exact⟨(h5 c).trans h7,h2.some c u h8⟩
  by_cases L:∃j,f*M.sz T<=j/\j<cap*M.sz T/\c=b.add j;.obtain⟨j,a1,a2,rfl⟩:=L;obtain⟨u,_,h7⟩:=ak j a1 a2;exact aq _ h7
  .rw[ab c L]at ht;exact aq t ht
 .refine h.fr.step h.cN h2 ?_ (λ_ _ h=>h) ?_ ?_ λ_=>rfl
  .rintro c⟨j,hj,rfl⟩;obtain⟨u,_,ht⟩:=s.tail (len*M.sz T+j) O O;exact⟨_,ht,λt' e=>by cases e⟩
  .intro c t;by_cases L:∃j,f*M.sz T<=j/\j<cap*M.sz T/\c=b.add j
   .have h8:g'.cA c=A (.dW (.r d 0)):=by simp only[g',Gh.fu];rw[Q5 L]
    obtain⟨j,a1,a2,rfl⟩:=L;obtain⟨u,_,h7⟩:=ak j a1 a2;rw[h7,h8];constructor<;>intro e<;>cases e
   .rw[ab c L]
  .intro bb _ a6 o sp;refine ab _ λL=>?_;obtain⟨j,a1,a2,e⟩:=L;obtain⟨u,_,h7⟩:=ak j a1 a2;rw[<-e]at h7;obtain⟨t',h8⟩:=a6 _ _ _ h7;cases h8
 .intro nm cs hm j c hj;obtain⟨v,h7,h8,h9⟩:=h.mem nm cs hm j c hj;have ba:=aj _ (.inl ⟨_,h8,λu _ e=>by cases e⟩);exact⟨v,(ah _ ba).trans h7,(ab _ ba).trans h8,h9.bN ae⟩
 .intro t x hx;rcases Uj hx with⟨rfl,rfl⟩|⟨hne,hx,hkt⟩
  .refine⟨bf,.inr ⟨b,len+n,cap,by simp[g',Gh.fu],by simp[hl,a7],aw,by have:=s.hf;simp only;omega,?_,?_⟩⟩
   .intro i y hy j c L;simp only at hy L⊢;have hj:j<M.sz T:=by have:=(Qc.1 L).1;rw[ok.cL]at this;exact this
    have hi:i<len+n:=by have:=(Qc.1 hy).1;simp[hl,a7]at this;exact this
    have b1:i*M.sz T+j<(len+n)*M.sz T:=by have:(i+1)*M.sz T<=(len+n)*M.sz T:=Qx _ hi;rw[Xj]at this;omega
    have ar:f<=i->g'.cA (b.add (i*M.sz T+j))=A (.dW (.r d 0)):=by intro bn;have:f*M.sz T<=i*M.sz T:=Qx _ bn;simp only[g',Gh.fu];rw[Q5 ⟨_,O,O,rfl⟩]
    rw[X8]at hy;split at hy
    .rename_i bu;obtain⟨u,h7,h8,h9,a4⟩:=s.lT i y hy j c L;refine⟨u,?_,h8.mono ae.m,h9,ar⟩;have br:i*M.sz T+j<len*M.sz T:=by have:(i+1)*M.sz T<=len*M.sz T:=Qx _ O;rw[Xj]at this;omega
     rw[h4 _ λj' bx e=>by have:=rY e;omega];exact h7
    .rename_i bg;rw[hl]at hy bg;obtain⟨u,h7,h8⟩:=be _ y hy j c L;have e1:len*M.sz T<=i*M.sz T:=Qx _ O;have h9:=h3 _ _ h7;rw[show len*M.sz T+((i-len)*M.sz T+j)=i*M.sz T+j by rw[KW];omega]at h9;exact⟨u,h9,h8.mono ae.m,λb6=>by have:=s.hf;omega,ar⟩
   .intro j a1 a2;dsimp only at a1 a2;simp only[g',Gh.fu];rw[Q5 ⟨j,O,a2,rfl⟩]
  .obtain⟨h7,h8⟩:=h.ls t x hx;have hd:Zv E (Yq d T (l++l') f kl) t=I:=by simp only[Zv,Yq,h7,hkt,XO]
   exact⟨hd,h8.bN ae hd bc λc ht=>ah c (aj c (.inl ⟨_,ht,λu hu e=>by cases e;exact a5 _ hd _ hu rfl⟩))⟩
 .intro t h0 h7 h8;obtain⟨h9,a4,bl⟩:=SQ h7 h8;simp only[g',Gh.fu];rw[Q0 h9];exact h.fresh t h0 a4 bl
theorem ZGU(h:cT M B E g a w){T d kl}(al:E.ls (.r d 0)=aT)(aa:E.aZ (.r d 0)=I)(ao:kl.contains (.r d 0)=I):gE M B E g (Yq d T [] 0 kl) (.slice aT 0 0) w (g.cZ (.r d 0) (.slice aT 0 0,M.sz T)):=by
 have s:=h.fresh (.r d 0) rfl al aa;have ah:Zv E (Yq d T [] 0 kl) (.r d 0)=I:=by simp only[Zv,Yq,aa,ao,XO]
 have aq:db g g E.aZ (Zv E (Yq d T [] 0 kl)) (λnm=>(E.mem nm).isSome) (YY E (Yq d T [] 0 kl)):=⟨λ_ _ h=>h,λ_ _ _ h=>h,λt ht=>by simp only[Zv,QJ]at ht;exact ht.1,λnm hn=>⟨hn,rfl⟩,λ_ _ _ h=>h,λ_=>rfl⟩;have hk:=aq.cZ (t:=.r d 0) (v:=(.slice aT 0 0,M.sz T)) s;refine⟨h.cN,h.fr.cZ,hk,?_,⟨.mref _ _ ⟨rfl,rfl⟩,λ_=>⟨M.sz T,by simp[Gh.cZ]⟩⟩,?_,?_⟩;.intro nm cs hm j c hj;obtain⟨v,h7,h8,h9⟩:=h.mem nm cs hm j c hj;exact⟨v,h7,h8,h9.bN hk⟩
 .intro t x hx;rcases Uj hx with⟨rfl,rfl⟩|⟨hne,hx,hkt⟩;.exact⟨ah,.inl ⟨by simp[Gh.cZ],rfl,rfl⟩⟩
  .obtain⟨h7,h8⟩:=h.ls t x hx;have hd:Zv E (Yq d T [] 0 kl) t=I:=by simp only[Zv,Yq,h7,hkt,XO]
   exact⟨hd,h8.bN hk hd (λc v hv=>(h.cN.im c v hv).1) λ_ _=>rfl⟩
 .intro t h0 h7 h8;obtain⟨h9,af,am⟩:=SQ h7 h8;simp only[Gh.cZ];rw[Q0 h9];exact h.fresh t h0 af am
theorem ZBo(h:cT M B E g a w){T x l f u v}(hx:cH M g E.aZ v x)(he:zh M E T x=A (l,f,u)):∃b len aa,v=.slice b len aa/\J l=len/\len<=aa/\(b=aT->len=0/\aa=0/\f=0)/\∀b',b=A b'->xV M g w T l f u.toList b' len aa:=by
 have af:(∀t,x≠.mref t)->(match tZ M T x with
   |some (l,.cU)=>A (l,J l,aT)|some (l,.bF t)=>if E.aZ t then aT else A (l,J l,A t)|_=>aT)=A (l,f,u)->∃b len aa,v=.slice b len aa/\J l=len/\len<=aa/\(b=aT->len=0/\aa=0/\f=0)/\∀b',b=A b'->xV M g w T l f u.toList b' len aa:=by intro _ he;cases hs:tZ M T x with|none=>grind|some p=>
   obtain⟨l0,tl⟩:=p;rw[hs]at he;obtain⟨ah,b,len,aa,rfl,hl,L,hb⟩:=Dz hx hs;have aq:∀b',b=A b'->∀i y,l0[i]?=A y->∀j c,(M.enc T y)[j]?=A c->∃u,w.cell? (b'.add (i*M.sz T+j))=A u/\b_ M g.m u c/\g.m (b'.add (i*M.sz T+j))=A u:=by rintro b' rfl i y hy j c L;obtain⟨u,h1,h2⟩:=ah.1.lT i y hy j c L;exact⟨u,(h.cN.im _ _ h1).1,h2,h1⟩
   cases tl with
   |bA=>cases he|cU=>
    simp only[oP]at he;obtain⟨rfl,rfl,rfl⟩:=he;refine⟨b,len,aa,rfl,hl,L,λe=>⟨(hb e).1,(hb e).2,by grind⟩,λb' e=>⟨hl,L,O,λi y hy j c ao=>?_,λj a1 a2=>?_⟩⟩;.grind
    .have:=ah.2 _ _ _ rfl;grind|bF t=>
    simp only at he;split at he;.cases he
    .rename_i hd;simp only[oP]at he;obtain⟨rfl,rfl,rfl⟩:=he;refine⟨b,len,aa,rfl,hl,L,λe=>⟨(hb e).1,(hb e).2,by grind⟩,λb' e=>⟨hl,L,O,λi y hy j c ao=>?_,λj a1 a2=>?_⟩⟩;.grind
     .subst e;exact⟨t,rfl,ah.2 (by simpa using hd) b' len aa rfl j a1 a2⟩
 cases x with
 |mref t=>
  simp only[zh]at he;split at he
  .rename_i y hy;split at he
   .rename_i hT _;subst hT;simp only[oP]at he;obtain⟨rfl,rfl,rfl⟩:=he;obtain⟨hd,hL⟩:=h.ls t y hy;obtain⟨s,hs⟩:=hx.2 hd;rcases hL with⟨h4,h5,h6⟩|⟨b,len,aa,h4,h5,h6,h7,h8,h9⟩;.grind
    .rw[hs]at h4;cases h4;refine⟨A b,len,aa,rfl,h5,h6,λe=>(by cases e),λb' e=>?_⟩;cases e;refine⟨h5,h6,h7,λi y hy j c L=>?_,λj a1 a2=>⟨t,rfl,h9 j a1 a2⟩⟩;grind
   .cases he
  .cases he|_=>exact af (λt e=>by cases e) he
theorem ZlW(ok:bS P M)(h:cT M B E g a w){o d t x y px py ps e}(ho:o.op=.call {callee:=.builtin .append,args:=#[px,py],argTypes:=#[t,t]})(hx:cH M g E.aZ (a.eval px) x)(hy:cH M g E.aZ (a.eval py) y)(he:Ad M E d t x y=A (ps,e))(bq:eU ps):fJ P o a w λv w'=>∃g',gE M B E g e v w' g':=by
 unfold Ad at he;split at he;.cases he
 rename_i T hT;split at he;case h_2=>cases he
 rename_i l f u l' cu bw bt;split at he;case isFalse=>cases he
 rename_i bd;simp only[Q9,Xl,Xs]at bd;obtain⟨⟨aw,az⟩,a2⟩:=bd;simp only[oP]at he;obtain⟨rfl,rfl⟩:=he;obtain⟨hE,hU⟩:=pC ok hT;obtain⟨b,len,cap,bu,hl,L,hb,ab⟩:=ZBo h hx bw;obtain⟨bh,b',n,aj,a9,ae,ck,bv⟩:=Dz hy bt;rw[a9]at bh;have b0:P.underlying t=A (.slice (M.dQ T)):=by rw[hE]at hU;exact hU
 obtain⟨i,ag,zs,z,hi,au,cn,hz,bg,cv⟩:=ok.el T;have ai:( J l+J l')*M.bytes T<=140737488355328:=bq.1;rw[hl,ae]at ai;have bn:=ok.gU T;have ca:len+n<=140737488355328:=QS (Nat.le_mul_of_pos_right _ bn) ai;have bb:∃vs:List Value,J vs=n*M.sz T/\(∀v∈vs,v.oneCell'=Y)/\(∀w:World,(∀c v,g.m c=A v->w.cell? c=A v)->(Builtin.firstCells i.size n (.slice b' n aj)).run P w=.ok vs.toArray w)/\∀(k:Nat)x,l'[k]?=A x->∀(j:Nat)c,(M.enc T x)[j]?=A c->∃v,vs[k*M.sz T+j]?=A v/\b_ M g.m v c:=by cases b' with
  |none=>
   obtain⟨rfl,rfl⟩:=bv rfl;have ah:l'=[]:=Q7 ae;subst ah;exact⟨[],by simp,by simp,λw _=>run_firstCells_none w _ _ _ _,λk x hx=>by simp at hx⟩|some a'=>
   obtain⟨vs,h1,h2,h3⟩:=Lj ok bh.1;refine⟨vs,h1,λv hv=>?_,λw hw=>?_,h3⟩;.obtain⟨j,hj,rfl⟩:=XX hv;exact(h2 j _ (Q8 hj)).2
   .exact run_firstCells_some w i.size n a' n aj vs (by grind) λj v hv=>hw _ _ (h2 j v hv).1
 obtain⟨vs,ba,bx,aa,a8⟩:=bb;have ay:∀c v,g.m c=A v->w.cell? c=A v:=λc v hv=>(h.cN.im c v hv).1;have s:(execOp a.eval o).run P w=((Builtin.append_ #[t,t] o.type #[.slice b len cap,.slice b' n aj]).run P w).andThen λv w=>.ok (.value v) w:=by simp only[execOp,ho,resolve,Sem.run_bind,Sem.run_pure,Result.andThen_ok,invoke,builtin];simp[bu,a9]
 have av:∀w,(underlying t).run P w=.ok (.slice (M.dQ T)) w:=λw=>run_underlying b0 w;have be:({val:=A (.c (.mref (.r d 0))),du:=u.toList,ls:=[(.r d 0,⟨T,l++l',f⟩)]}:d_ U)=Yq d T (l++l') f u.toList:=rfl;rw[be];by_cases hfit:len+n<=cap;.cases b with
  |none=>
   obtain⟨rfl,rfl,rfl⟩:=hb rfl;have bo:n=0:=O;subst bo;have ah:l=[]:=Q7 hl;have bj:l'=[]:=Q7 ae;subst ah bj;have bk:vs=[]:=Q7 O;subst bk;refine .inl ⟨.slice aT 0 0,w,?_,_,ZGU h aw az a2⟩;rw[s];simp[Builtin.append_,av,sizeOf,typeInfo,hi,Builtin.lenOf,aa w ay]|some b=>obtain⟨w',g',h1,h2⟩:=ZlQ (P:=P) (d:=d) ok h (ab b rfl) hfit ae ba bx a8 aw az a2;refine .inl ⟨_,w',?_,g',h2⟩;rw[s];rw[<-au]at h1;simp[Builtin.append_,av,sizeOf,typeInfo,hi,Builtin.lenOf,aa w ay,hfit,h1]
 .have ax:cap<len+n:=O;have b5:0<n:=O;have cf:¬((len+n:Nat):Int)>9223372036854775807:=O;have b7:Builtin.nextslicecap (len+n) cap*i.bytes<=281474976710656:=growslice_fits ax (by grind);have a1:=ZhG w (len+n) cap (M.dQ T);have a7:∃us:List Value,J us=len*M.sz T/\(∀w':World,(∀c v,w.cell? c=A v->w'.cell? c=A v)->(Builtin.firstCells i.size len (.slice b len cap)).run P w'=.ok us.toArray w')/\∀(k:Nat)x,l[k]?=A x->∀(j:Nat)c,(M.enc T x)[j]?=A c->∃v,us[k*M.sz T+j]?=A v/\b_ M g.m v c:=by cases b with
   |none=>obtain⟨rfl,rfl,rfl⟩:=hb rfl;have ah:l=[]:=Q7 hl;subst ah;exact⟨[],by simp,λw _=>run_firstCells_none w _ _ _ _,λk x hx=>by simp at hx⟩|some b=>obtain⟨us,h1,h2,h3⟩:=(ab b rfl).V ok;exact⟨us,h1,λw' hw=>run_firstCells_some w' i.size len b len cap us (by rw[au];exact h1) λj v hv=>hw _ _ (h2 j v hv),h3⟩
  obtain⟨us,ar,a4,bl⟩:=a7;have bp:z.cells.size=M.sz T:=by
   obtain⟨z',bf,hZ⟩:=AG ok bg w;have:z'=z:=by simp[zeroValue,typeInfo,hi,hz]at bf;exact bf.symm
   subst this;have:=(yG (g:=g) (E:=E) (M:=M) hZ).1;simp at this;omega
  let nc:=grownCap w (len+n) cap (M.dQ T);let arr:Array Value:=us.toArray++vs.toArray++Builtin.zeroCells z.cells (nc-(len+n));have ch:len+n<=nc:=a1;have bc:arr.size=nc*M.sz T:=by
   have e1:(len+n)*M.sz T+(nc-(len+n))*M.sz T=nc*M.sz T:=by rw[<-Xj];congr 1;omega
   rw[Xj]at e1;simp[arr,Builtin.zeroCells,ar,ba,bp];omega
  have bz:f<=J (l++l'):=by rw[Qi];cases b with|none=>grind|some b=>have:=(ab b rfl).hf;omega
  have bm:=P4 (m:=g.m) (vs:=us) (vs':=vs) (by rw[ar,hl]) (ok.cL T) bl a8;obtain⟨g',aq⟩:=Zla (T:=T) (l:=l++l') (arr:=arr) (d:=d) (kl:=u.toList) (f:=f) h (cV.drew w) (M.dQ T) (cap:=nc) (by grind) bz bc (ok.cL T) aw az a2 λk x hx j c L=>by grind
  rw[show J (l++l')=len+n by simp[hl,ae]]at aq;refine .inl ⟨_,_,?_,g',aq⟩;have b1:∀c v,g.m c=A v->w.drew.cell? c=A v:=λc v hv=>ay c v hv;have b4:∀c v,w.cell? c=A v->w.drew.cell? c=A v:=λ_ _ hv=>hv;rw[s];have b8:¬Builtin.nextslicecap (len+n) cap*i.bytes>2^48:=O;have co:¬i.bytes=0:=O;have b2:¬(9223372036854775807:Int)<(len:Int)+(n:Int):=O;simp[Builtin.append_,av,sizeOf,typeInfo,zeroValue,hi,hz,Builtin.lenOf,hfit,b2,b8,Question.forced,a4 w.drew b4,aa w.drew b1,newRow];refine⟨rfl,?_⟩;simp only[arr,nc,grownCap,Array.append_assoc]
theorem Zfl(ok:bS P M)(h:cT M B E g a w){o t n s T ps l d}(ao:E.ls (.r d 0)=aT)(am:E.aZ (.r d 0)=I)(ho:o.op=.buildSlice t n s)(hT:M.iO t=A T)(hl:s.size=J ps)(hn:J ps=n)(ak:n*M.sz T<=16777216)(hr:∀(j:Nat)x y,s[j]?=A x->ps[j]?=A y->x.1=y.1/\cB M g E.aZ (λnm=>(E.mem nm).isSome) (a.eval x.2) y.2)(he:uj M T 0 ps=A l):fJ P o a w λv w'=>∃g',gE M B E g {val:=A (.c (.mref (.r d 0))),ls:=[(.r d 0,⟨T,l,0⟩)]} v w' g':=by
 obtain⟨hE,hU⟩:=pC ok hT;obtain⟨i,ag,zs,z,h1,h2,h3,h4,h5,h6⟩:=ok.el T;obtain⟨z',hz,hZ⟩:=AG ok h5 w;have aq:z'=z:=by simp[zeroValue,typeInfo,h1,h4]at hz;exact hz.symm
 subst aq;have aw:z'.cells.size=M.sz T:=by have:=(yG (g:=g) (E:=E) (M:=M) hZ).1;simp at this;omega
 let vs0:Array Value:=if n*M.sz T=0 then(Array.range (n*M.sz T)).map ((#[]:Array Value)[· %0]!)else(Array.range (n*M.sz T)).map (z'.cells[· %z'.cells.size]!);have af:vs0.size=n*M.sz T:=by simp only[vs0];split<;>simp
 obtain⟨ay,vs',h7,h8,_,h9⟩:=S0 (g:=g) (E:=E) ok (s.toList.map λx=>(x.1,a.eval x.2)) ps 0 l vs0 he (by simpa using hl) (by grind) (by grind);have ai:J l=n:=O;obtain⟨g',aa⟩:=Zla (T:=T) (l:=l) (arr:=vs') (d:=d) (f:=0) (kl:=[]) h (cV.refl w) (P.elem t) (cap:=n) O (X3 _) (by rw[h8,af]) (ok.cL T) ao am rfl λi x hx j c L=>by grind
 rw[ai]at aa;refine .inl ⟨_,_,?_,g',aa⟩;have ah:=wR ok T w;rw[<-hE]at ah hz;simp only[execOp,ho];apply EZ;simp only[Instr.buildSlice,Sem.run_bind,run_underlying hU,Result.andThen_ok,ah];rw[Q0 O];by_cases h0:n*M.sz T=0
 .simp only[h0,Xa];simp only[vs0,h0,Xa]at h7;have ab:Instr.fill (λi=>A (i*M.sz T,M.sz T)) ((Array.range 0).map ((#[]:Array Value)[· %(#[]:Array Value).size]!)) (s.map λx=>(x.1,a.eval x.2)).toList=A vs':=by rw[K8];exact h7
  simp only[Sem.run_bind,Sem.run_pure,Result.andThen_ok,ab];try rfl
 .simp only[h0,Ku];simp only[vs0,h0,Ku]at h7;have ab:Instr.fill (λi=>A (i*M.sz T,M.sz T)) ((Array.range (n*M.sz T)).map (z'.cells[· %z'.cells.size]!)) (s.map λx=>(x.1,a.eval x.2)).toList=A vs':=by rw[K8];exact h7
  simp only[Sem.run_bind,Sem.run_pure,Result.andThen_ok,hz,ab];try rfl
theorem ZnU(ok:bS P M)(h:cT M B E g a w){o t p x ag zs new u y n off v e}(ho:o.op=.store t p x)(ht:M.var t=A (ag,zs))(hp:cB M g E.aZ (λnm=>(E.mem nm).isSome) (a.eval p) (.mp u n off))(hv:cB M g E.aZ (λnm=>(E.mem nm).isSome) (a.eval x) v)(a2:v.cells=A new)(hy:E.ls u=A y)(hl:J new=J zs)(hf:y.f<=n)(ao:(JK (M.enc y.T (aR y.l n (M.eg y.T))) off new).bind (M.jz y.T)=A e):fJ P o a w λv w'=>∃g',gE M B E g {ls:=[(u,⟨y.T,y.l.set n e,y.f⟩)]} v w' g':=by
 obtain⟨b,len,bj,bm,bo,hn,a1,a9,bk,ah,aq⟩:=Oj h hy hp;obtain⟨bd,_⟩:=h.ls u y hy;obtain⟨hs,_,_⟩:=D0 ok ht w;have ae:=hv.cells a2;cases hsc:JK (M.enc y.T (aR y.l n (M.eg y.T))) off new with
 |none=>grind|some cs'=>
 rw[hsc]at ao;have a8:M.jz y.T cs'=A e:=ao;obtain⟨bf,be⟩:=ok.jb _ _ _ a8;have bp:y.l[n]?=A (aR y.l n (M.eg y.T)):=by simp[List.getD,Q8 hn]
 have bw:=ok.cL y.T (aR y.l n (M.eg y.T));have b8:off+J new<=M.sz y.T:=by
  unfold JK at hsc;split at hsc;.omega
  .cases hsc
 have bc:(a.eval x).cells.toList.length=J new:=ae.1;have af:∀j,j<M.sz y.T->∃u' c,(M.enc y.T (aR y.l n (M.eg y.T)))[j]?=A c/\w.cell? (b.add (n*M.sz y.T+j))=A u'/\b_ M g.m u' c/\g.cA (b.add (n*M.sz y.T+j))=A (.dW u):=by intro j hj;have hg:(M.enc y.T (aR y.l n (M.eg y.T)))[j]?=A ((M.enc y.T (aR y.l n (M.eg y.T)))[j]'O):=Q8 _;obtain⟨u',h1,h2,_,h4⟩:=ah n _ bp j _ hg;exact⟨u',_,hg,h1,h2,h4 hf⟩
 obtain⟨w',h1,h2,h3,h4,h5,h6⟩:=BT (P:=P) (b.add (n*M.sz y.T+off)) (a.eval x).cells.toList 0 w ae.cE (by
  intro j hj;rw[Go.Deep.add_add,Xh];obtain⟨u',_,_,hu,_,ab⟩:=af (off+j) O;rw[show n*M.sz y.T+(off+j)=n*M.sz y.T+off+j by omega]at hu ab;exact⟨⟨u',hu⟩,(h.cN.it _ _ ab).1⟩);simp only[Xh,Go.Deep.add_add]at h2 h3 h4;refine .inr (.inl ⟨w',?_,g,?_⟩)
 .have br:(a.eval x).cells.size=J zs:=by simpa using bc.trans hl
  simp only[execOp,ho,bo];simp[Instr.storeAt,Instr.sureAddr,storeVar,hs,br,h1]
 .have ai:∀c,(∃j,j<(a.eval x).cells.toList.length/\c=b.add (n*M.sz y.T+off+j))->g.cA c=A (.dW u):=by rintro c⟨j,hj,rfl⟩;obtain⟨_,_,_,_,_,ab⟩:=af (off+j) O;rw[show n*M.sz y.T+(off+j)=n*M.sz y.T+off+j by omega]at ab;exact ab
  have aj:∀c,g.cA c≠A (.dW u)->w'.cell? c=w.cell? c:=λc L=>h4 c λj hj e=>L (ai c ⟨j,hj,e⟩);have a5:∀c v,g.m c=A v->w'.cell? c=A v:=λc v hv=>by obtain⟨h7,h8⟩:=h.cN.im c v hv;grind
  have al:Zv E ({ls:=[(u,⟨y.T,y.l.set n e,y.f⟩)]}:d_ U)=E.aZ:=by funext t;simp[Zv]
  have au:db g g E.aZ (Zv E ({ls:=[(u,⟨y.T,y.l.set n e,y.f⟩)]}:d_ U)) (λnm=>(E.mem nm).isSome) (YY E ({ls:=[(u,⟨y.T,y.l.set n e,y.f⟩)]}:d_ U)):=by rw[al];exact .refl _ _ _
  refine⟨⟨λc v hv=>⟨a5 c v hv,(h.cN.im c v hv).2⟩,λc t a6=>?_⟩,?_,au,?_,trivial,?_,?_⟩;.obtain⟨h7,u',h8⟩:=h.cN.it c t a6;grind
  .exact h.fr.step h.cN h2 (λc L=>⟨_,ai c L,λt' e=>by cases e⟩) (λ_ _ h=>h) (λ_ _=>QH) (λ_ _ _ _ _=>rfl) λ_=>rfl
  .rw[al];intro nm bn hm j c hj;obtain⟨v0,b4,ab,ca⟩:=h.mem nm bn hm j c hj;grind
  .intro t z hz;rw[al];unfold gI at hz;simp only[K4,Xi,ZU]at hz;split at hz
   .rename_i et;subst et;cases hz;refine⟨bd,.inr ⟨b,len,bj,bm,by simp[a1],a9,bk,?_,aq⟩⟩;intro i q hq j c L;simp only at hq L⊢;have hj:j<M.sz y.T:=by have:=(Qc.1 L).1;rw[ok.cL]at this;exact this
    by_cases hin:i=n
    .subst hin;rw[KK]at hq;simp only[Xa,hn]at hq;cases hq;obtain⟨u',c0,g1,g2,g3,g4⟩:=af j hj;have b0:J cs'=M.sz y.T:=by rw[bf];exact ok.cL _ _
     have a7:cs'[j]?=A (cs'[j]'O):=Q8 _;have ay:=be j _ c a7 L;have s:cs'[j]?=if off<=j/\j<off+J new then new[j-off]? else(M.enc y.T (aR y.l i (M.eg y.T)))[j]?:=by
      unfold JK at hsc;rw[Q5 O]at hsc;simp only[Option.some.injEq]at hsc;rw[<-hsc,Qg,X8];simp only[QB];rw[XY O];split;.grind
      .rename_i h7;rw[X8];split;.rename_i h8;grind
       .rename_i h8;rw[Q0 O,QY];congr 1;omega
     rw[a7]at s;split at s;.rename_i hr;have az:(a.eval x).cells.toList[j-off]?=A ((a.eval x).cells.toList[j-off]'O):=Q8 _;have h7:=h3 (j-off) _ az;rw[show i*M.sz y.T+off+(j-off)=i*M.sz y.T+j by omega]at h7;exact⟨_,h7,(ae.2 _ _ _ az s.symm).1.wk ay,λhi=>by omega,λ_=>g4⟩
     .rename_i hr;rw[g1]at s;cases s;refine⟨u',?_,g3.wk ay,λhi=>by omega,λ_=>g4⟩;rw[h4 _ λj' bi e=>by have:=rY e;omega];exact g2
    .rw[List.getElem?_set_ne (Ne.symm hin)]at hq;obtain⟨u',g1,g2,g3,g4⟩:=ah i q hq j c L;refine⟨u',?_,g2,g3,g4⟩;rw[h4 _ λj' bi e=>by
      have:=rY e;rcases K5 i n with hlt|hge;.have:(i+1)*M.sz y.T<=n*M.sz y.T:=Qx _ hlt;grind
      .have:(n+1)*M.sz y.T<=i*M.sz y.T:=Qx _ O;grind];exact g1
   .rename_i b3;obtain⟨h7,h8⟩:=h.ls t z hz;exact⟨h7,h8.bN (.refl g E.aZ λ_=>Y) h7 a5 λc a6=>aj c (by grind)⟩
  .rw[al];intro t h0 h7 h8;unfold gI at h7;simp only[K4,Xi,ZU]at h7;split at h7;.cases h7
   .exact h.fresh t h0 h7 h8
end Go.AM
namespace Go.AM
variable{U:gP}{P:Program}{M:cW U}{B:fN}{E:bY U}{g:Gh}{a:Act}{w:World}
def Ym:bL->Bool:=λ_=>I
def tW(aC:List (List (C U))):Name->Bool|.x k=>(aC[k]?).isSome|.bE _=>I
structure ib(M:cW U)(w:World)(g:Gh)(vs:List Value)(args:List (aA U))(aC:List (List (C U)))(aB:List (bL×LC U)):Prop where
 cN:oy g.m g.cA w
 Da:∀a t,g.cA a=some t->(∃t',t=.cG t')\/(∃k,t=.dU (.x k))\/∃u,t=.dW u
 len:vs.length=args.length
 args:∀(j:Nat)v x,vs[j]?=some v->args[j]?=some x->cB M g Ym (tW aC) v x
 x:∀(k:Nat)cs,aC[k]?=some cs->∀(j:Nat)c,cs[j]?=some c->∃v,w.cell? ((g.ad (.x k)).add j)=some v/\g.cA ((g.ad (.x k)).add j)=some (.dU (.x k))/\cH M g Ym v c
 bs:∀t,t.uD=true->g.bs t=none
 ls:∀t x,ZU (λ_=>none) aB t=some x->gB M w g t x
structure vj(M:cW U)(w:World)(g:Gh)(w':World)(g':Gh)(v:Value)(r:aA U)(aC:List (List (C U)))(aB:List (bL×LC U)):Prop where
 cN:oy g'.m g'.cA w'
 fr:Fr ⟨w,g.m,g.cA,λk=>g'.ad (.x k)⟩ g' w'
 Da:∀a t,g'.cA a=some t->(∃t',t=.cG t')\/(∃k,k<aC.length/\t=.dU (.x k))\/∃u,t=.dW u
 ad:∀k,r≠.ptr (.x k) 0->g'.ad (.x k)=g.ad (.x k)val:cB M g' Ym (λ_=>false) v r
 x:∀(k:Nat)cs,aC[k]?=some cs->∀(j:Nat)c,cs[j]?=some c->∃v,w'.cell? ((g'.ad (.x k)).add j)=some v/\g'.cA ((g'.ad (.x k)).add j)=some (.dU (.x k))/\cH M g' Ym v c
 ls:∀t x,ZU (λ_=>none) aB t=some x->gB M w' g' t x
def aU(P:Program)(M:cW U)(f:FuncId)(s:Fs U):Prop:=(∃fn,P.funcs[f]?=A fn∧fn.body.isSome=Y∧(fn.name== "runtime.NumGoroutine")=I)∧∀args aC aB ps r X' L',s.m_ args aC aB=A (ps,r,X',L')->eU ps->X'.length<=J aC+1->∀w g vs,ib M w g vs args aC aB->Calls P f vs.toArray w λe w'=>∃v g',e=.returned v/\vj M w g w' g' v r X' L'
def ZHO(P:Program)(M:cW U)(f:FuncId)(s:Fs U):Prop:=∀args aC ps r X',s.fn args aC=A (ps,r,X')->eU ps->X'.length<=J aC+1->∀w g vs,ib M w g vs args aC []->Calls P f vs.toArray w λe w'=>∃v g',e=.returned v/\vj M w g w' g' v r X' []
theorem tn{f}{s}(h0:∃fn,P.funcs[f]?=A fn∧fn.body.isSome=Y∧(fn.name== "runtime.NumGoroutine")=I)(hd:s.m_=wL s.fn)(h:ZHO P M f s):aU P M f s:=by
 refine⟨h0,λargs aC aB ps r X' L' hs=>?_⟩;rw[hd]at hs;unfold wL at hs;split at hs
 .split at hs;.rename_i h1;cases hs;exact h args aC _ _ _ h1
  .cases hs
 .cases hs
theorem aU.cE{f s}(h:aU P M f s)(hd:s.m_=wL s.fn):ZHO P M f s:=by intro args aC ps r X' hs;exact h.2 args aC [] ps r X' [] (by rw[hd];simp only[wL,hs])
theorem b_.tl{m v T l tl}(tl')(h:b_ M m v (.slice T l tl)):b_ M m v (.slice T l tl'):=by cases h with|fa=>exact .fa T tl'|slice _ _ _ b len cap vs hl L hm hs=>exact .slice T l tl' b len cap vs hl L hm hs
def gv(s s':List (bL×bL)):Prop:=(∀t h,JN s t=A h->JN s' t=A h)/\∀t h,nN s t=A h->nN s' t=A h
theorem gv.refl(s):gv s s:=⟨λ_ _ h=>h,λ_ _ h=>h⟩
theorem gv.trans{a b c}(h:gv a b)(k:gv b c):gv a c:=⟨λt t' s=>k.1 _ _ (h.1 _ _ s),λt t' s=>k.2 _ _ (h.2 _ _ s)⟩
theorem gv.cons{seen t nm}(h1:JN seen t=aT)(h2:nN seen nm=aT):gv seen ((t,nm)::seen):=by
 refine⟨λu s h=>?_,λu s h=>?_⟩;.simp only[JN];grind
 .simp only[nN];grind
theorem ZkF:∀{s:List (bL×bL)}{t t'},JN s t=A t'->(s.map (·.1)).contains t=Y
 |(x,y)::r,t,t',h=>by
  simp only[JN]at h;split at h;.grind
  .have:=ZkF h;grind
def zV(g:Gh)(s:List (bL×bL))(t:bL):Option (Value×Nat):=match nN s t with|none=>aT|some u=>g.bs u
def Gh.callee(g:Gh)(nx:Name->Option Nat)(s:List (bL×bL))(ax:Nat->Addr):Gh:=
 {m:=g.m
  cA:=λc=>match g.cA c with
   |some (.dU nm)=>match nx nm with
    |some k=>A (.dU (.x k))|none=>A (.cG (.dU nm))
   |some (.dW t)=>match JN s t with
    |some t'=>A (.dW t')|none=>A (.cG (.dW t))
   |some (.cG t)=>A (.cG (.cG t))|none=>aT
  ad:=λnm=>match nm with|.x k=>ax k|.bE s=>g.ad (.bE s)
  bs:=λt=>if t.uD=Y then aT else zV g s t}
theorem zJ{m:bL->Option (LC U)}{s:List (bL×bL)}:∀(l:List bL){t}{x:LC U},ZU (λ_=>aT) (mO m s l) t=A x->∃u,nN s t=A u/\JN s u=A t/\m u=A x/\t.uD=I
 |[],t,x,h=>by trivial|t0::l,t,x,h=>by
  simp only[mO]at h;split at h
  .rename_i u hu;split at h
   .rename_i t' y h1 h2;split at h
    .rename_i L;obtain⟨aa,ab⟩:=L;subst aa;simp only[ZU]at h;split at h;.grind
     .exact zJ l h
    .exact zJ l h
   .exact zJ l h
  .exact zJ l h
section qO
variable{nx:Name->Option Nat}{ax:Nat->Addr}
structure Ren(ok:bL->Bool)(g:Gh)(s:List (bL×bL))(g2:Gh):Prop where
 m:g2.m=g.m
 dW:∀c t t',g.cA c=some (.dW t)->JN s t=some t'->g2.cA c=some (.dW t')bs:∀t t' v,ok t=true->nN s t=some t'->g.bs t'=some v->g2.bs t=some v
def ke(t:bL):Bool:=!t.uD
theorem Gh.jN(s):Ren ke g s (g.callee nx s ax):=⟨rfl,λc t t' h h2=>by simp only[Gh.callee,h,h2],λt t' v h h2 h3=>by simp only[ke,Xs]at h;simp only[Gh.callee,h,zV,h2];exact h3⟩
theorem Zlp{s c t}:(g.callee nx s ax).cA c=A (.cG t)↔g.cA c=A t/\(∀nm,t=.dU nm->nx nm=aT)/\∀u,t=.dW u->JN s u=aT:=by
 simp only[Gh.callee];cases hgt:g.cA c with
 |none=>simp|some t0=>cases t0 with
  |dU nm=>cases hn:nx nm with
   |none=>
    simp only[hn];constructor;.intro h;cases h;exact⟨rfl,λab e=>by cases e;exact hn,λu e=>by cases e⟩
    .rintro⟨h1,_,_⟩;cases h1;rfl|some k=>
    simp only[hn];constructor;.intro h;cases h
    .rintro⟨h1,h2,_⟩;cases h1;rw[h2 nm rfl]at hn;cases hn
  |dW u=>cases hn:JN s u with
   |none=>
    simp only[hn];constructor;.intro h;cases h;exact⟨rfl,λab e=>by(cases e),λu' e=>by cases e;exact hn⟩
    .rintro⟨h1,_,_⟩;cases h1;rfl|some k=>
    simp only[hn];constructor;.intro h;cases h
    .rintro⟨h1,_,h2⟩;cases h1;rw[h2 u rfl]at hn;cases hn
  |cG t0=>
   simp only;constructor;.intro h;cases h;exact⟨rfl,λab e=>by(cases e),λu' e=>by(cases e)⟩
   .rintro⟨h1,_,_⟩;cases h1;rfl
theorem Oi{s c t}(h:(g.callee nx s ax).cA c=A t):∃t0,g.cA c=A t0:=by simp only[Gh.callee]at h;cases hgt:g.cA c with|none=>simp[hgt]at h|some t0=>exact⟨t0,rfl⟩
theorem OI{s c}(L:g.cA c=aT):(g.callee nx s ax).cA c=aT:=by simp only[Gh.callee,L]
theorem OC{okT mine nm c seen}(s:∀t,mine t=Y->E.aZ t=I)(ai:okT nm=Y):gv seen (mN mine nm c seen).2/\∀s',gv (mN mine nm c seen).2 s'->∀g2,Ren okT g s' g2->∀v,cH M g E.aZ v c->cH M g2 Ym v (mN mine nm c seen).1:=by
 unfold mN;split
 .rename_i T l t;split
  .rename_i L;simp only[Q9,Xl]at L;refine⟨gv.cons L.1.2 L.2,λs' hs g2 hg v h=>⟨by rw[hg.m];exact h.1.tl _,?_⟩⟩;intro _ b len ah hv j h1 h2;have h3:=h.2 (s t L.1.1) b len ah hv j h1 h2;have h4:JN s' t=A nm:=hs.1 t nm (by simp[JN]);exact hg.dW _ _ _ h3 h4
  .exact⟨.refl _,λs' _ g2 hg v h=>⟨by rw[hg.m];exact h.1.tl _,trivial⟩⟩
 .rename_i t;split
  .rename_i L;simp only[Q9,Xl]at L;refine⟨gv.cons L.1.2 L.2,λs' hs g2 hg v h=>⟨.mref _ _ h.1.cE,λ_=>?_⟩⟩;obtain⟨sz,h3⟩:=h.2 (s t L.1.1);have h4:nN s' nm=A t:=hs.2 nm t (by simp[nN]);exact⟨sz,hg.bs _ _ _ ai h4 h3⟩
  .exact⟨.refl _,λs' _ g2 hg v h=>⟨.jk _ h.1.cE,trivial⟩⟩
 .exact⟨.refl _,λs' _ g2 hg v h=>⟨.jk _ h.1.cE,trivial⟩⟩
 .rename_i aq am ao;refine⟨.refl _,λs' _ g2 hg v h=>⟨by rw[hg.m];exact h.1,?_⟩⟩;have h2:=h.2;cases c with
  |slice T l tl=>cases tl with|bA=>trivial|cU=>exact h2|bF t=>grind
  |mref t=>grind|xp k=>grind|_=>trivial
theorem Mh{okT mine nm}(h:∀t,mine t=Y->E.aZ t=I)(ae:∀j,okT (nm j)=Y):∀cs(j:Nat)seen,gv seen (iF mine nm j cs seen).2/\(iF mine nm j cs seen).1.length=J cs/\∀s',gv (iF mine nm j cs seen).2 s'->∀g2,Ren okT g s' g2->∀(i:Nat)v c c',cs[i]?=A c->(iF mine nm j cs seen).1[i]?=A c'->cH M g E.aZ v c->cH M g2 Ym v c'|[],j,seen=>⟨.refl _,rfl,λs' _ g2 _ i v c c' L=>by simp at L⟩|c::cs,j,seen=>by obtain⟨h1,h2⟩:=OC (M:=M) (g:=g) (okT:=okT) (nm:=nm j) (c:=c) (seen:=seen) h (ae j);obtain⟨h3,h4,h5⟩:=Mh (okT:=okT) (mine:=mine) (nm:=nm) h ae cs (j+1) (mN mine (nm j) c seen).2;refine⟨h1.trans h3,by simp[iF,h4],λs' hs g2 hg i v c0 c' L s hr=>?_⟩;cases i with|zero=>simp[iF]at L s;subst L s;exact h2 s' (h3.trans hs) g2 hg v hr|succ i=>simp[iF]at L s;exact h5 s' hs g2 hg i v c0 c' L s hr
theorem ZAh{mine nm c seen}(h:∀t,mine t=Y->E.aZ t=I)(aa:ke nm=Y):gv seen (mN mine nm c seen).2/\∀s,gv (mN mine nm c seen).2 s->∀v,cH M g E.aZ v c->cH M (g.callee nx s ax) Ym v (mN mine nm c seen).1:=let⟨h1,h2⟩:=OC (M:=M) (g:=g) (nm:=nm) (c:=c) (seen:=seen) h aa
 ⟨h1,λs hs v hr=>h2 s hs _ (Gh.jN s) v hr⟩
theorem Zsh{mine nm}(h:∀t,mine t=Y->E.aZ t=I)(aa:∀j,ke (nm j)=Y)(cs)(j)(seen):gv seen (iF mine nm j cs seen).2/\(iF mine nm j cs seen).1.length=J cs/\∀s,gv (iF mine nm j cs seen).2 s->∀(i:Nat)v c c',cs[i]?=A c->(iF mine nm j cs seen).1[i]?=A c'->cH M g E.aZ v c->cH M (g.callee nx s ax) Ym v c':=let⟨h1,h2,h3⟩:=Mh (M:=M) (g:=g) (mine:=mine) (nm:=nm) h aa cs j seen
 ⟨h1,h2,λs hs i v c c' L ab hr=>h3 s hs _ (Gh.jN s) i v c c' L ab hr⟩
theorem ZFt{mine nm live lx}(s:∀t,mine t=Y->E.aZ t=I)(ab:∀j,ke (nm j)=Y){x x' seen h}(he:Ua mine nm x seen=A (x',h)):gv seen h/\∀s',gv h s'->∀v,cB M g E.aZ live v x->cB M (g.callee nx s' ax) Ym lx v x':=by
 unfold Ua at he;split at he
 .rename_i c;simp only[oP]at he;obtain⟨rfl,rfl⟩:=he;obtain⟨h1,h2⟩:=ZAh (M:=M) (g:=g) (nx:=nx) (ax:=ax) (nm:=nm 0) (c:=c) (seen:=seen) s (ab 0);trivial
 .rename_i cs;simp only[oP]at he;obtain⟨rfl,rfl⟩:=he;obtain⟨h3,h4,h5⟩:=Zsh (M:=M) (g:=g) (nx:=nx) (ax:=ax) (mine:=mine) (nm:=nm) s ab cs 0 seen;refine⟨h3,λs' hs v hr=>?_⟩;obtain⟨vs,rfl,hl,hh⟩:=hr;refine⟨vs,rfl,O,λj u c hu L=>?_⟩;grind
 .rename_i f;simp only[oP]at he;obtain⟨rfl,rfl⟩:=he;exact⟨.refl _,λs' _ v hr=>hr⟩
 .cases he
def Ck(os:List (Name×List (C U))):Prop:=∀(i j:Nat)x y,os[i]?=A x->os[j]?=A y->x.1=y.1->i=j
theorem TZ:∀{os nm}{i:Nat}{x:Name×List (C U)},os[i]?=A x->x.1=nm->Ci os nm=Y|(b,cs)::os,nm,0,x,h,e=>by simp at h;subst h;simp[Ci];exact .inl e|(b,cs)::os,nm,i+1,x,h,e=>by simp at h;simp only[Ci,TZ h e];split<;>rfl
theorem Vn:∀{os:List (Name×List (C U))}{k nm i},jS os k nm=A i->∃x,k<=i/\os[i-k]?=A x/\x.1=nm
 |(b,cs)::os,k,nm,i,h=>by
  simp only[jS]at h;split at h;.simp_all
  .obtain⟨x,h1,h2,s⟩:=Vn h;grind
theorem UK:∀{os k nm i}{x:Name×List (C U)},Ck os->os[i]?=A x->x.1=nm->jS os k nm=A (k+i)|(b,cs)::os,k,nm,0,x,_,h,e=>by simp at h;subst h;simp[jS];grind|(b,cs)::os,k,nm,i+1,x,hap,h,e=>by simp only[jS];rw[Q0 λe'=>by have:=hap 0 (i+1) (b,cs) x rfl h (by simp[e',e]);omega];have:=UK (k:=k+1) (nm:=nm) λi j x y hx s he=>by have:=hap (i+1) (j+1) x y (by simpa using hx) (by simpa using s) he;omega (by simpa using h) e;grind
theorem Zhl{os:List (Name×List (C U))}{nm}(h:∀(i:Nat)x,os[i]?=A x->x.1≠nm)(k):jS os k nm=aT:=by cases hn:jS os k nm with|none=>rfl|some i=>obtain⟨x,_,h2,s⟩:=Vn hn;grind
theorem VG{ps:Nat->Bool}:∀(xs:List (aA U))i(os:List (Name×List (C U)))(seen:List (bL×bL))(ys:List (aA U))(ab:List (Name×List (C U)))(s:List (bL×bL)),JU E ps i xs os seen=A (ys,ab,s)->Ck os->gv seen s/\(∃aj,ab=os++aj)/\Ck ab/\J ys=J xs/\(∀(k:Nat)x,ab[k]?=A x->J os<=k->∃cs,E.mem x.1=A cs/\J x.2=J cs/\∀s',gv s s'->∀nx ax(i:Nat)v c c',cs[i]?=A c->x.2[i]?=A c'->cH M g E.aZ v c->cH M (g.callee nx s' ax) Ym v c')/\∀s',gv s s'->∀nx ax,(∀(k:Nat)x,ab[k]?=A x->ax k=g.ad x.1)->∀(j:Nat)v x y,xs[j]?=A x->ys[j]?=A y->cB M g E.aZ (λnm=>(E.mem nm).isSome) v x->cB M (g.callee nx s' ax) Ym (λnm=>match nm with|.x k=>(ab[k]?).isSome|.bE _=>I) v y
 |[],i,os,seen,ys,ab,s,h,hap=>by
  simp only[JU,oP]at h;obtain⟨rfl,rfl,rfl⟩:=h;exact⟨.refl _,⟨[],by simp⟩,hap,rfl,λk x hx hk=>by grind,λs' _ nx ax _ j v x y hx=>by simp at hx⟩|x0::xs,i,os,seen,ys,ab,s,h,hap=>by
  simp only[JU]at h;split at h
  .rename_i nm mk hp;split at h;.cases h
   .rename_i cs a2;split at h;.cases h
    .rename_i av;split at h
     .rename_i vs ar s1 ak;simp only[oP]at h;obtain⟨rfl,rfl,rfl⟩:=h;have ae:∀t,(λt=>!E.aZ t) t=Y->E.aZ t=I:=λt ht=>by simpa using ht
      have aw:Ck (os++[(nm,(iF (λt=>!E.aZ t) (.x (J os)) 0 cs seen).1)]):=by
       intro p q x y hx hy he;rw[X8]at hx hy;have af:∀(r:Nat)(z z0:Name×List (C U)),[z0][r]?=A z->r=0/\z=z0:=by
        intro r z z0 hz;cases r with
        |zero=>simp at hz;exact⟨rfl,hz.symm⟩|succ r=>simp at hz
       split at hx<;>split at hy;.exact hap p q x y hx hy he
       .obtain⟨_,rfl⟩:=af _ _ _ hy;exact absurd (TZ hx he) av
       .obtain⟨_,rfl⟩:=af _ _ _ hx;exact absurd (TZ hy he.symm) av
       .grind
      obtain⟨r1,⟨aj,r2⟩,r3,r4,r5,r6⟩:=VG xs (i+1) _ _ _ _ _ ak aw;have hC:=λnx ax=>Zsh (M:=M) (g:=g) (nx:=nx) (ax:=ax) (mine:=λt=>!E.aZ t) (nm:=.x (J os)) ae (λ_=>rfl) cs 0 seen;have am:ar[J os]?=A (nm,(iF (λt=>!E.aZ t) (.x (J os)) 0 cs seen).1):=by rw[r2,Qg,QK (Qa _)];simp
      refine⟨(hC (λ_=>aT) λ_=>⟨0,0,aT⟩).1.trans r1,⟨(nm,(iF (λt=>!E.aZ t) (.x (J os)) 0 cs seen).1)::aj,by rw[r2];simp⟩,r3,by simp[r4],?_,?_⟩
      .intro k x hx hk;by_cases e:k=J os
       .subst e;rw[am]at hx;cases hx;exact⟨cs,a2,(hC (λ_=>aT) λ_=>⟨0,0,aT⟩).2.1,λs' hs nx ax q v c c' h1 h2 h3=>(hC nx ax).2.2 s' (r1.trans hs) q v c c' h1 h2 h3⟩
       .exact r5 k x hx (by simp;omega)
      .intro s' hs nx ax al j v x y hx hy hr;cases j with
       |zero=>
        simp at hx hy;subst hx hy;have:=al _ _ am;simp only at this;cases x0<;>simp only[zt,reduceCtorEq]at hp;case ptr nm0 off0=>cases hp;obtain⟨_,rfl⟩:=hr;exact⟨by simp[am],by simp[Gh.callee,this]⟩
        case clo f0 nms0=>
         split at hp;.grind
         .rename_i f1 be a7;cases a7;cases hp;obtain⟨_,rfl⟩:=hr;refine⟨λn hn=>?_,by simp[Gh.callee,this]⟩;grind
         .cases hp|succ j=>exact r6 s' hs nx ax al j v x y (by simpa using hx) (by simpa using hy) hr
     .cases h
  .rename_i hp;split at h;.cases h
   .rename_i v' a8 hv;split at h
    .rename_i vs ar s1 ak;simp only[oP]at h;obtain⟨rfl,rfl,rfl⟩:=h;obtain⟨r1,r2,r3,r4,r5,r6⟩:=VG xs (i+1) _ _ _ _ _ ak hap;have ae:∀t,(λt=>ps i&&!E.aZ t) t=Y->E.aZ t=I:=λt ht=>by grind
     have hV:=λnx ax lx=>ZFt (M:=M) (g:=g) (nx:=nx) (ax:=ax) (live:=λnm=>(E.mem nm).isSome) (lx:=lx) ae (λ_=>rfl) hv;refine⟨(hV (λ_=>aT) (λ_=>⟨0,0,aT⟩) λ_=>Y).1.trans r1,r2,r3,by simp[r4],r5,?_⟩;intro s' hs nx ax al j v x y hx hy hr;cases j with|zero=>simp at hx hy;subst hx hy;exact(hV nx ax _).2 s' (r1.trans hs) v hr|succ j=>grind
    .cases h
end qO
def Gh.dS(g':Gh)(os:List (Name×List (C U)))(d:Nat)(ad:Name->Addr)(aB:List (bL×LC U))(bs:bL->Option (Value×Nat)):Gh:=
 {m:=g'.m
  cA:=λc=>match g'.cA c with
   |some (.cG t)=>A t|some (.dU (.x k))=>(os[k]?).map λx=>.dU x.1|some (.dW t)=>(YA d t).map .dW|_=>aT
  ad:=ad
  bs:=λt=>match bs t with
   |some v=>A v|none=>match yO d t with
    |some t'=>match ZU (λ_=>aT) aB t' with
     |some _=>g'.bs t'|none=>aT
    |none=>aT}
theorem FC{d t s}(h:YA d t=A s):yO d s=A t:=by
 unfold YA at h;split at h
 .rename_i j;cases h;simp only[yO,Xa];grind
 .rename_i k j;split at h;.rename_i hj;cases h;simp only[yO,Xa];grind
  .cases h
 .cases h
section dS
variable{g':Gh}{os:List (Name×List (C U))}{d:Nat}{ad:Name->Addr}{aB:List (bL×LC U)}{bs:bL->Option (Value×Nat)}{aZ:bL->Bool}{live lv:Name->Bool}{fx:Nat->Option Nat}
theorem cH.dS(ah:∀t t',kC d aB t=A t'->bs t'=aT)(hx:∀k k',fx k=A k'->g'.ad (.x k)=ad (.x k')){v c}(h:cH M g' Ym v c):cH M (g'.dS os d ad aB bs) aZ v (c.dC (YA d) (kC d aB) fx):=by obtain⟨s,h2⟩:=h;cases c with
 |slice T l tl=>cases tl with
  |bA=>trivial|cU=>trivial|bF t=>
   simp only[C.dC];cases hb:YA d t with
   |none=>exact⟨s.tl _,trivial⟩|some t'=>refine⟨s.tl _,λ_ b len ae hv j af aj=>?_⟩;have:=h2 rfl b len ae hv j af aj;simp only[Gh.dS,this,hb,Qv]
 |mref t=>simp only[C.dC];cases hb:kC d aB t with|none=>exact⟨.jk _ s.cE,trivial⟩|some t'=>refine⟨.mref _ _ s.cE,λ_=>?_⟩;obtain⟨sz,hs⟩:=h2 rfl;refine⟨sz,?_⟩;have h0:=ah t t' hb;unfold kC at hb;cases hL:ZU (λ_=>aT) aB t with|none=>grind|some x=>rw[hL]at hb;simp only[Gh.dS,h0,FC hb,hL,hs]
 |xp k=>
  simp only[C.dC];cases hk:fx k with|none=>exact⟨.jk _ s.cE,trivial⟩|some k'=>
   refine⟨.xp _ _ s.cE,?_⟩;have h3:v=.pointer (A (g'.ad (.x k))):=h2;show v=.pointer (A (ad (.x k')));grind
 |_=>trivial
theorem dJ.dS(s:∀t t',kC d aB t=A t'->bs t'=aT)(hx:∀k k',fx k=A k'->g'.ad (.x k)=ad (.x k')){vs cs}(h:dJ M g' Ym vs cs):dJ M (g'.dS os d ad aB bs) aZ vs (cs.map (C.dC (YA d) (kC d aB) fx)):=by refine⟨by simp[h.1],λj v c hv L=>?_⟩;rw[QQ]at L;cases hcj:cs[j]? with|none=>grind|some c0=>simp[hcj]at L;subst L;exact(h.2 j v c0 hv hcj).dS s hx
theorem cB.dS(s:∀t t',kC d aB t=A t'->bs t'=aT)(hx:∀k k',fx k=A k'->g'.ad (.x k)=ad (.x k')){v}:∀{x:aA U},cB M g' Ym (λ_=>I) v x->cB M (g'.dS os d ad aB bs) aZ live v (x.dC (YA d) (kC d aB) fx)
 |.c x,h=>cH.dS s hx (c:=x) h|.agg cs,h=>by obtain⟨vs,h1,h2⟩:=h;exact⟨vs,h1,h2.dS s hx⟩|.tup ws,h=>by
  obtain⟨vs,h1,h2,h3⟩:=h;refine⟨vs,h1,by simp[h2],λj u w hu hw=>?_⟩;rw[QQ]at hw;cases hj:ws[j]? with|none=>grind|some w0=>
   simp[hj]at hw;subst hw;have:=h3 j u w0 hu hj;obtain⟨ag,cs⟩:=w0;cases ag with
   |true=>obtain⟨vs,h4,h5⟩:=this;exact⟨vs,h4,h5.dS s hx⟩|false=>obtain⟨c,h4,h5⟩:=this;simp only at h4;subst h4;exact⟨_,rfl,h5.dS s hx⟩
 |.ptr ..,_=>trivial|.ap ..,_=>trivial|.ep cs,h=>by
  obtain⟨b,h1,h2⟩:=h;refine⟨b,h1,λj c L=>?_⟩;rw[QQ]at L;cases hcj:cs[j]? with
  |none=>grind|some c0=>
   simp[hcj]at L;subst L;obtain⟨u,h3,h4⟩:=h2 j c0 hcj;exact⟨u,h3,h4.dS s hx⟩
 |.fn f,h=>h|.mp ..,_=>trivial|.vw ..,_=>trivial|.clo ..,_=>trivial|.gd b x,h=>⟨λhb=>cB.dS s hx (h.1 hb),h.2⟩|.nb _ _,h=>h|.cY,_=>trivial
end dS
theorem Zhz{d}:∀{aB l:List (bL×LC U)},nj E d aB=A l->(∀t x,ZU (λ_=>aT) aB t=A x->∃s,YA d t=A s/\E.ls s=aT/\E.aZ s=I/\ZU E.ls l s=A x)/\∀s x,ZU E.ls l s=A x->(E.ls s=A x/\∀t,YA d t=A s->ZU (λ_=>aT) aB t=aT)\/∃t,ZU (λ_=>aT) aB t=A x/\YA d t=A s/\E.aZ s=I
 |[],l,h=>by simp only[nj,Option.some.injEq]at h;subst h;exact⟨λt x hx=>by trivial,λs x hx=>.inl ⟨hx,λt _=>rfl⟩⟩|(t0,x0)::aB,l,h=>by
  simp only[nj]at h;split at h;case h_2=>cases h
  rename_i t1 l1 h1 h2;split at h;case isFalse=>cases h
  rename_i L;simp only[Q9,Xl,Xs]at L;simp only[Option.some.injEq]at h;subst h;obtain⟨af,ah⟩:=Zhz h2;have inj:∀{t:bL},YA d t=A t1->t=t0:=by intro t ht;have e1:=FC ht;have e2:=FC h1;rw[e1]at e2;exact Option.some.inj e2
  refine⟨λt x hx=>?_,λs x hx=>?_⟩
  .simp only[ZU]at hx;split at hx;.rename_i e;subst e;cases hx;exact⟨t1,h1,L.1,L.2,by simp[ZU]⟩
   .rename_i e;obtain⟨s,g1,g2,g3,g4⟩:=af t x hx;refine⟨s,g1,g2,g3,?_⟩;simp only[ZU];grind
  .simp only[ZU]at hx;split at hx;.rename_i e;subst e;cases hx;exact .inr ⟨t0,by simp[ZU],h1,L.2⟩
   .rename_i e;rcases ah s x hx with⟨g1,g2⟩|⟨t,g1,g2,g3⟩;.refine .inl ⟨g1,λt ht=>?_⟩;simp only[ZU];grind
    .refine .inr ⟨t,?_,g2,g3⟩;simp only[ZU];grind
theorem Zep{d aB fx}:∀{os xs}{m:List (Name×List (C U))},AJ d aB fx os xs=A m->J xs=J os/\J m=J os/\∀(k:Nat)x cs,os[k]?=A x->xs[k]?=A cs->m[k]?=A (x.1,cs.map (C.dC (YA d) (kC d aB) fx))|[],[],m,h=>by simp only[AJ,Option.some.injEq]at h;grind|(nm,_)::os,cs0::xs,m,h=>by simp only[AJ]at h;cases hr:AJ d aB fx os xs with|none=>simp[hr]at h|some m'=>simp only[hr,Qv,Option.some.injEq]at h;subst h;obtain⟨h1,h2,s⟩:=Zep hr;grind
theorem JX(m0):∀m(nm:Name),(∃(k:Nat)(cs:List (C U)),m[k]?=A (nm,cs)/\Yo m0 m nm=A cs)\/(∀(k:Nat)x,m[k]?=A x->x.1≠nm)/\Yo m0 m nm=m0 nm
 |[],nm=>.inr ⟨λk x h=>by simp at h,rfl⟩|(a,cs)::r,nm=>by
  simp only[Yo];split;.rename_i e;subst e;exact .inl ⟨0,cs,rfl,rfl⟩
  .rename_i e;rcases JX m0 r nm with⟨k,cs',h1,h2⟩|⟨h1,h2⟩;.exact .inl ⟨k+1,cs',by simpa using h1,h2⟩
   grind
theorem ZmT{xs:List Operand}{vs}(hm:xs.mapM E.bU=A vs)(ah:∀x∈xs,∀v,E.bU x=A v->cB M g E.aZ (λnm=>(E.mem nm).isSome) (a.eval x) v):J (xs.map a.eval)=J vs/\∀(j:Nat)u x,(xs.map a.eval)[j]?=A u->vs[j]?=A x->cB M g E.aZ (λnm=>(E.mem nm).isSome) u x:=by
 have s:∀{xs:List Operand}{vs:List (aA U)},xs.mapM E.bU=A vs->J xs=J vs:=by intro xs;induction xs with|nil=>grind|cons y xs ih=>
   intro vs h;rw[Xq]at h;cases h1:E.bU y with
   |none=>simp[h1]at h|some v=>cases h2:xs.mapM E.bU with|none=>grind|some r=>simp[h1,h2]at h;grind
 refine⟨by simp[s hm],λj u x hu hx=>?_⟩;rw[QQ]at hu;cases hj:xs[j]? with|none=>grind|some y=>simp[hj]at hu;subst hu;obtain⟨v,h1,h2⟩:=Cw hm j y hj;grind
theorem Zt8(os):∀(s cs:List (C U)),J cs=J s->J (vI os s cs)=J cs|[],cs,h=>by rfl|c0::s,[],h=>by cases h|c0::s,c::cs,h=>by have ih:=Zt8 os s cs (by simpa using h);cases c0<;>simp[vI,ih]
theorem Zni(os):∀s cs(j:Nat)(c0 c:C U),J cs=J s->s[j]?=A c0->(vI os s cs)[j]?=A c->cs[j]?=A c\/∃k k',c0=.xp k/\jS os 0 (.x k)=A k'/\c=.xp k'
 |[],cs,j,c0,c,_,h,_=>by simp at h|d0::s,[],j,c0,c,hl,_,_=>by cases hl|d0::s,d::cs,0,c0,c,hl,h0,h=>by simp at h0;subst h0;cases d0 with|xp k=>simp only[vI]at h;grind|_=>exact .inl (by trivial)
 |d0::s,d::cs,j+1,c0,c,hl,h0,h=>by have ih:=Zni os s cs j c0 c (by simpa using hl) (by simpa using h0);cases d0<;>(simp only[vI,List.getElem?_cons_succ]at h⊢;exact ih h)
theorem Zlq{Γ}(hΓ:∀f s,Γ f=A s->aU P M f s)(h:cT M B E g a w){o c gx f args ps e d}(ho:o.op=.call c)(L:c.callee=.value gx){caps}(hg:a.eval gx=.func (.func f) #[] caps.toArray)(av:J (c.args.toList.map a.eval++caps)=J args/\∀(j:Nat)u x,(c.args.toList.map a.eval++caps)[j]?=A u->args[j]?=A x->cB M g E.aZ (λnm=>(E.mem nm).isSome) u x)(he:pX Γ E d f args=A (ps,e))(cr:eU ps):fJ P o a w λv w'=>∃g',gE M B E g e v w' g':=by
 unfold pX at he;split at he;.cases he
 rename_i s hs;split at he;.cases he
 rename_i ys os dj bo;split at he;.cases he
 rename_i di r xs L0 cn;rw[cond_eq_ite]at he;split at he;.cases he
 rename_i ba;have ba:∀k,r≠.ptr (.x k) 0:=λk e=>ba (by rw[e];rfl);split at he;case h_2=>cases he
 rename_i m ll cf ch;simp only[oP]at he;obtain⟨rfl,rfl⟩:=he;obtain⟨q1,q2⟩:=Zhz ch;obtain⟨⟨fn,c4,de,cu⟩,bv⟩:=hΓ f s hs;obtain⟨p1,_,p3,p4,p5,p6⟩:=VG (M:=M) (g:=g) _ _ _ _ _ _ _ bo λi j x y hx=>by simp at hx
 obtain⟨b1,b2,b3⟩:=Zep cf;let ax:Nat->Addr:=λk=>((os[k]?).map λx=>g.ad x.1).getD ⟨0,0,aT⟩;have a6:∀(k:Nat)x,os[k]?=A x->ax k=g.ad x.1:=λk x hx=>by simp[ax,hx]
 let gc:=g.callee (jS os 0) dj ax;let XS:=os.map λx=>Ax E os (x.2,x.1);have a3:∀c t,gc.cA c=A (.cG t)↔g.cA c=A t/\(∀nm,t=.dU nm->jS os 0 nm=aT)/\∀u,t=.dW u->JN dj u=aT:=λc t=>Zlp;have a4:∀c t,gc.cA c=A t->∃t0,g.cA c=A t0:=λc t=>Oi;have az:∀c,g.cA c=aT->gc.cA c=aT:=λc=>OI;have bd:ib M w gc (c.args.toList.map a.eval++caps) (ys.take (J args)) XS (bif s.wr then mO E.ls dj (dj.map (·.2))else[]):=by
  refine⟨⟨λc v hv=>?_,λc t ht=>?_⟩,λc t ht=>?_,by rw[av.1,QB,p4,Qi];omega,λj v x hv hx=>?_,λk cs hk j c hj=>?_,λt ht=>by simp only[gc,Gh.callee,ht,Xa],λt x hx=>?_⟩;.obtain⟨h1,h2⟩:=h.cN.im c v hv;exact⟨h1,az c h2⟩
  .obtain⟨t0,bb⟩:=a4 c t ht;exact h.cN.it c t0 bb
  .simp only[gc,Gh.callee]at ht;split at ht
   .split at ht;.cases ht;exact .inr (.inl ⟨_,rfl⟩)
    .cases ht;exact .inl ⟨_,rfl⟩
   .split at ht;.cases ht;exact .inr (.inr ⟨_,rfl⟩)
    .cases ht;exact .inl ⟨_,rfl⟩
   .cases ht;exact .inl ⟨_,rfl⟩
   .cases ht
  .rw[Xv]at hx;split at hx;case isFalse=>cases hx
   rename_i hj;have bh:=Q8 hj;have bt:(args++pf E args)[j]?=A args[j]:=by rw[X5 hj];exact bh
   have:=p6 dj (.refl _) (jS os 0) ax a6 j v _ x bt hx (av.2 j v _ hv bh);have hl:tW XS=λnm:Name=>match nm with|.x k=>(os[k]?).isSome|.bE _=>I:=by funext nm;cases nm<;>simp[tW,XS]
   rw[hl];exact this
  .simp only[XS]at hk;rw[QQ]at hk;cases hx:os[k]? with
   |none=>simp[hx]at hk|some x=>
    simp[hx]at hk;subst hk;obtain⟨b6,h1,h2,h3⟩:=p5 k x hx (by simp);simp only[Ax,h1]at hj;have ak:j<J b6:=by have:=(Qc.1 hj).1;rw[Zt8 os _ _ h2]at this;omega
    obtain⟨v,h4,h5,h6⟩:=h.mem x.1 b6 h1 j _ (Q8 ak);have bm:gc.ad (.x k)=g.ad x.1:=a6 k x hx;rw[bm];refine⟨v,h4,?_,?_⟩;rotate_left
    .rcases Zni os _ _ j _ c h2 (Q8 ak) hj with hj1|⟨q,q',e0,hq,rfl⟩;.exact h3 dj (.refl _) _ _ j v _ c (Q8 ak) hj1 h6
     .rw[e0]at h6;have e1:v=.pointer (A (g.ad (.x q))):=h6.2;obtain⟨y,_,hy,co⟩:=Vn hq;refine⟨.xp _ _ h6.1.cE,?_⟩;show v=.pointer (A (ax q'));rw[a6 q' y (by simpa using hy),co,e1]
    have hn:jS os 0 x.1=A k:=by have:=UK (k:=0) p3 hx rfl;simpa using this
    simp only[gc,Gh.callee,h5,hn]
  .have hx:ZU (λ_=>aT) (mO E.ls dj (dj.map (·.2))) t=A x:=by cases hw:s.wr with|true=>rw[hw]at hx;exact hx|false=>rw[hw]at hx;cases hx
   obtain⟨u,h5,h6,h7,h8⟩:=zJ _ hx;obtain⟨_,hL⟩:=h.ls u x h7;have ar:gc.bs t=g.bs u:=by simp only[gc,Gh.callee,h8,Kk,Ku,zV,h5]
   have bx:∀c,g.cA c=A (.dW u)->gc.cA c=A (.dW t):=λc L=>by simp only[gc,Gh.callee,L,h6]
   rcases hL with⟨e1,e2⟩|⟨b,len,cap,e1,e2,e3,e4,e5,e6⟩;.exact .inl ⟨ar.trans e1,e2⟩
   .refine .inr ⟨b,len,cap,ar.trans e1,e2,e3,e4,λi y hy j c L=>?_,λj a1 a2=>bx _ (e6 j a1 a2)⟩;obtain⟨v,e7,e8,e9,bj⟩:=e5 i y hy j c L;exact⟨v,e7,e8,e9,λhi=>bx _ (bj hi)⟩
 have bk:=bv (ys.take (J args)) XS _ _ r xs L0 cn cr (by rw[b1];simp[XS]) w gc _ bd;refine .inr (.inr ⟨f,(c.args.toList.map a.eval++caps).toArray,w,?_,Calls.mono bk ?_⟩)
 .have hb:fn.body.isNone=I:=by cases hfb:fn.body<;>simp_all
  simp only[execOp,ho,resolve,L,hg,Deferred.ofValue,Sem.run_bind,Sem.run_pure,Result.andThen_ok,invoke,callFunc,run_program,c4];simp[cu,hb]
 .rintro e' w'⟨v,g',rfl,aB⟩;refine⟨v,rfl,g'.dS os d g.ad L0 g.bs,?_⟩;have dk:gc.m=g.m:=rfl;have ae:∀c t,g.cA c=A t->(∀nm,t=.dU nm->jS os 0 nm=aT)->(∀u,t=.dW u->JN dj u=aT)->(g'.dS os d g.ad L0 g.bs).cA c=A t/\w'.cell? c=w.cell? c:=by intro c t h1 h2 h3;have:=aB.fr.cG c t ((a3 c t).2 ⟨h1,h2,h3⟩);exact⟨by simp only[Gh.dS,this.1],this.2⟩
  have bp:∀c t,(g'.dS os d g.ad L0 g.bs).cA c=A t->∃t',g'.cA c=A t':=by
   intro c t ht;simp only[Gh.dS]at ht;cases hgt:g'.cA c with
   |none=>simp[hgt]at ht|some t'=>exact⟨t',rfl⟩
  have be:∀t,Zv E ({val:=A (r.dC (YA d) (kC d L0) (rR os)),mem:=m,du:=dj.map (·.1),ls:=ll}:d_ U) t=I->E.aZ t=I/\JN dj t=aT:=by
   intro t ht;simp only[Zv,QJ]at ht;refine⟨ht.1,?_⟩;cases hn:JN dj t with|none=>rfl|some t'=>have:=ZkF hn;rw[ht.2]at this;cases this
  have al:db g (g'.dS os d g.ad L0 g.bs) E.aZ (Zv E ({val:=A (r.dC (YA d) (kC d L0) (rR os)),mem:=m,du:=dj.map (·.1),ls:=ll}:d_ U)) (λnm=>(E.mem nm).isSome) (YY E ({val:=A (r.dC (YA d) (kC d L0) (rR os)),mem:=m,du:=dj.map (·.1),ls:=ll}:d_ U)):=by
   refine⟨λc v hv=>aB.fr.mono c v hv,λc t hd ht=>?_,λt ht=>(be t ht).1,λnm hn=>⟨?_,rfl⟩,λt v _ hv=>by simp only[Gh.dS,hv],λ_=>rfl⟩;.exact(ae c _ ht (λnm e=>by cases e) λu e=>by cases e;exact(be _ hd).2).1
   .simp only[YY];rcases JX E.mem m nm with⟨k,cs,_,h2⟩|⟨_,h2⟩;.rw[h2];try rfl
    .rw[h2];exact hn
  have ar:∀t t',kC d L0 t=A t'->g.bs t'=aT:=by
   intro t t' hb;unfold kC at hb;cases hx:ZU (λ_=>aT) L0 t with
   |none=>rw[hx]at hb;cases hb|some x=>
    rw[hx]at hb;obtain⟨t2,g1,g2,g3,_⟩:=q1 t x hx;simp only at hb;rw[hb]at g1;cases g1;refine h.fresh t' ?_ g2 g3;unfold YA at hb;split at hb;.cases hb;rfl
    .split at hb;.cases hb;rfl
     .cases hb
    .cases hb
  have b0:∀k k',rR os k=A k'->g'.ad (.x k)=g.ad (.x k'):=by
   intro k k' hk;unfold rR at hk;split at hk;.rename_i hx;cases hk;exact(aB.ad k (ba k)).trans (a6 k _ hx)
   .cases hk
  have b8:∀t x,gI E.ls ({val:=A (r.dC (YA d) (kC d L0) (rR os)),mem:=m,du:=dj.map (·.1),ls:=ll}:d_ U) t=A x->(dj.map (·.1)).contains t=I/\ZU E.ls ll t=A x:=by
   intro t x hx;unfold gI at hx;cases hk:(dj.map (·.1)).contains t with
   |true=>simp only[hk,XE,reduceCtorEq]at hx|false=>simp only[hk,Xi]at hx;exact⟨rfl,hx⟩
  refine⟨⟨λc v hv=>?_,λc t ht=>?_⟩,?_,al,?_,aB.val.dS ar b0,?_,?_⟩;.obtain⟨h1,h2⟩:=aB.cN.im c v hv;exact⟨h1,by simp only[Gh.dS,h2]⟩
  .obtain⟨t',bi⟩:=bp c t ht;exact aB.cN.it c t' bi
  .refine⟨h.fr.dH.trans aB.fr.dH,h.fr.sO,λc v hv=>aB.fr.mono c v (h.fr.mono c v hv),λc t ht=>?_,λc t ht=>?_,λb hb bu=>?_,λc L=>(aB.fr.gC c (Xm L h.fr.dH.size)).trans (h.fr.gC c L)⟩
   .obtain⟨h1,h2⟩:=h.fr.cG c t ht;obtain⟨h3,h4⟩:=ae c _ h1 (λnm e=>by cases e) λu e=>by cases e
    exact⟨h3,h4.trans h2⟩
   .simp only[Gh.dS]at ht;split at ht;.rename_i t' bi;cases ht;have:=(a3 c _).1 (aB.fr.fT c _ bi);exact h.fr.fT c t this.1
    .cases hx:os[‹Nat›]? with|none=>simp[hx]at ht|some x=>simp[hx]at ht
    .cases hx:YA d ‹bL›with|none=>simp[hx]at ht|some x=>simp[hx]at ht
    .cases ht
   .obtain⟨h1,h2⟩:=h.fr.gn b hb bu;have bg:∀o s t,g.cA ⟨b,o,s⟩=A t->∃t',t=.cG t':=λo s t ht=>bu o s t (by rw[<-h2];exact ht);have bc:∀o s t,gc.cA ⟨b,o,s⟩=A t->∃t',t=.cG t':=by
     intro o s t ht;obtain⟨t0,bb⟩:=a4 _ _ ht;obtain⟨t1,rfl⟩:=bg o s t0 bb;have:=(a3 ⟨b,o,s⟩ (.cG t1)).2 ⟨bb,(λnm e=>by cases e),λu e=>by cases e⟩;rw[ht]at this;cases this;exact⟨_,rfl⟩
    obtain⟨h3,h4⟩:=aB.fr.gn b (Xm hb h.fr.dH.size) bc;refine⟨h3.trans h1,λo s=>?_⟩;rw[<-h2 o s];have h5:g'.cA ⟨b,o,s⟩=gc.cA ⟨b,o,s⟩:=h4 o s;cases hgt:g.cA ⟨b,o,s⟩with
    |none=>simp only[Gh.dS,h5,az _ hgt]|some t=>obtain⟨t1,rfl⟩:=bg o s t hgt;exact(ae _ _ hgt (λnm e=>by cases e) λu e=>by cases e).1
  .intro nm cs hm j cc hj;rcases JX E.mem m nm with⟨k,cs',h1,h2⟩|⟨h1,h2⟩
   .rw[h2]at hm;cases hm;have hk:k<J os:=by have:=(Qc.1 h1).1;omega
    have bn:os[k]?=A os[k]:=Q8 hk;have b9:xs[k]?=A (xs[k]'O):=Q8 _;have h3:=b3 k _ _ bn b9;rw[h1]at h3;simp only[oP]at h3;obtain⟨rfl,rfl⟩:=h3;rw[QQ]at hj;cases ak:(xs[k]'O)[j]? with|none=>simp[ak]at hj|some c0=>simp[ak]at hj;subst hj;obtain⟨v0,h4,h5,h6⟩:=aB.x k _ b9 j c0 ak;have bm:g'.ad (.x k)=g.ad os[k].1:=(aB.ad k (ba k)).trans (a6 k _ bn);rw[bm]at h4 h5;refine⟨v0,h4,?_,h6.dS ar b0⟩;show(g'.dS os d g.ad L0 g.bs).cA ((g.ad os[k].1).add j)=_;simp only[Gh.dS,h5,bn,Qv]
   .rw[h2]at hm;obtain⟨v0,h4,h5,h6⟩:=h.mem nm cs hm j cc hj;have hn:jS os 0 nm=aT:=Zhl (λi x hx e=>by
     have hi:i<J m:=by have:=(Qc.1 hx).1;omega
     have cx:xs[i]?=A (xs[i]'O):=Q8 _;exact h1 i _ (b3 i x _ hx cx) e) 0;obtain⟨h7,h8⟩:=ae _ _ h5 (λdg e=>by cases e;exact hn) λu e=>by cases e
    exact⟨v0,h8.trans h4,h7,h6.bN al⟩
  .intro t x hx;obtain⟨hk,hx⟩:=b8 t x hx;rcases q2 t x hx with⟨g1,_⟩|⟨t0,g1,g2,g3⟩
   .obtain⟨g3,g4⟩:=h.ls t x g1;have hd:Zv E ({val:=A (r.dC (YA d) (kC d L0) (rR os)),mem:=m,du:=dj.map (·.1),ls:=ll}:d_ U) t=I:=by simp only[Zv,g3,hk,XO]
    exact⟨hd,g4.bN al hd (λc v hv=>(aB.cN.im c v (aB.fr.mono c v hv)).1) λc cw=>(ae c _ cw (λnm e=>by cases e) λu e=>by cases e;exact(be _ hd).2).2⟩
   .have hd:Zv E ({val:=A (r.dC (YA d) (kC d L0) (rR os)),mem:=m,du:=dj.map (·.1),ls:=ll}:d_ U) t=I:=by simp only[Zv,g3,hk,XO]
    have cy:kC d L0 t0=A t:=by unfold kC;rw[g1];exact g2
    have bl:=ar _ _ cy;have b7:(g'.dS os d g.ad L0 g.bs).bs t=g'.bs t0:=by simp only[Gh.dS,bl,FC g2,g1]
    have bz:∀c,g'.cA c=A (.dW t0)->(g'.dS os d g.ad L0 g.bs).cA c=A (.dW t):=by intro c L;simp only[Gh.dS,L,g2,Qv]
    refine⟨hd,?_⟩;rcases aB.ls t0 x g1 with⟨e1,e2⟩|⟨b,len,cap,e1,e2,e3,e4,e5,e6⟩;.exact .inl ⟨b7.trans e1,e2⟩
    .refine .inr ⟨b,len,cap,b7.trans e1,e2,e3,e4,λi y hy j c L=>?_,λj a1 a2=>bz _ (e6 j a1 a2)⟩;obtain⟨u,e7,e8,e9,bj⟩:=e5 i y hy j c L;exact⟨u,e7,e8,e9,λhi=>bz _ (bj hi)⟩
  .intro t ht hn hd;have cl:E.aZ t=I:=(be t hd).1;have hk:(dj.map (·.1)).contains t=I:=by simp only[Zv,QJ]at hd;exact hd.2
   have b5:ZU E.ls ll t=aT:=by unfold gI at hn;simp only[hk,Xi]at hn;exact hn
   have bw:E.ls t=aT:=by cases hx:E.ls t with|none=>rfl|some x=>
     exfalso;have:∀(l:List (bL×LC U)),ZU E.ls l t=aT->False:=by
      intro l;induction l with
      |nil=>intro h;rw[ZU,hx]at h;cases h|cons y l ih=>
       obtain⟨a,b⟩:=y;intro h;simp only[ZU]at h;split at h;.cases h
       .exact ih h
     exact this _ b5
   have bl:=h.fresh t ht bw cl;simp only[Gh.dS,bl];cases hu:yO d t with|none=>rfl|some t'=>simp only;cases hx:ZU (λ_=>aT) L0 t' with|none=>rfl|some x=>
     simp only;obtain⟨t2,g1,g2,g3,g4⟩:=q1 t' x hx;cases hg:g'.bs t' with
     |none=>rfl|some v=>
      exfalso;have:t2=t:=by cases t with
       |r d' m=>
        simp only[yO]at hu;split at hu
        .rename_i e;subst e;split at hu
         .cases hu;simp only[YA,Option.some.injEq]at g1;rw[<-g1];congr 1;omega
         .cases hu;simp only[YA]at g1;split at g1;.cases g1;congr 1;omega
          .cases g1
        .cases hu|_=>simp[yO]at hu
      subst this;rw[b5]at g4;cases g4
def pT(E:bY U)(g:Gh)(c:Addr):Bool:=match g.cA c with|some (.dW t)=>(E.ls t).isSome|_=>I
def Gh.fF(g:Gh)(E:bY U)(w:World):Gh:=
 {m:=λc=>if pT E g c=Y then w.cell? c else g.m c
  cA:=λc=>if pT E g c=Y then aT else(g.cA c).map .cG
  ad:=g.ad
  bs:=λ_=>aT}
theorem ZGo{c}(h:pT E g c=Y):∃t x,g.cA c=A (.dW t)/\E.ls t=A x:=by
 unfold pT at h;split at h;.rename_i t s;cases hx:E.ls t with|none=>grind|some x=>grind
 .cases h
theorem ZGp{c}(h:∀t,g.cA c≠A (.dW t)):pT E g c=I:=by cases L:pT E g c with|false=>rfl|true=>obtain⟨t,_,s,_⟩:=ZGo L;grind
theorem ZGq(h:oy g.m g.cA w){c v}(s:g.m c=A v):(g.fF E w).m c=A v:=by
 have:pT E g c=I:=ZGp λt e=>by rw[(h.im c v s).2]at e;cases e
 simp only[Gh.fF,this,Kk,Ku,s]
theorem Zvy{c t}(h:g.cA c=A t)(L:pT E g c=I):(g.fF E w).cA c=A (.cG t):=by simp only[Gh.fF,L,Kk,Ku,h,Qv]
theorem ZOq(h:cT M B E g a w){v c}(hr:cH M g E.aZ v c):cH M (g.fF E w) Ym v (c.eO E):=by
 have hm:=λc v hv=>ZGq (E:=E) (w:=w) h.cN (c:=c) (v:=v) hv;cases c with
 |slice T l tl=>cases tl with
  |bA=>exact⟨hr.1.mono hm,trivial⟩|cU=>exact⟨hr.1.mono hm,hr.2⟩|bF u=>exact⟨(hr.1.tl .bA).mono hm,trivial⟩
 |mref t=>
  simp only[C.eO];cases hx:E.ls t with
  |none=>exact⟨.jk _ hr.1.cE,trivial⟩|some x=>
   obtain⟨hd,hL⟩:=h.ls t x hx;obtain⟨s,hs⟩:=hr.2 hd;refine⟨?_,trivial⟩;rcases hL with⟨e1,e2,_⟩|⟨b,len,cap,e1,e2,e3,e4,e5,_⟩
   .rw[hs]at e1;cases e1;obtain⟨T,l,f⟩:=x;simp only at e2;subst e2;exact .fa T _
   .rw[hs]at e1;cases e1;refine .fS _ e2 e3 λi y hy j c L=>?_;obtain⟨u,e7,e8,e9,ae⟩:=e5 i y hy j c L;refine⟨u,?_,e8.mono hm⟩;rcases K5 i x.f with hi|hi;.grind
    .simp only[Gh.fF,pT,ae hi,hx,Option.isSome_some,Xa];exact e7
 |jk=>exact⟨.jk _ hr.1.cE,trivial⟩|xp k=>exact⟨.jk _ hr.1.cE,trivial⟩|int k n=>exact⟨hr.1.mono hm,trivial⟩|bool b=>exact⟨hr.1.mono hm,trivial⟩|nils=>exact⟨hr.1.mono hm,trivial⟩|nilp=>exact⟨hr.1.mono hm,trivial⟩|po T o=>exact⟨hr.1.mono hm,trivial⟩
theorem ZV9(h:cT M B E g a w){live v x x'}(hr:cB M g E.aZ live v x)(s:x.eO E=A x'):cB M (g.fF E w) Ym (tW ([]:List (List (C U)))) v x':=by cases x with
 |c y=>cases s;exact ZOq h (c:=y) hr|agg cs=>
  cases s;obtain⟨vs,h1,h2,h3⟩:=hr;refine⟨vs,h1,by simp[h2],λj u c hu L=>?_⟩;rw[QQ]at L;cases hj:cs[j]? with
  |none=>grind|some c0=>
   simp[hj]at L;subst L;exact ZOq h (h3 j u c0 hu hj)
 |fn f=>cases s;exact hr|_=>cases s
theorem Zvz{Γ}(hΓ:∀f s,Γ f=A s->aU P M f s)(h:cT M B E g a w){o c gx f args ps e}(ho:o.op=.call c)(L:c.callee=.value gx)(hg:a.eval gx=.func (.func f) #[] #[])(ar:J c.args.toList=J args/\∀(j:Nat)u x,(c.args.toList.map a.eval)[j]?=A u->args[j]?=A x->cB M g E.aZ (λnm=>(E.mem nm).isSome) u x)(he:zv Γ E f args=A (ps,e))(a6:eU ps):fJ P o a w λv w'=>∃g',gE M B E g e v w' g':=by
 unfold zv at he;split at he;case h_2=>cases he
 rename_i s vs hs aw;have a8:∃c0:C U,s.m_ vs [] []=A (ps,.c c0,[],[])/\e={val:=A (.c c0)}/\∀(g1 g2:Gh)(d1 d2:bL->Bool)v,cH M g1 d1 v c0->cH M g2 d2 v c0:=by
  split at he
  .rename_i k n ah;simp only[oP]at he;obtain⟨rfl,rfl⟩:=he;exact⟨_,ah,rfl,λg1 g2 d1 d2 v hr=>by have:=hr.1;cases this;exact⟨.int _ _,trivial⟩⟩
  .rename_i b ah;simp only[oP]at he;obtain⟨rfl,rfl⟩:=he;exact⟨_,ah,rfl,λg1 g2 d1 d2 v hr=>by have:=hr.1;cases this;exact⟨.bool _,trivial⟩⟩
  .cases he
 obtain⟨c0,ah,rfl,az⟩:=a8;obtain⟨⟨fn,bc,bl,a7⟩,ax⟩:=hΓ f s hs;have bg:J vs=J args:=mapM_lend_len aw;have aj:ib M w (g.fF E w) (c.args.toList.map a.eval) vs [] []:=by
  refine⟨⟨λc v hv=>?_,λc t ht=>?_⟩,λc t ht=>?_,by grind,λj v x hv hx=>?_,λk cs hk=>by simp at hk,λt ht=>rfl,λt x hx=>by cases hx⟩
  .simp only[Gh.fF]at hv⊢;split at hv;.grind
   .rename_i hl;obtain⟨h1,h2⟩:=h.cN.im c v hv;grind
  .simp only[Gh.fF]at ht;split at ht;.cases ht
   .cases hgt:g.cA c with|none=>grind|some t0=>exact h.cN.it c t0 hgt
  .simp only[Gh.fF]at ht;split at ht;.cases ht
   .cases hgt:g.cA c with|none=>grind|some t0=>grind
  .obtain⟨x0,h1,h2⟩:=mapM_lend aw j x hx;exact ZV9 h (ar.2 j v x0 hv h1) h2
 have aq:=ax vs [] [] _ _ [] [] ah a6 (X3 _) w (g.fF E w) _ aj;refine .inr (.inr ⟨f,(c.args.toList.map a.eval).toArray,w,?_,Calls.mono aq ?_⟩)
 .have hb:fn.body.isNone=I:=by cases hfb:fn.body<;>simp_all
  simp only[execOp,ho,resolve,L,hg,Deferred.ofValue,Sem.run_bind,Sem.run_pure,Result.andThen_ok,invoke,callFunc,run_program,bc];simp[a7,hb];apply XG;simp
 .rintro e' w'⟨v,g',rfl,aB⟩;refine⟨v,rfl,g,?_⟩;have bd:∀c t,g.cA c=A t->pT E g c=I->w'.cell? c=w.cell? c:=λc t ht hl=>(aB.fr.cG c _ (Zvy (w:=w) ht hl)).2;have a1:∀c v,w.cell? c=A v->pT E g c=Y->w'.cell? c=A v:=by
   intro c v hv hl;have:(g.fF E w).m c=A v:=by simp only[Gh.fF,hl,Xa,hv]
   exact(aB.cN.im c v (aB.fr.mono c v this)).1
  have av:∀c v,g.m c=A v->w'.cell? c=A v:=λc v hv=>(aB.cN.im c v (aB.fr.mono c v (ZGq h.cN hv))).1;have am:∀c t,g.cA c=A t->w'.cell? c=w.cell? c:=by intro c t ht;cases hl:pT E g c with|false=>grind|true=>obtain⟨_,v,hv⟩:=h.cN.it c t ht;grind
  have ai:Zv E ({val:=A (.c c0)}:d_ U)=E.aZ:=by funext t;simp[Zv]
  refine⟨⟨λc v hv=>⟨av c v hv,(h.cN.im c v hv).2⟩,λc t ht=>?_⟩,?_,by rw[ai];exact .refl _ _ _,?_,?_,?_,?_⟩;.obtain⟨h1,v,h2⟩:=h.cN.it c t ht;exact⟨(aB.fr.gC c (h.cN.lt ht)).trans h1,v,(am c t ht).trans h2⟩
  .refine⟨h.fr.dH.trans aB.fr.dH,h.fr.sO,h.fr.mono,λc t ht=>?_,h.fr.fT,λb hb bb=>?_,λc L=>(aB.fr.gC c (Xm L h.fr.dH.size)).trans (h.fr.gC c L)⟩;.obtain⟨h1,h2⟩:=h.fr.cG c t ht;grind
   .obtain⟨h1,h2⟩:=h.fr.gn b hb bb;refine⟨(aB.fr.gn b (Xm hb h.fr.dH.size) λo s t ht=>?_).1.trans h1,h2⟩;simp only[Gh.fF]at ht;split at ht;.cases ht
    .cases hgt:g.cA ⟨b,o,s⟩with|none=>grind|some t0=>grind
  .rw[ai];intro nm cs hm j cc hj;obtain⟨v0,h4,h5,h6⟩:=h.mem nm cs hm j cc hj;grind
  .rw[ai];exact az _ _ _ _ _ aB.val
  .intro t x hx;rw[ai];have hx:E.ls t=A x:=by simpa[gI,ZU]using hx
   obtain⟨h1,h2⟩:=h.ls t x hx;exact⟨h1,h2.bN (.refl g E.aZ λ_=>Y) h1 av λc a4=>am c _ a4⟩
  .intro t h0 h7 h8;rw[ai]at h8;exact h.fresh t h0 (by trivial) h8 where
 mapM_lend_len{xs:List (aA U)}{vs:List (aA U)}(hm:xs.mapM (aA.eO E)=A vs):J vs=J xs:=by induction xs generalizing vs with
  |nil=>grind|cons y xs ih=>rw[Xq]at hm;cases h1:aA.eO E y with|none=>grind|some v=>cases h2:xs.mapM (aA.eO E)with|none=>grind|some r=>simp[h1,h2]at hm;grind
 mapM_lend{xs:List (aA U)}{vs:List (aA U)}(hm:xs.mapM (aA.eO E)=A vs)(j:Nat)(x:aA U)(hx:vs[j]?=A x):∃x0,xs[j]?=A x0/\x0.eO E=A x:=by induction xs generalizing vs j with|nil=>grind|cons y xs ih=>rw[Xq]at hm;cases h1:aA.eO E y with|none=>grind|some v=>cases h2:xs.mapM (aA.eO E)with|none=>simp[h1,h2]at hm|some r=>grind
theorem ZsC{α β:Type}{f}:∀{xs:List α}{ys:List β},xs.mapM f=A ys->J ys=J xs/\∀(j:Nat)y,ys[j]?=A y->∃x,xs[j]?=A x/\f x=A y|[],ys,h=>by grind|x::xs,ys,h=>by rw[Xq]at h;cases h1:f x with|none=>simp[h1]at h|some v=>cases h2:xs.mapM f with|none=>grind|some r=>simp[h1,h2]at h;subst h;obtain⟨s,h4⟩:=ZsC h2;grind
theorem Te{g2 aZ}(s:g2.m=g.m){v c}(h:cH M g aZ v c):cH M g2 Ym v c.lJ:=by cases c with|slice T l tl=>exact⟨by rw[s];exact h.1.tl _,trivial⟩|mref t=>exact⟨.jk _ h.1.cE,trivial⟩|xp k=>exact⟨.jk _ h.1.cE,trivial⟩|_=>exact⟨by rw[s];exact h.1,trivial⟩
theorem ZVF{g2 aZ live l2}(hm:g2.m=g.m){v x x'}(h:cB M g aZ live v x)(s:x.lJ=A x'):cB M g2 Ym l2 v x':=by cases x with
 |c y=>cases s;exact Te hm (c:=y) h|agg cs=>
  cases s;obtain⟨vs,h1,h2,h3⟩:=h;refine⟨vs,h1,by simp[h2],λj u c hu L=>?_⟩;rw[QQ]at L;cases hj:cs[j]? with
  |none=>grind|some c0=>
   simp[hj]at L;subst L;exact Te hm (h3 j u c0 hu hj)
 |fn f=>cases s;exact h|_=>cases s
theorem cH.plain{g1 g2 d1 d2 v c}(s:g2.m=g1.m)(L:c.plain=Y)(h:cH M g1 d1 v c):cH M g2 d2 v c:=by
 refine⟨by rw[s];exact h.1,?_⟩;cases c with
 |slice T l tl=>cases tl<;>first|trivial|cases L
 |mref t=>cases L|xp k=>cases L|_=>trivial
theorem Zts{ax}{xs ys:List (aA U)}{os:List (Name×List (C U))}(s:Aq E xs=A (ys,os))(ab:∀(k:Nat)x,os[k]?=A x->ax k=g.ad x.1):J os<=1/\J ys=J xs/\(∀(k:Nat)x,os[k]?=A x->∃cs,E.mem x.1=A cs/\x.2=cs.map C.lJ)/\∀(j:Nat)v x y,xs[j]?=A x->ys[j]?=A y->cB M g E.aZ (λnm=>(E.mem nm).isSome) v x->cB M (g.callee (jS os 0) [] ax) Ym (tW (os.map (·.2))) v y:=by
 unfold Aq at s;split at s
 .rename_i nm;split at s
  .rename_i cs ae;cases s;refine⟨Qa _,rfl,λk x h=>?_,λj v x y h hy hr=>?_⟩
   .have:k=0:=by have:=(Qc.1 h).1;simp at this;exact this
    subst this;simp at h;subst h;exact⟨cs,ae,rfl⟩
   .have:j=0:=by have:=(Qc.1 h).1;simp at this;exact this
    subst this;simp at h hy;subst h hy;have e:ax 0=g.ad nm:=ab 0 _ rfl;refine⟨rfl,?_⟩;have h2:v=.pointer (A ((g.ad nm).add 0)):=hr.2;rw[h2,<-e];try rfl
  .cases s
 .split at s;.rename_i vs ai;cases s;obtain⟨h1,h2⟩:=ZsC ai;refine⟨X3 _,h1,λk x h=>by simp at h,λj v x y h hy hr=>?_⟩;obtain⟨x0,h3,h4⟩:=h2 j y hy;rw[h]at h3;cases h3;exact ZVF (g:=g) (g2:=g.callee (jS [] 0) [] ax) rfl hr h4
  .cases s
theorem ZAt{Γ}(hΓ:∀f s,Γ f=A s->aU P M f s)(h:cT M B E g a w){o c gx f args ps e d}(ho:o.op=.call c)(L:c.callee=.value gx)(hg:a.eval gx=.func (.func f) #[] #[])(aq:J c.args.toList=J args/\∀(j:Nat)u x,(c.args.toList.map a.eval)[j]?=A u->args[j]?=A x->cB M g E.aZ (λnm=>(E.mem nm).isSome) u x)(he:zu Γ E d f args=A (ps,e))(bu:eU ps):fJ P o a w λv w'=>∃g',gE M B E g e v w' g':=by
 unfold zu at he;split at he;case h_2=>cases he
 rename_i s vs os hs b5;split at he;case h_2=>cases he
 rename_i cf k xs br;split at he;case isFalse=>cases he
 rename_i bj;simp only[Q9,QZ,Xl,Nat.beq_eq]at bj;obtain⟨⟨⟨hk,b9⟩,b3⟩,hn⟩:=bj;subst hk;simp only[oP]at he;obtain⟨rfl,rfl⟩:=he;obtain⟨⟨fn,b6,cb,bv⟩,bh⟩:=hΓ f s hs;let ax:Nat->Addr:=λk=>((os[k]?).map λx=>g.ad x.1).getD ⟨0,0,aT⟩;have ba:∀(k:Nat)x,os[k]?=A x->ax k=g.ad x.1:=λk x hx=>by simp[ax,hx]
 obtain⟨ck,bf,bi,am⟩:=Zts (M:=M) b5 ba;have bo:Ck os:=λi j x y hx hy _=>by have:=(Qc.1 hx).1;have:=(Qc.1 hy).1;omega
 let gc:=g.callee (jS os 0) [] ax;let nms:=os.map (·.1)++[Name.bE d];have au:∀c t,gc.cA c=A (.cG t)↔g.cA c=A t/\(∀nm,t=.dU nm->jS os 0 nm=aT)/\∀u,t=.dW u->JN [] u=aT:=λc t=>Zlp;have a2:ib M w gc (c.args.toList.map a.eval) vs (os.map (·.2)) []:=by
  refine⟨⟨λc v hv=>?_,λc t ht=>?_⟩,λc t ht=>?_,by rw[QF,aq.1,bf],λj v x hv hx=>?_,λk cs hk j c hj=>?_,λt ht=>by simp only[gc,Gh.callee,ht,Xa],λt x hx=>by cases hx⟩;.obtain⟨h1,h2⟩:=h.cN.im c v hv;exact⟨h1,OI h2⟩
  .obtain⟨t0,aw⟩:=Oi ht;exact h.cN.it c t0 aw
  .simp only[gc,Gh.callee]at ht;split at ht
   .split at ht;.cases ht;exact .inr (.inl ⟨_,rfl⟩)
    .cases ht;exact .inl ⟨_,rfl⟩
   .split at ht;.cases ht;exact .inr (.inr ⟨_,rfl⟩)
    .cases ht;exact .inl ⟨_,rfl⟩
   .cases ht;exact .inl ⟨_,rfl⟩
   .cases ht
  .have hj:j<J args:=by have:=(Qc.1 hx).1;omega
   exact am j v _ x (Q8 hj) hx (aq.2 j v _ hv (Q8 hj))
  .rw[QQ]at hk;cases hx:os[k]? with
   |none=>simp[hx]at hk|some x=>
    simp[hx]at hk;subst hk;obtain⟨a9,h1,h2⟩:=bi k x hx;rw[h2,QQ]at hj;cases hj0:a9[j]? with
    |none=>simp[hj0]at hj|some c0=>
     simp[hj0]at hj;subst hj;obtain⟨v,h4,h5,h6⟩:=h.mem x.1 a9 h1 j _ hj0;have aj:gc.ad (.x k)=g.ad x.1:=ba k x hx;have bx:jS os 0 x.1=A k:=by have:=UK (k:=0) bo hx rfl;simpa using this
     rw[aj];exact⟨v,h4,by simp only[gc,Gh.callee,h5,bx],Te (g:=g) (g2:=gc) rfl h6⟩
 have a7:=bh vs (os.map (·.2)) [] _ _ xs [] br bu (by rw[QF];omega) w gc _ a2;refine .inr (.inr ⟨f,(c.args.toList.map a.eval).toArray,w,?_,Calls.mono a7 ?_⟩)
 .have hb:fn.body.isNone=I:=by cases hfb:fn.body<;>simp_all
  simp only[execOp,ho,resolve,L,hg,Deferred.ofValue,Sem.run_bind,Sem.run_pure,Result.andThen_ok,invoke,callFunc,run_program,b6];simp[bv,hb];apply XG;simp
 .rintro e' w'⟨v,g',rfl,aB⟩;let g1:Gh:={m:=g'.m,cA:=λc=>match g'.cA c with|some (.cG t)=>A t|some (.dU (.x k))=>(nms[k]?).map .dU|_=>aT,ad:=λnm=>if nm=.bE d then g'.ad (.x (J os))else g.ad nm,bs:=g.bs};have cg:gc.m=g.m:=rfl;have af:∀c t,g.cA c=A t->(∀nm,t=.dU nm->jS os 0 nm=aT)->g1.cA c=A t/\w'.cell? c=w.cell? c:=by intro c t h1 h2;have:=aB.fr.cG c t ((au c t).2 ⟨h1,h2,λu _=>rfl⟩);exact⟨by simp only[g1,this.1],this.2⟩
  have b1:∀c t,g1.cA c=A t->∃t',g'.cA c=A t':=by intro c t ht;simp only[g1]at ht;cases hgt:g'.cA c with|none=>simp[hgt]at ht|some t'=>exact⟨t',rfl⟩
  have aj:∀nm,nm≠.bE d->g1.ad nm=g.ad nm:=λnm a4=>by simp only[g1,Q0 a4]
  have b4:∀(k:Nat)x,os[k]?=A x->g'.ad (.x k)=g.ad x.1:=λk x hx=>by have hk:=(Qc.1 hx).1;exact(aB.ad k λe=>by cases e;omega).trans (ba k x hx)
  have bq:∀(k:Nat)x,os[k]?=A x->x.1≠.bE d:=λk x hx e=>by obtain⟨a9,h1,_⟩:=bi k x hx;rw[e,hn]at h1;cases h1
  have hz:∀(k:Nat)nm cs,(nms.zip xs)[k]?=A (nm,cs)->nms[k]?=A nm/\xs[k]?=A cs:=λk nm cs hk=>by rw[Kd]at hk;exact hk
  have a3:Zv E ({val:=A (.ptr (.bE d) 0),mem:=nms.zip xs}:d_ U)=E.aZ:=by funext t;simp[Zv]
  have al:db g g1 E.aZ E.aZ (λnm=>(E.mem nm).isSome) (YY E ({val:=A (.ptr (.bE d) 0),mem:=nms.zip xs}:d_ U)):=by
   refine⟨λc v hv=>aB.fr.mono c v hv,λc t hd ht=>(af c _ ht λnm e=>by cases e).1,λt ht=>ht,λnm hl=>⟨?_,aj nm λe=>?_⟩,λt v _ hv=>hv,λk=>aj _ (by simp)⟩
   .simp only[YY];rcases JX E.mem (nms.zip xs) nm with⟨k,cs,_,h2⟩|⟨_,h2⟩;.rw[h2];try rfl
    .rw[h2];exact hl
   .subst e;simp[hn]at hl
  have a6:(nms.zip xs)[J os]?=A (.bE d,xs[J os]'O):=by rw[Kd];exact⟨by simp[nms],Q8 _⟩
  refine⟨v,rfl,g1,⟨λc v hv=>?_,λc t ht=>?_⟩,?_,by rw[a3];exact al,?_,?_,?_,?_⟩;.obtain⟨h1,h2⟩:=aB.cN.im c v hv;exact⟨h1,by simp only[g1,h2]⟩
  .obtain⟨t',a5⟩:=b1 c t ht;exact aB.cN.it c t' a5
  .refine⟨h.fr.dH.trans aB.fr.dH,λk=>(aj _ (by simp)).trans (h.fr.sO k),λc v hv=>aB.fr.mono c v (h.fr.mono c v hv),λc t ht=>?_,λc t ht=>?_,λb hb bg=>?_,λc L=>(aB.fr.gC c (Xm L h.fr.dH.size)).trans (h.fr.gC c L)⟩
   .obtain⟨h1,h2⟩:=h.fr.cG c t ht;obtain⟨h3,h4⟩:=af c _ h1 λnm e=>by cases e
    exact⟨h3,h4.trans h2⟩
   .simp only[g1]at ht;split at ht;.rename_i t' a5;cases ht;exact h.fr.fT c t ((au c _).1 (aB.fr.fT c _ a5)).1
    .cases hx:nms[‹Nat›]? with|none=>simp[hx]at ht|some x=>simp[hx]at ht
    .cases ht
   .obtain⟨h1,h2⟩:=h.fr.gn b hb bg;have am:∀o s t,g.cA ⟨b,o,s⟩=A t->∃t',t=.cG t':=λo s t ht=>bg o s t (by rw[<-h2];exact ht);have a1:∀o s t,gc.cA ⟨b,o,s⟩=A t->∃t',t=.cG t':=by intro o s t ht;obtain⟨t0,aw⟩:=Oi ht;obtain⟨t1,rfl⟩:=am o s t0 aw;have:=(au ⟨b,o,s⟩ (.cG t1)).2 ⟨aw,(λnm e=>by cases e),λu e=>by cases e⟩;rw[ht]at this;cases this;exact⟨_,rfl⟩
    obtain⟨h3,h4⟩:=aB.fr.gn b (Xm hb h.fr.dH.size) a1;refine⟨h3.trans h1,λo s=>?_⟩;rw[<-h2 o s];have h5:g'.cA ⟨b,o,s⟩=gc.cA ⟨b,o,s⟩:=h4 o s;cases hgt:g.cA ⟨b,o,s⟩with
    |none=>have h6:gc.cA ⟨b,o,s⟩=aT:=OI hgt;simp only[g1,h5,h6]|some t=>
     obtain⟨t1,rfl⟩:=am o s t hgt;exact(af _ _ hgt λnm e=>by cases e).1
  .rw[a3];intro nm av hm j cc hj;rcases JX E.mem (nms.zip xs) nm with⟨k,cs,h1,h2⟩|⟨h1,h2⟩
   .rw[h2]at hm;cases hm;obtain⟨ak,bk⟩:=hz k nm av h1;obtain⟨v0,h4,h5,h6⟩:=aB.x k av bk j cc hj;have h7:cH M g1 E.aZ v0 cc:=cH.plain (g1:=g') (g2:=g1) rfl (b3 av (Xf bk) cc (Xf hj)) h6;have h8:g1.ad nm=g'.ad (.x k):=by
     rcases K5 k (J os)with hk|hk
     .have a8:os[k]?=A os[k]:=Q8 hk;have e:nm=os[k].1:=by simp only[nms]at ak;rw[X5 (by simpa using hk),List.getElem?_map,a8]at ak;simpa using ak.symm
      rw[e,aj _ (bq k _ a8),b4 k _ a8]
     .have bp:k=J os:=by have:=(Qc.1 ak).1;simp[nms]at this;omega
      subst bp;have e:nm=.bE d:=by simp[nms]at ak;exact ak.symm
      rw[e];simp only[g1,Xa]
    rw[h8];exact⟨v0,h4,by simp only[g1,h5,ak,Qv],h7⟩
   .rw[h2]at hm;obtain⟨v0,h4,h5,h6⟩:=h.mem nm av hm j cc hj;have b2:jS os 0 nm=aT:=Zhl (λi x hx e=>by
     have hi:=(Qc.1 hx).1;have h9:(nms.zip xs)[i]?=A (nm,xs[i]'O):=by
      rw[Kd];refine⟨?_,Q8 _⟩;simp only[nms];rw[X5 (by simpa using hi),List.getElem?_map,hx,<-e];try rfl
     exact h1 i _ h9 rfl) 0;obtain⟨h7,h8⟩:=af _ _ h5 λce e=>by cases e;exact b2
    have a4:nm≠.bE d:=λe=>by subst e;rw[hn]at hm;cases hm
    rw[aj nm a4];exact⟨v0,h8.trans h4,h7,h6.bN al⟩
  .have hv:v=.pointer (A ((g'.ad (.x (J os))).add 0)):=aB.val.2;refine⟨?_,?_⟩
   .simp only[YY];rcases JX E.mem (nms.zip xs) (.bE d)with⟨k,cs,_,h2⟩|⟨h1,_⟩;.rw[h2];try rfl
    .exact absurd rfl (h1 _ _ a6)
   .rw[hv];simp only[g1,Xa]
  .intro t x hx;rw[a3];have hx:E.ls t=A x:=by simpa[gI,ZU]using hx
   obtain⟨h1,h2⟩:=h.ls t x hx;exact⟨h1,h2.bN al h1 (λc v hv=>(aB.cN.im c v (aB.fr.mono c v hv)).1) λc bz=>(af c _ bz λnm e=>by cases e).2⟩
  .intro t h0 h7 h8;rw[a3]at h8;exact h.fresh t h0 (by trivial) h8
end Go.AM
namespace Go.AM
variable{U:gP}{P:Program}{M:cW U}{B:fN}{E:bY U}{g:Gh}{a:Act}{w:World}
theorem ZoE(ok:bS P M)(h:cT M B E g a w){live t u x v k}{n:Int}(ht:M.iO t=A x.T)(hx:E.ls u=A x)(hv:cH M g E.aZ v (.mref u))(hn:0<=n/\n<=J x.l):∃r,(Instr.sliceAt t v (A (.int k n)) aT aT).run P w=.ok r w/\cB M g E.aZ live r (.vw u (G n)):=by
 obtain⟨hE,hU⟩:=pC ok ht;have ab:=wR ok x.T w;rw[<-hE]at ab;obtain⟨hd,hL⟩:=h.ls u x hx;obtain⟨s,hs⟩:=hv.2 hd;have ae:∃b len aa,v=.slice b len aa/\s=M.sz x.T/\J x.l=len:=by
  rcases hL with⟨h4,h5,_⟩|⟨b,len,aa,h4,h5,_⟩<;>rw[hs]at h4<;>cases h4;.grind
  .grind
 obtain⟨b,len,aa,rfl,rfl,hl⟩:=ae;rw[run_sliceAt_slice w t _ _ _ _ hU,run_slice_l w t b len aa hU _ _ hn.1 O,ab];exact⟨_,rfl,λ_=>⟨b,len,aa,_,hs,O,rfl⟩⟩
theorem ZFw(h:cT M B E g a w){u y y'}(hy:E.ls u=A y)(e:y'=y){val v}(ab:∀aZ live,cB M g aZ live v (val.getD .cY)):gE M B E g {val:=val,ls:=[(u,y')]} v w g:=by
 subst e;have s:Zv E ({val:=val,ls:=[(u,y')]}:d_ U)=E.aZ:=by funext t;simp[Zv]
 have aa:∀t,gI E.ls ({val:=val,ls:=[(u,y')]}:d_ U) t=E.ls t:=λt=>by
  simp only[gI,K4,Xi,ZU];grind
 refine⟨h.cN,h.fr,by rw[s];exact .refl _ _ _,by rw[s];exact h.mem,ab _ _,λt x hx=>?_,λt h0 h7 h8=>?_⟩;.rw[aa]at hx;rw[s];exact h.ls t x hx
 .rw[aa]at h7;rw[s]at h8;exact h.fresh t h0 h7 h8
theorem ZtP(ok:bS P M)(h:cT M B E g a w){u y}(hy:E.ls u=A y){n l' vs b len cap s}(a2:g.bs u=A (.slice (A b) len cap,s))(br:J vs=J l'*M.sz y.T)(bb:∀v∈vs,v.oneCell'=Y)(a7:∀i x,l'[i]?=A x->∀j c,(M.enc y.T x)[j]?=A c->∃v,vs[i*M.sz y.T+j]?=A v/\b_ M g.m v c)(hf:y.f<=n)(hn:n+J l'<=len){val v}(a3:∀aZ live,cB M g aZ live v (val.getD .cY)):s=M.sz y.T/\J y.l=len/\∃w',(storeCells (b.add (n*M.sz y.T)) vs).run P w=.ok () w'/\gE M B E g {val:=val,ls:=[(u,⟨y.T,y.l.take n++(l'++y.l.drop (n+J l')),y.f⟩)]} v w' g:=by
 obtain⟨ba,hL⟩:=h.ls u y hy;rcases hL with⟨h4,_⟩|⟨b',len',cap',h4,hlen,hcap,hfl,hrows,htail⟩<;>rw[a2]at h4<;>cases h4;refine⟨rfl,hlen,?_⟩;have ai:=ok.gR y.T;have ax:(n+J l')*M.sz y.T<=len*M.sz y.T:=Qx _ hn;rw[Xj]at ax;have ab:∀j,n*M.sz y.T<=j->j<len*M.sz y.T->g.cA (b.add j)=A (.dW u)/\∃v,w.cell? (b.add j)=A v:=by
  intro j h1 h2;have hi:j/M.sz y.T<J y.l:=by rw[hlen];exact XT (by grind)
  have be:j%M.sz y.T<J (M.enc y.T y.l[j/M.sz y.T]):=by rw[ok.cL];exact KC _ ai
  obtain⟨v,g1,_,_,g4⟩:=hrows _ _ (Q8 hi) _ _ (Q8 be);have e:j/M.sz y.T*M.sz y.T+j%M.sz y.T=j:=by rw[Kf];exact Kc _ _
  rw[e]at g1 g4;exact⟨g4 (QS hf ((Kz ai).2 h1)),v,g1⟩
 obtain⟨w',h1,h2,h3,h4,h5,h6⟩:=BT (P:=P) (b.add (n*M.sz y.T)) vs 0 w bb (by
  intro j hj;rw[Go.Deep.add_add,Xh];obtain⟨g1,g2⟩:=ab (n*M.sz y.T+j) O O;exact⟨g2,(h.cN.it _ _ g1).1⟩);simp only[Xh,Go.Deep.add_add]at h2 h3 h4;refine⟨w',h1,?_⟩;have ae:∀c,(∃j,j<J vs/\c=b.add (n*M.sz y.T+j))->g.cA c=A (.dW u):=by rintro c⟨j,hj,rfl⟩;exact(ab _ O O).1
 have aa:∀c,g.cA c≠A (.dW u)->w'.cell? c=w.cell? c:=λc L=>h4 c λj hj e=>L (ae c ⟨j,hj,e⟩);have ay:∀c v,g.m c=A v->w'.cell? c=A v:=λc v hv=>by obtain⟨h7,h8⟩:=h.cN.im c v hv;grind
 have ah:∀aB,Zv E ({val:=val,ls:=aB}:d_ U)=E.aZ:=λaB=>by funext t;simp[Zv]
 refine⟨⟨λc v hv=>⟨ay c v hv,(h.cN.im c v hv).2⟩,λc t av=>?_⟩,?_,by rw[ah];exact .refl _ _ _,?_,a3 _ _,?_,?_⟩;.obtain⟨h7,u',h8⟩:=h.cN.it c t av;grind
 .exact h.fr.step h.cN h2 (λc L=>⟨_,ae c L,λt' e=>by cases e⟩) (λ_ _ h=>h) (λ_ _=>QH) (λ_ _ _ _ _=>rfl) λ_=>rfl
 .rw[ah];intro nm bf hm j c hj;obtain⟨v0,bp,bl,bu⟩:=h.mem nm bf hm j c hj;grind
 .intro t z hz;rw[ah];unfold gI at hz;simp only[K4,Xi,ZU]at hz;split at hz
  .rename_i et;subst et;cases hz;refine⟨ba,.inr ⟨b,len,cap,a2,by simp;omega,hcap,hfl,?_,htail⟩⟩;intro i q hq j c L;simp only at hq L⊢;have hj:j<M.sz y.T:=by have:=(Qc.1 L).1;rw[ok.cL]at this;exact this
   have bH:y.l[i]?=A q->i<n\/n+J l'<=i->∃u',w'.cell? (b.add (i*M.sz y.T+j))=A u'/\b_ M g.m u' c/\(i<y.f->g.m (b.add (i*M.sz y.T+j))=A u')/\(y.f<=i->g.cA (b.add (i*M.sz y.T+j))=A (.dW t)):=by
    intro h0 a9;obtain⟨u',g1,g2,g3,g4⟩:=hrows i q h0 j c L;refine⟨u',?_,g2,g3,g4⟩;rw[h4 _ λj' bm e=>by
     have:=rY e;rcases a9 with aw|au;.have:(i+1)*M.sz y.T<=n*M.sz y.T:=Qx _ aw;grind
     .have:(n+J l')*M.sz y.T<=i*M.sz y.T:=Qx _ au;grind];exact g1
   rw[X8,QB,XY O]at hq;split at hq;.grind
   .rename_i au;rw[X8]at hq;split at hq
    .rename_i aw;obtain⟨v0,g1,g2⟩:=a7 _ _ hq j c L;have g3:=h3 _ _ g1;have e1:n*M.sz y.T+((i-n)*M.sz y.T+j)=i*M.sz y.T+j:=by rw[<-Nat.add_assoc,<-Xj];congr 2;omega
     rw[e1]at g3;refine⟨v0,g3,g2,λhi=>by omega,λ_=>(ab _ ?_ ?_).1⟩;.omega
     grind
    .rename_i bh;rw[QY]at hq;exact bH (by rw[<-hq];congr 1;omega) (.inr O)
  .rename_i bo;obtain⟨h7,h8⟩:=h.ls t z hz;exact⟨h7,h8.bN (.refl g E.aZ λ_=>Y) h7 ay λc av=>aa c (by grind)⟩
 .rw[ah];intro t h0 h7 h8;unfold gI at h7;simp only[K4,Xi,ZU]at h7;split at h7;.cases h7
  .exact h.fresh t h0 h7 h8
theorem ZTu(h:cT M B E g a w){live u x n v}(hx:E.ls u=A x)(hv:cB M g E.aZ live v (.vw u n)):n<=J x.l/\∃b m ab,v=.slice b m ab/\m=J x.l-n/\(b=aT->m=0)/\(n<J x.l->∃b' aa,g.bs u=A (.slice (A b') (J x.l) aa,M.sz x.T)/\b=A (b'.add (n*M.sz x.T))):=by
 obtain⟨hd,hL⟩:=h.ls u x hx;obtain⟨b,len,ab,s,h1,h2,rfl⟩:=hv hd;rcases hL with⟨h4,h5,_⟩|⟨b',len',aa,h4,hlen,hcap,_⟩<;>rw[h1]at h4<;>cases h4;.rw[h5];exact⟨h2,_,_,_,rfl,rfl,λ_=>by simp,λhh=>by simp at hh⟩
 .rw[hlen];refine⟨h2,_,_,_,rfl,rfl,λe=>?_,λao=>⟨b',ab,h1,?_⟩⟩;.split at e<;>cases e
  .rw[Q0 O];try rfl
theorem Zto(ok:bS P M)(h:cT M B E g a w){live o t u n px ps e}(ho:o.op=.call {callee:=.builtin .clear,args:=#[px],argTypes:=#[t]})(hx:cB M g E.aZ live (a.eval px) (.vw u n))(he:Nx M E t u n=A (ps,e))(a1:eU ps):fJ P o a w λv w'=>∃g',gE M B E g e v w' g':=by
 unfold Nx at he;split at he;case h_2=>cases he
 rename_i T x hT aj;split at he;case h_2=>cases he
 rename_i az z _ hz;subst az;simp only[oP]at he;obtain⟨rfl,rfl⟩:=he;obtain⟨hE,hU⟩:=pC ok hT;obtain⟨hn,b,m,ay,hv,hm,hb,ai⟩:=ZTu h aj hx;have aq:execOp a.eval o=(do pure (.value (<-Builtin.clear_ #[t] o.type #[.slice b m ay])):Sem Next):=by simp only[execOp,ho,resolve,Sem.run_bind,Sem.run_pure,Result.andThen_ok,invoke,builtin];simp[hv]
 have ao:P.underlying t=A (.slice (M.dQ x.T)):=by rw[hE]at hU;exact hU
 by_cases h0:m=0;.have e1:J x.l=n:=O;refine .inl ⟨.tuple #[],w,?_,g,ZFw h aj (by rw[<-e1];simp) λ_ _=>trivial⟩;rw[aq];subst h0;refine EZ ?_;cases b<;>simp[Builtin.clear_,run_underlying ao]
 obtain⟨b',bc,a4,rfl⟩:=ai O;obtain⟨i,ag,zs,z',hi,a9,bk,bp,ae,bl⟩:=ok.el x.T;rw[ae]at hz;have av:M.jz x.T zs=A z:=hz;obtain⟨s,a6,hZ⟩:=AG ok ae w;have aa:=yG (g:=g) (E:=E) (M:=M) hZ;obtain⟨aw,a5⟩:=Zzo ok av aa.1 λj v c h1 h2=>aa.qf h1 h2;have ah:s.cells.size=M.sz x.T:=by have:=aw;simp at this;exact this
 have bd:=ok.gR x.T;obtain⟨_,_,w',h1,a8⟩:=ZtP (P:=P) (l':=List.replicate m z) (vs:=(Builtin.zeroCells s.cells m).toList) (n:=n) (val:=aT) (v:=.tuple #[]) ok h aj a4 (by simp[Builtin.zeroCells,ah]) (by
   intro v hv;simp only[Builtin.zeroCells,K8,QU,Array.toList_range,List.mem_range]at hv;obtain⟨j,hj,rfl⟩:=hv;have am:j%s.cells.size<s.cells.size:=KC _ O;rw[getElem!_pos s.cells _ am];exact aa.cE _ (by simp)) (by
   intro i x0 ab j c L;obtain⟨hi,ab⟩:=Qc.1 ab;simp at ab hi;subst ab;obtain⟨v,h7,h8⟩:=a5 j c L;have hj:j<M.sz x.T:=by have:=(Qc.1 L).1;rw[ok.cL]at this;exact this
   have ai:i*M.sz x.T+j<m*M.sz x.T:=by have:(i+1)*M.sz x.T<=m*M.sz x.T:=Qx _ O;rw[Xj]at this;omega
   refine⟨v,?_,h8⟩;have h9:s.cells[j]?=A v:=by rw[<-h7];simp
   have ak:j<s.cells.size:=O;have e:(i*M.sz x.T+j)%s.cells.size=j:=by rw[ah,Kf,Nat.mul_add_mod,Nat.mod_eq_of_lt hj]
   have au:s.cells[j]! =v:=by
    rw[getElem!_pos s.cells j ak];rw[Xr ak]at h9;exact Option.some.inj h9
   have al:i*M.sz x.T+j<m*s.cells.size:=by rw[ah];exact ai
   simp[Builtin.zeroCells,al,e,au]) a1.1 (by simp;omega) λ_ _=>trivial;refine .inl ⟨.tuple #[],w',?_,g,?_⟩;.rw[aq];refine EZ ?_;obtain⟨m',rfl⟩:∃m',m=m'+1:=⟨m-1,O⟩;rw[hE]at hU;simp[Builtin.clear_,run_underlying ao,a6,h1]
 simp_all
