import Derived.Test.YtnfbomhidainjaaGreatTmQ
set_option linter.unusedSimpArgs false
set_option linter.unusedVariables false
namespace Go.AM
variable{U:Uni}{P:Program}{cfg:Cfg U}{B:Base}{st:FSt U}{g:Gh}{a:Act}{w:World}
def ZQ:Tok->Bool:=λ_=>false
def Z6Q(X:List (List (C U))):Name->Bool|.x k=>(X[k]?).isSome|.loc _=>false
structure Entry(cfg:Cfg U)(w:World)(g:Gh)(vs:List Value)(args:List (V U))(X:List (List (C U)))(L:List (Tok×LC U)):Prop where
 inv:Inv g.m g.tag w
 tags:∀a t,g.tag a=some t->(∃t',t=.outer t')\/(∃k,t=.obj (.x k))\/∃u,t=.tok u
 len:vs.length=args.length
 args:∀(j:Nat)v x,vs[j]?=some v->args[j]?=some x->RelV cfg g ZQ (Z6Q X) v x
 x:∀(k:Nat)cs,X[k]?=some cs->∀(j:Nat)c,cs[j]?=some c->∃v,w.cell? ((g.ad (.x k)).add j)=some v/\g.tag ((g.ad (.x k)).add j)=some (.obj (.x k))/\RelC cfg g ZQ v c
 bs:∀t,t.isR=true->g.bs t=none
 ls:∀t x,Zy (λ_=>none) L t=some x->LRel cfg w g t x
structure Leave(cfg:Cfg U)(w:World)(g:Gh)(w':World)(g':Gh)(v:Value)(r:V U)(X:List (List (C U)))(L:List (Tok×LC U)):Prop where
 inv:Inv g'.m g'.tag w'
 fr:Fr ⟨w,g.m,g.tag,λk=>g'.ad (.x k)⟩ g' w'
 tags:∀a t,g'.tag a=some t->(∃t',t=.outer t')\/(∃k,k<X.length/\t=.obj (.x k))\/∃u,t=.tok u
 ad:∀k,r≠.ptr (.x k) 0->g'.ad (.x k)=g.ad (.x k)val:RelV cfg g' ZQ (λ_=>false) v r
 x:∀(k:Nat)cs,X[k]?=some cs->∀(j:Nat)c,cs[j]?=some c->∃v,w'.cell? ((g'.ad (.x k)).add j)=some v/\g'.tag ((g'.ad (.x k)).add j)=some (.obj (.x k))/\RelC cfg g' ZQ v c
 ls:∀t x,Zy (λ_=>none) L t=some x->LRel cfg w' g' t x
def ZtD(cfg:Cfg U)(m:Addr->Option Value)(T:U.Ty)(l:List (U.El T))(vs:List Value):Prop:=vs.length=l.length*cfg.sz T/\∀i x,l[i]?=some x->∀j c,(cfg.enc T x)[j]?=some c->∃u,vs[i*cfg.sz T+j]?=some u/\SimC cfg m u c
def Zoe(P:Program)(cfg:Cfg U)(f:FuncId)(i:InL U):Prop:=∀(w:World)(m:Addr->Option Value)(l:List (U.El i.T))(b:Option Addr)(cap:Nat)(vs:List Value),ZtD cfg m i.T l vs->(b=none->l=[]/\cap=0)->l.length<=cap->l.length<=1000000000->(∀a,b=some a->∀(j:Nat)u,vs[j]?=some u->w.cell? (a.add j)=some u/\w.frozen? (a.add j)=false)->Calls P f #[.slice b l.length cap,.func (.func i.g) #[] #[]] w λe w'=>(∃u,e=.returned u)/\(i.F l).length=l.length/\∃vs':List Value,ZtD cfg m i.T (i.F l) vs'/\Evo w w' (λc=>∃a j,b=some a/\j<vs.length/\c=a.add j)/\∀a,b=some a->∀(j:Nat)u,vs'[j]?=some u->w'.cell? (a.add j)=some u
def ZJn(P:Program)(f:FuncId)(k:Nat):Prop:=∀(w:World)(a b:Addr)(z:Int)(p:Option Addr)(n c:Nat),w.cell? a=some (.pointer (some b))->w.cell? (b.add k)=some (.int .i64 z)->Calls P f #[.slice p n c,.pointer (some a)] w λe w'=>e=.returned (.agg #[.int .i64 z,.slice none 0 0,.slice p n c])/\Evo w w' λ_=>False
def ZEf(P:Program)(cfg:Cfg U)(f:FuncId)(i:InL U):Prop:=(i.look=none->Zoe P cfg f i)/\∀k,i.look=some k->ZJn P f k
def Contract(P:Program)(cfg:Cfg U)(f:FuncId)(s:Fs U):Prop:=(∃fn,P.funcs[f]?=some fn∧fn.body.isSome=true∧(fn.name== "runtime.NumGoroutine")=false)∧(∀args X L ps r X' L',s.fn2 args X L=some (ps,r,X',L')->All ps->X'.length<=X.length+1->∀w g vs,Entry cfg w g vs args X L->Calls P f vs.toArray w λe w'=>∃v g',e=.returned v/\Leave cfg w g w' g' v r X' L')/\∀i,s.inp=some i->ZEf P cfg f i
def ZAC(P:Program)(cfg:Cfg U)(f:FuncId)(s:Fs U):Prop:=∀args X ps r X',s.fn args X=some (ps,r,X')->All ps->X'.length<=X.length+1->∀w g vs,Entry cfg w g vs args X []->Calls P f vs.toArray w λe w'=>∃v g',e=.returned v/\Leave cfg w g w' g' v r X' []
theorem Jp{f:FuncId}{s:Fs U}(h0:∃fn,P.funcs[f]?=some fn∧fn.body.isSome=true∧(fn.name== "runtime.NumGoroutine")=false)(hd:s.fn2=ZbF s.fn)(h:ZAC P cfg f s)(hi:s.inp=none:=by rfl):Contract P cfg f s:=by
 refine⟨h0,λargs X L ps r X' L' d=>?_,λi h=>by rw[hi]at h;cases h⟩;rw[hd]at d;unfold ZbF at d;split at d
 .split at d
  .rename_i h1;cases d;exact h args X _ _ _ h1
  .cases d
 .cases d
theorem Contract.one{f:FuncId}{s:Fs U}(h:Contract P cfg f s)(hd:s.fn2=ZbF s.fn):ZAC P cfg f s:=by intro args X d r X' hs;exact h.2.1 args X [] d r X' [] (by rw[hd];simp only[ZbF,hs])
theorem SimC.tl{m:Addr->Option Value}{v:Value}{T:U.Ty}{l:List (U.El T)}{tl:Tail}(tl':Tail)(h:SimC cfg m v (.slice T l tl)):SimC cfg m v (.slice T l tl'):=by cases h with|snil=>exact .snil T tl'|slice _ _ _ b len cap vs hl hc hm hs=>exact .slice T l tl' b len cap vs hl hc hm hs
def Ext(s s':List (Tok×Tok)):Prop:=(∀t t':Tok,YN s t=some t'->YN s' t=some t')/\∀t t':Tok,Z1E s t=some t'->Z1E s' t=some t'
theorem Ext.refl(s:List (Tok×Tok)):Ext s s:=⟨λ_ _ h=>h,λ_ _ h=>h⟩
theorem Ext.trans{a b c:List (Tok×Tok)}(h:Ext a b)(k:Ext b c):Ext a c:=⟨λt t' d=>k.1 _ _ (h.1 _ _ d),λt t' d=>k.2 _ _ (h.2 _ _ d)⟩
theorem Ext.cons{seen:List (Tok×Tok)}{t nm:Tok}(h1:YN seen t=none)(h2:Z1E seen nm=none):Ext seen ((t,nm)::seen):=by
 refine⟨λu d hu=>?_,λu d hu=>?_⟩;.simp only[YN];grind
 .simp only[Z1E];grind
theorem Zgh:∀{s:List (Tok×Tok)}{t t':Tok},YN s t=some t'->(s.map (·.1)).contains t=true
 |(x,y)::r,t,t',h=>by
  simp only[YN]at h;split at h;.grind
  .have:=Zgh h;grind
def Zjg(g:Gh)(s:List (Tok×Tok))(t:Tok):Option (Value×Nat):=match Z1E s t with|none=>none|some u=>g.bs u
def Gh.callee(g:Gh)(nx:Name->Option Nat)(s:List (Tok×Tok))(ax:Nat->Addr):Gh:=
 {m:=g.m
  tag:=λc=>match g.tag c with
   |some (.obj nm)=>match nx nm with
    |some k=>some (.obj (.x k))|none=>some (.outer (.obj nm))
   |some (.tok t)=>match YN s t with
    |some t'=>some (.tok t')|none=>some (.outer (.tok t))
   |some (.outer t)=>some (.outer (.outer t))|none=>none
  ad:=λnm=>match nm with|.x k=>ax k|.loc s=>g.ad (.loc s)
  bs:=λt=>if t.isR=true then none else Zjg g s t}
theorem Z1n{m:Tok->Option (LC U)}{s:List (Tok×Tok)}:∀(l:List Tok){t:Tok}{x:LC U},Zy (λ_=>none) (Jg m s l) t=some x->∃u,Z1E s t=some u/\YN s u=some t/\m u=some x/\t.isR=false
 |[],t,x,h=>by trivial|t0::l,t,x,h=>by
  simp only[Jg]at h;split at h
  .rename_i u hu;split at h
   .rename_i t' y h1 h2;split at h
    .rename_i hc;obtain⟨d,aa⟩:=hc;subst d;simp only[Zy]at h;split at h;.grind
     .exact Z1n l h
    .exact Z1n l h
   .exact Z1n l h
  .exact Z1n l h
section pass
variable{nx:Name->Option Nat}{ax:Nat->Addr}
structure Ren(ok:Tok->Bool)(g:Gh)(s:List (Tok×Tok))(g2:Gh):Prop where
 m:g2.m=g.m
 tok:∀c t t',g.tag c=some (.tok t)->YN s t=some t'->g2.tag c=some (.tok t')bs:∀t t' v,ok t=true->Z1E s t=some t'->g.bs t'=some v->g2.bs t=some v
def Z3u(t:Tok):Bool:=!t.isR
theorem Gh.callee_ren(s:List (Tok×Tok)):Ren Z3u g s (g.callee nx s ax):=⟨rfl,λc t t' d h2=>by simp only[Gh.callee,d,h2],λt t' v d h2 h3=>by simp only[Z3u,QX]at d;simp only[Gh.callee,d,Zjg,h2];exact h3⟩
theorem Zh0{s:List (Tok×Tok)}{c:Addr}{t:Tag}:(g.callee nx s ax).tag c=some (.outer t)↔(g.tag c=some t/\(∀nm,t=.obj nm->nx nm=none)/\(∀u,t=.tok u->YN s u=none)):=by simp only[Gh.callee];cases hgt:g.tag c with|none=>simp|some t0=>cases t0 with
  |obj nm=>cases hn:nx nm with
   |none=>
    simp only[hn];constructor;.intro h;cases h;exact⟨rfl,λaa e=>by cases e;exact hn,λu e=>by cases e⟩
    .rintro⟨d,_,_⟩;cases d;rfl|some k=>
    simp only[hn];constructor;.intro h;cases h
    .rintro⟨d,h2,_⟩;cases d;rw[h2 nm rfl]at hn;cases hn
  |tok u=>cases hn:YN s u with
   |none=>
    simp only[hn];constructor;.intro h;cases h;exact⟨rfl,λaa e=>by(cases e),λu' e=>by cases e;exact hn⟩
    .rintro⟨d,_,_⟩;cases d;rfl|some k=>
    simp only[hn];constructor;.intro h;cases h
    .rintro⟨d,_,h2⟩;cases d;rw[h2 u rfl]at hn;cases hn
  |outer t0=>
   simp only;constructor;.intro h;cases h;exact⟨rfl,λaa e=>by(cases e),λu' e=>by(cases e)⟩
   .rintro⟨d,_,_⟩;cases d;rfl
theorem Z7j{s:List (Tok×Tok)}{c:Addr}{t:Tag}(ht:(g.callee nx s ax).tag c=some t):∃t0,g.tag c=some t0:=by simp only[Gh.callee]at ht;cases hgt:g.tag c with|none=>simp[hgt]at ht|some t0=>exact⟨t0,rfl⟩
theorem Z7k{s:List (Tok×Tok)}{c:Addr}(hc:g.tag c=none):(g.callee nx s ax).tag c=none:=by simp only[Gh.callee,hc]
theorem Z8Y{okT mine:Tok->Bool}{nm:Tok}{c:C U}{seen:List (Tok×Tok)}(hmine:∀t,mine t=true->st.dead t=false)(hok:okT nm=true):Ext seen (Z0N mine nm c seen).2/\∀s',Ext (Z0N mine nm c seen).2 s'->∀g2,Ren okT g s' g2->∀v,RelC cfg g st.dead v c->RelC cfg g2 ZQ v (Z0N mine nm c seen).1:=by
 unfold Z0N;split
 .rename_i T l t;split
  .rename_i hc;simp only[Q2,QF]at hc;refine⟨Ext.cons hc.1.2 hc.2,λs' hs g2 hg v d=>⟨by rw[hg.m];exact d.1.tl _,?_⟩⟩;intro _ b len ai hv j h1 h2;have h3:=d.2 (hmine t hc.1.1) b len ai hv j h1 h2;have h4:YN s' t=some nm:=hs.1 t nm (by simp[YN]);exact hg.tok _ _ _ h3 h4
  .exact⟨.refl _,λs' _ g2 hg v d=>⟨by rw[hg.m];exact d.1.tl _,trivial⟩⟩
 .rename_i t;split
  .rename_i hc;simp only[Q2,QF]at hc;refine⟨Ext.cons hc.1.2 hc.2,λs' hs g2 hg v d=>⟨.mref _ _ d.1.one,λ_=>?_⟩⟩;obtain⟨sz,h3⟩:=d.2 (hmine t hc.1.1);have h4:Z1E s' nm=some t:=hs.2 nm t (by simp[Z1E]);exact⟨sz,hg.bs _ _ _ hok h4 h3⟩
  .exact⟨.refl _,λs' _ g2 hg v d=>⟨.jk _ d.1.one,trivial⟩⟩
 .exact⟨.refl _,λs' _ g2 hg v d=>⟨.jk _ d.1.one,trivial⟩⟩
 .rename_i ar al am;refine⟨.refl _,λs' _ g2 hg v d=>⟨by rw[hg.m];exact d.1,?_⟩⟩;have h2:=d.2;cases c with
  |slice T l tl=>cases tl with|unk=>trivial|full=>exact h2|own t=>grind
  |mref t=>grind|xp k=>grind|_=>trivial
theorem Z7x{okT mine:Tok->Bool}{nm:Nat->Tok}(hmine:∀t,mine t=true->st.dead t=false)(hok:∀j,okT (nm j)=true):∀(cs:List (C U))(j:Nat)(seen:List (Tok×Tok)),Ext seen (Jc mine nm j cs seen).2/\(Jc mine nm j cs seen).1.length=cs.length/\∀s',Ext (Jc mine nm j cs seen).2 s'->∀g2,Ren okT g s' g2->∀(i:Nat)v c c',cs[i]?=some c->(Jc mine nm j cs seen).1[i]?=some c'->RelC cfg g st.dead v c->RelC cfg g2 ZQ v c'|[],j,seen=>⟨.refl _,rfl,λs' _ g2 _ i v c c' hc=>by simp at hc⟩|c::cs,j,seen=>by obtain⟨h1,h2⟩:=Z8Y (cfg:=cfg) (g:=g) (okT:=okT) (nm:=nm j) (c:=c) (seen:=seen) hmine (hok j);obtain⟨h3,h4,h5⟩:=Z7x (okT:=okT) (mine:=mine) (nm:=nm) hmine hok cs (j+1) (Z0N mine (nm j) c seen).2;refine⟨h1.trans h3,by simp[Jc,h4],λs' hs g2 hg i v c0 c' hc d hr=>?_⟩;cases i with|zero=>simp[Jc]at hc d;subst hc d;exact h2 s' (h3.trans hs) g2 hg v hr|succ i=>simp[Jc]at hc d;exact h5 s' hs g2 hg i v c0 c' hc d hr
theorem Zub{mine:Tok->Bool}{nm:Tok}{c:C U}{seen:List (Tok×Tok)}(hmine:∀t,mine t=true->st.dead t=false)(hok:Z3u nm=true):Ext seen (Z0N mine nm c seen).2/\∀d,Ext (Z0N mine nm c seen).2 d->∀v,RelC cfg g st.dead v c->RelC cfg (g.callee nx d ax) ZQ v (Z0N mine nm c seen).1:=let⟨h1,h2⟩:=Z8Y (cfg:=cfg) (g:=g) (nm:=nm) (c:=c) (seen:=seen) hmine hok
 ⟨h1,λd hs v hr=>h2 d hs _ (Gh.callee_ren d) v hr⟩
theorem ZmN{mine:Tok->Bool}{nm:Nat->Tok}(hmine:∀t,mine t=true->st.dead t=false)(hok:∀j,Z3u (nm j)=true)(cs:List (C U))(j:Nat)(seen:List (Tok×Tok)):Ext seen (Jc mine nm j cs seen).2/\(Jc mine nm j cs seen).1.length=cs.length/\∀d,Ext (Jc mine nm j cs seen).2 d->∀(i:Nat)v c c',cs[i]?=some c->(Jc mine nm j cs seen).1[i]?=some c'->RelC cfg g st.dead v c->RelC cfg (g.callee nx d ax) ZQ v c':=let⟨h1,h2,h3⟩:=Z7x (cfg:=cfg) (g:=g) (mine:=mine) (nm:=nm) hmine hok cs j seen
 ⟨h1,h2,λd hs i v c c' hc aa hr=>h3 d hs _ (Gh.callee_ren d) i v c c' hc aa hr⟩
theorem Zxp{mine:Tok->Bool}{nm:Nat->Tok}{live lx:Name->Bool}(hmine:∀t,mine t=true->st.dead t=false)(hok:∀j,Z3u (nm j)=true){x x':V U}{seen seen':List (Tok×Tok)}(he:Zxq mine nm x seen=some (x',seen')):Ext seen seen'/\∀d,Ext seen' d->∀v,RelV cfg g st.dead live v x->RelV cfg (g.callee nx d ax) ZQ lx v x':=by
 unfold Zxq at he;split at he
 .rename_i c;simp only[oP]at he;obtain⟨rfl,rfl⟩:=he;obtain⟨h1,h2⟩:=Zub (cfg:=cfg) (g:=g) (nx:=nx) (ax:=ax) (nm:=nm 0) (c:=c) (seen:=seen) hmine (hok 0);trivial
 .rename_i cs;simp only[oP]at he;obtain⟨rfl,rfl⟩:=he;obtain⟨h3,h4,h5⟩:=ZmN (cfg:=cfg) (g:=g) (nx:=nx) (ax:=ax) (mine:=mine) (nm:=nm) hmine hok cs 0 seen;refine⟨h3,λd hs v hr=>?_⟩;obtain⟨vs,rfl,hl,hh⟩:=hr;refine⟨vs,rfl,Yp,λj u c hu hc=>?_⟩;grind
 .rename_i f;simp only[oP]at he;obtain⟨rfl,rfl⟩:=he;exact⟨.refl _,λd _ v hr=>hr⟩
 .simp only[oP]at he;obtain⟨rfl,rfl⟩:=he;exact⟨.refl _,λd _ v hr=>hr⟩
 .cases he
def Zof(os:List (Name×List (C U))):Prop:=∀(i j:Nat)x y,os[i]?=some x->os[j]?=some y->x.1=y.1->i=j
theorem Z75:∀{os:List (Name×List (C U))}{nm:Name}{i:Nat}{x:Name×List (C U)},os[i]?=some x->x.1=nm->Zbs os nm=true|(b,cs)::os,nm,0,x,h,e=>by simp at h;subst h;simp[Zbs];exact .inl e|(b,cs)::os,nm,i+1,x,h,e=>by simp at h;simp only[Zbs,Z75 h e];split<;>rfl
theorem Z6I:∀{os:List (Name×List (C U))}{k:Nat}{nm:Name}{i:Nat},Yk os k nm=some i->∃x,k<=i/\os[i-k]?=some x/\x.1=nm
 |(b,cs)::os,k,nm,i,h=>by
  simp only[Yk]at h;split at h;.simp_all
  .obtain⟨x,d,h2,h3⟩:=Z6I h;grind
theorem Zcv:∀{os:List (Name×List (C U))}{k:Nat}{nm:Name}{i:Nat}{x:Name×List (C U)},Zof os->os[i]?=some x->x.1=nm->Yk os k nm=some (k+i)|(b,cs)::os,k,nm,0,x,_,h,e=>by simp at h;subst h;simp[Yk];grind|(b,cs)::os,k,nm,i+1,x,hap,h,e=>by simp only[Yk];rw[if_neg (λe'=>by have:=hap 0 (i+1) (b,cs) x rfl h (by simp[e',e]);omega)];have:=Zcv (k:=k+1) (nm:=nm) (λi j x y d hy he=>by have:=hap (i+1) (j+1) x y (by simpa using d) (by simpa using hy) he;omega) (by simpa using h) e;grind
theorem Zdx{os:List (Name×List (C U))}{nm:Name}(h:∀(i:Nat)x,os[i]?=some x->x.1≠nm)(k:Nat):Yk os k nm=none:=by cases hn:Yk os k nm with|none=>rfl|some i=>obtain⟨x,_,d,h3⟩:=Z6I hn;grind
theorem Z1k{ps:Nat->Bool}:∀(xs:List (V U))(i:Nat)(os:List (Name×List (C U)))(seen:List (Tok×Tok))(ys:List (V U))(os':List (Name×List (C U)))(seen':List (Tok×Tok)),Yb st ps i xs os seen=some (ys,os',seen')->Zof os->Ext seen seen'/\(∃more,os'=os++more)/\Zof os'/\ys.length=xs.length/\(∀(k:Nat)x,os'[k]?=some x->os.length<=k->∃cs,st.mem x.1=some cs/\x.2.length=cs.length/\∀s',Ext seen' s'->∀nx ax(i:Nat)v c c',cs[i]?=some c->x.2[i]?=some c'->RelC cfg g st.dead v c->RelC cfg (g.callee nx s' ax) ZQ v c')/\(∀s',Ext seen' s'->∀nx ax,(∀(k:Nat)x,os'[k]?=some x->ax k=g.ad x.1)->∀(j:Nat)v x y,xs[j]?=some x->ys[j]?=some y->RelV cfg g st.dead (λnm=>(st.mem nm).isSome) v x->RelV cfg (g.callee nx s' ax) ZQ (λnm=>match nm with|.x k=>(os'[k]?).isSome|.loc _=>false) v y)
 |[],i,os,seen,ys,os',seen',h,hap=>by
  simp only[Yb,oP]at h;obtain⟨rfl,rfl,rfl⟩:=h;exact⟨.refl _,⟨[],by simp⟩,hap,rfl,λk x d hk=>by grind,λs' _ nx ax _ j v x y d=>by simp at d⟩|x0::xs,i,os,seen,ys,os',seen',h,hap=>by
  simp only[Yb]at h;split at h
  .rename_i nm mk hp;split at h;.cases h
   .rename_i cs bb;split at h;.cases h
    .rename_i au;split at h
     .rename_i vs am s1 ah;simp only[oP]at h;obtain⟨rfl,rfl,rfl⟩:=h;have aa:∀t,(λt=>!st.dead t) t=true->st.dead t=false:=λt ht=>by simpa using ht
      have ao:Zof (os++[(nm,(Jc (λt=>!st.dead t) (.x os.length) 0 cs seen).1)]):=by
       intro p q x y d hy he;rw[QK]at d hy;have ab:∀(r:Nat)(z z0:Name×List (C U)),[z0][r]?=some z->r=0/\z=z0:=by intro r z z0 hz;cases r with|zero=>simp at hz;exact⟨rfl,hz.symm⟩|succ r=>simp at hz
       split at d<;>split at hy;.exact hap p q x y d hy he
       .obtain⟨_,rfl⟩:=ab _ _ _ hy;exact absurd (Z75 d he) au
       .obtain⟨_,rfl⟩:=ab _ _ _ d;exact absurd (Z75 hy he.symm) au
       .grind
      obtain⟨r1,⟨more,r2⟩,r3,r4,r5,r6⟩:=Z1k xs (i+1) _ _ _ _ _ ah ao;have hC:=λnx ax=>ZmN (cfg:=cfg) (g:=g) (nx:=nx) (ax:=ax) (mine:=λt=>!st.dead t) (nm:=.x os.length) aa (λ_=>rfl) cs 0 seen;have ai:am[os.length]?=some (nm,(Jc (λt=>!st.dead t) (.x os.length) 0 cs seen).1):=by rw[r2,Q7,Qv (Qc _)];simp
      refine⟨(hC (λ_=>none) (λ_=>⟨0,0,none⟩)).1.trans r1,⟨(nm,(Jc (λt=>!st.dead t) (.x os.length) 0 cs seen).1)::more,by rw[r2];simp⟩,r3,by simp[r4],?_,?_⟩
      .intro k x d hk;by_cases e:k=os.length
       .subst e;rw[ai]at d;cases d;exact⟨cs,bb,(hC (λ_=>none) (λ_=>⟨0,0,none⟩)).2.1,λs' hs nx ax q v c c' h1 h2 h3=>(hC nx ax).2.2 s' (r1.trans hs) q v c c' h1 h2 h3⟩
       .exact r5 k x d (by simp;omega)
      .intro s' hs nx ax ak j v x y d hy hr;cases j with
       |zero=>
        simp at d hy;subst d hy;have:=ak _ _ ai;simp only at this;cases x0<;>simp only[ZoW,reduceCtorEq]at hp;case ptr nm0 off0=>cases hp;obtain⟨_,rfl⟩:=hr;exact⟨by simp[ai],by simp[Gh.callee,this]⟩
        case clo f0 nms0=>
         split at hp;.grind
         .rename_i f1 bh a8;cases a8;cases hp;obtain⟨_,rfl⟩:=hr;refine⟨λn hn=>?_,by simp[Gh.callee,this]⟩;grind
         .grind
         .cases hp
        case ifp t0 nm0=>cases hp;obtain⟨_,rfl⟩:=hr;exact⟨by simp[ai],by simp[Gh.callee,this]⟩|succ j=>exact r6 s' hs nx ax ak j v x y (by simpa using d) (by simpa using hy) hr
     .cases h
  .rename_i hp;split at h;.cases h
   .rename_i v' a2 hv;split at h
    .rename_i vs am s1 ah;simp only[oP]at h;obtain⟨rfl,rfl,rfl⟩:=h;obtain⟨r1,r2,r3,r4,r5,r6⟩:=Z1k xs (i+1) _ _ _ _ _ ah hap;have aa:∀t,(λt=>ps i&&!st.dead t) t=true->st.dead t=false:=λt ht=>by grind
     have hV:=λnx ax lx=>Zxp (cfg:=cfg) (g:=g) (nx:=nx) (ax:=ax) (live:=λnm=>(st.mem nm).isSome) (lx:=lx) aa (λ_=>rfl) hv;refine⟨(hV (λ_=>none) (λ_=>⟨0,0,none⟩) (λ_=>true)).1.trans r1,r2,r3,by simp[r4],r5,?_⟩;intro s' hs nx ax ak j v x y d hy hr;cases j with|zero=>simp at d hy;subst d hy;exact(hV nx ax _).2 s' (r1.trans hs) v hr|succ j=>grind
    .cases h
end pass
def Gh.back(g':Gh)(os:List (Name×List (C U)))(d:Nat)(ad:Name->Addr)(L:List (Tok×LC U))(bs:Tok->Option (Value×Nat)):Gh:=
 {m:=g'.m
  tag:=λc=>match g'.tag c with
   |some (.outer t)=>some t|some (.obj (.x k))=>(os[k]?).map λx=>.obj x.1|some (.tok t)=>(ZZ d t).map .tok|_=>none
  ad:=ad
  bs:=λt=>match bs t with
   |some v=>some v|none=>match Z1S d t with
    |some t'=>match Zy (λ_=>none) L t' with
     |some _=>g'.bs t'|none=>none
    |none=>none}
theorem Z3x{d:Nat}{t t':Tok}(h:ZZ d t=some t'):Z1S d t'=some t:=by
 unfold ZZ at h;split at h
 .rename_i j;cases h;simp only[Z1S,if_true];grind
 .rename_i k j;split at h;.rename_i hj;cases h;simp only[Z1S,if_true];grind
  .cases h
 .cases h
section back
variable{g':Gh}{os:List (Name×List (C U))}{d:Nat}{ad:Name->Addr}{L:List (Tok×LC U)}{bs:Tok->Option (Value×Nat)}{dead:Tok->Bool}{live lv:Name->Bool}{fx:Nat->Option Nat}
theorem RelC.back(hbs:∀t t',Z0D d L t=some t'->bs t'=none)(hx:∀k k',fx k=some k'->g'.ad (.x k)=ad (.x k')){v:Value}{c:C U}(h:RelC cfg g' ZQ v c):RelC cfg (g'.back os d ad L bs) dead v (c.mapTok (ZZ d) (Z0D d L) fx):=by obtain⟨h1,h2⟩:=h;cases c with
 |slice T l tl=>cases tl with
  |unk=>trivial|full=>trivial|own t=>
   simp only[C.mapTok];cases hb:ZZ d t with
   |none=>exact⟨h1.tl _,trivial⟩|some t'=>refine⟨h1.tl _,λ_ b len ab hv j ae ah=>?_⟩;have:=h2 rfl b len ab hv j ae ah;simp only[Gh.back,this,hb,Qk]
 |mref t=>simp only[C.mapTok];cases hb:Z0D d L t with|none=>exact⟨.jk _ h1.one,trivial⟩|some t'=>refine⟨.mref _ _ h1.one,λ_=>?_⟩;obtain⟨sz,hs⟩:=h2 rfl;refine⟨sz,?_⟩;have h0:=hbs t t' hb;unfold Z0D at hb;cases hL:Zy (λ_=>none) L t with|none=>grind|some x=>rw[hL]at hb;simp only[Gh.back,h0,Z3x hb,hL,hs]
 |xp k=>
  simp only[C.mapTok];cases hk:fx k with|none=>exact⟨.jk _ h1.one,trivial⟩|some k'=>
   refine⟨.xp _ _ h1.one,?_⟩;have h3:v=.pointer (some (g'.ad (.x k))):=h2;show v=.pointer (some (ad (.x k')));grind
 |_=>trivial
theorem RelL.back(hbs:∀t t',Z0D d L t=some t'->bs t'=none)(hx:∀k k',fx k=some k'->g'.ad (.x k)=ad (.x k')){vs:List Value}{cs:List (C U)}(h:RelL cfg g' ZQ vs cs):RelL cfg (g'.back os d ad L bs) dead vs (cs.map (C.mapTok (ZZ d) (Z0D d L) fx)):=by refine⟨by simp[h.1],λj v c hv hc=>?_⟩;rw[Qz]at hc;cases hcj:cs[j]? with|none=>grind|some c0=>simp[hcj]at hc;subst hc;exact(h.2 j v c0 hv hcj).back hbs hx
theorem RelV.back(hbs:∀t t',Z0D d L t=some t'->bs t'=none)(hx:∀k k',fx k=some k'->g'.ad (.x k)=ad (.x k')){v:Value}:∀{x:V U},RelV cfg g' ZQ (λ_=>false) v x->RelV cfg (g'.back os d ad L bs) dead live v (x.mapTok (ZZ d) (Z0D d L) fx)
 |.c x,h=>RelC.back hbs hx (c:=x) h|.agg cs,h=>by obtain⟨vs,h1,h2⟩:=h;exact⟨vs,h1,h2.back hbs hx⟩|.tup ws,h=>by obtain⟨vs,h1,h2,h3⟩:=h;refine⟨vs,h1,by simp[h2],λj u w hu hw=>?_⟩;rw[Qz]at hw;cases hj:ws[j]? with
  |none=>grind|some w0=>
   simp[hj]at hw;subst hw;have:=h3 j u w0 hu hj;obtain⟨ag,cs⟩:=w0;cases ag with
   |true=>obtain⟨vs,h4,h5⟩:=this;exact⟨vs,h4,h5.back hbs hx⟩|false=>obtain⟨c,h4,h5⟩:=this;simp only at h4;subst h4;exact⟨_,rfl,h5.back hbs hx⟩
 |.ptr ..,_=>trivial|.ap ..,_=>trivial|.ep cs,h=>by obtain⟨b,h1,h2⟩:=h;refine⟨b,h1,λj c hc=>?_⟩;rw[Qz]at hc;cases hcj:cs[j]? with
  |none=>grind|some c0=>
   simp[hcj]at hc;subst hc;obtain⟨u,h3,h4⟩:=h2 j c0 hcj;exact⟨u,h3,h4.back hbs hx⟩
 |.fn f,h=>h|.mp ..,_=>trivial|.vw ..,_=>trivial|.clo ..,_=>trivial|.ifp ..,_=>trivial|.kv _,h=>h|.gd b x,h=>⟨λhb=>RelV.back hbs hx (h.1 hb),h.2⟩|.nb _ _,h=>h|.junk,_=>trivial
end back
theorem ZdJ{d:Nat}:∀{L l:List (Tok×LC U)},J1 st d L=some l->(∀t x,Zy (λ_=>none) L t=some x->∃t',ZZ d t=some t'/\st.ls t'=none/\st.dead t'=false/\Zy st.ls l t'=some x)/\(∀t' x,Zy st.ls l t'=some x->(st.ls t'=some x/\∀t,ZZ d t=some t'->Zy (λ_=>none) L t=none)\/∃t,Zy (λ_=>none) L t=some x/\ZZ d t=some t'/\st.dead t'=false)
 |[],l,h=>by simp only[J1,Option.some.injEq]at h;subst h;exact⟨λt x hx=>by trivial,λt' x hx=>.inl ⟨hx,λt _=>rfl⟩⟩|(t0,x0)::L,l,h=>by
  simp only[J1]at h;split at h;case h_2=>cases h
  rename_i t1 l1 h1 h2;split at h;case isFalse=>cases h
  rename_i hc;simp only[Q2,QF,QX]at hc;simp only[Option.some.injEq]at h;subst h;obtain⟨aj,ak⟩:=ZdJ h2;have inj:∀{t:Tok},ZZ d t=some t1->t=t0:=by intro t ht;have e1:=Z3x ht;have e2:=Z3x h1;rw[e1]at e2;exact Option.some.inj e2
  refine⟨λt x hx=>?_,λt' x hx=>?_⟩
  .simp only[Zy]at hx;split at hx;.rename_i e;subst e;cases hx;exact⟨t1,h1,hc.1,hc.2,by simp[Zy]⟩
   .rename_i e;obtain⟨t',g1,g2,g3,g4⟩:=aj t x hx;refine⟨t',g1,g2,g3,?_⟩;simp only[Zy];grind
  .simp only[Zy]at hx;split at hx;.rename_i e;subst e;cases hx;exact .inr ⟨t0,by simp[Zy],h1,hc.2⟩
   .rename_i e;rcases ak t' x hx with⟨g1,g2⟩|⟨t,g1,g2,g3⟩;.refine .inl ⟨g1,λt ht=>?_⟩;simp only[Zy];grind
    .refine .inr ⟨t,?_,g2,g3⟩;simp only[Zy];grind
theorem ZaD{d:Nat}{L:List (Tok×LC U)}{fx:Nat->Option Nat}:∀{os:List (Name×List (C U))}{xs:List (List (C U))}{m:List (Name×List (C U))},Z3R d L fx os xs=some m->xs.length=os.length/\m.length=os.length/\∀(k:Nat)x cs,os[k]?=some x->xs[k]?=some cs->m[k]?=some (x.1,cs.map (C.mapTok (ZZ d) (Z0D d L) fx))|[],[],m,h=>by simp only[Z3R,Option.some.injEq]at h;grind|(nm,_)::os,cs0::xs,m,h=>by simp only[Z3R]at h;cases hr:Z3R d L fx os xs with|none=>simp[hr]at h|some m'=>simp only[hr,Qk,Option.some.injEq]at h;subst h;obtain⟨h1,h2,h3⟩:=ZaD hr;grind
theorem J0(m0:Name->Option (List (C U))):∀(m:List (Name×List (C U)))(nm:Name),(∃(k:Nat)(cs:List (C U)),m[k]?=some (nm,cs)/\ZX m0 m nm=some cs)\/((∀(k:Nat)x,m[k]?=some x->x.1≠nm)/\ZX m0 m nm=m0 nm)
 |[],nm=>.inr ⟨λk x d=>by simp at d,rfl⟩|(a,cs)::r,nm=>by
  simp only[ZX];split
  .rename_i e;subst e;exact .inl ⟨0,cs,rfl,rfl⟩
  .rename_i e;rcases J0 m0 r nm with⟨k,cs',h1,h2⟩|⟨h1,h2⟩;.exact .inl ⟨k+1,cs',by simpa using h1,h2⟩
   grind
theorem Z7K{xs:List Operand}{vs:List (V U)}(hm:xs.mapM st.opnd=some vs)(hop:∀x∈xs,∀v,st.opnd x=some v->RelV cfg g st.dead (λnm=>(st.mem nm).isSome) (a.eval x) v):(xs.map a.eval).length=vs.length/\∀(j:Nat)u x,(xs.map a.eval)[j]?=some u->vs[j]?=some x->RelV cfg g st.dead (λnm=>(st.mem nm).isSome) u x:=by
 have d:∀{xs:List Operand}{vs:List (V U)},xs.mapM st.opnd=some vs->xs.length=vs.length:=by
  intro xs;induction xs with
  |nil=>grind|cons y xs ih=>intro vs h;rw[QW]at h;cases h1:st.opnd y with|none=>simp[h1]at h|some v=>cases h2:xs.mapM st.opnd with|none=>grind|some r=>simp[h1,h2]at h;grind
 refine⟨by simp[d hm],λj u x hu hx=>?_⟩;rw[Qz]at hu;cases hj:xs[j]? with|none=>grind|some y=>simp[hj]at hu;subst hu;obtain⟨v,h1,h2⟩:=Z4D hm j y hj;grind
theorem ZnE(os:List (Name×List (C U))):∀(cs0 cs:List (C U)),cs.length=cs0.length->(ZnF os cs0 cs).length=cs.length|[],cs,h=>by rfl|c0::cs0,[],h=>by cases h|c0::cs0,c::cs,h=>by have d:=ZnE os cs0 cs (by simpa using h);cases c0<;>simp[ZnF,d]
theorem ZiU(os:List (Name×List (C U))):∀(cs0 cs:List (C U))(j:Nat)(c0 c:C U),cs.length=cs0.length->cs0[j]?=some c0->(ZnF os cs0 cs)[j]?=some c->cs[j]?=some c\/∃k k',c0=.xp k/\Yk os 0 (.x k)=some k'/\c=.xp k'
 |[],cs,j,c0,c,_,h,_=>by simp at h|d0::cs0,[],j,c0,c,hl,_,_=>by cases hl|d0::cs0,d::cs,0,c0,c,hl,h0,h=>by
  simp at h0;subst h0;cases d0 with|xp k=>simp only[ZnF]at h;grind|_=>exact .inl (by trivial)
 |d0::cs0,d::cs,j+1,c0,c,hl,h0,h=>by
  have ih:=ZiU os cs0 cs j c0 c (by simpa using hl) (by simpa using h0);cases d0<;>(simp only[ZnF,XU]at h⊢;exact ih h)
def Z8d(g:Gh)(os:List (Name×List (C U)))(k:Nat):Addr:=((os[k]?).map λx=>g.ad x.1).getD ⟨0,0,none⟩
theorem Zxo(h:Rel cfg B st g a w){ps:Nat->Bool}{pargs ys:List (V U)}{os:List (Name×List (C U))}{toks:List (Tok×Tok)}(hpass:Yb st ps 0 pargs [] []=some (ys,os,toks))(k:Nat)(cs:List (C U))(hk:(os.map λx=>Z9d st os (x.2,x.1))[k]?=some cs)(j:Nat)(c:C U)(hj:cs[j]?=some c):∃v,w.cell? (((g.callee (Yk os 0) toks (Z8d g os)).ad (.x k)).add j)=some v/\(g.callee (Yk os 0) toks (Z8d g os)).tag (((g.callee (Yk os 0) toks (Z8d g os)).ad (.x k)).add j)=some (.obj (.x k))/\RelC cfg (g.callee (Yk os 0) toks (Z8d g os)) ZQ v c:=by
 obtain⟨p1,_,p3,p4,p5,p6⟩:=Z1k (cfg:=cfg) (g:=g) _ _ _ _ _ _ _ hpass (λi j x y d=>by simp at d);have ab:∀(k:Nat)x,os[k]?=some x->Z8d g os k=g.ad x.1:=λk x d=>by simp[Z8d,d]
 rw[Qz]at hk;cases d:os[k]? with|none=>simp[d]at hk|some x=>
  simp[d]at hk;subst hk;obtain⟨ae,h1,h2,h3⟩:=p5 k x d (by simp);simp only[Z9d,h1]at hj;have aa:j<ae.length:=by have:=(Q4.1 hj).1;rw[ZnE os _ _ h2]at this;omega
  obtain⟨v,h4,h5,h6⟩:=h.mem x.1 ae h1 j _ (Q1 aa);have ai:(g.callee (Yk os 0) toks (Z8d g os)).ad (.x k)=g.ad x.1:=ab k x d;rw[ai];refine⟨v,h4,?_,?_⟩;rotate_left
  .rcases ZiU os _ _ j _ c h2 (Q1 aa) hj with hj1|⟨q,q',e0,hq,rfl⟩;.exact h3 toks (.refl _) _ _ j v _ c (Q1 aa) hj1 h6
   .rw[e0]at h6;have e1:v=.pointer (some (g.ad (.x q))):=h6.2;obtain⟨y,_,hy,ah⟩:=Z6I hq;refine⟨.xp _ _ h6.1.one,?_⟩;show v=.pointer (some (Z8d g os q'));rw[ab q' y (by simpa using hy),ah,e1]
  have hn:Yk os 0 x.1=some k:=by have:=Zcv (k:=0) p3 d rfl;simpa using this
  simp only[Gh.callee,h5,hn]
theorem Zjb{Γ:Known U}(hΓ:∀f s,Γ f=some s->Contract P cfg f s)(h:Rel cfg B st g a w){o:Oper}{f:FuncId}{pargs:List (V U)}{vals:List Value}{d:Nat}{s:Fs U}{ys us:List (V U)}{os:List (Name×List (C U))}{toks:List (Tok×Tok)}{ps':List Prop}{r:V U}{xs:List (List (C U))}{L0 ll:List (Tok×LC U)}{m:List (Name×List (C U))}(hen:∀fn,P.funcs[f]?=some fn→fn.body.isSome=true→(fn.name== "runtime.NumGoroutine")=false→(execOp a.eval o).run P w=.ok (.enter f vals.toArray) w)(hs:Γ f=some s)(hpass:Yb st s.pass 0 pargs [] []=some (ys,os,toks))(hlen:vals.length=us.length)(hus:∀(j:Nat)v x,vals[j]?=some v->us[j]?=some x->RelV cfg (g.callee (Yk os 0) toks (Z8d g os)) ZQ (Z6Q (os.map λx=>Z9d st os (x.2,x.1))) v x)(hfn:s.fn2 us (os.map λx=>Z9d st os (x.2,x.1)) (bif s.wr then Jg st.ls toks (toks.map (·.2))else[])=some (ps',r,xs,L0))(a6:¬r.isP=true)(hmb:Z3R d L0 (Z40 os) os xs=some m)(hlb:J1 st d L0=some ll)(hps:All ps'):Does P o a w λv w'=>∃g',Out cfg B st g ({val:=some (r.mapTok (ZZ d) (Z0D d L0) (Z40 os)),mem:=m,kill:=toks.map (·.1),ls:=ll}:Eff U) v w' g':=by
 have a6:∀k,r≠.ptr (.x k) 0:=λk e=>a6 (by rw[e];rfl);obtain⟨q1,q2⟩:=ZdJ hlb;obtain⟨⟨fn,cb,ch,cl⟩,bt,_⟩:=hΓ f s hs;obtain⟨p1,_,p3,p4,p5,p6⟩:=Z1k (cfg:=cfg) (g:=g) _ _ _ _ _ _ _ hpass (λi j x y hx=>by simp at hx);obtain⟨b1,b2,b3⟩:=ZaD hmb;let ax:Nat->Addr:=Z8d g os;have bu:∀(k:Nat)x,os[k]?=some x->ax k=g.ad x.1:=λk x hx=>by simp[ax,Z8d,hx]
 let gc:=g.callee (Yk os 0) toks ax;let XS:=os.map λx=>Z9d st os (x.2,x.1);have aq:∀c t,gc.tag c=some (.outer t)↔(g.tag c=some t/\(∀nm,t=.obj nm->Yk os 0 nm=none)/\(∀u,t=.tok u->YN toks u=none)):=λc t=>Zh0;have ao:∀c t,gc.tag c=some t->∃t0,g.tag c=some t0:=λc t=>Z7j;have av:∀c,g.tag c=none->gc.tag c=none:=λc=>Z7k;have ba:Entry cfg w gc vals us XS (bif s.wr then Jg st.ls toks (toks.map (·.2))else[]):=by
  refine⟨⟨λc v hv=>?_,λc t ht=>?_⟩,λc t ht=>?_,hlen,hus,λk cs hk j c hj=>?_,λt ht=>(by simp only[gc,Gh.callee,ht,if_true]),λt x hx=>?_⟩
  .obtain⟨h1,h2⟩:=h.inv.im c v hv;exact⟨h1,av c h2⟩
  .obtain⟨t0,ay⟩:=ao c t ht;exact h.inv.it c t0 ay
  .simp only[gc,Gh.callee]at ht;split at ht
   .split at ht;.cases ht;exact .inr (.inl ⟨_,rfl⟩)
    .cases ht;exact .inl ⟨_,rfl⟩
   .split at ht;.cases ht;exact .inr (.inr ⟨_,rfl⟩)
    .cases ht;exact .inl ⟨_,rfl⟩
   .cases ht;exact .inl ⟨_,rfl⟩
   .cases ht
  .exact Zxo h hpass k cs hk j c hj
  .have hx:Zy (λ_=>none) (Jg st.ls toks (toks.map (·.2))) t=some x:=by cases hw:s.wr with|true=>rw[hw]at hx;exact hx|false=>rw[hw]at hx;cases hx
   obtain⟨u,h5,h6,h7,h8⟩:=Z1n _ hx;obtain⟨_,hL⟩:=h.ls u x h7;have am:gc.bs t=g.bs u:=by simp only[gc,Gh.callee,h8,X9,if_false,Zjg,h5]
   have bz:∀c,g.tag c=some (.tok u)->gc.tag c=some (.tok t):=λc hc=>by simp only[gc,Gh.callee,hc,h6]
   rcases hL with⟨e1,e2⟩|⟨b,len,cap,e1,e2,e3,e4,e5,e6⟩;.exact .inl ⟨am.trans e1,e2⟩
   .refine .inr ⟨b,len,cap,am.trans e1,e2,e3,e4,λi y hy j c hc=>?_,λj a1 a2=>bz _ (e6 j a1 a2)⟩;obtain⟨v,e7,e8,e9,bk⟩:=e5 i y hy j c hc;exact⟨v,e7,e8,e9,λhi=>bz _ (bk hi)⟩
 have bh:=bt us XS _ _ r xs L0 hfn hps (by rw[b1];simp[XS]) w gc _ ba;refine .inr (.inr ⟨f,vals.toArray,w,hen fn cb ch cl,Calls.mono bh ?_⟩)
 .rintro e' w'⟨v,g',rfl,L⟩;refine⟨v,rfl,g'.back os d g.ad L0 g.bs,?_⟩;have c1:gc.m=g.m:=rfl;have ae:∀c t,g.tag c=some t->(∀nm,t=.obj nm->Yk os 0 nm=none)->(∀u,t=.tok u->YN toks u=none)->(g'.back os d g.ad L0 g.bs).tag c=some t/\w'.cell? c=w.cell? c:=by intro c t h1 h2 h3;have:=L.fr.outer c t ((aq c t).2 ⟨h1,h2,h3⟩);exact⟨by simp only[Gh.back,this.1],this.2⟩
  have bg:∀c t,(g'.back os d g.ad L0 g.bs).tag c=some t->∃t',g'.tag c=some t':=by
   intro c t ht;simp only[Gh.back]at ht;cases hgt:g'.tag c with|none=>simp[hgt]at ht|some t'=>exact⟨t',rfl⟩
  have az:∀t,Zp st ({val:=some (r.mapTok (ZZ d) (Z0D d L0) (Z40 os)),mem:=m,kill:=toks.map (·.1),ls:=ll}:Eff U) t=false->st.dead t=false/\YN toks t=none:=by
   intro t ht;simp only[Zp,QO]at ht;refine⟨ht.1,?_⟩;cases hn:YN toks t with|none=>rfl|some t'=>have:=Zgh hn;rw[ht.2]at this;cases this
  have aj:Keeps g (g'.back os d g.ad L0 g.bs) st.dead (Zp st ({val:=some (r.mapTok (ZZ d) (Z0D d L0) (Z40 os)),mem:=m,kill:=toks.map (·.1),ls:=ll}:Eff U)) (λnm=>(st.mem nm).isSome) (Yi st ({val:=some (r.mapTok (ZZ d) (Z0D d L0) (Z40 os)),mem:=m,kill:=toks.map (·.1),ls:=ll}:Eff U)):=by
   refine⟨λc v hv=>L.fr.mono c v hv,λc t hd ht=>?_,λt ht=>(az t ht).1,λnm hn=>⟨?_,rfl⟩,λt v _ hv=>by simp only[Gh.back,hv],λ_=>rfl⟩;.exact(ae c _ ht (λnm e=>by cases e) (λu e=>by cases e;exact(az _ hd).2)).1
   .simp only[Yi];rcases J0 st.mem m nm with⟨k,cs,_,h2⟩|⟨_,h2⟩;.rw[h2];try rfl
    .rw[h2];exact hn
  have am:∀t t',Z0D d L0 t=some t'->g.bs t'=none:=by intro t t' hb;unfold Z0D at hb;cases hx:Zy (λ_=>none) L0 t with
   |none=>rw[hx]at hb;cases hb|some x=>
    rw[hx]at hb;obtain⟨t2,g1,g2,g3,_⟩:=q1 t x hx;simp only at hb;rw[hb]at g1;cases g1;refine h.fresh t' ?_ g2 g3;unfold ZZ at hb;split at hb;.cases hb;rfl
    .split at hb;.cases hb;rfl
     .cases hb
    .cases hb
  have b0:∀k k',Z40 os k=some k'->g'.ad (.x k)=g.ad (.x k'):=by
   intro k k' hk;unfold Z40 at hk;split at hk
   .rename_i hx;cases hk;exact(L.ad k (a6 k)).trans (bu k _ hx)
   .cases hk
  have bn:∀t x,JV st.ls ({val:=some (r.mapTok (ZZ d) (Z0D d L0) (Z40 os)),mem:=m,kill:=toks.map (·.1),ls:=ll}:Eff U) t=some x->(toks.map (·.1)).contains t=false/\Zy st.ls ll t=some x:=by intro t x hx;unfold JV at hx;cases hk:(toks.map (·.1)).contains t with|true=>simp only[hk,cond_true,reduceCtorEq]at hx|false=>simp only[hk,cond_false]at hx;exact⟨rfl,hx⟩
  refine⟨⟨λc v hv=>?_,λc t ht=>?_⟩,?_,aj,?_,L.val.back am b0,?_,?_⟩;.obtain⟨h1,h2⟩:=L.inv.im c v hv;exact⟨h1,by simp only[Gh.back,h2]⟩
  .obtain⟨t',bf⟩:=bg c t ht;exact L.inv.it c t' bf
  .refine⟨h.fr.stay.trans L.fr.stay,h.fr.xad,λc v hv=>L.fr.mono c v (h.fr.mono c v hv),λc t ht=>?_,λc t ht=>?_,λb hb bv=>?_,λc hc=>(L.fr.frz c (X5 hc h.fr.stay.size)).trans (h.fr.frz c hc)⟩;.obtain⟨h1,h2⟩:=h.fr.outer c t ht;obtain⟨h3,h4⟩:=ae c _ h1 (λnm e=>by cases e) (λu e=>by cases e);exact⟨h3,h4.trans h2⟩
   .simp only[Gh.back]at ht;split at ht
    .rename_i t' bf;cases ht;have:=(aq c _).1 (L.fr.outer' c _ bf);exact h.fr.outer' c t this.1
    .cases hx:os[‹Nat›]? with
     |none=>simp[hx]at ht|some x=>simp[hx]at ht
    .cases hx:ZZ d ‹Tok›with|none=>simp[hx]at ht|some x=>simp[hx]at ht
    .cases ht
   .obtain⟨h1,h2⟩:=h.fr.clean b hb bv;have bc:∀o s t,g.tag ⟨b,o,s⟩=some t->∃t',t=.outer t':=λo s t ht=>bv o s t (by rw[<-h2];exact ht);have a7:∀o s t,gc.tag ⟨b,o,s⟩=some t->∃t',t=.outer t':=by
     intro o s t ht;obtain⟨t0,ay⟩:=ao _ _ ht;obtain⟨t1,rfl⟩:=bc o s t0 ay;have:=(aq ⟨b,o,s⟩ (.outer t1)).2 ⟨ay,(λnm e=>by cases e),(λu e=>by cases e)⟩;rw[ht]at this;cases this;exact⟨_,rfl⟩
    obtain⟨h3,h4⟩:=L.fr.clean b (X5 hb h.fr.stay.size) a7;refine⟨h3.trans h1,λo s=>?_⟩;rw[<-h2 o s];have h5:g'.tag ⟨b,o,s⟩=gc.tag ⟨b,o,s⟩:=h4 o s;cases hgt:g.tag ⟨b,o,s⟩with
    |none=>simp only[Gh.back,h5,av _ hgt]|some t=>obtain⟨t1,rfl⟩:=bc o s t hgt;exact(ae _ _ hgt (λnm e=>by cases e) (λu e=>by cases e)).1
  .intro nm cs hm j cc hj;rcases J0 st.mem m nm with⟨k,cs',h1,h2⟩|⟨h1,h2⟩
   .rw[h2]at hm;cases hm;have hk:k<os.length:=by have:=(Q4.1 h1).1;omega
    have be:os[k]?=some os[k]:=Q1 hk;have bw:xs[k]?=some (xs[k]'Yp):=Q1 _;have h3:=b3 k _ _ be bw;rw[h1]at h3;simp only[oP]at h3;obtain⟨rfl,rfl⟩:=h3;rw[Qz]at hj;cases hj0:(xs[k]'Yp)[j]? with|none=>simp[hj0]at hj|some c0=>simp[hj0]at hj;subst hj;obtain⟨v0,h4,h5,h6⟩:=L.x k _ bw j c0 hj0;have ck:g'.ad (.x k)=g.ad os[k].1:=(L.ad k (a6 k)).trans (bu k _ be);rw[ck]at h4 h5;refine⟨v0,h4,?_,h6.back am b0⟩;show(g'.back os d g.ad L0 g.bs).tag ((g.ad os[k].1).add j)=_;simp only[Gh.back,h5,be,Qk]
   .rw[h2]at hm;obtain⟨v0,h4,h5,h6⟩:=h.mem nm cs hm j cc hj;have hn:Yk os 0 nm=none:=Zdx (λi x hx e=>by
     have hi:i<m.length:=by have:=(Q4.1 hx).1;omega
     have b7:xs[i]?=some (xs[i]'Yp):=Q1 _;exact h1 i _ (b3 i x _ hx b7) e) 0;obtain⟨h7,h8⟩:=ae _ _ h5 (λc2 e=>by cases e;exact hn) (λu e=>by cases e);exact⟨v0,h8.trans h4,h7,h6.keep aj⟩
  .intro t x hx;obtain⟨hk,hx⟩:=bn t x hx;rcases q2 t x hx with⟨g1,_⟩|⟨t0,g1,g2,g3⟩
   .obtain⟨g3,g4⟩:=h.ls t x g1;have hd:Zp st ({val:=some (r.mapTok (ZZ d) (Z0D d L0) (Z40 os)),mem:=m,kill:=toks.map (·.1),ls:=ll}:Eff U) t=false:=by simp only[Zp,g3,hk,Xr]
    exact⟨hd,g4.keep aj hd (λc v hv=>(L.inv.im c v (L.fr.mono c v hv)).1) (λc cq=>(ae c _ cq (λnm e=>by cases e) (λu e=>by cases e;exact(az _ hd).2)).2)⟩
   .have hd:Zp st ({val:=some (r.mapTok (ZZ d) (Z0D d L0) (Z40 os)),mem:=m,kill:=toks.map (·.1),ls:=ll}:Eff U) t=false:=by simp only[Zp,g3,hk,Xr]
    have cf:Z0D d L0 t0=some t:=by unfold Z0D;rw[g1];exact g2
    have bj:=am _ _ cf;have bo:(g'.back os d g.ad L0 g.bs).bs t=g'.bs t0:=by simp only[Gh.back,bj,Z3x g2,g1]
    have bp:∀c,g'.tag c=some (.tok t0)->(g'.back os d g.ad L0 g.bs).tag c=some (.tok t):=by intro c hc;simp only[Gh.back,hc,g2,Qk]
    refine⟨hd,?_⟩;rcases L.ls t0 x g1 with⟨e1,e2⟩|⟨b,len,cap,e1,e2,e3,e4,e5,e6⟩;.exact .inl ⟨bo.trans e1,e2⟩
    .refine .inr ⟨b,len,cap,bo.trans e1,e2,e3,e4,λi y hy j c hc=>?_,λj a1 a2=>bp _ (e6 j a1 a2)⟩;obtain⟨u,e7,e8,e9,bk⟩:=e5 i y hy j c hc;exact⟨u,e7,e8,e9,λhi=>bp _ (bk hi)⟩
  .intro t ht hn hd;have cg:st.dead t=false:=(az t hd).1;have hk:(toks.map (·.1)).contains t=false:=by simp only[Zp,QO]at hd;exact hd.2
   have br:Zy st.ls ll t=none:=by unfold JV at hn;simp only[hk,cond_false]at hn;exact hn
   have bq:st.ls t=none:=by cases hx:st.ls t with|none=>rfl|some x=>
     exfalso;have:∀(l:List (Tok×LC U)),Zy st.ls l t=none->False:=by
      intro l;induction l with
      |nil=>intro h;rw[Zy,hx]at h;cases h|cons y l ih=>
       obtain⟨a,b⟩:=y;intro h;simp only[Zy]at h;split at h;.cases h
       .exact ih h
     exact this _ br
   have bj:=h.fresh t ht bq cg;simp only[Gh.back,bj];cases hu:Z1S d t with|none=>rfl|some t'=>simp only;cases hx:Zy (λ_=>none) L0 t' with|none=>rfl|some x=>
     simp only;obtain⟨t2,g1,g2,g3,g4⟩:=q1 t' x hx;cases hg:g'.bs t' with
     |none=>rfl|some v=>
      exfalso;have:t2=t:=by cases t with
       |r d' m=>
        simp only[Z1S]at hu;split at hu
        .rename_i e;subst e;split at hu;.cases hu;simp only[ZZ,Option.some.injEq]at g1;rw[<-g1];congr 1;omega
         .cases hu;simp only[ZZ]at g1;split at g1;.cases g1;congr 1;omega
          .cases g1
        .cases hu|_=>simp[Z1S]at hu
      subst this;rw[br]at g4;cases g4
theorem ZiV{f:FuncId}{fn:Func}{vs:Array Value}(h1:P.funcs[f]?=some fn)(h2:fn.body.isSome=true)(h3:(fn.name== "runtime.NumGoroutine")=false):(callFunc f vs).run P w=.ok (.enter f vs) w:=by
 have d:fn.body.isNone=false:=by cases hfb:fn.body<;>simp_all
 simp only[callFunc,Sem.run_bind,run_program,Result.andThen_ok,h1];simp[h3,d]
theorem ZmM{ps:Nat->Bool}{args more:List (V U)}{ys:List (V U)}{os:List (Name×List (C U))}{toks:List (Tok×Tok)}(hpass:Yb st ps 0 (args++more) [] []=some (ys,os,toks)){vals:List Value}(hargs:vals.length=args.length/\∀(j:Nat)u x,vals[j]?=some u->args[j]?=some x->RelV cfg g st.dead (λnm=>(st.mem nm).isSome) u x):vals.length=(ys.take args.length).length/\∀(j:Nat)v x,vals[j]?=some v->(ys.take args.length)[j]?=some x->RelV cfg (g.callee (Yk os 0) toks (Z8d g os)) ZQ (Z6Q (os.map λx=>Z9d st os (x.2,x.1))) v x:=by
 obtain⟨p1,_,p3,p4,p5,p6⟩:=Z1k (cfg:=cfg) (g:=g) _ _ _ _ _ _ _ hpass (λi j x y hx=>by simp at hx);have ae:∀(k:Nat)x,os[k]?=some x->Z8d g os k=g.ad x.1:=λk x hx=>by simp[Z8d,hx]
 refine⟨by rw[hargs.1,Qu,p4,Q8];omega,λj v x hv hx=>?_⟩;rw[QZ]at hx;split at hx;case isFalse=>cases hx
 rename_i hj;have d:=Q1 hj;have ab:(args++more)[j]?=some args[j]:=by rw[QB hj];exact d
 have:=p6 toks (.refl _) (Yk os 0) _ ae j v _ x ab hx (hargs.2 j v _ hv d);have hl:Z6Q (os.map λx=>Z9d st os (x.2,x.1))=λnm:Name=>match nm with|.x k=>(os[k]?).isSome|.loc _=>false:=by funext nm;cases nm<;>simp[Z6Q]
 rw[hl];exact this
theorem Z5O{Γ:Known U}(hΓ:∀f s,Γ f=some s->Contract P cfg f s)(h:Rel cfg B st g a w){o:Oper}{f:FuncId}{args:List (V U)}{ps:List Prop}{e:Eff U}{d:Nat}{vals:List Value}(hen:∀fn,P.funcs[f]?=some fn→fn.body.isSome=true→(fn.name== "runtime.NumGoroutine")=false→(execOp a.eval o).run P w=.ok (.enter f vals.toArray) w)(hargs:vals.length=args.length/\∀(j:Nat)u x,vals[j]?=some u->args[j]?=some x->RelV cfg g st.dead (λnm=>(st.mem nm).isSome) u x)(he:Z42 Γ st d f args=some (ps,e))(hps:All ps):Does P o a w λv w'=>∃g',Out cfg B st g e v w' g':=by
 unfold Z42 at he;split at he;.cases he
 rename_i s hs;split at he;.cases he
 rename_i ys os toks aa;split at he;.cases he
 rename_i aj r xs L0 ab;rw[cond_eq_ite]at he;split at he;.cases he
 rename_i ae;split at he;case h_2=>cases he
 rename_i m ll ah af;simp only[oP]at he;obtain⟨rfl,rfl⟩:=he;obtain⟨u1,u2⟩:=ZmM aa hargs;exact Zjb hΓ h hen hs aa u1 u2 ab ae ah af hps
theorem ZnW{Γ:Known U}(hΓ:∀f s,Γ f=some s->Contract P cfg f s)(h:Rel cfg B st g a w){o:Oper}{f:FuncId}{nm:Name}{args:List (V U)}{ps:List Prop}{e:Eff U}{d:Nat}{u:Value}{vals:List Value}(hen:∀fn,P.funcs[f]?=some fn→fn.body.isSome=true→(fn.name== "runtime.NumGoroutine")=false→(execOp a.eval o).run P w=.ok (.enter f (u::vals).toArray) w)(hu:w.cell? (g.ad nm)=some u)(hnm:((st.mem nm).isSome||nm.isX)=true)(hargs:vals.length=args.length/\∀(j:Nat)u x,vals[j]?=some u->args[j]?=some x->RelV cfg g st.dead (λnm=>(st.mem nm).isSome) u x)(he:Z5W Γ st d f nm args=some (ps,e))(hps:All ps):Does P o a w λv w'=>∃g',Out cfg B st g e v w' g':=by
 unfold Z5W at he;split at he;.cases he
 rename_i s hs;split at he;.cases he
 rename_i ys os toks ab;split at he;.cases he
 .rename_i c a7 ai;split at he;.cases he
  rename_i a8 r xs L0 ak;rw[cond_eq_ite]at he;split at he;.cases he
  rename_i am;split at he;case h_2=>cases he
  rename_i m ll au ao;simp only[oP]at he;obtain⟨rfl,rfl⟩:=he;have hp:(Value.pointer (some (g.ad nm))::vals).length=(V.ptr nm 0::args).length/\∀(j:Nat)u x,(Value.pointer (some (g.ad nm))::vals)[j]?=some u->(V.ptr nm 0::args)[j]?=some x->RelV cfg g st.dead (λnm=>(st.mem nm).isSome) u x:=by
   refine⟨by simp[hargs.1],λj v x hv hx=>?_⟩;cases j with
   |zero=>simp at hv hx;subst hv hx;exact⟨hnm,rfl⟩|succ j=>exact hargs.2 j v x (by simpa using hv) (by simpa using hx)
  obtain⟨u1,u2⟩:=ZmM ab hp;have h0:∃x,os[0]?=some x/\x.1=nm:=by
   have aa:=ab;simp only[Qo,Yb,ZoW]at aa;split at aa;.cases aa
   .split at aa;.cases aa
    .split at aa;.rename_i cs a1 _ _ vs ax s1 aj;simp only[oP]at aa;obtain⟨_,rfl,_⟩:=aa;obtain⟨_,⟨more,r2⟩,_⟩:=Z1k (cfg:=cfg) (g:=g) _ _ _ _ _ _ _ aj (λi j x y hx hy he=>by cases i<;>cases j<;>simp_all);exact⟨_,by rw[r2];rfl,rfl⟩
     .cases aa
  obtain⟨x0,al,av⟩:=h0;have hl:((ys.take (args.length+1)).drop 1).length=args.length:=by have:=u1;simp only[Qa,Qu]at this;simp only[Qt,Qu];omega
  rw[<-ai]at ak;refine Zjb hΓ h hen hs ab (by simp only[Qa,hl,hargs.1]) (λj v x hv hx=>?_) ak am au ao hps;cases j with
  |zero=>
   simp at hv hx;subst hv hx;obtain⟨v,h4,_,h6⟩:=Zxo h ab 0 [c] (by rw[ai];rfl) 0 c rfl;have aq:(g.callee (Yk os 0) toks (Z8d g os)).ad (.x 0)=g.ad nm:=by simp[Gh.callee,Z8d,al,av]
   rw[aq]at h4;have e0:(g.ad nm).add 0=g.ad nm:=rfl;rw[e0,hu]at h4;cases h4;exact h6|succ j=>refine u2 (j+1) v x (by simpa using hv) ?_;simp only[XU,Qy]at hx;rw[show(V.ptr nm 0::args).length=args.length+1 from rfl,XD j 1];exact hx
 .cases he
def Zea(st:FSt U)(g:Gh)(c:Addr):Bool:=match g.tag c with|some (.tok t)=>(st.ls t).isSome|_=>false
def Gh.lendG(g:Gh)(st:FSt U)(w:World):Gh:=
 {m:=λc=>if Zea st g c=true then w.cell? c else g.m c
  tag:=λc=>if Zea st g c=true then none else(g.tag c).map .outer
  ad:=g.ad
  bs:=λ_=>none}
theorem Zym{c:Addr}(h:Zea st g c=true):∃t x,g.tag c=some (.tok t)/\st.ls t=some x:=by
 unfold Zea at h;split at h;.rename_i t d;cases hx:st.ls t with|none=>grind|some x=>grind
 .cases h
theorem Zyn{c:Addr}(h:∀t,g.tag c≠some (.tok t)):Zea st g c=false:=by cases hc:Zea st g c with|false=>rfl|true=>obtain⟨t,_,d,_⟩:=Zym hc;grind
theorem Zyo(h:Inv g.m g.tag w){c:Addr}{v:Value}(hv:g.m c=some v):(g.lendG st w).m c=some v:=by
 have:Zea st g c=false:=Zyn λt e=>by rw[(h.im c v hv).2]at e;cases e
 simp only[Gh.lendG,this,X9,if_false,hv]
theorem ZpP{c:Addr}{t:Tag}(ht:g.tag c=some t)(hc:Zea st g c=false):(g.lendG st w).tag c=some (.outer t):=by simp only[Gh.lendG,hc,X9,if_false,ht,Qk]
theorem ZFt(h:Rel cfg B st g a w){v:Value}{c:C U}(hr:RelC cfg g st.dead v c):RelC cfg (g.lendG st w) ZQ v (c.lend st):=by
 have d:=λc v hv=>Zyo (st:=st) (w:=w) h.inv (c:=c) (v:=v) hv;cases c with
 |slice T l tl=>cases tl with
  |unk=>exact⟨hr.1.mono d,trivial⟩|full=>exact⟨hr.1.mono d,hr.2⟩|own u=>exact⟨(hr.1.tl .unk).mono d,trivial⟩
 |mref t=>simp only[C.lend];cases hx:st.ls t with|none=>exact⟨.jk _ hr.1.one,trivial⟩|some x=>
   obtain⟨hd,hL⟩:=h.ls t x hx;obtain⟨s,hs⟩:=hr.2 hd;refine⟨?_,trivial⟩;rcases hL with⟨e1,e2,_⟩|⟨b,len,cap,e1,e2,e3,e4,e5,_⟩
   .rw[hs]at e1;cases e1;obtain⟨T,l,f⟩:=x;simp only at e2;subst e2;exact .snil T _
   .rw[hs]at e1;cases e1;refine .of_rows _ e2 e3 λi y hy j c hc=>?_;obtain⟨u,e7,e8,e9,aa⟩:=e5 i y hy j c hc;refine⟨u,?_,e8.mono d⟩;rcases XC i x.f with hi|hi;.grind
    .simp only[Gh.lendG,Zea,aa hi,hx,Option.isSome_some,if_true];exact e7
 |jk=>exact⟨.jk _ hr.1.one,trivial⟩|xp k=>exact⟨.jk _ hr.1.one,trivial⟩|int k n=>exact⟨hr.1.mono d,trivial⟩|bool b=>exact⟨hr.1.mono d,trivial⟩|nils=>exact⟨hr.1.mono d,trivial⟩|nilp=>exact⟨hr.1.mono d,trivial⟩|po T o=>exact⟨hr.1.mono d,trivial⟩|kc v=>exact⟨hr.1.mono d,trivial⟩
theorem ZLH(h:Rel cfg B st g a w){live:Name->Bool}{v:Value}{x x':V U}(hr:RelV cfg g st.dead live v x)(hx:x.lend st=some x'):RelV cfg (g.lendG st w) ZQ (Z6Q ([]:List (List (C U)))) v x':=by cases x with
 |c y=>cases hx;exact ZFt h (c:=y) hr|agg cs=>
  cases hx;obtain⟨vs,d,h2,h3⟩:=hr;refine⟨vs,d,by simp[h2],λj u c hu hc=>?_⟩;rw[Qz]at hc;cases hj:cs[j]? with|none=>grind|some c0=>
   simp[hj]at hc;subst hc;exact ZFt h (h3 j u c0 hu hj)|fn f=>cases hx;exact hr|kv v=>cases hx;exact hr|_=>cases hx
theorem Zgr{Γ:Known U}(hΓ:∀f s,Γ f=some s->Contract P cfg f s)(h:Rel cfg B st g a w){o:Oper}{f:FuncId}{args:List (V U)}{ps:List Prop}{e:Eff U}{vals:List Value}(hen:∀fn,P.funcs[f]?=some fn→fn.body.isSome=true→(fn.name== "runtime.NumGoroutine")=false→(execOp a.eval o).run P w=.ok (.enter f vals.toArray) w)(hargs:vals.length=args.length/\∀(j:Nat)u x,vals[j]?=some u->args[j]?=some x->RelV cfg g st.dead (λnm=>(st.mem nm).isSome) u x)(he:Z8u Γ st f args=some (ps,e))(hps:All ps):Does P o a w λv w'=>∃g',Out cfg B st g e v w' g':=by
 unfold Z8u at he;split at he;case h_2=>cases he
 rename_i s vs hs au;have aw:∃c0:C U,s.fn2 vs [] []=some (ps,.c c0,[],[])/\e={val:=some (.c c0)}/\∀(g1 g2:Gh)(d1 d2:Tok->Bool)v,RelC cfg g1 d1 v c0->RelC cfg g2 d2 v c0:=by
  split at he
  .rename_i k n ah;simp only[oP]at he;obtain⟨rfl,rfl⟩:=he;exact⟨_,ah,rfl,λg1 g2 d1 d2 v hr=>by have:=hr.1;cases this;exact⟨.int _ _,trivial⟩⟩
  .rename_i b ah;simp only[oP]at he;obtain⟨rfl,rfl⟩:=he;exact⟨_,ah,rfl,λg1 g2 d1 d2 v hr=>by have:=hr.1;cases this;exact⟨.bool _,trivial⟩⟩
  .cases he
 obtain⟨c0,ah,rfl,a8⟩:=aw;obtain⟨⟨fn,av,az,ax⟩,ar,_⟩:=hΓ f s hs;have be:vs.length=args.length:=mapM_lend_len au;have ai:Entry cfg w (g.lendG st w) vals vs [] []:=by
  refine⟨⟨λc v hv=>?_,λc t d=>?_⟩,λc t d=>?_,by grind,λj v x hv hx=>?_,λk cs hk=>by simp at hk,λt d=>rfl,λt x hx=>by cases hx⟩
  .simp only[Gh.lendG]at hv⊢;split at hv;.grind
   .rename_i hl;obtain⟨h1,h2⟩:=h.inv.im c v hv;grind
  .simp only[Gh.lendG]at d;split at d;.cases d
   .cases hgt:g.tag c with|none=>grind|some t0=>exact h.inv.it c t0 hgt
  .simp only[Gh.lendG]at d;split at d;.cases d
   .cases hgt:g.tag c with|none=>grind|some t0=>grind
  .obtain⟨x0,h1,h2⟩:=mapM_lend au j x hx;exact ZLH h (hargs.2 j v x0 hv h1) h2
 have al:=ar vs [] [] _ _ [] [] ah hps (QI _) w (g.lendG st w) _ ai;refine .inr (.inr ⟨f,vals.toArray,w,hen fn av az ax,Calls.mono al ?_⟩)
 .rintro e' w'⟨v,g',rfl,L⟩;refine⟨v,rfl,g,?_⟩;have bf:∀c t,g.tag c=some t->Zea st g c=false->w'.cell? c=w.cell? c:=λc t d hl=>(L.fr.outer c _ (ZpP (w:=w) d hl)).2;have bb:∀c v,w.cell? c=some v->Zea st g c=true->w'.cell? c=some v:=by
   intro c v hv hl;have:(g.lendG st w).m c=some v:=by simp only[Gh.lendG,hl,if_true,hv]
   exact(L.inv.im c v (L.fr.mono c v this)).1
  have aq:∀c v,g.m c=some v->w'.cell? c=some v:=λc v hv=>(L.inv.im c v (L.fr.mono c v (Zyo h.inv hv))).1;have ak:∀c t,g.tag c=some t->w'.cell? c=w.cell? c:=by intro c t d;cases hl:Zea st g c with|false=>grind|true=>obtain⟨_,v,hv⟩:=h.inv.it c t d;grind
  have af:Zp st ({val:=some (.c c0)}:Eff U)=st.dead:=by funext t;simp[Zp]
  refine⟨⟨λc v hv=>⟨aq c v hv,(h.inv.im c v hv).2⟩,λc t d=>?_⟩,?_,by rw[af];exact .refl _ _ _,?_,?_,?_,?_⟩;.obtain⟨h1,v,h2⟩:=h.inv.it c t d;exact⟨(L.fr.frz c (h.inv.lt d)).trans h1,v,(ak c t d).trans h2⟩
  .refine⟨h.fr.stay.trans L.fr.stay,h.fr.xad,h.fr.mono,λc t d=>?_,h.fr.outer',λb hb ba=>?_,λc hc=>(L.fr.frz c (X5 hc h.fr.stay.size)).trans (h.fr.frz c hc)⟩;.obtain⟨h1,h2⟩:=h.fr.outer c t d;grind
   .obtain⟨h1,h2⟩:=h.fr.clean b hb ba;refine⟨(L.fr.clean b (X5 hb h.fr.stay.size) λo s t d=>?_).1.trans h1,h2⟩;simp only[Gh.lendG]at d;split at d;.cases d
    .cases hgt:g.tag ⟨b,o,s⟩with|none=>grind|some t0=>grind
  .rw[af];intro nm cs hm j cc hj;obtain⟨v0,h4,h5,h6⟩:=h.mem nm cs hm j cc hj;grind
  .rw[af];exact a8 _ _ _ _ _ L.val
  .intro t x hx;rw[af];have hx:st.ls t=some x:=by simpa[JV,Zy]using hx
   obtain⟨h1,h2⟩:=h.ls t x hx;exact⟨h1,h2.keep (.refl g st.dead (λ_=>true)) h1 aq λc a7=>ak c _ a7⟩
  .intro t h0 h7 h8;rw[af]at h8;exact h.fresh t h0 (by trivial) h8 where
 mapM_lend_len{xs:List (V U)}{vs:List (V U)}(hm:xs.mapM (V.lend st)=some vs):vs.length=xs.length:=by induction xs generalizing vs with|nil=>grind|cons y xs ih=>rw[QW]at hm;cases h1:V.lend st y with|none=>grind|some v=>cases h2:xs.mapM (V.lend st)with
    |none=>grind|some r=>
     simp[h1,h2]at hm;grind
 mapM_lend{xs:List (V U)}{vs:List (V U)}(hm:xs.mapM (V.lend st)=some vs)(j:Nat)(x:V U)(hx:vs[j]?=some x):∃x0,xs[j]?=some x0/\x0.lend st=some x:=by induction xs generalizing vs j with
  |nil=>grind|cons y xs ih=>
   rw[QW]at hm;cases h1:V.lend st y with|none=>grind|some v=>cases h2:xs.mapM (V.lend st)with|none=>simp[h1,h2]at hm|some r=>grind
theorem Zne{α β:Type}{f:α->Option β}:∀{xs:List α}{ys:List β},xs.mapM f=some ys->ys.length=xs.length/\∀(j:Nat)y,ys[j]?=some y->∃x,xs[j]?=some x/\f x=some y|[],ys,h=>by grind|x::xs,ys,h=>by rw[QW]at h;cases h1:f x with|none=>simp[h1]at h|some v=>cases h2:xs.mapM f with|none=>grind|some r=>simp[h1,h2]at h;subst h;obtain⟨h3,d⟩:=Zne h2;grind
theorem ZzH{g2:Gh}{dead:Tok->Bool}(hm:g2.m=g.m){v:Value}{c:C U}(h:RelC cfg g dead v c):RelC cfg g2 ZQ v c.bare:=by cases c with|slice T l tl=>exact⟨by rw[hm];exact h.1.tl _,trivial⟩|mref t=>exact⟨.jk _ h.1.one,trivial⟩|xp k=>exact⟨.jk _ h.1.one,trivial⟩|_=>exact⟨by rw[hm];exact h.1,trivial⟩
theorem ZLX{g2:Gh}{dead:Tok->Bool}{live l2:Name->Bool}(hm:g2.m=g.m){v:Value}{x x':V U}(h:RelV cfg g dead live v x)(hx:x.bare=some x'):RelV cfg g2 ZQ l2 v x':=by cases x with
 |c y=>cases hx;exact ZzH hm (c:=y) h|agg cs=>
  cases hx;obtain⟨vs,d,h2,h3⟩:=h;refine⟨vs,d,by simp[h2],λj u c hu hc=>?_⟩;rw[Qz]at hc;cases hj:cs[j]? with|none=>grind|some c0=>
   simp[hj]at hc;subst hc;exact ZzH hm (h3 j u c0 hu hj)|fn f=>cases hx;exact h|kv v=>cases hx;exact h|_=>cases hx
theorem RelC.plain{g1 g2:Gh}{d1 d2:Tok->Bool}{v:Value}{c:C U}(hm:g2.m=g1.m)(hc:c.plain=true)(h:RelC cfg g1 d1 v c):RelC cfg g2 d2 v c:=by
 refine⟨by rw[hm];exact h.1,?_⟩;cases c with
 |slice T l tl=>cases tl<;>first|trivial|cases hc
 |mref t=>cases hc|xp k=>cases hc|_=>trivial
theorem Zo0{ax:Nat->Addr}{xs ys:List (V U)}{os:List (Name×List (C U))}(hb:Z55 st xs=some (ys,os))(hax:∀(k:Nat)x,os[k]?=some x->ax k=g.ad x.1):os.length<=1/\ys.length=xs.length/\(∀(k:Nat)x,os[k]?=some x->∃cs,st.mem x.1=some cs/\x.2=cs.map C.bare)/\∀(j:Nat)v x y,xs[j]?=some x->ys[j]?=some y->RelV cfg g st.dead (λnm=>(st.mem nm).isSome) v x->RelV cfg (g.callee (Yk os 0) [] ax) ZQ (Z6Q (os.map (·.2))) v y:=by
 unfold Z55 at hb;split at hb
 .rename_i nm;split at hb
  .rename_i cs ae;cases hb;refine⟨Qc _,rfl,λk x d=>?_,λj v x y d hy hr=>?_⟩
   .have:k=0:=by have:=(Q4.1 d).1;simp at this;exact this
    subst this;simp at d;subst d;exact⟨cs,ae,rfl⟩
   .have:j=0:=by have:=(Q4.1 d).1;simp at this;exact this
    subst this;simp at d hy;subst d hy;have e:ax 0=g.ad nm:=hax 0 _ rfl;refine⟨rfl,?_⟩;have h2:v=.pointer (some ((g.ad nm).add 0)):=hr.2;rw[h2,<-e];try rfl
  .cases hb
 .split at hb;.rename_i vs af;cases hb;obtain⟨h1,h2⟩:=Zne af;refine⟨QI _,h1,λk x d=>by simp at d,λj v x y d hy hr=>?_⟩;obtain⟨x0,h3,h4⟩:=h2 j y hy;rw[d]at h3;cases h3;exact ZLX (g:=g) (g2:=g.callee (Yk [] 0) [] ax) rfl hr h4
  .cases hb
theorem Zuj{Γ:Known U}(hΓ:∀f s,Γ f=some s->Contract P cfg f s)(h:Rel cfg B st g a w){o:Oper}{c:Call}{gx:Operand}{f:FuncId}{args:List (V U)}{ps:List Prop}{e:Eff U}{d:Nat}(ho:o.op=.call c)(hc:c.callee=.value gx)(hg:a.eval gx=.func (.func f) #[] #[])(hargs:c.args.toList.length=args.length/\∀(j:Nat)u x,(c.args.toList.map a.eval)[j]?=some u->args[j]?=some x->RelV cfg g st.dead (λnm=>(st.mem nm).isSome) u x)(he:Zvf Γ st d f args=some (ps,e))(hps:All ps):Does P o a w λv w'=>∃g',Out cfg B st g e v w' g':=by
 unfold Zvf at he;split at he;case h_2=>cases he
 rename_i s vs os hs bz;split at he;case h_2=>cases he
 rename_i cg k xs b0;split at he;case isFalse=>cases he
 rename_i bj;simp only[Q2,QE,QF,Nat.beq_eq]at bj;obtain⟨⟨⟨hk,cm⟩,bu⟩,hn⟩:=bj;subst hk;simp only[oP]at he;obtain⟨rfl,rfl⟩:=he;obtain⟨⟨fn,bt,cf,b3⟩,bi,_⟩:=hΓ f s hs;let ax:Nat->Addr:=λk=>((os[k]?).map λx=>g.ad x.1).getD ⟨0,0,none⟩;have bc:∀(k:Nat)x,os[k]?=some x->ax k=g.ad x.1:=λk x hx=>by simp[ax,hx]
 obtain⟨ch,bm,bh,am⟩:=Zo0 (cfg:=cfg) bz bc;have bx:Zof os:=λi j x y hx hy _=>by have:=(Q4.1 hx).1;have:=(Q4.1 hy).1;omega
 let gc:=g.callee (Yk os 0) [] ax;let nms:=os.map (·.1)++[Name.loc d];have aq:∀c t,gc.tag c=some (.outer t)↔(g.tag c=some t/\(∀nm,t=.obj nm->Yk os 0 nm=none)/\(∀u,t=.tok u->YN [] u=none)):=λc t=>Zh0;have a1:Entry cfg w gc (c.args.toList.map a.eval) vs (os.map (·.2)) []:=by
  refine⟨⟨λc v hv=>?_,λc t ht=>?_⟩,λc t ht=>?_,by rw[X6,hargs.1,bm],λj v x hv hx=>?_,λk cs hk j c hj=>?_,λt ht=>(by simp only[gc,Gh.callee,ht,if_true]),λt x hx=>by cases hx⟩
  .obtain⟨h1,h2⟩:=h.inv.im c v hv;exact⟨h1,Z7k h2⟩
  .obtain⟨t0,au⟩:=Z7j ht;exact h.inv.it c t0 au
  .simp only[gc,Gh.callee]at ht;split at ht
   .split at ht;.cases ht;exact .inr (.inl ⟨_,rfl⟩)
    .cases ht;exact .inl ⟨_,rfl⟩
   .split at ht;.cases ht;exact .inr (.inr ⟨_,rfl⟩)
    .cases ht;exact .inl ⟨_,rfl⟩
   .cases ht;exact .inl ⟨_,rfl⟩
   .cases ht
  .have hj:j<args.length:=by have:=(Q4.1 hx).1;omega
   exact am j v _ x (Q1 hj) hx (hargs.2 j v _ hv (Q1 hj))
  .rw[Qz]at hk;cases hx:os[k]? with
   |none=>simp[hx]at hk|some x=>
    simp[hx]at hk;subst hk;obtain⟨ba,h1,h2⟩:=bh k x hx;rw[h2,Qz]at hj;cases hj0:ba[j]? with|none=>simp[hj0]at hj|some c0=>
     simp[hj0]at hj;subst hj;obtain⟨v,h4,h5,h6⟩:=h.mem x.1 ba h1 j _ hj0;have al:gc.ad (.x k)=g.ad x.1:=bc k x hx;have b2:Yk os 0 x.1=some k:=by have:=Zcv (k:=0) bx hx rfl;simpa using this
     rw[al];exact⟨v,h4,by simp only[gc,Gh.callee,h5,b2],ZzH (g:=g) (g2:=gc) rfl h6⟩
 have bb:=bi vs (os.map (·.2)) [] _ _ xs [] b0 hps (by rw[X6];omega) w gc _ a1;refine .inr (.inr ⟨f,(c.args.toList.map a.eval).toArray,w,?_,Calls.mono bb ?_⟩)
 .have hb:fn.body.isNone=false:=by cases hfb:fn.body<;>simp_all
  simp only[execOp,ho,resolve,hc,hg,Deferred.ofValue,Sem.run_bind,Sem.run_pure,Result.andThen_ok,invoke,callFunc,run_program,bt];simp[b3,hb];apply QU;simp
 .rintro e' w'⟨v,g',rfl,L⟩;let g1:Gh:={m:=g'.m,tag:=λc=>(match g'.tag c with|some (.outer t)=>some t|some (.obj (.x k))=>(nms[k]?).map .obj|_=>none),ad:=λnm=>if nm=.loc d then g'.ad (.x os.length)else g.ad nm,bs:=g.bs};have ca:gc.m=g.m:=rfl;have ah:∀c t,g.tag c=some t->(∀nm,t=.obj nm->Yk os 0 nm=none)->g1.tag c=some t/\w'.cell? c=w.cell? c:=by intro c t h1 h2;have:=L.fr.outer c t ((aq c t).2 ⟨h1,h2,λu _=>rfl⟩);exact⟨by simp only[g1,this.1],this.2⟩
  have bq:∀c t,g1.tag c=some t->∃t',g'.tag c=some t':=by intro c t ht;simp only[g1]at ht;cases hgt:g'.tag c with|none=>simp[hgt]at ht|some t'=>exact⟨t',rfl⟩
  have al:∀nm,nm≠.loc d->g1.ad nm=g.ad nm:=λnm bd=>by simp only[g1,if_neg bd]
  have br:∀(k:Nat)x,os[k]?=some x->g'.ad (.x k)=g.ad x.1:=λk x hx=>by have hk:=(Q4.1 hx).1;exact(L.ad k (λe=>by cases e;omega)).trans (bc k x hx)
  have bw:∀(k:Nat)x,os[k]?=some x->x.1≠.loc d:=λk x hx e=>by obtain⟨ba,h1,_⟩:=bh k x hx;rw[e,hn]at h1;cases h1
  have hz:∀(k:Nat)nm cs,(nms.zip xs)[k]?=some (nm,cs)->nms[k]?=some nm/\xs[k]?=some cs:=λk nm cs hk=>by rw[XM]at hk;exact hk
  have az:Zp st ({val:=some (.ptr (.loc d) 0),mem:=nms.zip xs}:Eff U)=st.dead:=by funext t;simp[Zp]
  have aj:Keeps g g1 st.dead st.dead (λnm=>(st.mem nm).isSome) (Yi st ({val:=some (.ptr (.loc d) 0),mem:=nms.zip xs}:Eff U)):=by
   refine⟨λc v hv=>L.fr.mono c v hv,λc t hd ht=>(ah c _ ht λnm e=>by cases e).1,λt ht=>ht,λnm hl=>⟨?_,al nm λe=>?_⟩,λt v _ hv=>hv,λk=>al _ (by simp)⟩
   .simp only[Yi];rcases J0 st.mem (nms.zip xs) nm with⟨k,cs,_,h2⟩|⟨_,h2⟩;.rw[h2];try rfl
    .rw[h2];exact hl
   .subst e;simp[hn]at hl
  have a8:(nms.zip xs)[os.length]?=some (.loc d,xs[os.length]'Yp):=by rw[XM];exact⟨by simp[nms],Q1 _⟩
  refine⟨v,rfl,g1,⟨λc v hv=>?_,λc t ht=>?_⟩,?_,by rw[az];exact aj,?_,?_,?_,?_⟩;.obtain⟨h1,h2⟩:=L.inv.im c v hv;exact⟨h1,by simp only[g1,h2]⟩
  .obtain⟨t',a7⟩:=bq c t ht;exact L.inv.it c t' a7
  .refine⟨h.fr.stay.trans L.fr.stay,λk=>(al _ (by simp)).trans (h.fr.xad k),λc v hv=>L.fr.mono c v (h.fr.mono c v hv),λc t ht=>?_,λc t ht=>?_,λb hb bk=>?_,λc hc=>(L.fr.frz c (X5 hc h.fr.stay.size)).trans (h.fr.frz c hc)⟩;.obtain⟨h1,h2⟩:=h.fr.outer c t ht;obtain⟨h3,h4⟩:=ah c _ h1 (λnm e=>by cases e);exact⟨h3,h4.trans h2⟩
   .simp only[g1]at ht;split at ht;.rename_i t' a7;cases ht;exact h.fr.outer' c t ((aq c _).1 (L.fr.outer' c _ a7)).1
    .cases hx:nms[‹Nat›]? with|none=>simp[hx]at ht|some x=>simp[hx]at ht
    .cases ht
   .obtain⟨h1,h2⟩:=h.fr.clean b hb bk;have am:∀o s t,g.tag ⟨b,o,s⟩=some t->∃t',t=.outer t':=λo s t ht=>bk o s t (by rw[<-h2];exact ht);have av:∀o s t,gc.tag ⟨b,o,s⟩=some t->∃t',t=.outer t':=by intro o s t ht;obtain⟨t0,au⟩:=Z7j ht;obtain⟨t1,rfl⟩:=am o s t0 au;have:=(aq ⟨b,o,s⟩ (.outer t1)).2 ⟨au,(λnm e=>by cases e),(λu e=>by cases e)⟩;rw[ht]at this;cases this;exact⟨_,rfl⟩
    obtain⟨h3,h4⟩:=L.fr.clean b (X5 hb h.fr.stay.size) av;refine⟨h3.trans h1,λo s=>?_⟩;rw[<-h2 o s];have h5:g'.tag ⟨b,o,s⟩=gc.tag ⟨b,o,s⟩:=h4 o s;cases hgt:g.tag ⟨b,o,s⟩with
    |none=>have h6:gc.tag ⟨b,o,s⟩=none:=Z7k hgt;simp only[g1,h5,h6]|some t=>
     obtain⟨t1,rfl⟩:=am o s t hgt;exact(ah _ _ hgt (λnm e=>by cases e)).1
  .rw[az];intro nm aw hm j cc hj;rcases J0 st.mem (nms.zip xs) nm with⟨k,cs,h1,h2⟩|⟨h1,h2⟩
   .rw[h2]at hm;cases hm;obtain⟨ai,bl⟩:=hz k nm aw h1;obtain⟨v0,h4,h5,h6⟩:=L.x k aw bl j cc hj;have h7:RelC cfg g1 st.dead v0 cc:=RelC.plain (g1:=g') (g2:=g1) rfl (bu aw (X4 bl) cc (X4 hj)) h6;have h8:g1.ad nm=g'.ad (.x k):=by
     rcases XC k os.length with hk|hk
     .have a2:os[k]?=some os[k]:=Q1 hk;have e:nm=os[k].1:=by simp only[nms]at ai;rw[QB (by simpa using hk),List.getElem?_map,a2]at ai;simpa using ai.symm
      rw[e,al _ (bw k _ a2),br k _ a2]
     .have b1:k=os.length:=by have:=(Q4.1 ai).1;simp[nms]at this;omega
      subst b1;have e:nm=.loc d:=by simp[nms]at ai;exact ai.symm
      rw[e];simp only[g1,if_true]
    rw[h8];exact⟨v0,h4,by simp only[g1,h5,ai,Qk],h7⟩
   .rw[h2]at hm;obtain⟨v0,h4,h5,h6⟩:=h.mem nm aw hm j cc hj;have b6:Yk os 0 nm=none:=Zdx (λi x hx e=>by
     have hi:=(Q4.1 hx).1;have h9:(nms.zip xs)[i]?=some (nm,xs[i]'Yp):=by
      rw[XM];refine⟨?_,Q1 _⟩;simp only[nms];rw[QB (by simpa using hi),List.getElem?_map,hx,<-e];try rfl
     exact h1 i _ h9 rfl) 0;obtain⟨h7,h8⟩:=ah _ _ h5 (λcb e=>by cases e;exact b6);have bd:nm≠.loc d:=λe=>by subst e;rw[hn]at hm;cases hm
    rw[al nm bd];exact⟨v0,h8.trans h4,h7,h6.keep aj⟩
  .have hv:v=.pointer (some ((g'.ad (.x os.length)).add 0)):=L.val.2;refine⟨?_,?_⟩
   .simp only[Yi];rcases J0 st.mem (nms.zip xs) (.loc d)with⟨k,cs,_,h2⟩|⟨h1,_⟩;.rw[h2];try rfl
    .exact absurd rfl (h1 _ _ a8)
   .rw[hv];simp only[g1,if_true]
  .intro t x hx;rw[az];have hx:st.ls t=some x:=by simpa[JV,Zy]using hx
   obtain⟨h1,h2⟩:=h.ls t x hx;exact⟨h1,h2.keep aj h1 (λc v hv=>(L.inv.im c v (L.fr.mono c v hv)).1) λc b5=>(ah c _ b5 λnm e=>by cases e).2⟩
  .intro t h0 h7 h8;rw[az]at h8;exact h.fresh t h0 (by trivial) h8
theorem ZjO(ok:CfgOk P cfg)(h:Rel cfg B st g a w){live:Name->Bool}{t:TypeId}{u:Tok}{x:LC U}{v:Value}{k:IntKind}{n:Int}(ht:cfg.slT t=some x.T)(hx:st.ls u=some x)(hv:RelC cfg g st.dead v (.mref u))(hn:0<=n/\n<=x.l.length):∃r,(Instr.sliceAt t v (some (.int k n)) none none).run P w=.ok r w/\RelV cfg g st.dead live r (.vw u n.toNat):=by
 obtain⟨hE,hU⟩:=Jo ok ht;have aa:=J6 ok x.T w;rw[<-hE]at aa;obtain⟨hd,hL⟩:=h.ls u x hx;obtain⟨s,hs⟩:=hv.2 hd;have ab:∃b len d,v=.slice b len d/\s=cfg.sz x.T/\x.l.length=len:=by
  rcases hL with⟨h4,h5,_⟩|⟨b,len,d,h4,h5,_⟩<;>rw[hs]at h4<;>cases h4;.grind
  .grind
 obtain⟨b,len,d,rfl,rfl,hl⟩:=ab;rw[run_sliceAt_slice w t _ _ _ _ hU,run_slice_l w t b len d hU _ _ hn.1 Yp,aa];exact⟨_,rfl,λ_=>⟨b,len,d,_,hs,Yp,rfl⟩⟩
theorem ZmQ(h:Rel cfg B st g a w){u:Tok}{y y':LC U}(hy:st.ls u=some y)(e:y'=y){val:Option (V U)}{v:Value}(hval:∀dead live,RelV cfg g dead live v (val.getD .junk)):Out cfg B st g {val:=val,ls:=[(u,y')]} v w g:=by
 subst e;have d:Zp st ({val:=val,ls:=[(u,y')]}:Eff U)=st.dead:=by funext t;simp[Zp]
 have aa:∀t,JV st.ls ({val:=val,ls:=[(u,y')]}:Eff U) t=st.ls t:=λt=>by
  simp only[JV,Xi,cond_false,Zy];grind
 refine⟨h.inv,h.fr,by rw[d];exact .refl _ _ _,by rw[d];exact h.mem,hval _ _,λt x hx=>?_,λt h0 h7 h8=>?_⟩;.rw[aa]at hx;rw[d];exact h.ls t x hx
 .rw[aa]at h7;rw[d]at h8;exact h.fresh t h0 h7 h8
theorem Zf0(ok:CfgOk P cfg)(h:Rel cfg B st g a w){u:Tok}{y:LC U}(hy:st.ls u=some y){n:Nat}{l':List (U.El y.T)}{vs:List Value}{b:Addr}{len cap s:Nat}(hbs:g.bs u=some (.slice (some b) len cap,s))(hvl:vs.length=l'.length*cfg.sz y.T)(hvo:∀v∈vs,v.oneCell'=true)(hvr:∀(i:Nat)x,l'[i]?=some x->∀(j:Nat)c,(cfg.enc y.T x)[j]?=some c->∃v,vs[i*cfg.sz y.T+j]?=some v/\SimC cfg g.m v c)(hf:y.f<=n)(hn:n+l'.length<=len){val:Option (V U)}{v:Value}(hval:∀dead live,RelV cfg g dead live v (val.getD .junk)):s=cfg.sz y.T/\y.l.length=len/\∃w',(storeCells (b.add (n*cfg.sz y.T)) vs).run P w=.ok () w'/\Out cfg B st g {val:=val,ls:=[(u,⟨y.T,y.l.take n++(l'++y.l.drop (n+l'.length)),y.f⟩)]} v w' g:=by
 obtain⟨bb,hL⟩:=h.ls u y hy;rcases hL with⟨h4,_⟩|⟨b',len',cap',h4,hlen,hcap,hfl,hrows,htail⟩<;>rw[hbs]at h4<;>cases h4;refine⟨rfl,hlen,?_⟩;have ah:=ok.sz_pos y.T;have ar:(n+l'.length)*cfg.sz y.T<=len*cfg.sz y.T:=Qg _ hn;rw[QL]at ar;have aa:∀j,n*cfg.sz y.T<=j->j<len*cfg.sz y.T->g.tag (b.add j)=some (.tok u)/\∃v,w.cell? (b.add j)=some v:=by
  intro j h1 h2;have hi:j/cfg.sz y.T<y.l.length:=by rw[hlen];exact Xv (by grind)
  have bd:j%cfg.sz y.T<(cfg.enc y.T (y.l[j/cfg.sz y.T])).length:=by rw[ok.enc_len];exact XQ _ ah
  obtain⟨v,g1,_,_,g4⟩:=hrows _ _ (Q1 hi) _ _ (Q1 bd);have e:j/cfg.sz y.T*cfg.sz y.T+j%cfg.sz y.T=j:=by rw[Xq];exact XL _ _
  rw[e]at g1 g4;exact⟨g4 (X2 hf ((K0 ah).2 h1)),v,g1⟩
 obtain⟨w',h1,h2,h3,h4,h5,h6⟩:=JF (P:=P) (b.add (n*cfg.sz y.T)) vs 0 w hvo (by intro j hj;rw[Go.Deep.add_add,QQ];obtain⟨g1,g2⟩:=aa (n*cfg.sz y.T+j) Yp Yp;exact⟨g2,(h.inv.it _ _ g1).1⟩);simp only[QQ,Go.Deep.add_add]at h2 h3 h4;refine⟨w',h1,?_⟩;have ab:∀c,(∃j,j<vs.length/\c=b.add (n*cfg.sz y.T+j))->g.tag c=some (.tok u):=by rintro c⟨j,hj,rfl⟩;exact(aa _ Yp Yp).1
 have d:∀c,g.tag c≠some (.tok u)->w'.cell? c=w.cell? c:=λc hc=>h4 c λj hj e=>hc (ab c ⟨j,hj,e⟩);have au:∀c v,g.m c=some v->w'.cell? c=some v:=λc v hv=>by obtain⟨h7,h8⟩:=h.inv.im c v hv;grind
 have af:∀L,Zp st ({val:=val,ls:=L}:Eff U)=st.dead:=λL=>by funext t;simp[Zp]
 refine⟨⟨λc v hv=>⟨au c v hv,(h.inv.im c v hv).2⟩,λc t aw=>?_⟩,?_,by rw[af];exact .refl _ _ _,?_,hval _ _,?_,?_⟩;.obtain⟨h7,u',h8⟩:=h.inv.it c t aw;grind
 .exact h.fr.step h.inv h2 (λc hc=>⟨_,ab c hc,λt' e=>by cases e⟩) (λ_ _ h=>h) (λ_ _=>QM) (λ_ _ _ _ _=>rfl) (λ_=>rfl)
 .rw[af];intro nm be hm j c hj;obtain⟨v0,bk,bp,bi⟩:=h.mem nm be hm j c hj;grind
 .intro t z hz;rw[af];unfold JV at hz;simp only[Xi,cond_false,Zy]at hz;split at hz
  .rename_i et;subst et;cases hz;refine⟨bb,.inr ⟨b,len,cap,hbs,by simp;omega,hcap,hfl,?_,htail⟩⟩;intro i q hq j c hc;simp only at hq hc⊢;have hj:j<cfg.sz y.T:=by have:=(Q4.1 hc).1;rw[ok.enc_len]at this;exact this
   have old:y.l[i]?=some q->(i<n\/n+l'.length<=i)->∃u',w'.cell? (b.add (i*cfg.sz y.T+j))=some u'/\SimC cfg g.m u' c/\(i<y.f->g.m (b.add (i*cfg.sz y.T+j))=some u')/\(y.f<=i->g.tag (b.add (i*cfg.sz y.T+j))=some (.tok t)):=by
    intro h0 ba;obtain⟨u',g1,g2,g3,g4⟩:=hrows i q h0 j c hc;refine⟨u',?_,g2,g3,g4⟩;rw[h4 _ λj' bm e=>by
     have:=Z2k e;rcases ba with az|ay;.have:(i+1)*cfg.sz y.T<=n*cfg.sz y.T:=Qg _ az;grind
     .have:(n+l'.length)*cfg.sz y.T<=i*cfg.sz y.T:=Qg _ ay;grind];exact g1
   rw[QK,Qu,Xs Yp]at hq;split at hq;.grind
   .rename_i ay;rw[QK]at hq;split at hq
    .rename_i az;obtain⟨v0,g1,g2⟩:=hvr _ _ hq j c hc;have g3:=h3 _ _ g1;have e1:n*cfg.sz y.T+((i-n)*cfg.sz y.T+j)=i*cfg.sz y.T+j:=by rw[<-Kl,<-QL];congr 2;omega
     rw[e1]at g3;refine⟨v0,g3,g2,λhi=>by omega,λ_=>(aa _ ?_ ?_).1⟩;.omega
     grind
    .rename_i bg;rw[Qy]at hq;exact old (by rw[<-hq];congr 1;omega) (.inr Yp)
  .rename_i bo;obtain⟨h7,h8⟩:=h.ls t z hz;exact⟨h7,h8.keep (.refl g st.dead (λ_=>true)) h7 au (λc aw=>d c (by grind))⟩
 .rw[af];intro t h0 h7 h8;unfold JV at h7;simp only[Xi,cond_false,Zy]at h7;split at h7;.cases h7
  .exact h.fresh t h0 h7 h8
theorem ZEN(h:Rel cfg B st g a w){live:Name->Bool}{u:Tok}{x:LC U}{n:Nat}{v:Value}(hx:st.ls u=some x)(hv:RelV cfg g st.dead live v (.vw u n)):n<=x.l.length/\∃b m d,v=.slice b m d/\m=x.l.length-n/\(b=none->m=0)/\(n<x.l.length->∃b' cap',g.bs u=some (.slice (some b') x.l.length cap',cfg.sz x.T)/\b=some (b'.add (n*cfg.sz x.T))):=by
 obtain⟨hd,hL⟩:=h.ls u x hx;obtain⟨b,len,d,s,h1,h2,rfl⟩:=hv hd;rcases hL with⟨h4,h5,_⟩|⟨b',len',cap',h4,hlen,hcap,_⟩<;>rw[h1]at h4<;>cases h4;.rw[h5];exact⟨h2,_,_,_,rfl,rfl,λ_=>by simp,λhh=>by simp at hh⟩
 .rw[hlen];refine⟨h2,_,_,_,rfl,rfl,λe=>?_,λaf=>⟨b',d,h1,?_⟩⟩;.split at e<;>cases e
  .rw[JH];try rfl
theorem ZnV(ok:CfgOk P cfg)(h:Rel cfg B st g a w){live:Name->Bool}{o:Oper}{t:TypeId}{u:Tok}{n:Nat}{px:Operand}{ps:List Prop}{e:Eff U}(ho:o.op=.call {callee:=.builtin .clear,args:=#[px],argTypes:=#[t]})(hx:RelV cfg g st.dead live (a.eval px) (.vw u n))(he:Zlw cfg st t u n=some (ps,e))(hps:All ps):Does P o a w λv w'=>∃g',Out cfg B st g e v w' g':=by
 unfold Zlw at he;split at he;case h_2=>cases he
 rename_i T x hT af;split at he;case h_2=>cases he
 rename_i aw z _ hz;subst aw;simp only[oP]at he;obtain⟨rfl,rfl⟩:=he;obtain⟨hE,hU⟩:=Jo ok hT;obtain⟨hn,b,m,a1,hv,hm,hb,ah⟩:=ZEN h af hx;have am:execOp a.eval o=(do pure (.value (<-Builtin.clear_ #[t] o.type #[.slice b m a1])):Sem Next):=by simp only[execOp,ho,resolve,Sem.run_bind,Sem.run_pure,Result.andThen_ok,invoke,builtin];simp[hv]
 have ao:P.underlying t=some (.slice (cfg.elT x.T)):=by rw[hE]at hU;exact hU
 by_cases h0:m=0;.have e1:x.l.length=n:=Yp;refine .inl ⟨.tuple #[],w,?_,g,ZmQ h af (by rw[<-e1];simp) λ_ _=>trivial⟩;rw[am];subst h0;refine Z9W ?_;cases b<;>simp[Builtin.clear_,run_underlying ao]
 obtain⟨b',a8,a7,rfl⟩:=ah Yp;obtain⟨i,ag,zs,z',hi,be,bl,br,ae,bq⟩:=ok.el x.T;rw[ae]at hz;have a2:cfg.dec x.T zs=some z:=hz;obtain⟨d,ax,hZ⟩:=Z2N ok ae w;have aa:=Z0U (g:=g) (st:=st) (cfg:=cfg) hZ;obtain⟨ar,a6⟩:=ZbG ok a2 aa.1 (λj v c h1 h2=>aa.sim h1 h2);have ai:d.cells.size=cfg.sz x.T:=by have:=ar;simp at this;exact this
 have bc:=ok.sz_pos x.T;obtain⟨_,_,w',h1,bd⟩:=Zf0 (P:=P) (l':=List.replicate m z) (vs:=(Builtin.zeroCells d.cells m).toList) (n:=n) (val:=none) (v:=.tuple #[]) ok h af a7 (by simp[Builtin.zeroCells,ai]) (by
   intro v hv;simp only[Builtin.zeroCells,Xn,Xy,Array.toList_range,List.mem_range]at hv;obtain⟨j,hj,rfl⟩:=hv;have ak:j%d.cells.size<d.cells.size:=XQ _ Yp;rw[getElem!_pos d.cells _ ak];exact aa.one _ (by simp)) (by
   intro i x0 ab j c hc;obtain⟨hi,ab⟩:=Q4.1 ab;simp at ab hi;subst ab;obtain⟨v,h7,h8⟩:=a6 j c hc;have hj:j<cfg.sz x.T:=by have:=(Q4.1 hc).1;rw[ok.enc_len]at this;exact this
   have ah:i*cfg.sz x.T+j<m*cfg.sz x.T:=by have:(i+1)*cfg.sz x.T<=m*cfg.sz x.T:=Qg _ Yp;rw[QL]at this;omega
   refine⟨v,?_,h8⟩;have h9:d.cells[j]?=some v:=by rw[<-h7];simp
   have aj:j<d.cells.size:=Yp;have e:(i*cfg.sz x.T+j)%d.cells.size=j:=by rw[ai,Xq,K7,XY hj]
   have ay:d.cells[j]! =v:=by
    rw[getElem!_pos d.cells j aj];rw[QG aj]at h9;exact Option.some.inj h9
   have al:i*cfg.sz x.T+j<m*d.cells.size:=by rw[ai];exact ah
   simp[Builtin.zeroCells,al,e,ay]) hps.1 (by simp;omega) (λ_ _=>trivial);refine .inl ⟨.tuple #[],w',?_,g,?_⟩;.rw[am];refine Z9W ?_;obtain⟨m',rfl⟩:∃m',m=m'+1:=⟨m-1,Yp⟩;rw[hE]at hU;simp[Builtin.clear_,run_underlying ao,ax,h1]
 simp_all
theorem ZqG(ok:CfgOk P cfg)(h:Rel cfg B st g a w){live:Name->Bool}{o:Oper}{t:TypeId}{u:Tok}{n:Nat}{y:C U}{px py:Operand}{ps:List Prop}{e:Eff U}(ho:o.op=.call {callee:=.builtin .copy,args:=#[px,py],argTypes:=#[t,t]})(hx:RelV cfg g st.dead live (a.eval px) (.vw u n))(hy:RelC cfg g st.dead (a.eval py) y)(he:Zty cfg st t u n y=some (ps,e))(hps:All ps):Does P o a w λv w'=>∃g',Out cfg B st g e v w' g':=by
 unfold Zty at he;split at he;case h_2=>cases he
 rename_i T x hT ah;split at he;case h_2=>cases he
 rename_i a2 l tl _ bf;subst a2;simp only[oP]at he;obtain⟨rfl,rfl⟩:=he;obtain⟨hE,hU⟩:=Jo ok hT;obtain⟨hn,b,m,bc,hv,hm,hb,au⟩:=ZEN h ah hx;obtain⟨al,bs,ls,d,am,ar,bt,bg⟩:=Z56 hy bf;rw[am]at al;have av:P.underlying t=some (.slice (cfg.elT x.T)):=by rw[hE]at hU;exact hU
 have a7:=J6 ok x.T w;have aq:execOp a.eval o=(do pure (.value (<-Builtin.copy_ #[t,t] o.type #[.slice b m bc,.slice bs ls d])):Sem Next):=by simp only[execOp,ho,resolve,Sem.run_bind,Sem.run_pure,Result.andThen_ok,invoke,builtin];simp[hv,am]
 have ao:∀(k:Nat)dead(live:Name->Bool),RelV cfg g dead live (goInt k) ((some (V.c (U:=U) (.int .i64 k))).getD .junk):=λk _ _=>⟨.int _ _,trivial⟩;have ae:∀k,k<=ls->∃vs:List Value,(Builtin.firstCells (cfg.sz x.T) k (.slice bs ls d)).run P w=.ok vs.toArray w/\vs.length=(l.take k).length*cfg.sz x.T/\(∀v∈vs,v.oneCell'=true)/\(∀(i:Nat)x0,(l.take k)[i]?=some x0->∀(j:Nat)c,(cfg.enc x.T x0)[j]?=some c->∃v,vs[i*cfg.sz x.T+j]?=some v/\SimC cfg g.m v c):=by intro k hk;cases bs with|none=>obtain⟨rfl,rfl⟩:=bg rfl;have bd:l=[]:=Q0 ar;subst bd;exact⟨[],run_firstCells_none w _ _ _ _,by simp,by simp,λi x0 ab=>by simp at ab⟩|some a'=>
   obtain⟨vs,h1,h2,h3⟩:=Z4n ok al.1;have ak:k*cfg.sz x.T<=ls*cfg.sz x.T:=Qg _ hk;have az:(vs.take (k*cfg.sz x.T)).length=k*cfg.sz x.T:=by rw[Qu];omega
   refine⟨vs.take (k*cfg.sz x.T),run_firstCells_some w _ k a' ls d _ az λj v hv=>?_,by grind,λv hv=>?_,λi x0 ab j c hc=>?_⟩
   .have hj:j<k*cfg.sz x.T:=by have:=(Q4.1 hv).1;omega
    rw[Xg hj]at hv;exact(h.inv.im _ _ (h2 j v hv).1).1
   .obtain⟨j,hj,rfl⟩:=Xe (QR hv);exact(h2 j _ (Q1 hj)).2
   .have hi:i<k:=by have:=(Q4.1 ab).1;rw[Qu]at this;omega
    rw[Xg hi]at ab;have hj:j<cfg.sz x.T:=by have:=(Q4.1 hc).1;rw[ok.enc_len]at this;exact this
    have au:i*cfg.sz x.T+j<k*cfg.sz x.T:=by have:(i+1)*cfg.sz x.T<=k*cfg.sz x.T:=Qg _ hi;rw[QL]at this;omega
    grind
 obtain⟨k,hk⟩:∃k,k=Nat.min ls m:=⟨_,rfl⟩;have ak:k=min (x.l.length-n) l.length:=by rw[hk,hm,ar];exact Nat.min_comm _ _
 obtain⟨vs,g1,g2,g3,g4⟩:=ae k Yp;have af:(sizeOf (cfg.elT x.T)).run P w=.ok (cfg.sz x.T) w:=a7;have ai:l.take k=l.take (x.l.length-n):=by
  rcases Nat.le_total (x.l.length-n) l.length with h1|h1;.rw[ak,Xs h1]
  .rw[ak,Nat.min_eq_right h1,QA (Qc _),QA h1]
 by_cases h0:n<x.l.length
 .obtain⟨b',bh,be,rfl⟩:=au h0;obtain⟨_,_,w',h1,bl⟩:=Zf0 (P:=P) (l':=l.take k) (vs:=vs) (n:=n) (val:=some (.c (.int .i64 k))) (v:=goInt k) ok h ah be g2 g3 g4 hps.1 (by grind) (ao _);refine .inl ⟨goInt k,w',?_,g,?_⟩
  .rw[aq];refine Z9W ?_;rw[hk]at g1⊢;simp[Builtin.copy_,run_underlying av,Builtin.lenOf,af,g1,h1]
  .have e1:x.l.take n++(l.take k++x.l.drop (n+(l.take k).length))=cpL x.l n l:=by
    unfold cpL;rw[ai];congr 2;rw[Qu];rcases Nat.le_total (x.l.length-n) l.length with h1|h1;.rw[Xs h1,QN Yp,QN Yp]
    .grind
   grind
 .have a6:m=0:=Yp;have a8:k=0:=Yp;rw[a8]at g1 g2;have a1:vs=[]:=Q0 (by simpa using g2);subst a1;refine .inl ⟨goInt (0:Nat),w,?_,g,ZmQ h ah ?_ ?_⟩;.rw[aq];refine Z9W ?_;subst a6;cases b<;>simp[Builtin.copy_,run_underlying av,Builtin.lenOf,af,g1,storeCells]
  .have e1:n=x.l.length:=Yp;have e2:cpL x.l n l=x.l:=by unfold cpL;subst e1;rw[Kq,List.take_zero,QA (Qc _),QN Yp];simp
   rw[e2]
  grind
theorem ZuX(ok:CfgOk P cfg)(h:Rel cfg B st g a w){t:TypeId}{u:Tok}{x:LC U}{v:Value}{k:IntKind}{n:Int}{d:Nat}(ht:cfg.slT t=some x.T)(hx:st.ls u=some x)(hv:RelC cfg g st.dead v (.mref u))(hn:0<=n/\n<=x.l.length)(hf:(x.f:Int)<=n)(hls:st.ls (.r d 0)=none)(hdd:st.dead (.r d 0)=false)(hkl:[u].contains (.r d 0)=false):∃r g',(Instr.sliceAt t v none (some (.int k n)) none).run P w=.ok r w/\Out cfg B st g {val:=some (.c (.mref (.r d 0))),kill:=[u],ls:=[(.r d 0,⟨x.T,x.l.take n.toNat,x.f⟩)]} r w g':=by
 obtain⟨hE,hU⟩:=Jo ok ht;have ae:=J6 ok x.T w;rw[<-hE]at ae;have hm:Z67 cfg st x.T (.mref u)=some (x.l,x.f,some u):=by
  simp only[Z67,hx];cases ht:cfg.tyEq x.T x.T with
  |isTrue _=>rfl|isFalse h=>exact absurd rfl h
 obtain⟨b,len,cap,rfl,hl,hc,hb,aa⟩:=ZcY h hv hm;have ab:({val:=some (.c (.mref (.r d 0))),kill:=[u],ls:=[(.r d 0,⟨x.T,x.l.take n.toNat,x.f⟩)]}:Eff U)=ZO d x.T (x.l.take n.toNat) x.f [u]:=rfl;rw[ab,run_sliceAt_slice w t _ _ _ _ hU,run_slice_h w t b len cap hU _ _ hn.1 Yp,ae];cases b with|none=>obtain⟨rfl,rfl,aj⟩:=hb rfl;have ak:x.l=[]:=Q0 hl;have am:n.toNat=0:=Yp;rw[ak,aj,List.take_nil,am];exact⟨_,_,rfl,Zbt h hls hdd hkl⟩|some b=>
  have s:=aa b rfl;have al:n.toNat<=len:=Yp;have aq:n.toNat*cfg.sz x.T<=len*cfg.sz x.T:=Qg _ al;have ar:=ok.sz_pos x.T;have s2:Src cfg g w x.T (x.l.take n.toNat) x.f [u] b n.toNat cap:=by
   refine⟨by simp;omega,Yp,Yp,λi y hy j c hc=>?_,λj h1 h2=>?_⟩
   .rw[QZ]at hy;split at hy;.exact s.rows i y hy j c hc
    .cases hy
   .exact s.own ok j (X2 (Qg _ Yp) h1) h2
  obtain⟨w',g',h1,h2⟩:=Z4g (P:=P) (d:=d) (l':=[]) (n:=0) (vs:=[]) ok h s2 Yp rfl (by simp) (by simp) (by simp) hls hdd hkl;have hw:w'=w:=by simp[storeCells]at h1;exact h1.symm
  subst hw;rw[Qi,Xx]at h2;refine⟨_,g',rfl,?_⟩;have:sliced (some b) 0 n.toNat cap (cfg.sz x.T)=.slice (some b) n.toNat cap:=by
   unfold sliced;split;.rw[K6,K6]
   .rw[Nat.zero_mul,Qk,Addr.add_zero',K6,K6]
  rw[this];exact h2
theorem Z9i:∀{cs:List (C U)}{l vs:List Value}{dead:Tok->Bool},ZcV cs=some l->RelL cfg g dead vs cs->vs=l
 |[],l,vs,dead,h,hr=>by cases h;exact Q0 hr.1|c::cs,l,vs,dead,h,hr=>by
  simp only[ZcV]at h;split at h
  .rename_i v l' d h2;cases h;match vs,hr with
   |u::us,hr=>
    have h3:u=v:=by have:=(hr.2 0 u c rfl rfl).1;cases c<;>simp only[C.val,reduceCtorEq,Option.some.injEq]at d<;>subst d<;>cases this<;>rfl
    have h4:us=l':=Z9i (dead:=dead) h2 ⟨by simpa using hr.1,λj v c hv hc=>hr.2 (j+1) v c (by simpa using hv) (by simpa using hc)⟩;rw[h3,h4]|[],hr=>exact absurd hr.1 (by simp)
  .cases h
theorem ZhD:∀{vs:List Value}{cs:List (C U)}{dead:Tok->Bool},Zd6 vs=some cs->RelL cfg g dead vs cs
 |[],cs,dead,h=>by cases h;exact⟨rfl,λj v c hv=>by simp at hv⟩|v::vs,cs,dead,h=>by
  have ab:∃c aa,Zd6 vs=some aa/\cs=c::aa/\RelC cfg g dead v c:=by
   cases v<;>simp only[Zd6,reduceCtorEq]at h;case int k n=>cases hc:Zd6 (U:=U) vs with|none=>simp[hc]at h|some aa=>simp[hc]at h;exact⟨_,_,rfl,h.symm,.int _ _,trivial⟩
   case bool b=>cases hc:Zd6 (U:=U) vs with|none=>simp[hc]at h|some aa=>simp[hc]at h;exact⟨_,_,rfl,h.symm,.bool _,trivial⟩
  obtain⟨c,aa,h1,rfl,h3⟩:=ab;obtain⟨h4,h5⟩:=ZhD (dead:=dead) h1;refine⟨by simp[h4],λj u d hu hd=>?_⟩;cases j with|zero=>simp at hu hd;subst hu hd;exact h3|succ j=>exact h5 j u d (by simpa using hu) (by simpa using hd)
theorem ZhS(ok:CfgOk P cfg){t:TypeId}(ht:cfg.nif t=true)(x:Value):(Instr.makeInterface t x).run P w=.ok (.iface t x) w:=by obtain⟨d,h1,h2⟩:=ok.nif t ht;simp only[Instr.makeInterface,Sem.run_bind,run_underlying h1,Result.andThen_ok];cases d<;>first|rfl|exact absurd rfl (h2 _)
theorem ZoD(ok:CfgOk P cfg){t xt:TypeId}(ht:cfg.nif t=true)(x:Value):(Instr.typeAssert (.iface t x) xt t false).run P w=.ok x w:=by obtain⟨d,h1,h2⟩:=ok.nif t ht;simp only[Instr.typeAssert,Sem.run_bind,run_underlying h1,Result.andThen_ok];cases d<;>first|simp|exact absurd rfl (h2 _)
theorem Zwe(t:TypeId)(b:Addr)(x y:String):(Builtin.ssaWrapNilChk_ #[t] t #[.pointer (some b),strVal x,strVal y]).run P w=.ok (.pointer (some b)) w:=rfl
theorem ZoC(ok:CfgOk P cfg){t:TypeId}{name:String}{f:FuncId}{vr:Bool}(hm:cfg.mth t name=some (f,vr)){b:Addr}{u:Value}(hu:vr=true->w.cell? b=some u)(n:Nat):(method (n+1) t (.pointer (some b)) name).run P w=.ok (f,if vr then u else .pointer (some b)) w:=by obtain⟨i,m,e,h1,h2,h3,h4,h5,h6⟩:=ok.mth _ _ _ _ hm;cases vr with|false=>simp[method,typeInfo,h1,h2,h3,h4,follow,receiverAt,run_underlying h5,Place.get]|true=>obtain⟨z,hz⟩:=h6 rfl;have hl:=Z2o (w:=w) (b:=b) (vs:=[u]) ok hz rfl (λj v d=>by cases j with|zero=>simp at d;subst d;rw[Addr.add_zero'];exact hu rfl|succ j=>simp at d);simp only[X9,if_false]at hl;simp[method,typeInfo,h1,h2,h3,h4,follow,receiverAt,run_underlying h5,Place.get,Zwe,asAddr,hl]
theorem Z8G(ok:CfgOk P cfg){o:Oper}{c:Call}{r:Operand}{name:String}(ho:o.op=.call c)(hc:c.callee=.invoke r name){t:TypeId}{b:Addr}(hr:a.eval r=.iface t (.pointer (some b))){f:FuncId}{vr:Bool}(hm:cfg.mth t name=some (f,vr)){u:Value}(hu:vr=true→w.cell? b=some u){fn:Func}(h1:P.funcs[f]?=some fn)(h2:fn.body.isSome=true)(h3:(fn.name== "runtime.NumGoroutine")=false):(execOp a.eval o).run P w=.ok (.enter f ((if vr then u else .pointer (some b))::c.args.toList.map a.eval).toArray) w:=by
 have d:=ZoC (w:=w) ok hm hu (P.types.size+99);have hd:P.types.size+Made.depth=P.types.size+99+1:=rfl;simp only[execOp,ho,resolve,hc,hr,Sem.run_bind,Sem.run_pure,Result.andThen_ok,invoke];have e0:(#[Value.iface t (.pointer (some b))]++c.args.map a.eval)[0]?=some (.iface t (.pointer (some b))):=by rw[Array.getElem?_append];try rfl
 have e1:(#[Value.iface t (.pointer (some b))]++c.args.map a.eval).extract 1 (#[Value.iface t (.pointer (some b))]++c.args.map a.eval).size=c.args.map a.eval:=by
  apply QU;simp only[Array.toList_extract,Array.toList_append,Array.size_append,List.size_toArray,Qa,Qm,QQ,Nat.add_sub_cancel_left,List.extract_eq_take_drop,Xn,Array.size_map];simp;apply QA;simp
 simp only[e0,Sem.run_pure,Sem.run_bind,Result.andThen_ok,e1,callMethod,run_program,hd,d];rw[ZiV h1 h2 h3];congr 2;apply QU;simp
theorem ZuL(ok:CfgOk P cfg){Γ:Known U}(hΓ:∀f s,Γ f=some s->Contract P cfg f s)(h:Rel cfg B st g a w){o:Oper}{f:FuncId}{i:InL U}{args:List (V U)}{ps:List Prop}{e:Eff U}{vals:List Value}(hen:∀fn,P.funcs[f]?=some fn→fn.body.isSome=true→(fn.name== "runtime.NumGoroutine")=false→(execOp a.eval o).run P w=.ok (.enter f vals.toArray) w)(hargs:vals.length=args.length/\∀(j:Nat)u x,vals[j]?=some u->args[j]?=some x->RelV cfg g st.dead (λnm=>(st.mem nm).isSome) u x)(hi:Znv Γ f=some i)(he:Zvg cfg st i args=some (ps,e))(hps:All ps):Does P o a w λv w'=>∃g',Out cfg B st g e v w' g':=by
 unfold Zvg at he;split at he;case h_2=>cases he
 rename_i t gf;split at he;case isFalse=>cases he
 rename_i hg;obtain⟨hg,bl⟩:=hg;subst hg;split at he;case h_2=>cases he
 rename_i x hx;split at he;case h_2=>cases he
 rename_i hT _;simp only[oP]at he;obtain⟨rfl,rfl⟩:=he;obtain⟨i1,T,F,lk⟩:=i;simp only at hT;subst hT;obtain⟨T,l,fr⟩:=x;have bx:fr=0:=hps.1;subst bx;simp only at F hi;unfold Znv at hi;split at hi;case h_2=>cases hi
 rename_i s hs;obtain⟨⟨fn,bi,bn,bv⟩,_,aw⟩:=hΓ f s hs;have aw:=(aw _ hi).1 (by simpa using bl);match vals,hargs with
 |[v,u],hargs=>
  have hv:RelC cfg g st.dead v (.mref t):=hargs.2 0 v _ rfl rfl;have hu:u=.func (.func i1) #[] #[]:=hargs.2 1 u _ rfl rfl;subst hu;obtain⟨bd,hL⟩:=h.ls t _ hx;obtain⟨sz,a6⟩:=hv.2 bd;have bu:∃(b:Option Addr)(cap:Nat)(vs:List Value),v=.slice b l.length cap/\ZtD cfg g.m T l vs/\(b=none->l=[]/\cap=0)/\l.length<=cap/\sz=cfg.sz T/\(∀a,b=some a->∀(j:Nat)u,vs[j]?=some u->w.cell? (a.add j)=some u/\g.tag (a.add j)=some (.tok t))/\(∀a,b=some a->∀j,l.length*cfg.sz T<=j->j<cap*cfg.sz T->g.tag (a.add j)=some (.tok t)):=by
   rcases hL with⟨h4,h5,_⟩|⟨b,len,cap,h4,hlen,d,hfl,hrows,aa⟩<;>rw[a6]at h4<;>cases h4;.simp only at h5;subst h5;exact⟨none,0,[],rfl,⟨by simp,λi x hx=>by simp at hx⟩,λ_=>⟨rfl,rfl⟩,Qc _,rfl,λa ha=>(by cases ha),λa ha=>(by cases ha)⟩
   .simp only at hlen hrows aa d;have s:Src cfg g w T l 0 [t] b len cap:=⟨hlen,d,QI _,λi y hy j c hc=>by obtain⟨u,g1,g2,g3,g4⟩:=hrows i y hy j c hc;exact⟨u,g1,g2,g3,λhi=>⟨t,rfl,g4 hi⟩⟩,λj h1 h2=>⟨t,rfl,aa j h1 h2⟩⟩;obtain⟨vs,br,bh,bk⟩:=s.list ok;have b1:len*cfg.sz T<=cap*cfg.sz T:=Qg _ d;subst hlen;refine⟨some b,cap,vs,rfl,⟨br,bk⟩,λe=>(by cases e),d,rfl,λa ha j u hj=>?_,λa ha j h1 h2=>?_⟩
    .cases ha;have b6:j<vs.length:=(Q4.1 hj).1;obtain⟨t',e,h2⟩:=s.own ok j Yp Yp;cases e;exact⟨bh j u hj,h2⟩
    .cases ha;exact aa j h1 h2
  obtain⟨b,cap,vs,rfl,a8,bb,d,rfl,ae,aa⟩:=bu;have ax:=aw w g.m l b cap vs a8 bb d hps.2.1 (λa ha j u hj=>⟨(ae a ha j u hj).1,(h.inv.it _ _ (ae a ha j u hj).2).1⟩);refine .inr (.inr ⟨f,_,w,hen fn bi bn bv,Calls.mono ax ?_⟩);rintro e' w'⟨⟨r,rfl⟩,au,b8,ak,aj,af⟩;simp only at au ak aj af;refine⟨r,rfl,g,?_⟩;have al:∀c,(∃a j,b=some a/\j<vs.length/\c=a.add j)->g.tag c=some (.tok t):=by rintro c⟨a,j,ha,hj,rfl⟩;exact(ae a ha j _ (Q1 hj)).2
  have ab:∀c,c.block<w.heap.size->g.tag c≠some (.tok t)->w'.cell? c=w.cell? c:=λc az hc=>aj.cell c az λhs=>hc (al c hs);have bc:∀c v,g.m c=some v->w'.cell? c=some v:=λc v hv=>by obtain⟨h7,h8⟩:=h.inv.im c v hv;rw[ab c (h.inv.lt' hv) (by rw[h8];exact λe=>by cases e)];exact h7
  have aq:Zp st ({ls:=[(t,⟨T,F l,0⟩)]}:Eff U)=st.dead:=by funext t;simp[Zp]
  refine⟨⟨λc v hv=>⟨bc c v hv,(h.inv.im c v hv).2⟩,λc t0 am=>?_⟩,?_,by rw[aq];exact .refl _ _ _,?_,trivial,?_,?_⟩;.obtain⟨h7,u',h8⟩:=h.inv.it c t0 am;exact⟨(aj.frozen c (h.inv.lt am)).trans h7,aj.some c u' h8⟩
  .exact h.fr.step h.inv aj (λc hc=>⟨_,al c hc,λt' e=>by cases e⟩) (λ_ _ h=>h) (λ_ _=>QM) (λ_ _ _ _ _=>rfl) (λ_=>rfl)
  .rw[aq];intro nm bm hm j c hj;obtain⟨v0,bj,a2,bt⟩:=h.mem nm bm hm j c hj;exact⟨v0,by rw[ab _ (h.inv.lt a2) (by rw[a2];exact λe=>by cases e)];exact bj,a2,bt⟩
  .intro t1 z hz;rw[aq];unfold JV at hz;simp only[Xi,cond_false,Zy]at hz;split at hz
   .rename_i et;subst et;cases hz;refine⟨bd,?_⟩;cases b with
    |none=>
     obtain⟨rfl,rfl⟩:=bb rfl;exact .inl ⟨a6,Q0 au,rfl⟩|some b=>
     refine .inr ⟨b,l.length,cap,a6,au,d,QI _,λi q hq j c hc=>?_,λj h1 h2=>aa b rfl j h1 h2⟩;obtain⟨u,g1,g2⟩:=ak.2 i q hq j c hc;have g3:=af b rfl _ _ g1;refine⟨u,g3,g2,λhi=>absurd hi (XK _),λ_=>?_⟩;have az:i*cfg.sz T+j<vs.length:=by have:=(Q4.1 g1).1;rw[ak.1,au]at this;rw[a8.1];exact this
     exact(ae b rfl _ _ (Q1 az)).2
   .obtain⟨h7,h8⟩:=h.ls t1 z hz;rename_i bp;exact⟨h7,h8.keep (.refl g st.dead (λ_=>true)) h7 bc (λc am=>ab c (h.inv.lt am) (by rw[am];exact λe=>by cases e;exact bp rfl))⟩
  .rw[aq];intro t1 h0 h7 h8;unfold JV at h7;simp only[Xi,cond_false,Zy]at h7;split at h7;.cases h7
   .exact h.fresh t1 h0 h7 h8|[],hargs=>exact absurd hargs.1 (by simp)|[_],hargs=>exact absurd hargs.1 (by simp)|_::_::_::_,hargs=>exact absurd hargs.1 (by simp)
theorem ZzG{g:Gh}{d:Tok->Bool}{v:Value}{c:C U}(h:RelC cfg g d v c):RelC cfg g d v c.bare:=by cases c with
 |slice T l tl=>
  obtain⟨h1,_⟩:=h;refine⟨?_,trivial⟩;cases h1 with|snil=>exact .snil _ _|slice _ _ _ a len cap vs hl hc hm hs=>exact .slice _ _ _ a len cap vs hl hc hm hs
 |mref t=>obtain⟨h1,_⟩:=h;cases h1 with|mref _ _ h=>exact⟨.jk _ h,trivial⟩
 |xp k=>obtain⟨h1,_⟩:=h;cases h1 with|xp _ _ h=>exact⟨.jk _ h,trivial⟩
 |_=>exact h
theorem ZpM{Γ:Known U}(hΓ:∀f s,Γ f=some s->Contract P cfg f s)(h:Rel cfg B st g a w){o:Oper}{f:FuncId}{k:Nat}{args:List (V U)}{nms:List Name}{ps:List Prop}{e:Eff U}{vals:List Value}(hen:∀fn,P.funcs[f]?=some fn→fn.body.isSome=true→(fn.name== "runtime.NumGoroutine")=false→(execOp a.eval o).run P w=.ok (.enter f (vals++nms.map λnm=>Value.pointer (some (g.ad nm))).toArray) w)(hargs:vals.length=args.length/\∀(j:Nat)u x,vals[j]?=some u->args[j]?=some x->RelV cfg g st.dead (λnm=>(st.mem nm).isSome) u x)(hi:ZkA Γ f=some k)(he:Zjl st k args nms=some (ps,e)):Does P o a w λv w'=>∃g',Out cfg B st g e v w' g':=by
 unfold Zjl at he;split at he;case h_2=>cases he
 rename_i c nm;split at he;case h_2=>cases he
 rename_i x hx;rw[cond_eq_ite]at he;split at he;case isFalse=>cases he
 rename_i ao;rw[Q2]at ao;split at he;case h_2=>cases he
 rename_i cs be;split at he;case h_2=>cases he
 rename_i z hz;simp only[oP]at he;obtain⟨rfl,rfl⟩:=he;unfold ZkA at hi;split at hi;case h_2=>cases hi
 rename_i s hs;split at hi;case h_2=>cases hi
 rename_i i aq;obtain⟨⟨fn,ax,az,ay⟩,_,ak⟩:=hΓ f s hs;have ak:=(ak _ aq).2 k hi;match vals,hargs with
 |[u],hargs=>
  have hu:RelC cfg g st.dead u c:=hargs.2 0 u _ rfl rfl;obtain⟨v0,ae,_,ai⟩:=h.mem nm _ hx 0 _ rfl;have ba:v0=.pointer (some (g.ad (.x x))):=ai.2;obtain⟨v2,a8,_,bb⟩:=h.mem (.x x) _ be k _ hz;have a1:v2=.int .i64 z:=by have:=bb.1;cases this;rfl
  subst ba a1;have e0:(g.ad nm).add 0=g.ad nm:=by simp[Addr.add]
  rw[e0]at ae;obtain⟨p,n,m,rfl⟩:∃p n m,u=.slice p n m:=by have h1:=hu.1;have h2:=ao.2;cases c with|nils=>cases h1;exact⟨_,_,_,rfl⟩|slice T l tl=>cases h1<;>exact⟨_,_,_,rfl⟩|_=>cases h2
  have aj:=ak w (g.ad nm) (g.ad (.x x)) z p n m ae a8;refine .inr (.inr ⟨f,_,w,hen fn ax az ay,Calls.mono aj ?_⟩);rintro e' w'⟨rfl,ah⟩;refine⟨_,rfl,g,?_⟩;have d:∀c,c.block<w.heap.size->w'.cell? c=w.cell? c:=λc bc=>ah.cell c bc λhs=>hs;have ar:∀c v,g.m c=some v->w'.cell? c=some v:=λc v hv=>by rw[d c (h.inv.lt' hv)];exact(h.inv.im c v hv).1
  have aa:Zp st ({val:=some (.agg [.int .i64 z,.nils,c.bare])}:Eff U)=st.dead:=by funext t;simp[Zp]
  refine⟨⟨λc v hv=>⟨ar c v hv,(h.inv.im c v hv).2⟩,λc t0 af=>?_⟩,?_,by rw[aa];exact .refl _ _ _,?_,?_,?_,?_⟩;.obtain⟨h7,u',h8⟩:=h.inv.it c t0 af;exact⟨(ah.frozen c (h.inv.lt af)).trans h7,ah.some c u' h8⟩
  .exact h.fr.step h.inv ah (λc hc=>hc.elim) (λ_ _ h=>h) (λ_ _=>QM) (λ_ _ _ _ _=>rfl) (λ_=>rfl)
  .rw[aa];intro nm bd hm j c hj;obtain⟨v0,ae,av,ai⟩:=h.mem nm bd hm j c hj;exact⟨v0,by rw[d _ (h.inv.lt av)];exact ae,av,ai⟩
  .rw[aa];refine⟨_,rfl,rfl,λj v c0 hv hc=>?_⟩;match j with|0=>cases hv;cases hc;exact⟨.int _ _,trivial⟩|1=>cases hv;cases hc;exact⟨.nils,trivial⟩|2=>cases hv;cases hc;exact ZzG hu|j+3=>simp at hv
  .intro t1 z1 a6;rw[aa];have a2:st.ls t1=some z1:=by simpa[JV,Zy]using a6
   obtain⟨h7,h8⟩:=h.ls t1 z1 a2;exact⟨h7,h8.keep (.refl g st.dead (λ_=>true)) h7 ar (λc af=>d c (h.inv.lt af))⟩
  .rw[aa];intro t1 h0 h7 h8;have h9:st.ls t1=none:=by simpa[JV,Zy]using h7
   exact h.fresh t1 h0 h9 h8|[],hargs=>exact absurd hargs.1 (by simp)|_::_::_,hargs=>exact absurd hargs.1 (by simp)
theorem Z1g{o:Oper}{c:Call}{gx:Operand}{f:FuncId}(ho:o.op=.call c)(hc:c.callee=.value gx){first caps:List Value}(hg:a.eval gx=.func (.func f) first.toArray caps.toArray):∀fn,P.funcs[f]?=some fn→fn.body.isSome=true→(fn.name== "runtime.NumGoroutine")=false→(execOp a.eval o).run P w=.ok (.enter f (first++c.args.toList.map a.eval++caps).toArray) w:=by intro fn d h2 h3;simp only[execOp,ho,resolve,hc,hg,Deferred.ofValue,Sem.run_bind,Sem.run_pure,Result.andThen_ok,invoke];rw[ZiV d h2 h3];congr 2;apply QU;simp
theorem Zat{dead:Tok->Bool}{live:Name->Bool}:∀{vs:List Value}{us:List (V U)},vs.mapM Z0g=some us->vs.length=us.length/\∀(j:Nat)v x,vs[j]?=some v->us[j]?=some x->RelV cfg g dead live v x|[],us,h=>by simp at h;subst h;exact⟨rfl,λj v x hv=>by simp at hv⟩|v::vs,us,h=>by rw[QW]at h;cases h1:Z0g (U:=U) v with|none=>simp[h1]at h|some x=>cases h2:vs.mapM (Z0g (U:=U))with|none=>simp[h1,h2]at h|some xs=>simp[h1,h2]at h;subst h;obtain⟨h3,h4⟩:=Zat (dead:=dead) (live:=live) h2;refine⟨by simp[h3],λj u y d hy=>?_⟩;cases j with|zero=>simp at d hy;subst d hy;exact Z2r h1|succ j=>exact h4 j u y (by simpa using d) (by simpa using hy)
end Go.AM
