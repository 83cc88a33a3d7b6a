import Derived.Test.YtnfbomhidainjaaGreatTmQ
set_option linter.unusedSimpArgs false
set_option linter.unusedVariables false
namespace Go.AM
variable {U:Uni} {P:Program} {cfg:Cfg U} {B:Base} {st:FSt U} {g:Gh} {a:Act} {w:World}
def ZF:Tok->Bool:=fun _=> false
def Z67(X:List (List (C U))):Name->Bool
 | .x k=> (X[k]?).isSome
 | .loc _=> false
structure Entry (cfg:Cfg U) (w:World) (g:Gh) (vs:List Value) (args:List (V U)) (X:List (List (C U))) (L:List (Tok × LC U)):Prop where
 inv:Inv g.m g.tag w
 tags:∀ a t,g.tag a=some t->(∃ t',t= .outer t')\/(∃ k,t= .obj (.x k))\/∃ u,t= .tok u
 len:vs.length=args.length
 args:∀ (j:Nat) v x,vs[j]?=some v->args[j]?=some x->RelV cfg g ZF (Z67 X) v x
 x:∀ (k:Nat) cs,X[k]?=some cs->∀ (j:Nat) c,cs[j]?=some c->∃ v,w.cell? ((g.ad (.x k)).add j)=some v/\g.tag ((g.ad (.x k)).add j)=some (.obj (.x k))/\RelC cfg g ZF v c
 bs:∀ t,t.isR=true->g.bs t=none
 ls:∀ t x,Zt (fun _=> none) L t=some x->LRel cfg w g t x
structure Leave (cfg:Cfg U) (w:World) (g:Gh) (w':World) (g':Gh) (v:Value) (r:V U) (X:List (List (C U))) (L:List (Tok × LC U)):Prop where
 inv:Inv g'.m g'.tag w'
 fr:Fr ⟨w,g.m,g.tag,fun k=> g'.ad (.x k)⟩ g' w'
 tags:∀ a t,g'.tag a=some t->(∃ t',t= .outer t')\/(∃ k,k < X.length/\t= .obj (.x k))\/∃ u,t= .tok u
 ad:∀ k,r≠.ptr (.x k) 0->g'.ad (.x k)=g.ad (.x k)
 val:RelV cfg g' ZF (fun _=> false) v r
 x:∀ (k:Nat) cs,X[k]?=some cs->∀ (j:Nat) c,cs[j]?=some c->∃ v,w'.cell? ((g'.ad (.x k)).add j)=some v/\g'.tag ((g'.ad (.x k)).add j)=some (.obj (.x k))/\RelC cfg g' ZF v c
 ls:∀ t x,Zt (fun _=> none) L t=some x->LRel cfg w' g' t x
def ZqT(cfg:Cfg U)(m:Addr->Option Value)(T:U.Ty)(l:List (U.El T))(vs:List Value):Prop:=
 vs.length=l.length*cfg.sz T/\∀ i x,l[i]?=some x->∀ j c,(cfg.enc T x)[j]?=some c->∃ u,vs[i*cfg.sz T+j]?=some u/\SimC cfg m u c
def ZqU(P:Program)(cfg:Cfg U)(f:FuncId)(i:InL U):Prop:=
 ∀ (w:World) (m:Addr->Option Value) (l:List (U.El i.T)) (b:Option Addr) (cap:Nat) (vs:List Value),ZqT cfg m i.T l vs->(b=none->l=[]/\cap=0)->l.length<=cap->l.length<=1000000000->
  (∀ a,b=some a->∀ (j:Nat) u,vs[j]?=some u->w.cell? (a.add j)=some u/\w.frozen? (a.add j)=false)->
  Calls P f #[.slice b l.length cap,.func (.func i.g) #[] #[]] w fun e w'=> (∃ u,e= .returned u)/\(i.F l).length=l.length/\∃ vs':List Value,ZqT cfg m i.T (i.F l) vs'/\
   Evo w w' (fun c=> ∃ a j,b=some a/\j < vs.length/\c=a.add j)/\∀ a,b=some a->∀ (j:Nat) u,vs'[j]?=some u->w'.cell? (a.add j)=some u
def Contract(P:Program)(cfg:Cfg U)(f:FuncId)(s:Fs U):Prop:=
 (∃ fn, P.funcs[f]? = some fn ∧ fn.body.isSome = true ∧ (fn.name == "runtime.NumGoroutine") = false) ∧
 (∀ args X L ps r X' L',s.fn2 args X L=some (ps,r,X',L')->All ps->X'.length<=X.length+1->∀ w g vs,Entry cfg w g vs args X L->
  Calls P f vs.toArray w fun e w'=> ∃ v g',e= .returned v/\Leave cfg w g w' g' v r X' L')/\
 ∀ i,s.inp=some i->ZqU P cfg f i
def Zxv(P:Program)(cfg:Cfg U)(f:FuncId)(s:Fs U):Prop:=
 ∀ args X ps r X',s.fn args X=some (ps,r,X')->All ps->X'.length<=X.length+1->∀ w g vs,Entry cfg w g vs args X []->
  Calls P f vs.toArray w fun e w'=> ∃ v g',e= .returned v/\Leave cfg w g w' g' v r X' []
theorem Jk {f : FuncId} {s : Fs U} (h0 : ∃ fn, P.funcs[f]? = some fn ∧ fn.body.isSome = true ∧ (fn.name == "runtime.NumGoroutine") = false) (hd : s.fn2 = Zcx s.fn) (h : Zxv P cfg f s) (hi : s.inp = none := by rfl) : Contract P cfg f s := by
 refine ⟨h0,fun args X L ps r X' L' d=> ?_,fun i h=> by rw [hi] at h;cases h⟩
 rw [hd] at d
 unfold Zcx at d
 split at d
 .split at d
  .rename_i h1
   cases d
   exact h args X _ _ _ h1
  .cases d
 .cases d
theorem Contract.one{f:FuncId}{s:Fs U}(h:Contract P cfg f s)(hd:s.fn2=Zcx s.fn):Zxv P cfg f s:=by
 intro args X ps r X' d
 exact h.2.1 args X [] ps r X' [] (by rw [hd];simp only [Zcx,d])
theorem SimC.tl{m:Addr->Option Value}{v:Value}{T:U.Ty}{l:List (U.El T)}{tl:Tail}(tl':Tail)(h:SimC cfg m v (.slice T l tl)):SimC cfg m v (.slice T l tl'):=by
 cases h with
 | snil=> exact .snil T tl'
 | slice _ _ _ b len cap vs hl hc hm hs=> exact .slice T l tl' b len cap vs hl hc hm hs
def Ext(s s':List (Tok × Tok)):Prop:=(∀ t t':Tok,YG s t=some t'->YG s' t=some t')/\∀ t t':Tok,Z1j s t=some t'->Z1j s' t=some t'
theorem Ext.refl(s:List (Tok × Tok)):Ext s s:=⟨fun _ _ h=> h,fun _ _ h=> h⟩
theorem Ext.trans{a b c:List (Tok × Tok)}(h:Ext a b)(k:Ext b c):Ext a c:=⟨fun t t' d=> k.1 _ _ (h.1 _ _ d),fun t t' d=> k.2 _ _ (h.2 _ _ d)⟩
theorem Ext.cons{seen:List (Tok × Tok)}{t nm:Tok}(h1:YG seen t=none)(h2:Z1j seen nm=none):Ext seen ((t,nm) ::seen):=by
 refine ⟨fun u u' d=> ?_,fun u u' d=> ?_⟩
 .simp only [YG]
  grind
 .simp only [Z1j]
  grind
theorem ZeM:∀ {s:List (Tok × Tok)} {t t':Tok},YG s t=some t'->(s.map (·.1)).contains t=true
 | (x,y) ::r,t,t',h=> by
  simp only [YG] at h
  split at h
  .grind
  .have:=ZeM h
   grind
def Zhq(g:Gh)(s:List (Tok × Tok))(t:Tok):Option (Value × Nat):=
 match Z1j s t with
 | none=> none
 | some u=> g.bs u
def Gh.callee(g:Gh)(nx:Name->Option Nat)(s:List (Tok × Tok))(ax:Nat->Addr):Gh:=
 {m:=g.m
  tag:=fun c=> match g.tag c with
   | some (.obj nm)=> match nx nm with
    | some k=> some (.obj (.x k))
    | none=> some (.outer (.obj nm))
   | some (.tok t)=> match YG s t with
    | some t'=> some (.tok t')
    | none=> some (.outer (.tok t))
   | some (.outer t)=> some (.outer (.outer t))
   | none=> none
  ad:=fun nm=> match nm with
   | .x k=> ax k
   | .loc s=> g.ad (.loc s)
  bs:=fun t=> if t.isR=true then none else Zhq g s t }
theorem Z11{m:Tok->Option (LC U)}{s:List (Tok × Tok)}:∀ (l:List Tok) {t:Tok} {x:LC U},Zt (fun _=> none) (J9 m s l) t=some x->∃ u,Z1j s t=some u/\YG s u=some t/\m u=some x/\t.isR=false
 | [],t,x,h=> by trivial
 | t0 ::l,t,x,h=> by
  simp only [J9] at h
  split at h
  .rename_i u hu
   split at h
   .rename_i t' y h1 h2
    split at h
    .rename_i hc
     obtain ⟨d,aa⟩:=hc
     subst d
     simp only [Zt] at h
     split at h
     .grind
     .exact Z11 l h
    .exact Z11 l h
   .exact Z11 l h
  .exact Z11 l h
section pass
variable {nx:Name->Option Nat} {ax:Nat->Addr}
structure Ren (ok:Tok->Bool) (g:Gh) (s:List (Tok × Tok)) (g2:Gh):Prop where
 m:g2.m=g.m
 tok:∀ c t t',g.tag c=some (.tok t)->YG s t=some t'->g2.tag c=some (.tok t')
 bs:∀ t t' v,ok t=true->Z1j s t=some t'->g.bs t'=some v->g2.bs t=some v
def Z36(t:Tok):Bool:= !t.isR
theorem Gh.callee_ren(s:List (Tok × Tok)):Ren Z36 g s (g.callee nx s ax):=
 ⟨rfl,fun c t t' d h2=> by simp only [Gh.callee,d,h2],fun t t' v d h2 h3=> by
  simp only [Z36,QQ] at d
  simp only [Gh.callee,d,Zhq,h2]
  exact h3⟩
theorem Zfo{s:List (Tok × Tok)}{c:Addr}{t:Tag}:(g.callee nx s ax).tag c=some (.outer t)↔(g.tag c=some t/\(∀ nm,t= .obj nm->nx nm=none)/\(∀ u,t= .tok u->YG s u=none)):=by
 simp only [Gh.callee]
 cases hgt:g.tag c with
 | none=> simp
 | some t0=>
  cases t0 with
  | obj nm=>
   cases hn:nx nm with
   | none=>
    simp only [hn]
    constructor
    .intro h;cases h;exact ⟨rfl,fun aa e=> by cases e;exact hn,fun u e=> by cases e⟩
    .rintro ⟨d,_,_⟩;cases d;rfl
   | some k=>
    simp only [hn]
    constructor
    .intro h;cases h
    .rintro ⟨d,h2,_⟩;cases d;rw [h2 nm rfl] at hn;cases hn
  | tok u=>
   cases hn:YG s u with
   | none=>
    simp only [hn]
    constructor
    .intro h;cases h;exact ⟨rfl,fun aa e=> by (cases e),fun u' e=> by cases e;exact hn⟩
    .rintro ⟨d,_,_⟩;cases d;rfl
   | some k=>
    simp only [hn]
    constructor
    .intro h;cases h
    .rintro ⟨d,_,h2⟩;cases d;rw [h2 u rfl] at hn;cases hn
  | outer t0=>
   simp only
   constructor
   .intro h;cases h;exact ⟨rfl,fun aa e=> by (cases e),fun u' e=> by (cases e)⟩
   .rintro ⟨d,_,_⟩;cases d;rfl
theorem Z6w{s:List (Tok × Tok)}{c:Addr}{t:Tag}(ht:(g.callee nx s ax).tag c=some t):∃ t0,g.tag c=some t0:=by
 simp only [Gh.callee] at ht
 cases hgt:g.tag c with
 | none=> simp [hgt] at ht
 | some t0=> exact ⟨t0,rfl⟩
theorem Z6x{s:List (Tok × Tok)}{c:Addr}(hc:g.tag c=none):(g.callee nx s ax).tag c=none:=by
 simp only [Gh.callee,hc]
theorem Z7Z{okT mine:Tok->Bool}{nm:Tok}{c:C U}{seen:List (Tok × Tok)}(hmine:∀ t,mine t=true->st.dead t=false)(hok:okT nm=true):
  Ext seen (Z0C mine nm c seen).2/\∀ s',Ext (Z0C mine nm c seen).2 s'->∀ g2,Ren okT g s' g2->∀ v,RelC cfg g st.dead v c->RelC cfg g2 ZF v (Z0C mine nm c seen).1:=by
 unfold Z0C
 split
 .rename_i T l t
  split
  .rename_i hc
   simp only [Q2,QA] at hc
   refine ⟨Ext.cons hc.1.2 hc.2,fun s' hs g2 hg v d=> ⟨by rw [hg.m];exact d.1.tl _,?_⟩⟩
   intro _ b len ak hv j h1 h2
   have h3:=d.2 (hmine t hc.1.1) b len ak hv j h1 h2
   have h4:YG s' t=some nm:=hs.1 t nm (by simp [YG])
   exact hg.tok _ _ _ h3 h4
  .exact ⟨.refl _,fun s' _ g2 hg v d=> ⟨by rw [hg.m];exact d.1.tl _,trivial⟩⟩
 .rename_i t
  split
  .rename_i hc
   simp only [Q2,QA] at hc
   refine ⟨Ext.cons hc.1.2 hc.2,fun s' hs g2 hg v d=> ⟨.mref _ _ d.1.one,fun _=> ?_⟩⟩
   obtain ⟨sz,h3⟩:=d.2 (hmine t hc.1.1)
   have h4:Z1j s' nm=some t:=hs.2 nm t (by simp [Z1j])
   exact ⟨sz,hg.bs _ _ _ hok h4 h3⟩
  .exact ⟨.refl _,fun s' _ g2 hg v d=> ⟨.jk _ d.1.one,trivial⟩⟩
 .exact ⟨.refl _,fun s' _ g2 hg v d=> ⟨.jk _ d.1.one,trivial⟩⟩
 .rename_i ar al am
  refine ⟨.refl _,fun s' _ g2 hg v d=> ⟨by rw [hg.m];exact d.1,?_⟩⟩
  have h2:=d.2
  cases c with
  | slice T l tl=>
   cases tl with
   | unk=> trivial
   | full=> exact h2
   | own t=> grind
  | mref t=> grind
  | xp k=> grind
  | _=> trivial
theorem Z6E{okT mine:Tok->Bool}{nm:Nat->Tok}(hmine:∀ t,mine t=true->st.dead t=false)(hok:∀ j,okT (nm j)=true):∀ (cs:List (C U)) (j:Nat) (seen:List (Tok × Tok)),
  Ext seen (J8 mine nm j cs seen).2/\(J8 mine nm j cs seen).1.length=cs.length/\
   ∀ s',Ext (J8 mine nm j cs seen).2 s'->∀ g2,Ren okT g s' g2->∀ (i:Nat) v c c',cs[i]?=some c->(J8 mine nm j cs seen).1[i]?=some c'->RelC cfg g st.dead v c->RelC cfg g2 ZF v c'
 | [],j,seen=> ⟨.refl _,rfl,fun s' _ g2 _ i v c c' hc=> by simp at hc⟩
 | c ::cs,j,seen=> by
  obtain ⟨h1,h2⟩:=Z7Z (cfg:=cfg) (g:=g) (okT:=okT) (nm:=nm j) (c:=c) (seen:=seen) hmine (hok j)
  obtain ⟨h3,h4,h5⟩:=Z6E (okT:=okT) (mine:=mine) (nm:=nm) hmine hok cs (j+1) (Z0C mine (nm j) c seen).2
  refine ⟨h1.trans h3,by simp [J8,h4],fun s' hs g2 hg i v c0 c' hc d hr=> ?_⟩
  cases i with
  | zero=>
   simp [J8] at hc d
   subst hc d
   exact h2 s' (h3.trans hs) g2 hg v hr
  | succ i=>
   simp [J8] at hc d
   exact h5 s' hs g2 hg i v c0 c' hc d hr
theorem Zrp{mine:Tok->Bool}{nm:Tok}{c:C U}{seen:List (Tok × Tok)}(hmine:∀ t,mine t=true->st.dead t=false)(hok:Z36 nm=true):
  Ext seen (Z0C mine nm c seen).2/\∀ d,Ext (Z0C mine nm c seen).2 d->∀ v,RelC cfg g st.dead v c->RelC cfg (g.callee nx d ax) ZF v (Z0C mine nm c seen).1:=
 let ⟨h1,h2⟩:=Z7Z (cfg:=cfg) (g:=g) (nm:=nm) (c:=c) (seen:=seen) hmine hok
 ⟨h1,fun d hs v hr=> h2 d hs _ (Gh.callee_ren d) v hr⟩
theorem ZkC{mine:Tok->Bool}{nm:Nat->Tok}(hmine:∀ t,mine t=true->st.dead t=false)(hok:∀ j,Z36 (nm j)=true)(cs:List (C U))(j:Nat)(seen:List (Tok × Tok)):
  Ext seen (J8 mine nm j cs seen).2/\(J8 mine nm j cs seen).1.length=cs.length/\
   ∀ d,Ext (J8 mine nm j cs seen).2 d->∀ (i:Nat) v c c',cs[i]?=some c->(J8 mine nm j cs seen).1[i]?=some c'->RelC cfg g st.dead v c->RelC cfg (g.callee nx d ax) ZF v c':=
 let ⟨h1,h2,h3⟩:=Z6E (cfg:=cfg) (g:=g) (mine:=mine) (nm:=nm) hmine hok cs j seen
 ⟨h1,h2,fun d hs i v c c' hc aa hr=> h3 d hs _ (Gh.callee_ren d) i v c c' hc aa hr⟩
theorem Zuy{mine:Tok->Bool}{nm:Nat->Tok}{live lx:Name->Bool}(hmine:∀ t,mine t=true->st.dead t=false)(hok:∀ j,Z36 (nm j)=true){x x':V U}{seen seen':List (Tok × Tok)}(he:Zuz mine nm x seen=some (x',seen')):
  Ext seen seen'/\∀ d,Ext seen' d->∀ v,RelV cfg g st.dead live v x->RelV cfg (g.callee nx d ax) ZF lx v x':=by
 unfold Zuz at he
 split at he
 .rename_i c
  simp only [oP] at he
  obtain ⟨rfl,rfl⟩:=he
  obtain ⟨h1,h2⟩:=Zrp (cfg:=cfg) (g:=g) (nx:=nx) (ax:=ax) (nm:=nm 0) (c:=c) (seen:=seen) hmine (hok 0)
  trivial
 .rename_i cs
  simp only [oP] at he
  obtain ⟨rfl,rfl⟩:=he
  obtain ⟨h3,h4,h5⟩:=ZkC (cfg:=cfg) (g:=g) (nx:=nx) (ax:=ax) (mine:=mine) (nm:=nm) hmine hok cs 0 seen
  refine ⟨h3,fun d hs v hr=> ?_⟩
  obtain ⟨vs,rfl,hl,hh⟩:=hr
  refine ⟨vs,rfl,V0,fun j u c hu hc=> ?_⟩
  grind
 .rename_i f
  simp only [oP] at he
  obtain ⟨rfl,rfl⟩:=he
  exact ⟨.refl _,fun d _ v hr=> hr⟩
 .simp only [oP] at he
  obtain ⟨rfl,rfl⟩:=he
  exact ⟨.refl _,fun d _ v hr=> hr⟩
 .cases he
def ZlU(os:List (Name × List (C U))):Prop:=∀ (i j:Nat) x y,os[i]?=some x->os[j]?=some y->x.1=y.1->i=j
theorem Z6k:∀ {os:List (Name × List (C U))} {nm:Name} {i:Nat} {x:Name × List (C U)},os[i]?=some x->x.1=nm->Zaa os nm=true
 | (b,cs) ::os,nm,0,x,h,e=> by simp at h;subst h;simp [Zaa];exact .inl e
 | (b,cs) ::os,nm,i+1,x,h,e=> by
  simp at h
  simp only [Zaa,Z6k h e]
  split <;> rfl
theorem Z62:∀ {os:List (Name × List (C U))} {k:Nat} {nm:Name} {i:Nat},Yj os k nm=some i->∃ x,k<=i/\os[i - k]?=some x/\x.1=nm
 | (b,cs) ::os,k,nm,i,h=> by
  simp only [Yj] at h
  split at h
  .simp_all
  .obtain ⟨x,h1,h2,d⟩:=Z62 h
   grind
theorem Zb5:∀ {os:List (Name × List (C U))} {k:Nat} {nm:Name} {i:Nat} {x:Name × List (C U)},ZlU os->os[i]?=some x->x.1=nm->Yj os k nm=some (k+i)
 | (b,cs) ::os,k,nm,0,x,_,h,e=> by simp at h;subst h;simp [Yj];grind
 | (b,cs) ::os,k,nm,i+1,x,hap,h,e=> by
  simp only [Yj]
  rw [if_neg (fun d=> by have:=hap 0 (i+1) (b,cs) x rfl h (by simp [d,e]);omega)]
  have:=Zb5 (k:=k+1) (nm:=nm) (fun i j x y hx hy he=> by have:=hap (i+1) (j+1) x y (by simpa using hx) (by simpa using hy) he;omega) (by simpa using h) e
  grind
theorem Zc8{os:List (Name × List (C U))}{nm:Name}(h:∀ (i:Nat) x,os[i]?=some x->x.1≠nm)(k:Nat):Yj os k nm=none:=by
 cases hn:Yj os k nm with
 | none=> rfl
 | some i=>
  obtain ⟨x,_,h2,d⟩:=Z62 hn
  grind
theorem Z0Z{ps:Nat->Bool}:∀ (xs:List (V U)) (i:Nat) (os:List (Name × List (C U))) (seen:List (Tok × Tok)) (ys:List (V U)) (os':List (Name × List (C U))) (seen':List (Tok × Tok)),
  Y5 st ps i xs os seen=some (ys,os',seen')->ZlU os->
  Ext seen seen'/\(∃ more,os'=os++more)/\ZlU os'/\ys.length=xs.length/\
  (∀ (k:Nat) x,os'[k]?=some x->os.length<=k->∃ cs,st.mem x.1=some cs/\x.2.length=cs.length/\
   ∀ s',Ext seen' s'->∀ nx ax (i:Nat) v c c',cs[i]?=some c->x.2[i]?=some c'->RelC cfg g st.dead v c->RelC cfg (g.callee nx s' ax) ZF v c')/\
  (∀ s',Ext seen' s'->∀ nx ax,(∀ (k:Nat) x,os'[k]?=some x->ax k=g.ad x.1)->∀ (j:Nat) v x y,xs[j]?=some x->ys[j]?=some y->RelV cfg g st.dead (fun nm=> (st.mem nm).isSome) v x->
   RelV cfg (g.callee nx s' ax) ZF (fun nm=> match nm with | .x k=> (os'[k]?).isSome | .loc _=> false) v y)
 | [],i,os,seen,ys,os',seen',h,hap=> by
  simp only [Y5,oP] at h
  obtain ⟨rfl,rfl,rfl⟩:=h
  exact ⟨.refl _,⟨[],by simp⟩,hap,rfl,fun k x d hk=> by grind,fun s' _ nx ax _ j v x y d=> by simp at d⟩
 | x0 ::xs,i,os,seen,ys,os',seen',h,hap=> by
  simp only [Y5] at h
  split at h
  .rename_i nm mk hp
   split at h
   .cases h
   .rename_i cs bb
    split at h
    .cases h
    .rename_i ar
     split at h
     .rename_i vs au s1 ah
      simp only [oP] at h
      obtain ⟨rfl,rfl,rfl⟩:=h
      have aa:∀ t,(fun t=> !st.dead t) t=true->st.dead t=false:=fun t ht=> by simpa using ht
      have aq:ZlU (os++[(nm,(J8 (fun t=> !st.dead t) (.x os.length) 0 cs seen).1)]):=by
       intro p q x y d hy he
       rw [QF] at d hy
       have ab:∀ (r:Nat) (z z0:Name × List (C U)),[z0][r]?=some z->r=0/\z=z0:=by
        intro r z z0 hz
        cases r with
        | zero=> simp at hz;exact ⟨rfl,hz.symm⟩
        | succ r=> simp at hz
       split at d <;> split at hy
       .exact hap p q x y d hy he
       .obtain ⟨_,rfl⟩:=ab _ _ _ hy
        exact absurd (Z6k d he) ar
       .obtain ⟨_,rfl⟩:=ab _ _ _ d
        exact absurd (Z6k hy he.symm) ar
       .grind
      obtain ⟨r1,⟨more,r2⟩,r3,r4,r5,r6⟩:=Z0Z xs (i+1) _ _ _ _ _ ah aq
      have hC:=fun nx ax=> ZkC (cfg:=cfg) (g:=g) (nx:=nx) (ax:=ax) (mine:=fun t=> !st.dead t) (nm:= .x os.length) aa (fun _=> rfl) cs 0 seen
      have ai:au[os.length]?=some (nm,(J8 (fun t=> !st.dead t) (.x os.length) 0 cs seen).1):=by
       rw [r2,Qb,Qt (Qg _)];simp
      refine ⟨(hC (fun _=> none) (fun _=> ⟨0,0,none⟩)).1.trans r1,⟨(nm,(J8 (fun t=> !st.dead t) (.x os.length) 0 cs seen).1) ::more,by rw [r2];simp⟩,r3,by simp [r4],?_,?_⟩
      .intro k x d hk
       by_cases e:k=os.length
       .subst e
        rw [ai] at d
        cases d
        exact ⟨cs,bb,(hC (fun _=> none) (fun _=> ⟨0,0,none⟩)).2.1,fun s' hs nx ax q v c c' h1 h2 h3=> (hC nx ax).2.2 s' (r1.trans hs) q v c c' h1 h2 h3⟩
       .exact r5 k x d (by simp;omega)
      .intro s' hs nx ax ak j v x y d hy hr
       cases j with
       | zero=>
        simp at d hy
        subst d hy
        have:=ak _ _ ai
        simp only at this
        cases x0 <;> simp only [ZmD,reduceCtorEq] at hp
        case ptr nm0 off0=>
         cases hp
         obtain ⟨_,rfl⟩:=hr
         exact ⟨by simp [ai],by simp [Gh.callee,this]⟩
        case clo f0 nms0=>
         split at hp
         .grind
         .rename_i f1 bg a6
          cases a6
          cases hp
          obtain ⟨_,rfl⟩:=hr
          refine ⟨fun n hn=> ?_,by simp [Gh.callee,this]⟩
          grind
         .grind
         .cases hp
        case ifp t0 nm0=>
         cases hp
         obtain ⟨_,rfl⟩:=hr
         exact ⟨by simp [ai],by simp [Gh.callee,this]⟩
       | succ j=> exact r6 s' hs nx ax ak j v x y (by simpa using d) (by simpa using hy) hr
     .cases h
  .rename_i hp
   split at h
   .cases h
   .rename_i v' ay hv
    split at h
    .rename_i vs au s1 ah
     simp only [oP] at h
     obtain ⟨rfl,rfl,rfl⟩:=h
     obtain ⟨r1,r2,r3,r4,r5,r6⟩:=Z0Z xs (i+1) _ _ _ _ _ ah hap
     have aa:∀ t,(fun t=> ps i && !st.dead t) t=true->st.dead t=false:=fun t ht=> by grind
     have hV:=fun nx ax lx=> Zuy (cfg:=cfg) (g:=g) (nx:=nx) (ax:=ax) (live:=fun nm=> (st.mem nm).isSome) (lx:=lx) aa (fun _=> rfl) hv
     refine ⟨(hV (fun _=> none) (fun _=> ⟨0,0,none⟩) (fun _=> true)).1.trans r1,r2,r3,by simp [r4],r5,?_⟩
     intro s' hs nx ax ak j v x y d hy hr
     cases j with
     | zero=>
      simp at d hy
      subst d hy
      exact (hV nx ax _).2 s' (r1.trans hs) v hr
     | succ j=> grind
    .cases h
end pass
def Gh.back(g':Gh)(os:List (Name × List (C U)))(d:Nat)(ad:Name->Addr)(L:List (Tok × LC U))(bs:Tok->Option (Value × Nat)):Gh:=
 {m:=g'.m
  tag:=fun c=> match g'.tag c with
   | some (.outer t)=> some t
   | some (.obj (.x k))=> (os[k]?).map fun x=> .obj x.1
   | some (.tok t)=> (ZP d t).map .tok
   | _=> none
  ad:=ad
  bs:=fun t=> match bs t with
   | some v=> some v
   | none=> match Z1y d t with
    | some t'=> match Zt (fun _=> none) L t' with
     | some _=> g'.bs t'
     | none=> none
    | none=> none }
theorem Z3a{d:Nat}{t t':Tok}(h:ZP d t=some t'):Z1y d t'=some t:=by
 unfold ZP at h
 split at h
 .rename_i j
  cases h
  simp only [Z1y,if_true]
  grind
 .rename_i k j
  split at h
  .rename_i hj
   cases h
   simp only [Z1y,if_true]
   grind
  .cases h
 .cases h
section back
variable {g':Gh} {os:List (Name × List (C U))} {d:Nat} {ad:Name->Addr} {L:List (Tok × LC U)} {bs:Tok->Option (Value × Nat)} {dead:Tok->Bool} {live lv:Name->Bool} {fx:Nat->Option Nat}
theorem RelC.back(hbs:∀ t t',Z0s d L t=some t'->bs t'=none)(hx:∀ k k',fx k=some k'->g'.ad (.x k)=ad (.x k')){v:Value}{c:C U}(h:RelC cfg g' ZF v c):RelC cfg (g'.back os d ad L bs) dead v (c.mapTok (ZP d) (Z0s d L) fx):=by
 obtain ⟨h1,h2⟩:=h
 cases c with
 | slice T l tl=>
  cases tl with
  | unk=> trivial
  | full=> trivial
  | own t=>
   simp only [C.mapTok]
   cases hb:ZP d t with
   | none=> exact ⟨h1.tl _,trivial⟩
   | some t'=>
    refine ⟨h1.tl _,fun _ b len ah hv j af ae=> ?_⟩
    have:=h2 rfl b len ah hv j af ae
    simp only [Gh.back,this,hb,Qi]
 | mref t=>
  simp only [C.mapTok]
  cases hb:Z0s d L t with
  | none=> exact ⟨.jk _ h1.one,trivial⟩
  | some t'=>
   refine ⟨.mref _ _ h1.one,fun _=> ?_⟩
   obtain ⟨sz,hs⟩:=h2 rfl
   refine ⟨sz,?_⟩
   have h0:=hbs t t' hb
   unfold Z0s at hb
   cases hL:Zt (fun _=> none) L t with
   | none=> grind
   | some x=>
    rw [hL] at hb
    simp only [Gh.back,h0,Z3a hb,hL,hs]
 | xp k=>
  simp only [C.mapTok]
  cases hk:fx k with
  | none=> exact ⟨.jk _ h1.one,trivial⟩
  | some k'=>
   refine ⟨.xp _ _ h1.one,?_⟩
   have h3:v= .pointer (some (g'.ad (.x k))):=h2
   show v= .pointer (some (ad (.x k')))
   grind
 | _=> trivial
theorem RelL.back(hbs:∀ t t',Z0s d L t=some t'->bs t'=none)(hx:∀ k k',fx k=some k'->g'.ad (.x k)=ad (.x k')){vs:List Value}{cs:List (C U)}(h:RelL cfg g' ZF vs cs):RelL cfg (g'.back os d ad L bs) dead vs (cs.map (C.mapTok (ZP d) (Z0s d L) fx)):=by
 refine ⟨by simp [h.1],fun j v c hv hc=> ?_⟩
 rw [Qv] at hc
 cases hcj:cs[j]? with
 | none=> grind
 | some c0=>
  simp [hcj] at hc
  subst hc
  exact (h.2 j v c0 hv hcj).back hbs hx
theorem RelV.back(hbs:∀ t t',Z0s d L t=some t'->bs t'=none)(hx:∀ k k',fx k=some k'->g'.ad (.x k)=ad (.x k')){v:Value}:∀ {x:V U},RelV cfg g' ZF (fun _=> false) v x->RelV cfg (g'.back os d ad L bs) dead live v (x.mapTok (ZP d) (Z0s d L) fx)
 | .c x,h=> RelC.back hbs hx (c:=x) h
 | .agg cs,h=> by obtain ⟨vs,h1,h2⟩:=h;exact ⟨vs,h1,h2.back hbs hx⟩
 | .tup ws,h=> by
  obtain ⟨vs,h1,h2,h3⟩:=h
  refine ⟨vs,h1,by simp [h2],fun j u w hu hw=> ?_⟩
  rw [Qv] at hw
  cases hj:ws[j]? with
  | none=> grind
  | some w0=>
   simp [hj] at hw
   subst hw
   have:=h3 j u w0 hu hj
   obtain ⟨ag,cs⟩:=w0
   cases ag with
   | true=> obtain ⟨vs,h4,h5⟩:=this;exact ⟨vs,h4,h5.back hbs hx⟩
   | false=> obtain ⟨c,h4,h5⟩:=this;simp only at h4;subst h4;exact ⟨_,rfl,h5.back hbs hx⟩
 | .ptr ..,_=> trivial
 | .ap ..,_=> trivial
 | .ep cs,h=> by
  obtain ⟨b,h1,h2⟩:=h
  refine ⟨b,h1,fun j c hc=> ?_⟩
  rw [Qv] at hc
  cases hcj:cs[j]? with
  | none=> grind
  | some c0=>
   simp [hcj] at hc
   subst hc
   obtain ⟨u,h3,h4⟩:=h2 j c0 hcj
   exact ⟨u,h3,h4.back hbs hx⟩
 | .fn f,h=> h
 | .mp ..,_=> trivial
 | .vw ..,_=> trivial
 | .clo ..,_=> trivial
 | .ifp ..,_=> trivial
 | .kv _,h=> h
 | .gd b x,h=> ⟨fun hb=> RelV.back hbs hx (h.1 hb),h.2⟩
 | .nb _ _,h=> h
 | .junk,_=> trivial
end back
theorem Zcj{d:Nat}:∀ {L l:List (Tok × LC U)},YT st d L=some l->
  (∀ t x,Zt (fun _=> none) L t=some x->∃ t',ZP d t=some t'/\st.ls t'=none/\st.dead t'=false/\Zt st.ls l t'=some x)/\
  (∀ t' x,Zt st.ls l t'=some x->(st.ls t'=some x/\∀ t,ZP d t=some t'->Zt (fun _=> none) L t=none)\/∃ t,Zt (fun _=> none) L t=some x/\ZP d t=some t'/\st.dead t'=false)
 | [],l,h=> by
  simp only [YT,Option.some.injEq] at h
  subst h
  exact ⟨fun t x hx=> by trivial,fun t' x hx=> .inl ⟨hx,fun t _=> rfl⟩⟩
 | (t0,x0) ::L,l,h=> by
  simp only [YT] at h
  split at h
  case h_2=> cases h
  rename_i t1 l1 h1 h2
  split at h
  case isFalse=> cases h
  rename_i hc
  simp only [Q2,QA,QQ] at hc
  simp only [Option.some.injEq] at h
  subst h
  obtain ⟨ah,ak⟩:=Zcj h2
  have inj:∀ {t:Tok},ZP d t=some t1->t=t0:=by
   intro t ht
   have e1:=Z3a ht
   have e2:=Z3a h1
   rw [e1] at e2
   exact Option.some.inj e2
  refine ⟨fun t x hx=> ?_,fun t' x hx=> ?_⟩
  .simp only [Zt] at hx
   split at hx
   .rename_i e
    subst e
    cases hx
    exact ⟨t1,h1,hc.1,hc.2,by simp [Zt]⟩
   .rename_i e
    obtain ⟨t',g1,g2,g3,g4⟩:=ah t x hx
    refine ⟨t',g1,g2,g3,?_⟩
    simp only [Zt]
    grind
  .simp only [Zt] at hx
   split at hx
   .rename_i e
    subst e
    cases hx
    exact .inr ⟨t0,by simp [Zt],h1,hc.2⟩
   .rename_i e
    rcases ak t' x hx with ⟨g1,g2⟩ | ⟨t,g1,g2,g3⟩
    .refine .inl ⟨g1,fun t ht=> ?_⟩
     simp only [Zt]
     grind
    .refine .inr ⟨t,?_,g2,g3⟩
     simp only [Zt]
     grind
theorem Z9u{d:Nat}{L:List (Tok × LC U)}{fx:Nat->Option Nat}:∀ {os:List (Name × List (C U))} {xs:List (List (C U))} {m:List (Name × List (C U))},Z3r d L fx os xs=some m->
  xs.length=os.length/\m.length=os.length/\∀ (k:Nat) x cs,os[k]?=some x->xs[k]?=some cs->m[k]?=some (x.1,cs.map (C.mapTok (ZP d) (Z0s d L) fx))
 | [],[],m,h=> by simp only [Z3r,Option.some.injEq] at h;grind
 | (nm,_) ::os,cs0 ::xs,m,h=> by
  simp only [Z3r] at h
  cases hr:Z3r d L fx os xs with
  | none=> simp [hr] at h
  | some m'=>
   simp only [hr,Qi,Option.some.injEq] at h
   subst h
   obtain ⟨h1,h2,h3⟩:=Z9u hr
   grind
theorem YS(m0:Name->Option (List (C U))):∀ (m:List (Name × List (C U))) (nm:Name),(∃ (k:Nat) (cs:List (C U)),m[k]?=some (nm,cs)/\ZL m0 m nm=some cs)\/((∀ (k:Nat) x,m[k]?=some x->x.1≠nm)/\ZL m0 m nm=m0 nm)
 | [],nm=> .inr ⟨fun k x d=> by simp at d,rfl⟩
 | (a,cs) ::r,nm=> by
  simp only [ZL]
  split
  .rename_i e
   subst e
   exact .inl ⟨0,cs,rfl,rfl⟩
  .rename_i e
   rcases YS m0 r nm with ⟨k,cs',h1,h2⟩ | ⟨h1,h2⟩
   .exact .inl ⟨k+1,cs',by simpa using h1,h2⟩
   grind
theorem Z6R{xs:List Operand}{vs:List (V U)}(hm:xs.mapM st.opnd=some vs)(hop:∀ x∈xs,∀ v,st.opnd x=some v->RelV cfg g st.dead (fun nm=> (st.mem nm).isSome) (a.eval x) v):
  (xs.map a.eval).length=vs.length/\∀ (j:Nat) u x,(xs.map a.eval)[j]?=some u->vs[j]?=some x->RelV cfg g st.dead (fun nm=> (st.mem nm).isSome) u x:=by
 have d:∀ {xs:List Operand} {vs:List (V U)},xs.mapM st.opnd=some vs->xs.length=vs.length:=by
  intro xs
  induction xs with
  | nil=> grind
  | cons y xs ih=>
   intro vs h
   rw [QP] at h
   cases h1:st.opnd y with
   | none=> simp [h1] at h
   | some v=>
    cases h2:xs.mapM st.opnd with
    | none=> grind
    | some r=>
     simp [h1,h2] at h
     grind
 refine ⟨by simp [d hm],fun j u x hu hx=> ?_⟩
 rw [Qv] at hu
 cases hj:xs[j]? with
 | none=> grind
 | some y=>
  simp [hj] at hu
  subst hu
  obtain ⟨v,h1,h2⟩:=Z48 hm j y hj
  grind
theorem Zlk(os:List (Name × List (C U))):∀ (cs0 cs:List (C U)),cs.length=cs0.length->(Zll os cs0 cs).length=cs.length
 | [],cs,h=> by rfl
 | c0 ::cs0,[],h=> by cases h
 | c0 ::cs0,c ::cs,h=> by
  have d:=Zlk os cs0 cs (by simpa using h)
  cases c0 <;> simp [Zll,d]
theorem Zh7(os:List (Name × List (C U))):∀ (cs0 cs:List (C U)) (j:Nat) (c0 c:C U),cs.length=cs0.length->cs0[j]?=some c0->(Zll os cs0 cs)[j]?=some c->
  cs[j]?=some c\/∃ k k',c0= .xp k/\Yj os 0 (.x k)=some k'/\c= .xp k'
 | [],cs,j,c0,c,_,h,_=> by simp at h
 | d0 ::cs0,[],j,c0,c,hl,_,_=> by cases hl
 | d0 ::cs0,d ::cs,0,c0,c,hl,h0,h=> by
  simp at h0
  subst h0
  cases d0 with
  | xp k=>
   simp only [Zll] at h
   grind
  | _=> exact .inl (by trivial)
 | d0 ::cs0,d ::cs,j+1,c0,c,hl,h0,h=> by
  have ih:=Zh7 os cs0 cs j c0 c (by simpa using hl) (by simpa using h0)
  cases d0 <;> (simp only [Zll,XL] at h ⊢;exact ih h)
def Z7i(g:Gh)(os:List (Name × List (C U)))(k:Nat):Addr:=((os[k]?).map fun x=> g.ad x.1).getD ⟨0,0,none⟩
theorem Zux (h:Rel cfg B st g a w) {ps:Nat->Bool} {pargs ys:List (V U)} {os:List (Name × List (C U))} {toks:List (Tok × Tok)} (hpass:Y5 st ps 0 pargs [] []=some (ys,os,toks))
  (k:Nat) (cs:List (C U)) (hk:(os.map fun x=> Z8f st os (x.2,x.1))[k]?=some cs) (j:Nat) (c:C U) (hj:cs[j]?=some c):
  ∃ v,w.cell? (((g.callee (Yj os 0) toks (Z7i g os)).ad (.x k)).add j)=some v/\(g.callee (Yj os 0) toks (Z7i g os)).tag (((g.callee (Yj os 0) toks (Z7i g os)).ad (.x k)).add j)=some (.obj (.x k))/\RelC cfg (g.callee (Yj os 0) toks (Z7i g os)) ZF v c:=by
 obtain ⟨p1,_,p3,p4,p5,p6⟩:=Z0Z (cfg:=cfg) (g:=g) _ _ _ _ _ _ _ hpass (fun i j x y d=> by simp at d)
 have ab:∀ (k:Nat) x,os[k]?=some x->Z7i g os k=g.ad x.1:=fun k x d=> by simp [Z7i,d]
 rw [Qv] at hk
 cases d:os[k]? with
 | none=> simp [d] at hk
 | some x=>
  simp [d] at hk
  subst hk
  obtain ⟨ae,h1,h2,h3⟩:=p5 k x d (by simp)
  simp only [Z8f,h1] at hj
  have aa:j < ae.length:=by have:=(Q4.1 hj).1;rw [Zlk os _ _ h2] at this;omega
  obtain ⟨v,h4,h5,h6⟩:=h.mem x.1 ae h1 j _ (Q0 aa)
  have ai:(g.callee (Yj os 0) toks (Z7i g os)).ad (.x k)=g.ad x.1:=ab k x d
  rw [ai]
  refine ⟨v,h4,?_,?_⟩
  rotate_left
  .rcases Zh7 os _ _ j _ c h2 (Q0 aa) hj with hj1 | ⟨q,q',e0,hq,rfl⟩
   .exact h3 toks (.refl _) _ _ j v _ c (Q0 aa) hj1 h6
   .rw [e0] at h6
    have e1:v= .pointer (some (g.ad (.x q))):=h6.2
    obtain ⟨y,_,hy,ah⟩:=Z62 hq
    refine ⟨.xp _ _ h6.1.one,?_⟩
    show v= .pointer (some (Z7i g os q'))
    rw [ab q' y (by simpa using hy),ah,e1]
  have hn:Yj os 0 x.1=some k:=by have:=Zb5 (k:=0) p3 d rfl;simpa using this
  simp only [Gh.callee,h5,hn]
theorem Zhm {Γ:Known U} (hΓ:∀ f s,Γ f=some s->Contract P cfg f s) (h:Rel cfg B st g a w) {o:Oper} {f:FuncId} {pargs:List (V U)} {vals:List Value} {d:Nat} {s:Fs U} {ys us:List (V U)} {os:List (Name × List (C U))} {toks:List (Tok × Tok)} {ps':List Prop} {r:V U} {xs:List (List (C U))} {L0 ll:List (Tok × LC U)} {m:List (Name × List (C U))}
  (hen : ∀ fn, P.funcs[f]? = some fn → fn.body.isSome = true → (fn.name == "runtime.NumGoroutine") = false → (execOp a.eval o).run P w = .ok (.enter f vals.toArray) w)
  (hs:Γ f=some s) (hpass:Y5 st s.pass 0 pargs [] []=some (ys,os,toks)) (hlen:vals.length=us.length)
  (hus:∀ (j:Nat) v x,vals[j]?=some v->us[j]?=some x->RelV cfg (g.callee (Yj os 0) toks (Z7i g os)) ZF (Z67 (os.map fun x=> Z8f st os (x.2,x.1))) v x)
  (hfn:s.fn2 us (os.map fun x=> Z8f st os (x.2,x.1)) (bif s.wr then J9 st.ls toks (toks.map (·.2)) else [])=some (ps',r,xs,L0))
  (a6:¬r.isP=true) (hmb:Z3r d L0 (Z3A os) os xs=some m) (hlb:YT st d L0=some ll) (hps:All ps'):
  Does P o a w fun v w'=> ∃ g',Out cfg B st g ({ val:=some (r.mapTok (ZP d) (Z0s d L0) (Z3A os)),mem:=m,kill:=toks.map (·.1),ls:=ll }:Eff U) v w' g':=by
 have a6:∀ k,r≠.ptr (.x k) 0:=fun k e=> a6 (by rw [e];rfl)
 obtain ⟨q1,q2⟩:=Zcj hlb
 obtain ⟨⟨fn,cj,cl,cp⟩,bt,_⟩:=hΓ f s hs
 obtain ⟨p1,_,p3,p4,p5,p6⟩:=Z0Z (cfg:=cfg) (g:=g) _ _ _ _ _ _ _ hpass (fun i j x y hx=> by simp at hx)
 obtain ⟨b1,b2,b3⟩:=Z9u hmb
 let ax:Nat->Addr:=Z7i g os
 have bv:∀ (k:Nat) x,os[k]?=some x->ax k=g.ad x.1:=fun k x hx=> by simp [ax,Z7i,hx]
 let gc:=g.callee (Yj os 0) toks ax
 let XS:=os.map fun x=> Z8f st os (x.2,x.1)
 have ar:∀ c t,gc.tag c=some (.outer t)↔(g.tag c=some t/\(∀ nm,t= .obj nm->Yj os 0 nm=none)/\(∀ u,t= .tok u->YG toks u=none)):=fun c t=> Zfo
 have aq:∀ c t,gc.tag c=some t->∃ t0,g.tag c=some t0:=fun c t=> Z6w
 have au:∀ c,g.tag c=none->gc.tag c=none:=fun c=> Z6x
 have aw:Entry cfg w gc vals us XS (bif s.wr then J9 st.ls toks (toks.map (·.2)) else []):=by
  refine ⟨⟨fun c v hv=> ?_,fun c t ht=> ?_⟩,fun c t ht=> ?_,hlen,hus,fun k cs hk j c hj=> ?_,fun t ht=> (by simp only [gc,Gh.callee,ht,if_true]),fun t x hx=> ?_⟩
  .obtain ⟨h1,h2⟩:=h.inv.im c v hv
   exact ⟨h1,au c h2⟩
  .obtain ⟨t0,ba⟩:=aq c t ht
   exact h.inv.it c t0 ba
  .simp only [gc,Gh.callee] at ht
   split at ht
   .split at ht
    .cases ht;exact .inr (.inl ⟨_,rfl⟩)
    .cases ht;exact .inl ⟨_,rfl⟩
   .split at ht
    .cases ht;exact .inr (.inr ⟨_,rfl⟩)
    .cases ht;exact .inl ⟨_,rfl⟩
   .cases ht;exact .inl ⟨_,rfl⟩
   .cases ht
  .exact Zux h hpass k cs hk j c hj
  .have hx:Zt (fun _=> none) (J9 st.ls toks (toks.map (·.2))) t=some x:=by
    cases hw:s.wr with
    | true=> rw [hw] at hx;exact hx
    | false=> rw [hw] at hx;cases hx
   obtain ⟨u,h5,h6,h7,h8⟩:=Z11 _ hx
   obtain ⟨_,hL⟩:=h.ls u x h7
   have am:gc.bs t=g.bs u:=by simp only [gc,Gh.callee,h8,X4,if_false,Zhq,h5]
   have br:∀ c,g.tag c=some (.tok u)->gc.tag c=some (.tok t):=fun c hc=> by simp only [gc,Gh.callee,hc,h6]
   rcases hL with ⟨e1,e2⟩ | ⟨b,len,cap,e1,e2,e3,e4,e5,e6⟩
   .exact .inl ⟨am.trans e1,e2⟩
   .refine .inr ⟨b,len,cap,am.trans e1,e2,e3,e4,fun i y hy j c hc=> ?_,fun j a1 a2=> br _ (e6 j a1 a2)⟩
    obtain ⟨v,e7,e8,e9,bi⟩:=e5 i y hy j c hc
    exact ⟨v,e7,e8,e9,fun hi=> br _ (bi hi)⟩
 have bf:=bt us XS _ _ r xs L0 hfn hps (by rw [b1];simp [XS]) w gc _ aw
 refine .inr (.inr ⟨f,vals.toArray,w,hen fn cj cl cp,Calls.mono bf ?_⟩)
 .rintro e' w' ⟨v,g',rfl,L⟩
  refine ⟨v,rfl,g'.back os d g.ad L0 g.bs,?_⟩
  have da:gc.m=g.m:=rfl
  have ae:∀ c t,g.tag c=some t->(∀ nm,t= .obj nm->Yj os 0 nm=none)->(∀ u,t= .tok u->YG toks u=none)->(g'.back os d g.ad L0 g.bs).tag c=some t/\w'.cell? c=w.cell? c:=by
   intro c t h1 h2 h3
   have:=L.fr.outer c t ((ar c t).2 ⟨h1,h2,h3⟩)
   exact ⟨by simp only [Gh.back,this.1],this.2⟩
  have bg:∀ c t,(g'.back os d g.ad L0 g.bs).tag c=some t->∃ t',g'.tag c=some t':=by
   intro c t ht
   simp only [Gh.back] at ht
   cases hgt:g'.tag c with
   | none=> simp [hgt] at ht
   | some t'=> exact ⟨t',rfl⟩
  have az:∀ t,Zn st ({ val:=some (r.mapTok (ZP d) (Z0s d L0) (Z3A os)),mem:=m,kill:=toks.map (·.1),ls:=ll }:Eff U) t=false->st.dead t=false/\YG toks t=none:=by
   intro t ht
   simp only [Zn,QI] at ht
   refine ⟨ht.1,?_⟩
   cases hn:YG toks t with
   | none=> rfl
   | some t'=> have:=ZeM hn;rw [ht.2] at this;cases this
  have ak:Keeps g (g'.back os d g.ad L0 g.bs) st.dead (Zn st ({ val:=some (r.mapTok (ZP d) (Z0s d L0) (Z3A os)),mem:=m,kill:=toks.map (·.1),ls:=ll }:Eff U)) (fun nm=> (st.mem nm).isSome) (Yc st ({ val:=some (r.mapTok (ZP d) (Z0s d L0) (Z3A os)),mem:=m,kill:=toks.map (·.1),ls:=ll }:Eff U)):=by
   refine ⟨fun c v hv=> L.fr.mono c v hv,fun c t hd ht=> ?_,fun t ht=> (az t ht).1,fun nm hn=> ⟨?_,rfl⟩,fun t v _ hv=> by simp only [Gh.back,hv],fun _=> rfl⟩
   .exact (ae c _ ht (fun nm e=> by cases e) (fun u e=> by cases e;exact (az _ hd).2)).1
   .simp only [Yc]
    rcases YS st.mem m nm with ⟨k,cs,_,h2⟩ | ⟨_,h2⟩
    .rw [h2];try rfl
    .rw [h2];exact hn
  have am:∀ t t',Z0s d L0 t=some t'->g.bs t'=none:=by
   intro t t' hb
   unfold Z0s at hb
   cases hx:Zt (fun _=> none) L0 t with
   | none=> rw [hx] at hb;cases hb
   | some x=>
    rw [hx] at hb
    obtain ⟨t2,g1,g2,g3,_⟩:=q1 t x hx
    simp only at hb
    rw [hb] at g1
    cases g1
    refine h.fresh t' ?_ g2 g3
    unfold ZP at hb
    split at hb
    .cases hb;rfl
    .split at hb
     .cases hb;rfl
     .cases hb
    .cases hb
  have bw:∀ k k',Z3A os k=some k'->g'.ad (.x k)=g.ad (.x k'):=by
   intro k k' hk
   unfold Z3A at hk
   split at hk
   .rename_i hx
    cases hk
    exact (L.ad k (a6 k)).trans (bv k _ hx)
   .cases hk
  have bu:∀ t x,Z06 st.ls ({ val:=some (r.mapTok (ZP d) (Z0s d L0) (Z3A os)),mem:=m,kill:=toks.map (·.1),ls:=ll }:Eff U) t=some x->(toks.map (·.1)).contains t=false/\Zt st.ls ll t=some x:=by
   intro t x hx
   unfold Z06 at hx
   cases hk:(toks.map (·.1)).contains t with
   | true=> simp only [hk,cond_true,reduceCtorEq] at hx
   | false=> simp only [hk,cond_false] at hx;exact ⟨rfl,hx⟩
  refine ⟨⟨fun c v hv=> ?_,fun c t ht=> ?_⟩,?_,ak,?_,L.val.back am bw,?_,?_⟩
  .obtain ⟨h1,h2⟩:=L.inv.im c v hv
   exact ⟨h1,by simp only [Gh.back,h2]⟩
  .obtain ⟨t',bk⟩:=bg c t ht
   exact L.inv.it c t' bk
  .refine ⟨h.fr.stay.trans L.fr.stay,h.fr.xad,fun c v hv=> L.fr.mono c v (h.fr.mono c v hv),fun c t ht=> ?_,fun c t ht=> ?_,fun b hb bx=> ?_,fun c hc=> (L.fr.frz c (QW hc h.fr.stay.size)).trans (h.fr.frz c hc)⟩
   .obtain ⟨h1,h2⟩:=h.fr.outer c t ht
    obtain ⟨h3,h4⟩:=ae c _ h1 (fun nm e=> by cases e) (fun u e=> by cases e)
    exact ⟨h3,h4.trans h2⟩
   .simp only [Gh.back] at ht
    split at ht
    .rename_i t' bk
     cases ht
     have:=(ar c _).1 (L.fr.outer' c _ bk)
     exact h.fr.outer' c t this.1
    .cases hx:os[‹Nat›]? with
     | none=> simp [hx] at ht
     | some x=> simp [hx] at ht
    .cases hx:ZP d ‹Tok› with
     | none=> simp [hx] at ht
     | some x=> simp [hx] at ht
    .cases ht
   .obtain ⟨h1,h2⟩:=h.fr.clean b hb bx
    have bd:∀ o s t,g.tag ⟨b,o,s⟩=some t->∃ t',t= .outer t':=fun o s t ht=> bx o s t (by rw [<-h2];exact ht)
    have a7:∀ o s t,gc.tag ⟨b,o,s⟩=some t->∃ t',t= .outer t':=by
     intro o s t ht
     obtain ⟨t0,ba⟩:=aq _ _ ht
     obtain ⟨t1,rfl⟩:=bd o s t0 ba
     have:=(ar ⟨b,o,s⟩ (.outer t1)).2 ⟨ba,(fun nm e=> by cases e),(fun u e=> by cases e)⟩
     rw [ht] at this
     cases this
     exact ⟨_,rfl⟩
    obtain ⟨h3,h4⟩:=L.fr.clean b (QW hb h.fr.stay.size) a7
    refine ⟨h3.trans h1,fun o s=> ?_⟩
    rw [<-h2 o s]
    have h5:g'.tag ⟨b,o,s⟩=gc.tag ⟨b,o,s⟩:=h4 o s
    cases hgt:g.tag ⟨b,o,s⟩ with
    | none=>
     simp only [Gh.back,h5,au _ hgt]
    | some t=>
     obtain ⟨t1,rfl⟩:=bd o s t hgt
     exact (ae _ _ hgt (fun nm e=> by cases e) (fun u e=> by cases e)).1
  .intro nm cs hm j cc hj
   rcases YS st.mem m nm with ⟨k,cs',h1,h2⟩ | ⟨h1,h2⟩
   .rw [h2] at hm
    cases hm
    have hk:k < os.length:=by have:=(Q4.1 h1).1;omega
    have bh:os[k]?=some os[k]:=Q0 hk
    have bz:xs[k]?=some (xs[k]'V0):=Q0 _
    have h3:=b3 k _ _ bh bz
    rw [h1] at h3
    simp only [oP] at h3
    obtain ⟨rfl,rfl⟩:=h3
    rw [Qv] at hj
    cases hj0:(xs[k]'V0)[j]? with
    | none=> simp [hj0] at hj
    | some c0=>
     simp [hj0] at hj
     subst hj
     obtain ⟨v0,h4,h5,h6⟩:=L.x k _ bz j c0 hj0
     have cf:g'.ad (.x k)=g.ad os[k].1:=(L.ad k (a6 k)).trans (bv k _ bh)
     rw [cf] at h4 h5
     refine ⟨v0,h4,?_,h6.back am bw⟩
     show (g'.back os d g.ad L0 g.bs).tag ((g.ad os[k].1).add j)=_
     simp only [Gh.back,h5,bh,Qi]
   .rw [h2] at hm
    obtain ⟨v0,h4,h5,h6⟩:=h.mem nm cs hm j cc hj
    have hn:Yj os 0 nm=none:=Zc8 (fun i x hx e=> by
     have hi:i < m.length:=by have:=(Q4.1 hx).1;omega
     have cm:xs[i]?=some (xs[i]'V0):=Q0 _
     exact h1 i _ (b3 i x _ hx cm) e) 0
    obtain ⟨h7,h8⟩:=ae _ _ h5 (fun c4 e=> by cases e;exact hn) (fun u e=> by cases e)
    exact ⟨v0,h8.trans h4,h7,h6.keep ak⟩
  .intro t x hx
   obtain ⟨hk,hx⟩:=bu t x hx
   rcases q2 t x hx with ⟨g1,_⟩ | ⟨t0,g1,g2,g3⟩
   .obtain ⟨g3,g4⟩:=h.ls t x g1
    have hd:Zn st ({ val:=some (r.mapTok (ZP d) (Z0s d L0) (Z3A os)),mem:=m,kill:=toks.map (·.1),ls:=ll }:Eff U) t=false:=by simp only [Zn,g3,hk,Xp]
    exact ⟨hd,g4.keep ak hd (fun c v hv=> (L.inv.im c v (L.fr.mono c v hv)).1) (fun c cq=> (ae c _ cq (fun nm e=> by cases e) (fun u e=> by cases e;exact (az _ hd).2)).2)⟩
   .have hd:Zn st ({ val:=some (r.mapTok (ZP d) (Z0s d L0) (Z3A os)),mem:=m,kill:=toks.map (·.1),ls:=ll }:Eff U) t=false:=by simp only [Zn,g3,hk,Xp]
    have cn:Z0s d L0 t0=some t:=by unfold Z0s;rw [g1];exact g2
    have bj:=am _ _ cn
    have bp:(g'.back os d g.ad L0 g.bs).bs t=g'.bs t0:=by simp only [Gh.back,bj,Z3a g2,g1]
    have bq:∀ c,g'.tag c=some (.tok t0)->(g'.back os d g.ad L0 g.bs).tag c=some (.tok t):=by
     intro c hc
     simp only [Gh.back,hc,g2,Qi]
    refine ⟨hd,?_⟩
    rcases L.ls t0 x g1 with ⟨e1,e2⟩ | ⟨b,len,cap,e1,e2,e3,e4,e5,e6⟩
    .exact .inl ⟨bp.trans e1,e2⟩
    .refine .inr ⟨b,len,cap,bp.trans e1,e2,e3,e4,fun i y hy j c hc=> ?_,fun j a1 a2=> bq _ (e6 j a1 a2)⟩
     obtain ⟨u,e7,e8,e9,bi⟩:=e5 i y hy j c hc
     exact ⟨u,e7,e8,e9,fun hi=> bq _ (bi hi)⟩
  .intro t ht hn hd
   have ca:st.dead t=false:=(az t hd).1
   have hk:(toks.map (·.1)).contains t=false:=by simp only [Zn,QI] at hd;exact hd.2
   have bo:Zt st.ls ll t=none:=by
    unfold Z06 at hn
    simp only [hk,cond_false] at hn
    exact hn
   have bn:st.ls t=none:=by
    cases hx:st.ls t with
    | none=> rfl
    | some x=>
     exfalso
     have:∀ (l:List (Tok × LC U)),Zt st.ls l t=none->False:=by
      intro l
      induction l with
      | nil=> intro h;rw [Zt,hx] at h;cases h
      | cons y l ih=>
       obtain ⟨a,b⟩:=y
       intro h
       simp only [Zt] at h
       split at h
       .cases h
       .exact ih h
     exact this _ bo
   have bj:=h.fresh t ht bn ca
   simp only [Gh.back,bj]
   cases hu:Z1y d t with
   | none=> rfl
   | some t'=>
    simp only
    cases hx:Zt (fun _=> none) L0 t' with
    | none=> rfl
    | some x=>
     simp only
     obtain ⟨t2,g1,g2,g3,g4⟩:=q1 t' x hx
     cases hg:g'.bs t' with
     | none=> rfl
     | some v=>
      exfalso
      have:t2=t:=by
       cases t with
       | r d' m=>
        simp only [Z1y] at hu
        split at hu
        .rename_i e
         subst e
         split at hu
         .cases hu
          simp only [ZP,Option.some.injEq] at g1
          rw [<-g1];congr 1;omega
         .cases hu
          simp only [ZP] at g1
          split at g1
          .cases g1;congr 1;omega
          .cases g1
        .cases hu
       | _=> simp [Z1y] at hu
      subst this
      rw [bo] at g4
      cases g4
theorem Zh8 {f : FuncId} {fn : Func} {vs : Array Value} (h1 : P.funcs[f]? = some fn) (h2 : fn.body.isSome = true) (h3 : (fn.name == "runtime.NumGoroutine") = false) : (callFunc f vs).run P w = .ok (.enter f vs) w := by
 have d:fn.body.isNone=false:=by cases hfb:fn.body <;> simp_all
 simp only [callFunc,Sem.run_bind,run_program,Result.andThen_ok,h1]
 simp [h3,d]
theorem ZkB {ps:Nat->Bool} {args more:List (V U)} {ys:List (V U)} {os:List (Name × List (C U))} {toks:List (Tok × Tok)} (hpass:Y5 st ps 0 (args++more) [] []=some (ys,os,toks)) {vals:List Value}
  (hargs:vals.length=args.length/\∀ (j:Nat) u x,vals[j]?=some u->args[j]?=some x->RelV cfg g st.dead (fun nm=> (st.mem nm).isSome) u x):
  vals.length=(ys.take args.length).length/\∀ (j:Nat) v x,vals[j]?=some v->(ys.take args.length)[j]?=some x->RelV cfg (g.callee (Yj os 0) toks (Z7i g os)) ZF (Z67 (os.map fun x=> Z8f st os (x.2,x.1))) v x:=by
 obtain ⟨p1,_,p3,p4,p5,p6⟩:=Z0Z (cfg:=cfg) (g:=g) _ _ _ _ _ _ _ hpass (fun i j x y hx=> by simp at hx)
 have ae:∀ (k:Nat) x,os[k]?=some x->Z7i g os k=g.ad x.1:=fun k x hx=> by simp [Z7i,hx]
 refine ⟨by rw [hargs.1,Qq,p4,Q8];omega,fun j v x hv hx=> ?_⟩
 rw [QS] at hx
 split at hx
 case isFalse=> cases hx
 rename_i hj
 have d:=Q0 hj
 have ab:(args++more)[j]?=some args[j]:=by rw [QB hj];exact d
 have:=p6 toks (.refl _) (Yj os 0) _ ae j v _ x ab hx (hargs.2 j v _ hv d)
 have hl:Z67 (os.map fun x=> Z8f st os (x.2,x.1))=fun nm:Name=> match nm with | .x k=> (os[k]?).isSome | .loc _=> false:=by
  funext nm;cases nm <;> simp [Z67]
 rw [hl]
 exact this
theorem Z5g {Γ:Known U} (hΓ:∀ f s,Γ f=some s->Contract P cfg f s) (h:Rel cfg B st g a w) {o:Oper} {f:FuncId} {args:List (V U)} {ps:List Prop} {e:Eff U} {d:Nat} {vals:List Value}
  (hen : ∀ fn, P.funcs[f]? = some fn → fn.body.isSome = true → (fn.name == "runtime.NumGoroutine") = false → (execOp a.eval o).run P w = .ok (.enter f vals.toArray) w)
  (hargs:vals.length=args.length/\∀ (j:Nat) u x,vals[j]?=some u->args[j]?=some x->RelV cfg g st.dead (fun nm=> (st.mem nm).isSome) u x)
  (he:Z3C Γ st d f args=some (ps,e)) (hps:All ps):
  Does P o a w fun v w'=> ∃ g',Out cfg B st g e v w' g':=by
 unfold Z3C at he
 split at he
 .cases he
 rename_i s hs
 split at he
 .cases he
 rename_i ys os toks aa
 split at he
 .cases he
 rename_i ai r xs L0 ah
 rw [cond_eq_ite] at he
 split at he
 .cases he
 rename_i af
 split at he
 case h_2=> cases he
 rename_i m ll ab ae
 simp only [oP] at he
 obtain ⟨rfl,rfl⟩:=he
 obtain ⟨u1,u2⟩:=ZkB aa hargs
 exact Zhm hΓ h hen hs aa u1 u2 ah af ab ae hps
theorem ZlD {Γ:Known U} (hΓ:∀ f s,Γ f=some s->Contract P cfg f s) (h:Rel cfg B st g a w) {o:Oper} {f:FuncId} {nm:Name} {args:List (V U)} {ps:List Prop} {e:Eff U} {d:Nat} {u:Value} {vals:List Value}
  (hen : ∀ fn, P.funcs[f]? = some fn → fn.body.isSome = true → (fn.name == "runtime.NumGoroutine") = false → (execOp a.eval o).run P w = .ok (.enter f (u :: vals).toArray) w)
  (hu:w.cell? (g.ad nm)=some u) (hnm:((st.mem nm).isSome || nm.isX)=true)
  (hargs:vals.length=args.length/\∀ (j:Nat) u x,vals[j]?=some u->args[j]?=some x->RelV cfg g st.dead (fun nm=> (st.mem nm).isSome) u x)
  (he:Z5q Γ st d f nm args=some (ps,e)) (hps:All ps):
  Does P o a w fun v w'=> ∃ g',Out cfg B st g e v w' g':=by
 unfold Z5q at he
 split at he
 .cases he
 rename_i s hs
 split at he
 .cases he
 rename_i ys os toks ab
 split at he
 .cases he
 .rename_i c az aj
  split at he
  .cases he
  rename_i a1 r xs L0 ak
  rw [cond_eq_ite] at he
  split at he
  .cases he
  rename_i ar
  split at he
  case h_2=> cases he
  rename_i m ll am ao
  simp only [oP] at he
  obtain ⟨rfl,rfl⟩:=he
  have hp:(Value.pointer (some (g.ad nm)) ::vals).length=(V.ptr nm 0 ::args).length/\∀ (j:Nat) u x,(Value.pointer (some (g.ad nm)) ::vals)[j]?=some u->(V.ptr nm 0 ::args)[j]?=some x->RelV cfg g st.dead (fun nm=> (st.mem nm).isSome) u x:=by
   refine ⟨by simp [hargs.1],fun j v x hv hx=> ?_⟩
   cases j with
   | zero=> simp at hv hx;subst hv hx;exact ⟨hnm,rfl⟩
   | succ j=> exact hargs.2 j v x (by simpa using hv) (by simpa using hx)
  obtain ⟨u1,u2⟩:=ZkB ab hp
  have h0:∃ x,os[0]?=some x/\x.1=nm:=by
   have aa:=ab
   simp only [Qp,Y5,ZmD] at aa
   split at aa
   .cases aa
   .split at aa
    .cases aa
    .split at aa
     .rename_i cs bd _ _ vs ax s1 ai
      simp only [oP] at aa
      obtain ⟨_,rfl,_⟩:=aa
      obtain ⟨_,⟨more,r2⟩,_⟩:=Z0Z (cfg:=cfg) (g:=g) _ _ _ _ _ _ _ ai (fun i j x y hx hy he=> by
       cases i <;> cases j <;> simp_all)
      exact ⟨_,by rw [r2];rfl,rfl⟩
     .cases aa
  obtain ⟨x0,aq,al⟩:=h0
  have hl:((ys.take (args.length+1)).drop 1).length=args.length:=by have:=u1;simp only [Qd,Qq] at this;simp only [Qx,Qq];omega
  rw [<-aj] at ak
  refine Zhm hΓ h hen hs ab (by simp only [Qd,hl,hargs.1]) (fun j v x hv hx=> ?_) ak ar am ao hps
  cases j with
  | zero=>
   simp at hv hx
   subst hv hx
   obtain ⟨v,h4,_,h6⟩:=Zux h ab 0 [c] (by rw [aj];rfl) 0 c rfl
   have av:(g.callee (Yj os 0) toks (Z7i g os)).ad (.x 0)=g.ad nm:=by simp [Gh.callee,Z7i,aq,al]
   rw [av] at h4
   have e0:(g.ad nm).add 0=g.ad nm:=rfl
   rw [e0,hu] at h4
   cases h4
   exact h6
  | succ j=>
   refine u2 (j+1) v x (by simpa using hv) ?_
   simp only [XL,Qw] at hx
   rw [show (V.ptr nm 0 ::args).length=args.length+1 from rfl,Xx j 1]
   exact hx
 .cases he
def ZcI(st:FSt U)(g:Gh)(c:Addr):Bool:=
 match g.tag c with
 | some (.tok t)=> (st.ls t).isSome
 | _=> false
def Gh.lendG(g:Gh)(st:FSt U)(w:World):Gh:=
 {m:=fun c=> if ZcI st g c=true then w.cell? c else g.m c
  tag:=fun c=> if ZcI st g c=true then none else (g.tag c).map .outer
  ad:=g.ad
  bs:=fun _=> none }
theorem Zvs{c:Addr}(h:ZcI st g c=true):∃ t x,g.tag c=some (.tok t)/\st.ls t=some x:=by
 unfold ZcI at h
 split at h
 .rename_i t d
  cases hx:st.ls t with
  | none=> grind
  | some x=> grind
 .cases h
theorem Zvt{c:Addr}(h:∀ t,g.tag c≠some (.tok t)):ZcI st g c=false:=by
 cases hc:ZcI st g c with
 | false=> rfl
 | true=> obtain ⟨t,_,d,_⟩:=Zvs hc;grind
theorem Zvu(h:Inv g.m g.tag w){c:Addr}{v:Value}(hv:g.m c=some v):(g.lendG st w).m c=some v:=by
 have:ZcI st g c=false:=Zvt fun t e=> by rw [(h.im c v hv).2] at e;cases e
 simp only [Gh.lendG,this,X4,if_false,hv]
theorem Znh{c:Addr}{t:Tag}(ht:g.tag c=some t)(hc:ZcI st g c=false):(g.lendG st w).tag c=some (.outer t):=by
 simp only [Gh.lendG,hc,X4,if_false,ht,Qi]
theorem ZBM(h:Rel cfg B st g a w){v:Value}{c:C U}(hr:RelC cfg g st.dead v c):RelC cfg (g.lendG st w) ZF v (c.lend st):=by
 have d:=fun c v hv=> Zvu (st:=st) (w:=w) h.inv (c:=c) (v:=v) hv
 cases c with
 | slice T l tl=> cases tl with
  | unk=> exact ⟨hr.1.mono d,trivial⟩
  | full=> exact ⟨hr.1.mono d,hr.2⟩
  | own u=> exact ⟨(hr.1.tl .unk).mono d,trivial⟩
 | mref t=>
  simp only [C.lend]
  cases hx:st.ls t with
  | none=> exact ⟨.jk _ hr.1.one,trivial⟩
  | some x=>
   obtain ⟨hd,hL⟩:=h.ls t x hx
   obtain ⟨s,hs⟩:=hr.2 hd
   refine ⟨?_,trivial⟩
   rcases hL with ⟨e1,e2,_⟩ | ⟨b,len,cap,e1,e2,e3,e4,e5,_⟩
   .rw [hs] at e1
    cases e1
    obtain ⟨T,l,f⟩:=x
    simp only at e2
    subst e2
    exact .snil T _
   .rw [hs] at e1
    cases e1
    refine .of_rows _ e2 e3 fun i y hy j c hc=> ?_
    obtain ⟨u,e7,e8,e9,aa⟩:=e5 i y hy j c hc
    refine ⟨u,?_,e8.mono d⟩
    rcases Xw i x.f with hi | hi
    .grind
    .simp only [Gh.lendG,ZcI,aa hi,hx,Option.isSome_some,if_true]
     exact e7
 | jk=> exact ⟨.jk _ hr.1.one,trivial⟩
 | xp k=> exact ⟨.jk _ hr.1.one,trivial⟩
 | int k n=> exact ⟨hr.1.mono d,trivial⟩
 | bool b=> exact ⟨hr.1.mono d,trivial⟩
 | nils=> exact ⟨hr.1.mono d,trivial⟩
 | nilp=> exact ⟨hr.1.mono d,trivial⟩
 | po T o=> exact ⟨hr.1.mono d,trivial⟩
 | kc v=> exact ⟨hr.1.mono d,trivial⟩
theorem ZHo(h:Rel cfg B st g a w){live:Name->Bool}{v:Value}{x x':V U}(hr:RelV cfg g st.dead live v x)(hx:x.lend st=some x'):RelV cfg (g.lendG st w) ZF (Z67 ([]:List (List (C U)))) v x':=by
 cases x with
 | c y=> cases hx;exact ZBM h (c:=y) hr
 | agg cs=>
  cases hx
  obtain ⟨vs,h1,h2,h3⟩:=hr
  refine ⟨vs,h1,by simp [h2],fun j u c d hc=> ?_⟩
  rw [Qv] at hc
  cases hj:cs[j]? with
  | none=> grind
  | some c0=>
   simp [hj] at hc
   subst hc
   exact ZBM h (h3 j u c0 d hj)
 | fn f=> cases hx;exact hr
 | kv v=> cases hx;exact hr
 | _=> cases hx
theorem ZeW {Γ:Known U} (hΓ:∀ f s,Γ f=some s->Contract P cfg f s) (h:Rel cfg B st g a w) {o:Oper} {f:FuncId} {args:List (V U)} {ps:List Prop} {e:Eff U} {vals:List Value}
  (hen : ∀ fn, P.funcs[f]? = some fn → fn.body.isSome = true → (fn.name == "runtime.NumGoroutine") = false → (execOp a.eval o).run P w = .ok (.enter f vals.toArray) w)
  (hargs:vals.length=args.length/\∀ (j:Nat) u x,vals[j]?=some u->args[j]?=some x->RelV cfg g st.dead (fun nm=> (st.mem nm).isSome) u x)
  (he:Z7z Γ st f args=some (ps,e)) (hps:All ps):
  Does P o a w fun v w'=> ∃ g',Out cfg B st g e v w' g':=by
 unfold Z7z at he
 split at he
 case h_2=> cases he
 rename_i s vs hs aq
 have ax:∃ c0:C U,s.fn2 vs [] []=some (ps,.c c0,[],[])/\e={ val:=some (.c c0) }/\∀ (g1 g2:Gh) (d1 d2:Tok->Bool) v,RelC cfg g1 d1 v c0->RelC cfg g2 d2 v c0:=by
  split at he
  .rename_i k n ah
   simp only [oP] at he
   obtain ⟨rfl,rfl⟩:=he
   exact ⟨_,ah,rfl,fun g1 g2 d1 d2 v hr=> by have:=hr.1;cases this;exact ⟨.int _ _,trivial⟩⟩
  .rename_i b ah
   simp only [oP] at he
   obtain ⟨rfl,rfl⟩:=he
   exact ⟨_,ah,rfl,fun g1 g2 d1 d2 v hr=> by have:=hr.1;cases this;exact ⟨.bool _,trivial⟩⟩
  .cases he
 obtain ⟨c0,ah,rfl,bc⟩:=ax
 obtain ⟨⟨fn,a1,a8,a2⟩,au,_⟩:=hΓ f s hs
 have be:vs.length=args.length:=mapM_lend_len aq
 have ai:Entry cfg w (g.lendG st w) vals vs [] []:=by
  refine ⟨⟨fun c v hv=> ?_,fun c t d=> ?_⟩,fun c t d=> ?_,by grind,fun j v x hv hx=> ?_,fun k cs hk=> by simp at hk,fun t d=> rfl,fun t x hx=> by cases hx⟩
  .simp only [Gh.lendG] at hv ⊢
   split at hv
   .grind
   .rename_i hl
    obtain ⟨h1,h2⟩:=h.inv.im c v hv
    grind
  .simp only [Gh.lendG] at d
   split at d
   .cases d
   .cases hgt:g.tag c with
    | none=> grind
    | some t0=> exact h.inv.it c t0 hgt
  .simp only [Gh.lendG] at d
   split at d
   .cases d
   .cases hgt:g.tag c with
    | none=> grind
    | some t0=> grind
  .obtain ⟨x0,h1,h2⟩:=mapM_lend aq j x hx
   exact ZHo h (hargs.2 j v x0 hv h1) h2
 have am:=au vs [] [] _ _ [] [] ah hps (X6 _) w (g.lendG st w) _ ai
 refine .inr (.inr ⟨f,vals.toArray,w,hen fn a1 a8 a2,Calls.mono am ?_⟩)
 .rintro e' w' ⟨v,g',rfl,L⟩
  refine ⟨v,rfl,g,?_⟩
  have bf:∀ c t,g.tag c=some t->ZcI st g c=false->w'.cell? c=w.cell? c:=fun c t d hl=> (L.fr.outer c _ (Znh (w:=w) d hl)).2
  have bb:∀ c v,w.cell? c=some v->ZcI st g c=true->w'.cell? c=some v:=by
   intro c v hv hl
   have:(g.lendG st w).m c=some v:=by simp only [Gh.lendG,hl,if_true,hv]
   exact (L.inv.im c v (L.fr.mono c v this)).1
  have ar:∀ c v,g.m c=some v->w'.cell? c=some v:=fun c v hv=> (L.inv.im c v (L.fr.mono c v (Zvu h.inv hv))).1
  have ak:∀ c t,g.tag c=some t->w'.cell? c=w.cell? c:=by
   intro c t d
   cases hl:ZcI st g c with
   | false=> grind
   | true=>
    obtain ⟨_,v,hv⟩:=h.inv.it c t d
    grind
  have af:Zn st ({ val:=some (.c c0) }:Eff U)=st.dead:=by funext t;simp [Zn]
  refine ⟨⟨fun c v hv=> ⟨ar c v hv,(h.inv.im c v hv).2⟩,fun c t d=> ?_⟩,?_,by rw [af];exact .refl _ _ _,?_,?_,?_,?_⟩
  .obtain ⟨h1,v,h2⟩:=h.inv.it c t d
   exact ⟨(L.fr.frz c (h.inv.lt d)).trans h1,v,(ak c t d).trans h2⟩
  .refine ⟨h.fr.stay.trans L.fr.stay,h.fr.xad,h.fr.mono,fun c t d=> ?_,h.fr.outer',fun b hb a7=> ?_,fun c hc=> (L.fr.frz c (QW hc h.fr.stay.size)).trans (h.fr.frz c hc)⟩
   .obtain ⟨h1,h2⟩:=h.fr.outer c t d
    grind
   .obtain ⟨h1,h2⟩:=h.fr.clean b hb a7
    refine ⟨(L.fr.clean b (QW hb h.fr.stay.size) fun o s t d=> ?_).1.trans h1,h2⟩
    simp only [Gh.lendG] at d
    split at d
    .cases d
    .cases hgt:g.tag ⟨b,o,s⟩ with
     | none=> grind
     | some t0=> grind
  .rw [af]
   intro nm cs hm j cc hj
   obtain ⟨v0,h4,h5,h6⟩:=h.mem nm cs hm j cc hj
   grind
  .rw [af]
   exact bc _ _ _ _ _ L.val
  .intro t x hx
   rw [af]
   have hx:st.ls t=some x:=by simpa [Z06,Zt] using hx
   obtain ⟨h1,h2⟩:=h.ls t x hx
   exact ⟨h1,h2.keep (.refl g st.dead (fun _=> true)) h1 ar fun c a6=> ak c _ a6⟩
  .intro t h0 h7 h8
   rw [af] at h8
   exact h.fresh t h0 (by trivial) h8
where
 mapM_lend_len {xs:List (V U)} {vs:List (V U)} (hm:xs.mapM (V.lend st)=some vs):vs.length=xs.length:=by
  induction xs generalizing vs with
  | nil=> grind
  | cons y xs ih=>
   rw [QP] at hm
   cases h1:V.lend st y with
   | none=> grind
   | some v=>
    cases h2:xs.mapM (V.lend st) with
    | none=> grind
    | some r=>
     simp [h1,h2] at hm
     grind
 mapM_lend {xs:List (V U)} {vs:List (V U)} (hm:xs.mapM (V.lend st)=some vs) (j:Nat) (x:V U) (hx:vs[j]?=some x):∃ x0,xs[j]?=some x0/\x0.lend st=some x:=by
  induction xs generalizing vs j with
  | nil=> grind
  | cons y xs ih=>
   rw [QP] at hm
   cases h1:V.lend st y with
   | none=> grind
   | some v=>
    cases h2:xs.mapM (V.lend st) with
    | none=> simp [h1,h2] at hm
    | some r=>
     grind
theorem Zl0{α β:Type}{f:α->Option β}:∀ {xs:List α} {ys:List β},xs.mapM f=some ys->ys.length=xs.length/\∀ (j:Nat) y,ys[j]?=some y->∃ x,xs[j]?=some x/\f x=some y
 | [],ys,h=> by grind
 | x ::xs,ys,h=> by
  rw [QP] at h
  cases h1:f x with
  | none=> simp [h1] at h
  | some v=>
   cases h2:xs.mapM f with
   | none=> grind
   | some r=>
    simp [h1,h2] at h
    subst h
    obtain ⟨d,h4⟩:=Zl0 h2
    grind
theorem ZwL{g2:Gh}{dead:Tok->Bool}(hm:g2.m=g.m){v:Value}{c:C U}(h:RelC cfg g dead v c):RelC cfg g2 ZF v c.bare:=by
 cases c with
 | slice T l tl=> exact ⟨by rw [hm];exact h.1.tl _,trivial⟩
 | mref t=> exact ⟨.jk _ h.1.one,trivial⟩
 | xp k=> exact ⟨.jk _ h.1.one,trivial⟩
 | _=> exact ⟨by rw [hm];exact h.1,trivial⟩
theorem ZHE{g2:Gh}{dead:Tok->Bool}{live l2:Name->Bool}(hm:g2.m=g.m){v:Value}{x x':V U}(h:RelV cfg g dead live v x)(hx:x.bare=some x'):RelV cfg g2 ZF l2 v x':=by
 cases x with
 | c y=> cases hx;exact ZwL hm (c:=y) h
 | agg cs=>
  cases hx
  obtain ⟨vs,h1,h2,h3⟩:=h
  refine ⟨vs,h1,by simp [h2],fun j u c d hc=> ?_⟩
  rw [Qv] at hc
  cases hj:cs[j]? with
  | none=> grind
  | some c0=>
   simp [hj] at hc
   subst hc
   exact ZwL hm (h3 j u c0 d hj)
 | fn f=> cases hx;exact h
 | kv v=> cases hx;exact h
 | _=> cases hx
theorem RelC.plain{g1 g2:Gh}{d1 d2:Tok->Bool}{v:Value}{c:C U}(hm:g2.m=g1.m)(hc:c.plain=true)(h:RelC cfg g1 d1 v c):RelC cfg g2 d2 v c:=by
 refine ⟨by rw [hm];exact h.1,?_⟩
 cases c with
 | slice T l tl=> cases tl <;> first | trivial | cases hc
 | mref t=> cases hc
 | xp k=> cases hc
 | _=> trivial
theorem ZlH{ax:Nat->Addr}{xs ys:List (V U)}{os:List (Name × List (C U))}(hb:Z4A st xs=some (ys,os))(hax:∀ (k:Nat) x,os[k]?=some x->ax k=g.ad x.1):
  os.length<=1/\ys.length=xs.length/\(∀ (k:Nat) x,os[k]?=some x->∃ cs,st.mem x.1=some cs/\x.2=cs.map C.bare)/\
  ∀ (j:Nat) v x y,xs[j]?=some x->ys[j]?=some y->RelV cfg g st.dead (fun nm=> (st.mem nm).isSome) v x->RelV cfg (g.callee (Yj os 0) [] ax) ZF (Z67 (os.map (·.2))) v y:=by
 unfold Z4A at hb
 split at hb
 .rename_i nm
  split at hb
  .rename_i cs ah
   cases hb
   refine ⟨Qg _,rfl,fun k x d=> ?_,fun j v x y d hy hr=> ?_⟩
   .have:k=0:=by have:=(Q4.1 d).1;simp at this;exact this
    subst this
    simp at d
    subst d
    exact ⟨cs,ah,rfl⟩
   .have:j=0:=by have:=(Q4.1 d).1;simp at this;exact this
    subst this
    simp at d hy
    subst d hy
    have e:ax 0=g.ad nm:=hax 0 _ rfl
    refine ⟨rfl,?_⟩
    have h2:v= .pointer (some ((g.ad nm).add 0)):=hr.2
    rw [h2,<-e]
    try rfl
  .cases hb
 .split at hb
  .rename_i vs ab
   cases hb
   obtain ⟨h1,h2⟩:=Zl0 ab
   refine ⟨X6 _,h1,fun k x d=> by simp at d,fun j v x y d hy hr=> ?_⟩
   obtain ⟨x0,h3,h4⟩:=h2 j y hy
   rw [d] at h3
   cases h3
   exact ZHE (g:=g) (g2:=g.callee (Yj [] 0) [] ax) rfl hr h4
  .cases hb
theorem Zrx {Γ:Known U} (hΓ:∀ f s,Γ f=some s->Contract P cfg f s) (h:Rel cfg B st g a w) {o:Oper} {c:Call} {gx:Operand} {f:FuncId} {args:List (V U)} {ps:List Prop} {e:Eff U} {d:Nat}
  (ho:o.op= .call c) (hc:c.callee= .value gx) (hg:a.eval gx= .func (.func f) #[] #[])
  (hargs:c.args.toList.length=args.length/\∀ (j:Nat) u x,(c.args.toList.map a.eval)[j]?=some u->args[j]?=some x->RelV cfg g st.dead (fun nm=> (st.mem nm).isSome) u x)
  (he:Zso Γ st d f args=some (ps,e)) (hps:All ps):
  Does P o a w fun v w'=> ∃ g',Out cfg B st g e v w' g':=by
 unfold Zso at he
 split at he
 case h_2=> cases he
 rename_i s vs os hs bv
 split at he
 case h_2=> cases he
 rename_i b8 k xs br
 split at he
 case isFalse=> cases he
 rename_i bh
 simp only [Q2,Qy,QA,Nat.beq_eq] at bh
 obtain ⟨⟨⟨hk,ca⟩,b6⟩,hn⟩:=bh
 subst hk
 simp only [oP] at he
 obtain ⟨rfl,rfl⟩:=he
 obtain ⟨⟨fn,b0,ch,b4⟩,bi,_⟩:=hΓ f s hs
 let ax:Nat->Addr:=fun k=> ((os[k]?).map fun x=> g.ad x.1).getD ⟨0,0,none⟩
 have a8:∀ (k:Nat) x,os[k]?=some x->ax k=g.ad x.1:=fun k x hx=> by simp [ax,hx]
 obtain ⟨ce,bl,bm,am⟩:=ZlH (cfg:=cfg) bv a8
 have bq:ZlU os:=fun i j x y hx hy _=> by have:=(Q4.1 hx).1;have:=(Q4.1 hy).1;omega
 let gc:=g.callee (Yj os 0) [] ax
 let nms:=os.map (·.1)++[Name.loc d]
 have ar:∀ c t,gc.tag c=some (.outer t)↔(g.tag c=some t/\(∀ nm,t= .obj nm->Yj os 0 nm=none)/\(∀ u,t= .tok u->YG [] u=none)):=fun c t=> Zfo
 have av:Entry cfg w gc (c.args.toList.map a.eval) vs (os.map (·.2)) []:=by
  refine ⟨⟨fun c v hv=> ?_,fun c t ht=> ?_⟩,fun c t ht=> ?_,by rw [QX,hargs.1,bl],fun j v x hv hx=> ?_,fun k cs hk j c hj=> ?_,fun t ht=> (by simp only [gc,Gh.callee,ht,if_true]),fun t x hx=> by cases hx⟩
  .obtain ⟨h1,h2⟩:=h.inv.im c v hv
   exact ⟨h1,Z6x h2⟩
  .obtain ⟨t0,a1⟩:=Z6w ht
   exact h.inv.it c t0 a1
  .simp only [gc,Gh.callee] at ht
   split at ht
   .split at ht
    .cases ht;exact .inr (.inl ⟨_,rfl⟩)
    .cases ht;exact .inl ⟨_,rfl⟩
   .split at ht
    .cases ht;exact .inr (.inr ⟨_,rfl⟩)
    .cases ht;exact .inl ⟨_,rfl⟩
   .cases ht;exact .inl ⟨_,rfl⟩
   .cases ht
  .have hj:j < args.length:=by have:=(Q4.1 hx).1;omega
   exact am j v _ x (Q0 hj) hx (hargs.2 j v _ hv (Q0 hj))
  .rw [Qv] at hk
   cases hx:os[k]? with
   | none=> simp [hx] at hk
   | some x=>
    simp [hx] at hk
    subst hk
    obtain ⟨bc,h1,h2⟩:=bm k x hx
    rw [h2,Qv] at hj
    cases hj0:bc[j]? with
    | none=> simp [hj0] at hj
    | some c0=>
     simp [hj0] at hj
     subst hj
     obtain ⟨v,h4,h5,h6⟩:=h.mem x.1 bc h1 j _ hj0
     have al:gc.ad (.x k)=g.ad x.1:=a8 k x hx
     have b1:Yj os 0 x.1=some k:=by have:=Zb5 (k:=0) bq hx rfl;simpa using this
     rw [al]
     exact ⟨v,h4,by simp only [gc,Gh.callee,h5,b1],ZwL (g:=g) (g2:=gc) rfl h6⟩
 have a6:=bi vs (os.map (·.2)) [] _ _ xs [] br hps (by rw [QX];omega) w gc _ av
 refine .inr (.inr ⟨f,(c.args.toList.map a.eval).toArray,w,?_,Calls.mono a6 ?_⟩)
 .have hb:fn.body.isNone=false:=by cases hfb:fn.body <;> simp_all
  simp only [execOp,ho,resolve,hc,hg,Deferred.ofValue,Sem.run_bind,Sem.run_pure,Result.andThen_ok,invoke,callFunc,run_program,b0]
  simp [b4,hb]
  apply QM
  simp
 .rintro e' w' ⟨v,g',rfl,L⟩
  let g1:Gh:={ m:=g'.m,tag:=fun c=> (match g'.tag c with | some (.outer t)=> some t | some (.obj (.x k))=> (nms[k]?).map .obj | _=> none),ad:=fun nm=> if nm= .loc d then g'.ad (.x os.length) else g.ad nm,bs:=g.bs }
  have cl:gc.m=g.m:=rfl
  have af:∀ c t,g.tag c=some t->(∀ nm,t= .obj nm->Yj os 0 nm=none)->g1.tag c=some t/\w'.cell? c=w.cell? c:=by
   intro c t h1 h2
   have:=L.fr.outer c t ((ar c t).2 ⟨h1,h2,fun u _=> rfl⟩)
   exact ⟨by simp only [g1,this.1],this.2⟩
  have bp:∀ c t,g1.tag c=some t->∃ t',g'.tag c=some t':=by
   intro c t ht
   simp only [g1] at ht
   cases hgt:g'.tag c with
   | none=> simp [hgt] at ht
   | some t'=> exact ⟨t',rfl⟩
  have al:∀ nm,nm≠.loc d->g1.ad nm=g.ad nm:=fun nm a7=> by simp only [g1,if_neg a7]
  have bw:∀ (k:Nat) x,os[k]?=some x->g'.ad (.x k)=g.ad x.1:=fun k x hx=> by
   have hk:=(Q4.1 hx).1
   exact (L.ad k (fun e=> by cases e;omega)).trans (a8 k x hx)
  have bz:∀ (k:Nat) x,os[k]?=some x->x.1≠.loc d:=fun k x hx e=> by
   obtain ⟨bc,h1,_⟩:=bm k x hx
   rw [e,hn] at h1
   cases h1
  have hz:∀ (k:Nat) nm cs,(nms.zip xs)[k]?=some (nm,cs)->nms[k]?=some nm/\xs[k]?=some cs:=fun k nm cs hk=> by
   rw [XF] at hk
   exact hk
  have aw:Zn st ({ val:=some (.ptr (.loc d) 0),mem:=nms.zip xs }:Eff U)=st.dead:=by funext t;simp [Zn]
  have aj:Keeps g g1 st.dead st.dead (fun nm=> (st.mem nm).isSome) (Yc st ({ val:=some (.ptr (.loc d) 0),mem:=nms.zip xs }:Eff U)):=by
   refine ⟨fun c v hv=> L.fr.mono c v hv,fun c t hd ht=> (af c _ ht fun nm e=> by cases e).1,fun t ht=> ht,fun nm hl=> ⟨?_,al nm fun e=> ?_⟩,fun t v _ hv=> hv,fun k=> al _ (by simp)⟩
   .simp only [Yc]
    rcases YS st.mem (nms.zip xs) nm with ⟨k,cs,_,h2⟩ | ⟨_,h2⟩
    .rw [h2];try rfl
    .rw [h2];exact hl
   .subst e
    simp [hn] at hl
  have ba:(nms.zip xs)[os.length]?=some (.loc d,xs[os.length]'V0):=by
   rw [XF]
   exact ⟨by simp [nms],Q0 _⟩
  refine ⟨v,rfl,g1,⟨fun c v hv=> ?_,fun c t ht=> ?_⟩,?_,by rw [aw];exact aj,?_,?_,?_,?_⟩
  .obtain ⟨h1,h2⟩:=L.inv.im c v hv
   exact ⟨h1,by simp only [g1,h2]⟩
  .obtain ⟨t',bd⟩:=bp c t ht
   exact L.inv.it c t' bd
  .refine ⟨h.fr.stay.trans L.fr.stay,fun k=> (al _ (by simp)).trans (h.fr.xad k),fun c v hv=> L.fr.mono c v (h.fr.mono c v hv),fun c t ht=> ?_,fun c t ht=> ?_,fun b hb bj=> ?_,fun c hc=> (L.fr.frz c (QW hc h.fr.stay.size)).trans (h.fr.frz c hc)⟩
   .obtain ⟨h1,h2⟩:=h.fr.outer c t ht
    obtain ⟨h3,h4⟩:=af c _ h1 (fun nm e=> by cases e)
    exact ⟨h3,h4.trans h2⟩
   .simp only [g1] at ht
    split at ht
    .rename_i t' bd
     cases ht
     exact h.fr.outer' c t ((ar c _).1 (L.fr.outer' c _ bd)).1
    .cases hx:nms[‹Nat›]? with
     | none=> simp [hx] at ht
     | some x=> simp [hx] at ht
    .cases ht
   .obtain ⟨h1,h2⟩:=h.fr.clean b hb bj
    have am:∀ o s t,g.tag ⟨b,o,s⟩=some t->∃ t',t= .outer t':=fun o s t ht=> bj o s t (by rw [<-h2];exact ht)
    have ay:∀ o s t,gc.tag ⟨b,o,s⟩=some t->∃ t',t= .outer t':=by
     intro o s t ht
     obtain ⟨t0,a1⟩:=Z6w ht
     obtain ⟨t1,rfl⟩:=am o s t0 a1
     have:=(ar ⟨b,o,s⟩ (.outer t1)).2 ⟨a1,(fun nm e=> by cases e),(fun u e=> by cases e)⟩
     rw [ht] at this
     cases this
     exact ⟨_,rfl⟩
    obtain ⟨h3,h4⟩:=L.fr.clean b (QW hb h.fr.stay.size) ay
    refine ⟨h3.trans h1,fun o s=> ?_⟩
    rw [<-h2 o s]
    have h5:g'.tag ⟨b,o,s⟩=gc.tag ⟨b,o,s⟩:=h4 o s
    cases hgt:g.tag ⟨b,o,s⟩ with
    | none=>
     have h6:gc.tag ⟨b,o,s⟩=none:=Z6x hgt
     simp only [g1,h5,h6]
    | some t=>
     obtain ⟨t1,rfl⟩:=am o s t hgt
     exact (af _ _ hgt (fun nm e=> by cases e)).1
  .rw [aw]
   intro nm az hm j cc hj
   rcases YS st.mem (nms.zip xs) nm with ⟨k,cs,h1,h2⟩ | ⟨h1,h2⟩
   .rw [h2] at hm
    cases hm
    obtain ⟨ak,bk⟩:=hz k nm az h1
    obtain ⟨v0,h4,h5,h6⟩:=L.x k az bk j cc hj
    have h7:RelC cfg g1 st.dead v0 cc:=RelC.plain (g1:=g') (g2:=g1) rfl (b6 az (QV bk) cc (QV hj)) h6
    have h8:g1.ad nm=g'.ad (.x k):=by
     rcases Xw k os.length with hk | hk
     .have bb:os[k]?=some os[k]:=Q0 hk
      have e:nm=os[k].1:=by simp only [nms] at ak;rw [QB (by simpa using hk),List.getElem?_map,bb] at ak;simpa using ak.symm
      rw [e,al _ (bz k _ bb),bw k _ bb]
     .have bx:k=os.length:=by have:=(Q4.1 ak).1;simp [nms] at this;omega
      subst bx
      have e:nm= .loc d:=by simp [nms] at ak;exact ak.symm
      rw [e]
      simp only [g1,if_true]
    rw [h8]
    exact ⟨v0,h4,by simp only [g1,h5,ak,Qi],h7⟩
   .rw [h2] at hm
    obtain ⟨v0,h4,h5,h6⟩:=h.mem nm az hm j cc hj
    have b2:Yj os 0 nm=none:=Zc8 (fun i x hx e=> by
     have hi:=(Q4.1 hx).1
     have h9:(nms.zip xs)[i]?=some (nm,xs[i]'V0):=by
      rw [XF]
      refine ⟨?_,Q0 _⟩
      simp only [nms]
      rw [QB (by simpa using hi),List.getElem?_map,hx,<-e]
      try rfl
     exact h1 i _ h9 rfl) 0
    obtain ⟨h7,h8⟩:=af _ _ h5 (fun ck e=> by cases e;exact b2)
    have a7:nm≠.loc d:=fun e=> by subst e;rw [hn] at hm;cases hm
    rw [al nm a7]
    exact ⟨v0,h8.trans h4,h7,h6.keep aj⟩
  .have hv:v= .pointer (some ((g'.ad (.x os.length)).add 0)):=L.val.2
   refine ⟨?_,?_⟩
   .simp only [Yc]
    rcases YS st.mem (nms.zip xs) (.loc d) with ⟨k,cs,_,h2⟩ | ⟨h1,_⟩
    .rw [h2];try rfl
    .exact absurd rfl (h1 _ _ ba)
   .rw [hv]
    simp only [g1,if_true]
  .intro t x hx
   rw [aw]
   have hx:st.ls t=some x:=by simpa [Z06,Zt] using hx
   obtain ⟨h1,h2⟩:=h.ls t x hx
   exact ⟨h1,h2.keep aj h1 (fun c v hv=> (L.inv.im c v (L.fr.mono c v hv)).1) fun c b5=> (af c _ b5 fun nm e=> by cases e).2⟩
  .intro t h0 h7 h8
   rw [aw] at h8
   exact h.fresh t h0 (by trivial) h8
theorem ZhR (ok:CfgOk P cfg) (h:Rel cfg B st g a w) {live:Name->Bool} {t:TypeId} {u:Tok} {x:LC U} {v:Value} {k:IntKind} {n:Int} (ht:cfg.slT t=some x.T) (hx:st.ls u=some x)
  (hv:RelC cfg g st.dead v (.mref u)) (hn:0<=n/\n<=x.l.length):
  ∃ r,(Instr.sliceAt t v (some (.int k n)) none none).run P w= .ok r w/\RelV cfg g st.dead live r (.vw u n.toNat):=by
 obtain ⟨hE,hU⟩:=Ji ok ht
 have aa:=J1 ok x.T w
 rw [<-hE] at aa
 obtain ⟨hd,hL⟩:=h.ls u x hx
 obtain ⟨s,hs⟩:=hv.2 hd
 have ab:∃ b len d,v= .slice b len d/\s=cfg.sz x.T/\x.l.length=len:=by
  rcases hL with ⟨h4,h5,_⟩ | ⟨b,len,d,h4,h5,_⟩ <;> rw [hs] at h4 <;> cases h4
  .grind
  .grind
 obtain ⟨b,len,d,rfl,rfl,hl⟩:=ab
 rw [run_sliceAt_slice w t _ _ _ _ hU,run_slice_l w t b len d hU _ _ hn.1 V0,aa]
 exact ⟨_,rfl,fun _=> ⟨b,len,d,_,hs,V0,rfl⟩⟩
theorem ZkE(h:Rel cfg B st g a w){u:Tok}{y y':LC U}(hy:st.ls u=some y)(e:y'=y){val:Option (V U)}{v:Value}(hval:∀ dead live,RelV cfg g dead live v (val.getD .junk)):
  Out cfg B st g { val:=val,ls:=[(u,y')] } v w g:=by
 subst e
 have d:Zn st ({ val:=val,ls:=[(u,y')] }:Eff U)=st.dead:=by funext t;simp [Zn]
 have aa:∀ t,Z06 st.ls ({ val:=val,ls:=[(u,y')] }:Eff U) t=st.ls t:=fun t=> by
  simp only [Z06,Xh,cond_false,Zt]
  grind
 refine ⟨h.inv,h.fr,by rw [d];exact .refl _ _ _,by rw [d];exact h.mem,hval _ _,fun t x hx=> ?_,fun t h0 h7 h8=> ?_⟩
 .rw [aa] at hx;rw [d];exact h.ls t x hx
 .rw [aa] at h7;rw [d] at h8;exact h.fresh t h0 h7 h8
theorem Zdv (ok:CfgOk P cfg) (h:Rel cfg B st g a w) {u:Tok} {y:LC U} (hy:st.ls u=some y) {n:Nat} {l':List (U.El y.T)} {vs:List Value} {b:Addr} {len cap s:Nat}
  (hbs:g.bs u=some (.slice (some b) len cap,s)) (hvl:vs.length=l'.length*cfg.sz y.T) (hvo:∀ v∈vs,v.oneCell'=true)
  (hvr:∀ (i:Nat) x,l'[i]?=some x->∀ (j:Nat) c,(cfg.enc y.T x)[j]?=some c->∃ v,vs[i*cfg.sz y.T+j]?=some v/\SimC cfg g.m v c)
  (hf:y.f<=n) (hn:n+l'.length<=len) {val:Option (V U)} {v:Value} (hval:∀ dead live,RelV cfg g dead live v (val.getD .junk)):
  s=cfg.sz y.T/\y.l.length=len/\∃ w',(storeCells (b.add (n*cfg.sz y.T)) vs).run P w= .ok () w'/\Out cfg B st g { val:=val,ls:=[(u,⟨y.T,y.l.take n++(l'++y.l.drop (n+l'.length)),y.f⟩)] } v w' g:=by
 obtain ⟨a8,hL⟩:=h.ls u y hy
 rcases hL with ⟨h4,_⟩ | ⟨b',len',cap',h4,hlen,hcap,hfl,hrows,htail⟩ <;> rw [hbs] at h4 <;> cases h4
 refine ⟨rfl,hlen,?_⟩
 have ai:=ok.sz_pos y.T
 have ay:(n+l'.length)*cfg.sz y.T<=len*cfg.sz y.T:=Qf _ hn
 rw [QJ] at ay
 have ab:∀ j,n*cfg.sz y.T<=j->j < len*cfg.sz y.T->g.tag (b.add j)=some (.tok u)/\∃ v,w.cell? (b.add j)=some v:=by
  intro j h1 h2
  have hi:j / cfg.sz y.T < y.l.length:=by rw [hlen];exact Xs (by grind)
  have bc:j % cfg.sz y.T < (cfg.enc y.T (y.l[j / cfg.sz y.T])).length:=by rw [ok.enc_len];exact XJ _ ai
  obtain ⟨v,g1,_,_,g4⟩:=hrows _ _ (Q0 hi) _ _ (Q0 bc)
  have e:j / cfg.sz y.T*cfg.sz y.T+j % cfg.sz y.T=j:=by rw [Xn];exact XD _ _
  rw [e] at g1 g4
  exact ⟨g4 (QZ hf ((XP ai).2 h1)),v,g1⟩
 obtain ⟨w',h1,h2,h3,h4,h5,h6⟩:=JB (P:=P) (b.add (n*cfg.sz y.T)) vs 0 w hvo (by
  intro j hj
  rw [Go.Deep.add_add,QK]
  obtain ⟨g1,g2⟩:=ab (n*cfg.sz y.T+j) V0 V0
  exact ⟨g2,(h.inv.it _ _ g1).1⟩)
 simp only [QK,Go.Deep.add_add] at h2 h3 h4
 refine ⟨w',h1,?_⟩
 have aa:∀ c,(∃ j,j < vs.length/\c=b.add (n*cfg.sz y.T+j))->g.tag c=some (.tok u):=by
  rintro c ⟨j,hj,rfl⟩
  exact (ab _ V0 V0).1
 have d:∀ c,g.tag c≠some (.tok u)->w'.cell? c=w.cell? c:=fun c hc=> h4 c fun j hj e=> hc (aa c ⟨j,hj,e⟩)
 have aw:∀ c v,g.m c=some v->w'.cell? c=some v:=fun c v hv=> by
  obtain ⟨h7,h8⟩:=h.inv.im c v hv
  grind
 have af:∀ L,Zn st ({ val:=val,ls:=L }:Eff U)=st.dead:=fun L=> by funext t;simp [Zn]
 refine ⟨⟨fun c v hv=> ⟨aw c v hv,(h.inv.im c v hv).2⟩,fun c t ax=> ?_⟩,?_,by rw [af];exact .refl _ _ _,?_,hval _ _,?_,?_⟩
 .obtain ⟨h7,u',h8⟩:=h.inv.it c t ax
  grind
 .exact h.fr.step h.inv h2 (fun c hc=> ⟨_,aa c hc,fun t' e=> by cases e⟩) (fun _ _ h=> h) (fun _ _=> QN) (fun _ _ _ _ _=> rfl) (fun _=> rfl)
 .rw [af]
  intro nm be hm j c hj
  obtain ⟨v0,bo,bk,bp⟩:=h.mem nm be hm j c hj
  grind
 .intro t z hz
  rw [af]
  unfold Z06 at hz
  simp only [Xh,cond_false,Zt] at hz
  split at hz
  .rename_i et
   subst et
   cases hz
   refine ⟨a8,.inr ⟨b,len,cap,hbs,by simp;omega,hcap,hfl,?_,htail⟩⟩
   intro i q hq j c hc
   simp only at hq hc ⊢
   have hj:j < cfg.sz y.T:=by have:=(Q4.1 hc).1;rw [ok.enc_len] at this;exact this
   have old:y.l[i]?=some q->(i < n\/n+l'.length<=i)->∃ u',w'.cell? (b.add (i*cfg.sz y.T+j))=some u'/\SimC cfg g.m u' c/\(i < y.f->g.m (b.add (i*cfg.sz y.T+j))=some u')/\(y.f<=i->g.tag (b.add (i*cfg.sz y.T+j))=some (.tok t)):=by
    intro h0 a7
    obtain ⟨u',g1,g2,g3,g4⟩:=hrows i q h0 j c hc
    refine ⟨u',?_,g2,g3,g4⟩
    rw [h4 _ fun j' bl e=> by
     have:=Z1U e
     rcases a7 with av | au
     .have:(i+1)*cfg.sz y.T<=n*cfg.sz y.T:=Qf _ av
      grind
     .have:(n+l'.length)*cfg.sz y.T<=i*cfg.sz y.T:=Qf _ au
      grind]
    exact g1
   rw [QF,Qq,Xq V0] at hq
   split at hq
   .grind
   .rename_i au
    rw [QF] at hq
    split at hq
    .rename_i av
     obtain ⟨v0,g1,g2⟩:=hvr _ _ hq j c hc
     have g3:=h3 _ _ g1
     have e1:n*cfg.sz y.T+((i - n)*cfg.sz y.T+j)=i*cfg.sz y.T+j:=by
      rw [<-K6,<-QJ];congr 2;omega
     rw [e1] at g3
     refine ⟨v0,g3,g2,fun hi=> by omega,fun _=> (ab _ ?_ ?_).1⟩
     .omega
     grind
    .rename_i bg
     rw [Qw] at hq
     exact old (by rw [<-hq];congr 1;omega) (.inr V0)
  .rename_i bm
   obtain ⟨h7,h8⟩:=h.ls t z hz
   exact ⟨h7,h8.keep (.refl g st.dead (fun _=> true)) h7 aw (fun c ax=> d c (by grind))⟩
 .rw [af]
  intro t h0 h7 h8
  unfold Z06 at h7
  simp only [Xh,cond_false,Zt] at h7
  split at h7
  .cases h7
  .exact h.fresh t h0 h7 h8
theorem ZBd(h:Rel cfg B st g a w){live:Name->Bool}{u:Tok}{x:LC U}{n:Nat}{v:Value}(hx:st.ls u=some x)(hv:RelV cfg g st.dead live v (.vw u n)):
  n<=x.l.length/\∃ b m d,v= .slice b m d/\m=x.l.length - n/\(b=none->m=0)/\(n < x.l.length->∃ b' cap',g.bs u=some (.slice (some b') x.l.length cap',cfg.sz x.T)/\b=some (b'.add (n*cfg.sz x.T))):=by
 obtain ⟨hd,hL⟩:=h.ls u x hx
 obtain ⟨b,len,d,s,h1,h2,rfl⟩:=hv hd
 rcases hL with ⟨h4,h5,_⟩ | ⟨b',len',cap',h4,hlen,hcap,_⟩ <;> rw [h1] at h4 <;> cases h4
 .rw [h5]
  exact ⟨h2,_,_,_,rfl,rfl,fun _=> by simp,fun hh=> by simp at hh⟩
 .rw [hlen]
  refine ⟨h2,_,_,_,rfl,rfl,fun e=> ?_,fun ai=> ⟨b',d,h1,?_⟩⟩
  .split at e <;> cases e
  .rw [Yo];try rfl
theorem ZlC (ok:CfgOk P cfg) (h:Rel cfg B st g a w) {live:Name->Bool} {o:Oper} {t:TypeId} {u:Tok} {n:Nat} {px:Operand} {ps:List Prop} {e:Eff U}
  (ho:o.op= .call { callee:= .builtin .clear,args:=#[px],argTypes:=#[t] })
  (hx:RelV cfg g st.dead live (a.eval px) (.vw u n)) (he:Zjn cfg st t u n=some (ps,e)) (hps:All ps):
  Does P o a w fun v w'=> ∃ g',Out cfg B st g e v w' g':=by
 unfold Zjn at he
 split at he
 case h_2=> cases he
 rename_i T x hT af
 split at he
 case h_2=> cases he
 rename_i aw z _ hz
 subst aw
 simp only [oP] at he
 obtain ⟨rfl,rfl⟩:=he
 obtain ⟨hE,hU⟩:=Ji ok hT
 obtain ⟨hn,b,m,a1,hv,hm,hb,ai⟩:=ZBd h af hx
 have am:execOp a.eval o=(do pure (.value (<-Builtin.clear_ #[t] o.type #[.slice b m a1])):Sem Next):=by
  simp only [execOp,ho,resolve,Sem.run_bind,Sem.run_pure,Result.andThen_ok,invoke,builtin]
  simp [hv]
 have ak:P.underlying t=some (.slice (cfg.elT x.T)):=by rw [hE] at hU;exact hU
 by_cases h0:m=0
 .have e1:x.l.length=n:=V0
  refine .inl ⟨.tuple #[],w,?_,g,ZkE h af (by rw [<-e1];simp) fun _ _=> trivial⟩
  rw [am]
  subst h0
  refine Z8X ?_
  cases b <;> simp [Builtin.clear_,run_underlying ak]
 obtain ⟨b',ba,au,rfl⟩:=ai V0
 obtain ⟨i,ag,zs,z',hi,bd,bo,bt,ae,bm⟩:=ok.el x.T
 rw [ae] at hz
 have a6:cfg.dec x.T zs=some z:=hz
 obtain ⟨d,ay,hZ⟩:=Z2o ok ae w
 have aa:=Z0G (g:=g) (st:=st) (cfg:=cfg) hZ
 obtain ⟨a2,az⟩:=Zai ok a6 aa.1 (fun j v c h1 h2=> aa.sim h1 h2)
 have ah:d.cells.size=cfg.sz x.T:=by have:=a2;simp at this;exact this
 have be:=ok.sz_pos x.T
 obtain ⟨_,_,w',h1,bc⟩:=Zdv (P:=P) (l':=List.replicate m z) (vs:=(Builtin.zeroCells d.cells m).toList) (n:=n) (val:=none) (v:= .tuple #[]) ok h af au
  (by simp [Builtin.zeroCells,ah])
  (by
   intro v hv
   simp only [Builtin.zeroCells,Xl,Xo,Array.toList_range,List.mem_range] at hv
   obtain ⟨j,hj,rfl⟩:=hv
   have aj:j % d.cells.size < d.cells.size:=XJ _ V0
   rw [getElem!_pos d.cells _ aj]
   exact aa.one _ (by simp))
  (by
   intro i x0 ab j c hc
   obtain ⟨hi,ab⟩:=Q4.1 ab
   simp at ab hi
   subst ab
   obtain ⟨v,h7,h8⟩:=az j c hc
   have hj:j < cfg.sz x.T:=by have:=(Q4.1 hc).1;rw [ok.enc_len] at this;exact this
   have ai:i*cfg.sz x.T+j < m*cfg.sz x.T:=by
    have:(i+1)*cfg.sz x.T<=m*cfg.sz x.T:=Qf _ V0
    rw [QJ] at this;omega
   refine ⟨v,?_,h8⟩
   have h9:d.cells[j]?=some v:=by rw [<-h7];simp
   have al:j < d.cells.size:=V0
   have e:(i*cfg.sz x.T+j) % d.cells.size=j:=by rw [ah,Xn,XU,XO hj]
   have av:d.cells[j]! =v:=by
    rw [getElem!_pos d.cells j al]
    rw [QC al] at h9
    exact Option.some.inj h9
   have ao:i*cfg.sz x.T+j < m*d.cells.size:=by rw [ah];exact ai
   simp [Builtin.zeroCells,ao,e,av])
  hps.1 (by simp;omega) (fun _ _=> trivial)
 refine .inl ⟨.tuple #[],w',?_,g,?_⟩
 .rw [am]
  refine Z8X ?_
  obtain ⟨m',rfl⟩:∃ m',m=m'+1:=⟨m - 1,V0⟩
  rw [hE] at hU
  simp [Builtin.clear_,run_underlying ak,ay,h1]
 simp_all
theorem Zo1 (ok:CfgOk P cfg) (h:Rel cfg B st g a w) {live:Name->Bool} {o:Oper} {t:TypeId} {u:Tok} {n:Nat} {y:C U} {px py:Operand} {ps:List Prop} {e:Eff U}
  (ho:o.op= .call { callee:= .builtin .copy,args:=#[px,py],argTypes:=#[t,t] })
  (hx:RelV cfg g st.dead live (a.eval px) (.vw u n)) (hy:RelC cfg g st.dead (a.eval py) y) (he:ZqQ cfg st t u n y=some (ps,e)) (hps:All ps):
  Does P o a w fun v w'=> ∃ g',Out cfg B st g e v w' g':=by
 unfold ZqQ at he
 split at he
 case h_2=> cases he
 rename_i T x hT ah
 split at he
 case h_2=> cases he
 rename_i a7 l tl _ bc
 subst a7
 simp only [oP] at he
 obtain ⟨rfl,rfl⟩:=he
 obtain ⟨hE,hU⟩:=Ji ok hT
 obtain ⟨hn,b,m,bd,hv,hm,hb,am⟩:=ZBd h ah hx
 obtain ⟨au,bs,ls,d,aq,al,bn,bb⟩:=Z4B hy bc
 rw [aq] at au
 have ao:P.underlying t=some (.slice (cfg.elT x.T)):=by rw [hE] at hU;exact hU
 have be:=J1 ok x.T w
 have av:execOp a.eval o=(do pure (.value (<-Builtin.copy_ #[t,t] o.type #[.slice b m bd,.slice bs ls d])):Sem Next):=by
  simp only [execOp,ho,resolve,Sem.run_bind,Sem.run_pure,Result.andThen_ok,invoke,builtin]
  simp [hv,aq]
 have ar:∀ (k:Nat) dead (live:Name->Bool),RelV cfg g dead live (goInt k) ((some (V.c (U:=U) (.int .i64 k))).getD .junk):=fun k _ _=> ⟨.int _ _,trivial⟩
 have ab:∀ k,k<=ls->∃ vs:List Value,(Builtin.firstCells (cfg.sz x.T) k (.slice bs ls d)).run P w= .ok vs.toArray w/\vs.length=(l.take k).length*cfg.sz x.T/\(∀ v∈vs,v.oneCell'=true)/\
   (∀ (i:Nat) x0,(l.take k)[i]?=some x0->∀ (j:Nat) c,(cfg.enc x.T x0)[j]?=some c->∃ v,vs[i*cfg.sz x.T+j]?=some v/\SimC cfg g.m v c):=by
  intro k hk
  cases bs with
  | none=>
   obtain ⟨rfl,rfl⟩:=bb rfl
   have ba:l=[]:=Q1 al
   subst ba
   exact ⟨[],run_firstCells_none w _ _ _ _,by simp,by simp,fun i x0 ae=> by simp at ae⟩
  | some a'=>
   obtain ⟨vs,h1,h2,h3⟩:=Z3V ok au.1
   have aj:k*cfg.sz x.T<=ls*cfg.sz x.T:=Qf _ hk
   have bf:(vs.take (k*cfg.sz x.T)).length=k*cfg.sz x.T:=by rw [Qq];omega
   refine ⟨vs.take (k*cfg.sz x.T),run_firstCells_some w _ k a' ls d _ bf fun j v hv=> ?_,by grind,fun v hv=> ?_,fun i x0 ae j c hc=> ?_⟩
   .have hj:j < k*cfg.sz x.T:=by have:=(Q4.1 hv).1;omega
    rw [Xd hj] at hv
    exact (h.inv.im _ _ (h2 j v hv).1).1
   .obtain ⟨j,hj,rfl⟩:=Xa (QR hv)
    exact (h2 j _ (Q0 hj)).2
   .have hi:i < k:=by have:=(Q4.1 ae).1;rw [Qq] at this;omega
    rw [Xd hi] at ae
    have hj:j < cfg.sz x.T:=by have:=(Q4.1 hc).1;rw [ok.enc_len] at this;exact this
    have am:i*cfg.sz x.T+j < k*cfg.sz x.T:=by
     have:(i+1)*cfg.sz x.T<=k*cfg.sz x.T:=Qf _ hi
     rw [QJ] at this;omega
    grind
 obtain ⟨k,hk⟩:∃ k,k=Nat.min ls m:=⟨_,rfl⟩
 have aj:k=min (x.l.length - n) l.length:=by rw [hk,hm,al];exact Nat.min_comm _ _
 obtain ⟨vs,g1,g2,g3,g4⟩:=ab k V0
 have af:(sizeOf (cfg.elT x.T)).run P w= .ok (cfg.sz x.T) w:=be
 have ak:l.take k=l.take (x.l.length - n):=by
  rcases Nat.le_total (x.l.length - n) l.length with h1 | h1
  .rw [aj,Xq h1]
  .rw [aj,Nat.min_eq_right h1,Qs (Qg _),Qs h1]
 by_cases h0:n < x.l.length
 .obtain ⟨b',bi,a2,rfl⟩:=am h0
  obtain ⟨_,_,w',h1,bl⟩:=Zdv (P:=P) (l':=l.take k) (vs:=vs) (n:=n) (val:=some (.c (.int .i64 k))) (v:=goInt k) ok h ah a2 g2 g3 g4 hps.1 (by grind) (ar _)
  refine .inl ⟨goInt k,w',?_,g,?_⟩
  .rw [av]
   refine Z8X ?_
   rw [hk] at g1 ⊢
   simp [Builtin.copy_,run_underlying ao,Builtin.lenOf,af,g1,h1]
  .have e1:x.l.take n++(l.take k++x.l.drop (n+(l.take k).length))=cpL x.l n l:=by
    unfold cpL
    rw [ak]
    congr 2
    rw [Qq]
    rcases Nat.le_total (x.l.length - n) l.length with h1 | h1
    .rw [Xq h1,QH V0,QH V0]
    .grind
   grind
 .have a1:m=0:=V0
  have a6:k=0:=V0
  rw [a6] at g1 g2
  have a8:vs=[]:=Q1 (by simpa using g2)
  subst a8
  refine .inl ⟨goInt (0:Nat),w,?_,g,ZkE h ah ?_ ?_⟩
  .rw [av]
   refine Z8X ?_
   subst a1
   cases b <;> simp [Builtin.copy_,run_underlying ao,Builtin.lenOf,af,g1,storeCells]
  .have e1:n=x.l.length:=V0
   have e2:cpL x.l n l=x.l:=by
    unfold cpL
    subst e1
    rw [Nat.sub_self,List.take_zero,Qs (Qg _),QH V0]
    simp
   rw [e2]
  grind
theorem Zs6 (ok:CfgOk P cfg) (h:Rel cfg B st g a w) {t:TypeId} {u:Tok} {x:LC U} {v:Value} {k:IntKind} {n:Int} {d:Nat} (ht:cfg.slT t=some x.T) (hx:st.ls u=some x)
  (hv:RelC cfg g st.dead v (.mref u)) (hn:0<=n/\n<=x.l.length) (hf:(x.f:Int)<=n) (hls:st.ls (.r d 0)=none) (hdd:st.dead (.r d 0)=false) (hkl:[u].contains (.r d 0)=false):
  ∃ r g',(Instr.sliceAt t v none (some (.int k n)) none).run P w= .ok r w/\Out cfg B st g { val:=some (.c (.mref (.r d 0))),kill:=[u],ls:=[(.r d 0,⟨x.T,x.l.take n.toNat,x.f⟩)] } r w g':=by
 obtain ⟨hE,hU⟩:=Ji ok ht
 have ab:=J1 ok x.T w
 rw [<-hE] at ab
 have hm:Z5A cfg st x.T (.mref u)=some (x.l,x.f,some u):=by
  simp only [Z5A,hx]
  cases ht:cfg.tyEq x.T x.T with
  | isTrue _=> rfl
  | isFalse h=> exact absurd rfl h
 obtain ⟨b,len,cap,rfl,hl,hc,hb,ae⟩:=Zbv h hv hm
 have aa:({ val:=some (.c (.mref (.r d 0))),kill:=[u],ls:=[(.r d 0,⟨x.T,x.l.take n.toNat,x.f⟩)] }:Eff U)=ZC d x.T (x.l.take n.toNat) x.f [u]:=rfl
 rw [aa,run_sliceAt_slice w t _ _ _ _ hU,run_slice_h w t b len cap hU _ _ hn.1 V0,ab]
 cases b with
 | none=>
  obtain ⟨rfl,rfl,aj⟩:=hb rfl
  have al:x.l=[]:=Q1 hl
  have ak:n.toNat=0:=V0
  rw [al,aj,List.take_nil,ak]
  exact ⟨_,_,rfl,Zab h hls hdd hkl⟩
 | some b=>
  have s:=ae b rfl
  have am:n.toNat<=len:=V0
  have ar:n.toNat*cfg.sz x.T<=len*cfg.sz x.T:=Qf _ am
  have aq:=ok.sz_pos x.T
  have s2:Src cfg g w x.T (x.l.take n.toNat) x.f [u] b n.toNat cap:=by
   refine ⟨by simp;omega,V0,V0,fun i y hy j c hc=> ?_,fun j h1 h2=> ?_⟩
   .rw [QS] at hy
    split at hy
    .exact s.rows i y hy j c hc
    .cases hy
   .exact s.own ok j (QZ (Qf _ V0) h1) h2
  obtain ⟨w',g',h1,h2⟩:=Z3N (P:=P) (d:=d) (l':=[]) (n:=0) (vs:=[]) ok h s2 V0 rfl (by simp) (by simp) (by simp) hls hdd hkl
  have hw:w'=w:=by simp [storeCells] at h1;exact h1.symm
  subst hw
  rw [Qh,XH] at h2
  refine ⟨_,g',rfl,?_⟩
  have:sliced (some b) 0 n.toNat cap (cfg.sz x.T)= .slice (some b) n.toNat cap:=by
   unfold sliced
   split
   .rw [XR,XR]
   .rw [Nat.zero_mul,Qi,Addr.add_zero',XR,XR]
  rw [this]
  exact h2
theorem Z8j:∀ {cs:List (C U)} {l vs:List Value} {dead:Tok->Bool},Zbs cs=some l->RelL cfg g dead vs cs->vs=l
 | [],l,vs,dead,h,hr=> by
  cases h
  exact Q1 hr.1
 | c ::cs,l,vs,dead,h,hr=> by
  simp only [Zbs] at h
  split at h
  .rename_i v l' d h2
   cases h
   match vs,hr with
   | u ::us,hr=>
    have h3:u=v:=by
     have:=(hr.2 0 u c rfl rfl).1
     cases c <;> simp only [C.val,reduceCtorEq,Option.some.injEq] at d <;> subst d <;> cases this <;> rfl
    have h4:us=l':=Z8j (dead:=dead) h2 ⟨by simpa using hr.1,fun j v c hv hc=> hr.2 (j+1) v c (by simpa using hv) (by simpa using hc)⟩
    rw [h3,h4]
   | [],hr=> exact absurd hr.1 (by simp)
  .cases h
theorem ZfW:∀ {vs:List Value} {cs:List (C U)} {dead:Tok->Bool},ZbC vs=some cs->RelL cfg g dead vs cs
 | [],cs,dead,h=> by cases h;exact ⟨rfl,fun j v c hv=> by simp at hv⟩
 | v ::vs,cs,dead,h=> by
  have af:∃ c aa,ZbC vs=some aa/\cs=c ::aa/\RelC cfg g dead v c:=by
   cases v <;> simp only [ZbC,reduceCtorEq] at h
   case int k n=>
    cases hc:ZbC (U:=U) vs with
    | none=> simp [hc] at h
    | some aa=> simp [hc] at h;exact ⟨_,_,rfl,h.symm,.int _ _,trivial⟩
   case bool b=>
    cases hc:ZbC (U:=U) vs with
    | none=> simp [hc] at h
    | some aa=> simp [hc] at h;exact ⟨_,_,rfl,h.symm,.bool _,trivial⟩
  obtain ⟨c,aa,h1,rfl,h3⟩:=af
  obtain ⟨h4,h5⟩:=ZfW (dead:=dead) h1
  refine ⟨by simp [h4],fun j u d hu hd=> ?_⟩
  cases j with
  | zero=> simp at hu hd;subst hu hd;exact h3
  | succ j=> exact h5 j u d (by simpa using hu) (by simpa using hd)
theorem Zgd(ok:CfgOk P cfg){t:TypeId}(ht:cfg.nif t=true)(x:Value):(Instr.makeInterface t x).run P w= .ok (.iface t x) w:=by
 obtain ⟨d,h1,h2⟩:=ok.nif t ht
 simp only [Instr.makeInterface,Sem.run_bind,run_underlying h1,Result.andThen_ok]
 cases d <;> first | rfl | exact absurd rfl (h2 _)
theorem Zmh(ok:CfgOk P cfg){t xt:TypeId}(ht:cfg.nif t=true)(x:Value):(Instr.typeAssert (.iface t x) xt t false).run P w= .ok x w:=by
 obtain ⟨d,h1,h2⟩:=ok.nif t ht
 simp only [Instr.typeAssert,Sem.run_bind,run_underlying h1,Result.andThen_ok]
 cases d <;> first | simp | exact absurd rfl (h2 _)
theorem Ztm(t:TypeId)(b:Addr)(x y:String):(Builtin.ssaWrapNilChk_ #[t] t #[.pointer (some b),strVal x,strVal y]).run P w= .ok (.pointer (some b)) w:=rfl
theorem Zmf(ok:CfgOk P cfg){t:TypeId}{name:String}{f:FuncId}{vr:Bool}(hm:cfg.mth t name=some (f,vr)){b:Addr}{u:Value}(hu:vr=true->w.cell? b=some u)(n:Nat):
  (method (n+1) t (.pointer (some b)) name).run P w= .ok (f,if vr then u else .pointer (some b)) w:=by
 obtain ⟨i,m,e,h1,h2,h3,h4,h5,h6⟩:=ok.mth _ _ _ _ hm
 cases vr with
 | false=> simp [method,typeInfo,h1,h2,h3,h4,follow,receiverAt,run_underlying h5,Place.get]
 | true=>
  obtain ⟨z,hz⟩:=h6 rfl
  have hl:=Z1Y (w:=w) (b:=b) (vs:=[u]) ok hz rfl (fun j v d=> by
   cases j with
   | zero=> simp at d;subst d;rw [Addr.add_zero'];exact hu rfl
   | succ j=> simp at d)
  simp only [X4,if_false] at hl
  simp [method,typeInfo,h1,h2,h3,h4,follow,receiverAt,run_underlying h5,Place.get,Ztm,asAddr,hl]
theorem Z7M (ok:CfgOk P cfg) {o:Oper} {c:Call} {r:Operand} {name:String} (ho:o.op= .call c) (hc:c.callee= .invoke r name) {t:TypeId} {b:Addr} (hr:a.eval r= .iface t (.pointer (some b)))
  {f : FuncId} {vr : Bool} (hm : cfg.mth t name = some (f, vr)) {u : Value} (hu : vr = true → w.cell? b = some u) {fn : Func} (h1 : P.funcs[f]? = some fn) (h2 : fn.body.isSome = true) (h3 : (fn.name == "runtime.NumGoroutine") = false) :
  (execOp a.eval o).run P w= .ok (.enter f ((if vr then u else .pointer (some b)) ::c.args.toList.map a.eval).toArray) w:=by
 have d:=Zmf (w:=w) ok hm hu (P.types.size+99)
 have hd:P.types.size+Made.depth=P.types.size+99+1:=rfl
 simp only [execOp,ho,resolve,hc,hr,Sem.run_bind,Sem.run_pure,Result.andThen_ok,invoke]
 have e0:(#[Value.iface t (.pointer (some b))]++c.args.map a.eval)[0]?=some (.iface t (.pointer (some b))):=by
  rw [Array.getElem?_append];try rfl
 have e1:(#[Value.iface t (.pointer (some b))]++c.args.map a.eval).extract 1 (#[Value.iface t (.pointer (some b))]++c.args.map a.eval).size=c.args.map a.eval:=by
  apply QM
  simp only [Array.toList_extract,Array.toList_append,Array.size_append,List.size_toArray,Qd,Qr,QK,Nat.add_sub_cancel_left,List.extract_eq_take_drop,Xl,Array.size_map]
  simp
  apply Qs
  simp
 simp only [e0,Sem.run_pure,Sem.run_bind,Result.andThen_ok,e1,callMethod,run_program,hd,d]
 rw [Zh8 h1 h2 h3]
 congr 2
 apply QM
 simp
theorem ZrU (ok:CfgOk P cfg) {Γ:Known U} (hΓ:∀ f s,Γ f=some s->Contract P cfg f s) (h:Rel cfg B st g a w) {o:Oper} {f:FuncId} {i:InL U} {args:List (V U)} {ps:List Prop} {e:Eff U} {vals:List Value}
  (hen : ∀ fn, P.funcs[f]? = some fn → fn.body.isSome = true → (fn.name == "runtime.NumGoroutine") = false → (execOp a.eval o).run P w = .ok (.enter f vals.toArray) w)
  (hargs:vals.length=args.length/\∀ (j:Nat) u x,vals[j]?=some u->args[j]?=some x->RelV cfg g st.dead (fun nm=> (st.mem nm).isSome) u x)
  (hi:Zlb Γ f=some i) (he:Zsp cfg st i args=some (ps,e)) (hps:All ps):
  Does P o a w fun v w'=> ∃ g',Out cfg B st g e v w' g':=by
 unfold Zsp at he
 split at he
 case h_2=> cases he
 rename_i t gf
 split at he
 case isFalse=> cases he
 rename_i hg
 subst hg
 split at he
 case h_2=> cases he
 rename_i x hx
 split at he
 case h_2=> cases he
 rename_i hT _
 simp only [oP] at he
 obtain ⟨rfl,rfl⟩:=he
 obtain ⟨i1,T,F⟩:=i
 simp only at hT
 subst hT
 obtain ⟨T,l,fr⟩:=x
 have bt:fr=0:=hps.1
 subst bt
 simp only at F hi
 unfold Zlb at hi
 split at hi
 case h_2=> cases hi
 rename_i s hs
 obtain ⟨⟨fn,bl,bp,bv⟩,_,a2⟩:=hΓ f s hs
 have a2:=a2 _ hi
 match vals,hargs with
 | [v,u],hargs=>
  have hv:RelC cfg g st.dead v (.mref t):=hargs.2 0 v _ rfl rfl
  have hu:u= .func (.func i1) #[] #[]:=hargs.2 1 u _ rfl rfl
  subst hu
  obtain ⟨a7,hL⟩:=h.ls t _ hx
  obtain ⟨sz,aw⟩:=hv.2 a7
  have br:∃ (b:Option Addr) (cap:Nat) (vs:List Value),v= .slice b l.length cap/\ZqT cfg g.m T l vs/\(b=none->l=[]/\cap=0)/\l.length<=cap/\sz=cfg.sz T/\
    (∀ a,b=some a->∀ (j:Nat) u,vs[j]?=some u->w.cell? (a.add j)=some u/\g.tag (a.add j)=some (.tok t))/\
    (∀ a,b=some a->∀ j,l.length*cfg.sz T<=j->j < cap*cfg.sz T->g.tag (a.add j)=some (.tok t)):=by
   rcases hL with ⟨h4,h5,_⟩ | ⟨b,len,cap,h4,hlen,aa,hfl,hrows,ab⟩ <;> rw [aw] at h4 <;> cases h4
   .simp only at h5
    subst h5
    exact ⟨none,0,[],rfl,⟨by simp,fun i x hx=> by simp at hx⟩,fun _=> ⟨rfl,rfl⟩,Qg _,rfl,fun a ha=> (by cases ha),fun a ha=> (by cases ha)⟩
   .simp only at hlen hrows ab aa
    have s:Src cfg g w T l 0 [t] b len cap:=⟨hlen,aa,X6 _,fun i y hy j c hc=> by
     obtain ⟨u,g1,g2,g3,g4⟩:=hrows i y hy j c hc
     exact ⟨u,g1,g2,g3,fun hi=> ⟨t,rfl,g4 hi⟩⟩,fun j h1 h2=> ⟨t,rfl,ab j h1 h2⟩⟩
    obtain ⟨vs,bi,bh,bm⟩:=s.list ok
    have b0:len*cfg.sz T<=cap*cfg.sz T:=Qf _ aa
    subst hlen
    refine ⟨some b,cap,vs,rfl,⟨bi,bm⟩,fun e=> (by cases e),aa,rfl,fun a ha j u hj=> ?_,fun a ha j h1 h2=> ?_⟩
    .cases ha
     have ca:j < vs.length:=(Q4.1 hj).1
     obtain ⟨t',e,h2⟩:=s.own ok j V0 V0
     cases e
     exact ⟨bh j u hj,h2⟩
    .cases ha;exact ab j h1 h2
  obtain ⟨b,cap,vs,rfl,bd,ba,aa,rfl,ae,ab⟩:=br
  have ax:=a2 w g.m l b cap vs bd ba aa hps.2.1 (fun a ha j u hj=> ⟨(ae a ha j u hj).1,(h.inv.it _ _ (ae a ha j u hj).2).1⟩)
  refine .inr (.inr ⟨f,_,w,hen fn bl bp bv,Calls.mono ax ?_⟩)
  rintro e' w' ⟨⟨r,rfl⟩,au,b3,aj,al,af⟩
  simp only at au aj al af
  refine ⟨r,rfl,g,?_⟩
  have ak:∀ c,(∃ a j,b=some a/\j < vs.length/\c=a.add j)->g.tag c=some (.tok t):=by
   rintro c ⟨a,j,ha,hj,rfl⟩
   exact (ae a ha j _ (Q0 hj)).2
  have d:∀ c,c.block < w.heap.size->g.tag c≠some (.tok t)->w'.cell? c=w.cell? c:=fun c a1 hc=> al.cell c a1 fun hs=> hc (ak c hs)
  have bb:∀ c v,g.m c=some v->w'.cell? c=some v:=fun c v hv=> by
   obtain ⟨h7,h8⟩:=h.inv.im c v hv
   rw [d c (h.inv.lt' hv) (by rw [h8];exact fun e=> by cases e)]
   exact h7
  have ar:Zn st ({ ls:=[(t,⟨T,F l,0⟩)] }:Eff U)=st.dead:=by funext t;simp [Zn]
  refine ⟨⟨fun c v hv=> ⟨bb c v hv,(h.inv.im c v hv).2⟩,fun c t0 am=> ?_⟩,?_,by rw [ar];exact .refl _ _ _,?_,trivial,?_,?_⟩
  .obtain ⟨h7,u',h8⟩:=h.inv.it c t0 am
   exact ⟨(al.frozen c (h.inv.lt am)).trans h7,al.some c u' h8⟩
  .exact h.fr.step h.inv al (fun c hc=> ⟨_,ak c hc,fun t' e=> by cases e⟩) (fun _ _ h=> h) (fun _ _=> QN) (fun _ _ _ _ _=> rfl) (fun _=> rfl)
  .rw [ar]
   intro nm bq hm j c hj
   obtain ⟨v0,bw,az,bo⟩:=h.mem nm bq hm j c hj
   exact ⟨v0,by rw [d _ (h.inv.lt az) (by rw [az];exact fun e=> by cases e)];exact bw,az,bo⟩
  .intro t1 z hz
   rw [ar]
   unfold Z06 at hz
   simp only [Xh,cond_false,Zt] at hz
   split at hz
   .rename_i et
    subst et
    cases hz
    refine ⟨a7,?_⟩
    cases b with
    | none=>
     obtain ⟨rfl,rfl⟩:=ba rfl
     exact .inl ⟨aw,Q1 au,rfl⟩
    | some b=>
     refine .inr ⟨b,l.length,cap,aw,au,aa,X6 _,fun i q hq j c hc=> ?_,fun j h1 h2=> ab b rfl j h1 h2⟩
     obtain ⟨u,g1,g2⟩:=aj.2 i q hq j c hc
     have g3:=af b rfl _ _ g1
     refine ⟨u,g3,g2,fun hi=> absurd hi (XT _),fun _=> ?_⟩
     have a1:i*cfg.sz T+j < vs.length:=by
      have:=(Q4.1 g1).1
      rw [aj.1,au] at this
      rw [bd.1];exact this
     exact (ae b rfl _ _ (Q0 a1)).2
   .obtain ⟨h7,h8⟩:=h.ls t1 z hz
    rename_i bj
    exact ⟨h7,h8.keep (.refl g st.dead (fun _=> true)) h7 bb (fun c am=> d c (h.inv.lt am) (by rw [am];exact fun e=> by cases e;exact bj rfl))⟩
  .rw [ar]
   intro t1 h0 h7 h8
   unfold Z06 at h7
   simp only [Xh,cond_false,Zt] at h7
   split at h7
   .cases h7
   .exact h.fresh t1 h0 h7 h8
 | [],hargs=> exact absurd hargs.1 (by simp)
 | [_],hargs=> exact absurd hargs.1 (by simp)
 | _ ::_ ::_ ::_,hargs=> exact absurd hargs.1 (by simp)
theorem Z1V{o:Oper}{c:Call}{gx:Operand}{f:FuncId}(ho:o.op= .call c)(hc:c.callee= .value gx){first caps:List Value}(hg:a.eval gx= .func (.func f) first.toArray caps.toArray):
  ∀ fn, P.funcs[f]? = some fn → fn.body.isSome = true → (fn.name == "runtime.NumGoroutine") = false → (execOp a.eval o).run P w = .ok (.enter f (first ++ c.args.toList.map a.eval ++ caps).toArray) w := by
 intro fn d h2 h3
 simp only [execOp,ho,resolve,hc,hg,Deferred.ofValue,Sem.run_bind,Sem.run_pure,Result.andThen_ok,invoke]
 rw [Zh8 d h2 h3]
 congr 2
 apply QM
 simp
theorem Z9k{dead:Tok->Bool}{live:Name->Bool}:∀ {vs:List Value} {us:List (V U)},vs.mapM Z08=some us->vs.length=us.length/\∀ (j:Nat) v x,vs[j]?=some v->us[j]?=some x->RelV cfg g dead live v x
 | [],us,h=> by simp at h;subst h;exact ⟨rfl,fun j v x hv=> by simp at hv⟩
 | v ::vs,us,h=> by
  rw [QP] at h
  cases h1:Z08 (U:=U) v with
  | none=> simp [h1] at h
  | some x=>
   cases h2:vs.mapM (Z08 (U:=U)) with
   | none=> simp [h1,h2] at h
   | some xs=>
    simp [h1,h2] at h
    subst h
    obtain ⟨h3,h4⟩:=Z9k (dead:=dead) (live:=live) h2
    refine ⟨by simp [h3],fun j u y d hy=> ?_⟩
    cases j with
    | zero=> simp at d hy;subst d hy;exact Z22 h1
    | succ j=> exact h4 j u y (by simpa using d) (by simpa using hy)
end Go.AM
