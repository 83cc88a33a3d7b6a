import Derived.Test.YtfapacabjkhepaaGreatWmQ
set_option linter.unusedSimpArgs false
set_option linter.unusedVariables false
namespace Go.AM
variable {U:Uni} {P:Program} {cfg:Cfg U} {B:Base} {st:FSt U} {g:Gh} {a:Act} {w:World}
def ZW:Tok->Bool:=fun _=> false
def Zau(X:List (List (C U))):Name->Bool
 | .x k=> (X[k]?).isSome
 | .loc _=> false
structure Entry (cfg:Cfg U) (w:World) (g:Gh) (vs:List Value) (args:List (V U)) (X:List (List (C U))) (L:List (Tok × LC U)):Prop where
 inv:Inv g.m g.tag w
 tags:∀ a t,g.tag a=some t->(∃ t',t= .outer t')\/(∃ k,t= .obj (.x k))\/∃ u,t= .tok u
 len:vs.length=args.length
 args:∀ (j:Nat) v x,vs[j]?=some v->args[j]?=some x->RelV cfg g ZW (Zau X) v x
 x:∀ (k:Nat) cs,X[k]?=some cs->∀ (j:Nat) c,cs[j]?=some c->∃ v,w.cell? ((g.ad (.x k)).add j)=some v/\g.tag ((g.ad (.x k)).add j)=some (.obj (.x k))/\RelC cfg g ZW v c
 bs:∀ t,t.isR=true->g.bs t=none
 ls:∀ t x,ZC (fun _=> none) L t=some x->LRel cfg w g t x
structure Leave (cfg:Cfg U) (w:World) (g:Gh) (w':World) (g':Gh) (v:Value) (r:V U) (X:List (List (C U))) (L:List (Tok × LC U)):Prop where
 inv:Inv g'.m g'.tag w'
 fr:Fr ⟨w,g.m,g.tag,fun k=> g'.ad (.x k)⟩ g' w'
 tags:∀ a t,g'.tag a=some t->(∃ t',t= .outer t')\/(∃ k,k < X.length/\t= .obj (.x k))\/∃ u,t= .tok u
 ad:∀ k,r≠.ptr (.x k) 0->g'.ad (.x k)=g.ad (.x k)
 val:RelV cfg g' ZW (fun _=> false) v r
 x:∀ (k:Nat) cs,X[k]?=some cs->∀ (j:Nat) c,cs[j]?=some c->∃ v,w'.cell? ((g'.ad (.x k)).add j)=some v/\g'.tag ((g'.ad (.x k)).add j)=some (.obj (.x k))/\RelC cfg g' ZW v c
 ls:∀ t x,ZC (fun _=> none) L t=some x->LRel cfg w' g' t x
def Contract(P:Program)(cfg:Cfg U)(f:FuncId)(s:Fs U):Prop:=
 (∃ fn, P.funcs[f]? = some fn ∧ fn.body.isSome = true ∧ (fn.name == "runtime.NumGoroutine") = false) ∧
 ∀ args X L ps r X' L',s.fn2 args X L=some (ps,r,X',L')->All ps->X'.length<=X.length+1->∀ w g vs,Entry cfg w g vs args X L->
  Calls P f vs.toArray w fun e w'=> ∃ v g',e= .returned v/\Leave cfg w g w' g' v r X' L'
def Zxu(P:Program)(cfg:Cfg U)(f:FuncId)(s:Fs U):Prop:=
 ∀ args X ps r X',s.fn args X=some (ps,r,X')->All ps->X'.length<=X.length+1->∀ w g vs,Entry cfg w g vs args X []->
  Calls P f vs.toArray w fun e w'=> ∃ v g',e= .returned v/\Leave cfg w g w' g' v r X' []
theorem Z3P {f : FuncId} {s : Fs U} (h0 : ∃ fn, P.funcs[f]? = some fn ∧ fn.body.isSome = true ∧ (fn.name == "runtime.NumGoroutine") = false) (hd : s.fn2 = Zgs s.fn) (h : Zxu P cfg f s) : Contract P cfg f s := by
 refine ⟨h0,fun args X L ps r X' L' hs=> ?_⟩
 rw [hd] at hs
 unfold Zgs at hs
 split at hs
 .split at hs
  .rename_i h1
   cases hs
   exact h args X _ _ _ h1
  .cases hs
 .cases hs
theorem Contract.one{f:FuncId}{s:Fs U}(h:Contract P cfg f s)(hd:s.fn2=Zgs s.fn):Zxu P cfg f s:=by
 intro args X ps r X' hs
 exact h.2 args X [] ps r X' [] (by rw [hd];simp only [Zgs,hs])
theorem SimC.tl{m:Addr->Option Value}{v:Value}{T:U.Ty}{l:List (U.El T)}{tl:Tail}(tl':Tail)(h:SimC cfg m v (.slice T l tl)):SimC cfg m v (.slice T l tl'):=by
 cases h with
 | snil=> exact .snil T tl'
 | slice _ _ _ b len cap vs hl hc hm hs=> exact .slice T l tl' b len cap vs hl hc hm hs
def Ext(s s':List (Tok × Tok)):Prop:=(∀ t t':Tok,YT s t=some t'->YT s' t=some t')/\∀ t t':Tok,Z18 s t=some t'->Z18 s' t=some t'
theorem Ext.refl(s:List (Tok × Tok)):Ext s s:=⟨fun _ _ h=> h,fun _ _ h=> h⟩
theorem Ext.trans{a b c:List (Tok × Tok)}(h:Ext a b)(k:Ext b c):Ext a c:=⟨fun t t' ht=> k.1 _ _ (h.1 _ _ ht),fun t t' ht=> k.2 _ _ (h.2 _ _ ht)⟩
theorem Ext.cons{seen:List (Tok × Tok)}{t nm:Tok}(h1:YT seen t=none)(h2:Z18 seen nm=none):Ext seen ((t,nm) ::seen):=by
 refine ⟨fun u u' hu=> ?_,fun u u' hu=> ?_⟩
 .simp only [YT]
  grind
 .simp only [Z18]
  grind
theorem ZfR:∀ {s:List (Tok × Tok)} {t t':Tok},YT s t=some t'->(s.map (·.1)).contains t=true
 | (x,y) ::r,t,t',h=> by
  simp only [YT] at h
  split at h
  .grind
  .have:=ZfR h
   grind
def Zi1(g:Gh)(s:List (Tok × Tok))(t:Tok):Option (Value × Nat):=
 match Z18 s t with
 | none=> none
 | some u=> g.bs u
def Gh.callee(g:Gh)(nx:Name->Option Nat)(s:List (Tok × Tok))(ax:Nat->Addr):Gh:=
 {m:=g.m
  tag:=fun c=> match g.tag c with
   | some (.obj nm)=> match nx nm with
    | some k=> some (.obj (.x k))
    | none=> some (.outer (.obj nm))
   | some (.tok t)=> match YT s t with
    | some t'=> some (.tok t')
    | none=> some (.outer (.tok t))
   | some (.outer t)=> some (.outer (.outer t))
   | none=> none
  ad:=fun nm=> match nm with
   | .x k=> ax k
   | .loc s=> g.ad (.loc s)
  bs:=fun t=> if t.isR=true then none else Zi1 g s t }
theorem Z0W{m:Tok->Option (LC U)}{s:List (Tok × Tok)}:∀ (l:List Tok) {t:Tok} {x:LC U},ZC (fun _=> none) (Z0l m s l) t=some x->∃ u,Z18 s t=some u/\YT s u=some t/\m u=some x/\t.isR=false
 | [],t,x,h=> by trivial
 | t0 ::l,t,x,h=> by
  simp only [Z0l] at h
  split at h
  .rename_i u hu
   split at h
   .rename_i t' y h1 h2
    split at h
    .rename_i hc
     obtain ⟨hc1,hc2⟩:=hc
     subst hc1
     simp only [ZC] at h
     split at h
     .grind
     .exact Z0W l h
    .exact Z0W l h
   .exact Z0W l h
  .exact Z0W l h
section pass
variable {nx:Name->Option Nat} {ax:Nat->Addr}
structure Ren (ok:Tok->Bool) (g:Gh) (s:List (Tok × Tok)) (g2:Gh):Prop where
 m:g2.m=g.m
 tok:∀ c t t',g.tag c=some (.tok t)->YT s t=some t'->g2.tag c=some (.tok t')
 bs:∀ t t' v,ok t=true->Z18 s t=some t'->g.bs t'=some v->g2.bs t=some v
def Z3p(t:Tok):Bool:= !t.isR
theorem Gh.callee_ren(s:List (Tok × Tok)):Ren Z3p g s (g.callee nx s ax):=
 ⟨rfl,fun c t t' h1 h2=> by simp only [Gh.callee,h1,h2],fun t t' v h1 h2 h3=> by
  simp only [Z3p,QY] at h1
  simp only [Gh.callee,h1,Zi1,h2]
  exact h3⟩
theorem Z8W{okT mine:Tok->Bool}{nm:Tok}{c:C U}{seen:List (Tok × Tok)}(hmine:∀ t,mine t=true->st.dead t=false)(hok:okT nm=true):
  Ext seen (Z0j mine nm c seen).2/\∀ s',Ext (Z0j mine nm c seen).2 s'->∀ g2,Ren okT g s' g2->∀ v,RelC cfg g st.dead v c->RelC cfg g2 ZW v (Z0j mine nm c seen).1:=by
 unfold Z0j
 split
 .rename_i T l t
  split
  .rename_i hc
   simp only [Q2,QG] at hc
   refine ⟨Ext.cons hc.1.2 hc.2,fun s' hs g2 hg v hr=> ⟨by rw [hg.m];exact hr.1.tl _,?_⟩⟩
   intro _ b len cap hv j h1 h2
   have h3:=hr.2 (hmine t hc.1.1) b len cap hv j h1 h2
   have h4:YT s' t=some nm:=hs.1 t nm (by simp [YT])
   exact hg.tok _ _ _ h3 h4
  .exact ⟨.refl _,fun s' _ g2 hg v hr=> ⟨by rw [hg.m];exact hr.1.tl _,trivial⟩⟩
 .rename_i t
  split
  .rename_i hc
   simp only [Q2,QG] at hc
   refine ⟨Ext.cons hc.1.2 hc.2,fun s' hs g2 hg v hr=> ⟨.mref _ _ hr.1.one,fun _=> ?_⟩⟩
   obtain ⟨sz,h3⟩:=hr.2 (hmine t hc.1.1)
   have h4:Z18 s' nm=some t:=hs.2 nm t (by simp [Z18])
   exact ⟨sz,hg.bs _ _ _ hok h4 h3⟩
  .exact ⟨.refl _,fun s' _ g2 hg v hr=> ⟨.jk _ hr.1.one,trivial⟩⟩
 .exact ⟨.refl _,fun s' _ g2 hg v hr=> ⟨.jk _ hr.1.one,trivial⟩⟩
 .rename_i hno hno2 hno3
  refine ⟨.refl _,fun s' _ g2 hg v hr=> ⟨by rw [hg.m];exact hr.1,?_⟩⟩
  have h2:=hr.2
  cases c with
  | slice T l tl=>
   cases tl with
   | unk=> trivial
   | full=> exact h2
   | own t=> grind
  | mref t=> grind
  | xp k=> grind
  | _=> trivial
theorem Z7h{okT mine:Tok->Bool}{nm:Nat->Tok}(hmine:∀ t,mine t=true->st.dead t=false)(hok:∀ j,okT (nm j)=true):∀ (cs:List (C U)) (j:Nat) (seen:List (Tok × Tok)),
  Ext seen (J6 mine nm j cs seen).2/\(J6 mine nm j cs seen).1.length=cs.length/\
   ∀ s',Ext (J6 mine nm j cs seen).2 s'->∀ g2,Ren okT g s' g2->∀ (i:Nat) v c c',cs[i]?=some c->(J6 mine nm j cs seen).1[i]?=some c'->RelC cfg g st.dead v c->RelC cfg g2 ZW v c'
 | [],j,seen=> ⟨.refl _,rfl,fun s' _ g2 _ i v c c' hc=> by simp at hc⟩
 | c ::cs,j,seen=> by
  obtain ⟨h1,h2⟩:=Z8W (cfg:=cfg) (g:=g) (okT:=okT) (nm:=nm j) (c:=c) (seen:=seen) hmine (hok j)
  obtain ⟨h3,h4,h5⟩:=Z7h (okT:=okT) (mine:=mine) (nm:=nm) hmine hok cs (j+1) (Z0j mine (nm j) c seen).2
  refine ⟨h1.trans h3,by simp [J6,h4],fun s' hs g2 hg i v c0 c' hc hc' hr=> ?_⟩
  cases i with
  | zero=>
   simp [J6] at hc hc'
   subst hc hc'
   exact h2 s' (h3.trans hs) g2 hg v hr
  | succ i=>
   simp [J6] at hc hc'
   exact h5 s' hs g2 hg i v c0 c' hc hc' hr
theorem Zrz{mine:Tok->Bool}{nm:Tok}{c:C U}{seen:List (Tok × Tok)}(hmine:∀ t,mine t=true->st.dead t=false)(hok:Z3p nm=true):
  Ext seen (Z0j mine nm c seen).2/\∀ s',Ext (Z0j mine nm c seen).2 s'->∀ v,RelC cfg g st.dead v c->RelC cfg (g.callee nx s' ax) ZW v (Z0j mine nm c seen).1:=
 let ⟨h1,h2⟩:=Z8W (cfg:=cfg) (g:=g) (nm:=nm) (c:=c) (seen:=seen) hmine hok
 ⟨h1,fun s' hs v hr=> h2 s' hs _ (Gh.callee_ren s') v hr⟩
theorem ZkS{mine:Tok->Bool}{nm:Nat->Tok}(hmine:∀ t,mine t=true->st.dead t=false)(hok:∀ j,Z3p (nm j)=true)(cs:List (C U))(j:Nat)(seen:List (Tok × Tok)):
  Ext seen (J6 mine nm j cs seen).2/\(J6 mine nm j cs seen).1.length=cs.length/\
   ∀ s',Ext (J6 mine nm j cs seen).2 s'->∀ (i:Nat) v c c',cs[i]?=some c->(J6 mine nm j cs seen).1[i]?=some c'->RelC cfg g st.dead v c->RelC cfg (g.callee nx s' ax) ZW v c':=
 let ⟨h1,h2,h3⟩:=Z7h (cfg:=cfg) (g:=g) (mine:=mine) (nm:=nm) hmine hok cs j seen
 ⟨h1,h2,fun s' hs i v c c' hc hc' hr=> h3 s' hs _ (Gh.callee_ren s') i v c c' hc hc' hr⟩
theorem ZuJ{mine:Tok->Bool}{nm:Nat->Tok}{live lx:Name->Bool}(hmine:∀ t,mine t=true->st.dead t=false)(hok:∀ j,Z3p (nm j)=true){x x':V U}{seen seen':List (Tok × Tok)}(he:ZuK mine nm x seen=some (x',seen')):
  Ext seen seen'/\∀ s',Ext seen' s'->∀ v,RelV cfg g st.dead live v x->RelV cfg (g.callee nx s' ax) ZW lx v x':=by
 unfold ZuK at he
 split at he
 .rename_i c
  simp only [Option.some.injEq,Prod.mk.injEq] at he
  obtain ⟨rfl,rfl⟩:=he
  obtain ⟨h1,h2⟩:=Zrz (cfg:=cfg) (g:=g) (nx:=nx) (ax:=ax) (nm:=nm 0) (c:=c) (seen:=seen) hmine (hok 0)
  trivial
 .rename_i cs
  simp only [Option.some.injEq,Prod.mk.injEq] at he
  obtain ⟨rfl,rfl⟩:=he
  obtain ⟨h3,h4,h5⟩:=ZkS (cfg:=cfg) (g:=g) (nx:=nx) (ax:=ax) (mine:=mine) (nm:=nm) hmine hok cs 0 seen
  refine ⟨h3,fun s' hs v hr=> ?_⟩
  obtain ⟨vs,rfl,hl,hh⟩:=hr
  refine ⟨vs,rfl,YL,fun j u c hu hc=> ?_⟩
  grind
 .rename_i f
  simp only [Option.some.injEq,Prod.mk.injEq] at he
  obtain ⟨rfl,rfl⟩:=he
  exact ⟨.refl _,fun s' _ v hr=> hr⟩
 .cases he
def Zr8(os:List (Name × List (C U))):Prop:=∀ (i j:Nat) x y,os[i]?=some x->os[j]?=some y->x.1=y.1->i=j
theorem Z6I:∀ {os:List (Name × List (C U))} {nm:Name} {i:Nat} {x:Name × List (C U)},os[i]?=some x->x.1=nm->Zbf os nm=true
 | (b,cs) ::os,nm,0,x,h,e=> by simp at h;subst h;simp [Zbf];exact .inl e
 | (b,cs) ::os,nm,i+1,x,h,e=> by
  simp at h
  simp only [Zbf,Z6I h e]
  split <;> rfl
theorem Z6s:∀ {os:List (Name × List (C U))} {k:Nat} {nm:Name} {i:Nat},Z04 os k nm=some i->∃ x,k<=i/\os[i - k]?=some x/\x.1=nm
 | (b,cs) ::os,k,nm,i,h=> by
  simp only [Z04] at h
  split at h
  .simp_all
  .obtain ⟨x,h1,h2,h3⟩:=Z6s h
   grind
theorem ZhA:∀ {os:List (Name × List (C U))} {k:Nat} {nm:Name} {i:Nat} {x:Name × List (C U)},Zr8 os->os[i]?=some x->x.1=nm->Z04 os k nm=some (k+i)
 | (b,cs) ::os,k,nm,0,x,_,h,e=> by simp at h;subst h;simp [Z04];grind
 | (b,cs) ::os,k,nm,i+1,x,hap,h,e=> by
  simp only [Z04]
  rw [if_neg (fun e'=> by have:=hap 0 (i+1) (b,cs) x rfl h (by simp [e',e]);omega)]
  have:=ZhA (k:=k+1) (nm:=nm) (fun i j x y hx hy he=> by have:=hap (i+1) (j+1) x y (by simpa using hx) (by simpa using hy) he;omega) (by simpa using h) e
  grind
theorem Zl3{os:List (Name × List (C U))}{nm:Name}(h:∀ (i:Nat) x,os[i]?=some x->x.1≠nm)(k:Nat):Z04 os k nm=none:=by
 cases hn:Z04 os k nm with
 | none=> rfl
 | some i=>
  obtain ⟨x,_,h2,h3⟩:=Z6s hn
  grind
theorem Z6m{ps:Nat->Bool}:∀ (xs:List (V U)) (i:Nat) (os:List (Name × List (C U))) (seen:List (Tok × Tok)) (ys:List (V U)) (os':List (Name × List (C U))) (seen':List (Tok × Tok)),
  YN st ps i xs os seen=some (ys,os',seen')->Zr8 os->
  Ext seen seen'/\(∃ more,os'=os++more)/\Zr8 os'/\ys.length=xs.length/\
  (∀ (k:Nat) x,os'[k]?=some x->os.length<=k->∃ cs,st.mem x.1=some cs/\x.2.length=cs.length/\
   ∀ s',Ext seen' s'->∀ nx ax (i:Nat) v c c',cs[i]?=some c->x.2[i]?=some c'->RelC cfg g st.dead v c->RelC cfg (g.callee nx s' ax) ZW v c')/\
  (∀ s',Ext seen' s'->∀ nx ax,(∀ (k:Nat) x,os'[k]?=some x->ax k=g.ad x.1)->∀ (j:Nat) v x y,xs[j]?=some x->ys[j]?=some y->RelV cfg g st.dead (fun nm=> (st.mem nm).isSome) v x->
   RelV cfg (g.callee nx s' ax) ZW (fun nm=> match nm with | .x k=> (os'[k]?).isSome | .loc _=> false) v y)
 | [],i,os,seen,ys,os',seen',h,hap=> by
  simp only [YN,Option.some.injEq,Prod.mk.injEq] at h
  obtain ⟨rfl,rfl,rfl⟩:=h
  exact ⟨.refl _,⟨[],by simp⟩,hap,rfl,fun k x hx hk=> by grind,fun s' _ nx ax _ j v x y hx=> by simp at hx⟩
 | x0 ::xs,i,os,seen,ys,os',seen',h,hap=> by
  simp only [YN] at h
  split at h
  .rename_i nm mk hp
   split at h
   .cases h
   .rename_i cs hcs
    split at h
    .cases h
    .rename_i hno
     split at h
     .rename_i vs os1 s1 hrec
      simp only [Option.some.injEq,Prod.mk.injEq] at h
      obtain ⟨rfl,rfl,rfl⟩:=h
      have hmine:∀ t,(fun t=> !st.dead t) t=true->st.dead t=false:=fun t ht=> by simpa using ht
      have hap1:Zr8 (os++[(nm,(J6 (fun t=> !st.dead t) (.x os.length) 0 cs seen).1)]):=by
       intro p q x y hx hy he
       rw [QD] at hx hy
       have single:∀ (r:Nat) (z z0:Name × List (C U)),[z0][r]?=some z->r=0/\z=z0:=by
        intro r z z0 hz
        cases r with
        | zero=> simp at hz;exact ⟨rfl,hz.symm⟩
        | succ r=> simp at hz
       split at hx <;> split at hy
       .exact hap p q x y hx hy he
       .obtain ⟨_,rfl⟩:=single _ _ _ hy
        exact absurd (Z6I hx he) hno
       .obtain ⟨_,rfl⟩:=single _ _ _ hx
        exact absurd (Z6I hy he.symm) hno
       .grind
      obtain ⟨r1,⟨more,r2⟩,r3,r4,r5,r6⟩:=Z6m xs (i+1) _ _ _ _ _ hrec hap1
      have hC:=fun nx ax=> ZkS (cfg:=cfg) (g:=g) (nx:=nx) (ax:=ax) (mine:=fun t=> !st.dead t) (nm:= .x os.length) hmine (fun _=> rfl) cs 0 seen
      have hat:os1[os.length]?=some (nm,(J6 (fun t=> !st.dead t) (.x os.length) 0 cs seen).1):=by
       rw [r2,Qb,Qx (Q8 _)];simp
      refine ⟨(hC (fun _=> none) (fun _=> ⟨0,0,none⟩)).1.trans r1,⟨(nm,(J6 (fun t=> !st.dead t) (.x os.length) 0 cs seen).1) ::more,by rw [r2];simp⟩,r3,by simp [r4],?_,?_⟩
      .intro k x hx hk
       by_cases e:k=os.length
       .subst e
        rw [hat] at hx
        cases hx
        exact ⟨cs,hcs,(hC (fun _=> none) (fun _=> ⟨0,0,none⟩)).2.1,fun s' hs nx ax q v c c' h1 h2 h3=> (hC nx ax).2.2 s' (r1.trans hs) q v c c' h1 h2 h3⟩
       .exact r5 k x hx (by simp;omega)
      .intro s' hs nx ax hax j v x y hx hy hr
       cases j with
       | zero=>
        simp at hx hy
        subst hx hy
        have:=hax _ _ hat
        simp only at this
        cases x0 <;> simp only [Zry,reduceCtorEq] at hp
        case ptr nm0 off0=>
         cases hp
         obtain ⟨_,rfl⟩:=hr
         exact ⟨by simp [hat],by simp [Gh.callee,this]⟩
        case clo f0 nms0=>
         split at hp
         .grind
         .rename_i f1 nm1 heq
          cases heq
          cases hp
          obtain ⟨_,rfl⟩:=hr
          refine ⟨fun n hn=> ?_,by simp [Gh.callee,this]⟩
          grind
         .cases hp
       | succ j=> exact r6 s' hs nx ax hax j v x y (by simpa using hx) (by simpa using hy) hr
     .cases h
  .rename_i hp
   split at h
   .cases h
   .rename_i v' seen1 hv
    split at h
    .rename_i vs os1 s1 hrec
     simp only [Option.some.injEq,Prod.mk.injEq] at h
     obtain ⟨rfl,rfl,rfl⟩:=h
     obtain ⟨r1,r2,r3,r4,r5,r6⟩:=Z6m xs (i+1) _ _ _ _ _ hrec hap
     have hmine:∀ t,(fun t=> ps i && !st.dead t) t=true->st.dead t=false:=fun t ht=> by grind
     have hV:=fun nx ax lx=> ZuJ (cfg:=cfg) (g:=g) (nx:=nx) (ax:=ax) (live:=fun nm=> (st.mem nm).isSome) (lx:=lx) hmine (fun _=> rfl) hv
     refine ⟨(hV (fun _=> none) (fun _=> ⟨0,0,none⟩) (fun _=> true)).1.trans r1,r2,r3,by simp [r4],r5,?_⟩
     intro s' hs nx ax hax j v x y hx hy hr
     cases j with
     | zero=>
      simp at hx hy
      subst hx hy
      exact (hV nx ax _).2 s' (r1.trans hs) v hr
     | succ j=> grind
    .cases h
end pass
def Gh.back(g':Gh)(os:List (Name × List (C U)))(d:Nat)(ad:Name->Addr)(L:List (Tok × LC U))(bs:Tok->Option (Value × Nat)):Gh:=
 {m:=g'.m
  tag:=fun c=> match g'.tag c with
   | some (.outer t)=> some t
   | some (.obj (.x k))=> (os[k]?).map fun x=> .obj x.1
   | some (.tok t)=> (ZZ d t).map .tok
   | _=> none
  ad:=ad
  bs:=fun t=> match bs t with
   | some v=> some v
   | none=> match Z1q d t with
    | some t'=> match ZC (fun _=> none) L t' with
     | some _=> g'.bs t'
     | none=> none
    | none=> none }
theorem Z3s{d:Nat}{t t':Tok}(h:ZZ d t=some t'):Z1q d t'=some t:=by
 unfold ZZ at h
 split at h
 .rename_i j
  cases h
  simp only [Z1q,if_true]
  grind
 .rename_i k j
  split at h
  .rename_i hj
   cases h
   simp only [Z1q,if_true]
   grind
  .cases h
 .cases h
section back
variable {g':Gh} {os:List (Name × List (C U))} {d:Nat} {ad:Name->Addr} {L:List (Tok × LC U)} {bs:Tok->Option (Value × Nat)} {dead:Tok->Bool} {live lv:Name->Bool} {fx:Nat->Option Nat}
theorem RelC.back(hbs:∀ t t',Z0z d L t=some t'->bs t'=none)(hx:∀ k k',fx k=some k'->g'.ad (.x k)=ad (.x k')){v:Value}{c:C U}(h:RelC cfg g' ZW v c):RelC cfg (g'.back os d ad L bs) dead v (c.mapTok (ZZ d) (Z0z d L) fx):=by
 obtain ⟨h1,h2⟩:=h
 cases c with
 | slice T l tl=>
  cases tl with
  | unk=> trivial
  | full=> trivial
  | own t=>
   simp only [C.mapTok]
   cases hb:ZZ d t with
   | none=> exact ⟨h1.tl _,trivial⟩
   | some t'=>
    refine ⟨h1.tl _,fun _ b len cap hv j hj1 hj2=> ?_⟩
    have:=h2 rfl b len cap hv j hj1 hj2
    simp only [Gh.back,this,hb,Qf]
 | mref t=>
  simp only [C.mapTok]
  cases hb:Z0z d L t with
  | none=> exact ⟨.jk _ h1.one,trivial⟩
  | some t'=>
   refine ⟨.mref _ _ h1.one,fun _=> ?_⟩
   obtain ⟨sz,hs⟩:=h2 rfl
   refine ⟨sz,?_⟩
   have h0:=hbs t t' hb
   unfold Z0z at hb
   cases hL:ZC (fun _=> none) L t with
   | none=> grind
   | some x=>
    rw [hL] at hb
    simp only [Gh.back,h0,Z3s hb,hL,hs]
 | xp k=>
  simp only [C.mapTok]
  cases hk:fx k with
  | none=> exact ⟨.jk _ h1.one,trivial⟩
  | some k'=>
   refine ⟨.xp _ _ h1.one,?_⟩
   have h3:v= .pointer (some (g'.ad (.x k))):=h2
   show v= .pointer (some (ad (.x k')))
   grind
 | _=> trivial
theorem RelL.back(hbs:∀ t t',Z0z d L t=some t'->bs t'=none)(hx:∀ k k',fx k=some k'->g'.ad (.x k)=ad (.x k')){vs:List Value}{cs:List (C U)}(h:RelL cfg g' ZW vs cs):RelL cfg (g'.back os d ad L bs) dead vs (cs.map (C.mapTok (ZZ d) (Z0z d L) fx)):=by
 refine ⟨by simp [h.1],fun j v c hv hc=> ?_⟩
 rw [Qy] at hc
 cases hcj:cs[j]? with
 | none=> grind
 | some c0=>
  simp [hcj] at hc
  subst hc
  exact (h.2 j v c0 hv hcj).back hbs hx
theorem RelV.back(hbs:∀ t t',Z0z d L t=some t'->bs t'=none)(hx:∀ k k',fx k=some k'->g'.ad (.x k)=ad (.x k')){v:Value}:∀ {x:V U},RelV cfg g' ZW (fun _=> false) v x->RelV cfg (g'.back os d ad L bs) dead live v (x.mapTok (ZZ d) (Z0z d L) fx)
 | .c x,h=> RelC.back hbs hx (c:=x) h
 | .agg cs,h=> by obtain ⟨vs,h1,h2⟩:=h;exact ⟨vs,h1,h2.back hbs hx⟩
 | .tup ws,h=> by
  obtain ⟨vs,h1,h2,h3⟩:=h
  refine ⟨vs,h1,by simp [h2],fun j u w hu hw=> ?_⟩
  rw [Qy] at hw
  cases hj:ws[j]? with
  | none=> grind
  | some w0=>
   simp [hj] at hw
   subst hw
   have:=h3 j u w0 hu hj
   obtain ⟨ag,cs⟩:=w0
   cases ag with
   | true=> obtain ⟨vs,h4,h5⟩:=this;exact ⟨vs,h4,h5.back hbs hx⟩
   | false=> obtain ⟨c,h4,h5⟩:=this;simp only at h4;subst h4;exact ⟨_,rfl,h5.back hbs hx⟩
 | .ptr ..,_=> trivial
 | .ap ..,_=> trivial
 | .ep cs,h=> by
  obtain ⟨b,h1,h2⟩:=h
  refine ⟨b,h1,fun j c hc=> ?_⟩
  rw [Qy] at hc
  cases hcj:cs[j]? with
  | none=> grind
  | some c0=>
   simp [hcj] at hc
   subst hc
   obtain ⟨u,h3,h4⟩:=h2 j c0 hcj
   exact ⟨u,h3,h4.back hbs hx⟩
 | .fn f,h=> h
 | .mp ..,_=> trivial
 | .vw ..,_=> trivial
 | .clo ..,_=> trivial
 | .gd b x,h=> ⟨fun hb=> RelV.back hbs hx (h.1 hb),h.2⟩
 | .nb _ _,h=> h
 | .junk,_=> trivial
end back
theorem Zdf{d:Nat}:∀ {L l:List (Tok × LC U)},Z0I st d L=some l->
  (∀ t x,ZC (fun _=> none) L t=some x->∃ t',ZZ d t=some t'/\st.ls t'=none/\st.dead t'=false/\ZC st.ls l t'=some x)/\
  (∀ t' x,ZC st.ls l t'=some x->(st.ls t'=some x/\∀ t,ZZ d t=some t'->ZC (fun _=> none) L t=none)\/∃ t,ZC (fun _=> none) L t=some x/\ZZ d t=some t'/\st.dead t'=false)
 | [],l,h=> by
  simp only [Z0I,Option.some.injEq] at h
  subst h
  exact ⟨fun t x hx=> by trivial,fun t' x hx=> .inl ⟨hx,fun t _=> rfl⟩⟩
 | (t0,x0) ::L,l,h=> by
  simp only [Z0I] at h
  split at h
  case h_2=> cases h
  rename_i t1 l1 h1 h2
  split at h
  case isFalse=> cases h
  rename_i hc
  simp only [Q2,QG,QY] at hc
  simp only [Option.some.injEq] at h
  subst h
  obtain ⟨ih1,ih2⟩:=Zdf h2
  have inj:∀ {t:Tok},ZZ d t=some t1->t=t0:=by
   intro t ht
   have e1:=Z3s ht
   have e2:=Z3s h1
   rw [e1] at e2
   exact Option.some.inj e2
  refine ⟨fun t x hx=> ?_,fun t' x hx=> ?_⟩
  .simp only [ZC] at hx
   split at hx
   .rename_i e
    subst e
    cases hx
    exact ⟨t1,h1,hc.1,hc.2,by simp [ZC]⟩
   .rename_i e
    obtain ⟨t',g1,g2,g3,g4⟩:=ih1 t x hx
    refine ⟨t',g1,g2,g3,?_⟩
    simp only [ZC]
    grind
  .simp only [ZC] at hx
   split at hx
   .rename_i e
    subst e
    cases hx
    exact .inr ⟨t0,by simp [ZC],h1,hc.2⟩
   .rename_i e
    rcases ih2 t' x hx with ⟨g1,g2⟩ | ⟨t,g1,g2,g3⟩
    .refine .inl ⟨g1,fun t ht=> ?_⟩
     simp only [ZC]
     grind
    .refine .inr ⟨t,?_,g2,g3⟩
     simp only [ZC]
     grind
theorem Zap{d:Nat}{L:List (Tok × LC U)}{fx:Nat->Option Nat}:∀ {os:List (Name × List (C U))} {xs:List (List (C U))} {m:List (Name × List (C U))},Z7q d L fx os xs=some m->
  xs.length=os.length/\m.length=os.length/\∀ (k:Nat) x cs,os[k]?=some x->xs[k]?=some cs->m[k]?=some (x.1,cs.map (C.mapTok (ZZ d) (Z0z d L) fx))
 | [],[],m,h=> by simp only [Z7q,Option.some.injEq] at h;grind
 | (nm,_) ::os,cs0 ::xs,m,h=> by
  simp only [Z7q] at h
  cases hr:Z7q d L fx os xs with
  | none=> simp [hr] at h
  | some m'=>
   simp only [hr,Qf,Option.some.injEq] at h
   subst h
   obtain ⟨h1,h2,h3⟩:=Zap hr
   grind
theorem Z0d(m0:Name->Option (List (C U))):∀ (m:List (Name × List (C U))) (nm:Name),(∃ (k:Nat) (cs:List (C U)),m[k]?=some (nm,cs)/\ZL m0 m nm=some cs)\/((∀ (k:Nat) x,m[k]?=some x->x.1≠nm)/\ZL m0 m nm=m0 nm)
 | [],nm=> .inr ⟨fun k x hx=> by simp at hx,rfl⟩
 | (a,cs) ::r,nm=> by
  simp only [ZL]
  split
  .rename_i e
   subst e
   exact .inl ⟨0,cs,rfl,rfl⟩
  .rename_i e
   rcases Z0d m0 r nm with ⟨k,cs',h1,h2⟩ | ⟨h1,h2⟩
   .exact .inl ⟨k+1,cs',by simpa using h1,h2⟩
   grind
theorem ZhE{xs:List Operand}{vs:List (V U)}(hm:xs.mapM st.opnd=some vs)(hop:∀ x∈xs,∀ v,st.opnd x=some v->RelV cfg g st.dead (fun nm=> (st.mem nm).isSome) (a.eval x) v):
  (xs.map a.eval).length=vs.length/\∀ (j:Nat) u x,(xs.map a.eval)[j]?=some u->vs[j]?=some x->RelV cfg g st.dead (fun nm=> (st.mem nm).isSome) u x:=by
 have hlen:∀ {xs:List Operand} {vs:List (V U)},xs.mapM st.opnd=some vs->xs.length=vs.length:=by
  intro xs
  induction xs with
  | nil=> grind
  | cons y xs ih=>
   intro vs h
   rw [X2] at h
   cases h1:st.opnd y with
   | none=> simp [h1] at h
   | some v=>
    cases h2:xs.mapM st.opnd with
    | none=> grind
    | some r=>
     simp [h1,h2] at h
     grind
 refine ⟨by simp [hlen hm],fun j u x hu hx=> ?_⟩
 rw [Qy] at hu
 cases hj:xs[j]? with
 | none=> grind
 | some y=>
  simp [hj] at hu
  subst hu
  obtain ⟨v,h1,h2⟩:=Z6x hm j y hj
  grind
theorem ZlC(os:List (Name × List (C U))):∀ (cs0 cs:List (C U)),cs.length=cs0.length->(ZlD os cs0 cs).length=cs.length
 | [],cs,h=> by rfl
 | c0 ::cs0,[],h=> by cases h
 | c0 ::cs0,c ::cs,h=> by
  have ih:=ZlC os cs0 cs (by simpa using h)
  cases c0 <;> simp [ZlD,ih]
theorem ZhT(os:List (Name × List (C U))):∀ (cs0 cs:List (C U)) (j:Nat) (c0 c:C U),cs.length=cs0.length->cs0[j]?=some c0->(ZlD os cs0 cs)[j]?=some c->
  cs[j]?=some c\/∃ k k',c0= .xp k/\Z04 os 0 (.x k)=some k'/\c= .xp k'
 | [],cs,j,c0,c,_,h,_=> by simp at h
 | d0 ::cs0,[],j,c0,c,hl,_,_=> by cases hl
 | d0 ::cs0,d ::cs,0,c0,c,hl,h0,h=> by
  simp at h0
  subst h0
  cases d0 with
  | xp k=>
   simp only [ZlD] at h
   grind
  | _=> exact .inl (by trivial)
 | d0 ::cs0,d ::cs,j+1,c0,c,hl,h0,h=> by
  have ih:=ZhT os cs0 cs j c0 c (by simpa using hl) (by simpa using h0)
  cases d0 <;> (simp only [ZlD,List.getElem?_cons_succ] at h ⊢;exact ih h)
theorem Zgy {Γ:Known U} (hΓ:∀ f s,Γ f=some s->Contract P cfg f s) (h:Rel cfg B st g a w) {o:Oper} {c:Call} {gx:Operand} {f:FuncId} {args:List (V U)} {ps:List Prop} {e:Eff U} {d:Nat}
  (ho:o.op= .call c) (hc:c.callee= .value gx) {caps:List Value} (hg:a.eval gx= .func (.func f) #[] caps.toArray)
  (hargs:(c.args.toList.map a.eval++caps).length=args.length/\∀ (j:Nat) u x,(c.args.toList.map a.eval++caps)[j]?=some u->args[j]?=some x->RelV cfg g st.dead (fun nm=> (st.mem nm).isSome) u x)
  (he:Z8w Γ st d f args=some (ps,e)) (hps:All ps):
  Does P o a w fun v w'=> ∃ g',Out cfg B st g e v w' g':=by
 unfold Z8w at he
 split at he
 .cases he
 rename_i s hs
 split at he
 .cases he
 rename_i ys os toks hpass
 split at he
 .cases he
 rename_i ps' r xs L0 hfn
 rw [cond_eq_ite] at he
 split at he
 .cases he
 rename_i hnp
 have hnp:∀ k,r≠.ptr (.x k) 0:=fun k e=> hnp (by rw [e];rfl)
 split at he
 case h_2=> cases he
 rename_i m ll hmb hlb
 simp only [Option.some.injEq,Prod.mk.injEq] at he
 obtain ⟨rfl,rfl⟩:=he
 obtain ⟨q1,q2⟩:=Zdf hlb
 obtain ⟨⟨fn,hf1,hf2,hf3⟩,hcon⟩:=hΓ f s hs
 obtain ⟨p1,_,p3,p4,p5,p6⟩:=Z6m (cfg:=cfg) (g:=g) _ _ _ _ _ _ _ hpass (fun i j x y hx=> by simp at hx)
 obtain ⟨b1,b2,b3⟩:=Zap hmb
 let ax:Nat->Addr:=fun k=> ((os[k]?).map fun x=> g.ad x.1).getD ⟨0,0,none⟩
 have hax:∀ (k:Nat) x,os[k]?=some x->ax k=g.ad x.1:=fun k x hx=> by simp [ax,hx]
 let gc:=g.callee (Z04 os 0) toks ax
 let XS:=os.map fun x=> Zs9 st os (x.2,x.1)
 have htag:∀ c t,gc.tag c=some (.outer t)↔(g.tag c=some t/\(∀ nm,t= .obj nm->Z04 os 0 nm=none)/\(∀ u,t= .tok u->YT toks u=none)):=by
  intro c t
  simp only [gc,Gh.callee]
  cases hgt:g.tag c with
  | none=> simp
  | some t0=>
   cases t0 with
   | obj nm=>
    cases hn:Z04 os 0 nm with
    | none=>
     simp only [hn]
     constructor
     .intro h;cases h;exact ⟨rfl,fun nm' e=> by cases e;exact hn,fun u e=> by cases e⟩
     .rintro ⟨h1,_,_⟩;cases h1;rfl
    | some k=>
     simp only [hn]
     constructor
     .intro h;cases h
     .rintro ⟨h1,h2,_⟩;cases h1;rw [h2 nm rfl] at hn;cases hn
   | tok u=>
    cases hn:YT toks u with
    | none=>
     simp only [hn]
     constructor
     .intro h;cases h;exact ⟨rfl,fun nm' e=> by (cases e),fun u' e=> by cases e;exact hn⟩
     .rintro ⟨h1,_,_⟩;cases h1;rfl
    | some k=>
     simp only [hn]
     constructor
     .intro h;cases h
     .rintro ⟨h1,_,h2⟩;cases h1;rw [h2 u rfl] at hn;cases hn
   | outer t0=>
    simp only
    constructor
    .intro h;cases h;exact ⟨rfl,fun nm' e=> by (cases e),fun u' e=> by (cases e)⟩
    .rintro ⟨h1,_,_⟩;cases h1;rfl
 have hsome:∀ c t,gc.tag c=some t->∃ t0,g.tag c=some t0:=by
  intro c t ht
  simp only [gc,Gh.callee] at ht
  cases hgt:g.tag c with
  | none=> simp [hgt] at ht
  | some t0=> exact ⟨t0,rfl⟩
 have hnone:∀ c,g.tag c=none->gc.tag c=none:=by
  intro c hc
  simp only [gc,Gh.callee,hc]
 have hentry:Entry cfg w gc (c.args.toList.map a.eval++caps) (ys.take args.length) XS (bif s.wr then Z0l st.ls toks (toks.map (·.2)) else []):=by
  refine ⟨⟨fun c v hv=> ?_,fun c t ht=> ?_⟩,fun c t ht=> ?_,by rw [hargs.1,Qn,p4,Qd];omega,fun j v x hv hx=> ?_,fun k cs hk j c hj=> ?_,fun t ht=> (by simp only [gc,Gh.callee,ht,if_true]),fun t x hx=> ?_⟩
  .obtain ⟨h1,h2⟩:=h.inv.im c v hv
   exact ⟨h1,hnone c h2⟩
  .obtain ⟨t0,ht0⟩:=hsome c t ht
   exact h.inv.it c t0 ht0
  .simp only [gc,Gh.callee] at ht
   split at ht
   .split at ht
    .cases ht;exact .inr (.inl ⟨_,rfl⟩)
    .cases ht;exact .inl ⟨_,rfl⟩
   .split at ht
    .cases ht;exact .inr (.inr ⟨_,rfl⟩)
    .cases ht;exact .inl ⟨_,rfl⟩
   .cases ht;exact .inl ⟨_,rfl⟩
   .cases ht
  .rw [QW] at hx
   split at hx
   case isFalse=> cases hx
   rename_i hj
   have hax':=Q4 hj
   have hax2:(args++Z2e st args)[j]?=some args[j]:=by rw [X6 hj];exact hax'
   have:=p6 toks (.refl _) (Z04 os 0) ax hax j v _ x hax2 hx (hargs.2 j v _ hv hax')
   have hl:Zau XS=fun nm:Name=> match nm with | .x k=> (os[k]?).isSome | .loc _=> false:=by
    funext nm;cases nm <;> simp [Zau,XS]
   rw [hl]
   exact this
  .simp only [XS] at hk
   rw [Qy] at hk
   cases hx:os[k]? with
   | none=> simp [hx] at hk
   | some x=>
    simp [hx] at hk
    subst hk
    obtain ⟨cs0,h1,h2,h3⟩:=p5 k x hx (by simp)
    simp only [Zs9,h1] at hj
    have hj0:j < cs0.length:=by have:=(Q5.1 hj).1;rw [ZlC os _ _ h2] at this;omega
    obtain ⟨v,h4,h5,h6⟩:=h.mem x.1 cs0 h1 j _ (Q4 hj0)
    have had:gc.ad (.x k)=g.ad x.1:=hax k x hx
    rw [had]
    refine ⟨v,h4,?_,?_⟩
    rotate_left
    .rcases ZhT os _ _ j _ c h2 (Q4 hj0) hj with hj1 | ⟨q,q',e0,hq,rfl⟩
     .exact h3 toks (.refl _) _ _ j v _ c (Q4 hj0) hj1 h6
     .rw [e0] at h6
      have e1:v= .pointer (some (g.ad (.x q))):=h6.2
      obtain ⟨y,_,hy,hy1⟩:=Z6s hq
      refine ⟨.xp _ _ h6.1.one,?_⟩
      show v= .pointer (some (ax q'))
      rw [hax q' y (by simpa using hy),hy1,e1]
    have hn:Z04 os 0 x.1=some k:=by have:=ZhA (k:=0) p3 hx rfl;simpa using this
    simp only [gc,Gh.callee,h5,hn]
  .have hx:ZC (fun _=> none) (Z0l st.ls toks (toks.map (·.2))) t=some x:=by
    cases hw:s.wr with
    | true=> rw [hw] at hx;exact hx
    | false=> rw [hw] at hx;cases hx
   obtain ⟨u,h5,h6,h7,h8⟩:=Z0W _ hx
   obtain ⟨_,hL⟩:=h.ls u x h7
   have hbs:gc.bs t=g.bs u:=by simp only [gc,Gh.callee,h8,Xn,if_false,Zi1,h5]
   have htg:∀ c,g.tag c=some (.tok u)->gc.tag c=some (.tok t):=fun c hc=> by simp only [gc,Gh.callee,hc,h6]
   rcases hL with ⟨e1,e2⟩ | ⟨b,len,cap,e1,e2,e3,e4,e5,e6⟩
   .exact .inl ⟨hbs.trans e1,e2⟩
   .refine .inr ⟨b,len,cap,hbs.trans e1,e2,e3,e4,fun i y hy j c hc=> ?_,fun j a1 a2=> htg _ (e6 j a1 a2)⟩
    obtain ⟨v,e7,e8,e9,e10⟩:=e5 i y hy j c hc
    exact ⟨v,e7,e8,e9,fun hi=> htg _ (e10 hi)⟩
 have hcall:=hcon (ys.take args.length) XS _ _ r xs L0 hfn hps (by rw [b1];simp [XS]) w gc _ hentry
 refine .inr (.inr ⟨f,(c.args.toList.map a.eval++caps).toArray,w,?_,Calls.mono hcall ?_⟩)
 .have hb:fn.body.isNone=false:=by cases hfb:fn.body <;> simp_all
  simp only [execOp,ho,resolve,hc,hg,Deferred.ofValue,Sem.run_bind,Sem.run_pure,Result.andThen_ok,invoke,callFunc,run_program,hf1]
  simp [hf3,hb]
 .rintro e' w' ⟨v,g',rfl,L⟩
  refine ⟨v,rfl,g'.back os d g.ad L0 g.bs,?_⟩
  have hgm:gc.m=g.m:=rfl
  have hback:∀ c t,g.tag c=some t->(∀ nm,t= .obj nm->Z04 os 0 nm=none)->(∀ u,t= .tok u->YT toks u=none)->(g'.back os d g.ad L0 g.bs).tag c=some t/\w'.cell? c=w.cell? c:=by
   intro c t h1 h2 h3
   have:=L.fr.outer c t ((htag c t).2 ⟨h1,h2,h3⟩)
   exact ⟨by simp only [Gh.back,this.1],this.2⟩
  have hbtag:∀ c t,(g'.back os d g.ad L0 g.bs).tag c=some t->∃ t',g'.tag c=some t':=by
   intro c t ht
   simp only [Gh.back] at ht
   cases hgt:g'.tag c with
   | none=> simp [hgt] at ht
   | some t'=> exact ⟨t',rfl⟩
  have hdl:∀ t,Zp st ({ val:=some (r.mapTok (ZZ d) (Z0z d L0) (Z8u os)),mem:=m,kill:=toks.map (·.1),ls:=ll }:Eff U) t=false->st.dead t=false/\YT toks t=none:=by
   intro t ht
   simp only [Zp,QE] at ht
   refine ⟨ht.1,?_⟩
   cases hn:YT toks t with
   | none=> rfl
   | some t'=> have:=ZfR hn;rw [ht.2] at this;cases this
  have hkeep:Keeps g (g'.back os d g.ad L0 g.bs) st.dead (Zp st ({ val:=some (r.mapTok (ZZ d) (Z0z d L0) (Z8u os)),mem:=m,kill:=toks.map (·.1),ls:=ll }:Eff U)) (fun nm=> (st.mem nm).isSome) (Y8 st ({ val:=some (r.mapTok (ZZ d) (Z0z d L0) (Z8u os)),mem:=m,kill:=toks.map (·.1),ls:=ll }:Eff U)):=by
   refine ⟨fun c v hv=> L.fr.mono c v hv,fun c t hd ht=> ?_,fun t ht=> (hdl t ht).1,fun nm hn=> ⟨?_,rfl⟩,fun t v _ hv=> by simp only [Gh.back,hv],fun _=> rfl⟩
   .exact (hback c _ ht (fun nm e=> by cases e) (fun u e=> by cases e;exact (hdl _ hd).2)).1
   .simp only [Y8]
    rcases Z0d st.mem m nm with ⟨k,cs,_,h2⟩ | ⟨_,h2⟩
    .rw [h2];try rfl
    .rw [h2];exact hn
  have hbs:∀ t t',Z0z d L0 t=some t'->g.bs t'=none:=by
   intro t t' hb
   unfold Z0z at hb
   cases hx:ZC (fun _=> none) L0 t with
   | none=> rw [hx] at hb;cases hb
   | some x=>
    rw [hx] at hb
    obtain ⟨t2,g1,g2,g3,_⟩:=q1 t x hx
    simp only at hb
    rw [hb] at g1
    cases g1
    refine h.fresh t' ?_ g2 g3
    unfold ZZ at hb
    split at hb
    .cases hb;rfl
    .split at hb
     .cases hb;rfl
     .cases hb
    .cases hb
  have hbx:∀ k k',Z8u os k=some k'->g'.ad (.x k)=g.ad (.x k'):=by
   intro k k' hk
   unfold Z8u at hk
   split at hk
   .rename_i hx
    cases hk
    exact (L.ad k (hnp k)).trans (hax k _ hx)
   .cases hk
  have hlsO:∀ t x,Z06 st.ls ({ val:=some (r.mapTok (ZZ d) (Z0z d L0) (Z8u os)),mem:=m,kill:=toks.map (·.1),ls:=ll }:Eff U) t=some x->(toks.map (·.1)).contains t=false/\ZC st.ls ll t=some x:=by
   intro t x hx
   unfold Z06 at hx
   cases hk:(toks.map (·.1)).contains t with
   | true=> simp only [hk,cond_true,reduceCtorEq] at hx
   | false=> simp only [hk,cond_false] at hx;exact ⟨rfl,hx⟩
  refine ⟨⟨fun c v hv=> ?_,fun c t ht=> ?_⟩,?_,hkeep,?_,L.val.back hbs hbx,?_,?_⟩
  .obtain ⟨h1,h2⟩:=L.inv.im c v hv
   exact ⟨h1,by simp only [Gh.back,h2]⟩
  .obtain ⟨t',ht'⟩:=hbtag c t ht
   exact L.inv.it c t' ht'
  .refine ⟨h.fr.stay.trans L.fr.stay,h.fr.xad,fun c v hv=> L.fr.mono c v (h.fr.mono c v hv),fun c t ht=> ?_,fun c t ht=> ?_,fun b hb hcl=> ?_,fun c hc=> (L.fr.frz c (QV hc h.fr.stay.size)).trans (h.fr.frz c hc)⟩
   .obtain ⟨h1,h2⟩:=h.fr.outer c t ht
    obtain ⟨h3,h4⟩:=hback c _ h1 (fun nm e=> by cases e) (fun u e=> by cases e)
    exact ⟨h3,h4.trans h2⟩
   .simp only [Gh.back] at ht
    split at ht
    .rename_i t' ht'
     cases ht
     have:=(htag c _).1 (L.fr.outer' c _ ht')
     exact h.fr.outer' c t this.1
    .cases hx:os[‹Nat›]? with
     | none=> simp [hx] at ht
     | some x=> simp [hx] at ht
    .cases hx:ZZ d ‹Tok› with
     | none=> simp [hx] at ht
     | some x=> simp [hx] at ht
    .cases ht
   .obtain ⟨h1,h2⟩:=h.fr.clean b hb hcl
    have hall:∀ o s t,g.tag ⟨b,o,s⟩=some t->∃ t',t= .outer t':=fun o s t ht=> hcl o s t (by rw [<-h2];exact ht)
    have hcall':∀ o s t,gc.tag ⟨b,o,s⟩=some t->∃ t',t= .outer t':=by
     intro o s t ht
     obtain ⟨t0,ht0⟩:=hsome _ _ ht
     obtain ⟨t1,rfl⟩:=hall o s t0 ht0
     have:=(htag ⟨b,o,s⟩ (.outer t1)).2 ⟨ht0,(fun nm e=> by cases e),(fun u e=> by cases e)⟩
     rw [ht] at this
     cases this
     exact ⟨_,rfl⟩
    obtain ⟨h3,h4⟩:=L.fr.clean b (QV hb h.fr.stay.size) hcall'
    refine ⟨h3.trans h1,fun o s=> ?_⟩
    rw [<-h2 o s]
    have h5:g'.tag ⟨b,o,s⟩=gc.tag ⟨b,o,s⟩:=h4 o s
    cases hgt:g.tag ⟨b,o,s⟩ with
    | none=>
     simp only [Gh.back,h5,hnone _ hgt]
    | some t=>
     obtain ⟨t1,rfl⟩:=hall o s t hgt
     exact (hback _ _ hgt (fun nm e=> by cases e) (fun u e=> by cases e)).1
  .intro nm cs hm j cc hj
   rcases Z0d st.mem m nm with ⟨k,cs',h1,h2⟩ | ⟨h1,h2⟩
   .rw [h2] at hm
    cases hm
    have hk:k < os.length:=by have:=(Q5.1 h1).1;omega
    have hok:os[k]?=some os[k]:=Q4 hk
    have hxk:xs[k]?=some (xs[k]'YL):=Q4 _
    have h3:=b3 k _ _ hok hxk
    rw [h1] at h3
    simp only [Option.some.injEq,Prod.mk.injEq] at h3
    obtain ⟨rfl,rfl⟩:=h3
    rw [Qy] at hj
    cases hj0:(xs[k]'YL)[j]? with
    | none=> simp [hj0] at hj
    | some c0=>
     simp [hj0] at hj
     subst hj
     obtain ⟨v0,h4,h5,h6⟩:=L.x k _ hxk j c0 hj0
     have had:g'.ad (.x k)=g.ad os[k].1:=(L.ad k (hnp k)).trans (hax k _ hok)
     rw [had] at h4 h5
     refine ⟨v0,h4,?_,h6.back hbs hbx⟩
     show (g'.back os d g.ad L0 g.bs).tag ((g.ad os[k].1).add j)=_
     simp only [Gh.back,h5,hok,Qf]
   .rw [h2] at hm
    obtain ⟨v0,h4,h5,h6⟩:=h.mem nm cs hm j cc hj
    have hn:Z04 os 0 nm=none:=Zl3 (fun i x hx e=> by
     have hi:i < m.length:=by have:=(Q5.1 hx).1;omega
     have hxi:xs[i]?=some (xs[i]'YL):=Q4 _
     exact h1 i _ (b3 i x _ hx hxi) e) 0
    obtain ⟨h7,h8⟩:=hback _ _ h5 (fun nm' e=> by cases e;exact hn) (fun u e=> by cases e)
    exact ⟨v0,h8.trans h4,h7,h6.keep hkeep⟩
  .intro t x hx
   obtain ⟨hk,hx⟩:=hlsO t x hx
   rcases q2 t x hx with ⟨g1,_⟩ | ⟨t0,g1,g2,g3⟩
   .obtain ⟨g3,g4⟩:=h.ls t x g1
    have hd:Zp st ({ val:=some (r.mapTok (ZZ d) (Z0z d L0) (Z8u os)),mem:=m,kill:=toks.map (·.1),ls:=ll }:Eff U) t=false:=by simp only [Zp,g3,hk,Xm]
    exact ⟨hd,g4.keep hkeep hd (fun c v hv=> (L.inv.im c v (L.fr.mono c v hv)).1) (fun c htc=> (hback c _ htc (fun nm e=> by cases e) (fun u e=> by cases e;exact (hdl _ hd).2)).2)⟩
   .have hd:Zp st ({ val:=some (r.mapTok (ZZ d) (Z0z d L0) (Z8u os)),mem:=m,kill:=toks.map (·.1),ls:=ll }:Eff U) t=false:=by simp only [Zp,g3,hk,Xm]
    have hbm:Z0z d L0 t0=some t:=by unfold Z0z;rw [g1];exact g2
    have hb0:=hbs _ _ hbm
    have hbt:(g'.back os d g.ad L0 g.bs).bs t=g'.bs t0:=by simp only [Gh.back,hb0,Z3s g2,g1]
    have htk:∀ c,g'.tag c=some (.tok t0)->(g'.back os d g.ad L0 g.bs).tag c=some (.tok t):=by
     intro c hc
     simp only [Gh.back,hc,g2,Qf]
    refine ⟨hd,?_⟩
    rcases L.ls t0 x g1 with ⟨e1,e2⟩ | ⟨b,len,cap,e1,e2,e3,e4,e5,e6⟩
    .exact .inl ⟨hbt.trans e1,e2⟩
    .refine .inr ⟨b,len,cap,hbt.trans e1,e2,e3,e4,fun i y hy j c hc=> ?_,fun j a1 a2=> htk _ (e6 j a1 a2)⟩
     obtain ⟨u,e7,e8,e9,e10⟩:=e5 i y hy j c hc
     exact ⟨u,e7,e8,e9,fun hi=> htk _ (e10 hi)⟩
  .intro t ht hn hd
   have hst:st.dead t=false:=(hdl t hd).1
   have hk:(toks.map (·.1)).contains t=false:=by simp only [Zp,QE] at hd;exact hd.2
   have hn':ZC st.ls ll t=none:=by
    unfold Z06 at hn
    simp only [hk,cond_false] at hn
    exact hn
   have hst0:st.ls t=none:=by
    cases hx:st.ls t with
    | none=> rfl
    | some x=>
     exfalso
     have:∀ (l:List (Tok × LC U)),ZC st.ls l t=none->False:=by
      intro l
      induction l with
      | nil=> intro h;rw [ZC,hx] at h;cases h
      | cons y l ih=>
       obtain ⟨a,b⟩:=y
       intro h
       simp only [ZC] at h
       split at h
       .cases h
       .exact ih h
     exact this _ hn'
   have hb0:=h.fresh t ht hst0 hst
   simp only [Gh.back,hb0]
   cases hu:Z1q d t with
   | none=> rfl
   | some t'=>
    simp only
    cases hx:ZC (fun _=> none) L0 t' with
    | none=> rfl
    | some x=>
     simp only
     obtain ⟨t2,g1,g2,g3,g4⟩:=q1 t' x hx
     cases hg:g'.bs t' with
     | none=> rfl
     | some v=>
      exfalso
      have:t2=t:=by
       cases t with
       | r d' m=>
        simp only [Z1q] at hu
        split at hu
        .rename_i e
         subst e
         split at hu
         .cases hu
          simp only [ZZ,Option.some.injEq] at g1
          rw [<-g1];congr 1;omega
         .cases hu
          simp only [ZZ] at g1
          split at g1
          .cases g1;congr 1;omega
          .cases g1
        .cases hu
       | _=> simp [Z1q] at hu
      subst this
      rw [hn'] at g4
      cases g4
def ZdF(st:FSt U)(g:Gh)(c:Addr):Bool:=
 match g.tag c with
 | some (.tok t)=> (st.ls t).isSome
 | _=> false
def Gh.lendG(g:Gh)(st:FSt U)(w:World):Gh:=
 {m:=fun c=> if ZdF st g c=true then w.cell? c else g.m c
  tag:=fun c=> if ZdF st g c=true then none else (g.tag c).map .outer
  ad:=g.ad
  bs:=fun _=> none }
theorem ZvG{c:Addr}(h:ZdF st g c=true):∃ t x,g.tag c=some (.tok t)/\st.ls t=some x:=by
 unfold ZdF at h
 split at h
 .rename_i t ht
  cases hx:st.ls t with
  | none=> grind
  | some x=> grind
 .cases h
theorem ZvH{c:Addr}(h:∀ t,g.tag c≠some (.tok t)):ZdF st g c=false:=by
 cases hc:ZdF st g c with
 | false=> rfl
 | true=> obtain ⟨t,_,h1,_⟩:=ZvG hc;grind
theorem ZvI(h:Inv g.m g.tag w){c:Addr}{v:Value}(hv:g.m c=some v):(g.lendG st w).m c=some v:=by
 have:ZdF st g c=false:=ZvH fun t e=> by rw [(h.im c v hv).2] at e;cases e
 simp only [Gh.lendG,this,Xn,if_false,hv]
theorem Zna{c:Addr}{t:Tag}(ht:g.tag c=some t)(hc:ZdF st g c=false):(g.lendG st w).tag c=some (.outer t):=by
 simp only [Gh.lendG,hc,Xn,if_false,ht,Qf]
theorem ZBL(h:Rel cfg B st g a w){v:Value}{c:C U}(hr:RelC cfg g st.dead v c):RelC cfg (g.lendG st w) ZW v (c.lend st):=by
 have hm:=fun c v hv=> ZvI (st:=st) (w:=w) h.inv (c:=c) (v:=v) hv
 cases c with
 | slice T l tl=> cases tl with
  | unk=> exact ⟨hr.1.mono hm,trivial⟩
  | full=> exact ⟨hr.1.mono hm,hr.2⟩
  | own u=> exact ⟨(hr.1.tl .unk).mono hm,trivial⟩
 | mref t=>
  simp only [C.lend]
  cases hx:st.ls t with
  | none=> exact ⟨.jk _ hr.1.one,trivial⟩
  | some x=>
   obtain ⟨hd,hL⟩:=h.ls t x hx
   obtain ⟨s,hs⟩:=hr.2 hd
   refine ⟨?_,trivial⟩
   rcases hL with ⟨e1,e2,_⟩ | ⟨b,len,cap,e1,e2,e3,e4,e5,_⟩
   .rw [hs] at e1
    cases e1
    obtain ⟨T,l,f⟩:=x
    simp only at e2
    subst e2
    exact .snil T _
   .rw [hs] at e1
    cases e1
    refine .of_rows _ e2 e3 fun i y hy j c hc=> ?_
    obtain ⟨u,e7,e8,e9,e10⟩:=e5 i y hy j c hc
    refine ⟨u,?_,e8.mono hm⟩
    rcases XQ i x.f with hi | hi
    .grind
    .simp only [Gh.lendG,ZdF,e10 hi,hx,Option.isSome_some,if_true]
     exact e7
 | jk=> exact ⟨.jk _ hr.1.one,trivial⟩
 | xp k=> exact ⟨.jk _ hr.1.one,trivial⟩
 | int k n=> exact ⟨hr.1.mono hm,trivial⟩
 | bool b=> exact ⟨hr.1.mono hm,trivial⟩
 | nils=> exact ⟨hr.1.mono hm,trivial⟩
 | nilp=> exact ⟨hr.1.mono hm,trivial⟩
 | po T o=> exact ⟨hr.1.mono hm,trivial⟩
theorem ZHP(h:Rel cfg B st g a w){live:Name->Bool}{v:Value}{x x':V U}(hr:RelV cfg g st.dead live v x)(hx:x.lend st=some x'):RelV cfg (g.lendG st w) ZW (Zau ([]:List (List (C U)))) v x':=by
 cases x with
 | c y=> cases hx;exact ZBL h (c:=y) hr
 | agg cs=>
  cases hx
  obtain ⟨vs,h1,h2,h3⟩:=hr
  refine ⟨vs,h1,by simp [h2],fun j u c hu hc=> ?_⟩
  rw [Qy] at hc
  cases hj:cs[j]? with
  | none=> grind
  | some c0=>
   simp [hj] at hc
   subst hc
   exact ZBL h (h3 j u c0 hu hj)
 | fn f=> cases hx;exact hr
 | _=> cases hx
theorem Znb {Γ:Known U} (hΓ:∀ f s,Γ f=some s->Contract P cfg f s) (h:Rel cfg B st g a w) {o:Oper} {c:Call} {gx:Operand} {f:FuncId} {args:List (V U)} {ps:List Prop} {e:Eff U}
  (ho:o.op= .call c) (hc:c.callee= .value gx) (hg:a.eval gx= .func (.func f) #[] #[])
  (hargs:c.args.toList.length=args.length/\∀ (j:Nat) u x,(c.args.toList.map a.eval)[j]?=some u->args[j]?=some x->RelV cfg g st.dead (fun nm=> (st.mem nm).isSome) u x)
  (he:Zi8 Γ st f args=some (ps,e)) (hps:All ps):
  Does P o a w fun v w'=> ∃ g',Out cfg B st g e v w' g':=by
 unfold Zi8 at he
 split at he
 case h_2=> cases he
 rename_i s vs hs hvs
 have key:∃ c0:C U,s.fn2 vs [] []=some (ps,.c c0,[],[])/\e={ val:=some (.c c0) }/\∀ (g1 g2:Gh) (d1 d2:Tok->Bool) v,RelC cfg g1 d1 v c0->RelC cfg g2 d2 v c0:=by
  split at he
  .rename_i k n hfn
   simp only [Option.some.injEq,Prod.mk.injEq] at he
   obtain ⟨rfl,rfl⟩:=he
   exact ⟨_,hfn,rfl,fun g1 g2 d1 d2 v hr=> by have:=hr.1;cases this;exact ⟨.int _ _,trivial⟩⟩
  .rename_i b hfn
   simp only [Option.some.injEq,Prod.mk.injEq] at he
   obtain ⟨rfl,rfl⟩:=he
   exact ⟨_,hfn,rfl,fun g1 g2 d1 d2 v hr=> by have:=hr.1;cases this;exact ⟨.bool _,trivial⟩⟩
  .cases he
 obtain ⟨c0,hfn,rfl,hsc⟩:=key
 obtain ⟨⟨fn,hf1,hf2,hf3⟩,hcon⟩:=hΓ f s hs
 have hlen:vs.length=args.length:=mapM_lend_len hvs
 have hentry:Entry cfg w (g.lendG st w) (c.args.toList.map a.eval) vs [] []:=by
  refine ⟨⟨fun c v hv=> ?_,fun c t ht=> ?_⟩,fun c t ht=> ?_,by grind,fun j v x hv hx=> ?_,fun k cs hk=> by simp at hk,fun t ht=> rfl,fun t x hx=> by cases hx⟩
  .simp only [Gh.lendG] at hv ⊢
   split at hv
   .grind
   .rename_i hl
    obtain ⟨h1,h2⟩:=h.inv.im c v hv
    grind
  .simp only [Gh.lendG] at ht
   split at ht
   .cases ht
   .cases hgt:g.tag c with
    | none=> grind
    | some t0=> exact h.inv.it c t0 hgt
  .simp only [Gh.lendG] at ht
   split at ht
   .cases ht
   .cases hgt:g.tag c with
    | none=> grind
    | some t0=> grind
  .obtain ⟨x0,h1,h2⟩:=mapM_lend hvs j x hx
   exact ZHP h (hargs.2 j v x0 hv h1) h2
 have hcall:=hcon vs [] [] _ _ [] [] hfn hps (K4 _) w (g.lendG st w) _ hentry
 refine .inr (.inr ⟨f,(c.args.toList.map a.eval).toArray,w,?_,Calls.mono hcall ?_⟩)
 .have hb:fn.body.isNone=false:=by cases hfb:fn.body <;> simp_all
  simp only [execOp,ho,resolve,hc,hg,Deferred.ofValue,Sem.run_bind,Sem.run_pure,Result.andThen_ok,invoke,callFunc,run_program,hf1]
  simp [hf3,hb]
  apply Xf
  simp
 .rintro e' w' ⟨v,g',rfl,L⟩
  refine ⟨v,rfl,g,?_⟩
  have hout:∀ c t,g.tag c=some t->ZdF st g c=false->w'.cell? c=w.cell? c:=fun c t ht hl=> (L.fr.outer c _ (Zna (w:=w) ht hl)).2
  have hcell:∀ c v,w.cell? c=some v->ZdF st g c=true->w'.cell? c=some v:=by
   intro c v hv hl
   have:(g.lendG st w).m c=some v:=by simp only [Gh.lendG,hl,if_true,hv]
   exact (L.inv.im c v (L.fr.mono c v this)).1
  have hmc:∀ c v,g.m c=some v->w'.cell? c=some v:=fun c v hv=> (L.inv.im c v (L.fr.mono c v (ZvI h.inv hv))).1
  have hall:∀ c t,g.tag c=some t->w'.cell? c=w.cell? c:=by
   intro c t ht
   cases hl:ZdF st g c with
   | false=> grind
   | true=>
    obtain ⟨_,v,hv⟩:=h.inv.it c t ht
    grind
  have hde:Zp st ({ val:=some (.c c0) }:Eff U)=st.dead:=by funext t;simp [Zp]
  refine ⟨⟨fun c v hv=> ⟨hmc c v hv,(h.inv.im c v hv).2⟩,fun c t ht=> ?_⟩,?_,by rw [hde];exact .refl _ _ _,?_,?_,?_,?_⟩
  .obtain ⟨h1,v,h2⟩:=h.inv.it c t ht
   exact ⟨(L.fr.frz c (h.inv.lt ht)).trans h1,v,(hall c t ht).trans h2⟩
  .refine ⟨h.fr.stay.trans L.fr.stay,h.fr.xad,h.fr.mono,fun c t ht=> ?_,h.fr.outer',fun b hb hcl=> ?_,fun c hc=> (L.fr.frz c (QV hc h.fr.stay.size)).trans (h.fr.frz c hc)⟩
   .obtain ⟨h1,h2⟩:=h.fr.outer c t ht
    grind
   .obtain ⟨h1,h2⟩:=h.fr.clean b hb hcl
    refine ⟨(L.fr.clean b (QV hb h.fr.stay.size) fun o s t ht=> ?_).1.trans h1,h2⟩
    simp only [Gh.lendG] at ht
    split at ht
    .cases ht
    .cases hgt:g.tag ⟨b,o,s⟩ with
     | none=> grind
     | some t0=> grind
  .rw [hde]
   intro nm cs hm j cc hj
   obtain ⟨v0,h4,h5,h6⟩:=h.mem nm cs hm j cc hj
   grind
  .rw [hde]
   exact hsc _ _ _ _ _ L.val
  .intro t x hx
   rw [hde]
   have hx:st.ls t=some x:=by simpa [Z06,ZC] using hx
   obtain ⟨h1,h2⟩:=h.ls t x hx
   exact ⟨h1,h2.keep (.refl g st.dead (fun _=> true)) h1 hmc fun c htc=> hall c _ htc⟩
  .intro t h0 h7 h8
   rw [hde] at h8
   exact h.fresh t h0 (by trivial) h8
where
 mapM_lend_len {xs:List (V U)} {vs:List (V U)} (hm:xs.mapM (V.lend st)=some vs):vs.length=xs.length:=by
  induction xs generalizing vs with
  | nil=> grind
  | cons y xs ih=>
   rw [X2] at hm
   cases h1:V.lend st y with
   | none=> grind
   | some v=>
    cases h2:xs.mapM (V.lend st) with
    | none=> grind
    | some r=>
     simp [h1,h2] at hm
     grind
 mapM_lend {xs:List (V U)} {vs:List (V U)} (hm:xs.mapM (V.lend st)=some vs) (j:Nat) (x:V U) (hx:vs[j]?=some x):∃ x0,xs[j]?=some x0/\x0.lend st=some x:=by
  induction xs generalizing vs j with
  | nil=> grind
  | cons y xs ih=>
   rw [X2] at hm
   cases h1:V.lend st y with
   | none=> grind
   | some v=>
    cases h2:xs.mapM (V.lend st) with
    | none=> simp [h1,h2] at hm
    | some r=>
     grind
theorem Zlh{α β:Type}{f:α->Option β}:∀ {xs:List α} {ys:List β},xs.mapM f=some ys->ys.length=xs.length/\∀ (j:Nat) y,ys[j]?=some y->∃ x,xs[j]?=some x/\f x=some y
 | [],ys,h=> by grind
 | x ::xs,ys,h=> by
  rw [X2] at h
  cases h1:f x with
  | none=> simp [h1] at h
  | some v=>
   cases h2:xs.mapM f with
   | none=> grind
   | some r=>
    simp [h1,h2] at h
    subst h
    obtain ⟨h3,h4⟩:=Zlh h2
    grind
def Gh.out(g:Gh):Gh:={ m:=g.m,tag:=fun c=> (g.tag c).map .outer,ad:=g.ad,bs:=fun _=> none }
theorem ZC0{dead:Tok->Bool}{v:Value}{c:C U}(h:RelC cfg g dead v c):RelC cfg g.out ZW v c.bare:=by
 cases c with
 | slice T l tl=> exact ⟨h.1.tl _,trivial⟩
 | mref t=> exact ⟨.jk _ h.1.one,trivial⟩
 | xp k=> exact ⟨.jk _ h.1.one,trivial⟩
 | _=> trivial
theorem ZI3{dead:Tok->Bool}{live:Name->Bool}{v:Value}{x x':V U}(h:RelV cfg g dead live v x)(hx:x.bare=some x'):RelV cfg g.out ZW (Zau ([]:List (List (C U)))) v x':=by
 cases x with
 | c y=> cases hx;exact ZC0 (c:=y) h
 | agg cs=>
  cases hx
  obtain ⟨vs,h1,h2,h3⟩:=h
  refine ⟨vs,h1,by simp [h2],fun j u c hu hc=> ?_⟩
  rw [Qy] at hc
  cases hj:cs[j]? with
  | none=> grind
  | some c0=>
   simp [hj] at hc
   subst hc
   exact ZC0 (h3 j u c0 hu hj)
 | fn f=> cases hx;exact h
 | _=> cases hx
theorem RelC.plain{g1 g2:Gh}{d1 d2:Tok->Bool}{v:Value}{c:C U}(hm:g2.m=g1.m)(hc:c.plain=true)(h:RelC cfg g1 d1 v c):RelC cfg g2 d2 v c:=by
 refine ⟨by rw [hm];exact h.1,?_⟩
 cases c with
 | slice T l tl=> cases tl <;> first | trivial | cases hc
 | mref t=> cases hc
 | xp k=> cases hc
 | _=> trivial
theorem ZrI {Γ:Known U} (hΓ:∀ f s,Γ f=some s->Contract P cfg f s) (h:Rel cfg B st g a w) {o:Oper} {c:Call} {gx:Operand} {f:FuncId} {args:List (V U)} {ps:List Prop} {e:Eff U} {d:Nat}
  (ho:o.op= .call c) (hc:c.callee= .value gx) (hg:a.eval gx= .func (.func f) #[] #[])
  (hargs:c.args.toList.length=args.length/\∀ (j:Nat) u x,(c.args.toList.map a.eval)[j]?=some u->args[j]?=some x->RelV cfg g st.dead (fun nm=> (st.mem nm).isSome) u x)
  (he:Zsy Γ st d f args=some (ps,e)) (hps:All ps):
  Does P o a w fun v w'=> ∃ g',Out cfg B st g e v w' g':=by
 unfold Zsy at he
 split at he
 case h_2=> cases he
 rename_i s vs hs hvs
 split at he
 case h_2=> cases he
 rename_i ps' cs hfn
 split at he
 case isFalse=> cases he
 rename_i hcs
 simp only [Q2,Qz,QG] at hcs
 obtain ⟨hpl,hn⟩:=hcs
 simp only [Option.some.injEq,Prod.mk.injEq] at he
 obtain ⟨rfl,rfl⟩:=he
 obtain ⟨⟨fn,hf1,hf2,hf3⟩,hcon⟩:=hΓ f s hs
 obtain ⟨hlen,hall⟩:=Zlh hvs
 have hot:∀ c t,g.tag c=some t->g.out.tag c=some (.outer t):=fun c t ht=> by simp [Gh.out,ht]
 have hot':∀ c t,g.out.tag c=some t->∃ t0,g.tag c=some t0/\t= .outer t0:=fun c t ht=> by
  cases hgt:g.tag c with
  | none=> simp [Gh.out,hgt] at ht
  | some t0=> grind
 have hentry:Entry cfg w g.out (c.args.toList.map a.eval) vs [] []:=by
  refine ⟨⟨fun c v hv=> ?_,fun c t ht=> ?_⟩,fun c t ht=> ?_,by grind,fun j v x hv hx=> ?_,fun k cs hk=> by simp at hk,fun t ht=> rfl,fun t x hx=> by cases hx⟩
  .obtain ⟨h1,h2⟩:=h.inv.im c v hv
   exact ⟨h1,by simp [Gh.out,h2]⟩
  .obtain ⟨t0,h1,_⟩:=hot' c t ht
   exact h.inv.it c t0 h1
  .grind
  .obtain ⟨x0,h1,h2⟩:=hall j x hx
   exact ZI3 (hargs.2 j v x0 hv h1) h2
 have hcall:=hcon vs [] [] _ _ [cs] [] hfn hps (by simp) w g.out _ hentry
 refine .inr (.inr ⟨f,(c.args.toList.map a.eval).toArray,w,?_,Calls.mono hcall ?_⟩)
 .have hb:fn.body.isNone=false:=by cases hfb:fn.body <;> simp_all
  simp only [execOp,ho,resolve,hc,hg,Deferred.ofValue,Sem.run_bind,Sem.run_pure,Result.andThen_ok,invoke,callFunc,run_program,hf1]
  simp [hf3,hb]
  apply Xf
  simp
 .rintro e' w' ⟨v,g',rfl,L⟩
  let g1:Gh:={ m:=g'.m,tag:=fun c=> (match g'.tag c with | some (.outer t)=> some t | some (.obj (.x 0))=> some (.obj (.loc d)) | _=> none),ad:=fun nm=> if nm= .loc d then g'.ad (.x 0) else g.ad nm,bs:=g.bs }
  have hback:∀ c t,g.tag c=some t->g1.tag c=some t/\w'.cell? c=w.cell? c:=by
   intro c t ht
   have:=L.fr.outer c _ (hot c t ht)
   exact ⟨by grind,this.2⟩
  have hbt:∀ c t,g1.tag c=some t->∃ t',g'.tag c=some t':=by
   intro c t ht
   simp only [g1] at ht
   cases hgt:g'.tag c with
   | none=> simp [hgt] at ht
   | some t'=> exact ⟨t',rfl⟩
  have had:∀ nm,nm≠.loc d->g1.ad nm=g.ad nm:=fun nm hne=> by grind
  have hde:Zp st ({ val:=some (.ptr (.loc d) 0),mem:=[(.loc d,cs)] }:Eff U)=st.dead:=by funext t;simp [Zp]
  have hkeep:Keeps g g1 st.dead st.dead (fun nm=> (st.mem nm).isSome) (Y8 st ({ val:=some (.ptr (.loc d) 0),mem:=[(.loc d,cs)] }:Eff U)):=by
   refine ⟨fun c v hv=> L.fr.mono c v hv,fun c t hd ht=> (hback c _ ht).1,fun t ht=> ht,fun nm hl=> ⟨?_,had nm fun e=> ?_⟩,fun t v _ hv=> hv,fun k=> had _ (by simp)⟩
   .simp only [Y8,ZL]
    grind
   .grind
  refine ⟨v,rfl,g1,⟨fun c v hv=> ?_,fun c t ht=> ?_⟩,?_,by grind,?_,?_,?_,?_⟩
  .obtain ⟨h1,h2⟩:=L.inv.im c v hv
   grind
  .obtain ⟨t',ht'⟩:=hbt c t ht
   exact L.inv.it c t' ht'
  .refine ⟨h.fr.stay.trans L.fr.stay,fun k=> (had _ (by simp)).trans (h.fr.xad k),fun c v hv=> L.fr.mono c v (h.fr.mono c v hv),fun c t ht=> ?_,fun c t ht=> ?_,fun b hb hcl=> ?_,fun c hc=> (L.fr.frz c (QV hc h.fr.stay.size)).trans (h.fr.frz c hc)⟩
   .obtain ⟨h1,h2⟩:=h.fr.outer c t ht
    grind
   .simp only [g1] at ht
    split at ht
    .rename_i t' ht'
     cases ht
     obtain ⟨t0,h1,h2⟩:=hot' c _ (L.fr.outer' c _ ht')
     cases h2
     exact h.fr.outer' c t h1
    .cases ht
    .cases ht
   .obtain ⟨h1,h2⟩:=h.fr.clean b hb hcl
    have hco:∀ o s t,g.out.tag ⟨b,o,s⟩=some t->∃ t',t= .outer t':=fun o s t ht=> by
     obtain ⟨t0,_,h3⟩:=hot' _ t ht
     grind
    obtain ⟨h3,h4⟩:=L.fr.clean b (QV hb h.fr.stay.size) hco
    refine ⟨h3.trans h1,fun o s=> ?_⟩
    rw [<-h2 o s]
    have h5:g'.tag ⟨b,o,s⟩=g.out.tag ⟨b,o,s⟩:=h4 o s
    cases hgt:g.tag ⟨b,o,s⟩ with
    | none=>
     have:g'.tag ⟨b,o,s⟩=none:=by rw [h5];simp [Gh.out,hgt]
     grind
    | some t=> grind
  .rw [hde]
   intro nm cs' hm j cc hj
   simp only [ZL] at hm
   split at hm
   .rename_i e
    cases hm
    subst e
    obtain ⟨v0,h4,h5,h6⟩:=L.x 0 cs rfl j cc hj
    have e1:g1.ad (.loc d)=g'.ad (.x 0):=by simp only [g1,if_true]
    rw [e1]
    exact ⟨v0,h4,by grind,RelC.plain (g1:=g') (g2:=g1) rfl (hpl cc (X3 hj)) h6⟩
   .rename_i hne
    obtain ⟨v0,h4,h5,h6⟩:=h.mem nm cs' hm j cc hj
    obtain ⟨h7,h8⟩:=hback _ _ h5
    rw [had nm hne]
    exact ⟨v0,h8.trans h4,h7,h6.keep hkeep⟩
  .have hv:v= .pointer (some ((g'.ad (.x 0)).add 0)):=L.val.2
   refine ⟨by simp [Y8,ZL],?_⟩
   grind
  .intro t x hx
   rw [hde]
   have hx:st.ls t=some x:=by simpa [Z06,ZC] using hx
   obtain ⟨h1,h2⟩:=h.ls t x hx
   exact ⟨h1,h2.keep hkeep h1 (fun c v hv=> (L.inv.im c v (L.fr.mono c v hv)).1) fun c htc=> (hback c _ htc).2⟩
  .intro t h0 h7 h8
   rw [hde] at h8
   exact h.fresh t h0 (by trivial) h8
end Go.AM
