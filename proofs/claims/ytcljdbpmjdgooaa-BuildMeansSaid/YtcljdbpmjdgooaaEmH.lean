import Derived.Test.YtcljdbpmjdgooaaEmQ
set_option linter.unusedSimpArgs false
set_option linter.unusedVariables false
namespace Go.AM
variable {U:Uni} {P:Program} {cfg:Cfg U} {B:Base} {st:FSt U} {g:Gh} {a:Act} {w:World}
def Zv:Tok->Bool:=fun _=> false
def Z5j(X:List (List (C U))):Name->Bool
 | .x k=> (X[k]?).isSome
 | .loc _=> false
structure Entry (cfg:Cfg U) (w:World) (g:Gh) (vs:List Value) (args:List (V U)) (X:List (List (C U))) (L:List (Tok × LC U)):Prop where
 inv:Inv g.m g.tag w
 tags:∀ a t,g.tag a=some t->(∃ t',t= .outer t')\/(∃ k,t= .obj (.x k))\/∃ u,t= .tok u
 len:vs.length=args.length
 args:∀ (j:Nat) v x,vs[j]?=some v->args[j]?=some x->RelV cfg g Zv (Z5j X) v x
 x:∀ (k:Nat) cs,X[k]?=some cs->∀ (j:Nat) c,cs[j]?=some c->∃ v,w.cell? ((g.ad (.x k)).add j)=some v/\g.tag ((g.ad (.x k)).add j)=some (.obj (.x k))/\RelC cfg g Zv v c
 bs:∀ t,t.isR=true->g.bs t=none
 ls:∀ t x,Z7 (fun _=> none) L t=some x->LRel cfg w g t x
 nb:Z7 (fun _=> none) L .A=none->∀ t,t.isA=true->g.bs t=none
structure Leave (cfg:Cfg U) (w:World) (g:Gh) (w':World) (g':Gh) (v:Value) (r:V U) (X:List (List (C U))) (L:List (Tok × LC U)):Prop where
 inv:Inv g'.m g'.tag w'
 fr:Fr ⟨w,g.m,g.tag,fun k=> g'.ad (.x k),g.bs .A⟩ g' w'
 tags:∀ a t,g'.tag a=some t->(∃ t',t= .outer t')\/(∃ k,k < X.length/\t= .obj (.x k))\/∃ u,t= .tok u
 ad:∀ k,r≠.ptr (.x k) 0->g'.ad (.x k)=g.ad (.x k)
 val:RelV cfg g' Zv (fun _=> false) v r
 x:∀ (k:Nat) cs,X[k]?=some cs->∀ (j:Nat) c,cs[j]?=some c->∃ v,w'.cell? ((g'.ad (.x k)).add j)=some v/\g'.tag ((g'.ad (.x k)).add j)=some (.obj (.x k))/\RelC cfg g' Zv v c
 ls:∀ t x,Z7 (fun _=> none) L t=some x->LRel cfg w' g' t x
def Contract(P:Program)(cfg:Cfg U)(f:FuncId)(s:Fs U):Prop:=
 (∃ fn, P.funcs[f]? = some fn ∧ fn.body.isSome = true ∧ (fn.name == "runtime.NumGoroutine") = false) ∧
 ∀ args X L ps r X' L',s.fn2 args X L=some (ps,r,X',L')->All ps->X'.length<=X.length+1->∀ w g vs,Entry cfg w g vs args X L->
  Calls P f vs.toArray w fun e w'=> ∃ v g',e= .returned v/\Leave cfg w g w' g' v r X' L'
def Zkz(P:Program)(cfg:Cfg U)(f:FuncId)(s:Fs U):Prop:=
 ∀ args X ps r X',s.fn args X=some (ps,r,X')->All ps->X'.length<=X.length+1->∀ w g vs,Entry cfg w g vs args X []->
  Calls P f vs.toArray w fun e w'=> ∃ v g',e= .returned v/\Leave cfg w g w' g' v r X' []
theorem JI {f : FuncId} {s : Fs U} (h0 : ∃ fn, P.funcs[f]? = some fn ∧ fn.body.isSome = true ∧ (fn.name == "runtime.NumGoroutine") = false) (hd : s.fn2 = Z73 s.fn) (h : Zkz P cfg f s) : Contract P cfg f s := by
 refine ⟨h0,fun args X L ps r X' L' hs=> ?_⟩
 rw [hd] at hs
 unfold Z73 at hs
 split at hs
 .split at hs
  .rename_i h1
   cases hs
   exact h args X _ _ _ h1
  .cases hs
 .cases hs
theorem Contract.one{f:FuncId}{s:Fs U}(h:Contract P cfg f s)(hd:s.fn2=Z73 s.fn):Zkz P cfg f s:=by
 intro args X ps r X' hs
 exact h.2 args X [] ps r X' [] (by rw [hd];simp only [Z73,hs])
theorem SimC.tl{m:Addr->Option Value}{v:Value}{T:U.Ty}{l:List (U.El T)}{tl:Tail}(tl':Tail)(h:SimC cfg m v (.slice T l tl)):SimC cfg m v (.slice T l tl'):=by
 cases h with
 | snil=> exact .snil T tl'
 | slice _ _ _ b len cap vs hl hc hm hs=> exact .slice T l tl' b len cap vs hl hc hm hs
def Ext(s s':List (Tok × Tok)):Prop:=(∀ t t':Tok,Zq s t=some t'->Zq s' t=some t')/\∀ t t':Tok,Zu s t=some t'->Zu s' t=some t'
theorem Ext.refl(s:List (Tok × Tok)):Ext s s:=⟨fun _ _ h=> h,fun _ _ h=> h⟩
theorem Ext.trans{a b c:List (Tok × Tok)}(h:Ext a b)(k:Ext b c):Ext a c:=⟨fun t t' ht=> k.1 _ _ (h.1 _ _ ht),fun t t' ht=> k.2 _ _ (h.2 _ _ ht)⟩
theorem Ext.cons{seen:List (Tok × Tok)}{t nm:Tok}(h1:Zq seen t=none)(h2:Zu seen nm=none):Ext seen ((t,nm) ::seen):=by
 refine ⟨fun u u' hu=> ?_,fun u u' hu=> ?_⟩
 .simp only [Zq]
  grind
 .simp only [Zu]
  grind
theorem Z6N{s:List (Tok × Tok)}{t:Tok}(h:t.isA=false):Yj s t=Zq s t:=by cases t <;> first | rfl | cases h
theorem Z8K:∀ {s:List (Tok × Tok)} {t t':Tok},Zq s t=some t'->(s.map (·.1)).contains t=true
 | (x,y) ::r,t,t',h=> by
  simp only [Zq] at h
  split at h
  .grind
  .have:=Z8K h
   grind
def Jv(g:Gh)(s:List (Tok × Tok))(n:Nat)(t:Tok):Option (Value × Nat):=
 match t with
 | .S v i=> match Zq s .A,v with
  | some _,v+1=> g.bs (.S (v+1+n) i)
  | _,_=> none
 | t=> match Zu s t with
  | none=> none
  | some u=> g.bs u
def Gh.callee(g:Gh)(nx:Name->Option Nat)(s:List (Tok × Tok))(ax:Nat->Addr)(n:Nat):Gh:=
 {m:=g.m
  tag:=fun c=> match g.tag c with
   | some (.obj nm)=> match nx nm with
    | some k=> some (.obj (.x k))
    | none=> some (.outer (.obj nm))
   | some (.tok t)=> match Yj s t with
    | some t'=> some (.tok t')
    | none=> some (.outer (.tok t))
   | some (.outer t)=> some (.outer (.outer t))
   | none=> none
  ad:=fun nm=> match nm with
   | .x k=> ax k
   | .loc s=> g.ad (.loc s)
  bs:=fun t=> if t.isR=true then none else Jv g s n t }
theorem J5{m:Tok->Option (LC U)}{s:List (Tok × Tok)}:∀ (l:List Tok) {t:Tok} {x:LC U},Z7 (fun _=> none) (YN m s l) t=some x->∃ u y,Zu s t=some u/\Yj s u=some t/\m u=some y/\x=y.at0 t/\t.isR=false/\(u.isA=true->t=u)/\(u.isA=false->t.isA=false)
 | [],t,x,h=> by trivial
 | t0 ::l,t,x,h=> by
  simp only [YN] at h
  split at h
  .rename_i u hu
   split at h
   .rename_i t' y h1 h2
    split at h
    .rename_i hc
     obtain ⟨hc1,hc2,hc3⟩:=hc
     subst hc1
     simp only [Z7] at h
     split at h
     .rename_i e
      cases h
      subst e
      refine ⟨u,y,hu,h1,h2,rfl,hc2,fun e=> ?_,fun e=> ?_⟩
      .rw [e] at hc3;simpa using hc3
      .rw [e] at hc3;simpa using hc3
     .exact J5 l h
    .exact J5 l h
   .exact J5 l h
  .exact J5 l h
section pass
variable {nx:Name->Option Nat} {ax:Nat->Addr} {n0:Nat}
structure Ren (ok:Tok->Bool) (g:Gh) (s:List (Tok × Tok)) (g2:Gh):Prop where
 m:g2.m=g.m
 tok:∀ c t t',g.tag c=some (.tok t)->Yj s t=some t'->g2.tag c=some (.tok t')
 bs:∀ t t' v,ok t=true->Zu s t=some t'->g.bs t'=some v->g2.bs t=some v
def JY(t:Tok):Bool:= !t.isR && match t with | .S _ _=> false | _=> true
theorem Gh.callee_ren(s:List (Tok × Tok)):Ren JY g s (g.callee nx s ax n0):=
 ⟨rfl,fun c t t' h1 h2=> by simp only [Gh.callee,h1,h2],fun t t' v h1 h2 h3=> by
  simp only [JY,Q3,Qo] at h1
  have h4:Jv g s n0 t=g.bs t':=by
   unfold Jv
   split
   .exact absurd h1.2 (by simp)
   .rw [h2]
  simp only [Gh.callee,h1.1,h4]
  exact h3⟩
theorem Z98{s:List (Tok × Tok)}{c:Addr}{t:Tag}:(g.callee nx s ax n0).tag c=some (.outer t)↔(g.tag c=some t/\(∀ nm,t= .obj nm->nx nm=none)/\(∀ u,t= .tok u->Yj s u=none)):=by
 simp only [Gh.callee]
 cases hgt:g.tag c with
 | none=> simp
 | some t0=>
  cases t0 with
  | obj nm=>
   cases hn:nx nm with
   | none=>
    simp only [hn]
    constructor
    .intro h;cases h;exact ⟨rfl,fun nm' e=> by cases e;exact hn,fun u e=> by cases e⟩
    .rintro ⟨h1,_,_⟩;cases h1;rfl
   | some k=>
    simp only [hn]
    constructor
    .intro h;cases h
    .rintro ⟨h1,h2,_⟩;cases h1;rw [h2 nm rfl] at hn;cases hn
  | tok u=>
   cases hn:Yj s u with
   | none=>
    simp only [hn]
    constructor
    .intro h;cases h;exact ⟨rfl,fun nm' e=> by (cases e),fun u' e=> by cases e;exact hn⟩
    .rintro ⟨h1,_,_⟩;cases h1;rfl
   | some k=>
    simp only [hn]
    constructor
    .intro h;cases h
    .rintro ⟨h1,_,h2⟩;cases h1;rw [h2 u rfl] at hn;cases hn
  | outer t0=>
   simp only
   constructor
   .intro h;cases h;exact ⟨rfl,fun nm' e=> by (cases e),fun u' e=> by (cases e)⟩
   .rintro ⟨h1,_,_⟩;cases h1;rfl
theorem Z3u{s:List (Tok × Tok)}{c:Addr}{t:Tag}(ht:(g.callee nx s ax n0).tag c=some t):∃ t0,g.tag c=some t0:=by
 simp only [Gh.callee] at ht
 cases hgt:g.tag c with
 | none=> simp [hgt] at ht
 | some t0=> exact ⟨t0,rfl⟩
theorem Z3v{s:List (Tok × Tok)}{c:Addr}(hc:g.tag c=none):(g.callee nx s ax n0).tag c=none:=by
 simp only [Gh.callee,hc]
theorem Z4r{okT mine:Tok->Bool}{nm:Tok}{c:C U}{seen:List (Tok × Tok)}(hmine:∀ t,mine t=true->st.dead t=false)(hok:okT nm=true)(hoA:okT .A=true):
  Ext seen (YX mine nm c seen).2/\∀ s',Ext (YX mine nm c seen).2 s'->∀ g2,Ren okT g s' g2->∀ v,RelC cfg g st.dead v c->RelC cfg g2 Zv v (YX mine nm c seen).1:=by
 have jk:Ext seen (((.jk:C U),seen)).2/\∀ s',Ext (((.jk:C U),seen)).2 s'->∀ g2,Ren okT g s' g2->∀ v,RelC cfg g st.dead v c->RelC cfg g2 Zv v (((.jk:C U),seen)).1:=
  ⟨.refl _,fun s' _ g2 hg v hr=> ⟨.jk _ hr.1.one,trivial⟩⟩
 unfold YX
 split
 .rename_i T l t
  split
  .rename_i hc
   simp only [Q3,Qp,Qo] at hc
   refine ⟨Ext.cons hc.1.2 hc.2,fun s' hs g2 hg v hr=> ⟨by rw [hg.m];exact hr.1.tl _,?_⟩⟩
   intro _ _ b len cap hv j h1 h2
   have h3:=hr.2 (hmine t hc.1.1.1) hc.1.1.2 b len cap hv j h1 h2
   have h4:Zq s' t=some nm:=hs.1 t nm (by simp [Zq])
   exact hg.tok _ _ _ h3 (by rw [Z6N hc.1.1.2];exact h4)
  .exact ⟨.refl _,fun s' _ g2 hg v hr=> ⟨by rw [hg.m];exact hr.1.tl _,trivial⟩⟩
 .rw [cond_eq_ite]
  split
  .rename_i hm
   split
   .rename_i hn
    split
    .rename_i ho
     simp only [Qp] at ho
     refine ⟨Ext.cons hn ho,fun s' hs g2 hg v hr=> ⟨.mref _ _ hr.1.one,fun _=> ?_⟩⟩
     obtain ⟨sz,h3⟩:=hr.2 (hmine _ hm)
     exact ⟨sz,hg.bs _ _ _ hoA (hs.2 .A .A (by simp [Zu])) h3⟩
    .exact jk
   .split
    .rename_i ho
     refine ⟨.refl _,fun s' hs g2 hg v hr=> ⟨.mref _ _ hr.1.one,fun _=> ?_⟩⟩
     obtain ⟨sz,h3⟩:=hr.2 (hmine _ hm)
     exact ⟨sz,hg.bs _ _ _ hoA (hs.2 _ _ ho) h3⟩
    .exact jk
  .exact jk
 .rename_i t _
  split
  .rename_i hc
   simp only [Q3,Qp,Qo] at hc
   refine ⟨Ext.cons hc.1.2 hc.2,fun s' hs g2 hg v hr=> ⟨.mref _ _ hr.1.one,fun _=> ?_⟩⟩
   obtain ⟨sz,h3⟩:=hr.2 (hmine t hc.1.1.1)
   have h4:Zu s' nm=some t:=hs.2 nm t (by simp [Zu])
   exact ⟨sz,hg.bs _ _ _ hok h4 h3⟩
  .exact ⟨.refl _,fun s' _ g2 hg v hr=> ⟨.jk _ hr.1.one,trivial⟩⟩
 .exact ⟨.refl _,fun s' _ g2 hg v hr=> ⟨.jk _ hr.1.one,trivial⟩⟩
 .rename_i hno hnoA hno2 hno3
  refine ⟨.refl _,fun s' _ g2 hg v hr=> ⟨by rw [hg.m];exact hr.1,?_⟩⟩
  have h2:=hr.2
  cases c with
  | slice T l tl=>
   cases tl with
   | unk=> trivial
   | full=> exact h2
   | own t=> grind
  | mref t=> grind
  | xp k=> grind
  | _=> trivial
theorem Z3D{okT mine:Tok->Bool}{nm:Nat->Tok}(hmine:∀ t,mine t=true->st.dead t=false)(hok:∀ j,okT (nm j)=true)(hoA:okT .A=true):∀ (cs:List (C U)) (j:Nat) (seen:List (Tok × Tok)),
  Ext seen (Yq mine nm j cs seen).2/\(Yq mine nm j cs seen).1.length=cs.length/\
   ∀ s',Ext (Yq mine nm j cs seen).2 s'->∀ g2,Ren okT g s' g2->∀ (i:Nat) v c c',cs[i]?=some c->(Yq mine nm j cs seen).1[i]?=some c'->RelC cfg g st.dead v c->RelC cfg g2 Zv v c'
 | [],j,seen=> ⟨.refl _,rfl,fun s' _ g2 _ i v c c' hc=> by simp at hc⟩
 | c ::cs,j,seen=> by
  obtain ⟨h1,h2⟩:=Z4r (cfg:=cfg) (g:=g) (okT:=okT) (nm:=nm j) (c:=c) (seen:=seen) hmine (hok j) hoA
  obtain ⟨h3,h4,h5⟩:=Z3D (okT:=okT) (mine:=mine) (nm:=nm) hmine hok hoA cs (j+1) (YX mine (nm j) c seen).2
  refine ⟨h1.trans h3,by simp [Yq,h4],fun s' hs g2 hg i v c0 c' hc hc' hr=> ?_⟩
  cases i with
  | zero=>
   simp [Yq] at hc hc'
   subst hc hc'
   exact h2 s' (h3.trans hs) g2 hg v hr
  | succ i=>
   simp [Yq] at hc hc'
   exact h5 s' hs g2 hg i v c0 c' hc hc' hr
theorem Zgm{mine:Tok->Bool}{nm:Tok}{c:C U}{seen:List (Tok × Tok)}(hmine:∀ t,mine t=true->st.dead t=false)(hok:JY nm=true):
  Ext seen (YX mine nm c seen).2/\∀ s',Ext (YX mine nm c seen).2 s'->∀ v,RelC cfg g st.dead v c->RelC cfg (g.callee nx s' ax n0) Zv v (YX mine nm c seen).1:=
 let ⟨h1,h2⟩:=Z4r (cfg:=cfg) (g:=g) (nm:=nm) (c:=c) (seen:=seen) hmine hok rfl
 ⟨h1,fun s' hs v hr=> h2 s' hs _ (Gh.callee_ren s') v hr⟩
theorem Zcc{mine:Tok->Bool}{nm:Nat->Tok}(hmine:∀ t,mine t=true->st.dead t=false)(hok:∀ j,JY (nm j)=true)(cs:List (C U))(j:Nat)(seen:List (Tok × Tok)):
  Ext seen (Yq mine nm j cs seen).2/\(Yq mine nm j cs seen).1.length=cs.length/\
   ∀ s',Ext (Yq mine nm j cs seen).2 s'->∀ (i:Nat) v c c',cs[i]?=some c->(Yq mine nm j cs seen).1[i]?=some c'->RelC cfg g st.dead v c->RelC cfg (g.callee nx s' ax n0) Zv v c':=
 let ⟨h1,h2,h3⟩:=Z3D (cfg:=cfg) (g:=g) (mine:=mine) (nm:=nm) hmine hok rfl cs j seen
 ⟨h1,h2,fun s' hs i v c c' hc hc' hr=> h3 s' hs _ (Gh.callee_ren s') i v c c' hc hc' hr⟩
theorem Zib{mine:Tok->Bool}{nm:Nat->Tok}{live lx:Name->Bool}(hmine:∀ t,mine t=true->st.dead t=false)(hok:∀ j,JY (nm j)=true){x x':V U}{seen seen':List (Tok × Tok)}(he:Zic mine nm x seen=some (x',seen')):
  Ext seen seen'/\∀ s',Ext seen' s'->∀ v,RelV cfg g st.dead live v x->RelV cfg (g.callee nx s' ax n0) Zv lx v x':=by
 unfold Zic at he
 split at he
 .rename_i c
  simp only [Option.some.injEq,Prod.mk.injEq] at he
  obtain ⟨rfl,rfl⟩:=he
  obtain ⟨h1,h2⟩:=Zgm (n0:=n0) (cfg:=cfg) (g:=g) (nx:=nx) (ax:=ax) (nm:=nm 0) (c:=c) (seen:=seen) hmine (hok 0)
  trivial
 .rename_i cs
  simp only [Option.some.injEq,Prod.mk.injEq] at he
  obtain ⟨rfl,rfl⟩:=he
  obtain ⟨h3,h4,h5⟩:=Zcc (n0:=n0) (cfg:=cfg) (g:=g) (nx:=nx) (ax:=ax) (mine:=mine) (nm:=nm) hmine hok cs 0 seen
  refine ⟨h3,fun s' hs v hr=> ?_⟩
  obtain ⟨vs,rfl,hl,hh⟩:=hr
  refine ⟨vs,rfl,by omega,fun j u c hu hc=> ?_⟩
  grind
 .rename_i f
  simp only [Option.some.injEq,Prod.mk.injEq] at he
  obtain ⟨rfl,rfl⟩:=he
  exact ⟨.refl _,fun s' _ v hr=> hr⟩
 .cases he
def ZcY(os:List (Name × List (C U))):Prop:=∀ (i j:Nat) x y,os[i]?=some x->os[j]?=some y->x.1=y.1->i=j
theorem Z3p:∀ {os:List (Name × List (C U))} {nm:Name} {i:Nat} {x:Name × List (C U)},os[i]?=some x->x.1=nm->Z5q os nm=true
 | (b,cs) ::os,nm,0,x,h,e=> by simp at h;subst h;simp [Z5q];exact .inl e
 | (b,cs) ::os,nm,i+1,x,h,e=> by
  simp at h
  simp only [Z5q,Z3p h e]
  split <;> rfl
theorem Z36:∀ {os:List (Name × List (C U))} {k:Nat} {nm:Name} {i:Nat},Ys os k nm=some i->∃ x,k<=i/\os[i - k]?=some x/\x.1=nm
 | (b,cs) ::os,k,nm,i,h=> by
  simp only [Ys] at h
  split at h
  .simp_all
  .obtain ⟨x,h1,h2,h3⟩:=Z36 h
   grind
theorem Z5V:∀ {os:List (Name × List (C U))} {k:Nat} {nm:Name} {i:Nat} {x:Name × List (C U)},ZcY os->os[i]?=some x->x.1=nm->Ys os k nm=some (k+i)
 | (b,cs) ::os,k,nm,0,x,_,h,e=> by simp at h;subst h;simp [Ys];grind
 | (b,cs) ::os,k,nm,i+1,x,hap,h,e=> by
  simp only [Ys]
  rw [if_neg (fun e'=> by have:=hap 0 (i+1) (b,cs) x rfl h (by simp [e',e]);omega)]
  have:=Z5V (k:=k+1) (nm:=nm) (fun i j x y hx hy he=> by have:=hap (i+1) (j+1) x y (by simpa using hx) (by simpa using hy) he;omega) (by simpa using h) e
  grind
theorem Z6P{os:List (Name × List (C U))}{nm:Name}(h:∀ (i:Nat) x,os[i]?=some x->x.1≠nm)(k:Nat):Ys os k nm=none:=by
 cases hn:Ys os k nm with
 | none=> rfl
 | some i=>
  obtain ⟨x,_,h2,h3⟩:=Z36 hn
  grind
theorem Z31{ps:Nat->Bool}:∀ (xs:List (V U)) (i:Nat) (os:List (Name × List (C U))) (seen:List (Tok × Tok)) (ys:List (V U)) (os':List (Name × List (C U))) (seen':List (Tok × Tok)),
  Yf st ps i xs os seen=some (ys,os',seen')->ZcY os->
  Ext seen seen'/\(∃ more,os'=os++more)/\ZcY os'/\ys.length=xs.length/\
  (∀ (k:Nat) x,os'[k]?=some x->os.length<=k->∃ cs,st.mem x.1=some cs/\x.2.length=cs.length/\
   ∀ s',Ext seen' s'->∀ nx ax (i:Nat) v c c',cs[i]?=some c->x.2[i]?=some c'->RelC cfg g st.dead v c->RelC cfg (g.callee nx s' ax n0) Zv v c')/\
  (∀ s',Ext seen' s'->∀ nx ax,(∀ (k:Nat) x,os'[k]?=some x->ax k=g.ad x.1)->∀ (j:Nat) v x y,xs[j]?=some x->ys[j]?=some y->RelV cfg g st.dead (fun nm=> (st.mem nm).isSome) v x->
   RelV cfg (g.callee nx s' ax n0) Zv (fun nm=> match nm with | .x k=> (os'[k]?).isSome | .loc _=> false) v y)
 | [],i,os,seen,ys,os',seen',h,hap=> by
  simp only [Yf,Option.some.injEq,Prod.mk.injEq] at h
  obtain ⟨rfl,rfl,rfl⟩:=h
  exact ⟨.refl _,⟨[],by simp⟩,hap,rfl,fun k x hx hk=> by grind,fun s' _ nx ax _ j v x y hx=> by simp at hx⟩
 | x0 ::xs,i,os,seen,ys,os',seen',h,hap=> by
  simp only [Yf] at h
  split at h
  .rename_i nm mk hp
   split at h
   .cases h
   .rename_i cs hcs
    split at h
    .cases h
    .rename_i hno
     split at h
     .rename_i vs os1 s1 hrec
      simp only [Option.some.injEq,Prod.mk.injEq] at h
      obtain ⟨rfl,rfl,rfl⟩:=h
      have hmine:∀ t,(fun t=> !st.dead t) t=true->st.dead t=false:=fun t ht=> by simpa using ht
      have hap1:ZcY (os++[(nm,(Yq (fun t=> !st.dead t) (.x os.length) 0 cs seen).1)]):=by
       intro p q x y hx hy he
       rw [Qm] at hx hy
       have single:∀ (r:Nat) (z z0:Name × List (C U)),[z0][r]?=some z->r=0/\z=z0:=by
        intro r z z0 hz
        cases r with
        | zero=> simp at hz;exact ⟨rfl,hz.symm⟩
        | succ r=> simp at hz
       split at hx <;> split at hy
       .exact hap p q x y hx hy he
       .obtain ⟨_,rfl⟩:=single _ _ _ hy
        exact absurd (Z3p hx he) hno
       .obtain ⟨_,rfl⟩:=single _ _ _ hx
        exact absurd (Z3p hy he.symm) hno
       .grind
      obtain ⟨r1,⟨more,r2⟩,r3,r4,r5,r6⟩:=Z31 xs (i+1) _ _ _ _ _ hrec hap1
      have hC:=fun nx ax=> Zcc (n0:=n0) (cfg:=cfg) (g:=g) (nx:=nx) (ax:=ax) (mine:=fun t=> !st.dead t) (nm:= .x os.length) hmine (fun _=> rfl) cs 0 seen
      have hat:os1[os.length]?=some (nm,(Yq (fun t=> !st.dead t) (.x os.length) 0 cs seen).1):=by
       rw [r2,QM,Qe (Qn _)];simp
      refine ⟨(hC (fun _=> none) (fun _=> ⟨0,0,none⟩)).1.trans r1,⟨(nm,(Yq (fun t=> !st.dead t) (.x os.length) 0 cs seen).1) ::more,by rw [r2];simp⟩,r3,by simp [r4],?_,?_⟩
      .intro k x hx hk
       by_cases e:k=os.length
       .subst e
        rw [hat] at hx
        cases hx
        exact ⟨cs,hcs,(hC (fun _=> none) (fun _=> ⟨0,0,none⟩)).2.1,fun s' hs nx ax q v c c' h1 h2 h3=> (hC nx ax).2.2 s' (r1.trans hs) q v c c' h1 h2 h3⟩
       .exact r5 k x hx (by simp;omega)
      .intro s' hs nx ax hax j v x y hx hy hr
       cases j with
       | zero=>
        simp at hx hy
        subst hx hy
        have:=hax _ _ hat
        simp only at this
        cases x0 <;> simp only [Zgl,reduceCtorEq] at hp
        case ptr nm0 Zdz=>
         cases hp
         obtain ⟨_,rfl⟩:=hr
         exact ⟨by simp [hat],by simp [Gh.callee,this]⟩
        case clo f0 nms0=>
         split at hp
         .grind
         .rename_i f1 nm1 heq
          cases heq
          cases hp
          obtain ⟨_,rfl⟩:=hr
          refine ⟨fun n hn=> ?_,by simp [Gh.callee,this]⟩
          grind
         .cases hp
       | succ j=> exact r6 s' hs nx ax hax j v x y (by simpa using hx) (by simpa using hy) hr
     .cases h
  .rename_i hp
   split at h
   .cases h
   .rename_i v' seen1 hv
    split at h
    .rename_i vs os1 s1 hrec
     simp only [Option.some.injEq,Prod.mk.injEq] at h
     obtain ⟨rfl,rfl,rfl⟩:=h
     obtain ⟨r1,r2,r3,r4,r5,r6⟩:=Z31 xs (i+1) _ _ _ _ _ hrec hap
     have hmine:∀ t,(fun t=> ps i && !st.dead t) t=true->st.dead t=false:=fun t ht=> by grind
     have hV:=fun nx ax lx=> Zib (n0:=n0) (cfg:=cfg) (g:=g) (nx:=nx) (ax:=ax) (live:=fun nm=> (st.mem nm).isSome) (lx:=lx) hmine (fun _=> rfl) hv
     refine ⟨(hV (fun _=> none) (fun _=> ⟨0,0,none⟩) (fun _=> true)).1.trans r1,r2,r3,by simp [r4],r5,?_⟩
     intro s' hs nx ax hax j v x y hx hy hr
     cases j with
     | zero=>
      simp at hx hy
      subst hx hy
      exact (hV nx ax _).2 s' (r1.trans hs) v hr
     | succ j=> grind
    .cases h
end pass
def Gh.back(g':Gh)(os:List (Name × List (C U)))(d:Nat)(ad:Name->Addr)(L:List (Tok × LC U))(bs:Tok->Option (Value × Nat))(n:Nat):Gh:=
 {m:=g'.m
  tag:=fun c=> match g'.tag c with
   | some (.outer t)=> some t
   | some (.obj (.x k))=> (os[k]?).map fun x=> .obj x.1
   | some (.tok t)=> (Zx d t).map .tok
   | _=> none
  ad:=ad
  bs:=fun t=> match bs t with
   | some v=> some v
   | none=> match YV d t with
    | some t'=> match Z7 (fun _=> none) L t'.root with
     | some _=> match t' with
      | .S v i=> if n < v then g'.bs (.S (v - n) i) else none
      | t'=> g'.bs t'
     | none=> none
    | none=> none }
theorem Z13{d:Nat}{t t':Tok}(h:Zx d t=some t'):YV d t'=some t:=by
 unfold Zx at h
 split at h
 .rename_i j
  cases h
  simp only [YV,if_true]
  grind
 .cases h;rfl
 .cases h;rfl
 .rename_i k j
  split at h
  .rename_i hj
   cases h
   simp only [YV,if_true]
   grind
  .cases h
 .cases h
section back
variable {g':Gh} {os:List (Name × List (C U))} {d:Nat} {ad:Name->Addr} {L:List (Tok × LC U)} {bs:Tok->Option (Value × Nat)} {dead:Tok->Bool} {live lv:Name->Bool} {fx:Nat->Option Nat} {n1:Nat}
theorem RelC.back(hbs:∀ t t',JJ d L t=some t'->bs t'=none\/bs t'=g'.bs t)(hx:∀ k k',fx k=some k'->g'.ad (.x k)=ad (.x k')){v:Value}{c:C U}(h:RelC cfg g' Zv v c):RelC cfg (g'.back os d ad L bs n1) dead v (c.mapTok (Zx d) (JJ d L) fx):=by
 obtain ⟨h1,h2⟩:=h
 cases c with
 | slice T l tl=>
  cases tl with
  | unk=> trivial
  | full=> trivial
  | own t=>
   simp only [C.mapTok]
   cases hb:Zx d t with
   | none=> exact ⟨h1.tl _,trivial⟩
   | some t'=>
    refine ⟨h1.tl _,fun _ hA b len cap hv j hj1 hj2=> ?_⟩
    have:=h2 rfl (by cases t <;> first | rfl | (cases hb;exact hA)) b len cap hv j hj1 hj2
    simp only [Gh.back,this,hb,Q5]
 | mref t=>
  simp only [C.mapTok]
  cases hb:JJ d L t with
  | none=> exact ⟨.jk _ h1.one,trivial⟩
  | some t'=>
   refine ⟨.mref _ _ h1.one,fun _=> ?_⟩
   obtain ⟨sz,hs⟩:=h2 rfl
   refine ⟨sz,?_⟩
   have h0:=hbs t t' hb
   have hr:t.root=t:=by cases t <;> first | rfl | cases hb
   have hb':∃ x,Z7 (fun _=> none) L t=some x/\Zx d t=some t':=by
    cases t with
    | S v i=> cases hb
    | _=>
     simp only [JJ] at hb
     split at hb
     .rename_i x hx;exact ⟨x,hx,hb⟩
     .cases hb
   obtain ⟨x,hL,hb'⟩:=hb'
   rcases h0 with h0 | h0
   .simp only [Gh.back,h0,Z13 hb',hr,hL]
    cases t <;> first | exact hs | cases hb
   .simp only [Gh.back,h0,hs]
 | xp k=>
  simp only [C.mapTok]
  cases hk:fx k with
  | none=> exact ⟨.jk _ h1.one,trivial⟩
  | some k'=>
   refine ⟨.xp _ _ h1.one,?_⟩
   have h3:v= .pointer (some (g'.ad (.x k))):=h2
   show v= .pointer (some (ad (.x k')))
   grind
 | _=> trivial
theorem RelL.back(hbs:∀ t t',JJ d L t=some t'->bs t'=none\/bs t'=g'.bs t)(hx:∀ k k',fx k=some k'->g'.ad (.x k)=ad (.x k')){vs:List Value}{cs:List (C U)}(h:RelL cfg g' Zv vs cs):RelL cfg (g'.back os d ad L bs n1) dead vs (cs.map (C.mapTok (Zx d) (JJ d L) fx)):=by
 refine ⟨by simp [h.1],fun j v c hv hc=> ?_⟩
 rw [Qa] at hc
 cases hcj:cs[j]? with
 | none=> grind
 | some c0=>
  simp [hcj] at hc
  subst hc
  exact (h.2 j v c0 hv hcj).back hbs hx
theorem RelV.back(hbs:∀ t t',JJ d L t=some t'->bs t'=none\/bs t'=g'.bs t)(hx:∀ k k',fx k=some k'->g'.ad (.x k)=ad (.x k')){v:Value}:∀ {x:V U},RelV cfg g' Zv (fun _=> false) v x->RelV cfg (g'.back os d ad L bs n1) dead live v (x.mapTok (Zx d) (JJ d L) fx)
 | .c x,h=> RelC.back hbs hx (c:=x) h
 | .agg cs,h=> by obtain ⟨vs,h1,h2⟩:=h;exact ⟨vs,h1,h2.back hbs hx⟩
 | .tup ws,h=> by
  obtain ⟨vs,h1,h2,h3⟩:=h
  refine ⟨vs,h1,by simp [h2],fun j u w hu hw=> ?_⟩
  rw [Qa] at hw
  cases hj:ws[j]? with
  | none=> grind
  | some w0=>
   simp [hj] at hw
   subst hw
   have:=h3 j u w0 hu hj
   obtain ⟨ag,cs⟩:=w0
   cases ag with
   | true=> obtain ⟨vs,h4,h5⟩:=this;exact ⟨vs,h4,h5.back hbs hx⟩
   | false=> obtain ⟨c,h4,h5⟩:=this;simp only at h4;subst h4;exact ⟨_,rfl,h5.back hbs hx⟩
 | .ptr ..,_=> trivial
 | .ap ..,_=> trivial
 | .ep cs,h=> by
  obtain ⟨b,h1,h2⟩:=h
  refine ⟨b,h1,fun j c hc=> ?_⟩
  rw [Qa] at hc
  cases hcj:cs[j]? with
  | none=> grind
  | some c0=>
   simp [hcj] at hc
   subst hc
   obtain ⟨u,h3,h4⟩:=h2 j c0 hcj
   exact ⟨u,h3,h4.back hbs hx⟩
 | .fn f,h=> h
 | .mp ..,_=> trivial
 | .vw ..,_=> trivial
 | .clo ..,_=> trivial
 | .gd b x,h=> ⟨fun hb=> RelV.back hbs hx (h.1 hb),h.2⟩
 | .nb _ _,h=> h
 | .ar ..,_=> trivial
 | .junk,_=> trivial
end back
theorem Z6U{d:Nat}:∀ {L l:List (Tok × LC U)},Jl st d L=some l->
  (∀ t x,Z7 (fun _=> none) L t=some x->∃ t',Zx d t=some t'/\Z0S st t'=true/\Z7 st.ls l t'=some (Z0I st t' x))/\
  (∀ t' x,Z7 st.ls l t'=some x->(st.ls t'=some x/\∀ t,Zx d t=some t'->Z7 (fun _=> none) L t=none)\/∃ t x0,Z7 (fun _=> none) L t=some x0/\x=Z0I st t' x0/\Zx d t=some t'/\Z0S st t'=true)
 | [],l,h=> by
  simp only [Jl,Option.some.injEq] at h
  subst h
  exact ⟨fun t x hx=> by trivial,fun t' x hx=> .inl ⟨hx,fun t _=> rfl⟩⟩
 | (t0,x0) ::L,l,h=> by
  simp only [Jl] at h
  split at h
  case h_2=> cases h
  rename_i t1 l1 h1 h2
  split at h
  case isFalse=> cases h
  rename_i hc
  simp only [Option.some.injEq] at h
  subst h
  obtain ⟨ih1,ih2⟩:=Z6U h2
  have inj:∀ {t:Tok},Zx d t=some t1->t=t0:=by
   intro t ht
   have e1:=Z13 ht
   have e2:=Z13 h1
   rw [e1] at e2
   exact Option.some.inj e2
  refine ⟨fun t x hx=> ?_,fun t' x hx=> ?_⟩
  .simp only [Z7] at hx
   split at hx
   .rename_i e
    subst e
    cases hx
    exact ⟨t1,h1,hc,by simp [Z7]⟩
   .rename_i e
    obtain ⟨t',g1,g2,g3⟩:=ih1 t x hx
    refine ⟨t',g1,g2,?_⟩
    simp only [Z7]
    grind
  .simp only [Z7] at hx
   split at hx
   .rename_i e
    subst e
    cases hx
    exact .inr ⟨t0,x0,by simp [Z7],rfl,h1,hc⟩
   .rename_i e
    rcases ih2 t' x hx with ⟨g1,g2⟩ | ⟨t,y,g1,g0,g2,g3⟩
    .refine .inl ⟨g1,fun t ht=> ?_⟩
     simp only [Z7]
     grind
    .refine .inr ⟨t,y,?_,g0,g2,g3⟩
     simp only [Z7]
     grind
theorem Z5g{d:Nat}{L:List (Tok × LC U)}{fx:Nat->Option Nat}:∀ {os:List (Name × List (C U))} {xs:List (List (C U))} {m:List (Name × List (C U))},Z27 d L fx os xs=some m->
  xs.length=os.length/\m.length=os.length/\∀ (k:Nat) x cs,os[k]?=some x->xs[k]?=some cs->m[k]?=some (x.1,cs.map (C.mapTok (Zx d) (JJ d L) fx))
 | [],[],m,h=> by simp only [Z27,Option.some.injEq] at h;grind
 | (nm,_) ::os,cs0 ::xs,m,h=> by
  simp only [Z27] at h
  cases hr:Z27 d L fx os xs with
  | none=> simp [hr] at h
  | some m'=>
   simp only [hr,Q5,Option.some.injEq] at h
   subst h
   obtain ⟨h1,h2,h3⟩:=Z5g hr
   grind
theorem Yk(m0:Name->Option (List (C U))):∀ (m:List (Name × List (C U))) (nm:Name),(∃ (k:Nat) (cs:List (C U)),m[k]?=some (nm,cs)/\Zz m0 m nm=some cs)\/((∀ (k:Nat) x,m[k]?=some x->x.1≠nm)/\Zz m0 m nm=m0 nm)
 | [],nm=> .inr ⟨fun k x hx=> by simp at hx,rfl⟩
 | (a,cs) ::r,nm=> by
  simp only [Zz]
  split
  .rename_i e
   subst e
   exact .inl ⟨0,cs,rfl,rfl⟩
  .rename_i e
   rcases Yk m0 r nm with ⟨k,cs',h1,h2⟩ | ⟨h1,h2⟩
   .exact .inl ⟨k+1,cs',by simpa using h1,h2⟩
   grind
theorem Zai{xs:List Operand}{vs:List (V U)}(hm:xs.mapM st.opnd=some vs)(hop:∀ x∈xs,∀ v,st.opnd x=some v->RelV cfg g st.dead (fun nm=> (st.mem nm).isSome) (a.eval x) v):
  (xs.map a.eval).length=vs.length/\∀ (j:Nat) u x,(xs.map a.eval)[j]?=some u->vs[j]?=some x->RelV cfg g st.dead (fun nm=> (st.mem nm).isSome) u x:=by
 have hlen:∀ {xs:List Operand} {vs:List (V U)},xs.mapM st.opnd=some vs->xs.length=vs.length:=by
  intro xs
  induction xs with
  | nil=> grind
  | cons y xs ih=>
   intro vs h
   rw [QF] at h
   cases h1:st.opnd y with
   | none=> simp [h1] at h
   | some v=>
    cases h2:xs.mapM st.opnd with
    | none=> grind
    | some r=>
     simp [h1,h2] at h
     grind
 refine ⟨by simp [hlen hm],fun j u x hu hx=> ?_⟩
 rw [Qa] at hu
 cases hj:xs[j]? with
 | none=> grind
 | some y=>
  simp [hj] at hu
  subst hu
  obtain ⟨v,h1,h2⟩:=Z38 hm j y hj
  grind
theorem ZcB(os:List (Name × List (C U))):∀ (cs0 cs:List (C U)),cs.length=cs0.length->(ZcC os cs0 cs).length=cs.length
 | [],cs,h=> by rfl
 | c0 ::cs0,[],h=> by cases h
 | c0 ::cs0,c ::cs,h=> by
  have ih:=ZcB os cs0 cs (by simpa using h)
  cases c0 <;> simp [ZcC,ih]
theorem Zat(os:List (Name × List (C U))):∀ (cs0 cs:List (C U)) (j:Nat) (c0 c:C U),cs.length=cs0.length->cs0[j]?=some c0->(ZcC os cs0 cs)[j]?=some c->
  cs[j]?=some c\/∃ k k',c0= .xp k/\Ys os 0 (.x k)=some k'/\c= .xp k'
 | [],cs,j,c0,c,_,h,_=> by simp at h
 | d0 ::cs0,[],j,c0,c,hl,_,_=> by cases hl
 | d0 ::cs0,d ::cs,0,c0,c,hl,h0,h=> by
  simp at h0
  subst h0
  cases d0 with
  | xp k=>
   simp only [ZcC] at h
   grind
  | _=> exact .inl (by trivial)
 | d0 ::cs0,d ::cs,j+1,c0,c,hl,h0,h=> by
  have ih:=Zat os cs0 cs j c0 c (by simpa using hl) (by simpa using h0)
  cases d0 <;> (simp only [ZcC,List.getElem?_cons_succ] at h ⊢;exact ih h)
theorem ARel.shift {g2:Gh} {l:List AState} {n m:Nat} (ht:∀ t c,t.isA=true->g.tag c=some (.tok t)->g2.tag c=some (.tok t)) (hA:g2.bs .A=g.bs .A)
  (hS:∀ k i,g2.bs (.S (m+1+k) i)=g.bs (.S (n+1+k) i)) (h:ARel w g l n):ARel w g2 l m:=by
 have ht2:∀ t c,t.isA=true->g.tag c=some (.tok t)->g2.tag c=some (.tok t)/\w.cell? c=w.cell? c:=fun t c h1 h2=> ⟨ht t c h1 h2,rfl⟩
 have now:∀ {S a v hs},ANow w g n S a v hs->ANow w g2 m S a v hs:=by
  intro S a v hs h
  exact ⟨by rw [hA];exact h.bs,fun j hj=> ht _ _ rfl (h.tag j hj),h.c0,h.c1,h.c2,h.c3,h.own.keep ht2,(hS 0 0).trans h.h0,fun i hi=> (hS 0 (i+1)).trans (h.hi i hi)⟩
 match l,h with
 | [S],⟨a,v,hs,h1,h2⟩=>
  refine ⟨a,v,hs,now h1,fun m' i hm=> ?_⟩
  rw [show m'=m+1+(m' - (m+1)) by omega,hS]
  exact h2 _ _ (by omega)
 | [S,P],⟨a,v,hs,h1,h2,h3⟩=>
  refine ⟨a,v,hs,now h1,fun m' i hm=> ?_,?_⟩
  .rw [show m'=m+1+(m' - (m+1)) by omega,hS]
   exact h2 _ _ (by omega)
  .rcases h3 with ⟨i,l,v,e1,e2,e3,e4,e5⟩ | ⟨L,v,hs,e2,e3,e4,e5⟩
   .exact .inl ⟨i,l,v,e1,e2,(hS 1 _).trans e3,fun j hj=> (hS 1 j).trans (e4 j hj),e5.keep ht2⟩
   .exact .inr ⟨L,v,hs,e2,(hS 1 _).trans e3,fun j hj=> (hS 1 j).trans (e4 j hj),e5.keep ht2⟩
theorem ARel.past{l:List AState}{n m i:Nat}(h:ARel w g l n)(hm:n+2 < m):g.bs (.S m i)=none:=by
 match l,h with
 | [S],⟨_,_,_,_,h2⟩=> exact h2 m i (by omega)
 | [S,P],⟨_,_,_,_,h2,_⟩=> exact h2 m i hm
theorem Z99 {Γ:Known U} (hΓ:∀ f s,Γ f=some s->Contract P cfg f s) (h:Rel cfg B st g a w) {o:Oper} {c:Call} {gx:Operand} {f:FuncId} {args:List (V U)} {ps:List Prop} {e:Eff U} {d:Nat}
  (ho:o.op= .call c) (hc:c.callee= .value gx) {caps:List Value} (hg:a.eval gx= .func (.func f) #[] caps.toArray)
  (hargs:(c.args.toList.map a.eval++caps).length=args.length/\∀ (j:Nat) u x,(c.args.toList.map a.eval++caps)[j]?=some u->args[j]?=some x->RelV cfg g st.dead (fun nm=> (st.mem nm).isSome) u x)
  (he:Z2v Γ st d f args=some (ps,e)) (hps:All ps):
  Does P o a w fun v w'=> ∃ g',Out cfg B st g e v w' g':=by
 unfold Z2v at he
 split at he
 .cases he
 rename_i s hs
 split at he
 .cases he
 rename_i ys os toks hpass
 split at he
 .cases he
 rename_i ps' r xs L0 hfn
 rw [cond_eq_ite] at he
 split at he
 .cases he
 rename_i hnp
 have hnp:∀ k,r≠.ptr (.x k) 0:=fun k e=> hnp (by rw [e];rfl)
 split at he
 case h_2=> cases he
 rename_i m ll hmb hlb
 rw [cond_eq_ite] at he
 split at he
 case isFalse=> cases he
 rename_i hAA
 unfold ZbB at hAA
 have hA1:Zq toks .A=none->Z7 (fun _=> none) L0 .A=none/\Zu toks .A=none:=fun e=> by
  rw [e] at hAA;simpa using hAA
 have hA2:∀ x,Z7 (fun _=> none) L0 .A=some x->Zu toks .A=some .A:=fun x hx=> by
  cases e:Zq toks .A with
  | none=> rw [(hA1 e).1] at hx;cases hx
  | some t=> rw [e] at hAA;simp only [Q3,decide_eq_true_eq] at hAA;exact hAA.1
 have hA3:Z7 (fun _=> none) L0 .A=none->Zq toks .A=none:=fun hx=> by
  cases e:Zq toks .A with
  | none=> rfl
  | some t=> rw [e] at hAA;simp [hx] at hAA
 have hA4:Z7 (fun _=> none) (bif s.wr then YN st.ls toks (toks.map (·.2)) else []) .A=none->Zq toks .A=none:=fun hx=> by
  cases e:Zq toks .A with
  | none=> rfl
  | some t=> rw [e] at hAA;simp [hx] at hAA
 have hA5:∀ x,Z7 (fun _=> none) L0 .A=some x->∃ y,st.ls .A=some y:=fun x hx=> by
  cases hi:Z7 (fun _=> none) (bif s.wr then YN st.ls toks (toks.map (·.2)) else []) .A with
  | none=> rw [(hA1 (hA4 hi)).1] at hx;cases hx
  | some z=>
   cases hw:s.wr with
   | false=> rw [hw] at hi;cases hi
   | true=>
    rw [hw] at hi
    obtain ⟨u,y,h5,_,h7,_⟩:=J5 _ hi
    rw [hA2 x hx] at h5
    cases h5
    exact ⟨y,h7⟩
 simp only [Option.some.injEq,Prod.mk.injEq] at he
 obtain ⟨rfl,rfl⟩:=he
 obtain ⟨q1,q2⟩:=Z6U hlb
 obtain ⟨⟨fn,hf1,hf2,hf3⟩,hcon⟩:=hΓ f s hs
 let n0:Nat:=match st.ls .A with
  | some y=> y.f
  | none=> 0
 let n1:Nat:=n0+2
 obtain ⟨p1,_,p3,p4,p5,p6⟩:=Z31 (cfg:=cfg) (g:=g) _ _ _ _ _ _ _ hpass (fun i j x y hx=> by simp at hx)
 obtain ⟨b1,b2,b3⟩:=Z5g hmb
 let ax:Nat->Addr:=fun k=> ((os[k]?).map fun x=> g.ad x.1).getD ⟨0,0,none⟩
 have hax:∀ (k:Nat) x,os[k]?=some x->ax k=g.ad x.1:=fun k x hx=> by simp [ax,hx]
 let gc:=g.callee (Ys os 0) toks ax n0
 let XS:=os.map fun x=> ZgQ st os (x.2,x.1)
 have htag:∀ c t,gc.tag c=some (.outer t)↔(g.tag c=some t/\(∀ nm,t= .obj nm->Ys os 0 nm=none)/\(∀ u,t= .tok u->Yj toks u=none)):=fun c t=> Z98
 have hsome:∀ c t,gc.tag c=some t->∃ t0,g.tag c=some t0:=fun c t=> Z3u
 have hnone:∀ c,g.tag c=none->gc.tag c=none:=fun c=> Z3v
 have hentry:Entry cfg w gc (c.args.toList.map a.eval++caps) (ys.take args.length) XS (bif s.wr then YN st.ls toks (toks.map (·.2)) else []):=by
  refine ⟨⟨fun c v hv=> ?_,fun c t ht=> ?_⟩,fun c t ht=> ?_,by rw [hargs.1,Qd,p4,Qb];omega,fun j v x hv hx=> ?_,fun k cs hk j c hj=> ?_,fun t ht=> (by simp only [gc,Gh.callee,ht,if_true]),fun t x hx=> ?_,fun hn t ht=> ?_⟩
  rotate_right
  .have e:=hA4 hn
   have e2:=(hA1 e).2
   have hR:t.isR=false:=by cases t <;> first | rfl | cases ht
   simp only [gc,Gh.callee,hR,Qs,if_false]
   cases t with
   | A=> simp only [Jv,e2]
   | S v i=> simp only [Jv,e]
   | _=> cases ht
  .obtain ⟨h1,h2⟩:=h.inv.im c v hv
   exact ⟨h1,hnone c h2⟩
  .obtain ⟨t0,ht0⟩:=hsome c t ht
   exact h.inv.it c t0 ht0
  .simp only [gc,Gh.callee] at ht
   split at ht
   .split at ht
    .cases ht;exact .inr (.inl ⟨_,rfl⟩)
    .cases ht;exact .inl ⟨_,rfl⟩
   .split at ht
    .cases ht;exact .inr (.inr ⟨_,rfl⟩)
    .cases ht;exact .inl ⟨_,rfl⟩
   .cases ht;exact .inl ⟨_,rfl⟩
   .cases ht
  .rw [QV] at hx
   split at hx
   case isFalse=> cases hx
   rename_i hj
   have hax':=Q0 hj
   have hax2:(args++Z0n st args)[j]?=some args[j]:=by rw [Qf hj];exact hax'
   have:=p6 toks (.refl _) (Ys os 0) ax hax j v _ x hax2 hx (hargs.2 j v _ hv hax')
   have hl:Z5j XS=fun nm:Name=> match nm with | .x k=> (os[k]?).isSome | .loc _=> false:=by
    funext nm;cases nm <;> simp [Z5j,XS]
   rw [hl]
   exact this
  .simp only [XS] at hk
   rw [Qa] at hk
   cases hx:os[k]? with
   | none=> simp [hx] at hk
   | some x=>
    simp [hx] at hk
    subst hk
    obtain ⟨cs0,h1,h2,h3⟩:=p5 k x hx (by simp)
    simp only [ZgQ,h1] at hj
    have hj0:j < cs0.length:=by have:=(Q1.1 hj).1;rw [ZcB os _ _ h2] at this;omega
    obtain ⟨v,h4,h5,h6⟩:=h.mem x.1 cs0 h1 j _ (Q0 hj0)
    have had:gc.ad (.x k)=g.ad x.1:=hax k x hx
    rw [had]
    refine ⟨v,h4,?_,?_⟩
    rotate_left
    .rcases Zat os _ _ j _ c h2 (Q0 hj0) hj with hj1 | ⟨q,q',e0,hq,rfl⟩
     .exact h3 toks (.refl _) _ _ j v _ c (Q0 hj0) hj1 h6
     .rw [e0] at h6
      have e1:v= .pointer (some (g.ad (.x q))):=h6.2
      obtain ⟨y,_,hy,hy1⟩:=Z36 hq
      refine ⟨.xp _ _ h6.1.one,?_⟩
      show v= .pointer (some (ax q'))
      rw [hax q' y (by simpa using hy),hy1,e1]
    have hn:Ys os 0 x.1=some k:=by have:=Z5V (k:=0) p3 hx rfl;simpa using this
    simp only [gc,Gh.callee,h5,hn]
  .have hx:Z7 (fun _=> none) (YN st.ls toks (toks.map (·.2))) t=some x:=by
    cases hw:s.wr with
    | true=> rw [hw] at hx;exact hx
    | false=> rw [hw] at hx;cases hx
   obtain ⟨u,y,h5,h6,h7,rfl,h8,h9,h10⟩:=J5 _ hx
   obtain ⟨_,hL⟩:=h.ls u y h7
   rcases hL with ⟨hT,hu,hL⟩ | ⟨f0,hT,rfl,hL⟩
   case inr=>
    obtain rfl:=h9 rfl
    refine .inr ⟨f0,hT,rfl,ARel.shift (fun t c ht hc=> ?_) ?_ (fun k i=> ?_) hL⟩
    .have h11:Yj toks t=some t:=by
      cases t with
      | A=> exact h6
      | S v i=>
       have:Zq toks .A=some .A:=h6
       simp [Yj,this]
      | _=> cases ht
     simp only [gc,Gh.callee,hc,h11]
    .simp only [gc,Gh.callee,Tok.isR,Qs,if_false,Jv,h5]
    .have:Zq toks .A=some .A:=h6
     have h12:n0=y.f:=by simp only [n0,h7]
     simp only [gc,Gh.callee,Tok.isR,Qs,if_false,Jv,this,h12,LC.at0,Tok.isA,cond_true]
     rw [show 0+1+k=k+1 by omega]
     simp only
     rw [show k+1+y.f=y.f+1+k by omega]
   have ht:=h10 hu
   have hbs:gc.bs t=g.bs u:=by
    have:Jv g toks n0 t=g.bs u:=by
     unfold Jv
     split
     .cases ht
     .rw [h5]
    simp only [gc,Gh.callee,h8,Qs,if_false,this]
   have e0:y.at0 t=y:=by simp only [LC.at0,ht,cond_false]
   rw [e0]
   refine .inl ⟨hT,ht,?_⟩
   have htg:∀ c,g.tag c=some (.tok u)->gc.tag c=some (.tok t):=fun c hc=> by simp only [gc,Gh.callee,hc,h6]
   rcases hL with ⟨e1,e2⟩ | ⟨b,len,cap,e1,e2,e3,e4,e5,e6⟩
   .exact .inl ⟨hbs.trans e1,e2⟩
   .refine .inr ⟨b,len,cap,hbs.trans e1,e2,e3,e4,fun i y hy j c hc=> ?_,fun j a1 a2=> htg _ (e6 j a1 a2)⟩
    obtain ⟨v,e7,e8,e9,e10⟩:=e5 i y hy j c hc
    exact ⟨v,e7,e8,e9,fun hi=> htg _ (e10 hi)⟩
 have hcall:=hcon (ys.take args.length) XS _ _ r xs L0 hfn hps (by rw [b1];simp [XS]) w gc _ hentry
 refine .inr (.inr ⟨f,(c.args.toList.map a.eval++caps).toArray,w,?_,Calls.mono hcall ?_⟩)
 .have hb:fn.body.isNone=false:=by cases hfb:fn.body <;> simp_all
  simp only [execOp,ho,resolve,hc,hg,Deferred.ofValue,Sem.run_bind,Sem.run_pure,Result.andThen_ok,invoke,callFunc,run_program,hf1]
  simp [hf3,hb]
 .rintro e' w' ⟨v,g',rfl,L⟩
  refine ⟨v,rfl,g'.back os d g.ad L0 g.bs n1,?_⟩
  have hgm:gc.m=g.m:=rfl
  have hback:∀ c t,g.tag c=some t->(∀ nm,t= .obj nm->Ys os 0 nm=none)->(∀ u,t= .tok u->Yj toks u=none)->(g'.back os d g.ad L0 g.bs n1).tag c=some t/\w'.cell? c=w.cell? c:=by
   intro c t h1 h2 h3
   have:=L.fr.outer c t ((htag c t).2 ⟨h1,h2,h3⟩)
   exact ⟨by simp only [Gh.back,this.1],this.2⟩
  have hbtag:∀ c t,(g'.back os d g.ad L0 g.bs n1).tag c=some t->∃ t',g'.tag c=some t':=by
   intro c t ht
   simp only [Gh.back] at ht
   cases hgt:g'.tag c with
   | none=> simp [hgt] at ht
   | some t'=> exact ⟨t',rfl⟩
  have hctn:∀ t,(((toks.map (·.1)).filter fun t=> !t.isA).contains t)=(!t.isA && (toks.map (·.1)).contains t):=by
   intro t
   rw [QO]
   simp only [List.contains_iff_mem,List.mem_filter,Q3]
   exact and_comm
  have hdl:∀ t,Zb st ({ val:=some (r.mapTok (Zx d) (JJ d L0) (Z2u os)),mem:=m,kill:=(toks.map (·.1)).filter fun t=> !t.isA,ls:=ll }:Eff U) t=false->st.dead t=false/\(t.isA=false->Yj toks t=none):=by
   intro t ht
   simp only [Zb,Qi,hctn] at ht
   refine ⟨ht.1,fun hA=> ?_⟩
   rw [Z6N hA]
   cases hn:Zq toks t with
   | none=> rfl
   | some t'=> have:=Z8K hn;rw [hA,this] at ht;cases ht.2
  have hAno:Zq toks .A=none->∀ u,u.isA=true->Yj toks u=none:=by
   intro e u hu
   cases u with
   | A=> exact e
   | S v i=> simp [Yj,e]
   | _=> cases hu
  have hbA:∀ x,Z7 (fun _=> none) L0 .A=some x->∃ y,st.ls .A=some y/\n0=y.f/\g.bs .A=g'.bs .A/\∀ m' i,n1 < m'->g.bs (.S m' i)=none:=by
   intro x hx
   obtain ⟨y,hy⟩:=hA5 x hx
   have hn0:n0=y.f:=by simp only [n0,hy]
   obtain ⟨_,hL⟩:=h.ls .A y hy
   rcases hL with ⟨_,e,_⟩ | ⟨f0,hT,_,hL⟩
   .cases e
   refine ⟨y,hy,hn0,?_,fun m' i hm=> hL.past (by simp only [n1,hn0] at hm;omega)⟩
   obtain ⟨a0,s0,ha⟩:=hL.ptr
   have h1:gc.bs .A=g.bs .A:=by simp only [gc,Gh.callee,Tok.isR,Qs,if_false,Jv,hA2 x hx]
   have h2:=L.fr.ab (.pointer (some a0),s0) (h1.trans ha)
   rw [ha,h2]
  have hkeep:Keeps g (g'.back os d g.ad L0 g.bs n1) st.dead (Zb st ({ val:=some (r.mapTok (Zx d) (JJ d L0) (Z2u os)),mem:=m,kill:=(toks.map (·.1)).filter fun t=> !t.isA,ls:=ll }:Eff U)) (fun nm=> (st.mem nm).isSome) (ZK st ({ val:=some (r.mapTok (Zx d) (JJ d L0) (Z2u os)),mem:=m,kill:=(toks.map (·.1)).filter fun t=> !t.isA,ls:=ll }:Eff U)):=by
   refine ⟨fun c v hv=> L.fr.mono c v hv,fun c t hd hA ht=> ?_,fun t ht=> (hdl t ht).1,fun nm hn=> ⟨?_,rfl⟩,fun t v _ hv=> by simp only [Gh.back,hv],fun _=> rfl,fun t _ v hv=> by simp only [Gh.back,hv]⟩
   .exact (hback c _ ht (fun nm e=> by cases e) (fun u e=> by cases e;exact (hdl _ hd).2 hA)).1
   .simp only [ZK]
    rcases Yk st.mem m nm with ⟨k,cs,_,h2⟩ | ⟨_,h2⟩
    .rw [h2];try rfl
    .rw [h2];exact hn
  have hbR:∀ t t',Zx d t=some t'->t.isA=t'.isA/\(t'.isA=false->t'.isR=true)/\(t= .A↔t'= .A)/\(t'.isA=false->t'.root=t'):=by
   intro t t' hb
   unfold Zx at hb
   split at hb
   .cases hb;exact ⟨rfl,fun _=> rfl,by simp,fun _=> rfl⟩
   .cases hb;exact ⟨rfl,(fun e=> by cases e),by simp,fun _=> rfl⟩
   .cases hb;exact ⟨rfl,(fun e=> by cases e),by simp,(fun e=> by cases e)⟩
   .split at hb
    .cases hb;exact ⟨rfl,fun _=> rfl,by simp,fun _=> rfl⟩
    .cases hb
   .cases hb
  have hb0:∀ t x t',Z7 (fun _=> none) L0 t=some x->Zx d t=some t'->t'.isA=false->g.bs t'=none:=by
   intro t x t' hx hb hA
   obtain ⟨t2,g1,g2,_⟩:=q1 t x hx
   rw [hb] at g1
   cases g1
   have g3:(st.ls t').isNone=true/\st.dead t'=false:=by
    cases t' with
    | A=> cases hA
    | S v i=> cases hA
    | _=> simpa [Z0S] using g2
   obtain ⟨_,hr,_,hr2⟩:=hbR t t' hb
   exact h.fresh t' (by rw [hr hA];rfl) (by rw [hr2 hA];simpa using g3.1) (by rw [hr2 hA];exact g3.2)
  have hbs:∀ t t',JJ d L0 t=some t'->g.bs t'=none\/g.bs t'=g'.bs t:=by
   intro t t' hb
   have hb':∃ x,Z7 (fun _=> none) L0 t=some x/\Zx d t=some t':=by
    cases t with
    | S v i=> cases hb
    | _=>
     simp only [JJ] at hb
     split at hb
     .rename_i x hx;exact ⟨x,hx,hb⟩
     .cases hb
   obtain ⟨x,hx,hb'⟩:=hb'
   cases hA:t'.isA with
   | false=> exact .inl (hb0 t x t' hx hb' hA)
   | true=>
    have e:t= .A:=by
     cases t with
     | A=> rfl
     | S v i=> cases hb
     | _=> have:=(hbR _ _ hb').1;rw [hA] at this;cases this
    subst e
    cases hb'
    obtain ⟨_,_,_,e,_⟩:=hbA x hx
    exact .inr e
  have hbx:∀ k k',Z2u os k=some k'->g'.ad (.x k)=g.ad (.x k'):=by
   intro k k' hk
   unfold Z2u at hk
   split at hk
   .rename_i hx
    cases hk
    exact (L.ad k (hnp k)).trans (hax k _ hx)
   .cases hk
  have hlsO:∀ t x,Ye st.ls ({ val:=some (r.mapTok (Zx d) (JJ d L0) (Z2u os)),mem:=m,kill:=(toks.map (·.1)).filter fun t=> !t.isA,ls:=ll }:Eff U) t=some x->((toks.map (·.1)).filter fun t=> !t.isA).contains t=false/\Z7 st.ls ll t=some x:=by
   intro t x hx
   unfold Ye at hx
   cases hk:((toks.map (·.1)).filter fun t=> !t.isA).contains t with
   | true=> simp only [hk,cond_true,reduceCtorEq] at hx
   | false=> simp only [hk,cond_false] at hx;exact ⟨rfl,hx⟩
  refine ⟨⟨fun c v hv=> ?_,fun c t ht=> ?_⟩,?_,hkeep,?_,L.val.back hbs hbx,?_,?_⟩
  .obtain ⟨h1,h2⟩:=L.inv.im c v hv
   exact ⟨h1,by simp only [Gh.back,h2]⟩
  .obtain ⟨t',ht'⟩:=hbtag c t ht
   exact L.inv.it c t' ht'
  .refine ⟨h.fr.stay.trans L.fr.stay,h.fr.xad,fun c v hv=> L.fr.mono c v (h.fr.mono c v hv),fun c t ht=> ?_,fun c t ht=> ?_,fun b hb hcl=> ?_,fun c hc=> (L.fr.frz c (QJ hc h.fr.stay.size)).trans (h.fr.frz c hc),fun v hv=> by simp only [Gh.back,h.fr.ab v hv]⟩
   .obtain ⟨h1,h2⟩:=h.fr.outer c t ht
    obtain ⟨h3,h4⟩:=hback c _ h1 (fun nm e=> by cases e) (fun u e=> by cases e)
    exact ⟨h3,h4.trans h2⟩
   .simp only [Gh.back] at ht
    split at ht
    .rename_i t' ht'
     cases ht
     have:=(htag c _).1 (L.fr.outer' c _ ht')
     exact h.fr.outer' c t this.1
    .cases hx:os[‹Nat›]? with
     | none=> simp [hx] at ht
     | some x=> simp [hx] at ht
    .cases hx:Zx d ‹Tok› with
     | none=> simp [hx] at ht
     | some x=> simp [hx] at ht
    .cases ht
   .obtain ⟨h1,h2⟩:=h.fr.clean b hb hcl
    have hall:∀ o s t,g.tag ⟨b,o,s⟩=some t->∃ t',t= .outer t':=fun o s t ht=> hcl o s t (by rw [<-h2];exact ht)
    have hcall':∀ o s t,gc.tag ⟨b,o,s⟩=some t->∃ t',t= .outer t':=by
     intro o s t ht
     obtain ⟨t0,ht0⟩:=hsome _ _ ht
     obtain ⟨t1,rfl⟩:=hall o s t0 ht0
     have:=(htag ⟨b,o,s⟩ (.outer t1)).2 ⟨ht0,(fun nm e=> by cases e),(fun u e=> by cases e)⟩
     rw [ht] at this
     cases this
     exact ⟨_,rfl⟩
    obtain ⟨h3,h4⟩:=L.fr.clean b (QJ hb h.fr.stay.size) hcall'
    refine ⟨h3.trans h1,fun o s=> ?_⟩
    rw [<-h2 o s]
    have h5:g'.tag ⟨b,o,s⟩=gc.tag ⟨b,o,s⟩:=h4 o s
    cases hgt:g.tag ⟨b,o,s⟩ with
    | none=>
     simp only [Gh.back,h5,hnone _ hgt]
    | some t=>
     obtain ⟨t1,rfl⟩:=hall o s t hgt
     exact (hback _ _ hgt (fun nm e=> by cases e) (fun u e=> by cases e)).1
  .intro nm cs hm j cc hj
   rcases Yk st.mem m nm with ⟨k,cs',h1,h2⟩ | ⟨h1,h2⟩
   .rw [h2] at hm
    cases hm
    have hk:k < os.length:=by have:=(Q1.1 h1).1;omega
    have hok:os[k]?=some os[k]:=Q0 hk
    have hxk:xs[k]?=some (xs[k]'(by omega)):=Q0 _
    have h3:=b3 k _ _ hok hxk
    rw [h1] at h3
    simp only [Option.some.injEq,Prod.mk.injEq] at h3
    obtain ⟨rfl,rfl⟩:=h3
    rw [Qa] at hj
    cases hj0:(xs[k]'(by omega))[j]? with
    | none=> simp [hj0] at hj
    | some c0=>
     simp [hj0] at hj
     subst hj
     obtain ⟨v0,h4,h5,h6⟩:=L.x k _ hxk j c0 hj0
     have had:g'.ad (.x k)=g.ad os[k].1:=(L.ad k (hnp k)).trans (hax k _ hok)
     rw [had] at h4 h5
     refine ⟨v0,h4,?_,h6.back hbs hbx⟩
     show (g'.back os d g.ad L0 g.bs n1).tag ((g.ad os[k].1).add j)=_
     simp only [Gh.back,h5,hok,Q5]
   .rw [h2] at hm
    obtain ⟨v0,h4,h5,h6⟩:=h.mem nm cs hm j cc hj
    have hn:Ys os 0 nm=none:=Z6P (fun i x hx e=> by
     have hi:i < m.length:=by have:=(Q1.1 hx).1;omega
     have hxi:xs[i]?=some (xs[i]'(by omega)):=Q0 _
     exact h1 i _ (b3 i x _ hx hxi) e) 0
    obtain ⟨h7,h8⟩:=hback _ _ h5 (fun nm' e=> by cases e;exact hn) (fun u e=> by cases e)
    exact ⟨v0,h8.trans h4,h7,h6.keep hkeep⟩
  .intro t x hx
   obtain ⟨hk,hx⟩:=hlsO t x hx
   rcases q2 t x hx with ⟨g1,g2⟩ | ⟨t0,x0,g1,rfl,g2,g3⟩
   .obtain ⟨g3,g4⟩:=h.ls t x g1
    have hd:Zb st ({ val:=some (r.mapTok (Zx d) (JJ d L0) (Z2u os)),mem:=m,kill:=(toks.map (·.1)).filter fun t=> !t.isA,ls:=ll }:Eff U) t=false:=by simp only [Zb,g3,hk,X7]
    have hno:t= .A->∀ u,u.isA=true->Yj toks u=none:=fun e=> hAno (hA3 (g2 .A (by rw [e];rfl)))
    refine ⟨hd,g4.keep hkeep hd (fun c v hv=> (L.inv.im c v (L.fr.mono c v hv)).1) (fun c u hr htc=> (hback c _ htc (fun nm e=> by cases e) (fun u' e=> ?_)).2) (fun e u hA hu=> ?_) (fun e c u hA htc=> (hback c _ htc (fun nm e=> by cases e) (fun u' e'=> by cases e';exact hno e _ hA)).1)⟩
    .cases e
     cases hA:u.isA with
     | true=> exact hno (by rw [<-hr];cases u <;> first | rfl | cases hA) u hA
     | false=> exact (hdl u (by rw [<-Tok.root_of hA,hr];exact hd)).2 hA
    .simp only [Gh.back,hu]
     have e1:YV d u=some u:=by cases u <;> first | rfl | cases hA
     have e2:u.root= .A:=by cases u <;> first | rfl | cases hA
     rw [e1]
     simp only [e2,g2 .A (by rw [e];rfl)]
   .obtain ⟨hr1,hr2,hr3,hr4⟩:=hbR _ _ g2
    cases hA:t.isA with
    | true=>
     have e:t= .A:=by
      cases t with
      | A=> rfl
      | S v i=> cases g3
      | _=> cases hA
     subst e
     obtain rfl:=hr3.2 rfl
     obtain ⟨y,hy,hn0,hbe,hpast⟩:=hbA x0 g1
     obtain ⟨g5,_⟩:=h.ls .A y hy
     have hd:Zb st ({ val:=some (r.mapTok (Zx d) (JJ d L0) (Z2u os)),mem:=m,kill:=(toks.map (·.1)).filter fun t=> !t.isA,ls:=ll }:Eff U) .A=false:=by simp only [Zb,g5,hk,X7]
     refine ⟨hd,?_⟩
     rcases L.ls .A x0 g1 with ⟨_,e,_⟩ | ⟨f0,hT,_,hL⟩
     .cases e
     have hup:Z0I st .A x0=⟨x0.T,x0.l,y.f+2+x0.f⟩:=by simp only [Z0I,hy]
     rw [hup]
     refine .inr ⟨f0,hT,rfl,ARel.shift (fun t c ht hc=> ?_) ?_ (fun k i=> ?_) hL⟩
     .have e1:Zx d t=some t:=by cases t <;> first | rfl | cases ht
      simp only [Gh.back,hc,e1,Q5]
     .cases hb:g.bs .A with
      | none=> simp only [Gh.back,hb,YV,Tok.root,g1]
      | some v=> rw [hb] at hbe;simp only [Gh.back,hb];exact hbe
     .have e1:g.bs (.S (y.f+2+x0.f+1+k) i)=none:=hpast _ _ (by simp only [n1,hn0];omega)
      simp only [Gh.back,e1,YV,Tok.root,g1]
      rw [if_pos (by simp only [n1,hn0];omega),show y.f+2+x0.f+1+k - n1=x0.f+1+k by simp only [n1,hn0];omega]
    | false=>
    have g5:st.dead t=false:=by
     cases t with
     | A=> cases hA
     | S v i=> cases hA
     | _=> simp only [Z0S,Q3,Qo] at g3;exact g3.2
    have hd:Zb st ({ val:=some (r.mapTok (Zx d) (JJ d L0) (Z2u os)),mem:=m,kill:=(toks.map (·.1)).filter fun t=> !t.isA,ls:=ll }:Eff U) t=false:=by simp only [Zb,g5,hk,X7]
    have hb0:=hb0 t0 x0 t g1 g2 hA
    have hr0:t0.root=t0:=Tok.root_of (hr1.trans hA)
    have hbt:(g'.back os d g.ad L0 g.bs n1).bs t=g'.bs t0:=by
     simp only [Gh.back,hb0,Z13 g2,hr0,g1]
     cases t0 <;> first | rfl | (cases hr1.trans hA)
    have htk:∀ c,g'.tag c=some (.tok t0)->(g'.back os d g.ad L0 g.bs n1).tag c=some (.tok t):=by
     intro c hc
     simp only [Gh.back,hc,g2,Q5]
    have hup:Z0I st t x0=x0:=by cases t <;> first | rfl | cases hA
    rw [hup]
    refine ⟨hd,?_⟩
    rcases L.ls t0 x0 g1 with ⟨hT,_,hL⟩ | ⟨_,_,rfl,_⟩
    .refine .inl ⟨hT,hA,?_⟩
     rcases hL with ⟨e1,e2⟩ | ⟨b,len,cap,e1,e2,e3,e4,e5,e6⟩
     .exact .inl ⟨hbt.trans e1,e2⟩
     .refine .inr ⟨b,len,cap,hbt.trans e1,e2,e3,e4,fun i y hy j c hc=> ?_,fun j a1 a2=> htk _ (e6 j a1 a2)⟩
      obtain ⟨u,e7,e8,e9,e10⟩:=e5 i y hy j c hc
      exact ⟨u,e7,e8,e9,fun hi=> htk _ (e10 hi)⟩
    .have:=hr1.trans hA
     cases this
  .intro t ht hn hd
   have hst:st.dead t.root=false:=(hdl t.root hd).1
   have hk:(((toks.map (·.1)).filter fun t=> !t.isA).contains t.root)=false:=by simp only [Zb,Qi] at hd;exact hd.2
   have hn':Z7 st.ls ll t.root=none:=by
    unfold Ye at hn
    simp only [hk,cond_false] at hn
    exact hn
   have hst0:st.ls t.root=none:=by
    cases hx:st.ls t.root with
    | none=> rfl
    | some x=>
     exfalso
     have:∀ (l:List (Tok × LC U)),Z7 st.ls l t.root=none->False:=by
      intro l
      induction l with
      | nil=> intro h;rw [Z7,hx] at h;cases h
      | cons y l ih=>
       obtain ⟨a,b⟩:=y
       intro h
       simp only [Z7] at h
       split at h
       .cases h
       .exact ih h
     exact this _ hn'
   have hb0:=h.fresh t ht hst0 hst
   simp only [Gh.back,hb0]
   cases hu:YV d t with
   | none=> rfl
   | some t'=>
    simp only
    cases hx:Z7 (fun _=> none) L0 t'.root with
    | none=> rfl
    | some x=>
     exfalso
     obtain ⟨t2,g1,g2,g4⟩:=q1 t'.root x hx
     have:t2=t.root:=by
      cases t with
      | A=> cases hu;cases g1;rfl
      | S v i=> cases hu;cases g1;rfl
      | r d' m=>
       simp only [YV] at hu
       split at hu
       .rename_i e
        subst e
        split at hu
        .cases hu
         simp only [Tok.root,Zx,Option.some.injEq] at g1
         rw [<-g1];simp only [Tok.root];congr 1;omega
        .cases hu
         simp only [Tok.root,Zx] at g1
         split at g1
         .cases g1;simp only [Tok.root];congr 1;omega
         .cases g1
       .cases hu
      | _=> simp [YV] at hu
     rw [this,hn'] at g4
     cases g4
def Z61(st:FSt U)(g:Gh)(c:Addr):Bool:=
 match g.tag c with
 | some (.tok t)=> (st.ls t.root).isSome
 | _=> false
def Gh.lendG(g:Gh)(st:FSt U)(w:World):Gh:=
 {m:=fun c=> if Z61 st g c=true then w.cell? c else g.m c
  tag:=fun c=> if Z61 st g c=true then none else (g.tag c).map .outer
  ad:=g.ad
  bs:=fun _=> none }
theorem ZiK{c:Addr}(h:Z61 st g c=true):∃ t x,g.tag c=some (.tok t)/\st.ls t.root=some x:=by
 unfold Z61 at h
 split at h
 .rename_i t ht
  cases hx:st.ls t.root with
  | none=> grind
  | some x=> grind
 .cases h
theorem ZiL{c:Addr}(h:∀ t,g.tag c≠some (.tok t)):Z61 st g c=false:=by
 cases hc:Z61 st g c with
 | false=> rfl
 | true=> obtain ⟨t,_,h1,_⟩:=ZiK hc;grind
theorem ZiM(h:Inv g.m g.tag w){c:Addr}{v:Value}(hv:g.m c=some v):(g.lendG st w).m c=some v:=by
 have:Z61 st g c=false:=ZiL fun t e=> by rw [(h.im c v hv).2] at e;cases e
 simp only [Gh.lendG,this,Qs,if_false,hv]
theorem ZdE{c:Addr}{t:Tag}(ht:g.tag c=some t)(hc:Z61 st g c=false):(g.lendG st w).tag c=some (.outer t):=by
 simp only [Gh.lendG,hc,Qs,if_false,ht,Q5]
theorem Zne(ok:CfgOk P cfg)(h:Rel cfg B st g a w){v:Value}{c:C U}(hr:RelC cfg g st.dead v c):RelC cfg (g.lendG st w) Zv v (c.lend st):=by
 have hm:=fun c v hv=> ZiM (st:=st) (w:=w) h.inv (c:=c) (v:=v) hv
 cases c with
 | slice T l tl=> cases tl with
  | unk=> exact ⟨hr.1.mono hm,trivial⟩
  | full=> exact ⟨hr.1.mono hm,hr.2⟩
  | own u=> exact ⟨(hr.1.tl .unk).mono hm,trivial⟩
 | mref t=>
  simp only [C.lend]
  cases hx:st.ls t with
  | none=> exact ⟨.jk _ hr.1.one,trivial⟩
  | some x=>
   obtain ⟨hd,hL⟩:=h.ls t x hx
   obtain ⟨s,hs⟩:=hr.2 hd
   simp only
   cases hA:t.isA with
   | true=>
    simp only [cond_true]
    split
    .rename_i y hy
     rcases hL with ⟨_,e,_⟩ | ⟨f,hf,rfl,hL⟩
     .rw [hA] at e;cases e
     rw [hy] at hL
     refine ⟨Zkq ok (fun c u v hu hc hv=> ?_) hf hL hs,trivial⟩
     have hr:u.root= .A:=by cases u <;> first | rfl | cases hu
     simp only [Gh.lendG,Z61,hc,hr,hx,Xg,if_true,hv]
    .exact ⟨.jk _ hr.1.one,trivial⟩
   | false=>
   simp only [cond_false]
   refine ⟨?_,trivial⟩
   have hL0:LRel0 cfg w g t x:=by
    rcases hL with ⟨_,_,hL⟩ | ⟨_,_,rfl,_⟩
    .exact hL
    .cases hA
   rcases hL0 with ⟨e1,e2,_⟩ | ⟨b,len,cap,e1,e2,e3,e4,e5,_⟩
   .rw [hs] at e1
    cases e1
    obtain ⟨T,l,f⟩:=x
    simp only at e2
    subst e2
    exact .snil T _
   .rw [hs] at e1
    cases e1
    refine .of_rows _ e2 e3 fun i y hy j c hc=> ?_
    obtain ⟨u,e7,e8,e9,e10⟩:=e5 i y hy j c hc
    refine ⟨u,?_,e8.mono hm⟩
    rcases Xz i x.f with hi | hi
    .grind
    .simp only [Gh.lendG,Z61,e10 hi,Tok.root_of hA,hx,Xg,if_true]
     exact e7
 | jk=> exact ⟨.jk _ hr.1.one,trivial⟩
 | xp k=> exact ⟨.jk _ hr.1.one,trivial⟩
 | int k n=> exact ⟨hr.1.mono hm,trivial⟩
 | bool b=> exact ⟨hr.1.mono hm,trivial⟩
 | nils=> exact ⟨hr.1.mono hm,trivial⟩
 | nilp=> exact ⟨hr.1.mono hm,trivial⟩
 | po T o=> exact ⟨hr.1.mono hm,trivial⟩
theorem Zrh(ok:CfgOk P cfg)(h:Rel cfg B st g a w){live:Name->Bool}{v:Value}{x x':V U}(hr:RelV cfg g st.dead live v x)(hx:x.lend st=some x'):RelV cfg (g.lendG st w) Zv (Z5j ([]:List (List (C U)))) v x':=by
 cases x with
 | c y=> cases hx;exact Zne ok h (c:=y) hr
 | agg cs=>
  cases hx
  obtain ⟨vs,h1,h2,h3⟩:=hr
  refine ⟨vs,h1,by simp [h2],fun j u c hu hc=> ?_⟩
  rw [Qa] at hc
  cases hj:cs[j]? with
  | none=> grind
  | some c0=>
   simp [hj] at hc
   subst hc
   exact Zne ok h (h3 j u c0 hu hj)
 | fn f=> cases hx;exact hr
 | _=> cases hx
theorem ZdF {Γ:Known U} (ok:CfgOk P cfg) (hΓ:∀ f s,Γ f=some s->Contract P cfg f s) (h:Rel cfg B st g a w) {o:Oper} {c:Call} {gx:Operand} {f:FuncId} {args:List (V U)} {ps:List Prop} {e:Eff U}
  (ho:o.op= .call c) (hc:c.callee= .value gx) (hg:a.eval gx= .func (.func f) #[] #[])
  (hargs:c.args.toList.length=args.length/\∀ (j:Nat) u x,(c.args.toList.map a.eval)[j]?=some u->args[j]?=some x->RelV cfg g st.dead (fun nm=> (st.mem nm).isSome) u x)
  (he:Zay Γ st f args=some (ps,e)) (hps:All ps):
  Does P o a w fun v w'=> ∃ g',Out cfg B st g e v w' g':=by
 unfold Zay at he
 split at he
 case h_2=> cases he
 rename_i s vs hs hvs
 have key:∃ c0:C U,s.fn2 vs [] []=some (ps,.c c0,[],[])/\e={ val:=some (.c c0) }/\∀ (g1 g2:Gh) (d1 d2:Tok->Bool) v,RelC cfg g1 d1 v c0->RelC cfg g2 d2 v c0:=by
  split at he
  .rename_i k n hfn
   simp only [Option.some.injEq,Prod.mk.injEq] at he
   obtain ⟨rfl,rfl⟩:=he
   exact ⟨_,hfn,rfl,fun g1 g2 d1 d2 v hr=> by have:=hr.1;cases this;exact ⟨.int _ _,trivial⟩⟩
  .rename_i b hfn
   simp only [Option.some.injEq,Prod.mk.injEq] at he
   obtain ⟨rfl,rfl⟩:=he
   exact ⟨_,hfn,rfl,fun g1 g2 d1 d2 v hr=> by have:=hr.1;cases this;exact ⟨.bool _,trivial⟩⟩
  .cases he
 obtain ⟨c0,hfn,rfl,hsc⟩:=key
 obtain ⟨⟨fn,hf1,hf2,hf3⟩,hcon⟩:=hΓ f s hs
 have hlen:vs.length=args.length:=mapM_lend_len hvs
 have hentry:Entry cfg w (g.lendG st w) (c.args.toList.map a.eval) vs [] []:=by
  refine ⟨⟨fun c v hv=> ?_,fun c t ht=> ?_⟩,fun c t ht=> ?_,by grind,fun j v x hv hx=> ?_,fun k cs hk=> by simp at hk,fun t ht=> rfl,fun t x hx=> (by cases hx),fun _ t _=> rfl⟩
  .simp only [Gh.lendG] at hv ⊢
   split at hv
   .grind
   .rename_i hl
    obtain ⟨h1,h2⟩:=h.inv.im c v hv
    grind
  .simp only [Gh.lendG] at ht
   split at ht
   .cases ht
   .cases hgt:g.tag c with
    | none=> grind
    | some t0=> exact h.inv.it c t0 hgt
  .simp only [Gh.lendG] at ht
   split at ht
   .cases ht
   .cases hgt:g.tag c with
    | none=> grind
    | some t0=> grind
  .obtain ⟨x0,h1,h2⟩:=mapM_lend hvs j x hx
   exact Zrh ok h (hargs.2 j v x0 hv h1) h2
 have hcall:=hcon vs [] [] _ _ [] [] hfn hps (XI _) w (g.lendG st w) _ hentry
 refine .inr (.inr ⟨f,(c.args.toList.map a.eval).toArray,w,?_,Calls.mono hcall ?_⟩)
 .have hb:fn.body.isNone=false:=by cases hfb:fn.body <;> simp_all
  simp only [execOp,ho,resolve,hc,hg,Deferred.ofValue,Sem.run_bind,Sem.run_pure,Result.andThen_ok,invoke,callFunc,run_program,hf1]
  simp [hf3,hb]
  apply QQ
  simp
 .rintro e' w' ⟨v,g',rfl,L⟩
  refine ⟨v,rfl,g,?_⟩
  have hout:∀ c t,g.tag c=some t->Z61 st g c=false->w'.cell? c=w.cell? c:=fun c t ht hl=> (L.fr.outer c _ (ZdE (w:=w) ht hl)).2
  have hcell:∀ c v,w.cell? c=some v->Z61 st g c=true->w'.cell? c=some v:=by
   intro c v hv hl
   have:(g.lendG st w).m c=some v:=by simp only [Gh.lendG,hl,if_true,hv]
   exact (L.inv.im c v (L.fr.mono c v this)).1
  have hmc:∀ c v,g.m c=some v->w'.cell? c=some v:=fun c v hv=> (L.inv.im c v (L.fr.mono c v (ZiM h.inv hv))).1
  have hall:∀ c t,g.tag c=some t->w'.cell? c=w.cell? c:=by
   intro c t ht
   cases hl:Z61 st g c with
   | false=> grind
   | true=>
    obtain ⟨_,v,hv⟩:=h.inv.it c t ht
    grind
  have hde:Zb st ({ val:=some (.c c0) }:Eff U)=st.dead:=by funext t;simp [Zb]
  refine ⟨⟨fun c v hv=> ⟨hmc c v hv,(h.inv.im c v hv).2⟩,fun c t ht=> ?_⟩,?_,by rw [hde];exact .refl _ _ _,?_,?_,?_,?_⟩
  .obtain ⟨h1,v,h2⟩:=h.inv.it c t ht
   exact ⟨(L.fr.frz c (h.inv.lt ht)).trans h1,v,(hall c t ht).trans h2⟩
  .refine ⟨h.fr.stay.trans L.fr.stay,h.fr.xad,h.fr.mono,fun c t ht=> ?_,h.fr.outer',fun b hb hcl=> ?_,fun c hc=> (L.fr.frz c (QJ hc h.fr.stay.size)).trans (h.fr.frz c hc),h.fr.ab⟩
   .obtain ⟨h1,h2⟩:=h.fr.outer c t ht
    grind
   .obtain ⟨h1,h2⟩:=h.fr.clean b hb hcl
    refine ⟨(L.fr.clean b (QJ hb h.fr.stay.size) fun o s t ht=> ?_).1.trans h1,h2⟩
    simp only [Gh.lendG] at ht
    split at ht
    .cases ht
    .cases hgt:g.tag ⟨b,o,s⟩ with
     | none=> grind
     | some t0=> grind
  .rw [hde]
   intro nm cs hm j cc hj
   obtain ⟨v0,h4,h5,h6⟩:=h.mem nm cs hm j cc hj
   grind
  .rw [hde]
   exact hsc _ _ _ _ _ L.val
  .intro t x hx
   rw [hde]
   have hx:st.ls t=some x:=by simpa [Ye,Z7] using hx
   obtain ⟨h1,h2⟩:=h.ls t x hx
   exact ⟨h1,h2.keep (.refl g st.dead (fun _=> true)) h1 hmc (fun c u _ htc=> hall c _ htc) (fun _ _ _ h=> h) (fun _ _ _ _ h=> h)⟩
  .intro t h0 h7 h8
   rw [hde] at h8
   exact h.fresh t h0 (by trivial) h8
where
 mapM_lend_len {xs:List (V U)} {vs:List (V U)} (hm:xs.mapM (V.lend st)=some vs):vs.length=xs.length:=by
  induction xs generalizing vs with
  | nil=> grind
  | cons y xs ih=>
   rw [QF] at hm
   cases h1:V.lend st y with
   | none=> grind
   | some v=>
    cases h2:xs.mapM (V.lend st) with
    | none=> grind
    | some r=>
     simp [h1,h2] at hm
     grind
 mapM_lend {xs:List (V U)} {vs:List (V U)} (hm:xs.mapM (V.lend st)=some vs) (j:Nat) (x:V U) (hx:vs[j]?=some x):∃ x0,xs[j]?=some x0/\x0.lend st=some x:=by
  induction xs generalizing vs j with
  | nil=> grind
  | cons y xs ih=>
   rw [QF] at hm
   cases h1:V.lend st y with
   | none=> grind
   | some v=>
    cases h2:xs.mapM (V.lend st) with
    | none=> simp [h1,h2] at hm
    | some r=>
     grind
theorem Zcm{α β:Type}{f:α->Option β}:∀ {xs:List α} {ys:List β},xs.mapM f=some ys->ys.length=xs.length/\∀ (j:Nat) y,ys[j]?=some y->∃ x,xs[j]?=some x/\f x=some y
 | [],ys,h=> by grind
 | x ::xs,ys,h=> by
  rw [QF] at h
  cases h1:f x with
  | none=> simp [h1] at h
  | some v=>
   cases h2:xs.mapM f with
   | none=> grind
   | some r=>
    simp [h1,h2] at h
    subst h
    obtain ⟨h3,h4⟩:=Zcm h2
    grind
theorem ZjL{g2:Gh}{dead:Tok->Bool}(hm:g2.m=g.m){v:Value}{c:C U}(h:RelC cfg g dead v c):RelC cfg g2 Zv v c.bare:=by
 cases c with
 | slice T l tl=> exact ⟨by rw [hm];exact h.1.tl _,trivial⟩
 | mref t=> exact ⟨.jk _ h.1.one,trivial⟩
 | xp k=> exact ⟨.jk _ h.1.one,trivial⟩
 | _=> exact ⟨by rw [hm];exact h.1,trivial⟩
theorem Zrt{g2:Gh}{dead:Tok->Bool}{live l2:Name->Bool}(hm:g2.m=g.m){v:Value}{x x':V U}(h:RelV cfg g dead live v x)(hx:x.bare=some x'):RelV cfg g2 Zv l2 v x':=by
 cases x with
 | c y=> cases hx;exact ZjL hm (c:=y) h
 | agg cs=>
  cases hx
  obtain ⟨vs,h1,h2,h3⟩:=h
  refine ⟨vs,h1,by simp [h2],fun j u c hu hc=> ?_⟩
  rw [Qa] at hc
  cases hj:cs[j]? with
  | none=> grind
  | some c0=>
   simp [hj] at hc
   subst hc
   exact ZjL hm (h3 j u c0 hu hj)
 | fn f=> cases hx;exact h
 | _=> cases hx
theorem RelC.plain{g1 g2:Gh}{d1 d2:Tok->Bool}{v:Value}{c:C U}(hm:g2.m=g1.m)(hc:c.plain=true)(h:RelC cfg g1 d1 v c):RelC cfg g2 d2 v c:=by
 refine ⟨by rw [hm];exact h.1,?_⟩
 cases c with
 | slice T l tl=> cases tl <;> first | trivial | cases hc
 | mref t=> cases hc
 | xp k=> cases hc
 | _=> trivial
theorem ZcP{ax:Nat->Addr}{xs ys:List (V U)}{os:List (Name × List (C U))}(hb:Z1P st xs=some (ys,os))(hax:∀ (k:Nat) x,os[k]?=some x->ax k=g.ad x.1):
  os.length<=1/\ys.length=xs.length/\(∀ (k:Nat) x,os[k]?=some x->∃ cs,st.mem x.1=some cs/\x.2=cs.map C.bare)/\
  ∀ (j:Nat) v x y,xs[j]?=some x->ys[j]?=some y->RelV cfg g st.dead (fun nm=> (st.mem nm).isSome) v x->RelV cfg (g.callee (Ys os 0) [] ax 0) Zv (Z5j (os.map (·.2))) v y:=by
 unfold Z1P at hb
 split at hb
 .rename_i nm
  split at hb
  .rename_i cs hcs
   cases hb
   refine ⟨Qn _,rfl,fun k x hx=> ?_,fun j v x y hx hy hr=> ?_⟩
   .have:k=0:=by have:=(Q1.1 hx).1;simp at this;exact this
    subst this
    simp at hx
    subst hx
    exact ⟨cs,hcs,rfl⟩
   .have:j=0:=by have:=(Q1.1 hx).1;simp at this;exact this
    subst this
    simp at hx hy
    subst hx hy
    have e:ax 0=g.ad nm:=hax 0 _ rfl
    refine ⟨rfl,?_⟩
    have h2:v= .pointer (some ((g.ad nm).add 0)):=hr.2
    rw [h2,<-e]
    try rfl
  .cases hb
 .split at hb
  .rename_i vs hvs
   cases hb
   obtain ⟨h1,h2⟩:=Zcm hvs
   refine ⟨XI _,h1,fun k x hx=> by simp at hx,fun j v x y hx hy hr=> ?_⟩
   obtain ⟨x0,h3,h4⟩:=h2 j y hy
   rw [hx] at h3
   cases h3
   exact Zrt (g:=g) (g2:=g.callee (Ys [] 0) [] ax 0) rfl hr h4
  .cases hb
theorem Zgu {Γ:Known U} (hΓ:∀ f s,Γ f=some s->Contract P cfg f s) (h:Rel cfg B st g a w) {o:Oper} {c:Call} {gx:Operand} {f:FuncId} {args:List (V U)} {ps:List Prop} {e:Eff U} {d:Nat}
  (ho:o.op= .call c) (hc:c.callee= .value gx) (hg:a.eval gx= .func (.func f) #[] #[])
  (hargs:c.args.toList.length=args.length/\∀ (j:Nat) u x,(c.args.toList.map a.eval)[j]?=some u->args[j]?=some x->RelV cfg g st.dead (fun nm=> (st.mem nm).isSome) u x)
  (he:Zh6 Γ st d f args=some (ps,e)) (hps:All ps):
  Does P o a w fun v w'=> ∃ g',Out cfg B st g e v w' g':=by
 unfold Zh6 at he
 split at he
 case h_2=> cases he
 rename_i s vs os hs hvs
 split at he
 case h_2=> cases he
 rename_i ps' k xs hfn
 split at he
 case isFalse=> cases he
 rename_i hcs
 simp only [Q3,Qg,Qp,Nat.beq_eq] at hcs
 obtain ⟨⟨⟨hk,hxl⟩,hpl⟩,hn⟩:=hcs
 subst hk
 simp only [Option.some.injEq,Prod.mk.injEq] at he
 obtain ⟨rfl,rfl⟩:=he
 obtain ⟨⟨fn,hf1,hf2,hf3⟩,hcon⟩:=hΓ f s hs
 let ax:Nat->Addr:=fun k=> ((os[k]?).map fun x=> g.ad x.1).getD ⟨0,0,none⟩
 have hax:∀ (k:Nat) x,os[k]?=some x->ax k=g.ad x.1:=fun k x hx=> by simp [ax,hx]
 obtain ⟨ho1,hlen,hos,hall⟩:=ZcP (cfg:=cfg) hvs hax
 have hap:ZcY os:=fun i j x y hx hy _=> by have:=(Q1.1 hx).1;have:=(Q1.1 hy).1;omega
 let gc:=g.callee (Ys os 0) [] ax 0
 let nms:=os.map (·.1)++[Name.loc d]
 have htag:∀ c t,gc.tag c=some (.outer t)↔(g.tag c=some t/\(∀ nm,t= .obj nm->Ys os 0 nm=none)/\(∀ u,t= .tok u->Yj [] u=none)):=fun c t=> Z98
 have hentry:Entry cfg w gc (c.args.toList.map a.eval) vs (os.map (·.2)) []:=by
  refine ⟨⟨fun c v hv=> ?_,fun c t ht=> ?_⟩,fun c t ht=> ?_,by rw [QG,hargs.1,hlen],fun j v x hv hx=> ?_,fun k cs hk j c hj=> ?_,fun t ht=> (by simp only [gc,Gh.callee,ht,if_true]),fun t x hx=> (by cases hx),fun _ t ht=> by cases t <;> first | rfl | cases ht⟩
  .obtain ⟨h1,h2⟩:=h.inv.im c v hv
   exact ⟨h1,Z3v h2⟩
  .obtain ⟨t0,ht0⟩:=Z3u ht
   exact h.inv.it c t0 ht0
  .simp only [gc,Gh.callee] at ht
   split at ht
   .split at ht
    .cases ht;exact .inr (.inl ⟨_,rfl⟩)
    .cases ht;exact .inl ⟨_,rfl⟩
   .split at ht
    .cases ht;exact .inr (.inr ⟨_,rfl⟩)
    .cases ht;exact .inl ⟨_,rfl⟩
   .cases ht;exact .inl ⟨_,rfl⟩
   .cases ht
  .have hj:j < args.length:=by have:=(Q1.1 hx).1;omega
   exact hall j v _ x (Q0 hj) hx (hargs.2 j v _ hv (Q0 hj))
  .rw [Qa] at hk
   cases hx:os[k]? with
   | none=> simp [hx] at hk
   | some x=>
    simp [hx] at hk
    subst hk
    obtain ⟨cs0,h1,h2⟩:=hos k x hx
    rw [h2,Qa] at hj
    cases hj0:cs0[j]? with
    | none=> simp [hj0] at hj
    | some c0=>
     simp [hj0] at hj
     subst hj
     obtain ⟨v,h4,h5,h6⟩:=h.mem x.1 cs0 h1 j _ hj0
     have had:gc.ad (.x k)=g.ad x.1:=hax k x hx
     have hnm:Ys os 0 x.1=some k:=by have:=Z5V (k:=0) hap hx rfl;simpa using this
     rw [had]
     exact ⟨v,h4,by simp only [gc,Gh.callee,h5,hnm],ZjL (g:=g) (g2:=gc) rfl h6⟩
 have hcall:=hcon vs (os.map (·.2)) [] _ _ xs [] hfn hps (by rw [QG];omega) w gc _ hentry
 refine .inr (.inr ⟨f,(c.args.toList.map a.eval).toArray,w,?_,Calls.mono hcall ?_⟩)
 .have hb:fn.body.isNone=false:=by cases hfb:fn.body <;> simp_all
  simp only [execOp,ho,resolve,hc,hg,Deferred.ofValue,Sem.run_bind,Sem.run_pure,Result.andThen_ok,invoke,callFunc,run_program,hf1]
  simp [hf3,hb]
  apply QQ
  simp
 .rintro e' w' ⟨v,g',rfl,L⟩
  let g1:Gh:={ m:=g'.m,tag:=fun c=> (match g'.tag c with | some (.outer t)=> some t | some (.obj (.x k))=> (nms[k]?).map .obj | _=> none),ad:=fun nm=> if nm= .loc d then g'.ad (.x os.length) else g.ad nm,bs:=g.bs }
  have hgm:gc.m=g.m:=rfl
  have hback:∀ c t,g.tag c=some t->(∀ nm,t= .obj nm->Ys os 0 nm=none)->g1.tag c=some t/\w'.cell? c=w.cell? c:=by
   intro c t h1 h2
   have:=L.fr.outer c t ((htag c t).2 ⟨h1,h2,fun u _=> (by cases u <;> rfl)⟩)
   exact ⟨by simp only [g1,this.1],this.2⟩
  have hbt:∀ c t,g1.tag c=some t->∃ t',g'.tag c=some t':=by
   intro c t ht
   simp only [g1] at ht
   cases hgt:g'.tag c with
   | none=> simp [hgt] at ht
   | some t'=> exact ⟨t',rfl⟩
  have had:∀ nm,nm≠.loc d->g1.ad nm=g.ad nm:=fun nm hne=> by simp only [g1,if_neg hne]
  have hxa:∀ (k:Nat) x,os[k]?=some x->g'.ad (.x k)=g.ad x.1:=fun k x hx=> by
   have hk:=(Q1.1 hx).1
   exact (L.ad k (fun e=> by cases e;omega)).trans (hax k x hx)
  have hnl:∀ (k:Nat) x,os[k]?=some x->x.1≠.loc d:=fun k x hx e=> by
   obtain ⟨cs0,h1,_⟩:=hos k x hx
   rw [e,hn] at h1
   cases h1
  have hz:∀ (k:Nat) nm cs,(nms.zip xs)[k]?=some (nm,cs)->nms[k]?=some nm/\xs[k]?=some cs:=fun k nm cs hk=> by
   rw [XM] at hk
   exact hk
  have hde:Zb st ({ val:=some (.ptr (.loc d) 0),mem:=nms.zip xs }:Eff U)=st.dead:=by funext t;simp [Zb]
  have hkeep:Keeps g g1 st.dead st.dead (fun nm=> (st.mem nm).isSome) (ZK st ({ val:=some (.ptr (.loc d) 0),mem:=nms.zip xs }:Eff U)):=by
   refine ⟨fun c v hv=> L.fr.mono c v hv,fun c t hd _ ht=> (hback c _ ht fun nm e=> by cases e).1,fun t ht=> ht,fun nm hl=> ⟨?_,had nm fun e=> ?_⟩,fun t v _ hv=> hv,fun k=> had _ (by simp),fun t _ _ h=> h⟩
   .simp only [ZK]
    rcases Yk st.mem (nms.zip xs) nm with ⟨k,cs,_,h2⟩ | ⟨_,h2⟩
    .rw [h2];try rfl
    .rw [h2];exact hl
   .subst e
    simp [hn] at hl
  have hlast:(nms.zip xs)[os.length]?=some (.loc d,xs[os.length]'(by omega)):=by
   rw [XM]
   exact ⟨by simp [nms],Q0 _⟩
  refine ⟨v,rfl,g1,⟨fun c v hv=> ?_,fun c t ht=> ?_⟩,?_,by rw [hde];exact hkeep,?_,?_,?_,?_⟩
  .obtain ⟨h1,h2⟩:=L.inv.im c v hv
   exact ⟨h1,by simp only [g1,h2]⟩
  .obtain ⟨t',ht'⟩:=hbt c t ht
   exact L.inv.it c t' ht'
  .refine ⟨h.fr.stay.trans L.fr.stay,fun k=> (had _ (by simp)).trans (h.fr.xad k),fun c v hv=> L.fr.mono c v (h.fr.mono c v hv),fun c t ht=> ?_,fun c t ht=> ?_,fun b hb hcl=> ?_,fun c hc=> (L.fr.frz c (QJ hc h.fr.stay.size)).trans (h.fr.frz c hc),h.fr.ab⟩
   .obtain ⟨h1,h2⟩:=h.fr.outer c t ht
    obtain ⟨h3,h4⟩:=hback c _ h1 (fun nm e=> by cases e)
    exact ⟨h3,h4.trans h2⟩
   .simp only [g1] at ht
    split at ht
    .rename_i t' ht'
     cases ht
     exact h.fr.outer' c t ((htag c _).1 (L.fr.outer' c _ ht')).1
    .cases hx:nms[‹Nat›]? with
     | none=> simp [hx] at ht
     | some x=> simp [hx] at ht
    .cases ht
   .obtain ⟨h1,h2⟩:=h.fr.clean b hb hcl
    have hall:∀ o s t,g.tag ⟨b,o,s⟩=some t->∃ t',t= .outer t':=fun o s t ht=> hcl o s t (by rw [<-h2];exact ht)
    have hcall':∀ o s t,gc.tag ⟨b,o,s⟩=some t->∃ t',t= .outer t':=by
     intro o s t ht
     obtain ⟨t0,ht0⟩:=Z3u ht
     obtain ⟨t1,rfl⟩:=hall o s t0 ht0
     have:=(htag ⟨b,o,s⟩ (.outer t1)).2 ⟨ht0,(fun nm e=> by cases e),(fun u e=> by cases e)⟩
     rw [ht] at this
     cases this
     exact ⟨_,rfl⟩
    obtain ⟨h3,h4⟩:=L.fr.clean b (QJ hb h.fr.stay.size) hcall'
    refine ⟨h3.trans h1,fun o s=> ?_⟩
    rw [<-h2 o s]
    have h5:g'.tag ⟨b,o,s⟩=gc.tag ⟨b,o,s⟩:=h4 o s
    cases hgt:g.tag ⟨b,o,s⟩ with
    | none=>
     have h6:gc.tag ⟨b,o,s⟩=none:=Z3v hgt
     simp only [g1,h5,h6]
    | some t=>
     obtain ⟨t1,rfl⟩:=hall o s t hgt
     exact (hback _ _ hgt (fun nm e=> by cases e)).1
  .rw [hde]
   intro nm cs' hm j cc hj
   rcases Yk st.mem (nms.zip xs) nm with ⟨k,cs,h1,h2⟩ | ⟨h1,h2⟩
   .rw [h2] at hm
    cases hm
    obtain ⟨hnk,hxk⟩:=hz k nm cs' h1
    obtain ⟨v0,h4,h5,h6⟩:=L.x k cs' hxk j cc hj
    have h7:RelC cfg g1 st.dead v0 cc:=RelC.plain (g1:=g') (g2:=g1) rfl (hpl cs' (QC hxk) cc (QC hj)) h6
    have h8:g1.ad nm=g'.ad (.x k):=by
     rcases Xz k os.length with hk | hk
     .have hok:os[k]?=some os[k]:=Q0 hk
      have e:nm=os[k].1:=by simp only [nms] at hnk;rw [Qf (by simpa using hk),List.getElem?_map,hok] at hnk;simpa using hnk.symm
      rw [e,had _ (hnl k _ hok),hxa k _ hok]
     .have hk2:k=os.length:=by have:=(Q1.1 hnk).1;simp [nms] at this;omega
      subst hk2
      have e:nm= .loc d:=by simp [nms] at hnk;exact hnk.symm
      rw [e]
      simp only [g1,if_true]
    rw [h8]
    exact ⟨v0,h4,by simp only [g1,h5,hnk,Q5],h7⟩
   .rw [h2] at hm
    obtain ⟨v0,h4,h5,h6⟩:=h.mem nm cs' hm j cc hj
    have hno:Ys os 0 nm=none:=Z6P (fun i x hx e=> by
     have hi:=(Q1.1 hx).1
     have h9:(nms.zip xs)[i]?=some (nm,xs[i]'(by omega)):=by
      rw [XM]
      refine ⟨?_,Q0 _⟩
      simp only [nms]
      rw [Qf (by simpa using hi),List.getElem?_map,hx,<-e]
      try rfl
     exact h1 i _ h9 rfl) 0
    obtain ⟨h7,h8⟩:=hback _ _ h5 (fun nm' e=> by cases e;exact hno)
    have hne:nm≠.loc d:=fun e=> by subst e;rw [hn] at hm;cases hm
    rw [had nm hne]
    exact ⟨v0,h8.trans h4,h7,h6.keep hkeep⟩
  .have hv:v= .pointer (some ((g'.ad (.x os.length)).add 0)):=L.val.2
   refine ⟨?_,?_⟩
   .simp only [ZK]
    rcases Yk st.mem (nms.zip xs) (.loc d) with ⟨k,cs,_,h2⟩ | ⟨h1,_⟩
    .rw [h2];try rfl
    .exact absurd rfl (h1 _ _ hlast)
   .rw [hv]
    simp only [g1,if_true]
  .intro t x hx
   rw [hde]
   have hx:st.ls t=some x:=by simpa [Ye,Z7] using hx
   obtain ⟨h1,h2⟩:=h.ls t x hx
   exact ⟨h1,h2.keep hkeep h1 (fun c v hv=> (L.inv.im c v (L.fr.mono c v hv)).1) (fun c u _ htc=> (hback c _ htc fun nm e=> by cases e).2) (fun _ _ _ h=> h) (fun _ c u _ htc=> (hback c _ htc fun nm e=> by cases e).1)⟩
  .intro t h0 h7 h8
   rw [hde] at h8
   exact h.fresh t h0 (by trivial) h8
end Go.AM
