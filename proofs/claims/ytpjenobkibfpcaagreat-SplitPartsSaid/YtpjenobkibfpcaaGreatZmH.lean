import Derived.Test.YtpjenobkibfpcaaGreatZmQ
set_option linter.unusedSimpArgs false
set_option linter.unusedVariables false
namespace Go.AM
variable {U:Uni} {P:Program} {cfg:Cfg U} {B:Base} {st:FSt U} {g:Gh} {a:Act} {w:World}
def Y8:Tok→Bool:=fun _=> false
def ZeQ(X:List (List (C U))):Name→Bool
 | .x k=> (X[k]?).isSome
 | .loc _=> false
structure Entry (cfg:Cfg U) (w:World) (g:Gh) (vs:List Value) (args:List (V U)) (X:List (List (C U))) (L:List (Tok × LC U)):Prop where
 inv:Inv g.m g.tag w
 tags:∀ a t,g.tag a=some t→(∃ t',t= .outer t')∨(∃ k,t= .obj (.x k))∨∃ u,t= .tok u
 len:vs.length=args.length
 args:∀ (j:Nat) v x,vs[j]?=some v→args[j]?=some x→RelV cfg g Y8 (ZeQ X) v x
 x:∀ (k:Nat) cs,X[k]?=some cs→∀ (j:Nat) c,cs[j]?=some c→∃ v,w.cell? ((g.ad (.x k)).add j)=some v∧g.tag ((g.ad (.x k)).add j)=some (.obj (.x k))∧RelC cfg g Y8 v c
 bs:∀ t,t.isR=true→g.bs t=none
 ls:∀ t x,ZJ (fun _=> none) L t=some x→LRel cfg w g t x
structure Leave (cfg:Cfg U) (w:World) (g:Gh) (w':World) (g':Gh) (v:Value) (r:V U) (X:List (List (C U))) (L:List (Tok × LC U)):Prop where
 inv:Inv g'.m g'.tag w'
 fr:Fr ⟨w,g.m,g.tag,fun k=> g.ad (.x k)⟩ g' w'
 tags:∀ a t,g'.tag a=some t→(∃ t',t= .outer t')∨(∃ k,k < X.length∧t= .obj (.x k))∨∃ u,t= .tok u
 ad:∀ k,g'.ad (.x k)=g.ad (.x k)
 val:RelV cfg g' Y8 (fun _=> false) v r
 x:∀ (k:Nat) cs,X[k]?=some cs→∀ (j:Nat) c,cs[j]?=some c→∃ v,w'.cell? ((g'.ad (.x k)).add j)=some v∧g'.tag ((g'.ad (.x k)).add j)=some (.obj (.x k))∧RelC cfg g' Y8 v c
 ls:∀ t x,ZJ (fun _=> none) L t=some x→LRel cfg w' g' t x
def Contract(P:Program)(cfg:Cfg U)(f:FuncId)(s:Fs U):Prop:=
 (∃ fn, P.funcs[f]? = some fn ∧ fn.body.isSome = true ∧ (fn.name == "runtime.NumGoroutine") = false) ∧
 ∀ args X L ps r X' L',s.fn2 args X L=some (ps,r,X',L')→All ps→X'.length≤X.length→∀ w g vs,Entry cfg w g vs args X L→
  Calls P f vs.toArray w fun e w'=> ∃ v g',e= .returned v∧Leave cfg w g w' g' v r X' L'
def Zvi(P:Program)(cfg:Cfg U)(f:FuncId)(s:Fs U):Prop:=
 ∀ args X ps r X',s.fn args X=some (ps,r,X')→All ps→X'.length≤X.length→∀ w g vs,Entry cfg w g vs args X []→
  Calls P f vs.toArray w fun e w'=> ∃ v g',e= .returned v∧Leave cfg w g w' g' v r X' []
theorem Z3W {f : FuncId} {s : Fs U} (h0 : ∃ fn, P.funcs[f]? = some fn ∧ fn.body.isSome = true ∧ (fn.name == "runtime.NumGoroutine") = false) (hd : s.fn2 = Zf5 s.fn) (h : Zvi P cfg f s) : Contract P cfg f s := by
 refine ⟨h0,fun args X L ps r X' L' hs=> ?_⟩
 rw [hd] at hs
 unfold Zf5 at hs
 split at hs
 ·split at hs
  ·rename_i h1
   cases hs
   exact h args X _ _ _ h1
  ·cases hs
 ·cases hs
theorem Contract.one{f:FuncId}{s:Fs U}(h:Contract P cfg f s)(hd:s.fn2=Zf5 s.fn):Zvi P cfg f s:=by
 intro args X ps r X' hs
 exact h.2 args X [] ps r X' [] (by rw [hd];simp only [Zf5,hs])
theorem SimC.tl{m:Addr→Option Value}{v:Value}{T:U.Ty}{l:List (U.El T)}{tl:Tail}(tl':Tail)(h:SimC cfg m v (.slice T l tl)):SimC cfg m v (.slice T l tl'):=by
 cases h with
 | snil=> exact .snil T tl'
 | slice _ _ _ b len cap vs hl hc hm hs=> exact .slice T l tl' b len cap vs hl hc hm hs
def Ext(s s':List (Tok × Tok)):Prop:=(∀ t t':Tok,YP s t=some t'→YP s' t=some t')∧∀ t t':Tok,Z12 s t=some t'→Z12 s' t=some t'
theorem Ext.refl(s:List (Tok × Tok)):Ext s s:=⟨fun _ _ h=> h,fun _ _ h=> h⟩
theorem Ext.trans{a b c:List (Tok × Tok)}(h:Ext a b)(k:Ext b c):Ext a c:=⟨fun t t' ht=> k.1 _ _ (h.1 _ _ ht),fun t t' ht=> k.2 _ _ (h.2 _ _ ht)⟩
theorem Ext.cons{seen:List (Tok × Tok)}{t nm:Tok}(h1:YP seen t=none)(h2:Z12 seen nm=none):Ext seen ((t,nm) ::seen):=by
 refine ⟨fun u u' hu=> ?_,fun u u' hu=> ?_⟩
 ·simp only [YP]
  split
  ·rename_i e;subst e;rw [h1] at hu;cases hu
  ·exact hu
 ·simp only [Z12]
  split
  ·rename_i e;subst e;rw [h2] at hu;cases hu
  ·exact hu
theorem Zez:∀ {s:List (Tok × Tok)} {t t':Tok},YP s t=some t'→(s.map (·.1)).contains t=true
 | (x,y) ::r,t,t',h=> by
  simp only [YP] at h
  split at h
  ·rename_i e;subst e;simp
  ·have:=Zez h
   simp only [List.map_cons,List.contains_cons,this,Bool.or_true]
def ZgN(g:Gh)(s:List (Tok × Tok))(t:Tok):Option (Value × Nat):=
 match Z12 s t with
 | none=> none
 | some u=> g.bs u
def Gh.callee(g:Gh)(nx:Name→Option Nat)(s:List (Tok × Tok))(ax:Nat→Addr):Gh:=
 {m:=g.m
  tag:=fun c=> match g.tag c with
   | some (.obj nm)=> match nx nm with
    | some k=> some (.obj (.x k))
    | none=> some (.outer (.obj nm))
   | some (.tok t)=> match YP s t with
    | some t'=> some (.tok t')
    | none=> some (.outer (.tok t))
   | some (.outer t)=> some (.outer (.outer t))
   | none=> none
  ad:=fun nm=> match nm with
   | .x k=> ax k
   | .loc s=> g.ad (.loc s)
  bs:=fun t=> if t.isR=true then none else ZgN g s t }
theorem Z0P{m:Tok→Option (LC U)}{s:List (Tok × Tok)}:∀ (l:List Tok) {t:Tok} {x:LC U},ZJ (fun _=> none) (Z07 m s l) t=some x→∃ u,Z12 s t=some u∧YP s u=some t∧m u=some x∧t.isR=false
 | [],t,x,h=> by simp [Z07,ZJ] at h
 | t0 ::l,t,x,h=> by
  simp only [Z07] at h
  split at h
  ·rename_i u hu
   split at h
   ·rename_i t' y h1 h2
    split at h
    ·rename_i hc
     obtain ⟨hc1,hc2⟩:=hc
     subst hc1
     simp only [ZJ] at h
     split at h
     ·rename_i e
      subst e
      cases h
      exact ⟨u,hu,h1,h2,hc2⟩
     ·exact Z0P l h
    ·exact Z0P l h
   ·exact Z0P l h
  ·exact Z0P l h
section pass
variable {nx:Name→Option Nat} {ax:Nat→Addr}
structure Ren (ok:Tok→Bool) (g:Gh) (s:List (Tok × Tok)) (g2:Gh):Prop where
 m:g2.m=g.m
 tok:∀ c t t',g.tag c=some (.tok t)→YP s t=some t'→g2.tag c=some (.tok t')
 bs:∀ t t' v,ok t=true→Z12 s t=some t'→g.bs t'=some v→g2.bs t=some v
def Z3v(t:Tok):Bool:= !t.isR
theorem Gh.callee_ren(s:List (Tok × Tok)):Ren Z3v g s (g.callee nx s ax):=
 ⟨rfl,fun c t t' h1 h2=> by simp only [Gh.callee,h1,h2],fun t t' v h1 h2 h3=> by
  simp only [Z3v,Bool.not_eq_true'] at h1
  simp only [Gh.callee,h1,ZgN,h2]
  exact h3⟩
theorem Z8h{okT mine:Tok→Bool}{nm:Tok}{c:C U}{seen:List (Tok × Tok)}(hmine:∀ t,mine t=true→st.dead t=false)(hok:okT nm=true):
  Ext seen (Z0l mine nm c seen).2∧∀ s',Ext (Z0l mine nm c seen).2 s'→∀ g2,Ren okT g s' g2→∀ v,RelC cfg g st.dead v c→RelC cfg g2 Y8 v (Z0l mine nm c seen).1:=by
 unfold Z0l
 split
 ·rename_i T l t
  split
  ·rename_i hc
   simp only [Bool.and_eq_true,Option.isNone_iff_eq_none] at hc
   refine ⟨Ext.cons hc.1.2 hc.2,fun s' hs g2 hg v hr=> ⟨by rw [hg.m];exact hr.1.tl _,?_⟩⟩
   intro _ b len cap hv j h1 h2
   have h3:=hr.2 (hmine t hc.1.1) b len cap hv j h1 h2
   have h4:YP s' t=some nm:=hs.1 t nm (by simp [YP])
   exact hg.tok _ _ _ h3 h4
  ·exact ⟨.refl _,fun s' _ g2 hg v hr=> ⟨by rw [hg.m];exact hr.1.tl _,trivial⟩⟩
 ·rename_i t
  split
  ·rename_i hc
   simp only [Bool.and_eq_true,Option.isNone_iff_eq_none] at hc
   refine ⟨Ext.cons hc.1.2 hc.2,fun s' hs g2 hg v hr=> ⟨.mref _ _ hr.1.one,fun _=> ?_⟩⟩
   obtain ⟨sz,h3⟩:=hr.2 (hmine t hc.1.1)
   have h4:Z12 s' nm=some t:=hs.2 nm t (by simp [Z12])
   exact ⟨sz,hg.bs _ _ _ hok h4 h3⟩
  ·exact ⟨.refl _,fun s' _ g2 hg v hr=> ⟨.jk _ hr.1.one,trivial⟩⟩
 ·rename_i hno hno2
  refine ⟨.refl _,fun s' _ g2 hg v hr=> ⟨by rw [hg.m];exact hr.1,?_⟩⟩
  have h2:=hr.2
  cases c with
  | slice T l tl=>
   cases tl with
   | unk=> trivial
   | full=> exact h2
   | own t=> exact absurd rfl (hno T l t)
  | mref t=> exact absurd rfl (hno2 t)
  | _=> trivial
theorem Z4r{okT mine:Tok→Bool}{nm:Nat→Tok}(hmine:∀ t,mine t=true→st.dead t=false)(hok:∀ j,okT (nm j)=true):∀ (cs:List (C U)) (j:Nat) (seen:List (Tok × Tok)),
  Ext seen (YU mine nm j cs seen).2∧(YU mine nm j cs seen).1.length=cs.length∧
   ∀ s',Ext (YU mine nm j cs seen).2 s'→∀ g2,Ren okT g s' g2→∀ (i:Nat) v c c',cs[i]?=some c→(YU mine nm j cs seen).1[i]?=some c'→RelC cfg g st.dead v c→RelC cfg g2 Y8 v c'
 | [],j,seen=> ⟨.refl _,rfl,fun s' _ g2 _ i v c c' hc=> by simp at hc⟩
 | c ::cs,j,seen=> by
  obtain ⟨h1,h2⟩:=Z8h (cfg:=cfg) (g:=g) (okT:=okT) (nm:=nm j) (c:=c) (seen:=seen) hmine (hok j)
  obtain ⟨h3,h4,h5⟩:=Z4r (okT:=okT) (mine:=mine) (nm:=nm) hmine hok cs (j+1) (Z0l mine (nm j) c seen).2
  refine ⟨h1.trans h3,by simp [YU,h4],fun s' hs g2 hg i v c0 c' hc hc' hr=> ?_⟩
  cases i with
  | zero=>
   simp [YU] at hc hc'
   subst hc hc'
   exact h2 s' (h3.trans hs) g2 hg v hr
  | succ i=>
   simp [YU] at hc hc'
   exact h5 s' hs g2 hg i v c0 c' hc hc' hr
theorem Zqg{mine:Tok→Bool}{nm:Tok}{c:C U}{seen:List (Tok × Tok)}(hmine:∀ t,mine t=true→st.dead t=false)(hok:Z3v nm=true):
  Ext seen (Z0l mine nm c seen).2∧∀ s',Ext (Z0l mine nm c seen).2 s'→∀ v,RelC cfg g st.dead v c→RelC cfg (g.callee nx s' ax) Y8 v (Z0l mine nm c seen).1:=
 let ⟨h1,h2⟩:=Z8h (cfg:=cfg) (g:=g) (nm:=nm) (c:=c) (seen:=seen) hmine hok
 ⟨h1,fun s' hs v hr=> h2 s' hs _ (Gh.callee_ren s') v hr⟩
theorem ZjM{mine:Tok→Bool}{nm:Nat→Tok}(hmine:∀ t,mine t=true→st.dead t=false)(hok:∀ j,Z3v (nm j)=true)(cs:List (C U))(j:Nat)(seen:List (Tok × Tok)):
  Ext seen (YU mine nm j cs seen).2∧(YU mine nm j cs seen).1.length=cs.length∧
   ∀ s',Ext (YU mine nm j cs seen).2 s'→∀ (i:Nat) v c c',cs[i]?=some c→(YU mine nm j cs seen).1[i]?=some c'→RelC cfg g st.dead v c→RelC cfg (g.callee nx s' ax) Y8 v c':=
 let ⟨h1,h2,h3⟩:=Z4r (cfg:=cfg) (g:=g) (mine:=mine) (nm:=nm) hmine hok cs j seen
 ⟨h1,h2,fun s' hs i v c c' hc hc' hr=> h3 s' hs _ (Gh.callee_ren s') i v c c' hc hc' hr⟩
theorem Zte{mine:Tok→Bool}{nm:Nat→Tok}{live lx:Name→Bool}(hmine:∀ t,mine t=true→st.dead t=false)(hok:∀ j,Z3v (nm j)=true){x x':V U}{seen seen':List (Tok × Tok)}(he:Ztf mine nm x seen=some (x',seen')):
  Ext seen seen'∧∀ s',Ext seen' s'→∀ v,RelV cfg g st.dead live v x→RelV cfg (g.callee nx s' ax) Y8 lx v x':=by
 unfold Ztf at he
 split at he
 ·rename_i c
  simp only [Option.some.injEq,Prod.mk.injEq] at he
  obtain ⟨rfl,rfl⟩:=he
  obtain ⟨h1,h2⟩:=Zqg (cfg:=cfg) (g:=g) (nx:=nx) (ax:=ax) (nm:=nm 0) (c:=c) (seen:=seen) hmine (hok 0)
  exact ⟨h1,fun s' hs v hr=> h2 s' hs v hr⟩
 ·rename_i cs
  simp only [Option.some.injEq,Prod.mk.injEq] at he
  obtain ⟨rfl,rfl⟩:=he
  obtain ⟨h3,h4,h5⟩:=ZjM (cfg:=cfg) (g:=g) (nx:=nx) (ax:=ax) (mine:=mine) (nm:=nm) hmine hok cs 0 seen
  refine ⟨h3,fun s' hs v hr=> ?_⟩
  obtain ⟨vs,rfl,hl,hh⟩:=hr
  refine ⟨vs,rfl,by rw [h4];exact hl,fun j u c hu hc=> ?_⟩
  have hj:j < cs.length:=by have:=(List.getElem?_eq_some_iff.1 hc).1;omega
  exact h5 s' hs j u _ c (List.getElem?_eq_getElem hj) hc (hh j u _ hu (List.getElem?_eq_getElem hj))
 ·rename_i f
  simp only [Option.some.injEq,Prod.mk.injEq] at he
  obtain ⟨rfl,rfl⟩:=he
  exact ⟨.refl _,fun s' _ v hr=> hr⟩
 ·cases he
def Z0G:List (Name × List (C U))→Nat→Name→Option Nat
 | [],_,_=> none
 | (a,_) ::r,k,nm=> if a=nm then some k else Z0G r (k+1) nm
def ZpO(os:List (Name × List (C U))):Prop:=∀ (i j:Nat) x y,os[i]?=some x→os[j]?=some y→x.1=y.1→i=j
theorem Z6w:∀ {os:List (Name × List (C U))} {nm:Name} {i:Nat} {x:Name × List (C U)},os[i]?=some x→x.1=nm→Zao os nm=true
 | (b,cs) ::os,nm,0,x,h,e=> by simp at h;subst h;simp [Zao];exact .inl e
 | (b,cs) ::os,nm,i+1,x,h,e=> by
  simp at h
  simp only [Zao,Z6w h e]
  split <;> rfl
theorem Zc3:∀ {os:List (Name × List (C U))} {k:Nat} {nm:Name} {i:Nat},Z0G os k nm=some i→∃ x,k≤i∧os[i - k]?=some x∧x.1=nm
 | (b,cs) ::os,k,nm,i,h=> by
  simp only [Z0G] at h
  split at h
  ·rename_i e
   cases h
   exact ⟨(b,cs),Nat.le_refl _,by simp,e⟩
  ·obtain ⟨x,h1,h2,h3⟩:=Zc3 h
   refine ⟨x,by omega,?_,h3⟩
   rw [show i - k=(i - (k+1))+1 by omega]
   simpa using h2
theorem Zgo:∀ {os:List (Name × List (C U))} {k:Nat} {nm:Name} {i:Nat} {x:Name × List (C U)},ZpO os→os[i]?=some x→x.1=nm→Z0G os k nm=some (k+i)
 | (b,cs) ::os,k,nm,0,x,_,h,e=> by simp at h;subst h;simp [Z0G];intro h;exact absurd e h
 | (b,cs) ::os,k,nm,i+1,x,hap,h,e=> by
  simp only [Z0G]
  rw [if_neg (fun e'=> by have:=hap 0 (i+1) (b,cs) x rfl h (by simp [e',e]);omega)]
  have:=Zgo (k:=k+1) (nm:=nm) (fun i j x y hx hy he=> by have:=hap (i+1) (j+1) x y (by simpa using hx) (by simpa using hy) he;omega) (by simpa using h) e
  rw [this];congr 1;omega
theorem ZjX{os:List (Name × List (C U))}{nm:Name}(h:∀ (i:Nat) x,os[i]?=some x→x.1≠nm)(k:Nat):Z0G os k nm=none:=by
 cases hn:Z0G os k nm with
 | none=> rfl
 | some i=>
  obtain ⟨x,_,h2,h3⟩:=Zc3 hn
  exact absurd h3 (h _ x h2)
theorem Z6c{ps:Nat→Bool}:∀ (xs:List (V U)) (i:Nat) (os:List (Name × List (C U))) (seen:List (Tok × Tok)) (ys:List (V U)) (os':List (Name × List (C U))) (seen':List (Tok × Tok)),
  JJ st ps i xs os seen=some (ys,os',seen')→ZpO os→
  Ext seen seen'∧(∃ more,os'=os++more)∧ZpO os'∧ys.length=xs.length∧
  (∀ (k:Nat) x,os'[k]?=some x→os.length≤k→∃ cs,st.mem x.1=some cs∧x.2.length=cs.length∧
   ∀ s',Ext seen' s'→∀ nx ax (i:Nat) v c c',cs[i]?=some c→x.2[i]?=some c'→RelC cfg g st.dead v c→RelC cfg (g.callee nx s' ax) Y8 v c')∧
  (∀ s',Ext seen' s'→∀ nx ax,(∀ (k:Nat) x,os'[k]?=some x→ax k=g.ad x.1)→∀ (j:Nat) v x y,xs[j]?=some x→ys[j]?=some y→RelV cfg g st.dead (fun nm=> (st.mem nm).isSome) v x→
   RelV cfg (g.callee nx s' ax) Y8 (fun nm=> match nm with | .x k=> (os'[k]?).isSome | .loc _=> false) v y)
 | [],i,os,seen,ys,os',seen',h,hap=> by
  simp only [JJ,Option.some.injEq,Prod.mk.injEq] at h
  obtain ⟨rfl,rfl,rfl⟩:=h
  exact ⟨.refl _,⟨[],by simp⟩,hap,rfl,fun k x hx hk=> by have:=(List.getElem?_eq_some_iff.1 hx).1;omega,fun s' _ nx ax _ j v x y hx=> by simp at hx⟩
 | x0 ::xs,i,os,seen,ys,os',seen',h,hap=> by
  simp only [JJ] at h
  split at h
  ·rename_i nm mk hp
   split at h
   ·cases h
   ·rename_i cs hcs
    split at h
    ·cases h
    ·rename_i hno
     split at h
     ·rename_i vs os1 s1 hrec
      simp only [Option.some.injEq,Prod.mk.injEq] at h
      obtain ⟨rfl,rfl,rfl⟩:=h
      have hmine:∀ t,(fun t=> !st.dead t) t=true→st.dead t=false:=fun t ht=> by simpa using ht
      have hap1:ZpO (os++[(nm,(YU (fun t=> !st.dead t) (.x os.length) 0 cs seen).1)]):=by
       intro p q x y hx hy he
       rw [List.getElem?_append] at hx hy
       have single:∀ (r:Nat) (z z0:Name × List (C U)),[z0][r]?=some z→r=0∧z=z0:=by
        intro r z z0 hz
        cases r with
        | zero=> simp at hz;exact ⟨rfl,hz.symm⟩
        | succ r=> simp at hz
       split at hx <;> split at hy
       ·exact hap p q x y hx hy he
       ·obtain ⟨_,rfl⟩:=single _ _ _ hy
        exact absurd (Z6w hx he) hno
       ·obtain ⟨_,rfl⟩:=single _ _ _ hx
        exact absurd (Z6w hy he.symm) hno
       ·have h1:=(single _ _ _ hx).1
        have h2:=(single _ _ _ hy).1
        omega
      obtain ⟨r1,⟨more,r2⟩,r3,r4,r5,r6⟩:=Z6c xs (i+1) _ _ _ _ _ hrec hap1
      have hC:=fun nx ax=> ZjM (cfg:=cfg) (g:=g) (nx:=nx) (ax:=ax) (mine:=fun t=> !st.dead t) (nm:= .x os.length) hmine (fun _=> rfl) cs 0 seen
      have hat:os1[os.length]?=some (nm,(YU (fun t=> !st.dead t) (.x os.length) 0 cs seen).1):=by
       rw [r2,List.append_assoc,List.getElem?_append_right (Nat.le_refl _)];simp
      refine ⟨(hC (fun _=> none) (fun _=> ⟨0,0,none⟩)).1.trans r1,⟨(nm,(YU (fun t=> !st.dead t) (.x os.length) 0 cs seen).1) ::more,by rw [r2];simp⟩,r3,by simp [r4],?_,?_⟩
      ·intro k x hx hk
       by_cases e:k=os.length
       ·subst e
        rw [hat] at hx
        cases hx
        exact ⟨cs,hcs,(hC (fun _=> none) (fun _=> ⟨0,0,none⟩)).2.1,fun s' hs nx ax q v c c' h1 h2 h3=> (hC nx ax).2.2 s' (r1.trans hs) q v c c' h1 h2 h3⟩
       ·exact r5 k x hx (by simp;omega)
      ·intro s' hs nx ax hax j v x y hx hy hr
       cases j with
       | zero=>
        simp at hx hy
        subst hx hy
        have:=hax _ _ hat
        simp only at this
        cases x0 <;> simp only [Zwi,reduceCtorEq] at hp
        case ptr nm0 off0=>
         cases hp
         obtain ⟨_,rfl⟩:=hr
         exact ⟨by simp [hat],by simp [Gh.callee,this]⟩
        case clo f0 nms0=>
         split at hp
         ·rename_i heq
          cases heq
         ·rename_i f1 nm1 heq
          cases heq
          cases hp
          obtain ⟨_,rfl⟩:=hr
          refine ⟨fun n hn=> ?_,by simp [Gh.callee,this]⟩
          simp only [List.mem_singleton] at hn
          subst hn
          simp [hat]
         ·cases hp
       | succ j=> exact r6 s' hs nx ax hax j v x y (by simpa using hx) (by simpa using hy) hr
     ·cases h
  ·rename_i hp
   split at h
   ·cases h
   ·rename_i v' seen1 hv
    split at h
    ·rename_i vs os1 s1 hrec
     simp only [Option.some.injEq,Prod.mk.injEq] at h
     obtain ⟨rfl,rfl,rfl⟩:=h
     obtain ⟨r1,r2,r3,r4,r5,r6⟩:=Z6c xs (i+1) _ _ _ _ _ hrec hap
     have hmine:∀ t,(fun t=> ps i && !st.dead t) t=true→st.dead t=false:=fun t ht=> by simp at ht;exact ht.2
     have hV:=fun nx ax lx=> Zte (cfg:=cfg) (g:=g) (nx:=nx) (ax:=ax) (live:=fun nm=> (st.mem nm).isSome) (lx:=lx) hmine (fun _=> rfl) hv
     refine ⟨(hV (fun _=> none) (fun _=> ⟨0,0,none⟩) (fun _=> true)).1.trans r1,r2,r3,by simp [r4],r5,?_⟩
     intro s' hs nx ax hax j v x y hx hy hr
     cases j with
     | zero=>
      simp at hx hy
      subst hx hy
      exact (hV nx ax _).2 s' (r1.trans hs) v hr
     | succ j=> exact r6 s' hs nx ax hax j v x y (by simpa using hx) (by simpa using hy) hr
    ·cases h
end pass
def Gh.back(g':Gh)(os:List (Name × List (C U)))(d:Nat)(ad:Name→Addr)(L:List (Tok × LC U))(bs:Tok→Option (Value × Nat)):Gh:=
 {m:=g'.m
  tag:=fun c=> match g'.tag c with
   | some (.outer t)=> some t
   | some (.obj (.x k))=> (os[k]?).map fun x=> .obj x.1
   | some (.tok t)=> (Y6 d t).map .tok
   | _=> none
  ad:=ad
  bs:=fun t=> match bs t with
   | some v=> some v
   | none=> match Z1j d t with
    | some t'=> match ZJ (fun _=> none) L t' with
     | some _=> g'.bs t'
     | none=> none
    | none=> none }
theorem Z3x{d:Nat}{t t':Tok}(h:Y6 d t=some t'):Z1j d t'=some t:=by
 unfold Y6 at h
 split at h
 ·rename_i j
  cases h
  simp only [Z1j,if_true]
  rw [if_pos (by omega)]
  congr 2
  omega
 ·rename_i k j
  split at h
  ·rename_i hj
   cases h
   simp only [Z1j,if_true]
   rw [if_neg (by omega)]
   congr 2 <;> omega
  ·cases h
 ·cases h
section back
variable {g':Gh} {os:List (Name × List (C U))} {d:Nat} {ad:Name→Addr} {L:List (Tok × LC U)} {bs:Tok→Option (Value × Nat)} {dead:Tok→Bool} {live lv:Name→Bool}
theorem RelC.back(hbs:∀ t t',Z0u d L t=some t'→bs t'=none){v:Value}{c:C U}(h:RelC cfg g' Y8 v c):RelC cfg (g'.back os d ad L bs) dead v (c.mapTok (Y6 d) (Z0u d L)):=by
 obtain ⟨h1,h2⟩:=h
 cases c with
 | slice T l tl=>
  cases tl with
  | unk=> exact ⟨h1,trivial⟩
  | full=> exact ⟨h1,h2⟩
  | own t=>
   simp only [C.mapTok]
   cases hb:Y6 d t with
   | none=> exact ⟨h1.tl _,trivial⟩
   | some t'=>
    refine ⟨h1.tl _,fun _ b len cap hv j hj1 hj2=> ?_⟩
    have:=h2 rfl b len cap hv j hj1 hj2
    simp only [Gh.back,this,hb,Option.map_some]
 | mref t=>
  simp only [C.mapTok]
  cases hb:Z0u d L t with
  | none=> exact ⟨.jk _ h1.one,trivial⟩
  | some t'=>
   refine ⟨.mref _ _ h1.one,fun _=> ?_⟩
   obtain ⟨sz,hs⟩:=h2 rfl
   refine ⟨sz,?_⟩
   have h0:=hbs t t' hb
   unfold Z0u at hb
   cases hL:ZJ (fun _=> none) L t with
   | none=> rw [hL] at hb;cases hb
   | some x=>
    rw [hL] at hb
    simp only [Gh.back,h0,Z3x hb,hL,hs]
 | _=> exact ⟨h1,trivial⟩
theorem RelL.back(hbs:∀ t t',Z0u d L t=some t'→bs t'=none){vs:List Value}{cs:List (C U)}(h:RelL cfg g' Y8 vs cs):RelL cfg (g'.back os d ad L bs) dead vs (cs.map (C.mapTok (Y6 d) (Z0u d L))):=by
 refine ⟨by simp [h.1],fun j v c hv hc=> ?_⟩
 rw [List.getElem?_map] at hc
 cases hcj:cs[j]? with
 | none=> simp [hcj] at hc
 | some c0=>
  simp [hcj] at hc
  subst hc
  exact (h.2 j v c0 hv hcj).back hbs
theorem RelV.back(hbs:∀ t t',Z0u d L t=some t'→bs t'=none){v:Value}:∀ {x:V U},RelV cfg g' Y8 (fun _=> false) v x→RelV cfg (g'.back os d ad L bs) dead live v (x.mapTok (Y6 d) (Z0u d L))
 | .c x,h=> RelC.back hbs (c:=x) h
 | .agg cs,h=> by obtain ⟨vs,h1,h2⟩:=h;exact ⟨vs,h1,h2.back hbs⟩
 | .tup ws,h=> by
  obtain ⟨vs,h1,h2,h3⟩:=h
  refine ⟨vs,h1,by simp [h2],fun j u w hu hw=> ?_⟩
  rw [List.getElem?_map] at hw
  cases hj:ws[j]? with
  | none=> simp [hj] at hw
  | some w0=>
   simp [hj] at hw
   subst hw
   have:=h3 j u w0 hu hj
   obtain ⟨ag,cs⟩:=w0
   cases ag with
   | true=> obtain ⟨vs,h4,h5⟩:=this;exact ⟨vs,h4,h5.back hbs⟩
   | false=> obtain ⟨c,h4,h5⟩:=this;simp only at h4;subst h4;exact ⟨_,rfl,h5.back hbs⟩
 | .ptr nm off,h=> by cases h.1
 | .ap nm off k len n,h=> by cases h.1
 | .ep cs,h=> by
  obtain ⟨b,h1,h2⟩:=h
  refine ⟨b,h1,fun j c hc=> ?_⟩
  rw [List.getElem?_map] at hc
  cases hcj:cs[j]? with
  | none=> simp [hcj] at hc
  | some c0=>
   simp [hcj] at hc
   subst hc
   obtain ⟨u,h3,h4⟩:=h2 j c0 hcj
   exact ⟨u,h3,h4.back hbs⟩
 | .fn f,h=> h
 | .mp ..,_=> trivial
 | .clo ..,_=> trivial
 | .gd b x,h=> ⟨fun hb=> RelV.back hbs (h.1 hb),h.2⟩
 | .nb _ _,h=> h
 | .junk,_=> trivial
end back
theorem Zce{d:Nat}:∀ {L l:List (Tok × LC U)},Z15 st d L=some l→
  (∀ t x,ZJ (fun _=> none) L t=some x→∃ t',Y6 d t=some t'∧st.ls t'=none∧st.dead t'=false∧ZJ st.ls l t'=some x)∧
  (∀ t' x,ZJ st.ls l t'=some x→(st.ls t'=some x∧∀ t,Y6 d t=some t'→ZJ (fun _=> none) L t=none)∨∃ t,ZJ (fun _=> none) L t=some x∧Y6 d t=some t'∧st.dead t'=false)
 | [],l,h=> by
  simp only [Z15,Option.some.injEq] at h
  subst h
  exact ⟨fun t x hx=> by simp [ZJ] at hx,fun t' x hx=> .inl ⟨hx,fun t _=> rfl⟩⟩
 | (t0,x0) ::L,l,h=> by
  simp only [Z15] at h
  split at h
  case h_2=> cases h
  rename_i t1 l1 h1 h2
  split at h
  case isFalse=> cases h
  rename_i hc
  simp only [Bool.and_eq_true,Option.isNone_iff_eq_none,Bool.not_eq_true'] at hc
  simp only [Option.some.injEq] at h
  subst h
  obtain ⟨ih1,ih2⟩:=Zce h2
  have inj:∀ {t:Tok},Y6 d t=some t1→t=t0:=by
   intro t ht
   have e1:=Z3x ht
   have e2:=Z3x h1
   rw [e1] at e2
   exact Option.some.inj e2
  refine ⟨fun t x hx=> ?_,fun t' x hx=> ?_⟩
  ·simp only [ZJ] at hx
   split at hx
   ·rename_i e
    subst e
    cases hx
    exact ⟨t1,h1,hc.1,hc.2,by simp [ZJ]⟩
   ·rename_i e
    obtain ⟨t',g1,g2,g3,g4⟩:=ih1 t x hx
    refine ⟨t',g1,g2,g3,?_⟩
    simp only [ZJ]
    rw [if_neg (fun e'=> by subst e';exact e (inj g1))]
    exact g4
  ·simp only [ZJ] at hx
   split at hx
   ·rename_i e
    subst e
    cases hx
    exact .inr ⟨t0,by simp [ZJ],h1,hc.2⟩
   ·rename_i e
    rcases ih2 t' x hx with ⟨g1,g2⟩ | ⟨t,g1,g2,g3⟩
    ·refine .inl ⟨g1,fun t ht=> ?_⟩
     simp only [ZJ]
     rw [if_neg (fun e'=> by subst e';rw [h1] at ht;cases ht;exact e rfl)]
     exact g2 t ht
    ·refine .inr ⟨t,?_,g2,g3⟩
     simp only [ZJ]
     rw [if_neg (fun e'=> by subst e';rw [h1] at g2;cases g2;exact e rfl)]
     exact g1
theorem Z9H{d:Nat}{L:List (Tok × LC U)}:∀ {os:List (Name × List (C U))} {xs:List (List (C U))} {m:List (Name × List (C U))},Z7a d L os xs=some m→
  xs.length=os.length∧m.length=os.length∧∀ (k:Nat) x cs,os[k]?=some x→xs[k]?=some cs→m[k]?=some (x.1,cs.map (C.mapTok (Y6 d) (Z0u d L)))
 | [],[],m,h=> by simp only [Z7a,Option.some.injEq] at h;subst h;exact ⟨rfl,rfl,fun k x cs hx=> by simp at hx⟩
 | (nm,_) ::os,cs0 ::xs,m,h=> by
  simp only [Z7a] at h
  cases hr:Z7a d L os xs with
  | none=> simp [hr] at h
  | some m'=>
   simp only [hr,Option.map_some,Option.some.injEq] at h
   subst h
   obtain ⟨h1,h2,h3⟩:=Z9H hr
   refine ⟨by simp [h1],by simp [h2],fun k x cs hx hc=> ?_⟩
   cases k with
   | zero=> simp at hx hc;subst hx hc;rfl
   | succ k=> simpa using h3 k x cs (by simpa using hx) (by simpa using hc)
theorem Z0g(m0:Name→Option (List (C U))):∀ (m:List (Name × List (C U))) (nm:Name),(∃ (k:Nat) (cs:List (C U)),m[k]?=some (nm,cs)∧ZV m0 m nm=some cs)∨((∀ (k:Nat) x,m[k]?=some x→x.1≠nm)∧ZV m0 m nm=m0 nm)
 | [],nm=> .inr ⟨fun k x hx=> by simp at hx,rfl⟩
 | (a,cs) ::r,nm=> by
  simp only [ZV]
  split
  ·rename_i e
   subst e
   exact .inl ⟨0,cs,rfl,rfl⟩
  ·rename_i e
   rcases Z0g m0 r nm with ⟨k,cs',h1,h2⟩ | ⟨h1,h2⟩
   ·exact .inl ⟨k+1,cs',by simpa using h1,h2⟩
   ·refine .inr ⟨fun k x hx=> ?_,h2⟩
    cases k with
    | zero=> simp at hx;subst hx;exact fun h=> e h.symm
    | succ k=> exact h1 k x (by simpa using hx)
theorem Zgw{xs:List Operand}{vs:List (V U)}(hm:xs.mapM st.opnd=some vs)(hop:∀ x∈xs,∀ v,st.opnd x=some v→RelV cfg g st.dead (fun nm=> (st.mem nm).isSome) (a.eval x) v):
  (xs.map a.eval).length=vs.length∧∀ (j:Nat) u x,(xs.map a.eval)[j]?=some u→vs[j]?=some x→RelV cfg g st.dead (fun nm=> (st.mem nm).isSome) u x:=by
 have hlen:∀ {xs:List Operand} {vs:List (V U)},xs.mapM st.opnd=some vs→xs.length=vs.length:=by
  intro xs
  induction xs with
  | nil=> intro vs h;simp at h;subst h;rfl
  | cons y xs ih=>
   intro vs h
   rw [List.mapM_cons] at h
   cases h1:st.opnd y with
   | none=> simp [h1] at h
   | some v=>
    cases h2:xs.mapM st.opnd with
    | none=> simp [h1,h2] at h
    | some r=>
     simp [h1,h2] at h
     subst h
     simp [ih h2]
 refine ⟨by simp [hlen hm],fun j u x hu hx=> ?_⟩
 rw [List.getElem?_map] at hu
 cases hj:xs[j]? with
 | none=> simp [hj] at hu
 | some y=>
  simp [hj] at hu
  subst hu
  obtain ⟨v,h1,h2⟩:=Z6n hm j y hj
  rw [hx] at h1
  cases h1
  exact hop y (List.mem_of_getElem? hj) x h2
theorem Zfc {Γ:Known U} (hΓ:∀ f s,Γ f=some s→Contract P cfg f s) (h:Rel cfg B st g a w) {o:Oper} {c:Call} {gx:Operand} {f:FuncId} {args:List (V U)} {ps:List Prop} {e:Eff U} {d:Nat}
  (ho:o.op= .call c) (hc:c.callee= .value gx) {caps:List Value} (hg:a.eval gx= .func (.func f) #[] caps.toArray)
  (hargs:(c.args.toList.map a.eval++caps).length=args.length∧∀ (j:Nat) u x,(c.args.toList.map a.eval++caps)[j]?=some u→args[j]?=some x→RelV cfg g st.dead (fun nm=> (st.mem nm).isSome) u x)
  (he:Zaz Γ st d f args=some (ps,e)) (hps:All ps):
  Does P o a w fun v w'=> ∃ g',Out cfg B st g e v w' g':=by
 unfold Zaz at he
 split at he
 ·cases he
 rename_i s hs
 split at he
 ·cases he
 rename_i ys os toks hpass
 split at he
 ·cases he
 rename_i ps' r xs L0 hfn
 split at he
 case h_2=> cases he
 rename_i m ll hmb hlb
 simp only [Option.some.injEq,Prod.mk.injEq] at he
 obtain ⟨rfl,rfl⟩:=he
 obtain ⟨q1,q2⟩:=Zce hlb
 obtain ⟨⟨fn,hf1,hf2,hf3⟩,hcon⟩:=hΓ f s hs
 obtain ⟨p1,_,p3,p4,p5,p6⟩:=Z6c (cfg:=cfg) (g:=g) _ _ _ _ _ _ _ hpass (fun i j x y hx=> by simp at hx)
 obtain ⟨b1,b2,b3⟩:=Z9H hmb
 let ax:Nat→Addr:=fun k=> ((os[k]?).map fun x=> g.ad x.1).getD ⟨0,0,none⟩
 have hax:∀ (k:Nat) x,os[k]?=some x→ax k=g.ad x.1:=fun k x hx=> by simp [ax,hx]
 let gc:=g.callee (Z0G os 0) toks ax
 have htag:∀ c t,gc.tag c=some (.outer t)↔(g.tag c=some t∧(∀ nm,t= .obj nm→Z0G os 0 nm=none)∧(∀ u,t= .tok u→YP toks u=none)):=by
  intro c t
  simp only [gc,Gh.callee]
  cases hgt:g.tag c with
  | none=> simp
  | some t0=>
   cases t0 with
   | obj nm=>
    cases hn:Z0G os 0 nm with
    | none=>
     simp only [hn]
     constructor
     ·intro h;cases h;exact ⟨rfl,fun nm' e=> by cases e;exact hn,fun u e=> by cases e⟩
     ·rintro ⟨h1,_,_⟩;cases h1;rfl
    | some k=>
     simp only [hn]
     constructor
     ·intro h;cases h
     ·rintro ⟨h1,h2,_⟩;cases h1;rw [h2 nm rfl] at hn;cases hn
   | tok u=>
    cases hn:YP toks u with
    | none=>
     simp only [hn]
     constructor
     ·intro h;cases h;exact ⟨rfl,fun nm' e=> by (cases e),fun u' e=> by cases e;exact hn⟩
     ·rintro ⟨h1,_,_⟩;cases h1;rfl
    | some k=>
     simp only [hn]
     constructor
     ·intro h;cases h
     ·rintro ⟨h1,_,h2⟩;cases h1;rw [h2 u rfl] at hn;cases hn
   | outer t0=>
    simp only
    constructor
    ·intro h;cases h;exact ⟨rfl,fun nm' e=> by (cases e),fun u' e=> by (cases e)⟩
    ·rintro ⟨h1,_,_⟩;cases h1;rfl
 have hsome:∀ c t,gc.tag c=some t→∃ t0,g.tag c=some t0:=by
  intro c t ht
  simp only [gc,Gh.callee] at ht
  cases hgt:g.tag c with
  | none=> simp [hgt] at ht
  | some t0=> exact ⟨t0,rfl⟩
 have hnone:∀ c,g.tag c=none→gc.tag c=none:=by
  intro c hc
  simp only [gc,Gh.callee,hc]
 have hentry:Entry cfg w gc (c.args.toList.map a.eval++caps) ys (os.map (·.2)) (bif s.wr then Z07 st.ls toks (toks.map (·.2)) else []):=by
  refine ⟨⟨fun c v hv=> ?_,fun c t ht=> ?_⟩,fun c t ht=> ?_,by rw [hargs.1,p4],fun j v x hv hx=> ?_,fun k cs hk j c hj=> ?_,fun t ht=> (by simp only [gc,Gh.callee,ht,if_true]),fun t x hx=> ?_⟩
  ·obtain ⟨h1,h2⟩:=h.inv.im c v hv
   exact ⟨h1,hnone c h2⟩
  ·obtain ⟨t0,ht0⟩:=hsome c t ht
   exact h.inv.it c t0 ht0
  ·simp only [gc,Gh.callee] at ht
   split at ht
   ·split at ht
    ·cases ht;exact .inr (.inl ⟨_,rfl⟩)
    ·cases ht;exact .inl ⟨_,rfl⟩
   ·split at ht
    ·cases ht;exact .inr (.inr ⟨_,rfl⟩)
    ·cases ht;exact .inl ⟨_,rfl⟩
   ·cases ht;exact .inl ⟨_,rfl⟩
   ·cases ht
  ·have hj:j < args.length:=by have:=(List.getElem?_eq_some_iff.1 hx).1;omega
   have hax':=List.getElem?_eq_getElem hj
   have:=p6 toks (.refl _) (Z0G os 0) ax hax j v _ x hax' hx (hargs.2 j v _ hv hax')
   have hl:ZeQ (os.map (·.2))=fun nm:Name=> match nm with | .x k=> (os[k]?).isSome | .loc _=> false:=by
    funext nm;cases nm <;> simp [ZeQ]
   rw [hl]
   exact this
  ·rw [List.getElem?_map] at hk
   cases hx:os[k]? with
   | none=> simp [hx] at hk
   | some x=>
    simp [hx] at hk
    subst hk
    obtain ⟨cs0,h1,h2,h3⟩:=p5 k x hx (by simp)
    have hj0:j < cs0.length:=by have:=(List.getElem?_eq_some_iff.1 hj).1;omega
    obtain ⟨v,h4,h5,h6⟩:=h.mem x.1 cs0 h1 j _ (List.getElem?_eq_getElem hj0)
    have had:gc.ad (.x k)=g.ad x.1:=hax k x hx
    rw [had]
    refine ⟨v,h4,?_,h3 toks (.refl _) _ _ j v _ c (List.getElem?_eq_getElem hj0) hj h6⟩
    have hn:Z0G os 0 x.1=some k:=by have:=Zgo (k:=0) p3 hx rfl;simpa using this
    simp only [gc,Gh.callee,h5,hn]
  ·have hx:ZJ (fun _=> none) (Z07 st.ls toks (toks.map (·.2))) t=some x:=by
    cases hw:s.wr with
    | true=> rw [hw] at hx;exact hx
    | false=> rw [hw] at hx;cases hx
   obtain ⟨u,h5,h6,h7,h8⟩:=Z0P _ hx
   obtain ⟨_,hL⟩:=h.ls u x h7
   have hbs:gc.bs t=g.bs u:=by simp only [gc,Gh.callee,h8,Bool.false_eq_true,if_false,ZgN,h5]
   have htg:∀ c,g.tag c=some (.tok u)→gc.tag c=some (.tok t):=fun c hc=> by simp only [gc,Gh.callee,hc,h6]
   rcases hL with ⟨e1,e2⟩ | ⟨b,len,cap,e1,e2,e3,e4,e5,e6⟩
   ·exact .inl ⟨hbs.trans e1,e2⟩
   ·refine .inr ⟨b,len,cap,hbs.trans e1,e2,e3,e4,fun i y hy j c hc=> ?_,fun j a1 a2=> htg _ (e6 j a1 a2)⟩
    obtain ⟨v,e7,e8,e9,e10⟩:=e5 i y hy j c hc
    exact ⟨v,e7,e8,e9,fun hi=> htg _ (e10 hi)⟩
 have hcall:=hcon ys (os.map (·.2)) _ _ r xs L0 hfn hps (by rw [b1];simp) w gc _ hentry
 refine .inr (.inr ⟨f,(c.args.toList.map a.eval++caps).toArray,w,?_,Calls.mono hcall ?_⟩)
 ·have hb:fn.body.isNone=false:=by cases hfb:fn.body <;> simp_all
  simp only [execOp,ho,resolve,hc,hg,Deferred.ofValue,Sem.run_bind,Sem.run_pure,Result.andThen_ok,invoke,callFunc,run_program,hf1]
  simp [hf3,hb]
 ·rintro e' w' ⟨v,g',rfl,L⟩
  refine ⟨v,rfl,g'.back os d g.ad L0 g.bs,?_⟩
  have hgm:gc.m=g.m:=rfl
  have hback:∀ c t,g.tag c=some t→(∀ nm,t= .obj nm→Z0G os 0 nm=none)→(∀ u,t= .tok u→YP toks u=none)→(g'.back os d g.ad L0 g.bs).tag c=some t∧w'.cell? c=w.cell? c:=by
   intro c t h1 h2 h3
   have:=L.fr.outer c t ((htag c t).2 ⟨h1,h2,h3⟩)
   exact ⟨by simp only [Gh.back,this.1],this.2⟩
  have hbtag:∀ c t,(g'.back os d g.ad L0 g.bs).tag c=some t→∃ t',g'.tag c=some t':=by
   intro c t ht
   simp only [Gh.back] at ht
   cases hgt:g'.tag c with
   | none=> simp [hgt] at ht
   | some t'=> exact ⟨t',rfl⟩
  have hdl:∀ t,Zy st ({ val:=some (r.mapTok (Y6 d) (Z0u d L0)),mem:=m,kill:=toks.map (·.1),ls:=ll }:Eff U) t=false→st.dead t=false∧YP toks t=none:=by
   intro t ht
   simp only [Zy,Bool.or_eq_false_iff] at ht
   refine ⟨ht.1,?_⟩
   cases hn:YP toks t with
   | none=> rfl
   | some t'=> have:=Zez hn;rw [ht.2] at this;cases this
  have hkeep:Keeps g (g'.back os d g.ad L0 g.bs) st.dead (Zy st ({ val:=some (r.mapTok (Y6 d) (Z0u d L0)),mem:=m,kill:=toks.map (·.1),ls:=ll }:Eff U)) (fun nm=> (st.mem nm).isSome) (Yx st ({ val:=some (r.mapTok (Y6 d) (Z0u d L0)),mem:=m,kill:=toks.map (·.1),ls:=ll }:Eff U)):=by
   refine ⟨fun c v hv=> L.fr.mono c v hv,fun c t hd ht=> ?_,fun t ht=> (hdl t ht).1,fun nm hn=> ⟨?_,rfl⟩,fun t v _ hv=> by simp only [Gh.back,hv]⟩
   ·exact (hback c _ ht (fun nm e=> by cases e) (fun u e=> by cases e;exact (hdl _ hd).2)).1
   ·simp only [Yx]
    rcases Z0g st.mem m nm with ⟨k,cs,_,h2⟩ | ⟨_,h2⟩
    ·rw [h2];try rfl
    ·rw [h2];exact hn
  have hbs:∀ t t',Z0u d L0 t=some t'→g.bs t'=none:=by
   intro t t' hb
   unfold Z0u at hb
   cases hx:ZJ (fun _=> none) L0 t with
   | none=> rw [hx] at hb;cases hb
   | some x=>
    rw [hx] at hb
    obtain ⟨t2,g1,g2,g3,_⟩:=q1 t x hx
    simp only at hb
    rw [hb] at g1
    cases g1
    refine h.fresh t' ?_ g2 g3
    unfold Y6 at hb
    split at hb
    ·cases hb;rfl
    ·split at hb
     ·cases hb;rfl
     ·cases hb
    ·cases hb
  have hlsO:∀ t x,Z14 st.ls ({ val:=some (r.mapTok (Y6 d) (Z0u d L0)),mem:=m,kill:=toks.map (·.1),ls:=ll }:Eff U) t=some x→(toks.map (·.1)).contains t=false∧ZJ st.ls ll t=some x:=by
   intro t x hx
   unfold Z14 at hx
   cases hk:(toks.map (·.1)).contains t with
   | true=> simp only [hk,cond_true,reduceCtorEq] at hx
   | false=> simp only [hk,cond_false] at hx;exact ⟨rfl,hx⟩
  refine ⟨⟨fun c v hv=> ?_,fun c t ht=> ?_⟩,?_,hkeep,?_,L.val.back hbs,?_,?_⟩
  ·obtain ⟨h1,h2⟩:=L.inv.im c v hv
   exact ⟨h1,by simp only [Gh.back,h2]⟩
  ·obtain ⟨t',ht'⟩:=hbtag c t ht
   exact L.inv.it c t' ht'
  ·refine ⟨h.fr.stay.trans L.fr.stay,h.fr.xad,fun c v hv=> L.fr.mono c v (h.fr.mono c v hv),fun c t ht=> ?_,fun c t ht=> ?_,fun b hb hcl=> ?_⟩
   ·obtain ⟨h1,h2⟩:=h.fr.outer c t ht
    obtain ⟨h3,h4⟩:=hback c _ h1 (fun nm e=> by cases e) (fun u e=> by cases e)
    exact ⟨h3,h4.trans h2⟩
   ·simp only [Gh.back] at ht
    split at ht
    ·rename_i t' ht'
     cases ht
     have:=(htag c _).1 (L.fr.outer' c _ ht')
     exact h.fr.outer' c t this.1
    ·cases hx:os[‹Nat›]? with
     | none=> simp [hx] at ht
     | some x=> simp [hx] at ht
    ·cases hx:Y6 d ‹Tok› with
     | none=> simp [hx] at ht
     | some x=> simp [hx] at ht
    ·cases ht
   ·obtain ⟨h1,h2⟩:=h.fr.clean b hb hcl
    have hall:∀ o s t,g.tag ⟨b,o,s⟩=some t→∃ t',t= .outer t':=fun o s t ht=> hcl o s t (by rw [←h2];exact ht)
    have hcall':∀ o s t,gc.tag ⟨b,o,s⟩=some t→∃ t',t= .outer t':=by
     intro o s t ht
     obtain ⟨t0,ht0⟩:=hsome _ _ ht
     obtain ⟨t1,rfl⟩:=hall o s t0 ht0
     have:=(htag ⟨b,o,s⟩ (.outer t1)).2 ⟨ht0,(fun nm e=> by cases e),(fun u e=> by cases e)⟩
     rw [ht] at this
     cases this
     exact ⟨_,rfl⟩
    obtain ⟨h3,h4⟩:=L.fr.clean b (Nat.lt_of_lt_of_le hb h.fr.stay.size) hcall'
    refine ⟨h3.trans h1,fun o s=> ?_⟩
    rw [←h2 o s]
    have h5:g'.tag ⟨b,o,s⟩=gc.tag ⟨b,o,s⟩:=h4 o s
    cases hgt:g.tag ⟨b,o,s⟩ with
    | none=>
     simp only [Gh.back,h5,hnone _ hgt]
    | some t=>
     obtain ⟨t1,rfl⟩:=hall o s t hgt
     exact (hback _ _ hgt (fun nm e=> by cases e) (fun u e=> by cases e)).1
  ·intro nm cs hm j cc hj
   rcases Z0g st.mem m nm with ⟨k,cs',h1,h2⟩ | ⟨h1,h2⟩
   ·rw [h2] at hm
    cases hm
    have hk:k < os.length:=by have:=(List.getElem?_eq_some_iff.1 h1).1;omega
    have hok:os[k]?=some os[k]:=List.getElem?_eq_getElem hk
    have hxk:xs[k]?=some (xs[k]'(by omega)):=List.getElem?_eq_getElem _
    have h3:=b3 k _ _ hok hxk
    rw [h1] at h3
    simp only [Option.some.injEq,Prod.mk.injEq] at h3
    obtain ⟨rfl,rfl⟩:=h3
    rw [List.getElem?_map] at hj
    cases hj0:(xs[k]'(by omega))[j]? with
    | none=> simp [hj0] at hj
    | some c0=>
     simp [hj0] at hj
     subst hj
     obtain ⟨v0,h4,h5,h6⟩:=L.x k _ hxk j c0 hj0
     have had:g'.ad (.x k)=g.ad os[k].1:=(L.ad k).trans (hax k _ hok)
     rw [had] at h4 h5
     refine ⟨v0,h4,?_,h6.back hbs⟩
     show (g'.back os d g.ad L0 g.bs).tag ((g.ad os[k].1).add j)=_
     simp only [Gh.back,h5,hok,Option.map_some]
   ·rw [h2] at hm
    obtain ⟨v0,h4,h5,h6⟩:=h.mem nm cs hm j cc hj
    have hn:Z0G os 0 nm=none:=ZjX (fun i x hx e=> by
     have hi:i < m.length:=by have:=(List.getElem?_eq_some_iff.1 hx).1;omega
     have hxi:xs[i]?=some (xs[i]'(by omega)):=List.getElem?_eq_getElem _
     exact h1 i _ (b3 i x _ hx hxi) e) 0
    obtain ⟨h7,h8⟩:=hback _ _ h5 (fun nm' e=> by cases e;exact hn) (fun u e=> by cases e)
    exact ⟨v0,h8.trans h4,h7,h6.keep hkeep⟩
  ·intro t x hx
   obtain ⟨hk,hx⟩:=hlsO t x hx
   rcases q2 t x hx with ⟨g1,_⟩ | ⟨t0,g1,g2,g3⟩
   ·obtain ⟨g3,g4⟩:=h.ls t x g1
    have hd:Zy st ({ val:=some (r.mapTok (Y6 d) (Z0u d L0)),mem:=m,kill:=toks.map (·.1),ls:=ll }:Eff U) t=false:=by simp only [Zy,g3,hk,Bool.or_self]
    exact ⟨hd,g4.keep hkeep hd (fun c v hv=> (L.inv.im c v (L.fr.mono c v hv)).1) (fun c htc=> (hback c _ htc (fun nm e=> by cases e) (fun u e=> by cases e;exact (hdl _ hd).2)).2)⟩
   ·have hd:Zy st ({ val:=some (r.mapTok (Y6 d) (Z0u d L0)),mem:=m,kill:=toks.map (·.1),ls:=ll }:Eff U) t=false:=by simp only [Zy,g3,hk,Bool.or_self]
    have hbm:Z0u d L0 t0=some t:=by unfold Z0u;rw [g1];exact g2
    have hb0:=hbs _ _ hbm
    have hbt:(g'.back os d g.ad L0 g.bs).bs t=g'.bs t0:=by simp only [Gh.back,hb0,Z3x g2,g1]
    have htk:∀ c,g'.tag c=some (.tok t0)→(g'.back os d g.ad L0 g.bs).tag c=some (.tok t):=by
     intro c hc
     simp only [Gh.back,hc,g2,Option.map_some]
    refine ⟨hd,?_⟩
    rcases L.ls t0 x g1 with ⟨e1,e2⟩ | ⟨b,len,cap,e1,e2,e3,e4,e5,e6⟩
    ·exact .inl ⟨hbt.trans e1,e2⟩
    ·refine .inr ⟨b,len,cap,hbt.trans e1,e2,e3,e4,fun i y hy j c hc=> ?_,fun j a1 a2=> htk _ (e6 j a1 a2)⟩
     obtain ⟨u,e7,e8,e9,e10⟩:=e5 i y hy j c hc
     exact ⟨u,e7,e8,e9,fun hi=> htk _ (e10 hi)⟩
  ·intro t ht hn hd
   have hst:st.dead t=false:=(hdl t hd).1
   have hk:(toks.map (·.1)).contains t=false:=by simp only [Zy,Bool.or_eq_false_iff] at hd;exact hd.2
   have hn':ZJ st.ls ll t=none:=by
    unfold Z14 at hn
    simp only [hk,cond_false] at hn
    exact hn
   have hst0:st.ls t=none:=by
    cases hx:st.ls t with
    | none=> rfl
    | some x=>
     exfalso
     have:∀ (l:List (Tok × LC U)),ZJ st.ls l t=none→False:=by
      intro l
      induction l with
      | nil=> intro h;rw [ZJ,hx] at h;cases h
      | cons y l ih=>
       obtain ⟨a,b⟩:=y
       intro h
       simp only [ZJ] at h
       split at h
       ·cases h
       ·exact ih h
     exact this _ hn'
   have hb0:=h.fresh t ht hst0 hst
   simp only [Gh.back,hb0]
   cases hu:Z1j d t with
   | none=> rfl
   | some t'=>
    simp only
    cases hx:ZJ (fun _=> none) L0 t' with
    | none=> rfl
    | some x=>
     simp only
     obtain ⟨t2,g1,g2,g3,g4⟩:=q1 t' x hx
     cases hg:g'.bs t' with
     | none=> rfl
     | some v=>
      exfalso
      have:t2=t:=by
       cases t with
       | r d' m=>
        simp only [Z1j] at hu
        split at hu
        ·rename_i e
         subst e
         split at hu
         ·cases hu
          simp only [Y6,Option.some.injEq] at g1
          rw [←g1];congr 1;omega
         ·cases hu
          simp only [Y6] at g1
          split at g1
          ·cases g1;congr 1;omega
          ·cases g1
        ·cases hu
       | _=> simp [Z1j] at hu
      subst this
      rw [hn'] at g4
      cases g4
end Go.AM
