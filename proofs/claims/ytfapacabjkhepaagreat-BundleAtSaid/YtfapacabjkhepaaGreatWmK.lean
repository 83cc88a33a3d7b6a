import Derived.Test.YtfapacabjkhepaaGreatWmJ
import Derived.Test.YtfapacabjkhepaaGreatWmS
import Derived.Deep.LoopGhost
set_option linter.unusedSimpArgs false
set_option linter.unusedVariables false
namespace Go.AM
variable {U:Uni} {P:Program} {cfg:Cfg U} {B:Base} {st:FSt U} {g:Gh} {a:Act} {w:World}
structure LSt (U:Uni) where
 env:List (Nat × V U)
 mem:List (Name × List (C U))
 ls:List (Tok × LC U)
def ZgQ:List (Nat × V U)->Nat->V U
 | [],_=> .junk
 | (a,v) ::r,k=> bif Nat.beq a k then v else ZgQ r k
def Z4D:List (Name × List (C U))->Name->Option (List (C U))
 | [],_=> none
 | (a,cs) ::r,nm=> if a=nm then some cs else Z4D r nm
def LSt.toF(s:LSt U)(n:Nat):FSt U:={ n:=n,env:=ZgQ s.env,mem:=Z4D s.mem,dead:=ZW,ls:=ZC (fun _=> none) s.ls,mu:=false,vw:=false }
def ZHT(t:Nat)(o:Oper):Bool:=
 match o.op,o.dst with
 | .call c,some d=> match c.callee with
  | .builtin .append=> Nat.beq d t
  | _=> false
 | _,_=> false
def ZBQ(ops:List Oper)(o:Oper):Bool:=
 match o.op with
 | .indexAddr _ (.tmp t) _=> ops.any (ZHT t)
 | _=> false
def ZHS(o:Oper):Bool:=
 match o.op with
 | .call c=> match c.callee with
  | .builtin .clear=> true
  | .builtin .copy=> true
  | _=> false
 | _=> false
def LSt.toR(s:LSt U)(n:Nat)(mk:Bool)(ops:Array Oper):FSt U:={ n:=n,env:=ZgQ s.env,mem:=Z4D s.mem,dead:=ZW,ls:=ZC (fun _=> none) s.ls,mu:=mk || ops.toList.any (ZBQ ops.toList),vw:=ops.toList.any ZHS }
theorem Zom{s:LSt U}{n:Nat}{mk:Bool}{ops:Array Oper}(h:Rel cfg B (s.toF n) g a w):Rel cfg B (s.toR n mk ops) g a w:=
 ⟨h.inv,h.fr,h.env,h.mem,h.sz,h.df,h.ls,h.fresh⟩
inductive Sk (U:Uni) where
 | any | own (T:U.Ty) | unk (T:U.Ty) | wr (T:U.Ty) | pt (T:U.Ty)
def sk0:List (Sk U)->Sk U
 | []=> .any
 | k ::_=> k
def Z8n(mine:Tok->Bool)(nm:Tok)(k:Sk U)(c:C U)(seen:List (Tok × Tok)):C U × List (Tok × Tok):=
 match k,c with
 | .own T,.nils=> (.slice T [] (.own nm),seen)
 | .own _,.slice T l .full=> (.slice T l (.own nm),seen)
 | .unk T,.nils=> (.slice T [] .unk,seen)
 | .unk _,.slice T l _=> (.slice T l .unk,seen)
 | .pt T,.nilp=> (.po T none,seen)
 | _,.xp k=> (.xp k,seen)
 | _,c=> Z0j mine nm c seen
def Z1o(mine:Tok->Bool)(nm:Nat->Tok):Nat->List (Sk U)->List (C U)->List (Tok × Tok)->List (C U) × List (Tok × Tok)
 | _,_,[],seen=> ([],seen)
 | j,ks,c ::r,seen=> ((Z8n mine (nm j) (sk0 ks) c seen).1 ::(Z1o mine nm (j+1) ks.tail r (Z8n mine (nm j) (sk0 ks) c seen).2).1,(Z1o mine nm (j+1) ks.tail r (Z8n mine (nm j) (sk0 ks) c seen).2).2)
def Zac(mine:Tok->Bool)(nm:Nat->Tok)(keep:Name->Bool)(ks:List (Sk U))(v:V U)(seen:List (Tok × Tok)):V U × List (Tok × Tok):=
 match v with
 | .c x=> (.c (Z8n mine (nm 0) (sk0 ks) x seen).1,(Z8n mine (nm 0) (sk0 ks) x seen).2)
 | .agg cs=> (.agg (Z1o mine nm 0 ks cs seen).1,(Z1o mine nm 0 ks cs seen).2)
 | .ptr nm off=> (bif keep nm then .ptr nm off else .junk,seen)
 | .ep cs=> (.ep (J6 (fun _=> false) nm 0 cs seen).1,(J6 (fun _=> false) nm 0 cs seen).2)
 | .fn f=> (.fn f,seen)
 | .clo f nms=> (bif nms.all keep then .clo f nms else .junk,seen)
 | .nb p q=> (.nb p q,seen)
 | _=> (.junk,seen)
def Z19(st:FSt U)(keep:Name->Bool):List (Nat × List (Sk U))->List (Tok × Tok)->List (Nat × V U) × List (Tok × Tok)
 | [],seen=> ([],seen)
 | (k,ks) ::r,seen=> ((k,(Zac (fun t=> !st.dead t) (.e k) keep ks (st.env k) seen).1) ::(Z19 st keep r (Zac (fun t=> !st.dead t) (.e k) keep ks (st.env k) seen).2).1,
   (Z19 st keep r (Zac (fun t=> !st.dead t) (.e k) keep ks (st.env k) seen).2).2)
def Zh5:Name->Nat->Tok
 | .loc s,j=> .l s j
 | .x k,j=> .x k j
def JU(st:FSt U):List (Name × List (Sk U))->List (Tok × Tok)->List (Name × List (C U)) × List (Tok × Tok)
 | [],seen=> ([],seen)
 | (nm,ks) ::r,seen=> match st.mem nm with
  | some cs=> ((nm,(Z1o (fun t=> !st.dead t) (Zh5 nm) 0 ks cs seen).1) ::(JU st r (Z1o (fun t=> !st.dead t) (Zh5 nm) 0 ks cs seen).2).1,(JU st r (Z1o (fun t=> !st.dead t) (Zh5 nm) 0 ks cs seen).2).2)
  | none=> JU st r seen
def Z0s(l:List (Name × List (Sk U)))(nm:Name):Bool:=
 match l with
 | []=> false
 | (a,_) ::r=> if a=nm then true else Z0s r nm
def Zqq(nm:Nat->Tok):Nat->List (Sk U)->List Tok
 | _,[]=> []
 | j,.wr _ ::r=> nm j ::Zqq nm (j+1) r
 | j,_ ::r=> Zqq nm (j+1) r
def Zqp(lv:List (Nat × List (Sk U)))(lm:List (Name × List (Sk U))):List Tok:=
 (lv.flatMap fun x=> Zqq (.e x.1) 0 x.2)++lm.flatMap fun x=> Zqq (Zh5 x.1) 0 x.2
def ZCV(lv:List (Nat × List (Sk U)))(lm:List (Name × List (Sk U)))(st:FSt U):LSt U:=
 {env:=(Z19 st (fun nm=> Z0s lm nm && (st.mem nm).isSome) lv []).1
  mem:=(JU st lm (Z19 st (fun nm=> Z0s lm nm && (st.mem nm).isSome) lv []).2).1
  ls:=match Zqp lv lm with
   | []=> []
   | c=> Z0l st.ls (JU st lm (Z19 st (fun nm=> Z0s lm nm && (st.mem nm).isSome) lv []).2).2 c }
def ZuV(k:Sk U)(c:C U):List Tok:=
 match k,c with
 | .wr _,_=> []
 | _,.mref t=> [t]
 | _,_=> []
def ZuW:List (Sk U)->List (C U)->List Tok
 | _,[]=> []
 | ks,c ::r=> ZuV (sk0 ks) c++ZuW ks.tail r
def ZHJ(ks:List (Sk U)):V U->List Tok
 | .c x=> ZuV (sk0 ks) x
 | .agg cs=> ZuW ks cs
 | _=> []
def Z1Y(lv:List (Nat × List (Sk U)))(lm:List (Name × List (Sk U)))(st:FSt U):List Tok:=
 (lv.flatMap fun x=> ZHJ x.2 (st.env x.1))++lm.flatMap fun x=> match st.mem x.1 with
  | some cs=> ZuW x.2 cs
  | none=> []
def FSt.prom1(st:FSt U)(k:Nat)(T:U.Ty):FSt U:=
 match st.env k with
 | .c .nils=> if (st.ls (.z (3*k) 0)).isNone && !st.dead (.z (3*k) 0) then
   {st with env:=fun i=> bif Nat.beq i k then .c (.mref (.z (3*k) 0)) else st.env i,ls:=fun t=> if t= .z (3*k) 0 then some ⟨T,[],0⟩ else st.ls t }
  else st
 | _=> st
def Zd4:Name->Nat
 | .loc s=> 3*s+1
 | .x k=> 3*k+2
def FSt.promM(st:FSt U)(nm:Name)(j:Nat)(T:U.Ty):FSt U:=
 match st.mem nm with
 | some cs=> match cs[j]? with
  | some .nils=> if (st.ls (.z (Zd4 nm) j)).isNone && !st.dead (.z (Zd4 nm) j) then
    {st with mem:=fun n=> if n=nm then some (cs.set j (.mref (.z (Zd4 nm) j))) else st.mem n,ls:=fun t=> if t= .z (Zd4 nm) j then some ⟨T,[],0⟩ else st.ls t }
   else st
  | _=> st
 | none=> st
def FSt.prom(st:FSt U):List ((Nat ⊕ (Name × Nat)) × U.Ty)->FSt U
 | []=> st
 | (.inl k,T) ::r=> (st.prom1 k T).prom r
 | (.inr x,T) ::r=> (st.promM x.1 x.2 T).prom r
def ZCs(nm:Name):Nat->List (Sk U)->List ((Nat ⊕ (Name × Nat)) × U.Ty)
 | _,[]=> []
 | j,.wr T ::r=> (.inr (nm,j),T) ::ZCs nm (j+1) r
 | j,_ ::r=> ZCs nm (j+1) r
def wrs(lm:List (Name × List (Sk U))):List (Nat × List (Sk U))->List ((Nat ⊕ (Name × Nat)) × U.Ty)
 | []=> lm.flatMap fun x=> ZCs x.1 0 x.2
 | (k,[.wr T]) ::r=> (.inl k,T) ::wrs lm r
 | _ ::r=> wrs lm r
def pts:List (Nat × List (Sk U))->List (Nat × U.Ty)
 | []=> []
 | (k,[.pt T]) ::r=> (k,T) ::pts r
 | _ ::r=> pts r
def ZCS{α:Type}(st:FSt U)(k:FSt U->α):List ((Nat ⊕ (Name × Nat)) × U.Ty)->α
 | []=> k st
 | x ::r=> k (st.prom (x ::r))
def Z65{α:Type}(cfg:Cfg U)(lv:List (Nat × List (Sk U)))(lm:List (Name × List (Sk U)))(st:FSt U)(k:FSt U->α):α:=
 ZCS st (fun st=> Z3a cfg st (fun st=> Z6q cfg st k (Z1Y lv lm st)) (pts lv)) (wrs lm lv)
theorem Z6u:∀ {l:List Name} {nm:Name},nm∈l->Jf l nm=true
 | a ::r,nm,h=> by
  simp only [Jf]
  split
  .try rfl
  .rename_i e
   rcases Q9.1 h with rfl | h
   .grind
   .exact Z6u h
structure RenA (ok:Tok->Bool) (g:Gh) (s:List (Tok × Tok)) (g2:Gh):Prop extends Ren ok g s g2 where
 adx:∀ k,g2.ad (.x k)=g.ad (.x k)
theorem Zhz{okT mine:Tok->Bool}{nm:Tok}{k:Sk U}{c:C U}{seen:List (Tok × Tok)}(hmine:∀ t,mine t=true->st.dead t=false)(hok:okT nm=true):
  Ext seen (Z8n mine nm k c seen).2/\∀ s',Ext (Z8n mine nm k c seen).2 s'->∀ g2,RenA okT g s' g2->∀ v,RelC cfg g st.dead v c->RelC cfg g2 ZW v (Z8n mine nm k c seen).1:=by
 unfold Z8n
 split
 .rename_i T
  refine ⟨.refl _,fun s' _ g2 hg v hr=> ?_⟩
  have h1:=hr.1
  cases h1
  exact ⟨.snil T _,fun _ a len cap hv=> by simp at hv⟩
 .rename_i T0 T l
  refine ⟨.refl _,fun s' _ g2 hg v hr=> ⟨by rw [hg.m];exact hr.1.tl _,fun _ b len cap hv j h1 h2=> ?_⟩⟩
  have:=hr.2 _ _ _ hv
  grind
 .rename_i T
  refine ⟨.refl _,fun s' _ g2 hg v hr=> ?_⟩
  have h1:=hr.1
  cases h1
  exact ⟨.snil T _,trivial⟩
 .exact ⟨.refl _,fun s' _ g2 hg v hr=> ⟨by rw [hg.m];exact hr.1.tl _,trivial⟩⟩
 .rename_i T
  refine ⟨.refl _,fun s' _ g2 hg v hr=> ?_⟩
  have h1:=hr.1
  cases h1
  exact ⟨.pnil T,trivial⟩
 .refine ⟨.refl _,fun s' _ g2 hg v hr=> ⟨.xp _ _ hr.1.one,?_⟩⟩
  have h2:v= .pointer (some (g.ad (.x _))):=hr.2
  show v= .pointer (some (g2.ad (.x _)))
  rw [hg.adx];exact h2
 .obtain ⟨h1,h2⟩:=Z8W (cfg:=cfg) (st:=st) (g:=g) (nm:=nm) (c:=c) (seen:=seen) hmine hok
  exact ⟨h1,fun s' hs g2 hg v hr=> h2 s' hs g2 hg.toRen v hr⟩
theorem Z7o{okT mine:Tok->Bool}{nm:Nat->Tok}(hmine:∀ t,mine t=true->st.dead t=false)(hok:∀ j,okT (nm j)=true):∀ (cs:List (C U)) (j:Nat) (ks:List (Sk U)) (seen:List (Tok × Tok)),
  Ext seen (Z1o mine nm j ks cs seen).2/\(Z1o mine nm j ks cs seen).1.length=cs.length/\
   ∀ s',Ext (Z1o mine nm j ks cs seen).2 s'->∀ g2,RenA okT g s' g2->∀ (i:Nat) v c c',cs[i]?=some c->(Z1o mine nm j ks cs seen).1[i]?=some c'->RelC cfg g st.dead v c->RelC cfg g2 ZW v c'
 | [],j,ks,seen=> ⟨.refl _,rfl,fun s' _ g2 _ i v c c' hc=> by simp at hc⟩
 | c ::cs,j,ks,seen=> by
  obtain ⟨h1,h2⟩:=Zhz (cfg:=cfg) (g:=g) (okT:=okT) (nm:=nm j) (k:=sk0 ks) (c:=c) (seen:=seen) hmine (hok j)
  obtain ⟨h3,h4,h5⟩:=Z7o (okT:=okT) (mine:=mine) (nm:=nm) hmine hok cs (j+1) ks.tail (Z8n mine (nm j) (sk0 ks) c seen).2
  refine ⟨h1.trans h3,by simp [Z1o,h4],fun s' hs g2 hg i v c0 c' hc hc' hr=> ?_⟩
  cases i with
  | zero=>
   simp [Z1o] at hc hc'
   subst hc hc'
   exact h2 s' (h3.trans hs) g2 hg v hr
  | succ i=>
   simp [Z1o] at hc hc'
   exact h5 s' hs g2 hg i v c0 c' hc hc' hr
def Gh.anew(g:Gh)(s:List (Tok × Tok))(keep:Name->Bool)(okT:Tok->Bool):Gh:=
 {m:=g.m
  tag:=fun c=> match g.tag c with
   | some (.tok t)=> (YT s t).map .tok
   | some (.obj nm)=> bif keep nm then some (.obj nm) else none
   | some (.outer t)=> some (.outer t)
   | none=> none
  ad:=g.ad
  bs:=fun t=> bif okT t then Zi1 g s t else none }
theorem Gh.anew_ren(s:List (Tok × Tok))(keep:Name->Bool)(okT:Tok->Bool):RenA okT g s (g.anew s keep okT):=
 ⟨⟨rfl,fun c t t' h1 h2=> by simp only [Gh.anew,h1,h2,Qf],fun t t' v h1 h2 h3=> by simp only [Gh.anew,h1,cond_true,Zi1,h2];exact h3⟩,fun _=> rfl⟩
theorem ZuT{mine:Tok->Bool}{nm:Nat->Tok}{keep live live2:Name->Bool}(hmine:∀ t,mine t=true->st.dead t=false)(hok:∀ j,Z3p (nm j)=true)(hkeep:∀ n,keep n=true->live2 n=true)(ks:List (Sk U))(x:V U)(seen:List (Tok × Tok)):
  Ext seen (Zac mine nm keep ks x seen).2/\∀ s',Ext (Zac mine nm keep ks x seen).2 s'->∀ v,RelV cfg g st.dead live v x->RelV cfg (g.anew s' keep Z3p) ZW live2 v (Zac mine nm keep ks x seen).1:=by
 cases x with
 | c x=>
  obtain ⟨h1,h2⟩:=Zhz (cfg:=cfg) (g:=g) (nm:=nm 0) (k:=sk0 ks) (c:=x) (seen:=seen) hmine (hok 0)
  exact ⟨h1,fun s' hs v hr=> h2 s' hs _ (Gh.anew_ren s' keep Z3p) v hr⟩
 | agg cs=>
  obtain ⟨h3,h4,h5⟩:=Z7o (cfg:=cfg) (g:=g) (mine:=mine) (nm:=nm) hmine hok cs 0 ks seen
  refine ⟨h3,fun s' hs v hr=> ?_⟩
  obtain ⟨vs,rfl,hl,hh⟩:=hr
  refine ⟨vs,rfl,YL,fun j u c hu hc=> ?_⟩
  have hj:j < cs.length:=by have:=(Q5.1 hc).1;omega
  exact h5 s' hs _ (Gh.anew_ren s' keep Z3p) j u _ c (Q4 hj) hc (hh j u _ hu (Q4 hj))
 | ptr n off=>
  refine ⟨.refl _,fun s' hs v hr=> ?_⟩
  simp only [Zac]
  cases hk:keep n with
  | true=> exact ⟨by grind,hr.2⟩
  | false=> exact trivial
 | ap n off k len i=> exact ⟨.refl _,fun s' _ v hr=> trivial⟩
 | ep cs=>
  have hm0:∀ t,(fun _:Tok=> false) t=true->st.dead t=false:=fun t h=> by cases h
  obtain ⟨h3,h4,h5⟩:=Z7h (cfg:=cfg) (g:=g) (mine:=fun _=> false) (nm:=nm) hm0 hok cs 0 seen
  refine ⟨h3,fun s' hs v hr=> ?_⟩
  obtain ⟨b,rfl,hh⟩:=hr
  refine ⟨b,rfl,fun j c hc=> ?_⟩
  have hj:j < cs.length:=by have:=(Q5.1 hc).1;rw [h4] at this;exact this
  obtain ⟨u,h6,h7⟩:=hh j _ (Q4 hj)
  exact ⟨u,h6,h5 s' hs _ (Gh.anew_ren s' keep Z3p).toRen j u _ c (Q4 hj) hc h7⟩
 | fn f=> exact ⟨.refl _,fun s' _ v hr=> hr⟩
 | mp t n off=> exact ⟨.refl _,fun s' _ v hr=> trivial⟩
 | vw t n=> exact ⟨.refl _,fun s' _ v hr=> trivial⟩
 | clo f nms=>
  refine ⟨.refl _,fun s' _ v hr=> ?_⟩
  simp only [Zac]
  cases hk:nms.all keep with
  | true=> exact ⟨fun nm hn=> by grind,hr.2⟩
  | false=> exact trivial
 | nb p q=> exact ⟨.refl _,fun s' _ v hr=> hr⟩
 | tup vs=> exact ⟨.refl _,fun s' _ v hr=> trivial⟩
 | gd b v=> exact ⟨.refl _,fun s' _ v hr=> trivial⟩
 | junk=> exact ⟨.refl _,fun s' _ v hr=> trivial⟩
theorem ZfQ{keep live2:Name->Bool}(hkeep:∀ n,keep n=true->live2 n=true)(h:Rel cfg B st g a w):∀ (lv:List (Nat × List (Sk U))) (seen:List (Tok × Tok)),
  Ext seen (Z19 st keep lv seen).2/\∀ s',Ext (Z19 st keep lv seen).2 s'->∀ k,RelV cfg (g.anew s' keep Z3p) ZW live2 (a.tmps.getD k undef) (ZgQ (Z19 st keep lv seen).1 k)
 | [],seen=> ⟨.refl _,fun s' _ k=> trivial⟩
 | (k0,ks) ::lv,seen=> by
  have hmine:∀ t,(fun t=> !st.dead t) t=true->st.dead t=false:=fun t ht=> by simpa using ht
  obtain ⟨h1,h2⟩:=ZuT (cfg:=cfg) (g:=g) (st:=st) (nm:= .e k0) (keep:=keep) (live:=fun nm=> (st.mem nm).isSome) (live2:=live2) hmine (fun _=> rfl) hkeep ks (st.env k0) seen
  obtain ⟨h3,h4⟩:=ZfQ hkeep h lv (Zac (fun t=> !st.dead t) (.e k0) keep ks (st.env k0) seen).2
  refine ⟨h1.trans h3,fun s' hs k=> ?_⟩
  simp only [Z19,ZgQ]
  cases hk:Nat.beq k0 k with
  | true=>
   have:=Qa hk
   subst this
   exact h2 s' (h3.trans hs) _ (h.env k0)
  | false=> exact h4 s' hs k
theorem Z93{keep:Name->Bool}(h:Rel cfg B st g a w):∀ (lm:List (Name × List (Sk U))) (seen:List (Tok × Tok)),(∀ n∈lm,(st.mem n.1).isSome=true->keep n.1=true)->
  Ext seen (JU st lm seen).2/\∀ s',Ext (JU st lm seen).2 s'->∀ nm cs,Z4D (JU st lm seen).1 nm=some cs->∀ j c,cs[j]?=some c->
   ∃ v,w.cell? ((g.ad nm).add j)=some v/\(g.anew s' keep Z3p).tag ((g.ad nm).add j)=some (.obj nm)/\RelC cfg (g.anew s' keep Z3p) ZW v c
 | [],seen,_=> ⟨.refl _,fun s' _ nm cs hn=> by trivial⟩
 | (n0,ks) ::lm,seen,hk=> by
  have hmine:∀ t,(fun t=> !st.dead t) t=true->st.dead t=false:=fun t ht=> by simpa using ht
  cases hm:st.mem n0 with
  | none=>
   simp only [JU,hm]
   exact Z93 h lm seen (fun n hn=> hk n (by simp [hn]))
  | some cs0=>
   obtain ⟨h3,h4,h5⟩:=Z7o (cfg:=cfg) (g:=g) (mine:=fun t=> !st.dead t) (nm:=Zh5 n0) hmine (okT:=Z3p) (fun j=> by cases n0 <;> rfl) cs0 0 ks seen
   obtain ⟨h6,h7⟩:=Z93 h lm (Z1o (fun t=> !st.dead t) (Zh5 n0) 0 ks cs0 seen).2 (fun n hn=> hk n (by simp [hn]))
   simp only [JU,hm]
   refine ⟨h3.trans h6,fun s' hs nm cs hn j c hc=> ?_⟩
   simp only [Z4D] at hn
   split at hn
   .rename_i e
    subst e
    cases hn
    have hj:j < cs0.length:=by have:=(Q5.1 hc).1;omega
    obtain ⟨v,h8,h9,h10⟩:=h.mem n0 cs0 hm j _ (Q4 hj)
    refine ⟨v,h8,?_,h5 s' (h6.trans hs) _ (Gh.anew_ren s' keep Z3p) j v _ c (Q4 hj) hc h10⟩
    have hkn:=hk (n0,ks) (by simp) (by simp [hm])
    simp only [Gh.anew,h9,hkn,cond_true]
   grind
theorem Z97:∀ (lm:List (Name × List (Sk U))) (seen:List (Tok × Tok)) (nm:Name),(Z0s lm nm && (st.mem nm).isSome)=true->(Z4D (JU st lm seen).1 nm).isSome=true
 | [],seen,nm,h=> by trivial
 | (n0,ks) ::lm,seen,nm,h=> by
  simp only [Q2] at h
  cases hm:st.mem n0 with
  | none=>
   simp only [JU,hm]
   refine Z97 lm seen nm ?_
   simp only [Q2]
   refine ⟨?_,h.2⟩
   have h1:=h.1
   simp only [Z0s] at h1
   grind
  | some cs0=>
   simp only [JU,hm,Z4D]
   split
   .try rfl
   .rename_i e
    refine Z97 lm _ nm ?_
    simp only [Q2]
    refine ⟨?_,h.2⟩
    have h1:=h.1
    simp only [Z0s] at h1
    grind
theorem Zao:∀ {l:List (Name × List (Sk U))} {x:Name × List (Sk U)},x∈l->Z0s l x.1=true
 | (a,ks) ::r,x,h=> by
  simp only [Z0s]
  split
  .try rfl
  .rename_i e
   rcases Q9.1 h with rfl | h
   .grind
   .exact Zao h
theorem ZyN(h:Rel cfg B st g a w)(lv:List (Nat × List (Sk U)))(lm:List (Name × List (Sk U))):∃ g',Rel cfg B ((ZCV lv lm st).toF st.n) g' a w:=by
 let keep:Name->Bool:=fun nm=> Z0s lm nm && (st.mem nm).isSome
 let live2:Name->Bool:=fun nm=> (Z4D (ZCV lv lm st).mem nm).isSome
 have hk2:∀ n,keep n=true->live2 n=true:=fun n hn=> Z97 lm _ n hn
 obtain ⟨h1,h2⟩:=ZfQ (keep:=keep) hk2 h lv []
 obtain ⟨h3,h4⟩:=Z93 (keep:=keep) h lm (Z19 st keep lv []).2 (fun n hn hs=> by simp only [keep,Zao hn,hs,Bool.and_self])
 let s:=(JU st lm (Z19 st keep lv []).2).2
 have htag0:∀ c,g.tag c=none->(g.anew s keep Z3p).tag c=none:=fun c hc=> by simp only [Gh.anew,hc]
 have htago:∀ c t,g.tag c=some (.outer t)↔(g.anew s keep Z3p).tag c=some (.outer t):=by
  intro c t
  simp only [Gh.anew]
  cases hg:g.tag c with
  | none=> simp
  | some t0=>
   cases t0 with
   | obj nm=> grind
   | tok u=> simp_all
   | outer t0=> simp
 refine ⟨g.anew s keep Z3p,⟨fun c v hv=> ?_,fun c t ht=> ?_⟩,?_,?_,?_,h.sz,h.df,fun t x hx=> ⟨rfl,?_⟩,fun t ht _ _=> by simp only [Gh.anew,Z3p,ht,XW,cond_false]⟩
 .obtain ⟨h5,h6⟩:=h.inv.im c v hv
  grind
 .cases hg:g.tag c with
  | none=> grind
  | some t0=> exact h.inv.it c t0 hg
 .refine h.fr.step h.inv (Evo.refl w (fun _=> False)) (fun c hc=> hc.elim) (fun _ _ hv=> hv) (fun c t=> htago c t) ?_ (fun _=> rfl)
  intro b _ hall o sp
  cases hg:g.tag ⟨b,o,sp⟩ with
  | none=> grind
  | some t=>
   grind
 .intro k
  exact h2 s h3 k
 .intro nm cs hn j c hc
  exact h4 s (.refl _) nm cs hn j c hc
 .have hx':ZC (fun _=> none) (Z0l st.ls s (Zqp lv lm)) t=some x:=by
   have hx0:ZC (fun _=> none) (match Zqp lv lm with
    | []=> []
    | c=> Z0l st.ls s c) t=some x:=hx
   cases hc:Zqp lv lm with
   | nil=> rw [hc] at hx0;cases hx0
   | cons a b=> grind
  obtain ⟨u,h5,h6,h7,h8⟩:=Z0W _ hx'
  obtain ⟨_,hL⟩:=h.ls u x h7
  have hbs:(g.anew s keep Z3p).bs t=g.bs u:=by simp only [Gh.anew,Z3p,h8,Bool.not_false,cond_true,Zi1,h5]
  have htg:∀ c,g.tag c=some (.tok u)->(g.anew s keep Z3p).tag c=some (.tok t):=fun c hc=> by simp only [Gh.anew,hc,h6,Qf]
  rcases hL with ⟨e1,e2⟩ | ⟨b,len,cap,e1,e2,e3,e4,e5,e6⟩
  .exact .inl ⟨hbs.trans e1,e2⟩
  .refine .inr ⟨b,len,cap,hbs.trans e1,e2,e3,e4,fun i y hy j c hc=> ?_,fun j a1 a2=> htg _ (e6 j a1 a2)⟩
   obtain ⟨v,e7,e8,e9,e10⟩:=e5 i y hy j c hc
   exact ⟨v,e7,e8,e9,fun hi=> htg _ (e10 hi)⟩
theorem Zux(h:Rel cfg B st g a w)(k:Nat)(T:U.Ty):∃ g',Rel cfg B (st.prom1 k T) g' a w:=by
 unfold FSt.prom1
 split
 case h_2=> grind
 rename_i hk
 split
 case isFalse=> grind
 rename_i hc
 simp only [Q2,QG,QY] at hc
 have hfree:=h.fresh (.z (3*k) 0) rfl hc.1 hc.2
 have hkeep:Keeps g (g.setBs (.z (3*k) 0) (.slice none 0 0,cfg.sz T)) st.dead st.dead (fun nm=> (st.mem nm).isSome) (fun nm=> (st.mem nm).isSome):=(Keeps.refl g st.dead _).setBs hfree
 refine ⟨g.setBs (.z (3*k) 0) (.slice none 0 0,cfg.sz T),h.inv,h.fr.setBs,fun i=> ?_,fun nm cs hm j c hj=> ?_,h.sz,h.df,fun t x hx=> ?_,fun t ht h1 h2=> ?_⟩
 .simp only
  cases hi:Nat.beq i k with
  | true=>
   have e:=Qa hi
   subst e
   have hr:=h.env i
   rw [hk] at hr
   have h1:SimC cfg g.m (a.tmps.getD i undef) .nils:=hr.1
   have hv:a.tmps.getD i undef= .slice none 0 0:=by
    generalize a.tmps.getD i undef=v at h1
    cases h1
    try rfl
   rw [hv]
   exact ⟨.mref _ _ ⟨rfl,rfl⟩,fun _=> ⟨cfg.sz T,by simp [Gh.setBs]⟩⟩
  | false=> exact (h.env i).keep hkeep
 .obtain ⟨v,h1,h2,h3⟩:=h.mem nm cs hm j c hj
  exact ⟨v,h1,h2,h3.keep hkeep⟩
 .simp only at hx
  split at hx
  .rename_i e
   subst e
   cases hx
   exact ⟨hc.2,.inl ⟨by simp [Gh.setBs],rfl,rfl⟩⟩
  .obtain ⟨h1,h2⟩:=h.ls t x hx
   exact ⟨h1,h2.keep hkeep h1 (fun c v hv=> (h.inv.im c v hv).1) (fun _ _=> rfl)⟩
 .simp only at h1
  split at h1
  .cases h1
  .rename_i hne
   simp only [Gh.setBs]
   rw [if_neg hne]
   exact h.fresh t ht h1 h2
theorem Zuw(h:Rel cfg B st g a w)(nm:Name)(j0:Nat)(T:U.Ty):∃ g',Rel cfg B (st.promM nm j0 T) g' a w:=by
 unfold FSt.promM
 split
 case h_2=> grind
 rename_i cs hcs
 split
 case h_2=> grind
 rename_i hj0
 split
 case isFalse=> grind
 rename_i hc
 simp only [Q2,QG,QY] at hc
 have hfree:=h.fresh (.z (Zd4 nm) j0) rfl hc.1 hc.2
 have hkeep:Keeps g (g.setBs (.z (Zd4 nm) j0) (.slice none 0 0,cfg.sz T)) st.dead st.dead (fun nm=> (st.mem nm).isSome) (fun nm=> (st.mem nm).isSome):=(Keeps.refl g st.dead _).setBs hfree
 have hl:(fun n=> (if n=nm then some (cs.set j0 (.mref (.z (Zd4 nm) j0))) else st.mem n:Option (List (C U))).isSome)=fun n=> (st.mem n).isSome:=by
  funext n
  by_cases e:n=nm
  .subst e;simp [hcs]
  .simp [e]
 refine ⟨g.setBs (.z (Zd4 nm) j0) (.slice none 0 0,cfg.sz T),h.inv,h.fr.setBs,fun i=> ?_,fun n cs' hm j c hj=> ?_,h.sz,h.df,fun t x hx=> ?_,fun t ht h1 h2=> ?_⟩
 .simp only [hl]
  exact (h.env i).keep hkeep
 .simp only at hm
  split at hm
  .rename_i e
   subst e
   cases hm
   by_cases e:j=j0
   .subst e
    have hlt:=(Q5.1 hj0).1
    rw [XY] at hj
    simp only [if_true,hlt] at hj
    cases hj
    obtain ⟨v,h1,h2,h3⟩:=h.mem n cs hcs j _ hj0
    have hv:v= .slice none 0 0:=by
     have h4:=h3.1
     cases h4
     try rfl
    subst hv
    exact ⟨_,h1,h2,.mref _ _ ⟨rfl,rfl⟩,fun _=> ⟨cfg.sz T,by simp [Gh.setBs]⟩⟩
   .rw [List.getElem?_set_ne (Ne.symm e)] at hj
    obtain ⟨v,h1,h2,h3⟩:=h.mem n cs hcs j c hj
    exact ⟨v,h1,h2,h3.keep hkeep⟩
  .obtain ⟨v,h1,h2,h3⟩:=h.mem n cs' hm j c hj
   exact ⟨v,h1,h2,h3.keep hkeep⟩
 .simp only at hx
  split at hx
  .rename_i e
   subst e
   cases hx
   exact ⟨hc.2,.inl ⟨by simp [Gh.setBs],rfl,rfl⟩⟩
  .obtain ⟨h1,h2⟩:=h.ls t x hx
   exact ⟨h1,h2.keep hkeep h1 (fun c v hv=> (h.inv.im c v hv).1) (fun _ _=> rfl)⟩
 .simp only at h1
  split at h1
  .cases h1
  .rename_i hne
   simp only [Gh.setBs]
   rw [if_neg hne]
   exact h.fresh t ht h1 h2
theorem ZiL:∀ (lv:List ((Nat ⊕ (Name × Nat)) × U.Ty)) {st:FSt U} {g:Gh},Rel cfg B st g a w->∃ g',Rel cfg B (st.prom lv) g' a w
 | [],st,g,h=> ⟨g,h⟩
 | (.inl k,T) ::r,st,g,h=> by
  obtain ⟨g1,h1⟩:=Zux h k T
  exact ZiL r h1
 | (.inr x,T) ::r,st,g,h=> by
  obtain ⟨g1,h1⟩:=Zuw h x.1 x.2 T
  exact ZiL r h1
theorem ZmD:∀ (lv:List ((Nat ⊕ (Name × Nat)) × U.Ty)) (st:FSt U),(st.prom lv).n=st.n
 | [],st=> rfl
 | (.inl k,T) ::r,st=> by
  show ((st.prom1 k T).prom r).n=st.n
  rw [ZmD r]
  unfold FSt.prom1
  grind
 | (.inr x,T) ::r,st=> by
  show ((st.promM x.1 x.2 T).prom r).n=st.n
  rw [ZmD r]
  unfold FSt.promM
  grind
theorem Zri(ok:CfgOk P cfg)(h:Rel cfg B st g a w)(lv:List (Nat × List (Sk U)))(lm:List (Name × List (Sk U))):∃ g',Rel cfg B (Z65 cfg lv lm st id) g' a w:=by
 have key:∀ {st:FSt U} {g:Gh},Rel cfg B st g a w->∃ g',Rel cfg B (Z3a cfg st (fun st=> Z6q cfg st id (Z1Y lv lm st)) (pts lv)) g' a w:=by
  intro st g h
  rw [Z7j]
  obtain ⟨g1,h1⟩:=ZrD ok h (pts lv)
  generalize Z3a cfg st id (pts lv)=st1 at h1 ⊢
  cases hn:Z1Y lv lm st1 with
  | nil=> exact ⟨g1,h1⟩
  | cons t r=> exact ZnJ ok (t ::r) h1
 unfold Z65
 cases hw:wrs lm lv with
 | nil=> exact key h
 | cons x r=>
  obtain ⟨g1,h1⟩:=ZiL (x ::r) h
  exact key h1
theorem ZtL(lv:List (Nat × List (Sk U)))(lm:List (Name × List (Sk U))):(Z65 cfg lv lm st id).n=st.n:=by
 have key:∀ (st:FSt U),(Z3a cfg st (fun st=> Z6q cfg st id (Z1Y lv lm st)) (pts lv)).n=st.n:=by
  intro st
  rw [Z7j]
  have h1:=ZuO (cfg:=cfg) (st:=st) (pts lv)
  generalize Z3a cfg st id (pts lv)=st1 at h1 ⊢
  cases hn:Z1Y lv lm st1 with
  | nil=> exact h1
  | cons t r=> exact (Zwi _ st1).trans h1
 unfold Z65
 cases hw:wrs lm lv with
 | nil=> exact key st
 | cons x r=> exact (key _).trans (ZmD _ st)
theorem Zrj{α:Type}(lv:List (Nat × List (Sk U)))(lm:List (Name × List (Sk U)))(k:FSt U->α):Z65 cfg lv lm st k=k (Z65 cfg lv lm st id):=by
 unfold Z65
 generalize wrs lm lv=ws
 have key:∀ st:FSt U,Z3a cfg st (fun st=> Z6q cfg st k (Z1Y lv lm st)) (pts lv)=k (Z3a cfg st (fun st=> Z6q cfg st id (Z1Y lv lm st)) (pts lv)):=by
  intro st
  rw [Z7j,Z7j st (fun st=> Z6q cfg st id (Z1Y lv lm st))]
  exact ZkZ _ _ _
 cases ws <;> exact key _
inductive AExit where
 | normal | exit (id:Nat) | ret
def AExit.up:AExit->Exit
 | .normal=> .normal
 | .exit id=> .exit id
 | .ret=> .ret
abbrev Zd(U:Uni):=Nat->List (Nat × List (Sk U)) × List (Name × List (Sk U))
def AExit.then{U:Uni}(K:LSt U->Prop)(Q:AExit->LSt U->Prop):AExit->LSt U->Prop
 | .normal,s=> K s
 | e,s=> Q e s
def AExit.inBlock{U:Uni}(id:Nat)(Q:AExit->LSt U->Prop):AExit->LSt U->Prop
 | .exit id',s=> if id'=id then Q .normal s else Q (.exit id') s
 | e,s=> Q e s
def Zj{U:Uni}(body:LSt U->(AExit->LSt U->Prop)->Prop)(s:LSt U)(Q:AExit->LSt U->Prop):Prop:=
 ∃ (I:Nat->LSt U->Prop) (n:Nat),I n s/\∀ k s',I k s'->body s' (AExit.then (fun s2=> ∃ j,j < k/\I j s2) Q)
def ZuU:List Prop->Prop->Prop
 | [],q=> q
 | p ::r,q=> p/\ZuU r q
theorem Zc0:∀ {ps:List Prop} {q:Prop},ZuU ps q->All ps/\q
 | [],_,h=> ⟨trivial,h⟩
 | _ ::_,_,h=> ⟨⟨h.1,(Zc0 h.2).1⟩,(Zc0 h.2).2⟩
def mkL(Γ:Known U)(o:Oper):Bool:=
 match o.op with
 | .call c=> match c.callee with
  | .value (.func f)=> match Γ f with
   | some s=> s.mkl
   | none=> false
  | _=> false
 | _=> false
def isZ(o:Oper):Bool:=
 match o.op with
 | .call c=> match c.callee,c.argTypes.toList with
  | .builtin .append,[t,t']=> t !=t'
  | _,_=> false
 | _=> false
def ZEc(Γ:Known U)(s:LSt U)(ops:List Oper)(l:List (Nat × List (Sk U)) × List (Name × List (Sk U))):Bool:=
 Γ.ml || !s.ls.isEmpty || (ops.any fun o=> ZBQ ops o || mkL Γ o || isZ o) || !(wrs l.2 l.1).isEmpty || !(pts l.1).isEmpty
def Z6p{α:Type}(cfg:Cfg U)(li:Bool)(l:List (Nat × List (Sk U)) × List (Name × List (Sk U)))(st:FSt U)(k:FSt U->α):α:=
 bif li then Z65 cfg l.1 l.2 st k else k st
def ZCb(cfg:Cfg U)(li:Bool)(r:Option (List Prop × FSt U))(l:List (Nat × List (Sk U)) × List (Name × List (Sk U)))(Q:AExit->LSt U->Prop):Prop:=
 match r with
 | some (ps,st)=> Z6p cfg li l st (fun st=> ZuU ps (Q .normal (ZCV l.1 l.2 st)))
 | none=> False
theorem ZkY{α:Type}(li:Bool)(l:List (Nat × List (Sk U)) × List (Name × List (Sk U)))(k:FSt U->α):Z6p cfg li l st k=k (Z6p cfg li l st id):=by
 cases li
 .try rfl
 .exact Zrj _ _ _
theorem ZkX(ok:CfgOk P cfg)(h:Rel cfg B st g a w)(li:Bool)(l:List (Nat × List (Sk U)) × List (Name × List (Sk U))):(∃ g',Rel cfg B (Z6p cfg li l st id) g' a w)/\(Z6p cfg li l st id).n=st.n:=by
 cases li
 .exact ⟨⟨g,h⟩,rfl⟩
 .exact ⟨Zri ok h _ _,ZtL _ _⟩
def Zxw{U:Uni}(v:Option (V U))(x y:Prop):Prop:=
 match v with
 | some (.c (.bool b))=> (b=true->x)/\(b=false->y)
 | some (.nb p q)=> (p->x)/\(q->y)
 | _=> False
def awp(cfg:Cfg U)(Γ:Known U)(draws:Array Oper->FSt U->Bool)(n:Nat)(lv:Zd U):Code->LSt U->(AExit->LSt U->Prop)->Prop
 | .skip,s,Q=> Q .normal s
 | .region id ops dr,s,Q=> if (!dr || draws ops (s.toR n Γ.ml ops))=true then ZCb cfg (ZEc Γ s ops.toList (lv id)) (ZgB cfg Γ ops (!dr && ZEc Γ s ops.toList (lv id)) ops.toList (s.toR n Γ.ml ops)) (lv id) Q else False
 | .seq x y,s,Q=> awp cfg Γ draws n lv x s (AExit.then (fun s'=> awp cfg Γ draws n lv y s' Q) Q)
 | .cond c x y,s,Q=> Zxw ((s.toF n).opnd c) (awp cfg Γ draws n lv x s Q) (awp cfg Γ draws n lv y s Q)
 | .block id c,s,Q=> awp cfg Γ draws n lv c s (AExit.inBlock id Q)
 | .loop c,s,Q=> Zj (awp cfg Γ draws n lv c) s Q
 | .exit id,s,Q=> Q (.exit id) s
 | .ret,s,Q=> Q .ret s
 | _,_,_=> False
def Zbr(P:Program)(cfg:Cfg U)(Γ:Known U)(draws:Array Oper->FSt U->Bool):Prop:=
 ∀ (B:Base) (st st':FSt U) (g:Gh) (a:Act) (w:World) (id:Nat) (ops:Array Oper) (ps:List Prop) (Q:Exit->Act->World->Prop),draws ops st=true->Rel cfg B st g a w->
  ZgB cfg Γ ops false ops.toList st=some (ps,st')->All ps->(∀ g' a' w',Rel cfg B st' g' a' w'->Q .normal a' w')->(Code.region id ops true).wp P Q a w
theorem Zsr{Γ:Known U}{draws:Array Oper->FSt U->Bool}(ok:CfgOk P cfg)(hΓ:∀ f s,Γ f=some s->Contract P cfg f s)(hdr:Zbr P cfg Γ draws){n:Nat}{lv:Zd U}:∀ (c:Code) (s:LSt U) (Q:AExit->LSt U->Prop) (g:Gh) (a:Act) (w:World),
  awp cfg Γ draws n lv c s Q->Rel cfg B (s.toF n) g a w->c.wp P (fun e a' w'=> ∃ e' s' g',e=AExit.up e'/\Q e' s'/\Rel cfg B (s'.toF n) g' a' w') a w:=by
 intro c
 induction c with
 | skip=> exact fun s Q g a w h hr=> wp_skip ⟨.normal,s,g,rfl,h,hr⟩
 | region id ops dr=>
  intro s Q g a w h hr
  simp only [awp] at h
  split at h
  case isFalse=> exact h.elim
  rename_i hd
  unfold ZCb at h
  split at h
  case h_2=> exact h.elim
  rename_i ps st' hrun
  rw [ZkY] at h
  replace h:=Zc0 h
  generalize ZEc Γ s ops.toList (lv id)=li at*
  have fin:∀ g' a' w',Rel cfg B st' g' a' w'->∃ e' s' g',Exit.normal=AExit.up e'/\Q e' s'/\Rel cfg B (s'.toF n) g' a' w':=by
   intro g' a' w' hr'
   obtain ⟨⟨g1,h1⟩,hn1⟩:=ZkX ok hr' li (lv id)
   obtain ⟨g2,h2⟩:=ZyN h1 (lv id).1 (lv id).2
   have hn:st'.n=n:=by
    have:∀ (l:List Oper) (st st':FSt U) (ps:List Prop),ZgB cfg Γ ops (!dr && li) l st=some (ps,st')->st'.n=st.n:=by
     intro l
     induction l with
     | nil=> intro st st' ps he;simp only [ZgB,Option.some.injEq,Prod.mk.injEq] at he;rw [he.2]
     | cons o l ih=>
      intro st st' ps he
      rw [Zct] at he
      split at he
      .cases he
      .split at he
       .cases he
       .rename_i h2
        simp only [Option.some.injEq,Prod.mk.injEq] at he
        obtain ⟨_,rfl⟩:=he
        rw [ih _ _ _ h2]
        have hp:((st.pre cfg Γ (!dr && li) o).app o.dst ‹Eff U›).n=(st.pre cfg Γ (!dr && li) o).n:=by cases o.dst <;> rfl
        rw [hp,ZHH]
    exact this _ _ _ _ hrun
   rw [hn1,hn] at h2
   exact ⟨.normal,_,g2,rfl,h.2,h2⟩
  cases dr with
  | false=> exact wp_region_list (ZgA ok hΓ ops.toList _ st' g a w ps (Zom hr) hrun h.1 fin)
  | true=>
   simp only [XW,XX] at hd
   exact hdr B _ st' g a w id ops ps _ hd (Zom hr) hrun h.1 fin
 | seq x y ihx ihy=>
  intro s Q g a w h hr
  simp only [awp] at h
  refine wp_seq (wp_mono (ihx s _ g a w h hr) ?_)
  rintro e a' w' ⟨e',s',g',rfl,hq,hr'⟩
  cases e' with
  | normal=> exact ihy s' Q g' a' w' hq hr'
  | exit id=> exact ⟨.exit id,s',g',rfl,hq,hr'⟩
  | ret=> exact ⟨.ret,s',g',rfl,hq,hr'⟩
 | cond c x y ihx ihy=>
  intro s Q g a w h hr
  simp only [awp,Zxw] at h
  split at h
  case h_3=> exact h.elim
  case h_2 p q hb=>
   have hv:∃ b,a.eval c= .bool b/\(b=true->p)/\(b=false->q):=by
    have hrel:RelV cfg g ZW (fun nm=> ((s.toF n).mem nm).isSome) (a.eval c) (.nb p q):=by
     cases c with
     | tmp t=> simp only [FSt.opnd,Option.some.injEq] at hb;rw [<-hb];exact hr.env t
     | const c=> exact Z3I hb
     | func f=> simp [FSt.opnd] at hb
     | global g=> trivial
    exact hrel
   obtain ⟨b,hv,hp,hq⟩:=hv
   exact wp_cond_split hv (fun ht=> ihx s Q g a w (h.1 (hp ht)) hr) (fun ht=> ihy s Q g a w (h.2 (hq ht)) hr)
  rename_i b hb
  have hv:a.eval c= .bool b:=by
   have hrel:RelV cfg g ZW (fun nm=> ((s.toF n).mem nm).isSome) (a.eval c) (.c (.bool b)):=by
    cases c with
    | tmp t=> simp only [FSt.opnd,Option.some.injEq] at hb;rw [<-hb];exact hr.env t
    | const c=> exact Z3I hb
    | func f=> simp [FSt.opnd] at hb
    | global g=> trivial
   exact SimC.bool_eq hrel.1
  exact wp_cond_split hv (fun ht=> ihx s Q g a w (h.1 ht) hr) (fun ht=> ihy s Q g a w (h.2 ht) hr)
 | block id c ih=>
  intro s Q g a w h hr
  simp only [awp] at h
  refine wp_block (wp_mono (ih s _ g a w h hr) ?_)
  rintro e a' w' ⟨e',s',g',rfl,hq,hr'⟩
  cases e' with
  | normal=> exact ⟨.normal,s',g',rfl,hq,hr'⟩
  | exit id'=>
   simp only [AExit.inBlock,AExit.up,Exit.inBlock] at*
   grind
  | ret=> exact ⟨.ret,s',g',rfl,hq,hr'⟩
 | loop c ih=>
  intro s Q g a w h hr
  simp only [awp,Zj] at h
  obtain ⟨I,k,h0,h1⟩:=h
  refine wp_loop_ghost (fun k a w=> ∃ s g,I k s/\Rel cfg B (s.toF n) g a w) k ⟨s,g,h0,hr⟩ ?_
  rintro k a w ⟨s,g,hI,hr⟩
  refine wp_mono (ih s _ g a w (h1 k s hI) hr) ?_
  rintro e a' w' ⟨e',s',g',rfl,hq,hr'⟩
  cases e' with
  | normal=>
   obtain ⟨j,hj,hI'⟩:=hq
   exact ⟨j,hj,s',g',hI',hr'⟩
  | exit id=> exact ⟨.exit id,s',g',rfl,hq,hr'⟩
  | ret=> exact ⟨.ret,s',g',rfl,hq,hr'⟩
 | exit id=> exact fun s Q g a w h hr=> wp_exit ⟨.exit id,s,g,rfl,h,hr⟩
 | ret=> exact fun s Q g a w h hr=> wp_ret ⟨.ret,s,g,rfl,h,hr⟩
 | _=> intro s Q g a w h;simp [awp] at h
def ZHz(cfg:Cfg U)(Γ:Known U)(draws:Array Oper->FSt U->Bool)(n:Nat)(lv:Zd U)(y:Code)(Q:AExit->LSt U->Prop):AExit->LSt U->Prop:=
 AExit.then (fun s'=> awp cfg Γ draws n lv y s' Q) Q
theorem Z4 {U:Uni} {ι:Type} (f:ι->LSt U) (I:ι->Prop) (μ:ι->Nat) {body:LSt U->(AExit->LSt U->Prop)->Prop} {s:LSt U} {Q:AExit->LSt U->Prop} (i0:ι) (hs:s=f i0) (h0:I i0)
  (hb:∀ i,I i->body (f i) (AExit.then (fun s2=> ∃ j,s2=f j/\I j/\μ j < μ i) Q)):Zj body s Q:=by
 refine ⟨fun k s=> ∃ i,s=f i/\I i/\μ i=k,μ i0,⟨i0,hs,h0,rfl⟩,?_⟩
 grind
def sub:List Nat->Code->Code
 | [],c=> c
 | 0 ::r,.seq a _=> sub r a
 | _ ::r,.seq _ b=> sub r b
 | 0 ::r,.cond _ a _=> sub r a
 | _ ::r,.cond _ _ b=> sub r b
 | _ ::r,.block _ c=> sub r c
 | _ ::r,.loop c=> sub r c
 | _,_=> .skip
def cd(f:Func)(path:List Nat):Code:=sub path (f.body.getD .skip)
attribute [irreducible] awp
end Go.AM
