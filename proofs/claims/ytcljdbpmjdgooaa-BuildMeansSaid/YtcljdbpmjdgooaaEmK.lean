import Derived.Test.YtcljdbpmjdgooaaEmJ
import Derived.Test.YtcljdbpmjdgooaaEmS
import Derived.Deep.LoopGhost
set_option linter.unusedSimpArgs false
set_option linter.unusedVariables false
namespace Go.AM
variable {U:Uni} {P:Program} {cfg:Cfg U} {B:Base} {st:FSt U} {g:Gh} {a:Act} {w:World}
structure LSt (U:Uni) where
 env:List (Nat × V U)
 mem:List (Name × List (C U))
 ls:List (Tok × LC U)
def Z9u:List (Nat × V U)->Nat->V U
 | [],_=> .junk
 | (a,v) ::r,k=> bif Nat.beq a k then v else Z9u r k
def Z0j:List (Name × List (C U))->Name->Option (List (C U))
 | [],_=> none
 | (a,cs) ::r,nm=> if a=nm then some cs else Z0j r nm
def LSt.toF(s:LSt U)(n:Nat):FSt U:={ n:=n,env:=Z9u s.env,mem:=Z0j s.mem,dead:=Zv,ls:=Z7 (fun _=> none) s.ls,mu:=false,vw:=false }
def Zrl(t:Nat)(o:Oper):Bool:=
 match o.op,o.dst with
 | .call c,some d=> match c.callee with
  | .builtin .append=> Nat.beq d t
  | _=> false
 | _,_=> false
def Zni(ops:List Oper)(o:Oper):Bool:=
 match o.op with
 | .indexAddr _ (.tmp t) _=> ops.any (Zrl t)
 | _=> false
def Zrk(o:Oper):Bool:=
 match o.op with
 | .call c=> match c.callee with
  | .builtin .clear=> true
  | .builtin .copy=> true
  | _=> false
 | _=> false
def LSt.toR(s:LSt U)(n:Nat)(mk:Bool)(ops:Array Oper):FSt U:={ n:=n,env:=Z9u s.env,mem:=Z0j s.mem,dead:=Zv,ls:=Z7 (fun _=> none) s.ls,mu:=mk || ops.toList.any (Zni ops.toList),vw:=ops.toList.any Zrk }
theorem Zer{s:LSt U}{n:Nat}{mk:Bool}{ops:Array Oper}(h:Rel cfg B (s.toF n) g a w):Rel cfg B (s.toR n mk ops) g a w:=
 ⟨h.inv,h.fr,h.env,h.mem,h.sz,h.df,h.ls,h.fresh⟩
inductive Sk (U:Uni) where
 | any | own (T:U.Ty) | unk (T:U.Ty) | wr (T:U.Ty) | pt (T:U.Ty)
 | ar
def sk0:List (Sk U)->Sk U
 | []=> .any
 | k ::_=> k
def Z2s(mine:Tok->Bool)(nm:Tok)(k:Sk U)(c:C U)(seen:List (Tok × Tok)):C U × List (Tok × Tok):=
 match k,c with
 | .own T,.nils=> (.slice T [] (.own nm),seen)
 | .own _,.slice T l .full=> (.slice T l (.own nm),seen)
 | .unk T,.nils=> (.slice T [] .unk,seen)
 | .unk _,.slice T l _=> (.slice T l .unk,seen)
 | .pt T,.nilp=> (.po T none,seen)
 | _,.xp k=> (.xp k,seen)
 | _,c=> YX mine nm c seen
def JS(mine:Tok->Bool)(nm:Nat->Tok):Nat->List (Sk U)->List (C U)->List (Tok × Tok)->List (C U) × List (Tok × Tok)
 | _,_,[],seen=> ([],seen)
 | j,ks,c ::r,seen=> ((Z2s mine (nm j) (sk0 ks) c seen).1 ::(JS mine nm (j+1) ks.tail r (Z2s mine (nm j) (sk0 ks) c seen).2).1,(JS mine nm (j+1) ks.tail r (Z2s mine (nm j) (sk0 ks) c seen).2).2)
def Z35(mine:Tok->Bool)(nm:Nat->Tok)(keep:Name->Bool)(ks:List (Sk U))(v:V U)(seen:List (Tok × Tok)):V U × List (Tok × Tok):=
 match v with
 | .c x=> (.c (Z2s mine (nm 0) (sk0 ks) x seen).1,(Z2s mine (nm 0) (sk0 ks) x seen).2)
 | .agg cs=> (.agg (JS mine nm 0 ks cs seen).1,(JS mine nm 0 ks cs seen).2)
 | .ptr nm off=> (bif keep nm then .ptr nm off else .junk,seen)
 | .ep cs=> (.ep (Yq (fun _=> false) nm 0 cs seen).1,(Yq (fun _=> false) nm 0 cs seen).2)
 | .fn f=> (.fn f,seen)
 | .clo f nms=> (bif nms.all keep then .clo f nms else .junk,seen)
 | .nb p q=> (.nb p q,seen)
 | _=> (.junk,seen)
def Jb(st:FSt U)(keep:Name->Bool):List (Nat × List (Sk U))->List (Tok × Tok)->List (Nat × V U) × List (Tok × Tok)
 | [],seen=> ([],seen)
 | (k,ks) ::r,seen=> ((k,(Z35 (fun t=> !st.dead t) (.e k) keep ks (st.env k) seen).1) ::(Jb st keep r (Z35 (fun t=> !st.dead t) (.e k) keep ks (st.env k) seen).2).1,
   (Jb st keep r (Z35 (fun t=> !st.dead t) (.e k) keep ks (st.env k) seen).2).2)
def Z9J:Name->Nat->Tok
 | .loc s,j=> .l s j
 | .x k,j=> .x k j
def Yv(st:FSt U):List (Name × List (Sk U))->List (Tok × Tok)->List (Name × List (C U)) × List (Tok × Tok)
 | [],seen=> ([],seen)
 | (nm,ks) ::r,seen=> match st.mem nm with
  | some cs=> ((nm,(JS (fun t=> !st.dead t) (Z9J nm) 0 ks cs seen).1) ::(Yv st r (JS (fun t=> !st.dead t) (Z9J nm) 0 ks cs seen).2).1,(Yv st r (JS (fun t=> !st.dead t) (Z9J nm) 0 ks cs seen).2).2)
  | none=> Yv st r seen
def J6(l:List (Name × List (Sk U)))(nm:Name):Bool:=
 match l with
 | []=> false
 | (a,_) ::r=> if a=nm then true else J6 r nm
def ZfB(nm:Nat->Tok):Nat->List (Sk U)->List Tok
 | _,[]=> []
 | j,.wr _ ::r=> nm j ::ZfB nm (j+1) r
 | j,_ ::r=> ZfB nm (j+1) r
def Z97(lv:List (Nat × List (Sk U)))(lm:List (Name × List (Sk U))):List Tok:=
 (lv.flatMap fun x=> ZfB (.e x.1) 0 x.2)++lm.flatMap fun x=> ZfB (Z9J x.1) 0 x.2
def Z4F(seen:List (Tok × Tok))(l:List Tok):List Tok:=bif (Zu seen .A).isSome then .A ::l else l
def ZnM(lv:List (Nat × List (Sk U)))(lm:List (Name × List (Sk U)))(st:FSt U):LSt U:=
 {env:=(Jb st (fun nm=> J6 lm nm && (st.mem nm).isSome) lv []).1
  mem:=(Yv st lm (Jb st (fun nm=> J6 lm nm && (st.mem nm).isSome) lv []).2).1
  ls:=match Z4F (Yv st lm (Jb st (fun nm=> J6 lm nm && (st.mem nm).isSome) lv []).2).2 (Z97 lv lm) with
   | []=> []
   | c=> YN st.ls (Yv st lm (Jb st (fun nm=> J6 lm nm && (st.mem nm).isSome) lv []).2).2 c }
def Zio(k:Sk U)(c:C U):List Tok:=
 match k,c with
 | .wr _,_=> []
 | .ar,_=> []
 | _,.mref t=> [t]
 | _,_=> []
def Zip:List (Sk U)->List (C U)->List Tok
 | _,[]=> []
 | ks,c ::r=> Zio (sk0 ks) c++Zip ks.tail r
def Zrb(ks:List (Sk U)):V U->List Tok
 | .c x=> Zio (sk0 ks) x
 | .agg cs=> Zip ks cs
 | _=> []
def Z0i(lv:List (Nat × List (Sk U)))(lm:List (Name × List (Sk U)))(st:FSt U):List Tok:=
 (lv.flatMap fun x=> Zrb x.2 (st.env x.1))++lm.flatMap fun x=> match st.mem x.1 with
  | some cs=> Zip x.2 cs
  | none=> []
def FSt.prom1(cfg:Cfg U)(st:FSt U)(k:Nat)(T:U.Ty):FSt U:=
 match st.env k with
 | .c .nils=> if (st.ls (.z (3*k) 0)).isNone && !st.dead (.z (3*k) 0) && (cfg.aT T).isNone then
   {st with env:=fun i=> bif Nat.beq i k then .c (.mref (.z (3*k) 0)) else st.env i,ls:=fun t=> if t= .z (3*k) 0 then some ⟨T,[],0⟩ else st.ls t }
  else st
 | _=> st
def Z6O:Name->Nat
 | .loc s=> 3*s+1
 | .x k=> 3*k+2
def FSt.promM(cfg:Cfg U)(st:FSt U)(nm:Name)(j:Nat)(T:U.Ty):FSt U:=
 match st.mem nm with
 | some cs=> match cs[j]? with
  | some .nils=> if (st.ls (.z (Z6O nm) j)).isNone && !st.dead (.z (Z6O nm) j) && (cfg.aT T).isNone then
    {st with mem:=fun n=> if n=nm then some (cs.set j (.mref (.z (Z6O nm) j))) else st.mem n,ls:=fun t=> if t= .z (Z6O nm) j then some ⟨T,[],0⟩ else st.ls t }
   else st
  | _=> st
 | none=> st
def FSt.prom(cfg:Cfg U)(st:FSt U):List ((Nat ⊕ (Name × Nat)) × U.Ty)->FSt U
 | []=> st
 | (.inl k,T) ::r=> (st.prom1 cfg k T).prom cfg r
 | (.inr x,T) ::r=> (st.promM cfg x.1 x.2 T).prom cfg r
def Zny(nm:Name):Nat->List (Sk U)->List ((Nat ⊕ (Name × Nat)) × U.Ty)
 | _,[]=> []
 | j,.wr T ::r=> (.inr (nm,j),T) ::Zny nm (j+1) r
 | j,_ ::r=> Zny nm (j+1) r
def wrs(lm:List (Name × List (Sk U))):List (Nat × List (Sk U))->List ((Nat ⊕ (Name × Nat)) × U.Ty)
 | []=> lm.flatMap fun x=> Zny x.1 0 x.2
 | (k,[.wr T]) ::r=> (.inl k,T) ::wrs lm r
 | _ ::r=> wrs lm r
def pts:List (Nat × List (Sk U))->List (Nat × U.Ty)
 | []=> []
 | (k,[.pt T]) ::r=> (k,T) ::pts r
 | _ ::r=> pts r
def ZnL{α:Type}(cfg:Cfg U)(st:FSt U)(k:FSt U->α):List ((Nat ⊕ (Name × Nat)) × U.Ty)->α
 | []=> k st
 | x ::r=> k (st.prom cfg (x ::r))
def Z2S{α:Type}(cfg:Cfg U)(lv:List (Nat × List (Sk U)))(lm:List (Name × List (Sk U)))(st:FSt U)(k:FSt U->α):α:=
 ZnL cfg st (fun st=> Z0R cfg st (fun st=> Z34 cfg st k (Z0i lv lm st)) (pts lv)) (wrs lm lv)
theorem Z37:∀ {l:List Name} {nm:Name},nm∈l->Y7 l nm=true
 | a ::r,nm,h=> by
  simp only [Y7]
  split
  .try rfl
  .rename_i e
   rcases QH.1 h with rfl | h
   .grind
   .exact Z37 h
structure RenA (ok:Tok->Bool) (g:Gh) (s:List (Tok × Tok)) (g2:Gh):Prop extends Ren ok g s g2 where
 adx:∀ k,g2.ad (.x k)=g.ad (.x k)
theorem Zaf{okT mine:Tok->Bool}{nm:Tok}{k:Sk U}{c:C U}{seen:List (Tok × Tok)}(hmine:∀ t,mine t=true->st.dead t=false)(hok:okT nm=true)(hoA:okT .A=true):
  Ext seen (Z2s mine nm k c seen).2/\∀ s',Ext (Z2s mine nm k c seen).2 s'->∀ g2,RenA okT g s' g2->∀ v,RelC cfg g st.dead v c->RelC cfg g2 Zv v (Z2s mine nm k c seen).1:=by
 unfold Z2s
 split
 .rename_i T
  refine ⟨.refl _,fun s' _ g2 hg v hr=> ?_⟩
  have h1:=hr.1
  cases h1
  exact ⟨.snil T _,fun _ _ a len cap hv=> by simp at hv⟩
 .rename_i T0 T l
  refine ⟨.refl _,fun s' _ g2 hg v hr=> ⟨by rw [hg.m];exact hr.1.tl _,fun _ _ b len cap hv j h1 h2=> ?_⟩⟩
  have:=hr.2 _ _ _ hv
  grind
 .rename_i T
  refine ⟨.refl _,fun s' _ g2 hg v hr=> ?_⟩
  have h1:=hr.1
  cases h1
  exact ⟨.snil T _,trivial⟩
 .exact ⟨.refl _,fun s' _ g2 hg v hr=> ⟨by rw [hg.m];exact hr.1.tl _,trivial⟩⟩
 .rename_i T
  refine ⟨.refl _,fun s' _ g2 hg v hr=> ?_⟩
  have h1:=hr.1
  cases h1
  exact ⟨.pnil T,trivial⟩
 .refine ⟨.refl _,fun s' _ g2 hg v hr=> ⟨.xp _ _ hr.1.one,?_⟩⟩
  have h2:v= .pointer (some (g.ad (.x _))):=hr.2
  show v= .pointer (some (g2.ad (.x _)))
  rw [hg.adx];exact h2
 .obtain ⟨h1,h2⟩:=Z4r (cfg:=cfg) (st:=st) (g:=g) (nm:=nm) (c:=c) (seen:=seen) hmine hok hoA
  exact ⟨h1,fun s' hs g2 hg v hr=> h2 s' hs g2 hg.toRen v hr⟩
theorem Z3G{okT mine:Tok->Bool}{nm:Nat->Tok}(hmine:∀ t,mine t=true->st.dead t=false)(hok:∀ j,okT (nm j)=true)(hoA:okT .A=true):∀ (cs:List (C U)) (j:Nat) (ks:List (Sk U)) (seen:List (Tok × Tok)),
  Ext seen (JS mine nm j ks cs seen).2/\(JS mine nm j ks cs seen).1.length=cs.length/\
   ∀ s',Ext (JS mine nm j ks cs seen).2 s'->∀ g2,RenA okT g s' g2->∀ (i:Nat) v c c',cs[i]?=some c->(JS mine nm j ks cs seen).1[i]?=some c'->RelC cfg g st.dead v c->RelC cfg g2 Zv v c'
 | [],j,ks,seen=> ⟨.refl _,rfl,fun s' _ g2 _ i v c c' hc=> by simp at hc⟩
 | c ::cs,j,ks,seen=> by
  obtain ⟨h1,h2⟩:=Zaf (cfg:=cfg) (g:=g) (okT:=okT) (nm:=nm j) (k:=sk0 ks) (c:=c) (seen:=seen) hmine (hok j) hoA
  obtain ⟨h3,h4,h5⟩:=Z3G (okT:=okT) (mine:=mine) (nm:=nm) hmine hok hoA cs (j+1) ks.tail (Z2s mine (nm j) (sk0 ks) c seen).2
  refine ⟨h1.trans h3,by simp [JS,h4],fun s' hs g2 hg i v c0 c' hc hc' hr=> ?_⟩
  cases i with
  | zero=>
   simp [JS] at hc hc'
   subst hc hc'
   exact h2 s' (h3.trans hs) g2 hg v hr
  | succ i=>
   simp [JS] at hc hc'
   exact h5 s' hs g2 hg i v c0 c' hc hc' hr
def SeenA(dead:Tok->Bool)(s:List (Tok × Tok)):Prop:=
 (∀ t,Zu s .A=some t->t= .A/\dead .A=false/\Zq s .A=some .A)/\(∀ t,Zq s .A=some t->Zu s .A=some .A)/\∀ v i,Zu s (.S v i)=none
theorem SeenA.nil{dead:Tok->Bool}:SeenA dead []:=⟨fun _ h=> (by cases h),fun _ h=> (by cases h),fun _ _=> rfl⟩
theorem SeenA.cons{dead:Tok->Bool}{s:List (Tok × Tok)}{t nm:Tok}(h:SeenA dead s)(ht:t.isA=false)(hn:nm.isA=false):SeenA dead ((t,nm) ::s):=by
 have h1:Zu ((t,nm) ::s) .A=Zu s .A:=by simp only [Zu];rw [if_neg (fun e=> by rw [e] at hn;cases hn)]
 have h2:Zq ((t,nm) ::s) .A=Zq s .A:=by simp only [Zq];rw [if_neg (fun e=> by rw [e] at ht;cases ht)]
 have h3:∀ v i,Zu ((t,nm) ::s) (.S v i)=Zu s (.S v i):=fun v i=> by simp only [Zu];rw [if_neg (fun e=> by rw [e] at hn;cases hn)]
 unfold SeenA
 simp only [h1,h2,h3]
 exact h
theorem Z6K{mine:Tok->Bool}{nm:Tok}{c:C U}{seen:List (Tok × Tok)}{dead:Tok->Bool}(hmine:∀ t,mine t=true->dead t=false)(hn:nm.isA=false)(h:SeenA dead seen):SeenA dead (YX mine nm c seen).2:=by
 unfold YX
 split
 .split
  .rename_i hc
   simp only [Q3,Qo] at hc
   exact h.cons hc.1.1.2 hn
  .exact h
 .rw [cond_eq_ite]
  split
  .rename_i hm
   split
   .split
    .exact ⟨fun t ht=> (by simp [Zu] at ht;exact ⟨ht.symm,hmine _ hm,by simp [Zq]⟩),fun t ht=> (by simp [Zu]),fun v i=> by simp [Zu,h.2.2]⟩
    .exact h
   .split <;> exact h
  .exact h
 .split
  .rename_i hc
   simp only [Q3,Qo] at hc
   exact h.cons hc.1.1.2 hn
  .exact h
 .exact h
 .exact h
theorem Z4q{mine:Tok->Bool}{nm:Nat->Tok}{dead:Tok->Bool}(hmine:∀ t,mine t=true->dead t=false)(hn:∀ j,(nm j).isA=false):∀ (cs:List (C U)) (j:Nat) (seen:List (Tok × Tok)),SeenA dead seen->SeenA dead (Yq mine nm j cs seen).2
 | [],_,_,h=> h
 | _ ::cs,j,_,h=> Z4q hmine hn cs (j+1) _ (Z6K hmine (hn j) h)
theorem Z8J{mine:Tok->Bool}{nm:Tok}{k:Sk U}{c:C U}{seen:List (Tok × Tok)}{dead:Tok->Bool}(hmine:∀ t,mine t=true->dead t=false)(hn:nm.isA=false)(h:SeenA dead seen):SeenA dead (Z2s mine nm k c seen).2:=by
 unfold Z2s
 split <;> first | exact h | exact Z6K hmine hn h
theorem Z25{mine:Tok->Bool}{nm:Nat->Tok}{dead:Tok->Bool}(hmine:∀ t,mine t=true->dead t=false)(hn:∀ j,(nm j).isA=false):∀ (cs:List (C U)) (j:Nat) (ks:List (Sk U)) (seen:List (Tok × Tok)),SeenA dead seen->SeenA dead (JS mine nm j ks cs seen).2
 | [],_,_,_,h=> h
 | _ ::cs,j,ks,_,h=> Z25 hmine hn cs (j+1) ks.tail _ (Z8J hmine (hn j) h)
theorem ZdB{mine:Tok->Bool}{nm:Nat->Tok}{keep:Name->Bool}{ks:List (Sk U)}{v:V U}{seen:List (Tok × Tok)}{dead:Tok->Bool}(hmine:∀ t,mine t=true->dead t=false)(hn:∀ j,(nm j).isA=false)(h:SeenA dead seen):SeenA dead (Z35 mine nm keep ks v seen).2:=by
 unfold Z35
 split
 .exact Z8J hmine (hn 0) h
 .exact Z25 hmine hn _ _ _ _ h
 .exact h
 .exact Z4q (mine:=fun _=> false) (fun t ht=> by cases ht) hn _ _ _ h
 all_goals exact h
theorem Z5c{keep:Name->Bool}:∀ (lv:List (Nat × List (Sk U))) (seen:List (Tok × Tok)),SeenA st.dead seen->SeenA st.dead (Jb st keep lv seen).2
 | [],_,h=> h
 | (k,ks) ::lv,seen,h=> Z5c lv _ (ZdB (fun t ht=> by simpa using ht) (fun _=> rfl) h)
theorem Z24:∀ (lm:List (Name × List (Sk U))) (seen:List (Tok × Tok)),SeenA st.dead seen->SeenA st.dead (Yv st lm seen).2
 | [],_,h=> h
 | (n0,ks) ::lm,seen,h=> by
  cases hm:st.mem n0 with
  | none=> simp only [Yv,hm];exact Z24 lm seen h
  | some cs=>
   simp only [Yv,hm]
   exact Z24 lm _ (Z25 (fun t ht=> by simpa using ht) (fun j=> by cases n0 <;> rfl) _ _ _ _ h)
def Gh.anew(g:Gh)(s:List (Tok × Tok))(keep:Name->Bool)(okT:Tok->Bool)(n:Option Nat)(kb:Bool):Gh:=
 {m:=g.m
  tag:=fun c=> match g.tag c with
   | some (.tok t)=> (Yj s t).map .tok
   | some (.obj nm)=> bif keep nm then some (.obj nm) else none
   | some (.outer t)=> some (.outer t)
   | none=> none
  ad:=g.ad
  bs:=fun t=> bif t.isA then (match n with
   | some n=> Jv g s n t
   | none=> bif kb then g.bs t else none) else bif okT t then Jv g s 0 t else none }
theorem Gh.anew_ren(s:List (Tok × Tok))(keep:Name->Bool)(okT:Tok->Bool){n:Option Nat}{kb:Bool}(hs:∀ t,okT t=true->t≠.A->(∃ v i,t= .S v i)->False)(hA:n=none->∀ t v,Zu s .A=some t->g.bs t=some v->(bif kb then g.bs .A else none)=some v):RenA okT g s (g.anew s keep okT n kb):=by
 refine ⟨⟨rfl,fun c t t' h1 h2=> by simp only [Gh.anew,h1,h2,Q5],fun t t' v h1 h2 h3=> ?_⟩,fun _=> rfl⟩
 cases t with
 | A=>
  simp only [Gh.anew,Tok.isA,cond_true]
  cases n with
  | none=> exact hA rfl t' v h2 h3
  | some n=> simp only [Jv,h2];exact h3
 | S v i=> exact (hs _ h1 (by simp) ⟨v,i,rfl⟩).elim
 | _=> simp only [Gh.anew,Tok.isA,cond_false,h1,cond_true,Jv,h2];exact h3
theorem Zim{mine:Tok->Bool}{nm:Nat->Tok}{keep live live2:Name->Bool}(hmine:∀ t,mine t=true->st.dead t=false)(hok:∀ j,JY (nm j)=true){n:Option Nat}{kb:Bool}(hkeep:∀ n,keep n=true->live2 n=true)(ks:List (Sk U))(x:V U)(seen:List (Tok × Tok)):
  Ext seen (Z35 mine nm keep ks x seen).2/\∀ s',Ext (Z35 mine nm keep ks x seen).2 s'->RenA JY g s' (g.anew s' keep JY n kb)->∀ v,RelV cfg g st.dead live v x->RelV cfg (g.anew s' keep JY n kb) Zv live2 v (Z35 mine nm keep ks x seen).1:=by
 cases x with
 | c x=>
  obtain ⟨h1,h2⟩:=Zaf (cfg:=cfg) (g:=g) (nm:=nm 0) (k:=sk0 ks) (c:=x) (seen:=seen) hmine (hok 0) rfl
  exact ⟨h1,fun s' hs hsn v hr=> h2 s' hs _ hsn v hr⟩
 | agg cs=>
  obtain ⟨h3,h4,h5⟩:=Z3G (cfg:=cfg) (g:=g) (mine:=mine) (nm:=nm) hmine hok rfl cs 0 ks seen
  refine ⟨h3,fun s' hs hsn v hr=> ?_⟩
  obtain ⟨vs,rfl,hl,hh⟩:=hr
  refine ⟨vs,rfl,by omega,fun j u c hu hc=> ?_⟩
  have hj:j < cs.length:=by have:=(Q1.1 hc).1;omega
  exact h5 s' hs _ hsn j u _ c (Q0 hj) hc (hh j u _ hu (Q0 hj))
 | ptr n off=>
  refine ⟨.refl _,fun s' hs hsn v hr=> ?_⟩
  simp only [Z35]
  cases hk:keep n with
  | true=> exact ⟨by grind,hr.2⟩
  | false=> exact trivial
 | ap n off k len i=> exact ⟨.refl _,fun s' _ _ v hr=> trivial⟩
 | ep cs=>
  have hm0:∀ t,(fun _:Tok=> false) t=true->st.dead t=false:=fun t h=> by cases h
  obtain ⟨h3,h4,h5⟩:=Z3D (cfg:=cfg) (g:=g) (mine:=fun _=> false) (nm:=nm) hm0 hok rfl cs 0 seen
  refine ⟨h3,fun s' hs hsn v hr=> ?_⟩
  obtain ⟨b,rfl,hh⟩:=hr
  refine ⟨b,rfl,fun j c hc=> ?_⟩
  have hj:j < cs.length:=by have:=(Q1.1 hc).1;rw [h4] at this;exact this
  obtain ⟨u,h6,h7⟩:=hh j _ (Q0 hj)
  exact ⟨u,h6,h5 s' hs _ hsn.toRen j u _ c (Q0 hj) hc h7⟩
 | fn f=> exact ⟨.refl _,fun s' _ _ v hr=> hr⟩
 | mp t n off=> exact ⟨.refl _,fun s' _ _ v hr=> trivial⟩
 | vw t n=> exact ⟨.refl _,fun s' _ _ v hr=> trivial⟩
 | clo f nms=>
  refine ⟨.refl _,fun s' _ _ v hr=> ?_⟩
  simp only [Z35]
  cases hk:nms.all keep with
  | true=> exact ⟨fun nm hn=> by grind,hr.2⟩
  | false=> exact trivial
 | nb p q=> exact ⟨.refl _,fun s' _ _ v hr=> hr⟩
 | ar v k=> exact ⟨.refl _,fun s' _ _ v hr=> trivial⟩
 | tup vs=> exact ⟨.refl _,fun s' _ _ v hr=> trivial⟩
 | gd b v=> exact ⟨.refl _,fun s' _ _ v hr=> trivial⟩
 | junk=> exact ⟨.refl _,fun s' _ _ v hr=> trivial⟩
theorem Z8I{keep live2:Name->Bool}{n:Option Nat}{kb:Bool}(hkeep:∀ n,keep n=true->live2 n=true)(h:Rel cfg B st g a w):∀ (lv:List (Nat × List (Sk U))) (seen:List (Tok × Tok)),
  Ext seen (Jb st keep lv seen).2/\∀ s',Ext (Jb st keep lv seen).2 s'->RenA JY g s' (g.anew s' keep JY n kb)->∀ k,RelV cfg (g.anew s' keep JY n kb) Zv live2 (a.tmps.getD k undef) (Z9u (Jb st keep lv seen).1 k)
 | [],seen=> ⟨.refl _,fun s' _ _ k=> trivial⟩
 | (k0,ks) ::lv,seen=> by
  have hmine:∀ t,(fun t=> !st.dead t) t=true->st.dead t=false:=fun t ht=> by simpa using ht
  obtain ⟨h1,h2⟩:=Zim (cfg:=cfg) (g:=g) (st:=st) (nm:= .e k0) (keep:=keep) (live:=fun nm=> (st.mem nm).isSome) (live2:=live2) (n:=n) (kb:=kb) hmine (fun _=> rfl) hkeep ks (st.env k0) seen
  obtain ⟨h3,h4⟩:=Z8I (n:=n) (kb:=kb) hkeep h lv (Z35 (fun t=> !st.dead t) (.e k0) keep ks (st.env k0) seen).2
  refine ⟨h1.trans h3,fun s' hs hsn k=> ?_⟩
  simp only [Jb,Z9u]
  cases hk:Nat.beq k0 k with
  | true=>
   have:=Q4 hk
   subst this
   exact h2 s' (h3.trans hs) hsn _ (h.env k0)
  | false=> exact h4 s' hs hsn k
theorem Z4x{keep:Name->Bool}{n:Option Nat}{kb:Bool}(h:Rel cfg B st g a w):∀ (lm:List (Name × List (Sk U))) (seen:List (Tok × Tok)),(∀ n∈lm,(st.mem n.1).isSome=true->keep n.1=true)->
  Ext seen (Yv st lm seen).2/\∀ s',Ext (Yv st lm seen).2 s'->RenA JY g s' (g.anew s' keep JY n kb)->∀ nm cs,Z0j (Yv st lm seen).1 nm=some cs->∀ j c,cs[j]?=some c->
   ∃ v,w.cell? ((g.ad nm).add j)=some v/\(g.anew s' keep JY n kb).tag ((g.ad nm).add j)=some (.obj nm)/\RelC cfg (g.anew s' keep JY n kb) Zv v c
 | [],seen,_=> ⟨.refl _,fun s' _ _ nm cs hn=> by trivial⟩
 | (n0,ks) ::lm,seen,hk=> by
  have hmine:∀ t,(fun t=> !st.dead t) t=true->st.dead t=false:=fun t ht=> by simpa using ht
  cases hm:st.mem n0 with
  | none=>
   simp only [Yv,hm]
   exact Z4x h lm seen (fun n hn=> hk n (by simp [hn]))
  | some cs0=>
   obtain ⟨h3,h4,h5⟩:=Z3G (cfg:=cfg) (g:=g) (mine:=fun t=> !st.dead t) (nm:=Z9J n0) hmine (okT:=JY) (fun j=> by cases n0 <;> rfl) rfl cs0 0 ks seen
   obtain ⟨h6,h7⟩:=Z4x (n:=n) (kb:=kb) h lm (JS (fun t=> !st.dead t) (Z9J n0) 0 ks cs0 seen).2 (fun n hn=> hk n (by simp [hn]))
   simp only [Yv,hm]
   refine ⟨h3.trans h6,fun s' hs hsn nm cs hn j c hc=> ?_⟩
   simp only [Z0j] at hn
   split at hn
   .rename_i e
    subst e
    cases hn
    have hj:j < cs0.length:=by have:=(Q1.1 hc).1;omega
    obtain ⟨v,h8,h9,h10⟩:=h.mem n0 cs0 hm j _ (Q0 hj)
    refine ⟨v,h8,?_,h5 s' (h6.trans hs) _ hsn j v _ c (Q0 hj) hc h10⟩
    have hkn:=hk (n0,ks) (by simp) (by simp [hm])
    simp only [Gh.anew,h9,hkn,cond_true]
   grind
theorem Z4A:∀ (lm:List (Name × List (Sk U))) (seen:List (Tok × Tok)) (nm:Name),(J6 lm nm && (st.mem nm).isSome)=true->(Z0j (Yv st lm seen).1 nm).isSome=true
 | [],seen,nm,h=> by trivial
 | (n0,ks) ::lm,seen,nm,h=> by
  simp only [Q3] at h
  cases hm:st.mem n0 with
  | none=>
   simp only [Yv,hm]
   refine Z4A lm seen nm ?_
   simp only [Q3]
   refine ⟨?_,h.2⟩
   have h1:=h.1
   simp only [J6] at h1
   grind
  | some cs0=>
   simp only [Yv,hm,Z0j]
   split
   .try rfl
   .rename_i e
    refine Z4A lm _ nm ?_
    simp only [Q3]
    refine ⟨?_,h.2⟩
    have h1:=h.1
    simp only [J6] at h1
    grind
theorem Z5f:∀ {l:List (Name × List (Sk U))} {x:Name × List (Sk U)},x∈l->J6 l x.1=true
 | (a,ks) ::r,x,h=> by
  simp only [J6]
  split
  .try rfl
  .rename_i e
   rcases QH.1 h with rfl | h
   .grind
   .exact Z5f h
theorem Zln(h:Rel cfg B st g a w)(lv:List (Nat × List (Sk U)))(lm:List (Name × List (Sk U))):∃ g',Rel cfg B ((ZnM lv lm st).toF st.n) g' a w:=by
 let keep:Name->Bool:=fun nm=> J6 lm nm && (st.mem nm).isSome
 let live2:Name->Bool:=fun nm=> (Z0j (ZnM lv lm st).mem nm).isSome
 have hk2:∀ n,keep n=true->live2 n=true:=fun n hn=> Z4A lm _ n hn
 let s:=(Yv st lm (Jb st keep lv []).2).2
 have hsA:SeenA st.dead s:=Z24 lm _ (Z5c lv [] .nil)
 obtain ⟨n,hn0⟩:∃ n:Option Nat,n=match Zu s .A with
  | some _=> (st.ls .A).map (·.f)
  | none=> none:=⟨_,rfl⟩
 let kb:Bool:=B.ab.isSome
 have hnn:n=none->∀ t,Zu s .A=some t->st.ls .A=none:=by
  intro hn t ht
  rw [hn0] at hn
  simp only [ht] at hn
  simpa using hn
 have hR:RenA JY g s (g.anew s keep JY n kb):=by
  refine Gh.anew_ren s keep JY (fun t ht _ ⟨v,i,e⟩=> by subst e;cases ht) fun hn t v ht hv=> ?_
  obtain ⟨rfl,hd,_⟩:=hsA.1 t ht
  have hl:=hnn hn _ ht
  cases hB:B.ab with
  | none=>
   have:=h.fresh .A (by rw [hB];rfl) hl hd
   rw [hv] at this;cases this
  | some b=> simp only [kb,hB,Xg,cond_true];exact hv
 obtain ⟨h1,h2⟩:=Z8I (keep:=keep) (n:=n) (kb:=kb) hk2 h lv []
 obtain ⟨h3,h4⟩:=Z4x (keep:=keep) (n:=n) (kb:=kb) h lm (Jb st keep lv []).2 (fun n hn hs=> by simp only [keep,Z5f hn,hs,Bool.and_self])
 have htag0:∀ c,g.tag c=none->(g.anew s keep JY n kb).tag c=none:=fun c hc=> by simp only [Gh.anew,hc]
 have htago:∀ c t,g.tag c=some (.outer t)↔(g.anew s keep JY n kb).tag c=some (.outer t):=by
  intro c t
  simp only [Gh.anew]
  cases hg:g.tag c with
  | none=> simp
  | some t0=>
   cases t0 with
   | obj nm=> grind
   | tok u=> simp_all
   | outer t0=> simp
 refine ⟨g.anew s keep JY n kb,⟨fun c v hv=> ?_,fun c t ht=> ?_⟩,?_,?_,?_,h.sz,h.df,fun t x hx=> ⟨rfl,?_⟩,fun t ht hls _=> ?_⟩
 .obtain ⟨h5,h6⟩:=h.inv.im c v hv
  grind
 .cases hg:g.tag c with
  | none=> grind
  | some t0=> exact h.inv.it c t0 hg
 .refine h.fr.step h.inv (Evo.refl w (fun _=> False)) (fun c hc=> hc.elim) (fun _ _ hv=> hv) (fun c t=> htago c t) ?_ (fun _=> rfl) (fun v hB hv=> ?_)
  .intro b _ hall o sp
   cases hg:g.tag ⟨b,o,sp⟩ with
   | none=> grind
   | some t=>
    grind
  .simp only [Gh.anew,Tok.isA,cond_true]
   cases hn:n with
   | none=> simp only [kb,hB,Xg,cond_true];exact hv
   | some m=>
    cases ho:Zu s .A with
    | none=> rw [hn0,ho] at hn;cases hn
    | some t=>
     obtain ⟨rfl,_⟩:=hsA.1 t ho
     simp only [Jv,ho];exact hv
 .intro k
  exact h2 s h3 hR k
 .intro nm cs hn j c hc
  exact h4 s (.refl _) hR nm cs hn j c hc
 .have hx':Z7 (fun _=> none) (YN st.ls s (Z4F s (Z97 lv lm))) t=some x:=by
   have hx0:Z7 (fun _=> none) (match Z4F s (Z97 lv lm) with
    | []=> []
    | c=> YN st.ls s c) t=some x:=hx
   cases hc:Z4F s (Z97 lv lm) with
   | nil=> rw [hc] at hx0;cases hx0
   | cons a b=> grind
  obtain ⟨u,y,h5,h6,h7,rfl,h8,h9,h10⟩:=J5 _ hx'
  obtain ⟨_,hL⟩:=h.ls u y h7
  rcases hL with ⟨hT,hu,hL⟩ | ⟨f0,hT,rfl,hL⟩
  case inr=>
   obtain rfl:=h9 rfl
   have hn:n=some y.f:=by rw [hn0];simp only [h5,h7,Q5]
   refine .inr ⟨f0,hT,rfl,ARel.shift (fun t c ht hc=> ?_) ?_ (fun k i=> ?_) hL⟩
   .have h11:Yj s t=some t:=by
     cases t with
     | A=> exact h6
     | S v i=>
      have:Zq s .A=some .A:=h6
      simp [Yj,this]
     | _=> cases ht
    simp only [Gh.anew,hc,h11,Q5]
   .simp only [Gh.anew,Tok.isA,cond_true,hn,Jv,h5]
   .have:Zq s .A=some .A:=h6
    simp only [Gh.anew,Tok.isA,cond_true,hn,Jv,this,LC.at0]
    rw [show 0+1+k=k+1 by omega]
    simp only
    rw [show k+1+y.f=y.f+1+k by omega]
  have ht:=h10 hu
  have hbs:(g.anew s keep JY n kb).bs t=g.bs u:=by
   have hnr:JY t=true:=by
    simp only [JY,h8,XQ,K5]
    cases t <;> first | rfl | cases ht
   have h12:Jv g s 0 t=g.bs u:=by
    unfold Jv
    split
    .cases ht
    .rw [h5]
   simp only [Gh.anew,ht,cond_false,hnr,cond_true,h12]
  have e0:y.at0 t=y:=by simp only [LC.at0,ht,cond_false]
  rw [e0]
  refine .inl ⟨hT,ht,?_⟩
  have htg:∀ c,g.tag c=some (.tok u)->(g.anew s keep JY n kb).tag c=some (.tok t):=fun c hc=> by simp only [Gh.anew,hc,h6,Q5]
  rcases hL with ⟨e1,e2⟩ | ⟨b,len,cap,e1,e2,e3,e4,e5,e6⟩
  .exact .inl ⟨hbs.trans e1,e2⟩
  .refine .inr ⟨b,len,cap,hbs.trans e1,e2,e3,e4,fun i y hy j c hc=> ?_,fun j a1 a2=> htg _ (e6 j a1 a2)⟩
   obtain ⟨v,e7,e8,e9,e10⟩:=e5 i y hy j c hc
   exact ⟨v,e7,e8,e9,fun hi=> htg _ (e10 hi)⟩
 .cases hA:t.isA with
  | false=>
   have hr:t.isR=true:=by rw [hA] at ht;simpa using ht
   simp only [Gh.anew,hA,cond_false,JY,hr,Xu,Bool.false_and]
  | true=>
   have hr:t.isR=false:=by cases t <;> first | rfl | cases hA
   have hB:B.ab=none:=by rw [hr,hA] at ht;simpa using ht
   have hroot:t.root= .A:=by cases t <;> first | rfl | cases hA
   rw [hroot] at hls
   simp only [Gh.anew,hA,cond_true]
   have hn:n=none:=by
    cases hn:n with
    | none=> rfl
    | some m=>
     exfalso
     cases ho:Zu s .A with
     | none=> rw [hn0,ho] at hn;cases hn
     | some t1=>
      obtain ⟨rfl,_,h11⟩:=hsA.1 t1 ho
      cases hl:st.ls .A with
      | none=> rw [hn0,ho,hl] at hn;cases hn
      | some y=>
       have hls':Z7 (fun _=> none) (match Z4F s (Z97 lv lm) with
        | []=> []
        | c=> YN st.ls s c) .A=none:=hls
       have hc:Z4F s (Z97 lv lm)= .A ::Z97 lv lm:=by simp only [Z4F,ho,Xg,cond_true]
       rw [hc] at hls'
       simp only [YN,ho,Yj,h11,hl] at hls'
       simp [Tok.isR,Tok.isA,Z7] at hls'
   rw [hn]
   simp only [kb,hB,Option.isSome_none,cond_false]
theorem Zi1(h:Rel cfg B st g a w)(k:Nat)(T:U.Ty):∃ g',Rel cfg B (st.prom1 cfg k T) g' a w:=by
 unfold FSt.prom1
 split
 case h_2=> grind
 rename_i hk
 split
 case isFalse=> grind
 rename_i hc
 simp only [Q3,Qp,Qo] at hc
 obtain ⟨hc,hTA⟩:=hc
 have hfree:=h.fresh (.z (3*k) 0) rfl hc.1 hc.2
 have hkeep:Keeps g (g.setBs (.z (3*k) 0) (.slice none 0 0,cfg.sz T)) st.dead st.dead (fun nm=> (st.mem nm).isSome) (fun nm=> (st.mem nm).isSome):=(Keeps.refl g st.dead _).setBs hfree
 refine ⟨g.setBs (.z (3*k) 0) (.slice none 0 0,cfg.sz T),h.inv,h.fr.setBs,fun i=> ?_,fun nm cs hm j c hj=> ?_,h.sz,h.df,fun t x hx=> ?_,fun t ht h1 h2=> ?_⟩
 .simp only
  cases hi:Nat.beq i k with
  | true=>
   have e:=Q4 hi
   subst e
   have hr:=h.env i
   rw [hk] at hr
   have h1:SimC cfg g.m (a.tmps.getD i undef) .nils:=hr.1
   have hv:a.tmps.getD i undef= .slice none 0 0:=by
    generalize a.tmps.getD i undef=v at h1
    cases h1
    try rfl
   rw [hv]
   exact ⟨.mref _ _ ⟨rfl,rfl⟩,fun _=> ⟨cfg.sz T,by simp [Gh.setBs]⟩⟩
  | false=> exact (h.env i).keep hkeep
 .obtain ⟨v,h1,h2,h3⟩:=h.mem nm cs hm j c hj
  exact ⟨v,h1,h2,h3.keep hkeep⟩
 .simp only at hx
  split at hx
  .rename_i e
   subst e
   cases hx
   exact ⟨hc.2,.inl ⟨hTA,rfl,.inl ⟨by simp [Gh.setBs],rfl,rfl⟩⟩⟩
  .obtain ⟨h1,h2⟩:=h.ls t x hx
   exact ⟨h1,h2.keep hkeep h1 (fun c v hv=> (h.inv.im c v hv).1) (fun _ _ _ _=> rfl) (fun _ u hA hu=> by simp only [Gh.setBs];rw [if_neg (fun e=> by subst e;cases hA)];exact hu) (fun _ _ _ _ h=> h)⟩
 .simp only at h1
  split at h1
  .cases h1
  .rename_i hne
   simp only [Gh.setBs]
   rw [if_neg (fun e=> hne (by rw [e];rfl))]
   exact h.fresh t ht h1 h2
theorem Zi0(h:Rel cfg B st g a w)(nm:Name)(j0:Nat)(T:U.Ty):∃ g',Rel cfg B (st.promM cfg nm j0 T) g' a w:=by
 unfold FSt.promM
 split
 case h_2=> grind
 rename_i cs hcs
 split
 case h_2=> grind
 rename_i hj0
 split
 case isFalse=> grind
 rename_i hc
 simp only [Q3,Qp,Qo] at hc
 obtain ⟨hc,hTA⟩:=hc
 have hfree:=h.fresh (.z (Z6O nm) j0) rfl hc.1 hc.2
 have hkeep:Keeps g (g.setBs (.z (Z6O nm) j0) (.slice none 0 0,cfg.sz T)) st.dead st.dead (fun nm=> (st.mem nm).isSome) (fun nm=> (st.mem nm).isSome):=(Keeps.refl g st.dead _).setBs hfree
 have hl:(fun n=> (if n=nm then some (cs.set j0 (.mref (.z (Z6O nm) j0))) else st.mem n:Option (List (C U))).isSome)=fun n=> (st.mem n).isSome:=by
  funext n
  by_cases e:n=nm
  .subst e;simp [hcs]
  .simp [e]
 refine ⟨g.setBs (.z (Z6O nm) j0) (.slice none 0 0,cfg.sz T),h.inv,h.fr.setBs,fun i=> ?_,fun n cs' hm j c hj=> ?_,h.sz,h.df,fun t x hx=> ?_,fun t ht h1 h2=> ?_⟩
 .simp only [hl]
  exact (h.env i).keep hkeep
 .simp only at hm
  split at hm
  .rename_i e
   subst e
   cases hm
   by_cases e:j=j0
   .subst e
    have hlt:=(Q1.1 hj0).1
    rw [Xd] at hj
    simp only [if_true,hlt] at hj
    cases hj
    obtain ⟨v,h1,h2,h3⟩:=h.mem n cs hcs j _ hj0
    have hv:v= .slice none 0 0:=by
     have h4:=h3.1
     cases h4
     try rfl
    subst hv
    exact ⟨_,h1,h2,.mref _ _ ⟨rfl,rfl⟩,fun _=> ⟨cfg.sz T,by simp [Gh.setBs]⟩⟩
   .rw [XE (K6 e)] at hj
    obtain ⟨v,h1,h2,h3⟩:=h.mem n cs hcs j c hj
    exact ⟨v,h1,h2,h3.keep hkeep⟩
  .obtain ⟨v,h1,h2,h3⟩:=h.mem n cs' hm j c hj
   exact ⟨v,h1,h2,h3.keep hkeep⟩
 .simp only at hx
  split at hx
  .rename_i e
   subst e
   cases hx
   exact ⟨hc.2,.inl ⟨hTA,rfl,.inl ⟨by simp [Gh.setBs],rfl,rfl⟩⟩⟩
  .obtain ⟨h1,h2⟩:=h.ls t x hx
   exact ⟨h1,h2.keep hkeep h1 (fun c v hv=> (h.inv.im c v hv).1) (fun _ _ _ _=> rfl) (fun _ u hA hu=> by simp only [Gh.setBs];rw [if_neg (fun e=> by subst e;cases hA)];exact hu) (fun _ _ _ _ h=> h)⟩
 .simp only at h1
  split at h1
  .cases h1
  .rename_i hne
   simp only [Gh.setBs]
   rw [if_neg (fun e=> hne (by rw [e];rfl))]
   exact h.fresh t ht h1 h2
theorem ZaZ:∀ (lv:List ((Nat ⊕ (Name × Nat)) × U.Ty)) {st:FSt U} {g:Gh},Rel cfg B st g a w->∃ g',Rel cfg B (st.prom cfg lv) g' a w
 | [],st,g,h=> ⟨g,h⟩
 | (.inl k,T) ::r,st,g,h=> by
  obtain ⟨g1,h1⟩:=Zi1 h k T
  exact ZaZ r h1
 | (.inr x,T) ::r,st,g,h=> by
  obtain ⟨g1,h1⟩:=Zi0 h x.1 x.2 T
  exact ZaZ r h1
theorem Zdp:∀ (lv:List ((Nat ⊕ (Name × Nat)) × U.Ty)) (st:FSt U),(st.prom cfg lv).n=st.n
 | [],st=> rfl
 | (.inl k,T) ::r,st=> by
  show ((st.prom1 cfg k T).prom cfg r).n=st.n
  rw [Zdp r]
  unfold FSt.prom1
  grind
 | (.inr x,T) ::r,st=> by
  show ((st.promM cfg x.1 x.2 T).prom cfg r).n=st.n
  rw [Zdp r]
  unfold FSt.promM
  grind
theorem Zg6(ok:CfgOk P cfg)(h:Rel cfg B st g a w)(lv:List (Nat × List (Sk U)))(lm:List (Name × List (Sk U))):∃ g',Rel cfg B (Z2S cfg lv lm st id) g' a w:=by
 have key:∀ {st:FSt U} {g:Gh},Rel cfg B st g a w->∃ g',Rel cfg B (Z0R cfg st (fun st=> Z34 cfg st id (Z0i lv lm st)) (pts lv)) g' a w:=by
  intro st g h
  rw [Z3E]
  obtain ⟨g1,h1⟩:=Zgq ok h (pts lv)
  generalize Z0R cfg st id (pts lv)=st1 at h1 ⊢
  cases hn:Z0i lv lm st1 with
  | nil=> exact ⟨g1,h1⟩
  | cons t r=> exact Ze2 ok (t ::r) h1
 unfold Z2S
 cases hw:wrs lm lv with
 | nil=> exact key h
 | cons x r=>
  obtain ⟨g1,h1⟩:=ZaZ (x ::r) h
  exact key h1
theorem Zho(lv:List (Nat × List (Sk U)))(lm:List (Name × List (Sk U))):(Z2S cfg lv lm st id).n=st.n:=by
 have key:∀ (st:FSt U),(Z0R cfg st (fun st=> Z34 cfg st id (Z0i lv lm st)) (pts lv)).n=st.n:=by
  intro st
  rw [Z3E]
  have h1:=Zih (cfg:=cfg) (st:=st) (pts lv)
  generalize Z0R cfg st id (pts lv)=st1 at h1 ⊢
  cases hn:Z0i lv lm st1 with
  | nil=> exact h1
  | cons t r=> exact (Zjz _ st1).trans h1
 unfold Z2S
 cases hw:wrs lm lv with
 | nil=> exact key st
 | cons x r=> exact (key _).trans (Zdp _ st)
theorem Zg7{α:Type}(lv:List (Nat × List (Sk U)))(lm:List (Name × List (Sk U)))(k:FSt U->α):Z2S cfg lv lm st k=k (Z2S cfg lv lm st id):=by
 unfold Z2S
 generalize wrs lm lv=ws
 have key:∀ st:FSt U,Z0R cfg st (fun st=> Z34 cfg st k (Z0i lv lm st)) (pts lv)=k (Z0R cfg st (fun st=> Z34 cfg st id (Z0i lv lm st)) (pts lv)):=by
  intro st
  rw [Z3E,Z3E st (fun st=> Z34 cfg st id (Z0i lv lm st))]
  exact Zcg _ _ _
 cases ws <;> exact key _
inductive AExit where
 | normal | exit (id:Nat) | ret
def AExit.up:AExit->Exit
 | .normal=> .normal
 | .exit id=> .exit id
 | .ret=> .ret
abbrev Z8(U:Uni):=Nat->List (Nat × List (Sk U)) × List (Name × List (Sk U))
def AExit.then{U:Uni}(K:LSt U->Prop)(Q:AExit->LSt U->Prop):AExit->LSt U->Prop
 | .normal,s=> K s
 | e,s=> Q e s
def AExit.inBlock{U:Uni}(id:Nat)(Q:AExit->LSt U->Prop):AExit->LSt U->Prop
 | .exit id',s=> if id'=id then Q .normal s else Q (.exit id') s
 | e,s=> Q e s
def ZJ{U:Uni}(body:LSt U->(AExit->LSt U->Prop)->Prop)(s:LSt U)(Q:AExit->LSt U->Prop):Prop:=
 ∃ (I:Nat->LSt U->Prop) (n:Nat),I n s/\∀ k s',I k s'->body s' (AExit.then (fun s2=> ∃ j,j < k/\I j s2) Q)
def Zin:List Prop->Prop->Prop
 | [],q=> q
 | p ::r,q=> p/\Zin r q
theorem Z5U:∀ {ps:List Prop} {q:Prop},Zin ps q->All ps/\q
 | [],_,h=> ⟨trivial,h⟩
 | _ ::_,_,h=> ⟨⟨h.1,(Z5U h.2).1⟩,(Z5U h.2).2⟩
def mkL(Γ:Known U)(o:Oper):Bool:=
 match o.op with
 | .call c=> match c.callee with
  | .value (.func f)=> match Γ f with
   | some s=> s.mkl
   | none=> false
  | _=> false
 | _=> false
def isZ(o:Oper):Bool:=
 match o.op with
 | .call c=> match c.callee,c.argTypes.toList with
  | .builtin .append,[t,t']=> t !=t'
  | _,_=> false
 | _=> false
def Zpq(Γ:Known U)(s:LSt U)(ops:List Oper)(l:List (Nat × List (Sk U)) × List (Name × List (Sk U))):Bool:=
 Γ.ml || !s.ls.isEmpty || (ops.any fun o=> Zni ops o || mkL Γ o || isZ o) || !(wrs l.2 l.1).isEmpty || !(pts l.1).isEmpty
def Z33{α:Type}(cfg:Cfg U)(li:Bool)(l:List (Nat × List (Sk U)) × List (Name × List (Sk U)))(st:FSt U)(k:FSt U->α):α:=
 bif li then Z2S cfg l.1 l.2 st k else k st
def Znt(cfg:Cfg U)(li:Bool)(r:Option (List Prop × FSt U))(l:List (Nat × List (Sk U)) × List (Name × List (Sk U)))(Q:AExit->LSt U->Prop):Prop:=
 match r with
 | some (ps,st)=> Z33 cfg li l st (fun st=> Zin ps (Q .normal (ZnM l.1 l.2 st)))
 | none=> False
theorem Zcf{α:Type}(li:Bool)(l:List (Nat × List (Sk U)) × List (Name × List (Sk U)))(k:FSt U->α):Z33 cfg li l st k=k (Z33 cfg li l st id):=by
 cases li
 .try rfl
 .exact Zg7 _ _ _
theorem Zce(ok:CfgOk P cfg)(h:Rel cfg B st g a w)(li:Bool)(l:List (Nat × List (Sk U)) × List (Name × List (Sk U))):(∃ g',Rel cfg B (Z33 cfg li l st id) g' a w)/\(Z33 cfg li l st id).n=st.n:=by
 cases li
 .exact ⟨⟨g,h⟩,rfl⟩
 .exact ⟨Zg6 ok h _ _,Zho _ _⟩
def ZkC{U:Uni}(v:Option (V U))(x y:Prop):Prop:=
 match v with
 | some (.c (.bool b))=> (b=true->x)/\(b=false->y)
 | some (.nb p q)=> (p->x)/\(q->y)
 | _=> False
def awp(cfg:Cfg U)(Γ:Known U)(draws:Array Oper->FSt U->Bool)(n:Nat)(lv:Z8 U):Code->LSt U->(AExit->LSt U->Prop)->Prop
 | .skip,s,Q=> Q .normal s
 | .region id ops dr,s,Q=> if (!dr || draws ops (s.toR n Γ.ml ops))=true then Znt cfg (Zpq Γ s ops.toList (lv id)) (Z9e cfg Γ ops (!dr && Zpq Γ s ops.toList (lv id)) ops.toList (s.toR n Γ.ml ops)) (lv id) Q else False
 | .seq x y,s,Q=> awp cfg Γ draws n lv x s (AExit.then (fun s'=> awp cfg Γ draws n lv y s' Q) Q)
 | .cond c x y,s,Q=> ZkC ((s.toF n).opnd c) (awp cfg Γ draws n lv x s Q) (awp cfg Γ draws n lv y s Q)
 | .block id c,s,Q=> awp cfg Γ draws n lv c s (AExit.inBlock id Q)
 | .loop c,s,Q=> ZJ (awp cfg Γ draws n lv c) s Q
 | .exit id,s,Q=> Q (.exit id) s
 | .ret,s,Q=> Q .ret s
 | _,_,_=> False
def Z3X(P:Program)(cfg:Cfg U)(Γ:Known U)(draws:Array Oper->FSt U->Bool):Prop:=
 ∀ (B:Base),(Γ.na=true->B.ab=none)->∀ (st st':FSt U) (g:Gh) (a:Act) (w:World) (id:Nat) (ops:Array Oper) (ps:List Prop) (Q:Exit->Act->World->Prop),draws ops st=true->Rel cfg B st g a w->
  Z9e cfg Γ ops false ops.toList st=some (ps,st')->All ps->(∀ g' a' w',Rel cfg B st' g' a' w'->Q .normal a' w')->(Code.region id ops true).wp P Q a w
theorem ZgZ{Γ:Known U}{draws:Array Oper->FSt U->Bool}(ok:CfgOk P cfg)(hΓ:∀ f s,Γ f=some s->Contract P cfg f s)(hna:Γ.na=true->B.ab=none)(hdr:Z3X P cfg Γ draws){n:Nat}{lv:Z8 U}:∀ (c:Code) (s:LSt U) (Q:AExit->LSt U->Prop) (g:Gh) (a:Act) (w:World),
  awp cfg Γ draws n lv c s Q->Rel cfg B (s.toF n) g a w->c.wp P (fun e a' w'=> ∃ e' s' g',e=AExit.up e'/\Q e' s'/\Rel cfg B (s'.toF n) g' a' w') a w:=by
 intro c
 induction c with
 | skip=> exact fun s Q g a w h hr=> wp_skip ⟨.normal,s,g,rfl,h,hr⟩
 | region id ops dr=>
  intro s Q g a w h hr
  simp only [awp] at h
  split at h
  case isFalse=> exact h.elim
  rename_i hd
  unfold Znt at h
  split at h
  case h_2=> exact h.elim
  rename_i ps st' hrun
  rw [Zcf] at h
  replace h:=Z5U h
  generalize Zpq Γ s ops.toList (lv id)=li at*
  have fin:∀ g' a' w',Rel cfg B st' g' a' w'->∃ e' s' g',Exit.normal=AExit.up e'/\Q e' s'/\Rel cfg B (s'.toF n) g' a' w':=by
   intro g' a' w' hr'
   obtain ⟨⟨g1,h1⟩,hn1⟩:=Zce ok hr' li (lv id)
   obtain ⟨g2,h2⟩:=Zln h1 (lv id).1 (lv id).2
   have hn:st'.n=n:=by
    have:∀ (l:List Oper) (st st':FSt U) (ps:List Prop),Z9e cfg Γ ops (!dr && li) l st=some (ps,st')->st'.n=st.n:=by
     intro l
     induction l with
     | nil=> intro st st' ps he;simp only [Z9e,Option.some.injEq,Prod.mk.injEq] at he;rw [he.2]
     | cons o l ih=>
      intro st st' ps he
      rw [Z6f] at he
      split at he
      .cases he
      .split at he
       .cases he
       .rename_i h2
        simp only [Option.some.injEq,Prod.mk.injEq] at he
        obtain ⟨_,rfl⟩:=he
        rw [ih _ _ _ h2]
        have hp:((st.pre cfg Γ (!dr && li) o).app o.dst ‹Eff U›).n=(st.pre cfg Γ (!dr && li) o).n:=by cases o.dst <;> rfl
        rw [hp,Zr9]
    exact this _ _ _ _ hrun
   rw [hn1,hn] at h2
   exact ⟨.normal,_,g2,rfl,h.2,h2⟩
  cases dr with
  | false=> exact wp_region_list (Z9d ok hΓ hna ops.toList _ st' g a w ps (Zer hr) hrun h.1 fin)
  | true=>
   simp only [Xu,Bool.false_or] at hd
   exact hdr B hna _ st' g a w id ops ps _ hd (Zer hr) hrun h.1 fin
 | seq x y ihx ihy=>
  intro s Q g a w h hr
  simp only [awp] at h
  refine wp_seq (wp_mono (ihx s _ g a w h hr) ?_)
  rintro e a' w' ⟨e',s',g',rfl,hq,hr'⟩
  cases e' with
  | normal=> exact ihy s' Q g' a' w' hq hr'
  | exit id=> exact ⟨.exit id,s',g',rfl,hq,hr'⟩
  | ret=> exact ⟨.ret,s',g',rfl,hq,hr'⟩
 | cond c x y ihx ihy=>
  intro s Q g a w h hr
  simp only [awp,ZkC] at h
  split at h
  case h_3=> exact h.elim
  case h_2 p q hb=>
   have hv:∃ b,a.eval c= .bool b/\(b=true->p)/\(b=false->q):=by
    have hrel:RelV cfg g Zv (fun nm=> ((s.toF n).mem nm).isSome) (a.eval c) (.nb p q):=by
     cases c with
     | tmp t=> simp only [FSt.opnd,Option.some.injEq] at hb;rw [<-hb];exact hr.env t
     | const c=> exact Z19 hb
     | func f=> simp [FSt.opnd] at hb
     | global g=> trivial
    exact hrel
   obtain ⟨b,hv,hp,hq⟩:=hv
   exact wp_cond_split hv (fun ht=> ihx s Q g a w (h.1 (hp ht)) hr) (fun ht=> ihy s Q g a w (h.2 (hq ht)) hr)
  rename_i b hb
  have hv:a.eval c= .bool b:=by
   have hrel:RelV cfg g Zv (fun nm=> ((s.toF n).mem nm).isSome) (a.eval c) (.c (.bool b)):=by
    cases c with
    | tmp t=> simp only [FSt.opnd,Option.some.injEq] at hb;rw [<-hb];exact hr.env t
    | const c=> exact Z19 hb
    | func f=> simp [FSt.opnd] at hb
    | global g=> trivial
   exact SimC.bool_eq hrel.1
  exact wp_cond_split hv (fun ht=> ihx s Q g a w (h.1 ht) hr) (fun ht=> ihy s Q g a w (h.2 ht) hr)
 | block id c ih=>
  intro s Q g a w h hr
  simp only [awp] at h
  refine wp_block (wp_mono (ih s _ g a w h hr) ?_)
  rintro e a' w' ⟨e',s',g',rfl,hq,hr'⟩
  cases e' with
  | normal=> exact ⟨.normal,s',g',rfl,hq,hr'⟩
  | exit id'=>
   simp only [AExit.inBlock,AExit.up,Exit.inBlock] at*
   grind
  | ret=> exact ⟨.ret,s',g',rfl,hq,hr'⟩
 | loop c ih=>
  intro s Q g a w h hr
  simp only [awp,ZJ] at h
  obtain ⟨I,k,h0,h1⟩:=h
  refine wp_loop_ghost (fun k a w=> ∃ s g,I k s/\Rel cfg B (s.toF n) g a w) k ⟨s,g,h0,hr⟩ ?_
  rintro k a w ⟨s,g,hI,hr⟩
  refine wp_mono (ih s _ g a w (h1 k s hI) hr) ?_
  rintro e a' w' ⟨e',s',g',rfl,hq,hr'⟩
  cases e' with
  | normal=>
   obtain ⟨j,hj,hI'⟩:=hq
   exact ⟨j,hj,s',g',hI',hr'⟩
  | exit id=> exact ⟨.exit id,s',g',rfl,hq,hr'⟩
  | ret=> exact ⟨.ret,s',g',rfl,hq,hr'⟩
 | exit id=> exact fun s Q g a w h hr=> wp_exit ⟨.exit id,s,g,rfl,h,hr⟩
 | ret=> exact fun s Q g a w h hr=> wp_ret ⟨.ret,s,g,rfl,h,hr⟩
 | _=> intro s Q g a w h;simp [awp] at h
def Zd8(cfg:Cfg U)(Γ:Known U)(draws:Array Oper->FSt U->Bool)(n:Nat)(lv:Z8 U)(y:Code)(Q:AExit->LSt U->Prop):AExit->LSt U->Prop:=
 AExit.then (fun s'=> awp cfg Γ draws n lv y s' Q) Q
theorem Zr {U:Uni} {ι:Type} (f:ι->LSt U) (I:ι->Prop) (μ:ι->Nat) {body:LSt U->(AExit->LSt U->Prop)->Prop} {s:LSt U} {Q:AExit->LSt U->Prop} (i0:ι) (hs:s=f i0) (h0:I i0)
  (hb:∀ i,I i->body (f i) (AExit.then (fun s2=> ∃ j,s2=f j/\I j/\μ j < μ i) Q)):ZJ body s Q:=by
 refine ⟨fun k s=> ∃ i,s=f i/\I i/\μ i=k,μ i0,⟨i0,hs,h0,rfl⟩,?_⟩
 grind
def sub:List Nat->Code->Code
 | [],c=> c
 | 0 ::r,.seq a _=> sub r a
 | _ ::r,.seq _ b=> sub r b
 | 0 ::r,.cond _ a _=> sub r a
 | _ ::r,.cond _ _ b=> sub r b
 | _ ::r,.block _ c=> sub r c
 | _ ::r,.loop c=> sub r c
 | _,_=> .skip
def cd(f:Func)(path:List Nat):Code:=sub path (f.body.getD .skip)
attribute [irreducible] awp
end Go.AM
