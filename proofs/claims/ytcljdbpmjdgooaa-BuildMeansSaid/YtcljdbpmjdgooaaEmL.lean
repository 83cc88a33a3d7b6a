import Derived.Test.YtcljdbpmjdgooaaEmK
set_option linter.unusedSimpArgs false
set_option linter.unusedVariables false
namespace Go.AM
variable {U:Uni} {P:Program} {cfg:Cfg U} {B:Base} {st:FSt U} {g:Gh} {a:Act} {w:World}
def Z3s:Nat->List (V U)->List (Nat × V U)
 | _,[]=> []
 | i,v ::r=> (i,v) ::Z3s (i+1) r
def Z3r:Nat->List (List (C U))->List (Name × List (C U))
 | _,[]=> []
 | k,cs ::r=> (.x k,cs) ::Z3r (k+1) r
def Yu(args:List (V U))(X:List (List (C U)))(L:List (Tok × LC U)):LSt U:={ env:=Z3s 0 args,mem:=Z3r 0 X,ls:=L }
def Zi(args:List (V U))(X:List (List (C U))):LSt U:=Yu args X []
def Z08:Tok->Bool:=fun _=> true
def Z5M(cfg:Cfg U)(st:FSt U):ResultVar->Option (Bool × List (C U))
 | .tmp t=> match st.env t with
  | .c x=> some (false,[x])
  | .agg cs=> some (true,cs)
  | _=> none
 | .cell t ty=> match cfg.var ty with
  | some (ag,zs)=> match rd st (st.env t) ag zs.length with
   | some (.c x)=> some (false,[x])
   | some (.agg cs)=> some (true,cs)
   | _=> none
  | none=> none
def Z4k(cfg:Cfg U)(st:FSt U):List ResultVar->Option (List (Bool × List (C U)))
 | []=> some []
 | r ::rs=> match Z5M cfg st r,Z4k cfg st rs with
  | some x,some l=> some (x ::l)
  | _,_=> none
def Z1k(i:Nat):List (Bool × List (C U))->List (Tok × Tok)->List (Bool × List (C U)) × List (Tok × Tok)
 | [],seen=> ([],seen)
 | (ag,cs) ::r,seen=> ((ag,(Yq Z08 (fun j=> .r 0 (16*i+j)) 0 cs seen).1) ::(Z1k (i+1) r (Yq Z08 (fun j=> .r 0 (16*i+j)) 0 cs seen).2).1,
   (Z1k (i+1) r (Yq Z08 (fun j=> .r 0 (16*i+j)) 0 cs seen).2).2)
def Zhg:Tail->Tail->Prop
 | _,.unk=> True
 | .full,_=> True
 | .own t,.own t'=> t=t'
 | _,_=> False
def leC(cfg:Cfg U):C U->C U->Prop
 | .int k n,.int k' n'=> k=k'/\n=n'
 | .bool b,.bool b'=> b=b'
 | .nils,.nils=> True
 | .nils,.slice _ l _=> l=[]
 | .nilp,.nilp=> True
 | .nilp,.po _ o=> o=none
 | .po T o,.po T' o'=> match cfg.tyEq T T' with
  | isTrue h=> h▸o=o'
  | isFalse _=> False
 | .slice T l tl,.slice T' l' tl'=> match cfg.tyEq T T' with
  | isTrue h=> h▸l=l'/\Zhg tl tl'
  | isFalse _=> False
 | .mref t,.mref t'=> t=t'
 | .xp k,.xp k'=> k=k'
 | _,_=> False
def leL(cfg:Cfg U):List (C U)->List (C U)->Prop
 | [],[]=> True
 | c ::r,c' ::r'=> leC cfg c c'/\leL cfg r r'
 | _,_=> False
def leR(cfg:Cfg U):List (Bool × List (C U))->List (Bool × List (C U))->Prop
 | [],[]=> True
 | (b,cs) ::r,(b',cs') ::r'=> b=b'/\leL cfg cs cs'/\leR cfg r r'
 | _,_=> False
def Z8y:V U->Option (List (Bool × List (C U)))
 | .c x=> some [(false,[x])]
 | .agg cs=> some [(true,cs)]
 | .tup ws=> if ws.length=1 then none else some ws
 | _=> none
def Zri(cfg:Cfg U)(x y:LC U):Prop:=
 match cfg.tyEq x.T y.T with
 | isTrue h=> h▸x.l=y.l/\x.f=y.f
 | isFalse _=> False
def Zaz(cfg:Cfg U)(ls:List (Tok × LC U))(seen:List (Tok × Tok)):List (Tok × LC U)->Prop
 | []=> True
 | (t,y) ::r=> (match Zu seen t with
  | some u=> Yj seen u=some t/\match Z7 (fun _=> none) ls u with
   | some x=> Zri cfg x y
   | none=> False
  | none=> False)/\Zaz cfg ls seen r
def Zh7(cfg:Cfg U)(mem:List (Name × List (C U)))(ls:List (Tok × LC U))(L:List (Tok × LC U)):(k:Nat)->List (List (C U))->List (Tok × Tok)->Prop
 | _,[],seen=> Zaz cfg ls seen L
 | k,cs' ::r,seen=> match Z0j mem (.x k) with
  | some cs=> leL cfg (JS Z08 (.x k) 0 [] cs seen).1 cs'/\Zh7 cfg mem ls L (k+1) r (JS Z08 (.x k) 0 [] cs seen).2
  | none=> False
def Z8a(L:List (Tok × LC U)):List (Tok × Tok):=bif (Z7 (fun _=> none) L .A).isSome then [(.A,.A)] else []
def ZaA(cfg:Cfg U)(n:Nat)(rs:List ResultVar)(r:V U)(X:List (List (C U)))(L:List (Tok × LC U))(s:LSt U):Prop:=
 match Z4k cfg (s.toF n) rs,Z8y r with
 | some ws,some ws'=> leR cfg (Z1k 0 ws (Z8a L)).1 ws'/\Zh7 cfg s.mem s.ls L 0 X (Z1k 0 ws (Z8a L)).2
 | _,_=> False
def ZpJ(cfg:Cfg U)(n:Nat)(rs:List ResultVar)(r:V U)(X:List (List (C U)))(s:LSt U):Prop:=ZaA cfg n rs r X [] s
def YQ(cfg:Cfg U)(n:Nat)(rs:List ResultVar)(r:V U)(X:List (List (C U)))(L:List (Tok × LC U))(e:AExit)(s:LSt U):Prop:=
 match e with
 | .exit _=> False
 | _=> ZaA cfg n rs r X L s
def Yg(cfg:Cfg U)(n:Nat)(rs:List ResultVar)(r:V U)(X:List (List (C U)))(e:AExit)(s:LSt U):Prop:=
 match e with
 | .exit _=> False
 | _=> ZpJ cfg n rs r X s
def Zcj:Tok->Bool
 | .S _ _=> false
 | _=> true
def Gh.ended(g:Gh)(s:List (Tok × Tok))(keep:Name->Bool):Gh:=g.anew s keep Zcj ((Zu s .A).map fun _=> 0) true
theorem Gh.ended_ren{s:List (Tok × Tok)}(keep:Name->Bool){dead:Tok->Bool}(hs:SeenA dead s):RenA Zcj g s (g.ended s keep):=by
 refine Gh.anew_ren s keep Zcj (fun t ht _ ⟨v,i,e⟩=> by subst e;cases ht) fun hn t v ht hv=> ?_
 rw [ht] at hn;cases hn
theorem Gh.ended_A{s:List (Tok × Tok)}(keep:Name->Bool){dead:Tok->Bool}(hs:SeenA dead s):(g.ended s keep).bs .A=g.bs .A:=by
 simp only [Gh.ended,Gh.anew,Tok.isA,cond_true]
 cases ho:Zu s .A with
 | none=> rfl
 | some t=>
  obtain ⟨rfl,_⟩:=hs.1 t ho
  simp only [Q5,Jv,ho]
theorem ZcW{ls:List (Tok × LC U)}{seen:List (Tok × Tok)}{keep:Name->Bool}{dead:Tok->Bool}(h:Rel cfg B st g a w)(hls:∀ t,st.ls t=Z7 (fun _=> none) ls t)(hs:SeenA dead seen):∀ {L:List (Tok × LC U)},Zaz cfg ls seen L->
  ∀ t x,Z7 (fun _=> none) L t=some x->LRel cfg w (g.ended seen keep) t x
 | [],_,t,x,hx=> by trivial
 | (t0,y) ::L,hE,t,x,hx=> by
  have hr:=(Gh.ended_ren (g:=g) keep hs).toRen
  obtain ⟨h1,h2⟩:=hE
  simp only [Z7] at hx
  split at hx
  .rename_i e
   subst e
   cases hx
   split at h1
   case h_2=> exact h1.elim
   rename_i u hu
   obtain ⟨h3,h4⟩:=h1
   split at h4
   case h_2=> exact h4.elim
   rename_i x hxu
   unfold Zri at h4
   split at h4
   case h_2=> exact h4.elim
   rename_i hT _
   obtain ⟨T,l,f⟩:=x
   obtain ⟨T',l',f'⟩:=y
   simp only at hT
   subst hT
   obtain ⟨h5,h6⟩:=h4
   simp only at h5 h6
   subst h5 h6
   obtain ⟨_,hL⟩:=h.ls u _ ((hls u).trans hxu)
   have htg:∀ c,g.tag c=some (.tok u)->(g.ended seen keep).tag c=some (.tok t):=fun c hc=> hr.tok c u t hc h3
   rcases hL with ⟨hT,hA,hL⟩ | ⟨f0,hT,rfl,hL⟩
   .have htA:t.isA=false:=by
     cases t with
     | A=> obtain ⟨rfl,_⟩:=hs.1 u hu;cases hA
     | S v i=> rw [hs.2.2] at hu;cases hu
     | _=> rfl
    have hns:Zcj t=true:=by cases t <;> first | rfl | cases htA
    refine .inl ⟨hT,htA,?_⟩
    rcases hL with ⟨e1,e2⟩ | ⟨b,len,cap,e1,e2,e3,e4,e5,e6⟩
    .exact .inl ⟨hr.bs _ _ _ hns hu e1,e2⟩
    .refine .inr ⟨b,len,cap,hr.bs _ _ _ hns hu e1,e2,e3,e4,fun i y hy j c hc=> ?_,fun j a1 a2=> htg _ (e6 j a1 a2)⟩
     obtain ⟨v,e7,e8,e9,e10⟩:=e5 i y hy j c hc
     exact ⟨v,e7,by rw [hr.m];exact e8,fun hi=> by rw [hr.m];exact e9 hi,fun hi=> htg _ (e10 hi)⟩
   .have hn0:Zq seen .A=some t:=h3
    have ho:=hs.2.1 t hn0
    obtain ⟨_,_,hn1⟩:=hs.1 _ ho
    rw [hn0] at hn1
    cases hn1
    refine .inr ⟨f0,hT,rfl,ARel.shift (fun t c ht hc=> ?_) (Gh.ended_A keep hs) (fun k i=> ?_) hL⟩
    .refine hr.tok c t t hc ?_
     cases t with
     | A=> exact hn0
     | S v i=> simp [Yj,hn0]
     | _=> cases ht
    .simp only [Gh.ended,Gh.anew,Tok.isA,cond_true,ho,Q5]
     rw [show f+1+k=f+k+1 by omega]
     simp only [Jv,hn0,Xo]
  .exact ZcW h hls hs h2 t x hx
theorem ZiP{g:Gh}{v:Value}{c c':C U}(h:leC cfg c c')(hr:RelC cfg g Zv v c):RelC cfg g Zv v c':=by
 cases c <;> cases c' <;> simp only [leC] at h
 case int.int k n k' n'=> obtain ⟨rfl,rfl⟩:=h;exact hr
 case bool.bool=> subst h;exact hr
 case nils.nils=> exact hr
 case nilp.nilp=> exact hr
 case nilp.po T o=>
  subst h
  have h1:=hr.1
  cases h1
  exact ⟨.pnil T,trivial⟩
 case po.po T o T' o'=>
  split at h
  .rename_i hT _
   subst hT
   simp only at h
   subst h
   exact hr
  .exact h.elim
 case mref.mref t t'=> subst h;exact hr
 case xp.xp k k'=> subst h;exact hr
 case nils.slice T l tl=>
  subst h
  have h1:=hr.1
  cases h1
  refine ⟨.snil T tl,?_⟩
  cases tl with
  | unk=> trivial
  | full=> intro a len cap hv;simp at hv;omega
  | own t=> intro _ _ a len cap hv;simp at hv
 case slice.slice T l tl T' l' tl'=>
  split at h
  .rename_i hT _
   subst hT
   obtain ⟨h1,h2⟩:=h
   simp only at h1
   subst h1
   refine ⟨hr.1.tl _,?_⟩
   cases tl' with
   | unk=> trivial
   | full=> cases tl <;> simp only [Zhg] at h2;exact hr.2
   | own t'=>
    cases tl with
    | unk=> exact h2.elim
    | full=>
     intro _ _ b len cap hv j h3 h4
     have:=hr.2 _ _ _ hv
     subst this
     omega
    | own t=> have:t=t':=h2;subst this;exact hr.2
  .exact h.elim
theorem Zbg{g:Gh}:∀ {vs:List Value} {cs cs':List (C U)},leL cfg cs cs'->RelL cfg g Zv vs cs->RelL cfg g Zv vs cs'
 | vs,[],[],_,hr=> hr
 | vs,c ::cs,c' ::cs',h,hr=> by
  obtain ⟨h1,h2⟩:=h
  match vs,hr with
  | v ::vs,hr=>
   have h3:=Zbg (vs:=vs) h2 ⟨by simpa using hr.1,fun j v' c hv hc=> hr.2 (j+1) v' c (by simpa using hv) (by simpa using hc)⟩
   refine ⟨by simp [h3.1],fun j v' d hv hd=> ?_⟩
   cases j with
   | zero=> simp at hv hd;subst hv hd;exact ZiP h1 (hr.2 0 _ _ rfl rfl)
   | succ j=> exact h3.2 j v' d (by simpa using hv) (by simpa using hd)
  | [],hr=> have:=hr.1;simp at this
theorem Zpl{g:Gh}{v:Value}{ag:Bool}{cs cs':List (C U)}(h:leL cfg cs cs')(hr:RelW cfg g Zv v ag cs):RelW cfg g Zv v ag cs':=by
 cases ag with
 | true=> obtain ⟨vs,h1,h2⟩:=hr;exact ⟨vs,h1,Zbg h h2⟩
 | false=>
  obtain ⟨c,rfl,h2⟩:=hr
  match cs',h with
  | [c'],h=> exact ⟨c',rfl,ZiP h.1 h2⟩
def RelWs(cfg:Cfg U)(g:Gh)(dead:Tok->Bool)(vs:List Value)(ws:List (Bool × List (C U))):Prop:=
 vs.length=ws.length/\∀ (j:Nat) u w,vs[j]?=some u->ws[j]?=some w->RelW cfg g dead u w.1 w.2
theorem RelWs.cons{g:Gh}{dead:Tok->Bool}{v:Value}{w:Bool × List (C U)}{vs:List Value}{ws:List (Bool × List (C U))}(h:RelW cfg g dead v w.1 w.2)(hs:RelWs cfg g dead vs ws):RelWs cfg g dead (v ::vs) (w ::ws):=by
 refine ⟨by simp [hs.1],fun j u x hu hx=> ?_⟩
 cases j with
 | zero=> grind
 | succ j=> exact hs.2 j u x (by simpa using hu) (by simpa using hx)
theorem RelWs.uncons{g:Gh}{dead:Tok->Bool}{vs:List Value}{w:Bool × List (C U)}{ws:List (Bool × List (C U))}(h:RelWs cfg g dead vs (w ::ws)):∃ v r,vs=v ::r/\RelW cfg g dead v w.1 w.2/\RelWs cfg g dead r ws:=by
 match vs,h with
 | v ::r,h=> exact ⟨v,r,rfl,h.2 0 _ _ rfl rfl,by simpa using h.1,fun j u x hu hx=> h.2 (j+1) u x (by simpa using hu) (by simpa using hx)⟩
 | [],h=> have:=h.1;simp at this
theorem ZiO{g:Gh}:∀ {vs:List Value} {ws ws':List (Bool × List (C U))},leR cfg ws ws'->RelWs cfg g Zv vs ws->RelWs cfg g Zv vs ws'
 | vs,[],[],_,hr=> hr
 | vs,(b,cs) ::ws,(b',cs') ::ws',h,hr=> by
  obtain ⟨rfl,h1,h2⟩:=h
  obtain ⟨v,r,rfl,h3,h4⟩:=hr.uncons
  exact .cons (Zpl h1 h3) (ZiO h2 h4)
theorem Z9S(hd:∀ t,Z08 t=true->st.dead t=false):∀ (ws:List (Bool × List (C U))) (i:Nat) (seen:List (Tok × Tok)),
  Ext seen (Z1k i ws seen).2/\∀ s',Ext (Z1k i ws seen).2 s'->∀ g2,Ren Zcj g s' g2->∀ vs,RelWs cfg g st.dead vs ws->RelWs cfg g2 Zv vs (Z1k i ws seen).1
 | [],i,seen=> ⟨.refl _,fun s' _ g2 _ vs h=> ⟨h.1,fun j u w _ hw=> by trivial⟩⟩
 | (ag,cs) ::ws,i,seen=> by
  obtain ⟨h3,h4,h5⟩:=Z3D (cfg:=cfg) (g:=g) (okT:=Zcj) (mine:=Z08) (nm:=fun j=> .r 0 (16*i+j)) hd (fun _=> rfl) rfl cs 0 seen
  obtain ⟨h6,h7⟩:=Z9S hd ws (i+1) (Yq Z08 (fun j=> .r 0 (16*i+j)) 0 cs seen).2
  refine ⟨h3.trans h6,fun s' hs g2 hg vs h=> ?_⟩
  obtain ⟨v,r,rfl,h8,h9⟩:=h.uncons
  refine .cons ?_ (h7 s' hs g2 hg r h9)
  have hL:∀ us,RelL cfg g st.dead us cs->RelL cfg g2 Zv us (Yq Z08 (fun j=> .r 0 (16*i+j)) 0 cs seen).1:=fun us hu=>
   ⟨by rw [h4];exact hu.1,fun j u c hu' hc=> by
    have hj:j < cs.length:=by have:=(Q1.1 hc).1;omega
    exact h5 s' (h6.trans hs) g2 hg j u _ c (Q0 hj) hc (hu.2 j u _ hu' (Q0 hj))⟩
  cases ag with
  | true=> obtain ⟨us,h10,h11⟩:=h8;exact ⟨us,h10,hL _ h11⟩
  | false=>
   obtain ⟨c,h10,h11⟩:=h8
   simp only at h10
   subst h10
   have:=hL [v] ⟨rfl,fun j u c hu hc=> by
    grind⟩
   simp only [Yq] at this ⊢
   exact ⟨_,rfl,this.2 0 _ _ rfl rfl⟩
theorem Z6v:∀ (ws:List (Bool × List (C U))) (i:Nat) (seen:List (Tok × Tok)),SeenA Zv seen->SeenA Zv (Z1k i ws seen).2
 | [],_,_,h=> h
 | (ag,cs) ::ws,i,seen,h=> Z6v ws (i+1) _ (Z4q (fun _ _=> rfl) (fun _=> rfl) cs 0 _ h)
theorem Zd9(L:List (Tok × LC U)):SeenA Zv (Z8a L):=by
 unfold Z8a
 cases (Z7 (fun _=> none) L .A).isSome with
 | false=> exact .nil
 | true=> exact ⟨fun t ht=> by simp [Zu] at ht;exact ⟨ht.symm,rfl,by simp [Zq]⟩,fun t _=> by simp [Zu],fun v i=> by simp [Zu]⟩
theorem ZfU(h:Rel cfg B st g a w)(hdead:st.dead=Zv){mem:List (Name × List (C U))}(hm:∀ nm,st.mem nm=Z0j mem nm){ls L:List (Tok × LC U)}:∀ (X:List (List (C U))) (k:Nat) (seen:List (Tok × Tok)),SeenA Zv seen->Zh7 cfg mem ls L k X seen->
  ∃ s',Ext seen s'/\SeenA Zv s'/\Zaz cfg ls s' L/\∀ s2,Ext s' s2->∀ g2,RenA Zcj g s2 g2->∀ (i:Nat) cs,X[i]?=some cs->∀ (j:Nat) c,cs[j]?=some c->∃ v,w.cell? ((g.ad (.x (k+i))).add j)=some v/\g.tag ((g.ad (.x (k+i))).add j)=some (.obj (.x (k+i)))/\RelC cfg g2 Zv v c
 | [],k,seen,hsn,hx=> ⟨seen,.refl _,hsn,hx,fun s2 _ g2 _ i cs hi=> by simp at hi⟩
 | cs' ::X,k,seen,hsn,hx=> by
  simp only [Zh7] at hx
  split at hx
  .rename_i cs hcs
   obtain ⟨h1,h2⟩:=hx
   have hd:∀ t,Z08 t=true->st.dead t=false:=fun t _=> by rw [hdead];try rfl
   obtain ⟨h3,h4,h5⟩:=Z3G (cfg:=cfg) (g:=g) (okT:=Zcj) (mine:=Z08) (nm:= .x k) hd (fun _=> rfl) rfl cs 0 [] seen
   obtain ⟨s',h6,hsn',hLE,h7⟩:=ZfU h hdead hm X (k+1) _ (Z25 (fun _ _=> rfl) (fun _=> rfl) cs 0 [] _ hsn) h2
   refine ⟨s',h3.trans h6,hsn',hLE,fun s2 hs g2 hg i cs0 hi j c hj=> ?_⟩
   cases i with
   | zero=>
    simp at hi
    subst hi
    have hmem:st.mem (.x k)=some cs:=by rw [hm];exact hcs
    let f:Nat->Value:=fun j=> (w.cell? ((g.ad (.x k)).add j)).getD undef
    have hf:∀ j c,cs[j]?=some c->w.cell? ((g.ad (.x k)).add j)=some (f j)/\g.tag ((g.ad (.x k)).add j)=some (.obj (.x k))/\RelC cfg g st.dead (f j) c:=fun j c hc=> by
     obtain ⟨v,h8,h9,h10⟩:=h.mem _ _ hmem j c hc
     grind
    have hR:RelL cfg g2 Zv ((List.range cs.length).map f) (JS Z08 (.x k) 0 [] cs seen).1:=by
     have h11:=RelL.of_get (cfg:=cfg) (g:=g) (st:=st) (f:=f) (fun j c hc=> (hf j c hc).2.2)
     refine ⟨by grind,fun j u c hu hc=> ?_⟩
     have hj:j < cs.length:=by have:=(Q1.1 hc).1;omega
     exact h5 s2 (h6.trans hs) g2 hg j u _ c (Q0 hj) hc (h11.2 j u _ hu (Q0 hj))
    have hR':=Zbg h1 hR
    have hjl:j < cs.length:=by have h12:=(Q1.1 hj).1;have:=hR'.1;simp at this;omega
    obtain ⟨h13,h14,_⟩:=hf j _ (Q0 hjl)
    refine ⟨f j,by omega,by omega,hR'.2 j _ c (by simp [hjl]) hj⟩
   | succ i=>
    grind
  grind
theorem Z8O:∀ (args:List (V U)) (i k:Nat),Z9u (Z3s i args) k=if i<=k then (args[k - i]?).getD .junk else .junk
 | [],i,k=> by simp [Z3s,Z9u]
 | v ::args,i,k=> by
  simp only [Z3s,Z9u]
  cases hk:Nat.beq i k with
  | true=>
   simp_all
  | false=>
   have hne:i≠k:=fun e=> by simp_all
   simp only [cond_false]
   rw [Z8O args (i+1) k]
   grind
theorem Z1b:∀ (X:List (List (C U))) (k:Nat) (nm:Name),Z0j (Z3r k X) nm=match nm with | .x i=> if k<=i then X[i - k]? else none | .loc _=> none
 | [],k,nm=> by cases nm <;> simp [Z3r,Z0j]
 | cs ::X,k,nm=> by
  simp only [Z3r,Z0j]
  cases nm with
  | loc s=> simp [Z1b X (k+1) (.loc s)]
  | x i=>
   by_cases h:k=i
   .subst h;simp
   .rw [if_neg (fun e=> by grind),Z1b X (k+1) (.x i)]
    grind
theorem Zgc(ok:CfgOk P cfg)(h:Rel cfg B st g a w){rv:ResultVar}{x:Bool × List (C U)}(he:Z5M cfg st rv=some x):
  ∃ v,(match rv with | .tmp t=> pure (a.tmps.getD t undef) | .cell t ty=> do loadVar ty (<-asAddr (a.tmps.getD t undef)):Sem Value).run P w= .ok v w/\RelW cfg g st.dead v x.1 x.2:=by
 cases rv with
 | tmp t=>
  have hr:=h.env t
  simp only [Z5M] at he
  split at he <;> simp only [Option.some.injEq,reduceCtorEq] at he
  .rename_i c hc;rw [hc] at hr;subst he;exact ⟨_,rfl,c,rfl,hr⟩
  .rename_i cs hc;rw [hc] at hr;subst he;exact ⟨_,rfl,hr⟩
 | cell t ty=>
  have hr:=h.env t
  simp only [Z5M] at he
  split at he
  .rename_i ag zs hv
   cases hrd:rd st (st.env t) ag zs.length with
   | none=> grind
   | some y=>
    obtain ⟨v,h1,h2⟩:=Z8i (w:=w) ok h hv hr hrd
    refine ⟨v,?_,?_⟩
    .have hp:∃ b,a.tmps.getD t undef= .pointer (some b):=by
      cases hx:st.env t with
      | ptr nm off=> rw [hx] at hr;exact ⟨_,hr.2⟩
      | ep cs=> rw [hx] at hr;obtain ⟨b,hb,_⟩:=hr;grind
      | ap nm off k len i=> rw [hx] at hr;exact ⟨_,hr.2.2⟩
      | _=> rw [hx] at hrd;simp [rd] at hrd
     obtain ⟨b,hb⟩:=hp
     rw [hb] at h1
     show (do let x <-asAddr (a.tmps.getD t undef);loadVar ty x:Sem Value).run P w=_
     rw [hb]
     trivial
    .rw [hrd] at he
     cases y <;> simp only [Option.some.injEq,reduceCtorEq] at he
     .subst he;exact ⟨_,rfl,h2⟩
     .subst he;exact h2
  .cases he
theorem Z9T(ok:CfgOk P cfg)(h:Rel cfg B st g a w):∀ {rs:List ResultVar} {ws:List (Bool × List (C U))},Z4k cfg st rs=some ws->
  ∃ vs,(rs.mapM fun rv=> (match rv with | .tmp t=> pure (a.tmps.getD t undef) | .cell t ty=> do loadVar ty (<-asAddr (a.tmps.getD t undef)):Sem Value)).run P w= .ok vs w/\RelWs cfg g st.dead vs ws
 | [],ws,he=> by
  simp only [Z4k,Option.some.injEq] at he
  subst he
  exact ⟨[],by simp,rfl,fun j u w hu=> by simp at hu⟩
 | r ::rs,ws,he=> by
  simp only [Z4k] at he
  split at he
  .rename_i x l hx hl
   simp only [Option.some.injEq] at he
   subst he
   obtain ⟨v,h1,h2⟩:=Zgc (w:=w) ok h hx
   obtain ⟨vs,h3,h4⟩:=Z9T ok h hl
   refine ⟨v ::vs,?_,.cons h2 h4⟩
   simp_all
  .cases he
theorem Zgn{g:Gh}{live:Name->Bool}{r:V U}{ws:List (Bool × List (C U))}{vs:List Value}(hp:Z8y r=some ws)(h:RelWs cfg g Zv vs ws):
  RelV cfg g Zv live (if hs:vs.toArray.size=1 then vs.toArray[0] else .tuple vs.toArray) r:=by
 cases r <;> simp only [Z8y,Option.some.injEq,reduceCtorEq] at hp
 case c x=>
  subst hp
  obtain ⟨v,r,rfl,h1,h2⟩:=h.uncons
  have:r=[]:=Q6 (by simpa using h2.1)
  subst this
  obtain ⟨c,hc,hr⟩:=h1
  cases hc
  exact hr
 case agg cs=>
  subst hp
  obtain ⟨v,r,rfl,h1,h2⟩:=h.uncons
  have:r=[]:=Q6 (by simpa using h2.1)
  subst this
  exact h1
 case tup ws'=>
  split at hp
  .cases hp
  .rename_i hl
   simp only [Option.some.injEq] at hp
   subst hp
   have hne:vs.toArray.size≠1:=by have:=h.1;simpa [this] using hl
   rw [dif_neg hne]
   exact ⟨_,rfl,by simpa using h.1,fun j u w hu hw=> h.2 j u w (by simpa using hu) hw⟩
def ZbJ(cfg:Cfg U)(a b:C U):Prop:=∀ g v,RelC cfg g Zv v a->RelC cfg g Zv v b
def Z9l(cfg:Cfg U)(a b:V U):Prop:=∀ g live v,RelV cfg g Zv live v a->RelV cfg g Zv live v b
structure BetterAll (cfg:Cfg U) (args args':List (V U)) (X X':List (List (C U))):Prop where
 len:args.length=args'.length
 args:∀ (j:Nat) x y,args[j]?=some x->args'[j]?=some y->Z9l cfg x y
 xlen:X.length=X'.length
 xl:∀ (k:Nat) x y,X[k]?=some x->X'[k]?=some y->x.length=y.length
 x:∀ (k:Nat) x y,X[k]?=some x->X'[k]?=some y->∀ (j:Nat) c c',x[j]?=some c->y[j]?=some c'->ZbJ cfg c c'
theorem Entry.better{w:World}{g:Gh}{vs:List Value}{args args':List (V U)}{X X':List (List (C U))}{L L':List (Tok × LC U)}(h:Entry cfg w g vs args X L)(b:BetterAll cfg args args' X X')(hL:∀ t x,Z7 (fun _=> none) L' t=some x->Z7 (fun _=> none) L t=some x)(hLA:Z7 (fun _=> none) L' .A=none->Z7 (fun _=> none) L .A=none):Entry cfg w g vs args' X' L':=by
 refine ⟨h.inv,h.tags,h.len.trans b.len,fun j v y hv hy=> ?_,fun k cs hk j c hj=> ?_,h.bs,fun t x hx=> h.ls t x (hL t x hx),fun hn=> h.nb (hLA hn)⟩
 .have hj:j < args.length:=by have:=(Q1.1 hy).1;have:=b.len;omega
  have hx:=Q0 hj
  have:=b.args j _ y hx hy g _ v (h.args j v _ hv hx)
  have hl:Z5j X'=Z5j X:=by
   funext nm
   cases nm with
   | loc s=> rfl
   | x k=>
    have hlen:=b.xlen
    show (X'[k]?).isSome=(X[k]?).isSome
    grind
  grind
 .have hkx:k < X.length:=by have:=(Q1.1 hk).1;have:=b.xlen;omega
  have hx:=Q0 hkx
  have hjl:j < (X[k]).length:=by have:=(Q1.1 hj).1;have:=b.xl k _ _ hx hk;omega
  have hc:=Q0 hjl
  obtain ⟨v,h1,h2,h3⟩:=h.x k _ hx j _ hc
  exact ⟨v,h1,h2,b.x k _ _ hx hk j _ c hc hj g v h3⟩
theorem BetterAll.refl(args:List (V U))(X:List (List (C U))):BetterAll cfg args args X X:=
 ⟨rfl,fun j x y hx hy=> by rw [hx] at hy;cases hy;exact fun _ _ _ h=> h,rfl,fun k x y hx hy=> by grind,
  fun k x y hx hy j c c' hc hc'=> by rw [hx] at hy;cases hy;rw [hc] at hc';cases hc';exact fun _ _ h=> h⟩
theorem Z9b {Γ:Known U} {draws:Array Oper->FSt U->Bool} (ok:CfgOk P cfg) (hΓ:∀ f s,Γ f=some s->Contract P cfg f s) (hdr:Z3X P cfg Γ draws) {f:FuncId} {fn:Func} {c:Code} (lv:Z8 U)
  (hf:P.funcs[f]?=some fn) (hb:fn.body=some c) {args:List (V U)} {X:List (List (C U))} {L:List (Tok × LC U)} {w:World} {g:Gh} {vs:List Value} (E:Entry cfg w g vs args X L) (hna:Γ.na=true->g.bs .A=none) (hn:args.length<=fn.ntmps) {Q:AExit->LSt U->Prop}
  (hawp:awp cfg Γ draws fn.ntmps lv c (Yu args X L) Q) {R:Ending->World->Prop}
  (hq:∀ e' s' g' a' w',Q e' s'->Rel cfg ⟨w,g.m,g.tag,fun k=> g.ad (.x k),g.bs .A⟩ (s'.toF fn.ntmps) g' a' w'->(∀ id,e'≠.exit id)/\a'.defers=[]/\∃ v,(results fn a'.tmps).run P w'= .ok v w'/\R (.returned v) w'):Calls P f vs.toArray w R:=by
 let B:Base:=⟨w,g.m,g.tag,fun k=> g.ad (.x k),g.bs .A⟩
 have hvs:vs.length<=fn.ntmps:=by rw [E.len];exact hn
 have hrel:Rel cfg B ((Yu args X L).toF fn.ntmps) g { tmps:=vs.toArray++Array.replicate (fn.ntmps - vs.toArray.size) undef,defers:=[] } w:=by
  refine ⟨E.inv,⟨⟨rfl,rfl,rfl,Qn _⟩,fun _=> rfl,fun _ _ h=> h,fun c t h=> ⟨h,rfl⟩,fun c t h=> h,fun b _ _=> ⟨rfl,fun _ _=> rfl⟩,fun _ _=> rfl,fun _ h=> h⟩,?_,?_,?_,rfl,fun t x hx=> ⟨rfl,E.ls t x hx⟩,fun t ht hls _=> ?_⟩
  rotate_right
  .cases hA:t.isA with
   | false=> rw [hA] at ht;exact E.bs t (by simpa using ht)
   | true=>
    have hr:t.root= .A:=by cases t <;> first | rfl | cases hA
    rw [hr] at hls
    exact E.nb hls t hA
  .intro k
   have hl:(fun nm:Name=> (((Yu args X L).toF fn.ntmps).mem nm).isSome)=Z5j X:=by
    funext nm
    simp only [LSt.toF,Yu,Z1b]
    cases nm <;> simp [Z5j]
   rw [hl]
   simp only [LSt.toF,Yu,Z8O,XI,if_true,Nat.sub_zero]
   cases hx:args[k]? with
   | none=> exact trivial
   | some x=>
    have hk:k < vs.length:=by rw [E.len];exact (Q1.1 hx).1
    have hv:vs[k]?=some vs[k]:=Q0 hk
    have:=E.args k _ x hv hx
    have hg:(vs.toArray++Array.replicate (fn.ntmps - vs.toArray.size) undef).getD k undef=vs[k]:=by
     simp [Array.getD,hk]
     intro h;omega
    grind
  .intro nm cs hm j c hc
   simp only [LSt.toF,Yu,Z1b] at hm
   cases nm with
   | loc s=> simp at hm
   | x k=>
    simp at hm
    exact E.x k cs hm j c hc
  .simp only [LSt.toF]
   grind
 have hwp:=ZgZ (B:=B) ok hΓ hna hdr (n:=fn.ntmps) (lv:=lv) c _ _ g _ w hawp hrel
 refine calls_of_wp (R:=R) (args:=vs.toArray) hf hb (wp_mono hwp ?_)
 rintro e a' w' ⟨e',s',g',rfl,hQ,hr⟩
 obtain ⟨h0,h1,h2⟩:=hq e' s' g' a' w' hQ hr
 cases e' with
 | normal=> trivial
 | ret=> trivial
 | exit id=> grind
theorem Z5v {Γ:Known U} {draws:Array Oper->FSt U->Bool} (ok:CfgOk P cfg) (hΓ:∀ f s,Γ f=some s->Contract P cfg f s) (hdr:Z3X P cfg Γ draws) {f:FuncId} {fn:Func} {c:Code} {s:Fs U} (lv:Z8 U)
  (hf : P.funcs[f]? = some fn) (hb : fn.body = some c) (hname : (fn.name == "runtime.NumGoroutine") = false)
  (hbody:∀ args X L ps r X' L',s.fn2 args X L=some (ps,r,X',L')->All ps->(Γ.na=true->Z7 (fun _=> none) L .A=none)/\∃ args' X0 L0,BetterAll cfg args args' X X0/\((∀ t x,Z7 (fun _=> none) L0 t=some x->Z7 (fun _=> none) L t=some x)/\(Z7 (fun _=> none) L0 .A=none->Z7 (fun _=> none) L .A=none))/\args'.length<=fn.ntmps/\awp cfg Γ draws fn.ntmps lv c (Yu args' X0 L0) (YQ cfg fn.ntmps fn.results.toList r X' L')):Contract P cfg f s:=by
 refine ⟨⟨fn,hf,by simp [hb],hname⟩,?_⟩
 intro args1 X1 L1 ps r X' L' hs hps hX w g vs E1
 obtain ⟨hna,args,X,L,hbetter,⟨hL,hLA⟩,hn,hawp⟩:=hbody args1 X1 L1 ps r X' L' hs hps
 have E:=E1.better hbetter hL hLA
 refine Z9b ok hΓ hdr lv hf hb E (fun h=> E1.nb (hna h) .A rfl) hn hawp ?_
 .intro e' s' g' a' w' hQ hr
  have hE:ZaA cfg fn.ntmps fn.results.toList r X' L' s':=by cases e' <;> first | exact hQ | exact hQ.elim
  refine ⟨fun id e=> by subst e;exact hQ,?_⟩
  refine ⟨hr.df,?_⟩
  unfold ZaA at hE
  split at hE
  case h_2=> exact hE.elim
  rename_i ws ws' hres hparts
  obtain ⟨hle,hx⟩:=hE
  obtain ⟨us,h1,h2⟩:=Z9T (w:=w') ok hr hres
  have hd:∀ t,Z08 t=true->(s'.toF fn.ntmps).dead t=false:=fun t _=> rfl
  obtain ⟨h3,h4⟩:=Z9S (cfg:=cfg) (g:=g') (st:=s'.toF fn.ntmps) hd ws 0 (Z8a L')
  obtain ⟨sx,h5,hsx,hLE,h6⟩:=ZfU hr rfl (mem:=s'.mem) (fun _=> rfl) X' 0 _ (Z6v ws 0 _ (Zd9 L')) hx
  let keep:Name->Bool:=fun nm=> match nm with | .x k=> decide (k < X'.length) | .loc _=> false
  have htag0:∀ c,g'.tag c=none->(g'.ended sx keep).tag c=none:=fun c hc=> by simp only [Gh.ended,Gh.anew,hc]
  have htago:∀ c t,g'.tag c=some (.outer t)↔(g'.ended sx keep).tag c=some (.outer t):=by
   intro c t
   simp only [Gh.ended,Gh.anew]
   cases hg:g'.tag c with
   | none=> simp
   | some t0=>
    cases t0 with
    | obj nm=> cases hk:keep nm <;> simp [hk]
    | tok u=> cases hk:Yj sx u <;> simp [hk]
    | outer t0=> simp
  have hW:=h4 sx h5 _ (Gh.ended_ren keep hsx).toRen us h2
  have hval:=Zgn (live:=fun _=> false) hparts (ZiO hle hW)
  refine ⟨_,?_,_,g'.ended sx keep,rfl,⟨fun c v hv=> ?_,fun c t ht=> ?_⟩,?_,?_,?_,hval,?_,ZcW hr (fun _=> rfl) hsx hLE⟩
  .simp only [results,Sem.run_bind]
   have e1:fn.results=fn.results.toList.toArray:=by simp
   rw [e1,List.mapM_toArray]
   simp only [Sem.run_map,Sem.run_pure]
   exact congrArg (fun r:Result (List Value)=> (r.andThen fun a w'=> Result.ok a.toArray w').andThen fun a w'=> Result.ok (if h:a.size=1 then a[0] else Value.tuple a) w') h1
  .obtain ⟨h7,h8⟩:=hr.inv.im c v hv
   exact ⟨h7,htag0 c h8⟩
  .cases hg:g'.tag c with
   | none=> rw [htag0 c hg] at ht;cases ht
   | some t0=> exact hr.inv.it c t0 hg
  .have F:Fr ⟨w,g.m,g.tag,fun k=> g.ad (.x k),g.bs .A⟩ (g'.ended sx keep) w':=by
    refine hr.fr.step hr.inv (Evo.refl w' (fun _=> False)) (fun c hc=> hc.elim) (fun _ _ hv=> hv) (fun c t=> htago c t) ?_ (fun _=> rfl) (fun v _ hv=> by rw [Gh.ended_A keep hsx];exact hv)
    intro b _ hall o sp
    cases hg:g'.tag ⟨b,o,sp⟩ with
    | none=> exact htag0 _ hg
    | some t=>
     obtain ⟨t',rfl⟩:=hall o sp t hg
     exact (htago _ _).1 hg
   exact ⟨F.stay,fun _=> rfl,F.mono,F.outer,F.outer',F.clean,F.frz,F.ab⟩
  .intro c t ht
   simp only [Gh.ended,Gh.anew] at ht
   split at ht
   .rename_i u hu
    cases hn:Yj sx u with
    | none=> simp [hn] at ht
    | some u'=> simp [hn] at ht;exact .inr (.inr ⟨u',ht.symm⟩)
   .rename_i nm hnm
    cases hk:keep nm with
    | false=> simp [hk] at ht
    | true=>
     simp [hk] at ht
     subst ht
     cases nm with
     | loc s=> simp [keep] at hk
     | x k=> exact .inr (.inl ⟨k,by simpa [keep] using hk,rfl⟩)
   .cases ht;exact .inl ⟨_,rfl⟩
   .cases ht
  .exact fun k _=> hr.fr.xad k
  .intro k cs hk j c hc
   obtain ⟨v,h7,h8,h9⟩:=h6 sx (.refl _) _ (Gh.ended_ren keep hsx) k cs hk j c hc
   rw [Qq] at h7 h8
   refine ⟨v,h7,?_,h9⟩
   have hlt:k < X'.length:=(Q1.1 hk).1
   show (g'.ended sx keep).tag ((g'.ad (.x k)).add j)=_
   simp only [Gh.ended,Gh.anew,h8,keep,hlt,decide_true,cond_true]
theorem Z74 {Γ:Known U} {draws:Array Oper->FSt U->Bool} (ok:CfgOk P cfg) (hΓ:∀ f s,Γ f=some s->Contract P cfg f s) (hdr:Z3X P cfg Γ draws) {f:FuncId} {fn:Func} {c:Code} {s:Fs U} (lv:Z8 U)
  (hf : P.funcs[f]? = some fn) (hb : fn.body = some c) (hname : (fn.name == "runtime.NumGoroutine") = false)
  (hbody:∀ args X ps r X',s.fn args X=some (ps,r,X')->All ps->∃ args' X0,BetterAll cfg args args' X X0/\args'.length<=fn.ntmps/\awp cfg Γ draws fn.ntmps lv c (Zi args' X0) (Yg cfg fn.ntmps fn.results.toList r X')) (hd:s.fn2=Z73 s.fn:=by rfl):Contract P cfg f s:=by
 refine Z5v ok hΓ hdr lv hf hb hname ?_
 intro args X L ps r X' L' hs hps
 rw [hd] at hs
 unfold Z73 at hs
 split at hs
 .split at hs
  .rename_i h1
   cases hs
   obtain ⟨args',X0,h2,h3,h4⟩:=hbody args X _ _ _ h1 hps
   exact ⟨fun _=> rfl,args',X0,[],h2,⟨fun t x hx=> hx,fun _=> rfl⟩,h3,h4⟩
  .cases hs
 .cases hs
def XsN(cfg:Cfg U)(mem:List (Name × List (C U))):Nat->List (List (C U))->Prop
 | _,[]=> True
 | k,c ::r=> (match Z0j mem (.x k) with
  | some c0=> leL cfg c0 c
  | none=> False)/\c.all C.plain=true/\XsN cfg mem (k+1) r
theorem Zek{mem:List (Name × List (C U))}:∀ {X:List (List (C U))} {k0:Nat},XsN cfg mem k0 X->∀ (k:Nat) c,X[k]?=some c->(∃ c0,Z0j mem (.x (k0+k))=some c0/\leL cfg c0 c)/\c.all C.plain=true
 | [],_,_,k,c,hk=> by simp at hk
 | c1 ::r,k0,h,0,c,hk=> by
  simp at hk
  subst hk
  refine ⟨?_,h.2.1⟩
  have h1:=h.1
  split at h1
  .exact ⟨_,‹_›,h1⟩
  .exact h1.elim
 | c1 ::r,k0,h,k+1,c,hk=> by
  have:=Zek h.2.2 k c (by simpa using hk)
  rwa [show k0+1+k=k0+(k+1) by omega] at this
def ZkB(cfg:Cfg U)(n:Nat)(rs:List ResultVar)(X:List (List (C U)))(cs:List (C U))(s:LSt U):Prop:=
 match rs with
 | [.tmp t]=> match (s.toF n).env t with
  | .ptr (.loc d) 0=> match Z0j s.mem (.loc d) with
   | some cs0=> leL cfg cs0 cs/\cs.all C.plain=true/\XsN cfg s.mem 0 X
   | none=> False
  | _=> False
 | _=> False
def ZbI(cfg:Cfg U)(n:Nat)(rs:List ResultVar)(X:List (List (C U)))(cs:List (C U))(e:AExit)(s:LSt U):Prop:=
 match e with
 | .exit _=> False
 | _=> ZkB cfg n rs X cs s
theorem Zbj {Γ:Known U} {draws:Array Oper->FSt U->Bool} (ok:CfgOk P cfg) (hΓ:∀ f s,Γ f=some s->Contract P cfg f s) (hdr:Z3X P cfg Γ draws) {f:FuncId} {fn:Func} {c:Code} {s:Fs U} (lv:Z8 U)
  (hf : P.funcs[f]? = some fn) (hb : fn.body = some c) (hname : (fn.name == "runtime.NumGoroutine") = false)
  (hbody:∀ args X ps r X',s.fn args X=some (ps,r,X')->All ps->∃ args' X0 X1 cs,r= .ptr (.x X1.length) 0/\X'=X1++[cs]/\BetterAll cfg args args' X X0/\args'.length<=fn.ntmps/\awp cfg Γ draws fn.ntmps lv c (Zi args' X0) (ZbI cfg fn.ntmps fn.results.toList X1 cs)) (hd:s.fn2=Z73 s.fn:=by rfl):Contract P cfg f s:=by
 refine JI ⟨fn,hf,by simp [hb],hname⟩ hd ?_
 intro args1 X2 ps r X' hs hps _ w g vs E1
 obtain ⟨args,X0,X1,cs,rfl,rfl,hbetter,hn,hawp⟩:=hbody args1 X2 ps r X' hs hps
 have E:=E1.better (L':=[]) hbetter (fun t x hx=> hx) (fun _=> rfl)
 refine Z9b ok hΓ hdr lv hf hb E (fun _=> E1.nb rfl .A rfl) hn hawp ?_
 intro e' s' g' a' w' hQ hr
 have hE:ZkB cfg fn.ntmps fn.results.toList X1 cs s':=by cases e' <;> first | exact hQ | exact hQ.elim
 refine ⟨fun id e=> by subst e;exact hQ,hr.df,?_⟩
 unfold ZkB at hE
 split at hE
 case h_2=> exact hE.elim
 rename_i t hrs
 split at hE
 case h_2=> exact hE.elim
 rename_i d ht
 split at hE
 case h_2=> exact hE.elim
 rename_i cs0 hcs
 obtain ⟨hle,hpl,hXs⟩:=hE
 have hv:=hr.env t
 rw [ht] at hv
 have hv:a'.tmps.getD t undef= .pointer (some ((g'.ad (.loc d)).add 0)):=hv.2
 let re:Name->Option Nat:=fun nm=> if nm= .loc d then some X1.length else match nm with
  | .x k=> if k < X1.length then some k else none
  | .loc _=> none
 let g1:Gh:={ m:=g'.m,tag:=fun c=> (match g'.tag c with | some (.outer t)=> some (.outer t) | some (.obj nm)=> (re nm).map fun k=> .obj (.x k) | _=> none),ad:=fun nm=> if nm= .x X1.length then g'.ad (.loc d) else g'.ad nm,bs:=g'.bs }
 have hto:∀ c t,g1.tag c=some (.outer t)↔g'.tag c=some (.outer t):=by
  intro c t
  simp only [g1]
  cases hg:g'.tag c with
  | none=> simp
  | some t0=>
   cases t0 with
   | obj nm=> cases re nm <;> simp
   | tok u=> simp
   | outer t0=> simp
 have htn:∀ c,g'.tag c=none->g1.tag c=none:=fun c hc=> by simp only [g1,hc]
 have hrl:∀ nm k,re nm=some k->k < X1.length+1:=by
  intro nm k hk
  simp only [re] at hk
  split at hk
  .cases hk;omega
  .split at hk
   .split at hk
    .cases hk;omega
    .cases hk
   .cases hk
 have hone:∀ nm k c0 c,Z0j s'.mem nm=some c0->re nm=some k->g1.ad (.x k)=g'.ad nm->leL cfg c0 c->c.all C.plain=true->∀ (j:Nat) cc,c[j]?=some cc->∃ v,w'.cell? ((g1.ad (.x k)).add j)=some v/\g1.tag ((g1.ad (.x k)).add j)=some (.obj (.x k))/\RelC cfg g1 Zv v cc:=by
  intro nm k c0 c hl hk had hle hpl j cc hj
  rw [Qg] at hpl
  let fz:Nat->Value:=fun j=> (w'.cell? ((g'.ad nm).add j)).getD undef
  have hf:∀ j c,c0[j]?=some c->w'.cell? ((g'.ad nm).add j)=some (fz j)/\g'.tag ((g'.ad nm).add j)=some (.obj nm)/\RelC cfg g' Zv (fz j) c:=fun j c hc=> by
   obtain ⟨v,h8,h9,h10⟩:=hr.mem _ _ hl j c hc
   simp only [fz,h8]
   exact ⟨rfl,h9,h10⟩
  have hR:=Zbg hle (RelL.of_get (cfg:=cfg) (g:=g') (st:=s'.toF fn.ntmps) (f:=fz) (fun j c hc=> (hf j c hc).2.2))
  have hjl:j < c0.length:=by have h12:=(Q1.1 hj).1;have:=hR.1;simp at this;omega
  obtain ⟨h13,h14,_⟩:=hf j _ (Q0 hjl)
  rw [had]
  exact ⟨fz j,h13,by simp only [g1,h14,hk,Q5],RelC.plain (g1:=g') (g2:=g1) rfl (hpl cc (QC hj)) (hR.2 j _ cc (by simp [hjl]) hj)⟩
 have hadn:g1.ad (.x X1.length)=g'.ad (.loc d):=by simp only [g1,if_true]
 have hadx:∀ k,k≠X1.length->g1.ad (.x k)=g'.ad (.x k):=fun k hk=> by
  simp only [g1]
  rw [if_neg (by simpa using hk)]
 refine ⟨a'.tmps.getD t undef,?_,_,g1,rfl,⟨fun c v hv=> ?_,fun c t ht=> ?_⟩,?_,?_,?_,⟨rfl,by rw [hv,hadn]⟩,?_,fun t x hx=> by cases hx⟩
 .simp only [results,Sem.run_bind]
  have e1:fn.results=#[.tmp t]:=by apply QQ;simpa using hrs
  rw [e1]
  simp
 .obtain ⟨h7,h8⟩:=hr.inv.im c v hv
  exact ⟨h7,htn c h8⟩
 .cases hg:g'.tag c with
  | none=> rw [htn c hg] at ht;cases ht
  | some t0=> exact hr.inv.it c t0 hg
 .refine ⟨hr.fr.stay,fun _=> rfl,hr.fr.mono,fun c t h=> ?_,fun c t h=> hr.fr.outer' c t ((hto c t).1 h),fun b hb hcl=> ?_,hr.fr.frz,hr.fr.ab⟩
  .obtain ⟨h1,h2⟩:=hr.fr.outer c t h
   exact ⟨(hto c t).2 h1,h2⟩
  .obtain ⟨h1,h2⟩:=hr.fr.clean b hb hcl
   refine ⟨h1,fun o sp=> ?_⟩
   rw [<-h2 o sp]
   cases hg:g'.tag ⟨b,o,sp⟩ with
   | none=> exact htn _ hg
   | some t=>
    obtain ⟨t',rfl⟩:=hcl o sp t (by rw [<-h2 o sp];exact hg)
    exact (hto _ _).2 hg
 .intro c t ht
  simp only [g1] at ht
  split at ht
  .cases ht;exact .inl ⟨_,rfl⟩
  .rename_i nm _
   cases hk:re nm with
   | none=> simp [hk] at ht
   | some k=>
    simp [hk] at ht
    subst ht
    exact .inr (.inl ⟨k,by simpa using hrl nm k hk,rfl⟩)
  .cases ht
 .intro k hk
  have:k≠X1.length:=fun e=> hk (by rw [e])
  exact (hadx k this).trans (hr.fr.xad k)
 .intro k cs' hk j c hj
  have hlt:k < X1.length+1:=by have:=(Q1.1 hk).1;simpa using this
  rcases Xz k X1.length with hk1 | hk1
  .rw [Qf hk1] at hk
   obtain ⟨⟨c0,h1,h2⟩,h3⟩:=Zek hXs k cs' hk
   rw [Qq] at h1
   exact hone (.x k) k c0 cs' h1 (by simp only [re];rw [if_neg (by simp),if_pos hk1]) (hadx k (by omega)) h2 h3 j c hj
  .have:k=X1.length:=by omega
   subst this
   simp at hk
   subst hk
   exact hone (.loc d) _ cs0 cs hcs (by simp only [re,if_true]) hadn hle hpl j c hj
end Go.AM
