import Derived.Test.YtfapacabjkhepaaGreatWmK
set_option linter.unusedSimpArgs false
set_option linter.unusedVariables false
namespace Go.AM
variable {U:Uni} {P:Program} {cfg:Cfg U} {B:Base} {st:FSt U} {g:Gh} {a:Act} {w:World}
def Z6M:Nat->List (V U)->List (Nat × V U)
 | _,[]=> []
 | i,v ::r=> (i,v) ::Z6M (i+1) r
def Z6L:Nat->List (List (C U))->List (Name × List (C U))
 | _,[]=> []
 | k,cs ::r=> (.x k,cs) ::Z6L (k+1) r
def Z1d(args:List (V U))(X:List (List (C U)))(L:List (Tok × LC U)):LSt U:={ env:=Z6M 0 args,mem:=Z6L 0 X,ls:=L }
def Zg(args:List (V U))(X:List (List (C U))):LSt U:=Z1d args X []
def Z1L:Tok->Bool:=fun _=> true
def ZbG(cfg:Cfg U)(st:FSt U):ResultVar->Option (Bool × List (C U))
 | .tmp t=> match st.env t with
  | .c x=> some (false,[x])
  | .agg cs=> some (true,cs)
  | _=> none
 | .cell t ty=> match cfg.var ty with
  | some (ag,zs)=> match rd st (st.env t) ag zs.length with
   | some (.c x)=> some (false,[x])
   | some (.agg cs)=> some (true,cs)
   | _=> none
  | none=> none
def Z8L(cfg:Cfg U)(st:FSt U):List ResultVar->Option (List (Bool × List (C U)))
 | []=> some []
 | r ::rs=> match ZbG cfg st r,Z8L cfg st rs with
  | some x,some l=> some (x ::l)
  | _,_=> none
def Z5k(i:Nat):List (Bool × List (C U))->List (Tok × Tok)->List (Bool × List (C U)) × List (Tok × Tok)
 | [],seen=> ([],seen)
 | (ag,cs) ::r,seen=> ((ag,(J6 Z1L (fun j=> .r 0 (16*i+j)) 0 cs seen).1) ::(Z5k (i+1) r (J6 Z1L (fun j=> .r 0 (16*i+j)) 0 cs seen).2).1,
   (Z5k (i+1) r (J6 Z1L (fun j=> .r 0 (16*i+j)) 0 cs seen).2).2)
def ZtA:Tail->Tail->Prop
 | _,.unk=> True
 | .full,_=> True
 | .own t,.own t'=> t=t'
 | _,_=> False
def leC(cfg:Cfg U):C U->C U->Prop
 | .int k n,.int k' n'=> k=k'/\n=n'
 | .bool b,.bool b'=> b=b'
 | .nils,.nils=> True
 | .nils,.slice _ l _=> l=[]
 | .nilp,.nilp=> True
 | .nilp,.po _ o=> o=none
 | .po T o,.po T' o'=> match cfg.tyEq T T' with
  | isTrue h=> h▸o=o'
  | isFalse _=> False
 | .slice T l tl,.slice T' l' tl'=> match cfg.tyEq T T' with
  | isTrue h=> h▸l=l'/\ZtA tl tl'
  | isFalse _=> False
 | .mref t,.mref t'=> t=t'
 | .xp k,.xp k'=> k=k'
 | _,_=> False
def leL(cfg:Cfg U):List (C U)->List (C U)->Prop
 | [],[]=> True
 | c ::r,c' ::r'=> leC cfg c c'/\leL cfg r r'
 | _,_=> False
def leR(cfg:Cfg U):List (Bool × List (C U))->List (Bool × List (C U))->Prop
 | [],[]=> True
 | (b,cs) ::r,(b',cs') ::r'=> b=b'/\leL cfg cs cs'/\leR cfg r r'
 | _,_=> False
def ZfF:V U->Option (List (Bool × List (C U)))
 | .c x=> some [(false,[x])]
 | .agg cs=> some [(true,cs)]
 | .tup ws=> if ws.length=1 then none else some ws
 | _=> none
def ZHQ(cfg:Cfg U)(x y:LC U):Prop:=
 match cfg.tyEq x.T y.T with
 | isTrue h=> h▸x.l=y.l/\x.f=y.f
 | isFalse _=> False
def Zi9(cfg:Cfg U)(ls:List (Tok × LC U))(seen:List (Tok × Tok)):List (Tok × LC U)->Prop
 | []=> True
 | (t,y) ::r=> (match Z18 seen t with
  | some u=> YT seen u=some t/\match ZC (fun _=> none) ls u with
   | some x=> ZHQ cfg x y
   | none=> False
  | none=> False)/\Zi9 cfg ls seen r
def Zsz(cfg:Cfg U)(mem:List (Name × List (C U)))(ls:List (Tok × LC U))(L:List (Tok × LC U)):(k:Nat)->List (List (C U))->List (Tok × Tok)->Prop
 | _,[],seen=> Zi9 cfg ls seen L
 | k,cs' ::r,seen=> match Z4D mem (.x k) with
  | some cs=> leL cfg (Z1o Z1L (.x k) 0 [] cs seen).1 cs'/\Zsz cfg mem ls L (k+1) r (Z1o Z1L (.x k) 0 [] cs seen).2
  | none=> False
def Zia(cfg:Cfg U)(n:Nat)(rs:List ResultVar)(r:V U)(X:List (List (C U)))(L:List (Tok × LC U))(s:LSt U):Prop:=
 match Z8L cfg (s.toF n) rs,ZfF r with
 | some ws,some ws'=> leR cfg (Z5k 0 ws []).1 ws'/\Zsz cfg s.mem s.ls L 0 X (Z5k 0 ws []).2
 | _,_=> False
def ZFs(cfg:Cfg U)(n:Nat)(rs:List ResultVar)(r:V U)(X:List (List (C U)))(s:LSt U):Prop:=Zia cfg n rs r X [] s
def Z4a(cfg:Cfg U)(n:Nat)(rs:List ResultVar)(r:V U)(X:List (List (C U)))(L:List (Tok × LC U))(e:AExit)(s:LSt U):Prop:=
 match e with
 | .exit _=> False
 | _=> Zia cfg n rs r X L s
def Y2(cfg:Cfg U)(n:Nat)(rs:List ResultVar)(r:V U)(X:List (List (C U)))(e:AExit)(s:LSt U):Prop:=
 match e with
 | .exit _=> False
 | _=> ZFs cfg n rs r X s
theorem Zm7{ls:List (Tok × LC U)}{seen:List (Tok × Tok)}{g2:Gh}(h:Rel cfg B st g a w)(hls:∀ t,st.ls t=ZC (fun _=> none) ls t)(hr:Ren (fun _=> true) g seen g2):∀ {L:List (Tok × LC U)},Zi9 cfg ls seen L->
  ∀ t x,ZC (fun _=> none) L t=some x->LRel cfg w g2 t x
 | [],_,t,x,hx=> by trivial
 | (t0,y) ::L,hE,t,x,hx=> by
  obtain ⟨h1,h2⟩:=hE
  simp only [ZC] at hx
  split at hx
  .rename_i e
   subst e
   cases hx
   split at h1
   case h_2=> exact h1.elim
   rename_i u hu
   obtain ⟨h3,h4⟩:=h1
   split at h4
   case h_2=> exact h4.elim
   rename_i x hxu
   unfold ZHQ at h4
   split at h4
   case h_2=> exact h4.elim
   rename_i hT _
   obtain ⟨T,l,f⟩:=x
   obtain ⟨T',l',f'⟩:=y
   simp only at hT
   subst hT
   obtain ⟨h5,h6⟩:=h4
   simp only at h5 h6
   subst h5 h6
   obtain ⟨_,hL⟩:=h.ls u _ ((hls u).trans hxu)
   have htg:∀ c,g.tag c=some (.tok u)->g2.tag c=some (.tok t):=fun c hc=> hr.tok c u t hc h3
   rcases hL with ⟨e1,e2⟩ | ⟨b,len,cap,e1,e2,e3,e4,e5,e6⟩
   .exact .inl ⟨hr.bs _ _ _ rfl hu e1,e2⟩
   .refine .inr ⟨b,len,cap,hr.bs _ _ _ rfl hu e1,e2,e3,e4,fun i y hy j c hc=> ?_,fun j a1 a2=> htg _ (e6 j a1 a2)⟩
    obtain ⟨v,e7,e8,e9,e10⟩:=e5 i y hy j c hc
    exact ⟨v,e7,by rw [hr.m];exact e8,fun hi=> by rw [hr.m];exact e9 hi,fun hi=> htg _ (e10 hi)⟩
  .exact Zm7 h hls hr h2 t x hx
theorem ZvN{g:Gh}{v:Value}{c c':C U}(h:leC cfg c c')(hr:RelC cfg g ZW v c):RelC cfg g ZW v c':=by
 cases c <;> cases c' <;> simp only [leC] at h
 case int.int k n k' n'=> obtain ⟨rfl,rfl⟩:=h;exact hr
 case bool.bool=> subst h;exact hr
 case nils.nils=> exact hr
 case nilp.nilp=> exact hr
 case nilp.po T o=>
  subst h
  have h1:=hr.1
  cases h1
  exact ⟨.pnil T,trivial⟩
 case po.po T o T' o'=>
  split at h
  .rename_i hT _
   subst hT
   simp only at h
   subst h
   exact hr
  .exact h.elim
 case mref.mref t t'=> subst h;exact hr
 case xp.xp k k'=> subst h;exact hr
 case nils.slice T l tl=>
  subst h
  have h1:=hr.1
  cases h1
  refine ⟨.snil T tl,?_⟩
  cases tl with
  | unk=> trivial
  | full=> intro a len cap hv;simp at hv;omega
  | own t=> intro _ a len cap hv;simp at hv
 case slice.slice T l tl T' l' tl'=>
  split at h
  .rename_i hT _
   subst hT
   obtain ⟨h1,h2⟩:=h
   simp only at h1
   subst h1
   refine ⟨hr.1.tl _,?_⟩
   cases tl' with
   | unk=> trivial
   | full=> cases tl <;> simp only [ZtA] at h2;exact hr.2
   | own t'=>
    cases tl with
    | unk=> exact h2.elim
    | full=>
     intro _ b len cap hv j h3 h4
     have:=hr.2 _ _ _ hv
     subst this
     omega
    | own t=> have:t=t':=h2;subst this;exact hr.2
  .exact h.elim
theorem Zng{g:Gh}:∀ {vs:List Value} {cs cs':List (C U)},leL cfg cs cs'->RelL cfg g ZW vs cs->RelL cfg g ZW vs cs'
 | vs,[],[],_,hr=> hr
 | vs,c ::cs,c' ::cs',h,hr=> by
  obtain ⟨h1,h2⟩:=h
  match vs,hr with
  | v ::vs,hr=>
   have h3:=Zng (vs:=vs) h2 ⟨by simpa using hr.1,fun j v' c hv hc=> hr.2 (j+1) v' c (by simpa using hv) (by simpa using hc)⟩
   refine ⟨by simp [h3.1],fun j v' d hv hd=> ?_⟩
   cases j with
   | zero=> simp at hv hd;subst hv hd;exact ZvN h1 (hr.2 0 _ _ rfl rfl)
   | succ j=> exact h3.2 j v' d (by simpa using hv) (by simpa using hd)
  | [],hr=> have:=hr.1;simp at this
theorem ZE9{g:Gh}{v:Value}{ag:Bool}{cs cs':List (C U)}(h:leL cfg cs cs')(hr:RelW cfg g ZW v ag cs):RelW cfg g ZW v ag cs':=by
 cases ag with
 | true=> obtain ⟨vs,h1,h2⟩:=hr;exact ⟨vs,h1,Zng h h2⟩
 | false=>
  obtain ⟨c,rfl,h2⟩:=hr
  match cs',h with
  | [c'],h=> exact ⟨c',rfl,ZvN h.1 h2⟩
def RelWs(cfg:Cfg U)(g:Gh)(dead:Tok->Bool)(vs:List Value)(ws:List (Bool × List (C U))):Prop:=
 vs.length=ws.length/\∀ (j:Nat) u w,vs[j]?=some u->ws[j]?=some w->RelW cfg g dead u w.1 w.2
theorem RelWs.cons{g:Gh}{dead:Tok->Bool}{v:Value}{w:Bool × List (C U)}{vs:List Value}{ws:List (Bool × List (C U))}(h:RelW cfg g dead v w.1 w.2)(hs:RelWs cfg g dead vs ws):RelWs cfg g dead (v ::vs) (w ::ws):=by
 refine ⟨by simp [hs.1],fun j u x hu hx=> ?_⟩
 cases j with
 | zero=> grind
 | succ j=> exact hs.2 j u x (by simpa using hu) (by simpa using hx)
theorem RelWs.uncons{g:Gh}{dead:Tok->Bool}{vs:List Value}{w:Bool × List (C U)}{ws:List (Bool × List (C U))}(h:RelWs cfg g dead vs (w ::ws)):∃ v r,vs=v ::r/\RelW cfg g dead v w.1 w.2/\RelWs cfg g dead r ws:=by
 match vs,h with
 | v ::r,h=> exact ⟨v,r,rfl,h.2 0 _ _ rfl rfl,by simpa using h.1,fun j u x hu hx=> h.2 (j+1) u x (by simpa using hu) (by simpa using hx)⟩
 | [],h=> have:=h.1;simp at this
theorem ZvM{g:Gh}:∀ {vs:List Value} {ws ws':List (Bool × List (C U))},leR cfg ws ws'->RelWs cfg g ZW vs ws->RelWs cfg g ZW vs ws'
 | vs,[],[],_,hr=> hr
 | vs,(b,cs) ::ws,(b',cs') ::ws',h,hr=> by
  obtain ⟨rfl,h1,h2⟩:=h
  obtain ⟨v,r,rfl,h3,h4⟩:=hr.uncons
  exact .cons (ZE9 h1 h3) (ZvM h2 h4)
theorem Zhj(hd:∀ t,Z1L t=true->st.dead t=false):∀ (ws:List (Bool × List (C U))) (i:Nat) (seen:List (Tok × Tok)),
  Ext seen (Z5k i ws seen).2/\∀ s',Ext (Z5k i ws seen).2 s'->∀ g2,Ren (fun _=> true) g s' g2->∀ vs,RelWs cfg g st.dead vs ws->RelWs cfg g2 ZW vs (Z5k i ws seen).1
 | [],i,seen=> ⟨.refl _,fun s' _ g2 _ vs h=> ⟨h.1,fun j u w _ hw=> by trivial⟩⟩
 | (ag,cs) ::ws,i,seen=> by
  obtain ⟨h3,h4,h5⟩:=Z7h (cfg:=cfg) (g:=g) (okT:=fun _=> true) (mine:=Z1L) (nm:=fun j=> .r 0 (16*i+j)) hd (fun _=> rfl) cs 0 seen
  obtain ⟨h6,h7⟩:=Zhj hd ws (i+1) (J6 Z1L (fun j=> .r 0 (16*i+j)) 0 cs seen).2
  refine ⟨h3.trans h6,fun s' hs g2 hg vs h=> ?_⟩
  obtain ⟨v,r,rfl,h8,h9⟩:=h.uncons
  refine .cons ?_ (h7 s' hs g2 hg r h9)
  have hL:∀ us,RelL cfg g st.dead us cs->RelL cfg g2 ZW us (J6 Z1L (fun j=> .r 0 (16*i+j)) 0 cs seen).1:=fun us hu=>
   ⟨by rw [h4];exact hu.1,fun j u c hu' hc=> by
    have hj:j < cs.length:=by have:=(Q5.1 hc).1;omega
    exact h5 s' (h6.trans hs) g2 hg j u _ c (Q4 hj) hc (hu.2 j u _ hu' (Q4 hj))⟩
  cases ag with
  | true=> obtain ⟨us,h10,h11⟩:=h8;exact ⟨us,h10,hL _ h11⟩
  | false=>
   obtain ⟨c,h10,h11⟩:=h8
   simp only at h10
   subst h10
   have:=hL [v] ⟨rfl,fun j u c hu hc=> by
    grind⟩
   simp only [J6] at this ⊢
   exact ⟨_,rfl,this.2 0 _ _ rfl rfl⟩
theorem Zr4(h:Rel cfg B st g a w)(hdead:st.dead=ZW){mem:List (Name × List (C U))}(hm:∀ nm,st.mem nm=Z4D mem nm){ls L:List (Tok × LC U)}:∀ (X:List (List (C U))) (k:Nat) (seen:List (Tok × Tok)),Zsz cfg mem ls L k X seen->
  ∃ s',Ext seen s'/\Zi9 cfg ls s' L/\∀ s2,Ext s' s2->∀ g2,RenA (fun _=> true) g s2 g2->∀ (i:Nat) cs,X[i]?=some cs->∀ (j:Nat) c,cs[j]?=some c->∃ v,w.cell? ((g.ad (.x (k+i))).add j)=some v/\g.tag ((g.ad (.x (k+i))).add j)=some (.obj (.x (k+i)))/\RelC cfg g2 ZW v c
 | [],k,seen,hx=> ⟨seen,.refl _,hx,fun s2 _ g2 _ i cs hi=> by simp at hi⟩
 | cs' ::X,k,seen,hx=> by
  simp only [Zsz] at hx
  split at hx
  .rename_i cs hcs
   obtain ⟨h1,h2⟩:=hx
   have hd:∀ t,Z1L t=true->st.dead t=false:=fun t _=> by rw [hdead];try rfl
   obtain ⟨h3,h4,h5⟩:=Z7o (cfg:=cfg) (g:=g) (okT:=fun _=> true) (mine:=Z1L) (nm:= .x k) hd (fun _=> rfl) cs 0 [] seen
   obtain ⟨s',h6,hLE,h7⟩:=Zr4 h hdead hm X (k+1) _ h2
   refine ⟨s',h3.trans h6,hLE,fun s2 hs g2 hg i cs0 hi j c hj=> ?_⟩
   cases i with
   | zero=>
    simp at hi
    subst hi
    have hmem:st.mem (.x k)=some cs:=by rw [hm];exact hcs
    let f:Nat->Value:=fun j=> (w.cell? ((g.ad (.x k)).add j)).getD undef
    have hf:∀ j c,cs[j]?=some c->w.cell? ((g.ad (.x k)).add j)=some (f j)/\g.tag ((g.ad (.x k)).add j)=some (.obj (.x k))/\RelC cfg g st.dead (f j) c:=fun j c hc=> by
     obtain ⟨v,h8,h9,h10⟩:=h.mem _ _ hmem j c hc
     grind
    have hR:RelL cfg g2 ZW ((List.range cs.length).map f) (Z1o Z1L (.x k) 0 [] cs seen).1:=by
     have h11:=RelL.of_get (cfg:=cfg) (g:=g) (st:=st) (f:=f) (fun j c hc=> (hf j c hc).2.2)
     refine ⟨by grind,fun j u c hu hc=> ?_⟩
     have hj:j < cs.length:=by have:=(Q5.1 hc).1;omega
     exact h5 s2 (h6.trans hs) g2 hg j u _ c (Q4 hj) hc (h11.2 j u _ hu (Q4 hj))
    have hR':=Zng h1 hR
    have hjl:j < cs.length:=by have h12:=(Q5.1 hj).1;have:=hR'.1;simp at this;omega
    obtain ⟨h13,h14,_⟩:=hf j _ (Q4 hjl)
    refine ⟨f j,YL,YL,hR'.2 j _ c (by simp [hjl]) hj⟩
   | succ i=>
    grind
  grind
theorem Zg9:∀ (args:List (V U)) (i k:Nat),ZgQ (Z6M i args) k=if i<=k then (args[k - i]?).getD .junk else .junk
 | [],i,k=> by simp [Z6M,ZgQ]
 | v ::args,i,k=> by
  simp only [Z6M,ZgQ]
  cases hk:Nat.beq i k with
  | true=>
   simp_all
  | false=>
   have hne:i≠k:=fun e=> by simp_all
   simp only [cond_false]
   rw [Zg9 args (i+1) k]
   grind
theorem Z3L:∀ (X:List (List (C U))) (k:Nat) (nm:Name),Z4D (Z6L k X) nm=match nm with | .x i=> if k<=i then X[i - k]? else none | .loc _=> none
 | [],k,nm=> by cases nm <;> simp [Z6L,Z4D]
 | cs ::X,k,nm=> by
  simp only [Z6L,Z4D]
  cases nm with
  | loc s=> simp [Z3L X (k+1) (.loc s)]
  | x i=>
   by_cases h:k=i
   .subst h;simp
   .rw [if_neg (fun e=> by grind),Z3L X (k+1) (.x i)]
    grind
theorem Zrs(ok:CfgOk P cfg)(h:Rel cfg B st g a w){rv:ResultVar}{x:Bool × List (C U)}(he:ZbG cfg st rv=some x):
  ∃ v,(match rv with | .tmp t=> pure (a.tmps.getD t undef) | .cell t ty=> do loadVar ty (<-asAddr (a.tmps.getD t undef)):Sem Value).run P w= .ok v w/\RelW cfg g st.dead v x.1 x.2:=by
 cases rv with
 | tmp t=>
  have hr:=h.env t
  simp only [ZbG] at he
  split at he <;> simp only [Option.some.injEq,reduceCtorEq] at he
  .rename_i c hc;rw [hc] at hr;subst he;exact ⟨_,rfl,c,rfl,hr⟩
  .rename_i cs hc;rw [hc] at hr;subst he;exact ⟨_,rfl,hr⟩
 | cell t ty=>
  have hr:=h.env t
  simp only [ZbG] at he
  split at he
  .rename_i ag zs hv
   cases hrd:rd st (st.env t) ag zs.length with
   | none=> grind
   | some y=>
    obtain ⟨v,h1,h2⟩:=Zfi (w:=w) ok h hv hr hrd
    refine ⟨v,?_,?_⟩
    .have hp:∃ b,a.tmps.getD t undef= .pointer (some b):=by
      cases hx:st.env t with
      | ptr nm off=> rw [hx] at hr;exact ⟨_,hr.2⟩
      | ep cs=> rw [hx] at hr;obtain ⟨b,hb,_⟩:=hr;grind
      | ap nm off k len i=> rw [hx] at hr;exact ⟨_,hr.2.2⟩
      | _=> rw [hx] at hrd;simp [rd] at hrd
     obtain ⟨b,hb⟩:=hp
     rw [hb] at h1
     show (do let x <-asAddr (a.tmps.getD t undef);loadVar ty x:Sem Value).run P w=_
     rw [hb]
     trivial
    .rw [hrd] at he
     cases y <;> simp only [Option.some.injEq,reduceCtorEq] at he
     .subst he;exact ⟨_,rfl,h2⟩
     .subst he;exact h2
  .cases he
theorem Zhk(ok:CfgOk P cfg)(h:Rel cfg B st g a w):∀ {rs:List ResultVar} {ws:List (Bool × List (C U))},Z8L cfg st rs=some ws->
  ∃ vs,(rs.mapM fun rv=> (match rv with | .tmp t=> pure (a.tmps.getD t undef) | .cell t ty=> do loadVar ty (<-asAddr (a.tmps.getD t undef)):Sem Value)).run P w= .ok vs w/\RelWs cfg g st.dead vs ws
 | [],ws,he=> by
  simp only [Z8L,Option.some.injEq] at he
  subst he
  exact ⟨[],by simp,rfl,fun j u w hu=> by simp at hu⟩
 | r ::rs,ws,he=> by
  simp only [Z8L] at he
  split at he
  .rename_i x l hx hl
   simp only [Option.some.injEq] at he
   subst he
   obtain ⟨v,h1,h2⟩:=Zrs (w:=w) ok h hx
   obtain ⟨vs,h3,h4⟩:=Zhk ok h hl
   refine ⟨v ::vs,?_,.cons h2 h4⟩
   simp_all
  .cases he
theorem ZrA{g:Gh}{live:Name->Bool}{r:V U}{ws:List (Bool × List (C U))}{vs:List Value}(hp:ZfF r=some ws)(h:RelWs cfg g ZW vs ws):
  RelV cfg g ZW live (if hs:vs.toArray.size=1 then vs.toArray[0] else .tuple vs.toArray) r:=by
 cases r <;> simp only [ZfF,Option.some.injEq,reduceCtorEq] at hp
 case c x=>
  subst hp
  obtain ⟨v,r,rfl,h1,h2⟩:=h.uncons
  have:r=[]:=Q1 (by simpa using h2.1)
  subst this
  obtain ⟨c,hc,hr⟩:=h1
  cases hc
  exact hr
 case agg cs=>
  subst hp
  obtain ⟨v,r,rfl,h1,h2⟩:=h.uncons
  have:r=[]:=Q1 (by simpa using h2.1)
  subst this
  exact h1
 case tup ws'=>
  split at hp
  .cases hp
  .rename_i hl
   simp only [Option.some.injEq] at hp
   subst hp
   have hne:vs.toArray.size≠1:=by have:=h.1;simpa [this] using hl
   rw [dif_neg hne]
   exact ⟨_,rfl,by simpa using h.1,fun j u w hu hw=> h.2 j u w (by simpa using hu) hw⟩
def Zea(cfg:Cfg U)(a b:C U):Prop:=∀ g v,RelC cfg g ZW v a->RelC cfg g ZW v b
def ZgF(cfg:Cfg U)(a b:V U):Prop:=∀ g live v,RelV cfg g ZW live v a->RelV cfg g ZW live v b
structure BetterAll (cfg:Cfg U) (args args':List (V U)) (X X':List (List (C U))):Prop where
 len:args.length=args'.length
 args:∀ (j:Nat) x y,args[j]?=some x->args'[j]?=some y->ZgF cfg x y
 xlen:X.length=X'.length
 xl:∀ (k:Nat) x y,X[k]?=some x->X'[k]?=some y->x.length=y.length
 x:∀ (k:Nat) x y,X[k]?=some x->X'[k]?=some y->∀ (j:Nat) c c',x[j]?=some c->y[j]?=some c'->Zea cfg c c'
theorem Entry.better{w:World}{g:Gh}{vs:List Value}{args args':List (V U)}{X X':List (List (C U))}{L L':List (Tok × LC U)}(h:Entry cfg w g vs args X L)(b:BetterAll cfg args args' X X')(hL:∀ t x,ZC (fun _=> none) L' t=some x->ZC (fun _=> none) L t=some x):Entry cfg w g vs args' X' L':=by
 refine ⟨h.inv,h.tags,h.len.trans b.len,fun j v y hv hy=> ?_,fun k cs hk j c hj=> ?_,h.bs,fun t x hx=> h.ls t x (hL t x hx)⟩
 .have hj:j < args.length:=by have:=(Q5.1 hy).1;have:=b.len;omega
  have hx:=Q4 hj
  have:=b.args j _ y hx hy g _ v (h.args j v _ hv hx)
  have hl:Zau X'=Zau X:=by
   funext nm
   cases nm with
   | loc s=> rfl
   | x k=>
    have hlen:=b.xlen
    show (X'[k]?).isSome=(X[k]?).isSome
    grind
  grind
 .have hkx:k < X.length:=by have:=(Q5.1 hk).1;have:=b.xlen;omega
  have hx:=Q4 hkx
  have hjl:j < (X[k]).length:=by have:=(Q5.1 hj).1;have:=b.xl k _ _ hx hk;omega
  have hc:=Q4 hjl
  obtain ⟨v,h1,h2,h3⟩:=h.x k _ hx j _ hc
  exact ⟨v,h1,h2,b.x k _ _ hx hk j _ c hc hj g v h3⟩
theorem BetterAll.refl(args:List (V U))(X:List (List (C U))):BetterAll cfg args args X X:=
 ⟨rfl,fun j x y hx hy=> by rw [hx] at hy;cases hy;exact fun _ _ _ h=> h,rfl,fun k x y hx hy=> by grind,
  fun k x y hx hy j c c' hc hc'=> by rw [hx] at hy;cases hy;rw [hc] at hc';cases hc';exact fun _ _ h=> h⟩
theorem ZnR {Γ:Known U} {draws:Array Oper->FSt U->Bool} (ok:CfgOk P cfg) (hΓ:∀ f s,Γ f=some s->Contract P cfg f s) (hdr:Zbr P cfg Γ draws) {f:FuncId} {fn:Func} {c:Code} (lv:Zd U)
  (hf:P.funcs[f]?=some fn) (hb:fn.body=some c) {args:List (V U)} {X:List (List (C U))} {L:List (Tok × LC U)} {w:World} {g:Gh} {vs:List Value} (E:Entry cfg w g vs args X L) (hn:args.length<=fn.ntmps) {Q:AExit->LSt U->Prop}
  (hawp:awp cfg Γ draws fn.ntmps lv c (Z1d args X L) Q) {R:Ending->World->Prop}
  (hq:∀ e' s' g' a' w',Q e' s'->Rel cfg ⟨w,g.m,g.tag,fun k=> g.ad (.x k)⟩ (s'.toF fn.ntmps) g' a' w'->(∀ id,e'≠.exit id)/\a'.defers=[]/\∃ v,(results fn a'.tmps).run P w'= .ok v w'/\R (.returned v) w'):Calls P f vs.toArray w R:=by
 let B:Base:=⟨w,g.m,g.tag,fun k=> g.ad (.x k)⟩
 have hvs:vs.length<=fn.ntmps:=by rw [E.len];exact hn
 have hrel:Rel cfg B ((Z1d args X L).toF fn.ntmps) g { tmps:=vs.toArray++Array.replicate (fn.ntmps - vs.toArray.size) undef,defers:=[] } w:=by
  refine ⟨E.inv,⟨⟨rfl,rfl,rfl,Q8 _⟩,fun _=> rfl,fun _ _ h=> h,fun c t h=> ⟨h,rfl⟩,fun c t h=> h,fun b _ _=> ⟨rfl,fun _ _=> rfl⟩,fun _ _=> rfl⟩,?_,?_,?_,rfl,fun t x hx=> ⟨rfl,E.ls t x hx⟩,fun t ht _ _=> E.bs t ht⟩
  .intro k
   have hl:(fun nm:Name=> (((Z1d args X L).toF fn.ntmps).mem nm).isSome)=Zau X:=by
    funext nm
    simp only [LSt.toF,Z1d,Z3L]
    cases nm <;> simp [Zau]
   rw [hl]
   simp only [LSt.toF,Z1d,Zg9,K4,if_true,Nat.sub_zero]
   cases hx:args[k]? with
   | none=> exact trivial
   | some x=>
    have hk:k < vs.length:=by rw [E.len];exact (Q5.1 hx).1
    have hv:vs[k]?=some vs[k]:=Q4 hk
    have:=E.args k _ x hv hx
    have hg:(vs.toArray++Array.replicate (fn.ntmps - vs.toArray.size) undef).getD k undef=vs[k]:=by
     simp [Array.getD,hk]
     intro h;omega
    grind
  .intro nm cs hm j c hc
   simp only [LSt.toF,Z1d,Z3L] at hm
   cases nm with
   | loc s=> simp at hm
   | x k=>
    simp at hm
    exact E.x k cs hm j c hc
  .simp only [LSt.toF]
   grind
 have hwp:=Zsr (B:=B) ok hΓ hdr (n:=fn.ntmps) (lv:=lv) c _ _ g _ w hawp hrel
 refine calls_of_wp (R:=R) (args:=vs.toArray) hf hb (wp_mono hwp ?_)
 rintro e a' w' ⟨e',s',g',rfl,hQ,hr⟩
 obtain ⟨h0,h1,h2⟩:=hq e' s' g' a' w' hQ hr
 cases e' with
 | normal=> trivial
 | ret=> trivial
 | exit id=> grind
theorem Z5G {Γ:Known U} {draws:Array Oper->FSt U->Bool} (ok:CfgOk P cfg) (hΓ:∀ f s,Γ f=some s->Contract P cfg f s) (hdr:Zbr P cfg Γ draws) {f:FuncId} {fn:Func} {c:Code} {s:Fs U} (lv:Zd U)
  (hf : P.funcs[f]? = some fn) (hb : fn.body = some c) (hname : (fn.name == "runtime.NumGoroutine") = false)
  (hbody:∀ args X L ps r X' L',s.fn2 args X L=some (ps,r,X',L')->All ps->∃ args' X0 L0,BetterAll cfg args args' X X0/\(∀ t x,ZC (fun _=> none) L0 t=some x->ZC (fun _=> none) L t=some x)/\args'.length<=fn.ntmps/\awp cfg Γ draws fn.ntmps lv c (Z1d args' X0 L0) (Z4a cfg fn.ntmps fn.results.toList r X' L')):Contract P cfg f s:=by
 refine ⟨⟨fn,hf,by simp [hb],hname⟩,?_⟩
 intro args1 X1 L1 ps r X' L' hs hps hX w g vs E1
 obtain ⟨args,X,L,hbetter,hL,hn,hawp⟩:=hbody args1 X1 L1 ps r X' L' hs hps
 have E:=E1.better hbetter hL
 refine ZnR ok hΓ hdr lv hf hb E hn hawp ?_
 .intro e' s' g' a' w' hQ hr
  have hE:Zia cfg fn.ntmps fn.results.toList r X' L' s':=by cases e' <;> first | exact hQ | exact hQ.elim
  refine ⟨fun id e=> by subst e;exact hQ,?_⟩
  refine ⟨hr.df,?_⟩
  unfold Zia at hE
  split at hE
  case h_2=> exact hE.elim
  rename_i ws ws' hres hparts
  obtain ⟨hle,hx⟩:=hE
  obtain ⟨us,h1,h2⟩:=Zhk (w:=w') ok hr hres
  have hd:∀ t,Z1L t=true->(s'.toF fn.ntmps).dead t=false:=fun t _=> rfl
  obtain ⟨h3,h4⟩:=Zhj (cfg:=cfg) (g:=g') (st:=s'.toF fn.ntmps) hd ws 0 []
  obtain ⟨sx,h5,hLE,h6⟩:=Zr4 hr rfl (mem:=s'.mem) (fun _=> rfl) X' 0 _ hx
  let keep:Name->Bool:=fun nm=> match nm with | .x k=> decide (k < X'.length) | .loc _=> false
  have htag0:∀ c,g'.tag c=none->(g'.anew sx keep (fun _=> true)).tag c=none:=fun c hc=> by simp only [Gh.anew,hc]
  have htago:∀ c t,g'.tag c=some (.outer t)↔(g'.anew sx keep (fun _=> true)).tag c=some (.outer t):=by
   intro c t
   simp only [Gh.anew]
   cases hg:g'.tag c with
   | none=> simp
   | some t0=>
    cases t0 with
    | obj nm=> cases hk:keep nm <;> simp [hk]
    | tok u=> cases hk:YT sx u <;> simp [hk]
    | outer t0=> simp
  have hW:=h4 sx h5 _ (Gh.anew_ren sx keep (fun _=> true)).toRen us h2
  have hval:=ZrA (live:=fun _=> false) hparts (ZvM hle hW)
  refine ⟨_,?_,_,g'.anew sx keep (fun _=> true),rfl,⟨fun c v hv=> ?_,fun c t ht=> ?_⟩,?_,?_,?_,hval,?_,Zm7 hr (fun _=> rfl) (Gh.anew_ren sx keep (fun _=> true)).toRen hLE⟩
  .simp only [results,Sem.run_bind]
   have e1:fn.results=fn.results.toList.toArray:=by simp
   rw [e1,List.mapM_toArray]
   simp only [Sem.run_map,Sem.run_pure]
   exact congrArg (fun r:Result (List Value)=> (r.andThen fun a w'=> Result.ok a.toArray w').andThen fun a w'=> Result.ok (if h:a.size=1 then a[0] else Value.tuple a) w') h1
  .obtain ⟨h7,h8⟩:=hr.inv.im c v hv
   exact ⟨h7,htag0 c h8⟩
  .cases hg:g'.tag c with
   | none=> rw [htag0 c hg] at ht;cases ht
   | some t0=> exact hr.inv.it c t0 hg
  .have F:Fr ⟨w,g.m,g.tag,fun k=> g.ad (.x k)⟩ (g'.anew sx keep (fun _=> true)) w':=by
    refine hr.fr.step hr.inv (Evo.refl w' (fun _=> False)) (fun c hc=> hc.elim) (fun _ _ hv=> hv) (fun c t=> htago c t) ?_ (fun _=> rfl)
    intro b _ hall o sp
    cases hg:g'.tag ⟨b,o,sp⟩ with
    | none=> exact htag0 _ hg
    | some t=>
     obtain ⟨t',rfl⟩:=hall o sp t hg
     exact (htago _ _).1 hg
   exact ⟨F.stay,fun _=> rfl,F.mono,F.outer,F.outer',F.clean,F.frz⟩
  .intro c t ht
   simp only [Gh.anew] at ht
   split at ht
   .rename_i u hu
    cases hn:YT sx u with
    | none=> simp [hn] at ht
    | some u'=> simp [hn] at ht;exact .inr (.inr ⟨u',ht.symm⟩)
   .rename_i nm hnm
    cases hk:keep nm with
    | false=> simp [hk] at ht
    | true=>
     simp [hk] at ht
     subst ht
     cases nm with
     | loc s=> simp [keep] at hk
     | x k=> exact .inr (.inl ⟨k,by simpa [keep] using hk,rfl⟩)
   .cases ht;exact .inl ⟨_,rfl⟩
   .cases ht
  .exact fun k _=> hr.fr.xad k
  .intro k cs hk j c hc
   obtain ⟨v,h7,h8,h9⟩:=h6 sx (.refl _) _ (Gh.anew_ren sx keep (fun _=> true)) k cs hk j c hc
   rw [QP] at h7 h8
   refine ⟨v,h7,?_,h9⟩
   have hlt:k < X'.length:=(Q5.1 hk).1
   show (g'.anew sx keep (fun _=> true)).tag ((g'.ad (.x k)).add j)=_
   simp only [Gh.anew,h8,keep,hlt,decide_true,cond_true]
theorem Zdv {Γ:Known U} {draws:Array Oper->FSt U->Bool} (ok:CfgOk P cfg) (hΓ:∀ f s,Γ f=some s->Contract P cfg f s) (hdr:Zbr P cfg Γ draws) {f:FuncId} {fn:Func} {c:Code} {s:Fs U} (lv:Zd U)
  (hf : P.funcs[f]? = some fn) (hb : fn.body = some c) (hname : (fn.name == "runtime.NumGoroutine") = false)
  (hbody:∀ args X ps r X',s.fn args X=some (ps,r,X')->All ps->∃ args' X0,BetterAll cfg args args' X X0/\args'.length<=fn.ntmps/\awp cfg Γ draws fn.ntmps lv c (Zg args' X0) (Y2 cfg fn.ntmps fn.results.toList r X')) (hd:s.fn2=Zgs s.fn:=by rfl):Contract P cfg f s:=by
 refine Z5G ok hΓ hdr lv hf hb hname ?_
 intro args X L ps r X' L' hs hps
 rw [hd] at hs
 unfold Zgs at hs
 split at hs
 .split at hs
  .rename_i h1
   cases hs
   obtain ⟨args',X0,h2,h3,h4⟩:=hbody args X _ _ _ h1 hps
   exact ⟨args',X0,[],h2,fun t x hx=> hx,h3,h4⟩
  .cases hs
 .cases hs
end Go.AM
