import Derived.Test.YtfapacabjkhepaaGreatWmK
import Derived.Still
import Derived.Carry
import Derived.SizedLaws
import Derived.ChangeSame
set_option linter.unusedSimpArgs false
set_option linter.unusedVariables false
namespace Go.AM
variable {U:Uni} {P:Program} {cfg:Cfg U} {B:Base} {st:FSt U} {g:Gh} {a:Act} {w:World}
def Z5N:Nat->List (V U)->List (Nat × V U)
 | _,[]=> []
 | i,v ::r=> (i,v) ::Z5N (i+1) r
def Z5M:Nat->List (List (C U))->List (Name × List (C U))
 | _,[]=> []
 | k,cs ::r=> (.x k,cs) ::Z5M (k+1) r
def Z0W(args:List (V U))(X:List (List (C U)))(L:List (Tok × LC U)):LSt U:={ env:=Z5N 0 args,mem:=Z5M 0 X,ls:=L }
def Zi(args:List (V U))(X:List (List (C U))):LSt U:=Z0W args X []
def Z1p:Tok->Bool:=fun _=> true
def ZaE(cfg:Cfg U)(st:FSt U):ResultVar->Option (Bool × List (C U))
 | .tmp t=> match st.env t with
  | .c x=> some (false,[x])
  | .agg cs=> some (true,cs)
  | _=> none
 | .cell t ty=> match cfg.var ty with
  | some (ag,zs)=> match rd st (st.env t) ag zs.length with
   | some (.c x)=> some (false,[x])
   | some (.agg cs)=> some (true,cs)
   | _=> none
  | none=> none
def Z7A(cfg:Cfg U)(st:FSt U):List ResultVar->Option (List (Bool × List (C U)))
 | []=> some []
 | r ::rs=> match ZaE cfg st r,Z7A cfg st rs with
  | some x,some l=> some (x ::l)
  | _,_=> none
def Z4s(i:Nat):List (Bool × List (C U))->List (Tok × Tok)->List (Bool × List (C U)) × List (Tok × Tok)
 | [],seen=> ([],seen)
 | (ag,cs) ::r,seen=> ((ag,(YU Z1p (fun j=> .r 0 (16*i+j)) 0 cs seen).1) ::(Z4s (i+1) r (YU Z1p (fun j=> .r 0 (16*i+j)) 0 cs seen).2).1,
   (Z4s (i+1) r (YU Z1p (fun j=> .r 0 (16*i+j)) 0 cs seen).2).2)
def ZrM:Tail->Tail->Prop
 | _,.unk=> True
 | .full,_=> True
 | .own t,.own t'=> t=t'
 | _,_=> False
def leC(cfg:Cfg U):C U->C U->Prop
 | .int k n,.int k' n'=> k=k'/\n=n'
 | .bool b,.bool b'=> b=b'
 | .nils,.nils=> True
 | .nils,.slice _ l _=> l=[]
 | .nilp,.nilp=> True
 | .nilp,.po _ o=> o=none
 | .po T o,.po T' o'=> match cfg.tyEq T T' with
  | isTrue h=> h▸o=o'
  | isFalse _=> False
 | .slice T l tl,.slice T' l' tl'=> match cfg.tyEq T T' with
  | isTrue h=> h▸l=l'/\ZrM tl tl'
  | isFalse _=> False
 | .mref t,.mref t'=> t=t'
 | .xp k,.xp k'=> k=k'
 | _,_=> False
def leL(cfg:Cfg U):List (C U)->List (C U)->Prop
 | [],[]=> True
 | c ::r,c' ::r'=> leC cfg c c'/\leL cfg r r'
 | _,_=> False
def leR(cfg:Cfg U):List (Bool × List (C U))->List (Bool × List (C U))->Prop
 | [],[]=> True
 | (b,cs) ::r,(b',cs') ::r'=> b=b'/\leL cfg cs cs'/\leR cfg r r'
 | _,_=> False
def Zej:V U->Option (List (Bool × List (C U)))
 | .c x=> some [(false,[x])]
 | .agg cs=> some [(true,cs)]
 | .tup ws=> if ws.length=1 then none else some ws
 | _=> none
def ZGI(cfg:Cfg U)(x y:LC U):Prop:=
 match cfg.tyEq x.T y.T with
 | isTrue h=> h▸x.l=y.l/\x.f=y.f
 | isFalse _=> False
def ZgV(cfg:Cfg U)(ls:List (Tok × LC U))(seen:List (Tok × Tok)):List (Tok × LC U)->Prop
 | []=> True
 | (t,y) ::r=> (match Z0Q seen t with
  | some u=> YI seen u=some t/\match ZE (fun _=> none) ls u with
   | some x=> ZGI cfg x y
   | none=> False
  | none=> False)/\ZgV cfg ls seen r
def Zr9(cfg:Cfg U)(mem:List (Name × List (C U)))(ls:List (Tok × LC U))(L:List (Tok × LC U)):(k:Nat)->List (List (C U))->List (Tok × Tok)->Prop
 | _,[],seen=> ZgV cfg ls seen L
 | k,cs' ::r,seen=> match Z3Z mem (.x k) with
  | some cs=> leL cfg (Z16 Z1p (.x k) 0 [] cs seen).1 cs'/\Zr9 cfg mem ls L (k+1) r (Z16 Z1p (.x k) 0 [] cs seen).2
  | none=> False
def ZgW(cfg:Cfg U)(n:Nat)(rs:List ResultVar)(r:V U)(X:List (List (C U)))(L:List (Tok × LC U))(s:LSt U):Prop:=
 match Z7A cfg (s.toF n) rs,Zej r with
 | some ws,some ws'=> leR cfg (Z4s 0 ws []).1 ws'/\Zr9 cfg s.mem s.ls L 0 X (Z4s 0 ws []).2
 | _,_=> False
def ZEd(cfg:Cfg U)(n:Nat)(rs:List ResultVar)(r:V U)(X:List (List (C U)))(s:LSt U):Prop:=ZgW cfg n rs r X [] s
def Z3B(cfg:Cfg U)(n:Nat)(rs:List ResultVar)(r:V U)(X:List (List (C U)))(L:List (Tok × LC U))(e:AExit)(s:LSt U):Prop:=
 match e with
 | .exit _=> False
 | _=> ZgW cfg n rs r X L s
def ZF(cfg:Cfg U)(n:Nat)(rs:List ResultVar)(r:V U)(X:List (List (C U)))(e:AExit)(s:LSt U):Prop:=
 match e with
 | .exit _=> False
 | _=> ZEd cfg n rs r X s
theorem ZkO{ls:List (Tok × LC U)}{seen:List (Tok × Tok)}{g2:Gh}(h:Rel cfg B st g a w)(hls:∀ t,st.ls t=ZE (fun _=> none) ls t)(hr:Ren (fun _=> true) g seen g2):∀ {L:List (Tok × LC U)},ZgV cfg ls seen L->
  ∀ t x,ZE (fun _=> none) L t=some x->LRel cfg w g2 t x
 | [],_,t,x,hx=> by trivial
 | (t0,y) ::L,hE,t,x,hx=> by
  obtain ⟨h1,h2⟩:=hE
  simp only [ZE] at hx
  split at hx
  .rename_i e
   subst e
   cases hx
   split at h1
   case h_2=> exact h1.elim
   rename_i u hu
   obtain ⟨h3,d⟩:=h1
   split at d
   case h_2=> exact d.elim
   rename_i x af
   unfold ZGI at d
   split at d
   case h_2=> exact d.elim
   rename_i hT _
   obtain ⟨T,l,f⟩:=x
   obtain ⟨T',l',f'⟩:=y
   simp only at hT
   subst hT
   obtain ⟨h5,h6⟩:=d
   simp only at h5 h6
   subst h5 h6
   obtain ⟨_,hL⟩:=h.ls u _ ((hls u).trans af)
   have s:∀ c,g.tag c=some (.tok u)->g2.tag c=some (.tok t):=fun c hc=> hr.tok c u t hc h3
   rcases hL with ⟨e1,e2⟩ | ⟨b,len,cap,e1,e2,e3,e4,e5,e6⟩
   .exact .inl ⟨hr.bs _ _ _ rfl hu e1,e2⟩
   .refine .inr ⟨b,len,cap,hr.bs _ _ _ rfl hu e1,e2,e3,e4,fun i y hy j c hc=> ?_,fun j a1 a2=> s _ (e6 j a1 a2)⟩
    obtain ⟨v,e7,e8,e9,aa⟩:=e5 i y hy j c hc
    exact ⟨v,e7,by rw [hr.m];exact e8,fun hi=> by rw [hr.m];exact e9 hi,fun hi=> s _ (aa hi)⟩
  .exact ZkO h hls hr h2 t x hx
theorem Zu5{g:Gh}{v:Value}{c c':C U}(h:leC cfg c c')(hr:RelC cfg g ZX v c):RelC cfg g ZX v c':=by
 cases c <;> cases c' <;> simp only [leC] at h
 case int.int k n k' n'=> obtain ⟨rfl,rfl⟩:=h;exact hr
 case bool.bool=> subst h;exact hr
 case nils.nils=> exact hr
 case nilp.nilp=> exact hr
 case nilp.po T o=>
  subst h
  have d:=hr.1
  cases d
  exact ⟨.pnil T,trivial⟩
 case po.po T o T' o'=>
  split at h
  .rename_i hT _
   subst hT
   simp only at h
   subst h
   exact hr
  .exact h.elim
 case mref.mref t t'=> subst h;exact hr
 case xp.xp k k'=> subst h;exact hr
 case nils.slice T l tl=>
  subst h
  have d:=hr.1
  cases d
  refine ⟨.snil T tl,?_⟩
  cases tl with
  | unk=> trivial
  | full=> intro a len s u;simp at u;omega
  | own t=> intro _ a len s u;simp at u
 case slice.slice T l tl T' l' tl'=>
  split at h
  .rename_i hT _
   subst hT
   obtain ⟨d,h2⟩:=h
   simp only at d
   subst d
   refine ⟨hr.1.tl _,?_⟩
   cases tl' with
   | unk=> trivial
   | full=> cases tl <;> simp only [ZrM] at h2;exact hr.2
   | own t'=>
    cases tl with
    | unk=> exact h2.elim
    | full=>
     intro _ b len s u j h3 h4
     have:=hr.2 _ _ _ u
     subst this
     omega
    | own t=> have:t=t':=h2;subst this;exact hr.2
  .exact h.elim
theorem ZlW{g:Gh}:∀ {vs:List Value} {cs cs':List (C U)},leL cfg cs cs'->RelL cfg g ZX vs cs->RelL cfg g ZX vs cs'
 | vs,[],[],_,hr=> hr
 | vs,c ::cs,c' ::cs',h,hr=> by
  obtain ⟨h1,h2⟩:=h
  match vs,hr with
  | v ::vs,hr=>
   have h3:=ZlW (vs:=vs) h2 ⟨by simpa using hr.1,fun j v' c s hc=> hr.2 (j+1) v' c (by simpa using s) (by simpa using hc)⟩
   refine ⟨by simp [h3.1],fun j v' d s u=> ?_⟩
   cases j with
   | zero=> simp at s u;subst s u;exact Zu5 h1 (hr.2 0 _ _ rfl rfl)
   | succ j=> exact h3.2 j v' d (by simpa using s) (by simpa using u)
  | [],hr=> have:=hr.1;simp at this
theorem ZD2{g:Gh}{v:Value}{ag:Bool}{cs cs':List (C U)}(h:leL cfg cs cs')(hr:RelW cfg g ZX v ag cs):RelW cfg g ZX v ag cs':=by
 cases ag with
 | true=> obtain ⟨vs,s,d⟩:=hr;exact ⟨vs,s,ZlW h d⟩
 | false=>
  obtain ⟨c,rfl,d⟩:=hr
  match cs',h with
  | [c'],h=> exact ⟨c',rfl,Zu5 h.1 d⟩
def RelWs(cfg:Cfg U)(g:Gh)(dead:Tok->Bool)(vs:List Value)(ws:List (Bool × List (C U))):Prop:=
 vs.length=ws.length/\∀ (j:Nat) u w,vs[j]?=some u->ws[j]?=some w->RelW cfg g dead u w.1 w.2
theorem RelWs.cons{g:Gh}{dead:Tok->Bool}{v:Value}{w:Bool × List (C U)}{vs:List Value}{ws:List (Bool × List (C U))}(h:RelW cfg g dead v w.1 w.2)(hs:RelWs cfg g dead vs ws):RelWs cfg g dead (v ::vs) (w ::ws):=by
 refine ⟨by simp [hs.1],fun j u x d s=> ?_⟩
 cases j with
 | zero=> grind
 | succ j=> exact hs.2 j u x (by simpa using d) (by simpa using s)
theorem RelWs.uncons{g:Gh}{dead:Tok->Bool}{vs:List Value}{w:Bool × List (C U)}{ws:List (Bool × List (C U))}(h:RelWs cfg g dead vs (w ::ws)):∃ v r,vs=v ::r/\RelW cfg g dead v w.1 w.2/\RelWs cfg g dead r ws:=by
 match vs,h with
 | v ::r,h=> exact ⟨v,r,rfl,h.2 0 _ _ rfl rfl,by simpa using h.1,fun j u x d s=> h.2 (j+1) u x (by simpa using d) (by simpa using s)⟩
 | [],h=> have:=h.1;simp at this
theorem Zu4{g:Gh}:∀ {vs:List Value} {ws ws':List (Bool × List (C U))},leR cfg ws ws'->RelWs cfg g ZX vs ws->RelWs cfg g ZX vs ws'
 | vs,[],[],_,hr=> hr
 | vs,(b,cs) ::ws,(b',cs') ::ws',h,hr=> by
  obtain ⟨rfl,h1,d⟩:=h
  obtain ⟨v,r,rfl,u,s⟩:=hr.uncons
  exact .cons (ZD2 h1 u) (Zu4 d s)
theorem Zg7(hd:∀ t,Z1p t=true->st.dead t=false):∀ (ws:List (Bool × List (C U))) (i:Nat) (seen:List (Tok × Tok)),
  Ext seen (Z4s i ws seen).2/\∀ s',Ext (Z4s i ws seen).2 s'->∀ s,Ren (fun _=> true) g s' s->∀ vs,RelWs cfg g st.dead vs ws->RelWs cfg s ZX vs (Z4s i ws seen).1
 | [],i,seen=> ⟨.refl _,fun s' _ s _ vs h=> ⟨h.1,fun j u w _ hw=> by trivial⟩⟩
 | (ag,cs) ::ws,i,seen=> by
  obtain ⟨h3,h4,h5⟩:=Z6e (cfg:=cfg) (g:=g) (okT:=fun _=> true) (mine:=Z1p) (nm:=fun j=> .r 0 (16*i+j)) hd (fun _=> rfl) cs 0 seen
  obtain ⟨h6,h7⟩:=Zg7 hd ws (i+1) (YU Z1p (fun j=> .r 0 (16*i+j)) 0 cs seen).2
  refine ⟨h3.trans h6,fun s' hs s hg vs h=> ?_⟩
  obtain ⟨v,r,rfl,h8,h9⟩:=h.uncons
  refine .cons ?_ (h7 s' hs s hg r h9)
  have hL:∀ us,RelL cfg g st.dead us cs->RelL cfg s ZX us (YU Z1p (fun j=> .r 0 (16*i+j)) 0 cs seen).1:=fun us hu=>
   ⟨by rw [h4];exact hu.1,fun j u c ah hc=> by
    have hj:j < cs.length:=by have:=(Q4.1 hc).1;omega
    exact h5 s' (h6.trans hs) s hg j u _ c (Q2 hj) hc (hu.2 j u _ ah (Q2 hj))⟩
  cases ag with
  | true=> obtain ⟨us,d,ae⟩:=h8;exact ⟨us,d,hL _ ae⟩
  | false=>
   obtain ⟨c,d,ae⟩:=h8
   simp only at d
   subst d
   have:=hL [v] ⟨rfl,fun j u c hu hc=> by
    grind⟩
   simp only [YU] at this ⊢
   exact ⟨_,rfl,this.2 0 _ _ rfl rfl⟩
theorem ZpD(h:Rel cfg B st g a w)(hdead:st.dead=ZX){mem:List (Name × List (C U))}(hm:∀ nm,st.mem nm=Z3Z mem nm){ls L:List (Tok × LC U)}:∀ (X:List (List (C U))) (k:Nat) (seen:List (Tok × Tok)),Zr9 cfg mem ls L k X seen->
  ∃ s,Ext seen s/\ZgV cfg ls s L/\∀ s2,Ext s s2->∀ d,RenA (fun _=> true) g s2 d->∀ (i:Nat) cs,X[i]?=some cs->∀ (j:Nat) c,cs[j]?=some c->∃ v,w.cell? ((g.ad (.x (k+i))).add j)=some v/\g.tag ((g.ad (.x (k+i))).add j)=some (.obj (.x (k+i)))/\RelC cfg d ZX v c
 | [],k,seen,hx=> ⟨seen,.refl _,hx,fun s2 _ d _ i cs hi=> by simp at hi⟩
 | cs' ::X,k,seen,hx=> by
  simp only [Zr9] at hx
  split at hx
  .rename_i cs ak
   obtain ⟨h1,h2⟩:=hx
   have hd:∀ t,Z1p t=true->st.dead t=false:=fun t _=> by rw [hdead];try rfl
   obtain ⟨h3,h4,h5⟩:=Z6m (cfg:=cfg) (g:=g) (okT:=fun _=> true) (mine:=Z1p) (nm:= .x k) hd (fun _=> rfl) cs 0 [] seen
   obtain ⟨s,h6,aj,h7⟩:=ZpD h hdead hm X (k+1) _ h2
   refine ⟨s,h3.trans h6,aj,fun s2 hs d hg i a2 hi j c hj=> ?_⟩
   cases i with
   | zero=>
    simp at hi
    subst hi
    have ab:st.mem (.x k)=some cs:=by rw [hm];exact ak
    let f:Nat->Value:=fun j=> (w.cell? ((g.ad (.x k)).add j)).getD undef
    have hf:∀ j c,cs[j]?=some c->w.cell? ((g.ad (.x k)).add j)=some (f j)/\g.tag ((g.ad (.x k)).add j)=some (.obj (.x k))/\RelC cfg g st.dead (f j) c:=fun j c hc=> by
     obtain ⟨v,h8,h9,au⟩:=h.mem _ _ ab j c hc
     grind
    have hR:RelL cfg d ZX ((List.range cs.length).map f) (Z16 Z1p (.x k) 0 [] cs seen).1:=by
     have al:=RelL.of_get (cfg:=cfg) (g:=g) (st:=st) (f:=f) (fun j c hc=> (hf j c hc).2.2)
     refine ⟨by grind,fun j u c hu hc=> ?_⟩
     have hj:j < cs.length:=by have:=(Q4.1 hc).1;omega
     exact h5 s2 (h6.trans hs) d hg j u _ c (Q2 hj) hc (al.2 j u _ hu (Q2 hj))
    have af:=ZlW h1 hR
    have aa:j < cs.length:=by have a3:=(Q4.1 hj).1;have:=af.1;simp at this;omega
    obtain ⟨ar,aw,_⟩:=hf j _ (Q2 aa)
    refine ⟨f j,V0,V0,af.2 j _ c (by simp [aa]) hj⟩
   | succ i=>
    grind
  grind
theorem ZeQ:∀ (args:List (V U)) (i k:Nat),ZfB (Z5N i args) k=if i<=k then (args[k - i]?).getD .junk else .junk
 | [],i,k=> by simp [Z5N,ZfB]
 | v ::args,i,k=> by
  simp only [Z5N,ZfB]
  cases hk:Nat.beq i k with
  | true=>
   simp_all
  | false=>
   have d:i≠k:=fun e=> by simp_all
   simp only [cond_false]
   rw [ZeQ args (i+1) k]
   grind
theorem Z3e:∀ (X:List (List (C U))) (k:Nat) (nm:Name),Z3Z (Z5M k X) nm=match nm with | .x i=> if k<=i then X[i - k]? else none | .loc _=> none
 | [],k,nm=> by cases nm <;> simp [Z5M,Z3Z]
 | cs ::X,k,nm=> by
  simp only [Z5M,Z3Z]
  cases nm with
  | loc s=> simp [Z3e X (k+1) (.loc s)]
  | x i=>
   by_cases h:k=i
   .subst h;simp
   .rw [if_neg (fun e=> by grind),Z3e X (k+1) (.x i)]
    grind
theorem ZpZ(ok:CfgOk P cfg)(h:Rel cfg B st g a w){rv:ResultVar}{x:Bool × List (C U)}(he:ZaE cfg st rv=some x):
  ∃ v,(match rv with | .tmp t=> pure (a.tmps.getD t undef) | .cell t ty=> do loadVar ty (<-asAddr (a.tmps.getD t undef)):Sem Value).run P w= .ok v w/\RelW cfg g st.dead v x.1 x.2:=by
 cases rv with
 | tmp t=>
  have d:=h.env t
  simp only [ZaE] at he
  split at he <;> simp only [Option.some.injEq,reduceCtorEq] at he
  .rename_i c hc;rw [hc] at d;subst he;exact ⟨_,rfl,c,rfl,d⟩
  .rename_i cs hc;rw [hc] at d;subst he;exact ⟨_,rfl,d⟩
 | cell t ty=>
  have d:=h.env t
  simp only [ZaE] at he
  split at he
  .rename_i ag zs hv
   cases hrd:rd st (st.env t) ag zs.length with
   | none=> grind
   | some y=>
    obtain ⟨v,h1,u⟩:=ZdV (w:=w) ok h hv d hrd
    refine ⟨v,?_,?_⟩
    .have hp:∃ b,a.tmps.getD t undef= .pointer (some b):=by
      cases hx:st.env t with
      | ptr nm off=> rw [hx] at d;exact ⟨_,d.2⟩
      | ep cs=> rw [hx] at d;obtain ⟨b,s,_⟩:=d;grind
      | ap nm off k len i=> rw [hx] at d;exact ⟨_,d.2.2⟩
      | _=> rw [hx] at hrd;simp [rd] at hrd
     obtain ⟨b,s⟩:=hp
     rw [s] at h1
     show (do let x <-asAddr (a.tmps.getD t undef);loadVar ty x:Sem Value).run P w=_
     rw [s]
     trivial
    .rw [hrd] at he
     cases y <;> simp only [Option.some.injEq,reduceCtorEq] at he
     .subst he;exact ⟨_,rfl,u⟩
     .subst he;exact u
  .cases he
theorem Zg8(ok:CfgOk P cfg)(h:Rel cfg B st g a w):∀ {rs:List ResultVar} {ws:List (Bool × List (C U))},Z7A cfg st rs=some ws->
  ∃ vs,(rs.mapM fun rv=> (match rv with | .tmp t=> pure (a.tmps.getD t undef) | .cell t ty=> do loadVar ty (<-asAddr (a.tmps.getD t undef)):Sem Value)).run P w= .ok vs w/\RelWs cfg g st.dead vs ws
 | [],ws,he=> by
  simp only [Z7A,Option.some.injEq] at he
  subst he
  exact ⟨[],by simp,rfl,fun j u w s=> by simp at s⟩
 | r ::rs,ws,he=> by
  simp only [Z7A] at he
  split at he
  .rename_i x l hx hl
   simp only [Option.some.injEq] at he
   subst he
   obtain ⟨v,h1,d⟩:=ZpZ (w:=w) ok h hx
   obtain ⟨vs,h3,h4⟩:=Zg8 ok h hl
   refine ⟨v ::vs,?_,.cons d h4⟩
   simp_all
  .cases he
theorem Zq7{g:Gh}{live:Name->Bool}{r:V U}{ws:List (Bool × List (C U))}{vs:List Value}(hp:Zej r=some ws)(h:RelWs cfg g ZX vs ws):
  RelV cfg g ZX live (if hs:vs.toArray.size=1 then vs.toArray[0] else .tuple vs.toArray) r:=by
 cases r <;> simp only [Zej,Option.some.injEq,reduceCtorEq] at hp
 case c x=>
  subst hp
  obtain ⟨v,r,rfl,s,d⟩:=h.uncons
  have:r=[]:=Q3 (by simpa using d.1)
  subst this
  obtain ⟨c,hc,hr⟩:=s
  cases hc
  exact hr
 case agg cs=>
  subst hp
  obtain ⟨v,r,rfl,s,d⟩:=h.uncons
  have:r=[]:=Q3 (by simpa using d.1)
  subst this
  exact s
 case tup ws'=>
  split at hp
  .cases hp
  .rename_i hl
   simp only [Option.some.injEq] at hp
   subst hp
   have aa:vs.toArray.size≠1:=by have:=h.1;simpa [this] using hl
   rw [dif_neg aa]
   exact ⟨_,rfl,by simpa using h.1,fun j u w hu hw=> h.2 j u w (by simpa using hu) hw⟩
def ZcP(cfg:Cfg U)(a b:C U):Prop:=∀ g v,RelC cfg g ZX v a->RelC cfg g ZX v b
def Zfp(cfg:Cfg U)(a b:V U):Prop:=∀ g live v,RelV cfg g ZX live v a->RelV cfg g ZX live v b
structure BetterAll (cfg:Cfg U) (args args':List (V U)) (X X':List (List (C U))):Prop where
 len:args.length=args'.length
 args:∀ (j:Nat) x y,args[j]?=some x->args'[j]?=some y->Zfp cfg x y
 xlen:X.length=X'.length
 xl:∀ (k:Nat) x y,X[k]?=some x->X'[k]?=some y->x.length=y.length
 x:∀ (k:Nat) x y,X[k]?=some x->X'[k]?=some y->∀ (j:Nat) c c',x[j]?=some c->y[j]?=some c'->ZcP cfg c c'
theorem Entry.better{w:World}{g:Gh}{vs:List Value}{args args':List (V U)}{X X':List (List (C U))}{L L':List (Tok × LC U)}(h:Entry cfg w g vs args X L)(b:BetterAll cfg args args' X X')(hL:∀ t x,ZE (fun _=> none) L' t=some x->ZE (fun _=> none) L t=some x):Entry cfg w g vs args' X' L':=by
 refine ⟨h.inv,h.tags,h.len.trans b.len,fun j v y hv hy=> ?_,fun k cs hk j c u=> ?_,h.bs,fun t x d=> h.ls t x (hL t x d)⟩
 .have u:j < args.length:=by have:=(Q4.1 hy).1;have:=b.len;omega
  have d:=Q2 u
  have:=b.args j _ y d hy g _ v (h.args j v _ hv d)
  have hl:Z9h X'=Z9h X:=by
   funext nm
   cases nm with
   | loc s=> rfl
   | x k=>
    have ah:=b.xlen
    show (X'[k]?).isSome=(X[k]?).isSome
    grind
  grind
 .have aa:k < X.length:=by have:=(Q4.1 hk).1;have:=b.xlen;omega
  have d:=Q2 aa
  have ae:j < (X[k]).length:=by have:=(Q4.1 u).1;have:=b.xl k _ _ d hk;omega
  have hc:=Q2 ae
  obtain ⟨v,h1,h2,h3⟩:=h.x k _ d j _ hc
  exact ⟨v,h1,h2,b.x k _ _ d hk j _ c hc u g v h3⟩
theorem BetterAll.refl(args:List (V U))(X:List (List (C U))):BetterAll cfg args args X X:=
 ⟨rfl,fun j x y u d=> by rw [u] at d;cases d;exact fun _ _ _ h=> h,rfl,fun k x y u d=> by grind,
  fun k x y u d j c c' hc s=> by rw [u] at d;cases d;rw [hc] at s;cases s;exact fun _ _ h=> h⟩
theorem ZmD {Γ:Known U} {draws:Array Oper->FSt U->Bool} (ok:CfgOk P cfg) (hΓ:∀ f s,Γ f=some s->Contract P cfg f s) (hdr:Zaq P cfg Γ draws) {f:FuncId} {fn:Func} {c:Code} (lv:Zg U)
  (hf:P.funcs[f]?=some fn) (hb:fn.body=some c) {args:List (V U)} {X:List (List (C U))} {L:List (Tok × LC U)} {w:World} {g:Gh} {vs:List Value} (E:Entry cfg w g vs args X L) (hn:args.length<=fn.ntmps) {Q:AExit->LSt U->Prop}
  (hawp:awp cfg Γ draws fn.ntmps lv c (Z0W args X L) Q) {R:Ending->World->Prop}
  (hq:∀ u s' g' a' d,Q u s'->Rel cfg ⟨w,g.m,g.tag,fun k=> g.ad (.x k)⟩ (s'.toF fn.ntmps) g' a' d->(∀ id,u≠.exit id)/\a'.defers=[]/\∃ v,(results fn a'.tmps).run P d= .ok v d/\R (.returned v) d):Calls P f vs.toArray w R:=by
 let B:Base:=⟨w,g.m,g.tag,fun k=> g.ad (.x k)⟩
 have ar:vs.length<=fn.ntmps:=by rw [E.len];exact hn
 have aa:Rel cfg B ((Z0W args X L).toF fn.ntmps) g { tmps:=vs.toArray++Array.replicate (fn.ntmps - vs.toArray.size) undef,defers:=[] } w:=by
  refine ⟨E.inv,⟨⟨rfl,rfl,rfl,Qc _⟩,fun _=> rfl,fun _ _ h=> h,fun c t h=> ⟨h,rfl⟩,fun c t h=> h,fun b _ _=> ⟨rfl,fun _ _=> rfl⟩,fun _ _=> rfl⟩,?_,?_,?_,rfl,fun t x hx=> ⟨rfl,E.ls t x hx⟩,fun t ht _ _=> E.bs t ht⟩
  .intro k
   have hl:(fun nm:Name=> (((Z0W args X L).toF fn.ntmps).mem nm).isSome)=Z9h X:=by
    funext nm
    simp only [LSt.toF,Z0W,Z3e]
    cases nm <;> simp [Z9h]
   rw [hl]
   simp only [LSt.toF,Z0W,ZeQ,Xd,if_true,Nat.sub_zero]
   cases hx:args[k]? with
   | none=> exact trivial
   | some x=>
    have hk:k < vs.length:=by rw [E.len];exact (Q4.1 hx).1
    have hv:vs[k]?=some vs[k]:=Q2 hk
    have:=E.args k _ x hv hx
    have hg:(vs.toArray++Array.replicate (fn.ntmps - vs.toArray.size) undef).getD k undef=vs[k]:=by
     simp [Array.getD,hk]
     intro h;omega
    grind
  .intro nm cs hm j c hc
   simp only [LSt.toF,Z0W,Z3e] at hm
   cases nm with
   | loc s=> simp at hm
   | x k=>
    simp at hm
    exact E.x k cs hm j c hc
  .simp only [LSt.toF]
   grind
 have ai:=Zr1 (B:=B) ok hΓ hdr (n:=fn.ntmps) (lv:=lv) c _ _ g _ w hawp aa
 refine calls_of_wp (R:=R) (args:=vs.toArray) hf hb (wp_mono ai ?_)
 rintro e a' d ⟨u,s',g',rfl,hQ,hr⟩
 obtain ⟨h0,h1,h2⟩:=hq u s' g' a' d hQ hr
 cases u with
 | normal=> trivial
 | ret=> trivial
 | exit id=> grind
theorem Z4I {Γ:Known U} {draws:Array Oper->FSt U->Bool} (ok:CfgOk P cfg) (hΓ:∀ f s,Γ f=some s->Contract P cfg f s) (hdr:Zaq P cfg Γ draws) {f:FuncId} {fn:Func} {c:Code} {s:Fs U} (lv:Zg U)
  (hf : P.funcs[f]? = some fn) (hb : fn.body = some c) (hname : (fn.name == "runtime.NumGoroutine") = false)
  (hbody:∀ args X L ps r X' L',s.fn2 args X L=some (ps,r,X',L')->All ps->∃ args' X0 L0,BetterAll cfg args args' X X0/\(∀ t x,ZE (fun _=> none) L0 t=some x->ZE (fun _=> none) L t=some x)/\args'.length<=fn.ntmps/\awp cfg Γ draws fn.ntmps lv c (Z0W args' X0 L0) (Z3B cfg fn.ntmps fn.results.toList r X' L')):Contract P cfg f s:=by
 refine ⟨⟨fn,hf,by simp [hb],hname⟩,?_⟩
 intro al X1 L1 ps r X' L' hs a3 hX w g vs E1
 obtain ⟨args,X,L,af,hL,hn,aq⟩:=hbody al X1 L1 ps r X' L' hs a3
 have E:=E1.better af hL
 refine ZmD ok hΓ hdr lv hf hb E hn aq ?_
 .intro e' s' g' a' w' hQ hr
  have hE:ZgW cfg fn.ntmps fn.results.toList r X' L' s':=by cases e' <;> first | exact hQ | exact hQ.elim
  refine ⟨fun id e=> by subst e;exact hQ,?_⟩
  refine ⟨hr.df,?_⟩
  unfold ZgW at hE
  split at hE
  case h_2=> exact hE.elim
  rename_i ws be am ak
  obtain ⟨a4,hx⟩:=hE
  obtain ⟨us,h1,h2⟩:=Zg8 (w:=w') ok hr am
  have hd:∀ t,Z1p t=true->(s'.toF fn.ntmps).dead t=false:=fun t _=> rfl
  obtain ⟨h3,h4⟩:=Zg7 (cfg:=cfg) (g:=g') (st:=s'.toF fn.ntmps) hd ws 0 []
  obtain ⟨sx,h5,a1,h6⟩:=ZpD hr rfl (mem:=s'.mem) (fun _=> rfl) X' 0 _ hx
  let keep:Name->Bool:=fun nm=> match nm with | .x k=> decide (k < X'.length) | .loc _=> false
  have d:∀ c,g'.tag c=none->(g'.anew sx keep (fun _=> true)).tag c=none:=fun c hc=> by simp only [Gh.anew,hc]
  have ai:∀ c t,g'.tag c=some (.outer t)↔(g'.anew sx keep (fun _=> true)).tag c=some (.outer t):=by
   intro c t
   simp only [Gh.anew]
   cases hg:g'.tag c with
   | none=> simp
   | some t0=>
    cases t0 with
    | obj nm=> cases hk:keep nm <;> simp [hk]
    | tok u=> cases hk:YI sx u <;> simp [hk]
    | outer t0=> simp
  have hW:=h4 sx h5 _ (Gh.anew_ren sx keep (fun _=> true)).toRen us h2
  have ao:=Zq7 (live:=fun _=> false) ak (Zu4 a4 hW)
  refine ⟨_,?_,_,g'.anew sx keep (fun _=> true),rfl,⟨fun c v hv=> ?_,fun c t ht=> ?_⟩,?_,?_,?_,ao,?_,ZkO hr (fun _=> rfl) (Gh.anew_ren sx keep (fun _=> true)).toRen a1⟩
  .simp only [results,Sem.run_bind]
   have e1:fn.results=fn.results.toList.toArray:=by simp
   rw [e1,List.mapM_toArray]
   simp only [Sem.run_map,Sem.run_pure]
   exact congrArg (fun r:Result (List Value)=> (r.andThen fun a w'=> Result.ok a.toArray w').andThen fun a w'=> Result.ok (if h:a.size=1 then a[0] else Value.tuple a) w') h1
  .obtain ⟨h7,h8⟩:=hr.inv.im c v hv
   exact ⟨h7,d c h8⟩
  .cases hg:g'.tag c with
   | none=> rw [d c hg] at ht;cases ht
   | some t0=> exact hr.inv.it c t0 hg
  .have F:Fr ⟨w,g.m,g.tag,fun k=> g.ad (.x k)⟩ (g'.anew sx keep (fun _=> true)) w':=by
    refine hr.fr.step hr.inv (Evo.refl w' (fun _=> False)) (fun c hc=> hc.elim) (fun _ _ hv=> hv) (fun c t=> ai c t) ?_ (fun _=> rfl)
    intro b _ ar o sp
    cases hg:g'.tag ⟨b,o,sp⟩ with
    | none=> exact d _ hg
    | some t=>
     obtain ⟨t',rfl⟩:=ar o sp t hg
     exact (ai _ _).1 hg
   exact ⟨F.stay,fun _=> rfl,F.mono,F.outer,F.outer',F.clean,F.frz⟩
  .intro c t ht
   simp only [Gh.anew] at ht
   split at ht
   .rename_i u hu
    cases hn:YI sx u with
    | none=> simp [hn] at ht
    | some u'=> simp [hn] at ht;exact .inr (.inr ⟨u',ht.symm⟩)
   .rename_i nm bb
    cases hk:keep nm with
    | false=> simp [hk] at ht
    | true=>
     simp [hk] at ht
     subst ht
     cases nm with
     | loc s=> simp [keep] at hk
     | x k=> exact .inr (.inl ⟨k,by simpa [keep] using hk,rfl⟩)
   .cases ht;exact .inl ⟨_,rfl⟩
   .cases ht
  .exact fun k _=> hr.fr.xad k
  .intro k cs hk j c hc
   obtain ⟨v,h7,h8,h9⟩:=h6 sx (.refl _) _ (Gh.anew_ren sx keep (fun _=> true)) k cs hk j c hc
   rw [QM] at h7 h8
   refine ⟨v,h7,?_,h9⟩
   have a5:k < X'.length:=(Q4.1 hk).1
   show (g'.anew sx keep (fun _=> true)).tag ((g'.ad (.x k)).add j)=_
   simp only [Gh.anew,h8,keep,a5,decide_true,cond_true]
theorem Zcd {Γ:Known U} {draws:Array Oper->FSt U->Bool} (ok:CfgOk P cfg) (hΓ:∀ f s,Γ f=some s->Contract P cfg f s) (hdr:Zaq P cfg Γ draws) {f:FuncId} {fn:Func} {c:Code} {s:Fs U} (lv:Zg U)
  (hf : P.funcs[f]? = some fn) (hb : fn.body = some c) (hname : (fn.name == "runtime.NumGoroutine") = false)
  (hbody:∀ args X ps r X',s.fn args X=some (ps,r,X')->All ps->∃ d X0,BetterAll cfg args d X X0/\d.length<=fn.ntmps/\awp cfg Γ draws fn.ntmps lv c (Zi d X0) (ZF cfg fn.ntmps fn.results.toList r X')) (hd:s.fn2=Zf8 s.fn:=by rfl):Contract P cfg f s:=by
 refine Z4I ok hΓ hdr lv hf hb hname ?_
 intro args X L ps r X' L' u ab
 rw [hd] at u
 unfold Zf8 at u
 split at u
 .split at u
  .rename_i h1
   cases u
   obtain ⟨d,X0,h2,h3,h4⟩:=hbody args X _ _ _ h1 ab
   exact ⟨d,X0,[],h2,fun t x hx=> hx,h3,h4⟩
  .cases u
 .cases u
def Z2h(o:Oper):Bool:=
 match o.op with
 | .call c=> match c.callee with
  | .builtin .len=> false
  | _=> true
 | .makeSlice _ _ _=> true
 | .buildSlice _ _ parts=> Z4J parts.toList
 | _=> false
structure Fp where
 touch:List Name
 writes:List Name
 kills:Bool
 touchT:List Tok
 writesT:List Tok
 allT:Bool
def Z0t(Γ:Known U)(o:Oper)(st:FSt U):Bool:=
 match o.op with
 | .call c=> match c.callee with
  | .value g=> match st.strip.opnd g with
   | some (.fn f)=> Z8a Γ (some (.fn f))
   | some (.clo f _)=> Z8a Γ (some (.fn f))
   | _=> false
  | _=> false
 | _=> false
def ZqM(Γ:Known U)(o:Oper)(st:FSt U)(e:Eff U):Fp:={ allT:=Z0t Γ o st,touch:=touch o st,writes:=e.mem.map (·.1),kills:= !e.kill.isEmpty,touchT:=touchT o st,writesT:=e.kill++e.ls.map (·.1) }
def ZiG(l:List Tok)(t:Tok):Bool:=
 match l with
 | []=> false
 | a ::r=> if a=t then true else ZiG r t
def ZeF(a b:List Tok):Bool:=a.any fun x=> ZiG b x
def noR(d:Nat)(a:List Tok):Bool:=a.all fun t=> match t with
 | .r d' _=> !Nat.beq d' d
 | _=> true
def ZlA(a b:List Name):Bool:=a.any fun x=> J6 b x
def Zi3(ops:Array Oper)(x y:Oper)(a b:Fp):Bool:=
 x.apart ops y && y.apart ops x && !ZlA a.writes b.touch && !ZlA b.writes a.touch && !ZlA a.writes b.writes && !(a.kills && Z2h y) && !(b.kills && Z2h x) &&
  !ZeF a.writesT b.touchT && !ZeF b.writesT a.touchT && !ZeF a.writesT b.writesT && noR (y.dst.getD 0) a.writesT && noR (x.dst.getD 0) b.writesT &&
  (a.writesT.isEmpty || !b.allT) && (b.writesT.isEmpty || !a.allT)
structure Alike (Γ:Known U) (o:Oper) (ops:Array Oper) (st st':FSt U):Prop where
 n:st'.n=st.n
 env:∀ t,t∈o.looksAt ops->st'.env t=st.env t
 mem:∀ nm,nm∈touch o st->st'.mem nm=st.mem nm
 dead:Z2h o=true->st'.dead=st.dead
 mu:st'.mu=st.mu
 vw:st'.vw=st.vw
 ls:∀ t,t∈touchT o st->st'.ls t=st.ls t
 fr:∀ j,st'.ls (.r (o.dst.getD 0) j)=st.ls (.r (o.dst.getD 0) j)
 all:Z0t Γ o st=true->st'.ls=st.ls
theorem Alike.tok{o:Oper}{ops:Array Oper}{Γ:Known U}{st st':FSt U}(h:Alike Γ o ops st st'){x:Operand}(hx:x∈JP o){v:V U}(hv:st.strip.opnd x=some v){t:Tok}(ht:t∈v.toks):st'.ls t=st.ls t:=
 h.ls t (List.mem_flatMap.2 ⟨x,hx,by grind⟩)
theorem Z9g{st st':FSt U}{d:Nat}(hd:st'.dead=st.dead)(hf:∀ j,st'.ls (.r d j)=st.ls (.r d j)):∀ (L:List (Tok × LC U)),Z0A st' d L=Z0A st d L
 | []=> rfl
 | (t,x) ::L=> by
  simp only [Z0A,Z9g hd hf L]
  cases hb:ZZ d t with
  | none=> rfl
  | some t'=>
   have e:∃ j,t'= .r d j:=by
    unfold ZZ at hb
    split at hb
    .grind
    .grind
    .cases hb
   grind
theorem Alike.opnd{o:Oper}{ops:Array Oper}{Γ:Known U}{st st':FSt U}(h:Alike Γ o ops st st'){x:Operand}(hx:x∈o.op.operands.toList):st'.opnd x=st.opnd x/\st'.strip.opnd x=st.strip.opnd x:=by
 cases x with
 | tmp t=>
  have d:t∈o.looksAt ops:=QX _ (Xu.2 ⟨.tmp t,hx,rfl⟩)
  have:=h.env t d
  exact ⟨by simp [FSt.opnd,this],by simp [FSt.opnd,FSt.strip,this]⟩
 | const c=> trivial
 | global g=> trivial
 | func f=> trivial
theorem ZsF{st st':FSt U}{p:V U}{ag:Bool}{n:Nat}(h:∀ nm,nm∈ZU (some p)->st'.mem nm=st.mem nm):rd st' p ag n=rd st p ag n:=by
 cases p <;> simp only [rd]
 case ptr nm off=> rw [h nm (by simp [ZU])]
 case ap nm off k len i=> rw [h nm (by simp [ZU])]
theorem Z5n{st st':FSt U}(hd:st'.dead=st.dead)(ps:Nat->Bool):∀ (xs:List (V U)) (i:Nat) (os:List (Name × List (C U))) (d:List (Tok × Tok)),
  (∀ x,x∈xs->∀ nm,nm∈ZU (some x)->st'.mem nm=st.mem nm)->YG st' ps i xs os d=YG st ps i xs os d
 | [],i,os,d,_=> rfl
 | x ::xs,i,os,d,h=> by
  have u:=fun i os d=> Z5n hd ps xs i os d (fun y hy=> h y (by simp [hy]))
  simp only [YG,hd,u]
  cases hp:Zq4 x with
  | none=> rfl
  | some nm=>
   have e:st'.mem nm.1=st.mem nm.1:=by
    refine h x (by simp) nm.1 ?_
    cases x <;> simp only [Zq4,reduceCtorEq] at hp
    .cases hp;simp [ZU]
    .split at hp
     .grind
     .rename_i s;cases s;cases hp;simp [ZU]
     .cases hp
   simp only [e]
theorem ZaT{l:List Name}{nm:Name}(h:nm∈l):nm∈ZfM l:=by
 cases l with
 | nil=> cases h
 | cons a l=> exact QX _ h
theorem Zrf{l:List Name}{k:Nat}(hk:k < 8)(hl:l≠[]):Name.x k∈ZfM l:=by
 cases l with
 | nil=> grind
 | cons a l=>
  refine Xl _ ?_
  grind
theorem ZaX:∀ {cs:List (C U)} {hv:List Name} {nm:Name},nm∈ZgA cs hv->nm∈hv\/∃ k,k < 8/\nm= .x k
 | [],hv,nm,h=> .inl h
 | c ::cs,hv,nm,h=> by
  cases c with
  | xp k=>
   simp only [ZgA] at h
   rcases ZaX h with h | h
   .split at h
    .rename_i hc
     rw [Q0] at hc
     rcases Qk.1 h with h | h
     .exact .inl h
     .exact .inr ⟨k,by simpa using hc.1,by simpa using h⟩
    .exact .inl h
   .exact .inr h
  | _=> exact ZaX (by simpa only [ZgA] using h)
theorem Zgz{st:FSt U}:∀ {l hv:List Name} {nm:Name},nm∈Z7h st l hv->nm∈hv\/(l≠[]/\∃ k,k < 8/\nm= .x k)
 | [],hv,nm,h=> .inl h
 | a ::l,hv,nm,h=> by
  simp only [Z7h] at h
  rcases Zgz h with h | ⟨_,h⟩
  .split at h
   .rcases ZaX h with h | h
    .exact .inl h
    .exact .inr ⟨by simp,h⟩
   .exact .inl h
  .exact .inr ⟨by simp,h⟩
theorem Zc4{st st':FSt U}:∀ {l hv:List Name},(∀ nm∈l,st'.mem nm=st.mem nm)->Z7h st' l hv=Z7h st l hv
 | [],hv,_=> rfl
 | a ::l,hv,h=> by
  simp only [Z7h,h a (by simp)]
  exact Zc4 fun nm d=> h nm (by simp [d])
theorem Z04:∀ {vs:List (V U)} {nm:Name},nm∈J9 vs->∃ x∈vs,nm∈ZU (some x)
 | [],nm,h=> by cases h
 | v ::vs,nm,h=> by
  simp only [J9] at h
  split at h
  .rename_i n mk d
   rcases Q7.1 h with rfl | h
   .refine ⟨v,by simp,?_⟩
    cases v <;> simp only [Zq4,reduceCtorEq] at d
    .cases d;simp [ZU]
    .split at d
     .grind
     .rename_i s;cases s;cases d;simp [ZU]
     .cases d
   .obtain ⟨x,h1,u⟩:=Z04 h
    grind
  .obtain ⟨x,h1,u⟩:=Z04 h
   grind
theorem Z2E{st:FSt U}{ps:Nat->Bool}:∀ {xs:List (V U)} {i:Nat} {os:List (Name × List (C U))} {seen:List (Tok × Tok)} {ys:List (V U)} {os':List (Name × List (C U))} {seen':List (Tok × Tok)},
  YG st ps i xs os seen=some (ys,os',seen')->os'.map (·.1)=os.map (·.1)++J9 xs
 | [],i,os,seen,ys,os',seen',h=> by
  simp only [YG,oP] at h
  obtain ⟨_,rfl,_⟩:=h
  simp [J9]
 | x ::xs,i,os,seen,ys,os',seen',h=> by
  simp only [YG] at h
  split at h
  .rename_i nm mk s
   split at h
   .cases h
   split at h
   .cases h
   split at h
   .rename_i d
    simp only [oP] at h
    obtain ⟨_,rfl,_⟩:=h
    have:=Z2E d
    simp only [J9,s]
    grind
   .cases h
  .rename_i s
   split at h
   .cases h
   split at h
   .rename_i d
    simp only [oP] at h
    obtain ⟨_,rfl,_⟩:=h
    have:=Z2E d
    simp only [J9,s]
    exact this
   .cases h
theorem Zkv{st:FSt U}{vs:List (V U)}{base:List Name}(hs:∀ x∈vs,∀ nm∈ZU (some x),nm∈base):∀ x∈vs++Z1N st vs,∀ nm∈ZU (some x),nm∈ZfM base:=by
 intro x d nm h
 rcases Qk.1 d with d | d
 .exact ZaT (hs x d nm h)
 .unfold Z1N at d
  obtain ⟨n,h1,rfl⟩:=X3.1 d
  simp only [ZU,Qi] at h
  subst h
  rcases Zgz (X7 h1) with h2 | ⟨h2,k,hk,rfl⟩
  .obtain ⟨y,u,s⟩:=Z04 h2
   exact ZaT (hs y u _ s)
  .refine Zrf hk fun e=> ?_
   cases ha:J9 vs with
   | nil=> exact h2 ha
   | cons b l=>
    obtain ⟨y,u,s⟩:=Z04 (show b∈J9 vs by rw [ha];simp)
    grind
theorem Zci {Γ:Known U} {st st':FSt U} {d:Nat} {f:FuncId} {vs:List (V U)} {base:List Name} (hd:st'.dead=st.dead) (hs:∀ x∈vs,∀ nm∈ZU (some x),nm∈base) (hm:∀ nm∈ZfM base,st'.mem nm=st.mem nm)
  (hB:∀ L,Z0A st' d L=Z0A st d L) (hW:∀ s,Γ.fn f=some s->∀ toks c,(bif s.wr then Z0e st'.ls toks c else [])=(bif s.wr then Z0e st.ls toks c else []:List (Tok × LC U))):Z7n Γ st' d f vs=Z7n Γ st d f vs:=by
 unfold Z7n
 cases hG:Γ.fn f with
 | none=> rfl
 | some s=>
  have hx:Z1N st' vs=Z1N st vs:=by
   unfold Z1N
   rw [Zc4]
   intro nm u
   obtain ⟨x,h1,h2⟩:=Z04 u
   exact hm nm (ZaT (hs x h1 nm h2))
  have u:=Zkv (st:=st) hs
  simp only [hB,hW s hG,hx]
  rw [Z5n (st:=st) (st':=st') hd _ _ _ _ _ (fun x h nm ae=> hm nm (u x h nm ae))]
  cases hp:YG st s.pass 0 (vs++Z1N st vs) [] [] with
  | none=> rfl
  | some r=>
   obtain ⟨ys,os,toks⟩:=r
   have e:(os.map fun x=> ZqN st' os (x.2,x.1))=os.map fun x=> ZqN st os (x.2,x.1):=by
    apply XV
    intro x h
    have h1:x.1∈os.map (·.1):=X3.2 ⟨x,h,rfl⟩
    rw [Z2E hp] at h1
    obtain ⟨y,h2,h3⟩:=Z04 (show x.1∈J9 (vs++Z1N st vs) by simpa using h1)
    simp only [ZqN,hm _ (u y h2 _ h3)]
   simp only [e]
theorem Z7Q{st st':FSt U}{x:Option Operand}(h:∀ y,x=some y->st'.opnd y=st.opnd y):Z0I st' x=Z0I st x:=by
 cases x with
 | none=> rfl
 | some y=> simp only [Z0I,h y rfl]
theorem Z2H{α β:Type}{f f':α->Option β}:∀ {l:List α},(∀ x,x∈l->f' x=f x)->l.mapM f'=l.mapM f
 | [],_=> rfl
 | x ::l,h=> by rw [QV,QV,h x (by simp),Z2H (fun y d=> h y (by simp [d]))]
theorem Zr3{Γ:Known U}{o:Oper}{ops:Array Oper}{st st':FSt U}(h:Alike Γ o ops st st'):aop cfg Γ o st'.strip=aop cfg Γ o st.strip:=by
 have ab:=fun {x:Operand} (hx:x∈o.op.operands.toList)=> (h.opnd hx).2
 have hm:=h.mem
 have hd:=h.dead
 have ah:=fun {x:Operand} (hx:x∈JP o) {v:V U} (hv:st.strip.opnd x=some v) {t:Tok} (ht:t∈v.toks)=> h.tok hx hv ht
 have av:=h.mu
 have al:=h.fr
 have ao:=h.all
 obtain ⟨aj,op,bb,bg,a6,ba⟩:=o
 cases op <;> simp only [aop]
 case move x=> rw [ab (by simp [Op.operands])]
 case assign x=> rw [ab (by simp [Op.operands])]
 case alloc t=>
  cases aj with
  | none=> rfl
  | some d=>
   have:st'.strip.mem (.loc d)=st.strip.mem (.loc d):=hm (.loc d) (by simp [touch])
   cases cfg.var t with
   | none=> rfl
   | some z=> simp only [this]
 case box t x=>
  cases aj with
  | none=> rfl
  | some d=>
   have:st'.strip.mem (.loc d)=st.strip.mem (.loc d):=hm (.loc d) (by simp [touch])
   rw [ab (x:=x) (by simp [Op.operands])]
   cases cfg.var t with
   | none=> rfl
   | some z=>
    cases (st.strip.opnd x).bind V.cells with
    | none=> rfl
    | some cs=> simp only [this]
 case build t parts=>
  rw [Z2H (f:=fun x=> ((st.strip.opnd x.2).bind V.cells).map (x.1,·))]
  intro x hx
  rw [ab (by simp only [Op.operands];simp;exact ⟨x.1,by simpa using hx⟩)]
 case buildSlice t n parts=>
  rw [Z2H (f:=fun x=> (st.strip.opnd x.2).map (x.1,·)) (by
   intro x hx
   rw [ab (by simp only [Op.operands];simp;exact ⟨x.1,by simpa using hx⟩)])]
  have af:st'.strip.mu=st.strip.mu:=av
  cases hc:Z4J parts.toList with
  | false=> simp only [Bool.and_false,cond_false]
  | true=>
   have e1:st'.strip.dead=st.strip.dead:=hd hc
   cases aj with
   | none=> simp only [ZcO,af]
   | some d=>
    have e2:st'.strip.ls (.r d 0)=st.strip.ls (.r d 0):=al 0
    simp only [ZcO,af,e1,e2]
 case load t p=>
  rw [ab (by simp [Op.operands])]
  cases cfg.var t with
  | none=> rfl
  | some z=>
   cases hp:st.strip.opnd p with
   | none=> rfl
   | some v=>
    have:rd st'.strip v z.1 z.2.length=rd st.strip v z.1 z.2.length:=ZsF fun nm ai=> hm nm (by simp only [touch];rw [hp];exact ai)
    cases v <;> first | (simp only [this];done) | skip
    case c c=> cases c <;> first | rfl | (simp only [this];done)
    case mp u n off=>
     have:st'.strip.ls u=st.strip.ls u:=ah (x:=p) (by simp [JP]) hp (by simp [V.toks])
     simp only [this]
 case store t p x=>
  rw [ab (x:=p) (by simp [Op.operands]),ab (x:=x) (by simp [Op.operands])]
  cases cfg.var t with
  | none=> rfl
  | some z=>
   cases hp:st.strip.opnd p with
   | none=> rfl
   | some v=>
    cases v <;> try rfl
    case mp u n off=>
     have:st'.strip.ls u=st.strip.ls u:=ah (x:=p) (by simp [JP]) hp (by simp [V.toks])
     cases (st.strip.opnd x).bind V.cells with
     | none=> rfl
     | some cs=> simp only [this]
    case ptr nm off=>
     have:st'.strip.mem nm=st.strip.mem nm:=hm nm (by simp only [touch];rw [hp];simp [ZU])
     cases (st.strip.opnd x).bind V.cells with
     | none=> rfl
     | some cs=> simp only [this]
    case ap nm off k len n=>
     have:st'.strip.mem nm=st.strip.mem nm:=hm nm (by simp only [touch];rw [hp];simp [ZU])
     cases (st.strip.opnd x).bind V.cells with
     | none=> rfl
     | some cs=>
      match cs with
      | []=> rfl
      | [c]=> cases c <;> first | rfl | simp only [this]
      | c ::_ ::_=> cases c <;> rfl
 case nilCheck x=>
  rw [ab (by simp [Op.operands])]
  cases hp:st.strip.opnd x with
  | none=> rfl
  | some v=>
   cases v <;> try rfl
   case c c=> cases c <;> rfl
   case mp u n off=>
    have:st'.strip.ls u=st.strip.ls u:=ah (x:=x) (by simp [JP]) hp (by simp [V.toks])
    simp only [this]
 case binOp bop t x y t'=> rw [ab (x:=x) (by simp [Op.operands]),ab (x:=y) (by simp [Op.operands])]
 case unOp uop t x=> rw [ab (by simp [Op.operands])]
 case convert src dst' x=> rw [ab (by simp [Op.operands])]
 case makeSlice t n m=>
  rw [ab (x:=n) (by simp [Op.operands]),ab (x:=m) (by simp [Op.operands])]
  have af:st'.strip.mu=st.strip.mu:=av
  have e1:st'.strip.dead=st.strip.dead:=hd rfl
  cases aj with
  | none=> simp only [Ziy,af]
  | some d=>
   have e2:st'.strip.ls (.r d 0)=st.strip.ls (.r d 0):=al 0
   simp only [Ziy,af,e1,e2]
 case slice t x lo hi mx=>
  rw [ab (x:=x) (by simp [Op.operands]),Z7Q (x:=lo) (fun y hy=> ab (by simp [Op.operands,hy])),Z7Q (x:=hi) (fun y hy=> ab (by simp [Op.operands,hy])),Z7Q (x:=mx) (fun y hy=> ab (by simp [Op.operands,hy]))]
  cases hp:st.strip.opnd x with
  | none=> rfl
  | some v=>
   cases v
   case ptr nm off=>
    have:st'.strip.mem nm=st.strip.mem nm:=hm nm (by simp only [touch];rw [hp];simp [ZU])
    cases Z0I st.strip lo with
    | none=> rfl
    | some a=>
     cases Z0I st.strip hi with
     | none=> cases a <;> rfl
     | some b=>
      cases Z0I st.strip mx with
      | none=> cases a <;> cases b <;> rfl
      | some c=> cases a <;> cases b <;> cases c <;> first | rfl | simp only [this]
   case c c=>
    have a7:st'.strip.vw=st.strip.vw:=h.vw
    cases c
    case mref u=>
     have:st'.strip.ls u=st.strip.ls u:=ah (x:=x) (by simp [JP]) hp (by simp [V.toks])
     rcases Z0I st.strip lo with _ | _ | v
     case some.some=>
      cases v
      case c c=> cases c <;> rcases Z0I st.strip hi with _ | _ | _ <;> rcases Z0I st.strip mx with _ | _ | _ <;> first | rfl | simp only [this,a7]
      all_goals (cases Z0I st.strip hi <;> cases Z0I st.strip mx <;> rfl)
     all_goals (cases Z0I st.strip hi <;> cases Z0I st.strip mx <;> rfl)
    all_goals (cases Z0I st.strip lo <;> cases Z0I st.strip hi <;> cases Z0I st.strip mx <;> rfl)
   all_goals (cases Z0I st.strip lo <;> cases Z0I st.strip hi <;> cases Z0I st.strip mx <;> rfl)
 case fieldAddr t x f=>
  rw [ab (by simp [Op.operands])]
  cases hp:st.strip.opnd x with
  | none=> rfl
  | some v=>
   cases cfg.fld t f with
   | none=> cases v with
    | c c=> cases c <;> rfl
    | _=> rfl
   | some z=>
    cases v <;> try rfl
    case c c=> cases c <;> rfl
    case mp u n off=>
     have:st'.strip.ls u=st.strip.ls u:=ah (x:=x) (by simp [JP]) hp (by simp [V.toks])
     simp only [this]
 case makeFunc f first caps=>
  rw [Z2H (f:=fun x=> (st.strip.opnd x).bind Zq3)]
  intro x hx
  rw [ab (by simp only [Op.operands];simp;right;simpa using hx)]
 case field t x f=> rw [ab (by simp [Op.operands])]
 case indexAddr t x i=>
  rw [ab (x:=x) (by simp [Op.operands]),ab (x:=i) (by simp [Op.operands])]
  cases hp:st.strip.opnd x with
  | none=> rfl
  | some v=>
   cases hi:st.strip.opnd i with
   | none=> cases v <;> first | rfl | (rename_i y;cases y <;> rfl)
   | some vi=>
    cases vi <;> first | (cases v <;> first | (rfl;done) | (rename_i y;cases y <;> (rfl;done));done) | skip
    case c z=>
     cases z <;> first | (cases v <;> first | (rfl;done) | (rename_i y;cases y <;> (rfl;done));done) | skip
     case int k n=>
      cases v <;> first | (rfl;done) | skip
      case c y=>
       cases y <;> first | (rfl;done) | skip
       case mref u=>
        have:st'.strip.ls u=st.strip.ls u:=ah (x:=x) (by simp [JP]) hp (by simp [V.toks])
        simp only [this]
 case index t x i=> rw [ab (x:=x) (by simp [Op.operands]),ab (x:=i) (by simp [Op.operands])]
 case extract x i=> rw [ab (by simp [Op.operands])]
 case call c=>
  unfold ZiA
  cases hc:c.callee with
  | builtin b=>
   simp only
   have hx:∀ x∈c.args.toList,st'.strip.opnd x=st.strip.opnd x:=fun x hx=> ab (by simp [Op.operands,Call.operands,hc];simpa using hx)
   unfold Zfo
   split
   .rename_i x t aa au
    rw [hx x (by rw [aa];simp)]
    cases hp:st.strip.opnd x with
    | none=> rfl
    | some v=>
     have:lenOf cfg st'.strip t v=lenOf cfg st.strip t v:=by
      cases v <;> try rfl
      case c y=>
       cases y <;> try rfl
       case mref u=>
        have:st'.strip.ls u=st.strip.ls u:=ah (x:=x) (by simp only [JP,hc];rw [aa];simp) hp (by simp [V.toks])
        simp only [lenOf,this]
     simp only [this]
   .rename_i x y t t' aa au
    rw [hx x (by rw [aa];simp),hx y (by rw [aa];simp)]
    have ak:st'.dead=st.dead:=hd (by simp only [Z2h,hc])
    have:∀ d t x y,Z6W cfg st'.strip d t x y=Z6W cfg st.strip d t x y:=fun d t x y=> by simp only [Z6W,FSt.strip,ak]
    have af:st'.strip.mu=st.strip.mu:=av
    cases aj with
    | none=> rfl
    | some d=>
     cases hp:st.strip.opnd x with
     | none=> rfl
     | some v=>
      cases v <;> try rfl
      case c cx=>
       have hM:∀ t y,Z4i cfg st'.strip d t cx y=Z4i cfg st.strip d t cx y:=by
        intro t y
        have e1:st'.strip.dead=st.strip.dead:=ak
        have e2:st'.strip.ls (.r d 0)=st.strip.ls (.r d 0):=al 0
        have e3:∀ T,Z7m cfg st'.strip T cx=Z7m cfg st.strip T cx:=by
         intro T
         cases cx <;> simp only [Z7m,e1]
         case mref u=>
          have:st'.strip.ls u=st.strip.ls u:=ah (x:=x) (by simp only [JP,hc];rw [aa];simp) hp (by simp [V.toks])
          simp only [this]
        simp only [Z4i,e1,e2,e3]
       have hZ:∀ t t' y,Z4h cfg st'.strip d t t' cx y=Z4h cfg st.strip d t t' cx y:=by
        intro t t' y
        have e1:st'.strip.dead=st.strip.dead:=ak
        have e2:st'.strip.ls (.r d 0)=st.strip.ls (.r d 0):=al 0
        have e3:∀ T,Z7m cfg st'.strip T cx=Z7m cfg st.strip T cx:=by
         intro T
         cases cx <;> simp only [Z7m,e1]
         case mref u=>
          have:st'.strip.ls u=st.strip.ls u:=ah (x:=x) (by simp only [JP,hc];rw [aa];simp) hp (by simp [V.toks])
          simp only [this]
        simp only [Z4h,e1,e2,e3]
       cases hq:st.strip.opnd y with
       | none=> rfl
       | some vy=> cases vy <;> first | (rfl;done) | (simp only [this,hM,hZ,af])
   .rename_i x t aa au
    rw [hx x (by rw [aa];simp)]
    cases hp:st.strip.opnd x with
    | none=> rfl
    | some v=>
     cases v <;> try rfl
     case vw u n=>
      have:st'.strip.ls u=st.strip.ls u:=ah (x:=x) (by simp only [JP,hc];rw [aa];simp) hp (by simp [V.toks])
      simp only [Ziz,this]
   .rename_i x y t t' aa au
    rw [hx x (by rw [aa];simp),hx y (by rw [aa];simp)]
    cases hp:st.strip.opnd x with
    | none=> rfl
    | some v=>
     cases v <;> try rfl
     case vw u n=>
      have:st'.strip.ls u=st.strip.ls u:=ah (x:=x) (by simp only [JP,hc];rw [aa];simp) hp (by simp [V.toks])
      cases st.strip.opnd y with
      | none=> rfl
      | some vy=> cases vy <;> first | rfl | simp only [ZpB,this]
   .rename_i x y aa
    rw [hx x (by rw [aa];simp),hx y (by rw [aa];simp)]
   .rename_i x y aa
    rw [hx x (by rw [aa];simp),hx y (by rw [aa];simp)]
   .try rfl
  | value gx=>
   simp only
   have ak:st'.dead=st.dead:=hd (by simp only [Z2h,hc])
   have hx:∀ x∈c.args.toList,st'.strip.opnd x=st.strip.opnd x:=fun x hx=> ab (by simp [Op.operands,Call.operands,hc];right;simpa using hx)
   rw [ab (x:=gx) (by simp [Op.operands,Call.operands,hc]),Z2H (f:=st.strip.opnd) hx]
   cases hg:st.strip.opnd gx with
   | none=> rfl
   | some v=>
    have ay:∀ (vs:List (V U)),c.args.toList.mapM st.strip.opnd=some vs->∀ x∈vs,∀ nm∈ZU (some x),nm∈ZU (some v)++c.args.toList.flatMap fun x=> ZU (st.strip.opnd x):=by
     intro vs hv x a8 nm ai
     obtain ⟨j,hj,rfl⟩:=Xf a8
     have bd:=(mapM_len hv)
     have a3:j < c.args.toList.length:=V0
     obtain ⟨y,h1,h2⟩:=Z5w hv j _ (Q2 a3)
     rw [Q2 hj] at h1
     cases h1
     exact Xl _ (List.mem_flatMap.2 ⟨_,List.getElem_mem a3,by rw [h2];exact ai⟩)
    have a2:∀ nm∈ZfM (ZU (some v)++c.args.toList.flatMap fun x=> ZU (st.strip.opnd x)),st'.strip.mem nm=st.strip.mem nm:=by
     intro nm ai
     refine hm nm ?_
     simp only [touch,hc,hg]
     exact Q1 _ ai
    have hB:∀ L,Z0A st'.strip (aj.getD 0) L=Z0A st.strip (aj.getD 0) L:=Z9g (st:=st.strip) (st':=st'.strip) ak al
    have hW:∀ f',(v= .fn f'\/∃ nms,v= .clo f' nms)->∀ s,Γ.fn f'=some s->∀ toks c,(bif s.wr then Z0e st'.strip.ls toks c else [])=(bif s.wr then Z0e st.strip.ls toks c else []:List (Tok × LC U)):=by
     intro f' hv s hG toks c'
     cases hw:s.wr with
     | false=> rfl
     | true=>
      have:st'.ls=st.ls:=ao (by
       rcases hv with rfl | ⟨nms,rfl⟩ <;> simp only [Z0t,hc,hg,Z8a,hG,hw,Bool.true_or])
      simp only [cond_true,FSt.strip,this]
    cases v <;> try rfl
    case fn f=>
     cases hv:c.args.toList.mapM st.strip.opnd with
     | none=> rfl
     | some vs=>
      simp only
      cases hb:Zu1 Γ f with
      | false=>
       cases hmk:ZAr Γ f with
       | false=> exact Zci ak (ay vs hv) a2 hB (hW f (.inl rfl))
       | true=>
        have:st'.strip.mem (.loc (aj.getD 0))=st.strip.mem (.loc (aj.getD 0)):=hm _ (by simp [touch,hc])
        simp only [cond_true,cond_false,Zr8,this]
      | true=>
       have:st'.ls=st.ls:=ao (by
        unfold Zu1 at hb
        split at hb
        .rename_i s hG;simp only [Z0t,hc,hg,Z8a,hG,hb,Bool.or_true]
        .cases hb)
       have e:V.lend st'.strip=V.lend st.strip:=by
        have e2:C.lend st'.strip=C.lend st.strip:=by
         funext c
         cases c <;> simp only [C.lend,FSt.strip,this]
        funext v
        cases v <;> simp only [V.lend,e2]
       simp only [cond_true,ZgU,e]
    case clo f nms=>
     cases hv:c.args.toList.mapM st.strip.opnd with
     | none=> rfl
     | some vs=>
      refine Zci ak (fun x hx nm ai=> ?_) a2 hB (hW f (.inr ⟨nms,rfl⟩))
      rcases Qk.1 hx with hx | hx
      .exact ay vs hv x hx nm ai
      .obtain ⟨bh,h1,rfl⟩:=X3.1 hx
       simp only [ZU,Qi] at ai
       subst ai
       exact QX _ (by simpa [ZU] using h1)
  | invoke r m=> rfl
where
 mapM_len {f:Operand->Option (V U)}:∀ {xs:List Operand} {vs:List (V U)},xs.mapM f=some vs->xs.length=vs.length:=by
  intro xs
  induction xs with
  | nil=> intro vs h;simp at h;subst h;rfl
  | cons y xs ih=>
   intro vs h
   rw [QV] at h
   cases h1:f y with
   | none=> simp [h1] at h
   | some v=>
    cases h2:xs.mapM f with
    | none=> simp [h1,h2] at h
    | some r=>
     simp [h1,h2] at h
     subst h
     simp [ih h2]
theorem Zag{st st':FSt U}{G:Option Bool}:∀ {l:List Operand},(∀ t,Operand.tmp t∈l->st'.env t=st.env t)->Z0g st' G l=Z0g st G l
 | [],_=> rfl
 | x ::l,h=> by
  have s:=Zag (l:=l) (G:=G) (fun t d=> h t (by simp [d]))
  cases x with
  | tmp t=> simp only [Z0g,h t (by simp),s]
  | _=> trivial
theorem Zc8{tyEq:DecidableEq U.Ty}{G:Bool}{m0 m1:Name->Option (List (C U))}:∀ {m:List (Name × List (C U))},(∀ x∈m,m1 x.1=m0 x.1)->Z3h tyEq G m1 m=Z3h tyEq G m0 m
 | [],_=> rfl
 | (nm,cs) ::r,h=> by
  simp only [Z3h,h (nm,cs) (by simp),Zc8 (m:=r) (fun x d=> h x (by simp [d]))]
theorem Z5u{l:List Name}{nm:Name}:J6 l nm=true↔nm∈l:=by
 refine ⟨?_,Z5t⟩
 induction l with
 | nil=> intro h;cases h
 | cons x l ih=>
  intro h
  simp only [J6] at h
  grind
theorem Z4W{o:Oper}{ops:Array Oper}{st st':FSt U}(h:∀ t,t∈o.looksAt ops->st'.env t=st.env t):touch o st'=touch o st:=by
 have d:∀ {x:Operand},x∈o.op.operands.toList->st'.strip.opnd x=st.strip.opnd x:=by
  intro x s
  cases x with
  | tmp t=> simp [FSt.opnd,FSt.strip,h t (QX _ (Xu.2 ⟨.tmp t,s,rfl⟩))]
  | _=> rfl
 obtain ⟨ah,op,ab,af,aa,u⟩:=o
 cases op <;> simp only [touch]
 case load t p=> rw [d (by simp [Op.operands])]
 case store t p x=> rw [d (by simp [Op.operands])]
 case slice t x lo hi mx=> rw [d (by simp [Op.operands])]
 case call c=>
  have:∀ (l:List Operand),(∀ x∈l,x∈c.args.toList)->(l.flatMap fun x=> ZU (st'.strip.opnd x))=l.flatMap fun x=> ZU (st.strip.opnd x):=by
   intro l
   induction l with
   | nil=> intro _;rfl
   | cons x l ih=>
    intro hl
    rw [XI,XI,ih (fun y hy=> hl y (by simp [hy])),d (by
     have:=hl x (by simp)
     cases hc:c.callee <;> simp [Op.operands,Call.operands,hc] <;> first | (right;simpa using this) | simpa using this)]
  rw [this _ (fun x s=> s)]
  cases hc:c.callee with
  | value gx=> simp only [d (x:=gx) (by simp [Op.operands,Call.operands,hc])]
  | builtin b=> rfl
  | invoke r m=> rfl
theorem Zlh{o:Oper}{x:Operand}(h:x∈JP o):x∈o.op.operands.toList:=by
 obtain ⟨ab,op,u,aa,s,d⟩:=o
 cases op <;> simp only [JP] at h <;> (try (cases h;done))
 case load t p=> trivial
 case store t p x=> simp only [Qi] at h;subst h;simp [Op.operands]
 case nilCheck x=> trivial
 case fieldAddr t x f=> trivial
 case indexAddr t x i=> simp only [Qi] at h;subst h;simp [Op.operands]
 case slice t x lo hi mx=> simp only [Qi] at h;subst h;simp [Op.operands]
 case call c=>
  cases hc:c.callee <;> rw [hc] at h <;> (try (cases h;done))
  simp only at h
  simp only [Op.operands,Call.operands,hc]
  simpa using h
theorem Z89{o:Oper}{ops:Array Oper}{st st':FSt U}(h:∀ t,t∈o.looksAt ops->st'.env t=st.env t):touchT o st'=touchT o st:=by
 have d:∀ {x:Operand},x∈o.op.operands.toList->st'.strip.opnd x=st.strip.opnd x:=by
  intro x s
  cases x with
  | tmp t=> simp [FSt.opnd,FSt.strip,h t (QX _ (Xu.2 ⟨.tmp t,s,rfl⟩))]
  | _=> rfl
 unfold touchT
 have:∀ (l:List Operand),(∀ x∈l,x∈JP o)->(l.flatMap fun x=> (st'.strip.opnd x).toList.flatMap V.toks)=l.flatMap fun x=> (st.strip.opnd x).toList.flatMap V.toks:=by
  intro l
  induction l with
  | nil=> intro _;rfl
  | cons x l ih=>
   intro hl
   rw [XI,XI,ih (fun y u=> hl y (by simp [u])),d (Zlh (hl x (by simp)))]
 grind
theorem Z7k{Γ:Known U}{o:Oper}{ops:Array Oper}{st st':FSt U}(h:∀ t,t∈o.looksAt ops->st'.env t=st.env t):Z0t Γ o st'=Z0t Γ o st:=by
 obtain ⟨ab,op,u,aa,s,d⟩:=o
 cases op <;> try rfl
 case call c=>
  simp only [Z0t]
  cases hc:c.callee <;> try rfl
  case value g=>
   have:st'.strip.opnd g=st.strip.opnd g:=by
    cases g with
    | tmp t=> simp [FSt.opnd,FSt.strip,h t (QX _ (Xu.2 ⟨.tmp t,by simp [Op.operands,Call.operands,hc],rfl⟩))]
    | _=> rfl
   grind
theorem Zcf{Γ:Known U}{o:Oper}{ops:Array Oper}{st st':FSt U}(h:Alike Γ o ops st st'):Z4S cfg Γ ops o st'=Z4S cfg Γ ops o st:=by
 have d:=fun {x:Operand} (hx:x∈o.op.operands.toList)=> (h.opnd hx).1
 have hG:Z4D ops st' o=Z4D ops st o:=by
  unfold Z4D
  cases hg:o.guard with
  | none=> rfl
  | some jw=>
   obtain ⟨j,u⟩:=jw
   simp only
   cases s:(ops[j]?).bind (·.dst) with
   | none=> rfl
   | some t=>
    have:st'.env t=st.env t:=h.env t (Xl _ (by simp [hg,s]))
    grind
 have hN:∀ G,Z0g st' G o.op.operands.toList=Z0g st G o.op.operands.toList:=fun G=>
  Zag fun t s=> h.env t (QX _ (Xu.2 ⟨.tmp t,s,rfl⟩))
 unfold Z4S
 rw [h.n]
 split
 .split
  .rename_i c x y hc
   rw [hG,d (x:=c) (by simp [hc,Op.operands]),d (x:=x) (by simp [hc,Op.operands]),d (x:=y) (by simp [hc,Op.operands])]
  .have s:=Z4W (st:=st) (st':=st') h.env
   rw [hG]
   simp only [Zr3 h,hN,s]
   split
   .try rfl
   .rename_i G ae
    cases he:aop cfg Γ o st.strip with
    | none=> rfl
    | some r=>
     obtain ⟨ps,e⟩:=r
     cases G with
     | none=> rfl
     | some Gb=>
      obtain ⟨v,m,k,l⟩:=e
      cases v with
      | none=> rfl
      | some v=>
       cases k with
       | cons _ _=> grind
       | nil=>
        cases l with
        | cons _ _=> grind
        | nil=>
        cases m with
        | nil=> rfl
        | cons x r=>
         simp only
         cases hall:(x ::r).all fun x=> J6 (touch o st) x.1 with
         | false=> rfl
         | true=>
          have hj:Z3h cfg.tyEq Gb st'.mem (x ::r)=Z3h cfg.tyEq Gb st.mem (x ::r):=Zc8 fun y hy=> h.mem _ (Z5u.1 (by
           grind))
          rw [hj]
 .try rfl
theorem Z4A{m0:Name->Option (List (C U))}{m:List (Name × List (C U))}{nm:Name}(h:J6 (m.map (·.1)) nm=false):ZK m0 m nm=m0 nm:=by
 induction m with
 | nil=> rfl
 | cons x m ih=>
  obtain ⟨b,cs⟩:=x
  simp only [QD,J6] at h
  split at h
  .cases h
  .rename_i e
   simp only [ZK]
   grind
theorem ZeE{x y:List Name}(h:ZlA x y=false):∀ nm,nm∈x->J6 y nm=false:=by
 intro nm d
 unfold ZlA at h
 grind
theorem ZpN{l:List Tok}{t:Tok}:ZiG l t=true↔t∈l:=by
 induction l with
 | nil=> simp [ZiG]
 | cons x l ih=>
  simp only [ZiG,Q7]
  grind
theorem ZbR{x y:List Tok}(h:ZeF x y=false):∀ t,t∈x->t∉y:=by
 intro t d s
 unfold ZeF at h
 rw [List.any_eq_false] at h
 have:=h t d
 rw [ZpN.2 s] at this
 simp at this
theorem ZqB{m:Tok->Option (LC U)}{l:List (Tok × LC U)}{t:Tok}(h:t∉l.map (·.1)):ZE m l t=m t:=by
 induction l with
 | nil=> rfl
 | cons x l ih=>
  obtain ⟨b,y⟩:=x
  simp only [QD,Q7,not_or] at h
  simp only [ZE]
  grind
theorem Z3X{m:Tok->Option (LC U)}{e:Eff U}{t:Tok}(h:t∉e.kill++e.ls.map (·.1)):JR m e t=m t:=by
 simp only [Qk,not_or] at h
 unfold JR
 have:e.kill.contains t=false:=by
  cases hk:e.kill.contains t with
  | false=> rfl
  | true=> exact absurd (by simpa using hk) h.1
 rw [this,cond_false,ZqB h.2]
theorem ZgS {Γ:Known U} {ops:Array Oper} {x y:Oper} {st:FSt U} {e:Eff U} (hap:x.apart ops y=true) (h:ZlA (e.mem.map (·.1)) (touch y st)=false) (hk:(!e.kill.isEmpty && Z2h y)=false)
  (u:ZeF (e.kill++e.ls.map (·.1)) (touchT y st)=false) (hr:noR (y.dst.getD 0) (e.kill++e.ls.map (·.1))=true) (ha:((e.kill++e.ls.map (·.1)).isEmpty || !Z0t Γ y st)=true):
  Alike Γ y ops st (st.app x.dst e):=by
 obtain ⟨h1,_,_⟩:=Oper.apart_spec hap
 refine ⟨?_,?_,?_,?_,by cases x.dst <;> rfl,by cases x.dst <;> rfl,fun t s=> Z3X (fun h=> ZbR u t h s),fun j=> Z3X (fun h=> ?_),fun hc=> ?_⟩
 .cases x.dst <;> rfl
 .intro t u
  cases hd:x.dst with
  | none=> rfl
  | some d=>
   have af:t≠d:=fun e=> h1 d hd (e▸u)
   have:Nat.beq t d=false:=by
    cases hb:Nat.beq t d with
    | false=> rfl
    | true=> simp_all
   simp [FSt.app,FSt.put,this]
 .intro nm hn
  have:J6 (e.mem.map (·.1)) nm=false:=by
   cases hb:J6 (e.mem.map (·.1)) nm with
   | false=> rfl
   | true=>
    have:=ZeE h nm (Z5u.1 hb)
    rw [Z5t hn] at this
    cases this
  exact Z4A this
 .intro hr
  simp only [hr,XK,Bool.not_eq_false'] at hk
  have:e.kill=[]:=by simpa using hk
  simp [FSt.app,this]
 .have:=Qz.1 hr _ h
  simp at this
 .rw [hc] at ha
  simp only [Bool.not_true,Bool.or_false,List.isEmpty_iff] at ha
  funext t
  exact Z3X (by rw [ha];simp)
theorem ZvN{ops:Array Oper}{x y:Oper}{st:FSt U}{e f:Eff U}(hap:x.apart ops y=true)(hm:ZlA (e.mem.map (·.1)) (f.mem.map (·.1))=false)(hl:ZeF (e.kill++e.ls.map (·.1)) (f.kill++f.ls.map (·.1))=false):
  (st.app x.dst e).app y.dst f=(st.app y.dst f).app x.dst e:=by
 obtain ⟨_,h2,_⟩:=Oper.apart_spec hap
 have al:∀ (s:FSt U) (v u:V U),((s.put x.dst v).put y.dst u)=((s.put y.dst u).put x.dst v):=by
  intro s v u
  cases hx:x.dst with
  | none=> rfl
  | some d=>
   cases hy:y.dst with
   | none=> rfl
   | some d'=>
    have aa:d≠d':=fun e=> h2 d hx (by rw [hy,e])
    simp only [FSt.put]
    congr 1
    funext j
    cases h1:Nat.beq j d with
    | false=> rfl
    | true=>
     cases h3:Nat.beq j d' with
     | false=> rfl
     | true=> exact absurd ((Qb h1).symm.trans (Qb h3)) aa
 have ak:ZK (ZK st.mem e.mem) f.mem=ZK (ZK st.mem f.mem) e.mem:=by
  funext nm
  cases h1:J6 (e.mem.map (·.1)) nm with
  | false=>
   rw [Z4A (m:=e.mem) (m0:=ZK st.mem f.mem) h1]
   rcases Z00 st.mem f.mem nm with ⟨k,cs,h3,h4⟩ | ⟨h3,h4⟩
   .rcases Z00 (ZK st.mem e.mem) f.mem nm with ⟨k',cs',h5,h6⟩ | ⟨h5,h6⟩
    .have:∀ (m0 m1:Name->Option (List (C U))) (l:List (Name × List (C U))),(∃ x,x∈l/\x.1=nm)->ZK m0 l nm=ZK m1 l nm:=by
      intro m0 m1 l
      induction l with
      | nil=> rintro ⟨x,hx,_⟩;simp at hx
      | cons z l ih=>
       rintro ⟨x,hx,am⟩
       obtain ⟨b,cs⟩:=z
       simp only [ZK]
       split
       .try rfl
       .rename_i aa
        rcases Q7.1 hx with rfl | hx
        .exact absurd am.symm aa
        .exact ih ⟨x,hx,am⟩
     exact this _ _ _ ⟨_,QW h3,rfl⟩
    .exact absurd rfl (h5 k _ h3)
   .rcases Z00 (ZK st.mem e.mem) f.mem nm with ⟨k',cs',h5,h6⟩ | ⟨h5,h6⟩
    .exact absurd rfl (h3 k' _ h5)
    .rw [h6,h4,Z4A h1]
  | true=>
   have au:J6 (f.mem.map (·.1)) nm=false:=ZeE hm nm (Z5u.1 h1)
   rw [Z4A (m:=f.mem) (m0:=ZK st.mem e.mem) au]
   have:∀ (m0 m1:Name->Option (List (C U))) (l:List (Name × List (C U))),J6 (l.map (·.1)) nm=true->ZK m0 l nm=ZK m1 l nm:=by
    intro m0 m1 l
    induction l with
    | nil=> intro h;cases h
    | cons z l ih=>
     obtain ⟨b,cs⟩:=z
     intro h
     simp only [QD,J6] at h
     simp only [ZK]
     split
     .try rfl
     .rename_i aa
      rw [if_neg (fun e=> aa e.symm)] at h
      exact ih h
   exact this _ _ _ h1
 have ai:(fun t=> (st.dead t || e.kill.contains t) || f.kill.contains t)=fun t=> (st.dead t || f.kill.contains t) || e.kill.contains t:=by
  funext t
  cases st.dead t <;> cases e.kill.contains t <;> cases f.kill.contains t <;> rfl
 have hn:∀ (s:FSt U) d v,(s.put d v).n=s.n/\(s.put d v).mem=s.mem/\(s.put d v).dead=s.dead:=by
  intro s d v;cases d <;> exact ⟨rfl,rfl,rfl⟩
 have ao:(((st.put x.dst (e.val.getD .junk))).put y.dst (f.val.getD .junk)).env=((st.put y.dst (f.val.getD .junk)).put x.dst (e.val.getD .junk)).env:=by rw [al]
 have aj:∀ (s s':FSt U) d v,s.env=s'.env->(s.put d v).env=(s'.put d v).env:=by
  intro s s' d v he;cases d <;> simp [FSt.put,he]
 have aw:JR (JR st.ls e) f=JR (JR st.ls f) e:=by
  funext t
  by_cases h1:t∈e.kill++e.ls.map (·.1)
  .have h2:=ZbR hl t h1
   rw [Z3X h2]
   unfold JR
   cases he:e.kill.contains t with
   | true=> rfl
   | false=>
    simp only [cond_false]
    have h3:t∈e.ls.map (·.1):=by
     rcases Qk.1 h1 with h | h
     .have:e.kill.contains t=true:=by simpa using h
      rw [he] at this;cases this
     .exact h
    have:∀ (m0 m1:Tok->Option (LC U)) (l:List (Tok × LC U)),t∈l.map (·.1)->ZE m0 l t=ZE m1 l t:=by
     intro m0 m1 l
     induction l with
     | nil=> intro h;cases h
     | cons z l ih=>
      obtain ⟨b,y⟩:=z
      intro h
      simp only [ZE]
      split
      .try rfl
      .rename_i aa
       simp only [QD,Q7] at h
       exact ih (h.resolve_left aa)
    exact this _ _ _ h3
  .rw [Z3X (m:=JR st.ls f) h1]
   have:∀ (m0 m1:Tok->Option (LC U)) (l:List (Tok × LC U)),m0 t=m1 t->ZE m0 l t=ZE m1 l t:=by
    intro m0 m1 l he
    induction l with
    | nil=> exact he
    | cons z l ih=>
     obtain ⟨b,y⟩:=z
     simp only [ZE]
     split
     .try rfl
     .exact ih
   have h3:JR st.ls e t=st.ls t:=Z3X h1
   unfold JR at h3 ⊢
   cases hf:f.kill.contains t with
   | true=> rfl
   | false=> simp only [cond_false];exact this _ _ _ h3
 have ext:∀ {s s':FSt U},s.n=s'.n->s.env=s'.env->s.mem=s'.mem->s.dead=s'.dead->s.ls=s'.ls->s.mu=s'.mu->s.vw=s'.vw->s=s':=by
  intro s s' h1 h2 h3 h4;cases s;cases s';simp_all
 refine ext ?_ ?_ ?_ ?_ aw ?_ (by cases x.dst <;> cases y.dst <;> rfl)
 .cases x.dst <;> cases y.dst <;> rfl
 .show ((st.app x.dst e).put y.dst _).env=((st.app y.dst f).put x.dst _).env
  rw [aj (st.app x.dst e) (st.put x.dst (e.val.getD .junk)) y.dst _ rfl,ao,aj (st.app y.dst f) (st.put y.dst (f.val.getD .junk)) x.dst _ rfl]
 .show ZK (st.app x.dst e).mem f.mem=ZK (st.app y.dst f).mem e.mem
  exact ak
 .exact ai
 .cases x.dst <;> cases y.dst <;> rfl
end Go.AM
namespace Go.AM
variable {U:Uni} {P:Program} {cfg:Cfg U} {B:Base} {g:Gh} {a:Act} {w:World} {Γ:Known U} {ops:Array Oper}
def ZoT(cfg:Cfg U)(Γ:Known U)(ops:Array Oper):List Oper->FSt U->Option (List Fp)
 | [],_=> some []
 | o ::r,st=> match Z4S cfg Γ ops o st with
  | none=> none
  | some (_,e)=> match ZoT cfg Γ ops r (st.app o.dst e) with
   | none=> none
   | some l=> some (ZqM Γ o st e ::l)
def Zqa(ops:List Oper):Nat->Nat->Nat->Bool
 | 0,_,_=> false
 | n+1,k,h=> match ops[h]? with
  | none=> false
  | some o=> o.after.toList.any fun e=> Region.binds .any e && (Nat.beq e.on k || (Nat.blt k e.on && Zqa ops n k e.on))
def ZcH:Nat->List Oper->Bool
 | _,[]=> true
 | i,o ::r=> (o.after.toList.all fun e=> !Region.binds .any e || Nat.blt e.on i) && ZcH (i+1) r
def Zt3(ops:Array Oper)(fps:List Fp)(k h:Nat):Bool:=
 Zqa ops.toList 5 k h || match ops.toList[k]?,ops.toList[h]?,fps[k]?,fps[h]? with
  | some x,some y,some a,some b=> Zi3 ops x y a b
  | _,_,_,_=> false
def Zo1(ops:Array Oper)(fps:List Fp):Bool:=
 (List.range ops.toList.length).all fun h=> (List.range h).all fun k=> Zt3 ops fps k h
def JU(cfg:Cfg U)(Γ:Known U)(ops:Array Oper)(st:FSt U):Bool:=
 match ZoT cfg Γ ops ops.toList st with
 | some fps=> ZcH 0 ops.toList && Zo1 ops fps
 | none=> false
inductive Run (cfg:Cfg U) (Γ:Known U) (ops:Array Oper) (fp:Nat->Option Fp):List Nat->FSt U->FSt U->Prop
 | nil (st):Run cfg Γ ops fp [] st st
 | cons (i l st st' o ps e):ops[i]?=some o->Z4S cfg Γ ops o st=some (ps,e)->All ps->fp i=some (ZqM Γ o st e)->Run cfg Γ ops fp l (st.app o.dst e) st'->Run cfg Γ ops fp (i ::l) st st'
theorem Zbw{fps:List Fp}:∀ (l:List Oper) (k:Nat) (st st':FSt U) (ps:List Prop) (fl:List Fp),(∀ j,l[j]?=ops[k+j]?)->(∀ j,fl[j]?=fps[k+j]?)->Zfl cfg Γ ops false l st=some (ps,st')->All ps->ZoT cfg Γ ops l st=some fl->
  Run cfg Γ ops (fun i=> fps[i]?) (List.range' k l.length) st st'
 | [],k,st,st',ps,fl,_,_,h,_,_=> by
  simp only [Zfl,oP] at h
  obtain ⟨_,rfl⟩:=h
  exact .nil st
 | o ::l,k,st,st',ps,fl,hl,hf,h,hps,hfl=> by
  rw [Zbh] at h
  simp only [ZBs] at h
  simp only [ZoT] at hfl
  split at h
  .cases h
  .rename_i aa e1 h1
   rw [h1] at hfl
   simp only at hfl
   split at h
   .cases h
   .rename_i qs af h2
    split at hfl
    .cases hfl
    .rename_i ab d
     simp only [oP] at h hfl
     obtain ⟨rfl,rfl⟩:=h
     subst hfl
     obtain ⟨s,u⟩:=All.append hps
     rw [Qe,List.range'_succ]
     refine .cons k _ st _ o aa e1 ?_ h1 s ?_ ?_
     .have:=hl 0;grind
     .have:=hf 0;grind
     .exact Zbw l (k+1) _ _ qs ab (fun j=> by have:=hl (j+1);grind) (fun j=> by have:=hf (j+1);grind) h2 u d
def ZEc(ops:Array Oper)(fp:Nat->Option Fp)(k h:Nat):Prop:=∃ x y p q,ops[k]?=some x/\ops[h]?=some y/\fp k=some p/\fp h=some q/\Zi3 ops x y p q=true
theorem ZGz{fp:Nat->Option Fp}{h:Nat}{post:List Nat}:∀ (pre:List Nat) (st st':FSt U),Run cfg Γ ops fp (pre++h ::post) st st'->(∀ k∈pre,ZEc ops fp k h)->
  ∃ o ps e,ops[h]?=some o/\Z4S cfg Γ ops o st=some (ps,e)/\All ps/\fp h=some (ZqM Γ o st e)/\Run cfg Γ ops fp (pre++post) (st.app o.dst e) st'
 | [],st,st',hr,_=> by
  cases hr with
  | cons _ _ _ _ o ps e h1 h2 h3 h4 h5=> grind
 | k ::pre,st,st',hr,hf=> by
  cases hr with
  | cons _ _ _ _ x ps e h1 h2 h3 h4 h5=>
   obtain ⟨y,qs,f,h6,h7,h8,h9,aj⟩:=ZGz pre _ st' h5 (fun j hj=> hf j (by simp [hj]))
   obtain ⟨x',y',p,q,g1,g2,g3,g4,g5⟩:=hf k (by simp)
   rw [h1] at g1
   rw [h6] at g2
   rw [h4] at g3
   rw [h9] at g4
   cases g1;cases g2;cases g3;cases g4
   simp only [Zi3,Q0,QS] at g5
   obtain ⟨⟨⟨⟨⟨⟨⟨⟨⟨⟨⟨⟨⟨a1,a2⟩,a3⟩,a4⟩,a5⟩,a6⟩,a7⟩,b3⟩,b4⟩,b5⟩,b6⟩,b7⟩,b8⟩,b9⟩:=g5
   simp only [ZqM] at a3 a4 a5 a6 a7 b3 b4 b5 b6 b7 b8 b9
   have ty:touch y (st.app x.dst e)=touch y st:=by
    refine Z4W (ops:=ops) fun t ht=> ?_
    obtain ⟨u,_,_⟩:=Oper.apart_spec a1
    cases hd:x.dst with
    | none=> rfl
    | some d=>
     have s:t≠d:=fun e=> u d hd (e▸ht)
     have:Nat.beq t d=false:=by
      cases hb:Nat.beq t d with
      | false=> rfl
      | true=> exact absurd (Qb hb) s
     simp [FSt.app,FSt.put,this]
   rw [ty] at a3
   have ae:touchT y (st.app x.dst e)=touchT y st:=by
    refine Z89 (ops:=ops) fun t ht=> ?_
    obtain ⟨u,_,_⟩:=Oper.apart_spec a1
    cases hd:x.dst with
    | none=> rfl
    | some d=>
     have s:t≠d:=fun e=> u d hd (e▸ht)
     have:Nat.beq t d=false:=by
      cases hb:Nat.beq t d with
      | false=> rfl
      | true=> exact absurd (Qb hb) s
     simp [FSt.app,FSt.put,this]
   rw [ae] at b3
   have af:Z0t Γ y (st.app x.dst e)=Z0t Γ y st:=by
    refine Z7k (ops:=ops) fun t ht=> ?_
    obtain ⟨u,_,_⟩:=Oper.apart_spec a1
    cases hd:x.dst with
    | none=> rfl
    | some d=>
     have s:t≠d:=fun e=> u d hd (e▸ht)
     have:Nat.beq t d=false:=by
      cases hb:Nat.beq t d with
      | false=> rfl
      | true=> exact absurd (Qb hb) s
     simp [FSt.app,FSt.put,this]
   rw [af] at b8
   have ay:=ZgS (st:=st) (e:=e) a1 a3 a6 b3 b6 (by simpa using b8)
   have hy:Z4S cfg Γ ops y st=some (qs,f):=by rw [<-h7];exact (Zcf ay).symm
   have tx:touch x (st.app y.dst f)=touch x st:=by
    refine Z4W (ops:=ops) fun t ht=> ?_
    obtain ⟨u,_,_⟩:=Oper.apart_spec a2
    cases hd:y.dst with
    | none=> rfl
    | some d=>
     have s:t≠d:=fun e=> u d hd (e▸ht)
     have:Nat.beq t d=false:=by
      cases hb:Nat.beq t d with
      | false=> rfl
      | true=> exact absurd (Qb hb) s
     simp [FSt.app,FSt.put,this]
   have am:touchT x (st.app y.dst f)=touchT x st:=by
    refine Z89 (ops:=ops) fun t ht=> ?_
    obtain ⟨u,_,_⟩:=Oper.apart_spec a2
    cases hd:y.dst with
    | none=> rfl
    | some d=>
     have s:t≠d:=fun e=> u d hd (e▸ht)
     have:Nat.beq t d=false:=by
      cases hb:Nat.beq t d with
      | false=> rfl
      | true=> exact absurd (Qb hb) s
     simp [FSt.app,FSt.put,this]
   have ao:Z0t Γ x (st.app y.dst f)=Z0t Γ x st:=by
    refine Z7k (ops:=ops) fun t ht=> ?_
    obtain ⟨u,_,_⟩:=Oper.apart_spec a2
    cases hd:y.dst with
    | none=> rfl
    | some d=>
     have s:t≠d:=fun e=> u d hd (e▸ht)
     have:Nat.beq t d=false:=by
      cases hb:Nat.beq t d with
      | false=> rfl
      | true=> exact absurd (Qb hb) s
     simp [FSt.app,FSt.put,this]
   have ax:=ZgS (st:=st) (e:=f) a2 a4 a7 b4 b7 (by simpa using b9)
   have hx:Z4S cfg Γ ops x (st.app y.dst f)=some (ps,e):=by rw [<-h2];exact Zcf ax
   refine ⟨y,qs,f,h6,hy,h8,by rw [h9];simp only [ZqM,ty,ae,af],?_⟩
   refine .cons k _ _ _ x ps e h1 hx h3 ?_ ?_
   .rw [h4];simp only [ZqM,tx,am,ao]
   .rw [<-ZvN a1 a5 b5];exact aj
theorem ZbM{listed:Array Bool}(hdown:∀ j o,ops[j]?=some o->listed.getD j false=true->∀ e∈o.after,Region.binds .any e=true->listed.getD e.on false=true):∀ (n k h:Nat) (o:Oper),ops[h]?=some o->
  (∀ e∈o.after,Region.binds .any e=true->listed.getD e.on false=true)->Zqa ops.toList n k h=true->listed.getD k false=true
 | 0,k,h,o,_,_,s=> by trivial
 | n+1,k,h,o,ho,hr,s=> by
  have u:ops.toList[h]?=some o:=by simpa using ho
  simp only [Zqa,u,List.any_eq_true] at s
  obtain ⟨e,he,s⟩:=s
  simp only [Q0,XT] at s
  obtain ⟨h1,d⟩:=s
  have aa:e∈o.after:=by simpa using he
  have hl:=hr e aa h1
  rcases d with d | ⟨_,d⟩
  .rw [<-Qb d];exact hl
  .cases hoe:ops[e.on]? with
   | none=>
    have:ops.toList[e.on]?=none:=by simpa using hoe
    cases n with
    | zero=> trivial
    | succ n=> simp [Zqa,this] at d
   | some o2=> exact ZbM hdown n k e.on o2 hoe (hdown e.on o2 hoe hl) d
theorem Zi5(l:List Oper):∀ (i:Nat),ZcH i l=true->∀ (j:Nat) (o:Oper),l[j]?=some o->∀ e∈o.after,Region.binds .any e=true->e.on < i+j:=by
 induction l with
 | nil=> grind
 | cons o l ih=>
  intro i h j o' d e s u
  simp only [ZcH,Q0] at h
  cases j with
  | zero=>
   simp at d
   subst d
   have:=Qz.1 h.1 e (by simpa using s)
   simp_all
  | succ j=>
   grind
theorem ZgY (ok:CfgOk P cfg) (hΓ:∀ f s,Γ f=some s->Contract P cfg f s) {fp:Nat->Option Fp} {Q:Exit->Act->World->Prop} {st':FSt U}
  (hedge:∀ (j:Nat) o,ops[j]?=some o->∀ e∈o.after,Region.binds .any e=true->e.on < j)
  (hpair:∀ k h,k < h->h < ops.size->Zqa ops.toList 5 k h=true\/ZEc ops fp k h)
  (hQ:∀ g' a' w',Rel cfg B st' g' a' w'->Q .normal a' w'):∀ (u:Nat) (l:List Nat) (listed:Array Bool) (st:FSt U) (g:Gh) (a:Act) (w:World),
   l.length<=u->l.Pairwise (· < ·)->listed.size=ops.size->(∀ i,i < ops.size->(listed.getD i false=false↔i∈l))->(∀ i∈l,i < ops.size)->
   (∀ j o,ops[j]?=some o->listed.getD j false=true->∀ e∈o.after,Region.binds .any e=true->listed.getD e.on false=true)->
   Run cfg Γ ops fp l st st'->Rel cfg B st g a w->wpAny P .any ops Q u listed a w:=by
 intro u
 have ai:∀ (listed:Array Bool) i,listed.size=ops.size->i < ops.size->listed.getD i true=listed.getD i false:=by
  intro listed i hs hi
  simp [Array.getD,hs,hi]
 have done:∀ (l:List Nat) (listed:Array Bool),l.Pairwise (· < ·)->listed.size=ops.size->(∀ i,i < ops.size->(listed.getD i false=false↔i∈l))->(∀ i∈l,i < ops.size)->Region.ready .any ops listed=[]->l=[]:=by
  intro l listed d af hl ak hr
  cases l with
  | nil=> rfl
  | cons i l=>
   exfalso
   have hi:=ak i (by simp)
   have bc:i∈Region.ready .any ops listed:=by
    rw [mem_ready]
    refine ⟨by grind,ops[i],QN hi,fun e he hb=> ?_⟩
    have h1:=hedge i _ (QN hi) e he hb
    cases hx:listed.getD e.on false with
    | true=> rfl
    | false=>
     have:=(hl e.on V0).1 hx
     rcases Q7.1 this with h2 | h2
     .omega
     .have:=(List.pairwise_cons.1 d).1 _ h2
      omega
   grind
 induction u with
 | zero=>
  intro l listed st g a w ay d af hl ak aa ae ah
  have h0:l=[]:=Q3 V0
  subst h0
  cases ae
  refine ⟨?_,hQ g a w ah⟩
  cases hr:Region.ready .any ops listed with
  | nil=> rfl
  | cons i r=>
   have hm:i∈Region.ready .any ops listed:=by rw [hr];simp
   obtain ⟨h1,o,ho,_⟩:=mem_ready.1 hm
   grind
 | succ u ih=>
  intro l listed st g a w ay d af hl ak aa ae ah
  refine ⟨fun hr=> ?_,fun i hi=> ?_⟩
  .have h0:=done l listed d af hl ak hr
   subst h0
   cases ae
   grind
  .obtain ⟨h1,o,ho,ab⟩:=mem_ready.1 hi
   have aj:=(QL.1 ho).1
   rw [ai listed i af aj] at h1
   have a8:=(hl i aj).1 h1
   obtain ⟨pre,post,rfl⟩:=List.append_of_mem a8
   have ax:∀ k∈pre,ZEc ops fp k i:=by
    intro k hk
    have a9:k < i:=by
     have:=List.pairwise_append.1 d
     exact this.2.2 k hk i (by simp)
    rcases hpair k i a9 aj with h2 | h2
    .have h3:=ZbM aa 5 k i o ho ab h2
     grind
    .exact h2
   obtain ⟨o',ps,e,h2,h3,h4,_,h6⟩:=ZGz pre st st' ae ax
   rw [ho] at h2
   cases h2
   unfold wpOp
   simp only [ho]
   have ao:=Zce (K:=wpAny P .any ops Q u (listed.setIfInBounds i true)) (Q:=Q) ok hΓ ah h3 h4 (by
    intro g' a' w' aq
    refine ih (pre++post) (listed.setIfInBounds i true) _ g' a' w' ?_ ?_ ?_ ?_ ?_ ?_ h6 aq
    .grind
    .exact d.sublist (List.Sublist.append_left (List.sublist_cons_self i post) pre)
    .simp [af]
    .intro j hj
     by_cases hij:i=j
     .subst hij
      have a6:i∉pre++post:=by
       have hp:=List.pairwise_append.1 d
       intro hm
       rcases Qk.1 hm with hm | hm
       .grind
       .have:=(List.pairwise_cons.1 hp.2.1).1 i hm;omega
      simp [Array.getD,af,hj,a6]
     .rw [getD_set_ne false hij,hl j hj]
      grind
    .intro j hj
     exact ak j (by
      grind)
    .intro j oj am aw e he hb
     by_cases hij:i=j
     .subst hij
      rw [ho] at am
      cases am
      exact getD_set_true (ab e he hb)
     .rw [getD_set_ne false hij] at aw
      exact getD_set_true (aa j oj am aw e he hb))
   split at ao
   .grind
   grind
theorem Z26(ok:CfgOk P cfg)(hΓ:∀ f s,Γ f=some s->Contract P cfg f s):Zaq P cfg Γ (JU cfg Γ):=by
 intro B st ah g a w id ops ps Q hd d af al hQ
 unfold JU at hd
 split at hd
 case h_2=> cases hd
 rename_i fps hf
 simp only [Q0] at hd
 obtain ⟨ak,aa⟩:=hd
 refine wp_region_any ok.mixed ?_
 have hR:=Zbw (ops:=ops) (fps:=fps) ops.toList 0 st ah ps fps (fun j=> by simp) (fun j=> by simp) af al hf
 have ab:Rel cfg B st g a { w with drawn:=w.drawn+1 }:=by
  have hc:∀ b,({ w with drawn:=w.drawn+1 }:World).cell? b=w.cell? b:=fun _=> rfl
  exact ⟨⟨fun c v hv=> d.inv.im c v hv,fun c t ht=> d.inv.it c t ht⟩,
   ⟨⟨d.fr.stay.os,d.fr.stay.tape,d.fr.stay.output,d.fr.stay.size⟩,d.fr.xad,d.fr.mono,d.fr.outer,d.fr.outer',d.fr.clean,d.fr.frz⟩,d.env,d.mem,d.sz,d.df,fun t x hx=> d.ls t x hx,d.fresh⟩
 refine ZgY (fp:=fun i=> fps[i]?) ok hΓ ?_ ?_ hQ ops.size (List.range' 0 ops.toList.length) _ st g a _ (by simp) List.pairwise_lt_range' (by simp) ?_ ?_ ?_ hR ab
 .intro j o ho e he hb
  have:=Zi5 ops.toList 0 ak j o (by simpa using ho) e he hb
  omega
 .intro k h au hh
  unfold Zo1 at aa
  rw [Qz] at aa
  have h1:=aa h (by simpa using hh)
  rw [Qz] at h1
  have u:=h1 k (by grind)
  unfold Zt3 at u
  rw [XT] at u
  rcases u with u | u
  .exact .inl u
  .right
   split at u
   .rename_i x y p q hx hy hp hq
    exact ⟨x,y,p,q,by simpa using hx,by simpa using hy,hp,hq,u⟩
   .cases u
 .simp_all
 .grind
 .intro j o ho hl
  have hj:=(QL.1 ho).1
  simp_all
end Go.AM
namespace Go.AM
variable {U:Uni} {P:Program}
def Z5x{α:Type}:List (Nat × α)->Nat->Option α
 | [],_=> none
 | (a,x) ::r,t=> bif Nat.beq a t then some x else Z5x r t
theorem Z3Y{α:Type}:∀ {l:List (Nat × α)} {t:Nat} {x:α},Z5x l t=some x->(t,x)∈l
 | (a,y) ::r,t,x,h=> by
  simp only [Z5x] at h
  cases hb:Nat.beq a t with
  | true=>
   simp_all
  | false=> simp [hb] at h;exact Q1 _ (Z3Y h)
def Zoi:List (Nat × Nat × Nat × Nat)->Nat->Nat->Option (Nat × Nat)
 | [],_,_=> none
 | (a,b,x) ::r,t,f=> bif Nat.beq a t && Nat.beq b f then some x else Zoi r t f
theorem Zgy:∀ {l:List (Nat × Nat × Nat × Nat)} {t f:Nat} {x:Nat × Nat},Zoi l t f=some x->(t,f,x)∈l
 | (a,b,y) ::r,t,f,x,h=> by
  simp only [Zoi] at h
  cases hb:Nat.beq a t && Nat.beq b f with
  | true=>
   simp_all
  | false=> simp [hb] at h;exact Q1 _ (Zgy h)
structure Codec (U:Uni) where
 tyEq:DecidableEq U.Ty
 dflt:(T:U.Ty)->U.El T
 enc:(T:U.Ty)->U.El T->List (C U)
 dec:(T:U.Ty)->List (C U)->Option (U.El T)
 aggT:U.Ty->Bool
 sz:U.Ty->Nat
 bytes:U.Ty->Nat
structure CodecOk (K:Codec U):Prop where
 enc_len:∀ T x,(K.enc T x).length=K.sz T
 enc_plain:∀ T x c,c∈K.enc T x->c.plain=true
 dec_ok:∀ T cs x,K.dec T cs=some x->cs.length=(K.enc T x).length/\∀ (j:Nat) c c',cs[j]?=some c->(K.enc T x)[j]?=some c'->Wk c c'
 sz_pos:∀ T,0 < K.sz T
 bytes_pos:∀ T,0 < K.bytes T
structure Tables (U:Uni) where
 el:U.Ty->TypeId
 sl:List (Nat × U.Ty)
 var:List (Nat × Bool × List (C U))
 fld:List (Nat × Nat × Nat × Nat)
 arr:List (Nat × Nat × Nat)
 eqs:List Nat:=[]
def Tables.cfg(K:Codec U)(T:Tables U):Cfg U:=
 {tyEq:=K.tyEq,dflt:=K.dflt,enc:=K.enc,dec:=K.dec,aggT:=K.aggT,sz:=K.sz,bytes:=K.bytes,elT:=T.el,
  slT:=Z5x T.sl,var:=Z5x T.var,fld:=Zoi T.fld,arr:=Z5x T.arr,eqs:=fun t=> T.eqs.any (Nat.beq t) }
def ZD9:Option (C U)->C U->Bool
 | some (.int k n),.int k' n'=> k==k' && n==n'
 | some (.bool b),.bool b'=> b==b'
 | some .nils,.nils=> true
 | some .nilp,.nilp=> true
 | _,_=> false
theorem ZyN{x:Option (C U)}{c:C U}(h:ZD9 x c=true):x=some c:=by
 unfold ZD9 at h
 grind
def ZyM:List Value->List (C U)->Bool
 | [],[]=> true
 | v ::r,c ::s=> ZD9 (Z0c v) c && ZyM r s
 | _,_=> false
theorem ZoU:∀ {vs:List Value} {cs:List (C U)},ZyM vs cs=true->vs.map Z0c=cs.map some
 | [],[],_=> rfl
 | v ::r,c ::s,h=> by
  simp only [ZyM,Q0] at h
  simp [ZyN h.1,ZoU h.2]
def Zre(ag:Bool)(z:Value)(zs:List (C U)):Bool:=
 (match z,ag with
  | .agg _,true=> true
  | .agg _,false=> false
  | .tuple _,_=> false
  | _,false=> true
  | _,true=> false) && ZyM z.cells.toList zs
theorem Zrd{ag:Bool}{z:Value}{zs:List (C U)}(h:Zre ag z zs=true):Zz1 ag z zs:=by
 unfold Zre at h
 simp only [Q0] at h
 obtain ⟨s,u⟩:=h
 refine ⟨fun d=> ?_,fun d=> ?_,ZoU u⟩
 .grind
 .subst d
  cases z <;> first | rfl | (simp at s;done)
def ZoR:List (C U)->TypeDesc->Bool
 | [.int k _],.int k'=> k==k'
 | [.int _ _],_=> false
 | [.bool _],.bool=> true
 | [.bool _],_=> false
 | [.nilp],.pointer _=> true
 | [.nilp],_=> false
 | _,_=> true
def Zx9(P:Program)(x:Nat × Bool × List (C U)):Bool:=
 match P.info? x.1,P.underlying x.1 with
 | some i,some d=> (Nat.beq i.size x.2.2.length && Nat.blt 0 x.2.2.length) && (TypeDesc.ag d==x.2.1) &&
  (match i.zero with | some z=> Zre x.2.1 z x.2.2 | none=> false) && (x.2.1 || ZoR x.2.2 d) &&
  (match d with
   | .struct fs=> fs.toList.all fun fd=> (P.info? fd.type).isSome
   | .array _ e=> (P.info? e).isSome
   | _=> true)
 | _,_=> false
def slB(P:Program)(el:U.Ty->TypeId)(x:Nat × U.Ty):Bool:=
 match P.underlying x.1 with
 | some (.slice e)=> Nat.beq e (el x.2)
 | _=> false
def ZD7(P:Program)(x:Nat × Nat × Nat × Nat):Bool:=
 match P.underlying x.1 with
 | some (.struct fs)=> match fs.toList[x.2.1]? with
  | some fd=> Nat.beq fd.offset x.2.2.1 && Nat.beq fd.type x.2.2.2
  | none=> false
 | _=> false
def ZDU(P:Program)(x:Nat × Nat × Nat):Bool:=
 match P.underlying x.1 with
 | some (.array n e)=> Nat.beq n x.2.1 && Nat.beq e x.2.2
 | _=> false
def eqK(P:Program)(z:Option (C U))(t:TypeId):Bool:=
 match z,P.underlying t with
 | some (.int _ _),some (.int _)=> true
 | some (.bool _),some .bool=> true
 | _,_=> false
def eqB(P:Program)(var:List (Nat × Bool × List (C U)))(t:Nat):Bool:=
 match P.underlying t with
 | some (.struct fs)=> (match Z5x var t with
   | some (_,zs)=> Nat.beq zs.length fs.size
   | none=> true) && !P.stoodInHeld t && !P.eqGuardType P.depth t &&
  ((List.range fs.size).all fun i=> match fs[i]? with
   | some f => f.name != "_" && Nat.beq f.offset i && (match Z5x var t with
    | some (_,zs)=> eqK P zs[i]? f.type
    | none=> true)
   | none=> false)
 | _=> false
def elB(P:Program)(K:Codec U)(T:Tables U)(t:U.Ty):Bool:=
 match P.info? (T.el t),Z5x T.var (T.el t) with
 | some i,some (_,zs)=> Nat.beq i.size (K.sz t) && Nat.beq i.bytes (K.bytes t) && i.zero.isSome && Nat.beq zs.length (K.sz t)
 | _,_=> false
theorem ZpO {K:Codec U} (ck:CodecOk K) {T:Tables U} (hv:T.var.all (Zx9 P)=true) (hs:T.sl.all (slB P T.el)=true) (hf:T.fld.all (ZD7 P)=true) (ha:T.arr.all (ZDU P)=true)
  (he:∀ t,elB P K T t=true) (hm:P.follows .mixedOrders=true) (hq:T.eqs.all (eqB P T.var)=true):CfgOk P (T.cfg K):=by
 refine ⟨ck.enc_len,ck.enc_plain,ck.dec_ok,ck.sz_pos,ck.bytes_pos,?_,?_,?_,?_,?_,hm,?_,?_⟩
 .intro t
  have h:=he t
  unfold elB at h
  split at h
  .rename_i i ag zs h1 h2
   simp only [Q0] at h
   obtain ⟨⟨⟨h3,h4⟩,u⟩,h6⟩:=h
   obtain ⟨z,hz⟩:=Qy.1 u
   exact ⟨i,ag,zs,z,h1,Qb h3,Qb h4,hz,h2,Qb h6⟩
  .cases h
 .intro t S h
  have:=Qz.1 hs _ (Z3Y h)
  unfold slB at this
  simp only at this
  split at this
  .rename_i e hu
   rw [hu,Qb this];try rfl
  .cases this
 .intro t ag zs h
  have:=Qz.1 hv _ (Z3Y h)
  unfold Zx9 at this
  simp only at this
  split at this
  .rename_i i d hi hu
   simp only [Q0] at this
   obtain ⟨⟨⟨⟨⟨h1,h2⟩,h3⟩,h4⟩,u⟩,h6⟩:=this
   split at h4
   .rename_i z hz
    refine ⟨Nat.blt_eq.mp h2,i,z,d,hi,hu,Qb h1,by simpa using h3,hz,Zrd h4,?_,?_,?_,?_⟩
    .intro af k n ah
     subst af
     simp only [Bool.false_or] at u
     subst ah
     unfold ZoR at u
     split at u <;> simp_all
    .intro af b ah
     subst af
     simp only [Bool.false_or] at u
     subst ah
     unfold ZoR at u
     split at u <;> simp_all
    .intro fs hd
     subst hd
     exact h6
    .intro n e hd
     subst hd
     exact h6
   .cases h4
  .cases this
 .intro s f a1 t h
  have:=Qz.1 hf _ (Zgy h)
  unfold ZD7 at this
  simp only at this
  split at this
  .rename_i fs hu
   split at this
   .rename_i fd aw
    simp only [Q0] at this
    exact ⟨fs,fd,hu,by simpa using aw,Nat.eq_of_beq_eq_true this.1,Nat.eq_of_beq_eq_true this.2⟩
   .cases this
  .cases this
 .intro t n e h
  have:=Qz.1 ha _ (Z3Y h)
  unfold ZDU at this
  simp only at this
  split at this
  .rename_i n' e' hu
   simp only [Q0] at this
   rw [hu,Qb this.1,Qb this.2]
  .cases this
 .intro t ht
  obtain ⟨t',h1,h2⟩:=List.any_eq_true.1 ht
  have e:=Qb h2
  subst e
  have h3:=Qz.1 hq _ h1
  unfold eqB at h3
  split at h3
  .rename_i fs hu
   simp only [Q0,QS] at h3
   obtain ⟨⟨⟨h4,u⟩,h6⟩,h7⟩:=h3
   refine ⟨fs,hu,fun ag zs hz=> ?_,u,h6,fun i f hf=> ?_⟩
   .have aj:Z5x T.var t=some (ag,zs):=hz
    rw [aj] at h4
    exact Qb h4
   .have hi:=(QL.1 hf).1
    have h8:=Qz.1 h7 i (by simpa using hi)
    rw [hf] at h8
    simp only [Q0,bne_iff_ne,ne_eq] at h8
    refine ⟨h8.1.1,Qb h8.1.2,fun ag zs hz=> ?_⟩
    have h9:=h8.2
    have aj:Z5x T.var t=some (ag,zs):=hz
    rw [aj] at h9
    dsimp only at h9
    unfold eqK at h9
    split at h9
    .rename_i e1 e2
     exact ⟨fun _ _ _=> ⟨_,e2⟩,fun _ h=> by (rw [e1] at h;cases h)⟩
    .rename_i e1 e2
     exact ⟨fun _ _ h=> by (rw [e1] at h;cases h),fun _ _=> e2⟩
    .cases h9
  .cases h3
 .intro t h
  have:=Qz.1 hv _ (Z3Y h)
  unfold Zx9 at this
  simp only at this
  split at this
  .rename_i i d hi hu
   simp only [Q0] at this
   obtain ⟨⟨_,u⟩,_⟩:=this
   cases d <;> first | exact ⟨_,hu⟩ | (simp [ZoR] at u;done)
  .cases this
end Go.AM
namespace Go.AM
structure WEdit where
 at_:Int
 mask:Int
 old:Int
 new:Int
inductive Tree where
 | mk (kind:Int) (words:List Int) (kids:List Tree)
def Tree.kind:Tree->Int | .mk k _ _=> k
def Tree.words:Tree->List Int | .mk _ w _=> w
def Tree.kids:Tree->List Tree | .mk _ _ k=> k
@[simp] theorem Tree.eta (t:Tree):Tree.mk t.kind t.words t.kids=t:=by cases t;rfl
@[simp] theorem Tree.kind_mk (k:Int) (w:List Int) (ks:List Tree):(Tree.mk k w ks).kind=k:=rfl
@[simp] theorem Tree.words_mk (k:Int) (w:List Int) (ks:List Tree):(Tree.mk k w ks).words=w:=rfl
@[simp] theorem Tree.kids_mk (k:Int) (w:List Int) (ks:List Tree):(Tree.mk k w ks).kids=ks:=rfl
structure KidOf (E:Type) where
 at_:Int
 e:E
structure OpOf (E:Type) where
 kind:Int
 n:Int
 l:List Tree
 e:E
inductive Edit where
 | mk (kind:Int) (old new:Tree) (words:List WEdit) (kids:List (KidOf Edit)) (list:Int) (ops:List (OpOf Edit))
abbrev Kid:=KidOf Edit
abbrev Op:=OpOf Edit
def Edit.kind:Edit->Int | .mk k _ _ _ _ _ _=> k
def Edit.old:Edit->Tree | .mk _ o _ _ _ _ _=> o
def Edit.new:Edit->Tree | .mk _ _ n _ _ _ _=> n
def Edit.words:Edit->List WEdit | .mk _ _ _ w _ _ _=> w
def Edit.kids:Edit->List Kid | .mk _ _ _ _ k _ _=> k
def Edit.list:Edit->Int | .mk _ _ _ _ _ l _=> l
def Edit.ops:Edit->List Op | .mk _ _ _ _ _ _ o=> o
@[simp] theorem Edit.eta (e:Edit):Edit.mk e.kind e.old e.new e.words e.kids e.list e.ops=e:=by cases e;rfl
section
variable (k:Int) (o n:Tree) (w:List WEdit) (ks:List Kid) (l:Int) (os:List Op)
@[simp] theorem Edit.kind_mk:(Edit.mk k o n w ks l os).kind=k:=rfl
@[simp] theorem Edit.old_mk:(Edit.mk k o n w ks l os).old=o:=rfl
@[simp] theorem Edit.new_mk:(Edit.mk k o n w ks l os).new=n:=rfl
@[simp] theorem Edit.words_mk:(Edit.mk k o n w ks l os).words=w:=rfl
@[simp] theorem Edit.kids_mk:(Edit.mk k o n w ks l os).kids=ks:=rfl
@[simp] theorem Edit.list_mk:(Edit.mk k o n w ks l os).list=l:=rfl
@[simp] theorem Edit.ops_mk:(Edit.mk k o n w ks l os).ops=os:=rfl
end
def Tree.nil:Tree:= .mk 0 [] []
def Edit.nil:Edit:= .mk 0 Tree.nil Tree.nil [] [] 0 []
def Op.nil:Op:=⟨0,0,[],Edit.nil⟩
structure AUnit where
 step:Int
 kind:Int
 t:Tree
 e:Edit
 alone:Bool
def AUnit.nil:AUnit:=⟨0,0,Tree.nil,Edit.nil,false⟩
structure PStep where
 kind:Int
 at_:Int
structure Bnd where
 first:Tree
 log:List Edit
structure Piece where
 of:Int
 p:Op
 q:Op
structure APair where
 of:Int
 p:AUnit
 q:AUnit
inductive Ty where
 | u64 | u8 | int | tree | wedit | edit | kid | op | piece | unit | pair | bundle | rbundle
 deriving DecidableEq
@[reducible] def El:Ty->Type
 | .u64=> Int
 | .u8=> Int
 | .int=> Int
 | .tree=> Tree
 | .wedit=> WEdit
 | .edit=> Edit
 | .kid=> Kid
 | .op=> Op
 | .piece=> Piece
 | .unit=> AUnit
 | .pair=> APair
 | .bundle=> Bnd
 | .rbundle=> Bnd
@[reducible] def U:Uni:={ Ty:=Ty,El:=El }
abbrev sl(T:Ty)(l:List (El T)):C U:= .slice (U:=U) T l .unk
def ZAB(x:Tree):List (C U):=[.int .i64 x.kind,sl .u64 x.words,sl .tree x.kids]
def ZuP(x:WEdit):List (C U):=[.int .i64 x.at_,.int .u8 x.mask,.int .u64 x.old,.int .u64 x.new]
def ZAD(x:Edit):List (C U):=[.int .i64 x.kind,.int .i64 x.old.kind,sl .u64 x.old.words,sl .tree x.old.kids,.int .i64 x.new.kind,sl .u64 x.new.words,sl .tree x.new.kids,sl .wedit x.words,sl .kid x.kids,.int .i64 x.list,sl .op x.ops]
def ZGS(x:Kid):List (C U):=[.int .i64 x.at_,.int .i64 x.e.kind,.int .i64 x.e.old.kind,sl .u64 x.e.old.words,sl .tree x.e.old.kids,.int .i64 x.e.new.kind,sl .u64 x.e.new.words,sl .tree x.e.new.kids,sl .wedit x.e.words,sl .kid x.e.kids,.int .i64 x.e.list,sl .op x.e.ops]
def eOp(x:Op):List (C U):=[.int .i64 x.kind,.int .i64 x.n,sl .tree x.l,.int .i64 x.e.kind,.int .i64 x.e.old.kind,sl .u64 x.e.old.words,sl .tree x.e.old.kids,.int .i64 x.e.new.kind,sl .u64 x.e.new.words,sl .tree x.e.new.kids,sl .wedit x.e.words,sl .kid x.e.kids,.int .i64 x.e.list,sl .op x.e.ops]
def ZuQ(x:Piece):List (C U):=[.int .i64 x.of,.int .i64 x.p.kind,.int .i64 x.p.n,sl .tree x.p.l,.int .i64 x.p.e.kind,.int .i64 x.p.e.old.kind,sl .u64 x.p.e.old.words,sl .tree x.p.e.old.kids,.int .i64 x.p.e.new.kind,sl .u64 x.p.e.new.words,sl .tree x.p.e.new.kids,sl .wedit x.p.e.words,sl .kid x.p.e.kids,.int .i64 x.p.e.list,sl .op x.p.e.ops,.int .i64 x.q.kind,.int .i64 x.q.n,sl .tree x.q.l,.int .i64 x.q.e.kind,.int .i64 x.q.e.old.kind,sl .u64 x.q.e.old.words,sl .tree x.q.e.old.kids,.int .i64 x.q.e.new.kind,sl .u64 x.q.e.new.words,sl .tree x.q.e.new.kids,sl .wedit x.q.e.words,sl .kid x.q.e.kids,.int .i64 x.q.e.list,sl .op x.q.e.ops]
def ZAA(x:AUnit):List (C U):=[.int .i64 x.step,.int .i64 x.kind,.int .i64 x.t.kind,sl .u64 x.t.words,sl .tree x.t.kids,.int .i64 x.e.kind,.int .i64 x.e.old.kind,sl .u64 x.e.old.words,sl .tree x.e.old.kids,.int .i64 x.e.new.kind,sl .u64 x.e.new.words,sl .tree x.e.new.kids,sl .wedit x.e.words,sl .kid x.e.kids,.int .i64 x.e.list,sl .op x.e.ops,.bool x.alone]
def ZAC(x:APair):List (C U):=[.int .i64 x.of,.int .i64 x.p.step,.int .i64 x.p.kind,.int .i64 x.p.t.kind,sl .u64 x.p.t.words,sl .tree x.p.t.kids,.int .i64 x.p.e.kind,.int .i64 x.p.e.old.kind,sl .u64 x.p.e.old.words,sl .tree x.p.e.old.kids,.int .i64 x.p.e.new.kind,sl .u64 x.p.e.new.words,sl .tree x.p.e.new.kids,sl .wedit x.p.e.words,sl .kid x.p.e.kids,.int .i64 x.p.e.list,sl .op x.p.e.ops,.bool x.p.alone,.int .i64 x.q.step,.int .i64 x.q.kind,.int .i64 x.q.t.kind,sl .u64 x.q.t.words,sl .tree x.q.t.kids,.int .i64 x.q.e.kind,.int .i64 x.q.e.old.kind,sl .u64 x.q.e.old.words,sl .tree x.q.e.old.kids,.int .i64 x.q.e.new.kind,sl .u64 x.q.e.new.words,sl .tree x.q.e.new.kids,sl .wedit x.q.e.words,sl .kid x.q.e.kids,.int .i64 x.q.e.list,sl .op x.q.e.ops,.bool x.q.alone]
def ZoV(x:Bnd):List (C U):=[.int .i64 x.first.kind,sl .u64 x.first.words,sl .tree x.first.kids,sl .edit x.log]
def enc:(T:Ty)->El T->List (C U)
 | .u64,n=> [.int .u64 n]
 | .u8,n=> [.int .u8 n]
 | .int,n=> [.int .i64 n]
 | .tree,x=> ZAB x
 | .wedit,x=> ZuP x
 | .edit,x=> ZAD x
 | .kid,x=> ZGS x
 | .op,x=> eOp x
 | .piece,x=> ZuQ x
 | .unit,x=> ZAA x
 | .pair,x=> ZAC x
 | .bundle,x=> ZoV x
 | .rbundle,x=> ZoV x
abbrev Rd(α:Type):=List (C U)->Option (α × List (C U))
def Z4x(k:IntKind):Rd Int
 | .int k' n ::r=> if k=k' then some (n,r) else none
 | _=> none
def ZsO:Rd Bool
 | .bool b ::r=> some (b,r)
 | _=> none
def rSl(T:Ty):Rd (List (El T))
 | .nils ::r=> some ([],r)
 | .slice S l _ ::r=> match (inferInstance:DecidableEq Ty) S T with
  | isTrue h=> some (h▸l,r)
  | isFalse _=> none
 | _=> none
def Yn{α β:Type}(x:Rd α)(f:α->Rd β):Rd β:=fun cs=> match x cs with
 | some (a,r)=> f a r
 | none=> none
def Z76{α:Type}(a:α):Rd α:=fun cs=> some (a,cs)
def WkL:List (C U)->List (C U)->Prop
 | [],[]=> True
 | c ::r,c' ::r'=> Wk c c'/\WkL r r'
 | _,_=> False
theorem WkL.append:∀ {a b c d:List (C U)},WkL a b->WkL c d->WkL (a++c) (b++d)
 | [],[],_,_,_,h=> h
 | _ ::_,_ ::_,_,_,h,k=> ⟨h.1,WkL.append h.2 k⟩
theorem WkL.get:∀ {a b:List (C U)},WkL a b->a.length=b.length/\∀ (j:Nat) c s,a[j]?=some c->b[j]?=some s->Wk c s
 | [],[],_=> ⟨rfl,fun j c s h=> by simp at h⟩
 | x ::a,y ::b,h=> by
  obtain ⟨h1,u⟩:=WkL.get h.2
  refine ⟨by simp [h1],fun j c s hc d=> ?_⟩
  cases j with
  | zero=> simp at hc d;subst hc d;exact h.1
  | succ j=> exact u j c s (by simpa using hc) (by simpa using d)
def Z2S{α:Type}(r:Rd α)(e:α->List (C U)):Prop:=∀ cs x rest,r cs=some (x,rest)->∃ p,cs=p++rest/\WkL p (e x)
theorem Ye(k:IntKind):Z2S (Z4x k) fun n=> [.int k n]:=by
 intro cs x d h
 unfold Z4x at h
 split at h
 .split at h
  .rename_i s
   subst s
   cases h
   exact ⟨[_],rfl,.int _ _,trivial⟩
  .cases h
 .cases h
theorem Zlg:Z2S ZsO fun b=> [.bool b]:=by
 intro cs x d h
 unfold ZsO at h
 split at h
 .cases h;exact ⟨[_],rfl,.bool _,trivial⟩
 .cases h
theorem Z0O(T:Ty):Z2S (rSl T) fun l=> [sl T l]:=by
 intro cs x s h
 unfold rSl at h
 split at h
 .cases h;exact ⟨[_],rfl,(Wk.snil (U:=U) T:Wk (U:=U) .nils (.slice T [] .unk)),trivial⟩
 .split at h
  .rename_i d _
   subst d
   cases h
   exact ⟨[_],rfl,.slice _ _ _,trivial⟩
  .cases h
 .cases h
theorem Yz{α β:Type}{x:Rd α}{f:α->Rd β}{ex:α->List (C U)}(hx:Z2S x ex){cs:List (C U)}{b:β}{rest:List (C U)}(h:Yn x f cs=some (b,rest)):
  ∃ a p r,cs=p++r/\WkL p (ex a)/\f a r=some (b,rest):=by
 unfold Yn at h
 split at h
 .rename_i a r s
  obtain ⟨p,rfl,d⟩:=hx _ _ _ s
  exact ⟨a,p,r,rfl,d,h⟩
 .cases h
def ZdZ:Rd Tree:=Yn (Z4x .i64) fun x0=> Yn (rSl .u64) fun h=> Yn (rSl .tree) fun d=> Z76 (Tree.mk x0 h d)
theorem Z1d:Z2S ZdZ ZAB:=by
 intro cs x d h
 obtain ⟨x0,s,r0,rfl,w0,h⟩:=Yz (Ye _) h
 obtain ⟨x1,p1,r1,rfl,w1,h⟩:=Yz (Z0O _) h
 obtain ⟨x2,u,r2,rfl,w2,h⟩:=Yz (Z0O _) h
 cases h
 exact ⟨s++(p1++(u)),by simp,w0.append (w1.append (w2))⟩
def ZsK:Rd WEdit:=Yn (Z4x .i64) fun x0=> Yn (Z4x .u8) fun s=> Yn (Z4x .u64) fun h=> Yn (Z4x .u64) fun d=> Z76 (WEdit.mk x0 s h d)
theorem Zjf:Z2S ZsK ZuP:=by
 intro cs x d h
 obtain ⟨x0,s,r0,rfl,w0,h⟩:=Yz (Ye _) h
 obtain ⟨x1,u,r1,rfl,w1,h⟩:=Yz (Ye _) h
 obtain ⟨x2,p2,r2,rfl,w2,h⟩:=Yz (Ye _) h
 obtain ⟨x3,p3,r3,rfl,w3,h⟩:=Yz (Ye _) h
 cases h
 exact ⟨s++(u++(p2++(p3))),by simp,w0.append (w1.append (w2.append (w3)))⟩
def Zjm:Rd Edit:=Yn (Z4x .i64) fun x0=> Yn ZdZ fun h=> Yn ZdZ fun x2=> Yn (rSl .wedit) fun s=> Yn (rSl .kid) fun d=> Yn (Z4x .i64) fun u=> Yn (rSl .op) fun x6=> Z76 (Edit.mk x0 h x2 s d u x6)
theorem Z4w:Z2S Zjm ZAD:=by
 intro cs x d h
 obtain ⟨x0,s,r0,rfl,w0,h⟩:=Yz (Ye _) h
 obtain ⟨x1,p1,r1,rfl,w1,h⟩:=Yz Z1d h
 obtain ⟨x2,p2,r2,rfl,w2,h⟩:=Yz Z1d h
 obtain ⟨x3,p3,r3,rfl,w3,h⟩:=Yz (Z0O _) h
 obtain ⟨x4,u,r4,rfl,w4,h⟩:=Yz (Z0O _) h
 obtain ⟨x5,p5,r5,rfl,w5,h⟩:=Yz (Ye _) h
 obtain ⟨x6,p6,r6,rfl,w6,h⟩:=Yz (Z0O _) h
 cases h
 exact ⟨s++(p1++(p2++(p3++(u++(p5++(p6)))))),by simp,w0.append (w1.append (w2.append (w3.append (w4.append (w5.append (w6))))))⟩
def ZGy:Rd Kid:=Yn (Z4x .i64) fun x0=> Yn Zjm fun d=> Z76 (KidOf.mk x0 d)
theorem Zq0:Z2S ZGy ZGS:=by
 intro cs x d h
 obtain ⟨x0,s,r0,rfl,w0,h⟩:=Yz (Ye _) h
 obtain ⟨x1,u,r1,rfl,w1,h⟩:=Yz Z4w h
 cases h
 exact ⟨s++(u),by simp,w0.append (w1)⟩
def rOp:Rd Op:=Yn (Z4x .i64) fun x0=> Yn (Z4x .i64) fun s=> Yn (rSl .tree) fun h=> Yn Zjm fun d=> Z76 (OpOf.mk x0 s h d)
theorem ZdS:Z2S rOp eOp:=by
 intro cs x d h
 obtain ⟨x0,s,r0,rfl,w0,h⟩:=Yz (Ye _) h
 obtain ⟨x1,u,r1,rfl,w1,h⟩:=Yz (Ye _) h
 obtain ⟨x2,p2,r2,rfl,w2,h⟩:=Yz (Z0O _) h
 obtain ⟨x3,p3,r3,rfl,w3,h⟩:=Yz Z4w h
 cases h
 exact ⟨s++(u++(p2++(p3))),by simp,w0.append (w1.append (w2.append (w3)))⟩
def ZsM:Rd Piece:=Yn (Z4x .i64) fun x0=> Yn rOp fun h=> Yn rOp fun d=> Z76 (Piece.mk x0 h d)
theorem Zjg:Z2S ZsM ZuQ:=by
 intro cs x d h
 obtain ⟨x0,s,r0,rfl,w0,h⟩:=Yz (Ye _) h
 obtain ⟨x1,p1,r1,rfl,w1,h⟩:=Yz ZdS h
 obtain ⟨x2,u,r2,rfl,w2,h⟩:=Yz ZdS h
 cases h
 exact ⟨s++(p1++(u)),by simp,w0.append (w1.append (w2))⟩
def ZnQ:Rd AUnit:=Yn (Z4x .i64) fun x0=> Yn (Z4x .i64) fun h=> Yn ZdZ fun u=> Yn Zjm fun s=> Yn ZsO fun d=> Z76 (AUnit.mk x0 h u s d)
theorem Z7C:Z2S ZnQ ZAA:=by
 intro cs x d h
 obtain ⟨x0,s,r0,rfl,w0,h⟩:=Yz (Ye _) h
 obtain ⟨x1,p1,r1,rfl,w1,h⟩:=Yz (Ye _) h
 obtain ⟨x2,p2,r2,rfl,w2,h⟩:=Yz Z1d h
 obtain ⟨x3,p3,r3,rfl,w3,h⟩:=Yz Z4w h
 obtain ⟨x4,u,r4,rfl,w4,h⟩:=Yz Zlg h
 cases h
 exact ⟨s++(p1++(p2++(p3++(u)))),by simp,w0.append (w1.append (w2.append (w3.append (w4))))⟩
def ZAq:Rd APair:=Yn (Z4x .i64) fun x0=> Yn ZnQ fun h=> Yn ZnQ fun d=> Z76 (APair.mk x0 h d)
theorem Zlf:Z2S ZAq ZAC:=by
 intro cs x d h
 obtain ⟨x0,s,r0,rfl,w0,h⟩:=Yz (Ye _) h
 obtain ⟨x1,p1,r1,rfl,w1,h⟩:=Yz Z7C h
 obtain ⟨x2,u,r2,rfl,w2,h⟩:=Yz Z7C h
 cases h
 exact ⟨s++(p1++(u)),by simp,w0.append (w1.append (w2))⟩
def ZnR:Rd Bnd:=Yn ZdZ fun x0=> Yn (rSl .edit) fun d=> Z76 (Bnd.mk x0 d)
theorem Zht:Z2S ZnR ZoV:=by
 intro cs x d h
 obtain ⟨x0,s,r0,rfl,w0,h⟩:=Yz Z1d h
 obtain ⟨x1,u,r1,rfl,w1,h⟩:=Yz (Z0O _) h
 cases h
 exact ⟨s++(u),by simp,w0.append (w1)⟩
theorem Zfv:Z2S ZnR ZoV:=by
 intro cs x d h
 obtain ⟨x0,s,r0,rfl,w0,h⟩:=Yz Z1d h
 obtain ⟨x1,u,r1,rfl,w1,h⟩:=Yz (Z0O _) h
 cases h
 exact ⟨s++(u),by simp,w0.append (w1)⟩
def rEl:(T:Ty)->Rd (El T)
 | .u64=> Z4x .u64
 | .u8=> Z4x .u8
 | .int=> Z4x .i64
 | .tree=> ZdZ
 | .wedit=> ZsK
 | .edit=> Zjm
 | .kid=> ZGy
 | .op=> rOp
 | .piece=> ZsM
 | .unit=> ZnQ
 | .pair=> ZAq
 | .bundle=> ZnR
 | .rbundle=> ZnR
theorem Zjh:∀ T:Ty,Z2S (rEl T) (enc T)
 | .u64=> Ye _
 | .u8=> Ye _
 | .int=> Ye _
 | .tree=> Z1d
 | .wedit=> Zjf
 | .edit=> Z4w
 | .kid=> Zq0
 | .op=> ZdS
 | .piece=> Zjg
 | .unit=> Z7C
 | .pair=> Zlf
 | .bundle=> Zht
 | .rbundle=> Zfv
def dec(T:Ty)(cs:List (C U)):Option (El T):=
 match rEl T cs with
 | some (x,[])=> some x
 | _=> none
def K:Codec U:=
 {tyEq:=inferInstanceAs (DecidableEq Ty)
  dflt:=fun T=> match T with
   | .u64=> (0:Int) | .u8=> (0:Int) | .int=> (0:Int) | .tree=> Tree.nil | .wedit=> WEdit.mk 0 0 0 0 | .edit=> Edit.nil | .kid=> KidOf.mk 0 Edit.nil | .op=> Op.nil | .piece=> Piece.mk 0 Op.nil Op.nil | .unit=> AUnit.nil | .pair=> APair.mk 0 AUnit.nil AUnit.nil | .bundle=> Bnd.mk Tree.nil [] | .rbundle=> Bnd.mk Tree.nil []
  enc:=enc
  dec:=dec
  aggT:=fun T=> match T with | .u64 | .u8 | .int=> false | _=> true
  sz:=fun T=> match T with | .u64=> 1 | .u8=> 1 | .int=> 1 | .tree=> 3 | .wedit=> 4 | .edit=> 11 | .kid=> 12 | .op=> 14 | .piece=> 29 | .unit=> 17 | .pair=> 35 | .bundle=> 4 | .rbundle=> 4
  bytes:=fun T=> match T with | .u64=> 8 | .u8=> 1 | .int=> 8 | .tree=> 56 | .wedit=> 32 | .edit=> 200 | .kid=> 208 | .op=> 240 | .piece=> 488 | .unit=> 280 | .pair=> 568 | .bundle=> 80 | .rbundle=> 80 }
theorem ZJ3:CodecOk K:=by
 refine ⟨?_,?_,?_,?_,?_⟩
 .intro T x
  cases T <;> rfl
 .intro T x c hc
  have h:(enc T x).all C.plain=true:=by cases T <;> rfl
  exact Qz.1 h c hc
 .intro T cs x h
  have d:dec T cs=some x:=h
  unfold dec at d
  split at d
  .rename_i y u
   cases d
   obtain ⟨p,s,hw⟩:=Zjh T _ _ _ u
   rw [Qr] at s
   subst s
   exact hw.get
  .cases d
 .intro T;cases T <;> decide
 .intro T;cases T <;> decide
theorem ZyP(T:Ty)(x:El T):dec T (enc T x)=some x:=by
 cases T with
 | u64=> rfl
 | u8=> rfl
 | int=> rfl
 | tree=> cases x;rfl
 | wedit=> rfl
 | edit=> obtain ⟨k,⟨_,_,_⟩,⟨_,_,_⟩,w,ks,l,os⟩:=x;rfl
 | kid=> obtain ⟨a,⟨k,⟨_,_,_⟩,⟨_,_,_⟩,w,ks,l,os⟩⟩:=x;rfl
 | op=> obtain ⟨a,b,c,⟨k,⟨_,_,_⟩,⟨_,_,_⟩,w,ks,l,os⟩⟩:=x;rfl
 | piece=> obtain ⟨_,⟨_,_,_,⟨_,⟨_,_,_⟩,⟨_,_,_⟩,_,_,_,_⟩⟩,⟨_,_,_,⟨_,⟨_,_,_⟩,⟨_,_,_⟩,_,_,_,_⟩⟩⟩:=x;rfl
 | unit=> obtain ⟨_,_,⟨_,_,_⟩,⟨_,⟨_,_,_⟩,⟨_,_,_⟩,_,_,_,_⟩,_⟩:=x;rfl
 | pair=> obtain ⟨_,⟨_,_,⟨_,_,_⟩,⟨_,⟨_,_,_⟩,⟨_,_,_⟩,_,_,_,_⟩,_⟩,⟨_,_,⟨_,_,_⟩,⟨_,⟨_,_,_⟩,⟨_,_,_⟩,_,_,_,_⟩,_⟩⟩:=x;rfl
 | bundle=> obtain ⟨⟨_,_,_⟩,_⟩:=x;rfl
 | rbundle=> obtain ⟨⟨_,_,_⟩,_⟩:=x;rfl
def ZaG(x:Tree):Tree:=Tree.mk (Tree.kind x) (Tree.words x) (Tree.kids x)
@[simp] theorem Z0 (x:Tree):ZaG x=x:=Tree.eta x
def Zxh(x:WEdit):WEdit:=WEdit.mk (WEdit.at_ x) (WEdit.mask x) (WEdit.old x) (WEdit.new x)
@[simp] theorem Z7D (x:WEdit):Zxh x=x:=rfl
def ZdU(x:Edit):Edit:=Edit.mk (Edit.kind x) (ZaG (Edit.old x)) (ZaG (Edit.new x)) (Edit.words x) (Edit.kids x) (Edit.list x) (Edit.ops x)
@[simp] theorem Z8 (x:Edit):ZdU x=x:=by unfold ZdU;rw [Z0,Z0];exact Edit.eta x
def ZAp(x:Kid):Kid:=KidOf.mk (KidOf.at_ x) (ZdU (KidOf.e x))
@[simp] theorem ZdT (x:Kid):ZAp x=x:=by unfold ZAp;rw [Z8]
def Zxj(x:Op):Op:=OpOf.mk (OpOf.kind x) (OpOf.n x) (OpOf.l x) (ZdU (OpOf.e x))
@[simp] theorem J5 (x:Op):Zxj x=x:=by unfold Zxj;rw [Z8]
def ZnL(x:Piece):Piece:=Piece.mk (Piece.of x) (Zxj (Piece.p x)) (Zxj (Piece.q x))
@[simp] theorem Zli (x:Piece):ZnL x=x:=by unfold ZnL;rw [J5,J5]
def Zhu(x:AUnit):AUnit:=AUnit.mk (AUnit.step x) (AUnit.kind x) (ZaG (AUnit.t x)) (ZdU (AUnit.e x)) (AUnit.alone x)
@[simp] theorem Zgc (x:AUnit):Zhu x=x:=by unfold Zhu;rw [Z8,Z0]
def ZsD(x:APair):APair:=APair.mk (APair.of x) (Zhu (APair.p x)) (Zhu (APair.q x))
@[simp] theorem ZFv (x:APair):ZsD x=x:=by unfold ZsD;rw [Zgc,Zgc]
def Zji(x:Bnd):Bnd:=Bnd.mk (ZaG (Bnd.first x)) (Bnd.log x)
@[simp] theorem Z38 (x:Bnd):Zji x=x:=by unfold Zji;rw [Z0]
def Zgd(x:Bnd):Bnd:=Bnd.mk (ZaG (Bnd.first x)) (Bnd.log x)
@[simp] theorem Zxi (x:Bnd):Zgd x=x:=by unfold Zgd;rw [Z0]
end Go.AM
namespace Go.AM
variable {P:Program} {cfg:Cfg U}
structure ArgL (α:Type) where
 get:List (V U)->Option α
 can:α->List (V U)
 ok:∀ cfg:Cfg U,cfg.enc=enc->∀ xs a,get xs=some a->xs.length=(can a).length/\∀ (j:Nat) x y,xs[j]?=some x->(can a)[j]?=some y->Zfp cfg x y
structure Arg (α:Type) where
 get:V U->Option α
 can:α->V U
 ok:∀ cfg:Cfg U,cfg.enc=enc->∀ x a,get x=some a->Zfp cfg x (can a)
def ArgL.nil:ArgL Unit:=
 {get:=fun xs=> match xs with
   | []=> some ()
   | _ ::_=> none
  can:=fun _=> []
  ok:=by
   grind }
def ArgL.cons{α β:Type}(A:Arg α)(B:ArgL β):ArgL (α × β):=
 {get:=fun xs=> match xs with
   | x ::r=> match A.get x with
    | some a=> match B.get r with
     | some b=> some (a,b)
     | none=> none
    | none=> none
   | []=> none
  can:=fun p=> A.can p.1 ::B.can p.2
  ok:=by
   intro cfg hc xs p h
   cases xs with
   | nil=> cases h
   | cons x r=>
    simp only at h
    split at h
    .rename_i a ha
     split at h
     .rename_i b hb
      cases h
      obtain ⟨h1,h2⟩:=B.ok cfg hc r b hb
      refine ⟨by simp [h1],fun j x' y hx hy=> ?_⟩
      cases j with
      | zero=> simp at hx hy;subst hx hy;exact A.ok cfg hc x a ha
      | succ j=> grind
     .cases h
    .cases h }
theorem Zbg{a b:C U}(h:Wk a b):Zfp cfg (.c a) (.c b):=by
 intro g s v d
 refine ⟨d.1.wk h,?_⟩
 cases h with
 | snil=> trivial
 | slice=> trivial
 | _=> exact d.2
theorem ZmE{a b:List (C U)}(h:WkL a b):Zfp cfg (.agg a) (.agg b):=by
 intro g d v hr
 obtain ⟨vs,rfl,h1,h2⟩:=hr
 obtain ⟨h3,h4⟩:=h.get
 refine ⟨vs,rfl,by rw [h1,h3],fun j u c hu hc=> ?_⟩
 have hj:j < a.length:=by have:=(Q4.1 hc).1;omega
 have s:=Q2 hj
 exact Zbg (cfg:=cfg) (h4 j _ c s hc) g d u (h2 j u _ hu s)
def aEl(T:Ty):Arg (El T):=
 {get:=fun v=> match v with
   | .agg cs=> dec T cs
   | _=> none
  can:=fun x=> .agg (enc T x)
  ok:=by
   intro cfg _ v a h
   cases v <;> simp only [reduceCtorEq] at h
   rename_i cs
   unfold dec at h
   split at h
   .rename_i y he
    cases h
    obtain ⟨p,hp,hw⟩:=Zjh T _ _ _ he
    rw [Qr] at hp
    subst hp
    exact ZmE hw
   .cases h }
def Yc(k:IntKind):Arg Int:=
 {get:=fun v=> match v with
   | .c (.int k' n)=> if k=k' then some n else none
   | _=> none
  can:=fun n=> .c (.int k n)
  ok:=by
   intro cfg _ v a h
   split at h
   .split at h
    .rename_i hk;subst hk;cases h;exact fun _ _ _ h=> h
    .cases h
   .cases h }
theorem ZvZ{p:List (C U)}{c:C U}(h:WkL p [c]):∃ y,p=[y]/\Wk y c:=by
 cases p with
 | nil=> exact h.elim
 | cons y r=> cases r with
  | nil=> exact ⟨y,rfl,h.1⟩
  | cons z r=> exact h.2.elim
theorem ZsL{T:Ty}{x:C U}{l:List (El T)}{r:List (C U)}(h:rSl T [x]=some (l,r)):Wk x (sl T l):=by
 obtain ⟨p,u,s⟩:=Z0O T _ _ _ h
 obtain ⟨y,rfl,d⟩:=ZvZ s
 grind
def aSl(T:Ty):Arg (List (El T)):=
 {get:=fun v=> match v with
   | .c x=> match rSl T [x] with
    | some (l,_)=> some l
    | none=> none
   | _=> none
  can:=fun l=> .c (sl T l)
  ok:=by
   intro cfg _ v a h
   split at h
   .split at h
    .rename_i l r hr
     cases h
     exact Zbg (ZsL hr)
    .cases h
   .cases h }
def fs{α:Type}(A:ArgL α)(pre:α->List Prop)(res:α->V U):Fs U:=
 {fn:=fun xs X=> match X with
   | []=> match A.get xs with
    | some a=> some (pre a,res a,[])
    | none=> none
   | _ ::_=> none }
theorem ZC {Γ:Known U} {α:Type} {A:ArgL α} {pre:α->List Prop} {res:α->V U} (ok:CfgOk P cfg) (henc:cfg.enc=enc) (hΓ:∀ f s,Γ f=some s->Contract P cfg f s) {f:FuncId} {fn:Func} (lv:Zg U)
  (hf : P.funcs[f]? = some fn) (hb : fn.body = some (cd fn [])) (hname : (fn.name == "runtime.NumGoroutine") = false) (hn : ∀ a, (A.can a).length ≤ fn.ntmps)
  (hbody:∀ a,All (pre a)->awp cfg Γ (JU cfg Γ) fn.ntmps lv (cd fn []) (Zi (A.can a) []) (ZF cfg fn.ntmps fn.results.toList (res a) [])):Contract P cfg f (fs A pre res):=by
 refine Zcd ok hΓ (Z26 ok hΓ) lv hf hb hname ?_
 intro args X ps r X' d aa
 unfold fs at d
 simp only at d
 split at d
 .split at d
  .rename_i a ha
   cases d
   obtain ⟨h1,h2⟩:=A.ok cfg henc args a ha
   exact ⟨A.can a,[],⟨h1,h2,rfl,fun k x y u=> by simp at u,fun k x y u=> by simp at u⟩,hn a,hbody a aa⟩
  .cases d
 .cases d
end Go.AM
namespace Go.AM
theorem ZDI{a b:Bool}:((bif a then true else b)=true)=(a=true\/b=true):=by grind
theorem ZDJ{a b:Bool}:((bif a then b else false)=true)=(a=true/\b=true):=by grind
theorem ZyV{a b:Bool}:((bif a then true else b)=false)=(a=false/\b=false):=by grind
theorem ZyW{a b:Bool}:((bif a then b else false)=false)=(a=false\/b=false):=by grind
theorem vcS:(∀ {a b:Bool},((bif a then true else b)=true)=(a=true\/b=true))/\(∀ {a b:Bool},((bif a then b else false)=true)=(a=true/\b=true))/\
  (∀ {a b:Bool},((bif a then true else b)=false)=(a=false/\b=false))/\(∀ {a b:Bool},((bif a then b else false)=false)=(a=false\/b=false))/\
  (∀ (b:Bool),((!b)=true)=(b=false))/\(∀ (b:Bool),((!b)=false)=(b=true))/\(∀ {p:Prop} [Decidable p],(decide p=true)=p)/\(∀ {p:Prop} {_:Decidable p},decide p=false↔¬p)/\
  (∀ {α:Type} [BEq α] [LawfulBEq α] {a b:α},(a==b)=true↔a=b)/\(∀ {α:Type} [BEq α] [LawfulBEq α] {a b:α},(a==b)=false↔a≠b)/\
  (∀ {α:Type} [BEq α] [LawfulBEq α] {a b:α},(a !=b)=true↔a≠b)/\(∀ {α:Type} (a b:α),(a≠b)=¬a=b)/\(∀ {α:Type} [BEq α] [LawfulBEq α] {a b:α},(a !=b)=false↔a=b)/\
  (∀ (a b:Bool),((a || b)=true)=(a=true\/b=true))/\(∀ (a b:Bool),((a && b)=true)=(a=true/\b=true))/\(∀ {x y:Bool},(x || y)=false↔x=false/\y=false)/\(∀ {x y:Bool},(x && y)=false↔x=true->y=false):=
 ⟨ZDI,ZDJ,ZyV,ZyW,QS,Bool.not_eq_false',decide_eq_true_eq,decide_eq_false_iff_not,beq_iff_eq,beq_eq_false_iff_ne,bne_iff_ne,ne_eq,bne_eq_false_iff_eq,XT,Q0,QF,Bool.and_eq_false_imp⟩
abbrev Tr(p:Prop):Prop:=p->p
abbrev Tt(b:Bool):Prop:=Tr (b=true)
abbrev iB(b:Bool)(A B:Prop):Prop:=(b=true->A)/\(b=false->B)
theorem vE:type_of% (And.intro @Tree.eta (And.intro @Edit.eta (And.intro @Tree.kind_mk (And.intro @Tree.words_mk @Tree.kids_mk)))):=And.intro @Tree.eta (And.intro @Edit.eta (And.intro @Tree.kind_mk (And.intro @Tree.words_mk @Tree.kids_mk)))
theorem vcT:(∀ {p:Prop},Tr p=True)/\(∀ {p:Prop},(True/\p)=p)/\(∀ {p:Prop},(p/\True)=p)/\(∀ {p:Prop},(p->p)=True)/\(∀ {p:Prop},(True->p)=p)/\(∀ {p:Prop},(p->True)=True):=
 ⟨by simp,by simp,by simp,by simp,by simp,by simp⟩
theorem vcF:(∀ {α:Type} {a:α},(a=a)=True)/\((true=false)=False)/\((false=true)=False)/\(∀ {p:Prop},(False->p)=True)/\(∀ {p:Prop},(True->p)=p)/\(∀ {p:Prop},(True/\p)=p)/\(∀ {p:Prop},(p/\True)=p)/\((!true)=false)/\((!false)=true):=
 ⟨by simp,by simp,by simp,by simp,by simp,by simp,by simp,rfl,rfl⟩
end Go.AM
namespace Go.AM
variable {P:Program} {cfg:Cfg U}
def ZgB:List (FuncId × Fs U)->FuncId->Option (Fs U)
 | [],_=> none
 | (f,s) ::r,k=> bif Nat.beq k f then some s else ZgB r k
def Z2(l:List (FuncId × Fs U)):Known U:=⟨ZgB l,false,false⟩
def Z07(l:List (FuncId × Fs U)):Known U:=⟨ZgB l,true,false⟩
def ZeR(l:List (FuncId × Fs U)):Known U:=⟨ZgB l,false,true⟩
def Z4L(P:Program)(cfg:Cfg U):List (FuncId × Fs U)->Prop
 | []=> True
 | (f,s) ::r=> Contract P cfg f s/\Z4L P cfg r
theorem Z03:∀ {l:List (FuncId × Fs U)},Z4L P cfg l->∀ f s,ZgB l f=some s->Contract P cfg f s
 | [],_,f,s,h=> by cases h
 | (f',s') ::r,hk,f,s,h=> by
  unfold ZgB at h
  cases e:Nat.beq f f' with
  | true=>
   rw [e] at h
   cases h
   rw [Qb e]
   exact hk.1
  | false=>
   rw [e] at h
   exact Z03 hk.2 f s h
theorem Z1 {l:List (FuncId × Fs U)} {α:Type} {A:ArgL α} {pre:α->Prop} {res:α->V U} (ok:CfgOk P cfg) (henc:cfg.enc=enc) (hl:Z4L P cfg l) {f:FuncId} {fn:Func} (lv:Zg U)
  (hf : P.funcs[f]? = some fn) (hb : fn.body = some (cd fn [])) (hname : (fn.name == "runtime.NumGoroutine") = false) (n : Nat) (hn : ∀ a, (A.can a).length = n) (hn' : n ≤ fn.ntmps)
  (hbody:∀ a,pre a->awp cfg (Z2 l) (JU cfg (Z2 l)) fn.ntmps lv (cd fn []) (Zi (A.can a) []) (ZF cfg fn.ntmps fn.results.toList (res a) [])):Contract P cfg f (fs A (fun a=> [pre a]) res):=
 ZC ok henc (Z03 hl) lv hf hb hname (fun a=> by rw [hn];exact hn') (fun a h=> hbody a h.1)
theorem Zfd {l:List (FuncId × Fs U)} {α:Type} {A:ArgL α} {pre:α->Prop} {res:α->V U} (ok:CfgOk P cfg) (henc:cfg.enc=enc) (hl:Z4L P cfg l) {f:FuncId} {fn:Func} (lv:Zg U)
  (hf : P.funcs[f]? = some fn) (hb : fn.body = some (cd fn [])) (hname : (fn.name == "runtime.NumGoroutine") = false) (n : Nat) (hn : ∀ a, (A.can a).length = n) (hn' : n ≤ fn.ntmps)
  (hbody:∀ a,pre a->awp cfg (Z07 l) (JU cfg (Z07 l)) fn.ntmps lv (cd fn []) (Zi (A.can a) []) (ZF cfg fn.ntmps fn.results.toList (res a) [])):Contract P cfg f (fs A (fun a=> [pre a]) res):=
 ZC ok henc (Z03 hl) lv hf hb hname (fun a=> by rw [hn];exact hn') (fun a h=> hbody a h.1)
theorem Y8 {l:List (FuncId × Fs U)} {α:Type} {A:ArgL α} {pre:α->Prop} {μ:α->Nat} {res:α->V U} (ok:CfgOk P cfg) (henc:cfg.enc=enc) (hl:Z4L P cfg l) {f:FuncId} {fn:Func} (lv:Zg U)
  (hf : P.funcs[f]? = some fn) (hb : fn.body = some (cd fn [])) (hname : (fn.name == "runtime.NumGoroutine") = false) (n : Nat) (hn : ∀ a, (A.can a).length = n) (hn' : n ≤ fn.ntmps)
  (hbody:∀ N a,pre a->μ a < N+1->awp cfg (Z2 ((f,fs A (fun a=> [pre a,μ a < N]) res) ::l)) (JU cfg (Z2 ((f,fs A (fun a=> [pre a,μ a < N]) res) ::l))) fn.ntmps lv (cd fn []) (Zi (A.can a) []) (ZF cfg fn.ntmps fn.results.toList (res a) [])):
  Contract P cfg f (fs A (fun a=> [pre a]) res):=by
 have u:∀ N,Contract P cfg f (fs A (fun a=> [pre a,μ a < N]) res):=by
  intro N
  induction N with
  | zero=>
   refine Z3i ⟨fn,hf,by rw [hb];rfl,hname⟩ rfl ?_
   intro args X ps r X' d s
   exfalso
   unfold fs at d
   simp only at d
   split at d
   .split at d
    .cases d
     exact absurd s.2.1 V0
    .cases d
   .cases d
  | succ N ih=> exact ZC (Γ:=Z2 ((f,fs A (fun a=> [pre a,μ a < N]) res) ::l)) ok henc (Z03 ⟨ih,hl⟩) lv hf hb hname (fun a=> by grind) (fun a h=> hbody N a h.1 h.2.1)
 refine Z3i (u 0).1 rfl ?_
 intro args X ps r X' d s
 unfold fs at d
 simp only at d
 split at d
 .split at d
  .rename_i a ha
   cases d
   have e:(fs A (fun x=> [pre x,μ x < μ a+1]) res).fn args []=some ([pre a,μ a < μ a+1],res a,[]):=by
    unfold fs
    simp only [ha]
   exact (u (μ a+1)).one rfl args [] _ _ [] e ⟨s.1,Nat.lt_succ_self _,trivial⟩
  .cases d
 .cases d
theorem YR {α : Type} {A : ArgL α} {pre : α → Prop} {μ : α → Nat} {res : α → V U} {f : FuncId} (h0 : ∃ fn, P.funcs[f]? = some fn ∧ fn.body.isSome = true ∧ (fn.name == "runtime.NumGoroutine") = false)
  (key:∀ N,Contract P cfg f (fs A (fun a=> [pre a,μ a < N]) res)):Contract P cfg f (fs A (fun a=> [pre a]) res):=by
 refine Z3i h0 rfl ?_
 intro args X u r X' d h
 unfold fs at d
 simp only at d
 split at d
 .split at d
  .rename_i a s
   cases d
   have e:(fs A (fun x=> [pre x,μ x < μ a+1]) res).fn args []=some ([pre a,μ a < μ a+1],res a,[]):=by
    unfold fs
    simp only [s]
   exact (key (μ a+1)).one rfl args [] _ _ [] e ⟨h.1,Nat.lt_succ_self _,trivial⟩
  .cases d
 .cases d
theorem YQ {α : Type} {A : ArgL α} {pre : α → Prop} {μ : α → Nat} {res : α → V U} {f : FuncId} (h0 : ∃ fn, P.funcs[f]? = some fn ∧ fn.body.isSome = true ∧ (fn.name == "runtime.NumGoroutine") = false) :
  Contract P cfg f (fs A (fun a=> [pre a,μ a < 0]) res):=by
 refine Z3i h0 rfl ?_
 intro args X s r X' d h
 exfalso
 unfold fs at d
 simp only at d
 split at d
 .split at d
  .cases d
   exact absurd h.2.1 V0
  .cases d
 .cases d
theorem JA {l:List (FuncId × Fs U)} {α β:Type} {A:ArgL α} {B:ArgL β} {preA:α->Prop} {preB:β->Prop} {μA:α->Nat} {μB:β->Nat} {resA:α->V U} {resB:β->V U} (ok:CfgOk P cfg) (henc:cfg.enc=enc) (hl:Z4L P cfg l) {f f':FuncId} {fn fn':Func}
  (lv lv' : Zg U) (hf : P.funcs[f]? = some fn) (hf' : P.funcs[f']? = some fn') (hb : fn.body = some (cd fn [])) (hb' : fn'.body = some (cd fn' [])) (hname : (fn.name == "runtime.NumGoroutine") = false) (hname' : (fn'.name == "runtime.NumGoroutine") = false)
  (n n':Nat) (hn:∀ a,(A.can a).length=n) (hn':∀ a,(B.can a).length=n') (hle:n<=fn.ntmps) (hle':n'<=fn'.ntmps)
  (hbody:∀ N a,preA a->μA a < N+1->awp cfg (Z2 ((f,fs A (fun a=> [preA a,μA a < N]) resA) ::(f',fs B (fun a=> [preB a,μB a < N]) resB) ::l)) (JU cfg (Z2 ((f,fs A (fun a=> [preA a,μA a < N]) resA) ::(f',fs B (fun a=> [preB a,μB a < N]) resB) ::l))) fn.ntmps lv (cd fn []) (Zi (A.can a) []) (ZF cfg fn.ntmps fn.results.toList (resA a) []))
  (hbody':∀ N a,preB a->μB a < N+1->awp cfg (Z2 ((f,fs A (fun a=> [preA a,μA a < N]) resA) ::(f',fs B (fun a=> [preB a,μB a < N]) resB) ::l)) (JU cfg (Z2 ((f,fs A (fun a=> [preA a,μA a < N]) resA) ::(f',fs B (fun a=> [preB a,μB a < N]) resB) ::l))) fn'.ntmps lv' (cd fn' []) (Zi (B.can a) []) (ZF cfg fn'.ntmps fn'.results.toList (resB a) [])):
  Contract P cfg f (fs A (fun a=> [preA a]) resA)/\Contract P cfg f' (fs B (fun a=> [preB a]) resB):=by
 have u : ∃ fn, P.funcs[f]? = some fn ∧ fn.body.isSome = true ∧ (fn.name == "runtime.NumGoroutine") = false := ⟨fn, hf, by rw [hb]; rfl, hname⟩
 have d : ∃ fn, P.funcs[f']? = some fn ∧ fn.body.isSome = true ∧ (fn.name == "runtime.NumGoroutine") = false := ⟨fn', hf', by rw [hb']; rfl, hname'⟩
 have s:∀ N,Contract P cfg f (fs A (fun a=> [preA a,μA a < N]) resA)/\Contract P cfg f' (fs B (fun a=> [preB a,μB a < N]) resB):=by
  intro N
  induction N with
  | zero=> exact ⟨YQ u,YQ d⟩
  | succ N ih=>
   exact ⟨ZC (Γ:=Z2 ((f,fs A (fun a=> [preA a,μA a < N]) resA) ::(f',fs B (fun a=> [preB a,μB a < N]) resB) ::l)) ok henc (Z03 ⟨ih.1,ih.2,hl⟩) lv hf hb hname (fun a=> by grind) (fun a h=> hbody N a h.1 h.2.1),
    ZC (Γ:=Z2 ((f,fs A (fun a=> [preA a,μA a < N]) resA) ::(f',fs B (fun a=> [preB a,μB a < N]) resB) ::l)) ok henc (Z03 ⟨ih.1,ih.2,hl⟩) lv' hf' hb' hname' (fun a=> by grind) (fun a h=> hbody' N a h.1 h.2.1)⟩
 exact ⟨YR u fun N=> (s N).1,YR d fun N=> (s N).2⟩
end Go.AM
namespace Go.AM
mutual
def ZD:Tree->Int->Int->Int
 | .mk _ w ks,d,l=> if d=0\/l - 1 - w.length < 0 then -1 else ZB ks (d - 1) (l - 1 - w.length)
def ZB:List Tree->Int->Int->Int
 | [],_,l=> l
 | t ::r,d,l=> if l < 0 then l else ZB r d (ZD t d l)
end
mutual
def Zh:Tree->Nat
 | .mk _ w ks=> 1+w.length+Ze ks
def Ze:List Tree->Nat
 | []=> 0
 | t ::r=> Zh t+Ze r
end
mutual
def Z2t:Tree->Prop
 | .mk _ w ks=> w.length<=17592186044416/\ks.length<=17592186044416/\Z3o ks
def Z3o:List Tree->Prop
 | []=> True
 | t ::r=> Z2t t/\Z3o r
end
def trim:List Int->List Int
 | []=> []
 | x ::r=> match trim r with
  | []=> if x=0 then [] else [x]
  | y ::s=> x ::y ::s
def Yf:List Tree->List Tree
 | []=> []
 | x ::r=> match Yf r with
  | []=> if x.kind=0 then [] else [x]
  | y ::s=> x ::y ::s
mutual
def Z3:Tree->Tree
 | .mk k w ks=> if k=0 then Tree.nil else if k=1 then .mk 1 (trim w) (Yf (Yl ks)) else .mk k w (Yl ks)
def Yl:List Tree->List Tree
 | []=> []
 | t ::r=> Z3 t ::Yl r
end
open Classical in
noncomputable def Yd(a b:Tree):Bool:=decide (a=b)
def Zw(t:Tree)(i:Int):Int:=if i < 0 then 0 else t.words.getD i.toNat 0
def ZI(t:Tree)(i:Int):Tree:=if i < 0 then Tree.nil else t.kids.getD i.toNat Tree.nil
mutual
def rng:Tree->Prop
 | .mk k w ks=> (-9223372036854775808<=k/\k<=9223372036854775807)/\(∀ x∈w,0<=x/\x < 18446744073709551616)/\Ya ks
def Ya:List Tree->Prop
 | []=> True
 | t ::r=> rng t/\Ya r
end
def wd(c:Int):Int:=if c=0 then 0 else if c=1 then 1 else if c=2 then 8 else if c=3 then 16 else if c=4 then 32 else if c=5 then 64 else -1
def Zi4(c n:Int):Bool:=decide (0<=wd c/\n < 2 ^ (wd c).toNat)
def Z0n(list:Int)(t:Tree):Bool:=
 if 2<=list/\list<=7 then decide (t.kind=10/\t.kids.length=0/\t.words.length=1) && Zi4 (list - 2) (t.words.getD 0 0)
 else if list=9 then decide (t.kind=1) else decide (t.kind≠10)
mutual
def Za:Tree->Int->Bool
 | .mk k w ks,d=>
  if k=0 then decide (w.length=0/\ks.length=0)
  else if k=10 then decide (w.length=1/\ks.length=0)
  else if d=0 then false
  else if k=1 then decide (w.length < 65536/\ks.length < 65536) && Yb 1 ks (d - 1)
  else decide (2<=k/\k<=9/\w.length=0/\ks.length < 1048576) && Yb k ks (d - 1)
def Yb(list:Int):List Tree->Int->Bool
 | [],_=> true
 | t ::r,d=> (Z0n list t && Za t d) && Yb list r d
end
end Go.AM
namespace Go.AM
open Go.ChangeShapes Go.WideShapes Go.RowKit
def inT(t:Tree):Prop:=Z2t t/\rng t
theorem ZAy{ks:List Tree}(h:∀ t∈ks,inT t):Z3o ks/\Ya ks:=by
 induction ks with
 | nil=> trivial
 | cons t r ih=>
  have d:=h t (Q5 ..)
  have s:=ih fun x u=> h x (Q1 _ u)
  exact ⟨⟨d.1,s.1⟩,d.2,s.2⟩
section
variable {U:Uni} {P:Program} {cfg:Cfg U} {w:World} {H:Type} {henc:TypeId × Value->H}
def RelS(cfg:Cfg U)(m:Addr->Option Value)(vs:List Value)(cs:List (C U)):Prop:=
 vs.length=cs.length/\∀ (j:Nat) v c,vs[j]?=some v->cs[j]?=some c->SimC cfg m v c
theorem RelS.one{m:Addr->Option Value}{v:Value}{c:C U}(h:SimC cfg m v c):RelS cfg m [v] [c]:=by
 refine ⟨rfl,fun j u d s hd=> ?_⟩
 grind
theorem RelS.glue{m:Addr->Option Value}{vs:List Value}{a n:Nat}{c1 rest:List (C U)}(h1:RelS cfg m ((vs.drop a).take n) c1)(hn:c1.length=n)(d:a+n<=vs.length)(h2:RelS cfg m (vs.drop (a+n)) rest):
  RelS cfg m (vs.drop a) (c1++rest):=by
 have e:vs.drop a=(vs.drop a).take n++vs.drop (a+n):=by
  rw [show vs.drop (a+n)=(vs.drop a).drop n by simp_all]
  exact (QQ n _).symm
 rw [e]
 have hl:((vs.drop a).take n).length=c1.length:=h1.1
 refine ⟨by simp only [Qa,hl,h2.1],fun j v c d hc=> ?_⟩
 rw [QE] at d hc
 rw [hl] at d
 split at d
 .rename_i h
  rw [if_pos h] at hc
  exact h1.2 j v c d hc
 .rename_i h
  rw [if_neg h] at hc
  exact h2.2 _ v c d hc
theorem RelS.done{m:Addr->Option Value}{vs:List Value}{n:Nat}(h:vs.length=n):RelS cfg m (vs.drop n) ([]:List (C U)):=by
 rw [Q6 V0]
 exact ⟨rfl,fun j v c d=> by simp at d⟩
def Rdd(henc:TypeId × Value->H)(P:Program)(w:World)(n:Nat)(t:TypeId)(cs:List Value):Prop:=
 ∃ x,DataW.trod henc P w 0 (fun _=> true) true n t cs=some x/\(x.1.weights P t).all (·<=reachBytes)=true
theorem JX(ok:CfgOk P cfg){t:TypeId}{ag:Bool}{zs:List (C U)}(h:cfg.var t=some (ag,zs)):P.cellsOf t=zs.length:=by
 obtain ⟨_,i,z,d,u,h2,s,_⟩:=ok.var _ _ _ h
 simp [Program.cellsOf,u,s]
theorem Z2A(ok:CfgOk P cfg){t:TypeId}{k:IntKind}{n0:Int}{n:Nat}{cs:List Value}(hv:cfg.var t=some (false,[.int k n0]))(h:Rdd henc P w n t cs):
  ∃ z,RelS cfg w.cell? cs [.int k z]/\k.min<=z/\z<=k.max:=by
 obtain ⟨x,hx,_⟩:=h
 obtain ⟨_,i,z,d,h1,u,h3,h4,h5,h6,h7,_⟩:=ok.var _ _ _ hv
 have hd:=h7 rfl k n0 rfl
 subst hd
 obtain ⟨q,rfl,_,s⟩:=DataW.trod_int u hx
 simp only [Lit.wf,Q0,decide_eq_true_eq] at s
 exact ⟨q,.one (.int k q),s.1,s.2⟩
theorem YY(ok:CfgOk P cfg){t ft:TypeId}{i off:Nat}{ag:Bool}{zs:List (C U)}{n:Nat}{cs:List Value}(hf:cfg.fld t i=some (off,ft))(hv:cfg.var ft=some (ag,zs))(h:Rdd henc P w n t cs):
  ∃ m,n=m+1/\cs.length=P.cellsOf t/\Rdd henc P w m ft ((cs.drop off).take zs.length):=by
 obtain ⟨x,hx,hw⟩:=h
 obtain ⟨fs,fd,h1,h2,h3,h4⟩:=ok.fld _ _ _ _ hf
 obtain ⟨s,m,rfl,rfl,hl,ah,u⟩:=DataW.trod_struct h1 hx
 have hg:=u i fd h2
 rw [h3,h4,JX ok hv] at hg
 have hi:i < s.length:=by have:=(QL.1 h2).1;omega
 have hy:=Q2 hi
 refine ⟨m,rfl,hl,s[i],by rw [hg,hy],?_⟩
 rw [Qz] at hw ⊢
 intro q hq
 refine hw q ?_
 simp only [DataW.weights,h1]
 exact DataW.weights_mem_each (j:=i) (t:=ft) (d:=s[i].1) (by grind) (by grind) q hq
theorem Zc0{α:Type}(p:Nat->α->Prop):∀ (n:Nat),(∀ i,i < n->∃ x,p i x)->∃ l:List α,l.length=n/\∀ i x,l[i]?=some x->p i x
 | 0,_=> ⟨[],rfl,fun i x h=> by simp at h⟩
 | n+1,h=> by
  obtain ⟨l,d,s⟩:=Zc0 p n fun i hi=> h i V0
  obtain ⟨x,u⟩:=h n V0
  refine ⟨l++[x],by simp [d],fun i y hy=> ?_⟩
  grind
theorem Zbo{e:TypeId}:∀ {l:List (DataW H)} {i:Nat} {d:DataW H},l[i]?=some d->∀ q∈d.weights P e,q∈DataW.weightsAll P e l
 | d0 ::l,0,d,h,q,hq=> by
  simp at h
  subst h
  simp only [DataW.weightsAll,Qk]
  exact .inl hq
 | d0 ::l,i+1,d,h,q,hq=> by
  simp only [DataW.weightsAll,Qk]
  exact .inr (Zbo (l:=l) (i:=i) (by simpa using h) q hq)
theorem ZdW (ok:CfgOk P cfg) {t:TypeId} {S:U.Ty} {n:Nat} {cs:List Value} {Z4E:U.El S->Prop} (hs:cfg.slT t=some S)
  (ih:∀ m,m < n->∀ cs,Rdd henc P w m (cfg.elT S) cs->∃ e,RelS cfg w.cell? cs (cfg.enc S e)/\Z4E e) (h:Rdd henc P w n t cs):
  ∃ l:List (U.El S),RelS cfg w.cell? cs [.slice S l .unk]/\l.length*cfg.bytes S<=reachBytes/\∀ e∈l,Z4E e:=by
 obtain ⟨x,hx,hw⟩:=h
 have hu:=ok.sl _ _ hs
 obtain ⟨i0,ag,zs,z,h1,h2,h3,h4,h5,h6⟩:=ok.el S
 have hc:P.cellsOf (cfg.elT S)=cfg.sz S:=by simp [Program.cellsOf,h1,h2]
 have hb:P.bytesOf (cfg.elT S)=cfg.bytes S:=by simp [Program.bytesOf,h1,h3]
 rcases DataW.trod_slice hu hx with ⟨rfl,_⟩ | ⟨a,len,cap,elems,rest,m,rfl,rfl,rfl,_,hlc,_,hel,hels,_⟩
 .exact ⟨[],.one (.snil S .unk),by simp,fun e he=> by cases he⟩
 .simp only [DataW.weights,hu,X5,hb] at hw
  rw [List.all_cons,Q0,decide_eq_true_eq,Qz] at hw
  obtain ⟨ax,al⟩:=hw
  obtain ⟨l,hl,s⟩:=Zc0 (fun i (e:U.El S)=> (∀ j c,(cfg.enc S e)[j]?=some c->∃ v,w.cell? (a.add (i*cfg.sz S+j))=some v/\SimC cfg w.cell? v c)/\Z4E e) len (by
   intro i hi
   have hg:=hels i hi
   have hy:=Q2 (l:=elems) (i:=i) V0
   rw [hy] at hg
   obtain ⟨ci,ak,af⟩:=Qo.1 hg
   obtain ⟨_,a4,ae⟩:=World.cells?_some ak
   obtain ⟨e,aa,ao⟩:=ih m V0 ci ⟨elems[i],af,by
    rw [Qz]
    intro q hq
    refine al q ?_
    rw [Qk]
    exact .inl (Zbo (i:=i) (d:=elems[i].1) (by grind) q hq)⟩
   refine ⟨e,fun j c hj=> ?_,ao⟩
   have aw:=aa.1
   have ah:j < ci.length:=by have:=(Q4.1 hj).1;omega
   have u:=Q2 ah
   refine ⟨ci[j],?_,aa.2 j _ c u hj⟩
   rw [<-u,<-ae j V0,hc,Go.Deep.add_add])
  refine ⟨l,.one (.of_rows .unk hl hlc fun i x hx j c hj=> (s i x hx).1 j c hj),?_,fun e he=> ?_⟩
  .grind
  .obtain ⟨i,hi,rfl⟩:=Xf he
   exact (s i _ (Q2 hi)).2
end
section
variable {P:Program} {cfg:Cfg U} {w:World} {H:Type} {henc:TypeId × Value->H}
structure TreeTypes (cfg:Cfg U):Prop where
 enc:cfg.enc=AM.enc
 bytes:cfg.bytes=K.bytes
 int:∃ n,cfg.var (cfg.elT .int)=some (false,[.int .i64 n])
 u64:∃ n,cfg.var (cfg.elT .u64)=some (false,[.int .u64 n])
 var:∃ zs,cfg.var (cfg.elT .tree)=some (true,zs)/\zs.length=3
 f0:∃ t n,cfg.fld (cfg.elT .tree) 0=some (0,t)/\cfg.var t=some (false,[.int .i64 n])
 f1:∃ t c,cfg.fld (cfg.elT .tree) 1=some (1,t)/\cfg.var t=some (false,[c])/\cfg.slT t=some .u64
 f2:∃ t c,cfg.fld (cfg.elT .tree) 2=some (2,t)/\cfg.var t=some (false,[c])/\cfg.slT t=some .tree
theorem Z1f{n b:Nat}(h:n*b<=reachBytes)(hb:8<=b):n<=17592186044416:=by
 have d:n*8<=n*b:=Nat.mul_le_mul_left _ hb
 have s:reachBytes < 2 ^ 47:=reachBytes_lt
 omega
theorem ZBm(ok:CfgOk P cfg)(T:TreeTypes cfg){n:Nat}{cs:List Value}(h:Rdd henc P w n (cfg.elT .u64) cs):
  ∃ e:Int,RelS cfg w.cell? cs (cfg.enc .u64 e)/\(0<=e/\e < 18446744073709551616):=by
 obtain ⟨n0,hv⟩:=T.u64
 obtain ⟨z,u,d,s⟩:=Z2A ok hv h
 refine ⟨z,by rw [T.enc];exact u,d,?_⟩
 have:z<=18446744073709551615:=s
 omega
theorem Z8J(ok:CfgOk P cfg)(T:TreeTypes cfg):∀ (n:Nat) (cs:List Value),Rdd henc P w n (cfg.elT .tree) cs->∃ e:Tree,RelS cfg w.cell? cs (cfg.enc .tree e)/\inT e:=by
 intro n
 induction n using Nat.strongRecOn with
 | ind n IH=>
  intro cs h
  obtain ⟨zs,hz,s⟩:=T.var
  obtain ⟨t0,n0,f0,v0⟩:=T.f0
  obtain ⟨t1,c1,f1,v1,s1⟩:=T.f1
  obtain ⟨t2,c2,f2,v2,s2⟩:=T.f2
  obtain ⟨m,rfl,hl,r0⟩:=YY ok f0 v0 h
  obtain ⟨m',u,_,r1⟩:=YY ok f1 v1 h
  cases u
  obtain ⟨m',u,_,r2⟩:=YY ok f2 v2 h
  cases u
  have d:cs.length=3:=by rw [hl,JX ok hz,s]
  obtain ⟨k,a1,a2,a3⟩:=Z2A ok v0 r0
  obtain ⟨ws,b1,b2,b3⟩:=ZdW ok s1 (fun m _ cs h=> ZBm ok T h) r1
  obtain ⟨ks,d1,d2,d3⟩:=ZdW ok s2 (fun m' hm cs h=> IH m' V0 cs h) r2
  rw [T.bytes] at b2 d2
  have g:=a1.glue rfl (by simp;omega) (b1.glue rfl (by simp;omega) (d1.glue rfl (by simp;omega) (RelS.done (n:=3) d)))
  refine ⟨.mk k ws ks,by rw [T.enc];exact g,?_⟩
  have hk:=ZAy d3
  exact ⟨⟨Z1f b2 V2,Z1f d2 V2,hk.1⟩,⟨a2,a3⟩,b3,hk.2⟩
end
section
variable {P:Program} {cfg:Cfg U} {H:Type} {henc:TypeId × Value->H}
def ZzY{α:Type}(henc:TypeId × Value->H)(P:Program)(cfg:Cfg U)(A:Arg α)(t:TypeId)(Z4E:α->Prop):Prop:=
 (∀ a,A.get (A.can a)=some a)/\∀ (w:World) (base:Nat) v n,Value.okWide P w .any base t v->Rdd henc P w n t v.cells.toList->
  ∃ a,Z4E a/\∀ (g:Gh) (live:Name->Bool),g.m=w.cell?->RelV cfg g ZX live v (A.can a)
def ZpG{α:Type}(henc:TypeId × Value->H)(P:Program)(cfg:Cfg U)(A:ArgL α)(ts:List TypeId)(Z4E:α->Prop):Prop:=
 (∀ a,A.get (A.can a)=some a)/\∀ (w:World) (base:Nat) (vs:List Value) ds ps,(∀ (j:Nat) t v,ts[j]?=some t->vs[j]?=some v->Value.okWide P w .any base t v)->
  DataW.TrodAll henc P w 0 (fun _=> true) true ts vs ds ps->(DataW.weightsEach P ts ds).all (·<=reachBytes)=true->
  ∃ a,Z4E a/\vs.length=(A.can a).length/\∀ (g:Gh) (live:Name->Bool),g.m=w.cell?->∀ (j:Nat) v x,vs[j]?=some v->(A.can a)[j]?=some x->RelV cfg g ZX live v x
theorem Zr2:ZpG henc P cfg ArgL.nil [] (fun _=> True):=by
 refine ⟨fun _=> rfl,fun w d vs u ps _ h _=> ?_⟩
 obtain ⟨rfl,_,_⟩:=trodAll_nil h
 exact ⟨(),trivial,rfl,fun _ _ _ j v x s=> by simp at s⟩
theorem Zfm{α β:Type}{A:Arg α}{B:ArgL β}{t:TypeId}{ts:List TypeId}{Z4E:α->Prop}{goods:β->Prop}(hA:ZzY henc P cfg A t Z4E)(hB:ZpG henc P cfg B ts goods):
  ZpG henc P cfg (ArgL.cons A B) (t ::ts) (fun p=> Z4E p.1/\goods p.2):=by
 refine ⟨fun a=> ?_,fun w s vs ds ps aa h hw=> ?_⟩
 .simp only [ArgL.cons,hA.1,hB.1]
 .obtain ⟨v,af,d,ab,p,q,rfl,rfl,rfl,h1,h2⟩:=trodAll_cons h
  obtain ⟨n,h1⟩:=h1
  simp only [DataW.weightsEach,List.all_append,Q0] at hw
  obtain ⟨a,ga,ra⟩:=hA.2 w s v n (aa 0 t v rfl rfl) ⟨(d,p),h1,hw.1⟩
  obtain ⟨b,gb,lb,rb⟩:=hB.2 w s af ab q (fun j t v ht hv=> aa (j+1) t v (by simpa using ht) (by simpa using hv)) h2 hw.2
  refine ⟨(a,b),⟨ga,gb⟩,by simp [ArgL.cons,lb],fun g ak hg j u x hu hx=> ?_⟩
  cases j with
  | zero=> simp [ArgL.cons] at hu hx;grind
  | succ j=> simp [ArgL.cons] at hu hx;grind
theorem RelS.relL{g:Gh}{w:World}{vs:List Value}{cs:List (C U)}(h:RelS cfg w.cell? vs cs)(hg:g.m=w.cell?)(hp:∀ c∈cs,c.plain=true):RelL cfg g ZX vs cs:=by
 refine ⟨h.1,fun j v c s hc=> ⟨by rw [hg];exact h.2 j v c s hc,?_⟩⟩
 have d:=hp c (QW hc)
 cases c with
 | slice S l' tl'=> cases tl' <;> first | trivial | (simp [C.plain] at d)
 | _=> trivial
theorem Zpz(ok:CfgOk P cfg)(henc':cfg.enc=AM.enc){T:Ty}{Z4E:El T->Prop}(d:∃ s ft,cfg.fld (cfg.elT T) 0=some (s,ft))(hr:∀ w n cs,Rdd henc P w n (cfg.elT T) cs->∃ e:El T,RelS cfg w.cell? cs (cfg.enc T e)/\Z4E e):
  ZzY henc P cfg (aEl T) (cfg.elT T) Z4E:=by
 refine ⟨fun a=> ZyP T a,fun w ae v n u h=> ?_⟩
 obtain ⟨s,ft,d⟩:=d
 obtain ⟨fs,fd,h1,_⟩:=ok.fld _ _ _ _ d
 obtain ⟨vs,rfl,_⟩:=okWide_struct h1 u
 obtain ⟨e,he,hg⟩:=hr w n _ h
 refine ⟨e,hg,fun g af aa=> ⟨vs,rfl,?_⟩⟩
 rw [henc'] at he
 exact he.relL aa (fun c hc=> by have:=ok.enc_plain T e c (by simp_all);exact this)
theorem ZqF {α:Type} {A:ArgL α} {ts:List TypeId} {Z4E:α->Prop} {pre:α->Prop} {f:FuncId} (hA:ZpG henc P cfg A ts Z4E) (hgood:∀ a,Z4E a->pre a)
  (hc:Contract P cfg f (fs A (fun a=> [pre a]) (fun _=> .c (.bool true)))) (w:World) (base:Nat) (args:Array Value) (ds:List (DataW H)) (ps:List MemPlace)
  (hok:∀ (j:Nat) t v,ts[j]?=some t->args.toList[j]?=some v->Value.okWide P w .any base t v)
  (d:DataW.TrodAll henc P w 0 (fun _=> true) true ts args.toList ds ps) (hw:(DataW.weightsEach P ts ds).all (·<=reachBytes)=true):
  Calls P f args w fun e w'=> e= .returned (.bool true)/\Below w.heap.size w w':=by
 obtain ⟨a,ga,hl,hr⟩:=hA.2 w base args.toList ds ps hok d hw
 let g:Gh:=⟨w.cell?,fun _=> none,fun _=> ⟨0,0,none⟩,fun _=> none⟩
 have hs:(fs A (fun a=> [pre a]) (fun _=> .c (.bool true))).fn (A.can a) []=some ([pre a],.c (.bool true),[]):=by
  simp only [fs,hA.1]
 have h:Entry cfg w g args.toList (A.can a) [] []:=by
  refine ⟨⟨fun b v u=> ⟨u,rfl⟩,fun b t d=> by cases d⟩,fun b t d=> (by cases d),hl,fun j v x u hx=> hr g _ rfl j v x u hx,fun k cs hk=> (by simp at hk),fun _ _=> rfl,fun t x hx=> by cases hx⟩
 have:=hc.one rfl (A.can a) [] _ _ [] hs ⟨hgood a ga,trivial⟩ (Xd _) w g args.toList h
 refine Calls.mono (by simpa using this) ?_
 rintro e w' ⟨v,rfl,g',L⟩
 have u:SimC cfg g'.m v (.bool true):=L.val.1
 cases u
 refine ⟨rfl,L.fr.stay.os,L.fr.stay.tape,L.fr.stay.output,L.fr.stay.size,fun k hk=> ?_⟩
 exact (L.fr.clean k hk fun o s t d=> by cases d).1
theorem Zu6 {f:Func} {s:ChangeSpec} {apart fresh handsOn again:Bool} {W W':World} {args:Array Value} {ds gs:List (DataW H)} {before:List MemPlace} {tb:TypeId}
  (hl:laidOutB P=true) (hread:(f.params.toList.all fun t=> P.readableRec t && decide (t < P.types.size))=true) (hres:f.resultTypes=#[tb]) (hbool:P.underlying tb=some .bool) (hvars:s.vars=[])
  (hfn:s.fn H (ds++gs)={ results:=[.lit (.bool true)],args:=ds,vars:=[] })
  (hW:DataW.Whole henc P f.params.toList s.vars apart W args.toList ds gs before)
  (hb:Below W.heap.size W W'):s.post henc P f apart fresh handsOn again W args (.bool true) W':=by
 have av:=hW
 obtain ⟨p,q,h1,h2,e,_⟩:=av
 have hq:q=[]:=by
  rw [hvars] at h2
  exact (trodVars_none h2).2
 subst hq
 have aq:=hW.lt
 have aw:∀ {ts:List TypeId} {vs:List Value} {ds:List (DataW H)} {ps:List MemPlace} {sp:Nat->Bool},(∀ t∈ts,P.readableRec t=true/\t < P.types.size)->(∀ x∈ps,x.block < W.heap.size)->(∀ x∈ps,sp x.block=true)->
   DataW.TrodAll henc P W 0 (fun _=> true) true ts vs ds ps->DataW.TrodAll henc P W' 0 sp true ts vs ds ps:=by
  intro ts
  induction ts with
  | nil=>
   intro vs ds ps sp _ _ _ h
   obtain ⟨rfl,rfl,rfl⟩:=trodAll_nil h
   exact rfl
  | cons t ts ih=>
   intro vs ds ps sp hr hx hs h
   obtain ⟨v,a6,d,a5,p,q,rfl,rfl,rfl,h3,h4⟩:=trodAll_cons h
   have ak:=hr t (Q5 ..)
   exact ⟨p,q,WideElems.Trod_stays hl ak.1 ak.2 h3 (fun x u=> hb.same (hx x (QX _ u))) (fun x u=> hs x (QX _ u)),
    ih (fun t ht=> hr t (Q1 _ ht)) (fun x u=> hx x (Xl _ u)) (fun x u=> hs x (Xl _ u)) h4,rfl⟩
 have ae:∀ t∈f.params.toList,P.readableRec t=true/\t < P.types.size:=by
  intro t ht
  have:=Qz.1 hread t ht
  simpa using this
 rw [Qr] at e
 replace e:=e.symm
 subst e
 have af:∀ (b:Nat) (sp:Nat->Bool) (hd:Bool),DataW.TrodAll henc P W' b sp hd f.resultTypes.toList ((Value.bool true).resultList f.resultTypes.size) [.lit (.bool true)] []:=by
  intro b sp hd
  rw [hres]
  exact trodAll_mk1 ⟨1,by simp [DataW.trod,hbool,Value.cells]⟩
 have ao:∀ (j:Nat) (t:TypeId) (r:Value),f.resultTypes[j]?=some t->((Value.bool true).resultList f.resultTypes.size)[j]?=some r->Value.okWide P W' .any 0 t r:=by
  intro j t r h3 h4
  rw [hres] at h3 h4
  cases j with
  | zero=>
   simp at h3
   subst h3
   simp [Value.resultList] at h4
   subst h4
   simp [Value.okWide,hbool,Cell.okWide,Cell.ok]
  | succ j=> simp at h3
 have ay:∀ x∈p,(fun b=> decide (b < W.heap.size)) x.block=true:=fun x hx=> by grind
 have au:∀ sp:Nat->Bool,DataW.TrodVars henc P W' sp s.vars [] []:=fun sp=> by rw [hvars];try rfl
 refine ⟨ds,gs,p,[],p,[],hW,?_,?_,?_,hb.frame _,fun _=> ⟨ao,[.lit (.bool true)]++ds,[],[]++p,?_,fun x hx _=> by simpa using hx⟩⟩
 .grind
 .grind
 .grind
 .obtain ⟨_,_,_,_,_,hz,hn⟩:=hW
  refine ⟨[]++p,[],trodAll_append (aw ae aq (fun _ _=> rfl) h1) (af 0 (fun _=> true) true),au _,by simp,?_,by simpa using hn⟩
  intro b am hx
  have ar:MemPlace.cell b am∈p:=by simpa using hx
  rw [hb.frozen (by exact aq _ ar)]
  exact hz b am V0
end
end Go.AM
