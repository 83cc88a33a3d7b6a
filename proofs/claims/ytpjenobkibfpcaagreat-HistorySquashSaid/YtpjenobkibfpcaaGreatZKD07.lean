import Derived.Test.YtpjenobkibfpcaaGreatZmK
import Derived.Still
set_option linter.unusedSimpArgs false
set_option linter.unusedVariables false
namespace Go.AM
variable {U:Uni} {P:Program} {cfg:Cfg U} {B:Base} {st:FSt U} {g:Gh} {a:Act} {w:World}
def Z7i:Nat->List (V U)->List (Nat × V U)
 | _,[]=> []
 | i,v ::r=> (i,v) ::Z7i (i+1) r
def Z7h:Nat->List (List (C U))->List (Name × List (C U))
 | _,[]=> []
 | k,cs ::r=> (.x k,cs) ::Z7h (k+1) r
def Z0s(args:List (V U))(X:List (List (C U)))(L:List (Tok × LC U)):LSt U:={ env:=Z7i 0 args,mem:=Z7h 0 X,ls:=L }
def Zf(args:List (V U))(X:List (List (C U))):LSt U:=Z0s args X []
def Z26:Tok->Bool:=fun _=> true
def Zc6(cfg:Cfg U)(st:FSt U):ResultVar->Option (Bool × List (C U))
 | .tmp t=> match st.env t with
  | .c x=> some (false,[x])
  | .agg cs=> some (true,cs)
  | _=> none
 | .cell t ty=> match cfg.var ty with
  | some (ag,zs)=> match rd st (st.env t) ag zs.length with
   | some (.c x)=> some (false,[x])
   | some (.agg cs)=> some (true,cs)
   | _=> none
  | none=> none
def Z9d(cfg:Cfg U)(st:FSt U):List ResultVar->Option (List (Bool × List (C U)))
 | []=> some []
 | r ::rs=> match Zc6 cfg st r,Z9d cfg st rs with
  | some x,some l=> some (x ::l)
  | _,_=> none
def Z5H(i:Nat):List (Bool × List (C U))->List (Tok × Tok)->List (Bool × List (C U)) × List (Tok × Tok)
 | [],seen=> ([],seen)
 | (ag,cs) ::r,seen=> ((ag,(Js Z26 (fun j=> .r 0 (16*i+j)) 0 cs seen).1) ::(Z5H (i+1) r (Js Z26 (fun j=> .r 0 (16*i+j)) 0 cs seen).2).1,
   (Z5H (i+1) r (Js Z26 (fun j=> .r 0 (16*i+j)) 0 cs seen).2).2)
def ZvH:Tail->Tail->Prop
 | _,.unk=> True
 | .full,_=> True
 | .own t,.own t'=> t=t'
 | _,_=> False
def leC(cfg:Cfg U):C U->C U->Prop
 | .int k n,.int k' n'=> k=k'/\n=n'
 | .bool b,.bool b'=> b=b'
 | .nils,.nils=> True
 | .nils,.slice _ l _=> l=[]
 | .nilp,.nilp=> True
 | .nilp,.po _ o=> o=none
 | .po T o,.po T' o'=> match cfg.tyEq T T' with
  | isTrue h=> h▸o=o'
  | isFalse _=> False
 | .slice T l tl,.slice T' l' tl'=> match cfg.tyEq T T' with
  | isTrue h=> h▸l=l'/\ZvH tl tl'
  | isFalse _=> False
 | .mref t,.mref t'=> t=t'
 | .xp k,.xp k'=> k=k'
 | _,_=> False
def leL(cfg:Cfg U):List (C U)->List (C U)->Prop
 | [],[]=> True
 | c ::r,c' ::r'=> leC cfg c c'/\leL cfg r r'
 | _,_=> False
def leR(cfg:Cfg U):List (Bool × List (C U))->List (Bool × List (C U))->Prop
 | [],[]=> True
 | (b,cs) ::r,(b',cs') ::r'=> b=b'/\leL cfg cs cs'/\leR cfg r r'
 | _,_=> False
def Zgp:V U->Option (List (Bool × List (C U)))
 | .c x=> some [(false,[x])]
 | .agg cs=> some [(true,cs)]
 | .tup ws=> if ws.length=1 then none else some ws
 | _=> none
def ZKo(cfg:Cfg U)(x y:LC U):Prop:=
 match cfg.tyEq x.T y.T with
 | isTrue h=> h▸x.l=y.l/\x.f=y.f
 | isFalse _=> False
def Zj5(cfg:Cfg U)(ls:List (Tok × LC U))(seen:List (Tok × Tok)):List (Tok × LC U)->Prop
 | []=> True
 | (t,y) ::r=> (match Z1z seen t with
  | some u=> YU seen u=some t/\match ZE (fun _=> none) ls u with
   | some x=> ZKo cfg x y
   | none=> False
  | none=> False)/\Zj5 cfg ls seen r
def ZuF(cfg:Cfg U)(mem:List (Name × List (C U)))(ls:List (Tok × LC U))(L:List (Tok × LC U)):(k:Nat)->List (List (C U))->List (Tok × Tok)->Prop
 | _,[],seen=> Zj5 cfg ls seen L
 | k,cs' ::r,seen=> match Z2s mem (.x k) with
  | some cs=> leL cfg (Z1N Z26 (.x k) 0 [] cs seen).1 cs'/\ZuF cfg mem ls L (k+1) r (Z1N Z26 (.x k) 0 [] cs seen).2
  | none=> False
def Zj6(cfg:Cfg U)(n:Nat)(rs:List ResultVar)(r:V U)(X:List (List (C U)))(L:List (Tok × LC U))(s:LSt U):Prop:=
 match Z9d cfg (s.toF n) rs,Zgp r with
 | some ws,some ws'=> leR cfg (Z5H 0 ws []).1 ws'/\ZuF cfg s.mem s.ls L 0 X (Z5H 0 ws []).2
 | _,_=> False
def ZHO(cfg:Cfg U)(n:Nat)(rs:List ResultVar)(r:V U)(X:List (List (C U)))(s:LSt U):Prop:=Zj6 cfg n rs r X [] s
def Z1a(cfg:Cfg U)(n:Nat)(rs:List ResultVar)(r:V U)(X:List (List (C U)))(L:List (Tok × LC U))(e:AExit)(s:LSt U):Prop:=
 match e with
 | .exit _=> False
 | _=> Zj6 cfg n rs r X L s
def Y7(cfg:Cfg U)(n:Nat)(rs:List ResultVar)(r:V U)(X:List (List (C U)))(e:AExit)(s:LSt U):Prop:=
 match e with
 | .exit _=> False
 | _=> ZHO cfg n rs r X s
theorem Zne{ls:List (Tok × LC U)}{seen:List (Tok × Tok)}{g2:Gh}(h:Rel cfg B st g a w)(hls:∀ t,st.ls t=ZE (fun _=> none) ls t)(hr:Ren (fun _=> true) g seen g2):∀ {L:List (Tok × LC U)},Zj5 cfg ls seen L->
  ∀ t x,ZE (fun _=> none) L t=some x->LRel cfg w g2 t x
 | [],_,t,x,hx=> by trivial
 | (t0,y) ::L,hE,t,x,hx=> by
  obtain ⟨h1,h2⟩:=hE
  simp only [ZE] at hx
  split at hx
  .rename_i e
   subst e
   cases hx
   split at h1
   case h_2=> exact h1.elim
   rename_i u hu
   obtain ⟨h3,s⟩:=h1
   split at s
   case h_2=> exact s.elim
   rename_i x ae
   unfold ZKo at s
   split at s
   case h_2=> exact s.elim
   rename_i hT _
   obtain ⟨T,l,f⟩:=x
   obtain ⟨T',l',f'⟩:=y
   simp only at hT
   subst hT
   obtain ⟨h5,h6⟩:=s
   simp only at h5 h6
   subst h5 h6
   obtain ⟨_,hL⟩:=h.ls u _ ((hls u).trans ae)
   have aa:∀ c,g.tag c=some (.tok u)->g2.tag c=some (.tok t):=fun c hc=> hr.tok c u t hc h3
   rcases hL with ⟨e1,e2⟩ | ⟨b,len,cap,e1,e2,e3,e4,e5,e6⟩
   .exact .inl ⟨hr.bs _ _ _ rfl hu e1,e2⟩
   .refine .inr ⟨b,len,cap,hr.bs _ _ _ rfl hu e1,e2,e3,e4,fun i y hy j c hc=> ?_,fun j a1 a2=> aa _ (e6 j a1 a2)⟩
    obtain ⟨v,e7,e8,e9,ab⟩:=e5 i y hy j c hc
    exact ⟨v,e7,by rw [hr.m];exact e8,fun hi=> by rw [hr.m];exact e9 hi,fun hi=> aa _ (ab hi)⟩
  .exact Zne h hls hr h2 t x hx
theorem Zyt{g:Gh}{v:Value}{c c':C U}(h:leC cfg c c')(hr:RelC cfg g ZU v c):RelC cfg g ZU v c':=by
 cases c <;> cases c' <;> simp only [leC] at h
 case int.int k n k' n'=> obtain ⟨rfl,rfl⟩:=h;exact hr
 case bool.bool=> subst h;exact hr
 case nils.nils=> exact hr
 case nilp.nilp=> exact hr
 case nilp.po T o=>
  subst h
  have s:=hr.1
  cases s
  exact ⟨.pnil T,trivial⟩
 case po.po T o T' o'=>
  split at h
  .rename_i hT _
   subst hT
   simp only at h
   subst h
   exact hr
  .exact h.elim
 case mref.mref t t'=> subst h;exact hr
 case xp.xp k k'=> subst h;exact hr
 case nils.slice T l tl=>
  subst h
  have s:=hr.1
  cases s
  refine ⟨.snil T tl,?_⟩
  cases tl with
  | unk=> trivial
  | full=> intro a len aa u;simp at u;omega
  | own t=> intro _ a len aa u;simp at u
 case slice.slice T l tl T' l' tl'=>
  split at h
  .rename_i hT _
   subst hT
   obtain ⟨s,h2⟩:=h
   simp only at s
   subst s
   refine ⟨hr.1.tl _,?_⟩
   cases tl' with
   | unk=> trivial
   | full=> cases tl <;> simp only [ZvH] at h2;exact hr.2
   | own t'=>
    cases tl with
    | unk=> exact h2.elim
    | full=>
     intro _ b len aa u j h3 h4
     have:=hr.2 _ _ _ u
     subst this
     omega
    | own t=> have:t=t':=h2;subst this;exact hr.2
  .exact h.elim
theorem Zks{g:Gh}:∀ {vs:List Value} {cs cs':List (C U)},leL cfg cs cs'->RelL cfg g ZU vs cs->RelL cfg g ZU vs cs'
 | vs,[],[],_,hr=> hr
 | vs,c ::cs,c' ::cs',h,hr=> by
  obtain ⟨h1,h2⟩:=h
  match vs,hr with
  | v ::vs,hr=>
   have h3:=Zks (vs:=vs) h2 ⟨by simpa using hr.1,fun j v' c s hc=> hr.2 (j+1) v' c (by simpa using s) (by simpa using hc)⟩
   refine ⟨by simp [h3.1],fun j v' d s u=> ?_⟩
   cases j with
   | zero=> simp at s u;subst s u;exact Zyt h1 (hr.2 0 _ _ rfl rfl)
   | succ j=> exact h3.2 j v' d (by simpa using s) (by simpa using u)
  | [],hr=> have:=hr.1;simp at this
theorem ZGq{g:Gh}{v:Value}{ag:Bool}{cs cs':List (C U)}(h:leL cfg cs cs')(hr:RelW cfg g ZU v ag cs):RelW cfg g ZU v ag cs':=by
 cases ag with
 | true=> obtain ⟨vs,u,s⟩:=hr;exact ⟨vs,u,Zks h s⟩
 | false=>
  obtain ⟨c,rfl,s⟩:=hr
  match cs',h with
  | [c'],h=> exact ⟨c',rfl,Zyt h.1 s⟩
def RelWs(cfg:Cfg U)(g:Gh)(dead:Tok->Bool)(vs:List Value)(ws:List (Bool × List (C U))):Prop:=
 vs.length=ws.length/\∀ (j:Nat) u w,vs[j]?=some u->ws[j]?=some w->RelW cfg g dead u w.1 w.2
theorem RelWs.cons{g:Gh}{dead:Tok->Bool}{v:Value}{w:Bool × List (C U)}{vs:List Value}{ws:List (Bool × List (C U))}(h:RelW cfg g dead v w.1 w.2)(hs:RelWs cfg g dead vs ws):RelWs cfg g dead (v ::vs) (w ::ws):=by
 refine ⟨by simp [hs.1],fun j u x s hx=> ?_⟩
 cases j with
 | zero=> grind
 | succ j=> exact hs.2 j u x (by simpa using s) (by simpa using hx)
theorem RelWs.uncons{g:Gh}{dead:Tok->Bool}{vs:List Value}{w:Bool × List (C U)}{ws:List (Bool × List (C U))}(h:RelWs cfg g dead vs (w ::ws)):∃ v r,vs=v ::r/\RelW cfg g dead v w.1 w.2/\RelWs cfg g dead r ws:=by
 match vs,h with
 | v ::r,h=> exact ⟨v,r,rfl,h.2 0 _ _ rfl rfl,by simpa using h.1,fun j u x s hx=> h.2 (j+1) u x (by simpa using s) (by simpa using hx)⟩
 | [],h=> have:=h.1;simp at this
theorem Zys{g:Gh}:∀ {vs:List Value} {ws ws':List (Bool × List (C U))},leR cfg ws ws'->RelWs cfg g ZU vs ws->RelWs cfg g ZU vs ws'
 | vs,[],[],_,hr=> hr
 | vs,(b,cs) ::ws,(b',cs') ::ws',h,hr=> by
  obtain ⟨rfl,s,h2⟩:=h
  obtain ⟨v,r,rfl,h3,u⟩:=hr.uncons
  exact .cons (ZGq s h3) (Zys h2 u)
theorem Zia(hd:∀ t,Z26 t=true->st.dead t=false):∀ (ws:List (Bool × List (C U))) (i:Nat) (seen:List (Tok × Tok)),
  Ext seen (Z5H i ws seen).2/\∀ s',Ext (Z5H i ws seen).2 s'->∀ g2,Ren (fun _=> true) g s' g2->∀ vs,RelWs cfg g st.dead vs ws->RelWs cfg g2 ZU vs (Z5H i ws seen).1
 | [],i,seen=> ⟨.refl _,fun s' _ g2 _ vs h=> ⟨h.1,fun j u w _ hw=> by trivial⟩⟩
 | (ag,cs) ::ws,i,seen=> by
  obtain ⟨h3,h4,h5⟩:=Z7F (cfg:=cfg) (g:=g) (okT:=fun _=> true) (mine:=Z26) (nm:=fun j=> .r 0 (16*i+j)) hd (fun _=> rfl) cs 0 seen
  obtain ⟨h6,h7⟩:=Zia hd ws (i+1) (Js Z26 (fun j=> .r 0 (16*i+j)) 0 cs seen).2
  refine ⟨h3.trans h6,fun s' hs g2 hg vs h=> ?_⟩
  obtain ⟨v,r,rfl,h8,h9⟩:=h.uncons
  refine .cons ?_ (h7 s' hs g2 hg r h9)
  have hL:∀ us,RelL cfg g st.dead us cs->RelL cfg g2 ZU us (Js Z26 (fun j=> .r 0 (16*i+j)) 0 cs seen).1:=fun us hu=>
   ⟨by rw [h4];exact hu.1,fun j u c ah hc=> by
    have hj:j < cs.length:=by have:=(Q8.1 hc).1;omega
    exact h5 s' (h6.trans hs) g2 hg j u _ c (Q4 hj) hc (hu.2 j u _ ah (Q4 hj))⟩
  cases ag with
  | true=> obtain ⟨us,s,af⟩:=h8;exact ⟨us,s,hL _ af⟩
  | false=>
   obtain ⟨c,s,af⟩:=h8
   simp only at s
   subst s
   have:=hL [v] ⟨rfl,fun j u c hu hc=> by
    grind⟩
   simp only [Js] at this ⊢
   exact ⟨_,rfl,this.2 0 _ _ rfl rfl⟩
theorem ZsX(h:Rel cfg B st g a w)(hdead:st.dead=ZU){mem:List (Name × List (C U))}(hm:∀ nm,st.mem nm=Z2s mem nm){ls L:List (Tok × LC U)}:∀ (X:List (List (C U))) (k:Nat) (seen:List (Tok × Tok)),ZuF cfg mem ls L k X seen->
  ∃ s',Ext seen s'/\Zj5 cfg ls s' L/\∀ s2,Ext s' s2->∀ s,RenA (fun _=> true) g s2 s->∀ (i:Nat) cs,X[i]?=some cs->∀ (j:Nat) c,cs[j]?=some c->∃ v,w.cell? ((g.ad (.x (k+i))).add j)=some v/\g.tag ((g.ad (.x (k+i))).add j)=some (.obj (.x (k+i)))/\RelC cfg s ZU v c
 | [],k,seen,hx=> ⟨seen,.refl _,hx,fun s2 _ s _ i cs hi=> by simp at hi⟩
 | cs' ::X,k,seen,hx=> by
  simp only [ZuF] at hx
  split at hx
  .rename_i cs ak
   obtain ⟨h1,h2⟩:=hx
   have hd:∀ t,Z26 t=true->st.dead t=false:=fun t _=> by rw [hdead];try rfl
   obtain ⟨h3,h4,h5⟩:=Z7K (cfg:=cfg) (g:=g) (okT:=fun _=> true) (mine:=Z26) (nm:= .x k) hd (fun _=> rfl) cs 0 [] seen
   obtain ⟨s',h6,al,h7⟩:=ZsX h hdead hm X (k+1) _ h2
   refine ⟨s',h3.trans h6,al,fun s2 hs s hg i ay hi j c hj=> ?_⟩
   cases i with
   | zero=>
    simp at hi
    subst hi
    have af:st.mem (.x k)=some cs:=by rw [hm];exact ak
    let f:Nat->Value:=fun j=> (w.cell? ((g.ad (.x k)).add j)).getD undef
    have hf:∀ j c,cs[j]?=some c->w.cell? ((g.ad (.x k)).add j)=some (f j)/\g.tag ((g.ad (.x k)).add j)=some (.obj (.x k))/\RelC cfg g st.dead (f j) c:=fun j c hc=> by
     obtain ⟨v,h8,h9,a2⟩:=h.mem _ _ af j c hc
     grind
    have hR:RelL cfg s ZU ((List.range cs.length).map f) (Z1N Z26 (.x k) 0 [] cs seen).1:=by
     have am:=RelL.of_get (cfg:=cfg) (g:=g) (st:=st) (f:=f) (fun j c hc=> (hf j c hc).2.2)
     refine ⟨by grind,fun j u c hu hc=> ?_⟩
     have hj:j < cs.length:=by have:=(Q8.1 hc).1;omega
     exact h5 s2 (h6.trans hs) s hg j u _ c (Q4 hj) hc (am.2 j u _ hu (Q4 hj))
    have ae:=Zks h1 hR
    have aa:j < cs.length:=by have ax:=(Q8.1 hj).1;have:=ae.1;simp at this;omega
    obtain ⟨aw,a0,_⟩:=hf j _ (Q4 aa)
    refine ⟨f j,JX,JX,ae.2 j _ c (by simp [aa]) hj⟩
   | succ i=>
    grind
  grind
theorem ZgY:∀ (args:List (V U)) (i k:Nat),ZhB (Z7i i args) k=if i<=k then (args[k - i]?).getD .junk else .junk
 | [],i,k=> by simp [Z7i,ZhB]
 | v ::args,i,k=> by
  simp only [Z7i,ZhB]
  cases hk:Nat.beq i k with
  | true=>
   simp_all
  | false=>
   have h:i≠k:=fun e=> by simp_all
   simp only [cond_false]
   rw [ZgY args (i+1) k]
   grind
theorem Z4e:∀ (X:List (List (C U))) (k:Nat) (nm:Name),Z2s (Z7h k X) nm=match nm with | .x i=> if k<=i then X[i - k]? else none | .loc _=> none
 | [],k,nm=> by cases nm <;> simp [Z7h,Z2s]
 | cs ::X,k,nm=> by
  simp only [Z7h,Z2s]
  cases nm with
  | loc s=> simp [Z4e X (k+1) (.loc s)]
  | x i=>
   by_cases h:k=i
   .subst h;simp
   .rw [if_neg (fun e=> by grind),Z4e X (k+1) (.x i)]
    grind
theorem Ztj(ok:CfgOk P cfg)(h:Rel cfg B st g a w){rv:ResultVar}{x:Bool × List (C U)}(he:Zc6 cfg st rv=some x):
  ∃ v,(match rv with | .tmp t=> pure (a.tmps.getD t undef) | .cell t ty=> do loadVar ty (<-asAddr (a.tmps.getD t undef)):Sem Value).run P w= .ok v w/\RelW cfg g st.dead v x.1 x.2:=by
 cases rv with
 | tmp t=>
  have s:=h.env t
  simp only [Zc6] at he
  split at he <;> simp only [Option.some.injEq,reduceCtorEq] at he
  .rename_i c hc;rw [hc] at s;subst he;exact ⟨_,rfl,c,rfl,s⟩
  .rename_i cs hc;rw [hc] at s;subst he;exact ⟨_,rfl,s⟩
 | cell t ty=>
  have s:=h.env t
  simp only [Zc6] at he
  split at he
  .rename_i ag zs hv
   cases hrd:rd st (st.env t) ag zs.length with
   | none=> grind
   | some y=>
    obtain ⟨v,h1,h2⟩:=ZfV (w:=w) ok h hv s hrd
    refine ⟨v,?_,?_⟩
    .have hp:∃ b,a.tmps.getD t undef= .pointer (some b):=by
      cases hx:st.env t with
      | ptr nm off=> rw [hx] at s;exact ⟨_,s.2⟩
      | ep cs=> rw [hx] at s;obtain ⟨b,u,_⟩:=s;grind
      | ap nm off k len i=> rw [hx] at s;exact ⟨_,s.2.2⟩
      | _=> rw [hx] at hrd;simp [rd] at hrd
     obtain ⟨b,u⟩:=hp
     rw [u] at h1
     show (do let x <-asAddr (a.tmps.getD t undef);loadVar ty x:Sem Value).run P w=_
     rw [u]
     trivial
    .rw [hrd] at he
     cases y <;> simp only [Option.some.injEq,reduceCtorEq] at he
     .subst he;exact ⟨_,rfl,h2⟩
     .subst he;exact h2
  .cases he
theorem Zib(ok:CfgOk P cfg)(h:Rel cfg B st g a w):∀ {rs:List ResultVar} {ws:List (Bool × List (C U))},Z9d cfg st rs=some ws->
  ∃ vs,(rs.mapM fun rv=> (match rv with | .tmp t=> pure (a.tmps.getD t undef) | .cell t ty=> do loadVar ty (<-asAddr (a.tmps.getD t undef)):Sem Value)).run P w= .ok vs w/\RelWs cfg g st.dead vs ws
 | [],ws,he=> by
  simp only [Z9d,Option.some.injEq] at he
  subst he
  exact ⟨[],by simp,rfl,fun j u w s=> by simp at s⟩
 | r ::rs,ws,he=> by
  simp only [Z9d] at he
  split at he
  .rename_i x l hx hl
   simp only [Option.some.injEq] at he
   subst he
   obtain ⟨v,h1,h2⟩:=Ztj (w:=w) ok h hx
   obtain ⟨vs,h3,h4⟩:=Zib ok h hl
   refine ⟨v ::vs,?_,.cons h2 h4⟩
   simp_all
  .cases he
theorem Ztw{g:Gh}{live:Name->Bool}{r:V U}{ws:List (Bool × List (C U))}{vs:List Value}(hp:Zgp r=some ws)(h:RelWs cfg g ZU vs ws):
  RelV cfg g ZU live (if hs:vs.toArray.size=1 then vs.toArray[0] else .tuple vs.toArray) r:=by
 cases r <;> simp only [Zgp,Option.some.injEq,reduceCtorEq] at hp
 case c x=>
  subst hp
  obtain ⟨v,r,rfl,s,h2⟩:=h.uncons
  have:r=[]:=Q5 (by simpa using h2.1)
  subst this
  obtain ⟨c,hc,hr⟩:=s
  cases hc
  exact hr
 case agg cs=>
  subst hp
  obtain ⟨v,r,rfl,s,h2⟩:=h.uncons
  have:r=[]:=Q5 (by simpa using h2.1)
  subst this
  exact s
 case tup ws'=>
  split at hp
  .cases hp
  .rename_i hl
   simp only [Option.some.injEq] at hp
   subst hp
   have aa:vs.toArray.size≠1:=by have:=h.1;simpa [this] using hl
   rw [dif_neg aa]
   exact ⟨_,rfl,by simpa using h.1,fun j u w hu hw=> h.2 j u w (by simpa using hu) hw⟩
def ZeX(cfg:Cfg U)(a b:C U):Prop:=∀ g v,RelC cfg g ZU v a->RelC cfg g ZU v b
def Zhv(cfg:Cfg U)(a b:V U):Prop:=∀ g live v,RelV cfg g ZU live v a->RelV cfg g ZU live v b
structure BetterAll (cfg:Cfg U) (args args':List (V U)) (X X':List (List (C U))):Prop where
 len:args.length=args'.length
 args:∀ (j:Nat) x y,args[j]?=some x->args'[j]?=some y->Zhv cfg x y
 xlen:X.length=X'.length
 xl:∀ (k:Nat) x y,X[k]?=some x->X'[k]?=some y->x.length=y.length
 x:∀ (k:Nat) x y,X[k]?=some x->X'[k]?=some y->∀ (j:Nat) c c',x[j]?=some c->y[j]?=some c'->ZeX cfg c c'
theorem Entry.better{w:World}{g:Gh}{vs:List Value}{args args':List (V U)}{X X':List (List (C U))}{L L':List (Tok × LC U)}(h:Entry cfg w g vs args X L)(b:BetterAll cfg args args' X X')(hL:∀ t x,ZE (fun _=> none) L' t=some x->ZE (fun _=> none) L t=some x):Entry cfg w g vs args' X' L':=by
 refine ⟨h.inv,h.tags,h.len.trans b.len,fun j v y hv hy=> ?_,fun k cs hk j c hj=> ?_,h.bs,fun t x u=> h.ls t x (hL t x u)⟩
 .have hj:j < args.length:=by have:=(Q8.1 hy).1;have:=b.len;omega
  have u:=Q4 hj
  have:=b.args j _ y u hy g _ v (h.args j v _ hv u)
  have hl:Zbc X'=Zbc X:=by
   funext nm
   cases nm with
   | loc s=> rfl
   | x k=>
    have ah:=b.xlen
    show (X'[k]?).isSome=(X[k]?).isSome
    grind
  grind
 .have af:k < X.length:=by have:=(Q8.1 hk).1;have:=b.xlen;omega
  have u:=Q4 af
  have ab:j < (X[k]).length:=by have:=(Q8.1 hj).1;have:=b.xl k _ _ u hk;omega
  have hc:=Q4 ab
  obtain ⟨v,h1,h2,h3⟩:=h.x k _ u j _ hc
  exact ⟨v,h1,h2,b.x k _ _ u hk j _ c hc hj g v h3⟩
theorem BetterAll.refl(args:List (V U))(X:List (List (C U))):BetterAll cfg args args X X:=
 ⟨rfl,fun j x y hx s=> by rw [hx] at s;cases s;exact fun _ _ _ h=> h,rfl,fun k x y hx s=> by grind,
  fun k x y hx s j c c' hc u=> by rw [hx] at s;cases s;rw [hc] at u;cases u;exact fun _ _ h=> h⟩
theorem Zhm {Γ:Known U} {draws:Array Oper->FSt U->Bool} (ok:CfgOk P cfg) (hΓ:∀ f s,Γ f=some s->Contract P cfg f s) (hdr:Z8E P cfg Γ draws) {f:FuncId} {fn:Func} {c:Code} (lv:Za U)
  (hf:P.funcs[f]?=some fn) (hb:fn.body=some c) {args:List (V U)} {X:List (List (C U))} {L:List (Tok × LC U)} {w:World} {g:Gh} {vs:List Value} (E:Entry cfg w g vs args X L) (hn:args.length<=fn.ntmps) {Q:AExit->LSt U->Prop}
  (hawp:awp cfg Γ draws fn.ntmps lv c (Z0s args X L) Q) {R:Ending->World->Prop}
  (hq:∀ e' s' g' a' u,Q e' s'->Rel cfg ⟨w,g.m,g.tag,fun k=> g.ad (.x k)⟩ (s'.toF fn.ntmps) g' a' u->(∀ id,e'≠.exit id)/\a'.defers=[]/\∃ v,(results fn a'.tmps).run P u= .ok v u/\R (.returned v) u):Calls P f vs.toArray w R:=by
 let B:Base:=⟨w,g.m,g.tag,fun k=> g.ad (.x k)⟩
 have am:vs.length<=fn.ntmps:=by rw [E.len];exact hn
 have aa:Rel cfg B ((Z0s args X L).toF fn.ntmps) g { tmps:=vs.toArray++Array.replicate (fn.ntmps - vs.toArray.size) undef,defers:=[] } w:=by
  refine ⟨E.inv,⟨⟨rfl,rfl,rfl,Qb _⟩,fun _=> rfl,fun _ _ h=> h,fun c t h=> ⟨h,rfl⟩,fun c t h=> h,fun b _ _=> ⟨rfl,fun _ _=> rfl⟩,fun _ _=> rfl⟩,?_,?_,?_,rfl,fun t x hx=> ⟨rfl,E.ls t x hx⟩,fun t ht _ _=> E.bs t ht⟩
  .intro k
   have hl:(fun nm:Name=> (((Z0s args X L).toF fn.ntmps).mem nm).isSome)=Zbc X:=by
    funext nm
    simp only [LSt.toF,Z0s,Z4e]
    cases nm <;> simp [Zbc]
   rw [hl]
   simp only [LSt.toF,Z0s,ZgY,QG,if_true,Nat.sub_zero]
   cases hx:args[k]? with
   | none=> exact trivial
   | some x=>
    have hk:k < vs.length:=by rw [E.len];exact (Q8.1 hx).1
    have hv:vs[k]?=some vs[k]:=Q4 hk
    have:=E.args k _ x hv hx
    have hg:(vs.toArray++Array.replicate (fn.ntmps - vs.toArray.size) undef).getD k undef=vs[k]:=by
     simp [Array.getD,hk]
     intro h;omega
    grind
  .intro nm cs hm j c hc
   simp only [LSt.toF,Z0s,Z4e] at hm
   cases nm with
   | loc s=> simp at hm
   | x k=>
    simp at hm
    exact E.x k cs hm j c hc
  .simp only [LSt.toF]
   grind
 have ak:=Zux (B:=B) ok hΓ hdr (n:=fn.ntmps) (lv:=lv) c _ _ g _ w hawp aa
 refine calls_of_wp (R:=R) (args:=vs.toArray) hf hb (wp_mono ak ?_)
 rintro e a' u ⟨e',s',g',rfl,hQ,hr⟩
 obtain ⟨h0,h1,h2⟩:=hq e' s' g' a' u hQ hr
 cases e' with
 | normal=> trivial
 | ret=> trivial
 | exit id=> grind
theorem Z65 {Γ:Known U} {draws:Array Oper->FSt U->Bool} (ok:CfgOk P cfg) (hΓ:∀ f s,Γ f=some s->Contract P cfg f s) (hdr:Z8E P cfg Γ draws) {f:FuncId} {fn:Func} {c:Code} {s:Fs U} (lv:Za U)
  (hf : P.funcs[f]? = some fn) (hb : fn.body = some c) (hname : (fn.name == "runtime.NumGoroutine") = false)
  (hbody:∀ args X L ps r X' L',s.fn2 args X L=some (ps,r,X',L')->All ps->∃ args' X0 L0,BetterAll cfg args args' X X0/\(∀ t x,ZE (fun _=> none) L0 t=some x->ZE (fun _=> none) L t=some x)/\args'.length<=fn.ntmps/\awp cfg Γ draws fn.ntmps lv c (Z0s args' X0 L0) (Z1a cfg fn.ntmps fn.results.toList r X' L')):Contract P cfg f s:=by
 refine ⟨⟨fn,hf,by simp [hb],hname⟩,?_⟩
 intro am X1 L1 ps r X' L' hs a2 hX w g vs E1
 obtain ⟨args,X,L,ai,hL,hn,ao⟩:=hbody am X1 L1 ps r X' L' hs a2
 have E:=E1.better ai hL
 refine Zhm ok hΓ hdr lv hf hb E hn ao ?_
 .intro e' s' g' a' w' hQ hr
  have hE:Zj6 cfg fn.ntmps fn.results.toList r X' L' s':=by cases e' <;> first | exact hQ | exact hQ.elim
  refine ⟨fun id e=> by subst e;exact hQ,?_⟩
  refine ⟨hr.df,?_⟩
  unfold Zj6 at hE
  split at hE
  case h_2=> exact hE.elim
  rename_i ws bb ar ak
  obtain ⟨a3,hx⟩:=hE
  obtain ⟨us,h1,h2⟩:=Zib (w:=w') ok hr ar
  have hd:∀ t,Z26 t=true->(s'.toF fn.ntmps).dead t=false:=fun t _=> rfl
  obtain ⟨h3,h4⟩:=Zia (cfg:=cfg) (g:=g') (st:=s'.toF fn.ntmps) hd ws 0 []
  obtain ⟨sx,h5,a4,h6⟩:=ZsX hr rfl (mem:=s'.mem) (fun _=> rfl) X' 0 _ hx
  let keep:Name->Bool:=fun nm=> match nm with | .x k=> decide (k < X'.length) | .loc _=> false
  have aa:∀ c,g'.tag c=none->(g'.anew sx keep (fun _=> true)).tag c=none:=fun c hc=> by simp only [Gh.anew,hc]
  have ah:∀ c t,g'.tag c=some (.outer t)↔(g'.anew sx keep (fun _=> true)).tag c=some (.outer t):=by
   intro c t
   simp only [Gh.anew]
   cases hg:g'.tag c with
   | none=> simp
   | some t0=>
    cases t0 with
    | obj nm=> cases hk:keep nm <;> simp [hk]
    | tok u=> cases hk:YU sx u <;> simp [hk]
    | outer t0=> simp
  have hW:=h4 sx h5 _ (Gh.anew_ren sx keep (fun _=> true)).toRen us h2
  have aq:=Ztw (live:=fun _=> false) ak (Zys a3 hW)
  refine ⟨_,?_,_,g'.anew sx keep (fun _=> true),rfl,⟨fun c v hv=> ?_,fun c t ht=> ?_⟩,?_,?_,?_,aq,?_,Zne hr (fun _=> rfl) (Gh.anew_ren sx keep (fun _=> true)).toRen a4⟩
  .simp only [results,Sem.run_bind]
   have e1:fn.results=fn.results.toList.toArray:=by simp
   rw [e1,List.mapM_toArray]
   simp only [Sem.run_map,Sem.run_pure]
   exact congrArg (fun r:Result (List Value)=> (r.andThen fun a w'=> Result.ok a.toArray w').andThen fun a w'=> Result.ok (if h:a.size=1 then a[0] else Value.tuple a) w') h1
  .obtain ⟨h7,h8⟩:=hr.inv.im c v hv
   exact ⟨h7,aa c h8⟩
  .cases hg:g'.tag c with
   | none=> rw [aa c hg] at ht;cases ht
   | some t0=> exact hr.inv.it c t0 hg
  .have F:Fr ⟨w,g.m,g.tag,fun k=> g.ad (.x k)⟩ (g'.anew sx keep (fun _=> true)) w':=by
    refine hr.fr.step hr.inv (Evo.refl w' (fun _=> False)) (fun c hc=> hc.elim) (fun _ _ hv=> hv) (fun c t=> ah c t) ?_ (fun _=> rfl)
    intro b _ au o sp
    cases hg:g'.tag ⟨b,o,sp⟩ with
    | none=> exact aa _ hg
    | some t=>
     obtain ⟨t',rfl⟩:=au o sp t hg
     exact (ah _ _).1 hg
   exact ⟨F.stay,fun _=> rfl,F.mono,F.outer,F.outer',F.clean,F.frz⟩
  .intro c t ht
   simp only [Gh.anew] at ht
   split at ht
   .rename_i u hu
    cases hn:YU sx u with
    | none=> simp [hn] at ht
    | some u'=> simp [hn] at ht;exact .inr (.inr ⟨u',ht.symm⟩)
   .rename_i nm bk
    cases hk:keep nm with
    | false=> simp [hk] at ht
    | true=>
     simp [hk] at ht
     subst ht
     cases nm with
     | loc s=> simp [keep] at hk
     | x k=> exact .inr (.inl ⟨k,by simpa [keep] using hk,rfl⟩)
   .cases ht;exact .inl ⟨_,rfl⟩
   .cases ht
  .exact fun k _=> hr.fr.xad k
  .intro k cs hk j c hc
   obtain ⟨v,h7,h8,h9⟩:=h6 sx (.refl _) _ (Gh.anew_ren sx keep (fun _=> true)) k cs hk j c hc
   rw [QU] at h7 h8
   refine ⟨v,h7,?_,h9⟩
   have a0:k < X'.length:=(Q8.1 hk).1
   show (g'.anew sx keep (fun _=> true)).tag ((g'.ad (.x k)).add j)=_
   simp only [Gh.anew,h8,keep,a0,decide_true,cond_true]
theorem ZdJ {Γ:Known U} {draws:Array Oper->FSt U->Bool} (ok:CfgOk P cfg) (hΓ:∀ f s,Γ f=some s->Contract P cfg f s) (hdr:Z8E P cfg Γ draws) {f:FuncId} {fn:Func} {c:Code} {s:Fs U} (lv:Za U)
  (hf : P.funcs[f]? = some fn) (hb : fn.body = some c) (hname : (fn.name == "runtime.NumGoroutine") = false)
  (hbody:∀ args X ps r X',s.fn args X=some (ps,r,X')->All ps->∃ u X0,BetterAll cfg args u X X0/\u.length<=fn.ntmps/\awp cfg Γ draws fn.ntmps lv c (Zf u X0) (Y7 cfg fn.ntmps fn.results.toList r X')) (hd:s.fn2=ZdI s.fn:=by rfl):Contract P cfg f s:=by
 refine Z65 ok hΓ hdr lv hf hb hname ?_
 intro args X L ps r X' L' hs ab
 rw [hd] at hs
 unfold ZdI at hs
 split at hs
 .split at hs
  .rename_i h1
   cases hs
   obtain ⟨u,X0,h2,h3,h4⟩:=hbody args X _ _ _ h1 ab
   exact ⟨u,X0,[],h2,fun t x hx=> hx,h3,h4⟩
  .cases hs
 .cases hs
def XsN(cfg:Cfg U)(mem:List (Name × List (C U))):Nat->List (List (C U))->Prop
 | _,[]=> True
 | k,c ::r=> (match Z2s mem (.x k) with
  | some c0=> leL cfg c0 c
  | none=> False)/\c.all C.plain=true/\XsN cfg mem (k+1) r
theorem Zpd{mem:List (Name × List (C U))}:∀ {X:List (List (C U))} {k0:Nat},XsN cfg mem k0 X->∀ (k:Nat) c,X[k]?=some c->(∃ c0,Z2s mem (.x (k0+k))=some c0/\leL cfg c0 c)/\c.all C.plain=true
 | [],_,_,k,c,hk=> by simp at hk
 | c1 ::r,k0,h,0,c,hk=> by
  simp at hk
  subst hk
  refine ⟨?_,h.2.1⟩
  have s:=h.1
  split at s
  .exact ⟨_,‹_›,s⟩
  .exact s.elim
 | c1 ::r,k0,h,k+1,c,hk=> by
  have:=Zpd h.2.2 k c (by simpa using hk)
  rwa [show k0+1+k=k0+(k+1) by omega] at this
def ZzK(cfg:Cfg U)(n:Nat)(rs:List ResultVar)(X:List (List (C U)))(cs:List (C U))(s:LSt U):Prop:=
 match rs with
 | [.tmp t]=> match (s.toF n).env t with
  | .ptr (.loc d) 0=> match Z2s s.mem (.loc d) with
   | some cs0=> leL cfg cs0 cs/\cs.all C.plain=true/\XsN cfg s.mem 0 X
   | none=> False
  | _=> False
 | _=> False
def Zlk(cfg:Cfg U)(n:Nat)(rs:List ResultVar)(X:List (List (C U)))(cs:List (C U))(e:AExit)(s:LSt U):Prop:=
 match e with
 | .exit _=> False
 | _=> ZzK cfg n rs X cs s
theorem ZkU {Γ:Known U} {draws:Array Oper->FSt U->Bool} (ok:CfgOk P cfg) (hΓ:∀ f s,Γ f=some s->Contract P cfg f s) (hdr:Z8E P cfg Γ draws) {f:FuncId} {fn:Func} {c:Code} {s:Fs U} (lv:Za U)
  (hf : P.funcs[f]? = some fn) (hb : fn.body = some c) (hname : (fn.name == "runtime.NumGoroutine") = false)
  (hbody:∀ args X ps r X',s.fn args X=some (ps,r,X')->All ps->∃ args' X0 X1 cs,r= .ptr (.x X1.length) 0/\X'=X1++[cs]/\BetterAll cfg args args' X X0/\args'.length<=fn.ntmps/\awp cfg Γ draws fn.ntmps lv c (Zf args' X0) (Zlk cfg fn.ntmps fn.results.toList X1 cs)) (hd:s.fn2=ZdI s.fn:=by rfl):Contract P cfg f s:=by
 refine Z0t ⟨fn,hf,by simp [hb],hname⟩ hd ?_
 intro aq X2 ps r X' hs bi _ w g vs E1
 obtain ⟨args,X0,X1,cs,rfl,rfl,ah,hn,a2⟩:=hbody aq X2 ps r X' hs bi
 have E:=E1.better (L':=[]) ah (fun t x hx=> hx)
 refine Zhm ok hΓ hdr lv hf hb E hn a2 ?_
 intro e' s' g' a' w' hQ hr
 have hE:ZzK cfg fn.ntmps fn.results.toList X1 cs s':=by cases e' <;> first | exact hQ | exact hQ.elim
 refine ⟨fun id e=> by subst e;exact hQ,hr.df,?_⟩
 unfold ZzK at hE
 split at hE
 case h_2=> exact hE.elim
 rename_i t bj
 split at hE
 case h_2=> exact hE.elim
 rename_i d ht
 split at hE
 case h_2=> exact hE.elim
 rename_i a8 a9
 obtain ⟨ar,ai,bd⟩:=hE
 have hv:=hr.env t
 rw [ht] at hv
 have hv:a'.tmps.getD t undef= .pointer (some ((g'.ad (.loc d)).add 0)):=hv.2
 let re:Name->Option Nat:=fun nm=> if nm= .loc d then some X1.length else match nm with
  | .x k=> if k < X1.length then some k else none
  | .loc _=> none
 let g1:Gh:={ m:=g'.m,tag:=fun c=> (match g'.tag c with | some (.outer t)=> some (.outer t) | some (.obj nm)=> (re nm).map fun k=> .obj (.x k) | _=> none),ad:=fun nm=> if nm= .x X1.length then g'.ad (.loc d) else g'.ad nm,bs:=g'.bs }
 have ao:∀ c t,g1.tag c=some (.outer t)↔g'.tag c=some (.outer t):=by
  intro c t
  simp only [g1]
  cases hg:g'.tag c with
  | none=> simp
  | some t0=>
   cases t0 with
   | obj nm=> cases re nm <;> simp
   | tok u=> simp
   | outer t0=> simp
 have au:∀ c,g'.tag c=none->g1.tag c=none:=fun c hc=> by simp only [g1,hc]
 have a7:∀ nm k,re nm=some k->k < X1.length+1:=by
  intro nm k hk
  simp only [re] at hk
  split at hk
  .cases hk;omega
  .split at hk
   .split at hk
    .cases hk;omega
    .cases hk
   .cases hk
 have ak:∀ nm k c0 c,Z2s s'.mem nm=some c0->re nm=some k->g1.ad (.x k)=g'.ad nm->leL cfg c0 c->c.all C.plain=true->∀ (j:Nat) cc,c[j]?=some cc->∃ v,w'.cell? ((g1.ad (.x k)).add j)=some v/\g1.tag ((g1.ad (.x k)).add j)=some (.obj (.x k))/\RelC cfg g1 ZU v cc:=by
  intro nm k c0 c hl hk ba ar ai j cc hj
  rw [QD] at ai
  let fz:Nat->Value:=fun j=> (w'.cell? ((g'.ad nm).add j)).getD undef
  have hf:∀ j c,c0[j]?=some c->w'.cell? ((g'.ad nm).add j)=some (fz j)/\g'.tag ((g'.ad nm).add j)=some (.obj nm)/\RelC cfg g' ZU (fz j) c:=fun j c hc=> by
   obtain ⟨v,h8,h9,be⟩:=hr.mem _ _ hl j c hc
   simp only [fz,h8]
   exact ⟨rfl,h9,be⟩
  have hR:=Zks ar (RelL.of_get (cfg:=cfg) (g:=g') (st:=s'.toF fn.ntmps) (f:=fz) (fun j c hc=> (hf j c hc).2.2))
  have a0:j < c0.length:=by have bo:=(Q8.1 hj).1;have:=hR.1;simp at this;omega
  obtain ⟨bh,bc,_⟩:=hf j _ (Q4 a0)
  rw [ba]
  exact ⟨fz j,bh,by simp only [g1,bc,hk,Qi],RelC.plain (g1:=g') (g2:=g1) rfl (ai cc (QS hj)) (hR.2 j _ cc (by simp [a0]) hj)⟩
 have al:g1.ad (.x X1.length)=g'.ad (.loc d):=by simp only [g1,if_true]
 have aj:∀ k,k≠X1.length->g1.ad (.x k)=g'.ad (.x k):=fun k hk=> by
  simp only [g1]
  rw [if_neg (by simpa using hk)]
 refine ⟨a'.tmps.getD t undef,?_,_,g1,rfl,⟨fun c v hv=> ?_,fun c t ht=> ?_⟩,?_,?_,?_,⟨rfl,by rw [hv,al]⟩,?_,fun t x hx=> by cases hx⟩
 .simp only [results,Sem.run_bind]
  have e1:fn.results=#[.tmp t]:=by apply Xn;simpa using bj
  rw [e1]
  simp
 .obtain ⟨h7,h8⟩:=hr.inv.im c v hv
  exact ⟨h7,au c h8⟩
 .cases hg:g'.tag c with
  | none=> rw [au c hg] at ht;cases ht
  | some t0=> exact hr.inv.it c t0 hg
 .refine ⟨hr.fr.stay,fun _=> rfl,hr.fr.mono,fun c t h=> ?_,fun c t h=> hr.fr.outer' c t ((ao c t).1 h),fun b hb az=> ?_,hr.fr.frz⟩
  .obtain ⟨h1,h2⟩:=hr.fr.outer c t h
   exact ⟨(ao c t).2 h1,h2⟩
  .obtain ⟨h1,h2⟩:=hr.fr.clean b hb az
   refine ⟨h1,fun o sp=> ?_⟩
   rw [<-h2 o sp]
   cases hg:g'.tag ⟨b,o,sp⟩ with
   | none=> exact au _ hg
   | some t=>
    obtain ⟨t',rfl⟩:=az o sp t (by rw [<-h2 o sp];exact hg)
    exact (ao _ _).2 hg
 .intro c t ht
  simp only [g1] at ht
  split at ht
  .cases ht;exact .inl ⟨_,rfl⟩
  .rename_i nm _
   cases hk:re nm with
   | none=> simp [hk] at ht
   | some k=>
    simp [hk] at ht
    subst ht
    exact .inr (.inl ⟨k,by simpa using a7 nm k hk,rfl⟩)
  .cases ht
 .intro k hk
  have:k≠X1.length:=fun e=> hk (by rw [e])
  exact (aj k this).trans (hr.fr.xad k)
 .intro k a1 hk j c hj
  have bn:k < X1.length+1:=by have:=(Q8.1 hk).1;simpa using this
  rcases XG k X1.length with hk1 | hk1
  .rw [QH hk1] at hk
   obtain ⟨⟨c0,h1,h2⟩,h3⟩:=Zpd bd k a1 hk
   rw [QU] at h1
   exact ak (.x k) k c0 a1 h1 (by simp only [re];rw [if_neg (by simp),if_pos hk1]) (aj k JX) h2 h3 j c hj
  .have:k=X1.length:=JX
   subst this
   simp at hk
   subst hk
   exact ak (.loc d) _ a8 cs a9 (by simp only [re,if_true]) al ar ai j c hj
def Z3a(o:Oper):Bool:=
 match o.op with
 | .call c=> match c.callee with
  | .builtin .len=> false
  | _=> true
 | .makeSlice _ _ _=> true
 | .buildSlice _ _ parts=> Z66 parts.toList
 | _=> false
structure Fp where
 touch:List Name
 writes:List Name
 kills:Bool
 touchT:List Tok
 writesT:List Tok
 allT:Bool
def Z10(Γ:Known U)(o:Oper)(st:FSt U):Bool:=
 match o.op with
 | .call c=> match c.callee with
  | .value g=> match st.strip.opnd g with
   | some (.fn f)=> Z9T Γ (some (.fn f))
   | some (.clo f _)=> Z9T Γ (some (.fn f))
   | _=> false
  | _=> false
 | _=> false
def Zua(Γ:Known U)(o:Oper)(st:FSt U)(e:Eff U):Fp:={ allT:=Z10 Γ o st,touch:=touch o st,writes:=e.mem.map (·.1),kills:= !e.kill.isEmpty,touchT:=touchT o st,writesT:=e.kill++e.ls.map (·.1) }
def Zlx(l:List Tok)(t:Tok):Bool:=
 match l with
 | []=> false
 | a ::r=> if a=t then true else Zlx r t
def ZgK(a b:List Tok):Bool:=a.any fun x=> Zlx b x
def noR(d:Nat)(a:List Tok):Bool:=a.all fun t=> match t with
 | .r d' _=> !Nat.beq d' d
 | _=> true
def Zof(a b:List Name):Bool:=a.any fun x=> Jx b x
def ZkO(ops:Array Oper)(x y:Oper)(a b:Fp):Bool:=
 x.apart ops y && y.apart ops x && !Zof a.writes b.touch && !Zof b.writes a.touch && !Zof a.writes b.writes && !(a.kills && Z3a y) && !(b.kills && Z3a x) &&
  !ZgK a.writesT b.touchT && !ZgK b.writesT a.touchT && !ZgK a.writesT b.writesT && noR (y.dst.getD 0) a.writesT && noR (x.dst.getD 0) b.writesT &&
  (a.writesT.isEmpty || !b.allT) && (b.writesT.isEmpty || !a.allT)
structure Alike (Γ:Known U) (o:Oper) (ops:Array Oper) (st st':FSt U):Prop where
 n:st'.n=st.n
 env:∀ t,t∈o.looksAt ops->st'.env t=st.env t
 mem:∀ nm,nm∈touch o st->st'.mem nm=st.mem nm
 dead:Z3a o=true->st'.dead=st.dead
 mu:st'.mu=st.mu
 vw:st'.vw=st.vw
 ls:∀ t,t∈touchT o st->st'.ls t=st.ls t
 fr:∀ j,st'.ls (.r (o.dst.getD 0) j)=st.ls (.r (o.dst.getD 0) j)
 all:Z10 Γ o st=true->st'.ls=st.ls
theorem Alike.tok{o:Oper}{ops:Array Oper}{Γ:Known U}{st st':FSt U}(h:Alike Γ o ops st st'){x:Operand}(hx:x∈Z0l o){v:V U}(hv:st.strip.opnd x=some v){t:Tok}(ht:t∈v.toks):st'.ls t=st.ls t:=
 h.ls t (List.mem_flatMap.2 ⟨x,hx,by grind⟩)
theorem Zbb{st st':FSt U}{d:Nat}(hd:st'.dead=st.dead)(hf:∀ j,st'.ls (.r d j)=st.ls (.r d j)):∀ (L:List (Tok × LC U)),Z15 st' d L=Z15 st d L
 | []=> rfl
 | (t,x) ::L=> by
  simp only [Z15,Zbb hd hf L]
  cases hb:Y2 d t with
  | none=> rfl
  | some t'=>
   have e:∃ j,t'= .r d j:=by
    unfold Y2 at hb
    split at hb
    .grind
    .grind
    .cases hb
   grind
theorem Alike.opnd{o:Oper}{ops:Array Oper}{Γ:Known U}{st st':FSt U}(h:Alike Γ o ops st st'){x:Operand}(hx:x∈o.op.operands.toList):st'.opnd x=st.opnd x/\st'.strip.opnd x=st.strip.opnd x:=by
 cases x with
 | tmp t=>
  have s:t∈o.looksAt ops:=QP _ (XB.2 ⟨.tmp t,hx,rfl⟩)
  have:=h.env t s
  exact ⟨by simp [FSt.opnd,this],by simp [FSt.opnd,FSt.strip,this]⟩
 | const c=> trivial
 | global g=> trivial
 | func f=> trivial
theorem ZwE{st st':FSt U}{p:V U}{ag:Bool}{n:Nat}(h:∀ nm,nm∈ZS (some p)->st'.mem nm=st.mem nm):rd st' p ag n=rd st p ag n:=by
 cases p <;> simp only [rd]
 case ptr nm off=> rw [h nm (by simp [ZS])]
 case ap nm off k len i=> rw [h nm (by simp [ZS])]
theorem Z6Y{st st':FSt U}(hd:st'.dead=st.dead)(ps:Nat->Bool):∀ (xs:List (V U)) (i:Nat) (os:List (Name × List (C U))) (s:List (Tok × Tok)),
  (∀ x,x∈xs->∀ nm,nm∈ZS (some x)->st'.mem nm=st.mem nm)->Ja st' ps i xs os s=Ja st ps i xs os s
 | [],i,os,s,_=> rfl
 | x ::xs,i,os,s,h=> by
  have ih:=fun i os s=> Z6Y hd ps xs i os s (fun y hy=> h y (by simp [hy]))
  simp only [Ja,hd,ih]
  cases hp:Ztq x with
  | none=> rfl
  | some nm=>
   have e:st'.mem nm.1=st.mem nm.1:=by
    refine h x (by simp) nm.1 ?_
    cases x <;> simp only [Ztq,reduceCtorEq] at hp
    .cases hp;simp [ZS]
    .split at hp
     .grind
     .rename_i u;cases u;cases hp;simp [ZS]
     .cases hp
   simp only [e]
theorem Z7L{l:List Name}{nm:Name}(h:nm∈l):nm∈ZhM l:=by
 cases l with
 | nil=> cases h
 | cons a l=> exact QP _ h
theorem ZuK{l:List Name}{k:Nat}(hk:k < 8)(hl:l≠[]):Name.x k∈ZhM l:=by
 cases l with
 | nil=> grind
 | cons a l=>
  refine X5 _ ?_
  grind
theorem Zcw:∀ {cs:List (C U)} {hv:List Name} {nm:Name},nm∈ZiI cs hv->nm∈hv\/∃ k,k < 8/\nm= .x k
 | [],hv,nm,h=> .inl h
 | c ::cs,hv,nm,h=> by
  cases c with
  | xp k=>
   simp only [ZiI] at h
   rcases Zcw h with h | h
   .split at h
    .rename_i hc
     rw [Q6] at hc
     rcases Qj.1 h with h | h
     .exact .inl h
     .exact .inr ⟨k,by simpa using hc.1,by simpa using h⟩
    .exact .inl h
   .exact .inr h
  | _=> exact Zcw (by simpa only [ZiI] using h)
theorem ZiH{st:FSt U}:∀ {l hv:List Name} {nm:Name},nm∈Z8U st l hv->nm∈hv\/(l≠[]/\∃ k,k < 8/\nm= .x k)
 | [],hv,nm,h=> .inl h
 | a ::l,hv,nm,h=> by
  simp only [Z8U] at h
  rcases ZiH h with h | ⟨_,h⟩
  .split at h
   .rcases Zcw h with h | h
    .exact .inl h
    .exact .inr ⟨by simp,h⟩
   .exact .inl h
  .exact .inr ⟨by simp,h⟩
theorem Zdz{st st':FSt U}:∀ {l hv:List Name},(∀ nm∈l,st'.mem nm=st.mem nm)->Z8U st' l hv=Z8U st l hv
 | [],hv,_=> rfl
 | a ::l,hv,h=> by
  simp only [Z8U,h a (by simp)]
  exact Zdz fun nm s=> h nm (by simp [s])
theorem Z0C:∀ {vs:List (V U)} {nm:Name},nm∈JA vs->∃ x∈vs,nm∈ZS (some x)
 | [],nm,h=> by cases h
 | v ::vs,nm,h=> by
  simp only [JA] at h
  split at h
  .rename_i n mk s
   rcases Qa.1 h with rfl | h
   .refine ⟨v,by simp,?_⟩
    cases v <;> simp only [Ztq,reduceCtorEq] at s
    .cases s;simp [ZS]
    .split at s
     .grind
     .rename_i u;cases u;cases s;simp [ZS]
     .cases s
   .obtain ⟨x,h1,h2⟩:=Z0C h
    grind
  .obtain ⟨x,h1,h2⟩:=Z0C h
   grind
theorem Z3y{st:FSt U}{ps:Nat->Bool}:∀ {xs:List (V U)} {i:Nat} {os:List (Name × List (C U))} {seen:List (Tok × Tok)} {ys:List (V U)} {os':List (Name × List (C U))} {seen':List (Tok × Tok)},
  Ja st ps i xs os seen=some (ys,os',seen')->os'.map (·.1)=os.map (·.1)++JA xs
 | [],i,os,seen,ys,os',seen',h=> by
  simp only [Ja,oP] at h
  obtain ⟨_,rfl,_⟩:=h
  simp [JA]
 | x ::xs,i,os,seen,ys,os',seen',h=> by
  simp only [Ja] at h
  split at h
  .rename_i nm mk u
   split at h
   .cases h
   split at h
   .cases h
   split at h
   .rename_i s
    simp only [oP] at h
    obtain ⟨_,rfl,_⟩:=h
    have:=Z3y s
    simp only [JA,u]
    grind
   .cases h
  .rename_i u
   split at h
   .cases h
   split at h
   .rename_i s
    simp only [oP] at h
    obtain ⟨_,rfl,_⟩:=h
    have:=Z3y s
    simp only [JA,u]
    exact this
   .cases h
theorem ZmR{st:FSt U}{vs:List (V U)}{base:List Name}(hs:∀ x∈vs,∀ nm∈ZS (some x),nm∈base):∀ x∈vs++Z2B st vs,∀ nm∈ZS (some x),nm∈ZhM base:=by
 intro x h nm s
 rcases Qj.1 h with h | h
 .exact Z7L (hs x h nm s)
 .unfold Z2B at h
  obtain ⟨n,h1,rfl⟩:=X8.1 h
  simp only [ZS,Qg] at s
  subst s
  rcases ZiH (Xf h1) with h2 | ⟨h2,k,hk,rfl⟩
  .obtain ⟨y,h3,u⟩:=Z0C h2
   exact Z7L (hs y h3 _ u)
  .refine ZuK hk fun e=> ?_
   cases ha:JA vs with
   | nil=> exact h2 ha
   | cons b l=>
    obtain ⟨y,h3,u⟩:=Z0C (show b∈JA vs by rw [ha];simp)
    grind
theorem Z7r {Γ:Known U} {st st':FSt U} {d:Nat} {f:FuncId} {vs:List (V U)} {base:List Name} (hd:st'.dead=st.dead) (hs:∀ x∈vs,∀ nm∈ZS (some x),nm∈base) (hm:∀ nm∈ZhM base,st'.mem nm=st.mem nm)
  (hB:∀ L,Z15 st' d L=Z15 st d L) (hW:∀ s,Γ.fn f=some s->∀ toks c,(bif s.wr then Z0I st'.ls toks c else [])=(bif s.wr then Z0I st.ls toks c else []:List (Tok × LC U))):Z6j Γ st' d f vs=Z6j Γ st d f vs:=by
 unfold Z6j
 cases hG:Γ.fn f with
 | none=> rfl
 | some s=>
  have hx:Z2B st' vs=Z2B st vs:=by
   unfold Z2B
   rw [Zdz]
   intro nm u
   obtain ⟨x,h1,h2⟩:=Z0C u
   exact hm nm (Z7L (hs x h1 nm h2))
  have u:=ZmR (st:=st) hs
  simp only [hB,hW s hG,hx]
  rw [Z6Y (st:=st) (st':=st') hd _ _ _ _ _ (fun x h nm ab=> hm nm (u x h nm ab))]
  cases hp:Ja st s.pass 0 (vs++Z2B st vs) [] [] with
  | none=> rfl
  | some r=>
   obtain ⟨ys,os,toks⟩:=r
   have e:(os.map fun x=> Zub st' os (x.2,x.1))=os.map fun x=> Zub st os (x.2,x.1):=by
    apply XA
    intro x h
    have h1:x.1∈os.map (·.1):=X8.2 ⟨x,h,rfl⟩
    rw [Z3y hp] at h1
    obtain ⟨y,h2,h3⟩:=Z0C (show x.1∈JA (vs++Z2B st vs) by simpa using h1)
    simp only [Zub,hm _ (u y h2 _ h3)]
   simp only [e]
theorem Z9w{st st':FSt U}{x:Option Operand}(h:∀ y,x=some y->st'.opnd y=st.opnd y):Z1o st' x=Z1o st x:=by
 cases x with
 | none=> rfl
 | some y=> simp only [Z1o,h y rfl]
theorem Z3H{α β:Type}{f f':α->Option β}:∀ {l:List α},(∀ x,x∈l->f' x=f x)->l.mapM f'=l.mapM f
 | [],_=> rfl
 | x ::l,h=> by rw [X7,X7,h x (by simp),Z3H (fun y s=> h y (by simp [s]))]
theorem ZuA{Γ:Known U}{o:Oper}{ops:Array Oper}{st st':FSt U}(h:Alike Γ o ops st st'):aop cfg Γ o st'.strip=aop cfg Γ o st.strip:=by
 have ab:=fun {x:Operand} (hx:x∈o.op.operands.toList)=> (h.opnd hx).2
 have hm:=h.mem
 have hd:=h.dead
 have af:=fun {x:Operand} (hx:x∈Z0l o) {v:V U} (hv:st.strip.opnd x=some v) {t:Tok} (ht:t∈v.toks)=> h.tok hx hv ht
 have ax:=h.mu
 have am:=h.fr
 have av:=h.all
 obtain ⟨ai,op,bc,bh,a4,bb⟩:=o
 cases op <;> simp only [aop]
 case move x=> rw [ab (by simp [Op.operands])]
 case assign x=> rw [ab (by simp [Op.operands])]
 case alloc t=>
  cases ai with
  | none=> rfl
  | some d=>
   have:st'.strip.mem (.loc d)=st.strip.mem (.loc d):=hm (.loc d) (by simp [touch])
   cases cfg.var t with
   | none=> rfl
   | some z=> simp only [this]
 case box t x=>
  cases ai with
  | none=> rfl
  | some d=>
   have:st'.strip.mem (.loc d)=st.strip.mem (.loc d):=hm (.loc d) (by simp [touch])
   rw [ab (x:=x) (by simp [Op.operands])]
   cases cfg.var t with
   | none=> rfl
   | some z=>
    cases (st.strip.opnd x).bind V.cells with
    | none=> rfl
    | some cs=> simp only [this]
 case build t parts=>
  rw [Z3H (f:=fun x=> ((st.strip.opnd x.2).bind V.cells).map (x.1,·))]
  intro x hx
  rw [ab (by simp only [Op.operands];simp;exact ⟨x.1,by simpa using hx⟩)]
 case buildSlice t n parts=>
  rw [Z3H (f:=fun x=> (st.strip.opnd x.2).map (x.1,·)) (by
   intro x hx
   rw [ab (by simp only [Op.operands];simp;exact ⟨x.1,by simpa using hx⟩)])]
  have ah:st'.strip.mu=st.strip.mu:=ax
  cases hc:Z66 parts.toList with
  | false=> simp only [Bool.and_false,cond_false]
  | true=>
   have e1:st'.strip.dead=st.strip.dead:=hd hc
   cases ai with
   | none=> simp only [ZeW,ah]
   | some d=>
    have e2:st'.strip.ls (.r d 0)=st.strip.ls (.r d 0):=am 0
    simp only [ZeW,ah,e1,e2]
 case load t p=>
  rw [ab (by simp [Op.operands])]
  cases cfg.var t with
  | none=> rfl
  | some z=>
   cases hp:st.strip.opnd p with
   | none=> rfl
   | some v=>
    have:rd st'.strip v z.1 z.2.length=rd st.strip v z.1 z.2.length:=ZwE fun nm aj=> hm nm (by simp only [touch];rw [hp];exact aj)
    cases v <;> first | (simp only [this];done) | skip
    case c c=> cases c <;> first | rfl | (simp only [this];done)
    case mp u n off=>
     have:st'.strip.ls u=st.strip.ls u:=af (x:=p) (by simp [Z0l]) hp (by simp [V.toks])
     simp only [this]
 case store t p x=>
  rw [ab (x:=p) (by simp [Op.operands]),ab (x:=x) (by simp [Op.operands])]
  cases cfg.var t with
  | none=> rfl
  | some z=>
   cases hp:st.strip.opnd p with
   | none=> rfl
   | some v=>
    cases v <;> try rfl
    case mp u n off=>
     have:st'.strip.ls u=st.strip.ls u:=af (x:=p) (by simp [Z0l]) hp (by simp [V.toks])
     cases (st.strip.opnd x).bind V.cells with
     | none=> rfl
     | some cs=> simp only [this]
    case ptr nm off=>
     have:st'.strip.mem nm=st.strip.mem nm:=hm nm (by simp only [touch];rw [hp];simp [ZS])
     cases (st.strip.opnd x).bind V.cells with
     | none=> rfl
     | some cs=> simp only [this]
    case ap nm off k len n=>
     have:st'.strip.mem nm=st.strip.mem nm:=hm nm (by simp only [touch];rw [hp];simp [ZS])
     cases (st.strip.opnd x).bind V.cells with
     | none=> rfl
     | some cs=>
      match cs with
      | []=> rfl
      | [c]=> cases c <;> first | rfl | simp only [this]
      | c ::_ ::_=> cases c <;> rfl
 case nilCheck x=>
  rw [ab (by simp [Op.operands])]
  cases hp:st.strip.opnd x with
  | none=> rfl
  | some v=>
   cases v <;> try rfl
   case c c=> cases c <;> rfl
   case mp u n off=>
    have:st'.strip.ls u=st.strip.ls u:=af (x:=x) (by simp [Z0l]) hp (by simp [V.toks])
    simp only [this]
 case binOp bop t x y t'=> rw [ab (x:=x) (by simp [Op.operands]),ab (x:=y) (by simp [Op.operands])]
 case unOp uop t x=> rw [ab (by simp [Op.operands])]
 case convert src dst' x=> rw [ab (by simp [Op.operands])]
 case makeSlice t n m=>
  rw [ab (x:=n) (by simp [Op.operands]),ab (x:=m) (by simp [Op.operands])]
  have ah:st'.strip.mu=st.strip.mu:=ax
  have e1:st'.strip.dead=st.strip.dead:=hd rfl
  cases ai with
  | none=> simp only [Zlg,ah]
  | some d=>
   have e2:st'.strip.ls (.r d 0)=st.strip.ls (.r d 0):=am 0
   simp only [Zlg,ah,e1,e2]
 case slice t x lo hi mx=>
  rw [ab (x:=x) (by simp [Op.operands]),Z9w (x:=lo) (fun y hy=> ab (by simp [Op.operands,hy])),Z9w (x:=hi) (fun y hy=> ab (by simp [Op.operands,hy])),Z9w (x:=mx) (fun y hy=> ab (by simp [Op.operands,hy]))]
  cases hp:st.strip.opnd x with
  | none=> rfl
  | some v=>
   cases v
   case ptr nm off=>
    have:st'.strip.mem nm=st.strip.mem nm:=hm nm (by simp only [touch];rw [hp];simp [ZS])
    cases Z1o st.strip lo with
    | none=> rfl
    | some a=>
     cases Z1o st.strip hi with
     | none=> cases a <;> rfl
     | some b=>
      cases Z1o st.strip mx with
      | none=> cases a <;> cases b <;> rfl
      | some c=> cases a <;> cases b <;> cases c <;> first | rfl | simp only [this]
   case c c=>
    have a9:st'.strip.vw=st.strip.vw:=h.vw
    cases c
    case mref u=>
     have:st'.strip.ls u=st.strip.ls u:=af (x:=x) (by simp [Z0l]) hp (by simp [V.toks])
     rcases Z1o st.strip lo with _ | _ | v
     case some.some=>
      cases v
      case c c=> cases c <;> rcases Z1o st.strip hi with _ | _ | _ <;> rcases Z1o st.strip mx with _ | _ | _ <;> first | rfl | simp only [this,a9]
      all_goals (cases Z1o st.strip hi <;> cases Z1o st.strip mx <;> rfl)
     all_goals (cases Z1o st.strip hi <;> cases Z1o st.strip mx <;> rfl)
    all_goals (cases Z1o st.strip lo <;> cases Z1o st.strip hi <;> cases Z1o st.strip mx <;> rfl)
   all_goals (cases Z1o st.strip lo <;> cases Z1o st.strip hi <;> cases Z1o st.strip mx <;> rfl)
 case fieldAddr t x f=>
  rw [ab (by simp [Op.operands])]
  cases hp:st.strip.opnd x with
  | none=> rfl
  | some v=>
   cases cfg.fld t f with
   | none=> cases v with
    | c c=> cases c <;> rfl
    | _=> rfl
   | some z=>
    cases v <;> try rfl
    case c c=> cases c <;> rfl
    case mp u n off=>
     have:st'.strip.ls u=st.strip.ls u:=af (x:=x) (by simp [Z0l]) hp (by simp [V.toks])
     simp only [this]
 case makeFunc f first caps=>
  rw [Z3H (f:=fun x=> (st.strip.opnd x).bind Ztp)]
  intro x hx
  rw [ab (by simp only [Op.operands];simp;right;simpa using hx)]
 case field t x f=> rw [ab (by simp [Op.operands])]
 case indexAddr t x i=>
  rw [ab (x:=x) (by simp [Op.operands]),ab (x:=i) (by simp [Op.operands])]
  cases hp:st.strip.opnd x with
  | none=> rfl
  | some v=>
   cases hi:st.strip.opnd i with
   | none=> cases v <;> first | rfl | (rename_i y;cases y <;> rfl)
   | some vi=>
    cases vi <;> first | (cases v <;> first | (rfl;done) | (rename_i y;cases y <;> (rfl;done));done) | skip
    case c z=>
     cases z <;> first | (cases v <;> first | (rfl;done) | (rename_i y;cases y <;> (rfl;done));done) | skip
     case int k n=>
      cases v <;> first | (rfl;done) | skip
      case c y=>
       cases y <;> first | (rfl;done) | skip
       case mref u=>
        have:st'.strip.ls u=st.strip.ls u:=af (x:=x) (by simp [Z0l]) hp (by simp [V.toks])
        simp only [this]
 case index t x i=> rw [ab (x:=x) (by simp [Op.operands]),ab (x:=i) (by simp [Op.operands])]
 case extract x i=> rw [ab (by simp [Op.operands])]
 case call c=>
  unfold Zli
  cases hc:c.callee with
  | builtin b=>
   simp only
   have hx:∀ x∈c.args.toList,st'.strip.opnd x=st.strip.opnd x:=fun x hx=> ab (by simp [Op.operands,Call.operands,hc];simpa using hx)
   unfold Zhu
   split
   .rename_i x t aa aw
    rw [hx x (by rw [aa];simp)]
    cases hp:st.strip.opnd x with
    | none=> rfl
    | some v=>
     have:lenOf cfg st'.strip t v=lenOf cfg st.strip t v:=by
      cases v <;> try rfl
      case c y=>
       cases y <;> try rfl
       case mref u=>
        have:st'.strip.ls u=st.strip.ls u:=af (x:=x) (by simp only [Z0l,hc];rw [aa];simp) hp (by simp [V.toks])
        simp only [lenOf,this]
     simp only [this]
   .rename_i x y t t' aa aw
    rw [hx x (by rw [aa];simp),hx y (by rw [aa];simp)]
    have ak:st'.dead=st.dead:=hd (by simp only [Z3a,hc])
    have:∀ d t x y,Z8D cfg st'.strip d t x y=Z8D cfg st.strip d t x y:=fun d t x y=> by simp only [Z8D,FSt.strip,ak]
    have ah:st'.strip.mu=st.strip.mu:=ax
    cases ai with
    | none=> rfl
    | some d=>
     cases hp:st.strip.opnd x with
     | none=> rfl
     | some v=>
      cases v <;> try rfl
      case c cx=>
       have hM:∀ t y,Z5i cfg st'.strip d t cx y=Z5i cfg st.strip d t cx y:=by
        intro t y
        have e1:st'.strip.dead=st.strip.dead:=ak
        have e2:st'.strip.ls (.r d 0)=st.strip.ls (.r d 0):=am 0
        have e3:∀ T,Z8Z cfg st'.strip T cx=Z8Z cfg st.strip T cx:=by
         intro T
         cases cx <;> simp only [Z8Z,e1]
         case mref u=>
          have:st'.strip.ls u=st.strip.ls u:=af (x:=x) (by simp only [Z0l,hc];rw [aa];simp) hp (by simp [V.toks])
          simp only [this]
        simp only [Z5i,e1,e2,e3]
       have hZ:∀ t t' y,Z5h cfg st'.strip d t t' cx y=Z5h cfg st.strip d t t' cx y:=by
        intro t t' y
        have e1:st'.strip.dead=st.strip.dead:=ak
        have e2:st'.strip.ls (.r d 0)=st.strip.ls (.r d 0):=am 0
        have e3:∀ T,Z8Z cfg st'.strip T cx=Z8Z cfg st.strip T cx:=by
         intro T
         cases cx <;> simp only [Z8Z,e1]
         case mref u=>
          have:st'.strip.ls u=st.strip.ls u:=af (x:=x) (by simp only [Z0l,hc];rw [aa];simp) hp (by simp [V.toks])
          simp only [this]
        simp only [Z5h,e1,e2,e3]
       cases hq:st.strip.opnd y with
       | none=> rfl
       | some vy=> cases vy <;> first | (rfl;done) | (simp only [this,hM,hZ,ah])
   .rename_i x t aa aw
    rw [hx x (by rw [aa];simp)]
    cases hp:st.strip.opnd x with
    | none=> rfl
    | some v=>
     cases v <;> try rfl
     case vw u n=>
      have:st'.strip.ls u=st.strip.ls u:=af (x:=x) (by simp only [Z0l,hc];rw [aa];simp) hp (by simp [V.toks])
      simp only [Zlh,this]
   .rename_i x y t t' aa aw
    rw [hx x (by rw [aa];simp),hx y (by rw [aa];simp)]
    cases hp:st.strip.opnd x with
    | none=> rfl
    | some v=>
     cases v <;> try rfl
     case vw u n=>
      have:st'.strip.ls u=st.strip.ls u:=af (x:=x) (by simp only [Z0l,hc];rw [aa];simp) hp (by simp [V.toks])
      cases st.strip.opnd y with
      | none=> rfl
      | some vy=> cases vy <;> first | rfl | simp only [ZsV,this]
   .rename_i x y aa
    rw [hx x (by rw [aa];simp),hx y (by rw [aa];simp)]
   .rename_i x y aa
    rw [hx x (by rw [aa];simp),hx y (by rw [aa];simp)]
   .try rfl
  | value gx=>
   simp only
   have ak:st'.dead=st.dead:=hd (by simp only [Z3a,hc])
   have hx:∀ x∈c.args.toList,st'.strip.opnd x=st.strip.opnd x:=fun x hx=> ab (by simp [Op.operands,Call.operands,hc];right;simpa using hx)
   rw [ab (x:=gx) (by simp [Op.operands,Call.operands,hc]),Z3H (f:=st.strip.opnd) hx]
   cases hg:st.strip.opnd gx with
   | none=> rfl
   | some v=>
    have ao:∀ (vs:List (V U)),c.args.toList.mapM st.strip.opnd=some vs->∀ x∈vs,∀ nm∈ZS (some x),nm∈ZS (some v)++c.args.toList.flatMap fun x=> ZS (st.strip.opnd x):=by
     intro vs hv x a6 nm aj
     obtain ⟨j,hj,rfl⟩:=Xp a6
     have bd:=(mapM_len hv)
     have a1:j < c.args.toList.length:=JX
     obtain ⟨y,h1,h2⟩:=Z79 hv j _ (Q4 a1)
     rw [Q4 hj] at h1
     cases h1
     exact X5 _ (List.mem_flatMap.2 ⟨_,List.getElem_mem a1,by rw [h2];exact aj⟩)
    have aq:∀ nm∈ZhM (ZS (some v)++c.args.toList.flatMap fun x=> ZS (st.strip.opnd x)),st'.strip.mem nm=st.strip.mem nm:=by
     intro nm aj
     refine hm nm ?_
     simp only [touch,hc,hg]
     exact Q0 _ aj
    have hB:∀ L,Z15 st'.strip (ai.getD 0) L=Z15 st.strip (ai.getD 0) L:=Zbb (st:=st.strip) (st':=st'.strip) ak am
    have hW:∀ f',(v= .fn f'\/∃ nms,v= .clo f' nms)->∀ s,Γ.fn f'=some s->∀ toks c,(bif s.wr then Z0I st'.strip.ls toks c else [])=(bif s.wr then Z0I st.strip.ls toks c else []:List (Tok × LC U)):=by
     intro f' hv s hG toks c'
     cases hw:s.wr with
     | false=> rfl
     | true=>
      have:st'.ls=st.ls:=av (by
       rcases hv with rfl | ⟨nms,rfl⟩ <;> simp only [Z10,hc,hg,Z9T,hG,hw,Bool.true_or])
      simp only [cond_true,FSt.strip,this]
    cases v <;> try rfl
    case fn f=>
     cases hv:c.args.toList.mapM st.strip.opnd with
     | none=> rfl
     | some vs=>
      simp only
      cases hb:Zyo Γ f with
      | false=>
       cases hmk:ZEs Γ f with
       | false=> simp only [cond_false];exact Z7r ak (ao vs hv) aq hB (hW f (.inl rfl))
       | true=>
        have:st'.strip.mem (.loc (ai.getD 0))=st.strip.mem (.loc (ai.getD 0)):=hm _ (by simp [touch,hc])
        have e:Z5f st'.strip vs=Z5f st.strip vs:=by
         unfold Z5f
         split
         .rename_i nm
          rw [aq nm (Z7L (ao _ hv _ Q7 nm (by simp [ZS])))]
         .try rfl
        simp only [cond_true,cond_false,ZuE,this,e]
        have ba:Z6j Γ st'.strip (ai.getD 0) f vs=Z6j Γ st.strip (ai.getD 0) f vs:=Z7r ak (ao vs hv) aq hB (hW f (.inl rfl))
        rw [ba]
      | true=>
       have:st'.ls=st.ls:=av (by
        unfold Zyo at hb
        split at hb
        .rename_i s hG;simp only [Z10,hc,hg,Z9T,hG,hb,Xm]
        .cases hb)
       have e:V.lend st'.strip=V.lend st.strip:=by
        have e2:C.lend st'.strip=C.lend st.strip:=by
         funext c
         cases c <;> simp only [C.lend,FSt.strip,this]
        funext v
        cases v <;> simp only [V.lend,e2]
       simp only [cond_true,Zj4,e]
    case clo f nms=>
     cases hv:c.args.toList.mapM st.strip.opnd with
     | none=> rfl
     | some vs=>
      refine Z7r ak (fun x hx nm aj=> ?_) aq hB (hW f (.inr ⟨nms,rfl⟩))
      rcases Qj.1 hx with hx | hx
      .exact ao vs hv x hx nm aj
      .obtain ⟨bg,h1,rfl⟩:=X8.1 hx
       simp only [ZS,Qg] at aj
       subst aj
       exact QP _ (by simpa [ZS] using h1)
  | invoke r m=> rfl
where
 mapM_len {f:Operand->Option (V U)}:∀ {xs:List Operand} {vs:List (V U)},xs.mapM f=some vs->xs.length=vs.length:=by
  intro xs
  induction xs with
  | nil=> intro vs h;simp at h;subst h;rfl
  | cons y xs ih=>
   intro vs h
   rw [X7] at h
   cases h1:f y with
   | none=> simp [h1] at h
   | some v=>
    cases h2:xs.mapM f with
    | none=> simp [h1,h2] at h
    | some r=>
     simp [h1,h2] at h
     subst h
     simp [ih h2]
theorem ZbE{st st':FSt U}{G:Option Bool}:∀ {l:List Operand},(∀ t,Operand.tmp t∈l->st'.env t=st.env t)->Z0K st' G l=Z0K st G l
 | [],_=> rfl
 | x ::l,h=> by
  have s:=ZbE (l:=l) (G:=G) (fun t u=> h t (by simp [u]))
  cases x with
  | tmp t=> simp only [Z0K,h t (by simp),s]
  | _=> trivial
theorem ZdC{tyEq:DecidableEq U.Ty}{G:Bool}{m0 m1:Name->Option (List (C U))}:∀ {m:List (Name × List (C U))},(∀ x∈m,m1 x.1=m0 x.1)->Z4Z tyEq G m1 m=Z4Z tyEq G m0 m
 | [],_=> rfl
 | (nm,cs) ::r,h=> by
  simp only [Z4Z,h (nm,cs) (by simp),ZdC (m:=r) (fun x s=> h x (by simp [s]))]
theorem Z76{l:List Name}{nm:Name}:Jx l nm=true↔nm∈l:=by
 refine ⟨?_,Z75⟩
 induction l with
 | nil=> intro h;cases h
 | cons x l ih=>
  intro h
  simp only [Jx] at h
  grind
theorem Z6o{o:Oper}{ops:Array Oper}{st st':FSt U}(h:∀ t,t∈o.looksAt ops->st'.env t=st.env t):touch o st'=touch o st:=by
 have s:∀ {x:Operand},x∈o.op.operands.toList->st'.strip.opnd x=st.strip.opnd x:=by
  intro x u
  cases x with
  | tmp t=> simp [FSt.opnd,FSt.strip,h t (QP _ (XB.2 ⟨.tmp t,u,rfl⟩))]
  | _=> rfl
 obtain ⟨ah,op,ae,ai,ab,aa⟩:=o
 cases op <;> simp only [touch]
 case load t p=> rw [s (by simp [Op.operands])]
 case store t p x=> rw [s (by simp [Op.operands])]
 case slice t x lo hi mx=> rw [s (by simp [Op.operands])]
 case call c=>
  have:∀ (l:List Operand),(∀ x∈l,x∈c.args.toList)->(l.flatMap fun x=> ZS (st'.strip.opnd x))=l.flatMap fun x=> ZS (st.strip.opnd x):=by
   intro l
   induction l with
   | nil=> intro _;rfl
   | cons x l ih=>
    intro hl
    rw [XY,XY,ih (fun y hy=> hl y (by simp [hy])),s (by
     have:=hl x (by simp)
     cases hc:c.callee <;> simp [Op.operands,Call.operands,hc] <;> first | (right;simpa using this) | simpa using this)]
  rw [this _ (fun x u=> u)]
  cases hc:c.callee with
  | value gx=> simp only [s (x:=gx) (by simp [Op.operands,Call.operands,hc])]
  | builtin b=> rfl
  | invoke r m=> rfl
theorem ZnT{o:Oper}{x:Operand}(h:x∈Z0l o):x∈o.op.operands.toList:=by
 obtain ⟨ab,op,aa,ae,u,s⟩:=o
 cases op <;> simp only [Z0l] at h <;> (try (cases h;done))
 case load t p=> trivial
 case store t p x=> simp only [Qg] at h;subst h;simp [Op.operands]
 case nilCheck x=> trivial
 case fieldAddr t x f=> trivial
 case indexAddr t x i=> simp only [Qg] at h;subst h;simp [Op.operands]
 case slice t x lo hi mx=> simp only [Qg] at h;subst h;simp [Op.operands]
 case call c=>
  cases hc:c.callee <;> rw [hc] at h <;> (try (cases h;done))
  simp only at h
  simp only [Op.operands,Call.operands,hc]
  simpa using h
theorem Z9S{o:Oper}{ops:Array Oper}{st st':FSt U}(h:∀ t,t∈o.looksAt ops->st'.env t=st.env t):touchT o st'=touchT o st:=by
 have s:∀ {x:Operand},x∈o.op.operands.toList->st'.strip.opnd x=st.strip.opnd x:=by
  intro x hx
  cases x with
  | tmp t=> simp [FSt.opnd,FSt.strip,h t (QP _ (XB.2 ⟨.tmp t,hx,rfl⟩))]
  | _=> rfl
 unfold touchT
 have:∀ (l:List Operand),(∀ x∈l,x∈Z0l o)->(l.flatMap fun x=> (st'.strip.opnd x).toList.flatMap V.toks)=l.flatMap fun x=> (st.strip.opnd x).toList.flatMap V.toks:=by
  intro l
  induction l with
  | nil=> intro _;rfl
  | cons x l ih=>
   intro hl
   rw [XY,XY,ih (fun y u=> hl y (by simp [u])),s (ZnT (hl x (by simp)))]
 grind
theorem Z8X{Γ:Known U}{o:Oper}{ops:Array Oper}{st st':FSt U}(h:∀ t,t∈o.looksAt ops->st'.env t=st.env t):Z10 Γ o st'=Z10 Γ o st:=by
 obtain ⟨ab,op,aa,ae,u,s⟩:=o
 cases op <;> try rfl
 case call c=>
  simp only [Z10]
  cases hc:c.callee <;> try rfl
  case value g=>
   have:st'.strip.opnd g=st.strip.opnd g:=by
    cases g with
    | tmp t=> simp [FSt.opnd,FSt.strip,h t (QP _ (XB.2 ⟨.tmp t,by simp [Op.operands,Call.operands,hc],rfl⟩))]
    | _=> rfl
   grind
theorem ZdM{Γ:Known U}{o:Oper}{ops:Array Oper}{st st':FSt U}(h:Alike Γ o ops st st'):Z6i cfg Γ ops o st'=Z6i cfg Γ ops o st:=by
 have s:=fun {x:Operand} (hx:x∈o.op.operands.toList)=> (h.opnd hx).1
 have hG:Z61 ops st' o=Z61 ops st o:=by
  unfold Z61
  cases hg:o.guard with
  | none=> rfl
  | some jw=>
   obtain ⟨j,ab⟩:=jw
   simp only
   cases u:(ops[j]?).bind (·.dst) with
   | none=> rfl
   | some t=>
    have:st'.env t=st.env t:=h.env t (X5 _ (by simp [hg,u]))
    grind
 have hN:∀ G,Z0K st' G o.op.operands.toList=Z0K st G o.op.operands.toList:=fun G=>
  ZbE fun t u=> h.env t (QP _ (XB.2 ⟨.tmp t,u,rfl⟩))
 unfold Z6i
 rw [h.n]
 split
 .split
  .rename_i c x y hc
   rw [hG,s (x:=c) (by simp [hc,Op.operands]),s (x:=x) (by simp [hc,Op.operands]),s (x:=y) (by simp [hc,Op.operands])]
  .have u:=Z6o (st:=st) (st':=st') h.env
   rw [hG]
   simp only [ZuA h,hN,u]
   split
   .try rfl
   .rename_i G ae
    cases he:aop cfg Γ o st.strip with
    | none=> rfl
    | some r=>
     obtain ⟨ps,e⟩:=r
     cases G with
     | none=> rfl
     | some Gb=>
      obtain ⟨v,m,k,l⟩:=e
      cases v with
      | none=> rfl
      | some v=>
       cases k with
       | cons _ _=> grind
       | nil=>
        cases l with
        | cons _ _=> grind
        | nil=>
        cases m with
        | nil=> rfl
        | cons x r=>
         simp only
         cases hall:(x ::r).all fun x=> Jx (touch o st) x.1 with
         | false=> rfl
         | true=>
          have hj:Z4Z cfg.tyEq Gb st'.mem (x ::r)=Z4Z cfg.tyEq Gb st.mem (x ::r):=ZdC fun y hy=> h.mem _ (Z76.1 (by
           grind))
          rw [hj]
 .try rfl
theorem Z5R{m0:Name->Option (List (C U))}{m:List (Name × List (C U))}{nm:Name}(h:Jx (m.map (·.1)) nm=false):ZW m0 m nm=m0 nm:=by
 induction m with
 | nil=> rfl
 | cons x m ih=>
  obtain ⟨b,cs⟩:=x
  simp only [Xb,Jx] at h
  split at h
  .cases h
  .rename_i e
   simp only [ZW]
   grind
theorem ZgJ{x y:List Name}(h:Zof x y=false):∀ nm,nm∈x->Jx y nm=false:=by
 intro nm s
 unfold Zof at h
 grind
theorem Zt8{l:List Tok}{t:Tok}:Zlx l t=true↔t∈l:=by
 induction l with
 | nil=> simp [Zlx]
 | cons x l ih=>
  simp only [Zlx,Qa]
  grind
theorem Zdm{x y:List Tok}(h:ZgK x y=false):∀ t,t∈x->t∉y:=by
 intro t u s
 unfold ZgK at h
 rw [List.any_eq_false] at h
 have:=h t u
 rw [Zt8.2 s] at this
 simp at this
theorem ZtV{m:Tok->Option (LC U)}{l:List (Tok × LC U)}{t:Tok}(h:t∉l.map (·.1)):ZE m l t=m t:=by
 induction l with
 | nil=> rfl
 | cons x l ih=>
  obtain ⟨b,y⟩:=x
  simp only [Xb,Qa,not_or] at h
  simp only [ZE]
  grind
theorem Z4W{m:Tok->Option (LC U)}{e:Eff U}{t:Tok}(h:t∉e.kill++e.ls.map (·.1)):Z0o m e t=m t:=by
 simp only [Qj,not_or] at h
 unfold Z0o
 have:e.kill.contains t=false:=by
  cases hk:e.kill.contains t with
  | false=> rfl
  | true=> exact absurd (by simpa using hk) h.1
 rw [this,cond_false,ZtV h.2]
theorem Zj2 {Γ:Known U} {ops:Array Oper} {x y:Oper} {st:FSt U} {e:Eff U} (hap:x.apart ops y=true) (h:Zof (e.mem.map (·.1)) (touch y st)=false) (hk:(!e.kill.isEmpty && Z3a y)=false)
  (s:ZgK (e.kill++e.ls.map (·.1)) (touchT y st)=false) (u:noR (y.dst.getD 0) (e.kill++e.ls.map (·.1))=true) (ha:((e.kill++e.ls.map (·.1)).isEmpty || !Z10 Γ y st)=true):
  Alike Γ y ops st (st.app x.dst e):=by
 obtain ⟨h1,_,_⟩:=Oper.apart_spec hap
 refine ⟨?_,?_,?_,?_,by cases x.dst <;> rfl,by cases x.dst <;> rfl,fun t aa=> Z4W (fun h=> Zdm s t h aa),fun j=> Z4W (fun h=> ?_),fun hc=> ?_⟩
 .cases x.dst <;> rfl
 .intro t s
  cases hd:x.dst with
  | none=> rfl
  | some d=>
   have af:t≠d:=fun e=> h1 d hd (e▸s)
   have:Nat.beq t d=false:=by
    cases hb:Nat.beq t d with
    | false=> rfl
    | true=> simp_all
   simp [FSt.app,FSt.put,this]
 .intro nm hn
  have:Jx (e.mem.map (·.1)) nm=false:=by
   cases hb:Jx (e.mem.map (·.1)) nm with
   | false=> rfl
   | true=>
    have:=ZgJ h nm (Z76.1 hb)
    rw [Z75 hn] at this
    cases this
  exact Z5R this
 .intro u
  simp only [u,K4,Xu] at hk
  have:e.kill=[]:=by simpa using hk
  simp [FSt.app,this]
 .have:=QD.1 u _ h
  simp at this
 .rw [hc] at ha
  simp only [Xw,QC,List.isEmpty_iff] at ha
  funext t
  exact Z4W (by rw [ha];simp)
theorem ZzF{ops:Array Oper}{x y:Oper}{st:FSt U}{e f:Eff U}(hap:x.apart ops y=true)(hm:Zof (e.mem.map (·.1)) (f.mem.map (·.1))=false)(hl:ZgK (e.kill++e.ls.map (·.1)) (f.kill++f.ls.map (·.1))=false):
  (st.app x.dst e).app y.dst f=(st.app y.dst f).app x.dst e:=by
 obtain ⟨_,h2,_⟩:=Oper.apart_spec hap
 have ak:∀ (s:FSt U) (v u:V U),((s.put x.dst v).put y.dst u)=((s.put y.dst u).put x.dst v):=by
  intro s v u
  cases hx:x.dst with
  | none=> rfl
  | some d=>
   cases hy:y.dst with
   | none=> rfl
   | some d'=>
    have aa:d≠d':=fun e=> h2 d hx (by rw [hy,e])
    simp only [FSt.put]
    congr 1
    funext j
    cases h1:Nat.beq j d with
    | false=> rfl
    | true=>
     cases h3:Nat.beq j d' with
     | false=> rfl
     | true=> exact absurd ((Qe h1).symm.trans (Qe h3)) aa
 have ao:ZW (ZW st.mem e.mem) f.mem=ZW (ZW st.mem f.mem) e.mem:=by
  funext nm
  cases h1:Jx (e.mem.map (·.1)) nm with
  | false=>
   rw [Z5R (m:=e.mem) (m0:=ZW st.mem f.mem) h1]
   rcases Jd st.mem f.mem nm with ⟨k,cs,h3,h4⟩ | ⟨h3,h4⟩
   .rcases Jd (ZW st.mem e.mem) f.mem nm with ⟨k',cs',h5,h6⟩ | ⟨h5,h6⟩
    .have:∀ (m0 m1:Name->Option (List (C U))) (l:List (Name × List (C U))),(∃ x,x∈l/\x.1=nm)->ZW m0 l nm=ZW m1 l nm:=by
      intro m0 m1 l
      induction l with
      | nil=> rintro ⟨x,hx,_⟩;simp at hx
      | cons z l ih=>
       rintro ⟨x,hx,aj⟩
       obtain ⟨b,cs⟩:=z
       simp only [ZW]
       split
       .try rfl
       .rename_i aa
        rcases Qa.1 hx with rfl | hx
        .exact absurd aj.symm aa
        .exact ih ⟨x,hx,aj⟩
     exact this _ _ _ ⟨_,QS h3,rfl⟩
    .exact absurd rfl (h5 k _ h3)
   .rcases Jd (ZW st.mem e.mem) f.mem nm with ⟨k',cs',h5,h6⟩ | ⟨h5,h6⟩
    .exact absurd rfl (h3 k' _ h5)
    .rw [h6,h4,Z5R h1]
  | true=>
   have au:Jx (f.mem.map (·.1)) nm=false:=ZgJ hm nm (Z76.1 h1)
   rw [Z5R (m:=f.mem) (m0:=ZW st.mem e.mem) au]
   have:∀ (m0 m1:Name->Option (List (C U))) (l:List (Name × List (C U))),Jx (l.map (·.1)) nm=true->ZW m0 l nm=ZW m1 l nm:=by
    intro m0 m1 l
    induction l with
    | nil=> intro h;cases h
    | cons z l ih=>
     obtain ⟨b,cs⟩:=z
     intro h
     simp only [Xb,Jx] at h
     simp only [ZW]
     split
     .try rfl
     .rename_i aa
      rw [if_neg (fun e=> aa e.symm)] at h
      exact ih h
   exact this _ _ _ h1
 have ah:(fun t=> (st.dead t || e.kill.contains t) || f.kill.contains t)=fun t=> (st.dead t || f.kill.contains t) || e.kill.contains t:=by
  funext t
  cases st.dead t <;> cases e.kill.contains t <;> cases f.kill.contains t <;> rfl
 have hn:∀ (s:FSt U) d v,(s.put d v).n=s.n/\(s.put d v).mem=s.mem/\(s.put d v).dead=s.dead:=by
  intro s d v;cases d <;> exact ⟨rfl,rfl,rfl⟩
 have aq:(((st.put x.dst (e.val.getD .junk))).put y.dst (f.val.getD .junk)).env=((st.put y.dst (f.val.getD .junk)).put x.dst (e.val.getD .junk)).env:=by rw [ak]
 have al:∀ (s s':FSt U) d v,s.env=s'.env->(s.put d v).env=(s'.put d v).env:=by
  intro s s' d v he;cases d <;> simp [FSt.put,he]
 have aw:Z0o (Z0o st.ls e) f=Z0o (Z0o st.ls f) e:=by
  funext t
  by_cases h1:t∈e.kill++e.ls.map (·.1)
  .have h2:=Zdm hl t h1
   rw [Z4W h2]
   unfold Z0o
   cases he:e.kill.contains t with
   | true=> rfl
   | false=>
    simp only [cond_false]
    have h3:t∈e.ls.map (·.1):=by
     rcases Qj.1 h1 with h | h
     .have:e.kill.contains t=true:=by simpa using h
      rw [he] at this;cases this
     .exact h
    have:∀ (m0 m1:Tok->Option (LC U)) (l:List (Tok × LC U)),t∈l.map (·.1)->ZE m0 l t=ZE m1 l t:=by
     intro m0 m1 l
     induction l with
     | nil=> intro h;cases h
     | cons z l ih=>
      obtain ⟨b,y⟩:=z
      intro h
      simp only [ZE]
      split
      .try rfl
      .rename_i aa
       simp only [Xb,Qa] at h
       exact ih (h.resolve_left aa)
    exact this _ _ _ h3
  .rw [Z4W (m:=Z0o st.ls f) h1]
   have:∀ (m0 m1:Tok->Option (LC U)) (l:List (Tok × LC U)),m0 t=m1 t->ZE m0 l t=ZE m1 l t:=by
    intro m0 m1 l he
    induction l with
    | nil=> exact he
    | cons z l ih=>
     obtain ⟨b,y⟩:=z
     simp only [ZE]
     split
     .try rfl
     .exact ih
   have h3:Z0o st.ls e t=st.ls t:=Z4W h1
   unfold Z0o at h3 ⊢
   cases hf:f.kill.contains t with
   | true=> rfl
   | false=> simp only [cond_false];exact this _ _ _ h3
 have ext:∀ {s s':FSt U},s.n=s'.n->s.env=s'.env->s.mem=s'.mem->s.dead=s'.dead->s.ls=s'.ls->s.mu=s'.mu->s.vw=s'.vw->s=s':=by
  intro s s' h1 h2 h3 h4;cases s;cases s';simp_all
 refine ext ?_ ?_ ?_ ?_ aw ?_ (by cases x.dst <;> cases y.dst <;> rfl)
 .cases x.dst <;> cases y.dst <;> rfl
 .show ((st.app x.dst e).put y.dst _).env=((st.app y.dst f).put x.dst _).env
  rw [al (st.app x.dst e) (st.put x.dst (e.val.getD .junk)) y.dst _ rfl,aq,al (st.app y.dst f) (st.put y.dst (f.val.getD .junk)) x.dst _ rfl]
 .show ZW (st.app x.dst e).mem f.mem=ZW (st.app y.dst f).mem e.mem
  exact ao
 .exact ah
 .cases x.dst <;> cases y.dst <;> rfl
end Go.AM
namespace Go.AM
variable {U:Uni} {P:Program} {cfg:Cfg U} {B:Base} {g:Gh} {a:Act} {w:World} {Γ:Known U} {ops:Array Oper}
def ZrT(cfg:Cfg U)(Γ:Known U)(ops:Array Oper):List Oper->FSt U->Option (List Fp)
 | [],_=> some []
 | o ::r,st=> match Z6i cfg Γ ops o st with
  | none=> none
  | some (_,e)=> match ZrT cfg Γ ops r (st.app o.dst e) with
   | none=> none
   | some l=> some (Zua Γ o st e ::l)
def Zty(ops:List Oper):Nat->Nat->Nat->Bool
 | 0,_,_=> false
 | n+1,k,h=> match ops[h]? with
  | none=> false
  | some o=> o.after.toList.any fun e=> Region.binds .any e && (Nat.beq e.on k || (Nat.blt k e.on && Zty ops n k e.on))
def ZeI:Nat->List Oper->Bool
 | _,[]=> true
 | i,o ::r=> (o.after.toList.all fun e=> !Region.binds .any e || Nat.blt e.on i) && ZeI (i+1) r
def ZwX(ops:Array Oper)(fps:List Fp)(k h:Nat):Bool:=
 Zty ops.toList 5 k h || match ops.toList[k]?,ops.toList[h]?,fps[k]?,fps[h]? with
  | some x,some y,some a,some b=> ZkO ops x y a b
  | _,_,_,_=> false
def Zqm(ops:Array Oper)(fps:List Fp):Bool:=
 (List.range ops.toList.length).all fun h=> (List.range h).all fun k=> ZwX ops fps k h
def Z00(cfg:Cfg U)(Γ:Known U)(ops:Array Oper)(st:FSt U):Bool:=
 match ZrT cfg Γ ops ops.toList st with
 | some fps=> ZeI 0 ops.toList && Zqm ops fps
 | none=> false
inductive Run (cfg:Cfg U) (Γ:Known U) (ops:Array Oper) (fp:Nat->Option Fp):List Nat->FSt U->FSt U->Prop
 | nil (st):Run cfg Γ ops fp [] st st
 | cons (i l st st' o ps e):ops[i]?=some o->Z6i cfg Γ ops o st=some (ps,e)->All ps->fp i=some (Zua Γ o st e)->Run cfg Γ ops fp l (st.app o.dst e) st'->Run cfg Γ ops fp (i ::l) st st'
theorem Zd2{fps:List Fp}:∀ (l:List Oper) (k:Nat) (st st':FSt U) (ps:List Prop) (fl:List Fp),(∀ j,l[j]?=ops[k+j]?)->(∀ j,fl[j]?=fps[k+j]?)->Zhp cfg Γ ops false l st=some (ps,st')->All ps->ZrT cfg Γ ops l st=some fl->
  Run cfg Γ ops (fun i=> fps[i]?) (List.range' k l.length) st st'
 | [],k,st,st',ps,fl,_,_,h,_,_=> by
  simp only [Zhp,oP] at h
  obtain ⟨_,rfl⟩:=h
  exact .nil st
 | o ::l,k,st,st',ps,fl,hl,hf,h,hps,hfl=> by
  rw [ZcP] at h
  simp only [ZFs] at h
  simp only [ZrT] at hfl
  split at h
  .cases h
  .rename_i ab e1 h1
   rw [h1] at hfl
   simp only at hfl
   split at h
   .cases h
   .rename_i qs ai h2
    split at hfl
    .cases hfl
    .rename_i aa s
     simp only [oP] at h hfl
     obtain ⟨rfl,rfl⟩:=h
     subst hfl
     obtain ⟨u,ae⟩:=All.append hps
     rw [Qm,List.range'_succ]
     refine .cons k _ st _ o ab e1 ?_ h1 u ?_ ?_
     .have:=hl 0;grind
     .have:=hf 0;grind
     .exact Zd2 l (k+1) _ _ qs aa (fun j=> by have:=hl (j+1);grind) (fun j=> by have:=hf (j+1);grind) h2 ae s
def ZHN(ops:Array Oper)(fp:Nat->Option Fp)(k h:Nat):Prop:=∃ x y p q,ops[k]?=some x/\ops[h]?=some y/\fp k=some p/\fp h=some q/\ZkO ops x y p q=true
theorem ZKi{fp:Nat->Option Fp}{h:Nat}{post:List Nat}:∀ (pre:List Nat) (st st':FSt U),Run cfg Γ ops fp (pre++h ::post) st st'->(∀ k∈pre,ZHN ops fp k h)->
  ∃ o ps e,ops[h]?=some o/\Z6i cfg Γ ops o st=some (ps,e)/\All ps/\fp h=some (Zua Γ o st e)/\Run cfg Γ ops fp (pre++post) (st.app o.dst e) st'
 | [],st,st',hr,_=> by
  cases hr with
  | cons _ _ _ _ o ps e h1 h2 h3 h4 h5=> grind
 | k ::pre,st,st',hr,hf=> by
  cases hr with
  | cons _ _ _ _ x ps e h1 h2 h3 h4 h5=>
   obtain ⟨y,qs,f,h6,h7,h8,h9,ao⟩:=ZKi pre _ st' h5 (fun j hj=> hf j (by simp [hj]))
   obtain ⟨x',y',p,q,g1,g2,g3,g4,g5⟩:=hf k (by simp)
   rw [h1] at g1
   rw [h6] at g2
   rw [h4] at g3
   rw [h9] at g4
   cases g1;cases g2;cases g3;cases g4
   simp only [ZkO,Q6,QX] at g5
   obtain ⟨⟨⟨⟨⟨⟨⟨⟨⟨⟨⟨⟨⟨a1,a2⟩,a3⟩,a4⟩,a5⟩,a6⟩,a7⟩,b3⟩,b4⟩,b5⟩,b6⟩,b7⟩,b8⟩,b9⟩:=g5
   simp only [Zua] at a3 a4 a5 a6 a7 b3 b4 b5 b6 b7 b8 b9
   have ty:touch y (st.app x.dst e)=touch y st:=by
    refine Z6o (ops:=ops) fun t u=> ?_
    obtain ⟨b1,_,_⟩:=Oper.apart_spec a1
    cases hd:x.dst with
    | none=> rfl
    | some d=>
     have s:t≠d:=fun e=> b1 d hd (e▸u)
     have:Nat.beq t d=false:=by
      cases hb:Nat.beq t d with
      | false=> rfl
      | true=> exact absurd (Qe hb) s
     simp [FSt.app,FSt.put,this]
   rw [ty] at a3
   have ae:touchT y (st.app x.dst e)=touchT y st:=by
    refine Z9S (ops:=ops) fun t u=> ?_
    obtain ⟨b1,_,_⟩:=Oper.apart_spec a1
    cases hd:x.dst with
    | none=> rfl
    | some d=>
     have s:t≠d:=fun e=> b1 d hd (e▸u)
     have:Nat.beq t d=false:=by
      cases hb:Nat.beq t d with
      | false=> rfl
      | true=> exact absurd (Qe hb) s
     simp [FSt.app,FSt.put,this]
   rw [ae] at b3
   have af:Z10 Γ y (st.app x.dst e)=Z10 Γ y st:=by
    refine Z8X (ops:=ops) fun t u=> ?_
    obtain ⟨b1,_,_⟩:=Oper.apart_spec a1
    cases hd:x.dst with
    | none=> rfl
    | some d=>
     have s:t≠d:=fun e=> b1 d hd (e▸u)
     have:Nat.beq t d=false:=by
      cases hb:Nat.beq t d with
      | false=> rfl
      | true=> exact absurd (Qe hb) s
     simp [FSt.app,FSt.put,this]
   rw [af] at b8
   have ay:=Zj2 (st:=st) (e:=e) a1 a3 a6 b3 b6 (by simpa using b8)
   have hy:Z6i cfg Γ ops y st=some (qs,f):=by rw [<-h7];exact (ZdM ay).symm
   have tx:touch x (st.app y.dst f)=touch x st:=by
    refine Z6o (ops:=ops) fun t u=> ?_
    obtain ⟨b1,_,_⟩:=Oper.apart_spec a2
    cases hd:y.dst with
    | none=> rfl
    | some d=>
     have s:t≠d:=fun e=> b1 d hd (e▸u)
     have:Nat.beq t d=false:=by
      cases hb:Nat.beq t d with
      | false=> rfl
      | true=> exact absurd (Qe hb) s
     simp [FSt.app,FSt.put,this]
   have ai:touchT x (st.app y.dst f)=touchT x st:=by
    refine Z9S (ops:=ops) fun t u=> ?_
    obtain ⟨b1,_,_⟩:=Oper.apart_spec a2
    cases hd:y.dst with
    | none=> rfl
    | some d=>
     have s:t≠d:=fun e=> b1 d hd (e▸u)
     have:Nat.beq t d=false:=by
      cases hb:Nat.beq t d with
      | false=> rfl
      | true=> exact absurd (Qe hb) s
     simp [FSt.app,FSt.put,this]
   have am:Z10 Γ x (st.app y.dst f)=Z10 Γ x st:=by
    refine Z8X (ops:=ops) fun t u=> ?_
    obtain ⟨b1,_,_⟩:=Oper.apart_spec a2
    cases hd:y.dst with
    | none=> rfl
    | some d=>
     have s:t≠d:=fun e=> b1 d hd (e▸u)
     have:Nat.beq t d=false:=by
      cases hb:Nat.beq t d with
      | false=> rfl
      | true=> exact absurd (Qe hb) s
     simp [FSt.app,FSt.put,this]
   have ax:=Zj2 (st:=st) (e:=f) a2 a4 a7 b4 b7 (by simpa using b9)
   have hx:Z6i cfg Γ ops x (st.app y.dst f)=some (ps,e):=by rw [<-h2];exact ZdM ax
   refine ⟨y,qs,f,h6,hy,h8,by rw [h9];simp only [Zua,ty,ae,af],?_⟩
   refine .cons k _ _ _ x ps e h1 hx h3 ?_ ?_
   .rw [h4];simp only [Zua,tx,ai,am]
   .rw [<-ZzF a1 a5 b5];exact ao
theorem Zde{listed:Array Bool}(hdown:∀ j o,ops[j]?=some o->listed.getD j false=true->∀ e∈o.after,Region.binds .any e=true->listed.getD e.on false=true):∀ (n k h:Nat) (o:Oper),ops[h]?=some o->
  (∀ e∈o.after,Region.binds .any e=true->listed.getD e.on false=true)->Zty ops.toList n k h=true->listed.getD k false=true
 | 0,k,h,o,_,_,u=> by trivial
 | n+1,k,h,o,ho,hr,u=> by
  have ab:ops.toList[h]?=some o:=by simpa using ho
  simp only [Zty,ab,K6] at u
  obtain ⟨e,he,u⟩:=u
  simp only [Q6,XC] at u
  obtain ⟨h1,s⟩:=u
  have aa:e∈o.after:=by simpa using he
  have hl:=hr e aa h1
  rcases s with s | ⟨_,s⟩
  .rw [<-Qe s];exact hl
  .cases hoe:ops[e.on]? with
   | none=>
    have:ops.toList[e.on]?=none:=by simpa using hoe
    cases n with
    | zero=> trivial
    | succ n=> simp [Zty,this] at s
   | some o2=> exact Zde hdown n k e.on o2 hoe (hdown e.on o2 hoe hl) s
theorem ZkQ(l:List Oper):∀ (i:Nat),ZeI i l=true->∀ (j:Nat) (o:Oper),l[j]?=some o->∀ e∈o.after,Region.binds .any e=true->e.on < i+j:=by
 induction l with
 | nil=> grind
 | cons o l ih=>
  intro i h j o' s e u hb
  simp only [ZeI,Q6] at h
  cases j with
  | zero=>
   simp at s
   subst s
   have:=QD.1 h.1 e (by simpa using u)
   simp_all
  | succ j=>
   grind
theorem Zja (ok:CfgOk P cfg) (hΓ:∀ f s,Γ f=some s->Contract P cfg f s) {fp:Nat->Option Fp} {Q:Exit->Act->World->Prop} {st':FSt U}
  (hedge:∀ (j:Nat) o,ops[j]?=some o->∀ e∈o.after,Region.binds .any e=true->e.on < j)
  (hpair:∀ k h,k < h->h < ops.size->Zty ops.toList 5 k h=true\/ZHN ops fp k h)
  (hQ:∀ g' a' w',Rel cfg B st' g' a' w'->Q .normal a' w'):∀ (aa:Nat) (l:List Nat) (listed:Array Bool) (st:FSt U) (g:Gh) (a:Act) (w:World),
   l.length<=aa->l.Pairwise (· < ·)->listed.size=ops.size->(∀ i,i < ops.size->(listed.getD i false=false↔i∈l))->(∀ i∈l,i < ops.size)->
   (∀ j o,ops[j]?=some o->listed.getD j false=true->∀ e∈o.after,Region.binds .any e=true->listed.getD e.on false=true)->
   Run cfg Γ ops fp l st st'->Rel cfg B st g a w->wpAny P .any ops Q aa listed a w:=by
 intro aa
 have al:∀ (listed:Array Bool) i,listed.size=ops.size->i < ops.size->listed.getD i true=listed.getD i false:=by
  intro listed i hs hi
  simp [Array.getD,hs,hi]
 have done:∀ (l:List Nat) (listed:Array Bool),l.Pairwise (· < ·)->listed.size=ops.size->(∀ i,i < ops.size->(listed.getD i false=false↔i∈l))->(∀ i∈l,i < ops.size)->Region.ready .any ops listed=[]->l=[]:=by
  intro l listed u ah hl aj hr
  cases l with
  | nil=> rfl
  | cons i l=>
   exfalso
   have hi:=aj i (by simp)
   have bc:i∈Region.ready .any ops listed:=by
    rw [mem_ready]
    refine ⟨by grind,ops[i],QY hi,fun e he hb=> ?_⟩
    have h1:=hedge i _ (QY hi) e he hb
    cases hx:listed.getD e.on false with
    | true=> rfl
    | false=>
     have:=(hl e.on JX).1 hx
     rcases Qa.1 this with h2 | h2
     .omega
     .have:=(List.pairwise_cons.1 u).1 _ h2
      omega
   grind
 induction aa with
 | zero=>
  intro l listed st g a w az u ah hl aj ab af ak
  have h0:l=[]:=Q5 JX
  subst h0
  cases af
  refine ⟨?_,hQ g a w ak⟩
  cases hr:Region.ready .any ops listed with
  | nil=> rfl
  | cons i r=>
   have hm:i∈Region.ready .any ops listed:=by rw [hr];simp
   obtain ⟨h1,o,ho,_⟩:=mem_ready.1 hm
   grind
 | succ aa ih=>
  intro l listed st g a w az u ah hl aj ab af ak
  refine ⟨fun hr=> ?_,fun i hi=> ?_⟩
  .have h0:=done l listed u ah hl aj hr
   subst h0
   cases af
   grind
  .obtain ⟨h1,o,ho,ae⟩:=mem_ready.1 hi
   have ai:=(QV.1 ho).1
   rw [al listed i ah ai] at h1
   have a7:=(hl i ai).1 h1
   obtain ⟨pre,post,rfl⟩:=List.append_of_mem a7
   have ay:∀ k∈pre,ZHN ops fp k i:=by
    intro k hk
    have a6:k < i:=by
     have:=List.pairwise_append.1 u
     exact this.2.2 k hk i (by simp)
    rcases hpair k i a6 ai with h2 | h2
    .have h3:=Zde ab 5 k i o ho ae h2
     grind
    .exact h2
   obtain ⟨o',ps,e,h2,h3,h4,_,h6⟩:=ZKi pre st st' af ay
   rw [ho] at h2
   cases h2
   unfold wpOp
   simp only [ho]
   have aq:=ZdL (K:=wpAny P .any ops Q aa (listed.setIfInBounds i true)) (Q:=Q) ok hΓ ak h3 h4 (by
    intro g' a' w' ar
    refine ih (pre++post) (listed.setIfInBounds i true) _ g' a' w' ?_ ?_ ?_ ?_ ?_ ?_ h6 ar
    .grind
    .exact u.sublist (List.Sublist.append_left (List.sublist_cons_self i post) pre)
    .simp [ah]
    .intro j hj
     by_cases hij:i=j
     .subst hij
      have a8:i∉pre++post:=by
       have hp:=List.pairwise_append.1 u
       intro hm
       rcases Qj.1 hm with hm | hm
       .grind
       .have:=(List.pairwise_cons.1 hp.2.1).1 i hm;omega
      simp [Array.getD,ah,hj,a8]
     .rw [getD_set_ne false hij,hl j hj]
      grind
    .intro j hj
     exact aj j (by
      grind)
    .intro j oj ao ax e he hb
     by_cases hij:i=j
     .subst hij
      rw [ho] at ao
      cases ao
      exact getD_set_true (ae e he hb)
     .rw [getD_set_ne false hij] at ax
      exact getD_set_true (ab j oj ao ax e he hb))
   split at aq
   .grind
   grind
theorem Z1E(ok:CfgOk P cfg)(hΓ:∀ f s,Γ f=some s->Contract P cfg f s):Z8E P cfg Γ (Z00 cfg Γ):=by
 intro B st aj g a w id ops ps Q hd u ah al hQ
 unfold Z00 at hd
 split at hd
 case h_2=> cases hd
 rename_i fps hf
 simp only [Q6] at hd
 obtain ⟨ak,ab⟩:=hd
 refine wp_region_any ok.mixed ?_
 have hR:=Zd2 (ops:=ops) (fps:=fps) ops.toList 0 st aj ps fps (fun j=> by simp) (fun j=> by simp) ah al hf
 have ae:Rel cfg B st g a { w with drawn:=w.drawn+1 }:=by
  have hc:∀ b,({ w with drawn:=w.drawn+1 }:World).cell? b=w.cell? b:=fun _=> rfl
  exact ⟨⟨fun c v hv=> u.inv.im c v hv,fun c t ht=> u.inv.it c t ht⟩,
   ⟨⟨u.fr.stay.os,u.fr.stay.tape,u.fr.stay.output,u.fr.stay.size⟩,u.fr.xad,u.fr.mono,u.fr.outer,u.fr.outer',u.fr.clean,u.fr.frz⟩,u.env,u.mem,u.sz,u.df,fun t x hx=> u.ls t x hx,u.fresh⟩
 refine Zja (fp:=fun i=> fps[i]?) ok hΓ ?_ ?_ hQ ops.size (List.range' 0 ops.toList.length) _ st g a _ (by simp) List.pairwise_lt_range' (by simp) ?_ ?_ ?_ hR ae
 .intro j o ho e he hb
  have:=ZkQ ops.toList 0 ak j o (by simpa using ho) e he hb
  omega
 .intro k h a3 hh
  unfold Zqm at ab
  rw [QD] at ab
  have h1:=ab h (by simpa using hh)
  rw [QD] at h1
  have h2:=h1 k (by grind)
  unfold ZwX at h2
  rw [XC] at h2
  rcases h2 with h2 | h2
  .exact .inl h2
  .right
   split at h2
   .rename_i x y p q hx hy hp hq
    exact ⟨x,y,p,q,by simpa using hx,by simpa using hy,hp,hq,h2⟩
   .cases h2
 .simp_all
 .grind
 .intro j o ho hl
  have hj:=(QV.1 ho).1
  simp_all
end Go.AM
namespace Go.AM
variable {U:Uni} {P:Program}
def Z7a{α:Type}:List (Nat × α)->Nat->Option α
 | [],_=> none
 | (a,x) ::r,t=> bif Nat.beq a t then some x else Z7a r t
theorem Z4X{α:Type}:∀ {l:List (Nat × α)} {t:Nat} {x:α},Z7a l t=some x->(t,x)∈l
 | (a,y) ::r,t,x,h=> by
  simp only [Z7a] at h
  cases hb:Nat.beq a t with
  | true=>
   simp_all
  | false=> simp [hb] at h;exact Q0 _ (Z4X h)
def ZqV:List (Nat × Nat × Nat × Nat)->Nat->Nat->Option (Nat × Nat)
 | [],_,_=> none
 | (a,b,x) ::r,t,f=> bif Nat.beq a t && Nat.beq b f then some x else ZqV r t f
theorem ZiF:∀ {l:List (Nat × Nat × Nat × Nat)} {t f:Nat} {x:Nat × Nat},ZqV l t f=some x->(t,f,x)∈l
 | (a,b,y) ::r,t,f,x,h=> by
  simp only [ZqV] at h
  cases hb:Nat.beq a t && Nat.beq b f with
  | true=>
   simp_all
  | false=> simp [hb] at h;exact Q0 _ (ZiF h)
structure Codec (U:Uni) where
 tyEq:DecidableEq U.Ty
 dflt:(T:U.Ty)->U.El T
 enc:(T:U.Ty)->U.El T->List (C U)
 dec:(T:U.Ty)->List (C U)->Option (U.El T)
 aggT:U.Ty->Bool
 sz:U.Ty->Nat
 bytes:U.Ty->Nat
structure CodecOk (K:Codec U):Prop where
 enc_len:∀ T x,(K.enc T x).length=K.sz T
 enc_plain:∀ T x c,c∈K.enc T x->c.plain=true
 dec_ok:∀ T cs x,K.dec T cs=some x->cs.length=(K.enc T x).length/\∀ (j:Nat) c c',cs[j]?=some c->(K.enc T x)[j]?=some c'->Wk c c'
 sz_pos:∀ T,0 < K.sz T
 bytes_pos:∀ T,0 < K.bytes T
structure Tables (U:Uni) where
 el:U.Ty->TypeId
 sl:List (Nat × U.Ty)
 var:List (Nat × Bool × List (C U))
 fld:List (Nat × Nat × Nat × Nat)
 arr:List (Nat × Nat × Nat)
 eqs:List Nat:=[]
def Tables.cfg(K:Codec U)(T:Tables U):Cfg U:=
 {tyEq:=K.tyEq,dflt:=K.dflt,enc:=K.enc,dec:=K.dec,aggT:=K.aggT,sz:=K.sz,bytes:=K.bytes,elT:=T.el,
  slT:=Z7a T.sl,var:=Z7a T.var,fld:=ZqV T.fld,arr:=Z7a T.arr,eqs:=fun t=> T.eqs.any (Nat.beq t) }
def ZGy:Option (C U)->C U->Bool
 | some (.int k n),.int k' n'=> k==k' && n==n'
 | some (.bool b),.bool b'=> b==b'
 | some .nils,.nils=> true
 | some .nilp,.nilp=> true
 | _,_=> false
theorem ZCc{x:Option (C U)}{c:C U}(h:ZGy x c=true):x=some c:=by
 unfold ZGy at h
 grind
def ZCb:List Value->List (C U)->Bool
 | [],[]=> true
 | v ::r,c ::s=> ZGy (Z0H v) c && ZCb r s
 | _,_=> false
theorem ZrU:∀ {vs:List Value} {cs:List (C U)},ZCb vs cs=true->vs.map Z0H=cs.map some
 | [],[],_=> rfl
 | v ::r,c ::s,h=> by
  simp only [ZCb,Q6] at h
  simp [ZCc h.1,ZrU h.2]
def ZuJ(ag:Bool)(z:Value)(zs:List (C U)):Bool:=
 (match z,ag with
  | .agg _,true=> true
  | .agg _,false=> false
  | .tuple _,_=> false
  | _,false=> true
  | _,true=> false) && ZCb z.cells.toList zs
theorem ZuI{ag:Bool}{z:Value}{zs:List (C U)}(h:ZuJ ag z zs=true):ZCt ag z zs:=by
 unfold ZuJ at h
 simp only [Q6] at h
 obtain ⟨h1,u⟩:=h
 refine ⟨fun s=> ?_,fun s=> ?_,ZrU u⟩
 .grind
 .subst s
  cases z <;> first | rfl | (simp at h1;done)
def ZrS:List (C U)->TypeDesc->Bool
 | [.int k _],.int k'=> k==k'
 | [.int _ _],_=> false
 | [.bool _],.bool=> true
 | [.bool _],_=> false
 | [.nilp],.pointer _=> true
 | [.nilp],_=> false
 | _,_=> true
def ZAi(P:Program)(x:Nat × Bool × List (C U)):Bool:=
 match P.info? x.1,P.underlying x.1 with
 | some i,some d=> (Nat.beq i.size x.2.2.length && Nat.blt 0 x.2.2.length) && (TypeDesc.ag d==x.2.1) &&
  (match i.zero with | some z=> ZuJ x.2.1 z x.2.2 | none=> false) && (x.2.1 || ZrS x.2.2 d) &&
  (match d with
   | .struct fs=> fs.toList.all fun fd=> (P.info? fd.type).isSome
   | .array _ e=> (P.info? e).isSome
   | _=> true)
 | _,_=> false
def slB(P:Program)(el:U.Ty->TypeId)(x:Nat × U.Ty):Bool:=
 match P.underlying x.1 with
 | some (.slice e)=> Nat.beq e (el x.2)
 | _=> false
def ZGx(P:Program)(x:Nat × Nat × Nat × Nat):Bool:=
 match P.underlying x.1 with
 | some (.struct fs)=> match fs.toList[x.2.1]? with
  | some fd=> Nat.beq fd.offset x.2.2.1 && Nat.beq fd.type x.2.2.2
  | none=> false
 | _=> false
def ZHJ(P:Program)(x:Nat × Nat × Nat):Bool:=
 match P.underlying x.1 with
 | some (.array n e)=> Nat.beq n x.2.1 && Nat.beq e x.2.2
 | _=> false
def eqK(P:Program)(z:Option (C U))(t:TypeId):Bool:=
 match z,P.underlying t with
 | some (.int _ _),some (.int _)=> true
 | some (.bool _),some .bool=> true
 | _,_=> false
def eqB(P:Program)(var:List (Nat × Bool × List (C U)))(t:Nat):Bool:=
 match P.underlying t with
 | some (.struct fs)=> (match Z7a var t with
   | some (_,zs)=> Nat.beq zs.length fs.size
   | none=> true) && !P.stoodInHeld t && !P.eqGuardType P.depth t &&
  ((List.range fs.size).all fun i=> match fs[i]? with
   | some f => f.name != "_" && Nat.beq f.offset i && (match Z7a var t with
    | some (_,zs)=> eqK P zs[i]? f.type
    | none=> true)
   | none=> false)
 | _=> false
def elB(P:Program)(K:Codec U)(T:Tables U)(t:U.Ty):Bool:=
 match P.info? (T.el t),Z7a T.var (T.el t) with
 | some i,some (_,zs)=> Nat.beq i.size (K.sz t) && Nat.beq i.bytes (K.bytes t) && i.zero.isSome && Nat.beq zs.length (K.sz t)
 | _,_=> false
theorem Zta {K:Codec U} (ck:CodecOk K) {T:Tables U} (hv:T.var.all (ZAi P)=true) (hs:T.sl.all (slB P T.el)=true) (hf:T.fld.all (ZGx P)=true) (ha:T.arr.all (ZHJ P)=true)
  (he:∀ t,elB P K T t=true) (hm:P.follows .mixedOrders=true) (hq:T.eqs.all (eqB P T.var)=true):CfgOk P (T.cfg K):=by
 refine ⟨ck.enc_len,ck.enc_plain,ck.dec_ok,ck.sz_pos,ck.bytes_pos,?_,?_,?_,?_,?_,hm,?_,?_⟩
 .intro t
  have h:=he t
  unfold elB at h
  split at h
  .rename_i i ag zs h1 h2
   simp only [Q6] at h
   obtain ⟨⟨⟨h3,h4⟩,u⟩,h6⟩:=h
   obtain ⟨z,hz⟩:=X4.1 u
   exact ⟨i,ag,zs,z,h1,Qe h3,Qe h4,hz,h2,Qe h6⟩
  .cases h
 .intro t S h
  have:=QD.1 hs _ (Z4X h)
  unfold slB at this
  simp only at this
  split at this
  .rename_i e hu
   rw [hu,Qe this];try rfl
  .cases this
 .intro t ag zs h
  have:=QD.1 hv _ (Z4X h)
  unfold ZAi at this
  simp only at this
  split at this
  .rename_i i d hi hu
   simp only [Q6] at this
   obtain ⟨⟨⟨⟨⟨h1,h2⟩,h3⟩,h4⟩,u⟩,h6⟩:=this
   split at h4
   .rename_i z hz
    refine ⟨Nat.blt_eq.mp h2,i,z,d,hi,hu,Qe h1,by simpa using h3,hz,ZuI h4,?_,?_,?_,?_⟩
    .intro aj k n af
     subst aj
     simp only [K2] at u
     subst af
     unfold ZrS at u
     split at u <;> simp_all
    .intro aj b af
     subst aj
     simp only [K2] at u
     subst af
     unfold ZrS at u
     split at u <;> simp_all
    .intro fs hd
     subst hd
     exact h6
    .intro n e hd
     subst hd
     exact h6
   .cases h4
  .cases this
 .intro s f ay t h
  have:=QD.1 hf _ (ZiF h)
  unfold ZGx at this
  simp only at this
  split at this
  .rename_i fs hu
   split at this
   .rename_i fd aw
    simp only [Q6] at this
    exact ⟨fs,fd,hu,by simpa using aw,Nat.eq_of_beq_eq_true this.1,Nat.eq_of_beq_eq_true this.2⟩
   .cases this
  .cases this
 .intro t n e h
  have:=QD.1 ha _ (Z4X h)
  unfold ZHJ at this
  simp only at this
  split at this
  .rename_i n' e' hu
   simp only [Q6] at this
   rw [hu,Qe this.1,Qe this.2]
  .cases this
 .intro t ht
  obtain ⟨t',h1,h2⟩:=K6.1 ht
  have e:=Qe h2
  subst e
  have h3:=QD.1 hq _ h1
  unfold eqB at h3
  split at h3
  .rename_i fs hu
   simp only [Q6,QX] at h3
   obtain ⟨⟨⟨h4,u⟩,h6⟩,h7⟩:=h3
   refine ⟨fs,hu,fun ag zs hz=> ?_,u,h6,fun i f hf=> ?_⟩
   .have ah:Z7a T.var t=some (ag,zs):=hz
    rw [ah] at h4
    exact Qe h4
   .have hi:=(QV.1 hf).1
    have h8:=QD.1 h7 i (by simpa using hi)
    rw [hf] at h8
    simp only [Q6,bne_iff_ne,ne_eq] at h8
    refine ⟨h8.1.1,Qe h8.1.2,fun ag zs hz=> ?_⟩
    have h9:=h8.2
    have ah:Z7a T.var t=some (ag,zs):=hz
    rw [ah] at h9
    dsimp only at h9
    unfold eqK at h9
    split at h9
    .rename_i e1 e2
     exact ⟨fun _ _ _=> ⟨_,e2⟩,fun _ h=> by (rw [e1] at h;cases h)⟩
    .rename_i e1 e2
     exact ⟨fun _ _ h=> by (rw [e1] at h;cases h),fun _ _=> e2⟩
    .cases h9
  .cases h3
 .intro t h
  have:=QD.1 hv _ (Z4X h)
  unfold ZAi at this
  simp only at this
  split at this
  .rename_i i d hi hu
   simp only [Q6] at this
   obtain ⟨⟨_,u⟩,_⟩:=this
   cases d <;> first | exact ⟨_,hu⟩ | (simp [ZrS] at u;done)
  .cases this
end Go.AM
namespace Go.AM
structure WEdit where
 at_:Int
 mask:Int
 old:Int
 new:Int
inductive Tree where
 | mk (kind:Int) (words:List Int) (kids:List Tree)
def Tree.kind:Tree->Int | .mk k _ _=> k
def Tree.words:Tree->List Int | .mk _ w _=> w
def Tree.kids:Tree->List Tree | .mk _ _ k=> k
@[simp] theorem Tree.eta (t:Tree):Tree.mk t.kind t.words t.kids=t:=by cases t;rfl
@[simp] theorem Tree.kind_mk (k:Int) (w:List Int) (ks:List Tree):(Tree.mk k w ks).kind=k:=rfl
@[simp] theorem Tree.words_mk (k:Int) (w:List Int) (ks:List Tree):(Tree.mk k w ks).words=w:=rfl
@[simp] theorem Tree.kids_mk (k:Int) (w:List Int) (ks:List Tree):(Tree.mk k w ks).kids=ks:=rfl
structure KidOf (E:Type) where
 at_:Int
 e:E
structure OpOf (E:Type) where
 kind:Int
 n:Int
 l:List Tree
 e:E
inductive Edit where
 | mk (kind:Int) (old new:Tree) (words:List WEdit) (kids:List (KidOf Edit)) (list:Int) (ops:List (OpOf Edit))
abbrev Kid:=KidOf Edit
abbrev Op:=OpOf Edit
def Edit.kind:Edit->Int | .mk k _ _ _ _ _ _=> k
def Edit.old:Edit->Tree | .mk _ o _ _ _ _ _=> o
def Edit.new:Edit->Tree | .mk _ _ n _ _ _ _=> n
def Edit.words:Edit->List WEdit | .mk _ _ _ w _ _ _=> w
def Edit.kids:Edit->List Kid | .mk _ _ _ _ k _ _=> k
def Edit.list:Edit->Int | .mk _ _ _ _ _ l _=> l
def Edit.ops:Edit->List Op | .mk _ _ _ _ _ _ o=> o
@[simp] theorem Edit.eta (e:Edit):Edit.mk e.kind e.old e.new e.words e.kids e.list e.ops=e:=by cases e;rfl
section
variable (k:Int) (o n:Tree) (w:List WEdit) (ks:List Kid) (l:Int) (os:List Op)
@[simp] theorem Edit.kind_mk:(Edit.mk k o n w ks l os).kind=k:=rfl
@[simp] theorem Edit.old_mk:(Edit.mk k o n w ks l os).old=o:=rfl
@[simp] theorem Edit.new_mk:(Edit.mk k o n w ks l os).new=n:=rfl
@[simp] theorem Edit.words_mk:(Edit.mk k o n w ks l os).words=w:=rfl
@[simp] theorem Edit.kids_mk:(Edit.mk k o n w ks l os).kids=ks:=rfl
@[simp] theorem Edit.list_mk:(Edit.mk k o n w ks l os).list=l:=rfl
@[simp] theorem Edit.ops_mk:(Edit.mk k o n w ks l os).ops=os:=rfl
end
def Tree.nil:Tree:= .mk 0 [] []
def Edit.nil:Edit:= .mk 0 Tree.nil Tree.nil [] [] 0 []
def Op.nil:Op:=⟨0,0,[],Edit.nil⟩
structure AUnit where
 step:Int
 kind:Int
 t:Tree
 e:Edit
 alone:Bool
def AUnit.nil:AUnit:=⟨0,0,Tree.nil,Edit.nil,false⟩
structure PStep where
 kind:Int
 at_:Int
structure Piece where
 of:Int
 p:Op
 q:Op
structure APair where
 of:Int
 p:AUnit
 q:AUnit
structure LeftE where
 x:Edit
 y:Edit
 clash:Bool
 apart:Bool
structure Deed where
 kind:Int
 i:Int
 e:Edit
structure HDeed where
 kind:Int
 who:Int
 version:Int
 e:Edit
inductive Ty where
 | u64 | u8 | int | tree | wedit | edit | kid | op | piece | unit | pair | left | deed | hdeed
 deriving DecidableEq
@[reducible] def El:Ty->Type
 | .u64=> Int
 | .u8=> Int
 | .int=> Int
 | .tree=> Tree
 | .wedit=> WEdit
 | .edit=> Edit
 | .kid=> Kid
 | .op=> Op
 | .piece=> Piece
 | .unit=> AUnit
 | .pair=> APair
 | .left=> LeftE
 | .deed=> Deed
 | .hdeed=> HDeed
@[reducible] def U:Uni:={ Ty:=Ty,El:=El }
abbrev sl(T:Ty)(l:List (El T)):C U:= .slice (U:=U) T l .unk
def ZEA(x:Tree):List (C U):=[.int .i64 x.kind,sl .u64 x.words,sl .tree x.kids]
def Zz2(x:WEdit):List (C U):=[.int .i64 x.at_,.int .u8 x.mask,.int .u64 x.old,.int .u64 x.new]
def ZED(x:Edit):List (C U):=[.int .i64 x.kind,.int .i64 x.old.kind,sl .u64 x.old.words,sl .tree x.old.kids,.int .i64 x.new.kind,sl .u64 x.new.words,sl .tree x.new.kids,sl .wedit x.words,sl .kid x.kids,.int .i64 x.list,sl .op x.ops]
def ZKD(x:Kid):List (C U):=[.int .i64 x.at_,.int .i64 x.e.kind,.int .i64 x.e.old.kind,sl .u64 x.e.old.words,sl .tree x.e.old.kids,.int .i64 x.e.new.kind,sl .u64 x.e.new.words,sl .tree x.e.new.kids,sl .wedit x.e.words,sl .kid x.e.kids,.int .i64 x.e.list,sl .op x.e.ops]
def eOp(x:Op):List (C U):=[.int .i64 x.kind,.int .i64 x.n,sl .tree x.l,.int .i64 x.e.kind,.int .i64 x.e.old.kind,sl .u64 x.e.old.words,sl .tree x.e.old.kids,.int .i64 x.e.new.kind,sl .u64 x.e.new.words,sl .tree x.e.new.kids,sl .wedit x.e.words,sl .kid x.e.kids,.int .i64 x.e.list,sl .op x.e.ops]
def Zz3(x:Piece):List (C U):=[.int .i64 x.of,.int .i64 x.p.kind,.int .i64 x.p.n,sl .tree x.p.l,.int .i64 x.p.e.kind,.int .i64 x.p.e.old.kind,sl .u64 x.p.e.old.words,sl .tree x.p.e.old.kids,.int .i64 x.p.e.new.kind,sl .u64 x.p.e.new.words,sl .tree x.p.e.new.kids,sl .wedit x.p.e.words,sl .kid x.p.e.kids,.int .i64 x.p.e.list,sl .op x.p.e.ops,.int .i64 x.q.kind,.int .i64 x.q.n,sl .tree x.q.l,.int .i64 x.q.e.kind,.int .i64 x.q.e.old.kind,sl .u64 x.q.e.old.words,sl .tree x.q.e.old.kids,.int .i64 x.q.e.new.kind,sl .u64 x.q.e.new.words,sl .tree x.q.e.new.kids,sl .wedit x.q.e.words,sl .kid x.q.e.kids,.int .i64 x.q.e.list,sl .op x.q.e.ops]
def ZEz(x:AUnit):List (C U):=[.int .i64 x.step,.int .i64 x.kind,.int .i64 x.t.kind,sl .u64 x.t.words,sl .tree x.t.kids,.int .i64 x.e.kind,.int .i64 x.e.old.kind,sl .u64 x.e.old.words,sl .tree x.e.old.kids,.int .i64 x.e.new.kind,sl .u64 x.e.new.words,sl .tree x.e.new.kids,sl .wedit x.e.words,sl .kid x.e.kids,.int .i64 x.e.list,sl .op x.e.ops,.bool x.alone]
def ZEB(x:APair):List (C U):=[.int .i64 x.of,.int .i64 x.p.step,.int .i64 x.p.kind,.int .i64 x.p.t.kind,sl .u64 x.p.t.words,sl .tree x.p.t.kids,.int .i64 x.p.e.kind,.int .i64 x.p.e.old.kind,sl .u64 x.p.e.old.words,sl .tree x.p.e.old.kids,.int .i64 x.p.e.new.kind,sl .u64 x.p.e.new.words,sl .tree x.p.e.new.kids,sl .wedit x.p.e.words,sl .kid x.p.e.kids,.int .i64 x.p.e.list,sl .op x.p.e.ops,.bool x.p.alone,.int .i64 x.q.step,.int .i64 x.q.kind,.int .i64 x.q.t.kind,sl .u64 x.q.t.words,sl .tree x.q.t.kids,.int .i64 x.q.e.kind,.int .i64 x.q.e.old.kind,sl .u64 x.q.e.old.words,sl .tree x.q.e.old.kids,.int .i64 x.q.e.new.kind,sl .u64 x.q.e.new.words,sl .tree x.q.e.new.kids,sl .wedit x.q.e.words,sl .kid x.q.e.kids,.int .i64 x.q.e.list,sl .op x.q.e.ops,.bool x.q.alone]
def ZEC(x:LeftE):List (C U):=[.int .i64 x.x.kind,.int .i64 x.x.old.kind,sl .u64 x.x.old.words,sl .tree x.x.old.kids,.int .i64 x.x.new.kind,sl .u64 x.x.new.words,sl .tree x.x.new.kids,sl .wedit x.x.words,sl .kid x.x.kids,.int .i64 x.x.list,sl .op x.x.ops,.int .i64 x.y.kind,.int .i64 x.y.old.kind,sl .u64 x.y.old.words,sl .tree x.y.old.kids,.int .i64 x.y.new.kind,sl .u64 x.y.new.words,sl .tree x.y.new.kids,sl .wedit x.y.words,sl .kid x.y.kids,.int .i64 x.y.list,sl .op x.y.ops,.bool x.clash,.bool x.apart]
def ZEE(x:Deed):List (C U):=[.int .i64 x.kind,.int .i64 x.i,.int .i64 x.e.kind,.int .i64 x.e.old.kind,sl .u64 x.e.old.words,sl .tree x.e.old.kids,.int .i64 x.e.new.kind,sl .u64 x.e.new.words,sl .tree x.e.new.kids,sl .wedit x.e.words,sl .kid x.e.kids,.int .i64 x.e.list,sl .op x.e.ops]
def Zz4(x:HDeed):List (C U):=[.int .i64 x.kind,.int .i64 x.who,.int .i64 x.version,.int .i64 x.e.kind,.int .i64 x.e.old.kind,sl .u64 x.e.old.words,sl .tree x.e.old.kids,.int .i64 x.e.new.kind,sl .u64 x.e.new.words,sl .tree x.e.new.kids,sl .wedit x.e.words,sl .kid x.e.kids,.int .i64 x.e.list,sl .op x.e.ops]
def enc:(T:Ty)->El T->List (C U)
 | .u64,n=> [.int .u64 n]
 | .u8,n=> [.int .u8 n]
 | .int,n=> [.int .i64 n]
 | .tree,x=> ZEA x
 | .wedit,x=> Zz2 x
 | .edit,x=> ZED x
 | .kid,x=> ZKD x
 | .op,x=> eOp x
 | .piece,x=> Zz3 x
 | .unit,x=> ZEz x
 | .pair,x=> ZEB x
 | .left,x=> ZEC x
 | .deed,x=> ZEE x
 | .hdeed,x=> Zz4 x
abbrev Rd(α:Type):=List (C U)->Option (α × List (C U))
def Z2Q(k:IntKind):Rd Int
 | .int k' n ::r=> if k=k' then some (n,r) else none
 | _=> none
def Zm2:Rd Bool
 | .bool b ::r=> some (b,r)
 | _=> none
def rSl(T:Ty):Rd (List (El T))
 | .nils ::r=> some ([],r)
 | .slice S l _ ::r=> match (inferInstance:DecidableEq Ty) S T with
  | isTrue h=> some (h▸l,r)
  | isFalse _=> none
 | _=> none
def Yc{α β:Type}(x:Rd α)(f:α->Rd β):Rd β:=fun cs=> match x cs with
 | some (a,r)=> f a r
 | none=> none
def Z6R{α:Type}(a:α):Rd α:=fun cs=> some (a,cs)
def WkL:List (C U)->List (C U)->Prop
 | [],[]=> True
 | c ::r,c' ::r'=> Wk c c'/\WkL r r'
 | _,_=> False
theorem WkL.append:∀ {a b c d:List (C U)},WkL a b->WkL c d->WkL (a++c) (b++d)
 | [],[],_,_,_,h=> h
 | _ ::_,_ ::_,_,_,h,k=> ⟨h.1,WkL.append h.2 k⟩
theorem WkL.get:∀ {a b:List (C U)},WkL a b->a.length=b.length/\∀ (j:Nat) c u,a[j]?=some c->b[j]?=some u->Wk c u
 | [],[],_=> ⟨rfl,fun j c u h=> by simp at h⟩
 | x ::a,y ::b,h=> by
  obtain ⟨h1,h2⟩:=WkL.get h.2
  refine ⟨by simp [h1],fun j c u hc s=> ?_⟩
  cases j with
  | zero=> simp at hc s;subst hc s;exact h.1
  | succ j=> exact h2 j c u (by simpa using hc) (by simpa using s)
def Z2G{α:Type}(r:Rd α)(e:α->List (C U)):Prop:=∀ cs x rest,r cs=some (x,rest)->∃ p,cs=p++rest/\WkL p (e x)
theorem ZR(k:IntKind):Z2G (Z2Q k) fun n=> [.int k n]:=by
 intro cs x s h
 unfold Z2Q at h
 split at h
 .split at h
  .rename_i u
   subst u
   cases h
   exact ⟨[_],rfl,.int _ _,trivial⟩
  .cases h
 .cases h
theorem Z9i:Z2G Zm2 fun b=> [.bool b]:=by
 intro cs x s h
 unfold Zm2 at h
 split at h
 .cases h;exact ⟨[_],rfl,.bool _,trivial⟩
 .cases h
theorem Z3w(T:Ty):Z2G (rSl T) fun l=> [sl T l]:=by
 intro cs x u h
 unfold rSl at h
 split at h
 .cases h;exact ⟨[_],rfl,(Wk.snil (U:=U) T:Wk (U:=U) .nils (.slice T [] .unk)),trivial⟩
 .split at h
  .rename_i s _
   subst s
   cases h
   exact ⟨[_],rfl,.slice _ _ _,trivial⟩
  .cases h
 .cases h
theorem Yj{α β:Type}{x:Rd α}{f:α->Rd β}{ex:α->List (C U)}(hx:Z2G x ex){cs:List (C U)}{b:β}{rest:List (C U)}(h:Yc x f cs=some (b,rest)):
  ∃ a p r,cs=p++r/\WkL p (ex a)/\f a r=some (b,rest):=by
 unfold Yc at h
 split at h
 .rename_i a r u
  obtain ⟨p,rfl,s⟩:=hx _ _ _ u
  exact ⟨a,p,r,rfl,s,h⟩
 .cases h
def Zm1:Rd Tree:=Yc (Z2Q .i64) fun x0=> Yc (rSl .u64) fun s=> Yc (rSl .tree) fun h=> Z6R (Tree.mk x0 s h)
theorem Z5L:Z2G Zm1 ZEA:=by
 intro cs x s h
 obtain ⟨x0,p0,r0,rfl,w0,h⟩:=Yj (ZR _) h
 obtain ⟨x1,u,r1,rfl,w1,h⟩:=Yj (Z3w _) h
 obtain ⟨x2,p2,r2,rfl,w2,h⟩:=Yj (Z3w _) h
 cases h
 exact ⟨p0++(u++(p2)),by simp,w0.append (w1.append (w2))⟩
def ZwF:Rd WEdit:=Yc (Z2Q .i64) fun x0=> Yc (Z2Q .u8) fun u=> Yc (Z2Q .u64) fun h=> Yc (Z2Q .u64) fun s=> Z6R (WEdit.mk x0 u h s)
theorem ZlX:Z2G ZwF Zz2:=by
 intro cs x s h
 obtain ⟨x0,p0,r0,rfl,w0,h⟩:=Yj (ZR _) h
 obtain ⟨x1,u,r1,rfl,w1,h⟩:=Yj (ZR _) h
 obtain ⟨x2,p2,r2,rfl,w2,h⟩:=Yj (ZR _) h
 obtain ⟨x3,p3,r3,rfl,w3,h⟩:=Yj (ZR _) h
 cases h
 exact ⟨p0++(u++(p2++(p3))),by simp,w0.append (w1.append (w2.append (w3)))⟩
def ZaG:Rd Edit:=Yc (Z2Q .i64) fun x0=> Yc Zm1 fun x1=> Yc Zm1 fun x2=> Yc (rSl .wedit) fun h=> Yc (rSl .kid) fun u=> Yc (Z2Q .i64) fun s=> Yc (rSl .op) fun x6=> Z6R (Edit.mk x0 x1 x2 h u s x6)
theorem Z0k:Z2G ZaG ZED:=by
 intro cs x s h
 obtain ⟨x0,p0,r0,rfl,w0,h⟩:=Yj (ZR _) h
 obtain ⟨x1,u,r1,rfl,w1,h⟩:=Yj Z5L h
 obtain ⟨x2,p2,r2,rfl,w2,h⟩:=Yj Z5L h
 obtain ⟨x3,p3,r3,rfl,w3,h⟩:=Yj (Z3w _) h
 obtain ⟨x4,p4,r4,rfl,w4,h⟩:=Yj (Z3w _) h
 obtain ⟨x5,p5,r5,rfl,w5,h⟩:=Yj (ZR _) h
 obtain ⟨x6,p6,r6,rfl,w6,h⟩:=Yj (Z3w _) h
 cases h
 exact ⟨p0++(u++(p2++(p3++(p4++(p5++(p6)))))),by simp,w0.append (w1.append (w2.append (w3.append (w4.append (w5.append (w6))))))⟩
def ZKh:Rd Kid:=Yc (Z2Q .i64) fun x0=> Yc ZaG fun h=> Z6R (KidOf.mk x0 h)
theorem Ztl:Z2G ZKh ZKD:=by
 intro cs x s h
 obtain ⟨x0,p0,r0,rfl,w0,h⟩:=Yj (ZR _) h
 obtain ⟨x1,u,r1,rfl,w1,h⟩:=Yj Z0k h
 cases h
 exact ⟨p0++(u),by simp,w0.append (w1)⟩
def rOp:Rd Op:=Yc (Z2Q .i64) fun x0=> Yc (Z2Q .i64) fun u=> Yc (rSl .tree) fun h=> Yc ZaG fun s=> Z6R (OpOf.mk x0 u h s)
theorem ZfS:Z2G rOp eOp:=by
 intro cs x s h
 obtain ⟨x0,p0,r0,rfl,w0,h⟩:=Yj (ZR _) h
 obtain ⟨x1,u,r1,rfl,w1,h⟩:=Yj (ZR _) h
 obtain ⟨x2,p2,r2,rfl,w2,h⟩:=Yj (Z3w _) h
 obtain ⟨x3,p3,r3,rfl,w3,h⟩:=Yj Z0k h
 cases h
 exact ⟨p0++(u++(p2++(p3))),by simp,w0.append (w1.append (w2.append (w3)))⟩
def ZwH:Rd Piece:=Yc (Z2Q .i64) fun x0=> Yc rOp fun s=> Yc rOp fun h=> Z6R (Piece.mk x0 s h)
theorem ZlY:Z2G ZwH Zz3:=by
 intro cs x s h
 obtain ⟨x0,p0,r0,rfl,w0,h⟩:=Yj (ZR _) h
 obtain ⟨x1,u,r1,rfl,w1,h⟩:=Yj ZfS h
 obtain ⟨x2,p2,r2,rfl,w2,h⟩:=Yj ZfS h
 cases h
 exact ⟨p0++(u++(p2)),by simp,w0.append (w1.append (w2))⟩
def Zqb:Rd AUnit:=Yc (Z2Q .i64) fun x0=> Yc (Z2Q .i64) fun u=> Yc Zm1 fun x2=> Yc ZaG fun h=> Yc Zm2 fun s=> Z6R (AUnit.mk x0 u x2 h s)
theorem Z9h:Z2G Zqb ZEz:=by
 intro cs x s h
 obtain ⟨x0,p0,r0,rfl,w0,h⟩:=Yj (ZR _) h
 obtain ⟨x1,u,r1,rfl,w1,h⟩:=Yj (ZR _) h
 obtain ⟨x2,p2,r2,rfl,w2,h⟩:=Yj Z5L h
 obtain ⟨x3,p3,r3,rfl,w3,h⟩:=Yj Z0k h
 obtain ⟨x4,p4,r4,rfl,w4,h⟩:=Yj Z9i h
 cases h
 exact ⟨p0++(u++(p2++(p3++(p4)))),by simp,w0.append (w1.append (w2.append (w3.append (w4))))⟩
def ZEp:Rd APair:=Yc (Z2Q .i64) fun x0=> Yc Zqb fun s=> Yc Zqb fun h=> Z6R (APair.mk x0 s h)
theorem ZnQ:Z2G ZEp ZEB:=by
 intro cs x s h
 obtain ⟨x0,p0,r0,rfl,w0,h⟩:=Yj (ZR _) h
 obtain ⟨x1,u,r1,rfl,w1,h⟩:=Yj Z9h h
 obtain ⟨x2,p2,r2,rfl,w2,h⟩:=Yj Z9h h
 cases h
 exact ⟨p0++(u++(p2)),by simp,w0.append (w1.append (w2))⟩
def ZEq:Rd LeftE:=Yc ZaG fun x0=> Yc ZaG fun u=> Yc Zm2 fun h=> Yc Zm2 fun s=> Z6R (LeftE.mk x0 u h s)
theorem ZnR:Z2G ZEq ZEC:=by
 intro cs x s h
 obtain ⟨x0,p0,r0,rfl,w0,h⟩:=Yj Z0k h
 obtain ⟨x1,u,r1,rfl,w1,h⟩:=Yj Z0k h
 obtain ⟨x2,p2,r2,rfl,w2,h⟩:=Yj Z9i h
 obtain ⟨x3,p3,r3,rfl,w3,h⟩:=Yj Z9i h
 cases h
 exact ⟨p0++(u++(p2++(p3))),by simp,w0.append (w1.append (w2.append (w3)))⟩
def ZEr:Rd Deed:=Yc (Z2Q .i64) fun x0=> Yc (Z2Q .i64) fun s=> Yc ZaG fun h=> Z6R (Deed.mk x0 s h)
theorem ZnS:Z2G ZEr ZEE:=by
 intro cs x s h
 obtain ⟨x0,p0,r0,rfl,w0,h⟩:=Yj (ZR _) h
 obtain ⟨x1,u,r1,rfl,w1,h⟩:=Yj (ZR _) h
 obtain ⟨x2,p2,r2,rfl,w2,h⟩:=Yj Z0k h
 cases h
 exact ⟨p0++(u++(p2)),by simp,w0.append (w1.append (w2))⟩
def ZwJ:Rd HDeed:=Yc (Z2Q .i64) fun x0=> Yc (Z2Q .i64) fun u=> Yc (Z2Q .i64) fun h=> Yc ZaG fun s=> Z6R (HDeed.mk x0 u h s)
theorem ZlZ:Z2G ZwJ Zz4:=by
 intro cs x s h
 obtain ⟨x0,p0,r0,rfl,w0,h⟩:=Yj (ZR _) h
 obtain ⟨x1,u,r1,rfl,w1,h⟩:=Yj (ZR _) h
 obtain ⟨x2,p2,r2,rfl,w2,h⟩:=Yj (ZR _) h
 obtain ⟨x3,p3,r3,rfl,w3,h⟩:=Yj Z0k h
 cases h
 exact ⟨p0++(u++(p2++(p3))),by simp,w0.append (w1.append (w2.append (w3)))⟩
def rEl:(T:Ty)->Rd (El T)
 | .u64=> Z2Q .u64
 | .u8=> Z2Q .u8
 | .int=> Z2Q .i64
 | .tree=> Zm1
 | .wedit=> ZwF
 | .edit=> ZaG
 | .kid=> ZKh
 | .op=> rOp
 | .piece=> ZwH
 | .unit=> Zqb
 | .pair=> ZEp
 | .left=> ZEq
 | .deed=> ZEr
 | .hdeed=> ZwJ
theorem Zm0:∀ T:Ty,Z2G (rEl T) (enc T)
 | .u64=> ZR _
 | .u8=> ZR _
 | .int=> ZR _
 | .tree=> Z5L
 | .wedit=> ZlX
 | .edit=> Z0k
 | .kid=> Ztl
 | .op=> ZfS
 | .piece=> ZlY
 | .unit=> Z9h
 | .pair=> ZnQ
 | .left=> ZnR
 | .deed=> ZnS
 | .hdeed=> ZlZ
def dec(T:Ty)(cs:List (C U)):Option (El T):=
 match rEl T cs with
 | some (x,[])=> some x
 | _=> none
def K:Codec U:=
 {tyEq:=inferInstanceAs (DecidableEq Ty)
  dflt:=fun T=> match T with
   | .u64=> (0:Int) | .u8=> (0:Int) | .int=> (0:Int) | .tree=> Tree.nil | .wedit=> WEdit.mk 0 0 0 0 | .edit=> Edit.nil | .kid=> KidOf.mk 0 Edit.nil | .op=> Op.nil | .piece=> Piece.mk 0 Op.nil Op.nil | .unit=> AUnit.nil | .pair=> APair.mk 0 AUnit.nil AUnit.nil | .left=> LeftE.mk Edit.nil Edit.nil false false | .deed=> Deed.mk 0 0 Edit.nil | .hdeed=> HDeed.mk 0 0 0 Edit.nil
  enc:=enc
  dec:=dec
  aggT:=fun T=> match T with | .u64 | .u8 | .int=> false | _=> true
  sz:=fun T=> match T with | .u64=> 1 | .u8=> 1 | .int=> 1 | .tree=> 3 | .wedit=> 4 | .edit=> 11 | .kid=> 12 | .op=> 14 | .piece=> 29 | .unit=> 17 | .pair=> 35 | .left=> 24 | .deed=> 13 | .hdeed=> 14
  bytes:=fun T=> match T with | .u64=> 8 | .u8=> 1 | .int=> 8 | .tree=> 56 | .wedit=> 32 | .edit=> 200 | .kid=> 208 | .op=> 240 | .piece=> 488 | .unit=> 280 | .pair=> 568 | .left=> 408 | .deed=> 216 | .hdeed=> 224 }
theorem ZMd:CodecOk K:=by
 refine ⟨?_,?_,?_,?_,?_⟩
 .intro T x
  cases T <;> rfl
 .intro T x c hc
  have h:(enc T x).all C.plain=true:=by cases T <;> rfl
  exact QD.1 h c hc
 .intro T cs x h
  have s:dec T cs=some x:=h
  unfold dec at s
  split at s
  .rename_i y he
   cases s
   obtain ⟨p,u,hw⟩:=Zm0 T _ _ _ he
   rw [Ql] at u
   subst u
   exact hw.get
  .cases s
 .intro T;cases T <;> decide
 .intro T;cases T <;> decide
theorem ZCe(T:Ty)(x:El T):dec T (enc T x)=some x:=by
 cases T with
 | u64=> rfl
 | u8=> rfl
 | int=> rfl
 | tree=> cases x;rfl
 | wedit=> rfl
 | edit=> obtain ⟨k,⟨_,_,_⟩,⟨_,_,_⟩,w,ks,l,os⟩:=x;rfl
 | kid=> obtain ⟨a,⟨k,⟨_,_,_⟩,⟨_,_,_⟩,w,ks,l,os⟩⟩:=x;rfl
 | op=> obtain ⟨a,b,c,⟨k,⟨_,_,_⟩,⟨_,_,_⟩,w,ks,l,os⟩⟩:=x;rfl
 | piece=> obtain ⟨_,⟨_,_,_,⟨_,⟨_,_,_⟩,⟨_,_,_⟩,_,_,_,_⟩⟩,⟨_,_,_,⟨_,⟨_,_,_⟩,⟨_,_,_⟩,_,_,_,_⟩⟩⟩:=x;rfl
 | unit=> obtain ⟨_,_,⟨_,_,_⟩,⟨_,⟨_,_,_⟩,⟨_,_,_⟩,_,_,_,_⟩,_⟩:=x;rfl
 | pair=> obtain ⟨_,⟨_,_,⟨_,_,_⟩,⟨_,⟨_,_,_⟩,⟨_,_,_⟩,_,_,_,_⟩,_⟩,⟨_,_,⟨_,_,_⟩,⟨_,⟨_,_,_⟩,⟨_,_,_⟩,_,_,_,_⟩,_⟩⟩:=x;rfl
 | left=> obtain ⟨⟨_,⟨_,_,_⟩,⟨_,_,_⟩,_,_,_,_⟩,⟨_,⟨_,_,_⟩,⟨_,_,_⟩,_,_,_,_⟩,_,_⟩:=x;rfl
 | deed=> obtain ⟨_,_,⟨_,⟨_,_,_⟩,⟨_,_,_⟩,_,_,_,_⟩⟩:=x;rfl
 | hdeed=> obtain ⟨_,_,_,⟨_,⟨_,_,_⟩,⟨_,_,_⟩,_,_,_,_⟩⟩:=x;rfl
def ZjU(x:Tree):Tree:=Tree.mk (Tree.kind x) (Tree.words x) (Tree.kids x)
@[simp] theorem Z9 (x:Tree):ZjU x=x:=Tree.eta x
def ZAo(x:WEdit):WEdit:=WEdit.mk (WEdit.at_ x) (WEdit.mask x) (WEdit.old x) (WEdit.new x)
@[simp] theorem Z0m (x:WEdit):ZAo x=x:=rfl
def Z5M(x:Edit):Edit:=Edit.mk (Edit.kind x) (ZjU (Edit.old x)) (ZjU (Edit.new x)) (Edit.words x) (Edit.kids x) (Edit.list x) (Edit.ops x)
@[simp] theorem Z7 (x:Edit):Z5M x=x:=by unfold Z5M;rw [Z9,Z9];exact Edit.eta x
def ZEo(x:Kid):Kid:=KidOf.mk (KidOf.at_ x) (Z5M (KidOf.e x))
@[simp] theorem Z6Q (x:Kid):ZEo x=x:=by unfold ZEo;rw [Z7]
def ZAp(x:Op):Op:=OpOf.mk (OpOf.kind x) (OpOf.n x) (OpOf.l x) (Z5M (OpOf.e x))
@[simp] theorem YB (x:Op):ZAp x=x:=by unfold ZAp;rw [Z7]
def Zq7(x:Piece):Piece:=Piece.mk (Piece.of x) (ZAp (Piece.p x)) (ZAp (Piece.q x))
@[simp] theorem ZnU (x:Piece):Zq7 x=x:=by unfold Zq7;rw [YB,YB]
def ZjT(x:AUnit):AUnit:=AUnit.mk (AUnit.step x) (AUnit.kind x) (ZjU (AUnit.t x)) (Z5M (AUnit.e x)) (AUnit.alone x)
@[simp] theorem Zie (x:AUnit):ZjT x=x:=by unfold ZjT;rw [Z7,Z9]
def ZwA(x:APair):APair:=APair.mk (APair.of x) (ZjT (APair.p x)) (ZjT (APair.q x))
@[simp] theorem ZIE (x:APair):ZwA x=x:=by unfold ZwA;rw [Zie,Zie]
def ZwB(x:LeftE):LeftE:=LeftE.mk (Z5M (LeftE.x x)) (Z5M (LeftE.y x)) (LeftE.clash x) (LeftE.apart x)
@[simp] theorem ZIF (x:LeftE):ZwB x=x:=by unfold ZwB;rw [Z7,Z7]
def ZwC(x:Deed):Deed:=Deed.mk (Deed.kind x) (Deed.i x) (Z5M (Deed.e x))
@[simp] theorem Ztm (x:Deed):ZwC x=x:=by unfold ZwC;rw [Z7]
def Zq9(x:HDeed):HDeed:=HDeed.mk (HDeed.kind x) (HDeed.who x) (HDeed.version x) (Z5M (HDeed.e x))
@[simp] theorem ZFn (x:HDeed):Zq9 x=x:=by unfold Zq9;rw [Z7]
end Go.AM
namespace Go.AM
variable {P:Program} {cfg:Cfg U}
structure ArgL (α:Type) where
 get:List (V U)->Option α
 can:α->List (V U)
 ok:∀ cfg:Cfg U,cfg.enc=enc->∀ xs a,get xs=some a->xs.length=(can a).length/\∀ (j:Nat) x y,xs[j]?=some x->(can a)[j]?=some y->Zhv cfg x y
structure Arg (α:Type) where
 get:V U->Option α
 can:α->V U
 ok:∀ cfg:Cfg U,cfg.enc=enc->∀ x a,get x=some a->Zhv cfg x (can a)
def ArgL.nil:ArgL Unit:=
 {get:=fun xs=> match xs with
   | []=> some ()
   | _ ::_=> none
  can:=fun _=> []
  ok:=by
   grind }
def ArgL.cons{α β:Type}(A:Arg α)(B:ArgL β):ArgL (α × β):=
 {get:=fun xs=> match xs with
   | x ::r=> match A.get x with
    | some a=> match B.get r with
     | some b=> some (a,b)
     | none=> none
    | none=> none
   | []=> none
  can:=fun p=> A.can p.1 ::B.can p.2
  ok:=by
   intro cfg hc xs p h
   cases xs with
   | nil=> cases h
   | cons x r=>
    simp only at h
    split at h
    .rename_i a ha
     split at h
     .rename_i b hb
      cases h
      obtain ⟨h1,h2⟩:=B.ok cfg hc r b hb
      refine ⟨by simp [h1],fun j x' y hx hy=> ?_⟩
      cases j with
      | zero=> simp at hx hy;subst hx hy;exact A.ok cfg hc x a ha
      | succ j=> grind
     .cases h
    .cases h }
theorem ZcN{a b:C U}(h:Wk a b):Zhv cfg (.c a) (.c b):=by
 intro g u v s
 refine ⟨s.1.wk h,?_⟩
 cases h with
 | snil=> trivial
 | slice=> trivial
 | _=> exact s.2
theorem ZoV{a b:List (C U)}(h:WkL a b):Zhv cfg (.agg a) (.agg b):=by
 intro g s v hr
 obtain ⟨vs,rfl,h1,h2⟩:=hr
 obtain ⟨h3,h4⟩:=h.get
 refine ⟨vs,rfl,by rw [h1,h3],fun j u c hu hc=> ?_⟩
 have hj:j < a.length:=by have:=(Q8.1 hc).1;omega
 have ha:=Q4 hj
 exact ZcN (cfg:=cfg) (h4 j _ c ha hc) g s u (h2 j u _ hu ha)
def aEl(T:Ty):Arg (El T):=
 {get:=fun v=> match v with
   | .agg cs=> dec T cs
   | _=> none
  can:=fun x=> .agg (enc T x)
  ok:=by
   intro cfg _ v a h
   cases v <;> simp only [reduceCtorEq] at h
   rename_i cs
   unfold dec at h
   split at h
   .rename_i y he
    cases h
    obtain ⟨p,hp,hw⟩:=Zm0 T _ _ _ he
    rw [Ql] at hp
    subst hp
    exact ZoV hw
   .cases h }
def Jj(k:IntKind):Arg Int:=
 {get:=fun v=> match v with
   | .c (.int k' n)=> if k=k' then some n else none
   | _=> none
  can:=fun n=> .c (.int k n)
  ok:=by
   intro cfg _ v a h
   split at h
   .split at h
    .rename_i hk;subst hk;cases h;exact fun _ _ _ h=> h
    .cases h
   .cases h }
theorem ZzW{p:List (C U)}{c:C U}(h:WkL p [c]):∃ y,p=[y]/\Wk y c:=by
 cases p with
 | nil=> exact h.elim
 | cons y r=> cases r with
  | nil=> exact ⟨y,rfl,h.1⟩
  | cons z r=> exact h.2.elim
theorem ZwG{T:Ty}{x:C U}{l:List (El T)}{r:List (C U)}(h:rSl T [x]=some (l,r)):Wk x (sl T l):=by
 obtain ⟨p,hp,s⟩:=Z3w T _ _ _ h
 obtain ⟨y,rfl,u⟩:=ZzW s
 grind
def aSl(T:Ty):Arg (List (El T)):=
 {get:=fun v=> match v with
   | .c x=> match rSl T [x] with
    | some (l,_)=> some l
    | none=> none
   | _=> none
  can:=fun l=> .c (sl T l)
  ok:=by
   intro cfg _ v a h
   split at h
   .split at h
    .rename_i l r hr
     cases h
     exact ZcN (ZwG hr)
    .cases h
   .cases h }
def fs{α:Type}(A:ArgL α)(pre:α->List Prop)(res:α->V U):Fs U:=
 {fn:=fun xs X=> match X with
   | []=> match A.get xs with
    | some a=> some (pre a,res a,[])
    | none=> none
   | _ ::_=> none }
theorem ZO {Γ:Known U} {α:Type} {A:ArgL α} {pre:α->List Prop} {res:α->V U} (ok:CfgOk P cfg) (henc:cfg.enc=enc) (hΓ:∀ f s,Γ f=some s->Contract P cfg f s) {f:FuncId} {fn:Func} (lv:Za U)
  (hf : P.funcs[f]? = some fn) (hb : fn.body = some (cd fn [])) (hname : (fn.name == "runtime.NumGoroutine") = false) (hn : ∀ a, (A.can a).length ≤ fn.ntmps)
  (hbody:∀ a,All (pre a)->awp cfg Γ (Z00 cfg Γ) fn.ntmps lv (cd fn []) (Zf (A.can a) []) (Y7 cfg fn.ntmps fn.results.toList (res a) [])):Contract P cfg f (fs A pre res):=by
 refine ZdJ ok hΓ (Z1E ok hΓ) lv hf hb hname ?_
 intro args X ps r X' u aa
 unfold fs at u
 simp only at u
 split at u
 .split at u
  .rename_i a ha
   cases u
   obtain ⟨h1,h2⟩:=A.ok cfg henc args a ha
   exact ⟨A.can a,[],⟨h1,h2,rfl,fun k x y hx=> by simp at hx,fun k x y hx=> by simp at hx⟩,hn a,hbody a aa⟩
  .cases u
 .cases u
def fsN{α:Type}(A:ArgL α)(pre:α->List Prop)(cs:α->List (C U)):Fs U:=
 {obj:=true
  fn:=fun xs X=> match X with
   | []=> match A.get xs with
    | some a=> some (pre a,.ptr (.x 0) 0,[cs a])
    | none=> none
   | _ ::_=> none }
theorem ZkV {Γ:Known U} {α:Type} {A:ArgL α} {pre:α->List Prop} {cs:α->List (C U)} (ok:CfgOk P cfg) (henc:cfg.enc=enc) (hΓ:∀ f s,Γ f=some s->Contract P cfg f s) {f:FuncId} {fn:Func} (lv:Za U)
  (hf : P.funcs[f]? = some fn) (hb : fn.body = some (cd fn [])) (hname : (fn.name == "runtime.NumGoroutine") = false) (hn : ∀ a, (A.can a).length ≤ fn.ntmps)
  (hbody:∀ a,All (pre a)->awp cfg Γ (Z00 cfg Γ) fn.ntmps lv (cd fn []) (Zf (A.can a) []) (Zlk cfg fn.ntmps fn.results.toList [] (cs a))):Contract P cfg f (fsN A pre cs):=by
 refine ZkU ok hΓ (Z1E ok hΓ) lv hf hb hname ?_
 intro args X ps r X' u aa
 unfold fsN at u
 simp only at u
 split at u
 .split at u
  .rename_i a ha
   cases u
   obtain ⟨h1,h2⟩:=A.ok cfg henc args a ha
   exact ⟨A.can a,[],[],cs a,rfl,rfl,⟨h1,h2,rfl,fun k x y hx=> by simp at hx,fun k x y hx=> by simp at hx⟩,hn a,hbody a aa⟩
  .cases u
 .cases u
end Go.AM
namespace Go.AM
theorem ZHu{a b:Bool}:((bif a then true else b)=true)=(a=true\/b=true):=by grind
theorem Zzm{a b:Bool}:((bif a then b else false)=true)=(a=true/\b=true):=by grind
theorem ZCl{a b:Bool}:((bif a then true else b)=false)=(a=false/\b=false):=by grind
theorem ZCm{a b:Bool}:((bif a then b else false)=false)=(a=false\/b=false):=by grind
theorem vcS:(∀ {a b:Bool},((bif a then true else b)=true)=(a=true\/b=true))/\(∀ {a b:Bool},((bif a then b else false)=true)=(a=true/\b=true))/\
  (∀ {a b:Bool},((bif a then true else b)=false)=(a=false/\b=false))/\(∀ {a b:Bool},((bif a then b else false)=false)=(a=false\/b=false))/\
  (∀ (b:Bool),((!b)=true)=(b=false))/\(∀ (b:Bool),((!b)=false)=(b=true))/\(∀ {p:Prop} [Decidable p],(decide p=true)=p)/\(∀ {p:Prop} {_:Decidable p},decide p=false↔¬p)/\
  (∀ {α:Type} [BEq α] [LawfulBEq α] {a b:α},(a==b)=true↔a=b)/\(∀ {α:Type} [BEq α] [LawfulBEq α] {a b:α},(a==b)=false↔a≠b)/\
  (∀ {α:Type} [BEq α] [LawfulBEq α] {a b:α},(a !=b)=true↔a≠b)/\(∀ {α:Type} (a b:α),(a≠b)=¬a=b)/\(∀ {α:Type} [BEq α] [LawfulBEq α] {a b:α},(a !=b)=false↔a=b)/\
  (∀ (a b:Bool),((a || b)=true)=(a=true\/b=true))/\(∀ (a b:Bool),((a && b)=true)=(a=true/\b=true))/\(∀ {x y:Bool},(x || y)=false↔x=false/\y=false)/\(∀ {x y:Bool},(x && y)=false↔x=true->y=false):=
 ⟨ZHu,Zzm,ZCl,ZCm,QX,Xu,decide_eq_true_eq,decide_eq_false_iff_not,beq_iff_eq,beq_eq_false_iff_ne,bne_iff_ne,ne_eq,bne_eq_false_iff_eq,XC,Q6,QB,Bool.and_eq_false_imp⟩
abbrev Tr(p:Prop):Prop:=p->p
abbrev Tt(b:Bool):Prop:=Tr (b=true)
abbrev iB(b:Bool)(A B:Prop):Prop:=(b=true->A)/\(b=false->B)
theorem vE:type_of% (And.intro @Tree.eta (And.intro @Edit.eta (And.intro @Tree.kind_mk (And.intro @Tree.words_mk @Tree.kids_mk)))):=And.intro @Tree.eta (And.intro @Edit.eta (And.intro @Tree.kind_mk (And.intro @Tree.words_mk @Tree.kids_mk)))
theorem vcT:(∀ {p:Prop},Tr p=True)/\(∀ {p:Prop},(True/\p)=p)/\(∀ {p:Prop},(p/\True)=p)/\(∀ {p:Prop},(p->p)=True)/\(∀ {p:Prop},(True->p)=p)/\(∀ {p:Prop},(p->True)=True):=
 ⟨by simp,by simp,by simp,by simp,by simp,by simp⟩
end Go.AM
namespace Go.AM
variable {P:Program} {cfg:Cfg U}
def ZiK:List (FuncId × Fs U)->FuncId->Option (Fs U)
 | [],_=> none
 | (f,s) ::r,k=> bif Nat.beq k f then some s else ZiK r k
def Z2(l:List (FuncId × Fs U)):Known U:=⟨ZiK l,false,false⟩
def Z0E(l:List (FuncId × Fs U)):Known U:=⟨ZiK l,true,false⟩
def Z3Q(l:List (FuncId × Fs U)):Known U:=⟨ZiK l,false,true⟩
def Z4A(P:Program)(cfg:Cfg U):List (FuncId × Fs U)->Prop
 | []=> True
 | (f,s) ::r=> Contract P cfg f s/\Z4A P cfg r
theorem Z0a:∀ {l:List (FuncId × Fs U)},Z4A P cfg l->∀ f s,ZiK l f=some s->Contract P cfg f s
 | [],_,f,s,h=> by cases h
 | (f',s') ::r,hk,f,s,h=> by
  unfold ZiK at h
  cases e:Nat.beq f f' with
  | true=>
   rw [e] at h
   cases h
   rw [Qe e]
   exact hk.1
  | false=>
   rw [e] at h
   exact Z0a hk.2 f s h
theorem Z1 {l:List (FuncId × Fs U)} {α:Type} {A:ArgL α} {pre:α->Prop} {res:α->V U} (ok:CfgOk P cfg) (henc:cfg.enc=enc) (hl:Z4A P cfg l) {f:FuncId} {fn:Func} (lv:Za U)
  (hf : P.funcs[f]? = some fn) (hb : fn.body = some (cd fn [])) (hname : (fn.name == "runtime.NumGoroutine") = false) (n : Nat) (hn : ∀ a, (A.can a).length = n) (hn' : n ≤ fn.ntmps)
  (hbody:∀ a,pre a->awp cfg (Z2 l) (Z00 cfg (Z2 l)) fn.ntmps lv (cd fn []) (Zf (A.can a) []) (Y7 cfg fn.ntmps fn.results.toList (res a) [])):Contract P cfg f (fs A (fun a=> [pre a]) res):=
 ZO ok henc (Z0a hl) lv hf hb hname (fun a=> by rw [hn];exact hn') (fun a h=> hbody a h.1)
theorem Zhh {l:List (FuncId × Fs U)} {α:Type} {A:ArgL α} {pre:α->Prop} {res:α->V U} (ok:CfgOk P cfg) (henc:cfg.enc=enc) (hl:Z4A P cfg l) {f:FuncId} {fn:Func} (lv:Za U)
  (hf : P.funcs[f]? = some fn) (hb : fn.body = some (cd fn [])) (hname : (fn.name == "runtime.NumGoroutine") = false) (n : Nat) (hn : ∀ a, (A.can a).length = n) (hn' : n ≤ fn.ntmps)
  (hbody:∀ a,pre a->awp cfg (Z0E l) (Z00 cfg (Z0E l)) fn.ntmps lv (cd fn []) (Zf (A.can a) []) (Y7 cfg fn.ntmps fn.results.toList (res a) [])):Contract P cfg f (fs A (fun a=> [pre a]) res):=
 ZO ok henc (Z0a hl) lv hf hb hname (fun a=> by rw [hn];exact hn') (fun a h=> hbody a h.1)
theorem Zhi {l:List (FuncId × Fs U)} {α:Type} {A:ArgL α} {pre:α->Prop} {cs:α->List (C U)} (ok:CfgOk P cfg) (henc:cfg.enc=enc) (hl:Z4A P cfg l) {f:FuncId} {fn:Func} (lv:Za U)
  (hf : P.funcs[f]? = some fn) (hb : fn.body = some (cd fn [])) (hname : (fn.name == "runtime.NumGoroutine") = false) (n : Nat) (hn : ∀ a, (A.can a).length = n) (hn' : n ≤ fn.ntmps)
  (hbody:∀ a,pre a->awp cfg (Z2 l) (Z00 cfg (Z2 l)) fn.ntmps lv (cd fn []) (Zf (A.can a) []) (Zlk cfg fn.ntmps fn.results.toList [] (cs a))):Contract P cfg f (fsN A (fun a=> [pre a]) cs):=
 ZkV ok henc (Z0a hl) lv hf hb hname (fun a=> by grind) (fun a h=> hbody a h.1)
theorem Jz {l:List (FuncId × Fs U)} {α:Type} {A:ArgL α} {pre:α->Prop} {μ:α->Nat} {res:α->V U} (ok:CfgOk P cfg) (henc:cfg.enc=enc) (hl:Z4A P cfg l) {f:FuncId} {fn:Func} (lv:Za U)
  (hf : P.funcs[f]? = some fn) (hb : fn.body = some (cd fn [])) (hname : (fn.name == "runtime.NumGoroutine") = false) (n : Nat) (hn : ∀ a, (A.can a).length = n) (hn' : n ≤ fn.ntmps)
  (hbody:∀ N a,pre a->μ a < N+1->awp cfg (Z2 ((f,fs A (fun a=> [pre a,μ a < N]) res) ::l)) (Z00 cfg (Z2 ((f,fs A (fun a=> [pre a,μ a < N]) res) ::l))) fn.ntmps lv (cd fn []) (Zf (A.can a) []) (Y7 cfg fn.ntmps fn.results.toList (res a) [])):
  Contract P cfg f (fs A (fun a=> [pre a]) res):=by
 have aa:∀ N,Contract P cfg f (fs A (fun a=> [pre a,μ a < N]) res):=by
  intro N
  induction N with
  | zero=>
   refine Z0t ⟨fn,hf,by rw [hb];rfl,hname⟩ rfl ?_
   intro args X ps r X' s u
   exfalso
   unfold fs at s
   simp only at s
   split at s
   .split at s
    .cases s
     exact absurd u.2.1 JX
    .cases s
   .cases s
  | succ N ih=> exact ZO (Γ:=Z2 ((f,fs A (fun a=> [pre a,μ a < N]) res) ::l)) ok henc (Z0a ⟨ih,hl⟩) lv hf hb hname (fun a=> by grind) (fun a h=> hbody N a h.1 h.2.1)
 refine Z0t (aa 0).1 rfl ?_
 intro args X ps r X' s u
 unfold fs at s
 simp only at s
 split at s
 .split at s
  .rename_i a ha
   cases s
   have e:(fs A (fun x=> [pre x,μ x < μ a+1]) res).fn args []=some ([pre a,μ a < μ a+1],res a,[]):=by
    unfold fs
    simp only [ha]
   exact (aa (μ a+1)).one rfl args [] _ _ [] e ⟨u.1,Kl _,trivial⟩
  .cases s
 .cases s
theorem JZ {α : Type} {A : ArgL α} {pre : α → Prop} {μ : α → Nat} {res : α → V U} {f : FuncId} (h0 : ∃ fn, P.funcs[f]? = some fn ∧ fn.body.isSome = true ∧ (fn.name == "runtime.NumGoroutine") = false)
  (key:∀ N,Contract P cfg f (fs A (fun a=> [pre a,μ a < N]) res)):Contract P cfg f (fs A (fun a=> [pre a]) res):=by
 refine Z0t h0 rfl ?_
 intro args X ps r X' h s
 unfold fs at h
 simp only at h
 split at h
 .split at h
  .rename_i a u
   cases h
   have e:(fs A (fun x=> [pre x,μ x < μ a+1]) res).fn args []=some ([pre a,μ a < μ a+1],res a,[]):=by
    unfold fs
    simp only [u]
   exact (key (μ a+1)).one rfl args [] _ _ [] e ⟨s.1,Kl _,trivial⟩
  .cases h
 .cases h
theorem JY {α : Type} {A : ArgL α} {pre : α → Prop} {μ : α → Nat} {res : α → V U} {f : FuncId} (h0 : ∃ fn, P.funcs[f]? = some fn ∧ fn.body.isSome = true ∧ (fn.name == "runtime.NumGoroutine") = false) :
  Contract P cfg f (fs A (fun a=> [pre a,μ a < 0]) res):=by
 refine Z0t h0 rfl ?_
 intro args X u r X' h s
 exfalso
 unfold fs at h
 simp only at h
 split at h
 .split at h
  .cases h
   exact absurd s.2.1 JX
  .cases h
 .cases h
theorem Z4z {l:List (FuncId × Fs U)} {α β:Type} {A:ArgL α} {B:ArgL β} {preA:α->Prop} {preB:β->Prop} {μA:α->Nat} {μB:β->Nat} {resA:α->V U} {resB:β->V U} (ok:CfgOk P cfg) (henc:cfg.enc=enc) (hl:Z4A P cfg l) {f f':FuncId} {fn fn':Func}
  (lv lv' : Za U) (hf : P.funcs[f]? = some fn) (hf' : P.funcs[f']? = some fn') (hb : fn.body = some (cd fn [])) (hb' : fn'.body = some (cd fn' [])) (hname : (fn.name == "runtime.NumGoroutine") = false) (hname' : (fn'.name == "runtime.NumGoroutine") = false)
  (n n':Nat) (hn:∀ a,(A.can a).length=n) (hn':∀ a,(B.can a).length=n') (hle:n<=fn.ntmps) (hle':n'<=fn'.ntmps)
  (hbody:∀ N a,preA a->μA a < N+1->awp cfg (Z2 ((f,fs A (fun a=> [preA a,μA a < N]) resA) ::(f',fs B (fun a=> [preB a,μB a < N]) resB) ::l)) (Z00 cfg (Z2 ((f,fs A (fun a=> [preA a,μA a < N]) resA) ::(f',fs B (fun a=> [preB a,μB a < N]) resB) ::l))) fn.ntmps lv (cd fn []) (Zf (A.can a) []) (Y7 cfg fn.ntmps fn.results.toList (resA a) []))
  (hbody':∀ N a,preB a->μB a < N+1->awp cfg (Z2 ((f,fs A (fun a=> [preA a,μA a < N]) resA) ::(f',fs B (fun a=> [preB a,μB a < N]) resB) ::l)) (Z00 cfg (Z2 ((f,fs A (fun a=> [preA a,μA a < N]) resA) ::(f',fs B (fun a=> [preB a,μB a < N]) resB) ::l))) fn'.ntmps lv' (cd fn' []) (Zf (B.can a) []) (Y7 cfg fn'.ntmps fn'.results.toList (resB a) [])):
  Contract P cfg f (fs A (fun a=> [preA a]) resA)/\Contract P cfg f' (fs B (fun a=> [preB a]) resB):=by
 have h0 : ∃ fn, P.funcs[f]? = some fn ∧ fn.body.isSome = true ∧ (fn.name == "runtime.NumGoroutine") = false := ⟨fn, hf, by rw [hb]; rfl, hname⟩
 have s : ∃ fn, P.funcs[f']? = some fn ∧ fn.body.isSome = true ∧ (fn.name == "runtime.NumGoroutine") = false := ⟨fn', hf', by rw [hb']; rfl, hname'⟩
 have u:∀ N,Contract P cfg f (fs A (fun a=> [preA a,μA a < N]) resA)/\Contract P cfg f' (fs B (fun a=> [preB a,μB a < N]) resB):=by
  intro N
  induction N with
  | zero=> exact ⟨JY h0,JY s⟩
  | succ N ih=>
   exact ⟨ZO (Γ:=Z2 ((f,fs A (fun a=> [preA a,μA a < N]) resA) ::(f',fs B (fun a=> [preB a,μB a < N]) resB) ::l)) ok henc (Z0a ⟨ih.1,ih.2,hl⟩) lv hf hb hname (fun a=> by grind) (fun a h=> hbody N a h.1 h.2.1),
    ZO (Γ:=Z2 ((f,fs A (fun a=> [preA a,μA a < N]) resA) ::(f',fs B (fun a=> [preB a,μB a < N]) resB) ::l)) ok henc (Z0a ⟨ih.1,ih.2,hl⟩) lv' hf' hb' hname' (fun a=> by grind) (fun a h=> hbody' N a h.1 h.2.1)⟩
 exact ⟨JZ h0 fun N=> (u N).1,JZ s fun N=> (u N).2⟩
end Go.AM
namespace Go.AM
mutual
def ZK:Tree->Int->Int->Int
 | .mk _ w ks,d,l=> if d=0\/l - 1 - w.length < 0 then -1 else ZD ks (d - 1) (l - 1 - w.length)
def ZD:List Tree->Int->Int->Int
 | [],_,l=> l
 | t ::r,d,l=> if l < 0 then l else ZD r d (ZK t d l)
end
mutual
def Zo:Tree->Nat
 | .mk _ w ks=> 1+w.length+Zg ks
def Zg:List Tree->Nat
 | []=> 0
 | t ::r=> Zo t+Zg r
end
mutual
def Z3q:Tree->Prop
 | .mk _ w ks=> w.length<=17592186044416/\ks.length<=17592186044416/\Z3p ks
def Z3p:List Tree->Prop
 | []=> True
 | t ::r=> Z3q t/\Z3p r
end
def trim:List Int->List Int
 | []=> []
 | x ::r=> match trim r with
  | []=> if x=0 then [] else [x]
  | y ::s=> x ::y ::s
def Yp:List Tree->List Tree
 | []=> []
 | x ::r=> match Yp r with
  | []=> if x.kind=0 then [] else [x]
  | y ::s=> x ::y ::s
mutual
def Z0:Tree->Tree
 | .mk k w ks=> if k=0 then Tree.nil else if k=1 then .mk 1 (trim w) (Yp (Yz ks)) else .mk k w (Yz ks)
def Yz:List Tree->List Tree
 | []=> []
 | t ::r=> Z0 t ::Yz r
end
open Classical in
noncomputable def Yf(a b:Tree):Bool:=decide (a=b)
def Z0f(t:Tree)(i:Int):Int:=if i < 0 then 0 else t.words.getD i.toNat 0
def Z0q(t:Tree)(i:Int):Tree:=if i < 0 then Tree.nil else t.kids.getD i.toNat Tree.nil
mutual
def rng:Tree->Prop
 | .mk k w ks=> (-9223372036854775808<=k/\k<=9223372036854775807)/\(∀ x∈w,0<=x/\x < 18446744073709551616)/\Yx ks
def Yx:List Tree->Prop
 | []=> True
 | t ::r=> rng t/\Yx r
end
def wd(c:Int):Int:=if c=0 then 0 else if c=1 then 1 else if c=2 then 8 else if c=3 then 16 else if c=4 then 32 else if c=5 then 64 else -1
def ZkP(c n:Int):Bool:=decide (0<=wd c/\n < 2 ^ (wd c).toNat)
def Z0V(list:Int)(t:Tree):Bool:=
 if 2<=list/\list<=7 then decide (t.kind=10/\t.kids.length=0/\t.words.length=1) && ZkP (list - 2) (t.words.getD 0 0)
 else if list=9 then decide (t.kind=1) else decide (t.kind≠10)
mutual
def Zd:Tree->Int->Bool
 | .mk k w ks,d=>
  if k=0 then decide (w.length=0/\ks.length=0)
  else if k=10 then decide (w.length=1/\ks.length=0)
  else if d=0 then false
  else if k=1 then decide (w.length < 65536/\ks.length < 65536) && Yl 1 ks (d - 1)
  else decide (2<=k/\k<=9/\w.length=0/\ks.length < 1048576) && Yl k ks (d - 1)
def Yl(list:Int):List Tree->Int->Bool
 | [],_=> true
 | t ::r,d=> (Z0V list t && Zd t d) && Yl list r d
end
end Go.AM
