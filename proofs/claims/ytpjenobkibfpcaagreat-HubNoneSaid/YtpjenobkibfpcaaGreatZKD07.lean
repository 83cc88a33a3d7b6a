import Derived.Test.YtpjenobkibfpcaaGreatZmK
import Derived.Still
set_option linter.unusedSimpArgs false
set_option linter.unusedVariables false
namespace Go.AM
variable {U:Uni} {P:Program} {cfg:Cfg U} {B:Base} {st:FSt U} {g:Gh} {a:Act} {w:World}
def Z4m:Nat->List (V U)->List (Nat × V U)
 | _,[]=> []
 | i,v ::r=> (i,v) ::Z4m (i+1) r
def Z4l:Nat->List (List (C U))->List (Name × List (C U))
 | _,[]=> []
 | k,cs ::r=> (.x k,cs) ::Z4l (k+1) r
def Jc(args:List (V U))(X:List (List (C U)))(L:List (Tok × LC U)):LSt U:={ env:=Z4m 0 args,mem:=Z4l 0 X,ls:=L }
def Zb(args:List (V U))(X:List (List (C U))):LSt U:=Jc args X []
def Z0j:Tok->Bool:=fun _=> true
def Z8b(cfg:Cfg U)(st:FSt U):ResultVar->Option (Bool × List (C U))
 | .tmp t=> match st.env t with
  | .c x=> some (false,[x])
  | .agg cs=> some (true,cs)
  | _=> none
 | .cell t ty=> match cfg.var ty with
  | some (ag,zs)=> match rd st (st.env t) ag zs.length with
   | some (.c x)=> some (false,[x])
   | some (.agg cs)=> some (true,cs)
   | _=> none
  | none=> none
def Z5T(cfg:Cfg U)(st:FSt U):List ResultVar->Option (List (Bool × List (C U)))
 | []=> some []
 | r ::rs=> match Z8b cfg st r,Z5T cfg st rs with
  | some x,some l=> some (x ::l)
  | _,_=> none
def Z2U(i:Nat):List (Bool × List (C U))->List (Tok × Tok)->List (Bool × List (C U)) × List (Tok × Tok)
 | [],seen=> ([],seen)
 | (ag,cs) ::r,seen=> ((ag,(Yn Z0j (fun j=> .r 0 (16*i+j)) 0 cs seen).1) ::(Z2U (i+1) r (Yn Z0j (fun j=> .r 0 (16*i+j)) 0 cs seen).2).1,
   (Z2U (i+1) r (Yn Z0j (fun j=> .r 0 (16*i+j)) 0 cs seen).2).2)
def Zpi:Tail->Tail->Prop
 | _,.unk=> True
 | .full,_=> True
 | .own t,.own t'=> t=t'
 | _,_=> False
def leC(cfg:Cfg U):C U->C U->Prop
 | .int k n,.int k' n'=> k=k'/\n=n'
 | .bool b,.bool b'=> b=b'
 | .nils,.nils=> True
 | .nils,.slice _ l _=> l=[]
 | .nilp,.nilp=> True
 | .nilp,.po _ o=> o=none
 | .po T o,.po T' o'=> match cfg.tyEq T T' with
  | isTrue h=> h▸o=o'
  | isFalse _=> False
 | .slice T l tl,.slice T' l' tl'=> match cfg.tyEq T T' with
  | isTrue h=> h▸l=l'/\Zpi tl tl'
  | isFalse _=> False
 | .mref t,.mref t'=> t=t'
 | .xp k,.xp k'=> k=k'
 | _,_=> False
def leL(cfg:Cfg U):List (C U)->List (C U)->Prop
 | [],[]=> True
 | c ::r,c' ::r'=> leC cfg c c'/\leL cfg r r'
 | _,_=> False
def leR(cfg:Cfg U):List (Bool × List (C U))->List (Bool × List (C U))->Prop
 | [],[]=> True
 | (b,cs) ::r,(b',cs') ::r'=> b=b'/\leL cfg cs cs'/\leR cfg r r'
 | _,_=> False
def Zc1:V U->Option (List (Bool × List (C U)))
 | .c x=> some [(false,[x])]
 | .agg cs=> some [(true,cs)]
 | .tup ws=> if ws.length=1 then none else some ws
 | _=> none
def ZCh(cfg:Cfg U)(x y:LC U):Prop:=
 match cfg.tyEq x.T y.T with
 | isTrue h=> h▸x.l=y.l/\x.f=y.f
 | isFalse _=> False
def Zey(cfg:Cfg U)(ls:List (Tok × LC U))(seen:List (Tok × Tok)):List (Tok × LC U)->Prop
 | []=> True
 | (t,y) ::r=> (match JU seen t with
  | some u=> Y3 seen u=some t/\match Zn (fun _=> none) ls u with
   | some x=> ZCh cfg x y
   | none=> False
  | none=> False)/\Zey cfg ls seen r
def Zoz(cfg:Cfg U)(mem:List (Name × List (C U)))(ls:List (Tok × LC U))(L:List (Tok × LC U)):(k:Nat)->List (List (C U))->List (Tok × Tok)->Prop
 | _,[],seen=> Zey cfg ls seen L
 | k,cs' ::r,seen=> match Z0z mem (.x k) with
  | some cs=> leL cfg (Z04 Z0j (.x k) 0 [] cs seen).1 cs'/\Zoz cfg mem ls L (k+1) r (Z04 Z0j (.x k) 0 [] cs seen).2
  | none=> False
def Zez(cfg:Cfg U)(n:Nat)(rs:List ResultVar)(r:V U)(X:List (List (C U)))(L:List (Tok × LC U))(s:LSt U):Prop:=
 match Z5T cfg (s.toF n) rs,Zc1 r with
 | some ws,some ws'=> leR cfg (Z2U 0 ws []).1 ws'/\Zoz cfg s.mem s.ls L 0 X (Z2U 0 ws []).2
 | _,_=> False
def ZAd(cfg:Cfg U)(n:Nat)(rs:List ResultVar)(r:V U)(X:List (List (C U)))(s:LSt U):Prop:=Zez cfg n rs r X [] s
def JG(cfg:Cfg U)(n:Nat)(rs:List ResultVar)(r:V U)(X:List (List (C U)))(L:List (Tok × LC U))(e:AExit)(s:LSt U):Prop:=
 match e with
 | .exit _=> False
 | _=> Zez cfg n rs r X L s
def ZK(cfg:Cfg U)(n:Nat)(rs:List ResultVar)(r:V U)(X:List (List (C U)))(e:AExit)(s:LSt U):Prop:=
 match e with
 | .exit _=> False
 | _=> ZAd cfg n rs r X s
theorem ZiG{ls:List (Tok × LC U)}{seen:List (Tok × Tok)}{g2:Gh}(h:Rel cfg B st g a w)(hls:∀ t,st.ls t=Zn (fun _=> none) ls t)(hr:Ren (fun _=> true) g seen g2):∀ {L:List (Tok × LC U)},Zey cfg ls seen L->
  ∀ t x,Zn (fun _=> none) L t=some x->LRel cfg w g2 t x
 | [],_,t,x,hx=> by trivial
 | (t0,y) ::L,hE,t,x,hx=> by
  obtain ⟨h1,h2⟩:=hE
  simp only [Zn] at hx
  split at hx
  .rename_i e
   subst e
   cases hx
   split at h1
   case h_2=> exact h1.elim
   rename_i u hu
   obtain ⟨h3,s⟩:=h1
   split at s
   case h_2=> exact s.elim
   rename_i x af
   unfold ZCh at s
   split at s
   case h_2=> exact s.elim
   rename_i hT _
   obtain ⟨T,l,f⟩:=x
   obtain ⟨T',l',f'⟩:=y
   simp only at hT
   subst hT
   obtain ⟨h5,h6⟩:=s
   simp only at h5 h6
   subst h5 h6
   obtain ⟨_,hL⟩:=h.ls u _ ((hls u).trans af)
   have aa:∀ c,g.tag c=some (.tok u)->g2.tag c=some (.tok t):=fun c hc=> hr.tok c u t hc h3
   rcases hL with ⟨e1,e2⟩ | ⟨b,len,cap,e1,e2,e3,e4,e5,e6⟩
   .exact .inl ⟨hr.bs _ _ _ rfl hu e1,e2⟩
   .refine .inr ⟨b,len,cap,hr.bs _ _ _ rfl hu e1,e2,e3,e4,fun i y hy j c hc=> ?_,fun j a1 a2=> aa _ (e6 j a1 a2)⟩
    obtain ⟨v,e7,e8,e9,ab⟩:=e5 i y hy j c hc
    exact ⟨v,e7,by rw [hr.m];exact e8,fun hi=> by rw [hr.m];exact e9 hi,fun hi=> aa _ (ab hi)⟩
  .exact ZiG h hls hr h2 t x hx
theorem ZrR{g:Gh}{v:Value}{c c':C U}(h:leC cfg c c')(hr:RelC cfg g ZB v c):RelC cfg g ZB v c':=by
 cases c <;> cases c' <;> simp only [leC] at h
 case int.int k n k' n'=> obtain ⟨rfl,rfl⟩:=h;exact hr
 case bool.bool=> subst h;exact hr
 case nils.nils=> exact hr
 case nilp.nilp=> exact hr
 case nilp.po T o=>
  subst h
  have s:=hr.1
  cases s
  exact ⟨.pnil T,trivial⟩
 case po.po T o T' o'=>
  split at h
  .rename_i hT _
   subst hT
   simp only at h
   subst h
   exact hr
  .exact h.elim
 case mref.mref t t'=> subst h;exact hr
 case xp.xp k k'=> subst h;exact hr
 case nils.slice T l tl=>
  subst h
  have s:=hr.1
  cases s
  refine ⟨.snil T tl,?_⟩
  cases tl with
  | unk=> trivial
  | full=> intro a len aa u;simp at u;omega
  | own t=> intro _ a len aa u;simp at u
 case slice.slice T l tl T' l' tl'=>
  split at h
  .rename_i hT _
   subst hT
   obtain ⟨s,h2⟩:=h
   simp only at s
   subst s
   refine ⟨hr.1.tl _,?_⟩
   cases tl' with
   | unk=> trivial
   | full=> cases tl <;> simp only [Zpi] at h2;exact hr.2
   | own t'=>
    cases tl with
    | unk=> exact h2.elim
    | full=>
     intro _ b len aa u j h3 h4
     have:=hr.2 _ _ _ u
     subst this
     omega
    | own t=> have:t=t':=h2;subst this;exact hr.2
  .exact h.elim
theorem Zge{g:Gh}:∀ {vs:List Value} {cs cs':List (C U)},leL cfg cs cs'->RelL cfg g ZB vs cs->RelL cfg g ZB vs cs'
 | vs,[],[],_,hr=> hr
 | vs,c ::cs,c' ::cs',h,hr=> by
  obtain ⟨h1,h2⟩:=h
  match vs,hr with
  | v ::vs,hr=>
   have h3:=Zge (vs:=vs) h2 ⟨by simpa using hr.1,fun j u c b hc=> hr.2 (j+1) u c (by simpa using b) (by simpa using hc)⟩
   refine ⟨by simp [h3.1],fun j u d b s=> ?_⟩
   cases j with
   | zero=> simp at b s;subst b s;exact ZrR h1 (hr.2 0 _ _ rfl rfl)
   | succ j=> exact h3.2 j u d (by simpa using b) (by simpa using s)
  | [],hr=> have:=hr.1;simp at this
theorem Zzb{g:Gh}{v:Value}{ag:Bool}{cs cs':List (C U)}(h:leL cfg cs cs')(hr:RelW cfg g ZB v ag cs):RelW cfg g ZB v ag cs':=by
 cases ag with
 | true=> obtain ⟨vs,s,b⟩:=hr;exact ⟨vs,s,Zge h b⟩
 | false=>
  obtain ⟨c,rfl,b⟩:=hr
  match cs',h with
  | [c'],h=> exact ⟨c',rfl,ZrR h.1 b⟩
def RelWs(cfg:Cfg U)(g:Gh)(dead:Tok->Bool)(vs:List Value)(ws:List (Bool × List (C U))):Prop:=
 vs.length=ws.length/\∀ (j:Nat) u w,vs[j]?=some u->ws[j]?=some w->RelW cfg g dead u w.1 w.2
theorem RelWs.cons{g:Gh}{dead:Tok->Bool}{v:Value}{w:Bool × List (C U)}{vs:List Value}{ws:List (Bool × List (C U))}(h:RelW cfg g dead v w.1 w.2)(hs:RelWs cfg g dead vs ws):RelWs cfg g dead (v ::vs) (w ::ws):=by
 refine ⟨by simp [hs.1],fun j u x s b=> ?_⟩
 cases j with
 | zero=> grind
 | succ j=> exact hs.2 j u x (by simpa using s) (by simpa using b)
theorem RelWs.uncons{g:Gh}{dead:Tok->Bool}{vs:List Value}{w:Bool × List (C U)}{ws:List (Bool × List (C U))}(h:RelWs cfg g dead vs (w ::ws)):∃ v r,vs=v ::r/\RelW cfg g dead v w.1 w.2/\RelWs cfg g dead r ws:=by
 match vs,h with
 | v ::r,h=> exact ⟨v,r,rfl,h.2 0 _ _ rfl rfl,by simpa using h.1,fun j u x s b=> h.2 (j+1) u x (by simpa using s) (by simpa using b)⟩
 | [],h=> have:=h.1;simp at this
theorem ZrQ{g:Gh}:∀ {vs:List Value} {ws ws':List (Bool × List (C U))},leR cfg ws ws'->RelWs cfg g ZB vs ws->RelWs cfg g ZB vs ws'
 | vs,[],[],_,hr=> hr
 | vs,(b,cs) ::ws,(b',cs') ::ws',h,hr=> by
  obtain ⟨rfl,h1,s⟩:=h
  obtain ⟨v,r,rfl,u,h4⟩:=hr.uncons
  exact .cons (Zzb h1 u) (ZrQ s h4)
theorem ZdG(hd:∀ t,Z0j t=true->st.dead t=false):∀ (ws:List (Bool × List (C U))) (i:Nat) (seen:List (Tok × Tok)),
  Ext seen (Z2U i ws seen).2/\∀ s',Ext (Z2U i ws seen).2 s'->∀ s,Ren (fun _=> true) g s' s->∀ vs,RelWs cfg g st.dead vs ws->RelWs cfg s ZB vs (Z2U i ws seen).1
 | [],i,seen=> ⟨.refl _,fun s' _ s _ vs h=> ⟨h.1,fun j u w _ hw=> by trivial⟩⟩
 | (ag,cs) ::ws,i,seen=> by
  obtain ⟨h3,h4,h5⟩:=Z4H (cfg:=cfg) (g:=g) (okT:=fun _=> true) (mine:=Z0j) (nm:=fun j=> .r 0 (16*i+j)) hd (fun _=> rfl) cs 0 seen
  obtain ⟨h6,h7⟩:=ZdG hd ws (i+1) (Yn Z0j (fun j=> .r 0 (16*i+j)) 0 cs seen).2
  refine ⟨h3.trans h6,fun s' hs s hg vs h=> ?_⟩
  obtain ⟨v,r,rfl,h8,h9⟩:=h.uncons
  refine .cons ?_ (h7 s' hs s hg r h9)
  have hL:∀ us,RelL cfg g st.dead us cs->RelL cfg s ZB us (Yn Z0j (fun j=> .r 0 (16*i+j)) 0 cs seen).1:=fun us hu=>
   ⟨by rw [h4];exact hu.1,fun j u c af hc=> by
    have hj:j < cs.length:=by have:=(Q2.1 hc).1;omega
    exact h5 s' (h6.trans hs) s hg j u _ c (Q0 hj) hc (hu.2 j u _ af (Q0 hj))⟩
  cases ag with
  | true=> obtain ⟨us,b,ab⟩:=h8;exact ⟨us,b,hL _ ab⟩
  | false=>
   obtain ⟨c,b,ab⟩:=h8
   simp only at b
   subst b
   have:=hL [v] ⟨rfl,fun j u c hu hc=> by
    grind⟩
   simp only [Yn] at this ⊢
   exact ⟨_,rfl,this.2 0 _ _ rfl rfl⟩
theorem Zn9(h:Rel cfg B st g a w)(hdead:st.dead=ZB){mem:List (Name × List (C U))}(hm:∀ nm,st.mem nm=Z0z mem nm){ls L:List (Tok × LC U)}:∀ (X:List (List (C U))) (k:Nat) (seen:List (Tok × Tok)),Zoz cfg mem ls L k X seen->
  ∃ s',Ext seen s'/\Zey cfg ls s' L/\∀ s2,Ext s' s2->∀ b,RenA (fun _=> true) g s2 b->∀ (i:Nat) cs,X[i]?=some cs->∀ (j:Nat) c,cs[j]?=some c->∃ v,w.cell? ((g.ad (.x (k+i))).add j)=some v/\g.tag ((g.ad (.x (k+i))).add j)=some (.obj (.x (k+i)))/\RelC cfg b ZB v c
 | [],k,seen,hx=> ⟨seen,.refl _,hx,fun s2 _ b _ i cs hi=> by simp at hi⟩
 | cs' ::X,k,seen,hx=> by
  simp only [Zoz] at hx
  split at hx
  .rename_i cs ak
   obtain ⟨h1,h2⟩:=hx
   have hd:∀ t,Z0j t=true->st.dead t=false:=fun t _=> by rw [hdead];try rfl
   obtain ⟨h3,h4,h5⟩:=Z4N (cfg:=cfg) (g:=g) (okT:=fun _=> true) (mine:=Z0j) (nm:= .x k) hd (fun _=> rfl) cs 0 [] seen
   obtain ⟨s',h6,al,h7⟩:=Zn9 h hdead hm X (k+1) _ h2
   refine ⟨s',h3.trans h6,al,fun s2 hs b hg i aq hi j c hj=> ?_⟩
   cases i with
   | zero=>
    simp at hi
    subst hi
    have af:st.mem (.x k)=some cs:=by rw [hm];exact ak
    let f:Nat->Value:=fun j=> (w.cell? ((g.ad (.x k)).add j)).getD undef
    have hf:∀ j c,cs[j]?=some c->w.cell? ((g.ad (.x k)).add j)=some (f j)/\g.tag ((g.ad (.x k)).add j)=some (.obj (.x k))/\RelC cfg g st.dead (f j) c:=fun j c hc=> by
     obtain ⟨v,h8,h9,a2⟩:=h.mem _ _ af j c hc
     grind
    have hR:RelL cfg b ZB ((List.range cs.length).map f) (Z04 Z0j (.x k) 0 [] cs seen).1:=by
     have aj:=RelL.of_get (cfg:=cfg) (g:=g) (st:=st) (f:=f) (fun j c hc=> (hf j c hc).2.2)
     refine ⟨by grind,fun j u c hu hc=> ?_⟩
     have hj:j < cs.length:=by have:=(Q2.1 hc).1;omega
     exact h5 s2 (h6.trans hs) b hg j u _ c (Q0 hj) hc (aj.2 j u _ hu (Q0 hj))
    have ae:=Zge h1 hR
    have s:j < cs.length:=by have a1:=(Q2.1 hj).1;have:=ae.1;simp at this;omega
    obtain ⟨ay,aw,_⟩:=hf j _ (Q0 s)
    refine ⟨f j,V1,V1,ae.2 j _ c (by simp [s]) hj⟩
   | succ i=>
    grind
  grind
theorem Zct:∀ (args:List (V U)) (i k:Nat),Zdd (Z4m i args) k=if i<=k then (args[k - i]?).getD .junk else .junk
 | [],i,k=> by simp [Z4m,Zdd]
 | v ::args,i,k=> by
  simp only [Z4m,Zdd]
  cases hk:Nat.beq i k with
  | true=>
   simp_all
  | false=>
   have b:i≠k:=fun e=> by simp_all
   simp only [cond_false]
   rw [Zct args (i+1) k]
   grind
theorem Z1U:∀ (X:List (List (C U))) (k:Nat) (nm:Name),Z0z (Z4l k X) nm=match nm with | .x i=> if k<=i then X[i - k]? else none | .loc _=> none
 | [],k,nm=> by cases nm <;> simp [Z4l,Z0z]
 | cs ::X,k,nm=> by
  simp only [Z4l,Z0z]
  cases nm with
  | loc s=> simp [Z1U X (k+1) (.loc s)]
  | x i=>
   by_cases h:k=i
   .subst h;simp
   .rw [if_neg (fun e=> by grind),Z1U X (k+1) (.x i)]
    grind
theorem Znw(ok:CfgOk P cfg)(h:Rel cfg B st g a w){rv:ResultVar}{x:Bool × List (C U)}(he:Z8b cfg st rv=some x):
  ∃ v,(match rv with | .tmp t=> pure (a.tmps.getD t undef) | .cell t ty=> do loadVar ty (<-asAddr (a.tmps.getD t undef)):Sem Value).run P w= .ok v w/\RelW cfg g st.dead v x.1 x.2:=by
 cases rv with
 | tmp t=>
  have s:=h.env t
  simp only [Z8b] at he
  split at he <;> simp only [Option.some.injEq,reduceCtorEq] at he
  .rename_i c hc;rw [hc] at s;subst he;exact ⟨_,rfl,c,rfl,s⟩
  .rename_i cs hc;rw [hc] at s;subst he;exact ⟨_,rfl,s⟩
 | cell t ty=>
  have s:=h.env t
  simp only [Z8b] at he
  split at he
  .rename_i ag zs hv
   cases hrd:rd st (st.env t) ag zs.length with
   | none=> grind
   | some y=>
    obtain ⟨v,h1,h2⟩:=ZbE (w:=w) ok h hv s hrd
    refine ⟨v,?_,?_⟩
    .have hp:∃ b,a.tmps.getD t undef= .pointer (some b):=by
      cases hx:st.env t with
      | ptr nm off=> rw [hx] at s;exact ⟨_,s.2⟩
      | ep cs=> rw [hx] at s;obtain ⟨b,u,_⟩:=s;grind
      | ap nm off k len i=> rw [hx] at s;exact ⟨_,s.2.2⟩
      | _=> rw [hx] at hrd;simp [rd] at hrd
     obtain ⟨b,u⟩:=hp
     rw [u] at h1
     show (do let x <-asAddr (a.tmps.getD t undef);loadVar ty x:Sem Value).run P w=_
     rw [u]
     trivial
    .rw [hrd] at he
     cases y <;> simp only [Option.some.injEq,reduceCtorEq] at he
     .subst he;exact ⟨_,rfl,h2⟩
     .subst he;exact h2
  .cases he
theorem ZdH(ok:CfgOk P cfg)(h:Rel cfg B st g a w):∀ {rs:List ResultVar} {ws:List (Bool × List (C U))},Z5T cfg st rs=some ws->
  ∃ vs,(rs.mapM fun b=> (match b with | .tmp t=> pure (a.tmps.getD t undef) | .cell t ty=> do loadVar ty (<-asAddr (a.tmps.getD t undef)):Sem Value)).run P w= .ok vs w/\RelWs cfg g st.dead vs ws
 | [],ws,he=> by
  simp only [Z5T,Option.some.injEq] at he
  subst he
  exact ⟨[],by simp,rfl,fun j u w hu=> by simp at hu⟩
 | r ::rs,ws,he=> by
  simp only [Z5T] at he
  split at he
  .rename_i x l hx hl
   simp only [Option.some.injEq] at he
   subst he
   obtain ⟨v,h1,s⟩:=Znw (w:=w) ok h hx
   obtain ⟨vs,h3,h4⟩:=ZdH ok h hl
   refine ⟨v ::vs,?_,.cons s h4⟩
   simp_all
  .cases he
theorem ZnE{g:Gh}{live:Name->Bool}{r:V U}{ws:List (Bool × List (C U))}{vs:List Value}(hp:Zc1 r=some ws)(h:RelWs cfg g ZB vs ws):
  RelV cfg g ZB live (if hs:vs.toArray.size=1 then vs.toArray[0] else .tuple vs.toArray) r:=by
 cases r <;> simp only [Zc1,Option.some.injEq,reduceCtorEq] at hp
 case c x=>
  subst hp
  obtain ⟨v,r,rfl,h1,b⟩:=h.uncons
  have:r=[]:=Q3 (by simpa using b.1)
  subst this
  obtain ⟨c,hc,hr⟩:=h1
  cases hc
  exact hr
 case agg cs=>
  subst hp
  obtain ⟨v,r,rfl,h1,b⟩:=h.uncons
  have:r=[]:=Q3 (by simpa using b.1)
  subst this
  exact h1
 case tup ws'=>
  split at hp
  .cases hp
  .rename_i hl
   simp only [Option.some.injEq] at hp
   subst hp
   have s:vs.toArray.size≠1:=by have:=h.1;simpa [this] using hl
   rw [dif_neg s]
   exact ⟨_,rfl,by simpa using h.1,fun j u w hu hw=> h.2 j u w (by simpa using hu) hw⟩
def ZaE(cfg:Cfg U)(a b:C U):Prop:=∀ g v,RelC cfg g ZB v a->RelC cfg g ZB v b
def Zd8(cfg:Cfg U)(a b:V U):Prop:=∀ g live v,RelV cfg g ZB live v a->RelV cfg g ZB live v b
structure BetterAll (cfg:Cfg U) (args args':List (V U)) (X X':List (List (C U))):Prop where
 len:args.length=args'.length
 args:∀ (j:Nat) x y,args[j]?=some x->args'[j]?=some y->Zd8 cfg x y
 xlen:X.length=X'.length
 xl:∀ (k:Nat) x y,X[k]?=some x->X'[k]?=some y->x.length=y.length
 x:∀ (k:Nat) x y,X[k]?=some x->X'[k]?=some y->∀ (j:Nat) c c',x[j]?=some c->y[j]?=some c'->ZaE cfg c c'
theorem Entry.better{w:World}{g:Gh}{vs:List Value}{args args':List (V U)}{X X':List (List (C U))}{L L':List (Tok × LC U)}(h:Entry cfg w g vs args X L)(b:BetterAll cfg args args' X X')(hL:∀ t x,Zn (fun _=> none) L' t=some x->Zn (fun _=> none) L t=some x):Entry cfg w g vs args' X' L':=by
 refine ⟨h.inv,h.tags,h.len.trans b.len,fun j v y hv hy=> ?_,fun k cs hk j c hj=> ?_,h.bs,fun t x u=> h.ls t x (hL t x u)⟩
 .have hj:j < args.length:=by have:=(Q2.1 hy).1;have:=b.len;omega
  have u:=Q0 hj
  have:=b.args j _ y u hy g _ v (h.args j v _ hv u)
  have hl:Z7t X'=Z7t X:=by
   funext nm
   cases nm with
   | loc s=> rfl
   | x k=>
    have ai:=b.xlen
    show (X'[k]?).isSome=(X[k]?).isSome
    grind
  grind
 .have af:k < X.length:=by have:=(Q2.1 hk).1;have:=b.xlen;omega
  have u:=Q0 af
  have ae:j < (X[k]).length:=by have:=(Q2.1 hj).1;have:=b.xl k _ _ u hk;omega
  have hc:=Q0 ae
  obtain ⟨v,h1,h2,h3⟩:=h.x k _ u j _ hc
  exact ⟨v,h1,h2,b.x k _ _ u hk j _ c hc hj g v h3⟩
theorem BetterAll.refl(args:List (V U))(X:List (List (C U))):BetterAll cfg args args X X:=
 ⟨rfl,fun j x y u b=> by rw [u] at b;cases b;exact fun _ _ _ h=> h,rfl,fun k x y u b=> by grind,
  fun k x y u b j c c' hc s=> by rw [u] at b;cases b;rw [hc] at s;cases s;exact fun _ _ h=> h⟩
theorem ZcX {Γ:Known U} {draws:Array Oper->FSt U->Bool} (ok:CfgOk P cfg) (hΓ:∀ f s,Γ f=some s->Contract P cfg f s) (hdr:Z5t P cfg Γ draws) {f:FuncId} {fn:Func} {c:Code} (lv:Z6 U)
  (hf:P.funcs[f]?=some fn) (hb:fn.body=some c) {args:List (V U)} {X:List (List (C U))} {L:List (Tok × LC U)} {w:World} {g:Gh} {vs:List Value} (E:Entry cfg w g vs args X L) (hn:args.length<=fn.ntmps) {Q:AExit->LSt U->Prop}
  (hawp:awp cfg Γ draws fn.ntmps lv c (Jc args X L) Q) {R:Ending->World->Prop}
  (hq:∀ e' s' g' a' u,Q e' s'->Rel cfg ⟨w,g.m,g.tag,fun k=> g.ad (.x k)⟩ (s'.toF fn.ntmps) g' a' u->(∀ id,e'≠.exit id)/\a'.defers=[]/\∃ v,(results fn a'.tmps).run P u= .ok v u/\R (.returned v) u):Calls P f vs.toArray w R:=by
 let B:Base:=⟨w,g.m,g.tag,fun k=> g.ad (.x k)⟩
 have ar:vs.length<=fn.ntmps:=by rw [E.len];exact hn
 have ae:Rel cfg B ((Jc args X L).toF fn.ntmps) g { tmps:=vs.toArray++Array.replicate (fn.ntmps - vs.toArray.size) undef,defers:=[] } w:=by
  refine ⟨E.inv,⟨⟨rfl,rfl,rfl,Qb _⟩,fun _=> rfl,fun _ _ h=> h,fun c t h=> ⟨h,rfl⟩,fun c t h=> h,fun b _ _=> ⟨rfl,fun _ _=> rfl⟩,fun _ _=> rfl⟩,?_,?_,?_,rfl,fun t x hx=> ⟨rfl,E.ls t x hx⟩,fun t ht _ _=> E.bs t ht⟩
  .intro k
   have hl:(fun nm:Name=> (((Jc args X L).toF fn.ntmps).mem nm).isSome)=Z7t X:=by
    funext nm
    simp only [LSt.toF,Jc,Z1U]
    cases nm <;> simp [Z7t]
   rw [hl]
   simp only [LSt.toF,Jc,Zct,QI,if_true,Nat.sub_zero]
   cases hx:args[k]? with
   | none=> exact trivial
   | some x=>
    have hk:k < vs.length:=by rw [E.len];exact (Q2.1 hx).1
    have hv:vs[k]?=some vs[k]:=Q0 hk
    have:=E.args k _ x hv hx
    have hg:(vs.toArray++Array.replicate (fn.ntmps - vs.toArray.size) undef).getD k undef=vs[k]:=by
     simp [Array.getD,hk]
     intro h;omega
    grind
  .intro nm cs hm j c hc
   simp only [LSt.toF,Jc,Z1U] at hm
   cases nm with
   | loc s=> simp at hm
   | x k=>
    simp at hm
    exact E.x k cs hm j c hc
  .simp only [LSt.toF]
   grind
 have aj:=Zoq (B:=B) ok hΓ hdr (n:=fn.ntmps) (lv:=lv) c _ _ g _ w hawp ae
 refine calls_of_wp (R:=R) (args:=vs.toArray) hf hb (wp_mono aj ?_)
 rintro e a' u ⟨e',s',g',rfl,hQ,hr⟩
 obtain ⟨h0,h1,h2⟩:=hq e' s' g' a' u hQ hr
 cases e' with
 | normal=> trivial
 | ret=> trivial
 | exit id=> grind
theorem Z3e {Γ:Known U} {draws:Array Oper->FSt U->Bool} (ok:CfgOk P cfg) (hΓ:∀ f s,Γ f=some s->Contract P cfg f s) (hdr:Z5t P cfg Γ draws) {f:FuncId} {fn:Func} {c:Code} {s:Fs U} (lv:Z6 U)
  (hf : P.funcs[f]? = some fn) (hb : fn.body = some c) (hname : (fn.name == "runtime.NumGoroutine") = false)
  (hbody:∀ args X L ps r X' L',s.fn2 args X L=some (ps,r,X',L')->All ps->∃ args' X0 L0,BetterAll cfg args args' X X0/\(∀ t x,Zn (fun _=> none) L0 t=some x->Zn (fun _=> none) L t=some x)/\args'.length<=fn.ntmps/\awp cfg Γ draws fn.ntmps lv c (Jc args' X0 L0) (JG cfg fn.ntmps fn.results.toList r X' L')):Contract P cfg f s:=by
 refine ⟨⟨fn,hf,by simp [hb],hname⟩,?_⟩
 intro am X1 L1 ps r X' L' hs a2 hX w g vs E1
 obtain ⟨args,X,L,ai,hL,hn,ao⟩:=hbody am X1 L1 ps r X' L' hs a2
 have E:=E1.better ai hL
 refine ZcX ok hΓ hdr lv hf hb E hn ao ?_
 .intro e' s' g' a' w' hQ hr
  have hE:Zez cfg fn.ntmps fn.results.toList r X' L' s':=by cases e' <;> first | exact hQ | exact hQ.elim
  refine ⟨fun id e=> by subst e;exact hQ,?_⟩
  refine ⟨hr.df,?_⟩
  unfold Zez at hE
  split at hE
  case h_2=> exact hE.elim
  rename_i ws a8 au ak
  obtain ⟨a4,hx⟩:=hE
  obtain ⟨us,h1,h2⟩:=ZdH (w:=w') ok hr au
  have hd:∀ t,Z0j t=true->(s'.toF fn.ntmps).dead t=false:=fun t _=> rfl
  obtain ⟨h3,h4⟩:=ZdG (cfg:=cfg) (g:=g') (st:=s'.toF fn.ntmps) hd ws 0 []
  obtain ⟨sx,h5,a5,h6⟩:=Zn9 hr rfl (mem:=s'.mem) (fun _=> rfl) X' 0 _ hx
  let keep:Name->Bool:=fun nm=> match nm with | .x k=> decide (k < X'.length) | .loc _=> false
  have aa:∀ c,g'.tag c=none->(g'.anew sx keep (fun _=> true)).tag c=none:=fun c hc=> by simp only [Gh.anew,hc]
  have aj:∀ c t,g'.tag c=some (.outer t)↔(g'.anew sx keep (fun _=> true)).tag c=some (.outer t):=by
   intro c t
   simp only [Gh.anew]
   cases hg:g'.tag c with
   | none=> simp
   | some t0=>
    cases t0 with
    | obj nm=> cases hk:keep nm <;> simp [hk]
    | tok u=> cases hk:Y3 sx u <;> simp [hk]
    | outer t0=> simp
  have hW:=h4 sx h5 _ (Gh.anew_ren sx keep (fun _=> true)).toRen us h2
  have ar:=ZnE (live:=fun _=> false) ak (ZrQ a4 hW)
  refine ⟨_,?_,_,g'.anew sx keep (fun _=> true),rfl,⟨fun c v hv=> ?_,fun c t ht=> ?_⟩,?_,?_,?_,ar,?_,ZiG hr (fun _=> rfl) (Gh.anew_ren sx keep (fun _=> true)).toRen a5⟩
  .simp only [results,Sem.run_bind]
   have e1:fn.results=fn.results.toList.toArray:=by simp
   rw [e1,List.mapM_toArray]
   simp only [Sem.run_map,Sem.run_pure]
   exact congrArg (fun r:Result (List Value)=> (r.andThen fun a w'=> Result.ok a.toArray w').andThen fun a w'=> Result.ok (if h:a.size=1 then a[0] else Value.tuple a) w') h1
  .obtain ⟨h7,h8⟩:=hr.inv.im c v hv
   exact ⟨h7,aa c h8⟩
  .cases hg:g'.tag c with
   | none=> rw [aa c hg] at ht;cases ht
   | some t0=> exact hr.inv.it c t0 hg
  .have F:Fr ⟨w,g.m,g.tag,fun k=> g.ad (.x k)⟩ (g'.anew sx keep (fun _=> true)) w':=by
    refine hr.fr.step hr.inv (Evo.refl w' (fun _=> False)) (fun c hc=> hc.elim) (fun _ _ hv=> hv) (fun c t=> aj c t) ?_ (fun _=> rfl)
    intro b _ aq o sp
    cases hg:g'.tag ⟨b,o,sp⟩ with
    | none=> exact aa _ hg
    | some t=>
     obtain ⟨t',rfl⟩:=aq o sp t hg
     exact (aj _ _).1 hg
   exact ⟨F.stay,fun _=> rfl,F.mono,F.outer,F.outer',F.clean,F.frz⟩
  .intro c t ht
   simp only [Gh.anew] at ht
   split at ht
   .rename_i u hu
    cases hn:Y3 sx u with
    | none=> simp [hn] at ht
    | some u'=> simp [hn] at ht;exact .inr (.inr ⟨u',ht.symm⟩)
   .rename_i nm bb
    cases hk:keep nm with
    | false=> simp [hk] at ht
    | true=>
     simp [hk] at ht
     subst ht
     cases nm with
     | loc s=> simp [keep] at hk
     | x k=> exact .inr (.inl ⟨k,by simpa [keep] using hk,rfl⟩)
   .cases ht;exact .inl ⟨_,rfl⟩
   .cases ht
  .exact fun k _=> hr.fr.xad k
  .intro k cs hk j c hc
   obtain ⟨v,h7,h8,h9⟩:=h6 sx (.refl _) _ (Gh.anew_ren sx keep (fun _=> true)) k cs hk j c hc
   rw [QB] at h7 h8
   refine ⟨v,h7,?_,h9⟩
   have a3:k < X'.length:=(Q2.1 hk).1
   show (g'.anew sx keep (fun _=> true)).tag ((g'.ad (.x k)).add j)=_
   simp only [Gh.anew,h8,keep,a3,decide_true,cond_true]
theorem Z9F {Γ:Known U} {draws:Array Oper->FSt U->Bool} (ok:CfgOk P cfg) (hΓ:∀ f s,Γ f=some s->Contract P cfg f s) (hdr:Z5t P cfg Γ draws) {f:FuncId} {fn:Func} {c:Code} {s:Fs U} (lv:Z6 U)
  (hf : P.funcs[f]? = some fn) (hb : fn.body = some c) (hname : (fn.name == "runtime.NumGoroutine") = false)
  (hbody:∀ args X ps r X',s.fn args X=some (ps,r,X')->All ps->∃ b X0,BetterAll cfg args b X X0/\b.length<=fn.ntmps/\awp cfg Γ draws fn.ntmps lv c (Zb b X0) (ZK cfg fn.ntmps fn.results.toList r X')) (hd:s.fn2=Z9E s.fn:=by rfl):Contract P cfg f s:=by
 refine Z3e ok hΓ hdr lv hf hb hname ?_
 intro args X L ps r X' L' u aa
 rw [hd] at u
 unfold Z9E at u
 split at u
 .split at u
  .rename_i h1
   cases u
   obtain ⟨b,X0,h2,h3,h4⟩:=hbody args X _ _ _ h1 aa
   exact ⟨b,X0,[],h2,fun t x hx=> hx,h3,h4⟩
  .cases u
 .cases u
def XsN(cfg:Cfg U)(mem:List (Name × List (C U))):Nat->List (List (C U))->Prop
 | _,[]=> True
 | k,c ::r=> (match Z0z mem (.x k) with
  | some c0=> leL cfg c0 c
  | none=> False)/\c.all C.plain=true/\XsN cfg mem (k+1) r
theorem Zkh{mem:List (Name × List (C U))}:∀ {X:List (List (C U))} {k0:Nat},XsN cfg mem k0 X->∀ (k:Nat) c,X[k]?=some c->(∃ c0,Z0z mem (.x (k0+k))=some c0/\leL cfg c0 c)/\c.all C.plain=true
 | [],_,_,k,c,hk=> by simp at hk
 | c1 ::r,k0,h,0,c,hk=> by
  simp at hk
  subst hk
  refine ⟨?_,h.2.1⟩
  have b:=h.1
  split at b
  .exact ⟨_,‹_›,b⟩
  .exact b.elim
 | c1 ::r,k0,h,k+1,c,hk=> by
  have:=Zkh h.2.2 k c (by simpa using hk)
  rwa [show k0+1+k=k0+(k+1) by omega] at this
def Zth(cfg:Cfg U)(n:Nat)(rs:List ResultVar)(X:List (List (C U)))(cs:List (C U))(s:LSt U):Prop:=
 match rs with
 | [.tmp t]=> match (s.toF n).env t with
  | .ptr (.loc d) 0=> match Z0z s.mem (.loc d) with
   | some cs0=> leL cfg cs0 cs/\cs.all C.plain=true/\XsN cfg s.mem 0 X
   | none=> False
  | _=> False
 | _=> False
def Z8U(cfg:Cfg U)(n:Nat)(rs:List ResultVar)(X:List (List (C U)))(cs:List (C U))(e:AExit)(s:LSt U):Prop:=
 match e with
 | .exit _=> False
 | _=> Zth cfg n rs X cs s
theorem Z7W {Γ:Known U} {draws:Array Oper->FSt U->Bool} (ok:CfgOk P cfg) (hΓ:∀ f s,Γ f=some s->Contract P cfg f s) (hdr:Z5t P cfg Γ draws) {f:FuncId} {fn:Func} {c:Code} {s:Fs U} (lv:Z6 U)
  (hf : P.funcs[f]? = some fn) (hb : fn.body = some c) (hname : (fn.name == "runtime.NumGoroutine") = false)
  (hbody:∀ args X ps r X',s.fn args X=some (ps,r,X')->All ps->∃ args' X0 X1 cs,r= .ptr (.x X1.length) 0/\X'=X1++[cs]/\BetterAll cfg args args' X X0/\args'.length<=fn.ntmps/\awp cfg Γ draws fn.ntmps lv c (Zb args' X0) (Z8U cfg fn.ntmps fn.results.toList X1 cs)) (hd:s.fn2=Z9E s.fn:=by rfl):Contract P cfg f s:=by
 refine YJ ⟨fn,hf,by simp [hb],hname⟩ hd ?_
 intro au X2 ps r X' hs bc _ w g vs E1
 obtain ⟨args,X0,X1,cs,rfl,rfl,ah,hn,a1⟩:=hbody au X2 ps r X' hs bc
 have E:=E1.better (L':=[]) ah (fun t x hx=> hx)
 refine ZcX ok hΓ hdr lv hf hb E hn a1 ?_
 intro e' s' g' a' w' hQ hr
 have hE:Zth cfg fn.ntmps fn.results.toList X1 cs s':=by cases e' <;> first | exact hQ | exact hQ.elim
 refine ⟨fun id e=> by subst e;exact hQ,hr.df,?_⟩
 unfold Zth at hE
 split at hE
 case h_2=> exact hE.elim
 rename_i t be
 split at hE
 case h_2=> exact hE.elim
 rename_i d ht
 split at hE
 case h_2=> exact hE.elim
 rename_i ba bi
 obtain ⟨aq,ai,bd⟩:=hE
 have hv:=hr.env t
 rw [ht] at hv
 have hv:a'.tmps.getD t undef= .pointer (some ((g'.ad (.loc d)).add 0)):=hv.2
 let re:Name->Option Nat:=fun nm=> if nm= .loc d then some X1.length else match nm with
  | .x k=> if k < X1.length then some k else none
  | .loc _=> none
 let g1:Gh:={ m:=g'.m,tag:=fun c=> (match g'.tag c with | some (.outer t)=> some (.outer t) | some (.obj nm)=> (re nm).map fun k=> .obj (.x k) | _=> none),ad:=fun nm=> if nm= .x X1.length then g'.ad (.loc d) else g'.ad nm,bs:=g'.bs }
 have ao:∀ c t,g1.tag c=some (.outer t)↔g'.tag c=some (.outer t):=by
  intro c t
  simp only [g1]
  cases hg:g'.tag c with
  | none=> simp
  | some t0=>
   cases t0 with
   | obj nm=> cases re nm <;> simp
   | tok u=> simp
   | outer t0=> simp
 have ar:∀ c,g'.tag c=none->g1.tag c=none:=fun c hc=> by simp only [g1,hc]
 have a7:∀ nm k,re nm=some k->k < X1.length+1:=by
  intro nm k hk
  simp only [re] at hk
  split at hk
  .cases hk;omega
  .split at hk
   .split at hk
    .cases hk;omega
    .cases hk
   .cases hk
 have al:∀ nm k c0 c,Z0z s'.mem nm=some c0->re nm=some k->g1.ad (.x k)=g'.ad nm->leL cfg c0 c->c.all C.plain=true->∀ (j:Nat) cc,c[j]?=some cc->∃ v,w'.cell? ((g1.ad (.x k)).add j)=some v/\g1.tag ((g1.ad (.x k)).add j)=some (.obj (.x k))/\RelC cfg g1 ZB v cc:=by
  intro nm k c0 c hl hk bb aq ai j cc hj
  rw [Qo] at ai
  let fz:Nat->Value:=fun j=> (w'.cell? ((g'.ad nm).add j)).getD undef
  have hf:∀ j c,c0[j]?=some c->w'.cell? ((g'.ad nm).add j)=some (fz j)/\g'.tag ((g'.ad nm).add j)=some (.obj nm)/\RelC cfg g' ZB (fz j) c:=fun j c hc=> by
   obtain ⟨v,h8,h9,bj⟩:=hr.mem _ _ hl j c hc
   simp only [fz,h8]
   exact ⟨rfl,h9,bj⟩
  have hR:=Zge aq (RelL.of_get (cfg:=cfg) (g:=g') (st:=s'.toF fn.ntmps) (f:=fz) (fun j c hc=> (hf j c hc).2.2))
  have a0:j < c0.length:=by have bm:=(Q2.1 hj).1;have:=hR.1;simp at this;omega
  obtain ⟨a9,bh,_⟩:=hf j _ (Q0 a0)
  rw [bb]
  exact ⟨fz j,a9,by simp only [g1,bh,hk,Q9],RelC.plain (g1:=g') (g2:=g1) rfl (ai cc (Qz hj)) (hR.2 j _ cc (by simp [a0]) hj)⟩
 have am:g1.ad (.x X1.length)=g'.ad (.loc d):=by simp only [g1,if_true]
 have aj:∀ k,k≠X1.length->g1.ad (.x k)=g'.ad (.x k):=fun k hk=> by
  simp only [g1]
  rw [if_neg (by simpa using hk)]
 refine ⟨a'.tmps.getD t undef,?_,_,g1,rfl,⟨fun c v hv=> ?_,fun c t ht=> ?_⟩,?_,?_,?_,⟨rfl,by rw [hv,am]⟩,?_,fun t x hx=> by cases hx⟩
 .simp only [results,Sem.run_bind]
  have e1:fn.results=#[.tmp t]:=by apply X8;simpa using be
  rw [e1]
  simp
 .obtain ⟨h7,h8⟩:=hr.inv.im c v hv
  exact ⟨h7,ar c h8⟩
 .cases hg:g'.tag c with
  | none=> rw [ar c hg] at ht;cases ht
  | some t0=> exact hr.inv.it c t0 hg
 .refine ⟨hr.fr.stay,fun _=> rfl,hr.fr.mono,fun c t h=> ?_,fun c t h=> hr.fr.outer' c t ((ao c t).1 h),fun b hb az=> ?_,hr.fr.frz⟩
  .obtain ⟨h1,h2⟩:=hr.fr.outer c t h
   exact ⟨(ao c t).2 h1,h2⟩
  .obtain ⟨h1,h2⟩:=hr.fr.clean b hb az
   refine ⟨h1,fun o sp=> ?_⟩
   rw [<-h2 o sp]
   cases hg:g'.tag ⟨b,o,sp⟩ with
   | none=> exact ar _ hg
   | some t=>
    obtain ⟨t',rfl⟩:=az o sp t (by rw [<-h2 o sp];exact hg)
    exact (ao _ _).2 hg
 .intro c t ht
  simp only [g1] at ht
  split at ht
  .cases ht;exact .inl ⟨_,rfl⟩
  .rename_i nm _
   cases hk:re nm with
   | none=> simp [hk] at ht
   | some k=>
    simp [hk] at ht
    subst ht
    exact .inr (.inl ⟨k,by simpa using a7 nm k hk,rfl⟩)
  .cases ht
 .intro k hk
  have:k≠X1.length:=fun e=> hk (by rw [e])
  exact (aj k this).trans (hr.fr.xad k)
 .intro k a2 hk j c hj
  have bn:k < X1.length+1:=by have:=(Q2.1 hk).1;simpa using this
  rcases Xu k X1.length with hk1 | hk1
  .rw [Qv hk1] at hk
   obtain ⟨⟨c0,h1,h2⟩,h3⟩:=Zkh bd k a2 hk
   rw [QB] at h1
   exact al (.x k) k c0 a2 h1 (by simp only [re];rw [if_neg (by simp),if_pos hk1]) (aj k V1) h2 h3 j c hj
  .have:k=X1.length:=V1
   subst this
   simp at hk
   subst hk
   exact al (.loc d) _ ba cs bi (by simp only [re,if_true]) am aq ai j c hj
def Z15(o:Oper):Bool:=
 match o.op with
 | .call c=> match c.callee with
  | .builtin .len=> false
  | _=> true
 | .makeSlice _ _ _=> true
 | .buildSlice _ _ parts=> Z3f parts.toList
 | _=> false
structure Fp where
 touch:List Name
 writes:List Name
 kills:Bool
 touchT:List Tok
 writesT:List Tok
 allT:Bool
def Jy(Γ:Known U)(o:Oper)(st:FSt U):Bool:=
 match o.op with
 | .call c=> match c.callee with
  | .value g=> match st.strip.opnd g with
   | some (.fn f)=> Z6q Γ (some (.fn f))
   | some (.clo f _)=> Z6q Γ (some (.fn f))
   | _=> false
  | _=> false
 | _=> false
def Zo8(Γ:Known U)(o:Oper)(st:FSt U)(e:Eff U):Fp:={ allT:=Jy Γ o st,touch:=touch o st,writes:=e.mem.map (·.1),kills:= !e.kill.isEmpty,touchT:=touchT o st,writesT:=e.kill++e.ls.map (·.1) }
def ZgZ(l:List Tok)(t:Tok):Bool:=
 match l with
 | []=> false
 | a ::r=> if a=t then true else ZgZ r t
def Zce(a b:List Tok):Bool:=a.any fun x=> ZgZ b x
def noR(d:Nat)(a:List Tok):Bool:=a.all fun t=> match t with
 | .r d' _=> !Nat.beq d' d
 | _=> true
def Zjt(a b:List Name):Bool:=a.any fun x=> Ys b x
def Zgp(ops:Array Oper)(x y:Oper)(a b:Fp):Bool:=
 x.apart ops y && y.apart ops x && !Zjt a.writes b.touch && !Zjt b.writes a.touch && !Zjt a.writes b.writes && !(a.kills && Z15 y) && !(b.kills && Z15 x) &&
  !Zce a.writesT b.touchT && !Zce b.writesT a.touchT && !Zce a.writesT b.writesT && noR (y.dst.getD 0) a.writesT && noR (x.dst.getD 0) b.writesT &&
  (a.writesT.isEmpty || !b.allT) && (b.writesT.isEmpty || !a.allT)
structure Alike (Γ:Known U) (o:Oper) (ops:Array Oper) (st st':FSt U):Prop where
 n:st'.n=st.n
 env:∀ t,t∈o.looksAt ops->st'.env t=st.env t
 mem:∀ nm,nm∈touch o st->st'.mem nm=st.mem nm
 dead:Z15 o=true->st'.dead=st.dead
 mu:st'.mu=st.mu
 vw:st'.vw=st.vw
 ls:∀ t,t∈touchT o st->st'.ls t=st.ls t
 fr:∀ j,st'.ls (.r (o.dst.getD 0) j)=st.ls (.r (o.dst.getD 0) j)
 all:Jy Γ o st=true->st'.ls=st.ls
theorem Alike.tok{o:Oper}{ops:Array Oper}{Γ:Known U}{st st':FSt U}(h:Alike Γ o ops st st'){x:Operand}(hx:x∈J7 o){v:V U}(hv:st.strip.opnd x=some v){t:Tok}(ht:t∈v.toks):st'.ls t=st.ls t:=
 h.ls t (List.mem_flatMap.2 ⟨x,hx,by grind⟩)
theorem Z7s{st st':FSt U}{d:Nat}(hd:st'.dead=st.dead)(hf:∀ j,st'.ls (.r d j)=st.ls (.r d j)):∀ (L:List (Tok × LC U)),JE st' d L=JE st d L
 | []=> rfl
 | (t,x) ::L=> by
  simp only [JE,Z7s hd hf L]
  cases hb:ZF d t with
  | none=> rfl
  | some t'=>
   have e:∃ j,t'= .r d j:=by
    unfold ZF at hb
    split at hb
    .grind
    .grind
    .cases hb
   grind
theorem Alike.opnd{o:Oper}{ops:Array Oper}{Γ:Known U}{st st':FSt U}(h:Alike Γ o ops st st'){x:Operand}(hx:x∈o.op.operands.toList):st'.opnd x=st.opnd x/\st'.strip.opnd x=st.strip.opnd x:=by
 cases x with
 | tmp t=>
  have b:t∈o.looksAt ops:=QR _ (Xr.2 ⟨.tmp t,hx,rfl⟩)
  have:=h.env t b
  exact ⟨by simp [FSt.opnd,this],by simp [FSt.opnd,FSt.strip,this]⟩
 | const c=> trivial
 | global g=> trivial
 | func f=> trivial
theorem Zq2{st st':FSt U}{p:V U}{ag:Bool}{n:Nat}(h:∀ nm,nm∈Zz (some p)->st'.mem nm=st.mem nm):rd st' p ag n=rd st p ag n:=by
 cases p <;> simp only [rd]
 case ptr nm off=> rw [h nm (by simp [Zz])]
 case ap nm off k len i=> rw [h nm (by simp [Zz])]
theorem Z40{st st':FSt U}(hd:st'.dead=st.dead)(ps:Nat->Bool):∀ (xs:List (V U)) (i:Nat) (os:List (Name × List (C U))) (b:List (Tok × Tok)),
  (∀ x,x∈xs->∀ nm,nm∈Zz (some x)->st'.mem nm=st.mem nm)->Yc st' ps i xs os b=Yc st ps i xs os b
 | [],i,os,b,_=> rfl
 | x ::xs,i,os,b,h=> by
  have ih:=fun i os b=> Z40 hd ps xs i os b (fun y u=> h y (by simp [u]))
  simp only [Yc,hd,ih]
  cases hp:ZnA x with
  | none=> rfl
  | some nm=>
   have e:st'.mem nm.1=st.mem nm.1:=by
    refine h x (by simp) nm.1 ?_
    cases x <;> simp only [ZnA,reduceCtorEq] at hp
    .cases hp;simp [Zz]
    .split at hp
     .grind
     .rename_i s;cases s;cases hp;simp [Zz]
     .cases hp
   simp only [e]
theorem Z4O{l:List Name}{nm:Name}(h:nm∈l):nm∈Zdp l:=by
 cases l with
 | nil=> cases h
 | cons a l=> exact QR _ h
theorem ZoE{l:List Name}{k:Nat}(hk:k < 8)(hl:l≠[]):Name.x k∈Zdp l:=by
 cases l with
 | nil=> grind
 | cons a l=>
  refine Xk _ ?_
  grind
theorem Z8z:∀ {cs:List (C U)} {hv:List Name} {nm:Name},nm∈Zec cs hv->nm∈hv\/∃ k,k < 8/\nm= .x k
 | [],hv,nm,h=> .inl h
 | c ::cs,hv,nm,h=> by
  cases c with
  | xp k=>
   simp only [Zec] at h
   rcases Z8z h with h | h
   .split at h
    .rename_i hc
     rw [Q1] at hc
     rcases Qc.1 h with h | h
     .exact .inl h
     .exact .inr ⟨k,by simpa using hc.1,by simpa using h⟩
    .exact .inl h
   .exact .inr h
  | _=> exact Z8z (by simpa only [Zec] using h)
theorem Zeb{st:FSt U}:∀ {l hv:List Name} {nm:Name},nm∈Z5I st l hv->nm∈hv\/(l≠[]/\∃ k,k < 8/\nm= .x k)
 | [],hv,nm,h=> .inl h
 | a ::l,hv,nm,h=> by
  simp only [Z5I] at h
  rcases Zeb h with h | ⟨_,h⟩
  .split at h
   .rcases Z8z h with h | h
    .exact .inl h
    .exact .inr ⟨by simp,h⟩
   .exact .inl h
  .exact .inr ⟨by simp,h⟩
theorem Z9w{st st':FSt U}:∀ {l hv:List Name},(∀ nm∈l,st'.mem nm=st.mem nm)->Z5I st' l hv=Z5I st l hv
 | [],hv,_=> rfl
 | a ::l,hv,h=> by
  simp only [Z5I,h a (by simp)]
  exact Z9w fun nm b=> h nm (by simp [b])
theorem Jk:∀ {vs:List (V U)} {nm:Name},nm∈Yt vs->∃ x∈vs,nm∈Zz (some x)
 | [],nm,h=> by cases h
 | v ::vs,nm,h=> by
  simp only [Yt] at h
  split at h
  .rename_i n mk b
   rcases Q8.1 h with rfl | h
   .refine ⟨v,by simp,?_⟩
    cases v <;> simp only [ZnA,reduceCtorEq] at b
    .cases b;simp [Zz]
    .split at b
     .grind
     .rename_i s;cases s;cases b;simp [Zz]
     .cases b
   .obtain ⟨x,u,h2⟩:=Jk h
    grind
  .obtain ⟨x,u,h2⟩:=Jk h
   grind
theorem Z1o{st:FSt U}{ps:Nat->Bool}:∀ {xs:List (V U)} {i:Nat} {os:List (Name × List (C U))} {seen:List (Tok × Tok)} {ys:List (V U)} {os':List (Name × List (C U))} {seen':List (Tok × Tok)},
  Yc st ps i xs os seen=some (ys,os',seen')->os'.map (·.1)=os.map (·.1)++Yt xs
 | [],i,os,seen,ys,os',seen',h=> by
  simp only [Yc,oP] at h
  obtain ⟨_,rfl,_⟩:=h
  simp [Yt]
 | x ::xs,i,os,seen,ys,os',seen',h=> by
  simp only [Yc] at h
  split at h
  .rename_i nm mk s
   split at h
   .cases h
   split at h
   .cases h
   split at h
   .rename_i b
    simp only [oP] at h
    obtain ⟨_,rfl,_⟩:=h
    have:=Z1o b
    simp only [Yt,s]
    grind
   .cases h
  .rename_i s
   split at h
   .cases h
   split at h
   .rename_i b
    simp only [oP] at h
    obtain ⟨_,rfl,_⟩:=h
    have:=Z1o b
    simp only [Yt,s]
    exact this
   .cases h
theorem Zig{st:FSt U}{vs:List (V U)}{base:List Name}(hs:∀ x∈vs,∀ nm∈Zz (some x),nm∈base):∀ x∈vs++Z0E st vs,∀ nm∈Zz (some x),nm∈Zdp base:=by
 intro x h nm s
 rcases Qc.1 h with h | h
 .exact Z4O (hs x h nm s)
 .unfold Z0E at h
  obtain ⟨n,h1,rfl⟩:=Xx.1 h
  simp only [Zz,Qh] at s
  subst s
  rcases Zeb (XV h1) with h2 | ⟨h2,k,hk,rfl⟩
  .obtain ⟨y,u,h4⟩:=Jk h2
   exact Z4O (hs y u _ h4)
  .refine ZoE hk fun e=> ?_
   cases ha:Yt vs with
   | nil=> exact h2 ha
   | cons b l=>
    obtain ⟨y,u,h4⟩:=Jk (show b∈Yt vs by rw [ha];simp)
    grind
theorem Z4t {Γ:Known U} {st st':FSt U} {d:Nat} {f:FuncId} {vs:List (V U)} {base:List Name} (hd:st'.dead=st.dead) (hs:∀ x∈vs,∀ nm∈Zz (some x),nm∈base) (hm:∀ nm∈Zdp base,st'.mem nm=st.mem nm)
  (hB:∀ L,JE st' d L=JE st d L) (hW:∀ s,Γ.fn f=some s->∀ toks c,(bif s.wr then Jo st'.ls toks c else [])=(bif s.wr then Jo st.ls toks c else []:List (Tok × LC U))):Z3p Γ st' d f vs=Z3p Γ st d f vs:=by
 unfold Z3p
 cases hG:Γ.fn f with
 | none=> rfl
 | some s=>
  have hx:Z0E st' vs=Z0E st vs:=by
   unfold Z0E
   rw [Z9w]
   intro nm h
   obtain ⟨x,u,h2⟩:=Jk h
   exact hm nm (Z4O (hs x u nm h2))
  have h:=Zig (st:=st) hs
  simp only [hB,hW s hG,hx]
  rw [Z40 (st:=st) (st':=st') hd _ _ _ _ _ (fun x b nm ab=> hm nm (h x b nm ab))]
  cases hp:Yc st s.pass 0 (vs++Z0E st vs) [] [] with
  | none=> rfl
  | some r=>
   obtain ⟨ys,os,toks⟩:=r
   have e:(os.map fun x=> Zo9 st' os (x.2,x.1))=os.map fun x=> Zo9 st os (x.2,x.1):=by
    apply Xq
    intro x b
    have u:x.1∈os.map (·.1):=Xx.2 ⟨x,b,rfl⟩
    rw [Z1o hp] at u
    obtain ⟨y,h2,h3⟩:=Jk (show x.1∈Yt (vs++Z0E st vs) by simpa using u)
    simp only [Zo9,hm _ (h y h2 _ h3)]
   simp only [e]
theorem Z6b{st st':FSt U}{x:Option Operand}(h:∀ y,x=some y->st'.opnd y=st.opnd y):JL st' x=JL st x:=by
 cases x with
 | none=> rfl
 | some y=> simp only [JL,h y rfl]
theorem Z1t{α β:Type}{f f':α->Option β}:∀ {l:List α},(∀ x,x∈l->f' x=f x)->l.mapM f'=l.mapM f
 | [],_=> rfl
 | x ::l,h=> by rw [QQ,QQ,h x (by simp),Z1t (fun y b=> h y (by simp [b]))]
theorem Zot{Γ:Known U}{o:Oper}{ops:Array Oper}{st st':FSt U}(h:Alike Γ o ops st st'):aop cfg Γ o st'.strip=aop cfg Γ o st.strip:=by
 have ab:=fun {x:Operand} (hx:x∈o.op.operands.toList)=> (h.opnd hx).2
 have hm:=h.mem
 have hd:=h.dead
 have af:=fun {x:Operand} (hx:x∈J7 o) {v:V U} (hv:st.strip.opnd x=some v) {t:Tok} (ht:t∈v.toks)=> h.tok hx hv ht
 have aw:=h.mu
 have am:=h.fr
 have ar:=h.all
 obtain ⟨ah,op,bc,bf,a6,a7⟩:=o
 cases op <;> simp only [aop]
 case move x=> rw [ab (by simp [Op.operands])]
 case assign x=> rw [ab (by simp [Op.operands])]
 case alloc t=>
  cases ah with
  | none=> rfl
  | some d=>
   have:st'.strip.mem (.loc d)=st.strip.mem (.loc d):=hm (.loc d) (by simp [touch])
   cases cfg.var t with
   | none=> rfl
   | some z=> simp only [this]
 case box t x=>
  cases ah with
  | none=> rfl
  | some d=>
   have:st'.strip.mem (.loc d)=st.strip.mem (.loc d):=hm (.loc d) (by simp [touch])
   rw [ab (x:=x) (by simp [Op.operands])]
   cases cfg.var t with
   | none=> rfl
   | some z=>
    cases (st.strip.opnd x).bind V.cells with
    | none=> rfl
    | some cs=> simp only [this]
 case build t parts=>
  rw [Z1t (f:=fun x=> ((st.strip.opnd x.2).bind V.cells).map (x.1,·))]
  intro x hx
  rw [ab (by simp only [Op.operands];simp;exact ⟨x.1,by simpa using hx⟩)]
 case buildSlice t n parts=>
  rw [Z1t (f:=fun x=> (st.strip.opnd x.2).map (x.1,·)) (by
   intro x hx
   rw [ab (by simp only [Op.operands];simp;exact ⟨x.1,by simpa using hx⟩)])]
  have ai:st'.strip.mu=st.strip.mu:=aw
  cases hc:Z3f parts.toList with
  | false=> simp only [Bool.and_false,cond_false]
  | true=>
   have e1:st'.strip.dead=st.strip.dead:=hd hc
   cases ah with
   | none=> simp only [ZaD,ai]
   | some d=>
    have e2:st'.strip.ls (.r d 0)=st.strip.ls (.r d 0):=am 0
    simp only [ZaD,ai,e1,e2]
 case load t p=>
  rw [ab (by simp [Op.operands])]
  cases cfg.var t with
  | none=> rfl
  | some z=>
   cases hp:st.strip.opnd p with
   | none=> rfl
   | some v=>
    have:rd st'.strip v z.1 z.2.length=rd st.strip v z.1 z.2.length:=Zq2 fun nm aj=> hm nm (by simp only [touch];rw [hp];exact aj)
    cases v <;> first | (simp only [this];done) | skip
    case c c=> cases c <;> first | rfl | (simp only [this];done)
    case mp u n off=>
     have:st'.strip.ls u=st.strip.ls u:=af (x:=p) (by simp [J7]) hp (by simp [V.toks])
     simp only [this]
 case store t p x=>
  rw [ab (x:=p) (by simp [Op.operands]),ab (x:=x) (by simp [Op.operands])]
  cases cfg.var t with
  | none=> rfl
  | some z=>
   cases hp:st.strip.opnd p with
   | none=> rfl
   | some v=>
    cases v <;> try rfl
    case mp u n off=>
     have:st'.strip.ls u=st.strip.ls u:=af (x:=p) (by simp [J7]) hp (by simp [V.toks])
     cases (st.strip.opnd x).bind V.cells with
     | none=> rfl
     | some cs=> simp only [this]
    case ptr nm off=>
     have:st'.strip.mem nm=st.strip.mem nm:=hm nm (by simp only [touch];rw [hp];simp [Zz])
     cases (st.strip.opnd x).bind V.cells with
     | none=> rfl
     | some cs=> simp only [this]
    case ap nm off k len n=>
     have:st'.strip.mem nm=st.strip.mem nm:=hm nm (by simp only [touch];rw [hp];simp [Zz])
     cases (st.strip.opnd x).bind V.cells with
     | none=> rfl
     | some cs=>
      match cs with
      | []=> rfl
      | [c]=> cases c <;> first | rfl | simp only [this]
      | c ::_ ::_=> cases c <;> rfl
 case nilCheck x=>
  rw [ab (by simp [Op.operands])]
  cases hp:st.strip.opnd x with
  | none=> rfl
  | some v=>
   cases v <;> try rfl
   case c c=> cases c <;> rfl
   case mp u n off=>
    have:st'.strip.ls u=st.strip.ls u:=af (x:=x) (by simp [J7]) hp (by simp [V.toks])
    simp only [this]
 case binOp bop t x y t'=> rw [ab (x:=x) (by simp [Op.operands]),ab (x:=y) (by simp [Op.operands])]
 case unOp uop t x=> rw [ab (by simp [Op.operands])]
 case convert src dst' x=> rw [ab (by simp [Op.operands])]
 case makeSlice t n m=>
  rw [ab (x:=n) (by simp [Op.operands]),ab (x:=m) (by simp [Op.operands])]
  have ai:st'.strip.mu=st.strip.mu:=aw
  have e1:st'.strip.dead=st.strip.dead:=hd rfl
  cases ah with
  | none=> simp only [ZgN,ai]
  | some d=>
   have e2:st'.strip.ls (.r d 0)=st.strip.ls (.r d 0):=am 0
   simp only [ZgN,ai,e1,e2]
 case slice t x lo hi mx=>
  rw [ab (x:=x) (by simp [Op.operands]),Z6b (x:=lo) (fun y hy=> ab (by simp [Op.operands,hy])),Z6b (x:=hi) (fun y hy=> ab (by simp [Op.operands,hy])),Z6b (x:=mx) (fun y hy=> ab (by simp [Op.operands,hy]))]
  cases hp:st.strip.opnd x with
  | none=> rfl
  | some v=>
   cases v
   case ptr nm off=>
    have:st'.strip.mem nm=st.strip.mem nm:=hm nm (by simp only [touch];rw [hp];simp [Zz])
    cases JL st.strip lo with
    | none=> rfl
    | some a=>
     cases JL st.strip hi with
     | none=> cases a <;> rfl
     | some b=>
      cases JL st.strip mx with
      | none=> cases a <;> cases b <;> rfl
      | some c=> cases a <;> cases b <;> cases c <;> first | rfl | simp only [this]
   case c c=>
    have bb:st'.strip.vw=st.strip.vw:=h.vw
    cases c
    case mref u=>
     have:st'.strip.ls u=st.strip.ls u:=af (x:=x) (by simp [J7]) hp (by simp [V.toks])
     rcases JL st.strip lo with _ | _ | v
     case some.some=>
      cases v
      case c c=> cases c <;> rcases JL st.strip hi with _ | _ | _ <;> rcases JL st.strip mx with _ | _ | _ <;> first | rfl | simp only [this,bb]
      all_goals (cases JL st.strip hi <;> cases JL st.strip mx <;> rfl)
     all_goals (cases JL st.strip hi <;> cases JL st.strip mx <;> rfl)
    all_goals (cases JL st.strip lo <;> cases JL st.strip hi <;> cases JL st.strip mx <;> rfl)
   all_goals (cases JL st.strip lo <;> cases JL st.strip hi <;> cases JL st.strip mx <;> rfl)
 case fieldAddr t x f=>
  rw [ab (by simp [Op.operands])]
  cases hp:st.strip.opnd x with
  | none=> rfl
  | some v=>
   cases cfg.fld t f with
   | none=> cases v with
    | c c=> cases c <;> rfl
    | _=> rfl
   | some z=>
    cases v <;> try rfl
    case c c=> cases c <;> rfl
    case mp u n off=>
     have:st'.strip.ls u=st.strip.ls u:=af (x:=x) (by simp [J7]) hp (by simp [V.toks])
     simp only [this]
 case makeFunc f first caps=>
  rw [Z1t (f:=fun x=> (st.strip.opnd x).bind Znz)]
  intro x hx
  rw [ab (by simp only [Op.operands];simp;right;simpa using hx)]
 case field t x f=> rw [ab (by simp [Op.operands])]
 case indexAddr t x i=>
  rw [ab (x:=x) (by simp [Op.operands]),ab (x:=i) (by simp [Op.operands])]
  cases hp:st.strip.opnd x with
  | none=> rfl
  | some v=>
   cases hi:st.strip.opnd i with
   | none=> cases v <;> first | rfl | (rename_i y;cases y <;> rfl)
   | some vi=>
    cases vi <;> first | (cases v <;> first | (rfl;done) | (rename_i y;cases y <;> (rfl;done));done) | skip
    case c z=>
     cases z <;> first | (cases v <;> first | (rfl;done) | (rename_i y;cases y <;> (rfl;done));done) | skip
     case int k n=>
      cases v <;> first | (rfl;done) | skip
      case c y=>
       cases y <;> first | (rfl;done) | skip
       case mref u=>
        have:st'.strip.ls u=st.strip.ls u:=af (x:=x) (by simp [J7]) hp (by simp [V.toks])
        simp only [this]
 case index t x i=> rw [ab (x:=x) (by simp [Op.operands]),ab (x:=i) (by simp [Op.operands])]
 case extract x i=> rw [ab (by simp [Op.operands])]
 case call c=>
  unfold ZgP
  cases hc:c.callee with
  | builtin b=>
   simp only
   have hx:∀ x∈c.args.toList,st'.strip.opnd x=st.strip.opnd x:=fun x hx=> ab (by simp [Op.operands,Call.operands,hc];simpa using hx)
   unfold Zd7
   split
   .rename_i x t aa ax
    rw [hx x (by rw [aa];simp)]
    cases hp:st.strip.opnd x with
    | none=> rfl
    | some v=>
     have:lenOf cfg st'.strip t v=lenOf cfg st.strip t v:=by
      cases v <;> try rfl
      case c y=>
       cases y <;> try rfl
       case mref u=>
        have:st'.strip.ls u=st.strip.ls u:=af (x:=x) (by simp only [J7,hc];rw [aa];simp) hp (by simp [V.toks])
        simp only [lenOf,this]
     simp only [this]
   .rename_i x y t t' aa ax
    rw [hx x (by rw [aa];simp),hx y (by rw [aa];simp)]
    have ak:st'.dead=st.dead:=hd (by simp only [Z15,hc])
    have:∀ d t x y,Z5s cfg st'.strip d t x y=Z5s cfg st.strip d t x y:=fun d t x y=> by simp only [Z5s,FSt.strip,ak]
    have ai:st'.strip.mu=st.strip.mu:=aw
    cases ah with
    | none=> rfl
    | some d=>
     cases hp:st.strip.opnd x with
     | none=> rfl
     | some v=>
      cases v <;> try rfl
      case c cx=>
       have hM:∀ t y,Z2I cfg st'.strip d t cx y=Z2I cfg st.strip d t cx y:=by
        intro t y
        have e1:st'.strip.dead=st.strip.dead:=ak
        have e2:st'.strip.ls (.r d 0)=st.strip.ls (.r d 0):=am 0
        have e3:∀ T,Z5M cfg st'.strip T cx=Z5M cfg st.strip T cx:=by
         intro T
         cases cx <;> simp only [Z5M,e1]
         case mref u=>
          have:st'.strip.ls u=st.strip.ls u:=af (x:=x) (by simp only [J7,hc];rw [aa];simp) hp (by simp [V.toks])
          simp only [this]
        simp only [Z2I,e1,e2,e3]
       have hZ:∀ t t' y,Z2H cfg st'.strip d t t' cx y=Z2H cfg st.strip d t t' cx y:=by
        intro t t' y
        have e1:st'.strip.dead=st.strip.dead:=ak
        have e2:st'.strip.ls (.r d 0)=st.strip.ls (.r d 0):=am 0
        have e3:∀ T,Z5M cfg st'.strip T cx=Z5M cfg st.strip T cx:=by
         intro T
         cases cx <;> simp only [Z5M,e1]
         case mref u=>
          have:st'.strip.ls u=st.strip.ls u:=af (x:=x) (by simp only [J7,hc];rw [aa];simp) hp (by simp [V.toks])
          simp only [this]
        simp only [Z2H,e1,e2,e3]
       cases hq:st.strip.opnd y with
       | none=> rfl
       | some vy=> cases vy <;> first | (rfl;done) | (simp only [this,hM,hZ,ai])
   .rename_i x t aa ax
    rw [hx x (by rw [aa];simp)]
    cases hp:st.strip.opnd x with
    | none=> rfl
    | some v=>
     cases v <;> try rfl
     case vw u n=>
      have:st'.strip.ls u=st.strip.ls u:=af (x:=x) (by simp only [J7,hc];rw [aa];simp) hp (by simp [V.toks])
      simp only [ZgO,this]
   .rename_i x y t t' aa ax
    rw [hx x (by rw [aa];simp),hx y (by rw [aa];simp)]
    cases hp:st.strip.opnd x with
    | none=> rfl
    | some v=>
     cases v <;> try rfl
     case vw u n=>
      have:st'.strip.ls u=st.strip.ls u:=af (x:=x) (by simp only [J7,hc];rw [aa];simp) hp (by simp [V.toks])
      cases st.strip.opnd y with
      | none=> rfl
      | some vy=> cases vy <;> first | rfl | simp only [Zn7,this]
   .rename_i x y aa
    rw [hx x (by rw [aa];simp),hx y (by rw [aa];simp)]
   .rename_i x y aa
    rw [hx x (by rw [aa];simp),hx y (by rw [aa];simp)]
   .try rfl
  | value gx=>
   simp only
   have ak:st'.dead=st.dead:=hd (by simp only [Z15,hc])
   have hx:∀ x∈c.args.toList,st'.strip.opnd x=st.strip.opnd x:=fun x hx=> ab (by simp [Op.operands,Call.operands,hc];right;simpa using hx)
   rw [ab (x:=gx) (by simp [Op.operands,Call.operands,hc]),Z1t (f:=st.strip.opnd) hx]
   cases hg:st.strip.opnd gx with
   | none=> rfl
   | some v=>
    have ao:∀ (vs:List (V U)),c.args.toList.mapM st.strip.opnd=some vs->∀ x∈vs,∀ nm∈Zz (some x),nm∈Zz (some v)++c.args.toList.flatMap fun x=> Zz (st.strip.opnd x):=by
     intro vs hv x a8 nm aj
     obtain ⟨j,hj,rfl⟩:=Xe a8
     have bd:=(mapM_len hv)
     have a1:j < c.args.toList.length:=V1
     obtain ⟨y,h1,h2⟩:=Z49 hv j _ (Q0 a1)
     rw [Q0 hj] at h1
     cases h1
     exact Xk _ (List.mem_flatMap.2 ⟨_,List.getElem_mem a1,by rw [h2];exact aj⟩)
    have aq:∀ nm∈Zdp (Zz (some v)++c.args.toList.flatMap fun x=> Zz (st.strip.opnd x)),st'.strip.mem nm=st.strip.mem nm:=by
     intro nm aj
     refine hm nm ?_
     simp only [touch,hc,hg]
     exact Q4 _ aj
    have hB:∀ L,JE st'.strip (ah.getD 0) L=JE st.strip (ah.getD 0) L:=Z7s (st:=st.strip) (st':=st'.strip) ak am
    have hW:∀ f',(v= .fn f'\/∃ nms,v= .clo f' nms)->∀ s,Γ.fn f'=some s->∀ toks c,(bif s.wr then Jo st'.strip.ls toks c else [])=(bif s.wr then Jo st.strip.ls toks c else []:List (Tok × LC U)):=by
     intro f' hv s hG toks c'
     cases hw:s.wr with
     | false=> rfl
     | true=>
      have:st'.ls=st.ls:=ar (by
       rcases hv with rfl | ⟨nms,rfl⟩ <;> simp only [Jy,hc,hg,Z6q,hG,hw,Bool.true_or])
      simp only [cond_true,FSt.strip,this]
    cases v <;> try rfl
    case fn f=>
     cases hv:c.args.toList.mapM st.strip.opnd with
     | none=> rfl
     | some vs=>
      simp only
      cases hb:ZrL Γ f with
      | false=>
       cases hmk:Zx2 Γ f with
       | false=> simp only [cond_false];exact Z4t ak (ao vs hv) aq hB (hW f (.inl rfl))
       | true=>
        have:st'.strip.mem (.loc (ah.getD 0))=st.strip.mem (.loc (ah.getD 0)):=hm _ (by simp [touch,hc])
        have e:Z2F st'.strip vs=Z2F st.strip vs:=by
         unfold Z2F
         split
         .rename_i nm
          rw [aq nm (Z4O (ao _ hv _ Q5 nm (by simp [Zz])))]
         .try rfl
        simp only [cond_true,cond_false,Zoy,this,e]
        have a9:Z3p Γ st'.strip (ah.getD 0) f vs=Z3p Γ st.strip (ah.getD 0) f vs:=Z4t ak (ao vs hv) aq hB (hW f (.inl rfl))
        rw [a9]
      | true=>
       have:st'.ls=st.ls:=ar (by
        unfold ZrL at hb
        split at hb
        .rename_i s hG;simp only [Jy,hc,hg,Z6q,hG,hb,X7]
        .cases hb)
       have e:V.lend st'.strip=V.lend st.strip:=by
        have e2:C.lend st'.strip=C.lend st.strip:=by
         funext c
         cases c <;> simp only [C.lend,FSt.strip,this]
        funext v
        cases v <;> simp only [V.lend,e2]
       simp only [cond_true,Zex,e]
    case clo f nms=>
     cases hv:c.args.toList.mapM st.strip.opnd with
     | none=> rfl
     | some vs=>
      refine Z4t ak (fun x hx nm aj=> ?_) aq hB (hW f (.inr ⟨nms,rfl⟩))
      rcases Qc.1 hx with hx | hx
      .exact ao vs hv x hx nm aj
      .obtain ⟨be,h1,rfl⟩:=Xx.1 hx
       simp only [Zz,Qh] at aj
       subst aj
       exact QR _ (by simpa [Zz] using h1)
  | invoke r m=> rfl
where
 mapM_len {f:Operand->Option (V U)}:∀ {xs:List Operand} {vs:List (V U)},xs.mapM f=some vs->xs.length=vs.length:=by
  intro xs
  induction xs with
  | nil=> intro vs h;simp at h;subst h;rfl
  | cons y xs ih=>
   intro vs h
   rw [QQ] at h
   cases h1:f y with
   | none=> simp [h1] at h
   | some v=>
    cases h2:xs.mapM f with
    | none=> simp [h1,h2] at h
    | some r=>
     simp [h1,h2] at h
     subst h
     simp [ih h2]
theorem Z7P{st st':FSt U}{G:Option Bool}:∀ {l:List Operand},(∀ t,Operand.tmp t∈l->st'.env t=st.env t)->Jq st' G l=Jq st G l
 | [],_=> rfl
 | x ::l,h=> by
  have s:=Z7P (l:=l) (G:=G) (fun t b=> h t (by simp [b]))
  cases x with
  | tmp t=> simp only [Jq,h t (by simp),s]
  | _=> trivial
theorem Z9y{tyEq:DecidableEq U.Ty}{G:Bool}{m0 m1:Name->Option (List (C U))}:∀ {m:List (Name × List (C U))},(∀ x∈m,m1 x.1=m0 x.1)->Z2v tyEq G m1 m=Z2v tyEq G m0 m
 | [],_=> rfl
 | (nm,cs) ::r,h=> by
  simp only [Z2v,h (nm,cs) (by simp),Z9y (m:=r) (fun x b=> h x (by simp [b]))]
theorem Z46{l:List Name}{nm:Name}:Ys l nm=true↔nm∈l:=by
 refine ⟨?_,Z45⟩
 induction l with
 | nil=> intro h;cases h
 | cons x l ih=>
  intro h
  simp only [Ys] at h
  grind
theorem Z3t{o:Oper}{ops:Array Oper}{st st':FSt U}(h:∀ t,t∈o.looksAt ops->st'.env t=st.env t):touch o st'=touch o st:=by
 have s:∀ {x:Operand},x∈o.op.operands.toList->st'.strip.opnd x=st.strip.opnd x:=by
  intro x u
  cases x with
  | tmp t=> simp [FSt.opnd,FSt.strip,h t (QR _ (Xr.2 ⟨.tmp t,u,rfl⟩))]
  | _=> rfl
 obtain ⟨ai,op,ae,ah,aa,ab⟩:=o
 cases op <;> simp only [touch]
 case load t p=> rw [s (by simp [Op.operands])]
 case store t p x=> rw [s (by simp [Op.operands])]
 case slice t x lo hi mx=> rw [s (by simp [Op.operands])]
 case call c=>
  have:∀ (l:List Operand),(∀ x∈l,x∈c.args.toList)->(l.flatMap fun x=> Zz (st'.strip.opnd x))=l.flatMap fun x=> Zz (st.strip.opnd x):=by
   intro l
   induction l with
   | nil=> intro _;rfl
   | cons x l ih=>
    intro hl
    rw [XJ,XJ,ih (fun y hy=> hl y (by simp [hy])),s (by
     have:=hl x (by simp)
     cases hc:c.callee <;> simp [Op.operands,Call.operands,hc] <;> first | (right;simpa using this) | simpa using this)]
  rw [this _ (fun x u=> u)]
  cases hc:c.callee with
  | value gx=> simp only [s (x:=gx) (by simp [Op.operands,Call.operands,hc])]
  | builtin b=> rfl
  | invoke r m=> rfl
theorem Zjd{o:Oper}{x:Operand}(h:x∈J7 o):x∈o.op.operands.toList:=by
 obtain ⟨ab,op,u,aa,b,s⟩:=o
 cases op <;> simp only [J7] at h <;> (try (cases h;done))
 case load t p=> trivial
 case store t p x=> simp only [Qh] at h;subst h;simp [Op.operands]
 case nilCheck x=> trivial
 case fieldAddr t x f=> trivial
 case indexAddr t x i=> simp only [Qh] at h;subst h;simp [Op.operands]
 case slice t x lo hi mx=> simp only [Qh] at h;subst h;simp [Op.operands]
 case call c=>
  cases hc:c.callee <;> rw [hc] at h <;> (try (cases h;done))
  simp only at h
  simp only [Op.operands,Call.operands,hc]
  simpa using h
theorem Z6p{o:Oper}{ops:Array Oper}{st st':FSt U}(h:∀ t,t∈o.looksAt ops->st'.env t=st.env t):touchT o st'=touchT o st:=by
 have b:∀ {x:Operand},x∈o.op.operands.toList->st'.strip.opnd x=st.strip.opnd x:=by
  intro x u
  cases x with
  | tmp t=> simp [FSt.opnd,FSt.strip,h t (QR _ (Xr.2 ⟨.tmp t,u,rfl⟩))]
  | _=> rfl
 unfold touchT
 have:∀ (l:List Operand),(∀ x∈l,x∈J7 o)->(l.flatMap fun x=> (st'.strip.opnd x).toList.flatMap V.toks)=l.flatMap fun x=> (st.strip.opnd x).toList.flatMap V.toks:=by
  intro l
  induction l with
  | nil=> intro _;rfl
  | cons x l ih=>
   intro hl
   rw [XJ,XJ,ih (fun y s=> hl y (by simp [s])),b (Zjd (hl x (by simp)))]
 grind
theorem Z5K{Γ:Known U}{o:Oper}{ops:Array Oper}{st st':FSt U}(h:∀ t,t∈o.looksAt ops->st'.env t=st.env t):Jy Γ o st'=Jy Γ o st:=by
 obtain ⟨ab,op,u,aa,b,s⟩:=o
 cases op <;> try rfl
 case call c=>
  simp only [Jy]
  cases hc:c.callee <;> try rfl
  case value g=>
   have:st'.strip.opnd g=st.strip.opnd g:=by
    cases g with
    | tmp t=> simp [FSt.opnd,FSt.strip,h t (QR _ (Xr.2 ⟨.tmp t,by simp [Op.operands,Call.operands,hc],rfl⟩))]
    | _=> rfl
   grind
theorem Z9H{Γ:Known U}{o:Oper}{ops:Array Oper}{st st':FSt U}(h:Alike Γ o ops st st'):Z3o cfg Γ ops o st'=Z3o cfg Γ ops o st:=by
 have b:=fun {x:Operand} (hx:x∈o.op.operands.toList)=> (h.opnd hx).1
 have u:Z39 ops st' o=Z39 ops st o:=by
  unfold Z39
  cases hg:o.guard with
  | none=> rfl
  | some jw=>
   obtain ⟨j,aa⟩:=jw
   simp only
   cases s:(ops[j]?).bind (·.dst) with
   | none=> rfl
   | some t=>
    have:st'.env t=st.env t:=h.env t (Xk _ (by simp [hg,s]))
    grind
 have hN:∀ G,Jq st' G o.op.operands.toList=Jq st G o.op.operands.toList:=fun G=>
  Z7P fun t s=> h.env t (QR _ (Xr.2 ⟨.tmp t,s,rfl⟩))
 unfold Z3o
 rw [h.n]
 split
 .split
  .rename_i c x y hc
   rw [u,b (x:=c) (by simp [hc,Op.operands]),b (x:=x) (by simp [hc,Op.operands]),b (x:=y) (by simp [hc,Op.operands])]
  .have s:=Z3t (st:=st) (st':=st') h.env
   rw [u]
   simp only [Zot h,hN,s]
   split
   .try rfl
   .rename_i G ae
    cases he:aop cfg Γ o st.strip with
    | none=> rfl
    | some r=>
     obtain ⟨ps,e⟩:=r
     cases G with
     | none=> rfl
     | some Gb=>
      obtain ⟨v,m,k,l⟩:=e
      cases v with
      | none=> rfl
      | some v=>
       cases k with
       | cons _ _=> grind
       | nil=>
        cases l with
        | cons _ _=> grind
        | nil=>
        cases m with
        | nil=> rfl
        | cons x r=>
         simp only
         cases hall:(x ::r).all fun x=> Ys (touch o st) x.1 with
         | false=> rfl
         | true=>
          have hj:Z2v cfg.tyEq Gb st'.mem (x ::r)=Z2v cfg.tyEq Gb st.mem (x ::r):=Z9y fun y hy=> h.mem _ (Z46.1 (by
           grind))
          rw [hj]
 .try rfl
theorem Z33{m0:Name->Option (List (C U))}{m:List (Name × List (C U))}{nm:Name}(h:Ys (m.map (·.1)) nm=false):ZD m0 m nm=m0 nm:=by
 induction m with
 | nil=> rfl
 | cons x m ih=>
  obtain ⟨b,cs⟩:=x
  simp only [Xc,Ys] at h
  split at h
  .cases h
  .rename_i e
   simp only [ZD]
   grind
theorem Zcd{x y:List Name}(h:Zjt x y=false):∀ nm,nm∈x->Ys y nm=false:=by
 intro nm b
 unfold Zjt at h
 grind
theorem Znk{l:List Tok}{t:Tok}:ZgZ l t=true↔t∈l:=by
 induction l with
 | nil=> simp [ZgZ]
 | cons x l ih=>
  simp only [ZgZ,Q8]
  grind
theorem Z9o{x y:List Tok}(h:Zce x y=false):∀ t,t∈x->t∉y:=by
 intro t s b
 unfold Zce at h
 rw [List.any_eq_false] at h
 have:=h t s
 rw [Znk.2 b] at this
 simp at this
theorem ZnY{m:Tok->Option (LC U)}{l:List (Tok × LC U)}{t:Tok}(h:t∉l.map (·.1)):Zn m l t=m t:=by
 induction l with
 | nil=> rfl
 | cons x l ih=>
  obtain ⟨b,y⟩:=x
  simp only [Xc,Q8,not_or] at h
  simp only [Zn]
  grind
theorem Z2s{m:Tok->Option (LC U)}{e:Eff U}{t:Tok}(h:t∉e.kill++e.ls.map (·.1)):J8 m e t=m t:=by
 simp only [Qc,not_or] at h
 unfold J8
 have:e.kill.contains t=false:=by
  cases hk:e.kill.contains t with
  | false=> rfl
  | true=> exact absurd (by simpa using hk) h.1
 rw [this,cond_false,ZnY h.2]
theorem Zev {Γ:Known U} {ops:Array Oper} {x y:Oper} {st:FSt U} {e:Eff U} (hap:x.apart ops y=true) (b:Zjt (e.mem.map (·.1)) (touch y st)=false) (hk:(!e.kill.isEmpty && Z15 y)=false)
  (u:Zce (e.kill++e.ls.map (·.1)) (touchT y st)=false) (s:noR (y.dst.getD 0) (e.kill++e.ls.map (·.1))=true) (ha:((e.kill++e.ls.map (·.1)).isEmpty || !Jy Γ y st)=true):
  Alike Γ y ops st (st.app x.dst e):=by
 obtain ⟨h1,_,_⟩:=Oper.apart_spec hap
 refine ⟨?_,?_,?_,?_,by cases x.dst <;> rfl,by cases x.dst <;> rfl,fun t h=> Z2s (fun b=> Z9o u t b h),fun j=> Z2s (fun b=> ?_),fun hc=> ?_⟩
 .cases x.dst <;> rfl
 .intro t u
  cases hd:x.dst with
  | none=> rfl
  | some d=>
   have aa:t≠d:=fun e=> h1 d hd (e▸u)
   have:Nat.beq t d=false:=by
    cases hb:Nat.beq t d with
    | false=> rfl
    | true=> simp_all
   simp [FSt.app,FSt.put,this]
 .intro nm hn
  have:Ys (e.mem.map (·.1)) nm=false:=by
   cases hb:Ys (e.mem.map (·.1)) nm with
   | false=> rfl
   | true=>
    have:=Zcd b nm (Z46.1 hb)
    rw [Z45 hn] at this
    cases this
  exact Z33 this
 .intro s
  simp only [s,Xm,XY] at hk
  have:e.kill=[]:=by simpa using hk
  simp [FSt.app,this]
 .have:=Qo.1 s _ b
  simp at this
 .rw [hc] at ha
  simp only [Xl,Qn,List.isEmpty_iff] at ha
  funext t
  exact Z2s (by rw [ha];simp)
theorem Ztc{ops:Array Oper}{x y:Oper}{st:FSt U}{e f:Eff U}(hap:x.apart ops y=true)(hm:Zjt (e.mem.map (·.1)) (f.mem.map (·.1))=false)(hl:Zce (e.kill++e.ls.map (·.1)) (f.kill++f.ls.map (·.1))=false):
  (st.app x.dst e).app y.dst f=(st.app y.dst f).app x.dst e:=by
 obtain ⟨_,h2,_⟩:=Oper.apart_spec hap
 have aj:∀ (s:FSt U) (v u:V U),((s.put x.dst v).put y.dst u)=((s.put y.dst u).put x.dst v):=by
  intro s v u
  cases hx:x.dst with
  | none=> rfl
  | some d=>
   cases hy:y.dst with
   | none=> rfl
   | some d'=>
    have aa:d≠d':=fun e=> h2 d hx (by rw [hy,e])
    simp only [FSt.put]
    congr 1
    funext j
    cases h1:Nat.beq j d with
    | false=> rfl
    | true=>
     cases h3:Nat.beq j d' with
     | false=> rfl
     | true=> exact absurd ((Q6 h1).symm.trans (Q6 h3)) aa
 have ak:ZD (ZD st.mem e.mem) f.mem=ZD (ZD st.mem f.mem) e.mem:=by
  funext nm
  cases h1:Ys (e.mem.map (·.1)) nm with
  | false=>
   rw [Z33 (m:=e.mem) (m0:=ZD st.mem f.mem) h1]
   rcases Ye st.mem f.mem nm with ⟨k,cs,h3,h4⟩ | ⟨h3,h4⟩
   .rcases Ye (ZD st.mem e.mem) f.mem nm with ⟨k',cs',h5,h6⟩ | ⟨h5,h6⟩
    .have:∀ (m0 m1:Name->Option (List (C U))) (l:List (Name × List (C U))),(∃ x,x∈l/\x.1=nm)->ZD m0 l nm=ZD m1 l nm:=by
      intro m0 m1 l
      induction l with
      | nil=> rintro ⟨x,hx,_⟩;simp at hx
      | cons z l ih=>
       rintro ⟨x,hx,al⟩
       obtain ⟨b,cs⟩:=z
       simp only [ZD]
       split
       .try rfl
       .rename_i aa
        rcases Q8.1 hx with rfl | hx
        .exact absurd al.symm aa
        .exact ih ⟨x,hx,al⟩
     exact this _ _ _ ⟨_,Qz h3,rfl⟩
    .exact absurd rfl (h5 k _ h3)
   .rcases Ye (ZD st.mem e.mem) f.mem nm with ⟨k',cs',h5,h6⟩ | ⟨h5,h6⟩
    .exact absurd rfl (h3 k' _ h5)
    .rw [h6,h4,Z33 h1]
  | true=>
   have av:Ys (f.mem.map (·.1)) nm=false:=Zcd hm nm (Z46.1 h1)
   rw [Z33 (m:=f.mem) (m0:=ZD st.mem e.mem) av]
   have:∀ (m0 m1:Name->Option (List (C U))) (l:List (Name × List (C U))),Ys (l.map (·.1)) nm=true->ZD m0 l nm=ZD m1 l nm:=by
    intro m0 m1 l
    induction l with
    | nil=> intro h;cases h
    | cons z l ih=>
     obtain ⟨b,cs⟩:=z
     intro h
     simp only [Xc,Ys] at h
     simp only [ZD]
     split
     .try rfl
     .rename_i aa
      rw [if_neg (fun e=> aa e.symm)] at h
      exact ih h
   exact this _ _ _ h1
 have ai:(fun t=> (st.dead t || e.kill.contains t) || f.kill.contains t)=fun t=> (st.dead t || f.kill.contains t) || e.kill.contains t:=by
  funext t
  cases st.dead t <;> cases e.kill.contains t <;> cases f.kill.contains t <;> rfl
 have hn:∀ (s:FSt U) d v,(s.put d v).n=s.n/\(s.put d v).mem=s.mem/\(s.put d v).dead=s.dead:=by
  intro s d v;cases d <;> exact ⟨rfl,rfl,rfl⟩
 have ao:(((st.put x.dst (e.val.getD .junk))).put y.dst (f.val.getD .junk)).env=((st.put y.dst (f.val.getD .junk)).put x.dst (e.val.getD .junk)).env:=by rw [aj]
 have am:∀ (s s':FSt U) d v,s.env=s'.env->(s.put d v).env=(s'.put d v).env:=by
  intro s s' d v he;cases d <;> simp [FSt.put,he]
 have au:J8 (J8 st.ls e) f=J8 (J8 st.ls f) e:=by
  funext t
  by_cases h1:t∈e.kill++e.ls.map (·.1)
  .have h2:=Z9o hl t h1
   rw [Z2s h2]
   unfold J8
   cases he:e.kill.contains t with
   | true=> rfl
   | false=>
    simp only [cond_false]
    have h3:t∈e.ls.map (·.1):=by
     rcases Qc.1 h1 with h | h
     .have:e.kill.contains t=true:=by simpa using h
      rw [he] at this;cases this
     .exact h
    have:∀ (m0 m1:Tok->Option (LC U)) (l:List (Tok × LC U)),t∈l.map (·.1)->Zn m0 l t=Zn m1 l t:=by
     intro m0 m1 l
     induction l with
     | nil=> intro h;cases h
     | cons z l ih=>
      obtain ⟨b,y⟩:=z
      intro h
      simp only [Zn]
      split
      .try rfl
      .rename_i aa
       simp only [Xc,Q8] at h
       exact ih (h.resolve_left aa)
    exact this _ _ _ h3
  .rw [Z2s (m:=J8 st.ls f) h1]
   have:∀ (m0 m1:Tok->Option (LC U)) (l:List (Tok × LC U)),m0 t=m1 t->Zn m0 l t=Zn m1 l t:=by
    intro m0 m1 l he
    induction l with
    | nil=> exact he
    | cons z l ih=>
     obtain ⟨b,y⟩:=z
     simp only [Zn]
     split
     .try rfl
     .exact ih
   have h3:J8 st.ls e t=st.ls t:=Z2s h1
   unfold J8 at h3 ⊢
   cases hf:f.kill.contains t with
   | true=> rfl
   | false=> simp only [cond_false];exact this _ _ _ h3
 have ext:∀ {s s':FSt U},s.n=s'.n->s.env=s'.env->s.mem=s'.mem->s.dead=s'.dead->s.ls=s'.ls->s.mu=s'.mu->s.vw=s'.vw->s=s':=by
  intro s s' h1 h2 h3 h4;cases s;cases s';simp_all
 refine ext ?_ ?_ ?_ ?_ au ?_ (by cases x.dst <;> cases y.dst <;> rfl)
 .cases x.dst <;> cases y.dst <;> rfl
 .show ((st.app x.dst e).put y.dst _).env=((st.app y.dst f).put x.dst _).env
  rw [am (st.app x.dst e) (st.put x.dst (e.val.getD .junk)) y.dst _ rfl,ao,am (st.app y.dst f) (st.put y.dst (f.val.getD .junk)) x.dst _ rfl]
 .show ZD (st.app x.dst e).mem f.mem=ZD (st.app y.dst f).mem e.mem
  exact ak
 .exact ai
 .cases x.dst <;> cases y.dst <;> rfl
end Go.AM
namespace Go.AM
variable {U:Uni} {P:Program} {cfg:Cfg U} {B:Base} {g:Gh} {a:Act} {w:World} {Γ:Known U} {ops:Array Oper}
def Zmr(cfg:Cfg U)(Γ:Known U)(ops:Array Oper):List Oper->FSt U->Option (List Fp)
 | [],_=> some []
 | o ::r,st=> match Z3o cfg Γ ops o st with
  | none=> none
  | some (_,e)=> match Zmr cfg Γ ops r (st.app o.dst e) with
   | none=> none
   | some l=> some (Zo8 Γ o st e ::l)
def ZnF(ops:List Oper):Nat->Nat->Nat->Bool
 | 0,_,_=> false
 | n+1,k,h=> match ops[h]? with
  | none=> false
  | some o=> o.after.toList.any fun e=> Region.binds .any e && (Nat.beq e.on k || (Nat.blt k e.on && ZnF ops n k e.on))
def Zat:Nat->List Oper->Bool
 | _,[]=> true
 | i,o ::r=> (o.after.toList.all fun e=> !Region.binds .any e || Nat.blt e.on i) && Zat (i+1) r
def Zql(ops:Array Oper)(fps:List Fp)(k h:Nat):Bool:=
 ZnF ops.toList 5 k h || match ops.toList[k]?,ops.toList[h]?,fps[k]?,fps[h]? with
  | some x,some y,some a,some b=> Zgp ops x y a b
  | _,_,_,_=> false
def Zli(ops:Array Oper)(fps:List Fp):Bool:=
 (List.range ops.toList.length).all fun h=> (List.range h).all fun k=> Zql ops fps k h
def YF(cfg:Cfg U)(Γ:Known U)(ops:Array Oper)(st:FSt U):Bool:=
 match Zmr cfg Γ ops ops.toList st with
 | some fps=> Zat 0 ops.toList && Zli ops fps
 | none=> false
inductive Run (cfg:Cfg U) (Γ:Known U) (ops:Array Oper) (fp:Nat->Option Fp):List Nat->FSt U->FSt U->Prop
 | nil (st):Run cfg Γ ops fp [] st st
 | cons (i l st st' o ps e):ops[i]?=some o->Z3o cfg Γ ops o st=some (ps,e)->All ps->fp i=some (Zo8 Γ o st e)->Run cfg Γ ops fp l (st.app o.dst e) st'->Run cfg Γ ops fp (i ::l) st st'
theorem Z93{fps:List Fp}:∀ (l:List Oper) (k:Nat) (st st':FSt U) (ps:List Prop) (fl:List Fp),(∀ j,l[j]?=ops[k+j]?)->(∀ j,fl[j]?=fps[k+j]?)->Zd1 cfg Γ ops false l st=some (ps,st')->All ps->Zmr cfg Γ ops l st=some fl->
  Run cfg Γ ops (fun i=> fps[i]?) (List.range' k l.length) st st'
 | [],k,st,st',ps,fl,_,_,h,_,_=> by
  simp only [Zd1,oP] at h
  obtain ⟨_,rfl⟩:=h
  exact .nil st
 | o ::l,k,st,st',ps,fl,hl,hf,h,hps,hfl=> by
  rw [Z8S] at h
  simp only [Zyd] at h
  simp only [Zmr] at hfl
  split at h
  .cases h
  .rename_i aa e1 h1
   rw [h1] at hfl
   simp only at hfl
   split at h
   .cases h
   .rename_i qs ai h2
    split at hfl
    .cases hfl
    .rename_i ab b
     simp only [oP] at h hfl
     obtain ⟨rfl,rfl⟩:=h
     subst hfl
     obtain ⟨s,u⟩:=All.append hps
     rw [Qm,List.range'_succ]
     refine .cons k _ st _ o aa e1 ?_ h1 s ?_ ?_
     .have:=hl 0;grind
     .have:=hf 0;grind
     .exact Z93 l (k+1) _ _ qs ab (fun j=> by have:=hl (j+1);grind) (fun j=> by have:=hf (j+1);grind) h2 u b
def ZAc(ops:Array Oper)(fp:Nat->Option Fp)(k h:Nat):Prop:=∃ x y p q,ops[k]?=some x/\ops[h]?=some y/\fp k=some p/\fp h=some q/\Zgp ops x y p q=true
theorem ZCc{fp:Nat->Option Fp}{h:Nat}{post:List Nat}:∀ (pre:List Nat) (st st':FSt U),Run cfg Γ ops fp (pre++h ::post) st st'->(∀ k∈pre,ZAc ops fp k h)->
  ∃ o ps e,ops[h]?=some o/\Z3o cfg Γ ops o st=some (ps,e)/\All ps/\fp h=some (Zo8 Γ o st e)/\Run cfg Γ ops fp (pre++post) (st.app o.dst e) st'
 | [],st,st',hr,_=> by
  cases hr with
  | cons _ _ _ _ o ps e h1 h2 h3 h4 h5=> grind
 | k ::pre,st,st',hr,hf=> by
  cases hr with
  | cons _ _ _ _ x ps e h1 h2 h3 h4 h5=>
   obtain ⟨y,qs,f,h6,h7,h8,h9,am⟩:=ZCc pre _ st' h5 (fun j hj=> hf j (by simp [hj]))
   obtain ⟨x',y',p,q,g1,g2,g3,g4,g5⟩:=hf k (by simp)
   rw [h1] at g1
   rw [h6] at g2
   rw [h4] at g3
   rw [h9] at g4
   cases g1;cases g2;cases g3;cases g4
   simp only [Zgp,Q1,QG] at g5
   obtain ⟨⟨⟨⟨⟨⟨⟨⟨⟨⟨⟨⟨⟨a1,a2⟩,a3⟩,a4⟩,a5⟩,a6⟩,a7⟩,b3⟩,b4⟩,b5⟩,b6⟩,b7⟩,b8⟩,b9⟩:=g5
   simp only [Zo8] at a3 a4 a5 a6 a7 b3 b4 b5 b6 b7 b8 b9
   have ty:touch y (st.app x.dst e)=touch y st:=by
    refine Z3t (ops:=ops) fun t s=> ?_
    obtain ⟨u,_,_⟩:=Oper.apart_spec a1
    cases hd:x.dst with
    | none=> rfl
    | some d=>
     have b:t≠d:=fun e=> u d hd (e▸s)
     have:Nat.beq t d=false:=by
      cases hb:Nat.beq t d with
      | false=> rfl
      | true=> exact absurd (Q6 hb) b
     simp [FSt.app,FSt.put,this]
   rw [ty] at a3
   have ab:touchT y (st.app x.dst e)=touchT y st:=by
    refine Z6p (ops:=ops) fun t s=> ?_
    obtain ⟨u,_,_⟩:=Oper.apart_spec a1
    cases hd:x.dst with
    | none=> rfl
    | some d=>
     have b:t≠d:=fun e=> u d hd (e▸s)
     have:Nat.beq t d=false:=by
      cases hb:Nat.beq t d with
      | false=> rfl
      | true=> exact absurd (Q6 hb) b
     simp [FSt.app,FSt.put,this]
   rw [ab] at b3
   have aa:Jy Γ y (st.app x.dst e)=Jy Γ y st:=by
    refine Z5K (ops:=ops) fun t s=> ?_
    obtain ⟨u,_,_⟩:=Oper.apart_spec a1
    cases hd:x.dst with
    | none=> rfl
    | some d=>
     have b:t≠d:=fun e=> u d hd (e▸s)
     have:Nat.beq t d=false:=by
      cases hb:Nat.beq t d with
      | false=> rfl
      | true=> exact absurd (Q6 hb) b
     simp [FSt.app,FSt.put,this]
   rw [aa] at b8
   have ay:=Zev (st:=st) (e:=e) a1 a3 a6 b3 b6 (by simpa using b8)
   have hy:Z3o cfg Γ ops y st=some (qs,f):=by rw [<-h7];exact (Z9H ay).symm
   have tx:touch x (st.app y.dst f)=touch x st:=by
    refine Z3t (ops:=ops) fun t s=> ?_
    obtain ⟨u,_,_⟩:=Oper.apart_spec a2
    cases hd:y.dst with
    | none=> rfl
    | some d=>
     have b:t≠d:=fun e=> u d hd (e▸s)
     have:Nat.beq t d=false:=by
      cases hb:Nat.beq t d with
      | false=> rfl
      | true=> exact absurd (Q6 hb) b
     simp [FSt.app,FSt.put,this]
   have ai:touchT x (st.app y.dst f)=touchT x st:=by
    refine Z6p (ops:=ops) fun t s=> ?_
    obtain ⟨u,_,_⟩:=Oper.apart_spec a2
    cases hd:y.dst with
    | none=> rfl
    | some d=>
     have b:t≠d:=fun e=> u d hd (e▸s)
     have:Nat.beq t d=false:=by
      cases hb:Nat.beq t d with
      | false=> rfl
      | true=> exact absurd (Q6 hb) b
     simp [FSt.app,FSt.put,this]
   have ah:Jy Γ x (st.app y.dst f)=Jy Γ x st:=by
    refine Z5K (ops:=ops) fun t s=> ?_
    obtain ⟨u,_,_⟩:=Oper.apart_spec a2
    cases hd:y.dst with
    | none=> rfl
    | some d=>
     have b:t≠d:=fun e=> u d hd (e▸s)
     have:Nat.beq t d=false:=by
      cases hb:Nat.beq t d with
      | false=> rfl
      | true=> exact absurd (Q6 hb) b
     simp [FSt.app,FSt.put,this]
   have ax:=Zev (st:=st) (e:=f) a2 a4 a7 b4 b7 (by simpa using b9)
   have hx:Z3o cfg Γ ops x (st.app y.dst f)=some (ps,e):=by rw [<-h2];exact Z9H ax
   refine ⟨y,qs,f,h6,hy,h8,by rw [h9];simp only [Zo8,ty,ab,aa],?_⟩
   refine .cons k _ _ _ x ps e h1 hx h3 ?_ ?_
   .rw [h4];simp only [Zo8,tx,ai,ah]
   .rw [<-Ztc a1 a5 b5];exact am
theorem Z9g{listed:Array Bool}(hdown:∀ j o,ops[j]?=some o->listed.getD j false=true->∀ e∈o.after,Region.binds .any e=true->listed.getD e.on false=true):∀ (n k h:Nat) (o:Oper),ops[h]?=some o->
  (∀ e∈o.after,Region.binds .any e=true->listed.getD e.on false=true)->ZnF ops.toList n k h=true->listed.getD k false=true
 | 0,k,h,o,_,_,s=> by trivial
 | n+1,k,h,o,ho,hr,s=> by
  have u:ops.toList[h]?=some o:=by simpa using ho
  simp only [ZnF,u,XN] at s
  obtain ⟨e,he,s⟩:=s
  simp only [Q1,XD] at s
  obtain ⟨h1,b⟩:=s
  have aa:e∈o.after:=by simpa using he
  have hl:=hr e aa h1
  rcases b with b | ⟨_,b⟩
  .rw [<-Q6 b];exact hl
  .cases hoe:ops[e.on]? with
   | none=>
    have:ops.toList[e.on]?=none:=by simpa using hoe
    cases n with
    | zero=> trivial
    | succ n=> simp [ZnF,this] at b
   | some o2=> exact Z9g hdown n k e.on o2 hoe (hdown e.on o2 hoe hl) b
theorem Zgq(l:List Oper):∀ (i:Nat),Zat i l=true->∀ (j:Nat) (o:Oper),l[j]?=some o->∀ e∈o.after,Region.binds .any e=true->e.on < i+j:=by
 induction l with
 | nil=> grind
 | cons o l ih=>
  intro i h j u b e s hb
  simp only [Zat,Q1] at h
  cases j with
  | zero=>
   simp at b
   subst b
   have:=Qo.1 h.1 e (by simpa using s)
   simp_all
  | succ j=>
   grind
theorem ZeB (ok:CfgOk P cfg) (hΓ:∀ f s,Γ f=some s->Contract P cfg f s) {fp:Nat->Option Fp} {Q:Exit->Act->World->Prop} {st':FSt U}
  (hedge:∀ (j:Nat) o,ops[j]?=some o->∀ e∈o.after,Region.binds .any e=true->e.on < j)
  (hpair:∀ k h,k < h->h < ops.size->ZnF ops.toList 5 k h=true\/ZAc ops fp k h)
  (hQ:∀ g' a' w',Rel cfg B st' g' a' w'->Q .normal a' w'):∀ (u:Nat) (l:List Nat) (listed:Array Bool) (st:FSt U) (g:Gh) (a:Act) (w:World),
   l.length<=u->l.Pairwise (· < ·)->listed.size=ops.size->(∀ i,i < ops.size->(listed.getD i false=false↔i∈l))->(∀ i∈l,i < ops.size)->
   (∀ j o,ops[j]?=some o->listed.getD j false=true->∀ e∈o.after,Region.binds .any e=true->listed.getD e.on false=true)->
   Run cfg Γ ops fp l st st'->Rel cfg B st g a w->wpAny P .any ops Q u listed a w:=by
 intro u
 have ai:∀ (listed:Array Bool) i,listed.size=ops.size->i < ops.size->listed.getD i true=listed.getD i false:=by
  intro listed i hs hi
  simp [Array.getD,hs,hi]
 have done:∀ (l:List Nat) (listed:Array Bool),l.Pairwise (· < ·)->listed.size=ops.size->(∀ i,i < ops.size->(listed.getD i false=false↔i∈l))->(∀ i∈l,i < ops.size)->Region.ready .any ops listed=[]->l=[]:=by
  intro l listed b af hl aj hr
  cases l with
  | nil=> rfl
  | cons i l=>
   exfalso
   have hi:=aj i (by simp)
   have bb:i∈Region.ready .any ops listed:=by
    rw [mem_ready]
    refine ⟨by grind,ops[i],QH hi,fun e he hb=> ?_⟩
    have h1:=hedge i _ (QH hi) e he hb
    cases hx:listed.getD e.on false with
    | true=> rfl
    | false=>
     have:=(hl e.on V1).1 hx
     rcases Q8.1 this with h2 | h2
     .omega
     .have:=(List.pairwise_cons.1 b).1 _ h2
      omega
   grind
 induction u with
 | zero=>
  intro l listed st g a w aw b af hl aj aa ab ak
  have h0:l=[]:=Q3 V1
  subst h0
  cases ab
  refine ⟨?_,hQ g a w ak⟩
  cases hr:Region.ready .any ops listed with
  | nil=> rfl
  | cons i r=>
   have hm:i∈Region.ready .any ops listed:=by rw [hr];simp
   obtain ⟨h1,o,ho,_⟩:=mem_ready.1 hm
   grind
 | succ u ih=>
  intro l listed st g a w aw b af hl aj aa ab ak
  refine ⟨fun hr=> ?_,fun i hi=> ?_⟩
  .have h0:=done l listed b af hl aj hr
   subst h0
   cases ab
   grind
  .obtain ⟨h1,o,ho,ae⟩:=mem_ready.1 hi
   have ah:=(QE.1 ho).1
   rw [ai listed i af ah] at h1
   have a9:=(hl i ah).1 h1
   obtain ⟨pre,post,rfl⟩:=List.append_of_mem a9
   have ay:∀ k∈pre,ZAc ops fp k i:=by
    intro k hk
    have a8:k < i:=by
     have:=List.pairwise_append.1 b
     exact this.2.2 k hk i (by simp)
    rcases hpair k i a8 ah with h2 | h2
    .have h3:=Z9g aa 5 k i o ho ae h2
     grind
    .exact h2
   obtain ⟨o',ps,e,h2,h3,h4,_,h6⟩:=ZCc pre st st' ab ay
   rw [ho] at h2
   cases h2
   unfold wpOp
   simp only [ho]
   have aq:=Z9G (K:=wpAny P .any ops Q u (listed.setIfInBounds i true)) (Q:=Q) ok hΓ ak h3 h4 (by
    intro g' a' w' am
    refine ih (pre++post) (listed.setIfInBounds i true) _ g' a' w' ?_ ?_ ?_ ?_ ?_ ?_ h6 am
    .grind
    .exact b.sublist (List.Sublist.append_left (List.sublist_cons_self i post) pre)
    .simp [af]
    .intro j hj
     by_cases hij:i=j
     .subst hij
      have a6:i∉pre++post:=by
       have hp:=List.pairwise_append.1 b
       intro hm
       rcases Qc.1 hm with hm | hm
       .grind
       .have:=(List.pairwise_cons.1 hp.2.1).1 i hm;omega
      simp [Array.getD,af,hj,a6]
     .rw [getD_set_ne false hij,hl j hj]
      grind
    .intro j hj
     exact aj j (by
      grind)
    .intro j oj ao ax e he hb
     by_cases hij:i=j
     .subst hij
      rw [ho] at ao
      cases ao
      exact getD_set_true (ae e he hb)
     .rw [getD_set_ne false hij] at ax
      exact getD_set_true (aa j oj ao ax e he hb))
   split at aq
   .grind
   grind
theorem Ji(ok:CfgOk P cfg)(hΓ:∀ f s,Γ f=some s->Contract P cfg f s):Z5t P cfg Γ (YF cfg Γ):=by
 intro B st aj g a w id ops ps Q hd u af ak hQ
 unfold YF at hd
 split at hd
 case h_2=> cases hd
 rename_i fps hf
 simp only [Q1] at hd
 obtain ⟨ai,ae⟩:=hd
 refine wp_region_any ok.mixed ?_
 have hR:=Z93 (ops:=ops) (fps:=fps) ops.toList 0 st aj ps fps (fun j=> by simp) (fun j=> by simp) af ak hf
 have ab:Rel cfg B st g a { w with drawn:=w.drawn+1 }:=by
  have hc:∀ b,({ w with drawn:=w.drawn+1 }:World).cell? b=w.cell? b:=fun _=> rfl
  exact ⟨⟨fun c v hv=> u.inv.im c v hv,fun c t ht=> u.inv.it c t ht⟩,
   ⟨⟨u.fr.stay.os,u.fr.stay.tape,u.fr.stay.output,u.fr.stay.size⟩,u.fr.xad,u.fr.mono,u.fr.outer,u.fr.outer',u.fr.clean,u.fr.frz⟩,u.env,u.mem,u.sz,u.df,fun t x hx=> u.ls t x hx,u.fresh⟩
 refine ZeB (fp:=fun i=> fps[i]?) ok hΓ ?_ ?_ hQ ops.size (List.range' 0 ops.toList.length) _ st g a _ (by simp) List.pairwise_lt_range' (by simp) ?_ ?_ ?_ hR ab
 .intro j o ho e he hb
  have:=Zgq ops.toList 0 ai j o (by simpa using ho) e he hb
  omega
 .intro k h av hh
  unfold Zli at ae
  rw [Qo] at ae
  have h1:=ae h (by simpa using hh)
  rw [Qo] at h1
  have h2:=h1 k (by grind)
  unfold Zql at h2
  rw [XD] at h2
  rcases h2 with h2 | h2
  .exact .inl h2
  .right
   split at h2
   .rename_i x y p q hx hy hp hq
    exact ⟨x,y,p,q,by simpa using hx,by simpa using hy,hp,hq,h2⟩
   .cases h2
 .simp_all
 .grind
 .intro j o ho hl
  have hj:=(QE.1 ho).1
  simp_all
end Go.AM
namespace Go.AM
variable {U:Uni} {P:Program}
def Z4b{α:Type}:List (Nat × α)->Nat->Option α
 | [],_=> none
 | (a,x) ::r,t=> bif Nat.beq a t then some x else Z4b r t
theorem Z2t{α:Type}:∀ {l:List (Nat × α)} {t:Nat} {x:α},Z4b l t=some x->(t,x)∈l
 | (a,y) ::r,t,x,h=> by
  simp only [Z4b] at h
  cases hb:Nat.beq a t with
  | true=>
   simp_all
  | false=> simp [hb] at h;exact Q4 _ (Z2t h)
def ZlG:List (Nat × Nat × Nat × Nat)->Nat->Nat->Option (Nat × Nat)
 | [],_,_=> none
 | (a,b,x) ::r,t,f=> bif Nat.beq a t && Nat.beq b f then some x else ZlG r t f
theorem Ze7:∀ {l:List (Nat × Nat × Nat × Nat)} {t f:Nat} {x:Nat × Nat},ZlG l t f=some x->(t,f,x)∈l
 | (a,b,y) ::r,t,f,x,h=> by
  simp only [ZlG] at h
  cases hb:Nat.beq a t && Nat.beq b f with
  | true=>
   simp_all
  | false=> simp [hb] at h;exact Q4 _ (Ze7 h)
structure Codec (U:Uni) where
 tyEq:DecidableEq U.Ty
 dflt:(T:U.Ty)->U.El T
 enc:(T:U.Ty)->U.El T->List (C U)
 dec:(T:U.Ty)->List (C U)->Option (U.El T)
 aggT:U.Ty->Bool
 sz:U.Ty->Nat
 bytes:U.Ty->Nat
structure CodecOk (K:Codec U):Prop where
 enc_len:∀ T x,(K.enc T x).length=K.sz T
 enc_plain:∀ T x c,c∈K.enc T x->c.plain=true
 dec_ok:∀ T cs x,K.dec T cs=some x->cs.length=(K.enc T x).length/\∀ (j:Nat) c c',cs[j]?=some c->(K.enc T x)[j]?=some c'->Wk c c'
 sz_pos:∀ T,0 < K.sz T
 bytes_pos:∀ T,0 < K.bytes T
structure Tables (U:Uni) where
 el:U.Ty->TypeId
 sl:List (Nat × U.Ty)
 var:List (Nat × Bool × List (C U))
 fld:List (Nat × Nat × Nat × Nat)
 arr:List (Nat × Nat × Nat)
 eqs:List Nat:=[]
def Tables.cfg(K:Codec U)(T:Tables U):Cfg U:=
 {tyEq:=K.tyEq,dflt:=K.dflt,enc:=K.enc,dec:=K.dec,aggT:=K.aggT,sz:=K.sz,bytes:=K.bytes,elT:=T.el,
  slT:=Z4b T.sl,var:=Z4b T.var,fld:=ZlG T.fld,arr:=Z4b T.arr,eqs:=fun t=> T.eqs.any (Nat.beq t) }
def Zzh:Option (C U)->C U->Bool
 | some (.int k n),.int k' n'=> k==k' && n==n'
 | some (.bool b),.bool b'=> b==b'
 | some .nils,.nils=> true
 | some .nilp,.nilp=> true
 | _,_=> false
theorem Zvp{x:Option (C U)}{c:C U}(h:Zzh x c=true):x=some c:=by
 unfold Zzh at h
 grind
def Zvo:List Value->List (C U)->Bool
 | [],[]=> true
 | v ::r,c ::s=> Zzh (Jn v) c && Zvo r s
 | _,_=> false
theorem Zms:∀ {vs:List Value} {cs:List (C U)},Zvo vs cs=true->vs.map Jn=cs.map some
 | [],[],_=> rfl
 | v ::r,c ::s,h=> by
  simp only [Zvo,Q1] at h
  simp [Zvp h.1,Zms h.2]
def ZoD(ag:Bool)(z:Value)(zs:List (C U)):Bool:=
 (match z,ag with
  | .agg _,true=> true
  | .agg _,false=> false
  | .tuple _,_=> false
  | _,false=> true
  | _,true=> false) && Zvo z.cells.toList zs
theorem ZoC{ag:Bool}{z:Value}{zs:List (C U)}(h:ZoD ag z zs=true):ZvA ag z zs:=by
 unfold ZoD at h
 simp only [Q1] at h
 obtain ⟨u,s⟩:=h
 refine ⟨fun b=> ?_,fun b=> ?_,Zms s⟩
 .grind
 .subst b
  cases z <;> first | rfl | (simp at u;done)
def Zmq:List (C U)->TypeDesc->Bool
 | [.int k _],.int k'=> k==k'
 | [.int _ _],_=> false
 | [.bool _],.bool=> true
 | [.bool _],_=> false
 | [.nilp],.pointer _=> true
 | [.nilp],_=> false
 | _,_=> true
def ZtR(P:Program)(x:Nat × Bool × List (C U)):Bool:=
 match P.info? x.1,P.underlying x.1 with
 | some i,some d=> (Nat.beq i.size x.2.2.length && Nat.blt 0 x.2.2.length) && (TypeDesc.ag d==x.2.1) &&
  (match i.zero with | some z=> ZoD x.2.1 z x.2.2 | none=> false) && (x.2.1 || Zmq x.2.2 d) &&
  (match d with
   | .struct fs=> fs.toList.all fun fd=> (P.info? fd.type).isSome
   | .array _ e=> (P.info? e).isSome
   | _=> true)
 | _,_=> false
def slB(P:Program)(el:U.Ty->TypeId)(x:Nat × U.Ty):Bool:=
 match P.underlying x.1 with
 | some (.slice e)=> Nat.beq e (el x.2)
 | _=> false
def Zzg(P:Program)(x:Nat × Nat × Nat × Nat):Bool:=
 match P.underlying x.1 with
 | some (.struct fs)=> match fs.toList[x.2.1]? with
  | some fd=> Nat.beq fd.offset x.2.2.1 && Nat.beq fd.type x.2.2.2
  | none=> false
 | _=> false
def ZA9(P:Program)(x:Nat × Nat × Nat):Bool:=
 match P.underlying x.1 with
 | some (.array n e)=> Nat.beq n x.2.1 && Nat.beq e x.2.2
 | _=> false
def eqK(P:Program)(z:Option (C U))(t:TypeId):Bool:=
 match z,P.underlying t with
 | some (.int _ _),some (.int _)=> true
 | some (.bool _),some .bool=> true
 | _,_=> false
def eqB(P:Program)(var:List (Nat × Bool × List (C U)))(t:Nat):Bool:=
 match P.underlying t with
 | some (.struct fs)=> (match Z4b var t with
   | some (_,zs)=> Nat.beq zs.length fs.size
   | none=> true) && !P.stoodInHeld t && !P.eqGuardType P.depth t &&
  ((List.range fs.size).all fun i=> match fs[i]? with
   | some f => f.name != "_" && Nat.beq f.offset i && (match Z4b var t with
    | some (_,zs)=> eqK P zs[i]? f.type
    | none=> true)
   | none=> false)
 | _=> false
def elB(P:Program)(K:Codec U)(T:Tables U)(t:U.Ty):Bool:=
 match P.info? (T.el t),Z4b T.var (T.el t) with
 | some i,some (_,zs)=> Nat.beq i.size (K.sz t) && Nat.beq i.bytes (K.bytes t) && i.zero.isSome && Nat.beq zs.length (K.sz t)
 | _,_=> false
theorem Znm {K:Codec U} (ck:CodecOk K) {T:Tables U} (hv:T.var.all (ZtR P)=true) (hs:T.sl.all (slB P T.el)=true) (hf:T.fld.all (Zzg P)=true) (ha:T.arr.all (ZA9 P)=true)
  (he:∀ t,elB P K T t=true) (hm:P.follows .mixedOrders=true) (hq:T.eqs.all (eqB P T.var)=true):CfgOk P (T.cfg K):=by
 refine ⟨ck.enc_len,ck.enc_plain,ck.dec_ok,ck.sz_pos,ck.bytes_pos,?_,?_,?_,?_,?_,hm,?_,?_⟩
 .intro t
  have h:=he t
  unfold elB at h
  split at h
  .rename_i i ag zs h1 h2
   simp only [Q1] at h
   obtain ⟨⟨⟨h3,h4⟩,u⟩,h6⟩:=h
   obtain ⟨z,hz⟩:=QN.1 u
   exact ⟨i,ag,zs,z,h1,Q6 h3,Q6 h4,hz,h2,Q6 h6⟩
  .cases h
 .intro t S h
  have:=Qo.1 hs _ (Z2t h)
  unfold slB at this
  simp only at this
  split at this
  .rename_i e hu
   rw [hu,Q6 this];try rfl
  .cases this
 .intro t ag zs h
  have:=Qo.1 hv _ (Z2t h)
  unfold ZtR at this
  simp only at this
  split at this
  .rename_i i d hi hu
   simp only [Q1] at this
   obtain ⟨⟨⟨⟨⟨h1,h2⟩,h3⟩,h4⟩,u⟩,h6⟩:=this
   split at h4
   .rename_i z hz
    refine ⟨Nat.blt_eq.mp h2,i,z,d,hi,hu,Q6 h1,by simpa using h3,hz,ZoC h4,?_,?_,?_,?_⟩
    .intro aj k n ah
     subst aj
     simp only [XL] at u
     subst ah
     unfold Zmq at u
     split at u <;> simp_all
    .intro aj b ah
     subst aj
     simp only [XL] at u
     subst ah
     unfold Zmq at u
     split at u <;> simp_all
    .intro fs hd
     subst hd
     exact h6
    .intro n e hd
     subst hd
     exact h6
   .cases h4
  .cases this
 .intro s f az t h
  have:=Qo.1 hf _ (Ze7 h)
  unfold Zzg at this
  simp only at this
  split at this
  .rename_i fs hu
   split at this
   .rename_i fd av
    simp only [Q1] at this
    exact ⟨fs,fd,hu,by simpa using av,Nat.eq_of_beq_eq_true this.1,Nat.eq_of_beq_eq_true this.2⟩
   .cases this
  .cases this
 .intro t n e h
  have:=Qo.1 ha _ (Z2t h)
  unfold ZA9 at this
  simp only at this
  split at this
  .rename_i n' e' hu
   simp only [Q1] at this
   rw [hu,Q6 this.1,Q6 this.2]
  .cases this
 .intro t ht
  obtain ⟨t',h1,h2⟩:=XN.1 ht
  have e:=Q6 h2
  subst e
  have h3:=Qo.1 hq _ h1
  unfold eqB at h3
  split at h3
  .rename_i fs hu
   simp only [Q1,QG] at h3
   obtain ⟨⟨⟨h4,u⟩,h6⟩,h7⟩:=h3
   refine ⟨fs,hu,fun ag zs hz=> ?_,u,h6,fun i f hf=> ?_⟩
   .have ai:Z4b T.var t=some (ag,zs):=hz
    rw [ai] at h4
    exact Q6 h4
   .have hi:=(QE.1 hf).1
    have h8:=Qo.1 h7 i (by simpa using hi)
    rw [hf] at h8
    simp only [Q1,bne_iff_ne,ne_eq] at h8
    refine ⟨h8.1.1,Q6 h8.1.2,fun ag zs hz=> ?_⟩
    have h9:=h8.2
    have ai:Z4b T.var t=some (ag,zs):=hz
    rw [ai] at h9
    dsimp only at h9
    unfold eqK at h9
    split at h9
    .rename_i e1 e2
     exact ⟨fun _ _ _=> ⟨_,e2⟩,fun _ h=> by (rw [e1] at h;cases h)⟩
    .rename_i e1 e2
     exact ⟨fun _ _ h=> by (rw [e1] at h;cases h),fun _ _=> e2⟩
    .cases h9
  .cases h3
 .intro t h
  have:=Qo.1 hv _ (Z2t h)
  unfold ZtR at this
  simp only at this
  split at this
  .rename_i i d hi hu
   simp only [Q1] at this
   obtain ⟨⟨_,u⟩,_⟩:=this
   cases d <;> first | exact ⟨_,hu⟩ | (simp [Zmq] at u;done)
  .cases this
end Go.AM
namespace Go.AM
structure WEdit where
 at_:Int
 mask:Int
 old:Int
 new:Int
inductive Tree where
 | mk (kind:Int) (words:List Int) (kids:List Tree)
def Tree.kind:Tree->Int | .mk k _ _=> k
def Tree.words:Tree->List Int | .mk _ w _=> w
def Tree.kids:Tree->List Tree | .mk _ _ k=> k
@[simp] theorem Tree.eta (t:Tree):Tree.mk t.kind t.words t.kids=t:=by cases t;rfl
@[simp] theorem Tree.kind_mk (k:Int) (w:List Int) (ks:List Tree):(Tree.mk k w ks).kind=k:=rfl
@[simp] theorem Tree.words_mk (k:Int) (w:List Int) (ks:List Tree):(Tree.mk k w ks).words=w:=rfl
@[simp] theorem Tree.kids_mk (k:Int) (w:List Int) (ks:List Tree):(Tree.mk k w ks).kids=ks:=rfl
structure KidOf (E:Type) where
 at_:Int
 e:E
structure OpOf (E:Type) where
 kind:Int
 n:Int
 l:List Tree
 e:E
inductive Edit where
 | mk (kind:Int) (old new:Tree) (words:List WEdit) (kids:List (KidOf Edit)) (list:Int) (ops:List (OpOf Edit))
abbrev Kid:=KidOf Edit
abbrev Op:=OpOf Edit
def Edit.kind:Edit->Int | .mk k _ _ _ _ _ _=> k
def Edit.old:Edit->Tree | .mk _ o _ _ _ _ _=> o
def Edit.new:Edit->Tree | .mk _ _ n _ _ _ _=> n
def Edit.words:Edit->List WEdit | .mk _ _ _ w _ _ _=> w
def Edit.kids:Edit->List Kid | .mk _ _ _ _ k _ _=> k
def Edit.list:Edit->Int | .mk _ _ _ _ _ l _=> l
def Edit.ops:Edit->List Op | .mk _ _ _ _ _ _ o=> o
@[simp] theorem Edit.eta (e:Edit):Edit.mk e.kind e.old e.new e.words e.kids e.list e.ops=e:=by cases e;rfl
section
variable (k:Int) (o n:Tree) (w:List WEdit) (ks:List Kid) (l:Int) (os:List Op)
@[simp] theorem Edit.kind_mk:(Edit.mk k o n w ks l os).kind=k:=rfl
@[simp] theorem Edit.old_mk:(Edit.mk k o n w ks l os).old=o:=rfl
@[simp] theorem Edit.new_mk:(Edit.mk k o n w ks l os).new=n:=rfl
@[simp] theorem Edit.words_mk:(Edit.mk k o n w ks l os).words=w:=rfl
@[simp] theorem Edit.kids_mk:(Edit.mk k o n w ks l os).kids=ks:=rfl
@[simp] theorem Edit.list_mk:(Edit.mk k o n w ks l os).list=l:=rfl
@[simp] theorem Edit.ops_mk:(Edit.mk k o n w ks l os).ops=os:=rfl
end
def Tree.nil:Tree:= .mk 0 [] []
def Edit.nil:Edit:= .mk 0 Tree.nil Tree.nil [] [] 0 []
def Op.nil:Op:=⟨0,0,[],Edit.nil⟩
structure AUnit where
 step:Int
 kind:Int
 t:Tree
 e:Edit
 alone:Bool
def AUnit.nil:AUnit:=⟨0,0,Tree.nil,Edit.nil,false⟩
structure PStep where
 kind:Int
 at_:Int
structure Piece where
 of:Int
 p:Op
 q:Op
structure APair where
 of:Int
 p:AUnit
 q:AUnit
structure LeftE where
 x:Edit
 y:Edit
 clash:Bool
 apart:Bool
structure Deed where
 kind:Int
 i:Int
 e:Edit
structure HDeed where
 kind:Int
 who:Int
 version:Int
 e:Edit
inductive Ty where
 | u64 | u8 | int | tree | wedit | edit | kid | op | piece | unit | pair | left | deed | hdeed
 deriving DecidableEq
@[reducible] def El:Ty->Type
 | .u64=> Int
 | .u8=> Int
 | .int=> Int
 | .tree=> Tree
 | .wedit=> WEdit
 | .edit=> Edit
 | .kid=> Kid
 | .op=> Op
 | .piece=> Piece
 | .unit=> AUnit
 | .pair=> APair
 | .left=> LeftE
 | .deed=> Deed
 | .hdeed=> HDeed
@[reducible] def U:Uni:={ Ty:=Ty,El:=El }
abbrev sl(T:Ty)(l:List (El T)):C U:= .slice (U:=U) T l .unk
def Zx9(x:Tree):List (C U):=[.int .i64 x.kind,sl .u64 x.words,sl .tree x.kids]
def Zsn(x:WEdit):List (C U):=[.int .i64 x.at_,.int .u8 x.mask,.int .u64 x.old,.int .u64 x.new]
def Zxc(x:Edit):List (C U):=[.int .i64 x.kind,.int .i64 x.old.kind,sl .u64 x.old.words,sl .tree x.old.kids,.int .i64 x.new.kind,sl .u64 x.new.words,sl .tree x.new.kids,sl .wedit x.words,sl .kid x.kids,.int .i64 x.list,sl .op x.ops]
def ZCv(x:Kid):List (C U):=[.int .i64 x.at_,.int .i64 x.e.kind,.int .i64 x.e.old.kind,sl .u64 x.e.old.words,sl .tree x.e.old.kids,.int .i64 x.e.new.kind,sl .u64 x.e.new.words,sl .tree x.e.new.kids,sl .wedit x.e.words,sl .kid x.e.kids,.int .i64 x.e.list,sl .op x.e.ops]
def eOp(x:Op):List (C U):=[.int .i64 x.kind,.int .i64 x.n,sl .tree x.l,.int .i64 x.e.kind,.int .i64 x.e.old.kind,sl .u64 x.e.old.words,sl .tree x.e.old.kids,.int .i64 x.e.new.kind,sl .u64 x.e.new.words,sl .tree x.e.new.kids,sl .wedit x.e.words,sl .kid x.e.kids,.int .i64 x.e.list,sl .op x.e.ops]
def Zso(x:Piece):List (C U):=[.int .i64 x.of,.int .i64 x.p.kind,.int .i64 x.p.n,sl .tree x.p.l,.int .i64 x.p.e.kind,.int .i64 x.p.e.old.kind,sl .u64 x.p.e.old.words,sl .tree x.p.e.old.kids,.int .i64 x.p.e.new.kind,sl .u64 x.p.e.new.words,sl .tree x.p.e.new.kids,sl .wedit x.p.e.words,sl .kid x.p.e.kids,.int .i64 x.p.e.list,sl .op x.p.e.ops,.int .i64 x.q.kind,.int .i64 x.q.n,sl .tree x.q.l,.int .i64 x.q.e.kind,.int .i64 x.q.e.old.kind,sl .u64 x.q.e.old.words,sl .tree x.q.e.old.kids,.int .i64 x.q.e.new.kind,sl .u64 x.q.e.new.words,sl .tree x.q.e.new.kids,sl .wedit x.q.e.words,sl .kid x.q.e.kids,.int .i64 x.q.e.list,sl .op x.q.e.ops]
def Zx8(x:AUnit):List (C U):=[.int .i64 x.step,.int .i64 x.kind,.int .i64 x.t.kind,sl .u64 x.t.words,sl .tree x.t.kids,.int .i64 x.e.kind,.int .i64 x.e.old.kind,sl .u64 x.e.old.words,sl .tree x.e.old.kids,.int .i64 x.e.new.kind,sl .u64 x.e.new.words,sl .tree x.e.new.kids,sl .wedit x.e.words,sl .kid x.e.kids,.int .i64 x.e.list,sl .op x.e.ops,.bool x.alone]
def Zxa(x:APair):List (C U):=[.int .i64 x.of,.int .i64 x.p.step,.int .i64 x.p.kind,.int .i64 x.p.t.kind,sl .u64 x.p.t.words,sl .tree x.p.t.kids,.int .i64 x.p.e.kind,.int .i64 x.p.e.old.kind,sl .u64 x.p.e.old.words,sl .tree x.p.e.old.kids,.int .i64 x.p.e.new.kind,sl .u64 x.p.e.new.words,sl .tree x.p.e.new.kids,sl .wedit x.p.e.words,sl .kid x.p.e.kids,.int .i64 x.p.e.list,sl .op x.p.e.ops,.bool x.p.alone,.int .i64 x.q.step,.int .i64 x.q.kind,.int .i64 x.q.t.kind,sl .u64 x.q.t.words,sl .tree x.q.t.kids,.int .i64 x.q.e.kind,.int .i64 x.q.e.old.kind,sl .u64 x.q.e.old.words,sl .tree x.q.e.old.kids,.int .i64 x.q.e.new.kind,sl .u64 x.q.e.new.words,sl .tree x.q.e.new.kids,sl .wedit x.q.e.words,sl .kid x.q.e.kids,.int .i64 x.q.e.list,sl .op x.q.e.ops,.bool x.q.alone]
def Zxb(x:LeftE):List (C U):=[.int .i64 x.x.kind,.int .i64 x.x.old.kind,sl .u64 x.x.old.words,sl .tree x.x.old.kids,.int .i64 x.x.new.kind,sl .u64 x.x.new.words,sl .tree x.x.new.kids,sl .wedit x.x.words,sl .kid x.x.kids,.int .i64 x.x.list,sl .op x.x.ops,.int .i64 x.y.kind,.int .i64 x.y.old.kind,sl .u64 x.y.old.words,sl .tree x.y.old.kids,.int .i64 x.y.new.kind,sl .u64 x.y.new.words,sl .tree x.y.new.kids,sl .wedit x.y.words,sl .kid x.y.kids,.int .i64 x.y.list,sl .op x.y.ops,.bool x.clash,.bool x.apart]
def Zxd(x:Deed):List (C U):=[.int .i64 x.kind,.int .i64 x.i,.int .i64 x.e.kind,.int .i64 x.e.old.kind,sl .u64 x.e.old.words,sl .tree x.e.old.kids,.int .i64 x.e.new.kind,sl .u64 x.e.new.words,sl .tree x.e.new.kids,sl .wedit x.e.words,sl .kid x.e.kids,.int .i64 x.e.list,sl .op x.e.ops]
def Zsp(x:HDeed):List (C U):=[.int .i64 x.kind,.int .i64 x.who,.int .i64 x.version,.int .i64 x.e.kind,.int .i64 x.e.old.kind,sl .u64 x.e.old.words,sl .tree x.e.old.kids,.int .i64 x.e.new.kind,sl .u64 x.e.new.words,sl .tree x.e.new.kids,sl .wedit x.e.words,sl .kid x.e.kids,.int .i64 x.e.list,sl .op x.e.ops]
def enc:(T:Ty)->El T->List (C U)
 | .u64,n=> [.int .u64 n]
 | .u8,n=> [.int .u8 n]
 | .int,n=> [.int .i64 n]
 | .tree,x=> Zx9 x
 | .wedit,x=> Zsn x
 | .edit,x=> Zxc x
 | .kid,x=> ZCv x
 | .op,x=> eOp x
 | .piece,x=> Zso x
 | .unit,x=> Zx8 x
 | .pair,x=> Zxa x
 | .left,x=> Zxb x
 | .deed,x=> Zxd x
 | .hdeed,x=> Zsp x
abbrev Rd(α:Type):=List (C U)->Option (α × List (C U))
def Z0V(k:IntKind):Rd Int
 | .int k' n ::r=> if k=k' then some (n,r) else none
 | _=> none
def Zhs:Rd Bool
 | .bool b ::r=> some (b,r)
 | _=> none
def rSl(T:Ty):Rd (List (El T))
 | .nils ::r=> some ([],r)
 | .slice S l _ ::r=> match (inferInstance:DecidableEq Ty) S T with
  | isTrue h=> some (h▸l,r)
  | isFalse _=> none
 | _=> none
def ZI{α β:Type}(x:Rd α)(f:α->Rd β):Rd β:=fun cs=> match x cs with
 | some (a,r)=> f a r
 | none=> none
def Z3U{α:Type}(a:α):Rd α:=fun cs=> some (a,cs)
def WkL:List (C U)->List (C U)->Prop
 | [],[]=> True
 | c ::r,c' ::r'=> Wk c c'/\WkL r r'
 | _,_=> False
theorem WkL.append:∀ {a b c d:List (C U)},WkL a b->WkL c d->WkL (a++c) (b++d)
 | [],[],_,_,_,h=> h
 | _ ::_,_ ::_,_,_,h,k=> ⟨h.1,WkL.append h.2 k⟩
theorem WkL.get:∀ {a b:List (C U)},WkL a b->a.length=b.length/\∀ (j:Nat) c u,a[j]?=some c->b[j]?=some u->Wk c u
 | [],[],_=> ⟨rfl,fun j c u h=> by simp at h⟩
 | x ::a,y ::b,h=> by
  obtain ⟨h1,h2⟩:=WkL.get h.2
  refine ⟨by simp [h1],fun j c u hc s=> ?_⟩
  cases j with
  | zero=> simp at hc s;subst hc s;exact h.1
  | succ j=> exact h2 j c u (by simpa using hc) (by simpa using s)
def Z0P{α:Type}(r:Rd α)(e:α->List (C U)):Prop:=∀ cs x rest,r cs=some (x,rest)->∃ p,cs=p++rest/\WkL p (e x)
theorem Zy(k:IntKind):Z0P (Z0V k) fun n=> [.int k n]:=by
 intro cs x b h
 unfold Z0V at h
 split at h
 .split at h
  .rename_i s
   subst s
   cases h
   exact ⟨[_],rfl,.int _ _,trivial⟩
  .cases h
 .cases h
theorem Z5Y:Z0P Zhs fun b=> [.bool b]:=by
 intro cs x s h
 unfold Zhs at h
 split at h
 .cases h;exact ⟨[_],rfl,.bool _,trivial⟩
 .cases h
theorem Z1k(T:Ty):Z0P (rSl T) fun l=> [sl T l]:=by
 intro cs x s h
 unfold rSl at h
 split at h
 .cases h;exact ⟨[_],rfl,(Wk.snil (U:=U) T:Wk (U:=U) .nils (.slice T [] .unk)),trivial⟩
 .split at h
  .rename_i b _
   subst b
   cases h
   exact ⟨[_],rfl,.slice _ _ _,trivial⟩
  .cases h
 .cases h
theorem ZM{α β:Type}{x:Rd α}{f:α->Rd β}{ex:α->List (C U)}(hx:Z0P x ex){cs:List (C U)}{b:β}{rest:List (C U)}(h:ZI x f cs=some (b,rest)):
  ∃ a p r,cs=p++r/\WkL p (ex a)/\f a r=some (b,rest):=by
 unfold ZI at h
 split at h
 .rename_i a r s
  obtain ⟨p,rfl,u⟩:=hx _ _ _ s
  exact ⟨a,p,r,rfl,u,h⟩
 .cases h
def Zhr:Rd Tree:=ZI (Z0V .i64) fun x0=> ZI (rSl .u64) fun h=> ZI (rSl .tree) fun b=> Z3U (Tree.mk x0 h b)
theorem Z2X:Z0P Zhr Zx9:=by
 intro cs x b h
 obtain ⟨x0,u,r0,rfl,w0,h⟩:=ZM (Zy _) h
 obtain ⟨x1,s,r1,rfl,w1,h⟩:=ZM (Z1k _) h
 obtain ⟨x2,p2,r2,rfl,w2,h⟩:=ZM (Z1k _) h
 cases h
 exact ⟨u++(s++(p2)),by simp,w0.append (w1.append (w2))⟩
def Zq5:Rd WEdit:=ZI (Z0V .i64) fun x0=> ZI (Z0V .u8) fun s=> ZI (Z0V .u64) fun h=> ZI (Z0V .u64) fun b=> Z3U (WEdit.mk x0 s h b)
theorem Zhl:Z0P Zq5 Zsn:=by
 intro cs x b h
 obtain ⟨x0,p0,r0,rfl,w0,h⟩:=ZM (Zy _) h
 obtain ⟨x1,s,r1,rfl,w1,h⟩:=ZM (Zy _) h
 obtain ⟨x2,p2,r2,rfl,w2,h⟩:=ZM (Zy _) h
 obtain ⟨x3,u,r3,rfl,w3,h⟩:=ZM (Zy _) h
 cases h
 exact ⟨p0++(s++(p2++(u))),by simp,w0.append (w1.append (w2.append (w3)))⟩
def Z7b:Rd Edit:=ZI (Z0V .i64) fun x0=> ZI Zhr fun u=> ZI Zhr fun b=> ZI (rSl .wedit) fun x3=> ZI (rSl .kid) fun x4=> ZI (Z0V .i64) fun h=> ZI (rSl .op) fun s=> Z3U (Edit.mk x0 u b x3 x4 h s)
theorem J6:Z0P Z7b Zxc:=by
 intro cs x b h
 obtain ⟨x0,p0,r0,rfl,w0,h⟩:=ZM (Zy _) h
 obtain ⟨x1,p1,r1,rfl,w1,h⟩:=ZM Z2X h
 obtain ⟨x2,p2,r2,rfl,w2,h⟩:=ZM Z2X h
 obtain ⟨x3,p3,r3,rfl,w3,h⟩:=ZM (Z1k _) h
 obtain ⟨x4,p4,r4,rfl,w4,h⟩:=ZM (Z1k _) h
 obtain ⟨x5,p5,r5,rfl,u,h⟩:=ZM (Zy _) h
 obtain ⟨x6,s,r6,rfl,w6,h⟩:=ZM (Z1k _) h
 cases h
 exact ⟨p0++(p1++(p2++(p3++(p4++(p5++(s)))))),by simp,w0.append (w1.append (w2.append (w3.append (w4.append (u.append (w6))))))⟩
def ZC9:Rd Kid:=ZI (Z0V .i64) fun x0=> ZI Z7b fun b=> Z3U (KidOf.mk x0 b)
theorem Znx:Z0P ZC9 ZCv:=by
 intro cs x b h
 obtain ⟨x0,u,r0,rfl,w0,h⟩:=ZM (Zy _) h
 obtain ⟨x1,s,r1,rfl,w1,h⟩:=ZM J6 h
 cases h
 exact ⟨u++(s),by simp,w0.append (w1)⟩
def rOp:Rd Op:=ZI (Z0V .i64) fun x0=> ZI (Z0V .i64) fun s=> ZI (rSl .tree) fun h=> ZI Z7b fun b=> Z3U (OpOf.mk x0 s h b)
theorem ZbD:Z0P rOp eOp:=by
 intro cs x b h
 obtain ⟨x0,p0,r0,rfl,w0,h⟩:=ZM (Zy _) h
 obtain ⟨x1,s,r1,rfl,w1,h⟩:=ZM (Zy _) h
 obtain ⟨x2,p2,r2,rfl,w2,h⟩:=ZM (Z1k _) h
 obtain ⟨x3,u,r3,rfl,w3,h⟩:=ZM J6 h
 cases h
 exact ⟨p0++(s++(p2++(u))),by simp,w0.append (w1.append (w2.append (w3)))⟩
def Zq7:Rd Piece:=ZI (Z0V .i64) fun x0=> ZI rOp fun h=> ZI rOp fun b=> Z3U (Piece.mk x0 h b)
theorem Zhm:Z0P Zq7 Zso:=by
 intro cs x b h
 obtain ⟨x0,u,r0,rfl,w0,h⟩:=ZM (Zy _) h
 obtain ⟨x1,s,r1,rfl,w1,h⟩:=ZM ZbD h
 obtain ⟨x2,p2,r2,rfl,w2,h⟩:=ZM ZbD h
 cases h
 exact ⟨u++(s++(p2)),by simp,w0.append (w1.append (w2))⟩
def Zl5:Rd AUnit:=ZI (Z0V .i64) fun x0=> ZI (Z0V .i64) fun h=> ZI Zhr fun b=> ZI Z7b fun u=> ZI Zhs fun s=> Z3U (AUnit.mk x0 h b u s)
theorem Z5X:Z0P Zl5 Zx8:=by
 intro cs x b h
 obtain ⟨x0,p0,r0,rfl,w0,h⟩:=ZM (Zy _) h
 obtain ⟨x1,s,r1,rfl,w1,h⟩:=ZM (Zy _) h
 obtain ⟨x2,p2,r2,rfl,w2,h⟩:=ZM Z2X h
 obtain ⟨x3,u,r3,rfl,w3,h⟩:=ZM J6 h
 obtain ⟨x4,p4,r4,rfl,w4,h⟩:=ZM Z5Y h
 cases h
 exact ⟨p0++(s++(p2++(u++(p4)))),by simp,w0.append (w1.append (w2.append (w3.append (w4))))⟩
def ZwZ:Rd APair:=ZI (Z0V .i64) fun x0=> ZI Zl5 fun h=> ZI Zl5 fun b=> Z3U (APair.mk x0 h b)
theorem Zja:Z0P ZwZ Zxa:=by
 intro cs x b h
 obtain ⟨x0,u,r0,rfl,w0,h⟩:=ZM (Zy _) h
 obtain ⟨x1,s,r1,rfl,w1,h⟩:=ZM Z5X h
 obtain ⟨x2,p2,r2,rfl,w2,h⟩:=ZM Z5X h
 cases h
 exact ⟨u++(s++(p2)),by simp,w0.append (w1.append (w2))⟩
def Zx0:Rd LeftE:=ZI Z7b fun x0=> ZI Z7b fun s=> ZI Zhs fun h=> ZI Zhs fun b=> Z3U (LeftE.mk x0 s h b)
theorem Zjb:Z0P Zx0 Zxb:=by
 intro cs x b h
 obtain ⟨x0,p0,r0,rfl,w0,h⟩:=ZM J6 h
 obtain ⟨x1,s,r1,rfl,w1,h⟩:=ZM J6 h
 obtain ⟨x2,p2,r2,rfl,w2,h⟩:=ZM Z5Y h
 obtain ⟨x3,u,r3,rfl,w3,h⟩:=ZM Z5Y h
 cases h
 exact ⟨p0++(s++(p2++(u))),by simp,w0.append (w1.append (w2.append (w3)))⟩
def Zx1:Rd Deed:=ZI (Z0V .i64) fun x0=> ZI (Z0V .i64) fun h=> ZI Z7b fun b=> Z3U (Deed.mk x0 h b)
theorem Zjc:Z0P Zx1 Zxd:=by
 intro cs x b h
 obtain ⟨x0,u,r0,rfl,w0,h⟩:=ZM (Zy _) h
 obtain ⟨x1,s,r1,rfl,w1,h⟩:=ZM (Zy _) h
 obtain ⟨x2,p2,r2,rfl,w2,h⟩:=ZM J6 h
 cases h
 exact ⟨u++(s++(p2)),by simp,w0.append (w1.append (w2))⟩
def Zq8:Rd HDeed:=ZI (Z0V .i64) fun x0=> ZI (Z0V .i64) fun s=> ZI (Z0V .i64) fun h=> ZI Z7b fun b=> Z3U (HDeed.mk x0 s h b)
theorem Zhn:Z0P Zq8 Zsp:=by
 intro cs x b h
 obtain ⟨x0,p0,r0,rfl,w0,h⟩:=ZM (Zy _) h
 obtain ⟨x1,s,r1,rfl,w1,h⟩:=ZM (Zy _) h
 obtain ⟨x2,p2,r2,rfl,w2,h⟩:=ZM (Zy _) h
 obtain ⟨x3,u,r3,rfl,w3,h⟩:=ZM J6 h
 cases h
 exact ⟨p0++(s++(p2++(u))),by simp,w0.append (w1.append (w2.append (w3)))⟩
def rEl:(T:Ty)->Rd (El T)
 | .u64=> Z0V .u64
 | .u8=> Z0V .u8
 | .int=> Z0V .i64
 | .tree=> Zhr
 | .wedit=> Zq5
 | .edit=> Z7b
 | .kid=> ZC9
 | .op=> rOp
 | .piece=> Zq7
 | .unit=> Zl5
 | .pair=> ZwZ
 | .left=> Zx0
 | .deed=> Zx1
 | .hdeed=> Zq8
theorem Zho:∀ T:Ty,Z0P (rEl T) (enc T)
 | .u64=> Zy _
 | .u8=> Zy _
 | .int=> Zy _
 | .tree=> Z2X
 | .wedit=> Zhl
 | .edit=> J6
 | .kid=> Znx
 | .op=> ZbD
 | .piece=> Zhm
 | .unit=> Z5X
 | .pair=> Zja
 | .left=> Zjb
 | .deed=> Zjc
 | .hdeed=> Zhn
def dec(T:Ty)(cs:List (C U)):Option (El T):=
 match rEl T cs with
 | some (x,[])=> some x
 | _=> none
def K:Codec U:=
 {tyEq:=inferInstanceAs (DecidableEq Ty)
  dflt:=fun T=> match T with
   | .u64=> (0:Int) | .u8=> (0:Int) | .int=> (0:Int) | .tree=> Tree.nil | .wedit=> WEdit.mk 0 0 0 0 | .edit=> Edit.nil | .kid=> KidOf.mk 0 Edit.nil | .op=> Op.nil | .piece=> Piece.mk 0 Op.nil Op.nil | .unit=> AUnit.nil | .pair=> APair.mk 0 AUnit.nil AUnit.nil | .left=> LeftE.mk Edit.nil Edit.nil false false | .deed=> Deed.mk 0 0 Edit.nil | .hdeed=> HDeed.mk 0 0 0 Edit.nil
  enc:=enc
  dec:=dec
  aggT:=fun T=> match T with | .u64 | .u8 | .int=> false | _=> true
  sz:=fun T=> match T with | .u64=> 1 | .u8=> 1 | .int=> 1 | .tree=> 3 | .wedit=> 4 | .edit=> 11 | .kid=> 12 | .op=> 14 | .piece=> 29 | .unit=> 17 | .pair=> 35 | .left=> 24 | .deed=> 13 | .hdeed=> 14
  bytes:=fun T=> match T with | .u64=> 8 | .u8=> 1 | .int=> 8 | .tree=> 56 | .wedit=> 32 | .edit=> 200 | .kid=> 208 | .op=> 240 | .piece=> 488 | .unit=> 280 | .pair=> 568 | .left=> 408 | .deed=> 216 | .hdeed=> 224 }
theorem ZE3:CodecOk K:=by
 refine ⟨?_,?_,?_,?_,?_⟩
 .intro T x
  cases T <;> rfl
 .intro T x c hc
  have h:(enc T x).all C.plain=true:=by cases T <;> rfl
  exact Qo.1 h c hc
 .intro T cs x h
  have b:dec T cs=some x:=h
  unfold dec at b
  split at b
  .rename_i y he
   cases b
   obtain ⟨p,s,u⟩:=Zho T _ _ _ he
   rw [QM] at s
   subst s
   exact u.get
  .cases b
 .intro T;cases T <;> decide
 .intro T;cases T <;> decide
theorem Zvs(T:Ty)(x:El T):dec T (enc T x)=some x:=by
 cases T with
 | u64=> rfl
 | u8=> rfl
 | int=> rfl
 | tree=> cases x;rfl
 | wedit=> rfl
 | edit=> obtain ⟨k,⟨_,_,_⟩,⟨_,_,_⟩,w,ks,l,os⟩:=x;rfl
 | kid=> obtain ⟨a,⟨k,⟨_,_,_⟩,⟨_,_,_⟩,w,ks,l,os⟩⟩:=x;rfl
 | op=> obtain ⟨a,b,c,⟨k,⟨_,_,_⟩,⟨_,_,_⟩,w,ks,l,os⟩⟩:=x;rfl
 | piece=> obtain ⟨_,⟨_,_,_,⟨_,⟨_,_,_⟩,⟨_,_,_⟩,_,_,_,_⟩⟩,⟨_,_,_,⟨_,⟨_,_,_⟩,⟨_,_,_⟩,_,_,_,_⟩⟩⟩:=x;rfl
 | unit=> obtain ⟨_,_,⟨_,_,_⟩,⟨_,⟨_,_,_⟩,⟨_,_,_⟩,_,_,_,_⟩,_⟩:=x;rfl
 | pair=> obtain ⟨_,⟨_,_,⟨_,_,_⟩,⟨_,⟨_,_,_⟩,⟨_,_,_⟩,_,_,_,_⟩,_⟩,⟨_,_,⟨_,_,_⟩,⟨_,⟨_,_,_⟩,⟨_,_,_⟩,_,_,_,_⟩,_⟩⟩:=x;rfl
 | left=> obtain ⟨⟨_,⟨_,_,_⟩,⟨_,_,_⟩,_,_,_,_⟩,⟨_,⟨_,_,_⟩,⟨_,_,_⟩,_,_,_,_⟩,_,_⟩:=x;rfl
 | deed=> obtain ⟨_,_,⟨_,⟨_,_,_⟩,⟨_,_,_⟩,_,_,_,_⟩⟩:=x;rfl
 | hdeed=> obtain ⟨_,_,_,⟨_,⟨_,_,_⟩,⟨_,_,_⟩,_,_,_,_⟩⟩:=x;rfl
def Zfk(x:Tree):Tree:=Tree.mk (Tree.kind x) (Tree.words x) (Tree.kids x)
@[simp] theorem Z7 (x:Tree):Zfk x=x:=Tree.eta x
def Zu2(x:WEdit):WEdit:=WEdit.mk (WEdit.at_ x) (WEdit.mask x) (WEdit.old x) (WEdit.new x)
@[simp] theorem Z1l (x:WEdit):Zu2 x=x:=rfl
def Z2Y(x:Edit):Edit:=Edit.mk (Edit.kind x) (Zfk (Edit.old x)) (Zfk (Edit.new x)) (Edit.words x) (Edit.kids x) (Edit.list x) (Edit.ops x)
@[simp] theorem Z3 (x:Edit):Z2Y x=x:=by unfold Z2Y;rw [Z7,Z7];exact Edit.eta x
def ZwY(x:Kid):Kid:=KidOf.mk (KidOf.at_ x) (Z2Y (KidOf.e x))
@[simp] theorem Zhp (x:Kid):ZwY x=x:=by unfold ZwY;rw [Z3]
def Zu3(x:Op):Op:=OpOf.mk (OpOf.kind x) (OpOf.n x) (OpOf.l x) (Z2Y (OpOf.e x))
@[simp] theorem Ym (x:Op):Zu3 x=x:=by unfold Zu3;rw [Z3]
def Zl0(x:Piece):Piece:=Piece.mk (Piece.of x) (Zu3 (Piece.p x)) (Zu3 (Piece.q x))
@[simp] theorem Zy6 (x:Piece):Zl0 x=x:=by unfold Zl0;rw [Ym,Ym]
def Zfj(x:AUnit):AUnit:=AUnit.mk (AUnit.step x) (AUnit.kind x) (Zfk (AUnit.t x)) (Z2Y (AUnit.e x)) (AUnit.alone x)
@[simp] theorem ZdK (x:AUnit):Zfj x=x:=by unfold Zfj;rw [Z3,Z7]
def ZpX(x:APair):APair:=APair.mk (APair.of x) (Zfj (APair.p x)) (Zfj (APair.q x))
@[simp] theorem ZAP (x:APair):ZpX x=x:=by unfold ZpX;rw [ZdK,ZdK]
def ZpY(x:LeftE):LeftE:=LeftE.mk (Z2Y (LeftE.x x)) (Z2Y (LeftE.y x)) (LeftE.clash x) (LeftE.apart x)
@[simp] theorem ZAQ (x:LeftE):ZpY x=x:=by unfold ZpY;rw [Z3,Z3]
def ZpZ(x:Deed):Deed:=Deed.mk (Deed.kind x) (Deed.i x) (Z2Y (Deed.e x))
@[simp] theorem ZAR (x:Deed):ZpZ x=x:=by unfold ZpZ;rw [Z3]
def Zl3(x:HDeed):HDeed:=HDeed.mk (HDeed.kind x) (HDeed.who x) (HDeed.version x) (Z2Y (HDeed.e x))
@[simp] theorem Zy7 (x:HDeed):Zl3 x=x:=by unfold Zl3;rw [Z3]
end Go.AM
namespace Go.AM
variable {P:Program} {cfg:Cfg U}
structure ArgL (α:Type) where
 get:List (V U)->Option α
 can:α->List (V U)
 ok:∀ cfg:Cfg U,cfg.enc=enc->∀ xs a,get xs=some a->xs.length=(can a).length/\∀ (j:Nat) x y,xs[j]?=some x->(can a)[j]?=some y->Zd8 cfg x y
structure Arg (α:Type) where
 get:V U->Option α
 can:α->V U
 ok:∀ cfg:Cfg U,cfg.enc=enc->∀ x a,get x=some a->Zd8 cfg x (can a)
def ArgL.nil:ArgL Unit:=
 {get:=fun xs=> match xs with
   | []=> some ()
   | _ ::_=> none
  can:=fun _=> []
  ok:=by
   grind }
def ArgL.cons{α β:Type}(A:Arg α)(B:ArgL β):ArgL (α × β):=
 {get:=fun xs=> match xs with
   | x ::r=> match A.get x with
    | some a=> match B.get r with
     | some b=> some (a,b)
     | none=> none
    | none=> none
   | []=> none
  can:=fun p=> A.can p.1 ::B.can p.2
  ok:=by
   intro cfg hc xs p h
   cases xs with
   | nil=> cases h
   | cons x r=>
    simp only at h
    split at h
    .rename_i a ha
     split at h
     .rename_i b hb
      cases h
      obtain ⟨h1,h2⟩:=B.ok cfg hc r b hb
      refine ⟨by simp [h1],fun j x' y hx hy=> ?_⟩
      cases j with
      | zero=> simp at hx hy;subst hx hy;exact A.ok cfg hc x a ha
      | succ j=> grind
     .cases h
    .cases h }
theorem Z8R{a b:C U}(h:Wk a b):Zd8 cfg (.c a) (.c b):=by
 intro g u v s
 refine ⟨s.1.wk h,?_⟩
 cases h with
 | snil=> trivial
 | slice=> trivial
 | _=> exact s.2
theorem Zk2{a b:List (C U)}(h:WkL a b):Zd8 cfg (.agg a) (.agg b):=by
 intro g s v hr
 obtain ⟨vs,rfl,h1,h2⟩:=hr
 obtain ⟨h3,h4⟩:=h.get
 refine ⟨vs,rfl,by rw [h1,h3],fun j u c hu hc=> ?_⟩
 have hj:j < a.length:=by have:=(Q2.1 hc).1;omega
 have ha:=Q0 hj
 exact Z8R (cfg:=cfg) (h4 j _ c ha hc) g s u (h2 j u _ hu ha)
def aEl(T:Ty):Arg (El T):=
 {get:=fun v=> match v with
   | .agg cs=> dec T cs
   | _=> none
  can:=fun x=> .agg (enc T x)
  ok:=by
   intro cfg _ v a h
   cases v <;> simp only [reduceCtorEq] at h
   rename_i cs
   unfold dec at h
   split at h
   .rename_i y he
    cases h
    obtain ⟨p,hp,hw⟩:=Zho T _ _ _ he
    rw [QM] at hp
    subst hp
    exact Zk2 hw
   .cases h }
def YR(k:IntKind):Arg Int:=
 {get:=fun v=> match v with
   | .c (.int k' n)=> if k=k' then some n else none
   | _=> none
  can:=fun n=> .c (.int k n)
  ok:=by
   intro cfg _ v a h
   split at h
   .split at h
    .rename_i hk;subst hk;cases h;exact fun _ _ _ h=> h
    .cases h
   .cases h }
def Z9X:Arg Unit:=
 {get:=fun v=> match v with
   | .c .nilp=> some ()
   | _=> none
  can:=fun _=> .c .nilp
  ok:=by
   intro cfg _ v a h
   split at h
   .cases h;exact fun _ _ _ h=> h
   .cases h }
theorem ZtC{p:List (C U)}{c:C U}(h:WkL p [c]):∃ y,p=[y]/\Wk y c:=by
 cases p with
 | nil=> exact h.elim
 | cons y r=> cases r with
  | nil=> exact ⟨y,rfl,h.1⟩
  | cons z r=> exact h.2.elim
theorem Zq6{T:Ty}{x:C U}{l:List (El T)}{r:List (C U)}(h:rSl T [x]=some (l,r)):Wk x (sl T l):=by
 obtain ⟨p,u,s⟩:=Z1k T _ _ _ h
 obtain ⟨y,rfl,b⟩:=ZtC s
 grind
def aSl(T:Ty):Arg (List (El T)):=
 {get:=fun v=> match v with
   | .c x=> match rSl T [x] with
    | some (l,_)=> some l
    | none=> none
   | _=> none
  can:=fun l=> .c (sl T l)
  ok:=by
   intro cfg _ v a h
   split at h
   .split at h
    .rename_i l r hr
     cases h
     exact Z8R (Zq6 hr)
    .cases h
   .cases h }
def fs{α:Type}(A:ArgL α)(pre:α->List Prop)(res:α->V U):Fs U:=
 {fn:=fun xs X=> match X with
   | []=> match A.get xs with
    | some a=> some (pre a,res a,[])
    | none=> none
   | _ ::_=> none }
theorem ZQ {Γ:Known U} {α:Type} {A:ArgL α} {pre:α->List Prop} {res:α->V U} (ok:CfgOk P cfg) (henc:cfg.enc=enc) (hΓ:∀ f s,Γ f=some s->Contract P cfg f s) {f:FuncId} {fn:Func} (lv:Z6 U)
  (hf : P.funcs[f]? = some fn) (hb : fn.body = some (cd fn [])) (hname : (fn.name == "runtime.NumGoroutine") = false) (hn : ∀ a, (A.can a).length ≤ fn.ntmps)
  (hbody:∀ a,All (pre a)->awp cfg Γ (YF cfg Γ) fn.ntmps lv (cd fn []) (Zb (A.can a) []) (ZK cfg fn.ntmps fn.results.toList (res a) [])):Contract P cfg f (fs A pre res):=by
 refine Z9F ok hΓ (Ji ok hΓ) lv hf hb hname ?_
 intro args X ps r X' b u
 unfold fs at b
 simp only at b
 split at b
 .split at b
  .rename_i a ha
   cases b
   obtain ⟨h1,h2⟩:=A.ok cfg henc args a ha
   exact ⟨A.can a,[],⟨h1,h2,rfl,fun k x y hx=> by simp at hx,fun k x y hx=> by simp at hx⟩,hn a,hbody a u⟩
  .cases b
 .cases b
def fsN{α:Type}(A:ArgL α)(pre:α->List Prop)(cs:α->List (C U)):Fs U:=
 {obj:=true
  fn:=fun xs X=> match X with
   | []=> match A.get xs with
    | some a=> some (pre a,.ptr (.x 0) 0,[cs a])
    | none=> none
   | _ ::_=> none }
theorem Zgs {Γ:Known U} {α:Type} {A:ArgL α} {pre:α->List Prop} {cs:α->List (C U)} (ok:CfgOk P cfg) (henc:cfg.enc=enc) (hΓ:∀ f s,Γ f=some s->Contract P cfg f s) {f:FuncId} {fn:Func} (lv:Z6 U)
  (hf : P.funcs[f]? = some fn) (hb : fn.body = some (cd fn [])) (hname : (fn.name == "runtime.NumGoroutine") = false) (hn : ∀ a, (A.can a).length ≤ fn.ntmps)
  (hbody:∀ a,All (pre a)->awp cfg Γ (YF cfg Γ) fn.ntmps lv (cd fn []) (Zb (A.can a) []) (Z8U cfg fn.ntmps fn.results.toList [] (cs a))):Contract P cfg f (fsN A pre cs):=by
 refine Z7W ok hΓ (Ji ok hΓ) lv hf hb hname ?_
 intro args X ps r X' b u
 unfold fsN at b
 simp only at b
 split at b
 .split at b
  .rename_i a ha
   cases b
   obtain ⟨h1,h2⟩:=A.ok cfg henc args a ha
   exact ⟨A.can a,[],[],cs a,rfl,rfl,⟨h1,h2,rfl,fun k x y hx=> by simp at hx,fun k x y hx=> by simp at hx⟩,hn a,hbody a u⟩
  .cases b
 .cases b
end Go.AM
namespace Go.AM
theorem ZzX{a b:Bool}:((bif a then true else b)=true)=(a=true\/b=true):=by grind
theorem ZzY{a b:Bool}:((bif a then b else false)=true)=(a=true/\b=true):=by grind
theorem Zvv{a b:Bool}:((bif a then true else b)=false)=(a=false/\b=false):=by grind
theorem Zvw{a b:Bool}:((bif a then b else false)=false)=(a=false\/b=false):=by grind
theorem vcS:(∀ {a b:Bool},((bif a then true else b)=true)=(a=true\/b=true))/\(∀ {a b:Bool},((bif a then b else false)=true)=(a=true/\b=true))/\
  (∀ {a b:Bool},((bif a then true else b)=false)=(a=false/\b=false))/\(∀ {a b:Bool},((bif a then b else false)=false)=(a=false\/b=false))/\
  (∀ (b:Bool),((!b)=true)=(b=false))/\(∀ (b:Bool),((!b)=false)=(b=true))/\(∀ {p:Prop} [Decidable p],(decide p=true)=p)/\(∀ {p:Prop} {_:Decidable p},decide p=false↔¬p)/\
  (∀ {α:Type} [BEq α] [LawfulBEq α] {a b:α},(a==b)=true↔a=b)/\(∀ {α:Type} [BEq α] [LawfulBEq α] {a b:α},(a==b)=false↔a≠b)/\
  (∀ {α:Type} [BEq α] [LawfulBEq α] {a b:α},(a !=b)=true↔a≠b)/\(∀ {α:Type} (a b:α),(a≠b)=¬a=b)/\(∀ {α:Type} [BEq α] [LawfulBEq α] {a b:α},(a !=b)=false↔a=b)/\
  (∀ (a b:Bool),((a || b)=true)=(a=true\/b=true))/\(∀ (a b:Bool),((a && b)=true)=(a=true/\b=true))/\(∀ {x y:Bool},(x || y)=false↔x=false/\y=false)/\(∀ {x y:Bool},(x && y)=false↔x=true->y=false):=
 ⟨ZzX,ZzY,Zvv,Zvw,QG,XY,decide_eq_true_eq,decide_eq_false_iff_not,beq_iff_eq,beq_eq_false_iff_ne,bne_iff_ne,ne_eq,bne_eq_false_iff_eq,XD,Q1,QA,Bool.and_eq_false_imp⟩
abbrev Tr(p:Prop):Prop:=p->p
abbrev Tt(b:Bool):Prop:=Tr (b=true)
abbrev iB(b:Bool)(A B:Prop):Prop:=(b=true->A)/\(b=false->B)
theorem vE:type_of% (And.intro @Tree.eta (And.intro @Edit.eta (And.intro @Tree.kind_mk (And.intro @Tree.words_mk @Tree.kids_mk)))):=And.intro @Tree.eta (And.intro @Edit.eta (And.intro @Tree.kind_mk (And.intro @Tree.words_mk @Tree.kids_mk)))
theorem vcT:(∀ {p:Prop},Tr p=True)/\(∀ {p:Prop},(True/\p)=p)/\(∀ {p:Prop},(p/\True)=p)/\(∀ {p:Prop},(p->p)=True)/\(∀ {p:Prop},(True->p)=p)/\(∀ {p:Prop},(p->True)=True):=
 ⟨by simp,by simp,by simp,by simp,by simp,by simp⟩
end Go.AM
namespace Go.AM
variable {P:Program} {cfg:Cfg U}
def Zed:List (FuncId × Fs U)->FuncId->Option (Fs U)
 | [],_=> none
 | (f,s) ::r,k=> bif Nat.beq k f then some s else Zed r k
def Z1(l:List (FuncId × Fs U)):Known U:=⟨Zed l,false,false⟩
def Jl(l:List (FuncId × Fs U)):Known U:=⟨Zed l,true,false⟩
def Z1z(l:List (FuncId × Fs U)):Known U:=⟨Zed l,false,true⟩
def Z1A(P:Program)(cfg:Cfg U):List (FuncId × Fs U)->Prop
 | []=> True
 | (f,s) ::r=> Contract P cfg f s/\Z1A P cfg r
theorem YP:∀ {l:List (FuncId × Fs U)},Z1A P cfg l->∀ f s,Zed l f=some s->Contract P cfg f s
 | [],_,f,s,h=> by cases h
 | (f',s') ::r,hk,f,s,h=> by
  unfold Zed at h
  cases e:Nat.beq f f' with
  | true=>
   rw [e] at h
   cases h
   rw [Q6 e]
   exact hk.1
  | false=>
   rw [e] at h
   exact YP hk.2 f s h
theorem Z0 {l:List (FuncId × Fs U)} {α:Type} {A:ArgL α} {pre:α->Prop} {res:α->V U} (ok:CfgOk P cfg) (henc:cfg.enc=enc) (hl:Z1A P cfg l) {f:FuncId} {fn:Func} (lv:Z6 U)
  (hf : P.funcs[f]? = some fn) (hb : fn.body = some (cd fn [])) (hname : (fn.name == "runtime.NumGoroutine") = false) (n : Nat) (hn : ∀ a, (A.can a).length = n) (hn' : n ≤ fn.ntmps)
  (hbody:∀ a,pre a->awp cfg (Z1 l) (YF cfg (Z1 l)) fn.ntmps lv (cd fn []) (Zb (A.can a) []) (ZK cfg fn.ntmps fn.results.toList (res a) [])):Contract P cfg f (fs A (fun a=> [pre a]) res):=
 ZQ ok henc (YP hl) lv hf hb hname (fun a=> by rw [hn];exact hn') (fun a h=> hbody a h.1)
theorem ZcT {l:List (FuncId × Fs U)} {α:Type} {A:ArgL α} {pre:α->Prop} {res:α->V U} (ok:CfgOk P cfg) (henc:cfg.enc=enc) (hl:Z1A P cfg l) {f:FuncId} {fn:Func} (lv:Z6 U)
  (hf : P.funcs[f]? = some fn) (hb : fn.body = some (cd fn [])) (hname : (fn.name == "runtime.NumGoroutine") = false) (n : Nat) (hn : ∀ a, (A.can a).length = n) (hn' : n ≤ fn.ntmps)
  (hbody:∀ a,pre a->awp cfg (Jl l) (YF cfg (Jl l)) fn.ntmps lv (cd fn []) (Zb (A.can a) []) (ZK cfg fn.ntmps fn.results.toList (res a) [])):Contract P cfg f (fs A (fun a=> [pre a]) res):=
 ZQ ok henc (YP hl) lv hf hb hname (fun a=> by rw [hn];exact hn') (fun a h=> hbody a h.1)
theorem ZcU {l:List (FuncId × Fs U)} {α:Type} {A:ArgL α} {pre:α->Prop} {cs:α->List (C U)} (ok:CfgOk P cfg) (henc:cfg.enc=enc) (hl:Z1A P cfg l) {f:FuncId} {fn:Func} (lv:Z6 U)
  (hf : P.funcs[f]? = some fn) (hb : fn.body = some (cd fn [])) (hname : (fn.name == "runtime.NumGoroutine") = false) (n : Nat) (hn : ∀ a, (A.can a).length = n) (hn' : n ≤ fn.ntmps)
  (hbody:∀ a,pre a->awp cfg (Z1 l) (YF cfg (Z1 l)) fn.ntmps lv (cd fn []) (Zb (A.can a) []) (Z8U cfg fn.ntmps fn.results.toList [] (cs a))):Contract P cfg f (fsN A (fun a=> [pre a]) cs):=
 Zgs ok henc (YP hl) lv hf hb hname (fun a=> by grind) (fun a h=> hbody a h.1)
theorem Jj {l:List (FuncId × Fs U)} {α:Type} {A:ArgL α} {pre:α->Prop} {μ:α->Nat} {res:α->V U} (ok:CfgOk P cfg) (henc:cfg.enc=enc) (hl:Z1A P cfg l) {f:FuncId} {fn:Func} (lv:Z6 U)
  (hf : P.funcs[f]? = some fn) (hb : fn.body = some (cd fn [])) (hname : (fn.name == "runtime.NumGoroutine") = false) (n : Nat) (hn : ∀ a, (A.can a).length = n) (hn' : n ≤ fn.ntmps)
  (hbody:∀ N a,pre a->μ a < N+1->awp cfg (Z1 ((f,fs A (fun a=> [pre a,μ a < N]) res) ::l)) (YF cfg (Z1 ((f,fs A (fun a=> [pre a,μ a < N]) res) ::l))) fn.ntmps lv (cd fn []) (Zb (A.can a) []) (ZK cfg fn.ntmps fn.results.toList (res a) [])):
  Contract P cfg f (fs A (fun a=> [pre a]) res):=by
 have u:∀ N,Contract P cfg f (fs A (fun a=> [pre a,μ a < N]) res):=by
  intro N
  induction N with
  | zero=>
   refine YJ ⟨fn,hf,by rw [hb];rfl,hname⟩ rfl ?_
   intro args X ps r X' b s
   exfalso
   unfold fs at b
   simp only at b
   split at b
   .split at b
    .cases b
     exact absurd s.2.1 V1
    .cases b
   .cases b
  | succ N ih=> exact ZQ (Γ:=Z1 ((f,fs A (fun a=> [pre a,μ a < N]) res) ::l)) ok henc (YP ⟨ih,hl⟩) lv hf hb hname (fun a=> by grind) (fun a h=> hbody N a h.1 h.2.1)
 refine YJ (u 0).1 rfl ?_
 intro args X ps r X' b s
 unfold fs at b
 simp only at b
 split at b
 .split at b
  .rename_i a ha
   cases b
   have e:(fs A (fun x=> [pre x,μ x < μ a+1]) res).fn args []=some ([pre a,μ a < μ a+1],res a,[]):=by
    unfold fs
    simp only [ha]
   exact (u (μ a+1)).one rfl args [] _ _ [] e ⟨s.1,K2 _,trivial⟩
  .cases b
 .cases b
theorem Z10 {α : Type} {A : ArgL α} {pre : α → Prop} {μ : α → Nat} {res : α → V U} {f : FuncId} (h0 : ∃ fn, P.funcs[f]? = some fn ∧ fn.body.isSome = true ∧ (fn.name == "runtime.NumGoroutine") = false)
  (key:∀ N,Contract P cfg f (fs A (fun a=> [pre a,μ a < N]) res)):Contract P cfg f (fs A (fun a=> [pre a]) res):=by
 refine YJ h0 rfl ?_
 intro args X u r X' b h
 unfold fs at b
 simp only at b
 split at b
 .split at b
  .rename_i a s
   cases b
   have e:(fs A (fun x=> [pre x,μ x < μ a+1]) res).fn args []=some ([pre a,μ a < μ a+1],res a,[]):=by
    unfold fs
    simp only [s]
   exact (key (μ a+1)).one rfl args [] _ _ [] e ⟨h.1,K2 _,trivial⟩
  .cases b
 .cases b
theorem Z0Z {α : Type} {A : ArgL α} {pre : α → Prop} {μ : α → Nat} {res : α → V U} {f : FuncId} (h0 : ∃ fn, P.funcs[f]? = some fn ∧ fn.body.isSome = true ∧ (fn.name == "runtime.NumGoroutine") = false) :
  Contract P cfg f (fs A (fun a=> [pre a,μ a < 0]) res):=by
 refine YJ h0 rfl ?_
 intro args X s r X' b h
 exfalso
 unfold fs at b
 simp only at b
 split at b
 .split at b
  .cases b
   exact absurd h.2.1 V1
  .cases b
 .cases b
theorem Zdi {l:List (FuncId × Fs U)} {α β:Type} {A:ArgL α} {B:ArgL β} {preA:α->Prop} {preB:β->Prop} {μA:α->Nat} {μB:β->Nat} {resA:α->V U} {resB:β->V U} (ok:CfgOk P cfg) (henc:cfg.enc=enc) (hl:Z1A P cfg l) {f f':FuncId} {fn fn':Func}
  (lv lv' : Z6 U) (hf : P.funcs[f]? = some fn) (hf' : P.funcs[f']? = some fn') (hb : fn.body = some (cd fn [])) (hb' : fn'.body = some (cd fn' [])) (hname : (fn.name == "runtime.NumGoroutine") = false) (hname' : (fn'.name == "runtime.NumGoroutine") = false)
  (n n':Nat) (hn:∀ a,(A.can a).length=n) (hn':∀ a,(B.can a).length=n') (hle:n<=fn.ntmps) (hle':n'<=fn'.ntmps)
  (hbody:∀ N a,preA a->μA a < N+1->awp cfg (Z1 ((f,fs A (fun a=> [preA a,μA a < N]) resA) ::(f',fs B (fun a=> [preB a,μB a < N]) resB) ::l)) (YF cfg (Z1 ((f,fs A (fun a=> [preA a,μA a < N]) resA) ::(f',fs B (fun a=> [preB a,μB a < N]) resB) ::l))) fn.ntmps lv (cd fn []) (Zb (A.can a) []) (ZK cfg fn.ntmps fn.results.toList (resA a) []))
  (hbody':∀ N a,preB a->μB a < N+1->awp cfg (Z1 ((f,fs A (fun a=> [preA a,μA a < N]) resA) ::(f',fs B (fun a=> [preB a,μB a < N]) resB) ::l)) (YF cfg (Z1 ((f,fs A (fun a=> [preA a,μA a < N]) resA) ::(f',fs B (fun a=> [preB a,μB a < N]) resB) ::l))) fn'.ntmps lv' (cd fn' []) (Zb (B.can a) []) (ZK cfg fn'.ntmps fn'.results.toList (resB a) [])):
  Contract P cfg f (fs A (fun a=> [preA a]) resA)/\Contract P cfg f' (fs B (fun a=> [preB a]) resB):=by
 have u : ∃ fn, P.funcs[f]? = some fn ∧ fn.body.isSome = true ∧ (fn.name == "runtime.NumGoroutine") = false := ⟨fn, hf, by rw [hb]; rfl, hname⟩
 have b : ∃ fn, P.funcs[f']? = some fn ∧ fn.body.isSome = true ∧ (fn.name == "runtime.NumGoroutine") = false := ⟨fn', hf', by rw [hb']; rfl, hname'⟩
 have s:∀ N,Contract P cfg f (fs A (fun a=> [preA a,μA a < N]) resA)/\Contract P cfg f' (fs B (fun a=> [preB a,μB a < N]) resB):=by
  intro N
  induction N with
  | zero=> exact ⟨Z0Z u,Z0Z b⟩
  | succ N ih=>
   exact ⟨ZQ (Γ:=Z1 ((f,fs A (fun a=> [preA a,μA a < N]) resA) ::(f',fs B (fun a=> [preB a,μB a < N]) resB) ::l)) ok henc (YP ⟨ih.1,ih.2,hl⟩) lv hf hb hname (fun a=> by grind) (fun a h=> hbody N a h.1 h.2.1),
    ZQ (Γ:=Z1 ((f,fs A (fun a=> [preA a,μA a < N]) resA) ::(f',fs B (fun a=> [preB a,μB a < N]) resB) ::l)) ok henc (YP ⟨ih.1,ih.2,hl⟩) lv' hf' hb' hname' (fun a=> by grind) (fun a h=> hbody' N a h.1 h.2.1)⟩
 exact ⟨Z10 u fun N=> (s N).1,Z10 b fun N=> (s N).2⟩
end Go.AM
namespace Go.AM
mutual
def ZZ:Tree->Int->Int->Int
 | .mk _ w ks,d,l=> if d=0\/l - 1 - w.length < 0 then -1 else Zw ks (d - 1) (l - 1 - w.length)
def Zw:List Tree->Int->Int->Int
 | [],_,l=> l
 | t ::r,d,l=> if l < 0 then l else Zw r d (ZZ t d l)
end
mutual
def Zk:Tree->Nat
 | .mk _ w ks=> 1+w.length+Z9 ks
def Z9:List Tree->Nat
 | []=> 0
 | t ::r=> Zk t+Z9 r
end
mutual
def Z3K:Tree->Prop
 | .mk _ w ks=> w.length<=17592186044416/\ks.length<=17592186044416/\Z20 ks
def Z20:List Tree->Prop
 | []=> True
 | t ::r=> Z3K t/\Z20 r
end
def trim:List Int->List Int
 | []=> []
 | x ::r=> match trim r with
  | []=> if x=0 then [] else [x]
  | y ::s=> x ::y ::s
def ZN:List Tree->List Tree
 | []=> []
 | x ::r=> match ZN r with
  | []=> if x.kind=0 then [] else [x]
  | y ::s=> x ::y ::s
mutual
def Z5:Tree->Tree
 | .mk k w ks=> if k=0 then Tree.nil else if k=1 then .mk 1 (trim w) (ZN (Y6 ks)) else .mk k w (Y6 ks)
def Y6:List Tree->List Tree
 | []=> []
 | t ::r=> Z5 t ::Y6 r
end
open Classical in
noncomputable def ZW(a b:Tree):Bool:=decide (a=b)
def YZ(t:Tree)(i:Int):Int:=if i < 0 then 0 else t.words.getD i.toNat 0
def J9(t:Tree)(i:Int):Tree:=if i < 0 then Tree.nil else t.kids.getD i.toNat Tree.nil
mutual
def rng:Tree->Prop
 | .mk k w ks=> (-9223372036854775808<=k/\k<=9223372036854775807)/\(∀ x∈w,0<=x/\x < 18446744073709551616)/\ZR ks
def ZR:List Tree->Prop
 | []=> True
 | t ::r=> rng t/\ZR r
end
def wd(c:Int):Int:=if c=0 then 0 else if c=1 then 1 else if c=2 then 8 else if c=3 then 16 else if c=4 then 32 else if c=5 then 64 else -1
def Zvn(c n:Int):Bool:=decide (0<=wd c/\n < 2 ^ (wd c).toNat)
def Z9P(list:Int)(t:Tree):Bool:=
 if 2<=list/\list<=7 then decide (t.kind=10/\t.kids.length=0/\t.words.length=1) && Zvn (list - 2) (t.words.getD 0 0)
 else if list=9 then decide (t.kind=1) else decide (t.kind≠10)
mutual
def Zi:Tree->Int->Bool
 | .mk k w ks,d=>
  if k=0 then decide (w.length=0/\ks.length=0)
  else if k=10 then decide (w.length=1/\ks.length=0)
  else if d=0 then false
  else if k=1 then decide (w.length < 65536/\ks.length < 65536) && Yy 1 ks (d - 1)
  else decide (2<=k/\k<=9/\w.length=0/\ks.length < 1048576) && Yy k ks (d - 1)
def Yy(list:Int):List Tree->Int->Bool
 | [],_=> true
 | t ::r,d=> (Z9P list t && Zi t d) && Yy list r d
end
end Go.AM
