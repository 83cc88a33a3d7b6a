import Derived.Test.YtpjenobkibfpcaaGreatZmK
import Derived.Still
set_option linter.unusedSimpArgs false
set_option linter.unusedVariables false
namespace Go.AM
variable {U:Uni} {P:Program} {cfg:Cfg U} {B:Base} {st:FSt U} {g:Gh} {a:Act} {w:World}
def Z5s:Nat->List (V U)->List (Nat × V U)
 | _,[]=> []
 | i,v ::r=> (i,v) ::Z5s (i+1) r
def Z5r:Nat->List (List (C U))->List (Name × List (C U))
 | _,[]=> []
 | k,cs ::r=> (.x k,cs) ::Z5r (k+1) r
def JM(args:List (V U))(X:List (List (C U)))(L:List (Tok × LC U)):LSt U:={ env:=Z5s 0 args,mem:=Z5r 0 X,ls:=L }
def Zf(args:List (V U))(X:List (List (C U))):LSt U:=JM args X []
def Z19:Tok->Bool:=fun _=> true
def Z9U(cfg:Cfg U)(st:FSt U):ResultVar->Option (Bool × List (C U))
 | .tmp t=> match st.env t with
  | .c x=> some (false,[x])
  | .agg cs=> some (true,cs)
  | _=> none
 | .cell t ty=> match cfg.var ty with
  | some (ag,zs)=> match rd st (st.env t) ag zs.length with
   | some (.c x)=> some (false,[x])
   | some (.agg cs)=> some (true,cs)
   | _=> none
  | none=> none
def Z7l(cfg:Cfg U)(st:FSt U):List ResultVar->Option (List (Bool × List (C U)))
 | []=> some []
 | r ::rs=> match Z9U cfg st r,Z7l cfg st rs with
  | some x,some l=> some (x ::l)
  | _,_=> none
def Z3Y(i:Nat):List (Bool × List (C U))->List (Tok × Tok)->List (Bool × List (C U)) × List (Tok × Tok)
 | [],seen=> ([],seen)
 | (ag,cs) ::r,seen=> ((ag,(YQ Z19 (fun j=> .r 0 (16*i+j)) 0 cs seen).1) ::(Z3Y (i+1) r (YQ Z19 (fun j=> .r 0 (16*i+j)) 0 cs seen).2).1,
   (Z3Y (i+1) r (YQ Z19 (fun j=> .r 0 (16*i+j)) 0 cs seen).2).2)
def Zsc:Tail->Tail->Prop
 | _,.unk=> True
 | .full,_=> True
 | .own t,.own t'=> t=t'
 | _,_=> False
def leC(cfg:Cfg U):C U->C U->Prop
 | .int k n,.int k' n'=> k=k'/\n=n'
 | .bool b,.bool b'=> b=b'
 | .nils,.nils=> True
 | .nils,.slice _ l _=> l=[]
 | .nilp,.nilp=> True
 | .nilp,.po _ o=> o=none
 | .po T o,.po T' o'=> match cfg.tyEq T T' with
  | isTrue h=> h▸o=o'
  | isFalse _=> False
 | .slice T l tl,.slice T' l' tl'=> match cfg.tyEq T T' with
  | isTrue h=> h▸l=l'/\Zsc tl tl'
  | isFalse _=> False
 | .mref t,.mref t'=> t=t'
 | .xp k,.xp k'=> k=k'
 | _,_=> False
def leL(cfg:Cfg U):List (C U)->List (C U)->Prop
 | [],[]=> True
 | c ::r,c' ::r'=> leC cfg c c'/\leL cfg r r'
 | _,_=> False
def leR(cfg:Cfg U):List (Bool × List (C U))->List (Bool × List (C U))->Prop
 | [],[]=> True
 | (b,cs) ::r,(b',cs') ::r'=> b=b'/\leL cfg cs cs'/\leR cfg r r'
 | _,_=> False
def Ze6:V U->Option (List (Bool × List (C U)))
 | .c x=> some [(false,[x])]
 | .agg cs=> some [(true,cs)]
 | .tup ws=> if ws.length=1 then none else some ws
 | _=> none
def ZGc(cfg:Cfg U)(x y:LC U):Prop:=
 match cfg.tyEq x.T y.T with
 | isTrue h=> h▸x.l=y.l/\x.f=y.f
 | isFalse _=> False
def Zgy(cfg:Cfg U)(ls:List (Tok × LC U))(seen:List (Tok × Tok)):List (Tok × LC U)->Prop
 | []=> True
 | (t,y) ::r=> (match Z0B seen t with
  | some u=> Ym seen u=some t/\match Zx (fun _=> none) ls u with
   | some x=> ZGc cfg x y
   | none=> False
  | none=> False)/\Zgy cfg ls seen r
def Zre(cfg:Cfg U)(mem:List (Name × List (C U)))(ls:List (Tok × LC U))(L:List (Tok × LC U)):(k:Nat)->List (List (C U))->List (Tok × Tok)->Prop
 | _,[],seen=> Zgy cfg ls seen L
 | k,cs' ::r,seen=> match Z1q mem (.x k) with
  | some cs=> leL cfg (Z0V Z19 (.x k) 0 [] cs seen).1 cs'/\Zre cfg mem ls L (k+1) r (Z0V Z19 (.x k) 0 [] cs seen).2
  | none=> False
def Zgz(cfg:Cfg U)(n:Nat)(rs:List ResultVar)(r:V U)(X:List (List (C U)))(L:List (Tok × LC U))(s:LSt U):Prop:=
 match Z7l cfg (s.toF n) rs,Ze6 r with
 | some ws,some ws'=> leR cfg (Z3Y 0 ws []).1 ws'/\Zre cfg s.mem s.ls L 0 X (Z3Y 0 ws []).2
 | _,_=> False
def ZDP(cfg:Cfg U)(n:Nat)(rs:List ResultVar)(r:V U)(X:List (List (C U)))(s:LSt U):Prop:=Zgz cfg n rs r X [] s
def Z0j(cfg:Cfg U)(n:Nat)(rs:List ResultVar)(r:V U)(X:List (List (C U)))(L:List (Tok × LC U))(e:AExit)(s:LSt U):Prop:=
 match e with
 | .exit _=> False
 | _=> Zgz cfg n rs r X L s
def ZX(cfg:Cfg U)(n:Nat)(rs:List ResultVar)(r:V U)(X:List (List (C U)))(e:AExit)(s:LSt U):Prop:=
 match e with
 | .exit _=> False
 | _=> ZDP cfg n rs r X s
theorem ZkJ{ls:List (Tok × LC U)}{seen:List (Tok × Tok)}{g2:Gh}(h:Rel cfg B st g a w)(hls:∀ t,st.ls t=Zx (fun _=> none) ls t)(hr:Ren (fun _=> true) g seen g2):∀ {L:List (Tok × LC U)},Zgy cfg ls seen L->
  ∀ t x,Zx (fun _=> none) L t=some x->LRel cfg w g2 t x
 | [],_,t,x,hx=> by trivial
 | (t0,y) ::L,hE,t,x,hx=> by
  obtain ⟨h1,h2⟩:=hE
  simp only [Zx] at hx
  split at hx
  .rename_i e
   subst e
   cases hx
   split at h1
   case h_2=> exact h1.elim
   rename_i u hu
   obtain ⟨h3,d⟩:=h1
   split at d
   case h_2=> exact d.elim
   rename_i x aa
   unfold ZGc at d
   split at d
   case h_2=> exact d.elim
   rename_i hT _
   obtain ⟨T,l,f⟩:=x
   obtain ⟨T',l',f'⟩:=y
   simp only at hT
   subst hT
   obtain ⟨h5,h6⟩:=d
   simp only at h5 h6
   subst h5 h6
   obtain ⟨_,hL⟩:=h.ls u _ ((hls u).trans aa)
   have s:∀ c,g.tag c=some (.tok u)->g2.tag c=some (.tok t):=fun c hc=> hr.tok c u t hc h3
   rcases hL with ⟨e1,e2⟩ | ⟨b,len,cap,e1,e2,e3,e4,e5,e6⟩
   .exact .inl ⟨hr.bs _ _ _ rfl hu e1,e2⟩
   .refine .inr ⟨b,len,cap,hr.bs _ _ _ rfl hu e1,e2,e3,e4,fun i y hy j c hc=> ?_,fun j a1 a2=> s _ (e6 j a1 a2)⟩
    obtain ⟨v,e7,e8,e9,ab⟩:=e5 i y hy j c hc
    exact ⟨v,e7,by rw [hr.m];exact e8,fun hi=> by rw [hr.m];exact e9 hi,fun hi=> s _ (ab hi)⟩
  .exact ZkJ h hls hr h2 t x hx
theorem ZuL{g:Gh}{v:Value}{c c':C U}(h:leC cfg c c')(hr:RelC cfg g ZI v c):RelC cfg g ZI v c':=by
 cases c <;> cases c' <;> simp only [leC] at h
 case int.int k n k' n'=> obtain ⟨rfl,rfl⟩:=h;exact hr
 case bool.bool=> subst h;exact hr
 case nils.nils=> exact hr
 case nilp.nilp=> exact hr
 case nilp.po T o=>
  subst h
  have d:=hr.1
  cases d
  exact ⟨.pnil T,trivial⟩
 case po.po T o T' o'=>
  split at h
  .rename_i hT _
   subst hT
   simp only at h
   subst h
   exact hr
  .exact h.elim
 case mref.mref t t'=> subst h;exact hr
 case xp.xp k k'=> subst h;exact hr
 case nils.slice T l tl=>
  subst h
  have d:=hr.1
  cases d
  refine ⟨.snil T tl,?_⟩
  cases tl with
  | unk=> trivial
  | full=> intro a len s u;simp at u;omega
  | own t=> intro _ a len s u;simp at u
 case slice.slice T l tl T' l' tl'=>
  split at h
  .rename_i hT _
   subst hT
   obtain ⟨d,h2⟩:=h
   simp only at d
   subst d
   refine ⟨hr.1.tl _,?_⟩
   cases tl' with
   | unk=> trivial
   | full=> cases tl <;> simp only [Zsc] at h2;exact hr.2
   | own t'=>
    cases tl with
    | unk=> exact h2.elim
    | full=>
     intro _ b len s u j h3 h4
     have:=hr.2 _ _ _ u
     subst this
     omega
    | own t=> have:t=t':=h2;subst this;exact hr.2
  .exact h.elim
theorem ZhU{g:Gh}:∀ {vs:List Value} {cs cs':List (C U)},leL cfg cs cs'->RelL cfg g ZI vs cs->RelL cfg g ZI vs cs'
 | vs,[],[],_,hr=> hr
 | vs,c ::cs,c' ::cs',h,hr=> by
  obtain ⟨h1,h2⟩:=h
  match vs,hr with
  | v ::vs,hr=>
   have h3:=ZhU (vs:=vs) h2 ⟨by simpa using hr.1,fun j u c s hc=> hr.2 (j+1) u c (by simpa using s) (by simpa using hc)⟩
   refine ⟨by simp [h3.1],fun j u d s hd=> ?_⟩
   cases j with
   | zero=> simp at s hd;subst s hd;exact ZuL h1 (hr.2 0 _ _ rfl rfl)
   | succ j=> exact h3.2 j u d (by simpa using s) (by simpa using hd)
  | [],hr=> have:=hr.1;simp at this
theorem ZCy{g:Gh}{v:Value}{ag:Bool}{cs cs':List (C U)}(h:leL cfg cs cs')(hr:RelW cfg g ZI v ag cs):RelW cfg g ZI v ag cs':=by
 cases ag with
 | true=> obtain ⟨vs,s,d⟩:=hr;exact ⟨vs,s,ZhU h d⟩
 | false=>
  obtain ⟨c,rfl,d⟩:=hr
  match cs',h with
  | [c'],h=> exact ⟨c',rfl,ZuL h.1 d⟩
def RelWs(cfg:Cfg U)(g:Gh)(dead:Tok->Bool)(vs:List Value)(ws:List (Bool × List (C U))):Prop:=
 vs.length=ws.length/\∀ (j:Nat) u w,vs[j]?=some u->ws[j]?=some w->RelW cfg g dead u w.1 w.2
theorem RelWs.cons{g:Gh}{dead:Tok->Bool}{v:Value}{w:Bool × List (C U)}{vs:List Value}{ws:List (Bool × List (C U))}(h:RelW cfg g dead v w.1 w.2)(hs:RelWs cfg g dead vs ws):RelWs cfg g dead (v ::vs) (w ::ws):=by
 refine ⟨by simp [hs.1],fun j u x s d=> ?_⟩
 cases j with
 | zero=> grind
 | succ j=> exact hs.2 j u x (by simpa using s) (by simpa using d)
theorem RelWs.uncons{g:Gh}{dead:Tok->Bool}{vs:List Value}{w:Bool × List (C U)}{ws:List (Bool × List (C U))}(h:RelWs cfg g dead vs (w ::ws)):∃ v r,vs=v ::r/\RelW cfg g dead v w.1 w.2/\RelWs cfg g dead r ws:=by
 match vs,h with
 | v ::r,h=> exact ⟨v,r,rfl,h.2 0 _ _ rfl rfl,by simpa using h.1,fun j u x s d=> h.2 (j+1) u x (by simpa using s) (by simpa using d)⟩
 | [],h=> have:=h.1;simp at this
theorem ZuK{g:Gh}:∀ {vs:List Value} {ws ws':List (Bool × List (C U))},leR cfg ws ws'->RelWs cfg g ZI vs ws->RelWs cfg g ZI vs ws'
 | vs,[],[],_,hr=> hr
 | vs,(b,cs) ::ws,(b',cs') ::ws',h,hr=> by
  obtain ⟨rfl,s,h2⟩:=h
  obtain ⟨v,r,rfl,u,d⟩:=hr.uncons
  exact .cons (ZCy s u) (ZuK h2 d)
theorem ZfH(hd:∀ t,Z19 t=true->st.dead t=false):∀ (ws:List (Bool × List (C U))) (i:Nat) (seen:List (Tok × Tok)),
  Ext seen (Z3Y i ws seen).2/\∀ s',Ext (Z3Y i ws seen).2 s'->∀ s,Ren (fun _=> true) g s' s->∀ vs,RelWs cfg g st.dead vs ws->RelWs cfg s ZI vs (Z3Y i ws seen).1
 | [],i,seen=> ⟨.refl _,fun s' _ s _ vs h=> ⟨h.1,fun j u w _ hw=> by trivial⟩⟩
 | (ag,cs) ::ws,i,seen=> by
  obtain ⟨h3,h4,h5⟩:=Z5W (cfg:=cfg) (g:=g) (okT:=fun _=> true) (mine:=Z19) (nm:=fun j=> .r 0 (16*i+j)) hd (fun _=> rfl) cs 0 seen
  obtain ⟨h6,h7⟩:=ZfH hd ws (i+1) (YQ Z19 (fun j=> .r 0 (16*i+j)) 0 cs seen).2
  refine ⟨h3.trans h6,fun s' hs s hg vs h=> ?_⟩
  obtain ⟨v,r,rfl,h8,h9⟩:=h.uncons
  refine .cons ?_ (h7 s' hs s hg r h9)
  have hL:∀ us,RelL cfg g st.dead us cs->RelL cfg s ZI us (YQ Z19 (fun j=> .r 0 (16*i+j)) 0 cs seen).1:=fun us hu=>
   ⟨by rw [h4];exact hu.1,fun j u c ah hc=> by
    have hj:j < cs.length:=by have:=(Q5.1 hc).1;omega
    exact h5 s' (h6.trans hs) s hg j u _ c (Q0 hj) hc (hu.2 j u _ ah (Q0 hj))⟩
  cases ag with
  | true=> obtain ⟨us,d,ae⟩:=h8;exact ⟨us,d,hL _ ae⟩
  | false=>
   obtain ⟨c,d,ae⟩:=h8
   simp only at d
   subst d
   have:=hL [v] ⟨rfl,fun j u c hu hc=> by
    grind⟩
   simp only [YQ] at this ⊢
   exact ⟨_,rfl,this.2 0 _ _ rfl rfl⟩
theorem ZpI(h:Rel cfg B st g a w)(hdead:st.dead=ZI){mem:List (Name × List (C U))}(hm:∀ nm,st.mem nm=Z1q mem nm){ls L:List (Tok × LC U)}:∀ (X:List (List (C U))) (k:Nat) (seen:List (Tok × Tok)),Zre cfg mem ls L k X seen->
  ∃ s',Ext seen s'/\Zgy cfg ls s' L/\∀ s2,Ext s' s2->∀ d,RenA (fun _=> true) g s2 d->∀ (i:Nat) cs,X[i]?=some cs->∀ (j:Nat) c,cs[j]?=some c->∃ v,w.cell? ((g.ad (.x (k+i))).add j)=some v/\g.tag ((g.ad (.x (k+i))).add j)=some (.obj (.x (k+i)))/\RelC cfg d ZI v c
 | [],k,seen,hx=> ⟨seen,.refl _,hx,fun s2 _ d _ i cs hi=> by simp at hi⟩
 | cs' ::X,k,seen,hx=> by
  simp only [Zre] at hx
  split at hx
  .rename_i cs aj
   obtain ⟨h1,h2⟩:=hx
   have hd:∀ t,Z19 t=true->st.dead t=false:=fun t _=> by rw [hdead];try rfl
   obtain ⟨h3,h4,h5⟩:=Z60 (cfg:=cfg) (g:=g) (okT:=fun _=> true) (mine:=Z19) (nm:= .x k) hd (fun _=> rfl) cs 0 [] seen
   obtain ⟨s',h6,al,h7⟩:=ZpI h hdead hm X (k+1) _ h2
   refine ⟨s',h3.trans h6,al,fun s2 hs d hg i az hi j c hj=> ?_⟩
   cases i with
   | zero=>
    simp at hi
    subst hi
    have ae:st.mem (.x k)=some cs:=by rw [hm];exact aj
    let f:Nat->Value:=fun j=> (w.cell? ((g.ad (.x k)).add j)).getD undef
    have hf:∀ j c,cs[j]?=some c->w.cell? ((g.ad (.x k)).add j)=some (f j)/\g.tag ((g.ad (.x k)).add j)=some (.obj (.x k))/\RelC cfg g st.dead (f j) c:=fun j c hc=> by
     obtain ⟨v,h8,h9,ax⟩:=h.mem _ _ ae j c hc
     grind
    have hR:RelL cfg d ZI ((List.range cs.length).map f) (Z0V Z19 (.x k) 0 [] cs seen).1:=by
     have ak:=RelL.of_get (cfg:=cfg) (g:=g) (st:=st) (f:=f) (fun j c hc=> (hf j c hc).2.2)
     refine ⟨by grind,fun j u c hu hc=> ?_⟩
     have hj:j < cs.length:=by have:=(Q5.1 hc).1;omega
     exact h5 s2 (h6.trans hs) d hg j u _ c (Q0 hj) hc (ak.2 j u _ hu (Q0 hj))
    have s:=ZhU h1 hR
    have ah:j < cs.length:=by have au:=(Q5.1 hj).1;have:=s.1;simp at this;omega
    obtain ⟨a1,av,_⟩:=hf j _ (Q0 ah)
    refine ⟨f j,V0,V0,s.2 j _ c (by simp [ah]) hj⟩
   | succ i=>
    grind
  grind
theorem ZeC:∀ (args:List (V U)) (i k:Nat),Zfh (Z5s i args) k=if i<=k then (args[k - i]?).getD .junk else .junk
 | [],i,k=> by simp [Z5s,Zfh]
 | v ::args,i,k=> by
  simp only [Z5s,Zfh]
  cases hk:Nat.beq i k with
  | true=>
   simp_all
  | false=>
   have d:i≠k:=fun e=> by simp_all
   simp only [cond_false]
   rw [ZeC args (i+1) k]
   grind
theorem Z2T:∀ (X:List (List (C U))) (k:Nat) (nm:Name),Z1q (Z5r k X) nm=match nm with | .x i=> if k<=i then X[i - k]? else none | .loc _=> none
 | [],k,nm=> by cases nm <;> simp [Z5r,Z1q]
 | cs ::X,k,nm=> by
  simp only [Z5r,Z1q]
  cases nm with
  | loc s=> simp [Z2T X (k+1) (.loc s)]
  | x i=>
   by_cases h:k=i
   .subst h;simp
   .rw [if_neg (fun e=> by grind),Z2T X (k+1) (.x i)]
    grind
theorem Zq5(ok:CfgOk P cfg)(h:Rel cfg B st g a w){rv:ResultVar}{x:Bool × List (C U)}(he:Z9U cfg st rv=some x):
  ∃ v,(match rv with | .tmp t=> pure (a.tmps.getD t undef) | .cell t ty=> do loadVar ty (<-asAddr (a.tmps.getD t undef)):Sem Value).run P w= .ok v w/\RelW cfg g st.dead v x.1 x.2:=by
 cases rv with
 | tmp t=>
  have d:=h.env t
  simp only [Z9U] at he
  split at he <;> simp only [Option.some.injEq,reduceCtorEq] at he
  .rename_i c hc;rw [hc] at d;subst he;exact ⟨_,rfl,c,rfl,d⟩
  .rename_i cs hc;rw [hc] at d;subst he;exact ⟨_,rfl,d⟩
 | cell t ty=>
  have d:=h.env t
  simp only [Z9U] at he
  split at he
  .rename_i ag zs hv
   cases hrd:rd st (st.env t) ag zs.length with
   | none=> grind
   | some y=>
    obtain ⟨v,h1,u⟩:=ZdF (w:=w) ok h hv d hrd
    refine ⟨v,?_,?_⟩
    .have hp:∃ b,a.tmps.getD t undef= .pointer (some b):=by
      cases hx:st.env t with
      | ptr nm off=> rw [hx] at d;exact ⟨_,d.2⟩
      | ep cs=> rw [hx] at d;obtain ⟨b,s,_⟩:=d;grind
      | ap nm off k len i=> rw [hx] at d;exact ⟨_,d.2.2⟩
      | _=> rw [hx] at hrd;simp [rd] at hrd
     obtain ⟨b,s⟩:=hp
     rw [s] at h1
     show (do let x <-asAddr (a.tmps.getD t undef);loadVar ty x:Sem Value).run P w=_
     rw [s]
     trivial
    .rw [hrd] at he
     cases y <;> simp only [Option.some.injEq,reduceCtorEq] at he
     .subst he;exact ⟨_,rfl,u⟩
     .subst he;exact u
  .cases he
theorem ZfI(ok:CfgOk P cfg)(h:Rel cfg B st g a w):∀ {rs:List ResultVar} {ws:List (Bool × List (C U))},Z7l cfg st rs=some ws->
  ∃ vs,(rs.mapM fun rv=> (match rv with | .tmp t=> pure (a.tmps.getD t undef) | .cell t ty=> do loadVar ty (<-asAddr (a.tmps.getD t undef)):Sem Value)).run P w= .ok vs w/\RelWs cfg g st.dead vs ws
 | [],ws,he=> by
  simp only [Z7l,Option.some.injEq] at he
  subst he
  exact ⟨[],by simp,rfl,fun j u w hu=> by simp at hu⟩
 | r ::rs,ws,he=> by
  simp only [Z7l] at he
  split at he
  .rename_i x l hx hl
   simp only [Option.some.injEq] at he
   subst he
   obtain ⟨v,h1,s⟩:=Zq5 (w:=w) ok h hx
   obtain ⟨vs,h3,d⟩:=ZfI ok h hl
   refine ⟨v ::vs,?_,.cons s d⟩
   simp_all
  .cases he
theorem Zqe{g:Gh}{live:Name->Bool}{r:V U}{ws:List (Bool × List (C U))}{vs:List Value}(hp:Ze6 r=some ws)(h:RelWs cfg g ZI vs ws):
  RelV cfg g ZI live (if hs:vs.toArray.size=1 then vs.toArray[0] else .tuple vs.toArray) r:=by
 cases r <;> simp only [Ze6,Option.some.injEq,reduceCtorEq] at hp
 case c x=>
  subst hp
  obtain ⟨v,r,rfl,s,h2⟩:=h.uncons
  have:r=[]:=Q6 (by simpa using h2.1)
  subst this
  obtain ⟨c,hc,hr⟩:=s
  cases hc
  exact hr
 case agg cs=>
  subst hp
  obtain ⟨v,r,rfl,s,h2⟩:=h.uncons
  have:r=[]:=Q6 (by simpa using h2.1)
  subst this
  exact s
 case tup ws'=>
  split at hp
  .cases hp
  .rename_i hl
   simp only [Option.some.injEq] at hp
   subst hp
   have d:vs.toArray.size≠1:=by have:=h.1;simpa [this] using hl
   rw [dif_neg d]
   exact ⟨_,rfl,by simpa using h.1,fun j u w hu hw=> h.2 j u w (by simpa using hu) hw⟩
def ZcC(cfg:Cfg U)(a b:C U):Prop:=∀ g v,RelC cfg g ZI v a->RelC cfg g ZI v b
def Zfa(cfg:Cfg U)(a b:V U):Prop:=∀ g live v,RelV cfg g ZI live v a->RelV cfg g ZI live v b
structure BetterAll (cfg:Cfg U) (args args':List (V U)) (X X':List (List (C U))):Prop where
 len:args.length=args'.length
 args:∀ (j:Nat) x y,args[j]?=some x->args'[j]?=some y->Zfa cfg x y
 xlen:X.length=X'.length
 xl:∀ (k:Nat) x y,X[k]?=some x->X'[k]?=some y->x.length=y.length
 x:∀ (k:Nat) x y,X[k]?=some x->X'[k]?=some y->∀ (j:Nat) c c',x[j]?=some c->y[j]?=some c'->ZcC cfg c c'
theorem Entry.better{w:World}{g:Gh}{vs:List Value}{args args':List (V U)}{X X':List (List (C U))}{L L':List (Tok × LC U)}(h:Entry cfg w g vs args X L)(b:BetterAll cfg args args' X X')(hL:∀ t x,Zx (fun _=> none) L' t=some x->Zx (fun _=> none) L t=some x):Entry cfg w g vs args' X' L':=by
 refine ⟨h.inv,h.tags,h.len.trans b.len,fun j v y hv hy=> ?_,fun k cs hk j c u=> ?_,h.bs,fun t x d=> h.ls t x (hL t x d)⟩
 .have u:j < args.length:=by have:=(Q5.1 hy).1;have:=b.len;omega
  have d:=Q0 u
  have:=b.args j _ y d hy g _ v (h.args j v _ hv d)
  have hl:Z92 X'=Z92 X:=by
   funext nm
   cases nm with
   | loc s=> rfl
   | x k=>
    have af:=b.xlen
    show (X'[k]?).isSome=(X[k]?).isSome
    grind
  grind
 .have ab:k < X.length:=by have:=(Q5.1 hk).1;have:=b.xlen;omega
  have d:=Q0 ab
  have ae:j < (X[k]).length:=by have:=(Q5.1 u).1;have:=b.xl k _ _ d hk;omega
  have hc:=Q0 ae
  obtain ⟨v,h1,h2,h3⟩:=h.x k _ d j _ hc
  exact ⟨v,h1,h2,b.x k _ _ d hk j _ c hc u g v h3⟩
theorem BetterAll.refl(args:List (V U))(X:List (List (C U))):BetterAll cfg args args X X:=
 ⟨rfl,fun j x y u d=> by rw [u] at d;cases d;exact fun _ _ _ h=> h,rfl,fun k x y u d=> by grind,
  fun k x y u d j c c' hc s=> by rw [u] at d;cases d;rw [hc] at s;cases s;exact fun _ _ h=> h⟩
theorem Zf1 {Γ:Known U} {draws:Array Oper->FSt U->Bool} (ok:CfgOk P cfg) (hΓ:∀ f s,Γ f=some s->Contract P cfg f s) (hdr:Z6R P cfg Γ draws) {f:FuncId} {fn:Func} {c:Code} (lv:Zc U)
  (hf:P.funcs[f]?=some fn) (hb:fn.body=some c) {args:List (V U)} {X:List (List (C U))} {L:List (Tok × LC U)} {w:World} {g:Gh} {vs:List Value} (E:Entry cfg w g vs args X L) (hn:args.length<=fn.ntmps) {Q:AExit->LSt U->Prop}
  (hawp:awp cfg Γ draws fn.ntmps lv c (JM args X L) Q) {R:Ending->World->Prop}
  (hq:∀ e' s' g' a' d,Q e' s'->Rel cfg ⟨w,g.m,g.tag,fun k=> g.ad (.x k)⟩ (s'.toF fn.ntmps) g' a' d->(∀ id,e'≠.exit id)/\a'.defers=[]/\∃ v,(results fn a'.tmps).run P d= .ok v d/\R (.returned v) d):Calls P f vs.toArray w R:=by
 let B:Base:=⟨w,g.m,g.tag,fun k=> g.ad (.x k)⟩
 have aq:vs.length<=fn.ntmps:=by rw [E.len];exact hn
 have u:Rel cfg B ((JM args X L).toF fn.ntmps) g { tmps:=vs.toArray++Array.replicate (fn.ntmps - vs.toArray.size) undef,defers:=[] } w:=by
  refine ⟨E.inv,⟨⟨rfl,rfl,rfl,Qf _⟩,fun _=> rfl,fun _ _ h=> h,fun c t h=> ⟨h,rfl⟩,fun c t h=> h,fun b _ _=> ⟨rfl,fun _ _=> rfl⟩,fun _ _=> rfl⟩,?_,?_,?_,rfl,fun t x hx=> ⟨rfl,E.ls t x hx⟩,fun t ht _ _=> E.bs t ht⟩
  .intro k
   have hl:(fun nm:Name=> (((JM args X L).toF fn.ntmps).mem nm).isSome)=Z92 X:=by
    funext nm
    simp only [LSt.toF,JM,Z2T]
    cases nm <;> simp [Z92]
   rw [hl]
   simp only [LSt.toF,JM,ZeC,QQ,if_true,Nat.sub_zero]
   cases hx:args[k]? with
   | none=> exact trivial
   | some x=>
    have hk:k < vs.length:=by rw [E.len];exact (Q5.1 hx).1
    have hv:vs[k]?=some vs[k]:=Q0 hk
    have:=E.args k _ x hv hx
    have hg:(vs.toArray++Array.replicate (fn.ntmps - vs.toArray.size) undef).getD k undef=vs[k]:=by
     simp [Array.getD,hk]
     intro h;omega
    grind
  .intro nm cs hm j c hc
   simp only [LSt.toF,JM,Z2T] at hm
   cases nm with
   | loc s=> simp at hm
   | x k=>
    simp at hm
    exact E.x k cs hm j c hc
  .simp only [LSt.toF]
   grind
 have ai:=Zr6 (B:=B) ok hΓ hdr (n:=fn.ntmps) (lv:=lv) c _ _ g _ w hawp u
 refine calls_of_wp (R:=R) (args:=vs.toArray) hf hb (wp_mono ai ?_)
 rintro e a' d ⟨e',s',g',rfl,hQ,hr⟩
 obtain ⟨h0,h1,h2⟩:=hq e' s' g' a' d hQ hr
 cases e' with
 | normal=> trivial
 | ret=> trivial
 | exit id=> grind
theorem Z4k {Γ:Known U} {draws:Array Oper->FSt U->Bool} (ok:CfgOk P cfg) (hΓ:∀ f s,Γ f=some s->Contract P cfg f s) (hdr:Z6R P cfg Γ draws) {f:FuncId} {fn:Func} {c:Code} {s:Fs U} (lv:Zc U)
  (hf : P.funcs[f]? = some fn) (hb : fn.body = some c) (hname : (fn.name == "runtime.NumGoroutine") = false)
  (hbody:∀ args X L ps r X' L',s.fn2 args X L=some (ps,r,X',L')->All ps->∃ args' X0 L0,BetterAll cfg args args' X X0/\(∀ t x,Zx (fun _=> none) L0 t=some x->Zx (fun _=> none) L t=some x)/\args'.length<=fn.ntmps/\awp cfg Γ draws fn.ntmps lv c (JM args' X0 L0) (Z0j cfg fn.ntmps fn.results.toList r X' L')):Contract P cfg f s:=by
 refine ⟨⟨fn,hf,by simp [hb],hname⟩,?_⟩
 intro al X1 L1 ps r X' L' hs a2 hX w g vs E1
 obtain ⟨args,X,L,ai,hL,hn,ao⟩:=hbody al X1 L1 ps r X' L' hs a2
 have E:=E1.better ai hL
 refine Zf1 ok hΓ hdr lv hf hb E hn ao ?_
 .intro e' s' g' a' w' hQ hr
  have hE:Zgz cfg fn.ntmps fn.results.toList r X' L' s':=by cases e' <;> first | exact hQ | exact hQ.elim
  refine ⟨fun id e=> by subst e;exact hQ,?_⟩
  refine ⟨hr.df,?_⟩
  unfold Zgz at hE
  split at hE
  case h_2=> exact hE.elim
  rename_i ws a9 ar aj
  obtain ⟨a0,hx⟩:=hE
  obtain ⟨us,h1,h2⟩:=ZfI (w:=w') ok hr ar
  have hd:∀ t,Z19 t=true->(s'.toF fn.ntmps).dead t=false:=fun t _=> rfl
  obtain ⟨h3,h4⟩:=ZfH (cfg:=cfg) (g:=g') (st:=s'.toF fn.ntmps) hd ws 0 []
  obtain ⟨sx,h5,a4,h6⟩:=ZpI hr rfl (mem:=s'.mem) (fun _=> rfl) X' 0 _ hx
  let keep:Name->Bool:=fun nm=> match nm with | .x k=> decide (k < X'.length) | .loc _=> false
  have d:∀ c,g'.tag c=none->(g'.anew sx keep (fun _=> true)).tag c=none:=fun c hc=> by simp only [Gh.anew,hc]
  have af:∀ c t,g'.tag c=some (.outer t)↔(g'.anew sx keep (fun _=> true)).tag c=some (.outer t):=by
   intro c t
   simp only [Gh.anew]
   cases hg:g'.tag c with
   | none=> simp
   | some t0=>
    cases t0 with
    | obj nm=> cases hk:keep nm <;> simp [hk]
    | tok u=> cases hk:Ym sx u <;> simp [hk]
    | outer t0=> simp
  have hW:=h4 sx h5 _ (Gh.anew_ren sx keep (fun _=> true)).toRen us h2
  have aq:=Zqe (live:=fun _=> false) aj (ZuK a0 hW)
  refine ⟨_,?_,_,g'.anew sx keep (fun _=> true),rfl,⟨fun c v hv=> ?_,fun c t ht=> ?_⟩,?_,?_,?_,aq,?_,ZkJ hr (fun _=> rfl) (Gh.anew_ren sx keep (fun _=> true)).toRen a4⟩
  .simp only [results,Sem.run_bind]
   have e1:fn.results=fn.results.toList.toArray:=by simp
   rw [e1,List.mapM_toArray]
   simp only [Sem.run_map,Sem.run_pure]
   exact congrArg (fun r:Result (List Value)=> (r.andThen fun a w'=> Result.ok a.toArray w').andThen fun a w'=> Result.ok (if h:a.size=1 then a[0] else Value.tuple a) w') h1
  .obtain ⟨h7,h8⟩:=hr.inv.im c v hv
   exact ⟨h7,d c h8⟩
  .cases hg:g'.tag c with
   | none=> rw [d c hg] at ht;cases ht
   | some t0=> exact hr.inv.it c t0 hg
  .have F:Fr ⟨w,g.m,g.tag,fun k=> g.ad (.x k)⟩ (g'.anew sx keep (fun _=> true)) w':=by
    refine hr.fr.step hr.inv (Evo.refl w' (fun _=> False)) (fun c hc=> hc.elim) (fun _ _ hv=> hv) (fun c t=> af c t) ?_ (fun _=> rfl)
    intro b _ am o sp
    cases hg:g'.tag ⟨b,o,sp⟩ with
    | none=> exact d _ hg
    | some t=>
     obtain ⟨t',rfl⟩:=am o sp t hg
     exact (af _ _).1 hg
   exact ⟨F.stay,fun _=> rfl,F.mono,F.outer,F.outer',F.clean,F.frz⟩
  .intro c t ht
   simp only [Gh.anew] at ht
   split at ht
   .rename_i u hu
    cases hn:Ym sx u with
    | none=> simp [hn] at ht
    | some u'=> simp [hn] at ht;exact .inr (.inr ⟨u',ht.symm⟩)
   .rename_i nm a7
    cases hk:keep nm with
    | false=> simp [hk] at ht
    | true=>
     simp [hk] at ht
     subst ht
     cases nm with
     | loc s=> simp [keep] at hk
     | x k=> exact .inr (.inl ⟨k,by simpa [keep] using hk,rfl⟩)
   .cases ht;exact .inl ⟨_,rfl⟩
   .cases ht
  .exact fun k _=> hr.fr.xad k
  .intro k cs hk j c hc
   obtain ⟨v,h7,h8,h9⟩:=h6 sx (.refl _) _ (Gh.anew_ren sx keep (fun _=> true)) k cs hk j c hc
   rw [QL] at h7 h8
   refine ⟨v,h7,?_,h9⟩
   have a3:k < X'.length:=(Q5.1 hk).1
   show (g'.anew sx keep (fun _=> true)).tag ((g'.ad (.x k)).add j)=_
   simp only [Gh.anew,h8,keep,a3,decide_true,cond_true]
theorem Zbw {Γ:Known U} {draws:Array Oper->FSt U->Bool} (ok:CfgOk P cfg) (hΓ:∀ f s,Γ f=some s->Contract P cfg f s) (hdr:Z6R P cfg Γ draws) {f:FuncId} {fn:Func} {c:Code} {s:Fs U} (lv:Zc U)
  (hf : P.funcs[f]? = some fn) (hb : fn.body = some c) (hname : (fn.name == "runtime.NumGoroutine") = false)
  (hbody:∀ args X ps r X',s.fn args X=some (ps,r,X')->All ps->∃ d X0,BetterAll cfg args d X X0/\d.length<=fn.ntmps/\awp cfg Γ draws fn.ntmps lv c (Zf d X0) (ZX cfg fn.ntmps fn.results.toList r X')) (hd:s.fn2=Zbv s.fn:=by rfl):Contract P cfg f s:=by
 refine Z4k ok hΓ hdr lv hf hb hname ?_
 intro args X L ps r X' L' u aa
 rw [hd] at u
 unfold Zbv at u
 split at u
 .split at u
  .rename_i h1
   cases u
   obtain ⟨d,X0,h2,h3,h4⟩:=hbody args X _ _ _ h1 aa
   exact ⟨d,X0,[],h2,fun t x hx=> hx,h3,h4⟩
  .cases u
 .cases u
def XsN(cfg:Cfg U)(mem:List (Name × List (C U))):Nat->List (List (C U))->Prop
 | _,[]=> True
 | k,c ::r=> (match Z1q mem (.x k) with
  | some c0=> leL cfg c0 c
  | none=> False)/\c.all C.plain=true/\XsN cfg mem (k+1) r
theorem Zmu{mem:List (Name × List (C U))}:∀ {X:List (List (C U))} {k0:Nat},XsN cfg mem k0 X->∀ (k:Nat) c,X[k]?=some c->(∃ c0,Z1q mem (.x (k0+k))=some c0/\leL cfg c0 c)/\c.all C.plain=true
 | [],_,_,k,c,hk=> by simp at hk
 | c1 ::r,k0,h,0,c,hk=> by
  simp at hk
  subst hk
  refine ⟨?_,h.2.1⟩
  have d:=h.1
  split at d
  .exact ⟨_,‹_›,d⟩
  .exact d.elim
 | c1 ::r,k0,h,k+1,c,hk=> by
  have:=Zmu h.2.2 k c (by simpa using hk)
  rwa [show k0+1+k=k0+(k+1) by omega] at this
def Zwb(cfg:Cfg U)(n:Nat)(rs:List ResultVar)(X:List (List (C U)))(cs:List (C U))(s:LSt U):Prop:=
 match rs with
 | [.tmp t]=> match (s.toF n).env t with
  | .ptr (.loc d) 0=> match Z1q s.mem (.loc d) with
   | some cs0=> leL cfg cs0 cs/\cs.all C.plain=true/\XsN cfg s.mem 0 X
   | none=> False
  | _=> False
 | _=> False
def ZaG(cfg:Cfg U)(n:Nat)(rs:List ResultVar)(X:List (List (C U)))(cs:List (C U))(e:AExit)(s:LSt U):Prop:=
 match e with
 | .exit _=> False
 | _=> Zwb cfg n rs X cs s
theorem Z9E {Γ:Known U} {draws:Array Oper->FSt U->Bool} (ok:CfgOk P cfg) (hΓ:∀ f s,Γ f=some s->Contract P cfg f s) (hdr:Z6R P cfg Γ draws) {f:FuncId} {fn:Func} {c:Code} {s:Fs U} (lv:Zc U)
  (hf : P.funcs[f]? = some fn) (hb : fn.body = some c) (hname : (fn.name == "runtime.NumGoroutine") = false)
  (hbody:∀ args X ps r X',s.fn args X=some (ps,r,X')->All ps->∃ args' X0 X1 cs,r= .ptr (.x X1.length) 0/\X'=X1++[cs]/\BetterAll cfg args args' X X0/\args'.length<=fn.ntmps/\awp cfg Γ draws fn.ntmps lv c (Zf args' X0) (ZaG cfg fn.ntmps fn.results.toList X1 cs)) (hd:s.fn2=Zbv s.fn:=by rfl):Contract P cfg f s:=by
 refine Jj ⟨fn,hf,by simp [hb],hname⟩ hd ?_
 intro ao X2 ps r X' hs bb _ w g vs E1
 obtain ⟨args,X0,X1,cs,rfl,rfl,ah,hn,az⟩:=hbody ao X2 ps r X' hs bb
 have E:=E1.better (L':=[]) ah (fun t x hx=> hx)
 refine Zf1 ok hΓ hdr lv hf hb E hn az ?_
 intro e' s' g' a' w' hQ hr
 have hE:Zwb cfg fn.ntmps fn.results.toList X1 cs s':=by cases e' <;> first | exact hQ | exact hQ.elim
 refine ⟨fun id e=> by subst e;exact hQ,hr.df,?_⟩
 unfold Zwb at hE
 split at hE
 case h_2=> exact hE.elim
 rename_i t bi
 split at hE
 case h_2=> exact hE.elim
 rename_i d ht
 split at hE
 case h_2=> exact hE.elim
 rename_i bf ba
 obtain ⟨aq,ai,a8⟩:=hE
 have hv:=hr.env t
 rw [ht] at hv
 have hv:a'.tmps.getD t undef= .pointer (some ((g'.ad (.loc d)).add 0)):=hv.2
 let re:Name->Option Nat:=fun nm=> if nm= .loc d then some X1.length else match nm with
  | .x k=> if k < X1.length then some k else none
  | .loc _=> none
 let g1:Gh:={ m:=g'.m,tag:=fun c=> (match g'.tag c with | some (.outer t)=> some (.outer t) | some (.obj nm)=> (re nm).map fun k=> .obj (.x k) | _=> none),ad:=fun nm=> if nm= .x X1.length then g'.ad (.loc d) else g'.ad nm,bs:=g'.bs }
 have ar:∀ c t,g1.tag c=some (.outer t)↔g'.tag c=some (.outer t):=by
  intro c t
  simp only [g1]
  cases hg:g'.tag c with
  | none=> simp
  | some t0=>
   cases t0 with
   | obj nm=> cases re nm <;> simp
   | tok u=> simp
   | outer t0=> simp
 have au:∀ c,g'.tag c=none->g1.tag c=none:=fun c hc=> by simp only [g1,hc]
 have bg:∀ nm k,re nm=some k->k < X1.length+1:=by
  intro nm k hk
  simp only [re] at hk
  split at hk
  .cases hk;omega
  .split at hk
   .split at hk
    .cases hk;omega
    .cases hk
   .cases hk
 have al:∀ nm k c0 c,Z1q s'.mem nm=some c0->re nm=some k->g1.ad (.x k)=g'.ad nm->leL cfg c0 c->c.all C.plain=true->∀ (j:Nat) cc,c[j]?=some cc->∃ v,w'.cell? ((g1.ad (.x k)).add j)=some v/\g1.tag ((g1.ad (.x k)).add j)=some (.obj (.x k))/\RelC cfg g1 ZI v cc:=by
  intro nm k c0 c hl hk a9 aq ai j cc hj
  rw [Qy] at ai
  let fz:Nat->Value:=fun j=> (w'.cell? ((g'.ad nm).add j)).getD undef
  have hf:∀ j c,c0[j]?=some c->w'.cell? ((g'.ad nm).add j)=some (fz j)/\g'.tag ((g'.ad nm).add j)=some (.obj nm)/\RelC cfg g' ZI (fz j) c:=fun j c hc=> by
   obtain ⟨v,h8,h9,bh⟩:=hr.mem _ _ hl j c hc
   simp only [fz,h8]
   exact ⟨rfl,h9,bh⟩
  have hR:=ZhU aq (RelL.of_get (cfg:=cfg) (g:=g') (st:=s'.toF fn.ntmps) (f:=fz) (fun j c hc=> (hf j c hc).2.2))
  have a1:j < c0.length:=by have bu:=(Q5.1 hj).1;have:=hR.1;simp at this;omega
  obtain ⟨bc,a6,_⟩:=hf j _ (Q0 a1)
  rw [a9]
  exact ⟨fz j,bc,by simp only [g1,a6,hk,Qe],RelC.plain (g1:=g') (g2:=g1) rfl (ai cc (QK hj)) (hR.2 j _ cc (by simp [a1]) hj)⟩
 have am:g1.ad (.x X1.length)=g'.ad (.loc d):=by simp only [g1,if_true]
 have aj:∀ k,k≠X1.length->g1.ad (.x k)=g'.ad (.x k):=fun k hk=> by
  simp only [g1]
  rw [if_neg (by simpa using hk)]
 refine ⟨a'.tmps.getD t undef,?_,_,g1,rfl,⟨fun c v hv=> ?_,fun c t ht=> ?_⟩,?_,?_,?_,⟨rfl,by rw [hv,am]⟩,?_,fun t x hx=> by cases hx⟩
 .simp only [results,Sem.run_bind]
  have e1:fn.results=#[.tmp t]:=by apply Xh;simpa using bi
  rw [e1]
  simp
 .obtain ⟨h7,h8⟩:=hr.inv.im c v hv
  exact ⟨h7,au c h8⟩
 .cases hg:g'.tag c with
  | none=> rw [au c hg] at ht;cases ht
  | some t0=> exact hr.inv.it c t0 hg
 .refine ⟨hr.fr.stay,fun _=> rfl,hr.fr.mono,fun c t h=> ?_,fun c t h=> hr.fr.outer' c t ((ar c t).1 h),fun b hb a0=> ?_,hr.fr.frz⟩
  .obtain ⟨h1,h2⟩:=hr.fr.outer c t h
   exact ⟨(ar c t).2 h1,h2⟩
  .obtain ⟨h1,h2⟩:=hr.fr.clean b hb a0
   refine ⟨h1,fun o sp=> ?_⟩
   rw [<-h2 o sp]
   cases hg:g'.tag ⟨b,o,sp⟩ with
   | none=> exact au _ hg
   | some t=>
    obtain ⟨t',rfl⟩:=a0 o sp t (by rw [<-h2 o sp];exact hg)
    exact (ar _ _).2 hg
 .intro c t ht
  simp only [g1] at ht
  split at ht
  .cases ht;exact .inl ⟨_,rfl⟩
  .rename_i nm _
   cases hk:re nm with
   | none=> simp [hk] at ht
   | some k=>
    simp [hk] at ht
    subst ht
    exact .inr (.inl ⟨k,by simpa using bg nm k hk,rfl⟩)
  .cases ht
 .intro k hk
  have:k≠X1.length:=fun e=> hk (by rw [e])
  exact (aj k this).trans (hr.fr.xad k)
 .intro k a2 hk j c hj
  have bo:k < X1.length+1:=by have:=(Q5.1 hk).1;simpa using this
  rcases XD k X1.length with hk1 | hk1
  .rw [QG hk1] at hk
   obtain ⟨⟨c0,h1,h2⟩,h3⟩:=Zmu a8 k a2 hk
   rw [QL] at h1
   exact al (.x k) k c0 a2 h1 (by simp only [re];rw [if_neg (by simp),if_pos hk1]) (aj k V0) h2 h3 j c hj
  .have:k=X1.length:=V0
   subst this
   simp at hk
   subst hk
   exact al (.loc d) _ bf cs ba (by simp only [re,if_true]) am aq ai j c hj
def Z22(o:Oper):Bool:=
 match o.op with
 | .call c=> match c.callee with
  | .builtin .len=> false
  | _=> true
 | .makeSlice _ _ _=> true
 | .buildSlice _ _ parts=> Z4l parts.toList
 | _=> false
structure Fp where
 touch:List Name
 writes:List Name
 kills:Bool
 touchT:List Tok
 writesT:List Tok
 allT:Bool
def Z08(Γ:Known U)(o:Oper)(st:FSt U):Bool:=
 match o.op with
 | .call c=> match c.callee with
  | .value g=> match st.strip.opnd g with
   | some (.fn f)=> Z7X Γ (some (.fn f))
   | some (.clo f _)=> Z7X Γ (some (.fn f))
   | _=> false
  | _=> false
 | _=> false
def ZqL(Γ:Known U)(o:Oper)(st:FSt U)(e:Eff U):Fp:={ allT:=Z08 Γ o st,touch:=touch o st,writes:=e.mem.map (·.1),kills:= !e.kill.isEmpty,touchT:=touchT o st,writesT:=e.kill++e.ls.map (·.1) }
def ZiR(l:List Tok)(t:Tok):Bool:=
 match l with
 | []=> false
 | a ::r=> if a=t then true else ZiR r t
def Zeo(a b:List Tok):Bool:=a.any fun x=> ZiR b x
def noR(d:Nat)(a:List Tok):Bool:=a.all fun t=> match t with
 | .r d' _=> !Nat.beq d' d
 | _=> true
def ZlA(a b:List Name):Bool:=a.any fun x=> YX b x
def Zid(ops:Array Oper)(x y:Oper)(a b:Fp):Bool:=
 x.apart ops y && y.apart ops x && !ZlA a.writes b.touch && !ZlA b.writes a.touch && !ZlA a.writes b.writes && !(a.kills && Z22 y) && !(b.kills && Z22 x) &&
  !Zeo a.writesT b.touchT && !Zeo b.writesT a.touchT && !Zeo a.writesT b.writesT && noR (y.dst.getD 0) a.writesT && noR (x.dst.getD 0) b.writesT &&
  (a.writesT.isEmpty || !b.allT) && (b.writesT.isEmpty || !a.allT)
structure Alike (Γ:Known U) (o:Oper) (ops:Array Oper) (st st':FSt U):Prop where
 n:st'.n=st.n
 env:∀ t,t∈o.looksAt ops->st'.env t=st.env t
 mem:∀ nm,nm∈touch o st->st'.mem nm=st.mem nm
 dead:Z22 o=true->st'.dead=st.dead
 mu:st'.mu=st.mu
 vw:st'.vw=st.vw
 ls:∀ t,t∈touchT o st->st'.ls t=st.ls t
 fr:∀ j,st'.ls (.r (o.dst.getD 0) j)=st.ls (.r (o.dst.getD 0) j)
 all:Z08 Γ o st=true->st'.ls=st.ls
theorem Alike.tok{o:Oper}{ops:Array Oper}{Γ:Known U}{st st':FSt U}(h:Alike Γ o ops st st'){x:Operand}(hx:x∈JG o){v:V U}(hv:st.strip.opnd x=some v){t:Tok}(ht:t∈v.toks):st'.ls t=st.ls t:=
 h.ls t (List.mem_flatMap.2 ⟨x,hx,by grind⟩)
theorem Z91{st st':FSt U}{d:Nat}(hd:st'.dead=st.dead)(hf:∀ j,st'.ls (.r d j)=st.ls (.r d j)):∀ (L:List (Tok × LC U)),Z0g st' d L=Z0g st d L
 | []=> rfl
 | (t,x) ::L=> by
  simp only [Z0g,Z91 hd hf L]
  cases hb:ZO d t with
  | none=> rfl
  | some t'=>
   have e:∃ j,t'= .r d j:=by
    unfold ZO at hb
    split at hb
    .grind
    .grind
    .cases hb
   grind
theorem Alike.opnd{o:Oper}{ops:Array Oper}{Γ:Known U}{st st':FSt U}(h:Alike Γ o ops st st'){x:Operand}(hx:x∈o.op.operands.toList):st'.opnd x=st.opnd x/\st'.strip.opnd x=st.strip.opnd x:=by
 cases x with
 | tmp t=>
  have d:t∈o.looksAt ops:=QO _ (XA.2 ⟨.tmp t,hx,rfl⟩)
  have:=h.env t d
  exact ⟨by simp [FSt.opnd,this],by simp [FSt.opnd,FSt.strip,this]⟩
 | const c=> trivial
 | global g=> trivial
 | func f=> trivial
theorem Zt3{st st':FSt U}{p:V U}{ag:Bool}{n:Nat}(h:∀ nm,nm∈ZG (some p)->st'.mem nm=st.mem nm):rd st' p ag n=rd st p ag n:=by
 cases p <;> simp only [rd]
 case ptr nm off=> rw [h nm (by simp [ZG])]
 case ap nm off k len i=> rw [h nm (by simp [ZG])]
theorem Z57{st st':FSt U}(hd:st'.dead=st.dead)(ps:Nat->Bool):∀ (xs:List (V U)) (i:Nat) (os:List (Name × List (C U))) (d:List (Tok × Tok)),
  (∀ x,x∈xs->∀ nm,nm∈ZG (some x)->st'.mem nm=st.mem nm)->YC st' ps i xs os d=YC st ps i xs os d
 | [],i,os,d,_=> rfl
 | x ::xs,i,os,d,h=> by
  have ih:=fun i os d=> Z57 hd ps xs i os d (fun y u=> h y (by simp [u]))
  simp only [YC,hd,ih]
  cases hp:Zqa x with
  | none=> rfl
  | some nm=>
   have e:st'.mem nm.1=st.mem nm.1:=by
    refine h x (by simp) nm.1 ?_
    cases x <;> simp only [Zqa,reduceCtorEq] at hp
    .cases hp;simp [ZG]
    .split at hp
     .grind
     .rename_i s;cases s;cases hp;simp [ZG]
     .cases hp
   simp only [e]
theorem Z61{l:List Name}{nm:Name}(h:nm∈l):nm∈Zfs l:=by
 cases l with
 | nil=> cases h
 | cons a l=> exact QO _ h
theorem Zrk{l:List Name}{k:Nat}(hk:k < 8)(hl:l≠[]):Name.x k∈Zfs l:=by
 cases l with
 | nil=> grind
 | cons a l=>
  refine Xl _ ?_
  grind
theorem Zam:∀ {cs:List (C U)} {hv:List Name} {nm:Name},nm∈Zgf cs hv->nm∈hv\/∃ k,k < 8/\nm= .x k
 | [],hv,nm,h=> .inl h
 | c ::cs,hv,nm,h=> by
  cases c with
  | xp k=>
   simp only [Zgf] at h
   rcases Zam h with h | h
   .split at h
    .rename_i hc
     rw [Q4] at hc
     rcases Qg.1 h with h | h
     .exact .inl h
     .exact .inr ⟨k,by simpa using hc.1,by simpa using h⟩
    .exact .inl h
   .exact .inr h
  | _=> exact Zam (by simpa only [Zgf] using h)
theorem Zge{st:FSt U}:∀ {l hv:List Name} {nm:Name},nm∈Z76 st l hv->nm∈hv\/(l≠[]/\∃ k,k < 8/\nm= .x k)
 | [],hv,nm,h=> .inl h
 | a ::l,hv,nm,h=> by
  simp only [Z76] at h
  rcases Zge h with h | ⟨_,h⟩
  .split at h
   .rcases Zam h with h | h
    .exact .inl h
    .exact .inr ⟨by simp,h⟩
   .exact .inl h
  .exact .inr ⟨by simp,h⟩
theorem Zbm{st st':FSt U}:∀ {l hv:List Name},(∀ nm∈l,st'.mem nm=st.mem nm)->Z76 st' l hv=Z76 st l hv
 | [],hv,_=> rfl
 | a ::l,hv,h=> by
  simp only [Z76,h a (by simp)]
  exact Zbm fun nm d=> h nm (by simp [d])
theorem JR:∀ {vs:List (V U)} {nm:Name},nm∈J1 vs->∃ x∈vs,nm∈ZG (some x)
 | [],nm,h=> by cases h
 | v ::vs,nm,h=> by
  simp only [J1] at h
  split at h
  .rename_i n mk d
   rcases Q9.1 h with rfl | h
   .refine ⟨v,by simp,?_⟩
    cases v <;> simp only [Zqa,reduceCtorEq] at d
    .cases d;simp [ZG]
    .split at d
     .grind
     .rename_i s;cases s;cases d;simp [ZG]
     .cases d
   .obtain ⟨x,u,h2⟩:=JR h
    grind
  .obtain ⟨x,u,h2⟩:=JR h
   grind
theorem Z2p{st:FSt U}{ps:Nat->Bool}:∀ {xs:List (V U)} {i:Nat} {os:List (Name × List (C U))} {seen:List (Tok × Tok)} {ys:List (V U)} {os':List (Name × List (C U))} {seen':List (Tok × Tok)},
  YC st ps i xs os seen=some (ys,os',seen')->os'.map (·.1)=os.map (·.1)++J1 xs
 | [],i,os,seen,ys,os',seen',h=> by
  simp only [YC,oP] at h
  obtain ⟨_,rfl,_⟩:=h
  simp [J1]
 | x ::xs,i,os,seen,ys,os',seen',h=> by
  simp only [YC] at h
  split at h
  .rename_i nm mk s
   split at h
   .cases h
   split at h
   .cases h
   split at h
   .rename_i d
    simp only [oP] at h
    obtain ⟨_,rfl,_⟩:=h
    have:=Z2p d
    simp only [J1,s]
    grind
   .cases h
  .rename_i s
   split at h
   .cases h
   split at h
   .rename_i d
    simp only [oP] at h
    obtain ⟨_,rfl,_⟩:=h
    have:=Z2p d
    simp only [J1,s]
    exact this
   .cases h
theorem Zki{st:FSt U}{vs:List (V U)}{base:List Name}(hs:∀ x∈vs,∀ nm∈ZG (some x),nm∈base):∀ x∈vs++Z1y st vs,∀ nm∈ZG (some x),nm∈Zfs base:=by
 intro x d nm h
 rcases Qg.1 d with d | d
 .exact Z61 (hs x d nm h)
 .unfold Z1y at d
  obtain ⟨n,h1,rfl⟩:=Xb.1 d
  simp only [ZG,Qp] at h
  subst h
  rcases Zge (Xw h1) with h2 | ⟨h2,k,hk,rfl⟩
  .obtain ⟨y,u,s⟩:=JR h2
   exact Z61 (hs y u _ s)
  .refine Zrk hk fun e=> ?_
   cases ha:J1 vs with
   | nil=> exact h2 ha
   | cons b l=>
    obtain ⟨y,u,s⟩:=JR (show b∈J1 vs by rw [ha];simp)
    grind
theorem Z5B {Γ:Known U} {st st':FSt U} {d:Nat} {f:FuncId} {vs:List (V U)} {base:List Name} (hd:st'.dead=st.dead) (hs:∀ x∈vs,∀ nm∈ZG (some x),nm∈base) (hm:∀ nm∈Zfs base,st'.mem nm=st.mem nm)
  (hB:∀ L,Z0g st' d L=Z0g st d L) (hW:∀ s,Γ.fn f=some s->∀ toks c,(bif s.wr then JZ st'.ls toks c else [])=(bif s.wr then JZ st.ls toks c else []:List (Tok × LC U))):Z4w Γ st' d f vs=Z4w Γ st d f vs:=by
 unfold Z4w
 cases hG:Γ.fn f with
 | none=> rfl
 | some s=>
  have hx:Z1y st' vs=Z1y st vs:=by
   unfold Z1y
   rw [Zbm]
   intro nm u
   obtain ⟨x,h1,h2⟩:=JR u
   exact hm nm (Z61 (hs x h1 nm h2))
  have u:=Zki (st:=st) hs
  simp only [hB,hW s hG,hx]
  rw [Z57 (st:=st) (st':=st') hd _ _ _ _ _ (fun x h nm ae=> hm nm (u x h nm ae))]
  cases hp:YC st s.pass 0 (vs++Z1y st vs) [] [] with
  | none=> rfl
  | some r=>
   obtain ⟨ys,os,toks⟩:=r
   have e:(os.map fun x=> ZqM st' os (x.2,x.1))=os.map fun x=> ZqM st os (x.2,x.1):=by
    apply Xz
    intro x h
    have h1:x.1∈os.map (·.1):=Xb.2 ⟨x,h,rfl⟩
    rw [Z2p hp] at h1
    obtain ⟨y,h2,h3⟩:=JR (show x.1∈J1 (vs++Z1y st vs) by simpa using h1)
    simp only [ZqM,hm _ (u y h2 _ h3)]
   simp only [e]
theorem Z7F{st st':FSt U}{x:Option Operand}(h:∀ y,x=some y->st'.opnd y=st.opnd y):Z0q st' x=Z0q st x:=by
 cases x with
 | none=> rfl
 | some y=> simp only [Z0q,h y rfl]
theorem Z2t{α β:Type}{f f':α->Option β}:∀ {l:List α},(∀ x,x∈l->f' x=f x)->l.mapM f'=l.mapM f
 | [],_=> rfl
 | x ::l,h=> by rw [X4,X4,h x (by simp),Z2t (fun y d=> h y (by simp [d]))]
theorem Zr9{Γ:Known U}{o:Oper}{ops:Array Oper}{st st':FSt U}(h:Alike Γ o ops st st'):aop cfg Γ o st'.strip=aop cfg Γ o st.strip:=by
 have ab:=fun {x:Operand} (hx:x∈o.op.operands.toList)=> (h.opnd hx).2
 have hm:=h.mem
 have hd:=h.dead
 have ah:=fun {x:Operand} (hx:x∈JG o) {v:V U} (hv:st.strip.opnd x=some v) {t:Tok} (ht:t∈v.toks)=> h.tok hx hv ht
 have ax:=h.mu
 have am:=h.fr
 have ar:=h.all
 obtain ⟨af,op,bd,bi,a8,ba⟩:=o
 cases op <;> simp only [aop]
 case move x=> rw [ab (by simp [Op.operands])]
 case assign x=> rw [ab (by simp [Op.operands])]
 case alloc t=>
  cases af with
  | none=> rfl
  | some d=>
   have:st'.strip.mem (.loc d)=st.strip.mem (.loc d):=hm (.loc d) (by simp [touch])
   cases cfg.var t with
   | none=> rfl
   | some z=> simp only [this]
 case box t x=>
  cases af with
  | none=> rfl
  | some d=>
   have:st'.strip.mem (.loc d)=st.strip.mem (.loc d):=hm (.loc d) (by simp [touch])
   rw [ab (x:=x) (by simp [Op.operands])]
   cases cfg.var t with
   | none=> rfl
   | some z=>
    cases (st.strip.opnd x).bind V.cells with
    | none=> rfl
    | some cs=> simp only [this]
 case build t parts=>
  rw [Z2t (f:=fun x=> ((st.strip.opnd x.2).bind V.cells).map (x.1,·))]
  intro x hx
  rw [ab (by simp only [Op.operands];simp;exact ⟨x.1,by simpa using hx⟩)]
 case buildSlice t n parts=>
  rw [Z2t (f:=fun x=> (st.strip.opnd x.2).map (x.1,·)) (by
   intro x hx
   rw [ab (by simp only [Op.operands];simp;exact ⟨x.1,by simpa using hx⟩)])]
  have ai:st'.strip.mu=st.strip.mu:=ax
  cases hc:Z4l parts.toList with
  | false=> simp only [Bool.and_false,cond_false]
  | true=>
   have e1:st'.strip.dead=st.strip.dead:=hd hc
   cases af with
   | none=> simp only [ZcB,ai]
   | some d=>
    have e2:st'.strip.ls (.r d 0)=st.strip.ls (.r d 0):=am 0
    simp only [ZcB,ai,e1,e2]
 case load t p=>
  rw [ab (by simp [Op.operands])]
  cases cfg.var t with
  | none=> rfl
  | some z=>
   cases hp:st.strip.opnd p with
   | none=> rfl
   | some v=>
    have:rd st'.strip v z.1 z.2.length=rd st.strip v z.1 z.2.length:=Zt3 fun nm aj=> hm nm (by simp only [touch];rw [hp];exact aj)
    cases v <;> first | (simp only [this];done) | skip
    case c c=> cases c <;> first | rfl | (simp only [this];done)
    case mp u n off=>
     have:st'.strip.ls u=st.strip.ls u:=ah (x:=p) (by simp [JG]) hp (by simp [V.toks])
     simp only [this]
 case store t p x=>
  rw [ab (x:=p) (by simp [Op.operands]),ab (x:=x) (by simp [Op.operands])]
  cases cfg.var t with
  | none=> rfl
  | some z=>
   cases hp:st.strip.opnd p with
   | none=> rfl
   | some v=>
    cases v <;> try rfl
    case mp u n off=>
     have:st'.strip.ls u=st.strip.ls u:=ah (x:=p) (by simp [JG]) hp (by simp [V.toks])
     cases (st.strip.opnd x).bind V.cells with
     | none=> rfl
     | some cs=> simp only [this]
    case ptr nm off=>
     have:st'.strip.mem nm=st.strip.mem nm:=hm nm (by simp only [touch];rw [hp];simp [ZG])
     cases (st.strip.opnd x).bind V.cells with
     | none=> rfl
     | some cs=> simp only [this]
    case ap nm off k len n=>
     have:st'.strip.mem nm=st.strip.mem nm:=hm nm (by simp only [touch];rw [hp];simp [ZG])
     cases (st.strip.opnd x).bind V.cells with
     | none=> rfl
     | some cs=>
      match cs with
      | []=> rfl
      | [c]=> cases c <;> first | rfl | simp only [this]
      | c ::_ ::_=> cases c <;> rfl
 case nilCheck x=>
  rw [ab (by simp [Op.operands])]
  cases hp:st.strip.opnd x with
  | none=> rfl
  | some v=>
   cases v <;> try rfl
   case c c=> cases c <;> rfl
   case mp u n off=>
    have:st'.strip.ls u=st.strip.ls u:=ah (x:=x) (by simp [JG]) hp (by simp [V.toks])
    simp only [this]
 case binOp bop t x y t'=> rw [ab (x:=x) (by simp [Op.operands]),ab (x:=y) (by simp [Op.operands])]
 case unOp uop t x=> rw [ab (by simp [Op.operands])]
 case convert src dst' x=> rw [ab (by simp [Op.operands])]
 case makeSlice t n m=>
  rw [ab (x:=n) (by simp [Op.operands]),ab (x:=m) (by simp [Op.operands])]
  have ai:st'.strip.mu=st.strip.mu:=ax
  have e1:st'.strip.dead=st.strip.dead:=hd rfl
  cases af with
  | none=> simp only [ZiD,ai]
  | some d=>
   have e2:st'.strip.ls (.r d 0)=st.strip.ls (.r d 0):=am 0
   simp only [ZiD,ai,e1,e2]
 case slice t x lo hi mx=>
  rw [ab (x:=x) (by simp [Op.operands]),Z7F (x:=lo) (fun y hy=> ab (by simp [Op.operands,hy])),Z7F (x:=hi) (fun y hy=> ab (by simp [Op.operands,hy])),Z7F (x:=mx) (fun y hy=> ab (by simp [Op.operands,hy]))]
  cases hp:st.strip.opnd x with
  | none=> rfl
  | some v=>
   cases v
   case ptr nm off=>
    have:st'.strip.mem nm=st.strip.mem nm:=hm nm (by simp only [touch];rw [hp];simp [ZG])
    cases Z0q st.strip lo with
    | none=> rfl
    | some a=>
     cases Z0q st.strip hi with
     | none=> cases a <;> rfl
     | some b=>
      cases Z0q st.strip mx with
      | none=> cases a <;> cases b <;> rfl
      | some c=> cases a <;> cases b <;> cases c <;> first | rfl | simp only [this]
   case c c=>
    have bb:st'.strip.vw=st.strip.vw:=h.vw
    cases c
    case mref u=>
     have:st'.strip.ls u=st.strip.ls u:=ah (x:=x) (by simp [JG]) hp (by simp [V.toks])
     rcases Z0q st.strip lo with _ | _ | v
     case some.some=>
      cases v
      case c c=> cases c <;> rcases Z0q st.strip hi with _ | _ | _ <;> rcases Z0q st.strip mx with _ | _ | _ <;> first | rfl | simp only [this,bb]
      all_goals (cases Z0q st.strip hi <;> cases Z0q st.strip mx <;> rfl)
     all_goals (cases Z0q st.strip hi <;> cases Z0q st.strip mx <;> rfl)
    all_goals (cases Z0q st.strip lo <;> cases Z0q st.strip hi <;> cases Z0q st.strip mx <;> rfl)
   all_goals (cases Z0q st.strip lo <;> cases Z0q st.strip hi <;> cases Z0q st.strip mx <;> rfl)
 case fieldAddr t x f=>
  rw [ab (by simp [Op.operands])]
  cases hp:st.strip.opnd x with
  | none=> rfl
  | some v=>
   cases cfg.fld t f with
   | none=> cases v with
    | c c=> cases c <;> rfl
    | _=> rfl
   | some z=>
    cases v <;> try rfl
    case c c=> cases c <;> rfl
    case mp u n off=>
     have:st'.strip.ls u=st.strip.ls u:=ah (x:=x) (by simp [JG]) hp (by simp [V.toks])
     simp only [this]
 case makeFunc f first caps=>
  rw [Z2t (f:=fun x=> (st.strip.opnd x).bind Zq9)]
  intro x hx
  rw [ab (by simp only [Op.operands];simp;right;simpa using hx)]
 case field t x f=> rw [ab (by simp [Op.operands])]
 case indexAddr t x i=>
  rw [ab (x:=x) (by simp [Op.operands]),ab (x:=i) (by simp [Op.operands])]
  cases hp:st.strip.opnd x with
  | none=> rfl
  | some v=>
   cases hi:st.strip.opnd i with
   | none=> cases v <;> first | rfl | (rename_i y;cases y <;> rfl)
   | some vi=>
    cases vi <;> first | (cases v <;> first | (rfl;done) | (rename_i y;cases y <;> (rfl;done));done) | skip
    case c z=>
     cases z <;> first | (cases v <;> first | (rfl;done) | (rename_i y;cases y <;> (rfl;done));done) | skip
     case int k n=>
      cases v <;> first | (rfl;done) | skip
      case c y=>
       cases y <;> first | (rfl;done) | skip
       case mref u=>
        have:st'.strip.ls u=st.strip.ls u:=ah (x:=x) (by simp [JG]) hp (by simp [V.toks])
        simp only [this]
 case index t x i=> rw [ab (x:=x) (by simp [Op.operands]),ab (x:=i) (by simp [Op.operands])]
 case extract x i=> rw [ab (by simp [Op.operands])]
 case call c=>
  unfold ZiF
  cases hc:c.callee with
  | builtin b=>
   simp only
   have hx:∀ x∈c.args.toList,st'.strip.opnd x=st.strip.opnd x:=fun x hx=> ab (by simp [Op.operands,Call.operands,hc];simpa using hx)
   unfold Zf9
   split
   .rename_i x t aa aw
    rw [hx x (by rw [aa];simp)]
    cases hp:st.strip.opnd x with
    | none=> rfl
    | some v=>
     have:lenOf cfg st'.strip t v=lenOf cfg st.strip t v:=by
      cases v <;> try rfl
      case c y=>
       cases y <;> try rfl
       case mref u=>
        have:st'.strip.ls u=st.strip.ls u:=ah (x:=x) (by simp only [JG,hc];rw [aa];simp) hp (by simp [V.toks])
        simp only [lenOf,this]
     simp only [this]
   .rename_i x y t t' aa aw
    rw [hx x (by rw [aa];simp),hx y (by rw [aa];simp)]
    have ak:st'.dead=st.dead:=hd (by simp only [Z22,hc])
    have:∀ d t x y,Z6Q cfg st'.strip d t x y=Z6Q cfg st.strip d t x y:=fun d t x y=> by simp only [Z6Q,FSt.strip,ak]
    have ai:st'.strip.mu=st.strip.mu:=ax
    cases af with
    | none=> rfl
    | some d=>
     cases hp:st.strip.opnd x with
     | none=> rfl
     | some v=>
      cases v <;> try rfl
      case c cx=>
       have hM:∀ t y,Z3K cfg st'.strip d t cx y=Z3K cfg st.strip d t cx y:=by
        intro t y
        have e1:st'.strip.dead=st.strip.dead:=ak
        have e2:st'.strip.ls (.r d 0)=st.strip.ls (.r d 0):=am 0
        have e3:∀ T,Z7b cfg st'.strip T cx=Z7b cfg st.strip T cx:=by
         intro T
         cases cx <;> simp only [Z7b,e1]
         case mref u=>
          have:st'.strip.ls u=st.strip.ls u:=ah (x:=x) (by simp only [JG,hc];rw [aa];simp) hp (by simp [V.toks])
          simp only [this]
        simp only [Z3K,e1,e2,e3]
       have hZ:∀ t t' y,Z3J cfg st'.strip d t t' cx y=Z3J cfg st.strip d t t' cx y:=by
        intro t t' y
        have e1:st'.strip.dead=st.strip.dead:=ak
        have e2:st'.strip.ls (.r d 0)=st.strip.ls (.r d 0):=am 0
        have e3:∀ T,Z7b cfg st'.strip T cx=Z7b cfg st.strip T cx:=by
         intro T
         cases cx <;> simp only [Z7b,e1]
         case mref u=>
          have:st'.strip.ls u=st.strip.ls u:=ah (x:=x) (by simp only [JG,hc];rw [aa];simp) hp (by simp [V.toks])
          simp only [this]
        simp only [Z3J,e1,e2,e3]
       cases hq:st.strip.opnd y with
       | none=> rfl
       | some vy=> cases vy <;> first | (rfl;done) | (simp only [this,hM,hZ,ai])
   .rename_i x t aa aw
    rw [hx x (by rw [aa];simp)]
    cases hp:st.strip.opnd x with
    | none=> rfl
    | some v=>
     cases v <;> try rfl
     case vw u n=>
      have:st'.strip.ls u=st.strip.ls u:=ah (x:=x) (by simp only [JG,hc];rw [aa];simp) hp (by simp [V.toks])
      simp only [ZiE,this]
   .rename_i x y t t' aa aw
    rw [hx x (by rw [aa];simp),hx y (by rw [aa];simp)]
    cases hp:st.strip.opnd x with
    | none=> rfl
    | some v=>
     cases v <;> try rfl
     case vw u n=>
      have:st'.strip.ls u=st.strip.ls u:=ah (x:=x) (by simp only [JG,hc];rw [aa];simp) hp (by simp [V.toks])
      cases st.strip.opnd y with
      | none=> rfl
      | some vy=> cases vy <;> first | rfl | simp only [ZpG,this]
   .rename_i x y aa
    rw [hx x (by rw [aa];simp),hx y (by rw [aa];simp)]
   .rename_i x y aa
    rw [hx x (by rw [aa];simp),hx y (by rw [aa];simp)]
   .try rfl
  | value gx=>
   simp only
   have ak:st'.dead=st.dead:=hd (by simp only [Z22,hc])
   have hx:∀ x∈c.args.toList,st'.strip.opnd x=st.strip.opnd x:=fun x hx=> ab (by simp [Op.operands,Call.operands,hc];right;simpa using hx)
   rw [ab (x:=gx) (by simp [Op.operands,Call.operands,hc]),Z2t (f:=st.strip.opnd) hx]
   cases hg:st.strip.opnd gx with
   | none=> rfl
   | some v=>
    have ao:∀ (vs:List (V U)),c.args.toList.mapM st.strip.opnd=some vs->∀ x∈vs,∀ nm∈ZG (some x),nm∈ZG (some v)++c.args.toList.flatMap fun x=> ZG (st.strip.opnd x):=by
     intro vs hv x a9 nm aj
     obtain ⟨j,hj,rfl⟩:=Xn a9
     have bc:=(mapM_len hv)
     have a0:j < c.args.toList.length:=V0
     obtain ⟨y,h1,h2⟩:=Z5i hv j _ (Q0 a0)
     rw [Q0 hj] at h1
     cases h1
     exact Xl _ (List.mem_flatMap.2 ⟨_,List.getElem_mem a0,by rw [h2];exact aj⟩)
    have aq:∀ nm∈Zfs (ZG (some v)++c.args.toList.flatMap fun x=> ZG (st.strip.opnd x)),st'.strip.mem nm=st.strip.mem nm:=by
     intro nm aj
     refine hm nm ?_
     simp only [touch,hc,hg]
     exact Q7 _ aj
    have hB:∀ L,Z0g st'.strip (af.getD 0) L=Z0g st.strip (af.getD 0) L:=Z91 (st:=st.strip) (st':=st'.strip) ak am
    have hW:∀ f',(v= .fn f'\/∃ nms,v= .clo f' nms)->∀ s,Γ.fn f'=some s->∀ toks c,(bif s.wr then JZ st'.strip.ls toks c else [])=(bif s.wr then JZ st.strip.ls toks c else []:List (Tok × LC U)):=by
     intro f' hv s hG toks c'
     cases hw:s.wr with
     | false=> rfl
     | true=>
      have:st'.ls=st.ls:=ar (by
       rcases hv with rfl | ⟨nms,rfl⟩ <;> simp only [Z08,hc,hg,Z7X,hG,hw,Bool.true_or])
      simp only [cond_true,FSt.strip,this]
    cases v <;> try rfl
    case fn f=>
     cases hv:c.args.toList.mapM st.strip.opnd with
     | none=> rfl
     | some vs=>
      simp only
      cases hb:ZuG Γ f with
      | false=>
       cases hmk:ZAy Γ f with
       | false=> simp only [cond_false];exact Z5B ak (ao vs hv) aq hB (hW f (.inl rfl))
       | true=>
        have:st'.strip.mem (.loc (af.getD 0))=st.strip.mem (.loc (af.getD 0)):=hm _ (by simp [touch,hc])
        have e:Z3H st'.strip vs=Z3H st.strip vs:=by
         unfold Z3H
         split
         .rename_i nm
          rw [aq nm (Z61 (ao _ hv _ Q8 nm (by simp [ZG])))]
         .try rfl
        simp only [cond_true,cond_false,Zrd,this,e]
        have a6:Z4w Γ st'.strip (af.getD 0) f vs=Z4w Γ st.strip (af.getD 0) f vs:=Z5B ak (ao vs hv) aq hB (hW f (.inl rfl))
        rw [a6]
      | true=>
       have:st'.ls=st.ls:=ar (by
        unfold ZuG at hb
        split at hb
        .rename_i s hG;simp only [Z08,hc,hg,Z7X,hG,hb,Xg]
        .cases hb)
       have e:V.lend st'.strip=V.lend st.strip:=by
        have e2:C.lend st'.strip=C.lend st.strip:=by
         funext c
         cases c <;> simp only [C.lend,FSt.strip,this]
        funext v
        cases v <;> simp only [V.lend,e2]
       simp only [cond_true,Zgx,e]
    case clo f nms=>
     cases hv:c.args.toList.mapM st.strip.opnd with
     | none=> rfl
     | some vs=>
      refine Z5B ak (fun x hx nm aj=> ?_) aq hB (hW f (.inr ⟨nms,rfl⟩))
      rcases Qg.1 hx with hx | hx
      .exact ao vs hv x hx nm aj
      .obtain ⟨be,h1,rfl⟩:=Xb.1 hx
       simp only [ZG,Qp] at aj
       subst aj
       exact QO _ (by simpa [ZG] using h1)
  | invoke r m=> rfl
where
 mapM_len {f:Operand->Option (V U)}:∀ {xs:List Operand} {vs:List (V U)},xs.mapM f=some vs->xs.length=vs.length:=by
  intro xs
  induction xs with
  | nil=> intro vs h;simp at h;subst h;rfl
  | cons y xs ih=>
   intro vs h
   rw [X4] at h
   cases h1:f y with
   | none=> simp [h1] at h
   | some v=>
    cases h2:xs.mapM f with
    | none=> simp [h1,h2] at h
    | some r=>
     simp [h1,h2] at h
     subst h
     simp [ih h2]
theorem Z9u{st st':FSt U}{G:Option Bool}:∀ {l:List Operand},(∀ t,Operand.tmp t∈l->st'.env t=st.env t)->Z01 st' G l=Z01 st G l
 | [],_=> rfl
 | x ::l,h=> by
  have d:=Z9u (l:=l) (G:=G) (fun t s=> h t (by simp [s]))
  cases x with
  | tmp t=> simp only [Z01,h t (by simp),d]
  | _=> trivial
theorem Zbp{tyEq:DecidableEq U.Ty}{G:Bool}{m0 m1:Name->Option (List (C U))}:∀ {m:List (Name × List (C U))},(∀ x∈m,m1 x.1=m0 x.1)->Z3t tyEq G m1 m=Z3t tyEq G m0 m
 | [],_=> rfl
 | (nm,cs) ::r,h=> by
  simp only [Z3t,h (nm,cs) (by simp),Zbp (m:=r) (fun x d=> h x (by simp [d]))]
theorem Z5e{l:List Name}{nm:Name}:YX l nm=true↔nm∈l:=by
 refine ⟨?_,Z5d⟩
 induction l with
 | nil=> intro h;cases h
 | cons x l ih=>
  intro h
  simp only [YX] at h
  grind
theorem Z4C{o:Oper}{ops:Array Oper}{st st':FSt U}(h:∀ t,t∈o.looksAt ops->st'.env t=st.env t):touch o st'=touch o st:=by
 have d:∀ {x:Operand},x∈o.op.operands.toList->st'.strip.opnd x=st.strip.opnd x:=by
  intro x hx
  cases x with
  | tmp t=> simp [FSt.opnd,FSt.strip,h t (QO _ (XA.2 ⟨.tmp t,hx,rfl⟩))]
  | _=> rfl
 obtain ⟨ah,op,ab,ae,s,u⟩:=o
 cases op <;> simp only [touch]
 case load t p=> rw [d (by simp [Op.operands])]
 case store t p x=> rw [d (by simp [Op.operands])]
 case slice t x lo hi mx=> rw [d (by simp [Op.operands])]
 case call c=>
  have:∀ (l:List Operand),(∀ x∈l,x∈c.args.toList)->(l.flatMap fun x=> ZG (st'.strip.opnd x))=l.flatMap fun x=> ZG (st.strip.opnd x):=by
   intro l
   induction l with
   | nil=> intro _;rfl
   | cons x l ih=>
    intro hl
    rw [XU,XU,ih (fun y hy=> hl y (by simp [hy])),d (by
     have:=hl x (by simp)
     cases hc:c.callee <;> simp [Op.operands,Call.operands,hc] <;> first | (right;simpa using this) | simpa using this)]
  rw [this _ (fun x hx=> hx)]
  cases hc:c.callee with
  | value gx=> simp only [d (x:=gx) (by simp [Op.operands,Call.operands,hc])]
  | builtin b=> rfl
  | invoke r m=> rfl
theorem Zlk{o:Oper}{x:Operand}(h:x∈JG o):x∈o.op.operands.toList:=by
 obtain ⟨ab,op,u,aa,d,s⟩:=o
 cases op <;> simp only [JG] at h <;> (try (cases h;done))
 case load t p=> trivial
 case store t p x=> simp only [Qp] at h;subst h;simp [Op.operands]
 case nilCheck x=> trivial
 case fieldAddr t x f=> trivial
 case indexAddr t x i=> simp only [Qp] at h;subst h;simp [Op.operands]
 case slice t x lo hi mx=> simp only [Qp] at h;subst h;simp [Op.operands]
 case call c=>
  cases hc:c.callee <;> rw [hc] at h <;> (try (cases h;done))
  simp only at h
  simp only [Op.operands,Call.operands,hc]
  simpa using h
theorem Z7W{o:Oper}{ops:Array Oper}{st st':FSt U}(h:∀ t,t∈o.looksAt ops->st'.env t=st.env t):touchT o st'=touchT o st:=by
 have d:∀ {x:Operand},x∈o.op.operands.toList->st'.strip.opnd x=st.strip.opnd x:=by
  intro x s
  cases x with
  | tmp t=> simp [FSt.opnd,FSt.strip,h t (QO _ (XA.2 ⟨.tmp t,s,rfl⟩))]
  | _=> rfl
 unfold touchT
 have:∀ (l:List Operand),(∀ x∈l,x∈JG o)->(l.flatMap fun x=> (st'.strip.opnd x).toList.flatMap V.toks)=l.flatMap fun x=> (st.strip.opnd x).toList.flatMap V.toks:=by
  intro l
  induction l with
  | nil=> intro _;rfl
  | cons x l ih=>
   intro hl
   rw [XU,XU,ih (fun y u=> hl y (by simp [u])),d (Zlk (hl x (by simp)))]
 grind
theorem Z79{Γ:Known U}{o:Oper}{ops:Array Oper}{st st':FSt U}(h:∀ t,t∈o.looksAt ops->st'.env t=st.env t):Z08 Γ o st'=Z08 Γ o st:=by
 obtain ⟨ab,op,u,aa,d,s⟩:=o
 cases op <;> try rfl
 case call c=>
  simp only [Z08]
  cases hc:c.callee <;> try rfl
  case value g=>
   have:st'.strip.opnd g=st.strip.opnd g:=by
    cases g with
    | tmp t=> simp [FSt.opnd,FSt.strip,h t (QO _ (XA.2 ⟨.tmp t,by simp [Op.operands,Call.operands,hc],rfl⟩))]
    | _=> rfl
   grind
theorem Zby{Γ:Known U}{o:Oper}{ops:Array Oper}{st st':FSt U}(h:Alike Γ o ops st st'):Z4v cfg Γ ops o st'=Z4v cfg Γ ops o st:=by
 have d:=fun {x:Operand} (hx:x∈o.op.operands.toList)=> (h.opnd hx).1
 have u:Z4f ops st' o=Z4f ops st o:=by
  unfold Z4f
  cases hg:o.guard with
  | none=> rfl
  | some jw=>
   obtain ⟨j,aa⟩:=jw
   simp only
   cases s:(ops[j]?).bind (·.dst) with
   | none=> rfl
   | some t=>
    have:st'.env t=st.env t:=h.env t (Xl _ (by simp [hg,s]))
    grind
 have hN:∀ G,Z01 st' G o.op.operands.toList=Z01 st G o.op.operands.toList:=fun G=>
  Z9u fun t s=> h.env t (QO _ (XA.2 ⟨.tmp t,s,rfl⟩))
 unfold Z4v
 rw [h.n]
 split
 .split
  .rename_i c x y hc
   rw [u,d (x:=c) (by simp [hc,Op.operands]),d (x:=x) (by simp [hc,Op.operands]),d (x:=y) (by simp [hc,Op.operands])]
  .have s:=Z4C (st:=st) (st':=st') h.env
   rw [u]
   simp only [Zr9 h,hN,s]
   split
   .try rfl
   .rename_i G ae
    cases he:aop cfg Γ o st.strip with
    | none=> rfl
    | some r=>
     obtain ⟨ps,e⟩:=r
     cases G with
     | none=> rfl
     | some Gb=>
      obtain ⟨v,m,k,l⟩:=e
      cases v with
      | none=> rfl
      | some v=>
       cases k with
       | cons _ _=> grind
       | nil=>
        cases l with
        | cons _ _=> grind
        | nil=>
        cases m with
        | nil=> rfl
        | cons x r=>
         simp only
         cases hall:(x ::r).all fun x=> YX (touch o st) x.1 with
         | false=> rfl
         | true=>
          have hj:Z3t cfg.tyEq Gb st'.mem (x ::r)=Z3t cfg.tyEq Gb st.mem (x ::r):=Zbp fun y hy=> h.mem _ (Z5e.1 (by
           grind))
          rw [hj]
 .try rfl
theorem Z47{m0:Name->Option (List (C U))}{m:List (Name × List (C U))}{nm:Name}(h:YX (m.map (·.1)) nm=false):ZJ m0 m nm=m0 nm:=by
 induction m with
 | nil=> rfl
 | cons x m ih=>
  obtain ⟨b,cs⟩:=x
  simp only [Xk,YX] at h
  split at h
  .cases h
  .rename_i e
   simp only [ZJ]
   grind
theorem Zen{x y:List Name}(h:ZlA x y=false):∀ nm,nm∈x->YX y nm=false:=by
 intro nm d
 unfold ZlA at h
 grind
theorem ZpS{l:List Tok}{t:Tok}:ZiR l t=true↔t∈l:=by
 induction l with
 | nil=> simp [ZiR]
 | cons x l ih=>
  simp only [ZiR,Q9]
  grind
theorem Zbb{x y:List Tok}(h:Zeo x y=false):∀ t,t∈x->t∉y:=by
 intro t d s
 unfold Zeo at h
 rw [List.any_eq_false] at h
 have:=h t d
 rw [ZpS.2 s] at this
 simp at this
theorem Zqy{m:Tok->Option (LC U)}{l:List (Tok × LC U)}{t:Tok}(h:t∉l.map (·.1)):Zx m l t=m t:=by
 induction l with
 | nil=> rfl
 | cons x l ih=>
  obtain ⟨b,y⟩:=x
  simp only [Xk,Q9,not_or] at h
  simp only [Zx]
  grind
theorem Z3p{m:Tok->Option (LC U)}{e:Eff U}{t:Tok}(h:t∉e.kill++e.ls.map (·.1)):JI m e t=m t:=by
 simp only [Qg,not_or] at h
 unfold JI
 have:e.kill.contains t=false:=by
  cases hk:e.kill.contains t with
  | false=> rfl
  | true=> exact absurd (by simpa using hk) h.1
 rw [this,cond_false,Zqy h.2]
theorem Zgv {Γ:Known U} {ops:Array Oper} {x y:Oper} {st:FSt U} {e:Eff U} (hap:x.apart ops y=true) (h:ZlA (e.mem.map (·.1)) (touch y st)=false) (hk:(!e.kill.isEmpty && Z22 y)=false)
  (ht:Zeo (e.kill++e.ls.map (·.1)) (touchT y st)=false) (s:noR (y.dst.getD 0) (e.kill++e.ls.map (·.1))=true) (ha:((e.kill++e.ls.map (·.1)).isEmpty || !Z08 Γ y st)=true):
  Alike Γ y ops st (st.app x.dst e):=by
 obtain ⟨h1,_,_⟩:=Oper.apart_spec hap
 refine ⟨?_,?_,?_,?_,by cases x.dst <;> rfl,by cases x.dst <;> rfl,fun t u=> Z3p (fun h=> Zbb ht t h u),fun j=> Z3p (fun h=> ?_),fun hc=> ?_⟩
 .cases x.dst <;> rfl
 .intro t ht
  cases hd:x.dst with
  | none=> rfl
  | some d=>
   have ae:t≠d:=fun e=> h1 d hd (e▸ht)
   have:Nat.beq t d=false:=by
    cases hb:Nat.beq t d with
    | false=> rfl
    | true=> simp_all
   simp [FSt.app,FSt.put,this]
 .intro nm hn
  have:YX (e.mem.map (·.1)) nm=false:=by
   cases hb:YX (e.mem.map (·.1)) nm with
   | false=> rfl
   | true=>
    have:=Zen h nm (Z5e.1 hb)
    rw [Z5d hn] at this
    cases this
  exact Z47 this
 .intro s
  simp only [s,Xm,Xr] at hk
  have:e.kill=[]:=by simpa using hk
  simp [FSt.app,this]
 .have:=Qy.1 s _ h
  simp at this
 .rw [hc] at ha
  simp only [Xu,Qx,List.isEmpty_iff] at ha
  funext t
  exact Z3p (by rw [ha];simp)
theorem Zw5{ops:Array Oper}{x y:Oper}{st:FSt U}{e f:Eff U}(hap:x.apart ops y=true)(hm:ZlA (e.mem.map (·.1)) (f.mem.map (·.1))=false)(hl:Zeo (e.kill++e.ls.map (·.1)) (f.kill++f.ls.map (·.1))=false):
  (st.app x.dst e).app y.dst f=(st.app y.dst f).app x.dst e:=by
 obtain ⟨_,h2,_⟩:=Oper.apart_spec hap
 have ao:∀ (s:FSt U) (v u:V U),((s.put x.dst v).put y.dst u)=((s.put y.dst u).put x.dst v):=by
  intro s v u
  cases hx:x.dst with
  | none=> rfl
  | some d=>
   cases hy:y.dst with
   | none=> rfl
   | some d'=>
    have aa:d≠d':=fun e=> h2 d hx (by rw [hy,e])
    simp only [FSt.put]
    congr 1
    funext j
    cases h1:Nat.beq j d with
    | false=> rfl
    | true=>
     cases h3:Nat.beq j d' with
     | false=> rfl
     | true=> exact absurd ((Qa h1).symm.trans (Qa h3)) aa
 have aq:ZJ (ZJ st.mem e.mem) f.mem=ZJ (ZJ st.mem f.mem) e.mem:=by
  funext nm
  cases h1:YX (e.mem.map (·.1)) nm with
  | false=>
   rw [Z47 (m:=e.mem) (m0:=ZJ st.mem f.mem) h1]
   rcases YG st.mem f.mem nm with ⟨k,cs,h3,h4⟩ | ⟨h3,h4⟩
   .rcases YG (ZJ st.mem e.mem) f.mem nm with ⟨k',cs',h5,h6⟩ | ⟨h5,h6⟩
    .have:∀ (m0 m1:Name->Option (List (C U))) (l:List (Name × List (C U))),(∃ x,x∈l/\x.1=nm)->ZJ m0 l nm=ZJ m1 l nm:=by
      intro m0 m1 l
      induction l with
      | nil=> rintro ⟨x,hx,_⟩;simp at hx
      | cons z l ih=>
       rintro ⟨x,hx,am⟩
       obtain ⟨b,cs⟩:=z
       simp only [ZJ]
       split
       .try rfl
       .rename_i aa
        rcases Q9.1 hx with rfl | hx
        .exact absurd am.symm aa
        .exact ih ⟨x,hx,am⟩
     exact this _ _ _ ⟨_,QK h3,rfl⟩
    .exact absurd rfl (h5 k _ h3)
   .rcases YG (ZJ st.mem e.mem) f.mem nm with ⟨k',cs',h5,h6⟩ | ⟨h5,h6⟩
    .exact absurd rfl (h3 k' _ h5)
    .rw [h6,h4,Z47 h1]
  | true=>
   have au:YX (f.mem.map (·.1)) nm=false:=Zen hm nm (Z5e.1 h1)
   rw [Z47 (m:=f.mem) (m0:=ZJ st.mem e.mem) au]
   have:∀ (m0 m1:Name->Option (List (C U))) (l:List (Name × List (C U))),YX (l.map (·.1)) nm=true->ZJ m0 l nm=ZJ m1 l nm:=by
    intro m0 m1 l
    induction l with
    | nil=> intro h;cases h
    | cons z l ih=>
     obtain ⟨b,cs⟩:=z
     intro h
     simp only [Xk,YX] at h
     simp only [ZJ]
     split
     .try rfl
     .rename_i aa
      rw [if_neg (fun e=> aa e.symm)] at h
      exact ih h
   exact this _ _ _ h1
 have ah:(fun t=> (st.dead t || e.kill.contains t) || f.kill.contains t)=fun t=> (st.dead t || f.kill.contains t) || e.kill.contains t:=by
  funext t
  cases st.dead t <;> cases e.kill.contains t <;> cases f.kill.contains t <;> rfl
 have hn:∀ (s:FSt U) d v,(s.put d v).n=s.n/\(s.put d v).mem=s.mem/\(s.put d v).dead=s.dead:=by
  intro s d v;cases d <;> exact ⟨rfl,rfl,rfl⟩
 have aj:(((st.put x.dst (e.val.getD .junk))).put y.dst (f.val.getD .junk)).env=((st.put y.dst (f.val.getD .junk)).put x.dst (e.val.getD .junk)).env:=by rw [ao]
 have al:∀ (s s':FSt U) d v,s.env=s'.env->(s.put d v).env=(s'.put d v).env:=by
  intro s s' d v he;cases d <;> simp [FSt.put,he]
 have aw:JI (JI st.ls e) f=JI (JI st.ls f) e:=by
  funext t
  by_cases h1:t∈e.kill++e.ls.map (·.1)
  .have h2:=Zbb hl t h1
   rw [Z3p h2]
   unfold JI
   cases he:e.kill.contains t with
   | true=> rfl
   | false=>
    simp only [cond_false]
    have h3:t∈e.ls.map (·.1):=by
     rcases Qg.1 h1 with h | h
     .have:e.kill.contains t=true:=by simpa using h
      rw [he] at this;cases this
     .exact h
    have:∀ (m0 m1:Tok->Option (LC U)) (l:List (Tok × LC U)),t∈l.map (·.1)->Zx m0 l t=Zx m1 l t:=by
     intro m0 m1 l
     induction l with
     | nil=> intro h;cases h
     | cons z l ih=>
      obtain ⟨b,y⟩:=z
      intro h
      simp only [Zx]
      split
      .try rfl
      .rename_i aa
       simp only [Xk,Q9] at h
       exact ih (h.resolve_left aa)
    exact this _ _ _ h3
  .rw [Z3p (m:=JI st.ls f) h1]
   have:∀ (m0 m1:Tok->Option (LC U)) (l:List (Tok × LC U)),m0 t=m1 t->Zx m0 l t=Zx m1 l t:=by
    intro m0 m1 l he
    induction l with
    | nil=> exact he
    | cons z l ih=>
     obtain ⟨b,y⟩:=z
     simp only [Zx]
     split
     .try rfl
     .exact ih
   have h3:JI st.ls e t=st.ls t:=Z3p h1
   unfold JI at h3 ⊢
   cases hf:f.kill.contains t with
   | true=> rfl
   | false=> simp only [cond_false];exact this _ _ _ h3
 have ext:∀ {s s':FSt U},s.n=s'.n->s.env=s'.env->s.mem=s'.mem->s.dead=s'.dead->s.ls=s'.ls->s.mu=s'.mu->s.vw=s'.vw->s=s':=by
  intro s s' h1 h2 h3 h4;cases s;cases s';simp_all
 refine ext ?_ ?_ ?_ ?_ aw ?_ (by cases x.dst <;> cases y.dst <;> rfl)
 .cases x.dst <;> cases y.dst <;> rfl
 .show ((st.app x.dst e).put y.dst _).env=((st.app y.dst f).put x.dst _).env
  rw [al (st.app x.dst e) (st.put x.dst (e.val.getD .junk)) y.dst _ rfl,aj,al (st.app y.dst f) (st.put y.dst (f.val.getD .junk)) x.dst _ rfl]
 .show ZJ (st.app x.dst e).mem f.mem=ZJ (st.app y.dst f).mem e.mem
  exact aq
 .exact ah
 .cases x.dst <;> cases y.dst <;> rfl
end Go.AM
namespace Go.AM
variable {U:Uni} {P:Program} {cfg:Cfg U} {B:Base} {g:Gh} {a:Act} {w:World} {Γ:Known U} {ops:Array Oper}
def ZoN(cfg:Cfg U)(Γ:Known U)(ops:Array Oper):List Oper->FSt U->Option (List Fp)
 | [],_=> some []
 | o ::r,st=> match Z4v cfg Γ ops o st with
  | none=> none
  | some (_,e)=> match ZoN cfg Γ ops r (st.app o.dst e) with
   | none=> none
   | some l=> some (ZqL Γ o st e ::l)
def Zqf(ops:List Oper):Nat->Nat->Nat->Bool
 | 0,_,_=> false
 | n+1,k,h=> match ops[h]? with
  | none=> false
  | some o=> o.after.toList.any fun e=> Region.binds .any e && (Nat.beq e.on k || (Nat.blt k e.on && Zqf ops n k e.on))
def Zcp:Nat->List Oper->Bool
 | _,[]=> true
 | i,o ::r=> (o.after.toList.all fun e=> !Region.binds .any e || Nat.blt e.on i) && Zcp (i+1) r
def Ztm(ops:Array Oper)(fps:List Fp)(k h:Nat):Bool:=
 Zqf ops.toList 5 k h || match ops.toList[k]?,ops.toList[h]?,fps[k]?,fps[h]? with
  | some x,some y,some a,some b=> Zid ops x y a b
  | _,_,_,_=> false
def Zns(ops:Array Oper)(fps:List Fp):Bool:=
 (List.range ops.toList.length).all fun h=> (List.range h).all fun k=> Ztm ops fps k h
def Jf(cfg:Cfg U)(Γ:Known U)(ops:Array Oper)(st:FSt U):Bool:=
 match ZoN cfg Γ ops ops.toList st with
 | some fps=> Zcp 0 ops.toList && Zns ops fps
 | none=> false
inductive Run (cfg:Cfg U) (Γ:Known U) (ops:Array Oper) (fp:Nat->Option Fp):List Nat->FSt U->FSt U->Prop
 | nil (st):Run cfg Γ ops fp [] st st
 | cons (i l st st' o ps e):ops[i]?=some o->Z4v cfg Γ ops o st=some (ps,e)->All ps->fp i=some (ZqL Γ o st e)->Run cfg Γ ops fp l (st.app o.dst e) st'->Run cfg Γ ops fp (i ::l) st st'
theorem ZaR{fps:List Fp}:∀ (l:List Oper) (k:Nat) (st st':FSt U) (ps:List Prop) (fl:List Fp),(∀ j,l[j]?=ops[k+j]?)->(∀ j,fl[j]?=fps[k+j]?)->Zf5 cfg Γ ops false l st=some (ps,st')->All ps->ZoN cfg Γ ops l st=some fl->
  Run cfg Γ ops (fun i=> fps[i]?) (List.range' k l.length) st st'
 | [],k,st,st',ps,fl,_,_,h,_,_=> by
  simp only [Zf5,oP] at h
  obtain ⟨_,rfl⟩:=h
  exact .nil st
 | o ::l,k,st,st',ps,fl,hl,hf,h,hps,hfl=> by
  rw [ZaE] at h
  simp only [ZBv] at h
  simp only [ZoN] at hfl
  split at h
  .cases h
  .rename_i u e1 h1
   rw [h1] at hfl
   simp only at hfl
   split at h
   .cases h
   .rename_i qs af h2
    split at hfl
    .cases hfl
    .rename_i ab d
     simp only [oP] at h hfl
     obtain ⟨rfl,rfl⟩:=h
     subst hfl
     obtain ⟨s,aa⟩:=All.append hps
     rw [Qs,List.range'_succ]
     refine .cons k _ st _ o u e1 ?_ h1 s ?_ ?_
     .have:=hl 0;grind
     .have:=hf 0;grind
     .exact ZaR l (k+1) _ _ qs ab (fun j=> by have:=hl (j+1);grind) (fun j=> by have:=hf (j+1);grind) h2 aa d
def ZDO(ops:Array Oper)(fp:Nat->Option Fp)(k h:Nat):Prop:=∃ x y p q,ops[k]?=some x/\ops[h]?=some y/\fp k=some p/\fp h=some q/\Zid ops x y p q=true
theorem ZG6{fp:Nat->Option Fp}{h:Nat}{post:List Nat}:∀ (pre:List Nat) (st st':FSt U),Run cfg Γ ops fp (pre++h ::post) st st'->(∀ k∈pre,ZDO ops fp k h)->
  ∃ o ps e,ops[h]?=some o/\Z4v cfg Γ ops o st=some (ps,e)/\All ps/\fp h=some (ZqL Γ o st e)/\Run cfg Γ ops fp (pre++post) (st.app o.dst e) st'
 | [],st,st',hr,_=> by
  cases hr with
  | cons _ _ _ _ o ps e h1 h2 h3 h4 h5=> grind
 | k ::pre,st,st',hr,hf=> by
  cases hr with
  | cons _ _ _ _ x ps e h1 h2 h3 h4 h5=>
   obtain ⟨y,qs,f,h6,h7,h8,h9,am⟩:=ZG6 pre _ st' h5 (fun j hj=> hf j (by simp [hj]))
   obtain ⟨x',y',p,q,g1,g2,g3,g4,g5⟩:=hf k (by simp)
   rw [h1] at g1
   rw [h6] at g2
   rw [h4] at g3
   rw [h9] at g4
   cases g1;cases g2;cases g3;cases g4
   simp only [Zid,Q4,QN] at g5
   obtain ⟨⟨⟨⟨⟨⟨⟨⟨⟨⟨⟨⟨⟨a1,a2⟩,a3⟩,a4⟩,a5⟩,a6⟩,a7⟩,b3⟩,b4⟩,b5⟩,b6⟩,b7⟩,b8⟩,b9⟩:=g5
   simp only [ZqL] at a3 a4 a5 a6 a7 b3 b4 b5 b6 b7 b8 b9
   have ty:touch y (st.app x.dst e)=touch y st:=by
    refine Z4C (ops:=ops) fun t ht=> ?_
    obtain ⟨u,_,_⟩:=Oper.apart_spec a1
    cases hd:x.dst with
    | none=> rfl
    | some d=>
     have s:t≠d:=fun e=> u d hd (e▸ht)
     have:Nat.beq t d=false:=by
      cases hb:Nat.beq t d with
      | false=> rfl
      | true=> exact absurd (Qa hb) s
     simp [FSt.app,FSt.put,this]
   rw [ty] at a3
   have ae:touchT y (st.app x.dst e)=touchT y st:=by
    refine Z7W (ops:=ops) fun t ht=> ?_
    obtain ⟨u,_,_⟩:=Oper.apart_spec a1
    cases hd:x.dst with
    | none=> rfl
    | some d=>
     have s:t≠d:=fun e=> u d hd (e▸ht)
     have:Nat.beq t d=false:=by
      cases hb:Nat.beq t d with
      | false=> rfl
      | true=> exact absurd (Qa hb) s
     simp [FSt.app,FSt.put,this]
   rw [ae] at b3
   have ab:Z08 Γ y (st.app x.dst e)=Z08 Γ y st:=by
    refine Z79 (ops:=ops) fun t ht=> ?_
    obtain ⟨u,_,_⟩:=Oper.apart_spec a1
    cases hd:x.dst with
    | none=> rfl
    | some d=>
     have s:t≠d:=fun e=> u d hd (e▸ht)
     have:Nat.beq t d=false:=by
      cases hb:Nat.beq t d with
      | false=> rfl
      | true=> exact absurd (Qa hb) s
     simp [FSt.app,FSt.put,this]
   rw [ab] at b8
   have ay:=Zgv (st:=st) (e:=e) a1 a3 a6 b3 b6 (by simpa using b8)
   have hy:Z4v cfg Γ ops y st=some (qs,f):=by rw [<-h7];exact (Zby ay).symm
   have tx:touch x (st.app y.dst f)=touch x st:=by
    refine Z4C (ops:=ops) fun t ht=> ?_
    obtain ⟨u,_,_⟩:=Oper.apart_spec a2
    cases hd:y.dst with
    | none=> rfl
    | some d=>
     have s:t≠d:=fun e=> u d hd (e▸ht)
     have:Nat.beq t d=false:=by
      cases hb:Nat.beq t d with
      | false=> rfl
      | true=> exact absurd (Qa hb) s
     simp [FSt.app,FSt.put,this]
   have ao:touchT x (st.app y.dst f)=touchT x st:=by
    refine Z7W (ops:=ops) fun t ht=> ?_
    obtain ⟨u,_,_⟩:=Oper.apart_spec a2
    cases hd:y.dst with
    | none=> rfl
    | some d=>
     have s:t≠d:=fun e=> u d hd (e▸ht)
     have:Nat.beq t d=false:=by
      cases hb:Nat.beq t d with
      | false=> rfl
      | true=> exact absurd (Qa hb) s
     simp [FSt.app,FSt.put,this]
   have ai:Z08 Γ x (st.app y.dst f)=Z08 Γ x st:=by
    refine Z79 (ops:=ops) fun t ht=> ?_
    obtain ⟨u,_,_⟩:=Oper.apart_spec a2
    cases hd:y.dst with
    | none=> rfl
    | some d=>
     have s:t≠d:=fun e=> u d hd (e▸ht)
     have:Nat.beq t d=false:=by
      cases hb:Nat.beq t d with
      | false=> rfl
      | true=> exact absurd (Qa hb) s
     simp [FSt.app,FSt.put,this]
   have ax:=Zgv (st:=st) (e:=f) a2 a4 a7 b4 b7 (by simpa using b9)
   have hx:Z4v cfg Γ ops x (st.app y.dst f)=some (ps,e):=by rw [<-h2];exact Zby ax
   refine ⟨y,qs,f,h6,hy,h8,by rw [h9];simp only [ZqL,ty,ae,ab],?_⟩
   refine .cons k _ _ _ x ps e h1 hx h3 ?_ ?_
   .rw [h4];simp only [ZqL,tx,ao,ai]
   .rw [<-Zw5 a1 a5 b5];exact am
theorem Zb4{listed:Array Bool}(hdown:∀ j o,ops[j]?=some o->listed.getD j false=true->∀ e∈o.after,Region.binds .any e=true->listed.getD e.on false=true):∀ (n k h:Nat) (o:Oper),ops[h]?=some o->
  (∀ e∈o.after,Region.binds .any e=true->listed.getD e.on false=true)->Zqf ops.toList n k h=true->listed.getD k false=true
 | 0,k,h,o,_,_,s=> by trivial
 | n+1,k,h,o,ho,hr,s=> by
  have aa:ops.toList[h]?=some o:=by simpa using ho
  simp only [Zqf,aa,XZ] at s
  obtain ⟨e,he,s⟩:=s
  simp only [Q4,XM] at s
  obtain ⟨h1,d⟩:=s
  have u:e∈o.after:=by simpa using he
  have hl:=hr e u h1
  rcases d with d | ⟨_,d⟩
  .rw [<-Qa d];exact hl
  .cases hoe:ops[e.on]? with
   | none=>
    have:ops.toList[e.on]?=none:=by simpa using hoe
    cases n with
    | zero=> trivial
    | succ n=> simp [Zqf,this] at d
   | some o2=> exact Zb4 hdown n k e.on o2 hoe (hdown e.on o2 hoe hl) d
theorem Zif(l:List Oper):∀ (i:Nat),Zcp i l=true->∀ (j:Nat) (o:Oper),l[j]?=some o->∀ e∈o.after,Region.binds .any e=true->e.on < i+j:=by
 induction l with
 | nil=> grind
 | cons o l ih=>
  intro i h j u d e s hb
  simp only [Zcp,Q4] at h
  cases j with
  | zero=>
   simp at d
   subst d
   have:=Qy.1 h.1 e (by simpa using s)
   simp_all
  | succ j=>
   grind
theorem ZgC (ok:CfgOk P cfg) (hΓ:∀ f s,Γ f=some s->Contract P cfg f s) {fp:Nat->Option Fp} {Q:Exit->Act->World->Prop} {st':FSt U}
  (hedge:∀ (j:Nat) o,ops[j]?=some o->∀ e∈o.after,Region.binds .any e=true->e.on < j)
  (hpair:∀ k h,k < h->h < ops.size->Zqf ops.toList 5 k h=true\/ZDO ops fp k h)
  (hQ:∀ g' a' w',Rel cfg B st' g' a' w'->Q .normal a' w'):∀ (u:Nat) (l:List Nat) (listed:Array Bool) (st:FSt U) (g:Gh) (a:Act) (w:World),
   l.length<=u->l.Pairwise (· < ·)->listed.size=ops.size->(∀ i,i < ops.size->(listed.getD i false=false↔i∈l))->(∀ i∈l,i < ops.size)->
   (∀ j o,ops[j]?=some o->listed.getD j false=true->∀ e∈o.after,Region.binds .any e=true->listed.getD e.on false=true)->
   Run cfg Γ ops fp l st st'->Rel cfg B st g a w->wpAny P .any ops Q u listed a w:=by
 intro u
 have ak:∀ (listed:Array Bool) i,listed.size=ops.size->i < ops.size->listed.getD i true=listed.getD i false:=by
  intro listed i hs hi
  simp [Array.getD,hs,hi]
 have done:∀ (l:List Nat) (listed:Array Bool),l.Pairwise (· < ·)->listed.size=ops.size->(∀ i,i < ops.size->(listed.getD i false=false↔i∈l))->(∀ i∈l,i < ops.size)->Region.ready .any ops listed=[]->l=[]:=by
  intro l listed d af hl ai hr
  cases l with
  | nil=> rfl
  | cons i l=>
   exfalso
   have hi:=ai i (by simp)
   have bc:i∈Region.ready .any ops listed:=by
    rw [mem_ready]
    refine ⟨by grind,ops[i],QP hi,fun e he hb=> ?_⟩
    have h1:=hedge i _ (QP hi) e he hb
    cases hx:listed.getD e.on false with
    | true=> rfl
    | false=>
     have:=(hl e.on V0).1 hx
     rcases Q9.1 this with h2 | h2
     .omega
     .have:=(List.pairwise_cons.1 d).1 _ h2
      omega
   grind
 induction u with
 | zero=>
  intro l listed st g a w ax d af hl ai aa ab ah
  have h0:l=[]:=Q6 V0
  subst h0
  cases ab
  refine ⟨?_,hQ g a w ah⟩
  cases hr:Region.ready .any ops listed with
  | nil=> rfl
  | cons i r=>
   have hm:i∈Region.ready .any ops listed:=by rw [hr];simp
   obtain ⟨h1,o,ho,_⟩:=mem_ready.1 hm
   grind
 | succ u ih=>
  intro l listed st g a w ax d af hl ai aa ab ah
  refine ⟨fun hr=> ?_,fun i hi=> ?_⟩
  .have h0:=done l listed d af hl ai hr
   subst h0
   cases ab
   grind
  .obtain ⟨h1,o,ho,ae⟩:=mem_ready.1 hi
   have aj:=(QM.1 ho).1
   rw [ak listed i af aj] at h1
   have a8:=(hl i aj).1 h1
   obtain ⟨pre,post,rfl⟩:=List.append_of_mem a8
   have ay:∀ k∈pre,ZDO ops fp k i:=by
    intro k hk
    have a9:k < i:=by
     have:=List.pairwise_append.1 d
     exact this.2.2 k hk i (by simp)
    rcases hpair k i a9 aj with h2 | h2
    .have h3:=Zb4 aa 5 k i o ho ae h2
     grind
    .exact h2
   obtain ⟨o',ps,e,h2,h3,h4,_,h6⟩:=ZG6 pre st st' ab ay
   rw [ho] at h2
   cases h2
   unfold wpOp
   simp only [ho]
   have am:=Zbx (K:=wpAny P .any ops Q u (listed.setIfInBounds i true)) (Q:=Q) ok hΓ ah h3 h4 (by
    intro g' a' w' ao
    refine ih (pre++post) (listed.setIfInBounds i true) _ g' a' w' ?_ ?_ ?_ ?_ ?_ ?_ h6 ao
    .grind
    .exact d.sublist (List.Sublist.append_left (List.sublist_cons_self i post) pre)
    .simp [af]
    .intro j hj
     by_cases hij:i=j
     .subst hij
      have a5:i∉pre++post:=by
       have hp:=List.pairwise_append.1 d
       intro hm
       rcases Qg.1 hm with hm | hm
       .grind
       .have:=(List.pairwise_cons.1 hp.2.1).1 i hm;omega
      simp [Array.getD,af,hj,a5]
     .rw [getD_set_ne false hij,hl j hj]
      grind
    .intro j hj
     exact ai j (by
      grind)
    .intro j oj aq aw e he hb
     by_cases hij:i=j
     .subst hij
      rw [ho] at aq
      cases aq
      exact getD_set_true (ae e he hb)
     .rw [getD_set_ne false hij] at aw
      exact getD_set_true (aa j oj aq aw e he hb))
   split at am
   .grind
   grind
theorem JP(ok:CfgOk P cfg)(hΓ:∀ f s,Γ f=some s->Contract P cfg f s):Z6R P cfg Γ (Jf cfg Γ):=by
 intro B st ah g a w id ops ps Q hd d af aj hQ
 unfold Jf at hd
 split at hd
 case h_2=> cases hd
 rename_i fps hf
 simp only [Q4] at hd
 obtain ⟨ak,aa⟩:=hd
 refine wp_region_any ok.mixed ?_
 have hR:=ZaR (ops:=ops) (fps:=fps) ops.toList 0 st ah ps fps (fun j=> by simp) (fun j=> by simp) af aj hf
 have ab:Rel cfg B st g a { w with drawn:=w.drawn+1 }:=by
  have hc:∀ b,({ w with drawn:=w.drawn+1 }:World).cell? b=w.cell? b:=fun _=> rfl
  exact ⟨⟨fun c v hv=> d.inv.im c v hv,fun c t ht=> d.inv.it c t ht⟩,
   ⟨⟨d.fr.stay.os,d.fr.stay.tape,d.fr.stay.output,d.fr.stay.size⟩,d.fr.xad,d.fr.mono,d.fr.outer,d.fr.outer',d.fr.clean,d.fr.frz⟩,d.env,d.mem,d.sz,d.df,fun t x hx=> d.ls t x hx,d.fresh⟩
 refine ZgC (fp:=fun i=> fps[i]?) ok hΓ ?_ ?_ hQ ops.size (List.range' 0 ops.toList.length) _ st g a _ (by simp) List.pairwise_lt_range' (by simp) ?_ ?_ ?_ hR ab
 .intro j o ho e he hb
  have:=Zif ops.toList 0 ak j o (by simpa using ho) e he hb
  omega
 .intro k h a1 hh
  unfold Zns at aa
  rw [Qy] at aa
  have h1:=aa h (by simpa using hh)
  rw [Qy] at h1
  have u:=h1 k (by grind)
  unfold Ztm at u
  rw [XM] at u
  rcases u with u | u
  .exact .inl u
  .right
   split at u
   .rename_i x y p q hx hy hp hq
    exact ⟨x,y,p,q,by simpa using hx,by simpa using hy,hp,hq,u⟩
   .cases u
 .simp_all
 .grind
 .intro j o ho hl
  have hj:=(QM.1 ho).1
  simp_all
end Go.AM
namespace Go.AM
variable {U:Uni} {P:Program}
def Z5j{α:Type}:List (Nat × α)->Nat->Option α
 | [],_=> none
 | (a,x) ::r,t=> bif Nat.beq a t then some x else Z5j r t
theorem Z3q{α:Type}:∀ {l:List (Nat × α)} {t:Nat} {x:α},Z5j l t=some x->(t,x)∈l
 | (a,y) ::r,t,x,h=> by
  simp only [Z5j] at h
  cases hb:Nat.beq a t with
  | true=>
   simp_all
  | false=> simp [hb] at h;exact Q7 _ (Z3q h)
def ZnX:List (Nat × Nat × Nat × Nat)->Nat->Nat->Option (Nat × Nat)
 | [],_,_=> none
 | (a,b,x) ::r,t,f=> bif Nat.beq a t && Nat.beq b f then some x else ZnX r t f
theorem Zgb:∀ {l:List (Nat × Nat × Nat × Nat)} {t f:Nat} {x:Nat × Nat},ZnX l t f=some x->(t,f,x)∈l
 | (a,b,y) ::r,t,f,x,h=> by
  simp only [ZnX] at h
  cases hb:Nat.beq a t && Nat.beq b f with
  | true=>
   simp_all
  | false=> simp [hb] at h;exact Q7 _ (Zgb h)
structure Codec (U:Uni) where
 tyEq:DecidableEq U.Ty
 dflt:(T:U.Ty)->U.El T
 enc:(T:U.Ty)->U.El T->List (C U)
 dec:(T:U.Ty)->List (C U)->Option (U.El T)
 aggT:U.Ty->Bool
 sz:U.Ty->Nat
 bytes:U.Ty->Nat
structure CodecOk (K:Codec U):Prop where
 enc_len:∀ T x,(K.enc T x).length=K.sz T
 enc_plain:∀ T x c,c∈K.enc T x->c.plain=true
 dec_ok:∀ T cs x,K.dec T cs=some x->cs.length=(K.enc T x).length/\∀ (j:Nat) c c',cs[j]?=some c->(K.enc T x)[j]?=some c'->Wk c c'
 sz_pos:∀ T,0 < K.sz T
 bytes_pos:∀ T,0 < K.bytes T
structure Tables (U:Uni) where
 el:U.Ty->TypeId
 sl:List (Nat × U.Ty)
 var:List (Nat × Bool × List (C U))
 fld:List (Nat × Nat × Nat × Nat)
 arr:List (Nat × Nat × Nat)
 eqs:List Nat:=[]
def Tables.cfg(K:Codec U)(T:Tables U):Cfg U:=
 {tyEq:=K.tyEq,dflt:=K.dflt,enc:=K.enc,dec:=K.dec,aggT:=K.aggT,sz:=K.sz,bytes:=K.bytes,elT:=T.el,
  slT:=Z5j T.sl,var:=Z5j T.var,fld:=ZnX T.fld,arr:=Z5j T.arr,eqs:=fun t=> T.eqs.any (Nat.beq t) }
def ZCI:Option (C U)->C U->Bool
 | some (.int k n),.int k' n'=> k==k' && n==n'
 | some (.bool b),.bool b'=> b==b'
 | some .nils,.nils=> true
 | some .nilp,.nilp=> true
 | _,_=> false
theorem ZyB{x:Option (C U)}{c:C U}(h:ZCI x c=true):x=some c:=by
 unfold ZCI at h
 grind
def ZyA:List Value->List (C U)->Bool
 | [],[]=> true
 | v ::r,c ::s=> ZCI (JX v) c && ZyA r s
 | _,_=> false
theorem ZoO:∀ {vs:List Value} {cs:List (C U)},ZyA vs cs=true->vs.map JX=cs.map some
 | [],[],_=> rfl
 | v ::r,c ::s,h=> by
  simp only [ZyA,Q4] at h
  simp [ZyB h.1,ZoO h.2]
def Zrj(ag:Bool)(z:Value)(zs:List (C U)):Bool:=
 (match z,ag with
  | .agg _,true=> true
  | .agg _,false=> false
  | .tuple _,_=> false
  | _,false=> true
  | _,true=> false) && ZyA z.cells.toList zs
theorem Zri{ag:Bool}{z:Value}{zs:List (C U)}(h:Zrj ag z zs=true):ZyM ag z zs:=by
 unfold Zrj at h
 simp only [Q4] at h
 obtain ⟨u,s⟩:=h
 refine ⟨fun d=> ?_,fun d=> ?_,ZoO s⟩
 .grind
 .subst d
  cases z <;> first | rfl | (simp at u;done)
def ZoL:List (C U)->TypeDesc->Bool
 | [.int k _],.int k'=> k==k'
 | [.int _ _],_=> false
 | [.bool _],.bool=> true
 | [.bool _],_=> false
 | [.nilp],.pointer _=> true
 | [.nilp],_=> false
 | _,_=> true
def ZwI(P:Program)(x:Nat × Bool × List (C U)):Bool:=
 match P.info? x.1,P.underlying x.1 with
 | some i,some d=> (Nat.beq i.size x.2.2.length && Nat.blt 0 x.2.2.length) && (TypeDesc.ag d==x.2.1) &&
  (match i.zero with | some z=> Zrj x.2.1 z x.2.2 | none=> false) && (x.2.1 || ZoL x.2.2 d) &&
  (match d with
   | .struct fs=> fs.toList.all fun fd=> (P.info? fd.type).isSome
   | .array _ e=> (P.info? e).isSome
   | _=> true)
 | _,_=> false
def slB(P:Program)(el:U.Ty->TypeId)(x:Nat × U.Ty):Bool:=
 match P.underlying x.1 with
 | some (.slice e)=> Nat.beq e (el x.2)
 | _=> false
def ZCH(P:Program)(x:Nat × Nat × Nat × Nat):Bool:=
 match P.underlying x.1 with
 | some (.struct fs)=> match fs.toList[x.2.1]? with
  | some fd=> Nat.beq fd.offset x.2.2.1 && Nat.beq fd.type x.2.2.2
  | none=> false
 | _=> false
def ZDK(P:Program)(x:Nat × Nat × Nat):Bool:=
 match P.underlying x.1 with
 | some (.array n e)=> Nat.beq n x.2.1 && Nat.beq e x.2.2
 | _=> false
def eqK(P:Program)(z:Option (C U))(t:TypeId):Bool:=
 match z,P.underlying t with
 | some (.int _ _),some (.int _)=> true
 | some (.bool _),some .bool=> true
 | _,_=> false
def eqB(P:Program)(var:List (Nat × Bool × List (C U)))(t:Nat):Bool:=
 match P.underlying t with
 | some (.struct fs)=> (match Z5j var t with
   | some (_,zs)=> Nat.beq zs.length fs.size
   | none=> true) && !P.stoodInHeld t && !P.eqGuardType P.depth t &&
  ((List.range fs.size).all fun i=> match fs[i]? with
   | some f => f.name != "_" && Nat.beq f.offset i && (match Z5j var t with
    | some (_,zs)=> eqK P zs[i]? f.type
    | none=> true)
   | none=> false)
 | _=> false
def elB(P:Program)(K:Codec U)(T:Tables U)(t:U.Ty):Bool:=
 match P.info? (T.el t),Z5j T.var (T.el t) with
 | some i,some (_,zs)=> Nat.beq i.size (K.sz t) && Nat.beq i.bytes (K.bytes t) && i.zero.isSome && Nat.beq zs.length (K.sz t)
 | _,_=> false
theorem ZpU {K:Codec U} (ck:CodecOk K) {T:Tables U} (hv:T.var.all (ZwI P)=true) (hs:T.sl.all (slB P T.el)=true) (hf:T.fld.all (ZCH P)=true) (ha:T.arr.all (ZDK P)=true)
  (he:∀ t,elB P K T t=true) (hm:P.follows .mixedOrders=true) (hq:T.eqs.all (eqB P T.var)=true):CfgOk P (T.cfg K):=by
 refine ⟨ck.enc_len,ck.enc_plain,ck.dec_ok,ck.sz_pos,ck.bytes_pos,?_,?_,?_,?_,?_,hm,?_,?_⟩
 .intro t
  have h:=he t
  unfold elB at h
  split at h
  .rename_i i ag zs h1 h2
   simp only [Q4] at h
   obtain ⟨⟨⟨h3,h4⟩,u⟩,h6⟩:=h
   obtain ⟨z,hz⟩:=QW.1 u
   exact ⟨i,ag,zs,z,h1,Qa h3,Qa h4,hz,h2,Qa h6⟩
  .cases h
 .intro t S h
  have:=Qy.1 hs _ (Z3q h)
  unfold slB at this
  simp only at this
  split at this
  .rename_i e hu
   rw [hu,Qa this];try rfl
  .cases this
 .intro t ag zs h
  have:=Qy.1 hv _ (Z3q h)
  unfold ZwI at this
  simp only at this
  split at this
  .rename_i i d hi hu
   simp only [Q4] at this
   obtain ⟨⟨⟨⟨⟨h1,h2⟩,h3⟩,h4⟩,u⟩,h6⟩:=this
   split at h4
   .rename_i z hz
    refine ⟨Nat.blt_eq.mp h2,i,z,d,hi,hu,Qa h1,by simpa using h3,hz,Zri h4,?_,?_,?_,?_⟩
    .intro ah k n aj
     subst ah
     simp only [XX] at u
     subst aj
     unfold ZoL at u
     split at u <;> simp_all
    .intro ah b aj
     subst ah
     simp only [XX] at u
     subst aj
     unfold ZoL at u
     split at u <;> simp_all
    .intro fs hd
     subst hd
     exact h6
    .intro n e hd
     subst hd
     exact h6
   .cases h4
  .cases this
 .intro s f az t h
  have:=Qy.1 hf _ (Zgb h)
  unfold ZCH at this
  simp only at this
  split at this
  .rename_i fs hu
   split at this
   .rename_i fd av
    simp only [Q4] at this
    exact ⟨fs,fd,hu,by simpa using av,Nat.eq_of_beq_eq_true this.1,Nat.eq_of_beq_eq_true this.2⟩
   .cases this
  .cases this
 .intro t n e h
  have:=Qy.1 ha _ (Z3q h)
  unfold ZDK at this
  simp only at this
  split at this
  .rename_i n' e' hu
   simp only [Q4] at this
   rw [hu,Qa this.1,Qa this.2]
  .cases this
 .intro t ht
  obtain ⟨t',h1,h2⟩:=XZ.1 ht
  have e:=Qa h2
  subst e
  have h3:=Qy.1 hq _ h1
  unfold eqB at h3
  split at h3
  .rename_i fs hu
   simp only [Q4,QN] at h3
   obtain ⟨⟨⟨h4,u⟩,h6⟩,h7⟩:=h3
   refine ⟨fs,hu,fun ag zs hz=> ?_,u,h6,fun i f hf=> ?_⟩
   .have af:Z5j T.var t=some (ag,zs):=hz
    rw [af] at h4
    exact Qa h4
   .have hi:=(QM.1 hf).1
    have h8:=Qy.1 h7 i (by simpa using hi)
    rw [hf] at h8
    simp only [Q4,bne_iff_ne,ne_eq] at h8
    refine ⟨h8.1.1,Qa h8.1.2,fun ag zs hz=> ?_⟩
    have h9:=h8.2
    have af:Z5j T.var t=some (ag,zs):=hz
    rw [af] at h9
    dsimp only at h9
    unfold eqK at h9
    split at h9
    .rename_i e1 e2
     exact ⟨fun _ _ _=> ⟨_,e2⟩,fun _ h=> by (rw [e1] at h;cases h)⟩
    .rename_i e1 e2
     exact ⟨fun _ _ h=> by (rw [e1] at h;cases h),fun _ _=> e2⟩
    .cases h9
  .cases h3
 .intro t h
  have:=Qy.1 hv _ (Z3q h)
  unfold ZwI at this
  simp only at this
  split at this
  .rename_i i d hi hu
   simp only [Q4] at this
   obtain ⟨⟨_,u⟩,_⟩:=this
   cases d <;> first | exact ⟨_,hu⟩ | (simp [ZoL] at u;done)
  .cases this
end Go.AM
namespace Go.AM
structure WEdit where
 at_:Int
 mask:Int
 old:Int
 new:Int
inductive Tree where
 | mk (kind:Int) (words:List Int) (kids:List Tree)
def Tree.kind:Tree->Int | .mk k _ _=> k
def Tree.words:Tree->List Int | .mk _ w _=> w
def Tree.kids:Tree->List Tree | .mk _ _ k=> k
@[simp] theorem Tree.eta (t:Tree):Tree.mk t.kind t.words t.kids=t:=by cases t;rfl
@[simp] theorem Tree.kind_mk (k:Int) (w:List Int) (ks:List Tree):(Tree.mk k w ks).kind=k:=rfl
@[simp] theorem Tree.words_mk (k:Int) (w:List Int) (ks:List Tree):(Tree.mk k w ks).words=w:=rfl
@[simp] theorem Tree.kids_mk (k:Int) (w:List Int) (ks:List Tree):(Tree.mk k w ks).kids=ks:=rfl
structure KidOf (E:Type) where
 at_:Int
 e:E
structure OpOf (E:Type) where
 kind:Int
 n:Int
 l:List Tree
 e:E
inductive Edit where
 | mk (kind:Int) (old new:Tree) (words:List WEdit) (kids:List (KidOf Edit)) (list:Int) (ops:List (OpOf Edit))
abbrev Kid:=KidOf Edit
abbrev Op:=OpOf Edit
def Edit.kind:Edit->Int | .mk k _ _ _ _ _ _=> k
def Edit.old:Edit->Tree | .mk _ o _ _ _ _ _=> o
def Edit.new:Edit->Tree | .mk _ _ n _ _ _ _=> n
def Edit.words:Edit->List WEdit | .mk _ _ _ w _ _ _=> w
def Edit.kids:Edit->List Kid | .mk _ _ _ _ k _ _=> k
def Edit.list:Edit->Int | .mk _ _ _ _ _ l _=> l
def Edit.ops:Edit->List Op | .mk _ _ _ _ _ _ o=> o
@[simp] theorem Edit.eta (e:Edit):Edit.mk e.kind e.old e.new e.words e.kids e.list e.ops=e:=by cases e;rfl
section
variable (k:Int) (o n:Tree) (w:List WEdit) (ks:List Kid) (l:Int) (os:List Op)
@[simp] theorem Edit.kind_mk:(Edit.mk k o n w ks l os).kind=k:=rfl
@[simp] theorem Edit.old_mk:(Edit.mk k o n w ks l os).old=o:=rfl
@[simp] theorem Edit.new_mk:(Edit.mk k o n w ks l os).new=n:=rfl
@[simp] theorem Edit.words_mk:(Edit.mk k o n w ks l os).words=w:=rfl
@[simp] theorem Edit.kids_mk:(Edit.mk k o n w ks l os).kids=ks:=rfl
@[simp] theorem Edit.list_mk:(Edit.mk k o n w ks l os).list=l:=rfl
@[simp] theorem Edit.ops_mk:(Edit.mk k o n w ks l os).ops=os:=rfl
end
def Tree.nil:Tree:= .mk 0 [] []
def Edit.nil:Edit:= .mk 0 Tree.nil Tree.nil [] [] 0 []
def Op.nil:Op:=⟨0,0,[],Edit.nil⟩
structure AUnit where
 step:Int
 kind:Int
 t:Tree
 e:Edit
 alone:Bool
def AUnit.nil:AUnit:=⟨0,0,Tree.nil,Edit.nil,false⟩
structure PStep where
 kind:Int
 at_:Int
structure Piece where
 of:Int
 p:Op
 q:Op
structure APair where
 of:Int
 p:AUnit
 q:AUnit
structure LeftE where
 x:Edit
 y:Edit
 clash:Bool
 apart:Bool
structure Deed where
 kind:Int
 i:Int
 e:Edit
structure HDeed where
 kind:Int
 who:Int
 version:Int
 e:Edit
inductive Ty where
 | u64 | u8 | int | tree | wedit | edit | kid | op | piece | unit | pair | left | deed | hdeed
 deriving DecidableEq
@[reducible] def El:Ty->Type
 | .u64=> Int
 | .u8=> Int
 | .int=> Int
 | .tree=> Tree
 | .wedit=> WEdit
 | .edit=> Edit
 | .kid=> Kid
 | .op=> Op
 | .piece=> Piece
 | .unit=> AUnit
 | .pair=> APair
 | .left=> LeftE
 | .deed=> Deed
 | .hdeed=> HDeed
@[reducible] def U:Uni:={ Ty:=Ty,El:=El }
abbrev sl(T:Ty)(l:List (El T)):C U:= .slice (U:=U) T l .unk
def ZAG(x:Tree):List (C U):=[.int .i64 x.kind,sl .u64 x.words,sl .tree x.kids]
def Zvk(x:WEdit):List (C U):=[.int .i64 x.at_,.int .u8 x.mask,.int .u64 x.old,.int .u64 x.new]
def ZAJ(x:Edit):List (C U):=[.int .i64 x.kind,.int .i64 x.old.kind,sl .u64 x.old.words,sl .tree x.old.kids,.int .i64 x.new.kind,sl .u64 x.new.words,sl .tree x.new.kids,sl .wedit x.words,sl .kid x.kids,.int .i64 x.list,sl .op x.ops]
def ZGt(x:Kid):List (C U):=[.int .i64 x.at_,.int .i64 x.e.kind,.int .i64 x.e.old.kind,sl .u64 x.e.old.words,sl .tree x.e.old.kids,.int .i64 x.e.new.kind,sl .u64 x.e.new.words,sl .tree x.e.new.kids,sl .wedit x.e.words,sl .kid x.e.kids,.int .i64 x.e.list,sl .op x.e.ops]
def eOp(x:Op):List (C U):=[.int .i64 x.kind,.int .i64 x.n,sl .tree x.l,.int .i64 x.e.kind,.int .i64 x.e.old.kind,sl .u64 x.e.old.words,sl .tree x.e.old.kids,.int .i64 x.e.new.kind,sl .u64 x.e.new.words,sl .tree x.e.new.kids,sl .wedit x.e.words,sl .kid x.e.kids,.int .i64 x.e.list,sl .op x.e.ops]
def Zvl(x:Piece):List (C U):=[.int .i64 x.of,.int .i64 x.p.kind,.int .i64 x.p.n,sl .tree x.p.l,.int .i64 x.p.e.kind,.int .i64 x.p.e.old.kind,sl .u64 x.p.e.old.words,sl .tree x.p.e.old.kids,.int .i64 x.p.e.new.kind,sl .u64 x.p.e.new.words,sl .tree x.p.e.new.kids,sl .wedit x.p.e.words,sl .kid x.p.e.kids,.int .i64 x.p.e.list,sl .op x.p.e.ops,.int .i64 x.q.kind,.int .i64 x.q.n,sl .tree x.q.l,.int .i64 x.q.e.kind,.int .i64 x.q.e.old.kind,sl .u64 x.q.e.old.words,sl .tree x.q.e.old.kids,.int .i64 x.q.e.new.kind,sl .u64 x.q.e.new.words,sl .tree x.q.e.new.kids,sl .wedit x.q.e.words,sl .kid x.q.e.kids,.int .i64 x.q.e.list,sl .op x.q.e.ops]
def ZAF(x:AUnit):List (C U):=[.int .i64 x.step,.int .i64 x.kind,.int .i64 x.t.kind,sl .u64 x.t.words,sl .tree x.t.kids,.int .i64 x.e.kind,.int .i64 x.e.old.kind,sl .u64 x.e.old.words,sl .tree x.e.old.kids,.int .i64 x.e.new.kind,sl .u64 x.e.new.words,sl .tree x.e.new.kids,sl .wedit x.e.words,sl .kid x.e.kids,.int .i64 x.e.list,sl .op x.e.ops,.bool x.alone]
def ZAH(x:APair):List (C U):=[.int .i64 x.of,.int .i64 x.p.step,.int .i64 x.p.kind,.int .i64 x.p.t.kind,sl .u64 x.p.t.words,sl .tree x.p.t.kids,.int .i64 x.p.e.kind,.int .i64 x.p.e.old.kind,sl .u64 x.p.e.old.words,sl .tree x.p.e.old.kids,.int .i64 x.p.e.new.kind,sl .u64 x.p.e.new.words,sl .tree x.p.e.new.kids,sl .wedit x.p.e.words,sl .kid x.p.e.kids,.int .i64 x.p.e.list,sl .op x.p.e.ops,.bool x.p.alone,.int .i64 x.q.step,.int .i64 x.q.kind,.int .i64 x.q.t.kind,sl .u64 x.q.t.words,sl .tree x.q.t.kids,.int .i64 x.q.e.kind,.int .i64 x.q.e.old.kind,sl .u64 x.q.e.old.words,sl .tree x.q.e.old.kids,.int .i64 x.q.e.new.kind,sl .u64 x.q.e.new.words,sl .tree x.q.e.new.kids,sl .wedit x.q.e.words,sl .kid x.q.e.kids,.int .i64 x.q.e.list,sl .op x.q.e.ops,.bool x.q.alone]
def ZAI(x:LeftE):List (C U):=[.int .i64 x.x.kind,.int .i64 x.x.old.kind,sl .u64 x.x.old.words,sl .tree x.x.old.kids,.int .i64 x.x.new.kind,sl .u64 x.x.new.words,sl .tree x.x.new.kids,sl .wedit x.x.words,sl .kid x.x.kids,.int .i64 x.x.list,sl .op x.x.ops,.int .i64 x.y.kind,.int .i64 x.y.old.kind,sl .u64 x.y.old.words,sl .tree x.y.old.kids,.int .i64 x.y.new.kind,sl .u64 x.y.new.words,sl .tree x.y.new.kids,sl .wedit x.y.words,sl .kid x.y.kids,.int .i64 x.y.list,sl .op x.y.ops,.bool x.clash,.bool x.apart]
def ZAK(x:Deed):List (C U):=[.int .i64 x.kind,.int .i64 x.i,.int .i64 x.e.kind,.int .i64 x.e.old.kind,sl .u64 x.e.old.words,sl .tree x.e.old.kids,.int .i64 x.e.new.kind,sl .u64 x.e.new.words,sl .tree x.e.new.kids,sl .wedit x.e.words,sl .kid x.e.kids,.int .i64 x.e.list,sl .op x.e.ops]
def Zvm(x:HDeed):List (C U):=[.int .i64 x.kind,.int .i64 x.who,.int .i64 x.version,.int .i64 x.e.kind,.int .i64 x.e.old.kind,sl .u64 x.e.old.words,sl .tree x.e.old.kids,.int .i64 x.e.new.kind,sl .u64 x.e.new.words,sl .tree x.e.new.kids,sl .wedit x.e.words,sl .kid x.e.kids,.int .i64 x.e.list,sl .op x.e.ops]
def enc:(T:Ty)->El T->List (C U)
 | .u64,n=> [.int .u64 n]
 | .u8,n=> [.int .u8 n]
 | .int,n=> [.int .i64 n]
 | .tree,x=> ZAG x
 | .wedit,x=> Zvk x
 | .edit,x=> ZAJ x
 | .kid,x=> ZGt x
 | .op,x=> eOp x
 | .piece,x=> Zvl x
 | .unit,x=> ZAF x
 | .pair,x=> ZAH x
 | .left,x=> ZAI x
 | .deed,x=> ZAK x
 | .hdeed,x=> Zvm x
abbrev Rd(α:Type):=List (C U)->Option (α × List (C U))
def Z1Q(k:IntKind):Rd Int
 | .int k' n ::r=> if k=k' then some (n,r) else none
 | _=> none
def Zjo:Rd Bool
 | .bool b ::r=> some (b,r)
 | _=> none
def rSl(T:Ty):Rd (List (El T))
 | .nils ::r=> some ([],r)
 | .slice S l _ ::r=> match (inferInstance:DecidableEq Ty) S T with
  | isTrue h=> some (h▸l,r)
  | isFalse _=> none
 | _=> none
def ZT{α β:Type}(x:Rd α)(f:α->Rd β):Rd β:=fun cs=> match x cs with
 | some (a,r)=> f a r
 | none=> none
def Z4Y{α:Type}(a:α):Rd α:=fun cs=> some (a,cs)
def WkL:List (C U)->List (C U)->Prop
 | [],[]=> True
 | c ::r,c' ::r'=> Wk c c'/\WkL r r'
 | _,_=> False
theorem WkL.append:∀ {a b c d:List (C U)},WkL a b->WkL c d->WkL (a++c) (b++d)
 | [],[],_,_,_,h=> h
 | _ ::_,_ ::_,_,_,h,k=> ⟨h.1,WkL.append h.2 k⟩
theorem WkL.get:∀ {a b:List (C U)},WkL a b->a.length=b.length/\∀ (j:Nat) c s,a[j]?=some c->b[j]?=some s->Wk c s
 | [],[],_=> ⟨rfl,fun j c s h=> by simp at h⟩
 | x ::a,y ::b,h=> by
  obtain ⟨u,h2⟩:=WkL.get h.2
  refine ⟨by simp [u],fun j c s hc d=> ?_⟩
  cases j with
  | zero=> simp at hc d;subst hc d;exact h.1
  | succ j=> exact h2 j c s (by simpa using hc) (by simpa using d)
def Z1G{α:Type}(r:Rd α)(e:α->List (C U)):Prop:=∀ cs x rest,r cs=some (x,rest)->∃ p,cs=p++rest/\WkL p (e x)
theorem ZF(k:IntKind):Z1G (Z1Q k) fun n=> [.int k n]:=by
 intro cs x d h
 unfold Z1Q at h
 split at h
 .split at h
  .rename_i s
   subst s
   cases h
   exact ⟨[_],rfl,.int _ _,trivial⟩
  .cases h
 .cases h
theorem Z7q:Z1G Zjo fun b=> [.bool b]:=by
 intro cs x d h
 unfold Zjo at h
 split at h
 .cases h;exact ⟨[_],rfl,.bool _,trivial⟩
 .cases h
theorem Z2k(T:Ty):Z1G (rSl T) fun l=> [sl T l]:=by
 intro cs x s h
 unfold rSl at h
 split at h
 .cases h;exact ⟨[_],rfl,(Wk.snil (U:=U) T:Wk (U:=U) .nils (.slice T [] .unk)),trivial⟩
 .split at h
  .rename_i d _
   subst d
   cases h
   exact ⟨[_],rfl,.slice _ _ _,trivial⟩
  .cases h
 .cases h
theorem ZZ{α β:Type}{x:Rd α}{f:α->Rd β}{ex:α->List (C U)}(hx:Z1G x ex){cs:List (C U)}{b:β}{rest:List (C U)}(h:ZT x f cs=some (b,rest)):
  ∃ a p r,cs=p++r/\WkL p (ex a)/\f a r=some (b,rest):=by
 unfold ZT at h
 split at h
 .rename_i a r s
  obtain ⟨p,rfl,d⟩:=hx _ _ _ s
  exact ⟨a,p,r,rfl,d,h⟩
 .cases h
def Zjn:Rd Tree:=ZT (Z1Q .i64) fun x0=> ZT (rSl .u64) fun d=> ZT (rSl .tree) fun h=> Z4Y (Tree.mk x0 d h)
theorem Z41:Z1G Zjn ZAG:=by
 intro cs x d h
 obtain ⟨x0,s,r0,rfl,w0,h⟩:=ZZ (ZF _) h
 obtain ⟨x1,u,r1,rfl,w1,h⟩:=ZZ (Z2k _) h
 obtain ⟨x2,p2,r2,rfl,w2,h⟩:=ZZ (Z2k _) h
 cases h
 exact ⟨s++(u++(p2)),by simp,w0.append (w1.append (w2))⟩
def Zt4:Rd WEdit:=ZT (Z1Q .i64) fun x0=> ZT (Z1Q .u8) fun h=> ZT (Z1Q .u64) fun s=> ZT (Z1Q .u64) fun d=> Z4Y (WEdit.mk x0 h s d)
theorem Zji:Z1G Zt4 Zvk:=by
 intro cs x d h
 obtain ⟨x0,u,r0,rfl,w0,h⟩:=ZZ (ZF _) h
 obtain ⟨x1,p1,r1,rfl,w1,h⟩:=ZZ (ZF _) h
 obtain ⟨x2,p2,r2,rfl,w2,h⟩:=ZZ (ZF _) h
 obtain ⟨x3,s,r3,rfl,w3,h⟩:=ZZ (ZF _) h
 cases h
 exact ⟨u++(p1++(p2++(s))),by simp,w0.append (w1.append (w2.append (w3)))⟩
def Z8F:Rd Edit:=ZT (Z1Q .i64) fun x0=> ZT Zjn fun x1=> ZT Zjn fun u=> ZT (rSl .wedit) fun s=> ZT (rSl .kid) fun h=> ZT (Z1Q .i64) fun d=> ZT (rSl .op) fun x6=> Z4Y (Edit.mk x0 x1 u s h d x6)
theorem JF:Z1G Z8F ZAJ:=by
 intro cs x d h
 obtain ⟨x0,u,r0,rfl,w0,h⟩:=ZZ (ZF _) h
 obtain ⟨x1,p1,r1,rfl,w1,h⟩:=ZZ Z41 h
 obtain ⟨x2,p2,r2,rfl,w2,h⟩:=ZZ Z41 h
 obtain ⟨x3,s,r3,rfl,w3,h⟩:=ZZ (Z2k _) h
 obtain ⟨x4,p4,r4,rfl,w4,h⟩:=ZZ (Z2k _) h
 obtain ⟨x5,p5,r5,rfl,w5,h⟩:=ZZ (ZF _) h
 obtain ⟨x6,p6,r6,rfl,w6,h⟩:=ZZ (Z2k _) h
 cases h
 exact ⟨u++(p1++(p2++(s++(p4++(p5++(p6)))))),by simp,w0.append (w1.append (w2.append (w3.append (w4.append (w5.append (w6))))))⟩
def ZG3:Rd Kid:=ZT (Z1Q .i64) fun x0=> ZT Z8F fun d=> Z4Y (KidOf.mk x0 d)
theorem Zq6:Z1G ZG3 ZGt:=by
 intro cs x d h
 obtain ⟨x0,s,r0,rfl,w0,h⟩:=ZZ (ZF _) h
 obtain ⟨x1,u,r1,rfl,w1,h⟩:=ZZ JF h
 cases h
 exact ⟨s++(u),by simp,w0.append (w1)⟩
def rOp:Rd Op:=ZT (Z1Q .i64) fun x0=> ZT (Z1Q .i64) fun h=> ZT (rSl .tree) fun s=> ZT Z8F fun d=> Z4Y (OpOf.mk x0 h s d)
theorem ZdE:Z1G rOp eOp:=by
 intro cs x d h
 obtain ⟨x0,u,r0,rfl,w0,h⟩:=ZZ (ZF _) h
 obtain ⟨x1,p1,r1,rfl,w1,h⟩:=ZZ (ZF _) h
 obtain ⟨x2,p2,r2,rfl,w2,h⟩:=ZZ (Z2k _) h
 obtain ⟨x3,s,r3,rfl,w3,h⟩:=ZZ JF h
 cases h
 exact ⟨u++(p1++(p2++(s))),by simp,w0.append (w1.append (w2.append (w3)))⟩
def Zt6:Rd Piece:=ZT (Z1Q .i64) fun x0=> ZT rOp fun d=> ZT rOp fun h=> Z4Y (Piece.mk x0 d h)
theorem Zjj:Z1G Zt6 Zvl:=by
 intro cs x d h
 obtain ⟨x0,s,r0,rfl,w0,h⟩:=ZZ (ZF _) h
 obtain ⟨x1,u,r1,rfl,w1,h⟩:=ZZ ZdE h
 obtain ⟨x2,p2,r2,rfl,w2,h⟩:=ZZ ZdE h
 cases h
 exact ⟨s++(u++(p2)),by simp,w0.append (w1.append (w2))⟩
def Zni:Rd AUnit:=ZT (Z1Q .i64) fun x0=> ZT (Z1Q .i64) fun u=> ZT Zjn fun s=> ZT Z8F fun h=> ZT Zjo fun d=> Z4Y (AUnit.mk x0 u s h d)
theorem Z7p:Z1G Zni ZAF:=by
 intro cs x d h
 obtain ⟨x0,u,r0,rfl,w0,h⟩:=ZZ (ZF _) h
 obtain ⟨x1,p1,r1,rfl,w1,h⟩:=ZZ (ZF _) h
 obtain ⟨x2,p2,r2,rfl,w2,h⟩:=ZZ Z41 h
 obtain ⟨x3,s,r3,rfl,w3,h⟩:=ZZ JF h
 obtain ⟨x4,p4,r4,rfl,w4,h⟩:=ZZ Z7q h
 cases h
 exact ⟨u++(p1++(p2++(s++(p4)))),by simp,w0.append (w1.append (w2.append (w3.append (w4))))⟩
def ZAv:Rd APair:=ZT (Z1Q .i64) fun x0=> ZT Zni fun d=> ZT Zni fun h=> Z4Y (APair.mk x0 d h)
theorem Zlh:Z1G ZAv ZAH:=by
 intro cs x d h
 obtain ⟨x0,s,r0,rfl,w0,h⟩:=ZZ (ZF _) h
 obtain ⟨x1,u,r1,rfl,w1,h⟩:=ZZ Z7p h
 obtain ⟨x2,p2,r2,rfl,w2,h⟩:=ZZ Z7p h
 cases h
 exact ⟨s++(u++(p2)),by simp,w0.append (w1.append (w2))⟩
def ZAw:Rd LeftE:=ZT Z8F fun x0=> ZT Z8F fun h=> ZT Zjo fun s=> ZT Zjo fun d=> Z4Y (LeftE.mk x0 h s d)
theorem Zli:Z1G ZAw ZAI:=by
 intro cs x d h
 obtain ⟨x0,u,r0,rfl,w0,h⟩:=ZZ JF h
 obtain ⟨x1,p1,r1,rfl,w1,h⟩:=ZZ JF h
 obtain ⟨x2,p2,r2,rfl,w2,h⟩:=ZZ Z7q h
 obtain ⟨x3,s,r3,rfl,w3,h⟩:=ZZ Z7q h
 cases h
 exact ⟨u++(p1++(p2++(s))),by simp,w0.append (w1.append (w2.append (w3)))⟩
def ZAx:Rd Deed:=ZT (Z1Q .i64) fun x0=> ZT (Z1Q .i64) fun d=> ZT Z8F fun h=> Z4Y (Deed.mk x0 d h)
theorem Zlj:Z1G ZAx ZAK:=by
 intro cs x d h
 obtain ⟨x0,s,r0,rfl,w0,h⟩:=ZZ (ZF _) h
 obtain ⟨x1,u,r1,rfl,w1,h⟩:=ZZ (ZF _) h
 obtain ⟨x2,p2,r2,rfl,w2,h⟩:=ZZ JF h
 cases h
 exact ⟨s++(u++(p2)),by simp,w0.append (w1.append (w2))⟩
def Zt7:Rd HDeed:=ZT (Z1Q .i64) fun x0=> ZT (Z1Q .i64) fun h=> ZT (Z1Q .i64) fun s=> ZT Z8F fun d=> Z4Y (HDeed.mk x0 h s d)
theorem Zjk:Z1G Zt7 Zvm:=by
 intro cs x d h
 obtain ⟨x0,u,r0,rfl,w0,h⟩:=ZZ (ZF _) h
 obtain ⟨x1,p1,r1,rfl,w1,h⟩:=ZZ (ZF _) h
 obtain ⟨x2,p2,r2,rfl,w2,h⟩:=ZZ (ZF _) h
 obtain ⟨x3,s,r3,rfl,w3,h⟩:=ZZ JF h
 cases h
 exact ⟨u++(p1++(p2++(s))),by simp,w0.append (w1.append (w2.append (w3)))⟩
def rEl:(T:Ty)->Rd (El T)
 | .u64=> Z1Q .u64
 | .u8=> Z1Q .u8
 | .int=> Z1Q .i64
 | .tree=> Zjn
 | .wedit=> Zt4
 | .edit=> Z8F
 | .kid=> ZG3
 | .op=> rOp
 | .piece=> Zt6
 | .unit=> Zni
 | .pair=> ZAv
 | .left=> ZAw
 | .deed=> ZAx
 | .hdeed=> Zt7
theorem Zjl:∀ T:Ty,Z1G (rEl T) (enc T)
 | .u64=> ZF _
 | .u8=> ZF _
 | .int=> ZF _
 | .tree=> Z41
 | .wedit=> Zji
 | .edit=> JF
 | .kid=> Zq6
 | .op=> ZdE
 | .piece=> Zjj
 | .unit=> Z7p
 | .pair=> Zlh
 | .left=> Zli
 | .deed=> Zlj
 | .hdeed=> Zjk
def dec(T:Ty)(cs:List (C U)):Option (El T):=
 match rEl T cs with
 | some (x,[])=> some x
 | _=> none
def K:Codec U:=
 {tyEq:=inferInstanceAs (DecidableEq Ty)
  dflt:=fun T=> match T with
   | .u64=> (0:Int) | .u8=> (0:Int) | .int=> (0:Int) | .tree=> Tree.nil | .wedit=> WEdit.mk 0 0 0 0 | .edit=> Edit.nil | .kid=> KidOf.mk 0 Edit.nil | .op=> Op.nil | .piece=> Piece.mk 0 Op.nil Op.nil | .unit=> AUnit.nil | .pair=> APair.mk 0 AUnit.nil AUnit.nil | .left=> LeftE.mk Edit.nil Edit.nil false false | .deed=> Deed.mk 0 0 Edit.nil | .hdeed=> HDeed.mk 0 0 0 Edit.nil
  enc:=enc
  dec:=dec
  aggT:=fun T=> match T with | .u64 | .u8 | .int=> false | _=> true
  sz:=fun T=> match T with | .u64=> 1 | .u8=> 1 | .int=> 1 | .tree=> 3 | .wedit=> 4 | .edit=> 11 | .kid=> 12 | .op=> 14 | .piece=> 29 | .unit=> 17 | .pair=> 35 | .left=> 24 | .deed=> 13 | .hdeed=> 14
  bytes:=fun T=> match T with | .u64=> 8 | .u8=> 1 | .int=> 8 | .tree=> 56 | .wedit=> 32 | .edit=> 200 | .kid=> 208 | .op=> 240 | .piece=> 488 | .unit=> 280 | .pair=> 568 | .left=> 408 | .deed=> 216 | .hdeed=> 224 }
theorem ZHZ:CodecOk K:=by
 refine ⟨?_,?_,?_,?_,?_⟩
 .intro T x
  cases T <;> rfl
 .intro T x c hc
  have h:(enc T x).all C.plain=true:=by cases T <;> rfl
  exact Qy.1 h c hc
 .intro T cs x h
  have d:dec T cs=some x:=h
  unfold dec at d
  split at d
  .rename_i y u
   cases d
   obtain ⟨p,s,hw⟩:=Zjl T _ _ _ u
   rw [Qn] at s
   subst s
   exact hw.get
  .cases d
 .intro T;cases T <;> decide
 .intro T;cases T <;> decide
theorem ZyD(T:Ty)(x:El T):dec T (enc T x)=some x:=by
 cases T with
 | u64=> rfl
 | u8=> rfl
 | int=> rfl
 | tree=> cases x;rfl
 | wedit=> rfl
 | edit=> obtain ⟨k,⟨_,_,_⟩,⟨_,_,_⟩,w,ks,l,os⟩:=x;rfl
 | kid=> obtain ⟨a,⟨k,⟨_,_,_⟩,⟨_,_,_⟩,w,ks,l,os⟩⟩:=x;rfl
 | op=> obtain ⟨a,b,c,⟨k,⟨_,_,_⟩,⟨_,_,_⟩,w,ks,l,os⟩⟩:=x;rfl
 | piece=> obtain ⟨_,⟨_,_,_,⟨_,⟨_,_,_⟩,⟨_,_,_⟩,_,_,_,_⟩⟩,⟨_,_,_,⟨_,⟨_,_,_⟩,⟨_,_,_⟩,_,_,_,_⟩⟩⟩:=x;rfl
 | unit=> obtain ⟨_,_,⟨_,_,_⟩,⟨_,⟨_,_,_⟩,⟨_,_,_⟩,_,_,_,_⟩,_⟩:=x;rfl
 | pair=> obtain ⟨_,⟨_,_,⟨_,_,_⟩,⟨_,⟨_,_,_⟩,⟨_,_,_⟩,_,_,_,_⟩,_⟩,⟨_,_,⟨_,_,_⟩,⟨_,⟨_,_,_⟩,⟨_,_,_⟩,_,_,_,_⟩,_⟩⟩:=x;rfl
 | left=> obtain ⟨⟨_,⟨_,_,_⟩,⟨_,_,_⟩,_,_,_,_⟩,⟨_,⟨_,_,_⟩,⟨_,_,_⟩,_,_,_,_⟩,_,_⟩:=x;rfl
 | deed=> obtain ⟨_,_,⟨_,⟨_,_,_⟩,⟨_,_,_⟩,_,_,_,_⟩⟩:=x;rfl
 | hdeed=> obtain ⟨_,_,_,⟨_,⟨_,_,_⟩,⟨_,_,_⟩,_,_,_,_⟩⟩:=x;rfl
def Zhj(x:Tree):Tree:=Tree.mk (Tree.kind x) (Tree.words x) (Tree.kids x)
@[simp] theorem Z7 (x:Tree):Zhj x=x:=Tree.eta x
def ZwW(x:WEdit):WEdit:=WEdit.mk (WEdit.at_ x) (WEdit.mask x) (WEdit.old x) (WEdit.new x)
@[simp] theorem Z2l (x:WEdit):ZwW x=x:=rfl
def Z42(x:Edit):Edit:=Edit.mk (Edit.kind x) (Zhj (Edit.old x)) (Zhj (Edit.new x)) (Edit.words x) (Edit.kids x) (Edit.list x) (Edit.ops x)
@[simp] theorem Z6 (x:Edit):Z42 x=x:=by unfold Z42;rw [Z7,Z7];exact Edit.eta x
def ZAu(x:Kid):Kid:=KidOf.mk (KidOf.at_ x) (Z42 (KidOf.e x))
@[simp] theorem Zjm (x:Kid):ZAu x=x:=by unfold ZAu;rw [Z6]
def ZwX(x:Op):Op:=OpOf.mk (OpOf.kind x) (OpOf.n x) (OpOf.l x) (Z42 (OpOf.e x))
@[simp] theorem YE (x:Op):ZwX x=x:=by unfold ZwX;rw [Z6]
def Znf(x:Piece):Piece:=Piece.mk (Piece.of x) (ZwX (Piece.p x)) (ZwX (Piece.q x))
@[simp] theorem ZBo (x:Piece):Znf x=x:=by unfold Znf;rw [YE,YE]
def Zhi(x:AUnit):AUnit:=AUnit.mk (AUnit.step x) (AUnit.kind x) (Zhj (AUnit.t x)) (Z42 (AUnit.e x)) (AUnit.alone x)
@[simp] theorem ZfL (x:AUnit):Zhi x=x:=by unfold Zhi;rw [Z6,Z7]
def ZsZ(x:APair):APair:=APair.mk (APair.of x) (Zhi (APair.p x)) (Zhi (APair.q x))
@[simp] theorem ZEC (x:APair):ZsZ x=x:=by unfold ZsZ;rw [ZfL,ZfL]
def Zt0(x:LeftE):LeftE:=LeftE.mk (Z42 (LeftE.x x)) (Z42 (LeftE.y x)) (LeftE.clash x) (LeftE.apart x)
@[simp] theorem ZED (x:LeftE):Zt0 x=x:=by unfold Zt0;rw [Z6,Z6]
def Zt1(x:Deed):Deed:=Deed.mk (Deed.kind x) (Deed.i x) (Z42 (Deed.e x))
@[simp] theorem ZEE (x:Deed):Zt1 x=x:=by unfold Zt1;rw [Z6]
def Znh(x:HDeed):HDeed:=HDeed.mk (HDeed.kind x) (HDeed.who x) (HDeed.version x) (Z42 (HDeed.e x))
@[simp] theorem ZBp (x:HDeed):Znh x=x:=by unfold Znh;rw [Z6]
end Go.AM
namespace Go.AM
variable {P:Program} {cfg:Cfg U}
structure ArgL (α:Type) where
 get:List (V U)->Option α
 can:α->List (V U)
 ok:∀ cfg:Cfg U,cfg.enc=enc->∀ xs a,get xs=some a->xs.length=(can a).length/\∀ (j:Nat) x y,xs[j]?=some x->(can a)[j]?=some y->Zfa cfg x y
structure Arg (α:Type) where
 get:V U->Option α
 can:α->V U
 ok:∀ cfg:Cfg U,cfg.enc=enc->∀ x a,get x=some a->Zfa cfg x (can a)
def ArgL.nil:ArgL Unit:=
 {get:=fun xs=> match xs with
   | []=> some ()
   | _ ::_=> none
  can:=fun _=> []
  ok:=by
   grind }
def ArgL.cons{α β:Type}(A:Arg α)(B:ArgL β):ArgL (α × β):=
 {get:=fun xs=> match xs with
   | x ::r=> match A.get x with
    | some a=> match B.get r with
     | some b=> some (a,b)
     | none=> none
    | none=> none
   | []=> none
  can:=fun p=> A.can p.1 ::B.can p.2
  ok:=by
   intro cfg hc xs p h
   cases xs with
   | nil=> cases h
   | cons x r=>
    simp only at h
    split at h
    .rename_i a ha
     split at h
     .rename_i b hb
      cases h
      obtain ⟨h1,h2⟩:=B.ok cfg hc r b hb
      refine ⟨by simp [h1],fun j x' y hx hy=> ?_⟩
      cases j with
      | zero=> simp at hx hy;subst hx hy;exact A.ok cfg hc x a ha
      | succ j=> grind
     .cases h
    .cases h }
theorem ZaD{a b:C U}(h:Wk a b):Zfa cfg (.c a) (.c b):=by
 intro g d v s
 refine ⟨s.1.wk h,?_⟩
 cases h with
 | snil=> trivial
 | slice=> trivial
 | _=> exact s.2
theorem Zme{a b:List (C U)}(h:WkL a b):Zfa cfg (.agg a) (.agg b):=by
 intro g d v hr
 obtain ⟨vs,rfl,h1,h2⟩:=hr
 obtain ⟨h3,h4⟩:=h.get
 refine ⟨vs,rfl,by rw [h1,h3],fun j u c hu hc=> ?_⟩
 have hj:j < a.length:=by have:=(Q5.1 hc).1;omega
 have s:=Q0 hj
 exact ZaD (cfg:=cfg) (h4 j _ c s hc) g d u (h2 j u _ hu s)
def aEl(T:Ty):Arg (El T):=
 {get:=fun v=> match v with
   | .agg cs=> dec T cs
   | _=> none
  can:=fun x=> .agg (enc T x)
  ok:=by
   intro cfg _ v a h
   cases v <;> simp only [reduceCtorEq] at h
   rename_i cs
   unfold dec at h
   split at h
   .rename_i y he
    cases h
    obtain ⟨p,hp,hw⟩:=Zjl T _ _ _ he
    rw [Qn] at hp
    subst hp
    exact Zme hw
   .cases h }
def Yr(k:IntKind):Arg Int:=
 {get:=fun v=> match v with
   | .c (.int k' n)=> if k=k' then some n else none
   | _=> none
  can:=fun n=> .c (.int k n)
  ok:=by
   intro cfg _ v a h
   split at h
   .split at h
    .rename_i hk;subst hk;cases h;exact fun _ _ _ h=> h
    .cases h
   .cases h }
theorem Zwm{p:List (C U)}{c:C U}(h:WkL p [c]):∃ y,p=[y]/\Wk y c:=by
 cases p with
 | nil=> exact h.elim
 | cons y r=> cases r with
  | nil=> exact ⟨y,rfl,h.1⟩
  | cons z r=> exact h.2.elim
theorem Zt5{T:Ty}{x:C U}{l:List (El T)}{r:List (C U)}(h:rSl T [x]=some (l,r)):Wk x (sl T l):=by
 obtain ⟨p,u,s⟩:=Z2k T _ _ _ h
 obtain ⟨y,rfl,d⟩:=Zwm s
 grind
def aSl(T:Ty):Arg (List (El T)):=
 {get:=fun v=> match v with
   | .c x=> match rSl T [x] with
    | some (l,_)=> some l
    | none=> none
   | _=> none
  can:=fun l=> .c (sl T l)
  ok:=by
   intro cfg _ v a h
   split at h
   .split at h
    .rename_i l r hr
     cases h
     exact ZaD (Zt5 hr)
    .cases h
   .cases h }
def fs{α:Type}(A:ArgL α)(pre:α->List Prop)(res:α->V U):Fs U:=
 {fn:=fun xs X=> match X with
   | []=> match A.get xs with
    | some a=> some (pre a,res a,[])
    | none=> none
   | _ ::_=> none }
theorem Y7 {Γ:Known U} {α:Type} {A:ArgL α} {pre:α->List Prop} {res:α->V U} (ok:CfgOk P cfg) (henc:cfg.enc=enc) (hΓ:∀ f s,Γ f=some s->Contract P cfg f s) {f:FuncId} {fn:Func} (lv:Zc U)
  (hf : P.funcs[f]? = some fn) (hb : fn.body = some (cd fn [])) (hname : (fn.name == "runtime.NumGoroutine") = false) (hn : ∀ a, (A.can a).length ≤ fn.ntmps)
  (hbody:∀ a,All (pre a)->awp cfg Γ (Jf cfg Γ) fn.ntmps lv (cd fn []) (Zf (A.can a) []) (ZX cfg fn.ntmps fn.results.toList (res a) [])):Contract P cfg f (fs A pre res):=by
 refine Zbw ok hΓ (JP ok hΓ) lv hf hb hname ?_
 intro args X ps r X' d u
 unfold fs at d
 simp only at d
 split at d
 .split at d
  .rename_i a ha
   cases d
   obtain ⟨h1,h2⟩:=A.ok cfg henc args a ha
   exact ⟨A.can a,[],⟨h1,h2,rfl,fun k x y hx=> by simp at hx,fun k x y hx=> by simp at hx⟩,hn a,hbody a u⟩
  .cases d
 .cases d
def fsN{α:Type}(A:ArgL α)(pre:α->List Prop)(cs:α->List (C U)):Fs U:=
 {obj:=true
  fn:=fun xs X=> match X with
   | []=> match A.get xs with
    | some a=> some (pre a,.ptr (.x 0) 0,[cs a])
    | none=> none
   | _ ::_=> none }
theorem Zih {Γ:Known U} {α:Type} {A:ArgL α} {pre:α->List Prop} {cs:α->List (C U)} (ok:CfgOk P cfg) (henc:cfg.enc=enc) (hΓ:∀ f s,Γ f=some s->Contract P cfg f s) {f:FuncId} {fn:Func} (lv:Zc U)
  (hf : P.funcs[f]? = some fn) (hb : fn.body = some (cd fn [])) (hname : (fn.name == "runtime.NumGoroutine") = false) (hn : ∀ a, (A.can a).length ≤ fn.ntmps)
  (hbody:∀ a,All (pre a)->awp cfg Γ (Jf cfg Γ) fn.ntmps lv (cd fn []) (Zf (A.can a) []) (ZaG cfg fn.ntmps fn.results.toList [] (cs a))):Contract P cfg f (fsN A pre cs):=by
 refine Z9E ok hΓ (JP ok hΓ) lv hf hb hname ?_
 intro args X ps r X' d u
 unfold fsN at d
 simp only at d
 split at d
 .split at d
  .rename_i a ha
   cases d
   obtain ⟨h1,h2⟩:=A.ok cfg henc args a ha
   exact ⟨A.can a,[],[],cs a,rfl,rfl,⟨h1,h2,rfl,fun k x y hx=> by simp at hx,fun k x y hx=> by simp at hx⟩,hn a,hbody a u⟩
  .cases d
 .cases d
end Go.AM
namespace Go.AM
theorem ZDz{a b:Bool}:((bif a then true else b)=true)=(a=true\/b=true):=by grind
theorem Zmd{a b:Bool}:((bif a then b else false)=true)=(a=true/\b=true):=by grind
theorem ZyG{a b:Bool}:((bif a then true else b)=false)=(a=false/\b=false):=by grind
theorem ZyH{a b:Bool}:((bif a then b else false)=false)=(a=false\/b=false):=by grind
theorem vcS:(∀ {a b:Bool},((bif a then true else b)=true)=(a=true\/b=true))/\(∀ {a b:Bool},((bif a then b else false)=true)=(a=true/\b=true))/\
  (∀ {a b:Bool},((bif a then true else b)=false)=(a=false/\b=false))/\(∀ {a b:Bool},((bif a then b else false)=false)=(a=false\/b=false))/\
  (∀ (b:Bool),((!b)=true)=(b=false))/\(∀ (b:Bool),((!b)=false)=(b=true))/\(∀ {p:Prop} [Decidable p],(decide p=true)=p)/\(∀ {p:Prop} {_:Decidable p},decide p=false↔¬p)/\
  (∀ {α:Type} [BEq α] [LawfulBEq α] {a b:α},(a==b)=true↔a=b)/\(∀ {α:Type} [BEq α] [LawfulBEq α] {a b:α},(a==b)=false↔a≠b)/\
  (∀ {α:Type} [BEq α] [LawfulBEq α] {a b:α},(a !=b)=true↔a≠b)/\(∀ {α:Type} (a b:α),(a≠b)=¬a=b)/\(∀ {α:Type} [BEq α] [LawfulBEq α] {a b:α},(a !=b)=false↔a=b)/\
  (∀ (a b:Bool),((a || b)=true)=(a=true\/b=true))/\(∀ (a b:Bool),((a && b)=true)=(a=true/\b=true))/\(∀ {x y:Bool},(x || y)=false↔x=false/\y=false)/\(∀ {x y:Bool},(x && y)=false↔x=true->y=false):=
 ⟨ZDz,Zmd,ZyG,ZyH,QN,Xr,decide_eq_true_eq,decide_eq_false_iff_not,beq_iff_eq,beq_eq_false_iff_ne,bne_iff_ne,ne_eq,bne_eq_false_iff_eq,XM,Q4,QD,Bool.and_eq_false_imp⟩
abbrev Tr(p:Prop):Prop:=p->p
abbrev Tt(b:Bool):Prop:=Tr (b=true)
abbrev iB(b:Bool)(A B:Prop):Prop:=(b=true->A)/\(b=false->B)
theorem vE:type_of% (And.intro @Tree.eta (And.intro @Edit.eta (And.intro @Tree.kind_mk (And.intro @Tree.words_mk @Tree.kids_mk)))):=And.intro @Tree.eta (And.intro @Edit.eta (And.intro @Tree.kind_mk (And.intro @Tree.words_mk @Tree.kids_mk)))
theorem vcT:(∀ {p:Prop},Tr p=True)/\(∀ {p:Prop},(True/\p)=p)/\(∀ {p:Prop},(p/\True)=p)/\(∀ {p:Prop},(p->p)=True)/\(∀ {p:Prop},(True->p)=p)/\(∀ {p:Prop},(p->True)=True):=
 ⟨by simp,by simp,by simp,by simp,by simp,by simp⟩
end Go.AM
namespace Go.AM
variable {P:Program} {cfg:Cfg U}
def Zgg:List (FuncId × Fs U)->FuncId->Option (Fs U)
 | [],_=> none
 | (f,s) ::r,k=> bif Nat.beq k f then some s else Zgg r k
def Z1(l:List (FuncId × Fs U)):Known U:=⟨Zgg l,false,false⟩
def JT(l:List (FuncId × Fs U)):Known U:=⟨Zgg l,true,false⟩
def Z2z(l:List (FuncId × Fs U)):Known U:=⟨Zgg l,false,true⟩
def Z2B(P:Program)(cfg:Cfg U):List (FuncId × Fs U)->Prop
 | []=> True
 | (f,s) ::r=> Contract P cfg f s/\Z2B P cfg r
theorem Jn:∀ {l:List (FuncId × Fs U)},Z2B P cfg l->∀ f s,Zgg l f=some s->Contract P cfg f s
 | [],_,f,s,h=> by cases h
 | (f',s') ::r,hk,f,s,h=> by
  unfold Zgg at h
  cases e:Nat.beq f f' with
  | true=>
   rw [e] at h
   cases h
   rw [Qa e]
   exact hk.1
  | false=>
   rw [e] at h
   exact Jn hk.2 f s h
theorem Z0 {l:List (FuncId × Fs U)} {α:Type} {A:ArgL α} {pre:α->Prop} {res:α->V U} (ok:CfgOk P cfg) (henc:cfg.enc=enc) (hl:Z2B P cfg l) {f:FuncId} {fn:Func} (lv:Zc U)
  (hf : P.funcs[f]? = some fn) (hb : fn.body = some (cd fn [])) (hname : (fn.name == "runtime.NumGoroutine") = false) (n : Nat) (hn : ∀ a, (A.can a).length = n) (hn' : n ≤ fn.ntmps)
  (hbody:∀ a,pre a->awp cfg (Z1 l) (Jf cfg (Z1 l)) fn.ntmps lv (cd fn []) (Zf (A.can a) []) (ZX cfg fn.ntmps fn.results.toList (res a) [])):Contract P cfg f (fs A (fun a=> [pre a]) res):=
 Y7 ok henc (Jn hl) lv hf hb hname (fun a=> by rw [hn];exact hn') (fun a h=> hbody a h.1)
theorem ZeX {l:List (FuncId × Fs U)} {α:Type} {A:ArgL α} {pre:α->Prop} {res:α->V U} (ok:CfgOk P cfg) (henc:cfg.enc=enc) (hl:Z2B P cfg l) {f:FuncId} {fn:Func} (lv:Zc U)
  (hf : P.funcs[f]? = some fn) (hb : fn.body = some (cd fn [])) (hname : (fn.name == "runtime.NumGoroutine") = false) (n : Nat) (hn : ∀ a, (A.can a).length = n) (hn' : n ≤ fn.ntmps)
  (hbody:∀ a,pre a->awp cfg (JT l) (Jf cfg (JT l)) fn.ntmps lv (cd fn []) (Zf (A.can a) []) (ZX cfg fn.ntmps fn.results.toList (res a) [])):Contract P cfg f (fs A (fun a=> [pre a]) res):=
 Y7 ok henc (Jn hl) lv hf hb hname (fun a=> by rw [hn];exact hn') (fun a h=> hbody a h.1)
theorem ZeY {l:List (FuncId × Fs U)} {α:Type} {A:ArgL α} {pre:α->Prop} {cs:α->List (C U)} (ok:CfgOk P cfg) (henc:cfg.enc=enc) (hl:Z2B P cfg l) {f:FuncId} {fn:Func} (lv:Zc U)
  (hf : P.funcs[f]? = some fn) (hb : fn.body = some (cd fn [])) (hname : (fn.name == "runtime.NumGoroutine") = false) (n : Nat) (hn : ∀ a, (A.can a).length = n) (hn' : n ≤ fn.ntmps)
  (hbody:∀ a,pre a->awp cfg (Z1 l) (Jf cfg (Z1 l)) fn.ntmps lv (cd fn []) (Zf (A.can a) []) (ZaG cfg fn.ntmps fn.results.toList [] (cs a))):Contract P cfg f (fsN A (fun a=> [pre a]) cs):=
 Zih ok henc (Jn hl) lv hf hb hname (fun a=> by grind) (fun a h=> hbody a h.1)
theorem J0 {l:List (FuncId × Fs U)} {α:Type} {A:ArgL α} {pre:α->Prop} {μ:α->Nat} {res:α->V U} (ok:CfgOk P cfg) (henc:cfg.enc=enc) (hl:Z2B P cfg l) {f:FuncId} {fn:Func} (lv:Zc U)
  (hf : P.funcs[f]? = some fn) (hb : fn.body = some (cd fn [])) (hname : (fn.name == "runtime.NumGoroutine") = false) (n : Nat) (hn : ∀ a, (A.can a).length = n) (hn' : n ≤ fn.ntmps)
  (hbody:∀ N a,pre a->μ a < N+1->awp cfg (Z1 ((f,fs A (fun a=> [pre a,μ a < N]) res) ::l)) (Jf cfg (Z1 ((f,fs A (fun a=> [pre a,μ a < N]) res) ::l))) fn.ntmps lv (cd fn []) (Zf (A.can a) []) (ZX cfg fn.ntmps fn.results.toList (res a) [])):
  Contract P cfg f (fs A (fun a=> [pre a]) res):=by
 have u:∀ N,Contract P cfg f (fs A (fun a=> [pre a,μ a < N]) res):=by
  intro N
  induction N with
  | zero=>
   refine Jj ⟨fn,hf,by rw [hb];rfl,hname⟩ rfl ?_
   intro args X ps r X' d s
   exfalso
   unfold fs at d
   simp only at d
   split at d
   .split at d
    .cases d
     exact absurd s.2.1 V0
    .cases d
   .cases d
  | succ N ih=> exact Y7 (Γ:=Z1 ((f,fs A (fun a=> [pre a,μ a < N]) res) ::l)) ok henc (Jn ⟨ih,hl⟩) lv hf hb hname (fun a=> by grind) (fun a h=> hbody N a h.1 h.2.1)
 refine Jj (u 0).1 rfl ?_
 intro args X ps r X' d s
 unfold fs at d
 simp only at d
 split at d
 .split at d
  .rename_i a ha
   cases d
   have e:(fs A (fun x=> [pre x,μ x < μ a+1]) res).fn args []=some ([pre a,μ a < μ a+1],res a,[]):=by
    unfold fs
    simp only [ha]
   exact (u (μ a+1)).one rfl args [] _ _ [] e ⟨s.1,Kc _,trivial⟩
  .cases d
 .cases d
theorem Z1W {α : Type} {A : ArgL α} {pre : α → Prop} {μ : α → Nat} {res : α → V U} {f : FuncId} (h0 : ∃ fn, P.funcs[f]? = some fn ∧ fn.body.isSome = true ∧ (fn.name == "runtime.NumGoroutine") = false)
  (key:∀ N,Contract P cfg f (fs A (fun a=> [pre a,μ a < N]) res)):Contract P cfg f (fs A (fun a=> [pre a]) res):=by
 refine Jj h0 rfl ?_
 intro args X u r X' d h
 unfold fs at d
 simp only at d
 split at d
 .split at d
  .rename_i a s
   cases d
   have e:(fs A (fun x=> [pre x,μ x < μ a+1]) res).fn args []=some ([pre a,μ a < μ a+1],res a,[]):=by
    unfold fs
    simp only [s]
   exact (key (μ a+1)).one rfl args [] _ _ [] e ⟨h.1,Kc _,trivial⟩
  .cases d
 .cases d
theorem Z1V {α : Type} {A : ArgL α} {pre : α → Prop} {μ : α → Nat} {res : α → V U} {f : FuncId} (h0 : ∃ fn, P.funcs[f]? = some fn ∧ fn.body.isSome = true ∧ (fn.name == "runtime.NumGoroutine") = false) :
  Contract P cfg f (fs A (fun a=> [pre a,μ a < 0]) res):=by
 refine Jj h0 rfl ?_
 intro args X s r X' d h
 exfalso
 unfold fs at d
 simp only at d
 split at d
 .split at d
  .cases d
   exact absurd h.2.1 V0
  .cases d
 .cases d
theorem Z78 {l:List (FuncId × Fs U)} {α β:Type} {A:ArgL α} {B:ArgL β} {preA:α->Prop} {preB:β->Prop} {μA:α->Nat} {μB:β->Nat} {resA:α->V U} {resB:β->V U} (ok:CfgOk P cfg) (henc:cfg.enc=enc) (hl:Z2B P cfg l) {f f':FuncId} {fn fn':Func}
  (lv lv' : Zc U) (hf : P.funcs[f]? = some fn) (hf' : P.funcs[f']? = some fn') (hb : fn.body = some (cd fn [])) (hb' : fn'.body = some (cd fn' [])) (hname : (fn.name == "runtime.NumGoroutine") = false) (hname' : (fn'.name == "runtime.NumGoroutine") = false)
  (n n':Nat) (hn:∀ a,(A.can a).length=n) (hn':∀ a,(B.can a).length=n') (hle:n<=fn.ntmps) (hle':n'<=fn'.ntmps)
  (hbody:∀ N a,preA a->μA a < N+1->awp cfg (Z1 ((f,fs A (fun a=> [preA a,μA a < N]) resA) ::(f',fs B (fun a=> [preB a,μB a < N]) resB) ::l)) (Jf cfg (Z1 ((f,fs A (fun a=> [preA a,μA a < N]) resA) ::(f',fs B (fun a=> [preB a,μB a < N]) resB) ::l))) fn.ntmps lv (cd fn []) (Zf (A.can a) []) (ZX cfg fn.ntmps fn.results.toList (resA a) []))
  (hbody':∀ N a,preB a->μB a < N+1->awp cfg (Z1 ((f,fs A (fun a=> [preA a,μA a < N]) resA) ::(f',fs B (fun a=> [preB a,μB a < N]) resB) ::l)) (Jf cfg (Z1 ((f,fs A (fun a=> [preA a,μA a < N]) resA) ::(f',fs B (fun a=> [preB a,μB a < N]) resB) ::l))) fn'.ntmps lv' (cd fn' []) (Zf (B.can a) []) (ZX cfg fn'.ntmps fn'.results.toList (resB a) [])):
  Contract P cfg f (fs A (fun a=> [preA a]) resA)/\Contract P cfg f' (fs B (fun a=> [preB a]) resB):=by
 have u : ∃ fn, P.funcs[f]? = some fn ∧ fn.body.isSome = true ∧ (fn.name == "runtime.NumGoroutine") = false := ⟨fn, hf, by rw [hb]; rfl, hname⟩
 have s : ∃ fn, P.funcs[f']? = some fn ∧ fn.body.isSome = true ∧ (fn.name == "runtime.NumGoroutine") = false := ⟨fn', hf', by rw [hb']; rfl, hname'⟩
 have d:∀ N,Contract P cfg f (fs A (fun a=> [preA a,μA a < N]) resA)/\Contract P cfg f' (fs B (fun a=> [preB a,μB a < N]) resB):=by
  intro N
  induction N with
  | zero=> exact ⟨Z1V u,Z1V s⟩
  | succ N ih=>
   exact ⟨Y7 (Γ:=Z1 ((f,fs A (fun a=> [preA a,μA a < N]) resA) ::(f',fs B (fun a=> [preB a,μB a < N]) resB) ::l)) ok henc (Jn ⟨ih.1,ih.2,hl⟩) lv hf hb hname (fun a=> by grind) (fun a h=> hbody N a h.1 h.2.1),
    Y7 (Γ:=Z1 ((f,fs A (fun a=> [preA a,μA a < N]) resA) ::(f',fs B (fun a=> [preB a,μB a < N]) resB) ::l)) ok henc (Jn ⟨ih.1,ih.2,hl⟩) lv' hf' hb' hname' (fun a=> by grind) (fun a h=> hbody' N a h.1 h.2.1)⟩
 exact ⟨Z1W u fun N=> (d N).1,Z1W s fun N=> (d N).2⟩
end Go.AM
namespace Go.AM
mutual
def ZD:Tree->Int->Int->Int
 | .mk _ w ks,d,l=> if d=0\/l - 1 - w.length < 0 then -1 else Zu ks (d - 1) (l - 1 - w.length)
def Zu:List Tree->Int->Int->Int
 | [],_,l=> l
 | t ::r,d,l=> if l < 0 then l else Zu r d (ZD t d l)
end
mutual
def Zj:Tree->Nat
 | .mk _ w ks=> 1+w.length+Zd ks
def Zd:List Tree->Nat
 | []=> 0
 | t ::r=> Zj t+Zd r
end
mutual
def Z2J:Tree->Prop
 | .mk _ w ks=> w.length<=17592186044416/\ks.length<=17592186044416/\Z2Y ks
def Z2Y:List Tree->Prop
 | []=> True
 | t ::r=> Z2J t/\Z2Y r
end
def trim:List Int->List Int
 | []=> []
 | x ::r=> match trim r with
  | []=> if x=0 then [] else [x]
  | y ::s=> x ::y ::s
def Y3:List Tree->List Tree
 | []=> []
 | x ::r=> match Y3 r with
  | []=> if x.kind=0 then [] else [x]
  | y ::s=> x ::y ::s
mutual
def Z3:Tree->Tree
 | .mk k w ks=> if k=0 then Tree.nil else if k=1 then .mk 1 (trim w) (Y3 (Yd ks)) else .mk k w (Yd ks)
def Yd:List Tree->List Tree
 | []=> []
 | t ::r=> Z3 t ::Yd r
end
open Classical in
noncomputable def ZY(a b:Tree):Bool:=decide (a=b)
def Jy(t:Tree)(i:Int):Int:=if i < 0 then 0 else t.words.getD i.toNat 0
def JK(t:Tree)(i:Int):Tree:=if i < 0 then Tree.nil else t.kids.getD i.toNat Tree.nil
mutual
def rng:Tree->Prop
 | .mk k w ks=> (-9223372036854775808<=k/\k<=9223372036854775807)/\(∀ x∈w,0<=x/\x < 18446744073709551616)/\Y6 ks
def Y6:List Tree->Prop
 | []=> True
 | t ::r=> rng t/\Y6 r
end
def wd(c:Int):Int:=if c=0 then 0 else if c=1 then 1 else if c=2 then 8 else if c=3 then 16 else if c=4 then 32 else if c=5 then 64 else -1
def Zie(c n:Int):Bool:=decide (0<=wd c/\n < 2 ^ (wd c).toNat)
def Z1x(list:Int)(t:Tree):Bool:=
 if 2<=list/\list<=7 then decide (t.kind=10/\t.kids.length=0/\t.words.length=1) && Zie (list - 2) (t.words.getD 0 0)
 else if list=9 then decide (t.kind=1) else decide (t.kind≠10)
mutual
def Zb:Tree->Int->Bool
 | .mk k w ks,d=>
  if k=0 then decide (w.length=0/\ks.length=0)
  else if k=10 then decide (w.length=1/\ks.length=0)
  else if d=0 then false
  else if k=1 then decide (w.length < 65536/\ks.length < 65536) && Y2 1 ks (d - 1)
  else decide (2<=k/\k<=9/\w.length=0/\ks.length < 1048576) && Y2 k ks (d - 1)
def Y2(list:Int):List Tree->Int->Bool
 | [],_=> true
 | t ::r,d=> (Z1x list t && Zb t d) && Y2 list r d
end
end Go.AM
