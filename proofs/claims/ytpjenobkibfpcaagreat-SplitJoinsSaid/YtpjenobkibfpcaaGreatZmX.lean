import Derived.Test.YtpjenobkibfpcaaGreatZmK
import Derived.Still
import Derived.Carry
import Derived.SizedLaws
import Derived.ChangeSame
set_option linter.unusedSimpArgs false
set_option linter.unusedVariables false
namespace Go.AM
variable {U:Uni} {P:Program} {cfg:Cfg U} {B:Base} {st:FSt U} {g:Gh} {a:Act} {w:World}
def Z8l:Nat->List (V U)->List (Nat × V U)
 | _,[]=> []
 | i,v ::r=> (i,v) ::Z8l (i+1) r
def Z8k:Nat->List (List (C U))->List (Name × List (C U))
 | _,[]=> []
 | k,cs ::r=> (.x k,cs) ::Z8k (k+1) r
def Z2i(args:List (V U))(X:List (List (C U)))(L:List (Tok × LC U)):LSt U:={ env:=Z8l 0 args,mem:=Z8k 0 X,ls:=L }
def Zm(args:List (V U))(X:List (List (C U))):LSt U:=Z2i args X []
def Z2N:Tok->Bool:=fun _=> true
def ZdD(cfg:Cfg U)(st:FSt U):ResultVar->Option (Bool × List (C U))
 | .tmp t=> match st.env t with
  | .c x=> some (false,[x])
  | .agg cs=> some (true,cs)
  | _=> none
 | .cell t ty=> match cfg.var ty with
  | some (ag,zs)=> match rd st (st.env t) ag zs.length with
   | some (.c x)=> some (false,[x])
   | some (.agg cs)=> some (true,cs)
   | _=> none
  | none=> none
def ZaJ(cfg:Cfg U)(st:FSt U):List ResultVar->Option (List (Bool × List (C U)))
 | []=> some []
 | r ::rs=> match ZdD cfg st r,ZaJ cfg st rs with
  | some x,some l=> some (x ::l)
  | _,_=> none
def Z6D(i:Nat):List (Bool × List (C U))->List (Tok × Tok)->List (Bool × List (C U)) × List (Tok × Tok)
 | [],seen=> ([],seen)
 | (ag,cs) ::r,seen=> ((ag,(JX Z2N (fun j=> .r 0 (16*i+j)) 0 cs seen).1) ::(Z6D (i+1) r (JX Z2N (fun j=> .r 0 (16*i+j)) 0 cs seen).2).1,
   (Z6D (i+1) r (JX Z2N (fun j=> .r 0 (16*i+j)) 0 cs seen).2).2)
def Zxp:Tail->Tail->Prop
 | _,.unk=> True
 | .full,_=> True
 | .own t,.own t'=> t=t'
 | _,_=> False
def leC(cfg:Cfg U):C U->C U->Prop
 | .int k n,.int k' n'=> k=k'/\n=n'
 | .bool b,.bool b'=> b=b'
 | .nils,.nils=> True
 | .nils,.slice _ l _=> l=[]
 | .nilp,.nilp=> True
 | .nilp,.po _ o=> o=none
 | .po T o,.po T' o'=> match cfg.tyEq T T' with
  | isTrue h=> h▸o=o'
  | isFalse _=> False
 | .slice T l tl,.slice T' l' tl'=> match cfg.tyEq T T' with
  | isTrue h=> h▸l=l'/\Zxp tl tl'
  | isFalse _=> False
 | .mref t,.mref t'=> t=t'
 | .xp k,.xp k'=> k=k'
 | _,_=> False
def leL(cfg:Cfg U):List (C U)->List (C U)->Prop
 | [],[]=> True
 | c ::r,c' ::r'=> leC cfg c c'/\leL cfg r r'
 | _,_=> False
def leR(cfg:Cfg U):List (Bool × List (C U))->List (Bool × List (C U))->Prop
 | [],[]=> True
 | (b,cs) ::r,(b',cs') ::r'=> b=b'/\leL cfg cs cs'/\leR cfg r r'
 | _,_=> False
def ZhF:V U->Option (List (Bool × List (C U)))
 | .c x=> some [(false,[x])]
 | .agg cs=> some [(true,cs)]
 | .tup ws=> if ws.length=1 then none else some ws
 | _=> none
def ZK5(cfg:Cfg U)(x y:LC U):Prop:=
 match cfg.tyEq x.T y.T with
 | isTrue h=> h▸x.l=y.l/\x.f=y.f
 | isFalse _=> False
def ZkB(cfg:Cfg U)(ls:List (Tok × LC U))(seen:List (Tok × Tok)):List (Tok × LC U)->Prop
 | []=> True
 | (t,y) ::r=> (match Z2d seen t with
  | some u=> JF seen u=some t/\match ZL (fun _=> none) ls u with
   | some x=> ZK5 cfg x y
   | none=> False
  | none=> False)/\ZkB cfg ls seen r
def ZvY(cfg:Cfg U)(mem:List (Name × List (C U)))(ls:List (Tok × LC U))(L:List (Tok × LC U)):(k:Nat)->List (List (C U))->List (Tok × Tok)->Prop
 | _,[],seen=> ZkB cfg ls seen L
 | k,cs' ::r,seen=> match Z5V mem (.x k) with
  | some cs=> leL cfg (Z2r Z2N (.x k) 0 [] cs seen).1 cs'/\ZvY cfg mem ls L (k+1) r (Z2r Z2N (.x k) 0 [] cs seen).2
  | none=> False
def ZkC(cfg:Cfg U)(n:Nat)(rs:List ResultVar)(r:V U)(X:List (List (C U)))(L:List (Tok × LC U))(s:LSt U):Prop:=
 match ZaJ cfg (s.toF n) rs,ZhF r with
 | some ws,some ws'=> leR cfg (Z6D 0 ws []).1 ws'/\ZvY cfg s.mem s.ls L 0 X (Z6D 0 ws []).2
 | _,_=> False
def ZHZ(cfg:Cfg U)(n:Nat)(rs:List ResultVar)(r:V U)(X:List (List (C U)))(s:LSt U):Prop:=ZkC cfg n rs r X [] s
def Z5p(cfg:Cfg U)(n:Nat)(rs:List ResultVar)(r:V U)(X:List (List (C U)))(L:List (Tok × LC U))(e:AExit)(s:LSt U):Prop:=
 match e with
 | .exit _=> False
 | _=> ZkC cfg n rs r X L s
def YZ(cfg:Cfg U)(n:Nat)(rs:List ResultVar)(r:V U)(X:List (List (C U)))(e:AExit)(s:LSt U):Prop:=
 match e with
 | .exit _=> False
 | _=> ZHZ cfg n rs r X s
theorem ZoV{ls:List (Tok × LC U)}{seen:List (Tok × Tok)}{g2:Gh}(h:Rel cfg B st g a w)(hls:∀ t,st.ls t=ZL (fun _=> none) ls t)(hr:Ren (fun _=> true) g seen g2):∀ {L:List (Tok × LC U)},ZkB cfg ls seen L->
  ∀ t x,ZL (fun _=> none) L t=some x->LRel cfg w g2 t x
 | [],_,t,x,hx=> by trivial
 | (t0,y) ::L,hE,t,x,hx=> by
  obtain ⟨h1,h2⟩:=hE
  simp only [ZL] at hx
  split at hx
  .rename_i e
   subst e
   cases hx
   split at h1
   case h_2=> exact h1.elim
   rename_i u hu
   obtain ⟨h3,d⟩:=h1
   split at d
   case h_2=> exact d.elim
   rename_i x ae
   unfold ZK5 at d
   split at d
   case h_2=> exact d.elim
   rename_i hT _
   obtain ⟨T,l,f⟩:=x
   obtain ⟨T',l',f'⟩:=y
   simp only at hT
   subst hT
   obtain ⟨h5,h6⟩:=d
   simp only at h5 h6
   subst h5 h6
   obtain ⟨_,hL⟩:=h.ls u _ ((hls u).trans ae)
   have s:∀ c,g.tag c=some (.tok u)->g2.tag c=some (.tok t):=fun c hc=> hr.tok c u t hc h3
   rcases hL with ⟨e1,e2⟩ | ⟨b,len,cap,e1,e2,e3,e4,e5,e6⟩
   .exact .inl ⟨hr.bs _ _ _ rfl hu e1,e2⟩
   .refine .inr ⟨b,len,cap,hr.bs _ _ _ rfl hu e1,e2,e3,e4,fun i y hy j c hc=> ?_,fun j a1 a2=> s _ (e6 j a1 a2)⟩
    obtain ⟨v,e7,e8,e9,ab⟩:=e5 i y hy j c hc
    exact ⟨v,e7,by rw [hr.m];exact e8,fun hi=> by rw [hr.m];exact e9 hi,fun hi=> s _ (ab hi)⟩
  .exact ZoV h hls hr h2 t x hx
theorem Zzz{g:Gh}{v:Value}{c c':C U}(h:leC cfg c c')(hr:RelC cfg g Yf v c):RelC cfg g Yf v c':=by
 cases c <;> cases c' <;> simp only [leC] at h
 case int.int k n k' n'=> obtain ⟨rfl,rfl⟩:=h;exact hr
 case bool.bool=> subst h;exact hr
 case nils.nils=> exact hr
 case nilp.nilp=> exact hr
 case nilp.po T o=>
  subst h
  have d:=hr.1
  cases d
  exact ⟨.pnil T,trivial⟩
 case po.po T o T' o'=>
  split at h
  .rename_i hT _
   subst hT
   simp only at h
   subst h
   exact hr
  .exact h.elim
 case mref.mref t t'=> subst h;exact hr
 case xp.xp k k'=> subst h;exact hr
 case nils.slice T l tl=>
  subst h
  have d:=hr.1
  cases d
  refine ⟨.snil T tl,?_⟩
  cases tl with
  | unk=> trivial
  | full=> intro a len s hv;simp at hv;omega
  | own t=> intro _ a len s hv;simp at hv
 case slice.slice T l tl T' l' tl'=>
  split at h
  .rename_i hT _
   subst hT
   obtain ⟨d,h2⟩:=h
   simp only at d
   subst d
   refine ⟨hr.1.tl _,?_⟩
   cases tl' with
   | unk=> trivial
   | full=> cases tl <;> simp only [Zxp] at h2;exact hr.2
   | own t'=>
    cases tl with
    | unk=> exact h2.elim
    | full=>
     intro _ b len s hv j h3 h4
     have:=hr.2 _ _ _ hv
     subst this
     omega
    | own t=> have:t=t':=h2;subst this;exact hr.2
  .exact h.elim
theorem Zqb{g:Gh}:∀ {vs:List Value} {cs cs':List (C U)},leL cfg cs cs'->RelL cfg g Yf vs cs->RelL cfg g Yf vs cs'
 | vs,[],[],_,hr=> hr
 | vs,c ::cs,c' ::cs',h,hr=> by
  obtain ⟨h1,h2⟩:=h
  match vs,hr with
  | v ::vs,hr=>
   have h3:=Zqb (vs:=vs) h2 ⟨by simpa using hr.1,fun j v' c s hc=> hr.2 (j+1) v' c (by simpa using s) (by simpa using hc)⟩
   refine ⟨by simp [h3.1],fun j v' d s hd=> ?_⟩
   cases j with
   | zero=> simp at s hd;subst s hd;exact Zzz h1 (hr.2 0 _ _ rfl rfl)
   | succ j=> exact h3.2 j v' d (by simpa using s) (by simpa using hd)
  | [],hr=> have:=hr.1;simp at this
theorem ZGP{g:Gh}{v:Value}{ag:Bool}{cs cs':List (C U)}(h:leL cfg cs cs')(hr:RelW cfg g Yf v ag cs):RelW cfg g Yf v ag cs':=by
 cases ag with
 | true=> obtain ⟨vs,s,d⟩:=hr;exact ⟨vs,s,Zqb h d⟩
 | false=>
  obtain ⟨c,rfl,d⟩:=hr
  match cs',h with
  | [c'],h=> exact ⟨c',rfl,Zzz h.1 d⟩
def RelWs(cfg:Cfg U)(g:Gh)(dead:Tok->Bool)(vs:List Value)(ws:List (Bool × List (C U))):Prop:=
 vs.length=ws.length/\∀ (j:Nat) u w,vs[j]?=some u->ws[j]?=some w->RelW cfg g dead u w.1 w.2
theorem RelWs.cons{g:Gh}{dead:Tok->Bool}{v:Value}{w:Bool × List (C U)}{vs:List Value}{ws:List (Bool × List (C U))}(h:RelW cfg g dead v w.1 w.2)(hs:RelWs cfg g dead vs ws):RelWs cfg g dead (v ::vs) (w ::ws):=by
 refine ⟨by simp [hs.1],fun j u x s d=> ?_⟩
 cases j with
 | zero=> grind
 | succ j=> exact hs.2 j u x (by simpa using s) (by simpa using d)
theorem RelWs.uncons{g:Gh}{dead:Tok->Bool}{vs:List Value}{w:Bool × List (C U)}{ws:List (Bool × List (C U))}(h:RelWs cfg g dead vs (w ::ws)):∃ v r,vs=v ::r/\RelW cfg g dead v w.1 w.2/\RelWs cfg g dead r ws:=by
 match vs,h with
 | v ::r,h=> exact ⟨v,r,rfl,h.2 0 _ _ rfl rfl,by simpa using h.1,fun j u x s d=> h.2 (j+1) u x (by simpa using s) (by simpa using d)⟩
 | [],h=> have:=h.1;simp at this
theorem Zzy{g:Gh}:∀ {vs:List Value} {ws ws':List (Bool × List (C U))},leR cfg ws ws'->RelWs cfg g Yf vs ws->RelWs cfg g Yf vs ws'
 | vs,[],[],_,hr=> hr
 | vs,(b,cs) ::ws,(b',cs') ::ws',h,hr=> by
  obtain ⟨rfl,h1,d⟩:=h
  obtain ⟨v,r,rfl,s,h4⟩:=hr.uncons
  exact .cons (ZGP h1 s) (Zzy d h4)
theorem ZjF(hd:∀ t,Z2N t=true->st.dead t=false):∀ (ws:List (Bool × List (C U))) (i:Nat) (seen:List (Tok × Tok)),
  Ext seen (Z6D i ws seen).2/\∀ s',Ext (Z6D i ws seen).2 s'->∀ s,Ren (fun _=> true) g s' s->∀ vs,RelWs cfg g st.dead vs ws->RelWs cfg s Yf vs (Z6D i ws seen).1
 | [],i,seen=> ⟨.refl _,fun s' _ s _ vs h=> ⟨h.1,fun j u w _ hw=> by trivial⟩⟩
 | (ag,cs) ::ws,i,seen=> by
  obtain ⟨h3,h4,h5⟩:=Z8S (cfg:=cfg) (g:=g) (okT:=fun _=> true) (mine:=Z2N) (nm:=fun j=> .r 0 (16*i+j)) hd (fun _=> rfl) cs 0 seen
  obtain ⟨h6,h7⟩:=ZjF hd ws (i+1) (JX Z2N (fun j=> .r 0 (16*i+j)) 0 cs seen).2
  refine ⟨h3.trans h6,fun s' hs s hg vs h=> ?_⟩
  obtain ⟨v,r,rfl,h8,h9⟩:=h.uncons
  refine .cons ?_ (h7 s' hs s hg r h9)
  have hL:∀ us,RelL cfg g st.dead us cs->RelL cfg s Yf us (JX Z2N (fun j=> .r 0 (16*i+j)) 0 cs seen).1:=fun us hu=>
   ⟨by rw [h4];exact hu.1,fun j u c af hc=> by
    have hj:j < cs.length:=by have:=(Q5.1 hc).1;omega
    exact h5 s' (h6.trans hs) s hg j u _ c (Q4 hj) hc (hu.2 j u _ af (Q4 hj))⟩
  cases ag with
  | true=> obtain ⟨us,d,ab⟩:=h8;exact ⟨us,d,hL _ ab⟩
  | false=>
   obtain ⟨c,d,ab⟩:=h8
   simp only at d
   subst d
   have:=hL [v] ⟨rfl,fun j u c hu hc=> by
    grind⟩
   simp only [JX] at this ⊢
   exact ⟨_,rfl,this.2 0 _ _ rfl rfl⟩
theorem Zud(h:Rel cfg B st g a w)(hdead:st.dead=Yf){mem:List (Name × List (C U))}(hm:∀ nm,st.mem nm=Z5V mem nm){ls L:List (Tok × LC U)}:∀ (X:List (List (C U))) (k:Nat) (seen:List (Tok × Tok)),ZvY cfg mem ls L k X seen->
  ∃ s',Ext seen s'/\ZkB cfg ls s' L/\∀ s2,Ext s' s2->∀ d,RenA (fun _=> true) g s2 d->∀ (i:Nat) cs,X[i]?=some cs->∀ (j:Nat) c,cs[j]?=some c->∃ v,w.cell? ((g.ad (.x (k+i))).add j)=some v/\g.tag ((g.ad (.x (k+i))).add j)=some (.obj (.x (k+i)))/\RelC cfg d Yf v c
 | [],k,seen,hx=> ⟨seen,.refl _,hx,fun s2 _ d _ i cs hi=> by simp at hi⟩
 | cs' ::X,k,seen,hx=> by
  simp only [ZvY] at hx
  split at hx
  .rename_i cs ak
   obtain ⟨h1,h2⟩:=hx
   have hd:∀ t,Z2N t=true->st.dead t=false:=fun t _=> by rw [hdead];try rfl
   obtain ⟨h3,h4,h5⟩:=Z8Z (cfg:=cfg) (g:=g) (okT:=fun _=> true) (mine:=Z2N) (nm:= .x k) hd (fun _=> rfl) cs 0 [] seen
   obtain ⟨s',h6,aj,h7⟩:=Zud h hdead hm X (k+1) _ h2
   refine ⟨s',h3.trans h6,aj,fun s2 hs d hg i av hi j c hj=> ?_⟩
   cases i with
   | zero=>
    simp at hi
    subst hi
    have af:st.mem (.x k)=some cs:=by rw [hm];exact ak
    let f:Nat->Value:=fun j=> (w.cell? ((g.ad (.x k)).add j)).getD undef
    have hf:∀ j c,cs[j]?=some c->w.cell? ((g.ad (.x k)).add j)=some (f j)/\g.tag ((g.ad (.x k)).add j)=some (.obj (.x k))/\RelC cfg g st.dead (f j) c:=fun j c hc=> by
     obtain ⟨v,h8,h9,ax⟩:=h.mem _ _ af j c hc
     grind
    have hR:RelL cfg d Yf ((List.range cs.length).map f) (Z2r Z2N (.x k) 0 [] cs seen).1:=by
     have al:=RelL.of_get (cfg:=cfg) (g:=g) (st:=st) (f:=f) (fun j c hc=> (hf j c hc).2.2)
     refine ⟨by grind,fun j u c hu hc=> ?_⟩
     have hj:j < cs.length:=by have:=(Q5.1 hc).1;omega
     exact h5 s2 (h6.trans hs) d hg j u _ c (Q4 hj) hc (al.2 j u _ hu (Q4 hj))
    have aa:=Zqb h1 hR
    have s:j < cs.length:=by have ao:=(Q5.1 hj).1;have:=aa.1;simp at this;omega
    obtain ⟨a1,a3,_⟩:=hf j _ (Q4 s)
    refine ⟨f j,V1,V1,aa.2 j _ c (by simp [s]) hj⟩
   | succ i=>
    grind
  grind
theorem Zig:∀ (args:List (V U)) (i k:Nat),Zj1 (Z8l i args) k=if i<=k then (args[k - i]?).getD .junk else .junk
 | [],i,k=> by simp [Z8l,Zj1]
 | v ::args,i,k=> by
  simp only [Z8l,Zj1]
  cases hk:Nat.beq i k with
  | true=>
   simp_all
  | false=>
   have d:i≠k:=fun e=> by simp_all
   simp only [cond_false]
   rw [Zig args (i+1) k]
   grind
theorem Z4X:∀ (X:List (List (C U))) (k:Nat) (nm:Name),Z5V (Z8k k X) nm=match nm with | .x i=> if k<=i then X[i - k]? else none | .loc _=> none
 | [],k,nm=> by cases nm <;> simp [Z8k,Z5V]
 | cs ::X,k,nm=> by
  simp only [Z8k,Z5V]
  cases nm with
  | loc s=> simp [Z4X X (k+1) (.loc s)]
  | x i=>
   by_cases h:k=i
   .subst h;simp
   .rw [if_neg (fun e=> by grind),Z4X X (k+1) (.x i)]
    grind
theorem ZuG(ok:CfgOk P cfg)(h:Rel cfg B st g a w){rv:ResultVar}{x:Bool × List (C U)}(he:ZdD cfg st rv=some x):
  ∃ v,(match rv with | .tmp t=> pure (a.tmps.getD t undef) | .cell t ty=> do loadVar ty (<-asAddr (a.tmps.getD t undef)):Sem Value).run P w= .ok v w/\RelW cfg g st.dead v x.1 x.2:=by
 cases rv with
 | tmp t=>
  have d:=h.env t
  simp only [ZdD] at he
  split at he <;> simp only [Option.some.injEq,reduceCtorEq] at he
  .rename_i c hc;rw [hc] at d;subst he;exact ⟨_,rfl,c,rfl,d⟩
  .rename_i cs hc;rw [hc] at d;subst he;exact ⟨_,rfl,d⟩
 | cell t ty=>
  have d:=h.env t
  simp only [ZdD] at he
  split at he
  .rename_i ag zs hv
   cases hrd:rd st (st.env t) ag zs.length with
   | none=> grind
   | some y=>
    obtain ⟨v,h1,h2⟩:=Zhl (w:=w) ok h hv d hrd
    refine ⟨v,?_,?_⟩
    .have hp:∃ b,a.tmps.getD t undef= .pointer (some b):=by
      cases hx:st.env t with
      | ptr nm off=> rw [hx] at d;exact ⟨_,d.2⟩
      | ep cs=> rw [hx] at d;obtain ⟨b,s,_⟩:=d;grind
      | ap nm off k len i=> rw [hx] at d;exact ⟨_,d.2.2⟩
      | _=> rw [hx] at hrd;simp [rd] at hrd
     obtain ⟨b,s⟩:=hp
     rw [s] at h1
     show (do let x <-asAddr (a.tmps.getD t undef);loadVar ty x:Sem Value).run P w=_
     rw [s]
     trivial
    .rw [hrd] at he
     cases y <;> simp only [Option.some.injEq,reduceCtorEq] at he
     .subst he;exact ⟨_,rfl,h2⟩
     .subst he;exact h2
  .cases he
theorem ZjG(ok:CfgOk P cfg)(h:Rel cfg B st g a w):∀ {rs:List ResultVar} {ws:List (Bool × List (C U))},ZaJ cfg st rs=some ws->
  ∃ vs,(rs.mapM fun s=> (match s with | .tmp t=> pure (a.tmps.getD t undef) | .cell t ty=> do loadVar ty (<-asAddr (a.tmps.getD t undef)):Sem Value)).run P w= .ok vs w/\RelWs cfg g st.dead vs ws
 | [],ws,he=> by
  simp only [ZaJ,Option.some.injEq] at he
  subst he
  exact ⟨[],by simp,rfl,fun j u w hu=> by simp at hu⟩
 | r ::rs,ws,he=> by
  simp only [ZaJ] at he
  split at he
  .rename_i x l hx hl
   simp only [Option.some.injEq] at he
   subst he
   obtain ⟨v,h1,d⟩:=ZuG (w:=w) ok h hx
   obtain ⟨vs,h3,h4⟩:=ZjG ok h hl
   refine ⟨v ::vs,?_,.cons d h4⟩
   simp_all
  .cases he
theorem ZuR{g:Gh}{live:Name->Bool}{r:V U}{ws:List (Bool × List (C U))}{vs:List Value}(hp:ZhF r=some ws)(h:RelWs cfg g Yf vs ws):
  RelV cfg g Yf live (if hs:vs.toArray.size=1 then vs.toArray[0] else .tuple vs.toArray) r:=by
 cases r <;> simp only [ZhF,Option.some.injEq,reduceCtorEq] at hp
 case c x=>
  subst hp
  obtain ⟨v,r,rfl,s,d⟩:=h.uncons
  have:r=[]:=Q3 (by simpa using d.1)
  subst this
  obtain ⟨c,hc,hr⟩:=s
  cases hc
  exact hr
 case agg cs=>
  subst hp
  obtain ⟨v,r,rfl,s,d⟩:=h.uncons
  have:r=[]:=Q3 (by simpa using d.1)
  subst this
  exact s
 case tup ws'=>
  split at hp
  .cases hp
  .rename_i hl
   simp only [Option.some.injEq] at hp
   subst hp
   have aa:vs.toArray.size≠1:=by have:=h.1;simpa [this] using hl
   rw [dif_neg aa]
   exact ⟨_,rfl,by simpa using h.1,fun j u w hu hw=> h.2 j u w (by simpa using hu) hw⟩
def Zgh(cfg:Cfg U)(a b:C U):Prop:=∀ g v,RelC cfg g Yf v a->RelC cfg g Yf v b
def ZiQ(cfg:Cfg U)(a b:V U):Prop:=∀ g live v,RelV cfg g Yf live v a->RelV cfg g Yf live v b
structure BetterAll (cfg:Cfg U) (args args':List (V U)) (X X':List (List (C U))):Prop where
 len:args.length=args'.length
 args:∀ (j:Nat) x y,args[j]?=some x->args'[j]?=some y->ZiQ cfg x y
 xlen:X.length=X'.length
 xl:∀ (k:Nat) x y,X[k]?=some x->X'[k]?=some y->x.length=y.length
 x:∀ (k:Nat) x y,X[k]?=some x->X'[k]?=some y->∀ (j:Nat) c c',x[j]?=some c->y[j]?=some c'->Zgh cfg c c'
theorem Entry.better{w:World}{g:Gh}{vs:List Value}{args args':List (V U)}{X X':List (List (C U))}{L L':List (Tok × LC U)}(h:Entry cfg w g vs args X L)(b:BetterAll cfg args args' X X')(hL:∀ t x,ZL (fun _=> none) L' t=some x->ZL (fun _=> none) L t=some x):Entry cfg w g vs args' X' L':=by
 refine ⟨h.inv,h.tags,h.len.trans b.len,fun j v y hv hy=> ?_,fun k cs hk j c hj=> ?_,h.bs,fun t x d=> h.ls t x (hL t x d)⟩
 .have hj:j < args.length:=by have:=(Q5.1 hy).1;have:=b.len;omega
  have d:=Q4 hj
  have:=b.args j _ y d hy g _ v (h.args j v _ hv d)
  have hl:Zcx X'=Zcx X:=by
   funext nm
   cases nm with
   | loc s=> rfl
   | x k=>
    have ah:=b.xlen
    show (X'[k]?).isSome=(X[k]?).isSome
    grind
  grind
 .have af:k < X.length:=by have:=(Q5.1 hk).1;have:=b.xlen;omega
  have d:=Q4 af
  have ab:j < (X[k]).length:=by have:=(Q5.1 hj).1;have:=b.xl k _ _ d hk;omega
  have hc:=Q4 ab
  obtain ⟨v,h1,h2,h3⟩:=h.x k _ d j _ hc
  exact ⟨v,h1,h2,b.x k _ _ d hk j _ c hc hj g v h3⟩
theorem BetterAll.refl(args:List (V U))(X:List (List (C U))):BetterAll cfg args args X X:=
 ⟨rfl,fun j x y hx d=> by rw [hx] at d;cases d;exact fun _ _ _ h=> h,rfl,fun k x y hx d=> by grind,
  fun k x y hx d j c c' hc s=> by rw [hx] at d;cases d;rw [hc] at s;cases s;exact fun _ _ h=> h⟩
theorem ZqK {Γ:Known U} {draws:Array Oper->FSt U->Bool} (ok:CfgOk P cfg) (hΓ:∀ f s,Γ f=some s->Contract P cfg f s) (hdr:Zdl P cfg Γ draws) {f:FuncId} {fn:Func} {c:Code} (lv:Zj U)
  (hf:P.funcs[f]?=some fn) (hb:fn.body=some c) {args:List (V U)} {X:List (List (C U))} {L:List (Tok × LC U)} {w:World} {g:Gh} {vs:List Value} (E:Entry cfg w g vs args X L) (hn:args.length<=fn.ntmps) {Q:AExit->LSt U->Prop}
  (hawp:awp cfg Γ draws fn.ntmps lv c (Z2i args X L) Q) {R:Ending->World->Prop}
  (hq:∀ e' s' g' a' d,Q e' s'->Rel cfg ⟨w,g.m,g.tag,fun k=> g.ad (.x k)⟩ (s'.toF fn.ntmps) g' a' d->(∀ id,e'≠.exit id)/\a'.defers=[]/\∃ v,(results fn a'.tmps).run P d= .ok v d/\R (.returned v) d):Calls P f vs.toArray w R:=by
 let B:Base:=⟨w,g.m,g.tag,fun k=> g.ad (.x k)⟩
 have ar:vs.length<=fn.ntmps:=by rw [E.len];exact hn
 have ab:Rel cfg B ((Z2i args X L).toF fn.ntmps) g { tmps:=vs.toArray++Array.replicate (fn.ntmps - vs.toArray.size) undef,defers:=[] } w:=by
  refine ⟨E.inv,⟨⟨rfl,rfl,rfl,Q9 _⟩,fun _=> rfl,fun _ _ h=> h,fun c t h=> ⟨h,rfl⟩,fun c t h=> h,fun b _ _=> ⟨rfl,fun _ _=> rfl⟩,fun _ _=> rfl⟩,?_,?_,?_,rfl,fun t x hx=> ⟨rfl,E.ls t x hx⟩,fun t ht _ _=> E.bs t ht⟩
  .intro k
   have hl:(fun nm:Name=> (((Z2i args X L).toF fn.ntmps).mem nm).isSome)=Zcx X:=by
    funext nm
    simp only [LSt.toF,Z2i,Z4X]
    cases nm <;> simp [Zcx]
   rw [hl]
   simp only [LSt.toF,Z2i,Zig,K8,if_true,Nat.sub_zero]
   cases hx:args[k]? with
   | none=> exact trivial
   | some x=>
    have hk:k < vs.length:=by rw [E.len];exact (Q5.1 hx).1
    have hv:vs[k]?=some vs[k]:=Q4 hk
    have:=E.args k _ x hv hx
    have hg:(vs.toArray++Array.replicate (fn.ntmps - vs.toArray.size) undef).getD k undef=vs[k]:=by
     simp [Array.getD,hk]
     intro h;omega
    grind
  .intro nm cs hm j c hc
   simp only [LSt.toF,Z2i,Z4X] at hm
   cases nm with
   | loc s=> simp at hm
   | x k=>
    simp at hm
    exact E.x k cs hm j c hc
  .simp only [LSt.toF]
   grind
 have ak:=ZvR (B:=B) ok hΓ hdr (n:=fn.ntmps) (lv:=lv) c _ _ g _ w hawp ab
 refine calls_of_wp (R:=R) (args:=vs.toArray) hf hb (wp_mono ak ?_)
 rintro e a' d ⟨e',s',g',rfl,hQ,hr⟩
 obtain ⟨h0,h1,h2⟩:=hq e' s' g' a' d hQ hr
 cases e' with
 | normal=> trivial
 | ret=> trivial
 | exit id=> grind
theorem Z75 {Γ:Known U} {draws:Array Oper->FSt U->Bool} (ok:CfgOk P cfg) (hΓ:∀ f s,Γ f=some s->Contract P cfg f s) (hdr:Zdl P cfg Γ draws) {f:FuncId} {fn:Func} {c:Code} {s:Fs U} (lv:Zj U)
  (hf : P.funcs[f]? = some fn) (hb : fn.body = some c) (hname : (fn.name == "runtime.NumGoroutine") = false)
  (hbody:∀ args X L ps r X' L',s.fn2 args X L=some (ps,r,X',L')->All ps->∃ args' X0 L0,BetterAll cfg args args' X X0/\(∀ t x,ZL (fun _=> none) L0 t=some x->ZL (fun _=> none) L t=some x)/\args'.length<=fn.ntmps/\awp cfg Γ draws fn.ntmps lv c (Z2i args' X0 L0) (Z5p cfg fn.ntmps fn.results.toList r X' L')):Contract P cfg f s:=by
 refine ⟨⟨fn,hf,by simp [hb],hname⟩,?_⟩
 intro al X1 L1 ps r X' L' hs a4 hX w g vs E1
 obtain ⟨args,X,L,ah,hL,hn,ar⟩:=hbody al X1 L1 ps r X' L' hs a4
 have E:=E1.better ah hL
 refine ZqK ok hΓ hdr lv hf hb E hn ar ?_
 .intro e' s' g' a' w' hQ hr
  have hE:ZkC cfg fn.ntmps fn.results.toList r X' L' s':=by cases e' <;> first | exact hQ | exact hQ.elim
  refine ⟨fun id e=> by subst e;exact hQ,?_⟩
  refine ⟨hr.df,?_⟩
  unfold ZkC at hE
  split at hE
  case h_2=> exact hE.elim
  rename_i ws bb am ak
  obtain ⟨a2,hx⟩:=hE
  obtain ⟨us,h1,h2⟩:=ZjG (w:=w') ok hr am
  have hd:∀ t,Z2N t=true->(s'.toF fn.ntmps).dead t=false:=fun t _=> rfl
  obtain ⟨h3,h4⟩:=ZjF (cfg:=cfg) (g:=g') (st:=s'.toF fn.ntmps) hd ws 0 []
  obtain ⟨sx,h5,a3,h6⟩:=Zud hr rfl (mem:=s'.mem) (fun _=> rfl) X' 0 _ hx
  let keep:Name->Bool:=fun nm=> match nm with | .x k=> decide (k < X'.length) | .loc _=> false
  have d:∀ c,g'.tag c=none->(g'.anew sx keep (fun _=> true)).tag c=none:=fun c hc=> by simp only [Gh.anew,hc]
  have ai:∀ c t,g'.tag c=some (.outer t)↔(g'.anew sx keep (fun _=> true)).tag c=some (.outer t):=by
   intro c t
   simp only [Gh.anew]
   cases hg:g'.tag c with
   | none=> simp
   | some t0=>
    cases t0 with
    | obj nm=> cases hk:keep nm <;> simp [hk]
    | tok u=> cases hk:JF sx u <;> simp [hk]
    | outer t0=> simp
  have hW:=h4 sx h5 _ (Gh.anew_ren sx keep (fun _=> true)).toRen us h2
  have ao:=ZuR (live:=fun _=> false) ak (Zzy a2 hW)
  refine ⟨_,?_,_,g'.anew sx keep (fun _=> true),rfl,⟨fun c v hv=> ?_,fun c t ht=> ?_⟩,?_,?_,?_,ao,?_,ZoV hr (fun _=> rfl) (Gh.anew_ren sx keep (fun _=> true)).toRen a3⟩
  .simp only [results,Sem.run_bind]
   have e1:fn.results=fn.results.toList.toArray:=by simp
   rw [e1,List.mapM_toArray]
   simp only [Sem.run_map,Sem.run_pure]
   exact congrArg (fun r:Result (List Value)=> (r.andThen fun a w'=> Result.ok a.toArray w').andThen fun a w'=> Result.ok (if h:a.size=1 then a[0] else Value.tuple a) w') h1
  .obtain ⟨h7,h8⟩:=hr.inv.im c v hv
   exact ⟨h7,d c h8⟩
  .cases hg:g'.tag c with
   | none=> rw [d c hg] at ht;cases ht
   | some t0=> exact hr.inv.it c t0 hg
  .have F:Fr ⟨w,g.m,g.tag,fun k=> g.ad (.x k)⟩ (g'.anew sx keep (fun _=> true)) w':=by
    refine hr.fr.step hr.inv (Evo.refl w' (fun _=> False)) (fun c hc=> hc.elim) (fun _ _ hv=> hv) (fun c t=> ai c t) ?_ (fun _=> rfl)
    intro b _ aq o sp
    cases hg:g'.tag ⟨b,o,sp⟩ with
    | none=> exact d _ hg
    | some t=>
     obtain ⟨t',rfl⟩:=aq o sp t hg
     exact (ai _ _).1 hg
   exact ⟨F.stay,fun _=> rfl,F.mono,F.outer,F.outer',F.clean,F.frz⟩
  .intro c t ht
   simp only [Gh.anew] at ht
   split at ht
   .rename_i u hu
    cases hn:JF sx u with
    | none=> simp [hn] at ht
    | some u'=> simp [hn] at ht;exact .inr (.inr ⟨u',ht.symm⟩)
   .rename_i nm ba
    cases hk:keep nm with
    | false=> simp [hk] at ht
    | true=>
     simp [hk] at ht
     subst ht
     cases nm with
     | loc s=> simp [keep] at hk
     | x k=> exact .inr (.inl ⟨k,by simpa [keep] using hk,rfl⟩)
   .cases ht;exact .inl ⟨_,rfl⟩
   .cases ht
  .exact fun k _=> hr.fr.xad k
  .intro k cs hk j c hc
   obtain ⟨v,h7,h8,h9⟩:=h6 sx (.refl _) _ (Gh.anew_ren sx keep (fun _=> true)) k cs hk j c hc
   rw [QV] at h7 h8
   refine ⟨v,h7,?_,h9⟩
   have a1:k < X'.length:=(Q5.1 hk).1
   show (g'.anew sx keep (fun _=> true)).tag ((g'.ad (.x k)).add j)=_
   simp only [Gh.anew,h8,keep,a1,decide_true,cond_true]
theorem ZfC {Γ:Known U} {draws:Array Oper->FSt U->Bool} (ok:CfgOk P cfg) (hΓ:∀ f s,Γ f=some s->Contract P cfg f s) (hdr:Zdl P cfg Γ draws) {f:FuncId} {fn:Func} {c:Code} {s:Fs U} (lv:Zj U)
  (hf : P.funcs[f]? = some fn) (hb : fn.body = some c) (hname : (fn.name == "runtime.NumGoroutine") = false)
  (hbody:∀ args X ps r X',s.fn args X=some (ps,r,X')->All ps->∃ d X0,BetterAll cfg args d X X0/\d.length<=fn.ntmps/\awp cfg Γ draws fn.ntmps lv c (Zm d X0) (YZ cfg fn.ntmps fn.results.toList r X')) (hd:s.fn2=ZiA s.fn:=by rfl):Contract P cfg f s:=by
 refine Z75 ok hΓ hdr lv hf hb hname ?_
 intro args X L ps r X' L' hs ab
 rw [hd] at hs
 unfold ZiA at hs
 split at hs
 .split at hs
  .rename_i h1
   cases hs
   obtain ⟨d,X0,h2,h3,h4⟩:=hbody args X _ _ _ h1 ab
   exact ⟨d,X0,[],h2,fun t x hx=> hx,h3,h4⟩
  .cases hs
 .cases hs
def Z3H(o:Oper):Bool:=
 match o.op with
 | .call c=> match c.callee with
  | .builtin .len=> false
  | _=> true
 | .makeSlice _ _ _=> true
 | .buildSlice _ _ parts=> Z76 parts.toList
 | _=> false
structure Fp where
 touch:List Name
 writes:List Name
 kills:Bool
 touchT:List Tok
 writesT:List Tok
 allT:Bool
def Z1E(Γ:Known U)(o:Oper)(st:FSt U):Bool:=
 match o.op with
 | .call c=> match c.callee with
  | .value g=> match st.strip.opnd g with
   | some (.fn f)=> Zbr Γ (some (.fn f))
   | some (.clo f _)=> Zbr Γ (some (.fn f))
   | _=> false
  | _=> false
 | _=> false
def Zvp(Γ:Known U)(o:Oper)(st:FSt U)(e:Eff U):Fp:={ allT:=Z1E Γ o st,touch:=touch o st,writes:=e.mem.map (·.1),kills:= !e.kill.isEmpty,touchT:=touchT o st,writesT:=e.kill++e.ls.map (·.1) }
def ZmR(l:List Tok)(t:Tok):Bool:=
 match l with
 | []=> false
 | a ::r=> if a=t then true else ZmR r t
def Zi2(a b:List Tok):Bool:=a.any fun x=> ZmR b x
def noR(d:Nat)(a:List Tok):Bool:=a.all fun t=> match t with
 | .r d' _=> !Nat.beq d' d
 | _=> true
def ZpT(a b:List Name):Bool:=a.any fun x=> Z05 b x
def Zm7(ops:Array Oper)(x y:Oper)(a b:Fp):Bool:=
 x.apart ops y && y.apart ops x && !ZpT a.writes b.touch && !ZpT b.writes a.touch && !ZpT a.writes b.writes && !(a.kills && Z3H y) && !(b.kills && Z3H x) &&
  !Zi2 a.writesT b.touchT && !Zi2 b.writesT a.touchT && !Zi2 a.writesT b.writesT && noR (y.dst.getD 0) a.writesT && noR (x.dst.getD 0) b.writesT &&
  (a.writesT.isEmpty || !b.allT) && (b.writesT.isEmpty || !a.allT)
structure Alike (Γ:Known U) (o:Oper) (ops:Array Oper) (st st':FSt U):Prop where
 n:st'.n=st.n
 env:∀ t,t∈o.looksAt ops->st'.env t=st.env t
 mem:∀ nm,nm∈touch o st->st'.mem nm=st.mem nm
 dead:Z3H o=true->st'.dead=st.dead
 mu:st'.mu=st.mu
 vw:st'.vw=st.vw
 ls:∀ t,t∈touchT o st->st'.ls t=st.ls t
 fr:∀ j,st'.ls (.r (o.dst.getD 0) j)=st.ls (.r (o.dst.getD 0) j)
 all:Z1E Γ o st=true->st'.ls=st.ls
theorem Alike.tok{o:Oper}{ops:Array Oper}{Γ:Known U}{st st':FSt U}(h:Alike Γ o ops st st'){x:Operand}(hx:x∈Z0V o){v:V U}(hv:st.strip.opnd x=some v){t:Tok}(ht:t∈v.toks):st'.ls t=st.ls t:=
 h.ls t (K2.2 ⟨x,hx,by grind⟩)
theorem Zcw{st st':FSt U}{d:Nat}(hd:st'.dead=st.dead)(hf:∀ j,st'.ls (.r d j)=st.ls (.r d j)):∀ (L:List (Tok × LC U)),Z1L st' d L=Z1L st d L
 | []=> rfl
 | (t,x) ::L=> by
  simp only [Z1L,Zcw hd hf L]
  cases hb:Yi d t with
  | none=> rfl
  | some t'=>
   have e:∃ j,t'= .r d j:=by
    unfold Yi at hb
    split at hb
    .grind
    .grind
    .cases hb
   grind
theorem Alike.opnd{o:Oper}{ops:Array Oper}{Γ:Known U}{st st':FSt U}(h:Alike Γ o ops st st'){x:Operand}(hx:x∈o.op.operands.toList):st'.opnd x=st.opnd x/\st'.strip.opnd x=st.strip.opnd x:=by
 cases x with
 | tmp t=>
  have d:t∈o.looksAt ops:=QR _ (XA.2 ⟨.tmp t,hx,rfl⟩)
  have:=h.env t d
  exact ⟨by simp [FSt.opnd,this],by simp [FSt.opnd,FSt.strip,this]⟩
 | const c=> trivial
 | global g=> trivial
 | func f=> trivial
theorem Zyf{st st':FSt U}{p:V U}{ag:Bool}{n:Nat}(h:∀ nm,nm∈Yc (some p)->st'.mem nm=st.mem nm):rd st' p ag n=rd st p ag n:=by
 cases p <;> simp only [rd]
 case ptr nm off=> rw [h nm (by simp [Yc])]
 case ap nm off k len i=> rw [h nm (by simp [Yc])]
theorem Z7T{st st':FSt U}(hd:st'.dead=st.dead)(ps:Nat->Bool):∀ (xs:List (V U)) (i:Nat) (os:List (Name × List (C U))) (d:List (Tok × Tok)),
  (∀ x,x∈xs->∀ nm,nm∈Yc (some x)->st'.mem nm=st.mem nm)->JB st' ps i xs os d=JB st ps i xs os d
 | [],i,os,d,_=> rfl
 | x ::xs,i,os,d,h=> by
  have ih:=fun i os d=> Z7T hd ps xs i os d (fun y hy=> h y (by simp [hy]))
  simp only [JB,hd,ih]
  cases hp:ZuM x with
  | none=> rfl
  | some nm=>
   have e:st'.mem nm.1=st.mem nm.1:=by
    refine h x (by simp) nm.1 ?_
    cases x <;> simp only [ZuM,reduceCtorEq] at hp
    .cases hp;simp [Yc]
    .split at hp
     .grind
     .rename_i s;cases s;cases hp;simp [Yc]
     .cases hp
   simp only [e]
theorem Ze6{l:List Name}{nm:Name}(h:nm∈l):nm∈Zje l:=by
 cases l with
 | nil=> cases h
 | cons a l=> exact QR _ h
theorem Zw5{l:List Name}{k:Nat}(hk:k < 8)(hl:l≠[]):Name.x k∈Zje l:=by
 cases l with
 | nil=> grind
 | cons a l=>
  refine Xd _ ?_
  grind
theorem Zea:∀ {cs:List (C U)} {hv:List Name} {nm:Name},nm∈Zk8 cs hv->nm∈hv\/∃ k,k < 8/\nm= .x k
 | [],hv,nm,h=> .inl h
 | c ::cs,hv,nm,h=> by
  cases c with
  | xp k=>
   simp only [Zk8] at h
   rcases Zea h with h | h
   .split at h
    .rename_i hc
     rw [Q2] at hc
     rcases Qg.1 h with h | h
     .exact .inl h
     .exact .inr ⟨k,by simpa using hc.1,by simpa using h⟩
    .exact .inl h
   .exact .inr h
  | _=> exact Zea (by simpa only [Zk8] using h)
theorem Zk7{st:FSt U}:∀ {l hv:List Name} {nm:Name},nm∈Zai st l hv->nm∈hv\/(l≠[]/\∃ k,k < 8/\nm= .x k)
 | [],hv,nm,h=> .inl h
 | a ::l,hv,nm,h=> by
  simp only [Zai] at h
  rcases Zk7 h with h | ⟨_,h⟩
  .split at h
   .rcases Zea h with h | h
    .exact .inl h
    .exact .inr ⟨by simp,h⟩
   .exact .inl h
  .exact .inr ⟨by simp,h⟩
theorem Zfq{st st':FSt U}:∀ {l hv:List Name},(∀ nm∈l,st'.mem nm=st.mem nm)->Zai st' l hv=Zai st l hv
 | [],hv,_=> rfl
 | a ::l,hv,h=> by
  simp only [Zai,h a (by simp)]
  exact Zfq fun nm d=> h nm (by simp [d])
theorem Z1c:∀ {vs:List (V U)} {nm:Name},nm∈Z0b vs->∃ x∈vs,nm∈Yc (some x)
 | [],nm,h=> by cases h
 | v ::vs,nm,h=> by
  simp only [Z0b] at h
  split at h
  .rename_i n mk d
   rcases Qa.1 h with rfl | h
   .refine ⟨v,by simp,?_⟩
    cases v <;> simp only [ZuM,reduceCtorEq] at d
    .cases d;simp [Yc]
    .split at d
     .grind
     .rename_i s;cases s;cases d;simp [Yc]
     .cases d
   .obtain ⟨x,h1,h2⟩:=Z1c h
    grind
  .obtain ⟨x,h1,h2⟩:=Z1c h
   grind
theorem Z4k{st:FSt U}{ps:Nat->Bool}:∀ {xs:List (V U)} {i:Nat} {os:List (Name × List (C U))} {seen:List (Tok × Tok)} {ys:List (V U)} {os':List (Name × List (C U))} {seen':List (Tok × Tok)},
  JB st ps i xs os seen=some (ys,os',seen')->os'.map (·.1)=os.map (·.1)++Z0b xs
 | [],i,os,seen,ys,os',seen',h=> by
  simp only [JB,oP] at h
  obtain ⟨_,rfl,_⟩:=h
  simp [Z0b]
 | x ::xs,i,os,seen,ys,os',seen',h=> by
  simp only [JB] at h
  split at h
  .rename_i nm mk s
   split at h
   .cases h
   split at h
   .cases h
   split at h
   .rename_i d
    simp only [oP] at h
    obtain ⟨_,rfl,_⟩:=h
    have:=Z4k d
    simp only [Z0b,s]
    grind
   .cases h
  .rename_i s
   split at h
   .cases h
   split at h
   .rename_i d
    simp only [oP] at h
    obtain ⟨_,rfl,_⟩:=h
    have:=Z4k d
    simp only [Z0b,s]
    exact this
   .cases h
theorem Zoq{st:FSt U}{vs:List (V U)}{base:List Name}(hs:∀ x∈vs,∀ nm∈Yc (some x),nm∈base):∀ x∈vs++Z35 st vs,∀ nm∈Yc (some x),nm∈Zje base:=by
 intro x d nm h
 rcases Qg.1 d with d | d
 .exact Ze6 (hs x d nm h)
 .unfold Z35 at d
  obtain ⟨n,h1,rfl⟩:=Qy.1 d
  simp only [Yc,Qe] at h
  subst h
  rcases Zk7 (QQ h1) with h2 | ⟨h2,k,hk,rfl⟩
  .obtain ⟨y,s,h4⟩:=Z1c h2
   exact Ze6 (hs y s _ h4)
  .refine Zw5 hk fun e=> ?_
   cases ha:Z0b vs with
   | nil=> exact h2 ha
   | cons b l=>
    obtain ⟨y,s,h4⟩:=Z1c (show b∈Z0b vs by rw [ha];simp)
    grind
theorem ZfH {Γ:Known U} {st st':FSt U} {d:Nat} {f:FuncId} {vs:List (V U)} {base:List Name} (hd:st'.dead=st.dead) (hs:∀ x∈vs,∀ nm∈Yc (some x),nm∈base) (hm:∀ nm∈Zje base,st'.mem nm=st.mem nm)
  (hB:∀ L,Z1L st' d L=Z1L st d L) (hW:∀ s,Γ.fn f=some s->∀ toks c,(bif s.wr then Z1k st'.ls toks c else [])=(bif s.wr then Z1k st.ls toks c else []:List (Tok × LC U))):Zao Γ st' d f vs=Zao Γ st d f vs:=by
 unfold Zao
 cases hG:Γ.fn f with
 | none=> rfl
 | some s=>
  have hx:Z35 st' vs=Z35 st vs:=by
   unfold Z35
   rw [Zfq]
   intro nm hn
   obtain ⟨x,h1,h2⟩:=Z1c hn
   exact hm nm (Ze6 (hs x h1 nm h2))
  have hn:=Zoq (st:=st) hs
  simp only [hB,hW s hG,hx]
  rw [Z7T (st:=st) (st':=st') hd _ _ _ _ _ (fun x h nm af=> hm nm (hn x h nm af))]
  cases hp:JB st s.pass 0 (vs++Z35 st vs) [] [] with
  | none=> rfl
  | some r=>
   obtain ⟨ys,os,toks⟩:=r
   have e:(os.map fun x=> Zvr st' os (x.2,x.1))=os.map fun x=> Zvr st os (x.2,x.1):=by
    apply List.map_congr_left
    intro x h
    have h1:x.1∈os.map (·.1):=Qy.2 ⟨x,h,rfl⟩
    rw [Z4k hp] at h1
    obtain ⟨y,h2,h3⟩:=Z1c (show x.1∈Z0b (vs++Z35 st vs) by simpa using h1)
    simp only [Zvr,hm _ (hn y h2 _ h3)]
   simp only [e]
theorem Zb1{st st':FSt U}{x:Option Operand}(h:∀ y,x=some y->st'.opnd y=st.opnd y):Z21 st' x=Z21 st x:=by
 cases x with
 | none=> rfl
 | some y=> simp only [Z21,h y rfl]
theorem Z4u{α β:Type}{f f':α->Option β}:∀ {l:List α},(∀ x,x∈l->f' x=f x)->l.mapM f'=l.mapM f
 | [],_=> rfl
 | x ::l,h=> by rw [X5,X5,h x (by simp),Z4u (fun y d=> h y (by simp [d]))]
theorem ZvT{Γ:Known U}{o:Oper}{ops:Array Oper}{st st':FSt U}(h:Alike Γ o ops st st'):aop cfg Γ o st'.strip=aop cfg Γ o st.strip:=by
 have ab:=fun {x:Operand} (hx:x∈o.op.operands.toList)=> (h.opnd hx).2
 have hm:=h.mem
 have hd:=h.dead
 have ah:=fun {x:Operand} (hx:x∈Z0V o) {v:V U} (hv:st.strip.opnd x=some v) {t:Tok} (ht:t∈v.toks)=> h.tok hx hv ht
 have av:=h.mu
 have al:=h.fr
 have ar:=h.all
 obtain ⟨ai,op,bc,bi,a9,a7⟩:=o
 cases op <;> simp only [aop]
 case move x=> rw [ab (by simp [Op.operands])]
 case assign x=> rw [ab (by simp [Op.operands])]
 case alloc t=>
  cases ai with
  | none=> rfl
  | some d=>
   have:st'.strip.mem (.loc d)=st.strip.mem (.loc d):=hm (.loc d) (by simp [touch])
   cases cfg.var t with
   | none=> rfl
   | some z=> simp only [this]
 case box t x=>
  cases ai with
  | none=> rfl
  | some d=>
   have:st'.strip.mem (.loc d)=st.strip.mem (.loc d):=hm (.loc d) (by simp [touch])
   rw [ab (x:=x) (by simp [Op.operands])]
   cases cfg.var t with
   | none=> rfl
   | some z=>
    cases (st.strip.opnd x).bind V.cells with
    | none=> rfl
    | some cs=> simp only [this]
 case build t parts=>
  rw [Z4u (f:=fun x=> ((st.strip.opnd x.2).bind V.cells).map (x.1,·))]
  intro x hx
  rw [ab (by simp only [Op.operands];simp;exact ⟨x.1,by simpa using hx⟩)]
 case buildSlice t n parts=>
  rw [Z4u (f:=fun x=> (st.strip.opnd x.2).map (x.1,·)) (by
   intro x hx
   rw [ab (by simp only [Op.operands];simp;exact ⟨x.1,by simpa using hx⟩)])]
  have af:st'.strip.mu=st.strip.mu:=av
  cases hc:Z76 parts.toList with
  | false=> simp only [Bool.and_false,cond_false]
  | true=>
   have e1:st'.strip.dead=st.strip.dead:=hd hc
   cases ai with
   | none=> simp only [Zgg,af]
   | some d=>
    have e2:st'.strip.ls (.r d 0)=st.strip.ls (.r d 0):=al 0
    simp only [Zgg,af,e1,e2]
 case load t p=>
  rw [ab (by simp [Op.operands])]
  cases cfg.var t with
  | none=> rfl
  | some z=>
   cases hp:st.strip.opnd p with
   | none=> rfl
   | some v=>
    have:rd st'.strip v z.1 z.2.length=rd st.strip v z.1 z.2.length:=Zyf fun nm aj=> hm nm (by simp only [touch];rw [hp];exact aj)
    cases v <;> first | (simp only [this];done) | skip
    case c c=> cases c <;> first | rfl | (simp only [this];done)
    case mp u n off=>
     have:st'.strip.ls u=st.strip.ls u:=ah (x:=p) (by simp [Z0V]) hp (by simp [V.toks])
     simp only [this]
 case store t p x=>
  rw [ab (x:=p) (by simp [Op.operands]),ab (x:=x) (by simp [Op.operands])]
  cases cfg.var t with
  | none=> rfl
  | some z=>
   cases hp:st.strip.opnd p with
   | none=> rfl
   | some v=>
    cases v <;> try rfl
    case mp u n off=>
     have:st'.strip.ls u=st.strip.ls u:=ah (x:=p) (by simp [Z0V]) hp (by simp [V.toks])
     cases (st.strip.opnd x).bind V.cells with
     | none=> rfl
     | some cs=> simp only [this]
    case ptr nm off=>
     have:st'.strip.mem nm=st.strip.mem nm:=hm nm (by simp only [touch];rw [hp];simp [Yc])
     cases (st.strip.opnd x).bind V.cells with
     | none=> rfl
     | some cs=> simp only [this]
    case ap nm off k len n=>
     have:st'.strip.mem nm=st.strip.mem nm:=hm nm (by simp only [touch];rw [hp];simp [Yc])
     cases (st.strip.opnd x).bind V.cells with
     | none=> rfl
     | some cs=>
      match cs with
      | []=> rfl
      | [c]=> cases c <;> first | rfl | simp only [this]
      | c ::_ ::_=> cases c <;> rfl
 case nilCheck x=>
  rw [ab (by simp [Op.operands])]
  cases hp:st.strip.opnd x with
  | none=> rfl
  | some v=>
   cases v <;> try rfl
   case c c=> cases c <;> rfl
   case mp u n off=>
    have:st'.strip.ls u=st.strip.ls u:=ah (x:=x) (by simp [Z0V]) hp (by simp [V.toks])
    simp only [this]
 case binOp bop t x y t'=> rw [ab (x:=x) (by simp [Op.operands]),ab (x:=y) (by simp [Op.operands])]
 case unOp uop t x=> rw [ab (by simp [Op.operands])]
 case convert src dst' x=> rw [ab (by simp [Op.operands])]
 case makeSlice t n m=>
  rw [ab (x:=n) (by simp [Op.operands]),ab (x:=m) (by simp [Op.operands])]
  have af:st'.strip.mu=st.strip.mu:=av
  have e1:st'.strip.dead=st.strip.dead:=hd rfl
  cases ai with
  | none=> simp only [ZmA,af]
  | some d=>
   have e2:st'.strip.ls (.r d 0)=st.strip.ls (.r d 0):=al 0
   simp only [ZmA,af,e1,e2]
 case slice t x lo hi mx=>
  rw [ab (x:=x) (by simp [Op.operands]),Zb1 (x:=lo) (fun y hy=> ab (by simp [Op.operands,hy])),Zb1 (x:=hi) (fun y hy=> ab (by simp [Op.operands,hy])),Zb1 (x:=mx) (fun y hy=> ab (by simp [Op.operands,hy]))]
  cases hp:st.strip.opnd x with
  | none=> rfl
  | some v=>
   cases v
   case ptr nm off=>
    have:st'.strip.mem nm=st.strip.mem nm:=hm nm (by simp only [touch];rw [hp];simp [Yc])
    cases Z21 st.strip lo with
    | none=> rfl
    | some a=>
     cases Z21 st.strip hi with
     | none=> cases a <;> rfl
     | some b=>
      cases Z21 st.strip mx with
      | none=> cases a <;> cases b <;> rfl
      | some c=> cases a <;> cases b <;> cases c <;> first | rfl | simp only [this]
   case c c=>
    have ba:st'.strip.vw=st.strip.vw:=h.vw
    cases c
    case mref u=>
     have:st'.strip.ls u=st.strip.ls u:=ah (x:=x) (by simp [Z0V]) hp (by simp [V.toks])
     rcases Z21 st.strip lo with _ | _ | v
     case some.some=>
      cases v
      case c c=> cases c <;> rcases Z21 st.strip hi with _ | _ | _ <;> rcases Z21 st.strip mx with _ | _ | _ <;> first | rfl | simp only [this,ba]
      all_goals (cases Z21 st.strip hi <;> cases Z21 st.strip mx <;> rfl)
     all_goals (cases Z21 st.strip hi <;> cases Z21 st.strip mx <;> rfl)
    all_goals (cases Z21 st.strip lo <;> cases Z21 st.strip hi <;> cases Z21 st.strip mx <;> rfl)
   all_goals (cases Z21 st.strip lo <;> cases Z21 st.strip hi <;> cases Z21 st.strip mx <;> rfl)
 case fieldAddr t x f=>
  rw [ab (by simp [Op.operands])]
  cases hp:st.strip.opnd x with
  | none=> rfl
  | some v=>
   cases cfg.fld t f with
   | none=> cases v with
    | c c=> cases c <;> rfl
    | _=> rfl
   | some z=>
    cases v <;> try rfl
    case c c=> cases c <;> rfl
    case mp u n off=>
     have:st'.strip.ls u=st.strip.ls u:=ah (x:=x) (by simp [Z0V]) hp (by simp [V.toks])
     simp only [this]
 case makeFunc f first caps=>
  rw [Z4u (f:=fun x=> (st.strip.opnd x).bind ZuL)]
  intro x hx
  rw [ab (by simp only [Op.operands];simp;right;simpa using hx)]
 case field t x f=> rw [ab (by simp [Op.operands])]
 case indexAddr t x i=>
  rw [ab (x:=x) (by simp [Op.operands]),ab (x:=i) (by simp [Op.operands])]
  cases hp:st.strip.opnd x with
  | none=> rfl
  | some v=>
   cases hi:st.strip.opnd i with
   | none=> cases v <;> first | rfl | (rename_i y;cases y <;> rfl)
   | some vi=>
    cases vi <;> first | (cases v <;> first | (rfl;done) | (rename_i y;cases y <;> (rfl;done));done) | skip
    case c z=>
     cases z <;> first | (cases v <;> first | (rfl;done) | (rename_i y;cases y <;> (rfl;done));done) | skip
     case int k n=>
      cases v <;> first | (rfl;done) | skip
      case c y=>
       cases y <;> first | (rfl;done) | skip
       case mref u=>
        have:st'.strip.ls u=st.strip.ls u:=ah (x:=x) (by simp [Z0V]) hp (by simp [V.toks])
        simp only [this]
 case index t x i=> rw [ab (x:=x) (by simp [Op.operands]),ab (x:=i) (by simp [Op.operands])]
 case extract x i=> rw [ab (by simp [Op.operands])]
 case call c=>
  unfold ZmC
  cases hc:c.callee with
  | builtin b=>
   simp only
   have hx:∀ x∈c.args.toList,st'.strip.opnd x=st.strip.opnd x:=fun x hx=> ab (by simp [Op.operands,Call.operands,hc];simpa using hx)
   unfold ZiO
   split
   .rename_i x t aa au
    rw [hx x (by rw [aa];simp)]
    cases hp:st.strip.opnd x with
    | none=> rfl
    | some v=>
     have:lenOf cfg st'.strip t v=lenOf cfg st.strip t v:=by
      cases v <;> try rfl
      case c y=>
       cases y <;> try rfl
       case mref u=>
        have:st'.strip.ls u=st.strip.ls u:=ah (x:=x) (by simp only [Z0V,hc];rw [aa];simp) hp (by simp [V.toks])
        simp only [lenOf,this]
     simp only [this]
   .rename_i x y t t' aa au
    rw [hx x (by rw [aa];simp),hx y (by rw [aa];simp)]
    have ak:st'.dead=st.dead:=hd (by simp only [Z3H,hc])
    have:∀ d t x y,Za5 cfg st'.strip d t x y=Za5 cfg st.strip d t x y:=fun d t x y=> by simp only [Za5,FSt.strip,ak]
    have af:st'.strip.mu=st.strip.mu:=av
    cases ai with
    | none=> rfl
    | some d=>
     cases hp:st.strip.opnd x with
     | none=> rfl
     | some v=>
      cases v <;> try rfl
      case c cx=>
       have hM:∀ t y,Z6e cfg st'.strip d t cx y=Z6e cfg st.strip d t cx y:=by
        intro t y
        have e1:st'.strip.dead=st.strip.dead:=ak
        have e2:st'.strip.ls (.r d 0)=st.strip.ls (.r d 0):=al 0
        have e3:∀ T,Zan cfg st'.strip T cx=Zan cfg st.strip T cx:=by
         intro T
         cases cx <;> simp only [Zan,e1]
         case mref u=>
          have:st'.strip.ls u=st.strip.ls u:=ah (x:=x) (by simp only [Z0V,hc];rw [aa];simp) hp (by simp [V.toks])
          simp only [this]
        simp only [Z6e,e1,e2,e3]
       have hZ:∀ t t' y,Z6d cfg st'.strip d t t' cx y=Z6d cfg st.strip d t t' cx y:=by
        intro t t' y
        have e1:st'.strip.dead=st.strip.dead:=ak
        have e2:st'.strip.ls (.r d 0)=st.strip.ls (.r d 0):=al 0
        have e3:∀ T,Zan cfg st'.strip T cx=Zan cfg st.strip T cx:=by
         intro T
         cases cx <;> simp only [Zan,e1]
         case mref u=>
          have:st'.strip.ls u=st.strip.ls u:=ah (x:=x) (by simp only [Z0V,hc];rw [aa];simp) hp (by simp [V.toks])
          simp only [this]
        simp only [Z6d,e1,e2,e3]
       cases hq:st.strip.opnd y with
       | none=> rfl
       | some vy=> cases vy <;> first | (rfl;done) | (simp only [this,hM,hZ,af])
   .rename_i x t aa au
    rw [hx x (by rw [aa];simp)]
    cases hp:st.strip.opnd x with
    | none=> rfl
    | some v=>
     cases v <;> try rfl
     case vw u n=>
      have:st'.strip.ls u=st.strip.ls u:=ah (x:=x) (by simp only [Z0V,hc];rw [aa];simp) hp (by simp [V.toks])
      simp only [ZmB,this]
   .rename_i x y t t' aa au
    rw [hx x (by rw [aa];simp),hx y (by rw [aa];simp)]
    cases hp:st.strip.opnd x with
    | none=> rfl
    | some v=>
     cases v <;> try rfl
     case vw u n=>
      have:st'.strip.ls u=st.strip.ls u:=ah (x:=x) (by simp only [Z0V,hc];rw [aa];simp) hp (by simp [V.toks])
      cases st.strip.opnd y with
      | none=> rfl
      | some vy=> cases vy <;> first | rfl | simp only [Zub,this]
   .rename_i x y aa
    rw [hx x (by rw [aa];simp),hx y (by rw [aa];simp)]
   .rename_i x y aa
    rw [hx x (by rw [aa];simp),hx y (by rw [aa];simp)]
   .try rfl
  | value gx=>
   simp only
   have ak:st'.dead=st.dead:=hd (by simp only [Z3H,hc])
   have hx:∀ x∈c.args.toList,st'.strip.opnd x=st.strip.opnd x:=fun x hx=> ab (by simp [Op.operands,Call.operands,hc];right;simpa using hx)
   rw [ab (x:=gx) (by simp [Op.operands,Call.operands,hc]),Z4u (f:=st.strip.opnd) hx]
   cases hg:st.strip.opnd gx with
   | none=> rfl
   | some v=>
    have az:∀ (vs:List (V U)),c.args.toList.mapM st.strip.opnd=some vs->∀ x∈vs,∀ nm∈Yc (some x),nm∈Yc (some v)++c.args.toList.flatMap fun x=> Yc (st.strip.opnd x):=by
     intro vs hv x a8 nm aj
     obtain ⟨j,hj,rfl⟩:=Xk a8
     have bd:=(mapM_len hv)
     have a3:j < c.args.toList.length:=V1
     obtain ⟨y,h1,h2⟩:=Z83 hv j _ (Q4 a3)
     rw [Q4 hj] at h1
     cases h1
     exact Xd _ (K2.2 ⟨_,List.getElem_mem a3,by rw [h2];exact aj⟩)
    have ay:∀ nm∈Zje (Yc (some v)++c.args.toList.flatMap fun x=> Yc (st.strip.opnd x)),st'.strip.mem nm=st.strip.mem nm:=by
     intro nm aj
     refine hm nm ?_
     simp only [touch,hc,hg]
     exact Q0 _ aj
    have hB:∀ L,Z1L st'.strip (ai.getD 0) L=Z1L st.strip (ai.getD 0) L:=Zcw (st:=st.strip) (st':=st'.strip) ak al
    have hW:∀ f',(v= .fn f'\/∃ nms,v= .clo f' nms)->∀ s,Γ.fn f'=some s->∀ toks c,(bif s.wr then Z1k st'.strip.ls toks c else [])=(bif s.wr then Z1k st.strip.ls toks c else []:List (Tok × LC U)):=by
     intro f' hv s hG toks c'
     cases hw:s.wr with
     | false=> rfl
     | true=>
      have:st'.ls=st.ls:=ar (by
       rcases hv with rfl | ⟨nms,rfl⟩ <;> simp only [Z1E,hc,hg,Zbr,hG,hw,Bool.true_or])
      simp only [cond_true,FSt.strip,this]
    cases v <;> try rfl
    case fn f=>
     cases hv:c.args.toList.mapM st.strip.opnd with
     | none=> rfl
     | some vs=>
      simp only
      cases hb:Zzu Γ f with
      | false=>
       cases hmk:ZF4 Γ f with
       | false=> exact ZfH ak (az vs hv) ay hB (hW f (.inl rfl))
       | true=>
        have:st'.strip.mem (.loc (ai.getD 0))=st.strip.mem (.loc (ai.getD 0)):=hm _ (by simp [touch,hc])
        simp only [cond_true,cond_false,ZvX,this]
      | true=>
       have:st'.ls=st.ls:=ar (by
        unfold Zzu at hb
        split at hb
        .rename_i s hG;simp only [Z1E,hc,hg,Zbr,hG,hb,Bool.or_true]
        .cases hb)
       have e:V.lend st'.strip=V.lend st.strip:=by
        have e2:C.lend st'.strip=C.lend st.strip:=by
         funext c
         cases c <;> simp only [C.lend,FSt.strip,this]
        funext v
        cases v <;> simp only [V.lend,e2]
       simp only [cond_true,ZkA,e]
    case clo f nms=>
     cases hv:c.args.toList.mapM st.strip.opnd with
     | none=> rfl
     | some vs=>
      refine ZfH ak (fun x hx nm aj=> ?_) ay hB (hW f (.inr ⟨nms,rfl⟩))
      rcases Qg.1 hx with hx | hx
      .exact az vs hv x hx nm aj
      .obtain ⟨bj,h1,rfl⟩:=Qy.1 hx
       simp only [Yc,Qe] at aj
       subst aj
       exact QR _ (by simpa [Yc] using h1)
  | invoke r m=> rfl
where
 mapM_len {f:Operand->Option (V U)}:∀ {xs:List Operand} {vs:List (V U)},xs.mapM f=some vs->xs.length=vs.length:=by
  intro xs
  induction xs with
  | nil=> intro vs h;simp at h;subst h;rfl
  | cons y xs ih=>
   intro vs h
   rw [X5] at h
   cases h1:f y with
   | none=> simp [h1] at h
   | some v=>
    cases h2:xs.mapM f with
    | none=> simp [h1,h2] at h
    | some r=>
     simp [h1,h2] at h
     subst h
     simp [ih h2]
theorem Zd6{st st':FSt U}{G:Option Bool}:∀ {l:List Operand},(∀ t,Operand.tmp t∈l->st'.env t=st.env t)->Z1m st' G l=Z1m st G l
 | [],_=> rfl
 | x ::l,h=> by
  have s:=Zd6 (l:=l) (G:=G) (fun t d=> h t (by simp [d]))
  cases x with
  | tmp t=> simp only [Z1m,h t (by simp),s]
  | _=> trivial
theorem Zfu{tyEq:DecidableEq U.Ty}{G:Bool}{m0 m1:Name->Option (List (C U))}:∀ {m:List (Name × List (C U))},(∀ x∈m,m1 x.1=m0 x.1)->Z0K tyEq G m1 m=Z0K tyEq G m0 m
 | [],_=> rfl
 | (nm,cs) ::r,h=> by
  simp only [Z0K,h (nm,cs) (by simp),Zfu (m:=r) (fun x d=> h x (by simp [d]))]
theorem Z82{l:List Name}{nm:Name}:Z05 l nm=true↔nm∈l:=by
 refine ⟨?_,Z81⟩
 induction l with
 | nil=> intro h;cases h
 | cons x l ih=>
  intro h
  simp only [Z05] at h
  grind
theorem Z7r{o:Oper}{ops:Array Oper}{st st':FSt U}(h:∀ t,t∈o.looksAt ops->st'.env t=st.env t):touch o st'=touch o st:=by
 have d:∀ {x:Operand},x∈o.op.operands.toList->st'.strip.opnd x=st.strip.opnd x:=by
  intro x hx
  cases x with
  | tmp t=> simp [FSt.opnd,FSt.strip,h t (QR _ (XA.2 ⟨.tmp t,hx,rfl⟩))]
  | _=> rfl
 obtain ⟨ah,op,ae,ai,s,ab⟩:=o
 cases op <;> simp only [touch]
 case load t p=> rw [d (by simp [Op.operands])]
 case store t p x=> rw [d (by simp [Op.operands])]
 case slice t x lo hi mx=> rw [d (by simp [Op.operands])]
 case call c=>
  have:∀ (l:List Operand),(∀ x∈l,x∈c.args.toList)->(l.flatMap fun x=> Yc (st'.strip.opnd x))=l.flatMap fun x=> Yc (st.strip.opnd x):=by
   intro l
   induction l with
   | nil=> intro _;rfl
   | cons x l ih=>
    intro hl
    rw [Xj,Xj,ih (fun y hy=> hl y (by simp [hy])),d (by
     have:=hl x (by simp)
     cases hc:c.callee <;> simp [Op.operands,Call.operands,hc] <;> first | (right;simpa using this) | simpa using this)]
  rw [this _ (fun x hx=> hx)]
  cases hc:c.callee with
  | value gx=> simp only [d (x:=gx) (by simp [Op.operands,Call.operands,hc])]
  | builtin b=> rfl
  | invoke r m=> rfl
theorem Zpv{o:Oper}{x:Operand}(h:x∈Z0V o):x∈o.op.operands.toList:=by
 obtain ⟨ab,op,aa,ae,d,s⟩:=o
 cases op <;> simp only [Z0V] at h <;> (try (cases h;done))
 case load t p=> trivial
 case store t p x=> simp only [Qe] at h;subst h;simp [Op.operands]
 case nilCheck x=> trivial
 case fieldAddr t x f=> trivial
 case indexAddr t x i=> simp only [Qe] at h;subst h;simp [Op.operands]
 case slice t x lo hi mx=> simp only [Qe] at h;subst h;simp [Op.operands]
 case call c=>
  cases hc:c.callee <;> rw [hc] at h <;> (try (cases h;done))
  simp only at h
  simp only [Op.operands,Call.operands,hc]
  simpa using h
theorem Zbq{o:Oper}{ops:Array Oper}{st st':FSt U}(h:∀ t,t∈o.looksAt ops->st'.env t=st.env t):touchT o st'=touchT o st:=by
 have d:∀ {x:Operand},x∈o.op.operands.toList->st'.strip.opnd x=st.strip.opnd x:=by
  intro x hx
  cases x with
  | tmp t=> simp [FSt.opnd,FSt.strip,h t (QR _ (XA.2 ⟨.tmp t,hx,rfl⟩))]
  | _=> rfl
 unfold touchT
 have:∀ (l:List Operand),(∀ x∈l,x∈Z0V o)->(l.flatMap fun x=> (st'.strip.opnd x).toList.flatMap V.toks)=l.flatMap fun x=> (st.strip.opnd x).toList.flatMap V.toks:=by
  intro l
  induction l with
  | nil=> intro _;rfl
  | cons x l ih=>
   intro hl
   rw [Xj,Xj,ih (fun y s=> hl y (by simp [s])),d (Zpv (hl x (by simp)))]
 grind
theorem Zal{Γ:Known U}{o:Oper}{ops:Array Oper}{st st':FSt U}(h:∀ t,t∈o.looksAt ops->st'.env t=st.env t):Z1E Γ o st'=Z1E Γ o st:=by
 obtain ⟨ab,op,aa,ae,d,s⟩:=o
 cases op <;> try rfl
 case call c=>
  simp only [Z1E]
  cases hc:c.callee <;> try rfl
  case value g=>
   have:st'.strip.opnd g=st.strip.opnd g:=by
    cases g with
    | tmp t=> simp [FSt.opnd,FSt.strip,h t (QR _ (XA.2 ⟨.tmp t,by simp [Op.operands,Call.operands,hc],rfl⟩))]
    | _=> rfl
   grind
theorem ZfE{Γ:Known U}{o:Oper}{ops:Array Oper}{st st':FSt U}(h:Alike Γ o ops st st'):Z7h cfg Γ ops o st'=Z7h cfg Γ ops o st:=by
 have d:=fun {x:Operand} (hx:x∈o.op.operands.toList)=> (h.opnd hx).1
 have hG:Z6Z ops st' o=Z6Z ops st o:=by
  unfold Z6Z
  cases hg:o.guard with
  | none=> rfl
  | some jw=>
   obtain ⟨j,aa⟩:=jw
   simp only
   cases s:(ops[j]?).bind (·.dst) with
   | none=> rfl
   | some t=>
    have:st'.env t=st.env t:=h.env t (Xd _ (by simp [hg,s]))
    grind
 have hN:∀ G,Z1m st' G o.op.operands.toList=Z1m st G o.op.operands.toList:=fun G=>
  Zd6 fun t s=> h.env t (QR _ (XA.2 ⟨.tmp t,s,rfl⟩))
 unfold Z7h
 rw [h.n]
 split
 .split
  .rename_i c x y hc
   rw [hG,d (x:=c) (by simp [hc,Op.operands]),d (x:=x) (by simp [hc,Op.operands]),d (x:=y) (by simp [hc,Op.operands])]
  .have s:=Z7r (st:=st) (st':=st') h.env
   rw [hG]
   simp only [ZvT h,hN,s]
   split
   .try rfl
   .rename_i G ae
    cases he:aop cfg Γ o st.strip with
    | none=> rfl
    | some r=>
     obtain ⟨ps,e⟩:=r
     cases G with
     | none=> rfl
     | some Gb=>
      obtain ⟨v,m,k,l⟩:=e
      cases v with
      | none=> rfl
      | some v=>
       cases k with
       | cons _ _=> grind
       | nil=>
        cases l with
        | cons _ _=> grind
        | nil=>
        cases m with
        | nil=> rfl
        | cons x r=>
         simp only
         cases hall:(x ::r).all fun x=> Z05 (touch o st) x.1 with
         | false=> rfl
         | true=>
          have hj:Z0K cfg.tyEq Gb st'.mem (x ::r)=Z0K cfg.tyEq Gb st.mem (x ::r):=Zfu fun y hy=> h.mem _ (Z82.1 (by
           grind))
          rw [hj]
 .try rfl
theorem Z6V{m0:Name->Option (List (C U))}{m:List (Name × List (C U))}{nm:Name}(h:Z05 (m.map (·.1)) nm=false):ZV m0 m nm=m0 nm:=by
 induction m with
 | nil=> rfl
 | cons x m ih=>
  obtain ⟨b,cs⟩:=x
  simp only [Qm,Z05] at h
  split at h
  .cases h
  .rename_i e
   simp only [ZV]
   grind
theorem Zi1{x y:List Name}(h:ZpT x y=false):∀ nm,nm∈x->Z05 y nm=false:=by
 intro nm d
 unfold ZpT at h
 grind
theorem Zur{l:List Tok}{t:Tok}:ZmR l t=true↔t∈l:=by
 induction l with
 | nil=> simp [ZmR]
 | cons x l ih=>
  simp only [ZmR,Qa]
  grind
theorem Zfd{x y:List Tok}(h:Zi2 x y=false):∀ t,t∈x->t∉y:=by
 intro t d s
 unfold Zi2 at h
 rw [List.any_eq_false] at h
 have:=h t d
 rw [Zur.2 s] at this
 simp at this
theorem Zvd{m:Tok->Option (LC U)}{l:List (Tok × LC U)}{t:Tok}(h:t∉l.map (·.1)):ZL m l t=m t:=by
 induction l with
 | nil=> rfl
 | cons x l ih=>
  obtain ⟨b,y⟩:=x
  simp only [Qm,Qa,not_or] at h
  simp only [ZL]
  grind
theorem Z5T{m:Tok->Option (LC U)}{e:Eff U}{t:Tok}(h:t∉e.kill++e.ls.map (·.1)):Z10 m e t=m t:=by
 simp only [Qg,not_or] at h
 unfold Z10
 have:e.kill.contains t=false:=by
  cases hk:e.kill.contains t with
  | false=> rfl
  | true=> exact absurd (by simpa using hk) h.1
 rw [this,cond_false,Zvd h.2]
theorem Zky {Γ:Known U} {ops:Array Oper} {x y:Oper} {st:FSt U} {e:Eff U} (hap:x.apart ops y=true) (h:ZpT (e.mem.map (·.1)) (touch y st)=false) (hk:(!e.kill.isEmpty && Z3H y)=false)
  (ht:Zi2 (e.kill++e.ls.map (·.1)) (touchT y st)=false) (s:noR (y.dst.getD 0) (e.kill++e.ls.map (·.1))=true) (ha:((e.kill++e.ls.map (·.1)).isEmpty || !Z1E Γ y st)=true):
  Alike Γ y ops st (st.app x.dst e):=by
 obtain ⟨h1,_,_⟩:=Oper.apart_spec hap
 refine ⟨?_,?_,?_,?_,by cases x.dst <;> rfl,by cases x.dst <;> rfl,fun t aa=> Z5T (fun h=> Zfd ht t h aa),fun j=> Z5T (fun h=> ?_),fun hc=> ?_⟩
 .cases x.dst <;> rfl
 .intro t ht
  cases hd:x.dst with
  | none=> rfl
  | some d=>
   have af:t≠d:=fun e=> h1 d hd (e▸ht)
   have:Nat.beq t d=false:=by
    cases hb:Nat.beq t d with
    | false=> rfl
    | true=> simp_all
   simp [FSt.app,FSt.put,this]
 .intro nm hn
  have:Z05 (e.mem.map (·.1)) nm=false:=by
   cases hb:Z05 (e.mem.map (·.1)) nm with
   | false=> rfl
   | true=>
    have:=Zi1 h nm (Z82.1 hb)
    rw [Z81 hn] at this
    cases this
  exact Z6V this
 .intro s
  simp only [s,Xf,Bool.not_eq_false'] at hk
  have:e.kill=[]:=by simpa using hk
  simp [FSt.app,this]
 .have:=QE.1 s _ h
  simp at this
 .rw [hc] at ha
  simp only [Bool.not_true,Bool.or_false,List.isEmpty_iff] at ha
  funext t
  exact Z5T (by rw [ha];simp)
theorem ZAI{ops:Array Oper}{x y:Oper}{st:FSt U}{e f:Eff U}(hap:x.apart ops y=true)(hm:ZpT (e.mem.map (·.1)) (f.mem.map (·.1))=false)(hl:Zi2 (e.kill++e.ls.map (·.1)) (f.kill++f.ls.map (·.1))=false):
  (st.app x.dst e).app y.dst f=(st.app y.dst f).app x.dst e:=by
 obtain ⟨_,h2,_⟩:=Oper.apart_spec hap
 have ak:∀ (s:FSt U) (v u:V U),((s.put x.dst v).put y.dst u)=((s.put y.dst u).put x.dst v):=by
  intro s v u
  cases hx:x.dst with
  | none=> rfl
  | some d=>
   cases hy:y.dst with
   | none=> rfl
   | some d'=>
    have aa:d≠d':=fun e=> h2 d hx (by rw [hy,e])
    simp only [FSt.put]
    congr 1
    funext j
    cases h1:Nat.beq j d with
    | false=> rfl
    | true=>
     cases h3:Nat.beq j d' with
     | false=> rfl
     | true=> exact absurd ((Ql h1).symm.trans (Ql h3)) aa
 have am:ZV (ZV st.mem e.mem) f.mem=ZV (ZV st.mem f.mem) e.mem:=by
  funext nm
  cases h1:Z05 (e.mem.map (·.1)) nm with
  | false=>
   rw [Z6V (m:=e.mem) (m0:=ZV st.mem f.mem) h1]
   rcases Z18 st.mem f.mem nm with ⟨k,cs,h3,h4⟩ | ⟨h3,h4⟩
   .rcases Z18 (ZV st.mem e.mem) f.mem nm with ⟨k',cs',h5,h6⟩ | ⟨h5,h6⟩
    .have:∀ (m0 m1:Name->Option (List (C U))) (l:List (Name × List (C U))),(∃ x,x∈l/\x.1=nm)->ZV m0 l nm=ZV m1 l nm:=by
      intro m0 m1 l
      induction l with
      | nil=> rintro ⟨x,hx,_⟩;simp at hx
      | cons z l ih=>
       rintro ⟨x,hx,ao⟩
       obtain ⟨b,cs⟩:=z
       simp only [ZV]
       split
       .try rfl
       .rename_i aa
        rcases Qa.1 hx with rfl | hx
        .exact absurd ao.symm aa
        .exact ih ⟨x,hx,ao⟩
     exact this _ _ _ ⟨_,X6 h3,rfl⟩
    .exact absurd rfl (h5 k _ h3)
   .rcases Z18 (ZV st.mem e.mem) f.mem nm with ⟨k',cs',h5,h6⟩ | ⟨h5,h6⟩
    .exact absurd rfl (h3 k' _ h5)
    .rw [h6,h4,Z6V h1]
  | true=>
   have av:Z05 (f.mem.map (·.1)) nm=false:=Zi1 hm nm (Z82.1 h1)
   rw [Z6V (m:=f.mem) (m0:=ZV st.mem e.mem) av]
   have:∀ (m0 m1:Name->Option (List (C U))) (l:List (Name × List (C U))),Z05 (l.map (·.1)) nm=true->ZV m0 l nm=ZV m1 l nm:=by
    intro m0 m1 l
    induction l with
    | nil=> intro h;cases h
    | cons z l ih=>
     obtain ⟨b,cs⟩:=z
     intro h
     simp only [Qm,Z05] at h
     simp only [ZV]
     split
     .try rfl
     .rename_i aa
      rw [if_neg (fun e=> aa e.symm)] at h
      exact ih h
   exact this _ _ _ h1
 have ai:(fun t=> (st.dead t || e.kill.contains t) || f.kill.contains t)=fun t=> (st.dead t || f.kill.contains t) || e.kill.contains t:=by
  funext t
  cases st.dead t <;> cases e.kill.contains t <;> cases f.kill.contains t <;> rfl
 have hn:∀ (s:FSt U) d v,(s.put d v).n=s.n/\(s.put d v).mem=s.mem/\(s.put d v).dead=s.dead:=by
  intro s d v;cases d <;> exact ⟨rfl,rfl,rfl⟩
 have aq:(((st.put x.dst (e.val.getD .junk))).put y.dst (f.val.getD .junk)).env=((st.put y.dst (f.val.getD .junk)).put x.dst (e.val.getD .junk)).env:=by rw [ak]
 have aj:∀ (s s':FSt U) d v,s.env=s'.env->(s.put d v).env=(s'.put d v).env:=by
  intro s s' d v he;cases d <;> simp [FSt.put,he]
 have aw:Z10 (Z10 st.ls e) f=Z10 (Z10 st.ls f) e:=by
  funext t
  by_cases h1:t∈e.kill++e.ls.map (·.1)
  .have h2:=Zfd hl t h1
   rw [Z5T h2]
   unfold Z10
   cases he:e.kill.contains t with
   | true=> rfl
   | false=>
    simp only [cond_false]
    have h3:t∈e.ls.map (·.1):=by
     rcases Qg.1 h1 with h | h
     .have:e.kill.contains t=true:=by simpa using h
      rw [he] at this;cases this
     .exact h
    have:∀ (m0 m1:Tok->Option (LC U)) (l:List (Tok × LC U)),t∈l.map (·.1)->ZL m0 l t=ZL m1 l t:=by
     intro m0 m1 l
     induction l with
     | nil=> intro h;cases h
     | cons z l ih=>
      obtain ⟨b,y⟩:=z
      intro h
      simp only [ZL]
      split
      .try rfl
      .rename_i aa
       simp only [Qm,Qa] at h
       exact ih (h.resolve_left aa)
    exact this _ _ _ h3
  .rw [Z5T (m:=Z10 st.ls f) h1]
   have:∀ (m0 m1:Tok->Option (LC U)) (l:List (Tok × LC U)),m0 t=m1 t->ZL m0 l t=ZL m1 l t:=by
    intro m0 m1 l he
    induction l with
    | nil=> exact he
    | cons z l ih=>
     obtain ⟨b,y⟩:=z
     simp only [ZL]
     split
     .try rfl
     .exact ih
   have h3:Z10 st.ls e t=st.ls t:=Z5T h1
   unfold Z10 at h3 ⊢
   cases hf:f.kill.contains t with
   | true=> rfl
   | false=> simp only [cond_false];exact this _ _ _ h3
 have ext:∀ {s s':FSt U},s.n=s'.n->s.env=s'.env->s.mem=s'.mem->s.dead=s'.dead->s.ls=s'.ls->s.mu=s'.mu->s.vw=s'.vw->s=s':=by
  intro s s' h1 h2 h3 h4;cases s;cases s';simp_all
 refine ext ?_ ?_ ?_ ?_ aw ?_ (by cases x.dst <;> cases y.dst <;> rfl)
 .cases x.dst <;> cases y.dst <;> rfl
 .show ((st.app x.dst e).put y.dst _).env=((st.app y.dst f).put x.dst _).env
  rw [aj (st.app x.dst e) (st.put x.dst (e.val.getD .junk)) y.dst _ rfl,aq,aj (st.app y.dst f) (st.put y.dst (f.val.getD .junk)) x.dst _ rfl]
 .show ZV (st.app x.dst e).mem f.mem=ZV (st.app y.dst f).mem e.mem
  exact am
 .exact ai
 .cases x.dst <;> cases y.dst <;> rfl
end Go.AM
namespace Go.AM
variable {U:Uni} {P:Program} {cfg:Cfg U} {B:Base} {g:Gh} {a:Act} {w:World} {Γ:Known U} {ops:Array Oper}
def Ztk(cfg:Cfg U)(Γ:Known U)(ops:Array Oper):List Oper->FSt U->Option (List Fp)
 | [],_=> some []
 | o ::r,st=> match Z7h cfg Γ ops o st with
  | none=> none
  | some (_,e)=> match Ztk cfg Γ ops r (st.app o.dst e) with
   | none=> none
   | some l=> some (Zvp Γ o st e ::l)
def ZuT(ops:List Oper):Nat->Nat->Nat->Bool
 | 0,_,_=> false
 | n+1,k,h=> match ops[h]? with
  | none=> false
  | some o=> o.after.toList.any fun e=> Region.binds .any e && (Nat.beq e.on k || (Nat.blt k e.on && ZuT ops n k e.on))
def Zg5:Nat->List Oper->Bool
 | _,[]=> true
 | i,o ::r=> (o.after.toList.all fun e=> !Region.binds .any e || Nat.blt e.on i) && Zg5 (i+1) r
def Zyt(ops:Array Oper)(fps:List Fp)(k h:Nat):Bool:=
 ZuT ops.toList 5 k h || match ops.toList[k]?,ops.toList[h]?,fps[k]?,fps[h]? with
  | some x,some y,some a,some b=> Zm7 ops x y a b
  | _,_,_,_=> false
def Zsa(ops:Array Oper)(fps:List Fp):Bool:=
 (List.range ops.toList.length).all fun h=> (List.range h).all fun k=> Zyt ops fps k h
def Z1P(cfg:Cfg U)(Γ:Known U)(ops:Array Oper)(st:FSt U):Bool:=
 match Ztk cfg Γ ops ops.toList st with
 | some fps=> Zg5 0 ops.toList && Zsa ops fps
 | none=> false
inductive Run (cfg:Cfg U) (Γ:Known U) (ops:Array Oper) (fp:Nat->Option Fp):List Nat->FSt U->FSt U->Prop
 | nil (st):Run cfg Γ ops fp [] st st
 | cons (i l st st' o ps e):ops[i]?=some o->Z7h cfg Γ ops o st=some (ps,e)->All ps->fp i=some (Zvp Γ o st e)->Run cfg Γ ops fp l (st.app o.dst e) st'->Run cfg Γ ops fp (i ::l) st st'
theorem ZeK{fps:List Fp}:∀ (l:List Oper) (k:Nat) (st st':FSt U) (ps:List Prop) (fl:List Fp),(∀ j,l[j]?=ops[k+j]?)->(∀ j,fl[j]?=fps[k+j]?)->ZiM cfg Γ ops false l st=some (ps,st')->All ps->Ztk cfg Γ ops l st=some fl->
  Run cfg Γ ops (fun i=> fps[i]?) (List.range' k l.length) st st'
 | [],k,st,st',ps,fl,_,_,h,_,_=> by
  simp only [ZiM,oP] at h
  obtain ⟨_,rfl⟩:=h
  exact .nil st
 | o ::l,k,st,st',ps,fl,hl,hf,h,hps,hfl=> by
  rw [Zev] at h
  simp only [ZG1] at h
  simp only [Ztk] at hfl
  split at h
  .cases h
  .rename_i ae e1 h1
   rw [h1] at hfl
   simp only at hfl
   split at h
   .cases h
   .rename_i qs aj h2
    split at hfl
    .cases hfl
    .rename_i s d
     simp only [oP] at h hfl
     obtain ⟨rfl,rfl⟩:=h
     subst hfl
     obtain ⟨ab,aa⟩:=All.append hps
     rw [Q8,List.range'_succ]
     refine .cons k _ st _ o ae e1 ?_ h1 ab ?_ ?_
     .have:=hl 0;grind
     .have:=hf 0;grind
     .exact ZeK l (k+1) _ _ qs s (fun j=> by have:=hl (j+1);grind) (fun j=> by have:=hf (j+1);grind) h2 aa d
def ZHY(ops:Array Oper)(fp:Nat->Option Fp)(k h:Nat):Prop:=∃ x y p q,ops[k]?=some x/\ops[h]?=some y/\fp k=some p/\fp h=some q/\Zm7 ops x y p q=true
theorem ZJZ{fp:Nat->Option Fp}{h:Nat}{post:List Nat}:∀ (pre:List Nat) (st st':FSt U),Run cfg Γ ops fp (pre++h ::post) st st'->(∀ k∈pre,ZHY ops fp k h)->
  ∃ o ps e,ops[h]?=some o/\Z7h cfg Γ ops o st=some (ps,e)/\All ps/\fp h=some (Zvp Γ o st e)/\Run cfg Γ ops fp (pre++post) (st.app o.dst e) st'
 | [],st,st',hr,_=> by
  cases hr with
  | cons _ _ _ _ o ps e h1 h2 h3 h4 h5=> grind
 | k ::pre,st,st',hr,hf=> by
  cases hr with
  | cons _ _ _ _ x ps e h1 h2 h3 h4 h5=>
   obtain ⟨y,qs,f,h6,h7,h8,h9,al⟩:=ZJZ pre _ st' h5 (fun j hj=> hf j (by simp [hj]))
   obtain ⟨x',y',p,q,g1,g2,g3,g4,g5⟩:=hf k (by simp)
   rw [h1] at g1
   rw [h6] at g2
   rw [h4] at g3
   rw [h9] at g4
   cases g1;cases g2;cases g3;cases g4
   simp only [Zm7,Q2,X3] at g5
   obtain ⟨⟨⟨⟨⟨⟨⟨⟨⟨⟨⟨⟨⟨a1,a2⟩,a3⟩,a4⟩,a5⟩,a6⟩,a7⟩,b3⟩,b4⟩,b5⟩,b6⟩,b7⟩,b8⟩,b9⟩:=g5
   simp only [Zvp] at a3 a4 a5 a6 a7 b3 b4 b5 b6 b7 b8 b9
   have ty:touch y (st.app x.dst e)=touch y st:=by
    refine Z7r (ops:=ops) fun t ht=> ?_
    obtain ⟨b1,_,_⟩:=Oper.apart_spec a1
    cases hd:x.dst with
    | none=> rfl
    | some d=>
     have s:t≠d:=fun e=> b1 d hd (e▸ht)
     have:Nat.beq t d=false:=by
      cases hb:Nat.beq t d with
      | false=> rfl
      | true=> exact absurd (Ql hb) s
     simp [FSt.app,FSt.put,this]
   rw [ty] at a3
   have ah:touchT y (st.app x.dst e)=touchT y st:=by
    refine Zbq (ops:=ops) fun t ht=> ?_
    obtain ⟨b1,_,_⟩:=Oper.apart_spec a1
    cases hd:x.dst with
    | none=> rfl
    | some d=>
     have s:t≠d:=fun e=> b1 d hd (e▸ht)
     have:Nat.beq t d=false:=by
      cases hb:Nat.beq t d with
      | false=> rfl
      | true=> exact absurd (Ql hb) s
     simp [FSt.app,FSt.put,this]
   rw [ah] at b3
   have af:Z1E Γ y (st.app x.dst e)=Z1E Γ y st:=by
    refine Zal (ops:=ops) fun t ht=> ?_
    obtain ⟨b1,_,_⟩:=Oper.apart_spec a1
    cases hd:x.dst with
    | none=> rfl
    | some d=>
     have s:t≠d:=fun e=> b1 d hd (e▸ht)
     have:Nat.beq t d=false:=by
      cases hb:Nat.beq t d with
      | false=> rfl
      | true=> exact absurd (Ql hb) s
     simp [FSt.app,FSt.put,this]
   rw [af] at b8
   have ay:=Zky (st:=st) (e:=e) a1 a3 a6 b3 b6 (by simpa using b8)
   have hy:Z7h cfg Γ ops y st=some (qs,f):=by rw [<-h7];exact (ZfE ay).symm
   have tx:touch x (st.app y.dst f)=touch x st:=by
    refine Z7r (ops:=ops) fun t ht=> ?_
    obtain ⟨b1,_,_⟩:=Oper.apart_spec a2
    cases hd:y.dst with
    | none=> rfl
    | some d=>
     have s:t≠d:=fun e=> b1 d hd (e▸ht)
     have:Nat.beq t d=false:=by
      cases hb:Nat.beq t d with
      | false=> rfl
      | true=> exact absurd (Ql hb) s
     simp [FSt.app,FSt.put,this]
   have ao:touchT x (st.app y.dst f)=touchT x st:=by
    refine Zbq (ops:=ops) fun t ht=> ?_
    obtain ⟨b1,_,_⟩:=Oper.apart_spec a2
    cases hd:y.dst with
    | none=> rfl
    | some d=>
     have s:t≠d:=fun e=> b1 d hd (e▸ht)
     have:Nat.beq t d=false:=by
      cases hb:Nat.beq t d with
      | false=> rfl
      | true=> exact absurd (Ql hb) s
     simp [FSt.app,FSt.put,this]
   have aq:Z1E Γ x (st.app y.dst f)=Z1E Γ x st:=by
    refine Zal (ops:=ops) fun t ht=> ?_
    obtain ⟨b1,_,_⟩:=Oper.apart_spec a2
    cases hd:y.dst with
    | none=> rfl
    | some d=>
     have s:t≠d:=fun e=> b1 d hd (e▸ht)
     have:Nat.beq t d=false:=by
      cases hb:Nat.beq t d with
      | false=> rfl
      | true=> exact absurd (Ql hb) s
     simp [FSt.app,FSt.put,this]
   have ax:=Zky (st:=st) (e:=f) a2 a4 a7 b4 b7 (by simpa using b9)
   have hx:Z7h cfg Γ ops x (st.app y.dst f)=some (ps,e):=by rw [<-h2];exact ZfE ax
   refine ⟨y,qs,f,h6,hy,h8,by rw [h9];simp only [Zvp,ty,ah,af],?_⟩
   refine .cons k _ _ _ x ps e h1 hx h3 ?_ ?_
   .rw [h4];simp only [Zvp,tx,ao,aq]
   .rw [<-ZAI a1 a5 b5];exact al
theorem Zf3{listed:Array Bool}(hdown:∀ j o,ops[j]?=some o->listed.getD j false=true->∀ e∈o.after,Region.binds .any e=true->listed.getD e.on false=true):∀ (n k h:Nat) (o:Oper),ops[h]?=some o->
  (∀ e∈o.after,Region.binds .any e=true->listed.getD e.on false=true)->ZuT ops.toList n k h=true->listed.getD k false=true
 | 0,k,h,o,_,_,s=> by trivial
 | n+1,k,h,o,ho,hr,s=> by
  have ab:ops.toList[h]?=some o:=by simpa using ho
  simp only [ZuT,ab,List.any_eq_true] at s
  obtain ⟨e,he,s⟩:=s
  simp only [Q2,XU] at s
  obtain ⟨h1,d⟩:=s
  have aa:e∈o.after:=by simpa using he
  have hl:=hr e aa h1
  rcases d with d | ⟨_,d⟩
  .rw [<-Ql d];exact hl
  .cases hoe:ops[e.on]? with
   | none=>
    have:ops.toList[e.on]?=none:=by simpa using hoe
    cases n with
    | zero=> trivial
    | succ n=> simp [ZuT,this] at d
   | some o2=> exact Zf3 hdown n k e.on o2 hoe (hdown e.on o2 hoe hl) d
theorem Zm9(l:List Oper):∀ (i:Nat),Zg5 i l=true->∀ (j:Nat) (o:Oper),l[j]?=some o->∀ e∈o.after,Region.binds .any e=true->e.on < i+j:=by
 induction l with
 | nil=> grind
 | cons o l ih=>
  intro i h j o' d e s hb
  simp only [Zg5,Q2] at h
  cases j with
  | zero=>
   simp at d
   subst d
   have:=QE.1 h.1 e (by simpa using s)
   simp_all
  | succ j=>
   grind
theorem ZkE (ok:CfgOk P cfg) (hΓ:∀ f s,Γ f=some s->Contract P cfg f s) {fp:Nat->Option Fp} {Q:Exit->Act->World->Prop} {st':FSt U}
  (hedge:∀ (j:Nat) o,ops[j]?=some o->∀ e∈o.after,Region.binds .any e=true->e.on < j)
  (hpair:∀ k h,k < h->h < ops.size->ZuT ops.toList 5 k h=true\/ZHY ops fp k h)
  (hQ:∀ g' a' w',Rel cfg B st' g' a' w'->Q .normal a' w'):∀ (aa:Nat) (l:List Nat) (listed:Array Bool) (st:FSt U) (g:Gh) (a:Act) (w:World),
   l.length<=aa->l.Pairwise (· < ·)->listed.size=ops.size->(∀ i,i < ops.size->(listed.getD i false=false↔i∈l))->(∀ i∈l,i < ops.size)->
   (∀ j o,ops[j]?=some o->listed.getD j false=true->∀ e∈o.after,Region.binds .any e=true->listed.getD e.on false=true)->
   Run cfg Γ ops fp l st st'->Rel cfg B st g a w->wpAny P .any ops Q aa listed a w:=by
 intro aa
 have al:∀ (listed:Array Bool) i,listed.size=ops.size->i < ops.size->listed.getD i true=listed.getD i false:=by
  intro listed i hs hi
  simp [Array.getD,hs,hi]
 have done:∀ (l:List Nat) (listed:Array Bool),l.Pairwise (· < ·)->listed.size=ops.size->(∀ i,i < ops.size->(listed.getD i false=false↔i∈l))->(∀ i∈l,i < ops.size)->Region.ready .any ops listed=[]->l=[]:=by
  intro l listed d ah hl ai hr
  cases l with
  | nil=> rfl
  | cons i l=>
   exfalso
   have hi:=ai i (by simp)
   have be:i∈Region.ready .any ops listed:=by
    rw [mem_ready]
    refine ⟨by grind,ops[i],QW hi,fun e he hb=> ?_⟩
    have h1:=hedge i _ (QW hi) e he hb
    cases hx:listed.getD e.on false with
    | true=> rfl
    | false=>
     have:=(hl e.on V1).1 hx
     rcases Qa.1 this with h2 | h2
     .omega
     .have:=(List.pairwise_cons.1 d).1 _ h2
      omega
   grind
 induction aa with
 | zero=>
  intro l listed st g a w ay d ah hl ai ab ae ak
  have h0:l=[]:=Q3 V1
  subst h0
  cases ae
  refine ⟨?_,hQ g a w ak⟩
  cases hr:Region.ready .any ops listed with
  | nil=> rfl
  | cons i r=>
   have hm:i∈Region.ready .any ops listed:=by rw [hr];simp
   obtain ⟨h1,o,ho,_⟩:=mem_ready.1 hm
   grind
 | succ aa ih=>
  intro l listed st g a w ay d ah hl ai ab ae ak
  refine ⟨fun hr=> ?_,fun i hi=> ?_⟩
  .have h0:=done l listed d ah hl ai hr
   subst h0
   cases ae
   grind
  .obtain ⟨h1,o,ho,af⟩:=mem_ready.1 hi
   have aj:=(QU.1 ho).1
   rw [al listed i ah aj] at h1
   have a9:=(hl i aj).1 h1
   obtain ⟨pre,post,rfl⟩:=List.append_of_mem a9
   have az:∀ k∈pre,ZHY ops fp k i:=by
    intro k hk
    have bb:k < i:=by
     have:=List.pairwise_append.1 d
     exact this.2.2 k hk i (by simp)
    rcases hpair k i bb aj with h2 | h2
    .have h3:=Zf3 ab 5 k i o ho af h2
     grind
    .exact h2
   obtain ⟨o',ps,e,h2,h3,h4,_,h6⟩:=ZJZ pre st st' ae az
   rw [ho] at h2
   cases h2
   unfold wpOp
   simp only [ho]
   have ao:=ZfD (K:=wpAny P .any ops Q aa (listed.setIfInBounds i true)) (Q:=Q) ok hΓ ak h3 h4 (by
    intro g' a' w' ar
    refine ih (pre++post) (listed.setIfInBounds i true) _ g' a' w' ?_ ?_ ?_ ?_ ?_ ?_ h6 ar
    .grind
    .exact d.sublist (List.Sublist.append_left (List.sublist_cons_self i post) pre)
    .simp [ah]
    .intro j hj
     by_cases hij:i=j
     .subst hij
      have a8:i∉pre++post:=by
       have hp:=List.pairwise_append.1 d
       intro hm
       rcases Qg.1 hm with hm | hm
       .grind
       .have:=(List.pairwise_cons.1 hp.2.1).1 i hm;omega
      simp [Array.getD,ah,hj,a8]
     .rw [getD_set_ne false hij,hl j hj]
      grind
    .intro j hj
     exact ai j (by
      grind)
    .intro j oj aq ax e he hb
     by_cases hij:i=j
     .subst hij
      rw [ho] at aq
      cases aq
      exact getD_set_true (af e he hb)
     .rw [getD_set_ne false hij] at ax
      exact getD_set_true (ab j oj aq ax e he hb))
   split at ao
   .grind
   grind
theorem Z3w(ok:CfgOk P cfg)(hΓ:∀ f s,Γ f=some s->Contract P cfg f s):Zdl P cfg Γ (Z1P cfg Γ):=by
 intro B st ai g a w id ops ps Q hd d af al hQ
 unfold Z1P at hd
 split at hd
 case h_2=> cases hd
 rename_i fps hf
 simp only [Q2] at hd
 obtain ⟨aj,ab⟩:=hd
 refine wp_region_any ok.mixed ?_
 have hR:=ZeK (ops:=ops) (fps:=fps) ops.toList 0 st ai ps fps (fun j=> by simp) (fun j=> by simp) af al hf
 have ae:Rel cfg B st g a { w with drawn:=w.drawn+1 }:=by
  have hc:∀ b,({ w with drawn:=w.drawn+1 }:World).cell? b=w.cell? b:=fun _=> rfl
  exact ⟨⟨fun c v hv=> d.inv.im c v hv,fun c t ht=> d.inv.it c t ht⟩,
   ⟨⟨d.fr.stay.os,d.fr.stay.tape,d.fr.stay.output,d.fr.stay.size⟩,d.fr.xad,d.fr.mono,d.fr.outer,d.fr.outer',d.fr.clean,d.fr.frz⟩,d.env,d.mem,d.sz,d.df,fun t x hx=> d.ls t x hx,d.fresh⟩
 refine ZkE (fp:=fun i=> fps[i]?) ok hΓ ?_ ?_ hQ ops.size (List.range' 0 ops.toList.length) _ st g a _ (by simp) List.pairwise_lt_range' (by simp) ?_ ?_ ?_ hR ae
 .intro j o ho e he hb
  have:=Zm9 ops.toList 0 aj j o (by simpa using ho) e he hb
  omega
 .intro k h ay hh
  unfold Zsa at ab
  rw [QE] at ab
  have h1:=ab h (by simpa using hh)
  rw [QE] at h1
  have h2:=h1 k (by grind)
  unfold Zyt at h2
  rw [XU] at h2
  rcases h2 with h2 | h2
  .exact .inl h2
  .right
   split at h2
   .rename_i x y p q hx hy hp hq
    exact ⟨x,y,p,q,by simpa using hx,by simpa using hy,hp,hq,h2⟩
   .cases h2
 .simp_all
 .grind
 .intro j o ho hl
  have hj:=(QU.1 ho).1
  simp_all
end Go.AM
namespace Go.AM
variable {U:Uni} {P:Program}
def Z84{α:Type}:List (Nat × α)->Nat->Option α
 | [],_=> none
 | (a,x) ::r,t=> bif Nat.beq a t then some x else Z84 r t
theorem Z5U{α:Type}:∀ {l:List (Nat × α)} {t:Nat} {x:α},Z84 l t=some x->(t,x)∈l
 | (a,y) ::r,t,x,h=> by
  simp only [Z84] at h
  cases hb:Nat.beq a t with
  | true=>
   simp_all
  | false=> simp [hb] at h;exact Q0 _ (Z5U h)
def ZsJ:List (Nat × Nat × Nat × Nat)->Nat->Nat->Option (Nat × Nat)
 | [],_,_=> none
 | (a,b,x) ::r,t,f=> bif Nat.beq a t && Nat.beq b f then some x else ZsJ r t f
theorem Zk4:∀ {l:List (Nat × Nat × Nat × Nat)} {t f:Nat} {x:Nat × Nat},ZsJ l t f=some x->(t,f,x)∈l
 | (a,b,y) ::r,t,f,x,h=> by
  simp only [ZsJ] at h
  cases hb:Nat.beq a t && Nat.beq b f with
  | true=>
   simp_all
  | false=> simp [hb] at h;exact Q0 _ (Zk4 h)
structure Codec (U:Uni) where
 tyEq:DecidableEq U.Ty
 dflt:(T:U.Ty)->U.El T
 enc:(T:U.Ty)->U.El T->List (C U)
 dec:(T:U.Ty)->List (C U)->Option (U.El T)
 aggT:U.Ty->Bool
 sz:U.Ty->Nat
 bytes:U.Ty->Nat
structure CodecOk (K:Codec U):Prop where
 enc_len:∀ T x,(K.enc T x).length=K.sz T
 enc_plain:∀ T x c,c∈K.enc T x->c.plain=true
 dec_ok:∀ T cs x,K.dec T cs=some x->cs.length=(K.enc T x).length/\∀ (j:Nat) c c',cs[j]?=some c->(K.enc T x)[j]?=some c'->Wk c c'
 sz_pos:∀ T,0 < K.sz T
 bytes_pos:∀ T,0 < K.bytes T
structure Tables (U:Uni) where
 el:U.Ty->TypeId
 sl:List (Nat × U.Ty)
 var:List (Nat × Bool × List (C U))
 fld:List (Nat × Nat × Nat × Nat)
 arr:List (Nat × Nat × Nat)
 eqs:List Nat:=[]
def Tables.cfg(K:Codec U)(T:Tables U):Cfg U:=
 {tyEq:=K.tyEq,dflt:=K.dflt,enc:=K.enc,dec:=K.dec,aggT:=K.aggT,sz:=K.sz,bytes:=K.bytes,elT:=T.el,
  slT:=Z84 T.sl,var:=Z84 T.var,fld:=ZsJ T.fld,arr:=Z84 T.arr,eqs:=fun t=> T.eqs.any (Nat.beq t) }
def ZGU:Option (C U)->C U->Bool
 | some (.int k n),.int k' n'=> k==k' && n==n'
 | some (.bool b),.bool b'=> b==b'
 | some .nils,.nils=> true
 | some .nilp,.nilp=> true
 | _,_=> false
theorem ZD2{x:Option (C U)}{c:C U}(h:ZGU x c=true):x=some c:=by
 unfold ZGU at h
 grind
def ZD1:List Value->List (C U)->Bool
 | [],[]=> true
 | v ::r,c ::s=> ZGU (Z1j v) c && ZD1 r s
 | _,_=> false
theorem Ztm:∀ {vs:List Value} {cs:List (C U)},ZD1 vs cs=true->vs.map Z1j=cs.map some
 | [],[],_=> rfl
 | v ::r,c ::s,h=> by
  simp only [ZD1,Q2] at h
  simp [ZD2 h.1,Ztm h.2]
def Zw4(ag:Bool)(z:Value)(zs:List (C U)):Bool:=
 (match z,ag with
  | .agg _,true=> true
  | .agg _,false=> false
  | .tuple _,_=> false
  | _,false=> true
  | _,true=> false) && ZD1 z.cells.toList zs
theorem Zw3{ag:Bool}{z:Value}{zs:List (C U)}(h:Zw4 ag z zs=true):ZDk ag z zs:=by
 unfold Zw4 at h
 simp only [Q2] at h
 obtain ⟨s,h2⟩:=h
 refine ⟨fun d=> ?_,fun d=> ?_,Ztm h2⟩
 .grind
 .subst d
  cases z <;> first | rfl | (simp at s;done)
def Zth:List (C U)->TypeDesc->Bool
 | [.int k _],.int k'=> k==k'
 | [.int _ _],_=> false
 | [.bool _],.bool=> true
 | [.bool _],_=> false
 | [.nilp],.pointer _=> true
 | [.nilp],_=> false
 | _,_=> true
def ZBz(P:Program)(x:Nat × Bool × List (C U)):Bool:=
 match P.info? x.1,P.underlying x.1 with
 | some i,some d=> (Nat.beq i.size x.2.2.length && Nat.blt 0 x.2.2.length) && (TypeDesc.ag d==x.2.1) &&
  (match i.zero with | some z=> Zw4 x.2.1 z x.2.2 | none=> false) && (x.2.1 || Zth x.2.2 d) &&
  (match d with
   | .struct fs=> fs.toList.all fun fd=> (P.info? fd.type).isSome
   | .array _ e=> (P.info? e).isSome
   | _=> true)
 | _,_=> false
def slB(P:Program)(el:U.Ty->TypeId)(x:Nat × U.Ty):Bool:=
 match P.underlying x.1 with
 | some (.slice e)=> Nat.beq e (el x.2)
 | _=> false
def ZGT(P:Program)(x:Nat × Nat × Nat × Nat):Bool:=
 match P.underlying x.1 with
 | some (.struct fs)=> match fs.toList[x.2.1]? with
  | some fd=> Nat.beq fd.offset x.2.2.1 && Nat.beq fd.type x.2.2.2
  | none=> false
 | _=> false
def ZHQ(P:Program)(x:Nat × Nat × Nat):Bool:=
 match P.underlying x.1 with
 | some (.array n e)=> Nat.beq n x.2.1 && Nat.beq e x.2.2
 | _=> false
def eqK(P:Program)(z:Option (C U))(t:TypeId):Bool:=
 match z,P.underlying t with
 | some (.int _ _),some (.int _)=> true
 | some (.bool _),some .bool=> true
 | _,_=> false
def eqB(P:Program)(var:List (Nat × Bool × List (C U)))(t:Nat):Bool:=
 match P.underlying t with
 | some (.struct fs)=> (match Z84 var t with
   | some (_,zs)=> Nat.beq zs.length fs.size
   | none=> true) && !P.stoodInHeld t && !P.eqGuardType P.depth t &&
  ((List.range fs.size).all fun i=> match fs[i]? with
   | some f => f.name != "_" && Nat.beq f.offset i && (match Z84 var t with
    | some (_,zs)=> eqK P zs[i]? f.type
    | none=> true)
   | none=> false)
 | _=> false
def elB(P:Program)(K:Codec U)(T:Tables U)(t:U.Ty):Bool:=
 match P.info? (T.el t),Z84 T.var (T.el t) with
 | some i,some (_,zs)=> Nat.beq i.size (K.sz t) && Nat.beq i.bytes (K.bytes t) && i.zero.isSome && Nat.beq zs.length (K.sz t)
 | _,_=> false
theorem Zut {K:Codec U} (ck:CodecOk K) {T:Tables U} (hv:T.var.all (ZBz P)=true) (hs:T.sl.all (slB P T.el)=true) (hf:T.fld.all (ZGT P)=true) (ha:T.arr.all (ZHQ P)=true)
  (he:∀ t,elB P K T t=true) (hm:P.follows .mixedOrders=true) (hq:T.eqs.all (eqB P T.var)=true):CfgOk P (T.cfg K):=by
 refine ⟨ck.enc_len,ck.enc_plain,ck.dec_ok,ck.sz_pos,ck.bytes_pos,?_,?_,?_,?_,?_,hm,?_,?_⟩
 .intro t
  have h:=he t
  unfold elB at h
  split at h
  .rename_i i ag zs h1 h2
   simp only [Q2] at h
   obtain ⟨⟨⟨h3,h4⟩,h5⟩,h6⟩:=h
   obtain ⟨z,hz⟩:=Qx.1 h5
   exact ⟨i,ag,zs,z,h1,Ql h3,Ql h4,hz,h2,Ql h6⟩
  .cases h
 .intro t S h
  have:=QE.1 hs _ (Z5U h)
  unfold slB at this
  simp only at this
  split at this
  .rename_i e hu
   rw [hu,Ql this];try rfl
  .cases this
 .intro t ag zs h
  have:=QE.1 hv _ (Z5U h)
  unfold ZBz at this
  simp only at this
  split at this
  .rename_i i d hi hu
   simp only [Q2] at this
   obtain ⟨⟨⟨⟨⟨h1,h2⟩,h3⟩,h4⟩,h5⟩,h6⟩:=this
   split at h4
   .rename_i z hz
    refine ⟨Nat.blt_eq.mp h2,i,z,d,hi,hu,Ql h1,by simpa using h3,hz,Zw3 h4,?_,?_,?_,?_⟩
    .intro ak k n ai
     subst ak
     simp only [Bool.false_or] at h5
     subst ai
     unfold Zth at h5
     split at h5 <;> simp_all
    .intro ak b ai
     subst ak
     simp only [Bool.false_or] at h5
     subst ai
     unfold Zth at h5
     split at h5 <;> simp_all
    .intro fs hd
     subst hd
     exact h6
    .intro n e hd
     subst hd
     exact h6
   .cases h4
  .cases this
 .intro s f a1 t h
  have:=QE.1 hf _ (Zk4 h)
  unfold ZGT at this
  simp only at this
  split at this
  .rename_i fs hu
   split at this
   .rename_i fd ax
    simp only [Q2] at this
    exact ⟨fs,fd,hu,by simpa using ax,Nat.eq_of_beq_eq_true this.1,Nat.eq_of_beq_eq_true this.2⟩
   .cases this
  .cases this
 .intro t n e h
  have:=QE.1 ha _ (Z5U h)
  unfold ZHQ at this
  simp only at this
  split at this
  .rename_i n' e' hu
   simp only [Q2] at this
   rw [hu,Ql this.1,Ql this.2]
  .cases this
 .intro t ht
  obtain ⟨t',h1,h2⟩:=List.any_eq_true.1 ht
  have e:=Ql h2
  subst e
  have h3:=QE.1 hq _ h1
  unfold eqB at h3
  split at h3
  .rename_i fs hu
   simp only [Q2,X3] at h3
   obtain ⟨⟨⟨h4,h5⟩,h6⟩,h7⟩:=h3
   refine ⟨fs,hu,fun ag zs hz=> ?_,h5,h6,fun i f hf=> ?_⟩
   .have ah:Z84 T.var t=some (ag,zs):=hz
    rw [ah] at h4
    exact Ql h4
   .have hi:=(QU.1 hf).1
    have h8:=QE.1 h7 i (by simpa using hi)
    rw [hf] at h8
    simp only [Q2,bne_iff_ne,ne_eq] at h8
    refine ⟨h8.1.1,Ql h8.1.2,fun ag zs hz=> ?_⟩
    have h9:=h8.2
    have ah:Z84 T.var t=some (ag,zs):=hz
    rw [ah] at h9
    dsimp only at h9
    unfold eqK at h9
    split at h9
    .rename_i e1 e2
     exact ⟨fun _ _ _=> ⟨_,e2⟩,fun _ h=> by (rw [e1] at h;cases h)⟩
    .rename_i e1 e2
     exact ⟨fun _ _ h=> by (rw [e1] at h;cases h),fun _ _=> e2⟩
    .cases h9
  .cases h3
 .intro t h
  have:=QE.1 hv _ (Z5U h)
  unfold ZBz at this
  simp only at this
  split at this
  .rename_i i d hi hu
   simp only [Q2] at this
   obtain ⟨⟨_,h5⟩,_⟩:=this
   cases d <;> first | exact ⟨_,hu⟩ | (simp [Zth] at h5;done)
  .cases this
end Go.AM
namespace Go.AM
structure WEdit where
 at_:Int
 mask:Int
 old:Int
 new:Int
inductive Tree where
 | mk (kind:Int) (words:List Int) (kids:List Tree)
def Tree.kind:Tree->Int | .mk k _ _=> k
def Tree.words:Tree->List Int | .mk _ w _=> w
def Tree.kids:Tree->List Tree | .mk _ _ k=> k
@[simp] theorem Tree.eta (t:Tree):Tree.mk t.kind t.words t.kids=t:=by cases t;rfl
@[simp] theorem Tree.kind_mk (k:Int) (w:List Int) (ks:List Tree):(Tree.mk k w ks).kind=k:=rfl
@[simp] theorem Tree.words_mk (k:Int) (w:List Int) (ks:List Tree):(Tree.mk k w ks).words=w:=rfl
@[simp] theorem Tree.kids_mk (k:Int) (w:List Int) (ks:List Tree):(Tree.mk k w ks).kids=ks:=rfl
structure KidOf (E:Type) where
 at_:Int
 e:E
structure OpOf (E:Type) where
 kind:Int
 n:Int
 l:List Tree
 e:E
inductive Edit where
 | mk (kind:Int) (old new:Tree) (words:List WEdit) (kids:List (KidOf Edit)) (list:Int) (ops:List (OpOf Edit))
abbrev Kid:=KidOf Edit
abbrev Op:=OpOf Edit
def Edit.kind:Edit->Int | .mk k _ _ _ _ _ _=> k
def Edit.old:Edit->Tree | .mk _ o _ _ _ _ _=> o
def Edit.new:Edit->Tree | .mk _ _ n _ _ _ _=> n
def Edit.words:Edit->List WEdit | .mk _ _ _ w _ _ _=> w
def Edit.kids:Edit->List Kid | .mk _ _ _ _ k _ _=> k
def Edit.list:Edit->Int | .mk _ _ _ _ _ l _=> l
def Edit.ops:Edit->List Op | .mk _ _ _ _ _ _ o=> o
@[simp] theorem Edit.eta (e:Edit):Edit.mk e.kind e.old e.new e.words e.kids e.list e.ops=e:=by cases e;rfl
section
variable (k:Int) (o n:Tree) (w:List WEdit) (ks:List Kid) (l:Int) (os:List Op)
@[simp] theorem Edit.kind_mk:(Edit.mk k o n w ks l os).kind=k:=rfl
@[simp] theorem Edit.old_mk:(Edit.mk k o n w ks l os).old=o:=rfl
@[simp] theorem Edit.new_mk:(Edit.mk k o n w ks l os).new=n:=rfl
@[simp] theorem Edit.words_mk:(Edit.mk k o n w ks l os).words=w:=rfl
@[simp] theorem Edit.kids_mk:(Edit.mk k o n w ks l os).kids=ks:=rfl
@[simp] theorem Edit.list_mk:(Edit.mk k o n w ks l os).list=l:=rfl
@[simp] theorem Edit.ops_mk:(Edit.mk k o n w ks l os).ops=os:=rfl
end
def Tree.nil:Tree:= .mk 0 [] []
def Edit.nil:Edit:= .mk 0 Tree.nil Tree.nil [] [] 0 []
def Op.nil:Op:=⟨0,0,[],Edit.nil⟩
structure AUnit where
 step:Int
 kind:Int
 t:Tree
 e:Edit
 alone:Bool
def AUnit.nil:AUnit:=⟨0,0,Tree.nil,Edit.nil,false⟩
structure PStep where
 kind:Int
 at_:Int
structure Piece where
 of:Int
 p:Op
 q:Op
structure APair where
 of:Int
 p:AUnit
 q:AUnit
structure LeftE where
 x:Edit
 y:Edit
 clash:Bool
 apart:Bool
structure Deed where
 kind:Int
 i:Int
 e:Edit
structure HDeed where
 kind:Int
 who:Int
 version:Int
 e:Edit
inductive Ty where
 | u64 | u8 | int | tree | wedit | edit | kid | op | piece | unit | pair | left | deed | hdeed
 deriving DecidableEq
@[reducible] def El:Ty->Type
 | .u64=> Int
 | .u8=> Int
 | .int=> Int
 | .tree=> Tree
 | .wedit=> WEdit
 | .edit=> Edit
 | .kid=> Kid
 | .op=> Op
 | .piece=> Piece
 | .unit=> AUnit
 | .pair=> APair
 | .left=> LeftE
 | .deed=> Deed
 | .hdeed=> HDeed
@[reducible] def U:Uni:={ Ty:=Ty,El:=El }
abbrev sl(T:Ty)(l:List (El T)):C U:= .slice (U:=U) T l .unk
def ZFb(x:Tree):List (C U):=[.int .i64 x.kind,sl .u64 x.words,sl .tree x.kids]
def ZA0(x:WEdit):List (C U):=[.int .i64 x.at_,.int .u8 x.mask,.int .u64 x.old,.int .u64 x.new]
def ZFe(x:Edit):List (C U):=[.int .i64 x.kind,.int .i64 x.old.kind,sl .u64 x.old.words,sl .tree x.old.kids,.int .i64 x.new.kind,sl .u64 x.new.words,sl .tree x.new.kids,sl .wedit x.words,sl .kid x.kids,.int .i64 x.list,sl .op x.ops]
def ZKe(x:Kid):List (C U):=[.int .i64 x.at_,.int .i64 x.e.kind,.int .i64 x.e.old.kind,sl .u64 x.e.old.words,sl .tree x.e.old.kids,.int .i64 x.e.new.kind,sl .u64 x.e.new.words,sl .tree x.e.new.kids,sl .wedit x.e.words,sl .kid x.e.kids,.int .i64 x.e.list,sl .op x.e.ops]
def eOp(x:Op):List (C U):=[.int .i64 x.kind,.int .i64 x.n,sl .tree x.l,.int .i64 x.e.kind,.int .i64 x.e.old.kind,sl .u64 x.e.old.words,sl .tree x.e.old.kids,.int .i64 x.e.new.kind,sl .u64 x.e.new.words,sl .tree x.e.new.kids,sl .wedit x.e.words,sl .kid x.e.kids,.int .i64 x.e.list,sl .op x.e.ops]
def ZA1(x:Piece):List (C U):=[.int .i64 x.of,.int .i64 x.p.kind,.int .i64 x.p.n,sl .tree x.p.l,.int .i64 x.p.e.kind,.int .i64 x.p.e.old.kind,sl .u64 x.p.e.old.words,sl .tree x.p.e.old.kids,.int .i64 x.p.e.new.kind,sl .u64 x.p.e.new.words,sl .tree x.p.e.new.kids,sl .wedit x.p.e.words,sl .kid x.p.e.kids,.int .i64 x.p.e.list,sl .op x.p.e.ops,.int .i64 x.q.kind,.int .i64 x.q.n,sl .tree x.q.l,.int .i64 x.q.e.kind,.int .i64 x.q.e.old.kind,sl .u64 x.q.e.old.words,sl .tree x.q.e.old.kids,.int .i64 x.q.e.new.kind,sl .u64 x.q.e.new.words,sl .tree x.q.e.new.kids,sl .wedit x.q.e.words,sl .kid x.q.e.kids,.int .i64 x.q.e.list,sl .op x.q.e.ops]
def ZFa(x:AUnit):List (C U):=[.int .i64 x.step,.int .i64 x.kind,.int .i64 x.t.kind,sl .u64 x.t.words,sl .tree x.t.kids,.int .i64 x.e.kind,.int .i64 x.e.old.kind,sl .u64 x.e.old.words,sl .tree x.e.old.kids,.int .i64 x.e.new.kind,sl .u64 x.e.new.words,sl .tree x.e.new.kids,sl .wedit x.e.words,sl .kid x.e.kids,.int .i64 x.e.list,sl .op x.e.ops,.bool x.alone]
def ZFc(x:APair):List (C U):=[.int .i64 x.of,.int .i64 x.p.step,.int .i64 x.p.kind,.int .i64 x.p.t.kind,sl .u64 x.p.t.words,sl .tree x.p.t.kids,.int .i64 x.p.e.kind,.int .i64 x.p.e.old.kind,sl .u64 x.p.e.old.words,sl .tree x.p.e.old.kids,.int .i64 x.p.e.new.kind,sl .u64 x.p.e.new.words,sl .tree x.p.e.new.kids,sl .wedit x.p.e.words,sl .kid x.p.e.kids,.int .i64 x.p.e.list,sl .op x.p.e.ops,.bool x.p.alone,.int .i64 x.q.step,.int .i64 x.q.kind,.int .i64 x.q.t.kind,sl .u64 x.q.t.words,sl .tree x.q.t.kids,.int .i64 x.q.e.kind,.int .i64 x.q.e.old.kind,sl .u64 x.q.e.old.words,sl .tree x.q.e.old.kids,.int .i64 x.q.e.new.kind,sl .u64 x.q.e.new.words,sl .tree x.q.e.new.kids,sl .wedit x.q.e.words,sl .kid x.q.e.kids,.int .i64 x.q.e.list,sl .op x.q.e.ops,.bool x.q.alone]
def ZFd(x:LeftE):List (C U):=[.int .i64 x.x.kind,.int .i64 x.x.old.kind,sl .u64 x.x.old.words,sl .tree x.x.old.kids,.int .i64 x.x.new.kind,sl .u64 x.x.new.words,sl .tree x.x.new.kids,sl .wedit x.x.words,sl .kid x.x.kids,.int .i64 x.x.list,sl .op x.x.ops,.int .i64 x.y.kind,.int .i64 x.y.old.kind,sl .u64 x.y.old.words,sl .tree x.y.old.kids,.int .i64 x.y.new.kind,sl .u64 x.y.new.words,sl .tree x.y.new.kids,sl .wedit x.y.words,sl .kid x.y.kids,.int .i64 x.y.list,sl .op x.y.ops,.bool x.clash,.bool x.apart]
def ZFf(x:Deed):List (C U):=[.int .i64 x.kind,.int .i64 x.i,.int .i64 x.e.kind,.int .i64 x.e.old.kind,sl .u64 x.e.old.words,sl .tree x.e.old.kids,.int .i64 x.e.new.kind,sl .u64 x.e.new.words,sl .tree x.e.new.kids,sl .wedit x.e.words,sl .kid x.e.kids,.int .i64 x.e.list,sl .op x.e.ops]
def ZA2(x:HDeed):List (C U):=[.int .i64 x.kind,.int .i64 x.who,.int .i64 x.version,.int .i64 x.e.kind,.int .i64 x.e.old.kind,sl .u64 x.e.old.words,sl .tree x.e.old.kids,.int .i64 x.e.new.kind,sl .u64 x.e.new.words,sl .tree x.e.new.kids,sl .wedit x.e.words,sl .kid x.e.kids,.int .i64 x.e.list,sl .op x.e.ops]
def enc:(T:Ty)->El T->List (C U)
 | .u64,n=> [.int .u64 n]
 | .u8,n=> [.int .u8 n]
 | .int,n=> [.int .i64 n]
 | .tree,x=> ZFb x
 | .wedit,x=> ZA0 x
 | .edit,x=> ZFe x
 | .kid,x=> ZKe x
 | .op,x=> eOp x
 | .piece,x=> ZA1 x
 | .unit,x=> ZFa x
 | .pair,x=> ZFc x
 | .left,x=> ZFd x
 | .deed,x=> ZFf x
 | .hdeed,x=> ZA2 x
abbrev Rd(α:Type):=List (C U)->Option (α × List (C U))
def Z3n(k:IntKind):Rd Int
 | .int k' n ::r=> if k=k' then some (n,r) else none
 | _=> none
def Znv:Rd Bool
 | .bool b ::r=> some (b,r)
 | _=> none
def rSl(T:Ty):Rd (List (El T))
 | .nils ::r=> some ([],r)
 | .slice S l _ ::r=> match (inferInstance:DecidableEq Ty) S T with
  | isTrue h=> some (h▸l,r)
  | isFalse _=> none
 | _=> none
def Yy{α β:Type}(x:Rd α)(f:α->Rd β):Rd β:=fun cs=> match x cs with
 | some (a,r)=> f a r
 | none=> none
def Z7H{α:Type}(a:α):Rd α:=fun cs=> some (a,cs)
def WkL:List (C U)->List (C U)->Prop
 | [],[]=> True
 | c ::r,c' ::r'=> Wk c c'/\WkL r r'
 | _,_=> False
theorem WkL.append:∀ {a b c d:List (C U)},WkL a b->WkL c d->WkL (a++c) (b++d)
 | [],[],_,_,_,h=> h
 | _ ::_,_ ::_,_,_,h,k=> ⟨h.1,WkL.append h.2 k⟩
theorem WkL.get:∀ {a b:List (C U)},WkL a b->a.length=b.length/\∀ (j:Nat) c s,a[j]?=some c->b[j]?=some s->Wk c s
 | [],[],_=> ⟨rfl,fun j c s h=> by simp at h⟩
 | x ::a,y ::b,h=> by
  obtain ⟨h1,h2⟩:=WkL.get h.2
  refine ⟨by simp [h1],fun j c s hc d=> ?_⟩
  cases j with
  | zero=> simp at hc d;subst hc d;exact h.1
  | succ j=> exact h2 j c s (by simpa using hc) (by simpa using d)
def Z3b{α:Type}(r:Rd α)(e:α->List (C U)):Prop:=∀ cs x rest,r cs=some (x,rest)->∃ p,cs=p++rest/\WkL p (e x)
theorem Y3(k:IntKind):Z3b (Z3n k) fun n=> [.int k n]:=by
 intro cs x d h
 unfold Z3n at h
 split at h
 .split at h
  .rename_i s
   subst s
   cases h
   exact ⟨[_],rfl,.int _ _,trivial⟩
  .cases h
 .cases h
theorem ZaM:Z3b Znv fun b=> [.bool b]:=by
 intro cs x d h
 unfold Znv at h
 split at h
 .cases h;exact ⟨[_],rfl,.bool _,trivial⟩
 .cases h
theorem Z4d(T:Ty):Z3b (rSl T) fun l=> [sl T l]:=by
 intro cs x s h
 unfold rSl at h
 split at h
 .cases h;exact ⟨[_],rfl,(Wk.snil (U:=U) T:Wk (U:=U) .nils (.slice T [] .unk)),trivial⟩
 .split at h
  .rename_i d _
   subst d
   cases h
   exact ⟨[_],rfl,.slice _ _ _,trivial⟩
  .cases h
 .cases h
theorem YG{α β:Type}{x:Rd α}{f:α->Rd β}{ex:α->List (C U)}(hx:Z3b x ex){cs:List (C U)}{b:β}{rest:List (C U)}(h:Yy x f cs=some (b,rest)):
  ∃ a p r,cs=p++r/\WkL p (ex a)/\f a r=some (b,rest):=by
 unfold Yy at h
 split at h
 .rename_i a r d
  obtain ⟨p,rfl,s⟩:=hx _ _ _ d
  exact ⟨a,p,r,rfl,s,h⟩
 .cases h
def Znu:Rd Tree:=Yy (Z3n .i64) fun x0=> Yy (rSl .u64) fun d=> Yy (rSl .tree) fun h=> Z7H (Tree.mk x0 d h)
theorem Z6M:Z3b Znu ZFb:=by
 intro cs x d h
 obtain ⟨x0,s,r0,rfl,w0,h⟩:=YG (Y3 _) h
 obtain ⟨x1,p1,r1,rfl,w1,h⟩:=YG (Z4d _) h
 obtain ⟨x2,p2,r2,rfl,w2,h⟩:=YG (Z4d _) h
 cases h
 exact ⟨s++(p1++(p2)),by simp,w0.append (w1.append (w2))⟩
def Zyg:Rd WEdit:=Yy (Z3n .i64) fun x0=> Yy (Z3n .u8) fun h=> Yy (Z3n .u64) fun s=> Yy (Z3n .u64) fun d=> Z7H (WEdit.mk x0 h s d)
theorem Znq:Z3b Zyg ZA0:=by
 intro cs x d h
 obtain ⟨x0,p0,r0,rfl,w0,h⟩:=YG (Y3 _) h
 obtain ⟨x1,p1,r1,rfl,w1,h⟩:=YG (Y3 _) h
 obtain ⟨x2,s,r2,rfl,w2,h⟩:=YG (Y3 _) h
 obtain ⟨x3,p3,r3,rfl,w3,h⟩:=YG (Y3 _) h
 cases h
 exact ⟨p0++(p1++(s++(p3))),by simp,w0.append (w1.append (w2.append (w3)))⟩
def ZbZ:Rd Edit:=Yy (Z3n .i64) fun x0=> Yy Znu fun x1=> Yy Znu fun h=> Yy (rSl .wedit) fun s=> Yy (rSl .kid) fun d=> Yy (Z3n .i64) fun x5=> Yy (rSl .op) fun x6=> Z7H (Edit.mk x0 x1 h s d x5 x6)
theorem Z0U:Z3b ZbZ ZFe:=by
 intro cs x d h
 obtain ⟨x0,p0,r0,rfl,w0,h⟩:=YG (Y3 _) h
 obtain ⟨x1,p1,r1,rfl,w1,h⟩:=YG Z6M h
 obtain ⟨x2,p2,r2,rfl,w2,h⟩:=YG Z6M h
 obtain ⟨x3,p3,r3,rfl,w3,h⟩:=YG (Z4d _) h
 obtain ⟨x4,p4,r4,rfl,w4,h⟩:=YG (Z4d _) h
 obtain ⟨x5,s,r5,rfl,w5,h⟩:=YG (Y3 _) h
 obtain ⟨x6,p6,r6,rfl,w6,h⟩:=YG (Z4d _) h
 cases h
 exact ⟨p0++(p1++(p2++(p3++(p4++(s++(p6)))))),by simp,w0.append (w1.append (w2.append (w3.append (w4.append (w5.append (w6))))))⟩
def ZJY:Rd Kid:=Yy (Z3n .i64) fun x0=> Yy ZbZ fun d=> Z7H (KidOf.mk x0 d)
theorem ZuJ:Z3b ZJY ZKe:=by
 intro cs x d h
 obtain ⟨x0,s,r0,rfl,w0,h⟩:=YG (Y3 _) h
 obtain ⟨x1,p1,r1,rfl,w1,h⟩:=YG Z0U h
 cases h
 exact ⟨s++(p1),by simp,w0.append (w1)⟩
def rOp:Rd Op:=Yy (Z3n .i64) fun x0=> Yy (Z3n .i64) fun h=> Yy (rSl .tree) fun s=> Yy ZbZ fun d=> Z7H (OpOf.mk x0 h s d)
theorem Zhj:Z3b rOp eOp:=by
 intro cs x d h
 obtain ⟨x0,p0,r0,rfl,w0,h⟩:=YG (Y3 _) h
 obtain ⟨x1,p1,r1,rfl,w1,h⟩:=YG (Y3 _) h
 obtain ⟨x2,s,r2,rfl,w2,h⟩:=YG (Z4d _) h
 obtain ⟨x3,p3,r3,rfl,w3,h⟩:=YG Z0U h
 cases h
 exact ⟨p0++(p1++(s++(p3))),by simp,w0.append (w1.append (w2.append (w3)))⟩
def Zyi:Rd Piece:=Yy (Z3n .i64) fun x0=> Yy rOp fun d=> Yy rOp fun h=> Z7H (Piece.mk x0 d h)
theorem Znr:Z3b Zyi ZA1:=by
 intro cs x d h
 obtain ⟨x0,s,r0,rfl,w0,h⟩:=YG (Y3 _) h
 obtain ⟨x1,p1,r1,rfl,w1,h⟩:=YG Zhj h
 obtain ⟨x2,p2,r2,rfl,w2,h⟩:=YG Zhj h
 cases h
 exact ⟨s++(p1++(p2)),by simp,w0.append (w1.append (w2))⟩
def Zs3:Rd AUnit:=Yy (Z3n .i64) fun x0=> Yy (Z3n .i64) fun x1=> Yy Znu fun h=> Yy ZbZ fun s=> Yy Znv fun d=> Z7H (AUnit.mk x0 x1 h s d)
theorem ZaL:Z3b Zs3 ZFa:=by
 intro cs x d h
 obtain ⟨x0,p0,r0,rfl,w0,h⟩:=YG (Y3 _) h
 obtain ⟨x1,p1,r1,rfl,w1,h⟩:=YG (Y3 _) h
 obtain ⟨x2,s,r2,rfl,w2,h⟩:=YG Z6M h
 obtain ⟨x3,p3,r3,rfl,w3,h⟩:=YG Z0U h
 obtain ⟨x4,p4,r4,rfl,w4,h⟩:=YG ZaM h
 cases h
 exact ⟨p0++(p1++(s++(p3++(p4)))),by simp,w0.append (w1.append (w2.append (w3.append (w4))))⟩
def ZF1:Rd APair:=Yy (Z3n .i64) fun x0=> Yy Zs3 fun d=> Yy Zs3 fun h=> Z7H (APair.mk x0 d h)
theorem Zps:Z3b ZF1 ZFc:=by
 intro cs x d h
 obtain ⟨x0,s,r0,rfl,w0,h⟩:=YG (Y3 _) h
 obtain ⟨x1,p1,r1,rfl,w1,h⟩:=YG ZaL h
 obtain ⟨x2,p2,r2,rfl,w2,h⟩:=YG ZaL h
 cases h
 exact ⟨s++(p1++(p2)),by simp,w0.append (w1.append (w2))⟩
def ZF2:Rd LeftE:=Yy ZbZ fun x0=> Yy ZbZ fun h=> Yy Znv fun s=> Yy Znv fun d=> Z7H (LeftE.mk x0 h s d)
theorem Zpt:Z3b ZF2 ZFd:=by
 intro cs x d h
 obtain ⟨x0,p0,r0,rfl,w0,h⟩:=YG Z0U h
 obtain ⟨x1,p1,r1,rfl,w1,h⟩:=YG Z0U h
 obtain ⟨x2,s,r2,rfl,w2,h⟩:=YG ZaM h
 obtain ⟨x3,p3,r3,rfl,w3,h⟩:=YG ZaM h
 cases h
 exact ⟨p0++(p1++(s++(p3))),by simp,w0.append (w1.append (w2.append (w3)))⟩
def ZF3:Rd Deed:=Yy (Z3n .i64) fun x0=> Yy (Z3n .i64) fun d=> Yy ZbZ fun h=> Z7H (Deed.mk x0 d h)
theorem Zpu:Z3b ZF3 ZFf:=by
 intro cs x d h
 obtain ⟨x0,s,r0,rfl,w0,h⟩:=YG (Y3 _) h
 obtain ⟨x1,p1,r1,rfl,w1,h⟩:=YG (Y3 _) h
 obtain ⟨x2,p2,r2,rfl,w2,h⟩:=YG Z0U h
 cases h
 exact ⟨s++(p1++(p2)),by simp,w0.append (w1.append (w2))⟩
def Zyj:Rd HDeed:=Yy (Z3n .i64) fun x0=> Yy (Z3n .i64) fun h=> Yy (Z3n .i64) fun s=> Yy ZbZ fun d=> Z7H (HDeed.mk x0 h s d)
theorem Zns:Z3b Zyj ZA2:=by
 intro cs x d h
 obtain ⟨x0,p0,r0,rfl,w0,h⟩:=YG (Y3 _) h
 obtain ⟨x1,p1,r1,rfl,w1,h⟩:=YG (Y3 _) h
 obtain ⟨x2,s,r2,rfl,w2,h⟩:=YG (Y3 _) h
 obtain ⟨x3,p3,r3,rfl,w3,h⟩:=YG Z0U h
 cases h
 exact ⟨p0++(p1++(s++(p3))),by simp,w0.append (w1.append (w2.append (w3)))⟩
def rEl:(T:Ty)->Rd (El T)
 | .u64=> Z3n .u64
 | .u8=> Z3n .u8
 | .int=> Z3n .i64
 | .tree=> Znu
 | .wedit=> Zyg
 | .edit=> ZbZ
 | .kid=> ZJY
 | .op=> rOp
 | .piece=> Zyi
 | .unit=> Zs3
 | .pair=> ZF1
 | .left=> ZF2
 | .deed=> ZF3
 | .hdeed=> Zyj
theorem Znt:∀ T:Ty,Z3b (rEl T) (enc T)
 | .u64=> Y3 _
 | .u8=> Y3 _
 | .int=> Y3 _
 | .tree=> Z6M
 | .wedit=> Znq
 | .edit=> Z0U
 | .kid=> ZuJ
 | .op=> Zhj
 | .piece=> Znr
 | .unit=> ZaL
 | .pair=> Zps
 | .left=> Zpt
 | .deed=> Zpu
 | .hdeed=> Zns
def dec(T:Ty)(cs:List (C U)):Option (El T):=
 match rEl T cs with
 | some (x,[])=> some x
 | _=> none
def K:Codec U:=
 {tyEq:=inferInstanceAs (DecidableEq Ty)
  dflt:=fun T=> match T with
   | .u64=> (0:Int) | .u8=> (0:Int) | .int=> (0:Int) | .tree=> Tree.nil | .wedit=> WEdit.mk 0 0 0 0 | .edit=> Edit.nil | .kid=> KidOf.mk 0 Edit.nil | .op=> Op.nil | .piece=> Piece.mk 0 Op.nil Op.nil | .unit=> AUnit.nil | .pair=> APair.mk 0 AUnit.nil AUnit.nil | .left=> LeftE.mk Edit.nil Edit.nil false false | .deed=> Deed.mk 0 0 Edit.nil | .hdeed=> HDeed.mk 0 0 0 Edit.nil
  enc:=enc
  dec:=dec
  aggT:=fun T=> match T with | .u64 | .u8 | .int=> false | _=> true
  sz:=fun T=> match T with | .u64=> 1 | .u8=> 1 | .int=> 1 | .tree=> 3 | .wedit=> 4 | .edit=> 11 | .kid=> 12 | .op=> 14 | .piece=> 29 | .unit=> 17 | .pair=> 35 | .left=> 24 | .deed=> 13 | .hdeed=> 14
  bytes:=fun T=> match T with | .u64=> 8 | .u8=> 1 | .int=> 8 | .tree=> 56 | .wedit=> 32 | .edit=> 200 | .kid=> 208 | .op=> 240 | .piece=> 488 | .unit=> 280 | .pair=> 568 | .left=> 408 | .deed=> 216 | .hdeed=> 224 }
theorem ZLF:CodecOk K:=by
 refine ⟨?_,?_,?_,?_,?_⟩
 .intro T x
  cases T <;> rfl
 .intro T x c hc
  have h:(enc T x).all C.plain=true:=by cases T <;> rfl
  exact QE.1 h c hc
 .intro T cs x h
  have d:dec T cs=some x:=h
  unfold dec at d
  split at d
  .rename_i y he
   cases d
   obtain ⟨p,s,hw⟩:=Znt T _ _ _ he
   rw [Qi] at s
   subst s
   exact hw.get
  .cases d
 .intro T;cases T <;> decide
 .intro T;cases T <;> decide
theorem ZD6(T:Ty)(x:El T):dec T (enc T x)=some x:=by
 cases T with
 | u64=> rfl
 | u8=> rfl
 | int=> rfl
 | tree=> cases x;rfl
 | wedit=> rfl
 | edit=> obtain ⟨k,⟨_,_,_⟩,⟨_,_,_⟩,w,ks,l,os⟩:=x;rfl
 | kid=> obtain ⟨a,⟨k,⟨_,_,_⟩,⟨_,_,_⟩,w,ks,l,os⟩⟩:=x;rfl
 | op=> obtain ⟨a,b,c,⟨k,⟨_,_,_⟩,⟨_,_,_⟩,w,ks,l,os⟩⟩:=x;rfl
 | piece=> obtain ⟨_,⟨_,_,_,⟨_,⟨_,_,_⟩,⟨_,_,_⟩,_,_,_,_⟩⟩,⟨_,_,_,⟨_,⟨_,_,_⟩,⟨_,_,_⟩,_,_,_,_⟩⟩⟩:=x;rfl
 | unit=> obtain ⟨_,_,⟨_,_,_⟩,⟨_,⟨_,_,_⟩,⟨_,_,_⟩,_,_,_,_⟩,_⟩:=x;rfl
 | pair=> obtain ⟨_,⟨_,_,⟨_,_,_⟩,⟨_,⟨_,_,_⟩,⟨_,_,_⟩,_,_,_,_⟩,_⟩,⟨_,_,⟨_,_,_⟩,⟨_,⟨_,_,_⟩,⟨_,_,_⟩,_,_,_,_⟩,_⟩⟩:=x;rfl
 | left=> obtain ⟨⟨_,⟨_,_,_⟩,⟨_,_,_⟩,_,_,_,_⟩,⟨_,⟨_,_,_⟩,⟨_,_,_⟩,_,_,_,_⟩,_,_⟩:=x;rfl
 | deed=> obtain ⟨_,_,⟨_,⟨_,_,_⟩,⟨_,_,_⟩,_,_,_,_⟩⟩:=x;rfl
 | hdeed=> obtain ⟨_,_,_,⟨_,⟨_,_,_⟩,⟨_,_,_⟩,_,_,_,_⟩⟩:=x;rfl
def Zlk(x:Tree):Tree:=Tree.mk (Tree.kind x) (Tree.words x) (Tree.kids x)
@[simp] theorem Zc (x:Tree):Zlk x=x:=Tree.eta x
def ZBH(x:WEdit):WEdit:=WEdit.mk (WEdit.at_ x) (WEdit.mask x) (WEdit.old x) (WEdit.new x)
@[simp] theorem Z2z (x:WEdit):ZBH x=x:=rfl
def Z6N(x:Edit):Edit:=Edit.mk (Edit.kind x) (Zlk (Edit.old x)) (Zlk (Edit.new x)) (Edit.words x) (Edit.kids x) (Edit.list x) (Edit.ops x)
@[simp] theorem Z5 (x:Edit):Z6N x=x:=by unfold Z6N;rw [Zc,Zc];exact Edit.eta x
def ZF0(x:Kid):Kid:=KidOf.mk (KidOf.at_ x) (Z6N (KidOf.e x))
@[simp] theorem Zhk (x:Kid):ZF0 x=x:=by unfold ZF0;rw [Z5]
def ZBI(x:Op):Op:=OpOf.mk (OpOf.kind x) (OpOf.n x) (OpOf.l x) (Z6N (OpOf.e x))
@[simp] theorem Jt (x:Op):ZBI x=x:=by unfold ZBI;rw [Z5]
def ZrY(x:Piece):Piece:=Piece.mk (Piece.of x) (ZBI (Piece.p x)) (ZBI (Piece.q x))
@[simp] theorem Zpw (x:Piece):ZrY x=x:=by unfold ZrY;rw [Jt,Jt]
def Zlj(x:AUnit):AUnit:=AUnit.mk (AUnit.step x) (AUnit.kind x) (Zlk (AUnit.t x)) (Z6N (AUnit.e x)) (AUnit.alone x)
@[simp] theorem Z1T (x:AUnit):Zlj x=x:=by unfold Zlj;rw [Z5,Zc]
def Zyb(x:APair):APair:=APair.mk (APair.of x) (Zlj (APair.p x)) (Zlj (APair.q x))
@[simp] theorem ZIL (x:APair):Zyb x=x:=by unfold Zyb;rw [Z1T,Z1T]
def Zyc(x:LeftE):LeftE:=LeftE.mk (Z6N (LeftE.x x)) (Z6N (LeftE.y x)) (LeftE.clash x) (LeftE.apart x)
@[simp] theorem ZIM (x:LeftE):Zyc x=x:=by unfold Zyc;rw [Z5,Z5]
def Zyd(x:Deed):Deed:=Deed.mk (Deed.kind x) (Deed.i x) (Z6N (Deed.e x))
@[simp] theorem ZIN (x:Deed):Zyd x=x:=by unfold Zyd;rw [Z5]
def Zs1(x:HDeed):HDeed:=HDeed.mk (HDeed.kind x) (HDeed.who x) (HDeed.version x) (Z6N (HDeed.e x))
@[simp] theorem ZFW (x:HDeed):Zs1 x=x:=by unfold Zs1;rw [Z5]
end Go.AM
namespace Go.AM
variable {P:Program} {cfg:Cfg U}
structure ArgL (α:Type) where
 get:List (V U)->Option α
 can:α->List (V U)
 ok:∀ cfg:Cfg U,cfg.enc=enc->∀ xs a,get xs=some a->xs.length=(can a).length/\∀ (j:Nat) x y,xs[j]?=some x->(can a)[j]?=some y->ZiQ cfg x y
structure Arg (α:Type) where
 get:V U->Option α
 can:α->V U
 ok:∀ cfg:Cfg U,cfg.enc=enc->∀ x a,get x=some a->ZiQ cfg x (can a)
def ArgL.nil:ArgL Unit:=
 {get:=fun xs=> match xs with
   | []=> some ()
   | _ ::_=> none
  can:=fun _=> []
  ok:=by
   grind }
def ArgL.cons{α β:Type}(A:Arg α)(B:ArgL β):ArgL (α × β):=
 {get:=fun xs=> match xs with
   | x ::r=> match A.get x with
    | some a=> match B.get r with
     | some b=> some (a,b)
     | none=> none
    | none=> none
   | []=> none
  can:=fun p=> A.can p.1 ::B.can p.2
  ok:=by
   intro cfg hc xs p h
   cases xs with
   | nil=> cases h
   | cons x r=>
    simp only at h
    split at h
    .rename_i a ha
     split at h
     .rename_i b hb
      cases h
      obtain ⟨h1,h2⟩:=B.ok cfg hc r b hb
      refine ⟨by simp [h1],fun j x' y hx hy=> ?_⟩
      cases j with
      | zero=> simp at hx hy;subst hx hy;exact A.ok cfg hc x a ha
      | succ j=> grind
     .cases h
    .cases h }
theorem Zeu{a b:C U}(h:Wk a b):ZiQ cfg (.c a) (.c b):=by
 intro g s v d
 refine ⟨d.1.wk h,?_⟩
 cases h with
 | snil=> trivial
 | slice=> trivial
 | _=> exact d.2
theorem ZqL{a b:List (C U)}(h:WkL a b):ZiQ cfg (.agg a) (.agg b):=by
 intro g d v hr
 obtain ⟨vs,rfl,h1,h2⟩:=hr
 obtain ⟨h3,h4⟩:=h.get
 refine ⟨vs,rfl,by rw [h1,h3],fun j u c hu hc=> ?_⟩
 have hj:j < a.length:=by have:=(Q5.1 hc).1;omega
 have s:=Q4 hj
 exact Zeu (cfg:=cfg) (h4 j _ c s hc) g d u (h2 j u _ hu s)
def aEl(T:Ty):Arg (El T):=
 {get:=fun v=> match v with
   | .agg cs=> dec T cs
   | _=> none
  can:=fun x=> .agg (enc T x)
  ok:=by
   intro cfg _ v a h
   cases v <;> simp only [reduceCtorEq] at h
   rename_i cs
   unfold dec at h
   split at h
   .rename_i y he
    cases h
    obtain ⟨p,hp,hw⟩:=Znt T _ _ _ he
    rw [Qi] at hp
    subst hp
    exact ZqL hw
   .cases h }
def Z0h(k:IntKind):Arg Int:=
 {get:=fun v=> match v with
   | .c (.int k' n)=> if k=k' then some n else none
   | _=> none
  can:=fun n=> .c (.int k n)
  ok:=by
   intro cfg _ v a h
   split at h
   .split at h
    .rename_i hk;subst hk;cases h;exact fun _ _ _ h=> h
    .cases h
   .cases h }
theorem ZAY{p:List (C U)}{c:C U}(h:WkL p [c]):∃ y,p=[y]/\Wk y c:=by
 cases p with
 | nil=> exact h.elim
 | cons y r=> cases r with
  | nil=> exact ⟨y,rfl,h.1⟩
  | cons z r=> exact h.2.elim
theorem Zyh{T:Ty}{x:C U}{l:List (El T)}{r:List (C U)}(h:rSl T [x]=some (l,r)):Wk x (sl T l):=by
 obtain ⟨p,hp,s⟩:=Z4d T _ _ _ h
 obtain ⟨y,rfl,d⟩:=ZAY s
 grind
def aSl(T:Ty):Arg (List (El T)):=
 {get:=fun v=> match v with
   | .c x=> match rSl T [x] with
    | some (l,_)=> some l
    | none=> none
   | _=> none
  can:=fun l=> .c (sl T l)
  ok:=by
   intro cfg _ v a h
   split at h
   .split at h
    .rename_i l r hr
     cases h
     exact Zeu (Zyh hr)
    .cases h
   .cases h }
def fs{α:Type}(A:ArgL α)(pre:α->List Prop)(res:α->V U):Fs U:=
 {fn:=fun xs X=> match X with
   | []=> match A.get xs with
    | some a=> some (pre a,res a,[])
    | none=> none
   | _ ::_=> none }
theorem ZJ {Γ:Known U} {α:Type} {A:ArgL α} {pre:α->List Prop} {res:α->V U} (ok:CfgOk P cfg) (henc:cfg.enc=enc) (hΓ:∀ f s,Γ f=some s->Contract P cfg f s) {f:FuncId} {fn:Func} (lv:Zj U)
  (hf : P.funcs[f]? = some fn) (hb : fn.body = some (cd fn [])) (hname : (fn.name == "runtime.NumGoroutine") = false) (hn : ∀ a, (A.can a).length ≤ fn.ntmps)
  (hbody:∀ a,All (pre a)->awp cfg Γ (Z1P cfg Γ) fn.ntmps lv (cd fn []) (Zm (A.can a) []) (YZ cfg fn.ntmps fn.results.toList (res a) [])):Contract P cfg f (fs A pre res):=by
 refine ZfC ok hΓ (Z3w ok hΓ) lv hf hb hname ?_
 intro args X ps r X' d ab
 unfold fs at d
 simp only at d
 split at d
 .split at d
  .rename_i a ha
   cases d
   obtain ⟨h1,h2⟩:=A.ok cfg henc args a ha
   exact ⟨A.can a,[],⟨h1,h2,rfl,fun k x y hx=> by simp at hx,fun k x y hx=> by simp at hx⟩,hn a,hbody a ab⟩
  .cases d
 .cases d
end Go.AM
namespace Go.AM
theorem ZHA{a b:Bool}:((bif a then true else b)=true)=(a=true\/b=true):=by grind
theorem ZAo{a b:Bool}:((bif a then b else false)=true)=(a=true/\b=true):=by grind
theorem ZDd{a b:Bool}:((bif a then true else b)=false)=(a=false/\b=false):=by grind
theorem ZDe{a b:Bool}:((bif a then b else false)=false)=(a=false\/b=false):=by grind
theorem vcS:(∀ {a b:Bool},((bif a then true else b)=true)=(a=true\/b=true))/\(∀ {a b:Bool},((bif a then b else false)=true)=(a=true/\b=true))/\
  (∀ {a b:Bool},((bif a then true else b)=false)=(a=false/\b=false))/\(∀ {a b:Bool},((bif a then b else false)=false)=(a=false\/b=false))/\
  (∀ (b:Bool),((!b)=true)=(b=false))/\(∀ (b:Bool),((!b)=false)=(b=true))/\(∀ {p:Prop} [Decidable p],(decide p=true)=p)/\(∀ {p:Prop} {_:Decidable p},decide p=false↔¬p)/\
  (∀ {α:Type} [BEq α] [LawfulBEq α] {a b:α},(a==b)=true↔a=b)/\(∀ {α:Type} [BEq α] [LawfulBEq α] {a b:α},(a==b)=false↔a≠b)/\
  (∀ {α:Type} [BEq α] [LawfulBEq α] {a b:α},(a !=b)=true↔a≠b)/\(∀ {α:Type} (a b:α),(a≠b)=¬a=b)/\(∀ {α:Type} [BEq α] [LawfulBEq α] {a b:α},(a !=b)=false↔a=b)/\
  (∀ (a b:Bool),((a || b)=true)=(a=true\/b=true))/\(∀ (a b:Bool),((a && b)=true)=(a=true/\b=true))/\(∀ {x y:Bool},(x || y)=false↔x=false/\y=false)/\(∀ {x y:Bool},(x && y)=false↔x=true->y=false):=
 ⟨ZHA,ZAo,ZDd,ZDe,X3,Bool.not_eq_false',decide_eq_true_eq,decide_eq_false_iff_not,beq_iff_eq,beq_eq_false_iff_ne,bne_iff_ne,ne_eq,bne_eq_false_iff_eq,XU,Q2,QH,Bool.and_eq_false_imp⟩
abbrev Tr(p:Prop):Prop:=p->p
abbrev Tt(b:Bool):Prop:=Tr (b=true)
abbrev iB(b:Bool)(A B:Prop):Prop:=(b=true->A)/\(b=false->B)
theorem vE:type_of% (And.intro @Tree.eta (And.intro @Edit.eta (And.intro @Tree.kind_mk (And.intro @Tree.words_mk @Tree.kids_mk)))):=And.intro @Tree.eta (And.intro @Edit.eta (And.intro @Tree.kind_mk (And.intro @Tree.words_mk @Tree.kids_mk)))
theorem vcT:(∀ {p:Prop},Tr p=True)/\(∀ {p:Prop},(True/\p)=p)/\(∀ {p:Prop},(p/\True)=p)/\(∀ {p:Prop},(p->p)=True)/\(∀ {p:Prop},(True->p)=p)/\(∀ {p:Prop},(p->True)=True):=
 ⟨by simp,by simp,by simp,by simp,by simp,by simp⟩
theorem vcF:(∀ {α:Type} {a:α},(a=a)=True)/\((true=false)=False)/\((false=true)=False)/\(∀ {p:Prop},(False->p)=True)/\(∀ {p:Prop},(True->p)=p)/\(∀ {p:Prop},(True/\p)=p)/\(∀ {p:Prop},(p/\True)=p)/\((!true)=false)/\((!false)=true):=
 ⟨by simp,by simp,by simp,by simp,by simp,by simp,by simp,rfl,rfl⟩
end Go.AM
namespace Go.AM
variable {P:Program} {cfg:Cfg U}
def Zk9:List (FuncId × Fs U)->FuncId->Option (Fs U)
 | [],_=> none
 | (f,s) ::r,k=> bif Nat.beq k f then some s else Zk9 r k
def Z3(l:List (FuncId × Fs U)):Known U:=⟨Zk9 l,false,false⟩
def Z1e(l:List (FuncId × Fs U)):Known U:=⟨Zk9 l,true,false⟩
def Zij(l:List (FuncId × Fs U)):Known U:=⟨Zk9 l,false,true⟩
def Z7c(P:Program)(cfg:Cfg U):List (FuncId × Fs U)->Prop
 | []=> True
 | (f,s) ::r=> Contract P cfg f s/\Z7c P cfg r
theorem Z19:∀ {l:List (FuncId × Fs U)},Z7c P cfg l->∀ f s,Zk9 l f=some s->Contract P cfg f s
 | [],_,f,s,h=> by cases h
 | (f',s') ::r,hk,f,s,h=> by
  unfold Zk9 at h
  cases e:Nat.beq f f' with
  | true=>
   rw [e] at h
   cases h
   rw [Ql e]
   exact hk.1
  | false=>
   rw [e] at h
   exact Z19 hk.2 f s h
theorem Z9 {l:List (FuncId × Fs U)} {α:Type} {A:ArgL α} {pre:α->Prop} {res:α->V U} (ok:CfgOk P cfg) (henc:cfg.enc=enc) (hl:Z7c P cfg l) {f:FuncId} {fn:Func} (lv:Zj U)
  (hf : P.funcs[f]? = some fn) (hb : fn.body = some (cd fn [])) (hname : (fn.name == "runtime.NumGoroutine") = false) (n : Nat) (hn : ∀ a, (A.can a).length = n) (hn' : n ≤ fn.ntmps)
  (hbody:∀ a,pre a->awp cfg (Z3 l) (Z1P cfg (Z3 l)) fn.ntmps lv (cd fn []) (Zm (A.can a) []) (YZ cfg fn.ntmps fn.results.toList (res a) [])):Contract P cfg f (fs A (fun a=> [pre a]) res):=
 ZJ ok henc (Z19 hl) lv hf hb hname (fun a=> by rw [hn];exact hn') (fun a h=> hbody a h.1)
theorem ZiG {l:List (FuncId × Fs U)} {α:Type} {A:ArgL α} {pre:α->Prop} {res:α->V U} (ok:CfgOk P cfg) (henc:cfg.enc=enc) (hl:Z7c P cfg l) {f:FuncId} {fn:Func} (lv:Zj U)
  (hf : P.funcs[f]? = some fn) (hb : fn.body = some (cd fn [])) (hname : (fn.name == "runtime.NumGoroutine") = false) (n : Nat) (hn : ∀ a, (A.can a).length = n) (hn' : n ≤ fn.ntmps)
  (hbody:∀ a,pre a->awp cfg (Z1e l) (Z1P cfg (Z1e l)) fn.ntmps lv (cd fn []) (Zm (A.can a) []) (YZ cfg fn.ntmps fn.results.toList (res a) [])):Contract P cfg f (fs A (fun a=> [pre a]) res):=
 ZJ ok henc (Z19 hl) lv hf hb hname (fun a=> by rw [hn];exact hn') (fun a h=> hbody a h.1)
theorem YX {l:List (FuncId × Fs U)} {α:Type} {A:ArgL α} {pre:α->Prop} {μ:α->Nat} {res:α->V U} (ok:CfgOk P cfg) (henc:cfg.enc=enc) (hl:Z7c P cfg l) {f:FuncId} {fn:Func} (lv:Zj U)
  (hf : P.funcs[f]? = some fn) (hb : fn.body = some (cd fn [])) (hname : (fn.name == "runtime.NumGoroutine") = false) (n : Nat) (hn : ∀ a, (A.can a).length = n) (hn' : n ≤ fn.ntmps)
  (hbody:∀ N a,pre a->μ a < N+1->awp cfg (Z3 ((f,fs A (fun a=> [pre a,μ a < N]) res) ::l)) (Z1P cfg (Z3 ((f,fs A (fun a=> [pre a,μ a < N]) res) ::l))) fn.ntmps lv (cd fn []) (Zm (A.can a) []) (YZ cfg fn.ntmps fn.results.toList (res a) [])):
  Contract P cfg f (fs A (fun a=> [pre a]) res):=by
 have aa:∀ N,Contract P cfg f (fs A (fun a=> [pre a,μ a < N]) res):=by
  intro N
  induction N with
  | zero=>
   refine Z53 ⟨fn,hf,by rw [hb];rfl,hname⟩ rfl ?_
   intro args X ps r X' d s
   exfalso
   unfold fs at d
   simp only at d
   split at d
   .split at d
    .cases d
     exact absurd s.2.1 V1
    .cases d
   .cases d
  | succ N ih=> exact ZJ (Γ:=Z3 ((f,fs A (fun a=> [pre a,μ a < N]) res) ::l)) ok henc (Z19 ⟨ih,hl⟩) lv hf hb hname (fun a=> by grind) (fun a h=> hbody N a h.1 h.2.1)
 refine Z53 (aa 0).1 rfl ?_
 intro args X ps r X' d s
 unfold fs at d
 simp only at d
 split at d
 .split at d
  .rename_i a ha
   cases d
   have e:(fs A (fun x=> [pre x,μ x < μ a+1]) res).fn args []=some ([pre a,μ a < μ a+1],res a,[]):=by
    unfold fs
    simp only [ha]
   exact (aa (μ a+1)).one rfl args [] _ _ [] e ⟨s.1,Nat.lt_succ_self _,trivial⟩
  .cases d
 .cases d
theorem JV {α : Type} {A : ArgL α} {pre : α → Prop} {μ : α → Nat} {res : α → V U} {f : FuncId} (h0 : ∃ fn, P.funcs[f]? = some fn ∧ fn.body.isSome = true ∧ (fn.name == "runtime.NumGoroutine") = false)
  (key:∀ N,Contract P cfg f (fs A (fun a=> [pre a,μ a < N]) res)):Contract P cfg f (fs A (fun a=> [pre a]) res):=by
 refine Z53 h0 rfl ?_
 intro args X ps r X' d h
 unfold fs at d
 simp only at d
 split at d
 .split at d
  .rename_i a s
   cases d
   have e:(fs A (fun x=> [pre x,μ x < μ a+1]) res).fn args []=some ([pre a,μ a < μ a+1],res a,[]):=by
    unfold fs
    simp only [s]
   exact (key (μ a+1)).one rfl args [] _ _ [] e ⟨h.1,Nat.lt_succ_self _,trivial⟩
  .cases d
 .cases d
theorem JU {α : Type} {A : ArgL α} {pre : α → Prop} {μ : α → Nat} {res : α → V U} {f : FuncId} (h0 : ∃ fn, P.funcs[f]? = some fn ∧ fn.body.isSome = true ∧ (fn.name == "runtime.NumGoroutine") = false) :
  Contract P cfg f (fs A (fun a=> [pre a,μ a < 0]) res):=by
 refine Z53 h0 rfl ?_
 intro args X s r X' d h
 exfalso
 unfold fs at d
 simp only at d
 split at d
 .split at d
  .cases d
   exact absurd h.2.1 V1
  .cases d
 .cases d
theorem Z1z {l:List (FuncId × Fs U)} {α β:Type} {A:ArgL α} {B:ArgL β} {preA:α->Prop} {preB:β->Prop} {μA:α->Nat} {μB:β->Nat} {resA:α->V U} {resB:β->V U} (ok:CfgOk P cfg) (henc:cfg.enc=enc) (hl:Z7c P cfg l) {f f':FuncId} {fn fn':Func}
  (lv lv' : Zj U) (hf : P.funcs[f]? = some fn) (hf' : P.funcs[f']? = some fn') (hb : fn.body = some (cd fn [])) (hb' : fn'.body = some (cd fn' [])) (hname : (fn.name == "runtime.NumGoroutine") = false) (hname' : (fn'.name == "runtime.NumGoroutine") = false)
  (n n':Nat) (hn:∀ a,(A.can a).length=n) (hn':∀ a,(B.can a).length=n') (hle:n<=fn.ntmps) (hle':n'<=fn'.ntmps)
  (hbody:∀ N a,preA a->μA a < N+1->awp cfg (Z3 ((f,fs A (fun a=> [preA a,μA a < N]) resA) ::(f',fs B (fun a=> [preB a,μB a < N]) resB) ::l)) (Z1P cfg (Z3 ((f,fs A (fun a=> [preA a,μA a < N]) resA) ::(f',fs B (fun a=> [preB a,μB a < N]) resB) ::l))) fn.ntmps lv (cd fn []) (Zm (A.can a) []) (YZ cfg fn.ntmps fn.results.toList (resA a) []))
  (hbody':∀ N a,preB a->μB a < N+1->awp cfg (Z3 ((f,fs A (fun a=> [preA a,μA a < N]) resA) ::(f',fs B (fun a=> [preB a,μB a < N]) resB) ::l)) (Z1P cfg (Z3 ((f,fs A (fun a=> [preA a,μA a < N]) resA) ::(f',fs B (fun a=> [preB a,μB a < N]) resB) ::l))) fn'.ntmps lv' (cd fn' []) (Zm (B.can a) []) (YZ cfg fn'.ntmps fn'.results.toList (resB a) [])):
  Contract P cfg f (fs A (fun a=> [preA a]) resA)/\Contract P cfg f' (fs B (fun a=> [preB a]) resB):=by
 have h0 : ∃ fn, P.funcs[f]? = some fn ∧ fn.body.isSome = true ∧ (fn.name == "runtime.NumGoroutine") = false := ⟨fn, hf, by rw [hb]; rfl, hname⟩
 have d : ∃ fn, P.funcs[f']? = some fn ∧ fn.body.isSome = true ∧ (fn.name == "runtime.NumGoroutine") = false := ⟨fn', hf', by rw [hb']; rfl, hname'⟩
 have s:∀ N,Contract P cfg f (fs A (fun a=> [preA a,μA a < N]) resA)/\Contract P cfg f' (fs B (fun a=> [preB a,μB a < N]) resB):=by
  intro N
  induction N with
  | zero=> exact ⟨JU h0,JU d⟩
  | succ N ih=>
   exact ⟨ZJ (Γ:=Z3 ((f,fs A (fun a=> [preA a,μA a < N]) resA) ::(f',fs B (fun a=> [preB a,μB a < N]) resB) ::l)) ok henc (Z19 ⟨ih.1,ih.2,hl⟩) lv hf hb hname (fun a=> by grind) (fun a h=> hbody N a h.1 h.2.1),
    ZJ (Γ:=Z3 ((f,fs A (fun a=> [preA a,μA a < N]) resA) ::(f',fs B (fun a=> [preB a,μB a < N]) resB) ::l)) ok henc (Z19 ⟨ih.1,ih.2,hl⟩) lv' hf' hb' hname' (fun a=> by grind) (fun a h=> hbody' N a h.1 h.2.1)⟩
 exact ⟨JV h0 fun N=> (s N).1,JV d fun N=> (s N).2⟩
end Go.AM
namespace Go.AM
mutual
def ZT:Tree->Int->Int->Int
 | .mk _ w ks,d,l=> if d=0\/l - 1 - w.length < 0 then -1 else ZI ks (d - 1) (l - 1 - w.length)
def ZI:List Tree->Int->Int->Int
 | [],_,l=> l
 | t ::r,d,l=> if l < 0 then l else ZI r d (ZT t d l)
end
mutual
def Zq:Tree->Nat
 | .mk _ w ks=> 1+w.length+Ze ks
def Ze:List Tree->Nat
 | []=> 0
 | t ::r=> Zq t+Ze r
end
mutual
def Z0R:Tree->Prop
 | .mk _ w ks=> w.length<=17592186044416/\ks.length<=17592186044416/\Z1H ks
def Z1H:List Tree->Prop
 | []=> True
 | t ::r=> Z0R t/\Z1H r
end
def trim:List Int->List Int
 | []=> []
 | x ::r=> match trim r with
  | []=> if x=0 then [] else [x]
  | y ::s=> x ::y ::s
def YQ:List Tree->List Tree
 | []=> []
 | x ::r=> match YQ r with
  | []=> if x.kind=0 then [] else [x]
  | y ::s=> x ::y ::s
mutual
def Z6:Tree->Tree
 | .mk k w ks=> if k=0 then Tree.nil else if k=1 then .mk 1 (trim w) (YQ (J2 ks)) else .mk k w (J2 ks)
def J2:List Tree->List Tree
 | []=> []
 | t ::r=> Z6 t ::J2 r
end
open Classical in
noncomputable def YM(a b:Tree):Bool:=decide (a=b)
def Ji(t:Tree)(i:Int):Int:=if i < 0 then 0 else t.words.getD i.toNat 0
def Z0z(t:Tree)(i:Int):Tree:=if i < 0 then Tree.nil else t.kids.getD i.toNat Tree.nil
mutual
def rng:Tree->Prop
 | .mk k w ks=> (-9223372036854775808<=k/\k<=9223372036854775807)/\(∀ x∈w,0<=x/\x < 18446744073709551616)/\J6 ks
def J6:List Tree->Prop
 | []=> True
 | t ::r=> rng t/\J6 r
end
def wd(c:Int):Int:=if c=0 then 0 else if c=1 then 1 else if c=2 then 8 else if c=3 then 16 else if c=4 then 32 else if c=5 then 64 else -1
def Zvs(c n:Int):Bool:=decide (0<=wd c/\n < 2 ^ (wd c).toNat)
def Z2n(list:Int)(t:Tree):Bool:=
 if 2<=list/\list<=7 then decide (t.kind=10/\t.kids.length=0/\t.words.length=1) && Zvs (list - 2) (t.words.getD 0 0)
 else if list=9 then decide (t.kind=1) else decide (t.kind≠10)
mutual
def Zr:Tree->Int->Bool
 | .mk k w ks,d=>
  if k=0 then decide (w.length=0/\ks.length=0)
  else if k=10 then decide (w.length=1/\ks.length=0)
  else if d=0 then false
  else if k=1 then decide (w.length < 65536/\ks.length < 65536) && J4 1 ks (d - 1)
  else decide (2<=k/\k<=9/\w.length=0/\ks.length < 1048576) && J4 k ks (d - 1)
def J4(list:Int):List Tree->Int->Bool
 | [],_=> true
 | t ::r,d=> (Z2n list t && Zr t d) && J4 list r d
end
end Go.AM
namespace Go.AM
open Go.ChangeShapes Go.WideShapes Go.RowKit
def inT(t:Tree):Prop:=Z0R t/\rng t
theorem ZF8{ks:List Tree}(h:∀ t∈ks,inT t):Z1H ks/\J6 ks:=by
 induction ks with
 | nil=> trivial
 | cons t r ih=>
  have d:=h t (Q1 ..)
  have s:=ih fun x hx=> h x (Q0 _ hx)
  exact ⟨⟨d.1,s.1⟩,d.2,s.2⟩
section
variable {U:Uni} {P:Program} {cfg:Cfg U} {w:World} {H:Type} {henc:TypeId × Value->H}
def RelS(cfg:Cfg U)(m:Addr->Option Value)(vs:List Value)(cs:List (C U)):Prop:=
 vs.length=cs.length/\∀ (j:Nat) v c,vs[j]?=some v->cs[j]?=some c->SimC cfg m v c
theorem RelS.one{m:Addr->Option Value}{v:Value}{c:C U}(h:SimC cfg m v c):RelS cfg m [v] [c]:=by
 refine ⟨rfl,fun j u d hu s=> ?_⟩
 grind
theorem RelS.glue{m:Addr->Option Value}{vs:List Value}{a n:Nat}{c1 rest:List (C U)}(h1:RelS cfg m ((vs.drop a).take n) c1)(hn:c1.length=n)(d:a+n<=vs.length)(h2:RelS cfg m (vs.drop (a+n)) rest):
  RelS cfg m (vs.drop a) (c1++rest):=by
 have e:vs.drop a=(vs.drop a).take n++vs.drop (a+n):=by
  rw [show vs.drop (a+n)=(vs.drop a).drop n by simp_all]
  exact (QI n _).symm
 rw [e]
 have hl:((vs.drop a).take n).length=c1.length:=h1.1
 refine ⟨by simp only [Q7,hl,h2.1],fun j v c d hc=> ?_⟩
 rw [QG] at d hc
 rw [hl] at d
 split at d
 .rename_i h
  rw [if_pos h] at hc
  exact h1.2 j v c d hc
 .rename_i h
  rw [if_neg h] at hc
  exact h2.2 _ v c d hc
theorem RelS.done{m:Addr->Option Value}{vs:List Value}{n:Nat}(h:vs.length=n):RelS cfg m (vs.drop n) ([]:List (C U)):=by
 rw [Q6 V1]
 exact ⟨rfl,fun j v c d=> by simp at d⟩
def Rdd(henc:TypeId × Value->H)(P:Program)(w:World)(n:Nat)(t:TypeId)(cs:List Value):Prop:=
 ∃ x,DataW.trod henc P w 0 (fun _=> true) true n t cs=some x/\(x.1.weights P t).all (·<=reachBytes)=true
theorem Z20(ok:CfgOk P cfg){t:TypeId}{ag:Bool}{zs:List (C U)}(h:cfg.var t=some (ag,zs)):P.cellsOf t=zs.length:=by
 obtain ⟨_,i,z,d,h1,h2,s,_⟩:=ok.var _ _ _ h
 simp [Program.cellsOf,h1,s]
theorem Z4e(ok:CfgOk P cfg){t:TypeId}{k:IntKind}{n0:Int}{n:Nat}{cs:List Value}(hv:cfg.var t=some (false,[.int k n0]))(h:Rdd henc P w n t cs):
  ∃ z,RelS cfg w.cell? cs [.int k z]/\k.min<=z/\z<=k.max:=by
 obtain ⟨x,hx,_⟩:=h
 obtain ⟨_,i,z,d,h1,h2,h3,h4,h5,h6,h7,_⟩:=ok.var _ _ _ hv
 have hd:=h7 rfl k n0 rfl
 subst hd
 obtain ⟨q,rfl,_,s⟩:=DataW.trod_int h2 hx
 simp only [Lit.wf,Q2,decide_eq_true_eq] at s
 exact ⟨q,.one (.int k q),s.1,s.2⟩
theorem Z0q(ok:CfgOk P cfg){t ft:TypeId}{i off:Nat}{ag:Bool}{zs:List (C U)}{n:Nat}{cs:List Value}(hf:cfg.fld t i=some (off,ft))(hv:cfg.var ft=some (ag,zs))(h:Rdd henc P w n t cs):
  ∃ m,n=m+1/\cs.length=P.cellsOf t/\Rdd henc P w m ft ((cs.drop off).take zs.length):=by
 obtain ⟨x,hx,hw⟩:=h
 obtain ⟨fs,fd,h1,h2,h3,h4⟩:=ok.fld _ _ _ _ hf
 obtain ⟨xs,m,rfl,rfl,hl,ao,s⟩:=DataW.trod_struct h1 hx
 have hg:=s i fd h2
 rw [h3,h4,Z20 ok hv] at hg
 have hi:i < xs.length:=by have:=(QU.1 h2).1;omega
 have hy:=Q4 hi
 refine ⟨m,rfl,hl,xs[i],by rw [hg,hy],?_⟩
 rw [QE] at hw ⊢
 intro q hq
 refine hw q ?_
 simp only [DataW.weights,h1]
 exact DataW.weights_mem_each (j:=i) (t:=ft) (d:=xs[i].1) (by grind) (by grind) q hq
theorem Zfl{α:Type}(p:Nat->α->Prop):∀ (n:Nat),(∀ i,i < n->∃ x,p i x)->∃ l:List α,l.length=n/\∀ i x,l[i]?=some x->p i x
 | 0,_=> ⟨[],rfl,fun i x h=> by simp at h⟩
 | n+1,h=> by
  obtain ⟨l,d,s⟩:=Zfl p n fun i hi=> h i V1
  obtain ⟨x,hx⟩:=h n V1
  refine ⟨l++[x],by simp [d],fun i y hy=> ?_⟩
  grind
theorem ZeA{e:TypeId}:∀ {l:List (DataW H)} {i:Nat} {d:DataW H},l[i]?=some d->∀ q∈d.weights P e,q∈DataW.weightsAll P e l
 | d0 ::l,0,d,h,q,hq=> by
  simp at h
  subst h
  simp only [DataW.weightsAll,Qg]
  exact .inl hq
 | d0 ::l,i+1,d,h,q,hq=> by
  simp only [DataW.weightsAll,Qg]
  exact .inr (ZeA (l:=l) (i:=i) (by simpa using h) q hq)
theorem Zhm (ok:CfgOk P cfg) {t:TypeId} {S:U.Ty} {n:Nat} {cs:List Value} {Z0y:U.El S->Prop} (hs:cfg.slT t=some S)
  (ih:∀ m,m < n->∀ cs,Rdd henc P w m (cfg.elT S) cs->∃ e,RelS cfg w.cell? cs (cfg.enc S e)/\Z0y e) (h:Rdd henc P w n t cs):
  ∃ l:List (U.El S),RelS cfg w.cell? cs [.slice S l .unk]/\l.length*cfg.bytes S<=reachBytes/\∀ e∈l,Z0y e:=by
 obtain ⟨x,hx,hw⟩:=h
 have hu:=ok.sl _ _ hs
 obtain ⟨i0,ag,zs,z,h1,h2,h3,h4,h5,h6⟩:=ok.el S
 have hc:P.cellsOf (cfg.elT S)=cfg.sz S:=by simp [Program.cellsOf,h1,h2]
 have hb:P.bytesOf (cfg.elT S)=cfg.bytes S:=by simp [Program.bytesOf,h1,h3]
 rcases DataW.trod_slice hu hx with ⟨rfl,_⟩ | ⟨a,len,cap,elems,rest,m,rfl,rfl,rfl,_,hlc,_,hel,hels,_⟩
 .exact ⟨[],.one (.snil S .unk),by simp,fun e he=> by cases he⟩
 .simp only [DataW.weights,hu,Qt,hb] at hw
  rw [List.all_cons,Q2,decide_eq_true_eq,QE] at hw
  obtain ⟨a5,ai⟩:=hw
  obtain ⟨l,hl,ab⟩:=Zfl (fun i (e:U.El S)=> (∀ j c,(cfg.enc S e)[j]?=some c->∃ v,w.cell? (a.add (i*cfg.sz S+j))=some v/\SimC cfg w.cell? v c)/\Z0y e) len (by
   intro i hi
   have hg:=hels i hi
   have hy:=Q4 (l:=elems) (i:=i) V1
   rw [hy] at hg
   obtain ⟨ci,am,ah⟩:=Qn.1 hg
   obtain ⟨_,az,ao⟩:=World.cells?_some am
   obtain ⟨e,aa,ak⟩:=ih m V1 ci ⟨elems[i],ah,by
    rw [QE]
    intro q hq
    refine ai q ?_
    rw [Qg]
    exact .inl (ZeA (i:=i) (d:=elems[i].1) (by grind) q hq)⟩
   refine ⟨e,fun j c hj=> ?_,ak⟩
   have av:=aa.1
   have af:j < ci.length:=by have:=(Q5.1 hj).1;omega
   have s:=Q4 af
   refine ⟨ci[j],?_,aa.2 j _ c s hj⟩
   rw [<-s,<-ao j V1,hc,Go.Deep.add_add])
  refine ⟨l,.one (.of_rows .unk hl hlc fun i x hx j c hj=> (ab i x hx).1 j c hj),?_,fun e he=> ?_⟩
  .grind
  .obtain ⟨i,hi,rfl⟩:=Xk he
   exact (ab i _ (Q4 hi)).2
end
section
variable {P:Program} {cfg:Cfg U} {w:World} {H:Type} {henc:TypeId × Value->H}
structure TreeTypes (cfg:Cfg U):Prop where
 enc:cfg.enc=AM.enc
 bytes:cfg.bytes=K.bytes
 int:∃ n,cfg.var (cfg.elT .int)=some (false,[.int .i64 n])
 u64:∃ n,cfg.var (cfg.elT .u64)=some (false,[.int .u64 n])
 var:∃ zs,cfg.var (cfg.elT .tree)=some (true,zs)/\zs.length=3
 f0:∃ t n,cfg.fld (cfg.elT .tree) 0=some (0,t)/\cfg.var t=some (false,[.int .i64 n])
 f1:∃ t c,cfg.fld (cfg.elT .tree) 1=some (1,t)/\cfg.var t=some (false,[c])/\cfg.slT t=some .u64
 f2:∃ t c,cfg.fld (cfg.elT .tree) 2=some (2,t)/\cfg.var t=some (false,[c])/\cfg.slT t=some .tree
theorem Z3I{n b:Nat}(h:n*b<=reachBytes)(hb:8<=b):n<=17592186044416:=by
 have d:n*8<=n*b:=XG _ hb
 have s:reachBytes < 2 ^ 47:=reachBytes_lt
 omega
theorem ZFX(ok:CfgOk P cfg)(T:TreeTypes cfg){n:Nat}{cs:List Value}(h:Rdd henc P w n (cfg.elT .u64) cs):
  ∃ e:Int,RelS cfg w.cell? cs (cfg.enc .u64 e)/\(0<=e/\e < 18446744073709551616):=by
 obtain ⟨n0,hv⟩:=T.u64
 obtain ⟨z,h1,d,s⟩:=Z4e ok hv h
 refine ⟨z,by rw [T.enc];exact h1,d,?_⟩
 have:z<=18446744073709551615:=s
 omega
theorem ZfX(ok:CfgOk P cfg)(T:TreeTypes cfg):∀ (n:Nat) (cs:List Value),Rdd henc P w n (cfg.elT .tree) cs->∃ e:Tree,RelS cfg w.cell? cs (cfg.enc .tree e)/\inT e:=by
 intro n
 induction n using Nat.strongRecOn with
 | ind n IH=>
  intro cs h
  obtain ⟨zs,hz,ab⟩:=T.var
  obtain ⟨t0,n0,f0,v0⟩:=T.f0
  obtain ⟨t1,c1,f1,v1,s1⟩:=T.f1
  obtain ⟨t2,c2,f2,v2,s2⟩:=T.f2
  obtain ⟨m,rfl,hl,r0⟩:=Z0q ok f0 v0 h
  obtain ⟨m',d,_,r1⟩:=Z0q ok f1 v1 h
  cases d
  obtain ⟨m',d,_,r2⟩:=Z0q ok f2 v2 h
  cases d
  have s:cs.length=3:=by rw [hl,Z20 ok hz,ab]
  obtain ⟨k,a1,a2,a3⟩:=Z4e ok v0 r0
  obtain ⟨ws,b1,b2,b3⟩:=Zhm ok s1 (fun m _ cs h=> ZFX ok T h) r1
  obtain ⟨ks,d1,d2,d3⟩:=Zhm ok s2 (fun m' hm cs h=> IH m' V1 cs h) r2
  rw [T.bytes] at b2 d2
  have g:=a1.glue rfl (by simp;omega) (b1.glue rfl (by simp;omega) (d1.glue rfl (by simp;omega) (RelS.done (n:=3) s)))
  refine ⟨.mk k ws ks,by rw [T.enc];exact g,?_⟩
  have hk:=ZF8 d3
  exact ⟨⟨Z3I b2 V3,Z3I d2 V3,hk.1⟩,⟨a2,a3⟩,b3,hk.2⟩
end
section
variable {P:Program} {cfg:Cfg U} {H:Type} {henc:TypeId × Value->H}
def Zw1{α:Type}(henc:TypeId × Value->H)(P:Program)(cfg:Cfg U)(A:Arg α)(t:TypeId)(Z0y:α->Prop):Prop:=
 (∀ a,A.get (A.can a)=some a)/\∀ (w:World) (base:Nat) v n,Value.okWide P w .any base t v->Rdd henc P w n t v.cells.toList->
  ∃ a,Z0y a/\∀ (g:Gh) (live:Name->Bool),g.m=w.cell?->RelV cfg g Yf live v (A.can a)
def Zuh{α:Type}(henc:TypeId × Value->H)(P:Program)(cfg:Cfg U)(A:ArgL α)(ts:List TypeId)(Z0y:α->Prop):Prop:=
 (∀ a,A.get (A.can a)=some a)/\∀ (w:World) (base:Nat) (vs:List Value) ds ps,(∀ (j:Nat) t v,ts[j]?=some t->vs[j]?=some v->Value.okWide P w .any base t v)->
  DataW.TrodAll henc P w 0 (fun _=> true) true ts vs ds ps->(DataW.weightsEach P ts ds).all (·<=reachBytes)=true->
  ∃ a,Z0y a/\vs.length=(A.can a).length/\∀ (g:Gh) (live:Name->Bool),g.m=w.cell?->∀ (j:Nat) v x,vs[j]?=some v->(A.can a)[j]?=some x->RelV cfg g Yf live v x
theorem ZvS:Zuh henc P cfg ArgL.nil [] (fun _=> True):=by
 refine ⟨fun _=> rfl,fun w d vs ds ps _ h _=> ?_⟩
 obtain ⟨rfl,_,_⟩:=trodAll_nil h
 exact ⟨(),trivial,rfl,fun _ _ _ j v x s=> by simp at s⟩
theorem Zbg{α β:Type}{A:Arg α}{B:ArgL β}{t:TypeId}{ts:List TypeId}{Z0y:α->Prop}{goods:β->Prop}(hA:Zw1 henc P cfg A t Z0y)(hB:Zuh henc P cfg B ts goods):
  Zuh henc P cfg (ArgL.cons A B) (t ::ts) (fun p=> Z0y p.1/\goods p.2):=by
 refine ⟨fun a=> ?_,fun w s vs ds ps aa h hw=> ?_⟩
 .simp only [ArgL.cons,hA.1,hB.1]
 .obtain ⟨v,ab,d,ah,p,q,rfl,rfl,rfl,h1,h2⟩:=trodAll_cons h
  obtain ⟨n,h1⟩:=h1
  simp only [DataW.weightsEach,List.all_append,Q2] at hw
  obtain ⟨a,ga,ra⟩:=hA.2 w s v n (aa 0 t v rfl rfl) ⟨(d,p),h1,hw.1⟩
  obtain ⟨b,gb,lb,rb⟩:=hB.2 w s ab ah q (fun j t v ht hv=> aa (j+1) t v (by simpa using ht) (by simpa using hv)) h2 hw.2
  refine ⟨(a,b),⟨ga,gb⟩,by simp [ArgL.cons,lb],fun g aj hg j u x hu hx=> ?_⟩
  cases j with
  | zero=> simp [ArgL.cons] at hu hx;grind
  | succ j=> simp [ArgL.cons] at hu hx;grind
theorem RelS.relL{g:Gh}{w:World}{vs:List Value}{cs:List (C U)}(h:RelS cfg w.cell? vs cs)(hg:g.m=w.cell?)(hp:∀ c∈cs,c.plain=true):RelL cfg g Yf vs cs:=by
 refine ⟨h.1,fun j v c s hc=> ⟨by rw [hg];exact h.2 j v c s hc,?_⟩⟩
 have d:=hp c (X6 hc)
 cases c with
 | slice S l' tl'=> cases tl' <;> first | trivial | (simp [C.plain] at d)
 | _=> trivial
theorem Zua(ok:CfgOk P cfg)(henc':cfg.enc=AM.enc){T:Ty}{Z0y:El T->Prop}(d:∃ s ft,cfg.fld (cfg.elT T) 0=some (s,ft))(hr:∀ w n cs,Rdd henc P w n (cfg.elT T) cs->∃ e:El T,RelS cfg w.cell? cs (cfg.enc T e)/\Z0y e):
  Zw1 henc P cfg (aEl T) (cfg.elT T) Z0y:=by
 refine ⟨fun a=> ZD6 T a,fun w ai v n ab h=> ?_⟩
 obtain ⟨s,ft,d⟩:=d
 obtain ⟨fs,fd,h1,_⟩:=ok.fld _ _ _ _ d
 obtain ⟨vs,rfl,_⟩:=okWide_struct h1 ab
 obtain ⟨e,he,hg⟩:=hr w n _ h
 refine ⟨e,hg,fun g ae aa=> ⟨vs,rfl,?_⟩⟩
 rw [henc'] at he
 exact he.relL aa (fun c hc=> by have:=ok.enc_plain T e c (by simp_all);exact this)
theorem ZDg(ok:CfgOk P cfg){t:TypeId}{T:Ty}{Z0y:El T->Prop}(hs:cfg.slT t=some T)(hr:∀ w n cs,Rdd henc P w n (cfg.elT T) cs->∃ e:El T,RelS cfg w.cell? cs (cfg.enc T e)/\Z0y e):
  Zw1 henc P cfg (aSl T) t (fun l=> l.length*cfg.bytes T<=reachBytes/\∀ e∈l,Z0y e):=by
 refine ⟨fun a=> by cases T <;> rfl,fun w aa v n d h=> ?_⟩
 have hu:=ok.sl _ _ hs
 obtain ⟨a,len,ae,rfl⟩:=okWide_slice hu d
 obtain ⟨l,h1,h2,h3⟩:=Zhm ok hs (fun m _ cs h=> hr w m cs h) h
 refine ⟨l,⟨h2,h3⟩,fun g s hg=> ?_⟩
 have:=h1.relL hg (by intro c hc;simp at hc;subst hc;rfl)
 exact this.2 0 _ _ (by rfl) rfl
theorem Zvg {α:Type} {A:ArgL α} {ts:List TypeId} {Z0y:α->Prop} {pre:α->Prop} {f:FuncId} (hA:Zuh henc P cfg A ts Z0y) (hgood:∀ a,Z0y a->pre a)
  (hc:Contract P cfg f (fs A (fun a=> [pre a]) (fun _=> .c (.bool true)))) (w:World) (base:Nat) (args:Array Value) (ds:List (DataW H)) (ps:List MemPlace)
  (hok:∀ (j:Nat) t v,ts[j]?=some t->args.toList[j]?=some v->Value.okWide P w .any base t v)
  (d:DataW.TrodAll henc P w 0 (fun _=> true) true ts args.toList ds ps) (hw:(DataW.weightsEach P ts ds).all (·<=reachBytes)=true):
  Calls P f args w fun e w'=> e= .returned (.bool true)/\Below w.heap.size w w':=by
 obtain ⟨a,ga,hl,hr⟩:=hA.2 w base args.toList ds ps hok d hw
 let g:Gh:=⟨w.cell?,fun _=> none,fun _=> ⟨0,0,none⟩,fun _=> none⟩
 have hs:(fs A (fun a=> [pre a]) (fun _=> .c (.bool true))).fn (A.can a) []=some ([pre a],.c (.bool true),[]):=by
  simp only [fs,hA.1]
 have h:Entry cfg w g args.toList (A.can a) [] []:=by
  refine ⟨⟨fun b v hv=> ⟨hv,rfl⟩,fun b t d=> by cases d⟩,fun b t d=> (by cases d),hl,fun j v x hv hx=> hr g _ rfl j v x hv hx,fun k cs hk=> (by simp at hk),fun _ _=> rfl,fun t x hx=> by cases hx⟩
 have:=hc.one rfl (A.can a) [] _ _ [] hs ⟨hgood a ga,trivial⟩ (K8 _) w g args.toList h
 refine Calls.mono (by simpa using this) ?_
 rintro e w' ⟨v,rfl,g',L⟩
 have hv:SimC cfg g'.m v (.bool true):=L.val.1
 cases hv
 refine ⟨rfl,L.fr.stay.os,L.fr.stay.tape,L.fr.stay.output,L.fr.stay.size,fun k hk=> ?_⟩
 exact (L.fr.clean k hk fun o s t d=> by cases d).1
theorem ZzA {f:Func} {s:ChangeSpec} {apart fresh handsOn again:Bool} {W W':World} {args:Array Value} {ds gs:List (DataW H)} {before:List MemPlace} {tb:TypeId}
  (hl:laidOutB P=true) (hread:(f.params.toList.all fun t=> P.readableRec t && decide (t < P.types.size))=true) (hres:f.resultTypes=#[tb]) (hbool:P.underlying tb=some .bool) (hvars:s.vars=[])
  (hfn:s.fn H (ds++gs)={ results:=[.lit (.bool true)],args:=ds,vars:=[] })
  (hW:DataW.Whole henc P f.params.toList s.vars apart W args.toList ds gs before)
  (hb:Below W.heap.size W W'):s.post henc P f apart fresh handsOn again W args (.bool true) W':=by
 have ay:=hW
 obtain ⟨p,q,h1,h2,e,_⟩:=ay
 have hq:q=[]:=by
  rw [hvars] at h2
  exact (trodVars_none h2).2
 subst hq
 have al:=hW.lt
 have aw:∀ {ts:List TypeId} {vs:List Value} {ds:List (DataW H)} {ps:List MemPlace} {sp:Nat->Bool},(∀ t∈ts,P.readableRec t=true/\t < P.types.size)->(∀ x∈ps,x.block < W.heap.size)->(∀ x∈ps,sp x.block=true)->
   DataW.TrodAll henc P W 0 (fun _=> true) true ts vs ds ps->DataW.TrodAll henc P W' 0 sp true ts vs ds ps:=by
  intro ts
  induction ts with
  | nil=>
   intro vs ds ps sp _ _ _ h
   obtain ⟨rfl,rfl,rfl⟩:=trodAll_nil h
   exact rfl
  | cons t ts ih=>
   intro vs ds ps sp hr hx hs h
   obtain ⟨v,a6,d,a8,p,q,rfl,rfl,rfl,h3,h4⟩:=trodAll_cons h
   have aq:=hr t (Q1 ..)
   exact ⟨p,q,WideElems.Trod_stays hl aq.1 aq.2 h3 (fun x aa=> hb.same (hx x (QR _ aa))) (fun x aa=> hs x (QR _ aa)),
    ih (fun t ht=> hr t (Q0 _ ht)) (fun x aa=> hx x (Xd _ aa)) (fun x aa=> hs x (Xd _ aa)) h4,rfl⟩
 have af:∀ t∈f.params.toList,P.readableRec t=true/\t < P.types.size:=by
  intro t ht
  have:=QE.1 hread t ht
  simpa using this
 rw [Qi] at e
 replace e:=e.symm
 subst e
 have ai:∀ (b:Nat) (sp:Nat->Bool) (hd:Bool),DataW.TrodAll henc P W' b sp hd f.resultTypes.toList ((Value.bool true).resultList f.resultTypes.size) [.lit (.bool true)] []:=by
  intro b sp hd
  rw [hres]
  exact trodAll_mk1 ⟨1,by simp [DataW.trod,hbool,Value.cells]⟩
 have ar:∀ (j:Nat) (t:TypeId) (r:Value),f.resultTypes[j]?=some t->((Value.bool true).resultList f.resultTypes.size)[j]?=some r->Value.okWide P W' .any 0 t r:=by
  intro j t r h3 h4
  rw [hres] at h3 h4
  cases j with
  | zero=>
   simp at h3
   subst h3
   simp [Value.resultList] at h4
   subst h4
   simp [Value.okWide,hbool,Cell.okWide,Cell.ok]
  | succ j=> simp at h3
 have a4:∀ x∈p,(fun b=> decide (b < W.heap.size)) x.block=true:=fun x hx=> by grind
 have ax:∀ sp:Nat->Bool,DataW.TrodVars henc P W' sp s.vars [] []:=fun sp=> by rw [hvars];try rfl
 refine ⟨ds,gs,p,[],p,[],hW,?_,?_,?_,hb.frame _,fun _=> ⟨ar,[.lit (.bool true)]++ds,[],[]++p,?_,fun x hx _=> by simpa using hx⟩⟩
 .grind
 .grind
 .grind
 .obtain ⟨_,_,_,_,_,hz,hn⟩:=hW
  refine ⟨[]++p,[],trodAll_append (aw af al (fun _ _=> rfl) h1) (ai 0 (fun _=> true) true),ax _,by simp,?_,by simpa using hn⟩
  intro b ao hx
  have au:MemPlace.cell b ao∈p:=by simpa using hx
  rw [hb.frozen (by exact al _ au)]
  exact hz b ao V1
end
end Go.AM
