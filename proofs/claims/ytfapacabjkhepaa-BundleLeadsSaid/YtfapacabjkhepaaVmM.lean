import Derived.Test.YtfapacabjkhepaaVmL
set_option linter.unusedSimpArgs false
set_option linter.unusedVariables false
namespace Go.AM
variable {U:Uni} {P:Program} {cfg:Cfg U} {B:Base} {st:FSt U} {g:Gh} {a:Act} {w:World}
def Z1T(o:Oper):Bool:=
 match o.op with
 | .call c=> match c.callee with
  | .builtin .len=> false
  | _=> true
 | .makeSlice _ _ _=> true
 | .buildSlice _ _ parts=> Z4u parts.toList
 | _=> false
structure Fp where
 touch:List Name
 writes:List Name
 kills:Bool
 touchT:List Tok
 writesT:List Tok
 allT:Bool
def Z0y(Γ:Known U)(o:Oper)(st:FSt U):Bool:=
 match o.op with
 | .call c=> match c.callee with
  | .value g=> match st.strip.opnd g with
   | some (.fn f)=> Z7n Γ (some (.fn f))
   | some (.clo f _)=> Z7n Γ (some (.fn f))
   | _=> false
  | _=> false
 | _=> false
def ZmW(Γ:Known U)(o:Oper)(st:FSt U)(e:Eff U):Fp:={ allT:=Z0y Γ o st,touch:=touch o st,writes:=e.mem.map (·.1),kills:= !e.kill.isEmpty,touchT:=touchT o st,writesT:=e.kill++e.ls.map (·.1) }
def Zgs(l:List Tok)(t:Tok):Bool:=
 match l with
 | []=> false
 | a ::r=> if a=t then true else Zgs r t
def ZcS(a b:List Tok):Bool:=a.any fun x=> Zgs b x
def noR(d:Nat)(a:List Tok):Bool:=a.all fun t=> match t with
 | .r d' _=> !Nat.beq d' d
 | _=> true
def Zj5(a b:List Name):Bool:=a.any fun x=> Jc b x
def ZfU(ops:Array Oper)(x y:Oper)(a b:Fp):Bool:=
 x.apart ops y && y.apart ops x && !Zj5 a.writes b.touch && !Zj5 b.writes a.touch && !Zj5 a.writes b.writes && !(a.kills && Z1T y) && !(b.kills && Z1T x) &&
  !ZcS a.writesT b.touchT && !ZcS b.writesT a.touchT && !ZcS a.writesT b.writesT && noR (y.dst.getD 0) a.writesT && noR (x.dst.getD 0) b.writesT &&
  (a.writesT.isEmpty || !b.allT) && (b.writesT.isEmpty || !a.allT)
structure Alike (Γ:Known U) (o:Oper) (ops:Array Oper) (st st':FSt U):Prop where
 n:st'.n=st.n
 env:∀ t,t∈o.looksAt ops->st'.env t=st.env t
 mem:∀ nm,nm∈touch o st->st'.mem nm=st.mem nm
 dead:Z1T o=true->st'.dead=st.dead
 mu:st'.mu=st.mu
 vw:st'.vw=st.vw
 ls:∀ t,t∈touchT o st->st'.ls t=st.ls t
 fr:∀ j,st'.ls (.r (o.dst.getD 0) j)=st.ls (.r (o.dst.getD 0) j)
 all:Z0y Γ o st=true->st'.ls=st.ls
theorem Alike.tok{o:Oper}{ops:Array Oper}{Γ:Known U}{st st':FSt U}(h:Alike Γ o ops st st'){x:Operand}(hx:x∈JZ o){v:V U}(hv:st.strip.opnd x=some v){t:Tok}(ht:t∈v.toks):st'.ls t=st.ls t:=
 h.ls t (List.mem_flatMap.2 ⟨x,hx,by rw [hv];simpa using ht⟩)
theorem Z84{st st':FSt U}{d:Nat}(hd:st'.dead=st.dead)(hf:∀ j,st'.ls (.r d j)=st.ls (.r d j)):∀ (L:List (Tok × LC U)),Z0k st' d L=Z0k st d L
 | []=> rfl
 | (t,x) ::L=> by
  simp only [Z0k,Z84 hd hf L]
  cases hb:ZS d t with
  | none=> rfl
  | some t'=>
   have e:∃ j,t'= .r d j:=by
    unfold ZS at hb
    split at hb
    .cases hb;exact ⟨_,rfl⟩
    .split at hb
     .cases hb;exact ⟨_,rfl⟩
     .cases hb
    .cases hb
   obtain ⟨j,rfl⟩:=e
   cases Z0k st d L with
   | none=> rfl
   | some l=> simp only [hf j,hd]
theorem Alike.opnd{o:Oper}{ops:Array Oper}{Γ:Known U}{st st':FSt U}(h:Alike Γ o ops st st'){x:Operand}(hx:x∈o.op.operands.toList):st'.opnd x=st.opnd x/\st'.strip.opnd x=st.strip.opnd x:=by
 cases x with
 | tmp t=>
  have ht:t∈o.looksAt ops:=QN _ (Xt.2 ⟨.tmp t,hx,rfl⟩)
  have:=h.env t ht
  exact ⟨by simp [FSt.opnd,this],by simp [FSt.opnd,FSt.strip,this]⟩
 | const c=> exact ⟨rfl,rfl⟩
 | global g=> exact ⟨rfl,rfl⟩
 | func f=> exact ⟨rfl,rfl⟩
theorem Zoc{st st':FSt U}{p:V U}{ag:Bool}{n:Nat}(h:∀ nm,nm∈ZN (some p)->st'.mem nm=st.mem nm):rd st' p ag n=rd st p ag n:=by
 cases p <;> simp only [rd]
 case ptr nm off=> rw [h nm (by simp [ZN])]
 case ap nm off k len i=> rw [h nm (by simp [ZN])]
theorem Z5i{st st':FSt U}(hd:st'.dead=st.dead)(ps:Nat->Bool):∀ (xs:List (V U)) (i:Nat) (os:List (Name × List (C U))) (seen:List (Tok × Tok)),
  (∀ x,x∈xs->∀ nm,nm∈ZN (some x)->st'.mem nm=st.mem nm)->YJ st' ps i xs os seen=YJ st ps i xs os seen
 | [],i,os,seen,_=> rfl
 | x ::xs,i,os,seen,h=> by
  have ih:=fun i os seen=> Z5i hd ps xs i os seen (fun y hy=> h y (by simp [hy]))
  simp only [YJ,hd,ih]
  cases hp:Zmh x with
  | none=> rfl
  | some nm=>
   have e:st'.mem nm.1=st.mem nm.1:=by
    refine h x (by simp) nm.1 ?_
    cases x <;> simp only [Zmh,reduceCtorEq] at hp
    .cases hp;simp [ZN]
    .split at hp
     .rename_i heq;cases heq
     .rename_i heq;cases heq;cases hp;simp [ZN]
     .cases hp
   simp only [e]
theorem Z9x{l:List Name}{nm:Name}(h:nm∈l):nm∈ZdP l:=by
 cases l with
 | nil=> cases h
 | cons a l=> exact QN _ h
theorem Znn{l:List Name}{k:Nat}(hk:k < 8)(hl:l≠[]):Name.x k∈ZdP l:=by
 cases l with
 | nil=> exact absurd rfl hl
 | cons a l=>
  refine QP _ ?_
  match k,hk with
  | 0,_ | 1,_ | 2,_ | 3,_ | 4,_ | 5,_ | 6,_ | 7,_=> simp
theorem Z9B:∀ {cs:List (C U)} {hv:List Name} {nm:Name},nm∈ZeH cs hv->nm∈hv\/∃ k,k < 8/\nm= .x k
 | [],hv,nm,h=> .inl h
 | c ::cs,hv,nm,h=> by
  cases c with
  | xp k=>
   simp only [ZeH] at h
   rcases Z9B h with h | h
   .split at h
    .rename_i hc
     rw [Q1] at hc
     rcases Qi.1 h with h | h
     .exact .inl h
     .exact .inr ⟨k,by simpa using hc.1,by simpa using h⟩
    .exact .inl h
   .exact .inr h
  | _=> exact Z9B (by simpa only [ZeH] using h)
theorem ZeG{st:FSt U}:∀ {l hv:List Name} {nm:Name},nm∈Z4H st l hv->nm∈hv\/(l≠[]/\∃ k,k < 8/\nm= .x k)
 | [],hv,nm,h=> .inl h
 | a ::l,hv,nm,h=> by
  simp only [Z4H] at h
  rcases ZeG h with h | ⟨_,h⟩
  .split at h
   .rcases Z9B h with h | h
    .exact .inl h
    .exact .inr ⟨by simp,h⟩
   .exact .inl h
  .exact .inr ⟨by simp,h⟩
theorem ZaN{st st':FSt U}:∀ {l hv:List Name},(∀ nm∈l,st'.mem nm=st.mem nm)->Z4H st' l hv=Z4H st l hv
 | [],hv,_=> rfl
 | a ::l,hv,h=> by
  simp only [Z4H,h a (by simp)]
  exact ZaN fun nm hn=> h nm (by simp [hn])
theorem Z0e:∀ {vs:List (V U)} {nm:Name},nm∈Jf vs->∃ x∈vs,nm∈ZN (some x)
 | [],nm,h=> by cases h
 | v ::vs,nm,h=> by
  simp only [Jf] at h
  split at h
  .rename_i n mk hp
   rcases Q6.1 h with rfl | h
   .refine ⟨v,by simp,?_⟩
    cases v <;> simp only [Zmh,reduceCtorEq] at hp
    .cases hp;simp [ZN]
    .split at hp
     .rename_i heq;cases heq
     .rename_i heq;cases heq;cases hp;simp [ZN]
     .cases hp
   .obtain ⟨x,h1,h2⟩:=Z0e h
    exact ⟨x,by simp [h1],h2⟩
  .obtain ⟨x,h1,h2⟩:=Z0e h
   exact ⟨x,by simp [h1],h2⟩
theorem Z29{st:FSt U}{ps:Nat->Bool}:∀ {xs:List (V U)} {i:Nat} {os:List (Name × List (C U))} {seen:List (Tok × Tok)} {ys:List (V U)} {os':List (Name × List (C U))} {seen':List (Tok × Tok)},
  YJ st ps i xs os seen=some (ys,os',seen')->os'.map (·.1)=os.map (·.1)++Jf xs
 | [],i,os,seen,ys,os',seen',h=> by
  simp only [YJ,Option.some.injEq,Prod.mk.injEq] at h
  obtain ⟨_,rfl,_⟩:=h
  simp [Jf]
 | x ::xs,i,os,seen,ys,os',seen',h=> by
  simp only [YJ] at h
  split at h
  .rename_i nm mk hp
   split at h
   .cases h
   split at h
   .cases h
   split at h
   .rename_i hrec
    simp only [Option.some.injEq,Prod.mk.injEq] at h
    obtain ⟨_,rfl,_⟩:=h
    have:=Z29 hrec
    simp only [Jf,hp]
    rw [this];simp
   .cases h
  .rename_i hp
   split at h
   .cases h
   split at h
   .rename_i hrec
    simp only [Option.some.injEq,Prod.mk.injEq] at h
    obtain ⟨_,rfl,_⟩:=h
    have:=Z29 hrec
    simp only [Jf,hp]
    exact this
   .cases h
theorem Zi1{st:FSt U}{vs:List (V U)}{base:List Name}(hs:∀ x∈vs,∀ nm∈ZN (some x),nm∈base):∀ x∈vs++Z1D st vs,∀ nm∈ZN (some x),nm∈ZdP base:=by
 intro x hx nm hn
 rcases Qi.1 hx with hx | hx
 .exact Z9x (hs x hx nm hn)
 .unfold Z1D at hx
  obtain ⟨n,h1,rfl⟩:=Xr.1 hx
  simp only [ZN,Q9] at hn
  subst hn
  rcases ZeG (QZ h1) with h2 | ⟨h2,k,hk,rfl⟩
  .obtain ⟨y,h3,h4⟩:=Z0e h2
   exact Z9x (hs y h3 _ h4)
  .refine Znn hk fun e=> ?_
   cases ha:Jf vs with
   | nil=> exact h2 ha
   | cons b l=>
    obtain ⟨y,h3,h4⟩:=Z0e (show b∈Jf vs by rw [ha];simp)
    have:=hs y h3 _ h4
    rw [e] at this
    cases this
theorem Zb0 {Γ:Known U} {st st':FSt U} {d:Nat} {f:FuncId} {vs:List (V U)} {base:List Name} (hd:st'.dead=st.dead) (hs:∀ x∈vs,∀ nm∈ZN (some x),nm∈base) (hm:∀ nm∈ZdP base,st'.mem nm=st.mem nm)
  (hB:∀ L,Z0k st' d L=Z0k st d L) (hW:∀ s,Γ.fn f=some s->∀ toks c,(bif s.wr then Z01 st'.ls toks c else [])=(bif s.wr then Z01 st.ls toks c else []:List (Tok × LC U))):Z6x Γ st' d f vs=Z6x Γ st d f vs:=by
 unfold Z6x
 cases hG:Γ.fn f with
 | none=> rfl
 | some s=>
  have hx:Z1D st' vs=Z1D st vs:=by
   unfold Z1D
   rw [ZaN]
   intro nm hn
   obtain ⟨x,h1,h2⟩:=Z0e hn
   exact hm nm (Z9x (hs x h1 nm h2))
  have hn:=Zi1 (st:=st) hs
  simp only [hB,hW s hG,hx]
  rw [Z5i (st:=st) (st':=st') hd _ _ _ _ _ (fun x hxm nm hnm=> hm nm (hn x hxm nm hnm))]
  cases hp:YJ st s.pass 0 (vs++Z1D st vs) [] [] with
  | none=> rfl
  | some r=>
   obtain ⟨ys,os,toks⟩:=r
   have e:(os.map fun x=> ZmX st' os (x.2,x.1))=os.map fun x=> ZmX st os (x.2,x.1):=by
    apply List.map_congr_left
    intro x hxm
    have h1:x.1∈os.map (·.1):=Xr.2 ⟨x,hxm,rfl⟩
    rw [Z29 hp] at h1
    obtain ⟨y,h2,h3⟩:=Z0e (show x.1∈Jf (vs++Z1D st vs) by simpa using h1)
    simp only [ZmX,hm _ (hn y h2 _ h3)]
   simp only [e]
theorem Z6Y{st st':FSt U}{x:Option Operand}(h:∀ y,x=some y->st'.opnd y=st.opnd y):Z0A st' x=Z0A st x:=by
 cases x with
 | none=> rfl
 | some y=> simp only [Z0A,h y rfl]
theorem Z2h{α β:Type}{f f':α->Option β}:∀ {l:List α},(∀ x,x∈l->f' x=f x)->l.mapM f'=l.mapM f
 | [],_=> rfl
 | x ::l,h=> by rw [QS,QS,h x (by simp),Z2h (fun y hy=> h y (by simp [hy]))]
theorem Znc{Γ:Known U}{o:Oper}{ops:Array Oper}{st st':FSt U}(h:Alike Γ o ops st st'):aop cfg Γ o st'.strip=aop cfg Γ o st.strip:=by
 have hop:=fun {x:Operand} (hx:x∈o.op.operands.toList)=> (h.opnd hx).2
 have hm:=h.mem
 have hd:=h.dead
 have htk:=fun {x:Operand} (hx:x∈JZ o) {v:V U} (hv:st.strip.opnd x=some v) {t:Tok} (ht:t∈v.toks)=> h.tok hx hv ht
 have hmu:=h.mu
 have hfr:=h.fr
 have hall:=h.all
 obtain ⟨dst,op,type,pos,after,guard⟩:=o
 cases op <;> simp only [aop]
 case move x=> rw [hop (by simp [Op.operands])]
 case assign x=> rw [hop (by simp [Op.operands])]
 case alloc t=>
  cases dst with
  | none=> rfl
  | some d=>
   have:st'.strip.mem (.loc d)=st.strip.mem (.loc d):=hm (.loc d) (by simp [touch])
   cases cfg.var t with
   | none=> rfl
   | some z=> simp only [this]
 case box t x=>
  cases dst with
  | none=> rfl
  | some d=>
   have:st'.strip.mem (.loc d)=st.strip.mem (.loc d):=hm (.loc d) (by simp [touch])
   rw [hop (x:=x) (by simp [Op.operands])]
   cases cfg.var t with
   | none=> rfl
   | some z=>
    cases (st.strip.opnd x).bind V.cells with
    | none=> rfl
    | some cs=> simp only [this]
 case build t parts=>
  rw [Z2h (f:=fun x=> ((st.strip.opnd x.2).bind V.cells).map (x.1,·))]
  intro x hx
  rw [hop (by simp only [Op.operands];simp;exact ⟨x.1,by simpa using hx⟩)]
 case buildSlice t n parts=>
  rw [Z2h (f:=fun x=> (st.strip.opnd x.2).map (x.1,·)) (by
   intro x hx
   rw [hop (by simp only [Op.operands];simp;exact ⟨x.1,by simpa using hx⟩)])]
  have hmu':st'.strip.mu=st.strip.mu:=hmu
  cases hc:Z4u parts.toList with
  | false=> simp only [Bool.and_false,cond_false]
  | true=>
   have e1:st'.strip.dead=st.strip.dead:=hd hc
   cases dst with
   | none=> simp only [Zbo,hmu']
   | some d=>
    have e2:st'.strip.ls (.r d 0)=st.strip.ls (.r d 0):=hfr 0
    simp only [Zbo,hmu',e1,e2]
 case load t p=>
  rw [hop (by simp [Op.operands])]
  cases cfg.var t with
  | none=> rfl
  | some z=>
   cases hp:st.strip.opnd p with
   | none=> rfl
   | some v=>
    have:rd st'.strip v z.1 z.2.length=rd st.strip v z.1 z.2.length:=Zoc fun nm hnm=> hm nm (by simp only [touch];rw [hp];exact hnm)
    cases v <;> first | (simp only [this];done) | skip
    case c c=> cases c <;> first | rfl | (simp only [this];done)
    case mp u n off=>
     have:st'.strip.ls u=st.strip.ls u:=htk (x:=p) (by simp [JZ]) hp (by simp [V.toks])
     simp only [this]
 case store t p x=>
  rw [hop (x:=p) (by simp [Op.operands]),hop (x:=x) (by simp [Op.operands])]
  cases cfg.var t with
  | none=> rfl
  | some z=>
   cases hp:st.strip.opnd p with
   | none=> rfl
   | some v=>
    cases v <;> try rfl
    case mp u n off=>
     have:st'.strip.ls u=st.strip.ls u:=htk (x:=p) (by simp [JZ]) hp (by simp [V.toks])
     cases (st.strip.opnd x).bind V.cells with
     | none=> rfl
     | some cs=> simp only [this]
    case ptr nm off=>
     have:st'.strip.mem nm=st.strip.mem nm:=hm nm (by simp only [touch];rw [hp];simp [ZN])
     cases (st.strip.opnd x).bind V.cells with
     | none=> rfl
     | some cs=> simp only [this]
    case ap nm off k len n=>
     have:st'.strip.mem nm=st.strip.mem nm:=hm nm (by simp only [touch];rw [hp];simp [ZN])
     cases (st.strip.opnd x).bind V.cells with
     | none=> rfl
     | some cs=>
      match cs with
      | []=> rfl
      | [c]=> cases c <;> first | rfl | simp only [this]
      | c ::_ ::_=> cases c <;> rfl
 case nilCheck x=>
  rw [hop (by simp [Op.operands])]
  cases hp:st.strip.opnd x with
  | none=> rfl
  | some v=>
   cases v <;> try rfl
   case c c=> cases c <;> rfl
   case mp u n off=>
    have:st'.strip.ls u=st.strip.ls u:=htk (x:=x) (by simp [JZ]) hp (by simp [V.toks])
    simp only [this]
 case binOp bop t x y t'=> rw [hop (x:=x) (by simp [Op.operands]),hop (x:=y) (by simp [Op.operands])]
 case unOp uop t x=> rw [hop (by simp [Op.operands])]
 case convert src dst' x=> rw [hop (by simp [Op.operands])]
 case makeSlice t n m=>
  rw [hop (x:=n) (by simp [Op.operands]),hop (x:=m) (by simp [Op.operands])]
  have hmu':st'.strip.mu=st.strip.mu:=hmu
  have e1:st'.strip.dead=st.strip.dead:=hd rfl
  cases dst with
  | none=> simp only [Zgj,hmu']
  | some d=>
   have e2:st'.strip.ls (.r d 0)=st.strip.ls (.r d 0):=hfr 0
   simp only [Zgj,hmu',e1,e2]
 case slice t x lo hi mx=>
  rw [hop (x:=x) (by simp [Op.operands]),Z6Y (x:=lo) (fun y hy=> hop (by simp [Op.operands,hy])),Z6Y (x:=hi) (fun y hy=> hop (by simp [Op.operands,hy])),Z6Y (x:=mx) (fun y hy=> hop (by simp [Op.operands,hy]))]
  cases hp:st.strip.opnd x with
  | none=> rfl
  | some v=>
   cases v
   case ptr nm off=>
    have:st'.strip.mem nm=st.strip.mem nm:=hm nm (by simp only [touch];rw [hp];simp [ZN])
    cases Z0A st.strip lo with
    | none=> rfl
    | some a=>
     cases Z0A st.strip hi with
     | none=> cases a <;> rfl
     | some b=>
      cases Z0A st.strip mx with
      | none=> cases a <;> cases b <;> rfl
      | some c=> cases a <;> cases b <;> cases c <;> first | rfl | simp only [this]
   case c c=>
    have hvw:st'.strip.vw=st.strip.vw:=h.vw
    cases c
    case mref u=>
     have:st'.strip.ls u=st.strip.ls u:=htk (x:=x) (by simp [JZ]) hp (by simp [V.toks])
     rcases Z0A st.strip lo with _ | _ | v
     case some.some=>
      cases v
      case c c=> cases c <;> rcases Z0A st.strip hi with _ | _ | _ <;> rcases Z0A st.strip mx with _ | _ | _ <;> first | rfl | simp only [this,hvw]
      all_goals (cases Z0A st.strip hi <;> cases Z0A st.strip mx <;> rfl)
     all_goals (cases Z0A st.strip hi <;> cases Z0A st.strip mx <;> rfl)
    all_goals (cases Z0A st.strip lo <;> cases Z0A st.strip hi <;> cases Z0A st.strip mx <;> rfl)
   all_goals (cases Z0A st.strip lo <;> cases Z0A st.strip hi <;> cases Z0A st.strip mx <;> rfl)
 case fieldAddr t x f=>
  rw [hop (by simp [Op.operands])]
  cases hp:st.strip.opnd x with
  | none=> rfl
  | some v=>
   cases cfg.fld t f with
   | none=> cases v with
    | c c=> cases c <;> rfl
    | _=> rfl
   | some z=>
    cases v <;> try rfl
    case c c=> cases c <;> rfl
    case mp u n off=>
     have:st'.strip.ls u=st.strip.ls u:=htk (x:=x) (by simp [JZ]) hp (by simp [V.toks])
     simp only [this]
 case makeFunc f first caps=>
  rw [Z2h (f:=fun x=> (st.strip.opnd x).bind Zmg)]
  intro x hx
  rw [hop (by simp only [Op.operands];simp;right;simpa using hx)]
 case field t x f=> rw [hop (by simp [Op.operands])]
 case indexAddr t x i=>
  rw [hop (x:=x) (by simp [Op.operands]),hop (x:=i) (by simp [Op.operands])]
  cases hp:st.strip.opnd x with
  | none=> rfl
  | some v=>
   cases hi:st.strip.opnd i with
   | none=> cases v <;> first | rfl | (rename_i y;cases y <;> rfl)
   | some vi=>
    cases vi <;> first | (cases v <;> first | (rfl;done) | (rename_i y;cases y <;> (rfl;done));done) | skip
    case c z=>
     cases z <;> first | (cases v <;> first | (rfl;done) | (rename_i y;cases y <;> (rfl;done));done) | skip
     case int k n=>
      cases v <;> first | (rfl;done) | skip
      case c y=>
       cases y <;> first | (rfl;done) | skip
       case mref u=>
        have:st'.strip.ls u=st.strip.ls u:=htk (x:=x) (by simp [JZ]) hp (by simp [V.toks])
        simp only [this]
 case index t x i=> rw [hop (x:=x) (by simp [Op.operands]),hop (x:=i) (by simp [Op.operands])]
 case extract x i=> rw [hop (by simp [Op.operands])]
 case call c=>
  unfold Zgl
  cases hc:c.callee with
  | builtin b=>
   simp only
   have hx:∀ x∈c.args.toList,st'.strip.opnd x=st.strip.opnd x:=fun x hx=> hop (by simp [Op.operands,Call.operands,hc];simpa using hx)
   unfold Zdr
   split
   .rename_i x t hargs hts
    rw [hx x (by rw [hargs];simp)]
    cases hp:st.strip.opnd x with
    | none=> rfl
    | some v=>
     have:lenOf cfg st'.strip t v=lenOf cfg st.strip t v:=by
      cases v <;> try rfl
      case c y=>
       cases y <;> try rfl
       case mref u=>
        have:st'.strip.ls u=st.strip.ls u:=htk (x:=x) (by simp only [JZ,hc];rw [hargs];simp) hp (by simp [V.toks])
        simp only [lenOf,this]
     simp only [this]
   .rename_i x y t t' hargs hts
    rw [hx x (by rw [hargs];simp),hx y (by rw [hargs];simp)]
    have hd':st'.dead=st.dead:=hd (by simp only [Z1T,hc])
    have:∀ d t x y,Z68 cfg st'.strip d t x y=Z68 cfg st.strip d t x y:=fun d t x y=> by simp only [Z68,FSt.strip,hd']
    have hmu':st'.strip.mu=st.strip.mu:=hmu
    cases dst with
    | none=> rfl
    | some d=>
     cases hp:st.strip.opnd x with
     | none=> rfl
     | some v=>
      cases v <;> try rfl
      case c cx=>
       have hM:∀ t y,Z3X cfg st'.strip d t cx y=Z3X cfg st.strip d t cx y:=by
        intro t y
        have e1:st'.strip.dead=st.strip.dead:=hd'
        have e2:st'.strip.ls (.r d 0)=st.strip.ls (.r d 0):=hfr 0
        have e3:∀ T,Z6w cfg st'.strip T cx=Z6w cfg st.strip T cx:=by
         intro T
         cases cx <;> simp only [Z6w,e1]
         case mref u=>
          have:st'.strip.ls u=st.strip.ls u:=htk (x:=x) (by simp only [JZ,hc];rw [hargs];simp) hp (by simp [V.toks])
          simp only [this]
        simp only [Z3X,e1,e2,e3]
       have hZ:∀ t t' y,Z3W cfg st'.strip d t t' cx y=Z3W cfg st.strip d t t' cx y:=by
        intro t t' y
        have e1:st'.strip.dead=st.strip.dead:=hd'
        have e2:st'.strip.ls (.r d 0)=st.strip.ls (.r d 0):=hfr 0
        have e3:∀ T,Z6w cfg st'.strip T cx=Z6w cfg st.strip T cx:=by
         intro T
         cases cx <;> simp only [Z6w,e1]
         case mref u=>
          have:st'.strip.ls u=st.strip.ls u:=htk (x:=x) (by simp only [JZ,hc];rw [hargs];simp) hp (by simp [V.toks])
          simp only [this]
        simp only [Z3W,e1,e2,e3]
       cases hq:st.strip.opnd y with
       | none=> rfl
       | some vy=> cases vy <;> first | (rfl;done) | (simp only [this,hM,hZ,hmu'])
   .rename_i x t hargs hts
    rw [hx x (by rw [hargs];simp)]
    cases hp:st.strip.opnd x with
    | none=> rfl
    | some v=>
     cases v <;> try rfl
     case vw u n=>
      have:st'.strip.ls u=st.strip.ls u:=htk (x:=x) (by simp only [JZ,hc];rw [hargs];simp) hp (by simp [V.toks])
      simp only [Zgk,this]
   .rename_i x y t t' hargs hts
    rw [hx x (by rw [hargs];simp),hx y (by rw [hargs];simp)]
    cases hp:st.strip.opnd x with
    | none=> rfl
    | some v=>
     cases v <;> try rfl
     case vw u n=>
      have:st'.strip.ls u=st.strip.ls u:=htk (x:=x) (by simp only [JZ,hc];rw [hargs];simp) hp (by simp [V.toks])
      cases st.strip.opnd y with
      | none=> rfl
      | some vy=> cases vy <;> first | rfl | simp only [ZlQ,this]
   .rename_i x y hargs
    rw [hx x (by rw [hargs];simp),hx y (by rw [hargs];simp)]
   .rename_i x y hargs
    rw [hx x (by rw [hargs];simp),hx y (by rw [hargs];simp)]
   .try rfl
  | value gx=>
   simp only
   have hd':st'.dead=st.dead:=hd (by simp only [Z1T,hc])
   have hx:∀ x∈c.args.toList,st'.strip.opnd x=st.strip.opnd x:=fun x hx=> hop (by simp [Op.operands,Call.operands,hc];right;simpa using hx)
   rw [hop (x:=gx) (by simp [Op.operands,Call.operands,hc]),Z2h (f:=st.strip.opnd) hx]
   cases hg:st.strip.opnd gx with
   | none=> rfl
   | some v=>
    have key:∀ (vs:List (V U)),c.args.toList.mapM st.strip.opnd=some vs->∀ x∈vs,∀ nm∈ZN (some x),nm∈ZN (some v)++c.args.toList.flatMap fun x=> ZN (st.strip.opnd x):=by
     intro vs hv x hxm nm hnm
     obtain ⟨j,hj,rfl⟩:=Xj hxm
     have hlen:=(mapM_len hv)
     have hja:j < c.args.toList.length:=V0
     obtain ⟨y,h1,h2⟩:=Z5q hv j _ (Q2 hja)
     rw [Q2 hj] at h1
     cases h1
     exact QP _ (List.mem_flatMap.2 ⟨_,Xx hja,by rw [h2];exact hnm⟩)
    have hm2:∀ nm∈ZdP (ZN (some v)++c.args.toList.flatMap fun x=> ZN (st.strip.opnd x)),st'.strip.mem nm=st.strip.mem nm:=by
     intro nm hnm
     refine hm nm ?_
     simp only [touch,hc,hg]
     exact Q0 _ hnm
    have hB:∀ L,Z0k st'.strip (dst.getD 0) L=Z0k st.strip (dst.getD 0) L:=Z84 (st:=st.strip) (st':=st'.strip) hd' hfr
    have hW:∀ f',(v= .fn f'\/∃ nms,v= .clo f' nms)->∀ s,Γ.fn f'=some s->∀ toks c,(bif s.wr then Z01 st'.strip.ls toks c else [])=(bif s.wr then Z01 st.strip.ls toks c else []:List (Tok × LC U)):=by
     intro f' hv s hG toks c'
     cases hw:s.wr with
     | false=> rfl
     | true=>
      have:st'.ls=st.ls:=hall (by
       rcases hv with rfl | ⟨nms,rfl⟩ <;> simp only [Z0y,hc,hg,Z7n,hG,hw,Bool.true_or])
      simp only [cond_true,FSt.strip,this]
    cases v <;> try rfl
    case fn f=>
     cases hv:c.args.toList.mapM st.strip.opnd with
     | none=> rfl
     | some vs=>
      simp only
      cases hb:ZoZ Γ f with
      | false=>
       cases hmk:Zus Γ f with
       | false=> exact Zb0 hd' (key vs hv) hm2 hB (hW f (.inl rfl))
       | true=>
        have:st'.strip.mem (.loc (dst.getD 0))=st.strip.mem (.loc (dst.getD 0)):=hm _ (by simp [touch,hc])
        simp only [cond_true,cond_false,Zng,this]
      | true=>
       have:st'.ls=st.ls:=hall (by
        unfold ZoZ at hb
        split at hb
        .rename_i s hG;simp only [Z0y,hc,hg,Z7n,hG,hb,Bool.or_true]
        .cases hb)
       have e:V.lend st'.strip=V.lend st.strip:=by
        have e2:C.lend st'.strip=C.lend st.strip:=by
         funext c
         cases c <;> simp only [C.lend,FSt.strip,this]
        funext v
        cases v <;> simp only [V.lend,e2]
       simp only [cond_true,ZeX,e]
    case clo f nms=>
     cases hv:c.args.toList.mapM st.strip.opnd with
     | none=> rfl
     | some vs=>
      refine Zb0 hd' (fun x hx nm hnm=> ?_) hm2 hB (hW f (.inr ⟨nms,rfl⟩))
      rcases Qi.1 hx with hx | hx
      .exact key vs hv x hx nm hnm
      .obtain ⟨nm0,h1,rfl⟩:=Xr.1 hx
       simp only [ZN,Q9] at hnm
       subst hnm
       exact QN _ (by simpa [ZN] using h1)
  | invoke r m=> rfl
where
 mapM_len {f:Operand->Option (V U)}:∀ {xs:List Operand} {vs:List (V U)},xs.mapM f=some vs->xs.length=vs.length:=by
  intro xs
  induction xs with
  | nil=> intro vs h;simp at h;subst h;rfl
  | cons y xs ih=>
   intro vs h
   rw [QS] at h
   cases h1:f y with
   | none=> simp [h1] at h
   | some v=>
    cases h2:xs.mapM f with
    | none=> simp [h1,h2] at h
    | some r=>
     simp [h1,h2] at h
     subst h
     simp [ih h2]
theorem Z8K{st st':FSt U}{G:Option Bool}:∀ {l:List Operand},(∀ t,Operand.tmp t∈l->st'.env t=st.env t)->Z05 st' G l=Z05 st G l
 | [],_=> rfl
 | x ::l,h=> by
  have ih:=Z8K (l:=l) (G:=G) (fun t ht=> h t (by simp [ht]))
  cases x with
  | tmp t=> simp only [Z05,h t (by simp),ih]
  | _=> simp only [Z05,ih]
theorem ZaQ{tyEq:DecidableEq U.Ty}{G:Bool}{m0 m1:Name->Option (List (C U))}:∀ {m:List (Name × List (C U))},(∀ x∈m,m1 x.1=m0 x.1)->Z3x tyEq G m1 m=Z3x tyEq G m0 m
 | [],_=> rfl
 | (nm,cs) ::r,h=> by
  simp only [Z3x,h (nm,cs) (by simp),ZaQ (m:=r) (fun x hx=> h x (by simp [hx]))]
theorem Z5o{l:List Name}{nm:Name}:Jc l nm=true↔nm∈l:=by
 refine ⟨?_,Z5n⟩
 induction l with
 | nil=> intro h;cases h
 | cons x l ih=>
  intro h
  simp only [Jc] at h
  split at h
  .rename_i e;subst e;simp
  .simp [ih h]
theorem Z4P{o:Oper}{ops:Array Oper}{st st':FSt U}(h:∀ t,t∈o.looksAt ops->st'.env t=st.env t):touch o st'=touch o st:=by
 have hop:∀ {x:Operand},x∈o.op.operands.toList->st'.strip.opnd x=st.strip.opnd x:=by
  intro x hx
  cases x with
  | tmp t=> simp [FSt.opnd,FSt.strip,h t (QN _ (Xt.2 ⟨.tmp t,hx,rfl⟩))]
  | _=> rfl
 obtain ⟨dst,op,type,pos,after,guard⟩:=o
 cases op <;> simp only [touch]
 case load t p=> rw [hop (by simp [Op.operands])]
 case store t p x=> rw [hop (by simp [Op.operands])]
 case slice t x lo hi mx=> rw [hop (by simp [Op.operands])]
 case call c=>
  have:∀ (l:List Operand),(∀ x∈l,x∈c.args.toList)->(l.flatMap fun x=> ZN (st'.strip.opnd x))=l.flatMap fun x=> ZN (st.strip.opnd x):=by
   intro l
   induction l with
   | nil=> intro _;rfl
   | cons x l ih=>
    intro hl
    rw [XG,XG,ih (fun y hy=> hl y (by simp [hy])),hop (by
     have:=hl x (by simp)
     cases hc:c.callee <;> simp [Op.operands,Call.operands,hc] <;> first | (right;simpa using this) | simpa using this)]
  rw [this _ (fun x hx=> hx)]
  cases hc:c.callee with
  | value gx=> simp only [hop (x:=gx) (by simp [Op.operands,Call.operands,hc])]
  | builtin b=> rfl
  | invoke r m=> rfl
theorem ZiX{o:Oper}{x:Operand}(h:x∈JZ o):x∈o.op.operands.toList:=by
 obtain ⟨dst,op,type,pos,after,guard⟩:=o
 cases op <;> simp only [JZ] at h <;> (try (cases h;done))
 case load t p=> simp only [Q9] at h;subst h;simp [Op.operands]
 case store t p x=> simp only [Q9] at h;subst h;simp [Op.operands]
 case nilCheck x=> simp only [Q9] at h;subst h;simp [Op.operands]
 case fieldAddr t x f=> simp only [Q9] at h;subst h;simp [Op.operands]
 case indexAddr t x i=> simp only [Q9] at h;subst h;simp [Op.operands]
 case slice t x lo hi mx=> simp only [Q9] at h;subst h;simp [Op.operands]
 case call c=>
  cases hc:c.callee <;> rw [hc] at h <;> (try (cases h;done))
  simp only at h
  simp only [Op.operands,Call.operands,hc]
  simpa using h
theorem Z7m{o:Oper}{ops:Array Oper}{st st':FSt U}(h:∀ t,t∈o.looksAt ops->st'.env t=st.env t):touchT o st'=touchT o st:=by
 have hop:∀ {x:Operand},x∈o.op.operands.toList->st'.strip.opnd x=st.strip.opnd x:=by
  intro x hx
  cases x with
  | tmp t=> simp [FSt.opnd,FSt.strip,h t (QN _ (Xt.2 ⟨.tmp t,hx,rfl⟩))]
  | _=> rfl
 unfold touchT
 have:∀ (l:List Operand),(∀ x∈l,x∈JZ o)->(l.flatMap fun x=> (st'.strip.opnd x).toList.flatMap V.toks)=l.flatMap fun x=> (st.strip.opnd x).toList.flatMap V.toks:=by
  intro l
  induction l with
  | nil=> intro _;rfl
  | cons x l ih=>
   intro hl
   rw [XG,XG,ih (fun y hy=> hl y (by simp [hy])),hop (ZiX (hl x (by simp)))]
 exact this _ (fun x hx=> hx)
theorem Z6u{Γ:Known U}{o:Oper}{ops:Array Oper}{st st':FSt U}(h:∀ t,t∈o.looksAt ops->st'.env t=st.env t):Z0y Γ o st'=Z0y Γ o st:=by
 obtain ⟨dst,op,type,pos,after,guard⟩:=o
 cases op <;> try rfl
 case call c=>
  simp only [Z0y]
  cases hc:c.callee <;> try rfl
  case value g=>
   have:st'.strip.opnd g=st.strip.opnd g:=by
    cases g with
    | tmp t=> simp [FSt.opnd,FSt.strip,h t (QN _ (Xt.2 ⟨.tmp t,by simp [Op.operands,Call.operands,hc],rfl⟩))]
    | _=> rfl
   simp only [this]
theorem ZaX{Γ:Known U}{o:Oper}{ops:Array Oper}{st st':FSt U}(h:Alike Γ o ops st st'):Z4K cfg Γ ops o st'=Z4K cfg Γ ops o st:=by
 have hop:=fun {x:Operand} (hx:x∈o.op.operands.toList)=> (h.opnd hx).1
 have hG:Z4o ops st' o=Z4o ops st o:=by
  unfold Z4o
  cases hg:o.guard with
  | none=> rfl
  | some jw=>
   obtain ⟨j,want⟩:=jw
   simp only
   cases ht:(ops[j]?).bind (·.dst) with
   | none=> rfl
   | some t=>
    have:st'.env t=st.env t:=h.env t (QP _ (by simp [hg,ht]))
    simp only [this]
 have hN:∀ G,Z05 st' G o.op.operands.toList=Z05 st G o.op.operands.toList:=fun G=>
  Z8K fun t ht=> h.env t (QN _ (Xt.2 ⟨.tmp t,ht,rfl⟩))
 unfold Z4K
 rw [h.n]
 split
 .split
  .rename_i c x y hc
   rw [hG,hop (x:=c) (by simp [hc,Op.operands]),hop (x:=x) (by simp [hc,Op.operands]),hop (x:=y) (by simp [hc,Op.operands])]
  .have ht:=Z4P (st:=st) (st':=st') h.env
   rw [hG]
   simp only [Znc h,hN,ht]
   split
   .try rfl
   .rename_i G hGe
    cases he:aop cfg Γ o st.strip with
    | none=> rfl
    | some r=>
     obtain ⟨ps,e⟩:=r
     cases G with
     | none=> rfl
     | some Gb=>
      obtain ⟨v,m,k,l⟩:=e
      cases v with
      | none=> rfl
      | some v=>
       cases k with
       | cons _ _=> cases m <;> rfl
       | nil=>
        cases l with
        | cons _ _=> cases m <;> rfl
        | nil=>
        cases m with
        | nil=> rfl
        | cons x r=>
         simp only
         cases hall:(x ::r).all fun x=> Jc (touch o st) x.1 with
         | false=> rfl
         | true=>
          have hj:Z3x cfg.tyEq Gb st'.mem (x ::r)=Z3x cfg.tyEq Gb st.mem (x ::r):=ZaQ fun y hy=> h.mem _ (Z5o.1 (by
           rw [QA] at hall
           exact hall y hy))
          rw [hj]
 .try rfl
theorem Z4k{m0:Name->Option (List (C U))}{m:List (Name × List (C U))}{nm:Name}(h:Jc (m.map (·.1)) nm=false):ZG m0 m nm=m0 nm:=by
 induction m with
 | nil=> rfl
 | cons x m ih=>
  obtain ⟨b,cs⟩:=x
  simp only [X4,Jc] at h
  split at h
  .cases h
  .rename_i e
   simp only [ZG]
   rw [if_neg (fun e'=> e e'.symm),ih h]
theorem ZcR{x y:List Name}(h:Zj5 x y=false):∀ nm,nm∈x->Jc y nm=false:=by
 intro nm hn
 unfold Zj5 at h
 rw [List.any_eq_false] at h
 simpa using h nm hn
theorem Zm0{l:List Tok}{t:Tok}:Zgs l t=true↔t∈l:=by
 induction l with
 | nil=> simp [Zgs]
 | cons x l ih=>
  simp only [Zgs,Q6]
  split
  .rename_i e;simp [e]
  .rename_i e;rw [ih];constructor
   .exact .inr
   .rintro (rfl | h)
    .exact absurd rfl e
    .exact h
theorem Zaz{x y:List Tok}(h:ZcS x y=false):∀ t,t∈x->t∉y:=by
 intro t ht hy
 unfold ZcS at h
 rw [List.any_eq_false] at h
 have:=h t ht
 rw [Zm0.2 hy] at this
 simp at this
theorem ZmJ{m:Tok->Option (LC U)}{l:List (Tok × LC U)}{t:Tok}(h:t∉l.map (·.1)):Zv m l t=m t:=by
 induction l with
 | nil=> rfl
 | cons x l ih=>
  obtain ⟨b,y⟩:=x
  simp only [X4,Q6,not_or] at h
  simp only [Zv]
  rw [if_neg h.1,ih h.2]
theorem Z3t{m:Tok->Option (LC U)}{e:Eff U}{t:Tok}(h:t∉e.kill++e.ls.map (·.1)):JM m e t=m t:=by
 simp only [Qi,not_or] at h
 unfold JM
 have:e.kill.contains t=false:=by
  cases hk:e.kill.contains t with
  | false=> rfl
  | true=> exact absurd (by simpa using hk) h.1
 rw [this,cond_false,ZmJ h.2]
theorem ZeV {Γ:Known U} {ops:Array Oper} {x y:Oper} {st:FSt U} {e:Eff U} (hap:x.apart ops y=true) (hm:Zj5 (e.mem.map (·.1)) (touch y st)=false) (hk:(!e.kill.isEmpty && Z1T y)=false)
  (ht:ZcS (e.kill++e.ls.map (·.1)) (touchT y st)=false) (hr:noR (y.dst.getD 0) (e.kill++e.ls.map (·.1))=true) (ha:((e.kill++e.ls.map (·.1)).isEmpty || !Z0y Γ y st)=true):
  Alike Γ y ops st (st.app x.dst e):=by
 obtain ⟨h1,_,_⟩:=Oper.apart_spec hap
 refine ⟨?_,?_,?_,?_,by cases x.dst <;> rfl,by cases x.dst <;> rfl,fun t htt=> Z3t (fun hm=> Zaz ht t hm htt),fun j=> Z3t (fun hm=> ?_),fun hc=> ?_⟩
 .cases x.dst <;> rfl
 .intro t ht
  cases hd:x.dst with
  | none=> rfl
  | some d=>
   have hne:t≠d:=fun e=> h1 d hd (e▸ht)
   have:Nat.beq t d=false:=by
    cases hb:Nat.beq t d with
    | false=> rfl
    | true=> exact absurd (Qc hb) hne
   simp [FSt.app,FSt.put,this]
 .intro nm hn
  have:Jc (e.mem.map (·.1)) nm=false:=by
   cases hb:Jc (e.mem.map (·.1)) nm with
   | false=> rfl
   | true=>
    have:=ZcR hm nm (Z5o.1 hb)
    rw [Z5n hn] at this
    cases this
  exact Z4k this
 .intro hr
  simp only [hr,Xh,Bool.not_eq_false'] at hk
  have:e.kill=[]:=by simpa using hk
  simp [FSt.app,this]
 .have:=QA.1 hr _ hm
  simp at this
 .rw [hc] at ha
  simp only [K2,Bool.or_false,List.isEmpty_iff] at ha
  funext t
  exact Z3t (by rw [ha];simp)
theorem Zr8{ops:Array Oper}{x y:Oper}{st:FSt U}{e f:Eff U}(hap:x.apart ops y=true)(hm:Zj5 (e.mem.map (·.1)) (f.mem.map (·.1))=false)(hl:ZcS (e.kill++e.ls.map (·.1)) (f.kill++f.ls.map (·.1))=false):
  (st.app x.dst e).app y.dst f=(st.app y.dst f).app x.dst e:=by
 obtain ⟨_,h2,_⟩:=Oper.apart_spec hap
 have hput:∀ (s:FSt U) (v u:V U),((s.put x.dst v).put y.dst u)=((s.put y.dst u).put x.dst v):=by
  intro s v u
  cases hx:x.dst with
  | none=> rfl
  | some d=>
   cases hy:y.dst with
   | none=> rfl
   | some d'=>
    have hne:d≠d':=fun e=> h2 d hx (by rw [hy,e])
    simp only [FSt.put]
    congr 1
    funext j
    cases h1:Nat.beq j d with
    | false=> rfl
    | true=>
     cases h3:Nat.beq j d' with
     | false=> rfl
     | true=> exact absurd ((Qc h1).symm.trans (Qc h3)) hne
 have hmem:ZG (ZG st.mem e.mem) f.mem=ZG (ZG st.mem f.mem) e.mem:=by
  funext nm
  cases h1:Jc (e.mem.map (·.1)) nm with
  | false=>
   rw [Z4k (m:=e.mem) (m0:=ZG st.mem f.mem) h1]
   rcases Z09 st.mem f.mem nm with ⟨k,cs,h3,h4⟩ | ⟨h3,h4⟩
   .rcases Z09 (ZG st.mem e.mem) f.mem nm with ⟨k',cs',h5,h6⟩ | ⟨h5,h6⟩
    .have:∀ (m0 m1:Name->Option (List (C U))) (l:List (Name × List (C U))),(∃ x,x∈l/\x.1=nm)->ZG m0 l nm=ZG m1 l nm:=by
      intro m0 m1 l
      induction l with
      | nil=> rintro ⟨x,hx,_⟩;simp at hx
      | cons z l ih=>
       rintro ⟨x,hx,hxe⟩
       obtain ⟨b,cs⟩:=z
       simp only [ZG]
       split
       .try rfl
       .rename_i hne
        rcases Q6.1 hx with rfl | hx
        .exact absurd hxe.symm hne
        .exact ih ⟨x,hx,hxe⟩
     exact this _ _ _ ⟨_,QR h3,rfl⟩
    .exact absurd rfl (h5 k _ h3)
   .rcases Z09 (ZG st.mem e.mem) f.mem nm with ⟨k',cs',h5,h6⟩ | ⟨h5,h6⟩
    .exact absurd rfl (h3 k' _ h5)
    .rw [h6,h4,Z4k h1]
  | true=>
   have h2':Jc (f.mem.map (·.1)) nm=false:=ZcR hm nm (Z5o.1 h1)
   rw [Z4k (m:=f.mem) (m0:=ZG st.mem e.mem) h2']
   have:∀ (m0 m1:Name->Option (List (C U))) (l:List (Name × List (C U))),Jc (l.map (·.1)) nm=true->ZG m0 l nm=ZG m1 l nm:=by
    intro m0 m1 l
    induction l with
    | nil=> intro h;cases h
    | cons z l ih=>
     obtain ⟨b,cs⟩:=z
     intro h
     simp only [X4,Jc] at h
     simp only [ZG]
     split
     .try rfl
     .rename_i hne
      rw [if_neg (fun e=> hne e.symm)] at h
      exact ih h
   exact this _ _ _ h1
 have hdead:(fun t=> (st.dead t || e.kill.contains t) || f.kill.contains t)=fun t=> (st.dead t || f.kill.contains t) || e.kill.contains t:=by
  funext t
  cases st.dead t <;> cases e.kill.contains t <;> cases f.kill.contains t <;> rfl
 have hn:∀ (s:FSt U) d v,(s.put d v).n=s.n/\(s.put d v).mem=s.mem/\(s.put d v).dead=s.dead:=by
  intro s d v;cases d <;> exact ⟨rfl,rfl,rfl⟩
 have henv:(((st.put x.dst (e.val.getD .junk))).put y.dst (f.val.getD .junk)).env=((st.put y.dst (f.val.getD .junk)).put x.dst (e.val.getD .junk)).env:=by rw [hput]
 have hpe:∀ (s s':FSt U) d v,s.env=s'.env->(s.put d v).env=(s'.put d v).env:=by
  intro s s' d v he;cases d <;> simp [FSt.put,he]
 have hls:JM (JM st.ls e) f=JM (JM st.ls f) e:=by
  funext t
  by_cases h1:t∈e.kill++e.ls.map (·.1)
  .have h2:=Zaz hl t h1
   rw [Z3t h2]
   unfold JM
   cases he:e.kill.contains t with
   | true=> rfl
   | false=>
    simp only [cond_false]
    have h3:t∈e.ls.map (·.1):=by
     rcases Qi.1 h1 with h | h
     .have:e.kill.contains t=true:=by simpa using h
      rw [he] at this;cases this
     .exact h
    have:∀ (m0 m1:Tok->Option (LC U)) (l:List (Tok × LC U)),t∈l.map (·.1)->Zv m0 l t=Zv m1 l t:=by
     intro m0 m1 l
     induction l with
     | nil=> intro h;cases h
     | cons z l ih=>
      obtain ⟨b,y⟩:=z
      intro h
      simp only [Zv]
      split
      .try rfl
      .rename_i hne
       simp only [X4,Q6] at h
       exact ih (h.resolve_left hne)
    exact this _ _ _ h3
  .rw [Z3t (m:=JM st.ls f) h1]
   have:∀ (m0 m1:Tok->Option (LC U)) (l:List (Tok × LC U)),m0 t=m1 t->Zv m0 l t=Zv m1 l t:=by
    intro m0 m1 l he
    induction l with
    | nil=> exact he
    | cons z l ih=>
     obtain ⟨b,y⟩:=z
     simp only [Zv]
     split
     .try rfl
     .exact ih
   have h3:JM st.ls e t=st.ls t:=Z3t h1
   unfold JM at h3 ⊢
   cases hf:f.kill.contains t with
   | true=> rfl
   | false=> simp only [cond_false];exact this _ _ _ h3
 have ext:∀ {s s':FSt U},s.n=s'.n->s.env=s'.env->s.mem=s'.mem->s.dead=s'.dead->s.ls=s'.ls->s.mu=s'.mu->s.vw=s'.vw->s=s':=by
  intro s s' h1 h2 h3 h4;cases s;cases s';simp_all
 refine ext ?_ ?_ ?_ ?_ hls ?_ (by cases x.dst <;> cases y.dst <;> rfl)
 .cases x.dst <;> cases y.dst <;> rfl
 .show ((st.app x.dst e).put y.dst _).env=((st.app y.dst f).put x.dst _).env
  rw [hpe (st.app x.dst e) (st.put x.dst (e.val.getD .junk)) y.dst _ rfl,henv,hpe (st.app y.dst f) (st.put y.dst (f.val.getD .junk)) x.dst _ rfl]
 .show ZG (st.app x.dst e).mem f.mem=ZG (st.app y.dst f).mem e.mem
  exact hmem
 .exact hdead
 .cases x.dst <;> cases y.dst <;> rfl
end Go.AM
