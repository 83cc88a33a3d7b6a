import Derived.Test.YtfapacabjkhepaaGreatWmL
set_option linter.unusedSimpArgs false
set_option linter.unusedVariables false
namespace Go.AM
variable {U:Uni} {P:Program} {cfg:Cfg U} {B:Base} {st:FSt U} {g:Gh} {a:Act} {w:World}
def Z2K(o:Oper):Bool:=
 match o.op with
 | .call c=> match c.callee with
  | .builtin .len=> false
  | _=> true
 | .makeSlice _ _ _=> true
 | .buildSlice _ _ parts=> Z5H parts.toList
 | _=> false
structure Fp where
 touch:List Name
 writes:List Name
 kills:Bool
 touchT:List Tok
 writesT:List Tok
 allT:Bool
def Z0D(Γ:Known U)(o:Oper)(st:FSt U):Bool:=
 match o.op with
 | .call c=> match c.callee with
  | .value g=> match st.strip.opnd g with
   | some (.fn f)=> Z9p Γ (some (.fn f))
   | some (.clo f _)=> Z9p Γ (some (.fn f))
   | _=> false
  | _=> false
 | _=> false
def Zs7(Γ:Known U)(o:Oper)(st:FSt U)(e:Eff U):Fp:={ allT:=Z0D Γ o st,touch:=touch o st,writes:=e.mem.map (·.1),kills:= !e.kill.isEmpty,touchT:=touchT o st,writesT:=e.kill++e.ls.map (·.1) }
def Zk5(l:List Tok)(t:Tok):Bool:=
 match l with
 | []=> false
 | a ::r=> if a=t then true else Zk5 r t
def ZfZ(a b:List Tok):Bool:=a.any fun x=> Zk5 b x
def noR(d:Nat)(a:List Tok):Bool:=a.all fun t=> match t with
 | .r d' _=> !Nat.beq d' d
 | _=> true
def ZmW(a b:List Name):Bool:=a.any fun x=> Jf b x
def Zjo(ops:Array Oper)(x y:Oper)(a b:Fp):Bool:=
 x.apart ops y && y.apart ops x && !ZmW a.writes b.touch && !ZmW b.writes a.touch && !ZmW a.writes b.writes && !(a.kills && Z2K y) && !(b.kills && Z2K x) &&
  !ZfZ a.writesT b.touchT && !ZfZ b.writesT a.touchT && !ZfZ a.writesT b.writesT && noR (y.dst.getD 0) a.writesT && noR (x.dst.getD 0) b.writesT &&
  (a.writesT.isEmpty || !b.allT) && (b.writesT.isEmpty || !a.allT)
structure Alike (Γ:Known U) (o:Oper) (ops:Array Oper) (st st':FSt U):Prop where
 n:st'.n=st.n
 env:∀ t,t∈o.looksAt ops->st'.env t=st.env t
 mem:∀ nm,nm∈touch o st->st'.mem nm=st.mem nm
 dead:Z2K o=true->st'.dead=st.dead
 mu:st'.mu=st.mu
 vw:st'.vw=st.vw
 ls:∀ t,t∈touchT o st->st'.ls t=st.ls t
 fr:∀ j,st'.ls (.r (o.dst.getD 0) j)=st.ls (.r (o.dst.getD 0) j)
 all:Z0D Γ o st=true->st'.ls=st.ls
theorem Alike.tok{o:Oper}{ops:Array Oper}{Γ:Known U}{st st':FSt U}(h:Alike Γ o ops st st'){x:Operand}(hx:x∈Z02 o){v:V U}(hv:st.strip.opnd x=some v){t:Tok}(ht:t∈v.toks):st'.ls t=st.ls t:=
 h.ls t (XZ.2 ⟨x,hx,by grind⟩)
theorem Zat{st st':FSt U}{d:Nat}(hd:st'.dead=st.dead)(hf:∀ j,st'.ls (.r d j)=st.ls (.r d j)):∀ (L:List (Tok × LC U)),Z0I st' d L=Z0I st d L
 | []=> rfl
 | (t,x) ::L=> by
  simp only [Z0I,Zat hd hf L]
  cases hb:ZZ d t with
  | none=> rfl
  | some t'=>
   have e:∃ j,t'= .r d j:=by
    unfold ZZ at hb
    split at hb
    .grind
    .grind
    .cases hb
   grind
theorem Alike.opnd{o:Oper}{ops:Array Oper}{Γ:Known U}{st st':FSt U}(h:Alike Γ o ops st st'){x:Operand}(hx:x∈o.op.operands.toList):st'.opnd x=st.opnd x/\st'.strip.opnd x=st.strip.opnd x:=by
 cases x with
 | tmp t=>
  have ht:t∈o.looksAt ops:=X5 _ (Xx.2 ⟨.tmp t,hx,rfl⟩)
  have:=h.env t ht
  exact ⟨by simp [FSt.opnd,this],by simp [FSt.opnd,FSt.strip,this]⟩
 | const c=> trivial
 | global g=> trivial
 | func f=> trivial
theorem Zuq{st st':FSt U}{p:V U}{ag:Bool}{n:Nat}(h:∀ nm,nm∈ZS (some p)->st'.mem nm=st.mem nm):rd st' p ag n=rd st p ag n:=by
 cases p <;> simp only [rd]
 case ptr nm off=> rw [h nm (by simp [ZS])]
 case ap nm off k len i=> rw [h nm (by simp [ZS])]
theorem Z6n{st st':FSt U}(hd:st'.dead=st.dead)(ps:Nat->Bool):∀ (xs:List (V U)) (i:Nat) (os:List (Name × List (C U))) (seen:List (Tok × Tok)),
  (∀ x,x∈xs->∀ nm,nm∈ZS (some x)->st'.mem nm=st.mem nm)->YN st' ps i xs os seen=YN st ps i xs os seen
 | [],i,os,seen,_=> rfl
 | x ::xs,i,os,seen,h=> by
  have ih:=fun i os seen=> Z6n hd ps xs i os seen (fun y hy=> h y (by simp [hy]))
  simp only [YN,hd,ih]
  cases hp:Zry x with
  | none=> rfl
  | some nm=>
   have e:st'.mem nm.1=st.mem nm.1:=by
    refine h x (by simp) nm.1 ?_
    cases x <;> simp only [Zry,reduceCtorEq] at hp
    .cases hp;simp [ZS]
    .split at hp
     .grind
     .rename_i heq;cases heq;cases hp;simp [ZS]
     .cases hp
   simp only [e]
theorem Zc1{l:List Name}{nm:Name}(h:nm∈l):nm∈Zh1 l:=by
 cases l with
 | nil=> cases h
 | cons a l=> exact X5 _ h
theorem ZsE{l:List Name}{k:Nat}(hk:k < 8)(hl:l≠[]):Name.x k∈Zh1 l:=by
 cases l with
 | nil=> grind
 | cons a l=>
  refine Xp _ ?_
  grind
theorem Zc5:∀ {cs:List (C U)} {hv:List Name} {nm:Name},nm∈ZhI cs hv->nm∈hv\/∃ k,k < 8/\nm= .x k
 | [],hv,nm,h=> .inl h
 | c ::cs,hv,nm,h=> by
  cases c with
  | xp k=>
   simp only [ZhI] at h
   rcases Zc5 h with h | h
   .split at h
    .rename_i hc
     rw [Q2] at hc
     rcases Qi.1 h with h | h
     .exact .inl h
     .exact .inr ⟨k,by simpa using hc.1,by simpa using h⟩
    .exact .inl h
   .exact .inr h
  | _=> exact Zc5 (by simpa only [ZhI] using h)
theorem ZhH{st:FSt U}:∀ {l hv:List Name} {nm:Name},nm∈Z8q st l hv->nm∈hv\/(l≠[]/\∃ k,k < 8/\nm= .x k)
 | [],hv,nm,h=> .inl h
 | a ::l,hv,nm,h=> by
  simp only [Z8q] at h
  rcases ZhH h with h | ⟨_,h⟩
  .split at h
   .rcases Zc5 h with h | h
    .exact .inl h
    .exact .inr ⟨by simp,h⟩
   .exact .inl h
  .exact .inr ⟨by simp,h⟩
theorem Zdl{st st':FSt U}:∀ {l hv:List Name},(∀ nm∈l,st'.mem nm=st.mem nm)->Z8q st' l hv=Z8q st l hv
 | [],hv,_=> rfl
 | a ::l,hv,h=> by
  simp only [Z8q,h a (by simp)]
  exact Zdl fun nm hn=> h nm (by simp [hn])
theorem Z0g:∀ {vs:List (V U)} {nm:Name},nm∈Jk vs->∃ x∈vs,nm∈ZS (some x)
 | [],nm,h=> by cases h
 | v ::vs,nm,h=> by
  simp only [Jk] at h
  split at h
  .rename_i n mk hp
   rcases Q9.1 h with rfl | h
   .refine ⟨v,by simp,?_⟩
    cases v <;> simp only [Zry,reduceCtorEq] at hp
    .cases hp;simp [ZS]
    .split at hp
     .grind
     .rename_i heq;cases heq;cases hp;simp [ZS]
     .cases hp
   .obtain ⟨x,h1,h2⟩:=Z0g h
    grind
  .obtain ⟨x,h1,h2⟩:=Z0g h
   grind
theorem Z39{st:FSt U}{ps:Nat->Bool}:∀ {xs:List (V U)} {i:Nat} {os:List (Name × List (C U))} {seen:List (Tok × Tok)} {ys:List (V U)} {os':List (Name × List (C U))} {seen':List (Tok × Tok)},
  YN st ps i xs os seen=some (ys,os',seen')->os'.map (·.1)=os.map (·.1)++Jk xs
 | [],i,os,seen,ys,os',seen',h=> by
  simp only [YN,Option.some.injEq,Prod.mk.injEq] at h
  obtain ⟨_,rfl,_⟩:=h
  simp [Jk]
 | x ::xs,i,os,seen,ys,os',seen',h=> by
  simp only [YN] at h
  split at h
  .rename_i nm mk hp
   split at h
   .cases h
   split at h
   .cases h
   split at h
   .rename_i hrec
    simp only [Option.some.injEq,Prod.mk.injEq] at h
    obtain ⟨_,rfl,_⟩:=h
    have:=Z39 hrec
    simp only [Jk,hp]
    grind
   .cases h
  .rename_i hp
   split at h
   .cases h
   split at h
   .rename_i hrec
    simp only [Option.some.injEq,Prod.mk.injEq] at h
    obtain ⟨_,rfl,_⟩:=h
    have:=Z39 hrec
    simp only [Jk,hp]
    exact this
   .cases h
theorem ZlF{st:FSt U}{vs:List (V U)}{base:List Name}(hs:∀ x∈vs,∀ nm∈ZS (some x),nm∈base):∀ x∈vs++Z2e st vs,∀ nm∈ZS (some x),nm∈Zh1 base:=by
 intro x hx nm hn
 rcases Qi.1 hx with hx | hx
 .exact Zc1 (hs x hx nm hn)
 .unfold Z2e at hx
  obtain ⟨n,h1,rfl⟩:=X4.1 hx
  simp only [ZS,Qg] at hn
  subst hn
  rcases ZhH (QS h1) with h2 | ⟨h2,k,hk,rfl⟩
  .obtain ⟨y,h3,h4⟩:=Z0g h2
   exact Zc1 (hs y h3 _ h4)
  .refine ZsE hk fun e=> ?_
   cases ha:Jk vs with
   | nil=> exact h2 ha
   | cons b l=>
    obtain ⟨y,h3,h4⟩:=Z0g (show b∈Jk vs by rw [ha];simp)
    grind
theorem ZdA {Γ:Known U} {st st':FSt U} {d:Nat} {f:FuncId} {vs:List (V U)} {base:List Name} (hd:st'.dead=st.dead) (hs:∀ x∈vs,∀ nm∈ZS (some x),nm∈base) (hm:∀ nm∈Zh1 base,st'.mem nm=st.mem nm)
  (hB:∀ L,Z0I st' d L=Z0I st d L) (hW:∀ s,Γ.fn f=some s->∀ toks c,(bif s.wr then Z0l st'.ls toks c else [])=(bif s.wr then Z0l st.ls toks c else []:List (Tok × LC U))):Z8w Γ st' d f vs=Z8w Γ st d f vs:=by
 unfold Z8w
 cases hG:Γ.fn f with
 | none=> rfl
 | some s=>
  have hx:Z2e st' vs=Z2e st vs:=by
   unfold Z2e
   rw [Zdl]
   intro nm hn
   obtain ⟨x,h1,h2⟩:=Z0g hn
   exact hm nm (Zc1 (hs x h1 nm h2))
  have hn:=ZlF (st:=st) hs
  simp only [hB,hW s hG,hx]
  rw [Z6n (st:=st) (st':=st') hd _ _ _ _ _ (fun x hxm nm hnm=> hm nm (hn x hxm nm hnm))]
  cases hp:YN st s.pass 0 (vs++Z2e st vs) [] [] with
  | none=> rfl
  | some r=>
   obtain ⟨ys,os,toks⟩:=r
   have e:(os.map fun x=> Zs9 st' os (x.2,x.1))=os.map fun x=> Zs9 st os (x.2,x.1):=by
    apply List.map_congr_left
    intro x hxm
    have h1:x.1∈os.map (·.1):=X4.2 ⟨x,hxm,rfl⟩
    rw [Z39 hp] at h1
    obtain ⟨y,h2,h3⟩:=Z0g (show x.1∈Jk (vs++Z2e st vs) by simpa using h1)
    simp only [Zs9,hm _ (hn y h2 _ h3)]
   simp only [e]
theorem Z8Z{st st':FSt U}{x:Option Operand}(h:∀ y,x=some y->st'.opnd y=st.opnd y):Z10 st' x=Z10 st x:=by
 cases x with
 | none=> rfl
 | some y=> simp only [Z10,h y rfl]
theorem Z3d{α β:Type}{f f':α->Option β}:∀ {l:List α},(∀ x,x∈l->f' x=f x)->l.mapM f'=l.mapM f
 | [],_=> rfl
 | x ::l,h=> by rw [X2,X2,h x (by simp),Z3d (fun y hy=> h y (by simp [hy]))]
theorem Zst{Γ:Known U}{o:Oper}{ops:Array Oper}{st st':FSt U}(h:Alike Γ o ops st st'):aop cfg Γ o st'.strip=aop cfg Γ o st.strip:=by
 have hop:=fun {x:Operand} (hx:x∈o.op.operands.toList)=> (h.opnd hx).2
 have hm:=h.mem
 have hd:=h.dead
 have htk:=fun {x:Operand} (hx:x∈Z02 o) {v:V U} (hv:st.strip.opnd x=some v) {t:Tok} (ht:t∈v.toks)=> h.tok hx hv ht
 have hmu:=h.mu
 have hfr:=h.fr
 have hall:=h.all
 obtain ⟨dst,op,type,pos,after,guard⟩:=o
 cases op <;> simp only [aop]
 case move x=> rw [hop (by simp [Op.operands])]
 case assign x=> rw [hop (by simp [Op.operands])]
 case alloc t=>
  cases dst with
  | none=> rfl
  | some d=>
   have:st'.strip.mem (.loc d)=st.strip.mem (.loc d):=hm (.loc d) (by simp [touch])
   cases cfg.var t with
   | none=> rfl
   | some z=> simp only [this]
 case box t x=>
  cases dst with
  | none=> rfl
  | some d=>
   have:st'.strip.mem (.loc d)=st.strip.mem (.loc d):=hm (.loc d) (by simp [touch])
   rw [hop (x:=x) (by simp [Op.operands])]
   cases cfg.var t with
   | none=> rfl
   | some z=>
    cases (st.strip.opnd x).bind V.cells with
    | none=> rfl
    | some cs=> simp only [this]
 case build t parts=>
  rw [Z3d (f:=fun x=> ((st.strip.opnd x.2).bind V.cells).map (x.1,·))]
  intro x hx
  rw [hop (by simp only [Op.operands];simp;exact ⟨x.1,by simpa using hx⟩)]
 case buildSlice t n parts=>
  rw [Z3d (f:=fun x=> (st.strip.opnd x.2).map (x.1,·)) (by
   intro x hx
   rw [hop (by simp only [Op.operands];simp;exact ⟨x.1,by simpa using hx⟩)])]
  have hmu':st'.strip.mu=st.strip.mu:=hmu
  cases hc:Z5H parts.toList with
  | false=> simp only [Bool.and_false,cond_false]
  | true=>
   have e1:st'.strip.dead=st.strip.dead:=hd hc
   cases dst with
   | none=> simp only [Ze9,hmu']
   | some d=>
    have e2:st'.strip.ls (.r d 0)=st.strip.ls (.r d 0):=hfr 0
    simp only [Ze9,hmu',e1,e2]
 case load t p=>
  rw [hop (by simp [Op.operands])]
  cases cfg.var t with
  | none=> rfl
  | some z=>
   cases hp:st.strip.opnd p with
   | none=> rfl
   | some v=>
    have:rd st'.strip v z.1 z.2.length=rd st.strip v z.1 z.2.length:=Zuq fun nm hnm=> hm nm (by simp only [touch];rw [hp];exact hnm)
    cases v <;> first | (simp only [this];done) | skip
    case c c=> cases c <;> first | rfl | (simp only [this];done)
    case mp u n off=>
     have:st'.strip.ls u=st.strip.ls u:=htk (x:=p) (by simp [Z02]) hp (by simp [V.toks])
     simp only [this]
 case store t p x=>
  rw [hop (x:=p) (by simp [Op.operands]),hop (x:=x) (by simp [Op.operands])]
  cases cfg.var t with
  | none=> rfl
  | some z=>
   cases hp:st.strip.opnd p with
   | none=> rfl
   | some v=>
    cases v <;> try rfl
    case mp u n off=>
     have:st'.strip.ls u=st.strip.ls u:=htk (x:=p) (by simp [Z02]) hp (by simp [V.toks])
     cases (st.strip.opnd x).bind V.cells with
     | none=> rfl
     | some cs=> simp only [this]
    case ptr nm off=>
     have:st'.strip.mem nm=st.strip.mem nm:=hm nm (by simp only [touch];rw [hp];simp [ZS])
     cases (st.strip.opnd x).bind V.cells with
     | none=> rfl
     | some cs=> simp only [this]
    case ap nm off k len n=>
     have:st'.strip.mem nm=st.strip.mem nm:=hm nm (by simp only [touch];rw [hp];simp [ZS])
     cases (st.strip.opnd x).bind V.cells with
     | none=> rfl
     | some cs=>
      match cs with
      | []=> rfl
      | [c]=> cases c <;> first | rfl | simp only [this]
      | c ::_ ::_=> cases c <;> rfl
 case nilCheck x=>
  rw [hop (by simp [Op.operands])]
  cases hp:st.strip.opnd x with
  | none=> rfl
  | some v=>
   cases v <;> try rfl
   case c c=> cases c <;> rfl
   case mp u n off=>
    have:st'.strip.ls u=st.strip.ls u:=htk (x:=x) (by simp [Z02]) hp (by simp [V.toks])
    simp only [this]
 case binOp bop t x y t'=> rw [hop (x:=x) (by simp [Op.operands]),hop (x:=y) (by simp [Op.operands])]
 case unOp uop t x=> rw [hop (by simp [Op.operands])]
 case convert src dst' x=> rw [hop (by simp [Op.operands])]
 case makeSlice t n m=>
  rw [hop (x:=n) (by simp [Op.operands]),hop (x:=m) (by simp [Op.operands])]
  have hmu':st'.strip.mu=st.strip.mu:=hmu
  have e1:st'.strip.dead=st.strip.dead:=hd rfl
  cases dst with
  | none=> simp only [ZjR,hmu']
  | some d=>
   have e2:st'.strip.ls (.r d 0)=st.strip.ls (.r d 0):=hfr 0
   simp only [ZjR,hmu',e1,e2]
 case slice t x lo hi mx=>
  rw [hop (x:=x) (by simp [Op.operands]),Z8Z (x:=lo) (fun y hy=> hop (by simp [Op.operands,hy])),Z8Z (x:=hi) (fun y hy=> hop (by simp [Op.operands,hy])),Z8Z (x:=mx) (fun y hy=> hop (by simp [Op.operands,hy]))]
  cases hp:st.strip.opnd x with
  | none=> rfl
  | some v=>
   cases v
   case ptr nm off=>
    have:st'.strip.mem nm=st.strip.mem nm:=hm nm (by simp only [touch];rw [hp];simp [ZS])
    cases Z10 st.strip lo with
    | none=> rfl
    | some a=>
     cases Z10 st.strip hi with
     | none=> cases a <;> rfl
     | some b=>
      cases Z10 st.strip mx with
      | none=> cases a <;> cases b <;> rfl
      | some c=> cases a <;> cases b <;> cases c <;> first | rfl | simp only [this]
   case c c=>
    have hvw:st'.strip.vw=st.strip.vw:=h.vw
    cases c
    case mref u=>
     have:st'.strip.ls u=st.strip.ls u:=htk (x:=x) (by simp [Z02]) hp (by simp [V.toks])
     rcases Z10 st.strip lo with _ | _ | v
     case some.some=>
      cases v
      case c c=> cases c <;> rcases Z10 st.strip hi with _ | _ | _ <;> rcases Z10 st.strip mx with _ | _ | _ <;> first | rfl | simp only [this,hvw]
      all_goals (cases Z10 st.strip hi <;> cases Z10 st.strip mx <;> rfl)
     all_goals (cases Z10 st.strip hi <;> cases Z10 st.strip mx <;> rfl)
    all_goals (cases Z10 st.strip lo <;> cases Z10 st.strip hi <;> cases Z10 st.strip mx <;> rfl)
   all_goals (cases Z10 st.strip lo <;> cases Z10 st.strip hi <;> cases Z10 st.strip mx <;> rfl)
 case fieldAddr t x f=>
  rw [hop (by simp [Op.operands])]
  cases hp:st.strip.opnd x with
  | none=> rfl
  | some v=>
   cases cfg.fld t f with
   | none=> cases v with
    | c c=> cases c <;> rfl
    | _=> rfl
   | some z=>
    cases v <;> try rfl
    case c c=> cases c <;> rfl
    case mp u n off=>
     have:st'.strip.ls u=st.strip.ls u:=htk (x:=x) (by simp [Z02]) hp (by simp [V.toks])
     simp only [this]
 case makeFunc f first caps=>
  rw [Z3d (f:=fun x=> (st.strip.opnd x).bind Zrx)]
  intro x hx
  rw [hop (by simp only [Op.operands];simp;right;simpa using hx)]
 case field t x f=> rw [hop (by simp [Op.operands])]
 case indexAddr t x i=>
  rw [hop (x:=x) (by simp [Op.operands]),hop (x:=i) (by simp [Op.operands])]
  cases hp:st.strip.opnd x with
  | none=> rfl
  | some v=>
   cases hi:st.strip.opnd i with
   | none=> cases v <;> first | rfl | (rename_i y;cases y <;> rfl)
   | some vi=>
    cases vi <;> first | (cases v <;> first | (rfl;done) | (rename_i y;cases y <;> (rfl;done));done) | skip
    case c z=>
     cases z <;> first | (cases v <;> first | (rfl;done) | (rename_i y;cases y <;> (rfl;done));done) | skip
     case int k n=>
      cases v <;> first | (rfl;done) | skip
      case c y=>
       cases y <;> first | (rfl;done) | skip
       case mref u=>
        have:st'.strip.ls u=st.strip.ls u:=htk (x:=x) (by simp [Z02]) hp (by simp [V.toks])
        simp only [this]
 case index t x i=> rw [hop (x:=x) (by simp [Op.operands]),hop (x:=i) (by simp [Op.operands])]
 case extract x i=> rw [hop (by simp [Op.operands])]
 case call c=>
  unfold ZjT
  cases hc:c.callee with
  | builtin b=>
   simp only
   have hx:∀ x∈c.args.toList,st'.strip.opnd x=st.strip.opnd x:=fun x hx=> hop (by simp [Op.operands,Call.operands,hc];simpa using hx)
   unfold ZgD
   split
   .rename_i x t hargs hts
    rw [hx x (by rw [hargs];simp)]
    cases hp:st.strip.opnd x with
    | none=> rfl
    | some v=>
     have:lenOf cfg st'.strip t v=lenOf cfg st.strip t v:=by
      cases v <;> try rfl
      case c y=>
       cases y <;> try rfl
       case mref u=>
        have:st'.strip.ls u=st.strip.ls u:=htk (x:=x) (by simp only [Z02,hc];rw [hargs];simp) hp (by simp [V.toks])
        simp only [lenOf,this]
     simp only [this]
   .rename_i x y t t' hargs hts
    rw [hx x (by rw [hargs];simp),hx y (by rw [hargs];simp)]
    have hd':st'.dead=st.dead:=hd (by simp only [Z2K,hc])
    have:∀ d t x y,Z83 cfg st'.strip d t x y=Z83 cfg st.strip d t x y:=fun d t x y=> by simp only [Z83,FSt.strip,hd']
    have hmu':st'.strip.mu=st.strip.mu:=hmu
    cases dst with
    | none=> rfl
    | some d=>
     cases hp:st.strip.opnd x with
     | none=> rfl
     | some v=>
      cases v <;> try rfl
      case c cx=>
       have hM:∀ t y,Z4X cfg st'.strip d t cx y=Z4X cfg st.strip d t cx y:=by
        intro t y
        have e1:st'.strip.dead=st.strip.dead:=hd'
        have e2:st'.strip.ls (.r d 0)=st.strip.ls (.r d 0):=hfr 0
        have e3:∀ T,Z8v cfg st'.strip T cx=Z8v cfg st.strip T cx:=by
         intro T
         cases cx <;> simp only [Z8v,e1]
         case mref u=>
          have:st'.strip.ls u=st.strip.ls u:=htk (x:=x) (by simp only [Z02,hc];rw [hargs];simp) hp (by simp [V.toks])
          simp only [this]
        simp only [Z4X,e1,e2,e3]
       have hZ:∀ t t' y,Z4W cfg st'.strip d t t' cx y=Z4W cfg st.strip d t t' cx y:=by
        intro t t' y
        have e1:st'.strip.dead=st.strip.dead:=hd'
        have e2:st'.strip.ls (.r d 0)=st.strip.ls (.r d 0):=hfr 0
        have e3:∀ T,Z8v cfg st'.strip T cx=Z8v cfg st.strip T cx:=by
         intro T
         cases cx <;> simp only [Z8v,e1]
         case mref u=>
          have:st'.strip.ls u=st.strip.ls u:=htk (x:=x) (by simp only [Z02,hc];rw [hargs];simp) hp (by simp [V.toks])
          simp only [this]
        simp only [Z4W,e1,e2,e3]
       cases hq:st.strip.opnd y with
       | none=> rfl
       | some vy=> cases vy <;> first | (rfl;done) | (simp only [this,hM,hZ,hmu'])
   .rename_i x t hargs hts
    rw [hx x (by rw [hargs];simp)]
    cases hp:st.strip.opnd x with
    | none=> rfl
    | some v=>
     cases v <;> try rfl
     case vw u n=>
      have:st'.strip.ls u=st.strip.ls u:=htk (x:=x) (by simp only [Z02,hc];rw [hargs];simp) hp (by simp [V.toks])
      simp only [ZjS,this]
   .rename_i x y t t' hargs hts
    rw [hx x (by rw [hargs];simp),hx y (by rw [hargs];simp)]
    cases hp:st.strip.opnd x with
    | none=> rfl
    | some v=>
     cases v <;> try rfl
     case vw u n=>
      have:st'.strip.ls u=st.strip.ls u:=htk (x:=x) (by simp only [Z02,hc];rw [hargs];simp) hp (by simp [V.toks])
      cases st.strip.opnd y with
      | none=> rfl
      | some vy=> cases vy <;> first | rfl | simp only [Zr2,this]
   .rename_i x y hargs
    rw [hx x (by rw [hargs];simp),hx y (by rw [hargs];simp)]
   .rename_i x y hargs
    rw [hx x (by rw [hargs];simp),hx y (by rw [hargs];simp)]
   .try rfl
  | value gx=>
   simp only
   have hd':st'.dead=st.dead:=hd (by simp only [Z2K,hc])
   have hx:∀ x∈c.args.toList,st'.strip.opnd x=st.strip.opnd x:=fun x hx=> hop (by simp [Op.operands,Call.operands,hc];right;simpa using hx)
   rw [hop (x:=gx) (by simp [Op.operands,Call.operands,hc]),Z3d (f:=st.strip.opnd) hx]
   cases hg:st.strip.opnd gx with
   | none=> rfl
   | some v=>
    have key:∀ (vs:List (V U)),c.args.toList.mapM st.strip.opnd=some vs->∀ x∈vs,∀ nm∈ZS (some x),nm∈ZS (some v)++c.args.toList.flatMap fun x=> ZS (st.strip.opnd x):=by
     intro vs hv x hxm nm hnm
     obtain ⟨j,hj,rfl⟩:=Xi hxm
     have hlen:=(mapM_len hv)
     have hja:j < c.args.toList.length:=YL
     obtain ⟨y,h1,h2⟩:=Z6x hv j _ (Q4 hja)
     rw [Q4 hj] at h1
     cases h1
     exact Xp _ (XZ.2 ⟨_,List.getElem_mem hja,by rw [h2];exact hnm⟩)
    have hm2:∀ nm∈Zh1 (ZS (some v)++c.args.toList.flatMap fun x=> ZS (st.strip.opnd x)),st'.strip.mem nm=st.strip.mem nm:=by
     intro nm hnm
     refine hm nm ?_
     simp only [touch,hc,hg]
     exact Q0 _ hnm
    have hB:∀ L,Z0I st'.strip (dst.getD 0) L=Z0I st.strip (dst.getD 0) L:=Zat (st:=st.strip) (st':=st'.strip) hd' hfr
    have hW:∀ f',(v= .fn f'\/∃ nms,v= .clo f' nms)->∀ s,Γ.fn f'=some s->∀ toks c,(bif s.wr then Z0l st'.strip.ls toks c else [])=(bif s.wr then Z0l st.strip.ls toks c else []:List (Tok × LC U)):=by
     intro f' hv s hG toks c'
     cases hw:s.wr with
     | false=> rfl
     | true=>
      have:st'.ls=st.ls:=hall (by
       rcases hv with rfl | ⟨nms,rfl⟩ <;> simp only [Z0D,hc,hg,Z9p,hG,hw,Bool.true_or])
      simp only [cond_true,FSt.strip,this]
    cases v <;> try rfl
    case fn f=>
     cases hv:c.args.toList.mapM st.strip.opnd with
     | none=> rfl
     | some vs=>
      simp only
      cases hb:ZvJ Γ f with
      | false=>
       cases hmk:ZBK Γ f with
       | false=> exact ZdA hd' (key vs hv) hm2 hB (hW f (.inl rfl))
       | true=>
        have:st'.strip.mem (.loc (dst.getD 0))=st.strip.mem (.loc (dst.getD 0)):=hm _ (by simp [touch,hc])
        simp only [cond_true,cond_false,Zsy,this]
      | true=>
       have:st'.ls=st.ls:=hall (by
        unfold ZvJ at hb
        split at hb
        .rename_i s hG;simp only [Z0D,hc,hg,Z9p,hG,hb,Bool.or_true]
        .cases hb)
       have e:V.lend st'.strip=V.lend st.strip:=by
        have e2:C.lend st'.strip=C.lend st.strip:=by
         funext c
         cases c <;> simp only [C.lend,FSt.strip,this]
        funext v
        cases v <;> simp only [V.lend,e2]
       simp only [cond_true,Zi8,e]
    case clo f nms=>
     cases hv:c.args.toList.mapM st.strip.opnd with
     | none=> rfl
     | some vs=>
      refine ZdA hd' (fun x hx nm hnm=> ?_) hm2 hB (hW f (.inr ⟨nms,rfl⟩))
      rcases Qi.1 hx with hx | hx
      .exact key vs hv x hx nm hnm
      .obtain ⟨nm0,h1,rfl⟩:=X4.1 hx
       simp only [ZS,Qg] at hnm
       subst hnm
       exact X5 _ (by simpa [ZS] using h1)
  | invoke r m=> rfl
where
 mapM_len {f:Operand->Option (V U)}:∀ {xs:List Operand} {vs:List (V U)},xs.mapM f=some vs->xs.length=vs.length:=by
  intro xs
  induction xs with
  | nil=> intro vs h;simp at h;subst h;rfl
  | cons y xs ih=>
   intro vs h
   rw [X2] at h
   cases h1:f y with
   | none=> simp [h1] at h
   | some v=>
    cases h2:xs.mapM f with
    | none=> simp [h1,h2] at h
    | some r=>
     simp [h1,h2] at h
     subst h
     simp [ih h2]
theorem Zbg{st st':FSt U}{G:Option Bool}:∀ {l:List Operand},(∀ t,Operand.tmp t∈l->st'.env t=st.env t)->Z0n st' G l=Z0n st G l
 | [],_=> rfl
 | x ::l,h=> by
  have ih:=Zbg (l:=l) (G:=G) (fun t ht=> h t (by simp [ht]))
  cases x with
  | tmp t=> simp only [Z0n,h t (by simp),ih]
  | _=> trivial
theorem Zdp{tyEq:DecidableEq U.Ty}{G:Bool}{m0 m1:Name->Option (List (C U))}:∀ {m:List (Name × List (C U))},(∀ x∈m,m1 x.1=m0 x.1)->YW tyEq G m1 m=YW tyEq G m0 m
 | [],_=> rfl
 | (nm,cs) ::r,h=> by
  simp only [YW,h (nm,cs) (by simp),Zdp (m:=r) (fun x hx=> h x (by simp [hx]))]
theorem Z6v{l:List Name}{nm:Name}:Jf l nm=true↔nm∈l:=by
 refine ⟨?_,Z6u⟩
 induction l with
 | nil=> intro h;cases h
 | cons x l ih=>
  intro h
  simp only [Jf] at h
  grind
theorem Z5Z{o:Oper}{ops:Array Oper}{st st':FSt U}(h:∀ t,t∈o.looksAt ops->st'.env t=st.env t):touch o st'=touch o st:=by
 have hop:∀ {x:Operand},x∈o.op.operands.toList->st'.strip.opnd x=st.strip.opnd x:=by
  intro x hx
  cases x with
  | tmp t=> simp [FSt.opnd,FSt.strip,h t (X5 _ (Xx.2 ⟨.tmp t,hx,rfl⟩))]
  | _=> rfl
 obtain ⟨dst,op,type,pos,after,guard⟩:=o
 cases op <;> simp only [touch]
 case load t p=> rw [hop (by simp [Op.operands])]
 case store t p x=> rw [hop (by simp [Op.operands])]
 case slice t x lo hi mx=> rw [hop (by simp [Op.operands])]
 case call c=>
  have:∀ (l:List Operand),(∀ x∈l,x∈c.args.toList)->(l.flatMap fun x=> ZS (st'.strip.opnd x))=l.flatMap fun x=> ZS (st.strip.opnd x):=by
   intro l
   induction l with
   | nil=> intro _;rfl
   | cons x l ih=>
    intro hl
    rw [Xh,Xh,ih (fun y hy=> hl y (by simp [hy])),hop (by
     have:=hl x (by simp)
     cases hc:c.callee <;> simp [Op.operands,Call.operands,hc] <;> first | (right;simpa using this) | simpa using this)]
  rw [this _ (fun x hx=> hx)]
  cases hc:c.callee with
  | value gx=> simp only [hop (x:=gx) (by simp [Op.operands,Call.operands,hc])]
  | builtin b=> rfl
  | invoke r m=> rfl
theorem ZmA{o:Oper}{x:Operand}(h:x∈Z02 o):x∈o.op.operands.toList:=by
 obtain ⟨dst,op,type,pos,after,guard⟩:=o
 cases op <;> simp only [Z02] at h <;> (try (cases h;done))
 case load t p=> trivial
 case store t p x=> simp only [Qg] at h;subst h;simp [Op.operands]
 case nilCheck x=> trivial
 case fieldAddr t x f=> trivial
 case indexAddr t x i=> simp only [Qg] at h;subst h;simp [Op.operands]
 case slice t x lo hi mx=> simp only [Qg] at h;subst h;simp [Op.operands]
 case call c=>
  cases hc:c.callee <;> rw [hc] at h <;> (try (cases h;done))
  simp only at h
  simp only [Op.operands,Call.operands,hc]
  simpa using h
theorem Z9o{o:Oper}{ops:Array Oper}{st st':FSt U}(h:∀ t,t∈o.looksAt ops->st'.env t=st.env t):touchT o st'=touchT o st:=by
 have hop:∀ {x:Operand},x∈o.op.operands.toList->st'.strip.opnd x=st.strip.opnd x:=by
  intro x hx
  cases x with
  | tmp t=> simp [FSt.opnd,FSt.strip,h t (X5 _ (Xx.2 ⟨.tmp t,hx,rfl⟩))]
  | _=> rfl
 unfold touchT
 have:∀ (l:List Operand),(∀ x∈l,x∈Z02 o)->(l.flatMap fun x=> (st'.strip.opnd x).toList.flatMap V.toks)=l.flatMap fun x=> (st.strip.opnd x).toList.flatMap V.toks:=by
  intro l
  induction l with
  | nil=> intro _;rfl
  | cons x l ih=>
   intro hl
   rw [Xh,Xh,ih (fun y hy=> hl y (by simp [hy])),hop (ZmA (hl x (by simp)))]
 grind
theorem Z8t{Γ:Known U}{o:Oper}{ops:Array Oper}{st st':FSt U}(h:∀ t,t∈o.looksAt ops->st'.env t=st.env t):Z0D Γ o st'=Z0D Γ o st:=by
 obtain ⟨dst,op,type,pos,after,guard⟩:=o
 cases op <;> try rfl
 case call c=>
  simp only [Z0D]
  cases hc:c.callee <;> try rfl
  case value g=>
   have:st'.strip.opnd g=st.strip.opnd g:=by
    cases g with
    | tmp t=> simp [FSt.opnd,FSt.strip,h t (X5 _ (Xx.2 ⟨.tmp t,by simp [Op.operands,Call.operands,hc],rfl⟩))]
    | _=> rfl
   grind
theorem Zdx{Γ:Known U}{o:Oper}{ops:Array Oper}{st st':FSt U}(h:Alike Γ o ops st st'):Z5R cfg Γ ops o st'=Z5R cfg Γ ops o st:=by
 have hop:=fun {x:Operand} (hx:x∈o.op.operands.toList)=> (h.opnd hx).1
 have hG:Z5B ops st' o=Z5B ops st o:=by
  unfold Z5B
  cases hg:o.guard with
  | none=> rfl
  | some jw=>
   obtain ⟨j,want⟩:=jw
   simp only
   cases ht:(ops[j]?).bind (·.dst) with
   | none=> rfl
   | some t=>
    have:st'.env t=st.env t:=h.env t (Xp _ (by simp [hg,ht]))
    grind
 have hN:∀ G,Z0n st' G o.op.operands.toList=Z0n st G o.op.operands.toList:=fun G=>
  Zbg fun t ht=> h.env t (X5 _ (Xx.2 ⟨.tmp t,ht,rfl⟩))
 unfold Z5R
 rw [h.n]
 split
 .split
  .rename_i c x y hc
   rw [hG,hop (x:=c) (by simp [hc,Op.operands]),hop (x:=x) (by simp [hc,Op.operands]),hop (x:=y) (by simp [hc,Op.operands])]
  .have ht:=Z5Z (st:=st) (st':=st') h.env
   rw [hG]
   simp only [Zst h,hN,ht]
   split
   .try rfl
   .rename_i G hGe
    cases he:aop cfg Γ o st.strip with
    | none=> rfl
    | some r=>
     obtain ⟨ps,e⟩:=r
     cases G with
     | none=> rfl
     | some Gb=>
      obtain ⟨v,m,k,l⟩:=e
      cases v with
      | none=> rfl
      | some v=>
       cases k with
       | cons _ _=> grind
       | nil=>
        cases l with
        | cons _ _=> grind
        | nil=>
        cases m with
        | nil=> rfl
        | cons x r=>
         simp only
         cases hall:(x ::r).all fun x=> Jf (touch o st) x.1 with
         | false=> rfl
         | true=>
          have hj:YW cfg.tyEq Gb st'.mem (x ::r)=YW cfg.tyEq Gb st.mem (x ::r):=Zdp fun y hy=> h.mem _ (Z6v.1 (by
           grind))
          rw [hj]
 .try rfl
theorem Z5x{m0:Name->Option (List (C U))}{m:List (Name × List (C U))}{nm:Name}(h:Jf (m.map (·.1)) nm=false):ZL m0 m nm=m0 nm:=by
 induction m with
 | nil=> rfl
 | cons x m ih=>
  obtain ⟨b,cs⟩:=x
  simp only [Qo,Jf] at h
  split at h
  .cases h
  .rename_i e
   simp only [ZL]
   grind
theorem ZfY{x y:List Name}(h:ZmW x y=false):∀ nm,nm∈x->Jf y nm=false:=by
 intro nm hn
 unfold ZmW at h
 grind
theorem Zrf{l:List Tok}{t:Tok}:Zk5 l t=true↔t∈l:=by
 induction l with
 | nil=> simp [Zk5]
 | cons x l ih=>
  simp only [Zk5,Q9]
  grind
theorem Zd8{x y:List Tok}(h:ZfZ x y=false):∀ t,t∈x->t∉y:=by
 intro t ht hy
 unfold ZfZ at h
 rw [List.any_eq_false] at h
 have:=h t ht
 rw [Zrf.2 hy] at this
 simp at this
theorem ZrX{m:Tok->Option (LC U)}{l:List (Tok × LC U)}{t:Tok}(h:t∉l.map (·.1)):ZC m l t=m t:=by
 induction l with
 | nil=> rfl
 | cons x l ih=>
  obtain ⟨b,y⟩:=x
  simp only [Qo,Q9,not_or] at h
  simp only [ZC]
  grind
theorem Z4B{m:Tok->Option (LC U)}{e:Eff U}{t:Tok}(h:t∉e.kill++e.ls.map (·.1)):Z06 m e t=m t:=by
 simp only [Qi,not_or] at h
 unfold Z06
 have:e.kill.contains t=false:=by
  cases hk:e.kill.contains t with
  | false=> rfl
  | true=> exact absurd (by simpa using hk) h.1
 rw [this,cond_false,ZrX h.2]
theorem Zi6 {Γ:Known U} {ops:Array Oper} {x y:Oper} {st:FSt U} {e:Eff U} (hap:x.apart ops y=true) (hm:ZmW (e.mem.map (·.1)) (touch y st)=false) (hk:(!e.kill.isEmpty && Z2K y)=false)
  (ht:ZfZ (e.kill++e.ls.map (·.1)) (touchT y st)=false) (hr:noR (y.dst.getD 0) (e.kill++e.ls.map (·.1))=true) (ha:((e.kill++e.ls.map (·.1)).isEmpty || !Z0D Γ y st)=true):
  Alike Γ y ops st (st.app x.dst e):=by
 obtain ⟨h1,_,_⟩:=Oper.apart_spec hap
 refine ⟨?_,?_,?_,?_,by cases x.dst <;> rfl,by cases x.dst <;> rfl,fun t htt=> Z4B (fun hm=> Zd8 ht t hm htt),fun j=> Z4B (fun hm=> ?_),fun hc=> ?_⟩
 .cases x.dst <;> rfl
 .intro t ht
  cases hd:x.dst with
  | none=> rfl
  | some d=>
   have hne:t≠d:=fun e=> h1 d hd (e▸ht)
   have:Nat.beq t d=false:=by
    cases hb:Nat.beq t d with
    | false=> rfl
    | true=> simp_all
   simp [FSt.app,FSt.put,this]
 .intro nm hn
  have:Jf (e.mem.map (·.1)) nm=false:=by
   cases hb:Jf (e.mem.map (·.1)) nm with
   | false=> rfl
   | true=>
    have:=ZfY hm nm (Z6v.1 hb)
    rw [Z6u hn] at this
    cases this
  exact Z5x this
 .intro hr
  simp only [hr,XL,Bool.not_eq_false'] at hk
  have:e.kill=[]:=by simpa using hk
  simp [FSt.app,this]
 .have:=Qz.1 hr _ hm
  simp at this
 .rw [hc] at ha
  simp only [XW,Bool.or_false,List.isEmpty_iff] at ha
  funext t
  exact Z4B (by rw [ha];simp)
theorem Zxo{ops:Array Oper}{x y:Oper}{st:FSt U}{e f:Eff U}(hap:x.apart ops y=true)(hm:ZmW (e.mem.map (·.1)) (f.mem.map (·.1))=false)(hl:ZfZ (e.kill++e.ls.map (·.1)) (f.kill++f.ls.map (·.1))=false):
  (st.app x.dst e).app y.dst f=(st.app y.dst f).app x.dst e:=by
 obtain ⟨_,h2,_⟩:=Oper.apart_spec hap
 have hput:∀ (s:FSt U) (v u:V U),((s.put x.dst v).put y.dst u)=((s.put y.dst u).put x.dst v):=by
  intro s v u
  cases hx:x.dst with
  | none=> rfl
  | some d=>
   cases hy:y.dst with
   | none=> rfl
   | some d'=>
    have hne:d≠d':=fun e=> h2 d hx (by rw [hy,e])
    simp only [FSt.put]
    congr 1
    funext j
    cases h1:Nat.beq j d with
    | false=> rfl
    | true=>
     cases h3:Nat.beq j d' with
     | false=> rfl
     | true=> exact absurd ((Qa h1).symm.trans (Qa h3)) hne
 have hmem:ZL (ZL st.mem e.mem) f.mem=ZL (ZL st.mem f.mem) e.mem:=by
  funext nm
  cases h1:Jf (e.mem.map (·.1)) nm with
  | false=>
   rw [Z5x (m:=e.mem) (m0:=ZL st.mem f.mem) h1]
   rcases Z0d st.mem f.mem nm with ⟨k,cs,h3,h4⟩ | ⟨h3,h4⟩
   .rcases Z0d (ZL st.mem e.mem) f.mem nm with ⟨k',cs',h5,h6⟩ | ⟨h5,h6⟩
    .have:∀ (m0 m1:Name->Option (List (C U))) (l:List (Name × List (C U))),(∃ x,x∈l/\x.1=nm)->ZL m0 l nm=ZL m1 l nm:=by
      intro m0 m1 l
      induction l with
      | nil=> rintro ⟨x,hx,_⟩;simp at hx
      | cons z l ih=>
       rintro ⟨x,hx,hxe⟩
       obtain ⟨b,cs⟩:=z
       simp only [ZL]
       split
       .try rfl
       .rename_i hne
        rcases Q9.1 hx with rfl | hx
        .exact absurd hxe.symm hne
        .exact ih ⟨x,hx,hxe⟩
     exact this _ _ _ ⟨_,X3 h3,rfl⟩
    .exact absurd rfl (h5 k _ h3)
   .rcases Z0d (ZL st.mem e.mem) f.mem nm with ⟨k',cs',h5,h6⟩ | ⟨h5,h6⟩
    .exact absurd rfl (h3 k' _ h5)
    .rw [h6,h4,Z5x h1]
  | true=>
   have h2':Jf (f.mem.map (·.1)) nm=false:=ZfY hm nm (Z6v.1 h1)
   rw [Z5x (m:=f.mem) (m0:=ZL st.mem e.mem) h2']
   have:∀ (m0 m1:Name->Option (List (C U))) (l:List (Name × List (C U))),Jf (l.map (·.1)) nm=true->ZL m0 l nm=ZL m1 l nm:=by
    intro m0 m1 l
    induction l with
    | nil=> intro h;cases h
    | cons z l ih=>
     obtain ⟨b,cs⟩:=z
     intro h
     simp only [Qo,Jf] at h
     simp only [ZL]
     split
     .try rfl
     .rename_i hne
      rw [if_neg (fun e=> hne e.symm)] at h
      exact ih h
   exact this _ _ _ h1
 have hdead:(fun t=> (st.dead t || e.kill.contains t) || f.kill.contains t)=fun t=> (st.dead t || f.kill.contains t) || e.kill.contains t:=by
  funext t
  cases st.dead t <;> cases e.kill.contains t <;> cases f.kill.contains t <;> rfl
 have hn:∀ (s:FSt U) d v,(s.put d v).n=s.n/\(s.put d v).mem=s.mem/\(s.put d v).dead=s.dead:=by
  intro s d v;cases d <;> exact ⟨rfl,rfl,rfl⟩
 have henv:(((st.put x.dst (e.val.getD .junk))).put y.dst (f.val.getD .junk)).env=((st.put y.dst (f.val.getD .junk)).put x.dst (e.val.getD .junk)).env:=by rw [hput]
 have hpe:∀ (s s':FSt U) d v,s.env=s'.env->(s.put d v).env=(s'.put d v).env:=by
  intro s s' d v he;cases d <;> simp [FSt.put,he]
 have hls:Z06 (Z06 st.ls e) f=Z06 (Z06 st.ls f) e:=by
  funext t
  by_cases h1:t∈e.kill++e.ls.map (·.1)
  .have h2:=Zd8 hl t h1
   rw [Z4B h2]
   unfold Z06
   cases he:e.kill.contains t with
   | true=> rfl
   | false=>
    simp only [cond_false]
    have h3:t∈e.ls.map (·.1):=by
     rcases Qi.1 h1 with h | h
     .have:e.kill.contains t=true:=by simpa using h
      rw [he] at this;cases this
     .exact h
    have:∀ (m0 m1:Tok->Option (LC U)) (l:List (Tok × LC U)),t∈l.map (·.1)->ZC m0 l t=ZC m1 l t:=by
     intro m0 m1 l
     induction l with
     | nil=> intro h;cases h
     | cons z l ih=>
      obtain ⟨b,y⟩:=z
      intro h
      simp only [ZC]
      split
      .try rfl
      .rename_i hne
       simp only [Qo,Q9] at h
       exact ih (h.resolve_left hne)
    exact this _ _ _ h3
  .rw [Z4B (m:=Z06 st.ls f) h1]
   have:∀ (m0 m1:Tok->Option (LC U)) (l:List (Tok × LC U)),m0 t=m1 t->ZC m0 l t=ZC m1 l t:=by
    intro m0 m1 l he
    induction l with
    | nil=> exact he
    | cons z l ih=>
     obtain ⟨b,y⟩:=z
     simp only [ZC]
     split
     .try rfl
     .exact ih
   have h3:Z06 st.ls e t=st.ls t:=Z4B h1
   unfold Z06 at h3 ⊢
   cases hf:f.kill.contains t with
   | true=> rfl
   | false=> simp only [cond_false];exact this _ _ _ h3
 have ext:∀ {s s':FSt U},s.n=s'.n->s.env=s'.env->s.mem=s'.mem->s.dead=s'.dead->s.ls=s'.ls->s.mu=s'.mu->s.vw=s'.vw->s=s':=by
  intro s s' h1 h2 h3 h4;cases s;cases s';simp_all
 refine ext ?_ ?_ ?_ ?_ hls ?_ (by cases x.dst <;> cases y.dst <;> rfl)
 .cases x.dst <;> cases y.dst <;> rfl
 .show ((st.app x.dst e).put y.dst _).env=((st.app y.dst f).put x.dst _).env
  rw [hpe (st.app x.dst e) (st.put x.dst (e.val.getD .junk)) y.dst _ rfl,henv,hpe (st.app y.dst f) (st.put y.dst (f.val.getD .junk)) x.dst _ rfl]
 .show ZL (st.app x.dst e).mem f.mem=ZL (st.app y.dst f).mem e.mem
  exact hmem
 .exact hdead
 .cases x.dst <;> cases y.dst <;> rfl
end Go.AM
