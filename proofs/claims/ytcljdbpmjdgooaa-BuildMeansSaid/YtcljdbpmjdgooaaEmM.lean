import Derived.Test.YtcljdbpmjdgooaaEmL
set_option linter.unusedSimpArgs false
set_option linter.unusedVariables false
namespace Go.AM
variable {U:Uni} {P:Program} {cfg:Cfg U} {B:Base} {st:FSt U} {g:Gh} {a:Act} {w:World}
def Z0A(o:Oper):Bool:=
 match o.op with
 | .call c=> match c.callee with
  | .builtin .len=> false
  | _=> true
 | .makeSlice _ _ _=> true
 | .buildSlice _ _ parts=> Z0Z parts.toList
 | _=> false
structure Fp where
 touch:List Name
 writes:List Name
 kills:Bool
 touchT:List Tok
 writesT:List Tok
 allT:Bool
 core:Bool
 pend:Bool
def Zju:Option (V U)->Bool
 | some (.c (.mref .A))=> true
 | some (.ar _ _)=> true
 | _=> false
def Z1N(o:Oper)(st:FSt U):Bool:=
 match o.guard with
 | some _=> false
 | none=> match o.op with
  | .fieldAddr _ x _=> Zju (st.strip.opnd x)
  | .load _ x=> Zju (st.strip.opnd x)
  | .nilCheck x=> Zju (st.strip.opnd x)
  | _=> false
def Z2Z(o:Oper)(st:FSt U):Bool:=
 match o.guard with
 | some _=> false
 | none=> match o.op with
  | .call c=> match c.callee,c.args.toList with
   | .builtin .append,[x,_]=> (match st.strip.opnd x with
    | some (.ar _ _)=> true
    | _=> false)
   | _,_=> false
  | _=> false
def ZgP(Γ:Known U)(o:Oper)(st:FSt U)(e:Eff U):Fp:={ core:=Z1N o st,pend:=Z2Z o st,allT:=YC Γ o st,touch:=touch o st,writes:=e.mem.map (·.1),kills:= !e.kill.isEmpty,touchT:=touchT o st,writesT:=e.kill++e.ls.map (·.1) }
def Z6R(a b:List Tok):Bool:=a.any fun x=> Z4M b x
def noR(d:Nat)(a:List Tok):Bool:=a.all fun t=> match t with
 | .r d' _=> !Nat.beq d' d
 | _=> true
def Zck(a b:List Name):Bool:=a.any fun x=> Y7 b x
def Zbh(ops:Array Oper)(x y:Oper)(a b:Fp):Bool:=
 x.apart ops y && y.apart ops x && !Zck a.writes b.touch && !Zck b.writes a.touch && !Zck a.writes b.writes && !(a.kills && Z0A y) && !(b.kills && Z0A x) &&
  (!Z6R a.writesT b.touchT || (a.pend && b.core)) && (!Z6R b.writesT a.touchT || (b.pend && a.core)) && !Z6R a.writesT b.writesT && noR (y.dst.getD 0) a.writesT && noR (x.dst.getD 0) b.writesT &&
  (a.writesT.isEmpty || !b.allT) && (b.writesT.isEmpty || !a.allT)
structure Alike (Γ:Known U) (o:Oper) (ops:Array Oper) (st st':FSt U):Prop where
 n:st'.n=st.n
 env:∀ t,t∈o.looksAt ops->st'.env t=st.env t
 mem:∀ nm,nm∈touch o st->st'.mem nm=st.mem nm
 dead:Z0A o=true->st'.dead=st.dead
 mu:st'.mu=st.mu
 vw:st'.vw=st.vw
 ls:∀ t,t∈touchT o st->st'.ls t=st.ls t
 fr:∀ j,st'.ls (.r (o.dst.getD 0) j)=st.ls (.r (o.dst.getD 0) j)
 all:YC Γ o st=true->st'.ls=st.ls
theorem Alike.tok{o:Oper}{ops:Array Oper}{Γ:Known U}{st st':FSt U}(h:Alike Γ o ops st st'){x:Operand}(hx:x∈Yi o){v:V U}(hv:st.strip.opnd x=some v){t:Tok}(ht:t∈v.toks):st'.ls t=st.ls t:=
 h.ls t (QD _ (K9.2 ⟨x,hx,by rw [hv];simpa using ht⟩))
theorem Z5i{st st':FSt U}{d:Nat}(hd:st'.dead=st.dead)(hf:∀ j,st'.ls (.r d j)=st.ls (.r d j)):∀ (L:List (Tok × LC U)),(Z7 (fun _=> none) L .A=none\/st'.ls .A=st.ls .A)->Jl st' d L=Jl st d L
 | [],_=> rfl
 | (t,x) ::L,hA=> by
  have hA2:t= .A->st'.ls .A=st.ls .A:=fun e=> by
   rcases hA with h | h
   .rw [e] at h;simp [Z7] at h
   .exact h
  simp only [Jl]
  rw [Z5i hd hf L (by
   rcases hA with h | h
   .refine .inl ?_
    simp only [Z7] at h
    split at h
    .cases h
    .exact h
   .exact .inr h)]
  cases hb:Zx d t with
  | none=> rfl
  | some t'=>
   have e:(∃ j,t'= .r d j)\/(t= .A/\t'= .A)\/∃ v i,t'= .S v i:=by
    unfold Zx at hb
    split at hb
    .grind
    .grind
    .cases hb;exact .inr (.inr ⟨_,_,rfl⟩)
    .split at hb
     .cases hb;exact .inl ⟨_,rfl⟩
     .cases hb
    .cases hb
   rcases e with ⟨j,rfl⟩ | ⟨rfl,rfl⟩ | ⟨v,i,rfl⟩
   .have e1:Z0S st' (.r d j)=Z0S st (.r d j):=by simp only [Z0S,hf,hd]
    have e2:∀ x,Z0I st' (.r d j) x=Z0I st (.r d j) x:=fun x=> rfl
    cases Jl st d L with
    | none=> rfl
    | some l=> simp only [e1,e2]
   .have e2:∀ x,Z0I st' .A x=Z0I st .A x:=fun x=> by simp only [Z0I,hA2 rfl]
    have e1:Z0S st' .A=Z0S st .A:=rfl
    cases Jl st d L with
    | none=> rfl
    | some l=> simp only [e1,e2]
   .have e1:∀ s:FSt U,Z0S s (.S v i)=false:=fun _=> rfl
    cases Jl st d L with
    | none=> rfl
    | some l=> simp only [e1];try rfl
theorem Alike.opnd{o:Oper}{ops:Array Oper}{Γ:Known U}{st st':FSt U}(h:Alike Γ o ops st st'){x:Operand}(hx:x∈o.op.operands.toList):st'.opnd x=st.opnd x/\st'.strip.opnd x=st.strip.opnd x:=by
 cases x with
 | tmp t=>
  have ht:t∈o.looksAt ops:=QD _ (Xj.2 ⟨.tmp t,hx,rfl⟩)
  have:=h.env t ht
  exact ⟨by simp [FSt.opnd,this],by simp [FSt.opnd,FSt.strip,this]⟩
 | const c=> trivial
 | global g=> trivial
 | func f=> trivial
theorem ZhS{st st':FSt U}{p:V U}{ag:Bool}{n:Nat}(h:∀ nm,nm∈ZD (some p)->st'.mem nm=st.mem nm):rd st' p ag n=rd st p ag n:=by
 cases p <;> simp only [rd]
 case ptr nm off=> rw [h nm (by simp [ZD])]
 case ap nm off k len i=> rw [h nm (by simp [ZD])]
theorem Z32{st st':FSt U}(hd:st'.dead=st.dead)(ps:Nat->Bool):∀ (xs:List (V U)) (i:Nat) (os:List (Name × List (C U))) (seen:List (Tok × Tok)),
  (∀ x,x∈xs->∀ nm,nm∈ZD (some x)->st'.mem nm=st.mem nm)->Yf st' ps i xs os seen=Yf st ps i xs os seen
 | [],i,os,seen,_=> rfl
 | x ::xs,i,os,seen,h=> by
  have ih:=fun i os seen=> Z32 hd ps xs i os seen (fun y hy=> h y (by simp [hy]))
  simp only [Yf,hd,ih]
  cases hp:Zgl x with
  | none=> rfl
  | some nm=>
   have e:st'.mem nm.1=st.mem nm.1:=by
    refine h x (by simp) nm.1 ?_
    cases x <;> simp only [Zgl,reduceCtorEq] at hp
    .cases hp;simp [ZD]
    .split at hp
     .grind
     .rename_i heq;cases heq;cases hp;simp [ZD]
     .cases hp
   simp only [e]
theorem Z3H{l:List Name}{nm:Name}(h:nm∈l):nm∈Z9E l:=by
 cases l with
 | nil=> cases h
 | cons a l=> exact QD _ h
theorem Zhc{l:List Name}{k:Nat}(hk:k < 8)(hl:l≠[]):Name.x k∈Z9E l:=by
 cases l with
 | nil=> grind
 | cons a l=>
  refine X9 _ ?_
  grind
theorem Z62:∀ {cs:List (C U)} {hv:List Name} {nm:Name},nm∈Zan cs hv->nm∈hv\/∃ k,k < 8/\nm= .x k
 | [],hv,nm,h=> .inl h
 | c ::cs,hv,nm,h=> by
  cases c with
  | xp k=>
   simp only [Zan] at h
   rcases Z62 h with h | h
   .split at h
    .rename_i hc
     rw [Q3] at hc
     rcases QA.1 h with h | h
     .exact .inl h
     .exact .inr ⟨k,by simpa using hc.1,by simpa using h⟩
    .exact .inl h
   .exact .inr h
  | _=> exact Z62 (by simpa only [Zan] using h)
theorem Zam{st:FSt U}:∀ {l hv:List Name} {nm:Name},nm∈Z46 st l hv->nm∈hv\/(l≠[]/\∃ k,k < 8/\nm= .x k)
 | [],hv,nm,h=> .inl h
 | a ::l,hv,nm,h=> by
  simp only [Z46] at h
  rcases Zam h with h | ⟨_,h⟩
  .split at h
   .rcases Z62 h with h | h
    .exact .inl h
    .exact .inr ⟨by simp,h⟩
   .exact .inl h
  .exact .inr ⟨by simp,h⟩
theorem Z6X{st st':FSt U}:∀ {l hv:List Name},(∀ nm∈l,st'.mem nm=st.mem nm)->Z46 st' l hv=Z46 st l hv
 | [],hv,_=> rfl
 | a ::l,hv,h=> by
  simp only [Z46,h a (by simp)]
  exact Z6X fun nm hn=> h nm (by simp [hn])
theorem Jf:∀ {vs:List (V U)} {nm:Name},nm∈YD vs->∃ x∈vs,nm∈ZD (some x)
 | [],nm,h=> by cases h
 | v ::vs,nm,h=> by
  simp only [YD] at h
  split at h
  .rename_i n mk hp
   rcases QH.1 h with rfl | h
   .refine ⟨v,by simp,?_⟩
    cases v <;> simp only [Zgl,reduceCtorEq] at hp
    .cases hp;simp [ZD]
    .split at hp
     .grind
     .rename_i heq;cases heq;cases hp;simp [ZD]
     .cases hp
   .obtain ⟨x,h1,h2⟩:=Jf h
    grind
  .obtain ⟨x,h1,h2⟩:=Jf h
   grind
theorem Z0Q{st:FSt U}{ps:Nat->Bool}:∀ {xs:List (V U)} {i:Nat} {os:List (Name × List (C U))} {seen:List (Tok × Tok)} {ys:List (V U)} {os':List (Name × List (C U))} {seen':List (Tok × Tok)},
  Yf st ps i xs os seen=some (ys,os',seen')->os'.map (·.1)=os.map (·.1)++YD xs
 | [],i,os,seen,ys,os',seen',h=> by
  simp only [Yf,Option.some.injEq,Prod.mk.injEq] at h
  obtain ⟨_,rfl,_⟩:=h
  simp [YD]
 | x ::xs,i,os,seen,ys,os',seen',h=> by
  simp only [Yf] at h
  split at h
  .rename_i nm mk hp
   split at h
   .cases h
   split at h
   .cases h
   split at h
   .rename_i hrec
    simp only [Option.some.injEq,Prod.mk.injEq] at h
    obtain ⟨_,rfl,_⟩:=h
    have:=Z0Q hrec
    simp only [YD,hp]
    grind
   .cases h
  .rename_i hp
   split at h
   .cases h
   split at h
   .rename_i hrec
    simp only [Option.some.injEq,Prod.mk.injEq] at h
    obtain ⟨_,rfl,_⟩:=h
    have:=Z0Q hrec
    simp only [YD,hp]
    exact this
   .cases h
theorem ZcE{st:FSt U}{vs:List (V U)}{base:List Name}(hs:∀ x∈vs,∀ nm∈ZD (some x),nm∈base):∀ x∈vs++Z0n st vs,∀ nm∈ZD (some x),nm∈Z9E base:=by
 intro x hx nm hn
 rcases QA.1 hx with hx | hx
 .exact Z3H (hs x hx nm hn)
 .unfold Z0n at hx
  obtain ⟨n,h1,rfl⟩:=Xi.1 hx
  simp only [ZD,Qy] at hn
  subst hn
  rcases Zam (XD h1) with h2 | ⟨h2,k,hk,rfl⟩
  .obtain ⟨y,h3,h4⟩:=Jf h2
   exact Z3H (hs y h3 _ h4)
  .refine Zhc hk fun e=> ?_
   cases ha:YD vs with
   | nil=> exact h2 ha
   | cons b l=>
    obtain ⟨y,h3,h4⟩:=Jf (show b∈YD vs by rw [ha];simp)
    grind
theorem Z3y {Γ:Known U} {st st':FSt U} {d:Nat} {f:FuncId} {vs:List (V U)} {base:List Name} (hd:st'.dead=st.dead) (hs:∀ x∈vs,∀ nm∈ZD (some x),nm∈base) (hm:∀ nm∈Z9E base,st'.mem nm=st.mem nm)
  (hB:∀ j,st'.ls (.r d j)=st.ls (.r d j)) (hW:∀ s,Γ.fn f=some s->s.wr=true->st'.ls=st.ls):Z2v Γ st' d f vs=Z2v Γ st d f vs:=by
 unfold Z2v
 cases hG:Γ.fn f with
 | none=> rfl
 | some s=>
  have hx:Z0n st' vs=Z0n st vs:=by
   unfold Z0n
   rw [Z6X]
   intro nm hn
   obtain ⟨x,h1,h2⟩:=Jf hn
   exact hm nm (Z3H (hs x h1 nm h2))
  have hn:=ZcE (st:=st) hs
  have hW2:∀ toks c,(bif s.wr then YN st'.ls toks c else [])=(bif s.wr then YN st.ls toks c else []:List (Tok × LC U)):=by
   intro toks c
   cases hw:s.wr with
   | false=> rfl
   | true=> rw [hW s hG hw]
  simp only [hW2,hx]
  rw [Z32 (st:=st) (st':=st') hd _ _ _ _ _ (fun x hxm nm hnm=> hm nm (hn x hxm nm hnm))]
  cases hp:Yf st s.pass 0 (vs++Z0n st vs) [] [] with
  | none=> rfl
  | some r=>
   obtain ⟨ys,os,toks⟩:=r
   have e:(os.map fun x=> ZgQ st' os (x.2,x.1))=os.map fun x=> ZgQ st os (x.2,x.1):=by
    apply List.map_congr_left
    intro x hxm
    have h1:x.1∈os.map (·.1):=Xi.2 ⟨x,hxm,rfl⟩
    rw [Z0Q hp] at h1
    obtain ⟨y,h2,h3⟩:=Jf (show x.1∈YD (vs++Z0n st vs) by simpa using h1)
    simp only [ZgQ,hm _ (hn y h2 _ h3)]
   simp only [e]
   split
   .try rfl
   .rename_i ps r xs L hfn
    by_cases hA:Z7 (fun _=> none) L .A=none\/st'.ls .A=st.ls .A
    .rw [Z5i hd hB L hA]
    .have hw:s.wr=false:=by
      cases hw:s.wr with
      | false=> rfl
      | true=> exact absurd (.inr (by rw [hW s hG hw])) hA
     have hL:Z7 (fun _=> none) L .A≠none:=fun e=> hA (.inl e)
     have ha:ZbB toks [] L=false:=by
      unfold ZbB
      cases Zq toks .A with
      | none=>
       cases hl:Z7 (fun _=> none) L .A with
       | none=> exact absurd hl hL
       | some x=> rfl
      | some t=> simp [Z7]
     simp only [hw,cond_false,ha]
     cases r.isP
     .simp only [cond_false]
      cases Z27 d L (Z2u os) os xs with
      | none=> rfl
      | some m=> cases Jl st' d L <;> cases Jl st d L <;> rfl
     .try rfl
theorem Z4u{st st':FSt U}{x:Option Operand}(h:∀ y,x=some y->st'.opnd y=st.opnd y):JL st' x=JL st x:=by
 cases x with
 | none=> rfl
 | some y=> simp only [JL,h y rfl]
theorem Z0U{α β:Type}{f f':α->Option β}:∀ {l:List α},(∀ x,x∈l->f' x=f x)->l.mapM f'=l.mapM f
 | [],_=> rfl
 | x ::l,h=> by rw [QF,QF,h x (by simp),Z0U (fun y hy=> h y (by simp [hy]))]
theorem Zh1{Γ:Known U}{o:Oper}{ops:Array Oper}{st st':FSt U}(h:Alike Γ o ops st st'):aop cfg Γ o st'.strip=aop cfg Γ o st.strip:=by
 have hop:=fun {x:Operand} (hx:x∈o.op.operands.toList)=> (h.opnd hx).2
 have hm:=h.mem
 have hd:=h.dead
 have htk:=fun {x:Operand} (hx:x∈Yi o) {v:V U} (hv:st.strip.opnd x=some v) {t:Tok} (ht:t∈v.toks)=> h.tok hx hv ht
 have hmu:=h.mu
 have hls:=h.ls
 have hfr:=h.fr
 have hall:=h.all
 obtain ⟨dst,op,type,pos,after,guard⟩:=o
 cases op <;> simp only [aop]
 case move x=> rw [hop (by simp [Op.operands])]
 case assign x=> rw [hop (by simp [Op.operands])]
 case alloc t=>
  cases dst with
  | none=> rfl
  | some d=>
   have:st'.strip.mem (.loc d)=st.strip.mem (.loc d):=hm (.loc d) (by simp [touch])
   cases cfg.var t with
   | none=> rfl
   | some z=> simp only [this]
 case box t x=>
  cases dst with
  | none=> rfl
  | some d=>
   have:st'.strip.mem (.loc d)=st.strip.mem (.loc d):=hm (.loc d) (by simp [touch])
   rw [hop (x:=x) (by simp [Op.operands])]
   cases cfg.var t with
   | none=> rfl
   | some z=>
    cases (st.strip.opnd x).bind V.cells with
    | none=> rfl
    | some cs=> simp only [this]
 case build t parts=>
  rw [Z0U (f:=fun x=> ((st.strip.opnd x.2).bind V.cells).map (x.1,·))]
  intro x hx
  rw [hop (by simp only [Op.operands];simp;exact ⟨x.1,by simpa using hx⟩)]
 case buildSlice t n parts=>
  rw [Z0U (f:=fun x=> (st.strip.opnd x.2).map (x.1,·)) (by
   intro x hx
   rw [hop (by simp only [Op.operands];simp;exact ⟨x.1,by simpa using hx⟩)])]
  have hmu':st'.strip.mu=st.strip.mu:=hmu
  cases hnp:Z1v n parts.toList with
  | true=>
   have e0:st'.strip.ls .A=st.strip.ls .A:=hls _ (by simp [touchT,hnp])
   have hc:Z0Z parts.toList=false:=by
    unfold Z1v at hnp
    split at hnp
    .rename_i hp;rw [hp];try rfl
    .cases hnp
   simp only [e0,hc,Bool.and_false,cond_false]
  | false=>
  simp only [Bool.and_false,cond_false]
  cases hc:Z0Z parts.toList with
  | false=> simp only [Bool.and_false,cond_false]
  | true=>
   have e1:st'.strip.dead=st.strip.dead:=hd hc
   cases dst with
   | none=> simp only [Z7w,hmu']
   | some d=>
    have e2:st'.strip.ls (.r d 0)=st.strip.ls (.r d 0):=hfr 0
    simp only [Z7w,hmu',e1,e2]
 case load t p=>
  rw [hop (by simp [Op.operands])]
  cases cfg.var t with
  | none=> rfl
  | some z=>
   cases hp:st.strip.opnd p with
   | none=> rfl
   | some v=>
    have:rd st'.strip v z.1 z.2.length=rd st.strip v z.1 z.2.length:=ZhS fun nm hnm=> hm nm (by simp only [touch];rw [hp];exact hnm)
    cases v <;> first | (simp only [this];done) | skip
    case c c=> cases c <;> first | rfl | (simp only [this];done)
    case ar n k=>
     have:st'.strip.ls .A=st.strip.ls .A:=htk (x:=p) (by simp [Yi]) hp (by simp [V.toks])
     have e:st'.strip.ar cfg=st.strip.ar cfg:=by simp only [FSt.ar,this]
     obtain ⟨ag,zs⟩:=z
     cases ag
     .simp only [e]
     .try rfl
    case mp u n off=>
     have:st'.strip.ls u=st.strip.ls u:=htk (x:=p) (by simp [Yi]) hp (by simp [V.toks])
     simp only [this]
 case store t p x=>
  rw [hop (x:=p) (by simp [Op.operands]),hop (x:=x) (by simp [Op.operands])]
  cases hp:st.strip.opnd p with
  | none=> cases cfg.var t <;> rfl
  | some v=>
   cases v
   case ar n k=>
    have:st'.strip.ls .A=st.strip.ls .A:=htk (x:=p) (by simp [Yi]) hp (by simp [V.toks])
    have e:st'.strip.ar cfg=st.strip.ar cfg:=by simp only [FSt.ar,this]
    cases st.strip.opnd x with
    | none=> cases cfg.var t <;> rfl
    | some y=> simp only [e]
   case mp u n off=>
    have:st'.strip.ls u=st.strip.ls u:=htk (x:=p) (by simp [Yi]) hp (by simp [V.toks])
    cases cfg.var t with
    | none=> rfl
    | some z=>
     cases (st.strip.opnd x).bind V.cells with
     | none=> rfl
     | some cs=> simp only [this]
   case ptr nm off=>
    have:st'.strip.mem nm=st.strip.mem nm:=hm nm (by simp only [touch];rw [hp];simp [ZD])
    cases cfg.var t with
    | none=> rfl
    | some z=>
     cases (st.strip.opnd x).bind V.cells with
     | none=> rfl
     | some cs=> simp only [this]
   case ap nm off k len n=>
    have:st'.strip.mem nm=st.strip.mem nm:=hm nm (by simp only [touch];rw [hp];simp [ZD])
    cases cfg.var t with
    | none=> rfl
    | some z=>
     cases (st.strip.opnd x).bind V.cells with
     | none=> rfl
     | some cs=>
      match cs with
      | []=> rfl
      | [c]=> cases c <;> first | rfl | simp only [this]
      | c ::_ ::_=> cases c <;> rfl
   all_goals (cases cfg.var t <;> rfl)
 case nilCheck x=>
  rw [hop (by simp [Op.operands])]
  cases hp:st.strip.opnd x with
  | none=> rfl
  | some v=>
   cases v <;> try rfl
   case c c=>
    cases c <;> try rfl
    case mref u=>
     cases u <;> try rfl
     case A=>
      have:st'.strip.ls .A=st.strip.ls .A:=htk (x:=x) (by simp [Yi]) hp (by simp [V.toks])
      have e:st'.strip.ar cfg=st.strip.ar cfg:=by simp only [FSt.ar,this]
      simp only [e]
   case mp u n off=>
    have:st'.strip.ls u=st.strip.ls u:=htk (x:=x) (by simp [Yi]) hp (by simp [V.toks])
    simp only [this]
 case binOp bop t x y t'=>
  rw [hop (x:=x) (by simp [Op.operands]),hop (x:=y) (by simp [Op.operands])]
  cases hp:st.strip.opnd x with
  | none=> rfl
  | some v=>
   by_cases hA:v= .c (.mref .A)
   .subst hA
    have:st'.strip.ls .A=st.strip.ls .A:=hls _ (by simp only [touchT];exact X9 _ (List.mem_filter.2 ⟨K9.2 ⟨x,by simp,by rw [hp];simp [V.toks]⟩,rfl⟩))
    have e:st'.strip.ar cfg=st.strip.ar cfg:=by simp only [FSt.ar,this]
    simp only [e]
   .cases st.strip.opnd y with
    | none=>
     cases v <;> try rfl
     case c c=>
      cases c <;> try rfl
      case mref u=> cases u <;> rfl
    | some vy=>
     cases v <;> try (cases vy <;> first | rfl | (rename_i c2;cases c2 <;> rfl))
     case c c=>
      cases c <;> try (cases vy <;> first | rfl | (rename_i c2;cases c2 <;> rfl))
      case mref u=>
       cases u <;> first | (exact absurd rfl hA) | (cases vy <;> first | rfl | (rename_i c2;cases c2 <;> rfl))
 case unOp uop t x=> rw [hop (by simp [Op.operands])]
 case convert src dst' x=> rw [hop (by simp [Op.operands])]
 case makeSlice t n m=>
  rw [hop (x:=n) (by simp [Op.operands]),hop (x:=m) (by simp [Op.operands])]
  have hmu':st'.strip.mu=st.strip.mu:=hmu
  have e1:st'.strip.dead=st.strip.dead:=hd rfl
  cases dst with
  | none=> simp only [ZbG,hmu']
  | some d=>
   have e2:st'.strip.ls (.r d 0)=st.strip.ls (.r d 0):=hfr 0
   simp only [ZbG,hmu',e1,e2]
 case slice t x lo hi mx=>
  rw [hop (x:=x) (by simp [Op.operands]),Z4u (x:=lo) (fun y hy=> hop (by simp [Op.operands,hy])),Z4u (x:=hi) (fun y hy=> hop (by simp [Op.operands,hy])),Z4u (x:=mx) (fun y hy=> hop (by simp [Op.operands,hy]))]
  cases hp:st.strip.opnd x with
  | none=> rfl
  | some v=>
   cases v
   case ptr nm off=>
    have:st'.strip.mem nm=st.strip.mem nm:=hm nm (by simp only [touch];rw [hp];simp [ZD])
    cases JL st.strip lo with
    | none=> rfl
    | some a=>
     cases JL st.strip hi with
     | none=> cases a <;> rfl
     | some b=>
      cases JL st.strip mx with
      | none=> cases a <;> cases b <;> rfl
      | some c=> cases a <;> cases b <;> cases c <;> first | rfl | simp only [this]
   case c c=>
    have hvw:st'.strip.vw=st.strip.vw:=h.vw
    cases c
    case mref u=>
     have:st'.strip.ls u=st.strip.ls u:=htk (x:=x) (by simp [Yi]) hp (by simp [V.toks])
     rcases JL st.strip lo with _ | _ | v
     case some.some=>
      cases v
      case c c=> cases c <;> rcases JL st.strip hi with _ | _ | _ <;> rcases JL st.strip mx with _ | _ | _ <;> first | rfl | simp only [this,hvw]
      all_goals (cases JL st.strip hi <;> cases JL st.strip mx <;> rfl)
     all_goals (cases JL st.strip hi <;> cases JL st.strip mx <;> rfl)
    all_goals (cases JL st.strip lo <;> cases JL st.strip hi <;> cases JL st.strip mx <;> rfl)
   all_goals (cases JL st.strip lo <;> cases JL st.strip hi <;> cases JL st.strip mx <;> rfl)
 case fieldAddr t x f=>
  rw [hop (by simp [Op.operands])]
  cases hp:st.strip.opnd x with
  | none=> rfl
  | some v=>
   cases cfg.fld t f with
   | none=> cases v with
    | c c=> cases c with
     | mref u=> cases u <;> rfl
     | _=> rfl
    | _=> rfl
   | some z=>
    cases v <;> try rfl
    case c c=>
     cases c <;> try rfl
     case mref u=>
      cases u <;> try rfl
      case A=>
       have:st'.strip.ls .A=st.strip.ls .A:=htk (x:=x) (by simp [Yi]) hp (by simp [V.toks])
       have e:st'.strip.ar cfg=st.strip.ar cfg:=by simp only [FSt.ar,this]
       simp only [e]
    case mp u n off=>
     have:st'.strip.ls u=st.strip.ls u:=htk (x:=x) (by simp [Yi]) hp (by simp [V.toks])
     simp only [this]
 case makeFunc f first caps=>
  rw [Z0U (f:=fun x=> (st.strip.opnd x).bind Zgj)]
  intro x hx
  rw [hop (by simp only [Op.operands];simp;right;simpa using hx)]
 case field t x f=> rw [hop (by simp [Op.operands])]
 case indexAddr t x i=>
  rw [hop (x:=x) (by simp [Op.operands]),hop (x:=i) (by simp [Op.operands])]
  cases hp:st.strip.opnd x with
  | none=> rfl
  | some v=>
   cases hi:st.strip.opnd i with
   | none=> cases v <;> first | rfl | (rename_i y;cases y <;> rfl)
   | some vi=>
    cases vi <;> first | (cases v <;> first | (rfl;done) | (rename_i y;cases y <;> (rfl;done));done) | skip
    case c z=>
     cases z <;> first | (cases v <;> first | (rfl;done) | (rename_i y;cases y <;> (rfl;done));done) | skip
     case int k n=>
      cases v <;> first | (rfl;done) | skip
      case c y=>
       cases y <;> first | (rfl;done) | skip
       case mref u=>
        have:st'.strip.ls u=st.strip.ls u:=htk (x:=x) (by simp [Yi]) hp (by simp [V.toks])
        simp only [this]
      case ar m k=>
       have:st'.strip.ls .A=st.strip.ls .A:=htk (x:=x) (by simp [Yi]) hp (by simp [V.toks])
       have e:st'.strip.ar cfg=st.strip.ar cfg:=by simp only [FSt.ar,this]
       simp only [e]
 case index t x i=> rw [hop (x:=x) (by simp [Op.operands]),hop (x:=i) (by simp [Op.operands])]
 case extract x i=> rw [hop (by simp [Op.operands])]
 case call c=>
  unfold Z7v
  cases hc:c.callee with
  | builtin b=>
   simp only
   have hx:∀ x∈c.args.toList,st'.strip.opnd x=st.strip.opnd x:=fun x hx=> hop (by simp [Op.operands,Call.operands,hc];simpa using hx)
   unfold Z5A
   split
   .rename_i x t hargs hts
    rw [hx x (by rw [hargs];simp)]
    cases hp:st.strip.opnd x with
    | none=> rfl
    | some v=>
     have:lenOf cfg st'.strip t v=lenOf cfg st.strip t v:=by
      cases v <;> try rfl
      case c y=>
       cases y <;> try rfl
       case mref u=>
        have:st'.strip.ls u=st.strip.ls u:=htk (x:=x) (by simp only [Yi,hc];rw [hargs];simp) hp (by simp [V.toks])
        simp only [lenOf,this]
     cases v <;> first | (simp only [this];done) | skip
     case ar m k=>
      have:st'.strip.ls .A=st.strip.ls .A:=htk (x:=x) (by simp only [Yi,hc];rw [hargs];simp) hp (by simp [V.toks])
      have e:st'.strip.ar cfg=st.strip.ar cfg:=by simp only [FSt.ar,this]
      simp only [e]
   .rename_i x y t t' hargs hts
    rw [hx x (by rw [hargs];simp),hx y (by rw [hargs];simp)]
    have hd':st'.dead=st.dead:=hd (by simp only [Z0A,hc])
    have:∀ d t x y,Z3W cfg st'.strip d t x y=Z3W cfg st.strip d t x y:=fun d t x y=> by simp only [Z3W,FSt.strip,hd']
    have hmu':st'.strip.mu=st.strip.mu:=hmu
    cases dst with
    | none=> rfl
    | some d=>
     cases hp:st.strip.opnd x with
     | none=> rfl
     | some v=>
      cases v <;> try rfl
      case ar m k=>
       have:st'.strip.ls .A=st.strip.ls .A:=htk (x:=x) (by simp only [Yi,hc];rw [hargs];simp) hp (by simp [V.toks])
       have e:st'.strip.ar cfg=st.strip.ar cfg:=by simp only [FSt.ar,this]
       cases st.strip.opnd y with
       | none=> rfl
       | some vy=> simp only [e]
      case c cx=>
       have hM:∀ t y,Z1R cfg st'.strip d t cx y=Z1R cfg st.strip d t cx y:=by
        intro t y
        have e1:st'.strip.dead=st.strip.dead:=hd'
        have e2:st'.strip.ls (.r d 0)=st.strip.ls (.r d 0):=hfr 0
        have e3:∀ T,Z4a cfg st'.strip T cx=Z4a cfg st.strip T cx:=by
         intro T
         cases cx <;> simp only [Z4a,e1]
         case mref u=>
          have:st'.strip.ls u=st.strip.ls u:=htk (x:=x) (by simp only [Yi,hc];rw [hargs];simp) hp (by simp [V.toks])
          simp only [this]
        simp only [Z1R,e1,e2,e3]
       have hZ:∀ t t' y,Z1Q cfg st'.strip d t t' cx y=Z1Q cfg st.strip d t t' cx y:=by
        intro t t' y
        have e1:st'.strip.dead=st.strip.dead:=hd'
        have e2:st'.strip.ls (.r d 0)=st.strip.ls (.r d 0):=hfr 0
        have e3:∀ T,Z4a cfg st'.strip T cx=Z4a cfg st.strip T cx:=by
         intro T
         cases cx <;> simp only [Z4a,e1]
         case mref u=>
          have:st'.strip.ls u=st.strip.ls u:=htk (x:=x) (by simp only [Yi,hc];rw [hargs];simp) hp (by simp [V.toks])
          simp only [this]
        simp only [Z1Q,e1,e2,e3]
       cases hq:st.strip.opnd y with
       | none=> rfl
       | some vy=> cases vy <;> first | (rfl;done) | (simp only [this,hM,hZ,hmu'])
   .rename_i x t hargs hts
    rw [hx x (by rw [hargs];simp)]
    cases hp:st.strip.opnd x with
    | none=> rfl
    | some v=>
     cases v <;> try rfl
     case vw u n=>
      have:st'.strip.ls u=st.strip.ls u:=htk (x:=x) (by simp only [Yi,hc];rw [hargs];simp) hp (by simp [V.toks])
      simp only [ZbH,this]
   .rename_i x y t t' hargs hts
    rw [hx x (by rw [hargs];simp),hx y (by rw [hargs];simp)]
    cases hp:st.strip.opnd x with
    | none=> rfl
    | some v=>
     cases v <;> try rfl
     case vw u n=>
      have:st'.strip.ls u=st.strip.ls u:=htk (x:=x) (by simp only [Yi,hc];rw [hargs];simp) hp (by simp [V.toks])
      cases st.strip.opnd y with
      | none=> rfl
      | some vy=> cases vy <;> first | rfl | simp only [ZfR,this]
   .rename_i x y hargs
    rw [hx x (by rw [hargs];simp),hx y (by rw [hargs];simp)]
   .rename_i x y hargs
    rw [hx x (by rw [hargs];simp),hx y (by rw [hargs];simp)]
   .try rfl
  | value gx=>
   simp only
   have hd':st'.dead=st.dead:=hd (by simp only [Z0A,hc])
   have hx:∀ x∈c.args.toList,st'.strip.opnd x=st.strip.opnd x:=fun x hx=> hop (by simp [Op.operands,Call.operands,hc];right;simpa using hx)
   rw [hop (x:=gx) (by simp [Op.operands,Call.operands,hc]),Z0U (f:=st.strip.opnd) hx]
   cases hg:st.strip.opnd gx with
   | none=> rfl
   | some v=>
    have key:∀ (vs:List (V U)),c.args.toList.mapM st.strip.opnd=some vs->∀ x∈vs,∀ nm∈ZD (some x),nm∈ZD (some v)++c.args.toList.flatMap fun x=> ZD (st.strip.opnd x):=by
     intro vs hv x hxm nm hnm
     obtain ⟨j,hj,rfl⟩:=QZ hxm
     have hlen:=(mapM_len hv)
     have hja:j < c.args.toList.length:=by omega
     obtain ⟨y,h1,h2⟩:=Z38 hv j _ (Q0 hja)
     rw [Q0 hj] at h1
     cases h1
     exact X9 _ (K9.2 ⟨_,X8 hja,by rw [h2];exact hnm⟩)
    have hm2:∀ nm∈Z9E (ZD (some v)++c.args.toList.flatMap fun x=> ZD (st.strip.opnd x)),st'.strip.mem nm=st.strip.mem nm:=by
     intro nm hnm
     refine hm nm ?_
     simp only [touch,hc,hg]
     exact Q7 _ hnm
    have hB:∀ j,st'.strip.ls (.r (dst.getD 0) j)=st.strip.ls (.r (dst.getD 0) j):=hfr
    have hW:∀ f',(v= .fn f'\/∃ nms,v= .clo f' nms)->∀ s,Γ.fn f'=some s->s.wr=true->st'.strip.ls=st.strip.ls:=by
     intro f' hv s hG hw
     exact hall (by
      rcases hv with rfl | ⟨nms,rfl⟩ <;> simp only [YC,hc,hg,Z3z,hG,hw,Bool.true_or])
    cases v <;> try rfl
    case fn f=>
     cases hv:c.args.toList.mapM st.strip.opnd with
     | none=> rfl
     | some vs=>
      simp only
      cases hb:ZiN Γ f with
      | false=>
       cases hmk:Znd Γ f with
       | false=> simp only [cond_false];exact Z3y hd' (key vs hv) hm2 hB (hW f (.inl rfl))
       | true=>
        have:st'.strip.mem (.loc (dst.getD 0))=st.strip.mem (.loc (dst.getD 0)):=hm _ (by simp [touch,hc])
        have e:Z1P st'.strip vs=Z1P st.strip vs:=by
         unfold Z1P
         split
         .rename_i nm
          rw [hm2 nm (Z3H (key _ hv _ Q9 nm (by simp [ZD])))]
         .try rfl
        simp only [cond_true,cond_false,Zh6,this,e]
        have hc2:Z2v Γ st'.strip (dst.getD 0) f vs=Z2v Γ st.strip (dst.getD 0) f vs:=Z3y hd' (key vs hv) hm2 hB (hW f (.inl rfl))
        have ho:∀ r,Z4b cfg Γ st'.strip (dst.getD 0) f r=Z4b cfg Γ st.strip (dst.getD 0) f r:=by
         intro r
         unfold Z4b
         cases hG:Γ.fn f with
         | none=> rfl
         | some s=>
          simp only
          cases ha:s.arn with
          | none=> rfl
          | some T=>
           have h1:st'.ls=st.ls:=hall (by simp only [YC,hc,hg,Z3z,hG,ha,Xg,Bool.or_true])
           have h2:st'.strip.ls=st.strip.ls:=h1
           have h3:st'.strip.dead=st.strip.dead:=hd'
           simp only [h2,h3,this]
        rw [hc2]
        simp only [ho]
      | true=>
       have:st'.ls=st.ls:=hall (by
        unfold ZiN at hb
        split at hb
        .rename_i s hG;simp only [YC,hc,hg,Z3z,hG,hb,Bool.or_true,Bool.true_or]
        .cases hb)
       have e:V.lend st'.strip=V.lend st.strip:=by
        have e2:C.lend st'.strip=C.lend st.strip:=by
         funext c
         have h2:st'.strip.ls=st.strip.ls:=this
         cases c <;> simp only [C.lend,h2]
        funext v
        cases v <;> simp only [V.lend,e2]
       simp only [cond_true,Zay,e]
    case clo f nms=>
     cases hv:c.args.toList.mapM st.strip.opnd with
     | none=> rfl
     | some vs=>
      refine Z3y hd' (fun x hx nm hnm=> ?_) hm2 hB (hW f (.inr ⟨nms,rfl⟩))
      rcases QA.1 hx with hx | hx
      .exact key vs hv x hx nm hnm
      .obtain ⟨nm0,h1,rfl⟩:=Xi.1 hx
       simp only [ZD,Qy] at hnm
       subst hnm
       exact QD _ (by simpa [ZD] using h1)
  | invoke r m=> rfl
where
 mapM_len {f:Operand->Option (V U)}:∀ {xs:List Operand} {vs:List (V U)},xs.mapM f=some vs->xs.length=vs.length:=by
  intro xs
  induction xs with
  | nil=> intro vs h;simp at h;subst h;rfl
  | cons y xs ih=>
   intro vs h
   rw [QF] at h
   cases h1:f y with
   | none=> simp [h1] at h
   | some v=>
    cases h2:xs.mapM f with
    | none=> simp [h1,h2] at h
    | some r=>
     simp [h1,h2] at h
     subst h
     simp [ih h2]
theorem Z5r{st st':FSt U}{G:Option Bool}:∀ {l:List Operand},(∀ t,Operand.tmp t∈l->st'.env t=st.env t)->YF st' G l=YF st G l
 | [],_=> rfl
 | x ::l,h=> by
  have ih:=Z5r (l:=l) (G:=G) (fun t ht=> h t (by simp [ht]))
  cases x with
  | tmp t=> simp only [YF,h t (by simp),ih]
  | _=> trivial
theorem Z3c{tyEq:DecidableEq U.Ty}{G:Bool}{m0 m1:Name->Option (List (C U))}:∀ {m:List (Name × List (C U))},(∀ x∈m,m1 x.1=m0 x.1)->Z0p tyEq G m1 m=Z0p tyEq G m0 m
 | [],_=> rfl
 | (nm,cs) ::r,h=> by
  simp only [Z0p,h (nm,cs) (by simp),Z3c (m:=r) (fun x hx=> h x (by simp [hx]))]
theorem Z1a{l:List Name}{nm:Name}:Y7 l nm=true↔nm∈l:=by
 refine ⟨?_,Z37⟩
 induction l with
 | nil=> intro h;cases h
 | cons x l ih=>
  intro h
  simp only [Y7] at h
  grind
theorem Z2A{o:Oper}{ops:Array Oper}{st st':FSt U}(h:∀ t,t∈o.looksAt ops->st'.env t=st.env t):touch o st'=touch o st:=by
 have hop:∀ {x:Operand},x∈o.op.operands.toList->st'.strip.opnd x=st.strip.opnd x:=by
  intro x hx
  cases x with
  | tmp t=> simp [FSt.opnd,FSt.strip,h t (QD _ (Xj.2 ⟨.tmp t,hx,rfl⟩))]
  | _=> rfl
 obtain ⟨dst,op,type,pos,after,guard⟩:=o
 cases op <;> simp only [touch]
 case load t p=> rw [hop (by simp [Op.operands])]
 case store t p x=> rw [hop (by simp [Op.operands])]
 case slice t x lo hi mx=> rw [hop (by simp [Op.operands])]
 case call c=>
  have:∀ (l:List Operand),(∀ x∈l,x∈c.args.toList)->(l.flatMap fun x=> ZD (st'.strip.opnd x))=l.flatMap fun x=> ZD (st.strip.opnd x):=by
   intro l
   induction l with
   | nil=> intro _;rfl
   | cons x l ih=>
    intro hl
    rw [Xy,Xy,ih (fun y hy=> hl y (by simp [hy])),hop (by
     have:=hl x (by simp)
     cases hc:c.callee <;> simp [Op.operands,Call.operands,hc] <;> first | (right;simpa using this) | simpa using this)]
  rw [this _ (fun x hx=> hx)]
  cases hc:c.callee with
  | value gx=> simp only [hop (x:=gx) (by simp [Op.operands,Call.operands,hc])]
  | builtin b=> rfl
  | invoke r m=> rfl
theorem Zdl{o:Oper}{x:Operand}(h:x∈Yi o):x∈o.op.operands.toList:=by
 obtain ⟨dst,op,type,pos,after,guard⟩:=o
 cases op <;> simp only [Yi] at h <;> (try (cases h;done))
 case load t p=> trivial
 case store t p x=> simp only [Qy] at h;subst h;simp [Op.operands]
 case nilCheck x=> trivial
 case fieldAddr t x f=> trivial
 case indexAddr t x i=> simp only [Qy] at h;subst h;simp [Op.operands]
 case slice t x lo hi mx=> simp only [Qy] at h;subst h;simp [Op.operands]
 case call c=>
  cases hc:c.callee <;> rw [hc] at h <;> (try (cases h;done))
  simp only at h
  simp only [Op.operands,Call.operands,hc]
  simpa using h
theorem Z1W{o:Oper}{ops:Array Oper}{st st':FSt U}(h:∀ t,t∈o.looksAt ops->st'.env t=st.env t):touchT o st'=touchT o st:=by
 have hop:∀ {x:Operand},x∈o.op.operands.toList->st'.strip.opnd x=st.strip.opnd x:=by
  intro x hx
  cases x with
  | tmp t=> simp [FSt.opnd,FSt.strip,h t (QD _ (Xj.2 ⟨.tmp t,hx,rfl⟩))]
  | _=> rfl
 unfold touchT
 have:∀ (l:List Operand),(∀ x∈l,x∈Yi o)->(l.flatMap fun x=> (st'.strip.opnd x).toList.flatMap V.toks)=l.flatMap fun x=> (st.strip.opnd x).toList.flatMap V.toks:=by
  intro l
  induction l with
  | nil=> intro _;rfl
  | cons x l ih=>
   intro hl
   rw [Xy,Xy,ih (fun y hy=> hl y (by simp [hy])),hop (Zdl (hl x (by simp)))]
 rw [this _ (fun x hx=> hx)]
 congr 1
 obtain ⟨dst,op,type,pos,after,guard⟩:=o
 cases op <;> try rfl
 case binOp bop t x y t'=> simp only [Xy,List.flatMap_nil,hop (x:=x) (by simp [Op.operands]),hop (x:=y) (by simp [Op.operands])]
theorem Z1q{Γ:Known U}{o:Oper}{ops:Array Oper}{st st':FSt U}(h:∀ t,t∈o.looksAt ops->st'.env t=st.env t):YC Γ o st'=YC Γ o st:=by
 obtain ⟨dst,op,type,pos,after,guard⟩:=o
 cases op <;> try rfl
 case call c=>
  simp only [YC]
  cases hc:c.callee <;> try rfl
  case value g=>
   have:st'.strip.opnd g=st.strip.opnd g:=by
    cases g with
    | tmp t=> simp [FSt.opnd,FSt.strip,h t (QD _ (Xj.2 ⟨.tmp t,by simp [Op.operands,Call.operands,hc],rfl⟩))]
    | _=> rfl
   grind
theorem Z9I{l:List Tok}{t:Tok}:Z4M l t=true↔t∈l:=by
 induction l with
 | nil=> simp [Z4M]
 | cons x l ih=>
  simp only [Z4M,QH]
  grind
theorem Z3w{Γ:Known U}{o:Oper}{ops:Array Oper}{st st':FSt U}(h:Alike Γ o ops st st'):JK cfg Γ ops o st'=JK cfg Γ ops o st:=by
 have hop:=fun {x:Operand} (hx:x∈o.op.operands.toList)=> (h.opnd hx).1
 have hG:Z0u ops st' o=Z0u ops st o:=by
  unfold Z0u
  cases hg:o.guard with
  | none=> rfl
  | some jw=>
   obtain ⟨j,want⟩:=jw
   simp only
   cases ht:(ops[j]?).bind (·.dst) with
   | none=> rfl
   | some t=>
    have:st'.env t=st.env t:=h.env t (X9 _ (by simp [hg,ht]))
    grind
 have hN:∀ G,YF st' G o.op.operands.toList=YF st G o.op.operands.toList:=fun G=>
  Z5r fun t ht=> h.env t (QD _ (Xj.2 ⟨.tmp t,ht,rfl⟩))
 unfold JK
 rw [h.n]
 split
 .split
  .rename_i c x y hc
   rw [hG,hop (x:=c) (by simp [hc,Op.operands]),hop (x:=x) (by simp [hc,Op.operands]),hop (x:=y) (by simp [hc,Op.operands])]
  .have ht:=Z2A (st:=st) (st':=st') h.env
   rw [hG]
   simp only [Zh1 h,hN,ht]
   split
   .try rfl
   .rename_i G hGe
    cases he:aop cfg Γ o st.strip with
    | none=> rfl
    | some r=>
     obtain ⟨ps,e⟩:=r
     cases G with
     | none=> rfl
     | some Gb=>
      obtain ⟨v,m,k,l⟩:=e
      cases v with
      | none=> rfl
      | some v=>
       cases k with
       | cons _ _=> grind
       | nil=>
        cases l with
        | cons y l=>
         obtain ⟨t0,x'⟩:=y
         have hT:=Z1W (st:=st) (st':=st') h.env
         have hC:=Z1q (Γ:=Γ) (st:=st) (st':=st') h.env
         cases t0 <;> cases l <;> try (cases m <;> rfl)
         case A.nil=>
          have key:∀ m:List (Name × List (C U)),(m.all (fun x=> Y7 (touch o st) x.1) && (Z4M (touchT o st) .A || YC Γ o st))=true->Z0p cfg.tyEq Gb st'.mem m=Z0p cfg.tyEq Gb st.mem m/\Z47 cfg Gb st' x'=Z47 cfg Gb st x':=by
           intro m hc
           simp only [Q3,X4] at hc
           refine ⟨Z3c fun y hy=> h.mem _ (Z1a.1 (Qg.1 hc.1 y hy)),?_⟩
           have:st'.ls .A=st.ls .A:=by
            rcases hc.2 with hc | hc
            .exact h.ls _ (Z9I.1 hc)
            .rw [h.all hc]
           simp only [Z47,this]
          cases m with
          | nil=>
           simp only [hT,hC]
           have k:=key []
           cases hc:((([]:List (Name × List (C U))).all fun x=> Y7 (touch o st) x.1) && (Z4M (touchT o st) .A || YC Γ o st)) with
           | false=> rfl
           | true=> rw [(k hc).1,(k hc).2]
          | cons z m=>
           simp only [hT,hC]
           have k:=key (z ::m)
           cases hc:((z ::m).all fun x=> Y7 (touch o st) x.1) && (Z4M (touchT o st) .A || YC Γ o st) with
           | false=> rfl
           | true=> rw [(k hc).1,(k hc).2]
        | nil=>
        cases m with
        | nil=> rfl
        | cons x r=>
         simp only
         cases hall:(x ::r).all fun x=> Y7 (touch o st) x.1 with
         | false=> rfl
         | true=>
          have hj:Z0p cfg.tyEq Gb st'.mem (x ::r)=Z0p cfg.tyEq Gb st.mem (x ::r):=Z3c fun y hy=> h.mem _ (Z1a.1 (by
           grind))
          rw [hj]
 .try rfl
theorem Z26{m0:Name->Option (List (C U))}{m:List (Name × List (C U))}{nm:Name}(h:Y7 (m.map (·.1)) nm=false):Zz m0 m nm=m0 nm:=by
 induction m with
 | nil=> rfl
 | cons x m ih=>
  obtain ⟨b,cs⟩:=x
  simp only [Xe,Y7] at h
  split at h
  .cases h
  .rename_i e
   simp only [Zz]
   grind
theorem Z8L{x y:List Name}(h:Zck x y=false):∀ nm,nm∈x->Y7 y nm=false:=by
 intro nm hn
 unfold Zck at h
 grind
theorem Z6Q{x y:List Tok}(h:Z6R x y=false):∀ t,t∈x->t∉y:=by
 intro t ht hy
 unfold Z6R at h
 rw [List.any_eq_false] at h
 have:=h t ht
 rw [Z9I.2 hy] at this
 simp at this
theorem ZgE{m:Tok->Option (LC U)}{l:List (Tok × LC U)}{t:Tok}(h:t∉l.map (·.1)):Z7 m l t=m t:=by
 induction l with
 | nil=> rfl
 | cons x l ih=>
  obtain ⟨b,y⟩:=x
  simp only [Xe,QH,not_or] at h
  simp only [Z7]
  grind
theorem Z1y{m:Tok->Option (LC U)}{e:Eff U}{t:Tok}(h:t∉e.kill++e.ls.map (·.1)):Ye m e t=m t:=by
 simp only [QA,not_or] at h
 unfold Ye
 have:e.kill.contains t=false:=by
  cases hk:e.kill.contains t with
  | false=> rfl
  | true=> exact absurd (by simpa using hk) h.1
 rw [this,cond_false,ZgE h.2]
theorem Z6m {Γ:Known U} {ops:Array Oper} {x y:Oper} {st:FSt U} {e:Eff U} (hap:x.apart ops y=true) (hm:Zck (e.mem.map (·.1)) (touch y st)=false) (hk:(!e.kill.isEmpty && Z0A y)=false)
  (ht:Z6R (e.kill++e.ls.map (·.1)) (touchT y st)=false) (hr:noR (y.dst.getD 0) (e.kill++e.ls.map (·.1))=true) (ha:((e.kill++e.ls.map (·.1)).isEmpty || !YC Γ y st)=true):
  Alike Γ y ops st (st.app x.dst e):=by
 obtain ⟨h1,_,_⟩:=Oper.apart_spec hap
 refine ⟨?_,?_,?_,?_,by cases x.dst <;> rfl,by cases x.dst <;> rfl,fun t htt=> Z1y (fun hm=> Z6Q ht t hm htt),fun j=> Z1y (fun hm=> ?_),fun hc=> ?_⟩
 .cases x.dst <;> rfl
 .intro t ht
  cases hd:x.dst with
  | none=> rfl
  | some d=>
   have hne:t≠d:=fun e=> h1 d hd (e▸ht)
   have:Nat.beq t d=false:=by
    cases hb:Nat.beq t d with
    | false=> rfl
    | true=> simp_all
   simp [FSt.app,FSt.put,this]
 .intro nm hn
  have:Y7 (e.mem.map (·.1)) nm=false:=by
   cases hb:Y7 (e.mem.map (·.1)) nm with
   | false=> rfl
   | true=>
    have:=Z8L hm nm (Z1a.1 hb)
    rw [Z37 hn] at this
    cases this
  exact Z26 this
 .intro hr
  simp only [hr,Bool.and_true,Bool.not_eq_false'] at hk
  have:e.kill=[]:=by simpa using hk
  simp [FSt.app,this]
 .have:=Qg.1 hr _ hm
  simp at this
 .rw [hc] at ha
  simp only [Xu,Bool.or_false,List.isEmpty_iff] at ha
  funext t
  exact Z1y (by rw [ha];simp)
theorem Zks{ops:Array Oper}{x y:Oper}{st:FSt U}{e f:Eff U}(hap:x.apart ops y=true)(hm:Zck (e.mem.map (·.1)) (f.mem.map (·.1))=false)(hl:Z6R (e.kill++e.ls.map (·.1)) (f.kill++f.ls.map (·.1))=false):
  (st.app x.dst e).app y.dst f=(st.app y.dst f).app x.dst e:=by
 obtain ⟨_,h2,_⟩:=Oper.apart_spec hap
 have hput:∀ (s:FSt U) (v u:V U),((s.put x.dst v).put y.dst u)=((s.put y.dst u).put x.dst v):=by
  intro s v u
  cases hx:x.dst with
  | none=> rfl
  | some d=>
   cases hy:y.dst with
   | none=> rfl
   | some d'=>
    have hne:d≠d':=fun e=> h2 d hx (by rw [hy,e])
    simp only [FSt.put]
    congr 1
    funext j
    cases h1:Nat.beq j d with
    | false=> rfl
    | true=>
     cases h3:Nat.beq j d' with
     | false=> rfl
     | true=> exact absurd ((Q4 h1).symm.trans (Q4 h3)) hne
 have hmem:Zz (Zz st.mem e.mem) f.mem=Zz (Zz st.mem f.mem) e.mem:=by
  funext nm
  cases h1:Y7 (e.mem.map (·.1)) nm with
  | false=>
   rw [Z26 (m:=e.mem) (m0:=Zz st.mem f.mem) h1]
   rcases Yk st.mem f.mem nm with ⟨k,cs,h3,h4⟩ | ⟨h3,h4⟩
   .rcases Yk (Zz st.mem e.mem) f.mem nm with ⟨k',cs',h5,h6⟩ | ⟨h5,h6⟩
    .have:∀ (m0 m1:Name->Option (List (C U))) (l:List (Name × List (C U))),(∃ x,x∈l/\x.1=nm)->Zz m0 l nm=Zz m1 l nm:=by
      intro m0 m1 l
      induction l with
      | nil=> rintro ⟨x,hx,_⟩;simp at hx
      | cons z l ih=>
       rintro ⟨x,hx,hxe⟩
       obtain ⟨b,cs⟩:=z
       simp only [Zz]
       split
       .try rfl
       .rename_i hne
        rcases QH.1 hx with rfl | hx
        .exact absurd hxe.symm hne
        .exact ih ⟨x,hx,hxe⟩
     exact this _ _ _ ⟨_,QC h3,rfl⟩
    .exact absurd rfl (h5 k _ h3)
   .rcases Yk (Zz st.mem e.mem) f.mem nm with ⟨k',cs',h5,h6⟩ | ⟨h5,h6⟩
    .exact absurd rfl (h3 k' _ h5)
    .rw [h6,h4,Z26 h1]
  | true=>
   have h2':Y7 (f.mem.map (·.1)) nm=false:=Z8L hm nm (Z1a.1 h1)
   rw [Z26 (m:=f.mem) (m0:=Zz st.mem e.mem) h2']
   have:∀ (m0 m1:Name->Option (List (C U))) (l:List (Name × List (C U))),Y7 (l.map (·.1)) nm=true->Zz m0 l nm=Zz m1 l nm:=by
    intro m0 m1 l
    induction l with
    | nil=> intro h;cases h
    | cons z l ih=>
     obtain ⟨b,cs⟩:=z
     intro h
     simp only [Xe,Y7] at h
     simp only [Zz]
     split
     .try rfl
     .rename_i hne
      rw [if_neg (fun e=> hne e.symm)] at h
      exact ih h
   exact this _ _ _ h1
 have hdead:(fun t=> (st.dead t || e.kill.contains t) || f.kill.contains t)=fun t=> (st.dead t || f.kill.contains t) || e.kill.contains t:=by
  funext t
  cases st.dead t <;> cases e.kill.contains t <;> cases f.kill.contains t <;> rfl
 have hn:∀ (s:FSt U) d v,(s.put d v).n=s.n/\(s.put d v).mem=s.mem/\(s.put d v).dead=s.dead:=by
  intro s d v;cases d <;> exact ⟨rfl,rfl,rfl⟩
 have henv:(((st.put x.dst (e.val.getD .junk))).put y.dst (f.val.getD .junk)).env=((st.put y.dst (f.val.getD .junk)).put x.dst (e.val.getD .junk)).env:=by rw [hput]
 have hpe:∀ (s s':FSt U) d v,s.env=s'.env->(s.put d v).env=(s'.put d v).env:=by
  intro s s' d v he;cases d <;> simp [FSt.put,he]
 have hls:Ye (Ye st.ls e) f=Ye (Ye st.ls f) e:=by
  funext t
  by_cases h1:t∈e.kill++e.ls.map (·.1)
  .have h2:=Z6Q hl t h1
   rw [Z1y h2]
   unfold Ye
   cases he:e.kill.contains t with
   | true=> rfl
   | false=>
    simp only [cond_false]
    have h3:t∈e.ls.map (·.1):=by
     rcases QA.1 h1 with h | h
     .have:e.kill.contains t=true:=by simpa using h
      rw [he] at this;cases this
     .exact h
    have:∀ (m0 m1:Tok->Option (LC U)) (l:List (Tok × LC U)),t∈l.map (·.1)->Z7 m0 l t=Z7 m1 l t:=by
     intro m0 m1 l
     induction l with
     | nil=> intro h;cases h
     | cons z l ih=>
      obtain ⟨b,y⟩:=z
      intro h
      simp only [Z7]
      split
      .try rfl
      .rename_i hne
       simp only [Xe,QH] at h
       exact ih (h.resolve_left hne)
    exact this _ _ _ h3
  .rw [Z1y (m:=Ye st.ls f) h1]
   have:∀ (m0 m1:Tok->Option (LC U)) (l:List (Tok × LC U)),m0 t=m1 t->Z7 m0 l t=Z7 m1 l t:=by
    intro m0 m1 l he
    induction l with
    | nil=> exact he
    | cons z l ih=>
     obtain ⟨b,y⟩:=z
     simp only [Z7]
     split
     .try rfl
     .exact ih
   have h3:Ye st.ls e t=st.ls t:=Z1y h1
   unfold Ye at h3 ⊢
   cases hf:f.kill.contains t with
   | true=> rfl
   | false=> simp only [cond_false];exact this _ _ _ h3
 have ext:∀ {s s':FSt U},s.n=s'.n->s.env=s'.env->s.mem=s'.mem->s.dead=s'.dead->s.ls=s'.ls->s.mu=s'.mu->s.vw=s'.vw->s=s':=by
  intro s s' h1 h2 h3 h4;cases s;cases s';simp_all
 refine ext ?_ ?_ ?_ ?_ hls ?_ (by cases x.dst <;> cases y.dst <;> rfl)
 .cases x.dst <;> cases y.dst <;> rfl
 .show ((st.app x.dst e).put y.dst _).env=((st.app y.dst f).put x.dst _).env
  rw [hpe (st.app x.dst e) (st.put x.dst (e.val.getD .junk)) y.dst _ rfl,henv,hpe (st.app y.dst f) (st.put y.dst (f.val.getD .junk)) x.dst _ rfl]
 .show Zz (st.app x.dst e).mem f.mem=Zz (st.app y.dst f).mem e.mem
  exact hmem
 .exact hdead
 .cases x.dst <;> cases y.dst <;> rfl
def arC:Option (AV U)->Option (U.Ty × AState × Nat)
 | some A=> some (A.T,A.S,A.v)
 | none=> none
theorem Z8A{o:Oper}{ops:Array Oper}{st st':FSt U}(h:∀ t,t∈o.looksAt ops->st'.env t=st.env t){x:Operand}(hx:x∈o.op.operands.toList):st'.strip.opnd x=st.strip.opnd x:=by
 cases x with
 | tmp t=> simp [FSt.opnd,FSt.strip,h t (QD _ (Xj.2 ⟨.tmp t,hx,rfl⟩))]
 | _=> rfl
theorem Z3t{o:Oper}{ops:Array Oper}{st st':FSt U}(h:∀ t,t∈o.looksAt ops->st'.env t=st.env t):Z1N o st'=Z1N o st:=by
 have hop:=fun {x:Operand} (hx:x∈o.op.operands.toList)=> Z8A h hx
 unfold Z1N
 cases o.guard with
 | some _=> rfl
 | none=>
  obtain ⟨dst,op,type,pos,after,guard⟩:=o
  cases op <;> simp only
  case fieldAddr t x f=> rw [hop (by simp [Op.operands])]
  case load t x=> rw [hop (by simp [Op.operands])]
  case nilCheck x=> rw [hop (by simp [Op.operands])]
theorem Z6J{o:Oper}{ops:Array Oper}{st st':FSt U}(h:∀ t,t∈o.looksAt ops->st'.env t=st.env t):Z2Z o st'=Z2Z o st:=by
 have hop:=fun {x:Operand} (hx:x∈o.op.operands.toList)=> Z8A h hx
 unfold Z2Z
 cases o.guard with
 | some _=> rfl
 | none=>
  obtain ⟨dst,op,type,pos,after,guard⟩:=o
  cases op <;> simp only
  case call c=>
   split
   .rename_i x y hc ha
    rw [hop (x:=x) (by simp [Op.operands,Call.operands,hc,ha])]
   .try rfl
theorem Zku{Γ:Known U}{o:Oper}{st:FSt U}{l:Tok->Option (LC U)}(hc:Z1N o st=true)(ha:arC (({ st with ls:=l }:FSt U).ar cfg)=arC (st.ar cfg)):
  aop cfg Γ o ({ st with ls:=l }:FSt U).strip=aop cfg Γ o st.strip:=by
 have e1:∀ x,({ st with ls:=l }:FSt U).strip.opnd x=st.strip.opnd x:=fun x=> by cases x <;> rfl
 have e2:({ st with ls:=l }:FSt U).strip.ar cfg=({ st with ls:=l }:FSt U).ar cfg:=rfl
 have e3:st.strip.ar cfg=st.ar cfg:=rfl
 unfold Z1N at hc
 obtain ⟨dst,op,type,pos,after,guard⟩:=o
 cases guard with
 | some _=> cases hc
 | none=>
  cases op <;> simp only at hc <;> try (cases hc;done)
  case fieldAddr t x f=>
   simp only [aop,e1,e2,e3]
   generalize ({ st with ls:=l }:FSt U).ar cfg=A' at*
   generalize st.ar cfg=A at*
   cases hx:st.strip.opnd x with
   | none=> rfl
   | some v=>
    rw [hx] at hc
    cases v with
    | c c=>
     cases c <;> try (cases hc;done)
     case mref u=>
      cases u <;> try (cases hc;done)
      cases cfg.fld t f with
      | none=> rfl
      | some z=>
       obtain ⟨off,ft⟩:=z
       cases A with
       | none=> cases A' with
        | none=> rfl
        | some B'=> cases ha
       | some B=> cases A' with
        | none=> cases ha
        | some B'=>
         cases B;cases B'
         simp only [arC,Option.some.injEq,Prod.mk.injEq] at ha
         obtain ⟨rfl,rfl,rfl⟩:=ha
         simp only
         rcases cfg.var ft with _ | ⟨_,_ | ⟨_,_ | _⟩⟩ <;> rfl
    | ar n k=>
     cases cfg.fld t f with
     | none=> rfl
     | some z=> rfl
    | _=> cases hc
  case load t x=>
   simp only [aop,e1,e2,e3]
   generalize ({ st with ls:=l }:FSt U).ar cfg=A' at*
   generalize st.ar cfg=A at*
   cases cfg.var t with
   | none=> rfl
   | some z=>
   obtain ⟨ag,zs⟩:=z
   cases hx:st.strip.opnd x with
   | none=> rfl
   | some v=>
    rw [hx] at hc
    cases v with
    | c c=> cases c <;> first | rfl | (cases hc;done)
    | ar n k=>
     cases ag
     .simp only
      cases A with
      | none=> cases A' with
       | none=> rfl
       | some B'=> cases ha
      | some B=> cases A' with
       | none=> cases ha
       | some B'=>
        simp only [arC,Option.some.injEq,Prod.mk.injEq] at ha
        have:Z4H B' n zs k=Z4H B n zs k:=by
         unfold Z4H
         rw [ha.2.1,ha.2.2]
        simp only [this]
     .try rfl
    | _=> cases hc
  case nilCheck x=>
   simp only [aop,e1,e2,e3]
   generalize ({ st with ls:=l }:FSt U).ar cfg=A' at*
   generalize st.ar cfg=A at*
   cases hx:st.strip.opnd x with
   | none=> rfl
   | some v=>
    rw [hx] at hc
    cases v with
    | c c=>
     cases c <;> try (cases hc;done)
     case mref t=>
      cases t <;> try (cases hc;done)
      simp only
      cases A with
      | none=> cases A' with
       | none=> rfl
       | some B'=> cases ha
      | some B=> cases A' with
       | none=> cases ha
       | some B'=> rfl
    | ar n k=> rfl
    | _=> cases hc
theorem Ze6{Γ:Known U}{ops:Array Oper}{o:Oper}{st:FSt U}{l:Tok->Option (LC U)}(hc:Z1N o st=true)(ha:arC (({ st with ls:=l }:FSt U).ar cfg)=arC (st.ar cfg)):
  JK cfg Γ ops o ({ st with ls:=l }:FSt U)=JK cfg Γ ops o st:=by
 have h:=Zku (Γ:=Γ) hc ha
 have hg:o.guard=none:=by
  unfold Z1N at hc
  cases hg:o.guard with
  | none=> rfl
  | some _=> rw [hg] at hc;cases hc
 have hn:∀ G (xs:List Operand),YF ({ st with ls:=l }:FSt U) G xs=YF st G xs:=by
  intro G xs
  induction xs with
  | nil=> rfl
  | cons x xs ih=> cases x <;> simp only [YF,ih]
 obtain ⟨dst,op,type,pos,after,guard⟩:=o
 cases hg
 unfold JK Z0u
 simp only [h,hn]
 cases op <;> first | rfl | (cases hc;done)
theorem ZbC{A:AV U}{n:Nat}{same:Bool}{k:AK}{y:V U}{ps:List Prop}{e:Eff U}(h:Z11 cfg A n same k y=some (ps,e)):∃ S' val,YG cfg A.T [A.S,S'] A.v val=some e:=by
 unfold Z11 at h
 split at h
 .split at h
  .split at h
   .simp only [XT,Prod.mk.injEq] at h
    obtain ⟨e',h1,_,rfl⟩:=h
    exact ⟨_,_,h1⟩
   .cases h
  .split at h
   .rw [cond_eq_ite] at h
    split at h
    .simp only [XT,Prod.mk.injEq] at h
     obtain ⟨e',h1,_,rfl⟩:=h
     exact ⟨_,_,h1⟩
    .cases h
   .cases h
  .cases h
 .split at h
  .simp only [XT,Prod.mk.injEq] at h
   obtain ⟨e',h1,_,rfl⟩:=h
   exact ⟨_,_,h1⟩
  .cases h
 .cases h
theorem ZpH{A:AV U}(h:st.ar cfg=some A):∃ f,cfg.aT A.T=some f/\∃ y:U.El A.T,f y=A.S:=by
 unfold FSt.ar at h
 split at h
 .split at h
  .split at h
   .cases h;exact ⟨_,by assumption,_,rfl⟩
   .cases h;exact ⟨_,by assumption,_,rfl⟩
   .cases h
  .cases h
 .cases h
theorem Zia(ok:CfgOk P cfg){Γ:Known U}{ops:Array Oper}{o:Oper}{ps:List Prop}{e:Eff U}(hp:Z2Z o st=true)(h:JK cfg Γ ops o st=some (ps,e)):
  e.mem=[]/\e.kill=[]/\∀ l,(l .A=Ye st.ls e .A)->arC (({ st with ls:=l }:FSt U).ar cfg)=arC (st.ar cfg):=by
 unfold Z2Z at hp
 obtain ⟨dst,op,type,pos,after,guard⟩:=o
 cases guard with
 | some _=> cases hp
 | none=>
  cases op <;> simp only at hp <;> try (cases hp;done)
  case call c=>
   split at hp
   case h_2=> cases hp
   rename_i x y hc ha
   have hx:∃ n k,st.strip.opnd x=some (.ar n k):=by
    split at hp
    .rename_i n k hx;exact ⟨n,k,hx⟩
    .cases hp
   obtain ⟨n,k,hx⟩:=hx
   unfold JK Z0u at h
   split at h
   case isFalse=> cases h
   simp only [aop,Z7v,hc,ha] at h
   split at h
   case h_1=> cases h
   rename_i ps' e' he
   simp only [Option.some.injEq,Prod.mk.injEq] at h
   obtain ⟨_,rfl⟩:=h
   unfold Z5A at he
   split at he
   case h_2=>
    rename_i q1 q2 q3
    cases q2
    split at he
    case h_1=>
     rename_i r2 r3 _
     rw [hx] at r2
     cases r2
     split at he
     case h_2=> cases he
     rename_i A T hA hT
     have hA:st.ar cfg=some A:=hA
     have key:∀ {same:Bool} {y:V U},Z11 cfg A n same k y=some (ps',e')->e'.mem=[]/\e'.kill=[]/\∀ l,(l .A=Ye st.ls e' .A)->arC (({ st with ls:=l }:FSt U).ar cfg)=arC (st.ar cfg):=by
      intro same y hr
      obtain ⟨S',val,h1⟩:=ZbC hr
      obtain ⟨f,hf,hy⟩:=ZpH hA
      obtain ⟨l',rfl,h2⟩:=J7 ok hf h1
      refine ⟨rfl,rfl,fun l hl=> ?_⟩
      rw [hA]
      match l',h2,hl with
      | [],h2,_=> cases h2
      | [_],h2,_=> simp at h2
      | _ ::_ ::_ ::_,h2,_=> simp at h2
      | [y1,y2],h2,hl=>
       simp only [Xe,List.map_nil,List.cons.injEq] at h2
       have hl2:l .A=some ⟨A.T,[y1,y2],A.v⟩:=hl
       have:({ st with ls:=l }:FSt U).ar cfg=some ⟨A.T,f y1,some (f y2),A.v⟩:=by
        unfold FSt.ar
        simp only [hl2,hf]
       rw [this]
       simp only [arC,h2.1]
     split at he
     .exact key he
     .exact key he
     .cases he
    all_goals first | (cases he;done) | (exfalso;simp_all;done)
   all_goals first | (rename_i q1 q2 q3;cases q2;done) | (rename_i q1 q2 q3;cases q1;done) | (cases he;done)
theorem Znq{st st':FSt U}(h:st'.ls .A=st.ls .A):st'.ar cfg=st.ar cfg:=by
 unfold FSt.ar
 rw [h]
theorem ZcK(ok:CfgOk P cfg){Γ:Known U}{ops:Array Oper}{x y:Oper}{ps:List Prop}{e:Eff U}(hx:JK cfg Γ ops x st=some (ps,e))(hp:Z2Z x st=true)(hc:Z1N y st=true)(a1:x.apart ops y=true):
  JK cfg Γ ops y (st.app x.dst e)=JK cfg Γ ops y st:=by
 obtain ⟨hm,hk,ha⟩:=Zia ok hp hx
 have A:Alike Γ y ops st (st.app x.dst { e with ls:=[] }):=by
  refine Z6m a1 ?_ ?_ ?_ ?_ ?_
  .simp [hm,Zck]
  .simp [hk]
  .simp [hk,Z6R]
  .simp [hk,noR]
  .simp [hk]
 have S:st.app x.dst e={ st.app x.dst { e with ls:=[] } with ls:=Ye st.ls e }:=by
  cases x.dst <;> rfl
 have hl:(st.app x.dst { e with ls:=[] }).ls .A=st.ls .A:=by
  simp [FSt.app,Ye,hk,Z7]
 rw [S,Ze6 (by rw [Z3t A.env];exact hc) ?_,Z3w A]
 rw [Znq hl,<-ha (Ye st.ls e) rfl]
 exact congrArg arC (Znq rfl)
end Go.AM
