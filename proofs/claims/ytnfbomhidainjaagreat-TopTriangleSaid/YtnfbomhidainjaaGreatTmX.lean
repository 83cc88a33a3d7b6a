import Derived.Test.YtnfbomhidainjaaGreatTmL
import Derived.Still
import Derived.Carry
import Derived.SizedLaws
import Derived.ChangeSame
set_option linter.unusedSimpArgs false
set_option linter.unusedVariables false
namespace Go.AM
variable {U:Uni} {P:Program} {cfg:Cfg U} {B:Base} {st:FSt U} {g:Gh} {a:Act} {w:World}
def Z1G(o:Oper):Bool:=
 match o.op with
 | .call c=> match c.callee with
  | .builtin .len=> false
  | _=> true
 | .makeSlice _ _ _=> true
 | .buildSlice _ _ parts=> Z5f parts.toList
 | _=> false
structure Fp where
 touch:List Name
 writes:List Name
 kills:Bool
 touchT:List Tok
 writesT:List Tok
 allT:Bool
def JW(Γ:Known U)(o:Oper)(st:FSt U):Bool:=
 match o.op with
 | .call c=> match c.callee with
  | .value g=> match st.strip.opnd g with
   | some (.fn f)=> Z6A Γ (some (.fn f))
   | some (.clo f _)=> Z6A Γ (some (.fn f))
   | some (.kv _)=> true
   | _=> false
  | .invoke _ _=> true
  | _=> false
 | _=> false
def ZrZ(Γ:Known U)(o:Oper)(st:FSt U)(e:Eff U):Fp:={ allT:=JW Γ o st,touch:=touch o st,writes:=e.mem.map (·.1),kills:= !e.kill.isEmpty,touchT:=touchT o st,writesT:=e.kill++e.ls.map (·.1) }
def ZjD(l:List Tok)(t:Tok):Bool:=
 match l with
 | []=> false
 | a ::r=> if a=t then true else ZjD r t
def ZeQ(a b:List Tok):Bool:=a.any fun x=> ZjD b x
def noR(d:Nat)(a:List Tok):Bool:=a.all fun t=> match t with
 | .r d' _=> !Nat.beq d' d
 | _=> true
def Zn4(a b:List Name):Bool:=a.any fun x=> Jh b x
def ZiO(ops:Array Oper)(x y:Oper)(a b:Fp):Bool:=
 x.apart ops y && y.apart ops x && !Zn4 a.writes b.touch && !Zn4 b.writes a.touch && !Zn4 a.writes b.writes && !(a.kills && Z1G y) && !(b.kills && Z1G x) &&
  !ZeQ a.writesT b.touchT && !ZeQ b.writesT a.touchT && !ZeQ a.writesT b.writesT && noR (y.dst.getD 0) a.writesT && noR (x.dst.getD 0) b.writesT &&
  (a.writesT.isEmpty || !b.allT) && (b.writesT.isEmpty || !a.allT)
structure Alike (Γ:Known U) (o:Oper) (ops:Array Oper) (st st':FSt U):Prop where
 n:st'.n=st.n
 env:∀ t,t∈o.looksAt ops->st'.env t=st.env t
 mem:∀ nm,nm∈touch o st->st'.mem nm=st.mem nm
 dead:Z1G o=true->st'.dead=st.dead
 mu:st'.mu=st.mu
 vw:st'.vw=st.vw
 ls:∀ t,t∈touchT o st->st'.ls t=st.ls t
 fr:∀ j,st'.ls (.r (o.dst.getD 0) j)=st.ls (.r (o.dst.getD 0) j)
 frd:∀ j,st'.dead (.r (o.dst.getD 0) j)=st.dead (.r (o.dst.getD 0) j)
 all:JW Γ o st=true->st'.ls=st.ls
theorem Alike.tok{o:Oper}{ops:Array Oper}{Γ:Known U}{st st':FSt U}(h:Alike Γ o ops st st'){x:Operand}(hx:x∈Z0l o){v:V U}(hv:st.strip.opnd x=some v){t:Tok}(ht:t∈v.toks):st'.ls t=st.ls t:=
 h.ls t (Kc.2 ⟨x,hx,by grind⟩)
theorem Z53{st st':FSt U}{d:Nat}(hd:st'.dead=st.dead)(hf:∀ j,st'.ls (.r d j)=st.ls (.r d j)):∀ (L:List (Tok × LC U)),YT st' d L=YT st d L
 | []=> rfl
 | (t,x) ::L=> by
  simp only [YT,Z53 hd hf L]
  cases hb:ZP d t with
  | none=> rfl
  | some t'=>
   have e:∃ j,t'= .r d j:=by
    unfold ZP at hb
    split at hb
    .grind
    .grind
    .cases hb
   grind
theorem Alike.opnd{o:Oper}{ops:Array Oper}{Γ:Known U}{st st':FSt U}(h:Alike Γ o ops st st'){x:Operand}(hx:x∈o.op.operands.toList):st'.opnd x=st.opnd x/\st'.strip.opnd x=st.strip.opnd x:=by
 cases x with
 | tmp t=>
  have d:t∈o.looksAt ops:=QL _ (Xu.2 ⟨.tmp t,hx,rfl⟩)
  have:=h.env t d
  exact ⟨by simp [FSt.opnd,this],by simp [FSt.opnd,FSt.strip,this]⟩
 | const c=> trivial
 | global g=> trivial
 | func f=> trivial
theorem Zu9{st st':FSt U}{p:V U}{ag:Bool}{n:Nat}(h:∀ nm,nm∈Zu (some p)->st'.mem nm=st.mem nm):rd st' p ag n=rd st p ag n:=by
 cases p <;> simp only [rd]
 case ptr nm off=> rw [h nm (by simp [Zu])]
 case ap nm off k len i=> rw [h nm (by simp [Zu])]
theorem Z2Q{st st':FSt U}(hd:st'.dead=st.dead)(ps:Nat->Bool):∀ (xs:List (V U)) (i:Nat) (os:List (Name × List (C U))) (d:List (Tok × Tok)),
  (∀ x,x∈xs->∀ nm,nm∈Zu (some x)->st'.mem nm=st.mem nm)->Y5 st' ps i xs os d=Y5 st ps i xs os d
 | [],i,os,d,_=> rfl
 | x ::xs,i,os,d,h=> by
  have ih:=fun i os d=> Z2Q hd ps xs i os d (fun y hy=> h y (by simp [hy]))
  simp only [Y5,hd,ih]
  cases hp:ZmD x with
  | none=> rfl
  | some nm=>
   have e:st'.mem nm.1=st.mem nm.1:=by
    refine h x (by simp) nm.1 ?_
    cases x <;> simp only [ZmD,reduceCtorEq] at hp
    .cases hp;simp [Zu]
    .split at hp
     .grind
     .rename_i aa;cases aa;cases hp;simp [Zu]
     .grind
     .cases hp
    .cases hp;simp [Zu]
   simp only [e]
theorem Z2A{l:List Name}{nm:Name}(h:nm∈l):nm∈Z8l l:=by
 cases l with
 | nil=> cases h
 | cons a l=> exact QL _ h
theorem Zjs{l:List Name}{k:Nat}(hk:k < 8)(hl:l≠[]):Name.x k∈Z8l l:=by
 cases l with
 | nil=> grind
 | cons a l=>
  refine X5 _ ?_
  grind
theorem Zbb:∀ {cs:List (C U)} {hv:List Name} {nm:Name},nm∈ZgW cs hv->nm∈hv\/∃ k,k < 8/\nm= .x k
 | [],hv,nm,h=> .inl h
 | c ::cs,hv,nm,h=> by
  cases c with
  | xp k=>
   simp only [ZgW] at h
   rcases Zbb h with h | h
   .split at h
    .rename_i hc
     rw [Q2] at hc
     rcases Qj.1 h with h | h
     .exact .inl h
     .exact .inr ⟨k,by simpa using hc.1,by simpa using h⟩
    .exact .inl h
   .exact .inr h
  | _=> exact Zbb (by simpa only [ZgW] using h)
theorem Z6T{st:FSt U}:∀ {l hv:List Name} {nm:Name},nm∈Z3t st l hv->nm∈hv\/(l≠[]/\∃ k,k < 8/\nm= .x k)
 | [],hv,nm,h=> .inl h
 | a ::l,hv,nm,h=> by
  simp only [Z3t] at h
  rcases Z6T h with h | ⟨_,h⟩
  .split at h
   .rcases Zbb h with h | h
    .exact .inl h
    .exact .inr ⟨by simp,h⟩
   .exact .inl h
  .exact .inr ⟨by simp,h⟩
theorem Z69{st st':FSt U}:∀ {l hv:List Name},(∀ nm∈l,st'.mem nm=st.mem nm)->Z3t st' l hv=Z3t st l hv
 | [],hv,_=> rfl
 | a ::l,hv,h=> by
  simp only [Z3t,h a (by simp)]
  exact Z69 fun nm d=> h nm (by simp [d])
theorem Jl:∀ {vs:List (V U)} {nm:Name},nm∈Jm vs->∃ x∈vs,nm∈Zu (some x)
 | [],nm,h=> by cases h
 | v ::vs,nm,h=> by
  simp only [Jm] at h
  split at h
  .rename_i n mk d
   rcases Q9.1 h with rfl | h
   .refine ⟨v,by simp,?_⟩
    cases v <;> simp only [ZmD,reduceCtorEq] at d
    .cases d;simp [Zu]
    .split at d
     .grind
     .rename_i aa;cases aa;cases d;simp [Zu]
     .grind
     .cases d
    .cases d;simp [Zu]
   .obtain ⟨x,h1,h2⟩:=Jl h
    grind
  .obtain ⟨x,h1,h2⟩:=Jl h
   grind
theorem Z1i{st:FSt U}{ps:Nat->Bool}:∀ {xs:List (V U)} {i:Nat} {os:List (Name × List (C U))} {seen:List (Tok × Tok)} {ys:List (V U)} {os':List (Name × List (C U))} {seen':List (Tok × Tok)},
  Y5 st ps i xs os seen=some (ys,os',seen')->os'.map (·.1)=os.map (·.1)++Jm xs
 | [],i,os,seen,ys,os',seen',h=> by
  simp only [Y5,oP] at h
  obtain ⟨_,rfl,_⟩:=h
  simp [Jm]
 | x ::xs,i,os,seen,ys,os',seen',h=> by
  simp only [Y5] at h
  split at h
  .rename_i nm mk hp
   split at h
   .cases h
   split at h
   .cases h
   split at h
   .rename_i d
    simp only [oP] at h
    obtain ⟨_,rfl,_⟩:=h
    have:=Z1i d
    simp only [Jm,hp]
    grind
   .cases h
  .rename_i hp
   split at h
   .cases h
   split at h
   .rename_i d
    simp only [oP] at h
    obtain ⟨_,rfl,_⟩:=h
    have:=Z1i d
    simp only [Jm,hp]
    exact this
   .cases h
theorem Znj{st:FSt U}{l:List Name}{nm:Name}(h:nm∈Z8c st l):nm∈l\/(l≠[]/\∃ k,k < 8/\nm= .x k):=by
 rcases Z6T h with h | ⟨h0,h⟩
 .exact Z6T h
 .refine .inr ⟨fun e=> ?_,h⟩
  subst e
  exact h0 rfl
theorem Z9y{st st':FSt U}{l base:List Name}(hl:∀ nm∈l,nm∈base)(hm:∀ nm∈Z8l base,st'.mem nm=st.mem nm):Z8c st' l=Z8c st l:=by
 have e:Z3t st' l l=Z3t st l l:=Z69 fun nm d=> hm nm (Z2A (hl nm d))
 unfold Z8c
 rw [e]
 refine Z69 fun nm d=> ?_
 rcases Z6T d with h | ⟨h0,k,hk,rfl⟩
 .exact hm nm (Z2A (hl nm h))
 .refine hm _ (Zjs hk fun e=> ?_)
  subst e
  cases l with
  | nil=> exact h0 rfl
  | cons a r=> have:=hl a (by simp);cases this
theorem Zcv{st:FSt U}{vs:List (V U)}{base:List Name}(hs:∀ x∈vs,∀ nm∈Zu (some x),nm∈base):∀ x∈vs++JJ st vs,∀ nm∈Zu (some x),nm∈Z8l base:=by
 intro x d nm hn
 rcases Qj.1 d with d | d
 .exact Z2A (hs x d nm hn)
 .unfold JJ at d
  obtain ⟨n,h1,rfl⟩:=Xo.1 d
  simp only [Zu,Q7] at hn
  subst hn
  rcases Znj (Qm h1) with h2 | ⟨h2,k,hk,rfl⟩
  .obtain ⟨y,h3,h4⟩:=Jl h2
   exact Z2A (hs y h3 _ h4)
  .refine Zjs hk fun e=> ?_
   cases ha:Jm vs with
   | nil=> exact h2 ha
   | cons b l=>
    obtain ⟨y,h3,h4⟩:=Jl (show b∈Jm vs by rw [ha];simp)
    grind
theorem Z2c {Γ:Known U} {st st':FSt U} {d:Nat} {f:FuncId} {vs:List (V U)} {base:List Name} (hd:st'.dead=st.dead) (hs:∀ x∈vs,∀ nm∈Zu (some x),nm∈base) (hm:∀ nm∈Z8l base,st'.mem nm=st.mem nm)
  (hB:∀ L,YT st' d L=YT st d L) (hW:∀ s,Γ.fn f=some s->∀ toks c,(bif s.wr then J9 st'.ls toks c else [])=(bif s.wr then J9 st.ls toks c else []:List (Tok × LC U))):Z3C Γ st' d f vs=Z3C Γ st d f vs:=by
 unfold Z3C
 cases hG:Γ.fn f with
 | none=> rfl
 | some s=>
  have hx:JJ st' vs=JJ st vs:=by
   unfold JJ
   rw [Z9y (base:=base) ?_ hm]
   intro nm hn
   obtain ⟨x,h1,h2⟩:=Jl hn
   exact hs x h1 nm h2
  have hn:=Zcv (st:=st) hs
  simp only [hB,hW s hG,hx]
  rw [Z2Q (st:=st) (st':=st') hd _ _ _ _ _ (fun x aa nm ah=> hm nm (hn x aa nm ah))]
  cases hp:Y5 st s.pass 0 (vs++JJ st vs) [] [] with
  | none=> rfl
  | some r=>
   obtain ⟨ys,os,toks⟩:=r
   have e:(os.map fun x=> Z8f st' os (x.2,x.1))=os.map fun x=> Z8f st os (x.2,x.1):=by
    apply List.map_congr_left
    intro x aa
    have h1:x.1∈os.map (·.1):=Xo.2 ⟨x,aa,rfl⟩
    rw [Z1i hp] at h1
    obtain ⟨y,h2,h3⟩:=Jl (show x.1∈Jm (vs++JJ st vs) by simpa using h1)
    simp only [Z8f,hm _ (hn y h2 _ h3)]
   simp only [e]
theorem Zjp {Γ:Known U} {st st':FSt U} {d:Nat} {f:FuncId} {nm0:Name} {vs:List (V U)} {base:List Name} (hd:st'.dead=st.dead) (hs:∀ x∈V.ptr nm0 0 ::vs,∀ nm∈Zu (some x),nm∈base) (hm:∀ nm∈Z8l base,st'.mem nm=st.mem nm)
  (hB:∀ L,YT st' d L=YT st d L) (hW:∀ s,Γ.fn f=some s->∀ toks c,(bif s.wr then J9 st'.ls toks c else [])=(bif s.wr then J9 st.ls toks c else []:List (Tok × LC U))):Z5q Γ st' d f nm0 vs=Z5q Γ st d f nm0 vs:=by
 unfold Z5q
 cases hG:Γ.fn f with
 | none=> rfl
 | some s=>
  have hx:JJ st' (.ptr nm0 0 ::vs)=JJ st (.ptr nm0 0 ::vs):=by
   unfold JJ
   rw [Z9y (base:=base) ?_ hm]
   intro nm hn
   obtain ⟨x,h1,h2⟩:=Jl hn
   exact hs x h1 nm h2
  have hn:=Zcv (st:=st) hs
  simp only [hB,hW s hG,hx]
  rw [Z2Q (st:=st) (st':=st') hd _ _ _ _ _ (fun x aa nm ah=> hm nm (hn x aa nm ah))]
  cases hp:Y5 st s.pass 0 (.ptr nm0 0 ::vs++JJ st (.ptr nm0 0 ::vs)) [] [] with
  | none=> rfl
  | some r=>
   obtain ⟨ys,os,toks⟩:=r
   have e:(os.map fun x=> Z8f st' os (x.2,x.1))=os.map fun x=> Z8f st os (x.2,x.1):=by
    apply List.map_congr_left
    intro x aa
    have h1:x.1∈os.map (·.1):=Xo.2 ⟨x,aa,rfl⟩
    rw [Z1i hp] at h1
    obtain ⟨y,h2,h3⟩:=Jl (show x.1∈Jm (.ptr nm0 0 ::vs++JJ st (.ptr nm0 0 ::vs)) by simpa using h1)
    simp only [Z8f,hm _ (hn y h2 _ h3)]
   simp only [e]
theorem Z82{st st':FSt U}{x:Option Operand}(h:∀ y,x=some y->st'.opnd y=st.opnd y):JS st' x=JS st x:=by
 cases x with
 | none=> rfl
 | some y=> simp only [JS,h y rfl]
theorem Z1J{α β:Type}{f f':α->Option β}:∀ {l:List α},(∀ x,x∈l->f' x=f x)->l.mapM f'=l.mapM f
 | [],_=> rfl
 | x ::l,h=> by rw [QP,QP,h x (by simp),Z1J (fun y d=> h y (by simp [d]))]
theorem ZfG{v:Value}{x:V U}(h:Z08 v=some x):Zu (some x)=[]:=by
 unfold Z08 at h
 split at h
 .rename_i cs
  cases hm:cs.toList.mapM (Z05 (U:=U)) <;> simp [hm] at h
  subst h;rfl
 .cases h;rfl
 .cases hm:Z05 (U:=U) v <;> simp [hm] at h
  subst h;rfl
theorem Z9l:∀ {vs:List Value} {us:List (V U)},vs.mapM Z08=some us->∀ (j:Nat) x,us[j]?=some x->∃ v,Z08 v=some x
 | [],us,h,j,x,hx=> by simp at h;subst h;simp at hx
 | v ::vs,us,h,j,x,hx=> by
  rw [QP] at h
  cases h1:Z08 (U:=U) v with
  | none=> simp [h1] at h
  | some y=>
   cases h2:vs.mapM (Z08 (U:=U)) with
   | none=> simp [h1,h2] at h
   | some ys=>
    simp [h1,h2] at h
    subst h
    cases j with
    | zero=> simp at hx;subst hx;exact ⟨v,h1⟩
    | succ j=> exact Z9l h2 j x (by simpa using hx)
theorem Zsj{Γ:Known U}{o:Oper}{ops:Array Oper}{st st':FSt U}(h:Alike Γ o ops st st'):aop cfg Γ o st'.strip=aop cfg Γ o st.strip:=by
 have ab:=fun {x:Operand} (hx:x∈o.op.operands.toList)=> (h.opnd hx).2
 have hm:=h.mem
 have hd:=h.dead
 have ak:=fun {x:Operand} (hx:x∈Z0l o) {v:V U} (hv:st.strip.opnd x=some v) {t:Tok} (ht:t∈v.toks)=> h.tok hx hv ht
 have bb:=h.mu
 have ar:=h.fr
 have au:=h.all
 obtain ⟨ae,op,aw,br,bm,bn⟩:=o
 cases op <;> simp only [aop]
 case move x=> rw [ab (by simp [Op.operands])]
 case assign x=>
  have e2:∀ d,ae=some d->st'.strip.ls (.r d 0)=st.strip.ls (.r d 0):=fun d e=> by have:=ar 0;rw [e] at this;exact this
  have e3:∀ d,ae=some d->st'.strip.dead (.r d 0)=st.strip.dead (.r d 0):=fun d e=> by have:=h.frd 0;rw [e] at this;exact this
  have e:ZuK cfg st'.strip ae aw x=ZuK cfg st.strip ae aw x:=by
   unfold ZuK
   rw [ab (by simp [Op.operands])]
   cases st.strip.opnd x with
   | none=> rfl
   | some v=>
    cases cfg.slT aw with
    | none=> cases v <;> first | rfl | (rename_i y;cases y <;> rfl)
    | some T=>
     cases ae with
     | none=> cases v <;> first | rfl | (rename_i y;cases y <;> rfl)
     | some d=>
      have e2:=e2 d rfl
      have e3:=e3 d rfl
      cases v <;> first | rfl | skip
      rename_i y
      cases y <;> first | rfl | skip
      simp only [e2,e3]
  rw [e,ab (by simp [Op.operands])]
 case alloc t=>
  cases ae with
  | none=> rfl
  | some d=>
   have:st'.strip.mem (.loc d)=st.strip.mem (.loc d):=hm (.loc d) (by simp [touch])
   cases cfg.var t with
   | none=> rfl
   | some z=> simp only [this]
 case box t x=>
  cases ae with
  | none=> rfl
  | some d=>
   have:st'.strip.mem (.loc d)=st.strip.mem (.loc d):=hm (.loc d) (by simp [touch])
   rw [ab (x:=x) (by simp [Op.operands])]
   cases cfg.var t with
   | none=> rfl
   | some z=>
    cases (st.strip.opnd x).bind V.cells with
    | none=> rfl
    | some cs=> simp only [this]
 case build t parts=>
  rw [Z1J (f:=fun x=> ((st.strip.opnd x.2).bind V.cells).map (x.1,·))]
  intro x hx
  rw [ab (by simp only [Op.operands];simp;exact ⟨x.1,by simpa using hx⟩)]
 case buildSlice t n parts=>
  rw [Z1J (f:=fun x=> (st.strip.opnd x.2).map (x.1,·)) (by
   intro x hx
   rw [ab (by simp only [Op.operands];simp;exact ⟨x.1,by simpa using hx⟩)])]
  have aj:st'.strip.mu=st.strip.mu:=bb
  cases hc:Z5f parts.toList with
  | false=> simp only [Bool.and_false,cond_false]
  | true=>
   have e1:st'.strip.dead=st.strip.dead:=hd hc
   cases ae with
   | none=> simp only [Zdg,aj]
   | some d=>
    have e2:st'.strip.ls (.r d 0)=st.strip.ls (.r d 0):=ar 0
    simp only [Zdg,aj,e1,e2]
 case load t p=>
  rw [ab (by simp [Op.operands])]
  cases cfg.var t with
  | none=> rfl
  | some z=>
   cases hp:st.strip.opnd p with
   | none=> rfl
   | some v=>
    have:rd st'.strip v z.1 z.2.length=rd st.strip v z.1 z.2.length:=Zu9 fun nm ah=> hm nm (by simp only [touch];rw [hp];exact ah)
    cases v <;> first | (simp only [this];done) | skip
    case c c=> cases c <;> first | rfl | (simp only [this];done)
    case mp u n off=>
     have:st'.strip.ls u=st.strip.ls u:=ak (x:=p) (by simp [Z0l]) hp (by simp [V.toks])
     simp only [this]
 case store t p x=>
  rw [ab (x:=p) (by simp [Op.operands]),ab (x:=x) (by simp [Op.operands])]
  cases cfg.var t with
  | none=> rfl
  | some z=>
   cases hp:st.strip.opnd p with
   | none=> rfl
   | some v=>
    cases v <;> try rfl
    case mp u n off=>
     have:st'.strip.ls u=st.strip.ls u:=ak (x:=p) (by simp [Z0l]) hp (by simp [V.toks])
     cases (st.strip.opnd x).bind V.cells with
     | none=> rfl
     | some cs=> simp only [this]
    case ptr nm off=>
     have:st'.strip.mem nm=st.strip.mem nm:=hm nm (by simp only [touch];rw [hp];simp [Zu])
     cases (st.strip.opnd x).bind V.cells with
     | none=> rfl
     | some cs=> simp only [this]
    case ap nm off k len n=>
     have:st'.strip.mem nm=st.strip.mem nm:=hm nm (by simp only [touch];rw [hp];simp [Zu])
     cases (st.strip.opnd x).bind V.cells with
     | none=> rfl
     | some cs=>
      match cs with
      | []=> rfl
      | [c]=> cases c <;> first | rfl | simp only [this]
      | c ::_ ::_=> cases c <;> rfl
 case nilCheck x=>
  rw [ab (by simp [Op.operands])]
  cases hp:st.strip.opnd x with
  | none=> rfl
  | some v=>
   cases v <;> try rfl
   case c c=> cases c <;> rfl
   case mp u n off=>
    have:st'.strip.ls u=st.strip.ls u:=ak (x:=x) (by simp [Z0l]) hp (by simp [V.toks])
    simp only [this]
 case binOp bop t x y t'=> rw [ab (x:=x) (by simp [Op.operands]),ab (x:=y) (by simp [Op.operands])]
 case unOp uop t x=> rw [ab (by simp [Op.operands])]
 case convert src dst' x=> rw [ab (by simp [Op.operands])]
 case makeSlice t n m=>
  rw [ab (x:=n) (by simp [Op.operands]),ab (x:=m) (by simp [Op.operands])]
  have aj:st'.strip.mu=st.strip.mu:=bb
  have e1:st'.strip.dead=st.strip.dead:=hd rfl
  cases ae with
  | none=> simp only [Zjm,aj]
  | some d=>
   have e2:st'.strip.ls (.r d 0)=st.strip.ls (.r d 0):=ar 0
   simp only [Zjm,aj,e1,e2]
 case slice t x lo hi mx=>
  rw [ab (x:=x) (by simp [Op.operands]),Z82 (x:=lo) (fun y hy=> ab (by simp [Op.operands,hy])),Z82 (x:=hi) (fun y hy=> ab (by simp [Op.operands,hy])),Z82 (x:=mx) (fun y hy=> ab (by simp [Op.operands,hy]))]
  cases hp:st.strip.opnd x with
  | none=> rfl
  | some v=>
   cases v
   case ptr nm off=>
    have:st'.strip.mem nm=st.strip.mem nm:=hm nm (by simp only [touch];rw [hp];simp [Zu])
    cases JS st.strip lo with
    | none=> rfl
    | some a=>
     cases JS st.strip hi with
     | none=> cases a <;> rfl
     | some b=>
      cases JS st.strip mx with
      | none=> cases a <;> cases b <;> rfl
      | some c=> cases a <;> cases b <;> cases c <;> first | rfl | simp only [this]
   case c c=>
    have bj:st'.strip.vw=st.strip.vw:=h.vw
    cases c
    case mref u=>
     have:st'.strip.ls u=st.strip.ls u:=ak (x:=x) (by simp [Z0l]) hp (by simp [V.toks])
     rcases JS st.strip lo with _ | _ | v
     case some.none=>
      have e2:st'.strip.ls (.r (ae.getD 0) 0)=st.strip.ls (.r (ae.getD 0) 0):=ar 0
      have e3:st'.strip.dead (.r (ae.getD 0) 0)=st.strip.dead (.r (ae.getD 0) 0):=h.frd 0
      rcases JS st.strip hi with _ | _ | v
      case some.some=>
       cases v
       case c c=>
        cases c
        case int k b=>
         rcases JS st.strip mx with _ | _ | _
         .try rfl
         .simp only [this]
          cases cfg.slT t with
          | none=> rfl
          | some S=>
           cases st.strip.ls u with
           | none=> rfl
           | some y=>
            cases ae with
            | none=> rfl
            | some d=>
             have e2:st'.strip.ls (.r d 0)=st.strip.ls (.r d 0):=e2
             have e3:st'.strip.dead (.r d 0)=st.strip.dead (.r d 0):=e3
             simp only [bj,e2,e3]
         .try rfl
        all_goals (rcases JS st.strip mx with _ | _ | _ <;> rfl)
       all_goals (cases JS st.strip mx <;> rfl)
      all_goals (cases JS st.strip mx <;> rfl)
     case some.some=>
      cases v
      case c c=> cases c <;> rcases JS st.strip hi with _ | _ | _ <;> rcases JS st.strip mx with _ | _ | _ <;> first | rfl | simp only [this,bj]
      all_goals (cases JS st.strip hi <;> cases JS st.strip mx <;> rfl)
     all_goals (cases JS st.strip hi <;> cases JS st.strip mx <;> rfl)
    all_goals (cases JS st.strip lo <;> cases JS st.strip hi <;> cases JS st.strip mx <;> rfl)
   all_goals (cases JS st.strip lo <;> cases JS st.strip hi <;> cases JS st.strip mx <;> rfl)
 case fieldAddr t x f=>
  rw [ab (by simp [Op.operands])]
  cases hp:st.strip.opnd x with
  | none=> rfl
  | some v=>
   cases cfg.fld t f with
   | none=> cases v with
    | c c=> cases c <;> rfl
    | _=> rfl
   | some z=>
    cases v <;> try rfl
    case c c=> cases c <;> rfl
    case mp u n off=>
     have:st'.strip.ls u=st.strip.ls u:=ak (x:=x) (by simp [Z0l]) hp (by simp [V.toks])
     simp only [this]
 case makeFunc f first caps=>
  rw [Z1J (f:=fun x=> (st.strip.opnd x).bind Zie)]
  .cases f <;> try rfl
   case func f=>
    cases List.mapM (fun x=> (st.strip.opnd x).bind Zie) caps.toList with
    | none=> cases first.toList with
     | nil=> rfl
     | cons _ l=> cases l <;> rfl
    | some nms=>
     cases hfi:first.toList with
     | nil=> rfl
     | cons x l=>
      cases l with
      | cons y l=> cases nms <;> rfl
      | nil=>
       cases nms with
       | cons _ _=> rfl
       | nil=>
        simp only
        rw [ab (x:=x) (by
         have a7:first=#[x]:=by apply QM;simpa using hfi
         simp [Op.operands,a7])]
  intro x hx
  rw [ab (by simp only [Op.operands];simp;right;simpa using hx)]
 case makeInterface t x=> rw [ab (by simp [Op.operands])]
 case typeAssert x xt t ck=> rw [ab (by simp [Op.operands])]
 case field t x f=> rw [ab (by simp [Op.operands])]
 case indexAddr t x i=>
  rw [ab (x:=x) (by simp [Op.operands]),ab (x:=i) (by simp [Op.operands])]
  cases hp:st.strip.opnd x with
  | none=> rfl
  | some v=>
   cases hi:st.strip.opnd i with
   | none=> cases v <;> first | rfl | (rename_i y;cases y <;> rfl)
   | some vi=>
    cases vi <;> first | (cases v <;> first | (rfl;done) | (rename_i y;cases y <;> (rfl;done));done) | skip
    case c z=>
     cases z <;> first | (cases v <;> first | (rfl;done) | (rename_i y;cases y <;> (rfl;done));done) | skip
     case int k n=>
      cases v <;> first | (rfl;done) | skip
      case c y=>
       cases y <;> first | (rfl;done) | skip
       case mref u=>
        have:st'.strip.ls u=st.strip.ls u:=ak (x:=x) (by simp [Z0l]) hp (by simp [V.toks])
        simp only [this]
 case index t x i=> rw [ab (x:=x) (by simp [Op.operands]),ab (x:=i) (by simp [Op.operands])]
 case extract x i=> rw [ab (by simp [Op.operands])]
 case call c=>
  unfold Zjq
  cases hc:c.callee with
  | builtin b=>
   simp only
   have hx:∀ x∈c.args.toList,st'.strip.opnd x=st.strip.opnd x:=fun x hx=> ab (by simp [Op.operands,Call.operands,hc];simpa using hx)
   unfold Zfz
   split
   .rename_i x t aa bd
    rw [hx x (by rw [aa];simp)]
    cases hp:st.strip.opnd x with
    | none=> rfl
    | some v=>
     have:lenOf cfg st'.strip t v=lenOf cfg st.strip t v:=by
      cases v <;> try rfl
      case c y=>
       cases y <;> try rfl
       case mref u=>
        have:st'.strip.ls u=st.strip.ls u:=ak (x:=x) (by simp only [Z0l,hc];rw [aa];simp) hp (by simp [V.toks])
        simp only [lenOf,this]
     simp only [this]
   .rename_i x y t t' aa bd
    rw [hx x (by rw [aa];simp),hx y (by rw [aa];simp)]
    have ai:st'.dead=st.dead:=hd (by simp only [Z1G,hc])
    have:∀ d t x y,Z7e cfg st'.strip d t x y=Z7e cfg st.strip d t x y:=fun d t x y=> by simp only [Z7e,FSt.strip,ai]
    have aj:st'.strip.mu=st.strip.mu:=bb
    cases ae with
    | none=> rfl
    | some d=>
     cases hp:st.strip.opnd x with
     | none=> rfl
     | some v=>
      cases v <;> try rfl
      case c cx=>
       have hM:∀ t y,Z4E cfg st'.strip d t cx y=Z4E cfg st.strip d t cx y:=by
        intro t y
        have e1:st'.strip.dead=st.strip.dead:=ai
        have e2:st'.strip.ls (.r d 0)=st.strip.ls (.r d 0):=ar 0
        have e3:∀ T,Z5A cfg st'.strip T cx=Z5A cfg st.strip T cx:=by
         intro T
         cases cx <;> simp only [Z5A,e1]
         case mref u=>
          have:st'.strip.ls u=st.strip.ls u:=ak (x:=x) (by simp only [Z0l,hc];rw [aa];simp) hp (by simp [V.toks])
          simp only [this]
        simp only [Z4E,e1,e2,e3]
       have hZ:∀ t t' y,Z4D cfg st'.strip d t t' cx y=Z4D cfg st.strip d t t' cx y:=by
        intro t t' y
        have e1:st'.strip.dead=st.strip.dead:=ai
        have e2:st'.strip.ls (.r d 0)=st.strip.ls (.r d 0):=ar 0
        have e3:∀ T,Z5A cfg st'.strip T cx=Z5A cfg st.strip T cx:=by
         intro T
         cases cx <;> simp only [Z5A,e1]
         case mref u=>
          have:st'.strip.ls u=st.strip.ls u:=ak (x:=x) (by simp only [Z0l,hc];rw [aa];simp) hp (by simp [V.toks])
          simp only [this]
        simp only [Z4D,e1,e2,e3]
       cases hq:st.strip.opnd y with
       | none=> rfl
       | some vy=> cases vy <;> first | (rfl;done) | (simp only [this,hM,hZ,aj])
   .rename_i x t aa bd
    rw [hx x (by rw [aa];simp)]
    cases hp:st.strip.opnd x with
    | none=> rfl
    | some v=>
     cases v <;> try rfl
     case vw u n=>
      have:st'.strip.ls u=st.strip.ls u:=ak (x:=x) (by simp only [Z0l,hc];rw [aa];simp) hp (by simp [V.toks])
      simp only [Zjn,this]
   .rename_i x y t t' aa bd
    rw [hx x (by rw [aa];simp),hx y (by rw [aa];simp)]
    cases hp:st.strip.opnd x with
    | none=> rfl
    | some v=>
     cases v <;> try rfl
     case vw u n=>
      have:st'.strip.ls u=st.strip.ls u:=ak (x:=x) (by simp only [Z0l,hc];rw [aa];simp) hp (by simp [V.toks])
      cases st.strip.opnd y with
      | none=> rfl
      | some vy=> cases vy <;> first | rfl | simp only [ZqQ,this]
   .rename_i x y aa
    rw [hx x (by rw [aa];simp),hx y (by rw [aa];simp)]
   .rename_i x y aa
    rw [hx x (by rw [aa];simp),hx y (by rw [aa];simp)]
   .try rfl
  | value gx=>
   simp only
   have ai:st'.dead=st.dead:=hd (by simp only [Z1G,hc])
   have hx:∀ x∈c.args.toList,st'.strip.opnd x=st.strip.opnd x:=fun x hx=> ab (by simp [Op.operands,Call.operands,hc];right;simpa using hx)
   rw [ab (x:=gx) (by simp [Op.operands,Call.operands,hc]),Z1J (f:=st.strip.opnd) hx]
   cases hg:st.strip.opnd gx with
   | none=> rfl
   | some v=>
    have ao:∀ (vs:List (V U)),c.args.toList.mapM st.strip.opnd=some vs->∀ x∈vs,∀ nm∈Zu (some x),nm∈Zu (some v)++c.args.toList.flatMap fun x=> Zu (st.strip.opnd x):=by
     intro vs hv x ay nm ah
     obtain ⟨j,hj,rfl⟩:=Xa ay
     have bi:=(mapM_len hv)
     have az:j < c.args.toList.length:=V0
     obtain ⟨y,h1,h2⟩:=Z48 hv j _ (Q0 az)
     rw [Q0 hj] at h1
     cases h1
     exact X5 _ (Kc.2 ⟨_,List.getElem_mem az,by rw [h2];exact ah⟩)
    have al:∀ nm∈Z8l (Zu (some v)++c.args.toList.flatMap fun x=> Zu (st.strip.opnd x)),st'.strip.mem nm=st.strip.mem nm:=by
     intro nm ah
     refine hm nm ?_
     simp only [touch,hc,hg]
     exact Q3 _ ah
    have hB:∀ L,YT st'.strip (ae.getD 0) L=YT st.strip (ae.getD 0) L:=Z53 (st:=st.strip) (st':=st'.strip) ai ar
    have hW:∀ f',(v= .fn f'\/∃ nms,v= .clo f' nms)->∀ s,Γ.fn f'=some s->∀ toks c,(bif s.wr then J9 st'.strip.ls toks c else [])=(bif s.wr then J9 st.strip.ls toks c else []:List (Tok × LC U)):=by
     intro f' hv s hG toks c'
     cases hw:s.wr with
     | false=> rfl
     | true=>
      have:st'.ls=st.ls:=au (by
       rcases hv with rfl | ⟨nms,rfl⟩ <;> simp only [JW,hc,hg,Z6A,hG,hw,Bool.true_or,Bool.or_true])
      simp only [cond_true,FSt.strip,this]
    cases v <;> try rfl
    case fn f=>
     cases hv:c.args.toList.mapM st.strip.opnd with
     | none=> rfl
     | some vs=>
      simp only
      cases hin:Zlb Γ f with
      | some i=>
       have:st'.ls=st.ls:=au (by
        unfold Zlb at hin
        split at hin
        .rename_i s hG;simp only [JW,hc,hg,Z6A,hG,hin,Option.isSome_some,Bool.or_true]
        .cases hin)
       simp only [Zsp,FSt.strip,this]
      | none=>
      simp only
      cases hb:ZpR Γ f with
      | false=>
       cases hmk:ZBL Γ f with
       | false=> simp only [cond_false];exact Z2c ai (ao vs hv) al hB (hW f (.inl rfl))
       | true=>
        have:st'.strip.mem (.loc (ae.getD 0))=st.strip.mem (.loc (ae.getD 0)):=hm _ (by simp [touch,hc])
        have e:Z4A st'.strip vs=Z4A st.strip vs:=by
         unfold Z4A
         split
         .rename_i nm
          rw [al nm (Z2A (ao _ hv _ Q5 nm (by simp [Zu])))]
         .try rfl
        simp only [cond_true,cond_false,Zso,this,e]
        have bo:Z3C Γ st'.strip (ae.getD 0) f vs=Z3C Γ st.strip (ae.getD 0) f vs:=Z2c ai (ao vs hv) al hB (hW f (.inl rfl))
        rw [bo]
      | true=>
       have:st'.ls=st.ls:=au (by
        unfold ZpR at hb
        split at hb
        .rename_i s hG;simp only [JW,hc,hg,Z6A,hG,hb,Bool.or_true,Bool.true_or]
        .cases hb)
       have e:V.lend st'.strip=V.lend st.strip:=by
        have e2:C.lend st'.strip=C.lend st.strip:=by
         funext c
         cases c <;> simp only [C.lend,FSt.strip,this]
        funext v
        cases v <;> simp only [V.lend,e2]
       simp only [cond_true,Z7z,e]
    case clo f nms=>
     cases hv:c.args.toList.mapM st.strip.opnd with
     | none=> rfl
     | some vs=>
      refine Z2c ai (fun x hx nm ah=> ?_) al hB (hW f (.inr ⟨nms,rfl⟩))
      rcases Qj.1 hx with hx | hx
      .exact ao vs hv x hx nm ah
      .obtain ⟨bw,h1,rfl⟩:=Xo.1 hx
       simp only [Zu,Q7] at ah
       subst ah
       exact QL _ (by simpa [Zu] using h1)
    case kv u=>
     cases u <;> try rfl
     case func fn first caps=>
      cases fn <;> try rfl
      case func f=>
       cases hv:c.args.toList.mapM st.strip.opnd with
       | none=> rfl
       | some vs=>
        simp only
        cases hca:caps.toList with
        | cons _ _=> rfl
        | nil=>
         cases hus:first.toList.mapM (Z08 (U:=U)) with
         | none=> rfl
         | some us=>
          have a1:st'.ls=st.ls:=au (by simp only [JW,hc,hg])
          refine Z2c ai (fun x hx nm ah=> ?_) al hB (fun s hG toks c'=> by simp only [FSt.strip,a1])
          rcases Qj.1 hx with hx | hx
          .obtain ⟨j,hj,rfl⟩:=Xa hx
           obtain ⟨y,h1⟩:=Z9l hus j _ (Q0 hj)
           have:=ZfG h1
           rw [this] at ah
           cases ah
          .exact ao vs hv x hx nm ah
  | invoke r m=>
   simp only
   have ai:st'.dead=st.dead:=hd (by simp only [Z1G,hc])
   have a1:st'.ls=st.ls:=au (by simp only [JW,hc])
   have hx:∀ x∈c.args.toList,st'.strip.opnd x=st.strip.opnd x:=fun x hx=> ab (by simp [Op.operands,Call.operands,hc];right;simpa using hx)
   rw [ab (x:=r) (by simp [Op.operands,Call.operands,hc]),Z1J (f:=st.strip.opnd) hx]
   cases hg:st.strip.opnd r with
   | none=> rfl
   | some v=>
    cases v <;> try rfl
    case ifp t nm=>
     cases hv:c.args.toList.mapM st.strip.opnd with
     | none=> rfl
     | some vs=>
      have al:∀ n∈Z8l ([nm]++c.args.toList.flatMap fun x=> Zu (st.strip.opnd x)),st'.strip.mem n=st.strip.mem n:=by
       intro n ah
       refine hm n ?_
       simp only [touch,hc,hg]
       exact Q3 _ ah
      have ao:∀ x∈V.ptr nm 0 ::vs,∀ n∈Zu (some x),n∈[nm]++c.args.toList.flatMap fun x=> Zu (st.strip.opnd x):=by
       intro x ay n ah
       rcases Q9.1 ay with rfl | ay
       .simp only [Zu,Q7] at ah
        simp [ah]
       .obtain ⟨j,hj,rfl⟩:=Xa ay
        have bi:=(mapM_len hv)
        have az:j < c.args.toList.length:=V0
        obtain ⟨y,h1,h2⟩:=Z48 hv j _ (Q0 az)
        rw [Q0 hj] at h1
        cases h1
        exact X5 _ (Kc.2 ⟨_,List.getElem_mem az,by rw [h2];exact ah⟩)
      have hB:∀ L,YT st'.strip (ae.getD 0) L=YT st.strip (ae.getD 0) L:=Z53 (st:=st.strip) (st':=st'.strip) ai ar
      have hW:∀ f' s,Γ.fn f'=some s->∀ toks c,(bif s.wr then J9 st'.strip.ls toks c else [])=(bif s.wr then J9 st.strip.ls toks c else []:List (Tok × LC U)):=by
       intro f' s _ toks c'
       simp only [FSt.strip,a1]
      have e0:st'.strip.mem nm=st.strip.mem nm:=al nm (Z2A (by simp))
      have e:V.lend st'.strip=V.lend st.strip:=by
       have e2:C.lend st'.strip=C.lend st.strip:=by
        funext c
        cases c <;> simp only [C.lend,FSt.strip,a1]
       funext v
       cases v <;> simp only [V.lend,e2]
      simp only
      cases cfg.mth t m with
      | none=> rfl
      | some q=>
       obtain ⟨f,vr⟩:=q
       cases vr with
       | false=> exact Z2c ai ao al hB (hW f)
       | true=>
        simp only [e0]
        cases st.strip.mem nm with
        | none=> rfl
        | some cs=>
         match cs with
         | []=> rfl
         | _ ::_ ::_=> rfl
         | [c0]=>
          simp only [Z7z,e]
          rw [Zjp (st:=st.strip) (st':=st'.strip) ai ao al hB (hW f)]
where
 mapM_len {f:Operand->Option (V U)}:∀ {xs:List Operand} {vs:List (V U)},xs.mapM f=some vs->xs.length=vs.length:=by
  intro xs
  induction xs with
  | nil=> intro vs h;simp at h;subst h;rfl
  | cons y xs ih=>
   intro vs h
   rw [QP] at h
   cases h1:f y with
   | none=> simp [h1] at h
   | some v=>
    cases h2:xs.mapM f with
    | none=> simp [h1,h2] at h
    | some r=>
     simp [h1,h2] at h
     subst h
     simp [ih h2]
theorem Zac{st st':FSt U}{G:Option Bool}:∀ {l:List Operand},(∀ t,Operand.tmp t∈l->st'.env t=st.env t)->Z0E st' G l=Z0E st G l
 | [],_=> rfl
 | x ::l,h=> by
  have ih:=Zac (l:=l) (G:=G) (fun t d=> h t (by simp [d]))
  cases x with
  | tmp t=> simp only [Z0E,h t (by simp),ih]
  | _=> trivial
theorem Zcq{tyEq:DecidableEq U.Ty}{G:Bool}{m0 m1:Name->Option (List (C U))}:∀ {m:List (Name × List (C U))},(∀ x∈m,m1 x.1=m0 x.1)->Z4e tyEq G m1 m=Z4e tyEq G m0 m
 | [],_=> rfl
 | (nm,cs) ::r,h=> by
  simp only [Z4e,h (nm,cs) (by simp),Zcq (m:=r) (fun x d=> h x (by simp [d]))]
theorem Z64{l:List Name}{nm:Name}:Jh l nm=true↔nm∈l:=by
 refine ⟨?_,Z63⟩
 induction l with
 | nil=> intro h;cases h
 | cons x l ih=>
  intro h
  simp only [Jh] at h
  grind
theorem Z5D{o:Oper}{ops:Array Oper}{st st':FSt U}(h:∀ t,t∈o.looksAt ops->st'.env t=st.env t):touch o st'=touch o st:=by
 have d:∀ {x:Operand},x∈o.op.operands.toList->st'.strip.opnd x=st.strip.opnd x:=by
  intro x hx
  cases x with
  | tmp t=> simp [FSt.opnd,FSt.strip,h t (QL _ (Xu.2 ⟨.tmp t,hx,rfl⟩))]
  | _=> rfl
 obtain ⟨aj,op,af,ai,aa,ae⟩:=o
 cases op <;> simp only [touch]
 case load t p=> rw [d (by simp [Op.operands])]
 case store t p x=> rw [d (by simp [Op.operands])]
 case slice t x lo hi mx=> rw [d (by simp [Op.operands])]
 case call c=>
  have:∀ (l:List Operand),(∀ x∈l,x∈c.args.toList)->(l.flatMap fun x=> Zu (st'.strip.opnd x))=l.flatMap fun x=> Zu (st.strip.opnd x):=by
   intro l
   induction l with
   | nil=> intro _;rfl
   | cons x l ih=>
    intro hl
    rw [XM,XM,ih (fun y hy=> hl y (by simp [hy])),d (by
     have:=hl x (by simp)
     cases hc:c.callee <;> simp [Op.operands,Call.operands,hc] <;> first | (right;simpa using this) | simpa using this)]
  rw [this _ (fun x hx=> hx)]
  cases hc:c.callee with
  | value gx=> simp only [d (x:=gx) (by simp [Op.operands,Call.operands,hc])]
  | builtin b=> rfl
  | invoke r m=> simp only [d (x:=r) (by simp [Op.operands,Call.operands,hc])]
theorem Zmy{o:Oper}{x:Operand}(h:x∈Z0l o):x∈o.op.operands.toList:=by
 obtain ⟨af,op,ab,ae,d,aa⟩:=o
 cases op <;> simp only [Z0l] at h <;> (try (cases h;done))
 case load t p=> trivial
 case store t p x=> simp only [Q7] at h;subst h;simp [Op.operands]
 case nilCheck x=> trivial
 case fieldAddr t x f=> trivial
 case indexAddr t x i=> simp only [Q7] at h;subst h;simp [Op.operands]
 case slice t x lo hi mx=> simp only [Q7] at h;subst h;simp [Op.operands]
 case call c=>
  cases hc:c.callee <;> rw [hc] at h <;> (try (cases h;done))
  simp only at h
  simp only [Op.operands,Call.operands,hc]
  simpa using h
theorem Z8p{o:Oper}{ops:Array Oper}{st st':FSt U}(h:∀ t,t∈o.looksAt ops->st'.env t=st.env t):touchT o st'=touchT o st:=by
 have d:∀ {x:Operand},x∈o.op.operands.toList->st'.strip.opnd x=st.strip.opnd x:=by
  intro x hx
  cases x with
  | tmp t=> simp [FSt.opnd,FSt.strip,h t (QL _ (Xu.2 ⟨.tmp t,hx,rfl⟩))]
  | _=> rfl
 unfold touchT
 have:∀ (l:List Operand),(∀ x∈l,x∈Z0l o)->(l.flatMap fun x=> (st'.strip.opnd x).toList.flatMap V.toks)=l.flatMap fun x=> (st.strip.opnd x).toList.flatMap V.toks:=by
  intro l
  induction l with
  | nil=> intro _;rfl
  | cons x l ih=>
   intro hl
   rw [XM,XM,ih (fun y hy=> hl y (by simp [hy])),d (Zmy (hl x (by simp)))]
 grind
theorem Z7y{Γ:Known U}{o:Oper}{ops:Array Oper}{st st':FSt U}(h:∀ t,t∈o.looksAt ops->st'.env t=st.env t):JW Γ o st'=JW Γ o st:=by
 obtain ⟨af,op,ab,ae,d,aa⟩:=o
 cases op <;> try rfl
 case call c=>
  simp only [JW]
  cases hc:c.callee <;> try rfl
  case value g=>
   have:st'.strip.opnd g=st.strip.opnd g:=by
    cases g with
    | tmp t=> simp [FSt.opnd,FSt.strip,h t (QL _ (Xu.2 ⟨.tmp t,by simp [Op.operands,Call.operands,hc],rfl⟩))]
    | _=> rfl
   grind
theorem ZcC{Γ:Known U}{o:Oper}{ops:Array Oper}{st st':FSt U}(h:Alike Γ o ops st st'):Z5z cfg Γ ops o st'=Z5z cfg Γ ops o st:=by
 have d:=fun {x:Operand} (hx:x∈o.op.operands.toList)=> (h.opnd hx).1
 have hG:Z57 ops st' o=Z57 ops st o:=by
  unfold Z57
  cases hg:o.guard with
  | none=> rfl
  | some jw=>
   obtain ⟨j,ae⟩:=jw
   simp only
   cases ht:(ops[j]?).bind (·.dst) with
   | none=> rfl
   | some t=>
    have:st'.env t=st.env t:=h.env t (X5 _ (by simp [hg,ht]))
    grind
 have hN:∀ G,Z0E st' G o.op.operands.toList=Z0E st G o.op.operands.toList:=fun G=>
  Zac fun t ht=> h.env t (QL _ (Xu.2 ⟨.tmp t,ht,rfl⟩))
 unfold Z5z
 rw [h.n]
 split
 .split
  .rename_i c x y hc
   rw [hG,d (x:=c) (by simp [hc,Op.operands]),d (x:=x) (by simp [hc,Op.operands]),d (x:=y) (by simp [hc,Op.operands])]
  .have ht:=Z5D (st:=st) (st':=st') h.env
   rw [hG]
   simp only [Zsj h,hN,ht]
   split
   .try rfl
   .rename_i G ah
    cases he:aop cfg Γ o st.strip with
    | none=> rfl
    | some r=>
     obtain ⟨ps,e⟩:=r
     cases G with
     | none=> rfl
     | some Gb=>
      obtain ⟨v,m,k,l⟩:=e
      cases v with
      | none=> rfl
      | some v=>
       cases k with
       | cons _ _=> grind
       | nil=>
        cases l with
        | cons _ _=> grind
        | nil=>
        cases m with
        | nil=> rfl
        | cons x r=>
         simp only
         cases hall:(x ::r).all fun x=> Jh (touch o st) x.1 with
         | false=> rfl
         | true=>
          have hj:Z4e cfg.tyEq Gb st'.mem (x ::r)=Z4e cfg.tyEq Gb st.mem (x ::r):=Zcq fun y hy=> h.mem _ (Z64.1 (by
           grind))
          rw [hj]
 .try rfl
theorem Z4X{m0:Name->Option (List (C U))}{m:List (Name × List (C U))}{nm:Name}(h:Jh (m.map (·.1)) nm=false):ZL m0 m nm=m0 nm:=by
 induction m with
 | nil=> rfl
 | cons x m ih=>
  obtain ⟨b,cs⟩:=x
  simp only [X3,Jh] at h
  split at h
  .cases h
  .rename_i e
   simp only [ZL]
   grind
theorem ZeP{x y:List Name}(h:Zn4 x y=false):∀ nm,nm∈x->Jh y nm=false:=by
 intro nm d
 unfold Zn4 at h
 grind
theorem Zr7{l:List Tok}{t:Tok}:ZjD l t=true↔t∈l:=by
 induction l with
 | nil=> simp [ZjD]
 | cons x l ih=>
  simp only [ZjD,Q9]
  grind
theorem Zcb{x y:List Tok}(h:ZeQ x y=false):∀ t,t∈x->t∉y:=by
 intro t d hy
 unfold ZeQ at h
 rw [List.any_eq_false] at h
 have:=h t d
 rw [Zr7.2 hy] at this
 simp at this
theorem ZrL{m:Tok->Option (LC U)}{l:List (Tok × LC U)}{t:Tok}(h:t∉l.map (·.1)):Zt m l t=m t:=by
 induction l with
 | nil=> rfl
 | cons x l ih=>
  obtain ⟨b,y⟩:=x
  simp only [X3,Q9,not_or] at h
  simp only [Zt]
  grind
theorem Z49{m:Tok->Option (LC U)}{e:Eff U}{t:Tok}(h:t∉e.kill++e.ls.map (·.1)):Z06 m e t=m t:=by
 simp only [Qj,not_or] at h
 unfold Z06
 have:e.kill.contains t=false:=by
  cases hk:e.kill.contains t with
  | false=> rfl
  | true=> exact absurd (by simpa using hk) h.1
 rw [this,cond_false,ZrL h.2]
theorem Zht {Γ:Known U} {ops:Array Oper} {x y:Oper} {st:FSt U} {e:Eff U} (hap:x.apart ops y=true) (hm:Zn4 (e.mem.map (·.1)) (touch y st)=false) (hk:(!e.kill.isEmpty && Z1G y)=false)
  (ht:ZeQ (e.kill++e.ls.map (·.1)) (touchT y st)=false) (hr:noR (y.dst.getD 0) (e.kill++e.ls.map (·.1))=true) (ha:((e.kill++e.ls.map (·.1)).isEmpty || !JW Γ y st)=true):
  Alike Γ y ops st (st.app x.dst e):=by
 obtain ⟨h1,_,_⟩:=Oper.apart_spec hap
 refine ⟨?_,?_,?_,?_,by cases x.dst <;> rfl,by cases x.dst <;> rfl,fun t af=> Z49 (fun hm=> Zcb ht t hm af),fun j=> Z49 (fun hm=> ?_),fun j=> ?_,fun hc=> ?_⟩
 .cases x.dst <;> rfl
 .intro t ht
  cases hd:x.dst with
  | none=> rfl
  | some d=>
   have aj:t≠d:=fun e=> h1 d hd (e▸ht)
   have:Nat.beq t d=false:=by
    cases hb:Nat.beq t d with
    | false=> rfl
    | true=> simp_all
   simp [FSt.app,FSt.put,this]
 .intro nm hn
  have:Jh (e.mem.map (·.1)) nm=false:=by
   cases hb:Jh (e.mem.map (·.1)) nm with
   | false=> rfl
   | true=>
    have:=ZeP hm nm (Z64.1 hb)
    rw [Z63 hn] at this
    cases this
  exact Z4X this
 .intro hr
  simp only [hr,Bool.and_true,Bool.not_eq_false'] at hk
  have:e.kill=[]:=by simpa using hk
  simp [FSt.app,this]
 .have:=Qy.1 hr _ hm
  simp at this
 .simp only [FSt.app]
  cases hk:e.kill.contains (.r (y.dst.getD 0) j) with
  | false=> simp
  | true=>
   have:=Qy.1 hr (.r (y.dst.getD 0) j) (QL _ (by simpa using hk))
   simp at this
 .rw [hc] at ha
  simp only [K7,Bool.or_false,List.isEmpty_iff] at ha
  funext t
  exact Z49 (by rw [ha];simp)
theorem Zxs{ops:Array Oper}{x y:Oper}{st:FSt U}{e f:Eff U}(hap:x.apart ops y=true)(hm:Zn4 (e.mem.map (·.1)) (f.mem.map (·.1))=false)(hl:ZeQ (e.kill++e.ls.map (·.1)) (f.kill++f.ls.map (·.1))=false):
  (st.app x.dst e).app y.dst f=(st.app y.dst f).app x.dst e:=by
 obtain ⟨_,h2,_⟩:=Oper.apart_spec hap
 have al:∀ (s:FSt U) (v u:V U),((s.put x.dst v).put y.dst u)=((s.put y.dst u).put x.dst v):=by
  intro s v u
  cases hx:x.dst with
  | none=> rfl
  | some d=>
   cases hy:y.dst with
   | none=> rfl
   | some d'=>
    have aa:d≠d':=fun e=> h2 d hx (by rw [hy,e])
    simp only [FSt.put]
    congr 1
    funext j
    cases h1:Nat.beq j d with
    | false=> rfl
    | true=>
     cases h3:Nat.beq j d' with
     | false=> rfl
     | true=> exact absurd ((Qc h1).symm.trans (Qc h3)) aa
 have am:ZL (ZL st.mem e.mem) f.mem=ZL (ZL st.mem f.mem) e.mem:=by
  funext nm
  cases h1:Jh (e.mem.map (·.1)) nm with
  | false=>
   rw [Z4X (m:=e.mem) (m0:=ZL st.mem f.mem) h1]
   rcases YS st.mem f.mem nm with ⟨k,cs,h3,h4⟩ | ⟨h3,h4⟩
   .rcases YS (ZL st.mem e.mem) f.mem nm with ⟨k',cs',h5,h6⟩ | ⟨h5,h6⟩
    .have:∀ (m0 m1:Name->Option (List (C U))) (l:List (Name × List (C U))),(∃ x,x∈l/\x.1=nm)->ZL m0 l nm=ZL m1 l nm:=by
      intro m0 m1 l
      induction l with
      | nil=> rintro ⟨x,hx,_⟩;simp at hx
      | cons z l ih=>
       rintro ⟨x,hx,aq⟩
       obtain ⟨b,cs⟩:=z
       simp only [ZL]
       split
       .try rfl
       .rename_i aa
        rcases Q9.1 hx with rfl | hx
        .exact absurd aq.symm aa
        .exact ih ⟨x,hx,aq⟩
     exact this _ _ _ ⟨_,QV h3,rfl⟩
    .exact absurd rfl (h5 k _ h3)
   .rcases YS (ZL st.mem e.mem) f.mem nm with ⟨k',cs',h5,h6⟩ | ⟨h5,h6⟩
    .exact absurd rfl (h3 k' _ h5)
    .rw [h6,h4,Z4X h1]
  | true=>
   have aw:Jh (f.mem.map (·.1)) nm=false:=ZeP hm nm (Z64.1 h1)
   rw [Z4X (m:=f.mem) (m0:=ZL st.mem e.mem) aw]
   have:∀ (m0 m1:Name->Option (List (C U))) (l:List (Name × List (C U))),Jh (l.map (·.1)) nm=true->ZL m0 l nm=ZL m1 l nm:=by
    intro m0 m1 l
    induction l with
    | nil=> intro h;cases h
    | cons z l ih=>
     obtain ⟨b,cs⟩:=z
     intro h
     simp only [X3,Jh] at h
     simp only [ZL]
     split
     .try rfl
     .rename_i aa
      rw [if_neg (fun e=> aa e.symm)] at h
      exact ih h
   exact this _ _ _ h1
 have ai:(fun t=> (st.dead t || e.kill.contains t) || f.kill.contains t)=fun t=> (st.dead t || f.kill.contains t) || e.kill.contains t:=by
  funext t
  cases st.dead t <;> cases e.kill.contains t <;> cases f.kill.contains t <;> rfl
 have hn:∀ (s:FSt U) d v,(s.put d v).n=s.n/\(s.put d v).mem=s.mem/\(s.put d v).dead=s.dead:=by
  intro s d v;cases d <;> exact ⟨rfl,rfl,rfl⟩
 have ao:(((st.put x.dst (e.val.getD .junk))).put y.dst (f.val.getD .junk)).env=((st.put y.dst (f.val.getD .junk)).put x.dst (e.val.getD .junk)).env:=by rw [al]
 have ak:∀ (s s':FSt U) d v,s.env=s'.env->(s.put d v).env=(s'.put d v).env:=by
  intro s s' d v he;cases d <;> simp [FSt.put,he]
 have au:Z06 (Z06 st.ls e) f=Z06 (Z06 st.ls f) e:=by
  funext t
  by_cases h1:t∈e.kill++e.ls.map (·.1)
  .have h2:=Zcb hl t h1
   rw [Z49 h2]
   unfold Z06
   cases he:e.kill.contains t with
   | true=> rfl
   | false=>
    simp only [cond_false]
    have h3:t∈e.ls.map (·.1):=by
     rcases Qj.1 h1 with h | h
     .have:e.kill.contains t=true:=by simpa using h
      rw [he] at this;cases this
     .exact h
    have:∀ (m0 m1:Tok->Option (LC U)) (l:List (Tok × LC U)),t∈l.map (·.1)->Zt m0 l t=Zt m1 l t:=by
     intro m0 m1 l
     induction l with
     | nil=> intro h;cases h
     | cons z l ih=>
      obtain ⟨b,y⟩:=z
      intro h
      simp only [Zt]
      split
      .try rfl
      .rename_i aa
       simp only [X3,Q9] at h
       exact ih (h.resolve_left aa)
    exact this _ _ _ h3
  .rw [Z49 (m:=Z06 st.ls f) h1]
   have:∀ (m0 m1:Tok->Option (LC U)) (l:List (Tok × LC U)),m0 t=m1 t->Zt m0 l t=Zt m1 l t:=by
    intro m0 m1 l he
    induction l with
    | nil=> exact he
    | cons z l ih=>
     obtain ⟨b,y⟩:=z
     simp only [Zt]
     split
     .try rfl
     .exact ih
   have h3:Z06 st.ls e t=st.ls t:=Z49 h1
   unfold Z06 at h3 ⊢
   cases hf:f.kill.contains t with
   | true=> rfl
   | false=> simp only [cond_false];exact this _ _ _ h3
 have ext:∀ {s s':FSt U},s.n=s'.n->s.env=s'.env->s.mem=s'.mem->s.dead=s'.dead->s.ls=s'.ls->s.mu=s'.mu->s.vw=s'.vw->s=s':=by
  intro s s' h1 h2 h3 h4;cases s;cases s';simp_all
 refine ext ?_ ?_ ?_ ?_ au ?_ (by cases x.dst <;> cases y.dst <;> rfl)
 .cases x.dst <;> cases y.dst <;> rfl
 .show ((st.app x.dst e).put y.dst _).env=((st.app y.dst f).put x.dst _).env
  rw [ak (st.app x.dst e) (st.put x.dst (e.val.getD .junk)) y.dst _ rfl,ao,ak (st.app y.dst f) (st.put y.dst (f.val.getD .junk)) x.dst _ rfl]
 .show ZL (st.app x.dst e).mem f.mem=ZL (st.app y.dst f).mem e.mem
  exact am
 .exact ai
 .cases x.dst <;> cases y.dst <;> rfl
end Go.AM
namespace Go.AM
variable {U:Uni} {P:Program} {cfg:Cfg U} {B:Base} {g:Gh} {a:Act} {w:World} {Γ:Known U} {ops:Array Oper}
def Zqj(cfg:Cfg U)(Γ:Known U)(ops:Array Oper):List Oper->FSt U->Option (List Fp)
 | [],_=> some []
 | o ::r,st=> match Z5z cfg Γ ops o st with
  | none=> none
  | some (_,e)=> match Zqj cfg Γ ops r (st.app o.dst e) with
   | none=> none
   | some l=> some (ZrZ Γ o st e ::l)
def Zrr(ops:List Oper):Nat->Nat->Nat->Bool
 | 0,_,_=> false
 | n+1,k,h=> match ops[h]? with
  | none=> false
  | some o=> o.after.toList.any fun e=> Region.binds .any e && (Nat.beq e.on k || (Nat.blt k e.on && Zrr ops n k e.on))
def Zd5:Nat->List Oper->Bool
 | _,[]=> true
 | i,o ::r=> (o.after.toList.all fun e=> !Region.binds .any e || Nat.blt e.on i) && Zd5 (i+1) r
def ZuA(ops:Array Oper)(fps:List Fp)(k h:Nat):Bool:=
 Zrr ops.toList 5 k h || match ops.toList[k]?,ops.toList[h]?,fps[k]?,fps[h]? with
  | some x,some y,some a,some b=> ZiO ops x y a b
  | _,_,_,_=> false
def Zpr(ops:Array Oper)(fps:List Fp):Bool:=
 (List.range ops.toList.length).all fun h=> (List.range h).all fun k=> ZuA ops fps k h
def Ju(cfg:Cfg U)(Γ:Known U)(ops:Array Oper)(st:FSt U):Bool:=
 match Zqj cfg Γ ops ops.toList st with
 | some fps=> Zd5 0 ops.toList && Zpr ops fps
 | none=> false
inductive Run (cfg:Cfg U) (Γ:Known U) (ops:Array Oper) (fp:Nat->Option Fp):List Nat->FSt U->FSt U->Prop
 | nil (st):Run cfg Γ ops fp [] st st
 | cons (i l st st' o ps e):ops[i]?=some o->Z5z cfg Γ ops o st=some (ps,e)->All ps->fp i=some (ZrZ Γ o st e)->Run cfg Γ ops fp l (st.app o.dst e) st'->Run cfg Γ ops fp (i ::l) st st'
theorem ZbL{fps:List Fp}:∀ (l:List Oper) (k:Nat) (st st':FSt U) (ps:List Prop) (fl:List Fp),(∀ j,l[j]?=ops[k+j]?)->(∀ j,fl[j]?=fps[k+j]?)->Zfv cfg Γ ops false l st=some (ps,st')->All ps->Zqj cfg Γ ops l st=some fl->
  Run cfg Γ ops (fun i=> fps[i]?) (List.range' k l.length) st st'
 | [],k,st,st',ps,fl,_,_,h,_,_=> by
  simp only [Zfv,oP] at h
  obtain ⟨_,rfl⟩:=h
  exact .nil st
 | o ::l,k,st,st',ps,fl,hl,hf,h,hps,hfl=> by
  rw [Zbw] at h
  simp only [ZCz] at h
  simp only [Zqj] at hfl
  split at h
  .cases h
  .rename_i ae e1 h1
   rw [h1] at hfl
   simp only at hfl
   split at h
   .cases h
   .rename_i qs ak h2
    split at hfl
    .cases hfl
    .rename_i ab d
     simp only [oP] at h hfl
     obtain ⟨rfl,rfl⟩:=h
     subst hfl
     obtain ⟨aa,af⟩:=All.append hps
     rw [Qd,List.range'_succ]
     refine .cons k _ st _ o ae e1 ?_ h1 aa ?_ ?_
     .have:=hl 0;grind
     .have:=hf 0;grind
     .exact ZbL l (k+1) _ _ qs ab (fun j=> by have:=hl (j+1);grind) (fun j=> by have:=hf (j+1);grind) h2 af d
def ZFb(ops:Array Oper)(fp:Nat->Option Fp)(k h:Nat):Prop:=∃ x y p q,ops[k]?=some x/\ops[h]?=some y/\fp k=some p/\fp h=some q/\ZiO ops x y p q=true
theorem ZHb{fp:Nat->Option Fp}{h:Nat}{post:List Nat}:∀ (pre:List Nat) (st st':FSt U),Run cfg Γ ops fp (pre++h ::post) st st'->(∀ k∈pre,ZFb ops fp k h)->
  ∃ o ps e,ops[h]?=some o/\Z5z cfg Γ ops o st=some (ps,e)/\All ps/\fp h=some (ZrZ Γ o st e)/\Run cfg Γ ops fp (pre++post) (st.app o.dst e) st'
 | [],st,st',hr,_=> by
  cases hr with
  | cons _ _ _ _ o ps e h1 h2 h3 h4 h5=> grind
 | k ::pre,st,st',hr,hf=> by
  cases hr with
  | cons _ _ _ _ x ps e h1 h2 h3 h4 h5=>
   obtain ⟨y,qs,f,h6,h7,h8,h9,ao⟩:=ZHb pre _ st' h5 (fun j hj=> hf j (by simp [hj]))
   obtain ⟨x',y',p,q,g1,g2,g3,g4,g5⟩:=hf k (by simp)
   rw [h1] at g1
   rw [h6] at g2
   rw [h4] at g3
   rw [h9] at g4
   cases g1;cases g2;cases g3;cases g4
   simp only [ZiO,Q2,QQ] at g5
   obtain ⟨⟨⟨⟨⟨⟨⟨⟨⟨⟨⟨⟨⟨a1,a2⟩,a3⟩,a4⟩,a5⟩,a6⟩,a7⟩,b3⟩,b4⟩,b5⟩,b6⟩,b7⟩,b8⟩,b9⟩:=g5
   simp only [ZrZ] at a3 a4 a5 a6 a7 b3 b4 b5 b6 b7 b8 b9
   have ty:touch y (st.app x.dst e)=touch y st:=by
    refine Z5D (ops:=ops) fun t ht=> ?_
    obtain ⟨b1,_,_⟩:=Oper.apart_spec a1
    cases hd:x.dst with
    | none=> rfl
    | some d=>
     have aa:t≠d:=fun e=> b1 d hd (e▸ht)
     have:Nat.beq t d=false:=by
      cases hb:Nat.beq t d with
      | false=> rfl
      | true=> exact absurd (Qc hb) aa
     simp [FSt.app,FSt.put,this]
   rw [ty] at a3
   have af:touchT y (st.app x.dst e)=touchT y st:=by
    refine Z8p (ops:=ops) fun t ht=> ?_
    obtain ⟨b1,_,_⟩:=Oper.apart_spec a1
    cases hd:x.dst with
    | none=> rfl
    | some d=>
     have aa:t≠d:=fun e=> b1 d hd (e▸ht)
     have:Nat.beq t d=false:=by
      cases hb:Nat.beq t d with
      | false=> rfl
      | true=> exact absurd (Qc hb) aa
     simp [FSt.app,FSt.put,this]
   rw [af] at b3
   have ai:JW Γ y (st.app x.dst e)=JW Γ y st:=by
    refine Z7y (ops:=ops) fun t ht=> ?_
    obtain ⟨b1,_,_⟩:=Oper.apart_spec a1
    cases hd:x.dst with
    | none=> rfl
    | some d=>
     have aa:t≠d:=fun e=> b1 d hd (e▸ht)
     have:Nat.beq t d=false:=by
      cases hb:Nat.beq t d with
      | false=> rfl
      | true=> exact absurd (Qc hb) aa
     simp [FSt.app,FSt.put,this]
   rw [ai] at b8
   have ay:=Zht (st:=st) (e:=e) a1 a3 a6 b3 b6 (by simpa using b8)
   have hy:Z5z cfg Γ ops y st=some (qs,f):=by rw [<-h7];exact (ZcC ay).symm
   have tx:touch x (st.app y.dst f)=touch x st:=by
    refine Z5D (ops:=ops) fun t ht=> ?_
    obtain ⟨b1,_,_⟩:=Oper.apart_spec a2
    cases hd:y.dst with
    | none=> rfl
    | some d=>
     have aa:t≠d:=fun e=> b1 d hd (e▸ht)
     have:Nat.beq t d=false:=by
      cases hb:Nat.beq t d with
      | false=> rfl
      | true=> exact absurd (Qc hb) aa
     simp [FSt.app,FSt.put,this]
   have ak:touchT x (st.app y.dst f)=touchT x st:=by
    refine Z8p (ops:=ops) fun t ht=> ?_
    obtain ⟨b1,_,_⟩:=Oper.apart_spec a2
    cases hd:y.dst with
    | none=> rfl
    | some d=>
     have aa:t≠d:=fun e=> b1 d hd (e▸ht)
     have:Nat.beq t d=false:=by
      cases hb:Nat.beq t d with
      | false=> rfl
      | true=> exact absurd (Qc hb) aa
     simp [FSt.app,FSt.put,this]
   have aq:JW Γ x (st.app y.dst f)=JW Γ x st:=by
    refine Z7y (ops:=ops) fun t ht=> ?_
    obtain ⟨b1,_,_⟩:=Oper.apart_spec a2
    cases hd:y.dst with
    | none=> rfl
    | some d=>
     have aa:t≠d:=fun e=> b1 d hd (e▸ht)
     have:Nat.beq t d=false:=by
      cases hb:Nat.beq t d with
      | false=> rfl
      | true=> exact absurd (Qc hb) aa
     simp [FSt.app,FSt.put,this]
   have ax:=Zht (st:=st) (e:=f) a2 a4 a7 b4 b7 (by simpa using b9)
   have hx:Z5z cfg Γ ops x (st.app y.dst f)=some (ps,e):=by rw [<-h2];exact ZcC ax
   refine ⟨y,qs,f,h6,hy,h8,by rw [h9];simp only [ZrZ,ty,af,ai],?_⟩
   refine .cons k _ _ _ x ps e h1 hx h3 ?_ ?_
   .rw [h4];simp only [ZrZ,tx,ak,aq]
   .rw [<-Zxs a1 a5 b5];exact ao
theorem Zc4{listed:Array Bool}(hdown:∀ j o,ops[j]?=some o->listed.getD j false=true->∀ e∈o.after,Region.binds .any e=true->listed.getD e.on false=true):∀ (n k h:Nat) (o:Oper),ops[h]?=some o->
  (∀ e∈o.after,Region.binds .any e=true->listed.getD e.on false=true)->Zrr ops.toList n k h=true->listed.getD k false=true
 | 0,k,h,o,_,_,d=> by trivial
 | n+1,k,h,o,ho,hr,d=> by
  have ab:ops.toList[h]?=some o:=by simpa using ho
  simp only [Zrr,ab,Kd] at d
  obtain ⟨e,he,d⟩:=d
  simp only [Q2,XY] at d
  obtain ⟨h1,h2⟩:=d
  have ae:e∈o.after:=by simpa using he
  have hl:=hr e ae h1
  rcases h2 with h2 | ⟨_,h2⟩
  .rw [<-Qc h2];exact hl
  .cases hoe:ops[e.on]? with
   | none=>
    have:ops.toList[e.on]?=none:=by simpa using hoe
    cases n with
    | zero=> trivial
    | succ n=> simp [Zrr,this] at h2
   | some o2=> exact Zc4 hdown n k e.on o2 hoe (hdown e.on o2 hoe hl) h2
theorem ZiU(l:List Oper):∀ (i:Nat),Zd5 i l=true->∀ (j:Nat) (o:Oper),l[j]?=some o->∀ e∈o.after,Region.binds .any e=true->e.on < i+j:=by
 induction l with
 | nil=> grind
 | cons o l ih=>
  intro i h j o' d e he hb
  simp only [Zd5,Q2] at h
  cases j with
  | zero=>
   simp at d
   subst d
   have:=Qy.1 h.1 e (by simpa using he)
   simp_all
  | succ j=>
   grind
theorem Zhz (ok:CfgOk P cfg) (hΓ:∀ f s,Γ f=some s->Contract P cfg f s) {fp:Nat->Option Fp} {Q:Exit->Act->World->Prop} {st':FSt U}
  (hedge:∀ (j:Nat) o,ops[j]?=some o->∀ e∈o.after,Region.binds .any e=true->e.on < j)
  (hpair:∀ k h,k < h->h < ops.size->Zrr ops.toList 5 k h=true\/ZFb ops fp k h)
  (hQ:∀ g' a' w',Rel cfg B st' g' a' w'->Q .normal a' w'):∀ (aa:Nat) (l:List Nat) (listed:Array Bool) (st:FSt U) (g:Gh) (a:Act) (w:World),
   l.length<=aa->l.Pairwise (· < ·)->listed.size=ops.size->(∀ i,i < ops.size->(listed.getD i false=false↔i∈l))->(∀ i∈l,i < ops.size)->
   (∀ j o,ops[j]?=some o->listed.getD j false=true->∀ e∈o.after,Region.binds .any e=true->listed.getD e.on false=true)->
   Run cfg Γ ops fp l st st'->Rel cfg B st g a w->wpAny P .any ops Q aa listed a w:=by
 intro aa
 have ak:∀ (listed:Array Bool) i,listed.size=ops.size->i < ops.size->listed.getD i true=listed.getD i false:=by
  intro listed i hs hi
  simp [Array.getD,hs,hi]
 have done:∀ (l:List Nat) (listed:Array Bool),l.Pairwise (· < ·)->listed.size=ops.size->(∀ i,i < ops.size->(listed.getD i false=false↔i∈l))->(∀ i∈l,i < ops.size)->Region.ready .any ops listed=[]->l=[]:=by
  intro l listed d ah hl al hr
  cases l with
  | nil=> rfl
  | cons i l=>
   exfalso
   have hi:=al i (by simp)
   have bi:i∈Region.ready .any ops listed:=by
    rw [mem_ready]
    refine ⟨by grind,ops[i],QC hi,fun e he hb=> ?_⟩
    have h1:=hedge i _ (QC hi) e he hb
    cases hx:listed.getD e.on false with
    | true=> rfl
    | false=>
     have:=(hl e.on V0).1 hx
     rcases Q9.1 this with h2 | h2
     .omega
     .have:=(K2.1 d).1 _ h2
      omega
   grind
 induction aa with
 | zero=>
  intro l listed st g a w ax d ah hl al ab af ai
  have h0:l=[]:=Q1 V0
  subst h0
  cases af
  refine ⟨?_,hQ g a w ai⟩
  cases hr:Region.ready .any ops listed with
  | nil=> rfl
  | cons i r=>
   have hm:i∈Region.ready .any ops listed:=by rw [hr];simp
   obtain ⟨h1,o,ho,_⟩:=mem_ready.1 hm
   grind
 | succ aa ih=>
  intro l listed st g a w ax d ah hl al ab af ai
  refine ⟨fun hr=> ?_,fun i hi=> ?_⟩
  .have h0:=done l listed d ah hl al hr
   subst h0
   cases af
   grind
  .obtain ⟨h1,o,ho,ae⟩:=mem_ready.1 hi
   have aj:=(QE.1 ho).1
   rw [ak listed i ah aj] at h1
   have bd:=(hl i aj).1 h1
   obtain ⟨pre,post,rfl⟩:=List.append_of_mem bd
   have az:∀ k∈pre,ZFb ops fp k i:=by
    intro k hk
    have bg:k < i:=by
     have:=XV.1 d
     exact this.2.2 k hk i (by simp)
    rcases hpair k i bg aj with h2 | h2
    .have h3:=Zc4 ab 5 k i o ho ae h2
     grind
    .exact h2
   obtain ⟨o',ps,e,h2,h3,h4,_,h6⟩:=ZHb pre st st' af az
   rw [ho] at h2
   cases h2
   unfold wpOp
   simp only [ho]
   have aq:=ZcB (K:=wpAny P .any ops Q aa (listed.setIfInBounds i true)) (Q:=Q) ok hΓ ai h3 h4 (by
    intro g' a' w' ar
    refine ih (pre++post) (listed.setIfInBounds i true) _ g' a' w' ?_ ?_ ?_ ?_ ?_ ?_ h6 ar
    .grind
    .exact d.sublist (List.Sublist.append_left (List.sublist_cons_self i post) pre)
    .simp [ah]
    .intro j hj
     by_cases hij:i=j
     .subst hij
      have bc:i∉pre++post:=by
       have hp:=XV.1 d
       intro hm
       rcases Qj.1 hm with hm | hm
       .grind
       .have:=(K2.1 hp.2.1).1 i hm;omega
      simp [Array.getD,ah,hj,bc]
     .rw [getD_set_ne false hij,hl j hj]
      grind
    .intro j hj
     exact al j (by
      grind)
    .intro j oj ao ay e he hb
     by_cases hij:i=j
     .subst hij
      rw [ho] at ao
      cases ao
      exact getD_set_true (ae e he hb)
     .rw [getD_set_ne false hij] at ay
      exact getD_set_true (ab j oj ao ay e he hb))
   split at aq
   .grind
   grind
theorem Z2t(ok:CfgOk P cfg)(hΓ:∀ f s,Γ f=some s->Contract P cfg f s):Zap P cfg Γ (Ju cfg Γ):=by
 intro B st aj g a w id ops ps Q hd d ah ak hQ
 unfold Ju at hd
 split at hd
 case h_2=> cases hd
 rename_i fps hf
 simp only [Q2] at hd
 obtain ⟨ai,ab⟩:=hd
 refine wp_region_any ok.mixed ?_
 have hR:=ZbL (ops:=ops) (fps:=fps) ops.toList 0 st aj ps fps (fun j=> by simp) (fun j=> by simp) ah ak hf
 have ae:Rel cfg B st g a { w with drawn:=w.drawn+1 }:=by
  have hc:∀ b,({ w with drawn:=w.drawn+1 }:World).cell? b=w.cell? b:=fun _=> rfl
  exact ⟨⟨fun c v hv=> d.inv.im c v hv,fun c t ht=> d.inv.it c t ht⟩,
   ⟨⟨d.fr.stay.os,d.fr.stay.tape,d.fr.stay.output,d.fr.stay.size⟩,d.fr.xad,d.fr.mono,d.fr.outer,d.fr.outer',d.fr.clean,d.fr.frz⟩,d.env,d.mem,d.sz,d.df,fun t x hx=> d.ls t x hx,d.fresh⟩
 refine Zhz (fp:=fun i=> fps[i]?) ok hΓ ?_ ?_ hQ ops.size (List.range' 0 ops.toList.length) _ st g a _ (by simp) List.pairwise_lt_range' (by simp) ?_ ?_ ?_ hR ae
 .intro j o ho e he hb
  have:=ZiU ops.toList 0 ai j o (by simpa using ho) e he hb
  omega
 .intro k h aq hh
  unfold Zpr at ab
  rw [Qy] at ab
  have h1:=ab h (by simpa using hh)
  rw [Qy] at h1
  have h2:=h1 k (by grind)
  unfold ZuA at h2
  rw [XY] at h2
  rcases h2 with h2 | h2
  .exact .inl h2
  .right
   split at h2
   .rename_i x y p q hx hy hp hq
    exact ⟨x,y,p,q,by simpa using hx,by simpa using hy,hp,hq,h2⟩
   .cases h2
 .simp_all
 .grind
 .intro j o ho hl
  have hj:=(QE.1 ho).1
  simp_all
end Go.AM
namespace Go.AM
variable {U:Uni} {P:Program}
def Z5v{α:Type}:List (Nat × α)->Nat->Option α
 | [],_=> none
 | (a,x) ::r,t=> bif Nat.beq a t then some x else Z5v r t
theorem Z4a{α:Type}:∀ {l:List (Nat × α)} {t:Nat} {x:α},Z5v l t=some x->(t,x)∈l
 | (a,y) ::r,t,x,h=> by
  simp only [Z5v] at h
  cases hb:Nat.beq a t with
  | true=>
   simp_all
  | false=> simp [hb] at h;exact Q3 _ (Z4a h)
def ZpO:List (Nat × Nat × Nat × Nat)->Nat->Nat->Option (Nat × Nat)
 | [],_,_=> none
 | (a,b,x) ::r,t,f=> bif Nat.beq a t && Nat.beq b f then some x else ZpO r t f
theorem ZgV:∀ {l:List (Nat × Nat × Nat × Nat)} {t f:Nat} {x:Nat × Nat},ZpO l t f=some x->(t,f,x)∈l
 | (a,b,y) ::r,t,f,x,h=> by
  simp only [ZpO] at h
  cases hb:Nat.beq a t && Nat.beq b f with
  | true=>
   simp_all
  | false=> simp [hb] at h;exact Q3 _ (ZgV h)
structure Codec (U:Uni) where
 tyEq:DecidableEq U.Ty
 dflt:(T:U.Ty)->U.El T
 enc:(T:U.Ty)->U.El T->List (C U)
 dec:(T:U.Ty)->List (C U)->Option (U.El T)
 aggT:U.Ty->Bool
 sz:U.Ty->Nat
 bytes:U.Ty->Nat
structure CodecOk (K:Codec U):Prop where
 enc_len:∀ T x,(K.enc T x).length=K.sz T
 enc_plain:∀ T x c,c∈K.enc T x->c.plain=true
 dec_ok:∀ T cs x,K.dec T cs=some x->cs.length=(K.enc T x).length/\∀ (j:Nat) c c',cs[j]?=some c->(K.enc T x)[j]?=some c'->Wk c c'
 sz_pos:∀ T,0 < K.sz T
 bytes_pos:∀ T,0 < K.bytes T
structure Tables (U:Uni) where
 el:U.Ty->TypeId
 sl:List (Nat × U.Ty)
 var:List (Nat × Bool × List (C U))
 fld:List (Nat × Nat × Nat × Nat)
 arr:List (Nat × Nat × Nat)
 eqs:List Nat:=[]
 nif:List Nat:=[]
 mth:List (Nat × String × FuncId × Bool):=[]
def ZpN:List (Nat × String × FuncId × Bool)->Nat->String->Option (FuncId × Bool)
 | [],_,_=> none
 | (a,b,x) ::r,t,f=> bif Nat.beq a t && (b==f) then some x else ZpN r t f
theorem ZgU:∀ {l:List (Nat × String × FuncId × Bool)} {t:Nat} {f:String} {x:FuncId × Bool},ZpN l t f=some x->(t,f,x)∈l
 | (a,b,y) ::r,t,f,x,h=> by
  simp only [ZpN] at h
  cases hb:Nat.beq a t && (b==f) with
  | true=>
   simp_all
  | false=> simp [hb] at h;exact Q3 _ (ZgU h)
def Tables.cfg(K:Codec U)(T:Tables U):Cfg U:=
 {tyEq:=K.tyEq,dflt:=K.dflt,enc:=K.enc,dec:=K.dec,aggT:=K.aggT,sz:=K.sz,bytes:=K.bytes,elT:=T.el,
  slT:=Z5v T.sl,var:=Z5v T.var,fld:=ZpO T.fld,arr:=Z5v T.arr,eqs:=fun t=> T.eqs.any (Nat.beq t),
  nif:=fun t=> T.nif.any (Nat.beq t),mth:=ZpN T.mth }
def ZEt:Option (C U)->C U->Bool
 | some (.int k n),.int k' n'=> k==k' && n==n'
 | some (.bool b),.bool b'=> b==b'
 | some .nils,.nils=> true
 | some .nilp,.nilp=> true
 | _,_=> false
theorem ZAn{x:Option (C U)}{c:C U}(h:ZEt x c=true):x=some c:=by
 unfold ZEt at h
 grind
def ZAm:List Value->List (C U)->Bool
 | [],[]=> true
 | v ::r,c ::s=> ZEt (Z05 v) c && ZAm r s
 | _,_=> false
theorem Zqn:∀ {vs:List Value} {cs:List (C U)},ZAm vs cs=true->vs.map Z05=cs.map some
 | [],[],_=> rfl
 | v ::r,c ::s,h=> by
  simp only [ZAm,Q2] at h
  simp [ZAn h.1,Zqn h.2]
def Zsv(ag:Bool)(z:Value)(zs:List (C U)):Bool:=
 (match z,ag with
  | .agg _,true=> true
  | .agg _,false=> false
  | .tuple _,_=> false
  | _,false=> true
  | _,true=> false) && ZAm z.cells.toList zs
theorem Zsu{ag:Bool}{z:Value}{zs:List (C U)}(h:Zsv ag z zs=true):ZAD ag z zs:=by
 unfold Zsv at h
 simp only [Q2] at h
 obtain ⟨h1,h2⟩:=h
 refine ⟨fun d=> ?_,fun d=> ?_,Zqn h2⟩
 .grind
 .subst d
  cases z <;> first | rfl | (simp at h1;done)
def Zqd:List (C U)->TypeDesc->Bool
 | [.int k _],.int k'=> k==k'
 | [.int _ _],_=> false
 | [.bool _],.bool=> true
 | [.bool _],_=> false
 | [.nilp],.pointer _=> true
 | [.nilp],_=> false
 | _,_=> true
def ZyA(P:Program)(x:Nat × Bool × List (C U)):Bool:=
 match P.info? x.1,P.underlying x.1 with
 | some i,some d=> (Nat.beq i.size x.2.2.length && Nat.blt 0 x.2.2.length) && (TypeDesc.ag d==x.2.1) &&
  (match i.zero with | some z=> Zsv x.2.1 z x.2.2 | none=> false) && (x.2.1 || Zqd x.2.2 d) &&
  (match d with
   | .struct fs=> fs.toList.all fun fd=> (P.info? fd.type).isSome
   | .array _ e=> (P.info? e).isSome
   | _=> true)
 | _,_=> false
def slB(P:Program)(el:U.Ty->TypeId)(x:Nat × U.Ty):Bool:=
 match P.underlying x.1 with
 | some (.slice e)=> Nat.beq e (el x.2)
 | _=> false
def ZEs(P:Program)(x:Nat × Nat × Nat × Nat):Bool:=
 match P.underlying x.1 with
 | some (.struct fs)=> match fs.toList[x.2.1]? with
  | some fd=> Nat.beq fd.offset x.2.2.1 && Nat.beq fd.type x.2.2.2
  | none=> false
 | _=> false
def ZEZ(P:Program)(x:Nat × Nat × Nat):Bool:=
 match P.underlying x.1 with
 | some (.array n e)=> Nat.beq n x.2.1 && Nat.beq e x.2.2
 | _=> false
def eqK(P:Program)(z:Option (C U))(t:TypeId):Bool:=
 match z,P.underlying t with
 | some (.int _ _),some (.int _)=> true
 | some (.bool _),some .bool=> true
 | _,_=> false
def eqB(P:Program)(var:List (Nat × Bool × List (C U)))(t:Nat):Bool:=
 match P.underlying t with
 | some (.struct fs)=> (match Z5v var t with
   | some (_,zs)=> Nat.beq zs.length fs.size
   | none=> true) && !P.stoodInHeld t && !P.eqGuardType P.depth t &&
  ((List.range fs.size).all fun i=> match fs[i]? with
   | some f => f.name != "_" && Nat.beq f.offset i && (match Z5v var t with
    | some (_,zs)=> eqK P zs[i]? f.type
    | none=> true)
   | none=> false)
 | _=> false
def elB(P:Program)(K:Codec U)(T:Tables U)(t:U.Ty):Bool:=
 match P.info? (T.el t),Z5v T.var (T.el t) with
 | some i,some (_,zs)=> Nat.beq i.size (K.sz t) && Nat.beq i.bytes (K.bytes t) && i.zero.isSome && Nat.beq zs.length (K.sz t)
 | _,_=> false
def ZHf(P:Program)(t:Nat):Bool:=
 match P.underlying t with
 | some (.interface _)=> false
 | some _=> true
 | none=> false
def ZHh(P:Program)(var:List (Nat × Bool × List (C U)))(x:Nat × String × FuncId × Bool):Bool:=
 match P.info? x.1,P.underlying x.1 with
 | some i,some (.pointer e)=> match i.methods.find? (·.name==x.2.1) with
  | some m=> m.path.toList.isEmpty && (match m.func with
   | some (g,b)=> Nat.beq g x.2.2.1 && (b== !x.2.2.2)
   | none=> false) && (!x.2.2.2 || match Z5v var e with
    | some (false,[_])=> true
    | _=> false)
  | none=> false
 | _,_=> false
theorem Zr8 {K:Codec U} (ck:CodecOk K) {T:Tables U} (hv:T.var.all (ZyA P)=true) (hs:T.sl.all (slB P T.el)=true) (hf:T.fld.all (ZEs P)=true) (ha:T.arr.all (ZEZ P)=true)
  (he:∀ t,elB P K T t=true) (hm:P.follows .mixedOrders=true) (hq:T.eqs.all (eqB P T.var)=true) (hn:T.nif.all (ZHf P)=true) (hme:T.mth.all (ZHh P T.var)=true):CfgOk P (T.cfg K):=by
 refine ⟨ck.enc_len,ck.enc_plain,ck.dec_ok,ck.sz_pos,ck.bytes_pos,?_,?_,?_,?_,?_,hm,?_,?_,?_,?_⟩
 .intro t
  have h:=he t
  unfold elB at h
  split at h
  .rename_i i ag zs h1 h2
   simp only [Q2] at h
   obtain ⟨⟨⟨h3,h4⟩,h5⟩,h6⟩:=h
   obtain ⟨z,hz⟩:=QY.1 h5
   exact ⟨i,ag,zs,z,h1,Qc h3,Qc h4,hz,h2,Qc h6⟩
  .cases h
 .intro t S h
  have:=Qy.1 hs _ (Z4a h)
  unfold slB at this
  simp only at this
  split at this
  .rename_i e hu
   rw [hu,Qc this];try rfl
  .cases this
 .intro t ag zs h
  have:=Qy.1 hv _ (Z4a h)
  unfold ZyA at this
  simp only at this
  split at this
  .rename_i i d hi hu
   simp only [Q2] at this
   obtain ⟨⟨⟨⟨⟨h1,h2⟩,h3⟩,h4⟩,h5⟩,h6⟩:=this
   split at h4
   .rename_i z hz
    refine ⟨Nat.blt_eq.mp h2,i,z,d,hi,hu,Qc h1,by simpa using h3,hz,Zsu h4,?_,?_,?_,?_⟩
    .intro ao k n am
     subst ao
     simp only [XN] at h5
     subst am
     unfold Zqd at h5
     split at h5 <;> simp_all
    .intro ao b am
     subst ao
     simp only [XN] at h5
     subst am
     unfold Zqd at h5
     split at h5 <;> simp_all
    .intro fs hd
     subst hd
     exact h6
    .intro n e hd
     subst hd
     exact h6
   .cases h4
  .cases this
 .intro s f ba t h
  have:=Qy.1 hf _ (ZgV h)
  unfold ZEs at this
  simp only at this
  split at this
  .rename_i fs hu
   split at this
   .rename_i fd a2
    simp only [Q2] at this
    exact ⟨fs,fd,hu,by simpa using a2,Nat.eq_of_beq_eq_true this.1,Nat.eq_of_beq_eq_true this.2⟩
   .cases this
  .cases this
 .intro t n e h
  have:=Qy.1 ha _ (Z4a h)
  unfold ZEZ at this
  simp only at this
  split at this
  .rename_i n' e' hu
   simp only [Q2] at this
   rw [hu,Qc this.1,Qc this.2]
  .cases this
 .intro t ht
  obtain ⟨t',h1,h2⟩:=Kd.1 ht
  have e:=Qc h2
  subst e
  have h3:=Qy.1 hq _ h1
  unfold eqB at h3
  split at h3
  .rename_i fs hu
   simp only [Q2,QQ] at h3
   obtain ⟨⟨⟨h4,h5⟩,h6⟩,h7⟩:=h3
   refine ⟨fs,hu,fun ag zs hz=> ?_,h5,h6,fun i f hf=> ?_⟩
   .have aq:Z5v T.var t=some (ag,zs):=hz
    rw [aq] at h4
    exact Qc h4
   .have hi:=(QE.1 hf).1
    have h8:=Qy.1 h7 i (by simpa using hi)
    rw [hf] at h8
    simp only [Q2,bne_iff_ne,ne_eq] at h8
    refine ⟨h8.1.1,Qc h8.1.2,fun ag zs hz=> ?_⟩
    have h9:=h8.2
    have aq:Z5v T.var t=some (ag,zs):=hz
    rw [aq] at h9
    dsimp only at h9
    unfold eqK at h9
    split at h9
    .rename_i e1 e2
     exact ⟨fun _ _ _=> ⟨_,e2⟩,fun _ h=> by (rw [e1] at h;cases h)⟩
    .rename_i e1 e2
     exact ⟨fun _ _ h=> by (rw [e1] at h;cases h),fun _ _=> e2⟩
    .cases h9
  .cases h3
 .intro t h
  have:=Qy.1 hv _ (Z4a h)
  unfold ZyA at this
  simp only at this
  split at this
  .rename_i i d hi hu
   simp only [Q2] at this
   obtain ⟨⟨_,h5⟩,_⟩:=this
   cases d <;> first | exact ⟨_,hu⟩ | (simp [Zqd] at h5;done)
  .cases this
 .intro t ht
  obtain ⟨t',h1,h2⟩:=Kd.1 ht
  have e:=Qc h2
  subst e
  have h3:=Qy.1 hn _ h1
  unfold ZHf at h3
  split at h3
  .cases h3
  .rename_i d hd a1
   exact ⟨d,a1,fun m e=> hd m (by rw [<-e])⟩
  .cases h3
 .intro t a8 f vr h
  have h3:=Qy.1 hme _ (ZgU h)
  unfold ZHh at h3
  split at h3
  .rename_i i e h1 h2
   split at h3
   .rename_i m h4
    simp only [Q2] at h3
    obtain ⟨⟨h5,h6⟩,h7⟩:=h3
    split at h6
    .rename_i g b h8
     simp only [Q2,beq_iff_eq] at h6
     refine ⟨i,m,e,h1,h4,?_,?_,h2,fun hv=> ?_⟩
     .apply QM
      exact List.isEmpty_iff.1 h5
     .rw [h8,Qc h6.1,h6.2]
     .subst hv
      simp only [K7,XN] at h7
      split at h7
      .rename_i z hz
       exact ⟨z,hz⟩
      .cases h7
    .cases h6
   .cases h3
  .cases h3
end Go.AM
namespace Go.AM
structure WEdit where
 at_:Int
 mask:Int
 old:Int
 new:Int
inductive Tree where
 | mk (kind:Int) (words:List Int) (kids:List Tree)
def Tree.kind:Tree->Int | .mk k _ _=> k
def Tree.words:Tree->List Int | .mk _ w _=> w
def Tree.kids:Tree->List Tree | .mk _ _ k=> k
@[simp] theorem Tree.eta (t:Tree):Tree.mk t.kind t.words t.kids=t:=by cases t;rfl
@[simp] theorem Tree.kind_mk (k:Int) (w:List Int) (ks:List Tree):(Tree.mk k w ks).kind=k:=rfl
@[simp] theorem Tree.words_mk (k:Int) (w:List Int) (ks:List Tree):(Tree.mk k w ks).words=w:=rfl
@[simp] theorem Tree.kids_mk (k:Int) (w:List Int) (ks:List Tree):(Tree.mk k w ks).kids=ks:=rfl
structure KidOf (E:Type) where
 at_:Int
 e:E
structure OpOf (E:Type) where
 kind:Int
 n:Int
 l:List Tree
 e:E
inductive Edit where
 | mk (kind:Int) (old new:Tree) (words:List WEdit) (kids:List (KidOf Edit)) (list:Int) (ops:List (OpOf Edit))
abbrev Kid:=KidOf Edit
abbrev Op:=OpOf Edit
def Edit.kind:Edit->Int | .mk k _ _ _ _ _ _=> k
def Edit.old:Edit->Tree | .mk _ o _ _ _ _ _=> o
def Edit.new:Edit->Tree | .mk _ _ n _ _ _ _=> n
def Edit.words:Edit->List WEdit | .mk _ _ _ w _ _ _=> w
def Edit.kids:Edit->List Kid | .mk _ _ _ _ k _ _=> k
def Edit.list:Edit->Int | .mk _ _ _ _ _ l _=> l
def Edit.ops:Edit->List Op | .mk _ _ _ _ _ _ o=> o
@[simp] theorem Edit.eta (e:Edit):Edit.mk e.kind e.old e.new e.words e.kids e.list e.ops=e:=by cases e;rfl
section
variable (k:Int) (o n:Tree) (w:List WEdit) (ks:List Kid) (l:Int) (os:List Op)
@[simp] theorem Edit.kind_mk:(Edit.mk k o n w ks l os).kind=k:=rfl
@[simp] theorem Edit.old_mk:(Edit.mk k o n w ks l os).old=o:=rfl
@[simp] theorem Edit.new_mk:(Edit.mk k o n w ks l os).new=n:=rfl
@[simp] theorem Edit.words_mk:(Edit.mk k o n w ks l os).words=w:=rfl
@[simp] theorem Edit.kids_mk:(Edit.mk k o n w ks l os).kids=ks:=rfl
@[simp] theorem Edit.list_mk:(Edit.mk k o n w ks l os).list=l:=rfl
@[simp] theorem Edit.ops_mk:(Edit.mk k o n w ks l os).ops=os:=rfl
end
def Tree.nil:Tree:= .mk 0 [] []
def Edit.nil:Edit:= .mk 0 Tree.nil Tree.nil [] [] 0 []
def Op.nil:Op:=⟨0,0,[],Edit.nil⟩
structure AUnit where
 step:Int
 kind:Int
 t:Tree
 e:Edit
 alone:Bool
structure APair where
 of:Int
 p:AUnit
 q:AUnit
structure Piece where
 of:Int
 p:Op
 q:Op
structure PStep where
 kind:Int
 at_:Int
structure SStep where
 kind:Int
 n:Int
structure Two where
 i:Int
 j:Int
structure Three where
 p:Two
 score:Int
structure Conflict where
 path:List PStep
 base:Tree
 ours:Tree
 theirs:Tree
inductive Ty where
 | u64 | u8 | int | tree | wedit | edit | kid | op | piece | step | irow | krow | sstep | two | three | conflict
 deriving DecidableEq
@[reducible] def El:Ty->Type
 | .u64=> Int
 | .u8=> Int
 | .int=> Int
 | .tree=> Tree
 | .wedit=> WEdit
 | .edit=> Edit
 | .kid=> Kid
 | .op=> Op
 | .piece=> Piece
 | .step=> PStep
 | .irow=> List Int
 | .krow=> List Kid
 | .sstep=> SStep
 | .two=> Two
 | .three=> Three
 | .conflict=> Conflict
@[reducible] def U:Uni:={ Ty:=Ty,El:=El }
abbrev sl(T:Ty)(l:List (El T)):C U:= .slice (U:=U) T l .unk
def ZBW(x:Tree):List (C U):=[.int .i64 x.kind,sl .u64 x.words,sl .tree x.kids]
def Zwn(x:WEdit):List (C U):=[.int .i64 x.at_,.int .u8 x.mask,.int .u64 x.old,.int .u64 x.new]
def ZBY(x:Edit):List (C U):=[.int .i64 x.kind,.int .i64 x.old.kind,sl .u64 x.old.words,sl .tree x.old.kids,.int .i64 x.new.kind,sl .u64 x.new.words,sl .tree x.new.kids,sl .wedit x.words,sl .kid x.kids,.int .i64 x.list,sl .op x.ops]
def ZHA(x:Kid):List (C U):=[.int .i64 x.at_,.int .i64 x.e.kind,.int .i64 x.e.old.kind,sl .u64 x.e.old.words,sl .tree x.e.old.kids,.int .i64 x.e.new.kind,sl .u64 x.e.new.words,sl .tree x.e.new.kids,sl .wedit x.e.words,sl .kid x.e.kids,.int .i64 x.e.list,sl .op x.e.ops]
def eOp(x:Op):List (C U):=[.int .i64 x.kind,.int .i64 x.n,sl .tree x.l,.int .i64 x.e.kind,.int .i64 x.e.old.kind,sl .u64 x.e.old.words,sl .tree x.e.old.kids,.int .i64 x.e.new.kind,sl .u64 x.e.new.words,sl .tree x.e.new.kids,sl .wedit x.e.words,sl .kid x.e.kids,.int .i64 x.e.list,sl .op x.e.ops]
def Zwq(x:Piece):List (C U):=[.int .i64 x.of,.int .i64 x.p.kind,.int .i64 x.p.n,sl .tree x.p.l,.int .i64 x.p.e.kind,.int .i64 x.p.e.old.kind,sl .u64 x.p.e.old.words,sl .tree x.p.e.old.kids,.int .i64 x.p.e.new.kind,sl .u64 x.p.e.new.words,sl .tree x.p.e.new.kids,sl .wedit x.p.e.words,sl .kid x.p.e.kids,.int .i64 x.p.e.list,sl .op x.p.e.ops,.int .i64 x.q.kind,.int .i64 x.q.n,sl .tree x.q.l,.int .i64 x.q.e.kind,.int .i64 x.q.e.old.kind,sl .u64 x.q.e.old.words,sl .tree x.q.e.old.kids,.int .i64 x.q.e.new.kind,sl .u64 x.q.e.new.words,sl .tree x.q.e.new.kids,sl .wedit x.q.e.words,sl .kid x.q.e.kids,.int .i64 x.q.e.list,sl .op x.q.e.ops]
def ZBX(x:PStep):List (C U):=[.int .i64 x.kind,.int .i64 x.at_]
def Zwp(x:SStep):List (C U):=[.int .i64 x.kind,.int .i64 x.n]
def ZHz(x:Two):List (C U):=[.int .i64 x.i,.int .i64 x.j]
def Zwo(x:Three):List (C U):=[.int .i64 x.p.i,.int .i64 x.p.j,.int .i64 x.score]
def Zh9(x:Conflict):List (C U):=[sl .step x.path,.int .i64 x.base.kind,sl .u64 x.base.words,sl .tree x.base.kids,.int .i64 x.ours.kind,sl .u64 x.ours.words,sl .tree x.ours.kids,.int .i64 x.theirs.kind,sl .u64 x.theirs.words,sl .tree x.theirs.kids]
def enc:(T:Ty)->El T->List (C U)
 | .u64,n=> [.int .u64 n]
 | .u8,n=> [.int .u8 n]
 | .int,n=> [.int .i64 n]
 | .tree,x=> ZBW x
 | .wedit,x=> Zwn x
 | .edit,x=> ZBY x
 | .kid,x=> ZHA x
 | .op,x=> eOp x
 | .piece,x=> Zwq x
 | .step,x=> ZBX x
 | .irow,l=> [sl .int l]
 | .krow,l=> [sl .kid l]
 | .sstep,x=> Zwp x
 | .two,x=> ZHz x
 | .three,x=> Zwo x
 | .conflict,x=> Zh9 x
abbrev Rd(α:Type):=List (C U)->Option (α × List (C U))
def Z2L(k:IntKind):Rd Int
 | .int k' n ::r=> if k=k' then some (n,r) else none
 | _=> none
def rSl(T:Ty):Rd (List (El T))
 | .nils ::r=> some ([],r)
 | .slice S l _ ::r=> match (inferInstance:DecidableEq Ty) S T with
  | isTrue h=> some (h▸l,r)
  | isFalse _=> none
 | _=> none
def Yv{α β:Type}(x:Rd α)(f:α->Rd β):Rd β:=fun cs=> match x cs with
 | some (a,r)=> f a r
 | none=> none
def Z5V{α:Type}(a:α):Rd α:=fun cs=> some (a,cs)
def WkL:List (C U)->List (C U)->Prop
 | [],[]=> True
 | c ::r,c' ::r'=> Wk c c'/\WkL r r'
 | _,_=> False
theorem WkL.append:∀ {a b c d:List (C U)},WkL a b->WkL c d->WkL (a++c) (b++d)
 | [],[],_,_,_,h=> h
 | _ ::_,_ ::_,_,_,h,k=> ⟨h.1,WkL.append h.2 k⟩
theorem WkL.get:∀ {a b:List (C U)},WkL a b->a.length=b.length/\∀ (j:Nat) c c',a[j]?=some c->b[j]?=some c'->Wk c c'
 | [],[],_=> ⟨rfl,fun j c c' h=> by simp at h⟩
 | x ::a,y ::b,h=> by
  obtain ⟨h1,h2⟩:=WkL.get h.2
  refine ⟨by simp [h1],fun j c c' hc d=> ?_⟩
  cases j with
  | zero=> simp at hc d;subst hc d;exact h.1
  | succ j=> exact h2 j c c' (by simpa using hc) (by simpa using d)
def Z34{α:Type}(r:Rd α)(e:α->List (C U)):Prop:=∀ cs x rest,r cs=some (x,rest)->∃ p,cs=p++rest/\WkL p (e x)
theorem ZQ(k:IntKind):Z34 (Z2L k) fun n=> [.int k n]:=by
 intro cs x d h
 unfold Z2L at h
 split at h
 .split at h
  .rename_i hk
   subst hk
   cases h
   exact ⟨[_],rfl,.int _ _,trivial⟩
  .cases h
 .cases h
theorem Z0I(T:Ty):Z34 (rSl T) fun l=> [sl T l]:=by
 intro cs x aa h
 unfold rSl at h
 split at h
 .cases h;exact ⟨[_],rfl,(Wk.snil (U:=U) T:Wk (U:=U) .nils (.slice T [] .unk)),trivial⟩
 .split at h
  .rename_i d _
   subst d
   cases h
   exact ⟨[_],rfl,.slice _ _ _,trivial⟩
  .cases h
 .cases h
theorem YE{α β:Type}{x:Rd α}{f:α->Rd β}{ex:α->List (C U)}(hx:Z34 x ex){cs:List (C U)}{b:β}{rest:List (C U)}(h:Yv x f cs=some (b,rest)):
  ∃ a p r,cs=p++r/\WkL p (ex a)/\f a r=some (b,rest):=by
 unfold Yv at h
 split at h
 .rename_i a r d
  obtain ⟨p,rfl,h1⟩:=hx _ _ _ d
  exact ⟨a,p,r,rfl,h1,h⟩
 .cases h
def Zen:Rd Tree:=Yv (Z2L .i64) fun x0=> Yv (rSl .u64) fun d=> Yv (rSl .tree) fun x2=> Z5V (Tree.mk x0 d x2)
theorem Z1F:Z34 Zen ZBW:=by
 intro cs x d h
 obtain ⟨x0,p0,r0,rfl,w0,h⟩:=YE (ZQ _) h
 obtain ⟨x1,p1,r1,rfl,w1,h⟩:=YE (Z0I _) h
 obtain ⟨x2,p2,r2,rfl,w2,h⟩:=YE (Z0I _) h
 cases h
 exact ⟨p0++(p1++(p2)),by simp,w0.append (w1.append (w2))⟩
def Zua:Rd WEdit:=Yv (Z2L .i64) fun x0=> Yv (Z2L .u8) fun d=> Yv (Z2L .u64) fun x2=> Yv (Z2L .u64) fun x3=> Z5V (WEdit.mk x0 d x2 x3)
theorem Zkf:Z34 Zua Zwn:=by
 intro cs x d h
 obtain ⟨x0,p0,r0,rfl,w0,h⟩:=YE (ZQ _) h
 obtain ⟨x1,p1,r1,rfl,w1,h⟩:=YE (ZQ _) h
 obtain ⟨x2,p2,r2,rfl,w2,h⟩:=YE (ZQ _) h
 obtain ⟨x3,p3,r3,rfl,w3,h⟩:=YE (ZQ _) h
 cases h
 exact ⟨p0++(p1++(p2++(p3))),by simp,w0.append (w1.append (w2.append (w3)))⟩
def Zpd:Rd Edit:=Yv (Z2L .i64) fun x0=> Yv Zen fun d=> Yv Zen fun x2=> Yv (rSl .wedit) fun x3=> Yv (rSl .kid) fun x4=> Yv (Z2L .i64) fun x5=> Yv (rSl .op) fun x6=> Z5V (Edit.mk x0 d x2 x3 x4 x5 x6)
theorem Z7V:Z34 Zpd ZBY:=by
 intro cs x d h
 obtain ⟨x0,p0,r0,rfl,w0,h⟩:=YE (ZQ _) h
 obtain ⟨x1,p1,r1,rfl,w1,h⟩:=YE Z1F h
 obtain ⟨x2,p2,r2,rfl,w2,h⟩:=YE Z1F h
 obtain ⟨x3,p3,r3,rfl,w3,h⟩:=YE (Z0I _) h
 obtain ⟨x4,p4,r4,rfl,w4,h⟩:=YE (Z0I _) h
 obtain ⟨x5,p5,r5,rfl,w5,h⟩:=YE (ZQ _) h
 obtain ⟨x6,p6,r6,rfl,w6,h⟩:=YE (Z0I _) h
 cases h
 exact ⟨p0++(p1++(p2++(p3++(p4++(p5++(p6)))))),by simp,w0.append (w1.append (w2.append (w3.append (w4.append (w5.append (w6))))))⟩
def ZHa:Rd Kid:=Yv (Z2L .i64) fun x0=> Yv Zpd fun d=> Z5V (KidOf.mk x0 d)
theorem Zri:Z34 ZHa ZHA:=by
 intro cs x d h
 obtain ⟨x0,p0,r0,rfl,w0,h⟩:=YE (ZQ _) h
 obtain ⟨x1,p1,r1,rfl,w1,h⟩:=YE Z7V h
 cases h
 exact ⟨p0++(p1),by simp,w0.append (w1)⟩
def rOp:Rd Op:=Yv (Z2L .i64) fun x0=> Yv (Z2L .i64) fun d=> Yv (rSl .tree) fun x2=> Yv Zpd fun x3=> Z5V (OpOf.mk x0 d x2 x3)
theorem Zei:Z34 rOp eOp:=by
 intro cs x d h
 obtain ⟨x0,p0,r0,rfl,w0,h⟩:=YE (ZQ _) h
 obtain ⟨x1,p1,r1,rfl,w1,h⟩:=YE (ZQ _) h
 obtain ⟨x2,p2,r2,rfl,w2,h⟩:=YE (Z0I _) h
 obtain ⟨x3,p3,r3,rfl,w3,h⟩:=YE Z7V h
 cases h
 exact ⟨p0++(p1++(p2++(p3))),by simp,w0.append (w1.append (w2.append (w3)))⟩
def Zue:Rd Piece:=Yv (Z2L .i64) fun x0=> Yv rOp fun d=> Yv rOp fun x2=> Z5V (Piece.mk x0 d x2)
theorem Zki:Z34 Zue Zwq:=by
 intro cs x d h
 obtain ⟨x0,p0,r0,rfl,w0,h⟩:=YE (ZQ _) h
 obtain ⟨x1,p1,r1,rfl,w1,h⟩:=YE Zei h
 obtain ⟨x2,p2,r2,rfl,w2,h⟩:=YE Zei h
 cases h
 exact ⟨p0++(p1++(p2)),by simp,w0.append (w1.append (w2))⟩
def ZBK:Rd PStep:=Yv (Z2L .i64) fun x0=> Yv (Z2L .i64) fun d=> Z5V (PStep.mk x0 d)
theorem Zmx:Z34 ZBK ZBX:=by
 intro cs x d h
 obtain ⟨x0,p0,r0,rfl,w0,h⟩:=YE (ZQ _) h
 obtain ⟨x1,p1,r1,rfl,w1,h⟩:=YE (ZQ _) h
 cases h
 exact ⟨p0++(p1),by simp,w0.append (w1)⟩
def Zuc:Rd SStep:=Yv (Z2L .i64) fun x0=> Yv (Z2L .i64) fun d=> Z5V (SStep.mk x0 d)
theorem Zkh:Z34 Zuc Zwp:=by
 intro cs x d h
 obtain ⟨x0,p0,r0,rfl,w0,h⟩:=YE (ZQ _) h
 obtain ⟨x1,p1,r1,rfl,w1,h⟩:=YE (ZQ _) h
 cases h
 exact ⟨p0++(p1),by simp,w0.append (w1)⟩
def ZCw:Rd Two:=Yv (Z2L .i64) fun x0=> Yv (Z2L .i64) fun d=> Z5V (Two.mk x0 d)
theorem ZgA:Z34 ZCw ZHz:=by
 intro cs x d h
 obtain ⟨x0,p0,r0,rfl,w0,h⟩:=YE (ZQ _) h
 obtain ⟨x1,p1,r1,rfl,w1,h⟩:=YE (ZQ _) h
 cases h
 exact ⟨p0++(p1),by simp,w0.append (w1)⟩
def Zub:Rd Three:=Yv ZCw fun x0=> Yv (Z2L .i64) fun d=> Z5V (Three.mk x0 d)
theorem Zkg:Z34 Zub Zwo:=by
 intro cs x d h
 obtain ⟨x0,p0,r0,rfl,w0,h⟩:=YE ZgA h
 obtain ⟨x1,p1,r1,rfl,w1,h⟩:=YE (ZQ _) h
 cases h
 exact ⟨p0++(p1),by simp,w0.append (w1)⟩
def ZgD:Rd Conflict:=Yv (rSl .step) fun x0=> Yv Zen fun d=> Yv Zen fun x2=> Yv Zen fun x3=> Z5V (Conflict.mk x0 d x2 x3)
theorem Zej:Z34 ZgD Zh9:=by
 intro cs x d h
 obtain ⟨x0,p0,r0,rfl,w0,h⟩:=YE (Z0I _) h
 obtain ⟨x1,p1,r1,rfl,w1,h⟩:=YE Z1F h
 obtain ⟨x2,p2,r2,rfl,w2,h⟩:=YE Z1F h
 obtain ⟨x3,p3,r3,rfl,w3,h⟩:=YE Z1F h
 cases h
 exact ⟨p0++(p1++(p2++(p3))),by simp,w0.append (w1.append (w2.append (w3)))⟩
def rEl:(T:Ty)->Rd (El T)
 | .u64=> Z2L .u64
 | .u8=> Z2L .u8
 | .int=> Z2L .i64
 | .tree=> Zen
 | .wedit=> Zua
 | .edit=> Zpd
 | .kid=> ZHa
 | .op=> rOp
 | .piece=> Zue
 | .step=> ZBK
 | .irow=> rSl .int
 | .krow=> rSl .kid
 | .sstep=> Zuc
 | .two=> ZCw
 | .three=> Zub
 | .conflict=> ZgD
theorem Zkj:∀ T:Ty,Z34 (rEl T) (enc T)
 | .u64=> ZQ _
 | .u8=> ZQ _
 | .int=> ZQ _
 | .tree=> Z1F
 | .wedit=> Zkf
 | .edit=> Z7V
 | .kid=> Zri
 | .op=> Zei
 | .piece=> Zki
 | .step=> Zmx
 | .irow=> Z0I _
 | .krow=> Z0I _
 | .sstep=> Zkh
 | .two=> ZgA
 | .three=> Zkg
 | .conflict=> Zej
def dec(T:Ty)(cs:List (C U)):Option (El T):=
 match rEl T cs with
 | some (x,[])=> some x
 | _=> none
def K:Codec U:=
 {tyEq:=inferInstanceAs (DecidableEq Ty)
  dflt:=fun T=> match T with
   | .u64=> (0:Int) | .u8=> (0:Int) | .int=> (0:Int) | .tree=> Tree.nil | .wedit=> WEdit.mk 0 0 0 0 | .edit=> Edit.nil | .kid=> KidOf.mk 0 Edit.nil | .op=> Op.nil | .piece=> Piece.mk 0 Op.nil Op.nil | .step=> (PStep.mk 0 0) | .irow=> ([]:List Int) | .krow=> ([]:List Kid) | .sstep=> (SStep.mk 0 0) | .two=> (Two.mk 0 0) | .three=> Three.mk (Two.mk 0 0) 0 | .conflict=> Conflict.mk [] Tree.nil Tree.nil Tree.nil
  enc:=enc
  dec:=dec
  aggT:=fun T=> match T with | .u64 | .u8 | .int | .irow | .krow=> false | _=> true
  sz:=fun T=> match T with | .u64=> 1 | .u8=> 1 | .int=> 1 | .tree=> 3 | .wedit=> 4 | .edit=> 11 | .kid=> 12 | .op=> 14 | .piece=> 29 | .step=> 2 | .irow=> 1 | .krow=> 1 | .sstep=> 2 | .two=> 2 | .three=> 3 | .conflict=> 10
  bytes:=fun T=> match T with | .u64=> 8 | .u8=> 1 | .int=> 8 | .tree=> 56 | .wedit=> 32 | .edit=> 200 | .kid=> 208 | .op=> 240 | .piece=> 488 | .step=> 16 | .irow=> 24 | .krow=> 24 | .sstep=> 16 | .two=> 16 | .three=> 24 | .conflict=> 192 }
theorem ZJC:CodecOk K:=by
 refine ⟨?_,?_,?_,?_,?_⟩
 .intro T x
  cases T <;> rfl
 .intro T x c hc
  have h:(enc T x).all C.plain=true:=by cases T <;> rfl
  exact Qy.1 h c hc
 .intro T cs x h
  have d:dec T cs=some x:=h
  unfold dec at d
  split at d
  .rename_i y he
   cases d
   obtain ⟨p,hp,hw⟩:=Zkj T _ _ _ he
   rw [Qh] at hp
   subst hp
   exact hw.get
  .cases d
 .intro T;cases T <;> decide
 .intro T;cases T <;> decide
theorem ZAp(T:Ty)(x:El T):dec T (enc T x)=some x:=by
 cases T with
 | u64=> rfl
 | u8=> rfl
 | int=> rfl
 | tree=> cases x;rfl
 | wedit=> rfl
 | edit=> obtain ⟨k,⟨_,_,_⟩,⟨_,_,_⟩,w,ks,l,os⟩:=x;rfl
 | kid=> obtain ⟨a,⟨k,⟨_,_,_⟩,⟨_,_,_⟩,w,ks,l,os⟩⟩:=x;rfl
 | op=> obtain ⟨a,b,c,⟨k,⟨_,_,_⟩,⟨_,_,_⟩,w,ks,l,os⟩⟩:=x;rfl
 | piece=> obtain ⟨_,⟨_,_,_,⟨_,⟨_,_,_⟩,⟨_,_,_⟩,_,_,_,_⟩⟩,⟨_,_,_,⟨_,⟨_,_,_⟩,⟨_,_,_⟩,_,_,_,_⟩⟩⟩:=x;rfl
 | step=> rfl
 | irow=> rfl
 | krow=> rfl
 | sstep=> rfl
 | two=> rfl
 | three=> obtain ⟨⟨_,_⟩,_⟩:=x;rfl
 | conflict=> obtain ⟨_,⟨_,_,_⟩,⟨_,_,_⟩,⟨_,_,_⟩⟩:=x;rfl
def ZaP(x:Tree):Tree:=Tree.mk (Tree.kind x) (Tree.words x) (Tree.kids x)
@[simp] theorem Z3 (x:Tree):ZaP x=x:=Tree.eta x
def ZyQ(x:WEdit):WEdit:=WEdit.mk (WEdit.at_ x) (WEdit.mask x) (WEdit.old x) (WEdit.new x)
@[simp] theorem Z4S (x:WEdit):ZyQ x=x:=rfl
def Z5U(x:Edit):Edit:=Edit.mk (Edit.kind x) (ZaP (Edit.old x)) (ZaP (Edit.new x)) (Edit.words x) (Edit.kids x) (Edit.list x) (Edit.ops x)
@[simp] theorem Zg (x:Edit):Z5U x=x:=by unfold Z5U;rw [Z3,Z3];exact Edit.eta x
def ZBI(x:Kid):Kid:=KidOf.mk (KidOf.at_ x) (Z5U (KidOf.e x))
@[simp] theorem Zek (x:Kid):ZBI x=x:=by unfold ZBI;rw [Zg]
def ZyT(x:Op):Op:=OpOf.mk (OpOf.kind x) (OpOf.n x) (OpOf.l x) (Z5U (OpOf.e x))
@[simp] theorem Z0v (x:Op):ZyT x=x:=by unfold ZyT;rw [Zg]
def Zp9(x:Piece):Piece:=Piece.mk (Piece.of x) (ZyT (Piece.p x)) (ZyT (Piece.q x))
@[simp] theorem ZmA (x:Piece):Zp9 x=x:=by unfold Zp9;rw [Z0v,Z0v]
def ZCu(x:PStep):PStep:=PStep.mk (PStep.kind x) (PStep.at_ x)
@[simp] theorem ZGx (x:PStep):ZCu x=x:=rfl
def ZyS(x:SStep):SStep:=SStep.mk (SStep.kind x) (SStep.n x)
@[simp] theorem Zmz (x:SStep):ZyS x=x:=rfl
def ZBH(x:Two):Two:=Two.mk (Two.i x) (Two.j x)
@[simp] theorem ZH9 (x:Two):ZBH x=x:=rfl
def ZyR(x:Three):Three:=Three.mk (ZBH (Three.p x)) (Three.score x)
@[simp] theorem ZCt (x:Three):ZyR x=x:=rfl
def Zel(x:Conflict):Conflict:=Conflict.mk (Conflict.path x) (ZaP (Conflict.base x)) (ZaP (Conflict.ours x)) (ZaP (Conflict.theirs x))
@[simp] theorem ZxI (x:Conflict):Zel x=x:=by unfold Zel;rw [Z3,Z3,Z3]
end Go.AM
namespace Go.AM
variable {P:Program} {cfg:Cfg U}
structure ArgL (α:Type) where
 get:List (V U)->Option α
 can:α->List (V U)
 ok:∀ cfg:Cfg U,cfg.enc=enc->∀ xs a,get xs=some a->xs.length=(can a).length/\∀ (j:Nat) x y,xs[j]?=some x->(can a)[j]?=some y->ZfB cfg x y
structure Arg (α:Type) where
 get:V U->Option α
 can:α->V U
 ok:∀ cfg:Cfg U,cfg.enc=enc->∀ x a,get x=some a->ZfB cfg x (can a)
def ArgL.nil:ArgL Unit:=
 {get:=fun xs=> match xs with
   | []=> some ()
   | _ ::_=> none
  can:=fun _=> []
  ok:=by
   grind }
def ArgL.cons{α β:Type}(A:Arg α)(B:ArgL β):ArgL (α × β):=
 {get:=fun xs=> match xs with
   | x ::r=> match A.get x with
    | some a=> match B.get r with
     | some b=> some (a,b)
     | none=> none
    | none=> none
   | []=> none
  can:=fun p=> A.can p.1 ::B.can p.2
  ok:=by
   intro cfg hc xs p h
   cases xs with
   | nil=> cases h
   | cons x r=>
    simp only at h
    split at h
    .rename_i a ha
     split at h
     .rename_i b hb
      cases h
      obtain ⟨h1,h2⟩:=B.ok cfg hc r b hb
      refine ⟨by simp [h1],fun j x' y hx hy=> ?_⟩
      cases j with
      | zero=> simp at hx hy;subst hx hy;exact A.ok cfg hc x a ha
      | succ j=> grind
     .cases h
    .cases h }
theorem Zbu{a b:C U}(h:Wk a b):ZfB cfg (.c a) (.c b):=by
 intro g aa v d
 refine ⟨d.1.wk h,?_⟩
 cases h with
 | snil=> trivial
 | slice=> trivial
 | _=> exact d.2
theorem Zo5{a b:List (C U)}(h:WkL a b):ZfB cfg (.agg a) (.agg b):=by
 intro g d v hr
 obtain ⟨vs,rfl,h1,h2⟩:=hr
 obtain ⟨h3,h4⟩:=h.get
 refine ⟨vs,rfl,by rw [h1,h3],fun j u c hu hc=> ?_⟩
 have hj:j < a.length:=by have:=(Q4.1 hc).1;omega
 have ha:=Q0 hj
 exact Zbu (cfg:=cfg) (h4 j _ c ha hc) g d u (h2 j u _ hu ha)
def aEl(T:Ty):Arg (El T):=
 {get:=fun v=> match v with
   | .agg cs=> dec T cs
   | _=> none
  can:=fun x=> .agg (enc T x)
  ok:=by
   intro cfg _ v a h
   cases v <;> simp only [reduceCtorEq] at h
   rename_i cs
   unfold dec at h
   split at h
   .rename_i y he
    cases h
    obtain ⟨p,hp,hw⟩:=Zkj T _ _ _ he
    rw [Qh] at hp
    subst hp
    exact Zo5 hw
   .cases h }
def Y6(k:IntKind):Arg Int:=
 {get:=fun v=> match v with
   | .c (.int k' n)=> if k=k' then some n else none
   | _=> none
  can:=fun n=> .c (.int k n)
  ok:=by
   intro cfg _ v a h
   split at h
   .split at h
    .rename_i hk;subst hk;cases h;exact fun _ _ _ h=> h
    .cases h
   .cases h }
def ZCc:Arg Bool:=
 {get:=fun v=> match v with
   | .c (.bool b)=> some b
   | _=> none
  can:=fun b=> .c (.bool b)
  ok:=by
   intro cfg _ v a h
   split at h
   .cases h;exact fun _ _ _ h=> h
   .cases h }
theorem ZxL{p:List (C U)}{c:C U}(h:WkL p [c]):∃ y,p=[y]/\Wk y c:=by
 cases p with
 | nil=> exact h.elim
 | cons y r=> cases r with
  | nil=> exact ⟨y,rfl,h.1⟩
  | cons z r=> exact h.2.elim
theorem Zud{T:Ty}{x:C U}{l:List (El T)}{r:List (C U)}(h:rSl T [x]=some (l,r)):Wk x (sl T l):=by
 obtain ⟨p,hp,d⟩:=Z0I T _ _ _ h
 obtain ⟨y,rfl,aa⟩:=ZxL d
 grind
def aSl(T:Ty):Arg (List (El T)):=
 {get:=fun v=> match v with
   | .c x=> match rSl T [x] with
    | some (l,_)=> some l
    | none=> none
   | _=> none
  can:=fun l=> .c (sl T l)
  ok:=by
   intro cfg _ v a h
   split at h
   .split at h
    .rename_i l r hr
     cases h
     exact Zbu (Zud hr)
    .cases h
   .cases h }
def fs{α:Type}(A:ArgL α)(pre:α->List Prop)(res:α->V U):Fs U:=
 {fn:=fun xs X=> match X with
   | []=> match A.get xs with
    | some a=> some (pre a,res a,[])
    | none=> none
   | _ ::_=> none }
theorem Zw {Γ:Known U} {α:Type} {A:ArgL α} {pre:α->List Prop} {res:α->V U} (ok:CfgOk P cfg) (henc:cfg.enc=enc) (hΓ:∀ f s,Γ f=some s->Contract P cfg f s) {f:FuncId} {fn:Func} (lv:Zb U)
  (hf : P.funcs[f]? = some fn) (hb : fn.body = some (cd fn [])) (hname : (fn.name == "runtime.NumGoroutine") = false) (hn : ∀ a, (A.can a).length ≤ fn.ntmps)
  (hbody:∀ a,All (pre a)->awp cfg Γ (Ju cfg Γ) fn.ntmps lv (cd fn []) (Zf (A.can a) []) (JZ cfg fn.ntmps fn.results.toList (res a) [])):Contract P cfg f (fs A pre res):=by
 refine Zcy ok hΓ (Z2t ok hΓ) lv hf hb hname ?_
 intro args X ps r X' d aa
 unfold fs at d
 simp only at d
 split at d
 .split at d
  .rename_i a ha
   cases d
   obtain ⟨h1,h2⟩:=A.ok cfg henc args a ha
   exact ⟨A.can a,[],⟨h1,h2,rfl,fun k x y hx=> by simp at hx,fun k x y hx=> by simp at hx⟩,hn a,hbody a aa⟩
  .cases d
 .cases d
end Go.AM
namespace Go.AM
theorem ZwK{a b:Bool}:((bif a then true else b)=true)=(a=true\/b=true):=by grind
theorem Zj0{a b:Bool}:((bif a then b else false)=true)=(a=true/\b=true):=by grind
theorem ZAv{a b:Bool}:((bif a then true else b)=false)=(a=false/\b=false):=by grind
theorem ZAw{a b:Bool}:((bif a then b else false)=false)=(a=false\/b=false):=by grind
theorem vcS:(∀ {a b:Bool},((bif a then true else b)=true)=(a=true\/b=true))/\(∀ {a b:Bool},((bif a then b else false)=true)=(a=true/\b=true))/\
  (∀ {a b:Bool},((bif a then true else b)=false)=(a=false/\b=false))/\(∀ {a b:Bool},((bif a then b else false)=false)=(a=false\/b=false))/\
  (∀ (b:Bool),((!b)=true)=(b=false))/\(∀ (b:Bool),((!b)=false)=(b=true))/\(∀ {p:Prop} [Decidable p],(decide p=true)=p)/\(∀ {p:Prop} {_:Decidable p},decide p=false↔¬p)/\
  (∀ {α:Type} [BEq α] [LawfulBEq α] {a b:α},(a==b)=true↔a=b)/\(∀ {α:Type} [BEq α] [LawfulBEq α] {a b:α},(a==b)=false↔a≠b)/\
  (∀ {α:Type} [BEq α] [LawfulBEq α] {a b:α},(a !=b)=true↔a≠b)/\(∀ {α:Type} (a b:α),(a≠b)=¬a=b)/\(∀ {α:Type} [BEq α] [LawfulBEq α] {a b:α},(a !=b)=false↔a=b)/\
  (∀ (a b:Bool),((a || b)=true)=(a=true\/b=true))/\(∀ (a b:Bool),((a && b)=true)=(a=true/\b=true))/\(∀ {x y:Bool},(x || y)=false↔x=false/\y=false)/\(∀ {x y:Bool},(x && y)=false↔x=true->y=false):=
 ⟨ZwK,Zj0,ZAv,ZAw,QQ,Bool.not_eq_false',decide_eq_true_eq,decide_eq_false_iff_not,beq_iff_eq,beq_eq_false_iff_ne,bne_iff_ne,ne_eq,bne_eq_false_iff_eq,XY,Q2,QI,Bool.and_eq_false_imp⟩
abbrev Tr(p:Prop):Prop:=p->p
abbrev Tt(b:Bool):Prop:=Tr (b=true)
abbrev iB(b:Bool)(A B:Prop):Prop:=(b=true->A)/\(b=false->B)
theorem vE:type_of% (And.intro @Tree.eta (And.intro @Edit.eta (And.intro @Tree.kind_mk (And.intro @Tree.words_mk @Tree.kids_mk)))):=And.intro @Tree.eta (And.intro @Edit.eta (And.intro @Tree.kind_mk (And.intro @Tree.words_mk @Tree.kids_mk)))
theorem vcT:(∀ {p:Prop},Tr p=True)/\(∀ {p:Prop},(True/\p)=p)/\(∀ {p:Prop},(p/\True)=p)/\(∀ {p:Prop},(p->p)=True)/\(∀ {p:Prop},(True->p)=p)/\(∀ {p:Prop},(p->True)=True):=
 ⟨by simp,by simp,by simp,by simp,by simp,by simp⟩
theorem vcF:(∀ {α:Type} {a:α},(a=a)=True)/\((true=false)=False)/\((false=true)=False)/\(∀ {p:Prop},(False->p)=True)/\(∀ {p:Prop},(True->p)=p)/\(∀ {p:Prop},(True/\p)=p)/\(∀ {p:Prop},(p/\True)=p)/\((!true)=false)/\((!false)=true):=
 ⟨by simp,by simp,by simp,by simp,by simp,by simp,by simp,rfl,rfl⟩
end Go.AM
namespace Go.AM
variable {P:Program} {cfg:Cfg U}
def Zl4:List (FuncId × Fs U)->FuncId->Option (Fs U)
 | [],_=> none
 | (f,s) ::r,k=> bif Nat.beq k f then some s else Zl4 r k
def Z1(l:List (FuncId × Fs U)):Known U:=⟨Zl4 l,false,false,false⟩
def Z0L(l:List (FuncId × Fs U)):Known U:=⟨Zl4 l,false,true,false⟩
def Z35(P:Program)(cfg:Cfg U):List (FuncId × Fs U)->Prop
 | []=> True
 | (f,s) ::r=> Contract P cfg f s/\Z35 P cfg r
theorem Z0w:∀ {l:List (FuncId × Fs U)},Z35 P cfg l->∀ f s,Zl4 l f=some s->Contract P cfg f s
 | [],_,f,s,h=> by cases h
 | (f',s') ::r,hk,f,s,h=> by
  unfold Zl4 at h
  cases e:Nat.beq f f' with
  | true=>
   rw [e] at h
   cases h
   rw [Qc e]
   exact hk.1
  | false=>
   rw [e] at h
   exact Z0w hk.2 f s h
theorem Z2 {l:List (FuncId × Fs U)} {α:Type} {A:ArgL α} {pre:α->Prop} {res:α->V U} (ok:CfgOk P cfg) (henc:cfg.enc=enc) (hl:Z35 P cfg l) {f:FuncId} {fn:Func} (lv:Zb U)
  (hf : P.funcs[f]? = some fn) (hb : fn.body = some (cd fn [])) (hname : (fn.name == "runtime.NumGoroutine") = false) (n : Nat) (hn : ∀ a, (A.can a).length = n) (hn' : n ≤ fn.ntmps)
  (hbody:∀ a,pre a->awp cfg (Z1 l) (Ju cfg (Z1 l)) fn.ntmps lv (cd fn []) (Zf (A.can a) []) (JZ cfg fn.ntmps fn.results.toList (res a) [])):Contract P cfg f (fs A (fun a=> [pre a]) res):=
 Zw ok henc (Z0w hl) lv hf hb hname (fun a=> by rw [hn];exact hn') (fun a h=> hbody a h.1)
theorem Z1o {l:List (FuncId × Fs U)} {α:Type} {A:ArgL α} {pre:α->Prop} {res:α->V U} (ok:CfgOk P cfg) (henc:cfg.enc=enc) (hl:Z35 P cfg l) {f:FuncId} {fn:Func} (lv:Zb U)
  (hf : P.funcs[f]? = some fn) (hb : fn.body = some (cd fn [])) (hname : (fn.name == "runtime.NumGoroutine") = false) (n : Nat) (hn : ∀ a, (A.can a).length = n) (hn' : n ≤ fn.ntmps)
  (hbody:∀ a,pre a->awp cfg (Z0L l) (Ju cfg (Z0L l)) fn.ntmps lv (cd fn []) (Zf (A.can a) []) (JZ cfg fn.ntmps fn.results.toList (res a) [])):Contract P cfg f (fs A (fun a=> [pre a]) res):=
 Zw ok henc (Z0w hl) lv hf hb hname (fun a=> by rw [hn];exact hn') (fun a h=> hbody a h.1)
theorem Z0y {l:List (FuncId × Fs U)} {α:Type} {A:ArgL α} {pre:α->Prop} {μ:α->Nat} {res:α->V U} (ok:CfgOk P cfg) (henc:cfg.enc=enc) (hl:Z35 P cfg l) {f:FuncId} {fn:Func} (lv:Zb U)
  (hf : P.funcs[f]? = some fn) (hb : fn.body = some (cd fn [])) (hname : (fn.name == "runtime.NumGoroutine") = false) (n : Nat) (hn : ∀ a, (A.can a).length = n) (hn' : n ≤ fn.ntmps)
  (hbody:∀ N a,pre a->μ a < N+1->awp cfg (Z1 ((f,fs A (fun a=> [pre a,μ a < N]) res) ::l)) (Ju cfg (Z1 ((f,fs A (fun a=> [pre a,μ a < N]) res) ::l))) fn.ntmps lv (cd fn []) (Zf (A.can a) []) (JZ cfg fn.ntmps fn.results.toList (res a) [])):
  Contract P cfg f (fs A (fun a=> [pre a]) res):=by
 have ab:∀ N,Contract P cfg f (fs A (fun a=> [pre a,μ a < N]) res):=by
  intro N
  induction N with
  | zero=>
   refine Jk ⟨fn,hf,by rw [hb];rfl,hname⟩ rfl ?_
   intro args X ps r X' d aa
   exfalso
   unfold fs at d
   simp only at d
   split at d
   .split at d
    .cases d
     exact absurd aa.2.1 V0
    .cases d
   .cases d
  | succ N ih=> exact Zw (Γ:=Z1 ((f,fs A (fun a=> [pre a,μ a < N]) res) ::l)) ok henc (Z0w ⟨ih,hl⟩) lv hf hb hname (fun a=> by grind) (fun a h=> hbody N a h.1 h.2.1)
 refine Jk (ab 0).1 rfl ?_
 intro args X ps r X' d aa
 unfold fs at d
 simp only at d
 split at d
 .split at d
  .rename_i a ha
   cases d
   have e:(fs A (fun x=> [pre x,μ x < μ a+1]) res).fn args []=some ([pre a,μ a < μ a+1],res a,[]):=by
    unfold fs
    simp only [ha]
   exact (ab (μ a+1)).one rfl args [] _ _ [] e ⟨aa.1,Kb _,trivial⟩
  .cases d
 .cases d
theorem JA {α : Type} {A : ArgL α} {pre : α → Prop} {μ : α → Nat} {res : α → V U} {f : FuncId} (h0 : ∃ fn, P.funcs[f]? = some fn ∧ fn.body.isSome = true ∧ (fn.name == "runtime.NumGoroutine") = false)
  (key:∀ N,Contract P cfg f (fs A (fun a=> [pre a,μ a < N]) res)):Contract P cfg f (fs A (fun a=> [pre a]) res):=by
 refine Jk h0 rfl ?_
 intro args X ps r X' d aa
 unfold fs at d
 simp only at d
 split at d
 .split at d
  .rename_i a ha
   cases d
   have e:(fs A (fun x=> [pre x,μ x < μ a+1]) res).fn args []=some ([pre a,μ a < μ a+1],res a,[]):=by
    unfold fs
    simp only [ha]
   exact (key (μ a+1)).one rfl args [] _ _ [] e ⟨aa.1,Kb _,trivial⟩
  .cases d
 .cases d
theorem Jz {α : Type} {A : ArgL α} {pre : α → Prop} {μ : α → Nat} {res : α → V U} {f : FuncId} (h0 : ∃ fn, P.funcs[f]? = some fn ∧ fn.body.isSome = true ∧ (fn.name == "runtime.NumGoroutine") = false) :
  Contract P cfg f (fs A (fun a=> [pre a,μ a < 0]) res):=by
 refine Jk h0 rfl ?_
 intro args X ps r X' d aa
 exfalso
 unfold fs at d
 simp only at d
 split at d
 .split at d
  .cases d
   exact absurd aa.2.1 V0
  .cases d
 .cases d
theorem Z3R {l:List (FuncId × Fs U)} {α β:Type} {A:ArgL α} {B:ArgL β} {preA:α->Prop} {preB:β->Prop} {μA:α->Nat} {μB:β->Nat} {resA:α->V U} {resB:β->V U} (ok:CfgOk P cfg) (henc:cfg.enc=enc) (hl:Z35 P cfg l) {f f':FuncId} {fn fn':Func}
  (lv lv' : Zb U) (hf : P.funcs[f]? = some fn) (hf' : P.funcs[f']? = some fn') (hb : fn.body = some (cd fn [])) (hb' : fn'.body = some (cd fn' [])) (hname : (fn.name == "runtime.NumGoroutine") = false) (hname' : (fn'.name == "runtime.NumGoroutine") = false)
  (n n':Nat) (hn:∀ a,(A.can a).length=n) (hn':∀ a,(B.can a).length=n') (hle:n<=fn.ntmps) (hle':n'<=fn'.ntmps)
  (hbody:∀ N a,preA a->μA a < N+1->awp cfg (Z1 ((f,fs A (fun a=> [preA a,μA a < N]) resA) ::(f',fs B (fun a=> [preB a,μB a < N]) resB) ::l)) (Ju cfg (Z1 ((f,fs A (fun a=> [preA a,μA a < N]) resA) ::(f',fs B (fun a=> [preB a,μB a < N]) resB) ::l))) fn.ntmps lv (cd fn []) (Zf (A.can a) []) (JZ cfg fn.ntmps fn.results.toList (resA a) []))
  (hbody':∀ N a,preB a->μB a < N+1->awp cfg (Z1 ((f,fs A (fun a=> [preA a,μA a < N]) resA) ::(f',fs B (fun a=> [preB a,μB a < N]) resB) ::l)) (Ju cfg (Z1 ((f,fs A (fun a=> [preA a,μA a < N]) resA) ::(f',fs B (fun a=> [preB a,μB a < N]) resB) ::l))) fn'.ntmps lv' (cd fn' []) (Zf (B.can a) []) (JZ cfg fn'.ntmps fn'.results.toList (resB a) [])):
  Contract P cfg f (fs A (fun a=> [preA a]) resA)/\Contract P cfg f' (fs B (fun a=> [preB a]) resB):=by
 have h0 : ∃ fn, P.funcs[f]? = some fn ∧ fn.body.isSome = true ∧ (fn.name == "runtime.NumGoroutine") = false := ⟨fn, hf, by rw [hb]; rfl, hname⟩
 have d : ∃ fn, P.funcs[f']? = some fn ∧ fn.body.isSome = true ∧ (fn.name == "runtime.NumGoroutine") = false := ⟨fn', hf', by rw [hb']; rfl, hname'⟩
 have aa:∀ N,Contract P cfg f (fs A (fun a=> [preA a,μA a < N]) resA)/\Contract P cfg f' (fs B (fun a=> [preB a,μB a < N]) resB):=by
  intro N
  induction N with
  | zero=> exact ⟨Jz h0,Jz d⟩
  | succ N ih=>
   exact ⟨Zw (Γ:=Z1 ((f,fs A (fun a=> [preA a,μA a < N]) resA) ::(f',fs B (fun a=> [preB a,μB a < N]) resB) ::l)) ok henc (Z0w ⟨ih.1,ih.2,hl⟩) lv hf hb hname (fun a=> by grind) (fun a h=> hbody N a h.1 h.2.1),
    Zw (Γ:=Z1 ((f,fs A (fun a=> [preA a,μA a < N]) resA) ::(f',fs B (fun a=> [preB a,μB a < N]) resB) ::l)) ok henc (Z0w ⟨ih.1,ih.2,hl⟩) lv' hf' hb' hname' (fun a=> by grind) (fun a h=> hbody' N a h.1 h.2.1)⟩
 exact ⟨JA h0 fun N=> (aa N).1,JA d fun N=> (aa N).2⟩
end Go.AM
namespace Go.AM
mutual
def Yu:Tree->Int->Int->Int
 | .mk _ w ks,d,l=> if d=0\/l - 1 - w.length < 0 then -1 else Yb ks (d - 1) (l - 1 - w.length)
def Yb:List Tree->Int->Int->Int
 | [],_,l=> l
 | t ::r,d,l=> if l < 0 then l else Yb r d (Yu t d l)
end
mutual
def mass:Tree->Nat
 | .mk _ w ks=> 1+w.length+Z6 ks
def Z6:List Tree->Nat
 | []=> 0
 | t ::r=> mass t+Z6 r
end
mutual
def Z5r:Tree->Prop
 | .mk _ w ks=> w.length<=17592186044416/\ks.length<=17592186044416/\ZaF ks
def ZaF:List Tree->Prop
 | []=> True
 | t ::r=> Z5r t/\ZaF r
end
def trim:List Int->List Int
 | []=> []
 | x ::r=> match trim r with
  | []=> if x=0 then [] else [x]
  | y ::s=> x ::y ::s
def Yp:List Tree->List Tree
 | []=> []
 | x ::r=> match Yp r with
  | []=> if x.kind=0 then [] else [x]
  | y ::s=> x ::y ::s
mutual
def Z0:Tree->Tree
 | .mk k w ks=> if k=0 then Tree.nil else if k=1 then .mk 1 (trim w) (Yp (Yr ks)) else .mk k w (Yr ks)
def Yr:List Tree->List Tree
 | []=> []
 | t ::r=> Z0 t ::Yr r
end
open Classical in
noncomputable def ZU(a b:Tree):Bool:=decide (a=b)
def Zm(t:Tree)(i:Int):Int:=if i < 0 then 0 else t.words.getD i.toNat 0
def Zr(t:Tree)(i:Int):Tree:=if i < 0 then Tree.nil else t.kids.getD i.toNat Tree.nil
mutual
def rng:Tree->Prop
 | .mk k w ks=> (-9223372036854775808<=k/\k<=9223372036854775807)/\(∀ x∈w,0<=x/\x < 18446744073709551616)/\Yd ks
def Yd:List Tree->Prop
 | []=> True
 | t ::r=> rng t/\Yd r
end
def wd(c:Int):Int:=if c=0 then 0 else if c=1 then 1 else if c=2 then 8 else if c=3 then 16 else if c=4 then 32 else if c=5 then 64 else -1
def Zs3(c n:Int):Bool:=decide (0<=wd c/\n < 2 ^ (wd c).toNat)
def Z1m(list:Int)(t:Tree):Bool:=
 if 2<=list/\list<=7 then decide (t.kind=10/\t.kids.length=0/\t.words.length=1) && Zs3 (list - 2) (t.words.getD 0 0)
 else if list=9 then decide (t.kind=1) else decide (t.kind≠10)
mutual
def Zh:Tree->Int->Bool
 | .mk k w ks,d=>
  if k=0 then decide (w.length=0/\ks.length=0)
  else if k=10 then decide (w.length=1/\ks.length=0)
  else if d=0 then false
  else if k=1 then decide (w.length < 65536/\ks.length < 65536) && Ys 1 ks (d - 1)
  else decide (2<=k/\k<=9/\w.length=0/\ks.length < 1048576) && Ys k ks (d - 1)
def Ys(list:Int):List Tree->Int->Bool
 | [],_=> true
 | t ::r,d=> (Z1m list t && Zh t d) && Ys list r d
end
end Go.AM
namespace Go.AM
open Go.ChangeShapes Go.WideShapes Go.RowKit
def inT(t:Tree):Prop:=Z5r t/\rng t
theorem ZHu{ks:List Tree}(h:∀ t∈ks,inT t):ZaF ks/\Yd ks:=by
 induction ks with
 | nil=> trivial
 | cons t r ih=>
  have h1:=h t (Q5 ..)
  have d:=ih fun x hx=> h x (Q3 _ hx)
  exact ⟨⟨h1.1,d.1⟩,h1.2,d.2⟩
section
variable {U:Uni} {P:Program} {cfg:Cfg U} {w:World} {H:Type} {henc:TypeId × Value->H}
def RelS(cfg:Cfg U)(m:Addr->Option Value)(vs:List Value)(cs:List (C U)):Prop:=
 vs.length=cs.length/\∀ (j:Nat) v c,vs[j]?=some v->cs[j]?=some c->SimC cfg m v c
theorem RelS.one{m:Addr->Option Value}{v:Value}{c:C U}(h:SimC cfg m v c):RelS cfg m [v] [c]:=by
 refine ⟨rfl,fun j u d hu hd=> ?_⟩
 grind
theorem RelS.glue{m:Addr->Option Value}{vs:List Value}{a n:Nat}{c1 rest:List (C U)}(h1:RelS cfg m ((vs.drop a).take n) c1)(hn:c1.length=n)(d:a+n<=vs.length)(h2:RelS cfg m (vs.drop (a+n)) rest):
  RelS cfg m (vs.drop a) (c1++rest):=by
 have e:vs.drop a=(vs.drop a).take n++vs.drop (a+n):=by
  rw [show vs.drop (a+n)=(vs.drop a).drop n by simp_all]
  exact (Ql n _).symm
 rw [e]
 have hl:((vs.drop a).take n).length=c1.length:=h1.1
 refine ⟨by simp only [Q8,hl,h2.1],fun j v c d hc=> ?_⟩
 rw [QF] at d hc
 rw [hl] at d
 split at d
 .rename_i hj
  rw [if_pos hj] at hc
  exact h1.2 j v c d hc
 .rename_i hj
  rw [if_neg hj] at hc
  exact h2.2 _ v c d hc
theorem RelS.done{m:Addr->Option Value}{vs:List Value}{n:Nat}(h:vs.length=n):RelS cfg m (vs.drop n) ([]:List (C U)):=by
 rw [Qe V0]
 exact ⟨rfl,fun j v c d=> by simp at d⟩
def Rdd(henc:TypeId × Value->H)(P:Program)(w:World)(n:Nat)(t:TypeId)(cs:List Value):Prop:=
 ∃ x,DataW.trod henc P w 0 (fun _=> true) true n t cs=some x/\(x.1.weights P t).all (·<=reachBytes)=true
theorem Zcz(ok:CfgOk P cfg){t:TypeId}{ag:Bool}{zs:List (C U)}(h:cfg.var t=some (ag,zs)):P.cellsOf t=zs.length:=by
 obtain ⟨_,i,z,d,h1,h2,h3,_⟩:=ok.var _ _ _ h
 simp [Program.cellsOf,h1,h3]
theorem ZmB(ok:CfgOk P cfg){t:TypeId}{k:IntKind}{n0:Int}{n:Nat}{cs:List Value}(hv:cfg.var t=some (false,[.int k n0]))(h:Rdd henc P w n t cs):
  ∃ z,RelS cfg w.cell? cs [.int k z]/\k.min<=z/\z<=k.max:=by
 obtain ⟨x,hx,_⟩:=h
 obtain ⟨_,i,z,d,h1,h2,h3,h4,h5,h6,h7,_⟩:=ok.var _ _ _ hv
 have hd:=h7 rfl k n0 rfl
 subst hd
 obtain ⟨q,rfl,_,hw⟩:=DataW.trod_int h2 hx
 simp only [Lit.wf,Q2,decide_eq_true_eq] at hw
 exact ⟨q,.one (.int k q),hw.1,hw.2⟩
theorem ZmC(ok:CfgOk P cfg){t ft:TypeId}{i off:Nat}{ag:Bool}{zs:List (C U)}{n:Nat}{cs:List Value}(hf:cfg.fld t i=some (off,ft))(hv:cfg.var ft=some (ag,zs))(h:Rdd henc P w n t cs):
  ∃ m,n=m+1/\cs.length=P.cellsOf t/\Rdd henc P w m ft ((cs.drop off).take zs.length):=by
 obtain ⟨x,hx,hw⟩:=h
 obtain ⟨fs,fd,h1,h2,h3,h4⟩:=ok.fld _ _ _ _ hf
 obtain ⟨xs,m,rfl,rfl,hl,al,aa⟩:=DataW.trod_struct h1 hx
 have hg:=aa i fd h2
 rw [h3,h4,Zcz ok hv] at hg
 have hi:i < xs.length:=by have:=(QE.1 h2).1;omega
 have hy:=Q0 hi
 refine ⟨m,rfl,hl,xs[i],by rw [hg,hy],?_⟩
 rw [Qy] at hw ⊢
 intro q hq
 refine hw q ?_
 simp only [DataW.weights,h1]
 exact DataW.weights_mem_each (j:=i) (t:=ft) (d:=xs[i].1) (by grind) (by grind) q hq
theorem Zck{α:Type}(p:Nat->α->Prop):∀ (n:Nat),(∀ i,i < n->∃ x,p i x)->∃ l:List α,l.length=n/\∀ i x,l[i]?=some x->p i x
 | 0,_=> ⟨[],rfl,fun i x h=> by simp at h⟩
 | n+1,h=> by
  obtain ⟨l,d,h2⟩:=Zck p n fun i hi=> h i V0
  obtain ⟨x,hx⟩:=h n V0
  refine ⟨l++[x],by simp [d],fun i y hy=> ?_⟩
  grind
theorem ZbB{e:TypeId}:∀ {l:List (DataW H)} {i:Nat} {d:DataW H},l[i]?=some d->∀ q∈d.weights P e,q∈DataW.weightsAll P e l
 | d0 ::l,0,d,h,q,hq=> by
  simp at h
  subst h
  simp only [DataW.weightsAll,Qj]
  exact .inl hq
 | d0 ::l,i+1,d,h,q,hq=> by
  simp only [DataW.weightsAll,Qj]
  exact .inr (ZbB (l:=l) (i:=i) (by simpa using h) q hq)
theorem ZBJ (ok:CfgOk P cfg) {t:TypeId} {S:U.Ty} {n:Nat} {cs:List Value} {Z6l:U.El S->Prop} (hs:cfg.slT t=some S)
  (ih:∀ m,m < n->∀ cs,Rdd henc P w m (cfg.elT S) cs->∃ e,RelS cfg w.cell? cs (cfg.enc S e)/\Z6l e) (h:Rdd henc P w n t cs):
  ∃ l:List (U.El S),RelS cfg w.cell? cs [.slice S l .unk]/\l.length*cfg.bytes S<=reachBytes/\∀ e∈l,Z6l e:=by
 obtain ⟨x,hx,hw⟩:=h
 have hu:=ok.sl _ _ hs
 obtain ⟨i0,ag,zs,z,h1,h2,h3,h4,h5,h6⟩:=ok.el S
 have hc:P.cellsOf (cfg.elT S)=cfg.sz S:=by simp [Program.cellsOf,h1,h2]
 have hb:P.bytesOf (cfg.elT S)=cfg.bytes S:=by simp [Program.bytesOf,h1,h3]
 rcases DataW.trod_slice hu hx with ⟨rfl,_⟩ | ⟨a,len,cap,elems,rest,m,rfl,rfl,rfl,_,hlc,_,hel,hels,_⟩
 .exact ⟨[],.one (.snil S .unk),by simp,fun e he=> by cases he⟩
 .simp only [DataW.weights,hu,QX,hb] at hw
  rw [List.all_cons,Q2,decide_eq_true_eq,Qy] at hw
  obtain ⟨a1,ai⟩:=hw
  obtain ⟨l,hl,aa⟩:=Zck (fun i (e:U.El S)=> (∀ j c,(cfg.enc S e)[j]?=some c->∃ v,w.cell? (a.add (i*cfg.sz S+j))=some v/\SimC cfg w.cell? v c)/\Z6l e) len (by
   intro i hi
   have hg:=hels i hi
   have hy:=Q0 (l:=elems) (i:=i) V0
   rw [hy] at hg
   obtain ⟨ci,aj,aq⟩:=Qk.1 hg
   obtain ⟨_,ba,al⟩:=World.cells?_some aj
   obtain ⟨e,ae,ar⟩:=ih m V0 ci ⟨elems[i],aq,by
    rw [Qy]
    intro q hq
    refine ai q ?_
    rw [Qj]
    exact .inl (ZbB (i:=i) (d:=elems[i].1) (by grind) q hq)⟩
   refine ⟨e,fun j c hj=> ?_,ar⟩
   have aw:=ae.1
   have ao:j < ci.length:=by have:=(Q4.1 hj).1;omega
   have ab:=Q0 ao
   refine ⟨ci[j],?_,ae.2 j _ c ab hj⟩
   rw [<-ab,<-al j V0,hc,Go.Deep.add_add])
  refine ⟨l,.one (.of_rows .unk hl hlc fun i x hx j c hj=> (aa i x hx).1 j c hj),?_,fun e he=> ?_⟩
  .grind
  .obtain ⟨i,hi,rfl⟩:=Xa he
   exact (aa i _ (Q0 hi)).2
end
section
variable {P:Program} {cfg:Cfg U} {w:World} {H:Type} {henc:TypeId × Value->H}
structure TreeTypes (cfg:Cfg U):Prop where
 enc:cfg.enc=AM.enc
 bytes:cfg.bytes=K.bytes
 int:∃ n,cfg.var (cfg.elT .int)=some (false,[.int .i64 n])
 u64:∃ n,cfg.var (cfg.elT .u64)=some (false,[.int .u64 n])
 var:∃ zs,cfg.var (cfg.elT .tree)=some (true,zs)/\zs.length=3
 f0:∃ t n,cfg.fld (cfg.elT .tree) 0=some (0,t)/\cfg.var t=some (false,[.int .i64 n])
 f1:∃ t c,cfg.fld (cfg.elT .tree) 1=some (1,t)/\cfg.var t=some (false,[c])/\cfg.slT t=some .u64
 f2:∃ t c,cfg.fld (cfg.elT .tree) 2=some (2,t)/\cfg.var t=some (false,[c])/\cfg.slT t=some .tree
theorem ZgB{n b:Nat}(h:n*b<=reachBytes)(hb:8<=b):n<=17592186044416:=by
 have h1:n*8<=n*b:=Nat.mul_le_mul_left _ hb
 have d:reachBytes < 2 ^ 47:=reachBytes_lt
 omega
theorem ZCv(ok:CfgOk P cfg)(T:TreeTypes cfg){n:Nat}{cs:List Value}(h:Rdd henc P w n (cfg.elT .u64) cs):
  ∃ e:Int,RelS cfg w.cell? cs (cfg.enc .u64 e)/\(0<=e/\e < 18446744073709551616):=by
 obtain ⟨n0,hv⟩:=T.u64
 obtain ⟨z,h1,d,h3⟩:=ZmB ok hv h
 refine ⟨z,by rw [T.enc];exact h1,d,?_⟩
 have:z<=18446744073709551615:=h3
 omega
theorem ZyU(ok:CfgOk P cfg)(T:TreeTypes cfg):∀ (n:Nat) (cs:List Value),Rdd henc P w n (cfg.elT .tree) cs->∃ e:Tree,RelS cfg w.cell? cs (cfg.enc .tree e)/\inT e:=by
 intro n
 induction n using Nat.strongRecOn with
 | ind n IH=>
  intro cs h
  obtain ⟨zs,hz,ab⟩:=T.var
  obtain ⟨t0,n0,f0,v0⟩:=T.f0
  obtain ⟨t1,c1,f1,v1,s1⟩:=T.f1
  obtain ⟨t2,c2,f2,v2,s2⟩:=T.f2
  obtain ⟨m,rfl,hl,r0⟩:=ZmC ok f0 v0 h
  obtain ⟨m',d,_,r1⟩:=ZmC ok f1 v1 h
  cases d
  obtain ⟨m',d,_,r2⟩:=ZmC ok f2 v2 h
  cases d
  have aa:cs.length=3:=by rw [hl,Zcz ok hz,ab]
  obtain ⟨k,a1,a2,a3⟩:=ZmB ok v0 r0
  obtain ⟨ws,b1,b2,b3⟩:=ZBJ ok s1 (fun m _ cs h=> ZCv ok T h) r1
  obtain ⟨ks,d1,d2,d3⟩:=ZBJ ok s2 (fun m' hm cs h=> IH m' V0 cs h) r2
  rw [T.bytes] at b2 d2
  have g:=a1.glue rfl (by simp;omega) (b1.glue rfl (by simp;omega) (d1.glue rfl (by simp;omega) (RelS.done (n:=3) aa)))
  refine ⟨.mk k ws ks,by rw [T.enc];exact g,?_⟩
  have hk:=ZHu d3
  exact ⟨⟨ZgB b2 V2,ZgB d2 V2,hk.1⟩,⟨a2,a3⟩,b3,hk.2⟩
end
section
variable {P:Program} {cfg:Cfg U} {H:Type} {henc:TypeId × Value->H}
def ZxF{α:Type}(henc:TypeId × Value->H)(P:Program)(cfg:Cfg U)(A:Arg α)(t:TypeId)(Z6l:α->Prop):Prop:=
 (∀ a,A.get (A.can a)=some a)/\∀ (w:World) (base:Nat) v n,Value.okWide P w .any base t v->Rdd henc P w n t v.cells.toList->
  ∃ a,Z6l a/\∀ (g:Gh) (live:Name->Bool),g.m=w.cell?->RelV cfg g ZF live v (A.can a)
def ZqV{α:Type}(henc:TypeId × Value->H)(P:Program)(cfg:Cfg U)(A:ArgL α)(ts:List TypeId)(Z6l:α->Prop):Prop:=
 (∀ a,A.get (A.can a)=some a)/\∀ (w:World) (base:Nat) (vs:List Value) ds ps,(∀ (j:Nat) t v,ts[j]?=some t->vs[j]?=some v->Value.okWide P w .any base t v)->
  DataW.TrodAll henc P w 0 (fun _=> true) true ts vs ds ps->(DataW.weightsEach P ts ds).all (·<=reachBytes)=true->
  ∃ a,Z6l a/\vs.length=(A.can a).length/\∀ (g:Gh) (live:Name->Bool),g.m=w.cell?->∀ (j:Nat) v x,vs[j]?=some v->(A.can a)[j]?=some x->RelV cfg g ZF live v x
theorem Zsi:ZqV henc P cfg ArgL.nil [] (fun _=> True):=by
 refine ⟨fun _=> rfl,fun w base vs ds ps _ h _=> ?_⟩
 obtain ⟨rfl,_,_⟩:=trodAll_nil h
 exact ⟨(),trivial,rfl,fun _ _ _ j v x d=> by simp at d⟩
theorem Z5p{α β:Type}{A:Arg α}{B:ArgL β}{t:TypeId}{ts:List TypeId}{Z6l:α->Prop}{goods:β->Prop}(hA:ZxF henc P cfg A t Z6l)(hB:ZqV henc P cfg B ts goods):
  ZqV henc P cfg (ArgL.cons A B) (t ::ts) (fun p=> Z6l p.1/\goods p.2):=by
 refine ⟨fun a=> ?_,fun w base vs ds ps aa h hw=> ?_⟩
 .simp only [ArgL.cons,hA.1,hB.1]
 .obtain ⟨v,ah,d,af,p,q,rfl,rfl,rfl,h1,h2⟩:=trodAll_cons h
  obtain ⟨n,h1⟩:=h1
  simp only [DataW.weightsEach,List.all_append,Q2] at hw
  obtain ⟨a,ga,ra⟩:=hA.2 w base v n (aa 0 t v rfl rfl) ⟨(d,p),h1,hw.1⟩
  obtain ⟨b,gb,lb,rb⟩:=hB.2 w base ah af q (fun j t v ht hv=> aa (j+1) t v (by simpa using ht) (by simpa using hv)) h2 hw.2
  refine ⟨(a,b),⟨ga,gb⟩,by simp [ArgL.cons,lb],fun g aj hg j u x hu hx=> ?_⟩
  cases j with
  | zero=> simp [ArgL.cons] at hu hx;grind
  | succ j=> simp [ArgL.cons] at hu hx;grind
theorem RelS.relL{g:Gh}{w:World}{vs:List Value}{cs:List (C U)}(h:RelS cfg w.cell? vs cs)(hg:g.m=w.cell?)(hp:∀ c∈cs,c.plain=true):RelL cfg g ZF vs cs:=by
 refine ⟨h.1,fun j v c hv hc=> ⟨by rw [hg];exact h.2 j v c hv hc,?_⟩⟩
 have d:=hp c (QV hc)
 cases c with
 | slice S l' tl'=> cases tl' <;> first | trivial | (simp [C.plain] at d)
 | _=> trivial
theorem Zxr(ok:CfgOk P cfg){t:TypeId}{k:IntKind}{n0:Int}(hv:cfg.var t=some (false,[.int k n0])):ZxF henc P cfg (Y6 k) t (fun z=> k.min<=z/\z<=k.max):=by
 refine ⟨fun a=> by simp [Y6],fun w base v n aa h=> ?_⟩
 obtain ⟨_,i,z,d,h1,h2,h3,h4,h5,h6,h7,_⟩:=ok.var _ _ _ hv
 have hd:=h7 rfl k n0 rfl
 subst hd
 obtain ⟨q,rfl⟩:=okWide_int h2 aa
 obtain ⟨z,hz,hr⟩:=ZmB ok hv h
 refine ⟨z,hr,fun g ab hg=> ?_⟩
 have:=hz.relL hg (by intro c hc;simp at hc;subst hc;rfl)
 exact this.2 0 _ _ (by rfl) rfl
theorem ZAx(ok:CfgOk P cfg)(henc':cfg.enc=AM.enc){T:Ty}{Z6l:El T->Prop}(d:∃ aa ft,cfg.fld (cfg.elT T) 0=some (aa,ft))(hr:∀ w n cs,Rdd henc P w n (cfg.elT T) cs->∃ e:El T,RelS cfg w.cell? cs (cfg.enc T e)/\Z6l e):
  ZxF henc P cfg (aEl T) (cfg.elT T) Z6l:=by
 refine ⟨fun a=> ZAp T a,fun w base v n ab h=> ?_⟩
 obtain ⟨aa,ft,d⟩:=d
 obtain ⟨fs,fd,h1,_⟩:=ok.fld _ _ _ _ d
 obtain ⟨vs,rfl,_⟩:=okWide_struct h1 ab
 obtain ⟨e,he,hg⟩:=hr w n _ h
 refine ⟨e,hg,fun g ah ae=> ⟨vs,rfl,?_⟩⟩
 rw [henc'] at he
 exact he.relL ae (fun c hc=> by have:=ok.enc_plain T e c (by simp_all);exact this)
theorem ZrP {α:Type} {A:ArgL α} {ts:List TypeId} {Z6l:α->Prop} {pre:α->Prop} {f:FuncId} (hA:ZqV henc P cfg A ts Z6l) (hgood:∀ a,Z6l a->pre a)
  (hc:Contract P cfg f (fs A (fun a=> [pre a]) (fun _=> .c (.bool true)))) (w:World) (base:Nat) (args:Array Value) (ds:List (DataW H)) (ps:List MemPlace)
  (hok:∀ (j:Nat) t v,ts[j]?=some t->args.toList[j]?=some v->Value.okWide P w .any base t v)
  (d:DataW.TrodAll henc P w 0 (fun _=> true) true ts args.toList ds ps) (hw:(DataW.weightsEach P ts ds).all (·<=reachBytes)=true):
  Calls P f args w fun e w'=> e= .returned (.bool true)/\Below w.heap.size w w':=by
 obtain ⟨a,ga,hl,hr⟩:=hA.2 w base args.toList ds ps hok d hw
 let g:Gh:=⟨w.cell?,fun _=> none,fun _=> ⟨0,0,none⟩,fun _=> none⟩
 have hs:(fs A (fun a=> [pre a]) (fun _=> .c (.bool true))).fn (A.can a) []=some ([pre a],.c (.bool true),[]):=by
  simp only [fs,hA.1]
 have aa:Entry cfg w g args.toList (A.can a) [] []:=by
  refine ⟨⟨fun b v hv=> ⟨hv,rfl⟩,fun b t d=> by cases d⟩,fun b t d=> (by cases d),hl,fun j v x hv hx=> hr g _ rfl j v x hv hx,fun k cs hk=> (by simp at hk),fun _ _=> rfl,fun t x hx=> by cases hx⟩
 have:=hc.one rfl (A.can a) [] _ _ [] hs ⟨hgood a ga,trivial⟩ (X6 _) w g args.toList aa
 refine Calls.mono (by simpa using this) ?_
 rintro e w' ⟨v,rfl,g',L⟩
 have hv:SimC cfg g'.m v (.bool true):=L.val.1
 cases hv
 refine ⟨rfl,L.fr.stay.os,L.fr.stay.tape,L.fr.stay.output,L.fr.stay.size,fun k hk=> ?_⟩
 exact (L.fr.clean k hk fun o s t d=> by cases d).1
theorem ZvA {f:Func} {s:ChangeSpec} {apart fresh handsOn again:Bool} {W W':World} {args:Array Value} {ds gs:List (DataW H)} {before:List MemPlace} {tb:TypeId}
  (hl:laidOutB P=true) (hread:(f.params.toList.all fun t=> P.readableRec t && decide (t < P.types.size))=true) (hres:f.resultTypes=#[tb]) (hbool:P.underlying tb=some .bool) (hvars:s.vars=[])
  (hfn:s.fn H (ds++gs)={ results:=[.lit (.bool true)],args:=ds,vars:=[] })
  (hW:DataW.Whole henc P f.params.toList s.vars apart W args.toList ds gs before)
  (hb:Below W.heap.size W W'):s.post henc P f apart fresh handsOn again W args (.bool true) W':=by
 have ax:=hW
 obtain ⟨p,q,h1,h2,e,_⟩:=ax
 have hq:q=[]:=by
  rw [hvars] at h2
  exact (trodVars_none h2).2
 subst hq
 have ar:=hW.lt
 have av:∀ {ts:List TypeId} {vs:List Value} {ds:List (DataW H)} {ps:List MemPlace} {sp:Nat->Bool},(∀ t∈ts,P.readableRec t=true/\t < P.types.size)->(∀ x∈ps,x.block < W.heap.size)->(∀ x∈ps,sp x.block=true)->
   DataW.TrodAll henc P W 0 (fun _=> true) true ts vs ds ps->DataW.TrodAll henc P W' 0 sp true ts vs ds ps:=by
  intro ts
  induction ts with
  | nil=>
   intro vs ds ps sp _ _ _ h
   obtain ⟨rfl,rfl,rfl⟩:=trodAll_nil h
   exact rfl
  | cons t ts ih=>
   intro vs ds ps sp hr hx hs h
   obtain ⟨v,be,d,bc,p,q,rfl,rfl,rfl,h3,h4⟩:=trodAll_cons h
   have ao:=hr t (Q5 ..)
   exact ⟨p,q,WideElems.Trod_stays hl ao.1 ao.2 h3 (fun x aa=> hb.same (hx x (QL _ aa))) (fun x aa=> hs x (QL _ aa)),
    ih (fun t ht=> hr t (Q3 _ ht)) (fun x aa=> hx x (X5 _ aa)) (fun x aa=> hs x (X5 _ aa)) h4,rfl⟩
 have af:∀ t∈f.params.toList,P.readableRec t=true/\t < P.types.size:=by
  intro t ht
  have:=Qy.1 hread t ht
  simpa using this
 rw [Qh] at e
 replace e:=e.symm
 subst e
 have ah:∀ (b:Nat) (sp:Nat->Bool) (hd:Bool),DataW.TrodAll henc P W' b sp hd f.resultTypes.toList ((Value.bool true).resultList f.resultTypes.size) [.lit (.bool true)] []:=by
  intro b sp hd
  rw [hres]
  exact trodAll_mk1 ⟨1,by simp [DataW.trod,hbool,Value.cells]⟩
 have am:∀ (j:Nat) (t:TypeId) (r:Value),f.resultTypes[j]?=some t->((Value.bool true).resultList f.resultTypes.size)[j]?=some r->Value.okWide P W' .any 0 t r:=by
  intro j t r h3 h4
  rw [hres] at h3 h4
  cases j with
  | zero=>
   simp at h3
   subst h3
   simp [Value.resultList] at h4
   subst h4
   simp [Value.okWide,hbool,Cell.okWide,Cell.ok]
  | succ j=> simp at h3
 have a2:∀ x∈p,(fun b=> decide (b < W.heap.size)) x.block=true:=fun x hx=> by grind
 have aw:∀ sp:Nat->Bool,DataW.TrodVars henc P W' sp s.vars [] []:=fun sp=> by rw [hvars];try rfl
 refine ⟨ds,gs,p,[],p,[],hW,?_,?_,?_,hb.frame _,fun _=> ⟨am,[.lit (.bool true)]++ds,[],[]++p,?_,fun x hx _=> by simpa using hx⟩⟩
 .grind
 .grind
 .grind
 .obtain ⟨_,_,_,_,_,hz,hn⟩:=hW
  refine ⟨[]++p,[],trodAll_append (av af ar (fun _ _=> rfl) h1) (ah 0 (fun _=> true) true),aw _,by simp,?_,by simpa using hn⟩
  intro b al hx
  have au:MemPlace.cell b al∈p:=by simpa using hx
  rw [hb.frozen (by exact ar _ au)]
  exact hz b al V0
end
end Go.AM
