import Derived.Test.YtnfbomhidainjaaGreatTmL
import Derived.Still
import Derived.Carry
import Derived.SizedLaws
import Derived.ChangeSame
set_option linter.unusedSimpArgs false
set_option linter.unusedVariables false
namespace Go.AM
variable{U:Uni}{P:Program}{cfg:Cfg U}{B:Base}{st:FSt U}{g:Gh}{a:Act}{w:World}
def Z21(o:Oper):Bool:=match o.op with
 |.call c=>match c.callee with|.builtin .len=>false|_=>true
 |.makeSlice _ _ _=>true|.buildSlice _ _ parts=>Z5N parts.toList|_=>false
structure Fp where
 touch:List Name
 writes:List Name
 kills:Bool
 touchT:List Tok
 writesT:List Tok
 allT:Bool
def JZ(Γ:Known U)(o:Oper)(st:FSt U):Bool:=match o.op with
 |.call c=>match c.callee with
  |.value g=>match st.strip.opnd g with
   |some (.fn f)=>Z7r Γ (some (.fn f))|some (.clo f _)=>Z7r Γ (some (.fn f))|some (.kv _)=>true|_=>false
  |.invoke _ _=>true|_=>false
 |_=>false
def ZuQ(Γ:Known U)(o:Oper)(st:FSt U)(e:Eff U):Fp:={allT:=JZ Γ o st,touch:=touch o st,writes:=e.mem.map (·.1),kills:=!e.kill.isEmpty,touchT:=touchT o st,writesT:=e.kill++e.ls.map (·.1)}
def ZlJ(l:List Tok)(t:Tok):Bool:=match l with|[]=>false|a::r=>if a=t then true else ZlJ r t
def Zgl(a b:List Tok):Bool:=a.any λx=>ZlJ b x
def noR(d:Nat)(a:List Tok):Bool:=a.all λt=>match t with|.r d' _=>!Nat.beq d' d|_=>true
def Zpu(a b:List Name):Bool:=a.any λx=>Jm b x
def ZkP(ops:Array Oper)(x y:Oper)(a b:Fp):Bool:=x.apart ops y&&y.apart ops x&&!Zpu a.writes b.touch&&!Zpu b.writes a.touch&&!Zpu a.writes b.writes&&!(a.kills&&Z21 y)&&!(b.kills&&Z21 x)&&!Zgl a.writesT b.touchT&&!Zgl b.writesT a.touchT&&!Zgl a.writesT b.writesT&&noR (y.dst.getD 0) a.writesT&&noR (x.dst.getD 0) b.writesT&&(a.writesT.isEmpty||!b.allT)&&(b.writesT.isEmpty||!a.allT)
structure Alike(Γ:Known U)(o:Oper)(ops:Array Oper)(st st':FSt U):Prop where
 n:st'.n=st.n
 env:∀t,t∈o.looksAt ops->st'.env t=st.env t
 mem:∀nm,nm∈touch o st->st'.mem nm=st.mem nm
 dead:Z21 o=true->st'.dead=st.dead
 mu:st'.mu=st.mu
 vw:st'.vw=st.vw
 ls:∀t,t∈touchT o st->st'.ls t=st.ls t
 fr:∀j,st'.ls (.r (o.dst.getD 0) j)=st.ls (.r (o.dst.getD 0) j)frd:∀j,st'.dead (.r (o.dst.getD 0) j)=st.dead (.r (o.dst.getD 0) j)all:JZ Γ o st=true->st'.ls=st.ls
theorem Alike.tok{o:Oper}{ops:Array Oper}{Γ:Known U}{st st':FSt U}(h:Alike Γ o ops st st'){x:Operand}(hx:x∈Z0w o){v:V U}(hv:st.strip.opnd x=some v){t:Tok}(ht:t∈v.toks):st'.ls t=st.ls t:=h.ls t (Kr.2 ⟨x,hx,by grind⟩)
theorem Z5z{st st':FSt U}{d:Nat}(hd:st'.dead=st.dead)(hf:∀j,st'.ls (.r d j)=st.ls (.r d j)):∀(L:List (Tok×LC U)),J1 st' d L=J1 st d L
 |[]=>rfl|(t,x)::L=>by
  simp only[J1,Z5z hd hf L];cases hb:ZZ d t with|none=>rfl|some t'=>
   have e:∃j,t'=.r d j:=by
    unfold ZZ at hb;split at hb;.grind
    .grind
    .cases hb
   grind
theorem Alike.opnd{o:Oper}{ops:Array Oper}{Γ:Known U}{st st':FSt U}(h:Alike Γ o ops st st'){x:Operand}(hx:x∈o.op.operands.toList):st'.opnd x=st.opnd x/\st'.strip.opnd x=st.strip.opnd x:=by cases x with|tmp t=>have d:t∈o.looksAt ops:=QS _ (XA.2 ⟨.tmp t,hx,rfl⟩);have:=h.env t d;exact⟨by simp[FSt.opnd,this],by simp[FSt.opnd,FSt.strip,this]⟩|const c=>trivial|global g=>trivial|func f=>trivial
theorem ZwX{st st':FSt U}{p:V U}{ag:Bool}{n:Nat}(h:∀nm,nm∈Zw (some p)->st'.mem nm=st.mem nm):rd st' p ag n=rd st p ag n:=by
 cases p<;>simp only[rd];case ptr nm off=>rw[h nm (by simp[Zw])]
 case ap nm off k len i=>rw[h nm (by simp[Zw])]
theorem Z3d{st st':FSt U}(hd:st'.dead=st.dead)(ps:Nat->Bool):∀(xs:List (V U))(i:Nat)(os:List (Name×List (C U)))(d:List (Tok×Tok)),(∀x,x∈xs->∀nm,nm∈Zw (some x)->st'.mem nm=st.mem nm)->Yb st' ps i xs os d=Yb st ps i xs os d
 |[],i,os,d,_=>rfl|x::xs,i,os,d,h=>by
  have ih:=λi os d=>Z3d hd ps xs i os d (λy hy=>h y (by simp[hy]));simp only[Yb,hd,ih];cases hp:ZoW x with
  |none=>rfl|some nm=>
   have e:st'.mem nm.1=st.mem nm.1:=by
    refine h x (by simp) nm.1 ?_;cases x<;>simp only[ZoW,reduceCtorEq]at hp;.cases hp;simp[Zw]
    .split at hp;.grind
     .rename_i aa;cases aa;cases hp;simp[Zw]
     .grind
     .cases hp
    .cases hp;simp[Zw]
   simp only[e]
theorem Z26{l:List Name}{nm:Name}(h:nm∈l):nm∈Z9m l:=by cases l with|nil=>cases h|cons a l=>exact QS _ h
theorem ZeL{l:List Name}{k:Nat}(hk:k<8)(hl:l≠[]):Name.x k∈Z9m l:=by cases l with|nil=>grind|cons a l=>refine Xh _ ?_;grind
theorem ZcD:∀{cs:List (C U)}{hv:List Name}{nm:Name},nm∈ZiH cs hv->nm∈hv\/∃k,k<8/\nm=.x k
 |[],hv,nm,h=>.inl h|c::cs,hv,nm,h=>by cases c with
  |xp k=>
   simp only[ZiH]at h;rcases ZcD h with h|h
   .split at h
    .rename_i hc;rw[Q2]at hc;rcases Qf.1 h with h|h;.exact .inl h
     .exact .inr ⟨k,by simpa using hc.1,by simpa using h⟩
    .exact .inl h
   .exact .inr h|_=>exact ZcD (by simpa only[ZiH]using h)
theorem Z7L{st:FSt U}:∀{l hv:List Name}{nm:Name},nm∈Z3T st l hv->nm∈hv\/(l≠[]/\∃k,k<8/\nm=.x k)
 |[],hv,nm,h=>.inl h|a::l,hv,nm,h=>by
  simp only[Z3T]at h;rcases Z7L h with h|⟨_,h⟩
  .split at h
   .rcases ZcD h with h|h;.exact .inl h
    .exact .inr ⟨by simp,h⟩
   .exact .inl h
  .exact .inr ⟨by simp,h⟩
theorem Z6S{st st':FSt U}:∀{l hv:List Name},(∀nm∈l,st'.mem nm=st.mem nm)->Z3T st' l hv=Z3T st l hv|[],hv,_=>rfl|a::l,hv,h=>by simp only[Z3T,h a (by simp)];exact Z6S λnm d=>h nm (by simp[d])
theorem Jq:∀{vs:List (V U)}{nm:Name},nm∈Jr vs->∃x∈vs,nm∈Zw (some x)
 |[],nm,h=>by cases h|v::vs,nm,h=>by
  simp only[Jr]at h;split at h
  .rename_i n mk d;rcases Q9.1 h with rfl|h
   .refine⟨v,by simp,?_⟩;cases v<;>simp only[ZoW,reduceCtorEq]at d;.cases d;simp[Zw]
    .split at d;.grind
     .rename_i aa;cases aa;cases d;simp[Zw]
     .grind
     .cases d
    .cases d;simp[Zw]
   .obtain⟨x,h1,h2⟩:=Jq h;grind
  .obtain⟨x,h1,h2⟩:=Jq h;grind
theorem Z1C{st:FSt U}{ps:Nat->Bool}:∀{xs:List (V U)}{i:Nat}{os:List (Name×List (C U))}{seen:List (Tok×Tok)}{ys:List (V U)}{os':List (Name×List (C U))}{seen':List (Tok×Tok)},Yb st ps i xs os seen=some (ys,os',seen')->os'.map (·.1)=os.map (·.1)++Jr xs
 |[],i,os,seen,ys,os',seen',h=>by
  simp only[Yb,oP]at h;obtain⟨_,rfl,_⟩:=h;simp[Jr]|x::xs,i,os,seen,ys,os',seen',h=>by
  simp only[Yb]at h;split at h
  .rename_i nm mk hp;split at h;.cases h
   split at h;.cases h
   split at h
   .rename_i d;simp only[oP]at h;obtain⟨_,rfl,_⟩:=h;have:=Z1C d;simp only[Jr,hp];grind
   .cases h
  .rename_i hp;split at h;.cases h
   split at h;.rename_i d;simp only[oP]at h;obtain⟨_,rfl,_⟩:=h;have:=Z1C d;simp only[Jr,hp];exact this
   .cases h
theorem ZpR{st:FSt U}{l:List Name}{nm:Name}(h:nm∈Z9b st l):nm∈l\/(l≠[]/\∃k,k<8/\nm=.x k):=by
 rcases Z7L h with h|⟨h0,h⟩;.exact Z7L h
 .refine .inr ⟨λe=>?_,h⟩;subst e;exact h0 rfl
theorem ZaG{st st':FSt U}{l base:List Name}(hl:∀nm∈l,nm∈base)(hm:∀nm∈Z9m base,st'.mem nm=st.mem nm):Z9b st' l=Z9b st l:=by
 have e:Z3T st' l l=Z3T st l l:=Z6S λnm d=>hm nm (Z26 (hl nm d));unfold Z9b;rw[e];refine Z6S λnm d=>?_;rcases Z7L d with h|⟨h0,k,hk,rfl⟩;.exact hm nm (Z26 (hl nm h))
 .refine hm _ (ZeL hk λe=>?_);subst e;cases l with|nil=>exact h0 rfl|cons a r=>have:=hl a (by simp);cases this
theorem ZdW{st:FSt U}{vs:List (V U)}{base:List Name}(hs:∀x∈vs,∀nm∈Zw (some x),nm∈base):∀x∈vs++JM st vs,∀nm∈Zw (some x),nm∈Z9m base:=by
 intro x d nm hn;rcases Qf.1 d with d|d;.exact Z26 (hs x d nm hn)
 .unfold JM at d;obtain⟨n,h1,rfl⟩:=Xy.1 d;simp only[Zw,Qd]at hn;subst hn;rcases ZpR (Ql h1)with h2|⟨h2,k,hk,rfl⟩;.obtain⟨y,h3,h4⟩:=Jq h2;exact Z26 (hs y h3 _ h4)
  .refine ZeL hk λe=>?_;cases ha:Jr vs with|nil=>exact h2 ha|cons b l=>obtain⟨y,h3,h4⟩:=Jq (show b∈Jr vs by rw[ha];simp);grind
theorem Z2C{Γ:Known U}{st st':FSt U}{d:Nat}{f:FuncId}{vs:List (V U)}{base:List Name}(hd:st'.dead=st.dead)(hs:∀x∈vs,∀nm∈Zw (some x),nm∈base)(hm:∀nm∈Z9m base,st'.mem nm=st.mem nm)(hB:∀L,J1 st' d L=J1 st d L)(hW:∀s,Γ.fn f=some s->∀toks c,(bif s.wr then Jg st'.ls toks c else[])=(bif s.wr then Jg st.ls toks c else[]:List (Tok×LC U))):Z42 Γ st' d f vs=Z42 Γ st d f vs:=by unfold Z42;cases hG:Γ.fn f with
 |none=>rfl|some s=>
  have hx:JM st' vs=JM st vs:=by
   unfold JM;rw[ZaG (base:=base) ?_ hm];intro nm hn;obtain⟨x,h1,h2⟩:=Jq hn;exact hs x h1 nm h2
  have hn:=ZdW (st:=st) hs;simp only[hB,hW s hG,hx];rw[Z3d (st:=st) (st':=st') hd _ _ _ _ _ (λx aa nm ah=>hm nm (hn x aa nm ah))];cases hp:Yb st s.pass 0 (vs++JM st vs) [] []with
  |none=>rfl|some r=>
   obtain⟨ys,os,toks⟩:=r;have e:(os.map λx=>Z9d st' os (x.2,x.1))=os.map λx=>Z9d st os (x.2,x.1):=by apply List.map_congr_left;intro x aa;have h1:x.1∈os.map (·.1):=Xy.2 ⟨x,aa,rfl⟩;rw[Z1C hp]at h1;obtain⟨y,h2,h3⟩:=Jq (show x.1∈Jr (vs++JM st vs)by simpa using h1);simp only[Z9d,hm _ (hn y h2 _ h3)]
   simp only[e]
theorem Zly{Γ:Known U}{st st':FSt U}{d:Nat}{f:FuncId}{nm0:Name}{vs:List (V U)}{base:List Name}(hd:st'.dead=st.dead)(hs:∀x∈V.ptr nm0 0::vs,∀nm∈Zw (some x),nm∈base)(hm:∀nm∈Z9m base,st'.mem nm=st.mem nm)(hB:∀L,J1 st' d L=J1 st d L)(hW:∀s,Γ.fn f=some s->∀toks c,(bif s.wr then Jg st'.ls toks c else[])=(bif s.wr then Jg st.ls toks c else[]:List (Tok×LC U))):Z5W Γ st' d f nm0 vs=Z5W Γ st d f nm0 vs:=by unfold Z5W;cases hG:Γ.fn f with
 |none=>rfl|some s=>
  have hx:JM st' (.ptr nm0 0::vs)=JM st (.ptr nm0 0::vs):=by
   unfold JM;rw[ZaG (base:=base) ?_ hm];intro nm hn;obtain⟨x,h1,h2⟩:=Jq hn;exact hs x h1 nm h2
  have hn:=ZdW (st:=st) hs;simp only[hB,hW s hG,hx];rw[Z3d (st:=st) (st':=st') hd _ _ _ _ _ (λx aa nm ah=>hm nm (hn x aa nm ah))];cases hp:Yb st s.pass 0 (.ptr nm0 0::vs++JM st (.ptr nm0 0::vs)) [] []with
  |none=>rfl|some r=>
   obtain⟨ys,os,toks⟩:=r;have e:(os.map λx=>Z9d st' os (x.2,x.1))=os.map λx=>Z9d st os (x.2,x.1):=by apply List.map_congr_left;intro x aa;have h1:x.1∈os.map (·.1):=Xy.2 ⟨x,aa,rfl⟩;rw[Z1C hp]at h1;obtain⟨y,h2,h3⟩:=Jq (show x.1∈Jr (.ptr nm0 0::vs++JM st (.ptr nm0 0::vs))by simpa using h1);simp only[Z9d,hm _ (hn y h2 _ h3)]
   simp only[e]
theorem Z91{st st':FSt U}{x:Option Operand}(h:∀y,x=some y->st'.opnd y=st.opnd y):JU st' x=JU st x:=by cases x with|none=>rfl|some y=>simp only[JU,h y rfl]
theorem Z28{α β:Type}{f f':α->Option β}:∀{l:List α},(∀x,x∈l->f' x=f x)->l.mapM f'=l.mapM f|[],_=>rfl|x::l,h=>by rw[QW,QW,h x (by simp),Z28 (λy d=>h y (by simp[d]))]
theorem Zhl{v:Value}{x:V U}(h:Z0g v=some x):Zw (some x)=[]:=by
 unfold Z0g at h;split at h
 .rename_i cs;cases hm:cs.toList.mapM (Z0b (U:=U))<;>simp[hm]at h;subst h;rfl
 .cases h;rfl
 .cases hm:Z0b (U:=U) v<;>simp[hm]at h;subst h;rfl
theorem Zau:∀{vs:List Value}{us:List (V U)},vs.mapM Z0g=some us->∀(j:Nat)x,us[j]?=some x->∃v,Z0g v=some x|[],us,h,j,x,hx=>by simp at h;subst h;simp at hx|v::vs,us,h,j,x,hx=>by rw[QW]at h;cases h1:Z0g (U:=U) v with|none=>simp[h1]at h|some y=>cases h2:vs.mapM (Z0g (U:=U))with|none=>simp[h1,h2]at h|some ys=>simp[h1,h2]at h;subst h;cases j with|zero=>simp at hx;subst hx;exact⟨v,h1⟩|succ j=>exact Zau h2 j x (by simpa using hx)
theorem Zva{Γ:Known U}{o:Oper}{ops:Array Oper}{st st':FSt U}(h:Alike Γ o ops st st'):aop cfg Γ o st'.strip=aop cfg Γ o st.strip:=by
 have ab:=λ{x:Operand}(hx:x∈o.op.operands.toList)=>(h.opnd hx).2;have hm:=h.mem;have hd:=h.dead;have aj:=λ{x:Operand}(hx:x∈Z0w o){v:V U}(hv:st.strip.opnd x=some v){t:Tok}(ht:t∈v.toks)=>h.tok hx hv ht;have bd:=h.mu;have au:=h.fr;have aq:=h.all;obtain⟨ae,op,ay,bx,bp,bq⟩:=o;cases op<;>simp only[aop];case move x=>rw[ab (by simp[Op.operands])]
 case assign x=>
  have e2:∀d,ae=some d->st'.strip.ls (.r d 0)=st.strip.ls (.r d 0):=λd e=>by have:=au 0;rw[e]at this;exact this
  have e3:∀d,ae=some d->st'.strip.dead (.r d 0)=st.strip.dead (.r d 0):=λd e=>by have:=h.frd 0;rw[e]at this;exact this
  have e:ZxB cfg st'.strip ae ay x=ZxB cfg st.strip ae ay x:=by
   unfold ZxB;rw[ab (by simp[Op.operands])];cases st.strip.opnd x with|none=>rfl|some v=>cases cfg.slT ay with
    |none=>cases v<;>first|rfl|(rename_i y;cases y<;>rfl)
    |some T=>cases ae with
     |none=>cases v<;>first|rfl|(rename_i y;cases y<;>rfl)
     |some d=>
      have e2:=e2 d rfl;have e3:=e3 d rfl;cases v<;>first|rfl|skip
      rename_i y;cases y<;>first|rfl|skip
      simp only[e2,e3]
  rw[e,ab (by simp[Op.operands])]
 case alloc t=>cases ae with
  |none=>rfl|some d=>have:st'.strip.mem (.loc d)=st.strip.mem (.loc d):=hm (.loc d) (by simp[touch]);cases cfg.var t with|none=>rfl|some z=>simp only[this]
 case box t x=>cases ae with
  |none=>rfl|some d=>
   have:st'.strip.mem (.loc d)=st.strip.mem (.loc d):=hm (.loc d) (by simp[touch]);rw[ab (x:=x) (by simp[Op.operands])];cases cfg.var t with|none=>rfl|some z=>cases(st.strip.opnd x).bind V.cells with
    |none=>rfl|some cs=>simp only[this]
 case build t parts=>
  rw[Z28 (f:=λx=>((st.strip.opnd x.2).bind V.cells).map (x.1,·))];intro x hx;rw[ab (by simp only[Op.operands];simp;exact⟨x.1,by simpa using hx⟩)]
 case buildSlice t n parts=>
  rw[Z28 (f:=λx=>(st.strip.opnd x.2).map (x.1,·)) (by intro x hx;rw[ab (by simp only[Op.operands];simp;exact⟨x.1,by simpa using hx⟩)])];have ak:st'.strip.mu=st.strip.mu:=bd;cases hc:Z5N parts.toList with
  |false=>simp only[Bool.and_false,cond_false]|true=>
   have e1:st'.strip.dead=st.strip.dead:=hd hc;cases ae with
   |none=>simp only[ZeI,ak]|some d=>
    have e2:st'.strip.ls (.r d 0)=st.strip.ls (.r d 0):=au 0;simp only[ZeI,ak,e1,e2]
 case load t p=>
  rw[ab (by simp[Op.operands])];cases cfg.var t with|none=>rfl|some z=>cases hp:st.strip.opnd p with
   |none=>rfl|some v=>
    have:rd st'.strip v z.1 z.2.length=rd st.strip v z.1 z.2.length:=ZwX λnm ah=>hm nm (by simp only[touch];rw[hp];exact ah);cases v<;>first|(simp only[this];done)|skip
    case c c=>cases c<;>first|rfl|(simp only[this];done)
    case mp u n off=>
     have:st'.strip.ls u=st.strip.ls u:=aj (x:=p) (by simp[Z0w]) hp (by simp[V.toks]);simp only[this]
 case store t p x=>
  rw[ab (x:=p) (by simp[Op.operands]),ab (x:=x) (by simp[Op.operands])];cases cfg.var t with
  |none=>rfl|some z=>cases hp:st.strip.opnd p with
   |none=>rfl|some v=>
    cases v<;>try rfl
    case mp u n off=>
     have:st'.strip.ls u=st.strip.ls u:=aj (x:=p) (by simp[Z0w]) hp (by simp[V.toks]);cases(st.strip.opnd x).bind V.cells with|none=>rfl|some cs=>simp only[this]
    case ptr nm off=>have:st'.strip.mem nm=st.strip.mem nm:=hm nm (by simp only[touch];rw[hp];simp[Zw]);cases(st.strip.opnd x).bind V.cells with|none=>rfl|some cs=>simp only[this]
    case ap nm off k len n=>
     have:st'.strip.mem nm=st.strip.mem nm:=hm nm (by simp only[touch];rw[hp];simp[Zw]);cases(st.strip.opnd x).bind V.cells with
     |none=>rfl|some cs=>match cs with
      |[]=>rfl|[c]=>cases c<;>first|rfl|simp only[this]
      |c::_::_=>cases c<;>rfl
 case nilCheck x=>
  rw[ab (by simp[Op.operands])];cases hp:st.strip.opnd x with
  |none=>rfl|some v=>
   cases v<;>try rfl
   case c c=>cases c<;>rfl
   case mp u n off=>
    have:st'.strip.ls u=st.strip.ls u:=aj (x:=x) (by simp[Z0w]) hp (by simp[V.toks]);simp only[this]
 case binOp bop t x y t'=>rw[ab (x:=x) (by simp[Op.operands]),ab (x:=y) (by simp[Op.operands])]
 case unOp uop t x=>rw[ab (by simp[Op.operands])]
 case convert src dst' x=>rw[ab (by simp[Op.operands])]
 case makeSlice t n m=>rw[ab (x:=n) (by simp[Op.operands]),ab (x:=m) (by simp[Op.operands])];have ak:st'.strip.mu=st.strip.mu:=bd;have e1:st'.strip.dead=st.strip.dead:=hd rfl;cases ae with|none=>simp only[Zlv,ak]|some d=>have e2:st'.strip.ls (.r d 0)=st.strip.ls (.r d 0):=au 0;simp only[Zlv,ak,e1,e2]
 case slice t x lo hi mx=>
  rw[ab (x:=x) (by simp[Op.operands]),Z91 (x:=lo) (λy hy=>ab (by simp[Op.operands,hy])),Z91 (x:=hi) (λy hy=>ab (by simp[Op.operands,hy])),Z91 (x:=mx) (λy hy=>ab (by simp[Op.operands,hy]))];cases hp:st.strip.opnd x with
  |none=>rfl|some v=>
   cases v;case ptr nm off=>have:st'.strip.mem nm=st.strip.mem nm:=hm nm (by simp only[touch];rw[hp];simp[Zw]);cases JU st.strip lo with|none=>rfl|some a=>cases JU st.strip hi with|none=>cases a<;>rfl|some b=>cases JU st.strip mx with|none=>cases a<;>cases b<;>rfl|some c=>cases a<;>cases b<;>cases c<;>first|rfl|simp only[this]
   case c c=>
    have bk:st'.strip.vw=st.strip.vw:=h.vw;cases c;case mref u=>
     have:st'.strip.ls u=st.strip.ls u:=aj (x:=x) (by simp[Z0w]) hp (by simp[V.toks]);rcases JU st.strip lo with _|_|v;case some.none=>
      have e2:st'.strip.ls (.r (ae.getD 0) 0)=st.strip.ls (.r (ae.getD 0) 0):=au 0;have e3:st'.strip.dead (.r (ae.getD 0) 0)=st.strip.dead (.r (ae.getD 0) 0):=h.frd 0;rcases JU st.strip hi with _|_|v;case some.some=>
       cases v;case c c=>
        cases c;case int k b=>
         rcases JU st.strip mx with _|_|_;.try rfl
         .simp only[this];cases cfg.slT t with|none=>rfl|some S=>cases st.strip.ls u with|none=>rfl|some y=>cases ae with|none=>rfl|some d=>have e2:st'.strip.ls (.r d 0)=st.strip.ls (.r d 0):=e2;have e3:st'.strip.dead (.r d 0)=st.strip.dead (.r d 0):=e3;simp only[bk,e2,e3]
         .try rfl
        all_goals(rcases JU st.strip mx with _|_|_<;>rfl)
       all_goals(cases JU st.strip mx<;>rfl)
      all_goals(cases JU st.strip mx<;>rfl)
     case some.some=>
      cases v;case c c=>cases c<;>rcases JU st.strip hi with _|_|_<;>rcases JU st.strip mx with _|_|_<;>first|rfl|simp only[this,bk]
      all_goals(cases JU st.strip hi<;>cases JU st.strip mx<;>rfl)
     all_goals(cases JU st.strip hi<;>cases JU st.strip mx<;>rfl)
    all_goals(cases JU st.strip lo<;>cases JU st.strip hi<;>cases JU st.strip mx<;>rfl)
   all_goals(cases JU st.strip lo<;>cases JU st.strip hi<;>cases JU st.strip mx<;>rfl)
 case fieldAddr t x f=>
  rw[ab (by simp[Op.operands])];cases hp:st.strip.opnd x with
  |none=>rfl|some v=>cases cfg.fld t f with
   |none=>cases v with
    |c c=>cases c<;>rfl|_=>rfl
   |some z=>
    cases v<;>try rfl
    case c c=>cases c<;>rfl
    case mp u n off=>
     have:st'.strip.ls u=st.strip.ls u:=aj (x:=x) (by simp[Z0w]) hp (by simp[V.toks]);simp only[this]
 case makeFunc f first caps=>
  rw[Z28 (f:=λx=>(st.strip.opnd x).bind Zk9)]
  .cases f<;>try rfl
   case func f=>cases List.mapM (λx=>(st.strip.opnd x).bind Zk9) caps.toList with
    |none=>cases first.toList with|nil=>rfl|cons _ l=>cases l<;>rfl
    |some nms=>cases hfi:first.toList with
     |nil=>rfl|cons x l=>cases l with
      |cons y l=>cases nms<;>rfl|nil=>cases nms with
       |cons _ _=>rfl|nil=>simp only;rw[ab (x:=x) (by
         have a7:first=#[x]:=by apply QU;simpa using hfi
         simp[Op.operands,a7])]
  intro x hx;rw[ab (by simp only[Op.operands];simp;right;simpa using hx)]
 case makeInterface t x=>rw[ab (by simp[Op.operands])]
 case typeAssert x xt t ck=>rw[ab (by simp[Op.operands])]
 case field t x f=>rw[ab (by simp[Op.operands])]
 case indexAddr t x i=>rw[ab (x:=x) (by simp[Op.operands]),ab (x:=i) (by simp[Op.operands])];cases hp:st.strip.opnd x with|none=>rfl|some v=>cases hi:st.strip.opnd i with
   |none=>cases v<;>first|rfl|(rename_i y;cases y<;>rfl)
   |some vi=>
    cases vi<;>first|(cases v<;>first|(rfl;done)|(rename_i y;cases y<;>(rfl;done));done)|skip
    case c z=>
     cases z<;>first|(cases v<;>first|(rfl;done)|(rename_i y;cases y<;>(rfl;done));done)|skip
     case int k n=>
      cases v<;>first|(rfl;done)|skip
      case c y=>
       cases y<;>first|(rfl;done)|skip
       case mref u=>
        have:st'.strip.ls u=st.strip.ls u:=aj (x:=x) (by simp[Z0w]) hp (by simp[V.toks]);simp only[this]
 case index t x i=>rw[ab (x:=x) (by simp[Op.operands]),ab (x:=i) (by simp[Op.operands])]
 case extract x i=>rw[ab (by simp[Op.operands])]
 case call c=>unfold Zlz;cases hc:c.callee with
  |builtin b=>
   simp only;have hx:∀x∈c.args.toList,st'.strip.opnd x=st.strip.opnd x:=λx hx=>ab (by simp[Op.operands,Call.operands,hc];simpa using hx);unfold Zhd;split
   .rename_i x t aa bb;rw[hx x (by rw[aa];simp)];cases hp:st.strip.opnd x with
    |none=>rfl|some v=>
     have:lenOf cfg st'.strip t v=lenOf cfg st.strip t v:=by
      cases v<;>try rfl
      case c y=>
       cases y<;>try rfl
       case mref u=>
        have:st'.strip.ls u=st.strip.ls u:=aj (x:=x) (by simp only[Z0w,hc];rw[aa];simp) hp (by simp[V.toks]);simp only[lenOf,this]
     simp only[this]
   .rename_i x y t t' aa bb;rw[hx x (by rw[aa];simp),hx y (by rw[aa];simp)];have ai:st'.dead=st.dead:=hd (by simp only[Z21,hc]);have:∀d t x y,Z89 cfg st'.strip d t x y=Z89 cfg st.strip d t x y:=λd t x y=>by simp only[Z89,FSt.strip,ai]
    have ak:st'.strip.mu=st.strip.mu:=bd;cases ae with
    |none=>rfl|some d=>cases hp:st.strip.opnd x with|none=>rfl|some v=>
      cases v<;>try rfl
      case c cx=>
       have hM:∀t y,Z59 cfg st'.strip d t cx y=Z59 cfg st.strip d t cx y:=by
        intro t y;have e1:st'.strip.dead=st.strip.dead:=ai;have e2:st'.strip.ls (.r d 0)=st.strip.ls (.r d 0):=au 0;have e3:∀T,Z67 cfg st'.strip T cx=Z67 cfg st.strip T cx:=by
         intro T;cases cx<;>simp only[Z67,e1];case mref u=>
          have:st'.strip.ls u=st.strip.ls u:=aj (x:=x) (by simp only[Z0w,hc];rw[aa];simp) hp (by simp[V.toks]);simp only[this]
        simp only[Z59,e1,e2,e3]
       have hZ:∀t t' y,Z58 cfg st'.strip d t t' cx y=Z58 cfg st.strip d t t' cx y:=by
        intro t t' y;have e1:st'.strip.dead=st.strip.dead:=ai;have e2:st'.strip.ls (.r d 0)=st.strip.ls (.r d 0):=au 0;have e3:∀T,Z67 cfg st'.strip T cx=Z67 cfg st.strip T cx:=by
         intro T;cases cx<;>simp only[Z67,e1];case mref u=>have:st'.strip.ls u=st.strip.ls u:=aj (x:=x) (by simp only[Z0w,hc];rw[aa];simp) hp (by simp[V.toks]);simp only[this]
        simp only[Z58,e1,e2,e3]
       cases hq:st.strip.opnd y with|none=>rfl|some vy=>cases vy<;>first|(rfl;done)|(simp only[this,hM,hZ,ak])
   .rename_i x t aa bb;rw[hx x (by rw[aa];simp)];cases hp:st.strip.opnd x with|none=>rfl|some v=>
     cases v<;>try rfl
     case vw u n=>
      have:st'.strip.ls u=st.strip.ls u:=aj (x:=x) (by simp only[Z0w,hc];rw[aa];simp) hp (by simp[V.toks]);simp only[Zlw,this]
   .rename_i x y t t' aa bb;rw[hx x (by rw[aa];simp),hx y (by rw[aa];simp)];cases hp:st.strip.opnd x with
    |none=>rfl|some v=>
     cases v<;>try rfl
     case vw u n=>
      have:st'.strip.ls u=st.strip.ls u:=aj (x:=x) (by simp only[Z0w,hc];rw[aa];simp) hp (by simp[V.toks]);cases st.strip.opnd y with|none=>rfl|some vy=>cases vy<;>first|rfl|simp only[Zty,this]
   .rename_i x y aa;rw[hx x (by rw[aa];simp),hx y (by rw[aa];simp)]
   .rename_i x y aa;rw[hx x (by rw[aa];simp),hx y (by rw[aa];simp)]
   .try rfl|value gx=>
   simp only;have ai:st'.dead=st.dead:=hd (by simp only[Z21,hc]);have hx:∀x∈c.args.toList,st'.strip.opnd x=st.strip.opnd x:=λx hx=>ab (by simp[Op.operands,Call.operands,hc];right;simpa using hx);rw[ab (x:=gx) (by simp[Op.operands,Call.operands,hc]),Z28 (f:=st.strip.opnd) hx];cases hg:st.strip.opnd gx with
   |none=>rfl|some v=>
    have ao:∀(vs:List (V U)),c.args.toList.mapM st.strip.opnd=some vs->∀x∈vs,∀nm∈Zw (some x),nm∈Zw (some v)++c.args.toList.flatMap λx=>Zw (st.strip.opnd x):=by
     intro vs hv x az nm ah;obtain⟨j,hj,rfl⟩:=Xe az;have bh:=(mapM_len hv);have aw:j<c.args.toList.length:=Yp;obtain⟨y,h1,h2⟩:=Z4D hv j _ (Q1 aw);rw[Q1 hj]at h1;cases h1;exact Xh _ (Kr.2 ⟨_,List.getElem_mem aw,by rw[h2];exact ah⟩)
    have al:∀nm∈Z9m (Zw (some v)++c.args.toList.flatMap λx=>Zw (st.strip.opnd x)),st'.strip.mem nm=st.strip.mem nm:=by intro nm ah;refine hm nm ?_;simp only[touch,hc,hg];exact Q3 _ ah
    have hB:∀L,J1 st'.strip (ae.getD 0) L=J1 st.strip (ae.getD 0) L:=Z5z (st:=st.strip) (st':=st'.strip) ai au;have hW:∀f',(v=.fn f'\/∃nms,v=.clo f' nms)->∀s,Γ.fn f'=some s->∀toks c,(bif s.wr then Jg st'.strip.ls toks c else[])=(bif s.wr then Jg st.strip.ls toks c else[]:List (Tok×LC U)):=by intro f' hv s hG toks c';cases hw:s.wr with|false=>rfl|true=>have:st'.ls=st.ls:=aq (by rcases hv with rfl|⟨nms,rfl⟩<;>simp only[JZ,hc,hg,Z7r,hG,hw,Bool.true_or,Bool.or_true]);simp only[cond_true,FSt.strip,this]
    cases v<;>try rfl
    case fn f=>cases hv:c.args.toList.mapM st.strip.opnd with
     |none=>rfl|some vs=>
      simp only;cases hin:Znv Γ f with
      |some i=>
       have:st'.ls=st.ls:=aq (by
        unfold Znv at hin;split at hin;.rename_i s hG;simp only[JZ,hc,hg,Z7r,hG,hin,Option.isSome_some,Bool.or_true]
        .cases hin);simp only[Zvg,FSt.strip,this]|none=>simp only;cases hb:Zsw Γ f with
      |false=>cases hmk:ZFs Γ f with
       |false=>simp only[cond_false];exact Z2C ai (ao vs hv) al hB (hW f (.inl rfl))|true=>
        have:st'.strip.mem (.loc (ae.getD 0))=st.strip.mem (.loc (ae.getD 0)):=hm _ (by simp[touch,hc]);have e:Z55 st'.strip vs=Z55 st.strip vs:=by
         unfold Z55;split;.rename_i nm;rw[al nm (Z26 (ao _ hv _ Q5 nm (by simp[Zw])))]
         .try rfl
        simp only[cond_true,cond_false,Zvf,this,e];have bn:Z42 Γ st'.strip (ae.getD 0) f vs=Z42 Γ st.strip (ae.getD 0) f vs:=Z2C ai (ao vs hv) al hB (hW f (.inl rfl));rw[bn]
      |true=>
       have:st'.ls=st.ls:=aq (by
        unfold Zsw at hb;split at hb;.rename_i s hG;simp only[JZ,hc,hg,Z7r,hG,hb,Bool.or_true,Bool.true_or]
        .cases hb);have e:V.lend st'.strip=V.lend st.strip:=by
        have e2:C.lend st'.strip=C.lend st.strip:=by
         funext c;cases c<;>simp only[C.lend,FSt.strip,this]
        funext v;cases v<;>simp only[V.lend,e2]
       simp only[cond_true,Z8u,e]
    case clo f nms=>cases hv:c.args.toList.mapM st.strip.opnd with|none=>rfl|some vs=>simp only;cases hlk:ZkA Γ f with
      |some k=>
       have ah:∀nm∈nms,st'.strip.mem nm=st.strip.mem nm:=λnm hn=>al nm (Z26 (QS _ (by simpa[Zw]using hn)));have bm:∀nm∈nms,∀x,Nat.blt x 8=true->st'.strip.mem (.x x)=st.strip.mem (.x x):=λnm hn x hx=>al _ (ZeL (by simpa using hx) (λe=>by
        have:nm∈Zw (some (V.clo f nms:V U))++c.args.toList.flatMap λx=>Zw (st.strip.opnd x):=QS _ (by simpa[Zw]using hn);rw[e]at this;cases this));simp only[Zjl];split
       .rename_i c0 nm;rw[ah nm (by simp)];split;.rename_i x _;cases hb:Nat.blt x 8 with|false=>rfl|true=>rw[bm nm (by simp) x hb]
        .try rfl
       .try rfl|none=>
      refine Z2C ai (λx hx nm ah=>?_) al hB (hW f (.inr ⟨nms,rfl⟩));rcases Qf.1 hx with hx|hx;.exact ao vs hv x hx nm ah
      .obtain⟨bz,h1,rfl⟩:=Xy.1 hx;simp only[Zw,Qd]at ah;subst ah;exact QS _ (by simpa[Zw]using h1)
    case kv u=>
     cases u<;>try rfl
     case func fn first caps=>
      cases fn<;>try rfl
      case func f=>cases hv:c.args.toList.mapM st.strip.opnd with
       |none=>rfl|some vs=>simp only;cases hca:caps.toList with|cons _ _=>rfl|nil=>cases hus:first.toList.mapM (Z0g (U:=U))with|none=>rfl|some us=>
          have a1:st'.ls=st.ls:=aq (by simp only[JZ,hc,hg]);refine Z2C ai (λx hx nm ah=>?_) al hB (λs hG toks c'=>by simp only[FSt.strip,a1]);rcases Qf.1 hx with hx|hx
          .obtain⟨j,hj,rfl⟩:=Xe hx;obtain⟨y,h1⟩:=Zau hus j _ (Q1 hj);have:=Zhl h1;rw[this]at ah;cases ah
          .exact ao vs hv x hx nm ah
  |invoke r m=>
   simp only;have ai:st'.dead=st.dead:=hd (by simp only[Z21,hc]);have a1:st'.ls=st.ls:=aq (by simp only[JZ,hc]);have hx:∀x∈c.args.toList,st'.strip.opnd x=st.strip.opnd x:=λx hx=>ab (by simp[Op.operands,Call.operands,hc];right;simpa using hx);rw[ab (x:=r) (by simp[Op.operands,Call.operands,hc]),Z28 (f:=st.strip.opnd) hx];cases hg:st.strip.opnd r with
   |none=>rfl|some v=>
    cases v<;>try rfl
    case ifp t nm=>cases hv:c.args.toList.mapM st.strip.opnd with
     |none=>rfl|some vs=>
      have al:∀n∈Z9m ([nm]++c.args.toList.flatMap λx=>Zw (st.strip.opnd x)),st'.strip.mem n=st.strip.mem n:=by intro n ah;refine hm n ?_;simp only[touch,hc,hg];exact Q3 _ ah
      have ao:∀x∈V.ptr nm 0::vs,∀n∈Zw (some x),n∈[nm]++c.args.toList.flatMap λx=>Zw (st.strip.opnd x):=by
       intro x az n ah;rcases Q9.1 az with rfl|az;.simp only[Zw,Qd]at ah;simp[ah]
       .obtain⟨j,hj,rfl⟩:=Xe az;have bh:=(mapM_len hv);have aw:j<c.args.toList.length:=Yp;obtain⟨y,h1,h2⟩:=Z4D hv j _ (Q1 aw);rw[Q1 hj]at h1;cases h1;exact Xh _ (Kr.2 ⟨_,List.getElem_mem aw,by rw[h2];exact ah⟩)
      have hB:∀L,J1 st'.strip (ae.getD 0) L=J1 st.strip (ae.getD 0) L:=Z5z (st:=st.strip) (st':=st'.strip) ai au;have hW:∀f' s,Γ.fn f'=some s->∀toks c,(bif s.wr then Jg st'.strip.ls toks c else[])=(bif s.wr then Jg st.strip.ls toks c else[]:List (Tok×LC U)):=by intro f' s _ toks c';simp only[FSt.strip,a1]
      have e0:st'.strip.mem nm=st.strip.mem nm:=al nm (Z26 (by simp));have e:V.lend st'.strip=V.lend st.strip:=by
       have e2:C.lend st'.strip=C.lend st.strip:=by
        funext c;cases c<;>simp only[C.lend,FSt.strip,a1]
       funext v;cases v<;>simp only[V.lend,e2]
      simp only;cases cfg.mth t m with|none=>rfl|some q=>obtain⟨f,vr⟩:=q;cases vr with|false=>exact Z2C ai ao al hB (hW f)|true=>simp only[e0];cases st.strip.mem nm with|none=>rfl|some cs=>match cs with|[]=>rfl|_::_::_=>rfl|[c0]=>simp only[Z8u,e];rw[Zly (st:=st.strip) (st':=st'.strip) ai ao al hB (hW f)]where mapM_len{f:Operand->Option (V U)}:∀{xs:List Operand}{vs:List (V U)},xs.mapM f=some vs->xs.length=vs.length:=by intro xs;induction xs with|nil=>intro vs h;simp at h;subst h;rfl|cons y xs ih=>intro vs h;rw[QW]at h;cases h1:f y with|none=>simp[h1]at h|some v=>cases h2:xs.mapM f with|none=>simp[h1,h2]at h|some r=>simp[h1,h2]at h;subst h;simp[ih h2]
theorem Zbv{st st':FSt U}{G:Option Bool}:∀{l:List Operand},(∀t,Operand.tmp t∈l->st'.env t=st.env t)->Z0Q st' G l=Z0Q st G l|[],_=>rfl|x::l,h=>by have d:=Zbv (l:=l) (G:=G) (λt ht=>h t (by simp[ht]));cases x with|tmp t=>simp only[Z0Q,h t (by simp),d]|_=>trivial
theorem ZdR{tyEq:DecidableEq U.Ty}{G:Bool}{m0 m1:Name->Option (List (C U))}:∀{m:List (Name×List (C U))},(∀x∈m,m1 x.1=m0 x.1)->Z4L tyEq G m1 m=Z4L tyEq G m0 m|[],_=>rfl|(nm,cs)::r,h=>by simp only[Z4L,h (nm,cs) (by simp),ZdR (m:=r) (λx d=>h x (by simp[d]))]
theorem Z6M{l:List Name}{nm:Name}:Jm l nm=true↔nm∈l:=by refine⟨?_,Z6L⟩;induction l with|nil=>intro h;cases h|cons x l ih=>intro h;simp only[Jm]at h;grind
theorem Z6c{o:Oper}{ops:Array Oper}{st st':FSt U}(h:∀t,t∈o.looksAt ops->st'.env t=st.env t):touch o st'=touch o st:=by
 have d:∀{x:Operand},x∈o.op.operands.toList->st'.strip.opnd x=st.strip.opnd x:=by
  intro x hx;cases x with
  |tmp t=>simp[FSt.opnd,FSt.strip,h t (QS _ (XA.2 ⟨.tmp t,hx,rfl⟩))]|_=>rfl
 obtain⟨ai,op,af,ah,ab,ae⟩:=o;cases op<;>simp only[touch];case load t p=>rw[d (by simp[Op.operands])]
 case store t p x=>rw[d (by simp[Op.operands])]
 case slice t x lo hi mx=>rw[d (by simp[Op.operands])]
 case call c=>
  have:∀(l:List Operand),(∀x∈l,x∈c.args.toList)->(l.flatMap λx=>Zw (st'.strip.opnd x))=l.flatMap λx=>Zw (st.strip.opnd x):=by
   intro l;induction l with
   |nil=>intro _;rfl|cons x l ih=>intro hl;rw[XV,XV,ih (λy hy=>hl y (by simp[hy])),d (by have:=hl x (by simp);cases hc:c.callee<;>simp[Op.operands,Call.operands,hc]<;>first|(right;simpa using this)|simpa using this)]
  rw[this _ (λx hx=>hx)];cases hc:c.callee with|value gx=>simp only[d (x:=gx) (by simp[Op.operands,Call.operands,hc])]|builtin b=>rfl|invoke r m=>simp only[d (x:=r) (by simp[Op.operands,Call.operands,hc])]
theorem ZoR{o:Oper}{x:Operand}(h:x∈Z0w o):x∈o.op.operands.toList:=by
 obtain⟨af,op,ab,ae,d,aa⟩:=o;cases op<;>simp only[Z0w]at h<;>(try(cases h;done));case load t p=>trivial
 case store t p x=>simp only[Qd]at h;subst h;simp[Op.operands]
 case nilCheck x=>trivial
 case fieldAddr t x f=>trivial
 case indexAddr t x i=>simp only[Qd]at h;subst h;simp[Op.operands]
 case slice t x lo hi mx=>simp only[Qd]at h;subst h;simp[Op.operands]
 case call c=>cases hc:c.callee<;>rw[hc]at h<;>(try(cases h;done));simp only at h;simp only[Op.operands,Call.operands,hc];simpa using h
theorem Z9q{o:Oper}{ops:Array Oper}{st st':FSt U}(h:∀t,t∈o.looksAt ops->st'.env t=st.env t):touchT o st'=touchT o st:=by
 have d:∀{x:Operand},x∈o.op.operands.toList->st'.strip.opnd x=st.strip.opnd x:=by
  intro x hx;cases x with
  |tmp t=>simp[FSt.opnd,FSt.strip,h t (QS _ (XA.2 ⟨.tmp t,hx,rfl⟩))]|_=>rfl
 unfold touchT;have:∀(l:List Operand),(∀x∈l,x∈Z0w o)->(l.flatMap λx=>(st'.strip.opnd x).toList.flatMap V.toks)=l.flatMap λx=>(st.strip.opnd x).toList.flatMap V.toks:=by intro l;induction l with|nil=>intro _;rfl|cons x l ih=>intro hl;rw[XV,XV,ih (λy hy=>hl y (by simp[hy])),d (ZoR (hl x (by simp)))]
 grind
theorem Z8t{Γ:Known U}{o:Oper}{ops:Array Oper}{st st':FSt U}(h:∀t,t∈o.looksAt ops->st'.env t=st.env t):JZ Γ o st'=JZ Γ o st:=by
 obtain⟨af,op,ab,ae,d,aa⟩:=o;cases op<;>try rfl
 case call c=>
  simp only[JZ];cases hc:c.callee<;>try rfl
  case value g=>
   have:st'.strip.opnd g=st.strip.opnd g:=by cases g with
    |tmp t=>simp[FSt.opnd,FSt.strip,h t (QS _ (XA.2 ⟨.tmp t,by simp[Op.operands,Call.operands,hc],rfl⟩))]|_=>rfl
   grind
theorem Ze3{Γ:Known U}{o:Oper}{ops:Array Oper}{st st':FSt U}(h:Alike Γ o ops st st'):Z66 cfg Γ ops o st'=Z66 cfg Γ ops o st:=by
 have d:=λ{x:Operand}(hx:x∈o.op.operands.toList)=>(h.opnd hx).1;have hG:Z5F ops st' o=Z5F ops st o:=by
  unfold Z5F;cases hg:o.guard with
  |none=>rfl|some jw=>
   obtain⟨j,ae⟩:=jw;simp only;cases ht:(ops[j]?).bind (·.dst)with|none=>rfl|some t=>have:st'.env t=st.env t:=h.env t (Xh _ (by simp[hg,ht]));grind
 have hN:∀G,Z0Q st' G o.op.operands.toList=Z0Q st G o.op.operands.toList:=λG=>Zbv λt ht=>h.env t (QS _ (XA.2 ⟨.tmp t,ht,rfl⟩));unfold Z66;rw[h.n];split
 .split;.rename_i c x y hc;rw[hG,d (x:=c) (by simp[hc,Op.operands]),d (x:=x) (by simp[hc,Op.operands]),d (x:=y) (by simp[hc,Op.operands])]
  .have ht:=Z6c (st:=st) (st':=st') h.env;rw[hG];simp only[Zva h,hN,ht];split;.try rfl
   .rename_i G ah;cases he:aop cfg Γ o st.strip with|none=>rfl|some r=>obtain⟨ps,e⟩:=r;cases G with|none=>rfl|some Gb=>obtain⟨v,m,k,l⟩:=e;cases v with|none=>rfl|some v=>cases k with|cons _ _=>grind|nil=>cases l with|cons _ _=>grind|nil=>cases m with|nil=>rfl|cons x r=>simp only;cases hall:(x::r).all λx=>Jm (touch o st) x.1 with|false=>rfl|true=>have hj:Z4L cfg.tyEq Gb st'.mem (x::r)=Z4L cfg.tyEq Gb st.mem (x::r):=ZdR λy hy=>h.mem _ (Z6M.1 (by grind));rw[hj]
 .try rfl
theorem Z5s{m0:Name->Option (List (C U))}{m:List (Name×List (C U))}{nm:Name}(h:Jm (m.map (·.1)) nm=false):ZX m0 m nm=m0 nm:=by induction m with
 |nil=>rfl|cons x m ih=>
  obtain⟨b,cs⟩:=x;simp only[Xa,Jm]at h;split at h;.cases h
  .rename_i e;simp only[ZX];grind
theorem Zgk{x y:List Name}(h:Zpu x y=false):∀nm,nm∈x->Jm y nm=false:=by intro nm d;unfold Zpu at h;grind
theorem ZtT{l:List Tok}{t:Tok}:ZlJ l t=true↔t∈l:=by induction l with|nil=>simp[ZlJ]|cons x l ih=>simp only[ZlJ,Q9];grind
theorem Zdz{x y:List Tok}(h:Zgl x y=false):∀t,t∈x->t∉y:=by intro t ht d;unfold Zgl at h;rw[List.any_eq_false]at h;have:=h t ht;rw[ZtT.2 d]at this;simp at this
theorem ZuA{m:Tok->Option (LC U)}{l:List (Tok×LC U)}{t:Tok}(h:t∉l.map (·.1)):Zy m l t=m t:=by induction l with|nil=>rfl|cons x l ih=>obtain⟨b,y⟩:=x;simp only[Xa,Q9,not_or]at h;simp only[Zy];grind
theorem Z4E{m:Tok->Option (LC U)}{e:Eff U}{t:Tok}(h:t∉e.kill++e.ls.map (·.1)):JV m e t=m t:=by
 simp only[Qf,not_or]at h;unfold JV;have:e.kill.contains t=false:=by cases hk:e.kill.contains t with|false=>rfl|true=>exact absurd (by simpa using hk) h.1
 rw[this,cond_false,ZuA h.2]
theorem Zjj{Γ:Known U}{ops:Array Oper}{x y:Oper}{st:FSt U}{e:Eff U}(hap:x.apart ops y=true)(hm:Zpu (e.mem.map (·.1)) (touch y st)=false)(hk:(!e.kill.isEmpty&&Z21 y)=false)(ht:Zgl (e.kill++e.ls.map (·.1)) (touchT y st)=false)(hr:noR (y.dst.getD 0) (e.kill++e.ls.map (·.1))=true)(ha:((e.kill++e.ls.map (·.1)).isEmpty||!JZ Γ y st)=true):Alike Γ y ops st (st.app x.dst e):=by
 obtain⟨h1,_,_⟩:=Oper.apart_spec hap;refine⟨?_,?_,?_,?_,by cases x.dst<;>rfl,by cases x.dst<;>rfl,λt af=>Z4E (λhm=>Zdz ht t hm af),λj=>Z4E (λhm=>?_),λj=>?_,λhc=>?_⟩;.cases x.dst<;>rfl
 .intro t ht;cases hd:x.dst with
  |none=>rfl|some d=>
   have ai:t≠d:=λe=>h1 d hd (e▸ht);have:Nat.beq t d=false:=by cases hb:Nat.beq t d with|false=>rfl|true=>simp_all
   simp[FSt.app,FSt.put,this]
 .intro nm hn;have:Jm (e.mem.map (·.1)) nm=false:=by cases hb:Jm (e.mem.map (·.1)) nm with|false=>rfl|true=>have:=Zgk hm nm (Z6M.1 hb);rw[Z6L hn]at this;cases this
  exact Z5s this
 .intro hr;simp only[hr,Kn,Bool.not_eq_false']at hk;have:e.kill=[]:=by simpa using hk
  simp[FSt.app,this]
 .have:=QE.1 hr _ hm;simp at this
 .simp only[FSt.app];cases hk:e.kill.contains (.r (y.dst.getD 0) j)with|false=>simp|true=>have:=QE.1 hr (.r (y.dst.getD 0) j) (QS _ (by simpa using hk));simp at this
 .rw[hc]at ha;simp only[Km,Bool.or_false,List.isEmpty_iff]at ha;funext t;exact Z4E (by rw[ha];simp)
theorem ZAw{ops:Array Oper}{x y:Oper}{st:FSt U}{e f:Eff U}(hap:x.apart ops y=true)(hm:Zpu (e.mem.map (·.1)) (f.mem.map (·.1))=false)(hl:Zgl (e.kill++e.ls.map (·.1)) (f.kill++f.ls.map (·.1))=false):(st.app x.dst e).app y.dst f=(st.app y.dst f).app x.dst e:=by
 obtain⟨_,h2,_⟩:=Oper.apart_spec hap;have am:∀(s:FSt U)(v u:V U),((s.put x.dst v).put y.dst u)=((s.put y.dst u).put x.dst v):=by
  intro s v u;cases hx:x.dst with
  |none=>rfl|some d=>cases hy:y.dst with
   |none=>rfl|some d'=>
    have aa:d≠d':=λe=>h2 d hx (by rw[hy,e]);simp only[FSt.put];congr 1;funext j;cases h1:Nat.beq j d with
    |false=>rfl|true=>cases h3:Nat.beq j d' with
     |false=>rfl|true=>exact absurd ((Qe h1).symm.trans (Qe h3)) aa
 have aj:ZX (ZX st.mem e.mem) f.mem=ZX (ZX st.mem f.mem) e.mem:=by
  funext nm;cases h1:Jm (e.mem.map (·.1)) nm with
  |false=>
   rw[Z5s (m:=e.mem) (m0:=ZX st.mem f.mem) h1];rcases J0 st.mem f.mem nm with⟨k,cs,h3,h4⟩|⟨h3,h4⟩
   .rcases J0 (ZX st.mem e.mem) f.mem nm with⟨k',cs',h5,h6⟩|⟨h5,h6⟩
    .have:∀(m0 m1:Name->Option (List (C U)))(l:List (Name×List (C U))),(∃x,x∈l/\x.1=nm)->ZX m0 l nm=ZX m1 l nm:=by intro m0 m1 l;induction l with|nil=>rintro⟨x,hx,_⟩;simp at hx|cons z l ih=>
       rintro⟨x,hx,ao⟩;obtain⟨b,cs⟩:=z;simp only[ZX];split;.try rfl
       .rename_i aa;rcases Q9.1 hx with rfl|hx;.exact absurd ao.symm aa
        .exact ih ⟨x,hx,ao⟩
     exact this _ _ _ ⟨_,X4 h3,rfl⟩
    .exact absurd rfl (h5 k _ h3)
   .rcases J0 (ZX st.mem e.mem) f.mem nm with⟨k',cs',h5,h6⟩|⟨h5,h6⟩;.exact absurd rfl (h3 k' _ h5)
    .rw[h6,h4,Z5s h1]|true=>
   have av:Jm (f.mem.map (·.1)) nm=false:=Zgk hm nm (Z6M.1 h1);rw[Z5s (m:=f.mem) (m0:=ZX st.mem e.mem) av];have:∀(m0 m1:Name->Option (List (C U)))(l:List (Name×List (C U))),Jm (l.map (·.1)) nm=true->ZX m0 l nm=ZX m1 l nm:=by intro m0 m1 l;induction l with|nil=>intro h;cases h|cons z l ih=>
     obtain⟨b,cs⟩:=z;intro h;simp only[Xa,Jm]at h;simp only[ZX];split;.try rfl
     .rename_i aa;rw[if_neg (λe=>aa e.symm)]at h;exact ih h
   exact this _ _ _ h1
 have ai:(λt=>(st.dead t||e.kill.contains t)||f.kill.contains t)=λt=>(st.dead t||f.kill.contains t)||e.kill.contains t:=by funext t;cases st.dead t<;>cases e.kill.contains t<;>cases f.kill.contains t<;>rfl
 have hn:∀(s:FSt U)d v,(s.put d v).n=s.n/\(s.put d v).mem=s.mem/\(s.put d v).dead=s.dead:=by intro s d v;cases d<;>exact⟨rfl,rfl,rfl⟩
 have al:(((st.put x.dst (e.val.getD .junk))).put y.dst (f.val.getD .junk)).env=((st.put y.dst (f.val.getD .junk)).put x.dst (e.val.getD .junk)).env:=by rw[am]
 have ak:∀(s s':FSt U)d v,s.env=s'.env->(s.put d v).env=(s'.put d v).env:=by intro s s' d v he;cases d<;>simp[FSt.put,he]
 have au:JV (JV st.ls e) f=JV (JV st.ls f) e:=by
  funext t;by_cases h1:t∈e.kill++e.ls.map (·.1)
  .have h2:=Zdz hl t h1;rw[Z4E h2];unfold JV;cases he:e.kill.contains t with|true=>rfl|false=>
    simp only[cond_false];have h3:t∈e.ls.map (·.1):=by
     rcases Qf.1 h1 with h|h
     .have:e.kill.contains t=true:=by simpa using h
      rw[he]at this;cases this
     .exact h
    have:∀(m0 m1:Tok->Option (LC U))(l:List (Tok×LC U)),t∈l.map (·.1)->Zy m0 l t=Zy m1 l t:=by
     intro m0 m1 l;induction l with
     |nil=>intro h;cases h|cons z l ih=>
      obtain⟨b,y⟩:=z;intro h;simp only[Zy];split;.try rfl
      .rename_i aa;simp only[Xa,Q9]at h;exact ih (h.resolve_left aa)
    exact this _ _ _ h3
  .rw[Z4E (m:=JV st.ls f) h1];have:∀(m0 m1:Tok->Option (LC U))(l:List (Tok×LC U)),m0 t=m1 t->Zy m0 l t=Zy m1 l t:=by
    intro m0 m1 l he;induction l with
    |nil=>exact he|cons z l ih=>
     obtain⟨b,y⟩:=z;simp only[Zy];split;.try rfl
     .exact ih
   have h3:JV st.ls e t=st.ls t:=Z4E h1;unfold JV at h3⊢;cases hf:f.kill.contains t with|true=>rfl|false=>simp only[cond_false];exact this _ _ _ h3
 have ext:∀{s s':FSt U},s.n=s'.n->s.env=s'.env->s.mem=s'.mem->s.dead=s'.dead->s.ls=s'.ls->s.mu=s'.mu->s.vw=s'.vw->s=s':=by intro s s' h1 h2 h3 h4;cases s;cases s';simp_all
 refine ext ?_ ?_ ?_ ?_ au ?_ (by cases x.dst<;>cases y.dst<;>rfl);.cases x.dst<;>cases y.dst<;>rfl
 .show((st.app x.dst e).put y.dst _).env=((st.app y.dst f).put x.dst _).env;rw[ak (st.app x.dst e) (st.put x.dst (e.val.getD .junk)) y.dst _ rfl,al,ak (st.app y.dst f) (st.put y.dst (f.val.getD .junk)) x.dst _ rfl]
 .show ZX (st.app x.dst e).mem f.mem=ZX (st.app y.dst f).mem e.mem;exact aj
 .exact ai
 .cases x.dst<;>cases y.dst<;>rfl
end Go.AM
namespace Go.AM
variable{U:Uni}{P:Program}{cfg:Cfg U}{B:Base}{g:Gh}{a:Act}{w:World}{Γ:Known U}{ops:Array Oper}
def Zt2(cfg:Cfg U)(Γ:Known U)(ops:Array Oper):List Oper->FSt U->Option (List Fp)|[],_=>some []|o::r,st=>match Z66 cfg Γ ops o st with|none=>none|some (_,e)=>match Zt2 cfg Γ ops r (st.app o.dst e)with|none=>none|some l=>some (ZuQ Γ o st e::l)
def Zud(ops:List Oper):Nat->Nat->Nat->Bool|0,_,_=>false|n+1,k,h=>match ops[h]? with|none=>false|some o=>o.after.toList.any λe=>Region.binds .any e&&(Nat.beq e.on k||(Nat.blt k e.on&&Zud ops n k e.on))
def Zew:Nat->List Oper->Bool|_,[]=>true|i,o::r=>(o.after.toList.all λe=>!Region.binds .any e||Nat.blt e.on i)&&Zew (i+1) r
def Zxs(ops:Array Oper)(fps:List Fp)(k h:Nat):Bool:=Zud ops.toList 5 k h||match ops.toList[k]?,ops.toList[h]?,fps[k]?,fps[h]? with|some x,some y,some a,some b=>ZkP ops x y a b|_,_,_,_=>false
def Zs8(ops:Array Oper)(fps:List Fp):Bool:=(List.range ops.toList.length).all λh=>(List.range h).all λk=>Zxs ops fps k h
def Jw(cfg:Cfg U)(Γ:Known U)(ops:Array Oper)(st:FSt U):Bool:=match Zt2 cfg Γ ops ops.toList st with|some fps=>Zew 0 ops.toList&&Zs8 ops fps|none=>false
inductive Run(cfg:Cfg U)(Γ:Known U)(ops:Array Oper)(fp:Nat->Option Fp):List Nat->FSt U->FSt U->Prop|nil(st):Run cfg Γ ops fp [] st st|cons(i l st st' o ps e):ops[i]?=some o->Z66 cfg Γ ops o st=some (ps,e)->All ps->fp i=some (ZuQ Γ o st e)->Run cfg Γ ops fp l (st.app o.dst e) st'->Run cfg Γ ops fp (i::l) st st'
theorem Zdc{fps:List Fp}:∀(l:List Oper)(k:Nat)(st st':FSt U)(ps:List Prop)(fl:List Fp),(∀j,l[j]?=ops[k+j]?)->(∀j,fl[j]?=fps[k+j]?)->Zh9 cfg Γ ops false l st=some (ps,st')->All ps->Zt2 cfg Γ ops l st=some fl->Run cfg Γ ops (λi=>fps[i]?) (List.range' k l.length) st st'
 |[],k,st,st',ps,fl,_,_,h,_,_=>by
  simp only[Zh9,oP]at h;obtain⟨_,rfl⟩:=h;exact .nil st|o::l,k,st,st',ps,fl,hl,hf,h,hps,hfl=>by
  rw[ZcZ]at h;simp only[ZGk]at h;simp only[Zt2]at hfl;split at h;.cases h
  .rename_i af e1 h1;rw[h1]at hfl;simp only at hfl;split at h;.cases h
   .rename_i qs ai h2;split at hfl;.cases hfl
    .rename_i aa d;simp only[oP]at h hfl;obtain⟨rfl,rfl⟩:=h;subst hfl;obtain⟨ab,ae⟩:=All.append hps;rw[Qa,List.range'_succ];refine .cons k _ st _ o af e1 ?_ h1 ab ?_ ?_;.have:=hl 0;grind
     .have:=hf 0;grind
     .exact Zdc l (k+1) _ _ qs aa (λj=>by have:=hl (j+1);grind) (λj=>by have:=hf (j+1);grind) h2 ae d
def ZJo(ops:Array Oper)(fp:Nat->Option Fp)(k h:Nat):Prop:=∃x y p q,ops[k]?=some x/\ops[h]?=some y/\fp k=some p/\fp h=some q/\ZkP ops x y p q=true
theorem ZLx{fp:Nat->Option Fp}{h:Nat}{post:List Nat}:∀(pre:List Nat)(st st':FSt U),Run cfg Γ ops fp (pre++h::post) st st'->(∀k∈pre,ZJo ops fp k h)->∃o ps e,ops[h]?=some o/\Z66 cfg Γ ops o st=some (ps,e)/\All ps/\fp h=some (ZuQ Γ o st e)/\Run cfg Γ ops fp (pre++post) (st.app o.dst e) st'
 |[],st,st',hr,_=>by cases hr with|cons _ _ _ _ o ps e h1 h2 h3 h4 h5=>grind
 |k::pre,st,st',hr,hf=>by cases hr with|cons _ _ _ _ x ps e h1 h2 h3 h4 h5=>
   obtain⟨y,qs,f,h6,h7,h8,h9,am⟩:=ZLx pre _ st' h5 (λj hj=>hf j (by simp[hj]));obtain⟨x',y',p,q,g1,g2,g3,g4,g5⟩:=hf k (by simp);rw[h1]at g1;rw[h6]at g2;rw[h4]at g3;rw[h9]at g4;cases g1;cases g2;cases g3;cases g4;simp only[ZkP,Q2,QX]at g5;obtain⟨⟨⟨⟨⟨⟨⟨⟨⟨⟨⟨⟨⟨a1,a2⟩,a3⟩,a4⟩,a5⟩,a6⟩,a7⟩,b3⟩,b4⟩,b5⟩,b6⟩,b7⟩,b8⟩,b9⟩:=g5;simp only[ZuQ]at a3 a4 a5 a6 a7 b3 b4 b5 b6 b7 b8 b9;have ty:touch y (st.app x.dst e)=touch y st:=by
    refine Z6c (ops:=ops) λt ht=>?_;obtain⟨b1,_,_⟩:=Oper.apart_spec a1;cases hd:x.dst with
    |none=>rfl|some d=>
     have aa:t≠d:=λe=>b1 d hd (e▸ht);have:Nat.beq t d=false:=by cases hb:Nat.beq t d with|false=>rfl|true=>exact absurd (Qe hb) aa
     simp[FSt.app,FSt.put,this]
   rw[ty]at a3;have ah:touchT y (st.app x.dst e)=touchT y st:=by
    refine Z9q (ops:=ops) λt ht=>?_;obtain⟨b1,_,_⟩:=Oper.apart_spec a1;cases hd:x.dst with
    |none=>rfl|some d=>
     have aa:t≠d:=λe=>b1 d hd (e▸ht);have:Nat.beq t d=false:=by cases hb:Nat.beq t d with|false=>rfl|true=>exact absurd (Qe hb) aa
     simp[FSt.app,FSt.put,this]
   rw[ah]at b3;have ai:JZ Γ y (st.app x.dst e)=JZ Γ y st:=by
    refine Z8t (ops:=ops) λt ht=>?_;obtain⟨b1,_,_⟩:=Oper.apart_spec a1;cases hd:x.dst with
    |none=>rfl|some d=>
     have aa:t≠d:=λe=>b1 d hd (e▸ht);have:Nat.beq t d=false:=by cases hb:Nat.beq t d with|false=>rfl|true=>exact absurd (Qe hb) aa
     simp[FSt.app,FSt.put,this]
   rw[ai]at b8;have ay:=Zjj (st:=st) (e:=e) a1 a3 a6 b3 b6 (by simpa using b8);have hy:Z66 cfg Γ ops y st=some (qs,f):=by rw[<-h7];exact(Ze3 ay).symm
   have tx:touch x (st.app y.dst f)=touch x st:=by refine Z6c (ops:=ops) λt ht=>?_;obtain⟨b1,_,_⟩:=Oper.apart_spec a2;cases hd:y.dst with
    |none=>rfl|some d=>
     have aa:t≠d:=λe=>b1 d hd (e▸ht);have:Nat.beq t d=false:=by cases hb:Nat.beq t d with
      |false=>rfl|true=>exact absurd (Qe hb) aa
     simp[FSt.app,FSt.put,this]
   have ak:touchT x (st.app y.dst f)=touchT x st:=by
    refine Z9q (ops:=ops) λt ht=>?_;obtain⟨b1,_,_⟩:=Oper.apart_spec a2;cases hd:y.dst with
    |none=>rfl|some d=>
     have aa:t≠d:=λe=>b1 d hd (e▸ht);have:Nat.beq t d=false:=by cases hb:Nat.beq t d with|false=>rfl|true=>exact absurd (Qe hb) aa
     simp[FSt.app,FSt.put,this]
   have aq:JZ Γ x (st.app y.dst f)=JZ Γ x st:=by refine Z8t (ops:=ops) λt ht=>?_;obtain⟨b1,_,_⟩:=Oper.apart_spec a2;cases hd:y.dst with
    |none=>rfl|some d=>
     have aa:t≠d:=λe=>b1 d hd (e▸ht);have:Nat.beq t d=false:=by cases hb:Nat.beq t d with
      |false=>rfl|true=>exact absurd (Qe hb) aa
     simp[FSt.app,FSt.put,this]
   have ax:=Zjj (st:=st) (e:=f) a2 a4 a7 b4 b7 (by simpa using b9);have hx:Z66 cfg Γ ops x (st.app y.dst f)=some (ps,e):=by rw[<-h2];exact Ze3 ax
   refine⟨y,qs,f,h6,hy,h8,by rw[h9];simp only[ZuQ,ty,ah,ai],?_⟩;refine .cons k _ _ _ x ps e h1 hx h3 ?_ ?_;.rw[h4];simp only[ZuQ,tx,ak,aq]
   .rw[<-ZAw a1 a5 b5];exact am
theorem Zdt{listed:Array Bool}(hdown:∀j o,ops[j]?=some o->listed.getD j false=true->∀e∈o.after,Region.binds .any e=true->listed.getD e.on false=true):∀(n k h:Nat)(o:Oper),ops[h]?=some o->(∀e∈o.after,Region.binds .any e=true->listed.getD e.on false=true)->Zud ops.toList n k h=true->listed.getD k false=true
 |0,k,h,o,_,_,d=>by trivial|n+1,k,h,o,ho,hr,d=>by
  have ae:ops.toList[h]?=some o:=by simpa using ho
  simp only[Zud,ae,Ks]at d;obtain⟨e,he,d⟩:=d;simp only[Q2,Ke]at d;obtain⟨h1,h2⟩:=d;have ab:e∈o.after:=by simpa using he
  have hl:=hr e ab h1;rcases h2 with h2|⟨_,h2⟩;.rw[<-Qe h2];exact hl
  .cases hoe:ops[e.on]? with
   |none=>
    have:ops.toList[e.on]?=none:=by simpa using hoe
    cases n with|zero=>trivial|succ n=>simp[Zud,this]at h2
   |some o2=>exact Zdt hdown n k e.on o2 hoe (hdown e.on o2 hoe hl) h2
theorem ZkV(l:List Oper):∀(i:Nat),Zew i l=true->∀(j:Nat)(o:Oper),l[j]?=some o->∀e∈o.after,Region.binds .any e=true->e.on<i+j:=by induction l with|nil=>grind|cons o l ih=>intro i h j o' d e he hb;simp only[Zew,Q2]at h;cases j with|zero=>simp at d;subst d;have:=QE.1 h.1 e (by simpa using he);simp_all|succ j=>grind
theorem Zjr(ok:CfgOk P cfg)(hΓ:∀f s,Γ f=some s->Contract P cfg f s){fp:Nat->Option Fp}{Q:Exit->Act->World->Prop}{st':FSt U}(hedge:∀(j:Nat)o,ops[j]?=some o->∀e∈o.after,Region.binds .any e=true->e.on<j)(hpair:∀k h,k<h->h<ops.size->Zud ops.toList 5 k h=true\/ZJo ops fp k h)(hQ:∀g' a' w',Rel cfg B st' g' a' w'->Q .normal a' w'):∀(aa:Nat)(l:List Nat)(listed:Array Bool)(st:FSt U)(g:Gh)(a:Act)(w:World),l.length<=aa->l.Pairwise (· <·)->listed.size=ops.size->(∀i,i<ops.size->(listed.getD i false=false↔i∈l))->(∀i∈l,i<ops.size)->(∀j o,ops[j]?=some o->listed.getD j false=true->∀e∈o.after,Region.binds .any e=true->listed.getD e.on false=true)->Run cfg Γ ops fp l st st'->Rel cfg B st g a w->wpAny P .any ops Q aa listed a w:=by
 intro aa;have al:∀(listed:Array Bool)i,listed.size=ops.size->i<ops.size->listed.getD i true=listed.getD i false:=by intro listed i hs hi;simp[Array.getD,hs,hi]
 have done:∀(l:List Nat)(listed:Array Bool),l.Pairwise (· <·)->listed.size=ops.size->(∀i,i<ops.size->(listed.getD i false=false↔i∈l))->(∀i∈l,i<ops.size)->Region.ready .any ops listed=[]->l=[]:=by
  intro l listed d ah hl ak hr;cases l with
  |nil=>rfl|cons i l=>
   exfalso;have hi:=ak i (by simp);have bi:i∈Region.ready .any ops listed:=by
    rw[mem_ready];refine⟨by grind,ops[i],QG hi,λe he hb=>?_⟩;have h1:=hedge i _ (QG hi) e he hb;cases hx:listed.getD e.on false with
    |true=>rfl|false=>
     have:=(hl e.on Yp).1 hx;rcases Q9.1 this with h2|h2;.omega
     .have:=(Kh.1 d).1 _ h2;omega
   grind
 induction aa with
 |zero=>intro l listed st g a w ay d ah hl ak ab af ai;have h0:l=[]:=Q0 Yp;subst h0;cases af;refine⟨?_,hQ g a w ai⟩;cases hr:Region.ready .any ops listed with|nil=>rfl|cons i r=>
   have hm:i∈Region.ready .any ops listed:=by rw[hr];simp
   obtain⟨h1,o,ho,_⟩:=mem_ready.1 hm;grind|succ aa ih=>
  intro l listed st g a w ay d ah hl ak ab af ai;refine⟨λhr=>?_,λi hi=>?_⟩;.have h0:=done l listed d ah hl ak hr;subst h0;cases af;grind
  .obtain⟨h1,o,ho,ae⟩:=mem_ready.1 hi;have aj:=(QJ.1 ho).1;rw[al listed i ah aj]at h1;have bb:=(hl i aj).1 h1;obtain⟨pre,post,rfl⟩:=List.append_of_mem bb;have ax:∀k∈pre,ZJo ops fp k i:=by
    intro k hk;have bc:k<i:=by
     have:=K8.1 d;exact this.2.2 k hk i (by simp)
    rcases hpair k i bc aj with h2|h2;.have h3:=Zdt ab 5 k i o ho ae h2;grind
    .exact h2
   obtain⟨o',ps,e,h2,h3,h4,_,h6⟩:=ZLx pre st st' af ax;rw[ho]at h2;cases h2;unfold wpOp;simp only[ho];have ao:=Ze2 (K:=wpAny P .any ops Q aa (listed.setIfInBounds i true)) (Q:=Q) ok hΓ ai h3 h4 (by
    intro g' a' w' aq;refine ih (pre++post) (listed.setIfInBounds i true) _ g' a' w' ?_ ?_ ?_ ?_ ?_ ?_ h6 aq;.grind
    .exact d.sublist (List.Sublist.append_left (List.sublist_cons_self i post) pre)
    .simp[ah]
    .intro j hj;by_cases hij:i=j
     .subst hij;have bf:i∉pre++post:=by
       have hp:=K8.1 d;intro hm;rcases Qf.1 hm with hm|hm;.grind
       .have:=(Kh.1 hp.2.1).1 i hm;omega
      simp[Array.getD,ah,hj,bf]
     .rw[getD_set_ne false hij,hl j hj];grind
    .intro j hj;exact ak j (by grind)
    .intro j oj ar az e he hb;by_cases hij:i=j;.subst hij;rw[ho]at ar;cases ar;exact getD_set_true (ae e he hb)
     .rw[getD_set_ne false hij]at az;exact getD_set_true (ab j oj ar az e he hb));split at ao;.grind
   grind
theorem Z2R(ok:CfgOk P cfg)(hΓ:∀f s,Γ f=some s->Contract P cfg f s):ZbQ P cfg Γ (Jw cfg Γ):=by
 intro B st ai g a w id ops ps Q hd d af am hQ;unfold Jw at hd;split at hd;case h_2=>cases hd
 rename_i fps hf;simp only[Q2]at hd;obtain⟨ak,ab⟩:=hd;refine wp_region_any ok.mixed ?_;have hR:=Zdc (ops:=ops) (fps:=fps) ops.toList 0 st ai ps fps (λj=>by simp) (λj=>by simp) af am hf;have ae:Rel cfg B st g a {w with drawn:=w.drawn+1}:=by have hc:∀b,({w with drawn:=w.drawn+1}:World).cell? b=w.cell? b:=λ_=>rfl;exact⟨⟨λc v hv=>d.inv.im c v hv,λc t ht=>d.inv.it c t ht⟩,⟨⟨d.fr.stay.os,d.fr.stay.tape,d.fr.stay.output,d.fr.stay.size⟩,d.fr.xad,d.fr.mono,d.fr.outer,d.fr.outer',d.fr.clean,d.fr.frz⟩,d.env,d.mem,d.sz,d.df,λt x hx=>d.ls t x hx,d.fresh⟩
 refine Zjr (fp:=λi=>fps[i]?) ok hΓ ?_ ?_ hQ ops.size (List.range' 0 ops.toList.length) _ st g a _ (by simp) List.pairwise_lt_range' (by simp) ?_ ?_ ?_ hR ae;.intro j o ho e he hb;have:=ZkV ops.toList 0 ak j o (by simpa using ho) e he hb;omega
 .intro k h aw hh;unfold Zs8 at ab;rw[QE]at ab;have h1:=ab h (by simpa using hh);rw[QE]at h1;have h2:=h1 k (by grind);unfold Zxs at h2;rw[Ke]at h2;rcases h2 with h2|h2;.exact .inl h2
  .right;split at h2;.rename_i x y p q hx hy hp hq;exact⟨x,y,p,q,by simpa using hx,by simpa using hy,hp,hq,h2⟩
   .cases h2
 .simp_all
 .grind
 .intro j o ho hl;have hj:=(QJ.1 ho).1;simp_all
end Go.AM
namespace Go.AM
variable{U:Uni}{P:Program}
def Z62{α:Type}:List (Nat×α)->Nat->Option α|[],_=>none|(a,x)::r,t=>bif Nat.beq a t then some x else Z62 r t
theorem Z4F{α:Type}:∀{l:List (Nat×α)}{t:Nat}{x:α},Z62 l t=some x->(t,x)∈l|(a,y)::r,t,x,h=>by simp only[Z62]at h;cases hb:Nat.beq a t with|true=>simp_all|false=>simp[hb]at h;exact Q3 _ (Z4F h)
def Zst:List (Nat×Nat×Nat×Nat)->Nat->Nat->Option (Nat×Nat)|[],_,_=>none|(a,b,x)::r,t,f=>bif Nat.beq a t&&Nat.beq b f then some x else Zst r t f
theorem ZiG:∀{l:List (Nat×Nat×Nat×Nat)}{t f:Nat}{x:Nat×Nat},Zst l t f=some x->(t,f,x)∈l|(a,b,y)::r,t,f,x,h=>by simp only[Zst]at h;cases hb:Nat.beq a t&&Nat.beq b f with|true=>simp_all|false=>simp[hb]at h;exact Q3 _ (ZiG h)
structure Codec(U:Uni)where
 tyEq:DecidableEq U.Ty
 dflt:(T:U.Ty)->U.El T
 enc:(T:U.Ty)->U.El T->List (C U)dec:(T:U.Ty)->List (C U)->Option (U.El T)aggT:U.Ty->Bool
 sz:U.Ty->Nat
 bytes:U.Ty->Nat
structure CodecOk(K:Codec U):Prop where
 enc_len:∀T x,(K.enc T x).length=K.sz T
 enc_plain:∀T x c,c∈K.enc T x->c.plain=true
 dec_ok:∀T cs x,K.dec T cs=some x->cs.length=(K.enc T x).length/\∀(j:Nat)c c',cs[j]?=some c->(K.enc T x)[j]?=some c'->Wk c c'
 sz_pos:∀T,0<K.sz T
 bytes_pos:∀T,0<K.bytes T
structure Tables(U:Uni)where
 el:U.Ty->TypeId
 sl:List (Nat×U.Ty)var:List (Nat×Bool×List (C U))fld:List (Nat×Nat×Nat×Nat)arr:List (Nat×Nat×Nat)eqs:List Nat:=[]nif:List Nat:=[]mth:List (Nat×String×FuncId×Bool):=[]
def Zss:List (Nat×String×FuncId×Bool)->Nat->String->Option (FuncId×Bool)|[],_,_=>none|(a,b,x)::r,t,f=>bif Nat.beq a t&&(b==f)then some x else Zss r t f
theorem ZiF:∀{l:List (Nat×String×FuncId×Bool)}{t:Nat}{f:String}{x:FuncId×Bool},Zss l t f=some x->(t,f,x)∈l|(a,b,y)::r,t,f,x,h=>by simp only[Zss]at h;cases hb:Nat.beq a t&&(b==f)with|true=>simp_all|false=>simp[hb]at h;exact Q3 _ (ZiF h)
def Tables.cfg(K:Codec U)(T:Tables U):Cfg U:={tyEq:=K.tyEq,dflt:=K.dflt,enc:=K.enc,dec:=K.dec,aggT:=K.aggT,sz:=K.sz,bytes:=K.bytes,elT:=T.el,slT:=Z62 T.sl,var:=Z62 T.var,fld:=Zst T.fld,arr:=Z62 T.arr,eqs:=λt=>T.eqs.any (Nat.beq t),nif:=λt=>T.nif.any (Nat.beq t),mth:=Zss T.mth}
def ZIw:Option (C U)->C U->Bool|some (.int k n),.int k' n'=>k==k'&&n==n'|some (.bool b),.bool b'=>b==b'|some .nils,.nils=>true|some .nilp,.nilp=>true|_,_=>false
theorem ZDX{x:Option (C U)}{c:C U}(h:ZIw x c=true):x=some c:=by unfold ZIw at h;grind
def ZDW:List Value->List (C U)->Bool|[],[]=>true|v::r,c::s=>ZIw (Z0b v) c&&ZDW r s|_,_=>false
theorem Zt6:∀{vs:List Value}{cs:List (C U)},ZDW vs cs=true->vs.map Z0b=cs.map some|[],[],_=>rfl|v::r,c::s,h=>by simp only[ZDW,Q2]at h;simp[ZDX h.1,Zt6 h.2]
def Zvn(ag:Bool)(z:Value)(zs:List (C U)):Bool:=(match z,ag with|.agg _,true=>true|.agg _,false=>false|.tuple _,_=>false|_,false=>true|_,true=>false)&&ZDW z.cells.toList zs
theorem Zvm{ag:Bool}{z:Value}{zs:List (C U)}(h:Zvn ag z zs=true):ZEb ag z zs:=by
 unfold Zvn at h;simp only[Q2]at h;obtain⟨h1,h2⟩:=h;refine⟨λd=>?_,λd=>?_,Zt6 h2⟩;.grind
 .subst d;cases z<;>first|rfl|(simp at h1;done)
def ZsS:List (C U)->TypeDesc->Bool|[.int k _],.int k'=>k==k'|[.int _ _],_=>false|[.bool _],.bool=>true|[.bool _],_=>false|[.nilp],.pointer _=>true|[.nilp],_=>false|_,_=>true
def ZC4(P:Program)(x:Nat×Bool×List (C U)):Bool:=match P.info? x.1,P.underlying x.1 with|some i,some d=>(Nat.beq i.size x.2.2.length&&Nat.blt 0 x.2.2.length)&&(TypeDesc.ag d==x.2.1)&&(match i.zero with|some z=>Zvn x.2.1 z x.2.2|none=>false)&&(x.2.1||ZsS x.2.2 d)&&(match d with|.struct fs=>fs.toList.all λfd=>(P.info? fd.type).isSome|.array _ e=>(P.info? e).isSome|_=>true)|_,_=>false
def slB(P:Program)(el:U.Ty->TypeId)(x:Nat×U.Ty):Bool:=match P.underlying x.1 with|some (.slice e)=>Nat.beq e (el x.2)|_=>false
def ZIu(P:Program)(x:Nat×Nat×Nat×Nat):Bool:=match P.underlying x.1 with
 |some (.struct fs)=>match fs.toList[x.2.1]? with
  |some fd=>Nat.beq fd.offset x.2.2.1&&Nat.beq fd.type x.2.2.2|none=>false
 |_=>false
def ZJ6(P:Program)(x:Nat×Nat×Nat):Bool:=match P.underlying x.1 with|some (.array n e)=>Nat.beq n x.2.1&&Nat.beq e x.2.2|_=>false
def eqK(P:Program)(z:Option (C U))(t:TypeId):Bool:=match z,P.underlying t with|some (.int _ _),some (.int _)=>true|some (.bool _),some .bool=>true|_,_=>false
def eqB(P:Program)(var:List (Nat×Bool×List (C U)))(t:Nat):Bool:=match P.underlying t with|some (.struct fs)=>(match Z62 var t with|some (_,zs)=>Nat.beq zs.length fs.size|none=>true)&&!P.stoodInHeld t&&!P.eqGuardType P.depth t&&((List.range fs.size).all λi=>match fs[i]? with|some f=>f.name != "_" &&Nat.beq f.offset i&&(match Z62 var t with|some (_,zs)=>eqK P zs[i]? f.type|none=>true)|none=>false)|_=>false
def elB(P:Program)(K:Codec U)(T:Tables U)(t:U.Ty):Bool:=match P.info? (T.el t),Z62 T.var (T.el t)with|some i,some (_,zs)=>Nat.beq i.size (K.sz t)&&Nat.beq i.bytes (K.bytes t)&&i.zero.isSome&&Nat.beq zs.length (K.sz t)|_,_=>false
def ZLz(P:Program)(t:Nat):Bool:=match P.underlying t with|some (.interface _)=>false|some _=>true|none=>false
def ZLB(P:Program)(var:List (Nat×Bool×List (C U)))(x:Nat×String×FuncId×Bool):Bool:=match P.info? x.1,P.underlying x.1 with
 |some i,some (.pointer e)=>match i.methods.find? (·.name==x.2.1)with
  |some m=>m.path.toList.isEmpty&&(match m.func with
   |some (g,b)=>Nat.beq g x.2.2.1&&(b==!x.2.2.2)|none=>false)&&(!x.2.2.2||match Z62 var e with|some (false,[_])=>true|_=>false)|none=>false
 |_,_=>false
theorem ZtU{K:Codec U}(ck:CodecOk K){T:Tables U}(hv:T.var.all (ZC4 P)=true)(hs:T.sl.all (slB P T.el)=true)(hf:T.fld.all (ZIu P)=true)(ha:T.arr.all (ZJ6 P)=true)(he:∀t,elB P K T t=true)(hm:P.follows .mixedOrders=true)(hq:T.eqs.all (eqB P T.var)=true)(hn:T.nif.all (ZLz P)=true)(hme:T.mth.all (ZLB P T.var)=true):CfgOk P (T.cfg K):=by
 refine⟨ck.enc_len,ck.enc_plain,ck.dec_ok,ck.sz_pos,ck.bytes_pos,?_,?_,?_,?_,?_,hm,?_,?_,?_,?_⟩
 .intro t;have h:=he t;unfold elB at h;split at h
  .rename_i i ag zs h1 h2;simp only[Q2]at h;obtain⟨⟨⟨h3,h4⟩,h5⟩,h6⟩:=h;obtain⟨z,hz⟩:=X7.1 h5;exact⟨i,ag,zs,z,h1,Qe h3,Qe h4,hz,h2,Qe h6⟩
  .cases h
 .intro t S h;have:=QE.1 hs _ (Z4F h);unfold slB at this;simp only at this;split at this
  .rename_i e hu;rw[hu,Qe this];try rfl
  .cases this
 .intro t ag zs h;have:=QE.1 hv _ (Z4F h);unfold ZC4 at this;simp only at this;split at this
  .rename_i i d hi hu;simp only[Q2]at this;obtain⟨⟨⟨⟨⟨h1,h2⟩,h3⟩,h4⟩,h5⟩,h6⟩:=this;split at h4
   .rename_i z hz;refine⟨Nat.blt_eq.mp h2,i,z,d,hi,hu,Qe h1,by simpa using h3,hz,Zvm h4,?_,?_,?_,?_⟩
    .intro al k n ao;subst al;simp only[XX]at h5;subst ao;unfold ZsS at h5;split at h5<;>simp_all
    .intro al b ao;subst al;simp only[XX]at h5;subst ao;unfold ZsS at h5;split at h5<;>simp_all
    .intro fs hd;subst hd;exact h6
    .intro n e hd;subst hd;exact h6
   .cases h4
  .cases this
 .intro s f ba t h;have:=QE.1 hf _ (ZiG h);unfold ZIu at this;simp only at this;split at this
  .rename_i fs hu;split at this
   .rename_i fd a6;simp only[Q2]at this;exact⟨fs,fd,hu,by simpa using a6,Nat.eq_of_beq_eq_true this.1,Nat.eq_of_beq_eq_true this.2⟩
   .cases this
  .cases this
 .intro t n e h;have:=QE.1 ha _ (Z4F h);unfold ZJ6 at this;simp only at this;split at this;.rename_i n' e' hu;simp only[Q2]at this;rw[hu,Qe this.1,Qe this.2]
  .cases this
 .intro t ht;obtain⟨t',h1,h2⟩:=Ks.1 ht;have e:=Qe h2;subst e;have h3:=QE.1 hq _ h1;unfold eqB at h3;split at h3
  .rename_i fs hu;simp only[Q2,QX]at h3;obtain⟨⟨⟨h4,h5⟩,h6⟩,h7⟩:=h3;refine⟨fs,hu,λag zs hz=>?_,h5,h6,λi f hf=>?_⟩;.have aq:Z62 T.var t=some (ag,zs):=hz;rw[aq]at h4;exact Qe h4
   .have hi:=(QJ.1 hf).1;have h8:=QE.1 h7 i (by simpa using hi);rw[hf]at h8;simp only[Q2,bne_iff_ne,ne_eq]at h8;refine⟨h8.1.1,Qe h8.1.2,λag zs hz=>?_⟩;have h9:=h8.2;have aq:Z62 T.var t=some (ag,zs):=hz;rw[aq]at h9;dsimp only at h9;unfold eqK at h9;split at h9;.rename_i e1 e2;exact⟨λ_ _ _=>⟨_,e2⟩,λ_ h=>by(rw[e1]at h;cases h)⟩
    .rename_i e1 e2;exact⟨λ_ _ h=>by(rw[e1]at h;cases h),λ_ _=>e2⟩
    .cases h9
  .cases h3
 .intro t h;have:=QE.1 hv _ (Z4F h);unfold ZC4 at this;simp only at this;split at this
  .rename_i i d hi hu;simp only[Q2]at this;obtain⟨⟨_,h5⟩,_⟩:=this;cases d<;>first|exact⟨_,hu⟩|(simp[ZsS]at h5;done)
  .cases this
 .intro t ht;obtain⟨t',h1,h2⟩:=Ks.1 ht;have e:=Qe h2;subst e;have h3:=QE.1 hn _ h1;unfold ZLz at h3;split at h3;.cases h3
  .rename_i d hd a1;exact⟨d,a1,λm e=>hd m (by rw[<-e])⟩
  .cases h3
 .intro t a8 f vr h;have h3:=QE.1 hme _ (ZiF h);unfold ZLB at h3;split at h3
  .rename_i i e h1 h2;split at h3
   .rename_i m h4;simp only[Q2]at h3;obtain⟨⟨h5,h6⟩,h7⟩:=h3;split at h6
    .rename_i g b h8;simp only[Q2,beq_iff_eq]at h6;refine⟨i,m,e,h1,h4,?_,?_,h2,λhv=>?_⟩;.apply QU;exact List.isEmpty_iff.1 h5
     .rw[h8,Qe h6.1,h6.2]
     .subst hv;simp only[Km,XX]at h7;split at h7;.rename_i z hz;exact⟨z,hz⟩
      .cases h7
    .cases h6
   .cases h3
  .cases h3
end Go.AM
namespace Go.AM
structure WEdit where
 at_:Int
 mask:Int
 old:Int
 new:Int
inductive Tree where|mk(kind:Int)(words:List Int)(kids:List Tree)
def Tree.kind:Tree->Int|.mk k _ _=>k
def Tree.words:Tree->List Int|.mk _ w _=>w
def Tree.kids:Tree->List Tree|.mk _ _ k=>k
@[simp]theorem Tree.eta(t:Tree):Tree.mk t.kind t.words t.kids=t:=by cases t;rfl
@[simp]theorem Tree.kind_mk(k:Int)(w:List Int)(ks:List Tree):(Tree.mk k w ks).kind=k:=rfl
@[simp]theorem Tree.words_mk(k:Int)(w:List Int)(ks:List Tree):(Tree.mk k w ks).words=w:=rfl
@[simp]theorem Tree.kids_mk(k:Int)(w:List Int)(ks:List Tree):(Tree.mk k w ks).kids=ks:=rfl
structure KidOf(E:Type)where
 at_:Int
 e:E
structure OpOf(E:Type)where
 kind:Int
 n:Int
 l:List Tree
 e:E
inductive Edit where|mk(kind:Int)(old new:Tree)(words:List WEdit)(kids:List (KidOf Edit))(list:Int)(ops:List (OpOf Edit))
abbrev Kid:=KidOf Edit
abbrev Op:=OpOf Edit
def Edit.kind:Edit->Int|.mk k _ _ _ _ _ _=>k
def Edit.old:Edit->Tree|.mk _ o _ _ _ _ _=>o
def Edit.new:Edit->Tree|.mk _ _ n _ _ _ _=>n
def Edit.words:Edit->List WEdit|.mk _ _ _ w _ _ _=>w
def Edit.kids:Edit->List Kid|.mk _ _ _ _ k _ _=>k
def Edit.list:Edit->Int|.mk _ _ _ _ _ l _=>l
def Edit.ops:Edit->List Op|.mk _ _ _ _ _ _ o=>o
@[simp]theorem Edit.eta(e:Edit):Edit.mk e.kind e.old e.new e.words e.kids e.list e.ops=e:=by cases e;rfl
section
variable(k:Int)(o n:Tree)(w:List WEdit)(ks:List Kid)(l:Int)(os:List Op)
@[simp]theorem Edit.kind_mk:(Edit.mk k o n w ks l os).kind=k:=rfl
@[simp]theorem Edit.old_mk:(Edit.mk k o n w ks l os).old=o:=rfl
@[simp]theorem Edit.new_mk:(Edit.mk k o n w ks l os).new=n:=rfl
@[simp]theorem Edit.words_mk:(Edit.mk k o n w ks l os).words=w:=rfl
@[simp]theorem Edit.kids_mk:(Edit.mk k o n w ks l os).kids=ks:=rfl
@[simp]theorem Edit.list_mk:(Edit.mk k o n w ks l os).list=l:=rfl
@[simp]theorem Edit.ops_mk:(Edit.mk k o n w ks l os).ops=os:=rfl
end
def Tree.nil:Tree:=.mk 0 [] []
def Edit.nil:Edit:=.mk 0 Tree.nil Tree.nil [] [] 0 []
def Op.nil:Op:=⟨0,0,[],Edit.nil⟩
structure AUnit where
 step:Int
 kind:Int
 t:Tree
 e:Edit
 alone:Bool
structure APair where
 of:Int
 p:AUnit
 q:AUnit
structure Piece where
 of:Int
 p:Op
 q:Op
structure PStep where
 kind:Int
 at_:Int
structure SStep where
 kind:Int
 n:Int
structure Two where
 i:Int
 j:Int
structure Three where
 p:Two
 score:Int
structure Conflict where
 path:List PStep
 base:Tree
 ours:Tree
 theirs:Tree
inductive Ty where|u64|u8|int|tree|wedit|edit|kid|op|piece|step|irow|krow|sstep|two|three|conflict deriving DecidableEq
@[reducible]def El:Ty->Type|.u64=>Int|.u8=>Int|.int=>Int|.tree=>Tree|.wedit=>WEdit|.edit=>Edit|.kid=>Kid|.op=>Op|.piece=>Piece|.step=>PStep|.irow=>List Int|.krow=>List Kid|.sstep=>SStep|.two=>Two|.three=>Three|.conflict=>Conflict
@[reducible]def U:Uni:={Ty:=Ty,El:=El}
abbrev sl(T:Ty)(l:List (El T)):C U:=.slice (U:=U) T l .unk
def ZFB(x:Tree):List (C U):=[.int .i64 x.kind,sl .u64 x.words,sl .tree x.kids]
def Zzo(x:WEdit):List (C U):=[.int .i64 x.at_,.int .u8 x.mask,.int .u64 x.old,.int .u64 x.new]
def ZFD(x:Edit):List (C U):=[.int .i64 x.kind,.int .i64 x.old.kind,sl .u64 x.old.words,sl .tree x.old.kids,.int .i64 x.new.kind,sl .u64 x.new.words,sl .tree x.new.kids,sl .wedit x.words,sl .kid x.kids,.int .i64 x.list,sl .op x.ops]
def ZLT(x:Kid):List (C U):=[.int .i64 x.at_,.int .i64 x.e.kind,.int .i64 x.e.old.kind,sl .u64 x.e.old.words,sl .tree x.e.old.kids,.int .i64 x.e.new.kind,sl .u64 x.e.new.words,sl .tree x.e.new.kids,sl .wedit x.e.words,sl .kid x.e.kids,.int .i64 x.e.list,sl .op x.e.ops]
def eOp(x:Op):List (C U):=[.int .i64 x.kind,.int .i64 x.n,sl .tree x.l,.int .i64 x.e.kind,.int .i64 x.e.old.kind,sl .u64 x.e.old.words,sl .tree x.e.old.kids,.int .i64 x.e.new.kind,sl .u64 x.e.new.words,sl .tree x.e.new.kids,sl .wedit x.e.words,sl .kid x.e.kids,.int .i64 x.e.list,sl .op x.e.ops]
def Zzr(x:Piece):List (C U):=[.int .i64 x.of,.int .i64 x.p.kind,.int .i64 x.p.n,sl .tree x.p.l,.int .i64 x.p.e.kind,.int .i64 x.p.e.old.kind,sl .u64 x.p.e.old.words,sl .tree x.p.e.old.kids,.int .i64 x.p.e.new.kind,sl .u64 x.p.e.new.words,sl .tree x.p.e.new.kids,sl .wedit x.p.e.words,sl .kid x.p.e.kids,.int .i64 x.p.e.list,sl .op x.p.e.ops,.int .i64 x.q.kind,.int .i64 x.q.n,sl .tree x.q.l,.int .i64 x.q.e.kind,.int .i64 x.q.e.old.kind,sl .u64 x.q.e.old.words,sl .tree x.q.e.old.kids,.int .i64 x.q.e.new.kind,sl .u64 x.q.e.new.words,sl .tree x.q.e.new.kids,sl .wedit x.q.e.words,sl .kid x.q.e.kids,.int .i64 x.q.e.list,sl .op x.q.e.ops]
def ZFC(x:PStep):List (C U):=[.int .i64 x.kind,.int .i64 x.at_]
def Zzq(x:SStep):List (C U):=[.int .i64 x.kind,.int .i64 x.n]
def ZLS(x:Two):List (C U):=[.int .i64 x.i,.int .i64 x.j]
def Zzp(x:Three):List (C U):=[.int .i64 x.p.i,.int .i64 x.p.j,.int .i64 x.score]
def ZiW(x:Conflict):List (C U):=[sl .step x.path,.int .i64 x.base.kind,sl .u64 x.base.words,sl .tree x.base.kids,.int .i64 x.ours.kind,sl .u64 x.ours.words,sl .tree x.ours.kids,.int .i64 x.theirs.kind,sl .u64 x.theirs.words,sl .tree x.theirs.kids]
def enc:(T:Ty)->El T->List (C U)|.u64,n=>[.int .u64 n]|.u8,n=>[.int .u8 n]|.int,n=>[.int .i64 n]|.tree,x=>ZFB x|.wedit,x=>Zzo x|.edit,x=>ZFD x|.kid,x=>ZLT x|.op,x=>eOp x|.piece,x=>Zzr x|.step,x=>ZFC x|.irow,l=>[sl .int l]|.krow,l=>[sl .kid l]|.sstep,x=>Zzq x|.two,x=>ZLS x|.three,x=>Zzp x|.conflict,x=>ZiW x
abbrev Rd(α:Type):=List (C U)->Option (α×List (C U))
def Z3a(k:IntKind):Rd Int|.int k' n::r=>if k=k' then some (n,r)else none|_=>none
def rSl(T:Ty):Rd (List (El T))
 |.nils::r=>some ([],r)|.slice S l _::r=>match(inferInstance:DecidableEq Ty) S T with|isTrue h=>some (h▸l,r)|isFalse _=>none
 |_=>none
def YC{α β:Type}(x:Rd α)(f:α->Rd β):Rd β:=λcs=>match x cs with|some (a,r)=>f a r|none=>none
def Z6z{α:Type}(a:α):Rd α:=λcs=>some (a,cs)
def WkL:List (C U)->List (C U)->Prop|[],[]=>True|c::r,c'::r'=>Wk c c'/\WkL r r'|_,_=>False
theorem WkL.append:∀{a b c d:List (C U)},WkL a b->WkL c d->WkL (a++c) (b++d)|[],[],_,_,_,h=>h|_::_,_::_,_,_,h,k=>⟨h.1,WkL.append h.2 k⟩
theorem WkL.get:∀{a b:List (C U)},WkL a b->a.length=b.length/\∀(j:Nat)c c',a[j]?=some c->b[j]?=some c'->Wk c c'|[],[],_=>⟨rfl,λj c c' h=>by simp at h⟩|x::a,y::b,h=>by obtain⟨h1,h2⟩:=WkL.get h.2;refine⟨by simp[h1],λj c c' hc d=>?_⟩;cases j with|zero=>simp at hc d;subst hc d;exact h.1|succ j=>exact h2 j c c' (by simpa using hc) (by simpa using d)
def Z3s{α:Type}(r:Rd α)(e:α->List (C U)):Prop:=∀cs x rest,r cs=some (x,rest)->∃p,cs=p++rest/\WkL p (e x)
theorem Y0(k:IntKind):Z3s (Z3a k) λn=>[.int k n]:=by
 intro cs x d h;unfold Z3a at h;split at h
 .split at h
  .rename_i hk;subst hk;cases h;exact⟨[_],rfl,.int _ _,trivial⟩
  .cases h
 .cases h
theorem Z0X(T:Ty):Z3s (rSl T) λl=>[sl T l]:=by
 intro cs x aa h;unfold rSl at h;split at h;.cases h;exact⟨[_],rfl,(Wk.snil (U:=U) T:Wk (U:=U) .nils (.slice T [] .unk)),trivial⟩
 .split at h;.rename_i d _;subst d;cases h;exact⟨[_],rfl,.slice _ _ _,trivial⟩
  .cases h
 .cases h
theorem YL{α β:Type}{x:Rd α}{f:α->Rd β}{ex:α->List (C U)}(hx:Z3s x ex){cs:List (C U)}{b:β}{rest:List (C U)}(h:YC x f cs=some (b,rest)):∃a p r,cs=p++r/\WkL p (ex a)/\f a r=some (b,rest):=by
 unfold YC at h;split at h;.rename_i a r ha;obtain⟨p,rfl,d⟩:=hx _ _ _ ha;exact⟨a,p,r,rfl,d,h⟩
 .cases h
def ZfP:Rd Tree:=YC (Z3a .i64) λx0=>YC (rSl .u64) λx1=>YC (rSl .tree) λd=>Z6z (Tree.mk x0 x1 d)
theorem Z20:Z3s ZfP ZFB:=by intro cs x d h;obtain⟨x0,p0,r0,rfl,w0,h⟩:=YL (Y0 _) h;obtain⟨x1,p1,r1,rfl,w1,h⟩:=YL (Z0X _) h;obtain⟨x2,p2,r2,rfl,w2,h⟩:=YL (Z0X _) h;cases h;exact⟨p0++(p1++(p2)),by simp,w0.append (w1.append (w2))⟩
def ZwY:Rd WEdit:=YC (Z3a .i64) λx0=>YC (Z3a .u8) λx1=>YC (Z3a .u64) λd=>YC (Z3a .u64) λx3=>Z6z (WEdit.mk x0 x1 d x3)
theorem Zmq:Z3s ZwY Zzo:=by intro cs x d h;obtain⟨x0,p0,r0,rfl,w0,h⟩:=YL (Y0 _) h;obtain⟨x1,p1,r1,rfl,w1,h⟩:=YL (Y0 _) h;obtain⟨x2,p2,r2,rfl,w2,h⟩:=YL (Y0 _) h;obtain⟨x3,p3,r3,rfl,w3,h⟩:=YL (Y0 _) h;cases h;exact⟨p0++(p1++(p2++(p3))),by simp,w0.append (w1.append (w2.append (w3)))⟩
def ZrX:Rd Edit:=YC (Z3a .i64) λx0=>YC ZfP λd=>YC ZfP λx2=>YC (rSl .wedit) λx3=>YC (rSl .kid) λx4=>YC (Z3a .i64) λx5=>YC (rSl .op) λx6=>Z6z (Edit.mk x0 d x2 x3 x4 x5 x6)
theorem Z8U:Z3s ZrX ZFD:=by intro cs x d h;obtain⟨x0,p0,r0,rfl,w0,h⟩:=YL (Y0 _) h;obtain⟨x1,p1,r1,rfl,w1,h⟩:=YL Z20 h;obtain⟨x2,p2,r2,rfl,w2,h⟩:=YL Z20 h;obtain⟨x3,p3,r3,rfl,w3,h⟩:=YL (Z0X _) h;obtain⟨x4,p4,r4,rfl,w4,h⟩:=YL (Z0X _) h;obtain⟨x5,p5,r5,rfl,w5,h⟩:=YL (Y0 _) h;obtain⟨x6,p6,r6,rfl,w6,h⟩:=YL (Z0X _) h;cases h;exact⟨p0++(p1++(p2++(p3++(p4++(p5++(p6)))))),by simp,w0.append (w1.append (w2.append (w3.append (w4.append (w5.append (w6))))))⟩
def ZLw:Rd Kid:=YC (Z3a .i64) λx0=>YC ZrX λd=>Z6z (KidOf.mk x0 d)
theorem Zu5:Z3s ZLw ZLT:=by intro cs x d h;obtain⟨x0,p0,r0,rfl,w0,h⟩:=YL (Y0 _) h;obtain⟨x1,p1,r1,rfl,w1,h⟩:=YL Z8U h;cases h;exact⟨p0++(p1),by simp,w0.append (w1)⟩
def rOp:Rd Op:=YC (Z3a .i64) λx0=>YC (Z3a .i64) λx1=>YC (rSl .tree) λd=>YC ZrX λx3=>Z6z (OpOf.mk x0 x1 d x3)
theorem ZfK:Z3s rOp eOp:=by intro cs x d h;obtain⟨x0,p0,r0,rfl,w0,h⟩:=YL (Y0 _) h;obtain⟨x1,p1,r1,rfl,w1,h⟩:=YL (Y0 _) h;obtain⟨x2,p2,r2,rfl,w2,h⟩:=YL (Z0X _) h;obtain⟨x3,p3,r3,rfl,w3,h⟩:=YL Z8U h;cases h;exact⟨p0++(p1++(p2++(p3))),by simp,w0.append (w1.append (w2.append (w3)))⟩
def Zx2:Rd Piece:=YC (Z3a .i64) λx0=>YC rOp λx1=>YC rOp λd=>Z6z (Piece.mk x0 x1 d)
theorem Zmt:Z3s Zx2 Zzr:=by intro cs x d h;obtain⟨x0,p0,r0,rfl,w0,h⟩:=YL (Y0 _) h;obtain⟨x1,p1,r1,rfl,w1,h⟩:=YL ZfK h;obtain⟨x2,p2,r2,rfl,w2,h⟩:=YL ZfK h;cases h;exact⟨p0++(p1++(p2)),by simp,w0.append (w1.append (w2))⟩
def ZFr:Rd PStep:=YC (Z3a .i64) λx0=>YC (Z3a .i64) λd=>Z6z (PStep.mk x0 d)
theorem ZoQ:Z3s ZFr ZFC:=by intro cs x d h;obtain⟨x0,p0,r0,rfl,w0,h⟩:=YL (Y0 _) h;obtain⟨x1,p1,r1,rfl,w1,h⟩:=YL (Y0 _) h;cases h;exact⟨p0++(p1),by simp,w0.append (w1)⟩
def Zx0:Rd SStep:=YC (Z3a .i64) λx0=>YC (Z3a .i64) λd=>Z6z (SStep.mk x0 d)
theorem Zms:Z3s Zx0 Zzq:=by intro cs x d h;obtain⟨x0,p0,r0,rfl,w0,h⟩:=YL (Y0 _) h;obtain⟨x1,p1,r1,rfl,w1,h⟩:=YL (Y0 _) h;cases h;exact⟨p0++(p1),by simp,w0.append (w1)⟩
def ZGh:Rd Two:=YC (Z3a .i64) λx0=>YC (Z3a .i64) λd=>Z6z (Two.mk x0 d)
theorem Zij:Z3s ZGh ZLS:=by intro cs x d h;obtain⟨x0,p0,r0,rfl,w0,h⟩:=YL (Y0 _) h;obtain⟨x1,p1,r1,rfl,w1,h⟩:=YL (Y0 _) h;cases h;exact⟨p0++(p1),by simp,w0.append (w1)⟩
def ZwZ:Rd Three:=YC ZGh λx0=>YC (Z3a .i64) λd=>Z6z (Three.mk x0 d)
theorem Zmr:Z3s ZwZ Zzp:=by intro cs x d h;obtain⟨x0,p0,r0,rfl,w0,h⟩:=YL Zij h;obtain⟨x1,p1,r1,rfl,w1,h⟩:=YL (Y0 _) h;cases h;exact⟨p0++(p1),by simp,w0.append (w1)⟩
def Zim:Rd Conflict:=YC (rSl .step) λx0=>YC ZfP λx1=>YC ZfP λd=>YC ZfP λx3=>Z6z (Conflict.mk x0 x1 d x3)
theorem ZfL:Z3s Zim ZiW:=by intro cs x d h;obtain⟨x0,p0,r0,rfl,w0,h⟩:=YL (Z0X _) h;obtain⟨x1,p1,r1,rfl,w1,h⟩:=YL Z20 h;obtain⟨x2,p2,r2,rfl,w2,h⟩:=YL Z20 h;obtain⟨x3,p3,r3,rfl,w3,h⟩:=YL Z20 h;cases h;exact⟨p0++(p1++(p2++(p3))),by simp,w0.append (w1.append (w2.append (w3)))⟩
def rEl:(T:Ty)->Rd (El T)|.u64=>Z3a .u64|.u8=>Z3a .u8|.int=>Z3a .i64|.tree=>ZfP|.wedit=>ZwY|.edit=>ZrX|.kid=>ZLw|.op=>rOp|.piece=>Zx2|.step=>ZFr|.irow=>rSl .int|.krow=>rSl .kid|.sstep=>Zx0|.two=>ZGh|.three=>ZwZ|.conflict=>Zim
theorem Zmu:∀T:Ty,Z3s (rEl T) (enc T)|.u64=>Y0 _|.u8=>Y0 _|.int=>Y0 _|.tree=>Z20|.wedit=>Zmq|.edit=>Z8U|.kid=>Zu5|.op=>ZfK|.piece=>Zmt|.step=>ZoQ|.irow=>Z0X _|.krow=>Z0X _|.sstep=>Zms|.two=>Zij|.three=>Zmr|.conflict=>ZfL
def dec(T:Ty)(cs:List (C U)):Option (El T):=match rEl T cs with|some (x,[])=>some x|_=>none
def K:Codec U:=
 {tyEq:=inferInstanceAs(DecidableEq Ty)
  dflt:=λT=>match T with|.u64=>(0:Int)|.u8=>(0:Int)|.int=>(0:Int)|.tree=>Tree.nil|.wedit=>WEdit.mk 0 0 0 0|.edit=>Edit.nil|.kid=>KidOf.mk 0 Edit.nil|.op=>Op.nil|.piece=>Piece.mk 0 Op.nil Op.nil|.step=>(PStep.mk 0 0)|.irow=>([]:List Int)|.krow=>([]:List Kid)|.sstep=>(SStep.mk 0 0)|.two=>(Two.mk 0 0)|.three=>Three.mk (Two.mk 0 0) 0|.conflict=>Conflict.mk [] Tree.nil Tree.nil Tree.nil
  enc:=enc
  dec:=dec
  aggT:=λT=>match T with|.u64|.u8|.int|.irow|.krow=>false|_=>true
  sz:=λT=>match T with|.u64=>1|.u8=>1|.int=>1|.tree=>3|.wedit=>4|.edit=>11|.kid=>12|.op=>14|.piece=>29|.step=>2|.irow=>1|.krow=>1|.sstep=>2|.two=>2|.three=>3|.conflict=>10
  bytes:=λT=>match T with|.u64=>8|.u8=>1|.int=>8|.tree=>56|.wedit=>32|.edit=>200|.kid=>208|.op=>240|.piece=>488|.step=>16|.irow=>24|.krow=>24|.sstep=>16|.two=>16|.three=>24|.conflict=>192}
theorem ZOb:CodecOk K:=by
 refine⟨?_,?_,?_,?_,?_⟩
 .intro T x;cases T<;>rfl
 .intro T x c hc;have h:(enc T x).all C.plain=true:=by cases T<;>rfl
  exact QE.1 h c hc
 .intro T cs x h;have d:dec T cs=some x:=h;unfold dec at d;split at d;.rename_i y he;cases d;obtain⟨p,hp,hw⟩:=Zmu T _ _ _ he;rw[Qi]at hp;subst hp;exact hw.get
  .cases d
 .intro T;cases T<;>decide
 .intro T;cases T<;>decide
theorem ZDY(T:Ty)(x:El T):dec T (enc T x)=some x:=by cases T with|u64=>rfl|u8=>rfl|int=>rfl|tree=>cases x;rfl|wedit=>rfl|edit=>obtain⟨k,⟨_,_,_⟩,⟨_,_,_⟩,w,ks,l,os⟩:=x;rfl|kid=>obtain⟨a,⟨k,⟨_,_,_⟩,⟨_,_,_⟩,w,ks,l,os⟩⟩:=x;rfl|op=>obtain⟨a,b,c,⟨k,⟨_,_,_⟩,⟨_,_,_⟩,w,ks,l,os⟩⟩:=x;rfl|piece=>obtain⟨_,⟨_,_,_,⟨_,⟨_,_,_⟩,⟨_,_,_⟩,_,_,_,_⟩⟩,⟨_,_,_,⟨_,⟨_,_,_⟩,⟨_,_,_⟩,_,_,_,_⟩⟩⟩:=x;rfl|step=>rfl|irow=>rfl|krow=>rfl|sstep=>rfl|two=>rfl|three=>obtain⟨⟨_,_⟩,_⟩:=x;rfl|conflict=>obtain⟨_,⟨_,_,_⟩,⟨_,_,_⟩,⟨_,_,_⟩⟩:=x;rfl
def Zci(x:Tree):Tree:=Tree.mk (Tree.kind x) (Tree.words x) (Tree.kids x)
@[simp]theorem Z3(x:Tree):Zci x=x:=Tree.eta x
def ZCl(x:WEdit):WEdit:=WEdit.mk (WEdit.at_ x) (WEdit.mask x) (WEdit.old x) (WEdit.new x)
@[simp]theorem Z5l(x:WEdit):ZCl x=x:=rfl
def Z6y(x:Edit):Edit:=Edit.mk (Edit.kind x) (Zci (Edit.old x)) (Zci (Edit.new x)) (Edit.words x) (Edit.kids x) (Edit.list x) (Edit.ops x)
@[simp]theorem Zj(x:Edit):Z6y x=x:=by unfold Z6y;rw[Z3,Z3];exact Edit.eta x
def ZFp(x:Kid):Kid:=KidOf.mk (KidOf.at_ x) (Z6y (KidOf.e x))
@[simp]theorem ZfM(x:Kid):ZFp x=x:=by unfold ZFp;rw[Zj]
def ZCo(x:Op):Op:=OpOf.mk (OpOf.kind x) (OpOf.n x) (OpOf.l x) (Z6y (OpOf.e x))
@[simp]theorem JA(x:Op):ZCo x=x:=by unfold ZCo;rw[Zj]
def ZrT(x:Piece):Piece:=Piece.mk (Piece.of x) (ZCo (Piece.p x)) (ZCo (Piece.q x))
@[simp]theorem ZoT(x:Piece):ZrT x=x:=by unfold ZrT;rw[JA,JA]
def ZGf(x:PStep):PStep:=PStep.mk (PStep.kind x) (PStep.at_ x)
@[simp]theorem ZKU(x:PStep):ZGf x=x:=rfl
def ZCn(x:SStep):SStep:=SStep.mk (SStep.kind x) (SStep.n x)
@[simp]theorem ZoS(x:SStep):ZCn x=x:=rfl
def ZFo(x:Two):Two:=Two.mk (Two.i x) (Two.j x)
@[simp]theorem ZLv(x:Two):ZFo x=x:=rfl
def ZCm(x:Three):Three:=Three.mk (ZFo (Three.p x)) (Three.score x)
@[simp]theorem ZGe(x:Three):ZCm x=x:=rfl
def ZfN(x:Conflict):Conflict:=Conflict.mk (Conflict.path x) (Zci (Conflict.base x)) (Zci (Conflict.ours x)) (Zci (Conflict.theirs x))
@[simp]theorem ZB0(x:Conflict):ZfN x=x:=by unfold ZfN;rw[Z3,Z3,Z3]
end Go.AM
namespace Go.AM
variable{P:Program}{cfg:Cfg U}
structure ArgL(α:Type)where
 get:List (V U)->Option α
 can:α->List (V U)ok:∀cfg:Cfg U,cfg.enc=enc->∀xs a,get xs=some a->xs.length=(can a).length/\∀(j:Nat)x y,xs[j]?=some x->(can a)[j]?=some y->Zhf cfg x y
structure Arg(α:Type)where
 get:V U->Option α
 can:α->V U
 ok:∀cfg:Cfg U,cfg.enc=enc->∀x a,get x=some a->Zhf cfg x (can a)
def ArgL.nil:ArgL Unit:=
 {get:=λxs=>match xs with
   |[]=>some ()|_::_=>none
  can:=λ_=>[]
  ok:=by grind}
def ArgL.cons{α β:Type}(A:Arg α)(B:ArgL β):ArgL (α×β):=
 {get:=λxs=>match xs with
   |x::r=>match A.get x with
    |some a=>match B.get r with
     |some b=>some (a,b)|none=>none
    |none=>none
   |[]=>none
  can:=λp=>A.can p.1::B.can p.2
  ok:=by intro cfg hc xs p h;cases xs with|nil=>cases h|cons x r=>
    simp only at h;split at h
    .rename_i a ha;split at h
     .rename_i b hb;cases h;obtain⟨h1,h2⟩:=B.ok cfg hc r b hb;refine⟨by simp[h1],λj x' y hx hy=>?_⟩;cases j with|zero=>simp at hx hy;subst hx hy;exact A.ok cfg hc x a ha|succ j=>grind
     .cases h
    .cases h}
theorem ZcX{a b:C U}(h:Wk a b):Zhf cfg (.c a) (.c b):=by intro g aa v d;refine⟨d.1.wk h,?_⟩;cases h with|snil=>trivial|slice=>trivial|_=>exact d.2
theorem ZqJ{a b:List (C U)}(h:WkL a b):Zhf cfg (.agg a) (.agg b):=by
 intro g d v hr;obtain⟨vs,rfl,h1,h2⟩:=hr;obtain⟨h3,h4⟩:=h.get;refine⟨vs,rfl,by rw[h1,h3],λj u c hu hc=>?_⟩;have hj:j<a.length:=by have:=(Q4.1 hc).1;omega
 have ha:=Q1 hj;exact ZcX (cfg:=cfg) (h4 j _ c ha hc) g d u (h2 j u _ hu ha)
def aEl(T:Ty):Arg (El T):=
 {get:=λv=>match v with
   |.agg cs=>dec T cs|_=>none
  can:=λx=>.agg (enc T x)
  ok:=by
   intro cfg _ v a h;cases v<;>simp only[reduceCtorEq]at h;rename_i cs;unfold dec at h;split at h;.rename_i y he;cases h;obtain⟨p,hp,hw⟩:=Zmu T _ _ _ he;rw[Qi]at hp;subst hp;exact ZqJ hw
   .cases h}
def ZR(k:IntKind):Arg Int:=
 {get:=λv=>match v with
   |.c (.int k' n)=>if k=k' then some n else none|_=>none
  can:=λn=>.c (.int k n)
  ok:=by
   intro cfg _ v a h;split at h
   .split at h;.rename_i hk;subst hk;cases h;exact λ_ _ _ h=>h
    .cases h
   .cases h}
def ZFP:Arg Bool:=
 {get:=λv=>match v with
   |.c (.bool b)=>some b|_=>none
  can:=λb=>.c (.bool b)
  ok:=by
   intro cfg _ v a h;split at h;.cases h;exact λ_ _ _ h=>h
   .cases h}
theorem ZB3{p:List (C U)}{c:C U}(h:WkL p [c]):∃y,p=[y]/\Wk y c:=by cases p with|nil=>exact h.elim|cons y r=>cases r with|nil=>exact⟨y,rfl,h.1⟩|cons z r=>exact h.2.elim
theorem Zx1{T:Ty}{x:C U}{l:List (El T)}{r:List (C U)}(h:rSl T [x]=some (l,r)):Wk x (sl T l):=by obtain⟨p,hp,d⟩:=Z0X T _ _ _ h;obtain⟨y,rfl,aa⟩:=ZB3 d;grind
def aSl(T:Ty):Arg (List (El T)):=
 {get:=λv=>match v with
   |.c x=>match rSl T [x]with|some (l,_)=>some l|none=>none
   |_=>none
  can:=λl=>.c (sl T l)
  ok:=by
   intro cfg _ v a h;split at h
   .split at h;.rename_i l r hr;cases h;exact ZcX (Zx1 hr)
    .cases h
   .cases h}
def fs{α:Type}(A:ArgL α)(pre:α->List Prop)(res:α->V U):Fs U:={fn:=λxs X=>match X with
   |[]=>match A.get xs with
    |some a=>some (pre a,res a,[])|none=>none
   |_::_=>none}
theorem ZE{Γ:Known U}{α:Type}{A:ArgL α}{pre:α->List Prop}{res:α->V U}(ok:CfgOk P cfg)(henc:cfg.enc=enc)(hΓ:∀f s,Γ f=some s->Contract P cfg f s){f:FuncId}{fn:Func}(lv:Za U)(hf:P.funcs[f]?=some fn)(hb:fn.body=some (cd fn []))(hname:(fn.name== "runtime.NumGoroutine")=false)(hn:∀a,(A.can a).length≤fn.ntmps)(hbody:∀a,All (pre a)->awp cfg Γ (Jw cfg Γ) fn.ntmps lv (cd fn []) (Zg (A.can a) []) (Z06 cfg fn.ntmps fn.results.toList (res a) [])):Contract P cfg f (fs A pre res):=by
 refine ZdZ ok hΓ (Z2R ok hΓ) lv hf hb hname ?_;intro args X ps r X' d ab;unfold fs at d;simp only at d;split at d
 .split at d
  .rename_i a ha;cases d;obtain⟨h1,h2⟩:=A.ok cfg henc args a ha;exact⟨A.can a,[],⟨h1,h2,rfl,λk x y hx=>by simp at hx,λk x y hx=>by simp at hx⟩,hn a,hbody a ab⟩
  .cases d
 .cases d
end Go.AM
namespace Go.AM
theorem ZzF{a b:Bool}:((bif a then true else b)=true)=(a=true\/b=true):=by grind
theorem Zl7{a b:Bool}:((bif a then b else false)=true)=(a=true/\b=true):=by grind
theorem ZE4{a b:Bool}:((bif a then true else b)=false)=(a=false/\b=false):=by grind
theorem ZE5{a b:Bool}:((bif a then b else false)=false)=(a=false\/b=false):=by grind
theorem vcS:(∀{a b:Bool},((bif a then true else b)=true)=(a=true\/b=true))/\(∀{a b:Bool},((bif a then b else false)=true)=(a=true/\b=true))/\(∀{a b:Bool},((bif a then true else b)=false)=(a=false/\b=false))/\(∀{a b:Bool},((bif a then b else false)=false)=(a=false\/b=false))/\(∀(b:Bool),((!b)=true)=(b=false))/\(∀(b:Bool),((!b)=false)=(b=true))/\(∀{p:Prop}[Decidable p],(decide p=true)=p)/\(∀{p:Prop}{_:Decidable p},decide p=false↔¬p)/\(∀{α:Type}[BEq α][LawfulBEq α]{a b:α},(a==b)=true↔a=b)/\(∀{α:Type}[BEq α][LawfulBEq α]{a b:α},(a==b)=false↔a≠b)/\(∀{α:Type}[BEq α][LawfulBEq α]{a b:α},(a !=b)=true↔a≠b)/\(∀{α:Type}(a b:α),(a≠b)=¬a=b)/\(∀{α:Type}[BEq α][LawfulBEq α]{a b:α},(a !=b)=false↔a=b)/\(∀(a b:Bool),((a||b)=true)=(a=true\/b=true))/\(∀(a b:Bool),((a&&b)=true)=(a=true/\b=true))/\(∀{x y:Bool},(x||y)=false↔x=false/\y=false)/\(∀{x y:Bool},(x&&y)=false↔x=true->y=false):=⟨ZzF,Zl7,ZE4,ZE5,QX,Bool.not_eq_false',decide_eq_true_eq,decide_eq_false_iff_not,beq_iff_eq,beq_eq_false_iff_ne,bne_iff_ne,ne_eq,bne_eq_false_iff_eq,Ke,Q2,QO,Bool.and_eq_false_imp⟩
abbrev Tr(p:Prop):Prop:=p->p
abbrev Tt(b:Bool):Prop:=Tr (b=true)
abbrev iB(b:Bool)(A B:Prop):Prop:=(b=true->A)/\(b=false->B)
theorem vE:type_of%(And.intro @Tree.eta (And.intro @Edit.eta (And.intro @Tree.kind_mk (And.intro @Tree.words_mk @Tree.kids_mk)))):=And.intro @Tree.eta (And.intro @Edit.eta (And.intro @Tree.kind_mk (And.intro @Tree.words_mk @Tree.kids_mk)))
theorem vcT:(∀{p:Prop},Tr p=True)/\(∀{p:Prop},(True/\p)=p)/\(∀{p:Prop},(p/\True)=p)/\(∀{p:Prop},(p->p)=True)/\(∀{p:Prop},(True->p)=p)/\(∀{p:Prop},(p->True)=True):=⟨by simp,by simp,by simp,by simp,by simp,by simp⟩
theorem vcF:(∀{α:Type}{a:α},(a=a)=True)/\((true=false)=False)/\((false=true)=False)/\(∀{p:Prop},(False->p)=True)/\(∀{p:Prop},(True->p)=p)/\(∀{p:Prop},(True/\p)=p)/\(∀{p:Prop},(p/\True)=p)/\((!true)=false)/\((!false)=true):=⟨by simp,by simp,by simp,by simp,by simp,by simp,by simp,rfl,rfl⟩
end Go.AM
namespace Go.AM
variable{P:Program}{cfg:Cfg U}
def Zni:List (FuncId×Fs U)->FuncId->Option (Fs U)|[],_=>none|(f,s)::r,k=>bif Nat.beq k f then some s else Zni r k
def Z2(l:List (FuncId×Fs U)):Known U:=⟨Zni l,false,false,false⟩
def Z0Z(l:List (FuncId×Fs U)):Known U:=⟨Zni l,false,true,false⟩
def Z3t(P:Program)(cfg:Cfg U):List (FuncId×Fs U)->Prop|[]=>True|(f,s)::r=>Contract P cfg f s/\Z3t P cfg r
theorem Z0j:∀{l:List (FuncId×Fs U)},Z3t P cfg l->∀f s,Zni l f=some s->Contract P cfg f s|[],_,f,s,h=>by cases h|(f',s')::r,hk,f,s,h=>by unfold Zni at h;cases e:Nat.beq f f' with|true=>rw[e]at h;cases h;rw[Qe e];exact hk.1|false=>rw[e]at h;exact Z0j hk.2 f s h
theorem Z1{l:List (FuncId×Fs U)}{α:Type}{A:ArgL α}{pre:α->Prop}{res:α->V U}(ok:CfgOk P cfg)(henc:cfg.enc=enc)(hl:Z3t P cfg l){f:FuncId}{fn:Func}(lv:Za U)(hf:P.funcs[f]?=some fn)(hb:fn.body=some (cd fn []))(hname:(fn.name== "runtime.NumGoroutine")=false)(n:Nat)(hn:∀a,(A.can a).length=n)(hn':n≤fn.ntmps)(hbody:∀a,pre a->awp cfg (Z2 l) (Jw cfg (Z2 l)) fn.ntmps lv (cd fn []) (Zg (A.can a) []) (Z06 cfg fn.ntmps fn.results.toList (res a) [])):Contract P cfg f (fs A (λa=>[pre a]) res):=ZE ok henc (Z0j hl) lv hf hb hname (λa=>by rw[hn];exact hn') (λa h=>hbody a h.1)
theorem Z1K{l:List (FuncId×Fs U)}{α:Type}{A:ArgL α}{pre:α->Prop}{res:α->V U}(ok:CfgOk P cfg)(henc:cfg.enc=enc)(hl:Z3t P cfg l){f:FuncId}{fn:Func}(lv:Za U)(hf:P.funcs[f]?=some fn)(hb:fn.body=some (cd fn []))(hname:(fn.name== "runtime.NumGoroutine")=false)(n:Nat)(hn:∀a,(A.can a).length=n)(hn':n≤fn.ntmps)(hbody:∀a,pre a->awp cfg (Z0Z l) (Jw cfg (Z0Z l)) fn.ntmps lv (cd fn []) (Zg (A.can a) []) (Z06 cfg fn.ntmps fn.results.toList (res a) [])):Contract P cfg f (fs A (λa=>[pre a]) res):=ZE ok henc (Z0j hl) lv hf hb hname (λa=>by rw[hn];exact hn') (λa h=>hbody a h.1)
theorem Z0H{l:List (FuncId×Fs U)}{α:Type}{A:ArgL α}{pre:α->Prop}{μ:α->Nat}{res:α->V U}(ok:CfgOk P cfg)(henc:cfg.enc=enc)(hl:Z3t P cfg l){f:FuncId}{fn:Func}(lv:Za U)(hf:P.funcs[f]?=some fn)(hb:fn.body=some (cd fn []))(hname:(fn.name== "runtime.NumGoroutine")=false)(n:Nat)(hn:∀a,(A.can a).length=n)(hn':n≤fn.ntmps)(hbody:∀N a,pre a->μ a<N+1->awp cfg (Z2 ((f,fs A (λa=>[pre a,μ a<N]) res)::l)) (Jw cfg (Z2 ((f,fs A (λa=>[pre a,μ a<N]) res)::l))) fn.ntmps lv (cd fn []) (Zg (A.can a) []) (Z06 cfg fn.ntmps fn.results.toList (res a) [])):Contract P cfg f (fs A (λa=>[pre a]) res):=by
 have ab:∀N,Contract P cfg f (fs A (λa=>[pre a,μ a<N]) res):=by intro N;induction N with
  |zero=>
   refine Jp ⟨fn,hf,by rw[hb];rfl,hname⟩ rfl ?_;intro args X ps r X' d aa;exfalso;unfold fs at d;simp only at d;split at d
   .split at d;.cases d;exact absurd aa.2.1 Yp
    .cases d
   .cases d|succ N ih=>exact ZE (Γ:=Z2 ((f,fs A (λa=>[pre a,μ a<N]) res)::l)) ok henc (Z0j ⟨ih,hl⟩) lv hf hb hname (λa=>by grind) (λa h=>hbody N a h.1 h.2.1)
 refine Jp (ab 0).1 rfl ?_;intro args X ps r X' d aa;unfold fs at d;simp only at d;split at d
 .split at d
  .rename_i a ha;cases d;have e:(fs A (λx=>[pre x,μ x<μ a+1]) res).fn args []=some ([pre a,μ a<μ a+1],res a,[]):=by unfold fs;simp only[ha]
   exact(ab (μ a+1)).one rfl args [] _ _ [] e ⟨aa.1,XZ _,trivial⟩
  .cases d
 .cases d
theorem JC{α:Type}{A:ArgL α}{pre:α→Prop}{μ:α→Nat}{res:α→V U}{f:FuncId}(h0:∃fn,P.funcs[f]?=some fn∧fn.body.isSome=true∧(fn.name== "runtime.NumGoroutine")=false)(key:∀N,Contract P cfg f (fs A (λa=>[pre a,μ a<N]) res)):Contract P cfg f (fs A (λa=>[pre a]) res):=by
 refine Jp h0 rfl ?_;intro args X ps r X' d aa;unfold fs at d;simp only at d;split at d
 .split at d
  .rename_i a ha;cases d;have e:(fs A (λx=>[pre x,μ x<μ a+1]) res).fn args []=some ([pre a,μ a<μ a+1],res a,[]):=by unfold fs;simp only[ha]
   exact(key (μ a+1)).one rfl args [] _ _ [] e ⟨aa.1,XZ _,trivial⟩
  .cases d
 .cases d
theorem JB{α:Type}{A:ArgL α}{pre:α→Prop}{μ:α→Nat}{res:α→V U}{f:FuncId}(h0:∃fn,P.funcs[f]?=some fn∧fn.body.isSome=true∧(fn.name== "runtime.NumGoroutine")=false):Contract P cfg f (fs A (λa=>[pre a,μ a<0]) res):=by
 refine Jp h0 rfl ?_;intro args X ps r X' d aa;exfalso;unfold fs at d;simp only at d;split at d
 .split at d;.cases d;exact absurd aa.2.1 Yp
  .cases d
 .cases d
theorem Z2j{l:List (FuncId×Fs U)}{α β:Type}{A:ArgL α}{B:ArgL β}{preA:α->Prop}{preB:β->Prop}{μA:α->Nat}{μB:β->Nat}{resA:α->V U}{resB:β->V U}(ok:CfgOk P cfg)(henc:cfg.enc=enc)(hl:Z3t P cfg l){f f':FuncId}{fn fn':Func}(lv lv':Za U)(hf:P.funcs[f]?=some fn)(hf':P.funcs[f']?=some fn')(hb:fn.body=some (cd fn []))(hb':fn'.body=some (cd fn' []))(hname:(fn.name== "runtime.NumGoroutine")=false)(hname':(fn'.name== "runtime.NumGoroutine")=false)(n n':Nat)(hn:∀a,(A.can a).length=n)(hn':∀a,(B.can a).length=n')(hle:n<=fn.ntmps)(hle':n'<=fn'.ntmps)(hbody:∀N a,preA a->μA a<N+1->awp cfg (Z2 ((f,fs A (λa=>[preA a,μA a<N]) resA)::(f',fs B (λa=>[preB a,μB a<N]) resB)::l)) (Jw cfg (Z2 ((f,fs A (λa=>[preA a,μA a<N]) resA)::(f',fs B (λa=>[preB a,μB a<N]) resB)::l))) fn.ntmps lv (cd fn []) (Zg (A.can a) []) (Z06 cfg fn.ntmps fn.results.toList (resA a) []))(hbody':∀N a,preB a->μB a<N+1->awp cfg (Z2 ((f,fs A (λa=>[preA a,μA a<N]) resA)::(f',fs B (λa=>[preB a,μB a<N]) resB)::l)) (Jw cfg (Z2 ((f,fs A (λa=>[preA a,μA a<N]) resA)::(f',fs B (λa=>[preB a,μB a<N]) resB)::l))) fn'.ntmps lv' (cd fn' []) (Zg (B.can a) []) (Z06 cfg fn'.ntmps fn'.results.toList (resB a) [])):Contract P cfg f (fs A (λa=>[preA a]) resA)/\Contract P cfg f' (fs B (λa=>[preB a]) resB):=by
 have h0:∃fn,P.funcs[f]?=some fn∧fn.body.isSome=true∧(fn.name== "runtime.NumGoroutine")=false:=⟨fn,hf,by rw[hb]; rfl,hname⟩;have aa:∃fn,P.funcs[f']?=some fn∧fn.body.isSome=true∧(fn.name== "runtime.NumGoroutine")=false:=⟨fn',hf',by rw[hb']; rfl,hname'⟩;have d:∀N,Contract P cfg f (fs A (λa=>[preA a,μA a<N]) resA)/\Contract P cfg f' (fs B (λa=>[preB a,μB a<N]) resB):=by intro N;induction N with|zero=>exact⟨JB h0,JB aa⟩|succ N ih=>exact⟨ZE (Γ:=Z2 ((f,fs A (λa=>[preA a,μA a<N]) resA)::(f',fs B (λa=>[preB a,μB a<N]) resB)::l)) ok henc (Z0j ⟨ih.1,ih.2,hl⟩) lv hf hb hname (λa=>by grind) (λa h=>hbody N a h.1 h.2.1),ZE (Γ:=Z2 ((f,fs A (λa=>[preA a,μA a<N]) resA)::(f',fs B (λa=>[preB a,μB a<N]) resB)::l)) ok henc (Z0j ⟨ih.1,ih.2,hl⟩) lv' hf' hb' hname' (λa=>by grind) (λa h=>hbody' N a h.1 h.2.1)⟩
 exact⟨JC h0 λN=>(d N).1,JC aa λN=>(d N).2⟩
end Go.AM
namespace Go.AM
mutual def YA:Tree->Int->Int->Int|.mk _ w ks,d,l=>if d=0\/l-1-w.length<0 then-1 else Yh ks (d-1) (l-1-w.length)def Yh:List Tree->Int->Int->Int|[],_,l=>l|t::r,d,l=>if l<0 then l else Yh r d (YA t d l)end
mutual def mass:Tree->Nat|.mk _ w ks=>1+w.length+Z5 ks def Z5:List Tree->Nat|[]=>0|t::r=>mass t+Z5 r end
mutual def Z3E:Tree->Prop|.mk _ w ks=>w.length<=17592186044416/\ks.length<=17592186044416/\Z8E ks def Z8E:List Tree->Prop|[]=>True|t::r=>Z3E t/\Z8E r end
def trim:List Int->List Int|[]=>[]|x::r=>match trim r with|[]=>if x=0 then[]else[x]|y::s=>x::y::s
def Yq:List Tree->List Tree|[]=>[]|x::r=>match Yq r with|[]=>if x.kind=0 then[]else[x]|y::s=>x::y::s
mutual def Z0:Tree->Tree|.mk k w ks=>if k=0 then Tree.nil else if k=1 then .mk 1 (trim w) (Yq (Yx ks))else .mk k w (Yx ks)def Yx:List Tree->List Tree|[]=>[]|t::r=>Z0 t::Yx r end
open Classical in noncomputable def ZN(a b:Tree):Bool:=decide (a=b)
def Zs(t:Tree)(i:Int):Int:=if i<0 then 0 else t.words.getD i.toNat 0
def Zo(t:Tree)(i:Int):Tree:=if i<0 then Tree.nil else t.kids.getD i.toNat Tree.nil
mutual def rng:Tree->Prop|.mk k w ks=>(-9223372036854775808<=k/\k<=9223372036854775807)/\(∀x∈w,0<=x/\x<18446744073709551616)/\ZV ks def ZV:List Tree->Prop|[]=>True|t::r=>rng t/\ZV r end
def wd(c:Int):Int:=if c=0 then 0 else if c=1 then 1 else if c=2 then 8 else if c=3 then 16 else if c=4 then 32 else if c=5 then 64 else-1
def ZuU(c n:Int):Bool:=decide (0<=wd c/\n<2^(wd c).toNat)
def Z0P(list:Int)(t:Tree):Bool:=if 2<=list/\list<=7 then decide (t.kind=10/\t.kids.length=0/\t.words.length=1)&&ZuU (list-2) (t.words.getD 0 0)else if list=9 then decide (t.kind=1)else decide (t.kind≠10)
mutual def Zb:Tree->Int->Bool|.mk k w ks,d=>if k=0 then decide (w.length=0/\ks.length=0)else if k=10 then decide (w.length=1/\ks.length=0)else if d=0 then false else if k=1 then decide (w.length<65536/\ks.length<65536)&&Yj 1 ks (d-1)else decide (2<=k/\k<=9/\w.length=0/\ks.length<1048576)&&Yj k ks (d-1)def Yj(list:Int):List Tree->Int->Bool|[],_=>true|t::r,d=>(Z0P list t&&Zb t d)&&Yj list r d end
end Go.AM
namespace Go.AM
open Go.ChangeShapes Go.WideShapes Go.RowKit
def inT(t:Tree):Prop:=Z3E t/\rng t
theorem ZLN{ks:List Tree}(h:∀t∈ks,inT t):Z8E ks/\ZV ks:=by induction ks with|nil=>trivial|cons t r ih=>have d:=h t (Q5 ..);have h2:=ih λx hx=>h x (Q3 _ hx);exact⟨⟨d.1,h2.1⟩,d.2,h2.2⟩
section
variable{U:Uni}{P:Program}{cfg:Cfg U}{w:World}{H:Type}{henc:TypeId×Value->H}
def RelS(cfg:Cfg U)(m:Addr->Option Value)(vs:List Value)(cs:List (C U)):Prop:=vs.length=cs.length/\∀(j:Nat)v c,vs[j]?=some v->cs[j]?=some c->SimC cfg m v c
theorem RelS.one{m:Addr->Option Value}{v:Value}{c:C U}(h:SimC cfg m v c):RelS cfg m [v] [c]:=by refine⟨rfl,λj u d hu hd=>?_⟩;grind
theorem RelS.glue{m:Addr->Option Value}{vs:List Value}{a n:Nat}{c1 rest:List (C U)}(h1:RelS cfg m ((vs.drop a).take n) c1)(hn:c1.length=n)(d:a+n<=vs.length)(h2:RelS cfg m (vs.drop (a+n)) rest):RelS cfg m (vs.drop a) (c1++rest):=by
 have e:vs.drop a=(vs.drop a).take n++vs.drop (a+n):=by
  rw[show vs.drop (a+n)=(vs.drop a).drop n by simp_all];exact(Qs n _).symm
 rw[e];have hl:((vs.drop a).take n).length=c1.length:=h1.1;refine⟨by simp only[Q8,hl,h2.1],λj v c d hc=>?_⟩;rw[QK]at d hc;rw[hl]at d;split at d;.rename_i hj;rw[if_pos hj]at hc;exact h1.2 j v c d hc
 .rename_i hj;rw[if_neg hj]at hc;exact h2.2 _ v c d hc
theorem RelS.done{m:Addr->Option Value}{vs:List Value}{n:Nat}(h:vs.length=n):RelS cfg m (vs.drop n) ([]:List (C U)):=by rw[Qb Yp];exact⟨rfl,λj v c d=>by simp at d⟩
def Rdd(henc:TypeId×Value->H)(P:Program)(w:World)(n:Nat)(t:TypeId)(cs:List Value):Prop:=∃x,DataW.trod henc P w 0 (λ_=>true) true n t cs=some x/\(x.1.weights P t).all (·<=reachBytes)=true
theorem Ze0(ok:CfgOk P cfg){t:TypeId}{ag:Bool}{zs:List (C U)}(h:cfg.var t=some (ag,zs)):P.cellsOf t=zs.length:=by obtain⟨_,i,z,d,h1,h2,h3,_⟩:=ok.var _ _ _ h;simp[Program.cellsOf,h1,h3]
theorem ZoU(ok:CfgOk P cfg){t:TypeId}{k:IntKind}{n0:Int}{n:Nat}{cs:List Value}(hv:cfg.var t=some (false,[.int k n0]))(h:Rdd henc P w n t cs):∃z,RelS cfg w.cell? cs [.int k z]/\k.min<=z/\z<=k.max:=by obtain⟨x,hx,_⟩:=h;obtain⟨_,i,z,d,h1,h2,h3,h4,h5,h6,h7,_⟩:=ok.var _ _ _ hv;have hd:=h7 rfl k n0 rfl;subst hd;obtain⟨q,rfl,_,hw⟩:=DataW.trod_int h2 hx;simp only[Lit.wf,Q2,decide_eq_true_eq]at hw;exact⟨q,.one (.int k q),hw.1,hw.2⟩
theorem ZoV(ok:CfgOk P cfg){t ft:TypeId}{i off:Nat}{ag:Bool}{zs:List (C U)}{n:Nat}{cs:List Value}(hf:cfg.fld t i=some (off,ft))(hv:cfg.var ft=some (ag,zs))(h:Rdd henc P w n t cs):∃m,n=m+1/\cs.length=P.cellsOf t/\Rdd henc P w m ft ((cs.drop off).take zs.length):=by
 obtain⟨x,hx,hw⟩:=h;obtain⟨fs,fd,h1,h2,h3,h4⟩:=ok.fld _ _ _ _ hf;obtain⟨xs,m,rfl,rfl,hl,ar,aa⟩:=DataW.trod_struct h1 hx;have hg:=aa i fd h2;rw[h3,h4,Ze0 ok hv]at hg;have hi:i<xs.length:=by have:=(QJ.1 h2).1;omega
 have hy:=Q1 hi;refine⟨m,rfl,hl,xs[i],by rw[hg,hy],?_⟩;rw[QE]at hw⊢;intro q hq;refine hw q ?_;simp only[DataW.weights,h1];exact DataW.weights_mem_each (j:=i) (t:=ft) (d:=xs[i].1) (by grind) (by grind) q hq
theorem ZdK{α:Type}(p:Nat->α->Prop):∀(n:Nat),(∀i,i<n->∃x,p i x)->∃l:List α,l.length=n/\∀i x,l[i]?=some x->p i x|0,_=>⟨[],rfl,λi x h=>by simp at h⟩|n+1,h=>by obtain⟨l,d,h2⟩:=ZdK p n λi hi=>h i Yp;obtain⟨x,hx⟩:=h n Yp;refine⟨l++[x],by simp[d],λi y hy=>?_⟩;grind
theorem Zd5{e:TypeId}:∀{l:List (DataW H)}{i:Nat}{d:DataW H},l[i]?=some d->∀q∈d.weights P e,q∈DataW.weightsAll P e l|d0::l,0,d,h,q,hq=>by simp at h;subst h;simp only[DataW.weightsAll,Qf];exact .inl hq|d0::l,i+1,d,h,q,hq=>by simp only[DataW.weightsAll,Qf];exact .inr (Zd5 (l:=l) (i:=i) (by simpa using h) q hq)
theorem ZFq(ok:CfgOk P cfg){t:TypeId}{S:U.Ty}{n:Nat}{cs:List Value}{Z76:U.El S->Prop}(hs:cfg.slT t=some S)(ih:∀m,m<n->∀cs,Rdd henc P w m (cfg.elT S) cs->∃e,RelS cfg w.cell? cs (cfg.enc S e)/\Z76 e)(h:Rdd henc P w n t cs):∃l:List (U.El S),RelS cfg w.cell? cs [.slice S l .unk]/\l.length*cfg.bytes S<=reachBytes/\∀e∈l,Z76 e:=by
 obtain⟨x,hx,hw⟩:=h;have hu:=ok.sl _ _ hs;obtain⟨i0,ag,zs,z,h1,h2,h3,h4,h5,h6⟩:=ok.el S;have hc:P.cellsOf (cfg.elT S)=cfg.sz S:=by simp[Program.cellsOf,h1,h2]
 have hb:P.bytesOf (cfg.elT S)=cfg.bytes S:=by simp[Program.bytesOf,h1,h3]
 rcases DataW.trod_slice hu hx with⟨rfl,_⟩|⟨a,len,cap,elems,rest,m,rfl,rfl,rfl,_,hlc,_,hel,hels,_⟩;.exact⟨[],.one (.snil S .unk),by simp,λe he=>by cases he⟩
 .simp only[DataW.weights,hu,X6,hb]at hw;rw[List.all_cons,Q2,decide_eq_true_eq,QE]at hw;obtain⟨a6,ar⟩:=hw;obtain⟨l,hl,ae⟩:=ZdK (λi(e:U.El S)=>(∀j c,(cfg.enc S e)[j]?=some c->∃v,w.cell? (a.add (i*cfg.sz S+j))=some v/\SimC cfg w.cell? v c)/\Z76 e) len (by
   intro i hi;have hg:=hels i hi;have hy:=Q1 (l:=elems) (i:=i) Yp;rw[hy]at hg;obtain⟨ci,al,ah⟩:=Qx.1 hg;obtain⟨_,a8,ai⟩:=World.cells?_some al;obtain⟨e,ab,aq⟩:=ih m Yp ci ⟨elems[i],ah,by rw[QE];intro q hq;refine ar q ?_;rw[Qf];exact .inl (Zd5 (i:=i) (d:=elems[i].1) (by grind) q hq)⟩;refine⟨e,λj c hj=>?_,aq⟩;have ax:=ab.1;have ak:j<ci.length:=by have:=(Q4.1 hj).1;omega
   have aa:=Q1 ak;refine⟨ci[j],?_,ab.2 j _ c aa hj⟩;rw[<-aa,<-ai j Yp,hc,Go.Deep.add_add]);refine⟨l,.one (.of_rows .unk hl hlc λi x hx j c hj=>(ae i x hx).1 j c hj),?_,λe he=>?_⟩;.grind
  .obtain⟨i,hi,rfl⟩:=Xe he;exact(ae i _ (Q1 hi)).2
end
section
variable{P:Program}{cfg:Cfg U}{w:World}{H:Type}{henc:TypeId×Value->H}
structure TreeTypes(cfg:Cfg U):Prop where
 enc:cfg.enc=AM.enc
 bytes:cfg.bytes=K.bytes
 int:∃n,cfg.var (cfg.elT .int)=some (false,[.int .i64 n])u64:∃n,cfg.var (cfg.elT .u64)=some (false,[.int .u64 n])var:∃zs,cfg.var (cfg.elT .tree)=some (true,zs)/\zs.length=3
 f0:∃t n,cfg.fld (cfg.elT .tree) 0=some (0,t)/\cfg.var t=some (false,[.int .i64 n])f1:∃t c,cfg.fld (cfg.elT .tree) 1=some (1,t)/\cfg.var t=some (false,[c])/\cfg.slT t=some .u64
 f2:∃t c,cfg.fld (cfg.elT .tree) 2=some (2,t)/\cfg.var t=some (false,[c])/\cfg.slT t=some .tree
theorem Zik{n b:Nat}(h:n*b<=reachBytes)(hb:8<=b):n<=17592186044416:=by have d:n*8<=n*b:=Nat.mul_le_mul_left _ hb;have h2:reachBytes<2^47:=reachBytes_lt;omega
theorem ZGg(ok:CfgOk P cfg)(T:TreeTypes cfg){n:Nat}{cs:List Value}(h:Rdd henc P w n (cfg.elT .u64) cs):∃e:Int,RelS cfg w.cell? cs (cfg.enc .u64 e)/\(0<=e/\e<18446744073709551616):=by obtain⟨n0,hv⟩:=T.u64;obtain⟨z,d,h2,h3⟩:=ZoU ok hv h;refine⟨z,by rw[T.enc];exact d,h2,?_⟩;have:z<=18446744073709551615:=h3;omega
theorem ZCp(ok:CfgOk P cfg)(T:TreeTypes cfg):∀(n:Nat)(cs:List Value),Rdd henc P w n (cfg.elT .tree) cs->∃e:Tree,RelS cfg w.cell? cs (cfg.enc .tree e)/\inT e:=by intro n;induction n using Nat.strongRecOn with|ind n IH=>
  intro cs h;obtain⟨zs,hz,ae⟩:=T.var;obtain⟨t0,n0,f0,v0⟩:=T.f0;obtain⟨t1,c1,f1,v1,s1⟩:=T.f1;obtain⟨t2,c2,f2,v2,s2⟩:=T.f2;obtain⟨m,rfl,hl,r0⟩:=ZoV ok f0 v0 h;obtain⟨d,e',_,r1⟩:=ZoV ok f1 v1 h;cases e';obtain⟨d,e',_,r2⟩:=ZoV ok f2 v2 h;cases e';have aa:cs.length=3:=by rw[hl,Ze0 ok hz,ae]
  obtain⟨k,a1,a2,a3⟩:=ZoU ok v0 r0;obtain⟨ws,b1,b2,b3⟩:=ZFq ok s1 (λm _ cs h=>ZGg ok T h) r1;obtain⟨ks,d1,d2,d3⟩:=ZFq ok s2 (λd hm cs h=>IH d Yp cs h) r2;rw[T.bytes]at b2 d2;have g:=a1.glue rfl (by simp;omega) (b1.glue rfl (by simp;omega) (d1.glue rfl (by simp;omega) (RelS.done (n:=3) aa)));refine⟨.mk k ws ks,by rw[T.enc];exact g,?_⟩;have hk:=ZLN d3;exact⟨⟨Zik b2 V0,Zik d2 V0,hk.1⟩,⟨a2,a3⟩,b3,hk.2⟩
end
section
variable{P:Program}{cfg:Cfg U}{H:Type}{henc:TypeId×Value->H}
def ZAX{α:Type}(henc:TypeId×Value->H)(P:Program)(cfg:Cfg U)(A:Arg α)(t:TypeId)(Z76:α->Prop):Prop:=(∀a,A.get (A.can a)=some a)/\∀(w:World)(base:Nat)v n,Value.okWide P w .any base t v->Rdd henc P w n t v.cells.toList->∃a,Z76 a/\∀(g:Gh)(live:Name->Bool),g.m=w.cell?->RelV cfg g ZQ live v (A.can a)
def ZtE{α:Type}(henc:TypeId×Value->H)(P:Program)(cfg:Cfg U)(A:ArgL α)(ts:List TypeId)(Z76:α->Prop):Prop:=(∀a,A.get (A.can a)=some a)/\∀(w:World)(base:Nat)(vs:List Value)ds ps,(∀(j:Nat)t v,ts[j]?=some t->vs[j]?=some v->Value.okWide P w .any base t v)->DataW.TrodAll henc P w 0 (λ_=>true) true ts vs ds ps->(DataW.weightsEach P ts ds).all (·<=reachBytes)=true->∃a,Z76 a/\vs.length=(A.can a).length/\∀(g:Gh)(live:Name->Bool),g.m=w.cell?->∀(j:Nat)v x,vs[j]?=some v->(A.can a)[j]?=some x->RelV cfg g ZQ live v x
theorem Zv9:ZtE henc P cfg ArgL.nil [] (λ_=>True):=by refine⟨λ_=>rfl,λw base vs ds ps _ h _=>?_⟩;obtain⟨rfl,_,_⟩:=trodAll_nil h;exact⟨(),trivial,rfl,λ_ _ _ j v x d=>by simp at d⟩
theorem Z5V{α β:Type}{A:Arg α}{B:ArgL β}{t:TypeId}{ts:List TypeId}{Z76:α->Prop}{goods:β->Prop}(hA:ZAX henc P cfg A t Z76)(hB:ZtE henc P cfg B ts goods):ZtE henc P cfg (ArgL.cons A B) (t::ts) (λp=>Z76 p.1/\goods p.2):=by
 refine⟨λa=>?_,λw base vs ds ps aa h hw=>?_⟩;.simp only[ArgL.cons,hA.1,hB.1]
 .obtain⟨v,ah,d,ae,p,q,rfl,rfl,rfl,h1,h2⟩:=trodAll_cons h;obtain⟨n,h1⟩:=h1;simp only[DataW.weightsEach,List.all_append,Q2]at hw;obtain⟨a,ga,ra⟩:=hA.2 w base v n (aa 0 t v rfl rfl) ⟨(d,p),h1,hw.1⟩;obtain⟨b,gb,lb,rb⟩:=hB.2 w base ah ae q (λj t v ht hv=>aa (j+1) t v (by simpa using ht) (by simpa using hv)) h2 hw.2;refine⟨(a,b),⟨ga,gb⟩,by simp[ArgL.cons,lb],λg ak hg j u x hu hx=>?_⟩;cases j with|zero=>simp[ArgL.cons]at hu hx;grind|succ j=>simp[ArgL.cons]at hu hx;grind
theorem RelS.relL{g:Gh}{w:World}{vs:List Value}{cs:List (C U)}(h:RelS cfg w.cell? vs cs)(hg:g.m=w.cell?)(hp:∀c∈cs,c.plain=true):RelL cfg g ZQ vs cs:=by
 refine⟨h.1,λj v c hv hc=>⟨by rw[hg];exact h.2 j v c hv hc,?_⟩⟩;have d:=hp c (X4 hc);cases c with
 |slice S l' tl'=>cases tl'<;>first|trivial|(simp[C.plain]at d)
 |_=>trivial
theorem ZAv(ok:CfgOk P cfg){t:TypeId}{k:IntKind}{n0:Int}(hv:cfg.var t=some (false,[.int k n0])):ZAX henc P cfg (ZR k) t (λz=>k.min<=z/\z<=k.max):=by refine⟨λa=>by simp[ZR],λw base v n aa h=>?_⟩;obtain⟨_,i,z,d,h1,h2,h3,h4,h5,h6,h7,_⟩:=ok.var _ _ _ hv;have hd:=h7 rfl k n0 rfl;subst hd;obtain⟨q,rfl⟩:=okWide_int h2 aa;obtain⟨z,hz,hr⟩:=ZoU ok hv h;refine⟨z,hr,λg ab hg=>?_⟩;have:=hz.relL hg (by intro c hc;simp at hc;subst hc;rfl);exact this.2 0 _ _ (by rfl) rfl
theorem ZE6(ok:CfgOk P cfg)(henc':cfg.enc=AM.enc){T:Ty}{Z76:El T->Prop}(d:∃aa ft,cfg.fld (cfg.elT T) 0=some (aa,ft))(hr:∀w n cs,Rdd henc P w n (cfg.elT T) cs->∃e:El T,RelS cfg w.cell? cs (cfg.enc T e)/\Z76 e):ZAX henc P cfg (aEl T) (cfg.elT T) Z76:=by refine⟨λa=>ZDY T a,λw base v n ae h=>?_⟩;obtain⟨aa,ft,d⟩:=d;obtain⟨fs,fd,h1,_⟩:=ok.fld _ _ _ _ d;obtain⟨vs,rfl,_⟩:=okWide_struct h1 ae;obtain⟨e,he,hg⟩:=hr w n _ h;refine⟨e,hg,λg ai ab=>⟨vs,rfl,?_⟩⟩;rw[henc']at he;exact he.relL ab (λc hc=>by have:=ok.enc_plain T e c (by simp_all);exact this)
theorem ZuG{α:Type}{A:ArgL α}{ts:List TypeId}{Z76:α->Prop}{pre:α->Prop}{f:FuncId}(hA:ZtE henc P cfg A ts Z76)(hgood:∀a,Z76 a->pre a)(hc:Contract P cfg f (fs A (λa=>[pre a]) (λ_=>.c (.bool true))))(w:World)(base:Nat)(args:Array Value)(ds:List (DataW H))(ps:List MemPlace)(hok:∀(j:Nat)t v,ts[j]?=some t->args.toList[j]?=some v->Value.okWide P w .any base t v)(d:DataW.TrodAll henc P w 0 (λ_=>true) true ts args.toList ds ps)(hw:(DataW.weightsEach P ts ds).all (·<=reachBytes)=true):Calls P f args w λe w'=>e=.returned (.bool true)/\Below w.heap.size w w':=by
 obtain⟨a,ga,hl,hr⟩:=hA.2 w base args.toList ds ps hok d hw;let g:Gh:=⟨w.cell?,λ_=>none,λ_=>⟨0,0,none⟩,λ_=>none⟩;have hs:(fs A (λa=>[pre a]) (λ_=>.c (.bool true))).fn (A.can a) []=some ([pre a],.c (.bool true),[]):=by simp only[fs,hA.1]
 have ab:Entry cfg w g args.toList (A.can a) [] []:=by refine⟨⟨λb v hv=>⟨hv,rfl⟩,λb t d=>by cases d⟩,λb t d=>(by cases d),hl,λj v x hv hx=>hr g _ rfl j v x hv hx,λk cs hk=>(by simp at hk),λ_ _=>rfl,λt x hx=>by cases hx⟩
 have:=hc.one rfl (A.can a) [] _ _ [] hs ⟨hgood a ga,trivial⟩ (QI _) w g args.toList ab;refine Calls.mono (by simpa using this) ?_;rintro e w'⟨v,rfl,g',L⟩;have hv:SimC cfg g'.m v (.bool true):=L.val.1;cases hv;refine⟨rfl,L.fr.stay.os,L.fr.stay.tape,L.fr.stay.output,L.fr.stay.size,λk hk=>?_⟩;exact(L.fr.clean k hk λo s t d=>by cases d).1
theorem Zyv{f:Func}{s:ChangeSpec}{apart fresh handsOn again:Bool}{W W':World}{args:Array Value}{ds gs:List (DataW H)}{before:List MemPlace}{tb:TypeId}(hl:laidOutB P=true)(hread:(f.params.toList.all λt=>P.readableRec t&&decide (t<P.types.size))=true)(hres:f.resultTypes=#[tb])(hbool:P.underlying tb=some .bool)(hvars:s.vars=[])(hfn:s.fn H (ds++gs)={results:=[.lit (.bool true)],args:=ds,vars:=[]})(hW:DataW.Whole henc P f.params.toList s.vars apart W args.toList ds gs before)(hb:Below W.heap.size W W'):s.post henc P f apart fresh handsOn again W args (.bool true) W':=by
 have av:=hW;obtain⟨p,q,h1,h2,e,_⟩:=av;have hq:q=[]:=by rw[hvars]at h2;exact(trodVars_none h2).2
 subst hq;have aq:=hW.lt;have au:∀{ts:List TypeId}{vs:List Value}{ds:List (DataW H)}{ps:List MemPlace}{sp:Nat->Bool},(∀t∈ts,P.readableRec t=true/\t<P.types.size)->(∀x∈ps,x.block<W.heap.size)->(∀x∈ps,sp x.block=true)->DataW.TrodAll henc P W 0 (λ_=>true) true ts vs ds ps->DataW.TrodAll henc P W' 0 sp true ts vs ds ps:=by intro ts;induction ts with|nil=>intro vs ds ps sp _ _ _ h;obtain⟨rfl,rfl,rfl⟩:=trodAll_nil h;exact rfl|cons t ts ih=>intro vs ds ps sp hr hx hs h;obtain⟨v,bd,d,bc,p,q,rfl,rfl,rfl,h3,h4⟩:=trodAll_cons h;have al:=hr t (Q5 ..);exact⟨p,q,WideElems.Trod_stays hl al.1 al.2 h3 (λx aa=>hb.same (hx x (QS _ aa))) (λx aa=>hs x (QS _ aa)),ih (λt ht=>hr t (Q3 _ ht)) (λx aa=>hx x (Xh _ aa)) (λx aa=>hs x (Xh _ aa)) h4,rfl⟩
 have af:∀t∈f.params.toList,P.readableRec t=true/\t<P.types.size:=by intro t ht;have:=QE.1 hread t ht;simpa using this
 rw[Qi]at e;replace e:=e.symm;subst e;have ai:∀(b:Nat)(sp:Nat->Bool)(hd:Bool),DataW.TrodAll henc P W' b sp hd f.resultTypes.toList ((Value.bool true).resultList f.resultTypes.size) [.lit (.bool true)] []:=by intro b sp hd;rw[hres];exact trodAll_mk1 ⟨1,by simp[DataW.trod,hbool,Value.cells]⟩
 have am:∀(j:Nat)(t:TypeId)(r:Value),f.resultTypes[j]?=some t->((Value.bool true).resultList f.resultTypes.size)[j]?=some r->Value.okWide P W' .any 0 t r:=by intro j t r h3 h4;rw[hres]at h3 h4;cases j with|zero=>simp at h3;subst h3;simp[Value.resultList]at h4;subst h4;simp[Value.okWide,hbool,Cell.okWide,Cell.ok]|succ j=>simp at h3
 have a1:∀x∈p,(λb=>decide (b<W.heap.size)) x.block=true:=λx hx=>by grind
 have aw:∀sp:Nat->Bool,DataW.TrodVars henc P W' sp s.vars [] []:=λsp=>by rw[hvars];try rfl
 refine⟨ds,gs,p,[],p,[],hW,?_,?_,?_,hb.frame _,λ_=>⟨am,[.lit (.bool true)]++ds,[],[]++p,?_,λx hx _=>by simpa using hx⟩⟩;.grind
 .grind
 .grind
 .obtain⟨_,_,_,_,_,hz,hn⟩:=hW;refine⟨[]++p,[],trodAll_append (au af aq (λ_ _=>rfl) h1) (ai 0 (λ_=>true) true),aw _,by simp,?_,by simpa using hn⟩;intro b ao hx;have ax:MemPlace.cell b ao∈p:=by simpa using hx
  rw[hb.frozen (by exact aq _ ax)];exact hz b ao Yp
end
end Go.AM
