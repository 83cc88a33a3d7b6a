import Derived.Test.YtpjenobkibfpcaaGreatZmL
import Derived.Still
import Derived.Carry
import Derived.SizedLaws
import Derived.ChangeSame
set_option linter.all false
open Option renaming some->A,none->aT
open Bool renaming true->Y,false->I
open List renaming length->J,getD->aR
open Int renaming toNat->G
namespace Go.AM
variable{U:gP}{P:Program}{M:cW U}{B:fN}{E:bY U}{g:Gh}{a:Act}{w:World}
def zy(o:Oper):Bool:=match o.op with
 |.call c=>match c.callee with|.builtin .len=>I|_=>Y
 |.makeSlice _ _ _=>Y|.buildSlice _ _ parts=>FW parts.toList|_=>I
structure Fp where
 dP:List Name
 jM:List Name
 qZ:Bool
 eE:List bL
 fm:List bL
 yt:Bool
def pV(Γ:cD U)(o:Oper)(E:bY U):Bool:=match o.op with
 |.call c=>match c.callee with
  |.value g=>match E.bC.bU g with
   |some (.fn f)=>E3 Γ (A (.fn f))|some (.clo f _)=>E3 Γ (A (.fn f))|_=>I
  |_=>I
 |_=>I
def A_(Γ:cD U)(o:Oper)(E:bY U)(e:d_ U):Fp:={yt:=pV Γ o E,dP:=dP o E,jM:=e.mem.map (·.1),qZ:=!e.du.isEmpty,eE:=eE o E,fm:=e.du++e.ls.map (·.1)}
def Er(l:List bL)(t:bL):Bool:=match l with|[]=>I|a::r=>if a=t then Y else Er r t
def yL(a b:List bL):Bool:=a.any λx=>Er b x
def Wg(d:Nat)(a:List bL):Bool:=a.all λt=>match t with|.r d' _=>!Nat.beq d' d|_=>Y
def xu(a b:List Name):Bool:=a.any λx=>lW b x
def Tf(ops:Array Oper)(x y:Oper)(a b:Fp):Bool:=x.apart ops y&&y.apart ops x&&!xu a.jM b.dP&&!xu b.jM a.dP&&!xu a.jM b.jM&&!(a.qZ&&zy y)&&!(b.qZ&&zy x)&&!yL a.fm b.eE&&!yL b.fm a.eE&&!yL a.fm b.fm&&Wg (y.dst.getD 0) a.fm&&Wg (x.dst.getD 0) b.fm&&(a.fm.isEmpty||!b.yt)&&(b.fm.isEmpty||!a.yt)
structure fE(Γ:cD U)(o:Oper)(ops:Array Oper)(E st':bY U):Prop where
 n:st'.n=E.n
 env:∀t,t∈o.looksAt ops->st'.env t=E.env t
 mem:∀nm,nm∈dP o E->st'.mem nm=E.mem nm
 aZ:zy o=true->st'.aZ=E.aZ
 mu:st'.mu=E.mu
 vw:st'.vw=E.vw
 ls:∀t,t∈eE o E->st'.ls t=E.ls t
 fr:∀j,st'.ls (.r (o.dst.getD 0) j)=E.ls (.r (o.dst.getD 0) j)all:pV Γ o E=true->st'.ls=E.ls
theorem fE.dW{o ops Γ E st'}(h:fE Γ o ops E st'){x}(s:x∈nv o){v:aA U}(hv:E.bC.bU x=A v){t}(ht:t∈v.dj):st'.ls t=E.ls t:=h.ls t (K7.2 ⟨x,s,by grind⟩)
theorem Zes{E st' d}(h:st'.aZ=E.aZ)(hf:∀j,st'.ls (.r d j)=E.ls (.r d j)):∀(aB:List (bL×LC U)),nj st' d aB=nj E d aB
 |[]=>rfl|(t,x)::aB=>by
  simp only[nj,Zes h hf aB];cases hb:YA d t with|none=>rfl|some t'=>
   have e:∃j,t'=.r d j:=by
    unfold YA at hb;split at hb;.grind
    .grind
    .cases hb
   grind
theorem fE.bU{o ops Γ}{E st':bY U}(h:fE Γ o ops E st'){x}(s:x∈o.op.operands.toList):st'.bU x=E.bU x/\st'.bC.bU x=E.bC.bU x:=by cases x with|tmp t=>have ht:t∈o.looksAt ops:=Xc _ (XZ.2 ⟨.tmp t,s,rfl⟩);have:=h.env t ht;exact⟨by simp[bY.bU,this],by simp[bY.bU,bY.bC,this]⟩|const c=>trivial|global g=>trivial|func f=>trivial
theorem ZEU{E st'}{p:aA U}{ag n}(h:∀nm,nm∈Yj (A p)->st'.mem nm=E.mem nm):rd st' p ag n=rd E p ag n:=by
 cases p<;>simp only[rd];case ptr nm off=>rw[h nm (by simp[Yj])]
 case ap nm off k len i=>rw[h nm (by simp[Yj])]
theorem Z9u{E st'}(hd:st'.aZ=E.aZ)(ps):∀xs(i:Nat)(os:List (Name×List (C U)))s,(∀x,x∈xs->∀nm,nm∈Yj (A x)->st'.mem nm=E.mem nm)->JU st' ps i xs os s=JU E ps i xs os s
 |[],i,os,s,_=>rfl|x::xs,i,os,s,h=>by
  have ih:=λi os s=>Z9u hd ps xs i os s λy hy=>h y (by simp[hy]);simp only[JU,hd,ih];cases hp:zt x with|none=>rfl|some nm=>
   have e:st'.mem nm.1=E.mem nm.1:=by
    refine h x (by simp) nm.1 ?_;cases x<;>simp only[zt,reduceCtorEq]at hp;.cases hp;simp[Yj]
    .split at hp;.grind
     .rename_i aa;cases aa;cases hp;simp[Yj]
     .cases hp
   simp only[e]
theorem L9{l nm}(h:nm∈l):nm∈AY l:=by cases l with|nil=>cases h|cons a l=>exact Xc _ h
theorem ZBE{l k}(h:k<8)(hl:l≠[]):Name.x k∈AY l:=by cases l with|nil=>grind|cons a l=>refine Xo _ ?_;grind
theorem Ri:∀{cs:List (C U)}{s nm},nm∈zg cs s->nm∈s\/∃k,k<8/\nm=.x k
 |[],s,nm,h=>.inl h|c::cs,s,nm,h=>by cases c with
  |xp k=>
   simp only[zg]at h;rcases Ri h with h|h
   .split at h
    .rename_i L;rw[Q9]at L;rcases Qo.1 h with h|h;.exact .inl h
     .exact .inr ⟨k,by simpa using L.1,by simpa using h⟩
    .exact .inl h
   .exact .inr h|_=>exact Ri (by simpa only[zg]using h)
theorem Zn3{E:bY U}:∀{l s nm},nm∈sr E l s->nm∈s\/l≠[]/\∃k,k<8/\nm=.x k
 |[],s,nm,h=>.inl h|a::l,s,nm,h=>by
  simp only[sr]at h;rcases Zn3 h with h|⟨_,h⟩
  .split at h
   .rcases Ri h with h|h;.exact .inl h
    .exact .inr ⟨by simp,h⟩
   .exact .inl h
  .exact .inr ⟨by simp,h⟩
theorem ZhF{E st':bY U}:∀{l s},(∀nm∈l,st'.mem nm=E.mem nm)->sr st' l s=sr E l s|[],s,_=>rfl|a::l,s,h=>by simp only[sr,h a (by simp)];exact ZhF λnm hn=>h nm (by simp[hn])
theorem B1:∀{vs:List (aA U)}{nm},nm∈nX vs->∃x∈vs,nm∈Yj (A x)
 |[],nm,h=>by cases h|v::vs,nm,h=>by
  simp only[nX]at h;split at h
  .rename_i n mk s;rcases Qe.1 h with rfl|h
   .refine⟨v,by simp,?_⟩;cases v<;>simp only[zt,reduceCtorEq]at s;.cases s;simp[Yj]
    .split at s;.grind
     .rename_i aa;cases aa;cases s;simp[Yj]
     .cases s
   .obtain⟨x,h1,h2⟩:=B1 h;grind
  .obtain⟨x,h1,h2⟩:=B1 h;grind
theorem UZ{E:bY U}{ps:Nat->Bool}:∀{xs:List (aA U)}{i}{os:List (Name×List (C U))}{seen:List (bL×bL)}{ys:List (aA U)}{ab:List (Name×List (C U))}{s:List (bL×bL)},JU E ps i xs os seen=A (ys,ab,s)->ab.map (·.1)=os.map (·.1)++nX xs
 |[],i,os,seen,ys,ab,s,h=>by
  simp only[JU,oP]at h;obtain⟨_,rfl,_⟩:=h;simp[nX]|x::xs,i,os,seen,ys,ab,s,h=>by
  simp only[JU]at h;split at h
  .rename_i nm mk hp;split at h;.cases h
   split at h;.cases h
   split at h
   .rename_i aa;simp only[oP]at h;obtain⟨_,rfl,_⟩:=h;have:=UZ aa;simp only[nX,hp];grind
   .cases h
  .rename_i hp;split at h;.cases h
   split at h;.rename_i aa;simp only[oP]at h;obtain⟨_,rfl,_⟩:=h;have:=UZ aa;simp only[nX,hp];exact this
   .cases h
theorem Zta{E}{vs:List (aA U)}{base}(hs:∀x∈vs,∀nm∈Yj (A x),nm∈base):∀x∈vs++pf E vs,∀nm∈Yj (A x),nm∈AY base:=by
 intro x h nm s;rcases Qo.1 h with h|h;.exact L9 (hs x h nm s)
 .unfold pf at h;obtain⟨n,h1,rfl⟩:=QU.1 h;simp only[Yj,Qs]at s;subst s;rcases Zn3 (Xb h1)with h2|⟨h2,k,hk,rfl⟩;.obtain⟨y,h3,h4⟩:=B1 h2;exact L9 (hs y h3 _ h4)
  .refine ZBE hk λe=>?_;cases ha:nX vs with|nil=>exact h2 ha|cons b l=>obtain⟨y,h3,h4⟩:=B1 (show b∈nX vs by rw[ha];simp);grind
theorem Za6{Γ E st' d f vs h}(hd:st'.aZ=E.aZ)(hs:∀x∈vs,∀nm∈Yj (A x),nm∈h)(hm:∀nm∈AY h,st'.mem nm=E.mem nm)(hB:∀aB,nj st' d aB=nj E d aB)(hW:∀s,Γ.fn f=A s->∀dj c,(bif s.wr then mO st'.ls dj c else[])=(bif s.wr then mO E.ls dj c else[]:List (bL×LC U))):pX Γ st' d f vs=pX Γ E d f vs:=by unfold pX;cases hG:Γ.fn f with
 |none=>rfl|some s=>
  have hx:pf st' vs=pf E vs:=by
   unfold pf;rw[ZhF];intro nm hn;obtain⟨x,h1,h2⟩:=B1 hn;exact hm nm (L9 (hs x h1 nm h2))
  have hn:=Zta (E:=E) hs;simp only[hB,hW s hG,hx];rw[Z9u (E:=E) (st':=st') hd _ _ _ _ _ λx aa nm ah=>hm nm (hn x aa nm ah)];cases hp:JU E s.qO 0 (vs++pf E vs) [] []with
  |none=>rfl|some r=>
   obtain⟨ys,os,dj⟩:=r;have e:(os.map λx=>Ax st' os (x.2,x.1))=os.map λx=>Ax E os (x.2,x.1):=by apply Xz;intro x aa;have h1:x.1∈os.map (·.1):=QU.2 ⟨x,aa,rfl⟩;rw[UZ hp]at h1;obtain⟨y,h2,h3⟩:=B1 (show x.1∈nX (vs++pf E vs)by simpa using h1);simp only[Ax,hm _ (hn y h2 _ h3)]
   simp only[e]
theorem W5{E st':bY U}{x}(h:∀y,x=A y->st'.bU y=E.bU y):iH st' x=iH E x:=by cases x with|none=>rfl|some y=>simp only[iH,h y rfl]
theorem CW{α β:Type}{f s:α->Option β}:∀{l:List α},(∀x,x∈l->s x=f x)->l.mapM s=l.mapM f|[],_=>rfl|x::l,h=>by rw[Xq,Xq,h x (by simp),CW λy hy=>h y (by simp[hy])]
theorem ZBq{Γ o ops E st'}(h:fE Γ o ops E st'):xC M Γ o st'.bC=xC M Γ o E.bC:=by
 have ab:=λ{x:Operand}(hx:x∈o.op.operands.toList)=>(h.bU hx).2;have hm:=h.mem;have hd:=h.aZ;have ai:=λ{x:Operand}(hx:x∈nv o){v:aA U}(hv:E.bC.bU x=A v){t:bL}(ht:t∈v.dj)=>h.dW hx hv ht;have ay:=h.mu;have aw:=h.fr;have au:=h.all;obtain⟨af,op,bd,bh,a7,a8⟩:=o;cases op<;>simp only[xC];case move x=>rw[ab (by simp[Op.operands])]
 case assign x=>rw[ab (by simp[Op.operands])]
 case alloc t=>cases af with
  |none=>rfl|some d=>
   have:st'.bC.mem (.bE d)=E.bC.mem (.bE d):=hm (.bE d) (by simp[dP]);cases M.var t with|none=>rfl|some z=>simp only[this]
 case box t x=>cases af with
  |none=>rfl|some d=>have:st'.bC.mem (.bE d)=E.bC.mem (.bE d):=hm (.bE d) (by simp[dP]);rw[ab (x:=x) (by simp[Op.operands])];cases M.var t with|none=>rfl|some z=>cases(E.bC.bU x).bind aA.cells with
    |none=>rfl|some cs=>simp only[this]
 case build t parts=>
  rw[CW (f:=λx=>((E.bC.bU x.2).bind aA.cells).map (x.1,·))];intro x hx;rw[ab (by simp only[Op.operands];simp;exact⟨x.1,by simpa using hx⟩)]
 case buildSlice t n parts=>
  rw[CW (f:=λx=>(E.bC.bU x.2).map (x.1,·)) (by intro x hx;rw[ab (by simp only[Op.operands];simp;exact⟨x.1,by simpa using hx⟩)])];have ak:st'.bC.mu=E.bC.mu:=ay;cases L:FW parts.toList with
  |false=>simp only[Bool.and_false,Xi]|true=>
   have e1:st'.bC.aZ=E.bC.aZ:=hd L;cases af with
   |none=>simp only[Gt,ak]|some d=>have e2:st'.bC.ls (.r d 0)=E.bC.ls (.r d 0):=aw 0;simp only[Gt,ak,e1,e2]
 case load t p=>rw[ab (by simp[Op.operands])];cases M.var t with|none=>rfl|some z=>cases hp:E.bC.bU p with
   |none=>rfl|some v=>
    have:rd st'.bC v z.1 (J z.2)=rd E.bC v z.1 (J z.2):=ZEU λnm ah=>hm nm (by simp only[dP];rw[hp];exact ah);cases v<;>first|(simp only[this];done)|skip
    case c c=>cases c<;>first|rfl|(simp only[this];done)
    case mp u n off=>
     have:st'.bC.ls u=E.bC.ls u:=ai (x:=p) (by simp[nv]) hp (by simp[aA.dj]);simp only[this]
 case store t p x=>
  rw[ab (x:=p) (by simp[Op.operands]),ab (x:=x) (by simp[Op.operands])];cases M.var t with
  |none=>rfl|some z=>cases hp:E.bC.bU p with
   |none=>rfl|some v=>
    cases v<;>try rfl
    case mp u n off=>
     have:st'.bC.ls u=E.bC.ls u:=ai (x:=p) (by simp[nv]) hp (by simp[aA.dj]);cases(E.bC.bU x).bind aA.cells with
     |none=>rfl|some cs=>simp only[this]
    case ptr nm off=>
     have:st'.bC.mem nm=E.bC.mem nm:=hm nm (by simp only[dP];rw[hp];simp[Yj]);cases(E.bC.bU x).bind aA.cells with
     |none=>rfl|some cs=>simp only[this]
    case ap nm off k len n=>
     have:st'.bC.mem nm=E.bC.mem nm:=hm nm (by simp only[dP];rw[hp];simp[Yj]);cases(E.bC.bU x).bind aA.cells with
     |none=>rfl|some cs=>match cs with
      |[]=>rfl|[c]=>cases c<;>first|rfl|simp only[this]
      |c::_::_=>cases c<;>rfl
 case nilCheck x=>
  rw[ab (by simp[Op.operands])];cases hp:E.bC.bU x with|none=>rfl|some v=>
   cases v<;>try rfl
   case c c=>cases c<;>rfl
   case mp u n off=>have:st'.bC.ls u=E.bC.ls u:=ai (x:=x) (by simp[nv]) hp (by simp[aA.dj]);simp only[this]
 case binOp bop t x y t'=>rw[ab (x:=x) (by simp[Op.operands]),ab (x:=y) (by simp[Op.operands])]
 case unOp uop t x=>rw[ab (by simp[Op.operands])]
 case convert src dst' x=>rw[ab (by simp[Op.operands])]
 case slice t x lo hi mx=>rw[ab (x:=x) (by simp[Op.operands]),W5 (x:=lo) λy hy=>ab (by simp[Op.operands,hy]),W5 (x:=hi) λy hy=>ab (by simp[Op.operands,hy]),W5 (x:=mx) λy hy=>ab (by simp[Op.operands,hy])];cases hp:E.bC.bU x with|none=>rfl|some v=>
   cases v;case ptr nm off=>
    have:st'.bC.mem nm=E.bC.mem nm:=hm nm (by simp only[dP];rw[hp];simp[Yj]);cases iH E.bC lo with|none=>rfl|some a=>cases iH E.bC hi with
     |none=>cases a<;>rfl|some b=>cases iH E.bC mx with
      |none=>cases a<;>cases b<;>rfl|some c=>cases a<;>cases b<;>cases c<;>first|rfl|simp only[this]
   case c c=>
    have a9:st'.bC.vw=E.bC.vw:=h.vw;cases c;case mref u=>
     have:st'.bC.ls u=E.bC.ls u:=ai (x:=x) (by simp[nv]) hp (by simp[aA.dj]);rcases iH E.bC lo with _|_|v;case some.some=>
      cases v;case c c=>cases c<;>rcases iH E.bC hi with _|_|_<;>rcases iH E.bC mx with _|_|_<;>first|rfl|simp only[this,a9]
      all_goals(cases iH E.bC hi<;>cases iH E.bC mx<;>rfl)
     all_goals(cases iH E.bC hi<;>cases iH E.bC mx<;>rfl)
    all_goals(cases iH E.bC lo<;>cases iH E.bC hi<;>cases iH E.bC mx<;>rfl)
   all_goals(cases iH E.bC lo<;>cases iH E.bC hi<;>cases iH E.bC mx<;>rfl)
 case fieldAddr t x f=>
  rw[ab (by simp[Op.operands])];cases hp:E.bC.bU x with
  |none=>rfl|some v=>cases M.f_ t f with
   |none=>cases v with
    |c c=>cases c<;>rfl|_=>rfl
   |some z=>
    cases v<;>try rfl
    case c c=>cases c<;>rfl
    case mp u n off=>have:st'.bC.ls u=E.bC.ls u:=ai (x:=x) (by simp[nv]) hp (by simp[aA.dj]);simp only[this]
 case makeFunc f first caps=>rw[CW (f:=λx=>(E.bC.bU x).bind zL)];intro x hx;rw[ab (by simp only[Op.operands];simp;right;simpa using hx)]
 case indexAddr t x i=>rw[ab (x:=x) (by simp[Op.operands]),ab (x:=i) (by simp[Op.operands])];cases hp:E.bC.bU x with|none=>rfl|some v=>cases hi:E.bC.bU i with
   |none=>cases v<;>first|rfl|(rename_i y;cases y<;>rfl)
   |some vi=>
    cases vi<;>first|(cases v<;>first|(rfl;done)|(rename_i y;cases y<;>(rfl;done));done)|skip
    case c z=>
     cases z<;>first|(cases v<;>first|(rfl;done)|(rename_i y;cases y<;>(rfl;done));done)|skip
     case int k n=>
      cases v<;>first|(rfl;done)|skip
      case c y=>
       cases y<;>first|(rfl;done)|skip
       case mref u=>have:st'.bC.ls u=E.bC.ls u:=ai (x:=x) (by simp[nv]) hp (by simp[aA.dj]);simp only[this]
 case extract x i=>rw[ab (by simp[Op.operands])]
 case call c=>
  unfold VY;cases L:c.callee with
  |builtin b=>
   simp only;have hx:∀x∈c.args.toList,st'.bC.bU x=E.bC.bU x:=λx hx=>ab (by simp[Op.operands,Call.operands,L];simpa using hx);unfold TJ;split;.rename_i x t aa a2;rw[hx x (by rw[aa];simp)];cases hp:E.bC.bU x with|none=>rfl|some v=>
     have:lenOf M st'.bC t v=lenOf M E.bC t v:=by
      cases v<;>try rfl
      case c y=>
       cases y<;>try rfl
       case mref u=>have:st'.bC.ls u=E.bC.ls u:=ai (x:=x) (by simp only[nv,L];rw[aa];simp) hp (by simp[aA.dj]);simp only[lenOf,this]
     simp only[this]
   .rename_i x y t t' aa a2;rw[hx x (by rw[aa];simp),hx y (by rw[aa];simp)];have aj:st'.aZ=E.aZ:=hd (by simp only[zy,L]);have:∀d t x y,BO M st'.bC d t x y=BO M E.bC d t x y:=λd t x y=>by simp only[BO,bY.bC,aj]
    have ak:st'.bC.mu=E.bC.mu:=ay;cases af with|none=>rfl|some d=>cases hp:E.bC.bU x with
     |none=>rfl|some v=>
      cases v<;>try rfl
      case c cx=>
       have hM:∀t y,Ad M st'.bC d t cx y=Ad M E.bC d t cx y:=by
        intro t y;have e1:st'.bC.aZ=E.bC.aZ:=aj;have e2:st'.bC.ls (.r d 0)=E.bC.ls (.r d 0):=aw 0;have e3:∀T,zh M st'.bC T cx=zh M E.bC T cx:=by
         intro T;cases cx<;>simp only[zh,e1];case mref u=>have:st'.bC.ls u=E.bC.ls u:=ai (x:=x) (by simp only[nv,L];rw[aa];simp) hp (by simp[aA.dj]);simp only[this]
        simp only[Ad,e1,e2,e3]
       cases hq:E.bC.bU y with|none=>rfl|some vy=>cases vy<;>first|(rfl;done)|(simp only[this,hM,ak])
   .rename_i x t aa a2;rw[hx x (by rw[aa];simp)];cases hp:E.bC.bU x with
    |none=>rfl|some v=>
     cases v<;>try rfl
     case vw u n=>have:st'.bC.ls u=E.bC.ls u:=ai (x:=x) (by simp only[nv,L];rw[aa];simp) hp (by simp[aA.dj]);simp only[Nx,this]
   .rename_i x y aa;rw[hx x (by rw[aa];simp),hx y (by rw[aa];simp)]
   .rename_i x y aa;rw[hx x (by rw[aa];simp),hx y (by rw[aa];simp)]
   .try rfl|value gx=>
   simp only;have aj:st'.aZ=E.aZ:=hd (by simp only[zy,L]);have hx:∀x∈c.args.toList,st'.bC.bU x=E.bC.bU x:=λx hx=>ab (by simp[Op.operands,Call.operands,L];right;simpa using hx);rw[ab (x:=gx) (by simp[Op.operands,Call.operands,L]),CW (f:=E.bC.bU) hx];cases hg:E.bC.bU gx with
   |none=>rfl|some v=>
    have aq:∀(vs:List (aA U)),c.args.toList.mapM E.bC.bU=A vs->∀x∈vs,∀nm∈Yj (A x),nm∈Yj (A v)++c.args.toList.flatMap λx=>Yj (E.bC.bU x):=by
     intro vs hv x a6 nm ah;obtain⟨j,hj,rfl⟩:=XX a6;have be:=mapM_len hv;have a1:j<J c.args.toList:=O;obtain⟨y,h1,h2⟩:=Cw hv j _ (Q8 a1);rw[Q8 hj]at h1;cases h1;exact Xo _ (K7.2 ⟨_,List.getElem_mem a1,by rw[h2];exact ah⟩)
    have am:∀nm∈AY (Yj (A v)++c.args.toList.flatMap λx=>Yj (E.bC.bU x)),st'.bC.mem nm=E.bC.mem nm:=by intro nm ah;refine hm nm ?_;simp only[dP,L,hg];exact Q4 _ ah
    have hB:∀aB,nj st'.bC (af.getD 0) aB=nj E.bC (af.getD 0) aB:=Zes (E:=E.bC) (st':=st'.bC) aj aw;have hW:∀f',(v=.fn f'\/∃ao,v=.clo f' ao)->∀s,Γ.fn f'=A s->∀dj c,(bif s.wr then mO st'.bC.ls dj c else[])=(bif s.wr then mO E.bC.ls dj c else[]:List (bL×LC U)):=by
     intro f' hv s hG dj c';cases hw:s.wr with
     |false=>rfl|true=>have:st'.ls=E.ls:=au (by rcases hv with rfl|⟨ao,rfl⟩<;>simp only[pV,L,hg,E3,hG,hw,Bool.true_or]);simp only[XE,bY.bC,this]
    cases v<;>try rfl
    case fn f=>cases hv:c.args.toList.mapM E.bC.bU with|none=>rfl|some vs=>
      simp only;cases hb:T8 Γ f with
      |false=>cases hmk:ZO4 Γ f with
       |false=>simp only[Xi];exact Za6 aj (aq vs hv) am hB (hW f (.inl rfl))|true=>
        have:st'.bC.mem (.bE (af.getD 0))=E.bC.mem (.bE (af.getD 0)):=hm _ (by simp[dP,L]);have e:Aq st'.bC vs=Aq E.bC vs:=by
         unfold Aq;split;.rename_i nm;rw[am nm (L9 (aq _ hv _ Q6 nm (by simp[Yj])))]
         .try rfl
        simp only[XE,Xi,zu,this,e];have ba:pX Γ st'.bC (af.getD 0) f vs=pX Γ E.bC (af.getD 0) f vs:=Za6 aj (aq vs hv) am hB (hW f (.inl rfl));rw[ba]
      |true=>
       have:st'.ls=E.ls:=au (by
        unfold T8 at hb;split at hb;.rename_i s hG;simp only[pV,L,hg,E3,hG,hb,XC]
        .cases hb);have e:aA.eO st'.bC=aA.eO E.bC:=by
        have e2:C.eO st'.bC=C.eO E.bC:=by funext c;cases c<;>simp only[C.eO,bY.bC,this]
        funext v;cases v<;>simp only[aA.eO,e2]
       simp only[XE,zv,e]
    case clo f ao=>cases hv:c.args.toList.mapM E.bC.bU with
     |none=>rfl|some vs=>
      refine Za6 aj (λx hx nm ah=>?_) am hB (hW f (.inr ⟨ao,rfl⟩));rcases Qo.1 hx with hx|hx;.exact aq vs hv x hx nm ah
      .obtain⟨bi,h1,rfl⟩:=QU.1 hx;simp only[Yj,Qs]at ah;subst ah;exact Xc _ (by simpa[Yj]using h1)
  |invoke r m=>rfl where
 mapM_len{f:Operand->Option (aA U)}:∀{xs:List Operand}{vs:List (aA U)},xs.mapM f=A vs->J xs=J vs:=by intro xs;induction xs with|nil=>intro vs h;simp at h;subst h;rfl|cons y xs ih=>intro vs h;rw[Xq]at h;cases h1:f y with|none=>simp[h1]at h|some v=>cases h2:xs.mapM f with|none=>simp[h1,h2]at h|some r=>simp[h1,h2]at h;subst h;simp[ih h2]
theorem Zfd{E st':bY U}{aG}:∀{l},(∀t,Operand.tmp t∈l->st'.env t=E.env t)->mF st' aG l=mF E aG l|[],_=>rfl|x::l,h=>by have s:=Zfd (l:=l) (aG:=aG) λt ht=>h t (by simp[ht]);cases x with|tmp t=>simp only[mF,h t (by simp),s]|_=>trivial
theorem ZhK{dE aG m0 s}:∀{m:List (Name×List (C U))},(∀x∈m,s x.1=m0 x.1)->js dE aG s m=js dE aG m0 m|[],_=>rfl|(nm,cs)::r,h=>by simp only[js,h (nm,cs) (by simp),ZhK (m:=r) λx hx=>h x (by simp[hx])]
theorem UU{l nm}:lW l nm=Y↔nm∈l:=by refine⟨?_,OW⟩;induction l with|nil=>intro h;cases h|cons x l ih=>intro h;simp only[lW]at h;grind
theorem Sp{o:Oper}{ops}{E st':bY U}(h:∀t,t∈o.looksAt ops->st'.env t=E.env t):dP o st'=dP o E:=by
 have s:∀{x:Operand},x∈o.op.operands.toList->st'.bC.bU x=E.bC.bU x:=by
  intro x hx;cases x with
  |tmp t=>simp[bY.bU,bY.bC,h t (Xc _ (XZ.2 ⟨.tmp t,hx,rfl⟩))]|_=>rfl
 obtain⟨ai,op,af,aj,aa,ae⟩:=o;cases op<;>simp only[dP];case load t p=>rw[s (by simp[Op.operands])]
 case store t p x=>rw[s (by simp[Op.operands])]
 case slice t x lo hi mx=>rw[s (by simp[Op.operands])]
 case call c=>
  have:∀(l:List Operand),(∀x∈l,x∈c.args.toList)->(l.flatMap λx=>Yj (st'.bC.bU x))=l.flatMap λx=>Yj (E.bC.bU x):=by
   intro l;induction l with
   |nil=>intro _;rfl|cons x l ih=>intro hl;rw[XH,XH,ih λy hy=>hl y (by simp[hy]),s (by have:=hl x (by simp);cases L:c.callee<;>simp[Op.operands,Call.operands,L]<;>first|(right;simpa using this)|simpa using this)]
  rw[this _ λx hx=>hx];cases L:c.callee with|value gx=>simp only[s (x:=gx) (by simp[Op.operands,Call.operands,L])]|builtin b=>rfl|invoke r m=>rfl
theorem ZuD{o x}(h:x∈nv o):x∈o.op.operands.toList:=by
 obtain⟨ae,op,ab,af,s,aa⟩:=o;cases op<;>simp only[nv]at h<;>(try(cases h;done));case load t p=>trivial
 case store t p x=>simp only[Qs]at h;subst h;simp[Op.operands]
 case nilCheck x=>trivial
 case fieldAddr t x f=>trivial
 case indexAddr t x i=>simp only[Qs]at h;subst h;simp[Op.operands]
 case slice t x lo hi mx=>simp only[Qs]at h;subst h;simp[Op.operands]
 case call c=>cases L:c.callee<;>rw[L]at h<;>(try(cases h;done));simp only at h;simp only[Op.operands,Call.operands,L];simpa using h
theorem Zdo{o:Oper}{ops}{E st':bY U}(h:∀t,t∈o.looksAt ops->st'.env t=E.env t):eE o st'=eE o E:=by
 have s:∀{x:Operand},x∈o.op.operands.toList->st'.bC.bU x=E.bC.bU x:=by
  intro x hx;cases x with
  |tmp t=>simp[bY.bU,bY.bC,h t (Xc _ (XZ.2 ⟨.tmp t,hx,rfl⟩))]|_=>rfl
 unfold eE;have:∀(l:List Operand),(∀x∈l,x∈nv o)->(l.flatMap λx=>(st'.bC.bU x).toList.flatMap aA.dj)=l.flatMap λx=>(E.bC.bU x).toList.flatMap aA.dj:=by intro l;induction l with|nil=>intro _;rfl|cons x l ih=>intro hl;rw[XH,XH,ih λy hy=>hl y (by simp[hy]),s (ZuD (hl x (by simp)))]
 grind
theorem Zcl{Γ}{o:Oper}{ops}{E st':bY U}(h:∀t,t∈o.looksAt ops->st'.env t=E.env t):pV Γ o st'=pV Γ o E:=by
 obtain⟨ae,op,ab,af,s,aa⟩:=o;cases op<;>try rfl
 case call c=>
  simp only[pV];cases L:c.callee<;>try rfl
  case value g=>
   have:st'.bC.bU g=E.bC.bU g:=by cases g with
    |tmp t=>simp[bY.bU,bY.bC,h t (Xc _ (XZ.2 ⟨.tmp t,by simp[Op.operands,Call.operands,L],rfl⟩))]|_=>rfl
   grind
theorem ZhV{Γ o ops E st'}(h:fE Γ o ops E st'):pN M Γ ops o st'=pN M Γ ops o E:=by
 have s:=λ{x:Operand}(hx:x∈o.op.operands.toList)=>(h.bU hx).1;have hG:xR ops st' o=xR ops E o:=by
  unfold xR;cases hg:o.guard with
  |none=>rfl|some jw=>
   obtain⟨j,ae⟩:=jw;simp only;cases ht:(ops[j]?).bind (·.dst)with|none=>rfl|some t=>have:st'.env t=E.env t:=h.env t (Xo _ (by simp[hg,ht]));grind
 have hN:∀aG,mF st' aG o.op.operands.toList=mF E aG o.op.operands.toList:=λaG=>Zfd λt ht=>h.env t (Xc _ (XZ.2 ⟨.tmp t,ht,rfl⟩));unfold pN;rw[h.n];split
 .split;.rename_i c x y L;rw[hG,s (x:=c) (by simp[L,Op.operands]),s (x:=x) (by simp[L,Op.operands]),s (x:=y) (by simp[L,Op.operands])]
  .have ht:=Sp (E:=E) (st':=st') h.env;rw[hG];simp only[ZBq h,hN,ht];split;.try rfl
   .rename_i aG ah;cases he:xC M Γ o E.bC with|none=>rfl|some r=>obtain⟨ps,e⟩:=r;cases aG with|none=>rfl|some Gb=>obtain⟨v,m,k,l⟩:=e;cases v with|none=>rfl|some v=>cases k with|cons _ _=>grind|nil=>cases l with|cons _ _=>grind|nil=>cases m with|nil=>rfl|cons x r=>simp only;cases hall:(x::r).all λx=>lW (dP o E) x.1 with|false=>rfl|true=>have hj:js M.dE Gb st'.mem (x::r)=js M.dE Gb E.mem (x::r):=ZhK λy hy=>h.mem _ (UU.1 (by grind));rw[hj]
 .try rfl
theorem Mo{m0:Name->Option (List (C U))}{m:List (Name×List (C U))}{nm}(h:lW (m.map (·.1)) nm=I):Yo m0 m nm=m0 nm:=by induction m with
 |nil=>rfl|cons x m ih=>
  obtain⟨b,cs⟩:=x;simp only[Qu,lW]at h;split at h;.cases h
  .rename_i e;simp only[Yo];grind
theorem ZkO{x y}(h:xu x y=I):∀nm,nm∈x->lW y nm=I:=by intro nm s;unfold xu at h;grind
theorem ZzS{l t}:Er l t=Y↔t∈l:=by induction l with|nil=>simp[Er]|cons x l ih=>simp only[Er,Qe];grind
theorem Zhs{x y}(h:yL x y=I):∀t,t∈x->t∉y:=by intro t ht s;unfold yL at h;rw[List.any_eq_false]at h;have:=h t ht;rw[ZzS.2 s]at this;simp at this
theorem ZAK{m:bL->Option (LC U)}{l:List (bL×LC U)}{t}(h:t∉l.map (·.1)):ZU m l t=m t:=by induction l with|nil=>rfl|cons x l ih=>obtain⟨b,y⟩:=x;simp only[Qu,Qe,not_or]at h;simp only[ZU];grind
theorem B9{m:bL->Option (LC U)}{e:d_ U}{t}(h:t∉e.du++e.ls.map (·.1)):gI m e t=m t:=by
 simp only[Qo,not_or]at h;unfold gI;have:e.du.contains t=I:=by cases hk:e.du.contains t with|false=>rfl|true=>exact absurd (by simpa using hk) h.1
 rw[this,Xi,ZAK h.2]
theorem Znz{Γ:cD U}{ops:Array Oper}{x y:Oper}{E:bY U}{e:d_ U}(s:x.apart ops y=Y)(h:xu (e.mem.map (·.1)) (dP y E)=I)(hk:(!e.du.isEmpty&&zy y)=I)(ht:yL (e.du++e.ls.map (·.1)) (eE y E)=I)(hr:Wg (y.dst.getD 0) (e.du++e.ls.map (·.1))=Y)(ha:((e.du++e.ls.map (·.1)).isEmpty||!pV Γ y E)=Y):fE Γ y ops E (E.dw x.dst e):=by
 obtain⟨h1,_,_⟩:=Oper.apart_spec s;refine⟨?_,?_,?_,?_,by cases x.dst<;>rfl,by cases x.dst<;>rfl,λt af=>B9 λh=>Zhs ht t h af,λj=>B9 λh=>?_,λL=>?_⟩;.cases x.dst<;>rfl
 .intro t ht;cases hd:x.dst with|none=>rfl|some d=>
   have ak:t≠d:=λe=>h1 d hd (e▸ht);have:Nat.beq t d=I:=by cases hb:Nat.beq t d with|false=>rfl|true=>simp_all
   simp[bY.dw,bY.put,this]
 .intro nm hn;have:lW (e.mem.map (·.1)) nm=I:=by cases hb:lW (e.mem.map (·.1)) nm with
   |false=>rfl|true=>have:=ZkO h nm (UU.1 hb);rw[OW hn]at this;cases this
  exact Mo this
 .intro hr;simp only[hr,Bool.and_true,K2]at hk;have:e.du=[]:=by simpa using hk
  simp[bY.dw,this]
 .have:=QZ.1 hr _ h;simp at this
 .rw[L]at ha;simp only[XR,QV,List.isEmpty_iff]at ha;funext t;exact B9 (by rw[ha];simp)
theorem ZHF{ops:Array Oper}{x y:Oper}{E:bY U}{e f:d_ U}(au:x.apart ops y=Y)(hm:xu (e.mem.map (·.1)) (f.mem.map (·.1))=I)(hl:yL (e.du++e.ls.map (·.1)) (f.du++f.ls.map (·.1))=I):(E.dw x.dst e).dw y.dst f=(E.dw y.dst f).dw x.dst e:=by
 obtain⟨_,h2,_⟩:=Oper.apart_spec au;have aj:∀(s:bY U)(v u:aA U),(s.put x.dst v).put y.dst u=(s.put y.dst u).put x.dst v:=by
  intro s v u;cases hx:x.dst with
  |none=>rfl|some d=>cases hy:y.dst with|none=>rfl|some d'=>
    have aa:d≠d':=λe=>h2 d hx (by rw[hy,e]);simp only[bY.put];congr 1;funext j;cases h1:Nat.beq j d with|false=>rfl|true=>cases h3:Nat.beq j d' with|false=>rfl|true=>exact absurd ((Qt h1).symm.trans (Qt h3)) aa
 have ak:Yo (Yo E.mem e.mem) f.mem=Yo (Yo E.mem f.mem) e.mem:=by funext nm;cases h1:lW (e.mem.map (·.1)) nm with
  |false=>
   rw[Mo (m:=e.mem) (m0:=Yo E.mem f.mem) h1];rcases JX E.mem f.mem nm with⟨k,cs,h3,h4⟩|⟨h3,h4⟩
   .rcases JX (Yo E.mem e.mem) f.mem nm with⟨k',cs',h5,h6⟩|⟨h5,h6⟩
    .have:∀(m0 m1:Name->Option (List (C U)))(l:List (Name×List (C U))),(∃x,x∈l/\x.1=nm)->Yo m0 l nm=Yo m1 l nm:=by
      intro m0 m1 l;induction l with
      |nil=>rintro⟨x,hx,_⟩;simp at hx|cons z l ih=>
       rintro⟨x,hx,aq⟩;obtain⟨b,cs⟩:=z;simp only[Yo];split;.try rfl
       .rename_i aa;rcases Qe.1 hx with rfl|hx;.exact absurd aq.symm aa
        .exact ih ⟨x,hx,aq⟩
     exact this _ _ _ ⟨_,Xf h3,rfl⟩
    .exact absurd rfl (h5 k _ h3)
   .rcases JX (Yo E.mem e.mem) f.mem nm with⟨k',cs',h5,h6⟩|⟨h5,h6⟩;.exact absurd rfl (h3 k' _ h5)
    .rw[h6,h4,Mo h1]|true=>
   have ax:lW (f.mem.map (·.1)) nm=I:=ZkO hm nm (UU.1 h1);rw[Mo (m:=f.mem) (m0:=Yo E.mem e.mem) ax];have:∀(m0 m1:Name->Option (List (C U)))(l:List (Name×List (C U))),lW (l.map (·.1)) nm=Y->Yo m0 l nm=Yo m1 l nm:=by
    intro m0 m1 l;induction l with
    |nil=>intro h;cases h|cons z l ih=>
     obtain⟨b,cs⟩:=z;intro h;simp only[Qu,lW]at h;simp only[Yo];split;.try rfl
     .rename_i aa;rw[Q0 λe=>aa e.symm]at h;exact ih h
   exact this _ _ _ h1
 have ai:(λt=>E.aZ t||e.du.contains t||f.du.contains t)=λt=>E.aZ t||f.du.contains t||e.du.contains t:=by funext t;cases E.aZ t<;>cases e.du.contains t<;>cases f.du.contains t<;>rfl
 have hn:∀(s:bY U)d v,(s.put d v).n=s.n/\(s.put d v).mem=s.mem/\(s.put d v).aZ=s.aZ:=by intro s d v;cases d<;>exact⟨rfl,rfl,rfl⟩
 have ao:(( E.put x.dst (e.val.getD .cY)).put y.dst (f.val.getD .cY)).env=((E.put y.dst (f.val.getD .cY)).put x.dst (e.val.getD .cY)).env:=by rw[aj]
 have al:∀(s s':bY U)d v,s.env=s'.env->(s.put d v).env=(s'.put d v).env:=by intro s s' d v he;cases d<;>simp[bY.put,he]
 have av:gI (gI E.ls e) f=gI (gI E.ls f) e:=by
  funext t;by_cases h1:t∈e.du++e.ls.map (·.1)
  .have h2:=Zhs hl t h1;rw[B9 h2];unfold gI;cases he:e.du.contains t with|true=>rfl|false=>
    simp only[Xi];have h3:t∈e.ls.map (·.1):=by
     rcases Qo.1 h1 with h|h
     .have:e.du.contains t=Y:=by simpa using h
      rw[he]at this;cases this
     .exact h
    have:∀(m0 m1:bL->Option (LC U))(l:List (bL×LC U)),t∈l.map (·.1)->ZU m0 l t=ZU m1 l t:=by
     intro m0 m1 l;induction l with
     |nil=>intro h;cases h|cons z l ih=>
      obtain⟨b,y⟩:=z;intro h;simp only[ZU];split;.try rfl
      .rename_i aa;simp only[Qu,Qe]at h;exact ih (h.resolve_left aa)
    exact this _ _ _ h3
  .rw[B9 (m:=gI E.ls f) h1];have:∀(m0 m1:bL->Option (LC U))(l:List (bL×LC U)),m0 t=m1 t->ZU m0 l t=ZU m1 l t:=by intro m0 m1 l he;induction l with|nil=>exact he|cons z l ih=>
     obtain⟨b,y⟩:=z;simp only[ZU];split;.try rfl
     .exact ih
   have h3:gI E.ls e t=E.ls t:=B9 h1;unfold gI at h3⊢;cases hf:f.du.contains t with|true=>rfl|false=>simp only[Xi];exact this _ _ _ h3
 have ext:∀{s s':bY U},s.n=s'.n->s.env=s'.env->s.mem=s'.mem->s.aZ=s'.aZ->s.ls=s'.ls->s.mu=s'.mu->s.vw=s'.vw->s=s':=by intro s s' h1 h2 h3 h4;cases s;cases s';simp_all
 refine ext ?_ ?_ ?_ ?_ av ?_ (by cases x.dst<;>cases y.dst<;>rfl);.cases x.dst<;>cases y.dst<;>rfl
 .show((E.dw x.dst e).put y.dst _).env=((E.dw y.dst f).put x.dst _).env;rw[al (E.dw x.dst e) (E.put x.dst (e.val.getD .cY)) y.dst _ rfl,ao,al (E.dw y.dst f) (E.put y.dst (f.val.getD .cY)) x.dst _ rfl]
 .show Yo (E.dw x.dst e).mem f.mem=Yo (E.dw y.dst f).mem e.mem;exact ak
 .exact ai
 .cases x.dst<;>cases y.dst<;>rfl
end Go.AM
namespace Go.AM
variable{U:gP}{P:Program}{M:cW U}{B:fN}{g:Gh}{a:Act}{w:World}{Γ:cD U}{ops:Array Oper}
def LZ(M:cW U)(Γ:cD U)(ops:Array Oper):List Oper->bY U->Option (List Fp)|[],_=>A []|o::r,E=>match pN M Γ ops o E with|none=>aT|some (_,e)=>match LZ M Γ ops r (E.dw o.dst e)with|none=>aT|some l=>A (A_ Γ o E e::l)
def C0(ops:List Oper):Nat->Nat->Nat->Bool|0,_,_=>I|n+1,k,h=>match ops[h]? with|none=>I|some o=>o.after.toList.any λe=>Region.binds .any e&&(Nat.beq e.on k||Nat.blt k e.on&&C0 ops n k e.on)
def Gv:Nat->List Oper->Bool|_,[]=>Y|i,o::r=>(o.after.toList.all λe=>!Region.binds .any e||Nat.blt e.on i)&&Gv (i+1) r
def ZFv(ops:Array Oper)(fps:List Fp)(k h:Nat):Bool:=C0 ops.toList 5 k h||match ops.toList[k]?,ops.toList[h]?,fps[k]?,fps[h]? with|some x,A y,A a,A b=>Tf ops x y a b|_,_,_,_=>I
def Zyl(ops:Array Oper)(fps:List Fp):Bool:=(List.range (J ops.toList)).all λh=>(List.range h).all λk=>ZFv ops fps k h
def lr(M:cW U)(Γ:cD U)(ops:Array Oper)(E:bY U):Bool:=match LZ M Γ ops ops.toList E with|some fps=>Gv 0 ops.toList&&Zyl ops fps|none=>I
inductive dh(M:cW U)(Γ:cD U)(ops:Array Oper)(fp:Nat->Option Fp):List Nat->bY U->bY U->Prop|nil(E):dh M Γ ops fp [] E E|cons(i l E st' o ps e):ops[i]?=some o->pN M Γ ops o E=some (ps,e)->eU ps->fp i=some (A_ Γ o E e)->dh M Γ ops fp l (E.dw o.dst e) st'->dh M Γ ops fp (i::l) E st'
theorem ZgZ{fps:List Fp}:∀l(k:Nat)E st'(ps:List Prop)fl,(∀j,l[j]?=ops[k+j]?)->(∀j,fl[j]?=fps[k+j]?)->qM M Γ ops I l E=A (ps,st')->eU ps->LZ M Γ ops l E=A fl->dh M Γ ops (λi=>fps[i]?) (List.range' k (J l)) E st'
 |[],k,E,st',ps,fl,_,_,h,_,_=>by
  simp only[qM,oP]at h;obtain⟨_,rfl⟩:=h;exact .nil E|o::l,k,E,st',ps,fl,hl,hf,h,hps,hfl=>by
  rw[VB]at h;simp only[ZQh]at h;simp only[LZ]at hfl;split at h;.cases h
  .rename_i ab e1 h1;rw[h1]at hfl;simp only at hfl;split at h;.cases h
   .rename_i qs ak h2;split at hfl;.cases hfl
    .rename_i ah s;simp only[oP]at h hfl;obtain⟨rfl,rfl⟩:=h;subst hfl;obtain⟨af,ae⟩:=eU.append hps;rw[Qd,List.range'_succ];refine .cons k _ E _ o ab e1 ?_ h1 af ?_ ?_;.have:=hl 0;grind
     .have:=hf 0;grind
     .exact ZgZ l (k+1) _ _ qs ah λj=>by have:=hl (j+1);grind λj=>by have:=hf (j+1);grind h2 ae s
def SU(ops:Array Oper)(fp:Nat->Option Fp)(k h:Nat):Prop:=∃x y p q,ops[k]?=A x/\ops[h]?=A y/\fp k=A p/\fp h=A q/\Tf ops x y p q=Y
theorem ZU4{fp h post}:∀c_(E st':bY U),dh M Γ ops fp (c_++h::post) E st'->(∀k∈c_,SU ops fp k h)->∃o ps e,ops[h]?=A o/\pN M Γ ops o E=A (ps,e)/\eU ps/\fp h=A (A_ Γ o E e)/\dh M Γ ops fp (c_++post) (E.dw o.dst e) st'
 |[],E,st',hr,_=>by cases hr with|cons _ _ _ _ o ps e h1 h2 h3 h4 h5=>grind
 |k::c_,E,st',hr,hf=>by cases hr with|cons _ _ _ _ x ps e h1 h2 h3 h4 h5=>
   obtain⟨y,qs,f,h6,h7,h8,h9,ak⟩:=ZU4 c_ _ st' h5 λj hj=>hf j (by simp[hj]);obtain⟨x',y',p,q,g1,g2,g3,g4,g5⟩:=hf k (by simp);rw[h1]at g1;rw[h6]at g2;rw[h4]at g3;rw[h9]at g4;cases g1;cases g2;cases g3;cases g4;simp only[Tf,Q9,Xs]at g5;obtain⟨⟨⟨⟨⟨⟨⟨⟨⟨⟨⟨⟨⟨a1,a2⟩,a3⟩,a4⟩,a5⟩,a6⟩,a7⟩,b3⟩,b4⟩,b5⟩,b6⟩,b7⟩,b8⟩,b9⟩:=g5;simp only[A_]at a3 a4 a5 a6 a7 b3 b4 b5 b6 b7 b8 b9;have ty:dP y (E.dw x.dst e)=dP y E:=by
    refine Sp (ops:=ops) λt ht=>?_;obtain⟨b1,_,_⟩:=Oper.apart_spec a1;cases hd:x.dst with
    |none=>rfl|some d=>
     have s:t≠d:=λe=>b1 d hd (e▸ht);have:Nat.beq t d=I:=by cases hb:Nat.beq t d with|false=>rfl|true=>exact absurd (Qt hb) s
     simp[bY.dw,bY.put,this]
   rw[ty]at a3;have ah:eE y (E.dw x.dst e)=eE y E:=by
    refine Zdo (ops:=ops) λt ht=>?_;obtain⟨b1,_,_⟩:=Oper.apart_spec a1;cases hd:x.dst with
    |none=>rfl|some d=>
     have s:t≠d:=λe=>b1 d hd (e▸ht);have:Nat.beq t d=I:=by cases hb:Nat.beq t d with|false=>rfl|true=>exact absurd (Qt hb) s
     simp[bY.dw,bY.put,this]
   rw[ah]at b3;have ae:pV Γ y (E.dw x.dst e)=pV Γ y E:=by
    refine Zcl (ops:=ops) λt ht=>?_;obtain⟨b1,_,_⟩:=Oper.apart_spec a1;cases hd:x.dst with
    |none=>rfl|some d=>
     have s:t≠d:=λe=>b1 d hd (e▸ht);have:Nat.beq t d=I:=by cases hb:Nat.beq t d with|false=>rfl|true=>exact absurd (Qt hb) s
     simp[bY.dw,bY.put,this]
   rw[ae]at b8;have ay:=Znz (E:=E) (e:=e) a1 a3 a6 b3 b6 (by simpa using b8);have hy:pN M Γ ops y E=A (qs,f):=by rw[<-h7];exact(ZhV ay).symm
   have tx:dP x (E.dw y.dst f)=dP x E:=by refine Sp (ops:=ops) λt ht=>?_;obtain⟨b1,_,_⟩:=Oper.apart_spec a2;cases hd:y.dst with
    |none=>rfl|some d=>
     have s:t≠d:=λe=>b1 d hd (e▸ht);have:Nat.beq t d=I:=by cases hb:Nat.beq t d with
      |false=>rfl|true=>exact absurd (Qt hb) s
     simp[bY.dw,bY.put,this]
   have ao:eE x (E.dw y.dst f)=eE x E:=by
    refine Zdo (ops:=ops) λt ht=>?_;obtain⟨b1,_,_⟩:=Oper.apart_spec a2;cases hd:y.dst with
    |none=>rfl|some d=>
     have s:t≠d:=λe=>b1 d hd (e▸ht);have:Nat.beq t d=I:=by cases hb:Nat.beq t d with|false=>rfl|true=>exact absurd (Qt hb) s
     simp[bY.dw,bY.put,this]
   have am:pV Γ x (E.dw y.dst f)=pV Γ x E:=by refine Zcl (ops:=ops) λt ht=>?_;obtain⟨b1,_,_⟩:=Oper.apart_spec a2;cases hd:y.dst with
    |none=>rfl|some d=>
     have s:t≠d:=λe=>b1 d hd (e▸ht);have:Nat.beq t d=I:=by cases hb:Nat.beq t d with
      |false=>rfl|true=>exact absurd (Qt hb) s
     simp[bY.dw,bY.put,this]
   have ax:=Znz (E:=E) (e:=f) a2 a4 a7 b4 b7 (by simpa using b9);have hx:pN M Γ ops x (E.dw y.dst f)=A (ps,e):=by rw[<-h2];exact ZhV ax
   refine⟨y,qs,f,h6,hy,h8,by rw[h9];simp only[A_,ty,ah,ae],?_⟩;refine .cons k _ _ _ x ps e h1 hx h3 ?_ ?_;.rw[h4];simp only[A_,tx,ao,am]
   .rw[<-ZHF a1 a5 b5];exact ak
theorem Zhh{s:Array Bool}(aa:∀j o,ops[j]?=A o->s.getD j I=Y->∀e∈o.after,Region.binds .any e=Y->s.getD e.on I=Y):∀n k h(o:Oper),ops[h]?=A o->(∀e∈o.after,Region.binds .any e=Y->s.getD e.on I=Y)->C0 ops.toList n k h=Y->s.getD k I=Y
 |0,k,h,o,_,_,hb=>by trivial|n+1,k,h,o,ho,hr,hb=>by
  have ah:ops.toList[h]?=A o:=by simpa using ho
  simp only[C0,ah,Ky]at hb;obtain⟨e,he,hb⟩:=hb;simp only[Q9,K1]at hb;obtain⟨h1,h2⟩:=hb;have af:e∈o.after:=by simpa using he
  have hl:=hr e af h1;rcases h2 with h2|⟨_,h2⟩;.rw[<-Qt h2];exact hl
  .cases hoe:ops[e.on]? with
   |none=>
    have:ops.toList[e.on]?=aT:=by simpa using hoe
    cases n with|zero=>trivial|succ n=>simp[C0,this]at h2
   |some o2=>exact Zhh aa n k e.on o2 hoe (aa e.on o2 hoe hl) h2
theorem ZqH(l):∀i,Gv i l=Y->∀j(o:Oper),l[j]?=A o->∀e∈o.after,Region.binds .any e=Y->e.on<i+j:=by induction l with|nil=>grind|cons o l ih=>intro i h j o' s e he hb;simp only[Gv,Q9]at h;cases j with|zero=>simp at s;subst s;have:=QZ.1 h.1 e (by simpa using he);simp_all|succ j=>grind
theorem ZnG(ok:bS P M)(hΓ:∀f s,Γ f=A s->aU P M f s){fp:Nat->Option Fp}{Q:Exit->Act->World->Prop}{st':bY U}(aw:∀j o,ops[j]?=A o->∀e∈o.after,Region.binds .any e=Y->e.on<j)(aq:∀k h,k<h->h<ops.size->C0 ops.toList 5 k h=Y\/SU ops fp k h)(hQ:∀g' a' w',cT M B st' g' a' w'->Q .normal a' w'):∀ab(l:List Nat)(listed:Array Bool)(E:bY U)g(a:Act)w,J l<=ab->l.Pairwise (· <·)->listed.size=ops.size->(∀i,i<ops.size->(listed.getD i I=I↔i∈l))->(∀i∈l,i<ops.size)->(∀j o,ops[j]?=A o->listed.getD j I=Y->∀e∈o.after,Region.binds .any e=Y->listed.getD e.on I=Y)->dh M Γ ops fp l E st'->cT M B E g a w->wpAny P .any ops Q ab listed a w:=by
 intro ab;have am:∀(listed:Array Bool)i,listed.size=ops.size->i<ops.size->listed.getD i Y=listed.getD i I:=by intro listed i hs hi;simp[Array.getD,hs,hi]
 have done:∀(l:List Nat)(listed:Array Bool),l.Pairwise (· <·)->listed.size=ops.size->(∀i,i<ops.size->(listed.getD i I=I↔i∈l))->(∀i∈l,i<ops.size)->Region.ready .any ops listed=[]->l=[]:=by intro l listed aa ai hl al hr;cases l with
  |nil=>rfl|cons i l=>
   exfalso;have hi:=al i (by simp);have bg:i∈Region.ready .any ops listed:=by
    rw[mem_ready];refine⟨by grind,ops[i],Xr hi,λe he hb=>?_⟩;have h1:=aw i _ (Xr hi) e he hb;cases hx:listed.getD e.on I with
    |true=>rfl|false=>
     have:=(hl e.on O).1 hx;rcases Qe.1 this with h2|h2;.omega
     .have:=(List.pairwise_cons.1 aa).1 _ h2;omega
   grind
 induction ab with
 |zero=>
  intro l listed E g a w a3 aa ai hl al ae ah aj;have h0:l=[]:=Q7 O;subst h0;cases ah;refine⟨?_,hQ g a w aj⟩;cases hr:Region.ready .any ops listed with
  |nil=>rfl|cons i r=>
   have hm:i∈Region.ready .any ops listed:=by rw[hr];simp
   obtain⟨h1,o,ho,_⟩:=mem_ready.1 hm;grind
 |succ ab ih=>
  intro l listed E g a w a3 aa ai hl al ae ah aj;refine⟨λhr=>?_,λi hi=>?_⟩;.have h0:=done l listed aa ai hl al hr;subst h0;cases ah;grind
  .obtain⟨h1,o,ho,af⟩:=mem_ready.1 hi;have ak:=(Xk.1 ho).1;rw[am listed i ai ak]at h1;have ba:=(hl i ak).1 h1;obtain⟨c_,post,rfl⟩:=List.append_of_mem ba;have a1:∀k∈c_,SU ops fp k i:=by
    intro k hk;have bb:k<i:=by have:=List.pairwise_append.1 aa;exact this.2.2 k hk i (by simp)
    rcases aq k i bb ak with h2|h2;.have h3:=Zhh ae 5 k i o ho af h2;grind
    .exact h2
   obtain⟨o',ps,e,h2,h3,h4,_,h6⟩:=ZU4 c_ E st' ah a1;rw[ho]at h2;cases h2;unfold wpOp;simp only[ho];have av:=ZhU (K:=wpAny P .any ops Q ab (listed.setIfInBounds i Y)) (Q:=Q) ok hΓ aj h3 h4 (by
    intro g' a' w' au;refine ih (c_++post) (listed.setIfInBounds i Y) _ g' a' w' ?_ ?_ ?_ ?_ ?_ ?_ h6 au;.grind
    .exact aa.sublist (List.Sublist.append_left (List.sublist_cons_self i post) c_)
    .simp[ai]
    .intro j hj;by_cases hij:i=j
     .subst hij;have bc:i∉c_++post:=by
       have hp:=List.pairwise_append.1 aa;intro hm;rcases Qo.1 hm with hm|hm;.grind
       .have:=(List.pairwise_cons.1 hp.2.1).1 i hm;omega
      simp[Array.getD,ai,hj,bc]
     .rw[getD_set_ne I hij,hl j hj];grind
    .intro j hj;exact al j (by grind)
    .intro j oj ar a2 e he hb;by_cases hij:i=j;.subst hij;rw[ho]at ar;cases ar;exact getD_set_true (af e he hb)
     .rw[getD_set_ne I hij]at a2;exact getD_set_true (ae j oj ar a2 e he hb));split at av;.grind
   grind
theorem Ce(ok:bS P M)(hΓ:∀f s,Γ f=A s->aU P M f s):zI P M Γ (lr M Γ):=by
 intro B E aj g a w id ops ps Q hd aa ah am hQ;unfold lr at hd;split at hd;case h_2=>cases hd
 rename_i fps hf;simp only[Q9]at hd;obtain⟨ao,ae⟩:=hd;refine wp_region_any ok.Cb ?_;have hR:=ZgZ (ops:=ops) (fps:=fps) ops.toList 0 E aj ps fps λj=>by simp λj=>by simp ah am hf;have af:cT M B E g a {w with drawn:=w.drawn+1}:=by have L:∀b,({w with drawn:=w.drawn+1}:World).cell? b=w.cell? b:=λ_=>rfl;exact⟨⟨λc v hv=>aa.cN.im c v hv,λc t ht=>aa.cN.it c t ht⟩,⟨⟨aa.fr.dH.os,aa.fr.dH.tape,aa.fr.dH.output,aa.fr.dH.size⟩,aa.fr.sO,aa.fr.mono,aa.fr.cG,aa.fr.fT,aa.fr.gn,aa.fr.gC⟩,aa.env,aa.mem,aa.sz,aa.df,λt x hx=>aa.ls t x hx,aa.fresh⟩
 refine ZnG (fp:=λi=>fps[i]?) ok hΓ ?_ ?_ hQ ops.size (List.range' 0 (J ops.toList)) _ E g a _ (by simp) List.pairwise_lt_range' (by simp) ?_ ?_ ?_ hR af;.intro j o ho e he hb;have:=ZqH ops.toList 0 ao j o (by simpa using ho) e he hb;omega
 .intro k h av hh;unfold Zyl at ae;rw[QZ]at ae;have h1:=ae h (by simpa using hh);rw[QZ]at h1;have h2:=h1 k (by grind);unfold ZFv at h2;rw[K1]at h2;rcases h2 with h2|h2;.exact .inl h2
  .right;split at h2;.rename_i x y p q hx hy hp hq;exact⟨x,y,p,q,by simpa using hx,by simpa using hy,hp,hq,h2⟩
   .cases h2
 .simp_all
 .grind
 .intro j o ho hl;have hj:=(Xk.1 ho).1;simp_all
end Go.AM
namespace Go.AM
variable{U:gP}{P:Program}
def qX{α:Type}:List (Nat×α)->Nat->Option α|[],_=>aT|(a,x)::r,t=>bif Nat.beq a t then A x else qX r t
theorem Cd{α}:∀{l t}{x:α},qX l t=A x->(t,x)∈l|(a,y)::r,t,x,h=>by simp only[qX]at h;cases hb:Nat.beq a t with|true=>simp_all|false=>simp[hb]at h;exact Q4 _ (Cd h)
def HA:List (Nat×Nat×Nat×Nat)->Nat->Nat->Option (Nat×Nat)|[],_,_=>aT|(a,b,x)::r,t,f=>bif Nat.beq a t&&Nat.beq b f then A x else HA r t f
theorem Zn2:∀{l t f x},HA l t f=A x->(t,f,x)∈l|(a,b,y)::r,t,f,x,h=>by simp only[HA]at h;cases hb:Nat.beq a t&&Nat.beq b f with|true=>simp_all|false=>simp[hb]at h;exact Q4 _ (Zn2 h)
structure mh(U:gP)where
 dE:DecidableEq U.Ty
 eg:(T:U.Ty)->U.El T
 enc:(T:U.Ty)->U.El T->List (C U)jz:(T:U.Ty)->List (C U)->Option (U.El T)ue:U.Ty->Bool
 sz:U.Ty->Nat
 bytes:U.Ty->Nat
structure nV(K:mh U):Prop where
 cL:∀T x,(K.enc T x).length=K.sz T
 eK:∀T x c,c∈K.enc T x->c.plain=true
 jb:∀T cs x,K.jz T cs=some x->cs.length=(K.enc T x).length/\∀(j:Nat)c c',cs[j]?=some c->(K.enc T x)[j]?=some c'->Wk c c'
 gR:∀T,0<K.sz T
 gU:∀T,0<K.bytes T
structure Tables(U:gP)where
 el:U.Ty->TypeId
 sl:List (Nat×U.Ty)var:List (Nat×Bool×List (C U))f_:List (Nat×Nat×Nat×Nat)arr:List (Nat×Nat×Nat)rS:List Nat:=[]
def Tables.M(K:mh U)(T:Tables U):cW U:={dE:=K.dE,eg:=K.eg,enc:=K.enc,jz:=K.jz,ue:=K.ue,sz:=K.sz,bytes:=K.bytes,dQ:=T.el,iO:=qX T.sl,var:=qX T.var,f_:=HA T.f_,arr:=qX T.arr,rS:=λt=>T.rS.any (Nat.beq t)}
def TM:Option (C U)->C U->Bool|some (.int k n),.int k' n'=>k==k'&&n==n'|some (.bool b),.bool b'=>b==b'|some .nils,.nils=>Y|some .nilp,.nilp=>Y|_,_=>I
theorem ZKz{x}{c:C U}(h:TM x c=Y):x=A c:=by unfold TM at h;grind
def IY:List Value->List (C U)->Bool|[],[]=>Y|v::r,c::s=>TM (mR v) c&&IY r s|_,_=>I
theorem Zzi:∀{vs}{cs:List (C U)},IY vs cs=Y->vs.map mR=cs.map A|[],[],_=>rfl|v::r,c::s,h=>by simp only[IY,Q9]at h;simp[ZKz h.1,Zzi h.2]
def Od(ag:Bool)(z:Value)(zs:List (C U)):Bool:=(match z,ag with|.agg _,Y=>Y|.agg _,I=>I|.tuple _,_=>I|_,I=>Y|_,Y=>I)&&IY z.cells.toList zs
theorem ZBC{ag z}{zs:List (C U)}(h:Od ag z zs=Y):Ii ag z zs:=by
 unfold Od at h;simp only[Q9]at h;obtain⟨h1,h2⟩:=h;refine⟨λs=>?_,λs=>?_,Zzi h2⟩;.grind
 .subst s;cases z<;>first|rfl|(simp at h1;done)
def LR:List (C U)->TypeDesc->Bool|[.int k _],.int k'=>k==k'|[.int _ _],_=>I|[.bool _],.bool=>Y|[.bool _],_=>I|[.nilp],.pointer _=>Y|[.nilp],_=>I|_,_=>Y
def Mv(P:Program)(x:Nat×Bool×List (C U)):Bool:=match P.info? x.1,P.underlying x.1 with
 |some i,A d=>Nat.beq i.size (J x.2.2)&&Nat.blt 0 (J x.2.2)&&TypeDesc.ag d==x.2.1&&(match i.zero with|some z=>Od x.2.1 z x.2.2|none=>I)&&(x.2.1||LR x.2.2 d)&&match d with
   |.struct fs=>fs.toList.all λfd=>(P.info? fd.type).isSome|.array _ e=>(P.info? e).isSome|_=>Y
 |_,_=>I
def TA(P:Program)(el:U.Ty->TypeId)(x:Nat×U.Ty):Bool:=match P.underlying x.1 with|some (.slice e)=>Nat.beq e (el x.2)|_=>I
def TY(P:Program)(x:Nat×Nat×Nat×Nat):Bool:=match P.underlying x.1 with
 |some (.struct fs)=>match fs.toList[x.2.1]? with
  |some fd=>Nat.beq fd.offset x.2.2.1&&Nat.beq fd.type x.2.2.2|none=>I
 |_=>I
def P9(P:Program)(x:Nat×Nat×Nat):Bool:=match P.underlying x.1 with|some (.array n e)=>Nat.beq n x.2.1&&Nat.beq e x.2.2|_=>I
def eqK(P:Program)(z:Option (C U))(t:TypeId):Bool:=match z,P.underlying t with|some (.int _ _),A (.int _)=>Y|some (.bool _),A .bool=>Y|_,_=>I
def eqB(P:Program)(var:List (Nat×Bool×List (C U)))(t:Nat):Bool:=match P.underlying t with
 |some (.struct fs)=>(match qX var t with
   |some (_,zs)=>Nat.beq (J zs) fs.size|none=>Y)&&!P.stoodInHeld t&&!P.eqGuardType P.depth t&&(List.range fs.size).all λi=>match fs[i]? with
   |some f=>f.name != "_" &&Nat.beq f.offset i&&match qX var t with
    |some (_,zs)=>eqK P zs[i]? f.type|none=>Y
   |none=>I
 |_=>I
def VA(P:Program)(K:mh U)(T:Tables U)(t:U.Ty):Bool:=match P.info? (T.el t),qX T.var (T.el t)with|some i,A (_,zs)=>Nat.beq i.size (K.sz t)&&Nat.beq i.bytes (K.bytes t)&&i.zero.isSome&&Nat.beq (J zs) (K.sz t)|_,_=>I
theorem ZzT{K}(ck:nV K){T:Tables U}(hv:T.var.all (Mv P)=Y)(hs:T.sl.all (TA P T.el)=Y)(hf:T.f_.all (TY P)=Y)(ha:T.arr.all (P9 P)=Y)(he:∀t,VA P K T t=Y)(hm:P.follows .mixedOrders=Y)(hq:T.rS.all (eqB P T.var)=Y):bS P (T.M K):=by
 refine⟨ck.cL,ck.eK,ck.jb,ck.gR,ck.gU,?_,?_,?_,?_,?_,hm,?_,?_⟩
 .intro t;have h:=he t;unfold VA at h;split at h
  .rename_i i ag zs h1 h2;simp only[Q9]at h;obtain⟨⟨⟨h3,h4⟩,h5⟩,h6⟩:=h;obtain⟨z,hz⟩:=QL.1 h5;exact⟨i,ag,zs,z,h1,Qt h3,Qt h4,hz,h2,Qt h6⟩
  .cases h
 .intro t aE h;have:=QZ.1 hs _ (Cd h);unfold TA at this;simp only at this;split at this
  .rename_i e hu;rw[hu,Qt this];try rfl
  .cases this
 .intro t ag zs h;have:=QZ.1 hv _ (Cd h);unfold Mv at this;simp only at this;split at this
  .rename_i i d hi hu;simp only[Q9]at this;obtain⟨⟨⟨⟨⟨h1,h2⟩,h3⟩,h4⟩,h5⟩,h6⟩:=this;split at h4
   .rename_i z hz;refine⟨Nat.blt_eq.mp h2,i,z,d,hi,hu,Qt h1,by simpa using h3,hz,ZBC h4,?_,?_,?_,?_⟩
    .intro ah k n aj;subst ah;simp only[Kt]at h5;subst aj;unfold LR at h5;split at h5<;>simp_all
    .intro ah b aj;subst ah;simp only[Kt]at h5;subst aj;unfold LR at h5;split at h5<;>simp_all
    .intro fs hd;subst hd;exact h6
    .intro n e hd;subst hd;exact h6
   .cases h4
  .cases this
 .intro s f a1 t h;have:=QZ.1 hf _ (Zn2 h);unfold TY at this;simp only at this;split at this
  .rename_i fs hu;split at this;.rename_i fd ax;simp only[Q9]at this;exact⟨fs,fd,hu,by simpa using ax,Nat.eq_of_beq_eq_true this.1,Nat.eq_of_beq_eq_true this.2⟩
   .cases this
  .cases this
 .intro t n e h;have:=QZ.1 ha _ (Cd h);unfold P9 at this;simp only at this;split at this;.rename_i n' e' hu;simp only[Q9]at this;rw[hu,Qt this.1,Qt this.2]
  .cases this
 .intro t ht;obtain⟨t',h1,h2⟩:=Ky.1 ht;have e:=Qt h2;subst e;have h3:=QZ.1 hq _ h1;unfold eqB at h3;split at h3
  .rename_i fs hu;simp only[Q9,Xs]at h3;obtain⟨⟨⟨h4,h5⟩,h6⟩,h7⟩:=h3;refine⟨fs,hu,λag zs hz=>?_,h5,h6,λi f hf=>?_⟩;.have ak:qX T.var t=A (ag,zs):=hz;rw[ak]at h4;exact Qt h4
   .have hi:=(Xk.1 hf).1;have h8:=QZ.1 h7 i (by simpa using hi);rw[hf]at h8;simp only[Q9,bne_iff_ne,ne_eq]at h8;refine⟨h8.1.1,Qt h8.1.2,λag zs hz=>?_⟩;have h9:=h8.2;have ak:qX T.var t=A (ag,zs):=hz;rw[ak]at h9;dsimp only at h9;unfold eqK at h9;split at h9;.rename_i e1 e2;exact⟨λ_ _ _=>⟨_,e2⟩,λ_ h=>by(rw[e1]at h;cases h)⟩
    .rename_i e1 e2;exact⟨λ_ _ h=>by(rw[e1]at h;cases h),λ_ _=>e2⟩
    .cases h9
  .cases h3
 .intro t h;have:=QZ.1 hv _ (Cd h);unfold Mv at this;simp only at this;split at this;.rename_i i d hi hu;simp only[Q9]at this;obtain⟨⟨_,h5⟩,_⟩:=this;cases d<;>first|exact⟨_,hu⟩|(simp[LR]at h5;done)
  .cases this
end Go.AM
namespace Go.AM
structure aV where
 S:Int
 a_:Int
 bH:Int
 new:Int
inductive H where|mk(D:Int)(aS:List Int)(X:List H)
def H.D:H->Int|.mk k _ _=>k
def H.aS:H->List Int|.mk _ w _=>w
def H.X:H->List H|.mk _ _ k=>k
@[simp]theorem H.sj(t):H.mk t.D t.aS t.X=t:=by cases t;rfl
@[simp]theorem H.gT(k)(w)(ks):(H.mk k w ks).D=k:=rfl
@[simp]theorem H.dz(k)(w)(ks):(H.mk k w ks).aS=w:=rfl
@[simp]theorem H.dt(k)(w)(ks):(H.mk k w ks).X=ks:=rfl
structure aW(aI:Type)where
 S:Int
 e:aI
structure bI(aI:Type)where
 D:Int
 n:Int
 l:List H
 e:aI
inductive W where|mk(D:Int)(bH new:H)(aS:List aV)(X:List (aW W))(V:Int)(ops:List (bI W))
abbrev bP:=aW W
abbrev Op:=bI W
def W.D:W->Int|.mk k _ _ _ _ _ _=>k
def W.bH:W->H|.mk _ o _ _ _ _ _=>o
def W.new:W->H|.mk _ _ n _ _ _ _=>n
def W.aS:W->List aV|.mk _ _ _ w _ _ _=>w
def W.X:W->List bP|.mk _ _ _ _ k _ _=>k
def W.V:W->Int|.mk _ _ _ _ _ l _=>l
def W.ops:W->List Op|.mk _ _ _ _ _ _ o=>o
@[simp]theorem W.sj(e):W.mk e.D e.bH e.new e.aS e.X e.V e.ops=e:=by cases e;rfl
section
variable(k:Int)(o n:H)(w:List aV)(ks:List bP)(l:Int)(os:List Op)
@[simp]theorem W.gT:(W.mk k o n w ks l os).D=k:=rfl
@[simp]theorem W.qS:(W.mk k o n w ks l os).bH=o:=rfl
@[simp]theorem W.qN:(W.mk k o n w ks l os).new=n:=rfl
@[simp]theorem W.dz:(W.mk k o n w ks l os).aS=w:=rfl
@[simp]theorem W.dt:(W.mk k o n w ks l os).X=ks:=rfl
@[simp]theorem W.nK:(W.mk k o n w ks l os).V=l:=rfl
@[simp]theorem W.jK:(W.mk k o n w ks l os).ops=os:=rfl
end
def H.nil:H:=.mk 0 [] []
def W.nil:W:=.mk 0 H.nil H.nil [] [] 0 []
def Op.nil:Op:=⟨0,0,[],W.nil⟩
structure bJ where
 step:Int
 D:Int
 t:H
 e:W
 bV:Bool
def bJ.nil:bJ:=⟨0,0,H.nil,W.nil,I⟩
structure o5 where
 D:Int
 S:Int
structure cm where
 of:Int
 p:Op
 q:Op
structure bK where
 of:Int
 p:bJ
 q:bJ
structure dD where
 x:W
 y:W
 mi:Bool
 apart:Bool
structure cM where
 D:Int
 i:Int
 e:W
structure fZ where
 D:Int
 who:Int
 nZ:Int
 e:W
inductive Ty where|u64|u8|int|aX|bD|aY|cJ|op|dO|unit|eW|left|eF|ig deriving DecidableEq
@[reducible]def El:Ty->Type|.u64=>Int|.u8=>Int|.int=>Int|.aX=>H|.bD=>aV|.aY=>W|.cJ=>bP|.op=>Op|.dO=>cm|.unit=>bJ|.eW=>bK|.left=>dD|.eF=>cM|.ig=>fZ
@[reducible]def U:gP:={Ty:=Ty,El:=El}
abbrev sl(T)(l:List (El T)):C U:=.slice (U:=U) T l .bA
def ZOy(x:H):List (C U):=[.int .i64 x.D,sl .u64 x.aS,sl .aX x.X]
def ZH0(x:aV):List (C U):=[.int .i64 x.S,.int .u8 x.a_,.int .u64 x.bH,.int .u64 x.new]
def ZOB(x:W):List (C U):=[.int .i64 x.D,.int .i64 x.bH.D,sl .u64 x.bH.aS,sl .aX x.bH.X,.int .i64 x.new.D,sl .u64 x.new.aS,sl .aX x.new.X,sl .bD x.aS,sl .cJ x.X,.int .i64 x.V,sl .op x.ops]
def ZVn(x:bP):List (C U):=[.int .i64 x.S,.int .i64 x.e.D,.int .i64 x.e.bH.D,sl .u64 x.e.bH.aS,sl .aX x.e.bH.X,.int .i64 x.e.new.D,sl .u64 x.e.new.aS,sl .aX x.e.new.X,sl .bD x.e.aS,sl .cJ x.e.X,.int .i64 x.e.V,sl .op x.e.ops]
def eOp(x:Op):List (C U):=[.int .i64 x.D,.int .i64 x.n,sl .aX x.l,.int .i64 x.e.D,.int .i64 x.e.bH.D,sl .u64 x.e.bH.aS,sl .aX x.e.bH.X,.int .i64 x.e.new.D,sl .u64 x.e.new.aS,sl .aX x.e.new.X,sl .bD x.e.aS,sl .cJ x.e.X,.int .i64 x.e.V,sl .op x.e.ops]
def ZH1(x:cm):List (C U):=[.int .i64 x.of,.int .i64 x.p.D,.int .i64 x.p.n,sl .aX x.p.l,.int .i64 x.p.e.D,.int .i64 x.p.e.bH.D,sl .u64 x.p.e.bH.aS,sl .aX x.p.e.bH.X,.int .i64 x.p.e.new.D,sl .u64 x.p.e.new.aS,sl .aX x.p.e.new.X,sl .bD x.p.e.aS,sl .cJ x.p.e.X,.int .i64 x.p.e.V,sl .op x.p.e.ops,.int .i64 x.q.D,.int .i64 x.q.n,sl .aX x.q.l,.int .i64 x.q.e.D,.int .i64 x.q.e.bH.D,sl .u64 x.q.e.bH.aS,sl .aX x.q.e.bH.X,.int .i64 x.q.e.new.D,sl .u64 x.q.e.new.aS,sl .aX x.q.e.new.X,sl .bD x.q.e.aS,sl .cJ x.q.e.X,.int .i64 x.q.e.V,sl .op x.q.e.ops]
def ZOx(x:bJ):List (C U):=[.int .i64 x.step,.int .i64 x.D,.int .i64 x.t.D,sl .u64 x.t.aS,sl .aX x.t.X,.int .i64 x.e.D,.int .i64 x.e.bH.D,sl .u64 x.e.bH.aS,sl .aX x.e.bH.X,.int .i64 x.e.new.D,sl .u64 x.e.new.aS,sl .aX x.e.new.X,sl .bD x.e.aS,sl .cJ x.e.X,.int .i64 x.e.V,sl .op x.e.ops,.bool x.bV]
def ZOz(x:bK):List (C U):=[.int .i64 x.of,.int .i64 x.p.step,.int .i64 x.p.D,.int .i64 x.p.t.D,sl .u64 x.p.t.aS,sl .aX x.p.t.X,.int .i64 x.p.e.D,.int .i64 x.p.e.bH.D,sl .u64 x.p.e.bH.aS,sl .aX x.p.e.bH.X,.int .i64 x.p.e.new.D,sl .u64 x.p.e.new.aS,sl .aX x.p.e.new.X,sl .bD x.p.e.aS,sl .cJ x.p.e.X,.int .i64 x.p.e.V,sl .op x.p.e.ops,.bool x.p.bV,.int .i64 x.q.step,.int .i64 x.q.D,.int .i64 x.q.t.D,sl .u64 x.q.t.aS,sl .aX x.q.t.X,.int .i64 x.q.e.D,.int .i64 x.q.e.bH.D,sl .u64 x.q.e.bH.aS,sl .aX x.q.e.bH.X,.int .i64 x.q.e.new.D,sl .u64 x.q.e.new.aS,sl .aX x.q.e.new.X,sl .bD x.q.e.aS,sl .cJ x.q.e.X,.int .i64 x.q.e.V,sl .op x.q.e.ops,.bool x.q.bV]
def ZOA(x:dD):List (C U):=[.int .i64 x.x.D,.int .i64 x.x.bH.D,sl .u64 x.x.bH.aS,sl .aX x.x.bH.X,.int .i64 x.x.new.D,sl .u64 x.x.new.aS,sl .aX x.x.new.X,sl .bD x.x.aS,sl .cJ x.x.X,.int .i64 x.x.V,sl .op x.x.ops,.int .i64 x.y.D,.int .i64 x.y.bH.D,sl .u64 x.y.bH.aS,sl .aX x.y.bH.X,.int .i64 x.y.new.D,sl .u64 x.y.new.aS,sl .aX x.y.new.X,sl .bD x.y.aS,sl .cJ x.y.X,.int .i64 x.y.V,sl .op x.y.ops,.bool x.mi,.bool x.apart]
def ZOC(x:cM):List (C U):=[.int .i64 x.D,.int .i64 x.i,.int .i64 x.e.D,.int .i64 x.e.bH.D,sl .u64 x.e.bH.aS,sl .aX x.e.bH.X,.int .i64 x.e.new.D,sl .u64 x.e.new.aS,sl .aX x.e.new.X,sl .bD x.e.aS,sl .cJ x.e.X,.int .i64 x.e.V,sl .op x.e.ops]
def ZH2(x:fZ):List (C U):=[.int .i64 x.D,.int .i64 x.who,.int .i64 x.nZ,.int .i64 x.e.D,.int .i64 x.e.bH.D,sl .u64 x.e.bH.aS,sl .aX x.e.bH.X,.int .i64 x.e.new.D,sl .u64 x.e.new.aS,sl .aX x.e.new.X,sl .bD x.e.aS,sl .cJ x.e.X,.int .i64 x.e.V,sl .op x.e.ops]
def enc:(T:Ty)->El T->List (C U)|.u64,n=>[.int .u64 n]|.u8,n=>[.int .u8 n]|.int,n=>[.int .i64 n]|.aX,x=>ZOy x|.bD,x=>ZH0 x|.aY,x=>ZOB x|.cJ,x=>ZVn x|.op,x=>eOp x|.dO,x=>ZH1 x|.unit,x=>ZOx x|.eW,x=>ZOz x|.left,x=>ZOA x|.eF,x=>ZOC x|.ig,x=>ZH2 x
abbrev Rd(α:Type):=List (C U)->Option (α×List (C U))
def jC(k:IntKind):Rd Int|.int k' n::r=>if k=k' then A (n,r)else aT|_=>aT
def Fg:Rd Bool|.bool b::r=>A (b,r)|_=>aT
def qV(T:Ty):Rd (List (El T))
 |.nils::r=>A ([],r)|.slice aE l _::r=>match(inferInstance:DecidableEq Ty) aE T with|isTrue h=>A (h▸l,r)|isFalse _=>aT
 |_=>aT
def YT{α β:Type}(x:Rd α)(f:α->Rd β):Rd β:=λcs=>match x cs with|some (a,r)=>f a r|none=>aT
def qD{α}(a:α):Rd α:=λcs=>A (a,cs)
def oG:List (C U)->List (C U)->Prop|[],[]=>True|c::r,c'::r'=>Wk c c'/\oG r r'|_,_=>False
theorem oG.append:∀{a b c d},oG a b->oG c d->oG (a++c) (b++d)|[],[],_,_,_,h=>h|_::_,_::_,_,_,h,k=>⟨h.1,oG.append h.2 k⟩
theorem oG.get:∀{a b},oG a b->J a=J b/\∀(j:Nat)c c',a[j]?=A c->b[j]?=A c'->Wk c c'|[],[],_=>⟨rfl,λj c c' h=>by simp at h⟩|x::a,y::b,h=>by obtain⟨h1,h2⟩:=oG.get h.2;refine⟨by simp[h1],λj c c' L s=>?_⟩;cases j with|zero=>simp at L s;subst L s;exact h.1|succ j=>exact h2 j c c' (by simpa using L) (by simpa using s)
def mQ{α}(r:Rd α)(e:α->List (C U)):Prop:=∀cs x h,r cs=A (x,h)->∃p,cs=p++h/\oG p (e x)
theorem Yg(k):mQ (jC k) λn=>[.int k n]:=by
 intro cs x s h;unfold jC at h;split at h
 .split at h
  .rename_i hk;subst hk;cases h;exact⟨[_],rfl,.int _ _,trivial⟩
  .cases h
 .cases h
theorem ZcM:mQ Fg λb=>[.bool b]:=by
 intro cs x s h;unfold Fg at h;split at h;.cases h;exact⟨[_],rfl,.bool _,trivial⟩
 .cases h
theorem yI(T):mQ (qV T) λl=>[sl T l]:=by
 intro cs x aa h;unfold qV at h;split at h;.cases h;exact⟨[_],rfl,(Wk.fa (U:=U) T:Wk (U:=U) .nils (.slice T [] .bA)),trivial⟩
 .split at h;.rename_i s _;subst s;cases h;exact⟨[_],rfl,.slice _ _ _,trivial⟩
  .cases h
 .cases h
theorem J3{α β x f}{ex:α->List (C U)}(hx:mQ x ex){cs}{b:β}{s}(h:YT x f cs=A (b,s)):∃a p r,cs=p++r/\oG p (ex a)/\f a r=A (b,s):=by
 unfold YT at h;split at h;.rename_i a r ha;obtain⟨p,rfl,h1⟩:=hx _ _ _ ha;exact⟨a,p,r,rfl,h1,h⟩
 .cases h
def D8:Rd H:=YT (jC .i64) λx0=>YT (qV .u64) λh=>YT (qV .aX) λs=>qD (H.mk x0 h s)
theorem IT:mQ D8 ZOy:=by intro cs x s h;obtain⟨x0,p0,r0,rfl,w0,h⟩:=J3 (Yg _) h;obtain⟨x1,p1,r1,rfl,w1,h⟩:=J3 (yI _) h;obtain⟨x2,p2,r2,rfl,w2,h⟩:=J3 (yI _) h;cases h;exact⟨p0++(p1++p2),by simp,w0.append (w1.append w2)⟩
def ZEX:Rd aV:=YT (jC .i64) λx0=>YT (jC .u8) λs=>YT (jC .u64) λx2=>YT (jC .u64) λh=>qD (aV.mk x0 s x2 h)
theorem Zs3:mQ ZEX ZH0:=by intro cs x s h;obtain⟨x0,p0,r0,rfl,w0,h⟩:=J3 (Yg _) h;obtain⟨x1,p1,r1,rfl,w1,h⟩:=J3 (Yg _) h;obtain⟨x2,p2,r2,rfl,w2,h⟩:=J3 (Yg _) h;obtain⟨x3,p3,r3,rfl,w3,h⟩:=J3 (Yg _) h;cases h;exact⟨p0++(p1++(p2++p3)),by simp,w0.append (w1.append (w2.append w3))⟩
def tB:Rd W:=YT (jC .i64) λx0=>YT D8 λx1=>YT D8 λs=>YT (qV .bD) λh=>YT (qV .cJ) λx4=>YT (jC .i64) λx5=>YT (qV .op) λx6=>qD (W.mk x0 x1 s h x4 x5 x6)
theorem vY:mQ tB ZOB:=by intro cs x s h;obtain⟨x0,p0,r0,rfl,w0,h⟩:=J3 (Yg _) h;obtain⟨x1,p1,r1,rfl,w1,h⟩:=J3 IT h;obtain⟨x2,p2,r2,rfl,w2,h⟩:=J3 IT h;obtain⟨x3,p3,r3,rfl,w3,h⟩:=J3 (yI _) h;obtain⟨x4,p4,r4,rfl,w4,h⟩:=J3 (yI _) h;obtain⟨x5,p5,r5,rfl,w5,h⟩:=J3 (Yg _) h;obtain⟨x6,p6,r6,rfl,w6,h⟩:=J3 (yI _) h;cases h;exact⟨p0++(p1++(p2++(p3++(p4++(p5++p6))))),by simp,w0.append (w1.append (w2.append (w3.append (w4.append (w5.append w6)))))⟩
def ZU3:Rd bP:=YT (jC .i64) λx0=>YT tB λh=>qD (aW.mk x0 h)
theorem ZA8:mQ ZU3 ZVn:=by intro cs x s h;obtain⟨x0,p0,r0,rfl,w0,h⟩:=J3 (Yg _) h;obtain⟨x1,p1,r1,rfl,w1,h⟩:=J3 vY h;cases h;exact⟨p0++p1,by simp,w0.append w1⟩
def tD:Rd Op:=YT (jC .i64) λx0=>YT (jC .i64) λs=>YT (qV .aX) λx2=>YT tB λh=>qD (bI.mk x0 s x2 h)
theorem V9:mQ tD eOp:=by intro cs x s h;obtain⟨x0,p0,r0,rfl,w0,h⟩:=J3 (Yg _) h;obtain⟨x1,p1,r1,rfl,w1,h⟩:=J3 (Yg _) h;obtain⟨x2,p2,r2,rfl,w2,h⟩:=J3 (yI _) h;obtain⟨x3,p3,r3,rfl,w3,h⟩:=J3 vY h;cases h;exact⟨p0++(p1++(p2++p3)),by simp,w0.append (w1.append (w2.append w3))⟩
def ZEZ:Rd cm:=YT (jC .i64) λx0=>YT tD λh=>YT tD λs=>qD (cm.mk x0 h s)
theorem Zs4:mQ ZEZ ZH1:=by intro cs x s h;obtain⟨x0,p0,r0,rfl,w0,h⟩:=J3 (Yg _) h;obtain⟨x1,p1,r1,rfl,w1,h⟩:=J3 V9 h;obtain⟨x2,p2,r2,rfl,w2,h⟩:=J3 V9 h;cases h;exact⟨p0++(p1++p2),by simp,w0.append (w1.append w2)⟩
def FX:Rd bJ:=YT (jC .i64) λx0=>YT (jC .i64) λx1=>YT D8 λs=>YT tB λh=>YT Fg λx4=>qD (bJ.mk x0 x1 s h x4)
theorem R3:mQ FX ZOx:=by intro cs x s h;obtain⟨x0,p0,r0,rfl,w0,h⟩:=J3 (Yg _) h;obtain⟨x1,p1,r1,rfl,w1,h⟩:=J3 (Yg _) h;obtain⟨x2,p2,r2,rfl,w2,h⟩:=J3 IT h;obtain⟨x3,p3,r3,rfl,w3,h⟩:=J3 vY h;obtain⟨x4,p4,r4,rfl,w4,h⟩:=J3 ZcM h;cases h;exact⟨p0++(p1++(p2++(p3++p4))),by simp,w0.append (w1.append (w2.append (w3.append w4)))⟩
def ZNJ:Rd bK:=YT (jC .i64) λx0=>YT FX λh=>YT FX λs=>qD (bK.mk x0 h s)
theorem ZuA:mQ ZNJ ZOz:=by intro cs x s h;obtain⟨x0,p0,r0,rfl,w0,h⟩:=J3 (Yg _) h;obtain⟨x1,p1,r1,rfl,w1,h⟩:=J3 R3 h;obtain⟨x2,p2,r2,rfl,w2,h⟩:=J3 R3 h;cases h;exact⟨p0++(p1++p2),by simp,w0.append (w1.append w2)⟩
def ZNK:Rd dD:=YT tB λx0=>YT tB λs=>YT Fg λx2=>YT Fg λh=>qD (dD.mk x0 s x2 h)
theorem ZuB:mQ ZNK ZOA:=by intro cs x s h;obtain⟨x0,p0,r0,rfl,w0,h⟩:=J3 vY h;obtain⟨x1,p1,r1,rfl,w1,h⟩:=J3 vY h;obtain⟨x2,p2,r2,rfl,w2,h⟩:=J3 ZcM h;obtain⟨x3,p3,r3,rfl,w3,h⟩:=J3 ZcM h;cases h;exact⟨p0++(p1++(p2++p3)),by simp,w0.append (w1.append (w2.append w3))⟩
def ZNL:Rd cM:=YT (jC .i64) λx0=>YT (jC .i64) λh=>YT tB λs=>qD (cM.mk x0 h s)
theorem ZuC:mQ ZNL ZOC:=by intro cs x s h;obtain⟨x0,p0,r0,rfl,w0,h⟩:=J3 (Yg _) h;obtain⟨x1,p1,r1,rfl,w1,h⟩:=J3 (Yg _) h;obtain⟨x2,p2,r2,rfl,w2,h⟩:=J3 vY h;cases h;exact⟨p0++(p1++p2),by simp,w0.append (w1.append w2)⟩
def ZF1:Rd fZ:=YT (jC .i64) λx0=>YT (jC .i64) λs=>YT (jC .i64) λx2=>YT tB λh=>qD (fZ.mk x0 s x2 h)
theorem Zs5:mQ ZF1 ZH2:=by intro cs x s h;obtain⟨x0,p0,r0,rfl,w0,h⟩:=J3 (Yg _) h;obtain⟨x1,p1,r1,rfl,w1,h⟩:=J3 (Yg _) h;obtain⟨x2,p2,r2,rfl,w2,h⟩:=J3 (Yg _) h;obtain⟨x3,p3,r3,rfl,w3,h⟩:=J3 vY h;cases h;exact⟨p0++(p1++(p2++p3)),by simp,w0.append (w1.append (w2.append w3))⟩
def rEl:(T:Ty)->Rd (El T)|.u64=>jC .u64|.u8=>jC .u8|.int=>jC .i64|.aX=>D8|.bD=>ZEX|.aY=>tB|.cJ=>ZU3|.op=>tD|.dO=>ZEZ|.unit=>FX|.eW=>ZNJ|.left=>ZNK|.eF=>ZNL|.ig=>ZF1
theorem Zs6:∀T,mQ (rEl T) (enc T)|.u64=>Yg _|.u8=>Yg _|.int=>Yg _|.aX=>IT|.bD=>Zs3|.aY=>vY|.cJ=>ZA8|.op=>V9|.dO=>Zs4|.unit=>R3|.eW=>ZuA|.left=>ZuB|.eF=>ZuC|.ig=>Zs5
def jz(T:Ty)(cs:List (C U)):Option (El T):=match rEl T cs with|some (x,[])=>A x|_=>aT
def K:mh U:=
 {dE:=inferInstanceAs(DecidableEq Ty)
  eg:=λT=>match T with|.u64=>(0:Int)|.u8=>(0:Int)|.int=>(0:Int)|.aX=>H.nil|.bD=>aV.mk 0 0 0 0|.aY=>W.nil|.cJ=>aW.mk 0 W.nil|.op=>Op.nil|.dO=>cm.mk 0 Op.nil Op.nil|.unit=>bJ.nil|.eW=>bK.mk 0 bJ.nil bJ.nil|.left=>dD.mk W.nil W.nil I I|.eF=>cM.mk 0 0 W.nil|.ig=>fZ.mk 0 0 0 W.nil
  enc:=enc
  jz:=jz
  ue:=λT=>match T with|.u64|.u8|.int=>I|_=>Y
  sz:=λT=>match T with|.u64=>1|.u8=>1|.int=>1|.aX=>3|.bD=>4|.aY=>11|.cJ=>12|.op=>14|.dO=>29|.unit=>17|.eW=>35|.left=>24|.eF=>13|.ig=>14
  bytes:=λT=>match T with|.u64=>8|.u8=>1|.int=>8|.aX=>56|.bD=>32|.aY=>200|.cJ=>208|.op=>240|.dO=>488|.unit=>280|.eW=>568|.left=>408|.eF=>216|.ig=>224}
theorem ZXN:nV K:=by
 refine⟨?_,?_,?_,?_,?_⟩
 .intro T x;cases T<;>rfl
 .intro T x c L;have h:(enc T x).all C.plain=Y:=by cases T<;>rfl
  exact QZ.1 h c L
 .intro T cs x h;have s:jz T cs=A x:=h;unfold jz at s;split at s;.rename_i y he;cases s;obtain⟨p,hp,hw⟩:=Zs6 T _ _ _ he;rw[Qj]at hp;subst hp;exact hw.get
  .cases s
 .intro T;cases T<;>decide
 .intro T;cases T<;>decide
theorem ZKB(T)(x):jz T (enc T x)=A x:=by cases T with|u64=>rfl|u8=>rfl|int=>rfl|aX=>cases x;rfl|bD=>rfl|aY=>obtain⟨k,⟨_,_,_⟩,⟨_,_,_⟩,w,ks,l,os⟩:=x;rfl|cJ=>obtain⟨a,⟨k,⟨_,_,_⟩,⟨_,_,_⟩,w,ks,l,os⟩⟩:=x;rfl|op=>obtain⟨a,b,c,⟨k,⟨_,_,_⟩,⟨_,_,_⟩,w,ks,l,os⟩⟩:=x;rfl|dO=>obtain⟨_,⟨_,_,_,⟨_,⟨_,_,_⟩,⟨_,_,_⟩,_,_,_,_⟩⟩,⟨_,_,_,⟨_,⟨_,_,_⟩,⟨_,_,_⟩,_,_,_,_⟩⟩⟩:=x;rfl|unit=>obtain⟨_,_,⟨_,_,_⟩,⟨_,⟨_,_,_⟩,⟨_,_,_⟩,_,_,_,_⟩,_⟩:=x;rfl|eW=>obtain⟨_,⟨_,_,⟨_,_,_⟩,⟨_,⟨_,_,_⟩,⟨_,_,_⟩,_,_,_,_⟩,_⟩,⟨_,_,⟨_,_,_⟩,⟨_,⟨_,_,_⟩,⟨_,_,_⟩,_,_,_,_⟩,_⟩⟩:=x;rfl|left=>obtain⟨⟨_,⟨_,_,_⟩,⟨_,_,_⟩,_,_,_,_⟩,⟨_,⟨_,_,_⟩,⟨_,_,_⟩,_,_,_,_⟩,_,_⟩:=x;rfl|eF=>obtain⟨_,_,⟨_,⟨_,_,_⟩,⟨_,_,_⟩,_,_,_,_⟩⟩:=x;rfl|ig=>obtain⟨_,_,_,⟨_,⟨_,_,_⟩,⟨_,_,_⟩,_,_,_,_⟩⟩:=x;rfl
def O2(x:H):H:=H.mk (H.D x) (H.aS x) (H.X x)
@[simp]theorem Z7(x):O2 x=x:=H.sj x
def ZIN(x:aV):aV:=aV.mk (aV.S x) (aV.a_ x) (aV.bH x) (aV.new x)
@[simp]theorem JB(x):ZIN x=x:=rfl
def tO(x:W):W:=W.mk (W.D x) (O2 (W.bH x)) (O2 (W.new x)) (W.aS x) (W.X x) (W.V x) (W.ops x)
@[simp]theorem Z0(x):tO x=x:=by unfold tO;rw[Z7,Z7];exact W.sj x
def ZNI(x:bP):bP:=aW.mk (aW.S x) (tO (aW.e x))
@[simp]theorem EU(x):ZNI x=x:=by unfold ZNI;rw[Z0]
def I0(x:Op):Op:=bI.mk (bI.D x) (bI.n x) (bI.l x) (tO (bI.e x))
@[simp]theorem Yp(x):I0 x=x:=by unfold I0;rw[Z0]
def Zy5(x:cm):cm:=cm.mk (cm.of x) (I0 (cm.p x)) (I0 (cm.q x))
@[simp]theorem ZuE(x):Zy5 x=x:=by unfold Zy5;rw[Yp,Yp]
def Fv(x:bJ):bJ:=bJ.mk (bJ.step x) (bJ.D x) (O2 (bJ.t x)) (tO (bJ.e x)) (bJ.bV x)
@[simp]theorem qp(x):Fv x=x:=by unfold Fv;rw[Z0,Z7]
def ZEQ(x:bK):bK:=bK.mk (bK.of x) (Fv (bK.p x)) (Fv (bK.q x))
@[simp]theorem ZTs(x):ZEQ x=x:=by unfold ZEQ;rw[qp,qp]
def ZER(x:dD):dD:=dD.mk (tO (dD.x x)) (tO (dD.y x)) (dD.mi x) (dD.apart x)
@[simp]theorem ZTt(x):ZER x=x:=by unfold ZER;rw[Z0,Z0]
def ZES(x:cM):cM:=cM.mk (cM.D x) (cM.i x) (tO (cM.e x))
@[simp]theorem ZA9(x):ZES x=x:=by unfold ZES;rw[Z0]
def Zy7(x:fZ):fZ:=fZ.mk (fZ.D x) (fZ.who x) (fZ.nZ x) (tO (fZ.e x))
@[simp]theorem ZQb(x):Zy7 x=x:=by unfold Zy7;rw[Z0]
end Go.AM
namespace Go.AM
variable{P:Program}{M:cW U}
structure cF(α:Type)where
 get:List (aA U)->Option α
 cK:α->List (aA U)ok:∀M:cW U,M.enc=enc->∀xs a,get xs=some a->xs.length=(cK a).length/\∀(j:Nat)x y,xs[j]?=some x->(cK a)[j]?=some y->En M x y
structure vW(α:Type)where
 get:aA U->Option α
 cK:α->aA U
 ok:∀M:cW U,M.enc=enc->∀x a,get x=some a->En M x (cK a)
def cF.nil:cF Unit:=
 {get:=λxs=>match xs with
   |[]=>A ()|_::_=>aT
  cK:=λ_=>[]
  ok:=by grind}
def cF.cons{α β:Type}(aD:vW α)(B:cF β):cF (α×β):=
 {get:=λxs=>match xs with
   |x::r=>match aD.get x with
    |some a=>match B.get r with
     |some b=>A (a,b)|none=>aT
    |none=>aT
   |[]=>aT
  cK:=λp=>aD.cK p.1::B.cK p.2
  ok:=by intro M L xs p h;cases xs with|nil=>cases h|cons x r=>
    simp only at h;split at h
    .rename_i a ha;split at h
     .rename_i b hb;cases h;obtain⟨h1,h2⟩:=B.ok M L r b hb;refine⟨by simp[h1],λj x' y hx hy=>?_⟩;cases j with|zero=>simp at hx hy;subst hx hy;exact aD.ok M L x a ha|succ j=>grind
     .cases h
    .cases h}
theorem Ut{a b}(h:Wk a b):En M (.c a) (.c b):=by intro g aa v s;refine⟨s.1.wk h,?_⟩;cases h with|fa=>trivial|slice=>trivial|_=>exact s.2
theorem Zwf{a b}(h:oG a b):En M (.agg a) (.agg b):=by
 intro g s v hr;obtain⟨vs,rfl,h1,h2⟩:=hr;obtain⟨h3,h4⟩:=h.get;refine⟨vs,rfl,by rw[h1,h3],λj u c hu L=>?_⟩;have hj:j<J a:=by have:=(Qc.1 L).1;omega
 have ha:=Q8 hj;exact Ut (M:=M) (h4 j _ c ha L) g s u (h2 j u _ hu ha)
def fe(T:Ty):vW (El T):=
 {get:=λv=>match v with
   |.agg cs=>jz T cs|_=>aT
  cK:=λx=>.agg (enc T x)
  ok:=by
   intro M _ v a h;cases v<;>simp only[reduceCtorEq]at h;rename_i cs;unfold jz at h;split at h;.rename_i y he;cases h;obtain⟨p,hp,hw⟩:=Zs6 T _ _ _ he;rw[Qj]at hp;subst hp;exact Zwf hw
   .cases h}
def J1(k:IntKind):vW Int:=
 {get:=λv=>match v with
   |.c (.int k' n)=>if k=k' then A n else aT|_=>aT
  cK:=λn=>.c (.int k n)
  ok:=by
   intro M _ v a h;split at h
   .split at h;.rename_i hk;subst hk;cases h;exact λ_ _ _ h=>h
    .cases h
   .cases h}
theorem ZHW{p c}(h:oG p [c]):∃y,p=[y]/\Wk y c:=by cases p with|nil=>exact h.elim|cons y r=>cases r with|nil=>exact⟨y,rfl,h.1⟩|cons z r=>exact h.2.elim
theorem ZEY{T x l r}(h:qV T [x]=A (l,r)):Wk x (sl T l):=by obtain⟨p,hp,hw⟩:=yI T _ _ _ h;obtain⟨y,rfl,s⟩:=ZHW hw;grind
def fY(T:Ty):vW (List (El T)):=
 {get:=λv=>match v with
   |.c x=>match qV T [x]with|some (l,_)=>A l|none=>aT
   |_=>aT
  cK:=λl=>.c (sl T l)
  ok:=by
   intro M _ v a h;split at h
   .split at h;.rename_i l r hr;cases h;exact Ut (ZEY hr)
    .cases h
   .cases h}
def fs{α:Type}(aD:cF α)(c_:α->List Prop)(h:α->aA U):Fs U:={fn:=λxs aC=>match aC with
   |[]=>match aD.get xs with
    |some a=>A (c_ a,h a,[])|none=>aT
   |_::_=>aT}
theorem Zt{Γ}{α}{aD}{c_}{af:α->aA U}(ok:bS P M)(henc:M.enc=enc)(hΓ:∀f s,Γ f=A s->aU P M f s){f}{fn}(lv)(hf:P.funcs[f]?=A fn)(hb:fn.body=A (cd fn []))(ae:(fn.name== "runtime.NumGoroutine")=I)(hn:∀a,J (aD.cK a)≤fn.ntmps)(aa:∀a,eU (c_ a)->gD M Γ (lr M Γ) fn.ntmps lv (cd fn []) (Y5 (aD.cK a) []) (ZB M fn.ntmps fn.results.toList (af a) [])):aU P M f (fs aD c_ af):=by
 refine ZhS ok hΓ (Ce ok hΓ) lv hf hb ae ?_;intro args aC ps r X' hs ah;unfold fs at hs;simp only at hs;split at hs
 .split at hs
  .rename_i a ha;cases hs;obtain⟨h1,h2⟩:=aD.ok M henc args a ha;exact⟨aD.cK a,[],⟨h1,h2,rfl,λk x y hx=>by simp at hx,λk x y hx=>by simp at hx⟩,hn a,aa a ah⟩
  .cases hs
 .cases hs
def MD{α:Type}(aD:cF α)(c_:α->List Prop)(cs:α->List (C U)):Fs U:=
 {dU:=Y
  fn:=λxs aC=>match aC with
   |[]=>match aD.get xs with
    |some a=>A (c_ a,.ptr (.x 0) 0,[cs a])|none=>aT
   |_::_=>aT}
theorem ZqM{Γ}{α}{aD}{c_}{cs:α->List (C U)}(ok:bS P M)(henc:M.enc=enc)(hΓ:∀f s,Γ f=A s->aU P M f s){f}{fn}(lv)(hf:P.funcs[f]?=A fn)(hb:fn.body=A (cd fn []))(ae:(fn.name== "runtime.NumGoroutine")=I)(hn:∀a,J (aD.cK a)≤fn.ntmps)(aa:∀a,eU (c_ a)->gD M Γ (lr M Γ) fn.ntmps lv (cd fn []) (Y5 (aD.cK a) []) (Pp M fn.ntmps fn.results.toList [] (cs a))):aU P M f (MD aD c_ cs):=by
 refine ZqL ok hΓ (Ce ok hΓ) lv hf hb ae ?_;intro args aC ps r X' hs af;unfold MD at hs;simp only at hs;split at hs
 .split at hs
  .rename_i a ha;cases hs;obtain⟨h1,h2⟩:=aD.ok M henc args a ha;exact⟨aD.cK a,[],[],cs a,rfl,rfl,⟨h1,h2,rfl,λk x y hx=>by simp at hx,λk x y hx=>by simp at hx⟩,hn a,aa a af⟩
  .cases hs
 .cases hs
end Go.AM
namespace Go.AM
theorem ZS4{a b}:((bif a then Y else b)=Y)=(a=Y\/b=Y):=by grind
theorem ZS5{a b}:((bif a then b else I)=Y)=(a=Y/\b=Y):=by grind
theorem ZKM{a b}:((bif a then Y else b)=I)=(a=I/\b=I):=by grind
theorem ZKN{a b}:((bif a then b else I)=I)=(a=I\/b=I):=by grind
theorem bW:(∀{a b},((bif a then Y else b)=Y)=(a=Y\/b=Y))/\(∀{a b},((bif a then b else I)=Y)=(a=Y/\b=Y))/\(∀{a b},((bif a then Y else b)=I)=(a=I/\b=I))/\(∀{a b},((bif a then b else I)=I)=(a=I\/b=I))/\(∀b,((!b)=Y)=(b=I))/\(∀b,((!b)=I)=(b=Y))/\(∀{p}[Decidable p],(decide p=Y)=p)/\(∀{p}{_:Decidable p},decide p=I↔¬p)/\(∀{α:Type}[BEq α][LawfulBEq α]{a b:α},(a==b)=Y↔a=b)/\(∀{α:Type}[BEq α][LawfulBEq α]{a b:α},(a==b)=I↔a≠b)/\(∀{α:Type}[BEq α][LawfulBEq α]{a b:α},(a !=b)=Y↔a≠b)/\(∀{α:Type}(a b:α),(a≠b)=¬a=b)/\(∀{α:Type}[BEq α][LawfulBEq α]{a b:α},(a !=b)=I↔a=b)/\(∀a b,((a||b)=Y)=(a=Y\/b=Y))/\(∀a b,((a&&b)=Y)=(a=Y/\b=Y))/\(∀{x y},(x||y)=I↔x=I/\y=I)/\∀{x y},(x&&y)=I↔x=Y->y=I:=⟨ZS4,ZS5,ZKM,ZKN,Xs,K2,Qh,Xp,beq_iff_eq,KE,bne_iff_ne,ne_eq,bne_eq_false_iff_eq,K1,Q9,QJ,Bool.and_eq_false_imp⟩
abbrev Tr(p:Prop):Prop:=p->p
abbrev Tt(b:Bool):Prop:=Tr (b=Y)
abbrev iB(b:Bool)(aD B:Prop):Prop:=(b=Y->aD)/\(b=I->B)
theorem vE:type_of%(And.intro @H.sj (And.intro @W.sj (And.intro @H.gT (And.intro @H.dz @H.dt)))):=And.intro @H.sj (And.intro @W.sj (And.intro @H.gT (And.intro @H.dz @H.dt)))
def Tk:Nat->Bool->Prop->Prop|0,_,r=>r|n+1,b,r=>Tt b/\Tk n b r
theorem TkE:∀{n b p},Tk n b p=p:=by intro n b p;induction n with|zero=>rfl|succ n ih=>rw[Tk,ih];exact propext ⟨λh=>h.2,λh=>⟨id,h⟩⟩
theorem bR:(∀{p},Tr p=True)/\(∀{p},(True/\p)=p)/\(∀{p},(p/\True)=p)/\(∀{p},(p->p)=True)/\(∀{p:Prop},(True->p)=p)/\(∀{p:Prop},(p->True)=True)/\∀{n b p},Tk n b p=p:=⟨by simp,by simp,by simp,by simp,by simp,by simp,TkE⟩
theorem vcF:(∀{α:Type}{a:α},(a=a)=True)/\(Y=I)=False/\(I=Y)=False/\(∀{p},(False->p)=True)/\(∀{p:Prop},(True->p)=p)/\(∀{p},(True/\p)=p)/\(∀{p},(p/\True)=p)/\(!true)=I/\(!false)=Y:=⟨by simp,by simp,by simp,by simp,by simp,by simp,by simp,rfl,rfl⟩
end Go.AM
namespace Go.AM
variable{P:Program}{M:cW U}
def Bc:List (FuncId×Fs U)->FuncId->Option (Fs U)|[],_=>aT|(f,s)::r,k=>bif Nat.beq k f then A s else Bc r k
def Za(l:List (FuncId×Fs U)):cD U:=⟨Bc l,I,I⟩
def kW(l:List (FuncId×Fs U)):cD U:=⟨Bc l,Y,I⟩
def qW(l:List (FuncId×Fs U)):cD U:=⟨Bc l,I,Y⟩
def pR(P:Program)(M:cW U):List (FuncId×Fs U)->Prop|[]=>True|(f,s)::r=>aU P M f s/\pR P M r
theorem mD:∀{l},pR P M l->∀f s,Bc l f=A s->aU P M f s|[],_,f,s,h=>by cases h|(f',s')::r,hk,f,s,h=>by unfold Bc at h;cases e:Nat.beq f f' with|true=>rw[e]at h;cases h;rw[Qt e];exact hk.1|false=>rw[e]at h;exact mD hk.2 f s h
theorem Zcj{l}{α}{aD}{c_:α->Prop}{ab}(ok:bS P M)(henc:M.enc=enc)(hl:pR P M l){f}{fn}(lv)(hf:P.funcs[f]?=A fn)(hb:fn.body=A (cd fn []))(aa:(fn.name== "runtime.NumGoroutine")=I)(n)(hn:∀a,J (aD.cK a)=n)(ae:n≤fn.ntmps)(s:∀a,c_ a->gD M (Za l) (lr M (Za l)) fn.ntmps lv (cd fn []) (Y5 (aD.cK a) []) (ZB M fn.ntmps fn.results.toList (ab a) [])):aU P M f (fs aD (λa=>[c_ a]) ab):=Zt ok henc (mD hl) lv hf hb aa (λa=>by rw[hn];exact ae) λa h=>s a h.1
theorem Zll{l}{α}{aD}{c_:α->Prop}{ab}(ok:bS P M)(henc:M.enc=enc)(hl:pR P M l){f}{fn}(lv)(hf:P.funcs[f]?=A fn)(hb:fn.body=A (cd fn []))(aa:(fn.name== "runtime.NumGoroutine")=I)(n)(hn:∀a,J (aD.cK a)=n)(ae:n≤fn.ntmps)(s:∀a,c_ a->gD M (kW l) (lr M (kW l)) fn.ntmps lv (cd fn []) (Y5 (aD.cK a) []) (ZB M fn.ntmps fn.results.toList (ab a) [])):aU P M f (fs aD (λa=>[c_ a]) ab):=Zt ok henc (mD hl) lv hf hb aa (λa=>by rw[hn];exact ae) λa h=>s a h.1
theorem Zlm{l}{α}{aD}{c_:α->Prop}{cs}(ok:bS P M)(henc:M.enc=enc)(hl:pR P M l){f}{fn}(lv)(hf:P.funcs[f]?=A fn)(hb:fn.body=A (cd fn []))(aa:(fn.name== "runtime.NumGoroutine")=I)(n)(hn:∀a,J (aD.cK a)=n)(ab:n≤fn.ntmps)(s:∀a,c_ a->gD M (Za l) (lr M (Za l)) fn.ntmps lv (cd fn []) (Y5 (aD.cK a) []) (Pp M fn.ntmps fn.results.toList [] (cs a))):aU P M f (MD aD (λa=>[c_ a]) cs):=ZqM ok henc (mD hl) lv hf hb aa λa=>by grind λa h=>s a h.1
theorem Jj{l}{α}{aD}{c_:α->Prop}{μ:α->Nat}{s}(ok:bS P M)(henc:M.enc=enc)(hl:pR P M l){f}{fn}(lv)(hf:P.funcs[f]?=A fn)(hb:fn.body=A (cd fn []))(ab:(fn.name== "runtime.NumGoroutine")=I)(n)(hn:∀a,J (aD.cK a)=n)(aj:n≤fn.ntmps)(ae:∀N a,c_ a->μ a<N+1->gD M (Za ((f,fs aD (λa=>[c_ a,μ a<N]) s)::l)) (lr M (Za ((f,fs aD (λa=>[c_ a,μ a<N]) s)::l))) fn.ntmps lv (cd fn []) (Y5 (aD.cK a) []) (ZB M fn.ntmps fn.results.toList (s a) [])):aU P M f (fs aD (λa=>[c_ a]) s):=by
 have ah:∀N,aU P M f (fs aD (λa=>[c_ a,μ a<N]) s):=by
  intro N;induction N with
  |zero=>
   refine tn ⟨fn,hf,by rw[hb];rfl,ab⟩ rfl ?_;intro args aC ps r X' hs af;exfalso;unfold fs at hs;simp only at hs;split at hs
   .split at hs
    .cases hs;exact absurd af.2.1 O
    .cases hs
   .cases hs|succ N ih=>exact Zt (Γ:=Za ((f,fs aD (λa=>[c_ a,μ a<N]) s)::l)) ok henc (mD ⟨ih,hl⟩) lv hf hb ab λa=>by grind λa h=>ae N a h.1 h.2.1
 refine tn (ah 0).1 rfl ?_;intro args aC ps r X' hs af;unfold fs at hs;simp only at hs;split at hs
 .split at hs
  .rename_i a ha;cases hs;have e:(fs aD (λx=>[c_ x,μ x<μ a+1]) s).fn args []=A ([c_ a,μ a<μ a+1],s a,[]):=by unfold fs;simp only[ha]
   exact(ah (μ a+1)).cE rfl args [] _ _ [] e ⟨af.1,KN _,trivial⟩
  .cases hs
 .cases hs
theorem YV{α}{aD}{c_:α→Prop}{μ:α→Nat}{h}{f}(h0:∃fn,P.funcs[f]?=A fn∧fn.body.isSome=Y∧(fn.name== "runtime.NumGoroutine")=I)(key:∀N,aU P M f (fs aD (λa=>[c_ a,μ a<N]) h)):aU P M f (fs aD (λa=>[c_ a]) h):=by
 refine tn h0 rfl ?_;intro args aC ps r X' s aa;unfold fs at s;simp only at s;split at s
 .split at s
  .rename_i a ha;cases s;have e:(fs aD (λx=>[c_ x,μ x<μ a+1]) h).fn args []=A ([c_ a,μ a<μ a+1],h a,[]):=by unfold fs;simp only[ha]
   exact(key (μ a+1)).cE rfl args [] _ _ [] e ⟨aa.1,KN _,trivial⟩
  .cases s
 .cases s
theorem Zzf{α aD}{c_ s:α->Prop}{h f}(c:aU P M f (fs aD (λa=>[c_ a]) h))(hp:∀a,s a->c_ a):aU P M f (fs aD (λa=>[s a]) h):=by
 refine tn c.1 rfl ?_;intro args aC ps r X' hs ab;unfold fs at hs;simp only at hs;split at hs
 .split at hs
  .rename_i a ha;cases hs;have e:(fs aD (λx=>[c_ x]) h).fn args []=A ([c_ a],h a,[]):=by unfold fs;simp only[ha]
   exact c.cE rfl args [] _ _ [] e ⟨hp a ab.1,trivial⟩
  .cases hs
 .cases hs
theorem YU{α}{aD}{c_:α→Prop}{μ:α→Nat}{s}{f}(h0:∃fn,P.funcs[f]?=A fn∧fn.body.isSome=Y∧(fn.name== "runtime.NumGoroutine")=I):aU P M f (fs aD (λa=>[c_ a,μ a<0]) s):=by
 refine tn h0 rfl ?_;intro args aC ps r X' h aa;exfalso;unfold fs at h;simp only at h;split at h
 .split at h;.cases h;exact absurd aa.2.1 O
  .cases h
 .cases h
theorem M9{l}{α β}{aD}{B}{ae:α->Prop}{ab:β->Prop}{μA:α->Nat}{μB:β->Nat}{s}{aa}(ok:bS P M)(henc:M.enc=enc)(hl:pR P M l){f f'}{fn af}(lv ar)(hf:P.funcs[f]?=A fn)(ao:P.funcs[f']?=A af)(hb:fn.body=A (cd fn []))(au:af.body=A (cd af []))(ai:(fn.name== "runtime.NumGoroutine")=I)(ah:(af.name== "runtime.NumGoroutine")=I)(n n')(hn:∀a,J (aD.cK a)=n)(az:∀a,J (B.cK a)=n')(a1:n<=fn.ntmps)(av:n'<=af.ntmps)(al:∀N a,ae a->μA a<N+1->gD M (Za ((f,fs aD (λa=>[ae a,μA a<N]) s)::(f',fs B (λa=>[ab a,μB a<N]) aa)::l)) (lr M (Za ((f,fs aD (λa=>[ae a,μA a<N]) s)::(f',fs B (λa=>[ab a,μB a<N]) aa)::l))) fn.ntmps lv (cd fn []) (Y5 (aD.cK a) []) (ZB M fn.ntmps fn.results.toList (s a) []))(ak:∀N a,ab a->μB a<N+1->gD M (Za ((f,fs aD (λa=>[ae a,μA a<N]) s)::(f',fs B (λa=>[ab a,μB a<N]) aa)::l)) (lr M (Za ((f,fs aD (λa=>[ae a,μA a<N]) s)::(f',fs B (λa=>[ab a,μB a<N]) aa)::l))) af.ntmps ar (cd af []) (Y5 (B.cK a) []) (ZB M af.ntmps af.results.toList (aa a) [])):aU P M f (fs aD (λa=>[ae a]) s)/\aU P M f' (fs B (λa=>[ab a]) aa):=by
 have h0:∃fn,P.funcs[f]?=A fn∧fn.body.isSome=Y∧(fn.name== "runtime.NumGoroutine")=I:=⟨fn,hf,by rw[hb]; rfl,ai⟩;have aq:∃fn,P.funcs[f']?=A fn∧fn.body.isSome=Y∧(fn.name== "runtime.NumGoroutine")=I:=⟨af,ao,by rw[au]; rfl,ah⟩;have am:∀N,aU P M f (fs aD (λa=>[ae a,μA a<N]) s)/\aU P M f' (fs B (λa=>[ab a,μB a<N]) aa):=by intro N;induction N with|zero=>exact⟨YU h0,YU aq⟩|succ N ih=>exact⟨Zt (Γ:=Za ((f,fs aD (λa=>[ae a,μA a<N]) s)::(f',fs B (λa=>[ab a,μB a<N]) aa)::l)) ok henc (mD ⟨ih.1,ih.2,hl⟩) lv hf hb ai λa=>by grind λa h=>al N a h.1 h.2.1,Zt (Γ:=Za ((f,fs aD (λa=>[ae a,μA a<N]) s)::(f',fs B (λa=>[ab a,μB a<N]) aa)::l)) ok henc (mD ⟨ih.1,ih.2,hl⟩) ar ao au ah λa=>by grind λa h=>ak N a h.1 h.2.1⟩
 exact⟨YV h0 λN=>(am N).1,YV aq λN=>(am N).2⟩
end Go.AM
namespace Go.AM
mutual def Y3:H->Int->Int->Int|.mk _ w ks,d,l=>if d=0\/l-1-J w<0 then-1 else ZT ks (d-1) (l-1-J w)def ZT:List H->Int->Int->Int|[],_,l=>l|t::r,d,l=>if l<0 then l else ZT r d (Y3 t d l)end
mutual def Zo:H->Nat|.mk _ w ks=>1+J w+Ze ks def Ze:List H->Nat|[]=>0|t::r=>Zo t+Ze r end
mutual def kg:H->Prop|.mk _ w ks=>J w<=17592186044416/\J ks<=17592186044416/\rD ks def rD:List H->Prop|[]=>True|t::r=>kg t/\rD r end
def dc:List Int->List Int|[]=>[]|x::r=>match dc r with|[]=>if x=0 then[]else[x]|y::s=>x::y::s
def J2:List H->List H|[]=>[]|x::r=>match J2 r with|[]=>if x.D=0 then[]else[x]|y::s=>x::y::s
mutual def Z2:H->H|.mk k w ks=>if k=0 then H.nil else if k=1 then .mk 1 (dc w) (J2 (J5 ks))else .mk k w (J5 ks)def J5:List H->List H|[]=>[]|t::r=>Z2 t::J5 r end
open Classical in noncomputable def ZW(a b:H):Bool:=decide (a=b)
def JJ(t:H)(i:Int):Int:=if i<0 then 0 else aR t.aS (G i) 0
def jq(t:H)(i:Int):H:=if i<0 then H.nil else aR t.X (G i) H.nil
mutual def ei:H->Prop|.mk k w ks=>(-9223372036854775808<=k/\k<=9223372036854775807)/\(∀x∈w,0<=x/\x<18446744073709551616)/\Jf ks def Jf:List H->Prop|[]=>True|t::r=>ei t/\Jf r end
def wd(c:Int):Int:=if c=0 then 0 else if c=1 then 1 else if c=2 then 8 else if c=3 then 16 else if c=4 then 32 else if c=5 then 64 else-1
def uz(c n:Int):Bool:=decide (0<=wd c/\n<2^G (wd c))
def ic(V:Int)(t:H):Bool:=if 2<=V/\V<=7 then decide (t.D=10/\J t.X=0/\J t.aS=1)&&uz (V-2) (aR t.aS 0 0)else if V=9 then decide (t.D=1)else decide (t.D≠10)
mutual def Zf:H->Int->Bool|.mk k w ks,d=>if k=0 then decide ( J w=0/\J ks=0)else if k=10 then decide ( J w=1/\J ks=0)else if d=0 then I else if k=1 then decide ( J w<65536/\J ks<65536)&&YR 1 ks (d-1)else decide (2<=k/\k<=9/\J w=0/\J ks<1048576)&&YR k ks (d-1)def YR(V:Int):List H->Int->Bool|[],_=>Y|t::r,d=>ic V t&&Zf t d&&YR V r d end
end Go.AM
namespace Go.AM
open Go.ChangeShapes Go.WideShapes Go.RowKit
def RR(t:H):Prop:=kg t/\ei t
theorem ZOt{ks}(h:∀t∈ks,RR t):rD ks/\Jf ks:=by induction ks with|nil=>trivial|cons t r ih=>have h1:=h t (Q6 ..);have s:=ih λx hx=>h x (Q4 _ hx);exact⟨⟨h1.1,s.1⟩,h1.2,s.2⟩
section
variable{U:gP}{P:Program}{M:cW U}{w:World}{aF:Type}{henc:TypeId×Value->aF}
def eC(M:cW U)(m:Addr->Option Value)(vs:List Value)(cs:List (C U)):Prop:=J vs=J cs/\∀(j:Nat)v c,vs[j]?=A v->cs[j]?=A c->b_ M m v c
theorem eC.cE{m v c}(h:b_ M m v c):eC M m [v] [c]:=by refine⟨rfl,λj u d s hd=>?_⟩;grind
theorem eC.fG{m vs a n c1 h}(h1:eC M m ((vs.drop a).take n) c1)(hn:J c1=n)(s:a+n<=J vs)(h2:eC M m (vs.drop (a+n)) h):eC M m (vs.drop a) (c1++h):=by
 have e:vs.drop a=(vs.drop a).take n++vs.drop (a+n):=by rw[show vs.drop (a+n)=(vs.drop a).drop n by simp_all];exact(QM n _).symm
 rw[e];have hl:J ((vs.drop a).take n)=J c1:=h1.1;refine⟨by simp only[Qi,hl,h2.1],λj v c s L=>?_⟩;rw[X8]at s L;rw[hl]at s;split at s;.rename_i hj;rw[Q5 hj]at L;exact h1.2 j v c s L
 .rename_i hj;rw[Q0 hj]at L;exact h2.2 _ v c s L
theorem eC.done{m vs n}(h:J vs=n):eC M m (vs.drop n) ([]):=by rw[Qb O];exact⟨rfl,λj v c s=>by simp at s⟩
def lM(henc:TypeId×Value->aF)(P:Program)(w:World)(n:Nat)(t:TypeId)(cs:List Value):Prop:=∃x,DataW.trod henc P w 0 (λ_=>Y) Y n t cs=A x/\(x.1.weights P t).all (·<=reachBytes)=Y
theorem xN(ok:bS P M){t ag zs}(h:M.var t=A (ag,zs)):P.cellsOf t=J zs:=by obtain⟨_,i,z,d,s,h2,h3,_⟩:=ok.var _ _ _ h;simp[Program.cellsOf,s,h3]
theorem oJ(ok:bS P M){t k n0 n cs}(hv:M.var t=A (I,[.int k n0]))(h:lM henc P w n t cs):∃z,eC M w.cell? cs [.int k z]/\k.min<=z/\z<=k.max:=by obtain⟨x,hx,_⟩:=h;obtain⟨_,i,z,d,h1,h2,h3,h4,h5,h6,h7,_⟩:=ok.var _ _ _ hv;have hd:=h7 rfl k n0 rfl;subst hd;obtain⟨q,rfl,_,s⟩:=DataW.trod_int h2 hx;simp only[Lit.wf,Q9,Qh]at s;exact⟨q,.cE (.int k q),s.1,s.2⟩
theorem jV(ok:bS P M){t ft i off ag zs n cs}(hf:M.f_ t i=A (off,ft))(hv:M.var ft=A (ag,zs))(h:lM henc P w n t cs):∃m,n=m+1/\J cs=P.cellsOf t/\lM henc P w m ft ((cs.drop off).take (J zs)):=by
 obtain⟨x,hx,hw⟩:=h;obtain⟨fs,fd,h1,h2,h3,h4⟩:=ok.f_ _ _ _ _ hf;obtain⟨xs,m,rfl,rfl,hl,ai,s⟩:=DataW.trod_struct h1 hx;have hg:=s i fd h2;rw[h3,h4,xN ok hv]at hg;have hi:i<J xs:=by have:=(Xk.1 h2).1;omega
 have hy:=Q8 hi;refine⟨m,rfl,hl,xs[i],by rw[hg,hy],?_⟩;rw[QZ]at hw⊢;intro q hq;refine hw q ?_;simp only[DataW.weights,h1];exact DataW.weights_mem_each (j:=i) (t:=ft) (d:=xs[i].1) (by grind) (by grind) q hq
theorem ZhA{α:Type}(p:Nat->α->Prop):∀n,(∀i,i<n->∃x,p i x)->∃l,J l=n/\∀i x,l[i]?=A x->p i x|0,_=>⟨[],rfl,λi x h=>by simp at h⟩|n+1,h=>by obtain⟨l,s,h2⟩:=ZhA p n λi hi=>h i O;obtain⟨x,hx⟩:=h n O;refine⟨l++[x],by simp[s],λi y hy=>?_⟩;grind
theorem ZgG{e}:∀{l}{i:Nat}{d:DataW aF},l[i]?=A d->∀q∈d.weights P e,q∈DataW.weightsAll P e l|d0::l,0,d,h,q,hq=>by simp at h;subst h;simp only[DataW.weightsAll,Qo];exact .inl hq|d0::l,i+1,d,h,q,hq=>by simp only[DataW.weightsAll,Qo];exact .inr (ZgG (l:=l) (i:=i) (by simpa using h) q hq)
theorem yu(ok:bS P M){t aE n cs}{j_:U.El aE->Prop}(hs:M.iO t=A aE)(ih:∀m,m<n->∀cs,lM henc P w m (M.dQ aE) cs->∃e,eC M w.cell? cs (M.enc aE e)/\j_ e)(h:lM henc P w n t cs):∃l,eC M w.cell? cs [.slice aE l .bA]/\J l*M.bytes aE<=reachBytes/\∀e∈l,j_ e:=by
 obtain⟨x,hx,hw⟩:=h;have hu:=ok.sl _ _ hs;obtain⟨i0,ag,zs,z,h1,h2,h3,h4,h5,h6⟩:=ok.el aE;have L:P.cellsOf (M.dQ aE)=M.sz aE:=by simp[Program.cellsOf,h1,h2]
 have hb:P.bytesOf (M.dQ aE)=M.bytes aE:=by simp[Program.bytesOf,h1,h3]
 rcases DataW.trod_slice hu hx with⟨rfl,_⟩|⟨a,len,cap,elems,rest,m,rfl,rfl,rfl,_,hlc,_,hel,hels,_⟩;.exact⟨[],.cE (.fa aE .bA),by simp,λe he=>by cases he⟩
 .simp only[DataW.weights,hu,QF,hb]at hw;rw[List.all_cons,Q9,Qh,QZ]at hw;obtain⟨a3,ak⟩:=hw;obtain⟨l,hl,s⟩:=ZhA (λi(e:U.El aE)=>(∀j c,(M.enc aE e)[j]?=A c->∃v,w.cell? (a.add (i*M.sz aE+j))=A v/\b_ M w.cell? v c)/\j_ e) len (by
   intro i hi;have hg:=hels i hi;have hy:=Q8 (l:=elems) (i:=i) O;rw[hy]at hg;obtain⟨ci,al,am⟩:=Qq.1 hg;obtain⟨_,a7,ao⟩:=World.cells?_some al;obtain⟨e,aa,aq⟩:=ih m O ci ⟨elems[i],am,by rw[QZ];intro q hq;refine ak q ?_;rw[Qo];exact .inl (ZgG (i:=i) (d:=elems[i].1) (by grind) q hq)⟩;refine⟨e,λj c hj=>?_,aq⟩;have ax:=aa.1;have ai:j<J ci:=by have:=(Qc.1 hj).1;omega
   have ab:=Q8 ai;refine⟨ci[j],?_,aa.2 j _ c ab hj⟩;rw[<-ab,<-ao j O,L,Go.Deep.add_add]);refine⟨l,.cE (.fS .bA hl hlc λi x hx j c hj=>(s i x hx).1 j c hj),?_,λe he=>?_⟩;.grind
  .obtain⟨i,hi,rfl⟩:=XX he;exact(s i _ (Q8 hi)).2
end
section
variable{P:Program}{M:cW U}{w:World}{aF:Type}{henc:TypeId×Value->aF}
structure eR(M:cW U):Prop where
 enc:M.enc=AM.enc
 bytes:M.bytes=K.bytes
 int:∃n,M.var (M.dQ .int)=some (false,[.int .i64 n])u64:∃n,M.var (M.dQ .u64)=some (false,[.int .u64 n])var:∃zs,M.var (M.dQ .aX)=some (true,zs)/\zs.length=3
 f0:∃t n,M.f_ (M.dQ .aX) 0=some (0,t)/\M.var t=some (false,[.int .i64 n])f1:∃t c,M.f_ (M.dQ .aX) 1=some (1,t)/\M.var t=some (false,[c])/\M.iO t=some .u64
 f2:∃t c,M.f_ (M.dQ .aX) 2=some (2,t)/\M.var t=some (false,[c])/\M.iO t=some .aX
theorem zK{n b}(h:n*b<=reachBytes)(s:8<=b):n<=17592186044416:=by have h1:n*8<=n*b:=Nat.mul_le_mul_left _ s;have h2:reachBytes<2^47:=reachBytes_lt;omega
theorem ZQc(ok:bS P M)(T:eR M){n cs}(h:lM henc P w n (M.dQ .u64) cs):∃e:Int,eC M w.cell? cs (M.enc .u64 e)/\0<=e/\e<18446744073709551616:=by obtain⟨n0,hv⟩:=T.u64;obtain⟨z,s,h2,h3⟩:=oJ ok hv h;refine⟨z,by rw[T.enc];exact s,h2,?_⟩;have:z<=18446744073709551615:=h3;omega
theorem IJ(ok:bS P M)(T:eR M):∀n(cs:List Value),lM henc P w n (M.dQ .aX) cs->∃e:H,eC M w.cell? cs (M.enc .aX e)/\RR e:=by intro n;induction n using Nat.strongRecOn with|ind n IH=>
  intro cs h;obtain⟨zs,hz,s⟩:=T.var;obtain⟨t0,n0,f0,v0⟩:=T.f0;obtain⟨t1,c1,f1,v1,s1⟩:=T.f1;obtain⟨t2,c2,f2,v2,s2⟩:=T.f2;obtain⟨m,rfl,hl,r0⟩:=jV ok f0 v0 h;obtain⟨m',e',_,r1⟩:=jV ok f1 v1 h;cases e';obtain⟨m',e',_,r2⟩:=jV ok f2 v2 h;cases e';have ab:J cs=3:=by rw[hl,xN ok hz,s]
  obtain⟨k,a1,a2,a3⟩:=oJ ok v0 r0;obtain⟨ws,b1,b2,b3⟩:=yu ok s1 (λm _ cs h=>ZQc ok T h) r1;obtain⟨ks,d1,d2,d3⟩:=yu ok s2 (λm' hm cs h=>IH m' O cs h) r2;rw[T.bytes]at b2 d2;have g:=a1.fG rfl (by simp;omega) (b1.fG rfl (by simp;omega) (d1.fG rfl (by simp;omega) (eC.done (n:=3) ab)));refine⟨.mk k ws ks,by rw[T.enc];exact g,?_⟩;have hk:=ZOt d3;exact⟨⟨zK b2 V1,zK d2 V1,hk.1⟩,⟨a2,a3⟩,b3,hk.2⟩
end
section
variable{P:Program}{M:cW U}{aF:Type}{henc:TypeId×Value->aF}
def Et{α}(henc:TypeId×Value->aF)(P:Program)(M:cW U)(aD:vW α)(t:TypeId)(j_:α->Prop):Prop:=(∀a,aD.get (aD.cK a)=A a)/\∀w(h:Nat)v n,Value.okWide P w .any h t v->lM henc P w n t v.cells.toList->∃a,j_ a/\∀(g:Gh)live,g.m=w.cell?->cB M g Ym live v (aD.cK a)
def Nj{α}(henc:TypeId×Value->aF)(P:Program)(M:cW U)(aD:cF α)(ts:List TypeId)(j_:α->Prop):Prop:=(∀a,aD.get (aD.cK a)=A a)/\∀w(h:Nat)(vs:List Value)ds ps,(∀(j:Nat)t v,ts[j]?=A t->vs[j]?=A v->Value.okWide P w .any h t v)->DataW.TrodAll henc P w 0 (λ_=>Y) Y ts vs ds ps->(DataW.weightsEach P ts ds).all (·<=reachBytes)=Y->∃a,j_ a/\J vs=J (aD.cK a)/\∀(g:Gh)live,g.m=w.cell?->∀(j:Nat)v x,vs[j]?=A v->(aD.cK a)[j]?=A x->cB M g Ym live v x
theorem ZBp:Nj henc P M cF.nil [] λ_=>True:=by refine⟨λ_=>rfl,λw s vs ds ps _ h _=>?_⟩;obtain⟨rfl,_,_⟩:=trodAll_nil h;exact⟨(),trivial,rfl,λ_ _ _ j v x hv=>by simp at hv⟩
theorem ZlB{α β aD B t ts}{j_:α->Prop}{s:β->Prop}(hA:Et henc P M aD t j_)(hB:Nj henc P M B ts s):Nj henc P M (cF.cons aD B) (t::ts) λp=>j_ p.1/\s p.2:=by
 refine⟨λa=>?_,λw aa vs ds ps ab h hw=>?_⟩;.simp only[cF.cons,hA.1,hB.1]
 .obtain⟨v,ai,d,af,p,q,rfl,rfl,rfl,h1,h2⟩:=trodAll_cons h;obtain⟨n,h1⟩:=h1;simp only[DataW.weightsEach,List.all_append,Q9]at hw;obtain⟨a,ga,ra⟩:=hA.2 w aa v n (ab 0 t v rfl rfl) ⟨(d,p),h1,hw.1⟩;obtain⟨b,gb,lb,rb⟩:=hB.2 w aa ai af q (λj t v ht hv=>ab (j+1) t v (by simpa using ht) (by simpa using hv)) h2 hw.2;refine⟨(a,b),⟨ga,gb⟩,by simp[cF.cons,lb],λg am hg j u x hu hx=>?_⟩;cases j with|zero=>simp[cF.cons]at hu hx;grind|succ j=>simp[cF.cons]at hu hx;grind
theorem eC.E8{g:Gh}{w:World}{vs cs}(h:eC M w.cell? vs cs)(hg:g.m=w.cell?)(hp:∀c∈cs,c.plain=Y):dJ M g Ym vs cs:=by
 refine⟨h.1,λj v c hv L=>⟨by rw[hg];exact h.2 j v c hv L,?_⟩⟩;have s:=hp c (Xf L);cases c with
 |slice aE l' tl'=>cases tl'<;>first|trivial|(simp[C.plain]at s)
 |_=>trivial
theorem ZMl(ok:bS P M)(s:M.enc=AM.enc){T}{j_:El T->Prop}(aa:∃ab ft,M.f_ (M.dQ T) 0=A (ab,ft))(hr:∀w n cs,lM henc P w n (M.dQ T) cs->∃e:El T,eC M w.cell? cs (M.enc T e)/\j_ e):Et henc P M (fe T) (M.dQ T) j_:=by refine⟨λa=>ZKB T a,λw ah v n af h=>?_⟩;obtain⟨ab,ft,aa⟩:=aa;obtain⟨fs,fd,h1,_⟩:=ok.f_ _ _ _ _ aa;obtain⟨vs,rfl,_⟩:=okWide_struct h1 af;obtain⟨e,he,hg⟩:=hr w n _ h;refine⟨e,hg,λg aj ae=>⟨vs,rfl,?_⟩⟩;rw[s]at he;exact he.E8 ae λc L=>by have:=ok.eK T e c (by simp_all);exact this
theorem ZMk(ok:bS P M){t T}{j_:El T->Prop}(hs:M.iO t=A T)(hr:∀w n cs,lM henc P w n (M.dQ T) cs->∃e:El T,eC M w.cell? cs (M.enc T e)/\j_ e):Et henc P M (fY T) t λl=>J l*M.bytes T<=reachBytes/\∀e∈l,j_ e:=by refine⟨λa=>by cases T<;>rfl,λw aa v n s h=>?_⟩;have hu:=ok.sl _ _ hs;obtain⟨a,len,aj,rfl⟩:=okWide_slice hu s;obtain⟨l,h1,h2,h3⟩:=yu ok hs (λm _ cs h=>hr w m cs h) h;refine⟨l,⟨h2,h3⟩,λg ab hg=>?_⟩;have:=h1.E8 hg (by intro c L;simp at L;subst L;rfl);exact this.2 0 _ _ (by rfl) rfl
theorem ZAO{α}{aD:cF α}{ts:List TypeId}{j_:α->Prop}{c_:α->Prop}{f}(hA:Nj henc P M aD ts j_)(aa:∀a,j_ a->c_ a)(L:aU P M f (fs aD (λa=>[c_ a]) λ_=>.c (.bool Y)))(w)(h)(args:Array Value)(ds:List (DataW aF))(ps:List MemPlace)(ak:∀(j:Nat)t v,ts[j]?=A t->args.toList[j]?=A v->Value.okWide P w .any h t v)(ht:DataW.TrodAll henc P w 0 (λ_=>Y) Y ts args.toList ds ps)(hw:(DataW.weightsEach P ts ds).all (·<=reachBytes)=Y):Calls P f args w λe w'=>e=.returned (.bool Y)/\Below w.heap.size w w':=by
 obtain⟨a,ga,hl,hr⟩:=hA.2 w h args.toList ds ps ak ht hw;let g:Gh:=⟨w.cell?,λ_=>aT,λ_=>⟨0,0,aT⟩,λ_=>aT⟩;have hs:(fs aD (λa=>[c_ a]) λ_=>.c (.bool Y)).fn (aD.cK a) []=A ([c_ a],.c (.bool Y),[]):=by simp only[fs,hA.1]
 have ae:ib M w g args.toList (aD.cK a) [] []:=by refine⟨⟨λb v hv=>⟨hv,rfl⟩,λb t ht=>by cases ht⟩,λb t ht=>(by cases ht),hl,λj v x hv hx=>hr g _ rfl j v x hv hx,λk cs hk=>by simp at hk,λ_ _=>rfl,λt x hx=>by cases hx⟩
 have:=L.cE rfl (aD.cK a) [] _ _ [] hs ⟨aa a ga,trivial⟩ (X3 _) w g args.toList ae;refine Calls.mono (by simpa using this) ?_;rintro e w'⟨v,rfl,g',aB⟩;have hv:b_ M g'.m v (.bool Y):=aB.val.1;cases hv;refine⟨rfl,aB.fr.dH.os,aB.fr.dH.tape,aB.fr.dH.output,aB.fr.dH.size,λk hk=>?_⟩;exact(aB.fr.gn k hk λo s t ht=>by cases ht).1
theorem ZGA{f}{s:ChangeSpec}{apart fresh handsOn again aJ W' args ds gs aj tb}(hl:laidOutB P=Y)(al:(f.params.toList.all λt=>P.readableRec t&&decide (t<P.types.size))=Y)(ak:f.resultTypes=#[tb])(ae:P.underlying tb=A .bool)(ab:s.vars=[])(bc:s.fn aF (ds++gs)={results:=[.lit (.bool Y)],args:=ds,vars:=[]})(hW:DataW.Whole henc P f.params.toList s.vars apart aJ args.toList ds gs aj)(hb:Below aJ.heap.size aJ W'):s.post henc P f apart fresh handsOn again aJ args (.bool Y) W':=by
 have a2:=hW;obtain⟨p,q,h1,h2,e,_⟩:=a2;have hq:q=[]:=by rw[ab]at h2;exact(trodVars_none h2).2
 subst hq;have aw:=hW.lt;have a3:∀{ts:List TypeId}{vs:List Value}{ds:List (DataW aF)}{ps:List MemPlace}{sp:Nat->Bool},(∀t∈ts,P.readableRec t=Y/\t<P.types.size)->(∀x∈ps,x.block<aJ.heap.size)->(∀x∈ps,sp x.block=Y)->DataW.TrodAll henc P aJ 0 (λ_=>Y) Y ts vs ds ps->DataW.TrodAll henc P W' 0 sp Y ts vs ds ps:=by intro ts;induction ts with|nil=>intro vs ds ps sp _ _ _ h;obtain⟨rfl,rfl,rfl⟩:=trodAll_nil h;exact rfl|cons t ts ih=>intro vs ds ps sp hr hx hs h;obtain⟨v,bi,d,be,p,q,rfl,rfl,rfl,h3,h4⟩:=trodAll_cons h;have ay:=hr t (Q6 ..);exact⟨p,q,WideElems.Trod_stays hl ay.1 ay.2 h3 (λx aa=>hb.same (hx x (Xc _ aa))) λx aa=>hs x (Xc _ aa),ih (λt ht=>hr t (Q4 _ ht)) (λx aa=>hx x (Xo _ aa)) (λx aa=>hs x (Xo _ aa)) h4,rfl⟩
 have ai:∀t∈f.params.toList,P.readableRec t=Y/\t<P.types.size:=by intro t ht;have:=QZ.1 al t ht;simpa using this
 rw[Qj]at e;replace e:=e.symm;subst e;have ao:∀(b:Nat)(sp:Nat->Bool)(hd:Bool),DataW.TrodAll henc P W' b sp hd f.resultTypes.toList ((Value.bool Y).resultList f.resultTypes.size) [.lit (.bool Y)] []:=by intro b sp hd;rw[ak];exact trodAll_mk1 ⟨1,by simp[DataW.trod,ae,Value.cells]⟩
 have av:∀(j:Nat)(t:TypeId)(r:Value),f.resultTypes[j]?=A t->((Value.bool Y).resultList f.resultTypes.size)[j]?=A r->Value.okWide P W' .any 0 t r:=by intro j t r h3 h4;rw[ak]at h3 h4;cases j with|zero=>simp at h3;subst h3;simp[Value.resultList]at h4;subst h4;simp[Value.okWide,ae,Cell.okWide,Cell.ok]|succ j=>simp at h3
 have a7:∀x∈p,(λb=>decide (b<aJ.heap.size)) x.block=Y:=λx hx=>by grind
 have a1:∀sp:Nat->Bool,DataW.TrodVars henc P W' sp s.vars [] []:=λsp=>by rw[ab];try rfl
 refine⟨ds,gs,p,[],p,[],hW,?_,?_,?_,hb.frame _,λ_=>⟨av,[.lit (.bool Y)]++ds,[],[]++p,?_,λx hx _=>by simpa using hx⟩⟩;.grind
 .grind
 .grind
 .obtain⟨_,_,_,_,_,hz,hn⟩:=hW;refine⟨[]++p,[],trodAll_append (a3 ai aw (λ_ _=>rfl) h1) (ao 0 (λ_=>Y) Y),a1 _,by simp,?_,by simpa using hn⟩;intro b au hx;have a6:MemPlace.cell b au∈p:=by simpa using hx
  rw[hb.frozen (by exact aw _ a6)];exact hz b au O
end
end Go.AM
namespace Go.AM
def Z8(w:Int)(i:Nat):Int:=w/256^i%256
def Zu(m:Int)(i:Int):Bool:=decide (m/2^G i%2=1)
def ki(f:Nat->Int):Int:=f 0+256*(f 1+256*(f 2+256*(f 3+256*(f 4+256*(f 5+256*(f 6+256*f 7))))))
def JR(a b m:Int)(i:Nat):Int:=if Zu m i then Z8 b i else Z8 a i
def cS(a b m:Int):Int:=ki (JR a b m)
theorem nf{p q}:(p->q->p/\q)=True:=eq_true λa b=>⟨a,b⟩
mutual def Z1:W->Nat|.mk _ o n w ks _ os=>1+Zo o+Zo n+J w+J os+ZM ks+Zq os def ZM:List (aW W)->Nat|[]=>0|k::r=>JS k+ZM r def JS:aW W->Nat|⟨_,e⟩=>Z1 e def Zq:List (bI W)->Nat|[]=>0|o::r=>Zy o+Zq r def Zy:bI W->Nat|⟨_,_,l,e⟩=>Ze l+Z1 e end
mutual def pO:W->Prop|.mk _ o n w ks _ os=>kg o/\kg n/\J w<=17592186044416/\J ks<=17592186044416/\J os<=17592186044416/\Bx ks/\A9 os def Bx:List (aW W)->Prop|[]=>True|k::r=>ZrC k/\Bx r def ZrC:aW W->Prop|⟨_,e⟩=>pO e def A9:List (bI W)->Prop|[]=>True|o::r=>ZxK o/\A9 r def ZxK:bI W->Prop|⟨_,_,l,e⟩=>J l<=17592186044416/\rD l/\pO e end
def iU(n:Int):Prop:=0<=n/\n<18446744073709551616
def gN(w:aV):Prop:=bQ w.S/\(0<=w.a_/\w.a_<256)/\iU w.bH/\iU w.new
mutual def Ye:W->Prop|.mk k o n w ks l os=>bQ k/\ei o/\ei n/\(∀x∈w,gN x)/\bQ l/\kG ks/\jQ os def kG:List (aW W)->Prop|[]=>True|k::r=>nM k/\kG r def nM:aW W->Prop|⟨a,e⟩=>bQ a/\Ye e def jQ:List (bI W)->Prop|[]=>True|o::r=>Jt o/\jQ r def Jt:bI W->Prop|⟨k,n,l,e⟩=>bQ k/\bQ n/\Jf l/\Ye e end
def qh(t:H)(n:Int):Int:=if n<0 then n else Y3 t 80 n
mutual def kD:W->Int->Int->Int|.mk _ o nw w ks _ os,d,n=>if d=0\/n-1-J w-J os<0 then-1 else mP os (d-1) (YZ ks (d-1) (qh nw (Y3 o 80 (n-1-J w-J os))))def YZ:List (aW W)->Int->Int->Int|[],_,n=>n|k::r,d,n=>if n<0 then n else YZ r d (uF k d n)def uF:aW W->Int->Int->Int|⟨_,e⟩,d,n=>kD e d n def mP:List (bI W)->Int->Int->Int|[],_,n=>n|o::r,d,n=>if n<0 then n else mP r d (wA o d n)def wA:bI W->Int->Int->Int|⟨_,_,l,e⟩,d,n=>if ZT l 80 n<0 then ZT l 80 n else kD e d (ZT l 80 n)end
def JF(t:H):Bool:=decide (t.D=0/\J t.aS=0/\J t.X=0)
def lE(e:W):Bool:=decide (e.D=0)&&JF e.bH&&JF e.new&&decide ( J e.aS=0/\J e.X=0/\J e.ops=0/\e.V=0)
def Y2(w m:Int):Bool:=decide (cS w 0 m=0)
def Ya(h:Int):List aV->Bool|[]=>Y|w::r=>decide (h<w.S/\w.S<=65534/\w.a_≠0)&&Y2 w.bH w.a_&&Y2 w.new w.a_&&Ya w.S r
def Z4(o:Op):Int:=if o.D=3 then 1 else o.n+J o.l
def iT:List Op->Int->Int|[],n=>n|o::r,n=>iT r (min (if o.D=2 then n else n+Z4 o) 1048576)
def iR:List Op->Int->Int|[],n=>n|o::r,n=>iR r (min (if o.D=1 then n else n+Z4 o) 1048576)
def nT(V:Int):List H->Bool|[]=>Y|t::r=>Zf (.mk V [] [t]) 64&&nT V r
def dT(d:Int):Int:=if d<0 then-1 else 64
theorem NZ{d}(h:0<=d):dT d=64:=by unfold dT;omega
theorem vc{d}(h:d<0):dT d=-1:=by unfold dT;rw[if_pos h]
theorem ZOE(d):dT d≠0:=by unfold dT;omega
def Jx(aK V:Int):List H->Bool|[]=>Y|t::r=>Zf (.mk V [] [t]) aK&&Jx aK V r
theorem ZfA(V):∀l,Jx 64 V l=nT V l|[]=>rfl|t::r=>by simp only[Jx,nT,ZfA V r]
mutual def Z3:W->Int->Bool|.mk k o n w ks l os,d=>if d=0\/k<0\/3<k then I else if k≠1/\¬(JF o=Y/\JF n=Y)\/k≠2/\¬( J w=0/\J ks=0)\/k≠3/\(l≠0\/J os≠0)then I else if k=1 then Zf o (dT d)&&Zf n (dT d)&&decide (o.D≠10/\n.D≠10)else Ya (-1) w&&ZJ (-1) ks (d-1)&&decide ¬(k=3/\(l<2\/9<l))&&ZK l os (d-1)&&decide (iT os 0<1048576/\iR os 0<1048576)def ZJ(h:Int):List (aW W)->Int->Bool|[],_=>Y|k::r,d=>n7 h k d&&ZJ k.S r d def n7(h:Int):aW W->Int->Bool|⟨a,e⟩,d=>decide (h<a/\a<=65534/\e.D≠0)&&Z3 e d def ZK(V:Int):List (bI W)->Int->Bool|[],_=>Y|o::r,d=>Zg V o d&&ZK V r d def Zg(V:Int):bI W->Int->Bool|⟨k,n,l,e⟩,d=>if k=0 then decide (1<=n/\n<=1048576/\J l=0)&&lE e else if n≠0\/k<0\/3<k then I else if k<3 then Jx (dT d) V l&&decide (0<J l)&&lE e else decide ( J l=0/\e.D≠0/\7<V)&&Z3 e d&&decide (V=8\/e.D=2\/e.D=1/\e.bH.D=1/\e.new.D=1)end
mutual def dZ:W->Nat|.mk _ o n w ks _ os=>16+Zo o+Zo n+65600*J w+gY ks+fK os def gY:List (aW W)->Nat|[]=>0|k::r=>nA k+gY r def nA:aW W->Nat|⟨_,e⟩=>65600+dZ e def fK:List (bI W)->Nat|[]=>0|o::r=>jT o+fK r def jT:bI W->Nat|⟨_,_,l,e⟩=>16+Ze l+dZ e end
theorem Ji(e):dZ e=16+Zo e.bH+Zo e.new+65600*J e.aS+gY e.X+fK e.ops:=by cases e;rfl
theorem tt(k:bP):nA k=65600+dZ k.e:=by cases k;rfl
theorem rU(o:Op):jT o=16+Ze o.l+dZ o.e:=by cases o;rfl
theorem Dw:∀{ks:List bP}{k},k∈ks->dZ k.e+65600<=gY ks
 |a::r,k,h=>by
  rcases Qe.1 h with rfl|h;.simp only[gY,tt];omega
  .have:=Dw h;simp only[gY];omega
theorem F4:∀{os:List Op}{o},o∈os->dZ o.e+Ze o.l+16<=fK os
 |a::r,o,h=>by
  rcases Qe.1 h with rfl|h;.simp only[fK,rU];omega
  .have:=F4 h;simp only[fK];omega
theorem wF(t):1<=Zo t:=by obtain⟨k,w,ks⟩:=t;simp only[Zo];omega
mutual theorem DU:∀(e:W),Z1 e<=dZ e|.mk k o n w ks l os=>by have s:=Bk ks;have h:J os+Zq os<=fK os:=u6 os;simp only[Z1,dZ];omega theorem Bk:∀(ks:List (aW W)),ZM ks<=gY ks|[]=>Qa _|k::r=>by have s:=Zvr k;have h:=Bk r;simp only[ZM,gY];omega theorem Zvr:∀(k:aW W),JS k<=nA k|⟨a,e⟩=>by have:=DU e;simp only[JS,nA];omega theorem u6:∀(os:List (bI W)),J os+Zq os<=fK os|[]=>Qa _|o::r=>by have s:=ZAB o;have h:=u6 r;simp only[Zq,fK,Qd];omega theorem ZAB:∀(o:bI W),Zy o+1<=jT o|⟨k,n,l,e⟩=>by have:=DU e;simp only[Zy,jT];omega end
mutual theorem ZqK:∀(e:W),dZ e+131100<=65600*Z1 e|.mk k o n w ks l os=>by have s:=Znq ks;have h:=Znp os;have:=wF o;have:=wF n;simp only[Z1,dZ];omega theorem Znq:∀(ks:List (aW W)),gY ks<=65600*ZM ks|[]=>Qa _|k::r=>by have s:=Zw9 k;have h:=Znq r;simp only[ZM,gY];omega theorem Zw9:∀(k:aW W),nA k<=65600*JS k|⟨a,e⟩=>by have:=ZqK e;simp only[JS,nA];omega theorem Znp:∀(os:List (bI W)),fK os<=65600*( J os+Zq os)|[]=>Qa _|o::r=>by have s:=ZB9 o;have h:=Znp r;simp only[Zq,fK,Qd];omega theorem ZB9:∀(o:bI W),jT o<=65600*(Zy o+1)|⟨k,n,l,e⟩=>by have:=ZqK e;simp only[Zy,jT];omega end
mutual def pJ:W->Bool|.mk _ _ _ _ ks _ os=>decide (iT os 0<=2000/\iR os 0<=2000)&&yb ks&&Ac os def yb:List (aW W)->Bool|[]=>Y|k::r=>ZsO k&&yb r def ZsO:aW W->Bool|⟨_,e⟩=>pJ e def Ac:List (bI W)->Bool|[]=>Y|o::r=>ZyV o&&Ac r def ZyV:bI W->Bool|⟨_,_,_,e⟩=>pJ e end
def j_(e:W):Bool:=decide (0<=kD e 80 3000)&&Z3 e 64&&pJ e
end Go.AM
namespace Go.AM
open Go.ChangeShapes Go.WideShapes Go.RowKit
def Ec(e:W):Prop:=pO e/\Ye e
def ZVi(k:bP):Prop:=ZrC k/\nM k
def inO(o:Op):Prop:=ZxK o/\Jt o
theorem ZGS{ks:List bP}(h:∀k∈ks,ZVi k):Bx ks/\kG ks:=by induction ks with|nil=>trivial|cons t r ih=>have h1:=h t (Q6 ..);have s:=ih λx hx=>h x (Q4 _ hx);exact⟨⟨h1.1,s.1⟩,h1.2,s.2⟩
theorem ZKs{os:List Op}(h:∀o∈os,inO o):A9 os/\jQ os:=by induction os with|nil=>trivial|cons t r ih=>have h1:=h t (Q6 ..);have s:=ih λx hx=>h x (Q4 _ hx);exact⟨⟨h1.1,s.1⟩,h1.2,s.2⟩
section
variable{P:Program}{M:cW U}{w:World}{aF:Type}{henc:TypeId×Value->aF}
structure g8(M:cW U):Prop where
 PB:∃zs,M.var (M.dQ .bD)=some (true,zs)/\zs.length=4
 w0:∃t n,M.f_ (M.dQ .bD) 0=some (0,t)/\M.var t=some (false,[.int .i64 n])w1:∃t n,M.f_ (M.dQ .bD) 1=some (1,t)/\M.var t=some (false,[.int .u8 n])w2:∃t n,M.f_ (M.dQ .bD) 2=some (2,t)/\M.var t=some (false,[.int .u64 n])w3:∃t n,M.f_ (M.dQ .bD) 3=some (3,t)/\M.var t=some (false,[.int .u64 n])Pf:∃zs,M.var (M.dQ .cJ)=some (true,zs)/\zs.length=12
 k0:∃t n,M.f_ (M.dQ .cJ) 0=some (0,t)/\M.var t=some (false,[.int .i64 n])k1:M.f_ (M.dQ .cJ) 1=some (1,M.dQ .aY)O6:∃zs,M.var (M.dQ .op)=some (true,zs)/\zs.length=14
 o0:∃t n,M.f_ (M.dQ .op) 0=some (0,t)/\M.var t=some (false,[.int .i64 n])o1:∃t n,M.f_ (M.dQ .op) 1=some (1,t)/\M.var t=some (false,[.int .i64 n])o2:∃t c,M.f_ (M.dQ .op) 2=some (2,t)/\M.var t=some (false,[c])/\M.iO t=some .aX
 o3:M.f_ (M.dQ .op) 3=some (3,M.dQ .aY)ua:∃zs,M.var (M.dQ .aY)=some (true,zs)/\zs.length=11
 e0:∃t n,M.f_ (M.dQ .aY) 0=some (0,t)/\M.var t=some (false,[.int .i64 n])e1:M.f_ (M.dQ .aY) 1=some (1,M.dQ .aX)e2:M.f_ (M.dQ .aY) 2=some (4,M.dQ .aX)e3:∃t c,M.f_ (M.dQ .aY) 3=some (7,t)/\M.var t=some (false,[c])/\M.iO t=some .bD
 e4:∃t c,M.f_ (M.dQ .aY) 4=some (8,t)/\M.var t=some (false,[c])/\M.iO t=some .cJ
 e5:∃t n,M.f_ (M.dQ .aY) 5=some (9,t)/\M.var t=some (false,[.int .i64 n])e6:∃t c,M.f_ (M.dQ .aY) 6=some (10,t)/\M.var t=some (false,[c])/\M.iO t=some .op
theorem ZET(ok:bS P M)(T:eR M)(aI:g8 M)(n)(cs)(h:lM henc P w n (M.dQ .bD) cs):∃e:aV,eC M w.cell? cs (M.enc .bD e)/\gN e:=by
 obtain⟨zs,hz,aa⟩:=aI.PB;obtain⟨t0,n0,f0,v0⟩:=aI.w0;obtain⟨t1,n1,f1,v1⟩:=aI.w1;obtain⟨t2,n2,f2,v2⟩:=aI.w2;obtain⟨t3,n3,f3,v3⟩:=aI.w3;obtain⟨m,rfl,hl,r0⟩:=jV ok f0 v0 h;obtain⟨m',s,_,r1⟩:=jV ok f1 v1 h;cases s;obtain⟨m',s,_,r2⟩:=jV ok f2 v2 h;cases s;obtain⟨m',s,_,r3⟩:=jV ok f3 v3 h;cases s;have ab:J cs=4:=by rw[hl,xN ok hz,aa]
 obtain⟨a,a1,a2,a3⟩:=oJ ok v0 r0;obtain⟨b,b1,b2,b3⟩:=oJ ok v1 r1;obtain⟨c,c1,c2,c3⟩:=oJ ok v2 r2;obtain⟨d,d1,d2,d3⟩:=oJ ok v3 r3;have g:=a1.fG rfl (by simp;omega) (b1.fG rfl (by simp;omega) (c1.fG rfl (by simp;omega) (d1.fG rfl (by simp;omega) (eC.done (n:=4) ab))));refine⟨⟨a,b,c,d⟩,by rw[T.enc];exact g,⟨a2,a3⟩,⟨b2,?_⟩,⟨c2,?_⟩,d2,?_⟩;.have:b<=255:=b3;grind
 .have:c<=18446744073709551615:=c3;grind
 .have:d<=18446744073709551615:=d3;grind
theorem ZQd(ok:bS P M)(T:eR M)(aI:g8 M)(n)(IH:∀m,m<n->∀cs,lM henc P w m (M.dQ .aY) cs->∃e:W,eC M w.cell? cs (M.enc .aY e)/\Ec e)(cs)(h:lM henc P w n (M.dQ .cJ) cs):∃e:bP,eC M w.cell? cs (M.enc .cJ e)/\ZVi e:=by
 obtain⟨zs,hz,aa⟩:=aI.Pf;obtain⟨t0,n0,f0,v0⟩:=aI.k0;obtain⟨ez,af,s⟩:=aI.ua;obtain⟨m,rfl,hl,r0⟩:=jV ok f0 v0 h;obtain⟨m',e',_,r1⟩:=jV ok aI.k1 af h;cases e';have ae:J cs=12:=by rw[hl,xN ok hz,aa]
 obtain⟨a,a1,a2,a3⟩:=oJ ok v0 r0;obtain⟨b,b1,b2⟩:=IH m O _ r1;rw[s]at b1;rw[T.enc]at b1;have g:=a1.fG rfl (by simp;omega) (b1.fG rfl O (eC.done (n:=12) ae));exact⟨⟨a,b⟩,by rw[T.enc];exact g,b2.1,⟨a2,a3⟩,b2.2⟩
theorem ZU1(ok:bS P M)(T:eR M)(aI:g8 M)(n)(IH:∀m,m<n->∀cs,lM henc P w m (M.dQ .aY) cs->∃e:W,eC M w.cell? cs (M.enc .aY e)/\Ec e)(cs)(h:lM henc P w n (M.dQ .op) cs):∃e:Op,eC M w.cell? cs (M.enc .op e)/\inO e:=by
 obtain⟨zs,hz,af⟩:=aI.O6;obtain⟨t0,n0,f0,v0⟩:=aI.o0;obtain⟨t1,n1,f1,v1⟩:=aI.o1;obtain⟨t2,c2,f2,v2,s2⟩:=aI.o2;obtain⟨ez,ai,aa⟩:=aI.ua;obtain⟨m,rfl,hl,r0⟩:=jV ok f0 v0 h;obtain⟨m',s,_,r1⟩:=jV ok f1 v1 h;cases s;obtain⟨m',s,_,r2⟩:=jV ok f2 v2 h;cases s;obtain⟨m',s,_,r3⟩:=jV ok aI.o3 ai h;cases s;have ah:J cs=14:=by rw[hl,xN ok hz,af]
 obtain⟨a,a1,a2,a3⟩:=oJ ok v0 r0;obtain⟨b,b1,b2,b3⟩:=oJ ok v1 r1;obtain⟨c,c1,c2,c3⟩:=yu ok s2 (λm _ cs h=>IJ ok T m cs h) r2;obtain⟨d,d1,d2⟩:=IH m O _ r3;rw[aa]at d1;rw[T.enc]at d1;rw[T.bytes]at c2;have hk:=ZOt c3;have g:=a1.fG rfl (by simp;omega) (b1.fG rfl (by simp;omega) (c1.fG rfl (by simp;omega) (d1.fG rfl O (eC.done (n:=14) ah))));exact⟨⟨a,b,c,d⟩,by rw[T.enc];exact g,⟨zK c2 V1,hk.1,d2.1⟩,⟨a2,a3⟩,⟨b2,b3⟩,hk.2,d2.2⟩
theorem ZIP(ok:bS P M)(T:eR M)(aI:g8 M):∀n(cs:List Value),lM henc P w n (M.dQ .aY) cs->∃e:W,eC M w.cell? cs (M.enc .aY e)/\Ec e:=by intro n;induction n using Nat.strongRecOn with|ind n IH=>
  intro cs h;obtain⟨zs,hz,ah⟩:=aI.ua;obtain⟨t0,n0,f0,v0⟩:=aI.e0;obtain⟨tz,ab,ae⟩:=T.var;obtain⟨t3,c3,f3,v3,s3⟩:=aI.e3;obtain⟨t4,c4,f4,v4,s4⟩:=aI.e4;obtain⟨t5,n5,f5,v5⟩:=aI.e5;obtain⟨t6,c6,f6,v6,s6⟩:=aI.e6;obtain⟨m,rfl,hl,r0⟩:=jV ok f0 v0 h;obtain⟨m',s,_,r1⟩:=jV ok aI.e1 ab h;cases s;obtain⟨m',s,_,r2⟩:=jV ok aI.e2 ab h;cases s;obtain⟨m',s,_,r3⟩:=jV ok f3 v3 h;cases s;obtain⟨m',s,_,r4⟩:=jV ok f4 v4 h;cases s;obtain⟨m',s,_,r5⟩:=jV ok f5 v5 h;cases s;obtain⟨m',s,_,r6⟩:=jV ok f6 v6 h;cases s;have ai:J cs=11:=by rw[hl,xN ok hz,ah]
  obtain⟨k,a1,a2,a3⟩:=oJ ok v0 r0;obtain⟨o,b1,b2⟩:=IJ ok T _ _ r1;obtain⟨nw,d1,d2⟩:=IJ ok T _ _ r2;obtain⟨ws,p1,p2,p3⟩:=yu ok s3 (λm _ cs h=>ZET ok T aI m cs h) r3;obtain⟨ks,q1,q2,q3⟩:=yu ok s4 (λm' hm cs h=>ZQd ok T aI m' (λm2 af cs h=>IH m2 O cs h) cs h) r4;obtain⟨l,i1,i2,i3⟩:=oJ ok v5 r5;obtain⟨os,j1,j2,j3⟩:=yu ok s6 (λm' hm cs h=>ZU1 ok T aI m' (λm2 af cs h=>IH m2 O cs h) cs h) r6;rw[T.bytes]at p2 q2 j2;rw[ae,T.enc]at b1 d1;have hk:=ZGS q3;have ho:=ZKs j3;have g:=a1.fG rfl (by simp;omega) (b1.fG rfl O (d1.fG rfl O (p1.fG rfl (by simp;omega) (q1.fG rfl (by simp;omega) (i1.fG rfl (by simp;omega) (j1.fG rfl (by simp;omega) (eC.done (n:=11) ai)))))));refine⟨.mk k o nw ws ks l os,by rw[T.enc];exact g,⟨b2.1,d2.1,zK p2 V1,zK q2 V1,zK j2 V1,hk.1,ho.1⟩,⟨a2,a3⟩,b2.2,d2.2,p3,⟨i2,i3⟩,hk.2,ho.2⟩
