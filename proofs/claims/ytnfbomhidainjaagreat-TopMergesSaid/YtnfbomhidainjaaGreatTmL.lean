import Derived.Test.YtnfbomhidainjaaGreatTmT
import Derived.WalkSpells
import Derived.Lib.SliceRun
import Derived.Deep.LoopGhost
import Derived.Scope
set_option linter.unusedSimpArgs false
set_option linter.unusedVariables false
namespace Go.AM
variable{U:Uni}{P:Program}{cfg:Cfg U}{B:Base}{st:FSt U}{g:Gh}{a:Act}{w:World}
theorem Z3c(ps:Nat->Bool):∀(xs:List (V U))(i:Nat)(os:List (Name×List (C U)))(seen:List (Tok×Tok)),Yb st.strip ps i xs os seen=Yb st ps i xs os seen|[],i,os,seen=>rfl|x::xs,i,os,seen=>by simp only[Yb,Z3c ps xs];try rfl
theorem Z6R:∀(l h:List Name),Z3T st.strip l h=Z3T st l h|[],h=>rfl|nm::l,h=>by simp only[Z3T,Z6R l];try rfl
theorem Zlx(Γ:Known U)(d:Nat)(f:FuncId)(nm:Name)(args:List (V U)):Z5W Γ st.strip d f nm args=Z5W Γ st d f nm args:=by
 have hl:∀(L:List (Tok×LC U)),J1 st.strip d L=J1 st d L:=by
  intro L;induction L with|nil=>rfl|cons x L ih=>obtain⟨t,x⟩:=x;simp only[J1,ih];try rfl
 have hx:JM st.strip (.ptr nm 0::args)=JM st (.ptr nm 0::args):=by simp only[JM,Z9b,Z6R]
 simp only[Z5W,Z3c,hl,hx];try rfl
theorem Z41(Γ:Known U)(d:Nat)(f:FuncId)(args:List (V U)):Z42 Γ st.strip d f args=Z42 Γ st d f args:=by
 have hl:∀(L:List (Tok×LC U)),J1 st.strip d L=J1 st d L:=by intro L;induction L with
  |nil=>rfl|cons x L ih=>obtain⟨t,x⟩:=x;simp only[J1,ih];try rfl
 have hx:JM st.strip args=JM st args:=by simp only[JM,Z9b,Z6R]
 simp only[Z42,Z3c,hl,hx];try rfl
theorem Z90{lo:Option Operand}{x:Option (V U)}(h:JU st.strip lo=some x)(hop:∀y,lo=some y->∀v,st.strip.opnd y=some v->RelV cfg g st.dead (λnm=>(st.mem nm).isSome) (a.eval y) v):Zvj cfg g st.dead (λnm=>(st.mem nm).isSome) (lo.map a.eval) x:=by cases lo with|none=>simp only[JU,Option.some.injEq]at h;subst h;trivial|some y=>simp only[JU]at h;cases hy:st.strip.opnd y with|none=>simp[hy]at h|some v=>simp[hy]at h;subst h;exact hop y rfl v hy
theorem Zgo{f:Operand->Option (V U)}:∀{l:List (Nat×Operand)}{ps:List (Nat×V U)},l.mapM (λx=>(f x.2).map (x.1,·))=some ps->l.length=ps.length/\∀(j:Nat)x y,l[j]?=some x->ps[j]?=some y->x.1=y.1/\f x.2=some y.2|[],ps,h=>by grind|x::l,ps,h=>by rw[QW]at h;cases h1:f x.2 with|none=>simp[h1]at h|some v=>cases h2:l.mapM (λx=>(f x.2).map (x.1,·))with|none=>grind|some r=>simp[h1,h2]at h;subst h;obtain⟨h3,d⟩:=Zgo h2;grind
theorem Znd{f:Operand->Option (V U)}:∀{l:List (Nat×Operand)}{ps:List (Nat×List (C U))},l.mapM (λx=>((f x.2).bind V.cells).map (x.1,·))=some ps->l.length=ps.length/\∀(j:Nat)x y,l[j]?=some x->ps[j]?=some y->x.1=y.1/\∃v,f x.2=some v/\v.cells=some y.2:=by
 intro l ps h;have h':l.mapM (λx=>((λo=>(f o).bind V.cells) x.2).map (x.1,·))=some ps:=h;generalize hg:(λo=>(f o).bind V.cells)=F at h';have d:∀{l:List (Nat×Operand)}{ps:List (Nat×List (C U))},l.mapM (λx=>(F x.2).map (x.1,·))=some ps->l.length=ps.length/\∀(j:Nat)x y,l[j]?=some x->ps[j]?=some y->x.1=y.1/\F x.2=some y.2:=by
  intro l;induction l with
  |nil=>grind|cons x l ih=>
   intro ps h;rw[QW]at h;cases h1:F x.2 with
   |none=>simp[h1]at h|some v=>cases h2:l.mapM (λx=>(F x.2).map (x.1,·))with|none=>grind|some r=>simp[h1,h2]at h;subst h;obtain⟨h3,h4⟩:=ih h2;refine⟨by simp[h3],λj y z hy hz=>?_⟩;cases j with|zero=>grind|succ j=>grind
 obtain⟨k1,k2⟩:=d h';refine⟨k1,λj x y hx hy=>?_⟩;obtain⟨k3,k4⟩:=k2 j x y hx hy;refine⟨k3,?_⟩;rw[<-hg]at k4;simp only at k4;cases hf:f x.2 with|none=>grind|some v=>grind
theorem SimC.int_eq{m:Addr->Option Value}{v:Value}{k:IntKind}{n:Int}(h:SimC cfg m v (.int k n)):v=.int k n:=by cases h;rfl
theorem SimC.bool_eq{m:Addr->Option Value}{v:Value}{b:Bool}(h:SimC cfg m v (.bool b)):v=.bool b:=by cases h;rfl
theorem SimC.nilp_eq{m:Addr->Option Value}{v:Value}(h:SimC cfg m v .nilp):v=.pointer none:=by cases h;rfl
theorem Zeq(ok:CfgOk P cfg){t:TypeId}(hz:cfg.var t=some (false,[.nilp])):P.underlying t=some (.pointer (P.pointee t)):=by
 obtain⟨e,d⟩:=ok.ptr t hz;have:P.pointee t=e:=by simp[Program.pointee,d]
 grind
theorem bind_some{α β:Type}{x:Option α}{f:α->Option β}{b:β}(h:x.bind f=some b):∃a,x=some a/\f a=some b:=by cases x with|none=>simp at h|some a=>grind
theorem Zxm(ok:CfgOk P cfg){T:U.Ty}{o:Option (U.El T)}{live:Name->Bool}{v:Value}(h:RelV cfg g st.dead live v (.c (.po T o)))(ho:o.isSome=true):RelV cfg g st.dead live v (.ep (cfg.enc T (o.getD (cfg.dflt T)))):=by obtain⟨d,_⟩:=h;cases o with|none=>cases ho|some x=>cases d with|po _ _ b vs hm hs=>exact⟨b,rfl,λj c hc=>⟨_,hm j c hc,hs j c hc,Z8X (ok.enc_plain _ _ c (X4 hc))⟩⟩
theorem Z86{Γ:Known U}(ok:CfgOk P cfg)(hΓ:∀f s,Γ f=some s->Contract P cfg f s)(h:Rel cfg B st g a w){o:Oper}(hop:ZFT cfg st g a o){ps:List Prop}{e:Eff U}(he:aop cfg Γ o st.strip=some (ps,e))(hps:All ps):Does P o a w λv w'=>∃g',Out cfg B st g e v w' g':=by
 have val:∀{s:Sem Value}{x:V U},(∃r,s.run P w=.ok r w/\RelV cfg g st.dead (λnm=>(st.mem nm).isSome) r x)->execOp a.eval o=(do pure (.value (<-s)):Sem Next)->Does P o a w λv w'=>∃g',Out cfg B st g {val:=some x} v w' g':=by rintro s x⟨r,h1,h2⟩h3;exact YO h (by simp_all) h2
 have aq:∀{s:Sem Value}{x:C U},(∃r,s.run P w=.ok r w/\SimC cfg g.m r x/\∀tag dead r,TailOk cfg tag dead r x)->execOp a.eval o=(do pure (.value (<-s)):Sem Next)->Does P o a w λv w'=>∃g',Out cfg B st g {val:=some (.c x)} v w' g':=by rintro s x⟨r,h1,h2,h3⟩h4;exact val ⟨r,h1,h2,h3 _ _ _⟩ h4
 obtain⟨dst,op,type,pos,after,guard⟩:=o;unfold ZFT at hop;cases op<;>simp only[aop,reduceCtorEq]at he;case move x=>
  obtain⟨v,h1,h2⟩:=bind_some he;have hr:=hop x (by simp[Op.operands]) v h1;split at h2<;>simp only[oP,reduceCtorEq]at h2;obtain⟨rfl,rfl⟩:=h2;exact YO h (by simp[execOp]) hr
 case assign x=>
  split at he
  .rename_i r hr;cases he;rw[cond_eq_ite]at hr;split at hr;case isFalse=>cases hr
   unfold ZxB at hr;split at hr;case h_2=>cases hr
   rename_i T d hx hT;rw[cond_eq_ite]at hr;split at hr;case isFalse=>cases hr
   rename_i hc;simp only[Q2,QF,QX]at hc;simp only[oP]at hr;obtain⟨rfl,rfl⟩:=hr;have h1:=(hop x (by simp[Op.operands]) _ hx).1;have h2:a.eval x=.slice none 0 0:=by generalize a.eval x=u at h1;cases h1;rfl
   exact .inl ⟨.slice none 0 0,w,by simp[execOp,h2],_,Zbt (T:=T) (d:=d) (kl:=[]) h hc.1 hc.2 rfl⟩
  obtain⟨v,h1,h2⟩:=bind_some he;have hr:=hop x (by simp[Op.operands]) v h1;split at h2<;>simp only[oP,reduceCtorEq]at h2;obtain⟨rfl,rfl⟩:=h2;exact YO h (by simp[execOp]) hr
 case alloc t=>
  split at he
  .rename_i d ag zs hd hv;split at he;.cases he
   .rename_i hn;simp only[oP]at he;obtain⟨rfl,rfl⟩:=he;exact Zo8 ok h rfl hv (by simpa[FSt.strip]using hn)
  .cases he
 case box t x=>
  split at he
  .rename_i d ag zs cs hd hv a8;split at he;.cases he
   .rename_i hn;simp only[oP]at he;obtain⟨rfl,rfl⟩:=he;obtain⟨v,h1,h2⟩:=bind_some a8;simp only[Ke,not_or]at hn;exact Zv7 h rfl (hop x (by simp[Op.operands]) v h1) h2 (by simpa[FSt.strip]using hn.1)
  .cases he
 case build t parts=>
  split at he;.rename_i zs bw hv hm;cases hf:Z1e cfg t zs bw with|none=>grind|some cs=>
    simp only[hf,Qk,oP]at he;obtain⟨rfl,rfl⟩:=he;obtain⟨h1,h2⟩:=Znd hm;refine val (s:=Instr.build t (parts.map λx=>(x.1,a.eval x.2))) (ZnX ok hv (by simpa using h1) ?_ hf) (by rfl);intro j x y hx hy;rw[Array.getElem?_map]at hx;cases hj:parts[j]? with
    |none=>grind|some p=>
     simp[hj]at hx;subst hx;obtain⟨h3,v,h4,h5⟩:=h2 j p y (by simpa using hj) hy;refine⟨h3,(hop p.2 ?_ v h4).cells h5⟩;simp only[Op.operands];grind
  .cases he
 case buildSlice t n parts=>
  split at he
  .rename_i T bw hT hm;split at he
   .rename_i hn;cases hf:Js cfg T 0 bw with
    |none=>grind|some l=>
     simp only[hf,Qr]at he;obtain⟨h1,h2⟩:=Zgo hm;have bl:∀(j:Nat)x y,parts[j]?=some x->bw[j]?=some y->x.1=y.1/\RelV cfg g st.strip.dead (λnm=>(st.strip.mem nm).isSome) (a.eval x.2) y.2:=by intro j x y hx hy;obtain⟨h3,h4⟩:=h2 j x y (by simpa using hx) hy;refine⟨h3,hop x.2 ?_ y.2 h4⟩;simp only[Op.operands];have:=X4 (l:=parts.toList) (i:=j) (by simpa using hx);simp;exact⟨x.1,by grind⟩
     cases hmu:st.strip.mu&&Z5N parts.toList with|false=>simp only[hmu,cond_false,oP]at he;obtain⟨rfl,rfl⟩:=he;exact ZcW ok h rfl hT (by simpa using h1) hn.1 hn.2 bl hf|true=>
      simp only[hmu,cond_true,ZeI]at he;split at he
      .split at he
       .rename_i ar;simp only[Q2,QF,QX]at ar;simp only[oP]at he;obtain⟨rfl,rfl⟩:=he;exact ZbK ok h ar.1 ar.2 rfl hT (by simpa using h1) hn.1 hn.2 bl hf
       .cases he
      .cases he
   .cases he
  .cases he
 case load t p=>
  split at he
  .rename_i ag zs u n am hv hp;split at he
   .rename_i y hy;split at he
    .rename_i bt;cases hr:mkV ag (((cfg.enc y.T (y.l.getD n (cfg.dflt y.T))).drop am).take zs.length)with
     |none=>grind|some v=>
      simp only[hr,Qk,oP]at he;obtain⟨rfl,rfl⟩:=he;exact val (Zu6 ok h hv hy (hop p (by simp[Op.operands]) _ hp) bt hr) (by rfl)
    .cases he
   .cases he
  .rename_i ag zs T o hv hp;cases hr:rd st.strip (.ep (cfg.enc T (o.getD (cfg.dflt T)))) ag zs.length with
   |none=>grind|some v=>
    simp only[hr,Qk,oP]at he;obtain⟨rfl,rfl⟩:=he;exact val (ZfO ok h hv (Zxm ok (hop p (by simp[Op.operands]) _ hp) hps.1) hr) (by rfl)
  .rename_i ag zs p' b9 bz hv hp;cases hr:rd st.strip p' ag zs.length with
   |none=>grind|some v=>
    simp only[hr,Qk,oP]at he;obtain⟨rfl,rfl⟩:=he;exact val (ZfO ok h hv (hop p (by simp[Op.operands]) p' hp) hr) (by rfl)
  .cases he
 case store t p x=>
  split at he
  .rename_i ag zs nm am new hv hp bc;split at he
   .rename_i cs a8;split at he;.rename_i hl;cases hs:YK cs am new with
     |none=>grind|some cs'=>
      simp only[hs,Qk,oP]at he;obtain⟨rfl,rfl⟩:=he;obtain⟨v,h1,h2⟩:=bind_some bc;exact Zd9 ok h rfl hv (hop p (by simp[Op.operands]) _ hp) (hop x (by simp[Op.operands]) v h1) h2 a8 hl hs
    .cases he
   .cases he
  .rename_i ag zs u n am new hv hp bc;split at he
   .rename_i y hy;split at he
    .rename_i hl;split at he;.rename_i e' cg;simp only[oP]at he;obtain⟨rfl,rfl⟩:=he;obtain⟨v,h1,h2⟩:=bind_some bc;exact ZjB ok h rfl hv (hop p (by simp[Op.operands]) _ hp) (hop x (by simp[Op.operands]) v h1) h2 hy hl hps.1 cg
     .cases he
    .cases he
   .cases he
  .rename_i ag zs nm am k len n k' y hv hp bc;split at he
   .rename_i cs a8;split at he
    .rename_i hc;obtain⟨bt,hk,hz⟩:=hc;subst hk;split at he
     .rename_i l hl;simp only[oP]at he;obtain⟨rfl,rfl⟩:=he;obtain⟨v,h1,h2⟩:=bind_some bc;exact ZeY ok h rfl hv (hop p (by simp[Op.operands]) _ hp) (hop x (by simp[Op.operands]) v h1) h2 a8 hz bt hl
     .cases he
    .cases he
   .cases he
  .cases he
 case nilCheck x=>
  split at he<;>try simp only[oP,reduceCtorEq]at he
  .rename_i nm am hx;obtain⟨rfl,rfl⟩:=he;have hr:=hop x (by simp[Op.operands]) _ hx;have h2:=hr.2;exact YO h (by simp[execOp,h2]) hr
  .rename_i cs hx;obtain⟨rfl,rfl⟩:=he;have hr:=hop x (by simp[Op.operands]) _ hx;obtain⟨b,h2,_⟩:=id hr;exact YO h (by simp[execOp,h2]) hr
  .rename_i u n am hx;split at he<;>simp only[oP,reduceCtorEq]at he;rename_i hs;obtain⟨rfl,rfl⟩:=he;have hr:=hop x (by simp[Op.operands]) _ hx;obtain⟨y,hy⟩:=X7.1 hs;obtain⟨b,len,c7,_,h2,_⟩:=ZxK h hy hr;exact YO h (by simp[execOp,h2]) hr
  .rename_i T o hx;obtain⟨rfl,rfl⟩:=he;have hr:=hop x (by simp[Op.operands]) _ hx;obtain⟨b,h2,_⟩:=Zxm (live:=λnm=>(st.mem nm).isSome) ok hr hps.1;exact YO h (by simp[execOp,h2]) hr
 case binOp bop t x y t'=>
  split at he
  .rename_i p q hx hy;split at he
   .rename_i b0 hv;cases hb:Ztz (U:=U) bop p q with
    |none=>grind|some c=>
     simp only[hb,Qk,oP]at he;obtain⟨rfl,rfl⟩:=he;have h1:SimC cfg g.m (a.eval x) (.bool p):=(hop x (by simp[Op.operands]) _ hx).1;have h2:SimC cfg g.m (a.eval y) (.bool q):=(hop y (by simp[Op.operands]) _ hy).1;have e1:a.eval x=.bool p:=h1.bool_eq;have e2:a.eval y=.bool q:=h2.bool_eq;refine aq (s:=do eqGuard bop t x y (.bool p) (.bool q);binOp bop t (.bool p) (.bool q)) (Zoa ok hv hb) ?_;simp[execOp,e1,e2]
   .cases he
  .rename_i T l tl hx hy;have h1:SimC cfg g.m (a.eval x) (.slice T l tl):=(hop x (by simp[Op.operands]) _ hx).1;have h2:SimC cfg g.m (a.eval y) (.nils:C U):=(hop y (by simp[Op.operands]) _ hy).1;have e2:a.eval y=.slice none 0 0:=by generalize a.eval y=u at h2;cases h2;try rfl
   have bu:∃(ao:Option Addr)(n c:Nat),a.eval x=.slice ao n c/\(ao.isNone=true->l=[]):=by generalize a.eval x=u at h1;cases h1 with|snil=>grind|slice _ _ _ b len c7 vs=>grind
   obtain⟨ao,n,c,e1,hn⟩:=bu;split at he<;>simp only[oP,reduceCtorEq]at he;.rename_i S hS;obtain⟨rfl,rfl⟩:=he;refine YO (v:=.bool ao.isNone) h ?_ ⟨_,rfl,hn,λ_=>trivial⟩;simp[execOp,e1,e2,eqGuard,Lib.run_eql_slice_nil w t _ ao n c 0 0 (ok.sl t S hS)]
   .rename_i S hS;obtain⟨rfl,rfl⟩:=he;refine YO (v:=.bool (!ao.isNone)) h ?_ ⟨_,rfl,λ_=>trivial,λhf=>hn (by simpa using hf)⟩;simp[execOp,e1,e2,eqGuard,run_neq_slice_nil_any w t _ ao n c 0 0 (ok.sl t S hS)]
  .rename_i T o hx hy;have h1:SimC cfg g.m (a.eval x) (.po T o):=(hop x (by simp[Op.operands]) _ hx).1;have h2:SimC cfg g.m (a.eval y) (.nilp:C U):=(hop y (by simp[Op.operands]) _ hy).1;have e2:a.eval y=.pointer none:=by
    generalize a.eval y=u at h2;cases h2;try rfl
   have bu:∃ao:Option Addr,a.eval x=.pointer ao/\ao.isNone=o.isNone:=by
    generalize a.eval x=u at h1;cases h1 with
    |pnil=>grind|po _ y b vs=>grind
   obtain⟨ao,e1,hn⟩:=bu;have co:∀z,cfg.var t=some (false,z)->z=[.nilp]->P.underlying t=some (.pointer (P.pointee t)):=by
    rintro z hz rfl;obtain⟨e,he⟩:=ok.ptr t hz;have:P.pointee t=e:=by simp[Program.pointee,he]
    rw[this];exact he
   split at he<;>simp only[oP,reduceCtorEq]at he
   .rename_i hv;obtain⟨rfl,rfl⟩:=he;refine aq (s:=binOp .eql t (.pointer ao) (.pointer none)) ⟨_,run_eql_pointer_nil _ t ao (co _ hv rfl),?_,λ_ _ _=>trivial⟩ (by simp[execOp,e1,e2,eqGuard]);rw[hn];exact .bool _
   .rename_i hv;obtain⟨rfl,rfl⟩:=he;refine aq (s:=binOp .neq t (.pointer ao) (.pointer none)) ⟨_,run_neq_pointer_nil _ t ao (co _ hv rfl),?_,λ_ _ _=>trivial⟩ (by simp[execOp,e1,e2,eqGuard]);rw[hn];cases o<;>exact .bool _
  .rename_i nm am hx hy;have e1:a.eval x=.pointer (some ((g.ad nm).add am)):=(hop x (by simp[Op.operands]) _ hx).2;have h2:SimC cfg g.m (a.eval y) (.nilp:C U):=(hop y (by simp[Op.operands]) _ hy).1;have e2:=h2.nilp_eq;split at he<;>simp only[oP,reduceCtorEq]at he
   .rename_i hv;obtain⟨rfl,rfl⟩:=he;exact aq (s:=binOp .eql t (.pointer (some ((g.ad nm).add am))) (.pointer none)) ⟨_,run_eql_pointer_nil _ t _ (Zeq ok hv),.bool _,λ_ _ _=>trivial⟩ (by simp[execOp,e1,e2,eqGuard])
   .rename_i hv;obtain⟨rfl,rfl⟩:=he;exact aq (s:=binOp .neq t (.pointer (some ((g.ad nm).add am))) (.pointer none)) ⟨_,run_neq_pointer_nil _ t _ (Zeq ok hv),.bool _,λ_ _ _=>trivial⟩ (by simp[execOp,e1,e2,eqGuard])
  .rename_i hx hy;have h1:SimC cfg g.m (a.eval x) (.nilp:C U):=(hop x (by simp[Op.operands]) _ hx).1;have h2:SimC cfg g.m (a.eval y) (.nilp:C U):=(hop y (by simp[Op.operands]) _ hy).1;have e1:=h1.nilp_eq;have e2:=h2.nilp_eq;split at he<;>simp only[oP,reduceCtorEq]at he
   .rename_i hv;obtain⟨rfl,rfl⟩:=he;exact aq (s:=binOp .eql t (.pointer none) (.pointer none)) ⟨_,run_eql_pointer_nil _ t none (Zeq ok hv),.bool _,λ_ _ _=>trivial⟩ (by simp[execOp,e1,e2,eqGuard])
   .rename_i hv;obtain⟨rfl,rfl⟩:=he;exact aq (s:=binOp .neq t (.pointer none) (.pointer none)) ⟨_,run_neq_pointer_nil _ t none (Zeq ok hv),.bool _,λ_ _ _=>trivial⟩ (by simp[execOp,e1,e2,eqGuard])
  .rename_i p q dk bz dj dl hx hy;cases hb:ZE8 Γ.wr bop p q with
   |none=>simp[hb,Zjv]at he|some r=>
    obtain⟨qs,c⟩:=r;simp only[hb,Zjv,Qk,oP]at he;obtain⟨rfl,rfl⟩:=he;have h1:=(hop x (by simp[Op.operands]) _ hx).1;have h2:=(hop y (by simp[Op.operands]) _ hy).1;exact aq (Zr0 (p:=x) (q:=y) (t:=t) h1 h2 hb hps) (by rfl)
  .rename_i as bs hx hy;have h1:=hop x (by simp[Op.operands]) _ hx;have h2:=hop y (by simp[Op.operands]) _ hy;split at he
   .rename_i r ag zs ht hr hz;split at he
    .rename_i hl;simp only[oP]at he;obtain⟨rfl,rfl⟩:=he;exact aq ⟨_,(ZdX (w:=w) (p:=x) (q:=y) ok ht h1 h2 hr hz hl).1,.bool _,λ_ _ _=>trivial⟩ (by rfl)
    .cases he
   .rename_i r ag zs ht hr hz;split at he
    .rename_i hl;simp only[oP]at he;obtain⟨rfl,rfl⟩:=he;exact aq ⟨_,(ZdX (w:=w) (p:=x) (q:=y) ok ht h1 h2 hr hz hl).2,.bool _,λ_ _ _=>trivial⟩ (by rfl)
    .cases he
   .cases he
  .cases he
 case unOp uop t x=>
  split at he;.rename_i p hx;cases hb:aUn Γ.wr uop p with
   |none=>simp[hb,Zjv]at he|some r=>obtain⟨qs,c⟩:=r;simp only[hb,Zjv,Qk,oP]at he;obtain⟨rfl,rfl⟩:=he;exact aq (Zvd (hop x (by simp[Op.operands]) _ hx).1 hb hps) (by rfl)
  .cases he
 case convert src dst' x=>
  split at he
  .rename_i k1 n1 k n0 k2 n hs hd hx;simp only[oP]at he;obtain⟨rfl,rfl⟩:=he;have h1:SimC cfg g.m (a.eval x) (.int k2 n):=(hop x (by simp[Op.operands]) _ hx).1;have e1:a.eval x=.int k2 n:=h1.int_eq;obtain⟨_,i,z,d,q1,q2,q3,q4,q5,q6,q7,_⟩:=ok.var _ _ _ hs;obtain⟨_,i',z',d',r1,r2,r3,r4,r5,r6,r7,_⟩:=ok.var _ _ _ hd;have da:=r7 rfl k n0 rfl;subst da;refine aq (s:=convert src dst' (a.eval x)) ⟨.int k (k.wrap n),?_,.int _ _,λ_ _ _=>trivial⟩ (by rfl);rw[e1];simp[convert,run_underlying q2,run_underlying r2,Conv.intToInt]
  .cases he
 case makeSlice t n m=>
  split at he
  .rename_i T n' m' hT hn hm;split at he
   .rename_i ag zs hz;split at he
    .rename_i z hd;have h1:SimC cfg g.m (a.eval n) (.int .i64 n'):=(hop n (by simp[Op.operands]) _ hn).1;have h2:SimC cfg g.m (a.eval m) (.int .i64 m'):=(hop m (by simp[Op.operands]) _ hm).1;cases hmu:st.strip.mu with
     |false=>
      simp only[hmu,cond_false]at he;simp only[oP]at he;obtain⟨rfl,rfl⟩:=he;exact Ze9 ok h rfl hT h1.int_eq h2.int_eq hz hd hps.1 hps.2.1|true=>
      simp only[hmu,cond_true,Zlv]at he;split at he
      .split at he
       .rename_i ar;simp only[Q2,QF,QX]at ar;simp only[oP]at he;obtain⟨rfl,rfl⟩:=he;exact ZcB ok h ar.1 ar.2 rfl hT h1.int_eq h2.int_eq hz hd hps.1 hps.2.1
       .cases he
      .cases he
    .cases he
   .cases he
  .cases he
 case slice t x lo hi mx=>
  split at he
  .rename_i nm am hx bf bd be;split at he
   .rename_i len et T cs ha hT a8;split at he
    .rename_i hc;obtain⟨rfl,bv,c1,de⟩:=hc;split at he
     .rename_i l hl;simp only[oP]at he;obtain⟨rfl,rfl⟩:=he;have nn:∀{y:Option Operand},JU st.strip y=some none->y=none:=by intro y hy;cases y with|none=>rfl|some z=>simp[JU]at hy
      have e1:=nn bf;have e2:=nn bd;have e3:=nn be;subst e1 e2 e3;exact Zfv ok h rfl ha de (hop x (by simp[Op.operands]) _ hx) a8 bv c1 hl
     .cases he
    .cases he
   .cases he
  .rename_i u k n hx bf bd be;split at he
   .rename_i S y hS hy;split at he
    .rename_i bg _;subst bg;rw[cond_eq_ite]at he;split at he
     .simp only[oP]at he;obtain⟨rfl,rfl⟩:=he;have nn:∀{y:Option Operand},JU st.strip y=some none->y=none:=by intro y hy;cases y with|none=>rfl|some z=>simp[JU]at hy
      have e2:=nn bd;have e3:=nn be;subst e2 e3;cases lo with
      |none=>grind|some lo=>
       have hl:st.strip.opnd lo=some (.c (.int k n)):=by simpa[JU]using bf
       have h1:SimC cfg g.m (a.eval lo) (.int k n):=(hop lo (by simp[Op.operands]) _ hl).1;obtain⟨r,h2,h3⟩:=ZjO (k:=k) (live:=λnm=>(st.mem nm).isSome) ok h hS hy (hop x (by simp[Op.operands]) _ hx) hps.1;exact val ⟨r,h2,h3⟩ (by simp[execOp,h1.int_eq])
     .cases he
    .cases he
   .cases he
  .rename_i u k n hx bf bd be;split at he
   .rename_i S y d hS hy;split at he
    .rename_i bg _;subst bg;rw[cond_eq_ite]at he;split at he
     .rename_i hc;simp only[Q2,QF,QX]at hc;simp only[oP]at he;obtain⟨rfl,rfl⟩:=he;have nn:∀{y:Option Operand},JU st.strip y=some none->y=none:=by
       intro y hy;cases y with|none=>rfl|some z=>simp[JU]at hy
      have e2:=nn bf;have e3:=nn be;subst e2 e3;cases hi with
      |none=>simp[JU]at bd|some hi=>
       have hl:st.strip.opnd hi=some (.c (.int k n)):=by simpa[JU]using bd
       have h1:SimC cfg g.m (a.eval hi) (.int k n):=(hop hi (by simp[Op.operands]) _ hl).1;obtain⟨r,g',h2,h3⟩:=ZuX (k:=k) ok h hS hy (hop x (by simp[Op.operands]) _ hx) hps.1 hps.2.1 hc.1.1.2 hc.1.2 hc.2;exact .inl ⟨r,w,by simp[execOp,h1.int_eq,h2],g',h3⟩
     .cases he
    .cases he
   .cases he
  .rename_i x' db cz dg _ _ hx bf bd be;cases hb:Zlt cfg t x' db cz dg with
   |none=>simp[hb,Zjv]at he|some r=>
    obtain⟨qs,c⟩:=r;simp only[hb,Zjv,Qk,oP]at he;obtain⟨rfl,rfl⟩:=he;have a6:=hop x (by simp[Op.operands]) _ hx;obtain⟨r,h1,h2⟩:=Zls (w:=w) (live:=λnm=>(st.mem nm).isSome) ok a6 (Z90 (a:=a) bf λy hy=>hop y (by simp[Op.operands,hy])) (Z90 (a:=a) bd λy hy=>hop y (by simp[Op.operands,hy])) (Z90 (a:=a) be λy hy=>hop y (by simp[Op.operands,hy])) hb hps;exact val (x:=.c c) ⟨r,h1,h2⟩ (by rfl)
  .cases he
 case makeInterface t x=>
  split at he
  .rename_i nm hx;rw[cond_eq_ite]at he;split at he
   .rename_i hn;simp only[oP]at he;obtain⟨rfl,rfl⟩:=he;obtain⟨h1,h2⟩:=hop x (by simp[Op.operands]) _ hx;rw[Addr.add_zero']at h2;exact YO (v:=.iface t (a.eval x)) h (by simp[execOp,ZhS ok hn]) ⟨h1,by rw[h2]⟩
   .cases he
  .rename_i cs hx;split at he
   .rename_i l hl;rw[cond_eq_ite]at he;split at he
    .rename_i hn;simp only[oP]at he;obtain⟨rfl,rfl⟩:=he;obtain⟨vs,h1,h2⟩:=hop x (by simp[Op.operands]) _ hx;have h3:=Z9i hl h2;refine YO (v:=.iface t (a.eval x)) h (by simp[execOp,ZhS ok hn]) ?_;show Value.iface t (a.eval x)=_;rw[h1,<-h3]
    .cases he
   .cases he
  .cases he
 case typeAssert x xt t ck=>
  split at he
  .rename_i t' vs hx;split at he
   .rename_i cs a8;rw[cond_eq_ite]at he;split at he
    .rename_i hc;simp only[Q2]at hc;have ht:=Qe hc.1;subst ht;simp only[oP]at he;obtain⟨rfl,rfl⟩:=he;have h1:a.eval x=.iface t' (.agg vs):=hop x (by simp[Op.operands]) _ hx;exact YO (v:=.agg vs) h (by simp[execOp,h1,ZoD ok hc.2]) ⟨vs,rfl,ZhD a8⟩
    .cases he
   .cases he
  .cases he
 case fieldAddr t x f=>
  split at he
  .rename_i u n o' am ft hx hf;split at he
   .rename_i z hz;split at he
    .rename_i hs;simp only[oP]at he;obtain⟨rfl,rfl⟩:=he;obtain⟨y,hy⟩:=X7.1 hs;exact val (ZcR ok hf hz h hy (hop x (by simp[Op.operands]) _ hx)) (by rfl)
    .cases he
   .cases he
  .rename_i T o am ft hx hf;split at he;.rename_i ag zs hv;cases hp:Z8V (.ep (cfg.enc T (o.getD (cfg.dflt T)))) am zs.length with|none=>grind|some v=>simp only[hp,Qk,oP]at he;obtain⟨rfl,rfl⟩:=he;exact val (Z64 ok hf hv (Zxm ok (hop x (by simp[Op.operands]) _ hx) hps.1) hp) (by rfl)
   .cases he
  .rename_i p am ft b9 bz hx hf;split at he;.rename_i ag zs hv;cases hp:Z8V p am zs.length with|none=>grind|some v=>
     simp only[hp,Qk,oP]at he;obtain⟨rfl,rfl⟩:=he;exact val (Z64 ok hf hv (hop x (by simp[Op.operands]) _ hx) hp) (by rfl)
   .cases he
  .cases he
 case field t x f=>
  split at he
  .rename_i cs am ft hx hf;split at he
   .rename_i ag zs hv;split at he;.rename_i bt;cases hp:mkV ag ((cs.drop am).take zs.length)with
     |none=>grind|some v=>
      simp only[hp,Qk,oP]at he;obtain⟨rfl,rfl⟩:=he;exact val (ZnG ok hf hv (hop x (by simp[Op.operands]) _ hx) bt hp) (by rfl)
    .cases he
   .cases he
  .cases he
 case indexAddr t x i=>
  split at he
  .rename_i T l tl k n hx hi;split at he
   .rename_i S hS;split at he
    .rename_i bg _;simp only[oP]at he;obtain⟨rfl,rfl⟩:=he;subst bg;have h1:SimC cfg g.m (a.eval i) (.int k n):=(hop i (by simp[Op.operands]) _ hi).1;have e1:a.eval i=.int k n:=h1.int_eq;refine val (Zec (k:=k) ok hS (hop x (by simp[Op.operands]) _ hx) hps.1) ?_;simp[execOp,e1]
    .cases he
   .cases he
  .rename_i u k n hx hi;split at he
   .rename_i S y hS hy;split at he
    .rename_i bg _;simp only[oP]at he;obtain⟨rfl,rfl⟩:=he;subst bg;have h1:SimC cfg g.m (a.eval i) (.int k n):=(hop i (by simp[Op.operands]) _ hi).1;have e1:a.eval i=.int k n:=h1.int_eq;refine val (ZcM (k:=k) ok h hS hy (hop x (by simp[Op.operands]) _ hx) hps.1) ?_;simp[execOp,e1]
    .cases he
   .cases he
  .rename_i nm am k n hx hi;split at he
   .rename_i len et ha;split at he
    .rename_i k0 n0 hv;simp only[oP]at he;obtain⟨rfl,rfl⟩:=he;have h1:SimC cfg g.m (a.eval i) (.int k n):=(hop i (by simp[Op.operands]) _ hi).1;have e1:a.eval i=.int k n:=h1.int_eq;refine val (ZgD (k:=k) ok ha hv (hop x (by simp[Op.operands]) _ hx) hps.1) ?_;simp[execOp,e1]
    .rename_i ag zs b9 hv;split at he
     .rename_i hn;simp only[oP]at he;obtain⟨rfl,rfl⟩:=he;have h1:SimC cfg g.m (a.eval i) (.int k n):=(hop i (by simp[Op.operands]) _ hi).1;have e1:a.eval i=.int k n:=h1.int_eq;refine val (Z2K (k:=k) ok ha hv (hop x (by simp[Op.operands]) _ hx) hn) ?_;simp[execOp,e1]
     .cases he
    .cases he
   .cases he
  .cases he
 case index t x i=>
  split at he
  .rename_i cs k n hx hi;split at he
   .rename_i len et ha;split at he
    .rename_i k0 n0 hv;split at he
     .rename_i bv;split at he
      .rename_i l hl;simp only[oP]at he;obtain⟨rfl,rfl⟩:=he;have h1:SimC cfg g.m (a.eval i) (.int k n):=(hop i (by simp[Op.operands]) _ hi).1;have e1:a.eval i=.int k n:=h1.int_eq;refine val (x:=.c _) (ZcL (k:=k) ok ha hv (hop x (by simp[Op.operands]) _ hx) bv hl hps.1) ?_;simp[execOp,e1]
      .cases he
     .cases he
    .rename_i ag zs b9 hv;split at he;.rename_i hn;cases hp:mkV ag ((cs.drop (n.toNat*zs.length)).take zs.length)with|none=>grind|some v=>simp only[hp,Qk,oP]at he;obtain⟨rfl,rfl⟩:=he;have h1:SimC cfg g.m (a.eval i) (.int k n):=(hop i (by simp[Op.operands]) _ hi).1;have e1:a.eval i=.int k n:=h1.int_eq;refine val (Zeb (k:=k) ok ha hv (hop x (by simp[Op.operands]) _ hx) ⟨hn.1,hn.2.1⟩ hn.2.2 hp) ?_;simp[execOp,e1]
     .cases he
    .cases he
   .cases he
  .cases he
 case extract x i=>
  split at he
  .rename_i vs hx;split at he;.rename_i ag cs hi;cases hp:mkV ag cs with
    |none=>grind|some v=>
     simp only[hp,Qk,oP]at he;obtain⟨rfl,rfl⟩:=he;exact val (Zhq (hop x (by simp[Op.operands]) _ hx) hi hp) (by rfl)
   .cases he
  .cases he
 case call c=>
  unfold Zlz at he;split at he
  .rename_i b hb;unfold Zhd at he;have b5:execOp a.eval {dst,op:=.call c,type,pos,after,guard}=builtin b c.argTypes type (c.args.map λ|.const _=>true|_=>false) (c.args.map a.eval):=by
    simp only[execOp,resolve,hb];try rfl
   split at he
   .rename_i x t al bj;have e1:c.args=#[x]:=by apply QU;simpa using al
    have e2:c.argTypes=#[t]:=by apply QU;simpa using bj
    split at he;.rename_i v hx;cases hl:lenOf cfg st.strip t v with|none=>grind|some cc=>
      simp only[hl,Qk,oP]at he;obtain⟨rfl,rfl⟩:=he;have hr:=hop x (by simp[Op.operands,Call.operands,hb,e1]) v hx;obtain⟨r,h1,h2⟩:=ZuD (w:=w) (ty:=type) ok h hr (show lenOf cfg st t v=some cc from hl);refine val (x:=.c cc) ⟨r,h1,h2⟩ ?_;rw[b5,e1,e2];simp[builtin]
    .cases he
   .rename_i x y t t' al bj;have e1:c.args=#[x,y]:=by apply QU;simpa using al
    have e2:c.argTypes=#[t,t']:=by apply QU;simpa using bj
    split at he
    .rename_i d cx cy hd hx hy;split at he
     .rename_i ca;subst ca;have a6:=hop x (by simp[Op.operands,Call.operands,hb,e1]) _ hx;have bn:=hop y (by simp[Op.operands,Call.operands,hb,e1]) _ hy;obtain⟨callee,args,argTypes⟩:=c;simp only at hb e1 e2;subst hb e1 e2;rw[cond_eq_ite]at he;split at he;.exact ZhA ok h rfl a6 bn he hps
      .exact Zlr ok h rfl a6 bn he hps
     .have a6:=hop x (by simp[Op.operands,Call.operands,hb,e1]) _ hx;have bn:=hop y (by simp[Op.operands,Call.operands,hb,e1]) _ hy;obtain⟨callee,args,argTypes⟩:=c;simp only at hb e1 e2;subst hb e1 e2;exact Zhz ok h rfl a6 bn he hps
    .cases he
   .rename_i x t al bj;have e1:c.args=#[x]:=by apply QU;simpa using al
    have e2:c.argTypes=#[t]:=by apply QU;simpa using bj
    split at he
    .rename_i u n hx;have a6:=hop x (by simp[Op.operands,Call.operands,hb,e1]) _ hx;obtain⟨callee,args,argTypes⟩:=c;simp only at hb e1 e2;subst hb e1 e2;exact ZnV ok h rfl a6 he hps
    .cases he
   .rename_i x y t t' al bj;have e1:c.args=#[x,y]:=by apply QU;simpa using al
    have e2:c.argTypes=#[t,t']:=by apply QU;simpa using bj
    split at he
    .rename_i u n cy hx hy;split at he
     .rename_i ca;subst ca;have a6:=hop x (by simp[Op.operands,Call.operands,hb,e1]) _ hx;have bn:=hop y (by simp[Op.operands,Call.operands,hb,e1]) _ hy;obtain⟨callee,args,argTypes⟩:=c;simp only at hb e1 e2;subst hb e1 e2;exact ZqG ok h rfl a6 bn he hps
     .cases he
    .cases he
   .rename_i x y al;have e1:c.args=#[x,y]:=by apply QU;simpa using al
    split at he;.rename_i cx cy hx hy;cases hl:Z88 false cx cy with|none=>grind|some cc=>simp only[hl,Qk,oP]at he;obtain⟨rfl,rfl⟩:=he;obtain⟨r,h1,h2⟩:=Zaz (P:=P) (w:=w) (ts:=c.argTypes) (ty:=type) (hop x (by simp[Op.operands,Call.operands,hb,e1]) _ hx) (hop y (by simp[Op.operands,Call.operands,hb,e1]) _ hy) hl;refine val (x:=.c cc) ⟨r,h1,h2⟩ ?_;rw[b5,e1];simp[builtin]
    .cases he
   .rename_i x y al;have e1:c.args=#[x,y]:=by apply QU;simpa using al
    split at he;.rename_i cx cy hx hy;cases hl:Z88 true cx cy with|none=>grind|some cc=>simp only[hl,Qk,oP]at he;obtain⟨rfl,rfl⟩:=he;obtain⟨r,h1,h2⟩:=Zaz (P:=P) (w:=w) (ts:=c.argTypes) (ty:=type) (hop x (by simp[Op.operands,Call.operands,hb,e1]) _ hx) (hop y (by simp[Op.operands,Call.operands,hb,e1]) _ hy) hl;refine val (x:=.c cc) ⟨r,h1,h2⟩ ?_;rw[b5,e1];simp[builtin]
    .cases he
   .cases he
  .rename_i gx hg;split at he
   .rename_i f vs hf bh;have ar:a.eval gx=.func (.func f) #[] #[]:=hop gx (by simp[Op.operands,Call.operands,hg]) _ hf;obtain⟨m1,m2⟩:=Z7K (st:=st.strip) (cfg:=cfg) (g:=g) (a:=a) bh (λx hx v hv=>hop x (by simp[Op.operands,Call.operands,hg];right;simpa using hx) v hv);split at he
    .rename_i i hi;have e:Zvg cfg st.strip i vs=Zvg cfg st i vs:=rfl;rw[e]at he;exact ZuL ok hΓ h (Z1g rfl hg (first:=[]) (caps:=[]) ar) ⟨by simpa using m1,λj u x hu hx=>m2 j u x (by simpa using hu) hx⟩ hi he hps
    rw[cond_eq_ite]at he;split at he
    .have e:Z8u Γ st.strip f vs=Z8u Γ st f vs:=rfl;rw[e]at he;exact Zgr hΓ h (Z1g rfl hg (first:=[]) (caps:=[]) ar) ⟨by simpa using m1,λj u x hu hx=>m2 j u x (by simpa using hu) hx⟩ he hps
    split at he
    .rename_i r hr;cases he;rw[cond_eq_ite]at hr;split at hr;.have e:∀d,Zvf Γ st.strip d f vs=Zvf Γ st d f vs:=λd=>rfl;rw[e]at hr;exact Zuj hΓ h rfl hg ar ⟨by simpa using m1,λj u x hu hx=>m2 j u x (by simpa using hu) hx⟩ hr hps
     .cases hr
    rw[Z41]at he;exact Z5O hΓ h (Z1g rfl hg (first:=[]) (caps:=[]) ar) ⟨by simpa using m1,λj u x hu hx=>m2 j u x (by simpa using hu) hx⟩ he hps
   .rename_i f nms vs hf bh;have ar:=hop gx (by simp[Op.operands,Call.operands,hg]) _ hf;obtain⟨m1,m2⟩:=Z7K (st:=st.strip) (cfg:=cfg) (g:=g) (a:=a) bh (λx hx v hv=>hop x (by simp[Op.operands,Call.operands,hg];right;simpa using hx) v hv);split at he;.rename_i k hk;have e:Zjl st.strip k vs nms=Zjl st k vs nms:=rfl;rw[e]at he;exact ZpM hΓ h (Z1g rfl hg (first:=[]) (caps:=nms.map λnm=>Value.pointer (some (g.ad nm))) ar.2) ⟨by simpa using m1,λj u x hu hx=>m2 j u x (by simpa using hu) hx⟩ hk he
    rw[Z41]at he;refine Z5O hΓ h (Z1g rfl hg (first:=[]) (caps:=nms.map λnm=>Value.pointer (some (g.ad nm))) ar.2) ⟨by simp[<-m1],λj u x hu hx=>?_⟩ he hps;rw[Qh]at hu;rw[QK]at hu hx;split at hu;.rename_i dc;rw[Y3]at hx;exact m2 j u x hu hx
    .rename_i cw;rw[JH]at hx;rw[<-m1]at hx;rw[Qz]at hu hx;cases br:nms[j-(List.map a.eval c.args.toList).length]? with|none=>grind|some nm=>rw[br]at hu hx;cases hu;cases hx;exact⟨ar.1 nm (X4 br),by rfl⟩
   .rename_i f first caps vs hf bh;split at he
    .rename_i us bi dh;rw[Z41]at he;have ar:a.eval gx=.func (.func f) first caps:=hop gx (by simp[Op.operands,Call.operands,hg]) _ hf;have b6:caps=#[]:=by apply QU;simpa using bi
     obtain⟨m1,m2⟩:=Z7K (st:=st.strip) (cfg:=cfg) (g:=g) (a:=a) bh (λx hx v hv=>hop x (by simp[Op.operands,Call.operands,hg];right;simpa using hx) v hv);obtain⟨k1,k2⟩:=Zat (cfg:=cfg) (g:=g) (dead:=st.dead) (live:=λnm=>(st.mem nm).isSome) dh;refine Z5O hΓ h (Z1g rfl hg (first:=first.toList) (caps:=[]) (by rw[ar,b6])) ⟨by simp[k1,<-m1],λj u x hu hx=>?_⟩ he hps;rw[Qi]at hu;rw[QK]at hu hx;split at hu;.rename_i dc;rw[Y3]at hx;exact k2 j u x hu hx
     .rename_i cw;rw[JH,<-k1]at hx;exact m2 _ u x hu hx
    .cases he
   .cases he
  .rename_i r di hg;split at he
   .rename_i t nm vs hr bh;obtain⟨m1,m2⟩:=Z7K (st:=st.strip) (cfg:=cfg) (g:=g) (a:=a) bh (λx hx v hv=>hop x (by simp[Op.operands,Call.operands,hg];right;simpa using hx) v hv);obtain⟨br,b3⟩:=hop r (by simp[Op.operands,Call.operands,hg]) _ hr;split at he
    .rename_i f hm;rw[Z41]at he;refine Z5O hΓ h (λfn h1 h2 h3=>Z8G (u:=undef) ok rfl hg b3 hm (by simp) h1 h2 h3) ⟨by simp[<-m1],λj u x hu hx=>?_⟩ he hps;cases j with
     |zero=>simp at hu hx;subst hu hx;exact⟨br,by simp[Addr.add_zero']⟩|succ j=>exact m2 j u x (by simpa using hu) (by simpa using hx)
    .rename_i f hm;split at he
     .rename_i c0 b6;obtain⟨u,hu,_,dd⟩:=h.mem nm [c0] b6 0 c0 rfl;rw[Addr.add_zero']at hu;rw[cond_eq_ite]at he;split at he
      .have e:Z8u Γ st.strip f (.c c0::vs)=Z8u Γ st f (.c c0::vs):=rfl;rw[e]at he;refine Zgr hΓ h (vals:=u::c.args.toList.map a.eval) (λfn h1 h2 h3=>Z8G ok rfl hg b3 hm (λ_=>hu) h1 h2 h3) ⟨by simp[<-m1],λj v x hv hx=>?_⟩ he hps;cases j with
       |zero=>simp at hv hx;subst hv hx;exact dd|succ j=>exact m2 j v x (by simpa using hv) (by simpa using hx)
      .rw[Zlx]at he;exact ZnW hΓ h (vals:=c.args.toList.map a.eval) (λfn h1 h2 h3=>Z8G ok rfl hg b3 hm (λ_=>hu) h1 h2 h3) hu br ⟨m1,m2⟩ he hps
     .cases he
    .cases he
   .cases he
 case makeFunc fn first caps=>
  split at he
  .rename_i f nms b2 hm;simp only[oP]at he;obtain⟨rfl,rfl⟩:=he;have a1:first=#[]:=by apply QU;simpa using b2
   have bu:∀(l:List Operand)(nms:List Name),(∀x∈l,x∈caps.toList)->l.mapM (λx=>(st.strip.opnd x).bind Zk9)=some nms->l.map a.eval=nms.map (λnm=>Value.pointer (some (g.ad nm)))/\∀nm∈nms,((st.mem nm).isSome||nm.isX)=true:=by intro l;induction l with
    |nil=>grind|cons x l ih=>
     intro nms hl hm;rw[QW]at hm;cases h1:(st.strip.opnd x).bind Zk9 with|none=>grind|some nm=>cases h2:l.mapM (λx=>(st.strip.opnd x).bind Zk9)with
      |none=>grind|some r=>
       simp[h1,h2]at hm;subst hm;obtain⟨h3,h4⟩:=ih r (λy hy=>hl y (by simp[hy])) h2;obtain⟨v,h5,h6⟩:=bind_some h1;have h7:=hop x (by have:=hl x (by simp);simp only[Op.operands];grind) v h5;unfold Zk9 at h6;split at h6;.cases h6;obtain⟨h8,h9⟩:=h7;rw[Addr.add_zero']at h9;grind
       .cases h6
   obtain⟨k1,k2⟩:=bu caps.toList nms (λx hx=>hx) hm;refine YO (v:=.func (.func f) #[] (caps.map a.eval)) h ?_ ⟨k2,?_⟩;.simp[execOp,Instr.makeFunc,a1]
   .congr 1;grind
  .rename_i f x b2 hm;split at he;.rename_i cs hx;cases hl:ZcV cs with
    |none=>simp[hl]at he|some l=>
     simp only[hl,Qk,oP]at he;obtain⟨rfl,rfl⟩:=he;have a1:first=#[x]:=by apply QU;simpa using b2
     have bi:caps=#[]:=by apply QU;cases hcl:caps.toList with
      |nil=>rfl|cons y ys=>
       rw[hcl,QW]at hm;cases h1:(st.strip.opnd y).bind Zk9 with|none=>simp[h1]at hm|some nm=>cases h2:ys.mapM (λx=>(st.strip.opnd x).bind Zk9)<;>simp[h1,h2]at hm
     obtain⟨vs,h1,h2⟩:=hop x (by simp[Op.operands,a1]) _ hx;have h3:=Z9i hl h2;refine YO (v:=.func (.func f) #[a.eval x] #[]) h (by simp[execOp,Instr.makeFunc,a1,bi]) ?_;show Value.func (.func f) #[a.eval x] #[]=_;rw[h1,<-h3]
   .cases he
  .cases he
def Wr(cfg:Cfg U)(g:Gh)(t:Tok)(x:LC U)(c:Addr):Prop:=∃b len cap,g.bs t=some (.slice (some b) len cap,cfg.sz x.T)/\∃j,x.f*cfg.sz x.T<=j/\j<len*cfg.sz x.T/\c=b.add j
open Classical in noncomputable def Gh.settled(g:Gh)(w:World)(R:Addr->Prop)(t:Tok):Gh:=
 {m:=λc=>if R c then w.cell? c else g.m c
  tag:=λc=>if R c then none else g.tag c
  ad:=g.ad
  bs:=λu=>if u=t then none else g.bs u}
theorem Zol(ok:CfgOk P cfg){t:Tok}{x:LC U}(hL:LRel cfg w g t x){c:Addr}(hc:Wr cfg g t x c):g.tag c=some (.tok t)/\∃v,w.cell? c=some v:=by
 obtain⟨b,len,ah,h1,j,h2,h3,rfl⟩:=hc;rcases hL with⟨e1,_⟩|⟨b',len',cap',e1,e2,e3,e4,e5,e6⟩;.grind
 .rw[h1]at e1;cases e1;have d:=ok.sz_pos x.T;have hi:j/cfg.sz x.T<x.l.length:=by rw[e2];exact Xv (by grind)
  have aa:j%cfg.sz x.T<(cfg.enc x.T (x.l[j/cfg.sz x.T])).length:=by rw[ok.enc_len];exact XQ _ d
  obtain⟨v,e7,_,_,e8⟩:=e5 _ _ (Q1 hi) _ _ (Q1 aa);have e:j/cfg.sz x.T*cfg.sz x.T+j%cfg.sz x.T=j:=by rw[Xq];exact XL _ _
  rw[e]at e7 e8;exact⟨e8 ((K0 d).2 h2),v,e7⟩
section frz
variable{t:Tok}{x:LC U}
theorem Z4m(ok:CfgOk P cfg)(h:Rel cfg B st g a w)(hL:LRel cfg w g t x):∀c v,g.m c=some v->(g.settled w (Wr cfg g t x) t).m c=some v:=by
 intro c v d;simp only[Gh.settled];rw[if_neg];.exact d
 .intro hc;have:=(Zol ok hL hc).1;rw[(h.inv.im c v d).2]at this;cases this
theorem Z3F(ok:CfgOk P cfg)(hL:LRel cfg w g t x){c:Addr}{t':Tag}(hne:t'≠.tok t):g.tag c=some t'↔(g.settled w (Wr cfg g t x) t).tag c=some t':=by
 simp only[Gh.settled];split;.rename_i hc;rw[(Zol ok hL hc).1];grind
 grind
theorem Z9U(ok:CfgOk P cfg)(h:Rel cfg B st g a w)(hL:LRel cfg w g t x){b:Addr}{len cap:Nat}(hbs:g.bs t=some (.slice (some b) len cap,cfg.sz x.T)):x.l.length=len/\len<=cap/\(∀i y,x.l[i]?=some y->∀j c,(cfg.enc x.T y)[j]?=some c->∃v,(g.settled w (Wr cfg g t x) t).m (b.add (i*cfg.sz x.T+j))=some v/\SimC cfg (g.settled w (Wr cfg g t x) t).m v c)/\∀j,len*cfg.sz x.T<=j->j<cap*cfg.sz x.T->(g.settled w (Wr cfg g t x) t).tag (b.add j)=some (.tok t):=by
 rcases hL with⟨e1,_⟩|⟨b',len',cap',e1,e2,e3,e4,e5,e6⟩;.grind
 have d:LRel cfg w g t x:=.inr ⟨b',len',cap',e1,e2,e3,e4,e5,e6⟩;have e0:=e1;rw[hbs]at e0;cases e0;refine⟨e2,e3,λi y hy j c hc=>?_,λj a1 a2=>?_⟩
 .obtain⟨u,e7,e8,e9,ak⟩:=e5 i y hy j c hc;refine⟨u,?_,e8.mono (Z4m ok h d)⟩;rcases XC i x.f with hi|hi;.exact Z4m ok h d _ _ (e9 hi)
  .have hj:j<cfg.sz x.T:=by have:=(Q4.1 hc).1;rw[ok.enc_len]at this;exact this
   have ab:i<len:=by have:=(Q4.1 hy).1;omega
   have h1:x.f*cfg.sz x.T<=i*cfg.sz x.T:=Qg _ hi;have h2:(i+1)*cfg.sz x.T<=len*cfg.sz x.T:=Qg _ ab;rw[QL]at h2;simp only[Gh.settled];rw[if_pos ⟨b,len,cap,e1,_,Yp,Yp,rfl⟩];exact e7
 .simp only[Gh.settled];rw[if_neg];.grind
  .rintro⟨b2,ai,aj,h1,j2,h2,h3,h4⟩;rw[e1]at h1;cases h1;have:=Z2k h4;omega
theorem Zzj(ok:CfgOk P cfg)(h:Rel cfg B st g a w)(hd:st.dead t=false)(hL:LRel cfg w g t x){v:Value}{c:C U}(hr:RelC cfg g st.dead v c):RelC cfg (g.settled w (Wr cfg g t x) t) st.dead v (c.frz t x):=by have d:=Z4m ok h hL;cases c with
 |slice T l tl=>cases tl with
  |unk=>exact⟨hr.1.mono d,trivial⟩|full=>exact⟨hr.1.mono d,hr.2⟩|own u=>
   simp only[C.frz];split;.exact⟨(hr.1.tl _).mono d,trivial⟩
   .rename_i af;exact⟨hr.1.mono d,λaa b len ab hv j h1 h2=>(Z3F ok hL (λe=>by grind)).1 (hr.2 aa b len ab hv j h1 h2)⟩
 |mref u=>
  simp only[C.frz];split
  .rename_i e;subst e;obtain⟨s,hs⟩:=hr.2 hd;rcases hL with⟨e1,e2,e3⟩|⟨b',len',cap',e1,e2⟩;.rw[hs]at e1;cases e1;obtain⟨T,l,f⟩:=x;simp only at e2;subst e2;exact⟨.snil T _,λ_ b len ab hv=>by cases hv⟩
   .have ai:LRel cfg w g u x:=.inr ⟨b',len',cap',e1,e2⟩;obtain⟨r1,r2,r3,r4⟩:=Z9U ok h ai e1;rw[hs]at e1;cases e1;refine⟨.of_rows _ r1 r2 r3,λ_ b len ab hv j h1 h2=>?_⟩;grind
  .rename_i af;refine⟨.mref _ _ hr.1.one,λaa=>?_⟩;obtain⟨s,hs⟩:=hr.2 aa;refine⟨s,?_⟩;simp only[Gh.settled];grind|kc v=>exact⟨hr.1.mono d,trivial⟩|jk=>exact⟨.jk _ hr.1.one,trivial⟩|xp k=>exact⟨.xp _ _ hr.1.one,hr.2⟩|int k n=>exact⟨hr.1.mono d,trivial⟩|bool b=>exact⟨hr.1.mono d,trivial⟩|nils=>exact⟨hr.1.mono d,trivial⟩|nilp=>exact⟨hr.1.mono d,trivial⟩|po T o=>exact⟨hr.1.mono d,trivial⟩
theorem ZLQ(ok:CfgOk P cfg)(h:Rel cfg B st g a w)(hd:st.dead t=false)(hL:LRel cfg w g t x){vs:List Value}{cs:List (C U)}(hr:RelL cfg g st.dead vs cs):RelL cfg (g.settled w (Wr cfg g t x) t) st.dead vs (cs.map (C.frz t x)):=by refine⟨by simp[hr.1],λj v c d hc=>?_⟩;rw[Qz]at hc;cases hj:cs[j]? with|none=>grind|some c0=>simp[hj]at hc;subst hc;exact Zzj ok h hd hL (hr.2 j v c0 d hj)
theorem ZLP(ok:CfgOk P cfg)(h:Rel cfg B st g a w)(hd:st.dead t=false)(hL:LRel cfg w g t x){live:Name->Bool}{v:Value}:∀{y:V U},RelV cfg g st.dead live v y->RelV cfg (g.settled w (Wr cfg g t x) t) st.dead live v (y.frz cfg t x)
 |.c y,hr=>Zzj ok h hd hL (c:=y) hr|.agg cs,hr=>by obtain⟨vs,d,h2⟩:=hr;exact⟨vs,d,ZLQ ok h hd hL h2⟩|.tup ws,hr=>by
  obtain⟨vs,d,h2,h3⟩:=hr;refine⟨vs,d,by simp[h2],λj u y hu hy=>?_⟩;rw[Qz]at hy;cases hj:ws[j]? with
  |none=>grind|some w0=>
   simp[hj]at hy;subst hy;have:=h3 j u w0 hu hj;obtain⟨ag,cs⟩:=w0;cases ag with
   |true=>obtain⟨vs,h4,h5⟩:=this;exact⟨vs,h4,ZLQ ok h hd hL h5⟩|false=>obtain⟨c,h4,h5⟩:=this;simp only at h4;subst h4;exact⟨_,rfl,Zzj ok h hd hL h5⟩
 |.ptr _ _,hr=>hr|.ap ..,hr=>hr|.ep cs,hr=>by
  obtain⟨b,d,h2⟩:=hr;refine⟨b,d,λj c hc=>?_⟩;rw[Qz]at hc;cases hj:cs[j]? with
  |none=>grind|some c0=>
   simp[hj]at hc;subst hc;obtain⟨u,h3,h4⟩:=h2 j c0 hj;exact⟨u,Z4m ok h hL _ _ h3,Zzj ok h hd hL h4⟩
 |.mp u n off,hr=>by
  simp only[V.frz];split
  .rename_i e;subst e;obtain⟨b,len,ab,s,d,h2,rfl⟩:=hr hd;have hs:s=cfg.sz x.T:=by
    rcases hL with⟨e1,_⟩|⟨b',len',cap',e1,_⟩<;>rw[d]at e1<;>cases e1;try rfl
   subst hs;obtain⟨r1,r2,r3,r4⟩:=Z9U ok h hL d;refine⟨_,rfl,λj c hc=>?_⟩;rw[Qy]at hc;have aj:x.l[n]?=some (x.l.getD n (cfg.dflt x.T)):=by simp[List.getD,Q1 (show n<x.l.length by omega)]
   obtain⟨u',h5,h6⟩:=r3 n _ aj _ c hc;rw[Go.Deep.add_add,show n*cfg.sz x.T+off+j=n*cfg.sz x.T+(off+j)by omega];exact⟨u',h5,h6,Z8X (ok.enc_plain _ _ c (X4 hc))⟩
  .rename_i ak;intro af;obtain⟨b,len,ab,s,d,h2,h3⟩:=hr af;refine⟨b,len,ab,s,?_,h2,h3⟩;simp only[Gh.settled];grind|.vw u n,hr=>by
  simp only[V.frz];split;.trivial
  .rename_i ak;intro af;obtain⟨b,len,ab,s,d,h2,h3⟩:=hr af;refine⟨b,len,ab,s,?_,h2,h3⟩;simp only[Gh.settled];grind|.fn _,hr=>hr|.clo _ _,hr=>hr|.ifp _ _,hr=>hr|.kv _,hr=>hr|.gd b y,hr=>⟨λhb=>ZLP ok h hd hL (hr.1 hb),hr.2⟩|.nb _ _,hr=>hr|.junk,_=>trivial
theorem ZDS(ok:CfgOk P cfg)(h:Rel cfg B st g a w)(t:Tok):∃g',Rel cfg B (st.frz1 cfg t) g' a w:=by
 unfold FSt.frz1;cases hx:st.ls t with
 |none=>grind|some x=>
  obtain⟨hd,hL⟩:=h.ls t x hx;have hm:=Z4m ok h hL;refine⟨g.settled w (Wr cfg g t x) t,⟨λc v hv=>?_,λc t' ht=>?_⟩,?_,λk=>?_,λnm cs hn j c hc=>?_,h.sz,h.df,λu y hy=>?_,λu hu d h2=>?_⟩
  .by_cases hc:Wr cfg g t x c
   .simp only[Gh.settled]at hv⊢;grind
   .simp only[Gh.settled]at hv⊢;rw[if_neg hc]at hv⊢;exact h.inv.im c v hv
  .simp only[Gh.settled]at ht;split at ht;.cases ht
   .exact h.inv.it c t' ht
  .refine h.fr.step h.inv (Evo.refl w (λ_=>False)) (λc hc=>hc.elim) hm (λc t'=>Z3F ok hL (by simp)) ?_ (λ_=>rfl);intro b _ ak o sp;simp only[Gh.settled];split;.rename_i hc;obtain⟨t',h3⟩:=ak _ _ _ (Zol ok hL hc).1;cases h3
   .try rfl
  .have hl:(λnm=>((st.mem nm).map λcs=>cs.map (C.frz t x)).isSome)=λnm=>(st.mem nm).isSome:=by funext nm;cases st.mem nm<;>rfl
   simp only[hl];exact ZLP ok h hd hL (h.env k)
  .simp only at hn;cases hcs:st.mem nm with|none=>grind|some cs0=>rw[hcs]at hn;simp only[Qk,Option.some.injEq]at hn;subst hn;rw[Qz]at hc;cases hj:cs0[j]? with|none=>grind|some c0=>simp[hj]at hc;subst hc;obtain⟨v,d,h2,h3⟩:=h.mem nm cs0 hcs j c0 hj;exact⟨v,d,(Z3F ok hL (by simp)).1 h2,Zzj ok h hd hL h3⟩
  .simp only at hy;split at hy;.cases hy
   .rename_i ab;obtain⟨d,h2⟩:=h.ls u y hy;have hk:Keeps g (g.settled w (Wr cfg g t x) t) st.dead (λu=>st.dead u||decide (u=t)) (λ_=>false) (λ_=>false):=by
     refine⟨hm,λc u hu ht=>?_,λu hu=>by grind,λnm hn=>(by cases hn),λu v hu hv=>?_,λ_=>rfl⟩;.simp only[QO,decide_eq_false_iff_not]at hu;exact(Z3F ok hL (λe=>by grind)).1 ht
     .simp only[QO,decide_eq_false_iff_not]at hu;simp only[Gh.settled];grind
    exact⟨d,h2.keep hk (by simp[d,ab]) (λc v hv=>(h.inv.im c v hv).1) (λ_ _=>rfl)⟩
  .simp only at d;simp only[Gh.settled];split;.try rfl
   .rename_i ab;rw[if_neg ab]at d;exact h.fresh u hu d h2
end frz
theorem Zqv(ok:CfgOk P cfg):∀(ts:List Tok){st:FSt U}{g:Gh},Rel cfg B st g a w->∃g',Rel cfg B (st.frz cfg ts) g' a w|[],st,g,h=>⟨g,h⟩|t::ts,st,g,h=>by obtain⟨g1,d⟩:=ZDS ok h t;exact Zqv ok ts d
theorem Zzi:∀(ts:List Tok)(st:FSt U),(st.frz cfg ts).n=st.n|[],st=>rfl|t::ts,st=>by show((st.frz1 cfg t).frz cfg ts).n=st.n;rw[Zzi ts];unfold FSt.frz1;grind
theorem ZmU{α:Type}(st:FSt U)(k:FSt U->α)(ts:List Tok):Z6G cfg st k ts=k (Z6G cfg st id ts):=by cases ts<;>rfl
theorem ZcZ{Γ:Known U}{ops:Array Oper}{fz:Bool}{o:Oper}{r:List Oper}:Zh9 cfg Γ ops fz (o::r) st=match Z66 cfg Γ ops o (st.pre cfg Γ fz o)with|none=>none|some (ps,e)=>match Zh9 cfg Γ ops fz r ((st.pre cfg Γ fz o).app o.dst e)with|none=>none|some (qs,st')=>some (ps++qs,st'):=by show Z6G cfg st _ _=_;rw[ZmU];try rfl
theorem ZGj{Γ:Known U}(ok:CfgOk P cfg)(h:Rel cfg B st g a w)(fz:Bool)(o:Oper):∃g',Rel cfg B (st.pre cfg Γ fz o) g' a w:=by unfold FSt.pre;generalize(bif fz then Zet Γ o st else[])=ts;cases ts with|nil=>exact⟨g,h⟩|cons t r=>exact Zqv ok _ h
theorem ZLy{Γ:Known U}(fz:Bool)(o:Oper):(st.pre cfg Γ fz o).n=st.n:=by unfold FSt.pre;generalize(bif fz then Zet Γ o st else[])=ts;cases ts with|nil=>rfl|cons t r=>exact Zzi _ st
theorem ZGk{Γ:Known U}(o:Oper):st.pre cfg Γ false o=st:=rfl
end Go.AM
namespace Go.AM
variable{U:Uni}{P:Program}{cfg:Cfg U}{B:Base}{st:FSt U}{g:Gh}{a:Act}{w:World}
theorem FSt.app_gd(st:FSt U){v:Value}{x:V U}{w':World}{g':Gh}(o:Out cfg B st g {val:=some x} v w' g'):Out cfg B st g {val:=some (.gd true x)} v w' g':=⟨o.inv,o.fr,o.keep,o.mem,⟨λ_=>o.val,λh=>by cases h⟩,o.ls,o.fresh⟩
theorem FSt.app_gdm(st:FSt U){v:Value}{x:V U}{m:List (Name×List (C U))}{w':World}{g':Gh}(o:Out cfg B st g {val:=some x,mem:=m} v w' g'):Out cfg B st g {val:=some (.gd true x),mem:=m} v w' g':=⟨o.inv,o.fr,o.keep,o.mem,⟨λ_=>o.val,λh=>by cases h⟩,o.ls,o.fresh⟩
theorem ZnR{v:V U}{b:Bool}(h:v.deX=.c (.bool b)):v=.c (.bool b):=by unfold V.deX at h;grind
theorem Zqr{tyEq:DecidableEq U.Ty}{c c' x:C U}(h:Znt tyEq true c c'=some x):x=c':=by
 unfold Znt at h;split at h
 .split at h;.rename_i e;subst e;cases h;rfl
  .cases h
 .cases h;rfl
 .cases h;rfl
 .cases h;rfl
 .split at h;.rename_i e;subst e;cases h;rfl
  .cases h
 .split at h;.rename_i e _;subst e;cases h;rfl
  .cases h
 .split at h;.rename_i e _;subst e;cases h;rfl
  .cases h
 .cases h
theorem Zns{tyEq:DecidableEq U.Ty}{c c' x:C U}(h:Znt tyEq false c c'=some x):x=c:=by
 unfold Znt at h;split at h
 .split at h;.cases h;rfl
  .cases h
 .cases h;rfl
 .cases h;rfl
 .cases h;rfl
 .split at h;.cases h;rfl
  .cases h
 .split at h;.cases h;rfl
  .cases h
 .split at h;.cases h;rfl
  .cases h
 .cases h
theorem ZgB{tyEq:DecidableEq U.Ty}:∀{a b x:List (C U)},ZdT tyEq true a b=some x->x=b
 |[],[],x,h=>by simp only[ZdT,Option.some.injEq]at h;exact h.symm|c::r,c'::r',x,h=>by
  simp only[ZdT]at h;split at h;.rename_i y z d h2;cases h;rw[Zqr d,ZgB h2]
  .cases h
theorem ZdS{tyEq:DecidableEq U.Ty}:∀{a b x:List (C U)},ZdT tyEq false a b=some x->x=a
 |[],[],x,h=>by simp only[ZdT,Option.some.injEq]at h;exact h.symm|c::r,c'::r',x,h=>by
  simp only[ZdT]at h;split at h;.rename_i y z d h2;cases h;rw[Zns d,ZdS h2]
  .cases h
theorem ZgA{tyEq:DecidableEq U.Ty}{m0:Name->Option (List (C U))}:∀{m m':List (Name×List (C U))},Z4L tyEq true m0 m=some m'->m'=m
 |[],m',h=>by simp only[Z4L,Option.some.injEq]at h;exact h.symm|(nm,cs)::r,m',h=>by
  simp only[Z4L]at h;split at h;.cases h
  .split at h;.rename_i y z d h2;cases h;rw[ZgB d,ZgA h2]
   .cases h
theorem ZdQ{tyEq:DecidableEq U.Ty}{m0:Name->Option (List (C U))}:∀{m m':List (Name×List (C U))},Z4L tyEq false m0 m=some m'->∀nm,ZX m0 m' nm=m0 nm
 |[],m',h,nm=>by simp only[Z4L,Option.some.injEq]at h;subst h;rfl|(n0,cs)::r,m',h,nm=>by
  simp only[Z4L]at h;split at h;.cases h
  .rename_i ab d;split at h
   .rename_i y z h1 h2;cases h;simp only[ZX];split;.rename_i e;subst e;rw[d,ZdS h1]
    .exact ZdQ h2 nm
   .cases h
theorem Rel.pureM(h:Rel cfg B st g a w){v:Value}{x:V U}{m:List (Name×List (C U))}(hm:∀nm,ZX st.mem m nm=st.mem nm)(hv:RelV cfg g st.dead (λnm=>(st.mem nm).isSome) v x):Out cfg B st g {val:=some x,mem:=m} v w g:=by
 have hd:Zp st ({val:=some x,mem:=m}:Eff U)=st.dead:=by funext t;simp[Zp]
 have hl:Yi st ({val:=some x,mem:=m}:Eff U)=λnm=>(st.mem nm).isSome:=by funext nm;simp only[Yi,hm]
 refine⟨h.inv,h.fr,?_,?_,?_,by rw[hd];exact λt x hx=>h.ls t x hx,by rw[hd];exact λt h0 h1 h2=>h.fresh t h0 h1 h2⟩;.rw[hd,hl];exact .refl _ _ _
 .rw[hd];intro nm cs d;rw[hm]at d;exact h.mem nm cs d
 grind
theorem All.map_imp{G:Bool}:∀{ps:List Prop},All (ps.map λp=>(G=true->p))->G=true->All ps|[],_,_=>trivial|_::_,h,hG=>⟨h.1 hG,All.map_imp h.2 hG⟩
theorem Z2c{G:Option Bool}{c:Prop}{v:V U}{b:Bool}{u:V U}(h:All (ZdV G c v))(hv:v=.gd b u)(hG:∀b,G=some b->b=true)(hc:c):b=true:=by subst hv;cases G with|none=>exact h.1 hc|some b'=>exact h.1 (hG b' rfl) hc
theorem ZhC(h:Rel cfg B st g a w){ops:Array Oper}{o:Oper}{G:Option Bool}(hG:Z5F ops st o=some G):match G with|none=>Region.wanted o (yielded ops a.tmps)=true|some b=>Region.wanted o (yielded ops a.tmps)=b:=by
 unfold Z5F at hG;split at hG
 .rename_i hg;cases hG;simp[Region.wanted,hg]
 .rename_i j af hg;split at hG
  .rename_i t ht;have ah:∀b0:Bool,a.tmps.getD t undef=.bool b0->Region.wanted o (yielded ops a.tmps)=(if af then b0 else !b0):=by
    intro b0 e1;have ai:t<a.tmps.size:=by
     rcases XC t a.tmps.size with h1|h1;.exact h1
     .simp[Array.getD,Nat.not_lt.2 h1,undef]at e1
    have e2:a.tmps[t]?=some (.bool b0):=by
     rw[QG ai];simpa[Array.getD,ai]using e1
    have hy:yielded ops a.tmps j=some b0:=by simp[yielded,ht,e2]
    simp only[Region.wanted,hg,hy];grind
   split at hG
   .rename_i b0 d;cases hG;have hr:=h.env t;rw[d]at hr;exact ah b0 (SimC.bool_eq (h:=hr.1))
   .rename_i g0 b0 d;cases hG;have hr:=h.env t;rw[d]at hr;cases g0 with
    |true=>
     show Region.wanted o (yielded ops a.tmps)=(true&&_);rw[Xu];exact ah b0 (SimC.bool_eq (h:=(hr.1 rfl).1))|false=>
     have e1:=hr.2 rfl;have hy:yielded ops a.tmps j=none:=by
      simp only[yielded,ht,Qr];cases e2:a.tmps[t]? with
      |none=>rfl|some v=>
       have:a.tmps.getD t undef=v:=by
        obtain⟨h1,h2⟩:=QJ.1 e2;simp[Array.getD,h1,h2]
       rw[this]at e1;subst e1;try rfl
     show Region.wanted o (yielded ops a.tmps)=(false&&_);simp only[Region.wanted,hg,hy,Bool.false_and];try rfl
   .cases hG
  .cases hG
theorem Ze2{Γ:Known U}(ok:CfgOk P cfg)(hΓ:∀f s,Γ f=some s->Contract P cfg f s)(h:Rel cfg B st g a w){ops:Array Oper}{o:Oper}{ps:List Prop}{e:Eff U}(he:Z66 cfg Γ ops o st=some (ps,e))(hps:All ps){K:Act->World->Prop}{Q:Exit->Act->World->Prop}(hK:∀g' a' w',Rel cfg B (st.app o.dst e) g' a' w'->K a' w'):if Region.wanted o (yielded ops a.tmps)then o.wp P a w K Q else K (a.put o.dst undef) w:=by
 unfold Z66 at he;split at he;case isFalse=>cases he
 rename_i hd;unfold ZFE at hd;have aw:∀k,o.dst=some k->k<st.n:=by intro k hk;rw[hk]at hd;exact Nat.blt_eq.mp hd
 have aq:∀{e:Eff U},(∀g' a' w',Rel cfg B (st.app o.dst e) g' a' w'->K a' w')->(Does P o a w λv w'=>∃g',Out cfg B st g e v w' g')->o.wp P a w K Q:=by intro e hK hD;refine Oper.wp_mono ?_ (Does.wp (Q:=Q) hD);rintro a' w'⟨v,rfl,g',hO⟩;exact hK g' _ _ (h.app hO aw)
 have a6:∀{v:V U}{m:List (Name×List (C U))},(∀nm,ZX st.mem m nm=st.mem nm)->(∀g' a' w',Rel cfg B (st.app o.dst {val:=some (.gd false v),mem:=m}) g' a' w'->K a' w')->Region.wanted o (yielded ops a.tmps)=false->if Region.wanted o (yielded ops a.tmps)then o.wp P a w K Q else K (a.put o.dst undef) w:=by intro v m hm hK hw;rw[if_neg (by rw[hw];simp)];have hO:Out cfg B st g {val:=some (.gd false v),mem:=m} undef w g:=h.pureM hm ⟨λhb=>(by cases hb),λ_=>rfl⟩;exact hK g _ _ (h.app hO aw)
 have am:∀{v:V U},(∀g' a' w',Rel cfg B (st.app o.dst {val:=some (.gd false v)}) g' a' w'->K a' w')->Region.wanted o (yielded ops a.tmps)=false->if Region.wanted o (yielded ops a.tmps)then o.wp P a w K Q else K (a.put o.dst undef) w:=by
  intro v hK hw;rw[if_neg (by rw[hw];simp)];have hO:Out cfg B st g {val:=some (.gd false v)} undef w g:=h.pure ⟨λhb=>(by cases hb),λ_=>rfl⟩;exact hK g _ _ (h.app hO aw)
 split at he
 .rename_i c x y a1;split at he
  .rename_i G c0 x0 y0 hG hc hx hy;have d:=ZhC h hG;have get:∀{z:Operand}{v:V U}{b:Bool},st.opnd z=some v->v.strip=.c (.bool b)->(∀b' u,v=.gd b' u->b'=true)->a.eval z=.bool b:=by
    intro z v b hz hs hg;have hr:RelV cfg g st.dead (λnm=>(st.mem nm).isSome) (a.eval z) v:=by cases z with
     |tmp t=>simp only[FSt.opnd,Option.some.injEq]at hz;subst hz;exact h.env t|const c=>exact Z2r hz|func f=>simp only[FSt.opnd,Option.some.injEq]at hz;subst hz;rfl|global g=>trivial
    cases v with|gd b' u=>have hs:=ZnR (v:=u) hs;subst hs;exact SimC.bool_eq (hr.1 (hg _ _ rfl)).1|c u=>have hs:=ZnR (v:=.c u) hs;cases hs;exact SimC.bool_eq hr.1|_=>trivial
   have one:∀{b:Bool},(∀g' a' w',Rel cfg B (st.app o.dst {val:=some (gV G (.c (.bool b)))}) g' a' w'->K a' w')->((∀q,G=some q->q=true)->Does P o a w λv w'=>∃g',Out cfg B st g {val:=some (.c (.bool b))} v w' g')->if Region.wanted o (yielded ops a.tmps)then o.wp P a w K Q else K (a.put o.dst undef) w:=by
    intro b hK a2;cases G with
    |none=>rw[if_pos d];exact aq hK (a2 (λ_ hh=>by cases hh))|some Gb=>cases Gb with
     |true=>
      rw[if_pos d];refine aq (e:={val:=some (.gd true (.c (.bool b)))}) hK ?_;have:=a2 (λ_ hh=>by cases hh;rfl);rcases this with⟨u,w',h1,g',h2⟩|⟨w',h1,g',h2⟩|⟨f,args,w',h1,h2⟩;.exact .inl ⟨u,w',h1,g',FSt.app_gd st h2⟩
      .exact .inr (.inl ⟨w',h1,g',FSt.app_gd st h2⟩)
      .exact .inr (.inr ⟨f,args,w',h1,Calls.mono h2 λe bg⟨u,he,g',h3⟩=>⟨u,he,g',FSt.app_gd st h3⟩⟩)|false=>exact am hK d
   split at he
   .rename_i cv av bv ar ba a7;simp only[oP]at he;obtain⟨rfl,rfl⟩:=he;obtain⟨au,bi⟩:=All.append hps;obtain⟨af,aj⟩:=All.append bi;refine one hK λai=>?_;have ec:=get hc ar (λb' u hh=>Z2c au hh ai trivial);refine YO (v:=.bool (bif cv then av else bv)) h ?_ ⟨.bool _,trivial⟩;cases cv with|true=>have ex:=get hx ba (λb' u hh=>Z2c af hh ai rfl);simp[execOp,a1,ec,asBool,ex]|false=>have ey:=get hy a7 (λb' u hh=>Z2c aj hh ai rfl);simp[execOp,a1,ec,asBool,ey]
   .rename_i av ar ba bh;simp only[oP]at he;obtain⟨rfl,rfl⟩:=he;obtain⟨au,af⟩:=All.append hps;refine one hK λai=>?_;have ec:=get hc ar (λb' u hh=>Z2c au hh ai trivial);have ex:=get hx ba (λb' u hh=>Z2c af hh ai trivial);exact YO (v:=.bool av) h (by simp[execOp,a1,ec,asBool,ex]) ⟨.bool _,trivial⟩
   .rename_i bv ar a7 bh;simp only[oP]at he;obtain⟨rfl,rfl⟩:=he;obtain⟨au,af⟩:=All.append hps;refine one hK λai=>?_;have ec:=get hc ar (λb' u hh=>Z2c au hh ai trivial);have ey:=get hy a7 (λb' u hh=>Z2c af hh ai trivial);exact YO (v:=.bool bv) h (by simp[execOp,a1,ec,asBool,ey]) ⟨.bool _,trivial⟩
   .cases he
  .cases he
 .split at he;.cases he
  rename_i G hG;have d:=ZhC h hG;split at he
  .split at he
   .simp only[oP]at he;obtain⟨rfl,rfl⟩:=he;exact am hK d
   .cases he
  rename_i b3 e' ao;split at he
  .simp only[oP]at he;obtain⟨rfl,rfl⟩:=he;obtain⟨af,aj⟩:=All.append hps;rw[if_pos d];exact aq hK (Z86 ok hΓ h (λx hx v hv=>Zao h none af (λb hb=>by cases hb) x hx v hv) ao aj)
  .rename_i Gb;split at he
   .rename_i v;simp only[oP]at he;obtain⟨rfl,rfl⟩:=he;obtain⟨af,aj⟩:=All.append hps;cases Gb with
    |true=>rw[if_pos d];exact aq (e:={val:=some (.gd true v)}) hK (by
      have:=Z86 ok hΓ h (λx hx v hv=>Zao h (some true) af (λb hb=>by cases hb;rfl) x hx v hv) ao (All.map_imp aj rfl);rcases this with⟨u,w',h1,g',h2⟩|⟨w',h1,g',h2⟩|⟨f,args,w',h1,h2⟩;.exact .inl ⟨u,w',h1,g',FSt.app_gd st h2⟩
      .exact .inr (.inl ⟨w',h1,g',FSt.app_gd st h2⟩)
      .exact .inr (.inr ⟨f,args,w',h1,Calls.mono h2 λe bg⟨u,he,g',h3⟩=>⟨u,he,g',FSt.app_gd st h3⟩⟩))|false=>exact am hK d
   .rename_i v m bh;split at he
    .rename_i m' bq hj;simp only[oP]at he;obtain⟨rfl,rfl⟩:=he;obtain⟨af,aj⟩:=All.append hps;cases Gb with
     |true=>
      rw[if_pos d];have em:=ZgA hj;subst em;exact aq (e:={val:=some (.gd true v),mem:=m'}) hK (by
       have:=Z86 ok hΓ h (λx hx v hv=>Zao h (some true) af (λb hb=>by cases hb;rfl) x hx v hv) ao (All.map_imp aj rfl);rcases this with⟨u,w',h1,g',h2⟩|⟨w',h1,g',h2⟩|⟨f,args,w',h1,h2⟩;.exact .inl ⟨u,w',h1,g',FSt.app_gdm st h2⟩
       .exact .inr (.inl ⟨w',h1,g',FSt.app_gdm st h2⟩)
       .exact .inr (.inr ⟨f,args,w',h1,Calls.mono h2 λe bg⟨u,he,g',h3⟩=>⟨u,he,g',FSt.app_gdm st h3⟩⟩))|false=>exact a6 (ZdQ hj) hK d
    .cases he
   .cases Gb with
    |true=>simp only[oP]at he;obtain⟨rfl,rfl⟩:=he;obtain⟨af,aj⟩:=All.append hps;rw[if_pos d];exact aq hK (Z86 ok hΓ h (λx hx v hv=>Zao h (some true) af (λb hb=>by cases hb;rfl) x hx v hv) ao aj)|false=>simp only[oP]at he;obtain⟨rfl,rfl⟩:=he;exact am hK d
theorem Zh8{Γ:Known U}(ok:CfgOk P cfg)(hΓ:∀f s,Γ f=some s->Contract P cfg f s){ops:Array Oper}{fz:Bool}{Q:Exit->Act->World->Prop}:∀(l:List Oper)(st st':FSt U)(g:Gh)(a:Act)(w:World)(ps:List Prop),Rel cfg B st g a w->Zh9 cfg Γ ops fz l st=some (ps,st')->All ps->(∀g' a' d,Rel cfg B st' g' a' d->Q .normal a' d)->wpList P ops Q l a w
 |[],st,st',g,a,w,ps,h,he,hps,hQ=>by simp only[Zh9,oP]at he;obtain⟨rfl,rfl⟩:=he;exact hQ g a w h|o::l,st,st',g,a,w,ps,h,he,hps,hQ=>by
  rw[ZcZ]at he;split at he;.cases he
  .rename_i am e1 h1;split at he;.cases he
   .rename_i qs ai h2;simp only[oP]at he;obtain⟨rfl,rfl⟩:=he;obtain⟨ab,ae⟩:=All.append hps;obtain⟨g0,h0⟩:=ZGj ok h fz o;refine wpList_step λK hK=>Ze2 ok hΓ h0 h1 ab λg' a' d h'=>hK a' d ?_;exact Zh8 ok hΓ l _ _ g' a' d qs h' h2 ae hQ
def V.shut(nm:Name)(T:U.Ty)(x:U.El T):V U->V U|.ptr n off=>if n=nm then(if off=0 then .c (.po T (some x))else .junk)else .ptr n off|.ap n off k len i=>if n=nm then .junk else .ap n off k len i|.clo f nms=>if nm∈nms then .junk else .clo f nms|.ifp t n=>if n=nm then .junk else .ifp t n|.gd b v=>.gd b (v.shut nm T x)|v=>v
def FSt.shut1(cfg:Cfg U)(st:FSt U)(nm:Name)(T:U.Ty):FSt U:=match st.mem nm with|none=>st|some cs=>match cfg.dec T cs with|none=>st|some x=>{st with env:=λk=>(st.env k).shut nm T x,mem:=λn=>if n=nm then none else st.mem n}
def FSt.shutK(cfg:Cfg U)(st:FSt U)(k:Nat)(T:U.Ty):FSt U:=match st.env k with|.ptr (.loc s) 0=>st.shut1 cfg (.loc s) T|_=>st
def FSt.shuts(cfg:Cfg U)(st:FSt U):List (Nat×U.Ty)->FSt U|[]=>st|x::r=>(st.shutK cfg x.1 x.2).shuts cfg r
def Z3e{α:Type}(cfg:Cfg U)(st:FSt U)(k:FSt U->α):List (Nat×U.Ty)->α|[]=>k st|x::r=>k (st.shuts cfg (x::r))
def Ob(g:Gh)(nm:Name)(n:Nat)(c:Addr):Prop:=∃j,j<n/\c=(g.ad nm).add j
open Classical in noncomputable def Gh.shutG(g:Gh)(w:World)(R:Addr->Prop):Gh:=
 {m:=λc=>if R c then w.cell? c else g.m c
  tag:=λc=>if R c then none else g.tag c
  ad:=g.ad
  bs:=g.bs}
section shut
variable{nm:Name}{cs:List (C U)}
theorem Zpk(h:Rel cfg B st g a w)(hcs:st.mem nm=some cs){c:Addr}(hc:Ob g nm cs.length c):g.tag c=some (.obj nm)/\∃v,w.cell? c=some v:=by obtain⟨j,d,rfl⟩:=hc;obtain⟨v,h1,h2,_⟩:=h.mem nm cs hcs j _ (Q1 d);grind
theorem ZjP(h:Rel cfg B st g a w)(hcs:st.mem nm=some cs):∀c v,g.m c=some v->(g.shutG w (Ob g nm cs.length)).m c=some v:=by
 intro c v d;simp only[Gh.shutG];rw[if_neg];.exact d
 .intro hc;have:=(Zpk h hcs hc).1;rw[(h.inv.im c v d).2]at this;cases this
theorem Zfw(h:Rel cfg B st g a w)(hcs:st.mem nm=some cs){c:Addr}{t:Tag}(hne:t≠.obj nm):g.tag c=some t↔(g.shutG w (Ob g nm cs.length)).tag c=some t:=by
 simp only[Gh.shutG];split;.rename_i hc;rw[(Zpk h hcs hc).1];grind
 grind
theorem Z1Y(h:Rel cfg B st g a w)(hcs:st.mem nm=some cs):Keeps g (g.shutG w (Ob g nm cs.length)) st.dead st.dead (λ_=>false) (λ_=>false):=⟨ZjP h hcs,λ_ _ _ ht=>(Zfw h hcs (by simp)).1 ht,λ_ hu=>hu,λ_ hn=>(by cases hn),λ_ _ _ d=>d,λ_=>rfl⟩
theorem ZEP(ok:CfgOk P cfg)(h:Rel cfg B st g a w)(hcs:st.mem nm=some cs){T:U.Ty}{x:U.El T}(hx:cfg.dec T cs=some x){v:Value}:∀{y:V U},RelV cfg g st.dead (λn=>(st.mem n).isSome) v y->RelV cfg (g.shutG w (Ob g nm cs.length)) st.dead (λn=>(if n=nm then none else st.mem n).isSome) v (y.shut nm T x)
 |.c y,hr=>RelC.keep (Z1Y h hcs) (c:=y) hr|.agg cs,hr=>by obtain⟨vs,h1,h2⟩:=hr;exact⟨vs,h1,h2.keep (Z1Y h hcs)⟩|.tup ws,hr=>by obtain⟨vs,h1,h2,h3⟩:=hr;exact⟨vs,h1,h2,λj u w hu hw=>(h3 j u w hu hw).keep (Z1Y h hcs)⟩|.ptr n off,hr=>by
  obtain⟨h1,h2⟩:=hr;simp only[V.shut];split
  .rename_i e;subst e;split
   .rename_i e;subst e;obtain⟨d1,d2⟩:=ok.dec_ok T cs x hx;have e0:(g.ad n).add 0=g.ad n:=by simp[Addr.add]
    rw[h2,e0];have af:∀j c,(cfg.enc T x)[j]?=some c->∃u,w.cell? ((g.ad n).add j)=some u/\SimC cfg (g.shutG w (Ob g n cs.length)).m u c/\(g.shutG w (Ob g n cs.length)).m ((g.ad n).add j)=some u:=by
     intro j c hc;have hj:j<cs.length:=by rw[d1];exact(Q4.1 hc).1
     obtain⟨u,k1,k2,k3⟩:=h.mem n cs hcs j _ (Q1 hj);refine⟨u,k1,(k3.1.mono (ZjP h hcs)).wk (d2 j _ _ (Q1 hj) hc),?_⟩;simp only[Gh.shutG];rw[if_pos ⟨j,hj,rfl⟩];exact k1
    refine⟨.po T x _ (λj=>(w.cell? ((g.ad n).add j)).getD undef) (λj c hc=>?_) (λj c hc=>?_),trivial⟩;.obtain⟨u,k1,_,k3⟩:=af j c hc;rw[k1];exact k3
    .obtain⟨u,k1,k2,_⟩:=af j c hc;rw[k1];exact k2
   .exact trivial
  .rename_i d;exact⟨by show((if n=nm then none else st.mem n).isSome||n.isX)=true;rw[if_neg d];exact h1,h2⟩|.ap n off k len i,hr=>by
  simp only[V.shut];split;.exact trivial
  .rename_i d;exact⟨by show((if n=nm then none else st.mem n).isSome||n.isX)=true;rw[if_neg d];exact hr.1,hr.2⟩|.ep cs,hr=>by obtain⟨b,h1,h2⟩:=hr;exact⟨b,h1,λj c hc=>let⟨u,hu,hc⟩:=h2 j c hc;⟨u,ZjP h hcs _ _ hu,hc.keep (Z1Y h hcs)⟩⟩|.mp t n off,hr=>hr|.vw t n,hr=>hr|.fn _,hr=>hr|.clo f nms,hr=>by
  simp only[V.shut];split;.exact trivial
  .rename_i d;refine⟨λn hn=>?_,hr.2⟩;show((if n=nm then none else st.mem n).isSome||n.isX)=true;rw[if_neg (λe=>d (by rw[<-e];exact hn))];exact hr.1 n hn|.ifp t n,hr=>by
  simp only[V.shut];split;.exact trivial
  .rename_i d;exact⟨by show((if n=nm then none else st.mem n).isSome||n.isX)=true;rw[if_neg d];exact hr.1,hr.2⟩|.kv _,hr=>hr|.gd b y,hr=>⟨λhb=>ZEP ok h hcs hx (hr.1 hb),hr.2⟩|.nb _ _,hr=>hr|.junk,_=>trivial
theorem Zw9(ok:CfgOk P cfg)(h:Rel cfg B st g a w)(nm:Name)(T:U.Ty):∃g',Rel cfg B (st.shut1 cfg nm T) g' a w:=by
 unfold FSt.shut1;cases hcs:st.mem nm with
 |none=>grind|some cs=>
  simp only;cases hx:cfg.dec T cs with|none=>grind|some x=>
   have hm:=ZjP h hcs;refine⟨g.shutG w (Ob g nm cs.length),⟨λc v hv=>?_,λc t' ht=>?_⟩,?_,λk=>ZEP ok h hcs hx (h.env k),λn ds hn j c hc=>?_,h.sz,h.df,λu y hy=>?_,λu hu d h2=>h.fresh u hu d h2⟩
   .by_cases hc:Ob g nm cs.length c
    .simp only[Gh.shutG]at hv⊢;grind
    .simp only[Gh.shutG]at hv⊢;rw[if_neg hc]at hv⊢;exact h.inv.im c v hv
   .simp only[Gh.shutG]at ht;split at ht;.cases ht
    .exact h.inv.it c t' ht
   .refine h.fr.step h.inv (Evo.refl w (λ_=>False)) (λc hc=>hc.elim) hm (λc t'=>Zfw h hcs (by simp)) ?_ (λ_=>rfl);intro b _ ae o sp;simp only[Gh.shutG];split;.rename_i hc;obtain⟨t',h3⟩:=ae _ _ _ (Zpk h hcs hc).1;cases h3
    .try rfl
   .simp only at hn;split at hn;.cases hn
    .rename_i al;obtain⟨v,d,h2,h3⟩:=h.mem n ds hn j c hc;exact⟨v,d,(Zfw h hcs (by grind)).1 h2,h3.keep (Z1Y h hcs)⟩
   .obtain⟨d,h2⟩:=h.ls u y hy;exact⟨d,h2.keep (Z1Y h hcs) d (λc v hv=>(h.inv.im c v hv).1) (λ_ _=>rfl)⟩
end shut
theorem ZCd(nm:Name)(T:U.Ty):(st.shut1 cfg nm T).n=st.n:=by unfold FSt.shut1;grind
theorem ZlT(ok:CfgOk P cfg):∀(l:List (Nat×U.Ty)){st:FSt U}{g:Gh},Rel cfg B st g a w->∃g',Rel cfg B (st.shuts cfg l) g' a w
 |[],st,g,h=>⟨g,h⟩|x::r,st,g,h=>by
  have:∃d,Rel cfg B (st.shutK cfg x.1 x.2) d a w:=by
   unfold FSt.shutK;split;.exact Zw9 ok h _ _
   .grind
  obtain⟨d,h1⟩:=this;exact ZlT ok r h1
theorem Zri:∀(l:List (Nat×U.Ty))(st:FSt U),(st.shuts cfg l).n=st.n
 |[],st=>rfl|x::r,st=>by
  show((st.shutK cfg x.1 x.2).shuts cfg r).n=st.n;rw[Zri r];unfold FSt.shutK;split;.exact ZCd _ _
  .try rfl
theorem Z7z{α:Type}(st:FSt U)(k:FSt U->α)(l:List (Nat×U.Ty)):Z3e cfg st k l=k (Z3e cfg st id l):=by cases l<;>rfl
theorem Zuf(ok:CfgOk P cfg)(h:Rel cfg B st g a w)(l:List (Nat×U.Ty)):∃g',Rel cfg B (Z3e cfg st id l) g' a w:=by cases l with|nil=>exact⟨g,h⟩|cons x r=>exact ZlT ok (x::r) h
theorem Zxx(l:List (Nat×U.Ty)):(Z3e cfg st id l).n=st.n:=by cases l with|nil=>rfl|cons x r=>exact Zri (x::r) st
end Go.AM
namespace Go.AM
variable{U:Uni}{P:Program}{cfg:Cfg U}{B:Base}{st:FSt U}{g:Gh}{a:Act}{w:World}
structure LSt(U:Uni)where env:List (Nat×V U)mem:List (Name×List (C U))ls:List (Tok×LC U)
def look:List (Nat×V U)->Nat->V U|[],_=>.junk|(a,v)::r,k=>bif Nat.beq a k then v else look r k
def Z4G:List (Name×List (C U))->Name->Option (List (C U))|[],_=>none|(a,cs)::r,nm=>if a=nm then some cs else Z4G r nm
def LSt.toF(s:LSt U)(n:Nat):FSt U:={n:=n,env:=look s.env,mem:=Z4G s.mem,dead:=ZQ,ls:=Zy (λ_=>none) s.ls,mu:=false,vw:=false}
def ZLM(t:Nat)(o:Oper):Bool:=match o.op,o.dst with
 |.call c,some d=>match c.callee with
  |.builtin .append=>Nat.beq d t|_=>false
 |_,_=>false
def ZFA(ops:List Oper)(o:Oper):Bool:=match o.op with|.indexAddr _ (.tmp t) _=>ops.any (ZLM t)|_=>false
def ZLL(o:Oper):Bool:=match o.op with
 |.call c=>match c.callee with
  |.builtin .clear=>true|.builtin .copy=>true|_=>false
 |_=>false
def ZDP(t:Nat)(o:Oper):Bool:=match o.op,o.dst with|.slice _ _ none (some _) none,some d=>Nat.beq d t|_,_=>false
def ZLK(ops:List Oper)(o:Oper):Bool:=match o.op with|.store _ _ (.tmp t)=>ops.any (ZDP t)|_=>false
def LSt.toR(s:LSt U)(n:Nat)(mk:Bool)(ops:Array Oper):FSt U:={n:=n,env:=look s.env,mem:=Z4G s.mem,dead:=ZQ,ls:=Zy (λ_=>none) s.ls,mu:=mk||ops.toList.any (ZFA ops.toList),vw:=ops.toList.any ZLL||ops.toList.any (ZLK ops.toList)}
theorem Zrd{s:LSt U}{n:Nat}{mk:Bool}{ops:Array Oper}(h:Rel cfg B (s.toF n) g a w):Rel cfg B (s.toR n mk ops) g a w:=⟨h.inv,h.fr,h.env,h.mem,h.sz,h.df,h.ls,h.fresh⟩
inductive Sk(U:Uni)where|any|own(T:U.Ty)|unk(T:U.Ty)|wr(T:U.Ty)|pt(T:U.Ty)
def sk0:List (Sk U)->Sk U|[]=>.any|k::_=>k
def Z8q(mine:Tok->Bool)(nm:Tok)(k:Sk U)(c:C U)(seen:List (Tok×Tok)):C U×List (Tok×Tok):=match k,c with|.own T,.nils=>(.slice T [] (.own nm),seen)|.own _,.slice T l .full=>(.slice T l (.own nm),seen)|.unk T,.nils=>(.slice T [] .unk,seen)|.unk _,.slice T l _=>(.slice T l .unk,seen)|.pt T,.nilp=>(.po T none,seen)|_,.xp k=>(.xp k,seen)|_,c=>Z0N mine nm c seen
def Z1P(mine:Tok->Bool)(nm:Nat->Tok):Nat->List (Sk U)->List (C U)->List (Tok×Tok)->List (C U)×List (Tok×Tok)|_,_,[],seen=>([],seen)|j,ks,c::r,seen=>((Z8q mine (nm j) (sk0 ks) c seen).1::(Z1P mine nm (j+1) ks.tail r (Z8q mine (nm j) (sk0 ks) c seen).2).1,(Z1P mine nm (j+1) ks.tail r (Z8q mine (nm j) (sk0 ks) c seen).2).2)
def Z8p(mine:Tok->Bool)(nm:Nat->Tok)(keep:Name->Bool)(ks:List (Sk U))(v:V U)(seen:List (Tok×Tok)):V U×List (Tok×Tok):=match v with|.c x=>(.c (Z8q mine (nm 0) (sk0 ks) x seen).1,(Z8q mine (nm 0) (sk0 ks) x seen).2)|.agg cs=>(.agg (Z1P mine nm 0 ks cs seen).1,(Z1P mine nm 0 ks cs seen).2)|.ptr nm off=>(bif keep nm then .ptr nm off else .junk,seen)|.ep cs=>(.ep (Jc (λ_=>false) nm 0 cs seen).1,(Jc (λ_=>false) nm 0 cs seen).2)|.fn f=>(.fn f,seen)|.clo f nms=>(bif nms.all keep then .clo f nms else .junk,seen)|.ifp t nm=>(bif keep nm then .ifp t nm else .junk,seen)|.kv v=>(.kv v,seen)|.nb p q=>(.nb p q,seen)|_=>(.junk,seen)
def Z1F(st:FSt U)(keep:Name->Bool):List (Nat×List (Sk U))->List (Tok×Tok)->List (Nat×V U)×List (Tok×Tok)|[],seen=>([],seen)|(k,ks)::r,seen=>((k,(Z8p (λt=>!st.dead t) (.e k) keep ks (st.env k) seen).1)::(Z1F st keep r (Z8p (λt=>!st.dead t) (.e k) keep ks (st.env k) seen).2).1,(Z1F st keep r (Z8p (λt=>!st.dead t) (.e k) keep ks (st.env k) seen).2).2)
def ZhI:Name->Nat->Tok|.loc s,j=>.l s j|.x k,j=>.x k j
def Z0h(st:FSt U):List (Name×List (Sk U))->List (Tok×Tok)->List (Name×List (C U))×List (Tok×Tok)|[],seen=>([],seen)|(nm,ks)::r,seen=>match st.mem nm with|some cs=>((nm,(Z1P (λt=>!st.dead t) (ZhI nm) 0 ks cs seen).1)::(Z0h st r (Z1P (λt=>!st.dead t) (ZhI nm) 0 ks cs seen).2).1,(Z0h st r (Z1P (λt=>!st.dead t) (ZhI nm) 0 ks cs seen).2).2)|none=>Z0h st r seen
def Z0Y(l:List (Name×List (Sk U)))(nm:Name):Bool:=match l with|[]=>false|(a,_)::r=>if a=nm then true else Z0Y r nm
def Ztb(nm:Nat->Tok):Nat->List (Sk U)->List Tok|_,[]=>[]|j,.wr _::r=>nm j::Ztb nm (j+1) r|j,_::r=>Ztb nm (j+1) r
def Zta(lv:List (Nat×List (Sk U)))(lm:List (Name×List (Sk U))):List Tok:=(lv.flatMap λx=>Ztb (.e x.1) 0 x.2)++lm.flatMap λx=>Ztb (ZhI x.1) 0 x.2
def norm(lv:List (Nat×List (Sk U)))(lm:List (Name×List (Sk U)))(st:FSt U):LSt U:=
 {env:=(Z1F st (λnm=>Z0Y lm nm&&(st.mem nm).isSome) lv []).1
  mem:=(Z0h st lm (Z1F st (λnm=>Z0Y lm nm&&(st.mem nm).isSome) lv []).2).1
  ls:=match Zta lv lm with
   |[]=>[]|c=>Jg st.ls (Z0h st lm (Z1F st (λnm=>Z0Y lm nm&&(st.mem nm).isSome) lv []).2).2 c}
def ZxD(k:Sk U)(c:C U):List Tok:=match k,c with|.wr _,_=>[]|_,.mref t=>[t]|_,_=>[]
def ZxE:List (Sk U)->List (C U)->List Tok|_,[]=>[]|ks,c::r=>ZxD (sk0 ks) c++ZxE ks.tail r
def ZLA(ks:List (Sk U)):V U->List Tok|.c x=>ZxD (sk0 ks) x|.agg cs=>ZxE ks cs|_=>[]
def Z2t(lv:List (Nat×List (Sk U)))(lm:List (Name×List (Sk U)))(st:FSt U):List Tok:=(lv.flatMap λx=>ZLA x.2 (st.env x.1))++lm.flatMap λx=>match st.mem x.1 with|some cs=>ZxE x.2 cs|none=>[]
def FSt.prom1(st:FSt U)(k:Nat)(T:U.Ty):FSt U:=match st.env k with|.c .nils=>if(st.ls (.z (3*k) 0)).isNone&&!st.dead (.z (3*k) 0)then{st with env:=λi=>bif Nat.beq i k then .c (.mref (.z (3*k) 0))else st.env i,ls:=λt=>if t=.z (3*k) 0 then some ⟨T,[],0⟩else st.ls t}else st|_=>st
def Zdw:Name->Nat|.loc s=>3*s+1|.x k=>3*k+2
def FSt.promM(st:FSt U)(nm:Name)(j:Nat)(T:U.Ty):FSt U:=match st.mem nm with
 |some cs=>match cs[j]? with
  |some .nils=>if(st.ls (.z (Zdw nm) j)).isNone&&!st.dead (.z (Zdw nm) j)then{st with mem:=λn=>if n=nm then some (cs.set j (.mref (.z (Zdw nm) j)))else st.mem n,ls:=λt=>if t=.z (Zdw nm) j then some ⟨T,[],0⟩else st.ls t}else st|_=>st
 |none=>st
def FSt.prom(st:FSt U):List ((Nat⊕(Name×Nat))×U.Ty)->FSt U|[]=>st|(.inl k,T)::r=>(st.prom1 k T).prom r|(.inr x,T)::r=>(st.promM x.1 x.2 T).prom r
def ZFU(nm:Name):Nat->List (Sk U)->List ((Nat⊕(Name×Nat))×U.Ty)|_,[]=>[]|j,.wr T::r=>(.inr (nm,j),T)::ZFU nm (j+1) r|j,_::r=>ZFU nm (j+1) r
def wrs(lm:List (Name×List (Sk U))):List (Nat×List (Sk U))->List ((Nat⊕(Name×Nat))×U.Ty)|[]=>lm.flatMap λx=>ZFU x.1 0 x.2|(k,[.wr T])::r=>(.inl k,T)::wrs lm r|_::r=>wrs lm r
def pts:List (Nat×List (Sk U))->List (Nat×U.Ty)|[]=>[]|(k,[.pt T])::r=>(k,T)::pts r|_::r=>pts r
def ZGt{α:Type}(st:FSt U)(k:FSt U->α):List ((Nat⊕(Name×Nat))×U.Ty)->α|[]=>k st|x::r=>k (st.prom (x::r))
def Z6l{α:Type}(cfg:Cfg U)(lv:List (Nat×List (Sk U)))(lm:List (Name×List (Sk U)))(st:FSt U)(k:FSt U->α):α:=ZGt st (λst=>Z3e cfg st (λst=>Z6G cfg st k (Z2t lv lm st)) (pts lv)) (wrs lm lv)
theorem Z6L:∀{l:List Name}{nm:Name},nm∈l->Jm l nm=true
 |a::r,nm,h=>by
  simp only[Jm];split;.try rfl
  .rename_i e;rcases Q9.1 h with rfl|h;.grind
   .exact Z6L h
structure RenA(ok:Tok->Bool)(g:Gh)(s:List (Tok×Tok))(g2:Gh):Prop extends Ren ok g s g2 where adx:∀k,g2.ad (.x k)=g.ad (.x k)
theorem ZiA{okT mine:Tok->Bool}{nm:Tok}{k:Sk U}{c:C U}{seen:List (Tok×Tok)}(hmine:∀t,mine t=true->st.dead t=false)(hok:okT nm=true):Ext seen (Z8q mine nm k c seen).2/\∀s',Ext (Z8q mine nm k c seen).2 s'->∀g2,RenA okT g s' g2->∀v,RelC cfg g st.dead v c->RelC cfg g2 ZQ v (Z8q mine nm k c seen).1:=by
 unfold Z8q;split
 .rename_i T;refine⟨.refl _,λs' _ g2 hg v d=>?_⟩;have h1:=d.1;cases h1;exact⟨.snil T _,λ_ a len ai hv=>by simp at hv⟩
 .rename_i T0 T l;refine⟨.refl _,λs' _ g2 hg v d=>⟨by rw[hg.m];exact d.1.tl _,λ_ b len ai hv j h1 h2=>?_⟩⟩;have:=d.2 _ _ _ hv;grind
 .rename_i T;refine⟨.refl _,λs' _ g2 hg v d=>?_⟩;have h1:=d.1;cases h1;exact⟨.snil T _,trivial⟩
 .exact⟨.refl _,λs' _ g2 hg v d=>⟨by rw[hg.m];exact d.1.tl _,trivial⟩⟩
 .rename_i T;refine⟨.refl _,λs' _ g2 hg v d=>?_⟩;have h1:=d.1;cases h1;exact⟨.pnil T,trivial⟩
 .refine⟨.refl _,λs' _ g2 hg v d=>⟨.xp _ _ d.1.one,?_⟩⟩;have h2:v=.pointer (some (g.ad (.x _))):=d.2;show v=.pointer (some (g2.ad (.x _)));rw[hg.adx];exact h2
 .obtain⟨h1,h2⟩:=Z8Y (cfg:=cfg) (st:=st) (g:=g) (nm:=nm) (c:=c) (seen:=seen) hmine hok;exact⟨h1,λs' hs g2 hg v d=>h2 s' hs g2 hg.toRen v d⟩
theorem Z7D{okT mine:Tok->Bool}{nm:Nat->Tok}(hmine:∀t,mine t=true->st.dead t=false)(hok:∀j,okT (nm j)=true):∀(cs:List (C U))(j:Nat)(ks:List (Sk U))(seen:List (Tok×Tok)),Ext seen (Z1P mine nm j ks cs seen).2/\(Z1P mine nm j ks cs seen).1.length=cs.length/\∀s',Ext (Z1P mine nm j ks cs seen).2 s'->∀g2,RenA okT g s' g2->∀(i:Nat)v c c',cs[i]?=some c->(Z1P mine nm j ks cs seen).1[i]?=some c'->RelC cfg g st.dead v c->RelC cfg g2 ZQ v c'|[],j,ks,seen=>⟨.refl _,rfl,λs' _ g2 _ i v c c' hc=>by simp at hc⟩|c::cs,j,ks,seen=>by obtain⟨h1,h2⟩:=ZiA (cfg:=cfg) (g:=g) (okT:=okT) (nm:=nm j) (k:=sk0 ks) (c:=c) (seen:=seen) hmine (hok j);obtain⟨h3,h4,h5⟩:=Z7D (okT:=okT) (mine:=mine) (nm:=nm) hmine hok cs (j+1) ks.tail (Z8q mine (nm j) (sk0 ks) c seen).2;refine⟨h1.trans h3,by simp[Z1P,h4],λs' hs g2 hg i v c0 c' hc d hr=>?_⟩;cases i with|zero=>simp[Z1P]at hc d;subst hc d;exact h2 s' (h3.trans hs) g2 hg v hr|succ i=>simp[Z1P]at hc d;exact h5 s' hs g2 hg i v c0 c' hc d hr
def Gh.anew(g:Gh)(s:List (Tok×Tok))(keep:Name->Bool)(okT:Tok->Bool):Gh:=
 {m:=g.m
  tag:=λc=>match g.tag c with
   |some (.tok t)=>(YN s t).map .tok|some (.obj nm)=>bif keep nm then some (.obj nm)else none|some (.outer t)=>some (.outer t)|none=>none
  ad:=g.ad
  bs:=λt=>bif okT t then Zjg g s t else none}
theorem Gh.anew_ren(s:List (Tok×Tok))(keep:Name->Bool)(okT:Tok->Bool):RenA okT g s (g.anew s keep okT):=⟨⟨rfl,λc t t' d h2=>by simp only[Gh.anew,d,h2,Qk],λt t' v d h2 h3=>by simp only[Gh.anew,d,cond_true,Zjg,h2];exact h3⟩,λ_=>rfl⟩
theorem ZxA{mine:Tok->Bool}{nm:Nat->Tok}{keep live live2:Name->Bool}(hmine:∀t,mine t=true->st.dead t=false)(hok:∀j,Z3u (nm j)=true)(hkeep:∀n,keep n=true->live2 n=true)(ks:List (Sk U))(x:V U)(seen:List (Tok×Tok)):Ext seen (Z8p mine nm keep ks x seen).2/\∀d,Ext (Z8p mine nm keep ks x seen).2 d->∀v,RelV cfg g st.dead live v x->RelV cfg (g.anew d keep Z3u) ZQ live2 v (Z8p mine nm keep ks x seen).1:=by cases x with
 |c x=>obtain⟨h1,h2⟩:=ZiA (cfg:=cfg) (g:=g) (nm:=nm 0) (k:=sk0 ks) (c:=x) (seen:=seen) hmine (hok 0);exact⟨h1,λd hs v hr=>h2 d hs _ (Gh.anew_ren d keep Z3u) v hr⟩|agg cs=>
  obtain⟨h3,h4,h5⟩:=Z7D (cfg:=cfg) (g:=g) (mine:=mine) (nm:=nm) hmine hok cs 0 ks seen;refine⟨h3,λd hs v hr=>?_⟩;obtain⟨vs,rfl,hl,hh⟩:=hr;refine⟨vs,rfl,Yp,λj u c hu hc=>?_⟩;have hj:j<cs.length:=by have:=(Q4.1 hc).1;omega
  exact h5 d hs _ (Gh.anew_ren d keep Z3u) j u _ c (Q1 hj) hc (hh j u _ hu (Q1 hj))|ptr n off=>
  refine⟨.refl _,λd hs v hr=>?_⟩;simp only[Z8p];cases hk:keep n with
  |true=>exact⟨by grind,hr.2⟩|false=>exact trivial
 |ap n off k len i=>exact⟨.refl _,λd _ v hr=>trivial⟩|ep cs=>
  have af:∀t,(λ_:Tok=>false) t=true->st.dead t=false:=λt h=>by cases h
  obtain⟨h3,h4,h5⟩:=Z7x (cfg:=cfg) (g:=g) (mine:=λ_=>false) (nm:=nm) af hok cs 0 seen;refine⟨h3,λd hs v hr=>?_⟩;obtain⟨b,rfl,hh⟩:=hr;refine⟨b,rfl,λj c hc=>?_⟩;have hj:j<cs.length:=by have:=(Q4.1 hc).1;rw[h4]at this;exact this
  obtain⟨u,h6,h7⟩:=hh j _ (Q1 hj);exact⟨u,h6,h5 d hs _ (Gh.anew_ren d keep Z3u).toRen j u _ c (Q1 hj) hc h7⟩|fn f=>exact⟨.refl _,λd _ v hr=>hr⟩|mp t n off=>exact⟨.refl _,λd _ v hr=>trivial⟩|vw t n=>exact⟨.refl _,λd _ v hr=>trivial⟩|clo f nms=>
  refine⟨.refl _,λd _ v hr=>?_⟩;simp only[Z8p];cases hk:nms.all keep with
  |true=>exact⟨λnm hn=>by grind,hr.2⟩|false=>exact trivial
 |ifp t n=>
  refine⟨.refl _,λd _ v hr=>?_⟩;simp only[Z8p];cases hk:keep n with|true=>exact⟨by grind,hr.2⟩|false=>exact trivial
 |kv v=>exact⟨.refl _,λd _ v hr=>hr⟩|nb p q=>exact⟨.refl _,λd _ v hr=>hr⟩|tup vs=>exact⟨.refl _,λd _ v hr=>trivial⟩|gd b v=>exact⟨.refl _,λd _ v hr=>trivial⟩|junk=>exact⟨.refl _,λd _ v hr=>trivial⟩
theorem Zgg{keep live2:Name->Bool}(hkeep:∀n,keep n=true->live2 n=true)(h:Rel cfg B st g a w):∀(lv:List (Nat×List (Sk U)))(seen:List (Tok×Tok)),Ext seen (Z1F st keep lv seen).2/\∀s',Ext (Z1F st keep lv seen).2 s'->∀k,RelV cfg (g.anew s' keep Z3u) ZQ live2 (a.tmps.getD k undef) (look (Z1F st keep lv seen).1 k)
 |[],seen=>⟨.refl _,λs' _ k=>trivial⟩|(k0,ks)::lv,seen=>by
  have d:∀t,(λt=>!st.dead t) t=true->st.dead t=false:=λt ht=>by simpa using ht
  obtain⟨h1,h2⟩:=ZxA (cfg:=cfg) (g:=g) (st:=st) (nm:=.e k0) (keep:=keep) (live:=λnm=>(st.mem nm).isSome) (live2:=live2) d (λ_=>rfl) hkeep ks (st.env k0) seen;obtain⟨h3,h4⟩:=Zgg hkeep h lv (Z8p (λt=>!st.dead t) (.e k0) keep ks (st.env k0) seen).2;refine⟨h1.trans h3,λs' hs k=>?_⟩;simp only[Z1F,look];cases hk:Nat.beq k0 k with|true=>have:=Qe hk;subst this;exact h2 s' (h3.trans hs) _ (h.env k0)|false=>exact h4 s' hs k
theorem Z94{keep:Name->Bool}(h:Rel cfg B st g a w):∀(lm:List (Name×List (Sk U)))(seen:List (Tok×Tok)),(∀n∈lm,(st.mem n.1).isSome=true->keep n.1=true)->Ext seen (Z0h st lm seen).2/\∀s',Ext (Z0h st lm seen).2 s'->∀nm cs,Z4G (Z0h st lm seen).1 nm=some cs->∀j c,cs[j]?=some c->∃v,w.cell? ((g.ad nm).add j)=some v/\(g.anew s' keep Z3u).tag ((g.ad nm).add j)=some (.obj nm)/\RelC cfg (g.anew s' keep Z3u) ZQ v c
 |[],seen,_=>⟨.refl _,λs' _ nm cs d=>by trivial⟩|(n0,ks)::lm,seen,hk=>by
  have ab:∀t,(λt=>!st.dead t) t=true->st.dead t=false:=λt ht=>by simpa using ht
  cases hm:st.mem n0 with|none=>simp only[Z0h,hm];exact Z94 h lm seen (λn d=>hk n (by simp[d]))|some cs0=>
   obtain⟨h3,h4,h5⟩:=Z7D (cfg:=cfg) (g:=g) (mine:=λt=>!st.dead t) (nm:=ZhI n0) ab (okT:=Z3u) (λj=>by cases n0<;>rfl) cs0 0 ks seen;obtain⟨h6,h7⟩:=Z94 h lm (Z1P (λt=>!st.dead t) (ZhI n0) 0 ks cs0 seen).2 (λn d=>hk n (by simp[d]));simp only[Z0h,hm];refine⟨h3.trans h6,λs' hs nm cs d j c hc=>?_⟩;simp only[Z4G]at d;split at d
   .rename_i e;subst e;cases d;have hj:j<cs0.length:=by have:=(Q4.1 hc).1;omega
    obtain⟨v,h8,h9,af⟩:=h.mem n0 cs0 hm j _ (Q1 hj);refine⟨v,h8,?_,h5 s' (h6.trans hs) _ (Gh.anew_ren s' keep Z3u) j v _ c (Q1 hj) hc af⟩;have ae:=hk (n0,ks) (by simp) (by simp[hm]);simp only[Gh.anew,h9,ae,cond_true]
   grind
theorem Z9a:∀(lm:List (Name×List (Sk U)))(seen:List (Tok×Tok))(nm:Name),(Z0Y lm nm&&(st.mem nm).isSome)=true->(Z4G (Z0h st lm seen).1 nm).isSome=true
 |[],seen,nm,h=>by trivial|(n0,ks)::lm,seen,nm,h=>by
  simp only[Q2]at h;cases hm:st.mem n0 with
  |none=>
   simp only[Z0h,hm];refine Z9a lm seen nm ?_;simp only[Q2];refine⟨?_,h.2⟩;have d:=h.1;simp only[Z0Y]at d;grind|some cs0=>
   simp only[Z0h,hm,Z4G];split;.try rfl
   .rename_i e;refine Z9a lm _ nm ?_;simp only[Q2];refine⟨?_,h.2⟩;have d:=h.1;simp only[Z0Y]at d;grind
theorem ZaC:∀{l:List (Name×List (Sk U))}{x:Name×List (Sk U)},x∈l->Z0Y l x.1=true
 |(a,ks)::r,x,h=>by
  simp only[Z0Y];split;.try rfl
  .rename_i e;rcases Q9.1 h with rfl|h;.grind
   .exact ZaC h
theorem ZCB(h:Rel cfg B st g a w)(lv:List (Nat×List (Sk U)))(lm:List (Name×List (Sk U))):∃g',Rel cfg B ((norm lv lm st).toF st.n) g' a w:=by
 let keep:Name->Bool:=λnm=>Z0Y lm nm&&(st.mem nm).isSome;let live2:Name->Bool:=λnm=>(Z4G (norm lv lm st).mem nm).isSome;have ai:∀n,keep n=true->live2 n=true:=λn hn=>Z9a lm _ n hn;obtain⟨h1,h2⟩:=Zgg (keep:=keep) ai h lv [];obtain⟨h3,h4⟩:=Z94 (keep:=keep) h lm (Z1F st keep lv []).2 (λn hn hs=>by simp only[keep,ZaC hn,hs,Bool.and_self]);let s:=(Z0h st lm (Z1F st keep lv []).2).2;have al:∀c,g.tag c=none->(g.anew s keep Z3u).tag c=none:=λc hc=>by simp only[Gh.anew,hc]
 have d:∀c t,g.tag c=some (.outer t)↔(g.anew s keep Z3u).tag c=some (.outer t):=by
  intro c t;simp only[Gh.anew];cases hg:g.tag c with|none=>simp|some t0=>cases t0 with|obj nm=>grind|tok u=>simp_all|outer t0=>simp
 refine⟨g.anew s keep Z3u,⟨λc v hv=>?_,λc t ht=>?_⟩,?_,?_,?_,h.sz,h.df,λt x hx=>⟨rfl,?_⟩,λt ht _ _=>by simp only[Gh.anew,Z3u,ht,Km,cond_false]⟩
 .obtain⟨h5,h6⟩:=h.inv.im c v hv;grind
 .cases hg:g.tag c with
  |none=>grind|some t0=>exact h.inv.it c t0 hg
 .refine h.fr.step h.inv (Evo.refl w (λ_=>False)) (λc hc=>hc.elim) (λ_ _ hv=>hv) (λc t=>d c t) ?_ (λ_=>rfl);intro b _ ao o sp;cases hg:g.tag ⟨b,o,sp⟩with|none=>grind|some t=>grind
 .intro k;exact h2 s h3 k
 .intro nm cs hn j c hc;exact h4 s (.refl _) nm cs hn j c hc
 .have ak:Zy (λ_=>none) (Jg st.ls s (Zta lv lm)) t=some x:=by have aa:Zy (λ_=>none) (match Zta lv lm with|[]=>[]|c=>Jg st.ls s c) t=some x:=hx;cases hc:Zta lv lm with|nil=>rw[hc]at aa;cases aa|cons a b=>grind
  obtain⟨u,h5,h6,h7,h8⟩:=Z1n _ ak;obtain⟨_,hL⟩:=h.ls u x h7;have af:(g.anew s keep Z3u).bs t=g.bs u:=by simp only[Gh.anew,Z3u,h8,Bool.not_false,cond_true,Zjg,h5]
  have ae:∀c,g.tag c=some (.tok u)->(g.anew s keep Z3u).tag c=some (.tok t):=λc hc=>by simp only[Gh.anew,hc,h6,Qk]
  rcases hL with⟨e1,e2⟩|⟨b,len,cap,e1,e2,e3,e4,e5,e6⟩;.exact .inl ⟨af.trans e1,e2⟩
  .refine .inr ⟨b,len,cap,af.trans e1,e2,e3,e4,λi y hy j c hc=>?_,λj a1 a2=>ae _ (e6 j a1 a2)⟩;obtain⟨v,e7,e8,e9,ah⟩:=e5 i y hy j c hc;exact⟨v,e7,e8,e9,λhi=>ae _ (ah hi)⟩
theorem Zx5(h:Rel cfg B st g a w)(k:Nat)(T:U.Ty):∃g',Rel cfg B (st.prom1 k T) g' a w:=by
 unfold FSt.prom1;split;case h_2=>grind
 rename_i hk;split;case isFalse=>grind
 rename_i hc;simp only[Q2,QF,QX]at hc;have ab:=h.fresh (.z (3*k) 0) rfl hc.1 hc.2;have d:Keeps g (g.setBs (.z (3*k) 0) (.slice none 0 0,cfg.sz T)) st.dead st.dead (λnm=>(st.mem nm).isSome) (λnm=>(st.mem nm).isSome):=(Keeps.refl g st.dead _).setBs ab;refine⟨g.setBs (.z (3*k) 0) (.slice none 0 0,cfg.sz T),h.inv,h.fr.setBs,λi=>?_,λnm cs hm j c hj=>?_,h.sz,h.df,λt x hx=>?_,λt ht h1 h2=>?_⟩
 .simp only;cases hi:Nat.beq i k with
  |true=>
   have e:=Qe hi;subst e;have hr:=h.env i;rw[hk]at hr;have h1:SimC cfg g.m (a.tmps.getD i undef) .nils:=hr.1;have hv:a.tmps.getD i undef=.slice none 0 0:=by generalize a.tmps.getD i undef=v at h1;cases h1;try rfl
   rw[hv];exact⟨.mref _ _ ⟨rfl,rfl⟩,λ_=>⟨cfg.sz T,by simp[Gh.setBs]⟩⟩|false=>exact(h.env i).keep d
 .obtain⟨v,h1,h2,h3⟩:=h.mem nm cs hm j c hj;exact⟨v,h1,h2,h3.keep d⟩
 .simp only at hx;split at hx;.rename_i e;subst e;cases hx;exact⟨hc.2,.inl ⟨by simp[Gh.setBs],rfl,rfl⟩⟩
  .obtain⟨h1,h2⟩:=h.ls t x hx;exact⟨h1,h2.keep d h1 (λc v hv=>(h.inv.im c v hv).1) (λ_ _=>rfl)⟩
 .simp only at h1;split at h1;.cases h1
  .rename_i ah;simp only[Gh.setBs];rw[if_neg ah];exact h.fresh t ht h1 h2
theorem Zx4(h:Rel cfg B st g a w)(nm:Name)(j0:Nat)(T:U.Ty):∃g',Rel cfg B (st.promM nm j0 T) g' a w:=by
 unfold FSt.promM;split;case h_2=>grind
 rename_i cs ae;split;case h_2=>grind
 rename_i ai;split;case isFalse=>grind
 rename_i hc;simp only[Q2,QF,QX]at hc;have af:=h.fresh (.z (Zdw nm) j0) rfl hc.1 hc.2;have d:Keeps g (g.setBs (.z (Zdw nm) j0) (.slice none 0 0,cfg.sz T)) st.dead st.dead (λnm=>(st.mem nm).isSome) (λnm=>(st.mem nm).isSome):=(Keeps.refl g st.dead _).setBs af;have hl:(λn=>(if n=nm then some (cs.set j0 (.mref (.z (Zdw nm) j0)))else st.mem n:Option (List (C U))).isSome)=λn=>(st.mem n).isSome:=by
  funext n;by_cases e:n=nm;.subst e;simp[ae]
  .simp[e]
 refine⟨g.setBs (.z (Zdw nm) j0) (.slice none 0 0,cfg.sz T),h.inv,h.fr.setBs,λi=>?_,λn aq hm j c hj=>?_,h.sz,h.df,λt x hx=>?_,λt ht h1 h2=>?_⟩;.simp only[hl];exact(h.env i).keep d
 .simp only at hm;split at hm
  .rename_i e;subst e;cases hm;by_cases e:j=j0
   .subst e;have ar:=(Q4.1 ai).1;rw[Kp]at hj;simp only[if_true,ar]at hj;cases hj;obtain⟨v,h1,h2,h3⟩:=h.mem n cs ae j _ ai;have hv:v=.slice none 0 0:=by have h4:=h3.1;cases h4;try rfl
    subst hv;exact⟨_,h1,h2,.mref _ _ ⟨rfl,rfl⟩,λ_=>⟨cfg.sz T,by simp[Gh.setBs]⟩⟩
   .rw[List.getElem?_set_ne (Ne.symm e)]at hj;obtain⟨v,h1,h2,h3⟩:=h.mem n cs ae j c hj;exact⟨v,h1,h2,h3.keep d⟩
  .obtain⟨v,h1,h2,h3⟩:=h.mem n aq hm j c hj;exact⟨v,h1,h2,h3.keep d⟩
 .simp only at hx;split at hx;.rename_i e;subst e;cases hx;exact⟨hc.2,.inl ⟨by simp[Gh.setBs],rfl,rfl⟩⟩
  .obtain⟨h1,h2⟩:=h.ls t x hx;exact⟨h1,h2.keep d h1 (λc v hv=>(h.inv.im c v hv).1) (λ_ _=>rfl)⟩
 .simp only at h1;split at h1;.cases h1
  .rename_i am;simp only[Gh.setBs];rw[if_neg am];exact h.fresh t ht h1 h2
theorem Zkb:∀(lv:List ((Nat⊕(Name×Nat))×U.Ty)){st:FSt U}{g:Gh},Rel cfg B st g a w->∃g',Rel cfg B (st.prom lv) g' a w|[],st,g,h=>⟨g,h⟩|(.inl k,T)::r,st,g,h=>by obtain⟨g1,d⟩:=Zx5 h k T;exact Zkb r d|(.inr x,T)::r,st,g,h=>by obtain⟨g1,d⟩:=Zx4 h x.1 x.2 T;exact Zkb r d
theorem ZoX:∀(lv:List ((Nat⊕(Name×Nat))×U.Ty))(st:FSt U),(st.prom lv).n=st.n|[],st=>rfl|(.inl k,T)::r,st=>by show((st.prom1 k T).prom r).n=st.n;rw[ZoX r];unfold FSt.prom1;grind|(.inr x,T)::r,st=>by show((st.promM x.1 x.2 T).prom r).n=st.n;rw[ZoX r];unfold FSt.promM;grind
theorem ZtY(ok:CfgOk P cfg)(h:Rel cfg B st g a w)(lv:List (Nat×List (Sk U)))(lm:List (Name×List (Sk U))):∃g',Rel cfg B (Z6l cfg lv lm st id) g' a w:=by
 have aa:∀{st:FSt U}{g:Gh},Rel cfg B st g a w->∃g',Rel cfg B (Z3e cfg st (λst=>Z6G cfg st id (Z2t lv lm st)) (pts lv)) g' a w:=by
  intro st g h;rw[Z7z];obtain⟨g1,d⟩:=Zuf ok h (pts lv);generalize Z3e cfg st id (pts lv)=st1 at d⊢;cases hn:Z2t lv lm st1 with|nil=>exact⟨g1,d⟩|cons t r=>exact Zqv ok (t::r) d
 unfold Z6l;cases hw:wrs lm lv with|nil=>exact aa h|cons x r=>obtain⟨g1,d⟩:=Zkb (x::r) h;exact aa d
theorem Zwa(lv:List (Nat×List (Sk U)))(lm:List (Name×List (Sk U))):(Z6l cfg lv lm st id).n=st.n:=by
 have d:∀(st:FSt U),(Z3e cfg st (λst=>Z6G cfg st id (Z2t lv lm st)) (pts lv)).n=st.n:=by intro st;rw[Z7z];have h1:=Zxx (cfg:=cfg) (st:=st) (pts lv);generalize Z3e cfg st id (pts lv)=st1 at h1⊢;cases hn:Z2t lv lm st1 with|nil=>exact h1|cons t r=>exact(Zzi _ st1).trans h1
 unfold Z6l;cases hw:wrs lm lv with|nil=>exact d st|cons x r=>exact(d _).trans (ZoX _ st)
theorem ZtZ{α:Type}(lv:List (Nat×List (Sk U)))(lm:List (Name×List (Sk U)))(k:FSt U->α):Z6l cfg lv lm st k=k (Z6l cfg lv lm st id):=by
 unfold Z6l;generalize wrs lm lv=ws;have d:∀st:FSt U,Z3e cfg st (λst=>Z6G cfg st k (Z2t lv lm st)) (pts lv)=k (Z3e cfg st (λst=>Z6G cfg st id (Z2t lv lm st)) (pts lv)):=by intro st;rw[Z7z,Z7z st (λst=>Z6G cfg st id (Z2t lv lm st))];exact ZmU _ _ _
 cases ws<;>exact d _
inductive AExit where|normal|exit(id:Nat)|ret
def AExit.up:AExit->Exit|.normal=>.normal|.exit id=>.exit id|.ret=>.ret
abbrev Za(U:Uni):=Nat->List (Nat×List (Sk U))×List (Name×List (Sk U))
def AExit.then{U:Uni}(K:LSt U->Prop)(Q:AExit->LSt U->Prop):AExit->LSt U->Prop|.normal,s=>K s|e,s=>Q e s
def AExit.inBlock{U:Uni}(id:Nat)(Q:AExit->LSt U->Prop):AExit->LSt U->Prop|.exit id',s=>if id'=id then Q .normal s else Q (.exit id') s|e,s=>Q e s
def Zk{U:Uni}(body:LSt U->(AExit->LSt U->Prop)->Prop)(s:LSt U)(Q:AExit->LSt U->Prop):Prop:=∃(I:Nat->LSt U->Prop)(n:Nat),I n s/\∀k s',I k s'->body s' (AExit.then (λs2=>∃j,j<k/\I j s2) Q)
def ZxC:List Prop->Prop->Prop|[],q=>q|p::r,q=>p/\ZxC r q
theorem Zcu:∀{ps:List Prop}{q:Prop},ZxC ps q->All ps/\q|[],_,h=>⟨trivial,h⟩|_::_,_,h=>⟨⟨h.1,(Zcu h.2).1⟩,(Zcu h.2).2⟩
def mkL(Γ:Known U)(o:Oper):Bool:=match o.op with
 |.call c=>match c.callee with
  |.value (.func f)=>match Γ f with
   |some s=>s.mkl|none=>false
  |_=>false
 |_=>false
def isZ(o:Oper):Bool:=match o.op with
 |.call c=>match c.callee,c.argTypes.toList with
  |.builtin .append,[t,t']=>t !=t'|_,_=>false
 |_=>false
def ZIr(Γ:Known U)(s:LSt U)(ops:List Oper)(l:List (Nat×List (Sk U))×List (Name×List (Sk U))):Bool:=Γ.ml||Γ.nl||!s.ls.isEmpty||(ops.any λo=>ZFA ops o||mkL Γ o||isZ o)||!(wrs l.2 l.1).isEmpty||!(pts l.1).isEmpty
def Z6F{α:Type}(cfg:Cfg U)(li:Bool)(l:List (Nat×List (Sk U))×List (Name×List (Sk U)))(st:FSt U)(k:FSt U->α):α:=bif li then Z6l cfg l.1 l.2 st k else k st
def ZFS(cfg:Cfg U)(li:Bool)(r:Option (List Prop×FSt U))(l:List (Nat×List (Sk U))×List (Name×List (Sk U)))(Q:AExit->LSt U->Prop):Prop:=match r with|some (ps,st)=>Z6F cfg li l st (λst=>ZxC ps (Q .normal (norm l.1 l.2 st)))|none=>False
theorem ZmT{α:Type}(li:Bool)(l:List (Nat×List (Sk U))×List (Name×List (Sk U)))(k:FSt U->α):Z6F cfg li l st k=k (Z6F cfg li l st id):=by
 cases li;.try rfl
 .exact ZtZ _ _ _
theorem ZmS(ok:CfgOk P cfg)(h:Rel cfg B st g a w)(li:Bool)(l:List (Nat×List (Sk U))×List (Name×List (Sk U))):(∃g',Rel cfg B (Z6F cfg li l st id) g' a w)/\(Z6F cfg li l st id).n=st.n:=by
 cases li;.exact⟨⟨g,h⟩,rfl⟩
 .exact⟨ZtY ok h _ _,Zwa _ _⟩
def ZAJ{U:Uni}(v:Option (V U))(x y:Prop):Prop:=match v with|some (.c (.bool b))=>(b=true->x)/\(b=false->y)|some (.nb p q)=>(p->x)/\(q->y)|_=>False
def awp(cfg:Cfg U)(Γ:Known U)(draws:Array Oper->FSt U->Bool)(n:Nat)(lv:Za U):Code->LSt U->(AExit->LSt U->Prop)->Prop|.skip,s,Q=>Q .normal s|.region id ops dr,s,Q=>if(!dr||draws ops (s.toR n Γ.ml ops))=true then ZFS cfg (ZIr Γ s ops.toList (lv id)) (Zh9 cfg Γ ops (!dr&&ZIr Γ s ops.toList (lv id)) ops.toList (s.toR n Γ.ml ops)) (lv id) Q else False|.seq x y,s,Q=>awp cfg Γ draws n lv x s (AExit.then (λs'=>awp cfg Γ draws n lv y s' Q) Q)|.cond c x y,s,Q=>ZAJ ((s.toF n).opnd c) (awp cfg Γ draws n lv x s Q) (awp cfg Γ draws n lv y s Q)|.block id c,s,Q=>awp cfg Γ draws n lv c s (AExit.inBlock id Q)|.loop c,s,Q=>Zk (awp cfg Γ draws n lv c) s Q|.exit id,s,Q=>Q (.exit id) s|.ret,s,Q=>Q .ret s|.label _,s,Q=>Q .normal s|.scope c,s,Q=>awp cfg Γ draws n lv c s Q|_,_,_=>False
def ZbQ(P:Program)(cfg:Cfg U)(Γ:Known U)(draws:Array Oper->FSt U->Bool):Prop:=∀(B:Base)(st st':FSt U)(g:Gh)(a:Act)(w:World)(id:Nat)(ops:Array Oper)(ps:List Prop)(Q:Exit->Act->World->Prop),draws ops st=true->Rel cfg B st g a w->Zh9 cfg Γ ops false ops.toList st=some (ps,st')->All ps->(∀g' a' w',Rel cfg B st' g' a' w'->Q .normal a' w')->(Code.region id ops true).wp P Q a w
theorem Zv8{Γ:Known U}{draws:Array Oper->FSt U->Bool}(ok:CfgOk P cfg)(hΓ:∀f s,Γ f=some s->Contract P cfg f s)(hdr:ZbQ P cfg Γ draws){n:Nat}{lv:Za U}:∀(c:Code)(s:LSt U)(Q:AExit->LSt U->Prop)(g:Gh)(a:Act)(w:World),awp cfg Γ draws n lv c s Q->Rel cfg B (s.toF n) g a w->c.wp P (λe a' w'=>∃e' s' g',e=AExit.up e'/\Q e' s'/\Rel cfg B (s'.toF n) g' a' w') a w:=by
 intro c;induction c with
 |skip=>exact λs Q g a w h hr=>wp_skip ⟨.normal,s,g,rfl,h,hr⟩|region id ops dr=>
  intro s Q g a w h hr;simp only[awp]at h;split at h;case isFalse=>exact h.elim
  rename_i hd;unfold ZFS at h;split at h;case h_2=>exact h.elim
  rename_i ps ab ak;rw[ZmT]at h;replace h:=Zcu h;generalize ZIr Γ s ops.toList (lv id)=li at*;have au:∀g' a' w',Rel cfg B ab g' a' w'->∃e' s' g',Exit.normal=AExit.up e'/\Q e' s'/\Rel cfg B (s'.toF n) g' a' w':=by
   intro g' a' w' d;obtain⟨⟨g1,h1⟩,az⟩:=ZmS ok d li (lv id);obtain⟨g2,h2⟩:=ZCB h1 (lv id).1 (lv id).2;have hn:ab.n=n:=by
    have:∀(l:List Oper)(st ab:FSt U)(ps:List Prop),Zh9 cfg Γ ops (!dr&&li) l st=some (ps,ab)->ab.n=st.n:=by
     intro l;induction l with
     |nil=>intro st ab ps he;simp only[Zh9,oP]at he;rw[he.2]|cons o l ih=>
      intro st ab ps he;rw[ZcZ]at he;split at he;.cases he
      .split at he;.cases he
       .rename_i h2;simp only[oP]at he;obtain⟨_,rfl⟩:=he;rw[ih _ _ _ h2];have hp:((st.pre cfg Γ (!dr&&li) o).app o.dst ‹Eff U›).n=(st.pre cfg Γ (!dr&&li) o).n:=by cases o.dst<;>rfl
        rw[hp,ZLy]
    exact this _ _ _ _ ak
   rw[az,hn]at h2;exact⟨.normal,_,g2,rfl,h.2,h2⟩
  cases dr with|false=>exact wp_region_list (Zh8 ok hΓ ops.toList _ ab g a w ps (Zrd hr) ak h.1 au)|true=>
   simp only[Km,XX]at hd;exact hdr B _ ab g a w id ops ps _ hd (Zrd hr) ak h.1 au
 |seq x y ihx ihy=>
  intro s Q g a w h hr;simp only[awp]at h;refine wp_seq (wp_mono (ihx s _ g a w h hr) ?_);rintro e a' w'⟨e',s',g',rfl,hq,d⟩;cases e' with|normal=>exact ihy s' Q g' a' w' hq d|exit id=>exact⟨.exit id,s',g',rfl,hq,d⟩|ret=>exact⟨.ret,s',g',rfl,hq,d⟩
 |cond c x y ihx ihy=>
  intro s Q g a w h hr;simp only[awp,ZAJ]at h;split at h;case h_3=>exact h.elim
  case h_2 p q hb=>
   have hv:∃b,a.eval c=.bool b/\(b=true->p)/\(b=false->q):=by
    have aj:RelV cfg g ZQ (λnm=>((s.toF n).mem nm).isSome) (a.eval c) (.nb p q):=by cases c with
     |tmp t=>simp only[FSt.opnd,Option.some.injEq]at hb;rw[<-hb];exact hr.env t|const c=>exact Z2r hb|func f=>simp[FSt.opnd]at hb|global g=>trivial
    exact aj
   obtain⟨b,hv,hp,hq⟩:=hv;exact wp_cond_split hv (λht=>ihx s Q g a w (h.1 (hp ht)) hr) (λht=>ihy s Q g a w (h.2 (hq ht)) hr)
  rename_i b hb;have hv:a.eval c=.bool b:=by
   have aj:RelV cfg g ZQ (λnm=>((s.toF n).mem nm).isSome) (a.eval c) (.c (.bool b)):=by cases c with
    |tmp t=>simp only[FSt.opnd,Option.some.injEq]at hb;rw[<-hb];exact hr.env t|const c=>exact Z2r hb|func f=>simp[FSt.opnd]at hb|global g=>trivial
   exact SimC.bool_eq aj.1
  exact wp_cond_split hv (λht=>ihx s Q g a w (h.1 ht) hr) (λht=>ihy s Q g a w (h.2 ht) hr)|block id c ih=>
  intro s Q g a w h hr;simp only[awp]at h;refine wp_block (wp_mono (ih s _ g a w h hr) ?_);rintro e a' w'⟨e',s',g',rfl,hq,d⟩;cases e' with
  |normal=>exact⟨.normal,s',g',rfl,hq,d⟩|exit id'=>
   simp only[AExit.inBlock,AExit.up,Exit.inBlock]at*;grind|ret=>exact⟨.ret,s',g',rfl,hq,d⟩
 |loop c ih=>
  intro s Q g a w h hr;simp only[awp,Zk]at h;obtain⟨I,k,h0,h1⟩:=h;refine wp_loop_ghost (λk a w=>∃s g,I k s/\Rel cfg B (s.toF n) g a w) k ⟨s,g,h0,hr⟩ ?_;rintro k a w⟨s,g,hI,hr⟩;refine wp_mono (ih s _ g a w (h1 k s hI) hr) ?_;rintro e a' w'⟨e',s',g',rfl,hq,d⟩;cases e' with
  |normal=>obtain⟨j,hj,a1⟩:=hq;exact⟨j,hj,s',g',a1,d⟩|exit id=>exact⟨.exit id,s',g',rfl,hq,d⟩|ret=>exact⟨.ret,s',g',rfl,hq,d⟩
 |exit id=>exact λs Q g a w h hr=>wp_exit ⟨.exit id,s,g,rfl,h,hr⟩|ret=>exact λs Q g a w h hr=>wp_ret ⟨.ret,s,g,rfl,h,hr⟩|label l=>exact λs Q g a w h hr=>wp_label ⟨.normal,s,g,rfl,h,hr⟩|scope c ih=>intro s Q g a w h hr;refine wp_scope_straight (wp_mono (ih s Q g a w h hr) ?_);rintro e a' w'⟨e',s',g',rfl,hq,d⟩;cases e'<;>exact⟨_,s',g',rfl,hq,d⟩|_=>intro s Q g a w h;simp[awp]at h
def ZGa(cfg:Cfg U)(Γ:Known U)(draws:Array Oper->FSt U->Bool)(n:Nat)(lv:Za U)(y:Code)(Q:AExit->LSt U->Prop):AExit->LSt U->Prop:=AExit.then (λs'=>awp cfg Γ draws n lv y s' Q) Q
theorem Z6{U:Uni}{ι:Type}(f:ι->LSt U)(I:ι->Prop)(μ:ι->Nat){body:LSt U->(AExit->LSt U->Prop)->Prop}{s:LSt U}{Q:AExit->LSt U->Prop}(i0:ι)(hs:s=f i0)(h0:I i0)(hb:∀i,I i->body (f i) (AExit.then (λs2=>∃j,s2=f j/\I j/\μ j<μ i) Q)):Zk body s Q:=by refine⟨λk s=>∃i,s=f i/\I i/\μ i=k,μ i0,⟨i0,hs,h0,rfl⟩,?_⟩;grind
def sub:List Nat->Code->Code|[],c=>c|0::r,.seq a _=>sub r a|_::r,.seq _ b=>sub r b|0::r,.cond _ a _=>sub r a|_::r,.cond _ _ b=>sub r b|_::r,.block _ c=>sub r c|_::r,.loop c=>sub r c|_::r,.scope c=>sub r c|_,_=>.skip
def cd(f:Func)(path:List Nat):Code:=sub path (f.body.getD .skip)
attribute[irreducible]awp
def Z7b:Nat->List (V U)->List (Nat×V U)|_,[]=>[]|i,v::r=>(i,v)::Z7b (i+1) r
def Z7a:Nat->List (List (C U))->List (Name×List (C U))|_,[]=>[]|k,cs::r=>(.x k,cs)::Z7a (k+1) r
def Ji(args:List (V U))(X:List (List (C U)))(L:List (Tok×LC U)):LSt U:={env:=Z7b 0 args,mem:=Z7a 0 X,ls:=L}
def Zg(args:List (V U))(X:List (List (C U))):LSt U:=Ji args X []
def Z2e:Tok->Bool:=λ_=>true
def Zcg(cfg:Cfg U)(st:FSt U):ResultVar->Option (Bool×List (C U))
 |.tmp t=>match st.env t with
  |.c x=>some (false,[x])|.agg cs=>some (true,cs)|.kv (.iface t v)=>some (false,[.kc (.iface t v)])|_=>none
 |.cell t ty=>match cfg.var ty with
  |some (ag,zs)=>match rd st (st.env t) ag zs.length with
   |some (.c x)=>some (false,[x])|some (.agg cs)=>some (true,cs)|_=>none
  |none=>none
def Z8T(cfg:Cfg U)(st:FSt U):List ResultVar->Option (List (Bool×List (C U)))|[]=>some []|r::rs=>match Zcg cfg st r,Z8T cfg st rs with|some x,some l=>some (x::l)|_,_=>none
def Z5j(i:Nat):List (Bool×List (C U))->List (Tok×Tok)->List (Bool×List (C U))×List (Tok×Tok)|[],seen=>([],seen)|(ag,cs)::r,seen=>((ag,(Jc Z2e (λj=>.r 0 (16*i+j)) 0 cs seen).1)::(Z5j (i+1) r (Jc Z2e (λj=>.r 0 (16*i+j)) 0 cs seen).2).1,(Z5j (i+1) r (Jc Z2e (λj=>.r 0 (16*i+j)) 0 cs seen).2).2)
def ZvQ:Tail->Tail->Prop|_,.unk=>True|.full,_=>True|.own t,.own t'=>t=t'|_,_=>False
def leC(cfg:Cfg U):C U->C U->Prop
 |.int k n,.int k' n'=>k=k'/\n=n'|.bool b,.bool b'=>b=b'|.nils,.nils=>True|.nils,.slice _ l _=>l=[]|.nilp,.nilp=>True|.nilp,.po _ o=>o=none|.po T o,.po T' o'=>match cfg.tyEq T T' with
  |isTrue h=>h▸o=o'|isFalse _=>False
 |.slice T l tl,.slice T' l' tl'=>match cfg.tyEq T T' with|isTrue h=>h▸l=l'/\ZvQ tl tl'|isFalse _=>False
 |.mref t,.mref t'=>t=t'|.xp k,.xp k'=>k=k'|.kc v,.kc v'=>v=v'|_,_=>False
def leL(cfg:Cfg U):List (C U)->List (C U)->Prop|[],[]=>True|c::r,c'::r'=>leC cfg c c'/\leL cfg r r'|_,_=>False
def leR(cfg:Cfg U):List (Bool×List (C U))->List (Bool×List (C U))->Prop|[],[]=>True|(b,cs)::r,(b',cs')::r'=>b=b'/\leL cfg cs cs'/\leR cfg r r'|_,_=>False
def Zg0:V U->Option (List (Bool×List (C U)))|.kv v=>some [(false,[.kc v])]|.c x=>some [(false,[x])]|.agg cs=>some [(true,cs)]|.tup ws=>if ws.length=1 then none else some ws|_=>none
def ZLI(cfg:Cfg U)(x y:LC U):Prop:=match cfg.tyEq x.T y.T with|isTrue h=>h▸x.l=y.l/\x.f=y.f|isFalse _=>False
def Zjn(cfg:Cfg U)(ls:List (Tok×LC U))(seen:List (Tok×Tok)):List (Tok×LC U)->Prop
 |[]=>True|(t,y)::r=>(match Z1E seen t with
  |some u=>YN seen u=some t/\match Zy (λ_=>none) ls u with
   |some x=>ZLI cfg x y|none=>False
  |none=>False)/\Zjn cfg ls seen r
def Zvh(cfg:Cfg U)(mem:List (Name×List (C U)))(ls:List (Tok×LC U))(L:List (Tok×LC U)):(k:Nat)->List (List (C U))->List (Tok×Tok)->Prop|_,[],seen=>Zjn cfg ls seen L|k,cs'::r,seen=>match Z4G mem (.x k)with|some cs=>leL cfg (Z1P Z2e (.x k) 0 [] cs seen).1 cs'/\Zvh cfg mem ls L (k+1) r (Z1P Z2e (.x k) 0 [] cs seen).2|none=>False
def Zjp(cfg:Cfg U)(n:Nat)(rs:List ResultVar)(r:V U)(X:List (List (C U)))(L:List (Tok×LC U))(s:LSt U):Prop:=match Z8T cfg (s.toF n) rs,Zg0 r with|some ws,some ws'=>leR cfg (Z5j 0 ws []).1 ws'/\Zvh cfg s.mem s.ls L 0 X (Z5j 0 ws []).2|_,_=>False
def ZJp(cfg:Cfg U)(n:Nat)(rs:List ResultVar)(r:V U)(X:List (List (C U)))(s:LSt U):Prop:=Zjp cfg n rs r X [] s
def Z00(cfg:Cfg U)(n:Nat)(rs:List ResultVar)(r:V U)(X:List (List (C U)))(L:List (Tok×LC U))(e:AExit)(s:LSt U):Prop:=match e with|.exit _=>False|_=>Zjp cfg n rs r X L s
def Z06(cfg:Cfg U)(n:Nat)(rs:List ResultVar)(r:V U)(X:List (List (C U)))(e:AExit)(s:LSt U):Prop:=match e with|.exit _=>False|_=>ZJp cfg n rs r X s
theorem Zod{ls:List (Tok×LC U)}{seen:List (Tok×Tok)}{g2:Gh}(h:Rel cfg B st g a w)(hls:∀t,st.ls t=Zy (λ_=>none) ls t)(hr:Ren (λ_=>true) g seen g2):∀{L:List (Tok×LC U)},Zjn cfg ls seen L->∀t x,Zy (λ_=>none) L t=some x->LRel cfg w g2 t x
 |[],_,t,x,hx=>by trivial|(t0,y)::L,hE,t,x,hx=>by
  obtain⟨h1,h2⟩:=hE;simp only[Zy]at hx;split at hx
  .rename_i e;subst e;cases hx;split at h1;case h_2=>exact h1.elim
   rename_i u hu;obtain⟨h3,d⟩:=h1;split at d;case h_2=>exact d.elim
   rename_i x af;unfold ZLI at d;split at d;case h_2=>exact d.elim
   rename_i hT _;obtain⟨T,l,f⟩:=x;obtain⟨T',l',f'⟩:=y;simp only at hT;subst hT;obtain⟨h5,h6⟩:=d;simp only at h5 h6;subst h5 h6;obtain⟨_,hL⟩:=h.ls u _ ((hls u).trans af);have aa:∀c,g.tag c=some (.tok u)->g2.tag c=some (.tok t):=λc hc=>hr.tok c u t hc h3;rcases hL with⟨e1,e2⟩|⟨b,len,cap,e1,e2,e3,e4,e5,e6⟩;.exact .inl ⟨hr.bs _ _ _ rfl hu e1,e2⟩
   .refine .inr ⟨b,len,cap,hr.bs _ _ _ rfl hu e1,e2,e3,e4,λi y hy j c hc=>?_,λj a1 a2=>aa _ (e6 j a1 a2)⟩;obtain⟨v,e7,e8,e9,ae⟩:=e5 i y hy j c hc;exact⟨v,e7,by rw[hr.m];exact e8,λhi=>by rw[hr.m];exact e9 hi,λhi=>aa _ (ae hi)⟩
  .exact Zod h hls hr h2 t x hx
theorem Zyu{g:Gh}{v:Value}{c c':C U}(h:leC cfg c c')(hr:RelC cfg g ZQ v c):RelC cfg g ZQ v c':=by
 cases c<;>cases c'<;>simp only[leC]at h;case int.int k n k' n'=>obtain⟨rfl,rfl⟩:=h;exact hr
 case bool.bool=>subst h;exact hr
 case nils.nils=>exact hr
 case nilp.nilp=>exact hr
 case nilp.po T o=>
  subst h;have d:=hr.1;cases d;exact⟨.pnil T,trivial⟩
 case po.po T o T' o'=>
  split at h
  .rename_i hT _;subst hT;simp only at h;subst h;exact hr
  .exact h.elim
 case mref.mref t t'=>subst h;exact hr
 case xp.xp k k'=>subst h;exact hr
 case kc.kc v v'=>subst h;exact hr
 case nils.slice T l tl=>
  subst h;have d:=hr.1;cases d;refine⟨.snil T tl,?_⟩;cases tl with
  |unk=>trivial|full=>intro a len aa hv;simp at hv;omega|own t=>intro _ a len aa hv;simp at hv
 case slice.slice T l tl T' l' tl'=>
  split at h
  .rename_i hT _;subst hT;obtain⟨d,h2⟩:=h;simp only at d;subst d;refine⟨hr.1.tl _,?_⟩;cases tl' with
   |unk=>trivial|full=>cases tl<;>simp only[ZvQ]at h2;exact hr.2|own t'=>cases tl with|unk=>exact h2.elim|full=>intro _ b len aa hv j h3 h4;have:=hr.2 _ _ _ hv;subst this;omega|own t=>have:t=t':=h2;subst this;exact hr.2
  .exact h.elim
theorem ZpS{g:Gh}:∀{vs:List Value}{cs cs':List (C U)},leL cfg cs cs'->RelL cfg g ZQ vs cs->RelL cfg g ZQ vs cs'
 |vs,[],[],_,hr=>hr|vs,c::cs,c'::cs',h,hr=>by
  obtain⟨h1,h2⟩:=h;match vs,hr with
  |v::vs,hr=>
   have h3:=ZpS (vs:=vs) h2 ⟨by simpa using hr.1,λj v' c hv hc=>hr.2 (j+1) v' c (by simpa using hv) (by simpa using hc)⟩;refine⟨by simp[h3.1],λj v' d hv hd=>?_⟩;cases j with|zero=>simp at hv hd;subst hv hd;exact Zyu h1 (hr.2 0 _ _ rfl rfl)|succ j=>exact h3.2 j v' d (by simpa using hv) (by simpa using hd)
  |[],hr=>have:=hr.1;simp at this
theorem ZIn{g:Gh}{v:Value}{ag:Bool}{cs cs':List (C U)}(h:leL cfg cs cs')(hr:RelW cfg g ZQ v ag cs):RelW cfg g ZQ v ag cs':=by cases ag with|true=>obtain⟨vs,h1,d⟩:=hr;exact⟨vs,h1,ZpS h d⟩|false=>obtain⟨c,rfl,d⟩:=hr;match cs',h with|[c'],h=>exact⟨c',rfl,Zyu h.1 d⟩
def RelWs(cfg:Cfg U)(g:Gh)(dead:Tok->Bool)(vs:List Value)(ws:List (Bool×List (C U))):Prop:=vs.length=ws.length/\∀(j:Nat)u w,vs[j]?=some u->ws[j]?=some w->RelW cfg g dead u w.1 w.2
theorem RelWs.cons{g:Gh}{dead:Tok->Bool}{v:Value}{w:Bool×List (C U)}{vs:List Value}{ws:List (Bool×List (C U))}(h:RelW cfg g dead v w.1 w.2)(hs:RelWs cfg g dead vs ws):RelWs cfg g dead (v::vs) (w::ws):=by refine⟨by simp[hs.1],λj u x hu d=>?_⟩;cases j with|zero=>grind|succ j=>exact hs.2 j u x (by simpa using hu) (by simpa using d)
theorem RelWs.uncons{g:Gh}{dead:Tok->Bool}{vs:List Value}{w:Bool×List (C U)}{ws:List (Bool×List (C U))}(h:RelWs cfg g dead vs (w::ws)):∃v r,vs=v::r/\RelW cfg g dead v w.1 w.2/\RelWs cfg g dead r ws:=by match vs,h with|v::r,h=>exact⟨v,r,rfl,h.2 0 _ _ rfl rfl,by simpa using h.1,λj u x hu d=>h.2 (j+1) u x (by simpa using hu) (by simpa using d)⟩|[],h=>have:=h.1;simp at this
theorem Zyt{g:Gh}:∀{vs:List Value}{ws ws':List (Bool×List (C U))},leR cfg ws ws'->RelWs cfg g ZQ vs ws->RelWs cfg g ZQ vs ws'|vs,[],[],_,hr=>hr|vs,(b,cs)::ws,(b',cs')::ws',h,hr=>by obtain⟨rfl,d,h2⟩:=h;obtain⟨v,r,rfl,h3,h4⟩:=hr.uncons;exact .cons (ZIn d h3) (Zyt h2 h4)
theorem Zia(hd:∀t,Z2e t=true->st.dead t=false):∀(ws:List (Bool×List (C U)))(i:Nat)(seen:List (Tok×Tok)),Ext seen (Z5j i ws seen).2/\∀s',Ext (Z5j i ws seen).2 s'->∀g2,Ren (λ_=>true) g s' g2->∀vs,RelWs cfg g st.dead vs ws->RelWs cfg g2 ZQ vs (Z5j i ws seen).1
 |[],i,seen=>⟨.refl _,λs' _ g2 _ vs h=>⟨h.1,λj u w _ hw=>by trivial⟩⟩|(ag,cs)::ws,i,seen=>by
  obtain⟨h3,h4,h5⟩:=Z7x (cfg:=cfg) (g:=g) (okT:=λ_=>true) (mine:=Z2e) (nm:=λj=>.r 0 (16*i+j)) hd (λ_=>rfl) cs 0 seen;obtain⟨h6,h7⟩:=Zia hd ws (i+1) (Jc Z2e (λj=>.r 0 (16*i+j)) 0 cs seen).2;refine⟨h3.trans h6,λs' hs g2 hg vs h=>?_⟩;obtain⟨v,r,rfl,h8,h9⟩:=h.uncons;refine .cons ?_ (h7 s' hs g2 hg r h9);have hL:∀us,RelL cfg g st.dead us cs->RelL cfg g2 ZQ us (Jc Z2e (λj=>.r 0 (16*i+j)) 0 cs seen).1:=λus hu=>⟨by rw[h4];exact hu.1,λj u c ai hc=>by
    have hj:j<cs.length:=by have:=(Q4.1 hc).1;omega
    exact h5 s' (h6.trans hs) g2 hg j u _ c (Q1 hj) hc (hu.2 j u _ ai (Q1 hj))⟩;cases ag with
  |true=>obtain⟨us,d,ae⟩:=h8;exact⟨us,d,hL _ ae⟩|false=>obtain⟨c,d,ae⟩:=h8;simp only at d;subst d;have:=hL [v] ⟨rfl,λj u c hu hc=>by grind⟩;simp only[Jc]at this⊢;exact⟨_,rfl,this.2 0 _ _ rfl rfl⟩
theorem ZtA(h:Rel cfg B st g a w)(hdead:st.dead=ZQ){mem:List (Name×List (C U))}(hm:∀nm,st.mem nm=Z4G mem nm){ls L:List (Tok×LC U)}:∀(X:List (List (C U)))(k:Nat)(seen:List (Tok×Tok)),Zvh cfg mem ls L k X seen->∃s',Ext seen s'/\Zjn cfg ls s' L/\∀s2,Ext s' s2->∀d,RenA (λ_=>true) g s2 d->∀(i:Nat)cs,X[i]?=some cs->∀(j:Nat)c,cs[j]?=some c->∃v,w.cell? ((g.ad (.x (k+i))).add j)=some v/\g.tag ((g.ad (.x (k+i))).add j)=some (.obj (.x (k+i)))/\RelC cfg d ZQ v c
 |[],k,seen,hx=>⟨seen,.refl _,hx,λs2 _ d _ i cs hi=>by simp at hi⟩|cs'::X,k,seen,hx=>by
  simp only[Zvh]at hx;split at hx
  .rename_i cs al;obtain⟨h1,h2⟩:=hx;have hd:∀t,Z2e t=true->st.dead t=false:=λt _=>by rw[hdead];try rfl
   obtain⟨h3,h4,h5⟩:=Z7D (cfg:=cfg) (g:=g) (okT:=λ_=>true) (mine:=Z2e) (nm:=.x k) hd (λ_=>rfl) cs 0 [] seen;obtain⟨s',h6,aj,h7⟩:=ZtA h hdead hm X (k+1) _ h2;refine⟨s',h3.trans h6,aj,λs2 hs d hg i a8 hi j c hj=>?_⟩;cases i with
   |zero=>
    simp at hi;subst hi;have ae:st.mem (.x k)=some cs:=by rw[hm];exact al
    let f:Nat->Value:=λj=>(w.cell? ((g.ad (.x k)).add j)).getD undef;have hf:∀j c,cs[j]?=some c->w.cell? ((g.ad (.x k)).add j)=some (f j)/\g.tag ((g.ad (.x k)).add j)=some (.obj (.x k))/\RelC cfg g st.dead (f j) c:=λj c hc=>by
     obtain⟨v,h8,h9,ay⟩:=h.mem _ _ ae j c hc;grind
    have hR:RelL cfg d ZQ ((List.range cs.length).map f) (Z1P Z2e (.x k) 0 [] cs seen).1:=by
     have ak:=RelL.of_get (cfg:=cfg) (g:=g) (st:=st) (f:=f) (λj c hc=>(hf j c hc).2.2);refine⟨by grind,λj u c hu hc=>?_⟩;have hj:j<cs.length:=by have:=(Q4.1 hc).1;omega
     exact h5 s2 (h6.trans hs) d hg j u _ c (Q1 hj) hc (ak.2 j u _ hu (Q1 hj))
    have aa:=ZpS h1 hR;have ab:j<cs.length:=by have aw:=(Q4.1 hj).1;have:=aa.1;simp at this;omega
    obtain⟨ar,aq,_⟩:=hf j _ (Q1 ab);refine⟨f j,Yp,Yp,aa.2 j _ c (by simp[ab]) hj⟩|succ i=>grind
  grind
theorem Zgq:∀(args:List (V U))(i k:Nat),look (Z7b i args) k=if i<=k then(args[k-i]?).getD .junk else .junk
 |[],i,k=>by simp[Z7b,look]|v::args,i,k=>by
  simp only[Z7b,look];cases hk:Nat.beq i k with|true=>simp_all|false=>
   have d:i≠k:=λe=>by simp_all
   simp only[cond_false];rw[Zgq args (i+1) k];grind
theorem Z3S:∀(X:List (List (C U)))(k:Nat)(nm:Name),Z4G (Z7a k X) nm=match nm with|.x i=>if k<=i then X[i-k]? else none|.loc _=>none
 |[],k,nm=>by cases nm<;>simp[Z7a,Z4G]|cs::X,k,nm=>by
  simp only[Z7a,Z4G];cases nm with
  |loc s=>simp[Z3S X (k+1) (.loc s)]|x i=>
   by_cases h:k=i;.subst h;simp
   .rw[if_neg (λe=>by grind),Z3S X (k+1) (.x i)];grind
theorem Zu4(ok:CfgOk P cfg)(h:Rel cfg B st g a w){rv:ResultVar}{x:Bool×List (C U)}(he:Zcg cfg st rv=some x):∃v,(match rv with|.tmp t=>pure (a.tmps.getD t undef)|.cell t ty=>do loadVar ty (<-asAddr (a.tmps.getD t undef)):Sem Value).run P w=.ok v w/\RelW cfg g st.dead v x.1 x.2:=by cases rv with
 |tmp t=>
  have d:=h.env t;simp only[Zcg]at he;split at he<;>simp only[Option.some.injEq,reduceCtorEq]at he;.rename_i c hc;rw[hc]at d;subst he;exact⟨_,rfl,c,rfl,d⟩
  .rename_i cs hc;rw[hc]at d;subst he;exact⟨_,rfl,d⟩
  .rename_i t' u hc;rw[hc]at d;subst he;exact⟨_,rfl,_,rfl,by rw[show a.tmps.getD t undef=.iface t' u from d];exact .kc _ ⟨rfl,rfl⟩,trivial⟩|cell t ty=>
  have d:=h.env t;simp only[Zcg]at he;split at he
  .rename_i ag zs hv;cases hrd:rd st (st.env t) ag zs.length with
   |none=>grind|some y=>
    obtain⟨v,h1,h2⟩:=ZfO (w:=w) ok h hv d hrd;refine⟨v,?_,?_⟩
    .have hp:∃b,a.tmps.getD t undef=.pointer (some b):=by cases hx:st.env t with
      |ptr nm off=>rw[hx]at d;exact⟨_,d.2⟩|ep cs=>rw[hx]at d;obtain⟨b,hb,_⟩:=d;grind|ap nm off k len i=>rw[hx]at d;exact⟨_,d.2.2⟩|_=>rw[hx]at hrd;simp[rd]at hrd
     obtain⟨b,hb⟩:=hp;rw[hb]at h1;show(do let x<-asAddr (a.tmps.getD t undef);loadVar ty x:Sem Value).run P w=_;rw[hb];trivial
    .rw[hrd]at he;cases y<;>simp only[Option.some.injEq,reduceCtorEq]at he;.subst he;exact⟨_,rfl,h2⟩
     .subst he;exact h2
  .cases he
theorem Zib(ok:CfgOk P cfg)(h:Rel cfg B st g a w):∀{rs:List ResultVar}{ws:List (Bool×List (C U))},Z8T cfg st rs=some ws->∃vs,(rs.mapM λrv=>(match rv with|.tmp t=>pure (a.tmps.getD t undef)|.cell t ty=>do loadVar ty (<-asAddr (a.tmps.getD t undef)):Sem Value)).run P w=.ok vs w/\RelWs cfg g st.dead vs ws
 |[],ws,he=>by simp only[Z8T,Option.some.injEq]at he;subst he;exact⟨[],by simp,rfl,λj u w hu=>by simp at hu⟩|r::rs,ws,he=>by
  simp only[Z8T]at he;split at he
  .rename_i x l d hl;simp only[Option.some.injEq]at he;subst he;obtain⟨v,h1,h2⟩:=Zu4 (w:=w) ok h d;obtain⟨vs,h3,h4⟩:=Zib ok h hl;refine⟨v::vs,?_,.cons h2 h4⟩;simp_all
  .cases he
theorem Zuc{g:Gh}{live:Name->Bool}{r:V U}{ws:List (Bool×List (C U))}{vs:List Value}(hp:Zg0 r=some ws)(h:RelWs cfg g ZQ vs ws):RelV cfg g ZQ live (if hs:vs.toArray.size=1 then vs.toArray[0]else .tuple vs.toArray) r:=by
 cases r<;>simp only[Zg0,Option.some.injEq,reduceCtorEq]at hp;case c x=>
  subst hp;obtain⟨v,r,rfl,d,h2⟩:=h.uncons;have:r=[]:=Q0 (by simpa using h2.1);subst this;obtain⟨c,hc,hr⟩:=d;cases hc;exact hr
 case agg cs=>subst hp;obtain⟨v,r,rfl,d,h2⟩:=h.uncons;have:r=[]:=Q0 (by simpa using h2.1);subst this;exact d
 case kv u=>
  subst hp;obtain⟨v,r,rfl,d,h2⟩:=h.uncons;have:r=[]:=Q0 (by simpa using h2.1);subst this;obtain⟨c,hc,hr⟩:=d;cases hc;have:=hr.1;cases this;try rfl
 case tup ws'=>
  split at hp;.cases hp
  .rename_i hl;simp only[Option.some.injEq]at hp;subst hp;have ab:vs.toArray.size≠1:=by have:=h.1;simpa[this]using hl
   rw[dif_neg ab];exact⟨_,rfl,by simpa using h.1,λj u w hu hw=>h.2 j u w (by simpa using hu) hw⟩
def ZeJ(cfg:Cfg U)(a b:C U):Prop:=∀g v,RelC cfg g ZQ v a->RelC cfg g ZQ v b
def Zhf(cfg:Cfg U)(a b:V U):Prop:=∀g live v,RelV cfg g ZQ live v a->RelV cfg g ZQ live v b
structure BetterAll(cfg:Cfg U)(args args':List (V U))(X X':List (List (C U))):Prop where
 len:args.length=args'.length
 args:∀(j:Nat)x y,args[j]?=some x->args'[j]?=some y->Zhf cfg x y
 xlen:X.length=X'.length
 xl:∀(k:Nat)x y,X[k]?=some x->X'[k]?=some y->x.length=y.length
 x:∀(k:Nat)x y,X[k]?=some x->X'[k]?=some y->∀(j:Nat)c c',x[j]?=some c->y[j]?=some c'->ZeJ cfg c c'
theorem Entry.better{w:World}{g:Gh}{vs:List Value}{args args':List (V U)}{X X':List (List (C U))}{L L':List (Tok×LC U)}(h:Entry cfg w g vs args X L)(b:BetterAll cfg args args' X X')(hL:∀t x,Zy (λ_=>none) L' t=some x->Zy (λ_=>none) L t=some x):Entry cfg w g vs args' X' L':=by
 refine⟨h.inv,h.tags,h.len.trans b.len,λj v y hv hy=>?_,λk cs hk j c hj=>?_,h.bs,λt x d=>h.ls t x (hL t x d)⟩
 .have hj:j<args.length:=by have:=(Q4.1 hy).1;have:=b.len;omega
  have d:=Q1 hj;have:=b.args j _ y d hy g _ v (h.args j v _ hv d);have hl:Z6Q X'=Z6Q X:=by funext nm;cases nm with|loc s=>rfl|x k=>have ah:=b.xlen;show(X'[k]?).isSome=(X[k]?).isSome;grind
  grind
 .have ab:k<X.length:=by have:=(Q4.1 hk).1;have:=b.xlen;omega
  have d:=Q1 ab;have ae:j<(X[k]).length:=by have:=(Q4.1 hj).1;have:=b.xl k _ _ d hk;omega
  have hc:=Q1 ae;obtain⟨v,h1,h2,h3⟩:=h.x k _ d j _ hc;exact⟨v,h1,h2,b.x k _ _ d hk j _ c hc hj g v h3⟩
theorem BetterAll.refl(args:List (V U))(X:List (List (C U))):BetterAll cfg args args X X:=⟨rfl,λj x y hx d=>by rw[hx]at d;cases d;exact λ_ _ _ h=>h,rfl,λk x y hx d=>by grind,λk x y hx d j c c' hc aa=>by rw[hx]at d;cases d;rw[hc]at aa;cases aa;exact λ_ _ h=>h⟩
theorem ZqI{Γ:Known U}{draws:Array Oper->FSt U->Bool}(ok:CfgOk P cfg)(hΓ:∀f s,Γ f=some s->Contract P cfg f s)(hdr:ZbQ P cfg Γ draws){f:FuncId}{fn:Func}{c:Code}(lv:Za U)(hf:P.funcs[f]?=some fn)(hb:fn.body=some c){args:List (V U)}{X:List (List (C U))}{L:List (Tok×LC U)}{w:World}{g:Gh}{vs:List Value}(E:Entry cfg w g vs args X L)(hn:args.length<=fn.ntmps){Q:AExit->LSt U->Prop}(hawp:awp cfg Γ draws fn.ntmps lv c (Ji args X L) Q){R:Ending->World->Prop}(hq:∀e' s' g' a' d,Q e' s'->Rel cfg ⟨w,g.m,g.tag,λk=>g.ad (.x k)⟩ (s'.toF fn.ntmps) g' a' d->(∀id,e'≠.exit id)/\a'.defers=[]/\∃v,(results fn a'.tmps).run P d=.ok v d/\R (.returned v) d):Calls P f vs.toArray w R:=by
 let B:Base:=⟨w,g.m,g.tag,λk=>g.ad (.x k)⟩;have ar:vs.length<=fn.ntmps:=by rw[E.len];exact hn
 have aa:Rel cfg B ((Ji args X L).toF fn.ntmps) g {tmps:=vs.toArray++Array.replicate (fn.ntmps-vs.toArray.size) undef,defers:=[]} w:=by
  refine⟨E.inv,⟨⟨rfl,rfl,rfl,Qc _⟩,λ_=>rfl,λ_ _ h=>h,λc t h=>⟨h,rfl⟩,λc t h=>h,λb _ _=>⟨rfl,λ_ _=>rfl⟩,λ_ _=>rfl⟩,?_,?_,?_,rfl,λt x hx=>⟨rfl,E.ls t x hx⟩,λt ht _ _=>E.bs t ht⟩
  .intro k;have hl:(λnm:Name=>(((Ji args X L).toF fn.ntmps).mem nm).isSome)=Z6Q X:=by
    funext nm;simp only[LSt.toF,Ji,Z3S];cases nm<;>simp[Z6Q]
   rw[hl];simp only[LSt.toF,Ji,Zgq,QI,if_true,K6];cases hx:args[k]? with
   |none=>exact trivial|some x=>
    have hk:k<vs.length:=by rw[E.len];exact(Q4.1 hx).1
    have hv:vs[k]?=some vs[k]:=Q1 hk;have:=E.args k _ x hv hx;have hg:(vs.toArray++Array.replicate (fn.ntmps-vs.toArray.size) undef).getD k undef=vs[k]:=by simp[Array.getD,hk];intro h;omega
    grind
  .intro nm cs hm j c hc;simp only[LSt.toF,Ji,Z3S]at hm;cases nm with|loc s=>simp at hm|x k=>simp at hm;exact E.x k cs hm j c hc
  .simp only[LSt.toF];grind
 have ak:=Zv8 (B:=B) ok hΓ hdr (n:=fn.ntmps) (lv:=lv) c _ _ g _ w hawp aa;refine calls_of_wp (R:=R) (args:=vs.toArray) hf hb (wp_mono ak ?_);rintro e a' d⟨e',s',g',rfl,hQ,hr⟩;obtain⟨h0,h1,h2⟩:=hq e' s' g' a' d hQ hr;cases e' with|normal=>trivial|ret=>trivial|exit id=>grind
theorem Z5M{Γ:Known U}{draws:Array Oper->FSt U->Bool}(ok:CfgOk P cfg)(hΓ:∀f s,Γ f=some s->Contract P cfg f s)(hdr:ZbQ P cfg Γ draws){f:FuncId}{fn:Func}{c:Code}{s:Fs U}(lv:Za U)(hf:P.funcs[f]?=some fn)(hb:fn.body=some c)(hname:(fn.name== "runtime.NumGoroutine")=false)(hbody:∀args X L ps r X' L',s.fn2 args X L=some (ps,r,X',L')->All ps->∃args' X0 L0,BetterAll cfg args args' X X0/\(∀t x,Zy (λ_=>none) L0 t=some x->Zy (λ_=>none) L t=some x)/\args'.length<=fn.ntmps/\awp cfg Γ draws fn.ntmps lv c (Ji args' X0 L0) (Z00 cfg fn.ntmps fn.results.toList r X' L'))(hi:s.inp=none:=by rfl):Contract P cfg f s:=by
 refine⟨⟨fn,hf,by simp[hb],hname⟩,?_,λi h=>by rw[hi]at h;cases h⟩;intro al X1 L1 ps r X' L' hs a7 hX w g vs E1;obtain⟨args,X,L,af,hL,hn,ao⟩:=hbody al X1 L1 ps r X' L' hs a7;have E:=E1.better af hL;refine ZqI ok hΓ hdr lv hf hb E hn ao ?_
 .intro e' s' g' a' w' hQ hr;have hE:Zjp cfg fn.ntmps fn.results.toList r X' L' s':=by cases e'<;>first|exact hQ|exact hQ.elim
  refine⟨λid e=>by subst e;exact hQ,?_⟩;refine⟨hr.df,?_⟩;unfold Zjp at hE;split at hE;case h_2=>exact hE.elim
  rename_i ws bc am aj;obtain⟨az,hx⟩:=hE;obtain⟨us,h1,h2⟩:=Zib (w:=w') ok hr am;have hd:∀t,Z2e t=true->(s'.toF fn.ntmps).dead t=false:=λt _=>rfl;obtain⟨h3,h4⟩:=Zia (cfg:=cfg) (g:=g') (st:=s'.toF fn.ntmps) hd ws 0 [];obtain⟨sx,h5,a1,h6⟩:=ZtA hr rfl (mem:=s'.mem) (λ_=>rfl) X' 0 _ hx;let keep:Name->Bool:=λnm=>match nm with|.x k=>decide (k<X'.length)|.loc _=>false;have d:∀c,g'.tag c=none->(g'.anew sx keep (λ_=>true)).tag c=none:=λc hc=>by simp only[Gh.anew,hc]
  have ai:∀c t,g'.tag c=some (.outer t)↔(g'.anew sx keep (λ_=>true)).tag c=some (.outer t):=by intro c t;simp only[Gh.anew];cases hg:g'.tag c with|none=>simp|some t0=>cases t0 with|obj nm=>cases hk:keep nm<;>simp[hk]|tok u=>cases hk:YN sx u<;>simp[hk]|outer t0=>simp
  have hW:=h4 sx h5 _ (Gh.anew_ren sx keep (λ_=>true)).toRen us h2;have ar:=Zuc (live:=λ_=>false) aj (Zyt az hW);refine⟨_,?_,_,g'.anew sx keep (λ_=>true),rfl,⟨λc v hv=>?_,λc t ht=>?_⟩,?_,?_,?_,ar,?_,Zod hr (λ_=>rfl) (Gh.anew_ren sx keep (λ_=>true)).toRen a1⟩
  .simp only[results,Sem.run_bind];have e1:fn.results=fn.results.toList.toArray:=by simp
   rw[e1,List.mapM_toArray];simp only[Sem.run_map,Sem.run_pure];exact congrArg (λr:Result (List Value)=>(r.andThen λa w'=>Result.ok a.toArray w').andThen λa w'=>Result.ok (if h:a.size=1 then a[0]else Value.tuple a) w') h1
  .obtain⟨h7,h8⟩:=hr.inv.im c v hv;exact⟨h7,d c h8⟩
  .cases hg:g'.tag c with
   |none=>rw[d c hg]at ht;cases ht|some t0=>exact hr.inv.it c t0 hg
  .have F:Fr ⟨w,g.m,g.tag,λk=>g.ad (.x k)⟩ (g'.anew sx keep (λ_=>true)) w':=by
    refine hr.fr.step hr.inv (Evo.refl w' (λ_=>False)) (λc hc=>hc.elim) (λ_ _ hv=>hv) (λc t=>ai c t) ?_ (λ_=>rfl);intro b _ aq o sp;cases hg:g'.tag ⟨b,o,sp⟩with
    |none=>exact d _ hg|some t=>
     obtain⟨t',rfl⟩:=aq o sp t hg;exact(ai _ _).1 hg
   exact⟨F.stay,λ_=>rfl,F.mono,F.outer,F.outer',F.clean,F.frz⟩
  .intro c t ht;simp only[Gh.anew]at ht;split at ht;.rename_i u hu;cases hn:YN sx u with|none=>simp[hn]at ht|some u'=>simp[hn]at ht;exact .inr (.inr ⟨u',ht.symm⟩)
   .rename_i nm bm;cases hk:keep nm with|false=>simp[hk]at ht|true=>simp[hk]at ht;subst ht;cases nm with|loc s=>simp[keep]at hk|x k=>exact .inr (.inl ⟨k,by simpa[keep]using hk,rfl⟩)
   .cases ht;exact .inl ⟨_,rfl⟩
   .cases ht
  .exact λk _=>hr.fr.xad k
  .intro k cs hk j c hc;obtain⟨v,h7,h8,h9⟩:=h6 sx (.refl _) _ (Gh.anew_ren sx keep (λ_=>true)) k cs hk j c hc;rw[QQ]at h7 h8;refine⟨v,h7,?_,h9⟩;have a8:k<X'.length:=(Q4.1 hk).1;show(g'.anew sx keep (λ_=>true)).tag ((g'.ad (.x k)).add j)=_;simp only[Gh.anew,h8,keep,a8,decide_true,cond_true]
theorem ZdZ{Γ:Known U}{draws:Array Oper->FSt U->Bool}(ok:CfgOk P cfg)(hΓ:∀f s,Γ f=some s->Contract P cfg f s)(hdr:ZbQ P cfg Γ draws){f:FuncId}{fn:Func}{c:Code}{s:Fs U}(lv:Za U)(hf:P.funcs[f]?=some fn)(hb:fn.body=some c)(hname:(fn.name== "runtime.NumGoroutine")=false)(hbody:∀args X ps r X',s.fn args X=some (ps,r,X')->All ps->∃d X0,BetterAll cfg args d X X0/\d.length<=fn.ntmps/\awp cfg Γ draws fn.ntmps lv c (Zg d X0) (Z06 cfg fn.ntmps fn.results.toList r X'))(hd:s.fn2=ZbF s.fn:=by rfl)(hi:s.inp=none:=by rfl):Contract P cfg f s:=by
 refine Z5M ok hΓ hdr lv hf hb hname ?_ (hi:=hi);intro args X L ps r X' L' hs ae;rw[hd]at hs;unfold ZbF at hs;split at hs
 .split at hs
  .rename_i h1;cases hs;obtain⟨d,X0,h2,h3,h4⟩:=hbody args X _ _ _ h1 ae;exact⟨d,X0,[],h2,λt x hx=>hx,h3,h4⟩
  .cases hs
 .cases hs
end Go.AM
