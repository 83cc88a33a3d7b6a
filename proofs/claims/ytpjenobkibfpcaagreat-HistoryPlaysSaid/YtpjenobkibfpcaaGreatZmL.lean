import Derived.Test.YtpjenobkibfpcaaGreatZmR
import Derived.WalkSpells
import Derived.Lib.SliceRun
import Derived.Deep.LoopGhost
set_option linter.all false
open Option renaming some->A,none->aT
open Bool renaming true->Y,false->I
open List renaming length->J,getD->aR
namespace Go.AM
variable{U:gP}{P:Program}{M:cW U}{B:fN}{E:bY U}{g:Gh}{a:Act}{w:World}
theorem Z9s(ps):∀xs(i:Nat)os(seen:List (bL×bL)),JU E.bC ps i xs os seen=JU E ps i xs os seen|[],i,os,seen=>rfl|x::xs,i,os,seen=>by simp only[JU,Z9s ps xs];try rfl
theorem ZhE:∀l h,sr E.bC l h=sr E l h|[],h=>rfl|nm::l,h=>by simp only[sr,ZhE l];try rfl
theorem ZhX(Γ)(d)(f)(args):pX Γ E.bC d f args=pX Γ E d f args:=by
 have hl:∀(aB:List (bL×LC U)),nj E.bC d aB=nj E d aB:=by intro aB;induction aB with
  |nil=>rfl|cons x aB ih=>obtain⟨t,x⟩:=x;simp only[nj,ih];try rfl
 have h:pf E.bC args=pf E args:=by simp only[pf,ZhE]
 simp only[pX,Z9s,hl,h];try rfl
theorem R6{s x}(h:iH E.bC s=A x)(aa:∀y,s=A y->∀v,E.bC.bU y=A v->cB M g E.aZ (λnm=>(E.mem nm).isSome) (a.eval y) v):AE M g E.aZ (λnm=>(E.mem nm).isSome) (s.map a.eval) x:=by cases s with|none=>simp only[iH,Option.some.injEq]at h;subst h;trivial|some y=>simp only[iH]at h;cases hy:E.bC.bU y with|none=>simp[hy]at h|some v=>simp[hy]at h;subst h;exact aa y rfl v hy
theorem ZkT{f:Operand->Option (aA U)}:∀{l:List (Nat×Operand)}{ps:List (Nat×aA U)},l.mapM (λx=>(f x.2).map (x.1,·))=A ps->J l=J ps/\∀(j:Nat)x y,l[j]?=A x->ps[j]?=A y->x.1=y.1/\f x.2=A y.2|[],ps,h=>by grind|x::l,ps,h=>by rw[Xq]at h;cases h1:f x.2 with|none=>simp[h1]at h|some v=>cases h2:l.mapM (λx=>(f x.2).map (x.1,·))with|none=>grind|some r=>simp[h1,h2]at h;subst h;obtain⟨s,h4⟩:=ZkT h2;grind
theorem ZsB{f:Operand->Option (aA U)}:∀{l:List (Nat×Operand)}{ps:List (Nat×List (C U))},l.mapM (λx=>((f x.2).bind aA.cells).map (x.1,·))=A ps->J l=J ps/\∀(j:Nat)x y,l[j]?=A x->ps[j]?=A y->x.1=y.1/\∃v,f x.2=A v/\v.cells=A y.2:=by
 intro l ps h;have h':l.mapM (λx=>((λo=>(f o).bind aA.cells) x.2).map (x.1,·))=A ps:=h;generalize hg:(λo=>(f o).bind aA.cells)=F at h';have s:∀{l:List (Nat×Operand)}{ps:List (Nat×List (C U))},l.mapM (λx=>(F x.2).map (x.1,·))=A ps->J l=J ps/\∀(j:Nat)x y,l[j]?=A x->ps[j]?=A y->x.1=y.1/\F x.2=A y.2:=by intro l;induction l with|nil=>grind|cons x l ih=>
   intro ps h;rw[Xq]at h;cases h1:F x.2 with
   |none=>simp[h1]at h|some v=>cases h2:l.mapM (λx=>(F x.2).map (x.1,·))with|none=>grind|some r=>simp[h1,h2]at h;subst h;obtain⟨h3,h4⟩:=ih h2;refine⟨by simp[h3],λj y z hy hz=>?_⟩;cases j with|zero=>grind|succ j=>grind
 obtain⟨k1,k2⟩:=s h';refine⟨k1,λj x y hx hy=>?_⟩;obtain⟨k3,k4⟩:=k2 j x y hx hy;refine⟨k3,?_⟩;rw[<-hg]at k4;simp only at k4;cases hf:f x.2 with|none=>grind|some v=>grind
theorem b_.jd{m v k n}(h:b_ M m v (.int k n)):v=.int k n:=by cases h;rfl
theorem b_.gh{m v b}(h:b_ M m v (.bool b)):v=.bool b:=by cases h;rfl
theorem b_.kZ{m v}(h:b_ M m v .nilp):v=.pointer aT:=by cases h;rfl
theorem MY(ok:bS P M){t}(s:M.var t=A (I,[.nilp])):P.underlying t=A (.pointer (P.pointee t)):=by
 obtain⟨e,h⟩:=ok.ptr t s;have:P.pointee t=e:=by simp[Program.pointee,h]
 grind
theorem bind_some{α β:Type}{x}{f:α->Option β}{b}(h:x.bind f=A b):∃a,x=A a/\f a=A b:=by cases x with|none=>simp at h|some a=>grind
theorem WV(ok:bS P M){T o live v}(h:cB M g E.aZ live v (.c (.po T o)))(s:o.isSome=Y):cB M g E.aZ live v (.ep (M.enc T (o.getD (M.eg T)))):=by obtain⟨h1,_⟩:=h;cases o with|none=>cases s|some x=>cases h1 with|po _ _ b vs hm hs=>exact⟨b,rfl,λj c L=>⟨_,hm j c L,hs j c L,VS (ok.eK _ _ c (Xf L))⟩⟩
theorem Ng{Γ}(ok:bS P M)(hΓ:∀f s,Γ f=A s->aU P M f s)(h:cT M B E g a w){o}(ab:ZOL M E g a o){ps e}(he:xC M Γ o E.bC=A (ps,e))(am:eU ps):fJ P o a w λv w'=>∃g',gE M B E g e v w' g':=by
 have val:∀{s:Sem Value}{x:aA U},(∃r,s.run P w=.ok r w/\cB M g E.aZ (λnm=>(E.mem nm).isSome) r x)->execOp a.eval o=(do pure (.value (<-s)):Sem Next)->fJ P o a w λv w'=>∃g',gE M B E g {val:=A x} v w' g':=by rintro s x⟨r,h1,h2⟩h3;exact oX h (by simp_all) h2
 have al:∀{s:Sem Value}{x:C U},(∃r,s.run P w=.ok r w/\b_ M g.m r x/\∀cA aZ r,dY M cA aZ r x)->execOp a.eval o=(do pure (.value (<-s)):Sem Next)->fJ P o a w λv w'=>∃g',gE M B E g {val:=A (.c x)} v w' g':=by rintro s x⟨r,h1,h2,h3⟩h4;exact val ⟨r,h1,h2,h3 _ _ _⟩ h4
 obtain⟨dst,op,type,pos,after,guard⟩:=o;unfold ZOL at ab;cases op<;>simp only[xC,reduceCtorEq]at he;case move x=>
  obtain⟨v,h1,h2⟩:=bind_some he;have hr:=ab x (by simp[Op.operands]) v h1;split at h2<;>simp only[oP,reduceCtorEq]at h2;obtain⟨rfl,rfl⟩:=h2;exact oX h (by simp[execOp]) hr
 case assign x=>
  obtain⟨v,h1,h2⟩:=bind_some he;have hr:=ab x (by simp[Op.operands]) v h1;split at h2<;>simp only[oP,reduceCtorEq]at h2;obtain⟨rfl,rfl⟩:=h2;exact oX h (by simp[execOp]) hr
 case alloc t=>
  split at he
  .rename_i d ag zs hd hv;split at he;.cases he
   .rename_i hn;simp only[oP]at he;obtain⟨rfl,rfl⟩:=he;exact Ztv ok h rfl hv (by simpa[bY.bC]using hn)
  .cases he
 case box t x=>
  split at he
  .rename_i d ag zs cs hd hv a2;split at he;.cases he
   .rename_i hn;simp only[oP]at he;obtain⟨rfl,rfl⟩:=he;obtain⟨v,h1,h2⟩:=bind_some a2;simp only[K1,not_or]at hn;exact ZBl h rfl (ab x (by simp[Op.operands]) v h1) h2 (by simpa[bY.bC]using hn.1)
  .cases he
 case build t parts=>
  split at he;.rename_i zs be hv hm;cases hf:yd M t zs be with
   |none=>grind|some cs=>
    simp only[hf,Qv,oP]at he;obtain⟨rfl,rfl⟩:=he;obtain⟨h1,h2⟩:=ZsB hm;refine val (s:=Instr.build t (parts.map λx=>(x.1,a.eval x.2))) (Ztr ok hv (by simpa using h1) ?_ hf) (by rfl);intro j x y hx hy;rw[Array.getElem?_map]at hx;cases hj:parts[j]? with
    |none=>grind|some p=>
     simp[hj]at hx;subst hx;obtain⟨h3,v,h4,h5⟩:=h2 j p y (by simpa using hj) hy;refine⟨h3,(ab p.2 ?_ v h4).cells h5⟩;simp only[Op.operands];grind
  .cases he
 case buildSlice t n parts=>
  split at he
  .rename_i T be hT hm;split at he
   .rename_i hn;cases hf:uj M T 0 be with
    |none=>grind|some l=>
     simp only[hf,Qp]at he;obtain⟨h1,h2⟩:=ZkT hm;have a4:∀(j:Nat)x y,parts[j]?=A x->be[j]?=A y->x.1=y.1/\cB M g E.bC.aZ (λnm=>(E.bC.mem nm).isSome) (a.eval x.2) y.2:=by
      intro j x y hx hy;obtain⟨h3,h4⟩:=h2 j x y (by simpa using hx) hy;refine⟨h3,ab x.2 ?_ y.2 h4⟩;simp only[Op.operands];have:=Xf (l:=parts.toList) (i:=j) (by simpa using hx);simp;exact⟨x.1,by grind⟩
     cases hmu:E.bC.mu&&FW parts.toList with
     |false=>
      simp only[hmu,Xi,oP]at he;obtain⟨rfl,rfl⟩:=he;exact ZgB ok h rfl hT (by simpa using h1) hn.1 hn.2 a4 hf|true=>
      simp only[hmu,XE,Gt]at he;split at he
      .split at he
       .rename_i av;simp only[Q9,Xl,Xs]at av;simp only[oP]at he;obtain⟨rfl,rfl⟩:=he;exact Zfl ok h av.1 av.2 rfl hT (by simpa using h1) hn.1 hn.2 a4 hf
       .cases he
      .cases he
   .cases he
  .cases he
 case load t p=>
  split at he
  .rename_i ag zs u n aq hv hp;split at he
   .rename_i y hy;split at he;.rename_i bn;cases hr:l_ ag (((M.enc y.T (y.l.getD n (M.eg y.T))).drop aq).take (J zs))with
     |none=>grind|some v=>
      simp only[hr,Qv,oP]at he;obtain⟨rfl,rfl⟩:=he;exact val (ZAa ok h hv hy (ab p (by simp[Op.operands]) _ hp) bn hr) (by rfl)
    .cases he
   .cases he
  .rename_i ag zs T o hv hp;cases hr:rd E.bC (.ep (M.enc T (o.getD (M.eg T)))) ag (J zs)with
   |none=>grind|some v=>simp only[hr,Qv,oP]at he;obtain⟨rfl,rfl⟩:=he;exact val (TR ok h hv (WV ok (ab p (by simp[Op.operands]) _ hp) am.1) hr) (by rfl)
  .rename_i ag zs p' b1 bk hv hp;cases hr:rd E.bC p' ag (J zs)with
   |none=>grind|some v=>
    simp only[hr,Qv,oP]at he;obtain⟨rfl,rfl⟩:=he;exact val (TR ok h hv (ab p (by simp[Op.operands]) p' hp) hr) (by rfl)
  .cases he
 case store t p x=>
  split at he
  .rename_i ag zs nm aq new hv hp az;split at he
   .rename_i cs a2;split at he
    .rename_i hl;cases hs:JK cs aq new with
     |none=>grind|some cs'=>
      simp only[hs,Qv,oP]at he;obtain⟨rfl,rfl⟩:=he;obtain⟨v,h1,h2⟩:=bind_some az;exact ZgU ok h rfl hv (ab p (by simp[Op.operands]) _ hp) (ab x (by simp[Op.operands]) v h1) h2 a2 hl hs
    .cases he
   .cases he
  .rename_i ag zs u n aq new hv hp az;split at he
   .rename_i y hy;split at he
    .rename_i hl;split at he
     .rename_i e' bw;simp only[oP]at he;obtain⟨rfl,rfl⟩:=he;obtain⟨v,h1,h2⟩:=bind_some az;exact ZnU ok h rfl hv (ab p (by simp[Op.operands]) _ hp) (ab x (by simp[Op.operands]) v h1) h2 hy hl am.1 bw
     .cases he
    .cases he
   .cases he
  .rename_i ag zs nm aq k len n k' y hv hp az;split at he
   .rename_i cs a2;split at he
    .rename_i L;obtain⟨bn,hk,hz⟩:=L;subst hk;split at he
     .rename_i l hl;simp only[oP]at he;obtain⟨rfl,rfl⟩:=he;obtain⟨v,h1,h2⟩:=bind_some az;exact Zje ok h rfl hv (ab p (by simp[Op.operands]) _ hp) (ab x (by simp[Op.operands]) v h1) h2 a2 hz bn hl
     .cases he
    .cases he
   .cases he
  .cases he
 case nilCheck x=>
  split at he<;>try simp only[oP,reduceCtorEq]at he
  .rename_i nm aq hx;obtain⟨rfl,rfl⟩:=he;have hr:=ab x (by simp[Op.operands]) _ hx;have h2:=hr.2;exact oX h (by simp[execOp,h2]) hr
  .rename_i cs hx;obtain⟨rfl,rfl⟩:=he;have hr:=ab x (by simp[Op.operands]) _ hx;obtain⟨b,h2,_⟩:=id hr;exact oX h (by simp[execOp,h2]) hr
  .rename_i u n aq hx;split at he<;>simp only[oP,reduceCtorEq]at he;rename_i hs;obtain⟨rfl,rfl⟩:=he;have hr:=ab x (by simp[Op.operands]) _ hx;obtain⟨y,hy⟩:=QL.1 hs;obtain⟨b,len,cf,_,h2,_⟩:=Oj h hy hr;exact oX h (by simp[execOp,h2]) hr
  .rename_i T o hx;obtain⟨rfl,rfl⟩:=he;have hr:=ab x (by simp[Op.operands]) _ hx;obtain⟨b,h2,_⟩:=WV (live:=λnm=>(E.mem nm).isSome) ok hr am.1;exact oX h (by simp[execOp,h2]) hr
 case binOp bop t x y t'=>
  split at he
  .rename_i p q hx hy;split at he;.rename_i b0 hv;cases hb:HV (U:=U) bop p q with
    |none=>grind|some c=>
     simp only[hb,Qv,oP]at he;obtain⟨rfl,rfl⟩:=he;have h1:b_ M g.m (a.eval x) (.bool p):=(ab x (by simp[Op.operands]) _ hx).1;have h2:b_ M g.m (a.eval y) (.bool q):=(ab y (by simp[Op.operands]) _ hy).1;have e1:a.eval x=.bool p:=h1.gh;have e2:a.eval y=.bool q:=h2.gh;refine al (s:=do eqGuard bop t x y (.bool p) (.bool q);binOp bop t (.bool p) (.bool q)) (Ztw ok hv hb) ?_;simp[execOp,e1,e2]
   .cases he
  .rename_i T l tl hx hy;have h1:b_ M g.m (a.eval x) (.slice T l tl):=(ab x (by simp[Op.operands]) _ hx).1;have h2:b_ M g.m (a.eval y) (.nils:C U):=(ab y (by simp[Op.operands]) _ hy).1;have e2:a.eval y=.slice aT 0 0:=by generalize a.eval y=u at h2;cases h2;try rfl
   have ba:∃(ao:Option Addr)(n c:Nat),a.eval x=.slice ao n c/\(ao.isNone=Y->l=[]):=by generalize a.eval x=u at h1;cases h1 with|fa=>grind|slice _ _ _ b len cf vs=>grind
   obtain⟨ao,n,c,e1,hn⟩:=ba;split at he<;>simp only[oP,reduceCtorEq]at he;.rename_i aE hS;obtain⟨rfl,rfl⟩:=he;refine oX (v:=.bool ao.isNone) h ?_ ⟨_,rfl,hn,λ_=>trivial⟩;simp[execOp,e1,e2,eqGuard,Lib.run_eql_slice_nil w t _ ao n c 0 0 (ok.sl t aE hS)]
   .rename_i aE hS;obtain⟨rfl,rfl⟩:=he;refine oX (v:=.bool !ao.isNone) h ?_ ⟨_,rfl,λ_=>trivial,λhf=>hn (by simpa using hf)⟩;simp[execOp,e1,e2,eqGuard,run_neq_slice_nil_any w t _ ao n c 0 0 (ok.sl t aE hS)]
  .rename_i T o hx hy;have h1:b_ M g.m (a.eval x) (.po T o):=(ab x (by simp[Op.operands]) _ hx).1;have h2:b_ M g.m (a.eval y) (.nilp:C U):=(ab y (by simp[Op.operands]) _ hy).1;have e2:a.eval y=.pointer aT:=by
    generalize a.eval y=u at h2;cases h2;try rfl
   have ba:∃ao:Option Addr,a.eval x=.pointer ao/\ao.isNone=o.isNone:=by generalize a.eval x=u at h1;cases h1 with
    |m7=>grind|po _ y b vs=>grind
   obtain⟨ao,e1,hn⟩:=ba;have bx:∀z,M.var t=A (I,z)->z=[.nilp]->P.underlying t=A (.pointer (P.pointee t)):=by
    rintro z hz rfl;obtain⟨e,he⟩:=ok.ptr t hz;have:P.pointee t=e:=by simp[Program.pointee,he]
    rw[this];exact he
   split at he<;>simp only[oP,reduceCtorEq]at he
   .rename_i hv;obtain⟨rfl,rfl⟩:=he;refine al (s:=binOp .eql t (.pointer ao) (.pointer aT)) ⟨_,run_eql_pointer_nil _ t ao (bx _ hv rfl),?_,λ_ _ _=>trivial⟩ (by simp[execOp,e1,e2,eqGuard]);rw[hn];exact .bool _
   .rename_i hv;obtain⟨rfl,rfl⟩:=he;refine al (s:=binOp .neq t (.pointer ao) (.pointer aT)) ⟨_,run_neq_pointer_nil _ t ao (bx _ hv rfl),?_,λ_ _ _=>trivial⟩ (by simp[execOp,e1,e2,eqGuard]);rw[hn];cases o<;>exact .bool _
  .rename_i nm aq hx hy;have e1:a.eval x=.pointer (A ((g.ad nm).add aq)):=(ab x (by simp[Op.operands]) _ hx).2;have h2:b_ M g.m (a.eval y) (.nilp:C U):=(ab y (by simp[Op.operands]) _ hy).1;have e2:=h2.kZ;split at he<;>simp only[oP,reduceCtorEq]at he;.rename_i hv;obtain⟨rfl,rfl⟩:=he;exact al (s:=binOp .eql t (.pointer (A ((g.ad nm).add aq))) (.pointer aT)) ⟨_,run_eql_pointer_nil _ t _ (MY ok hv),.bool _,λ_ _ _=>trivial⟩ (by simp[execOp,e1,e2,eqGuard])
   .rename_i hv;obtain⟨rfl,rfl⟩:=he;exact al (s:=binOp .neq t (.pointer (A ((g.ad nm).add aq))) (.pointer aT)) ⟨_,run_neq_pointer_nil _ t _ (MY ok hv),.bool _,λ_ _ _=>trivial⟩ (by simp[execOp,e1,e2,eqGuard])
  .rename_i hx hy;have h1:b_ M g.m (a.eval x) (.nilp:C U):=(ab x (by simp[Op.operands]) _ hx).1;have h2:b_ M g.m (a.eval y) (.nilp:C U):=(ab y (by simp[Op.operands]) _ hy).1;have e1:=h1.kZ;have e2:=h2.kZ;split at he<;>simp only[oP,reduceCtorEq]at he;.rename_i hv;obtain⟨rfl,rfl⟩:=he;exact al (s:=binOp .eql t (.pointer aT) (.pointer aT)) ⟨_,run_eql_pointer_nil _ t aT (MY ok hv),.bool _,λ_ _ _=>trivial⟩ (by simp[execOp,e1,e2,eqGuard])
   .rename_i hv;obtain⟨rfl,rfl⟩:=he;exact al (s:=binOp .neq t (.pointer aT) (.pointer aT)) ⟨_,run_neq_pointer_nil _ t aT (MY ok hv),.bool _,λ_ _ _=>trivial⟩ (by simp[execOp,e1,e2,eqGuard])
  .rename_i p q cw bk cu cr hx hy;cases hb:FG Γ.wr bop p q with|none=>simp[hb,ti]at he|some r=>obtain⟨qs,c⟩:=r;simp only[hb,ti,Qv,oP]at he;obtain⟨rfl,rfl⟩:=he;have h1:=(ab x (by simp[Op.operands]) _ hx).1;have h2:=(ab y (by simp[Op.operands]) _ hy).1;exact al (Zwn (p:=x) (q:=y) (t:=t) h1 h2 hb am) (by rfl)
  .rename_i as bs hx hy;have h1:=ab x (by simp[Op.operands]) _ hx;have h2:=ab y (by simp[Op.operands]) _ hy;split at he
   .rename_i r ag zs ht hr hz;split at he
    .rename_i hl;simp only[oP]at he;obtain⟨rfl,rfl⟩:=he;exact al ⟨_,(ZhP (w:=w) (p:=x) (q:=y) ok ht h1 h2 hr hz hl).1,.bool _,λ_ _ _=>trivial⟩ (by rfl)
    .cases he
   .rename_i r ag zs ht hr hz;split at he
    .rename_i hl;simp only[oP]at he;obtain⟨rfl,rfl⟩:=he;exact al ⟨_,(ZhP (w:=w) (p:=x) (q:=y) ok ht h1 h2 hr hz hl).2,.bool _,λ_ _ _=>trivial⟩ (by rfl)
    .cases he
   .cases he
  .cases he
 case unOp uop t x=>
  split at he;.rename_i p hx;cases hb:NV Γ.wr uop p with
   |none=>simp[hb,ti]at he|some r=>
    obtain⟨qs,c⟩:=r;simp only[hb,ti,Qv,oP]at he;obtain⟨rfl,rfl⟩:=he;exact al (ZBs (ab x (by simp[Op.operands]) _ hx).1 hb am) (by rfl)
  .cases he
 case convert src dst' x=>
  split at he
  .rename_i k1 n1 k n0 k2 n hs hd hx;simp only[oP]at he;obtain⟨rfl,rfl⟩:=he;have h1:b_ M g.m (a.eval x) (.int k2 n):=(ab x (by simp[Op.operands]) _ hx).1;have e1:a.eval x=.int k2 n:=h1.jd;obtain⟨_,i,z,d,q1,q2,q3,q4,q5,q6,q7,_⟩:=ok.var _ _ _ hs;obtain⟨_,i',z',d',r1,r2,r3,r4,r5,r6,r7,_⟩:=ok.var _ _ _ hd;have b9:=r7 rfl k n0 rfl;subst b9;refine al (s:=convert src dst' (a.eval x)) ⟨.int k (k.wrap n),?_,.int _ _,λ_ _ _=>trivial⟩ (by rfl);rw[e1];simp[convert,run_underlying q2,run_underlying r2,Conv.intToInt]
  .cases he
 case slice t x lo hi mx=>
  split at he
  .rename_i nm aq hx a8 a7 a9;split at he
   .rename_i len et T cs ha hT a2;split at he
    .rename_i L;obtain⟨rfl,bu,co,cl⟩:=L;split at he
     .rename_i l hl;simp only[oP]at he;obtain⟨rfl,rfl⟩:=he;have nn:∀{y:Option Operand},iH E.bC y=A aT->y=aT:=by intro y hy;cases y with|none=>rfl|some z=>simp[iH]at hy
      have e1:=nn a8;have e2:=nn a7;have e3:=nn a9;subst e1 e2 e3;exact Zjl ok h rfl ha cl (ab x (by simp[Op.operands]) _ hx) a2 bu co hl
     .cases he
    .cases he
   .cases he
  .rename_i u k n hx a8 a7 a9;split at he
   .rename_i aE y hS hy;split at he
    .rename_i bb _;subst bb;rw[cond_eq_ite]at he;split at he
     .simp only[oP]at he;obtain⟨rfl,rfl⟩:=he;have nn:∀{y:Option Operand},iH E.bC y=A aT->y=aT:=by intro y hy;cases y with|none=>rfl|some z=>simp[iH]at hy
      have e2:=nn a7;have e3:=nn a9;subst e2 e3;cases lo with|none=>grind|some lo=>
       have hl:E.bC.bU lo=A (.c (.int k n)):=by simpa[iH]using a8
       have h1:b_ M g.m (a.eval lo) (.int k n):=(ab lo (by simp[Op.operands]) _ hl).1;obtain⟨r,h2,h3⟩:=ZoE (k:=k) (live:=λnm=>(E.mem nm).isSome) ok h hS hy (ab x (by simp[Op.operands]) _ hx) am.1;exact val ⟨r,h2,h3⟩ (by simp[execOp,h1.jd])
     .cases he
    .cases he
   .cases he
  .rename_i x' ca cg ce _ hx a8 a7 a9;cases hb:Gj M t x' ca cg ce with
   |none=>simp[hb,ti]at he|some r=>
    obtain⟨qs,c⟩:=r;simp only[hb,ti,Qv,oP]at he;obtain⟨rfl,rfl⟩:=he;have a5:=ab x (by simp[Op.operands]) _ hx;obtain⟨r,h1,h2⟩:=ZqY (w:=w) (live:=λnm=>(E.mem nm).isSome) ok a5 (R6 (a:=a) a8 λy hy=>ab y (by simp[Op.operands,hy])) (R6 (a:=a) a7 λy hy=>ab y (by simp[Op.operands,hy])) (R6 (a:=a) a9 λy hy=>ab y (by simp[Op.operands,hy])) hb am;exact val (x:=.c c) ⟨r,h1,h2⟩ (by rfl)
  .cases he
 case fieldAddr t x f=>
  split at he
  .rename_i u n o' aq ft hx hf;split at he
   .rename_i z hz;split at he
    .rename_i hs;simp only[oP]at he;obtain⟨rfl,rfl⟩:=he;obtain⟨y,hy⟩:=QL.1 hs;exact val (Zgz ok hf hz h hy (ab x (by simp[Op.operands]) _ hx)) (by rfl)
    .cases he
   .cases he
  .rename_i T o aq ft hx hf;split at he
   .rename_i ag zs hv;cases hp:yw (.ep (M.enc T (o.getD (M.eg T)))) aq (J zs)with
    |none=>grind|some v=>simp only[hp,Qv,oP]at he;obtain⟨rfl,rfl⟩:=he;exact val (Z8J ok hf hv (WV ok (ab x (by simp[Op.operands]) _ hx) am.1) hp) (by rfl)
   .cases he
  .rename_i p aq ft b1 bk hx hf;split at he;.rename_i ag zs hv;cases hp:yw p aq (J zs)with|none=>grind|some v=>
     simp only[hp,Qv,oP]at he;obtain⟨rfl,rfl⟩:=he;exact val (Z8J ok hf hv (ab x (by simp[Op.operands]) _ hx) hp) (by rfl)
   .cases he
  .cases he
 case indexAddr t x i=>
  split at he
  .rename_i T l tl k n hx hi;split at he
   .rename_i aE hS;split at he
    .rename_i bb _;simp only[oP]at he;obtain⟨rfl,rfl⟩:=he;subst bb;have h1:b_ M g.m (a.eval i) (.int k n):=(ab i (by simp[Op.operands]) _ hi).1;have e1:a.eval i=.int k n:=h1.jd;refine val (Zi3 (k:=k) ok hS (ab x (by simp[Op.operands]) _ hx) am.1) ?_;simp[execOp,e1]
    .cases he
   .cases he
  .rename_i u k n hx hi;split at he
   .rename_i aE y hS hy;split at he
    .rename_i bb _;simp only[oP]at he;obtain⟨rfl,rfl⟩:=he;subst bb;have h1:b_ M g.m (a.eval i) (.int k n):=(ab i (by simp[Op.operands]) _ hi).1;have e1:a.eval i=.int k n:=h1.jd;refine val (Zgn (k:=k) ok h hS hy (ab x (by simp[Op.operands]) _ hx) am.1) ?_;simp[execOp,e1]
    .cases he
   .cases he
  .rename_i nm aq k n hx hi;split at he
   .rename_i len et ha;split at he
    .rename_i k0 n0 hv;simp only[oP]at he;obtain⟨rfl,rfl⟩:=he;have h1:b_ M g.m (a.eval i) (.int k n):=(ab i (by simp[Op.operands]) _ hi).1;have e1:a.eval i=.int k n:=h1.jd;refine val (Zl7 (k:=k) ok ha hv (ab x (by simp[Op.operands]) _ hx) am.1) ?_;simp[execOp,e1]
    .rename_i ag zs b1 hv;split at he
     .rename_i hn;simp only[oP]at he;obtain⟨rfl,rfl⟩:=he;have h1:b_ M g.m (a.eval i) (.int k n):=(ab i (by simp[Op.operands]) _ hi).1;have e1:a.eval i=.int k n:=h1.jd;refine val (Z4u (k:=k) ok ha hv (ab x (by simp[Op.operands]) _ hx) hn) ?_;simp[execOp,e1]
     .cases he
    .cases he
   .cases he
  .cases he
 case extract x i=>
  split at he
  .rename_i vs hx;split at he
   .rename_i ag cs hi;cases hp:l_ ag cs with
    |none=>grind|some v=>
     simp only[hp,Qv,oP]at he;obtain⟨rfl,rfl⟩:=he;exact val (ZlR (ab x (by simp[Op.operands]) _ hx) hi hp) (by rfl)
   .cases he
  .cases he
 case call c=>
  unfold VY at he;split at he
  .rename_i b hb;unfold TJ at he;have bo:execOp a.eval {dst,op:=.call c,type,pos,after,guard}=builtin b c.argTypes type (c.args.map λ|.const _=>Y|_=>I) (c.args.map a.eval):=by simp only[execOp,resolve,hb];try rfl
   split at he
   .rename_i x t ak bc;have e1:c.args=#[x]:=by apply XG;simpa using ak
    have e2:c.argTypes=#[t]:=by apply XG;simpa using bc
    split at he
    .rename_i v hx;cases hl:lenOf M E.bC t v with
     |none=>grind|some cc=>
      simp only[hl,Qv,oP]at he;obtain⟨rfl,rfl⟩:=he;have hr:=ab x (by simp[Op.operands,Call.operands,hb,e1]) v hx;obtain⟨r,h1,h2⟩:=ZAM (w:=w) (ty:=type) ok h hr (show lenOf M E t v=A cc from hl);refine val (x:=.c cc) ⟨r,h1,h2⟩ ?_;rw[bo,e1,e2];simp[builtin]
    .cases he
   .rename_i x y t t' ak bc;have e1:c.args=#[x,y]:=by apply XG;simpa using ak
    have e2:c.argTypes=#[t,t']:=by apply XG;simpa using bc
    split at he
    .rename_i d cx cy hd hx hy;split at he
     .rename_i cb;subst cb;have a5:=ab x (by simp[Op.operands,Call.operands,hb,e1]) _ hx;have b2:=ab y (by simp[Op.operands,Call.operands,hb,e1]) _ hy;obtain⟨callee,args,argTypes⟩:=c;simp only at hb e1 e2;subst hb e1 e2;rw[cond_eq_ite]at he;split at he;.exact ZlW ok h rfl a5 b2 he am
      .exact ZqX ok h rfl a5 b2 he am
     .cases he
    .cases he
   .rename_i x t ak bc;have e1:c.args=#[x]:=by apply XG;simpa using ak
    have e2:c.argTypes=#[t]:=by apply XG;simpa using bc
    split at he;.rename_i u n hx;have a5:=ab x (by simp[Op.operands,Call.operands,hb,e1]) _ hx;obtain⟨callee,args,argTypes⟩:=c;simp only at hb e1 e2;subst hb e1 e2;exact Zto ok h rfl a5 he am
    .cases he
   .rename_i x y ak;have e1:c.args=#[x,y]:=by apply XG;simpa using ak
    split at he
    .rename_i cx cy hx hy;cases hl:A0 I cx cy with
     |none=>grind|some cc=>
      simp only[hl,Qv,oP]at he;obtain⟨rfl,rfl⟩:=he;obtain⟨r,h1,h2⟩:=Zem (P:=P) (w:=w) (ts:=c.argTypes) (ty:=type) (ab x (by simp[Op.operands,Call.operands,hb,e1]) _ hx) (ab y (by simp[Op.operands,Call.operands,hb,e1]) _ hy) hl;refine val (x:=.c cc) ⟨r,h1,h2⟩ ?_;rw[bo,e1];simp[builtin]
    .cases he
   .rename_i x y ak;have e1:c.args=#[x,y]:=by apply XG;simpa using ak
    split at he
    .rename_i cx cy hx hy;cases hl:A0 Y cx cy with
     |none=>grind|some cc=>
      simp only[hl,Qv,oP]at he;obtain⟨rfl,rfl⟩:=he;obtain⟨r,h1,h2⟩:=Zem (P:=P) (w:=w) (ts:=c.argTypes) (ty:=type) (ab x (by simp[Op.operands,Call.operands,hb,e1]) _ hx) (ab y (by simp[Op.operands,Call.operands,hb,e1]) _ hy) hl;refine val (x:=.c cc) ⟨r,h1,h2⟩ ?_;rw[bo,e1];simp[builtin]
    .cases he
   .cases he
  .rename_i gx hg;split at he
   .rename_i f vs hf bp;have av:a.eval gx=.func (.func f) #[] #[]:=ab gx (by simp[Op.operands,Call.operands,hg]) _ hf;obtain⟨m1,m2⟩:=ZmT (E:=E.bC) (M:=M) (g:=g) (a:=a) bp λx hx v hv=>ab x (by simp[Op.operands,Call.operands,hg];right;simpa using hx) v hv;rw[cond_eq_ite]at he;split at he
    .have e:zv Γ E.bC f vs=zv Γ E f vs:=rfl;rw[e]at he;exact Zvz hΓ h rfl hg av ⟨by simpa using m1,λj u x hu hx=>m2 j u x (by simpa using hu) hx⟩ he am
    split at he
    .rename_i r hr;cases he;rw[cond_eq_ite]at hr;split at hr;.have e:∀d,zu Γ E.bC d f vs=zu Γ E d f vs:=λd=>rfl;rw[e]at hr;exact ZAt hΓ h rfl hg av ⟨by simpa using m1,λj u x hu hx=>m2 j u x (by simpa using hu) hx⟩ hr am
     .cases hr
    rw[ZhX]at he;exact Zlq hΓ h rfl hg (caps:=[]) av ⟨by simpa using m1,λj u x hu hx=>m2 j u x (by simpa using hu) hx⟩ he am
   .rename_i f ay vs hf bp;rw[ZhX]at he;have av:=ab gx (by simp[Op.operands,Call.operands,hg]) _ hf;obtain⟨m1,m2⟩:=ZmT (E:=E.bC) (M:=M) (g:=g) (a:=a) bp λx hx v hv=>ab x (by simp[Op.operands,Call.operands,hg];right;simpa using hx) v hv;refine Zlq hΓ h rfl hg (caps:=ay.map λnm=>Value.pointer (A (g.ad nm))) av.2 ⟨by simp[<-m1],λj u x hu hx=>?_⟩ he am;rw[X8]at hu hx;split at hu;.rename_i c4;rw[Q5 O]at hx;exact m2 j u x hu hx
    .rename_i c2;rw[Q0 O]at hx;rw[<-m1]at hx;rw[QQ]at hu hx;cases hnm:ay[j-J (List.map a.eval c.args.toList)]? with|none=>grind|some nm=>
      rw[hnm]at hu hx;cases hu;cases hx;exact⟨av.1 nm (Xf hnm),by rfl⟩
   .cases he
  .cases he
 case makeFunc fn first caps=>
  split at he
  .rename_i f ay cj hm;simp only[oP]at he;obtain⟨rfl,rfl⟩:=he;have bj:first=#[]:=by apply XG;simpa using cj
   have ba:∀(l:List Operand)(ay:List Name),(∀x∈l,x∈caps.toList)->l.mapM (λx=>(E.bC.bU x).bind zL)=A ay->l.map a.eval=ay.map (λnm=>Value.pointer (A (g.ad nm)))/\∀nm∈ay,((E.mem nm).isSome||nm.nI)=Y:=by intro l;induction l with|nil=>grind|cons x l ih=>
     intro ay hl hm;rw[Xq]at hm;cases h1:(E.bC.bU x).bind zL with
     |none=>grind|some nm=>cases h2:l.mapM λx=>(E.bC.bU x).bind zL with
      |none=>grind|some r=>
       simp[h1,h2]at hm;subst hm;obtain⟨h3,h4⟩:=ih r (λy hy=>hl y (by simp[hy])) h2;obtain⟨v,h5,h6⟩:=bind_some h1;have h7:=ab x (by
        have:=hl x (by simp);simp only[Op.operands];grind) v h5;unfold zL at h6;split at h6;.cases h6;obtain⟨h8,h9⟩:=h7;rw[Addr.add_zero']at h9;grind
       .cases h6
   obtain⟨k1,k2⟩:=ba caps.toList ay (λx hx=>hx) hm;refine oX (v:=.func (.func f) #[] (caps.map a.eval)) h ?_ ⟨k2,?_⟩;.simp[execOp,Instr.makeFunc,bj]
   .congr 1;grind
  .cases he
def Wr(M:cW U)(g:Gh)(t:bL)(x:LC U)(c:Addr):Prop:=∃b len cap,g.bs t=A (.slice (A b) len cap,M.sz x.T)/\∃j,x.f*M.sz x.T<=j/\j<len*M.sz x.T/\c=b.add j
open Classical in noncomputable def Gh.cR(g:Gh)(w:World)(R:Addr->Prop)(t:bL):Gh:=
 {m:=λc=>if R c then w.cell? c else g.m c
  cA:=λc=>if R c then aT else g.cA c
  ad:=g.ad
  bs:=λu=>if u=t then aT else g.bs u}
theorem SO(ok:bS P M){t x}(hL:gB M w g t x){c}(L:Wr M g t x c):g.cA c=A (.dW t)/\∃v,w.cell? c=A v:=by
 obtain⟨b,len,ae,h1,j,h2,h3,rfl⟩:=L;rcases hL with⟨e1,_⟩|⟨b',len',cap',e1,e2,e3,e4,e5,e6⟩;.grind
 .rw[h1]at e1;cases e1;have h:=ok.gR x.T;have hi:j/M.sz x.T<J x.l:=by rw[e2];exact XT (by grind)
  have s:j%M.sz x.T<J (M.enc x.T x.l[j/M.sz x.T]):=by rw[ok.cL];exact KC _ h
  obtain⟨v,e7,_,_,e8⟩:=e5 _ _ (Q8 hi) _ _ (Q8 s);have e:j/M.sz x.T*M.sz x.T+j%M.sz x.T=j:=by rw[Kf];exact Kc _ _
  rw[e]at e7 e8;exact⟨e8 ((Kz h).2 h2),v,e7⟩
section gC
variable{t:bL}{x:LC U}
theorem De(ok:bS P M)(h:cT M B E g a w)(hL:gB M w g t x):∀c v,g.m c=A v->(g.cR w (Wr M g t x) t).m c=A v:=by
 intro c v s;simp only[Gh.cR];rw[Q0];.exact s
 .intro L;have:=(SO ok hL L).1;rw[(h.cN.im c v s).2]at this;cases this
theorem MG(ok:bS P M)(h:gB M w g t x){c t'}(s:t'≠.dW t):g.cA c=A t'↔(g.cR w (Wr M g t x) t).cA c=A t':=by
 simp only[Gh.cR];split;.rename_i L;rw[(SO ok h L).1];grind
 grind
theorem ZdD(ok:bS P M)(h:cT M B E g a w)(hL:gB M w g t x){b len cap}(ae:g.bs t=A (.slice (A b) len cap,M.sz x.T)):J x.l=len/\len<=cap/\(∀i y,x.l[i]?=A y->∀j c,(M.enc x.T y)[j]?=A c->∃v,(g.cR w (Wr M g t x) t).m (b.add (i*M.sz x.T+j))=A v/\b_ M (g.cR w (Wr M g t x) t).m v c)/\∀j,len*M.sz x.T<=j->j<cap*M.sz x.T->(g.cR w (Wr M g t x) t).cA (b.add j)=A (.dW t):=by
 rcases hL with⟨e1,_⟩|⟨b',len',cap',e1,e2,e3,e4,e5,e6⟩;.grind
 have s:gB M w g t x:=.inr ⟨b',len',cap',e1,e2,e3,e4,e5,e6⟩;have e0:=e1;rw[ae]at e0;cases e0;refine⟨e2,e3,λi y hy j c L=>?_,λj a1 a2=>?_⟩
 .obtain⟨u,e7,e8,e9,ar⟩:=e5 i y hy j c L;refine⟨u,?_,e8.mono (De ok h s)⟩;rcases K5 i x.f with hi|hi;.exact De ok h s _ _ (e9 hi)
  .have hj:j<M.sz x.T:=by have:=(Qc.1 L).1;rw[ok.cL]at this;exact this
   have aa:i<len:=by have:=(Qc.1 hy).1;omega
   have h1:x.f*M.sz x.T<=i*M.sz x.T:=Qx _ hi;have h2:(i+1)*M.sz x.T<=len*M.sz x.T:=Qx _ aa;rw[Xj]at h2;simp only[Gh.cR];rw[Q5 ⟨b,len,cap,e1,_,O,O,rfl⟩];exact e7
 .simp only[Gh.cR];rw[Q0];.grind
  .rintro⟨b2,aj,af,h1,j2,h2,h3,h4⟩;rw[e1]at h1;cases h1;have:=rY h4;omega
theorem DW(ok:bS P M)(h:cT M B E g a w)(hd:E.aZ t=I)(hL:gB M w g t x){v c}(hr:cH M g E.aZ v c):cH M (g.cR w (Wr M g t x) t) E.aZ v (c.gC t x):=by have hm:=De ok h hL;cases c with
 |slice T l tl=>cases tl with
  |bA=>exact⟨hr.1.mono hm,trivial⟩|cU=>exact⟨hr.1.mono hm,hr.2⟩|bF u=>
   simp only[C.gC];split;.exact⟨(hr.1.tl _).mono hm,trivial⟩
   .rename_i aj;exact⟨hr.1.mono hm,λae b len af hv j h1 h2=>(MG ok hL λe=>by grind).1 (hr.2 ae b len af hv j h1 h2)⟩
 |mref u=>
  simp only[C.gC];split
  .rename_i e;subst e;obtain⟨s,hs⟩:=hr.2 hd;rcases hL with⟨e1,e2,e3⟩|⟨b',len',cap',e1,e2⟩;.rw[hs]at e1;cases e1;obtain⟨T,l,f⟩:=x;simp only at e2;subst e2;exact⟨.fa T _,λ_ b len af hv=>by cases hv⟩
   .have al:gB M w g u x:=.inr ⟨b',len',cap',e1,e2⟩;obtain⟨r1,r2,r3,r4⟩:=ZdD ok h al e1;rw[hs]at e1;cases e1;refine⟨.fS _ r1 r2 r3,λ_ b len af hv j h1 h2=>?_⟩;grind
  .rename_i aj;refine⟨.mref _ _ hr.1.cE,λae=>?_⟩;obtain⟨s,hs⟩:=hr.2 ae;refine⟨s,?_⟩;simp only[Gh.cR];grind|jk=>exact⟨.jk _ hr.1.cE,trivial⟩|xp k=>exact⟨.xp _ _ hr.1.cE,hr.2⟩|int k n=>exact⟨hr.1.mono hm,trivial⟩|bool b=>exact⟨hr.1.mono hm,trivial⟩|nils=>exact⟨hr.1.mono hm,trivial⟩|nilp=>exact⟨hr.1.mono hm,trivial⟩|po T o=>exact⟨hr.1.mono hm,trivial⟩
theorem ZVk(ok:bS P M)(h:cT M B E g a w)(hd:E.aZ t=I)(hL:gB M w g t x){vs cs}(s:dJ M g E.aZ vs cs):dJ M (g.cR w (Wr M g t x) t) E.aZ vs (cs.map (C.gC t x)):=by refine⟨by simp[s.1],λj v c hv L=>?_⟩;rw[QQ]at L;cases hj:cs[j]? with|none=>grind|some c0=>simp[hj]at L;subst L;exact DW ok h hd hL (s.2 j v c0 hv hj)
theorem ZVj(ok:bS P M)(h:cT M B E g a w)(hd:E.aZ t=I)(hL:gB M w g t x){live v}:∀{y},cB M g E.aZ live v y->cB M (g.cR w (Wr M g t x) t) E.aZ live v (y.gC M t x)
 |.c y,hr=>DW ok h hd hL (c:=y) hr|.agg cs,hr=>by obtain⟨vs,h1,h2⟩:=hr;exact⟨vs,h1,ZVk ok h hd hL h2⟩|.tup ws,hr=>by
  obtain⟨vs,h1,h2,h3⟩:=hr;refine⟨vs,h1,by simp[h2],λj u y hu hy=>?_⟩;rw[QQ]at hy;cases hj:ws[j]? with
  |none=>grind|some w0=>
   simp[hj]at hy;subst hy;have:=h3 j u w0 hu hj;obtain⟨ag,cs⟩:=w0;cases ag with
   |true=>obtain⟨vs,h4,h5⟩:=this;exact⟨vs,h4,ZVk ok h hd hL h5⟩|false=>obtain⟨c,h4,h5⟩:=this;simp only at h4;subst h4;exact⟨_,rfl,DW ok h hd hL h5⟩
 |.ptr _ _,hr=>hr|.ap ..,hr=>hr|.ep cs,hr=>by
  obtain⟨b,h1,h2⟩:=hr;refine⟨b,h1,λj c L=>?_⟩;rw[QQ]at L;cases hj:cs[j]? with|none=>grind|some c0=>
   simp[hj]at L;subst L;obtain⟨u,h3,h4⟩:=h2 j c0 hj;exact⟨u,De ok h hL _ _ h3,DW ok h hd hL h4⟩
 |.mp u n off,hr=>by
  simp only[aA.gC];split
  .rename_i e;subst e;obtain⟨b,len,af,s,h1,h2,rfl⟩:=hr hd;have hs:s=M.sz x.T:=by
    rcases hL with⟨e1,_⟩|⟨b',len',cap',e1,_⟩<;>rw[h1]at e1<;>cases e1;try rfl
   subst hs;obtain⟨r1,r2,r3,r4⟩:=ZdD ok h hL h1;refine⟨_,rfl,λj c L=>?_⟩;rw[QY]at L;have aq:x.l[n]?=A (aR x.l n (M.eg x.T)):=by simp[List.getD,Q8 (show n<J x.l by omega)]
   obtain⟨u',h5,h6⟩:=r3 n _ aq _ c L;rw[Go.Deep.add_add,show n*M.sz x.T+off+j=n*M.sz x.T+(off+j)by omega];exact⟨u',h5,h6,VS (ok.eK _ _ c (Xf L))⟩
  .rename_i am;intro ah;obtain⟨b,len,af,s,h1,h2,h3⟩:=hr ah;refine⟨b,len,af,s,?_,h2,h3⟩;simp only[Gh.cR];grind|.vw u n,hr=>by
  simp only[aA.gC];split;.trivial
  .rename_i am;intro ah;obtain⟨b,len,af,s,h1,h2,h3⟩:=hr ah;refine⟨b,len,af,s,?_,h2,h3⟩;simp only[Gh.cR];grind|.fn _,hr=>hr|.clo _ _,hr=>hr|.gd b y,hr=>⟨λhb=>ZVj ok h hd hL (hr.1 hb),hr.2⟩|.nb _ _,hr=>hr|.cY,_=>trivial
theorem ZKw(ok:bS P M)(h:cT M B E g a w)(t):∃g',cT M B (E.q_ M t) g' a w:=by
 unfold bY.q_;cases hx:E.ls t with
 |none=>grind|some x=>
  obtain⟨hd,hL⟩:=h.ls t x hx;have hm:=De ok h hL;refine⟨g.cR w (Wr M g t x) t,⟨λc v hv=>?_,λc t' ht=>?_⟩,?_,λk=>?_,λnm cs hn j c L=>?_,h.sz,h.df,λu y hy=>?_,λu hu s h2=>?_⟩
  .by_cases L:Wr M g t x c
   .simp only[Gh.cR]at hv⊢;grind
   .simp only[Gh.cR]at hv⊢;rw[Q0 L]at hv⊢;exact h.cN.im c v hv
  .simp only[Gh.cR]at ht;split at ht;.cases ht
   .exact h.cN.it c t' ht
  .refine h.fr.step h.cN (jG.refl w λ_=>False) (λc L=>L.elim) hm (λc t'=>MG ok hL (by simp)) ?_ λ_=>rfl;intro b _ aj o sp;simp only[Gh.cR];split
   .rename_i L;obtain⟨t',h3⟩:=aj _ _ _ (SO ok hL L).1;cases h3
   .try rfl
  .have hl:(λnm=>((E.mem nm).map λcs=>cs.map (C.gC t x)).isSome)=λnm=>(E.mem nm).isSome:=by funext nm;cases E.mem nm<;>rfl
   simp only[hl];exact ZVj ok h hd hL (h.env k)
  .simp only at hn;cases hcs:E.mem nm with
   |none=>grind|some cs0=>
    rw[hcs]at hn;simp only[Qv,Option.some.injEq]at hn;subst hn;rw[QQ]at L;cases hj:cs0[j]? with|none=>grind|some c0=>
     simp[hj]at L;subst L;obtain⟨v,s,h2,h3⟩:=h.mem nm cs0 hcs j c0 hj;exact⟨v,s,(MG ok hL (by simp)).1 h2,DW ok h hd hL h3⟩
  .simp only at hy;split at hy;.cases hy
   .rename_i ab;obtain⟨s,h2⟩:=h.ls u y hy;have hk:db g (g.cR w (Wr M g t x) t) E.aZ (λu=>E.aZ u||decide (u=t)) (λ_=>I) λ_=>I:=by
     refine⟨hm,λc u hu ht=>?_,λu hu=>by grind,λnm hn=>(by cases hn),λu v hu hv=>?_,λ_=>rfl⟩;.simp only[QJ,Xp]at hu;exact(MG ok hL λe=>by grind).1 ht
     .simp only[QJ,Xp]at hu;simp only[Gh.cR];grind
    exact⟨s,h2.bN hk (by simp[s,ab]) (λc v hv=>(h.cN.im c v hv).1) λ_ _=>rfl⟩
  .simp only at s;simp only[Gh.cR];split;.try rfl
   .rename_i ab;rw[Q0 ab]at s;exact h.fresh u hu s h2
end gC
theorem TP(ok:bS P M):∀ts{E g},cT M B E g a w->∃g',cT M B (E.gC M ts) g' a w|[],E,g,h=>⟨g,h⟩|t::ts,E,g,h=>by obtain⟨g1,s⟩:=ZKw ok h t;exact TP ok ts s
theorem ZGV:∀ts(E:bY U),(E.gC M ts).n=E.n|[],E=>rfl|t::ts,E=>by show((E.q_ M t).gC M ts).n=E.n;rw[ZGV ts];unfold bY.q_;grind
theorem Zsp{α}(E)(k:bY U->α)(ts):qT M E k ts=k (qT M E id ts):=by cases ts<;>rfl
theorem VB{Γ:cD U}{ops:Array Oper}{h o}{r:List Oper}:qM M Γ ops h (o::r) E=match pN M Γ ops o (E.c_ M Γ h o)with|none=>aT|some (ps,e)=>match qM M Γ ops h r ((E.c_ M Γ h o).dw o.dst e)with|none=>aT|some (qs,st')=>A (ps++qs,st'):=by show qT M E _ _=_;rw[Zsp];try rfl
theorem ZQg{Γ}(ok:bS P M)(h:cT M B E g a w)(s)(o):∃g',cT M B (E.c_ M Γ s o) g' a w:=by unfold bY.c_;generalize(bif s then Ms Γ o E else[])=ts;cases ts with|nil=>exact⟨g,h⟩|cons t r=>exact TP ok _ h
theorem ZU5{Γ}(h)(o):(E.c_ M Γ h o).n=E.n:=by unfold bY.c_;generalize(bif h then Ms Γ o E else[])=ts;cases ts with|nil=>rfl|cons t r=>exact ZGV _ E
theorem ZQh{Γ}(o):E.c_ M Γ I o=E:=rfl
end Go.AM
namespace Go.AM
variable{U:gP}{P:Program}{M:cW U}{B:fN}{E:bY U}{g:Gh}{a:Act}{w:World}
theorem bY.jg(E){v x w' g'}(o:gE M B E g {val:=A x} v w' g'):gE M B E g {val:=A (.gd Y x)} v w' g':=⟨o.cN,o.fr,o.bN,o.mem,⟨λ_=>o.val,λh=>by cases h⟩,o.ls,o.fresh⟩
theorem bY.l8(E){v x m w' g'}(o:gE M B E g {val:=A x,mem:=m} v w' g'):gE M B E g {val:=A (.gd Y x),mem:=m} v w' g':=⟨o.cN,o.fr,o.bN,o.mem,⟨λ_=>o.val,λh=>by cases h⟩,o.ls,o.fresh⟩
theorem Ztj{v:aA U}{b}(h:v.uc=.c (.bool b)):v=.c (.bool b):=by unfold aA.uc at h;grind
theorem Zw1{dE}{c c' x:C U}(h:Cn dE Y c c'=A x):x=c':=by
 unfold Cn at h;split at h
 .split at h;.rename_i e;subst e;cases h;rfl
  .cases h
 .cases h;rfl
 .cases h;rfl
 .cases h;rfl
 .split at h;.rename_i e;subst e;cases h;rfl
  .cases h
 .split at h;.rename_i e _;subst e;cases h;rfl
  .cases h
 .split at h;.rename_i e _;subst e;cases h;rfl
  .cases h
 .cases h
theorem Zt3{dE}{c s x:C U}(h:Cn dE I c s=A x):x=c:=by
 unfold Cn at h;split at h
 .split at h;.cases h;rfl
  .cases h
 .cases h;rfl
 .cases h;rfl
 .cases h;rfl
 .split at h;.cases h;rfl
  .cases h
 .split at h;.cases h;rfl
  .cases h
 .split at h;.cases h;rfl
  .cases h
 .cases h
theorem Zl6{dE}:∀{a b x:List (C U)},vf dE Y a b=A x->x=b
 |[],[],x,h=>by simp only[vf,Option.some.injEq]at h;exact h.symm|c::r,c'::r',x,h=>by
  simp only[vf]at h;split at h;.rename_i y z s h2;cases h;rw[Zw1 s,Zl6 h2]
  .cases h
theorem ZhL{dE}:∀{a b x:List (C U)},vf dE I a b=A x->x=a
 |[],[],x,h=>by simp only[vf,Option.some.injEq]at h;exact h.symm|c::r,c'::r',x,h=>by
  simp only[vf]at h;split at h;.rename_i y z s h2;cases h;rw[Zt3 s,ZhL h2]
  .cases h
theorem Zl5{dE m0}:∀{m s:List (Name×List (C U))},js dE Y m0 m=A s->s=m
 |[],s,h=>by simp only[js,Option.some.injEq]at h;exact h.symm|(nm,cs)::r,s,h=>by
  simp only[js]at h;split at h;.cases h
  .split at h;.rename_i y z h1 h2;cases h;rw[Zl6 h1,Zl5 h2]
   .cases h
theorem ZhJ{dE m0}:∀{m s:List (Name×List (C U))},js dE I m0 m=A s->∀nm,Yo m0 s nm=m0 nm
 |[],s,h,nm=>by simp only[js,Option.some.injEq]at h;subst h;rfl|(n0,cs)::r,s,h,nm=>by
  simp only[js]at h;split at h;.cases h
  .rename_i af aa;split at h
   .rename_i y z h1 h2;cases h;simp only[Yo];split;.rename_i e;subst e;rw[aa,ZhL h1]
    .exact ZhJ h2 nm
   .cases h
theorem cT.CV(h:cT M B E g a w){v x m}(hm:∀nm,Yo E.mem m nm=E.mem nm)(hv:cB M g E.aZ (λnm=>(E.mem nm).isSome) v x):gE M B E g {val:=A x,mem:=m} v w g:=by
 have hd:Zv E ({val:=A x,mem:=m}:d_ U)=E.aZ:=by funext t;simp[Zv]
 have hl:YY E ({val:=A x,mem:=m}:d_ U)=λnm=>(E.mem nm).isSome:=by funext nm;simp only[YY,hm]
 refine⟨h.cN,h.fr,?_,?_,?_,by rw[hd];exact λt x hx=>h.ls t x hx,by rw[hd];exact λt h0 h1 h2=>h.fresh t h0 h1 h2⟩;.rw[hd,hl];exact .refl _ _ _
 .rw[hd];intro nm cs s;rw[hm]at s;exact h.mem nm cs s
 grind
theorem eU.l9{aG}:∀{ps},eU (ps.map λp=>aG=Y->p)->aG=Y->eU ps|[],_,_=>trivial|_::_,h,hG=>⟨h.1 hG,eU.l9 h.2 hG⟩
theorem yV{aG c v b}{u:aA U}(h:eU (wB aG c v))(hv:v=.gd b u)(s:∀b,aG=A b->b=Y)(L:c):b=Y:=by subst hv;cases aG with|none=>exact h.1 L|some b'=>exact h.1 (s b' rfl) L
theorem Zm1(h:cT M B E g a w){ops:Array Oper}{o}{aG:Option Bool}(s:xR ops E o=A aG):match aG with|none=>Region.wanted o (yielded ops a.tmps)=Y|some b=>Region.wanted o (yielded ops a.tmps)=b:=by
 unfold xR at s;split at s
 .rename_i hg;cases s;simp[Region.wanted,hg]
 .rename_i j af hg;split at s
  .rename_i t ht;have ai:∀b0:Bool,a.tmps.getD t undef=.bool b0->Region.wanted o (yielded ops a.tmps)=if af then b0 else !b0:=by
    intro b0 e1;have ae:t<a.tmps.size:=by
     rcases K5 t a.tmps.size with h1|h1;.exact h1
     .simp[Array.getD,Nat.not_lt.2 h1,undef]at e1
    have e2:a.tmps[t]?=A (.bool b0):=by
     rw[Xr ae];simpa[Array.getD,ae]using e1
    have hy:yielded ops a.tmps j=A b0:=by simp[yielded,ht,e2]
    simp only[Region.wanted,hg,hy];grind
   split at s
   .rename_i b0 aa;cases s;have hr:=h.env t;rw[aa]at hr;exact ai b0 (b_.gh (h:=hr.1))
   .rename_i g0 b0 aa;cases s;have hr:=h.env t;rw[aa]at hr;cases g0 with
    |true=>
     show Region.wanted o (yielded ops a.tmps)=(Y&&_);rw[X6];exact ai b0 (b_.gh (h:=(hr.1 rfl).1))|false=>
     have e1:=hr.2 rfl;have hy:yielded ops a.tmps j=aT:=by
      simp only[yielded,ht,Qp];cases e2:a.tmps[t]? with
      |none=>rfl|some v=>
       have:a.tmps.getD t undef=v:=by
        obtain⟨h1,h2⟩:=Xk.1 e2;simp[Array.getD,h1,h2]
       rw[this]at e1;subst e1;try rfl
     show Region.wanted o (yielded ops a.tmps)=(I&&_);simp only[Region.wanted,hg,hy,Kl];try rfl
   .cases s
  .cases s
theorem ZhU{Γ}(ok:bS P M)(hΓ:∀f s,Γ f=A s->aU P M f s)(h:cT M B E g a w){ops o ps e}(he:pN M Γ ops o E=A (ps,e))(am:eU ps){K Q}(hK:∀g' a' w',cT M B (E.dw o.dst e) g' a' w'->K a' w'):if Region.wanted o (yielded ops a.tmps)then o.wp P a w K Q else K (a.put o.dst undef) w:=by
 unfold pN at he;split at he;case isFalse=>cases he
 rename_i hd;unfold ZOD at hd;have au:∀k,o.dst=A k->k<E.n:=by intro k hk;rw[hk]at hd;exact Nat.blt_eq.mp hd
 have cC:∀{e:d_ U},(∀g' a' w',cT M B (E.dw o.dst e) g' a' w'->K a' w')->(fJ P o a w λv w'=>∃g',gE M B E g e v w' g')->o.wp P a w K Q:=by intro e hK hD;refine Oper.wp_mono ?_ (fJ.wp (Q:=Q) hD);rintro a' w'⟨v,rfl,g',hO⟩;exact hK g' _ _ (h.dw hO au)
 have a5:∀{v:aA U}{m:List (Name×List (C U))},(∀nm,Yo E.mem m nm=E.mem nm)->(∀g' a' w',cT M B (E.dw o.dst {val:=A (.gd I v),mem:=m}) g' a' w'->K a' w')->Region.wanted o (yielded ops a.tmps)=I->if Region.wanted o (yielded ops a.tmps)then o.wp P a w K Q else K (a.put o.dst undef) w:=by
  intro v m hm hK hw;rw[Q0 (by rw[hw];simp)];have hO:gE M B E g {val:=A (.gd I v),mem:=m} undef w g:=h.CV hm ⟨λhb=>(by cases hb),λ_=>rfl⟩;exact hK g _ _ (h.dw hO au)
 have aq:∀{v:aA U},(∀g' a' w',cT M B (E.dw o.dst {val:=A (.gd I v)}) g' a' w'->K a' w')->Region.wanted o (yielded ops a.tmps)=I->if Region.wanted o (yielded ops a.tmps)then o.wp P a w K Q else K (a.put o.dst undef) w:=by
  intro v hK hw;rw[Q0 (by rw[hw];simp)];have hO:gE M B E g {val:=A (.gd I v)} undef w g:=h.pure ⟨λhb=>(by cases hb),λ_=>rfl⟩;exact hK g _ _ (h.dw hO au)
 split at he
 .rename_i c x y a2;split at he
  .rename_i aG c0 x0 y0 hG L hx hy;have aa:=Zm1 h hG;have get:∀{z:Operand}{v:aA U}{b:Bool},E.bU z=A v->v.bC=.c (.bool b)->(∀b' u,v=.gd b' u->b'=Y)->a.eval z=.bool b:=by
    intro z v b hz hs hg;have hr:cB M g E.aZ (λnm=>(E.mem nm).isSome) (a.eval z) v:=by cases z with
     |tmp t=>simp only[bY.bU,Option.some.injEq]at hz;subst hz;exact h.env t|const c=>exact IK hz|func f=>simp only[bY.bU,Option.some.injEq]at hz;subst hz;rfl|global g=>trivial
    cases v with
    |gd b' u=>
     have hs:=Ztj (v:=u) hs;subst hs;exact b_.gh (hr.1 (hg _ _ rfl)).1|c u=>have hs:=Ztj (v:=.c u) hs;cases hs;exact b_.gh hr.1|_=>trivial
   have cE:∀{b:Bool},(∀g' a' w',cT M B (E.dw o.dst {val:=A (gV aG (.c (.bool b)))}) g' a' w'->K a' w')->((∀q,aG=A q->q=Y)->fJ P o a w λv w'=>∃g',gE M B E g {val:=A (.c (.bool b))} v w' g')->if Region.wanted o (yielded ops a.tmps)then o.wp P a w K Q else K (a.put o.dst undef) w:=by
    intro b hK a3;cases aG with
    |none=>rw[Q5 aa];exact cC hK (a3 λ_ hh=>by cases hh)|some Gb=>cases Gb with
     |true=>
      rw[Q5 aa];refine cC (e:={val:=A (.gd Y (.c (.bool b)))}) hK ?_;have:=a3 λ_ hh=>by cases hh;rfl
      rcases this with⟨u,w',h1,g',h2⟩|⟨w',h1,g',h2⟩|⟨f,args,w',h1,h2⟩;.exact .inl ⟨u,w',h1,g',bY.jg E h2⟩
      .exact .inr (.inl ⟨w',h1,g',bY.jg E h2⟩)
      .exact .inr (.inr ⟨f,args,w',h1,Calls.mono h2 λe bc⟨u,he,g',h3⟩=>⟨u,he,g',bY.jg E h3⟩⟩)|false=>exact aq hK aa
   split at he
   .rename_i cv av bv ay a6 a7;simp only[oP]at he;obtain⟨rfl,rfl⟩:=he;obtain⟨aw,bb⟩:=eU.append am;obtain⟨ah,ak⟩:=eU.append bb;refine cE hK λaj=>?_;have ec:=get L ay λb' u hh=>yV aw hh aj trivial;refine oX (v:=.bool (bif cv then av else bv)) h ?_ ⟨.bool _,trivial⟩;cases cv with|true=>have ex:=get hx a6 λb' u hh=>yV ah hh aj rfl;simp[execOp,a2,ec,asBool,ex]|false=>have ey:=get hy a7 λb' u hh=>yV ak hh aj rfl;simp[execOp,a2,ec,asBool,ey]
   .rename_i av ay a6 ba;simp only[oP]at he;obtain⟨rfl,rfl⟩:=he;obtain⟨aw,ah⟩:=eU.append am;refine cE hK λaj=>?_;have ec:=get L ay λb' u hh=>yV aw hh aj trivial;have ex:=get hx a6 λb' u hh=>yV ah hh aj trivial;exact oX (v:=.bool av) h (by simp[execOp,a2,ec,asBool,ex]) ⟨.bool _,trivial⟩
   .rename_i bv ay a7 ba;simp only[oP]at he;obtain⟨rfl,rfl⟩:=he;obtain⟨aw,ah⟩:=eU.append am;refine cE hK λaj=>?_;have ec:=get L ay λb' u hh=>yV aw hh aj trivial;have ey:=get hy a7 λb' u hh=>yV ah hh aj trivial;exact oX (v:=.bool bv) h (by simp[execOp,a2,ec,asBool,ey]) ⟨.bool _,trivial⟩
   .cases he
  .cases he
 .split at he;.cases he
  rename_i aG hG;have aa:=Zm1 h hG;split at he
  .split at he
   .simp only[oP]at he;obtain⟨rfl,rfl⟩:=he;exact aq hK aa
   .cases he
  rename_i bx e' ar;split at he
  .simp only[oP]at he;obtain⟨rfl,rfl⟩:=he;obtain⟨ah,ak⟩:=eU.append am;rw[Q5 aa];exact cC hK (Ng ok hΓ h (λx hx v hv=>CN h aT ah (λb hb=>by cases hb) x hx v hv) ar ak)
  .rename_i Gb;split at he
   .rename_i v;simp only[oP]at he;obtain⟨rfl,rfl⟩:=he;obtain⟨ah,ak⟩:=eU.append am;cases Gb with
    |true=>rw[Q5 aa];exact cC (e:={val:=A (.gd Y v)}) hK (by
      have:=Ng ok hΓ h (λx hx v hv=>CN h (A Y) ah λb hb=>by cases hb;rfl x hx v hv) ar (eU.l9 ak rfl);rcases this with⟨u,w',h1,g',h2⟩|⟨w',h1,g',h2⟩|⟨f,args,w',h1,h2⟩;.exact .inl ⟨u,w',h1,g',bY.jg E h2⟩
      .exact .inr (.inl ⟨w',h1,g',bY.jg E h2⟩)
      .exact .inr (.inr ⟨f,args,w',h1,Calls.mono h2 λe bc⟨u,he,g',h3⟩=>⟨u,he,g',bY.jg E h3⟩⟩))|false=>exact aq hK aa
   .rename_i v m ba;split at he
    .rename_i m' bn hj;simp only[oP]at he;obtain⟨rfl,rfl⟩:=he;obtain⟨ah,ak⟩:=eU.append am;cases Gb with
     |true=>rw[Q5 aa];have em:=Zl5 hj;subst em;exact cC (e:={val:=A (.gd Y v),mem:=m'}) hK (by
       have:=Ng ok hΓ h (λx hx v hv=>CN h (A Y) ah λb hb=>by cases hb;rfl x hx v hv) ar (eU.l9 ak rfl);rcases this with⟨u,w',h1,g',h2⟩|⟨w',h1,g',h2⟩|⟨f,args,w',h1,h2⟩;.exact .inl ⟨u,w',h1,g',bY.l8 E h2⟩
       .exact .inr (.inl ⟨w',h1,g',bY.l8 E h2⟩)
       .exact .inr (.inr ⟨f,args,w',h1,Calls.mono h2 λe bc⟨u,he,g',h3⟩=>⟨u,he,g',bY.l8 E h3⟩⟩))|false=>exact a5 (ZhJ hj) hK aa
    .cases he
   .cases Gb with
    |true=>simp only[oP]at he;obtain⟨rfl,rfl⟩:=he;obtain⟨ah,ak⟩:=eU.append am;rw[Q5 aa];exact cC hK (Ng ok hΓ h (λx hx v hv=>CN h (A Y) ah λb hb=>by cases hb;rfl x hx v hv) ar ak)|false=>simp only[oP]at he;obtain⟨rfl,rfl⟩:=he;exact aq hK aa
theorem Zly{Γ}(ok:bS P M)(hΓ:∀f s,Γ f=A s->aU P M f s){ops fz Q}:∀l(E st':bY U)g(a:Act)w(ps:List Prop),cT M B E g a w->qM M Γ ops fz l E=A (ps,st')->eU ps->(∀g' a' w',cT M B st' g' a' w'->Q .normal a' w')->wpList P ops Q l a w
 |[],E,st',g,a,w,ps,h,he,hps,hQ=>by simp only[qM,oP]at he;obtain⟨rfl,rfl⟩:=he;exact hQ g a w h|o::l,E,st',g,a,w,ps,h,he,hps,hQ=>by
  rw[VB]at he;split at he;.cases he
  .rename_i aj e1 h1;split at he;.cases he
   .rename_i qs ar h2;simp only[oP]at he;obtain⟨rfl,rfl⟩:=he;obtain⟨af,ae⟩:=eU.append hps;obtain⟨g0,h0⟩:=ZQg ok h fz o;refine wpList_step λK hK=>ZhU ok hΓ h0 h1 af λg' a' w' h'=>hK a' w' ?_;exact Zly ok hΓ l _ _ g' a' w' qs h' h2 ae hQ
def aA.lN(nm:Name)(T:U.Ty)(x:U.El T):aA U->aA U|.ptr n off=>if n=nm then if off=0 then .c (.po T (A x))else .cY else .ptr n off|.ap n off k len i=>if n=nm then .cY else .ap n off k len i|.clo f nms=>if nm∈nms then .cY else .clo f nms|.gd b v=>.gd b (v.lN nm T x)|v=>v
def bY.mf(M:cW U)(E:bY U)(nm:Name)(T:U.Ty):bY U:=match E.mem nm with|none=>E|some cs=>match M.jz T cs with|none=>E|some x=>{E with env:=λk=>(E.env k).lN nm T x,mem:=λn=>if n=nm then aT else E.mem n}
def bY.lU(M:cW U)(E:bY U)(k:Nat)(T:U.Ty):bY U:=match E.env k with|.ptr (.bE s) 0=>E.mf M (.bE s) T|_=>E
def bY.mz(M:cW U)(E:bY U):List (Nat×U.Ty)->bY U|[]=>E|x::r=>(E.lU M x.1 x.2).mz M r
def qL{α:Type}(M:cW U)(E:bY U)(k:bY U->α):List (Nat×U.Ty)->α|[]=>k E|x::r=>k (E.mz M (x::r))
def Ob(g:Gh)(nm:Name)(n:Nat)(c:Addr):Prop:=∃j,j<n/\c=(g.ad nm).add j
open Classical in noncomputable def Gh.fP(g:Gh)(w:World)(R:Addr->Prop):Gh:=
 {m:=λc=>if R c then w.cell? c else g.m c
  cA:=λc=>if R c then aT else g.cA c
  ad:=g.ad
  bs:=g.bs}
section lN
variable{nm:Name}{cs:List (C U)}
theorem RS(h:cT M B E g a w)(s:E.mem nm=A cs){c}(L:Ob g nm (J cs) c):g.cA c=A (.dU nm)/\∃v,w.cell? c=A v:=by obtain⟨j,hj,rfl⟩:=L;obtain⟨v,h1,h2,_⟩:=h.mem nm cs s j _ (Q8 hj);grind
theorem FY(h:cT M B E g a w)(s:E.mem nm=A cs):∀c v,g.m c=A v->(g.fP w (Ob g nm (J cs))).m c=A v:=by
 intro c v hv;simp only[Gh.fP];rw[Q0];.exact hv
 .intro L;have:=(RS h s L).1;rw[(h.cN.im c v hv).2]at this;cases this
theorem UJ(h:cT M B E g a w)(s:E.mem nm=A cs){c t}(aa:t≠.dU nm):g.cA c=A t↔(g.fP w (Ob g nm (J cs))).cA c=A t:=by
 simp only[Gh.fP];split;.rename_i L;rw[(RS h s L).1];grind
 grind
theorem Ao(h:cT M B E g a w)(s:E.mem nm=A cs):db g (g.fP w (Ob g nm (J cs))) E.aZ E.aZ (λ_=>I) λ_=>I:=⟨FY h s,λ_ _ _ ht=>(UJ h s (by simp)).1 ht,λ_ hu=>hu,λ_ hn=>(by cases hn),λ_ _ _ hv=>hv,λ_=>rfl⟩
theorem ZNm(ok:bS P M)(h:cT M B E g a w)(s:E.mem nm=A cs){T x}(hx:M.jz T cs=A x){v}:∀{y},cB M g E.aZ (λn=>(E.mem n).isSome) v y->cB M (g.fP w (Ob g nm (J cs))) E.aZ (λn=>(if n=nm then aT else E.mem n).isSome) v (y.lN nm T x)
 |.c y,hr=>cH.bN (Ao h s) (c:=y) hr|.agg cs,hr=>by obtain⟨vs,h1,h2⟩:=hr;exact⟨vs,h1,h2.bN (Ao h s)⟩|.tup ws,hr=>by obtain⟨vs,h1,h2,h3⟩:=hr;exact⟨vs,h1,h2,λj u w hu hw=>(h3 j u w hu hw).bN (Ao h s)⟩|.ptr n off,hr=>by
  obtain⟨h1,h2⟩:=hr;simp only[aA.lN];split
  .rename_i e;subst e;split
   .rename_i e;subst e;obtain⟨d1,d2⟩:=ok.jb T cs x hx;have e0:(g.ad n).add 0=g.ad n:=by simp[Addr.add]
    rw[h2,e0];have af:∀j c,(M.enc T x)[j]?=A c->∃u,w.cell? ((g.ad n).add j)=A u/\b_ M (g.fP w (Ob g n (J cs))).m u c/\(g.fP w (Ob g n (J cs))).m ((g.ad n).add j)=A u:=by
     intro j c L;have hj:j<J cs:=by rw[d1];exact(Qc.1 L).1
     obtain⟨u,k1,k2,k3⟩:=h.mem n cs s j _ (Q8 hj);refine⟨u,k1,(k3.1.mono (FY h s)).wk (d2 j _ _ (Q8 hj) L),?_⟩;simp only[Gh.fP];rw[Q5 ⟨j,hj,rfl⟩];exact k1
    refine⟨.po T x _ (λj=>(w.cell? ((g.ad n).add j)).getD undef) (λj c L=>?_) λj c L=>?_,trivial⟩;.obtain⟨u,k1,_,k3⟩:=af j c L;rw[k1];exact k3
    .obtain⟨u,k1,k2,_⟩:=af j c L;rw[k1];exact k2
   .exact trivial
  .rename_i aa;exact⟨by show((if n=nm then aT else E.mem n).isSome||n.nI)=Y;rw[Q0 aa];exact h1,h2⟩|.ap n off k len i,hr=>by
  simp only[aA.lN];split;.exact trivial
  .rename_i aa;exact⟨by show((if n=nm then aT else E.mem n).isSome||n.nI)=Y;rw[Q0 aa];exact hr.1,hr.2⟩|.ep cs,hr=>by obtain⟨b,h1,h2⟩:=hr;exact⟨b,h1,λj c L=>let⟨u,hu,L⟩:=h2 j c L;⟨u,FY h s _ _ hu,L.bN (Ao h s)⟩⟩|.mp t n off,hr=>hr|.vw t n,hr=>hr|.fn _,hr=>hr|.clo f nms,hr=>by
  simp only[aA.lN];split;.exact trivial
  .rename_i aa;refine⟨λn hn=>?_,hr.2⟩;show((if n=nm then aT else E.mem n).isSome||n.nI)=Y;rw[Q0 λe=>aa (by rw[<-e];exact hn)];exact hr.1 n hn|.gd b y,hr=>⟨λhb=>ZNm ok h s hx (hr.1 hb),hr.2⟩|.nb _ _,hr=>hr|.cY,_=>trivial
theorem ZDX(ok:bS P M)(h:cT M B E g a w)(nm)(T):∃g',cT M B (E.mf M nm T) g' a w:=by unfold bY.mf;cases hcs:E.mem nm with|none=>grind|some cs=>simp only;cases hx:M.jz T cs with|none=>grind|some x=>
   have hm:=FY h hcs;refine⟨g.fP w (Ob g nm (J cs)),⟨λc v hv=>?_,λc t' ht=>?_⟩,?_,λk=>ZNm ok h hcs hx (h.env k),λn ds hn j c L=>?_,h.sz,h.df,λu y hy=>?_,λu hu s h2=>h.fresh u hu s h2⟩
   .by_cases L:Ob g nm (J cs) c
    .simp only[Gh.fP]at hv⊢;grind
    .simp only[Gh.fP]at hv⊢;rw[Q0 L]at hv⊢;exact h.cN.im c v hv
   .simp only[Gh.fP]at ht;split at ht;.cases ht
    .exact h.cN.it c t' ht
   .refine h.fr.step h.cN (jG.refl w λ_=>False) (λc L=>L.elim) hm (λc t'=>UJ h hcs (by simp)) ?_ λ_=>rfl;intro b _ ab o sp;simp only[Gh.fP];split;.rename_i L;obtain⟨t',h3⟩:=ab _ _ _ (RS h hcs L).1;cases h3
    .try rfl
   .simp only at hn;split at hn;.cases hn
    .rename_i al;obtain⟨v,s,h2,h3⟩:=h.mem n ds hn j c L;exact⟨v,s,(UJ h hcs (by grind)).1 h2,h3.bN (Ao h hcs)⟩
   .obtain⟨s,h2⟩:=h.ls u y hy;exact⟨s,h2.bN (Ao h hcs) s (λc v hv=>(h.cN.im c v hv).1) λ_ _=>rfl⟩
end lN
theorem ZIC(nm)(T):(E.mf M nm T).n=E.n:=by unfold bY.mf;grind
theorem ZrD(ok:bS P M):∀l{E g},cT M B E g a w->∃g',cT M B (E.mz M l) g' a w
 |[],E,g,h=>⟨g,h⟩|x::r,E,g,h=>by
  have:∃s,cT M B (E.lU M x.1 x.2) s a w:=by
   unfold bY.lU;split;.exact ZDX ok h _ _
   .grind
  obtain⟨s,h1⟩:=this;exact ZrD ok r h1
theorem ZxM:∀l(E:bY U),(E.mz M l).n=E.n
 |[],E=>rfl|x::r,E=>by
  show((E.lU M x.1 x.2).mz M r).n=E.n;rw[ZxM r];unfold bY.lU;split;.exact ZIC _ _
  .try rfl
theorem NX{α}(E)(k:bY U->α)(l):qL M E k l=k (qL M E id l):=by cases l<;>rfl
theorem ZAq(ok:bS P M)(h:cT M B E g a w)(l):∃g',cT M B (qL M E id l) g' a w:=by cases l with|nil=>exact⟨g,h⟩|cons x r=>exact ZrD ok (x::r) h
theorem ZFz(l):(qL M E id l).n=E.n:=by cases l with|nil=>rfl|cons x r=>exact ZxM (x::r) E
end Go.AM
namespace Go.AM
variable{U:gP}{P:Program}{M:cW U}{B:fN}{E:bY U}{g:Gh}{a:Act}{w:World}
structure bT(U:gP)where env:List (Nat×aA U)mem:List (Name×List (C U))ls:List (bL×LC U)
def rV:List (Nat×aA U)->Nat->aA U|[],_=>.cY|(a,v)::r,k=>bif Nat.beq a k then v else rV r k
def lL:List (Name×List (C U))->Name->Option (List (C U))|[],_=>aT|(a,cs)::r,nm=>if a=nm then A cs else lL r nm
def bT.jR(s:bT U)(n:Nat):bY U:={n:=n,env:=rV s.env,mem:=lL s.mem,aZ:=Ym,ls:=ZU (λ_=>aT) s.ls,mu:=I,vw:=I}
def ZVg(t:Nat)(o:Oper):Bool:=match o.op,o.dst with
 |.call c,A d=>match c.callee with
  |.builtin .append=>Nat.beq d t|_=>I
 |_,_=>I
def ZOs(ops:List Oper)(o:Oper):Bool:=match o.op with|.indexAddr _ (.tmp t) _=>ops.any (ZVg t)|_=>I
def ZVf(o:Oper):Bool:=match o.op with
 |.call c=>match c.callee with
  |.builtin .clear=>Y|.builtin .copy=>Y|_=>I
 |_=>I
def bT.Rf(s:bT U)(n:Nat)(mk:Bool)(ops:Array Oper):bY U:={n:=n,env:=rV s.env,mem:=lL s.mem,aZ:=Ym,ls:=ZU (λ_=>aT) s.ls,mu:=mk||ops.toList.any (ZOs ops.toList),vw:=ops.toList.any ZVf}
theorem ZwU{s:bT U}{n mk ops}(h:cT M B (s.jR n) g a w):cT M B (s.Rf n mk ops) g a w:=⟨h.cN,h.fr,h.env,h.mem,h.sz,h.df,h.ls,h.fresh⟩
inductive Sk(U:gP)where|any|bF(T:U.Ty)|bA(T:U.Ty)|wr(T:U.Ty)|pt(T:U.Ty)
def sQ:List (Sk U)->Sk U|[]=>.any|k::_=>k
def sY(mine:bL->Bool)(nm:bL)(k:Sk U)(c:C U)(seen:List (bL×bL)):C U×List (bL×bL):=match k,c with|.bF T,.nils=>(.slice T [] (.bF nm),seen)|.bF _,.slice T l .cU=>(.slice T l (.bF nm),seen)|.bA T,.nils=>(.slice T [] .bA,seen)|.bA _,.slice T l _=>(.slice T l .bA,seen)|.pt T,.nilp=>(.po T aT,seen)|_,.xp k=>(.xp k,seen)|_,c=>mN mine nm c seen
def lG(mine:bL->Bool)(nm:Nat->bL):Nat->List (Sk U)->List (C U)->List (bL×bL)->List (C U)×List (bL×bL)|_,_,[],seen=>([],seen)|j,ks,c::r,seen=>((sY mine (nm j) (sQ ks) c seen).1::(lG mine nm (j+1) ks.tail r (sY mine (nm j) (sQ ks) c seen).2).1,(lG mine nm (j+1) ks.tail r (sY mine (nm j) (sQ ks) c seen).2).2)
def u7(mine:bL->Bool)(nm:Nat->bL)(bN:Name->Bool)(ks:List (Sk U))(v:aA U)(seen:List (bL×bL)):aA U×List (bL×bL):=match v with|.c x=>(.c (sY mine (nm 0) (sQ ks) x seen).1,(sY mine (nm 0) (sQ ks) x seen).2)|.agg cs=>(.agg (lG mine nm 0 ks cs seen).1,(lG mine nm 0 ks cs seen).2)|.ptr nm off=>(bif bN nm then .ptr nm off else .cY,seen)|.ep cs=>(.ep (iF (λ_=>I) nm 0 cs seen).1,(iF (λ_=>I) nm 0 cs seen).2)|.fn f=>(.fn f,seen)|.clo f nms=>(bif nms.all bN then .clo f nms else .cY,seen)|.nb p q=>(.nb p q,seen)|_=>(.cY,seen)
def qY(E:bY U)(bN:Name->Bool):List (Nat×List (Sk U))->List (bL×bL)->List (Nat×aA U)×List (bL×bL)|[],seen=>([],seen)|(k,ks)::r,seen=>((k,(u7 (λt=>!E.aZ t) (.e k) bN ks (E.env k) seen).1)::(qY E bN r (u7 (λt=>!E.aZ t) (.e k) bN ks (E.env k) seen).2).1,(qY E bN r (u7 (λt=>!E.aZ t) (.e k) bN ks (E.env k) seen).2).2)
def Bf:Name->Nat->bL|.bE s,j=>.l s j|.x k,j=>.x k j
def nD(E:bY U):List (Name×List (Sk U))->List (bL×bL)->List (Name×List (C U))×List (bL×bL)|[],seen=>([],seen)|(nm,ks)::r,seen=>match E.mem nm with|some cs=>((nm,(lG (λt=>!E.aZ t) (Bf nm) 0 ks cs seen).1)::(nD E r (lG (λt=>!E.aZ t) (Bf nm) 0 ks cs seen).2).1,(nD E r (lG (λt=>!E.aZ t) (Bf nm) 0 ks cs seen).2).2)|none=>nD E r seen
def sX(l:List (Name×List (Sk U)))(nm:Name):Bool:=match l with|[]=>I|(a,_)::r=>if a=nm then Y else sX r nm
def Ic(nm:Nat->bL):Nat->List (Sk U)->List bL|_,[]=>[]|j,.wr _::r=>nm j::Ic nm (j+1) r|j,_::r=>Ic nm (j+1) r
def G0(lv:List (Nat×List (Sk U)))(h:List (Name×List (Sk U))):List bL:=(lv.flatMap λx=>Ic (.e x.1) 0 x.2)++h.flatMap λx=>Ic (Bf x.1) 0 x.2
def RH(lv:List (Nat×List (Sk U)))(h:List (Name×List (Sk U)))(E:bY U):bT U:=
 {env:=(qY E (λnm=>sX h nm&&(E.mem nm).isSome) lv []).1
  mem:=(nD E h (qY E (λnm=>sX h nm&&(E.mem nm).isSome) lv []).2).1
  ls:=match G0 lv h with
   |[]=>[]|c=>mO E.ls (nD E h (qY E (λnm=>sX h nm&&(E.mem nm).isSome) lv []).2).2 c}
def ZFG(k:Sk U)(c:C U):List bL:=match k,c with|.wr _,_=>[]|_,.mref t=>[t]|_,_=>[]
def UY:List (Sk U)->List (C U)->List bL|_,[]=>[]|ks,c::r=>ZFG (sQ ks) c++UY ks.tail r
def ZU7(ks:List (Sk U)):aA U->List bL|.c x=>ZFG (sQ ks) x|.agg cs=>UY ks cs|_=>[]
def vS(lv:List (Nat×List (Sk U)))(h:List (Name×List (Sk U)))(E:bY U):List bL:=(lv.flatMap λx=>ZU7 x.2 (E.env x.1))++h.flatMap λx=>match E.mem x.1 with|some cs=>UY x.2 cs|none=>[]
def bY.mr(E:bY U)(k:Nat)(T:U.Ty):bY U:=match E.env k with|.c .nils=>if(E.ls (.z (3*k) 0)).isNone&&!E.aZ (.z (3*k) 0)then{E with env:=λi=>bif Nat.beq i k then .c (.mref (.z (3*k) 0))else E.env i,ls:=λt=>if t=.z (3*k) 0 then A ⟨T,[],0⟩else E.ls t}else E|_=>E
def vv:Name->Nat|.bE s=>3*s+1|.x k=>3*k+2
def bY.lI(E:bY U)(nm:Name)(j:Nat)(T:U.Ty):bY U:=match E.mem nm with
 |some cs=>match cs[j]? with
  |some .nils=>if(E.ls (.z (vv nm) j)).isNone&&!E.aZ (.z (vv nm) j)then{E with mem:=λn=>if n=nm then A (cs.set j (.mref (.z (vv nm) j)))else E.mem n,ls:=λt=>if t=.z (vv nm) j then A ⟨T,[],0⟩else E.ls t}else E|_=>E
 |none=>E
def bY.ny(E:bY U):List ((Nat⊕Name×Nat)×U.Ty)->bY U|[]=>E|(.inl k,T)::r=>(E.mr k T).ny r|(.inr x,T)::r=>(E.lI x.1 x.2 T).ny r
def ZPg(nm:Name):Nat->List (Sk U)->List ((Nat⊕Name×Nat)×U.Ty)|_,[]=>[]|j,.wr T::r=>(.inr (nm,j),T)::ZPg nm (j+1) r|j,_::r=>ZPg nm (j+1) r
def wW(h:List (Name×List (Sk U))):List (Nat×List (Sk U))->List ((Nat⊕Name×Nat)×U.Ty)|[]=>h.flatMap λx=>ZPg x.1 0 x.2|(k,[.wr T])::r=>(.inl k,T)::wW h r|_::r=>wW h r
def qi:List (Nat×List (Sk U))->List (Nat×U.Ty)|[]=>[]|(k,[.pt T])::r=>(k,T)::qi r|_::r=>qi r
def ZQl{α:Type}(E:bY U)(k:bY U->α):List ((Nat⊕Name×Nat)×U.Ty)->α|[]=>k E|x::r=>k (E.ny (x::r))
def vB{α}(M:cW U)(lv:List (Nat×List (Sk U)))(h:List (Name×List (Sk U)))(E:bY U)(k:bY U->α):α:=ZQl E (λE=>qL M E (λE=>qT M E k (vS lv h E)) (qi lv)) (wW h lv)
theorem OW:∀{l nm},nm∈l->lW l nm=Y
 |a::r,nm,h=>by
  simp only[lW];split;.try rfl
  .rename_i e;rcases Qe.1 h with rfl|h;.grind
   .exact OW h
structure tL(ok:bL->Bool)(g:Gh)(s:List (bL×bL))(g2:Gh):Prop extends Ren ok g s g2 where yk:∀k,g2.ad (.x k)=g.ad (.x k)
theorem ZmL{okT mine nm k c seen}(af:∀t,mine t=Y->E.aZ t=I)(aj:okT nm=Y):gv seen (sY mine nm k c seen).2/\∀s',gv (sY mine nm k c seen).2 s'->∀s,tL okT g s' s->∀v,cH M g E.aZ v c->cH M s Ym v (sY mine nm k c seen).1:=by
 unfold sY;split
 .rename_i T;refine⟨.refl _,λs' _ s hg v h=>?_⟩;have h1:=h.1;cases h1;exact⟨.fa T _,λ_ a len ai hv=>by simp at hv⟩
 .rename_i T0 T l;refine⟨.refl _,λs' _ s hg v h=>⟨by rw[hg.m];exact h.1.tl _,λ_ b len ai hv j h1 h2=>?_⟩⟩;have:=h.2 _ _ _ hv;grind
 .rename_i T;refine⟨.refl _,λs' _ s hg v h=>?_⟩;have h1:=h.1;cases h1;exact⟨.fa T _,trivial⟩
 .exact⟨.refl _,λs' _ s hg v h=>⟨by rw[hg.m];exact h.1.tl _,trivial⟩⟩
 .rename_i T;refine⟨.refl _,λs' _ s hg v h=>?_⟩;have h1:=h.1;cases h1;exact⟨.m7 T,trivial⟩
 .refine⟨.refl _,λs' _ s hg v h=>⟨.xp _ _ h.1.cE,?_⟩⟩;have h2:v=.pointer (A (g.ad (.x _))):=h.2;show v=.pointer (A (s.ad (.x _)));rw[hg.yk];exact h2
 .obtain⟨h1,h2⟩:=OC (M:=M) (E:=E) (g:=g) (nm:=nm) (c:=c) (seen:=seen) af aj;exact⟨h1,λs' hs s hg v h=>h2 s' hs s hg.toRen v h⟩
theorem Ll{okT mine nm}(h:∀t,mine t=Y->E.aZ t=I)(ae:∀j,okT (nm j)=Y):∀cs(j:Nat)ks(seen:List (bL×bL)),gv seen (lG mine nm j ks cs seen).2/\(lG mine nm j ks cs seen).1.length=J cs/\∀s',gv (lG mine nm j ks cs seen).2 s'->∀g2,tL okT g s' g2->∀(i:Nat)v c c',cs[i]?=A c->(lG mine nm j ks cs seen).1[i]?=A c'->cH M g E.aZ v c->cH M g2 Ym v c'|[],j,ks,seen=>⟨.refl _,rfl,λs' _ g2 _ i v c c' L=>by simp at L⟩|c::cs,j,ks,seen=>by obtain⟨h1,h2⟩:=ZmL (M:=M) (g:=g) (okT:=okT) (nm:=nm j) (k:=sQ ks) (c:=c) (seen:=seen) h (ae j);obtain⟨h3,h4,h5⟩:=Ll (okT:=okT) (mine:=mine) (nm:=nm) h ae cs (j+1) ks.tail (sY mine (nm j) (sQ ks) c seen).2;refine⟨h1.trans h3,by simp[lG,h4],λs' hs g2 hg i v c0 c' L s hr=>?_⟩;cases i with|zero=>simp[lG]at L s;subst L s;exact h2 s' (h3.trans hs) g2 hg v hr|succ i=>simp[lG]at L s;exact h5 s' hs g2 hg i v c0 c' L s hr
def Gh.eS(g:Gh)(s:List (bL×bL))(bN:Name->Bool)(okT:bL->Bool):Gh:=
 {m:=g.m
  cA:=λc=>match g.cA c with
   |some (.dW t)=>(JN s t).map .dW|some (.dU nm)=>bif bN nm then A (.dU nm)else aT|some (.cG t)=>A (.cG t)|none=>aT
  ad:=g.ad
  bs:=λt=>bif okT t then zV g s t else aT}
theorem Gh.fI(s)(bN)(okT):tL okT g s (g.eS s bN okT):=⟨⟨rfl,λc t t' h h2=>by simp only[Gh.eS,h,h2,Qv],λt t' v h h2 h3=>by simp only[Gh.eS,h,XE,zV,h2];exact h3⟩,λ_=>rfl⟩
theorem ZFE{mine nm bN live live2}(ab:∀t,mine t=Y->E.aZ t=I)(ae:∀j,ke (nm j)=Y)(ak:∀n,bN n=Y->live2 n=Y)(ks)(x)(seen):gv seen (u7 mine nm bN ks x seen).2/\∀s,gv (u7 mine nm bN ks x seen).2 s->∀v,cB M g E.aZ live v x->cB M (g.eS s bN ke) Ym live2 v (u7 mine nm bN ks x seen).1:=by cases x with
 |c x=>
  obtain⟨h1,h2⟩:=ZmL (M:=M) (g:=g) (nm:=nm 0) (k:=sQ ks) (c:=x) (seen:=seen) ab (ae 0);exact⟨h1,λs hs v hr=>h2 s hs _ (Gh.fI s bN ke) v hr⟩|agg cs=>
  obtain⟨h3,h4,h5⟩:=Ll (M:=M) (g:=g) (mine:=mine) (nm:=nm) ab ae cs 0 ks seen;refine⟨h3,λs hs v hr=>?_⟩;obtain⟨vs,rfl,hl,hh⟩:=hr;refine⟨vs,rfl,O,λj u c hu L=>?_⟩;have hj:j<J cs:=by have:=(Qc.1 L).1;omega
  exact h5 s hs _ (Gh.fI s bN ke) j u _ c (Q8 hj) L (hh j u _ hu (Q8 hj))|ptr n off=>
  refine⟨.refl _,λs hs v hr=>?_⟩;simp only[u7];cases hk:bN n with
  |true=>exact⟨by grind,hr.2⟩|false=>exact trivial
 |ap n off k len i=>exact⟨.refl _,λs _ v hr=>trivial⟩|ep cs=>
  have ai:∀t,(λ_:bL=>I) t=Y->E.aZ t=I:=λt h=>by cases h
  obtain⟨h3,h4,h5⟩:=Mh (M:=M) (g:=g) (mine:=λ_=>I) (nm:=nm) ai ae cs 0 seen;refine⟨h3,λs hs v hr=>?_⟩;obtain⟨b,rfl,hh⟩:=hr;refine⟨b,rfl,λj c L=>?_⟩;have hj:j<J cs:=by have:=(Qc.1 L).1;rw[h4]at this;exact this
  obtain⟨u,h6,h7⟩:=hh j _ (Q8 hj);exact⟨u,h6,h5 s hs _ (Gh.fI s bN ke).toRen j u _ c (Q8 hj) L h7⟩|fn f=>exact⟨.refl _,λs _ v hr=>hr⟩|mp t n off=>exact⟨.refl _,λs _ v hr=>trivial⟩|vw t n=>exact⟨.refl _,λs _ v hr=>trivial⟩|clo f nms=>
  refine⟨.refl _,λs _ v hr=>?_⟩;simp only[u7];cases hk:nms.all bN with
  |true=>exact⟨λnm hn=>by grind,hr.2⟩|false=>exact trivial
 |nb p q=>exact⟨.refl _,λs _ v hr=>hr⟩|tup vs=>exact⟨.refl _,λs _ v hr=>trivial⟩|gd b v=>exact⟨.refl _,λs _ v hr=>trivial⟩|cY=>exact⟨.refl _,λs _ v hr=>trivial⟩
theorem ZkE{bN live2}(s:∀n,bN n=Y->live2 n=Y)(h:cT M B E g a w):∀lv(seen:List (bL×bL)),gv seen (qY E bN lv seen).2/\∀s',gv (qY E bN lv seen).2 s'->∀k,cB M (g.eS s' bN ke) Ym live2 (a.tmps.getD k undef) (rV (qY E bN lv seen).1 k)
 |[],seen=>⟨.refl _,λs' _ k=>trivial⟩|(k0,ks)::lv,seen=>by
  have aa:∀t,(λt=>!E.aZ t) t=Y->E.aZ t=I:=λt ht=>by simpa using ht
  obtain⟨h1,h2⟩:=ZFE (M:=M) (g:=g) (E:=E) (nm:=.e k0) (bN:=bN) (live:=λnm=>(E.mem nm).isSome) (live2:=live2) aa (λ_=>rfl) s ks (E.env k0) seen;obtain⟨h3,h4⟩:=ZkE s h lv (u7 (λt=>!E.aZ t) (.e k0) bN ks (E.env k0) seen).2;refine⟨h1.trans h3,λs' hs k=>?_⟩;simp only[qY,rV];cases hk:Nat.beq k0 k with|true=>have:=Qt hk;subst this;exact h2 s' (h3.trans hs) _ (h.env k0)|false=>exact h4 s' hs k
theorem Oh{bN}(h:cT M B E g a w):∀lm(seen:List (bL×bL)),(∀n∈lm,(E.mem n.1).isSome=Y->bN n.1=Y)->gv seen (nD E lm seen).2/\∀s',gv (nD E lm seen).2 s'->∀nm cs,lL (nD E lm seen).1 nm=A cs->∀j c,cs[j]?=A c->∃v,w.cell? ((g.ad nm).add j)=A v/\(g.eS s' bN ke).cA ((g.ad nm).add j)=A (.dU nm)/\cH M (g.eS s' bN ke) Ym v c
 |[],seen,_=>⟨.refl _,λs' _ nm cs s=>by trivial⟩|(n0,ks)::lm,seen,hk=>by
  have ae:∀t,(λt=>!E.aZ t) t=Y->E.aZ t=I:=λt ht=>by simpa using ht
  cases hm:E.mem n0 with
  |none=>simp only[nD,hm];exact Oh h lm seen λn s=>hk n (by simp[s])|some cs0=>
   obtain⟨h3,h4,h5⟩:=Ll (M:=M) (g:=g) (mine:=λt=>!E.aZ t) (nm:=Bf n0) ae (okT:=ke) λj=>by cases n0<;>rfl cs0 0 ks seen;obtain⟨h6,h7⟩:=Oh h lm (lG (λt=>!E.aZ t) (Bf n0) 0 ks cs0 seen).2 λn s=>hk n (by simp[s]);simp only[nD,hm];refine⟨h3.trans h6,λs' hs nm cs s j c L=>?_⟩;simp only[lL]at s;split at s
   .rename_i e;subst e;cases s;have hj:j<J cs0:=by have:=(Qc.1 L).1;omega
    obtain⟨v,h8,h9,af⟩:=h.mem n0 cs0 hm j _ (Q8 hj);refine⟨v,h8,?_,h5 s' (h6.trans hs) _ (Gh.fI s' bN ke) j v _ c (Q8 hj) L af⟩;have ah:=hk (n0,ks) (by simp) (by simp[hm]);simp only[Gh.eS,h9,ah,XE]
   grind
theorem Ro:∀s(seen:List (bL×bL))nm,(sX s nm&&(E.mem nm).isSome)=Y->(lL (nD E s seen).1 nm).isSome=Y
 |[],seen,nm,h=>by trivial|(n0,ks)::s,seen,nm,h=>by
  simp only[Q9]at h;cases hm:E.mem n0 with
  |none=>
   simp only[nD,hm];refine Ro s seen nm ?_;simp only[Q9];refine⟨?_,h.2⟩;have h1:=h.1;simp only[sX]at h1;grind|some cs0=>
   simp only[nD,hm,lL];split;.try rfl
   .rename_i e;refine Ro s _ nm ?_;simp only[Q9];refine⟨?_,h.2⟩;have h1:=h.1;simp only[sX]at h1;grind
theorem Zeo:∀{l}{x:Name×List (Sk U)},x∈l->sX l x.1=Y
 |(a,ks)::r,x,h=>by
  simp only[sX];split;.try rfl
  .rename_i e;rcases Qe.1 h with rfl|h;.grind
   .exact Zeo h
theorem ZJ8(h:cT M B E g a w)(lv)(lm):∃g',cT M B ((RH lv lm E).jR E.n) g' a w:=by
 let bN:Name->Bool:=λnm=>sX lm nm&&(E.mem nm).isSome;let live2:Name->Bool:=λnm=>(lL (RH lv lm E).mem nm).isSome;have am:∀n,bN n=Y->live2 n=Y:=λn hn=>Ro lm _ n hn;obtain⟨h1,h2⟩:=ZkE (bN:=bN) am h lv [];obtain⟨h3,h4⟩:=Oh (bN:=bN) h lm (qY E bN lv []).2 λn hn hs=>by simp only[bN,Zeo hn,hs,Bool.and_self]
 let s:=(nD E lm (qY E bN lv []).2).2;have aj:∀c,g.cA c=aT->(g.eS s bN ke).cA c=aT:=λc L=>by simp only[Gh.eS,L]
 have ab:∀c t,g.cA c=A (.cG t)↔(g.eS s bN ke).cA c=A (.cG t):=by
  intro c t;simp only[Gh.eS];cases hg:g.cA c with|none=>simp|some t0=>cases t0 with|dU nm=>grind|dW u=>simp_all|cG t0=>simp
 refine⟨g.eS s bN ke,⟨λc v hv=>?_,λc t ht=>?_⟩,?_,?_,?_,h.sz,h.df,λt x hx=>⟨rfl,?_⟩,λt ht _ _=>by simp only[Gh.eS,ke,ht,XR,Xi]⟩;.obtain⟨h5,h6⟩:=h.cN.im c v hv;grind
 .cases hg:g.cA c with|none=>grind|some t0=>exact h.cN.it c t0 hg
 .refine h.fr.step h.cN (jG.refl w λ_=>False) (λc L=>L.elim) (λ_ _ hv=>hv) (λc t=>ab c t) ?_ λ_=>rfl;intro b _ au o sp;cases hg:g.cA ⟨b,o,sp⟩with|none=>grind|some t=>grind
 .intro k;exact h2 s h3 k
 .intro nm cs hn j c L;exact h4 s (.refl _) nm cs hn j c L
 .have al:ZU (λ_=>aT) (mO E.ls s (G0 lv lm)) t=A x:=by have af:ZU (λ_=>aT) (match G0 lv lm with|[]=>[]|c=>mO E.ls s c) t=A x:=hx;cases L:G0 lv lm with|nil=>rw[L]at af;cases af|cons a b=>grind
  obtain⟨u,h5,h6,h7,h8⟩:=zJ _ al;obtain⟨_,hL⟩:=h.ls u x h7;have ai:(g.eS s bN ke).bs t=g.bs u:=by simp only[Gh.eS,ke,h8,XV,XE,zV,h5]
  have ae:∀c,g.cA c=A (.dW u)->(g.eS s bN ke).cA c=A (.dW t):=λc L=>by simp only[Gh.eS,L,h6,Qv]
  rcases hL with⟨e1,e2⟩|⟨b,len,cap,e1,e2,e3,e4,e5,e6⟩;.exact .inl ⟨ai.trans e1,e2⟩
  .refine .inr ⟨b,len,cap,ai.trans e1,e2,e3,e4,λi y hy j c L=>?_,λj a1 a2=>ae _ (e6 j a1 a2)⟩;obtain⟨v,e7,e8,e9,ak⟩:=e5 i y hy j c L;exact⟨v,e7,e8,e9,λhi=>ae _ (ak hi)⟩
theorem ZF4(h:cT M B E g a w)(k)(T):∃g',cT M B (E.mr k T) g' a w:=by
 unfold bY.mr;split;case h_2=>grind
 rename_i hk;split;case isFalse=>grind
 rename_i L;simp only[Q9,Xl,Xs]at L;have ab:=h.fresh (.z (3*k) 0) rfl L.1 L.2;have s:db g (g.cZ (.z (3*k) 0) (.slice aT 0 0,M.sz T)) E.aZ E.aZ (λnm=>(E.mem nm).isSome) λnm=>(E.mem nm).isSome:=(db.refl g E.aZ _).cZ ab;refine⟨g.cZ (.z (3*k) 0) (.slice aT 0 0,M.sz T),h.cN,h.fr.cZ,λi=>?_,λnm cs hm j c hj=>?_,h.sz,h.df,λt x hx=>?_,λt ht h1 h2=>?_⟩
 .simp only;cases hi:Nat.beq i k with
  |true=>
   have e:=Qt hi;subst e;have hr:=h.env i;rw[hk]at hr;have h1:b_ M g.m (a.tmps.getD i undef) .nils:=hr.1;have hv:a.tmps.getD i undef=.slice aT 0 0:=by generalize a.tmps.getD i undef=v at h1;cases h1;try rfl
   rw[hv];exact⟨.mref _ _ ⟨rfl,rfl⟩,λ_=>⟨M.sz T,by simp[Gh.cZ]⟩⟩|false=>exact(h.env i).bN s
 .obtain⟨v,h1,h2,h3⟩:=h.mem nm cs hm j c hj;exact⟨v,h1,h2,h3.bN s⟩
 .simp only at hx;split at hx;.rename_i e;subst e;cases hx;exact⟨L.2,.inl ⟨by simp[Gh.cZ],rfl,rfl⟩⟩
  .obtain⟨h1,h2⟩:=h.ls t x hx;exact⟨h1,h2.bN s h1 (λc v hv=>(h.cN.im c v hv).1) λ_ _=>rfl⟩
 .simp only at h1;split at h1;.cases h1
  .rename_i ah;simp only[Gh.cZ];rw[Q0 ah];exact h.fresh t ht h1 h2
theorem ZF3(h:cT M B E g a w)(nm)(j0)(T):∃g',cT M B (E.lI nm j0 T) g' a w:=by
 unfold bY.lI;split;case h_2=>grind
 rename_i cs af;split;case h_2=>grind
 rename_i aj;split;case isFalse=>grind
 rename_i L;simp only[Q9,Xl,Xs]at L;have ae:=h.fresh (.z (vv nm) j0) rfl L.1 L.2;have s:db g (g.cZ (.z (vv nm) j0) (.slice aT 0 0,M.sz T)) E.aZ E.aZ (λnm=>(E.mem nm).isSome) λnm=>(E.mem nm).isSome:=(db.refl g E.aZ _).cZ ae;have hl:(λn=>(if n=nm then A (cs.set j0 (.mref (.z (vv nm) j0)))else E.mem n:Option (List (C U))).isSome)=λn=>(E.mem n).isSome:=by
  funext n;by_cases e:n=nm;.subst e;simp[af]
  .simp[e]
 refine⟨g.cZ (.z (vv nm) j0) (.slice aT 0 0,M.sz T),h.cN,h.fr.cZ,λi=>?_,λn aq hm j c hj=>?_,h.sz,h.df,λt x hx=>?_,λt ht h1 h2=>?_⟩;.simp only[hl];exact(h.env i).bN s
 .simp only at hm;split at hm
  .rename_i e;subst e;cases hm;by_cases e:j=j0
   .subst e;have ar:=(Qc.1 aj).1;rw[KK]at hj;simp only[Xa,ar]at hj;cases hj;obtain⟨v,h1,h2,h3⟩:=h.mem n cs af j _ aj;have hv:v=.slice aT 0 0:=by have h4:=h3.1;cases h4;try rfl
    subst hv;exact⟨_,h1,h2,.mref _ _ ⟨rfl,rfl⟩,λ_=>⟨M.sz T,by simp[Gh.cZ]⟩⟩
   .rw[List.getElem?_set_ne (Ne.symm e)]at hj;obtain⟨v,h1,h2,h3⟩:=h.mem n cs af j c hj;exact⟨v,h1,h2,h3.bN s⟩
  .obtain⟨v,h1,h2,h3⟩:=h.mem n aq hm j c hj;exact⟨v,h1,h2,h3.bN s⟩
 .simp only at hx;split at hx;.rename_i e;subst e;cases hx;exact⟨L.2,.inl ⟨by simp[Gh.cZ],rfl,rfl⟩⟩
  .obtain⟨h1,h2⟩:=h.ls t x hx;exact⟨h1,h2.bN s h1 (λc v hv=>(h.cN.im c v hv).1) λ_ _=>rfl⟩
 .simp only at h1;split at h1;.cases h1
  .rename_i ao;simp only[Gh.cZ];rw[Q0 ao];exact h.fresh t ht h1 h2
theorem UP:∀lv{E g},cT M B E g a w->∃g',cT M B (E.ny lv) g' a w|[],E,g,h=>⟨g,h⟩|(.inl k,T)::r,E,g,h=>by obtain⟨g1,s⟩:=ZF4 h k T;exact UP r s|(.inr x,T)::r,E,g,h=>by obtain⟨g1,s⟩:=ZF3 h x.1 x.2 T;exact UP r s
theorem OL:∀lv(E:bY U),(E.ny lv).n=E.n|[],E=>rfl|(.inl k,T)::r,E=>by show((E.mr k T).ny r).n=E.n;rw[OL r];unfold bY.mr;grind|(.inr x,T)::r,E=>by show((E.lI x.1 x.2 T).ny r).n=E.n;rw[OL r];unfold bY.lI;grind
theorem ZzV(ok:bS P M)(h:cT M B E g a w)(lv)(lm):∃g',cT M B (vB M lv lm E id) g' a w:=by
 have aa:∀{E:bY U}{g:Gh},cT M B E g a w->∃g',cT M B (qL M E (λE=>qT M E id (vS lv lm E)) (qi lv)) g' a w:=by
  intro E g h;rw[NX];obtain⟨g1,s⟩:=ZAq ok h (qi lv);generalize qL M E id (qi lv)=st1 at s⊢;cases hn:vS lv lm st1 with|nil=>exact⟨g1,s⟩|cons t r=>exact TP ok (t::r) s
 unfold vB;cases hw:wW lm lv with|nil=>exact aa h|cons x r=>obtain⟨g1,s⟩:=UP (x::r) h;exact aa s
theorem ZDZ(lv)(s):(vB M lv s E id).n=E.n:=by
 have h:∀(E:bY U),(qL M E (λE=>qT M E id (vS lv s E)) (qi lv)).n=E.n:=by intro E;rw[NX];have h1:=ZFz (M:=M) (E:=E) (qi lv);generalize qL M E id (qi lv)=st1 at h1⊢;cases hn:vS lv s st1 with|nil=>exact h1|cons t r=>exact(ZGV _ st1).trans h1
 unfold vB;cases hw:wW s lv with|nil=>exact h E|cons x r=>exact(h _).trans (OL _ E)
theorem ZzW{α}(lv)(h)(k:bY U->α):vB M lv h E k=k (vB M lv h E id):=by
 unfold vB;generalize wW h lv=ws;have s:∀E:bY U,qL M E (λE=>qT M E k (vS lv h E)) (qi lv)=k (qL M E (λE=>qT M E id (vS lv h E)) (qi lv)):=by intro E;rw[NX,NX E λE=>qT M E id (vS lv h E)];exact Zsp _ _ _
 cases ws<;>exact s _
inductive c9 where|normal|exit(id:Nat)|ret
def c9.up:c9->Exit|.normal=>.normal|.exit id=>.exit id|.ret=>.ret
abbrev Zb(U):=Nat->List (Nat×List (Sk U))×List (Name×List (Sk U))
def c9.then{U:gP}(K:bT U->Prop)(Q:c9->bT U->Prop):c9->bT U->Prop|.normal,s=>K s|e,s=>Q e s
def c9.inBlock{U:gP}(id:Nat)(Q:c9->bT U->Prop):c9->bT U->Prop|.exit id',s=>if id'=id then Q .normal s else Q (.exit id') s|e,s=>Q e s
def Zi{U}(body:bT U->(c9->bT U->Prop)->Prop)(s:bT U)(Q:c9->bT U->Prop):Prop:=∃(aL:Nat->bT U->Prop)(n:Nat),aL n s/\∀k h,aL k h->body h (c9.then (λs2=>∃j,j<k/\aL j s2) Q)
def Ox:List Prop->Prop->Prop|[],q=>q|p::r,q=>p/\Ox r q
theorem Pn:∀{ps q},Ox ps q->eU ps/\q|[],_,h=>⟨trivial,h⟩|_::_,_,h=>⟨⟨h.1,(Pn h.2).1⟩,(Pn h.2).2⟩
def mkL(Γ:cD U)(o:Oper):Bool:=match o.op with
 |.call c=>match c.callee with
  |.value (.func f)=>match Γ f with
   |some s=>s.EG|none=>I
  |_=>I
 |_=>I
def isZ(o:Oper):Bool:=match o.op with
 |.call c=>match c.callee,c.argTypes.toList with
  |.builtin .append,[t,t']=>t !=t'|_,_=>I
 |_=>I
def Uy(Γ:cD U)(s:bT U)(ops:List Oper)(l:List (Nat×List (Sk U))×List (Name×List (Sk U))):Bool:=Γ.ml||!s.ls.isEmpty||(ops.any λo=>ZOs ops o||mkL Γ o||isZ o)||!(wW l.2 l.1).isEmpty||!(qi l.1).isEmpty
def DR{α}(M:cW U)(h:Bool)(l:List (Nat×List (Sk U))×List (Name×List (Sk U)))(E:bY U)(k:bY U->α):α:=bif h then vB M l.1 l.2 E k else k E
def ZOK(M:cW U)(h:Bool)(r:Option (List Prop×bY U))(l:List (Nat×List (Sk U))×List (Name×List (Sk U)))(Q:c9->bT U->Prop):Prop:=match r with|some (ps,E)=>DR M h l E λE=>Ox ps (Q .normal (RH l.1 l.2 E))|none=>False
theorem Zso{α}(h)(l)(k:bY U->α):DR M h l E k=k (DR M h l E id):=by
 cases h;.try rfl
 .exact ZzW _ _ _
theorem Zsn(ok:bS P M)(h:cT M B E g a w)(s)(l):(∃g',cT M B (DR M s l E id) g' a w)/\(DR M s l E id).n=E.n:=by
 cases s;.exact⟨⟨g,h⟩,rfl⟩
 .exact⟨ZzV ok h _ _,ZDZ _ _⟩
def ZHQ{U:gP}(v:Option (aA U))(x y:Prop):Prop:=match v with|some (.c (.bool b))=>(b=Y->x)/\(b=I->y)|some (.nb p q)=>(p->x)/\(q->y)|_=>False
def gD(M:cW U)(Γ:cD U)(h:Array Oper->bY U->Bool)(n:Nat)(lv:Zb U):Code->bT U->(c9->bT U->Prop)->Prop|.skip,s,Q=>Q .normal s|.region id ops dr,s,Q=>if(!dr||h ops (s.Rf n Γ.ml ops))=Y then ZOK M (Uy Γ s ops.toList (lv id)) (qM M Γ ops (!dr&&Uy Γ s ops.toList (lv id)) ops.toList (s.Rf n Γ.ml ops)) (lv id) Q else False|.seq x y,s,Q=>gD M Γ h n lv x s (c9.then (λs'=>gD M Γ h n lv y s' Q) Q)|.cond c x y,s,Q=>ZHQ ((s.jR n).bU c) (gD M Γ h n lv x s Q) (gD M Γ h n lv y s Q)|.block id c,s,Q=>gD M Γ h n lv c s (c9.inBlock id Q)|.loop c,s,Q=>Zi (gD M Γ h n lv c) s Q|.exit id,s,Q=>Q (.exit id) s|.ret,s,Q=>Q .ret s|_,_,_=>False
def zI(P:Program)(M:cW U)(Γ:cD U)(h:Array Oper->bY U->Bool):Prop:=∀B(E st':bY U)g(a:Act)w(id:Nat)ops(ps:List Prop)Q,h ops E=Y->cT M B E g a w->qM M Γ ops I ops.toList E=A (ps,st')->eU ps->(∀g' s w',cT M B st' g' s w'->Q .normal s w')->(Code.region id ops Y).wp P Q a w
theorem ZBm{Γ ak}(ok:bS P M)(hΓ:∀f s,Γ f=A s->aU P M f s)(a2:zI P M Γ ak){n lv}:∀c(s:bT U)Q(g:Gh)a(w:World),gD M Γ ak n lv c s Q->cT M B (s.jR n) g a w->c.wp P (λe a' w'=>∃e' s' g',e=c9.up e'/\Q e' s'/\cT M B (s'.jR n) g' a' w') a w:=by
 intro c;induction c with
 |skip=>exact λs Q g a w h hr=>wp_skip ⟨.normal,s,g,rfl,h,hr⟩|region id ops dr=>
  intro s Q g a w h hr;simp only[gD]at h;split at h;case isFalse=>exact h.elim
  rename_i hd;unfold ZOK at h;split at h;case h_2=>exact h.elim
  rename_i ps ae al;rw[Zso]at h;replace h:=Pn h;generalize Uy Γ s ops.toList (lv id)=li at*;have cC:∀g' a' w',cT M B ae g' a' w'->∃e' s' g',Exit.normal=c9.up e'/\Q e' s'/\cT M B (s'.jR n) g' a' w':=by
   intro g' a' w' aa;obtain⟨⟨g1,h1⟩,az⟩:=Zsn ok aa li (lv id);obtain⟨g2,h2⟩:=ZJ8 h1 (lv id).1 (lv id).2;have hn:ae.n=n:=by
    have:∀(l:List Oper)(E ae:bY U)(ps:List Prop),qM M Γ ops (!dr&&li) l E=A (ps,ae)->ae.n=E.n:=by
     intro l;induction l with
     |nil=>intro E ae ps he;simp only[qM,oP]at he;rw[he.2]|cons o l ih=>
      intro E ae ps he;rw[VB]at he;split at he;.cases he
      .split at he;.cases he
       .rename_i h2;simp only[oP]at he;obtain⟨_,rfl⟩:=he;rw[ih _ _ _ h2];have hp:((E.c_ M Γ (!dr&&li) o).dw o.dst ‹d_ U›).n=(E.c_ M Γ (!dr&&li) o).n:=by cases o.dst<;>rfl
        rw[hp,ZU5]
    exact this _ _ _ _ al
   rw[az,hn]at h2;exact⟨.normal,_,g2,rfl,h.2,h2⟩
  cases dr with|false=>exact wp_region_list (Zly ok hΓ ops.toList _ ae g a w ps (ZwU hr) al h.1 cC)|true=>simp only[XR,Kt]at hd;exact a2 B _ ae g a w id ops ps _ hd (ZwU hr) al h.1 cC
 |seq x y ihx ihy=>
  intro s Q g a w h hr;simp only[gD]at h;refine wp_seq (wp_mono (ihx s _ g a w h hr) ?_);rintro e a' w'⟨e',s',g',rfl,hq,aa⟩;cases e' with
  |normal=>exact ihy s' Q g' a' w' hq aa|exit id=>exact⟨.exit id,s',g',rfl,hq,aa⟩|ret=>exact⟨.ret,s',g',rfl,hq,aa⟩
 |cond c x y ihx ihy=>
  intro s Q g a w h hr;simp only[gD,ZHQ]at h;split at h;case h_3=>exact h.elim
  case h_2 p q hb=>
   have hv:∃b,a.eval c=.bool b/\(b=Y->p)/\(b=I->q):=by
    have aj:cB M g Ym (λnm=>((s.jR n).mem nm).isSome) (a.eval c) (.nb p q):=by cases c with
     |tmp t=>simp only[bY.bU,Option.some.injEq]at hb;rw[<-hb];exact hr.env t|const c=>exact IK hb|func f=>simp[bY.bU]at hb|global g=>trivial
    exact aj
   obtain⟨b,hv,hp,hq⟩:=hv;exact wp_cond_split hv (λht=>ihx s Q g a w (h.1 (hp ht)) hr) λht=>ihy s Q g a w (h.2 (hq ht)) hr
  rename_i b hb;have hv:a.eval c=.bool b:=by
   have aj:cB M g Ym (λnm=>((s.jR n).mem nm).isSome) (a.eval c) (.c (.bool b)):=by cases c with
    |tmp t=>simp only[bY.bU,Option.some.injEq]at hb;rw[<-hb];exact hr.env t|const c=>exact IK hb|func f=>simp[bY.bU]at hb|global g=>trivial
   exact b_.gh aj.1
  exact wp_cond_split hv (λht=>ihx s Q g a w (h.1 ht) hr) λht=>ihy s Q g a w (h.2 ht) hr|block id c ih=>
  intro s Q g a w h hr;simp only[gD]at h;refine wp_block (wp_mono (ih s _ g a w h hr) ?_);rintro e a' w'⟨e',s',g',rfl,hq,aa⟩;cases e' with|normal=>exact⟨.normal,s',g',rfl,hq,aa⟩|exit id'=>simp only[c9.inBlock,c9.up,Exit.inBlock]at*;grind|ret=>exact⟨.ret,s',g',rfl,hq,aa⟩
 |loop c ih=>
  intro s Q g a w h hr;simp only[gD,Zi]at h;obtain⟨aL,k,h0,h1⟩:=h;refine wp_loop_ghost (λk a w=>∃s g,aL k s/\cT M B (s.jR n) g a w) k ⟨s,g,h0,hr⟩ ?_;rintro k a w⟨s,g,hI,hr⟩;refine wp_mono (ih s _ g a w (h1 k s hI) hr) ?_;rintro e a' w'⟨e',s',g',rfl,hq,aa⟩;cases e' with|normal=>obtain⟨j,hj,a1⟩:=hq;exact⟨j,hj,s',g',a1,aa⟩|exit id=>exact⟨.exit id,s',g',rfl,hq,aa⟩|ret=>exact⟨.ret,s',g',rfl,hq,aa⟩
 |exit id=>exact λs Q g a w h hr=>wp_exit ⟨.exit id,s,g,rfl,h,hr⟩|ret=>exact λs Q g a w h hr=>wp_ret ⟨.ret,s,g,rfl,h,hr⟩|_=>intro s Q g a w h;simp[gD]at h
def ZTS(M:cW U)(Γ:cD U)(h:Array Oper->bY U->Bool)(n:Nat)(lv:Zb U)(y:Code)(Q:c9->bT U->Prop):c9->bT U->Prop:=c9.then (λs'=>gD M Γ h n lv y s' Q) Q
theorem Z5{U}{ι:Type}(f:ι->bT U)(aL:ι->Prop)(μ:ι->Nat){body s Q}(i0)(h:s=f i0)(h0:aL i0)(hb:∀i,aL i->body (f i) (c9.then (λs2=>∃j,s2=f j/\aL j/\μ j<μ i) Q)):Zi body s Q:=by refine⟨λk s=>∃i,s=f i/\aL i/\μ i=k,μ i0,⟨i0,h,h0,rfl⟩,?_⟩;grind
def sub:List Nat->Code->Code|[],c=>c|0::r,.seq a _=>sub r a|_::r,.seq _ b=>sub r b|0::r,.cond _ a _=>sub r a|_::r,.cond _ _ b=>sub r b|_::r,.block _ c=>sub r c|_::r,.loop c=>sub r c|_,_=>.skip
def cd(f:Func)(h:List Nat):Code:=sub h (f.body.getD .skip)
attribute[irreducible]gD
def Dh:Nat->List (aA U)->List (Nat×aA U)|_,[]=>[]|i,v::r=>(i,v)::Dh (i+1) r
def CC:Nat->List (List (C U))->List (Name×List (C U))|_,[]=>[]|k,cs::r=>(.x k,cs)::CC (k+1) r
def rJ(args:List (aA U))(aC:List (List (C U)))(aB:List (bL×LC U)):bT U:={env:=Dh 0 args,mem:=CC 0 aC,ls:=aB}
def Y5(args:List (aA U))(aC:List (List (C U))):bT U:=rJ args aC []
def ox:bL->Bool:=λ_=>Y
def AP(M:cW U)(E:bY U):ResultVar->Option (Bool×List (C U))
 |.tmp t=>match E.env t with
  |.c x=>A (I,[x])|.agg cs=>A (Y,cs)|_=>aT
 |.cell t ty=>match M.var ty with
  |some (ag,zs)=>match rd E (E.env t) ag (J zs)with
   |some (.c x)=>A (I,[x])|some (.agg cs)=>A (Y,cs)|_=>aT
  |none=>aT
def yA(M:cW U)(E:bY U):List ResultVar->Option (List (Bool×List (C U)))|[]=>A []|r::rs=>match AP M E r,yA M E rs with|some x,A l=>A (x::l)|_,_=>aT
def u5(i:Nat):List (Bool×List (C U))->List (bL×bL)->List (Bool×List (C U))×List (bL×bL)|[],seen=>([],seen)|(ag,cs)::r,seen=>((ag,(iF ox (λj=>.r 0 (16*i+j)) 0 cs seen).1)::(u5 (i+1) r (iF ox (λj=>.r 0 (16*i+j)) 0 cs seen).2).1,(u5 (i+1) r (iF ox (λj=>.r 0 (16*i+j)) 0 cs seen).2).2)
def ZDt:g_->g_->Prop|_,.bA=>True|.cU,_=>True|.bF t,.bF t'=>t=t'|_,_=>False
def Ds(M:cW U):C U->C U->Prop
 |.int k n,.int k' n'=>k=k'/\n=n'|.bool b,.bool b'=>b=b'|.nils,.nils=>True|.nils,.slice _ l _=>l=[]|.nilp,.nilp=>True|.nilp,.po _ o=>o=aT|.po T o,.po T' o'=>match M.dE T T' with
  |isTrue h=>h▸o=o'|isFalse _=>False
 |.slice T l tl,.slice T' l' tl'=>match M.dE T T' with
  |isTrue h=>h▸l=l'/\ZDt tl tl'|isFalse _=>False
 |.mref t,.mref t'=>t=t'|.xp k,.xp k'=>k=k'|_,_=>False
def qA(M:cW U):List (C U)->List (C U)->Prop|[],[]=>True|c::r,c'::r'=>Ds M c c'/\qA M r r'|_,_=>False
def EY(M:cW U):List (Bool×List (C U))->List (Bool×List (C U))->Prop|[],[]=>True|(b,cs)::r,(b',cs')::r'=>b=b'/\qA M cs cs'/\EY M r r'|_,_=>False
def Fj:aA U->Option (List (Bool×List (C U)))|.c x=>A [(I,[x])]|.agg cs=>A [(Y,cs)]|.tup ws=>if J ws=1 then aT else A ws|_=>aT
def ZVa(M:cW U)(x y:LC U):Prop:=match M.dE x.T y.T with|isTrue h=>h▸x.l=y.l/\x.f=y.f|isFalse _=>False
def zD(M:cW U)(ls:List (bL×LC U))(seen:List (bL×bL)):List (bL×LC U)->Prop
 |[]=>True|(t,y)::r=>(match nN seen t with
  |some u=>JN seen u=A t/\match ZU (λ_=>aT) ls u with
   |some x=>ZVa M x y|none=>False
  |none=>False)/\zD M ls seen r
def AK(M:cW U)(mem:List (Name×List (C U)))(ls:List (bL×LC U))(aB:List (bL×LC U)):(k:Nat)->List (List (C U))->List (bL×bL)->Prop|_,[],seen=>zD M ls seen aB|k,cs'::r,seen=>match lL mem (.x k)with|some cs=>qA M (lG ox (.x k) 0 [] cs seen).1 cs'/\AK M mem ls aB (k+1) r (lG ox (.x k) 0 [] cs seen).2|none=>False
def zP(M:cW U)(n:Nat)(h:List ResultVar)(r:aA U)(aC:List (List (C U)))(aB:List (bL×LC U))(s:bT U):Prop:=match yA M (s.jR n) h,Fj r with|some ws,A ws'=>EY M (u5 0 ws []).1 ws'/\AK M s.mem s.ls aB 0 aC (u5 0 ws []).2|_,_=>False
def Wa(M:cW U)(n:Nat)(h:List ResultVar)(r:aA U)(aC:List (List (C U)))(s:bT U):Prop:=zP M n h r aC [] s
def Lk(M:cW U)(n:Nat)(h:List ResultVar)(r:aA U)(aC:List (List (C U)))(aB:List (bL×LC U))(e:c9)(s:bT U):Prop:=match e with|.exit _=>False|_=>zP M n h r aC aB s
def ZB(M:cW U)(n:Nat)(h:List ResultVar)(r:aA U)(aC:List (List (C U)))(e:c9)(s:bT U):Prop:=match e with|.exit _=>False|_=>Wa M n h r aC s
theorem Zty{ls:List (bL×LC U)}{seen:List (bL×bL)}{g2}(h:cT M B E g a w)(ae:∀t,E.ls t=ZU (λ_=>aT) ls t)(s:Ren (λ_=>Y) g seen g2):∀{aB:List (bL×LC U)},zD M ls seen aB->∀t x,ZU (λ_=>aT) aB t=A x->gB M w g2 t x
 |[],_,t,x,hx=>by trivial|(t0,y)::aB,hE,t,x,hx=>by
  obtain⟨h1,h2⟩:=hE;simp only[ZU]at hx;split at hx
  .rename_i e;subst e;cases hx;split at h1;case h_2=>exact h1.elim
   rename_i u hu;obtain⟨h3,h4⟩:=h1;split at h4;case h_2=>exact h4.elim
   rename_i x ah;unfold ZVa at h4;split at h4;case h_2=>exact h4.elim
   rename_i hT _;obtain⟨T,l,f⟩:=x;obtain⟨T',l',f'⟩:=y;simp only at hT;subst hT;obtain⟨h5,h6⟩:=h4;simp only at h5 h6;subst h5 h6;obtain⟨_,hL⟩:=h.ls u _ ((ae u).trans ah);have ab:∀c,g.cA c=A (.dW u)->g2.cA c=A (.dW t):=λc L=>s.dW c u t L h3;rcases hL with⟨e1,e2⟩|⟨b,len,cap,e1,e2,e3,e4,e5,e6⟩;.exact .inl ⟨s.bs _ _ _ rfl hu e1,e2⟩
   .refine .inr ⟨b,len,cap,s.bs _ _ _ rfl hu e1,e2,e3,e4,λi y hy j c L=>?_,λj a1 a2=>ab _ (e6 j a1 a2)⟩;obtain⟨v,e7,e8,e9,ai⟩:=e5 i y hy j c L;exact⟨v,e7,by rw[s.m];exact e8,λhi=>by rw[s.m];exact e9 hi,λhi=>ab _ (ai hi)⟩
  .exact Zty h ae s h2 t x hx
theorem ZGw{g v c c'}(h:Ds M c c')(s:cH M g Ym v c):cH M g Ym v c':=by
 cases c<;>cases c'<;>simp only[Ds]at h;case int.int k n k' n'=>obtain⟨rfl,rfl⟩:=h;exact s
 case bool.bool=>subst h;exact s
 case nils.nils=>exact s
 case nilp.nilp=>exact s
 case nilp.po T o=>
  subst h;have h1:=s.1;cases h1;exact⟨.m7 T,trivial⟩
 case po.po T o T' o'=>
  split at h
  .rename_i hT _;subst hT;simp only at h;subst h;exact s
  .exact h.elim
 case mref.mref t t'=>subst h;exact s
 case xp.xp k k'=>subst h;exact s
 case nils.slice T l tl=>
  subst h;have h1:=s.1;cases h1;refine⟨.fa T tl,?_⟩;cases tl with
  |bA=>trivial|cU=>intro a len ab hv;simp at hv;omega|bF t=>intro _ a len ab hv;simp at hv
 case slice.slice T l tl T' l' tl'=>
  split at h
  .rename_i hT _;subst hT;obtain⟨h1,h2⟩:=h;simp only at h1;subst h1;refine⟨s.1.tl _,?_⟩;cases tl' with
   |bA=>trivial|cU=>cases tl<;>simp only[ZDt]at h2;exact s.2|bF t'=>cases tl with|bA=>exact h2.elim|cU=>intro _ b len ab hv j h3 h4;have:=s.2 _ _ _ hv;subst this;omega|bF t=>have:t=t':=h2;subst this;exact s.2
  .exact h.elim
theorem O1{g}:∀{vs cs s},qA M cs s->dJ M g Ym vs cs->dJ M g Ym vs s
 |vs,[],[],_,hr=>hr|vs,c::cs,c'::s,h,hr=>by
  obtain⟨h1,h2⟩:=h;match vs,hr with
  |v::vs,hr=>
   have h3:=O1 (vs:=vs) h2 ⟨by simpa using hr.1,λj v' c hv L=>hr.2 (j+1) v' c (by simpa using hv) (by simpa using L)⟩;refine⟨by simp[h3.1],λj v' d hv hd=>?_⟩;cases j with|zero=>simp at hv hd;subst hv hd;exact ZGw h1 (hr.2 0 _ _ rfl rfl)|succ j=>exact h3.2 j v' d (by simpa using hv) (by simpa using hd)
  |[],hr=>have:=hr.1;simp at this
theorem ZQO{g v ag cs cs'}(h:qA M cs cs')(hr:kO M g Ym v ag cs):kO M g Ym v ag cs':=by cases ag with|true=>obtain⟨vs,h1,s⟩:=hr;exact⟨vs,h1,O1 h s⟩|false=>obtain⟨c,rfl,s⟩:=hr;match cs',h with|[c'],h=>exact⟨c',rfl,ZGw h.1 s⟩
def gu(M:cW U)(g:Gh)(aZ:bL->Bool)(vs:List Value)(ws:List (Bool×List (C U))):Prop:=J vs=J ws/\∀(j:Nat)u w,vs[j]?=A u->ws[j]?=A w->kO M g aZ u w.1 w.2
theorem gu.cons{g aZ v w vs ws}(h:kO M g aZ v w.1 w.2)(s:gu M g aZ vs ws):gu M g aZ (v::vs) (w::ws):=by refine⟨by simp[s.1],λj u x hu hx=>?_⟩;cases j with|zero=>grind|succ j=>exact s.2 j u x (by simpa using hu) (by simpa using hx)
theorem gu.l5{g aZ vs w ws}(h:gu M g aZ vs (w::ws)):∃v r,vs=v::r/\kO M g aZ v w.1 w.2/\gu M g aZ r ws:=by match vs,h with|v::r,h=>exact⟨v,r,rfl,h.2 0 _ _ rfl rfl,by simpa using h.1,λj u x s hx=>h.2 (j+1) u x (by simpa using s) (by simpa using hx)⟩|[],h=>have:=h.1;simp at this
theorem ZGv{g}:∀{vs ws s},EY M ws s->gu M g Ym vs ws->gu M g Ym vs s|vs,[],[],_,hr=>hr|vs,(b,cs)::ws,(b',cs')::s,h,hr=>by obtain⟨rfl,h1,h2⟩:=h;obtain⟨v,r,rfl,h3,h4⟩:=hr.l5;exact .cons (ZQO h1 h3) (ZGv h2 h4)
theorem Zmv(hd:∀t,ox t=Y->E.aZ t=I):∀(ws:List (Bool×List (C U)))i(seen:List (bL×bL)),gv seen (u5 i ws seen).2/\∀s',gv (u5 i ws seen).2 s'->∀g2,Ren (λ_=>Y) g s' g2->∀vs,gu M g E.aZ vs ws->gu M g2 Ym vs (u5 i ws seen).1
 |[],i,seen=>⟨.refl _,λs' _ g2 _ vs h=>⟨h.1,λj u w _ hw=>by trivial⟩⟩|(ag,cs)::ws,i,seen=>by
  obtain⟨h3,h4,h5⟩:=Mh (M:=M) (g:=g) (okT:=λ_=>Y) (mine:=ox) (nm:=λj=>.r 0 (16*i+j)) hd (λ_=>rfl) cs 0 seen;obtain⟨h6,h7⟩:=Zmv hd ws (i+1) (iF ox (λj=>.r 0 (16*i+j)) 0 cs seen).2;refine⟨h3.trans h6,λs' hs g2 hg vs h=>?_⟩;obtain⟨v,r,rfl,h8,h9⟩:=h.l5;refine .cons ?_ (h7 s' hs g2 hg r h9);have hL:∀us,dJ M g E.aZ us cs->dJ M g2 Ym us (iF ox (λj=>.r 0 (16*i+j)) 0 cs seen).1:=λus hu=>⟨by rw[h4];exact hu.1,λj u c ai L=>by
    have hj:j<J cs:=by have:=(Qc.1 L).1;omega
    exact h5 s' (h6.trans hs) g2 hg j u _ c (Q8 hj) L (hu.2 j u _ ai (Q8 hj))⟩;cases ag with
  |true=>obtain⟨us,s,af⟩:=h8;exact⟨us,s,hL _ af⟩|false=>obtain⟨c,s,af⟩:=h8;simp only at s;subst s;have:=hL [v] ⟨rfl,λj u c hu L=>by grind⟩;simp only[iF]at this⊢;exact⟨_,rfl,this.2 0 _ _ rfl rfl⟩
theorem ZzC(h:cT M B E g a w)(s:E.aZ=Ym){mem:List (Name×List (C U))}(hm:∀nm,E.mem nm=lL mem nm){ls aB:List (bL×LC U)}:∀(aC:List (List (C U)))k(seen:List (bL×bL)),AK M mem ls aB k aC seen->∃s',gv seen s'/\zD M ls s' aB/\∀s2,gv s' s2->∀g2,tL (λ_=>Y) g s2 g2->∀i cs,aC[i]?=A cs->∀j c,cs[j]?=A c->∃v,w.cell? ((g.ad (.x (k+i))).add j)=A v/\g.cA ((g.ad (.x (k+i))).add j)=A (.dU (.x (k+i)))/\cH M g2 Ym v c
 |[],k,seen,hx=>⟨seen,.refl _,hx,λs2 _ g2 _ i cs hi=>by simp at hi⟩|cs'::aC,k,seen,hx=>by
  simp only[AK]at hx;split at hx
  .rename_i cs al;obtain⟨h1,h2⟩:=hx;have hd:∀t,ox t=Y->E.aZ t=I:=λt _=>by rw[s];try rfl
   obtain⟨h3,h4,h5⟩:=Ll (M:=M) (g:=g) (okT:=λ_=>Y) (mine:=ox) (nm:=.x k) hd (λ_=>rfl) cs 0 [] seen;obtain⟨s',h6,am,h7⟩:=ZzC h s hm aC (k+1) _ h2;refine⟨s',h3.trans h6,am,λs2 hs g2 hg i a8 hi j c hj=>?_⟩;cases i with
   |zero=>
    simp at hi;subst hi;have ae:E.mem (.x k)=A cs:=by rw[hm];exact al
    let f:Nat->Value:=λj=>(w.cell? ((g.ad (.x k)).add j)).getD undef;have hf:∀j c,cs[j]?=A c->w.cell? ((g.ad (.x k)).add j)=A (f j)/\g.cA ((g.ad (.x k)).add j)=A (.dU (.x k))/\cH M g E.aZ (f j) c:=λj c L=>by
     obtain⟨v,h8,h9,ax⟩:=h.mem _ _ ae j c L;grind
    have hR:dJ M g2 Ym ((List.range (J cs)).map f) (lG ox (.x k) 0 [] cs seen).1:=by
     have ao:=dJ.jL (M:=M) (g:=g) (E:=E) (f:=f) λj c L=>(hf j c L).2.2;refine⟨by grind,λj u c hu L=>?_⟩;have hj:j<J cs:=by have:=(Qc.1 L).1;omega
     exact h5 s2 (h6.trans hs) g2 hg j u _ c (Q8 hj) L (ao.2 j u _ hu (Q8 hj))
    have ah:=O1 h1 hR;have af:j<J cs:=by have a6:=(Qc.1 hj).1;have:=ah.1;simp at this;omega
    obtain⟨az,a7,_⟩:=hf j _ (Q8 af);refine⟨f j,O,O,ah.2 j _ c (by simp[af]) hj⟩|succ i=>grind
  grind
theorem ZkW:∀(args:List (aA U))i k,rV (Dh i args) k=if i<=k then args[k-i]?.getD .cY else .cY
 |[],i,k=>by simp[Dh,rV]|v::args,i,k=>by
  simp only[Dh,rV];cases hk:Nat.beq i k with|true=>simp_all|false=>
   have h:i≠k:=λe=>by simp_all
   simp only[Xi];rw[ZkW args (i+1) k];grind
theorem Nb:∀(aC:List (List (C U)))k(nm:Name),lL (CC k aC) nm=match nm with|.x i=>if k<=i then aC[i-k]? else aT|.bE _=>aT
 |[],k,nm=>by cases nm<;>simp[CC,lL]|cs::aC,k,nm=>by
  simp only[CC,lL];cases nm with
  |bE s=>simp[Nb aC (k+1) (.bE s)]|x i=>
   by_cases h:k=i;.subst h;simp
   .rw[Q0 λe=>by grind,Nb aC (k+1) (.x i)];grind
theorem ZA4(ok:bS P M)(h:cT M B E g a w){rv}{x:Bool×List (C U)}(s:AP M E rv=A x):∃v,(match rv with|.tmp t=>pure (a.tmps.getD t undef)|.cell t ty=>do loadVar ty (<-asAddr (a.tmps.getD t undef)):Sem Value).run P w=.ok v w/\kO M g E.aZ v x.1 x.2:=by cases rv with
 |tmp t=>
  have hr:=h.env t;simp only[AP]at s;split at s<;>simp only[Option.some.injEq,reduceCtorEq]at s;.rename_i c L;rw[L]at hr;subst s;exact⟨_,rfl,c,rfl,hr⟩
  .rename_i cs L;rw[L]at hr;subst s;exact⟨_,rfl,hr⟩|cell t ty=>
  have hr:=h.env t;simp only[AP]at s;split at s;.rename_i ag zs hv;cases hrd:rd E (E.env t) ag (J zs)with
   |none=>grind|some y=>
    obtain⟨v,h1,h2⟩:=TR (w:=w) ok h hv hr hrd;refine⟨v,?_,?_⟩
    .have hp:∃b,a.tmps.getD t undef=.pointer (A b):=by cases hx:E.env t with
      |ptr nm off=>rw[hx]at hr;exact⟨_,hr.2⟩|ep cs=>rw[hx]at hr;obtain⟨b,hb,_⟩:=hr;grind|ap nm off k len i=>rw[hx]at hr;exact⟨_,hr.2.2⟩|_=>rw[hx]at hrd;simp[rd]at hrd
     obtain⟨b,hb⟩:=hp;rw[hb]at h1;show(do let x<-asAddr (a.tmps.getD t undef);loadVar ty x:Sem Value).run P w=_;rw[hb];trivial
    .rw[hrd]at s;cases y<;>simp only[Option.some.injEq,reduceCtorEq]at s;.subst s;exact⟨_,rfl,h2⟩
     .subst s;exact h2
  .cases s
theorem Zmw(ok:bS P M)(h:cT M B E g a w):∀{s:List ResultVar}{ws:List (Bool×List (C U))},yA M E s=A ws->∃vs,(s.mapM λrv=>(match rv with|.tmp t=>pure (a.tmps.getD t undef)|.cell t ty=>do loadVar ty (<-asAddr (a.tmps.getD t undef)):Sem Value)).run P w=.ok vs w/\gu M g E.aZ vs ws
 |[],ws,he=>by simp only[yA,Option.some.injEq]at he;subst he;exact⟨[],by simp,rfl,λj u w hu=>by simp at hu⟩|r::s,ws,he=>by
  simp only[yA]at he;split at he
  .rename_i x l hx hl;simp only[Option.some.injEq]at he;subst he;obtain⟨v,h1,h2⟩:=ZA4 (w:=w) ok h hx;obtain⟨vs,h3,h4⟩:=Zmw ok h hl;refine⟨v::vs,?_,.cons h2 h4⟩;simp_all
  .cases he
theorem ZAi{g}{live:Name->Bool}{r:aA U}{ws:List (Bool×List (C U))}{vs:List Value}(s:Fj r=A ws)(h:gu M g Ym vs ws):cB M g Ym live (if hs:vs.toArray.size=1 then vs.toArray[0]else .tuple vs.toArray) r:=by
 cases r<;>simp only[Fj,Option.some.injEq,reduceCtorEq]at s;case c x=>subst s;obtain⟨v,r,rfl,h1,h2⟩:=h.l5;have:r=[]:=Q7 (by simpa using h2.1);subst this;obtain⟨c,L,hr⟩:=h1;cases L;exact hr
 case agg cs=>
  subst s;obtain⟨v,r,rfl,h1,h2⟩:=h.l5;have:r=[]:=Q7 (by simpa using h2.1);subst this;exact h1
 case tup ws'=>
  split at s;.cases s
  .rename_i hl;simp only[Option.some.injEq]at s;subst s;have ae:vs.toArray.size≠1:=by have:=h.1;simpa[this]using hl
   rw[QC ae];exact⟨_,rfl,by simpa using h.1,λj u w hu hw=>h.2 j u w (by simpa using hu) hw⟩
def Gy(M:cW U)(a b:C U):Prop:=∀g v,cH M g Ym v a->cH M g Ym v b
def En(M:cW U)(a b:aA U):Prop:=∀g live v,cB M g Ym live v a->cB M g Ym live v b
structure eh(M:cW U)(args args':List (aA U))(aC X':List (List (C U))):Prop where
 len:args.length=args'.length
 args:∀(j:Nat)x y,args[j]?=some x->args'[j]?=some y->En M x y
 mj:aC.length=X'.length
 xl:∀(k:Nat)x y,aC[k]?=some x->X'[k]?=some y->x.length=y.length
 x:∀(k:Nat)x y,aC[k]?=some x->X'[k]?=some y->∀(j:Nat)c c',x[j]?=some c->y[j]?=some c'->Gy M c c'
theorem ib.qQ{w g}{vs:List Value}{args aa:List (aA U)}{aC X':List (List (C U))}{aB L':List (bL×LC U)}(h:ib M w g vs args aC aB)(b:eh M args aa aC X')(hL:∀t x,ZU (λ_=>aT) L' t=A x->ZU (λ_=>aT) aB t=A x):ib M w g vs aa X' L':=by
 refine⟨h.cN,h.Da,h.len.trans b.len,λj v y hv hy=>?_,λk cs hk j c hj=>?_,h.bs,λt x hx=>h.ls t x (hL t x hx)⟩
 .have hj:j<J args:=by have:=(Qc.1 hy).1;have:=b.len;omega
  have hx:=Q8 hj;have:=b.args j _ y hx hy g _ v (h.args j v _ hv hx);have hl:tW X'=tW aC:=by
   funext nm;cases nm with|bE s=>rfl|x k=>have ak:=b.mj;show(X'[k]?).isSome=(aC[k]?).isSome;grind
  grind
 .have af:k<J aC:=by have:=(Qc.1 hk).1;have:=b.mj;omega
  have hx:=Q8 af;have ah:j<J aC[k]:=by have:=(Qc.1 hj).1;have:=b.xl k _ _ hx hk;omega
  have L:=Q8 ah;obtain⟨v,h1,h2,h3⟩:=h.x k _ hx j _ L;exact⟨v,h1,h2,b.x k _ _ hx hk j _ c L hj g v h3⟩
theorem eh.refl(args)(aC):eh M args args aC aC:=⟨rfl,λj x y hx s=>by rw[hx]at s;cases s;exact λ_ _ _ h=>h,rfl,λk x y hx s=>by grind,λk x y hx s j c c' L aa=>by rw[hx]at s;cases s;rw[L]at aa;cases aa;exact λ_ _ h=>h⟩
theorem Zlv{Γ aa}(ok:bS P M)(hΓ:∀f s,Γ f=A s->aU P M f s)(aq:zI P M Γ aa){f fn c}(lv)(hf:P.funcs[f]?=A fn)(hb:fn.body=A c){args aC aB w g vs}(aI:ib M w g vs args aC aB)(hn:J args<=fn.ntmps){Q}(af:gD M Γ aa fn.ntmps lv c (rJ args aC aB) Q){R}(hq:∀e' s' g' a' w',Q e' s'->cT M ⟨w,g.m,g.cA,λk=>g.ad (.x k)⟩ (s'.jR fn.ntmps) g' a' w'->(∀id,e'≠.exit id)/\a'.defers=[]/\∃v,(results fn a'.tmps).run P w'=.ok v w'/\R (.returned v) w'):Calls P f vs.toArray w R:=by
 let B:fN:=⟨w,g.m,g.cA,λk=>g.ad (.x k)⟩;have ax:J vs<=fn.ntmps:=by rw[aI.len];exact hn
 have ae:cT M B ((rJ args aC aB).jR fn.ntmps) g {tmps:=vs.toArray++Array.replicate (fn.ntmps-vs.toArray.size) undef,defers:=[]} w:=by
  refine⟨aI.cN,⟨⟨rfl,rfl,rfl,Qa _⟩,λ_=>rfl,λ_ _ h=>h,λc t h=>⟨h,rfl⟩,λc t h=>h,λb _ _=>⟨rfl,λ_ _=>rfl⟩,λ_ _=>rfl⟩,?_,?_,?_,rfl,λt x hx=>⟨rfl,aI.ls t x hx⟩,λt ht _ _=>aI.bs t ht⟩
  .intro k;have hl:(λnm:Name=>(((rJ args aC aB).jR fn.ntmps).mem nm).isSome)=tW aC:=by
    funext nm;simp only[bT.jR,rJ,Nb];cases nm<;>simp[tW]
   rw[hl];simp only[bT.jR,rJ,ZkW,X3,Xa,Nat.sub_zero];cases hx:args[k]? with
   |none=>exact trivial|some x=>
    have hk:k<J vs:=by rw[aI.len];exact(Qc.1 hx).1
    have hv:vs[k]?=A vs[k]:=Q8 hk;have:=aI.args k _ x hv hx;have hg:(vs.toArray++Array.replicate (fn.ntmps-vs.toArray.size) undef).getD k undef=vs[k]:=by simp[Array.getD,hk];intro h;omega
    grind
  .intro nm cs hm j c L;simp only[bT.jR,rJ,Nb]at hm;cases nm with|bE s=>simp at hm|x k=>simp at hm;exact aI.x k cs hm j c L
  .simp only[bT.jR];grind
 have am:=ZBm (B:=B) ok hΓ aq (n:=fn.ntmps) (lv:=lv) c _ _ g _ w af ae;refine calls_of_wp (R:=R) (args:=vs.toArray) hf hb (wp_mono am ?_);rintro e a' w'⟨e',s',g',rfl,hQ,hr⟩;obtain⟨h0,h1,h2⟩:=hq e' s' g' a' w' hQ hr;cases e' with|normal=>trivial|ret=>trivial|exit id=>grind
theorem OB{Γ}{ai:Array Oper->bY U->Bool}(ok:bS P M)(hΓ:∀f s,Γ f=A s->aU P M f s)(ba:zI P M Γ ai){f}{fn:Func}{c}{s:Fs U}(lv:Zb U)(hf:P.funcs[f]?=A fn)(hb:fn.body=A c)(ao:(fn.name== "runtime.NumGoroutine")=I)(aq:∀args aC aB ps r X' L',s.m_ args aC aB=A (ps,r,X',L')->eU ps->∃args' X0 L0,eh M args args' aC X0/\(∀t x,ZU (λ_=>aT) L0 t=A x->ZU (λ_=>aT) aB t=A x)/\J args'<=fn.ntmps/\gD M Γ ai fn.ntmps lv c (rJ args' X0 L0) (Lk M fn.ntmps fn.results.toList r X' L')):aU P M f s:=by
 refine⟨⟨fn,hf,by simp[hb],ao⟩,?_⟩;intro ar X1 L1 ps r X' L' hs a6 hX w g vs E1;obtain⟨args,aC,aB,aj,hL,hn,av⟩:=aq ar X1 L1 ps r X' L' hs a6;have aI:=E1.qQ aj hL;refine Zlv ok hΓ ba lv hf hb aI hn av ?_
 .intro e' s' g' a' w' hQ hr;have hE:zP M fn.ntmps fn.results.toList r X' L' s':=by cases e'<;>first|exact hQ|exact hQ.elim
  refine⟨λid e=>by subst e;exact hQ,?_⟩;refine⟨hr.df,?_⟩;unfold zP at hE;split at hE;case h_2=>exact hE.elim
  rename_i ws bi au al;obtain⟨a7,hx⟩:=hE;obtain⟨us,h1,h2⟩:=Zmw (w:=w') ok hr au;have hd:∀t,ox t=Y->(s'.jR fn.ntmps).aZ t=I:=λt _=>rfl;obtain⟨h3,h4⟩:=Zmv (M:=M) (g:=g') (E:=s'.jR fn.ntmps) hd ws 0 [];obtain⟨sx,h5,a9,h6⟩:=ZzC hr rfl (mem:=s'.mem) (λ_=>rfl) X' 0 _ hx;let bN:Name->Bool:=λnm=>match nm with|.x k=>decide (k<X'.length)|.bE _=>I;have aa:∀c,g'.cA c=aT->(g'.eS sx bN λ_=>Y).cA c=aT:=λc L=>by simp only[Gh.eS,L]
  have ak:∀c t,g'.cA c=A (.cG t)↔(g'.eS sx bN λ_=>Y).cA c=A (.cG t):=by intro c t;simp only[Gh.eS];cases hg:g'.cA c with|none=>simp|some t0=>cases t0 with|dU nm=>cases hk:bN nm<;>simp[hk]|dW u=>cases hk:JN sx u<;>simp[hk]|cG t0=>simp
  have hW:=h4 sx h5 _ (Gh.fI sx bN λ_=>Y).toRen us h2;have ax:=ZAi (live:=λ_=>I) al (ZGv a7 hW);refine⟨_,?_,_,g'.eS sx bN λ_=>Y,rfl,⟨λc v hv=>?_,λc t ht=>?_⟩,?_,?_,?_,ax,?_,Zty hr (λ_=>rfl) (Gh.fI sx bN λ_=>Y).toRen a9⟩
  .simp only[results,Sem.run_bind];have e1:fn.results=fn.results.toList.toArray:=by simp
   rw[e1,List.mapM_toArray];simp only[Sem.run_map,Sem.run_pure];exact congrArg (λr:Result (List Value)=>(r.andThen λa w'=>Result.ok a.toArray w').andThen λa w'=>Result.ok (if h:a.size=1 then a[0]else Value.tuple a) w') h1
  .obtain⟨h7,h8⟩:=hr.cN.im c v hv;exact⟨h7,aa c h8⟩
  .cases hg:g'.cA c with
   |none=>rw[aa c hg]at ht;cases ht|some t0=>exact hr.cN.it c t0 hg
  .have F:Fr ⟨w,g.m,g.cA,λk=>g.ad (.x k)⟩ (g'.eS sx bN λ_=>Y) w':=by
    refine hr.fr.step hr.cN (jG.refl w' λ_=>False) (λc L=>L.elim) (λ_ _ hv=>hv) (λc t=>ak c t) ?_ λ_=>rfl;intro b _ aw o sp;cases hg:g'.cA ⟨b,o,sp⟩with
    |none=>exact aa _ hg|some t=>
     obtain⟨t',rfl⟩:=aw o sp t hg;exact(ak _ _).1 hg
   exact⟨F.dH,λ_=>rfl,F.mono,F.cG,F.fT,F.gn,F.gC⟩
  .intro c t ht;simp only[Gh.eS]at ht;split at ht;.rename_i u hu;cases hn:JN sx u with|none=>simp[hn]at ht|some u'=>simp[hn]at ht;exact .inr (.inr ⟨u',ht.symm⟩)
   .rename_i nm bg;cases hk:bN nm with|false=>simp[hk]at ht|true=>simp[hk]at ht;subst ht;cases nm with|bE s=>simp[bN]at hk|x k=>exact .inr (.inl ⟨k,by simpa[bN]using hk,rfl⟩)
   .cases ht;exact .inl ⟨_,rfl⟩
   .cases ht
  .exact λk _=>hr.fr.sO k
  .intro k cs hk j c L;obtain⟨v,h7,h8,h9⟩:=h6 sx (.refl _) _ (Gh.fI sx bN λ_=>Y) k cs hk j c L;rw[Xh]at h7 h8;refine⟨v,h7,?_,h9⟩;have a5:k<X'.length:=(Qc.1 hk).1;show(g'.eS sx bN λ_=>Y).cA ((g'.ad (.x k)).add j)=_;simp only[Gh.eS,h8,bN,a5,decide_true,XE]
theorem ZhS{Γ}{ab}(ok:bS P M)(hΓ:∀f s,Γ f=A s->aU P M f s)(aj:zI P M Γ ab){f}{fn}{c}{s}(lv)(hf:P.funcs[f]?=A fn)(hb:fn.body=A c)(ah:(fn.name== "runtime.NumGoroutine")=I)(ae:∀args aC ps r X',s.fn args aC=A (ps,r,X')->eU ps->∃aa X0,eh M args aa aC X0/\J aa<=fn.ntmps/\gD M Γ ab fn.ntmps lv c (Y5 aa X0) (ZB M fn.ntmps fn.results.toList r X'))(hd:s.m_=wL s.fn:=by rfl):aU P M f s:=by
 refine OB ok hΓ aj lv hf hb ah ?_;intro args aC aB ps r X' L' hs ai;rw[hd]at hs;unfold wL at hs;split at hs
 .split at hs
  .rename_i h1;cases hs;obtain⟨aa,X0,h2,h3,h4⟩:=ae args aC _ _ _ h1 ai;exact⟨aa,X0,[],h2,λt x hx=>hx,h3,h4⟩
  .cases hs
 .cases hs
def Uo(M:cW U)(mem:List (Name×List (C U))):Nat->List (List (C U))->Prop|_,[]=>True|k,c::r=>(match lL mem (.x k)with|some c0=>qA M c0 c|none=>False)/\c.all C.plain=Y/\Uo M mem (k+1) r
theorem Zws{mem}:∀{aC k0},Uo M mem k0 aC->∀k c,aC[k]?=A c->(∃c0,lL mem (.x (k0+k))=A c0/\qA M c0 c)/\c.all C.plain=Y
 |[],_,_,k,c,hk=>by simp at hk|c1::r,k0,h,0,c,hk=>by
  simp at hk;subst hk;refine⟨?_,h.2.1⟩;have s:=h.1;split at s;.exact⟨_,‹_›,s⟩
  .exact s.elim|c1::r,k0,h,k+1,c,hk=>by have:=Zws h.2.2 k c (by simpa using hk);rwa[show k0+1+k=k0+(k+1)by omega]at this
def W8(M:cW U)(n:Nat)(h:List ResultVar)(aC:List (List (C U)))(cs:List (C U))(s:bT U):Prop:=match h with
 |[.tmp t]=>match(s.jR n).env t with
  |.ptr (.bE d) 0=>match lL s.mem (.bE d)with
   |some cs0=>qA M cs0 cs/\cs.all C.plain=Y/\Uo M s.mem 0 aC|none=>False
  |_=>False
 |_=>False
def Pp(M:cW U)(n:Nat)(h:List ResultVar)(aC:List (List (C U)))(cs:List (C U))(e:c9)(s:bT U):Prop:=match e with|.exit _=>False|_=>W8 M n h aC cs s
theorem ZqL{Γ}{ah}(ok:bS P M)(hΓ:∀f s,Γ f=A s->aU P M f s)(bc:zI P M Γ ah){f}{fn}{c}{s}(lv)(hf:P.funcs[f]?=A fn)(hb:fn.body=A c)(aw:(fn.name== "runtime.NumGoroutine")=I)(av:∀args aC ps r X',s.fn args aC=A (ps,r,X')->eU ps->∃args' X0 X1 cs,r=.ptr (.x X1.length) 0/\X'=X1++[cs]/\eh M args args' aC X0/\J args'<=fn.ntmps/\gD M Γ ah fn.ntmps lv c (Y5 args' X0) (Pp M fn.ntmps fn.results.toList X1 cs))(hd:s.m_=wL s.fn:=by rfl):aU P M f s:=by
 refine tn ⟨fn,hf,by simp[hb],aw⟩ hd ?_;intro ar X2 ps r X' hs bi _ w g vs E1;obtain⟨args,X0,X1,cs,rfl,rfl,ai,hn,a6⟩:=av ar X2 ps r X' hs bi;have aI:=E1.qQ (L':=[]) ai λt x hx=>hx;refine Zlv ok hΓ bc lv hf hb aI hn a6 ?_;intro e' s' g' a' w' hQ hr;have hE:W8 M fn.ntmps fn.results.toList X1 cs s':=by cases e'<;>first|exact hQ|exact hQ.elim
 refine⟨λid e=>by subst e;exact hQ,hr.df,?_⟩;unfold W8 at hE;split at hE;case h_2=>exact hE.elim
 rename_i t bm;split at hE;case h_2=>exact hE.elim
 rename_i d ht;split at hE;case h_2=>exact hE.elim
 rename_i bn be;obtain⟨aq,aj,bl⟩:=hE;have hv:=hr.env t;rw[ht]at hv;have hv:a'.tmps.getD t undef=.pointer (A ((g'.ad (.bE d)).add 0)):=hv.2;let re:Name->Option Nat:=λnm=>if nm=.bE d then A X1.length else match nm with|.x k=>if k<X1.length then A k else aT|.bE _=>aT;let g1:Gh:={m:=g'.m,cA:=λc=>match g'.cA c with|some (.cG t)=>A (.cG t)|some (.dU nm)=>(re nm).map λk=>.dU (.x k)|_=>aT,ad:=λnm=>if nm=.x X1.length then g'.ad (.bE d)else g'.ad nm,bs:=g'.bs};have ax:∀c t,g1.cA c=A (.cG t)↔g'.cA c=A (.cG t):=by intro c t;simp only[g1];cases hg:g'.cA c with|none=>simp|some t0=>cases t0 with
   |dU nm=>cases re nm<;>simp|dW u=>simp|cG t0=>simp
 have au:∀c,g'.cA c=aT->g1.cA c=aT:=λc L=>by simp only[g1,L]
 have bo:∀nm k,re nm=A k->k<X1.length+1:=by
  intro nm k hk;simp only[re]at hk;split at hk;.cases hk;omega
  .split at hk
   .split at hk;.cases hk;omega
    .cases hk
   .cases hk
 have ao:∀nm k c0 c,lL s'.mem nm=A c0->re nm=A k->g1.ad (.x k)=g'.ad nm->qA M c0 c->c.all C.plain=Y->∀(j:Nat)cc,c[j]?=A cc->∃v,w'.cell? ((g1.ad (.x k)).add j)=A v/\g1.cA ((g1.ad (.x k)).add j)=A (.dU (.x k))/\cH M g1 Ym v cc:=by
  intro nm k c0 c hl hk bj aq aj j cc hj;rw[QZ]at aj;let fz:Nat->Value:=λj=>(w'.cell? ((g'.ad nm).add j)).getD undef;have hf:∀j c,c0[j]?=A c->w'.cell? ((g'.ad nm).add j)=A (fz j)/\g'.cA ((g'.ad nm).add j)=A (.dU nm)/\cH M g' Ym (fz j) c:=λj c L=>by
   obtain⟨v,h8,h9,bk⟩:=hr.mem _ _ hl j c L;simp only[fz,h8];exact⟨rfl,h9,bk⟩
  have hR:=O1 aq (dJ.jL (M:=M) (g:=g') (E:=s'.jR fn.ntmps) (f:=fz) λj c L=>(hf j c L).2.2);have a3:j<J c0:=by have bw:=(Qc.1 hj).1;have:=hR.1;simp at this;omega
  obtain⟨bh,bd,_⟩:=hf j _ (Q8 a3);rw[bj];exact⟨fz j,bh,by simp only[g1,bd,hk,Qv],cH.plain (g1:=g') (g2:=g1) rfl (aj cc (Xf hj)) (hR.2 j _ cc (by simp[a3]) hj)⟩
 have al:g1.ad (.x X1.length)=g'.ad (.bE d):=by simp only[g1,Xa]
 have am:∀k,k≠X1.length->g1.ad (.x k)=g'.ad (.x k):=λk hk=>by simp only[g1];rw[Q0 (by simpa using hk)]
 refine⟨a'.tmps.getD t undef,?_,_,g1,rfl,⟨λc v hv=>?_,λc t ht=>?_⟩,?_,?_,?_,⟨rfl,by rw[hv,al]⟩,?_,λt x hx=>by cases hx⟩
 .simp only[results,Sem.run_bind];have e1:fn.results=#[.tmp t]:=by apply XG;simpa using bm
  rw[e1];simp
 .obtain⟨h7,h8⟩:=hr.cN.im c v hv;exact⟨h7,au c h8⟩
 .cases hg:g'.cA c with|none=>rw[au c hg]at ht;cases ht|some t0=>exact hr.cN.it c t0 hg
 .refine⟨hr.fr.dH,λ_=>rfl,hr.fr.mono,λc t h=>?_,λc t h=>hr.fr.fT c t ((ax c t).1 h),λb hb a5=>?_,hr.fr.gC⟩;.obtain⟨h1,h2⟩:=hr.fr.cG c t h;exact⟨(ax c t).2 h1,h2⟩
  .obtain⟨h1,h2⟩:=hr.fr.gn b hb a5;refine⟨h1,λo sp=>?_⟩;rw[<-h2 o sp];cases hg:g'.cA ⟨b,o,sp⟩with|none=>exact au _ hg|some t=>obtain⟨t',rfl⟩:=a5 o sp t (by rw[<-h2 o sp];exact hg);exact(ax _ _).2 hg
 .intro c t ht;simp only[g1]at ht;split at ht;.cases ht;exact .inl ⟨_,rfl⟩
  .rename_i nm _;cases hk:re nm with|none=>simp[hk]at ht|some k=>simp[hk]at ht;subst ht;exact .inr (.inl ⟨k,by simpa using bo nm k hk,rfl⟩)
  .cases ht
 .intro k hk;have:k≠X1.length:=λe=>hk (by rw[e]);exact(am k this).trans (hr.fr.sO k)
 .intro k a4 hk j c hj;have br:k<X1.length+1:=by have:=(Qc.1 hk).1;simpa using this
  rcases K5 k X1.length with hk1|hk1;.rw[X5 hk1]at hk;obtain⟨⟨c0,h1,h2⟩,h3⟩:=Zws bl k a4 hk;rw[Xh]at h1;exact ao (.x k) k c0 a4 h1 (by simp only[re];rw[Q0 (by simp),Q5 hk1]) (am k O) h2 h3 j c hj
  .have:k=X1.length:=O;subst this;simp at hk;subst hk;exact ao (.bE d) _ bn cs be (by simp only[re,Xa]) al aq aj j c hj
