import Derived.Test.YtpjenobkibfpcaaGreatZKD07
import Derived.Carry
import Derived.SizedLaws
import Derived.ChangeSame
import Derived.Test.YtpjenobkibfpcaaGreatChecked
import Derived.Test.YtpjenobkibfpcaaGreatRows
import Derived.ProofKit
set_option linter.unusedSimpArgs false
set_option linter.unusedVariables false
namespace Go.AM
open Go.ChangeShapes Go.WideShapes Go.RowKit
def inT(t:Tree):Prop:=Z2J t/\rng t
theorem ZAC{ks:List Tree}(h:∀ t∈ks,inT t):Z2Y ks/\Y6 ks:=by
 induction ks with
 | nil=> trivial
 | cons t r ih=>
  have s:=h t (Q8 ..)
  have d:=ih fun x u=> h x (Q7 _ u)
  exact ⟨⟨s.1,d.1⟩,s.2,d.2⟩
section
variable {U:Uni} {P:Program} {cfg:Cfg U} {w:World} {H:Type} {henc:TypeId × Value->H}
def RelS(cfg:Cfg U)(m:Addr->Option Value)(vs:List Value)(cs:List (C U)):Prop:=
 vs.length=cs.length/\∀ (j:Nat) v c,vs[j]?=some v->cs[j]?=some c->SimC cfg m v c
theorem RelS.one{m:Addr->Option Value}{v:Value}{c:C U}(h:SimC cfg m v c):RelS cfg m [v] [c]:=by
 refine ⟨rfl,fun j u d hu s=> ?_⟩
 grind
theorem RelS.glue{m:Addr->Option Value}{vs:List Value}{a n:Nat}{c1 rest:List (C U)}(h1:RelS cfg m ((vs.drop a).take n) c1)(hn:c1.length=n)(d:a+n<=vs.length)(h2:RelS cfg m (vs.drop (a+n)) rest):
  RelS cfg m (vs.drop a) (c1++rest):=by
 have e:vs.drop a=(vs.drop a).take n++vs.drop (a+n):=by
  rw [show vs.drop (a+n)=(vs.drop a).drop n by simp_all]
  exact (QY n _).symm
 rw [e]
 have hl:((vs.drop a).take n).length=c1.length:=h1.1
 refine ⟨by simp only [Qb,hl,h2.1],fun j v c d hc=> ?_⟩
 rw [QC] at d hc
 rw [hl] at d
 split at d
 .rename_i h
  rw [if_pos h] at hc
  exact h1.2 j v c d hc
 .rename_i h
  rw [if_neg h] at hc
  exact h2.2 _ v c d hc
theorem RelS.done{m:Addr->Option Value}{vs:List Value}{n:Nat}(h:vs.length=n):RelS cfg m (vs.drop n) ([]:List (C U)):=by
 rw [Qd V0]
 exact ⟨rfl,fun j v c d=> by simp at d⟩
def Rdd(henc:TypeId × Value->H)(P:Program)(w:World)(n:Nat)(t:TypeId)(cs:List Value):Prop:=
 ∃ x,DataW.trod henc P w 0 (fun _=> true) true n t cs=some x/\(x.1.weights P t).all (·<=reachBytes)=true
theorem Z0p(ok:CfgOk P cfg){t:TypeId}{ag:Bool}{zs:List (C U)}(h:cfg.var t=some (ag,zs)):P.cellsOf t=zs.length:=by
 obtain ⟨_,i,z,d,s,h2,u,_⟩:=ok.var _ _ _ h
 simp [Program.cellsOf,s,u]
theorem Z2n(ok:CfgOk P cfg){t:TypeId}{k:IntKind}{n0:Int}{n:Nat}{cs:List Value}(hv:cfg.var t=some (false,[.int k n0]))(h:Rdd henc P w n t cs):
  ∃ z,RelS cfg w.cell? cs [.int k z]/\k.min<=z/\z<=k.max:=by
 obtain ⟨x,hx,_⟩:=h
 obtain ⟨_,i,z,d,h1,h2,h3,h4,h5,h6,u,_⟩:=ok.var _ _ _ hv
 have hd:=u rfl k n0 rfl
 subst hd
 obtain ⟨q,rfl,_,s⟩:=DataW.trod_int h2 hx
 simp only [Lit.wf,Q4,decide_eq_true_eq] at s
 exact ⟨q,.one (.int k q),s.1,s.2⟩
theorem Jb(ok:CfgOk P cfg){t ft:TypeId}{i off:Nat}{ag:Bool}{zs:List (C U)}{n:Nat}{cs:List Value}(hf:cfg.fld t i=some (off,ft))(hv:cfg.var ft=some (ag,zs))(h:Rdd henc P w n t cs):
  ∃ m,n=m+1/\cs.length=P.cellsOf t/\Rdd henc P w m ft ((cs.drop off).take zs.length):=by
 obtain ⟨x,hx,u⟩:=h
 obtain ⟨fs,fd,h1,h2,h3,h4⟩:=ok.fld _ _ _ _ hf
 obtain ⟨xs,m,rfl,rfl,hl,al,s⟩:=DataW.trod_struct h1 hx
 have hg:=s i fd h2
 rw [h3,h4,Z0p ok hv] at hg
 have hi:i < xs.length:=by have:=(QM.1 h2).1;omega
 have hy:=Q0 hi
 refine ⟨m,rfl,hl,xs[i],by rw [hg,hy],?_⟩
 rw [Qy] at u ⊢
 intro q hq
 refine u q ?_
 simp only [DataW.weights,h1]
 exact DataW.weights_mem_each (j:=i) (t:=ft) (d:=xs[i].1) (by grind) (by grind) q hq
theorem Zbh{α:Type}(p:Nat->α->Prop):∀ (n:Nat),(∀ i,i < n->∃ x,p i x)->∃ l:List α,l.length=n/\∀ i x,l[i]?=some x->p i x
 | 0,_=> ⟨[],rfl,fun i x h=> by simp at h⟩
 | n+1,h=> by
  obtain ⟨l,d,s⟩:=Zbh p n fun i hi=> h i V0
  obtain ⟨x,u⟩:=h n V0
  refine ⟨l++[x],by simp [d],fun i y hy=> ?_⟩
  grind
theorem ZaI{e:TypeId}:∀ {l:List (DataW H)} {i:Nat} {d:DataW H},l[i]?=some d->∀ q∈d.weights P e,q∈DataW.weightsAll P e l
 | d0 ::l,0,d,h,q,hq=> by
  simp at h
  subst h
  simp only [DataW.weightsAll,Qg]
  exact .inl hq
 | d0 ::l,i+1,d,h,q,hq=> by
  simp only [DataW.weightsAll,Qg]
  exact .inr (ZaI (l:=l) (i:=i) (by simpa using h) q hq)
theorem ZfM (ok:CfgOk P cfg) {t:TypeId} {S:U.Ty} {n:Nat} {cs:List Value} {Z0R:U.El S->Prop} (hs:cfg.slT t=some S)
  (ih:∀ m,m < n->∀ cs,Rdd henc P w m (cfg.elT S) cs->∃ e,RelS cfg w.cell? cs (cfg.enc S e)/\Z0R e) (h:Rdd henc P w n t cs):
  ∃ l:List (U.El S),RelS cfg w.cell? cs [.slice S l .unk]/\l.length*cfg.bytes S<=reachBytes/\∀ e∈l,Z0R e:=by
 obtain ⟨x,hx,hw⟩:=h
 have hu:=ok.sl _ _ hs
 obtain ⟨i0,ag,zs,z,h1,h2,h3,h4,h5,h6⟩:=ok.el S
 have hc:P.cellsOf (cfg.elT S)=cfg.sz S:=by simp [Program.cellsOf,h1,h2]
 have hb:P.bytesOf (cfg.elT S)=cfg.bytes S:=by simp [Program.bytesOf,h1,h3]
 rcases DataW.trod_slice hu hx with ⟨rfl,_⟩ | ⟨a,len,cap,elems,rest,m,rfl,rfl,rfl,_,hlc,_,hel,hels,_⟩
 .exact ⟨[],.one (.snil S .unk),by simp,fun e he=> by cases he⟩
 .simp only [DataW.weights,hu,Xj,hb] at hw
  rw [List.all_cons,Q4,decide_eq_true_eq,Qy] at hw
  obtain ⟨a2,ao⟩:=hw
  obtain ⟨l,hl,aa⟩:=Zbh (fun i (e:U.El S)=> (∀ j c,(cfg.enc S e)[j]?=some c->∃ v,w.cell? (a.add (i*cfg.sz S+j))=some v/\SimC cfg w.cell? v c)/\Z0R e) len (by
   intro i hi
   have hg:=hels i hi
   have hy:=Q0 (l:=elems) (i:=i) V0
   rw [hy] at hg
   obtain ⟨ci,ak,ah⟩:=Ql.1 hg
   obtain ⟨_,a0,af⟩:=World.cells?_some ak
   obtain ⟨e,s,aj⟩:=ih m V0 ci ⟨elems[i],ah,by
    rw [Qy]
    intro q hq
    refine ao q ?_
    rw [Qg]
    exact .inl (ZaI (i:=i) (d:=elems[i].1) (by grind) q hq)⟩
   refine ⟨e,fun j c hj=> ?_,aj⟩
   have ar:=s.1
   have aq:j < ci.length:=by have:=(Q5.1 hj).1;omega
   have u:=Q0 aq
   refine ⟨ci[j],?_,s.2 j _ c u hj⟩
   rw [<-u,<-af j V0,hc,Go.Deep.add_add])
  refine ⟨l,.one (.of_rows .unk hl hlc fun i x hx j c hj=> (aa i x hx).1 j c hj),?_,fun e he=> ?_⟩
  .grind
  .obtain ⟨i,hi,rfl⟩:=Xn he
   exact (aa i _ (Q0 hi)).2
end
section
variable {P:Program} {cfg:Cfg U} {w:World} {H:Type} {henc:TypeId × Value->H}
structure TreeTypes (cfg:Cfg U):Prop where
 enc:cfg.enc=AM.enc
 bytes:cfg.bytes=K.bytes
 int:∃ n,cfg.var (cfg.elT .int)=some (false,[.int .i64 n])
 u64:∃ n,cfg.var (cfg.elT .u64)=some (false,[.int .u64 n])
 var:∃ zs,cfg.var (cfg.elT .tree)=some (true,zs)/\zs.length=3
 f0:∃ t n,cfg.fld (cfg.elT .tree) 0=some (0,t)/\cfg.var t=some (false,[.int .i64 n])
 f1:∃ t c,cfg.fld (cfg.elT .tree) 1=some (1,t)/\cfg.var t=some (false,[c])/\cfg.slT t=some .u64
 f2:∃ t c,cfg.fld (cfg.elT .tree) 2=some (2,t)/\cfg.var t=some (false,[c])/\cfg.slT t=some .tree
theorem Z23{n b:Nat}(h:n*b<=reachBytes)(hb:8<=b):n<=17592186044416:=by
 have s:n*8<=n*b:=Nat.mul_le_mul_left _ hb
 have d:reachBytes < 2 ^ 47:=reachBytes_lt
 omega
theorem ZBq(ok:CfgOk P cfg)(T:TreeTypes cfg){n:Nat}{cs:List Value}(h:Rdd henc P w n (cfg.elT .u64) cs):
  ∃ e:Int,RelS cfg w.cell? cs (cfg.enc .u64 e)/\(0<=e/\e < 18446744073709551616):=by
 obtain ⟨n0,u⟩:=T.u64
 obtain ⟨z,d,h2,s⟩:=Z2n ok u h
 refine ⟨z,by rw [T.enc];exact d,h2,?_⟩
 have:z<=18446744073709551615:=s
 omega
theorem Zcf(ok:CfgOk P cfg)(T:TreeTypes cfg):∀ (n:Nat) (cs:List Value),Rdd henc P w n (cfg.elT .tree) cs->∃ e:Tree,RelS cfg w.cell? cs (cfg.enc .tree e)/\inT e:=by
 intro n
 induction n using Nat.strongRecOn with
 | ind n IH=>
  intro cs h
  obtain ⟨zs,hz,u⟩:=T.var
  obtain ⟨t0,n0,f0,v0⟩:=T.f0
  obtain ⟨t1,c1,f1,v1,s1⟩:=T.f1
  obtain ⟨t2,c2,f2,v2,s2⟩:=T.f2
  obtain ⟨m,rfl,hl,r0⟩:=Jb ok f0 v0 h
  obtain ⟨d,e',_,r1⟩:=Jb ok f1 v1 h
  cases e'
  obtain ⟨d,e',_,r2⟩:=Jb ok f2 v2 h
  cases e'
  have s:cs.length=3:=by rw [hl,Z0p ok hz,u]
  obtain ⟨k,a1,a2,a3⟩:=Z2n ok v0 r0
  obtain ⟨ws,b1,b2,b3⟩:=ZfM ok s1 (fun m _ cs h=> ZBq ok T h) r1
  obtain ⟨ks,d1,d2,d3⟩:=ZfM ok s2 (fun d hm cs h=> IH d V0 cs h) r2
  rw [T.bytes] at b2 d2
  have g:=a1.glue rfl (by simp;omega) (b1.glue rfl (by simp;omega) (d1.glue rfl (by simp;omega) (RelS.done (n:=3) s)))
  refine ⟨.mk k ws ks,by rw [T.enc];exact g,?_⟩
  have hk:=ZAC d3
  exact ⟨⟨Z23 b2 V3,Z23 d2 V3,hk.1⟩,⟨a2,a3⟩,b3,hk.2⟩
end
section
variable {P:Program} {cfg:Cfg U} {H:Type} {henc:TypeId × Value->H}
def ZAf{α:Type}(henc:TypeId × Value->H)(P:Program)(cfg:Cfg U)(A:Arg α)(t:TypeId)(Z0R:α->Prop):Prop:=
 (∀ a,A.get (A.can a)=some a)/\∀ (w:World) (base:Nat) v n,Value.okWide P w .any base t v->Rdd henc P w n t v.cells.toList->
  ∃ a,Z0R a/\∀ (g:Gh) (live:Name->Bool),g.m=w.cell?->RelV cfg g ZI live v (A.can a)
def ZpL{α:Type}(henc:TypeId × Value->H)(P:Program)(cfg:Cfg U)(A:ArgL α)(ts:List TypeId)(Z0R:α->Prop):Prop:=
 (∀ a,A.get (A.can a)=some a)/\∀ (w:World) (base:Nat) (vs:List Value) ds ps,(∀ (j:Nat) t v,ts[j]?=some t->vs[j]?=some v->Value.okWide P w .any base t v)->
  DataW.TrodAll henc P w 0 (fun _=> true) true ts vs ds ps->(DataW.weightsEach P ts ds).all (·<=reachBytes)=true->
  ∃ a,Z0R a/\vs.length=(A.can a).length/\∀ (g:Gh) (live:Name->Bool),g.m=w.cell?->∀ (j:Nat) v x,vs[j]?=some v->(A.can a)[j]?=some x->RelV cfg g ZI live v x
theorem Zr8:ZpL henc P cfg ArgL.nil [] (fun _=> True):=by
 refine ⟨fun _=> rfl,fun w d vs u ps _ h _=> ?_⟩
 obtain ⟨rfl,_,_⟩:=trodAll_nil h
 exact ⟨(),trivial,rfl,fun _ _ _ j v x s=> by simp at s⟩
theorem Z7S{α β:Type}{A:Arg α}{B:ArgL β}{t:TypeId}{ts:List TypeId}{Z0R:α->Prop}{goods:β->Prop}(hA:ZAf henc P cfg A t Z0R)(hB:ZpL henc P cfg B ts goods):
  ZpL henc P cfg (ArgL.cons A B) (t ::ts) (fun p=> Z0R p.1/\goods p.2):=by
 refine ⟨fun a=> ?_,fun w s vs ds ps aa h hw=> ?_⟩
 .simp only [ArgL.cons,hA.1,hB.1]
 .obtain ⟨v,ab,d,ah,p,q,rfl,rfl,rfl,h1,h2⟩:=trodAll_cons h
  obtain ⟨n,h1⟩:=h1
  simp only [DataW.weightsEach,List.all_append,Q4] at hw
  obtain ⟨a,ga,ra⟩:=hA.2 w s v n (aa 0 t v rfl rfl) ⟨(d,p),h1,hw.1⟩
  obtain ⟨b,gb,lb,rb⟩:=hB.2 w s ab ah q (fun j t v ht hv=> aa (j+1) t v (by simpa using ht) (by simpa using hv)) h2 hw.2
  refine ⟨(a,b),⟨ga,gb⟩,by simp [ArgL.cons,lb],fun g ai hg j u x hu hx=> ?_⟩
  cases j with
  | zero=> simp [ArgL.cons] at hu hx;grind
  | succ j=> simp [ArgL.cons] at hu hx;grind
theorem RelS.relL{g:Gh}{w:World}{vs:List Value}{cs:List (C U)}(h:RelS cfg w.cell? vs cs)(hg:g.m=w.cell?)(hp:∀ c∈cs,c.plain=true):RelL cfg g ZI vs cs:=by
 refine ⟨h.1,fun j v c s hc=> ⟨by rw [hg];exact h.2 j v c s hc,?_⟩⟩
 have d:=hp c (QK hc)
 cases c with
 | slice S l' tl'=> cases tl' <;> first | trivial | (simp [C.plain] at d)
 | _=> trivial
theorem ZpD(ok:CfgOk P cfg)(henc':cfg.enc=AM.enc){T:Ty}{Z0R:El T->Prop}(d:∃ s ft,cfg.fld (cfg.elT T) 0=some (s,ft))(hr:∀ w n cs,Rdd henc P w n (cfg.elT T) cs->∃ e:El T,RelS cfg w.cell? cs (cfg.enc T e)/\Z0R e):
  ZAf henc P cfg (aEl T) (cfg.elT T) Z0R:=by
 refine ⟨fun a=> ZyD T a,fun w ae v n u h=> ?_⟩
 obtain ⟨s,ft,d⟩:=d
 obtain ⟨fs,fd,h1,_⟩:=ok.fld _ _ _ _ d
 obtain ⟨vs,rfl,_⟩:=okWide_struct h1 u
 obtain ⟨e,he,hg⟩:=hr w n _ h
 refine ⟨e,hg,fun g ab aa=> ⟨vs,rfl,?_⟩⟩
 rw [henc'] at he
 exact he.relL aa (fun c hc=> by have:=ok.enc_plain T e c (by simp_all);exact this)
theorem ZqB {α:Type} {A:ArgL α} {ts:List TypeId} {Z0R:α->Prop} {pre:α->Prop} {f:FuncId} (hA:ZpL henc P cfg A ts Z0R) (hgood:∀ a,Z0R a->pre a)
  (hc:Contract P cfg f (fs A (fun a=> [pre a]) (fun _=> .c (.bool true)))) (w:World) (base:Nat) (args:Array Value) (ds:List (DataW H)) (ps:List MemPlace)
  (hok:∀ (j:Nat) t v,ts[j]?=some t->args.toList[j]?=some v->Value.okWide P w .any base t v)
  (d:DataW.TrodAll henc P w 0 (fun _=> true) true ts args.toList ds ps) (hw:(DataW.weightsEach P ts ds).all (·<=reachBytes)=true):
  Calls P f args w fun e w'=> e= .returned (.bool true)/\Below w.heap.size w w':=by
 obtain ⟨a,ga,hl,hr⟩:=hA.2 w base args.toList ds ps hok d hw
 let g:Gh:=⟨w.cell?,fun _=> none,fun _=> ⟨0,0,none⟩,fun _=> none⟩
 have hs:(fs A (fun a=> [pre a]) (fun _=> .c (.bool true))).fn (A.can a) []=some ([pre a],.c (.bool true),[]):=by
  simp only [fs,hA.1]
 have u:Entry cfg w g args.toList (A.can a) [] []:=by
  refine ⟨⟨fun b v h=> ⟨h,rfl⟩,fun b t d=> by cases d⟩,fun b t d=> (by cases d),hl,fun j v x h hx=> hr g _ rfl j v x h hx,fun k cs hk=> (by simp at hk),fun _ _=> rfl,fun t x hx=> by cases hx⟩
 have:=hc.one rfl (A.can a) [] _ _ [] hs ⟨hgood a ga,trivial⟩ (QQ _) w g args.toList u
 refine Calls.mono (by simpa using this) ?_
 rintro e w' ⟨v,rfl,g',L⟩
 have h:SimC cfg g'.m v (.bool true):=L.val.1
 cases h
 refine ⟨rfl,L.fr.stay.os,L.fr.stay.tape,L.fr.stay.output,L.fr.stay.size,fun k hk=> ?_⟩
 exact (L.fr.clean k hk fun o s t d=> by cases d).1
theorem ZuO {f:Func} {s:ChangeSpec} {apart fresh handsOn again:Bool} {W W':World} {args:Array Value} {ds gs:List (DataW H)} {before:List MemPlace} {tb:TypeId}
  (hl:laidOutB P=true) (hread:(f.params.toList.all fun t=> P.readableRec t && decide (t < P.types.size))=true) (hres:f.resultTypes=#[tb]) (hbool:P.underlying tb=some .bool) (hvars:s.vars=[])
  (hfn:s.fn H (ds++gs)={ results:=[.lit (.bool true)],args:=ds,vars:=[] })
  (hW:DataW.Whole henc P f.params.toList s.vars apart W args.toList ds gs before)
  (hb:Below W.heap.size W W'):s.post henc P f apart fresh handsOn again W args (.bool true) W':=by
 have au:=hW
 obtain ⟨p,q,h1,h2,e,_⟩:=au
 have hq:q=[]:=by
  rw [hvars] at h2
  exact (trodVars_none h2).2
 subst hq
 have al:=hW.lt
 have aw:∀ {ts:List TypeId} {vs:List Value} {ds:List (DataW H)} {ps:List MemPlace} {sp:Nat->Bool},(∀ t∈ts,P.readableRec t=true/\t < P.types.size)->(∀ x∈ps,x.block < W.heap.size)->(∀ x∈ps,sp x.block=true)->
   DataW.TrodAll henc P W 0 (fun _=> true) true ts vs ds ps->DataW.TrodAll henc P W' 0 sp true ts vs ds ps:=by
  intro ts
  induction ts with
  | nil=>
   intro vs ds ps sp _ _ _ h
   obtain ⟨rfl,rfl,rfl⟩:=trodAll_nil h
   exact rfl
  | cons t ts ih=>
   intro vs ds ps sp hr hx hs h
   obtain ⟨v,a3,d,a7,p,q,rfl,rfl,rfl,h3,h4⟩:=trodAll_cons h
   have ao:=hr t (Q8 ..)
   exact ⟨p,q,WideElems.Trod_stays hl ao.1 ao.2 h3 (fun x u=> hb.same (hx x (QO _ u))) (fun x u=> hs x (QO _ u)),
    ih (fun t ht=> hr t (Q7 _ ht)) (fun x u=> hx x (Xl _ u)) (fun x u=> hs x (Xl _ u)) h4,rfl⟩
 have ae:∀ t∈f.params.toList,P.readableRec t=true/\t < P.types.size:=by
  intro t ht
  have:=Qy.1 hread t ht
  simpa using this
 rw [Qn] at e
 replace e:=e.symm
 subst e
 have af:∀ (b:Nat) (sp:Nat->Bool) (hd:Bool),DataW.TrodAll henc P W' b sp hd f.resultTypes.toList ((Value.bool true).resultList f.resultTypes.size) [.lit (.bool true)] []:=by
  intro b sp hd
  rw [hres]
  exact trodAll_mk1 ⟨1,by simp [DataW.trod,hbool,Value.cells]⟩
 have am:∀ (j:Nat) (t:TypeId) (r:Value),f.resultTypes[j]?=some t->((Value.bool true).resultList f.resultTypes.size)[j]?=some r->Value.okWide P W' .any 0 t r:=by
  intro j t r h3 h4
  rw [hres] at h3 h4
  cases j with
  | zero=>
   simp at h3
   subst h3
   simp [Value.resultList] at h4
   subst h4
   simp [Value.okWide,hbool,Cell.okWide,Cell.ok]
  | succ j=> simp at h3
 have az:∀ x∈p,(fun b=> decide (b < W.heap.size)) x.block=true:=fun x hx=> by grind
 have ar:∀ sp:Nat->Bool,DataW.TrodVars henc P W' sp s.vars [] []:=fun sp=> by rw [hvars];try rfl
 refine ⟨ds,gs,p,[],p,[],hW,?_,?_,?_,hb.frame _,fun _=> ⟨am,[.lit (.bool true)]++ds,[],[]++p,?_,fun x hx _=> by simpa using hx⟩⟩
 .grind
 .grind
 .grind
 .obtain ⟨_,_,_,_,_,hz,hn⟩:=hW
  refine ⟨[]++p,[],trodAll_append (aw ae al (fun _ _=> rfl) h1) (af 0 (fun _=> true) true),ar _,by simp,?_,by simpa using hn⟩
  intro b aq hx
  have ax:MemPlace.cell b aq∈p:=by simpa using hx
  rw [hb.frozen (by exact al _ ax)]
  exact hz b aq V0
end
end Go.AM
namespace Go.AM
def Zk(w:Int)(i:Nat):Int:=w / 256 ^ i % 256
def Z0n(m:Int)(i:Int):Bool:=decide (m / 2 ^ i.toNat % 2=1)
def of8(f:Nat->Int):Int:=f 0+256*(f 1+256*(f 2+256*(f 3+256*(f 4+256*(f 5+256*(f 6+256*f 7))))))
def Jp(a b m:Int)(i:Nat):Int:=if Z0n m i then Zk b i else Zk a i
def mix(a b m:Int):Int:=of8 (Jp a b m)
theorem aiT{p q:Prop}:(p->q->p/\q)=True:=eq_true fun a b=> ⟨a,b⟩
mutual
def Za:Edit->Nat
 | .mk _ o n w ks _ os=> 1+Zj o+Zj n+w.length+os.length+ZR ks+Zl os
def ZR:List (KidOf Edit)->Nat
 | []=> 0
 | k ::r=> Z07 k+ZR r
def Z07:KidOf Edit->Nat
 | ⟨_,e⟩=> Za e
def Zl:List (OpOf Edit)->Nat
 | []=> 0
 | o ::r=> Zy o+Zl r
def Zy:OpOf Edit->Nat
 | ⟨_,_,l,e⟩=> Zd l+Za e
end
mutual
def Z2g:Edit->Prop
 | .mk _ o n w ks _ os=> Z2J o/\Z2J n/\w.length<=17592186044416/\ks.length<=17592186044416/\os.length<=17592186044416/\Z5N ks/\Z5M os
def Z5N:List (KidOf Edit)->Prop
 | []=> True
 | k ::r=> ZiW k/\Z5N r
def ZiW:KidOf Edit->Prop
 | ⟨_,e⟩=> Z2g e
def Z5M:List (OpOf Edit)->Prop
 | []=> True
 | o ::r=> ZmT o/\Z5M r
def ZmT:OpOf Edit->Prop
 | ⟨_,_,l,e⟩=> l.length<=17592186044416/\Z2Y l/\Z2g e
end
def isW(n:Int):Prop:=0<=n/\n < 18446744073709551616
def Zdo(w:WEdit):Prop:=InR w.at_/\(0<=w.mask/\w.mask < 256)/\isW w.old/\isW w.new
mutual
def Yp:Edit->Prop
 | .mk k o n w ks l os=> InR k/\rng o/\rng n/\(∀ x∈w,Zdo x)/\InR l/\Z2O ks/\Z1A os
def Z2O:List (KidOf Edit)->Prop
 | []=> True
 | k ::r=> Z7h k/\Z2O r
def Z7h:KidOf Edit->Prop
 | ⟨a,e⟩=> InR a/\Yp e
def Z1A:List (OpOf Edit)->Prop
 | []=> True
 | o ::r=> Z1j o/\Z1A r
def Z1j:OpOf Edit->Prop
 | ⟨k,n,l,e⟩=> InR k/\InR n/\Y6 l/\Yp e
end
def sh1(t:Tree)(n:Int):Int:=if n < 0 then n else ZD t 80 n
mutual
def Z0G:Edit->Int->Int->Int
 | .mk _ o nw w ks _ os,d,n=> if d=0\/n - 1 - w.length - os.length < 0 then -1 else Z00 os (d - 1) (JJ ks (d - 1) (sh1 nw (ZD o 80 (n - 1 - w.length - os.length))))
def JJ:List (KidOf Edit)->Int->Int->Int
 | [],_,n=> n
 | k ::r,d,n=> if n < 0 then n else JJ r d (Z2U k d n)
def Z2U:KidOf Edit->Int->Int->Int
 | ⟨_,e⟩,d,n=> Z0G e d n
def Z00:List (OpOf Edit)->Int->Int->Int
 | [],_,n=> n
 | o ::r,d,n=> if n < 0 then n else Z00 r d (Z5m o d n)
def Z5m:OpOf Edit->Int->Int->Int
 | ⟨_,_,l,e⟩,d,n=> if Zu l 80 n < 0 then Zu l 80 n else Z0G e d (Zu l 80 n)
end
def Ye(t:Tree):Bool:=decide (t.kind=0/\t.words.length=0/\t.kids.length=0)
def Z0U(e:Edit):Bool:=decide (e.kind=0) && Ye e.old && Ye e.new && decide (e.words.length=0/\e.kids.length=0/\e.ops.length=0/\e.list=0)
def Yf(w m:Int):Bool:=decide (mix w 0 m=0)
def ZK(last:Int):List WEdit->Bool
 | []=> true
 | w ::r=> decide (last < w.at_/\w.at_<=65534/\w.mask≠0) && Yf w.old w.mask && Yf w.new w.mask && ZK w.at_ r
def Z2(o:Op):Int:=if o.kind=3 then 1 else o.n+o.l.length
def Z0Q:List Op->Int->Int
 | [],n=> n
 | o ::r,n=> Z0Q r (min (if o.kind=2 then n else n+Z2 o) 1048576)
def Z0P:List Op->Int->Int
 | [],n=> n
 | o ::r,n=> Z0P r (min (if o.kind=1 then n else n+Z2 o) 1048576)
def Jt(list:Int):List Tree->Bool
 | []=> true
 | t ::r=> Zb (.mk list [] [t]) 64 && Jt list r
def dT(d:Int):Int:=if d < 0 then -1 else 64
theorem ZoR{d:Int}(h:0<=d):dT d=64:=by unfold dT;omega
theorem ZeT{d:Int}(h:d < 0):dT d= -1:=by unfold dT;rw [if_pos h]
theorem ZAM(d:Int):dT d≠0:=by unfold dT;omega
def Y9(D list:Int):List Tree->Bool
 | []=> true
 | t ::r=> Zb (.mk list [] [t]) D && Y9 D list r
theorem Z9M(list:Int):∀ l:List Tree,Y9 64 list l=Jt list l
 | []=> rfl
 | t ::r=> by simp only [Y9,Jt,Z9M list r]
mutual
def Z5:Edit->Int->Bool
 | .mk k o n w ks l os,d=>
  if d=0\/k < 0\/3 < k then false
  else if (k≠1/\¬(Ye o=true/\Ye n=true))\/(k≠2/\¬(w.length=0/\ks.length=0))\/(k≠3/\(l≠0\/os.length≠0)) then false
  else if k=1 then Zb o (dT d) && Zb n (dT d) && decide (o.kind≠10/\n.kind≠10)
  else ZK (-1) w && Zw (-1) ks (d - 1) && decide (¬(k=3/\(l < 2\/9 < l))) && Zz l os (d - 1) && decide (Z0Q os 0 < 1048576/\Z0P os 0 < 1048576)
def Zw(last:Int):List (KidOf Edit)->Int->Bool
 | [],_=> true
 | k ::r,d=> JD last k d && Zw k.at_ r d
def JD(last:Int):KidOf Edit->Int->Bool
 | ⟨a,e⟩,d=> decide (last < a/\a<=65534/\e.kind≠0) && Z5 e d
def Zz(list:Int):List (OpOf Edit)->Int->Bool
 | [],_=> true
 | o ::r,d=> Zg list o d && Zz list r d
def Zg(list:Int):OpOf Edit->Int->Bool
 | ⟨k,n,l,e⟩,d=>
  if k=0 then decide (1<=n/\n<=1048576/\l.length=0) && Z0U e
  else if n≠0\/k < 0\/3 < k then false
  else if k < 3 then Y9 (dT d) list l && decide (0 < l.length) && Z0U e
  else decide (l.length=0/\e.kind≠0/\7 < list) && Z5 e d && decide (list=8\/e.kind=2\/e.kind=1/\e.old.kind=1/\e.new.kind=1)
end
mutual
def ctE:Edit->Nat
 | .mk _ o n w ks _ os=> 16+Zj o+Zj n+65600*w.length+Z35 ks+Jh os
def Z35:List (KidOf Edit)->Nat
 | []=> 0
 | k ::r=> Z9D k+Z35 r
def Z9D:KidOf Edit->Nat
 | ⟨_,e⟩=> 65600+ctE e
def Jh:List (OpOf Edit)->Nat
 | []=> 0
 | o ::r=> Z4j o+Jh r
def Z4j:OpOf Edit->Nat
 | ⟨_,_,l,e⟩=> 16+Zd l+ctE e
end
theorem Z5x(e:Edit):ctE e=16+Zj e.old+Zj e.new+65600*e.words.length+Z35 e.kids+Jh e.ops:=by cases e;rfl
theorem Zkw(k:Kid):Z9D k=65600+ctE k.e:=by cases k;rfl
theorem Z2V(o:Op):Z4j o=16+Zd o.l+ctE o.e:=by cases o;rfl
theorem ZeW:∀ {ks:List Kid} {k:Kid},k∈ks->ctE k.e+65600<=Z35 ks
 | a ::r,k,h=> by
  rcases Q9.1 h with rfl | h
  .simp only [Z35,Zkw];omega
  .have:=ZeW h;simp only [Z35];omega
theorem ZeV:∀ {os:List Op} {o:Op},o∈os->ctE o.e+Zd o.l+16<=Jh os
 | a ::r,o,h=> by
  rcases Q9.1 h with rfl | h
  .simp only [Jh,Z2V];omega
  .have:=ZeV h;simp only [Jh];omega
theorem ZjN(t:Tree):1<=Zj t:=by obtain ⟨k,w,ks⟩:=t;simp only [Zj];omega
mutual
theorem ZhQ:∀ (e:Edit),Za e<=ctE e
 | .mk k o n w ks l os=> by
  have h:=Zg6 ks
  have d:os.length+Zl os<=Jh os:=Zah os
  simp only [Za,ctE]
  omega
theorem Zg6:∀ (ks:List (KidOf Edit)),ZR ks<=Z35 ks
 | []=> Qf _
 | k ::r=> by
  have h:=ZlD k
  have d:=Zg6 r
  simp only [ZR,Z35]
  omega
theorem ZlD:∀ (k:KidOf Edit),Z07 k<=Z9D k
 | ⟨a,e⟩=> by
  have:=ZhQ e
  simp only [Z07,Z9D]
  omega
theorem Zah:∀ (os:List (OpOf Edit)),os.length+Zl os<=Jh os
 | []=> Qf _
 | o ::r=> by
  have h:=Zqt o
  have d:=Zah r
  simp only [Zl,Jh,Qs]
  omega
theorem Zqt:∀ (o:OpOf Edit),Zy o+1<=Z4j o
 | ⟨k,n,l,e⟩=> by
  have:=ZhQ e
  simp only [Zy,Z4j]
  omega
end
mutual
theorem Z9C:∀ (e:Edit),ctE e+131100<=65600*Za e
 | .mk k o n w ks l os=> by
  have h:=Zgo ks
  have d:=Zgn os
  have:=ZjN o
  have:=ZjN n
  simp only [Za,ctE]
  omega
theorem Zgo:∀ (ks:List (KidOf Edit)),Z35 ks<=65600*ZR ks
 | []=> Qf _
 | k ::r=> by
  have h:=Zma k
  have d:=Zgo r
  simp only [ZR,Z35]
  omega
theorem Zma:∀ (k:KidOf Edit),Z9D k<=65600*Z07 k
 | ⟨a,e⟩=> by
  have:=Z9C e
  simp only [Z07,Z9D]
  omega
theorem Zgn:∀ (os:List (OpOf Edit)),Jh os<=65600*(os.length+Zl os)
 | []=> Qf _
 | o ::r=> by
  have h:=ZqU o
  have d:=Zgn r
  simp only [Zl,Jh,Qs]
  omega
theorem ZqU:∀ (o:OpOf Edit),Z4j o<=65600*(Zy o+1)
 | ⟨k,n,l,e⟩=> by
  have:=Z9C e
  simp only [Zy,Z4j]
  omega
end
mutual
def Yn:Edit->Bool
 | .mk _ _ _ _ ks _ os=> decide (Z0Q os 0<=2000/\Z0P os 0<=2000) && Jm ks && ZQ os
def Jm:List (KidOf Edit)->Bool
 | []=> true
 | k ::r=> ZjU k && Jm r
def ZjU:KidOf Edit->Bool
 | ⟨_,e⟩=> Yn e
def ZQ:List (OpOf Edit)->Bool
 | []=> true
 | o ::r=> Zcn o && ZQ r
def Zcn:OpOf Edit->Bool
 | ⟨_,_,_,e⟩=> Yn e
end
def Z0R(e:Edit):Bool:=decide (0<=Z0G e 80 3000) && Z5 e 64 && Yn e
end Go.AM
namespace Go.AM
open Go.ChangeShapes Go.WideShapes Go.RowKit
def inE(e:Edit):Prop:=Z2g e/\Yp e
def ZGl(k:Kid):Prop:=ZiW k/\Z7h k
def inO(o:Op):Prop:=ZmT o/\Z1j o
theorem Zvb{ks:List Kid}(h:∀ k∈ks,ZGl k):Z5N ks/\Z2O ks:=by
 induction ks with
 | nil=> trivial
 | cons t r ih=>
  have s:=h t (Q8 ..)
  have d:=ih fun x u=> h x (Q7 _ u)
  exact ⟨⟨s.1,d.1⟩,s.2,d.2⟩
theorem Zyy{os:List Op}(h:∀ o∈os,inO o):Z5M os/\Z1A os:=by
 induction os with
 | nil=> trivial
 | cons t r ih=>
  have s:=h t (Q8 ..)
  have d:=ih fun x u=> h x (Q7 _ u)
  exact ⟨⟨s.1,d.1⟩,s.2,d.2⟩
section
variable {P:Program} {cfg:Cfg U} {w:World} {H:Type} {henc:TypeId × Value->H}
structure EditTypes (cfg:Cfg U):Prop where
 wvar:∃ zs,cfg.var (cfg.elT .wedit)=some (true,zs)/\zs.length=4
 w0:∃ t n,cfg.fld (cfg.elT .wedit) 0=some (0,t)/\cfg.var t=some (false,[.int .i64 n])
 w1:∃ t n,cfg.fld (cfg.elT .wedit) 1=some (1,t)/\cfg.var t=some (false,[.int .u8 n])
 w2:∃ t n,cfg.fld (cfg.elT .wedit) 2=some (2,t)/\cfg.var t=some (false,[.int .u64 n])
 w3:∃ t n,cfg.fld (cfg.elT .wedit) 3=some (3,t)/\cfg.var t=some (false,[.int .u64 n])
 kvar:∃ zs,cfg.var (cfg.elT .kid)=some (true,zs)/\zs.length=12
 k0:∃ t n,cfg.fld (cfg.elT .kid) 0=some (0,t)/\cfg.var t=some (false,[.int .i64 n])
 k1:cfg.fld (cfg.elT .kid) 1=some (1,cfg.elT .edit)
 ovar:∃ zs,cfg.var (cfg.elT .op)=some (true,zs)/\zs.length=14
 o0:∃ t n,cfg.fld (cfg.elT .op) 0=some (0,t)/\cfg.var t=some (false,[.int .i64 n])
 o1:∃ t n,cfg.fld (cfg.elT .op) 1=some (1,t)/\cfg.var t=some (false,[.int .i64 n])
 o2:∃ t c,cfg.fld (cfg.elT .op) 2=some (2,t)/\cfg.var t=some (false,[c])/\cfg.slT t=some .tree
 o3:cfg.fld (cfg.elT .op) 3=some (3,cfg.elT .edit)
 evar:∃ zs,cfg.var (cfg.elT .edit)=some (true,zs)/\zs.length=11
 e0:∃ t n,cfg.fld (cfg.elT .edit) 0=some (0,t)/\cfg.var t=some (false,[.int .i64 n])
 e1:cfg.fld (cfg.elT .edit) 1=some (1,cfg.elT .tree)
 e2:cfg.fld (cfg.elT .edit) 2=some (4,cfg.elT .tree)
 e3:∃ t c,cfg.fld (cfg.elT .edit) 3=some (7,t)/\cfg.var t=some (false,[c])/\cfg.slT t=some .wedit
 e4:∃ t c,cfg.fld (cfg.elT .edit) 4=some (8,t)/\cfg.var t=some (false,[c])/\cfg.slT t=some .kid
 e5:∃ t n,cfg.fld (cfg.elT .edit) 5=some (9,t)/\cfg.var t=some (false,[.int .i64 n])
 e6:∃ t c,cfg.fld (cfg.elT .edit) 6=some (10,t)/\cfg.var t=some (false,[c])/\cfg.slT t=some .op
theorem Zt2(ok:CfgOk P cfg)(T:TreeTypes cfg)(E:EditTypes cfg)(n:Nat)(cs:List Value)(h:Rdd henc P w n (cfg.elT .wedit) cs):∃ e:WEdit,RelS cfg w.cell? cs (cfg.enc .wedit e)/\Zdo e:=by
 obtain ⟨zs,hz,aa⟩:=E.wvar
 obtain ⟨t0,n0,f0,v0⟩:=E.w0
 obtain ⟨t1,n1,f1,v1⟩:=E.w1
 obtain ⟨t2,n2,f2,v2⟩:=E.w2
 obtain ⟨t3,n3,f3,v3⟩:=E.w3
 obtain ⟨m,rfl,hl,r0⟩:=Jb ok f0 v0 h
 obtain ⟨m',s,_,r1⟩:=Jb ok f1 v1 h
 cases s
 obtain ⟨m',s,_,r2⟩:=Jb ok f2 v2 h
 cases s
 obtain ⟨m',s,_,r3⟩:=Jb ok f3 v3 h
 cases s
 have u:cs.length=4:=by rw [hl,Z0p ok hz,aa]
 obtain ⟨a,a1,a2,a3⟩:=Z2n ok v0 r0
 obtain ⟨b,b1,b2,b3⟩:=Z2n ok v1 r1
 obtain ⟨c,c1,c2,c3⟩:=Z2n ok v2 r2
 obtain ⟨d,d1,d2,d3⟩:=Z2n ok v3 r3
 have g:=a1.glue rfl (by simp;omega) (b1.glue rfl (by simp;omega) (c1.glue rfl (by simp;omega) (d1.glue rfl (by simp;omega) (RelS.done (n:=4) u))))
 refine ⟨⟨a,b,c,d⟩,by rw [T.enc];exact g,⟨a2,a3⟩,⟨b2,?_⟩,⟨c2,?_⟩,d2,?_⟩
 .have:b<=255:=b3
  grind
 .have:c<=18446744073709551615:=c3
  grind
 .have:d<=18446744073709551615:=d3
  grind
theorem ZBr (ok:CfgOk P cfg) (T:TreeTypes cfg) (E:EditTypes cfg) (n:Nat) (IH:∀ m,m < n->∀ cs,Rdd henc P w m (cfg.elT .edit) cs->∃ e:Edit,RelS cfg w.cell? cs (cfg.enc .edit e)/\inE e)
  (cs:List Value) (h:Rdd henc P w n (cfg.elT .kid) cs):∃ e:Kid,RelS cfg w.cell? cs (cfg.enc .kid e)/\ZGl e:=by
 obtain ⟨zs,hz,ab⟩:=E.kvar
 obtain ⟨t0,n0,f0,v0⟩:=E.k0
 obtain ⟨ez,u,d⟩:=E.evar
 obtain ⟨m,rfl,hl,r0⟩:=Jb ok f0 v0 h
 obtain ⟨m',e',_,r1⟩:=Jb ok E.k1 u h
 cases e'
 have aa:cs.length=12:=by rw [hl,Z0p ok hz,ab]
 obtain ⟨a,a1,a2,a3⟩:=Z2n ok v0 r0
 obtain ⟨b,s,b2⟩:=IH m V0 _ r1
 rw [d] at s
 rw [T.enc] at s
 have g:=a1.glue rfl (by simp;omega) (s.glue rfl V0 (RelS.done (n:=12) aa))
 exact ⟨⟨a,b⟩,by rw [T.enc];exact g,b2.1,⟨a2,a3⟩,b2.2⟩
theorem ZG2 (ok:CfgOk P cfg) (T:TreeTypes cfg) (E:EditTypes cfg) (n:Nat) (IH:∀ m,m < n->∀ cs,Rdd henc P w m (cfg.elT .edit) cs->∃ e:Edit,RelS cfg w.cell? cs (cfg.enc .edit e)/\inE e)
  (cs:List Value) (h:Rdd henc P w n (cfg.elT .op) cs):∃ e:Op,RelS cfg w.cell? cs (cfg.enc .op e)/\inO e:=by
 obtain ⟨zs,hz,af⟩:=E.ovar
 obtain ⟨t0,n0,f0,v0⟩:=E.o0
 obtain ⟨t1,n1,f1,v1⟩:=E.o1
 obtain ⟨t2,c2,f2,v2,s2⟩:=E.o2
 obtain ⟨ez,aa,s⟩:=E.evar
 obtain ⟨m,rfl,hl,r0⟩:=Jb ok f0 v0 h
 obtain ⟨m',u,_,r1⟩:=Jb ok f1 v1 h
 cases u
 obtain ⟨m',u,_,r2⟩:=Jb ok f2 v2 h
 cases u
 obtain ⟨m',u,_,r3⟩:=Jb ok E.o3 aa h
 cases u
 have ab:cs.length=14:=by rw [hl,Z0p ok hz,af]
 obtain ⟨a,a1,a2,a3⟩:=Z2n ok v0 r0
 obtain ⟨b,b1,b2,b3⟩:=Z2n ok v1 r1
 obtain ⟨c,c1,c2,c3⟩:=ZfM ok s2 (fun m _ cs h=> Zcf ok T m cs h) r2
 obtain ⟨d,d1,d2⟩:=IH m V0 _ r3
 rw [s] at d1
 rw [T.enc] at d1
 rw [T.bytes] at c2
 have hk:=ZAC c3
 have g:=a1.glue rfl (by simp;omega) (b1.glue rfl (by simp;omega) (c1.glue rfl (by simp;omega) (d1.glue rfl V0 (RelS.done (n:=14) ab))))
 exact ⟨⟨a,b,c,d⟩,by rw [T.enc];exact g,⟨Z23 c2 V3,hk.1,d2.1⟩,⟨a2,a3⟩,⟨b2,b3⟩,hk.2,d2.2⟩
theorem ZwY(ok:CfgOk P cfg)(T:TreeTypes cfg)(E:EditTypes cfg):∀ (n:Nat) (cs:List Value),Rdd henc P w n (cfg.elT .edit) cs->∃ e:Edit,RelS cfg w.cell? cs (cfg.enc .edit e)/\inE e:=by
 intro n
 induction n using Nat.strongRecOn with
 | ind n IH=>
  intro cs h
  obtain ⟨zs,hz,ab⟩:=E.evar
  obtain ⟨t0,n0,f0,v0⟩:=E.e0
  obtain ⟨tz,u,aa⟩:=T.var
  obtain ⟨t3,c3,f3,v3,s3⟩:=E.e3
  obtain ⟨t4,c4,f4,v4,s4⟩:=E.e4
  obtain ⟨t5,n5,f5,v5⟩:=E.e5
  obtain ⟨t6,c6,f6,v6,s6⟩:=E.e6
  obtain ⟨m,rfl,hl,r0⟩:=Jb ok f0 v0 h
  obtain ⟨s,d,_,r1⟩:=Jb ok E.e1 u h
  cases d
  obtain ⟨s,d,_,r2⟩:=Jb ok E.e2 u h
  cases d
  obtain ⟨s,d,_,r3⟩:=Jb ok f3 v3 h
  cases d
  obtain ⟨s,d,_,r4⟩:=Jb ok f4 v4 h
  cases d
  obtain ⟨s,d,_,r5⟩:=Jb ok f5 v5 h
  cases d
  obtain ⟨s,d,_,r6⟩:=Jb ok f6 v6 h
  cases d
  have ah:cs.length=11:=by rw [hl,Z0p ok hz,ab]
  obtain ⟨k,a1,a2,a3⟩:=Z2n ok v0 r0
  obtain ⟨o,b1,b2⟩:=Zcf ok T _ _ r1
  obtain ⟨nw,d1,d2⟩:=Zcf ok T _ _ r2
  obtain ⟨ws,p1,p2,p3⟩:=ZfM ok s3 (fun m _ cs h=> Zt2 ok T E m cs h) r3
  obtain ⟨ks,q1,q2,q3⟩:=ZfM ok s4 (fun s hm cs h=> ZBr ok T E s (fun m2 ae cs h=> IH m2 V0 cs h) cs h) r4
  obtain ⟨l,i1,i2,i3⟩:=Z2n ok v5 r5
  obtain ⟨os,j1,j2,j3⟩:=ZfM ok s6 (fun s hm cs h=> ZG2 ok T E s (fun m2 ae cs h=> IH m2 V0 cs h) cs h) r6
  rw [T.bytes] at p2 q2 j2
  rw [aa,T.enc] at b1 d1
  have hk:=Zvb q3
  have ho:=Zyy j3
  have g:=a1.glue rfl (by simp;omega) (b1.glue rfl V0 (d1.glue rfl V0 (p1.glue rfl (by simp;omega) (q1.glue rfl (by simp;omega) (i1.glue rfl (by simp;omega) (j1.glue rfl (by simp;omega) (RelS.done (n:=11) ah)))))))
  refine ⟨.mk k o nw ws ks l os,by rw [T.enc];exact g,⟨b2.1,d2.1,Z23 p2 V3,Z23 q2 V3,Z23 j2 V3,hk.1,ho.1⟩,⟨a2,a3⟩,b2.2,d2.2,p3,⟨i2,i3⟩,hk.2,ho.2⟩
end
end Go.AM
namespace Go.AM
variable {P:Program} {cfg:Cfg U}
structure CellR (α:Type) where
 get:List (Tok × LC U)->C U->Option α
 can:α->C U
 canL:α->List (Tok × LC U)
 ok:∀ (cfg:Cfg U) L c a,get L c=some a->ZcC cfg c (can a)/\∀ y∈canL a,Zx (fun _=> none) L y.1=some y.2
theorem Zmf{a b:C U}(h:Wk a b):ZcC cfg a b:=fun g v d=> ZaD (cfg:=cfg) h g (fun _=> false) v d
def JN(k:IntKind):CellR Int:=
 {get:=fun _ c=> match c with
   | .int k' n=> if k=k' then some n else none
   | _=> none
  can:=fun n=> .int k n
  canL:=fun _=> []
  ok:=by
   intro cfg L c a h
   refine ⟨?_,fun y hy=> by cases hy⟩
   split at h
   .split at h
    .rename_i hk;subst hk;cases h;exact fun _ _ h=> h
    .cases h
   .cases h }
def Z1E:CellR Bool:=
 {get:=fun _ c=> match c with
   | .bool b=> some b
   | _=> none
  can:=fun b=> .bool b
  canL:=fun _=> []
  ok:=by
   intro cfg L c a h
   refine ⟨?_,fun y hy=> by cases hy⟩
   split at h
   .cases h;exact fun _ _ h=> h
   .cases h }
def cSl(T:Ty):CellR (List (El T)):=
 {get:=fun _ c=> match rSl T [c] with
   | some (l,_)=> some l
   | none=> none
  can:=fun l=> sl T l
  canL:=fun _=> []
  ok:=by
   intro cfg L c a h
   refine ⟨?_,fun y hy=> by cases hy⟩
   split at h
   .rename_i l r hr
    cases h
    exact Zmf (Zt5 hr)
   .cases h }
def ZmD(t:Tok)(k j:Nat):Bool:=
 match t with
 | .x k' j'=> Nat.beq k' k && Nat.beq j' j
 | _=> false
theorem Zsa{t:Tok}{k j:Nat}(h:ZmD t k j=true):t= .x k j:=by
 unfold ZmD at h
 split at h
 .rw [Q4] at h
  rw [Qa h.1,Qa h.2]
 .cases h
def Z3F(T:Ty)(k j:Nat):CellR (List (El T)):=
 {get:=fun _ c=> match c with
   | .nils=> some []
   | .slice S l .full=> if h:S=T then some (h▸l) else none
   | .slice S l (.own t)=> if h:S=T then (bif ZmD t k j then some (h▸l) else none) else none
   | _=> none
  can:=fun l=> .slice (U:=U) T l (.own (.x k j))
  canL:=fun _=> []
  ok:=by
   intro cfg L c a h
   refine ⟨?_,fun y hy=> by cases hy⟩
   split at h
   .cases h
    intro g v hr
    have h1:=hr.1
    cases h1
    exact ⟨SimC.snil (cfg:=cfg) (U:=U) T _,fun _ b len cap hv=> by cases hv⟩
   .split at h
    .rename_i hT
     subst hT
     cases h
     intro g v hr
     refine ⟨hr.1.tl _,fun _ b len cap hv i h3 h4=> ?_⟩
     have:=hr.2 _ _ _ hv
     grind
    .cases h
   .split at h
    .rename_i hT
     subst hT
     rename_i t
     cases ht:ZmD t k j with
     | false=> grind
     | true=>
      rw [ht] at h
      have:=Zsa ht
      subst this
      cases h
      exact fun _ _ hr=> hr
    .cases h
   .cases h }
def cXp(k:Nat):CellR Unit:=
 {get:=fun _ c=> match c with
   | .xp k'=> bif Nat.beq k' k then some () else none
   | _=> none
  can:=fun _=> .xp k
  canL:=fun _=> []
  ok:=by
   intro cfg L c a h
   refine ⟨?_,fun y hy=> by cases hy⟩
   split at h
   .rename_i k'
    cases hk:Nat.beq k' k with
    | false=> grind
    | true=> rw [Qa hk];exact fun _ _ h=> h
   .cases h }
def cWt(T:Ty)(n:Tok):CellR (List (El T)):=
 {get:=fun L c=> match c with
   | .mref t=> if t=n then match Zx (fun _=> none) L t with
    | some x=> if h:x.T=T/\x.f=0 then some (h.1▸x.l) else none
    | none=> none
    else none
   | _=> none
  can:=fun _=> .mref n
  canL:=fun l=> [(n,LC.mk (U:=U) T l 0)]
  ok:=by
   intro cfg L c a h
   split at h
   .rename_i t
    split at h
    .rename_i ht
     subst ht
     split at h
     .rename_i x hx
      split at h
      .rename_i hT
       obtain ⟨T',l,f⟩:=x
       obtain ⟨hT1,hT2⟩:=hT
       simp only at hT1 hT2
       subst hT1 hT2
       cases h
       refine ⟨fun _ _ hr=> hr,fun y hy=> ?_⟩
       grind
      .cases h
     .cases h
    .cases h
   .cases h }
def cWr(T:Ty)(k j:Nat):CellR (List (El T)):=cWt T (.x k j)
structure ObjL (α:Type) where
 get:List (Tok × LC U)->List (C U)->Option α
 can:α->List (C U)
 canL:α->List (Tok × LC U)
 ok:∀ (cfg:Cfg U) L cs a,get L cs=some a->(∀ y∈canL a,Zx (fun _=> none) L y.1=some y.2)/\cs.length=(can a).length/\∀ (j:Nat) c c',cs[j]?=some c->(can a)[j]?=some c'->ZcC cfg c c'
def ObjL.nil:ObjL Unit:=
 {get:=fun _ cs=> match cs with
   | []=> some ()
   | _ ::_=> none
  can:=fun _=> []
  canL:=fun _=> []
  ok:=by
   grind }
def ObjL.cons{α β:Type}(A:CellR α)(B:ObjL β):ObjL (α × β):=
 {get:=fun L cs=> match cs with
   | c ::r=> match A.get L c with
    | some a=> match B.get L r with
     | some b=> some (a,b)
     | none=> none
    | none=> none
   | []=> none
  can:=fun p=> A.can p.1 ::B.can p.2
  canL:=fun p=> A.canL p.1++B.canL p.2
  ok:=by
   intro cfg L cs p h
   cases cs with
   | nil=> cases h
   | cons c r=>
    simp only at h
    split at h
    .rename_i a ha
     split at h
     .rename_i b hb
      cases h
      obtain ⟨h0,h1,h2⟩:=B.ok cfg L r b hb
      obtain ⟨h3,h4⟩:=A.ok cfg L c a ha
      grind
     .cases h
    .cases h }
structure ArgM (α:Type) where
 get:List (Tok × LC U)->List (V U)->List (List (C U))->Option α
 can:α->List (V U)
 canX:α->List (List (C U))
 canL:α->List (Tok × LC U)
 ok:∀ cfg:Cfg U,cfg.enc=enc->∀ L xs X a,get L xs X=some a->BetterAll cfg xs (can a) X (canX a)/\∀ y∈canL a,Zx (fun _=> none) L y.1=some y.2
def ArgM.nil:ArgM Unit:=
 {get:=fun _ xs X=> match xs,X with
   | [],[]=> some ()
   | _,_=> none
  can:=fun _=> []
  canX:=fun _=> []
  canL:=fun _=> []
  ok:=by
   intro cfg _ L xs X a h
   split at h
   .exact ⟨BetterAll.refl [] [],fun y hy=> by cases hy⟩
   .cases h }
def ArgM.cons{α β:Type}(A:Arg α)(B:ArgM β):ArgM (α × β):=
 {get:=fun L xs X=> match xs with
   | x ::r=> match A.get x with
    | some a=> match B.get L r X with
     | some b=> some (a,b)
     | none=> none
    | none=> none
   | []=> none
  can:=fun p=> A.can p.1 ::B.can p.2
  canX:=fun p=> B.canX p.2
  canL:=fun p=> B.canL p.2
  ok:=by
   intro cfg hc L xs X p h
   cases xs with
   | nil=> cases h
   | cons x r=>
    simp only at h
    split at h
    .rename_i a ha
     split at h
     .rename_i b hb
      cases h
      obtain ⟨hB,hBL⟩:=B.ok cfg hc L r X b hb
      refine ⟨?_,hBL⟩
      refine ⟨by simp [hB.len],fun j x' y hx hy=> ?_,hB.xlen,hB.xl,hB.x⟩
      cases j with
      | zero=> simp at hx hy;subst hx hy;exact A.ok cfg hc x a ha
      | succ j=> exact hB.args j x' y (by simpa using hx) (by simpa using hy)
     .cases h
    .cases h }
def isX(k o:Nat):V U->Bool
 | .ptr (.x k') off=> Nat.beq k k' && Nat.beq off o
 | _=> false
theorem ZCD{k o:Nat}{v:V U}(h:isX k o v=true):v= .ptr (.x k) o:=by
 unfold isX at h
 split at h
 .rw [Q4] at h
  rw [Qa h.1,Qa h.2]
 .cases h
def ArgM.lst{α β:Type}(A:CellR α)(B:ArgM β):ArgM (α × β):=
 {get:=fun L xs X=> match xs with
   | .c x ::r=> match A.get L x with
    | some a=> match B.get L r X with
     | some b=> some (a,b)
     | none=> none
    | none=> none
   | _=> none
  can:=fun p=> .c (A.can p.1) ::B.can p.2
  canX:=fun p=> B.canX p.2
  canL:=fun p=> A.canL p.1++B.canL p.2
  ok:=by
   intro cfg hc L xs X p h
   split at h
   .rename_i x r
    split at h
    .rename_i a ha
     split at h
     .rename_i b hb
      cases h
      obtain ⟨hB,hBL⟩:=B.ok cfg hc L r X b hb
      obtain ⟨hA,hAL⟩:=A.ok cfg L x a ha
      refine ⟨⟨by simp [hB.len],fun j x' y hx hy=> ?_,hB.xlen,hB.xl,hB.x⟩,fun y hy=> (Qg.1 hy).elim (hAL y) (hBL y)⟩
      cases j with
      | zero=> simp at hx hy;subst hx hy;exact fun g live v hr=> hA g v hr
      | succ j=> exact hB.args j x' y (by simpa using hx) (by simpa using hy)
     .cases h
    .cases h
   .cases h }
def ArgM.agg{α β:Type}(A:ObjL α)(B:ArgM β):ArgM (α × β):=
 {get:=fun L xs X=> match xs with
   | .agg x ::r=> match A.get L x with
    | some a=> match B.get L r X with
     | some b=> some (a,b)
     | none=> none
    | none=> none
   | _=> none
  can:=fun p=> .agg (A.can p.1) ::B.can p.2
  canX:=fun p=> B.canX p.2
  canL:=fun p=> A.canL p.1++B.canL p.2
  ok:=by
   intro cfg hc L xs X p h
   split at h
   .rename_i x r
    split at h
    .rename_i a ha
     split at h
     .rename_i b hb
      cases h
      obtain ⟨hB,hBL⟩:=B.ok cfg hc L r X b hb
      obtain ⟨hAL,hl,hA⟩:=A.ok cfg L x a ha
      refine ⟨⟨by simp [hB.len],fun j x' y hx hy=> ?_,hB.xlen,hB.xl,hB.x⟩,fun y hy=> (Qg.1 hy).elim (hAL y) (hBL y)⟩
      cases j with
      | zero=>
       simp at hx hy
       subst hx hy
       rintro g live v ⟨vs,h1,h2,h3⟩
       refine ⟨vs,h1,by rw [h2,hl],fun j u c' hu hc'=> ?_⟩
       have hj:j < x.length:=by have:=(Q5.1 hc').1;omega
       exact hA j _ c' (Q0 hj) hc' g u (h3 j u _ hu (Q0 hj))
      | succ j=> exact hB.args j x' y (by simpa using hx) (by simpa using hy)
     .cases h
    .cases h
   .cases h }
def ArgM.hid{α β:Type}(A:ObjL α)(B:ArgM β):ArgM (α × β):=
 {get:=fun L xs X=> match X with
   | cs ::X'=> match A.get L cs with
    | some a=> match B.get L xs X' with
     | some b=> some (a,b)
     | none=> none
    | none=> none
   | []=> none
  can:=fun p=> B.can p.2
  canX:=fun p=> A.can p.1 ::B.canX p.2
  canL:=fun p=> A.canL p.1++B.canL p.2
  ok:=by
   intro cfg hc L xs X p h
   cases X with
   | nil=> cases h
   | cons cs X'=>
    simp only at h
    split at h
    .rename_i a ha
     split at h
     .rename_i b hb
      cases h
      obtain ⟨hB,hBL⟩:=B.ok cfg hc L xs X' b hb
      obtain ⟨hAL,hA⟩:=A.ok cfg L cs a ha
      refine ⟨?_,fun y hy=> (Qg.1 hy).elim (hAL y) (hBL y)⟩
      refine ⟨hB.len,hB.args,by simp [hB.xlen],fun j x' y hx hy=> ?_,fun j x' y hx hy i c c' hcc hc'=> ?_⟩
      .cases j with
       | zero=> grind
       | succ j=> exact hB.xl j x' y (by simpa using hx) (by simpa using hy)
      .cases j with
       | zero=>
        grind
       | succ j=> exact hB.x j x' y (by simpa using hx) (by simpa using hy) i c c' hcc hc'
     .cases h
    .cases h }
def ArgM.objAt{α β:Type}(k o:Nat)(A:ObjL α)(B:ArgM β):ArgM (α × β):=
 {get:=fun L xs X=> match xs,X with
   | x ::r,cs ::X'=> bif isX k o x then match A.get L cs with
    | some a=> match B.get L r X' with
     | some b=> some (a,b)
     | none=> none
    | none=> none
    else none
   | _,_=> none
  can:=fun p=> .ptr (.x k) o ::B.can p.2
  canX:=fun p=> A.can p.1 ::B.canX p.2
  canL:=fun p=> A.canL p.1++B.canL p.2
  ok:=by
   intro cfg hc L xs X p h
   split at h
   .rename_i x r cs X'
    cases hx:isX k o x with
    | false=> grind
    | true=>
     rw [hx] at h
     simp only [cond_true] at h
     have ex:=ZCD hx
     subst ex
     split at h
     .rename_i a ha
      split at h
      .rename_i b hb
       cases h
       obtain ⟨hB,hBL⟩:=B.ok cfg hc L r X' b hb
       obtain ⟨hAL,hA⟩:=A.ok cfg L cs a ha
       refine ⟨?_,fun y hy=> (Qg.1 hy).elim (hAL y) (hBL y)⟩
       refine ⟨by simp [hB.len],fun j x' y hx hy=> ?_,by simp [hB.xlen],fun j x' y hx hy=> ?_,fun j x' y hx hy i c c' hcc hc'=> ?_⟩
       .cases j with
        | zero=> simp at hx hy;subst hx hy;exact fun _ _ _ h=> h
        | succ j=> exact hB.args j x' y (by simpa using hx) (by simpa using hy)
       .cases j with
        | zero=> simp at hx hy;subst hx hy;exact hA.1
        | succ j=> exact hB.xl j x' y (by simpa using hx) (by simpa using hy)
       .cases j with
        | zero=>
         simp at hx hy
         subst hx hy
         exact hA.2 i c c' hcc hc'
        | succ j=> exact hB.x j x' y (by simpa using hx) (by simpa using hy) i c c' hcc hc'
      .cases h
     .cases h
   .cases h }
def ArgM.obj{α β:Type}(k:Nat)(A:ObjL α)(B:ArgM β):ArgM (α × β):=ArgM.objAt k 0 A B
def ArgM.clo{α β:Type}(f:FuncId)(k:Nat)(A:ObjL α)(B:ArgM β):ArgM (α × β):=
 {get:=fun L xs X=> match xs,X with
   | .clo g [.x k'] ::r,cs ::X'=> bif Nat.beq g f && Nat.beq k' k then match A.get L cs with
    | some a=> match B.get L r X' with
     | some b=> some (a,b)
     | none=> none
    | none=> none
    else none
   | _,_=> none
  can:=fun p=> .clo f [.x k] ::B.can p.2
  canX:=fun p=> A.can p.1 ::B.canX p.2
  canL:=fun p=> A.canL p.1++B.canL p.2
  ok:=by
   intro cfg hc L xs X p h
   split at h
   .rename_i g k' r cs X'
    cases hx:(Nat.beq g f && Nat.beq k' k) with
    | false=> grind
    | true=>
     rw [hx] at h
     simp only [cond_true] at h
     rw [Q4] at hx
     have e1:=Qa hx.1
     have e2:=Qa hx.2
     subst e1 e2
     split at h
     .rename_i a ha
      split at h
      .rename_i b hb
       cases h
       obtain ⟨hB,hBL⟩:=B.ok cfg hc L r X' b hb
       obtain ⟨hAL,hA⟩:=A.ok cfg L cs a ha
       refine ⟨?_,fun y hy=> (Qg.1 hy).elim (hAL y) (hBL y)⟩
       refine ⟨by simp [hB.len],fun j x' y hx hy=> ?_,by simp [hB.xlen],fun j x' y hx hy=> ?_,fun j x' y hx hy i c c' hcc hc'=> ?_⟩
       .cases j with
        | zero=> simp at hx hy;subst hx hy;exact fun _ _ _ h=> h
        | succ j=> exact hB.args j x' y (by simpa using hx) (by simpa using hy)
       .cases j with
        | zero=> simp at hx hy;subst hx hy;exact hA.1
        | succ j=> exact hB.xl j x' y (by simpa using hx) (by simpa using hy)
       .cases j with
        | zero=>
         simp at hx hy
         subst hx hy
         exact hA.2 i c c' hcc hc'
        | succ j=> exact hB.x j x' y (by simpa using hx) (by simpa using hy) i c c' hcc hc'
      .cases h
     .cases h
   .cases h }
def fsX{α:Type}(A:ArgM α)(pre:α->List Prop)(res:α->V U)(resX:α->List (List (C U))):Fs U:=
 {fn:=fun xs X=> match A.get [] xs X with
   | some a=> some (pre a,res a,resX a)
   | none=> none }
theorem Z0K {Γ:Known U} {α:Type} {A:ArgM α} {pre:α->List Prop} {res:α->V U} {resX:α->List (List (C U))} (ok:CfgOk P cfg) (henc:cfg.enc=enc) (hΓ:∀ f s,Γ f=some s->Contract P cfg f s) {f:FuncId} {fn:Func} (lv:Zc U)
  (hf : P.funcs[f]? = some fn) (hb : fn.body = some (cd fn [])) (hname : (fn.name == "runtime.NumGoroutine") = false) (hn : ∀ a, (A.can a).length ≤ fn.ntmps)
  (hbody:∀ a,All (pre a)->awp cfg Γ (Jf cfg Γ) fn.ntmps lv (cd fn []) (Zf (A.can a) (A.canX a)) (ZX cfg fn.ntmps fn.results.toList (res a) (resX a))):Contract P cfg f (fsX A pre res resX):=by
 refine Zbw ok hΓ (JP ok hΓ) lv hf hb hname ?_
 intro args X ps r X' d u
 unfold fsX at d
 simp only at d
 split at d
 .rename_i a ha
  cases d
  exact ⟨A.can a,A.canX a,(A.ok cfg henc [] args X a ha).1,hn a,hbody a u⟩
 .cases d
theorem Zq {l:List (FuncId × Fs U)} {α:Type} {A:ArgM α} {pre:α->Prop} {res:α->V U} {resX:α->List (List (C U))} (ok:CfgOk P cfg) (henc:cfg.enc=enc) (hl:Z2B P cfg l) {f:FuncId} {fn:Func} (lv:Zc U)
  (hf : P.funcs[f]? = some fn) (hb : fn.body = some (cd fn [])) (hname : (fn.name == "runtime.NumGoroutine") = false) (n : Nat) (hn : ∀ a, (A.can a).length = n) (hn' : n ≤ fn.ntmps)
  (hbody:∀ a,pre a->awp cfg (Z1 l) (Jf cfg (Z1 l)) fn.ntmps lv (cd fn []) (Zf (A.can a) (A.canX a)) (ZX cfg fn.ntmps fn.results.toList (res a) (resX a))):Contract P cfg f (fsX A (fun a=> [pre a]) res resX):=
 Z0K ok henc (Jn hl) lv hf hb hname (fun a=> by grind) (fun a h=> hbody a h.1)
def ZCG{α:Type}(A:ArgM α)(pre:α->List Prop)(resX:α->List (List (C U)))(cs:α->List (C U)):Fs U:=
 {obj:=true
  fn:=fun xs X=> match A.get [] xs X with
   | some a=> some (pre a,.ptr (.x (resX a).length) 0,resX a++[cs a])
   | none=> none }
theorem ZbJ {l:List (FuncId × Fs U)} {α:Type} {A:ArgM α} {pre:α->Prop} {resX:α->List (List (C U))} {cs:α->List (C U)} (ok:CfgOk P cfg) (henc:cfg.enc=enc) (hl:Z2B P cfg l) {f:FuncId} {fn:Func} (lv:Zc U)
  (hf : P.funcs[f]? = some fn) (hb : fn.body = some (cd fn [])) (hname : (fn.name == "runtime.NumGoroutine") = false) (n : Nat) (hn : ∀ a, (A.can a).length = n) (hn' : n ≤ fn.ntmps)
  (hbody:∀ a,pre a->awp cfg (Z1 l) (Jf cfg (Z1 l)) fn.ntmps lv (cd fn []) (Zf (A.can a) (A.canX a)) (ZaG cfg fn.ntmps fn.results.toList (resX a) (cs a))):Contract P cfg f (ZCG A (fun a=> [pre a]) resX cs):=by
 refine Z9E (Γ:=Z1 l) ok (Jn hl) (JP ok (Jn hl)) lv hf hb hname ?_
 intro args X u r X' d h
 unfold ZCG at d
 simp only at d
 split at d
 .rename_i a s
  cases d
  exact ⟨A.can a,A.canX a,resX a,cs a,rfl,rfl,(A.ok cfg henc [] args X a s).1,by rw [hn];exact hn',hbody a h.1⟩
 .cases d
theorem Z9v {α : Type} {A : ArgM α} {pre : α → Prop} {μ : α → Nat} {res : α → V U} {resX : α → List (List (C U))} {f : FuncId} (h0 : ∃ fn, P.funcs[f]? = some fn ∧ fn.body.isSome = true ∧ (fn.name == "runtime.NumGoroutine") = false) :
  Contract P cfg f (fsX A (fun a=> [pre a,μ a < 0]) res resX):=by
 refine Jj h0 rfl ?_
 intro args X s r X' d h
 unfold fsX at d
 simp only at d
 split at d
 .cases d;exact absurd h.2.1 (Nat.not_lt_zero _)
 .cases d
theorem Z9w {α : Type} {A : ArgM α} {pre : α → Prop} {μ : α → Nat} {res : α → V U} {resX : α → List (List (C U))} {f : FuncId} (h0 : ∃ fn, P.funcs[f]? = some fn ∧ fn.body.isSome = true ∧ (fn.name == "runtime.NumGoroutine") = false)
  (key:∀ N,Contract P cfg f (fsX A (fun a=> [pre a,μ a < N]) res resX)):Contract P cfg f (fsX A (fun a=> [pre a]) res resX):=by
 refine Jj h0 rfl ?_
 intro args X ps r X' d h u w g vs E
 unfold fsX at d
 simp only at d
 split at d
 .rename_i a s
  cases d
  exact (key (μ a+1)).one rfl args X [pre a,μ a < μ a+1] _ _ (by simp only [fsX,s]) ⟨h.1,Kc _,trivial⟩ u w g vs E
 .cases d
def Zfi{α:Type}(A:ArgM α)(pre:α->List Prop)(res:α->V U)(resX:α->List (List (C U)))(resL:α->List (Tok × LC U)):Fs U:=
 {wr:=true
  mkl:=true
  fn:=fun _ _=> none
  fn2:=fun xs X L=> match A.get L xs X with
   | some a=> some (pre a,res a,resX a,resL a)
   | none=> none }
theorem Z8Y:∀ {L:List (Tok × LC U)} {t:Tok} {x:LC U},Zx (fun _=> none) L t=some x->(t,x)∈L
 | [],t,x,h=> by trivial
 | (a,y) ::L,t,x,h=> by
  simp only [Zx] at h
  split at h
  .grind
  .exact Q7 _ (Z8Y h)
theorem Zfn {Γ:Known U} {α:Type} {A:ArgM α} {pre:α->List Prop} {res:α->V U} {resX:α->List (List (C U))} {resL:α->List (Tok × LC U)} (ok:CfgOk P cfg) (henc:cfg.enc=enc) (hΓ:∀ f s,Γ f=some s->Contract P cfg f s) {f:FuncId} {fn:Func} (lv:Zc U)
  (hf : P.funcs[f]? = some fn) (hb : fn.body = some (cd fn [])) (hname : (fn.name == "runtime.NumGoroutine") = false) (hn : ∀ a, (A.can a).length ≤ fn.ntmps)
  (hbody:∀ a,All (pre a)->awp cfg Γ (Jf cfg Γ) fn.ntmps lv (cd fn []) (JM (A.can a) (A.canX a) (A.canL a)) (Z0j cfg fn.ntmps fn.results.toList (res a) (resX a) (resL a))):Contract P cfg f (Zfi A pre res resX resL):=by
 refine Z4k ok hΓ (JP ok hΓ) lv hf hb hname ?_
 intro args X L ps r X' L' d u
 unfold Zfi at d
 simp only at d
 split at d
 .rename_i a ha
  cases d
  obtain ⟨h1,h2⟩:=A.ok cfg henc L args X a ha
  exact ⟨A.can a,A.canX a,A.canL a,h1,fun t x hx=> h2 _ (Z8Y hx),hn a,hbody a u⟩
 .cases d
theorem YA {l:List (FuncId × Fs U)} {α:Type} {A:ArgM α} {pre:α->Prop} {res:α->V U} {resX:α->List (List (C U))} {resL:α->List (Tok × LC U)} (ok:CfgOk P cfg) (henc:cfg.enc=enc) (hl:Z2B P cfg l) {f:FuncId} {fn:Func} (lv:Zc U)
  (hf : P.funcs[f]? = some fn) (hb : fn.body = some (cd fn [])) (hname : (fn.name == "runtime.NumGoroutine") = false) (n : Nat) (hn : ∀ a, (A.can a).length = n) (hn' : n ≤ fn.ntmps)
  (hbody:∀ a,pre a->awp cfg (Z1 l) (Jf cfg (Z1 l)) fn.ntmps lv (cd fn []) (JM (A.can a) (A.canX a) (A.canL a)) (Z0j cfg fn.ntmps fn.results.toList (res a) (resX a) (resL a))):Contract P cfg f (Zfi A (fun a=> [pre a]) res resX resL):=
 Zfn (Γ:=Z1 l) ok henc (Jn hl) lv hf hb hname (fun a=> by grind) (fun a h=> hbody a h.1)
def Fs.passing(s:Fs U)(p:List Nat):Fs U:={ s with pass:=fun i=> p.contains i }
theorem Contract.passing{f:FuncId}{s:Fs U}{p:List Nat}(h:Contract P cfg f s):Contract P cfg f (s.passing p):=h
def fsL{α:Type}(A:ArgL α)(pre:α->List Prop)(T:Ty)(res:α->List (El T)):Fs U:=
 {mkl:=true
  fn:=fun _ _=> none
  fn2:=fun xs X L=> match X,L with
   | [],[]=> match A.get xs with
    | some a=> some (pre a,.c (.mref (.r 0 0)),[],[(.r 0 0,LC.mk (U:=U) T (res a) 0)])
    | none=> none
   | _,_=> none }
theorem Z0L {l:List (FuncId × Fs U)} {α:Type} {A:ArgL α} {pre:α->Prop} {T:Ty} {res:α->List (El T)} (ok:CfgOk P cfg) (henc:cfg.enc=enc) (hl:Z2B P cfg l) {f:FuncId} {fn:Func} (lv:Zc U)
  (hf : P.funcs[f]? = some fn) (hb : fn.body = some (cd fn [])) (hname : (fn.name == "runtime.NumGoroutine") = false) (n : Nat) (hn : ∀ a, (A.can a).length = n) (hn' : n ≤ fn.ntmps)
  (hbody:∀ a,pre a->awp cfg (Z2z l) (Jf cfg (Z2z l)) fn.ntmps lv (cd fn []) (Zf (A.can a) []) (Z0j cfg fn.ntmps fn.results.toList (.c (.mref (.r 0 0))) [] [(.r 0 0,LC.mk (U:=U) T (res a) 0)])):Contract P cfg f (fsL A (fun a=> [pre a]) T res):=by
 have kn:∀ f s,(Z2z l) f=some s->Contract P cfg f s:=Jn hl
 refine Z4k ok kn (JP ok kn) lv hf hb hname ?_
 intro args X L ps r X' L' d u
 unfold fsL at d
 simp only at d
 split at d
 .split at d
  .rename_i a ha
   cases d
   obtain ⟨h1,h2⟩:=A.ok cfg henc args a ha
   exact ⟨A.can a,[],[],⟨h1,h2,rfl,fun k x y h=> by simp at h,fun k x y h=> by simp at h⟩,fun t x h=> h,by grind,hbody a u.1⟩
  .cases d
 .cases d
def ZCF(s s':Fs U):Fs U:=
 {wr:=s.wr
  mkl:=s.mkl
  obj:=s.obj || s'.obj
  fn:=fun _ _=> none
  fn2:=fun xs X L=> match s.fn2 xs X L with
   | some r=> some r
   | none=> s'.fn2 xs X L }
theorem Zkx{f:FuncId}{s s':Fs U}(h:Contract P cfg f s)(h':Contract P cfg f s'):Contract P cfg f (ZCF s s'):=by
 refine ⟨h.1,fun args X L ps r X' L' u d hX w g vs E=> ?_⟩
 simp only [ZCF] at u
 split at u
 .rename_i r0 h0
  cases u
  exact h.2 args X L ps r X' L' h0 d hX w g vs E
 .exact h'.2 args X L ps r X' L' u d hX w g vs E
def Fs.lend(s:Fs U):Fs U:={ s with bor:=true }
theorem Contract.lend{f:FuncId}{s:Fs U}(h:Contract P cfg f s):Contract P cfg f s.lend:=h
end Go.AM
namespace Go.AM
def aFn(f:FuncId):Arg Unit:=
 {get:=fun v=> match v with
   | .fn g=> if Nat.beq g f then some () else none
   | _=> none
  can:=fun _=> .fn f
  ok:=by
   intro cfg _ v a h
   split at h
   .split at h
    .rename_i hb
     rw [Qa hb]
     exact fun _ _ _ h=> h
    .cases h
   .cases h }
end Go.AM
namespace Go.AM.YtpjenobkibfpcaaGreat
open Go.AM Go.Proofs
def el:Ty->TypeId
 | .u64=> 101
 | .u8=> 5
 | .int=> 3
 | .tree=> 25
 | .wedit=> 113
 | .edit=> 30
 | .kid=> 115
 | .op=> 103
 | .piece=> 173
 | .unit=> 200
 | .pair=> 202
 | .left=> 110
 | .deed=> 56
 | .hdeed=> 82
def tb:Tables U:=
 {el:=el
  sl:=[(22,.u64),(23,.tree),(26,.wedit),(27,.kid),(28,.op),(39,.edit),(50,.deed),(78,.hdeed),(166,.piece),(182,.int),(188,.pair),(191,.unit),(221,.u8)]
  var:=[(2,false,[.int .i64 0]),
   (3,false,[.int .i64 0]),
   (4,false,[.bool false]),
   (5,false,[.int .u8 0]),
   (6,false,[.int .u8 0]),
   (7,true,[.int .i64 0,.int .i64 0,.bool false,.int .u8 0]),
   (8,true,[.int .i64 0,.int .i64 0,.bool false,.int .u8 0]),
   (12,false,[.int .u64 0]),
   (15,false,[.nilp]),
   (16,false,[.nilp]),
   (17,false,[.nilp]),
   (18,true,[.nilp]),
   (19,true,[.nilp]),
   (21,false,[.int .i32 0]),
   (22,false,[.nils]),
   (23,false,[.nils]),
   (24,true,[.int .i64 0,.nils,.nils]),
   (25,true,[.int .i64 0,.nils,.nils]),
   (26,false,[.nils]),
   (27,false,[.nils]),
   (28,false,[.nils]),
   (29,true,[.int .i64 0,.int .i64 0,.nils,.nils,.int .i64 0,.nils,.nils,.nils,.nils,.int .i64 0,.nils]),
   (30,true,[.int .i64 0,.int .i64 0,.nils,.nils,.int .i64 0,.nils,.nils,.nils,.nils,.int .i64 0,.nils]),
   (33,false,[.int .i64 0]),
   (39,false,[.nils]),
   (50,false,[.nils]),
   (52,false,[.nilp]),
   (55,true,[.int .i64 0,.int .i64 0,.int .i64 0,.int .i64 0,.nils,.nils,.int .i64 0,.nils,.nils,.nils,.nils,.int .i64 0,.nils]),
   (56,true,[.int .i64 0,.int .i64 0,.int .i64 0,.int .i64 0,.nils,.nils,.int .i64 0,.nils,.nils,.nils,.nils,.int .i64 0,.nils]),
   (62,false,[.nilp]),
   (64,true,[.int .i64 0,.nils,.nils,.int .i64 0,.nils,.nils,.nils,.nils]),
   (65,true,[.int .i64 0,.nils,.nils,.int .i64 0,.nils,.nils,.nils,.nils]),
   (71,false,[.nilp]),
   (78,false,[.nils]),
   (79,false,[.nilp]),
   (81,true,[.int .i64 0,.int .i64 0,.int .i64 0,.int .i64 0,.int .i64 0,.nils,.nils,.int .i64 0,.nils,.nils,.nils,.nils,.int .i64 0,.nils]),
   (82,true,[.int .i64 0,.int .i64 0,.int .i64 0,.int .i64 0,.int .i64 0,.nils,.nils,.int .i64 0,.nils,.nils,.nils,.nils,.int .i64 0,.nils]),
   (85,false,[.nilp]),
   (86,true,[.nilp,.nilp,.nilp,.nilp]),
   (87,false,[.nilp]),
   (88,false,[.nilp]),
   (89,true,[.nilp,.nilp,.nilp,.nilp]),
   (90,true,[.nilp,.nilp,.nilp,.nilp,.nilp,.nilp,.nilp,.nilp,.nilp,.nilp]),
   (91,true,[.nilp,.nilp,.nilp,.nilp,.nilp,.nilp,.nilp,.nilp,.nilp,.nilp]),
   (101,false,[.int .u64 0]),
   (102,true,[.int .i64 0,.int .i64 0,.nils,.int .i64 0,.int .i64 0,.nils,.nils,.int .i64 0,.nils,.nils,.nils,.nils,.int .i64 0,.nils]),
   (103,true,[.int .i64 0,.int .i64 0,.nils,.int .i64 0,.int .i64 0,.nils,.nils,.int .i64 0,.nils,.nils,.nils,.nils,.int .i64 0,.nils]),
   (104,false,[.nilp]),
   (105,true,[.bool false,.bool false]),
   (106,true,[.bool false,.bool false]),
   (109,true,[.int .i64 0,.int .i64 0,.nils,.nils,.int .i64 0,.nils,.nils,.nils,.nils,.int .i64 0,.nils,.int .i64 0,.int .i64 0,.nils,.nils,.int .i64 0,.nils,.nils,.nils,.nils,.int .i64 0,.nils,.bool false,.bool false]),
   (110,true,[.int .i64 0,.int .i64 0,.nils,.nils,.int .i64 0,.nils,.nils,.nils,.nils,.int .i64 0,.nils,.int .i64 0,.int .i64 0,.nils,.nils,.int .i64 0,.nils,.nils,.nils,.nils,.int .i64 0,.nils,.bool false,.bool false]),
   (112,true,[.int .i64 0,.int .u8 0,.int .u64 0,.int .u64 0]),
   (113,true,[.int .i64 0,.int .u8 0,.int .u64 0,.int .u64 0]),
   (114,true,[.int .i64 0,.int .i64 0,.int .i64 0,.nils,.nils,.int .i64 0,.nils,.nils,.nils,.nils,.int .i64 0,.nils]),
   (115,true,[.int .i64 0,.int .i64 0,.int .i64 0,.nils,.nils,.int .i64 0,.nils,.nils,.nils,.nils,.int .i64 0,.nils]),
   (123,true,[.int .i64 0,.nils,.nils,.nils,.nils]),
   (124,true,[.int .i64 0,.nils,.nils,.nils,.nils]),
   (130,true,[.int .i64 0,.nils,.nils,.nils]),
   (131,true,[.int .i64 0,.nils,.nils,.nils]),
   (136,true,[.int .i64 0,.nils,.nils,.int .i64 0,.nils,.nils,.nils]),
   (137,true,[.int .i64 0,.nils,.nils,.int .i64 0,.nils,.nils,.nils]),
   (138,true,[.int .i64 0,.nils,.nils,.int .i64 0,.int .i64 0,.int .i64 0,.nils,.nils,.int .i64 0,.nils,.nils,.nils,.nils,.int .i64 0,.nils]),
   (139,true,[.int .i64 0,.nils,.nils,.int .i64 0,.int .i64 0,.int .i64 0,.nils,.nils,.int .i64 0,.nils,.nils,.nils,.nils,.int .i64 0,.nils]),
   (141,true,[.int .i64 0,.nils,.nils,.int .i64 0,.int .i64 0,.int .i64 0,.nils,.nils,.int .i64 0,.nils,.nils,.nils,.nils,.int .i64 0,.nils]),
   (142,true,[.int .i64 0,.nils,.nils,.int .i64 0,.int .i64 0,.int .i64 0,.nils,.nils,.int .i64 0,.nils,.nils,.nils,.nils,.int .i64 0,.nils]),
   (166,false,[.nils]),
   (169,false,[.nilp]),
   (170,true,[.nilp,.nils,.nils,.nils,.nils]),
   (171,true,[.nilp,.nils,.nils,.nils,.nils]),
   (172,true,[.int .i64 0,.int .i64 0,.int .i64 0,.nils,.int .i64 0,.int .i64 0,.nils,.nils,.int .i64 0,.nils,.nils,.nils,.nils,.int .i64 0,.nils,.int .i64 0,.int .i64 0,.nils,.int .i64 0,.int .i64 0,.nils,.nils,.int .i64 0,.nils,.nils,.nils,.nils,.int .i64 0,.nils]),
   (173,true,[.int .i64 0,.int .i64 0,.int .i64 0,.nils,.int .i64 0,.int .i64 0,.nils,.nils,.int .i64 0,.nils,.nils,.nils,.nils,.int .i64 0,.nils,.int .i64 0,.int .i64 0,.nils,.int .i64 0,.int .i64 0,.nils,.nils,.int .i64 0,.nils,.nils,.nils,.nils,.int .i64 0,.nils]),
   (176,false,[.nilp]),
   (177,true,[.nils,.nils,.nils]),
   (178,true,[.nils,.nils,.nils]),
   (181,false,[.nilp]),
   (182,false,[.nils]),
   (188,false,[.nils]),
   (191,false,[.nils]),
   (199,true,[.int .i64 0,.int .i64 0,.int .i64 0,.nils,.nils,.int .i64 0,.int .i64 0,.nils,.nils,.int .i64 0,.nils,.nils,.nils,.nils,.int .i64 0,.nils,.bool false]),
   (200,true,[.int .i64 0,.int .i64 0,.int .i64 0,.nils,.nils,.int .i64 0,.int .i64 0,.nils,.nils,.int .i64 0,.nils,.nils,.nils,.nils,.int .i64 0,.nils,.bool false]),
   (201,true,[.int .i64 0,.int .i64 0,.int .i64 0,.int .i64 0,.nils,.nils,.int .i64 0,.int .i64 0,.nils,.nils,.int .i64 0,.nils,.nils,.nils,.nils,.int .i64 0,.nils,.bool false,.int .i64 0,.int .i64 0,.int .i64 0,.nils,.nils,.int .i64 0,.int .i64 0,.nils,.nils,.int .i64 0,.nils,.nils,.nils,.nils,.int .i64 0,.nils,.bool false]),
   (202,true,[.int .i64 0,.int .i64 0,.int .i64 0,.int .i64 0,.nils,.nils,.int .i64 0,.int .i64 0,.nils,.nils,.int .i64 0,.nils,.nils,.nils,.nils,.int .i64 0,.nils,.bool false,.int .i64 0,.int .i64 0,.int .i64 0,.nils,.nils,.int .i64 0,.int .i64 0,.nils,.nils,.int .i64 0,.nils,.nils,.nils,.nils,.int .i64 0,.nils,.bool false]),
   (217,true,[.int .u8 0,.int .u8 0,.int .u8 0,.int .u8 0,.int .u8 0,.int .u8 0,.int .u8 0,.int .u8 0]),
   (221,false,[.nils]),
   (227,false,[.nilp]),
   (228,true,[.nils,.int .i64 0]),
   (229,true,[.nils,.int .i64 0]),
   (259,true,[.int .i64 0,.int .i64 0,.int .i64 0,.int .i64 0,.int .i64 0,.int .i64 0]),
   (267,false,[.int .u32 0]),
   (268,false,[.int .u8 0]),
   (269,false,[.int .u8 0]),
   (271,false,[.nilp]),
   (272,false,[.int .i32 0]),
   (273,false,[.int .i32 0])]
  fld:=[(7,0,0,2),(7,1,1,3),(7,2,2,4),(7,3,3,6),(8,0,0,2),(8,1,1,3),(8,2,2,4),(8,3,3,6),(18,0,0,17),(19,0,0,17),(24,0,0,3),(24,1,1,22),(24,2,2,23),(25,0,0,3),(25,1,1,22),(25,2,2,23),(29,0,0,3),(29,1,1,25),(29,2,4,25),(29,3,7,26),(29,4,8,27),(29,5,9,3),(29,6,10,28),(30,0,0,3),(30,1,1,25),(30,2,4,25),(30,3,7,26),(30,4,8,27),(30,5,9,3),(30,6,10,28),(55,0,0,3),(55,1,1,3),(55,2,2,30),(56,0,0,3),(56,1,1,3),(56,2,2,30),(64,0,0,25),(64,1,3,25),(64,2,6,39),(64,3,7,39),(65,0,0,25),(65,1,3,25),(65,2,6,39),(65,3,7,39),(81,0,0,3),(81,1,1,3),(81,2,2,3),(81,3,3,30),(82,0,0,3),(82,1,1,3),(82,2,2,3),(82,3,3,30),(90,0,0,71),(90,1,1,86),(90,2,5,87),(90,3,6,89),(91,0,0,71),(91,1,1,86),(91,2,5,87),(91,3,6,89),(102,0,0,3),(102,1,1,3),(102,2,2,23),(102,3,3,30),(103,0,0,3),(103,1,1,3),(103,2,2,23),(103,3,3,30),(105,0,0,4),(105,1,1,4),(106,0,0,4),(106,1,1,4),(109,0,0,30),(109,1,11,30),(109,2,22,4),(109,3,23,4),(110,0,0,30),(110,1,11,30),(110,2,22,4),(110,3,23,4),(112,0,0,3),(112,1,1,5),(112,2,2,101),(112,3,3,101),(113,0,0,3),(113,1,1,5),(113,2,2,101),(113,3,3,101),(114,0,0,3),(114,1,1,30),(115,0,0,3),(115,1,1,30),(123,0,0,25),(123,1,3,39),(123,2,4,39),(124,0,0,25),(124,1,3,39),(124,2,4,39),(130,0,0,25),(130,1,3,39),(131,0,0,25),(131,1,3,39),(136,0,0,25),(136,1,3,25),(136,2,6,39),(137,0,0,25),(137,1,3,25),(137,2,6,39),(138,0,0,25),(138,1,3,3),(138,2,4,30),(139,0,0,25),(139,1,3,3),(139,2,4,30),(141,0,0,25),(141,1,3,3),(141,2,4,30),(142,0,0,25),(142,1,3,3),(142,2,4,30),(170,0,0,104),(170,1,1,28),(170,2,2,28),(170,3,3,23),(170,4,4,23),(171,0,0,104),(171,1,1,28),(171,2,2,28),(171,3,3,23),(171,4,4,23),(172,0,0,3),(172,1,1,103),(172,2,15,103),(173,0,0,3),(173,1,1,103),(173,2,15,103),(177,0,0,28),(177,1,1,23),(177,2,2,23),(178,0,0,28),(178,1,1,23),(178,2,2,23),(199,0,0,3),(199,1,1,3),(199,2,2,25),(199,3,5,30),(199,4,16,4),(200,0,0,3),(200,1,1,3),(200,2,2,25),(200,3,5,30),(200,4,16,4),(201,0,0,3),(201,1,1,200),(201,2,18,200),(202,0,0,3),(202,1,1,200),(202,2,18,200),(228,0,0,28),(228,1,1,3),(229,0,0,28),(229,1,1,3)]
  arr:=[(86,4,85),(89,4,88),(217,8,5),(259,6,3)]
  eqs:=[7,8,105,106,112,113] }
def cfg:Cfg U:=tb.cfg K
theorem ZFQ:tb.var.all (ZwI Tryz.prog)=true:=V4
theorem ZHw:tb.sl.all (slB Tryz.prog tb.el)=true:=V4
theorem ZGp:tb.fld.all (ZCH Tryz.prog)=true:=V4
theorem ZGz:tb.arr.all (ZDK Tryz.prog)=true:=V4
theorem ZHy:∀ t,elB Tryz.prog K tb t=true:=by
 intro t
 cases t
 .kernel_rfl
 .kernel_rfl
 .kernel_rfl
 .kernel_rfl
 .kernel_rfl
 .kernel_rfl
 .kernel_rfl
 .kernel_rfl
 .kernel_rfl
 .kernel_rfl
 .kernel_rfl
 .kernel_rfl
 .kernel_rfl
 .kernel_rfl
theorem Zh:CfgOk Tryz.prog cfg:=ZpU ZHZ ZFQ ZHw ZGp ZGz ZHy V4 V4
abbrev sU(T:Ty)(l:List (El T))(t:Tail):C U:= .slice (U:=U) T l t
noncomputable abbrev AW(K:Known U)(f:Func)(lv:Zc U)(p:List Nat):=awp cfg K (Jf cfg K) f.ntmps lv (cd f p)
noncomputable abbrev SW(K:Known U)(f:Func)(lv:Zc U)(p:List Nat):=ZFZ cfg K (Jf cfg K) f.ntmps lv (cd f p)
abbrev EQ(f:Func):=ZX cfg f.ntmps f.results.toList
abbrev QT:=AExit->LSt U->Prop
abbrev NT:=LSt U->Prop
abbrev CT(k:FuncId)(s:Fs U):Prop:=Contract Tryz.prog cfg k s
abbrev xB:=@AExit.inBlock U
abbrev xT:=@AExit.then U
abbrev ci(x:Int):C U:= .int .i64 x
abbrev L2(e:List (Nat × V U))(m:List (Name × List (C U))):LSt U:=⟨e,m,[]⟩
abbrev zb8(f:Int->Nat->Int)(x:Int):List (C U):=[.int .u8 (f x 0),.int .u8 (f x 1),.int .u8 (f x 2),.int .u8 (f x 3),.int .u8 (f x 4),.int .u8 (f x 5),.int .u8 (f x 6),.int .u8 (f x 7)]
abbrev zi8(l:List Int):List (C U):=l.map fun x=> .int .u8 x
abbrev FK (k : FuncId) : Prop := ∃ fn, Tryz.prog.funcs[k]? = some fn ∧ fn.body.isSome = true ∧ (fn.name == "runtime.NumGoroutine") = false
abbrev pL(n:Nat):Nat × V U:=(n,.ptr (.loc n) 0)
abbrev pB(n:Nat)(b:Bool):Nat × V U:=(n,.c (.bool b))
abbrev pI(n:Nat)(x:Int):Nat × V U:=(n,.c (.int .i64 x))
def lvl(l:List (List Nat × List Nat)):Zc U:=fun i=> ((l.getD i ([],[])).1.map fun k=> (k,[]),(l.getD i ([],[])).2.map fun k=> (.loc k,[]))
instance (n:Nat):OfNat (Nat × List (Sk U)) n:=⟨(n,[])⟩
instance (n:Nat):OfNat (Name × List (Sk U)) n:=⟨(.loc n,[])⟩
abbrev an(n:Nat)(l:List (Sk U)):List (Sk U):=List.replicate n .any++l
def lvk(l:List (List (Nat × List (Sk U)) × List (Name × List (Sk U)))):Zc U:=fun i=> l.getD i ([],[])
abbrev zc0:List (C U):=[.int .u8 0,.int .u8 0,.int .u8 0,.int .u8 0,.int .u8 0,.int .u8 0,.int .u8 0,.int .u8 0]
abbrev zc1:List (C U):=[.int .i64 0,.int .i64 0,.nils,.nils,.int .i64 0,.nils,.nils,.nils,.nils,.int .i64 0,.nils]
end Go.AM.YtpjenobkibfpcaaGreat
namespace Go.AM.YtpjenobkibfpcaaGreat
open Go.AM Go.Proofs Go.Proofs.YtpjenobkibfpcaaGreat Go.ChangeShapes Go.WideShapes Go.RowKit
theorem own:ownKnob Tryz.prog.godebug=none:=V4
theorem Zyv:laidOutB Tryz.prog=true:=V4
theorem Zfv:TreeTypes cfg:=⟨rfl,rfl,⟨_,rfl⟩,⟨_,rfl⟩,⟨_,rfl,rfl⟩,⟨_,_,rfl,rfl⟩,⟨_,_,rfl,rfl,rfl⟩,⟨_,_,rfl,rfl,rfl⟩⟩
theorem ZqO:EditTypes cfg:=⟨⟨_,rfl,rfl⟩,⟨_,_,rfl,rfl⟩,⟨_,_,rfl,rfl⟩,⟨_,_,rfl,rfl⟩,⟨_,_,rfl,rfl⟩,⟨_,rfl,rfl⟩,⟨_,_,rfl,rfl⟩,rfl,⟨_,rfl,rfl⟩,⟨_,_,rfl,rfl⟩,⟨_,_,rfl,rfl⟩,⟨_,_,rfl,rfl,rfl⟩,rfl,⟨_,rfl,rfl⟩,⟨_,_,rfl,rfl⟩,rfl,rfl,⟨_,_,rfl,rfl,rfl⟩,⟨_,_,rfl,rfl,rfl⟩,⟨_,_,rfl,rfl⟩,⟨_,_,rfl,rfl,rfl⟩⟩
theorem ZyJ{H:Type}{henc:TypeId × Value->H}:ZAf henc Tryz.prog cfg (aEl .tree) 25 inT:=ZpD Zh rfl ⟨_,_,rfl⟩ (fun _ n cs h=> Zcf Zh Zfv n cs h)
theorem ZpE{H:Type}{henc:TypeId × Value->H}:ZAf henc Tryz.prog cfg (aEl .edit) 30 inE:=ZpD Zh rfl ⟨_,_,rfl⟩ (fun _ n cs h=> ZwY Zh Zfv ZqO n cs h)
end Go.AM.YtpjenobkibfpcaaGreat
namespace Go.AM.YtpjenobkibfpcaaGreat
open Go.AM Go.Proofs
noncomputable section
def Zmh:ArgL (Tree × Int × Int × Unit):=(.cons (aEl .tree) (.cons (Yr .i64) (.cons (Yr .i64) .nil)))
def Z8G(a:Tree × Int × Int × Unit):Prop:=Z2J a.1/\0<=a.2.1/\a.2.1<=4611686018427387904/\-1<=a.2.2.1/\a.2.2.1<=4611686018427387904
def Zqp(a:Tree × Int × Int × Unit):Nat:=Zj a.1
def Zjf(a:Tree × Int × Int × Unit):V U:= .c (ci (ZD a.1 a.2.1 a.2.2.1))
def Z4I:Fs U:=fs Zmh (fun a=> [Z8G a]) Zjf
def Zw0:ArgL (Tree × Unit):=(.cons (aEl .tree) .nil)
def Ztf(a:Tree × Unit):Prop:=Z2J a.1
def ZAr(a:Tree × Unit):V U:= .c (.bool (decide (0<=ZD a.1 80 3000)))
def Zdb:Fs U:=fs Zw0 (fun a=> [Ztf a]) ZAr
def ZvR:ArgL (List Int × List Int × Unit):=(.cons (aSl .u64) (.cons (aSl .u64) .nil))
def ZfQ(a:List Int × List Int × Unit):Prop:=a.1.length<=1000000000000
def Zjg(a:List Int × List Int × Unit):V U:= .c (.bool (decide (a.1=a.2.1)))
def Zd0:Fs U:=fs ZvR (fun a=> [ZfQ a]) Zjg
def Zpz:ArgL (List Int × Unit):=(.cons (aSl .u64) .nil)
def Ze1(a:List Int × Unit):Prop:=a.1.length<=1000000000000
def ZsX(a:List Int × Unit):V U:= .c (sU .u64 a.1 .unk)
def Z8r:Fs U:=fs Zpz (fun a=> [Ze1 a]) ZsX
def Zpk:ArgL (Tree × Int × Unit):=(.cons (aEl .tree) (.cons (Yr .i64) .nil))
def Za0(a:Tree × Int × Unit):Prop:=True
def Zhd(a:Tree × Int × Unit):V U:= .c (.int .u64 (Jy a.1 a.2.1))
def Z1L:Fs U:=fs Zpk (fun a=> [Za0 a]) Zhd
def Zhc(a:Tree × Int × Unit):V U:= .agg (enc .tree (JK a.1 a.2.1))
def Z1K:Fs U:=fs Zpk (fun a=> [Za0 a]) Zhc
def Z1m(a:Tree × Unit):Prop:=Zj a.1<=1000000000000
def Zqq(a:Tree × Unit):Nat:=Zj a.1
def ZfJ(a:Tree × Unit):V U:= .agg (enc .tree (Z3 a.1))
def Js:Fs U:=fs Zw0 (fun a=> [Z1m a]) ZfJ
def Zms:ArgL (Tree × Tree × Unit):=(.cons (aEl .tree) (.cons (aEl .tree) .nil))
def Z8I(a:Tree × Tree × Unit):Prop:=Zj a.1<=1000000000000
def Zqr(a:Tree × Tree × Unit):Nat:=Zj a.1
def ZfK(a:Tree × Tree × Unit):V U:= .c (.bool (ZY a.1 a.2.1))
def Z4M:Fs U:=fs Zms (fun a=> [Z8I a]) ZfK
def Z2o(a:Tree × Tree × Unit):Prop:=Zj a.1<=1000000000000/\Zj a.2.1<=1000000000000
def Zg2(a:Tree × Tree × Unit):Nat:=Zj a.1+Zj a.2.1
def Z7o(a:Tree × Tree × Unit):V U:= .c (.bool (ZY (Z3 a.1) (Z3 a.2.1)))
def Ju:Fs U:=fs Zms (fun a=> [Z2o a]) Z7o
def ZlV(N:Nat):List (FuncId × Fs U):=(80,fs Zmh (fun a=> [Z8G a,Zqp a < N]) Zjf) ::[]
def Zyl:Zc U:=lvl [([1,2,3],[3]),([1,2,3],[3]),([1,2,3,19],[3]),([6],[]),([1,2,3,7],[3]),([1,2,3,7,28],[3]),([1,2,3,7],[3]),([1,2,3,7],[3]),([6],[])]
def Z9f(t:Tree)(d l s h:Int):LSt U:=(L2 [pI 1 d,pI 2 s,pL 3,pI 7 h] [(.loc 3,(enc .tree t))])
abbrev A80(N:Nat)(p:List Nat):=AW (Z1 (ZlV N)) Tryz.f80 Zyl p
abbrev S80(N:Nat)(p:List Nat):=SW (Z1 (ZlV N)) Tryz.f80 Zyl p
theorem ZH5(N:Nat)(t:Tree)(d l:Int)(Q:QT)(h:((InR (l - 1))/\(InR (((l - 1):Int) - (t.words.length:Int)))/\((Tt (!(d==0)))/\((d==0)=false->(!(d==0))=true)/\(iB (bif (d==0) then true else (decide (((((l - 1):Int) - (t.words.length:Int)):Int) < 0))) ((Q .ret (L2 [pI 6 (-1)] []))) ((Zp (A80 N [1,1,1,0,1,0,0]) (Z9f t d l (((l - 1):Int) - (t.words.length:Int)) 0) (xB 0 (S80 N [1,1,1,1] Q)))))))):
  A80 N [] (L2 [(0,.agg (enc .tree t)),pI 1 d,pI 2 l] []) Q:=
 Eq.mpr V4 h
theorem Zwu(N:Nat)(t:Tree)(d l u s:Int)(N0:NT)(Q:QT)(h:let z2:=t.kids.getD s.toNat Tree.nil;let z1:=decide (s < (t.kids.length:Int));let z0:=Tree.mk (Tree.kind z2) (Tree.words z2) (Tree.kids z2);(Tt z1)/\(Tt z1)/\(iB (bif z1 then (decide ((0:Int)<=u)) else false) (((0:Int)<=s/\s < (t.kids.length:Int))/\(InR (d - 1))/\(Z8G (z0,(d - 1),u,()))/\(Zqp (z0,(d - 1),u,()) < N)/\((InR (s+1))/\(N0 (Z9f t d l (ZD z0 (d - 1) u) (s+1))))) ((Q .ret (L2 [pI 6 u] []))))):
  A80 N [1,1,1,0,1,0,0] (Z9f t d l u s) (xT N0 (xB 0 (S80 N [1,1,1,1] Q))):=
 Eq.mpr V4 h
def ZDY(N:Nat)(t:Tree)(d l:Int):Prop:=AW (Z1 (ZlV N)) Tryz.f80 Zyl [] (Zf (Zmh.can (t,d,l,())) []) (EQ Tryz.f80 (Zjf (t,d,l,())) [])
theorem ZBN(hb:∀ (N:Nat) (t:Tree) (d:Int) (l:Int) (_:Unit),Z8G (t,d,l,())->Zqp (t,d,l,()) < N+1->ZDY N t d l):CT 80 Z4I:=
 J0 (μ:=Zqp) (l:=[]) Zh rfl trivial Zyl Tryz.func80 rfl rfl 3 (fun _=> rfl) V3 (fun N ⟨t,d,l,_⟩=> hb N t d l ())
def Zv5:List (FuncId × Fs U):=[(80,Z4I)]
def ZCr:Zc U:=lvl [([1],[1]),([2],[])]
abbrev A30(p:List Nat):=AW (Z1 Zv5) Tryz.f30 ZCr p
theorem ZHq(t:Tree)(Q:QT)(h:let z0:=Tree.mk t.kind t.words t.kids;((Z8G (z0,80,3000,()))/\(Q .ret (L2 [(2,.c (.bool (decide ((0:Int)<=(ZD z0 80 3000)))))] [])))):
  A30 [] (L2 [(0,.agg (enc .tree t))] []) Q:=
 Eq.mpr V4 h
def ZEj(t:Tree):Prop:=AW (Z1 Zv5) Tryz.f30 ZCr [] (Zf (Zw0.can (t,())) []) (EQ Tryz.f30 (ZAr (t,())) [])
theorem ZC3(c80:CT 80 Z4I)(hb:∀ (t:Tree) (_:Unit),Ztf (t,())->ZEj t):CT 30 Zdb:=
 Z0 (l:=[(80,Z4I)]) Zh rfl (⟨c80,trivial⟩) ZCr Tryz.func30 rfl rfl 1 (fun _=> rfl) V3 (fun ⟨t,_⟩=> hb t ())
def ZlW:List (FuncId × Fs U):=[]
def Zym:Zc U:=lvl [([0,1],[]),([0,1,10],[]),([4],[]),([0,1,5],[]),([0,1,5,14],[]),([0,1,5],[]),([0,1,5,25],[]),([4],[]),([4],[])]
def Z9g(a b:List Int)(d:Int):LSt U:=(L2 [(0,.c (sU .u64 a .unk)),(1,.c (sU .u64 b .unk)),pI 5 d] [])
abbrev A76(p:List Nat):=AW (Z1 ZlW) Tryz.f76 Zym p
abbrev S76(p:List Nat):=SW (Z1 ZlW) Tryz.f76 Zym p
theorem ZH7(a b:List Int)(Q:QT)(h:(iB (((a.length:Int):Int) !=(b.length:Int)) ((Q .ret (L2 [pB 4 false] []))) ((Zp (A76 [1,1,0,1,0,0]) (Z9g a b 0) (xB 0 (S76 [1,1,1] Q)))))):
  A76 [] (L2 [(0,.c (sU .u64 a .unk)),(1,.c (sU .u64 b .unk))] []) Q:=
 Eq.mpr V4 h
theorem Zwv(a b:List Int)(d:Int)(N0:NT)(Q:QT)(h:(iB (decide (d < (a.length:Int))) (((0:Int)<=d/\d < (a.length:Int))/\((0:Int)<=d/\d < (b.length:Int))/\(iB (((a.getD d.toNat (0:Int)):Int) !=(b.getD d.toNat (0:Int))) ((Q .ret (L2 [pB 4 false] []))) ((InR (d+1))/\(N0 (Z9g a b (d+1)))))) ((Q .ret (L2 [pB 4 true] []))))):
  A76 [1,1,0,1,0,0] (Z9g a b d) (xT N0 (xB 0 (S76 [1,1,1] Q))):=
 Eq.mpr V4 h
def ZE0(a b:List Int):Prop:=AW (Z1 ZlW) Tryz.f76 Zym [] (Zf (ZvR.can (a,b,())) []) (EQ Tryz.f76 (Zjg (a,b,())) [])
theorem ZBO(hb:∀ (a:List Int) (b:List Int) (_:Unit),ZfQ (a,b,())->ZE0 a b):CT 76 Zd0:=
 Z0 (l:=[]) Zh rfl trivial Zym Tryz.func76 rfl rfl 2 (fun _=> rfl) V3 (fun ⟨a,b,_⟩=> hb a b ())
def Zux:Zc U:=lvl [([0],[]),([0,4],[]),([2],[]),([2],[])]
abbrev ZIv(p:List Nat):=AW (Z1 ZlW) Tryz.f117 Zux p
theorem ZFE(l:List Int)(Q:QT)(h:(((l=[])->(Q .ret (L2 [(2,.c (.nils))] [])))/\(True->((([]:List Int).length+l.length)*8<=140737488355328)/\(Q .ret (L2 [(2,.c (sU .u64 (([]:List Int)++l) (.own (.e 2 0))))] []))))):
  ZIv [] (L2 [(0,.c (sU .u64 l .unk))] []) Q:=
 Eq.mpr V4 h
def ZA3(l:List Int):Prop:=AW (Z1 ZlW) Tryz.f117 Zux [] (Zf (Zpz.can (l,())) []) (EQ Tryz.f117 (ZsX (l,())) [])
theorem Zyc(hb:∀ (l:List Int) (_:Unit),Ze1 (l,())->ZA3 l):CT 117 Z8r:=
 Z0 (l:=[]) Zh rfl trivial Zux Tryz.func117 rfl rfl 1 (fun _=> rfl) V3 (fun ⟨l,_⟩=> hb l ())
def ZnO:Zc U:=lvl [([0,1],[]),([0,1,10],[]),([4],[]),([0,1,12,13],[]),([0,1,12,13,14],[]),([0,1,5,12,13],[]),([0,1,12,13,24],[]),([4],[]),([0,1,12,13],[]),([4],[])]
def Z6l(a b:List Int)(d:Int):LSt U:=(L2 [(0,.c (sU .u64 a .unk)),(1,.c (sU .u64 b .unk)),pI 12 (a.length:Int),pI 13 d] [])
abbrev ZEx(p:List Nat):=AW (Z1 ZlW) Tryz.f172 ZnO p
abbrev ZGK(p:List Nat):=SW (Z1 ZlW) Tryz.f172 ZnO p
theorem ZFg(a b:List Int)(Q:QT)(h:(iB (((a.length:Int):Int) !=(b.length:Int)) ((Q .ret (L2 [pB 4 false] []))) ((Zp (ZEx [1,1,0,1,0,0]) (Z6l a b 0) (xB 0 (ZGK [1,1,1] Q)))))):
  ZEx [] (L2 [(0,.c (sU .u64 a .unk)),(1,.c (sU .u64 b .unk))] []) Q:=
 Eq.mpr V4 h
theorem ZrA(a b:List Int)(d:Int)(N0:NT)(Q:QT)(h:(iB (decide (d < (a.length:Int))) ((((0:Int)<=d/\d < (a.length:Int))/\((0:Int)<=d/\d < (b.length:Int))/\(iB (((a.getD d.toNat (0:Int)):Int) !=(b.getD d.toNat (0:Int))) ((Q .ret (L2 [pB 4 false] []))) ((InR (d+1))/\(N0 (Z6l a b (d+1))))))) ((Q .ret (L2 [pB 4 true] []))))):
  ZEx [1,1,0,1,0,0] (Z6l a b d) (xT N0 (xB 0 (ZGK [1,1,1] Q))):=
 Eq.mpr V4 h
def ZzF(a b:List Int):Prop:=AW (Z1 ZlW) Tryz.f172 ZnO [] (Zf (ZvR.can (a,b,())) []) (EQ Tryz.f172 (Zjg (a,b,())) [])
theorem ZxR(hb:∀ (a:List Int) (b:List Int) (_:Unit),ZfQ (a,b,())->ZzF a b):CT 172 Zd0:=
 Z0 (l:=[]) Zh rfl trivial ZnO Tryz.func172 rfl rfl 2 (fun _=> rfl) V3 (fun ⟨a,b,_⟩=> hb a b ())
def Zug:Zc U:=lvl [([1,2],[2]),([1,2,13],[2]),([4],[]),([4],[])]
abbrev ZIi(p:List Nat):=AW (Z1 ZlW) Tryz.f173 Zug p
theorem ZFf(t:Tree)(i:Int)(Q:QT)(h:let z0:= !(decide (i < 0));((Tt z0)/\(Tt z0)/\(Tt z0)/\(Tt z0)/\((decide (i < 0))=false->z0=true)/\(iB (bif (decide (i < 0)) then true else (decide (((t.words.length:Int):Int)<=i))) ((Q .ret (L2 [(4,.c (.int .u64 0))] []))) (((0:Int)<=i/\i < (t.words.length:Int))/\(Q .ret (L2 [(4,.c (.int .u64 (t.words.getD i.toNat (0:Int))))] [])))))):
  ZIi [] (L2 [(0,.agg (enc .tree t)),pI 1 i] []) Q:=
 Eq.mpr V4 h
def ZzE(t:Tree)(i:Int):Prop:=AW (Z1 ZlW) Tryz.f173 Zug [] (Zf (Zpk.can (t,i,())) []) (EQ Tryz.f173 (Zhd (t,i,())) [])
theorem ZxQ(hb:∀ (t:Tree) (i:Int) (_:Unit),Za0 (t,i,())->ZzE t i):CT 173 Z1L:=
 Z0 (l:=[]) Zh rfl trivial Zug Tryz.func173 rfl rfl 2 (fun _=> rfl) V3 (fun ⟨t,i,_⟩=> hb t i ())
def Zuf:Zc U:=lvl [([1,2,4],[2,4]),([1,2,4,13],[2,4]),([4],[4]),([4],[4])]
abbrev ZIh(p:List Nat):=AW (Z1 ZlW) Tryz.f174 Zuf p
theorem ZFe(t:Tree)(i:Int)(Q:QT)(h:let z0:= !(decide (i < 0));((Tt z0)/\(Tt z0)/\(Tt z0)/\(Tt z0)/\((decide (i < 0))=false->z0=true)/\(iB (bif (decide (i < 0)) then true else (decide (((t.kids.length:Int):Int)<=i))) ((Q .ret (L2 [pL 4] [(.loc 4,[ci 0,.nils,.nils])]))) (((0:Int)<=i/\i < (t.kids.length:Int))/\(Q .ret (L2 [pL 4] [(.loc 4,(enc .tree (t.kids.getD i.toNat Tree.nil)))])))))):
  ZIh [] (L2 [(0,.agg (enc .tree t)),pI 1 i] []) Q:=
 Eq.mpr V4 h
def ZzD(t:Tree)(i:Int):Prop:=AW (Z1 ZlW) Tryz.f174 Zuf [] (Zf (Zpk.can (t,i,())) []) (EQ Tryz.f174 (Zhc (t,i,())) [])
theorem ZxP(hb:∀ (t:Tree) (i:Int) (_:Unit),Za0 (t,i,())->ZzD t i):CT 174 Z1K:=
 Z0 (l:=[]) Zh rfl trivial Zuf Tryz.func174 rfl rfl 2 (fun _=> rfl) V3 (fun ⟨t,i,_⟩=> hb t i ())
def ZlX(N:Nat):List (FuncId × Fs U):=(75,fs Zw0 (fun a=> [Z1m a,Zqq a < N]) ZfJ) ::[(117,Z8r)]
def Zyn:Zc U:=lvk [([1,2],[1,2]),([1,2,8],[1,2]),([2],[2]),([1,2,3],[1,2,3]),([1,2,3,17,18,19],[1,2,((.loc 3),[.any,.any,.own .tree])]),([1,2,3,17,18,19,20],[1,2,3]),([1,2,3,5,17,18,19],[1,2,3,5]),([1,2,3,17,18,19],[1,2,3]),([1,2,3,17,18,19],[1,2,((.loc 3),[.any,.any,.own .tree])]),([2,3,33],[2,((.loc 3),[.any,.any,.unk .tree])]),([2,3,33,48],[2,((.loc 3),[.any,.any,.unk .tree])]),([2,3,33],[2,((.loc 3),[.any,.any,.unk .tree])]),([2,3,33,48,72],[2,3]),([2,3,33,48],[2,((.loc 3),[.any,.any,.unk .tree])]),([2],[2])]
def Z9j(t:Tree)(h:Int)(d:List Tree):LSt U:=(L2 [pL 1,pL 2,pL 3,(17,.c (sU .tree t.kids .unk)),pI 18 (t.kids.length:Int),pI 19 h] [(.loc 1,(enc .tree t)),(.loc 2,[ci 0,.nils,.nils]),(.loc 3,[ci t.kind,sU .u64 t.words .unk,sU .tree d (.own (.l 3 2))])])
def Z9i(t:Tree)(h:List Tree)(d:List Int):LSt U:=(L2 [pL 2,pL 3,pB 33 ((t.kind:Int)==1)] [(.loc 2,[ci 0,.nils,.nils]),(.loc 3,[ci t.kind,sU .u64 d .unk,sU .tree h .unk])])
def Z9h(t:Tree)(d:List Int)(h:List Tree):LSt U:=(L2 [pL 2,pL 3,pB 33 ((t.kind:Int)==1),(48,.c (.bool (bif (decide ((0:Int) < (d.length:Int))) then (((List.getD d (Int.toNat (((d.length:Int):Int) - 1)) (0:Int)):Int)==0) else false)))] [(.loc 2,[ci 0,.nils,.nils]),(.loc 3,[ci t.kind,sU .u64 d .unk,sU .tree h .unk])])
abbrev A75(N:Nat)(p:List Nat):=AW (Z1 (ZlX N)) Tryz.f75 Zyn p
abbrev S75(N:Nat)(p:List Nat):=SW (Z1 (ZlX N)) Tryz.f75 Zyn p
theorem ZH8(N:Nat)(t:Tree)(Q:QT)(h:(iB (t.kind==0) ((Q .ret (L2 [pL 2] [(.loc 2,[ci 0,.nils,.nils])]))) ((Ze1 (t.words,()))/\(Zp (A75 N [1,1,1,0,1,0,0]) (Z9j t 0 []) (xB 0 (S75 N [1,1,1,1] Q)))))):
  A75 N [] (L2 [(0,.agg (enc .tree t))] []) Q:=
 Eq.mpr V4 h
theorem Zwy(N:Nat)(t:Tree)(s:Int)(d:List Tree)(N0:NT)(Q:QT)(h:∀ ab,ab=(t.kids.getD s.toNat Tree.nil)->∀ u,u=ab->∀ aa,aa=(Z3 u)->(iB (decide (s < (t.kids.length:Int))) (((0:Int)<=s/\s < (t.kids.length:Int))/\((Z1m (u,()))/\(Zqq (u,()) < N)/\((d.length+([aa]).length)*56<=140737488355328)/\((InR (s+1))/\(N0 (Z9j t (s+1) (d++([aa]))))))) ((iB (t.kind==1) (Zp (A75 N [1,1,1,1,0,1,0,0,0,0]) (Z9i t d t.words) (xB 2 (S75 N [1,1,1,1,0,1,0,1] (S75 N [1,1,1,1,1] Q)))) ((Q .ret (L2 [pL 2] [(.loc 2,[ci t.kind,sU .u64 t.words .unk,sU .tree d .unk])]))))))):
  A75 N [1,1,1,0,1,0,0] (Z9j t s d) (xT N0 (xB 0 (S75 N [1,1,1,1] Q))):=
 Eq.mpr V4 (h _ rfl _ (Z7 _) _ (Z7 _))
theorem Zwx(N:Nat)(t:Tree)(s:List Tree)(d:List Int)(N1:NT)(Q:QT)(h:let z0:=decide ((0:Int) < (d.length:Int));(Tt z0)/\(Tt z0)/\(Tt z0)/\(Tt z0)/\(z0=true->InR (((d.length:Int):Int) - 1))/\(Tt z0)/\(Tt z0)/\(z0=true->(0:Int)<=(((d.length:Int):Int) - 1)/\(((d.length:Int):Int) - 1) < (d.length:Int))/\(Tt z0)/\(Tt z0)/\(Tt z0)/\(iB (bif z0 then (((List.getD d (Int.toNat (((d.length:Int):Int) - 1)) (0:Int)):Int)==0) else false) ((InR (((d.length:Int):Int) - 1))/\((0:Int)<=(((d.length:Int):Int) - 1)/\(((d.length:Int):Int) - 1)<=(d.length:Int))/\(N1 (Z9i t s (List.take (Int.toNat (((d.length:Int):Int) - 1)) d)))) (Zp (A75 N [1,1,1,1,0,1,0,1,0,0]) (Z9h t d s) (xB 4 (S75 N [1,1,1,1,1] Q))))):
  A75 N [1,1,1,1,0,1,0,0,0,0] (Z9i t s d) (xT N1 (xB 2 (S75 N [1,1,1,1,0,1,0,1] (S75 N [1,1,1,1,1] Q)))):=
 Eq.mpr V4 h
theorem Zww(N:Nat)(t:Tree)(s:List Int)(d:List Tree)(N2:NT)(Q:QT)(h:let z0:=decide ((0:Int) < (d.length:Int));(Tt z0)/\(Tt z0)/\(Tt z0)/\(Tt z0)/\(z0=true->InR (((d.length:Int):Int) - 1))/\(Tt z0)/\(Tt z0)/\(z0=true->(0:Int)<=(((d.length:Int):Int) - 1)/\(((d.length:Int):Int) - 1) < (d.length:Int))/\(Tt z0)/\(Tt z0)/\(Tt z0)/\(Tt z0)/\(iB (bif z0 then (((Tree.kind (List.getD d (Int.toNat (((d.length:Int):Int) - 1)) Tree.nil)):Int)==0) else false) ((InR (((d.length:Int):Int) - 1))/\((0:Int)<=(((d.length:Int):Int) - 1)/\(((d.length:Int):Int) - 1)<=(d.length:Int))/\(N2 (Z9h t s (List.take (Int.toNat (((d.length:Int):Int) - 1)) d)))) ((Q .ret (L2 [pL 2] [(.loc 2,[ci t.kind,sU .u64 s .unk,sU .tree d .unk])]))))):
  A75 N [1,1,1,1,0,1,0,1,0,0] (Z9h t s d) (xT N2 (xB 4 (S75 N [1,1,1,1,1] Q))):=
 Eq.mpr V4 h
def ZE1(N:Nat)(t:Tree):Prop:=AW (Z1 (ZlX N)) Tryz.f75 Zyn [] (Zf (Zw0.can (t,())) []) (EQ Tryz.f75 (ZfJ (t,())) [])
theorem ZBP(ZDv:CT 117 Z8r)(hb:∀ (N:Nat) (t:Tree) (_:Unit),Z1m (t,())->Zqq (t,()) < N+1->ZE1 N t):CT 75 Js:=
 J0 (μ:=Zqq) (l:=[(117,Z8r)]) Zh rfl (⟨ZDv,trivial⟩) Zyn Tryz.func75 rfl rfl 1 (fun _=> rfl) V3 (fun N ⟨t,_⟩=> hb N t ())
def Zm2(N:Nat):List (FuncId × Fs U):=(26,fs Zms (fun a=> [Z8I a,Zqr a < N]) ZfK) ::[(76,Zd0)]
def Zys:Zc U:=lvl [([2,3],[2,3]),([2,3,27],[2,3]),([4],[]),([2,3,5],[2,3]),([2,3,5,32],[2,3]),([2,3,5],[2,3]),([2,3,5,46],[2,3]),([4],[]),([4],[])]
def Z9s(a b:Tree)(d:Int):LSt U:=(L2 [pL 2,pL 3,pI 5 d] [(.loc 2,(enc .tree a)),(.loc 3,(enc .tree b))])
abbrev A26(N:Nat)(p:List Nat):=AW (Z1 (Zm2 N)) Tryz.f26 Zys p
abbrev S26(N:Nat)(p:List Nat):=SW (Z1 (Zm2 N)) Tryz.f26 Zys p
theorem ZHs(N:Nat)(a b:Tree)(Q:QT)(h:let z1:=a.kind !=b.kind;let z0:=bif z1 then true else (!(decide (a.words=b.words)));((Tt (!z1))/\(Tt (!z1))/\(Tt (!z1))/\(Tt (!z1))/\((!z1)=true->ZfQ (a.words,b.words,()))/\(Tt (!z1))/\(z1=false->(!z1)=true)/\(Tt (!z0))/\(Tt (!z0))/\(Tt (!z0))/\(Tt (!z0))/\(Tt (!z0))/\(Tt (!z0))/\(z0=false->(!z0)=true)/\(iB (bif z0 then true else (((a.kids.length:Int):Int) !=(b.kids.length:Int))) ((Q .ret (L2 [pB 4 false] []))) ((Zp (A26 N [1,1,0,1,0,0]) (Z9s a b 0) (xB 0 (S26 N [1,1,1] Q))))))):
  A26 N [] (L2 [(0,.agg (enc .tree a)),(1,.agg (enc .tree b))] []) Q:=
 Eq.mpr V4 h
theorem ZwH(N:Nat)(a b:Tree)(d:Int)(N0:NT)(Q:QT)(h:∀ ab,ab=(a.kids.getD d.toNat Tree.nil)->∀ aa,aa=(b.kids.getD d.toNat Tree.nil)->∀ u,u=ab->∀ s,s=aa->(iB (decide (d < (a.kids.length:Int))) (((0:Int)<=d/\d < (a.kids.length:Int))/\((0:Int)<=d/\d < (b.kids.length:Int))/\(Z8I (u,s,()))/\(Zqr (u,s,()) < N)/\(iB (!(ZY u s)) ((Q .ret (L2 [pB 4 false] []))) ((InR (d+1))/\(N0 (Z9s a b (d+1)))))) ((Q .ret (L2 [pB 4 true] []))))):
  A26 N [1,1,0,1,0,0] (Z9s a b d) (xT N0 (xB 0 (S26 N [1,1,1] Q))):=
 Eq.mpr V4 (h _ rfl _ rfl _ (Z7 _) _ (Z7 _))
def ZEl(N:Nat)(a b:Tree):Prop:=AW (Z1 (Zm2 N)) Tryz.f26 Zys [] (Zf (Zms.can (a,b,())) []) (EQ Tryz.f26 (ZfK (a,b,())) [])
theorem ZC5(c76:CT 76 Zd0)(hb:∀ (N:Nat) (a:Tree) (b:Tree) (_:Unit),Z8I (a,b,())->Zqr (a,b,()) < N+1->ZEl N a b):CT 26 Z4M:=
 J0 (μ:=Zqr) (l:=[(76,Zd0)]) Zh rfl (⟨c76,trivial⟩) Zys Tryz.func26 rfl rfl 2 (fun _=> rfl) V3 (fun N ⟨a,b,_⟩=> hb N a b ())
def Zi7(N:Nat):List (FuncId × Fs U):=(114,fs Zms (fun a=> [Z2o a,Zg2 a < N]) Z7o) ::[(172,Zd0),(173,Z1L),(174,Z1K)]
def ZnS:Zc U:=lvl [([2,3],[2,3]),([2,3,16],[2,3]),([4],[]),([2,3,41],[2,3]),([4],[]),([2,3,48,49],[2,3]),([2,3,48,49,50],[2,3]),([2,3,5,48,49],[2,3]),([2,3,48,49,58],[2,3]),([4],[]),([2,3,48,49],[2,3]),([2,3,66,67],[2,3]),([2,3,66,67,68],[2,3]),([2,3,6,66,67],[2,3]),([2,3,66,67,77],[2,3]),([4],[]),([2,3,66,67],[2,3]),([4],[])]
def Z6w(a b:Tree)(d:Int):LSt U:=(L2 [pL 2,pL 3,pI 48 (if ((a.words.length:Int):Int) < (b.words.length:Int) then (b.words.length:Int) else (a.words.length:Int)),pI 49 d] [(.loc 2,(enc .tree a)),(.loc 3,(enc .tree b))])
def Z6v(a b:Tree)(d:Int):LSt U:=(L2 [pL 2,pL 3,pI 66 (if ((a.kids.length:Int):Int) < (b.kids.length:Int) then (b.kids.length:Int) else (a.kids.length:Int)),pI 67 d] [(.loc 2,(enc .tree a)),(.loc 3,(enc .tree b))])
abbrev Zwk(N:Nat)(p:List Nat):=AW (Z1 (Zi7 N)) Tryz.f114 ZnS p
abbrev Zz1(N:Nat)(p:List Nat):=SW (Z1 (Zi7 N)) Tryz.f114 ZnS p
theorem ZFH(N:Nat)(a b:Tree)(Q:QT)(h:let z2:=a.kind !=b.kind;let z1:=((a.kids.length:Int):Int) !=(b.kids.length:Int);let z0:=(a.kind !=1) && (!z1);((Tt (!z2))/\(Tt (!z2))/\(z2=false->(!z2)=true)/\(iB (bif z2 then true else (a.kind==0)) ((Q .ret (L2 [pB 4 (a.kind==b.kind)] []))) ((Tt (a.kind !=1))/\(Tt (a.kind !=1))/\(Tt (a.kind !=1))/\(Tt (a.kind !=1))/\(Tt (a.kind !=1))/\(Tt (a.kind !=1))/\(Tt (a.kind !=1))/\(Tt z0)/\(Tt z0)/\(Tt z0)/\(Tt z0)/\(z0=true->ZfQ (a.words,b.words,()))/\(Tt z0)/\((a.kind !=1)=true->(True->(a.kind !=1)=true))/\((a.kind !=1)=true->(z1=false->z0=true))/\(Tt (a.kind !=1))/\(iB (bif (a.kind !=1) then (bif z1 then true else (!(decide (a.words=b.words)))) else false) ((Q .ret (L2 [pB 4 false] []))) ((Zp (Zwk N [1,1,1,0,1,0,0]) (Z6w a b 0) (xB 0 (Zz1 N [1,1,1,1] Q))))))))):
  Zwk N [] (L2 [(0,.agg (enc .tree a)),(1,.agg (enc .tree b))] []) Q:=
 Eq.mpr V4 h
theorem ZrR(N:Nat)(a b:Tree)(d:Int)(N0:NT)(Q:QT)(h:let z1:=Tree.mk b.kind b.words b.kids;let z0:=Tree.mk a.kind a.words a.kids;(iB (decide (d < (if ((a.words.length:Int):Int) < (b.words.length:Int) then (b.words.length:Int) else (a.words.length:Int)))) (((Za0 (z0,d,()))/\(Za0 (z1,d,()))/\(iB (((Jy z0 d):Int) !=(Jy z1 d)) ((Q .ret (L2 [pB 4 false] []))) ((InR (d+1))/\(N0 (Z6w a b (d+1))))))) ((Zp (Zwk N [1,1,1,1,0,1,0,0]) (Z6v a b 0) (xB 2 (Zz1 N [1,1,1,1,1] Q)))))):
  Zwk N [1,1,1,0,1,0,0] (Z6w a b d) (xT N0 (xB 0 (Zz1 N [1,1,1,1] Q))):=
 Eq.mpr V4 h
theorem ZrQ(N:Nat)(a b:Tree)(d:Int)(N1:NT)(Q:QT)(h:∀ ab,ab=a->∀ aa,aa=b->∀ u,u=(JK ab d)->∀ s,s=(JK aa d)->(iB (decide (d < (if ((a.kids.length:Int):Int) < (b.kids.length:Int) then (b.kids.length:Int) else (a.kids.length:Int)))) (((Za0 (ab,d,()))/\(Za0 (aa,d,()))/\(Z2o (u,s,()))/\(Zg2 (u,s,()) < N)/\(iB (!(ZY (Z3 u) (Z3 s))) ((Q .ret (L2 [pB 4 false] []))) ((InR (d+1))/\(N1 (Z6v a b (d+1))))))) ((Q .ret (L2 [pB 4 true] []))))):
  Zwk N [1,1,1,1,0,1,0,0] (Z6v a b d) (xT N1 (xB 2 (Zz1 N [1,1,1,1,1] Q))):=
 Eq.mpr V4 (h _ (Z7 _) _ (Z7 _) _ (Z7 _) _ (Z7 _))
def ZA6(N:Nat)(a b:Tree):Prop:=AW (Z1 (Zi7 N)) Tryz.f114 ZnS [] (Zf (Zms.can (a,b,())) []) (EQ Tryz.f114 (Z7o (a,b,())) [])
theorem Zyd(ZDd:CT 172 Zd0)(Zr1:CT 173 Z1L)(Zr0:CT 174 Z1K)(hb:∀ (N:Nat) (a:Tree) (b:Tree) (_:Unit),Z2o (a,b,())->Zg2 (a,b,()) < N+1->ZA6 N a b):CT 114 Ju:=
 J0 (μ:=Zg2) (l:=[(172,Zd0),(173,Z1L),(174,Z1K)]) Zh rfl (⟨ZDd,Zr1,Zr0,trivial⟩) ZnS Tryz.func114 rfl rfl 2 (fun _=> rfl) V3 (fun N ⟨a,b,_⟩=> hb N a b ())
end
theorem vcU:(∀ {p q:Prop},(p->q->p/\q)=True)/\(∀ {p:Prop},(True/\p)=p)/\(∀ {p:Prop},(p/\True)=p)/\(∀ {p:Prop},(p->True)=True):=
 ⟨by grind,by simp,by simp,by simp⟩
theorem Zdg:∀ {ks:List Tree} {i:Nat},Z2Y ks->i < ks.length->Z2J (ks.getD i Tree.nil)
 | t ::_,0,h,_=> by simp only [Z2Y] at h;exact h.1
 | _ ::r,i+1,h,hi=> by simp only [Z2Y] at h;exact Zdg (ks:=r) (i:=i) h.2 (by simpa using hi)
theorem Z0o:∀ {ks:List Tree} {i:Nat},i < ks.length->Zj (ks.getD i Tree.nil)<=Zd ks
 | t ::_,0,_=> by simp only [Zd,Qk];omega
 | t ::r,i+1,h=> by
  have:=Z0o (ks:=r) (i:=i) (by simpa using h)
  simp only [Zd,List.getD_cons_succ]
  omega
mutual
theorem YH:∀ (t:Tree) (d l:Int),-1<=ZD t d l/\ZD t d l<=max l (-1)
 | .mk _ w ks,d,l=> by
  simp only [ZD]
  split
  .omega
  .have:=Z0w ks (d - 1) (l - 1 - w.length) V0
   omega
theorem Z0w:∀ (ks:List Tree) (d l:Int),-1<=l->-1<=Zu ks d l/\Zu ks d l<=l
 | [],d,l,h=> by simp only [Zu];omega
 | t ::r,d,l,h=> by
  simp only [Zu]
  split
  .omega
  .have s:=YH t d l
   have u:=Z0w r d (ZD t d l) s.1
   omega
end
theorem Zfd{ks:List Tree}{i:Nat}{d l:Int}(h:i < ks.length)(hl:0<=l):Zu (ks.drop i) d l=Zu (ks.drop (i+1)) d (ZD (ks.getD i Tree.nil) d l):=by
 rw [QI h]
 simp only [Zu]
 grind
theorem c80:Contract Tryz.prog cfg 80 Z4I:=by
 refine ZBN ?_
 rintro N ⟨k,h,ks⟩ d l _ ⟨hs,h1,h2,h3,h4⟩ hN
 simp only [Z2J,Zqp,Zj] at*
 refine ZH5 N _ _ _ _ ?_;(try simp only [iB,vcT,forall_eq])
 (simp only [iB,vcS]);(try simp only [iB,vcT])
 try (simp only [vE])
 refine ⟨V2,V2,fun hc=> ?_,fun hc=> ?_⟩
 .have e:ZD (.mk k h ks) d l= -1:=by
   simp only [ZD]
   omega
  simp only [Zjf,e]
  exact ⟨⟨rfl,⟨⟨rfl,rfl⟩,trivial⟩,trivial⟩,trivial⟩
 .have e:ZD (.mk k h ks) d l=Zu ks (d - 1) (l - 1 - h.length):=by
   simp only [ZD]
   omega
  simp only [Zjf,e]
  refine Ze (ι:=Int × Int) (fun p=> Z9f (.mk k h ks) d l p.1 p.2) (fun p=> 0<=p.2/\p.2<=ks.length/\-1<=p.1/\p.1<=l/\Zu (ks.drop p.2.toNat) (d - 1) p.1=Zu ks (d - 1) (l - 1 - h.length)) (fun p=> ((ks.length:Int) - p.2).toNat) (l - 1 - h.length,0) rfl ⟨V0,V0,V0,V0,by simp⟩ ?_
  rintro ⟨l',i⟩ ⟨h5,h6,h7,h8,u⟩
  dsimp only at*
  refine Zwu N _ _ _ _ _ _ _ ?_;(try simp only [iB,vcT,forall_eq])
  (simp only [iB,vcS]);(try simp only [iB,vcT])
  try (simp only [vE])
  refine ⟨fun hc=> ?_,fun hc=> ?_⟩
  .have s:i.toNat < ks.length:=V0
   have hr:=YH (ks.getD i.toNat Tree.nil) (d - 1) l'
   have hn:=Z0o s
   have hd:=Zfd (d:=d - 1) s hc.2
   refine ⟨V0,V2,⟨Zdg hs.2.2 s,by grind,by grind,V0,by grind⟩,by simp only [Zqp];omega,V2,⟨(ZD (ks.getD i.toNat Tree.nil) (d - 1) l',i+1),rfl,⟨V0,V0,V0,V0,?_⟩,V0⟩⟩
   grind
  .have e:Zu ks (d - 1) (l - 1 - h.length)=l':=by
    rw [<-u]
    by_cases s:i < ks.length
    .rw [QI V0]
     simp only [Zu]
     omega
    .rw [QA V0]
     try rfl
   rw [e]
   trivial
theorem c30:Contract Tryz.prog cfg 30 Zdb:=by
 refine ZC3 c80 ?_
 intro t _ d
 refine ZHq _ _ ?_;(try simp only [iB,vcT,forall_eq])
 try (simp only [vE])
 refine ⟨⟨d,by grind,by grind,by grind,by grind⟩,?_⟩
 trivial
theorem ZDv:Contract Tryz.prog cfg 117 Z8r:=by
 refine Zyc ?_
 intro l _ d
 refine ZFE _ _ ?_;(try simp only [iB,vcT,forall_eq])
 simp only [Ze1] at d
 refine ⟨fun h=> ?_,⟨by simp only [Qh];omega,?_⟩⟩
 .subst h
  exact ⟨⟨rfl,⟨rfl,trivial⟩,trivial⟩,trivial⟩
 .exact ⟨⟨rfl,⟨⟨rfl,trivial⟩,trivial⟩,trivial⟩,trivial⟩
theorem Zcq{a b:List Int}{i:Int}(hi:0<=i)(ha:i < a.length)(hb:i < b.length):(a.drop i.toNat=b.drop i.toNat)↔(a.getD i.toNat 0=b.getD i.toNat 0/\a.drop (i+1).toNat=b.drop (i+1).toNat):=by
 have e:(i+1).toNat=i.toNat+1:=V0
 rw [QI V0,QI (l:=b) V0,e]
 simp only [List.cons.injEq,List.getD,Q0 (show i.toNat < a.length by omega),Q0 (show i.toNat < b.length by omega),XH]
theorem c76:Contract Tryz.prog cfg 76 Zd0:=by
 refine ZBO ?_
 intro a b _ hp
 simp only [ZfQ] at hp
 refine ZH7 _ _ _ ?_;(try simp only [iB,vcT,forall_eq])
 (simp only [iB,vcS]);(try simp only [iB,vcT])
 refine ⟨fun hc=> ?_,fun hc=> ?_⟩
 .have e:decide (a=b)=false:=by
   simp only [decide_eq_false_iff_not]
   rintro rfl
   omega
  simp only [Zjg,e]
  exact ⟨⟨rfl,⟨rfl,trivial⟩,trivial⟩,trivial⟩
 .have hl:a.length=b.length:=V0
  refine Ze (ι:=Int) (fun p=> Z9g a b p) (fun p=> 0<=p/\p<=a.length/\(a=b↔a.drop p.toNat=b.drop p.toNat)) (fun p=> ((a.length:Int) - p).toNat) 0 rfl ⟨V0,V0,by simp⟩ ?_
  rintro i ⟨s,h2,d⟩
  refine Zwv _ _ _ _ _ ?_;(try simp only [iB,vcT,forall_eq])
  (simp only [iB,vcS]);(try simp only [iB,vcT])
  refine ⟨fun hc=> ⟨V0,V0,fun u=> ?_,fun he=> ⟨V2,i+1,rfl,⟨V0,V0,?_⟩,V0⟩⟩,fun hc=> ?_⟩
  .have e:decide (a=b)=false:=by
    simp only [decide_eq_false_iff_not,d]
    rw [Zcq s hc V0]
    exact fun h=> u h.1
   simp only [Zjg,e]
   exact ⟨⟨rfl,⟨rfl,trivial⟩,trivial⟩,trivial⟩
  .rw [d,Zcq s hc V0]
   exact ⟨fun h=> h.2,fun h=> ⟨by simpa using he,h⟩⟩
  .have e:decide (a=b)=true:=by
    simp only [decide_eq_true_eq,d]
    rw [QA V0,QA V0]
   simp only [Zjg,e]
   exact ⟨⟨rfl,⟨rfl,trivial⟩,trivial⟩,trivial⟩
theorem Zr1:Contract Tryz.prog cfg 173 Z1L:=by
 refine ZxQ ?_
 intro t i _ d
 refine ZFf _ _ _ ?_;(try simp only [iB,vcT,forall_eq])
 (simp only [iB,vcS]);(try simp only [iB,vcT])
 (repeat (refine And.intro (by first | omega | (unfold InR;omega) | (dsimp only;omega)) ?_))
 refine ⟨fun hc=> ?_,fun hc=> ⟨V0,?_⟩⟩
 .have e:Jy t i=0:=by
   unfold Jy
   split
   .try rfl
   .grind
  simp only [Zhd,e]
  exact ⟨⟨rfl,⟨⟨rfl,rfl⟩,trivial⟩,trivial⟩,trivial⟩
 .have e:Jy t i=t.words.getD i.toNat 0:=by
   unfold Jy
   omega
  simp only [Zhd,e]
  exact ⟨⟨rfl,⟨⟨rfl,rfl⟩,trivial⟩,trivial⟩,trivial⟩
theorem Zr0:Contract Tryz.prog cfg 174 Z1K:=by
 refine ZxP ?_
 intro t i _ d
 refine ZFe _ _ _ ?_;(try simp only [iB,vcT,forall_eq])
 (simp only [iB,vcS]);(try simp only [iB,vcT])
 (repeat (refine And.intro (by first | omega | (unfold InR;omega) | (dsimp only;omega)) ?_))
 refine ⟨fun hc=> ?_,fun hc=> ⟨V0,?_⟩⟩
 .have e:JK t i=Tree.nil:=by
   unfold JK
   split
   .try rfl
   .grind
  simp only [Zhc,e]
  exact ⟨⟨rfl,⟨⟨rfl,rfl⟩,⟨rfl,⟨rfl,trivial⟩⟩⟩,trivial⟩,trivial⟩
 .have e:JK t i=t.kids.getD i.toNat Tree.nil:=by
   unfold JK
   grind
  simp only [Zhc,e]
  exact ⟨⟨rfl,⟨⟨rfl,rfl⟩,⟨rfl,trivial⟩,⟨rfl,trivial⟩,trivial⟩,trivial⟩,trivial⟩
theorem ZDd:Contract Tryz.prog cfg 172 Zd0:=by
 refine ZxR ?_
 intro a b _ hp
 simp only [ZfQ] at hp
 refine ZFg _ _ _ ?_;(try simp only [iB,vcT,forall_eq])
 (simp only [iB,vcS]);(try simp only [iB,vcT])
 refine ⟨fun hc=> ?_,fun hc=> ?_⟩
 .have e:decide (a=b)=false:=by
   simp only [decide_eq_false_iff_not]
   rintro rfl
   omega
  simp only [Zjg,e]
  exact ⟨⟨rfl,⟨rfl,trivial⟩,trivial⟩,trivial⟩
 .have hl:a.length=b.length:=V0
  refine Ze (ι:=Int) (fun p=> Z6l a b p) (fun p=> 0<=p/\p<=a.length/\(a=b↔a.drop p.toNat=b.drop p.toNat)) (fun p=> ((a.length:Int) - p).toNat) 0 rfl ⟨V0,V0,by simp⟩ ?_
  rintro i ⟨s,h2,d⟩
  refine ZrA _ _ _ _ _ ?_;(try simp only [iB,vcT,forall_eq])
  (simp only [iB,vcS]);(try simp only [iB,vcT])
  refine ⟨fun hc=> ⟨V0,V0,fun u=> ?_,fun he=> ⟨V2,i+1,rfl,⟨V0,V0,?_⟩,V0⟩⟩,fun hc=> ?_⟩
  .have e:decide (a=b)=false:=by
    simp only [decide_eq_false_iff_not,d]
    rw [Zcq s hc V0]
    exact fun h=> u h.1
   simp only [Zjg,e]
   exact ⟨⟨rfl,⟨rfl,trivial⟩,trivial⟩,trivial⟩
  .rw [d,Zcq s hc V0]
   exact ⟨fun h=> h.2,fun h=> ⟨by simpa using he,h⟩⟩
  .have e:decide (a=b)=true:=by
    simp only [decide_eq_true_eq,d]
    rw [QA V0,QA V0]
   simp only [Zjg,e]
   exact ⟨⟨rfl,⟨rfl,trivial⟩,trivial⟩,trivial⟩
theorem Zkm{a b:List Tree}{i:Int}(hi:0<=i)(ha:i < a.length)(hb:i < b.length):(a.drop i.toNat=b.drop i.toNat)↔(a.getD i.toNat Tree.nil=b.getD i.toNat Tree.nil/\a.drop (i+1).toNat=b.drop (i+1).toNat):=by
 have e:(i+1).toNat=i.toNat+1:=V0
 rw [QI V0,QI (l:=b) V0,e]
 simp only [List.cons.injEq,List.getD,Q0 (show i.toNat < a.length by omega),Q0 (show i.toNat < b.length by omega),XH]
theorem Z0Y{a b:Tree}:ZY a b=true↔a=b:=by simp [ZY]
theorem JC{a b:Tree}:ZY a b=false↔¬a=b:=by simp [ZY]
theorem Zs:∀ (ks:List Tree),ks.length<=Zd ks
 | []=> by simp [Zd]
 | t ::r=> by
  have:=Zs r
  have:1<=Zj t:=by cases t;simp only [Zj];omega
  simp only [Zd,Qs]
  omega
theorem c26:Contract Tryz.prog cfg 26 Z4M:=by
 refine ZC5 c76 ?_
 rintro N ⟨k,s,ks⟩ ⟨k',u,d⟩ _ hp hN
 have af:=Zs ks
 simp only [Z8I,Zqr,Zj] at hp hN
 refine ZHs N _ _ _ ?_;(try simp only [iB,vcT,forall_eq])
 (simp only [iB,vcS]);(try simp only [iB,vcT])
 try (simp only [vE])
 have aa:ZfQ (s,u,()):=by simp only [ZfQ];omega
 refine ⟨fun _=> aa,fun hc=> ?_,fun hc=> ?_⟩
 .have e:ZY (.mk k s ks) (.mk k' u d)=false:=by
   rw [JC]
   intro h
   cases h
   simp at hc
  simp only [ZfK,e]
  exact ⟨⟨rfl,⟨rfl,trivial⟩,trivial⟩,trivial⟩
 .have ae:(k=k'/\s=u)/\ks.length=d.length:=⟨hc.1,V0⟩
  obtain ⟨⟨rfl,rfl⟩,hl⟩:=ae
  refine Ze (ι:=Int) (fun p=> Z9s (.mk k s ks) (.mk k s d) p) (fun p=> 0<=p/\p<=ks.length/\(Tree.mk k s ks= .mk k s d↔ks.drop p.toNat=d.drop p.toNat)) (fun p=> ((ks.length:Int) - p).toNat) 0 rfl ⟨V0,V0,by simp⟩ ?_
  rintro i ⟨h1,h2,h3⟩
  refine ZwH N _ _ _ _ _ ?_;(try simp only [iB,vcT,forall_eq])
  (simp only [iB,vcS]);(try simp only [iB,vcT])
  try (simp only [vE])
  refine ⟨fun hc=> ⟨V0,V0,?_,?_,fun hn=> ?_,fun he=> ⟨V2,i+1,rfl,⟨V0,V0,?_⟩,V0⟩⟩,fun hc=> ?_⟩
  .have:=Z0o (ks:=ks) (i:=i.toNat) V0
   simp only [Z8I]
   omega
  .have:=Z0o (ks:=ks) (i:=i.toNat) V0
   simp only [Zqr]
   omega
  .have e:ZY (.mk k s ks) (.mk k s d)=false:=by
    rw [JC,h3,Zkm h1 hc V0]
    rw [JC] at hn
    exact fun h=> hn h.1
   simp only [ZfK,e]
   exact ⟨⟨rfl,⟨rfl,trivial⟩,trivial⟩,trivial⟩
  .rw [h3,Zkm h1 hc V0]
   exact ⟨fun h=> h.2,fun h=> ⟨Z0Y.1 he,h⟩⟩
  .have e:ZY (.mk k s ks) (.mk k s d)=true:=by
    rw [Z0Y,h3]
    rw [QA V0,QA V0]
   simp only [ZfK,e]
   exact ⟨⟨rfl,⟨rfl,trivial⟩,trivial⟩,trivial⟩
theorem Zfu:∀ (l:List Int),trim (l++[0])=trim l
 | []=> rfl
 | x ::r=> by
  show (match trim (r++[0]) with | []=> if x=0 then [] else [x] | y ::s=> x ::y ::s)=_
  rw [Zfu r]
  try rfl
theorem ZmC{x:Int}(hx:x≠0):∀ (l:List Int),trim (l++[x])=l++[x]
 | []=> by simp [trim,hx]
 | y ::r=> by
  show (match trim (r++[x]) with | []=> if y=0 then [] else [y] | z ::s=> y ::z ::s)=_
  rw [ZmC hx r]
  cases r <;> rfl
theorem ZpT{l:List Int}{i:Int}(h0:0 < i)(hi:i<=l.length):l.take i.toNat=l.take (i - 1).toNat++[l.getD (i - 1).toNat 0]:=by
 have e:i.toNat=(i - 1).toNat+1:=V0
 rw [e,XT]
 simp only [List.getD,Q0 (show (i - 1).toNat < l.length by omega),Option.toList,XH]
theorem ZiP:∀ (l:List Int),(trim l).length<=l.length
 | []=> by simp [trim]
 | x ::r=> by
  have:=ZiP r
  simp only [trim]
  grind
theorem ZcI:∀ (l:List Tree),Zd (Y3 l)<=Zd l
 | []=> by simp [Y3]
 | x ::r=> by
  have:=ZcI r
  simp only [Y3]
  split
  .split
   .simp [Zd]
   .simp [Zd]
  .rename_i h
   rw [h] at this
   simp only [Zd] at*
   omega
mutual
theorem Yx:∀ (t:Tree),Zj (Z3 t)<=Zj t
 | .mk k w ks=> by
  have s:=Zej ks
  have d:=ZiP w
  have h:=ZcI (Yd ks)
  simp only [Z3]
  split
  .simp only [Tree.nil,Zj,Zd,Qh];omega
  .split
   .simp only [Zj];omega
   .simp only [Zj];omega
theorem Zej:∀ (ks:List Tree),Zd (Yd ks)<=Zd ks
 | []=> by simp [Yd]
 | t ::r=> by
  have h:=Yx t
  have d:=Zej r
  simp only [Yd,Zd]
  omega
end
theorem Zg0:∀ (l:List Tree) (x:Tree),Yd (l++[x])=Yd l++[Z3 x]
 | [],x=> rfl
 | y ::r,x=> by simp only [Qw,Yd,Zg0 r x]
theorem Z26:∀ (l:List Tree),(Yd l).length=l.length
 | []=> rfl
 | y ::r=> by simp only [Yd,Qs,Z26 r]
theorem ZcH{x:Tree}(hx:x.kind=0):∀ (l:List Tree),Y3 (l++[x])=Y3 l
 | []=> by simp [Y3,hx]
 | y ::r=> by
  show (match Y3 (r++[x]) with | []=> if y.kind=0 then [] else [y] | z ::s=> y ::z ::s)=_
  rw [ZcH hx r]
  try rfl
theorem ZiQ{x:Tree}(hx:x.kind≠0):∀ (l:List Tree),Y3 (l++[x])=l++[x]
 | []=> by simp [Y3,hx]
 | y ::r=> by
  show (match Y3 (r++[x]) with | []=> if y.kind=0 then [] else [y] | z ::s=> y ::z ::s)=_
  rw [ZiQ hx r]
  cases r <;> rfl
theorem ZcR{l:List Tree}{i:Int}(h0:0<=i)(hi:i < l.length):l.take (i+1).toNat=l.take i.toNat++[l.getD i.toNat Tree.nil]:=by
 have e:(i+1).toNat=i.toNat+1:=V0
 simp_all
theorem ZnZ{l:List Int}(h0:0 < (l.length:Int)):l=l.take ((l.length:Int) - 1).toNat++[l.getD ((l.length:Int) - 1).toNat 0]:=by
 have:=ZpT h0 (X7 _)
 rw [QU V0] at this
 exact this
theorem Zk2{l:List Tree}(h0:0 < (l.length:Int)):l=l.take ((l.length:Int) - 1).toNat++[l.getD ((l.length:Int) - 1).toNat Tree.nil]:=by
 have:=ZcR (l:=l) (i:=(l.length:Int) - 1) V0 V0
 rw [QU V0] at this
 exact this
theorem ZpP{l:List Int}(h0:0 < (l.length:Int))(hz:l.getD ((l.length:Int) - 1).toNat 0=0):trim (l.take ((l.length:Int) - 1).toNat)=trim l:=by
 have e:=Zfu (l.take ((l.length:Int) - 1).toNat)
 have h:=ZnZ h0
 grind
theorem ZpR{l:List Int}(h:¬0 < (l.length:Int)\/¬l.getD ((l.length:Int) - 1).toNat 0=0):trim l=l:=by
 by_cases h0:0 < (l.length:Int)
 .have e:=ZmC (x:=l.getD ((l.length:Int) - 1).toNat 0) V0 (l.take ((l.length:Int) - 1).toNat)
  rw [<-ZnZ h0] at e
  exact e
 .have:l=[]:=Q6 V0
  subst this
  try rfl
theorem ZkP{l:List Tree}(h0:0 < (l.length:Int))(hz:(l.getD ((l.length:Int) - 1).toNat Tree.nil).kind=0):Y3 (l.take ((l.length:Int) - 1).toNat)=Y3 l:=by
 have e:=ZcH hz (l.take ((l.length:Int) - 1).toNat)
 rw [<-Zk2 h0] at e
 exact e.symm
theorem ZkR{l:List Tree}(h:¬0 < (l.length:Int)\/¬(l.getD ((l.length:Int) - 1).toNat Tree.nil).kind=0):Y3 l=l:=by
 by_cases h0:0 < (l.length:Int)
 .have e:=ZiQ (x:=l.getD ((l.length:Int) - 1).toNat Tree.nil) V0 (l.take ((l.length:Int) - 1).toNat)
  rw [<-Zk2 h0] at e
  exact e
 .have:l=[]:=Q6 V0
  subst this
  try rfl
theorem c75:Contract Tryz.prog cfg 75 Js:=by
 refine ZBP ZDv ?_
 rintro N ⟨k,ws,ks⟩ _ hp hN
 have af:=Zs ks
 simp only [Z1m,Zqq,Zj] at hp hN
 refine ZH8 N _ _ ?_;(try simp only [iB,vcT,forall_eq])
 (simp only [iB,vcS]);(try simp only [iB,vcT])
 try (simp only [vE])
 refine ⟨fun hc=> ?_,fun aa=> ⟨by simp only [Ze1];omega,?_⟩⟩
 .have e:Z3 (.mk k ws ks)=Tree.nil:=by simp [Z3,hc]
  simp only [ZfJ,e]
  exact ⟨⟨rfl,⟨⟨rfl,rfl⟩,⟨rfl,⟨rfl,trivial⟩⟩⟩,trivial⟩,trivial⟩
 .refine Ze (ι:=Int × List Tree) (fun p=> Z9j (.mk k ws ks) p.1 p.2) (fun p=> 0<=p.1/\p.1<=ks.length/\p.2=Yd (ks.take p.1.toNat)) (fun p=> ((ks.length:Int) - p.1).toNat) (0,[]) rfl ⟨V0,V0,rfl⟩ ?_
  rintro ⟨i,l⟩ ⟨h1,h2,d⟩
  dsimp only at*
  have hl:l.length=i.toNat:=by rw [d,Z26,Qr];omega
  refine Zwy N _ _ _ _ _ ?_;(try simp only [iB,vcT,forall_eq])
  (simp only [iB,vcS]);(try simp only [iB,vcT])
  try (simp only [vE])
  refine ⟨fun hc=> ?_,fun hc=> ⟨fun s=> ?_,fun s=> ?_⟩⟩
  .have hm:=Z0o (ks:=ks) (i:=i.toNat) V0
   have ab:Yd (ks.take (i+1).toNat)=l++[Z3 (ks.getD i.toNat Tree.nil)]:=by rw [ZcR h1 hc,Zg0,d]
   exact ⟨V0,by simp only [Z1m];omega,by simp only [Zqq];omega,by simp only [Qs,Qh];omega,V2,(i+1,_),rfl,⟨V0,V0,ab.symm⟩,V0⟩
  .have u:ks.take i.toNat=ks:=QU V0
   rw [u] at d
   refine Ze (ι:=List Int) (fun p=> Z9i (.mk k ws ks) l p) (fun p=> p.length<=ws.length/\trim p=trim ws) (fun p=> p.length) ws rfl ⟨V0,rfl⟩ ?_
   rintro w ⟨h6,h7⟩
   refine Zwx N _ _ _ _ _ ?_;(try simp only [iB,vcT,forall_eq])
   (simp only [iB,vcS]);(try simp only [iB,vcT])
   refine ⟨fun h=> by unfold InR;omega,fun h=> by omega,fun hc=> ⟨V2,V0,_,rfl,⟨by rw [List.length_take];omega,?_⟩,by rw [List.length_take];omega⟩,fun hc=> ?_⟩
   .rw [ZpP hc.1 hc.2,h7]
   .have hw:w=trim ws:=by rw [<-h7,ZpR hc]
    refine Ze (ι:=List Tree) (fun p=> Z9h (.mk k ws ks) w p) (fun p=> p.length<=l.length/\Y3 p=Y3 l) (fun p=> p.length) l rfl ⟨V0,rfl⟩ ?_
    rintro q ⟨h8,h9⟩
    refine Zww N _ _ _ _ _ ?_;(try simp only [iB,vcT,forall_eq])
    (simp only [iB,vcS]);(try simp only [iB,vcT])
    refine ⟨fun h=> by unfold InR;omega,fun h=> by omega,fun hc=> ⟨V2,V0,_,rfl,⟨by rw [List.length_take];omega,?_⟩,by rw [List.length_take];omega⟩,fun hc=> ?_⟩
    .rw [ZkP hc.1 hc.2,h9]
    .have hq:q=Y3 (Yd ks):=by rw [<-d,<-h9,ZkR hc]
     have e:Z3 (.mk k ws ks)= .mk k w q:=by
      subst s
      simp only [Z3,hw,hq]
      try rfl
     simp only [ZfJ,e]
     trivial
  .have u:ks.take i.toNat=ks:=QU V0
   rw [u] at d
   have e:Z3 (.mk k ws ks)= .mk k ws l:=by simp only [Z3,if_neg aa,if_neg s,d]
   simp only [ZfJ,e]
   trivial
noncomputable section
def Zpu:ArgL (Int × Unit):=(.cons (Yr .i64) .nil)
def Zlr(a:Int × Unit):Prop:=True
def ZsS(a:Int × Unit):V U:= .c (ci (wd a.1))
def Z8q:Fs U:=fs Zpu (fun a=> [Zlr a]) ZsS
def ZvQ:ArgL (Int × Int × Unit):=(.cons (Yr .i64) (.cons (Yr .u64) .nil))
def Znl(a:Int × Int × Unit):Prop:=0<=a.2.1/\a.2.1 < 18446744073709551616
def ZAn(a:Int × Int × Unit):V U:= .c (.bool (Zie a.1 a.2.1))
def ZcY:Fs U:=fs ZvQ (fun a=> [Znl a]) ZAn
def Zl5(a:Int × Unit):V U:= .tup [(false,[ci (if wd a.1 < 0 then 0 else wd a.1)]),(false,[.bool (decide (0<=wd a.1))])]
def Z82:Fs U:=fs Zpu (fun a=> [Zlr a]) Zl5
def ZsT(a:Int × Unit):V U:= .c (.bool (decide (2<=a.1/\a.1<=9)))
def Z1c:Fs U:=fs Zpu (fun a=> [Zlr a]) ZsT
def ZsA(a:Int × Unit):V U:= .c (.bool (decide (2<=a.1/\a.1<=7)))
def Z2G:Fs U:=fs Zpu (fun a=> [Zlr a]) ZsA
def Zpe:ArgL (Int × Tree × Unit):=(.cons (Yr .i64) (.cons (aEl .tree) .nil))
def ZhD(a:Int × Tree × Unit):Prop:=rng a.2.1
def ZsH(a:Int × Tree × Unit):V U:= .c (.bool (Z1x a.1 a.2.1))
def Z8l:Fs U:=fs Zpe (fun a=> [ZhD a]) ZsH
def Z54(a:Tree × Int × Unit):Prop:=Zj a.1<=20000000000/\rng a.1/\0<=a.2.1/\a.2.1<=1000
def Zb8(a:Tree × Int × Unit):Nat:=Zj a.1
def Zhg(a:Tree × Int × Unit):V U:= .c (.bool (Zb a.1 a.2.1))
def Z8p:Fs U:=fs Zpk (fun a=> [Z54 a]) Zhg
def ZfP(a:Tree × Unit):Prop:=Zj a.1<=20000000000/\rng a.1
def ZAm(a:Tree × Unit):V U:= .c (.bool (Zb a.1 64))
def Z0s:Fs U:=fs Zw0 (fun a=> [ZfP a]) ZAm
def Zut:Zc U:=lvl [([0],[]),([3],[]),([3,4],[]),([2],[]),([3,6],[]),([2],[]),([3,8],[]),([2],[]),([3,10],[]),([2],[]),([3,12],[]),([2],[]),([14],[]),([2],[]),([2],[])]
abbrev ZIt(p:List Nat):=AW (Z1 ZlW) Tryz.f129 Zut p
theorem ZFx(c:Int)(Q:QT)(h:(iB (c==0) ((Q .ret (L2 [pI 2 0] []))) ((iB (c==1) ((Q .ret (L2 [pI 2 1] []))) ((iB (c==2) ((Q .ret (L2 [pI 2 8] []))) ((iB (c==3) ((Q .ret (L2 [pI 2 16] []))) ((iB (c==4) ((Q .ret (L2 [pI 2 32] []))) ((iB (c==5) ((Q .ret (L2 [pI 2 64] []))) ((Q .ret (L2 [pI 2 (-1)] []))))))))))))))):
  ZIt [] (L2 [pI 0 c] []) Q:=
 Eq.mpr V4 h
def ZzW(c:Int):Prop:=AW (Z1 ZlW) Tryz.f129 Zut [] (Zf (Zpu.can (c,())) []) (EQ Tryz.f129 (ZsS (c,())) [])
theorem Zy7(hb:∀ (c:Int) (_:Unit),Zlr (c,())->ZzW c):CT 129 Z8q:=
 Z0 (l:=[]) Zh rfl trivial Zut Tryz.func129 rfl rfl 1 (fun _=> rfl) V3 (fun ⟨c,_⟩=> hb c ())
def ZlU:List (FuncId × Fs U):=[(129,Z8q)]
def Zyk:Zc U:=lvl [([0,1],[]),([1,5],[]),([1,5,10],[]),([4],[]),([1,5,6],[]),([1,5,6,13],[]),([1,5,6],[]),([1,5,6],[]),([4],[])]
def Z9e(c n d h:Int):LSt U:=(L2 [(1,.c (.int .u64 d)),pI 5 (wd c),pI 6 h] [])
abbrev A81(p:List Nat):=AW (Z1 ZlU) Tryz.f81 Zyk p
abbrev S81(p:List Nat):=SW (Z1 ZlU) Tryz.f81 Zyk p
theorem ZH4(c n:Int)(Q:QT)(h:((Zlr (c,()))/\(iB (decide (((wd c):Int) < 0)) ((Q .ret (L2 [pB 4 false] []))) ((Zp (A81 [1,1,1,0,1,0,0]) (Z9e c n n 0) (xB 0 (S81 [1,1,1,1] Q))))))):
  A81 [] (L2 [pI 0 c,(1,.c (.int .u64 n))] []) Q:=
 Eq.mpr V4 h
theorem Zwt(c n s d:Int)(N0:NT)(Q:QT)(h:(iB (decide (d < (wd c))) (((2:Int)≠0)/\((InR (d+1))/\(N0 (Z9e c n (IntKind.wrap .u64 (Int.tdiv s 2)) (d+1))))) ((Q .ret (L2 [pB 4 (s==0)] []))))):
  A81 [1,1,1,0,1,0,0] (Z9e c n s d) (xT N0 (xB 0 (S81 [1,1,1,1] Q))):=
 Eq.mpr V4 h
def ZDX(c n:Int):Prop:=AW (Z1 ZlU) Tryz.f81 Zyk [] (Zf (ZvQ.can (c,n,())) []) (EQ Tryz.f81 (ZAn (c,n,())) [])
theorem ZBM(ZDr:CT 129 Z8q)(hb:∀ (c:Int) (n:Int) (_:Unit),Znl (c,n,())->ZDX c n):CT 81 ZcY:=
 Z0 (l:=[(129,Z8q)]) Zh rfl (⟨ZDr,trivial⟩) Zyk Tryz.func81 rfl rfl 2 (fun _=> rfl) V3 (fun ⟨c,n,_⟩=> hb c n ())
def ZtQ:Zc U:=lvl [([0],[]),([0,4],[4]),([0,4,11],[4]),([2,3],[]),([2,3],[])]
abbrev ZI0(p:List Nat):=AW (Z1 ZlW) Tryz.f232 ZtQ p
theorem ZEF(c:Int)(Q:QT)(h:((Tt (!(decide (c < 0))))/\((decide (c < 0))=false->(!(decide (c < 0)))=true)/\(iB (bif (decide (c < 0)) then true else (decide ((6:Int)<=c))) ((Q .ret (L2 [pI 2 0,pB 3 false] []))) (((0:Int)<=c/\c < ((6:Nat):Int))/\(Q .ret (L2 [pI 2 (List.getD [0,1,8,16,32,64] c.toNat 0),pB 3 true] [])))))):
  ZI0 [] (L2 [pI 0 c] []) Q:=
 Eq.mpr V4 h
def Zz4(c:Int):Prop:=AW (Z1 ZlW) Tryz.f232 ZtQ [] (Zf (Zpu.can (c,())) []) (EQ Tryz.f232 (Zl5 (c,())) [])
theorem Zxh(hb:∀ (c:Int) (_:Unit),Zlr (c,())->Zz4 c):CT 232 Z82:=
 Z0 (l:=[]) Zh rfl trivial ZtQ Tryz.func232 rfl rfl 1 (fun _=> rfl) V3 (fun ⟨c,_⟩=> hb c ())
def Zo5:List (FuncId × Fs U):=[(232,Z82)]
def ZtV:Zc U:=lvl [([0,1],[]),([1,5,6],[]),([4],[])]
abbrev ZI5(p:List Nat):=AW (Z1 Zo5) Tryz.f221 ZtV p
theorem ZEN(c n:Int)(Q:QT)(h:let z2:=((if wd c < 0 then 0 else wd c):Int)==64;let z1:=decide (0<=wd c);let z0:=z1 && (!z2);((Zlr (c,()))/\((Tt z1)/\(Tt z1)/\(Tt z0)/\(Tt z0)/\(z0=true->(0:Int)<=(if wd c < 0 then 0 else wd c))/\(Tt z0)/\(z1=true->(True->z1=true))/\(z1=true->(z2=false->z0=true))/\(Tt z1)/\(Q .ret (L2 [(4,.c (.bool (bif z1 then (bif z2 then true else (((Int.fdiv n (2 ^ (min (Int.toNat (if wd c < 0 then 0 else wd c)) (IntKind.bits .u64)))):Int)==0)) else false)))] []))))):
  ZI5 [] (L2 [pI 0 c,(1,.c (.int .u64 n))] []) Q:=
 Eq.mpr V4 h
def Zzc(c n:Int):Prop:=AW (Z1 Zo5) Tryz.f221 ZtV [] (Zf (ZvQ.can (c,n,())) []) (EQ Tryz.f221 (ZAn (c,n,())) [])
theorem Zxp(ZCN:CT 232 Z82)(hb:∀ (c:Int) (n:Int) (_:Unit),Znl (c,n,())->Zzc c n):CT 221 ZcY:=
 Z0 (l:=[(232,Z82)]) Zh rfl (⟨ZCN,trivial⟩) ZtV Tryz.func221 rfl rfl 2 (fun _=> rfl) V3 (fun ⟨c,n,_⟩=> hb c n ())
def Zuu:Zc U:=lvl [([0],[]),([2],[])]
abbrev ZIu(p:List Nat):=AW (Z1 ZlW) Tryz.f125 Zuu p
theorem ZFz(k:Int)(Q:QT)(h:let z0:=decide ((2:Int)<=k);((Tt z0)/\(Tt z0)/\(Q .ret (L2 [(2,.c (.bool (bif z0 then (decide (k<=9)) else false)))] [])))):
  ZIu [] (L2 [pI 0 k] []) Q:=
 Eq.mpr V4 h
def ZzY(k:Int):Prop:=AW (Z1 ZlW) Tryz.f125 Zuu [] (Zf (Zpu.can (k,())) []) (EQ Tryz.f125 (ZsT (k,())) [])
theorem Zy8(hb:∀ (k:Int) (_:Unit),Zlr (k,())->ZzY k):CT 125 Z1c:=
 Z0 (l:=[]) Zh rfl trivial Zuu Tryz.func125 rfl rfl 1 (fun _=> rfl) V3 (fun ⟨k,_⟩=> hb k ())
abbrev ZI6(p:List Nat):=AW (Z1 ZlW) Tryz.f220 Zuu p
theorem ZEO(k:Int)(Q:QT)(h:let z0:=decide ((2:Int)<=k);((Tt z0)/\(Tt z0)/\(Q .ret (L2 [(2,.c (.bool (bif z0 then (decide (k<=7)) else false)))] [])))):
  ZI6 [] (L2 [pI 0 k] []) Q:=
 Eq.mpr V4 h
def Zzd(k:Int):Prop:=AW (Z1 ZlW) Tryz.f220 Zuu [] (Zf (Zpu.can (k,())) []) (EQ Tryz.f220 (ZsA (k,())) [])
theorem Zxq(hb:∀ (k:Int) (_:Unit),Zlr (k,())->Zzd k):CT 220 Z2G:=
 Z0 (l:=[]) Zh rfl trivial Zuu Tryz.func220 rfl rfl 1 (fun _=> rfl) V3 (fun ⟨k,_⟩=> hb k ())
def Zok:List (FuncId × Fs U):=[(220,Z2G),(221,ZcY)]
def Zua:Zc U:=lvl [([0,3],[3]),([0,3,5],[3]),([4],[]),([3,32],[3]),([4],[]),([4],[])]
abbrev ZIf(p:List Nat):=AW (Z1 Zok) Tryz.f181 Zua p
theorem ZF8(l:Int)(t:Tree)(Q:QT)(h:let z2:=List.getD t.words (Int.toNat 0) (0:Int);let z1:=bif (t.kind==10) then (((t.kids.length:Int):Int)==0) else false;let z0:=bif z1 then (((t.words.length:Int):Int)==1) else false;((Zlr (l,()))/\(iB (decide (2<=l/\l<=7)) ((Tt (t.kind==10))/\(Tt (t.kind==10))/\(Tt (t.kind==10))/\(Tt (t.kind==10))/\(Tt z1)/\(Tt z1)/\(Tt z1)/\(Tt z1)/\(Tt z0)/\(z0=true->InR (l - 2))/\(Tt z0)/\(Tt z0)/\(z0=true->(0:Int)<=0/\0 < (t.words.length:Int))/\(Tt z0)/\(Tt z0)/\(Tt z0)/\(z0=true->Znl ((l - 2),z2,()))/\(Tt z0)/\(Q .ret (L2 [(4,.c (.bool (bif z0 then (Zie (l - 2) z2) else false)))] []))) ((iB (l==9) ((Q .ret (L2 [pB 4 (t.kind==1)] []))) ((Q .ret (L2 [pB 4 (t.kind !=10)] [])))))))):
  ZIf [] (L2 [pI 0 l,(1,.agg (enc .tree t))] []) Q:=
 Eq.mpr V4 h
def Zzx(l:Int)(t:Tree):Prop:=AW (Z1 Zok) Tryz.f181 Zua [] (Zf (Zpe.can (l,t,())) []) (EQ Tryz.f181 (ZsH (l,t,())) [])
theorem ZxK(ZqX:CT 220 Z2G)(ZCT:CT 221 ZcY)(hb:∀ (l:Int) (t:Tree) (_:Unit),ZhD (l,t,())->Zzx l t):CT 181 Z8l:=
 Z0 (l:=[(220,Z2G),(221,ZcY)]) Zh rfl (⟨ZqX,ZCT,trivial⟩) Zua Tryz.func181 rfl rfl 2 (fun _=> rfl) V3 (fun ⟨l,t,_⟩=> hb l t ())
def Z4b(N:Nat):List (FuncId × Fs U):=(130,fs Zpk (fun a=> [Z54 a,Zb8 a < N]) Zhg) ::[(125,Z1c),(181,Z8l)]
def Zga:Zc U:=lvl [([1,2],[2]),([1,2,8],[2]),([4],[]),([1,2,22],[2]),([4],[]),([1,2,36],[2]),([4],[]),([1,2,39],[2]),([1,2,52],[2]),([4],[]),([1,2,53],[2]),([4],[]),([1,2,71,72,73],[2]),([1,2,71,72,73,74],[2]),([1,2,6,71,72,73],[2,6]),([1,2,6,7,71,72,73],[2,6]),([1,2,6,7,71,72,73,82],[2,6]),([1,2,6,7,71,72,73],[2,6]),([1,2,71,72,73,95],[2]),([4],[]),([1,2,71,72,73],[2]),([4],[])]
def Z3z(t:Tree)(d h:Int):LSt U:=(L2 [pI 1 d,pL 2,(71,.c (sU .tree t.kids .unk)),pI 72 (t.kids.length:Int),pI 73 h] [(.loc 2,(enc .tree t))])
abbrev ZEz(N:Nat)(p:List Nat):=AW (Z1 (Z4b N)) Tryz.f130 Zga p
abbrev ZGM(N:Nat)(p:List Nat):=SW (Z1 (Z4b N)) Tryz.f130 Zga p
theorem ZFw(N:Nat)(t:Tree)(d:Int)(Q:QT)(h:let z7:=((t.kids.length:Int):Int)==0;let z6:=(Q .ret (L2 [pB 4 false] []));let z5:=(Zp (ZEz N [1,1,0,1,0,0]) (Z3z t d 0) (xB 1 (ZGM N [1,1,1] Q)));let z4:=((t.words.length:Int):Int)==1;let z3:=((t.words.length:Int):Int)==0;let z2:= !(decide (2<=t.kind/\t.kind<=9));let z1:=decide ((65536:Int)<=(t.words.length:Int));let z0:=bif z2 then true else (decide ((0:Int) < (t.words.length:Int)));(iB (t.kind==0) ((Tt z3)/\(Tt z3)/\(Tt z3)/\(Tt z3)/\(Q .ret (L2 [(4,.c (.bool (bif z3 then z7 else false)))] []))) ((iB (t.kind==10) ((Tt z4)/\(Tt z4)/\(Tt z4)/\(Tt z4)/\(Q .ret (L2 [(4,.c (.bool (bif z4 then z7 else false)))] []))) ((iB (d==0) z6 ((iB (t.kind==1) ((Tt (!z1))/\(Tt (!z1))/\(Tt (!z1))/\(z1=false->(!z1)=true)/\(iB (bif z1 then true else (decide ((65536:Int)<=(t.kids.length:Int)))) z6 z5)) ((Zlr (t.kind,()))/\(Tt (!z2))/\(Tt (!z2))/\(Tt (!z2))/\(z2=false->(!z2)=true)/\(Tt (!z0))/\(Tt (!z0))/\(Tt (!z0))/\(z0=false->(!z0)=true)/\(iB (bif z0 then true else (decide ((1048576:Int)<=(t.kids.length:Int)))) z6 z5)))))))))):
  ZEz N [] (L2 [(0,.agg (enc .tree t)),pI 1 d] []) Q:=
 Eq.mpr V4 h
theorem ZrG(N:Nat)(t:Tree)(d u:Int)(N0:NT)(Q:QT)(h:∀ aa,aa=(t.kids.getD u.toNat Tree.nil)->∀ s,s=aa->let z3:=N0 (Z3z t d (u+1));let z2:=(Q .ret (L2 [pB 4 false] []));let z1:= !(aa.kind !=10);let z0:= !(Z1x t.kind s);(iB (decide (u < (t.kids.length:Int))) (((0:Int)<=u/\u < (t.kids.length:Int))/\(iB (t.kind !=1) ((ZhD (t.kind,s,()))/\((Tt (!z0))/\((!z0)=true->InR (d - 1))/\(Tt (!z0))/\(Tt (!z0))/\((!z0)=true->Z54 (s,(d - 1),()))/\((!z0)=true->Zb8 (s,(d - 1),()) < N)/\(Tt (!z0))/\(z0=false->(!z0)=true)/\(iB (bif z0 then true else (!(Zb s (d - 1)))) z2 ((InR (u+1))/\z3)))) ((Tt (!z1))/\((!z1)=true->InR (d - 1))/\(Tt (!z1))/\(Tt (!z1))/\((!z1)=true->Z54 (s,(d - 1),()))/\((!z1)=true->Zb8 (s,(d - 1),()) < N)/\(Tt (!z1))/\(z1=false->(!z1)=true)/\(iB (bif z1 then true else (!(Zb s (d - 1)))) z2 ((InR (u+1))/\z3))))) ((Q .ret (L2 [pB 4 true] []))))):
  ZEz N [1,1,0,1,0,0] (Z3z t d u) (xT N0 (xB 1 (ZGM N [1,1,1] Q))):=
 Eq.mpr V4 (h _ rfl _ (Z7 _))
def ZzV(N:Nat)(t:Tree)(d:Int):Prop:=AW (Z1 (Z4b N)) Tryz.f130 Zga [] (Zf (Zpk.can (t,d,())) []) (EQ Tryz.f130 (Zhg (t,d,())) [])
theorem Zy6(Zr3:CT 125 Z1c)(ZDa:CT 181 Z8l)(hb:∀ (N:Nat) (t:Tree) (d:Int) (_:Unit),Z54 (t,d,())->Zb8 (t,d,()) < N+1->ZzV N t d):CT 130 Z8p:=
 J0 (μ:=Zb8) (l:=[(125,Z1c),(181,Z8l)]) Zh rfl (⟨Zr3,ZDa,trivial⟩) Zga Tryz.func130 rfl rfl 2 (fun _=> rfl) V3 (fun N ⟨t,d,_⟩=> hb N t d ())
def ZuU:List (FuncId × Fs U):=[(130,Z8p)]
abbrev A82(p:List Nat):=AW (Z1 ZuU) Tryz.f82 ZCr p
theorem ZH3(t:Tree)(Q:QT)(h:let z0:=Tree.mk t.kind t.words t.kids;((Z54 (z0,64,()))/\(Q .ret (L2 [pB 2 (Zb z0 64)] [])))):
  A82 [] (L2 [(0,.agg (enc .tree t))] []) Q:=
 Eq.mpr V4 h
def ZDW(t:Tree):Prop:=AW (Z1 ZuU) Tryz.f82 ZCr [] (Zf (Zw0.can (t,())) []) (EQ Tryz.f82 (ZAm (t,())) [])
theorem ZBL(ZDq:CT 130 Z8p)(hb:∀ (t:Tree) (_:Unit),ZfP (t,())->ZDW t):CT 82 Z0s:=
 Z0 (l:=[(130,Z8p)]) Zh rfl (⟨ZDq,trivial⟩) ZCr Tryz.func82 rfl rfl 1 (fun _=> rfl) V3 (fun ⟨t,_⟩=> hb t ())
def Zm1(N:Nat):List (FuncId × Fs U):=(31,fs Zpk (fun a=> [Z54 a,Zb8 a < N]) Zhg) ::[(81,ZcY)]
def Zyr:Zc U:=lvl [([1,2],[2]),([1,2,10],[2]),([4],[]),([1,2,23],[2]),([4],[]),([1,2,68],[2]),([4],[]),([1,2,77],[2]),([4],[]),([1,2,5],[2]),([1,2,5,82],[2]),([1,2,5],[2]),([1,2,5,6],[2,6]),([1,2,5,6,94],[2,6]),([4],[]),([1,2,5,6,7],[2,6]),([1,2,5,131],[2]),([4],[]),([4],[])]
def Z9r(t:Tree)(d h:Int):LSt U:=(L2 [pI 1 d,pL 2,pI 5 h] [(.loc 2,(enc .tree t))])
abbrev A31(N:Nat)(p:List Nat):=AW (Z1 (Zm1 N)) Tryz.f31 Zyr p
abbrev S31(N:Nat)(p:List Nat):=SW (Z1 (Zm1 N)) Tryz.f31 Zyr p
theorem ZHp(N:Nat)(t:Tree)(d:Int)(Q:QT)(h:let z10:=(Q .ret (L2 [pB 4 false] []));let z9:=((t.kids.length:Int):Int)==0;let z7:=decide (t.kind < 0);let z6:=decide ((1:Int) < t.kind);let z5:=((t.words.length:Int):Int)==1;let z4:=((t.words.length:Int):Int)==0;let z1:=bif z7 then true else (decide ((10:Int) < t.kind));let z3:=bif z1 then true else (d==0);let z0:=bif z3 then true else (decide ((65536:Int)<=(t.words.length:Int)));let z8:=(!z0) && (t.kind==1);let z2:=bif z0 then true else (bif (t.kind==1) then (decide ((65536:Int)<=(t.kids.length:Int))) else false);(iB (t.kind==0) ((Tt z4)/\(Tt z4)/\(Tt z4)/\(Tt z4)/\(Q .ret (L2 [(4,.c (.bool (bif z4 then z9 else false)))] []))) ((iB (t.kind==10) ((Tt z5)/\(Tt z5)/\(Tt z5)/\(Tt z5)/\(Q .ret (L2 [(4,.c (.bool (bif z5 then z9 else false)))] []))) ((Tt (!z7))/\(Tt (!z7))/\(z7=false->(!z7)=true)/\(Tt (!z1))/\(z1=false->(!z1)=true)/\(Tt (!z3))/\(Tt (!z3))/\(Tt (!z3))/\(z3=false->(!z3)=true)/\(Tt (!z0))/\(Tt (!z0))/\(Tt (!z0))/\(Tt z8)/\(Tt z8)/\(Tt z8)/\((!z0)=true->(True->(!z0)=true))/\((!z0)=true->((t.kind==1)=true->z8=true))/\(z0=false->(!z0)=true)/\(Tt (!z2))/\(Tt (!z2))/\(Tt (!z2))/\(z2=false->(!z2)=true)/\(iB (bif z2 then true else (decide ((1048576:Int)<=(t.kids.length:Int)))) z10 ((Tt z6)/\(Tt z6)/\(Tt z6)/\(Tt z6)/\(iB (bif z6 then (decide ((0:Int) < (t.words.length:Int))) else false) z10 ((Zp (A31 N [1,1,1,1,1,0,1,0,0]) (Z9r t d 0) (xB 0 (S31 N [1,1,1,1,1,1] Q)))))))))))):
  A31 N [] (L2 [(0,.agg (enc .tree t)),pI 1 d] []) Q:=
 Eq.mpr V4 h
theorem ZwG(N:Nat)(t:Tree)(d x5:Int)(N0:NT)(Q:QT)(h:∀ s,s=(t.kids.getD x5.toNat Tree.nil)->∀ u,u=s->∀ aa,aa=(List.getD s.words (Int.toNat 0) (0:Int))->let z5:=(Q .ret (L2 [pB 4 false] []));let z3:=decide ((2:Int)<=t.kind);let z0:=bif z3 then (decide (t.kind<=7)) else false;let z2:=z0 !=(s.kind==10);let z4:=(!z2) && (t.kind==9);let z1:=bif z2 then true else (bif (t.kind==9) then (s.kind !=1) else false);(iB (decide (x5 < (t.kids.length:Int))) (((0:Int)<=x5/\x5 < (t.kids.length:Int))/\((InR (d - 1))/\(Z54 (u,(d - 1),()))/\(Zb8 (u,(d - 1),()) < N)/\(iB (!(Zb u (d - 1))) z5 ((Tt z3)/\(Tt z3)/\(Tt z3)/\((Tt (!z2))/\(Tt (!z2))/\(Tt (!z2))/\(Tt z4)/\(Tt z4)/\((!z2)=true->(True->(!z2)=true))/\((!z2)=true->((t.kind==9)=true->z4=true))/\(z2=false->(!z2)=true)/\(Tt (!z1))/\(Tt ((!z1) && z0))/\(Tt ((!z1) && z0))/\(((!z1) && z0)=true->InR (t.kind - 2))/\(Tt ((!z1) && z0))/\(Tt ((!z1) && z0))/\(((!z1) && z0)=true->(0:Int)<=0/\0 < (s.words.length:Int))/\(Tt ((!z1) && z0))/\(Tt ((!z1) && z0))/\(Tt ((!z1) && z0))/\(((!z1) && z0)=true->Znl ((t.kind - 2),aa,()))/\(Tt ((!z1) && z0))/\((!z1)=true->(True->(!z1)=true))/\((!z1)=true->(z0=true->((!z1) && z0)=true))/\(z1=false->(!z1)=true)/\(iB (bif z1 then true else (bif z0 then (!(Zie (t.kind - 2) aa)) else false)) z5 ((InR (x5+1))/\(N0 (Z9r t d (x5+1)))))))))) ((Q .ret (L2 [pB 4 true] []))))):
  A31 N [1,1,1,1,1,0,1,0,0] (Z9r t d x5) (xT N0 (xB 0 (S31 N [1,1,1,1,1,1] Q))):=
 Eq.mpr V4 (h _ rfl _ (Z7 _) _ rfl)
def ZEi(N:Nat)(t:Tree)(d:Int):Prop:=AW (Z1 (Zm1 N)) Tryz.f31 Zyr [] (Zf (Zpk.can (t,d,())) []) (EQ Tryz.f31 (Zhg (t,d,())) [])
theorem ZC2(c81:CT 81 ZcY)(hb:∀ (N:Nat) (t:Tree) (d:Int) (_:Unit),Z54 (t,d,())->Zb8 (t,d,()) < N+1->ZEi N t d):CT 31 Z8p:=
 J0 (μ:=Zb8) (l:=[(81,ZcY)]) Zh rfl (⟨c81,trivial⟩) Zyr Tryz.func31 rfl rfl 2 (fun _=> rfl) V3 (fun N ⟨t,d,_⟩=> hb N t d ())
end
theorem Z3N:∀ (l:List Int),trim l=[]↔∀ i:Nat,l.getD i 0=0
 | []=> by simp [trim]
 | x ::r=> by
  have s:=Z3N r
  constructor
  .intro h i
   simp only [trim] at h
   split at h
   .rename_i d
    split at h
    .cases i with
     | zero=> simpa
     | succ i=> simp_all
    .cases h
   .cases h
  .intro h
   have u:=h 0
   have d:trim r=[]:=s.2 fun i=> by simpa using h (i+1)
   simp only [trim,d]
   grind
theorem Z1Y(x:Int)(r:List Int):trim (x ::r)=if trim r=[]/\x=0 then [] else x ::trim r:=by
 simp only [trim]
 grind
theorem ZaK:∀ (a b:List Int),trim a=trim b↔∀ i:Nat,a.getD i 0=b.getD i 0
 | [],b=> by
  rw [show trim []=[] from rfl,eq_comm,Z3N]
  simp [eq_comm]
 | x ::r,[]=> by
  rw [show trim []=[] from rfl,Z3N]
  simp
 | x ::r,y ::s=> by
  have ih:=ZaK r s
  constructor
  .intro h i
   have d:x=y/\trim r=trim s:=by
    rw [Z1Y,Z1Y] at h
    grind
   cases i with
   | zero=> grind
   | succ i=> simp_all
  .intro h
   have u:x=y:=by simpa using h 0
   have hr:trim r=trim s:=ih.2 fun i=> by simpa using h (i+1)
   rw [Z1Y,Z1Y,u,hr]
def Zz3(l:List Tree):Prop:=∀ x∈l,x.kind=0->x=Tree.nil
theorem Jz(x:Tree)(r:List Tree):Y3 (x ::r)=if Y3 r=[]/\x.kind=0 then [] else x ::Y3 r:=by
 simp only [Y3]
 grind
theorem Z2W:∀ (l:List Tree),Zz3 l->(Y3 l=[]↔∀ i:Nat,l.getD i Tree.nil=Tree.nil)
 | [],_=> by simp [Y3]
 | x ::r,hn=> by
  have ih:=Z2W r (fun y u=> hn y (Q7 _ u))
  have hx:=hn x (Q8 ..)
  rw [Jz]
  constructor
  .intro h i
   split at h
   .rename_i hc
    cases i with
    | zero=> grind
    | succ i=> simp_all
   .cases h
  .intro h
   have d:x=Tree.nil:=by simpa using h 0
   have s:Y3 r=[]:=ih.2 fun i=> by simpa using h (i+1)
   rw [if_pos ⟨s,by rw [d];rfl⟩]
theorem Z7V:∀ (a b:List Tree),Zz3 a->Zz3 b->(Y3 a=Y3 b↔∀ i:Nat,a.getD i Tree.nil=b.getD i Tree.nil)
 | [],b,_,hb=> by
  rw [show Y3 []=[] from rfl,eq_comm,Z2W b hb]
  simp [eq_comm]
 | x ::r,[],ha,_=> by
  rw [show Y3 []=[] from rfl,Z2W _ ha]
  simp
 | x ::r,y ::s,ha,hb=> by
  have ih:=Z7V r s (fun y d=> ha y (Q7 _ d)) (fun y d=> hb y (Q7 _ d))
  have hx:=ha x (Q8 ..)
  have d:=hb y (Q8 ..)
  constructor
  .intro h i
   have u:x=y/\Y3 r=Y3 s:=by
    rw [Jz,Jz] at h
    split at h <;> split at h
    .grind
    .cases h
    .cases h
    .simpa using h
   cases i with
   | zero=> grind
   | succ i=> simp_all
  .intro h
   have h0:x=y:=by simpa using h 0
   have hr:Y3 r=Y3 s:=ih.2 fun i=> by simpa using h (i+1)
   rw [Jz,Jz,h0,hr]
theorem ZfZ:Z3 Tree.nil=Tree.nil:=by rfl
theorem Z7H(t:Tree):(Z3 t).kind=t.kind:=by
 obtain ⟨k,w,ks⟩:=t
 simp only [Z3]
 split
 .rename_i h;simp [h,Tree.nil]
 .split
  .rename_i h;simp [h]
  .try rfl
theorem Z7J:∀ (l:List Tree),Zz3 (Yd l)
 | []=> by intro x d;trivial
 | t ::r=> by
  intro x d h
  simp only [Yd,Q9] at d
  rcases d with rfl | d
  .rw [Z7H] at h
   obtain ⟨k,w,ks⟩:=t
   simp only [Tree.kind_mk] at h
   simp [Z3,h]
  .exact Z7J r x d h
theorem Z0c:∀ (l:List Tree) (i:Nat),(Yd l).getD i Tree.nil=Z3 (l.getD i Tree.nil)
 | [],i=> by rfl
 | t ::r,0=> by simp [Yd]
 | t ::r,i+1=> by simpa [Yd] using Z0c r i
theorem Z8S(a b:List Tree):Yd a=Yd b↔a.length=b.length/\∀ i:Nat,Z3 (a.getD i Tree.nil)=Z3 (b.getD i Tree.nil):=by
 constructor
 .intro h
  refine ⟨by rw [<-Z26 a,h,Z26],fun i=> ?_⟩
  rw [<-Z0c,h,Z0c]
 .rintro ⟨hl,h⟩
  apply List.ext_getElem (by rw [Z26,Z26,hl])
  intro i d s
  have:=h i
  rw [<-Z0c,<-Z0c] at this
  grind
theorem YF(a b:Tree):Z3 a=Z3 b↔a.kind=b.kind/\(a.kind=0\/(if a.kind=1 then (∀ i:Nat,a.words.getD i 0=b.words.getD i 0) else a.words=b.words/\a.kids.length=b.kids.length)/\∀ i:Nat,Z3 (a.kids.getD i Tree.nil)=Z3 (b.kids.getD i Tree.nil)):=by
 obtain ⟨k,w,ks⟩:=a
 obtain ⟨u,s,d⟩:=b
 show _↔k=u/\(k=0\/(if k=1 then (∀ i:Nat,w.getD i 0=s.getD i 0) else w=s/\ks.length=d.length)/\∀ i:Nat,Z3 (ks.getD i Tree.nil)=Z3 (d.getD i Tree.nil))
 by_cases hk:k=u
 .subst hk
  simp only [true_and]
  by_cases h0:k=0
  .simp [Z3,h0]
  .by_cases h1:k=1
   .subst h1
    simp only [Z3,if_neg h0,if_true,Tree.mk.injEq,true_and,ZaK,Z7V _ _ (Z7J _) (Z7J _),Z0c]
    simp
   .simp only [Z3,if_neg h0,if_neg h1,Tree.mk.injEq,true_and,Z8S]
    grind
 .simp only [hk,false_and,iff_false]
  intro h
  have:=congrArg Tree.kind h
  rw [Z7H,Z7H] at this
  exact hk this
theorem ZiK{a b:Tree}(h:Z3 a=Z3 b)(h0:a.kind≠0)(i:Nat):a.words.getD i 0=b.words.getD i 0:=by
 obtain ⟨_,d⟩:=(YF a b).1 h
 grind
theorem Zm3{a b:Tree}(h:Z3 a=Z3 b)(h0:a.kind≠0)(i:Nat):Z3 (a.kids.getD i Tree.nil)=Z3 (b.kids.getD i Tree.nil):=by
 obtain ⟨_,d⟩:=(YF a b).1 h
 grind
theorem ZeG(t:Tree)(i:Int):Zj (JK t i)<=Zj t/\(i < t.kids.length->0<=i->Zj (JK t i) < Zj t):=by
 obtain ⟨k,w,ks⟩:=t
 unfold JK
 have d:Zj Tree.nil=1:=rfl
 split
 .simp only [d,Zj];omega
 .simp only [Tree.kids_mk]
  by_cases hi:i.toNat < ks.length
  .have:=Z0o hi
   simp only [Zj];omega
  .rw [List.getD,QZ V0]
   simp only [Option.getD_none,d,Zj];omega
theorem ZbL:Contract Tryz.prog cfg 114 Ju:=by
 refine Zyd ZDd Zr1 Zr0 ?_
 rintro N a b _ hp hN
 have la:a.words.length+a.kids.length < Zj a:=by obtain ⟨k,w,ks⟩:=a;have:=Zs ks;simp only [Zj,Tree.words_mk,Tree.kids_mk];omega
 have lb:b.words.length+b.kids.length < Zj b:=by obtain ⟨k,w,ks⟩:=b;have:=Zs ks;simp only [Zj,Tree.words_mk,Tree.kids_mk];omega
 simp only [Z2o,Zg2] at hp hN
 have no:¬Z3 a=Z3 b->ZX cfg Tryz.f114.ntmps Tryz.f114.results.toList (Z7o (a,b,())) [] .ret (⟨[(4,.c (.bool false))],[],[]⟩:LSt U):=by
  intro h
  have e:ZY (Z3 a) (Z3 b)=false:=JC.2 h
  simp only [Z7o,e]
  exact ⟨⟨rfl,⟨rfl,trivial⟩,trivial⟩,trivial⟩
 refine ZFH N _ _ _ ?_;(try simp only [iB,vcT,forall_eq])
 (simp only [iB,vcS]);(try simp only [iB,vcT])
 refine ⟨fun hc=> ?_,fun hc=> ?_⟩
 .have e:ZY (Z3 a) (Z3 b)=(a.kind==b.kind):=by
   by_cases d:a.kind=b.kind
   .have h0:a.kind=0:=by rcases hc with h | h;exact absurd d h;exact h
    rw [Z0Y.2 ((YF a b).2 ⟨d,.inl h0⟩)]
    simp [d]
   .rw [JC.2 (fun h=> d ((YF a b).1 h).1)]
    simp [d]
  simp only [Z7o,e]
  exact ⟨⟨rfl,⟨rfl,trivial⟩,trivial⟩,trivial⟩
 .refine ⟨fun _=> by simp only [ZfQ];omega,fun h h'=> ⟨h,h'⟩,fun hd=> no ?_,fun hd=> ?_⟩
  .intro h
   obtain ⟨_,h2⟩:=(YF a b).1 h
   grind
  .refine Ze (ι:=Int) (fun p=> Z6w a b p) (fun p=> 0<=p/\p<=2000000000000/\∀ j:Nat,j < p.toNat->a.words.getD j 0=b.words.getD j 0) (fun p=> (2000000000000 - p).toNat) 0 rfl ⟨V0,V0,fun j s=> by simp at s⟩ ?_
   rintro i ⟨h1,h2,h3⟩
   refine ZrR N _ _ _ _ _ ?_;(try simp only [iB,vcT,forall_eq])
   (simp only [iB,vcS]);(try simp only [iB,vcT])
   have wa:∀ t:Tree,Jy t i=t.words.getD i.toNat 0:=fun t=> by unfold Jy;omega
   refine ⟨fun hi=> ⟨trivial,trivial,fun u=> no fun h=> u ?_,fun he=> ⟨?_,?_⟩⟩,fun hi=> ?_⟩
   .rw [wa,wa]
    exact ZiK h hc.2 _
   .unfold InR;omega
   .refine ⟨i+1,rfl,⟨V0,V0,fun j s=> ?_⟩,V0⟩
    by_cases hj':j < i.toNat
    .exact h3 j hj'
    .have:j=i.toNat:=V0
     simp_all
   .have hw:∀ j:Nat,a.words.getD j 0=b.words.getD j 0:=fun j=> by
     grind
    refine Ze (ι:=Int) (fun p=> Z6v a b p) (fun p=> 0<=p/\p<=2000000000000/\∀ j:Nat,j < p.toNat->Z3 (a.kids.getD j Tree.nil)=Z3 (b.kids.getD j Tree.nil)) (fun p=> (2000000000000 - p).toNat) 0 rfl ⟨V0,V0,fun j s=> by simp at s⟩ ?_
    rintro q ⟨h5,h6,h7⟩
    refine ZrQ N _ _ _ _ _ ?_;(try simp only [iB,vcT,forall_eq])
    (simp only [iB,vcS]);(try simp only [iB,vcT])
    have ka:∀ t:Tree,JK t q=t.kids.getD q.toNat Tree.nil:=fun t=> by unfold JK;grind
    have ma:=ZeG a q
    have mb:=ZeG b q
    try (simp only [vE])
    refine ⟨fun hq=> ⟨trivial,trivial,?_,?_,fun u=> no fun h=> ?_,fun he=> ⟨?_,?_⟩⟩,fun hq=> ?_⟩
    .simp only [Z2o];omega
    .simp only [Zg2];omega
    .rw [JC] at u
     apply u
     rw [ka,ka]
     exact Zm3 h hc.2 _
    .unfold InR;omega
    .refine ⟨q+1,rfl,⟨V0,V0,fun j s=> ?_⟩,V0⟩
     by_cases hj':j < q.toNat
     .exact h7 j hj'
     .have:j=q.toNat:=V0
      rw [this,<-ka,<-ka]
      exact Z0Y.1 he
    .have d:∀ j:Nat,Z3 (a.kids.getD j Tree.nil)=Z3 (b.kids.getD j Tree.nil):=fun j=> by
      grind
     have e:ZY (Z3 a) (Z3 b)=true:=by
      rw [Z0Y,YF]
      refine ⟨hc.1,.inr ⟨?_,d⟩⟩
      split
      .exact hw
      .grind
     simp only [Z7o,e]
     trivial
mutual
theorem Z0v:∀ (t:Tree) (d l:Int),0<=ZD t d l->(Zj t:Int)+ZD t d l<=l
 | .mk _ w ks,d,l,h=> by
  simp only [ZD] at h ⊢
  split at h
  .omega
  .rename_i hc
   rw [if_neg hc]
   have:=Z2Z ks (d - 1) (l - 1 - w.length) h
   simp only [Zj]
   omega
theorem Z2Z:∀ (ks:List Tree) (d l:Int),0<=Zu ks d l->(Zd ks:Int)+Zu ks d l<=l
 | [],d,l,h=> by simp [Zu,Zd]
 | t ::r,d,l,h=> by
  simp only [Zu] at h ⊢
  split at h
  .omega
  .rename_i hc
   rw [if_neg hc]
   have h1:=Z2Z r d (ZD t d l) h
   have u:=(Z0w r d (ZD t d l) (YH t d l).1).2
   have s:=Z0v t d l V0
   simp only [Zd]
   omega
end
end Go.AM.YtpjenobkibfpcaaGreat
