import Derived.Test.YtpjenobkibfpcaaGreatZKD07
import Derived.Carry
import Derived.SizedLaws
import Derived.ChangeSame
import Derived.Test.YtpjenobkibfpcaaGreatChecked
import Derived.Test.YtpjenobkibfpcaaGreatRows
import Derived.ProofKit
set_option linter.unusedSimpArgs false
set_option linter.unusedVariables false
namespace Go.AM
open Go.ChangeShapes Go.WideShapes Go.RowKit
def inT(t:Tree):Prop:=Z3K t/\rng t
theorem Zx5{ks:List Tree}(h:∀ t∈ks,inT t):Z20 ks/\ZR ks:=by
 induction ks with
 | nil=> trivial
 | cons t r ih=>
  have s:=h t (Q5 ..)
  have b:=ih fun x u=> h x (Q4 _ u)
  exact ⟨⟨s.1,b.1⟩,s.2,b.2⟩
section
variable {U:Uni} {P:Program} {cfg:Cfg U} {w:World} {H:Type} {henc:TypeId × Value->H}
def RelS(cfg:Cfg U)(m:Addr->Option Value)(vs:List Value)(cs:List (C U)):Prop:=
 vs.length=cs.length/\∀ (j:Nat) v c,vs[j]?=some v->cs[j]?=some c->SimC cfg m v c
theorem RelS.one{m:Addr->Option Value}{v:Value}{c:C U}(h:SimC cfg m v c):RelS cfg m [v] [c]:=by
 refine ⟨rfl,fun j u d b s=> ?_⟩
 grind
theorem RelS.glue{m:Addr->Option Value}{vs:List Value}{a n:Nat}{c1 rest:List (C U)}(h1:RelS cfg m ((vs.drop a).take n) c1)(hn:c1.length=n)(b:a+n<=vs.length)(h2:RelS cfg m (vs.drop (a+n)) rest):
  RelS cfg m (vs.drop a) (c1++rest):=by
 have e:vs.drop a=(vs.drop a).take n++vs.drop (a+n):=by
  rw [show vs.drop (a+n)=(vs.drop a).drop n by simp_all]
  exact (QO n _).symm
 rw [e]
 have hl:((vs.drop a).take n).length=c1.length:=h1.1
 refine ⟨by simp only [Qa,hl,h2.1],fun j v c b hc=> ?_⟩
 rw [Qs] at b hc
 rw [hl] at b
 split at b
 .rename_i h
  rw [if_pos h] at hc
  exact h1.2 j v c b hc
 .rename_i h
  rw [if_neg h] at hc
  exact h2.2 _ v c b hc
theorem RelS.done{m:Addr->Option Value}{vs:List Value}{n:Nat}(h:vs.length=n):RelS cfg m (vs.drop n) ([]:List (C U)):=by
 rw [Qd V1]
 exact ⟨rfl,fun j v c b=> by simp at b⟩
def Rdd(henc:TypeId × Value->H)(P:Program)(w:World)(n:Nat)(t:TypeId)(cs:List Value):Prop:=
 ∃ x,DataW.trod henc P w 0 (fun _=> true) true n t cs=some x/\(x.1.weights P t).all (·<=reachBytes)=true
theorem Jf(ok:CfgOk P cfg){t:TypeId}{ag:Bool}{zs:List (C U)}(h:cfg.var t=some (ag,zs)):P.cellsOf t=zs.length:=by
 obtain ⟨_,i,z,d,s,u,b,_⟩:=ok.var _ _ _ h
 simp [Program.cellsOf,s,b]
theorem JR(ok:CfgOk P cfg){t:TypeId}{k:IntKind}{n0:Int}{n:Nat}{cs:List Value}(hv:cfg.var t=some (false,[.int k n0]))(h:Rdd henc P w n t cs):
  ∃ z,RelS cfg w.cell? cs [.int k z]/\k.min<=z/\z<=k.max:=by
 obtain ⟨x,hx,_⟩:=h
 obtain ⟨_,i,z,d,h1,u,h3,h4,h5,h6,h7,_⟩:=ok.var _ _ _ hv
 have s:=h7 rfl k n0 rfl
 subst s
 obtain ⟨q,rfl,_,b⟩:=DataW.trod_int u hx
 simp only [Lit.wf,Q1,decide_eq_true_eq] at b
 exact ⟨q,.one (.int k q),b.1,b.2⟩
theorem Yd(ok:CfgOk P cfg){t ft:TypeId}{i off:Nat}{ag:Bool}{zs:List (C U)}{n:Nat}{cs:List Value}(hf:cfg.fld t i=some (off,ft))(hv:cfg.var ft=some (ag,zs))(h:Rdd henc P w n t cs):
  ∃ m,n=m+1/\cs.length=P.cellsOf t/\Rdd henc P w m ft ((cs.drop off).take zs.length):=by
 obtain ⟨x,hx,hw⟩:=h
 obtain ⟨fs,fd,h1,u,h3,h4⟩:=ok.fld _ _ _ _ hf
 obtain ⟨xs,m,rfl,rfl,hl,aj,b⟩:=DataW.trod_struct h1 hx
 have s:=b i fd u
 rw [h3,h4,Jf ok hv] at s
 have hi:i < xs.length:=by have:=(QE.1 u).1;omega
 have hy:=Q0 hi
 refine ⟨m,rfl,hl,xs[i],by rw [s,hy],?_⟩
 rw [Qo] at hw ⊢
 intro q hq
 refine hw q ?_
 simp only [DataW.weights,h1]
 exact DataW.weights_mem_each (j:=i) (t:=ft) (d:=xs[i].1) (by grind) (by grind) q hq
theorem Z9u{α:Type}(p:Nat->α->Prop):∀ (n:Nat),(∀ i,i < n->∃ x,p i x)->∃ l:List α,l.length=n/\∀ i x,l[i]?=some x->p i x
 | 0,_=> ⟨[],rfl,fun i x h=> by simp at h⟩
 | n+1,h=> by
  obtain ⟨l,b,s⟩:=Z9u p n fun i hi=> h i V1
  obtain ⟨x,hx⟩:=h n V1
  refine ⟨l++[x],by simp [b],fun i y u=> ?_⟩
  grind
theorem Z8W{e:TypeId}:∀ {l:List (DataW H)} {i:Nat} {d:DataW H},l[i]?=some d->∀ q∈d.weights P e,q∈DataW.weightsAll P e l
 | d0 ::l,0,d,h,q,hq=> by
  simp at h
  subst h
  simp only [DataW.weightsAll,Qc]
  exact .inl hq
 | d0 ::l,i+1,d,h,q,hq=> by
  simp only [DataW.weightsAll,Qc]
  exact .inr (Z8W (l:=l) (i:=i) (by simpa using h) q hq)
theorem ZdL (ok:CfgOk P cfg) {t:TypeId} {S:U.Ty} {n:Nat} {cs:List Value} {Z4j:U.El S->Prop} (hs:cfg.slT t=some S)
  (ih:∀ m,m < n->∀ cs,Rdd henc P w m (cfg.elT S) cs->∃ e,RelS cfg w.cell? cs (cfg.enc S e)/\Z4j e) (h:Rdd henc P w n t cs):
  ∃ l:List (U.El S),RelS cfg w.cell? cs [.slice S l .unk]/\l.length*cfg.bytes S<=reachBytes/\∀ e∈l,Z4j e:=by
 obtain ⟨x,hx,hw⟩:=h
 have hu:=ok.sl _ _ hs
 obtain ⟨i0,ag,zs,z,h1,h2,h3,h4,h5,h6⟩:=ok.el S
 have hc:P.cellsOf (cfg.elT S)=cfg.sz S:=by simp [Program.cellsOf,h1,h2]
 have hb:P.bytesOf (cfg.elT S)=cfg.bytes S:=by simp [Program.bytesOf,h1,h3]
 rcases DataW.trod_slice hu hx with ⟨rfl,_⟩ | ⟨a,len,cap,elems,rest,m,rfl,rfl,rfl,_,hlc,_,hel,hels,_⟩
 .exact ⟨[],.one (.snil S .unk),by simp,fun e he=> by cases he⟩
 .simp only [DataW.weights,hu,Xa,hb] at hw
  rw [List.all_cons,Q1,decide_eq_true_eq,Qo] at hw
  obtain ⟨ax,ah⟩:=hw
  obtain ⟨l,hl,u⟩:=Z9u (fun i (e:U.El S)=> (∀ j c,(cfg.enc S e)[j]?=some c->∃ v,w.cell? (a.add (i*cfg.sz S+j))=some v/\SimC cfg w.cell? v c)/\Z4j e) len (by
   intro i hi
   have hg:=hels i hi
   have hy:=Q0 (l:=elems) (i:=i) V1
   rw [hy] at hg
   obtain ⟨ci,al,am⟩:=QF.1 hg
   obtain ⟨_,aw,af⟩:=World.cells?_some al
   obtain ⟨e,s,ak⟩:=ih m V1 ci ⟨elems[i],am,by
    rw [Qo]
    intro q hq
    refine ah q ?_
    rw [Qc]
    exact .inl (Z8W (i:=i) (d:=elems[i].1) (by grind) q hq)⟩
   refine ⟨e,fun j c hj=> ?_,ak⟩
   have ar:=s.1
   have ab:j < ci.length:=by have:=(Q2.1 hj).1;omega
   have b:=Q0 ab
   refine ⟨ci[j],?_,s.2 j _ c b hj⟩
   rw [<-b,<-af j V1,hc,Go.Deep.add_add])
  refine ⟨l,.one (.of_rows .unk hl hlc fun i x hx j c hj=> (u i x hx).1 j c hj),?_,fun e he=> ?_⟩
  .grind
  .obtain ⟨i,hi,rfl⟩:=Xe he
   exact (u i _ (Q0 hi)).2
end
section
variable {P:Program} {cfg:Cfg U} {w:World} {H:Type} {henc:TypeId × Value->H}
structure TreeTypes (cfg:Cfg U):Prop where
 enc:cfg.enc=AM.enc
 bytes:cfg.bytes=K.bytes
 int:∃ n,cfg.var (cfg.elT .int)=some (false,[.int .i64 n])
 u64:∃ n,cfg.var (cfg.elT .u64)=some (false,[.int .u64 n])
 var:∃ zs,cfg.var (cfg.elT .tree)=some (true,zs)/\zs.length=3
 f0:∃ t n,cfg.fld (cfg.elT .tree) 0=some (0,t)/\cfg.var t=some (false,[.int .i64 n])
 f1:∃ t c,cfg.fld (cfg.elT .tree) 1=some (1,t)/\cfg.var t=some (false,[c])/\cfg.slT t=some .u64
 f2:∃ t c,cfg.fld (cfg.elT .tree) 2=some (2,t)/\cfg.var t=some (false,[c])/\cfg.slT t=some .tree
theorem Z16{n b:Nat}(h:n*b<=reachBytes)(hb:8<=b):n<=17592186044416:=by
 have u:n*8<=n*b:=Nat.mul_le_mul_left _ hb
 have s:reachBytes < 2 ^ 47:=reachBytes_lt
 omega
theorem Zy8(ok:CfgOk P cfg)(T:TreeTypes cfg){n:Nat}{cs:List Value}(h:Rdd henc P w n (cfg.elT .u64) cs):
  ∃ e:Int,RelS cfg w.cell? cs (cfg.enc .u64 e)/\(0<=e/\e < 18446744073709551616):=by
 obtain ⟨n0,b⟩:=T.u64
 obtain ⟨z,h1,s,u⟩:=JR ok b h
 refine ⟨z,by rw [T.enc];exact h1,s,?_⟩
 have:z<=18446744073709551615:=u
 omega
theorem Zfl(ok:CfgOk P cfg)(T:TreeTypes cfg):∀ (n:Nat) (cs:List Value),Rdd henc P w n (cfg.elT .tree) cs->∃ e:Tree,RelS cfg w.cell? cs (cfg.enc .tree e)/\inT e:=by
 intro n
 induction n using Nat.strongRecOn with
 | ind n IH=>
  intro cs h
  obtain ⟨zs,hz,b⟩:=T.var
  obtain ⟨t0,n0,f0,v0⟩:=T.f0
  obtain ⟨t1,c1,f1,v1,s1⟩:=T.f1
  obtain ⟨t2,c2,f2,v2,s2⟩:=T.f2
  obtain ⟨m,rfl,hl,r0⟩:=Yd ok f0 v0 h
  obtain ⟨u,e',_,r1⟩:=Yd ok f1 v1 h
  cases e'
  obtain ⟨u,e',_,r2⟩:=Yd ok f2 v2 h
  cases e'
  have s:cs.length=3:=by rw [hl,Jf ok hz,b]
  obtain ⟨k,a1,a2,a3⟩:=JR ok v0 r0
  obtain ⟨ws,b1,b2,b3⟩:=ZdL ok s1 (fun m _ cs h=> Zy8 ok T h) r1
  obtain ⟨ks,d1,d2,d3⟩:=ZdL ok s2 (fun u hm cs h=> IH u V1 cs h) r2
  rw [T.bytes] at b2 d2
  have g:=a1.glue rfl (by simp;omega) (b1.glue rfl (by simp;omega) (d1.glue rfl (by simp;omega) (RelS.done (n:=3) s)))
  refine ⟨.mk k ws ks,by rw [T.enc];exact g,?_⟩
  have hk:=Zx5 d3
  exact ⟨⟨Z16 b2 V5,Z16 d2 V5,hk.1⟩,⟨a2,a3⟩,b3,hk.2⟩
end
section
variable {P:Program} {cfg:Cfg U} {H:Type} {henc:TypeId × Value->H}
def ZAG{α:Type}(henc:TypeId × Value->H)(P:Program)(cfg:Cfg U)(A:Arg α)(t:TypeId)(Z4j:α->Prop):Prop:=
 (∀ a,A.get (A.can a)=some a)/\∀ (w:World) (base:Nat) v n,Value.okWide P w .any base t v->Rdd henc P w n t v.cells.toList->
  ∃ a,Z4j a/\∀ (g:Gh) (live:Name->Bool),g.m=w.cell?->RelV cfg g ZB live v (A.can a)
def Znc{α:Type}(henc:TypeId × Value->H)(P:Program)(cfg:Cfg U)(A:ArgL α)(ts:List TypeId)(Z4j:α->Prop):Prop:=
 (∀ a,A.get (A.can a)=some a)/\∀ (w:World) (base:Nat) (vs:List Value) ds ps,(∀ (j:Nat) t v,ts[j]?=some t->vs[j]?=some v->Value.okWide P w .any base t v)->
  DataW.TrodAll henc P w 0 (fun _=> true) true ts vs ds ps->(DataW.weightsEach P ts ds).all (·<=reachBytes)=true->
  ∃ a,Z4j a/\vs.length=(A.can a).length/\∀ (g:Gh) (live:Name->Bool),g.m=w.cell?->∀ (j:Nat) v x,vs[j]?=some v->(A.can a)[j]?=some x->RelV cfg g ZB live v x
theorem Zos:Znc henc P cfg ArgL.nil [] (fun _=> True):=by
 refine ⟨fun _=> rfl,fun w b vs u ps _ h _=> ?_⟩
 obtain ⟨rfl,_,_⟩:=trodAll_nil h
 exact ⟨(),trivial,rfl,fun _ _ _ j v x s=> by simp at s⟩
theorem Zkf{α β:Type}{A:Arg α}{B:ArgL β}{t:TypeId}{ts:List TypeId}{Z4j:α->Prop}{goods:β->Prop}(hA:ZAG henc P cfg A t Z4j)(hB:Znc henc P cfg B ts goods):
  Znc henc P cfg (ArgL.cons A B) (t ::ts) (fun p=> Z4j p.1/\goods p.2):=by
 refine ⟨fun a=> ?_,fun w s vs ds ps aa h hw=> ?_⟩
 .simp only [ArgL.cons,hA.1,hB.1]
 .obtain ⟨v,ab,d,af,p,q,rfl,rfl,rfl,h1,h2⟩:=trodAll_cons h
  obtain ⟨n,h1⟩:=h1
  simp only [DataW.weightsEach,List.all_append,Q1] at hw
  obtain ⟨a,ga,ra⟩:=hA.2 w s v n (aa 0 t v rfl rfl) ⟨(d,p),h1,hw.1⟩
  obtain ⟨b,gb,lb,rb⟩:=hB.2 w s ab af q (fun j t v ht hv=> aa (j+1) t v (by simpa using ht) (by simpa using hv)) h2 hw.2
  refine ⟨(a,b),⟨ga,gb⟩,by simp [ArgL.cons,lb],fun g ai hg j u x hu hx=> ?_⟩
  cases j with
  | zero=> simp [ArgL.cons] at hu hx;grind
  | succ j=> simp [ArgL.cons] at hu hx;grind
theorem RelS.relL{g:Gh}{w:World}{vs:List Value}{cs:List (C U)}(h:RelS cfg w.cell? vs cs)(hg:g.m=w.cell?)(hp:∀ c∈cs,c.plain=true):RelL cfg g ZB vs cs:=by
 refine ⟨h.1,fun j v c s hc=> ⟨by rw [hg];exact h.2 j v c s hc,?_⟩⟩
 have b:=hp c (Qz hc)
 cases c with
 | slice S l' tl'=> cases tl' <;> first | trivial | (simp [C.plain] at b)
 | _=> trivial
theorem Zvx(ok:CfgOk P cfg)(henc':cfg.enc=AM.enc){T:Ty}{Z4j:El T->Prop}(b:∃ s ft,cfg.fld (cfg.elT T) 0=some (s,ft))(hr:∀ w n cs,Rdd henc P w n (cfg.elT T) cs->∃ e:El T,RelS cfg w.cell? cs (cfg.enc T e)/\Z4j e):
  ZAG henc P cfg (aEl T) (cfg.elT T) Z4j:=by
 refine ⟨fun a=> Zvs T a,fun w ae v n aa h=> ?_⟩
 obtain ⟨s,ft,b⟩:=b
 obtain ⟨fs,fd,h1,_⟩:=ok.fld _ _ _ _ b
 obtain ⟨vs,rfl,_⟩:=okWide_struct h1 aa
 obtain ⟨e,he,hg⟩:=hr w n _ h
 refine ⟨e,hg,fun g ab u=> ⟨vs,rfl,?_⟩⟩
 rw [henc'] at he
 exact he.relL u (fun c hc=> by have:=ok.enc_plain T e c (by simp_all);exact this)
theorem Zo1 {α:Type} {A:ArgL α} {ts:List TypeId} {Z4j:α->Prop} {pre:α->Prop} {f:FuncId} (hA:Znc henc P cfg A ts Z4j) (hgood:∀ a,Z4j a->pre a)
  (hc:Contract P cfg f (fs A (fun a=> [pre a]) (fun _=> .c (.bool true)))) (w:World) (base:Nat) (args:Array Value) (ds:List (DataW H)) (ps:List MemPlace)
  (hok:∀ (j:Nat) t v,ts[j]?=some t->args.toList[j]?=some v->Value.okWide P w .any base t v)
  (h:DataW.TrodAll henc P w 0 (fun _=> true) true ts args.toList ds ps) (hw:(DataW.weightsEach P ts ds).all (·<=reachBytes)=true):
  Calls P f args w fun e w'=> e= .returned (.bool true)/\Below w.heap.size w w':=by
 obtain ⟨a,ga,hl,hr⟩:=hA.2 w base args.toList ds ps hok h hw
 let g:Gh:=⟨w.cell?,fun _=> none,fun _=> ⟨0,0,none⟩,fun _=> none⟩
 have hs:(fs A (fun a=> [pre a]) (fun _=> .c (.bool true))).fn (A.can a) []=some ([pre a],.c (.bool true),[]):=by
  simp only [fs,hA.1]
 have aa:Entry cfg w g args.toList (A.can a) [] []:=by
  refine ⟨⟨fun b v u=> ⟨u,rfl⟩,fun b t h=> by cases h⟩,fun b t h=> (by cases h),hl,fun j v x u hx=> hr g _ rfl j v x u hx,fun k cs hk=> (by simp at hk),fun _ _=> rfl,fun t x hx=> by cases hx⟩
 have:=hc.one rfl (A.can a) [] _ _ [] hs ⟨hgood a ga,trivial⟩ (QI _) w g args.toList aa
 refine Calls.mono (by simpa using this) ?_
 rintro e w' ⟨v,rfl,g',L⟩
 have u:SimC cfg g'.m v (.bool true):=L.val.1
 cases u
 refine ⟨rfl,L.fr.stay.os,L.fr.stay.tape,L.fr.stay.output,L.fr.stay.size,fun k hk=> ?_⟩
 exact (L.fr.clean k hk fun o s t h=> by cases h).1
theorem ZrW {f:Func} {s:ChangeSpec} {apart fresh handsOn again:Bool} {W W':World} {args:Array Value} {ds gs:List (DataW H)} {before:List MemPlace} {tb:TypeId}
  (hl:laidOutB P=true) (hread:(f.params.toList.all fun t=> P.readableRec t && decide (t < P.types.size))=true) (hres:f.resultTypes=#[tb]) (hbool:P.underlying tb=some .bool) (hvars:s.vars=[])
  (hfn:s.fn H (ds++gs)={ results:=[.lit (.bool true)],args:=ds,vars:=[] })
  (hW:DataW.Whole henc P f.params.toList s.vars apart W args.toList ds gs before)
  (hb:Below W.heap.size W W'):s.post henc P f apart fresh handsOn again W args (.bool true) W':=by
 have ar:=hW
 obtain ⟨p,q,h1,h2,e,_⟩:=ar
 have hq:q=[]:=by
  rw [hvars] at h2
  exact (trodVars_none h2).2
 subst hq
 have am:=hW.lt
 have av:∀ {ts:List TypeId} {vs:List Value} {ds:List (DataW H)} {ps:List MemPlace} {sp:Nat->Bool},(∀ t∈ts,P.readableRec t=true/\t < P.types.size)->(∀ x∈ps,x.block < W.heap.size)->(∀ x∈ps,sp x.block=true)->
   DataW.TrodAll henc P W 0 (fun _=> true) true ts vs ds ps->DataW.TrodAll henc P W' 0 sp true ts vs ds ps:=by
  intro ts
  induction ts with
  | nil=>
   intro vs ds ps sp _ _ _ h
   obtain ⟨rfl,rfl,rfl⟩:=trodAll_nil h
   exact rfl
  | cons t ts ih=>
   intro vs ds ps sp hr hx hs h
   obtain ⟨v,a4,d,a6,p,q,rfl,rfl,rfl,h3,h4⟩:=trodAll_cons h
   have ao:=hr t (Q5 ..)
   exact ⟨p,q,WideElems.Trod_stays hl ao.1 ao.2 h3 (fun x u=> hb.same (hx x (QR _ u))) (fun x u=> hs x (QR _ u)),
    ih (fun t ht=> hr t (Q4 _ ht)) (fun x u=> hx x (Xk _ u)) (fun x u=> hs x (Xk _ u)) h4,rfl⟩
 have ae:∀ t∈f.params.toList,P.readableRec t=true/\t < P.types.size:=by
  intro t ht
  have:=Qo.1 hread t ht
  simpa using this
 rw [QM] at e
 replace e:=e.symm
 subst e
 have af:∀ (b:Nat) (sp:Nat->Bool) (hd:Bool),DataW.TrodAll henc P W' b sp hd f.resultTypes.toList ((Value.bool true).resultList f.resultTypes.size) [.lit (.bool true)] []:=by
  intro b sp hd
  rw [hres]
  exact trodAll_mk1 ⟨1,by simp [DataW.trod,hbool,Value.cells]⟩
 have ak:∀ (j:Nat) (t:TypeId) (r:Value),f.resultTypes[j]?=some t->((Value.bool true).resultList f.resultTypes.size)[j]?=some r->Value.okWide P W' .any 0 t r:=by
  intro j t r h3 h4
  rw [hres] at h3 h4
  cases j with
  | zero=>
   simp at h3
   subst h3
   simp [Value.resultList] at h4
   subst h4
   simp [Value.okWide,hbool,Cell.okWide,Cell.ok]
  | succ j=> simp at h3
 have az:∀ x∈p,(fun b=> decide (b < W.heap.size)) x.block=true:=fun x hx=> by grind
 have aw:∀ sp:Nat->Bool,DataW.TrodVars henc P W' sp s.vars [] []:=fun sp=> by rw [hvars];try rfl
 refine ⟨ds,gs,p,[],p,[],hW,?_,?_,?_,hb.frame _,fun _=> ⟨ak,[.lit (.bool true)]++ds,[],[]++p,?_,fun x hx _=> by simpa using hx⟩⟩
 .grind
 .grind
 .grind
 .obtain ⟨_,_,_,_,_,hz,hn⟩:=hW
  refine ⟨[]++p,[],trodAll_append (av ae am (fun _ _=> rfl) h1) (af 0 (fun _=> true) true),aw _,by simp,?_,by simpa using hn⟩
  intro b al hx
  have ax:MemPlace.cell b al∈p:=by simpa using hx
  rw [hb.frozen (by exact am _ ax)]
  exact hz b al V1
end
end Go.AM
namespace Go.AM
def Jr(w:Int)(i:Nat):Int:=w / 256 ^ i % 256
def Z5G(m:Int)(i:Int):Bool:=decide (m / 2 ^ i.toNat % 2=1)
def of8(f:Nat->Int):Int:=f 0+256*(f 1+256*(f 2+256*(f 3+256*(f 4+256*(f 5+256*(f 6+256*f 7))))))
def Z5H(a b m:Int)(i:Nat):Int:=if Z5G m i then Jr b i else Jr a i
def mix(a b m:Int):Int:=of8 (Z5H a b m)
theorem aiT{p q:Prop}:(p->q->p/\q)=True:=eq_true fun a b=> ⟨a,b⟩
mutual
def Z8:Edit->Nat
 | .mk _ o n w ks _ os=> 1+Zk o+Zk n+w.length+os.length+ZV ks+Zj os
def ZV:List (KidOf Edit)->Nat
 | []=> 0
 | k ::r=> Z0n k+ZV r
def Z0n:KidOf Edit->Nat
 | ⟨_,e⟩=> Z8 e
def Zj:List (OpOf Edit)->Nat
 | []=> 0
 | o ::r=> Zx o+Zj r
def Zx:OpOf Edit->Nat
 | ⟨_,_,l,e⟩=> Z9 l+Z8 e
end
mutual
def Z2T:Edit->Prop
 | .mk _ o n w ks _ os=> Z3K o/\Z3K n/\w.length<=17592186044416/\ks.length<=17592186044416/\os.length<=17592186044416/\Z4A ks/\Z4z os
def Z4A:List (KidOf Edit)->Prop
 | []=> True
 | k ::r=> Zh3 k/\Z4A r
def Zh3:KidOf Edit->Prop
 | ⟨_,e⟩=> Z2T e
def Z4z:List (OpOf Edit)->Prop
 | []=> True
 | o ::r=> ZkA o/\Z4z r
def ZkA:OpOf Edit->Prop
 | ⟨_,_,l,e⟩=> l.length<=17592186044416/\Z20 l/\Z2T e
end
def isW(n:Int):Prop:=0<=n/\n < 18446744073709551616
def ZeS(w:WEdit):Prop:=InR w.at_/\(0<=w.mask/\w.mask < 256)/\isW w.old/\isW w.new
mutual
def Yh:Edit->Prop
 | .mk k o n w ks l os=> InR k/\rng o/\rng n/\(∀ x∈w,ZeS x)/\InR l/\Z1Q ks/\Z0H os
def Z1Q:List (KidOf Edit)->Prop
 | []=> True
 | k ::r=> Z5P k/\Z1Q r
def Z5P:KidOf Edit->Prop
 | ⟨a,e⟩=> InR a/\Yh e
def Z0H:List (OpOf Edit)->Prop
 | []=> True
 | o ::r=> Z0I o/\Z0H r
def Z0I:OpOf Edit->Prop
 | ⟨k,n,l,e⟩=> InR k/\InR n/\ZR l/\Yh e
end
def sh1(t:Tree)(n:Int):Int:=if n < 0 then n else ZZ t 80 n
mutual
def Z1y:Edit->Int->Int->Int
 | .mk _ o nw w ks _ os,d,n=> if d=0\/n - 1 - w.length - os.length < 0 then -1 else Z0D os (d - 1) (Z0d ks (d - 1) (sh1 nw (ZZ o 80 (n - 1 - w.length - os.length))))
def Z0d:List (KidOf Edit)->Int->Int->Int
 | [],_,n=> n
 | k ::r,d,n=> if n < 0 then n else Z0d r d (Z7w k d n)
def Z7w:KidOf Edit->Int->Int->Int
 | ⟨_,e⟩,d,n=> Z1y e d n
def Z0D:List (OpOf Edit)->Int->Int->Int
 | [],_,n=> n
 | o ::r,d,n=> if n < 0 then n else Z0D r d (Zcu o d n)
def Zcu:OpOf Edit->Int->Int->Int
 | ⟨_,_,l,e⟩,d,n=> if Zw l 80 n < 0 then Zw l 80 n else Z1y e d (Zw l 80 n)
end
def Yz(t:Tree):Bool:=decide (t.kind=0/\t.words.length=0/\t.kids.length=0)
def Z2d(e:Edit):Bool:=decide (e.kind=0) && Yz e.old && Yz e.new && decide (e.words.length=0/\e.kids.length=0/\e.ops.length=0/\e.list=0)
def Yl(w m:Int):Bool:=decide (mix w 0 m=0)
def ZL(last:Int):List WEdit->Bool
 | []=> true
 | w ::r=> decide (last < w.at_/\w.at_<=65534/\w.mask≠0) && Yl w.old w.mask && Yl w.new w.mask && ZL w.at_ r
def Z2(o:Op):Int:=if o.kind=3 then 1 else o.n+o.l.length
def Z1D:List Op->Int->Int
 | [],n=> n
 | o ::r,n=> Z1D r (min (if o.kind=2 then n else n+Z2 o) 1048576)
def Z1C:List Op->Int->Int
 | [],n=> n
 | o ::r,n=> Z1C r (min (if o.kind=1 then n else n+Z2 o) 1048576)
def Z0l(list:Int):List Tree->Bool
 | []=> true
 | t ::r=> Zi (.mk list [] [t]) 64 && Z0l list r
def dT(d:Int):Int:=if d < 0 then -1 else 64
theorem Zxg{d:Int}(h:0<=d):dT d=64:=by unfold dT;omega
theorem ZcP{d:Int}(h:d < 0):dT d= -1:=by unfold dT;rw [if_pos h]
theorem Zxh(d:Int):dT d≠0:=by unfold dT;omega
def Y0(D list:Int):List Tree->Bool
 | []=> true
 | t ::r=> Zi (.mk list [] [t]) D && Y0 D list r
theorem Zds(list:Int):∀ l:List Tree,Y0 64 list l=Z0l list l
 | []=> rfl
 | t ::r=> by simp only [Y0,Z0l,Zds list r]
mutual
def Z4:Edit->Int->Bool
 | .mk k o n w ks l os,d=>
  if d=0\/k < 0\/3 < k then false
  else if (k≠1/\¬(Yz o=true/\Yz n=true))\/(k≠2/\¬(w.length=0/\ks.length=0))\/(k≠3/\(l≠0\/os.length≠0)) then false
  else if k=1 then Zi o (dT d) && Zi n (dT d) && decide (o.kind≠10/\n.kind≠10)
  else ZL (-1) w && Zs (-1) ks (d - 1) && decide (¬(k=3/\(l < 2\/9 < l))) && Zu l os (d - 1) && decide (Z1D os 0 < 1048576/\Z1C os 0 < 1048576)
def Zs(last:Int):List (KidOf Edit)->Int->Bool
 | [],_=> true
 | k ::r,d=> J5 last k d && Zs k.at_ r d
def J5(last:Int):KidOf Edit->Int->Bool
 | ⟨a,e⟩,d=> decide (last < a/\a<=65534/\e.kind≠0) && Z4 e d
def Zu(list:Int):List (OpOf Edit)->Int->Bool
 | [],_=> true
 | o ::r,d=> Zg list o d && Zu list r d
def Zg(list:Int):OpOf Edit->Int->Bool
 | ⟨k,n,l,e⟩,d=>
  if k=0 then decide (1<=n/\n<=1048576/\l.length=0) && Z2d e
  else if n≠0\/k < 0\/3 < k then false
  else if k < 3 then Y0 (dT d) list l && decide (0 < l.length) && Z2d e
  else decide (l.length=0/\e.kind≠0/\7 < list) && Z4 e d && decide (list=8\/e.kind=2\/e.kind=1/\e.old.kind=1/\e.new.kind=1)
end
mutual
def ctE:Edit->Nat
 | .mk _ o n w ks _ os=> 16+Zk o+Zk n+65600*w.length+Z26 ks+YH os
def Z26:List (KidOf Edit)->Nat
 | []=> 0
 | k ::r=> Z7V k+Z26 r
def Z7V:KidOf Edit->Nat
 | ⟨_,e⟩=> 65600+ctE e
def YH:List (OpOf Edit)->Nat
 | []=> 0
 | o ::r=> Z3d o+YH r
def Z3d:OpOf Edit->Nat
 | ⟨_,_,l,e⟩=> 16+Z9 l+ctE e
end
theorem Z4q(e:Edit):ctE e=16+Zk e.old+Zk e.new+65600*e.words.length+Z26 e.kids+YH e.ops:=by cases e;rfl
theorem Zim(k:Kid):Z7V k=65600+ctE k.e:=by cases k;rfl
theorem Z1W(o:Op):Z3d o=16+Z9 o.l+ctE o.e:=by cases o;rfl
theorem ZcS:∀ {ks:List Kid} {k:Kid},k∈ks->ctE k.e+65600<=Z26 ks
 | a ::r,k,h=> by
  rcases Q8.1 h with rfl | h
  .simp only [Z26,Zim];omega
  .have:=ZcS h;simp only [Z26];omega
theorem ZcR:∀ {os:List Op} {o:Op},o∈os->ctE o.e+Z9 o.l+16<=YH os
 | a ::r,o,h=> by
  rcases Q8.1 h with rfl | h
  .simp only [YH,Z1W];omega
  .have:=ZcR h;simp only [YH];omega
theorem ZhO(t:Tree):1<=Zk t:=by obtain ⟨k,w,ks⟩:=t;simp only [Zk];omega
mutual
theorem Zg0:∀ (e:Edit),Z8 e<=ctE e
 | .mk k o n w ks l os=> by
  have h:=Ze1 ks
  have b:os.length+Zj os<=YH os:=Z8u os
  simp only [Z8,ctE]
  omega
theorem Ze1:∀ (ks:List (KidOf Edit)),ZV ks<=Z26 ks
 | []=> Qb _
 | k ::r=> by
  have h:=Zjw k
  have b:=Ze1 r
  simp only [ZV,Z26]
  omega
theorem Zjw:∀ (k:KidOf Edit),Z0n k<=Z7V k
 | ⟨a,e⟩=> by
  have:=Zg0 e
  simp only [Z0n,Z7V]
  omega
theorem Z8u:∀ (os:List (OpOf Edit)),os.length+Zj os<=YH os
 | []=> Qb _
 | o ::r=> by
  have h:=ZnU o
  have b:=Z8u r
  simp only [Zj,YH,Qm]
  omega
theorem ZnU:∀ (o:OpOf Edit),Zx o+1<=Z3d o
 | ⟨k,n,l,e⟩=> by
  have:=Zg0 e
  simp only [Zx,Z3d]
  omega
end
mutual
theorem Z7U:∀ (e:Edit),ctE e+131100<=65600*Z8 e
 | .mk k o n w ks l os=> by
  have h:=Zem ks
  have b:=Zel os
  have:=ZhO o
  have:=ZhO n
  simp only [Z8,ctE]
  omega
theorem Zem:∀ (ks:List (KidOf Edit)),Z26 ks<=65600*ZV ks
 | []=> Qb _
 | k ::r=> by
  have h:=ZjZ k
  have b:=Zem r
  simp only [ZV,Z26]
  omega
theorem ZjZ:∀ (k:KidOf Edit),Z7V k<=65600*Z0n k
 | ⟨a,e⟩=> by
  have:=Z7U e
  simp only [Z0n,Z7V]
  omega
theorem Zel:∀ (os:List (OpOf Edit)),YH os<=65600*(os.length+Zj os)
 | []=> Qb _
 | o ::r=> by
  have h:=Zof o
  have b:=Zel r
  simp only [Zj,YH,Qm]
  omega
theorem Zof:∀ (o:OpOf Edit),Z3d o<=65600*(Zx o+1)
 | ⟨k,n,l,e⟩=> by
  have:=Z7U e
  simp only [Zx,Z3d]
  omega
end
mutual
def YO:Edit->Bool
 | .mk _ _ _ _ ks _ os=> decide (Z1D os 0<=2000/\Z1C os 0<=2000) && Z0Y ks && ZS os
def Z0Y:List (KidOf Edit)->Bool
 | []=> true
 | k ::r=> ZrH k && Z0Y r
def ZrH:KidOf Edit->Bool
 | ⟨_,e⟩=> YO e
def ZS:List (OpOf Edit)->Bool
 | []=> true
 | o ::r=> Zgc o && ZS r
def Zgc:OpOf Edit->Bool
 | ⟨_,_,_,e⟩=> YO e
end
def Z4j(e:Edit):Bool:=decide (0<=Z1y e 80 3000) && Z4 e 64 && YO e
end Go.AM
namespace Go.AM
open Go.ChangeShapes Go.WideShapes Go.RowKit
def inE(e:Edit):Prop:=Z2T e/\Yh e
def ZCp(k:Kid):Prop:=Zh3 k/\Z5P k
def inO(o:Op):Prop:=ZkA o/\Z0I o
theorem Zsf{ks:List Kid}(h:∀ k∈ks,ZCp k):Z4A ks/\Z1Q ks:=by
 induction ks with
 | nil=> trivial
 | cons t r ih=>
  have s:=h t (Q5 ..)
  have b:=ih fun x u=> h x (Q4 _ u)
  exact ⟨⟨s.1,b.1⟩,s.2,b.2⟩
theorem Zvl{os:List Op}(h:∀ o∈os,inO o):Z4z os/\Z0H os:=by
 induction os with
 | nil=> trivial
 | cons t r ih=>
  have s:=h t (Q5 ..)
  have b:=ih fun x u=> h x (Q4 _ u)
  exact ⟨⟨s.1,b.1⟩,s.2,b.2⟩
section
variable {P:Program} {cfg:Cfg U} {w:World} {H:Type} {henc:TypeId × Value->H}
structure EditTypes (cfg:Cfg U):Prop where
 wvar:∃ zs,cfg.var (cfg.elT .wedit)=some (true,zs)/\zs.length=4
 w0:∃ t n,cfg.fld (cfg.elT .wedit) 0=some (0,t)/\cfg.var t=some (false,[.int .i64 n])
 w1:∃ t n,cfg.fld (cfg.elT .wedit) 1=some (1,t)/\cfg.var t=some (false,[.int .u8 n])
 w2:∃ t n,cfg.fld (cfg.elT .wedit) 2=some (2,t)/\cfg.var t=some (false,[.int .u64 n])
 w3:∃ t n,cfg.fld (cfg.elT .wedit) 3=some (3,t)/\cfg.var t=some (false,[.int .u64 n])
 kvar:∃ zs,cfg.var (cfg.elT .kid)=some (true,zs)/\zs.length=12
 k0:∃ t n,cfg.fld (cfg.elT .kid) 0=some (0,t)/\cfg.var t=some (false,[.int .i64 n])
 k1:cfg.fld (cfg.elT .kid) 1=some (1,cfg.elT .edit)
 ovar:∃ zs,cfg.var (cfg.elT .op)=some (true,zs)/\zs.length=14
 o0:∃ t n,cfg.fld (cfg.elT .op) 0=some (0,t)/\cfg.var t=some (false,[.int .i64 n])
 o1:∃ t n,cfg.fld (cfg.elT .op) 1=some (1,t)/\cfg.var t=some (false,[.int .i64 n])
 o2:∃ t c,cfg.fld (cfg.elT .op) 2=some (2,t)/\cfg.var t=some (false,[c])/\cfg.slT t=some .tree
 o3:cfg.fld (cfg.elT .op) 3=some (3,cfg.elT .edit)
 evar:∃ zs,cfg.var (cfg.elT .edit)=some (true,zs)/\zs.length=11
 e0:∃ t n,cfg.fld (cfg.elT .edit) 0=some (0,t)/\cfg.var t=some (false,[.int .i64 n])
 e1:cfg.fld (cfg.elT .edit) 1=some (1,cfg.elT .tree)
 e2:cfg.fld (cfg.elT .edit) 2=some (4,cfg.elT .tree)
 e3:∃ t c,cfg.fld (cfg.elT .edit) 3=some (7,t)/\cfg.var t=some (false,[c])/\cfg.slT t=some .wedit
 e4:∃ t c,cfg.fld (cfg.elT .edit) 4=some (8,t)/\cfg.var t=some (false,[c])/\cfg.slT t=some .kid
 e5:∃ t n,cfg.fld (cfg.elT .edit) 5=some (9,t)/\cfg.var t=some (false,[.int .i64 n])
 e6:∃ t c,cfg.fld (cfg.elT .edit) 6=some (10,t)/\cfg.var t=some (false,[c])/\cfg.slT t=some .op
theorem Zq0(ok:CfgOk P cfg)(T:TreeTypes cfg)(E:EditTypes cfg)(n:Nat)(cs:List Value)(h:Rdd henc P w n (cfg.elT .wedit) cs):∃ e:WEdit,RelS cfg w.cell? cs (cfg.enc .wedit e)/\ZeS e:=by
 obtain ⟨zs,hz,u⟩:=E.wvar
 obtain ⟨t0,n0,f0,v0⟩:=E.w0
 obtain ⟨t1,n1,f1,v1⟩:=E.w1
 obtain ⟨t2,n2,f2,v2⟩:=E.w2
 obtain ⟨t3,n3,f3,v3⟩:=E.w3
 obtain ⟨m,rfl,hl,r0⟩:=Yd ok f0 v0 h
 obtain ⟨m',s,_,r1⟩:=Yd ok f1 v1 h
 cases s
 obtain ⟨m',s,_,r2⟩:=Yd ok f2 v2 h
 cases s
 obtain ⟨m',s,_,r3⟩:=Yd ok f3 v3 h
 cases s
 have aa:cs.length=4:=by rw [hl,Jf ok hz,u]
 obtain ⟨a,a1,a2,a3⟩:=JR ok v0 r0
 obtain ⟨b,b1,b2,b3⟩:=JR ok v1 r1
 obtain ⟨c,c1,c2,c3⟩:=JR ok v2 r2
 obtain ⟨d,d1,d2,d3⟩:=JR ok v3 r3
 have g:=a1.glue rfl (by simp;omega) (b1.glue rfl (by simp;omega) (c1.glue rfl (by simp;omega) (d1.glue rfl (by simp;omega) (RelS.done (n:=4) aa))))
 refine ⟨⟨a,b,c,d⟩,by rw [T.enc];exact g,⟨a2,a3⟩,⟨b2,?_⟩,⟨c2,?_⟩,d2,?_⟩
 .have:b<=255:=b3
  grind
 .have:c<=18446744073709551615:=c3
  grind
 .have:d<=18446744073709551615:=d3
  grind
theorem Zy9 (ok:CfgOk P cfg) (T:TreeTypes cfg) (E:EditTypes cfg) (n:Nat) (IH:∀ m,m < n->∀ cs,Rdd henc P w m (cfg.elT .edit) cs->∃ e:Edit,RelS cfg w.cell? cs (cfg.enc .edit e)/\inE e)
  (cs:List Value) (h:Rdd henc P w n (cfg.elT .kid) cs):∃ e:Kid,RelS cfg w.cell? cs (cfg.enc .kid e)/\ZCp e:=by
 obtain ⟨zs,hz,u⟩:=E.kvar
 obtain ⟨t0,n0,f0,v0⟩:=E.k0
 obtain ⟨ez,ab,s⟩:=E.evar
 obtain ⟨m,rfl,hl,r0⟩:=Yd ok f0 v0 h
 obtain ⟨m',e',_,r1⟩:=Yd ok E.k1 ab h
 cases e'
 have aa:cs.length=12:=by rw [hl,Jf ok hz,u]
 obtain ⟨a,a1,a2,a3⟩:=JR ok v0 r0
 obtain ⟨b,b1,b2⟩:=IH m V1 _ r1
 rw [s] at b1
 rw [T.enc] at b1
 have g:=a1.glue rfl (by simp;omega) (b1.glue rfl V1 (RelS.done (n:=12) aa))
 exact ⟨⟨a,b⟩,by rw [T.enc];exact g,b2.1,⟨a2,a3⟩,b2.2⟩
theorem ZC8 (ok:CfgOk P cfg) (T:TreeTypes cfg) (E:EditTypes cfg) (n:Nat) (IH:∀ m,m < n->∀ cs,Rdd henc P w m (cfg.elT .edit) cs->∃ e:Edit,RelS cfg w.cell? cs (cfg.enc .edit e)/\inE e)
  (cs:List Value) (h:Rdd henc P w n (cfg.elT .op) cs):∃ e:Op,RelS cfg w.cell? cs (cfg.enc .op e)/\inO e:=by
 obtain ⟨zs,hz,aa⟩:=E.ovar
 obtain ⟨t0,n0,f0,v0⟩:=E.o0
 obtain ⟨t1,n1,f1,v1⟩:=E.o1
 obtain ⟨t2,c2,f2,v2,s2⟩:=E.o2
 obtain ⟨ez,ae,s⟩:=E.evar
 obtain ⟨m,rfl,hl,r0⟩:=Yd ok f0 v0 h
 obtain ⟨m',u,_,r1⟩:=Yd ok f1 v1 h
 cases u
 obtain ⟨m',u,_,r2⟩:=Yd ok f2 v2 h
 cases u
 obtain ⟨m',u,_,r3⟩:=Yd ok E.o3 ae h
 cases u
 have ab:cs.length=14:=by rw [hl,Jf ok hz,aa]
 obtain ⟨a,a1,a2,a3⟩:=JR ok v0 r0
 obtain ⟨b,b1,b2,b3⟩:=JR ok v1 r1
 obtain ⟨c,c1,c2,c3⟩:=ZdL ok s2 (fun m _ cs h=> Zfl ok T m cs h) r2
 obtain ⟨d,d1,d2⟩:=IH m V1 _ r3
 rw [s] at d1
 rw [T.enc] at d1
 rw [T.bytes] at c2
 have hk:=Zx5 c3
 have g:=a1.glue rfl (by simp;omega) (b1.glue rfl (by simp;omega) (c1.glue rfl (by simp;omega) (d1.glue rfl V1 (RelS.done (n:=14) ab))))
 exact ⟨⟨a,b,c,d⟩,by rw [T.enc];exact g,⟨Z16 c2 V5,hk.1,d2.1⟩,⟨a2,a3⟩,⟨b2,b3⟩,hk.2,d2.2⟩
theorem Zu4(ok:CfgOk P cfg)(T:TreeTypes cfg)(E:EditTypes cfg):∀ (n:Nat) (cs:List Value),Rdd henc P w n (cfg.elT .edit) cs->∃ e:Edit,RelS cfg w.cell? cs (cfg.enc .edit e)/\inE e:=by
 intro n
 induction n using Nat.strongRecOn with
 | ind n IH=>
  intro cs h
  obtain ⟨zs,hz,ae⟩:=E.evar
  obtain ⟨t0,n0,f0,v0⟩:=E.e0
  obtain ⟨tz,u,aa⟩:=T.var
  obtain ⟨t3,c3,f3,v3,s3⟩:=E.e3
  obtain ⟨t4,c4,f4,v4,s4⟩:=E.e4
  obtain ⟨t5,n5,f5,v5⟩:=E.e5
  obtain ⟨t6,c6,f6,v6,s6⟩:=E.e6
  obtain ⟨m,rfl,hl,r0⟩:=Yd ok f0 v0 h
  obtain ⟨s,b,_,r1⟩:=Yd ok E.e1 u h
  cases b
  obtain ⟨s,b,_,r2⟩:=Yd ok E.e2 u h
  cases b
  obtain ⟨s,b,_,r3⟩:=Yd ok f3 v3 h
  cases b
  obtain ⟨s,b,_,r4⟩:=Yd ok f4 v4 h
  cases b
  obtain ⟨s,b,_,r5⟩:=Yd ok f5 v5 h
  cases b
  obtain ⟨s,b,_,r6⟩:=Yd ok f6 v6 h
  cases b
  have af:cs.length=11:=by rw [hl,Jf ok hz,ae]
  obtain ⟨k,a1,a2,a3⟩:=JR ok v0 r0
  obtain ⟨o,b1,b2⟩:=Zfl ok T _ _ r1
  obtain ⟨nw,d1,d2⟩:=Zfl ok T _ _ r2
  obtain ⟨ws,p1,p2,p3⟩:=ZdL ok s3 (fun m _ cs h=> Zq0 ok T E m cs h) r3
  obtain ⟨ks,q1,q2,q3⟩:=ZdL ok s4 (fun s hm cs h=> Zy9 ok T E s (fun m2 ab cs h=> IH m2 V1 cs h) cs h) r4
  obtain ⟨l,i1,i2,i3⟩:=JR ok v5 r5
  obtain ⟨os,j1,j2,j3⟩:=ZdL ok s6 (fun s hm cs h=> ZC8 ok T E s (fun m2 ab cs h=> IH m2 V1 cs h) cs h) r6
  rw [T.bytes] at p2 q2 j2
  rw [aa,T.enc] at b1 d1
  have hk:=Zsf q3
  have ho:=Zvl j3
  have g:=a1.glue rfl (by simp;omega) (b1.glue rfl V1 (d1.glue rfl V1 (p1.glue rfl (by simp;omega) (q1.glue rfl (by simp;omega) (i1.glue rfl (by simp;omega) (j1.glue rfl (by simp;omega) (RelS.done (n:=11) af)))))))
  refine ⟨.mk k o nw ws ks l os,by rw [T.enc];exact g,⟨b2.1,d2.1,Z16 p2 V5,Z16 q2 V5,Z16 j2 V5,hk.1,ho.1⟩,⟨a2,a3⟩,b2.2,d2.2,p3,⟨i2,i3⟩,hk.2,ho.2⟩
end
end Go.AM
namespace Go.AM
variable {P:Program} {cfg:Cfg U}
structure CellR (α:Type) where
 get:List (Tok × LC U)->C U->Option α
 can:α->C U
 canL:α->List (Tok × LC U)
 ok:∀ (cfg:Cfg U) L c a,get L c=some a->ZaE cfg c (can a)/\∀ y∈canL a,Zn (fun _=> none) L y.1=some y.2
theorem Zk3{a b:C U}(h:Wk a b):ZaE cfg a b:=fun g v s=> Z8R (cfg:=cfg) h g (fun _=> false) v s
def Yk(k:IntKind):CellR Int:=
 {get:=fun _ c=> match c with
   | .int k' n=> if k=k' then some n else none
   | _=> none
  can:=fun n=> .int k n
  canL:=fun _=> []
  ok:=by
   intro cfg L c a h
   refine ⟨?_,fun y hy=> by cases hy⟩
   split at h
   .split at h
    .rename_i hk;subst hk;cases h;exact fun _ _ h=> h
    .cases h
   .cases h }
def Z0N:CellR Bool:=
 {get:=fun _ c=> match c with
   | .bool b=> some b
   | _=> none
  can:=fun b=> .bool b
  canL:=fun _=> []
  ok:=by
   intro cfg L c a h
   refine ⟨?_,fun y hy=> by cases hy⟩
   split at h
   .cases h;exact fun _ _ h=> h
   .cases h }
def cSl(T:Ty):CellR (List (El T)):=
 {get:=fun _ c=> match rSl T [c] with
   | some (l,_)=> some l
   | none=> none
  can:=fun l=> sl T l
  canL:=fun _=> []
  ok:=by
   intro cfg L c a h
   refine ⟨?_,fun y hy=> by cases hy⟩
   split at h
   .rename_i l r hr
    cases h
    exact Zk3 (Zq6 hr)
   .cases h }
def Zkn(t:Tok)(k j:Nat):Bool:=
 match t with
 | .x k' j'=> Nat.beq k' k && Nat.beq j' j
 | _=> false
theorem Zpg{t:Tok}{k j:Nat}(h:Zkn t k j=true):t= .x k j:=by
 unfold Zkn at h
 split at h
 .rw [Q1] at h
  rw [Q6 h.1,Q6 h.2]
 .cases h
def Z2D(T:Ty)(k j:Nat):CellR (List (El T)):=
 {get:=fun _ c=> match c with
   | .nils=> some []
   | .slice S l .full=> if h:S=T then some (h▸l) else none
   | .slice S l (.own t)=> if h:S=T then (bif Zkn t k j then some (h▸l) else none) else none
   | _=> none
  can:=fun l=> .slice (U:=U) T l (.own (.x k j))
  canL:=fun _=> []
  ok:=by
   intro cfg L c a h
   refine ⟨?_,fun y hy=> by cases hy⟩
   split at h
   .cases h
    intro g v hr
    have h1:=hr.1
    cases h1
    exact ⟨SimC.snil (cfg:=cfg) (U:=U) T _,fun _ b len cap hv=> by cases hv⟩
   .split at h
    .rename_i hT
     subst hT
     cases h
     intro g v hr
     refine ⟨hr.1.tl _,fun _ b len cap hv i h3 h4=> ?_⟩
     have:=hr.2 _ _ _ hv
     grind
    .cases h
   .split at h
    .rename_i hT
     subst hT
     rename_i t
     cases ht:Zkn t k j with
     | false=> grind
     | true=>
      rw [ht] at h
      have:=Zpg ht
      subst this
      cases h
      exact fun _ _ hr=> hr
    .cases h
   .cases h }
def cXp(k:Nat):CellR Unit:=
 {get:=fun _ c=> match c with
   | .xp k'=> bif Nat.beq k' k then some () else none
   | _=> none
  can:=fun _=> .xp k
  canL:=fun _=> []
  ok:=by
   intro cfg L c a h
   refine ⟨?_,fun y hy=> by cases hy⟩
   split at h
   .rename_i k'
    cases hk:Nat.beq k' k with
    | false=> grind
    | true=> rw [Q6 hk];exact fun _ _ h=> h
   .cases h }
def cWt(T:Ty)(n:Tok):CellR (List (El T)):=
 {get:=fun L c=> match c with
   | .mref t=> if t=n then match Zn (fun _=> none) L t with
    | some x=> if h:x.T=T/\x.f=0 then some (h.1▸x.l) else none
    | none=> none
    else none
   | _=> none
  can:=fun _=> .mref n
  canL:=fun l=> [(n,LC.mk (U:=U) T l 0)]
  ok:=by
   intro cfg L c a h
   split at h
   .rename_i t
    split at h
    .rename_i ht
     subst ht
     split at h
     .rename_i x hx
      split at h
      .rename_i hT
       obtain ⟨T',l,f⟩:=x
       obtain ⟨hT1,hT2⟩:=hT
       simp only at hT1 hT2
       subst hT1 hT2
       cases h
       refine ⟨fun _ _ hr=> hr,fun y hy=> ?_⟩
       grind
      .cases h
     .cases h
    .cases h
   .cases h }
def cWr(T:Ty)(k j:Nat):CellR (List (El T)):=cWt T (.x k j)
structure ObjL (α:Type) where
 get:List (Tok × LC U)->List (C U)->Option α
 can:α->List (C U)
 canL:α->List (Tok × LC U)
 ok:∀ (cfg:Cfg U) L cs a,get L cs=some a->(∀ y∈canL a,Zn (fun _=> none) L y.1=some y.2)/\cs.length=(can a).length/\∀ (j:Nat) c c',cs[j]?=some c->(can a)[j]?=some c'->ZaE cfg c c'
def ObjL.nil:ObjL Unit:=
 {get:=fun _ cs=> match cs with
   | []=> some ()
   | _ ::_=> none
  can:=fun _=> []
  canL:=fun _=> []
  ok:=by
   grind }
def ObjL.cons{α β:Type}(A:CellR α)(B:ObjL β):ObjL (α × β):=
 {get:=fun L cs=> match cs with
   | c ::r=> match A.get L c with
    | some a=> match B.get L r with
     | some b=> some (a,b)
     | none=> none
    | none=> none
   | []=> none
  can:=fun p=> A.can p.1 ::B.can p.2
  canL:=fun p=> A.canL p.1++B.canL p.2
  ok:=by
   intro cfg L cs p h
   cases cs with
   | nil=> cases h
   | cons c r=>
    simp only at h
    split at h
    .rename_i a ha
     split at h
     .rename_i b hb
      cases h
      obtain ⟨h0,h1,h2⟩:=B.ok cfg L r b hb
      obtain ⟨h3,h4⟩:=A.ok cfg L c a ha
      grind
     .cases h
    .cases h }
structure ArgM (α:Type) where
 get:List (Tok × LC U)->List (V U)->List (List (C U))->Option α
 can:α->List (V U)
 canX:α->List (List (C U))
 canL:α->List (Tok × LC U)
 ok:∀ cfg:Cfg U,cfg.enc=enc->∀ L xs X a,get L xs X=some a->BetterAll cfg xs (can a) X (canX a)/\∀ y∈canL a,Zn (fun _=> none) L y.1=some y.2
def ArgM.nil:ArgM Unit:=
 {get:=fun _ xs X=> match xs,X with
   | [],[]=> some ()
   | _,_=> none
  can:=fun _=> []
  canX:=fun _=> []
  canL:=fun _=> []
  ok:=by
   intro cfg _ L xs X a h
   split at h
   .exact ⟨BetterAll.refl [] [],fun y hy=> by cases hy⟩
   .cases h }
def ArgM.cons{α β:Type}(A:Arg α)(B:ArgM β):ArgM (α × β):=
 {get:=fun L xs X=> match xs with
   | x ::r=> match A.get x with
    | some a=> match B.get L r X with
     | some b=> some (a,b)
     | none=> none
    | none=> none
   | []=> none
  can:=fun p=> A.can p.1 ::B.can p.2
  canX:=fun p=> B.canX p.2
  canL:=fun p=> B.canL p.2
  ok:=by
   intro cfg hc L xs X p h
   cases xs with
   | nil=> cases h
   | cons x r=>
    simp only at h
    split at h
    .rename_i a ha
     split at h
     .rename_i b hb
      cases h
      obtain ⟨hB,hBL⟩:=B.ok cfg hc L r X b hb
      refine ⟨?_,hBL⟩
      refine ⟨by simp [hB.len],fun j x' y hx hy=> ?_,hB.xlen,hB.xl,hB.x⟩
      cases j with
      | zero=> simp at hx hy;subst hx hy;exact A.ok cfg hc x a ha
      | succ j=> exact hB.args j x' y (by simpa using hx) (by simpa using hy)
     .cases h
    .cases h }
def isX(k o:Nat):V U->Bool
 | .ptr (.x k') off=> Nat.beq k k' && Nat.beq off o
 | _=> false
theorem Zzd{k o:Nat}{v:V U}(h:isX k o v=true):v= .ptr (.x k) o:=by
 unfold isX at h
 split at h
 .rw [Q1] at h
  rw [Q6 h.1,Q6 h.2]
 .cases h
def ArgM.lst{α β:Type}(A:CellR α)(B:ArgM β):ArgM (α × β):=
 {get:=fun L xs X=> match xs with
   | .c x ::r=> match A.get L x with
    | some a=> match B.get L r X with
     | some b=> some (a,b)
     | none=> none
    | none=> none
   | _=> none
  can:=fun p=> .c (A.can p.1) ::B.can p.2
  canX:=fun p=> B.canX p.2
  canL:=fun p=> A.canL p.1++B.canL p.2
  ok:=by
   intro cfg hc L xs X p h
   split at h
   .rename_i x r
    split at h
    .rename_i a ha
     split at h
     .rename_i b hb
      cases h
      obtain ⟨hB,hBL⟩:=B.ok cfg hc L r X b hb
      obtain ⟨hA,hAL⟩:=A.ok cfg L x a ha
      refine ⟨⟨by simp [hB.len],fun j x' y hx hy=> ?_,hB.xlen,hB.xl,hB.x⟩,fun y hy=> (Qc.1 hy).elim (hAL y) (hBL y)⟩
      cases j with
      | zero=> simp at hx hy;subst hx hy;exact fun g live v hr=> hA g v hr
      | succ j=> exact hB.args j x' y (by simpa using hx) (by simpa using hy)
     .cases h
    .cases h
   .cases h }
def ArgM.agg{α β:Type}(A:ObjL α)(B:ArgM β):ArgM (α × β):=
 {get:=fun L xs X=> match xs with
   | .agg x ::r=> match A.get L x with
    | some a=> match B.get L r X with
     | some b=> some (a,b)
     | none=> none
    | none=> none
   | _=> none
  can:=fun p=> .agg (A.can p.1) ::B.can p.2
  canX:=fun p=> B.canX p.2
  canL:=fun p=> A.canL p.1++B.canL p.2
  ok:=by
   intro cfg hc L xs X p h
   split at h
   .rename_i x r
    split at h
    .rename_i a ha
     split at h
     .rename_i b hb
      cases h
      obtain ⟨hB,hBL⟩:=B.ok cfg hc L r X b hb
      obtain ⟨hAL,hl,hA⟩:=A.ok cfg L x a ha
      refine ⟨⟨by simp [hB.len],fun j x' y hx hy=> ?_,hB.xlen,hB.xl,hB.x⟩,fun y hy=> (Qc.1 hy).elim (hAL y) (hBL y)⟩
      cases j with
      | zero=>
       simp at hx hy
       subst hx hy
       rintro g live v ⟨vs,h1,h2,h3⟩
       refine ⟨vs,h1,by rw [h2,hl],fun j u c' hu hc'=> ?_⟩
       have hj:j < x.length:=by have:=(Q2.1 hc').1;omega
       exact hA j _ c' (Q0 hj) hc' g u (h3 j u _ hu (Q0 hj))
      | succ j=> exact hB.args j x' y (by simpa using hx) (by simpa using hy)
     .cases h
    .cases h
   .cases h }
def ArgM.hid{α β:Type}(A:ObjL α)(B:ArgM β):ArgM (α × β):=
 {get:=fun L xs X=> match X with
   | cs ::X'=> match A.get L cs with
    | some a=> match B.get L xs X' with
     | some b=> some (a,b)
     | none=> none
    | none=> none
   | []=> none
  can:=fun p=> B.can p.2
  canX:=fun p=> A.can p.1 ::B.canX p.2
  canL:=fun p=> A.canL p.1++B.canL p.2
  ok:=by
   intro cfg hc L xs X p h
   cases X with
   | nil=> cases h
   | cons cs X'=>
    simp only at h
    split at h
    .rename_i a ha
     split at h
     .rename_i b hb
      cases h
      obtain ⟨hB,hBL⟩:=B.ok cfg hc L xs X' b hb
      obtain ⟨hAL,hA⟩:=A.ok cfg L cs a ha
      refine ⟨?_,fun y hy=> (Qc.1 hy).elim (hAL y) (hBL y)⟩
      refine ⟨hB.len,hB.args,by simp [hB.xlen],fun j x' y hx hy=> ?_,fun j x' y hx hy i c c' hcc hc'=> ?_⟩
      .cases j with
       | zero=> grind
       | succ j=> exact hB.xl j x' y (by simpa using hx) (by simpa using hy)
      .cases j with
       | zero=>
        grind
       | succ j=> exact hB.x j x' y (by simpa using hx) (by simpa using hy) i c c' hcc hc'
     .cases h
    .cases h }
def ArgM.objAt{α β:Type}(k o:Nat)(A:ObjL α)(B:ArgM β):ArgM (α × β):=
 {get:=fun L xs X=> match xs,X with
   | x ::r,cs ::X'=> bif isX k o x then match A.get L cs with
    | some a=> match B.get L r X' with
     | some b=> some (a,b)
     | none=> none
    | none=> none
    else none
   | _,_=> none
  can:=fun p=> .ptr (.x k) o ::B.can p.2
  canX:=fun p=> A.can p.1 ::B.canX p.2
  canL:=fun p=> A.canL p.1++B.canL p.2
  ok:=by
   intro cfg hc L xs X p h
   split at h
   .rename_i x r cs X'
    cases hx:isX k o x with
    | false=> grind
    | true=>
     rw [hx] at h
     simp only [cond_true] at h
     have ex:=Zzd hx
     subst ex
     split at h
     .rename_i a ha
      split at h
      .rename_i b hb
       cases h
       obtain ⟨hB,hBL⟩:=B.ok cfg hc L r X' b hb
       obtain ⟨hAL,hA⟩:=A.ok cfg L cs a ha
       refine ⟨?_,fun y hy=> (Qc.1 hy).elim (hAL y) (hBL y)⟩
       refine ⟨by simp [hB.len],fun j x' y hx hy=> ?_,by simp [hB.xlen],fun j x' y hx hy=> ?_,fun j x' y hx hy i c c' hcc hc'=> ?_⟩
       .cases j with
        | zero=> simp at hx hy;subst hx hy;exact fun _ _ _ h=> h
        | succ j=> exact hB.args j x' y (by simpa using hx) (by simpa using hy)
       .cases j with
        | zero=> simp at hx hy;subst hx hy;exact hA.1
        | succ j=> exact hB.xl j x' y (by simpa using hx) (by simpa using hy)
       .cases j with
        | zero=>
         simp at hx hy
         subst hx hy
         exact hA.2 i c c' hcc hc'
        | succ j=> exact hB.x j x' y (by simpa using hx) (by simpa using hy) i c c' hcc hc'
      .cases h
     .cases h
   .cases h }
def ArgM.obj{α β:Type}(k:Nat)(A:ObjL α)(B:ArgM β):ArgM (α × β):=ArgM.objAt k 0 A B
def ArgM.clo{α β:Type}(f:FuncId)(k:Nat)(A:ObjL α)(B:ArgM β):ArgM (α × β):=
 {get:=fun L xs X=> match xs,X with
   | .clo g [.x k'] ::r,cs ::X'=> bif Nat.beq g f && Nat.beq k' k then match A.get L cs with
    | some a=> match B.get L r X' with
     | some b=> some (a,b)
     | none=> none
    | none=> none
    else none
   | _,_=> none
  can:=fun p=> .clo f [.x k] ::B.can p.2
  canX:=fun p=> A.can p.1 ::B.canX p.2
  canL:=fun p=> A.canL p.1++B.canL p.2
  ok:=by
   intro cfg hc L xs X p h
   split at h
   .rename_i g k' r cs X'
    cases hx:(Nat.beq g f && Nat.beq k' k) with
    | false=> grind
    | true=>
     rw [hx] at h
     simp only [cond_true] at h
     rw [Q1] at hx
     have e1:=Q6 hx.1
     have e2:=Q6 hx.2
     subst e1 e2
     split at h
     .rename_i a ha
      split at h
      .rename_i b hb
       cases h
       obtain ⟨hB,hBL⟩:=B.ok cfg hc L r X' b hb
       obtain ⟨hAL,hA⟩:=A.ok cfg L cs a ha
       refine ⟨?_,fun y hy=> (Qc.1 hy).elim (hAL y) (hBL y)⟩
       refine ⟨by simp [hB.len],fun j x' y hx hy=> ?_,by simp [hB.xlen],fun j x' y hx hy=> ?_,fun j x' y hx hy i c c' hcc hc'=> ?_⟩
       .cases j with
        | zero=> simp at hx hy;subst hx hy;exact fun _ _ _ h=> h
        | succ j=> exact hB.args j x' y (by simpa using hx) (by simpa using hy)
       .cases j with
        | zero=> simp at hx hy;subst hx hy;exact hA.1
        | succ j=> exact hB.xl j x' y (by simpa using hx) (by simpa using hy)
       .cases j with
        | zero=>
         simp at hx hy
         subst hx hy
         exact hA.2 i c c' hcc hc'
        | succ j=> exact hB.x j x' y (by simpa using hx) (by simpa using hy) i c c' hcc hc'
      .cases h
     .cases h
   .cases h }
def fsX{α:Type}(A:ArgM α)(pre:α->List Prop)(res:α->V U)(resX:α->List (List (C U))):Fs U:=
 {fn:=fun xs X=> match A.get [] xs X with
   | some a=> some (pre a,res a,resX a)
   | none=> none }
theorem JX {Γ:Known U} {α:Type} {A:ArgM α} {pre:α->List Prop} {res:α->V U} {resX:α->List (List (C U))} (ok:CfgOk P cfg) (henc:cfg.enc=enc) (hΓ:∀ f s,Γ f=some s->Contract P cfg f s) {f:FuncId} {fn:Func} (lv:Z6 U)
  (hf : P.funcs[f]? = some fn) (hb : fn.body = some (cd fn [])) (hname : (fn.name == "runtime.NumGoroutine") = false) (hn : ∀ a, (A.can a).length ≤ fn.ntmps)
  (hbody:∀ a,All (pre a)->awp cfg Γ (YF cfg Γ) fn.ntmps lv (cd fn []) (Zb (A.can a) (A.canX a)) (ZK cfg fn.ntmps fn.results.toList (res a) (resX a))):Contract P cfg f (fsX A pre res resX):=by
 refine Z9F ok hΓ (Ji ok hΓ) lv hf hb hname ?_
 intro args X ps r X' b u
 unfold fsX at b
 simp only at b
 split at b
 .rename_i a ha
  cases b
  exact ⟨A.can a,A.canX a,(A.ok cfg henc [] args X a ha).1,hn a,hbody a u⟩
 .cases b
theorem Zl {l:List (FuncId × Fs U)} {α:Type} {A:ArgM α} {pre:α->Prop} {res:α->V U} {resX:α->List (List (C U))} (ok:CfgOk P cfg) (henc:cfg.enc=enc) (hl:Z1A P cfg l) {f:FuncId} {fn:Func} (lv:Z6 U)
  (hf : P.funcs[f]? = some fn) (hb : fn.body = some (cd fn [])) (hname : (fn.name == "runtime.NumGoroutine") = false) (n : Nat) (hn : ∀ a, (A.can a).length = n) (hn' : n ≤ fn.ntmps)
  (hbody:∀ a,pre a->awp cfg (Z1 l) (YF cfg (Z1 l)) fn.ntmps lv (cd fn []) (Zb (A.can a) (A.canX a)) (ZK cfg fn.ntmps fn.results.toList (res a) (resX a))):Contract P cfg f (fsX A (fun a=> [pre a]) res resX):=
 JX ok henc (YP hl) lv hf hb hname (fun a=> by grind) (fun a h=> hbody a h.1)
def Zzf{α:Type}(A:ArgM α)(pre:α->List Prop)(resX:α->List (List (C U)))(cs:α->List (C U)):Fs U:=
 {obj:=true
  fn:=fun xs X=> match A.get [] xs X with
   | some a=> some (pre a,.ptr (.x (resX a).length) 0,resX a++[cs a])
   | none=> none }
theorem Z9S {l:List (FuncId × Fs U)} {α:Type} {A:ArgM α} {pre:α->Prop} {resX:α->List (List (C U))} {cs:α->List (C U)} (ok:CfgOk P cfg) (henc:cfg.enc=enc) (hl:Z1A P cfg l) {f:FuncId} {fn:Func} (lv:Z6 U)
  (hf : P.funcs[f]? = some fn) (hb : fn.body = some (cd fn [])) (hname : (fn.name == "runtime.NumGoroutine") = false) (n : Nat) (hn : ∀ a, (A.can a).length = n) (hn' : n ≤ fn.ntmps)
  (hbody:∀ a,pre a->awp cfg (Z1 l) (YF cfg (Z1 l)) fn.ntmps lv (cd fn []) (Zb (A.can a) (A.canX a)) (Z8U cfg fn.ntmps fn.results.toList (resX a) (cs a))):Contract P cfg f (Zzf A (fun a=> [pre a]) resX cs):=by
 refine Z7W (Γ:=Z1 l) ok (YP hl) (Ji ok (YP hl)) lv hf hb hname ?_
 intro args X u r X' b h
 unfold Zzf at b
 simp only at b
 split at b
 .rename_i a s
  cases b
  exact ⟨A.can a,A.canX a,resX a,cs a,rfl,rfl,(A.ok cfg henc [] args X a s).1,by rw [hn];exact hn',hbody a h.1⟩
 .cases b
theorem Z7Q {α : Type} {A : ArgM α} {pre : α → Prop} {μ : α → Nat} {res : α → V U} {resX : α → List (List (C U))} {f : FuncId} (h0 : ∃ fn, P.funcs[f]? = some fn ∧ fn.body.isSome = true ∧ (fn.name == "runtime.NumGoroutine") = false) :
  Contract P cfg f (fsX A (fun a=> [pre a,μ a < 0]) res resX):=by
 refine YJ h0 rfl ?_
 intro args X s r X' b h
 unfold fsX at b
 simp only at b
 split at b
 .cases b;exact absurd h.2.1 (Nat.not_lt_zero _)
 .cases b
theorem Z7R {α : Type} {A : ArgM α} {pre : α → Prop} {μ : α → Nat} {res : α → V U} {resX : α → List (List (C U))} {f : FuncId} (h0 : ∃ fn, P.funcs[f]? = some fn ∧ fn.body.isSome = true ∧ (fn.name == "runtime.NumGoroutine") = false)
  (key:∀ N,Contract P cfg f (fsX A (fun a=> [pre a,μ a < N]) res resX)):Contract P cfg f (fsX A (fun a=> [pre a]) res resX):=by
 refine YJ h0 rfl ?_
 intro args X ps r X' b h s w g vs E
 unfold fsX at b
 simp only at b
 split at b
 .rename_i a u
  cases b
  exact (key (μ a+1)).one rfl args X [pre a,μ a < μ a+1] _ _ (by simp only [fsX,u]) ⟨h.1,K2 _,trivial⟩ s w g vs E
 .cases b
def Zdf{α:Type}(A:ArgM α)(pre:α->List Prop)(res:α->V U)(resX:α->List (List (C U)))(resL:α->List (Tok × LC U)):Fs U:=
 {wr:=true
  mkl:=true
  fn:=fun _ _=> none
  fn2:=fun xs X L=> match A.get L xs X with
   | some a=> some (pre a,res a,resX a,resL a)
   | none=> none }
theorem Z7p:∀ {L:List (Tok × LC U)} {t:Tok} {x:LC U},Zn (fun _=> none) L t=some x->(t,x)∈L
 | [],t,x,h=> by trivial
 | (a,y) ::L,t,x,h=> by
  simp only [Zn] at h
  split at h
  .grind
  .exact Q4 _ (Z7p h)
theorem Zdj {Γ:Known U} {α:Type} {A:ArgM α} {pre:α->List Prop} {res:α->V U} {resX:α->List (List (C U))} {resL:α->List (Tok × LC U)} (ok:CfgOk P cfg) (henc:cfg.enc=enc) (hΓ:∀ f s,Γ f=some s->Contract P cfg f s) {f:FuncId} {fn:Func} (lv:Z6 U)
  (hf : P.funcs[f]? = some fn) (hb : fn.body = some (cd fn [])) (hname : (fn.name == "runtime.NumGoroutine") = false) (hn : ∀ a, (A.can a).length ≤ fn.ntmps)
  (hbody:∀ a,All (pre a)->awp cfg Γ (YF cfg Γ) fn.ntmps lv (cd fn []) (Jc (A.can a) (A.canX a) (A.canL a)) (JG cfg fn.ntmps fn.results.toList (res a) (resX a) (resL a))):Contract P cfg f (Zdf A pre res resX resL):=by
 refine Z3e ok hΓ (Ji ok hΓ) lv hf hb hname ?_
 intro args X L ps r X' L' b u
 unfold Zdf at b
 simp only at b
 split at b
 .rename_i a ha
  cases b
  obtain ⟨h1,h2⟩:=A.ok cfg henc L args X a ha
  exact ⟨A.can a,A.canX a,A.canL a,h1,fun t x hx=> h2 _ (Z7p hx),hn a,hbody a u⟩
 .cases b
theorem Ya {l:List (FuncId × Fs U)} {α:Type} {A:ArgM α} {pre:α->Prop} {res:α->V U} {resX:α->List (List (C U))} {resL:α->List (Tok × LC U)} (ok:CfgOk P cfg) (henc:cfg.enc=enc) (hl:Z1A P cfg l) {f:FuncId} {fn:Func} (lv:Z6 U)
  (hf : P.funcs[f]? = some fn) (hb : fn.body = some (cd fn [])) (hname : (fn.name == "runtime.NumGoroutine") = false) (n : Nat) (hn : ∀ a, (A.can a).length = n) (hn' : n ≤ fn.ntmps)
  (hbody:∀ a,pre a->awp cfg (Z1 l) (YF cfg (Z1 l)) fn.ntmps lv (cd fn []) (Jc (A.can a) (A.canX a) (A.canL a)) (JG cfg fn.ntmps fn.results.toList (res a) (resX a) (resL a))):Contract P cfg f (Zdf A (fun a=> [pre a]) res resX resL):=
 Zdj (Γ:=Z1 l) ok henc (YP hl) lv hf hb hname (fun a=> by grind) (fun a h=> hbody a h.1)
def Fs.passing(s:Fs U)(p:List Nat):Fs U:={ s with pass:=fun i=> p.contains i }
theorem Contract.passing{f:FuncId}{s:Fs U}{p:List Nat}(h:Contract P cfg f s):Contract P cfg f (s.passing p):=h
def fsL{α:Type}(A:ArgL α)(pre:α->List Prop)(T:Ty)(res:α->List (El T)):Fs U:=
 {mkl:=true
  fn:=fun _ _=> none
  fn2:=fun xs X L=> match X,L with
   | [],[]=> match A.get xs with
    | some a=> some (pre a,.c (.mref (.r 0 0)),[],[(.r 0 0,LC.mk (U:=U) T (res a) 0)])
    | none=> none
   | _,_=> none }
theorem JY {l:List (FuncId × Fs U)} {α:Type} {A:ArgL α} {pre:α->Prop} {T:Ty} {res:α->List (El T)} (ok:CfgOk P cfg) (henc:cfg.enc=enc) (hl:Z1A P cfg l) {f:FuncId} {fn:Func} (lv:Z6 U)
  (hf : P.funcs[f]? = some fn) (hb : fn.body = some (cd fn [])) (hname : (fn.name == "runtime.NumGoroutine") = false) (n : Nat) (hn : ∀ a, (A.can a).length = n) (hn' : n ≤ fn.ntmps)
  (hbody:∀ a,pre a->awp cfg (Z1z l) (YF cfg (Z1z l)) fn.ntmps lv (cd fn []) (Zb (A.can a) []) (JG cfg fn.ntmps fn.results.toList (.c (.mref (.r 0 0))) [] [(.r 0 0,LC.mk (U:=U) T (res a) 0)])):Contract P cfg f (fsL A (fun a=> [pre a]) T res):=by
 have kn:∀ f s,(Z1z l) f=some s->Contract P cfg f s:=YP hl
 refine Z3e ok kn (Ji ok kn) lv hf hb hname ?_
 intro args X L ps r X' L' b u
 unfold fsL at b
 simp only at b
 split at b
 .split at b
  .rename_i a ha
   cases b
   obtain ⟨h1,h2⟩:=A.ok cfg henc args a ha
   exact ⟨A.can a,[],[],⟨h1,h2,rfl,fun k x y h=> by simp at h,fun k x y h=> by simp at h⟩,fun t x h=> h,by grind,hbody a u.1⟩
  .cases b
 .cases b
def Zo7(s s':Fs U):Fs U:=
 {wr:=s.wr
  mkl:=s.mkl
  obj:=s.obj || s'.obj
  fn:=fun _ _=> none
  fn2:=fun xs X L=> match s.fn2 xs X L with
   | some r=> some r
   | none=> s'.fn2 xs X L }
theorem Z1X{f:FuncId}{s s':Fs U}(h:Contract P cfg f s)(h':Contract P cfg f s'):Contract P cfg f (Zo7 s s'):=by
 refine ⟨h.1,fun args X L ps r X' L' u b hX w g vs E=> ?_⟩
 simp only [Zo7] at u
 split at u
 .rename_i r0 h0
  cases u
  exact h.2 args X L ps r X' L' h0 b hX w g vs E
 .exact h'.2 args X L ps r X' L' u b hX w g vs E
def Fs.lend(s:Fs U):Fs U:={ s with bor:=true }
theorem Contract.lend{f:FuncId}{s:Fs U}(h:Contract P cfg f s):Contract P cfg f s.lend:=h
end Go.AM
namespace Go.AM
def aFn(f:FuncId):Arg Unit:=
 {get:=fun v=> match v with
   | .fn g=> if Nat.beq g f then some () else none
   | _=> none
  can:=fun _=> .fn f
  ok:=by
   intro cfg _ v a h
   split at h
   .split at h
    .rename_i hb
     rw [Q6 hb]
     exact fun _ _ _ h=> h
    .cases h
   .cases h }
end Go.AM
namespace Go.AM.YtpjenobkibfpcaaGreat
open Go.AM Go.Proofs
def el:Ty->TypeId
 | .u64=> 101
 | .u8=> 5
 | .int=> 3
 | .tree=> 25
 | .wedit=> 113
 | .edit=> 30
 | .kid=> 115
 | .op=> 103
 | .piece=> 173
 | .unit=> 200
 | .pair=> 202
 | .left=> 110
 | .deed=> 56
 | .hdeed=> 82
def tb:Tables U:=
 {el:=el
  sl:=[(22,.u64),(23,.tree),(26,.wedit),(27,.kid),(28,.op),(39,.edit),(50,.deed),(78,.hdeed),(166,.piece),(182,.int),(188,.pair),(191,.unit),(221,.u8)]
  var:=[(2,false,[.int .i64 0]),
   (3,false,[.int .i64 0]),
   (4,false,[.bool false]),
   (5,false,[.int .u8 0]),
   (6,false,[.int .u8 0]),
   (7,true,[.int .i64 0,.int .i64 0,.bool false,.int .u8 0]),
   (8,true,[.int .i64 0,.int .i64 0,.bool false,.int .u8 0]),
   (12,false,[.int .u64 0]),
   (15,false,[.nilp]),
   (16,false,[.nilp]),
   (17,false,[.nilp]),
   (18,true,[.nilp]),
   (19,true,[.nilp]),
   (21,false,[.int .i32 0]),
   (22,false,[.nils]),
   (23,false,[.nils]),
   (24,true,[.int .i64 0,.nils,.nils]),
   (25,true,[.int .i64 0,.nils,.nils]),
   (26,false,[.nils]),
   (27,false,[.nils]),
   (28,false,[.nils]),
   (29,true,[.int .i64 0,.int .i64 0,.nils,.nils,.int .i64 0,.nils,.nils,.nils,.nils,.int .i64 0,.nils]),
   (30,true,[.int .i64 0,.int .i64 0,.nils,.nils,.int .i64 0,.nils,.nils,.nils,.nils,.int .i64 0,.nils]),
   (33,false,[.int .i64 0]),
   (39,false,[.nils]),
   (50,false,[.nils]),
   (52,false,[.nilp]),
   (55,true,[.int .i64 0,.int .i64 0,.int .i64 0,.int .i64 0,.nils,.nils,.int .i64 0,.nils,.nils,.nils,.nils,.int .i64 0,.nils]),
   (56,true,[.int .i64 0,.int .i64 0,.int .i64 0,.int .i64 0,.nils,.nils,.int .i64 0,.nils,.nils,.nils,.nils,.int .i64 0,.nils]),
   (62,false,[.nilp]),
   (64,true,[.int .i64 0,.nils,.nils,.int .i64 0,.nils,.nils,.nils,.nils]),
   (65,true,[.int .i64 0,.nils,.nils,.int .i64 0,.nils,.nils,.nils,.nils]),
   (71,false,[.nilp]),
   (78,false,[.nils]),
   (79,false,[.nilp]),
   (81,true,[.int .i64 0,.int .i64 0,.int .i64 0,.int .i64 0,.int .i64 0,.nils,.nils,.int .i64 0,.nils,.nils,.nils,.nils,.int .i64 0,.nils]),
   (82,true,[.int .i64 0,.int .i64 0,.int .i64 0,.int .i64 0,.int .i64 0,.nils,.nils,.int .i64 0,.nils,.nils,.nils,.nils,.int .i64 0,.nils]),
   (85,false,[.nilp]),
   (86,true,[.nilp,.nilp,.nilp,.nilp]),
   (87,false,[.nilp]),
   (88,false,[.nilp]),
   (89,true,[.nilp,.nilp,.nilp,.nilp]),
   (90,true,[.nilp,.nilp,.nilp,.nilp,.nilp,.nilp,.nilp,.nilp,.nilp,.nilp]),
   (91,true,[.nilp,.nilp,.nilp,.nilp,.nilp,.nilp,.nilp,.nilp,.nilp,.nilp]),
   (101,false,[.int .u64 0]),
   (102,true,[.int .i64 0,.int .i64 0,.nils,.int .i64 0,.int .i64 0,.nils,.nils,.int .i64 0,.nils,.nils,.nils,.nils,.int .i64 0,.nils]),
   (103,true,[.int .i64 0,.int .i64 0,.nils,.int .i64 0,.int .i64 0,.nils,.nils,.int .i64 0,.nils,.nils,.nils,.nils,.int .i64 0,.nils]),
   (104,false,[.nilp]),
   (105,true,[.bool false,.bool false]),
   (106,true,[.bool false,.bool false]),
   (109,true,[.int .i64 0,.int .i64 0,.nils,.nils,.int .i64 0,.nils,.nils,.nils,.nils,.int .i64 0,.nils,.int .i64 0,.int .i64 0,.nils,.nils,.int .i64 0,.nils,.nils,.nils,.nils,.int .i64 0,.nils,.bool false,.bool false]),
   (110,true,[.int .i64 0,.int .i64 0,.nils,.nils,.int .i64 0,.nils,.nils,.nils,.nils,.int .i64 0,.nils,.int .i64 0,.int .i64 0,.nils,.nils,.int .i64 0,.nils,.nils,.nils,.nils,.int .i64 0,.nils,.bool false,.bool false]),
   (112,true,[.int .i64 0,.int .u8 0,.int .u64 0,.int .u64 0]),
   (113,true,[.int .i64 0,.int .u8 0,.int .u64 0,.int .u64 0]),
   (114,true,[.int .i64 0,.int .i64 0,.int .i64 0,.nils,.nils,.int .i64 0,.nils,.nils,.nils,.nils,.int .i64 0,.nils]),
   (115,true,[.int .i64 0,.int .i64 0,.int .i64 0,.nils,.nils,.int .i64 0,.nils,.nils,.nils,.nils,.int .i64 0,.nils]),
   (123,true,[.int .i64 0,.nils,.nils,.nils,.nils]),
   (124,true,[.int .i64 0,.nils,.nils,.nils,.nils]),
   (130,true,[.int .i64 0,.nils,.nils,.nils]),
   (131,true,[.int .i64 0,.nils,.nils,.nils]),
   (136,true,[.int .i64 0,.nils,.nils,.int .i64 0,.nils,.nils,.nils]),
   (137,true,[.int .i64 0,.nils,.nils,.int .i64 0,.nils,.nils,.nils]),
   (138,true,[.int .i64 0,.nils,.nils,.int .i64 0,.int .i64 0,.int .i64 0,.nils,.nils,.int .i64 0,.nils,.nils,.nils,.nils,.int .i64 0,.nils]),
   (139,true,[.int .i64 0,.nils,.nils,.int .i64 0,.int .i64 0,.int .i64 0,.nils,.nils,.int .i64 0,.nils,.nils,.nils,.nils,.int .i64 0,.nils]),
   (141,true,[.int .i64 0,.nils,.nils,.int .i64 0,.int .i64 0,.int .i64 0,.nils,.nils,.int .i64 0,.nils,.nils,.nils,.nils,.int .i64 0,.nils]),
   (142,true,[.int .i64 0,.nils,.nils,.int .i64 0,.int .i64 0,.int .i64 0,.nils,.nils,.int .i64 0,.nils,.nils,.nils,.nils,.int .i64 0,.nils]),
   (166,false,[.nils]),
   (169,false,[.nilp]),
   (170,true,[.nilp,.nils,.nils,.nils,.nils]),
   (171,true,[.nilp,.nils,.nils,.nils,.nils]),
   (172,true,[.int .i64 0,.int .i64 0,.int .i64 0,.nils,.int .i64 0,.int .i64 0,.nils,.nils,.int .i64 0,.nils,.nils,.nils,.nils,.int .i64 0,.nils,.int .i64 0,.int .i64 0,.nils,.int .i64 0,.int .i64 0,.nils,.nils,.int .i64 0,.nils,.nils,.nils,.nils,.int .i64 0,.nils]),
   (173,true,[.int .i64 0,.int .i64 0,.int .i64 0,.nils,.int .i64 0,.int .i64 0,.nils,.nils,.int .i64 0,.nils,.nils,.nils,.nils,.int .i64 0,.nils,.int .i64 0,.int .i64 0,.nils,.int .i64 0,.int .i64 0,.nils,.nils,.int .i64 0,.nils,.nils,.nils,.nils,.int .i64 0,.nils]),
   (176,false,[.nilp]),
   (177,true,[.nils,.nils,.nils]),
   (178,true,[.nils,.nils,.nils]),
   (181,false,[.nilp]),
   (182,false,[.nils]),
   (188,false,[.nils]),
   (191,false,[.nils]),
   (199,true,[.int .i64 0,.int .i64 0,.int .i64 0,.nils,.nils,.int .i64 0,.int .i64 0,.nils,.nils,.int .i64 0,.nils,.nils,.nils,.nils,.int .i64 0,.nils,.bool false]),
   (200,true,[.int .i64 0,.int .i64 0,.int .i64 0,.nils,.nils,.int .i64 0,.int .i64 0,.nils,.nils,.int .i64 0,.nils,.nils,.nils,.nils,.int .i64 0,.nils,.bool false]),
   (201,true,[.int .i64 0,.int .i64 0,.int .i64 0,.int .i64 0,.nils,.nils,.int .i64 0,.int .i64 0,.nils,.nils,.int .i64 0,.nils,.nils,.nils,.nils,.int .i64 0,.nils,.bool false,.int .i64 0,.int .i64 0,.int .i64 0,.nils,.nils,.int .i64 0,.int .i64 0,.nils,.nils,.int .i64 0,.nils,.nils,.nils,.nils,.int .i64 0,.nils,.bool false]),
   (202,true,[.int .i64 0,.int .i64 0,.int .i64 0,.int .i64 0,.nils,.nils,.int .i64 0,.int .i64 0,.nils,.nils,.int .i64 0,.nils,.nils,.nils,.nils,.int .i64 0,.nils,.bool false,.int .i64 0,.int .i64 0,.int .i64 0,.nils,.nils,.int .i64 0,.int .i64 0,.nils,.nils,.int .i64 0,.nils,.nils,.nils,.nils,.int .i64 0,.nils,.bool false]),
   (217,true,[.int .u8 0,.int .u8 0,.int .u8 0,.int .u8 0,.int .u8 0,.int .u8 0,.int .u8 0,.int .u8 0]),
   (221,false,[.nils]),
   (227,false,[.nilp]),
   (228,true,[.nils,.int .i64 0]),
   (229,true,[.nils,.int .i64 0]),
   (259,true,[.int .i64 0,.int .i64 0,.int .i64 0,.int .i64 0,.int .i64 0,.int .i64 0]),
   (267,false,[.int .u32 0]),
   (268,false,[.int .u8 0]),
   (269,false,[.int .u8 0]),
   (271,false,[.nilp]),
   (272,false,[.int .i32 0]),
   (273,false,[.int .i32 0])]
  fld:=[(7,0,0,2),(7,1,1,3),(7,2,2,4),(7,3,3,6),(8,0,0,2),(8,1,1,3),(8,2,2,4),(8,3,3,6),(18,0,0,17),(19,0,0,17),(24,0,0,3),(24,1,1,22),(24,2,2,23),(25,0,0,3),(25,1,1,22),(25,2,2,23),(29,0,0,3),(29,1,1,25),(29,2,4,25),(29,3,7,26),(29,4,8,27),(29,5,9,3),(29,6,10,28),(30,0,0,3),(30,1,1,25),(30,2,4,25),(30,3,7,26),(30,4,8,27),(30,5,9,3),(30,6,10,28),(55,0,0,3),(55,1,1,3),(55,2,2,30),(56,0,0,3),(56,1,1,3),(56,2,2,30),(64,0,0,25),(64,1,3,25),(64,2,6,39),(64,3,7,39),(65,0,0,25),(65,1,3,25),(65,2,6,39),(65,3,7,39),(81,0,0,3),(81,1,1,3),(81,2,2,3),(81,3,3,30),(82,0,0,3),(82,1,1,3),(82,2,2,3),(82,3,3,30),(90,0,0,71),(90,1,1,86),(90,2,5,87),(90,3,6,89),(91,0,0,71),(91,1,1,86),(91,2,5,87),(91,3,6,89),(102,0,0,3),(102,1,1,3),(102,2,2,23),(102,3,3,30),(103,0,0,3),(103,1,1,3),(103,2,2,23),(103,3,3,30),(105,0,0,4),(105,1,1,4),(106,0,0,4),(106,1,1,4),(109,0,0,30),(109,1,11,30),(109,2,22,4),(109,3,23,4),(110,0,0,30),(110,1,11,30),(110,2,22,4),(110,3,23,4),(112,0,0,3),(112,1,1,5),(112,2,2,101),(112,3,3,101),(113,0,0,3),(113,1,1,5),(113,2,2,101),(113,3,3,101),(114,0,0,3),(114,1,1,30),(115,0,0,3),(115,1,1,30),(123,0,0,25),(123,1,3,39),(123,2,4,39),(124,0,0,25),(124,1,3,39),(124,2,4,39),(130,0,0,25),(130,1,3,39),(131,0,0,25),(131,1,3,39),(136,0,0,25),(136,1,3,25),(136,2,6,39),(137,0,0,25),(137,1,3,25),(137,2,6,39),(138,0,0,25),(138,1,3,3),(138,2,4,30),(139,0,0,25),(139,1,3,3),(139,2,4,30),(141,0,0,25),(141,1,3,3),(141,2,4,30),(142,0,0,25),(142,1,3,3),(142,2,4,30),(170,0,0,104),(170,1,1,28),(170,2,2,28),(170,3,3,23),(170,4,4,23),(171,0,0,104),(171,1,1,28),(171,2,2,28),(171,3,3,23),(171,4,4,23),(172,0,0,3),(172,1,1,103),(172,2,15,103),(173,0,0,3),(173,1,1,103),(173,2,15,103),(177,0,0,28),(177,1,1,23),(177,2,2,23),(178,0,0,28),(178,1,1,23),(178,2,2,23),(199,0,0,3),(199,1,1,3),(199,2,2,25),(199,3,5,30),(199,4,16,4),(200,0,0,3),(200,1,1,3),(200,2,2,25),(200,3,5,30),(200,4,16,4),(201,0,0,3),(201,1,1,200),(201,2,18,200),(202,0,0,3),(202,1,1,200),(202,2,18,200),(228,0,0,28),(228,1,1,3),(229,0,0,28),(229,1,1,3)]
  arr:=[(86,4,85),(89,4,88),(217,8,5),(259,6,3)]
  eqs:=[7,8,105,106,112,113] }
def cfg:Cfg U:=tb.cfg K
theorem ZBU:tb.var.all (ZtR Tryz.prog)=true:=V6
theorem ZDA:tb.sl.all (slB Tryz.prog tb.el)=true:=V6
theorem ZCs:tb.fld.all (Zzg Tryz.prog)=true:=V6
theorem ZCG:tb.arr.all (ZA9 Tryz.prog)=true:=V6
theorem ZDC:∀ t,elB Tryz.prog K tb t=true:=by
 intro t
 cases t
 .kernel_rfl
 .kernel_rfl
 .kernel_rfl
 .kernel_rfl
 .kernel_rfl
 .kernel_rfl
 .kernel_rfl
 .kernel_rfl
 .kernel_rfl
 .kernel_rfl
 .kernel_rfl
 .kernel_rfl
 .kernel_rfl
 .kernel_rfl
theorem Za:CfgOk Tryz.prog cfg:=Znm ZE3 ZBU ZDA ZCs ZCG ZDC V6 V6
abbrev sU(T:Ty)(l:List (El T))(t:Tail):C U:= .slice (U:=U) T l t
noncomputable abbrev AW(K:Known U)(f:Func)(lv:Z6 U)(p:List Nat):=awp cfg K (YF cfg K) f.ntmps lv (cd f p)
noncomputable abbrev SW(K:Known U)(f:Func)(lv:Z6 U)(p:List Nat):=ZC7 cfg K (YF cfg K) f.ntmps lv (cd f p)
abbrev EQ(f:Func):=ZK cfg f.ntmps f.results.toList
abbrev QT:=AExit->LSt U->Prop
abbrev NT:=LSt U->Prop
abbrev CT(k:FuncId)(s:Fs U):Prop:=Contract Tryz.prog cfg k s
abbrev xB:=@AExit.inBlock U
abbrev xT:=@AExit.then U
abbrev ci(x:Int):C U:= .int .i64 x
abbrev L2(e:List (Nat × V U))(m:List (Name × List (C U))):LSt U:=⟨e,m,[]⟩
abbrev zb8(f:Int->Nat->Int)(x:Int):List (C U):=[.int .u8 (f x 0),.int .u8 (f x 1),.int .u8 (f x 2),.int .u8 (f x 3),.int .u8 (f x 4),.int .u8 (f x 5),.int .u8 (f x 6),.int .u8 (f x 7)]
abbrev zi8(l:List Int):List (C U):=l.map fun x=> .int .u8 x
abbrev FK (k : FuncId) : Prop := ∃ fn, Tryz.prog.funcs[k]? = some fn ∧ fn.body.isSome = true ∧ (fn.name == "runtime.NumGoroutine") = false
abbrev pL(n:Nat):Nat × V U:=(n,.ptr (.loc n) 0)
abbrev pB(n:Nat)(b:Bool):Nat × V U:=(n,.c (.bool b))
abbrev pI(n:Nat)(x:Int):Nat × V U:=(n,.c (.int .i64 x))
def lvl(l:List (List Nat × List Nat)):Z6 U:=fun i=> ((l.getD i ([],[])).1.map fun k=> (k,[]),(l.getD i ([],[])).2.map fun k=> (.loc k,[]))
instance (n:Nat):OfNat (Nat × List (Sk U)) n:=⟨(n,[])⟩
instance (n:Nat):OfNat (Name × List (Sk U)) n:=⟨(.loc n,[])⟩
abbrev an(n:Nat)(l:List (Sk U)):List (Sk U):=List.replicate n .any++l
def lvk(l:List (List (Nat × List (Sk U)) × List (Name × List (Sk U)))):Z6 U:=fun i=> l.getD i ([],[])
abbrev zc0:List (C U):=[.int .i64 0,.int .i64 0,.nils,.nils,.int .i64 0,.nils,.nils,.nils,.nils,.int .i64 0,.nils]
end Go.AM.YtpjenobkibfpcaaGreat
namespace Go.AM.YtpjenobkibfpcaaGreat
open Go.AM Go.Proofs Go.Proofs.YtpjenobkibfpcaaGreat Go.ChangeShapes Go.WideShapes Go.RowKit
theorem own:ownKnob Tryz.prog.godebug=none:=V6
theorem Zvj:laidOutB Tryz.prog=true:=V6
theorem Znj:TreeTypes cfg:=⟨rfl,rfl,⟨_,rfl⟩,⟨_,rfl⟩,⟨_,rfl,rfl⟩,⟨_,_,rfl,rfl⟩,⟨_,_,rfl,rfl,rfl⟩,⟨_,_,rfl,rfl,rfl⟩⟩
theorem Zeh:EditTypes cfg:=⟨⟨_,rfl,rfl⟩,⟨_,_,rfl,rfl⟩,⟨_,_,rfl,rfl⟩,⟨_,_,rfl,rfl⟩,⟨_,_,rfl,rfl⟩,⟨_,rfl,rfl⟩,⟨_,_,rfl,rfl⟩,rfl,⟨_,rfl,rfl⟩,⟨_,_,rfl,rfl⟩,⟨_,_,rfl,rfl⟩,⟨_,_,rfl,rfl,rfl⟩,rfl,⟨_,rfl,rfl⟩,⟨_,_,rfl,rfl⟩,rfl,rfl,⟨_,_,rfl,rfl,rfl⟩,⟨_,_,rfl,rfl,rfl⟩,⟨_,_,rfl,rfl⟩,⟨_,_,rfl,rfl,rfl⟩⟩
end Go.AM.YtpjenobkibfpcaaGreat
namespace Go.AM.YtpjenobkibfpcaaGreat
open Go.AM Go.Proofs Go.Proofs.YtpjenobkibfpcaaGreat Go.ChangeShapes Go.WideShapes Go.RowKit
theorem Zq1{H:Type}{henc:TypeId × Value->H}{w:World}{n:Nat}{cs:List Value}(h:Rdd henc Tryz.prog w n (cfg.elT .hdeed) cs):∃ e:HDeed,RelS cfg w.cell? cs (cfg.enc .hdeed e)/\inE e.e:=by
 obtain ⟨ez,ab,s⟩:=Zeh.evar
 obtain ⟨m,rfl,hl,r0⟩:=Yd Za (t:=cfg.elT .hdeed) (i:=0) (off:=0) (ft:=3) (ag:=false) (zs:=[.int .i64 0]) rfl rfl h
 obtain ⟨m',u,_,r1⟩:=Yd Za (t:=cfg.elT .hdeed) (i:=1) (off:=1) (ft:=3) (ag:=false) (zs:=[.int .i64 0]) rfl rfl h
 cases u
 obtain ⟨m',u,_,r3⟩:=Yd Za (t:=cfg.elT .hdeed) (i:=2) (off:=2) (ft:=3) (ag:=false) (zs:=[.int .i64 0]) rfl rfl h
 cases u
 obtain ⟨m',u,_,r2⟩:=Yd Za (t:=cfg.elT .hdeed) (i:=3) (off:=3) (ft:=cfg.elT .edit) rfl ab h
 cases u
 have aa:cs.length=14:=by rw [hl,Jf Za (t:=cfg.elT .hdeed) (ag:=true) rfl];try rfl
 obtain ⟨a,a1,_⟩:=JR Za (k:= .i64) (n0:=0) rfl r0
 obtain ⟨b,b1,_⟩:=JR Za (k:= .i64) (n0:=0) rfl r1
 obtain ⟨d,d1,_⟩:=JR Za (k:= .i64) (n0:=0) rfl r3
 obtain ⟨c,c1,c2⟩:=Zu4 Za Znj Zeh _ _ r2
 rw [s] at c1
 exact ⟨⟨a,b,d,c⟩,a1.glue rfl (by simp;omega) (b1.glue rfl (by simp;omega) (d1.glue rfl (by simp;omega) (c1.glue rfl V1 (RelS.done (n:=14) aa)))),c2⟩
theorem Ztb{H:Type}{henc:TypeId × Value->H}:ZAG henc Tryz.prog cfg (aEl .hdeed) 82 (fun d=> inE d.e):=
 Zvx Za rfl ⟨_,_,rfl⟩ (fun _ n cs h=> Zq1 h)
end Go.AM.YtpjenobkibfpcaaGreat
namespace Go.AM.YtpjenobkibfpcaaGreat
open Go.AM Go.Proofs
noncomputable section
def Zk5:ArgL (Tree × Int × Int × Unit):=(.cons (aEl .tree) (.cons (YR .i64) (.cons (YR .i64) .nil)))
def Z9b(a:Tree × Int × Int × Unit):Prop:=Z3K a.1/\0<=a.2.1/\a.2.1<=4611686018427387904/\-1<=a.2.2.1/\a.2.2.1<=4611686018427387904
def ZnQ(a:Tree × Int × Int × Unit):Nat:=Zk a.1
def Zhi(a:Tree × Int × Int × Unit):V U:= .c (ci (ZZ a.1 a.2.1 a.2.2.1))
def ZaZ:Fs U:=fs Zk5 (fun a=> [Z9b a]) Zhi
def ZsX:ArgL (List Int × List Int × Unit):=(.cons (aSl .u64) (.cons (aSl .u64) .nil))
def ZdP(a:List Int × List Int × Unit):Prop:=a.1.length<=1000000000000
def Zhj(a:List Int × List Int × Unit):V U:= .c (.bool (decide (a.1=a.2.1)))
def Zb1:Fs U:=fs ZsX (fun a=> [ZdP a]) Zhj
def Zn5:ArgL (List Int × Unit):=(.cons (aSl .u64) .nil)
def ZbX(a:List Int × Unit):Prop:=a.1.length<=1000000000000
def ZpW(a:List Int × Unit):V U:= .c (sU .u64 a.1 .unk)
def Z6W:Fs U:=fs Zn5 (fun a=> [ZbX a]) ZpW
def ZmT:ArgL (Tree × Int × Unit):=(.cons (aEl .tree) (.cons (YR .i64) .nil))
def Z8h(a:Tree × Int × Unit):Prop:=True
def Zff(a:Tree × Int × Unit):V U:= .c (.int .u64 (YZ a.1 a.2.1))
def Z0S:Fs U:=fs ZmT (fun a=> [Z8h a]) Zff
def Zfe(a:Tree × Int × Unit):V U:= .agg (enc .tree (J9 a.1 a.2.1))
def Z0R:Fs U:=fs ZmT (fun a=> [Z8h a]) Zfe
def Zk6:ArgL (Tree × Unit):=(.cons (aEl .tree) .nil)
def Z0v(a:Tree × Unit):Prop:=Zk a.1<=1000000000000
def ZnR(a:Tree × Unit):Nat:=Zk a.1
def ZdI(a:Tree × Unit):V U:= .agg (enc .tree (Z5 a.1))
def YV:Fs U:=fs Zk6 (fun a=> [Z0v a]) ZdI
def Zke:ArgL (Tree × Tree × Unit):=(.cons (aEl .tree) (.cons (aEl .tree) .nil))
def Z9c(a:Tree × Tree × Unit):Prop:=Zk a.1<=1000000000000
def ZnS(a:Tree × Tree × Unit):Nat:=Zk a.1
def ZdJ(a:Tree × Tree × Unit):V U:= .c (.bool (ZW a.1 a.2.1))
def Zbe:Fs U:=fs Zke (fun a=> [Z9c a]) ZdJ
def Z1n(a:Tree × Tree × Unit):Prop:=Zk a.1<=1000000000000/\Zk a.2.1<=1000000000000
def ZdY(a:Tree × Tree × Unit):Nat:=Zk a.1+Zk a.2.1
def Z5W(a:Tree × Tree × Unit):V U:= .c (.bool (ZW (Z5 a.1) (Z5 a.2.1)))
def YX:Fs U:=fs Zke (fun a=> [Z1n a]) Z5W
def ZjM(N:Nat):List (FuncId × Fs U):=(80,fs Zk5 (fun a=> [Z9b a,ZnQ a < N]) Zhi) ::[]
def Zvd:Z6 U:=lvl [([1,2,3],[3]),([1,2,3],[3]),([1,2,3,19],[3]),([6],[]),([1,2,3,7],[3]),([1,2,3,7,28],[3]),([1,2,3,7],[3]),([1,2,3,7],[3]),([6],[])]
def Z7G(t:Tree)(d l b h:Int):LSt U:=(L2 [pI 1 d,pI 2 b,pL 3,pI 7 h] [(.loc 3,(enc .tree t))])
abbrev A80(N:Nat)(p:List Nat):=AW (Z1 (ZjM N)) Tryz.f80 Zvd p
abbrev S80(N:Nat)(p:List Nat):=SW (Z1 (ZjM N)) Tryz.f80 Zvd p
theorem ZDe(N:Nat)(t:Tree)(d l:Int)(Q:QT)(h:((InR (l - 1))/\(InR (((l - 1):Int) - (t.words.length:Int)))/\((Tt (!(d==0)))/\((d==0)=false->(!(d==0))=true)/\(iB (bif (d==0) then true else (decide (((((l - 1):Int) - (t.words.length:Int)):Int) < 0))) ((Q .ret (L2 [pI 6 (-1)] []))) ((Zp (A80 N [1,1,1,0,1,0,0]) (Z7G t d l (((l - 1):Int) - (t.words.length:Int)) 0) (xB 0 (S80 N [1,1,1,1] Q)))))))):
  A80 N [] (L2 [(0,.agg (enc .tree t)),pI 1 d,pI 2 l] []) Q:=
 Eq.mpr V6 h
theorem ZtJ(N:Nat)(t:Tree)(d l s b:Int)(N0:NT)(Q:QT)(h:let z2:=t.kids.getD b.toNat Tree.nil;let z1:=decide (b < (t.kids.length:Int));let z0:=Tree.mk (Tree.kind z2) (Tree.words z2) (Tree.kids z2);(Tt z1)/\(Tt z1)/\(iB (bif z1 then (decide ((0:Int)<=s)) else false) (((0:Int)<=b/\b < (t.kids.length:Int))/\(InR (d - 1))/\(Z9b (z0,(d - 1),s,()))/\(ZnQ (z0,(d - 1),s,()) < N)/\((InR (b+1))/\(N0 (Z7G t d l (ZZ z0 (d - 1) s) (b+1))))) ((Q .ret (L2 [pI 6 s] []))))):
  A80 N [1,1,1,0,1,0,0] (Z7G t d l s b) (xT N0 (xB 0 (S80 N [1,1,1,1] Q))):=
 Eq.mpr V6 h
def ZAk(N:Nat)(t:Tree)(d l:Int):Prop:=AW (Z1 (ZjM N)) Tryz.f80 Zvd [] (Zb (Zk5.can (t,d,l,())) []) (EQ Tryz.f80 (Zhi (t,d,l,())) [])
theorem Zyz(hb:∀ (N:Nat) (t:Tree) (d:Int) (l:Int) (_:Unit),Z9b (t,d,l,())->ZnQ (t,d,l,()) < N+1->ZAk N t d l):CT 80 ZaZ:=
 Jj (μ:=ZnQ) (l:=[]) Za rfl trivial Zvd Tryz.func80 rfl rfl 3 (fun _=> rfl) V5 (fun N ⟨t,d,l,_⟩=> hb N t d l ())
def ZjN:List (FuncId × Fs U):=[]
def Zve:Z6 U:=lvl [([0,1],[]),([0,1,10],[]),([4],[]),([0,1,5],[]),([0,1,5,14],[]),([0,1,5],[]),([0,1,5,25],[]),([4],[]),([4],[])]
def Z7H(a b:List Int)(h:Int):LSt U:=(L2 [(0,.c (sU .u64 a .unk)),(1,.c (sU .u64 b .unk)),pI 5 h] [])
abbrev A76(p:List Nat):=AW (Z1 ZjN) Tryz.f76 Zve p
abbrev S76(p:List Nat):=SW (Z1 ZjN) Tryz.f76 Zve p
theorem ZDg(a b:List Int)(Q:QT)(h:(iB (((a.length:Int):Int) !=(b.length:Int)) ((Q .ret (L2 [pB 4 false] []))) ((Zp (A76 [1,1,0,1,0,0]) (Z7H a b 0) (xB 0 (S76 [1,1,1] Q)))))):
  A76 [] (L2 [(0,.c (sU .u64 a .unk)),(1,.c (sU .u64 b .unk))] []) Q:=
 Eq.mpr V6 h
theorem ZtK(a b:List Int)(s:Int)(N0:NT)(Q:QT)(h:(iB (decide (s < (a.length:Int))) (((0:Int)<=s/\s < (a.length:Int))/\((0:Int)<=s/\s < (b.length:Int))/\(iB (((a.getD s.toNat (0:Int)):Int) !=(b.getD s.toNat (0:Int))) ((Q .ret (L2 [pB 4 false] []))) ((InR (s+1))/\(N0 (Z7H a b (s+1)))))) ((Q .ret (L2 [pB 4 true] []))))):
  A76 [1,1,0,1,0,0] (Z7H a b s) (xT N0 (xB 0 (S76 [1,1,1] Q))):=
 Eq.mpr V6 h
def ZAm(a b:List Int):Prop:=AW (Z1 ZjN) Tryz.f76 Zve [] (Zb (ZsX.can (a,b,())) []) (EQ Tryz.f76 (Zhj (a,b,())) [])
theorem ZyA(hb:∀ (a:List Int) (b:List Int) (_:Unit),ZdP (a,b,())->ZAm a b):CT 76 Zb1:=
 Z0 (l:=[]) Za rfl trivial Zve Tryz.func76 rfl rfl 2 (fun _=> rfl) V5 (fun ⟨a,b,_⟩=> hb a b ())
def ZrC:Z6 U:=lvl [([0],[]),([0,4],[]),([2],[]),([2],[])]
abbrev ZEx(p:List Nat):=AW (Z1 ZjN) Tryz.f117 ZrC p
theorem ZBL(l:List Int)(Q:QT)(h:(((l=[])->(Q .ret (L2 [(2,.c (.nils))] [])))/\(True->((([]:List Int).length+l.length)*8<=140737488355328)/\(Q .ret (L2 [(2,.c (sU .u64 (([]:List Int)++l) (.own (.e 2 0))))] []))))):
  ZEx [] (L2 [(0,.c (sU .u64 l .unk))] []) Q:=
 Eq.mpr V6 h
def ZwF(l:List Int):Prop:=AW (Z1 ZjN) Tryz.f117 ZrC [] (Zb (Zn5.can (l,())) []) (EQ Tryz.f117 (ZpW (l,())) [])
theorem Zv7(hb:∀ (l:List Int) (_:Unit),ZbX (l,())->ZwF l):CT 117 Z6W:=
 Z0 (l:=[]) Za rfl trivial ZrC Tryz.func117 rfl rfl 1 (fun _=> rfl) V5 (fun ⟨l,_⟩=> hb l ())
def ZlA:Z6 U:=lvl [([0,1],[]),([0,1,10],[]),([4],[]),([0,1,12,13],[]),([0,1,12,13,14],[]),([0,1,5,12,13],[]),([0,1,12,13,24],[]),([4],[]),([0,1,12,13],[]),([4],[])]
def Z54(a b:List Int)(h:Int):LSt U:=(L2 [(0,.c (sU .u64 a .unk)),(1,.c (sU .u64 b .unk)),pI 12 (a.length:Int),pI 13 h] [])
abbrev ZAM(p:List Nat):=AW (Z1 ZjN) Tryz.f172 ZlA p
abbrev ZCY(p:List Nat):=SW (Z1 ZjN) Tryz.f172 ZlA p
theorem ZBq(a b:List Int)(Q:QT)(h:(iB (((a.length:Int):Int) !=(b.length:Int)) ((Q .ret (L2 [pB 4 false] []))) ((Zp (ZAM [1,1,0,1,0,0]) (Z54 a b 0) (xB 0 (ZCY [1,1,1] Q)))))):
  ZAM [] (L2 [(0,.c (sU .u64 a .unk)),(1,.c (sU .u64 b .unk))] []) Q:=
 Eq.mpr V6 h
theorem ZoR(a b:List Int)(s:Int)(N0:NT)(Q:QT)(h:(iB (decide (s < (a.length:Int))) ((((0:Int)<=s/\s < (a.length:Int))/\((0:Int)<=s/\s < (b.length:Int))/\(iB (((a.getD s.toNat (0:Int)):Int) !=(b.getD s.toNat (0:Int))) ((Q .ret (L2 [pB 4 false] []))) ((InR (s+1))/\(N0 (Z54 a b (s+1))))))) ((Q .ret (L2 [pB 4 true] []))))):
  ZAM [1,1,0,1,0,0] (Z54 a b s) (xT N0 (xB 0 (ZCY [1,1,1] Q))):=
 Eq.mpr V6 h
def Zwk(a b:List Int):Prop:=AW (Z1 ZjN) Tryz.f172 ZlA [] (Zb (ZsX.can (a,b,())) []) (EQ Tryz.f172 (Zhj (a,b,())) [])
theorem ZuP(hb:∀ (a:List Int) (b:List Int) (_:Unit),ZdP (a,b,())->Zwk a b):CT 172 Zb1:=
 Z0 (l:=[]) Za rfl trivial ZlA Tryz.func172 rfl rfl 2 (fun _=> rfl) V5 (fun ⟨a,b,_⟩=> hb a b ())
def Zrn:Z6 U:=lvl [([1,2],[2]),([1,2,13],[2]),([4],[]),([4],[])]
abbrev ZEm(p:List Nat):=AW (Z1 ZjN) Tryz.f173 Zrn p
theorem ZBp(t:Tree)(i:Int)(Q:QT)(h:let z0:= !(decide (i < 0));((Tt z0)/\(Tt z0)/\(Tt z0)/\(Tt z0)/\((decide (i < 0))=false->z0=true)/\(iB (bif (decide (i < 0)) then true else (decide (((t.words.length:Int):Int)<=i))) ((Q .ret (L2 [(4,.c (.int .u64 0))] []))) (((0:Int)<=i/\i < (t.words.length:Int))/\(Q .ret (L2 [(4,.c (.int .u64 (t.words.getD i.toNat (0:Int))))] [])))))):
  ZEm [] (L2 [(0,.agg (enc .tree t)),pI 1 i] []) Q:=
 Eq.mpr V6 h
def Zwj(t:Tree)(i:Int):Prop:=AW (Z1 ZjN) Tryz.f173 Zrn [] (Zb (ZmT.can (t,i,())) []) (EQ Tryz.f173 (Zff (t,i,())) [])
theorem ZuO(hb:∀ (t:Tree) (i:Int) (_:Unit),Z8h (t,i,())->Zwj t i):CT 173 Z0S:=
 Z0 (l:=[]) Za rfl trivial Zrn Tryz.func173 rfl rfl 2 (fun _=> rfl) V5 (fun ⟨t,i,_⟩=> hb t i ())
def Zrm:Z6 U:=lvl [([1,2,4],[2,4]),([1,2,4,13],[2,4]),([4],[4]),([4],[4])]
abbrev ZEl(p:List Nat):=AW (Z1 ZjN) Tryz.f174 Zrm p
theorem ZBo(t:Tree)(i:Int)(Q:QT)(h:let z0:= !(decide (i < 0));((Tt z0)/\(Tt z0)/\(Tt z0)/\(Tt z0)/\((decide (i < 0))=false->z0=true)/\(iB (bif (decide (i < 0)) then true else (decide (((t.kids.length:Int):Int)<=i))) ((Q .ret (L2 [pL 4] [(.loc 4,[ci 0,.nils,.nils])]))) (((0:Int)<=i/\i < (t.kids.length:Int))/\(Q .ret (L2 [pL 4] [(.loc 4,(enc .tree (t.kids.getD i.toNat Tree.nil)))])))))):
  ZEl [] (L2 [(0,.agg (enc .tree t)),pI 1 i] []) Q:=
 Eq.mpr V6 h
def Zwi(t:Tree)(i:Int):Prop:=AW (Z1 ZjN) Tryz.f174 Zrm [] (Zb (ZmT.can (t,i,())) []) (EQ Tryz.f174 (Zfe (t,i,())) [])
theorem ZuN(hb:∀ (t:Tree) (i:Int) (_:Unit),Z8h (t,i,())->Zwi t i):CT 174 Z0R:=
 Z0 (l:=[]) Za rfl trivial Zrm Tryz.func174 rfl rfl 2 (fun _=> rfl) V5 (fun ⟨t,i,_⟩=> hb t i ())
def ZjO(N:Nat):List (FuncId × Fs U):=(75,fs Zk6 (fun a=> [Z0v a,ZnR a < N]) ZdI) ::[(117,Z6W)]
def Zvf:Z6 U:=lvk [([1,2],[1,2]),([1,2,8],[1,2]),([2],[2]),([1,2,3],[1,2,3]),([1,2,3,17,18,19],[1,2,((.loc 3),[.any,.any,.own .tree])]),([1,2,3,17,18,19,20],[1,2,3]),([1,2,3,5,17,18,19],[1,2,3,5]),([1,2,3,17,18,19],[1,2,3]),([1,2,3,17,18,19],[1,2,((.loc 3),[.any,.any,.own .tree])]),([2,3,33],[2,((.loc 3),[.any,.any,.unk .tree])]),([2,3,33,48],[2,((.loc 3),[.any,.any,.unk .tree])]),([2,3,33],[2,((.loc 3),[.any,.any,.unk .tree])]),([2,3,33,48,72],[2,3]),([2,3,33,48],[2,((.loc 3),[.any,.any,.unk .tree])]),([2],[2])]
def Z7K(t:Tree)(h:Int)(b:List Tree):LSt U:=(L2 [pL 1,pL 2,pL 3,(17,.c (sU .tree t.kids .unk)),pI 18 (t.kids.length:Int),pI 19 h] [(.loc 1,(enc .tree t)),(.loc 2,[ci 0,.nils,.nils]),(.loc 3,[ci t.kind,sU .u64 t.words .unk,sU .tree b (.own (.l 3 2))])])
def Z7J(t:Tree)(h:List Tree)(b:List Int):LSt U:=(L2 [pL 2,pL 3,pB 33 ((t.kind:Int)==1)] [(.loc 2,[ci 0,.nils,.nils]),(.loc 3,[ci t.kind,sU .u64 b .unk,sU .tree h .unk])])
def Z7I(t:Tree)(b:List Int)(h:List Tree):LSt U:=(L2 [pL 2,pL 3,pB 33 ((t.kind:Int)==1),(48,.c (.bool (bif (decide ((0:Int) < (b.length:Int))) then (((List.getD b (Int.toNat (((b.length:Int):Int) - 1)) (0:Int)):Int)==0) else false)))] [(.loc 2,[ci 0,.nils,.nils]),(.loc 3,[ci t.kind,sU .u64 b .unk,sU .tree h .unk])])
abbrev A75(N:Nat)(p:List Nat):=AW (Z1 (ZjO N)) Tryz.f75 Zvf p
abbrev S75(N:Nat)(p:List Nat):=SW (Z1 (ZjO N)) Tryz.f75 Zvf p
theorem ZDh(N:Nat)(t:Tree)(Q:QT)(h:(iB (t.kind==0) ((Q .ret (L2 [pL 2] [(.loc 2,[ci 0,.nils,.nils])]))) ((ZbX (t.words,()))/\(Zp (A75 N [1,1,1,0,1,0,0]) (Z7K t 0 []) (xB 0 (S75 N [1,1,1,1] Q)))))):
  A75 N [] (L2 [(0,.agg (enc .tree t))] []) Q:=
 Eq.mpr V6 h
theorem ZtN(N:Nat)(t:Tree)(s:Int)(b:List Tree)(N0:NT)(Q:QT)(h:∀ ab,ab=(t.kids.getD s.toNat Tree.nil)->∀ u,u=ab->∀ aa,aa=(Z5 u)->(iB (decide (s < (t.kids.length:Int))) (((0:Int)<=s/\s < (t.kids.length:Int))/\((Z0v (u,()))/\(ZnR (u,()) < N)/\((b.length+([aa]).length)*56<=140737488355328)/\((InR (s+1))/\(N0 (Z7K t (s+1) (b++([aa]))))))) ((iB (t.kind==1) (Zp (A75 N [1,1,1,1,0,1,0,0,0,0]) (Z7J t b t.words) (xB 2 (S75 N [1,1,1,1,0,1,0,1] (S75 N [1,1,1,1,1] Q)))) ((Q .ret (L2 [pL 2] [(.loc 2,[ci t.kind,sU .u64 t.words .unk,sU .tree b .unk])]))))))):
  A75 N [1,1,1,0,1,0,0] (Z7K t s b) (xT N0 (xB 0 (S75 N [1,1,1,1] Q))):=
 Eq.mpr V6 (h _ rfl _ (Z7 _) _ (Z7 _))
theorem ZtM(N:Nat)(t:Tree)(s:List Tree)(b:List Int)(N1:NT)(Q:QT)(h:let z0:=decide ((0:Int) < (b.length:Int));(Tt z0)/\(Tt z0)/\(Tt z0)/\(Tt z0)/\(z0=true->InR (((b.length:Int):Int) - 1))/\(Tt z0)/\(Tt z0)/\(z0=true->(0:Int)<=(((b.length:Int):Int) - 1)/\(((b.length:Int):Int) - 1) < (b.length:Int))/\(Tt z0)/\(Tt z0)/\(Tt z0)/\(iB (bif z0 then (((List.getD b (Int.toNat (((b.length:Int):Int) - 1)) (0:Int)):Int)==0) else false) ((InR (((b.length:Int):Int) - 1))/\((0:Int)<=(((b.length:Int):Int) - 1)/\(((b.length:Int):Int) - 1)<=(b.length:Int))/\(N1 (Z7J t s (List.take (Int.toNat (((b.length:Int):Int) - 1)) b)))) (Zp (A75 N [1,1,1,1,0,1,0,1,0,0]) (Z7I t b s) (xB 4 (S75 N [1,1,1,1,1] Q))))):
  A75 N [1,1,1,1,0,1,0,0,0,0] (Z7J t s b) (xT N1 (xB 2 (S75 N [1,1,1,1,0,1,0,1] (S75 N [1,1,1,1,1] Q)))):=
 Eq.mpr V6 h
theorem ZtL(N:Nat)(t:Tree)(s:List Int)(b:List Tree)(N2:NT)(Q:QT)(h:let z0:=decide ((0:Int) < (b.length:Int));(Tt z0)/\(Tt z0)/\(Tt z0)/\(Tt z0)/\(z0=true->InR (((b.length:Int):Int) - 1))/\(Tt z0)/\(Tt z0)/\(z0=true->(0:Int)<=(((b.length:Int):Int) - 1)/\(((b.length:Int):Int) - 1) < (b.length:Int))/\(Tt z0)/\(Tt z0)/\(Tt z0)/\(Tt z0)/\(iB (bif z0 then (((Tree.kind (List.getD b (Int.toNat (((b.length:Int):Int) - 1)) Tree.nil)):Int)==0) else false) ((InR (((b.length:Int):Int) - 1))/\((0:Int)<=(((b.length:Int):Int) - 1)/\(((b.length:Int):Int) - 1)<=(b.length:Int))/\(N2 (Z7I t s (List.take (Int.toNat (((b.length:Int):Int) - 1)) b)))) ((Q .ret (L2 [pL 2] [(.loc 2,[ci t.kind,sU .u64 s .unk,sU .tree b .unk])]))))):
  A75 N [1,1,1,1,0,1,0,1,0,0] (Z7I t s b) (xT N2 (xB 4 (S75 N [1,1,1,1,1] Q))):=
 Eq.mpr V6 h
def ZAn(N:Nat)(t:Tree):Prop:=AW (Z1 (ZjO N)) Tryz.f75 Zvf [] (Zb (Zk6.can (t,())) []) (EQ Tryz.f75 (ZdI (t,())) [])
theorem ZyB(ZzU:CT 117 Z6W)(hb:∀ (N:Nat) (t:Tree) (_:Unit),Z0v (t,())->ZnR (t,()) < N+1->ZAn N t):CT 75 YV:=
 Jj (μ:=ZnR) (l:=[(117,Z6W)]) Za rfl (⟨ZzU,trivial⟩) Zvf Tryz.func75 rfl rfl 1 (fun _=> rfl) V5 (fun N ⟨t,_⟩=> hb N t ())
def ZjQ(N:Nat):List (FuncId × Fs U):=(26,fs Zke (fun a=> [Z9c a,ZnS a < N]) ZdJ) ::[(76,Zb1)]
def Zvh:Z6 U:=lvl [([2,3],[2,3]),([2,3,27],[2,3]),([4],[]),([2,3,5],[2,3]),([2,3,5,32],[2,3]),([2,3,5],[2,3]),([2,3,5,46],[2,3]),([4],[]),([4],[])]
def Z7N(a b:Tree)(h:Int):LSt U:=(L2 [pL 2,pL 3,pI 5 h] [(.loc 2,(enc .tree a)),(.loc 3,(enc .tree b))])
abbrev A26(N:Nat)(p:List Nat):=AW (Z1 (ZjQ N)) Tryz.f26 Zvh p
abbrev S26(N:Nat)(p:List Nat):=SW (Z1 (ZjQ N)) Tryz.f26 Zvh p
theorem ZDw(N:Nat)(a b:Tree)(Q:QT)(h:let z1:=a.kind !=b.kind;let z0:=bif z1 then true else (!(decide (a.words=b.words)));((Tt (!z1))/\(Tt (!z1))/\(Tt (!z1))/\(Tt (!z1))/\((!z1)=true->ZdP (a.words,b.words,()))/\(Tt (!z1))/\(z1=false->(!z1)=true)/\(Tt (!z0))/\(Tt (!z0))/\(Tt (!z0))/\(Tt (!z0))/\(Tt (!z0))/\(Tt (!z0))/\(z0=false->(!z0)=true)/\(iB (bif z0 then true else (((a.kids.length:Int):Int) !=(b.kids.length:Int))) ((Q .ret (L2 [pB 4 false] []))) ((Zp (A26 N [1,1,0,1,0,0]) (Z7N a b 0) (xB 0 (S26 N [1,1,1] Q))))))):
  A26 N [] (L2 [(0,.agg (enc .tree a)),(1,.agg (enc .tree b))] []) Q:=
 Eq.mpr V6 h
theorem ZtQ(N:Nat)(a b:Tree)(s:Int)(N0:NT)(Q:QT)(h:∀ ab,ab=(a.kids.getD s.toNat Tree.nil)->∀ ae,ae=(b.kids.getD s.toNat Tree.nil)->∀ aa,aa=ab->∀ u,u=ae->(iB (decide (s < (a.kids.length:Int))) (((0:Int)<=s/\s < (a.kids.length:Int))/\((0:Int)<=s/\s < (b.kids.length:Int))/\(Z9c (aa,u,()))/\(ZnS (aa,u,()) < N)/\(iB (!(ZW aa u)) ((Q .ret (L2 [pB 4 false] []))) ((InR (s+1))/\(N0 (Z7N a b (s+1)))))) ((Q .ret (L2 [pB 4 true] []))))):
  A26 N [1,1,0,1,0,0] (Z7N a b s) (xT N0 (xB 0 (S26 N [1,1,1] Q))):=
 Eq.mpr V6 (h _ rfl _ rfl _ (Z7 _) _ (Z7 _))
def ZAC(N:Nat)(a b:Tree):Prop:=AW (Z1 (ZjQ N)) Tryz.f26 Zvh [] (Zb (Zke.can (a,b,())) []) (EQ Tryz.f26 (ZdJ (a,b,())) [])
theorem ZyN(c76:CT 76 Zb1)(hb:∀ (N:Nat) (a:Tree) (b:Tree) (_:Unit),Z9c (a,b,())->ZnS (a,b,()) < N+1->ZAC N a b):CT 26 Zbe:=
 Jj (μ:=ZnS) (l:=[(76,Zb1)]) Za rfl (⟨c76,trivial⟩) Zvh Tryz.func26 rfl rfl 2 (fun _=> rfl) V5 (fun N ⟨a,b,_⟩=> hb N a b ())
def Zgm(N:Nat):List (FuncId × Fs U):=(114,fs Zke (fun a=> [Z1n a,ZdY a < N]) Z5W) ::[(172,Zb1),(173,Z0S),(174,Z0R)]
def ZlD:Z6 U:=lvl [([2,3],[2,3]),([2,3,16],[2,3]),([4],[]),([2,3,41],[2,3]),([4],[]),([2,3,48,49],[2,3]),([2,3,48,49,50],[2,3]),([2,3,5,48,49],[2,3]),([2,3,48,49,58],[2,3]),([4],[]),([2,3,48,49],[2,3]),([2,3,66,67],[2,3]),([2,3,66,67,68],[2,3]),([2,3,6,66,67],[2,3]),([2,3,66,67,77],[2,3]),([4],[]),([2,3,66,67],[2,3]),([4],[])]
def Z5f(a b:Tree)(h:Int):LSt U:=(L2 [pL 2,pL 3,pI 48 (if ((a.words.length:Int):Int) < (b.words.length:Int) then (b.words.length:Int) else (a.words.length:Int)),pI 49 h] [(.loc 2,(enc .tree a)),(.loc 3,(enc .tree b))])
def Z5e(a b:Tree)(h:Int):LSt U:=(L2 [pL 2,pL 3,pI 66 (if ((a.kids.length:Int):Int) < (b.kids.length:Int) then (b.kids.length:Int) else (a.kids.length:Int)),pI 67 h] [(.loc 2,(enc .tree a)),(.loc 3,(enc .tree b))])
abbrev ZtA(N:Nat)(p:List Nat):=AW (Z1 (Zgm N)) Tryz.f114 ZlD p
abbrev ZvK(N:Nat)(p:List Nat):=SW (Z1 (Zgm N)) Tryz.f114 ZlD p
theorem ZBO(N:Nat)(a b:Tree)(Q:QT)(h:let z2:=a.kind !=b.kind;let z1:=((a.kids.length:Int):Int) !=(b.kids.length:Int);let z0:=(a.kind !=1) && (!z1);((Tt (!z2))/\(Tt (!z2))/\(z2=false->(!z2)=true)/\(iB (bif z2 then true else (a.kind==0)) ((Q .ret (L2 [pB 4 (a.kind==b.kind)] []))) ((Tt (a.kind !=1))/\(Tt (a.kind !=1))/\(Tt (a.kind !=1))/\(Tt (a.kind !=1))/\(Tt (a.kind !=1))/\(Tt (a.kind !=1))/\(Tt (a.kind !=1))/\(Tt z0)/\(Tt z0)/\(Tt z0)/\(Tt z0)/\(z0=true->ZdP (a.words,b.words,()))/\(Tt z0)/\((a.kind !=1)=true->(True->(a.kind !=1)=true))/\((a.kind !=1)=true->(z1=false->z0=true))/\(Tt (a.kind !=1))/\(iB (bif (a.kind !=1) then (bif z1 then true else (!(decide (a.words=b.words)))) else false) ((Q .ret (L2 [pB 4 false] []))) ((Zp (ZtA N [1,1,1,0,1,0,0]) (Z5f a b 0) (xB 0 (ZvK N [1,1,1,1] Q))))))))):
  ZtA N [] (L2 [(0,.agg (enc .tree a)),(1,.agg (enc .tree b))] []) Q:=
 Eq.mpr V6 h
theorem Zp7(N:Nat)(a b:Tree)(s:Int)(N0:NT)(Q:QT)(h:let z1:=Tree.mk b.kind b.words b.kids;let z0:=Tree.mk a.kind a.words a.kids;(iB (decide (s < (if ((a.words.length:Int):Int) < (b.words.length:Int) then (b.words.length:Int) else (a.words.length:Int)))) (((Z8h (z0,s,()))/\(Z8h (z1,s,()))/\(iB (((YZ z0 s):Int) !=(YZ z1 s)) ((Q .ret (L2 [pB 4 false] []))) ((InR (s+1))/\(N0 (Z5f a b (s+1))))))) ((Zp (ZtA N [1,1,1,1,0,1,0,0]) (Z5e a b 0) (xB 2 (ZvK N [1,1,1,1,1] Q)))))):
  ZtA N [1,1,1,0,1,0,0] (Z5f a b s) (xT N0 (xB 0 (ZvK N [1,1,1,1] Q))):=
 Eq.mpr V6 h
theorem Zp6(N:Nat)(a b:Tree)(s:Int)(N1:NT)(Q:QT)(h:∀ ab,ab=a->∀ ae,ae=b->∀ aa,aa=(J9 ab s)->∀ u,u=(J9 ae s)->(iB (decide (s < (if ((a.kids.length:Int):Int) < (b.kids.length:Int) then (b.kids.length:Int) else (a.kids.length:Int)))) (((Z8h (ab,s,()))/\(Z8h (ae,s,()))/\(Z1n (aa,u,()))/\(ZdY (aa,u,()) < N)/\(iB (!(ZW (Z5 aa) (Z5 u))) ((Q .ret (L2 [pB 4 false] []))) ((InR (s+1))/\(N1 (Z5e a b (s+1))))))) ((Q .ret (L2 [pB 4 true] []))))):
  ZtA N [1,1,1,1,0,1,0,0] (Z5e a b s) (xT N1 (xB 2 (ZvK N [1,1,1,1,1] Q))):=
 Eq.mpr V6 (h _ (Z7 _) _ (Z7 _) _ (Z7 _) _ (Z7 _))
def ZwI(N:Nat)(a b:Tree):Prop:=AW (Z1 (Zgm N)) Tryz.f114 ZlD [] (Zb (Zke.can (a,b,())) []) (EQ Tryz.f114 (Z5W (a,b,())) [])
theorem Zv8(ZzF:CT 172 Zb1)(Zom:CT 173 Z0S)(Zol:CT 174 Z0R)(hb:∀ (N:Nat) (a:Tree) (b:Tree) (_:Unit),Z1n (a,b,())->ZdY (a,b,()) < N+1->ZwI N a b):CT 114 YX:=
 Jj (μ:=ZdY) (l:=[(172,Zb1),(173,Z0S),(174,Z0R)]) Za rfl (⟨ZzF,Zom,Zol,trivial⟩) ZlD Tryz.func114 rfl rfl 2 (fun _=> rfl) V5 (fun N ⟨a,b,_⟩=> hb N a b ())
end
theorem Zbi:∀ {ks:List Tree} {i:Nat},Z20 ks->i < ks.length->Z3K (ks.getD i Tree.nil)
 | t ::_,0,h,_=> by simp only [Z20] at h;exact h.1
 | _ ::r,i+1,h,hi=> by simp only [Z20] at h;exact Zbi (ks:=r) (i:=i) h.2 (by simpa using hi)
theorem Z0c:∀ {ks:List Tree} {i:Nat},i < ks.length->Zk (ks.getD i Tree.nil)<=Z9 ks
 | t ::_,0,_=> by simp only [Z9,Qf];omega
 | t ::r,i+1,h=> by
  have:=Z0c (ks:=r) (i:=i) (by simpa using h)
  simp only [Z9,List.getD_cons_succ]
  omega
mutual
theorem YS:∀ (t:Tree) (d l:Int),-1<=ZZ t d l/\ZZ t d l<=max l (-1)
 | .mk _ w ks,d,l=> by
  simp only [ZZ]
  split
  .omega
  .have:=Z1f ks (d - 1) (l - 1 - w.length) V1
   omega
theorem Z1f:∀ (ks:List Tree) (d l:Int),-1<=l->-1<=Zw ks d l/\Zw ks d l<=l
 | [],d,l,h=> by simp only [Zw];omega
 | t ::r,d,l,h=> by
  simp only [Zw]
  split
  .omega
  .have b:=YS t d l
   have s:=Z1f r d (ZZ t d l) b.1
   omega
end
theorem Zda{ks:List Tree}{i:Nat}{d l:Int}(h:i < ks.length)(hl:0<=l):Zw (ks.drop i) d l=Zw (ks.drop (i+1)) d (ZZ (ks.getD i Tree.nil) d l):=by
 rw [Qx h]
 simp only [Zw]
 grind
theorem c80:Contract Tryz.prog cfg 80 ZaZ:=by
 refine Zyz ?_
 rintro N ⟨k,b,ks⟩ d l _ ⟨s,h1,h2,h3,h4⟩ hN
 simp only [Z3K,ZnQ,Zk] at*
 refine ZDe N _ _ _ _ ?_;(try simp only [iB,vcT,forall_eq])
 (simp only [iB,vcS]);(try simp only [iB,vcT])
 try (simp only [vE])
 refine ⟨V4,V4,fun hc=> ?_,fun hc=> ?_⟩
 .have e:ZZ (.mk k b ks) d l= -1:=by
   simp only [ZZ]
   omega
  simp only [Zhi,e]
  exact ⟨⟨rfl,⟨⟨rfl,rfl⟩,trivial⟩,trivial⟩,trivial⟩
 .have e:ZZ (.mk k b ks) d l=Zw ks (d - 1) (l - 1 - b.length):=by
   simp only [ZZ]
   omega
  simp only [Zhi,e]
  refine Zf (ι:=Int × Int) (fun p=> Z7G (.mk k b ks) d l p.1 p.2) (fun p=> 0<=p.2/\p.2<=ks.length/\-1<=p.1/\p.1<=l/\Zw (ks.drop p.2.toNat) (d - 1) p.1=Zw ks (d - 1) (l - 1 - b.length)) (fun p=> ((ks.length:Int) - p.2).toNat) (l - 1 - b.length,0) rfl ⟨V1,V1,V1,V1,by simp⟩ ?_
  rintro ⟨l',i⟩ ⟨h5,h6,h7,h8,u⟩
  dsimp only at*
  refine ZtJ N _ _ _ _ _ _ _ ?_;(try simp only [iB,vcT,forall_eq])
  (simp only [iB,vcS]);(try simp only [iB,vcT])
  try (simp only [vE])
  refine ⟨fun hc=> ?_,fun hc=> ?_⟩
  .have h:i.toNat < ks.length:=V1
   have hr:=YS (ks.getD i.toNat Tree.nil) (d - 1) l'
   have hn:=Z0c h
   have hd:=Zda (d:=d - 1) h hc.2
   refine ⟨V1,V4,⟨Zbi s.2.2 h,by grind,by grind,V1,by grind⟩,by simp only [ZnQ];omega,V4,⟨(ZZ (ks.getD i.toNat Tree.nil) (d - 1) l',i+1),rfl,⟨V1,V1,V1,V1,?_⟩,V1⟩⟩
   grind
  .have e:Zw ks (d - 1) (l - 1 - b.length)=l':=by
    rw [<-u]
    by_cases h:i < ks.length
    .rw [Qx V1]
     simp only [Zw]
     omega
    .rw [Qr V1]
     try rfl
   rw [e]
   trivial
theorem ZzU:Contract Tryz.prog cfg 117 Z6W:=by
 refine Zv7 ?_
 intro l _ b
 refine ZBL _ _ ?_;(try simp only [iB,vcT,forall_eq])
 simp only [ZbX] at b
 refine ⟨fun h=> ?_,⟨by simp only [Qe];omega,?_⟩⟩
 .subst h
  exact ⟨⟨rfl,⟨rfl,trivial⟩,trivial⟩,trivial⟩
 .exact ⟨⟨rfl,⟨⟨rfl,trivial⟩,trivial⟩,trivial⟩,trivial⟩
theorem Zau{a b:List Int}{i:Int}(hi:0<=i)(ha:i < a.length)(hb:i < b.length):(a.drop i.toNat=b.drop i.toNat)↔(a.getD i.toNat 0=b.getD i.toNat 0/\a.drop (i+1).toNat=b.drop (i+1).toNat):=by
 have e:(i+1).toNat=i.toNat+1:=V1
 rw [Qx V1,Qx (l:=b) V1,e]
 simp only [List.cons.injEq,List.getD,Q0 (show i.toNat < a.length by omega),Q0 (show i.toNat < b.length by omega),Xz]
theorem c76:Contract Tryz.prog cfg 76 Zb1:=by
 refine ZyA ?_
 intro a b _ hp
 simp only [ZdP] at hp
 refine ZDg _ _ _ ?_;(try simp only [iB,vcT,forall_eq])
 (simp only [iB,vcS]);(try simp only [iB,vcT])
 refine ⟨fun hc=> ?_,fun hc=> ?_⟩
 .have e:decide (a=b)=false:=by
   simp only [decide_eq_false_iff_not]
   rintro rfl
   omega
  simp only [Zhj,e]
  exact ⟨⟨rfl,⟨rfl,trivial⟩,trivial⟩,trivial⟩
 .have hl:a.length=b.length:=V1
  refine Zf (ι:=Int) (fun p=> Z7H a b p) (fun p=> 0<=p/\p<=a.length/\(a=b↔a.drop p.toNat=b.drop p.toNat)) (fun p=> ((a.length:Int) - p).toNat) 0 rfl ⟨V1,V1,by simp⟩ ?_
  rintro i ⟨u,h2,s⟩
  refine ZtK _ _ _ _ _ ?_;(try simp only [iB,vcT,forall_eq])
  (simp only [iB,vcS]);(try simp only [iB,vcT])
  refine ⟨fun hc=> ⟨V1,V1,fun hn=> ?_,fun he=> ⟨V4,i+1,rfl,⟨V1,V1,?_⟩,V1⟩⟩,fun hc=> ?_⟩
  .have e:decide (a=b)=false:=by
    simp only [decide_eq_false_iff_not,s]
    rw [Zau u hc V1]
    exact fun h=> hn h.1
   simp only [Zhj,e]
   exact ⟨⟨rfl,⟨rfl,trivial⟩,trivial⟩,trivial⟩
  .rw [s,Zau u hc V1]
   exact ⟨fun h=> h.2,fun h=> ⟨by simpa using he,h⟩⟩
  .have e:decide (a=b)=true:=by
    simp only [decide_eq_true_eq,s]
    rw [Qr V1,Qr V1]
   simp only [Zhj,e]
   exact ⟨⟨rfl,⟨rfl,trivial⟩,trivial⟩,trivial⟩
theorem Zom:Contract Tryz.prog cfg 173 Z0S:=by
 refine ZuO ?_
 intro t i _ b
 refine ZBp _ _ _ ?_;(try simp only [iB,vcT,forall_eq])
 (simp only [iB,vcS]);(try simp only [iB,vcT])
 (repeat (refine And.intro (by first | omega | (unfold InR;omega) | (dsimp only;omega)) ?_))
 refine ⟨fun hc=> ?_,fun hc=> ⟨V1,?_⟩⟩
 .have e:YZ t i=0:=by
   unfold YZ
   split
   .try rfl
   .grind
  simp only [Zff,e]
  exact ⟨⟨rfl,⟨⟨rfl,rfl⟩,trivial⟩,trivial⟩,trivial⟩
 .have e:YZ t i=t.words.getD i.toNat 0:=by
   unfold YZ
   omega
  simp only [Zff,e]
  exact ⟨⟨rfl,⟨⟨rfl,rfl⟩,trivial⟩,trivial⟩,trivial⟩
theorem Zol:Contract Tryz.prog cfg 174 Z0R:=by
 refine ZuN ?_
 intro t i _ b
 refine ZBo _ _ _ ?_;(try simp only [iB,vcT,forall_eq])
 (simp only [iB,vcS]);(try simp only [iB,vcT])
 (repeat (refine And.intro (by first | omega | (unfold InR;omega) | (dsimp only;omega)) ?_))
 refine ⟨fun hc=> ?_,fun hc=> ⟨V1,?_⟩⟩
 .have e:J9 t i=Tree.nil:=by
   unfold J9
   split
   .try rfl
   .grind
  simp only [Zfe,e]
  exact ⟨⟨rfl,⟨⟨rfl,rfl⟩,⟨rfl,⟨rfl,trivial⟩⟩⟩,trivial⟩,trivial⟩
 .have e:J9 t i=t.kids.getD i.toNat Tree.nil:=by
   unfold J9
   grind
  simp only [Zfe,e]
  exact ⟨⟨rfl,⟨⟨rfl,rfl⟩,⟨rfl,trivial⟩,⟨rfl,trivial⟩,trivial⟩,trivial⟩,trivial⟩
theorem ZzF:Contract Tryz.prog cfg 172 Zb1:=by
 refine ZuP ?_
 intro a b _ hp
 simp only [ZdP] at hp
 refine ZBq _ _ _ ?_;(try simp only [iB,vcT,forall_eq])
 (simp only [iB,vcS]);(try simp only [iB,vcT])
 refine ⟨fun hc=> ?_,fun hc=> ?_⟩
 .have e:decide (a=b)=false:=by
   simp only [decide_eq_false_iff_not]
   rintro rfl
   omega
  simp only [Zhj,e]
  exact ⟨⟨rfl,⟨rfl,trivial⟩,trivial⟩,trivial⟩
 .have hl:a.length=b.length:=V1
  refine Zf (ι:=Int) (fun p=> Z54 a b p) (fun p=> 0<=p/\p<=a.length/\(a=b↔a.drop p.toNat=b.drop p.toNat)) (fun p=> ((a.length:Int) - p).toNat) 0 rfl ⟨V1,V1,by simp⟩ ?_
  rintro i ⟨u,h2,s⟩
  refine ZoR _ _ _ _ _ ?_;(try simp only [iB,vcT,forall_eq])
  (simp only [iB,vcS]);(try simp only [iB,vcT])
  refine ⟨fun hc=> ⟨V1,V1,fun hn=> ?_,fun he=> ⟨V4,i+1,rfl,⟨V1,V1,?_⟩,V1⟩⟩,fun hc=> ?_⟩
  .have e:decide (a=b)=false:=by
    simp only [decide_eq_false_iff_not,s]
    rw [Zau u hc V1]
    exact fun h=> hn h.1
   simp only [Zhj,e]
   exact ⟨⟨rfl,⟨rfl,trivial⟩,trivial⟩,trivial⟩
  .rw [s,Zau u hc V1]
   exact ⟨fun h=> h.2,fun h=> ⟨by simpa using he,h⟩⟩
  .have e:decide (a=b)=true:=by
    simp only [decide_eq_true_eq,s]
    rw [Qr V1,Qr V1]
   simp only [Zhj,e]
   exact ⟨⟨rfl,⟨rfl,trivial⟩,trivial⟩,trivial⟩
theorem Zih{a b:List Tree}{i:Int}(hi:0<=i)(ha:i < a.length)(hb:i < b.length):(a.drop i.toNat=b.drop i.toNat)↔(a.getD i.toNat Tree.nil=b.getD i.toNat Tree.nil/\a.drop (i+1).toNat=b.drop (i+1).toNat):=by
 have e:(i+1).toNat=i.toNat+1:=V1
 rw [Qx V1,Qx (l:=b) V1,e]
 simp only [List.cons.injEq,List.getD,Q0 (show i.toNat < a.length by omega),Q0 (show i.toNat < b.length by omega),Xz]
theorem Z08{a b:Tree}:ZW a b=true↔a=b:=by simp [ZW]
theorem J3{a b:Tree}:ZW a b=false↔¬a=b:=by simp [ZW]
theorem Zt:∀ (ks:List Tree),ks.length<=Z9 ks
 | []=> by simp [Z9]
 | t ::r=> by
  have:=Zt r
  have:1<=Zk t:=by cases t;simp only [Zk];omega
  simp only [Z9,Qm]
  omega
theorem c26:Contract Tryz.prog cfg 26 Zbe:=by
 refine ZyN c76 ?_
 rintro N ⟨k,s,ks⟩ ⟨k',u,b⟩ _ hp hN
 have ah:=Zt ks
 simp only [Z9c,ZnS,Zk] at hp hN
 refine ZDw N _ _ _ ?_;(try simp only [iB,vcT,forall_eq])
 (simp only [iB,vcS]);(try simp only [iB,vcT])
 try (simp only [vE])
 have aa:ZdP (s,u,()):=by simp only [ZdP];omega
 refine ⟨fun _=> aa,fun hc=> ?_,fun hc=> ?_⟩
 .have e:ZW (.mk k s ks) (.mk k' u b)=false:=by
   rw [J3]
   intro h
   cases h
   simp at hc
  simp only [ZdJ,e]
  exact ⟨⟨rfl,⟨rfl,trivial⟩,trivial⟩,trivial⟩
 .have ab:(k=k'/\s=u)/\ks.length=b.length:=⟨hc.1,V1⟩
  obtain ⟨⟨rfl,rfl⟩,hl⟩:=ab
  refine Zf (ι:=Int) (fun p=> Z7N (.mk k s ks) (.mk k s b) p) (fun p=> 0<=p/\p<=ks.length/\(Tree.mk k s ks= .mk k s b↔ks.drop p.toNat=b.drop p.toNat)) (fun p=> ((ks.length:Int) - p).toNat) 0 rfl ⟨V1,V1,by simp⟩ ?_
  rintro i ⟨h1,h2,h3⟩
  refine ZtQ N _ _ _ _ _ ?_;(try simp only [iB,vcT,forall_eq])
  (simp only [iB,vcS]);(try simp only [iB,vcT])
  try (simp only [vE])
  refine ⟨fun hc=> ⟨V1,V1,?_,?_,fun hn=> ?_,fun he=> ⟨V4,i+1,rfl,⟨V1,V1,?_⟩,V1⟩⟩,fun hc=> ?_⟩
  .have:=Z0c (ks:=ks) (i:=i.toNat) V1
   simp only [Z9c]
   omega
  .have:=Z0c (ks:=ks) (i:=i.toNat) V1
   simp only [ZnS]
   omega
  .have e:ZW (.mk k s ks) (.mk k s b)=false:=by
    rw [J3,h3,Zih h1 hc V1]
    rw [J3] at hn
    exact fun h=> hn h.1
   simp only [ZdJ,e]
   exact ⟨⟨rfl,⟨rfl,trivial⟩,trivial⟩,trivial⟩
  .rw [h3,Zih h1 hc V1]
   exact ⟨fun h=> h.2,fun h=> ⟨Z08.1 he,h⟩⟩
  .have e:ZW (.mk k s ks) (.mk k s b)=true:=by
    rw [Z08,h3]
    rw [Qr V1,Qr V1]
   simp only [ZdJ,e]
   exact ⟨⟨rfl,⟨rfl,trivial⟩,trivial⟩,trivial⟩
theorem Zdr:∀ (l:List Int),trim (l++[0])=trim l
 | []=> rfl
 | x ::r=> by
  show (match trim (r++[0]) with | []=> if x=0 then [] else [x] | y ::s=> x ::y ::s)=_
  rw [Zdr r]
  try rfl
theorem Zkm{x:Int}(hx:x≠0):∀ (l:List Int),trim (l++[x])=l++[x]
 | []=> by simp [trim,hx]
 | y ::r=> by
  show (match trim (r++[x]) with | []=> if y=0 then [] else [y] | z ::s=> y ::z ::s)=_
  rw [Zkm hx r]
  cases r <;> rfl
theorem Znl{l:List Int}{i:Int}(h0:0 < i)(hi:i<=l.length):l.take i.toNat=l.take (i - 1).toNat++[l.getD (i - 1).toNat 0]:=by
 have e:i.toNat=(i - 1).toNat+1:=V1
 rw [e,XI]
 simp only [List.getD,Q0 (show (i - 1).toNat < l.length by omega),Option.toList,Xz]
theorem ZgX:∀ (l:List Int),(trim l).length<=l.length
 | []=> by simp [trim]
 | x ::r=> by
  have:=ZgX r
  simp only [trim]
  grind
theorem ZaK:∀ (l:List Tree),Z9 (ZN l)<=Z9 l
 | []=> by simp [ZN]
 | x ::r=> by
  have:=ZaK r
  simp only [ZN]
  split
  .split
   .simp [Z9]
   .simp [Z9]
  .rename_i h
   rw [h] at this
   simp only [Z9] at*
   omega
mutual
theorem YL:∀ (t:Tree),Zk (Z5 t)<=Zk t
 | .mk k w ks=> by
  have h:=Zc9 ks
  have b:=ZgX w
  have s:=ZaK (Y6 ks)
  simp only [Z5]
  split
  .simp only [Tree.nil,Zk,Z9,Qe];omega
  .split
   .simp only [Zk];omega
   .simp only [Zk];omega
theorem Zc9:∀ (ks:List Tree),Z9 (Y6 ks)<=Z9 ks
 | []=> by simp [Y6]
 | t ::r=> by
  have h:=YL t
  have b:=Zc9 r
  simp only [Y6,Z9]
  omega
end
theorem ZdW:∀ (l:List Tree) (x:Tree),Y6 (l++[x])=Y6 l++[Z5 x]
 | [],x=> rfl
 | y ::r,x=> by simp only [Qq,Y6,ZdW r x]
theorem Z17:∀ (l:List Tree),(Y6 l).length=l.length
 | []=> rfl
 | y ::r=> by simp only [Y6,Qm,Z17 r]
theorem ZaJ{x:Tree}(hx:x.kind=0):∀ (l:List Tree),ZN (l++[x])=ZN l
 | []=> by simp [ZN,hx]
 | y ::r=> by
  show (match ZN (r++[x]) with | []=> if y.kind=0 then [] else [y] | z ::s=> y ::z ::s)=_
  rw [ZaJ hx r]
  try rfl
theorem ZgY{x:Tree}(hx:x.kind≠0):∀ (l:List Tree),ZN (l++[x])=l++[x]
 | []=> by simp [ZN,hx]
 | y ::r=> by
  show (match ZN (r++[x]) with | []=> if y.kind=0 then [] else [y] | z ::s=> y ::z ::s)=_
  rw [ZgY hx r]
  cases r <;> rfl
theorem ZaS{l:List Tree}{i:Int}(h0:0<=i)(hi:i < l.length):l.take (i+1).toNat=l.take i.toNat++[l.getD i.toNat Tree.nil]:=by
 have e:(i+1).toNat=i.toNat+1:=V1
 simp_all
theorem ZlH{l:List Int}(h0:0 < (l.length:Int)):l=l.take ((l.length:Int) - 1).toNat++[l.getD ((l.length:Int) - 1).toNat 0]:=by
 have:=Znl h0 (Xb _)
 rw [QK V1] at this
 exact this
theorem Zi0{l:List Tree}(h0:0 < (l.length:Int)):l=l.take ((l.length:Int) - 1).toNat++[l.getD ((l.length:Int) - 1).toNat Tree.nil]:=by
 have:=ZaS (l:=l) (i:=(l.length:Int) - 1) V1 V1
 rw [QK V1] at this
 exact this
theorem Zng{l:List Int}(h0:0 < (l.length:Int))(hz:l.getD ((l.length:Int) - 1).toNat 0=0):trim (l.take ((l.length:Int) - 1).toNat)=trim l:=by
 have e:=Zdr (l.take ((l.length:Int) - 1).toNat)
 have h:=ZlH h0
 grind
theorem Zni{l:List Int}(h:¬0 < (l.length:Int)\/¬l.getD ((l.length:Int) - 1).toNat 0=0):trim l=l:=by
 by_cases h0:0 < (l.length:Int)
 .have e:=Zkm (x:=l.getD ((l.length:Int) - 1).toNat 0) V1 (l.take ((l.length:Int) - 1).toNat)
  rw [<-ZlH h0] at e
  exact e
 .have:l=[]:=Q3 V1
  subst this
  try rfl
theorem ZiL{l:List Tree}(h0:0 < (l.length:Int))(hz:(l.getD ((l.length:Int) - 1).toNat Tree.nil).kind=0):ZN (l.take ((l.length:Int) - 1).toNat)=ZN l:=by
 have e:=ZaJ hz (l.take ((l.length:Int) - 1).toNat)
 rw [<-Zi0 h0] at e
 exact e.symm
theorem ZiN{l:List Tree}(h:¬0 < (l.length:Int)\/¬(l.getD ((l.length:Int) - 1).toNat Tree.nil).kind=0):ZN l=l:=by
 by_cases h0:0 < (l.length:Int)
 .have e:=ZgY (x:=l.getD ((l.length:Int) - 1).toNat Tree.nil) V1 (l.take ((l.length:Int) - 1).toNat)
  rw [<-Zi0 h0] at e
  exact e
 .have:l=[]:=Q3 V1
  subst this
  try rfl
theorem c75:Contract Tryz.prog cfg 75 YV:=by
 refine ZyB ZzU ?_
 rintro N ⟨k,ws,ks⟩ _ hp hN
 have af:=Zt ks
 simp only [Z0v,ZnR,Zk] at hp hN
 refine ZDh N _ _ ?_;(try simp only [iB,vcT,forall_eq])
 (simp only [iB,vcS]);(try simp only [iB,vcT])
 try (simp only [vE])
 refine ⟨fun hc=> ?_,fun u=> ⟨by simp only [ZbX];omega,?_⟩⟩
 .have e:Z5 (.mk k ws ks)=Tree.nil:=by simp [Z5,hc]
  simp only [ZdI,e]
  exact ⟨⟨rfl,⟨⟨rfl,rfl⟩,⟨rfl,⟨rfl,trivial⟩⟩⟩,trivial⟩,trivial⟩
 .refine Zf (ι:=Int × List Tree) (fun p=> Z7K (.mk k ws ks) p.1 p.2) (fun p=> 0<=p.1/\p.1<=ks.length/\p.2=Y6 (ks.take p.1.toNat)) (fun p=> ((ks.length:Int) - p.1).toNat) (0,[]) rfl ⟨V1,V1,rfl⟩ ?_
  rintro ⟨i,l⟩ ⟨h1,h2,b⟩
  dsimp only at*
  have hl:l.length=i.toNat:=by rw [b,Z17,Qg];omega
  refine ZtN N _ _ _ _ _ ?_;(try simp only [iB,vcT,forall_eq])
  (simp only [iB,vcS]);(try simp only [iB,vcT])
  try (simp only [vE])
  refine ⟨fun hc=> ?_,fun hc=> ⟨fun s=> ?_,fun s=> ?_⟩⟩
  .have hm:=Z0c (ks:=ks) (i:=i.toNat) V1
   have aa:Y6 (ks.take (i+1).toNat)=l++[Z5 (ks.getD i.toNat Tree.nil)]:=by rw [ZaS h1 hc,ZdW,b]
   exact ⟨V1,by simp only [Z0v];omega,by simp only [ZnR];omega,by simp only [Qm,Qe];omega,V4,(i+1,_),rfl,⟨V1,V1,aa.symm⟩,V1⟩
  .have hi:ks.take i.toNat=ks:=QK V1
   rw [hi] at b
   refine Zf (ι:=List Int) (fun p=> Z7J (.mk k ws ks) l p) (fun p=> p.length<=ws.length/\trim p=trim ws) (fun p=> p.length) ws rfl ⟨V1,rfl⟩ ?_
   rintro w ⟨h6,h7⟩
   refine ZtM N _ _ _ _ _ ?_;(try simp only [iB,vcT,forall_eq])
   (simp only [iB,vcS]);(try simp only [iB,vcT])
   refine ⟨fun h=> by unfold InR;omega,fun h=> by omega,fun hc=> ⟨V4,V1,_,rfl,⟨by rw [List.length_take];omega,?_⟩,by rw [List.length_take];omega⟩,fun hc=> ?_⟩
   .rw [Zng hc.1 hc.2,h7]
   .have hw:w=trim ws:=by rw [<-h7,Zni hc]
    refine Zf (ι:=List Tree) (fun p=> Z7I (.mk k ws ks) w p) (fun p=> p.length<=l.length/\ZN p=ZN l) (fun p=> p.length) l rfl ⟨V1,rfl⟩ ?_
    rintro q ⟨h8,h9⟩
    refine ZtL N _ _ _ _ _ ?_;(try simp only [iB,vcT,forall_eq])
    (simp only [iB,vcS]);(try simp only [iB,vcT])
    refine ⟨fun h=> by unfold InR;omega,fun h=> by omega,fun hc=> ⟨V4,V1,_,rfl,⟨by rw [List.length_take];omega,?_⟩,by rw [List.length_take];omega⟩,fun hc=> ?_⟩
    .rw [ZiL hc.1 hc.2,h9]
    .have hq:q=ZN (Y6 ks):=by rw [<-b,<-h9,ZiN hc]
     have e:Z5 (.mk k ws ks)= .mk k w q:=by
      subst s
      simp only [Z5,hw,hq]
      try rfl
     simp only [ZdI,e]
     trivial
  .have hi:ks.take i.toNat=ks:=QK V1
   rw [hi] at b
   have e:Z5 (.mk k ws ks)= .mk k ws l:=by simp only [Z5,if_neg u,if_neg s,b]
   simp only [ZdI,e]
   trivial
noncomputable section
def Zmx:ArgL (Int × Unit):=(.cons (YR .i64) .nil)
def Zjh(a:Int × Unit):Prop:=True
def Zj0(a:Int × Unit):V U:= .tup [(false,[ci (if wd a.1 < 0 then 0 else wd a.1)]),(false,[.bool (decide (0<=wd a.1))])]
def Z6C:Fs U:=fs Zmx (fun a=> [Zjh a]) Zj0
def ZmB:ArgL (Int × Int × Unit):=(.cons (YR .i64) (.cons (YR .u64) .nil))
def Zfz(a:Int × Int × Unit):Prop:=0<=a.2.1/\a.2.1 < 18446744073709551616
def ZpD(a:Int × Int × Unit):V U:= .c (.bool (Zvn a.1 a.2.1))
def Z6I:Fs U:=fs ZmB (fun a=> [Zfz a]) ZpD
def ZpS(a:Int × Unit):V U:= .c (.bool (decide (2<=a.1/\a.1<=9)))
def Z0m:Fs U:=fs Zmx (fun a=> [Zjh a]) ZpS
def ZpE(a:Int × Unit):V U:= .c (.bool (decide (2<=a.1/\a.1<=7)))
def Z1I:Fs U:=fs Zmx (fun a=> [Zjh a]) ZpE
def ZmN:ArgL (Int × Tree × Unit):=(.cons (YR .i64) (.cons (aEl .tree) .nil))
def ZfM(a:Int × Tree × Unit):Prop:=rng a.2.1
def ZpJ(a:Int × Tree × Unit):V U:= .c (.bool (Z9P a.1 a.2.1))
def Z6S:Fs U:=fs ZmN (fun a=> [ZfM a]) ZpJ
def Z3X(a:Tree × Int × Unit):Prop:=Zk a.1<=20000000000/\rng a.1/\0<=a.2.1/\a.2.1<=1000
def Z9k(a:Tree × Int × Unit):Nat:=Zk a.1
def Zfi(a:Tree × Int × Unit):V U:= .c (.bool (Zi a.1 a.2.1))
def Z6V:Fs U:=fs ZmT (fun a=> [Z3X a]) Zfi
def ZdO(a:Tree × Unit):Prop:=Zk a.1<=20000000000/\rng a.1
def ZwT(a:Tree × Unit):V U:= .c (.bool (Zi a.1 64))
def JO:Fs U:=fs Zk6 (fun a=> [ZdO a]) ZwT
def ZqX:Z6 U:=lvl [([0],[]),([0,4],[4]),([0,4,11],[4]),([2,3],[]),([2,3],[])]
abbrev ZE4(p:List Nat):=AW (Z1 ZjN) Tryz.f232 ZqX p
theorem ZAS(c:Int)(Q:QT)(h:((Tt (!(decide (c < 0))))/\((decide (c < 0))=false->(!(decide (c < 0)))=true)/\(iB (bif (decide (c < 0)) then true else (decide ((6:Int)<=c))) ((Q .ret (L2 [pI 2 0,pB 3 false] []))) (((0:Int)<=c/\c < ((6:Nat):Int))/\(Q .ret (L2 [pI 2 (List.getD [0,1,8,16,32,64] c.toNat 0),pB 3 true] [])))))):
  ZE4 [] (L2 [pI 0 c] []) Q:=
 Eq.mpr V6 h
def ZvM(c:Int):Prop:=AW (Z1 ZjN) Tryz.f232 ZqX [] (Zb (Zmx.can (c,())) []) (EQ Tryz.f232 (Zj0 (c,())) [])
theorem Zui(hb:∀ (c:Int) (_:Unit),Zjh (c,())->ZvM c):CT 232 Z6C:=
 Z0 (l:=[]) Za rfl trivial ZqX Tryz.func232 rfl rfl 1 (fun _=> rfl) V5 (fun ⟨c,_⟩=> hb c ())
def ZlN:List (FuncId × Fs U):=[(232,Z6C)]
def Zr2:Z6 U:=lvl [([0,1],[]),([1,5,6],[]),([4],[])]
abbrev ZE9(p:List Nat):=AW (Z1 ZlN) Tryz.f221 Zr2 p
theorem ZB0(c n:Int)(Q:QT)(h:let z2:=((if wd c < 0 then 0 else wd c):Int)==64;let z1:=decide (0<=wd c);let z0:=z1 && (!z2);((Zjh (c,()))/\((Tt z1)/\(Tt z1)/\(Tt z0)/\(Tt z0)/\(z0=true->(0:Int)<=(if wd c < 0 then 0 else wd c))/\(Tt z0)/\(z1=true->(True->z1=true))/\(z1=true->(z2=false->z0=true))/\(Tt z1)/\(Q .ret (L2 [(4,.c (.bool (bif z1 then (bif z2 then true else (((Int.fdiv n (2 ^ (min (Int.toNat (if wd c < 0 then 0 else wd c)) (IntKind.bits .u64)))):Int)==0)) else false)))] []))))):
  ZE9 [] (L2 [pI 0 c,(1,.c (.int .u64 n))] []) Q:=
 Eq.mpr V6 h
def ZvU(c n:Int):Prop:=AW (Z1 ZlN) Tryz.f221 Zr2 [] (Zb (ZmB.can (c,n,())) []) (EQ Tryz.f221 (ZpD (c,n,())) [])
theorem Zuq(Zzi:CT 232 Z6C)(hb:∀ (c:Int) (n:Int) (_:Unit),Zfz (c,n,())->ZvU c n):CT 221 Z6I:=
 Z0 (l:=[(232,Z6C)]) Za rfl (⟨Zzi,trivial⟩) Zr2 Tryz.func221 rfl rfl 2 (fun _=> rfl) V5 (fun ⟨c,n,_⟩=> hb c n ())
def Zrz:Z6 U:=lvl [([0],[]),([2],[])]
abbrev ZEw(p:List Nat):=AW (Z1 ZjN) Tryz.f125 Zrz p
theorem ZBG(k:Int)(Q:QT)(h:let z0:=decide ((2:Int)<=k);((Tt z0)/\(Tt z0)/\(Q .ret (L2 [(2,.c (.bool (bif z0 then (decide (k<=9)) else false)))] [])))):
  ZEw [] (L2 [pI 0 k] []) Q:=
 Eq.mpr V6 h
def ZwA(k:Int):Prop:=AW (Z1 ZjN) Tryz.f125 Zrz [] (Zb (Zmx.can (k,())) []) (EQ Tryz.f125 (ZpS (k,())) [])
theorem Zv3(hb:∀ (k:Int) (_:Unit),Zjh (k,())->ZwA k):CT 125 Z0m:=
 Z0 (l:=[]) Za rfl trivial Zrz Tryz.func125 rfl rfl 1 (fun _=> rfl) V5 (fun ⟨k,_⟩=> hb k ())
abbrev ZEa(p:List Nat):=AW (Z1 ZjN) Tryz.f220 Zrz p
theorem ZB1(k:Int)(Q:QT)(h:let z0:=decide ((2:Int)<=k);((Tt z0)/\(Tt z0)/\(Q .ret (L2 [(2,.c (.bool (bif z0 then (decide (k<=7)) else false)))] [])))):
  ZEa [] (L2 [pI 0 k] []) Q:=
 Eq.mpr V6 h
def ZvV(k:Int):Prop:=AW (Z1 ZjN) Tryz.f220 Zrz [] (Zb (Zmx.can (k,())) []) (EQ Tryz.f220 (ZpE (k,())) [])
theorem Zur(hb:∀ (k:Int) (_:Unit),Zjh (k,())->ZvV k):CT 220 Z1I:=
 Z0 (l:=[]) Za rfl trivial Zrz Tryz.func220 rfl rfl 1 (fun _=> rfl) V5 (fun ⟨k,_⟩=> hb k ())
def Zm2:List (FuncId × Fs U):=[(220,Z1I),(221,Z6I)]
def Zrh:Z6 U:=lvl [([0,3],[3]),([0,3,5],[3]),([4],[]),([3,32],[3]),([4],[]),([4],[])]
abbrev ZEj(p:List Nat):=AW (Z1 Zm2) Tryz.f181 Zrh p
theorem ZBi(l:Int)(t:Tree)(Q:QT)(h:let z2:=List.getD t.words (Int.toNat 0) (0:Int);let z1:=bif (t.kind==10) then (((t.kids.length:Int):Int)==0) else false;let z0:=bif z1 then (((t.words.length:Int):Int)==1) else false;((Zjh (l,()))/\(iB (decide (2<=l/\l<=7)) ((Tt (t.kind==10))/\(Tt (t.kind==10))/\(Tt (t.kind==10))/\(Tt (t.kind==10))/\(Tt z1)/\(Tt z1)/\(Tt z1)/\(Tt z1)/\(Tt z0)/\(z0=true->InR (l - 2))/\(Tt z0)/\(Tt z0)/\(z0=true->(0:Int)<=0/\0 < (t.words.length:Int))/\(Tt z0)/\(Tt z0)/\(Tt z0)/\(z0=true->Zfz ((l - 2),z2,()))/\(Tt z0)/\(Q .ret (L2 [(4,.c (.bool (bif z0 then (Zvn (l - 2) z2) else false)))] []))) ((iB (l==9) ((Q .ret (L2 [pB 4 (t.kind==1)] []))) ((Q .ret (L2 [pB 4 (t.kind !=10)] [])))))))):
  ZEj [] (L2 [pI 0 l,(1,.agg (enc .tree t))] []) Q:=
 Eq.mpr V6 h
def Zwc(l:Int)(t:Tree):Prop:=AW (Z1 Zm2) Tryz.f181 Zrh [] (Zb (ZmN.can (l,t,())) []) (EQ Tryz.f181 (ZpJ (l,t,())) [])
theorem ZuI(Zoi:CT 220 Z1I)(Zzo:CT 221 Z6I)(hb:∀ (l:Int) (t:Tree) (_:Unit),ZfM (l,t,())->Zwc l t):CT 181 Z6S:=
 Z0 (l:=[(220,Z1I),(221,Z6I)]) Za rfl (⟨Zoi,Zzo,trivial⟩) Zrh Tryz.func181 rfl rfl 2 (fun _=> rfl) V5 (fun ⟨l,t,_⟩=> hb l t ())
def Z36(N:Nat):List (FuncId × Fs U):=(130,fs ZmT (fun a=> [Z3X a,Z9k a < N]) Zfi) ::[(125,Z0m),(181,Z6S)]
def Ze6:Z6 U:=lvl [([1,2],[2]),([1,2,8],[2]),([4],[]),([1,2,22],[2]),([4],[]),([1,2,36],[2]),([4],[]),([1,2,39],[2]),([1,2,52],[2]),([4],[]),([1,2,53],[2]),([4],[]),([1,2,71,72,73],[2]),([1,2,71,72,73,74],[2]),([1,2,6,71,72,73],[2,6]),([1,2,6,7,71,72,73],[2,6]),([1,2,6,7,71,72,73,82],[2,6]),([1,2,6,7,71,72,73],[2,6]),([1,2,71,72,73,95],[2]),([4],[]),([1,2,71,72,73],[2]),([4],[])]
def Z2A(t:Tree)(d b:Int):LSt U:=(L2 [pI 1 d,pL 2,(71,.c (sU .tree t.kids .unk)),pI 72 (t.kids.length:Int),pI 73 b] [(.loc 2,(enc .tree t))])
abbrev ZAN(N:Nat)(p:List Nat):=AW (Z1 (Z36 N)) Tryz.f130 Ze6 p
abbrev ZCZ(N:Nat)(p:List Nat):=SW (Z1 (Z36 N)) Tryz.f130 Ze6 p
theorem ZBE(N:Nat)(t:Tree)(d:Int)(Q:QT)(h:let z7:=((t.kids.length:Int):Int)==0;let z6:=(Q .ret (L2 [pB 4 false] []));let z5:=(Zp (ZAN N [1,1,0,1,0,0]) (Z2A t d 0) (xB 1 (ZCZ N [1,1,1] Q)));let z4:=((t.words.length:Int):Int)==1;let z3:=((t.words.length:Int):Int)==0;let z2:= !(decide (2<=t.kind/\t.kind<=9));let z1:=decide ((65536:Int)<=(t.words.length:Int));let z0:=bif z2 then true else (decide ((0:Int) < (t.words.length:Int)));(iB (t.kind==0) ((Tt z3)/\(Tt z3)/\(Tt z3)/\(Tt z3)/\(Q .ret (L2 [(4,.c (.bool (bif z3 then z7 else false)))] []))) ((iB (t.kind==10) ((Tt z4)/\(Tt z4)/\(Tt z4)/\(Tt z4)/\(Q .ret (L2 [(4,.c (.bool (bif z4 then z7 else false)))] []))) ((iB (d==0) z6 ((iB (t.kind==1) ((Tt (!z1))/\(Tt (!z1))/\(Tt (!z1))/\(z1=false->(!z1)=true)/\(iB (bif z1 then true else (decide ((65536:Int)<=(t.kids.length:Int)))) z6 z5)) ((Zjh (t.kind,()))/\(Tt (!z2))/\(Tt (!z2))/\(Tt (!z2))/\(z2=false->(!z2)=true)/\(Tt (!z0))/\(Tt (!z0))/\(Tt (!z0))/\(z0=false->(!z0)=true)/\(iB (bif z0 then true else (decide ((1048576:Int)<=(t.kids.length:Int)))) z6 z5)))))))))):
  ZAN N [] (L2 [(0,.agg (enc .tree t)),pI 1 d] []) Q:=
 Eq.mpr V6 h
theorem ZoW(N:Nat)(t:Tree)(d s:Int)(N0:NT)(Q:QT)(h:∀ u,u=(t.kids.getD s.toNat Tree.nil)->∀ b,b=u->let z3:=N0 (Z2A t d (s+1));let z2:=(Q .ret (L2 [pB 4 false] []));let z1:= !(u.kind !=10);let z0:= !(Z9P t.kind b);(iB (decide (s < (t.kids.length:Int))) (((0:Int)<=s/\s < (t.kids.length:Int))/\(iB (t.kind !=1) ((ZfM (t.kind,b,()))/\((Tt (!z0))/\((!z0)=true->InR (d - 1))/\(Tt (!z0))/\(Tt (!z0))/\((!z0)=true->Z3X (b,(d - 1),()))/\((!z0)=true->Z9k (b,(d - 1),()) < N)/\(Tt (!z0))/\(z0=false->(!z0)=true)/\(iB (bif z0 then true else (!(Zi b (d - 1)))) z2 ((InR (s+1))/\z3)))) ((Tt (!z1))/\((!z1)=true->InR (d - 1))/\(Tt (!z1))/\(Tt (!z1))/\((!z1)=true->Z3X (b,(d - 1),()))/\((!z1)=true->Z9k (b,(d - 1),()) < N)/\(Tt (!z1))/\(z1=false->(!z1)=true)/\(iB (bif z1 then true else (!(Zi b (d - 1)))) z2 ((InR (s+1))/\z3))))) ((Q .ret (L2 [pB 4 true] []))))):
  ZAN N [1,1,0,1,0,0] (Z2A t d s) (xT N0 (xB 1 (ZCZ N [1,1,1] Q))):=
 Eq.mpr V6 (h _ rfl _ (Z7 _))
def Zwy(N:Nat)(t:Tree)(d:Int):Prop:=AW (Z1 (Z36 N)) Tryz.f130 Ze6 [] (Zb (ZmT.can (t,d,())) []) (EQ Tryz.f130 (Zfi (t,d,())) [])
theorem Zv2(Zoo:CT 125 Z0m)(ZzC:CT 181 Z6S)(hb:∀ (N:Nat) (t:Tree) (d:Int) (_:Unit),Z3X (t,d,())->Z9k (t,d,()) < N+1->Zwy N t d):CT 130 Z6V:=
 Jj (μ:=Z9k) (l:=[(125,Z0m),(181,Z6S)]) Za rfl (⟨Zoo,ZzC,trivial⟩) Ze6 Tryz.func130 rfl rfl 2 (fun _=> rfl) V5 (fun N ⟨t,d,_⟩=> hb N t d ())
def Zs0:List (FuncId × Fs U):=[(130,Z6V)]
def ZyU:Z6 U:=lvl [([1],[1]),([2],[])]
abbrev A82(p:List Nat):=AW (Z1 Zs0) Tryz.f82 ZyU p
theorem ZDd(t:Tree)(Q:QT)(h:let z0:=Tree.mk t.kind t.words t.kids;((Z3X (z0,64,()))/\(Q .ret (L2 [pB 2 (Zi z0 64)] [])))):
  A82 [] (L2 [(0,.agg (enc .tree t))] []) Q:=
 Eq.mpr V6 h
def ZAj(t:Tree):Prop:=AW (Z1 Zs0) Tryz.f82 ZyU [] (Zb (Zk6.can (t,())) []) (EQ Tryz.f82 (ZwT (t,())) [])
theorem Zyy(ZzQ:CT 130 Z6V)(hb:∀ (t:Tree) (_:Unit),ZdO (t,())->ZAj t):CT 82 JO:=
 Z0 (l:=[(130,Z6V)]) Za rfl (⟨ZzQ,trivial⟩) ZyU Tryz.func82 rfl rfl 1 (fun _=> rfl) V5 (fun ⟨t,_⟩=> hb t ())
end
theorem Z2K:∀ (l:List Int),trim l=[]↔∀ i:Nat,l.getD i 0=0
 | []=> by simp [trim]
 | x ::r=> by
  have s:=Z2K r
  constructor
  .intro h i
   simp only [trim] at h
   split at h
   .rename_i b
    split at h
    .cases i with
     | zero=> simpa
     | succ i=> simp_all
    .cases h
   .cases h
  .intro h
   have u:=h 0
   have b:trim r=[]:=s.2 fun i=> by simpa using h (i+1)
   simp only [trim,b]
   grind
theorem Z12(x:Int)(r:List Int):trim (x ::r)=if trim r=[]/\x=0 then [] else x ::trim r:=by
 simp only [trim]
 grind
theorem Z8Y:∀ (a b:List Int),trim a=trim b↔∀ i:Nat,a.getD i 0=b.getD i 0
 | [],b=> by
  rw [show trim []=[] from rfl,eq_comm,Z2K]
  simp [eq_comm]
 | x ::r,[]=> by
  rw [show trim []=[] from rfl,Z2K]
  simp
 | x ::r,y ::s=> by
  have u:=Z8Y r s
  constructor
  .intro h i
   have aa:x=y/\trim r=trim s:=by
    rw [Z12,Z12] at h
    grind
   cases i with
   | zero=> grind
   | succ i=> simp_all
  .intro h
   have h0:x=y:=by simpa using h 0
   have hr:trim r=trim s:=u.2 fun i=> by simpa using h (i+1)
   rw [Z12,Z12,h0,hr]
def ZvL(l:List Tree):Prop:=∀ x∈l,x.kind=0->x=Tree.nil
theorem J0(x:Tree)(r:List Tree):ZN (x ::r)=if ZN r=[]/\x.kind=0 then [] else x ::ZN r:=by
 simp only [ZN]
 grind
theorem Z1Y:∀ (l:List Tree),ZvL l->(ZN l=[]↔∀ i:Nat,l.getD i Tree.nil=Tree.nil)
 | [],_=> by simp [ZN]
 | x ::r,hn=> by
  have s:=Z1Y r (fun y b=> hn y (Q4 _ b))
  have hx:=hn x (Q5 ..)
  rw [J0]
  constructor
  .intro h i
   split at h
   .rename_i hc
    cases i with
    | zero=> grind
    | succ i=> simp_all
   .cases h
  .intro h
   have u:x=Tree.nil:=by simpa using h 0
   have hr:ZN r=[]:=s.2 fun i=> by simpa using h (i+1)
   rw [if_pos ⟨hr,by rw [u];rfl⟩]
theorem Z6o:∀ (a b:List Tree),ZvL a->ZvL b->(ZN a=ZN b↔∀ i:Nat,a.getD i Tree.nil=b.getD i Tree.nil)
 | [],b,_,hb=> by
  rw [show ZN []=[] from rfl,eq_comm,Z1Y b hb]
  simp [eq_comm]
 | x ::r,[],ha,_=> by
  rw [show ZN []=[] from rfl,Z1Y _ ha]
  simp
 | x ::r,y ::s,ha,hb=> by
  have ih:=Z6o r s (fun y u=> ha y (Q4 _ u)) (fun y u=> hb y (Q4 _ u))
  have hx:=ha x (Q5 ..)
  have u:=hb y (Q5 ..)
  constructor
  .intro h i
   have ab:x=y/\ZN r=ZN s:=by
    rw [J0,J0] at h
    split at h <;> split at h
    .grind
    .cases h
    .cases h
    .simpa using h
   cases i with
   | zero=> grind
   | succ i=> simp_all
  .intro h
   have h0:x=y:=by simpa using h 0
   have hr:ZN r=ZN s:=ih.2 fun i=> by simpa using h (i+1)
   rw [J0,J0,h0,hr]
theorem ZnN:Z5 Tree.nil=Tree.nil:=by rfl
theorem Z6c(t:Tree):(Z5 t).kind=t.kind:=by
 obtain ⟨k,w,ks⟩:=t
 simp only [Z5]
 split
 .rename_i h;simp [h,Tree.nil]
 .split
  .rename_i h;simp [h]
  .try rfl
theorem Z6f:∀ (l:List Tree),ZvL (Y6 l)
 | []=> by intro x b;trivial
 | t ::r=> by
  intro x b h
  simp only [Y6,Q8] at b
  rcases b with rfl | b
  .rw [Z6c] at h
   obtain ⟨k,w,ks⟩:=t
   simp only [Tree.kind_mk] at h
   simp [Z5,h]
  .exact Z6f r x b h
theorem Z0b:∀ (l:List Tree) (i:Nat),(Y6 l).getD i Tree.nil=Z5 (l.getD i Tree.nil)
 | [],i=> by rfl
 | t ::r,0=> by simp [Y6]
 | t ::r,i+1=> by simpa [Y6] using Z0b r i
theorem ZfW(a b:List Tree):Y6 a=Y6 b↔a.length=b.length/\∀ i:Nat,Z5 (a.getD i Tree.nil)=Z5 (b.getD i Tree.nil):=by
 constructor
 .intro h
  refine ⟨by rw [<-Z17 a,h,Z17],fun i=> ?_⟩
  rw [<-Z0b,h,Z0b]
 .rintro ⟨hl,h⟩
  apply List.ext_getElem (by rw [Z17,Z17,hl])
  intro i u s
  have:=h i
  rw [<-Z0b,<-Z0b] at this
  grind
theorem Jg(a b:Tree):Z5 a=Z5 b↔a.kind=b.kind/\(a.kind=0\/(if a.kind=1 then (∀ i:Nat,a.words.getD i 0=b.words.getD i 0) else a.words=b.words/\a.kids.length=b.kids.length)/\∀ i:Nat,Z5 (a.kids.getD i Tree.nil)=Z5 (b.kids.getD i Tree.nil)):=by
 obtain ⟨k,w,ks⟩:=a
 obtain ⟨k',u,s⟩:=b
 show _↔k=k'/\(k=0\/(if k=1 then (∀ i:Nat,w.getD i 0=u.getD i 0) else w=u/\ks.length=s.length)/\∀ i:Nat,Z5 (ks.getD i Tree.nil)=Z5 (s.getD i Tree.nil))
 by_cases hk:k=k'
 .subst hk
  simp only [true_and]
  by_cases h0:k=0
  .simp [Z5,h0]
  .by_cases h1:k=1
   .subst h1
    simp only [Z5,if_neg h0,if_true,Tree.mk.injEq,true_and,Z8Y,Z6o _ _ (Z6f _) (Z6f _),Z0b]
    simp
   .simp only [Z5,if_neg h0,if_neg h1,Tree.mk.injEq,true_and,ZfW]
    grind
 .simp only [hk,false_and,iff_false]
  intro h
  have:=congrArg Tree.kind h
  rw [Z6c,Z6c] at this
  exact hk this
theorem ZgT{a b:Tree}(h:Z5 a=Z5 b)(h0:a.kind≠0)(i:Nat):a.words.getD i 0=b.words.getD i 0:=by
 obtain ⟨_,s⟩:=(Jg a b).1 h
 grind
theorem ZjR{a b:Tree}(h:Z5 a=Z5 b)(h0:a.kind≠0)(i:Nat):Z5 (a.kids.getD i Tree.nil)=Z5 (b.kids.getD i Tree.nil):=by
 obtain ⟨_,s⟩:=(Jg a b).1 h
 grind
theorem ZcH(t:Tree)(i:Int):Zk (J9 t i)<=Zk t/\(i < t.kids.length->0<=i->Zk (J9 t i) < Zk t):=by
 obtain ⟨k,w,ks⟩:=t
 unfold J9
 have b:Zk Tree.nil=1:=rfl
 split
 .simp only [b,Zk];omega
 .simp only [Tree.kids_mk]
  by_cases hi:i.toNat < ks.length
  .have:=Z0c hi
   simp only [Zk];omega
  .rw [List.getD,Xd V1]
   simp only [Option.getD_none,b,Zk];omega
theorem Z9U:Contract Tryz.prog cfg 114 YX:=by
 refine Zv8 ZzF Zom Zol ?_
 rintro N a b _ hp hN
 have la:a.words.length+a.kids.length < Zk a:=by obtain ⟨k,w,ks⟩:=a;have:=Zt ks;simp only [Zk,Tree.words_mk,Tree.kids_mk];omega
 have lb:b.words.length+b.kids.length < Zk b:=by obtain ⟨k,w,ks⟩:=b;have:=Zt ks;simp only [Zk,Tree.words_mk,Tree.kids_mk];omega
 simp only [Z1n,ZdY] at hp hN
 have no:¬Z5 a=Z5 b->ZK cfg Tryz.f114.ntmps Tryz.f114.results.toList (Z5W (a,b,())) [] .ret (⟨[(4,.c (.bool false))],[],[]⟩:LSt U):=by
  intro h
  have e:ZW (Z5 a) (Z5 b)=false:=J3.2 h
  simp only [Z5W,e]
  exact ⟨⟨rfl,⟨rfl,trivial⟩,trivial⟩,trivial⟩
 refine ZBO N _ _ _ ?_;(try simp only [iB,vcT,forall_eq])
 (simp only [iB,vcS]);(try simp only [iB,vcT])
 refine ⟨fun hc=> ?_,fun hc=> ?_⟩
 .have e:ZW (Z5 a) (Z5 b)=(a.kind==b.kind):=by
   by_cases s:a.kind=b.kind
   .have h0:a.kind=0:=by rcases hc with h | h;exact absurd s h;exact h
    rw [Z08.2 ((Jg a b).2 ⟨s,.inl h0⟩)]
    simp [s]
   .rw [J3.2 (fun h=> s ((Jg a b).1 h).1)]
    simp [s]
  simp only [Z5W,e]
  exact ⟨⟨rfl,⟨rfl,trivial⟩,trivial⟩,trivial⟩
 .refine ⟨fun _=> by simp only [ZdP];omega,fun h h'=> ⟨h,h'⟩,fun hd=> no ?_,fun hd=> ?_⟩
  .intro h
   obtain ⟨_,h2⟩:=(Jg a b).1 h
   grind
  .refine Zf (ι:=Int) (fun p=> Z5f a b p) (fun p=> 0<=p/\p<=2000000000000/\∀ j:Nat,j < p.toNat->a.words.getD j 0=b.words.getD j 0) (fun p=> (2000000000000 - p).toNat) 0 rfl ⟨V1,V1,fun j u=> by simp at u⟩ ?_
   rintro i ⟨h1,h2,h3⟩
   refine Zp7 N _ _ _ _ _ ?_;(try simp only [iB,vcT,forall_eq])
   (simp only [iB,vcS]);(try simp only [iB,vcT])
   have wa:∀ t:Tree,YZ t i=t.words.getD i.toNat 0:=fun t=> by unfold YZ;omega
   refine ⟨fun hi=> ⟨trivial,trivial,fun hn=> no fun h=> hn ?_,fun he=> ⟨?_,?_⟩⟩,fun hi=> ?_⟩
   .rw [wa,wa]
    exact ZgT h hc.2 _
   .unfold InR;omega
   .refine ⟨i+1,rfl,⟨V1,V1,fun j u=> ?_⟩,V1⟩
    by_cases hj':j < i.toNat
    .exact h3 j hj'
    .have:j=i.toNat:=V1
     simp_all
   .have hw:∀ j:Nat,a.words.getD j 0=b.words.getD j 0:=fun j=> by
     grind
    refine Zf (ι:=Int) (fun p=> Z5e a b p) (fun p=> 0<=p/\p<=2000000000000/\∀ j:Nat,j < p.toNat->Z5 (a.kids.getD j Tree.nil)=Z5 (b.kids.getD j Tree.nil)) (fun p=> (2000000000000 - p).toNat) 0 rfl ⟨V1,V1,fun j u=> by simp at u⟩ ?_
    rintro q ⟨h5,h6,h7⟩
    refine Zp6 N _ _ _ _ _ ?_;(try simp only [iB,vcT,forall_eq])
    (simp only [iB,vcS]);(try simp only [iB,vcT])
    have ka:∀ t:Tree,J9 t q=t.kids.getD q.toNat Tree.nil:=fun t=> by unfold J9;grind
    have ma:=ZcH a q
    have mb:=ZcH b q
    try (simp only [vE])
    refine ⟨fun hq=> ⟨trivial,trivial,?_,?_,fun hn=> no fun h=> ?_,fun he=> ⟨?_,?_⟩⟩,fun hq=> ?_⟩
    .simp only [Z1n];omega
    .simp only [ZdY];omega
    .rw [J3] at hn
     apply hn
     rw [ka,ka]
     exact ZjR h hc.2 _
    .unfold InR;omega
    .refine ⟨q+1,rfl,⟨V1,V1,fun j u=> ?_⟩,V1⟩
     by_cases hj':j < q.toNat
     .exact h7 j hj'
     .have:j=q.toNat:=V1
      rw [this,<-ka,<-ka]
      exact Z08.1 he
    .have s:∀ j:Nat,Z5 (a.kids.getD j Tree.nil)=Z5 (b.kids.getD j Tree.nil):=fun j=> by
      grind
     have e:ZW (Z5 a) (Z5 b)=true:=by
      rw [Z08,Jg]
      refine ⟨hc.1,.inr ⟨?_,s⟩⟩
      split
      .exact hw
      .grind
     simp only [Z5W,e]
     trivial
theorem Zc{n k:Nat}{rs:List ResultVar}{b b':Bool}(hr:rs=[ResultVar.tmp k])(h:b=b'):ZK cfg n rs (.c (.bool b')) [] .ret (⟨[(k,.c (.bool b))],[],[]⟩:LSt U):=by
 subst hr h
 have s:Nat.beq k k=true:=Nat.beq_refl k
 simp [ZK,ZAd,Zez,Zey,Z5T,Z8b,LSt.toF,Zdd,s,Zc1,Z2U,Yn,Jm,leR,leL,leC,Zoz]
theorem Z4n{n k:Nat}{rs:List ResultVar}{K:IntKind}{b b':Int}(hr:rs=[ResultVar.tmp k])(h:b=b'):ZK cfg n rs (.c (.int K b')) [] .ret (⟨[(k,.c (.int K b))],[],[]⟩:LSt U):=by
 subst hr h
 have s:Nat.beq k k=true:=Nat.beq_refl k
 simp [ZK,ZAd,Zez,Zey,Z5T,Z8b,LSt.toF,Zdd,s,Zc1,Z2U,Yn,Jm,leR,leL,leC,Zoz]
theorem ZwO(c:Int): -1<=wd c/\wd c<=64:=by
 unfold wd
 omega
theorem Zzi:Contract Tryz.prog cfg 232 Z6C:=by
 refine Zui ?_
 intro c _ _
 refine ZAS _ _ ?_;(try simp only [iB,vcT,forall_eq])
 (simp only [iB,vcS]);(try simp only [iB,vcT])
 have b:=ZwO c
 refine ⟨fun h=> ?_,fun h=> ⟨V1,?_⟩⟩
 .have e:wd c= -1:=by unfold wd;omega
  simp only [Zj0,e]
  exact ⟨⟨rfl,⟨⟨rfl,rfl⟩,trivial⟩,rfl,⟨rfl,trivial⟩,trivial⟩,trivial⟩
 .have hc:c=0\/c=1\/c=2\/c=3\/c=4\/c=5:=V1
  rcases hc with rfl | rfl | rfl | rfl | rfl | rfl <;> exact ⟨⟨rfl,⟨⟨rfl,rfl⟩,trivial⟩,rfl,⟨rfl,trivial⟩,trivial⟩,trivial⟩
theorem Zsk(n:Int)(w:Nat)(h:0<=n):(Int.fdiv n (2 ^ w)=0)↔n < 2 ^ w:=by
 have s:(0:Int) < 2 ^ w:=Int.pow_pos V1
 rw [Int.fdiv_eq_ediv_of_nonneg _ V1]
 constructor
 .intro b
  have:=Int.lt_ediv_add_one_mul_self n s
  grind
 .intro b
  exact Int.ediv_eq_zero_of_lt h b
theorem Zzo:Contract Tryz.prog cfg 221 Z6I:=by
 refine Zuq Zzi ?_
 intro c n _ s
 simp only [Zfz] at s
 have hw:=ZwO c
 refine ZB0 _ _ _ ?_;(try simp only [iB,vcT,forall_eq])
 refine ⟨trivial,fun h=> by omega,fun a b=> by grind,Zc rfl ?_⟩
 simp only [Zvn]
 by_cases h0:0<=wd c
 .rw [Y7]
  simp only [h0,decide_true,cond_true,true_and]
  by_cases h64:wd c=64
  .grind
  .have:((wd c)==64)=false:=by simpa using h64
   rw [this,cond_false,QC]
   have u:min (wd c).toNat (IntKind.bits .u64)=(wd c).toNat:=by
    show min (wd c).toNat 64=_
    omega
   rw [u]
   simp only [beq_iff_eq,decide_eq_true_eq]
   exact Zsk n _ s.1
 .simp [h0]
theorem Zoo:Contract Tryz.prog cfg 125 Z0m:=by
 refine Zv3 ?_
 intro c _ _
 refine ZBG _ _ ?_;(try simp only [iB,vcT,forall_eq])
 refine Zc rfl ?_
 rw [QC]
 (simp only [iB,vcS])
theorem Zoi:Contract Tryz.prog cfg 220 Z1I:=by
 refine Zur ?_
 intro c _ _
 refine ZB1 _ _ ?_;(try simp only [iB,vcT,forall_eq])
 refine Zc rfl ?_
 rw [QC]
 (simp only [iB,vcS])
theorem Zpn{t:Tree}(h:rng t){i:Nat}(hi:i < t.words.length):0<=t.words.getD i 0/\t.words.getD i 0 < 18446744073709551616:=by
 obtain ⟨k,w,ks⟩:=t
 simp only [rng] at h
 simp_all
theorem ZzC:Contract Tryz.prog cfg 181 Z6S:=by
 refine ZuI Zoi Zzo ?_
 intro l t _ s
 simp only [ZfM] at s
 refine ZBi _ _ _ ?_;(try simp only [iB,vcT,forall_eq])
 (simp only [iB,vcS]);(try simp only [iB,vcT])
 refine ⟨trivial,fun b=> ⟨fun _=> by unfold InR;omega,fun h=> by omega,fun h=> Zpn s V1,Zc rfl ?_⟩,fun b=> ⟨fun h=> Zc rfl ?_,fun h=> Zc rfl ?_⟩⟩
 .simp only [Z9P,if_pos b,Int.toNat_zero]
  grind
 .simp only [Z9P,if_neg b,if_pos h]
  grind
 .simp only [Z9P,if_neg b,if_neg h]
  grind
theorem Zhf{l:Int}{ks:List Tree}{i:Int}{d:Int}(h0:0<=i)(h:i < ks.length):
  Yy l (ks.drop i.toNat) d=((Z9P l (ks.getD i.toNat Tree.nil) && Zi (ks.getD i.toNat Tree.nil) d) && Yy l (ks.drop (i+1).toNat) d):=by
 have e:(i+1).toNat=i.toNat+1:=V1
 rw [Qx V1,e]
 simp only [Yy,List.getD,Q0 (show i.toNat < ks.length by omega),Xz]
theorem Zhc:∀ {ks:List Tree} {i:Nat},ZR ks->i < ks.length->rng (ks.getD i Tree.nil)
 | t ::_,0,h,_=> by simp only [ZR] at h;exact h.1
 | _ ::r,i+1,h,hi=> by simp only [ZR] at h;exact Zhc (ks:=r) (i:=i) h.2 (by simpa using hi)
theorem Zi6(t:Tree):Z9P 1 t=decide (t.kind≠10):=by simp [Z9P]
theorem ZzQ:Contract Tryz.prog cfg 130 Z6V:=by
 refine Zv2 Zoo ZzC ?_
 rintro N ⟨k,ws,ks⟩ d _ hp hN
 simp only [Z3X,Z9k,Zk,rng] at hp hN
 have ai:∀ b,d≠0->Zi (.mk k ws ks) d=(b && Yy k ks (d - 1))->b=true->
   Zp (awp cfg (Z1 (Z36 N)) (YF cfg (Z1 (Z36 N))) Tryz.f130.ntmps Ze6 (cd Tryz.f130 [1,1,0,1,0,0])) (Z2A (.mk k ws ks) d 0) (AExit.inBlock 1 (ZC7 cfg (Z1 (Z36 N)) (YF cfg (Z1 (Z36 N))) Tryz.f130.ntmps Ze6 (cd Tryz.f130 [1,1,1]) (ZK cfg Tryz.f130.ntmps Tryz.f130.results.toList (Zfi (.mk k ws ks,d,())) []))):=by
  intro b ax hb al
  subst al
  rw [QS] at hb
  refine Zf (ι:=Int) (fun p=> Z2A (.mk k ws ks) d p) (fun p=> 0<=p/\p<=ks.length/\Zi (.mk k ws ks) d=Yy k (ks.drop p.toNat) (d - 1)) (fun p=> ((ks.length:Int) - p).toNat) 0 rfl ⟨V1,V1,by simpa using hb⟩ ?_
  rintro i ⟨h1,h2,h3⟩
  refine ZoW N _ _ _ _ _ ?_;(try simp only [iB,vcT,forall_eq])
  (simp only [iB,vcS]);(try simp only [iB,vcT])
  try (simp only [vE])
  refine ⟨fun hi=> ⟨⟨V1,hi⟩,?_⟩,fun hi=> ?_⟩
  .have u:=Zhf (l:=k) (d:=d - 1) h1 hi
   have hm:=Z0c (ks:=ks) (i:=i.toNat) V1
   have hr:=Zhc (i:=i.toNat) hp.2.1.2.2 V1
   rw [u] at h3
   have aq:=Zt ks
   generalize ks.getD i.toNat Tree.nil=y at*
   have ab:Z3X (y,d - 1,()):=⟨V3,hr,V3,V3⟩
   have ah:Z9k (y,d - 1,()) < N:=by simp only [Z9k];omega
   have aj:InR (d - 1):=V4
   refine ⟨fun hk=> ⟨hr,fun _=> aj,fun _=> ab,fun _=> ah,fun hc=> Zc rfl ?_,fun hc=> ⟨V4,i+1,rfl,⟨V1,V1,?_⟩,V1⟩⟩,fun hk=> ⟨fun _=> aj,fun _=> ab,fun _=> ah,fun hc=> Zc rfl ?_,fun hc=> ⟨V4,i+1,rfl,⟨V1,V1,?_⟩,V1⟩⟩⟩
   .grind
   .grind
   .subst hk
    rw [h3,Zi6]
    grind
   .subst hk
    rw [h3,Zi6,hc.2]
    simp [hc.1]
  .rw [Qr V1] at h3
   simp only [Yy] at h3
   exact Zc rfl h3.symm
 refine ZBE N _ _ _ ?_;(try simp only [iB,vcT,forall_eq])
 (simp only [iB,vcS]);(try simp only [iB,vcT])
 try (simp only [vE])
 have ay:∀ s:k=0,Zi (.mk k ws ks) d=decide (ws.length=0/\ks.length=0):=fun s=> by simp only [Zi,if_pos s]
 have av:∀ (_:¬k=0) (h:k=10),Zi (.mk k ws ks) d=decide (ws.length=1/\ks.length=0):=fun s h=> by simp only [Zi,if_neg s,if_pos h]
 refine ⟨fun s=> Zc rfl ?_,fun s=> ⟨fun h=> Zc rfl ?_,fun h=> ⟨fun u=> Zc rfl ?_,fun u=> ⟨fun h1=> ⟨fun hc=> Zc rfl ?_,fun hc=> ai true u ?_ rfl⟩,fun h1=> ⟨trivial,fun hc=> Zc rfl ?_,fun hc=> ai true u ?_ rfl⟩⟩⟩⟩⟩
 .grind
 .grind
 .simp only [Zi,if_neg s,if_neg h,if_pos u]
 .simp only [Zi,if_neg s,if_neg h,if_neg u,if_pos h1]
  grind
 .simp only [Zi,if_neg s,if_neg h,if_neg u,if_pos h1]
  grind
 .simp only [Zi,if_neg s,if_neg h,if_neg u,if_neg h1]
  grind
 .simp only [Zi,if_neg s,if_neg h,if_neg u,if_neg h1]
  grind
theorem c82:Contract Tryz.prog cfg 82 JO:=by
 refine Zyy ZzQ ?_
 intro t _ b
 refine ZDd _ _ ?_;(try simp only [iB,vcT,forall_eq])
 try (simp only [vE])
 exact ⟨⟨b.1,b.2,by grind,by grind⟩,Zc rfl rfl⟩
end Go.AM.YtpjenobkibfpcaaGreat
