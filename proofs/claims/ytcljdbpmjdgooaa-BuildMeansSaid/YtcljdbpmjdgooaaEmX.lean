import Derived.Test.YtcljdbpmjdgooaaEBD07
import Derived.Carry
import Derived.SizedLaws
import Derived.ChangeSame
set_option linter.unusedSimpArgs false
set_option linter.unusedVariables false
namespace Go.AM
open Go.ChangeShapes Go.WideShapes Go.RowKit
def inT(t:Tree):Prop:=small t/\rng t
theorem Zrm{ks:List Tree}(h:∀ t∈ks,inT t):Z5K ks/\Z1Y ks:=by
 induction ks with
 | nil=> trivial
 | cons t r ih=>
  have h1:=h t (Q9 ..)
  have h2:=ih fun x hx=> h x (Q7 _ hx)
  exact ⟨⟨h1.1,h2.1⟩,h1.2,h2.2⟩
section
variable {U:Uni} {P:Program} {cfg:Cfg U} {w:World} {H:Type} {henc:TypeId × Value->H}
def RelS(cfg:Cfg U)(m:Addr->Option Value)(vs:List Value)(cs:List (C U)):Prop:=
 vs.length=cs.length/\∀ (j:Nat) v c,vs[j]?=some v->cs[j]?=some c->SimC cfg m v c
theorem RelS.one{m:Addr->Option Value}{v:Value}{c:C U}(h:SimC cfg m v c):RelS cfg m [v] [c]:=by
 refine ⟨rfl,fun j u d hu hd=> ?_⟩
 grind
theorem RelS.glue{m:Addr->Option Value}{vs:List Value}{a n:Nat}{c1 rest:List (C U)}(h1:RelS cfg m ((vs.drop a).take n) c1)(hn:c1.length=n)(hv:a+n<=vs.length)(h2:RelS cfg m (vs.drop (a+n)) rest):
  RelS cfg m (vs.drop a) (c1++rest):=by
 have e:vs.drop a=(vs.drop a).take n++vs.drop (a+n):=by
  rw [show vs.drop (a+n)=(vs.drop a).drop n by simp_all]
  exact (List.take_append_drop n _).symm
 rw [e]
 have hl:((vs.drop a).take n).length=c1.length:=h1.1
 refine ⟨by simp only [Qb,hl,h2.1],fun j v c hv hc=> ?_⟩
 rw [Qm] at hv hc
 rw [hl] at hv
 split at hv
 .rename_i hj
  rw [if_pos hj] at hc
  exact h1.2 j v c hv hc
 .rename_i hj
  rw [if_neg hj] at hc
  exact h2.2 _ v c hv hc
theorem RelS.done{m:Addr->Option Value}{vs:List Value}{n:Nat}(h:vs.length=n):RelS cfg m (vs.drop n) ([]:List (C U)):=by
 rw [List.drop_of_length_le (by omega)]
 exact ⟨rfl,fun j v c hv=> by simp at hv⟩
def Rdd(henc:TypeId × Value->H)(P:Program)(w:World)(n:Nat)(t:TypeId)(cs:List Value):Prop:=
 ∃ x,DataW.trod henc P w 0 (fun _=> true) true n t cs=some x/\(x.1.weights P t).all (·<=reachBytes)=true
theorem Z75(ok:CfgOk P cfg){t:TypeId}{ag:Bool}{zs:List (C U)}(h:cfg.var t=some (ag,zs)):P.cellsOf t=zs.length:=by
 obtain ⟨_,i,z,d,h1,h2,h3,_⟩:=ok.var _ _ _ h
 simp [Program.cellsOf,h1,h3]
theorem Zdm(ok:CfgOk P cfg){t:TypeId}{k:IntKind}{n0:Int}{n:Nat}{cs:List Value}(hv:cfg.var t=some (false,[.int k n0]))(h:Rdd henc P w n t cs):
  ∃ z,RelS cfg w.cell? cs [.int k z]/\k.min<=z/\z<=k.max:=by
 obtain ⟨x,hx,_⟩:=h
 obtain ⟨_,i,z,d,h1,h2,h3,h4,h5,h6,h7,_⟩:=ok.var _ _ _ hv
 have hd:=h7 rfl k n0 rfl
 subst hd
 obtain ⟨q,rfl,_,hw⟩:=DataW.trod_int h2 hx
 simp only [Lit.wf,Q3,decide_eq_true_eq] at hw
 exact ⟨q,.one (.int k q),hw.1,hw.2⟩
theorem Zdn(ok:CfgOk P cfg){t ft:TypeId}{i off:Nat}{ag:Bool}{zs:List (C U)}{n:Nat}{cs:List Value}(hf:cfg.fld t i=some (off,ft))(hv:cfg.var ft=some (ag,zs))(h:Rdd henc P w n t cs):
  ∃ m,n=m+1/\cs.length=P.cellsOf t/\Rdd henc P w m ft ((cs.drop off).take zs.length):=by
 obtain ⟨x,hx,hw⟩:=h
 obtain ⟨fs,fd,h1,h2,h3,h4⟩:=ok.fld _ _ _ _ hf
 obtain ⟨xs,m,rfl,rfl,hl,hxl,hxs⟩:=DataW.trod_struct h1 hx
 have hg:=hxs i fd h2
 rw [h3,h4,Z75 ok hv] at hg
 have hi:i < xs.length:=by have:=(QI.1 h2).1;omega
 have hy:=Q0 hi
 refine ⟨m,rfl,hl,xs[i],by rw [hg,hy],?_⟩
 rw [Qg] at hw ⊢
 intro q hq
 refine hw q ?_
 simp only [DataW.weights,h1]
 exact DataW.weights_mem_each (j:=i) (t:=ft) (d:=xs[i].1) (by grind) (by grind) q hq
theorem Z6V{α:Type}(p:Nat->α->Prop):∀ (n:Nat),(∀ i,i < n->∃ x,p i x)->∃ l:List α,l.length=n/\∀ i x,l[i]?=some x->p i x
 | 0,_=> ⟨[],rfl,fun i x h=> by simp at h⟩
 | n+1,h=> by
  obtain ⟨l,h1,h2⟩:=Z6V p n fun i hi=> h i (by omega)
  obtain ⟨x,hx⟩:=h n (by omega)
  refine ⟨l++[x],by simp [h1],fun i y hy=> ?_⟩
  grind
theorem Z6o{e:TypeId}:∀ {l:List (DataW H)} {i:Nat} {d:DataW H},l[i]?=some d->∀ q∈d.weights P e,q∈DataW.weightsAll P e l
 | d0 ::l,0,d,h,q,hq=> by
  simp at h
  subst h
  simp only [DataW.weightsAll,QA]
  exact .inl hq
 | d0 ::l,i+1,d,h,q,hq=> by
  simp only [DataW.weightsAll,QA]
  exact .inr (Z6o (l:=l) (i:=i) (by simpa using h) q hq)
theorem Zn9 (ok:CfgOk P cfg) {t:TypeId} {S:U.Ty} {n:Nat} {cs:List Value} {good:U.El S->Prop} (hs:cfg.slT t=some S)
  (ih:∀ m,m < n->∀ cs,Rdd henc P w m (cfg.elT S) cs->∃ e,RelS cfg w.cell? cs (cfg.enc S e)/\good e) (h:Rdd henc P w n t cs):
  ∃ l:List (U.El S),RelS cfg w.cell? cs [.slice S l .unk]/\l.length*cfg.bytes S<=reachBytes/\∀ e∈l,good e:=by
 obtain ⟨x,hx,hw⟩:=h
 have hu:=ok.sl _ _ hs
 obtain ⟨i0,ag,zs,z,h1,h2,h3,h4,h5,h6⟩:=ok.el S
 have hc:P.cellsOf (cfg.elT S)=cfg.sz S:=by simp [Program.cellsOf,h1,h2]
 have hb:P.bytesOf (cfg.elT S)=cfg.bytes S:=by simp [Program.bytesOf,h1,h3]
 rcases DataW.trod_slice hu hx with ⟨rfl,_⟩ | ⟨a,len,cap,elems,rest,m,rfl,rfl,rfl,_,hlc,_,hel,hels,_⟩
 .exact ⟨[],.one (.snil S .unk),by simp,fun e he=> by cases he⟩
 .simp only [DataW.weights,hu,QG,hb] at hw
  rw [List.all_cons,Q3,decide_eq_true_eq,Qg] at hw
  obtain ⟨hw1,hw2⟩:=hw
  obtain ⟨l,hl,hlp⟩:=Z6V (fun i (e:U.El S)=> (∀ j c,(cfg.enc S e)[j]?=some c->∃ v,w.cell? (a.add (i*cfg.sz S+j))=some v/\SimC cfg w.cell? v c)/\good e) len (by
   intro i hi
   have hg:=hels i hi
   have hy:=Q0 (l:=elems) (i:=i) (by omega)
   rw [hy] at hg
   obtain ⟨ci,hc1,hc2⟩:=Option.bind_eq_some_iff.1 hg
   obtain ⟨_,hc3,hc4⟩:=World.cells?_some hc1
   obtain ⟨e,he1,he2⟩:=ih m (by omega) ci ⟨elems[i],hc2,by
    rw [Qg]
    intro q hq
    refine hw2 q ?_
    rw [QA]
    exact .inl (Z6o (i:=i) (d:=elems[i].1) (by grind) q hq)⟩
   refine ⟨e,fun j c hj=> ?_,he2⟩
   have hlen:=he1.1
   have hjl:j < ci.length:=by have:=(Q1.1 hj).1;omega
   have hcj:=Q0 hjl
   refine ⟨ci[j],?_,he1.2 j _ c hcj hj⟩
   rw [<-hcj,<-hc4 j (by omega),hc,Go.Deep.add_add])
  refine ⟨l,.one (.of_rows .unk hl hlc fun i x hx j c hj=> (hlp i x hx).1 j c hj),?_,fun e he=> ?_⟩
  .grind
  .obtain ⟨i,hi,rfl⟩:=QZ he
   exact (hlp i _ (Q0 hi)).2
end
section
variable {P:Program} {cfg:Cfg U} {w:World} {H:Type} {henc:TypeId × Value->H}
structure TreeTypes (cfg:Cfg U):Prop where
 enc:cfg.enc=AM.enc
 bytes:cfg.bytes=K.bytes
 int:∃ n,cfg.var (cfg.elT .int)=some (false,[.int .i64 n])
 u64:∃ n,cfg.var (cfg.elT .u64)=some (false,[.int .u64 n])
 var:∃ zs,cfg.var (cfg.elT .tree)=some (true,zs)/\zs.length=3
 f0:∃ t n,cfg.fld (cfg.elT .tree) 0=some (0,t)/\cfg.var t=some (false,[.int .i64 n])
 f1:∃ t c,cfg.fld (cfg.elT .tree) 1=some (1,t)/\cfg.var t=some (false,[c])/\cfg.slT t=some .u64
 f2:∃ t c,cfg.fld (cfg.elT .tree) 2=some (2,t)/\cfg.var t=some (false,[c])/\cfg.slT t=some .tree
theorem Za0{n b:Nat}(h:n*b<=reachBytes)(hb:8<=b):n<=17592186044416:=by
 have h1:n*8<=n*b:=Nat.mul_le_mul_left _ hb
 have h2:reachBytes < 2 ^ 47:=reachBytes_lt
 omega
theorem ZnC(ok:CfgOk P cfg)(T:TreeTypes cfg){n:Nat}{cs:List Value}(h:Rdd henc P w n (cfg.elT .u64) cs):
  ∃ e:Int,RelS cfg w.cell? cs (cfg.enc .u64 e)/\(0<=e/\e < 18446744073709551616):=by
 obtain ⟨n0,hv⟩:=T.u64
 obtain ⟨z,h1,h2,h3⟩:=Zdm ok hv h
 refine ⟨z,by rw [T.enc];exact h1,h2,?_⟩
 have:z<=18446744073709551615:=h3
 omega
theorem Zlj(ok:CfgOk P cfg)(T:TreeTypes cfg):∀ (n:Nat) (cs:List Value),Rdd henc P w n (cfg.elT .tree) cs->∃ e:Tree,RelS cfg w.cell? cs (cfg.enc .tree e)/\inT e:=by
 intro n
 induction n using Nat.strongRecOn with
 | ind n IH=>
  intro cs h
  obtain ⟨zs,hz,hzl⟩:=T.var
  obtain ⟨t0,n0,f0,v0⟩:=T.f0
  obtain ⟨t1,c1,f1,v1,s1⟩:=T.f1
  obtain ⟨t2,c2,f2,v2,s2⟩:=T.f2
  obtain ⟨m,rfl,hl,r0⟩:=Zdn ok f0 v0 h
  obtain ⟨m',e',_,r1⟩:=Zdn ok f1 v1 h
  cases e'
  obtain ⟨m',e',_,r2⟩:=Zdn ok f2 v2 h
  cases e'
  have hl3:cs.length=3:=by rw [hl,Z75 ok hz,hzl]
  obtain ⟨k,a1,a2,a3⟩:=Zdm ok v0 r0
  obtain ⟨ws,b1,b2,b3⟩:=Zn9 ok s1 (fun m _ cs h=> ZnC ok T h) r1
  obtain ⟨ks,d1,d2,d3⟩:=Zn9 ok s2 (fun m' hm cs h=> IH m' (by omega) cs h) r2
  rw [T.bytes] at b2 d2
  have g:=a1.glue rfl (by simp;omega) (b1.glue rfl (by simp;omega) (d1.glue rfl (by simp;omega) (RelS.done (n:=3) hl3)))
  refine ⟨.mk k ws ks,by rw [T.enc];exact g,?_⟩
  have hk:=Zrm d3
  exact ⟨⟨Za0 b2 (by decide),Za0 d2 (by decide),hk.1⟩,⟨a2,a3⟩,b3,hk.2⟩
end
section
variable {P:Program} {cfg:Cfg U} {H:Type} {henc:TypeId × Value->H}
def ZkE{α:Type}(henc:TypeId × Value->H)(P:Program)(cfg:Cfg U)(A:Arg α)(t:TypeId)(good:α->Prop):Prop:=
 (∀ a,A.get (A.can a)=some a)/\∀ (w:World) (base:Nat) v n,Value.okWide P w .any base t v->Rdd henc P w n t v.cells.toList->
  ∃ a,good a/\∀ (g:Gh) (live:Name->Bool),g.m=w.cell?->RelV cfg g Zv live v (A.can a)
def ZfW{α:Type}(henc:TypeId × Value->H)(P:Program)(cfg:Cfg U)(A:ArgL α)(ts:List TypeId)(good:α->Prop):Prop:=
 (∀ a,A.get (A.can a)=some a)/\∀ (w:World) (base:Nat) (vs:List Value) ds ps,(∀ (j:Nat) t v,ts[j]?=some t->vs[j]?=some v->Value.okWide P w .any base t v)->
  DataW.TrodAll henc P w 0 (fun _=> true) true ts vs ds ps->(DataW.weightsEach P ts ds).all (·<=reachBytes)=true->
  ∃ a,good a/\vs.length=(A.can a).length/\∀ (g:Gh) (live:Name->Bool),g.m=w.cell?->∀ (j:Nat) v x,vs[j]?=some v->(A.can a)[j]?=some x->RelV cfg g Zv live v x
theorem Zh0:ZfW henc P cfg ArgL.nil [] (fun _=> True):=by
 refine ⟨fun _=> rfl,fun w base vs ds ps _ h _=> ?_⟩
 obtain ⟨rfl,_,_⟩:=trodAll_nil h
 exact ⟨(),trivial,rfl,fun _ _ _ j v x hv=> by simp at hv⟩
theorem Z9f{α β:Type}{A:Arg α}{B:ArgL β}{t:TypeId}{ts:List TypeId}{good:α->Prop}{goods:β->Prop}(hA:ZkE henc P cfg A t good)(hB:ZfW henc P cfg B ts goods):
  ZfW henc P cfg (ArgL.cons A B) (t ::ts) (fun p=> good p.1/\goods p.2):=by
 refine ⟨fun a=> ?_,fun w base vs ds ps hok h hw=> ?_⟩
 .simp only [ArgL.cons,hA.1,hB.1]
 .obtain ⟨v,vs',d,ds',p,q,rfl,rfl,rfl,h1,h2⟩:=trodAll_cons h
  obtain ⟨n,h1⟩:=h1
  simp only [DataW.weightsEach,List.all_append,Q3] at hw
  obtain ⟨a,ga,ra⟩:=hA.2 w base v n (hok 0 t v rfl rfl) ⟨(d,p),h1,hw.1⟩
  obtain ⟨b,gb,lb,rb⟩:=hB.2 w base vs' ds' q (fun j t v ht hv=> hok (j+1) t v (by simpa using ht) (by simpa using hv)) h2 hw.2
  refine ⟨(a,b),⟨ga,gb⟩,by simp [ArgL.cons,lb],fun g live hg j u x hu hx=> ?_⟩
  cases j with
  | zero=> simp [ArgL.cons] at hu hx;grind
  | succ j=> simp [ArgL.cons] at hu hx;grind
theorem RelS.relL{g:Gh}{w:World}{vs:List Value}{cs:List (C U)}(h:RelS cfg w.cell? vs cs)(hg:g.m=w.cell?)(hp:∀ c∈cs,c.plain=true):RelL cfg g Zv vs cs:=by
 refine ⟨h.1,fun j v c hv hc=> ⟨by rw [hg];exact h.2 j v c hv hc,?_⟩⟩
 have hpl:=hp c (QC hc)
 cases c with
 | slice S l' tl'=> cases tl' <;> first | trivial | (simp [C.plain] at hpl)
 | _=> trivial
theorem Zkp(ok:CfgOk P cfg){t:TypeId}{k:IntKind}{n0:Int}(hv:cfg.var t=some (false,[.int k n0])):ZkE henc P cfg (ZQ k) t (fun z=> k.min<=z/\z<=k.max):=by
 refine ⟨fun a=> by simp [ZQ],fun w base v n hok h=> ?_⟩
 obtain ⟨_,i,z,d,h1,h2,h3,h4,h5,h6,h7,_⟩:=ok.var _ _ _ hv
 have hd:=h7 rfl k n0 rfl
 subst hd
 obtain ⟨q,rfl⟩:=okWide_int h2 hok
 obtain ⟨z,hz,hr⟩:=Zdm ok hv h
 refine ⟨z,hr,fun g live hg=> ?_⟩
 have:=hz.relL hg (by intro c hc;simp at hc;subst hc;rfl)
 exact this.2 0 _ _ (by rfl) rfl
theorem Zmf(ok:CfgOk P cfg)(henc':cfg.enc=AM.enc){T:Ty}{good:El T->Prop}(hst:∃ off ft,cfg.fld (cfg.elT T) 0=some (off,ft))(hr:∀ w n cs,Rdd henc P w n (cfg.elT T) cs->∃ e:El T,RelS cfg w.cell? cs (cfg.enc T e)/\good e):
  ZkE henc P cfg (aEl T) (cfg.elT T) good:=by
 refine ⟨fun a=> Zma T a,fun w base v n hok h=> ?_⟩
 obtain ⟨off,ft,hst⟩:=hst
 obtain ⟨fs,fd,h1,_⟩:=ok.fld _ _ _ _ hst
 obtain ⟨vs,rfl,_⟩:=okWide_struct h1 hok
 obtain ⟨e,he,hg⟩:=hr w n _ h
 refine ⟨e,hg,fun g live hgm=> ⟨vs,rfl,?_⟩⟩
 rw [henc'] at he
 exact he.relL hgm (fun c hc=> by have:=ok.enc_plain T e c (by simp_all);exact this)
theorem ZgH {α:Type} {A:ArgL α} {ts:List TypeId} {good:α->Prop} {pre:α->Prop} {f:FuncId} (hA:ZfW henc P cfg A ts good) (hgood:∀ a,good a->pre a)
  (hc:Contract P cfg f (fs A (fun a=> [pre a]) (fun _=> .c (.bool true)))) (w:World) (base:Nat) (args:Array Value) (ds:List (DataW H)) (ps:List MemPlace)
  (hok:∀ (j:Nat) t v,ts[j]?=some t->args.toList[j]?=some v->Value.okWide P w .any base t v)
  (ht:DataW.TrodAll henc P w 0 (fun _=> true) true ts args.toList ds ps) (hw:(DataW.weightsEach P ts ds).all (·<=reachBytes)=true):
  Calls P f args w fun e w'=> e= .returned (.bool true)/\Below w.heap.size w w':=by
 obtain ⟨a,ga,hl,hr⟩:=hA.2 w base args.toList ds ps hok ht hw
 let g:Gh:=⟨w.cell?,fun _=> none,fun _=> ⟨0,0,none⟩,fun _=> none⟩
 have hs:(fs A (fun a=> [pre a]) (fun _=> .c (.bool true))).fn (A.can a) []=some ([pre a],.c (.bool true),[]):=by
  simp only [fs,hA.1]
 have hent:Entry cfg w g args.toList (A.can a) [] []:=by
  refine ⟨⟨fun b v hv=> ⟨hv,rfl⟩,fun b t ht=> by cases ht⟩,fun b t ht=> (by cases ht),hl,fun j v x hv hx=> hr g _ rfl j v x hv hx,fun k cs hk=> (by simp at hk),fun _ _=> rfl,fun t x hx=> (by cases hx),fun _ _ _=> rfl⟩
 have:=hc.one rfl (A.can a) [] _ _ [] hs ⟨hgood a ga,trivial⟩ (XI _) w g args.toList hent
 refine Calls.mono (by simpa using this) ?_
 rintro e w' ⟨v,rfl,g',L⟩
 have hv:SimC cfg g'.m v (.bool true):=L.val.1
 cases hv
 refine ⟨rfl,L.fr.stay.os,L.fr.stay.tape,L.fr.stay.output,L.fr.stay.size,fun k hk=> ?_⟩
 exact (L.fr.clean k hk fun o s t ht=> by cases ht).1
theorem ZiR {f:Func} {s:ChangeSpec} {apart fresh handsOn again:Bool} {W W':World} {args:Array Value} {ds gs:List (DataW H)} {before:List MemPlace} {tb:TypeId}
  (hl:laidOutB P=true) (hread:(f.params.toList.all fun t=> P.readableRec t && decide (t < P.types.size))=true) (hres:f.resultTypes=#[tb]) (hbool:P.underlying tb=some .bool) (hvars:s.vars=[])
  (hfn:s.fn H (ds++gs)={ results:=[.lit (.bool true)],args:=ds,vars:=[] })
  (hW:DataW.Whole henc P f.params.toList s.vars apart W args.toList ds gs before)
  (hb:Below W.heap.size W W'):s.post henc P f apart fresh handsOn again W args (.bool true) W':=by
 have hW0:=hW
 obtain ⟨p,q,h1,h2,e,_⟩:=hW0
 have hq:q=[]:=by
  rw [hvars] at h2
  exact (trodVars_none h2).2
 subst hq
 have hlt:=hW.lt
 have key:∀ {ts:List TypeId} {vs:List Value} {ds:List (DataW H)} {ps:List MemPlace} {sp:Nat->Bool},(∀ t∈ts,P.readableRec t=true/\t < P.types.size)->(∀ x∈ps,x.block < W.heap.size)->(∀ x∈ps,sp x.block=true)->
   DataW.TrodAll henc P W 0 (fun _=> true) true ts vs ds ps->DataW.TrodAll henc P W' 0 sp true ts vs ds ps:=by
  intro ts
  induction ts with
  | nil=>
   intro vs ds ps sp _ _ _ h
   obtain ⟨rfl,rfl,rfl⟩:=trodAll_nil h
   exact rfl
  | cons t ts ih=>
   intro vs ds ps sp hr hx hs h
   obtain ⟨v,vs',d,ds',p,q,rfl,rfl,rfl,h3,h4⟩:=trodAll_cons h
   have hr0:=hr t (Q9 ..)
   exact ⟨p,q,WideElems.Trod_stays hl hr0.1 hr0.2 h3 (fun x hxp=> hb.same (hx x (QD _ hxp))) (fun x hxp=> hs x (QD _ hxp)),
    ih (fun t ht=> hr t (Q7 _ ht)) (fun x hxp=> hx x (X9 _ hxp)) (fun x hxp=> hs x (X9 _ hxp)) h4,rfl⟩
 have hread':∀ t∈f.params.toList,P.readableRec t=true/\t < P.types.size:=by
  intro t ht
  have:=Qg.1 hread t ht
  simpa using this
 rw [XZ] at e
 replace e:=e.symm
 subst e
 have hres':∀ (b:Nat) (sp:Nat->Bool) (hd:Bool),DataW.TrodAll henc P W' b sp hd f.resultTypes.toList ((Value.bool true).resultList f.resultTypes.size) [.lit (.bool true)] []:=by
  intro b sp hd
  rw [hres]
  exact trodAll_mk1 ⟨1,by simp [DataW.trod,hbool,Value.cells]⟩
 have hok':∀ (j:Nat) (t:TypeId) (r:Value),f.resultTypes[j]?=some t->((Value.bool true).resultList f.resultTypes.size)[j]?=some r->Value.okWide P W' .any 0 t r:=by
  intro j t r h3 h4
  rw [hres] at h3 h4
  cases j with
  | zero=>
   simp at h3
   subst h3
   simp [Value.resultList] at h4
   subst h4
   simp [Value.okWide,hbool,Cell.okWide,Cell.ok]
  | succ j=> simp at h3
 have hold:∀ x∈p,(fun b=> decide (b < W.heap.size)) x.block=true:=fun x hx=> by grind
 have hv':∀ sp:Nat->Bool,DataW.TrodVars henc P W' sp s.vars [] []:=fun sp=> by rw [hvars];try rfl
 refine ⟨ds,gs,p,[],p,[],hW,?_,?_,?_,hb.frame _,fun _=> ⟨hok',[.lit (.bool true)]++ds,[],[]++p,?_,fun x hx _=> by simpa using hx⟩⟩
 .grind
 .grind
 .grind
 .obtain ⟨_,_,_,_,_,hz,hn⟩:=hW
  refine ⟨[]++p,[],trodAll_append (key hread' hlt (fun _ _=> rfl) h1) (hres' 0 (fun _=> true) true),hv' _,by simp,?_,by simpa using hn⟩
  intro b off hx
  have hx':MemPlace.cell b off∈p:=by simpa using hx
  rw [hb.frozen (by exact hlt _ hx')]
  exact hz b off (by omega)
end
end Go.AM
